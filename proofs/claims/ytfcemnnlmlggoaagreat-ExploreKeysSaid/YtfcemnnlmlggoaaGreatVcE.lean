/- The conditions of Go code: a library of this claim. -/
import Derived.Test.YtfcemnnlmlggoaaGreatVcD
import Derived.Scope
namespace Go.Vc

/-! ## Which slots are written -/
def Code.writes : Code → List Nat
  | .region _ ops _ => ops.toList.filterMap (·.dst)
  | .seq a b => Code.writes a ++ Code.writes b
  | .cond _ a b => Code.writes a ++ Code.writes b
  | .block _ c => Code.writes c
  | .loop c => Code.writes c
  | .scope c => Code.writes c
  | _ => []

structure Fr (wr : List Nat) (a a' : Act) : Prop where
  size : a'.tmps.size = a.tmps.size
  defers : a'.defers = a.defers
  same : ∀ i, i ∉ wr → a'.tmps[i]? = a.tmps[i]?

theorem Fr.refl (wr : List Nat) (a : Act) : Fr wr a a := ⟨rfl, rfl, fun _ _ => rfl⟩

theorem Fr.put {wr : List Nat} {a a' : Act} (h : Fr wr a a') {dst : Option Nat} (hd : ∀ d, dst = some d → d ∈ wr) (v : Value) : Fr wr a (a'.put dst v) := by
  cases dst with
  | none => exact h
  | some d =>
    refine ⟨by simp [Act.put, h.size], h.defers, fun i hi => ?_⟩
    have : d ≠ i := fun e => hi (e ▸ hd d rfl)
    simp [Act.put, Array.getElem?_setIfInBounds_ne this, h.same i hi]

theorem listVc_mono {P : Program} {ops : Array Oper} {Q Q' : Act → World → Prop} {wr : List Nat} {a0 : Act} (hq : ∀ a w, Q a w → Fr wr a0 a → Q' a w) : ∀ (l : List Oper) (i : Nat) (a : Act) (w : World),
    (∀ o ∈ l, ∀ d, o.dst = some d → d ∈ wr) → Fr wr a0 a → listVc P ops Q l i a w → listVc P ops Q' l i a w := by
  intro l
  induction l with
  | nil => intro i a w _ hf h; exact hq _ _ h hf
  | cons o rest ih =>
    intro i a w hd hf h
    simp only [listVc] at h ⊢
    have hd' := hd o (by simp)
    have hr : ∀ o ∈ rest, ∀ d, o.dst = some d → d ∈ wr := fun o ho => hd o (by simp [ho])
    cases hw : Region.wanted o (yielded ops a.tmps) with
    | false => rw [hw] at h; exact ih _ _ _ hr (hf.put hd' _) h
    | true =>
      rw [hw] at h
      refine opVc_mono h fun v w' h => ?_
      rw [parted_iff] at h ⊢
      exact ih _ _ _ hr (hf.put hd' _) h

theorem calmVc_mono {P : Program} {ops : Array Oper} {Q Q' : Act → World → Prop} {wr : List Nat} {a0 : Act} (hq : ∀ a w, Q a w → Fr wr a0 a → Q' a w) : ∀ (l : List Oper) (i : Nat) (a : Act) (w : World),
    (∀ o ∈ l, ∀ d, o.dst = some d → d ∈ wr) → Fr wr a0 a → calmVc P ops Q l i a w → calmVc P ops Q' l i a w := by
  intro l
  induction l with
  | nil => intro i a w _ hf h; exact hq _ _ h hf
  | cons o rest ih =>
    intro i a w hd hf h
    simp only [calmVc] at h ⊢
    have hd' := hd o (by simp)
    have hr : ∀ o ∈ rest, ∀ d, o.dst = some d → d ∈ wr := fun o ho => hd o (by simp [ho])
    cases hw : Region.wanted o (yielded ops a.tmps) with
    | false => rw [hw] at h; exact ih _ _ _ hr (hf.put hd' _) h
    | true =>
      rw [hw] at h
      simp only [cond_true] at h ⊢
      split at h
      · refine Pur.then_mono h fun v h => ?_
        rw [parted_iff] at h ⊢
        exact ih _ _ _ hr (hf.put hd' _) h
      · split at h
        · refine effVc_mono h fun v w' h => ?_
          rw [parted_iff] at h ⊢
          exact ih _ _ _ hr (hf.put hd' _) h
        · exact h

theorem tailVc_mono {P : Program} {ops : Array Oper} {Q Q' : Act → World → Prop} {wr : List Nat} {a0 : Act} (hq : ∀ a w, Q a w → Fr wr a0 a → Q' a w) : ∀ (l : List Oper) (i : Nat) (a : Act) (w : World),
    (∀ o ∈ l, ∀ d, o.dst = some d → d ∈ wr) → Fr wr a0 a → tailVc P ops Q l i a w → tailVc P ops Q' l i a w := by
  intro l
  induction l with
  | nil => intro i a w _ hf h; exact hq _ _ h hf
  | cons o rest ih =>
    intro i a w hd hf h
    simp only [tailVc] at h ⊢
    have hd' := hd o (by simp)
    have hr : ∀ o ∈ rest, ∀ d, o.dst = some d → d ∈ wr := fun o ho => hd o (by simp [ho])
    cases hw : Region.wanted o (yielded ops a.tmps) with
    | false => rw [hw] at h; exact ih _ _ _ hr (hf.put hd' _) h
    | true =>
      rw [hw] at h
      simp only [cond_true] at h ⊢
      split at h
      · refine Pur.then_mono h fun v h => ?_
        rw [parted_iff] at h ⊢
        exact ih _ _ _ hr (hf.put hd' _) h
      · cases hl : (isLoadOp o || isLate P o) with
        | true =>
          rw [hl] at h
          refine effVc_mono h fun v w' h => ?_
          rw [parted_iff] at h ⊢
          exact ih _ _ _ hr (hf.put hd' _) h
        | false => rw [hl] at h; exact h.elim

theorem allOf_mono : ∀ {l : List Nat} {F G : Nat → Prop}, (∀ i ∈ l, F i → G i) → allOf l F → allOf l G
  | [], _, _, _, _ => trivial
  | [j], _, _, hk, h => hk j (by simp) h
  | j :: k :: l, _, _, hk, h => ⟨hk j (by simp) h.1, allOf_mono (fun i hi => hk i (by simp [hi])) h.2⟩

theorem anyVc_mono {P : Program} {ops : Array Oper} {Q Q' : Act → World → Prop} {wr : List Nat} {a0 : Act} (hq : ∀ a w, Q a w → Fr wr a0 a → Q' a w) (hd : ∀ (i : Nat) (o : Oper), ops[i]? = some o → ∀ d, o.dst = some d → d ∈ wr) :
    ∀ (n : Nat) (listed : Array Bool) (a : Act) (w : World), Fr wr a0 a → anyVc P ops Q n listed a w → anyVc P ops Q' n listed a w := by
  intro n
  induction n with
  | zero =>
    intro listed a w hf h
    simp only [anyVc] at h ⊢
    cases hr : (Region.ready .any ops listed).isEmpty with
    | true => rw [hr] at h; exact hq _ _ h hf
    | false => rw [hr] at h; exact h
  | succ n ih =>
    intro listed a w hf h
    simp only [anyVc] at h ⊢
    split at h
    · split at h
      · rename_i i _ o ho
        cases hw : Region.wanted o (yielded ops a.tmps) with
        | false => rw [hw] at h; exact ih _ _ _ (hf.put (hd _ _ ho) _) h
        | true =>
          rw [hw] at h
          simp only [cond_true] at h ⊢
          split at h
          · refine Pur.then_mono h fun v h => ?_
            rw [parted_iff] at h ⊢
            exact ih _ _ _ (hf.put (hd _ _ ho) _) h
          · exact h
      · exact h
    · split at h
      · exact hq _ _ h hf
      · refine allOf_mono (fun i _ h => ?_) h
        split at h
        · rename_i o ho
          cases hw : Region.wanted o (yielded ops a.tmps) with
          | false => rw [hw] at h; exact ih _ _ _ (hf.put (hd _ _ ho) _) h
          | true =>
            rw [hw] at h
            refine opVc_mono h fun v w' h => ?_
            rw [parted_iff] at h ⊢
            exact ih _ _ _ (hf.put (hd _ _ ho) _) h
        · exact h

theorem heldVc0_mono {P : Program} {ops : Array Oper} {Q Q' : Act → World → Prop} {S : World → Prop} {late : Nat → Bool} {wr : List Nat} {a0 : Act} (hq : ∀ a w, Q a w → Fr wr a0 a → Q' a w) (hd : ∀ (i : Nat) (o : Oper), ops[i]? = some o → ∀ d, o.dst = some d → d ∈ wr) :
    ∀ (n : Nat) (listed : Array Bool) (early : Bool) (a : Act) (w : World), Fr wr a0 a → heldVc0 P ops Q S late n listed early a w → heldVc0 P ops Q' S late n listed early a w := by
  intro n
  induction n with
  | zero =>
    intro listed early a w hf h
    simp only [heldVc0] at h ⊢
    cases hr : (Region.ready .any ops listed).isEmpty with
    | true => rw [hr] at h; exact hq _ _ h hf
    | false => rw [hr] at h; exact h
  | succ n ih =>
    intro listed early a w hf h
    simp only [heldVc0] at h ⊢
    split at h
    · split at h
      · rename_i i _ o ho
        cases hw : Region.wanted o (yielded ops a.tmps) with
        | false => rw [hw] at h; exact ih _ _ _ _ (hf.put (hd _ _ ho) _) h
        | true =>
          rw [hw] at h
          simp only [cond_true] at h ⊢
          split at h
          · refine Pur.then_mono h fun v h => ?_
            rw [parted_iff] at h ⊢
            exact ih _ _ _ _ (hf.put (hd _ _ ho) _) h
          · exact h
      · exact h
    · split at h
      · split at h
        · rename_i i _ o ho
          cases hw : Region.wanted o (yielded ops a.tmps) with
          | false => rw [hw] at h; exact ih _ _ _ _ (hf.put (hd _ _ ho) _) h
          | true =>
            rw [hw] at h
            refine loadIf_mono h fun v h => ?_
            rw [parted_iff] at h ⊢
            exact ih _ _ _ _ (hf.put (hd _ _ ho) _) h
        · exact h
      · split at h
        · exact hq _ _ h hf
        · refine allOf_mono (fun i _ h => ?_) h
          split at h
          · rename_i o ho
            cases hw : Region.wanted o (yielded ops a.tmps) with
            | false => rw [hw] at h; exact ih _ _ _ _ (hf.put (hd _ _ ho) _) h
            | true =>
              rw [hw] at h
              simp only [cond_true] at h ⊢
              refine opVc_mono h fun v w' h => ?_
              cases hlt : late i with
              | true =>
                rw [hlt] at h
                simp only [cond_true] at h ⊢
                rw [parted_iff] at h ⊢
                exact ih _ _ _ _ (hf.put (hd _ _ ho) _) h
              | false =>
              rw [hlt] at h
              refine ⟨h.1, ?_⟩
              have h := h
              have h := h.2
              rw [parted_iff] at h ⊢
              exact ih _ _ _ _ (hf.put (hd _ _ ho) _) h
          · exact h

theorem heldVc_mono {P : Program} {ops : Array Oper} {Q Q' : Act → World → Prop} {S : World → Prop} {late : Nat → Bool} {kp : Bool} {wr : List Nat} {a0 : Act} (hq : ∀ a w, Q a w → Fr wr a0 a → Q' a w) (hd : ∀ (i : Nat) (o : Oper), ops[i]? = some o → ∀ d, o.dst = some d → d ∈ wr) :
    ∀ (n : Nat) (listed : Array Bool) (early : Bool) (a : Act) (w : World), Fr wr a0 a → heldVc P ops Q S late kp n listed early a w → heldVc P ops Q' S late kp n listed early a w := by
  intro n
  induction n with
  | zero =>
    intro listed early a w hf h
    simp only [heldVc] at h ⊢
    cases hr : (Region.ready .any ops listed).isEmpty with
    | true => rw [hr] at h; exact hq _ _ h hf
    | false => rw [hr] at h; exact h
  | succ n ih =>
    intro listed early a w hf h
    simp only [heldVc] at h ⊢
    split at h
    · split at h
      · rename_i i _ o ho
        cases hw : Region.wanted o (yielded ops a.tmps) with
        | false => rw [hw] at h; exact ih _ _ _ _ (hf.put (hd _ _ ho) _) h
        | true =>
          rw [hw] at h
          simp only [cond_true] at h ⊢
          split at h
          · refine Pur.then_mono h fun v h => ?_
            rw [parted_iff] at h ⊢
            exact ih _ _ _ _ (hf.put (hd _ _ ho) _) h
          · exact h
      · exact h
    · split at h
      · split at h
        · rename_i i _ o ho
          cases hw : Region.wanted o (yielded ops a.tmps) with
          | false => rw [hw] at h; exact ih _ _ _ _ (hf.put (hd _ _ ho) _) h
          | true =>
            rw [hw] at h
            refine loadIf_mono h fun v h => ?_
            rw [parted_iff] at h ⊢
            exact ih _ _ _ _ (hf.put (hd _ _ ho) _) h
        · exact h
      · cases hrc : (!early && restCalm P ops listed) with
        | true =>
          rw [hrc] at h
          simp only [cond_true] at h ⊢
          exact heldVc0_mono hq hd (n + 1) listed true a w hf h
        | false =>
        rw [hrc] at h
        simp only [cond_false] at h ⊢
        split at h
        · exact hq _ _ h hf
        · refine allOf_mono (fun i _ h => ?_) h
          split at h
          · rename_i o ho
            cases hw : Region.wanted o (yielded ops a.tmps) with
            | false => rw [hw] at h; exact ih _ _ _ _ (hf.put (hd _ _ ho) _) h
            | true =>
              rw [hw] at h
              simp only [cond_true] at h ⊢
              refine opVc_mono h fun v w' h => ?_
              cases hlt : late i with
              | true =>
                rw [hlt] at h
                simp only [cond_true] at h ⊢
                rw [parted_iff] at h ⊢
                exact ih _ _ _ _ (hf.put (hd _ _ ho) _) h
              | false =>
              rw [hlt] at h
              refine ⟨h.1, ?_⟩
              have h := h
              have h := h.2
              rw [parted_iff] at h ⊢
              exact ih _ _ _ _ (hf.put (hd _ _ ho) _) h
          · exact h

/-! ## Loops -/
def Inv : List CTy → Type
  | [] => World → Prop
  | .int _ :: ts => Int → Inv ts
  | .bool :: ts => Bool → Inv ts
  | .string :: ts => List UInt8 → Inv ts
  | .slice :: ts => Option Addr → Nat → Nat → Inv ts
  | .pointer :: ts => Option Addr → Inv ts
  | .map :: ts => Option Nat → Inv ts
  | .any :: ts => Value → Inv ts

def Inv.at : (ts : List CTy) → Inv ts → List Value → World → Prop
  | [], I, [], w => I w
  | .int k :: ts, I, .int k' n :: vs, w => cond (decide (k = k')) (Inv.at ts (I n) vs w) False
  | .bool :: ts, I, .bool b :: vs, w => Inv.at ts (I b) vs w
  | .string :: ts, I, .string s :: vs, w => Inv.at ts (I (sl s)) vs w
  | .slice :: ts, I, .slice a n c :: vs, w => Inv.at ts (I a n c) vs w
  | .pointer :: ts, I, .pointer p :: vs, w => Inv.at ts (I p) vs w
  | .map :: ts, I, .map r :: vs, w => Inv.at ts (I r) vs w
  | .any :: ts, I, v :: vs, w => Inv.at ts (I v) vs w
  | _, _, _, _ => False

def Mes : List CTy → Type
  | [] => World → Nat
  | .int _ :: ts => Int → Mes ts
  | .bool :: ts => Bool → Mes ts
  | .string :: ts => List UInt8 → Mes ts
  | .slice :: ts => Option Addr → Nat → Nat → Mes ts
  | .pointer :: ts => Option Addr → Mes ts
  | .map :: ts => Option Nat → Mes ts
  | .any :: ts => Value → Mes ts

def Mes.at : (ts : List CTy) → Mes ts → List Value → World → Nat
  | [], I, [], w => I w
  | .int _ :: ts, I, .int _ n :: vs, w => Mes.at ts (I n) vs w
  | .bool :: ts, I, .bool b :: vs, w => Mes.at ts (I b) vs w
  | .string :: ts, I, .string s :: vs, w => Mes.at ts (I (sl s)) vs w
  | .slice :: ts, I, .slice a n c :: vs, w => Mes.at ts (I a n c) vs w
  | .pointer :: ts, I, .pointer p :: vs, w => Mes.at ts (I p) vs w
  | .map :: ts, I, .map r :: vs, w => Mes.at ts (I r) vs w
  | .any :: ts, I, v :: vs, w => Mes.at ts (I v) vs w
  | _, _, _, _ => 0

def allC : List CTy → (List Value → Prop) → Prop
  | [], F => F []
  | .int k :: ts, F => ∀ n : Int, allC ts fun vs => F (.int k n :: vs)
  | .bool :: ts, F => ∀ b : Bool, allC ts fun vs => F (.bool b :: vs)
  | .string :: ts, F => ∀ s : List UInt8, allC ts fun vs => F (.string (mkS s) :: vs)
  | .slice :: ts, F => ∀ (a : Option Addr) (n c : Nat), allC ts fun vs => F (.slice a n c :: vs)
  | .pointer :: ts, F => ∀ p : Option Addr, allC ts fun vs => F (.pointer p :: vs)
  | .map :: ts, F => ∀ r : Option Nat, allC ts fun vs => F (.map r :: vs)
  | .any :: ts, F => ∀ v : Value, allC ts fun vs => F (v :: vs)

theorem allC_at : ∀ (ts : List CTy) (I : Inv ts) (vs : List Value) (w : World) (F : List Value → Prop), Inv.at ts I vs w → allC ts F → F vs
  | [], _, [], _, _, _, hF => hF
  | .int k :: ts, I, .int k' n :: vs, w, F, h, hF => by
    by_cases hk : k = k'
    · subst hk
      have h' : Inv.at ts (I n) vs w := by simpa only [Inv.at, decide_true, cond_true] using h
      exact allC_at ts (I n) vs w _ h' (hF n)
    · simp only [Inv.at, decide_eq_false hk, cond_false] at h
  | .bool :: ts, I, .bool b :: vs, w, _, h, hF => allC_at ts (I b) vs w _ h (hF b)
  | .string :: ts, I, .string s :: vs, w, _, h, hF => allC_at ts (I (sl s)) vs w _ h (hF (sl s))
  | .slice :: ts, I, .slice a n c :: vs, w, _, h, hF => allC_at ts (I a n c) vs w _ h (hF a n c)
  | .pointer :: ts, I, .pointer p :: vs, w, _, h, hF => allC_at ts (I p) vs w _ h (hF p)
  | .map :: ts, I, .map r :: vs, w, _, h, hF => allC_at ts (I r) vs w _ h (hF r)
  | .any :: ts, I, v :: vs, w, _, h, hF => by
    have h' : Inv.at ts (I v) vs w := by cases v <;> exact h
    exact allC_at ts (I v) vs w _ h' (hF v)

theorem allC_mono : ∀ {ts : List CTy} {F G : List Value → Prop}, allC ts F → (∀ vs, F vs → G vs) → allC ts G := by
  intro ts
  induction ts with
  | nil => intro F G h hk; exact hk _ h
  | cons t ts ih =>
    intro F G h hk
    cases t <;> simp only [allC] at h ⊢ <;> intros <;> exact ih (h _ ..) fun vs h => hk _ h

def havocL (wr : List Nat) (g : Nat → Value) : Nat → List Value → List Value
  | _, [] => []
  | i, v :: l => cond (wr.contains i) (g i) v :: havocL wr g (i + 1) l

def setMany : List Nat → List Value → List Value → List Value
  | s :: ss, v :: vs, l => setMany ss vs (l.set s v)
  | _, _, l => l

def loopAct (a : Act) (wr : List Nat) (g : Nat → Value) (live : List Nat) (vs : List Value) : Act :=
  { a with tmps := ⟨setMany live vs (havocL wr g 0 a.tmps.toList)⟩ }

def vals (a : Act) (live : List Nat) : List Value := live.map fun i => a.tmps.getD i undef

theorem havocL_get {wr : List Nat} {g : Nat → Value} : ∀ (l : List Value) (i j : Nat), (havocL wr g i l)[j]? = l[j]?.map fun v => cond (wr.contains (i + j)) (g (i + j)) v := by
  intro l
  induction l with
  | nil => intro i j; simp [havocL]
  | cons v l ih =>
    intro i j
    cases j with
    | zero => simp [havocL]
    | succ j => simp only [havocL, List.getElem?_cons_succ, ih]; rw [show i + 1 + j = i + (j + 1) by omega]

theorem havocL_length {wr : List Nat} {g : Nat → Value} : ∀ (l : List Value) (i : Nat), (havocL wr g i l).length = l.length := by
  intro l
  induction l with
  | nil => intro i; rfl
  | cons v l ih => intro i; simp [havocL, ih]

theorem setMany_same : ∀ (live : List Nat) (l : List Value), setMany live (live.map fun i => l.getD i undef) l = l := by
  intro live
  induction live with
  | nil => intro l; rfl
  | cons s ss ih =>
    intro l
    simp only [List.map_cons, setMany]
    have : l.set s (l.getD s undef) = l := by
      apply List.ext_getElem?
      intro i
      rw [List.getElem?_set]
      by_cases h : s = i
      · subst h
        simp only [if_true]
        split
        · rename_i hlt; simp [List.getD, hlt]
        · rename_i hlt; simp at hlt; simp [List.getElem?_eq_none hlt]
      · simp [h]
    rw [this]
    exact ih l

theorem loopAct_same {wr : List Nat} {a a' : Act} (h : Fr wr a a') (live : List Nat) : loopAct a wr (fun i => a'.tmps.getD i undef) live (vals a' live) = a' := by
  obtain ⟨⟨l'⟩, d'⟩ := a'
  obtain ⟨⟨l⟩, d⟩ := a
  have hsz : l'.length = l.length := h.size
  have hd : d' = d := h.defers
  have hl : havocL wr (fun i => (Array.mk l').getD i undef) 0 l = l' := by
    apply List.ext_getElem?
    intro i
    rw [havocL_get]
    simp only [Nat.zero_add]
    by_cases hi : i ∈ wr
    · have hc : wr.contains i = true := by simpa using hi
      simp only [hc, cond_true]
      by_cases hlt : i < l.length
      · have hlt' : i < l'.length := by omega
        simp [hlt, hlt']
      · have hlt' : ¬ i < l'.length := by omega
        simp at hlt hlt'
        simp [List.getElem?_eq_none hlt, List.getElem?_eq_none hlt']
    · have hc : wr.contains i = false := by simpa using hi
      simp only [hc, cond_false]
      have := h.same i hi
      simp at this
      rw [this]
      cases l[i]? <;> rfl
  have hv : vals { tmps := Array.mk l', defers := d' } live = live.map fun i => l'.getD i undef := by
    unfold vals
    apply List.map_congr_left
    intro i _
    simp [List.getD]
  unfold loopAct
  simp only
  rw [hl, hv, setMany_same, hd]

def loopVc (live : List (Nat × CTy)) (wr : List Nat) (body : (Exit → Act → World → Prop) → Act → World → Prop) (Q : Exit → Act → World → Prop) (a : Act) (w : World) : Prop :=
  ∃ (I : Inv (live.map (·.2))) (μ : Mes (live.map (·.2))),
    Inv.at _ I (vals a (live.map (·.1))) w ∧
    ∀ g : Nat → Value, allC (live.map (·.2)) fun vs => ∀ w, Inv.at _ I vs w →
      body (Exit.then (fun a' w' => Inv.at _ I (vals a' (live.map (·.1))) w' ∧ Mes.at _ μ (vals a' (live.map (·.1))) w' < Mes.at _ μ vs w) Q)
        (loopAct a wr g (live.map (·.1)) vs) w

/-- where ways meet again: what holds there -/
def cutVc (live : List (Nat × CTy)) (wr : List Nat) (x y : (Exit → Act → World → Prop) → Act → World → Prop) (Q : Exit → Act → World → Prop) (a : Act) (w : World) : Prop :=
  ∃ J : Inv (live.map (·.2)),
    x (Exit.then (fun a' w' => Inv.at _ J (vals a' (live.map (·.1))) w') Q) a w ∧
    ∀ g : Nat → Value, allC (live.map (·.2)) fun vs => ∀ w, Inv.at _ J vs w → y Q (loopAct a wr g (live.map (·.1)) vs) w

def mergeVc (P : Program) (ops : Array Oper) (live : List Nat) (Q : Act → World → Prop) (a : Act) (w : World) : Prop :=
  match merged P ops live ops.toList 0 a with
  | some (ps, vs) => withAll ps (∀ g : Nat → Value, Q (loopAct a (ops.toList.filterMap (·.dst)) g live vs) w)
  | none => False

structure Ann where
  loops : List (Nat × List (Nat × CTy)) := []
  cuts : List (Nat × List (Nat × CTy)) := []
  merges : List (Nat × List Nat) := []

def lookL {α : Type} : List (Nat × α) → Nat → Option α
  | [], _ => none
  | (k, v) :: l, b => cond (k == b) (some v) (lookL l b)

def keepIn {α : Type} (wr : List Nat) (l : List (Nat × α)) : List (Nat × α) := l.filter fun p => wr.contains p.1

/-! ## Code -/
def codeVc (P : Program) (ann : Ann) : Code → Nat → (Exit → Act → World → Prop) → Act → World → Prop
  | .skip, _, Q, a, w => Q .normal a w
  | .region _ ops draw, pos, Q, a, w => match lookL ann.merges pos with
    | some live => cond draw
        (cond (P.follows .mixedOrders && Region.lexB .any ops) (∀ w', w' = w.drew → mergeVc P ops (live.filter fun i => (ops.toList.filterMap (·.dst)).contains i) (Q .normal) a w') False)
        (mergeVc P ops (live.filter fun i => (ops.toList.filterMap (·.dst)).contains i) (Q .normal) a w)
    | none => cond draw (drawVc P ops (Q .normal) a w) (listVc P ops (Q .normal) ops.toList 0 a w)
  | .seq x y, pos, Q, a, w => match lookL ann.cuts pos with
    | some live => cutVc (keepIn (Code.writes x) live) (Code.writes x) (codeVc P ann x (2 * pos)) (codeVc P ann y (2 * pos + 1)) Q a w
    | none => codeVc P ann x (2 * pos) (Exit.then (codeVc P ann y (2 * pos + 1) Q) Q) a w
  | .cond c x y, pos, Q, a, w => match a.eval c with
    | .bool b => cond b (codeVc P ann x (2 * pos) Q a w) (codeVc P ann y (2 * pos + 1) Q a w)
    | _ => False
  | .block id c, pos, Q, a, w => codeVc P ann c (2 * pos) (Exit.inBlock id Q) a w
  | .loop c, pos, Q, a, w => loopVc (keepIn (Code.writes c) ((lookL ann.loops pos).getD [])) (Code.writes c) (codeVc P ann c (2 * pos)) Q a w
  | .scope c, pos, Q, a, w => codeVc P ann c (2 * pos) (Exit.noGoto Q) a w
  | .exit id, _, Q, a, w => Q (.exit id) a w
  | .label _, _, Q, a, w => Q .normal a w
  | .ret, _, Q, a, w => Q .ret a w
  | _, _, _, _, _ => False

theorem mem_dst {ops : Array Oper} {o : Oper} (h : o ∈ ops.toList) {d : Nat} (hd : o.dst = some d) : d ∈ ops.toList.filterMap (·.dst) := List.mem_filterMap.2 ⟨o, h, hd⟩

theorem setMany_length : ∀ (ss : List Nat) (vs : List Value) (l : List Value), (setMany ss vs l).length = l.length := by
  intro ss
  induction ss with
  | nil => intro vs l; rfl
  | cons s ss ih => intro vs l; cases vs with | nil => rfl | cons v vs => simp [setMany, ih]

theorem setMany_get : ∀ (ss : List Nat) (vs : List Value) (l : List Value) (i : Nat), i ∉ ss → (setMany ss vs l)[i]? = l[i]? := by
  intro ss
  induction ss with
  | nil => intro vs l i _; rfl
  | cons s ss ih =>
    intro vs l i hi
    cases vs with
    | nil => rfl
    | cons v vs =>
      simp only [List.mem_cons, not_or] at hi
      simp only [setMany]
      rw [ih _ _ _ hi.2, List.getElem?_set_ne (fun e => hi.1 e.symm)]

theorem loopAct_fr {wr wr' : List Nat} {a0 a : Act} (h : Fr wr a0 a) (hsub : ∀ i ∈ wr', i ∈ wr) {live : List Nat} (hlive : ∀ i ∈ live, i ∈ wr) (g : Nat → Value) (vs : List Value) : Fr wr a0 (loopAct a wr' g live vs) := by
  refine ⟨?_, h.defers, fun i hi => ?_⟩
  · show (setMany live vs (havocL wr' g 0 a.tmps.toList)).length = _
    rw [setMany_length, havocL_length]
    exact h.size
  · have h1 : (loopAct a wr' g live vs).tmps[i]? = (setMany live vs (havocL wr' g 0 a.tmps.toList))[i]? := by simp [loopAct]
    rw [h1, setMany_get _ _ _ _ (fun hm => hi (hlive i hm)), havocL_get]
    have hc : wr'.contains (0 + i) = false := by
      simp only [Nat.zero_add]
      cases hcc : wr'.contains i with
      | false => rfl
      | true => exact absurd (hsub i (by simpa using hcc)) hi
    simp only [hc, cond_false]
    have := h.same i hi
    rw [← this]
    cases hh : a.tmps.toList[i]? <;> simp_all

end Go.Vc
