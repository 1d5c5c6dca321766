/- Instructions: which are right, and their bytes. -/
import Derived.Test.YtknpbkajonmaoaaDoorInsK
namespace Go.Proofs.YtknpbkajonmaoaaDoor
open Go.Vc Go.Lv Go.Ty Go.Iv

def rowOf (op : Int) : Gins_row := if 1 ≤ op ∧ op ≤ 25 then rowsL.getD op.toNat ⟨[], 0, 0, 0⟩ else ⟨[], 0, 0, 0⟩
def isOp (op : Int) : Bool := decide (1 ≤ op ∧ op ≤ 25)
def nz (op : Int) : Int := (rowOf op).nums
theorem op_all {p : Int → Gins_row → Bool} (h : ∀ k : Fin 26, 1 ≤ k.val → p (k.val : Int) (rowsL.getD k.val ⟨[], 0, 0, 0⟩) = true) {op : Int} (ho : 1 ≤ op ∧ op ≤ 25) : p op (rowOf op) = true := by
  have := h ⟨op.toNat, by omega⟩ (by show 1 ≤ op.toNat; omega)
  simp only at this
  rw [Int.toNat_of_nonneg (by omega)] at this
  unfold rowOf
  rw [if_pos ho]; exact this
theorem find_v (op : Int) (K : Gins_row → Bool → Prop) (h : K (rowOf op) (isOp op)) : V_ins_find op K := by
  refine ins_find_lift _ _ (cond_intro (fun hc => ?_) fun hc => ⟨consts_v, ⟨?_, ?_⟩, fun x hx => ?_⟩)
  · have hn : ¬ (1 ≤ op ∧ op ≤ 25) := by simp at hc; omega
    unfold rowOf isOp at h
    rw [if_neg hn, decide_eq_false hn] at h; exact h
  · simp at hc; omega
  · simp at hc; omega
  · have hp : 1 ≤ op ∧ op ≤ 25 := by simp at hc; omega
    change rowsL[op.toNat]? = some x at hx
    unfold rowOf isOp at h
    rw [if_pos hp, decide_eq_true hp] at h
    have : rowsL.getD op.toNat ⟨[], 0, 0, 0⟩ = x := by simp [List.getD, hx]
    rw [this] at h; exact h
theorem nz_cases (op : Int) : nz op = 0 ∨ nz op = 1 ∨ nz op = 2 := by
  by_cases ho : 1 ≤ op ∧ op ≤ 25
  · have := op_all (p := fun _ r => r.nums == 0 || r.nums == 1 || r.nums == 2) (by decide) ho
    simp at this
    unfold nz; omega
  · left; unfold nz rowOf; rw [if_neg ho]
def two (op : Int) : Bool := op == 9 || op == 14 || op == 19
def one (op : Int) : Bool := op == 1 || (op == 2 || (op == 3 || (op == 4 || (op == 5 || (op == 6 || (op == 7 || (op == 8 || (op == 11 || (op == 12 || (op == 20 || (op == 21 || op == 22)))))))))))
theorem nz_eq (op : Int) : nz op = if two op then 2 else if one op then 1 else 0 := by
  by_cases ho : 1 ≤ op ∧ op ≤ 25
  · have := op_all (p := fun op r => r.nums == if two op then 2 else if one op then 1 else 0) (by decide) ho
    exact eq_of_beq this
  · have h1 : two op = false := by simp [two]; omega
    have h2 : one op = false := by simp [one]; omega
    unfold nz rowOf
    rw [if_neg ho, h1, h2]; rfl
theorem cor {b r : Bool} {J : Bool → Prop} {A : Prop} (h1 : b = true → J true) (h2 : b = false → A) : cond b (J b) A := by
  cases b
  · exact h2 rfl
  · exact h1 rfl
theorem rnums_v (op : Int) (K : Int → Prop) (h : K (nz op)) : V_R16_Nums op K := by
  rw [nz_eq] at h
  refine R16_Nums_lift _ _ ⟨fun b => b = two op, ?_, ?_⟩
  · unfold two
    cases op == 9 <;> cases op == 14 <;> rfl
  · rintro _ rfl
    refine cond_intro (fun hc => by rw [hc] at h; exact h) fun hc => ⟨fun b => b = one op, ?_, ?_⟩
    · unfold one
      cases op == 1
      · cases op == 2
        · cases op == 3
          · cases op == 4
            · cases op == 5
              · cases op == 6
                · cases op == 7
                  · cases op == 8
                    · cases op == 11
                      · cases op == 12
                        · cases op == 20
                          · cases op == 21 <;> rfl
                          · rfl
                        · rfl
                      · rfl
                    · rfl
                  · rfl
                · rfl
              · rfl
            · rfl
          · rfl
        · rfl
      · rfl
    · rintro _ rfl
      rw [hc] at h
      exact cond_intro (fun hd => by rw [hd] at h; exact h) fun hd => by rw [hd] at h; exact h
def badB (x : GIns) : Bool := !isOp x.op || ((decide (nz x.op < 1) && x.a != 0) || (decide (nz x.op < 2) && x.b != 0))
def restB (x : GIns) : Bool := (x.op != 14 || decide (x.b ≥ 0)) && (x.op != 5 || decide (3 ≤ x.a ∧ x.a ≤ 17))
/-- is an instruction right? -/
def rightB (x : GIns) : Bool := !badB x && restB x
theorem wide_v (op : Int) (K : Int → Prop) (h : ∀ n, (decide (n > 0)) = decide (3 ≤ op ∧ op ≤ 17) → K n) : V_arith_Wide op K := by
  refine arith_Wide_lift _ _ (cond_intro (fun hc => h 1 ?_) fun hc => cond_intro (fun hd => h 2 ?_) fun hd => h 0 ?_)
  · rw [Bool.eq_iff_iff]; simp at hc ⊢; omega
  · rw [Bool.eq_iff_iff]; simp at hd ⊢; omega
  · rw [Bool.eq_iff_iff]; simp at hc hd ⊢; omega
theorem right_v (x : GIns) (K : Bool → Prop) (h : K (rightB x)) : V_ins_Right x K := by
  refine ins_Right_lift _ _ (find_v _ _ ⟨fun b => b = badB x, ?_, ?_⟩)
  · unfold badB nz
    cases isOp x.op <;> cases decide ((rowOf x.op).nums < 1) <;> cases x.a != 0 <;> cases decide ((rowOf x.op).nums < 2) <;> rfl
  · rintro _ rfl
    refine cond_intro (fun hc => by unfold rightB at h; rw [hc] at h; exact h) fun hc => ?_
    have h : K (restB x) := by unfold rightB at h; rw [hc] at h; simpa using h
    unfold restB at h
    have hw : ∀ K' : Bool → Prop, K' (decide (3 ≤ x.a ∧ x.a ≤ 17)) → V_arith_Wide x.a (fun x1 => K' (decide (x1 > 0))) := fun K' hk => wide_v _ _ fun n hn => by rw [hn]; exact hk
    refine cond_intro (fun h14 => cond_intro (fun h5 => ?_) fun h5 => hw _ ?_) fun h14 => cond_intro (fun hb => cond_intro (fun h5 => ?_) fun h5 => hw _ ?_) fun hb => ?_
    · rw [h14, h5] at h; exact h
    · rw [h14, h5] at h; simpa using h
    · rw [h14, hb, h5] at h; exact h
    · rw [h14, hb, h5] at h; simpa using h
    · rw [h14, hb] at h; exact h
theorem rright_v (x : GIns) (K : Bool → Prop) (h : K (rightB x)) : V_R16_Right x K := by
  have hnz := nz_cases x.op
  refine R16_Right_lift _ _ (rnums_v _ _ ⟨fun b => b = badB x, ?_, ?_⟩)
  · refine cond_intro (fun hc => ?_) fun hc => cond_intro (fun hd => ?_) fun hd => ?_
    · have : isOp x.op = false := by simp at hc; simp [isOp]; omega
      unfold badB; rw [this]; rfl
    · have : isOp x.op = false := by simp at hd; simp [isOp]; omega
      unfold badB; rw [this]; rfl
    · have : isOp x.op = true := by simp at hc hd; simp [isOp]; omega
      have e : (nz x.op == 0) = decide (nz x.op < 1) := by rw [Bool.eq_iff_iff]; simp; omega
      unfold badB; rw [this, e]
      cases decide (nz x.op < 1) <;> cases x.a != 0 <;> cases decide (nz x.op < 2) <;> rfl
  · rintro _ rfl
    refine cond_intro (fun hc => by unfold rightB at h; rw [hc] at h; exact h) fun hc => ?_
    have h : K (restB x) := by unfold rightB at h; rw [hc] at h; simpa using h
    refine ⟨fun b => b = !restB x, ?_, ?_⟩
    · have e1 : decide (x.b ≥ 0) = !decide (x.b < 0) := by rw [Bool.eq_iff_iff]; simp
      have e2 : decide (3 ≤ x.a ∧ x.a ≤ 17) = !(decide (x.a < 3) || decide (x.a > 17)) := by rw [Bool.eq_iff_iff]; simp
      unfold restB
      rw [e1, e2, show (x.op != 14) = !(x.op == 14) from rfl, show (x.op != 5) = !(x.op == 5) from rfl]
      cases x.op == 14 <;> cases decide (x.b < 0) <;> cases x.op == 5 <;> cases decide (x.a < 3) <;> cases decide (x.a > 17) <;> rfl
    · rintro _ rfl
      refine cond_intro (fun hd => ?_) fun hd => ?_
      · rw [show restB x = false by simpa using hd] at h; exact h
      · rw [show restB x = true by simpa using hd] at h; exact h
/-- an instruction's bytes -/
def bytesF (x : GIns) : List UInt8 := if rightB x then UInt8.ofNat x.op.toNat :: ((if 0 < nz x.op then numF (zigN x.a) else []) ++ (if 1 < nz x.op then numF (zigN x.b) else [])) else []
def JIns (x : GIns) : Prop := J64 x.a ∧ J64 x.b
theorem bytes_len {x : GIns} (hx : JIns x) : (bytesF x).length ≤ 21 := by
  unfold bytesF
  split
  · have h1 := numF_len10 (zig_lt hx.1)
    have h2 := numF_len10 (zig_lt hx.2)
    rw [List.length_cons, List.length_append]
    split <;> split <;> simp <;> omega
  · simp
theorem right_op {x : GIns} (h : rightB x = true) : 1 ≤ x.op ∧ x.op ≤ 25 := by
  unfold rightB badB at h
  cases ho : isOp x.op with
  | false => rw [ho] at h; simp at h
  | true => exact of_decide_eq_true ho
theorem flat_len' {l : List GIns} (hl : ∀ x ∈ l, JIns x) : (l.flatMap bytesF).length ≤ 21 * l.length := by
  induction l with
  | nil => simp
  | cons x l ih =>
    have h1 := bytes_len (hl x (by simp))
    have h2 := ih fun y hy => hl y (by simp [hy])
    rw [List.flatMap_cons, List.length_append, List.length_cons]; omega
theorem nums_v (x : GIns) (K : List Int → Prop) (h : K ([x.a, x.b].take (nz x.op).toNat)) : V_ins_nums x K := by
  have := nz_cases x.op
  exact ins_nums_lift _ _ (find_v _ _ ⟨⟨by show 0 ≤ nz x.op; omega, by show nz x.op ≤ (2 : Int); omega⟩, h⟩)
theorem strOf_nums' (l : List Int) (x : List UInt8) : strOf (l ++ nums x) = strOf l ++ x := by rw [strOf_app, strOf_nums]
theorem iput_v (l : List GIns) (hl : l.length ≤ 2000) (hj : ∀ x ∈ l, JIns x) (K : List UInt8 → Prop) (h : K (l.flatMap bytesF)) : V_ins_Put l K := by
  refine ins_Put_lift _ _ ⟨fun i s n => At l.length (fun k => strOf s = (l.take k).flatMap bytesF) i n, ⟨_, At.start (by simp [strOf])⟩, ?_⟩
  rintro _ s _ ⟨k, rfl, hk, rfl, hs⟩
  have htl : ((l.take k).flatMap bytesF).length ≤ 21 * 2000 := Nat.le_trans (flat_len' fun x hx => hj x (List.mem_of_mem_take hx)) (Nat.mul_le_mul_left _ (by rw [List.length_take]; omega))
  have hsl : s.length ≤ 42000 := by rw [← strOf_len, hs]; exact htl
  refine At.cond hk (fun hk => ⟨fun t => strOf t = (l.take (k + 1)).flatMap bytesF, at_elem hk (right_v _ _ ?_), ?_⟩) fun hk => ?_
  · have hx := hj l[k] (List.getElem_mem hk)
    have htake : (l.take (k + 1)).flatMap bytesF = strOf s ++ bytesF l[k] := by rw [take_snoc hk, List.flatMap_append, hs]; simp
    rw [htake]
    generalize l[k] = x at hx
    refine cond_intro (fun hc => ?_) fun hc => ?_
    · rw [show bytesF x = [] by unfold bytesF; rw [if_neg (by simpa using hc)], List.append_nil]
    · have hr : rightB x = true := by simpa using hc
      have ho := right_op hr
      have hb : bytesF x = [UInt8.ofNat x.op.toNat] ++ ((if 0 < nz x.op then numF (zigN x.a) else []) ++ (if 1 < nz x.op then numF (zigN x.b) else [])) := by unfold bytesF; rw [if_pos hr]; rfl
      rw [hb, show IntKind.u8.wrap x.op = x.op by rw [IntKind.wrap_u8]; omega, strOf_one]
      refine wraw_v _ _ (by simp; omega) _ (nums_v _ _ ?_)
      have h1 := numF_len10 (zig_lt hx.1)
      have h2 := numF_len10 (zig_lt hx.2)
      generalize hL : [x.a, x.b].take (nz x.op).toNat = L
      have hLj : ∀ y ∈ L, J64 y := fun y hy => by
        have := List.mem_of_mem_take (hL ▸ hy)
        simp at this
        rcases this with rfl | rfl
        · exact hx.1
        · exact hx.2
      have hLl : L.length ≤ 2 := by rw [← hL, List.length_take]; simp; omega
      have hLb : (if 0 < nz x.op then numF (zigN x.a) else []) ++ (if 1 < nz x.op then numF (zigN x.b) else []) = L.flatMap fun y => numF (zigN y) := by
        rcases nz_cases x.op with e | e | e <;> (rw [← hL, e]; simp)
      rw [hLb]
      refine ⟨fun i t n => At L.length (fun j => strOf t = strOf s ++ ([UInt8.ofNat x.op.toNat] ++ (L.take j).flatMap fun y => numF (zigN y)) ∧ t.length ≤ 42001 + 10 * j) i n, ⟨_, At.start ⟨?_, ?_⟩⟩, ?_⟩
      · show strOf (s ++ nums [UInt8.ofNat x.op.toNat]) = _
        rw [strOf_nums']; simp
      · show (s ++ nums [UInt8.ofNat x.op.toNat]).length ≤ _
        rw [List.length_append, nums_len]; simp; omega
      · rintro _ t _ ⟨j, rfl, hj2, rfl, ht, htl⟩
        refine At.cond hj2 (fun hj2 => at_elem hj2 ?_) fun hj2 => ?_
        · have hyl := numF_len10 (zig_lt (hLj _ (List.getElem_mem hj2)))
          refine wint_v _ _ (hLj _ (List.getElem_mem hj2)) (by omega) _ (At.next (by omega) hj2 ⟨?_, ?_⟩)
          · show strOf (t ++ nums _) = _
            rw [strOf_nums', ht, take_snoc hj2, List.flatMap_append]; simp
          · show (t ++ nums _).length ≤ _
            rw [List.length_append, nums_len]; omega
        · rw [hj2, List.take_length] at ht; exact ht
  · rintro t ht
    exact At.next (by omega) hk ht
  · rw [hk, List.take_length] at hs
    refine wire_Writer_Bytes_lift _ _ ?_
    show K (strOf s)
    rw [hs]; exact h
theorem rbytes_v (x : GIns) (hx : JIns x) (K : List UInt8 → Prop) (h : K (bytesF x)) : V_R16_Bytes x K := by
  have h1 := numF_len10 (zig_lt hx.1)
  have h2 := numF_len10 (zig_lt hx.2)
  refine R16_Bytes_lift _ _ (rright_v _ _ (cond_intro (fun hc => ?_) fun hc => ?_))
  · rwa [show bytesF x = [] by unfold bytesF; rw [if_neg (by simpa using hc)]] at h
  · have hr : rightB x = true := by simpa using hc
    have ho := right_op hr
    have hb : bytesF x = ([UInt8.ofNat x.op.toNat] ++ (if 0 < nz x.op then numF (zigN x.a) else [])) ++ (if 1 < nz x.op then numF (zigN x.b) else []) := by unfold bytesF; rw [if_pos hr, List.append_assoc]; rfl
    rw [hb] at h
    rw [show IntKind.u8.wrap x.op = x.op by rw [IntKind.wrap_u8]; omega, strOf_one]
    refine ⟨fun s => s = [UInt8.ofNat x.op.toNat] ++ (if 0 < nz x.op then numF (zigN x.a) else []), rnums_v _ _ (cond_intro (fun hd => ?_) fun hd => ?_), ?_⟩
    · refine rint3_v _ hx.1 _ ⟨?_, ?_⟩
      · show _ ≤ (9223372036854775807 : Int)
        simp only [List.length_singleton]; omega
      · rw [if_pos (of_decide_eq_true hd)]
    · rw [if_neg (of_decide_eq_false hd), List.append_nil]
    · rintro _ rfl
      refine rnums_v _ _ (cond_intro (fun hd => ?_) fun hd => ?_)
      · rw [if_pos (of_decide_eq_true hd)] at h
        refine rint3_v _ hx.2 _ ⟨?_, h⟩
        show _ ≤ (9223372036854775807 : Int)
        rw [List.length_append]
        split <;> simp <;> omega
      · rw [if_neg (of_decide_eq_false hd), List.append_nil] at h; exact h
theorem rput_v (l : List GIns) (hl : l.length ≤ 2000) (hj : ∀ x ∈ l, JIns x) (K : List UInt8 → Prop) (h : K (l.flatMap bytesF)) : V_R16_Put l K := by
  refine R16_Put_lift _ _ ⟨fun s i n => At l.length (fun k => s = (l.take k).flatMap bytesF) i n, ⟨_, At.start rfl⟩, ?_⟩
  rintro _ _ _ ⟨k, rfl, hk, rfl, rfl⟩
  have htl : ((l.take k).flatMap bytesF).length ≤ 21 * 2000 := Nat.le_trans (flat_len' fun x hx => hj x (List.mem_of_mem_take hx)) (Nat.mul_le_mul_left _ (by rw [List.length_take]; omega))
  refine At.cond hk (fun hk => at_elem hk (rbytes_v _ (hj _ (List.getElem_mem hk)) _ ⟨?_, At.next (by omega) hk ?_⟩)) fun hk => ?_
  · have := bytes_len (hj _ (List.getElem_mem hk))
    show _ ≤ (9223372036854775807 : Int)
    omega
  · rw [take_snoc hk, List.flatMap_append]; simp
  · rw [hk, List.take_length]; exact h
theorem InsPuts_v (l : List GIns) (hj : ∀ x ∈ l, JIns x) (K : Bool → Prop) (h : K true) : V_L16_InsPuts l K := by
  refine L16_InsPuts_lift _ _ (cond_intro (fun _ => live_v _ h) fun hc => ?_)
  have hl : l.length ≤ 2000 := by simp at hc; omega
  exact iput_v l hl hj _ (rput_v l hl hj _ (cond_t (by simp) (live_v _ h)))
end Go.Proofs.YtknpbkajonmaoaaDoor
