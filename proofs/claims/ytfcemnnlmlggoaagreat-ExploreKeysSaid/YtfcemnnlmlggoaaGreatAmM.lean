/- The machine's operations on maps and new rows. -/
import Derived.Test.YtfcemnnlmlggoaaGreatAmD
import Derived.MapKept
import Derived.Laws.IdiomStrings
import Derived.Lib.ConvBytes
namespace Go.Am
open Go.Vc
open Go.MapKept (IsKey run_checkKey run_findKey run_setObj_map)
open Go.Lib (bytesWorld bytesCells bytesWorld_at_old bytesWorld_at_new bytesWorld_size)
variable {R : Type}

/-! ## maps -/
def keyB (d : TypeDesc) (v : Value) : Bool := match d, v with
  | .int k, .int k' _ => decide (k' = k)
  | .string, .string _ => true
  | .bool, .bool _ => true
  | _, _ => false
theorem keyB_is {d : TypeDesc} {v : Value} (h : keyB d v = true) : IsKey d v := by
  unfold keyB at h
  split at h
  · simpa [IsKey] using h
  · trivial
  · trivial
  · cases h
def findA (d : TypeDesc) (k : Value) : List (Value × AV) → Nat → Option (Option (Nat × AV))
  | [], _ => some none
  | (k', a) :: es, i => match Instr.sameNow d k k' with
    | some true => some (some (i, a))
    | some false => findA d k es (i + 1)
    | none => none
theorem findA_none {e : Env} {d : TypeDesc} {k : Value} : ∀ {es : List (Value × AV)} {ms : List MapEntry} {i : Nat}, entriesR e es ms → findA d k es i = some none → Instr.findNow d k ms i = some none
  | [], ms, i, h, _ => by simp only [entriesR] at h; subst h; rfl
  | (k', a) :: es, ms, i, h, hf => by
    obtain ⟨m, ms', rfl, rfl, h3, h4⟩ := h
    simp only [findA] at hf
    simp only [Instr.findNow]
    split at hf
    · cases hf
    · rename_i hs; rw [hs]; exact findA_none h4 hf
    · cases hf
theorem findA_some {e : Env} {d : TypeDesc} {k : Value} : ∀ {es : List (Value × AV)} {ms : List MapEntry} {i j : Nat} {a : AV}, entriesR e es ms → findA d k es i = some (some (j, a)) →
    ∃ v m, Instr.findNow d k ms i = some (some (j, v)) ∧ a.rep e v ∧ i ≤ j ∧ ms[j - i]? = some m ∧ Instr.sameNow d k m.key = some true
  | [], ms, i, j, a, h, hf => by cases hf
  | (k', a') :: es, ms, i, j, a, h, hf => by
    obtain ⟨m, ms', rfl, rfl, h3, h4⟩ := h
    simp only [findA] at hf
    simp only [Instr.findNow]
    split at hf
    · rename_i hs
      cases hf
      exact ⟨_, m, by rw [hs], h3, Nat.le_refl _, by simp, hs⟩
    · rename_i hs
      obtain ⟨v, m', g1, g2, g3, g4, g5⟩ := findA_some h4 hf
      refine ⟨v, m', by rw [hs]; exact g1, g2, by omega, ?_, g5⟩
      rw [show j - i = (j - (i + 1)) + 1 by omega]
      simpa using g4
    · cases hf
theorem sameBits_of {d : TypeDesc} {k k' : Value} (n : Nat) (h : Instr.sameNow d k k' = some true) : Instr.sameBits n k' k = true := by
  unfold Instr.sameNow at h
  split at h
  · rename_i j a j' b
    split at h
    · rename_i hk
      subst hk
      simp at h
      subst h
      cases n <;> simp [Instr.sameBits]
    · cases h
  · rename_i a b
    have h : (a == b) = true := Option.some.inj h
    have e : a = b := by
      obtain ⟨a⟩ := a
      obtain ⟨b⟩ := b
      have h : (a == b) = true := h
      rw [eq_of_beq h]
    subst e
    cases n <;> exact h
  · simp at h; subst h; cases n <;> simp [Instr.sameBits]
  · cases h
theorem entriesR_modify {e : Env} {k : Value} {a : AV} {v : Value} (hv : a.rep e v) : ∀ {es : List (Value × AV)} {ms : List MapEntry} (i : Nat), entriesR e es ms → entriesR e (es.set i (k, a)) (ms.modify i fun m => { m with key := k, val := v })
  | [], ms, i, h => by simp only [entriesR] at h; subst h; cases i <;> simp [entriesR]
  | (k', a') :: es, ms, 0, h => by
    obtain ⟨m, ms', rfl, h2, h3, h4⟩ := h
    exact ⟨_, ms', rfl, rfl, hv, h4⟩
  | (k', a') :: es, ms, i + 1, h => by
    obtain ⟨m, ms', rfl, h2, h3, h4⟩ := h
    exact ⟨m, _, rfl, h2, h3, entriesR_modify hv i h4⟩
theorem entriesR_push {e : Env} {k : Value} {a : AV} {v : Value} {c : Nat} (hv : a.rep e v) : ∀ {es : List (Value × AV)} {ms : List MapEntry}, entriesR e es ms → entriesR e (es ++ [(k, a)]) (ms ++ [{ key := k, val := v, born := c }])
  | [], ms, h => by simp only [entriesR] at h; subst h; exact ⟨_, [], rfl, rfl, hv, rfl⟩
  | (k', a') :: es, ms, h => by
    obtain ⟨m, ms', rfl, h2, h3, h4⟩ := h
    exact ⟨m, _, rfl, h2, h3, entriesR_push hv h4⟩
def setEK : List (Value × AV) → Nat → (Value × AV) → (List (Value × AV) → Option R) → Option R
  | [], _, _, K => K []
  | _ :: es, 0, x, K => K (x :: es)
  | y :: es, i + 1, x, K => setEK es i x fun es => K (y :: es)
theorem setEK_eq : ∀ (es : List (Value × AV)) (i : Nat) (x : Value × AV) (K : List (Value × AV) → Option R), setEK es i x K = K (es.set i x)
  | [], _, _, _ => by simp [setEK]
  | _ :: _, 0, _, _ => by simp [setEK]
  | _ :: es, i + 1, x, K => by simp [setEK, setEK_eq es]
def pushEK : List (Value × AV) → (Value × AV) → (List (Value × AV) → Option R) → Option R
  | [], x, K => K [x]
  | y :: es, x, K => pushEK es x fun es => K (y :: es)
theorem pushEK_eq : ∀ (es : List (Value × AV)) (x : Value × AV) (K : List (Value × AV) → Option R), pushEK es x K = K (es ++ [x])
  | [], _, _ => rfl
  | _ :: es, x, K => by simp [pushEK, pushEK_eq es]
def makeMapB (P : Program) (tm : Tm) (t : TypeId) : Option Operand → Bool
  | none => true
  | some x => match intA tm x, P.underlying t with
    | some _, some (.map _ _) => true
    | _, _ => false
def makeMapK (P : Program) (tm : Tm) (t : TypeId) (r : Option Operand) (M : Tr Blk) (n : Nat) (K : AV → Tr Blk → Nat → Option R) : Option R :=
  cond (makeMapB P tm t r) (Tr.setK FU M n (some (.map [] 0)) fun M' => fN (n + 1) fun n' => K (.map n) M' n') none
theorem makeMapK_ok {P : Program} {tm : Tm} {o : Oper} {t : TypeId} {x : Option Operand} {M : Tr Blk} {n : Nat} {K : AV → Tr Blk → Nat → Option R} {r : R} (ho : o.op = .makeMap t x) (h : makeMapK P tm t x M n K = some r) : ∃ av M' n', K av M' n' = some r ∧ OpR P tm o M n av M' n' := by
  unfold makeMapK at h
  cases hc : makeMapB P tm t x with
  | false => rw [hc] at h; cases h
  | true =>
    rw [hc] at h
    obtain ⟨M', h1, h2⟩ := Tr.setK_some (f := FU) h
    rw [fN_eq] at h1
    refine ⟨_, _, _, h1, fun b0 e a w hM hT next hk => ?_⟩
    have hrun : (execOp a.eval o).run P w = .ok (.value (.map (some w.heap.size))) (w.alloc (.map #[] 0)) := by
      cases x with
      | none => simp only [execOp, ho]; rfl
      | some y =>
        simp only [makeMapB] at hc
        split at hc
        case h_2 => cases hc
        rename_i k kt et hy hu
        obtain ⟨kk, hkk⟩ := intA_eval hT (by simp [ho, Op.operands]) hy
        simp [execOp, ho, Instr.makeMap, underlying, hu, hkk, asInt, asIntOf]
    rw [hrun]
    have hen : e n = none := hM.new n (.inl (Nat.le_refl _))
    refine hk (e.put n (w.heap.size, 0)) _ _ (Later.put hen _) (hM.push (M' := M'.get) rfl hen (fun h => Nat.lt_irrefl _ (hM.res n h)) (Nat.le_succ n) (Nat.lt_succ_self n) h2 ⟨w.heap.size, 0, [], put_at _ _ _, by simp [World.alloc, -World.alloc_eq], rfl, fun hx => ?_⟩) (by simp only [AV.rep]; exact ⟨_, _, put_at _ _ _, rfl⟩)
    have := b0.lt _ hx
    have := hM.kept.size
    omega
def zeroA (P : Program) (t : TypeId) (ok : Bool) : Option AV := match P.info? t with
  | some i => match i.zero with
    | some z => some (cond ok (.tuple [.lit z, .lit (.bool false)]) (.lit z))
    | none => none
  | none => none
def lookupA (P : Program) (tm : Tm) (t : TypeId) (x ix : Operand) (ok : Bool) (M : Tr Blk) : Option AV := match P.underlying t with
  | some (.map kt el) => match P.underlying kt with
    | some d => match evA tm ix with
      | some (.lit kv) => cond (keyB d kv) (match evA tm x with
        | some (.map b) => match M.get b with
          | some (.map es _) => match findA d kv es 0 with
            | some (some (_, a)) => some (holdsA ok a)
            | some none => zeroA P el ok
            | none => none
          | _ => none
        | some (.lit (.map none)) => zeroA P el ok
        | _ => none) none
      | _ => none
    | none => none
  | _ => none
theorem holdsA_rep {e : Env} {ok : Bool} {b : AV} {v : Value} (hb : b.rep e v) : (holdsA ok b).rep e (if ok then .tuple #[v, .bool true] else v) := by
  cases ok with
  | true => simp only [holdsA, cond_true, if_true, AV.rep]; exact ⟨[v, .bool true], rfl, by simp only [AV.repL]; exact ⟨_, _, rfl, hb, _, _, rfl, by simp only [AV.rep], rfl⟩⟩
  | false => exact hb
theorem zeroA_ok {P : Program} {t : TypeId} {ok : Bool} {av : AV} (h : zeroA P t ok = some av) (e : Env) : ∃ z, (∀ w, (zeroValue t).run P w = .ok z w) ∧ av.rep e (if ok then .tuple #[z, .bool false] else z) := by
  unfold zeroA at h
  split at h
  case h_2 => cases h
  rename_i i hi
  split at h
  case h_2 => cases h
  rename_i z hz
  cases h
  refine ⟨z, fun w => by simp [zeroValue, typeInfo, hi, hz], ?_⟩
  cases ok with
  | true => simp only [cond_true, if_true, AV.rep]; exact ⟨[z, .bool false], rfl, by simp only [AV.repL, AV.rep]; exact ⟨_, _, rfl, rfl, _, _, rfl, rfl, rfl⟩⟩
  | false => simp only [cond_false, AV.rep]; rfl
theorem lookupA_ok {P : Program} {tm : Tm} {o : Oper} {t : TypeId} {x ix : Operand} {ok : Bool} {M : Tr Blk} {n : Nat} {av : AV} (ho : o.op = .lookup t x ix ok) (h : lookupA P tm t x ix ok M = some av) : OpR P tm o M n av M n := by
  intro b0 e a w hM hT next hk
  unfold lookupA at h
  split at h
  case h_2 => cases h
  rename_i kt el hu
  split at h
  case h_2 => cases h
  rename_i d hd
  split at h
  case h_2 => cases h
  rename_i kv hkv
  cases hc : keyB d kv with
  | false => rw [hc] at h; cases h
  | true =>
  rw [hc] at h
  simp only [cond_true] at h
  have hix := hT _ (by simp [ho, Op.operands]) _ hkv
  simp only [AV.rep] at hix
  have hck : ∀ b, (Instr.checkKey b 10000 kt kv).run P w = .ok () w := fun b => run_checkKey hd (keyB_is hc) b 9999
  split at h
  · rename_i b hx
    split at h
    case h_2 => cases h
    rename_i es clock hb
    have hr := hT _ (by simp [ho, Op.operands]) _ hx
    simp only [AV.rep] at hr
    obtain ⟨B, tt, q1, q2⟩ := hr
    obtain ⟨B', t', ms, g1, g2, g3, g4⟩ := hM.blk b _ hb
    rw [q1] at g1; cases g1
    have hget := MapKept.run_getObj_map (P := P) g2
    split at h
    · rename_i j av' hf
      cases h
      obtain ⟨v, m, f1, f2, _⟩ := findA_some g3 hf
      have hfk := run_findKey (P := P) (w := w) hd f1
      have hrun : (execOp a.eval o).run P w = .ok (.value (if ok then .tuple #[v, .bool true] else v)) w := by
        simp [execOp, ho, Instr.lookup, underlying, hu, q2, hix, hget, hck, hfk]
      rw [hrun]
      exact hk e _ w (Later.refl e) hM (holdsA_rep f2)
    · rename_i hf
      have f1 := findA_none g3 hf
      have hfk := run_findKey (P := P) (w := w) hd f1
      obtain ⟨z, z1, z2⟩ := zeroA_ok h e
      have hrun : (execOp a.eval o).run P w = .ok (.value (if ok then .tuple #[z, .bool false] else z)) w := by
        simp [execOp, ho, Instr.lookup, underlying, hu, q2, hix, hget, hck, hfk, z1]
      rw [hrun]
      exact hk e _ w (Later.refl e) hM z2
    · cases h
  · rename_i hx
    have hr := hT _ (by simp [ho, Op.operands]) _ hx
    simp only [AV.rep] at hr
    have hfk := run_findKey (P := P) (w := w) (l := []) hd (show Instr.findNow d kv [] 0 = some none from rfl)
    obtain ⟨z, z1, z2⟩ := zeroA_ok h e
    have hrun : (execOp a.eval o).run P w = .ok (.value (if ok then .tuple #[z, .bool false] else z)) w := by
      simp [execOp, ho, Instr.lookup, underlying, hu, hr, hix, hck, hfk, z1]
    rw [hrun]
    exact hk e _ w (Later.refl e) hM z2
  · cases h
def mapPutK (P : Program) (tm : Tm) (t : TypeId) (m k x : Operand) (M : Tr Blk) (K : Tr Blk → Option R) : Option R := match P.underlying t with
  | some (.map kt _) => match P.underlying kt with
    | some d => match evA tm k with
      | some (.lit kv) => cond (keyB d kv) (match evA tm x with
        | some av => match evA tm m with
          | some (.map b) => match M.get b with
            | some (.map es c) => match findA d kv es 0 with
              | some (some (i, _)) => setEK es i (kv, av) fun es => Tr.setK FU M b (some (.map es c)) K
              | some none => pushEK es (kv, av) fun es => fN (c + 1) fun c => Tr.setK FU M b (some (.map es c)) K
              | none => none
            | _ => none
          | _ => none
        | none => none) none
      | _ => none
    | none => none
  | _ => none
theorem grownBy_set (w : World) (B : Nat) (ob : Obj) : w.grownBy { w with heap := w.heap.setIfInBounds B ob } (some B) :=
  ⟨rfl, rfl, rfl, by simp, fun k hk hne => by
    simp only [Array.getElem?_setIfInBounds]
    rw [if_neg (fun h => hne (by rw [h]))]⟩
theorem mapPutK_ok {P : Program} {tm : Tm} {o : Oper} {t : TypeId} {m k x : Operand} {M : Tr Blk} {n : Nat} {K : Tr Blk → Option R} {r : R} (ho : o.op = .mapUpdate t m k x ∨ o.op = .insert t m k x) (h : mapPutK P tm t m k x M K = some r) :
    ∃ M', K M' = some r ∧ OpR P tm o M n (.lit undef) M' n := by
  unfold mapPutK at h
  split at h
  case h_2 => cases h
  rename_i kt el hu
  split at h
  case h_2 => cases h
  rename_i d hd
  split at h
  case h_2 => cases h
  rename_i kv hkv
  cases hc : keyB d kv with
  | false => rw [hc] at h; cases h
  | true =>
  rw [hc] at h
  simp only [cond_true] at h
  split at h
  case h_2 => cases h
  rename_i av hx
  split at h
  case h_2 => cases h
  rename_i b hm
  split at h
  case h_2 => cases h
  rename_i es c hb
  have hopd : ∀ y, y = m ∨ y = k ∨ y = x → y ∈ o.op.operands.toList := by
    intro y hy
    rcases ho with ho | ho <;> rcases hy with rfl | rfl | rfl <;> simp [ho, Op.operands]
  have hexec : ∀ (a : Act) (w w' : World), (Instr.mapUpdate t (a.eval m) (a.eval k) (a.eval x)).run P w = .ok () w' → (execOp a.eval o).run P w = .ok .skip w' := by
    intro a w w' hr
    rcases ho with ho | ho <;> simp [execOp, ho, hr]
  have hck : ∀ w b, (Instr.checkKey b 10000 kt kv).run P w = .ok () w := fun w b => run_checkKey hd (keyB_is hc) b 9999
  have fin : ∀ (es' : List (Value × AV)) (c' : Nat) (M' : Tr Blk), (∀ j, M'.get j = if j = b then some (.map es' c') else M.get j) →
      (∀ (a : Act) (e : Env) (w : World) (B : Nat) (ms : List MapEntry), a.eval m = .map (some B) → a.eval k = kv → av.rep e (a.eval x) → w.heap[B]? = some (.map ⟨ms⟩ c) → entriesR e es ms → ∃ ms', entriesR e es' ms' ∧ (Instr.mapUpdate t (a.eval m) (a.eval k) (a.eval x)).run P w = .ok () { w with heap := w.heap.setIfInBounds B (.map ⟨ms'⟩ c') }) →
      OpR P tm o M n (.lit undef) M' n := by
    intro es' c' M' hM' hrun b0 e a w hM hT next hk
    have hr := hT _ (hopd m (.inl rfl)) _ hm
    simp only [AV.rep] at hr
    obtain ⟨B, tt, q1, q2⟩ := hr
    obtain ⟨B', t', ms, g1, g2, g3, g4⟩ := hM.blk b _ hb
    rw [q1] at g1; cases g1
    have hkr := hT _ (hopd k (.inr (.inl rfl))) _ hkv
    simp only [AV.rep] at hkr
    obtain ⟨ms', r1, r2⟩ := hrun a e w B ms q2 hkr (hT _ (hopd x (.inr (.inr rfl))) _ hx) g2 g3
    rw [hexec a w _ r2]
    have hlt := (Array.getElem?_eq_some_iff.1 g2).1
    refine hk e _ _ (Later.refl e) (hM.upd hb q1 g4 (grownBy_set w B _) hM' ⟨B, tt, ms', q1, by simp [hlt], r1, g4⟩) (by simp only [AV.rep])
  split at h
  · rename_i i a' hf
    rw [setEK_eq] at h
    obtain ⟨M', h1, h2⟩ := Tr.setK_some (f := FU) h
    refine ⟨M', h1, fin _ _ M' h2 fun a e w B ms q2 hkr hxr g2 g3 => ?_⟩
    obtain ⟨v, me, f1, f2, f3, f4, f5⟩ := findA_some g3 hf
    rw [Nat.sub_zero] at f4
    have hfk := run_findKey (P := P) (w := w) hd f1
    have hget := MapKept.run_getObj_map (P := P) g2
    have hme : (⟨ms⟩ : Array MapEntry)[i]? = some me := by simpa using f4
    have hst : ∀ w : World, (Instr.keyThatStays me.key kv).run P w = .ok kv w := fun w => by
      unfold Instr.keyThatStays
      rw [if_pos (sameBits_of 10000 f5)]
      rfl
    refine ⟨_, entriesR_modify hxr i g3, ?_⟩
    have hset := run_setObj_map (P := P) (.map ((⟨ms⟩ : Array MapEntry).modify i fun e => { e with key := kv, val := a.eval x }) c) g2
    simp only [Instr.mapUpdate, underlying, hu, Sem.run_bind, run_program, Sem.run_pure, Result.andThen_ok, q2, hget, hkr, hck, hfk, hme, Option.map_some, Option.getD_some, hst, hset]
    congr 4
    apply Array.ext'
    simp
  · rename_i hf
    rw [pushEK_eq, fN_eq] at h
    obtain ⟨M', h1, h2⟩ := Tr.setK_some (f := FU) h
    refine ⟨M', h1, fin _ _ M' h2 fun a e w B ms q2 hkr hxr g2 g3 => ?_⟩
    have f1 := findA_none g3 hf
    have hfk := run_findKey (P := P) (w := w) hd f1
    have hget := MapKept.run_getObj_map (P := P) g2
    refine ⟨_, entriesR_push (c := c) hxr g3, ?_⟩
    have hset := run_setObj_map (P := P) (.map ((⟨ms⟩ : Array MapEntry).push { key := kv, val := a.eval x, born := c }) (c + 1)) g2
    simp only [Instr.mapUpdate, underlying, hu, Sem.run_bind, run_program, Sem.run_pure, Result.andThen_ok, q2, hget, hkr, hck, hfk, hset]
    congr 4
    apply Array.ext'
    simp
  · cases h

/-! ## new rows -/
def makeSliceA (P : Program) (tm : Tm) (t : TypeId) (l c : Operand) : Option (List AV × (Nat → AV)) := match P.underlying t with
  | some (.slice e) => match P.info? e, zcells P e, intA tm l, intA tm c with
    | some i, some z, some l, some c => cond (decide (0 ≤ l) && decide (l ≤ c) && Nat.beq z.length i.size && decide ((i.bytes : Int) * c ≤ 281474976710656) && decide (c ≤ 9223372036854775807)) (some (repeatL z c.toNat, fun n => .slice n 0 l.toNat i.size c.toNat true)) none
    | _, _, _, _ => none
  | _ => none
theorem makeSliceA_ok {P : Program} {tm : Tm} {o : Oper} {t : TypeId} {l c : Operand} {z : List AV} {f : Nat → AV} (ho : o.op = .makeSlice t l c) (h : makeSliceA P tm t l c = some (z, f)) : AllocR P tm o z f := by
  unfold makeSliceA at h
  split at h
  case h_2 => cases h
  rename_i el hu
  split at h
  case h_2 => cases h
  rename_i i z' ln cn hi hz hl hc
  cases hb : (decide (0 ≤ ln) && decide (ln ≤ cn) && Nat.beq z'.length i.size && decide ((i.bytes : Int) * cn ≤ 281474976710656) && decide (cn ≤ 9223372036854775807)) with
  | false => rw [hb] at h; cases h
  | true =>
  rw [hb] at h
  cases h
  simp only [Bool.and_eq_true, decide_eq_true_eq] at hb
  obtain ⟨⟨⟨⟨b1, b2⟩, b3⟩, b4⟩, b5⟩ := hb
  have b3 := Nat.eq_of_beq_eq_true b3
  intro e a w hT
  obtain ⟨kl, hl⟩ := intA_eval hT (by simp [ho, Op.operands]) hl
  obtain ⟨kc, hc⟩ := intA_eval hT (by simp [ho, Op.operands]) hc
  unfold zcells at hz
  rw [hi] at hz
  simp only at hz
  split at hz
  case h_2 => cases hz
  rename_i zv hzv
  cases hz
  have hzr : AV.repL e (AV.cells (.lit zv)) zv.cells.toList := cells_rep (by simp only [AV.rep])
  have hlen := repL_length hzr
  have hsz : zv.cells.size = i.size := by rw [← b3, ← hlen]; simp
  have hrow := rows_rep hzr cn.toNat
  rw [hsz] at hrow
  refine ⟨(madeCells zv.cells (cn.toNat * i.size)).toList, el, .slice (some ⟨w.heap.size, 0, none⟩) ln.toNat cn.toNat, ?_, ?_, fun e' j hj => ?_⟩
  · have := run_make (P := P) w t el i zv hu hi hzv kl kc ln cn b1 b2 b4 b5
    simp only [execOp, ho, hl, hc, Sem.run_bind, this, Result.andThen_ok, Sem.run_pure]
  · unfold madeCells
    rw [hsz]
    exact hrow
  · simp only [AV.rep]
    refine ⟨w.heap.size, _, cn.toNat, _, hj, rfl, .inl rfl, by omega, Nat.le_refl _, fun _ => rfl, ?_⟩
    rw [Array.length_toList, size_madeCells]
    omega

/-! ## a string of bytes -/
def bytesA : List AV → Option (List UInt8)
  | [] => some []
  | .lit (.int .u8 n) :: l => cond (decide (0 ≤ n) && decide (n < 256)) (match bytesA l with
    | some bs => some (UInt8.ofNat n.toNat :: bs)
    | none => none) none
  | _ :: _ => none
theorem bytesA_ok {e : Env} : ∀ {l : List AV} {bs : List UInt8} {vs : List Value}, bytesA l = some bs → AV.repL e l vs → vs = bs.map fun b => .int .u8 b.toNat
  | [], bs, vs, h, hr => by simp only [bytesA] at h; cases h; simp only [AV.repL] at hr; subst hr; rfl
  | a :: l, bs, vs, h, hr => by
    unfold bytesA at h
    split at h
    · rename_i hnil; cases hnil
    · rename_i n l' heq
      cases heq
      cases hc : (decide (0 ≤ n) && decide (n < 256)) with
      | false => rw [hc] at h; cases h
      | true =>
        rw [hc] at h
        simp only [cond_true] at h
        split at h
        case h_2 => cases h
        rename_i bs' hbs
        cases h
        simp only [Bool.and_eq_true, decide_eq_true_eq] at hc
        simp only [AV.repL, AV.rep] at hr
        obtain ⟨x, xs, rfl, rfl, h2⟩ := hr
        rw [bytesA_ok hbs h2]
        simp only [List.map_cons, List.cons.injEq, and_true, Value.int.injEq, true_and]
        rw [show (UInt8.ofNat n.toNat).toNat = n.toNat by simp; omega]
        omega
    · cases h
def strA (P : Program) (tm : Tm) (s d : TypeId) (x : Operand) (M : Tr Blk) : Option AV := match evA tm x with
  | some (.slice b o n sz _ _) => match P.underlying s, P.underlying d with
    | some (.slice e), some .string => match P.underlying e, M.get b with
      | some (.int .u8), some (.cells l _) => cond (Nat.beq sz 1 && Nat.ble (o + n) l.length) (match bytesA ((l.drop o).take n) with
        | some bs => some (.lit (.string ⟨⟨bs⟩⟩))
        | none => none) none
      | _, _ => none
    | _, _ => none
  | _ => none
theorem strA_ok {P : Program} {tm : Tm} {o : Oper} {s d : TypeId} {x : Operand} {M : Tr Blk} {n : Nat} {av : AV} (ho : o.op = .convert s d x) (h : strA P tm s d x M = some av) : OpR P tm o M n av M n := by
  intro b0 e a w hM hT next hk
  unfold strA at h
  split at h
  case h_2 => cases h
  rename_i b ofs len sz c ex hx
  split at h
  case h_2 => cases h
  rename_i el hs hd
  split at h
  case h_2 => cases h
  rename_i l rw he hb
  cases hc : (Nat.beq sz 1 && Nat.ble (ofs + len) l.length) with
  | false => rw [hc] at h; cases h
  | true =>
  rw [hc] at h
  simp only [cond_true] at h
  split at h
  case h_2 => cases h
  rename_i bs hbs
  cases h
  simp only [Bool.and_eq_true] at hc
  have hle := Nat.le_of_ble_eq_true hc.2
  obtain ⟨B, tt, vs, rest, g1, g2, g3, g4, g5⟩ := hM.blk b _ hb
  have hr := hT _ (by simp [ho, Op.operands]) _ hx
  simp only [AV.rep] at hr
  obtain ⟨B', t', kk, A, q1, q2, q3, q4, _⟩ := hr
  rw [g1] at q1; cases q1
  have hvs := bytesA_ok hbs (repL_take (n := len) (repL_drop (n := ofs) g4))
  have hlen := repL_length g4
  have hbl : bs.length = len := by
    have := congrArg List.length hvs
    simp at this
    omega
  have hrun := run_convert_bytes_back (P := P) w s d el A kk bs hs he hd fun j hj => by
    rcases q3 with rfl | q3
    rotate_left
    · omega
    rw [add_mk]
    have h1 : ((vs.drop ofs).take len)[j]? = some (.int .u8 (bs[j].toNat : Int)) := by rw [hvs]; simp [hj]
    rw [List.getElem?_take_of_lt (by omega), List.getElem?_drop] at h1
    exact g2.cell (by rw [List.getElem?_append_left (by omega)]; exact h1)
  rw [hbl] at hrun
  have hfin : (execOp a.eval o).run P w = .ok (.value (.string ⟨bs.toArray⟩)) w := by
    simp only [execOp, ho, q2, Sem.run_bind, hrun, Result.andThen_ok, Sem.run_pure]
  rw [hfin]
  exact hk e _ w (Later.refl e) hM (by simp only [AV.rep])

/-! ## the bytes of a string -/
def rowStrK (P : Program) (tm : Tm) (s d : TypeId) (x : Operand) (M : Tr Blk) (n : Nat) (K : AV → Tr Blk → Nat → Option R) : Option R := match evA tm x with
  | some (.lit (.string t)) => match P.underlying s, P.underlying d with
    | some .string, some (.slice e) => match P.underlying e with
      | some (.int .u8) => fL ((byteCells t).map .lit) fun l => Tr.setK FU M n (some (.cells l false)) fun M' => fN (n + 1) fun n' => fN t.size fun z => K (.slice n 0 z 1 z false) M' n'
      | _ => none
    | _, _ => none
  | _ => none
theorem rowStrK_ok {P : Program} {tm : Tm} {o : Oper} {s d : TypeId} {x : Operand} {M : Tr Blk} {n : Nat} {K : AV → Tr Blk → Nat → Option R} {r : R} (ho : o.op = .convert s d x) (h : rowStrK P tm s d x M n K = some r) : ∃ av M' n', K av M' n' = some r ∧ OpR P tm o M n av M' n' := by
  unfold rowStrK at h
  split at h
  case h_2 => cases h
  rename_i t hx
  split at h
  case h_2 => cases h
  rename_i el hs hd
  split at h
  case h_2 => cases h
  rename_i he
  rw [fL_eq] at h
  obtain ⟨M', h1, h2⟩ := Tr.setK_some (f := FU) h
  rw [fN_eq, fN_eq] at h1
  refine ⟨_, _, _, h1, fun b0 e a w hM hT next hk => ?_⟩
  have hr := hT _ (by simp [ho, Op.operands]) _ hx
  simp only [AV.rep] at hr
  have hrun : (execOp a.eval o).run P w = .ok (.value (.slice (some ⟨w.heap.size, 0, none⟩) t.size (grownCap w t.size 0 el))) (bytesWorld w el t) := by
    simp only [execOp, ho, hr, Sem.run_bind, Lib.run_convert_string_bytes w s d el t hs hd he, Result.andThen_ok, Sem.run_pure]
  rw [hrun]
  have hen : e n = none := hM.new n (.inl (Nat.le_refl _))
  have hge : t.size ≤ grownCap w t.size 0 el := by have := grownCap_ge w t.size 0 el; omega
  have hcs : (bytesCells w el t).toList = byteCells t ++ (Array.replicate (grownCap w t.size 0 el - t.size) (Value.int .u8 0)).toList := by
    unfold bytesCells byteCells
    simp
  have hbl : (byteCells t).length = t.size := byteCells_length t
  refine hk (e.put n (w.heap.size, grownCap w t.size 0 el)) _ _ (Later.put hen _) (hM.pushG (M' := M'.get) ⟨rfl, rfl, rfl, ?_, fun k hk _ => bytesWorld_at_old w el t k hk⟩ hen (fun h => Nat.lt_irrefl _ (hM.res n h)) (Nat.le_succ n) (Nat.lt_succ_self n) h2
    ⟨w.heap.size, grownCap w t.size 0 el, byteCells t, (Array.replicate (grownCap w t.size 0 el - t.size) (Value.int .u8 0)).toList, put_at _ _ _, ⟨el, ((bytesCells w el t).size, (bytesCells w el t).size + 1), ?_, by exact .inr ⟨rfl, Nat.le_of_eq (by rw [← hcs]; simp)⟩⟩, ?_, lits_rep _, fun hx => ?_⟩) ?_
  · rw [bytesWorld_size]; omega
  · rw [bytesWorld_at_new, ← hcs]
  · rw [List.length_append, hbl]; simp; omega
  · have := b0.lt _ hx
    have := hM.kept.size
    omega
  · simp only [AV.rep]
    exact ⟨_, _, grownCap w t.size 0 el, _, put_at _ _ _, rfl, .inl rfl, hge, hge, nofun, by omega⟩

/-! ## copies -/
def lenA : AV → Option Nat
  | .slice _ _ n _ _ _ => some n
  | .lit (.slice none n _) => some n
  | _ => none
theorem lenA_ok {e : Env} {a : AV} {v : Value} {n : Nat} (h : lenA a = some n) (hr : a.rep e v) : ∃ base c, v = .slice base n c := by
  unfold lenA at h
  split at h
  · cases h
    simp only [AV.rep] at hr
    obtain ⟨B, t, k, A, _, rfl, _⟩ := hr
    exact ⟨_, _, rfl⟩
  · cases h
    simp only [AV.rep] at hr
    exact ⟨_, _, hr⟩
  · cases h
def copyK (P : Program) (tm : Tm) (t : TypeId) (d x : Operand) (M : Tr Blk) (K : AV → Tr Blk → Option R) : Option R := match P.underlying t with
  | some (.slice e) => match P.info? e, evA tm d, evA tm x with
    | some i, some da, some xa => match lenA da, lenA xa with
      | some dl, some xl => cond (Nat.beq (Nat.min xl dl) 0) (K (.lit (.int .i64 0)) M) (match da, xa with
        | .slice b o _ sz _ _, .slice b2 o2 _ sz2 _ _ => fN (Nat.min xl dl) fun n => match M.get b, M.get b2 with
          | some (.cells l true), some (.cells l2 _) => cond (Nat.beq i.size sz && Nat.beq sz2 sz && Nat.ble (o + n * sz) l.length && Nat.ble (o2 + n * sz) l2.length && ones ((l2.drop o2).take (n * sz))) (ovK l o ((l2.drop o2).take (n * sz)) fun l => Tr.setK FU M b (some (.cells l true)) fun M' => K (.lit (.int .i64 n)) M') none
          | _, _ => none
        | _, _ => none)
      | _, _ => none
    | _, _, _ => none
  | _ => none
theorem copyK_ok {P : Program} {tm : Tm} {o : Oper} {c : Call} {t tx : TypeId} {d x : Operand} {M : Tr Blk} {n : Nat} {K : AV → Tr Blk → Option R} {r : R} (ho : o.op = .call c) (hcc : c.callee = .builtin .copy) (hca : c.args = #[d, x]) (hct : c.argTypes = #[t, tx])
    (h : copyK P tm t d x M K = some r) : ∃ av M', K av M' = some r ∧ OpR P tm o M n av M' n := by
  have hexec : ∀ {a : Act} {w w' : World} {v : Value}, (Builtin.copy_ #[t, tx] o.type #[a.eval d, a.eval x]).run P w = .ok v w' → (execOp a.eval o).run P w = .ok (.value v) w' := by
    intro a w w' v hr
    simp [execOp, ho, resolve, hcc, hca, hct, invoke, builtin, hr]
  unfold copyK at h
  split at h
  case h_2 => cases h
  rename_i el hu
  split at h
  case h_2 => cases h
  rename_i i da xa hi hd hx
  split at h
  case h_2 => cases h
  rename_i dl xl hdl hxl
  have hdo : d ∈ o.op.operands.toList := by simp [ho, Op.operands, Call.operands, hcc, hca]
  have hxo : x ∈ o.op.operands.toList := by simp [ho, Op.operands, Call.operands, hcc, hca]
  cases hz : Nat.beq (Nat.min xl dl) 0 with
  | true =>
    rw [hz] at h
    simp only [cond_true] at h
    have hz := Nat.eq_of_beq_eq_true hz
    refine ⟨_, _, h, fun b0 e a w hM hT next hk => ?_⟩
    obtain ⟨bd, cd, ed⟩ := lenA_ok hdl (hT _ hdo _ hd)
    obtain ⟨bx, cx, ex⟩ := lenA_ok hxl (hT _ hxo _ hx)
    have hrun : (Builtin.copy_ #[t, tx] o.type #[a.eval d, a.eval x]).run P w = .ok (.int .i64 0) w := by
      have hfc : (Builtin.firstCells i.size 0 (.slice bx xl cx)).run P w = .ok #[] w := by
        cases bx with
        | none => exact run_firstCells_none w _ _ _ _
        | some A => exact run_firstCells_some w i.size 0 A xl cx [] (by simp) (fun j v hj => by simp at hj)
      cases bd <;> simp [Builtin.copy_, run_underlying hu, ed, ex, Builtin.lenOf, hz, sizeOf, typeInfo, hi, hfc, storeCells, goInt]
    rw [hexec hrun]
    exact hk e _ w (Later.refl e) hM (by simp only [AV.rep])
  | false =>
    rw [hz] at h
    simp only [cond_false] at h
    have hz : Nat.min xl dl ≠ 0 := fun e => by rw [e] at hz; cases hz
    split at h
    case h_2 => cases h
    rename_i b ofs dl' sz cd exd b2 o2 xl' sz2 cx exx
    simp only [lenA, Option.some.injEq] at hdl hxl
    subst hdl
    subst hxl
    rw [fN_eq] at h
    split at h
    case h_2 => cases h
    rename_i l l2 rw2 hb hb2
    generalize hn : Nat.min xl' dl' = m at h hz
    cases hc : (Nat.beq i.size sz && Nat.beq sz2 sz && Nat.ble (ofs + m * sz) l.length && Nat.ble (o2 + m * sz) l2.length && ones ((l2.drop o2).take (m * sz))) with
    | false => rw [hc] at h; cases h
    | true =>
    rw [hc] at h
    simp only [cond_true] at h
    simp only [Bool.and_eq_true] at hc
    obtain ⟨⟨⟨⟨c1, c2⟩, c3⟩, c4⟩, c5⟩ := hc
    have c1 := Nat.eq_of_beq_eq_true c1
    have c3 := Nat.le_of_ble_eq_true c3
    have c4 := Nat.le_of_ble_eq_true c4
    obtain ⟨h1, _⟩ := ovK_some h
    obtain ⟨M', h2, hM'⟩ := Tr.setK_some (f := FU) h1
    refine ⟨_, M', h2, fun b0 e a w hM hT next hk => ?_⟩
    obtain ⟨B, tt, vs, rest, g1, g2, g3, g4, g5⟩ := hM.blk b _ hb
    obtain ⟨B2, tt2, vs2, rest2, f1, f2, f3, f4, f5⟩ := hM.blk b2 _ hb2
    have hr := hT _ hdo _ hd
    simp only [AV.rep] at hr
    obtain ⟨B', t', k, A, q1, q2, q3, q4, _⟩ := hr
    rw [g1] at q1; cases q1
    have hr2 := hT _ hxo _ hx
    simp only [AV.rep] at hr2
    obtain ⟨B2', t2', k2, A2, p1, p2, p3, p4, _⟩ := hr2
    rw [f1] at p1; cases p1
    have hm1 : m ≤ xl' := hn ▸ Nat.min_le_left _ _
    have hm2 : m ≤ dl' := hn ▸ Nat.min_le_right _ _
    rcases q3 with rfl | q3
    rotate_left
    · omega
    rcases p3 with rfl | p3
    rotate_left
    · omega
    have hnr := repL_take (n := m * sz) (repL_drop (n := o2) f4)
    have hlen2 := repL_length f4
    have hlen := repL_length g4
    have hus : ((vs2.drop o2).take (m * sz)).length = m * sz := by simp; omega
    have hfc := run_firstCells_some (P := P) w i.size m ⟨B2, o2, none⟩ xl' k2 ((vs2.drop o2).take (m * sz)) (by rw [hus, c1]) (fun j v hj => by
      have hjl : j < m * sz := by rw [← hus]; exact (List.getElem?_eq_some_iff.1 hj).1
      rw [add_mk]
      rw [List.getElem?_take_of_lt hjl, List.getElem?_drop] at hj
      exact f2.cell (by rw [List.getElem?_append_left (by omega)]; exact hj))
    have hst := storeCells_run (P := P) (a := ⟨B, ofs, none⟩) ((vs2.drop o2).take (m * sz)) w 0 (ones_rep c5 hnr) (box_storable g2 (by simp only [List.length_append]; omega))
    rw [from_sets, Nat.add_zero] at hst
    obtain ⟨s1, s2⟩ := wsets ((vs2.drop o2).take (m * sz)) ofs w _ g2
    rw [over_app _ _ _ _ (by omega)] at s1
    have hrun : (Builtin.copy_ #[t, tx] o.type #[a.eval d, a.eval x]).run P w = .ok (.int .i64 m) (w.setCells B ofs ((vs2.drop o2).take (m * sz))) := by
      simp [Builtin.copy_, run_underlying hu, q2, p2, Builtin.lenOf, hn, sizeOf, typeInfo, hi, hfc, hst, goInt]
    rw [hexec hrun]
    refine hk e _ _ (Later.refl e) (hM.upd hb g1 g5 s2 hM' ⟨B, _, _, rest, g1, s1, ?_, setL_rep ofs hnr g4, g5⟩) (by simp only [AV.rep])
    rw [← g3]; simp [over_len']

/-! ## all of them -/
def memK (P : Program) (tm : Tm) (o : Oper) (M : Tr Blk) (n : Nat) (K : AV → Tr Blk → Nat → Option R) : Option R := match o.op with
  | .call { callee := .builtin .append, args := ⟨[s, x]⟩, argTypes := ⟨[t, tx]⟩ } => appendK P tm t tx s x M n K
  | .call { callee := .builtin .copy, args := ⟨[d, x]⟩, argTypes := ⟨[t, _]⟩ } => copyK P tm t d x M fun av M' => K av M' n
  | .convert s d x => match strA P tm s d x M with
    | some av => fA av fun av => K av M n
    | none => rowStrK P tm s d x M n K
  | .makeMap t x => makeMapK P tm t x M n K
  | .lookup t x ix ok => match lookupA P tm t x ix ok M with
    | some av => fA av fun av => K av M n
    | none => none
  | .mapUpdate t m k x => mapPutK P tm t m k x M fun M' => K (.lit undef) M' n
  | .insert t m k x => mapPutK P tm t m k x M fun M' => K (.lit undef) M' n
  | .makeSlice t l c => match makeSliceA P tm t l c with
    | some (z, f) => newK M n z fun M' n' => fA (f n) fun av => K av M' n'
    | none => none
  | _ => none
theorem memK_ok {P : Program} {tm : Tm} {o : Oper} {M : Tr Blk} {n : Nat} {K : AV → Tr Blk → Nat → Option R} {r : R} (h : memK P tm o M n K = some r) : ∃ av M' n', K av M' n' = some r ∧ OpR P tm o M n av M' n' := by
  unfold memK at h
  split at h
  · rename_i s x t tx ho; exact appendK_ok ho rfl rfl rfl h
  · rename_i d x t tx ho
    obtain ⟨av, M', h1, h2⟩ := copyK_ok ho rfl rfl rfl h
    exact ⟨_, _, _, h1, h2⟩
  · rename_i s d x ho
    split at h
    · rename_i av hav
      rw [fA_eq] at h
      exact ⟨_, _, _, h, strA_ok ho hav⟩
    · exact rowStrK_ok ho h
  · rename_i t x ho; exact makeMapK_ok ho h
  · rename_i t x ix ok ho
    split at h
    · rename_i av hav
      rw [fA_eq] at h
      exact ⟨_, _, _, h, lookupA_ok ho hav⟩
    · cases h
  · rename_i t m k x ho
    obtain ⟨M', h1, h2⟩ := mapPutK_ok (.inl ho) h
    exact ⟨_, _, _, h1, h2⟩
  · rename_i t m k x ho
    obtain ⟨M', h1, h2⟩ := mapPutK_ok (.inr ho) h
    exact ⟨_, _, _, h1, h2⟩
  · rename_i t l c ho
    split at h
    · rename_i z f hz
      obtain ⟨M', h1, h2⟩ := newK_ok h
      rw [fA_eq] at h1
      exact ⟨_, _, _, h1, (makeSliceA_ok ho hz).opR h2⟩
    · cases h
  · cases h
end Go.Am
