/- The machine's operations on memory. -/
import Derived.Test.YtfcemnnlmlggoaaGreatAmC
import Derived.Deep.AppendSrc
namespace Go.Am
open Go.Vc
variable {R : Type}

/-! ## lists, worked out at once -/
def fL : List AV → (List AV → Option R) → Option R
  | [], K => K []
  | a :: l, K => fL l fun l => K (a :: l)
theorem fL_eq : ∀ (l : List AV) (K : List AV → Option R), fL l K = K l
  | [], _ => rfl
  | b :: l, K => by simp only [fL, fL_eq l]
def ovK : List AV → Nat → List AV → (List AV → Option R) → Option R
  | l, _, [], K => K l
  | [], _, _ :: _, _ => none
  | _ :: l, 0, a :: as, K => ovK l 0 as fun t => K (a :: t)
  | x :: l, k + 1, a :: as, K => ovK l k (a :: as) fun t => K (x :: t)
theorem setL_zero (x a : AV) (l as : List AV) : ∀ i, setL (x :: l) (i + 1) as = x :: setL l i as := by
  induction as generalizing l with
  | nil => intro i; rfl
  | cons b as ih => intro i; simp only [setL, List.set_cons_succ]; exact ih _ _
theorem ovK_some {r : R} : ∀ {l : List AV} {k : Nat} {as : List AV} {K : List AV → Option R}, ovK l k as K = some r → K (setL l k as) = some r ∧ k + as.length ≤ max l.length k
  | l, k, [], K, h => by
    have h' : K l = some r := by cases l <;> cases k <;> exact h
    exact ⟨h', by simp only [List.length_nil]; omega⟩
  | [], k, a :: as, K, h => by cases k <;> cases h
  | x :: l, 0, a :: as, K, h => by
    simp only [ovK] at h
    obtain ⟨h1, h2⟩ := ovK_some h
    refine ⟨?_, by simp only [List.length_cons] at h2 ⊢; omega⟩
    simp only [setL, List.set_cons_zero]
    rw [setL_zero a a]; exact h1
  | x :: l, k + 1, a :: as, K, h => by
    simp only [ovK] at h
    obtain ⟨h1, h2⟩ := ovK_some h
    refine ⟨?_, by simp only [List.length_cons] at h2 ⊢; omega⟩
    rw [setL_zero x a]; exact h1

/-! ## worlds -/
theorem wsets {b : Nat} {rw : Bool} : ∀ (vs : List Value) (o : Nat) (w : World) (l : List Value), BoxW w b rw l → BoxW (w.setCells b o vs) b rw (over l o vs) ∧ w.grownBy (w.setCells b o vs) (some b)
  | [], o, w, l, h => ⟨h, ⟨rfl, rfl, rfl, Nat.le_refl _, fun _ _ _ => rfl⟩⟩
  | v :: vs, o, w, l, h => by
    have h1 : BoxW (w.setCell ⟨b, o, none⟩ v) b rw (l.set o v) := h.set rfl
    obtain ⟨h2, h3⟩ := wsets vs (o + 1) _ _ h1
    refine ⟨h2, ⟨h3.os, h3.tape, h3.output, ?_, fun k hk hm => ?_⟩⟩
    · have : (w.setCell ⟨b, o, none⟩ v).heap.size = w.heap.size := by simp [World.setCell]
      rw [← this]; exact h3.size
    · have hs : k < (w.setCell ⟨b, o, none⟩ v).heap.size := by simpa [World.setCell] using hk
      show (World.setCells (w.setCell ⟨b, o, none⟩ v) b (o + 1) vs).heap[k]? = _
      rw [h3.block k hs hm, heap_setCell, if_neg (fun e => hm (by rw [e]))]
theorem from_sets {b i : Nat} : ∀ (vs : List Value) (j : Nat) (w : World), setCellsFrom w ⟨b, i, none⟩ j vs = w.setCells b (i + j) vs
  | [], _, _ => rfl
  | v :: vs, j, w => by
    simp only [setCellsFrom, World.setCells]
    rw [from_sets vs (j + 1), add_mk]
    rfl
theorem box_storable {w : World} {b i : Nat} {rw : Bool} {l : List Value} (h : BoxW w b rw l) {n : Nat} (hn : i + n ≤ l.length) : ∀ j, j < n → (∃ v, w.cell? ((⟨b, i, none⟩ : Addr).add (0 + j)) = some v) ∧ w.frozen? ((⟨b, i, none⟩ : Addr).add (0 + j)) = false := by
  intro j hj
  rw [Nat.zero_add, add_mk]
  exact ⟨⟨_, h.cell (List.getElem?_eq_getElem (show i + j < l.length by omega))⟩, h.frozen (by omega)⟩
theorem over_app : ∀ (us A B : List Value) (i : Nat), i + us.length ≤ A.length → over (A ++ B) i us = over A i us ++ B
  | [], _, _, _, _ => rfl
  | u :: us, A, B, i, h => by
    simp only [List.length_cons] at h
    simp only [over]
    rw [List.set_append_left _ _ (by omega), over_app us _ _ _ (by simp; omega)]
theorem over_eq : ∀ (us A : List Value) (i : Nat), i + us.length ≤ A.length → over A i us = A.take i ++ us ++ A.drop (i + us.length)
  | [], A, i, _ => by simp [over]
  | u :: us, A, i, h => by
    simp only [List.length_cons] at h
    simp only [over]
    rw [over_eq us _ _ (by simp; omega)]
    have h1 : (A.set i u).take (i + 1) = A.take i ++ [u] := by
      rw [List.take_add_one, List.take_set_of_le (Nat.le_refl _)]
      simp [show i < A.length by omega]
    have h2 : (A.set i u).drop (i + 1 + us.length) = A.drop (i + (u :: us).length) := by
      rw [List.drop_set_of_lt (by omega)]; simp only [List.length_cons]; congr 1; omega
    rw [h1, h2]; simp

/-! ## what an operation comes to -/
def OpR (P : Program) (tm : Tm) (o : Oper) (M : Tr Blk) (n : Nat) (av : AV) (M' : Tr Blk) (n' : Nat) : Prop :=
  ∀ b0 e a w, MemR b0 e M.get n w → OpdR e tm a o.op.operands.toList → ∀ next : Value → World → Prop, (∀ e' v w', Later e e' → MemR b0 e' M'.get n' w' → av.rep e' v → next v w') → After P next ((execOp a.eval o).run P w)
theorem OpR.pure {P : Program} {tm : Tm} {o : Oper} {M : Tr Blk} {n : Nat} {av : AV} (h : PureR P tm o av) : OpR P tm o M n av M n := by
  intro b0 e a w hM hT next hk
  obtain ⟨v, h1, h2⟩ := h e a hT
  rw [h2 w]
  exact hk e v w (Later.refl e) hM h1
def FU : Nat := 40

/-- a load -/
def loadK (P : Program) (tm : Tm) (t : TypeId) (x : Operand) (M : Tr Blk) (K : AV → Option R) : Option R := match evA tm x with
  | some (.ptr b k) => match M.get b with
    | some (.cells l _) => match aggT P t with
      | some true => match P.info? t with
        | some i => cond (Nat.ble (k + i.size) l.length) (fL ((l.drop k).take i.size) fun cs => K (.agg cs)) none
        | none => none
      | some false => match l[k]? with
        | some av => K av
        | none => none
      | none => none
    | _ => none
  | _ => none
theorem loadK_ok {P : Program} {tm : Tm} {o : Oper} {t : TypeId} {x : Operand} {M : Tr Blk} {n : Nat} {K : AV → Option R} {r : R} (ho : o.op = .load t x) (h : loadK P tm t x M K = some r) : ∃ av, K av = some r ∧ OpR P tm o M n av M n := by
  unfold loadK at h
  split at h
  case h_2 => cases h
  rename_i b k hx
  split at h
  case h_2 => cases h
  rename_i l rw hb
  have base : ∀ {b0 : Base} {e : Env} {a : Act} {w : World}, MemR b0 e M.get n w → OpdR e tm a o.op.operands.toList → ∃ B vs rest, a.eval x = .pointer (some ⟨B, k, none⟩) ∧ BoxW w B rw (vs ++ rest) ∧ AV.repL e l vs := by
    intro b0 e a w hM hT
    obtain ⟨B, t, vs, rest, h1, h2, h3, h4, h5⟩ := hM.blk b _ hb
    have hr := hT _ (by simp [ho, Op.operands]) _ hx
    simp only [AV.rep] at hr
    obtain ⟨B', t', g1, g2⟩ := hr
    rw [h1] at g1; cases g1
    exact ⟨B, vs, rest, g2, h2, h4⟩
  split at h
  · rename_i ha
    split at h
    case h_2 => cases h
    rename_i i hi
    cases hc : Nat.ble (k + i.size) l.length with
    | false => rw [hc] at h; cases h
    | true =>
      rw [hc] at h
      simp only [cond_true, fL_eq] at h
      have hle := Nat.le_of_ble_eq_true hc
      refine ⟨_, h, fun b0 e a w hM hT next hk => ?_⟩
      obtain ⟨B, vs, rest, g1, g2, g3⟩ := base hM hT
      have hlen := repL_length g3
      have hs : ((vs.drop k).take i.size).length = i.size := by simp; omega
      have hcs : CellsAt w ⟨B, k, none⟩ ((vs.drop k).take i.size) := g2.cells k fun j hj => by
        rw [hs] at hj
        rw [List.getElem?_append_left (by omega), List.getElem?_eq_getElem (by omega)]
        simp
      have hl := loadCells_run (P := P) (w := w) (a := ⟨B, k, none⟩) ((vs.drop k).take i.size) 0 #[] (fun j hj => by simpa using hcs j hj)
      rw [hs] at hl
      simp only [execOp, ho, Instr.loadAt, g1, Instr.sureAddr, loadVar, Sem.run_bind, Sem.run_pure, Result.andThen_ok, aggT_run ha, if_true, sizeOf, typeInfo, run_program, hi, loadCells, hl, After]
      exact hk e _ w (Later.refl e) hM (by simp only [AV.rep]; exact ⟨_, by simp, repL_take (repL_drop g3)⟩)
  · rename_i ha
    split at h
    case h_2 => cases h
    rename_i av hav
    refine ⟨_, h, fun b0 e a w hM hT next hk => ?_⟩
    obtain ⟨B, vs, rest, g1, g2, g3⟩ := base hM hT
    obtain ⟨v, hv, hr⟩ := repL_get g3 hav
    have hlt := (List.getElem?_eq_some_iff.1 hv).1
    have hc : w.cell? ⟨B, k, none⟩ = some v := g2.cell (by rw [List.getElem?_append_left hlt]; exact hv)
    simp only [execOp, ho, Instr.loadAt, g1, Instr.sureAddr, loadVar, Sem.run_bind, Sem.run_pure, Result.andThen_ok, aggT_run ha, Bool.false_eq_true, if_false, run_load, hc, After]
    exact hk e v w (Later.refl e) hM hr
  · cases h

/-- cells that may each be written -/
def ones : List AV → Bool
  | [] => true
  | a :: l => a.one && ones l
theorem ones_rep {e : Env} : ∀ {l : List AV} {vs : List Value}, ones l = true → AV.repL e l vs → ∀ v ∈ vs, v.oneCell' = true
  | [], _, _, h, v, hv => by simp only [AV.repL] at h; subst h; cases hv
  | _ :: _, _, ho, h, v, hv => by
    simp only [AV.repL] at h
    obtain ⟨x, xs, rfl, h1, h2⟩ := h
    simp only [ones, Bool.and_eq_true] at ho
    rcases List.mem_cons.1 hv with rfl | hv
    · exact one_rep ho.1 h1
    · exact ones_rep ho.2 h2 v hv
/-- a store -/
def storeK (P : Program) (tm : Tm) (t : TypeId) (x v : Operand) (M : Tr Blk) (K : Tr Blk → Option R) : Option R := match evA tm x, evA tm v with
  | some (.ptr b k), some av => match M.get b with
    | some (.cells l rw) => match P.info? t with
      | some i => cond (Nat.beq av.cells.length i.size && ones av.cells && Nat.ble (k + i.size) l.length) (ovK l k av.cells fun l => Tr.setK FU M b (some (.cells l rw)) K) none
      | none => none
    | _ => none
  | _, _ => none
theorem storeK_ok {P : Program} {tm : Tm} {o : Oper} {t : TypeId} {x v : Operand} {M : Tr Blk} {n : Nat} {K : Tr Blk → Option R} {r : R} (ho : o.op = .store t x v) (h : storeK P tm t x v M K = some r) : ∃ M', K M' = some r ∧ OpR P tm o M n (.lit undef) M' n := by
  unfold storeK at h
  split at h
  case h_2 => cases h
  rename_i b k av hx hv
  split at h
  case h_2 => cases h
  rename_i l rw hb
  split at h
  case h_2 => cases h
  rename_i i hi
  cases hc : (Nat.beq av.cells.length i.size && ones av.cells && Nat.ble (k + i.size) l.length) with
  | false => rw [hc] at h; cases h
  | true =>
    rw [hc] at h
    simp only [Bool.and_eq_true] at hc
    obtain ⟨⟨c1, c2⟩, c3⟩ := hc
    have c1 := Nat.eq_of_beq_eq_true c1
    have c3 := Nat.le_of_ble_eq_true c3
    obtain ⟨h1, _⟩ := ovK_some h
    obtain ⟨M', h2, hM'⟩ := Tr.setK_some (f := FU) h1
    refine ⟨M', h2, fun b0 e a w hM hT next hk => ?_⟩
    obtain ⟨B, tt, vs, rest, g1, g2, g3, g4, g5⟩ := hM.blk b _ hb
    have hr := hT _ (by simp [ho, Op.operands]) _ hx
    simp only [AV.rep] at hr
    obtain ⟨B', t', q1, q2⟩ := hr
    rw [g1] at q1; cases q1
    have hvr := cells_rep (hT _ (by simp [ho, Op.operands]) _ hv)
    have hvl := repL_length hvr
    have hll := repL_length g4
    have hsz : (a.eval v).cells.size = i.size := by rw [← c1, ← hvl]; simp
    have hst := storeCells_run (P := P) (a := ⟨B, k, none⟩) (a.eval v).cells.toList w 0 (ones_rep c2 hvr) (box_storable g2 (by simp only [List.length_append]; omega))
    rw [from_sets, Nat.add_zero] at hst
    obtain ⟨s1, s2⟩ := wsets (a.eval v).cells.toList k w _ g2
    rw [over_app _ _ _ _ (by omega)] at s1
    simp only [execOp, ho, Instr.storeAt, q2, Instr.sureAddr, storeVar, sizeOf, typeInfo, hi, hsz, hst, Sem.run_bind, Sem.run_pure, Result.andThen_ok, run_program, ne_eq, not_true_eq_false, if_false, After]
    refine hk e _ _ (Later.refl e) (hM.upd hb g1 g5 s2 hM' ⟨B, tt, _, rest, g1, s1, ?_, setL_rep k hvr g4, g5⟩) (by simp only [AV.rep])
    rw [← g3]; simp [over_len']

/-- a new variable -/
theorem newVar_ok {b0 : Base} {w : World} {e : Env} {M : Mm} {M' : Mm} {n n' i : Nat} {z : List AV} {zs : List Value} (T : TypeId) (hM : MemR b0 e M n w) (hi : e i = none) (hR : ¬ b0.R i) (hn : n ≤ n') (hin : i < n') (hz : AV.repL e z zs) (hM' : ∀ j, M' j = if j = i then some (.cells z true) else M j) :
    Later e (e.put i (w.heap.size, zs.length)) ∧ MemR b0 (e.put i (w.heap.size, zs.length)) M' n' (w.alloc (.cells ⟨zs⟩ T)) := by
  refine ⟨Later.put hi _, hM.push rfl hi hR hn hin hM' ⟨w.heap.size, zs.length, zs, [], put_at _ _ _, ?_, by simp, repL_later (Later.put hi _) hz, fun hx => ?_⟩⟩
  · rw [List.append_nil]; exact boxW (Box.new rfl rfl)
  · have := b0.lt _ hx
    have := hM.kept.size
    omega
def newK (M : Tr Blk) (n : Nat) (z : List AV) (K : Tr Blk → Nat → Option R) : Option R := fL z fun z => Tr.setK FU M n (some (.cells z true)) fun M' => fN (n + 1) fun n' => K M' n'
theorem newK_ok {M : Tr Blk} {n : Nat} {z : List AV} {K : Tr Blk → Nat → Option R} {r : R} (h : newK M n z K = some r) : ∃ M', K M' (n + 1) = some r ∧ ∀ j, M'.get j = if j = n then some (.cells z true) else M.get j := by
  unfold newK at h
  rw [fL_eq] at h
  obtain ⟨M', h1, h2⟩ := Tr.setK_some (f := FU) h
  rw [fN_eq] at h1
  exact ⟨M', h1, h2⟩
/-- an allocation: the cells, and the value by the block's number -/
def AllocR (P : Program) (tm : Tm) (o : Oper) (z : List AV) (f : Nat → AV) : Prop :=
  ∀ e a w, OpdR e tm a o.op.operands.toList → ∃ zs T v, (execOp a.eval o).run P w = .ok (.value v) (w.alloc (.cells ⟨zs⟩ T)) ∧ AV.repL e z zs ∧ ∀ (e' : Env) i, e' i = some (w.heap.size, zs.length) → (f i).rep e' v
theorem AllocR.opR {P : Program} {tm : Tm} {o : Oper} {z : List AV} {f : Nat → AV} (h : AllocR P tm o z f) {M M' : Tr Blk} {n : Nat} (hM' : ∀ j, M'.get j = if j = n then some (.cells z true) else M.get j) : OpR P tm o M n (f n) M' (n + 1) := by
  intro b0 e a w hM hT next hk
  obtain ⟨zs, T, v, h1, h2, h3⟩ := h e a w hT
  obtain ⟨l1, l2⟩ := newVar_ok T hM (hM.new n (.inl (Nat.le_refl _))) (fun h => Nat.lt_irrefl _ (hM.res n h)) (Nat.le_succ n) (Nat.lt_succ_self n) h2 hM'
  rw [h1]
  exact hk _ v _ l1 l2 (h3 _ n (put_at _ _ _))

/-! ## slice literals -/
theorem repeatL_len {α : Type} (z : List α) : ∀ n, (repeatL z n).length = n * z.length
  | 0 => by simp [repeatL]
  | n + 1 => by simp only [repeatL, List.length_append, repeatL_len z n, Nat.add_mul]; omega
theorem repeatL_get {α : Type} (z : List α) : ∀ (n i : Nat), i < n * z.length → (repeatL z n)[i]? = z[i % z.length]?
  | 0, i, h => by omega
  | n + 1, i, h => by
    simp only [repeatL]
    have hz : 0 < z.length := by
      rcases Nat.eq_zero_or_pos z.length with e | e
      · rw [e] at h; omega
      · exact e
    by_cases hi : i < z.length
    · rw [List.getElem?_append_left hi, Nat.mod_eq_of_lt hi]
    · rw [List.getElem?_append_right (by omega), repeatL_get z n _ (by rw [Nat.add_mul] at h; omega), ← Nat.mod_eq_sub_mod (by omega)]
theorem rows_rep {e : Env} {z : List AV} {zs : Array Value} (h : AV.repL e z zs.toList) (len : Nat) : AV.repL e (repeatL z len) ((Array.range (len * zs.size)).map (zs[· % zs.size]!)).toList := by
  have hl : zs.size = z.length := by have := repL_length h; simpa using this
  refine repL_of (by simp [repeatL_len, hl]) fun i a hi => ?_
  have hlt : i < len * z.length := by have := (List.getElem?_eq_some_iff.1 hi).1; rwa [repeatL_len] at this
  rw [repeatL_get z len i hlt] at hi
  obtain ⟨v, hv, hr⟩ := repL_get h hi
  refine ⟨v, ?_, hr⟩
  have h1 : i % zs.size < zs.size := by rw [hl]; exact (List.getElem?_eq_some_iff.1 hi).1
  have h2 : zs[i % zs.size]! = v := by
    rw [hl] at h1 ⊢
    have : zs[i % z.length]? = some v := by simpa using hv
    rw [getElem!_pos zs _ (by rw [hl]; exact h1)]
    rw [Array.getElem?_eq_getElem (by rw [hl]; exact h1)] at this
    exact Option.some.inj this
  simp [hl, hlt]
  rw [hl] at h2
  exact h2
def buildSliceA (P : Program) (tm : Tm) (t : TypeId) (len : Nat) (ps : List (Nat × Operand)) : Option (List AV × (Nat → AV)) := match P.underlying t with
  | some (.slice e) => match P.info? e, zcells P e, evP tm ps with
    | some i, some z, some as => cond (Nat.beq z.length i.size && Nat.ble (len * i.size) 16777216) (match fillA (fun k => some (k * i.size, i.size)) (repeatL z len) as with
      | some row => some (row, fun n => .slice n 0 len i.size len true)
      | none => none) none
    | _, _, _ => none
  | _ => none
theorem buildSliceA_ok {P : Program} {tm : Tm} {o : Oper} {t : TypeId} {len : Nat} {ps : Array (Nat × Operand)} {z : List AV} {f : Nat → AV} (ho : o.op = .buildSlice t len ps) (h : buildSliceA P tm t len ps.toList = some (z, f)) : AllocR P tm o z f := by
  unfold buildSliceA at h
  split at h
  case h_2 => cases h
  rename_i el hu
  split at h
  case h_2 => cases h
  rename_i i zc as hi hz has
  cases hc : (Nat.beq zc.length i.size && Nat.ble (len * i.size) 16777216) with
  | false => rw [hc] at h; cases h
  | true =>
  rw [hc] at h
  simp only [Bool.and_eq_true] at hc
  have c1 := Nat.eq_of_beq_eq_true hc.1
  have c2 := Nat.le_of_ble_eq_true hc.2
  simp only [cond_true] at h
  split at h
  case h_2 => cases h
  rename_i row hrow
  cases h
  intro e a w hT
  obtain ⟨zv, z1, z2⟩ := zcells_ok hz
  have hzs : zv.cells.size = i.size := by have := repL_length (z1 e); rw [← c1, ← this]; simp
  obtain ⟨p1, p2⟩ := evP_ok (hT.sub fun y hy => by simpa [ho, Op.operands] using hy) has
  have hrr := rows_rep (e := e) (zs := zv.cells) (z1 e) len
  rw [hzs] at hrr
  obtain ⟨cs', g1, g2⟩ := fillA_ok (cs := (Array.range (len * i.size)).map (zv.cells[· % i.size]!)) hrow hrr p1 p2
  have hps : (ps.map fun (i, x) => (i, a.eval x)).toList = ps.toList.map fun p => (p.1, a.eval p.2) := by simp
  have hrun : (execOp a.eval o).run P w = .ok (.value (.slice (some ⟨w.heap.size, 0, none⟩) len len)) (w.alloc (.cells cs' el)) := by
    by_cases h0 : len * i.size = 0
    · have hr0 : ∀ f : Nat → Value, (Array.range (len * i.size)).map f = #[] := fun f => by rw [h0]; simp
      rw [hr0] at g1
      simp only [execOp, ho, Instr.buildSlice, underlying, Sem.run_bind, run_program, Result.andThen_ok, hu, Sem.run_pure, sizeOf, typeInfo, hi, hps]
      rw [if_neg (by omega)]
      simp only [h0, if_true, Sem.run_bind, Sem.run_pure, Result.andThen_ok]
      rw [h0] at hr0
      simp only [hr0, g1]
      rfl
    · simp only [execOp, ho, Instr.buildSlice, underlying, Sem.run_bind, run_program, Result.andThen_ok, hu, Sem.run_pure, sizeOf, typeInfo, hi, hps]
      rw [if_neg (by omega)]
      simp only [h0, if_false, Sem.run_bind, z2 w, Sem.run_pure, Result.andThen_ok, hzs, g1]
      rfl
  have hlen : cs'.size = len * i.size := by
    have h3 := repL_length g2
    have h4 : ∀ {place : Nat → Option (Nat × Nat)} {l l' : List AV} {r : List (Nat × AV)}, fillA place l r = some l' → l'.length = l.length := by
      intro place l l' r
      induction r generalizing l with
      | nil => intro h; simp only [fillA] at h; cases h; rfl
      | cons p r ih =>
        intro h
        obtain ⟨j, b⟩ := p
        simp only [fillA] at h
        split at h
        · rename_i off size hp
          cases hcc : (Nat.beq b.cells.length size && Nat.ble (off + size) l.length) with
          | false => rw [hcc] at h; cases h
          | true => rw [hcc] at h; rw [ih h, setL_len]
        · cases h
    have h5 := h4 hrow
    rw [repeatL_len, c1] at h5
    have : cs'.toList.length = cs'.size := by simp
    omega
  refine ⟨cs'.toList, el, _, hrun, g2, fun e' n hn => ?_⟩
  simp only [AV.rep]
  exact ⟨_, _, len, _, hn, rfl, .inl rfl, Nat.le_refl _, Nat.le_refl _, fun _ => rfl, by rw [Array.length_toList, hlen]; omega⟩
/-- allocations -/
def allocA (P : Program) (tm : Tm) (o : Oper) : Option (List AV × (Nat → AV)) := match o.op with
  | .alloc t => match zcells P t with
    | some z => some (z, fun n => .ptr n 0)
    | none => none
  | .box _ x => match evA tm x with
    | some av => some (av.cells, fun n => .ptr n 0)
    | none => none
  | .buildSlice t len ps => buildSliceA P tm t len ps.toList
  | _ => none
theorem allocA_ok {P : Program} {tm : Tm} {o : Oper} {z : List AV} {f : Nat → AV} (h : allocA P tm o = some (z, f)) : AllocR P tm o z f := by
  unfold allocA at h
  split at h
  · rename_i t ho
    split at h
    case h_2 => cases h
    rename_i z' hz
    cases h
    intro e a w hT
    obtain ⟨zv, z1, z2⟩ := zcells_ok hz
    refine ⟨zv.cells.toList, t, .pointer (some ⟨w.heap.size, 0, none⟩), ?_, z1 e, fun e' i hi => by simp only [AV.rep]; exact ⟨_, _, hi, rfl⟩⟩
    simp only [execOp, ho, Instr.alloc, Sem.run_bind, z2 w, Result.andThen_ok]
    rfl
  · rename_i t x ho
    split at h
    case h_2 => cases h
    rename_i av hx
    cases h
    intro e a w hT
    refine ⟨(a.eval x).cells.toList, t, .pointer (some ⟨w.heap.size, 0, none⟩), ?_, cells_rep (hT _ (by simp [ho, Op.operands]) _ hx), fun e' i hi => by simp only [AV.rep]; exact ⟨_, _, hi, rfl⟩⟩
    simp only [execOp, ho, Instr.box]
    rfl
  · rename_i t len ps ho; exact buildSliceA_ok ho h
  · cases h
def allocK (P : Program) (tm : Tm) (o : Oper) (M : Tr Blk) (n : Nat) (K : AV → Tr Blk → Nat → Option R) : Option R := match allocA P tm o with
  | some (z, f) => newK M n z fun M' n' => fA (f n) fun av => K av M' n'
  | none => none
theorem allocK_ok {P : Program} {tm : Tm} {o : Oper} {M : Tr Blk} {n : Nat} {K : AV → Tr Blk → Nat → Option R} {r : R} (h : allocK P tm o M n K = some r) : ∃ av M' n', K av M' n' = some r ∧ OpR P tm o M n av M' n' := by
  unfold allocK at h
  split at h
  · rename_i z f hz
    obtain ⟨M', h1, h2⟩ := newK_ok h
    rw [fA_eq] at h1
    exact ⟨_, _, _, h1, (allocA_ok hz).opR h2⟩
  · cases h

/-! ## append -/
/-- what is appended: how many, and their cells -/
def srcA (tx : Option TypeDesc) (M : Tr Blk) (sz : Nat) : AV → Option (Nat × List AV)
  | .slice b o n sz2 _ _ => match tx, M.get b with
    | some (.slice _), some (.cells l _) => cond (Nat.beq sz2 sz && Nat.ble (o + n * sz) l.length && ones ((l.drop o).take (n * sz))) (some (n, (l.drop o).take (n * sz))) none
    | _, _ => none
  | .lit (.slice none 0 _) => match tx with
    | some (.slice _) => some (0, [])
    | _ => none
  | .lit (.string s) => match tx with
    | some .string => cond (Nat.beq sz 1) (some (s.size, (byteCells s).map .lit)) none
    | _ => none
  | _ => none
theorem srcA_ok {P : Program} {b0 : Base} {w : World} {e : Env} {M : Tr Blk} {n : Nat} (hM : MemR b0 e M.get n w) {tx : TypeId} {sz : Nat} {x : AV} {v : Value} (hx : x.rep e v) {m : Nat} {news : List AV} (h : srcA (P.underlying tx) M sz x = some (m, news)) :
    ∃ us, AV.repL e news us ∧ Src P sz tx v m us w := by
  unfold srcA at h
  split at h
  · rename_i b o n' sz2 c ex
    split at h
    case h_2 => cases h
    rename_i e' l rw hk hb
    cases hc : (Nat.beq sz2 sz && Nat.ble (o + n' * sz) l.length && ones ((l.drop o).take (n' * sz))) with
    | false => rw [hc] at h; cases h
    | true =>
      rw [hc] at h; cases h
      simp only [Bool.and_eq_true] at hc
      obtain ⟨⟨c1, c2⟩, c3⟩ := hc
      have c2 := Nat.le_of_ble_eq_true c2
      simp only [AV.rep] at hx
      obtain ⟨B', t', k, A, q1, q2, q3, q4, _⟩ := hx
      obtain ⟨B, tt, vs, rest, h1, h2, h3, h4, h5⟩ := hM.blk b _ hb
      rw [h1] at q1; cases q1
      have hlen := repL_length h4
      have hr := repL_take (n := m * sz) (repL_drop (n := o) h4)
      refine ⟨_, hr, ?_⟩
      subst q2
      refine Src.ofSlice w hk A m k _ (by simp; omega) (fun j u hj => ?_) (ones_rep c3 hr)
      have hlt : j < m * sz := by
        have := (List.getElem?_eq_some_iff.1 hj).1
        simp only [List.length_take] at this; omega
      have hm0 : 0 < m := by rcases Nat.eq_zero_or_pos m with e0 | e0; (rw [e0] at hlt; omega); exact e0
      rcases q3 with rfl | q3
      rotate_left
      · omega
      rw [add_mk]
      rw [List.getElem?_take_of_lt hlt, List.getElem?_drop] at hj
      exact h2.cell (by rw [List.getElem?_append_left (by omega)]; exact hj)
  · split at h
    · rename_i e' hk
      cases h
      simp only [AV.rep] at hx
      subst hx
      exact ⟨[], by simp [AV.repL], Src.ofNil w hk _⟩
    · cases h
  · rename_i s
    split at h
    · rename_i hk
      cases hc : Nat.beq sz 1 with
      | false => rw [hc] at h; cases h
      | true =>
        rw [hc] at h; cases h
        have := Nat.eq_of_beq_eq_true hc
        subst this
        have hv : v = .string s := by simpa only [AV.rep] using hx
        subst hv
        exact ⟨_, lits_rep _, Src.ofString w hk s⟩
    · cases h
  · cases h
def appendK (P : Program) (tm : Tm) (t tx : TypeId) (s x : Operand) (M : Tr Blk) (n : Nat) (K : AV → Tr Blk → Nat → Option R) : Option R := match P.underlying t with
  | some (.slice e) => match P.info? e, evA tm s, evA tm x with
    | some i, some sv, some xv => match i.zero, srcA (P.underlying tx) M i.size xv with
      | some z, some (m, news) => cond (Nat.beq z.cells.size i.size) (match sv with
        | .lit (.slice none 0 0) => cond (Nat.beq m 0) (K (.lit (.slice none 0 0)) M n)
            (cond (Nat.ble (m * i.bytes) 140737488355328 && Nat.ble m 4611686018427387904) (fN m fun m => newK M n news fun M' n' => K (.slice n 0 m i.size m false) M' n') none)
        | .slice b o k sz c ex => cond (Nat.beq sz i.size) (match M.get b with
          | some (.cells l rw) => cond (Nat.beq m 0) (K (.slice b o k sz c ex) M n)
            (cond (Nat.ble (k + m) c && rw && Nat.ble (o + k * sz) l.length)
              (fL (l.take (o + k * sz) ++ news ++ l.drop (o + k * sz + m * sz)) fun l' => Tr.setK FU M b (some (.cells l' true)) fun M' => fN (k + m) fun km => K (.slice b o km sz c ex) M' n)
              (cond (Nat.ble ((k + m) * i.bytes) 140737488355328 && Nat.ble (k + m) 4611686018427387904 && Nat.ble (o + k * sz) l.length && Nat.ble (c + 1) (k + m))
                (cond ex (fN (k + m) fun km => newK M n ((l.drop o).take (k * sz) ++ news) fun M' n' => K (.slice n 0 km sz km false) M' n')
                  (cond (Nat.beq o 0 && rw) (fN (k + m) fun km => Tr.setK FU M b none fun M1 => newK M1 n (l.take (k * sz) ++ news) fun M' n' => K (.slice n 0 km sz km false) M' n') none))
                none))
          | _ => none) none
        | _ => none) none
      | _, _ => none
    | _, _, _ => none
  | _ => none
/-- a new row: it grew -/
theorem grown_push {b0 : Base} {w : World} {e : Env} {M M' : Mm} {n : Nat} (hM : MemR b0 e M n w) {row : List AV} {us : List Value} (hr : AV.repL e row us) (el : TypeId) (rest : Array Value) (hM' : ∀ j, M' j = if j = n then some (.cells row true) else M j) :
    ∃ e', Later e e' ∧ MemR b0 e' M' (n + 1) (w.drew.alloc (.cells (us.toArray ++ rest) el)) ∧ e' n = some (w.heap.size, us.length + rest.size) := by
  have hMd : MemR b0 e M n w.drew := hM.drew _
  have hen : e n = none := hM.new n (.inl (Nat.le_refl _))
  refine ⟨_, Later.put hen (w.heap.size, us.length + rest.size), hMd.push rfl hen (fun h => Nat.lt_irrefl _ (hM.res n h)) (Nat.le_succ n) (Nat.lt_succ_self n) hM' ⟨w.heap.size, us.length + rest.size, us, rest.toList, put_at _ _ _, ?_, by simp, repL_later (Later.put hen _) hr, fun hx => ?_⟩, put_at _ _ _⟩
  · have := Box.new (w := w.drew) (cs := us.toArray ++ rest) (T := el) (b := w.heap.size) rfl rfl
    exact boxW (by simpa using this)
  · have := b0.lt _ hx
    have := hM.kept.size
    omega
theorem appendK_ok {P : Program} {tm : Tm} {o : Oper} {c : Call} {t tx : TypeId} {s x : Operand} {M : Tr Blk} {n : Nat} {K : AV → Tr Blk → Nat → Option R} {r : R} (ho : o.op = .call c) (hcc : c.callee = .builtin .append) (hca : c.args = #[s, x]) (hct : c.argTypes = #[t, tx])
    (h : appendK P tm t tx s x M n K = some r) : ∃ av M' n', K av M' n' = some r ∧ OpR P tm o M n av M' n' := by
  have key : ∀ {a : Act} {w w' : World} {v : Value} {next : Value → World → Prop}, (Builtin.append_ #[t, tx] o.type #[a.eval s, a.eval x]).run P w = .ok v w' → next v w' → After P next ((execOp a.eval o).run P w) := by
    intro a w w' v next h1 h2
    have : (execOp a.eval o).run P w = .ok (.value v) w' := by
      simp only [execOp, ho, resolve, hcc, hca, hct, invoke, builtin, Sem.run_bind, Sem.run_pure, Result.andThen_ok]
      rw [show (#[s, x].map a.eval) = #[a.eval s, a.eval x] from by simp, h1]; rfl
    rw [this]; exact h2
  have hms : s ∈ o.op.operands.toList := by simp [ho, Op.operands, Call.operands, hcc, hca]
  have hmx : x ∈ o.op.operands.toList := by simp [ho, Op.operands, Call.operands, hcc, hca]
  unfold appendK at h
  split at h
  case h_2 => cases h
  rename_i el hu
  split at h
  case h_2 => cases h
  rename_i i sv xv hi hsv hxv
  split at h
  case h_2 => cases h
  rename_i z m news hz hsrc
  cases hc0 : Nat.beq z.cells.size i.size with
  | false => rw [hc0] at h; cases h
  | true =>
  rw [hc0] at h
  have hzs := Nat.eq_of_beq_eq_true hc0
  simp only [cond_true] at h
  -- a row that grew
  have grow : ∀ {M1 M' : Tr Blk} {row : List AV} {need : Nat}, (∀ j, M'.get j = if j = n then some (.cells row true) else M1.get j) → ∀ {b0 : Base} {e : Env} {a : Act} {w : World} {us : List Value} {kk : Nat} {next : Value → World → Prop}, MemR b0 e M1.get n w → AV.repL e row us → us.length = need * i.size → need ≤ kk →
      (∀ e' v w', Later e e' → MemR b0 e' M'.get (n + 1) w' → (AV.slice n 0 need i.size need false).rep e' v → next v w') →
      (Builtin.append_ #[t, tx] o.type #[a.eval s, a.eval x]).run P w = .ok (.slice (some ⟨w.heap.size, 0, none⟩) need kk) (w.drew.alloc (.cells (us.toArray ++ Builtin.zeroCells z.cells (kk - need)) el)) → After P next ((execOp a.eval o).run P w) := by
    intro M1 M' row need hM' b0 e a w us kk next hM hr hl hle hk hrun
    obtain ⟨e', l1, l2, l3⟩ := grown_push hM hr el (Builtin.zeroCells z.cells (kk - need)) hM'
    refine key hrun (hk e' _ _ l1 l2 ?_)
    simp only [AV.rep]
    refine ⟨_, _, kk, _, l3, rfl, .inl rfl, hle, hle, nofun, ?_⟩
    rw [size_zeroCells, hzs, hl, ← Nat.add_mul, Nat.zero_add]
    exact Nat.mul_le_mul_right _ (by omega)
  split at h
  · -- nothing yet
    have hse : ∀ {e a}, OpdR e tm a o.op.operands.toList → a.eval s = .slice none 0 0 := fun hT => by have := hT s hms _ hsv; simpa only [AV.rep] using this
    cases hm : Nat.beq m 0 with
    | true =>
      rw [hm] at h
      have := Nat.eq_of_beq_eq_true hm
      subst this
      refine ⟨_, _, _, h, fun b0 e a w hM hT next hk => ?_⟩
      obtain ⟨us, hus, hs⟩ := srcA_ok hM (hT x hmx _ hxv) hsrc
      refine key (v := .slice none 0 0) (w' := w) ?_ (hk e _ w (Later.refl e) hM (by simp only [AV.rep]))
      rw [hse hT]
      rcases hs.kind with ⟨e', hk⟩ | hk <;> simp [Builtin.append_, run_underlying hu, run_underlying hk, sizeOf, typeInfo, hi, hs.len, hs.cells]
    | false =>
      rw [hm] at h
      simp only [cond_false] at h
      have hm0 : m ≠ 0 := fun e => by subst e; cases hm
      cases hb : (Nat.ble (m * i.bytes) 140737488355328 && Nat.ble m 4611686018427387904) with
      | false => rw [hb] at h; cases h
      | true =>
        rw [hb] at h
        simp only [cond_true, fN_eq] at h
        simp only [Bool.and_eq_true] at hb
        have b1 := Nat.le_of_ble_eq_true hb.1
        have b2 := Nat.le_of_ble_eq_true hb.2
        obtain ⟨M', h1, h2⟩ := newK_ok h
        refine ⟨_, _, _, h1, fun b0 e a w hM hT next hk => ?_⟩
        obtain ⟨us, hus, hs⟩ := srcA_ok hM (hT x hmx _ hxv) hsrc
        have hrun := run_append_grow_src (P := P) w t tx o.type el i z hu hi hz none 0 0 [] (run_firstCells_none w.drew i.size 0 0 0) (a.eval x) m us hs (by omega) (by omega) (growslice_fits (by omega) (by rw [Nat.zero_add]; exact b1))
        rw [← hse hT, Nat.zero_add, List.nil_append] at hrun
        exact grow h2 hM hus hs.newsLen (grownCap_ge _ _ _ _) hk hrun
  · rename_i b ofs k sz cc ex
    cases hc1 : Nat.beq sz i.size with
    | false => rw [hc1] at h; cases h
    | true =>
    rw [hc1] at h
    have := Nat.eq_of_beq_eq_true hc1
    subst this
    simp only [cond_true] at h
    split at h
    case h_2 => cases h
    rename_i l rw' hb
    have hse : ∀ {b0 : Base} {e : Env} {a : Act} {w : World}, MemR b0 e M.get n w → OpdR e tm a o.op.operands.toList → ∃ B tt kk A vs rest, e b = some (B, tt) ∧ a.eval s = .slice (some A) k kk ∧ (A = ⟨B, ofs, none⟩ ∨ kk = 0) ∧ k ≤ kk ∧ cc ≤ kk ∧ (ex = true → kk = cc) ∧ ofs + kk * i.size ≤ tt ∧ BoxW w B rw' (vs ++ rest) ∧ (vs ++ rest).length = tt ∧ AV.repL e l vs ∧ ¬ b0.X B := by
      intro b0 e a w hM hT
      have hr := hT s hms _ hsv
      simp only [AV.rep] at hr
      obtain ⟨B', t', kk, A, q1, q2, q3, q4, q5, q6, q7⟩ := hr
      obtain ⟨B, tt, vs, rest, h1, h2, h3, h4, h5⟩ := hM.blk b _ hb
      rw [h1] at q1; cases q1
      exact ⟨_, _, kk, A, vs, rest, h1, q2, q3, q4, q5, q6, q7, h2, h3, h4, h5⟩
    cases hm : Nat.beq m 0 with
    | true =>
      rw [hm] at h
      have := Nat.eq_of_beq_eq_true hm
      subst this
      refine ⟨_, _, _, h, fun b0 e a w hM hT next hk => ?_⟩
      obtain ⟨us, hus, hs⟩ := srcA_ok hM (hT x hmx _ hxv) hsrc
      have hr := hT s hms _ hsv
      have hr' := hr
      simp only [AV.rep] at hr'
      obtain ⟨B', t', kk, A, q1, q2, q3, q4, _⟩ := hr'
      have hnews : us = [] := by have := hs.newsLen; rw [Nat.zero_mul] at this; exact List.eq_nil_of_length_eq_zero this
      refine key (v := a.eval s) (w' := w) ?_ (hk e _ w (Later.refl e) hM hr)
      rw [q2]
      have hcells := hs.cells
      rw [hnews] at hcells
      rcases hs.kind with ⟨e', hk⟩ | hk <;> simp [Builtin.append_, run_underlying hu, run_underlying hk, sizeOf, typeInfo, hi, hs.len, hcells, q4, storeCells]
    | false =>
      rw [hm] at h
      simp only [cond_false] at h
      have hm0 : m ≠ 0 := fun e => by subst e; cases hm
      cases hA : (Nat.ble (k + m) cc && rw' && Nat.ble (ofs + k * i.size) l.length) with
      | true =>
        rw [hA] at h
        simp only [cond_true, fL_eq] at h
        simp only [Bool.and_eq_true] at hA
        obtain ⟨⟨a1, a2⟩, a3⟩ := hA
        have a1 := Nat.le_of_ble_eq_true a1
        have a3 := Nat.le_of_ble_eq_true a3
        obtain ⟨M', h1, h2⟩ := Tr.setK_some (f := FU) h
        rw [fN_eq] at h1
        refine ⟨_, _, _, h1, fun b0 e a w hM hT next hk => ?_⟩
        obtain ⟨us, hus, hs⟩ := srcA_ok hM (hT x hmx _ hxv) hsrc
        obtain ⟨B, tt, kk, A, vs, rest, g1, g2, g3, g4, g5, g6, g7, g8, g9, g10, g11⟩ := hse hM hT
        rcases g3 with rfl | g3
        rotate_left
        · omega
        have g8 : BoxW w B true (vs ++ rest) := by rw [a2] at g8; exact g8
        have hul := hs.newsLen
        have hvl := repL_length g10
        have hfit : ofs + k * i.size + us.length ≤ (vs ++ rest).length := by
          rw [g9, hul]
          have : (k + m) * i.size ≤ kk * i.size := Nat.mul_le_mul_right _ (by omega)
          rw [Nat.add_mul] at this; omega
        have hcell : ∀ j, j < us.length → ∃ v, w.cell? ⟨B, ofs + k * i.size + j, none⟩ = some v := fun j hj => ⟨_, g8.cell (List.getElem?_eq_getElem (by omega))⟩
        have hrun := run_append_room_src (P := P) w t tx o.type el i hu hi B ofs k kk (a.eval x) m us hs (by omega) (fun j hj => by obtain ⟨v, hv⟩ := hcell j hj; rw [hv]; rfl) (fun j hj => g8.frozen (by omega))
        rw [← g2] at hrun
        obtain ⟨s1, s2⟩ := wsets us (ofs + k * i.size) w _ g8
        rw [over_eq _ _ _ hfit] at s1
        have hsplit : (vs ++ rest).take (ofs + k * i.size) ++ us ++ (vs ++ rest).drop (ofs + k * i.size + us.length) = (vs.take (ofs + k * i.size) ++ us ++ vs.drop (ofs + k * i.size + m * i.size)) ++ rest.drop (ofs + k * i.size + m * i.size - vs.length) := by
          rw [List.take_append_of_le_length (by omega), List.drop_append, hul]
          simp
        refine key hrun (hk e _ _ (Later.refl e) (hM.upd hb g1 g11 s2 h2 ⟨B, tt, _, rest.drop (ofs + k * i.size + m * i.size - vs.length), g1, ?_, ?_, repL_append (repL_append (repL_take g10) hus) (repL_drop g10), g11⟩) ?_)
        · rw [← hsplit]; exact s1
        · rw [← hsplit, ← g9]
          simp only [List.length_append, List.length_take, List.length_drop] at hfit ⊢
          omega
        · simp only [AV.rep]
          exact ⟨B, tt, kk, _, g1, rfl, .inl rfl, by omega, g5, g6, g7⟩
      | false =>
        rw [hA] at h
        simp only [cond_false] at h
        cases hB : (Nat.ble ((k + m) * i.bytes) 140737488355328 && Nat.ble (k + m) 4611686018427387904 && Nat.ble (ofs + k * i.size) l.length && Nat.ble (cc + 1) (k + m)) with
        | false => rw [hB] at h; cases h
        | true =>
        rw [hB] at h
        simp only [cond_true] at h
        simp only [Bool.and_eq_true] at hB
        obtain ⟨⟨⟨b1, b2⟩, b3⟩, b4⟩ := hB
        have b1 := Nat.le_of_ble_eq_true b1
        have b2 := Nat.le_of_ble_eq_true b2
        have b3 := Nat.le_of_ble_eq_true b3
        have b4 := Nat.le_of_ble_eq_true b4
        -- the old cells
        have olds : ∀ {e : Env} {a : Act} {w : World} {us : List Value} {B kk : Nat} {A : Addr} {vs rest : List Value}, Src P i.size tx (a.eval x) m us w → a.eval s = .slice (some A) k kk → (A = ⟨B, ofs, none⟩ ∨ kk = 0) → k ≤ kk → BoxW w B rw' (vs ++ rest) → AV.repL e l vs → kk < k + m →
            (Builtin.append_ #[t, tx] o.type #[a.eval s, a.eval x]).run P w = .ok (.slice (some ⟨w.heap.size, 0, none⟩) (k + m) (grownCap w (k + m) kk el)) (w.drew.alloc (.cells (((vs.drop ofs).take (k * i.size) ++ us).toArray ++ Builtin.zeroCells z.cells (grownCap w (k + m) kk el - (k + m))) el)) := by
          intro e a w us B kk A vs rest hs g2 g3 g4 g8 g10 hlt
          have hvl := repL_length g10
          rw [g2]
          refine run_append_grow_src (P := P) w t tx o.type el i z hu hi hz (some A) k kk ((vs.drop ofs).take (k * i.size)) ?_ (a.eval x) m us hs (by omega) (by omega) (growslice_fits (by omega) b1)
          refine run_firstCells_some w.drew i.size k A k kk _ (by simp; omega) fun j u hj => ?_
          have hlt : j < k * i.size := by
            have := (List.getElem?_eq_some_iff.1 hj).1
            simp only [List.length_take] at this; omega
          have hk0 : 0 < k := by rcases Nat.eq_zero_or_pos k with e0 | e0; (rw [e0] at hlt; omega); exact e0
          rcases g3 with rfl | g3
          rotate_left
          · omega
          rw [add_mk]
          rw [List.getElem?_take_of_lt hlt, List.getElem?_drop] at hj
          exact g8.cell (by rw [List.getElem?_append_left (by omega)]; exact hj)
        have hol : ∀ {e : Env} {us vs : List Value}, us.length = m * i.size → AV.repL e l vs → ((vs.drop ofs).take (k * i.size) ++ us).length = (k + m) * i.size := by
          intro e us vs h1 h2
          have := repL_length h2
          simp only [List.length_append, List.length_take, List.length_drop, h1, Nat.add_mul]; omega
        cases hex : ex with
        | true =>
          rw [hex] at h
          simp only [cond_true, fN_eq] at h
          obtain ⟨M', h1, h2⟩ := newK_ok h
          refine ⟨_, _, _, h1, fun b0 e a w hM hT next hk => ?_⟩
          obtain ⟨us, hus, hs⟩ := srcA_ok hM (hT x hmx _ hxv) hsrc
          obtain ⟨B, tt, kk, A, vs, rest, g1, g2, g3, g4, g5, g6, g7, g8, g9, g10, g11⟩ := hse hM hT
          have := g6 hex
          exact grow h2 hM (repL_append (repL_take (repL_drop g10)) hus) (hol hs.newsLen g10) (grownCap_ge _ _ _ _) hk (olds hs g2 g3 g4 g8 g10 (by omega))
        | false =>
          rw [hex] at h
          simp only [cond_false] at h
          cases hz0 : (Nat.beq ofs 0 && rw') with
          | false => rw [hz0] at h; cases h
          | true =>
          rw [hz0] at h
          simp only [cond_true, fN_eq] at h
          simp only [Bool.and_eq_true] at hz0
          have := Nat.eq_of_beq_eq_true hz0.1
          subst this
          obtain ⟨M1, h1, h2⟩ := Tr.setK_some (f := FU) h
          obtain ⟨M', h3, h4⟩ := newK_ok h1
          refine ⟨_, _, _, h3, fun b0 e a w hM hT next hk => ?_⟩
          obtain ⟨us, hus, hs⟩ := srcA_ok hM (hT x hmx _ hxv) hsrc
          obtain ⟨B, tt, kk, A, vs, rest, g1, g2, g3, g4, g5, g6, g7, g8, g9, g10, g11⟩ := hse hM hT
          by_cases hroom : k + m ≤ kk
          · have hen : e n = none := hM.new n (.inl (Nat.le_refl _))
            rcases g3 with rfl | g3
            rotate_left
            · omega
            have g8 : BoxW w B true (vs ++ rest) := by rw [hz0.2] at g8; exact g8
            have hul := hs.newsLen
            have hvl := repL_length g10
            rw [Nat.zero_add] at b3 g7
            have hfit : k * i.size + us.length ≤ (vs ++ rest).length := by
              rw [g9, hul]
              have : (k + m) * i.size ≤ kk * i.size := Nat.mul_le_mul_right _ hroom
              rw [Nat.add_mul] at this; omega
            have hcell : ∀ j, j < us.length → ∃ v, w.cell? ⟨B, 0 + k * i.size + j, none⟩ = some v := fun j hj => ⟨_, g8.cell (List.getElem?_eq_getElem (by omega))⟩
            have hrun := run_append_room_src (P := P) w t tx o.type el i hu hi B 0 k kk (a.eval x) m us hs hroom (fun j hj => by obtain ⟨v, hv⟩ := hcell j hj; rw [hv]; rfl) (fun j hj => g8.frozen (by omega))
            rw [← g2] at hrun
            obtain ⟨s1, s2⟩ := wsets us (0 + k * i.size) w _ g8
            rw [Nat.zero_add] at s1 hrun s2
            rw [over_eq _ _ _ hfit] at s1
            have hsplit : (vs ++ rest).take (k * i.size) ++ us ++ (vs ++ rest).drop (k * i.size + us.length) = (vs.take (k * i.size) ++ us) ++ (vs ++ rest).drop (k * i.size + us.length) := by
              rw [List.take_append_of_le_length (by omega)]
            have hMM : ∀ j, M'.get j = if j = n then some (.cells (l.take (k * i.size) ++ news) true) else if j = b then none else M.get j := fun j => by rw [h4, h2]
            refine key hrun (hk (e.put n (B, tt)) _ _ (Later.put hen _) (hM.move hb g1 g11 s2 hMM ⟨B, tt, vs.take (k * i.size) ++ us, (vs ++ rest).drop (k * i.size + us.length), ?_, ?_, ?_, repL_later (Later.put hen _) (repL_append (repL_take g10) hus), g11⟩) ?_)
            · exact put_at _ _ _
            · rw [← hsplit]; exact s1
            · rw [← hsplit, ← g9]
              simp only [List.length_append, List.length_take, List.length_drop] at hfit ⊢
              omega
            · simp only [AV.rep]
              exact ⟨B, tt, kk, _, put_at _ _ _, rfl, .inl rfl, hroom, hroom, nofun, by omega⟩
          · have hMd := hM.drop h2
            have hr := olds hs g2 g3 g4 g8 g10 (by omega)
            rw [List.drop_zero] at hr
            have hol' := hol hs.newsLen g10
            rw [List.drop_zero] at hol'
            exact grow h4 hMd (repL_append (repL_take g10) hus) hol' (grownCap_ge _ _ _ _) hk hr
  · cases h

end Go.Am
