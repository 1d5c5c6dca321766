/- The machine runs functions. -/
import Derived.Test.YtfcemnnlmlggoaaGreatAmG
namespace Go.Am
open Go.Vc
variable {R : Type}

/-! ## functions -/
def argsK : Nat → List AV → Tm → (Tm → Option R) → Option R
  | _, [], tm, K => K tm
  | i, a :: l, tm, K => onB (Tm.sB i) fun s => s tm (some a) fun tm => fN (i + 1) fun i => argsK i l tm K
theorem argsK_ok {sz : Nat} : ∀ {l : List AV} {i : Nat} {tm : Tm} {K : Tm → Option R} {r : R}, argsK i l tm K = some r → ∃ tm', K tm' = some r ∧ ∀ (t : Nat) av, tm'.get t = some av → (∃ j, l[j]? = some av ∧ t = i + j) ∨ tm.get t = some av
  | [], i, tm, K, r, h => ⟨tm, h, fun t av ht => .inr ht⟩
  | a :: l, i, tm, K, r, h => by
    simp only [argsK] at h
    obtain ⟨tm1, h1, h2⟩ := Tm.sB_some h
    rw [fN_eq] at h1
    obtain ⟨tm', h3, h4⟩ := argsK_ok (sz := sz) h1
    refine ⟨tm', h3, fun t av ht => ?_⟩
    rcases h4 t av ht with ⟨j, g1, g2⟩ | g
    · exact .inl ⟨j + 1, by simpa using g1, by omega⟩
    · rw [h2] at g
      split at g
      · rename_i hti
        exact .inl ⟨0, by simpa using g, by omega⟩
      · exact .inr g
def resOneA (P : Program) (tm : Tm) (M : Tr Blk) : ResultVar → Option AV
  | .tmp t => tm.get t
  | .cell s t => match tm.get s with
    | some (.ptr b k) => match M.get b with
      | some (.cells l _) => match aggT P t with
        | some true => match P.info? t with
          | some i => cond (Nat.ble (k + i.size) l.length) (some (.agg ((l.drop k).take i.size))) none
          | none => none
        | some false => l[k]?
        | none => none
      | _ => none
    | _ => none
def resA (P : Program) (tm : Tm) (M : Tr Blk) : List ResultVar → Option (List AV)
  | [] => some []
  | x :: l => match resOneA P tm M x with
    | some a => match resA P tm M l with
      | some as => some (a :: as)
      | none => none
    | none => none
def wrapA : List AV → AV
  | [v] => v
  | vs => .tuple vs
theorem resOneA_ok {P : Program} {b0 : Base} {e : Env} {tm : Tm} {M : Tr Blk} {n : Nat} {a : Act} {w : World} (hM : MemR b0 e M.get n w) (hT : TmR e tm a) {x : ResultVar} {av : AV} (h : resOneA P tm M x = some av) :
    ∃ v, av.rep e v ∧ (resOne a.tmps x).run P w = .ok v w := by
  cases x with
  | tmp t => exact ⟨_, (hT.at_ t av h).2, rfl⟩
  | cell s t =>
    simp only [resOneA] at h
    split at h
    case h_2 => cases h
    rename_i b k hs
    split at h
    case h_2 => cases h
    rename_i l rw hb
    obtain ⟨B, tt, vs, rest, h1, h2, h3, h4, h5⟩ := hM.blk b _ hb
    have hr := (hT.at_ s _ hs).2
    simp only [AV.rep] at hr
    obtain ⟨B', t', q1, q2⟩ := hr
    rw [h1] at q1; cases q1
    split at h
    · rename_i ha
      split at h
      case h_2 => cases h
      rename_i i hi
      cases hc : Nat.ble (k + i.size) l.length with
      | false => rw [hc] at h; cases h
      | true =>
        rw [hc] at h; cases h
        have hle := Nat.le_of_ble_eq_true hc
        have hlen := repL_length h4
        have hsl : ((vs.drop k).take i.size).length = i.size := by simp; omega
        have hcs : CellsAt w ⟨B, k, none⟩ ((vs.drop k).take i.size) := h2.cells k fun j hj => by
          rw [hsl] at hj
          rw [List.getElem?_append_left (by omega), List.getElem?_eq_getElem (by omega)]
          simp
        have hl := loadCells_run (P := P) (w := w) (a := ⟨B, k, none⟩) ((vs.drop k).take i.size) 0 #[] (fun j hj => by simpa using hcs j hj)
        rw [hsl] at hl
        refine ⟨.agg ⟨(vs.drop k).take i.size⟩, by simp only [AV.rep]; exact ⟨_, rfl, repL_take (repL_drop h4)⟩, ?_⟩
        simp only [resOne, q2, asAddr, loadVar, Sem.run_bind, Sem.run_pure, Result.andThen_ok, aggT_run ha, if_true, sizeOf, typeInfo, run_program, hi, loadCells, hl]
        simp
    · rename_i ha
      obtain ⟨v, hv, hr⟩ := repL_get h4 h
      have hlt := (List.getElem?_eq_some_iff.1 hv).1
      have hc : w.cell? ⟨B, k, none⟩ = some v := h2.cell (by rw [List.getElem?_append_left hlt]; exact hv)
      refine ⟨v, hr, ?_⟩
      simp only [resOne, q2, asAddr, loadVar, Sem.run_bind, Sem.run_pure, Result.andThen_ok, aggT_run ha, Bool.false_eq_true, if_false, run_load, hc]
    · cases h
theorem resA_ok {P : Program} {b0 : Base} {e : Env} {tm : Tm} {M : Tr Blk} {n : Nat} {a : Act} {w : World} (hM : MemR b0 e M.get n w) (hT : TmR e tm a) : ∀ {l : List ResultVar} {as : List AV}, resA P tm M l = some as →
    ∃ vs, AV.repL e as vs ∧ (l.mapM (resOne a.tmps)).run P w = .ok vs w
  | [], _, h => by simp only [resA] at h; cases h; exact ⟨[], by simp [AV.repL], rfl⟩
  | x :: l, _, h => by
    simp only [resA] at h
    split at h
    · rename_i av hav
      split at h
      · rename_i as has
        cases h
        obtain ⟨v, h1, h2⟩ := resOneA_ok hM hT hav
        obtain ⟨vs, h3, h4⟩ := resA_ok hM hT has
        refine ⟨v :: vs, by simp only [AV.repL]; exact ⟨_, _, rfl, h1, h3⟩, ?_⟩
        simp only [List.mapM_cons, Sem.run_bind, h2, h4, Result.andThen_ok, Sem.run_pure]
      · cases h
    · cases h
theorem wrap_rep {e : Env} {as : List AV} {vs : List Value} (h : AV.repL e as vs) : (wrapA as).rep e (wrapRes vs) := by
  match as, h with
  | [], h => simp only [AV.repL] at h; subst h; simp only [wrapA, wrapRes, AV.rep]; exact ⟨[], rfl, by simp [AV.repL]⟩
  | [a], h =>
    simp only [AV.repL] at h
    obtain ⟨x, xs, rfl, h1, rfl⟩ := h
    exact h1
  | a :: b :: l, h =>
    have h' := h
    simp only [AV.repL] at h
    obtain ⟨x, xs, rfl, h1, y, ys, rfl, h2⟩ := h
    simp only [wrapA, wrapRes, AV.rep]
    exact ⟨_, rfl, h'⟩

abbrev ResF (R : Type) : Type := Tm → Tr Blk → (AV → Option R) → Option R
def slowR (P : Program) (l : List ResultVar) : ResF R := fun tm M K => match resA P tm M l with
  | some as => fL as fun as => fA (wrapA as) K
  | none => none
def oneR (g : Tm → Option AV) : ResF R := fun tm _ K => oK (g tm) K
def resB (P : Program) (l : List ResultVar) : Bx (ResF R) := match l with
  | [] => ⟨fun _ _ K => K (.tuple [])⟩
  | [.tmp t] => b1 oneR (Tm.gB t)
  | _ => ⟨slowR P l⟩
theorem resB_some {P : Program} {l : List ResultVar} {tm : Tm} {M : Tr Blk} {K : AV → Option R} {r : R} (h : (resB P l).get tm M K = some r) : ∃ as, resA P tm M l = some as ∧ K (wrapA as) = some r := by
  unfold resB at h
  split at h
  · exact ⟨[], rfl, h⟩
  · rename_i t
    obtain ⟨a, h1, h2⟩ := oK_some (show oK (tm.get t) K = some r from h)
    exact ⟨[a], by simp only [resA, resOneA, h1], h2⟩
  · simp only [slowR] at h
    split at h
    · rename_i as has; rw [fL_eq, fA_eq] at h; exact ⟨as, has, h⟩
    · cases h
/-- calls: k deep, loops of at most 2^lf rounds; ext: functions that are known otherwise -/
def bodyC (nt : Nat) (f : CodeF R) (q : ResF R) : CallK R → CallK R := fun call _ args M n K => ifK (Nat.ble args.length nt) (argsK 0 args Tm.nil fun tm => f call tm M n fun ex tm M n => AEx.casesOn (motive := fun _ => Option R) ex (q tm M fun av => K av M n) (q tm M fun av => K av M n) (fun _ => none)) none
def outC (P : Program) : CallK R → CallK R := fun _ g args M n K => match AV.vals? args with
  | some vs => match semV P (callFunc g ⟨vs⟩) with
    | some (.value v) => fV v fun v => K (.lit v) M n
    | _ => none
  | none => none
def noC : CallK R → CallK R := fun _ _ _ _ _ _ => none
def funB (P : Program) (lf : Nat) (g : FuncId) : Bx (CallK R → CallK R) := match P.funcs[g]? with
  | some fn => cond (fn.name == "runtime.NumGoroutine") ⟨noC⟩ (match fn.body with
    | some c => b2 (bodyC fn.ntmps) (codeC P fn.ntmps lf false c) (resB P fn.results.toList)
    | none => ⟨outC P⟩)
  | none => ⟨noC⟩
def stepC (P : Program) (ext : CallK R → CallK R) (lf : Nat) (call : CallK R) : CallK R := ext fun g args M n K => ifK (Nat.ble YB g) (fN (Nat.sub g YB) fun b => yieldC P lf call b args M n K) (onB (funB P lf g) fun f => f call g args M n K)
def nestB (P : Program) (ext : CallK R → CallK R) (lf : Nat) : Nat → Bx (CallK R)
  | 0 => ⟨fun _ _ _ _ _ => none⟩
  | k + 1 => b1 (stepC P ext lf) (nestB P ext lf k)
def funK (P : Program) (ext : CallK R → CallK R) (lf : Nat) (k : Nat) : CallK R := fun g args M n K => onB (nestB P ext lf k) fun f => f g args M n K
/-- what is known otherwise is so -/
def ExtOk (P : Program) (ext : CallK R → CallK R) : Prop := ∀ call, CallOk P call → CallOk P (ext call)
theorem ext_none (P : Program) : ExtOk P (fun c : CallK R => c) := fun _ h => h
/-- the marks are come to: the base is the first again -/
theorem shut_other : ∀ (ds : List Nat) (w : World) {k : Nat}, k ∉ ds → (shut ds w).heap[k]? = w.heap[k]?
  | [], _, _, _ => rfl
  | D :: ds, w, k, h => by
    simp only [List.mem_cons, not_or] at h
    simp only [shut]
    rw [shut_other ds _ h.2]
    exact World.putObj_heap_other h.1
theorem shut_facts : ∀ (ds : List Nat) (w : World), (shut ds w).os = w.os ∧ (shut ds w).tape = w.tape ∧ (shut ds w).output = w.output ∧ (shut ds w).heap.size = w.heap.size
  | [], _ => ⟨rfl, rfl, rfl, rfl⟩
  | D :: ds, w => by
    obtain ⟨h1, h2, h3, h4⟩ := shut_facts ds (w.putObj D (.deferred none))
    exact ⟨h1, h2, h3, by rw [shut, h4]; simp [World.putObj]⟩
theorem MemR.shut {b0 b' : Base} {ds' : List Nat} {e' : Env} {M' : Mm} {n' : Nat} {w' : World} (hM : MemR b' e' M' n' w') (hx : Ext b0 [] b' ds') (hD : MarksIn b' ds') : MemR b0 e' M' n' (shut ds' w') := by
  obtain ⟨f1, f2, f3, f4⟩ := shut_facts ds' w'
  refine ⟨fun b hb => hM.new b (hb.imp id fun h => by rw [hx.R]; exact h), fun b hb => hM.res b (by rw [hx.R]; exact hb), fun b x hb => ?_, hM.dif, ⟨f1.trans (hM.kept.os.trans hx.kept.os), f2.trans (hM.kept.tape.trans hx.kept.tape), f3.trans (hM.kept.output.trans hx.kept.output), Nat.le_trans hx.kept.size (by rw [f4]; exact hM.kept.size), fun k hk => ?_⟩⟩
  · have hbk := hM.blk b x hb
    obtain ⟨B', t', g1, g2, g3⟩ := hbk.at
    refine hbk.keep (Later.refl e') (fun B t hB hX hc => hX (hx.X B hc)) fun B t hB => ?_
    rw [g1] at hB; cases hB
    exact shut_other ds' w' fun hc => g3 (hD.2 B' hc).1
  · rw [shut_other ds' w' fun hc => ?_]
    · exact (hM.kept.block k (hx.X k hk)).trans (hx.kept.block k hk)
    · rcases hx.new k hc with h | h
      · cases h
      · exact h hk
theorem bodyC_ok {P : Program} (hm : P.follows .mixedOrders = true) {lf : Nat} {call : CallK R} (hcall : CallOk P call) {g : FuncId} {fn : Func} {c : Code} (hfn : P.funcs[g]? = some fn) (hc : fn.body = some c) (hnm : (fn.name == "runtime.NumGoroutine") = false)
    {args : List AV} {M : Tr Blk} {n : Nat} {K : AV → Tr Blk → Nat → Option R} {r : R} (h : bodyC fn.ntmps (codeC P fn.ntmps lf false c).get (resB P fn.results.toList).get call g args M n K = some r) : ∃ av M' n', K av M' n' = some r ∧ FunR P g args M n av M' n' := by
  unfold bodyC at h
  cases hn : Nat.ble args.length fn.ntmps with
  | false => rw [hn] at h; cases h
  | true =>
    rw [hn] at h
    have hn := Nat.le_of_ble_eq_true hn
    obtain ⟨tm0, h1, h2⟩ := argsK_ok (sz := 0) (show argsK 0 args Tm.nil _ = some r from h)
    obtain ⟨ex, tm, M', n', h3, h4⟩ := codeC_ok hcall hm (rnd := false) c _ _ _ _ _ h1
    have hx : ∃ as, resA P tm M' fn.results.toList = some as ∧ K (wrapA as) M' n' = some r ∧ (ex.toExit = .normal ∨ ex.toExit = .ret) := by
      cases ex with
      | exit i => cases h3
      | normal => obtain ⟨as, q1, q2⟩ := resB_some h3; exact ⟨as, q1, q2, .inl rfl⟩
      | ret => obtain ⟨as, q1, q2⟩ := resB_some h3; exact ⟨as, q1, q2, .inr rfl⟩
    obtain ⟨as, g1, g2, g3⟩ := hx
    refine ⟨_, M', n', g2, fun b0 e w vs hM hvs next hk => ?_⟩
    have hcall : callOk P g = true := by unfold callOk; rw [hfn]; simp [hc, hnm]
    have hsz : (⟨vs⟩ : Array Value).size = args.length := by simp [repL_length hvs]
    have hA : ActR fn.ntmps (([] : List Nat).map mk) e tm0 { tmps := (⟨vs⟩ : Array Value) ++ Array.replicate (fn.ntmps - (⟨vs⟩ : Array Value).size) undef, defers := [] } := by
      refine ⟨⟨fun t av ht => ?_⟩, ?_, rfl⟩
      · rcases h2 t av ht with ⟨j, q1, q2⟩ | q
        · obtain ⟨v, q3, q4⟩ := repL_get hvs q1
          have hj := (List.getElem?_eq_some_iff.1 q3).1
          rw [Nat.zero_add] at q2
          subst q2
          refine ⟨by simp; omega, ?_⟩
          have : ((⟨vs⟩ : Array Value) ++ Array.replicate (fn.ntmps - (⟨vs⟩ : Array Value).size) undef).getD t undef = v := by
            rw [Array.getD_eq_getD_getElem?, Array.getElem?_append_left (by simpa using hj)]
            have : (⟨vs⟩ : Array Value)[t]? = some v := by simpa using q3
            rw [this]; rfl
          rw [this]; exact q4
        · rw [Tm.get_nil] at q; cases q
      · simp only [Array.size_append, Array.size_replicate]
        rw [hsz]; omega
    refine after_calls hcall (callsIn_wide.1 (callsIn_of_wp_marks (n := 0) hfn hc trivial ?_))
    refine wpIn_mono (h4 Fence.wide 0 b0 [] e _ w ⟨.inl rfl, fun _ => rfl⟩ hM hA ⟨List.nodup_nil, nofun⟩) ?_
    rintro x a' w' ⟨rfl, e', b', ds', hl, hxt, _, hM', hA', hD'⟩
    have hM2 := hM'.shut hxt hD'
    obtain ⟨us, r1, r2⟩ := resA_ok hM2 hA'.tm g1
    have hres := results_run (fn := fn) r2
    have hnext := hk e' (wrapRes us) _ hl hM2 (wrap_rep r1)
    have hmk : MarksOk ds' w' := ⟨hD'.1, fun D hDm => (hM'.kept.block D (hD'.2 D hDm).1).trans (hD'.2 D hDm).2⟩
    have key : LeavesInM Fence.wide 0 P fn a'.tmps (Ret next) a'.defers .returning w' := by
      rw [hA'.defers]
      exact leaves_marks (R := Ret next) ds' w' hmk hres hnext
    rcases g3 with g3 | g3 <;> rw [g3] <;> exact key
theorem outC_ok {P : Program} {call : CallK R} {g : FuncId} {args : List AV} {M : Tr Blk} {n : Nat} {K : AV → Tr Blk → Nat → Option R} {r : R} (h : outC P call g args M n K = some r) : ∃ av M' n', K av M' n' = some r ∧ FunR P g args M n av M' n' := by
  unfold outC at h
  split at h
  case h_2 => cases h
  rename_i vs hvs
  split at h
  case h_2 => cases h
  rename_i v hv
  rw [fV_eq] at h
  refine ⟨.lit v, M, n, h, fun b0 e w us hM hus next hk => ?_⟩
  have := vals_rep hvs hus
  subst this
  rw [semV_run hv w]
  exact hk e v w (Later.refl e) hM (by simp only [AV.rep])
theorem stepC_ok {P : Program} (hm : P.follows .mixedOrders = true) {ext : CallK R → CallK R} (he : ExtOk P ext) {lf : Nat} {call : CallK R} (hcall : CallOk P call) : CallOk P (stepC P ext lf call) := by
  unfold stepC
  refine he _ ?_
  intro g args M n K r h
  have h : ifK (Nat.ble YB g) (fN (Nat.sub g YB) fun b => yieldC P lf call b args M n K) (onB (funB P lf g) fun f => f call g args M n K) = some r := h
  cases hY : Nat.ble YB g with
  | true =>
    rw [hY] at h
    have hY : YB ≤ g := Nat.le_of_ble_eq_true hY
    have h := (ifK_some (b := true) h).2
    rw [fN_eq] at h
    obtain ⟨av, M', n', h1, h2⟩ := yieldC_ok hcall hm h
    refine ⟨av, M', n', h1, fun hlt => absurd hlt (Nat.not_lt.2 hY), fun b hb => ?_⟩
    have : Nat.sub g YB = b := by rw [hb]; exact Nat.add_sub_cancel_left YB b
    rw [this] at h2
    exact h2
  | false =>
    rw [hY] at h
    have hY : ¬ YB ≤ g := fun hh => by rw [Nat.ble_eq_true_of_le hh] at hY; cases hY
    have h : (funB P lf g).get call g args M n K = some r := h
    suffices ∃ av M' n', K av M' n' = some r ∧ FunR P g args M n av M' n' by
      obtain ⟨av, M', n', h1, h2⟩ := this
      exact ⟨av, M', n', h1, fun _ => h2, fun b hb => absurd (hb ▸ Nat.le_add_right YB b) hY⟩
    unfold funB at h
    split at h
    case h_2 => cases h
    rename_i fn hfn
    cases hnm : (fn.name == "runtime.NumGoroutine") with
    | true => rw [hnm] at h; cases h
    | false =>
      rw [hnm] at h
      simp only [cond_false] at h
      split at h
      · rename_i c hc; exact bodyC_ok hm hcall hfn hc hnm h
      · exact outC_ok (call := call) h
theorem nestB_ok {P : Program} (hm : P.follows .mixedOrders = true) {ext : CallK R → CallK R} (he : ExtOk P ext) {lf : Nat} : ∀ k, CallOk P (nestB P ext lf k).get
  | 0 => fun g args M n K r h => by cases h
  | k + 1 => stepC_ok hm he (nestB_ok hm he k)
theorem funK_ok {P : Program} (hm : P.follows .mixedOrders = true) {ext : CallK R → CallK R} (he : ExtOk P ext) {lf : Nat} (k : Nat) : CallOk P (funK P ext lf k) := nestB_ok hm he k

/-- a closed call: what comes of it in any world -/
theorem run_closed {P : Program} (hm : P.follows .mixedOrders = true) {ext : CallK AV → CallK AV} (he : ExtOk P ext) {lf k : Nat} {g : FuncId} {v : Value} (hgb : Nat.ble (Nat.succ g) YB = true) (h : funK P ext lf k g [] Tr.nil 0 (fun av _ _ => some av) = some (.lit v)) (w : World) :
    After P (fun u w' => u = v ∧ RowKit.Below w.heap.size w w') ((callFunc g #[]).run P w) := by
  obtain ⟨av, M', n', h1, h2⟩ := funK_ok hm he k _ _ _ _ _ _ h
  cases h1
  have hgY : g < YB := Nat.le_of_ble_eq_true hgb
  refine h2.1 hgY (base w) (fun _ => none) w [] (MemR.start w) (by simp [AV.repL]) _ fun e' u w' _ hM' hu => ?_
  simp only [AV.rep] at hu
  exact ⟨hu, hM'.below⟩
end Go.Am
