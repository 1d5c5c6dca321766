/- The library's contracts, and the law InsLines, as a call. -/
import Derived.Test.YtknpbkajonmaoaaDoorInsU
import Derived.Test.YtknpbkajonmaoaaDoorOpnN
import Derived.Handed
import Derived.Clock
import Derived.Test.YtknpbkajonmaoaaDoorShIns
namespace Go.Lv
open Go.Proofs
theorem returnsInHanded_of_change_shaped {H : Type} {enc : TypeId × Value → H} {a : Assume} {C : Checked} {os : Os} {f : FuncId} {fn : Func} {s : ChangeSpec} {conds : List PathCond} {apart fresh handsOn again : Bool} {X : World → Array Value → Prop}
    (hX : ∀ (w w' : World) (args : Array Value), w.heap = w'.heap → X w args → X w' args)
    (own : ownKnob C.prog.godebug = none) (started : os.Started) (noInit : C.prog.inits.idxOf? f = none) (hfn : C.prog.funcs[f]? = some fn)
    (witness : ∃ (w : World) (tape : Tape) (i : Input), w.os = os ∧ (w.forCall tape i).Shaped C.prog ∧ i.vars = [] ∧ Input.okWide C.prog (w.forCall tape i) .any w.heap.size f i ∧
      ((s.pre enc C.prog fn conds apart (w.forCall tape i).memory i.args ∧ X (w.forCall tape i).memory i.args) ∧ sizedMet enc C.prog fn (OpenSpec.ofChange s) apart (w.forCall tape i).memory i.args) ∧ a.holds C.prog (lone (Frame.enter C.prog f i.args .normal) [] (w.forCall tape i)))
    (contract : ∀ (W : World) (base : Nat) (args : Array Value) (ds gs : List (DataW H)) (before : List MemPlace),
      (∀ (j : Nat) t v, fn.params[j]? = some t → args[j]? = some v → Value.okWide C.prog W .any base t v) →
      DataW.Whole enc C.prog fn.params.toList s.vars apart W args.toList ds gs before →
      conds.all (PathCond.test C.prog ⟨fn.params.toList, ds, s.plain.varTypes C.prog, gs⟩) = true →
      (DataW.weightsEach C.prog (fn.params.toList ++ s.plain.varTypes C.prog) (ds ++ gs)).all (· ≤ reachBytes) = true → X W args → W.ShapedOpen C.prog →
      Calls C.prog f args W fun e W' => ∃ v, e = .returned v ∧ s.post enc C.prog fn apart fresh handsOn again W args v W') :
    ReturnsInHanded a C os f .any (fun w args => (s.pre enc C.prog fn conds apart w args ∧ X w args) ∧ sizedMet enc C.prog fn (OpenSpec.ofChange s) apart w args) (s.post enc C.prog fn apart fresh handsOn again) := by
  refine returnsInHanded_of_calls own started noInit witness ?_
  intro w tape i _ hsh _ hok hpre _
  obtain ⟨_, _, _, fn', hfn', _, _, _, _, hval⟩ := hok
  have e : fn' = fn := Option.some.inj (hfn'.symm.trans hfn)
  subst e
  obtain ⟨⟨⟨ds, gs, before, hw, hc⟩, hx⟩, hz⟩ := hpre
  have hw' := DataW.Whole.of_heap (w' := w.forCall tape i) (by rfl) hw
  refine (contract (w.forCall tape i) w.heap.size i.args ds gs before hval hw' hc (hz.weights hw) (hX _ _ _ (by rfl) hx) hsh).mono fun e W' ⟨v, he, hp⟩ => ?_
  subst he
  exact ChangeSpec.post_blind hp
end Go.Lv
namespace Go.Proofs.YtknpbkajonmaoaaDoor
open Go.Vc Go.Lv Go.Ty Go.Iv Go.Tx

theorem j64o {n : Int} (h : IntKind.i64.min ≤ n ∧ n ≤ IntKind.i64.max) : J64 n := ⟨Int.le_trans (by decide) h.1, Int.le_trans h.2 (by decide)⟩
theorem jinso {x : GIns} (h : okGIns x) : JIns x := ⟨j64o h.2.1, j64o h.2.2⟩
theorem itoaV : ItoaV := fun n h K hK => by
  intro m w hm
  have hc := Any.strconv_Itoa Tryd.laysM171 n h.1 h.2 w hm.tab.1
  change Calls Tryd.prog 36 _ _ _ at hc
  refine hc.mono ?_
  rintro e w' ⟨rfl, k, os, rfl⟩
  refine ⟨_, hK, rfl, rfl, rfl, rfl, ?_, fun j hj _ => ?_⟩
  · show w.heap.size ≤ (w.heap ++ os).size
    simp
  · show (w.heap ++ os)[j]? = _
    rw [Array.getElem?_append_left hj]
theorem el_bs (m : List Nat) (w : World) : ∀ l : List ByteArray, El cStr m w (l.map fun s => s.data.toList) (l.map Value.string)
  | [] => ⟨[], rfl, trivial⟩
  | s :: l => by
    obtain ⟨css, h1, h2⟩ := el_bs m w l
    exact ⟨[.string s] :: css, by simp [h1], rfl, h2⟩
theorem cell_row {w : World} {b j : Nat} {c : Array Value} {t : TypeId} {fr : Nat × Nat} (h : w.heap[b]? = some (.cells c t fr)) : w.cell? ⟨b, j, none⟩ = c[j]? := by simp [World.cell?, h]
theorem splitV : SplitV := fun s hs K hK => by
  intro m w hm
  obtain ⟨mm, hmm⟩ := hm.tab.2.1
  have L := Tryd.laysM146
  have hc := Any.strings_Split { L with } L.i9 (mkS s) (mkS [32]) mm w (by show s.length < _; omega) hmm (by decide)
  change Calls Tryd.prog 61 _ _ _ at hc
  refine hc.mono ?_
  rintro e w' ⟨rfl, rfl⟩
  have hd := Lib.splitB_data (mkS [32]) 0 (Lib.countB (mkS s) (mkS [32])) (mkS s)
  have hl := Lib.splitB_all (mkS [32]) (by decide) 0 _ (mkS s) rfl
  have hsp : (Lib.splitB (mkS [32]) 0 (Lib.countB (mkS s) (mkS [32])) (mkS s)).map (·.data.toList) = sp 32 s := by
    rw [← split_sp 32 s.length s (Nat.le_refl _)]
    exact hd
  generalize Lib.splitB (mkS [32]) 0 (Lib.countB (mkS s) (mkS [32])) (mkS s) = B at hl hsp
  have hlen : (sp 32 s).length = Lib.countB (mkS s) (mkS [32]) + 1 := by rw [← hsp, List.length_map]; exact hl
  rw [← hlen]
  refine ⟨_, hK, ⟨_, _, rfl, Nat.le_refl _, .inr ⟨⟨w.heap.size, 0, none⟩, B.map Value.string, rfl, fun hb => Nat.lt_irrefl _ (hm.lt _ hb), ?_, hsp ▸ el_bs _ _ B⟩⟩, keep_alloc rfl⟩
  intro j hj
  rw [add_mk, Nat.zero_add]
  have hg : (w.alloc (.cells (B.map Value.string).toArray (Tryd.laysM146_ren.t 9))).heap[w.heap.size]? = some (.cells (B.map Value.string).toArray (Tryd.laysM146_ren.t 9) (0, 0)) := by
    show (w.heap.push _)[w.heap.size]? = _
    simp
  rw [cell_row hg]
  simp
theorem atoi_j {s : List UInt8} {v : Int} (h : Lib.atoiAll s = .ok v) : J64 v := by
  unfold Lib.atoiAll at h
  split at h
  · cases h
  · simp only at h
    split at h
    · cases h
    · cases h
    · rename_i u _
      split at h
      · cases h
      · split at h
        · cases h
        · cases h
          rename_i h1 h2
          unfold J64
          split <;> constructor <;> omega
theorem atoiV : AtoiV := fun s hs K hK => by
  intro m w hm
  obtain ⟨tp1, p1, hv1⟩ := hm.tab.2.2.1
  obtain ⟨tp2, p2, hv2⟩ := hm.tab.2.2.2
  have fin : Calls Tryd.prog 63 #[.string (mkS s)] w (Ret fun v w' => ∃ (r0 : Int) (r1 : Value), K r0 r1 ∧ (v = .tuple #[.int .i64 r0, r1]) ∧ Keep [] w w') := by
    cases h : Lib.atoiAll s
    case ok v =>
      have hc := Any.strconv_Atoi_ok Tryd.laysC172 (mkS s) (by show s.length ≤ _; omega) v h w
      change Calls Tryd.prog 63 _ _ _ at hc
      refine hc.mono ?_
      rintro e w' ⟨rfl, hw⟩
      refine ⟨v, _, hK _ _ ?_ (fun u hu => by rw [h] at hu; cases hu; rfl), rfl, ?_⟩
      · exact atoi_j h
      · rcases hw with rfl | ⟨t, rfl⟩
        · exact Keep.refl _ _
        · exact Keep.ofExt (Lib.bytesWorld_below _ _ _)
    case range =>
      have hc := Any.strconv_Atoi_range_var Tryd.laysC172 (mkS s) (by show s.length ≤ _; omega) h tp2 p2 w hv2
      change Calls Tryd.prog 63 _ _ _ at hc
      refine hc.mono ?_
      rintro e w' ⟨N, rfl, _, _, hb⟩
      exact ⟨_, _, hK _ _ (by unfold Lib.atoiSat J64; split <;> decide) (fun v hv => by rw [h] at hv; cases hv), rfl, Keep.ofExt hb⟩
    · have hc := Any.strconv_Atoi_syntax_var Tryd.laysC172 (mkS s) (by show s.length ≤ _; omega) h tp1 p1 w hv1
      change Calls Tryd.prog 63 _ _ _ at hc
      refine hc.mono ?_
      rintro e w' ⟨N, rfl, _, _, hb⟩
      exact ⟨0, _, hK _ _ ⟨by decide, by decide⟩ (fun v hv => by rw [h] at hv; cases hv), rfl, Keep.ofExt hb⟩
  exact fin
theorem InsLines_spec (x : GIns) (hx : okGIns x) (s : ByteArray) (cs : Array Value) (w : World) (hh : Go.Lv.held.T w) (hc : cGIns.rep [] w x cs.toList) :
    Calls Tryd.prog 9 #[.agg cs, .string s] w (Ret fun v w' => v = .bool true ∧ Ext w w') := by
  refine call_then (InsLines_v itoaV splitV atoiV x (jinso hx) (sl s) (· = true) rfl [] w (MOk.nil hh) cs.toList hc) ?_
  rintro _ _ ⟨_, rfl, rfl, k⟩
  exact ⟨rfl, k.ext⟩
end Go.Proofs.YtknpbkajonmaoaaDoor
