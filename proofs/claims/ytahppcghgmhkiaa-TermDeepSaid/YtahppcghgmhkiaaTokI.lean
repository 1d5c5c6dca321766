/- The laws of layer 8: live, TokenNext, TokenNames. -/
import Derived.Test.YtahppcghgmhkiaaTokH
namespace Go.Proofs.Ytahppcghgmhkiaa
open Go.Vc Go.Tk

theorem live_all : allS [99, 33, 120, 49, 59] = ([⟨1, [99], 0, 0⟩, ⟨4, [33], 0, 1⟩, ⟨1, [120, 49], 0, 2⟩, ⟨4, [59], 0, 4⟩, ⟨0, [], 0, 5⟩], 5, 0) := by kernel_rfl
theorem live_next : nextS [48, 49, 50] 0 = (Tok.zero, 0, 3) := by kernel_rfl

theorem live8_spec (w : World) : Calls Try.prog 27 #[] w (Ret fun v w' => v = .bool true ∧ Ext w w') := by
  refine L08_live_ok _ _ (call_then (All_spec [99, 33, 120, 49, 59] w) ?_)
  rintro _ w1 ⟨a, c, rfl, hsl, he1⟩
  rw [live_all] at hsl ⊢
  refine ⟨_, _, _, _, _, rfl, call_then (Next_spec [48, 49, 50] (by decide) 0 w1) ?_⟩
  rintro _ w2 ⟨rfl, he2⟩
  rw [live_next]
  refine ⟨_, _, _, _, _, _, rfl, ?_⟩
  intro b w3 hb hw3
  have o := ((Own.start w).ext (he1.trans he2)).alloc hb hw3
  refine ⟨o.wr 0 rfl rfl, fun w4 hw4 => ?_⟩
  have h2 := (hsl.ext he2).ext (.alloc hw3)
  have hlt2 := (hsl.ext he2)
  have o4 := o.sets 0 hw4 rfl
  obtain ⟨p, rfl, hp⟩ := hlt2.some_of (by simp [flat, tokC])
  have hcell : ∀ (i : Nat) (v : Value), (flat tokC [(⟨1, [99], 0, 0⟩ : Tok), ⟨4, [33], 0, 1⟩, ⟨1, [120, 49], 0, 2⟩, ⟨4, [59], 0, 4⟩, ⟨0, [], 0, 5⟩])[i]? = some v → w4.cell? (p.add i) = some v := by
    intro i v hv
    obtain ⟨hi, rfl⟩ := List.getElem?_eq_some_iff.1 hv
    have h1 := hp i hi
    have h3 := (Ext.alloc hw3).cell h1
    have hne : b ≠ (p.add i).block := by have := cell_lt h1; omega
    rw [hw4]
    unfold World.cell? setCells
    have hh : (setCellsFrom w3 ⟨b, 0, none⟩ 0 [Value.int .i64 0, .string (mkS []), .int .i64 0, .int .i64 0]).heap[(p.add i).block]? = w3.heap[(p.add i).block]? := heap_sets hne _ w3 0
    have := h3
    unfold World.cell? at this
    rw [← hh] at this
    exact this
  refine ⟨⟨by omega, by simp⟩, 4, ?_, ?_⟩
  · exact hcell 4 _ rfl
  refine ⟨⟨by omega, by simp⟩, [120, 49], ?_, ?_⟩
  · have := hcell 9 _ rfl
    rw [add_add _ _ _ (.inl (by omega))]
    exact this
  refine call_then (Word_spec _ w4) ?_
  rintro _ w5 ⟨rfl, he5⟩
  have hwd : decide (([99, 104, 97, 110] : List UInt8) ∈ words) = true := by decide
  rw [hwd]
  refine ⟨_, rfl, call_then (Name_spec _ w5) ?_⟩
  rintro _ w6 ⟨rfl, he6⟩
  have hnm : nameS [99] = true := by decide
  rw [hnm]
  exact ⟨_, rfl, rfl, (o4.done.trans he5).trans he6⟩

theorem TokenNext_spec (s : List UInt8) (at_ : Int) (w : World) : Calls Try.prog 8 #[.string (mkS s), .int .i64 at_] w (Ret fun v w' => v = .bool true ∧ Ext w w') := by
  refine L08_TokenNext_ok _ _ _ _ ?_
  refine cond_intro (fun hx => ?_) fun hx => ?_
  · refine call_then (live8_spec w) ?_
    rintro _ w1 ⟨rfl, he⟩
    exact ⟨_, rfl, rfl, he⟩
  · have hs : s.length ≤ 1000 := by simp at hx; omega
    refine call_then (Next_spec s (by omega) at_ w) ?_
    rintro _ w2 ⟨rfl, he2⟩
    refine ⟨_, _, _, _, _, _, rfl, ?_⟩
    intro b w3 hb hw3
    have o := ((Own.start w).ext he2).alloc hb hw3
    refine ⟨o.wr 0 rfl rfl, fun w4 hw4 => ?_⟩
    have o := o.sets 0 hw4 rfl
    refine call_then (rNext_spec s (by omega) at_ w4) ?_
    rintro _ w5 ⟨rfl, he5⟩
    have o := o.ext he5
    refine ⟨_, _, _, _, _, _, rfl, ?_⟩
    intro b1 w6 hb1 hw6
    have o := o.alloc hb1 hw6
    refine ⟨o.wr 0 rfl rfl, fun w7 hw7 => ?_⟩
    have o := o.sets 0 hw7 rfl
    refine ⟨_, _, _, _, (o.at 1 rfl).whole, _, _, _, _, (o.at 0 rfl).cells 0 (m := tokC (nextS s at_).1) (fun j hj => ?_), ?_⟩
    · have : j < 4 := hj
      match j, this with
      | 0, _ => rfl
      | 1, _ => rfl
      | 2, _ => rfl
      | 3, _ => rfl
    · refine cond_t (by simp) ⟨_, (o.at 0 rfl).cell rfl, cond_t (by simp) ⟨_, (o.at 0 rfl).cell rfl, cond_t (by simp) ?_⟩⟩
      refine call_then (live8_spec w7) ?_
      rintro _ w8 ⟨rfl, he8⟩
      exact ⟨_, rfl, rfl, o.done.trans he8⟩
end Go.Proofs.Ytahppcghgmhkiaa
