/- Layer 42: the law ExploreKeys in plain values, and its call. -/
import Derived.Test.YtfcemnnlmlggoaaGreatKeyE
import Derived.Test.YtfcemnnlmlggoaaGreatKeyS
import Derived.Test.YtfcemnnlmlggoaaGreatKeyL
namespace Go.Proofs.YtfcemnnlmlggoaaGreat
open Go.Vc Go.Lv Go.Ty Go.Iv Go.Ky
open Go.RowKit (Below)

theorem srt_len (s : GState) : (srtL s).length ≤ (sinL s).length := by
  have h := Lib.compact_length_le ((sinL s).mergeSort fun x y => decide (x ≤ y))
  rw [List.length_mergeSort] at h
  exact h
theorem key_v (s : GState) (r : RgS s) (sm : Sm s) (K : List UInt8 → Prop) (hK : K (stateF (keyS s))) : V_explore_Key s K := by
  have hsp := sm.procs
  have hL := sinL_len s
  refine explore_Key_lift _ _ ⟨fun i v n => At s.procs.length (fun k => v = s.since :: (((s.procs.take k).filter qd).map (·.since))) i n, ⟨_, At.start (by simp)⟩, ?_⟩
  rintro _ _ _ ⟨k, rfl, hk, rfl, rfl⟩
  refine At.cond hk (fun hk => ⟨fun v => v = s.since :: (((s.procs.take (k + 1)).filter qd).map (·.since)), at_elem hk (queued_v _ _ (cond_intro (fun hc => ⟨?_, ?_⟩) fun hc => ?_)), ?_⟩) fun hk => ?_
  · have := List.length_filter_le qd (s.procs.take k)
    simp only [List.length_cons, List.length_map, List.length_nil, List.length_take] at this ⊢
    omega
  · rw [qd_snoc hk, if_pos hc]; rfl
  · rw [qd_snoc hk, if_neg (by rw [hc]; decide), List.append_nil]
  · rintro _ rfl
    exact At.next (by omega) hk rfl
  · rw [hk, List.take_length]
    have hsl := srt_len s
    refine sort_int (sinL s) (by omega) _ (compact_int _ (by rw [List.length_mergeSort]; omega) _ (clonep_v _ (by omega) _ ?_))
    exact rest_v s r sm (srtL s) (srtL_ok s).1 (by omega) K hK
theorem live_v (K : Bool → Prop) (h : K true) : V_L42_live K := fun m w hm => call_then (exploreKeys.calls42 w) fun v w' hv => ⟨true, h, hv.1, Keep.ofExt hv.2⟩
theorem key_beq (a b : GState) : (stateF (keyS a) == stateF (keyS b)) = decide (refS a = refS b) := by
  rw [Bool.eq_iff_iff, beq_iff_eq, decide_eq_true_eq]
  exact key_eq a b
theorem law_v (a b : GState) (n : Int) (ra : RgS a) (rb : RgS b) (la : a.procs.length ≤ maxLen) (lb : b.procs.length ≤ maxLen) : V_L42_ExploreKeys a b n (fun r => r = true) := by
  refine L42_ExploreKeys_lift _ _ _ _ ⟨fun c => c = false → Sm a ∧ Sm b, large_v a la _ (fun c hc => cond_intro (fun h => nofun) fun h => large_v b lb _ fun d hd he => ⟨hc h, hd he⟩), ?_⟩
  rintro c hc
  refine cond_intro (fun _ => live_v _ rfl) fun h => ?_
  obtain ⟨sa, sb⟩ := hc h
  let x : GState := ⟨IntKind.i64.wrap (a.now + n), a.since, a.halt, a.fault, a.who, a.procs, a.out⟩
  have rx : RgS x := ⟨wr_j _, ra.since, ra.halt, ra.fault, ra.who, ra.procs, ra.out⟩
  have sx : Sm x := ⟨sa.procs, sa.out, sa.each⟩
  refine key_v a ra sa _ (key_v b rb sb _ (alike_v a b sa sb _ (cond_t ?_ (key_v a ra sa _ (key_v x rx sx _ (alike_v a x sa sx _ (cond_t ?_ (live_v _ rfl))))))))
  · rw [key_beq]; simp
  · rw [key_beq]; simp
theorem ExploreKeys_spec (a b : GState) (n : Int) (ra : RgS a) (rb : RgS b) (la : a.procs.length ≤ maxLen) (lb : b.procs.length ≤ maxLen) (acs bcs : Array Value) (W : World) (ha : cGState.rep [] W a acs.toList) (hb : cGState.rep [] W b bcs.toList) :
    Calls Tryz.prog 3 #[.agg acs, .agg bcs, .int .i64 n] W (Ret fun v w' => v = .bool true ∧ Below W.heap.size W w') :=
  call_then (law_v a b n ra rb la lb [] W (MOk.nil trivial) acs.toList ha bcs.toList hb) fun _ _ ⟨_, h, hv, k⟩ => ⟨by rw [hv, h], k.ext⟩
end Go.Proofs.YtfcemnnlmlggoaaGreat
