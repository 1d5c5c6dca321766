/- Layer 10: the reference's small functions. -/
import Derived.Test.YtahppcghgmhkiaaTermB
import Derived.Test.YtahppcghgmhkiaaTokK
import Derived.Test.YtahppcghgmhkiaaWref10
namespace Go.Proofs.Ytahppcghgmhkiaa
open Go.Vc Go.Tk Go.Tm

theorem rOp_spec (s : List UInt8) (w : World) : Calls Try.prog 47 #[.string (mkS s)] w (Ret fun v w' => v = .int .i64 (opOf s) ∧ Ext w w') := by
  refine R10_Op_ok _ _ _ ?_
  intro b w1 hb hw1
  have o := (Own.start w).alloc hb hw1
  have hcells : ∀ k (hk : k < sgs.length), w1.cell? ((⟨b, 0, none⟩ : Addr).add (k * 1)) = some (.string (mkS sgs[k])) := by
    intro k hk
    have hall : CellsAt w1 ⟨b, 0, none⟩ (sgs.map strV) := (o.at 0 rfl).whole
    have := hall k (by simpa using hk)
    rw [Nat.mul_one, this]
    simp [strV]
  refine ⟨fun i w' => w1 = w' ∧ ∃ k : Nat, i = k ∧ k ≤ 13 ∧ opOf s = idx s (sgs.drop k) k, fun i _ => 13 - i.toNat, ⟨rfl, 0, rfl, by omega, rfl⟩, ?_⟩
  rintro _ _ _ ⟨rfl, k, rfl, hk, hop⟩
  refine cond_intro (fun hx => ?_) fun hx => ?_
  · have hlt : k < 13 := by simp at hx; omega
    have hlt' : k < sgs.length := hlt
    have hd : sgs.drop k = sgs[k] :: sgs.drop (k + 1) := List.drop_eq_getElem_cons hlt'
    rw [hd] at hop
    rw [Int.toNat_natCast]
    refine ⟨⟨by omega, by omega⟩, _, hcells k hlt', cond_intro (fun he => ?_) fun he => ?_⟩
    · have he : sgs[k] = s := by simpa using he
      refine ⟨?_, o.done⟩
      rw [hop, idx, if_pos he, wrap_in (by omega) (by omega)]
      simp
    · have he : sgs[k] ≠ s := by simpa using he
      rw [wrap_in (by omega) (by omega)]
      refine ⟨⟨rfl, k + 1, by omega, by omega, ?_⟩, by dsimp only; omega⟩
      rw [hop, idx, if_neg he]
  · have hk : k = 13 := by simp at hx; omega
    subst hk
    exact ⟨by rw [hop]; rfl, o.done⟩

def sgL : List (List (List UInt8)) := [[[124, 124]], [[38, 38]], [[61, 61], [33, 61], [60], [60, 61], [62], [62, 61]], [[43], [45]], [[42], [47], [37]]]
theorem rLevs_spec (w : World) : Calls Try.prog 46 #[] w (Ret fun v w' => ∃ p, v = .slice (some p) 5 5 ∧ (∀ i (hi : i < sgL.length), ∃ q, w'.cell? (p.add (i * 1)) = some (.slice (some q) sgL[i].length sgL[i].length) ∧ CellsAt w' q (sgL[i].map strV)) ∧ Ext w w') := by
  refine R10_Signs_ok _ _ ?_
  intro b w1 hb hw1 b1 w2 hb1 hw2 b2 w3 hb2 hw3 b3 w4 hb3 hw4 b4 w5 hb4 hw5 b5 w6 hb5 hw6
  have o := ((((((Own.start w).alloc hb hw1).alloc hb1 hw2).alloc hb2 hw3).alloc hb3 hw4).alloc hb4 hw5).alloc hb5 hw6
  refine ⟨_, rfl, fun i hi => ?_, o.done⟩
  match i, hi with
  | 0, _ => exact ⟨_, (o.at 0 rfl).whole 0 (by simp), (o.at 5 rfl).whole⟩
  | 1, _ => exact ⟨_, (o.at 0 rfl).whole 1 (by simp), (o.at 4 rfl).whole⟩
  | 2, _ => exact ⟨_, (o.at 0 rfl).whole 2 (by simp), (o.at 3 rfl).whole⟩
  | 3, _ => exact ⟨_, (o.at 0 rfl).whole 3 (by simp), (o.at 2 rfl).whole⟩
  | 4, _ => exact ⟨_, (o.at 0 rfl).whole 4 (by simp), (o.at 1 rfl).whole⟩
  | i + 5, h => exact absurd h (by show ¬ i + 5 < 5; omega)

def opL : List (List Int) := sgL.map fun l => l.map opOf
theorem lev_found : ∀ i (hi : i < opL.length), ∀ x ∈ opL[i], levO x = i + 1 := by decide
theorem lev_none (op : Int) (h1 : op ≠ 1 ∧ op ≠ 2) (h2 : op ≠ 3 ∧ op ≠ 4) (h : ∀ i (hi : i < opL.length), op ∉ opL[i]) : levO op = 0 := by
  have h0 := h 0 (by decide)
  have h1' := h 1 (by decide)
  have h2' := h 2 (by decide)
  have h3' := h 3 (by decide)
  have h4' := h 4 (by decide)
  have e0 : opL[0]'(by decide) = [17] := by decide
  have e1 : opL[1]'(by decide) = [16] := by decide
  have e2 : opL[2]'(by decide) = [10, 11, 12, 13, 14, 15] := by decide
  have e3 : opL[3]'(by decide) = [5, 6] := by decide
  have e4 : opL[4]'(by decide) = [7, 8, 9] := by decide
  rw [e0] at h0; rw [e1] at h1'; rw [e2] at h2'; rw [e3] at h3'; rw [e4] at h4'
  simp at h0 h1' h2' h3' h4'
  unfold levO
  repeat' split
  all_goals omega

theorem rLevel_spec (op : Int) (w : World) : Calls Try.prog 23 #[.int .i64 op] w (Ret fun v w' => v = .int .i64 (levO op : Nat) ∧ Ext w w') := by
  refine R10_Level_ok _ _ _ ?_
  intro _
  refine cond_intro (fun h1 => ?_) fun h1 => ?_
  · refine ⟨?_, Ext.refl _⟩
    simp at h1
    rcases h1 with rfl | rfl <;> rfl
  · simp at h1
    intro _
    refine cond_intro (fun h2 => ?_) fun h2 => ?_
    · refine ⟨?_, Ext.refl _⟩
      simp at h2
      rcases h2 with rfl | rfl <;> rfl
    · simp at h2
      refine call_then (rLevs_spec w) ?_
      rintro _ w1 ⟨p, rfl, hp, he1⟩
      have hlen : ∀ i (hi : i < sgL.length), (opL[i]'(by simpa [opL] using hi)) = sgL[i].map opOf := fun i hi => by simp [opL]
      refine ⟨_, _, _, rfl, fun i w' => ∃ k : Nat, i = k ∧ k ≤ 5 ∧ (∀ j (hj : j < opL.length), j < k → op ∉ opL[j]) ∧ Ext w1 w', fun i _ => 5 - i.toNat, ⟨0, rfl, by omega, fun _ _ h => absurd h (by omega), Ext.refl _⟩, ?_⟩
      rintro _ _ w2 ⟨k, rfl, hk, hno, he2⟩
      refine cond_intro (fun hx => ?_) fun hx => ?_
      · have hlt : k < 5 := by simp at hx; omega
        have hlt' : k < sgL.length := hlt
        have hlto : k < opL.length := hlt
        obtain ⟨q, hq, hqc⟩ := hp k hlt'
        have hsl := (by decide : ∀ i (hi : i < sgL.length), sgL[i].length ≤ 6) k hlt'
        refine ⟨fun i w' => ∃ j : Nat, i = j ∧ j ≤ sgL[k].length ∧ (∀ z (hz : z < sgL[k].length), z < j → opOf sgL[k][z] ≠ op) ∧ Ext w1 w', fun i _ => sgL[k].length - i.toNat, ⟨0, rfl, by omega, fun _ _ h => absurd h (by omega), he2⟩, ?_⟩
        rintro _ _ w3 ⟨j, rfl, hj, hnj, he3⟩
        rw [Int.toNat_natCast]
        refine ⟨⟨by omega, by omega⟩, _, _, _, he3.cell hq, cond_intro (fun hy => ?_) fun hy => ?_⟩
        · have hjl : j < sgL[k].length := Int.ofNat_lt.1 (of_decide_eq_true hy)
          have hc := he3.cell (hqc j (by rw [List.length_map]; exact hjl))
          simp only [List.getElem_map, strV] at hc
          rw [Int.toNat_natCast]
          refine ⟨⟨by omega, by omega⟩, _, _, _, he3.cell hq, ⟨by omega, by omega⟩, _, by rw [Nat.mul_one]; exact hc, call_then (rOp_spec _ w3) ?_⟩
          rintro _ w4 ⟨rfl, he4⟩
          refine ⟨_, rfl, cond_intro (fun ho => ?_) fun ho => ?_⟩
          · have ho : opOf sgL[k][j] = op := eq_of_beq ho
            refine ⟨?_, (he1.trans he3).trans he4⟩
            rw [wrap_in (by omega) (by omega), lev_found k hlto op (by rw [hlen k hlt', ← ho]; exact List.mem_map_of_mem (List.getElem_mem hjl))]
            simp
          · have ho : opOf sgL[k][j] ≠ op := beq_eq_false_iff_ne.1 ho
            rw [wrap_in (by omega) (by omega)]
            refine ⟨⟨j + 1, by omega, by omega, fun z hz hzj => ?_, he3.trans he4⟩, by dsimp only; omega⟩
            rcases Nat.lt_or_ge z j with h | h
            · exact hnj z hz h
            · obtain rfl : z = j := by omega
              exact ho
        · have hjl : j = sgL[k].length := by have := of_decide_eq_false hy; omega
          rw [wrap_in (by omega) (by omega)]
          refine ⟨⟨k + 1, by omega, by omega, fun z hz hzk => ?_, he3⟩, by dsimp only; omega⟩
          rcases Nat.lt_or_ge z k with h | h
          · exact hno z hz h
          · obtain rfl : z = k := by omega
            rw [hlen z hlt']
            intro hm
            obtain ⟨y, hy1, hy2⟩ := List.mem_map.1 hm
            obtain ⟨u, hu, rfl⟩ := List.getElem_of_mem hy1
            exact hnj u hu (by omega) hy2
      · have hk : k = 5 := by simp at hx; omega
        refine ⟨?_, he1.trans he2⟩
        rw [lev_none op h1 h2 (fun i hi => hno i hi (by have : i < 5 := hi; omega))]
        rfl

theorem rTok_spec (toks : List Tok) (a : Option Addr) (c : Nat) (p : Nat) (w : World) (h : SlAt w a (flat tokC toks)) :
    Calls Try.prog 69 #[.slice a toks.length c, .int .i64 p] w (Ret fun v w' => v = .agg ⟨tokC (T toks p)⟩ ∧ Ext w w') := by
  refine R10_Tok_ok _ _ _ _ _ _ ?_
  intro b w1 hb hw1
  have o := (Own.start w).alloc hb hw1
  refine cond_intro (fun hx => ?_) fun hx => ?_
  · have hlt : p < toks.length := by simpa using hx
    obtain ⟨q, rfl, hq⟩ := (h.ext (.alloc hw1)).elem tokC_len (by decide) hlt
    rw [Int.toNat_natCast]
    refine ⟨⟨by omega, by omega⟩, _, _, _, _, hq, o.wr 0 rfl rfl, fun w2 hw2 => ?_⟩
    have o := o.sets 0 hw2 rfl
    refine ⟨_, _, _, _, (o.at 0 rfl).whole, ?_, o.done⟩
    have : T toks p = toks[p] := by unfold T; simp [List.getD, hlt]
    rw [this]; rfl
  · have hge : toks.length ≤ p := by simpa using hx
    refine ⟨o.wr 0 rfl rfl, fun w2 hw2 => ?_⟩
    have o := o.sets 0 hw2 rfl
    exact ⟨_, _, _, _, (o.at 0 rfl).whole, by rw [T_end hge]; rfl, o.done⟩
end Go.Proofs.Ytahppcghgmhkiaa
