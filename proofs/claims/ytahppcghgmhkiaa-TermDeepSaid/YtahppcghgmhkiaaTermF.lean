/- Layer 10: the program's small functions. -/
import Derived.Test.YtahppcghgmhkiaaTermE
import Derived.Test.YtahppcghgmhkiaaMap
import Derived.Test.YtahppcghgmhkiaaWterm
namespace Go.Proofs.Ytahppcghgmhkiaa
open Go.Vc Go.Tk Go.Tm

theorem Level_spec (op : Int) (w : World) : Calls Try.prog 22 #[.int .i64 op] w (Ret fun v w' => v = .int .i64 (levO op : Nat) ∧ w = w') := by
  refine term_Level_ok _ _ _ ?_
  unfold levO
  refine cond_intro (fun h => ?_) fun h => ?_
  · have h : op = 17 := by simpa using h
    rw [if_pos h]; exact ⟨rfl, rfl⟩
  · have h : op ≠ 17 := by simpa using h
    rw [if_neg h]
    refine cond_intro (fun h => ?_) fun h => ?_
    · have h : op = 16 := by simpa using h
      rw [if_pos h]; exact ⟨rfl, rfl⟩
    · have h : op ≠ 16 := by simpa using h
      rw [if_neg h]
      intro _
      refine cond_intro (fun h => ?_) fun h => ?_
      · rw [if_pos (by simp at h; omega)]; exact ⟨rfl, rfl⟩
      · rw [if_neg (by simp at h; omega)]
        intro _
        refine cond_intro (fun h => ?_) fun h => ?_
        · rw [if_pos (by simpa using h)]; exact ⟨rfl, rfl⟩
        · rw [if_neg (by simpa using h)]
          intro _
          refine cond_intro (fun h => ?_) fun h => ?_
          · rw [if_pos (by simp at h; omega)]; exact ⟨rfl, rfl⟩
          · rw [if_neg (by simp at h; omega)]
            intro _
            refine cond_intro (fun h => ?_) fun h => ?_
            · rw [if_pos (by simpa using h)]; exact ⟨rfl, rfl⟩
            · rw [if_neg (by simpa using h)]
              intro _
              refine cond_intro (fun h => ?_) fun h => ?_
              · rw [if_pos (by simpa using h)]; exact ⟨rfl, rfl⟩
              · rw [if_neg (by simpa using h)]; exact ⟨rfl, rfl⟩

def binKvs : List (List UInt8 × Value) := [([124, 124], .int .i64 17), ([38, 38], .int .i64 16), ([61, 61], .int .i64 10), ([33, 61], .int .i64 11), ([60], .int .i64 12), ([60, 61], .int .i64 13), ([62], .int .i64 14), ([62, 61], .int .i64 15), ([43], .int .i64 5), ([45], .int .i64 6), ([42], .int .i64 7), ([47], .int .i64 8), ([37], .int .i64 9)]
theorem get_bin (s : List UInt8) : (getK binKvs s).getD (.int .i64 0) = .int .i64 (opOf s) := by
  by_cases h : s ∈ sgs
  · simp only [sgs, List.mem_cons, List.not_mem_nil, or_false] at h
    rcases h with rfl | rfl | rfl | rfl | rfl | rfl | rfl | rfl | rfl | rfl | rfl | rfl | rfl <;> rfl
  · have h0 : opOf s = 0 := by
      have : ∀ (l : List (List UInt8)) (i : Nat), s ∉ l → idx s l i = 0 := by
        intro l
        induction l with
        | nil => intro i _; rfl
        | cons x l ih =>
          intro i hn
          unfold idx
          rw [if_neg (fun e => hn (by simp [e])), ih _ (fun hm => hn (by simp [hm]))]
      exact this sgs 0 h
    have h1 : getK binKvs s = none := by
      unfold getK
      rw [List.find?_eq_none.2]
      · rfl
      · intro x hx hb
        have hb : x.1 = s := by simpa using hb
        apply h
        rw [← hb]
        simp only [binKvs, List.mem_cons, List.not_mem_nil, or_false] at hx
        rcases hx with rfl | rfl | rfl | rfl | rfl | rfl | rfl | rfl | rfl | rfl | rfl | rfl | rfl <;> decide
    rw [h0, h1]; rfl

theorem map_ty : Try.prog.underlying 79 = some (.map 9 3) := by kernel_rfl
theorem binary_spec (w : World) : Calls Try.prog 45 #[] w (Ret fun v w' => ∃ b, v = .map (some b) ∧ MapAt w' b binKvs ∧ w.heap.size ≤ b ∧ Ext w w') := by
  refine term_binary_ok _ _ ?_
  intro b w1 hb hw1
  have m := MapAt.new hb hw1
  have g : w1.grownBy w1 (some b) := ⟨rfl, rfl, rfl, Nat.le_refl _, fun _ _ _ => rfl⟩
  refine m.add map_ty str_ty rfl fun w2 m g2 => ?_
  have g := grownBy_trans g g2; clear g2
  refine m.add map_ty str_ty rfl fun w2 m g2 => ?_
  have g := grownBy_trans g g2; clear g2
  refine m.add map_ty str_ty rfl fun w2 m g2 => ?_
  have g := grownBy_trans g g2; clear g2
  refine m.add map_ty str_ty rfl fun w2 m g2 => ?_
  have g := grownBy_trans g g2; clear g2
  refine m.add map_ty str_ty rfl fun w2 m g2 => ?_
  have g := grownBy_trans g g2; clear g2
  refine m.add map_ty str_ty rfl fun w2 m g2 => ?_
  have g := grownBy_trans g g2; clear g2
  refine m.add map_ty str_ty rfl fun w2 m g2 => ?_
  have g := grownBy_trans g g2; clear g2
  refine m.add map_ty str_ty rfl fun w2 m g2 => ?_
  have g := grownBy_trans g g2; clear g2
  refine m.add map_ty str_ty rfl fun w2 m g2 => ?_
  have g := grownBy_trans g g2; clear g2
  refine m.add map_ty str_ty rfl fun w2 m g2 => ?_
  have g := grownBy_trans g g2; clear g2
  refine m.add map_ty str_ty rfl fun w2 m g2 => ?_
  have g := grownBy_trans g g2; clear g2
  refine m.add map_ty str_ty rfl fun w2 m g2 => ?_
  have g := grownBy_trans g g2; clear g2
  refine m.add map_ty str_ty rfl fun w2 m g2 => ?_
  have g := grownBy_trans g g2; clear g2
  refine ⟨b, rfl, m, hb ▸ Nat.le_refl _, ?_⟩
  have e := Ext.alloc hw1
  have hsz := e.size
  exact ⟨g.os.trans e.os, g.tape.trans e.tape, g.output.trans e.output, Nat.le_trans e.size g.size, fun k hk => (g.block k (by omega) (fun h => by cases h; omega)).trans (Go.RowKit.Below.block e k hk)⟩

/-- the reader's box -/
def rdC (ta : Option Addr) (n tc : Nat) (p d : Nat) (e : Int) : List Value := [.slice ta n tc, .int .i64 p, .int .i64 d, .int .i64 e]
theorem now_spec (toks : List Tok) (rb : Nat) (ta : Option Addr) (tc p d : Nat) (e : Int) (w : World) (hr : Box w rb (rdC ta toks.length tc p d e)) (h : SlAt w ta (flat tokC toks)) :
    Calls Try.prog 67 #[.pointer (some ⟨rb, 0, none⟩)] w (Ret fun v w' => v = .agg ⟨tokC (T toks p)⟩ ∧ Ext w w') := by
  refine term_reader_now_ok _ _ _ ?_
  intro b w1 hb hw1
  have o := (Own.start w).alloc hb hw1
  have hne : b ≠ rb := by have := hr.lt; omega
  have hoff := h.off (b := b) (by omega)
  have hr := hr.ext (.alloc hw1)
  have h := h.ext (.alloc hw1)
  intro w2 hw2
  have o := o.drew hw2
  have hr := hr.ext (.drew hw2)
  have h := h.ext (.drew hw2)
  refine ⟨_, hr.cell rfl, _, _, _, hr.cell rfl, cond_intro (fun hx => ?_) fun hx => ?_⟩
  · have hlt : p < toks.length := by simpa using hx
    intro w3 hw3
    have o := o.drew hw3
    have hr := hr.ext (.drew hw3)
    have h := h.ext (.drew hw3)
    refine ⟨fun u => Box u rb (rdC ta toks.length tc p d e) ∧ SlAt u ta (flat tokC toks), ⟨hr, h⟩, _, _, _, fun u hu => hu.1.cell rfl, _, fun u hu => hu.1.cell rfl, ⟨by omega, by omega⟩, ?_⟩
    rw [Int.toNat_natCast]
    obtain ⟨q, rfl, hq⟩ := h.elem tokC_len (by decide) hlt
    refine ⟨toks[p].kind, toks[p].text, toks[p].n, toks[p].at_, fun u hu => ?_, o.wr 0 rfl rfl, fun w4 hw4 => ?_⟩
    · obtain ⟨q', eq, hq'⟩ := hu.2.elem tokC_len (by decide) hlt
      cases eq
      exact hq'
    · have hr := hr.setsOther hw4 hne
      have h := h.sets hw4 hoff
      have o := o.sets 0 hw4 rfl
      refine ⟨⟨hr, h⟩, _, _, _, _, (o.at 0 rfl).whole, ?_, o.done⟩
      have : T toks p = toks[p] := by unfold T; simp [List.getD, hlt]
      rw [this]; rfl
  · have hge : toks.length ≤ p := by simpa using hx
    refine ⟨o.wr 0 rfl rfl, fun w3 hw3 => ?_⟩
    have o := o.sets 0 hw3 rfl
    exact ⟨_, _, _, _, (o.at 0 rfl).whole, by rw [T_end hge]; rfl, o.done⟩
theorem is_spec (toks : List Tok) (rb : Nat) (ta : Option Addr) (tc p d : Nat) (e : Int) (s : List UInt8) (w : World) (hr : Box w rb (rdC ta toks.length tc p d e)) (h : SlAt w ta (flat tokC toks)) :
    Calls Try.prog 79 #[.pointer (some ⟨rb, 0, none⟩), .string (mkS s)] w (Ret fun v w' => v = .bool (decide ((T toks p).kind = 4 ∧ (T toks p).text = s)) ∧ Ext w w') := by
  refine term_reader_is_ok _ _ _ _ (call_then (now_spec toks rb ta tc p d e w hr h) ?_)
  rintro _ w1 ⟨rfl, he1⟩
  refine ⟨_, _, _, _, rfl, cond_intro (fun h4 => ?_) fun h4 => ?_⟩
  · have h4 : (T toks p).kind = 4 := by simpa using h4
    refine call_then (now_spec toks rb ta tc p d e w1 (hr.ext he1) (h.ext he1)) ?_
    rintro _ w2 ⟨rfl, he2⟩
    refine ⟨_, _, _, _, rfl, ?_, he1.trans he2⟩
    congr 1
    rw [Bool.eq_iff_iff]
    simp [h4]
  · have h4 : (T toks p).kind ≠ 4 := by simpa using h4
    exact ⟨by simp [h4], he1⟩
end Go.Proofs.Ytahppcghgmhkiaa
