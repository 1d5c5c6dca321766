/- Layer 10: the program's below, one and from. -/
import Derived.Test.YtahppcghgmhkiaaTermF
namespace Go.Proofs.Ytahppcghgmhkiaa
open Go.Vc Go.Tk Go.Tm

/-- what a method of the reader gives: nodes (whatever nodes, if there is an error), and the reader's box -/
def RG (toks : List Tok) (rb : Nat) (ta : Option Addr) (tc d B : Nat) (w : World) (r : Res) (v : Value) (w' : World) : Prop :=
  ∃ a m c, ∃ l : List Nd, v = .slice a m c ∧ m = l.length ∧ SlAt w' a (flat ndC l) ∧ (∀ k, blk a = some k → w.heap.size ≤ k) ∧ l.length ≤ toks.length + B ∧ (r.e = 0 → l = r.l) ∧
    Box w' rb (rdC ta toks.length tc r.at_ d r.e) ∧ w.grownBy w' (some rb)

theorem below_deep (toks : List Tok) (rb : Nat) (ta : Option Addr) (tc p : Nat) (w : World) (hr : Box w rb (rdC ta toks.length tc p 24 0)) :
    Calls Try.prog 80 #[.pointer (some ⟨rb, 0, none⟩), .func (.func 66) #[.pointer (some ⟨rb, 0, none⟩)] #[]] w (Ret (RG toks rb ta tc 24 0 w ⟨[], p, 5⟩)) := by
  refine term_below_one_ok _ _ _ ?_
  refine ⟨_, hr.cell rfl, cond_t rfl ⟨(OwnR.start hr).wrR (i := 3) rfl, fun w1 hw1 => ?_⟩⟩
  have o := (OwnR.start hr).setR hw1
  exact ⟨none, 0, 0, [], rfl, rfl, rfl, fun k h => (by cases h), by simp, fun _ => rfl, o.rbox, o.grown⟩
theorem below_one (toks : List Tok) (rb : Nat) (ta : Option Addr) (tc p d B : Nat) (hp : p < 2 ^ 60) (hd : d < 24) (x : Res) (w : World) (hr : Box w rb (rdC ta toks.length tc p d 0)) (hs : SlAt w ta (flat tokC toks)) (hoff : Off ta (flat tokC toks) rb)
    (h1 : ∀ w, Box w rb (rdC ta toks.length tc (p + 1) (d + 1) 0) → SlAt w ta (flat tokC toks) → Calls Try.prog 66 #[.pointer (some ⟨rb, 0, none⟩)] w (Ret (RG toks rb ta tc (d + 1) B w x))) :
    Calls Try.prog 80 #[.pointer (some ⟨rb, 0, none⟩), .func (.func 66) #[.pointer (some ⟨rb, 0, none⟩)] #[]] w (Ret (RG toks rb ta tc d B w x)) := by
  refine term_below_one_ok _ _ _ ?_
  have o := OwnR.start hr
  have hd1 : IntKind.i64.wrap ((d : Int) + 1) = ((d + 1 : Nat) : Int) := by rw [wrap_in (by omega) (by omega)]; omega
  have hp1 : IntKind.i64.wrap ((p : Int) + 1) = ((p + 1 : Nat) : Int) := by rw [wrap_in (by omega) (by omega)]; omega
  have hd2 : IntKind.i64.wrap (((d + 1 : Nat) : Int) - 1) = (d : Int) := by rw [wrap_in (by omega) (by omega)]; omega
  refine ⟨_, hr.cell rfl, cond_f (by simp; omega) ⟨_, hr.cell rfl, o.wrR (i := 2) rfl, fun w2 hw2 => ?_⟩⟩
  have o := o.setR hw2
  have hs := hs.set hw2 hoff
  refine ⟨_, o.rbox.cell rfl, o.wrR (i := 1) rfl, fun w3 hw3 => ?_⟩
  have o := o.setR hw3
  have hs := hs.set hw3 hoff
  rw [hd1, hp1] at o
  refine call_then (h1 w3 o.rbox hs) ?_
  rintro _ w4 ⟨a, m, c, l, rfl, rfl, hsl, hfr, hle, hl, hb, hg⟩
  have hle3 := o.le
  have hrb : rb < w3.heap.size := o.rbox.lt
  have o := o.call hg hb
  refine ⟨_, _, _, rfl, _, o.rbox.cell rfl, o.wrR (i := 2) rfl, fun w5 hw5 => ?_⟩
  have hsl := hsl.set hw5 (fresh_off hfr hrb _)
  have o := o.setR hw5
  rw [hd2] at o
  exact ⟨a, _, c, l, rfl, rfl, hsl, fun k hk => Nat.le_trans hle3 (hfr k hk), hle, hl, o.rbox, o.grown⟩
theorem belowF_deep (toks : List Tok) (q : Addr) (rb : Nat) (ta : Option Addr) (tc p : Nat) (w : World) (hr : Box w rb (rdC ta toks.length tc p 24 0)) :
    Calls Try.prog 80 #[.pointer (some ⟨rb, 0, none⟩), .func (.func 81) #[] #[.pointer (some q)]] w (Ret (RG toks rb ta tc 24 0 w ⟨[], p, 5⟩)) := by
  refine term_below_from_ok _ _ _ _ ?_
  refine ⟨_, hr.cell rfl, cond_t rfl ⟨(OwnR.start hr).wrR (i := 3) rfl, fun w1 hw1 => ?_⟩⟩
  have o := (OwnR.start hr).setR hw1
  exact ⟨none, 0, 0, [], rfl, rfl, rfl, fun k h => (by cases h), by simp, fun _ => rfl, o.rbox, o.grown⟩
theorem below_from (toks : List Tok) (q : Addr) (rb : Nat) (ta : Option Addr) (tc p d B : Nat) (hp : p < 2 ^ 60) (hd : d < 24) (x : Res) (w : World) (hr : Box w rb (rdC ta toks.length tc p d 0)) (hs : SlAt w ta (flat tokC toks)) (hoff : Off ta (flat tokC toks) rb) (hq : w.cell? q = some (.pointer (some ⟨rb, 0, none⟩))) (hqb : q.block ≠ rb)
    (h1 : ∀ w, Box w rb (rdC ta toks.length tc (p + 1) (d + 1) 0) → SlAt w ta (flat tokC toks) → w.cell? q = some (.pointer (some ⟨rb, 0, none⟩)) → Calls Try.prog 81 #[.pointer (some q)] w (Ret (RG toks rb ta tc (d + 1) B w x))) :
    Calls Try.prog 80 #[.pointer (some ⟨rb, 0, none⟩), .func (.func 81) #[] #[.pointer (some q)]] w (Ret (RG toks rb ta tc d B w x)) := by
  refine term_below_from_ok _ _ _ _ ?_
  have o := OwnR.start hr
  have hd1 : IntKind.i64.wrap ((d : Int) + 1) = ((d + 1 : Nat) : Int) := by rw [wrap_in (by omega) (by omega)]; omega
  have hp1 : IntKind.i64.wrap ((p : Int) + 1) = ((p + 1 : Nat) : Int) := by rw [wrap_in (by omega) (by omega)]; omega
  have hd2 : IntKind.i64.wrap (((d + 1 : Nat) : Int) - 1) = (d : Int) := by rw [wrap_in (by omega) (by omega)]; omega
  refine ⟨_, hr.cell rfl, cond_f (by simp; omega) ⟨_, hr.cell rfl, o.wrR (i := 2) rfl, fun w2 hw2 => ?_⟩⟩
  have o := o.setR hw2
  have hs := hs.set hw2 hoff
  refine ⟨_, o.rbox.cell rfl, o.wrR (i := 1) rfl, fun w3 hw3 => ?_⟩
  have o := o.setR hw3
  have hs := hs.set hw3 hoff
  rw [hd1, hp1] at o
  have hq3 : w3.cell? q = some (.pointer (some ⟨rb, 0, none⟩)) := by
    have := cell_lt hq
    rw [World.cell?_of_block (o.grown.block q.block this (fun e => hqb (Option.some.inj e)))]
    exact hq
  refine call_then (h1 w3 o.rbox hs hq3) ?_
  rintro _ w4 ⟨a, m, c, l, rfl, rfl, hsl, hfr, hle, hl, hb, hg⟩
  have hle3 := o.le
  have hrb : rb < w3.heap.size := o.rbox.lt
  have o := o.call hg hb
  refine ⟨_, _, _, rfl, _, o.rbox.cell rfl, o.wrR (i := 2) rfl, fun w5 hw5 => ?_⟩
  have hsl := hsl.set hw5 (fresh_off hfr hrb _)
  have o := o.setR hw5
  rw [hd2] at o
  exact ⟨a, _, c, l, rfl, rfl, hsl, fun k hk => Nat.le_trans hle3 (hfr k hk), hle, hl, o.rbox, o.grown⟩
end Go.Proofs.Ytahppcghgmhkiaa
