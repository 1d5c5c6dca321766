/- A part of the proof: conditions of the code, contracts, the plain law. -/
import Derived.Test.YtdbdkdmgfiiljaaM2
import Derived.Test.YtdbdkdmgfiiljaaM3
import Derived.Test.YtdbdkdmgfiiljaaM4
import Derived.Test.YtdbdkdmgfiiljaaMapL
import Derived.Test.YtdbdkdmgfiiljaaLoop
namespace Go.Proofs.Ytdbdkdmgfiiljaa
open Go.Vc Go.Lv Go.Ty
set_option maxRecDepth 10000
def R10_level_vwp (toks : List GToken) (atx : Int) (n : Int) (deep : Int) (K : GR10_Got → Prop) : Prop :=
 cond (n == 6)
 (V_R10_one toks atx deep (fun x =>
 K x))
 (V_R10_level toks atx (IntKind.i64.wrap (n + 1)) deep (fun x1 =>
 ∃ (I : (List GNode) → Int → Int → (List GNode) → Int → Int → Nat → Prop), (∃ n1, I x1.l x1.at_ x1.e_ [] 0 0 n1) ∧
 ∀ (L : List GNode) (At : Int) (E : Int) (L1 : List GNode) (At1 : Int) (E1 : Int) (n1 : Nat), I L At E L1 At1 E1 n1 →
 cond (E == 0)
 (V_R10_Tok toks At (fun x2 =>
 V_R10_Op x2.text (fun op =>
 ∃ (J : Bool → Prop),
 (cond (x2.kind != 4)
 (J true)
 (cond (op == 0)
 (J true)
 (V_R10_Level op (fun x4 =>
 J (x4 != n))))) ∧
 ∀ (x3 : Bool), J x3 →
 cond (x3)
 (K (⟨L, At, E⟩ : GR10_Got))
 (V_R10_level toks (IntKind.i64.wrap (At + 1)) (IntKind.i64.wrap (n + 1)) deep (fun x5 =>
 cond (x5.e_ != 0)
 (K x5)
 (([(⟨op, [], 0, 2, x2.at_⟩ : GNode)]).length + L.length < 2 ^ 32 ∧
 ∃ (J1 : (List GNode) → Int → Int → Prop),
 (([(⟨op, [], 0, 2, x2.at_⟩ : GNode)] ++ L).length + x5.l.length < 2 ^ 32 ∧
 J1 (([(⟨op, [], 0, 2, x2.at_⟩ : GNode)] ++ L) ++ x5.l) x5.at_ 0) ∧
 ∀ (L2 : List GNode) (At2 : Int) (E2 : Int), J1 L2 At2 E2 →
 cond (n == 3)
 (K (⟨L2, At2, E2⟩ : GR10_Got))
 (∃ n2, n2 < n1 ∧ I L2 At2 E2 L1 At1 E1 n2)))))))
 (K (⟨L, At, E⟩ : GR10_Got))))
set_option maxHeartbeats 4000000 in
theorem R10_level_lift (toks : List GToken) (atx : Int) (n : Int) (deep : Int) (K : GR10_Got → Prop) (h : R10_level_vwp toks atx n deep K) : V_R10_level toks atx n deep K := by
 intro m w hm toksA toksC le_toks f_toks
 have o := Mem.start hm.lt
 refine R10_level_ok toksA toks.length toksC atx n deep _ _ ?_
 intro b w1 hb hw1
 obtain ⟨st, o⟩ := o.dB hb hw1
 refine cond_map (fun h => ?_) (fun h => ?_) h
 refine call_then (h _ w1 (o.mo hm (by simp) (.head _)) _ _ le_toks (f_toks.st st)) ?_
 rintro _ w2 ⟨x, h, ⟨cs, rfl, f⟩, ke⟩
 obtain ⟨st1, o⟩ := o.dE ke
 obtain ⟨a, c, rfl, ⟨le, f1⟩⟩ := GR10_Got_out f
 refine ⟨_, _, _, _, _, rfl, ?_⟩
 refine ⟨o.wr 0 rfl rfl, fun w3 hw3 => ?_⟩
 obtain ⟨st2, o⟩ := o.dSs 0 hw3 rfl
 refine ⟨_, _, _, _, _, (o.at 0 rfl).whole, ?_⟩
 exact ⟨x, h, ⟨_, rfl, (GR10_Got_in x ⟨le, (f1.st (st2.trans Mem.endS))⟩)⟩, o.done⟩
 refine call_then (h _ w1 (o.mo hm (by simp) (.head _)) _ _ le_toks (f_toks.st st)) ?_
 rintro _ w4 ⟨x1, h, ⟨cs1, rfl, f2⟩, ke1⟩
 obtain ⟨st3, o⟩ := o.dE ke1
 obtain ⟨a1, c1, rfl, ⟨le1, f3⟩⟩ := GR10_Got_out f2
 refine ⟨_, _, _, _, _, rfl, ?_⟩
 intro b1 w5 hb1 hw5
 obtain ⟨st4, o⟩ := o.dB hb1 hw5
 refine ⟨o.wr 0 rfl rfl, fun w6 hw6 => ?_⟩
 obtain ⟨st5, o⟩ := o.dSs 0 hw6 rfl
 have st6 := o.xN 39 5
 have o := o.nilrow 39 5
 obtain ⟨I, ⟨n3, h⟩, h2⟩ := h
 obtain ⟨Z, hZ⟩ : ∃ Z : World → Nat → Prop, Z = fun w7 n1 => ∃ (L : List GNode) (At : Int) (E : Int) (L1 : List GNode) (At1 : Int) (E1 : Int) (a2 : Option Addr) (c2 : Nat) (xs : List Value) (a3 : Option Addr) (c3 : Nat), I L At E L1 At1 E1 n1 ∧ (L.length ≤ c2 ∧ SlR cGNode (ms [.row 39 5 a3 L1.length c3 xs, .box b1 [.slice a2 L.length c2, .q At, .q E], .box b [.slice a3 L1.length c3, .q At1, .q E1]] m) w7 a2 L) ∧ El cGNode (ms [.row 39 5 a3 L1.length c3 xs, .box b1 [.slice a2 L.length c2, .q At, .q E], .box b [.slice a3 L1.length c3, .q At1, .q E1]] m) w7 L1 xs ∧ Mem w.heap.size [] m [([], w.heap.size, w)] [] w7 [.row 39 5 a3 L1.length c3 xs, .box b1 [.slice a2 L.length c2, .q At, .q E], .box b [.slice a3 L1.length c3, .q At1, .q E1]] ∧ Step (ms [.row 39 5 none 0 0 [], .box b1 [.slice a1 x1.l.length c1, .q x1.at_, .q x1.e_], .box b [.slice none 0 0, .q 0, .q 0]] m) w6 (ms [.row 39 5 a3 L1.length c3 xs, .box b1 [.slice a2 L.length c2, .q At, .q E], .box b [.slice a3 L1.length c3, .q At1, .q E1]] m) w7 := ⟨_, rfl⟩
 refine ⟨fun w7 => ∃ n1, Z w7 n1, fun w7 => leastN (Z w7), ⟨n3, ?_⟩, ?_⟩
 have sT := (st4.trans st5).trans st6
 rw [hZ]; exact ⟨x1.l, x1.at_, x1.e_, [], 0, 0, a1, c1, [], none, 0, h, ⟨le1, (f3.st sT)⟩, (El.nil _ _ _), o, Step.refl _ _⟩
 intro _ w7 hIZ
 obtain ⟨n1, hnn1⟩ : ∃ n1, n1 = leastN (Z w7) := ⟨_, rfl⟩
 have hIZ := leastN_at hIZ
 rw [← hnn1, hZ] at hIZ
 obtain ⟨L, At, E, L1, At1, E1, a2, c2, xs, a3, c3, h, ⟨le2, f4⟩, el, o, st7⟩ := hIZ
 have h := h2 L At E L1 At1 E1 n1 h
 refine ⟨_, (o.at 1 rfl).cell rfl, ?_⟩
 refine cond_map (fun h => ?_) (fun h => ?_) h
 refine ⟨_, (o.at 1 rfl).cell rfl, ?_⟩
 have sT1 := ((((st.trans st3).trans st4).trans st5).trans st6).trans st7
 refine call_then (h _ w7 (o.mo hm (by simp) (.head _)) _ _ le_toks (f_toks.st sT1)) ?_
 rintro _ w8 ⟨x2, h, ⟨cs2, rfl, f5⟩, ke2⟩
 obtain ⟨st8, o⟩ := o.dE ke2
 obtain rfl := GToken_out f5
 refine ⟨_, _, _, _, rfl, ?_⟩
 intro b2 w9 hb2 hw9
 obtain ⟨st9, o⟩ := o.dB hb2 hw9
 refine ⟨o.wr 0 rfl rfl, fun w10 hw10 => ?_⟩
 obtain ⟨st10, o⟩ := o.dSs 0 hw10 rfl
 refine ⟨_, (o.at 0 rfl).cell rfl, ?_⟩
 refine call_then (h _ w10 (o.mo hm (by simp) (.head _))) ?_
 rintro _ w11 ⟨op, h, rfl, ke3⟩
 obtain ⟨st11, o⟩ := o.dE ke3
 refine ⟨_, rfl, ?_⟩
 obtain ⟨J, h, h2⟩ := h
 refine ⟨fun x3 w12 => J x3 ∧ Mem w.heap.size [] m [([], w.heap.size, w)] [] w12 [.box b2 [.q x2.kind, .s x2.text, .q x2.n, .q x2.at_], .row 39 5 a3 L1.length c3 xs, .box b1 [.slice a2 L.length c2, .q At, .q E], .box b [.slice a3 L1.length c3, .q At1, .q E1]] ∧ Step (ms [.box b2 [.q x2.kind, .s x2.text, .q x2.n, .q x2.at_], .row 39 5 a3 L1.length c3 xs, .box b1 [.slice a2 L.length c2, .q At, .q E], .box b [.slice a3 L1.length c3, .q At1, .q E1]] m) w11 (ms [.box b2 [.q x2.kind, .s x2.text, .q x2.n, .q x2.at_], .row 39 5 a3 L1.length c3 xs, .box b1 [.slice a2 L.length c2, .q At, .q E], .box b [.slice a3 L1.length c3, .q At1, .q E1]] m) w12, ?_, ?_⟩
 refine ⟨_, (o.at 0 rfl).cell rfl, ?_⟩
 refine cond_map (fun h => ?_) (fun h => ?_) h
 exact ⟨h, o, Step.refl _ _⟩
 refine cond_map (fun h => ?_) (fun h => ?_) h
 exact ⟨h, o, Step.refl _ _⟩
 refine call_then (h _ w11 (o.mo hm (by simp) (.head _))) ?_
 rintro _ w13 ⟨x4, h, rfl, ke4⟩
 obtain ⟨st13, o⟩ := o.dE ke4
 refine ⟨_, rfl, ?_⟩
 exact ⟨h, o, st13⟩
 rintro _ x3 w12 ⟨hJ, o, st12⟩
 have h := h2 x3 hJ
 refine cond_map (fun h => ?_) (fun h => ?_) h
 refine ⟨_, _, _, _, _, (o.at 2 rfl).whole, ?_⟩
 refine ⟨o.wr 3 rfl rfl, fun w14 hw14 => ?_⟩
 obtain ⟨st14, o⟩ := o.dSs 3 hw14 rfl
 refine ⟨_, _, _, _, _, (o.at 3 rfl).whole, ?_⟩
 exact ⟨(⟨L, At, E⟩ : GR10_Got), h, ⟨_, rfl, (GR10_Got_in (⟨L, At, E⟩ : GR10_Got) ⟨le2, (f4.st (st8.trans (st9.trans (st10.trans (st11.trans (st12.trans (st14.trans Mem.endS)))))))⟩)⟩, o.done⟩
 refine ⟨_, (o.at 2 rfl).cell rfl, ?_⟩
 have sT2 := ((((sT1.trans st8).trans st9).trans st10).trans st11).trans st12
 refine call_then (h _ w12 (o.mo hm (by simp) (.head _)) _ _ le_toks (f_toks.st sT2)) ?_
 rintro _ w15 ⟨x5, h, ⟨cs3, rfl, f6⟩, ke5⟩
 obtain ⟨st15, o⟩ := o.dE ke5
 obtain ⟨a4, c4, rfl, ⟨le3, f7⟩⟩ := GR10_Got_out f6
 refine ⟨_, _, _, _, _, rfl, ?_⟩
 intro b3 w16 hb3 hw16
 obtain ⟨st16, o⟩ := o.dB hb3 hw16
 refine ⟨o.wr 0 rfl rfl, fun w17 hw17 => ?_⟩
 obtain ⟨st17, o⟩ := o.dSs 0 hw17 rfl
 refine ⟨_, (o.at 0 rfl).cell rfl, ?_⟩
 refine cond_map (fun h => ?_) (fun h => ?_) h
 refine ⟨_, _, _, _, _, (o.at 0 rfl).whole, ?_⟩
 refine ⟨o.wr 4 rfl rfl, fun w18 hw18 => ?_⟩
 obtain ⟨st18, o⟩ := o.dSs 4 hw18 rfl
 refine ⟨_, _, _, _, _, (o.at 4 rfl).whole, ?_⟩
 exact ⟨x5, h, ⟨_, rfl, (GR10_Got_in x5 ⟨le3, (f7.st (st16.trans (st17.trans (st18.trans Mem.endS))))⟩)⟩, o.done⟩
 refine ⟨_, (o.at 1 rfl).cell rfl, ?_⟩
 intro b4 w19 hb4 hw19
 have el1 : El cGNode (ms [.box b3 [.slice a4 x5.l.length c4, .q x5.at_, .q x5.e_], .box b2 [.q x2.kind, .s x2.text, .q x2.n, .q x2.at_], .row 39 5 a3 L1.length c3 xs, .box b1 [.slice a2 L.length c2, .q At, .q E], .box b [.slice a3 L1.length c3, .q At1, .q E1]] m) w17 [(⟨op, [], 0, 2, x2.at_⟩ : GNode)] ([.q op, .s [], .q 0, .q 2, .q x2.at_] : List Value) := (El.cons (cs := [.q op, .s [], .q 0, .q 2, .q x2.at_]) (GNode_in (⟨op, [], 0, 2, x2.at_⟩ : GNode)) (El.nil _ _ _))
 have st19 := o.xL hb4 hw19 5 1
 have o := o.lit hb4 hw19 5 1 (by decide) rfl
 refine ⟨_, _, _, (o.at 4 rfl).cell rfl, ?_⟩
 obtain ⟨lt, h⟩ := h
 have sT3 := (((((((st8.trans st9).trans st10).trans st11).trans st12).trans st15).trans st16).trans st17).trans st19
 obtain ⟨xs1, hx, el2⟩ := SlR.cells (f4.st sT3)
 have el3 := ((el1.st st19)).app el2
 refine append_sl sl_39 (o.rowAt 0 rfl) hx el2.len el2.one (by first | (simp; done) | simpa using lt) (by decide) (Nat.zero_le _) fun a5 c5 w20 hr hg hat => ?_
 have ln : 1 + L.length = ([(⟨op, [], 0, 2, x2.at_⟩ : GNode)] ++ L).length := (by first | (simp; done) | (simp; omega))
 rw [ln] at hr ⊢
 refine ⟨_, _, _, rfl, ?_⟩
 have st20 := o.xA 0 rfl hr hg hat
 have o := o.app 0 rfl hr hg hat
 obtain ⟨J1, h, h2⟩ := h
 refine ⟨fun w21 => ∃ (L2 : List GNode) (At2 : Int) (E2 : Int) (xs2 : List Value) (a6 : Option Addr) (c6 : Nat), J1 L2 At2 E2 ∧ El cGNode (ms [.row 39 5 a6 L2.length c6 xs2, .box b3 [.slice a4 x5.l.length c4, .q x5.at_, .q x5.e_], .box b2 [.q x2.kind, .s x2.text, .q x2.n, .q x2.at_], .row 39 5 a3 L1.length c3 xs, .box b1 [.slice a6 L2.length c6, .q At2, .q E2], .box b [.slice a3 L1.length c3, .q At1, .q E1]] m) w21 L2 xs2 ∧ Mem w.heap.size [] m [([], w.heap.size, w)] [] w21 [.row 39 5 a6 L2.length c6 xs2, .box b3 [.slice a4 x5.l.length c4, .q x5.at_, .q x5.e_], .box b2 [.q x2.kind, .s x2.text, .q x2.n, .q x2.at_], .row 39 5 a3 L1.length c3 xs, .box b1 [.slice a6 L2.length c6, .q At2, .q E2], .box b [.slice a3 L1.length c3, .q At1, .q E1]] ∧ Step (ms [.row 39 5 a5 (([(⟨op, [], 0, 2, x2.at_⟩ : GNode)] ++ L).length) c5 (([.q op, .s [], .q 0, .q 2, .q x2.at_] : List Value) ++ xs1), .box b3 [.slice a4 x5.l.length c4, .q x5.at_, .q x5.e_], .box b2 [.q x2.kind, .s x2.text, .q x2.n, .q x2.at_], .row 39 5 a3 L1.length c3 xs, .box b1 [.slice a2 L.length c2, .q At, .q E], .box b [.slice a3 L1.length c3, .q At1, .q E1]] m) w20 (ms [.row 39 5 a6 L2.length c6 xs2, .box b3 [.slice a4 x5.l.length c4, .q x5.at_, .q x5.e_], .box b2 [.q x2.kind, .s x2.text, .q x2.n, .q x2.at_], .row 39 5 a3 L1.length c3 xs, .box b1 [.slice a6 L2.length c6, .q At2, .q E2], .box b [.slice a3 L1.length c3, .q At1, .q E1]] m) w21, ?_, ?_⟩
 intro w22 hw22
 obtain ⟨st22, o⟩ := o.dD hw22
 have ox := o
 refine ⟨fun u => Keep ((Vc.blk a5).toList) w22 u, Keep.refl _ _, ?_⟩
 refine ⟨_, _, _, fun u hu => ((ox.at 1 rfl).keep hu (fun h => by exact ox.boxrow 1 0 rfl rfl (by decide) h)).cell rfl, ?_⟩
 refine ⟨_, fun u hu => ((ox.at 1 rfl).keep hu (fun h => by exact ox.boxrow 1 0 rfl rfl (by decide) h)).cell rfl, ?_⟩
 obtain ⟨lt1, h⟩ := h
 have sT4 := (((st16.trans st17).trans st19).trans st20).trans st22
 obtain ⟨xs3, hx1, el5⟩ := SlR.cells (f7.st sT4)
 have el6 := ((el3.st (st20.trans st22))).app el5
 refine append_sl sl_39 (o.rowAt 0 rfl) hx1 el5.len el5.one (by first | (simp; done) | simpa using lt1) (by decide) (Nat.zero_le _) fun a7 c7 w23 hr1 hg1 hat1 => ?_
 have ln1 : ([(⟨op, [], 0, 2, x2.at_⟩ : GNode)] ++ L).length + x5.l.length = (([(⟨op, [], 0, 2, x2.at_⟩ : GNode)] ++ L) ++ x5.l).length := (by first | (simp; done) | (simp; omega))
 rw [ln1] at hr1 ⊢
 refine ⟨_, _, _, rfl, ?_⟩
 have st23 := o.xA 0 rfl hr1 hg1 hat1
 have o := o.app 0 rfl hr1 hg1 hat1
 refine ⟨(keep_app (Keep.refl _ _) hg1 (fun q hq => .inl (by simp [hq]))), ?_⟩
 refine ⟨o.wr 4 rfl rfl, fun w24 hw24 => ?_⟩
 obtain ⟨st24, o⟩ := o.dSs 4 hw24 rfl
 have sT5 := (st22.trans st23).trans st24
 exact ⟨(([(⟨op, [], 0, 2, x2.at_⟩ : GNode)] ++ L) ++ x5.l), x5.at_, 0, ((([.q op, .s [], .q 0, .q 2, .q x2.at_] : List Value) ++ xs1) ++ xs3), a7, c7, h, (el6.st (st23.trans st24)), o, sT5⟩
 rintro _ w21 ⟨L2, At2, E2, xs2, a6, c6, hJ, el4, o, st21⟩
 have h := h2 L2 At2 E2 hJ
 refine cond_map (fun h => ?_) (fun h => ?_) h
 refine ⟨_, _, _, _, _, (o.at 4 rfl).whole, ?_⟩
 refine ⟨o.wr 5 rfl rfl, fun w25 hw25 => ?_⟩
 obtain ⟨st25, o⟩ := o.dSs 5 hw25 rfl
 refine ⟨_, _, _, _, _, (o.at 5 rfl).whole, ?_⟩
 have le4 := (o.rowAt 0 rfl).cap
 have st26 := o.xX 0
 have f8 := o.freeze (c := cGNode) (l := L2) 0 rfl (fun b hb => by simp at hb) (el4.st (st25.trans st26))
 have o := o.erase 0
 exact ⟨(⟨L2, At2, E2⟩ : GR10_Got), h, ⟨_, rfl, (GR10_Got_in (⟨L2, At2, E2⟩ : GR10_Got) ⟨le4, (f8.st Mem.endS)⟩)⟩, o.done⟩
 have le5 := (o.rowAt 0 rfl).cap
 have st27 := o.xX 0
 have f9 := o.freeze (c := cGNode) (l := L2) 0 rfl (fun b hb => by simp at hb) (el4.st st27)
 have o := o.erase 0
 obtain ⟨st28, o⟩ := o.dX 0
 obtain ⟨st29, o⟩ := o.dX 0
 obtain ⟨n2, hl, h⟩ := h
 have sT6 := ((((sT3.trans st20).trans st21).trans st27).trans st28).trans st29
 have sT7 := (((((((((((((st7.trans st8).trans st9).trans st10).trans st11).trans st12).trans st15).trans st16).trans st17).trans st19).trans st20).trans st21).trans st27).trans st28).trans st29
 exact loop_again hnn1 (show Z w21 n2 from (by rw [hZ]; exact ⟨L2, At2, E2, L1, At1, E1, a6, c6, xs, a3, c3, h, ⟨le5, (f9.st (st28.trans st29))⟩, (el.st sT6), o, sT7⟩)) hl
 refine ⟨_, _, _, _, _, (o.at 1 rfl).whole, ?_⟩
 refine ⟨o.wr 2 rfl rfl, fun w26 hw26 => ?_⟩
 obtain ⟨st30, o⟩ := o.dSs 2 hw26 rfl
 refine ⟨_, _, _, _, _, (o.at 2 rfl).whole, ?_⟩
 exact ⟨(⟨L, At, E⟩ : GR10_Got), h, ⟨_, rfl, (GR10_Got_in (⟨L, At, E⟩ : GR10_Got) ⟨le2, (f4.st (st30.trans Mem.endS))⟩)⟩, o.done⟩
def R10_one_vwp (toks : List GToken) (atx : Int) (deep : Int) (K : GR10_Got → Prop) : Prop :=
 V_R10_Tok toks atx (fun x =>
 cond (x.kind == 2)
 (K (⟨[(⟨1, [], x.n, 0, x.at_⟩ : GNode)], IntKind.i64.wrap (atx + 1), 0⟩ : GR10_Got))
 (cond (x.kind == 1)
 (K (⟨[(⟨2, x.text, 0, 0, x.at_⟩ : GNode)], IntKind.i64.wrap (atx + 1), 0⟩ : GR10_Got))
 (∃ (J : Bool → Prop),
 (cond (x.kind != 4)
 (J true)
 (cond (!(x.text == [45]))
 (cond (!(x.text == [33]))
 (J (!(x.text == [40])))
 (J false))
 (J false))) ∧
 ∀ (x1 : Bool), J x1 →
 cond (x1)
 (K (⟨[], atx, 11⟩ : GR10_Got))
 (cond (deep == 24)
 (K (⟨[], atx, 5⟩ : GR10_Got))
 (cond (x.text == [40])
 (V_R10_level toks (IntKind.i64.wrap (atx + 1)) 1 (IntKind.i64.wrap (deep + 1)) (fun x2 =>
 cond (x2.e_ != 0)
 (K x2)
 (V_R10_Tok toks x2.at_ (fun x3 =>
 ∃ (J1 : Bool → Prop),
 (cond (x3.kind != 4)
 (J1 true)
 (J1 (!(x3.text == [41])))) ∧
 ∀ (x4 : Bool), J1 x4 →
 cond (x4)
 (K (⟨[], x2.at_, 11⟩ : GR10_Got))
 (K (⟨x2.l, IntKind.i64.wrap (x2.at_ + 1), 0⟩ : GR10_Got))))))
 (V_R10_one toks (IntKind.i64.wrap (atx + 1)) (IntKind.i64.wrap (deep + 1)) (fun x5 =>
 cond (x5.e_ != 0)
 (K x5)
 (∃ (J2 : Int → Prop),
 (cond (x.text == [33])
 (J2 4)
 (J2 3)) ∧
 ∀ (op : Int), J2 op →
 ([(⟨op, [], 0, 1, x.at_⟩ : GNode)]).length + x5.l.length < 2 ^ 32 ∧
 K (⟨([(⟨op, [], 0, 1, x.at_⟩ : GNode)] ++ x5.l), x5.at_, 0⟩ : GR10_Got)))))))))
set_option maxHeartbeats 4000000 in
theorem R10_one_lift (toks : List GToken) (atx : Int) (deep : Int) (K : GR10_Got → Prop) (h : R10_one_vwp toks atx deep K) : V_R10_one toks atx deep K := by
 intro m w hm toksA toksC le_toks f_toks
 have o := Mem.start hm.lt
 refine R10_one_ok toksA toks.length toksC atx deep _ _ ?_
 intro b w1 hb hw1
 obtain ⟨st, o⟩ := o.dB hb hw1
 refine call_then (h _ w1 (o.mo hm (by simp) (.head _)) _ _ le_toks (f_toks.st st)) ?_
 rintro _ w2 ⟨x, h, ⟨cs, rfl, f⟩, ke⟩
 obtain ⟨st1, o⟩ := o.dE ke
 obtain rfl := GToken_out f
 refine ⟨_, _, _, _, rfl, ?_⟩
 intro b1 w3 hb1 hw3
 obtain ⟨st2, o⟩ := o.dB hb1 hw3
 refine ⟨o.wr 0 rfl rfl, fun w4 hw4 => ?_⟩
 obtain ⟨st3, o⟩ := o.dSs 0 hw4 rfl
 refine ⟨_, (o.at 0 rfl).cell rfl, ?_⟩
 refine cond_map (fun h => ?_) (fun h => ?_) h
 refine ⟨_, (o.at 0 rfl).cell rfl, ?_⟩
 refine ⟨_, (o.at 0 rfl).cell rfl, ?_⟩
 intro b2 w5 hb2 hw5
 have el : El cGNode (ms [.box b1 [.q x.kind, .s x.text, .q x.n, .q x.at_], .box b [.slice none 0 0, .q 0, .q 0]] m) w4 [(⟨1, [], x.n, 0, x.at_⟩ : GNode)] ([.q 1, .s [], .q x.n, .q 0, .q x.at_] : List Value) := (El.cons (cs := [.q 1, .s [], .q x.n, .q 0, .q x.at_]) (GNode_in (⟨1, [], x.n, 0, x.at_⟩ : GNode)) (El.nil _ _ _))
 have st4 := o.xL hb2 hw5 5 1
 have o := o.lit hb2 hw5 5 1 (by decide) rfl
 refine ⟨o.wr 2 rfl rfl, fun w6 hw6 => ?_⟩
 obtain ⟨st5, o⟩ := o.dSs 2 hw6 rfl
 refine ⟨_, _, _, _, _, (o.at 2 rfl).whole, ?_⟩
 have le := (o.rowAt 0 rfl).cap
 have st6 := o.xX 0
 have sT := (st4.trans st5).trans st6
 have f1 := o.freeze (c := cGNode) (l := [(⟨1, [], x.n, 0, x.at_⟩ : GNode)]) 0 rfl (fun b hb => by simp at hb) (el.st sT)
 have o := o.erase 0
 exact ⟨(⟨[(⟨1, [], x.n, 0, x.at_⟩ : GNode)], IntKind.i64.wrap (atx + 1), 0⟩ : GR10_Got), h, ⟨_, rfl, (GR10_Got_in (⟨[(⟨1, [], x.n, 0, x.at_⟩ : GNode)], IntKind.i64.wrap (atx + 1), 0⟩ : GR10_Got) ⟨le, (f1.st Mem.endS)⟩)⟩, o.done⟩
 refine ⟨_, (o.at 0 rfl).cell rfl, ?_⟩
 refine cond_map (fun h => ?_) (fun h => ?_) h
 refine ⟨_, (o.at 0 rfl).cell rfl, ?_⟩
 refine ⟨_, (o.at 0 rfl).cell rfl, ?_⟩
 intro b3 w7 hb3 hw7
 have el1 : El cGNode (ms [.box b1 [.q x.kind, .s x.text, .q x.n, .q x.at_], .box b [.slice none 0 0, .q 0, .q 0]] m) w4 [(⟨2, x.text, 0, 0, x.at_⟩ : GNode)] ([.q 2, .s x.text, .q 0, .q 0, .q x.at_] : List Value) := (El.cons (cs := [.q 2, .s x.text, .q 0, .q 0, .q x.at_]) (GNode_in (⟨2, x.text, 0, 0, x.at_⟩ : GNode)) (El.nil _ _ _))
 have st7 := o.xL hb3 hw7 5 1
 have o := o.lit hb3 hw7 5 1 (by decide) rfl
 refine ⟨o.wr 2 rfl rfl, fun w8 hw8 => ?_⟩
 obtain ⟨st8, o⟩ := o.dSs 2 hw8 rfl
 refine ⟨_, _, _, _, _, (o.at 2 rfl).whole, ?_⟩
 have le1 := (o.rowAt 0 rfl).cap
 have st9 := o.xX 0
 have sT1 := (st7.trans st8).trans st9
 have f2 := o.freeze (c := cGNode) (l := [(⟨2, x.text, 0, 0, x.at_⟩ : GNode)]) 0 rfl (fun b hb => by simp at hb) (el1.st sT1)
 have o := o.erase 0
 exact ⟨(⟨[(⟨2, x.text, 0, 0, x.at_⟩ : GNode)], IntKind.i64.wrap (atx + 1), 0⟩ : GR10_Got), h, ⟨_, rfl, (GR10_Got_in (⟨[(⟨2, x.text, 0, 0, x.at_⟩ : GNode)], IntKind.i64.wrap (atx + 1), 0⟩ : GR10_Got) ⟨le1, (f2.st Mem.endS)⟩)⟩, o.done⟩
 obtain ⟨J, h, h2⟩ := h
 refine ⟨fun x1 w9 => J x1 ∧ Mem w.heap.size [] m [([], w.heap.size, w)] [] w9 [.box b1 [.q x.kind, .s x.text, .q x.n, .q x.at_], .box b [.slice none 0 0, .q 0, .q 0]] ∧ Step (ms [.box b1 [.q x.kind, .s x.text, .q x.n, .q x.at_], .box b [.slice none 0 0, .q 0, .q 0]] m) w4 (ms [.box b1 [.q x.kind, .s x.text, .q x.n, .q x.at_], .box b [.slice none 0 0, .q 0, .q 0]] m) w9, ?_, ?_⟩
 refine ⟨_, (o.at 0 rfl).cell rfl, ?_⟩
 refine cond_map (fun h => ?_) (fun h => ?_) h
 exact ⟨h, o, Step.refl _ _⟩
 refine ⟨_, (o.at 0 rfl).cell rfl, ?_⟩
 refine cond_map (fun h => ?_) (fun h => ?_) h
 refine ⟨_, (o.at 0 rfl).cell rfl, ?_⟩
 refine cond_map (fun h => ?_) (fun h => ?_) h
 refine ⟨_, (o.at 0 rfl).cell rfl, ?_⟩
 exact ⟨h, o, Step.refl _ _⟩
 exact ⟨h, o, Step.refl _ _⟩
 exact ⟨h, o, Step.refl _ _⟩
 rintro _ x1 w9 ⟨hJ, o, st10⟩
 have h := h2 x1 hJ
 refine cond_map (fun h => ?_) (fun h => ?_) h
 refine ⟨o.wr 1 rfl rfl, fun w10 hw10 => ?_⟩
 obtain ⟨st11, o⟩ := o.dSs 1 hw10 rfl
 refine ⟨_, _, _, _, _, (o.at 1 rfl).whole, ?_⟩
 exact ⟨(⟨[], atx, 11⟩ : GR10_Got), h, ⟨_, rfl, (GR10_Got_in (⟨[], atx, 11⟩ : GR10_Got) ⟨(Nat.le_refl _), (SlR.nil _ _ _ _)⟩)⟩, o.done⟩
 refine cond_map (fun h => ?_) (fun h => ?_) h
 refine ⟨o.wr 1 rfl rfl, fun w11 hw11 => ?_⟩
 obtain ⟨st12, o⟩ := o.dSs 1 hw11 rfl
 refine ⟨_, _, _, _, _, (o.at 1 rfl).whole, ?_⟩
 exact ⟨(⟨[], atx, 5⟩ : GR10_Got), h, ⟨_, rfl, (GR10_Got_in (⟨[], atx, 5⟩ : GR10_Got) ⟨(Nat.le_refl _), (SlR.nil _ _ _ _)⟩)⟩, o.done⟩
 refine ⟨_, (o.at 0 rfl).cell rfl, ?_⟩
 refine cond_map (fun h => ?_) (fun h => ?_) h
 have sT2 := (((st.trans st1).trans st2).trans st3).trans st10
 refine call_then (h _ w9 (o.mo hm (by simp) (.head _)) _ _ le_toks (f_toks.st sT2)) ?_
 rintro _ w12 ⟨x2, h, ⟨cs1, rfl, f3⟩, ke1⟩
 obtain ⟨st13, o⟩ := o.dE ke1
 obtain ⟨a, c, rfl, ⟨le2, f4⟩⟩ := GR10_Got_out f3
 refine ⟨_, _, _, _, _, rfl, ?_⟩
 intro b4 w13 hb4 hw13
 obtain ⟨st14, o⟩ := o.dB hb4 hw13
 refine ⟨o.wr 0 rfl rfl, fun w14 hw14 => ?_⟩
 obtain ⟨st15, o⟩ := o.dSs 0 hw14 rfl
 refine ⟨_, (o.at 0 rfl).cell rfl, ?_⟩
 refine cond_map (fun h => ?_) (fun h => ?_) h
 refine ⟨_, _, _, _, _, (o.at 0 rfl).whole, ?_⟩
 refine ⟨o.wr 2 rfl rfl, fun w15 hw15 => ?_⟩
 obtain ⟨st16, o⟩ := o.dSs 2 hw15 rfl
 refine ⟨_, _, _, _, _, (o.at 2 rfl).whole, ?_⟩
 exact ⟨x2, h, ⟨_, rfl, (GR10_Got_in x2 ⟨le2, (f4.st (st14.trans (st15.trans (st16.trans Mem.endS))))⟩)⟩, o.done⟩
 refine ⟨_, (o.at 0 rfl).cell rfl, ?_⟩
 have sT3 := ((sT2.trans st13).trans st14).trans st15
 refine call_then (h _ w14 (o.mo hm (by simp) (.head _)) _ _ le_toks (f_toks.st sT3)) ?_
 rintro _ w16 ⟨x3, h, ⟨cs2, rfl, f5⟩, ke2⟩
 obtain ⟨st17, o⟩ := o.dE ke2
 obtain rfl := GToken_out f5
 refine ⟨_, _, _, _, rfl, ?_⟩
 intro b5 w17 hb5 hw17
 obtain ⟨st18, o⟩ := o.dB hb5 hw17
 refine ⟨o.wr 0 rfl rfl, fun w18 hw18 => ?_⟩
 obtain ⟨st19, o⟩ := o.dSs 0 hw18 rfl
 obtain ⟨J1, h, h2⟩ := h
 refine ⟨fun x4 w19 => J1 x4 ∧ Mem w.heap.size [] m [([], w.heap.size, w)] [] w19 [.box b5 [.q x3.kind, .s x3.text, .q x3.n, .q x3.at_], .box b4 [.slice a x2.l.length c, .q x2.at_, .q x2.e_], .box b1 [.q x.kind, .s x.text, .q x.n, .q x.at_], .box b [.slice none 0 0, .q 0, .q 0]] ∧ Step (ms [.box b5 [.q x3.kind, .s x3.text, .q x3.n, .q x3.at_], .box b4 [.slice a x2.l.length c, .q x2.at_, .q x2.e_], .box b1 [.q x.kind, .s x.text, .q x.n, .q x.at_], .box b [.slice none 0 0, .q 0, .q 0]] m) w18 (ms [.box b5 [.q x3.kind, .s x3.text, .q x3.n, .q x3.at_], .box b4 [.slice a x2.l.length c, .q x2.at_, .q x2.e_], .box b1 [.q x.kind, .s x.text, .q x.n, .q x.at_], .box b [.slice none 0 0, .q 0, .q 0]] m) w19, ?_, ?_⟩
 refine ⟨_, (o.at 0 rfl).cell rfl, ?_⟩
 refine cond_map (fun h => ?_) (fun h => ?_) h
 exact ⟨h, o, Step.refl _ _⟩
 refine ⟨_, (o.at 0 rfl).cell rfl, ?_⟩
 exact ⟨h, o, Step.refl _ _⟩
 rintro _ x4 w19 ⟨hJ, o, st20⟩
 have h := h2 x4 hJ
 refine cond_map (fun h => ?_) (fun h => ?_) h
 refine ⟨_, (o.at 1 rfl).cell rfl, ?_⟩
 refine ⟨o.wr 3 rfl rfl, fun w20 hw20 => ?_⟩
 obtain ⟨st21, o⟩ := o.dSs 3 hw20 rfl
 refine ⟨_, _, _, _, _, (o.at 3 rfl).whole, ?_⟩
 exact ⟨(⟨[], x2.at_, 11⟩ : GR10_Got), h, ⟨_, rfl, (GR10_Got_in (⟨[], x2.at_, 11⟩ : GR10_Got) ⟨(Nat.le_refl _), (SlR.nil _ _ _ _)⟩)⟩, o.done⟩
 refine ⟨_, _, _, (o.at 1 rfl).cell rfl, ?_⟩
 refine ⟨_, (o.at 1 rfl).cell rfl, ?_⟩
 refine ⟨o.wr 3 rfl rfl, fun w21 hw21 => ?_⟩
 obtain ⟨st22, o⟩ := o.dSs 3 hw21 rfl
 refine ⟨_, _, _, _, _, (o.at 3 rfl).whole, ?_⟩
 exact ⟨(⟨x2.l, IntKind.i64.wrap (x2.at_ + 1), 0⟩ : GR10_Got), h, ⟨_, rfl, (GR10_Got_in (⟨x2.l, IntKind.i64.wrap (x2.at_ + 1), 0⟩ : GR10_Got) ⟨le2, (f4.st (st14.trans (st15.trans (st17.trans (st18.trans (st19.trans (st20.trans (st22.trans Mem.endS))))))))⟩)⟩, o.done⟩
 have sT4 := (((st.trans st1).trans st2).trans st3).trans st10
 refine call_then (h _ w9 (o.mo hm (by simp) (.head _)) _ _ le_toks (f_toks.st sT4)) ?_
 rintro _ w22 ⟨x5, h, ⟨cs3, rfl, f6⟩, ke3⟩
 obtain ⟨st23, o⟩ := o.dE ke3
 obtain ⟨a1, c1, rfl, ⟨le3, f7⟩⟩ := GR10_Got_out f6
 refine ⟨_, _, _, _, _, rfl, ?_⟩
 intro b6 w23 hb6 hw23
 obtain ⟨st24, o⟩ := o.dB hb6 hw23
 refine ⟨o.wr 0 rfl rfl, fun w24 hw24 => ?_⟩
 obtain ⟨st25, o⟩ := o.dSs 0 hw24 rfl
 refine ⟨_, (o.at 0 rfl).cell rfl, ?_⟩
 refine cond_map (fun h => ?_) (fun h => ?_) h
 refine ⟨_, _, _, _, _, (o.at 0 rfl).whole, ?_⟩
 refine ⟨o.wr 2 rfl rfl, fun w25 hw25 => ?_⟩
 obtain ⟨st26, o⟩ := o.dSs 2 hw25 rfl
 refine ⟨_, _, _, _, _, (o.at 2 rfl).whole, ?_⟩
 exact ⟨x5, h, ⟨_, rfl, (GR10_Got_in x5 ⟨le3, (f7.st (st24.trans (st25.trans (st26.trans Mem.endS))))⟩)⟩, o.done⟩
 obtain ⟨J2, h, h2⟩ := h
 refine ⟨fun op w26 => J2 op ∧ Mem w.heap.size [] m [([], w.heap.size, w)] [] w26 [.box b6 [.slice a1 x5.l.length c1, .q x5.at_, .q x5.e_], .box b1 [.q x.kind, .s x.text, .q x.n, .q x.at_], .box b [.slice none 0 0, .q 0, .q 0]] ∧ Step (ms [.box b6 [.slice a1 x5.l.length c1, .q x5.at_, .q x5.e_], .box b1 [.q x.kind, .s x.text, .q x.n, .q x.at_], .box b [.slice none 0 0, .q 0, .q 0]] m) w24 (ms [.box b6 [.slice a1 x5.l.length c1, .q x5.at_, .q x5.e_], .box b1 [.q x.kind, .s x.text, .q x.n, .q x.at_], .box b [.slice none 0 0, .q 0, .q 0]] m) w26, ?_, ?_⟩
 refine ⟨_, (o.at 1 rfl).cell rfl, ?_⟩
 refine cond_map (fun h => ?_) (fun h => ?_) h
 exact ⟨h, o, Step.refl _ _⟩
 exact ⟨h, o, Step.refl _ _⟩
 rintro _ op w26 ⟨hJ, o, st27⟩
 have h := h2 op hJ
 intro w27 hw27
 obtain ⟨st28, o⟩ := o.dD hw27
 have ox := o
 refine ⟨fun u => Keep [] w27 u, Keep.refl _ _, ?_⟩
 refine ⟨_, fun u hu => ((ox.at 1 rfl).keep hu (by simp)).cell rfl, ?_⟩
 refine ⟨_, _, _, fun u hu => ((ox.at 0 rfl).keep hu (by simp)).cell rfl, ?_⟩
 refine ⟨_, fun u hu => ((ox.at 0 rfl).keep hu (by simp)).cell rfl, ?_⟩
 intro b7 w28 hb7 hw28
 have el2 : El cGNode (ms [.box b6 [.slice a1 x5.l.length c1, .q x5.at_, .q x5.e_], .box b1 [.q x.kind, .s x.text, .q x.n, .q x.at_], .box b [.slice none 0 0, .q 0, .q 0]] m) w27 [(⟨op, [], 0, 1, x.at_⟩ : GNode)] ([.q op, .s [], .q 0, .q 1, .q x.at_] : List Value) := (El.cons (cs := [.q op, .s [], .q 0, .q 1, .q x.at_]) (GNode_in (⟨op, [], 0, 1, x.at_⟩ : GNode)) (El.nil _ _ _))
 have st29 := o.xL hb7 hw28 5 1
 have o := o.lit hb7 hw28 5 1 (by decide) rfl
 refine ⟨((keep_alloc hw28).mono (by simp)), ?_⟩
 obtain ⟨lt, h⟩ := h
 have sT5 := (((st24.trans st25).trans st27).trans st28).trans st29
 obtain ⟨xs, hx, el3⟩ := SlR.cells (f7.st sT5)
 have el4 := ((el2.st st29)).app el3
 refine append_sl sl_39 (o.rowAt 0 rfl) hx el3.len el3.one (by first | (simp; done) | simpa using lt) (by decide) (Nat.zero_le _) fun a2 c2 w29 hr hg hat => ?_
 have ln : 1 + x5.l.length = ([(⟨op, [], 0, 1, x.at_⟩ : GNode)] ++ x5.l).length := (by first | (simp; done) | (simp; omega))
 rw [ln] at hr ⊢
 refine ⟨_, _, _, rfl, ?_⟩
 have st30 := o.xA 0 rfl hr hg hat
 have o := o.app 0 rfl hr hg hat
 refine ⟨(keep_app ((keep_alloc hw28).mono (by simp)) hg (fresh_lit hb7 (Keep.refl _ _))), ?_⟩
 refine ⟨o.wr 3 rfl rfl, fun w30 hw30 => ?_⟩
 obtain ⟨st31, o⟩ := o.dSs 3 hw30 rfl
 refine ⟨_, _, _, _, _, (o.at 3 rfl).whole, ?_⟩
 have le4 := (o.rowAt 0 rfl).cap
 have st32 := o.xX 0
 have sT6 := (st30.trans st31).trans st32
 have f8 := o.freeze (c := cGNode) (l := ([(⟨op, [], 0, 1, x.at_⟩ : GNode)] ++ x5.l)) 0 rfl (fun b hb => by simp at hb) (el4.st sT6)
 have o := o.erase 0
 exact ⟨(⟨([(⟨op, [], 0, 1, x.at_⟩ : GNode)] ++ x5.l), x5.at_, 0⟩ : GR10_Got), h, ⟨_, rfl, (GR10_Got_in (⟨([(⟨op, [], 0, 1, x.at_⟩ : GNode)] ++ x5.l), x5.at_, 0⟩ : GR10_Got) ⟨le4, (f8.st Mem.endS)⟩)⟩, o.done⟩
def R10_Parse_vwp (toks : List GToken) (atx : Int) (K : GR10_Got → Prop) : Prop :=
 cond (decide (atx < 0))
 (K (⟨[], 0, 1⟩ : GR10_Got))
 (V_R10_level toks atx 1 0 (fun x =>
 K x))
theorem R10_Parse_lift (toks : List GToken) (atx : Int) (K : GR10_Got → Prop) (h : R10_Parse_vwp toks atx K) : V_R10_Parse toks atx K := by
 intro m w hm toksA toksC le_toks f_toks
 have o := Mem.start hm.lt
 refine R10_Parse_ok toksA toks.length toksC atx _ _ ?_
 intro b w1 hb hw1
 obtain ⟨st, o⟩ := o.dB hb hw1
 refine cond_map (fun h => ?_) (fun h => ?_) h
 refine ⟨o.wr 0 rfl rfl, fun w2 hw2 => ?_⟩
 obtain ⟨st1, o⟩ := o.dSs 0 hw2 rfl
 refine ⟨_, _, _, _, _, (o.at 0 rfl).whole, ?_⟩
 exact ⟨(⟨[], 0, 1⟩ : GR10_Got), h, ⟨_, rfl, (GR10_Got_in (⟨[], 0, 1⟩ : GR10_Got) ⟨(Nat.le_refl _), (SlR.nil _ _ _ _)⟩)⟩, o.done⟩
 refine call_then (h _ w1 (o.mo hm (by simp) (.head _)) _ _ le_toks (f_toks.st st)) ?_
 rintro _ w3 ⟨x, h, ⟨cs, rfl, f⟩, ke⟩
 obtain ⟨st2, o⟩ := o.dE ke
 obtain ⟨a, c, rfl, ⟨le, f1⟩⟩ := GR10_Got_out f
 refine ⟨_, _, _, _, _, rfl, ?_⟩
 refine ⟨o.wr 0 rfl rfl, fun w4 hw4 => ?_⟩
 obtain ⟨st3, o⟩ := o.dSs 0 hw4 rfl
 refine ⟨_, _, _, _, _, (o.at 0 rfl).whole, ?_⟩
 exact ⟨x, h, ⟨_, rfl, (GR10_Got_in x ⟨le, (f1.st (st3.trans Mem.endS))⟩)⟩, o.done⟩
def R09_Is_vwp (l : List GNode) (K : Bool → Prop) : Prop :=
 V_R09_Check l (fun x =>
 K ((x.x0 == 0) && (x.x1 == 0)))
theorem R09_Is_lift (l : List GNode) (K : Bool → Prop) (h : R09_Is_vwp l K) : V_R09_Is l K := by
 intro m w hm lA lC le_l f_l
 have o := Mem.start hm.lt
 refine R09_Is_ok lA l.length lC _ _ ?_
 refine call_then (h _ w (o.mo hm (by simp) (.head _)) _ _ le_l f_l) ?_
 rintro _ w1 ⟨x, h, ⟨cs, rfl, f⟩, ke⟩
 obtain ⟨st, o⟩ := o.dE ke
 obtain rfl := GArr2_int_out f
 refine ⟨_, _, rfl, ?_⟩
 refine arr_eql2 Try.underlying50 Try.underlying3 (by kernel_rfl) (by kernel_rfl) (i := Try.t3) (by kernel_rfl) ⟨_, rfl, ?_⟩
 exact ⟨((x.x0 == 0) && (x.x1 == 0)), h, rfl, o.done⟩
def R09_Check_vwp (l : List GNode) (K : GArr2_int → Prop) : Prop :=
 V_R09_Piece l 0 [85] (fun x =>
 ∃ (J : Bool → Prop),
 (cond (x.ok)
 (J (x.at_ == (l.length : Int)))
 (J false)) ∧
 ∀ (x1 : Bool), J x1 →
 cond (x1)
 (K (⟨0, 0⟩ : GArr2_int))
 (K (⟨x.at_, 3⟩ : GArr2_int)))
theorem R09_Check_lift (l : List GNode) (K : GArr2_int → Prop) (h : R09_Check_vwp l K) : V_R09_Check l K := by
 intro m w hm lA lC le_l f_l
 have o := Mem.start hm.lt
 refine R09_Check_ok lA l.length lC _ _ ?_
 intro b w1 hb hw1
 obtain ⟨st, o⟩ := o.dB hb hw1
 refine call_then (h _ w1 (o.mo hm (by simp) (.head _)) _ _ le_l (f_l.st st)) ?_
 rintro _ w2 ⟨x, h, ⟨cs, rfl, f⟩, ke⟩
 obtain ⟨st1, o⟩ := o.dE ke
 obtain rfl := GR09_Cur_out f
 refine ⟨_, _, rfl, ?_⟩
 intro b1 w3 hb1 hw3
 obtain ⟨st2, o⟩ := o.dB hb1 hw3
 refine ⟨o.wr 0 rfl rfl, fun w4 hw4 => ?_⟩
 obtain ⟨st3, o⟩ := o.dSs 0 hw4 rfl
 obtain ⟨J, h, h2⟩ := h
 refine ⟨fun x1 w5 => J x1 ∧ Mem w.heap.size [] m [([], w.heap.size, w)] [] w5 [.box b1 [.q x.at_, .bool x.ok], .box b [.q 0, .q 0]] ∧ Step (ms [.box b1 [.q x.at_, .bool x.ok], .box b [.q 0, .q 0]] m) w4 (ms [.box b1 [.q x.at_, .bool x.ok], .box b [.q 0, .q 0]] m) w5, ?_, ?_⟩
 refine ⟨_, (o.at 0 rfl).cell rfl, ?_⟩
 refine cond_map (fun h => ?_) (fun h => ?_) h
 refine ⟨_, (o.at 0 rfl).cell rfl, ?_⟩
 exact ⟨h, o, Step.refl _ _⟩
 exact ⟨h, o, Step.refl _ _⟩
 rintro _ x1 w5 ⟨hJ, o, st4⟩
 have h := h2 x1 hJ
 refine cond_map (fun h => ?_) (fun h => ?_) h
 refine ⟨o.wr 1 rfl rfl, fun w6 hw6 => ?_⟩
 obtain ⟨st5, o⟩ := o.dSs 1 hw6 rfl
 refine ⟨_, _, (o.at 1 rfl).whole, ?_⟩
 exact ⟨(⟨0, 0⟩ : GArr2_int), h, ⟨_, rfl, (GArr2_int_in (⟨0, 0⟩ : GArr2_int))⟩, o.done⟩
 refine ⟨_, (o.at 0 rfl).cell rfl, ?_⟩
 refine ⟨o.wr 1 rfl rfl, fun w7 hw7 => ?_⟩
 obtain ⟨st6, o⟩ := o.dSs 1 hw7 rfl
 refine ⟨_, _, (o.at 1 rfl).whole, ?_⟩
 exact ⟨(⟨x.at_, 3⟩ : GArr2_int), h, ⟨_, rfl, (GArr2_int_in (⟨x.at_, 3⟩ : GArr2_int))⟩, o.done⟩
def R09_Piece_vwp (l : List GNode) (atx : Int) (classx : List UInt8) (K : GR09_Cur → Prop) : Prop :=
 cond (decide (atx ≥ (l.length : Int)))
 (K (⟨(l.length : Int), false⟩ : GR09_Cur))
 (((0 : Int) ≤ atx ∧ atx < (l.length : Int)) ∧
 ∀ x, l[atx.toNat]? = some x →
 ∃ (J : Int → Bool → Prop),
 (cond (classx == [69])
 (V_R09_term l x (⟨atx, false⟩ : GR09_Cur) (⟨IntKind.i64.wrap (atx + 1), true⟩ : GR09_Cur) (fun x1 =>
 K x1))
 (cond (classx == [83])
 (V_R09_stmt l x (⟨atx, false⟩ : GR09_Cur) (⟨IntKind.i64.wrap (atx + 1), true⟩ : GR09_Cur) (fun x2 =>
 K x2))
 (cond (classx == [67])
 (V_R09_clause l x (⟨atx, false⟩ : GR09_Cur) (⟨IntKind.i64.wrap (atx + 1), true⟩ : GR09_Cur) (fun x3 =>
 K x3))
 (cond (classx == [82])
 (∃ (J1 : Bool → Prop),
 (cond (x.op == 33)
 (V_R09_name x 0 (fun x5 =>
 cond (x5)
 (J1 true)
 (V_R09_name x 1 (fun x6 =>
 J1 x6))))
 (J1 false)) ∧
 ∀ (x4 : Bool), J1 x4 →
 cond (x4)
 (V_R09_all l (⟨IntKind.i64.wrap (atx + 1), true⟩ : GR09_Cur) [69] x.kids (fun x7 =>
 K x7))
 (J 0 false))
 (cond (classx == [66])
 (∃ (J2 : Bool → Prop),
 (cond (x.op == 32)
 (cond (decide (x.kids ≥ 0))
 (V_R09_bare x x.kids (fun x9 =>
 J2 x9))
 (J2 false))
 (J2 false)) ∧
 ∀ (x8 : Bool), J2 x8 →
 cond (x8)
 (V_R09_all l (⟨IntKind.i64.wrap (atx + 1), true⟩ : GR09_Cur) [83] x.kids (fun x10 =>
 K x10))
 (J 0 false))
 (cond (classx == [80])
 (∃ (J3 : Bool → Prop),
 (cond (x.op == 39)
 (V_R09_name x 0 (fun x12 =>
 J3 x12))
 (J3 false)) ∧
 ∀ (x11 : Bool), J3 x11 →
 cond (x11)
 (K (⟨IntKind.i64.wrap (atx + 1), true⟩ : GR09_Cur))
 (J 0 false))
 (cond (classx == [85])
 (∃ (J4 : Bool → Prop),
 (cond (x.op == 42)
 (cond (decide (x.kids ≥ 0))
 (V_R09_bare x x.kids (fun x14 =>
 J4 x14))
 (J4 false))
 (J4 false)) ∧
 ∀ (x13 : Bool), J4 x13 →
 cond (x13)
 (V_R09_all l (⟨IntKind.i64.wrap (atx + 1), true⟩ : GR09_Cur) [68] x.kids (fun x15 =>
 K x15))
 (J 0 false))
 (cond (classx == [68])
 (cond (x.op == 38)
 (∃ (J5 : Bool → Prop),
 (V_R08_Name x.name (fun x17 =>
 cond (x17)
 (cond (x.kids == 0)
 (cond (decide (x.n ≥ 0))
 (J5 (decide (x.n ≤ 16)))
 (J5 false))
 (J5 false))
 (J5 false))) ∧
 ∀ (x16 : Bool), J5 x16 →
 cond (x16)
 (K (⟨IntKind.i64.wrap (atx + 1), true⟩ : GR09_Cur))
 (J 0 false))
 (cond (x.op == 41)
 (V_R09_bare x 1 (fun x18 =>
 cond (x18)
 (V_R09_row l (⟨IntKind.i64.wrap (atx + 1), true⟩ : GR09_Cur) [66] (fun x19 =>
 K x19))
 (J 0 false)))
 (cond (x.op == 40)
 (∃ (J6 : Bool → Prop),
 (cond (decide (x.kids ≥ 1))
 (V_R09_name x x.kids (fun x21 =>
 J6 x21))
 (J6 false)) ∧
 ∀ (x20 : Bool), J6 x20 →
 cond (x20)
 (V_R09_all l (⟨IntKind.i64.wrap (atx + 1), true⟩ : GR09_Cur) [80] (IntKind.i64.wrap (x.kids - 1)) (fun x22 =>
 V_R09_row l x22 [66] (fun x23 =>
 K x23)))
 (J 0 false))
 (J 0 false))))
 (J 0 false))))))))) ∧
 ∀ (At : Int) (Ok : Bool), J At Ok →
 K (⟨atx, false⟩ : GR09_Cur))
set_option maxHeartbeats 4000000 in
theorem R09_Piece_lift (l : List GNode) (atx : Int) (classx : List UInt8) (K : GR09_Cur → Prop) (h : R09_Piece_vwp l atx classx K) : V_R09_Piece l atx classx K := by
 intro m w hm lA lC le_l f_l
 have o := Mem.start hm.lt
 refine R09_Piece_ok lA l.length lC atx classx _ _ ?_
 intro b w1 hb hw1
 obtain ⟨st, o⟩ := o.dB hb hw1
 refine cond_map (fun h => ?_) (fun h => ?_) h
 refine ⟨o.wr 0 rfl rfl, fun w2 hw2 => ?_⟩
 obtain ⟨st1, o⟩ := o.dSs 0 hw2 rfl
 refine ⟨_, _, (o.at 0 rfl).whole, ?_⟩
 exact ⟨(⟨(l.length : Int), false⟩ : GR09_Cur), h, ⟨_, rfl, (GR09_Cur_in (⟨(l.length : Int), false⟩ : GR09_Cur))⟩, o.done⟩
 obtain ⟨hi, h⟩ := h
 obtain ⟨p, x, cs, hp, he, hc, hr⟩ := (f_l.st st).elem hi
 obtain rfl := GNode_out hr
 have h := h x he
 refine ⟨hi, ptrOr_some hp ?_⟩
 refine ⟨_, _, _, _, _, hc.2, ?_⟩
 intro b1 w3 hb1 hw3
 obtain ⟨st2, o⟩ := o.dB hb1 hw3
 intro b2 w4 hb2 hw4
 obtain ⟨st3, o⟩ := o.dB hb2 hw4
 intro b3 w5 hb3 hw5
 obtain ⟨st4, o⟩ := o.dB hb3 hw5
 refine ⟨o.wr 2 rfl rfl, fun w6 hw6 => ?_⟩
 obtain ⟨st5, o⟩ := o.dSs 2 hw6 rfl
 refine ⟨o.wr 1 rfl rfl, fun w7 hw7 => ?_⟩
 obtain ⟨st6, o⟩ := o.dSs 1 hw7 rfl
 refine ⟨o.wr 0 rfl rfl, fun w8 hw8 => ?_⟩
 obtain ⟨st7, o⟩ := o.dSs 0 hw8 rfl
 obtain ⟨J, h, h2⟩ := h
 refine ⟨fun w9 => ∃ (At : Int) (Ok : Bool), J At Ok ∧ Mem w.heap.size [] m [([], w.heap.size, w)] [] w9 [.box b3 [.q (IntKind.i64.wrap (atx + 1)), .bool true], .box b2 [.q atx, .bool false], .box b1 [.q x.op, .s x.name, .q x.n, .q x.kids, .q x.at_], .box b [.q At, .bool Ok]] ∧ Step (ms [.box b3 [.q (IntKind.i64.wrap (atx + 1)), .bool true], .box b2 [.q atx, .bool false], .box b1 [.q x.op, .s x.name, .q x.n, .q x.kids, .q x.at_], .box b [.q 0, .bool false]] m) w8 (ms [.box b3 [.q (IntKind.i64.wrap (atx + 1)), .bool true], .box b2 [.q atx, .bool false], .box b1 [.q x.op, .s x.name, .q x.n, .q x.kids, .q x.at_], .box b [.q At, .bool Ok]] m) w9, ?_, ?_⟩
 refine cond_map (fun h => ?_) (fun h => ?_) h
 refine ⟨_, _, _, _, _, (o.at 2 rfl).whole, ?_⟩
 refine ⟨_, _, (o.at 1 rfl).whole, ?_⟩
 refine ⟨_, _, (o.at 0 rfl).whole, ?_⟩
 have sT := (((((st.trans st2).trans st3).trans st4).trans st5).trans st6).trans st7
 refine call_then (h _ w8 (o.mo hm (by simp) (.head _)) _ _ le_l (f_l.st sT) _ (GNode_in x) _ (GR09_Cur_in (⟨atx, false⟩ : GR09_Cur)) _ (GR09_Cur_in (⟨IntKind.i64.wrap (atx + 1), true⟩ : GR09_Cur))) ?_
 rintro _ w10 ⟨x1, h, ⟨cs1, rfl, f⟩, ke⟩
 obtain ⟨st9, o⟩ := o.dE ke
 obtain rfl := GR09_Cur_out f
 refine ⟨_, _, rfl, ?_⟩
 refine ⟨o.wr 3 rfl rfl, fun w11 hw11 => ?_⟩
 obtain ⟨st10, o⟩ := o.dSs 3 hw11 rfl
 refine ⟨_, _, (o.at 3 rfl).whole, ?_⟩
 exact ⟨x1, h, ⟨_, rfl, (GR09_Cur_in x1)⟩, o.done⟩
 refine cond_map (fun h => ?_) (fun h => ?_) h
 refine ⟨_, _, _, _, _, (o.at 2 rfl).whole, ?_⟩
 refine ⟨_, _, (o.at 1 rfl).whole, ?_⟩
 refine ⟨_, _, (o.at 0 rfl).whole, ?_⟩
 have sT1 := (((((st.trans st2).trans st3).trans st4).trans st5).trans st6).trans st7
 refine call_then (h _ w8 (o.mo hm (by simp) (.head _)) _ _ le_l (f_l.st sT1) _ (GNode_in x) _ (GR09_Cur_in (⟨atx, false⟩ : GR09_Cur)) _ (GR09_Cur_in (⟨IntKind.i64.wrap (atx + 1), true⟩ : GR09_Cur))) ?_
 rintro _ w12 ⟨x2, h, ⟨cs2, rfl, f1⟩, ke1⟩
 obtain ⟨st11, o⟩ := o.dE ke1
 obtain rfl := GR09_Cur_out f1
 refine ⟨_, _, rfl, ?_⟩
 refine ⟨o.wr 3 rfl rfl, fun w13 hw13 => ?_⟩
 obtain ⟨st12, o⟩ := o.dSs 3 hw13 rfl
 refine ⟨_, _, (o.at 3 rfl).whole, ?_⟩
 exact ⟨x2, h, ⟨_, rfl, (GR09_Cur_in x2)⟩, o.done⟩
 refine cond_map (fun h => ?_) (fun h => ?_) h
 refine ⟨_, _, _, _, _, (o.at 2 rfl).whole, ?_⟩
 refine ⟨_, _, (o.at 1 rfl).whole, ?_⟩
 refine ⟨_, _, (o.at 0 rfl).whole, ?_⟩
 have sT2 := (((((st.trans st2).trans st3).trans st4).trans st5).trans st6).trans st7
 refine call_then (h _ w8 (o.mo hm (by simp) (.head _)) _ _ le_l (f_l.st sT2) _ (GNode_in x) _ (GR09_Cur_in (⟨atx, false⟩ : GR09_Cur)) _ (GR09_Cur_in (⟨IntKind.i64.wrap (atx + 1), true⟩ : GR09_Cur))) ?_
 rintro _ w14 ⟨x3, h, ⟨cs3, rfl, f2⟩, ke2⟩
 obtain ⟨st13, o⟩ := o.dE ke2
 obtain rfl := GR09_Cur_out f2
 refine ⟨_, _, rfl, ?_⟩
 refine ⟨o.wr 3 rfl rfl, fun w15 hw15 => ?_⟩
 obtain ⟨st14, o⟩ := o.dSs 3 hw15 rfl
 refine ⟨_, _, (o.at 3 rfl).whole, ?_⟩
 exact ⟨x3, h, ⟨_, rfl, (GR09_Cur_in x3)⟩, o.done⟩
 refine cond_map (fun h => ?_) (fun h => ?_) h
 obtain ⟨J1, h, h2⟩ := h
 refine ⟨fun x4 w16 => J1 x4 ∧ Mem w.heap.size [] m [([], w.heap.size, w)] [] w16 [.box b3 [.q (IntKind.i64.wrap (atx + 1)), .bool true], .box b2 [.q atx, .bool false], .box b1 [.q x.op, .s x.name, .q x.n, .q x.kids, .q x.at_], .box b [.q 0, .bool false]] ∧ Step (ms [.box b3 [.q (IntKind.i64.wrap (atx + 1)), .bool true], .box b2 [.q atx, .bool false], .box b1 [.q x.op, .s x.name, .q x.n, .q x.kids, .q x.at_], .box b [.q 0, .bool false]] m) w8 (ms [.box b3 [.q (IntKind.i64.wrap (atx + 1)), .bool true], .box b2 [.q atx, .bool false], .box b1 [.q x.op, .s x.name, .q x.n, .q x.kids, .q x.at_], .box b [.q 0, .bool false]] m) w16, ?_, ?_⟩
 refine ⟨_, (o.at 2 rfl).cell rfl, ?_⟩
 refine cond_map (fun h => ?_) (fun h => ?_) h
 refine ⟨_, _, _, _, _, (o.at 2 rfl).whole, ?_⟩
 refine call_then (h _ w8 (o.mo hm (by simp) (.head _)) _ (GNode_in x)) ?_
 rintro _ w17 ⟨x5, h, rfl, ke3⟩
 obtain ⟨st16, o⟩ := o.dE ke3
 refine ⟨_, rfl, ?_⟩
 refine cond_map (fun h => ?_) (fun h => ?_) h
 exact ⟨h, o, st16⟩
 refine ⟨_, _, _, _, _, (o.at 2 rfl).whole, ?_⟩
 refine call_then (h _ w17 (o.mo hm (by simp) (.head _)) _ (GNode_in x)) ?_
 rintro _ w18 ⟨x6, h, rfl, ke4⟩
 obtain ⟨st17, o⟩ := o.dE ke4
 refine ⟨_, rfl, ?_⟩
 exact ⟨h, o, (st16.trans st17)⟩
 exact ⟨h, o, Step.refl _ _⟩
 rintro _ x4 w16 ⟨hJ, o, st15⟩
 have h := h2 x4 hJ
 refine cond_map (fun h => ?_) (fun h => ?_) h
 refine ⟨_, _, (o.at 0 rfl).whole, ?_⟩
 refine ⟨_, (o.at 2 rfl).cell rfl, ?_⟩
 have sT3 := ((((((st.trans st2).trans st3).trans st4).trans st5).trans st6).trans st7).trans st15
 refine call_then (h _ w16 (o.mo hm (by simp) (.head _)) _ _ le_l (f_l.st sT3) _ (GR09_Cur_in (⟨IntKind.i64.wrap (atx + 1), true⟩ : GR09_Cur))) ?_
 rintro _ w19 ⟨x7, h, ⟨cs4, rfl, f3⟩, ke5⟩
 obtain ⟨st18, o⟩ := o.dE ke5
 obtain rfl := GR09_Cur_out f3
 refine ⟨_, _, rfl, ?_⟩
 refine ⟨o.wr 3 rfl rfl, fun w20 hw20 => ?_⟩
 obtain ⟨st19, o⟩ := o.dSs 3 hw20 rfl
 refine ⟨_, _, (o.at 3 rfl).whole, ?_⟩
 exact ⟨x7, h, ⟨_, rfl, (GR09_Cur_in x7)⟩, o.done⟩
 exact ⟨0, false, h, o, st15⟩
 refine cond_map (fun h => ?_) (fun h => ?_) h
 obtain ⟨J2, h, h2⟩ := h
 refine ⟨fun x8 w21 => J2 x8 ∧ Mem w.heap.size [] m [([], w.heap.size, w)] [] w21 [.box b3 [.q (IntKind.i64.wrap (atx + 1)), .bool true], .box b2 [.q atx, .bool false], .box b1 [.q x.op, .s x.name, .q x.n, .q x.kids, .q x.at_], .box b [.q 0, .bool false]] ∧ Step (ms [.box b3 [.q (IntKind.i64.wrap (atx + 1)), .bool true], .box b2 [.q atx, .bool false], .box b1 [.q x.op, .s x.name, .q x.n, .q x.kids, .q x.at_], .box b [.q 0, .bool false]] m) w8 (ms [.box b3 [.q (IntKind.i64.wrap (atx + 1)), .bool true], .box b2 [.q atx, .bool false], .box b1 [.q x.op, .s x.name, .q x.n, .q x.kids, .q x.at_], .box b [.q 0, .bool false]] m) w21, ?_, ?_⟩
 refine ⟨_, (o.at 2 rfl).cell rfl, ?_⟩
 refine cond_map (fun h => ?_) (fun h => ?_) h
 refine ⟨_, (o.at 2 rfl).cell rfl, ?_⟩
 refine cond_map (fun h => ?_) (fun h => ?_) h
 refine ⟨_, _, _, _, _, (o.at 2 rfl).whole, ?_⟩
 refine ⟨_, (o.at 2 rfl).cell rfl, ?_⟩
 refine call_then (h _ w8 (o.mo hm (by simp) (.head _)) _ (GNode_in x)) ?_
 rintro _ w22 ⟨x9, h, rfl, ke6⟩
 obtain ⟨st21, o⟩ := o.dE ke6
 refine ⟨_, rfl, ?_⟩
 exact ⟨h, o, st21⟩
 exact ⟨h, o, Step.refl _ _⟩
 exact ⟨h, o, Step.refl _ _⟩
 rintro _ x8 w21 ⟨hJ, o, st20⟩
 have h := h2 x8 hJ
 refine cond_map (fun h => ?_) (fun h => ?_) h
 refine ⟨_, _, (o.at 0 rfl).whole, ?_⟩
 refine ⟨_, (o.at 2 rfl).cell rfl, ?_⟩
 have sT4 := ((((((st.trans st2).trans st3).trans st4).trans st5).trans st6).trans st7).trans st20
 refine call_then (h _ w21 (o.mo hm (by simp) (.head _)) _ _ le_l (f_l.st sT4) _ (GR09_Cur_in (⟨IntKind.i64.wrap (atx + 1), true⟩ : GR09_Cur))) ?_
 rintro _ w23 ⟨x10, h, ⟨cs5, rfl, f4⟩, ke7⟩
 obtain ⟨st22, o⟩ := o.dE ke7
 obtain rfl := GR09_Cur_out f4
 refine ⟨_, _, rfl, ?_⟩
 refine ⟨o.wr 3 rfl rfl, fun w24 hw24 => ?_⟩
 obtain ⟨st23, o⟩ := o.dSs 3 hw24 rfl
 refine ⟨_, _, (o.at 3 rfl).whole, ?_⟩
 exact ⟨x10, h, ⟨_, rfl, (GR09_Cur_in x10)⟩, o.done⟩
 exact ⟨0, false, h, o, st20⟩
 refine cond_map (fun h => ?_) (fun h => ?_) h
 obtain ⟨J3, h, h2⟩ := h
 refine ⟨fun x11 w25 => J3 x11 ∧ Mem w.heap.size [] m [([], w.heap.size, w)] [] w25 [.box b3 [.q (IntKind.i64.wrap (atx + 1)), .bool true], .box b2 [.q atx, .bool false], .box b1 [.q x.op, .s x.name, .q x.n, .q x.kids, .q x.at_], .box b [.q 0, .bool false]] ∧ Step (ms [.box b3 [.q (IntKind.i64.wrap (atx + 1)), .bool true], .box b2 [.q atx, .bool false], .box b1 [.q x.op, .s x.name, .q x.n, .q x.kids, .q x.at_], .box b [.q 0, .bool false]] m) w8 (ms [.box b3 [.q (IntKind.i64.wrap (atx + 1)), .bool true], .box b2 [.q atx, .bool false], .box b1 [.q x.op, .s x.name, .q x.n, .q x.kids, .q x.at_], .box b [.q 0, .bool false]] m) w25, ?_, ?_⟩
 refine ⟨_, (o.at 2 rfl).cell rfl, ?_⟩
 refine cond_map (fun h => ?_) (fun h => ?_) h
 refine ⟨_, _, _, _, _, (o.at 2 rfl).whole, ?_⟩
 refine call_then (h _ w8 (o.mo hm (by simp) (.head _)) _ (GNode_in x)) ?_
 rintro _ w26 ⟨x12, h, rfl, ke8⟩
 obtain ⟨st25, o⟩ := o.dE ke8
 refine ⟨_, rfl, ?_⟩
 exact ⟨h, o, st25⟩
 exact ⟨h, o, Step.refl _ _⟩
 rintro _ x11 w25 ⟨hJ, o, st24⟩
 have h := h2 x11 hJ
 refine cond_map (fun h => ?_) (fun h => ?_) h
 refine ⟨_, _, (o.at 0 rfl).whole, ?_⟩
 refine ⟨o.wr 3 rfl rfl, fun w27 hw27 => ?_⟩
 obtain ⟨st26, o⟩ := o.dSs 3 hw27 rfl
 refine ⟨_, _, (o.at 3 rfl).whole, ?_⟩
 exact ⟨(⟨IntKind.i64.wrap (atx + 1), true⟩ : GR09_Cur), h, ⟨_, rfl, (GR09_Cur_in (⟨IntKind.i64.wrap (atx + 1), true⟩ : GR09_Cur))⟩, o.done⟩
 exact ⟨0, false, h, o, st24⟩
 refine cond_map (fun h => ?_) (fun h => ?_) h
 obtain ⟨J4, h, h2⟩ := h
 refine ⟨fun x13 w28 => J4 x13 ∧ Mem w.heap.size [] m [([], w.heap.size, w)] [] w28 [.box b3 [.q (IntKind.i64.wrap (atx + 1)), .bool true], .box b2 [.q atx, .bool false], .box b1 [.q x.op, .s x.name, .q x.n, .q x.kids, .q x.at_], .box b [.q 0, .bool false]] ∧ Step (ms [.box b3 [.q (IntKind.i64.wrap (atx + 1)), .bool true], .box b2 [.q atx, .bool false], .box b1 [.q x.op, .s x.name, .q x.n, .q x.kids, .q x.at_], .box b [.q 0, .bool false]] m) w8 (ms [.box b3 [.q (IntKind.i64.wrap (atx + 1)), .bool true], .box b2 [.q atx, .bool false], .box b1 [.q x.op, .s x.name, .q x.n, .q x.kids, .q x.at_], .box b [.q 0, .bool false]] m) w28, ?_, ?_⟩
 refine ⟨_, (o.at 2 rfl).cell rfl, ?_⟩
 refine cond_map (fun h => ?_) (fun h => ?_) h
 refine ⟨_, (o.at 2 rfl).cell rfl, ?_⟩
 refine cond_map (fun h => ?_) (fun h => ?_) h
 refine ⟨_, _, _, _, _, (o.at 2 rfl).whole, ?_⟩
 refine ⟨_, (o.at 2 rfl).cell rfl, ?_⟩
 refine call_then (h _ w8 (o.mo hm (by simp) (.head _)) _ (GNode_in x)) ?_
 rintro _ w29 ⟨x14, h, rfl, ke9⟩
 obtain ⟨st28, o⟩ := o.dE ke9
 refine ⟨_, rfl, ?_⟩
 exact ⟨h, o, st28⟩
 exact ⟨h, o, Step.refl _ _⟩
 exact ⟨h, o, Step.refl _ _⟩
 rintro _ x13 w28 ⟨hJ, o, st27⟩
 have h := h2 x13 hJ
 refine cond_map (fun h => ?_) (fun h => ?_) h
 refine ⟨_, _, (o.at 0 rfl).whole, ?_⟩
 refine ⟨_, (o.at 2 rfl).cell rfl, ?_⟩
 have sT5 := ((((((st.trans st2).trans st3).trans st4).trans st5).trans st6).trans st7).trans st27
 refine call_then (h _ w28 (o.mo hm (by simp) (.head _)) _ _ le_l (f_l.st sT5) _ (GR09_Cur_in (⟨IntKind.i64.wrap (atx + 1), true⟩ : GR09_Cur))) ?_
 rintro _ w30 ⟨x15, h, ⟨cs6, rfl, f5⟩, ke10⟩
 obtain ⟨st29, o⟩ := o.dE ke10
 obtain rfl := GR09_Cur_out f5
 refine ⟨_, _, rfl, ?_⟩
 refine ⟨o.wr 3 rfl rfl, fun w31 hw31 => ?_⟩
 obtain ⟨st30, o⟩ := o.dSs 3 hw31 rfl
 refine ⟨_, _, (o.at 3 rfl).whole, ?_⟩
 exact ⟨x15, h, ⟨_, rfl, (GR09_Cur_in x15)⟩, o.done⟩
 exact ⟨0, false, h, o, st27⟩
 refine cond_map (fun h => ?_) (fun h => ?_) h
 refine ⟨_, (o.at 2 rfl).cell rfl, ?_⟩
 refine cond_map (fun h => ?_) (fun h => ?_) h
 obtain ⟨J5, h, h2⟩ := h
 refine ⟨fun x16 w32 => J5 x16 ∧ Mem w.heap.size [] m [([], w.heap.size, w)] [] w32 [.box b3 [.q (IntKind.i64.wrap (atx + 1)), .bool true], .box b2 [.q atx, .bool false], .box b1 [.q x.op, .s x.name, .q x.n, .q x.kids, .q x.at_], .box b [.q 0, .bool false]] ∧ Step (ms [.box b3 [.q (IntKind.i64.wrap (atx + 1)), .bool true], .box b2 [.q atx, .bool false], .box b1 [.q x.op, .s x.name, .q x.n, .q x.kids, .q x.at_], .box b [.q 0, .bool false]] m) w8 (ms [.box b3 [.q (IntKind.i64.wrap (atx + 1)), .bool true], .box b2 [.q atx, .bool false], .box b1 [.q x.op, .s x.name, .q x.n, .q x.kids, .q x.at_], .box b [.q 0, .bool false]] m) w32, ?_, ?_⟩
 refine ⟨_, (o.at 2 rfl).cell rfl, ?_⟩
 refine call_then (h _ w8 (o.mo hm (by simp) (.head _))) ?_
 rintro _ w33 ⟨x17, h, rfl, ke11⟩
 obtain ⟨st32, o⟩ := o.dE ke11
 refine ⟨_, rfl, ?_⟩
 refine cond_map (fun h => ?_) (fun h => ?_) h
 refine ⟨_, (o.at 2 rfl).cell rfl, ?_⟩
 refine cond_map (fun h => ?_) (fun h => ?_) h
 refine ⟨_, (o.at 2 rfl).cell rfl, ?_⟩
 refine cond_map (fun h => ?_) (fun h => ?_) h
 refine ⟨_, (o.at 2 rfl).cell rfl, ?_⟩
 exact ⟨h, o, st32⟩
 exact ⟨h, o, st32⟩
 exact ⟨h, o, st32⟩
 exact ⟨h, o, st32⟩
 rintro _ x16 w32 ⟨hJ, o, st31⟩
 have h := h2 x16 hJ
 refine cond_map (fun h => ?_) (fun h => ?_) h
 refine ⟨_, _, (o.at 0 rfl).whole, ?_⟩
 refine ⟨o.wr 3 rfl rfl, fun w34 hw34 => ?_⟩
 obtain ⟨st33, o⟩ := o.dSs 3 hw34 rfl
 refine ⟨_, _, (o.at 3 rfl).whole, ?_⟩
 exact ⟨(⟨IntKind.i64.wrap (atx + 1), true⟩ : GR09_Cur), h, ⟨_, rfl, (GR09_Cur_in (⟨IntKind.i64.wrap (atx + 1), true⟩ : GR09_Cur))⟩, o.done⟩
 exact ⟨0, false, h, o, st31⟩
 refine cond_map (fun h => ?_) (fun h => ?_) h
 refine ⟨_, _, _, _, _, (o.at 2 rfl).whole, ?_⟩
 refine call_then (h _ w8 (o.mo hm (by simp) (.head _)) _ (GNode_in x)) ?_
 rintro _ w35 ⟨x18, h, rfl, ke12⟩
 obtain ⟨st34, o⟩ := o.dE ke12
 refine ⟨_, rfl, ?_⟩
 refine cond_map (fun h => ?_) (fun h => ?_) h
 refine ⟨_, _, (o.at 0 rfl).whole, ?_⟩
 have sT6 := ((((((st.trans st2).trans st3).trans st4).trans st5).trans st6).trans st7).trans st34
 refine call_then (h _ w35 (o.mo hm (by simp) (.head _)) _ _ le_l (f_l.st sT6) _ (GR09_Cur_in (⟨IntKind.i64.wrap (atx + 1), true⟩ : GR09_Cur))) ?_
 rintro _ w36 ⟨x19, h, ⟨cs7, rfl, f6⟩, ke13⟩
 obtain ⟨st35, o⟩ := o.dE ke13
 obtain rfl := GR09_Cur_out f6
 refine ⟨_, _, rfl, ?_⟩
 refine ⟨o.wr 3 rfl rfl, fun w37 hw37 => ?_⟩
 obtain ⟨st36, o⟩ := o.dSs 3 hw37 rfl
 refine ⟨_, _, (o.at 3 rfl).whole, ?_⟩
 exact ⟨x19, h, ⟨_, rfl, (GR09_Cur_in x19)⟩, o.done⟩
 exact ⟨0, false, h, o, st34⟩
 refine cond_map (fun h => ?_) (fun h => ?_) h
 obtain ⟨J6, h, h2⟩ := h
 refine ⟨fun x20 w38 => J6 x20 ∧ Mem w.heap.size [] m [([], w.heap.size, w)] [] w38 [.box b3 [.q (IntKind.i64.wrap (atx + 1)), .bool true], .box b2 [.q atx, .bool false], .box b1 [.q x.op, .s x.name, .q x.n, .q x.kids, .q x.at_], .box b [.q 0, .bool false]] ∧ Step (ms [.box b3 [.q (IntKind.i64.wrap (atx + 1)), .bool true], .box b2 [.q atx, .bool false], .box b1 [.q x.op, .s x.name, .q x.n, .q x.kids, .q x.at_], .box b [.q 0, .bool false]] m) w8 (ms [.box b3 [.q (IntKind.i64.wrap (atx + 1)), .bool true], .box b2 [.q atx, .bool false], .box b1 [.q x.op, .s x.name, .q x.n, .q x.kids, .q x.at_], .box b [.q 0, .bool false]] m) w38, ?_, ?_⟩
 refine ⟨_, (o.at 2 rfl).cell rfl, ?_⟩
 refine cond_map (fun h => ?_) (fun h => ?_) h
 refine ⟨_, _, _, _, _, (o.at 2 rfl).whole, ?_⟩
 refine ⟨_, (o.at 2 rfl).cell rfl, ?_⟩
 refine call_then (h _ w8 (o.mo hm (by simp) (.head _)) _ (GNode_in x)) ?_
 rintro _ w39 ⟨x21, h, rfl, ke14⟩
 obtain ⟨st38, o⟩ := o.dE ke14
 refine ⟨_, rfl, ?_⟩
 exact ⟨h, o, st38⟩
 exact ⟨h, o, Step.refl _ _⟩
 rintro _ x20 w38 ⟨hJ, o, st37⟩
 have h := h2 x20 hJ
 refine cond_map (fun h => ?_) (fun h => ?_) h
 refine ⟨_, _, (o.at 0 rfl).whole, ?_⟩
 refine ⟨_, (o.at 2 rfl).cell rfl, ?_⟩
 have sT7 := ((((((st.trans st2).trans st3).trans st4).trans st5).trans st6).trans st7).trans st37
 refine call_then (h _ w38 (o.mo hm (by simp) (.head _)) _ _ le_l (f_l.st sT7) _ (GR09_Cur_in (⟨IntKind.i64.wrap (atx + 1), true⟩ : GR09_Cur))) ?_
 rintro _ w40 ⟨x22, h, ⟨cs8, rfl, f7⟩, ke15⟩
 obtain ⟨st39, o⟩ := o.dE ke15
 obtain rfl := GR09_Cur_out f7
 refine ⟨_, _, rfl, ?_⟩
 have sT8 := sT7.trans st39
 refine call_then (h _ w40 (o.mo hm (by simp) (.head _)) _ _ le_l (f_l.st sT8) _ (GR09_Cur_in x22)) ?_
 rintro _ w41 ⟨x23, h, ⟨cs9, rfl, f8⟩, ke16⟩
 obtain ⟨st40, o⟩ := o.dE ke16
 obtain rfl := GR09_Cur_out f8
 refine ⟨_, _, rfl, ?_⟩
 refine ⟨o.wr 3 rfl rfl, fun w42 hw42 => ?_⟩
 obtain ⟨st41, o⟩ := o.dSs 3 hw42 rfl
 refine ⟨_, _, (o.at 3 rfl).whole, ?_⟩
 exact ⟨x23, h, ⟨_, rfl, (GR09_Cur_in x23)⟩, o.done⟩
 exact ⟨0, false, h, o, st37⟩
 exact ⟨0, false, h, o, Step.refl _ _⟩
 exact ⟨0, false, h, o, Step.refl _ _⟩
 rintro _ w9 ⟨At, Ok, hJ, o, st8⟩
 have h := h2 At Ok hJ
 refine ⟨_, _, (o.at 1 rfl).whole, ?_⟩
 refine ⟨o.wr 3 rfl rfl, fun w43 hw43 => ?_⟩
 obtain ⟨st42, o⟩ := o.dSs 3 hw43 rfl
 refine ⟨_, _, (o.at 3 rfl).whole, ?_⟩
 exact ⟨(⟨atx, false⟩ : GR09_Cur), h, ⟨_, rfl, (GR09_Cur_in (⟨atx, false⟩ : GR09_Cur))⟩, o.done⟩
def R09_all_vwp (l : List GNode) (cq : GR09_Cur) (classx : List UInt8) (n : Int) (K : GR09_Cur → Prop) : Prop :=
 ∃ (I : Int → Int → Bool → Nat → Prop), (∃ n1, I 0 cq.at_ cq.ok n1) ∧
 ∀ (k : Int) (At : Int) (Ok : Bool) (n1 : Nat), I k At Ok n1 →
 ∃ (J : Bool → Prop),
 (cond (decide (k < n))
 (J Ok)
 (J false)) ∧
 ∀ (x : Bool), J x →
 cond (x)
 (V_R09_Piece l At classx (fun x1 =>
 ∃ n2, n2 < n1 ∧ I (IntKind.i64.wrap (k + 1)) x1.at_ x1.ok n2))
 (K (⟨At, Ok⟩ : GR09_Cur))
theorem R09_all_lift (l : List GNode) (cq : GR09_Cur) (classx : List UInt8) (n : Int) (K : GR09_Cur → Prop) (h : R09_all_vwp l cq classx n K) : V_R09_all l cq classx n K := by
 intro m w hm lA lC le_l f_l cqcs f_cq
 obtain rfl := GR09_Cur_out f_cq
 have o := Mem.start hm.lt
 refine R09_all_ok lA l.length lC _ _ classx n _ _ ?_
 intro b w1 hb hw1
 obtain ⟨st, o⟩ := o.dB hb hw1
 intro b1 w2 hb1 hw2
 obtain ⟨st1, o⟩ := o.dB hb1 hw2
 obtain ⟨I, ⟨n3, h⟩, h2⟩ := h
 obtain ⟨Z, hZ⟩ : ∃ Z : Int → World → Nat → Prop, Z = fun k w3 n1 => ∃ (At : Int) (Ok : Bool), I k At Ok n1 ∧ Mem w.heap.size [] m [([], w.heap.size, w)] [] w3 [.box b1 [.q 0, .bool false], .box b [.q At, .bool Ok]] ∧ Step (ms [.box b1 [.q 0, .bool false], .box b [.q cq.at_, .bool cq.ok]] m) w2 (ms [.box b1 [.q 0, .bool false], .box b [.q At, .bool Ok]] m) w3 := ⟨_, rfl⟩
 refine ⟨fun k w3 => ∃ n1, Z k w3 n1, fun k w3 => leastN (Z k w3), ⟨n3, ?_⟩, ?_⟩
 rw [hZ]; exact ⟨cq.at_, cq.ok, h, o, Step.refl _ _⟩
 intro _ k w3 hIZ
 obtain ⟨n1, hnn1⟩ : ∃ n1, n1 = leastN (Z k w3) := ⟨_, rfl⟩
 have hIZ := leastN_at hIZ
 rw [← hnn1, hZ] at hIZ
 obtain ⟨At, Ok, h, o, st2⟩ := hIZ
 have h := h2 k At Ok n1 h
 obtain ⟨J, h, h2⟩ := h
 refine ⟨fun x w4 => J x ∧ Mem w.heap.size [] m [([], w.heap.size, w)] [] w4 [.box b1 [.q 0, .bool false], .box b [.q At, .bool Ok]] ∧ Step (ms [.box b1 [.q 0, .bool false], .box b [.q At, .bool Ok]] m) w3 (ms [.box b1 [.q 0, .bool false], .box b [.q At, .bool Ok]] m) w4, ?_, ?_⟩
 refine cond_map (fun h => ?_) (fun h => ?_) h
 refine ⟨_, (o.at 1 rfl).cell rfl, ?_⟩
 exact ⟨h, o, Step.refl _ _⟩
 exact ⟨h, o, Step.refl _ _⟩
 rintro _ x w4 ⟨hJ, o, st3⟩
 have h := h2 x hJ
 refine cond_map (fun h => ?_) (fun h => ?_) h
 refine ⟨_, (o.at 1 rfl).cell rfl, ?_⟩
 have sT := ((st.trans st1).trans st2).trans st3
 refine call_then (h _ w4 (o.mo hm (by simp) (.head _)) _ _ le_l (f_l.st sT)) ?_
 rintro _ w5 ⟨x1, h, ⟨cs, rfl, f⟩, ke⟩
 obtain ⟨st4, o⟩ := o.dE ke
 obtain rfl := GR09_Cur_out f
 refine ⟨_, _, rfl, ?_⟩
 refine ⟨o.wr 1 rfl rfl, fun w6 hw6 => ?_⟩
 obtain ⟨st5, o⟩ := o.dSs 1 hw6 rfl
 obtain ⟨n2, hl, h⟩ := h
 have sT1 := ((st2.trans st3).trans st4).trans st5
 exact loop_again hnn1 (show Z _ w6 n2 from (by rw [hZ]; exact ⟨x1.at_, x1.ok, h, o, sT1⟩)) hl
 refine ⟨_, _, (o.at 1 rfl).whole, ?_⟩
 refine ⟨o.wr 0 rfl rfl, fun w7 hw7 => ?_⟩
 obtain ⟨st6, o⟩ := o.dSs 0 hw7 rfl
 refine ⟨_, _, (o.at 0 rfl).whole, ?_⟩
 exact ⟨(⟨At, Ok⟩ : GR09_Cur), h, ⟨_, rfl, (GR09_Cur_in (⟨At, Ok⟩ : GR09_Cur))⟩, o.done⟩
def R09_row_vwp (l : List GNode) (cq : GR09_Cur) (classes : List UInt8) (K : GR09_Cur → Prop) : Prop :=
 ∃ (I : Int → Int → Bool → Nat → Prop), (∃ n, I 0 cq.at_ cq.ok n) ∧
 ∀ (k : Int) (At : Int) (Ok : Bool) (n : Nat), I k At Ok n →
 ∃ (J : Bool → Prop),
 (cond (decide (k < (classes.length : Int)))
 (J Ok)
 (J false)) ∧
 ∀ (x : Bool), J x →
 cond (x)
 (∃ (J1 : Int → Bool → Prop),
 ((((0 : Int) ≤ (IntKind.i64.wrap (k + 1)) ∧ (IntKind.i64.wrap (k + 1)) ≤ (classes.length : Int)) ∧ (0 : Int) ≤ k ∧ k ≤ ((IntKind.i64.wrap (k + 1)).toNat : Int)) ∧
 V_R09_Piece l At ((classes.take (IntKind.i64.wrap (k + 1)).toNat).drop k.toNat) (fun x1 =>
 J1 x1.at_ x1.ok)) ∧
 ∀ (At1 : Int) (Ok1 : Bool), J1 At1 Ok1 →
 ∃ n1, n1 < n ∧ I (IntKind.i64.wrap (k + 1)) At1 Ok1 n1)
 (K (⟨At, Ok⟩ : GR09_Cur))
theorem R09_row_lift (l : List GNode) (cq : GR09_Cur) (classes : List UInt8) (K : GR09_Cur → Prop) (h : R09_row_vwp l cq classes K) : V_R09_row l cq classes K := by
 intro m w hm lA lC le_l f_l cqcs f_cq
 obtain rfl := GR09_Cur_out f_cq
 have o := Mem.start hm.lt
 refine R09_row_ok lA l.length lC _ _ classes _ _ ?_
 intro b w1 hb hw1
 obtain ⟨st, o⟩ := o.dB hb hw1
 intro b1 w2 hb1 hw2
 obtain ⟨st1, o⟩ := o.dB hb1 hw2
 obtain ⟨I, ⟨n2, h⟩, h2⟩ := h
 obtain ⟨Z, hZ⟩ : ∃ Z : Int → World → Nat → Prop, Z = fun k w3 n => ∃ (At : Int) (Ok : Bool), I k At Ok n ∧ Mem w.heap.size [] m [([], w.heap.size, w)] [] w3 [.box b1 [.q 0, .bool false], .box b [.q At, .bool Ok]] ∧ Step (ms [.box b1 [.q 0, .bool false], .box b [.q cq.at_, .bool cq.ok]] m) w2 (ms [.box b1 [.q 0, .bool false], .box b [.q At, .bool Ok]] m) w3 := ⟨_, rfl⟩
 refine ⟨fun k w3 => ∃ n, Z k w3 n, fun k w3 => leastN (Z k w3), ⟨n2, ?_⟩, ?_⟩
 rw [hZ]; exact ⟨cq.at_, cq.ok, h, o, Step.refl _ _⟩
 intro _ k w3 hIZ
 obtain ⟨n, hnn⟩ : ∃ n, n = leastN (Z k w3) := ⟨_, rfl⟩
 have hIZ := leastN_at hIZ
 rw [← hnn, hZ] at hIZ
 obtain ⟨At, Ok, h, o, st2⟩ := hIZ
 have h := h2 k At Ok n h
 obtain ⟨J, h, h2⟩ := h
 refine ⟨fun x w4 => J x ∧ Mem w.heap.size [] m [([], w.heap.size, w)] [] w4 [.box b1 [.q 0, .bool false], .box b [.q At, .bool Ok]] ∧ Step (ms [.box b1 [.q 0, .bool false], .box b [.q At, .bool Ok]] m) w3 (ms [.box b1 [.q 0, .bool false], .box b [.q At, .bool Ok]] m) w4, ?_, ?_⟩
 refine cond_map (fun h => ?_) (fun h => ?_) h
 refine ⟨_, (o.at 1 rfl).cell rfl, ?_⟩
 exact ⟨h, o, Step.refl _ _⟩
 exact ⟨h, o, Step.refl _ _⟩
 rintro _ x w4 ⟨hJ, o, st3⟩
 have h := h2 x hJ
 refine cond_map (fun h => ?_) (fun h => ?_) h
 obtain ⟨J1, h, h2⟩ := h
 refine ⟨fun w5 => ∃ (At1 : Int) (Ok1 : Bool), J1 At1 Ok1 ∧ Mem w.heap.size [] m [([], w.heap.size, w)] [] w5 [.box b1 [.q 0, .bool false], .box b [.q At1, .bool Ok1]] ∧ Step (ms [.box b1 [.q 0, .bool false], .box b [.q At, .bool Ok]] m) w4 (ms [.box b1 [.q 0, .bool false], .box b [.q At1, .bool Ok1]] m) w5, ?_, ?_⟩
 intro w6 hw6
 obtain ⟨st5, o⟩ := o.dD hw6
 refine ⟨_, (o.at 1 rfl).cell rfl, ?_⟩
 refine ⟨h.1, ?_⟩
 have h := And.right h
 have sT := (((st.trans st1).trans st2).trans st3).trans st5
 refine call_then (h _ w6 (o.mo hm (by simp) (.head _)) _ _ le_l (f_l.st sT)) ?_
 rintro _ w7 ⟨x1, h, ⟨cs, rfl, f⟩, ke⟩
 obtain ⟨st6, o⟩ := o.dE ke
 obtain rfl := GR09_Cur_out f
 refine ⟨_, _, rfl, ?_⟩
 refine ⟨o.wr 1 rfl rfl, fun w8 hw8 => ?_⟩
 obtain ⟨st7, o⟩ := o.dSs 1 hw8 rfl
 have sT1 := (st5.trans st6).trans st7
 exact ⟨x1.at_, x1.ok, h, o, sT1⟩
 rintro _ w5 ⟨At1, Ok1, hJ, o, st4⟩
 have h := h2 At1 Ok1 hJ
 obtain ⟨n1, hl, h⟩ := h
 have sT2 := (st2.trans st3).trans st4
 exact loop_again hnn (show Z _ w5 n1 from (by rw [hZ]; exact ⟨At1, Ok1, h, o, sT2⟩)) hl
 refine ⟨_, _, (o.at 1 rfl).whole, ?_⟩
 refine ⟨o.wr 0 rfl rfl, fun w9 hw9 => ?_⟩
 obtain ⟨st8, o⟩ := o.dSs 0 hw9 rfl
 refine ⟨_, _, (o.at 0 rfl).whole, ?_⟩
 exact ⟨(⟨At, Ok⟩ : GR09_Cur), h, ⟨_, rfl, (GR09_Cur_in (⟨At, Ok⟩ : GR09_Cur))⟩, o.done⟩
def R09_term_vwp (l : List GNode) (xq : GNode) (no : GR09_Cur) (inx : GR09_Cur) (K : GR09_Cur → Prop) : Prop :=
 ∃ (J : Bool → Prop),
 (cond (xq.op == 1)
 (cond (xq.name == [])
 (cond (xq.kids == 0)
 (cond (decide (xq.n ≥ 0))
 (J (decide (xq.n ≤ 999999999999999999)))
 (J false))
 (J false))
 (J false))
 (J false)) ∧
 ∀ (x : Bool), J x →
 cond (x)
 (K inx)
 (∃ (J1 : Bool → Prop),
 (cond (xq.op == 2)
 (V_R09_name xq 0 (fun x2 =>
 J1 x2))
 (J1 false)) ∧
 ∀ (x1 : Bool), J1 x1 →
 cond (x1)
 (K inx)
 (∃ (J2 : Bool → Prop),
 (cond (xq.op == 3)
 (V_R09_bare xq 1 (fun x4 =>
 J2 x4))
 (cond (xq.op == 4)
 (V_R09_bare xq 1 (fun x5 =>
 J2 x5))
 (J2 false))) ∧
 ∀ (x3 : Bool), J2 x3 →
 cond (x3)
 (V_R09_row l inx [69] (fun x6 =>
 K x6))
 (∃ (J3 : Bool → Prop),
 (cond (decide (xq.op ≥ 5))
 (cond (decide (xq.op ≤ 17))
 (V_R09_bare xq 2 (fun x8 =>
 J3 x8))
 (J3 false))
 (J3 false)) ∧
 ∀ (x7 : Bool), J3 x7 →
 cond (x7)
 (V_R09_row l inx [69, 69] (fun x9 =>
 K x9))
 (K no))))
set_option maxHeartbeats 4000000 in
theorem R09_term_lift (l : List GNode) (xq : GNode) (no : GR09_Cur) (inx : GR09_Cur) (K : GR09_Cur → Prop) (h : R09_term_vwp l xq no inx K) : V_R09_term l xq no inx K := by
 intro m w hm lA lC le_l f_l xqcs f_xq nocs f_no inxcs f_inx
 obtain rfl := GNode_out f_xq
 obtain rfl := GR09_Cur_out f_no
 obtain rfl := GR09_Cur_out f_inx
 have o := Mem.start hm.lt
 refine R09_term_ok lA l.length lC _ _ _ _ _ _ _ _ _ _ _ ?_
 intro b w1 hb hw1
 obtain ⟨st, o⟩ := o.dB hb hw1
 intro b1 w2 hb1 hw2
 obtain ⟨st1, o⟩ := o.dB hb1 hw2
 intro b2 w3 hb2 hw3
 obtain ⟨st2, o⟩ := o.dB hb2 hw3
 intro b3 w4 hb3 hw4
 obtain ⟨st3, o⟩ := o.dB hb3 hw4
 obtain ⟨J, h, h2⟩ := h
 refine ⟨fun x w5 => J x ∧ Mem w.heap.size [] m [([], w.heap.size, w)] [] w5 [.box b3 [.q 0, .bool false], .box b2 [.q inx.at_, .bool inx.ok], .box b1 [.q no.at_, .bool no.ok], .box b [.q xq.op, .s xq.name, .q xq.n, .q xq.kids, .q xq.at_]] ∧ Step (ms [.box b3 [.q 0, .bool false], .box b2 [.q inx.at_, .bool inx.ok], .box b1 [.q no.at_, .bool no.ok], .box b [.q xq.op, .s xq.name, .q xq.n, .q xq.kids, .q xq.at_]] m) w4 (ms [.box b3 [.q 0, .bool false], .box b2 [.q inx.at_, .bool inx.ok], .box b1 [.q no.at_, .bool no.ok], .box b [.q xq.op, .s xq.name, .q xq.n, .q xq.kids, .q xq.at_]] m) w5, ?_, ?_⟩
 refine ⟨_, (o.at 3 rfl).cell rfl, ?_⟩
 refine cond_map (fun h => ?_) (fun h => ?_) h
 refine ⟨_, (o.at 3 rfl).cell rfl, ?_⟩
 refine cond_map (fun h => ?_) (fun h => ?_) h
 refine ⟨_, (o.at 3 rfl).cell rfl, ?_⟩
 refine cond_map (fun h => ?_) (fun h => ?_) h
 refine ⟨_, (o.at 3 rfl).cell rfl, ?_⟩
 refine cond_map (fun h => ?_) (fun h => ?_) h
 refine ⟨_, (o.at 3 rfl).cell rfl, ?_⟩
 exact ⟨h, o, Step.refl _ _⟩
 exact ⟨h, o, Step.refl _ _⟩
 exact ⟨h, o, Step.refl _ _⟩
 exact ⟨h, o, Step.refl _ _⟩
 exact ⟨h, o, Step.refl _ _⟩
 rintro _ x w5 ⟨hJ, o, st4⟩
 have h := h2 x hJ
 refine cond_map (fun h => ?_) (fun h => ?_) h
 refine ⟨_, _, (o.at 1 rfl).whole, ?_⟩
 refine ⟨o.wr 0 rfl rfl, fun w6 hw6 => ?_⟩
 obtain ⟨st5, o⟩ := o.dSs 0 hw6 rfl
 refine ⟨_, _, (o.at 0 rfl).whole, ?_⟩
 exact ⟨inx, h, ⟨_, rfl, (GR09_Cur_in inx)⟩, o.done⟩
 obtain ⟨J1, h, h2⟩ := h
 refine ⟨fun x1 w7 => J1 x1 ∧ Mem w.heap.size [] m [([], w.heap.size, w)] [] w7 [.box b3 [.q 0, .bool false], .box b2 [.q inx.at_, .bool inx.ok], .box b1 [.q no.at_, .bool no.ok], .box b [.q xq.op, .s xq.name, .q xq.n, .q xq.kids, .q xq.at_]] ∧ Step (ms [.box b3 [.q 0, .bool false], .box b2 [.q inx.at_, .bool inx.ok], .box b1 [.q no.at_, .bool no.ok], .box b [.q xq.op, .s xq.name, .q xq.n, .q xq.kids, .q xq.at_]] m) w5 (ms [.box b3 [.q 0, .bool false], .box b2 [.q inx.at_, .bool inx.ok], .box b1 [.q no.at_, .bool no.ok], .box b [.q xq.op, .s xq.name, .q xq.n, .q xq.kids, .q xq.at_]] m) w7, ?_, ?_⟩
 refine ⟨_, (o.at 3 rfl).cell rfl, ?_⟩
 refine cond_map (fun h => ?_) (fun h => ?_) h
 refine ⟨_, _, _, _, _, (o.at 3 rfl).whole, ?_⟩
 refine call_then (h _ w5 (o.mo hm (by simp) (.head _)) _ (GNode_in xq)) ?_
 rintro _ w8 ⟨x2, h, rfl, ke⟩
 obtain ⟨st7, o⟩ := o.dE ke
 refine ⟨_, rfl, ?_⟩
 exact ⟨h, o, st7⟩
 exact ⟨h, o, Step.refl _ _⟩
 rintro _ x1 w7 ⟨hJ, o, st6⟩
 have h := h2 x1 hJ
 refine cond_map (fun h => ?_) (fun h => ?_) h
 refine ⟨_, _, (o.at 1 rfl).whole, ?_⟩
 refine ⟨o.wr 0 rfl rfl, fun w9 hw9 => ?_⟩
 obtain ⟨st8, o⟩ := o.dSs 0 hw9 rfl
 refine ⟨_, _, (o.at 0 rfl).whole, ?_⟩
 exact ⟨inx, h, ⟨_, rfl, (GR09_Cur_in inx)⟩, o.done⟩
 obtain ⟨J2, h, h2⟩ := h
 refine ⟨fun x3 w10 => J2 x3 ∧ Mem w.heap.size [] m [([], w.heap.size, w)] [] w10 [.box b3 [.q 0, .bool false], .box b2 [.q inx.at_, .bool inx.ok], .box b1 [.q no.at_, .bool no.ok], .box b [.q xq.op, .s xq.name, .q xq.n, .q xq.kids, .q xq.at_]] ∧ Step (ms [.box b3 [.q 0, .bool false], .box b2 [.q inx.at_, .bool inx.ok], .box b1 [.q no.at_, .bool no.ok], .box b [.q xq.op, .s xq.name, .q xq.n, .q xq.kids, .q xq.at_]] m) w7 (ms [.box b3 [.q 0, .bool false], .box b2 [.q inx.at_, .bool inx.ok], .box b1 [.q no.at_, .bool no.ok], .box b [.q xq.op, .s xq.name, .q xq.n, .q xq.kids, .q xq.at_]] m) w10, ?_, ?_⟩
 refine ⟨_, (o.at 3 rfl).cell rfl, ?_⟩
 refine cond_map (fun h => ?_) (fun h => ?_) h
 refine ⟨_, _, _, _, _, (o.at 3 rfl).whole, ?_⟩
 refine call_then (h _ w7 (o.mo hm (by simp) (.head _)) _ (GNode_in xq)) ?_
 rintro _ w11 ⟨x4, h, rfl, ke1⟩
 obtain ⟨st10, o⟩ := o.dE ke1
 refine ⟨_, rfl, ?_⟩
 exact ⟨h, o, st10⟩
 refine ⟨_, (o.at 3 rfl).cell rfl, ?_⟩
 refine cond_map (fun h => ?_) (fun h => ?_) h
 refine ⟨_, _, _, _, _, (o.at 3 rfl).whole, ?_⟩
 refine call_then (h _ w7 (o.mo hm (by simp) (.head _)) _ (GNode_in xq)) ?_
 rintro _ w12 ⟨x5, h, rfl, ke2⟩
 obtain ⟨st11, o⟩ := o.dE ke2
 refine ⟨_, rfl, ?_⟩
 exact ⟨h, o, st11⟩
 exact ⟨h, o, Step.refl _ _⟩
 rintro _ x3 w10 ⟨hJ, o, st9⟩
 have h := h2 x3 hJ
 refine cond_map (fun h => ?_) (fun h => ?_) h
 refine ⟨_, _, (o.at 1 rfl).whole, ?_⟩
 have sT := (((((st.trans st1).trans st2).trans st3).trans st4).trans st6).trans st9
 refine call_then (h _ w10 (o.mo hm (by simp) (.head _)) _ _ le_l (f_l.st sT) _ (GR09_Cur_in inx)) ?_
 rintro _ w13 ⟨x6, h, ⟨cs, rfl, f⟩, ke3⟩
 obtain ⟨st12, o⟩ := o.dE ke3
 obtain rfl := GR09_Cur_out f
 refine ⟨_, _, rfl, ?_⟩
 refine ⟨o.wr 0 rfl rfl, fun w14 hw14 => ?_⟩
 obtain ⟨st13, o⟩ := o.dSs 0 hw14 rfl
 refine ⟨_, _, (o.at 0 rfl).whole, ?_⟩
 exact ⟨x6, h, ⟨_, rfl, (GR09_Cur_in x6)⟩, o.done⟩
 obtain ⟨J3, h, h2⟩ := h
 refine ⟨fun x7 w15 => J3 x7 ∧ Mem w.heap.size [] m [([], w.heap.size, w)] [] w15 [.box b3 [.q 0, .bool false], .box b2 [.q inx.at_, .bool inx.ok], .box b1 [.q no.at_, .bool no.ok], .box b [.q xq.op, .s xq.name, .q xq.n, .q xq.kids, .q xq.at_]] ∧ Step (ms [.box b3 [.q 0, .bool false], .box b2 [.q inx.at_, .bool inx.ok], .box b1 [.q no.at_, .bool no.ok], .box b [.q xq.op, .s xq.name, .q xq.n, .q xq.kids, .q xq.at_]] m) w10 (ms [.box b3 [.q 0, .bool false], .box b2 [.q inx.at_, .bool inx.ok], .box b1 [.q no.at_, .bool no.ok], .box b [.q xq.op, .s xq.name, .q xq.n, .q xq.kids, .q xq.at_]] m) w15, ?_, ?_⟩
 refine ⟨_, (o.at 3 rfl).cell rfl, ?_⟩
 refine cond_map (fun h => ?_) (fun h => ?_) h
 refine ⟨_, (o.at 3 rfl).cell rfl, ?_⟩
 refine cond_map (fun h => ?_) (fun h => ?_) h
 refine ⟨_, _, _, _, _, (o.at 3 rfl).whole, ?_⟩
 refine call_then (h _ w10 (o.mo hm (by simp) (.head _)) _ (GNode_in xq)) ?_
 rintro _ w16 ⟨x8, h, rfl, ke4⟩
 obtain ⟨st15, o⟩ := o.dE ke4
 refine ⟨_, rfl, ?_⟩
 exact ⟨h, o, st15⟩
 exact ⟨h, o, Step.refl _ _⟩
 exact ⟨h, o, Step.refl _ _⟩
 rintro _ x7 w15 ⟨hJ, o, st14⟩
 have h := h2 x7 hJ
 refine cond_map (fun h => ?_) (fun h => ?_) h
 refine ⟨_, _, (o.at 1 rfl).whole, ?_⟩
 have sT1 := ((((((st.trans st1).trans st2).trans st3).trans st4).trans st6).trans st9).trans st14
 refine call_then (h _ w15 (o.mo hm (by simp) (.head _)) _ _ le_l (f_l.st sT1) _ (GR09_Cur_in inx)) ?_
 rintro _ w17 ⟨x9, h, ⟨cs1, rfl, f1⟩, ke5⟩
 obtain ⟨st16, o⟩ := o.dE ke5
 obtain rfl := GR09_Cur_out f1
 refine ⟨_, _, rfl, ?_⟩
 refine ⟨o.wr 0 rfl rfl, fun w18 hw18 => ?_⟩
 obtain ⟨st17, o⟩ := o.dSs 0 hw18 rfl
 refine ⟨_, _, (o.at 0 rfl).whole, ?_⟩
 exact ⟨x9, h, ⟨_, rfl, (GR09_Cur_in x9)⟩, o.done⟩
 refine ⟨_, _, (o.at 2 rfl).whole, ?_⟩
 refine ⟨o.wr 0 rfl rfl, fun w19 hw19 => ?_⟩
 obtain ⟨st18, o⟩ := o.dSs 0 hw19 rfl
 refine ⟨_, _, (o.at 0 rfl).whole, ?_⟩
 exact ⟨no, h, ⟨_, rfl, (GR09_Cur_in no)⟩, o.done⟩
def R09_stmt_vwp (l : List GNode) (xq : GNode) (no : GR09_Cur) (inx : GR09_Cur) (K : GR09_Cur → Prop) : Prop :=
 ∃ (J : Int → Bool → Prop),
 (∃ (J1 : Bool → Prop),
 (cond (xq.op == 18)
 (J1 (xq.op == 18))
 (cond (xq.op == 19)
 (J1 (xq.op == 19))
 (J1 (xq.op == 20)))) ∧
 ∀ (x : Bool), J1 x →
 cond (x)
 (V_R09_name xq 1 (fun x1 =>
 cond (x1)
 (V_R09_row l inx [69] (fun x2 =>
 K x2))
 (J 0 false)))
 (cond (xq.op == 21)
 (V_R09_bare xq 2 (fun x3 =>
 cond (x3)
 (V_R09_row l inx [82, 69] (fun x4 =>
 K x4))
 (J 0 false)))
 (cond (xq.op == 22)
 (V_R09_name xq 1 (fun x5 =>
 cond (x5)
 (V_R09_row l inx [82] (fun x6 =>
 K x6))
 (J 0 false)))
 (cond (xq.op == 23)
 (V_R09_bare xq 2 (fun x7 =>
 cond (x7)
 (V_R09_row l inx [69, 66] (fun x8 =>
 K x8))
 (V_R09_bare xq 3 (fun x9 =>
 cond (x9)
 (V_R09_row l inx [69, 66, 66] (fun x10 =>
 K x10))
 (J 0 false)))))
 (cond (xq.op == 24)
 (V_R09_bare xq 2 (fun x11 =>
 cond (x11)
 (V_R09_row l inx [69, 66] (fun x12 =>
 K x12))
 (J 0 false)))
 (cond (xq.op == 25)
 (∃ (J2 : Bool → Prop),
 (cond (decide (xq.kids ≥ 1))
 (V_R09_bare xq xq.kids (fun x14 =>
 J2 x14))
 (J2 false)) ∧
 ∀ (x13 : Bool), J2 x13 →
 cond (x13)
 (V_R09_all l inx [67] xq.kids (fun x15 =>
 K x15))
 (J 0 false))
 (cond (xq.op == 26)
 (∃ (J3 : Bool → Prop),
 (cond (decide (xq.kids ≥ 0))
 (V_R09_name xq xq.kids (fun x17 =>
 J3 x17))
 (J3 false)) ∧
 ∀ (x16 : Bool), J3 x16 →
 cond (x16)
 (V_R09_all l inx [69] xq.kids (fun x18 =>
 K x18))
 (J 0 false))
 (∃ (J4 : Bool → Prop),
 (cond (xq.op == 27)
 (J4 (xq.op == 27))
 (cond (xq.op == 28)
 (J4 (xq.op == 28))
 (J4 (xq.op == 29)))) ∧
 ∀ (x19 : Bool), J4 x19 →
 cond (x19)
 (V_R09_bare xq 1 (fun x20 =>
 cond (x20)
 (V_R09_row l inx [69] (fun x21 =>
 K x21))
 (J 0 false)))
 (∃ (J5 : Bool → Prop),
 (cond (xq.op == 30)
 (J5 (xq.op == 30))
 (J5 (xq.op == 31))) ∧
 ∀ (x22 : Bool), J5 x22 →
 cond (x22)
 (V_R09_bare xq 0 (fun x23 =>
 cond (x23)
 (K inx)
 (J 0 false)))
 (J 0 false)))))))))) ∧
 ∀ (At : Int) (Ok : Bool), J At Ok →
 K no
set_option maxHeartbeats 4000000 in
theorem R09_stmt_lift (l : List GNode) (xq : GNode) (no : GR09_Cur) (inx : GR09_Cur) (K : GR09_Cur → Prop) (h : R09_stmt_vwp l xq no inx K) : V_R09_stmt l xq no inx K := by
 intro m w hm lA lC le_l f_l xqcs f_xq nocs f_no inxcs f_inx
 obtain rfl := GNode_out f_xq
 obtain rfl := GR09_Cur_out f_no
 obtain rfl := GR09_Cur_out f_inx
 have o := Mem.start hm.lt
 refine R09_stmt_ok lA l.length lC _ _ _ _ _ _ _ _ _ _ _ ?_
 intro b w1 hb hw1
 obtain ⟨st, o⟩ := o.dB hb hw1
 intro b1 w2 hb1 hw2
 obtain ⟨st1, o⟩ := o.dB hb1 hw2
 intro b2 w3 hb2 hw3
 obtain ⟨st2, o⟩ := o.dB hb2 hw3
 intro b3 w4 hb3 hw4
 obtain ⟨st3, o⟩ := o.dB hb3 hw4
 obtain ⟨J, h, h2⟩ := h
 refine ⟨fun w5 => ∃ (At : Int) (Ok : Bool), J At Ok ∧ Mem w.heap.size [] m [([], w.heap.size, w)] [] w5 [.box b3 [.q At, .bool Ok], .box b2 [.q inx.at_, .bool inx.ok], .box b1 [.q no.at_, .bool no.ok], .box b [.q xq.op, .s xq.name, .q xq.n, .q xq.kids, .q xq.at_]] ∧ Step (ms [.box b3 [.q 0, .bool false], .box b2 [.q inx.at_, .bool inx.ok], .box b1 [.q no.at_, .bool no.ok], .box b [.q xq.op, .s xq.name, .q xq.n, .q xq.kids, .q xq.at_]] m) w4 (ms [.box b3 [.q At, .bool Ok], .box b2 [.q inx.at_, .bool inx.ok], .box b1 [.q no.at_, .bool no.ok], .box b [.q xq.op, .s xq.name, .q xq.n, .q xq.kids, .q xq.at_]] m) w5, ?_, ?_⟩
 refine ⟨_, (o.at 3 rfl).cell rfl, ?_⟩
 obtain ⟨J1, h, h2⟩ := h
 refine ⟨fun x w6 => J1 x ∧ Mem w.heap.size [] m [([], w.heap.size, w)] [] w6 [.box b3 [.q 0, .bool false], .box b2 [.q inx.at_, .bool inx.ok], .box b1 [.q no.at_, .bool no.ok], .box b [.q xq.op, .s xq.name, .q xq.n, .q xq.kids, .q xq.at_]] ∧ Step (ms [.box b3 [.q 0, .bool false], .box b2 [.q inx.at_, .bool inx.ok], .box b1 [.q no.at_, .bool no.ok], .box b [.q xq.op, .s xq.name, .q xq.n, .q xq.kids, .q xq.at_]] m) w4 (ms [.box b3 [.q 0, .bool false], .box b2 [.q inx.at_, .bool inx.ok], .box b1 [.q no.at_, .bool no.ok], .box b [.q xq.op, .s xq.name, .q xq.n, .q xq.kids, .q xq.at_]] m) w6, ?_, ?_⟩
 refine cond_map (fun h => ?_) (fun h => ?_) h
 exact ⟨h, o, Step.refl _ _⟩
 refine cond_map (fun h => ?_) (fun h => ?_) h
 exact ⟨h, o, Step.refl _ _⟩
 exact ⟨h, o, Step.refl _ _⟩
 rintro _ x w6 ⟨hJ, o, st5⟩
 have h := h2 x hJ
 refine cond_map (fun h => ?_) (fun h => ?_) h
 refine ⟨_, _, _, _, _, (o.at 3 rfl).whole, ?_⟩
 refine call_then (h _ w6 (o.mo hm (by simp) (.head _)) _ (GNode_in xq)) ?_
 rintro _ w7 ⟨x1, h, rfl, ke⟩
 obtain ⟨st6, o⟩ := o.dE ke
 refine ⟨_, rfl, ?_⟩
 refine cond_map (fun h => ?_) (fun h => ?_) h
 refine ⟨_, _, (o.at 1 rfl).whole, ?_⟩
 have sT := ((((st.trans st1).trans st2).trans st3).trans st5).trans st6
 refine call_then (h _ w7 (o.mo hm (by simp) (.head _)) _ _ le_l (f_l.st sT) _ (GR09_Cur_in inx)) ?_
 rintro _ w8 ⟨x2, h, ⟨cs, rfl, f⟩, ke1⟩
 obtain ⟨st7, o⟩ := o.dE ke1
 obtain rfl := GR09_Cur_out f
 refine ⟨_, _, rfl, ?_⟩
 refine ⟨o.wr 0 rfl rfl, fun w9 hw9 => ?_⟩
 obtain ⟨st8, o⟩ := o.dSs 0 hw9 rfl
 refine ⟨_, _, (o.at 0 rfl).whole, ?_⟩
 exact ⟨x2, h, ⟨_, rfl, (GR09_Cur_in x2)⟩, o.done⟩
 exact ⟨0, false, h, o, (st5.trans st6)⟩
 refine cond_map (fun h => ?_) (fun h => ?_) h
 refine ⟨_, _, _, _, _, (o.at 3 rfl).whole, ?_⟩
 refine call_then (h _ w6 (o.mo hm (by simp) (.head _)) _ (GNode_in xq)) ?_
 rintro _ w10 ⟨x3, h, rfl, ke2⟩
 obtain ⟨st9, o⟩ := o.dE ke2
 refine ⟨_, rfl, ?_⟩
 refine cond_map (fun h => ?_) (fun h => ?_) h
 refine ⟨_, _, (o.at 1 rfl).whole, ?_⟩
 have sT1 := ((((st.trans st1).trans st2).trans st3).trans st5).trans st9
 refine call_then (h _ w10 (o.mo hm (by simp) (.head _)) _ _ le_l (f_l.st sT1) _ (GR09_Cur_in inx)) ?_
 rintro _ w11 ⟨x4, h, ⟨cs1, rfl, f1⟩, ke3⟩
 obtain ⟨st10, o⟩ := o.dE ke3
 obtain rfl := GR09_Cur_out f1
 refine ⟨_, _, rfl, ?_⟩
 refine ⟨o.wr 0 rfl rfl, fun w12 hw12 => ?_⟩
 obtain ⟨st11, o⟩ := o.dSs 0 hw12 rfl
 refine ⟨_, _, (o.at 0 rfl).whole, ?_⟩
 exact ⟨x4, h, ⟨_, rfl, (GR09_Cur_in x4)⟩, o.done⟩
 exact ⟨0, false, h, o, (st5.trans st9)⟩
 refine cond_map (fun h => ?_) (fun h => ?_) h
 refine ⟨_, _, _, _, _, (o.at 3 rfl).whole, ?_⟩
 refine call_then (h _ w6 (o.mo hm (by simp) (.head _)) _ (GNode_in xq)) ?_
 rintro _ w13 ⟨x5, h, rfl, ke4⟩
 obtain ⟨st12, o⟩ := o.dE ke4
 refine ⟨_, rfl, ?_⟩
 refine cond_map (fun h => ?_) (fun h => ?_) h
 refine ⟨_, _, (o.at 1 rfl).whole, ?_⟩
 have sT2 := ((((st.trans st1).trans st2).trans st3).trans st5).trans st12
 refine call_then (h _ w13 (o.mo hm (by simp) (.head _)) _ _ le_l (f_l.st sT2) _ (GR09_Cur_in inx)) ?_
 rintro _ w14 ⟨x6, h, ⟨cs2, rfl, f2⟩, ke5⟩
 obtain ⟨st13, o⟩ := o.dE ke5
 obtain rfl := GR09_Cur_out f2
 refine ⟨_, _, rfl, ?_⟩
 refine ⟨o.wr 0 rfl rfl, fun w15 hw15 => ?_⟩
 obtain ⟨st14, o⟩ := o.dSs 0 hw15 rfl
 refine ⟨_, _, (o.at 0 rfl).whole, ?_⟩
 exact ⟨x6, h, ⟨_, rfl, (GR09_Cur_in x6)⟩, o.done⟩
 exact ⟨0, false, h, o, (st5.trans st12)⟩
 refine cond_map (fun h => ?_) (fun h => ?_) h
 refine ⟨_, _, _, _, _, (o.at 3 rfl).whole, ?_⟩
 refine call_then (h _ w6 (o.mo hm (by simp) (.head _)) _ (GNode_in xq)) ?_
 rintro _ w16 ⟨x7, h, rfl, ke6⟩
 obtain ⟨st15, o⟩ := o.dE ke6
 refine ⟨_, rfl, ?_⟩
 refine cond_map (fun h => ?_) (fun h => ?_) h
 refine ⟨_, _, (o.at 1 rfl).whole, ?_⟩
 have sT3 := ((((st.trans st1).trans st2).trans st3).trans st5).trans st15
 refine call_then (h _ w16 (o.mo hm (by simp) (.head _)) _ _ le_l (f_l.st sT3) _ (GR09_Cur_in inx)) ?_
 rintro _ w17 ⟨x8, h, ⟨cs3, rfl, f3⟩, ke7⟩
 obtain ⟨st16, o⟩ := o.dE ke7
 obtain rfl := GR09_Cur_out f3
 refine ⟨_, _, rfl, ?_⟩
 refine ⟨o.wr 0 rfl rfl, fun w18 hw18 => ?_⟩
 obtain ⟨st17, o⟩ := o.dSs 0 hw18 rfl
 refine ⟨_, _, (o.at 0 rfl).whole, ?_⟩
 exact ⟨x8, h, ⟨_, rfl, (GR09_Cur_in x8)⟩, o.done⟩
 refine ⟨_, _, _, _, _, (o.at 3 rfl).whole, ?_⟩
 refine call_then (h _ w16 (o.mo hm (by simp) (.head _)) _ (GNode_in xq)) ?_
 rintro _ w19 ⟨x9, h, rfl, ke8⟩
 obtain ⟨st18, o⟩ := o.dE ke8
 refine ⟨_, rfl, ?_⟩
 refine cond_map (fun h => ?_) (fun h => ?_) h
 refine ⟨_, _, (o.at 1 rfl).whole, ?_⟩
 have sT4 := (((((st.trans st1).trans st2).trans st3).trans st5).trans st15).trans st18
 refine call_then (h _ w19 (o.mo hm (by simp) (.head _)) _ _ le_l (f_l.st sT4) _ (GR09_Cur_in inx)) ?_
 rintro _ w20 ⟨x10, h, ⟨cs4, rfl, f4⟩, ke9⟩
 obtain ⟨st19, o⟩ := o.dE ke9
 obtain rfl := GR09_Cur_out f4
 refine ⟨_, _, rfl, ?_⟩
 refine ⟨o.wr 0 rfl rfl, fun w21 hw21 => ?_⟩
 obtain ⟨st20, o⟩ := o.dSs 0 hw21 rfl
 refine ⟨_, _, (o.at 0 rfl).whole, ?_⟩
 exact ⟨x10, h, ⟨_, rfl, (GR09_Cur_in x10)⟩, o.done⟩
 have sT5 := (st5.trans st15).trans st18
 exact ⟨0, false, h, o, sT5⟩
 refine cond_map (fun h => ?_) (fun h => ?_) h
 refine ⟨_, _, _, _, _, (o.at 3 rfl).whole, ?_⟩
 refine call_then (h _ w6 (o.mo hm (by simp) (.head _)) _ (GNode_in xq)) ?_
 rintro _ w22 ⟨x11, h, rfl, ke10⟩
 obtain ⟨st21, o⟩ := o.dE ke10
 refine ⟨_, rfl, ?_⟩
 refine cond_map (fun h => ?_) (fun h => ?_) h
 refine ⟨_, _, (o.at 1 rfl).whole, ?_⟩
 have sT6 := ((((st.trans st1).trans st2).trans st3).trans st5).trans st21
 refine call_then (h _ w22 (o.mo hm (by simp) (.head _)) _ _ le_l (f_l.st sT6) _ (GR09_Cur_in inx)) ?_
 rintro _ w23 ⟨x12, h, ⟨cs5, rfl, f5⟩, ke11⟩
 obtain ⟨st22, o⟩ := o.dE ke11
 obtain rfl := GR09_Cur_out f5
 refine ⟨_, _, rfl, ?_⟩
 refine ⟨o.wr 0 rfl rfl, fun w24 hw24 => ?_⟩
 obtain ⟨st23, o⟩ := o.dSs 0 hw24 rfl
 refine ⟨_, _, (o.at 0 rfl).whole, ?_⟩
 exact ⟨x12, h, ⟨_, rfl, (GR09_Cur_in x12)⟩, o.done⟩
 exact ⟨0, false, h, o, (st5.trans st21)⟩
 refine cond_map (fun h => ?_) (fun h => ?_) h
 obtain ⟨J2, h, h2⟩ := h
 refine ⟨fun x13 w25 => J2 x13 ∧ Mem w.heap.size [] m [([], w.heap.size, w)] [] w25 [.box b3 [.q 0, .bool false], .box b2 [.q inx.at_, .bool inx.ok], .box b1 [.q no.at_, .bool no.ok], .box b [.q xq.op, .s xq.name, .q xq.n, .q xq.kids, .q xq.at_]] ∧ Step (ms [.box b3 [.q 0, .bool false], .box b2 [.q inx.at_, .bool inx.ok], .box b1 [.q no.at_, .bool no.ok], .box b [.q xq.op, .s xq.name, .q xq.n, .q xq.kids, .q xq.at_]] m) w6 (ms [.box b3 [.q 0, .bool false], .box b2 [.q inx.at_, .bool inx.ok], .box b1 [.q no.at_, .bool no.ok], .box b [.q xq.op, .s xq.name, .q xq.n, .q xq.kids, .q xq.at_]] m) w25, ?_, ?_⟩
 refine ⟨_, (o.at 3 rfl).cell rfl, ?_⟩
 refine cond_map (fun h => ?_) (fun h => ?_) h
 refine ⟨_, _, _, _, _, (o.at 3 rfl).whole, ?_⟩
 refine ⟨_, (o.at 3 rfl).cell rfl, ?_⟩
 refine call_then (h _ w6 (o.mo hm (by simp) (.head _)) _ (GNode_in xq)) ?_
 rintro _ w26 ⟨x14, h, rfl, ke12⟩
 obtain ⟨st25, o⟩ := o.dE ke12
 refine ⟨_, rfl, ?_⟩
 exact ⟨h, o, st25⟩
 exact ⟨h, o, Step.refl _ _⟩
 rintro _ x13 w25 ⟨hJ, o, st24⟩
 have h := h2 x13 hJ
 refine cond_map (fun h => ?_) (fun h => ?_) h
 refine ⟨_, _, (o.at 1 rfl).whole, ?_⟩
 refine ⟨_, (o.at 3 rfl).cell rfl, ?_⟩
 have sT7 := ((((st.trans st1).trans st2).trans st3).trans st5).trans st24
 refine call_then (h _ w25 (o.mo hm (by simp) (.head _)) _ _ le_l (f_l.st sT7) _ (GR09_Cur_in inx)) ?_
 rintro _ w27 ⟨x15, h, ⟨cs6, rfl, f6⟩, ke13⟩
 obtain ⟨st26, o⟩ := o.dE ke13
 obtain rfl := GR09_Cur_out f6
 refine ⟨_, _, rfl, ?_⟩
 refine ⟨o.wr 0 rfl rfl, fun w28 hw28 => ?_⟩
 obtain ⟨st27, o⟩ := o.dSs 0 hw28 rfl
 refine ⟨_, _, (o.at 0 rfl).whole, ?_⟩
 exact ⟨x15, h, ⟨_, rfl, (GR09_Cur_in x15)⟩, o.done⟩
 exact ⟨0, false, h, o, (st5.trans st24)⟩
 refine cond_map (fun h => ?_) (fun h => ?_) h
 obtain ⟨J3, h, h2⟩ := h
 refine ⟨fun x16 w29 => J3 x16 ∧ Mem w.heap.size [] m [([], w.heap.size, w)] [] w29 [.box b3 [.q 0, .bool false], .box b2 [.q inx.at_, .bool inx.ok], .box b1 [.q no.at_, .bool no.ok], .box b [.q xq.op, .s xq.name, .q xq.n, .q xq.kids, .q xq.at_]] ∧ Step (ms [.box b3 [.q 0, .bool false], .box b2 [.q inx.at_, .bool inx.ok], .box b1 [.q no.at_, .bool no.ok], .box b [.q xq.op, .s xq.name, .q xq.n, .q xq.kids, .q xq.at_]] m) w6 (ms [.box b3 [.q 0, .bool false], .box b2 [.q inx.at_, .bool inx.ok], .box b1 [.q no.at_, .bool no.ok], .box b [.q xq.op, .s xq.name, .q xq.n, .q xq.kids, .q xq.at_]] m) w29, ?_, ?_⟩
 refine ⟨_, (o.at 3 rfl).cell rfl, ?_⟩
 refine cond_map (fun h => ?_) (fun h => ?_) h
 refine ⟨_, _, _, _, _, (o.at 3 rfl).whole, ?_⟩
 refine ⟨_, (o.at 3 rfl).cell rfl, ?_⟩
 refine call_then (h _ w6 (o.mo hm (by simp) (.head _)) _ (GNode_in xq)) ?_
 rintro _ w30 ⟨x17, h, rfl, ke14⟩
 obtain ⟨st29, o⟩ := o.dE ke14
 refine ⟨_, rfl, ?_⟩
 exact ⟨h, o, st29⟩
 exact ⟨h, o, Step.refl _ _⟩
 rintro _ x16 w29 ⟨hJ, o, st28⟩
 have h := h2 x16 hJ
 refine cond_map (fun h => ?_) (fun h => ?_) h
 refine ⟨_, _, (o.at 1 rfl).whole, ?_⟩
 refine ⟨_, (o.at 3 rfl).cell rfl, ?_⟩
 have sT8 := ((((st.trans st1).trans st2).trans st3).trans st5).trans st28
 refine call_then (h _ w29 (o.mo hm (by simp) (.head _)) _ _ le_l (f_l.st sT8) _ (GR09_Cur_in inx)) ?_
 rintro _ w31 ⟨x18, h, ⟨cs7, rfl, f7⟩, ke15⟩
 obtain ⟨st30, o⟩ := o.dE ke15
 obtain rfl := GR09_Cur_out f7
 refine ⟨_, _, rfl, ?_⟩
 refine ⟨o.wr 0 rfl rfl, fun w32 hw32 => ?_⟩
 obtain ⟨st31, o⟩ := o.dSs 0 hw32 rfl
 refine ⟨_, _, (o.at 0 rfl).whole, ?_⟩
 exact ⟨x18, h, ⟨_, rfl, (GR09_Cur_in x18)⟩, o.done⟩
 exact ⟨0, false, h, o, (st5.trans st28)⟩
 obtain ⟨J4, h, h2⟩ := h
 refine ⟨fun x19 w33 => J4 x19 ∧ Mem w.heap.size [] m [([], w.heap.size, w)] [] w33 [.box b3 [.q 0, .bool false], .box b2 [.q inx.at_, .bool inx.ok], .box b1 [.q no.at_, .bool no.ok], .box b [.q xq.op, .s xq.name, .q xq.n, .q xq.kids, .q xq.at_]] ∧ Step (ms [.box b3 [.q 0, .bool false], .box b2 [.q inx.at_, .bool inx.ok], .box b1 [.q no.at_, .bool no.ok], .box b [.q xq.op, .s xq.name, .q xq.n, .q xq.kids, .q xq.at_]] m) w6 (ms [.box b3 [.q 0, .bool false], .box b2 [.q inx.at_, .bool inx.ok], .box b1 [.q no.at_, .bool no.ok], .box b [.q xq.op, .s xq.name, .q xq.n, .q xq.kids, .q xq.at_]] m) w33, ?_, ?_⟩
 refine cond_map (fun h => ?_) (fun h => ?_) h
 exact ⟨h, o, Step.refl _ _⟩
 refine cond_map (fun h => ?_) (fun h => ?_) h
 exact ⟨h, o, Step.refl _ _⟩
 exact ⟨h, o, Step.refl _ _⟩
 rintro _ x19 w33 ⟨hJ, o, st32⟩
 have h := h2 x19 hJ
 refine cond_map (fun h => ?_) (fun h => ?_) h
 refine ⟨_, _, _, _, _, (o.at 3 rfl).whole, ?_⟩
 refine call_then (h _ w33 (o.mo hm (by simp) (.head _)) _ (GNode_in xq)) ?_
 rintro _ w34 ⟨x20, h, rfl, ke16⟩
 obtain ⟨st33, o⟩ := o.dE ke16
 refine ⟨_, rfl, ?_⟩
 refine cond_map (fun h => ?_) (fun h => ?_) h
 refine ⟨_, _, (o.at 1 rfl).whole, ?_⟩
 have sT9 := (((((st.trans st1).trans st2).trans st3).trans st5).trans st32).trans st33
 refine call_then (h _ w34 (o.mo hm (by simp) (.head _)) _ _ le_l (f_l.st sT9) _ (GR09_Cur_in inx)) ?_
 rintro _ w35 ⟨x21, h, ⟨cs8, rfl, f8⟩, ke17⟩
 obtain ⟨st34, o⟩ := o.dE ke17
 obtain rfl := GR09_Cur_out f8
 refine ⟨_, _, rfl, ?_⟩
 refine ⟨o.wr 0 rfl rfl, fun w36 hw36 => ?_⟩
 obtain ⟨st35, o⟩ := o.dSs 0 hw36 rfl
 refine ⟨_, _, (o.at 0 rfl).whole, ?_⟩
 exact ⟨x21, h, ⟨_, rfl, (GR09_Cur_in x21)⟩, o.done⟩
 have sT10 := (st5.trans st32).trans st33
 exact ⟨0, false, h, o, sT10⟩
 obtain ⟨J5, h, h2⟩ := h
 refine ⟨fun x22 w37 => J5 x22 ∧ Mem w.heap.size [] m [([], w.heap.size, w)] [] w37 [.box b3 [.q 0, .bool false], .box b2 [.q inx.at_, .bool inx.ok], .box b1 [.q no.at_, .bool no.ok], .box b [.q xq.op, .s xq.name, .q xq.n, .q xq.kids, .q xq.at_]] ∧ Step (ms [.box b3 [.q 0, .bool false], .box b2 [.q inx.at_, .bool inx.ok], .box b1 [.q no.at_, .bool no.ok], .box b [.q xq.op, .s xq.name, .q xq.n, .q xq.kids, .q xq.at_]] m) w33 (ms [.box b3 [.q 0, .bool false], .box b2 [.q inx.at_, .bool inx.ok], .box b1 [.q no.at_, .bool no.ok], .box b [.q xq.op, .s xq.name, .q xq.n, .q xq.kids, .q xq.at_]] m) w37, ?_, ?_⟩
 refine cond_map (fun h => ?_) (fun h => ?_) h
 exact ⟨h, o, Step.refl _ _⟩
 exact ⟨h, o, Step.refl _ _⟩
 rintro _ x22 w37 ⟨hJ, o, st36⟩
 have h := h2 x22 hJ
 refine cond_map (fun h => ?_) (fun h => ?_) h
 refine ⟨_, _, _, _, _, (o.at 3 rfl).whole, ?_⟩
 refine call_then (h _ w37 (o.mo hm (by simp) (.head _)) _ (GNode_in xq)) ?_
 rintro _ w38 ⟨x23, h, rfl, ke18⟩
 obtain ⟨st37, o⟩ := o.dE ke18
 refine ⟨_, rfl, ?_⟩
 refine cond_map (fun h => ?_) (fun h => ?_) h
 refine ⟨_, _, (o.at 1 rfl).whole, ?_⟩
 refine ⟨o.wr 0 rfl rfl, fun w39 hw39 => ?_⟩
 obtain ⟨st38, o⟩ := o.dSs 0 hw39 rfl
 refine ⟨_, _, (o.at 0 rfl).whole, ?_⟩
 exact ⟨inx, h, ⟨_, rfl, (GR09_Cur_in inx)⟩, o.done⟩
 have sT11 := ((st5.trans st32).trans st36).trans st37
 exact ⟨0, false, h, o, sT11⟩
 have sT12 := (st5.trans st32).trans st36
 exact ⟨0, false, h, o, sT12⟩
 rintro _ w5 ⟨At, Ok, hJ, o, st4⟩
 have h := h2 At Ok hJ
 refine ⟨_, _, (o.at 2 rfl).whole, ?_⟩
 refine ⟨o.wr 0 rfl rfl, fun w40 hw40 => ?_⟩
 obtain ⟨st39, o⟩ := o.dSs 0 hw40 rfl
 refine ⟨_, _, (o.at 0 rfl).whole, ?_⟩
 exact ⟨no, h, ⟨_, rfl, (GR09_Cur_in no)⟩, o.done⟩
def R09_clause_vwp (l : List GNode) (xq : GNode) (no : GR09_Cur) (inx : GR09_Cur) (K : GR09_Cur → Prop) : Prop :=
 cond (xq.op == 37)
 (V_R09_bare xq 1 (fun x =>
 cond (x)
 (V_R09_row l inx [66] (fun x1 =>
 K x1))
 (K no)))
 (∃ (J : (List UInt8) → Int → Bool → Prop),
 (cond (xq.op == 34)
 (J [82, 66] 0 false)
 (cond (xq.op == 35)
 (J [82, 69, 66] 0 false)
 (cond (xq.op == 36)
 (J [69, 66] 0 false)
 (K no)))) ∧
 ∀ (wa : List UInt8) (At : Int) (Ok : Bool), J wa At Ok →
 ∃ (J1 : (List UInt8) → Prop),
 (cond (xq.n == 1)
 ((([69].length + wa.length : Nat) : Int) ≤ IntKind.i64.max ∧
 J1 ([69] ++ wa))
 (J1 wa)) ∧
 ∀ (wa1 : List UInt8), J1 wa1 →
 ∃ (J2 : Bool → Prop),
 (cond (decide (xq.n < 0))
 (J2 true)
 (cond (decide (xq.n > 1))
 (J2 true)
 (cond (xq.kids != (wa1.length : Int))
 (J2 true)
 (V_R08_Name xq.name (fun x3 =>
 cond (!((xq.op == 34) == x3))
 (J2 true)
 (cond (xq.op != 34)
 (J2 (!(xq.name == [])))
 (J2 false))))))) ∧
 ∀ (x2 : Bool), J2 x2 →
 cond (x2)
 (K no)
 (V_R09_row l inx wa1 (fun x4 =>
 K x4)))
theorem R09_clause_lift (l : List GNode) (xq : GNode) (no : GR09_Cur) (inx : GR09_Cur) (K : GR09_Cur → Prop) (h : R09_clause_vwp l xq no inx K) : V_R09_clause l xq no inx K := by
 intro m w hm lA lC le_l f_l xqcs f_xq nocs f_no inxcs f_inx
 obtain rfl := GNode_out f_xq
 obtain rfl := GR09_Cur_out f_no
 obtain rfl := GR09_Cur_out f_inx
 have o := Mem.start hm.lt
 refine R09_clause_ok lA l.length lC _ _ _ _ _ _ _ _ _ _ _ ?_
 intro b w1 hb hw1
 obtain ⟨st, o⟩ := o.dB hb hw1
 intro b1 w2 hb1 hw2
 obtain ⟨st1, o⟩ := o.dB hb1 hw2
 intro b2 w3 hb2 hw3
 obtain ⟨st2, o⟩ := o.dB hb2 hw3
 intro b3 w4 hb3 hw4
 obtain ⟨st3, o⟩ := o.dB hb3 hw4
 refine ⟨_, (o.at 3 rfl).cell rfl, ?_⟩
 refine cond_map (fun h => ?_) (fun h => ?_) h
 refine ⟨_, _, _, _, _, (o.at 3 rfl).whole, ?_⟩
 refine call_then (h _ w4 (o.mo hm (by simp) (.head _)) _ (GNode_in xq)) ?_
 rintro _ w5 ⟨x, h, rfl, ke⟩
 obtain ⟨st4, o⟩ := o.dE ke
 refine ⟨_, rfl, ?_⟩
 refine cond_map (fun h => ?_) (fun h => ?_) h
 refine ⟨_, _, (o.at 1 rfl).whole, ?_⟩
 have sT := (((st.trans st1).trans st2).trans st3).trans st4
 refine call_then (h _ w5 (o.mo hm (by simp) (.head _)) _ _ le_l (f_l.st sT) _ (GR09_Cur_in inx)) ?_
 rintro _ w6 ⟨x1, h, ⟨cs, rfl, f⟩, ke1⟩
 obtain ⟨st5, o⟩ := o.dE ke1
 obtain rfl := GR09_Cur_out f
 refine ⟨_, _, rfl, ?_⟩
 refine ⟨o.wr 0 rfl rfl, fun w7 hw7 => ?_⟩
 obtain ⟨st6, o⟩ := o.dSs 0 hw7 rfl
 refine ⟨_, _, (o.at 0 rfl).whole, ?_⟩
 exact ⟨x1, h, ⟨_, rfl, (GR09_Cur_in x1)⟩, o.done⟩
 refine ⟨_, _, (o.at 2 rfl).whole, ?_⟩
 refine ⟨o.wr 0 rfl rfl, fun w8 hw8 => ?_⟩
 obtain ⟨st7, o⟩ := o.dSs 0 hw8 rfl
 refine ⟨_, _, (o.at 0 rfl).whole, ?_⟩
 exact ⟨no, h, ⟨_, rfl, (GR09_Cur_in no)⟩, o.done⟩
 obtain ⟨J, h, h2⟩ := h
 refine ⟨fun wa w9 => ∃ (At : Int) (Ok : Bool), J wa At Ok ∧ Mem w.heap.size [] m [([], w.heap.size, w)] [] w9 [.box b3 [.q At, .bool Ok], .box b2 [.q inx.at_, .bool inx.ok], .box b1 [.q no.at_, .bool no.ok], .box b [.q xq.op, .s xq.name, .q xq.n, .q xq.kids, .q xq.at_]] ∧ Step (ms [.box b3 [.q 0, .bool false], .box b2 [.q inx.at_, .bool inx.ok], .box b1 [.q no.at_, .bool no.ok], .box b [.q xq.op, .s xq.name, .q xq.n, .q xq.kids, .q xq.at_]] m) w4 (ms [.box b3 [.q At, .bool Ok], .box b2 [.q inx.at_, .bool inx.ok], .box b1 [.q no.at_, .bool no.ok], .box b [.q xq.op, .s xq.name, .q xq.n, .q xq.kids, .q xq.at_]] m) w9, ?_, ?_⟩
 refine ⟨_, (o.at 3 rfl).cell rfl, ?_⟩
 refine cond_map (fun h => ?_) (fun h => ?_) h
 exact ⟨0, false, h, o, Step.refl _ _⟩
 refine cond_map (fun h => ?_) (fun h => ?_) h
 exact ⟨0, false, h, o, Step.refl _ _⟩
 refine cond_map (fun h => ?_) (fun h => ?_) h
 exact ⟨0, false, h, o, Step.refl _ _⟩
 refine ⟨_, _, (o.at 2 rfl).whole, ?_⟩
 refine ⟨o.wr 0 rfl rfl, fun w10 hw10 => ?_⟩
 obtain ⟨st9, o⟩ := o.dSs 0 hw10 rfl
 refine ⟨_, _, (o.at 0 rfl).whole, ?_⟩
 exact ⟨no, h, ⟨_, rfl, (GR09_Cur_in no)⟩, o.done⟩
 rintro _ wa w9 ⟨At, Ok, hJ, o, st8⟩
 have h := h2 wa At Ok hJ
 obtain ⟨J1, h, h2⟩ := h
 refine ⟨fun wa1 w11 => J1 wa1 ∧ Mem w.heap.size [] m [([], w.heap.size, w)] [] w11 [.box b3 [.q At, .bool Ok], .box b2 [.q inx.at_, .bool inx.ok], .box b1 [.q no.at_, .bool no.ok], .box b [.q xq.op, .s xq.name, .q xq.n, .q xq.kids, .q xq.at_]] ∧ Step (ms [.box b3 [.q At, .bool Ok], .box b2 [.q inx.at_, .bool inx.ok], .box b1 [.q no.at_, .bool no.ok], .box b [.q xq.op, .s xq.name, .q xq.n, .q xq.kids, .q xq.at_]] m) w9 (ms [.box b3 [.q At, .bool Ok], .box b2 [.q inx.at_, .bool inx.ok], .box b1 [.q no.at_, .bool no.ok], .box b [.q xq.op, .s xq.name, .q xq.n, .q xq.kids, .q xq.at_]] m) w11, ?_, ?_⟩
 refine ⟨_, (o.at 3 rfl).cell rfl, ?_⟩
 refine cond_map (fun h => ?_) (fun h => ?_) h
 refine ⟨h.1, ?_⟩
 have h := And.right h
 exact ⟨h, o, Step.refl _ _⟩
 exact ⟨h, o, Step.refl _ _⟩
 rintro _ wa1 w11 ⟨hJ, o, st10⟩
 have h := h2 wa1 hJ
 obtain ⟨J2, h, h2⟩ := h
 refine ⟨fun x2 w12 => J2 x2 ∧ Mem w.heap.size [] m [([], w.heap.size, w)] [] w12 [.box b3 [.q At, .bool Ok], .box b2 [.q inx.at_, .bool inx.ok], .box b1 [.q no.at_, .bool no.ok], .box b [.q xq.op, .s xq.name, .q xq.n, .q xq.kids, .q xq.at_]] ∧ Step (ms [.box b3 [.q At, .bool Ok], .box b2 [.q inx.at_, .bool inx.ok], .box b1 [.q no.at_, .bool no.ok], .box b [.q xq.op, .s xq.name, .q xq.n, .q xq.kids, .q xq.at_]] m) w11 (ms [.box b3 [.q At, .bool Ok], .box b2 [.q inx.at_, .bool inx.ok], .box b1 [.q no.at_, .bool no.ok], .box b [.q xq.op, .s xq.name, .q xq.n, .q xq.kids, .q xq.at_]] m) w12, ?_, ?_⟩
 intro w13 hw13
 obtain ⟨st12, o⟩ := o.dD hw13
 have ox := o
 refine ⟨fun u => Keep [] w13 u, Keep.refl _ _, ?_⟩
 refine ⟨_, fun u hu => ((ox.at 3 rfl).keep hu (by simp)).cell rfl, ?_⟩
 refine cond_map (fun h => ?_) (fun h => ?_) h
 exact ⟨h, o, st12⟩
 refine ⟨_, fun u hu => ((ox.at 3 rfl).keep hu (by simp)).cell rfl, ?_⟩
 refine cond_map (fun h => ?_) (fun h => ?_) h
 exact ⟨h, o, st12⟩
 refine ⟨_, fun u hu => ((ox.at 3 rfl).keep hu (by simp)).cell rfl, ?_⟩
 refine cond_map (fun h => ?_) (fun h => ?_) h
 exact ⟨h, o, st12⟩
 refine ⟨_, fun u hu => ((ox.at 3 rfl).keep hu (by simp)).cell rfl, ?_⟩
 refine ⟨_, fun u hu => ((ox.at 3 rfl).keep hu (by simp)).cell rfl, ?_⟩
 refine call_then (h _ w13 (o.mo hm (by simp) (.head _))) ?_
 rintro _ w14 ⟨x3, h, rfl, ke2⟩
 obtain ⟨st13, o⟩ := o.dE ke2
 refine ⟨_, rfl, ?_⟩
 refine ⟨(ke2.mono (by simp)), ?_⟩
 refine cond_map (fun h => ?_) (fun h => ?_) h
 exact ⟨h, o, (st12.trans st13)⟩
 refine ⟨_, eq_held ((o.at 3 rfl).cell rfl), ?_⟩
 refine cond_map (fun h => ?_) (fun h => ?_) h
 refine ⟨_, eq_held ((o.at 3 rfl).cell rfl), ?_⟩
 exact ⟨h, o, (st12.trans st13)⟩
 exact ⟨h, o, (st12.trans st13)⟩
 rintro _ x2 w12 ⟨hJ, o, st11⟩
 have h := h2 x2 hJ
 refine cond_map (fun h => ?_) (fun h => ?_) h
 refine ⟨_, _, (o.at 2 rfl).whole, ?_⟩
 refine ⟨o.wr 0 rfl rfl, fun w15 hw15 => ?_⟩
 obtain ⟨st14, o⟩ := o.dSs 0 hw15 rfl
 refine ⟨_, _, (o.at 0 rfl).whole, ?_⟩
 exact ⟨no, h, ⟨_, rfl, (GR09_Cur_in no)⟩, o.done⟩
 refine ⟨_, _, (o.at 1 rfl).whole, ?_⟩
 have sT1 := (((((st.trans st1).trans st2).trans st3).trans st8).trans st10).trans st11
 refine call_then (h _ w12 (o.mo hm (by simp) (.head _)) _ _ le_l (f_l.st sT1) _ (GR09_Cur_in inx)) ?_
 rintro _ w16 ⟨x4, h, ⟨cs1, rfl, f1⟩, ke3⟩
 obtain ⟨st15, o⟩ := o.dE ke3
 obtain rfl := GR09_Cur_out f1
 refine ⟨_, _, rfl, ?_⟩
 refine ⟨o.wr 0 rfl rfl, fun w17 hw17 => ?_⟩
 obtain ⟨st16, o⟩ := o.dSs 0 hw17 rfl
 refine ⟨_, _, (o.at 0 rfl).whole, ?_⟩
 exact ⟨x4, h, ⟨_, rfl, (GR09_Cur_in x4)⟩, o.done⟩
def R09_name_vwp (xq : GNode) (kids : Int) (K : Bool → Prop) : Prop :=
 V_R08_Name xq.name (fun x =>
 cond (x)
 (cond (xq.n == 0)
 (K (xq.kids == kids))
 (K false))
 (K false))
theorem R09_name_lift (xq : GNode) (kids : Int) (K : Bool → Prop) (h : R09_name_vwp xq kids K) : V_R09_name xq kids K := by
 intro m w hm xqcs f_xq
 obtain rfl := GNode_out f_xq
 have o := Mem.start hm.lt
 refine R09_name_ok _ _ _ _ _ kids _ _ ?_
 intro b w1 hb hw1
 obtain ⟨st, o⟩ := o.dB hb hw1
 refine ⟨_, (o.at 0 rfl).cell rfl, ?_⟩
 refine call_then (h _ w1 (o.mo hm (by simp) (.head _))) ?_
 rintro _ w2 ⟨x, h, rfl, ke⟩
 obtain ⟨st1, o⟩ := o.dE ke
 refine ⟨_, rfl, ?_⟩
 refine cond_map (fun h => ?_) (fun h => ?_) h
 refine ⟨_, (o.at 0 rfl).cell rfl, ?_⟩
 refine cond_map (fun h => ?_) (fun h => ?_) h
 refine ⟨_, (o.at 0 rfl).cell rfl, ?_⟩
 exact ⟨(xq.kids == kids), h, rfl, o.done⟩
 exact ⟨false, h, rfl, o.done⟩
 exact ⟨false, h, rfl, o.done⟩
def R09_bare_vwp (xq : GNode) (kids : Int) (K : Bool → Prop) : Prop :=
 cond (xq.name == [])
 (cond (xq.n == 0)
 (K (xq.kids == kids))
 (K false))
 (K false)
theorem R09_bare_lift (xq : GNode) (kids : Int) (K : Bool → Prop) (h : R09_bare_vwp xq kids K) : V_R09_bare xq kids K := by
 intro m w hm xqcs f_xq
 obtain rfl := GNode_out f_xq
 have o := Mem.start hm.lt
 refine R09_bare_ok _ _ _ _ _ kids _ _ ?_
 intro b w1 hb hw1
 obtain ⟨st, o⟩ := o.dB hb hw1
 refine ⟨_, (o.at 0 rfl).cell rfl, ?_⟩
 refine cond_map (fun h => ?_) (fun h => ?_) h
 refine ⟨_, (o.at 0 rfl).cell rfl, ?_⟩
 refine cond_map (fun h => ?_) (fun h => ?_) h
 refine ⟨_, (o.at 0 rfl).cell rfl, ?_⟩
 exact ⟨(xq.kids == kids), h, rfl, o.done⟩
 exact ⟨false, h, rfl, o.done⟩
 exact ⟨false, h, rfl, o.done⟩
def L11_live_vwp (K : Bool → Prop) : Prop :=
 V_parse_Text [109, 97, 105, 110, 32, 123, 32, 125] (fun r r1 r2 =>
 V_parse_Text [109, 97, 105, 110, 32, 123, 32, 99, 32, 33, 32, 59, 32, 125] (fun r3 r4 r5 =>
 cond ((r.length : Int) == 3)
 (((0 : Int) ≤ 1 ∧ 1 < (r.length : Int)) ∧
 ∀ x, r[1]? = some x →
 cond (x.op == 41)
 (cond (r1 == 0)
 (cond (r2 == 0)
 (cond (r4 == 11)
 (K (r5 == 11))
 (K false))
 (K false))
 (K false))
 (K false))
 (K false)))
theorem L11_live_lift (K : Bool → Prop) (h : L11_live_vwp K) : V_L11_live K := by
 intro m w hm
 have o := Mem.start hm.lt
 refine L11_live_ok _ _ ?_
 refine call_then (h _ w (o.mo hm (by simp) (.head _))) ?_
 rintro _ w1 ⟨r, r1, r2, h, ⟨a, c, rfl, ⟨le, f⟩⟩, ke⟩
 obtain ⟨st, o⟩ := o.dE ke
 refine ⟨_, _, _, _, _, rfl, ?_⟩
 refine call_then (h _ w1 (o.mo hm (by simp) (.head _))) ?_
 rintro _ w2 ⟨r3, r4, r5, h, ⟨a1, c1, rfl, ⟨le1, f1⟩⟩, ke1⟩
 obtain ⟨st1, o⟩ := o.dE ke1
 refine ⟨_, _, _, _, _, rfl, ?_⟩
 refine cond_map (fun h => ?_) (fun h => ?_) h
 obtain ⟨hi, h⟩ := h
 obtain ⟨p, x, cs, hp, he, hc, hr⟩ := (f.st st1).elem hi
 obtain rfl := GNode_out hr
 have h := h x he
 refine ⟨hi, ptrOr_some hp ?_⟩
 refine ⟨_, (CellsAt.head hc.2), ?_⟩
 refine cond_map (fun h => ?_) (fun h => ?_) h
 refine cond_map (fun h => ?_) (fun h => ?_) h
 refine cond_map (fun h => ?_) (fun h => ?_) h
 refine cond_map (fun h => ?_) (fun h => ?_) h
 exact ⟨(r5 == 11), h, rfl, o.done⟩
 exact ⟨false, h, rfl, o.done⟩
 exact ⟨false, h, rfl, o.done⟩
 exact ⟨false, h, rfl, o.done⟩
 exact ⟨false, h, rfl, o.done⟩
 exact ⟨false, h, rfl, o.done⟩
def L11_ParseShapes_vwp (sx : List UInt8) (K : Bool → Prop) : Prop :=
 cond (decide ((sx.length : Int) > 1500))
 (V_L11_live  (fun x =>
 K x))
 (V_parse_Text sx (fun r r1 r2 =>
 cond (r2 != 0)
 (cond ((r.length : Int) == 0)
 (V_R08_All sx (fun x1 =>
 cond (x1.e_ != 0)
 (V_L11_live  (fun x2 =>
 K x2))
 (V_R11_Text sx (fun x3 =>
 cond (x3.e_ != 0)
 (V_L11_live  (fun x4 =>
 K x4))
 (K false)))))
 (K false))
 (V_R09_Is r (fun x5 =>
 cond (x5)
 (V_L11_live  (fun x6 =>
 K x6))
 (K false)))))
theorem L11_ParseShapes_lift (sx : List UInt8) (K : Bool → Prop) (h : L11_ParseShapes_vwp sx K) : V_L11_ParseShapes sx K := by
 intro m w hm
 have o := Mem.start hm.lt
 refine L11_ParseShapes_ok sx _ _ ?_
 refine cond_map (fun h => ?_) (fun h => ?_) h
 refine call_then (h _ w (o.mo hm (by simp) (.head _))) ?_
 rintro _ w1 ⟨x, h, rfl, ke⟩
 obtain ⟨st, o⟩ := o.dE ke
 refine ⟨_, rfl, ?_⟩
 exact ⟨x, h, rfl, o.done⟩
 refine call_then (h _ w (o.mo hm (by simp) (.head _))) ?_
 rintro _ w2 ⟨r, r1, r2, h, ⟨a, c, rfl, ⟨le, f⟩⟩, ke1⟩
 obtain ⟨st1, o⟩ := o.dE ke1
 refine ⟨_, _, _, _, _, rfl, ?_⟩
 refine cond_map (fun h => ?_) (fun h => ?_) h
 refine cond_map (fun h => ?_) (fun h => ?_) h
 refine call_then (h _ w2 (o.mo hm (by simp) (.head _))) ?_
 rintro _ w3 ⟨x1, h, ⟨cs, rfl, f1⟩, ke2⟩
 obtain ⟨st2, o⟩ := o.dE ke2
 obtain ⟨a1, c1, rfl, ⟨le1, f2⟩⟩ := GR08_List_out f1
 refine ⟨_, _, _, _, _, rfl, ?_⟩
 refine cond_map (fun h => ?_) (fun h => ?_) h
 refine call_then (h _ w3 (o.mo hm (by simp) (.head _))) ?_
 rintro _ w4 ⟨x2, h, rfl, ke3⟩
 obtain ⟨st3, o⟩ := o.dE ke3
 refine ⟨_, rfl, ?_⟩
 exact ⟨x2, h, rfl, o.done⟩
 refine call_then (h _ w3 (o.mo hm (by simp) (.head _))) ?_
 rintro _ w5 ⟨x3, h, ⟨cs1, rfl, f3⟩, ke4⟩
 obtain ⟨st4, o⟩ := o.dE ke4
 obtain ⟨a2, c2, rfl, ⟨le2, f4⟩⟩ := GR10_Got_out f3
 refine ⟨_, _, _, _, _, rfl, ?_⟩
 refine cond_map (fun h => ?_) (fun h => ?_) h
 refine call_then (h _ w5 (o.mo hm (by simp) (.head _))) ?_
 rintro _ w6 ⟨x4, h, rfl, ke5⟩
 obtain ⟨st5, o⟩ := o.dE ke5
 refine ⟨_, rfl, ?_⟩
 exact ⟨x4, h, rfl, o.done⟩
 exact ⟨false, h, rfl, o.done⟩
 exact ⟨false, h, rfl, o.done⟩
 refine call_then (h _ w2 (o.mo hm (by simp) (.head _)) _ _ le f) ?_
 rintro _ w7 ⟨x5, h, rfl, ke6⟩
 obtain ⟨st6, o⟩ := o.dE ke6
 refine ⟨_, rfl, ?_⟩
 refine cond_map (fun h => ?_) (fun h => ?_) h
 refine call_then (h _ w7 (o.mo hm (by simp) (.head _))) ?_
 rintro _ w8 ⟨x6, h, rfl, ke7⟩
 obtain ⟨st7, o⟩ := o.dE ke7
 refine ⟨_, rfl, ?_⟩
 exact ⟨x6, h, rfl, o.done⟩
 exact ⟨false, h, rfl, o.done⟩
end Go.Proofs.Ytdbdkdmgfiiljaa

namespace Go.Proofs.Ytdbdkdmgfiiljaa
open Go.Vc Go.Lv Go.Ty
structure TermC where
  T : List GToken → Int → List GNode × Int × Int
  lo : ∀ toks at_, 0 ≤ at_ → at_ ≤ (toks.length : Int) → at_ ≤ (T toks at_).2.1
  hi : ∀ toks at_, 0 ≤ at_ → at_ ≤ (toks.length : Int) → (T toks at_).2.1 ≤ (toks.length : Int)
  len : ∀ toks at_, 0 ≤ at_ → at_ ≤ (toks.length : Int) → ((T toks at_).1.length : Int) ≤ (T toks at_).2.1 - at_
  pv : ∀ toks, toks.length < 1000000000 → ∀ at_, 0 ≤ at_ → at_ ≤ (toks.length : Int) → ∀ K : List GNode → Int → Int → Prop, K (T toks at_).1 (T toks at_).2.1 (T toks at_).2.2 → V_term_Parse toks at_ K
  rv : ∀ toks, toks.length < 1000000000 → ∀ at_, 0 ≤ at_ → at_ ≤ (toks.length : Int) → ∀ K : GR10_Got → Prop, K ⟨(T toks at_).1, (T toks at_).2.1, (T toks at_).2.2⟩ → V_R10_Parse toks at_ K
abbrev Str := List UInt8
def sLB : Str := [123]
def sRB : Str := [125]
def sLP : Str := [40]
def sRP : Str := [41]
def sLS : Str := [91]
def sRS : Str := [93]
def sSemi : Str := [59]
def sComma : Str := [44]
def sColon : Str := [58]
def sBang : Str := [33]
def sAsk : Str := [63]
def sEq : Str := [61]
def sVar : Str := [118, 97, 114]
def sStart : Str := [115, 116, 97, 114, 116]
def sSleep : Str := [115, 108, 101, 101, 112]
def sPrint : Str := [112, 114, 105, 110, 116]
def sAssert : Str := [97, 115, 115, 101, 114, 116]
def sSkip : Str := [115, 107, 105, 112]
def sStop : Str := [115, 116, 111, 112]
def sWhile : Str := [119, 104, 105, 108, 101]
def sIf : Str := [105, 102]
def sElse : Str := [101, 108, 115, 101]
def sSelect : Str := [115, 101, 108, 101, 99, 116]
def sCase : Str := [99, 97, 115, 101]
def sWhen : Str := [119, 104, 101, 110]
def sAfter : Str := [97, 102, 116, 101, 114]
def sRandom : Str := [114, 97, 110, 100, 111, 109]
def sChan : Str := [99, 104, 97, 110]
def sProc : Str := [112, 114, 111, 99]
def sMain : Str := [109, 97, 105, 110]
abbrev Cur := GR11_cur
section
variable (M : TermC) (toks : List GToken)
def tokF (at_ : Int) : GToken := if at_ < (toks.length : Int) then (toks[at_.toNat]?).getD ⟨0, [], 0, 0⟩ else ⟨0, [], 0, 0⟩
def isF (at_ : Int) (s : Str) : Bool := ((tokF toks at_).kind == 3 || (tokF toks at_).kind == 4) && ((tokF toks at_).text == s)
def fromC (at_ : Int) : Cur := ⟨[], 0, at_, 0⟩
def eatC (s : Str) (c : Cur) : Cur := if c.e_ = 0 then (if isF toks c.at_ s then ⟨c.l, c.n, c.at_ + 1, 0⟩ else ⟨c.l, c.n, c.at_, 11⟩) else c
def addC (c d : Cur) : Cur := if c.e_ = 0 then ⟨c.l ++ d.l, IntKind.i64.wrap (c.n + 1), d.at_, d.e_⟩ else c
def underC (c : Cur) (x : GNode) : Cur := ⟨⟨x.op, x.name, x.n, c.n, x.at_⟩ :: c.l, 1, c.at_, c.e_⟩
def nameC (c : Cur) : Cur := if c.e_ = 0 then (if (tokF toks c.at_).kind = 1 then ⟨c.l, c.n, c.at_ + 1, 0⟩ else ⟨c.l, c.n, c.at_, 11⟩) else c
def nameS (c : Cur) : Str := if c.e_ = 0 then (if (tokF toks c.at_).kind = 1 then (tokF toks c.at_).text else []) else []
def termC (c : Cur) : Cur := addC c ⟨(M.T toks c.at_).1, 0, (M.T toks c.at_).2.1, (M.T toks c.at_).2.2⟩
def seeB (s : Str) (c : Cur) : Bool := decide (c.e_ = 0) && isF toks c.at_ s
def nd (op : Int) (name : Str) (n at_ : Int) : GNode := ⟨op, name, n, 0, (tokF toks at_).at_⟩
def refC1 (c : Cur) : Cur := if seeB toks sLS c then eatC toks sRS (termC M toks (eatC toks sLS c)) else c
def refC (at_ : Int) : Cur := underC (refC1 M toks (nameC toks (fromC at_))) (nd toks 33 (nameS toks (fromC at_)) 0 at_)
def loopC (g : Cur → Bool) (b : Cur → Cur) : Nat → Cur → Cur
  | 0, c => c
  | f + 1, c => if g c then loopC g b f (b c) else c
def fuel : Nat := toks.length + 2
def blockC (stmt : Int → Cur) (at_ : Int) : Cur :=
  underC (eatC toks sRB (loopC (fun c => decide (c.e_ = 0) && !isF toks c.at_ sRB) (fun c => addC c (stmt c.at_)) (fuel toks) (eatC toks sLB (fromC at_)))) (nd toks 32 [] 0 at_)
def inC (blk : Int → Cur) (c : Cur) : Cur := addC c (blk c.at_)
structure Comm where
  c : Cur
  op : Int
  name : Str
def commC2 (send recv : Int) (c : Cur) : Comm := if seeB toks sBang c then ⟨termC M toks (eatC toks sBang c), send, []⟩ else ⟨nameC toks (eatC toks sAsk c), recv, nameS toks (eatC toks sAsk c)⟩
def commC (send recv : Int) (c : Cur) : Comm := if c.e_ = 0 then commC2 M toks send recv (addC c (refC M toks c.at_)) else ⟨c, 0, []⟩
def whenC (c : Cur) : Cur := if seeB toks sWhen c then eatC toks sColon (termC M toks (eatC toks sWhen c)) else c
def whenN (c : Cur) : Int := if seeB toks sWhen c then 1 else 0
def afterC (c : Cur) : Comm := if seeB toks sAfter c then ⟨termC M toks (eatC toks sAfter c), 36, []⟩ else commC M toks 35 34 c
def clauseC (blk : Int → Cur) (at_ : Int) : Cur :=
  if isF toks at_ sElse then underC (inC blk (eatC toks sElse (fromC at_))) (nd toks 37 [] 0 at_)
  else underC (inC blk (afterC M toks (whenC M toks (eatC toks sCase (fromC at_)))).c) (nd toks (afterC M toks (whenC M toks (eatC toks sCase (fromC at_)))).op (afterC M toks (whenC M toks (eatC toks sCase (fromC at_)))).name (whenN toks (eatC toks sCase (fromC at_))) at_)
def argsC (c : Cur) : Cur :=
  eatC toks sRP (if (decide ((eatC toks sLP c).e_ = 0) && !isF toks (eatC toks sLP c).at_ sRP) then
    loopC (seeB toks sComma) (fun c => termC M toks (eatC toks sComma c)) (fuel toks) (termC M toks (eatC toks sLP c)) else eatC toks sLP c)
def setC (at_ : Int) : Cur :=
  if seeB toks sRandom (eatC toks sEq (nameC toks (fromC at_))) then
    underC (eatC toks sSemi (eatC toks sRP (termC M toks (eatC toks sLP (eatC toks sRandom (eatC toks sEq (nameC toks (fromC at_)))))))) (nd toks 20 (nameS toks (fromC at_)) 0 at_)
  else underC (eatC toks sSemi (termC M toks (eatC toks sEq (nameC toks (fromC at_))))) (nd toks 19 (nameS toks (fromC at_)) 0 at_)
def oneC (s : Str) (op : Int) (at_ : Int) : Cur := underC (eatC toks sSemi (termC M toks (eatC toks s (fromC at_)))) (nd toks op [] 0 at_)
def noneC (s : Str) (op : Int) (at_ : Int) : Cur := underC (eatC toks sSemi (eatC toks s (fromC at_))) (nd toks op [] 0 at_)
def ifC (blk : Int → Cur) (c : Cur) : Cur := if seeB toks sElse c then inC blk (eatC toks sElse c) else c
def selC (blk : Int → Cur) (c : Cur) : Cur := loopC (fun c => decide (c.e_ = 0) && !isF toks c.at_ sRB) (fun c => addC c (clauseC M toks blk c.at_)) (fuel toks) (addC c (clauseC M toks blk c.at_))
def wordC (blk : Int → Cur) (at_ : Int) : Cur :=
  let s := (tokF toks at_).text
  if s = sVar then underC (eatC toks sSemi (termC M toks (eatC toks sEq (nameC toks (eatC toks sVar (fromC at_)))))) (nd toks 18 (nameS toks (eatC toks sVar (fromC at_))) 0 at_)
  else if s = sStart then underC (eatC toks sSemi (argsC M toks (nameC toks (eatC toks sStart (fromC at_))))) (nd toks 26 (nameS toks (eatC toks sStart (fromC at_))) 0 at_)
  else if s = sSleep then oneC M toks sSleep 27 at_
  else if s = sPrint then oneC M toks sPrint 28 at_
  else if s = sAssert then oneC M toks sAssert 29 at_
  else if s = sSkip then noneC toks sSkip 30 at_
  else if s = sStop then noneC toks sStop 31 at_
  else if s = sWhile then underC (inC blk (termC M toks (eatC toks sWhile (fromC at_)))) (nd toks 24 [] 0 at_)
  else if s = sIf then underC (ifC toks blk (inC blk (termC M toks (eatC toks sIf (fromC at_))))) (nd toks 23 [] 0 at_)
  else if s = sSelect then underC (eatC toks sRB (selC M toks blk (eatC toks sLB (eatC toks sSelect (fromC at_))))) (nd toks 25 [] 0 at_)
  else ⟨[], 0, at_, 11⟩
def stmtC (blk : Int → Cur) (at_ : Int) : Cur :=
  if (tokF toks at_).kind = 1 then
    (if isF toks (at_ + 1) sEq then setC M toks at_
     else underC (eatC toks sSemi (commC M toks 21 22 (fromC at_)).c) (nd toks (commC M toks 21 22 (fromC at_)).op (commC M toks 21 22 (fromC at_)).name 0 at_))
  else if (tokF toks at_).kind = 3 then wordC M toks blk at_
  else ⟨[], 0, at_, 11⟩
def blkF : Nat → Int → Cur
  | 0, at_ => if isF toks at_ sLB then ⟨[], 0, at_, 5⟩ else blockC toks fromC at_
  | k + 1, at_ => blockC toks (stmtC M toks (blkF k)) at_
def sizeC (c : Cur) : Cur := if c.e_ = 0 then (if (tokF toks c.at_).kind = 2 then (if (tokF toks c.at_).n < 1 ∨ (tokF toks c.at_).n > 16 then ⟨c.l, c.n, c.at_, 6⟩ else ⟨c.l, c.n, c.at_ + 1, 0⟩) else ⟨c.l, c.n, c.at_, 11⟩) else c
def sizeN (c : Cur) : Int := if (sizeC toks c).e_ = 0 then (tokF toks c.at_).n else 0
def paramC (c : Cur) : Cur := addC c (underC (nameC toks (fromC c.at_)) (nd toks 39 (nameS toks (fromC c.at_)) 0 c.at_))
def chanC1 (c : Cur) : Cur := if seeB toks sLS c then eatC toks sRS (sizeC toks (eatC toks sLS c)) else c
def chanN (c : Cur) : Int := if seeB toks sLS c then sizeN toks (eatC toks sLS c) else 0
def procC1 (c : Cur) : Cur := if (decide (c.e_ = 0) && !isF toks c.at_ sRP) then loopC (seeB toks sComma) (fun c => paramC toks (eatC toks sComma c)) (fuel toks) (paramC toks c) else c
def declC (at_ : Int) : Cur :=
  if isF toks at_ sChan then
    underC (eatC toks sSemi (chanC1 toks (nameC toks (eatC toks sChan (fromC at_))))) (nd toks 38 (nameS toks (eatC toks sChan (fromC at_))) (chanN toks (nameC toks (eatC toks sChan (fromC at_)))) at_)
  else if isF toks at_ sProc then
    underC (inC (blkF M toks 24) (eatC toks sRP (procC1 toks (eatC toks sLP (nameC toks (eatC toks sProc (fromC at_))))))) (nd toks 40 (nameS toks (eatC toks sProc (fromC at_))) 0 at_)
  else underC (inC (blkF M toks 24) (eatC toks sMain (fromC at_))) (nd toks 41 [] 0 at_)
def unitC : Cur := loopC (fun c => decide (c.e_ = 0) && !decide ((tokF toks c.at_).kind = 0)) (fun c => addC c (declC M toks c.at_)) (fuel toks) (fromC 0)
def unitF : GR10_Got := if (unitC M toks).e_ ≠ 0 then ⟨[], (unitC M toks).at_, (unitC M toks).e_⟩ else ⟨(underC (unitC M toks) ⟨42, [], 0, 0, 0⟩).l, 0, 0⟩
end
structure Cw (toks : List GToken) (at0 : Int) (s q : Nat) (c : Cur) : Prop where
  z : 0 ≤ at0
  lo : at0 ≤ c.at_
  hi : c.at_ ≤ (toks.length : Int)
  w : c.e_ = 0 → (c.l.length : Int) + s ≤ c.at_ - at0
  b : (c.l.length : Int) ≤ c.at_ - at0 + q
section
variable {toks : List GToken} {at0 : Int} {s q : Nat} {c d : Cur}
theorem Cw.mono {s' q' : Nat} (h : Cw toks at0 s q c) (hs : s' ≤ s) (hq : q ≤ q') : Cw toks at0 s' q' c :=
  ⟨h.z, h.lo, h.hi, fun e => by have := h.w e; omega, by have := h.b; omega⟩
theorem cw_from {at_ : Int} (h0 : 0 ≤ at_) (h1 : at_ ≤ (toks.length : Int)) (q : Nat) : Cw toks at_ 0 q (fromC at_) := ⟨h0, Int.le_refl _, h1, fun _ => by simp [fromC], by simp [fromC]⟩
theorem tokF_end {at_ : Int} (h : (toks.length : Int) ≤ at_) : tokF toks at_ = ⟨0, [], 0, 0⟩ := by unfold tokF; rw [if_neg (by omega)]
theorem isF_lt {at_ : Int} {s : Str} (h : isF toks at_ s = true) : at_ < (toks.length : Int) := by
  by_cases hl : at_ < (toks.length : Int)
  · exact hl
  · unfold isF at h
    rw [tokF_end (by omega)] at h
    simp at h
theorem kind_lt {at_ : Int} (h : (tokF toks at_).kind ≠ 0) : at_ < (toks.length : Int) := by
  by_cases hl : at_ < (toks.length : Int)
  · exact hl
  · rw [tokF_end (by omega)] at h; exact absurd rfl h
theorem cw_eat (t : Str) (h : Cw toks at0 s q c) : Cw toks at0 (s + 1) q (eatC toks t c) := by
  obtain ⟨z, lo, hi, w, b⟩ := h
  unfold eatC
  split
  · rename_i he
    split
    · rename_i hs
      have := isF_lt hs
      have := w he
      exact ⟨z, by dsimp only; omega, by dsimp only; omega, fun _ => by dsimp only; omega, by dsimp only; omega⟩
    · exact ⟨z, lo, hi, fun h => by simp at h, b⟩
  · rename_i he
    exact ⟨z, lo, hi, fun h => absurd h he, b⟩
theorem cw_name (h : Cw toks at0 s q c) : Cw toks at0 (s + 1) q (nameC toks c) := by
  obtain ⟨z, lo, hi, w, b⟩ := h
  unfold nameC
  split
  · rename_i he
    split
    · rename_i hs
      have := kind_lt (toks := toks) (at_ := c.at_) (by omega)
      have := w he
      exact ⟨z, by dsimp only; omega, by dsimp only; omega, fun _ => by dsimp only; omega, by dsimp only; omega⟩
    · exact ⟨z, lo, hi, fun h => by simp at h, b⟩
  · rename_i he
    exact ⟨z, lo, hi, fun h => absurd h he, b⟩
theorem cw_size (h : Cw toks at0 s q c) : Cw toks at0 (s + 1) q (sizeC toks c) := by
  obtain ⟨z, lo, hi, w, b⟩ := h
  unfold sizeC
  split
  · rename_i he
    split
    · rename_i hs
      have := kind_lt (toks := toks) (at_ := c.at_) (by omega)
      have := w he
      split
      · exact ⟨z, lo, hi, fun h => by simp at h, b⟩
      · exact ⟨z, by dsimp only; omega, by dsimp only; omega, fun _ => by dsimp only; omega, by dsimp only; omega⟩
    · exact ⟨z, lo, hi, fun h => by simp at h, b⟩
  · rename_i he
    exact ⟨z, lo, hi, fun h => absurd h he, b⟩
theorem cw_add {q' s' : Nat} (h : Cw toks at0 s q c) (hd : c.e_ = 0 → Cw toks c.at_ s' q' d) (hq : q' ≤ q) : Cw toks at0 (s + s') q (addC c d) := by
  obtain ⟨z, lo, hi, w, b⟩ := h
  unfold addC
  split
  · rename_i he
    obtain ⟨z', lo', hi', w', b'⟩ := hd he
    have := w he
    refine ⟨z, by dsimp only; omega, hi', fun e => ?_, ?_⟩
    · have := w' e
      simp only [List.length_append]; omega
    · simp only [List.length_append]; omega
  · rename_i he
    exact ⟨z, lo, hi, fun h => absurd h he, b⟩
theorem cw_term (M : TermC) (h : Cw toks at0 s q c) : Cw toks at0 s q (termC M toks c) := by
  have h0 : 0 ≤ c.at_ := Int.le_trans h.z h.lo
  refine cw_add (s' := 0) (q' := 0) h (fun _ => ⟨h0, M.lo _ _ h0 h.hi, M.hi _ _ h0 h.hi, fun _ => ?_, ?_⟩) (Nat.zero_le _)
  · have := M.len _ _ h0 h.hi; simpa using this
  · have := M.len _ _ h0 h.hi; simpa using this
theorem cw_under {x : GNode} (h : Cw toks at0 (s + 1) q c) : Cw toks at0 s (q + 1) (underC c x) := by
  obtain ⟨z, lo, hi, w, b⟩ := h
  refine ⟨z, lo, hi, fun e => ?_, ?_⟩
  · have := w e
    simp only [underC, List.length_cons]; omega
  · simp only [underC, List.length_cons]; omega
theorem Cw.z1 (h : Cw toks at0 s q c) : 0 ≤ c.at_ := Int.le_trans h.z h.lo
theorem cw_err {at_ e : Int} (h0 : 0 ≤ at_) (h1 : at_ ≤ (toks.length : Int)) (he : e ≠ 0) (s q : Nat) : Cw toks at_ s q ⟨[], 0, at_, e⟩ := ⟨h0, Int.le_refl _, h1, fun h => absurd h he, by simp⟩
theorem cw_ref1 (M : TermC) (h : Cw toks at0 s q c) : Cw toks at0 s q (refC1 M toks c) := by
  unfold refC1
  split
  · exact (cw_eat _ (cw_term M (cw_eat _ h))).mono (by omega) (Nat.le_refl _)
  · exact h
theorem cw_ref (M : TermC) {at_ : Int} (h0 : 0 ≤ at_) (h1 : at_ ≤ (toks.length : Int)) : Cw toks at_ 0 1 (refC M toks at_) :=
  cw_under (cw_ref1 M (cw_name (cw_from h0 h1 0)))
theorem cw_comm2 (M : TermC) (a b : Int) (h : Cw toks at0 s q c) : Cw toks at0 (s + 1) q (commC2 M toks a b c).c := by
  unfold commC2
  split
  · exact cw_term M (cw_eat _ h)
  · exact (cw_name (cw_eat _ h)).mono (by omega) (Nat.le_refl _)
theorem cw_comm (M : TermC) (a b : Int) (h : Cw toks at0 s q c) (hq : 1 ≤ q) : Cw toks at0 (s + 1) q (commC M toks a b c).c := by
  unfold commC
  split
  · exact cw_comm2 M a b (cw_add h (fun _ => cw_ref M h.z1 h.hi) hq)
  · rename_i he
    exact ⟨h.z, h.lo, h.hi, fun h => absurd h he, h.b⟩
theorem loop_cw {g : Cur → Bool} {b : Cur → Cur} (hb : ∀ c, Cw toks at0 s q c → g c = true → Cw toks at0 s q (b c)) : ∀ (f : Nat) (c : Cur), Cw toks at0 s q c → Cw toks at0 s q (loopC g b f c)
  | 0, c, h => h
  | f + 1, c, h => by
    unfold loopC
    cases hg : g c with
    | true => rw [if_pos rfl]; exact loop_cw hb f _ (hb c h hg)
    | false => rw [if_neg (by simp)]; exact h
theorem cw_block {stmt : Int → Cur} (hs : ∀ at_, 0 ≤ at_ → at_ ≤ (toks.length : Int) → Cw toks at_ 0 q (stmt at_)) {at_ : Int} (h0 : 0 ≤ at_) (h1 : at_ ≤ (toks.length : Int)) : Cw toks at_ 1 (q + 1) (blockC toks stmt at_) :=
  cw_under (cw_eat _ (loop_cw (s := 1) (fun _ h _ => cw_add h (fun _ => hs _ h.z1 h.hi) (Nat.le_refl _)) _ _ (cw_eat _ (cw_from h0 h1 q))))
def Blk (toks : List GToken) (q : Nat) (blk : Int → Cur) : Prop := ∀ at_, 0 ≤ at_ → at_ ≤ (toks.length : Int) → Cw toks at_ 1 q (blk at_)
theorem cw_in {blk : Int → Cur} {q' : Nat} (hb : Blk toks q' blk) (h : Cw toks at0 s q c) (hq : q' ≤ q) : Cw toks at0 (s + 1) q (inC blk c) :=
  cw_add h (fun _ => hb _ h.z1 h.hi) hq
theorem cw_when (M : TermC) (h : Cw toks at0 s q c) : Cw toks at0 s q (whenC M toks c) := by
  unfold whenC
  split
  · exact (cw_eat _ (cw_term M (cw_eat _ h))).mono (by omega) (Nat.le_refl _)
  · exact h
theorem cw_after (M : TermC) (h : Cw toks at0 s q c) (hq : 1 ≤ q) : Cw toks at0 s q (afterC M toks c).c := by
  unfold afterC
  split
  · exact (cw_term M (cw_eat _ h)).mono (by omega) (Nat.le_refl _)
  · exact (cw_comm M _ _ h hq).mono (by omega) (Nat.le_refl _)
theorem cw_clause (M : TermC) {blk : Int → Cur} (hb : Blk toks q blk) (hq : 1 ≤ q) {at_ : Int} (h0 : 0 ≤ at_) (h1 : at_ ≤ (toks.length : Int)) : Cw toks at_ 1 (q + 1) (clauseC M toks blk at_) := by
  unfold clauseC
  split
  · exact cw_under (cw_in hb (cw_eat _ (cw_from h0 h1 q)) (Nat.le_refl _))
  · exact cw_under (cw_in hb (cw_after M (cw_when M (cw_eat _ (cw_from h0 h1 q))) hq) (Nat.le_refl _))
theorem cw_args (M : TermC) (h : Cw toks at0 s q c) : Cw toks at0 s q (argsC M toks c) := by
  unfold argsC
  refine (cw_eat (s := s) _ ?_).mono (by omega) (Nat.le_refl _)
  split
  · exact loop_cw (fun _ h _ => (cw_term M (cw_eat _ h)).mono (by omega) (Nat.le_refl _)) _ _ ((cw_term M (cw_eat _ h)).mono (by omega) (Nat.le_refl _))
  · exact (cw_eat _ h).mono (by omega) (Nat.le_refl _)
theorem cw_set (M : TermC) {at_ : Int} (h0 : 0 ≤ at_) (h1 : at_ ≤ (toks.length : Int)) : Cw toks at_ 1 1 (setC M toks at_) := by
  unfold setC
  split
  · exact (cw_under (cw_eat _ (cw_eat _ (cw_term M (cw_eat _ (cw_eat _ (cw_eat _ (cw_name (cw_from h0 h1 0))))))))).mono (by omega) (Nat.le_refl _)
  · exact (cw_under (cw_eat _ (cw_term M (cw_eat _ (cw_name (cw_from h0 h1 0)))))).mono (by omega) (Nat.le_refl _)
theorem cw_word (M : TermC) {blk : Int → Cur} (hb : Blk toks q blk) (hq : 1 ≤ q) {at_ : Int} (h0 : 0 ≤ at_) (h1 : at_ ≤ (toks.length : Int)) : Cw toks at_ 1 (q + 2) (wordC M toks blk at_) := by
  have hf := cw_from h0 h1 q
  have h11 := cw_err (toks := toks) h0 h1 (e := 11) (by decide) 1 (q + 2)
  unfold wordC
  dsimp only
  split
  · exact (cw_under (cw_eat _ (cw_term M (cw_eat _ (cw_name (cw_eat _ hf)))))).mono (by omega) (by omega)
  split
  · exact (cw_under (cw_eat _ (cw_args M (cw_name (cw_eat _ hf))))).mono (by omega) (by omega)
  split
  · exact (cw_under (cw_eat _ (cw_term M (cw_eat _ hf)))).mono (by omega) (by omega)
  split
  · exact (cw_under (cw_eat _ (cw_term M (cw_eat _ hf)))).mono (by omega) (by omega)
  split
  · exact (cw_under (cw_eat _ (cw_term M (cw_eat _ hf)))).mono (by omega) (by omega)
  split
  · exact (cw_under (cw_eat _ (cw_eat _ hf))).mono (by omega) (by omega)
  split
  · exact (cw_under (cw_eat _ (cw_eat _ hf))).mono (by omega) (by omega)
  split
  · exact (cw_under (cw_in hb (cw_term M (cw_eat _ hf)) (Nat.le_refl _))).mono (by omega) (by omega)
  split
  · have hi := cw_in hb (cw_term M (cw_eat sIf hf)) (Nat.le_refl _)
    refine (cw_under (s := 1) (q := q) ?_).mono (by omega) (by omega)
    unfold ifC
    split
    · exact (cw_in hb (cw_eat _ hi) (Nat.le_refl _)).mono (by omega) (Nat.le_refl _)
    · exact hi
  split
  · refine (cw_under (s := 2) (q := q + 1) (cw_eat _ ?_)).mono (by omega) (by omega)
    unfold selC
    have hf' := (cw_eat sLB (cw_eat sSelect hf)).mono (q' := q + 1) (Nat.le_refl _) (by omega)
    exact loop_cw (s := 2) (fun _ h _ => (cw_add h (fun _ => cw_clause M hb hq h.z1 h.hi) (Nat.le_refl _)).mono (by omega) (Nat.le_refl _)) _ _ ((cw_add hf' (fun _ => cw_clause M hb hq hf'.z1 hf'.hi) (Nat.le_refl _)).mono (by omega) (Nat.le_refl _))
  · exact h11
theorem cw_stmt (M : TermC) {blk : Int → Cur} (hb : Blk toks q blk) (hq : 1 ≤ q) {at_ : Int} (h0 : 0 ≤ at_) (h1 : at_ ≤ (toks.length : Int)) : Cw toks at_ 1 (q + 2) (stmtC M toks blk at_) := by
  unfold stmtC
  split
  · split
    · exact (cw_set M h0 h1).mono (by omega) (by omega)
    · exact (cw_under (cw_eat _ (cw_comm M _ _ (cw_from h0 h1 q) hq))).mono (by omega) (by omega)
  · split
    · exact cw_word M hb hq h0 h1
    · exact cw_err h0 h1 (by decide) _ _
theorem cw_blk (M : TermC) : ∀ k, Blk toks (3 * k + 2) (blkF M toks k)
  | 0, at_, h0, h1 => by
    unfold blkF
    split
    · exact cw_err h0 h1 (by decide) _ _
    · exact (cw_block (fun a h0 h1 => cw_from h0 h1 1) h0 h1).mono (by omega) (by omega)
  | k + 1, at_, h0, h1 => by
    unfold blkF
    exact (cw_block (fun a h0 h1 => (cw_stmt M (cw_blk M k) (by omega) h0 h1).mono (by omega) (Nat.le_refl _)) h0 h1).mono (by omega) (by omega)
theorem cw_param (h : Cw toks at0 s q c) (hq : 1 ≤ q) : Cw toks at0 s q (paramC toks c) :=
  cw_add h (fun _ => cw_under (cw_name (cw_from h.z1 h.hi 0))) hq
theorem cw_proc1 (h : Cw toks at0 s q c) (hq : 1 ≤ q) : Cw toks at0 s q (procC1 toks c) := by
  unfold procC1
  split
  · exact loop_cw (fun _ h _ => (cw_param (cw_eat _ h) hq).mono (by omega) (Nat.le_refl _)) _ _ (cw_param h hq)
  · exact h
theorem cw_chan1 (h : Cw toks at0 s q c) : Cw toks at0 s q (chanC1 toks c) := by
  unfold chanC1
  split
  · exact (cw_eat _ (cw_size (cw_eat _ h))).mono (by omega) (Nat.le_refl _)
  · exact h
theorem cw_decl (M : TermC) {at_ : Int} (h0 : 0 ≤ at_) (h1 : at_ ≤ (toks.length : Int)) : Cw toks at_ 1 100 (declC M toks at_) := by
  have hf := cw_from h0 h1 80
  unfold declC
  split
  · exact (cw_under (cw_eat _ (cw_chan1 (cw_name (cw_eat _ hf))))).mono (by omega) (by omega)
  split
  · exact (cw_under (cw_in (cw_blk M 24) (cw_eat _ (cw_proc1 (cw_eat _ (cw_name (cw_eat _ hf))) (by omega))) (by omega))).mono (by omega) (by omega)
  · exact (cw_under (cw_in (cw_blk M 24) (cw_eat _ hf) (by omega))).mono (by omega) (by omega)
def LI (toks : List GToken) (g : Cur → Bool) (b : Cur → Cur) (F : Cur) (f : Nat) (c : Cur) : Prop := loopC g b f c = F ∧ (c.e_ = 0 → (toks.length : Int) + 2 ≤ f + c.at_)
theorem LI.start {g : Cur → Bool} {b : Cur → Cur} (h : Cw toks at0 s q c) : LI toks g b (loopC g b (fuel toks) c) (fuel toks) c := ⟨rfl, fun _ => by have := h.z1; unfold fuel; omega⟩
theorem LI.step {g : Cur → Bool} {b : Cur → Cur} {F : Cur} {f : Nat} (h : LI toks g b F f c) (hg : g c = true) (he : c.e_ = 0) (hh : c.at_ ≤ (toks.length : Int)) (ha : (b c).e_ = 0 → c.at_ + 1 ≤ (b c).at_) : ∃ f', f' < f ∧ LI toks g b F f' (b c) := by
  have h2 := h.2 he
  obtain ⟨f, rfl⟩ : ∃ f', f = f' + 1 := ⟨f - 1, by omega⟩
  refine ⟨f, by omega, ?_, fun e => by have := ha e; omega⟩
  have := h.1
  rw [loopC, hg, if_pos rfl] at this
  exact this
theorem LI.stop {g : Cur → Bool} {b : Cur → Cur} {F : Cur} {f : Nat} (h : LI toks g b F f c) (hg : g c = false) : c = F := by
  have := h.1
  cases f with
  | zero => exact this
  | succ f => rw [loopC, hg, if_neg (by simp)] at this; exact this
theorem adv_add {s' q' : Nat} (h : Cw toks c.at_ (s' + 1) q' d) (he : c.e_ = 0) (hd : (addC c d).e_ = 0) : c.at_ + 1 ≤ (addC c d).at_ := by
  unfold addC at hd ⊢
  rw [if_pos he] at hd ⊢
  have := h.w hd
  dsimp only
  omega
theorem cw_unit (M : TermC) : Cw toks 0 0 100 (unitC M toks) :=
  loop_cw (fun _ h _ => (cw_add h (fun _ => cw_decl M h.z1 h.hi) (Nat.le_refl _)).mono (by omega) (Nat.le_refl _)) _ _ (cw_from (Int.le_refl _) (by omega) _)
end
end Go.Proofs.Ytdbdkdmgfiiljaa
namespace Go.Proofs.Ytdbdkdmgfiiljaa
open Go.Vc Go.Lv Go.Ty
section
variable {toks : List GToken} {at0 : Int} {s q : Nat} {c d : Cur}
theorem rtok_v {at_ : Int} (h0 : 0 ≤ at_) (K : GToken → Prop) (h : K (tokF toks at_)) : V_R10_Tok toks at_ K := by
  refine R10_Tok_lift _ _ _ (cond_intro (fun hc => ?_) fun hc => ?_)
  · have hlt : at_ < (toks.length : Int) := by simpa using hc
    refine ⟨⟨h0, hlt⟩, fun x hx => ?_⟩
    unfold tokF at h
    rw [if_pos hlt, hx] at h; exact h
  · have hlt : ¬ at_ < (toks.length : Int) := by simpa using hc
    unfold tokF at h
    rw [if_neg hlt] at h; exact h
theorem is_cond (x : GToken) (t : Str) (K : Bool → Prop) (h : K ((x.kind == 3 || x.kind == 4) && (x.text == t))) : cond (x.kind == 3) (K (x.text == t)) (cond (x.kind == 4) (K (x.text == t)) (K false)) := by
  refine cond_intro (fun h3 => ?_) fun h3 => cond_intro (fun h4 => ?_) fun h4 => ?_
  · rw [h3] at h; exact h
  · rw [h3, h4] at h; exact h
  · rw [h3, h4] at h; exact h
theorem ris_v {at_ : Int} (h0 : 0 ≤ at_) (t : Str) (K : Bool → Prop) (h : K (isF toks at_ t)) : V_R11_is toks at_ t K :=
  R11_is_lift _ _ _ _ (rtok_v h0 _ (is_cond _ t K h))
theorem rfrom_v {at_ : Int} (K : Cur → Prop) (h : K (fromC at_)) : V_R11_from at_ K := R11_from_lift _ _ h
theorem rsee {e at_ : Int} (h0 : 0 ≤ at_) (t : Str) {A B : Prop} (hA : (decide (e = 0) && isF toks at_ t) = true → A) (hB : (decide (e = 0) && isF toks at_ t) = false → B) :
    ∃ J1 : Bool → Prop, (cond (e == 0) (V_R11_is toks at_ t (fun x => J1 x)) (J1 false)) ∧ ∀ x, J1 x → cond x A B := by
  refine ⟨fun x => x = (decide (e = 0) && isF toks at_ t), cond_intro (fun he => ?_) (fun he => ?_), ?_⟩
  · have he : e = 0 := by simpa using he
    subst he
    exact ris_v h0 t _ rfl
  · have he : ¬ e = 0 := by simpa using he
    show false = _
    rw [decide_eq_false he]; rfl
  · rintro _ rfl
    exact cond_intro hA hB
theorem rseeN {e at_ : Int} (h0 : 0 ≤ at_) (t : Str) {A B : Prop} (hA : (decide (e = 0) && !isF toks at_ t) = true → A) (hB : (decide (e = 0) && !isF toks at_ t) = false → B) :
    ∃ J1 : Bool → Prop, (cond (e == 0) (V_R11_is toks at_ t (fun x => J1 (!x))) (J1 false)) ∧ ∀ x, J1 x → cond x A B := by
  refine ⟨fun x => x = (decide (e = 0) && !isF toks at_ t), cond_intro (fun he => ?_) (fun he => ?_), ?_⟩
  · have he : e = 0 := by simpa using he
    subst he
    exact ris_v h0 t _ rfl
  · have he : ¬ e = 0 := by simpa using he
    show false = _
    rw [decide_eq_false he]; rfl
  · rintro _ rfl
    exact cond_intro hA hB
theorem reat_v (hN : toks.length < 1000000) (hc : Cw toks at0 s q c) (t : Str) (K : Cur → Prop) (h : K (eatC toks t c)) : V_R11_cur_eat c toks t K := by
  have h0 := hc.z1
  have h1 := hc.hi
  refine R11_cur_eat_lift _ _ _ _ ⟨fun l n a e => l = c.l ∧ n = c.n ∧ a = c.at_ ∧ e = if decide (c.e_ = 0) && !isF toks c.at_ t then 11 else c.e_, rseeN h0 t (fun hA => ⟨rfl, rfl, rfl, by rw [if_pos hA]⟩) (fun hB => ⟨rfl, rfl, rfl, by rw [if_neg (by rw [hB]; simp)]⟩), ?_⟩
  rintro _ _ _ _ ⟨rfl, rfl, rfl, rfl⟩
  refine ⟨fun l n a e => ⟨l, n, a, e⟩ = eatC toks t c, ?_, fun _ _ _ _ he => by rw [he]; exact h⟩
  unfold eatC
  by_cases he : c.e_ = 0
  · rw [if_pos he]
    cases hi : isF toks c.at_ t with
    | true =>
      rw [decide_eq_true he]
      have := isF_lt hi
      refine cond_t (by rw [he]; rfl) ?_
      show _ = _
      rw [wrap_in (by omega) (by omega), he]; rfl
    | false =>
      rw [decide_eq_true he]
      exact cond_f rfl rfl
  · rw [if_neg he, decide_eq_false he]
    refine cond_f (by simpa using he) ?_
    rfl
theorem radd_v (K : Cur → Prop) (hl : c.e_ = 0 → c.l.length + d.l.length < 2 ^ 32) (h : K (addC c d)) : V_R11_cur_add c d K := by
  refine R11_cur_add_lift _ _ _ (cond_intro (fun he => ?_) fun he => ?_)
  · have he : ¬ c.e_ = 0 := by simpa using he
    unfold addC at h; rw [if_neg he] at h; exact h
  · have he : c.e_ = 0 := by simpa using he
    unfold addC at h; rw [if_pos he] at h
    have := hl he
    exact ⟨by omega, this, h⟩
theorem runder_v (x : GNode) (K : Cur → Prop) (hl : c.l.length < 2 ^ 31) (h : K (underC c x)) : V_R11_cur_under c x K :=
  R11_cur_under_lift _ _ _ ⟨by simp only [List.length_cons, List.length_nil]; omega, h⟩
theorem Cw.len (hN : toks.length < 1000000) (hc : Cw toks at0 s q c) (hq : q ≤ 1000) : c.l.length < 2000000 := by
  have := hc.b; have := hc.lo; have := hc.hi; have := hc.z
  omega
theorem Cw.sum {q' s' : Nat} (hN : toks.length < 1000000) (hc : Cw toks at0 s q c) (hd : Cw toks c.at_ s' q' d) (hq : q ≤ 1000) (hq' : q' ≤ 1000) : c.l.length + d.l.length < 2 ^ 32 := by
  have := hc.len hN hq; have := hd.len hN hq'
  omega
theorem rterm_v (M : TermC) (hN : toks.length < 1000000) (hc : Cw toks at0 s q c) (hq : q ≤ 1000) (K : Cur → Prop) (h : K (termC M toks c)) : V_R11_cur_term c toks K := by
  have h0 := hc.z1
  refine R11_cur_term_lift _ _ _ (cond_intro (fun he => ?_) fun he => ?_)
  · have he : ¬ c.e_ = 0 := by simpa using he
    unfold termC addC at h; rw [if_neg he] at h; exact h
  · refine M.rv toks (by omega) _ h0 hc.hi _ (radd_v _ (fun _ => ?_) h)
    have h1 := hc.len hN hq
    have h2 := M.len toks _ h0 hc.hi
    have h3 := M.hi toks _ h0 hc.hi
    dsimp only
    omega
theorem rname_v (hN : toks.length < 1000000) (hc : Cw toks at0 s q c) (K : Cur → Str → Prop) (h : K (nameC toks c) (nameS toks c)) : V_R11_cur_name c toks K := by
  have h0 := hc.z1
  have h1 := hc.hi
  refine R11_cur_name_lift _ _ _ (rtok_v h0 _ ⟨fun l n a e => l = c.l ∧ n = c.n ∧ a = c.at_ ∧ e = if c.e_ = 0 ∧ (tokF toks c.at_).kind ≠ 1 then 11 else c.e_, ?_, ?_⟩)
  · refine ⟨fun x => x = decide (c.e_ = 0 ∧ (tokF toks c.at_).kind ≠ 1), cond_intro (fun he => ?_) (fun he => ?_), ?_⟩
    · have he : c.e_ = 0 := by simpa using he
      show _ = _
      rw [Bool.eq_iff_iff]; simp [he]
    · have he : ¬ c.e_ = 0 := by simpa using he
      show false = _
      rw [decide_eq_false (fun h => he h.1)]
    · rintro _ rfl
      refine cond_intro (fun hh => ⟨rfl, rfl, rfl, by rw [if_pos (of_decide_eq_true hh)]⟩) (fun hh => ⟨rfl, rfl, rfl, by rw [if_neg (of_decide_eq_false hh)]⟩)
  · rintro _ _ _ _ ⟨rfl, rfl, rfl, rfl⟩
    unfold nameC nameS at h
    by_cases he : c.e_ = 0
    · rw [if_pos he, if_pos he] at h
      by_cases hk : (tokF toks c.at_).kind = 1
      · rw [if_pos hk, if_pos hk] at h
        have := kind_lt (toks := toks) (at_ := c.at_) (by omega)
        rw [if_neg (fun hh => hh.2 hk)]
        refine cond_f (by simpa using he) ?_
        rw [wrap_in (by omega) (by omega), he]; exact h
      · rw [if_neg hk, if_neg hk] at h
        rw [if_pos ⟨he, hk⟩]; exact h
    · rw [if_neg he, if_neg he] at h
      rw [if_neg (fun hh => he hh.1)]
      exact cond_t (by simpa using he) h
theorem rref_v (M : TermC) (hN : toks.length < 1000000) {at_ : Int} (h0 : 0 ≤ at_) (h1 : at_ ≤ (toks.length : Int)) (K : Cur → Prop) (h : K (refC M toks at_)) : V_R11_ref toks at_ K := by
  have hf := cw_from h0 h1 0
  have hn := cw_name hf
  refine R11_ref_lift _ _ _ (rfrom_v _ (rname_v hN hf _ ⟨fun l n a e => ⟨l, n, a, e⟩ = refC1 M toks (nameC toks (fromC at_)), rsee hn.z1 sLS (fun hA => ?_) (fun hB => ?_), ?_⟩))
  · have e1 := cw_eat sLS hn
    refine reat_v hN hn sLS _ (rterm_v M hN e1 (by omega) _ (reat_v hN (cw_term M e1) sRS _ ?_))
    unfold refC1; rw [if_pos (show seeB toks sLS _ = true from hA)]
  · unfold refC1; rw [if_neg (by rw [show seeB toks sLS _ = false from hB]; simp)]
  · intro l n a e he
    refine rtok_v h0 _ ?_
    rw [he]
    exact runder_v _ _ (by have := (cw_ref1 M hn).len hN (by omega); omega) h
theorem rin_v {q' : Nat} (hN : toks.length < 1000000) {blk : Int → Cur} {deep : Int} (hb : Blk toks q' blk) (hq' : q' ≤ 1000) (hB : ∀ at_, 0 ≤ at_ → at_ ≤ (toks.length : Int) → ∀ K : Cur → Prop, K (blk at_) → V_R11_block toks at_ deep K)
    (hc : Cw toks at0 s q c) (hq : q ≤ 1000) (K : Cur → Prop) (h : K (inC blk c)) : V_R11_cur_in c toks deep K := by
  refine R11_cur_in_lift _ _ _ _ (cond_intro (fun he => ?_) fun he => ?_)
  · have he : ¬ c.e_ = 0 := by simpa using he
    unfold inC addC at h; rw [if_neg he] at h; exact h
  · exact hB _ hc.z1 hc.hi _ (radd_v _ (fun _ => hc.sum hN (hb _ hc.z1 hc.hi) hq hq') h)
theorem rcomm_v (M : TermC) (hN : toks.length < 1000000) (a b : Int) (hc : Cw toks at0 s q c) (h1q : 1 ≤ q) (hq : q ≤ 1000) (K : Cur → Int → Str → Prop) (h : K (commC M toks a b c).c (commC M toks a b c).op (commC M toks a b c).name) : V_R11_cur_comm c toks a b K := by
  refine R11_cur_comm_lift _ _ _ _ _ (cond_intro (fun he => ?_) fun he => ?_)
  · have he : ¬ c.e_ = 0 := by simpa using he
    unfold commC at h; rw [if_neg he] at h; exact h
  · have he : c.e_ = 0 := by simpa using he
    unfold commC at h; rw [if_pos he] at h
    have hr := cw_ref M hc.z1 hc.hi
    have ha := cw_add hc (fun _ => hr) h1q
    refine ⟨fun l n x e => ⟨l, n, x, e⟩ = addC c (refC M toks c.at_), rref_v M hN hc.z1 hc.hi _ (radd_v _ (fun _ => hc.sum hN hr hq (by omega)) rfl), ?_⟩
    intro l n x e hx
    rw [← hx] at h ha
    refine rsee ha.z1 sBang (fun hA => ?_) (fun hB => ?_)
    · unfold commC2 at h
      rw [if_pos (show seeB toks sBang ⟨l, n, x, e⟩ = true from hA)] at h
      exact reat_v hN ha sBang _ (rterm_v M hN (cw_eat _ ha) hq _ h)
    · unfold commC2 at h
      rw [if_neg (by rw [show seeB toks sBang ⟨l, n, x, e⟩ = false from hB]; simp)] at h
      exact reat_v hN ha sAsk _ (rname_v hN (cw_eat _ ha) _ h)
theorem see_eat {t : Str} (h : (decide (c.e_ = 0) && isF toks c.at_ t) = true) : eatC toks t c = ⟨c.l, c.n, c.at_ + 1, 0⟩ := by
  simp only [Bool.and_eq_true, decide_eq_true_eq] at h
  unfold eatC
  rw [if_pos h.1, if_pos h.2]
theorem term_at (M : TermC) (hc : Cw toks at0 s q c) (he : c.e_ = 0) : c.at_ ≤ (termC M toks c).at_ := by
  unfold termC addC
  rw [if_pos he]
  exact M.lo _ _ hc.z1 hc.hi
theorem rargs_v (M : TermC) (hN : toks.length < 1000000) (hc : Cw toks at0 s q c) (hq : q ≤ 1000) (K : Cur → Prop) (h : K (argsC M toks c)) : V_R11_cur_args c toks K := by
  have e1 := cw_eat sLP hc
  refine R11_cur_args_lift _ _ _ (reat_v hN hc sLP _ ?_)
  unfold argsC at h
  refine ⟨fun l n a e => K (eatC toks sRP ⟨l, n, a, e⟩) ∧ Cw toks at0 s q ⟨l, n, a, e⟩, rseeN e1.z1 sRP (fun hA => ?_) (fun hB => ?_), ?_⟩
  · rw [if_pos hA] at h
    have t1 := (cw_term M e1).mono (s' := s) (by omega) (Nat.le_refl _)
    refine rterm_v M hN e1 hq _ ⟨fun l n a e f => Cw toks at0 s q ⟨l, n, a, e⟩ ∧ LI toks (seeB toks sComma) (fun c => termC M toks (eatC toks sComma c)) (loopC (seeB toks sComma) (fun c => termC M toks (eatC toks sComma c)) (fuel toks) (termC M toks (eatC toks sLP c))) f ⟨l, n, a, e⟩, ⟨_, t1, LI.start t1⟩, ?_⟩
    rintro l n a e f ⟨hw, hl⟩
    refine rsee hw.z1 sComma (fun hA => ?_) (fun hB => ?_)
    · have e2 := cw_eat sComma hw
      refine reat_v hN hw sComma _ (rterm_v M hN e2 hq _ ?_)
      have hw2 := cw_term M e2
      have hst := hl.step hA (by simp at hA; exact hA.1) hw.hi (fun hd => ?_)
      · obtain ⟨f', hf', hl'⟩ := hst
        exact ⟨f', hf', hw2.mono (by omega) (Nat.le_refl _), hl'⟩
      · have hs := see_eat (c := ⟨l, n, a, e⟩) hA
        have := term_at M e2 (by rw [hs])
        rw [hs] at this ⊢
        exact this
    · rw [← hl.stop hB] at h
      exact ⟨h, hw⟩
  · rw [if_neg (by rw [hB]; simp)] at h
    exact ⟨h, e1.mono (by omega) (Nat.le_refl _)⟩
  · rintro l n a e ⟨h, hw⟩
    exact reat_v hN hw sRP _ h
end
end Go.Proofs.Ytdbdkdmgfiiljaa
namespace Go.Proofs.Ytdbdkdmgfiiljaa
open Go.Vc Go.Lv Go.Ty
section
variable {toks : List GToken} {at0 : Int} {s q : Nat} {c d : Cur}
theorem rset_v (M : TermC) (hN : toks.length < 1000000) {at_ : Int} (h0 : 0 ≤ at_) (h1 : at_ ≤ (toks.length : Int)) (K : Cur → Prop) (h : K (setC M toks at_)) : V_R11_set toks at_ ⟨0, [], 0, 0, (tokF toks at_).at_⟩ K := by
  have hf := cw_from h0 h1 0
  have hn := cw_name hf
  have e1 := cw_eat sEq hn
  refine R11_set_lift _ _ _ _ (rfrom_v _ (rname_v hN hf _ (reat_v hN hn sEq _ ?_)))
  refine ⟨fun l n a e op nm N kids at' => nm = nameS toks (fromC at_) ∧ N = 0 ∧ kids = 0 ∧ at' = (tokF toks at_).at_ ∧ Cw toks at_ 1 0 ⟨l, n, a, e⟩ ∧ setC M toks at_ = underC (eatC toks sSemi ⟨l, n, a, e⟩) (nd toks op (nameS toks (fromC at_)) 0 at_), rsee e1.z1 sRandom (fun hA => ?_) (fun hB => ?_), ?_⟩
  · have e2 := cw_eat sRandom e1
    have e3 := cw_eat sLP e2
    have e4 := cw_term M e3
    have e5 := cw_eat sRP e4
    refine reat_v hN e1 sRandom _ (reat_v hN e2 sLP _ (rterm_v M hN e3 (by omega) _ (reat_v hN e4 sRP _ ⟨rfl, rfl, rfl, rfl, e5.mono (by omega) (by omega), ?_⟩)))
    unfold setC; rw [if_pos (show seeB toks sRandom _ = true from hA)]
  · have e4 := cw_term M e1
    refine rterm_v M hN e1 (by omega) _ ⟨rfl, rfl, rfl, rfl, e4.mono (by omega) (by omega), ?_⟩
    unfold setC; rw [if_neg (by rw [show seeB toks sRandom _ = false from hB]; simp)]
  · rintro l n a e op nm N kids at' ⟨rfl, rfl, rfl, rfl, hw, he⟩
    rw [he] at h
    exact reat_v hN hw sSemi _ (runder_v _ _ (by have := (cw_eat sSemi hw).len hN (by omega); omega) h)
def RB (M : TermC) (toks : List GToken) (k : Nat) : Prop := ∀ at_, 0 ≤ at_ → at_ ≤ (toks.length : Int) → ∀ K : Cur → Prop, K (blkF M toks k at_) → V_R11_block toks at_ (25 - (k : Int)) K
def RS (M : TermC) (toks : List GToken) (k : Nat) : Prop := ∀ at_, 0 ≤ at_ → at_ ≤ (toks.length : Int) → ∀ K : Cur → Prop, K (stmtC M toks (blkF M toks k) at_) → V_R11_stmt toks at_ (24 - (k : Int)) K
theorem wrap_deep {k : Nat} (hk : k ≤ 24) : IntKind.i64.wrap ((24 - (k : Int)) + 1) = 25 - (k : Int) := by rw [wrap_in (by omega) (by omega)]; omega
theorem rclause_v (M : TermC) (hN : toks.length < 1000000) {k : Nat} (hk : k ≤ 24) (hB : RB M toks k) {at_ : Int} (h0 : 0 ≤ at_) (h1 : at_ ≤ (toks.length : Int)) (K : Cur → Prop) (h : K (clauseC M toks (blkF M toks k) at_)) : V_R11_clause toks at_ (24 - (k : Int)) K := by
  have hb := cw_blk (toks := toks) M k
  have hf := cw_from h0 h1 200
  refine R11_clause_lift _ _ _ _ (rtok_v h0 _ (ris_v h0 sElse _ (cond_intro (fun hA => ?_) fun hA => ?_)))
  · unfold clauseC at h; rw [if_pos hA] at h
    have e1 := cw_eat sElse hf
    have i1 := cw_in hb e1 (by omega)
    refine rfrom_v _ (reat_v hN hf sElse _ ?_)
    rw [wrap_deep hk]
    exact rin_v hN hb (by omega) hB e1 (by omega) _ (runder_v _ _ (by have := i1.len hN (by omega); omega) h)
  · unfold clauseC at h; rw [if_neg (by rw [hA]; simp)] at h
    have e1 := cw_eat sCase hf
    refine rfrom_v _ (reat_v hN hf sCase _ ?_)
    generalize hc1 : eatC toks sCase (fromC at_) = c1 at h e1
    have w1 := cw_when M e1
    refine ⟨fun l n a e op nm N kids at' => op = 0 ∧ nm = [] ∧ N = whenN toks c1 ∧ kids = 0 ∧ at' = (tokF toks at_).at_ ∧ ⟨l, n, a, e⟩ = whenC M toks c1, rsee e1.z1 sWhen (fun hA => ?_) (fun hB => ?_), ?_⟩
    · have e2 := cw_eat sWhen e1
      refine reat_v hN e1 sWhen _ (rterm_v M hN e2 (by omega) _ (reat_v hN (cw_term M e2) sColon _ ⟨rfl, rfl, ?_, rfl, rfl, ?_⟩))
      · unfold whenN; rw [if_pos (show seeB toks sWhen c1 = true from hA)]
      · unfold whenC; rw [if_pos (show seeB toks sWhen c1 = true from hA)]
    · refine ⟨rfl, rfl, ?_, rfl, rfl, ?_⟩
      · unfold whenN; rw [if_neg (by rw [show seeB toks sWhen c1 = false from hB]; simp)]
      · unfold whenC; rw [if_neg (by rw [show seeB toks sWhen c1 = false from hB]; simp)]
    · rintro l n a e _ _ _ _ _ ⟨rfl, rfl, rfl, rfl, rfl, hx⟩
      generalize whenC M toks c1 = c2 at h w1 hx
      subst hx
      have a1 := cw_after M w1 (by omega)
      refine ⟨fun l1 n1 a1 e1 op nm N kids at' => op = (afterC M toks ⟨l, n, a, e⟩).op ∧ nm = (afterC M toks ⟨l, n, a, e⟩).name ∧ N = whenN toks c1 ∧ kids = 0 ∧ at' = (tokF toks at_).at_ ∧ ⟨l1, n1, a1, e1⟩ = (afterC M toks ⟨l, n, a, e⟩).c, rsee w1.z1 sAfter (fun hA => ?_) (fun hB => ?_), ?_⟩
      · have e2 := cw_eat sAfter w1
        refine reat_v hN w1 sAfter _ (rterm_v M hN e2 (by omega) _ ?_)
        unfold afterC; rw [if_pos (show seeB toks sAfter ⟨l, n, a, e⟩ = true from hA)]
        exact ⟨rfl, rfl, rfl, rfl, rfl, rfl⟩
      · refine rcomm_v M hN 35 34 w1 (by omega) (by omega) _ ?_
        unfold afterC; rw [if_neg (by rw [show seeB toks sAfter ⟨l, n, a, e⟩ = false from hB]; simp)]
        exact ⟨rfl, rfl, rfl, rfl, rfl, rfl⟩
      · rintro l1 n1 x1 e1 _ _ _ _ _ ⟨rfl, rfl, rfl, rfl, rfl, hx⟩
        rw [hx, wrap_deep hk]
        have i1 := cw_in hb a1 (by omega)
        exact rin_v hN hb (by omega) hB a1 (by omega) _ (runder_v _ _ (by have := i1.len hN (by omega); omega) h)
theorem rone_v (M : TermC) (hN : toks.length < 1000000) (t : Str) (op : Int) {at_ : Int} (h0 : 0 ≤ at_) (h1 : at_ ≤ (toks.length : Int)) (K : Cur → Prop) (h : K (oneC M toks t op at_)) :
    V_R11_cur_eat (fromC at_) toks t (fun x16 => V_R11_cur_term x16 toks (fun x17 => V_R11_cur_eat x17 toks [59] (fun x18 => V_R11_cur_under x18 (⟨op, [], 0, 0, (tokF toks at_).at_⟩ : GNode) (fun x19 => K x19)))) := by
  have hf := cw_from h0 h1 0
  have e1 := cw_eat t hf
  have e2 := cw_term M e1
  have e3 := cw_eat sSemi e2
  exact reat_v hN hf t _ (rterm_v M hN e1 (by omega) _ (reat_v hN e2 sSemi _ (runder_v _ _ (by have := e3.len hN (by omega); omega) h)))
theorem rnone_v (hN : toks.length < 1000000) (t : Str) (op : Int) {at_ : Int} (h0 : 0 ≤ at_) (h1 : at_ ≤ (toks.length : Int)) (K : Cur → Prop) (h : K (noneC toks t op at_)) :
    V_R11_cur_eat (fromC at_) toks t (fun x16 => V_R11_cur_eat x16 toks [59] (fun x18 => V_R11_cur_under x18 (⟨op, [], 0, 0, (tokF toks at_).at_⟩ : GNode) (fun x19 => K x19))) := by
  have hf := cw_from h0 h1 0
  have e1 := cw_eat t hf
  have e3 := cw_eat sSemi e1
  exact reat_v hN hf t _ (reat_v hN e1 sSemi _ (runder_v _ _ (by have := e3.len hN (by omega); omega) h))
theorem rstmt_v (M : TermC) (hN : toks.length < 1000000) {k : Nat} (hk : k ≤ 24) (hB : RB M toks k) : RS M toks k := by
  intro at_ h0 h1 K h
  have hb := cw_blk (toks := toks) M k
  have hf := cw_from h0 h1 200
  refine R11_stmt_lift _ _ _ _ (rtok_v h0 _ (rfrom_v _ ⟨fun x => x = (decide ((tokF toks at_).kind = 1) && isF toks (at_ + 1) sEq), ?_, ?_⟩))
  · refine cond_intro (fun hc => ?_) fun hc => ?_
    · have hk1 : (tokF toks at_).kind = 1 := by simpa using hc
      rw [wrap_in (by omega) (by omega)]
      refine ris_v (by omega) sEq _ ?_
      rw [decide_eq_true hk1]; rfl
    · have hk1 : ¬ (tokF toks at_).kind = 1 := by simpa using hc
      show false = _
      rw [decide_eq_false hk1]; rfl
  rintro _ rfl
  unfold stmtC at h
  refine cond_intro (fun hc => ?_) fun hc => cond_intro (fun h1k => ?_) fun h1k => cond_intro (fun h3 => ?_) fun h3 => ?_
  · simp only [Bool.and_eq_true, decide_eq_true_eq] at hc
    rw [if_pos hc.1, if_pos hc.2] at h
    exact rset_v M hN h0 h1 _ h
  · have hk1 : (tokF toks at_).kind = 1 := by simpa using h1k
    rw [hk1] at hc
    rw [if_pos hk1, if_neg (by simpa using hc)] at h
    have c1 := cw_comm M 21 22 hf (by omega)
    exact rcomm_v M hN 21 22 hf (by omega) (by omega) _ (reat_v hN c1 sSemi _ (runder_v _ _ (by have := (cw_eat sSemi c1).len hN (by omega); omega) h))
  · have hk1 : ¬ (tokF toks at_).kind = 1 := by simpa using h1k
    have hk3 : ¬ (tokF toks at_).kind = 3 := by simpa using h3
    rw [if_neg hk1, if_neg hk3] at h
    exact h
  · have hk1 : ¬ (tokF toks at_).kind = 1 := by simpa using h1k
    have hk3 : (tokF toks at_).kind = 3 := by simpa using h3
    rw [if_neg hk1, if_pos hk3] at h
    clear hc h1k h3
    unfold wordC at h
    dsimp only at h
    refine cond_intro (fun e => ?_) fun e => ?_
    · rw [if_pos (show (tokF toks at_).text = sVar from eq_of_beq e)] at h
      have e1 := cw_eat sVar hf
      have e2 := cw_name e1
      have e3 := cw_eat sEq e2
      have e4 := cw_term M e3
      have e5 := cw_eat sSemi e4
      exact reat_v hN hf sVar _ (rname_v hN e1 _ (reat_v hN e2 sEq _ (rterm_v M hN e3 (by omega) _ (reat_v hN e4 sSemi _ (runder_v _ _ (by have := e5.len hN (by omega); omega) h)))))
    rw [if_neg (show ¬ (tokF toks at_).text = sVar from ne_of_beq_false e)] at h
    refine cond_intro (fun e => ?_) fun e => ?_
    · rw [if_pos (show (tokF toks at_).text = sStart from eq_of_beq e)] at h
      have e1 := cw_eat sStart hf
      have e2 := cw_name e1
      have e3 := cw_args M e2
      have e5 := cw_eat sSemi e3
      exact reat_v hN hf sStart _ (rname_v hN e1 _ (rargs_v M hN e2 (by omega) _ (reat_v hN e3 sSemi _ (runder_v _ _ (by have := e5.len hN (by omega); omega) h))))
    rw [if_neg (show ¬ (tokF toks at_).text = sStart from ne_of_beq_false e)] at h
    refine cond_intro (fun e => ?_) fun e => ?_
    · rw [if_pos (show (tokF toks at_).text = sSleep from eq_of_beq e)] at h
      exact rone_v M hN sSleep 27 h0 h1 _ h
    rw [if_neg (show ¬ (tokF toks at_).text = sSleep from ne_of_beq_false e)] at h
    refine cond_intro (fun e => ?_) fun e => ?_
    · rw [if_pos (show (tokF toks at_).text = sPrint from eq_of_beq e)] at h
      exact rone_v M hN sPrint 28 h0 h1 _ h
    rw [if_neg (show ¬ (tokF toks at_).text = sPrint from ne_of_beq_false e)] at h
    refine cond_intro (fun e => ?_) fun e => ?_
    · rw [if_pos (show (tokF toks at_).text = sAssert from eq_of_beq e)] at h
      exact rone_v M hN sAssert 29 h0 h1 _ h
    rw [if_neg (show ¬ (tokF toks at_).text = sAssert from ne_of_beq_false e)] at h
    refine cond_intro (fun e => ?_) fun e => ?_
    · rw [if_pos (show (tokF toks at_).text = sSkip from eq_of_beq e)] at h
      exact rnone_v hN sSkip 30 h0 h1 _ h
    rw [if_neg (show ¬ (tokF toks at_).text = sSkip from ne_of_beq_false e)] at h
    refine cond_intro (fun e => ?_) fun e => ?_
    · rw [if_pos (show (tokF toks at_).text = sStop from eq_of_beq e)] at h
      exact rnone_v hN sStop 31 h0 h1 _ h
    rw [if_neg (show ¬ (tokF toks at_).text = sStop from ne_of_beq_false e)] at h
    refine cond_intro (fun e => ?_) fun e => ?_
    · rw [if_pos (show (tokF toks at_).text = sWhile from eq_of_beq e)] at h
      have e1 := cw_eat sWhile hf
      have e2 := cw_term M e1
      have e3 := cw_in hb e2 (by omega)
      refine reat_v hN hf sWhile _ (rterm_v M hN e1 (by omega) _ ?_)
      rw [wrap_deep hk]
      exact rin_v hN hb (by omega) hB e2 (by omega) _ (runder_v _ _ (by have := e3.len hN (by omega); omega) h)
    rw [if_neg (show ¬ (tokF toks at_).text = sWhile from ne_of_beq_false e)] at h
    refine cond_intro (fun e => ?_) fun e => ?_
    · rw [if_pos (show (tokF toks at_).text = sIf from eq_of_beq e)] at h
      have e1 := cw_eat sIf hf
      have e2 := cw_term M e1
      have e3 := cw_in hb e2 (by omega)
      refine reat_v hN hf sIf _ (rterm_v M hN e1 (by omega) _ ?_)
      rw [wrap_deep hk]
      refine rin_v hN hb (by omega) hB e2 (by omega) _ ?_
      generalize inC (blkF M toks k) (termC M toks (eatC toks sIf (fromC at_))) = c1 at h e3
      refine ⟨fun l n a e => ⟨l, n, a, e⟩ = ifC toks (blkF M toks k) c1, rsee e3.z1 sElse (fun hA => ?_) (fun hB' => ?_), ?_⟩
      · have e4 := cw_eat sElse e3
        refine reat_v hN e3 sElse _ (rin_v hN hb (by omega) hB e4 (by omega) _ ?_)
        unfold ifC; rw [if_pos (show seeB toks sElse c1 = true from hA)]
      · unfold ifC; rw [if_neg (by rw [show seeB toks sElse c1 = false from hB']; simp)]
      · intro l n a e hx
        rw [hx]
        refine runder_v _ _ ?_ h
        unfold ifC
        split
        · have := (cw_in hb (cw_eat sElse e3) (by omega)).len hN (by omega); omega
        · have := e3.len hN (by omega); omega
    rw [if_neg (show ¬ (tokF toks at_).text = sIf from ne_of_beq_false e)] at h
    refine cond_intro (fun e => ?_) fun e => ?_
    · rw [if_pos (show (tokF toks at_).text = sSelect from eq_of_beq e)] at h
      have e1 := cw_eat sSelect hf
      have e2 := cw_eat sLB e1
      refine reat_v hN hf sSelect _ (reat_v hN e1 sLB _ ?_)
      generalize eatC toks sLB (eatC toks sSelect (fromC at_)) = c1 at h e2
      have hcl : ∀ {a : Int}, 0 ≤ a → a ≤ (toks.length : Int) → Cw toks a 1 (3 * k + 3) (clauseC M toks (blkF M toks k) a) := fun ha hb' => cw_clause M hb (by omega) ha hb'
      have a1 := (cw_add e2 (fun _ => hcl e2.z1 e2.hi) (by omega)).mono (s' := 2) (by omega) (Nat.le_refl _)
      refine ⟨fun l n a e => ⟨l, n, a, e⟩ = addC c1 (clauseC M toks (blkF M toks k) c1.at_), cond_intro (fun he => ?_) (fun he => ?_), ?_⟩
      · exact rclause_v M hN hk hB e2.z1 e2.hi _ (radd_v _ (fun _ => e2.sum hN (hcl e2.z1 e2.hi) (by omega) (by omega)) rfl)
      · show c1 = _
        unfold addC
        rw [if_neg (by simpa using he)]
      · intro l n a e hx
        rw [← hx] at a1
        unfold selC at h
        rw [← hx] at h
        generalize hF : loopC (fun c => decide (c.e_ = 0) && !isF toks c.at_ sRB) (fun c => addC c (clauseC M toks (blkF M toks k) c.at_)) (fuel toks) ⟨l, n, a, e⟩ = F at h
        refine ⟨fun l n a e f => Cw toks at_ 2 200 ⟨l, n, a, e⟩ ∧ LI toks (fun c => decide (c.e_ = 0) && !isF toks c.at_ sRB) (fun c => addC c (clauseC M toks (blkF M toks k) c.at_)) F f ⟨l, n, a, e⟩, ⟨_, a1, hF ▸ LI.start a1⟩, ?_⟩
        clear hF
        clear hx a1
        rintro l n a e f ⟨hw, hl⟩
        refine rseeN hw.z1 sRB (fun hA => ?_) (fun hB' => ?_)
        · have he : e = 0 := by simp at hA; exact hA.1
          have hcw := hcl hw.z1 hw.hi
          obtain ⟨f', hf', hl'⟩ := hl.step hA he hw.hi (fun hd => adv_add hcw he hd)
          exact rclause_v M hN hk hB hw.z1 hw.hi _ (radd_v _ (fun _ => hw.sum hN hcw (by omega) (by omega)) ⟨f', hf', (cw_add hw (fun _ => hcw) (by omega)).mono (by omega) (Nat.le_refl _), hl'⟩)
        · rw [← hl.stop hB'] at h
          exact reat_v hN hw sRB _ (runder_v _ _ (by have := (cw_eat sRB hw).len hN (by omega); omega) h)
    rw [if_neg (show ¬ (tokF toks at_).text = sSelect from ne_of_beq_false e)] at h
    exact h
theorem rblk_v (hN : toks.length < 1000000) {stmt : Int → Cur} {deep : Int} {at_ : Int} (h0 : 0 ≤ at_) (h1 : at_ ≤ (toks.length : Int)) (hq : q ≤ 900)
    (hS : isF toks at_ sLB = true → ∀ a, 0 ≤ a → a ≤ (toks.length : Int) → Cw toks a 1 q (stmt a) ∧ ∀ K : Cur → Prop, K (stmt a) → V_R11_stmt toks a deep K) (K : Cur → Prop) (h : K (blockC toks stmt at_)) :
    V_R11_cur_eat (fromC at_) toks [123] (fun x3 =>
      ∃ (I : (List GNode) → Int → Int → Int → Nat → Prop), (∃ n1, I x3.l x3.n x3.at_ x3.e_ n1) ∧
      ∀ (l : List GNode) (n : Int) (atx1 : Int) (ex : Int) (n1 : Nat), I l n atx1 ex n1 →
      ∃ (J1 : Bool → Prop),
      (cond (ex == 0) (V_R11_is toks atx1 [125] (fun x5 => J1 (!x5))) (J1 false)) ∧
      ∀ (x4 : Bool), J1 x4 →
      cond (x4)
      (V_R11_stmt toks atx1 deep (fun x6 => V_R11_cur_add (⟨l, n, atx1, ex⟩ : GR11_cur) x6 (fun x7 => ∃ n2, n2 < n1 ∧ I x7.l x7.n x7.at_ x7.e_ n2)))
      (V_R11_cur_eat (⟨l, n, atx1, ex⟩ : GR11_cur) toks [125] (fun x8 => V_R10_Tok toks at_ (fun x9 => V_R11_cur_under x8 (⟨32, [], 0, 0, x9.at_⟩ : GNode) (fun x10 => K x10))))) := by
  have hf := cw_from h0 h1 q
  have e1 := cw_eat sLB hf
  refine reat_v hN hf sLB _ ?_
  have hsome : (eatC toks sLB (fromC at_)).e_ = 0 → isF toks at_ sLB = true := by
    unfold eatC fromC
    dsimp only
    rw [if_pos rfl]
    split
    · rename_i hx; exact fun _ => hx
    · intro hx; cases hx
  unfold blockC at h
  generalize eatC toks sLB (fromC at_) = c0 at h e1 hsome
  generalize hF : loopC (fun c => decide (c.e_ = 0) && !isF toks c.at_ sRB) (fun c => addC c (stmt c.at_)) (fuel toks) c0 = F at h
  refine ⟨fun l n a e f => Cw toks at_ 1 q ⟨l, n, a, e⟩ ∧ (e = 0 → isF toks at_ sLB = true) ∧ LI toks (fun c => decide (c.e_ = 0) && !isF toks c.at_ sRB) (fun c => addC c (stmt c.at_)) F f ⟨l, n, a, e⟩, ⟨_, e1, hsome, hF ▸ LI.start e1⟩, ?_⟩
  clear e1 hsome
  rintro l n a e f ⟨hw, hso, hl⟩
  refine rseeN hw.z1 sRB (fun hA => ?_) (fun hB' => ?_)
  · have he : e = 0 := by simp at hA; exact hA.1
    obtain ⟨hcw, hst⟩ := hS (hso he) a hw.z1 hw.hi
    obtain ⟨f', hf', hl'⟩ := hl.step hA he hw.hi (fun hd => adv_add hcw he hd)
    exact hst _ (radd_v _ (fun _ => hw.sum hN hcw (by omega) (by omega)) ⟨f', hf', (cw_add hw (fun _ => hcw) (by omega)).mono (by omega) (Nat.le_refl _), fun _ => hso he, hl'⟩)
  · rw [← hl.stop hB'] at h
    exact reat_v hN hw sRB _ (rtok_v h0 _ (runder_v _ _ (by have := (cw_eat sRB hw).len hN (by omega); omega) h))
theorem RB_all (M : TermC) (hN : toks.length < 1000000) : ∀ k, k ≤ 24 → RB M toks k
  | 0, _ => fun at_ h0 h1 K h => by
    refine R11_block_lift _ _ _ _ (rfrom_v _ ⟨fun x => x = isF toks at_ sLB, ris_v h0 sLB _ (cond_intro (fun hc => ?_) (fun hc => ?_)), ?_⟩)
    · show decide _ = _
      have hc : isF toks at_ sLB = true := hc
      rw [hc]; decide
    · show false = _
      have hc : isF toks at_ sLB = false := hc
      rw [hc]
    · rintro _ rfl
      unfold blkF at h
      refine cond_intro (fun hc => ?_) fun hc => ?_
      · rw [if_pos hc] at h; exact h
      · rw [if_neg (by rw [hc]; simp)] at h
        exact rblk_v (q := 0) hN h0 h1 (by omega) (fun hx => by rw [hc] at hx; cases hx) K h
  | k + 1, hk => fun at_ h0 h1 K h => by
    have hd : ¬ (25 - ((k + 1 : Nat) : Int)) > 24 := by omega
    refine R11_block_lift _ _ _ _ (rfrom_v _ ⟨fun x => x = false, ris_v h0 sLB _ (cond_intro (fun hc => ?_) (fun hc => rfl)), ?_⟩)
    · show decide _ = _
      exact decide_eq_false hd
    · rintro _ rfl
      unfold blkF at h
      have hS := rstmt_v M hN (by omega) (RB_all M hN k (by omega))
      refine rblk_v (q := 3 * k + 4) hN h0 h1 (by omega) (fun _ a ha hb => ⟨cw_stmt M (cw_blk M k) (by omega) ha hb, fun K hK => ?_⟩) K h
      have := hS a ha hb K hK
      rw [show (25 - ((k + 1 : Nat) : Int)) = 24 - (k : Int) by omega]
      exact this
theorem RB_top (M : TermC) (hN : toks.length < 1000000) (at_ : Int) (h0 : 0 ≤ at_) (h1 : at_ ≤ (toks.length : Int)) (K : Cur → Prop) (h : K (blkF M toks 24 at_)) : V_R11_block toks at_ 1 K :=
  RB_all M hN 24 (Nat.le_refl _) at_ h0 h1 K h
theorem rsize_v (hN : toks.length < 1000000) (hc : Cw toks at0 s q c) (K : Cur → Int → Prop) (h : K (sizeC toks c) (sizeN toks c)) : V_R11_cur_size c toks K := by
  have h0 := hc.z1
  have h1 := hc.hi
  unfold sizeN at h
  refine R11_cur_size_lift _ _ _ (rtok_v h0 _ ⟨fun l n a e => l = c.l ∧ n = c.n ∧ a = c.at_ ∧ e = if c.e_ = 0 ∧ (tokF toks c.at_).kind ≠ 2 then 11 else c.e_, ?_, ?_⟩)
  · refine ⟨fun x => x = decide (c.e_ = 0 ∧ (tokF toks c.at_).kind ≠ 2), cond_intro (fun he => ?_) (fun he => ?_), ?_⟩
    · have he : c.e_ = 0 := by simpa using he
      show _ = _
      rw [Bool.eq_iff_iff]; simp [he]
    · have he : ¬ c.e_ = 0 := by simpa using he
      show false = _
      rw [decide_eq_false (fun h => he h.1)]
    · rintro _ rfl
      exact cond_intro (fun hh => ⟨rfl, rfl, rfl, by rw [if_pos (of_decide_eq_true hh)]⟩) (fun hh => ⟨rfl, rfl, rfl, by rw [if_neg (of_decide_eq_false hh)]⟩)
  · rintro _ _ _ _ ⟨rfl, rfl, rfl, rfl⟩
    generalize hx : tokF toks c.at_ = x at h
    refine ⟨fun l n a e => l = c.l ∧ n = c.n ∧ a = c.at_ ∧ e = if c.e_ = 0 ∧ x.kind = 2 ∧ (x.n < 1 ∨ x.n > 16) then 6 else if c.e_ = 0 ∧ x.kind ≠ 2 then 11 else c.e_, ?_, ?_⟩
    · refine ⟨fun b => b = decide (c.e_ = 0 ∧ x.kind = 2 ∧ (x.n < 1 ∨ x.n > 16)), cond_intro (fun he => cond_intro (fun h1' => ?_) (fun h1' => ?_)) (fun he => ?_), ?_⟩
      · show true = _
        have h1' : x.n < 1 := by simpa using h1'
        have hh : ¬ (c.e_ = 0 ∧ x.kind ≠ 2) := by
          intro hh; rw [if_pos hh] at he; simp at he
        rw [if_neg hh] at he
        have he : c.e_ = 0 := by simpa using he
        rw [decide_eq_true]
        exact ⟨he, by
          apply Classical.byContradiction
          intro hk; exact hh ⟨he, hk⟩, .inl h1'⟩
      · show _ = _
        have h1' : ¬ x.n < 1 := by simpa using h1'
        have hh : ¬ (c.e_ = 0 ∧ x.kind ≠ 2) := by
          intro hh; rw [if_pos hh] at he; simp at he
        rw [if_neg hh] at he
        have he : c.e_ = 0 := by simpa using he
        have hk : x.kind = 2 := by
          apply Classical.byContradiction
          intro hk; exact hh ⟨he, hk⟩
        rw [Bool.eq_iff_iff]; simp [he, hk]; omega
      · show false = _
        rw [decide_eq_false]
        rintro ⟨h3, h4, _⟩
        rw [if_neg (fun hh => hh.2 h4), h3] at he
        simp at he
      · rintro _ rfl
        exact cond_intro (fun hh => ⟨rfl, rfl, rfl, by rw [if_pos (of_decide_eq_true hh)]⟩) (fun hh => ⟨rfl, rfl, rfl, by rw [if_neg (of_decide_eq_false hh)]⟩)
    · rintro _ _ _ _ ⟨rfl, rfl, rfl, rfl⟩
      unfold sizeC at h
      rw [hx] at h
      by_cases he : c.e_ = 0
      · rw [if_pos he] at h
        by_cases hk : x.kind = 2
        · rw [if_pos hk] at h
          have := kind_lt (toks := toks) (at_ := c.at_) (by rw [hx, hk]; decide)
          by_cases hr : x.n < 1 ∨ x.n > 16
          · rw [if_pos hr, if_neg (by simp)] at h
            rw [if_pos ⟨he, hk, hr⟩]; exact h
          · rw [if_neg hr, if_pos rfl] at h
            rw [if_neg (fun hh => hr hh.2.2), if_neg (fun hh => hh.2 hk)]
            refine cond_f (by simpa using he) ?_
            rw [wrap_in (by omega) (by omega), he]; exact h
        · rw [if_neg hk, if_neg (by simp)] at h
          rw [if_neg (fun hh => hk hh.2.1), if_pos ⟨he, hk⟩]; exact h
      · rw [if_neg he, if_neg he] at h
        rw [if_neg (fun hh => he hh.1), if_neg (fun hh => he hh.1)]
        exact cond_t (by simpa using he) h
theorem rparam_v (hN : toks.length < 1000000) (hc : Cw toks at0 s q c) (hq : q ≤ 1000) (K : Cur → Prop) (h : K (paramC toks c)) : V_R11_cur_param c toks K := by
  refine R11_cur_param_lift _ _ _ (cond_intro (fun he => ?_) fun he => ?_)
  · have he : ¬ c.e_ = 0 := by simpa using he
    unfold paramC addC at h; rw [if_neg he] at h; exact h
  · have hf := cw_from hc.z1 hc.hi 0
    have hn := cw_name hf
    exact rfrom_v _ (rname_v hN hf _ (rtok_v hc.z1 _ (runder_v _ _ (by have := hn.len hN (by omega); omega) (radd_v _ (fun _ => hc.sum hN (cw_under hn) hq (by omega)) h))))
theorem rdecl_v (M : TermC) (hN : toks.length < 1000000) {at_ : Int} (h0 : 0 ≤ at_) (h1 : at_ ≤ (toks.length : Int)) (K : Cur → Prop) (h : K (declC M toks at_)) : V_R11_decl toks at_ K := by
  have hf := cw_from h0 h1 200
  have hb := cw_blk (toks := toks) M 24
  unfold declC at h
  refine R11_decl_lift _ _ _ (rtok_v h0 _ (ris_v h0 sChan _ (cond_intro (fun hA => ?_) fun hA => ris_v h0 sProc _ (cond_intro (fun hP => ?_) fun hP => ?_))))
  · rw [if_pos hA] at h
    have e1 := cw_eat sChan hf
    have e2 := cw_name e1
    refine rfrom_v _ (reat_v hN hf sChan _ (rname_v hN e1 _ ?_))
    generalize nameS toks (eatC toks sChan (fromC at_)) = nm at h
    generalize nameC toks (eatC toks sChan (fromC at_)) = c1 at h e2
    refine ⟨fun l n a e op nm' N kids at' => op = 38 ∧ nm' = nm ∧ N = chanN toks c1 ∧ kids = 0 ∧ at' = (tokF toks at_).at_ ∧ ⟨l, n, a, e⟩ = chanC1 toks c1, rsee e2.z1 sLS (fun hA => ?_) (fun hB => ?_), ?_⟩
    · have e3 := cw_eat sLS e2
      refine reat_v hN e2 sLS _ (rsize_v hN e3 _ (reat_v hN (cw_size e3) sRS _ ⟨rfl, rfl, ?_, rfl, rfl, ?_⟩))
      · unfold chanN; rw [if_pos (show seeB toks sLS c1 = true from hA)]
      · unfold chanC1; rw [if_pos (show seeB toks sLS c1 = true from hA)]
    · refine ⟨rfl, rfl, ?_, rfl, rfl, ?_⟩
      · unfold chanN; rw [if_neg (by rw [show seeB toks sLS c1 = false from hB]; simp)]
      · unfold chanC1; rw [if_neg (by rw [show seeB toks sLS c1 = false from hB]; simp)]
    · rintro l n a e _ _ _ _ _ ⟨rfl, rfl, rfl, rfl, rfl, hx⟩
      rw [hx]
      have e3 := cw_chan1 e2
      exact reat_v hN e3 sSemi _ (runder_v _ _ (by have := (cw_eat sSemi e3).len hN (by omega); omega) h)
  · rw [if_neg (by rw [hA]; simp), if_pos hP] at h
    have e1 := cw_eat sProc hf
    have e2 := cw_name e1
    have e3 := cw_eat sLP e2
    refine rfrom_v _ (reat_v hN hf sProc _ (rname_v hN e1 _ (reat_v hN e2 sLP _ ?_)))
    generalize nameS toks (eatC toks sProc (fromC at_)) = nm at h
    generalize eatC toks sLP (nameC toks (eatC toks sProc (fromC at_))) = c1 at h e3
    have hpw : ∀ {c : Cur}, Cw toks at_ 3 200 c → Cw toks at_ 3 200 (paramC toks c) := fun hw => cw_param hw (by omega)
    refine ⟨fun l n a e => ⟨l, n, a, e⟩ = procC1 toks c1, rseeN e3.z1 sRP (fun hA => ?_) (fun hB => ?_), ?_⟩
    · have p1 := hpw e3
      refine rparam_v hN e3 (by omega) _ ?_
      unfold procC1
      rw [if_pos hA]
      refine ⟨fun l n a e f => Cw toks at_ 3 200 ⟨l, n, a, e⟩ ∧ LI toks (seeB toks sComma) (fun c => paramC toks (eatC toks sComma c)) (loopC (seeB toks sComma) (fun c => paramC toks (eatC toks sComma c)) (fuel toks) (paramC toks c1)) f ⟨l, n, a, e⟩, ⟨_, p1, LI.start p1⟩, ?_⟩
      rintro l n a e f ⟨hw, hl⟩
      refine rsee hw.z1 sComma (fun hA => ?_) (fun hB => ?_)
      · have e4 := cw_eat sComma hw
        have hs := see_eat (c := ⟨l, n, a, e⟩) hA
        have he : e = 0 := by simp at hA; exact hA.1
        have hpp : Cw toks a 0 0 (fromC a) := cw_from hw.z1 hw.hi 0
        obtain ⟨f', hf', hl'⟩ := hl.step hA he hw.hi (fun hd => by
          rw [hs] at hd ⊢
          have e5 : Cw toks a 1 200 ⟨[], n, a + 1, 0⟩ := by
            have := cw_eat sComma (cw_from hw.z1 hw.hi 200)
            have hs' := see_eat (toks := toks) (t := sComma) (c := fromC a) (by subst he; exact hA)
            rw [hs'] at this
            exact ⟨this.z, this.lo, this.hi, this.w, this.b⟩
          have e6 := cw_under (x := nd toks 39 (nameS toks (fromC (a + 1))) 0 (a + 1)) (cw_name (cw_from (toks := toks) (at_ := a + 1) (by have := e5.z1; exact this) e5.hi 0))
          unfold paramC addC at hd ⊢
          rw [if_pos rfl] at hd ⊢
          have := e6.lo
          dsimp only at this ⊢
          omega)
        exact reat_v hN hw sComma _ (rparam_v hN e4 (by omega) _ ⟨f', hf', (cw_param e4 (by omega)).mono (by omega) (Nat.le_refl _), hl'⟩)
      · exact hl.stop hB
    · unfold procC1
      rw [if_neg (by rw [hB]; simp)]
    · intro l n a e hx
      rw [hx]
      have e4 := cw_proc1 e3 (by omega)
      have e5 := cw_eat sRP e4
      have e6 := cw_in hb e5 (by omega)
      exact reat_v hN e4 sRP _ (rin_v hN hb (by omega) (RB_top M hN) e5 (by omega) _ (runder_v _ _ (by have := e6.len hN (by omega); omega) h))
  · rw [if_neg (by rw [hA]; simp), if_neg (by rw [hP]; simp)] at h
    have e1 := cw_eat sMain hf
    have e2 := cw_in hb e1 (by omega)
    exact rfrom_v _ (reat_v hN hf sMain _ (rin_v hN hb (by omega) (RB_top M hN) e1 (by omega) _ (runder_v _ _ (by have := e2.len hN (by omega); omega) h)))
theorem runit_v (M : TermC) (hN : toks.length < 1000000) (K : GR10_Got → Prop) (h : K (unitF M toks)) : V_R11_Unit toks K := by
  have hf := cw_from (toks := toks) (at_ := 0) (Int.le_refl _) (by omega) 100
  refine R11_Unit_lift _ _ (rfrom_v _ ⟨fun l n a e f => Cw toks 0 0 100 ⟨l, n, a, e⟩ ∧ LI toks (fun c => decide (c.e_ = 0) && !decide ((tokF toks c.at_).kind = 0)) (fun c => addC c (declC M toks c.at_)) (unitC M toks) f ⟨l, n, a, e⟩, ⟨_, hf, LI.start hf⟩, ?_⟩)
  rintro l n a e f ⟨hw, hl⟩
  refine ⟨fun x => x = (decide (e = 0) && !decide ((tokF toks a).kind = 0)), cond_intro (fun he => ?_) (fun he => ?_), ?_⟩
  · have he : e = 0 := by simpa using he
    subst he
    refine rtok_v hw.z1 _ ?_
    show _ = _
    rw [Bool.eq_iff_iff]; simp
  · have he : ¬ e = 0 := by simpa using he
    show false = _
    rw [decide_eq_false he]; rfl
  · rintro _ rfl
    refine cond_intro (fun hA => ?_) fun hB => ?_
    · have he : e = 0 := by simp at hA; exact hA.1
      have hcw := cw_decl M hw.z1 hw.hi
      obtain ⟨f', hf', hl'⟩ := hl.step hA he hw.hi (fun hd => adv_add hcw he hd)
      exact rdecl_v M hN hw.z1 hw.hi _ (radd_v _ (fun _ => hw.sum hN hcw (by omega) (by omega)) ⟨f', hf', (cw_add hw (fun _ => hcw) (by omega)).mono (by omega) (Nat.le_refl _), hl'⟩)
    · have hst := hl.stop hB
      unfold unitF at h
      rw [← hst] at h
      refine cond_intro (fun he => ?_) fun he => ?_
      · rw [if_pos (by simpa using he)] at h; exact h
      · rw [if_neg (by simpa using he)] at h
        exact runder_v _ _ (by have := hw.len hN (by omega); omega) h
end
end Go.Proofs.Ytdbdkdmgfiiljaa
