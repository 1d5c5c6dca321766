/- A part of the proof: conditions of the code, contracts, the plain law. -/
import Derived.Test.YtdbdkdmgfiiljaaM1
import Derived.Test.YtdbdkdmgfiiljaaM2
import Derived.Test.YtdbdkdmgfiiljaaM3
import Derived.Test.YtdbdkdmgfiiljaaM6
import Derived.Test.YtdbdkdmgfiiljaaMapL
import Derived.Test.YtdbdkdmgfiiljaaLoop
namespace Go.Proofs.Ytdbdkdmgfiiljaa
open Go.Vc Go.Lv Go.Ty
def R10_one_vwp (toks : List GToken) (atx : Int) (deep : Int) (K : GR10_Got → Prop) : Prop :=
 V_R10_Tok toks atx (fun x =>
 cond (x.kind == 2)
 (K (⟨[(⟨1, [], x.n, 0, x.at_⟩ : GNode)], IntKind.i64.wrap (atx + 1), 0⟩ : GR10_Got))
 (cond (x.kind == 1)
 (K (⟨[(⟨2, x.text, 0, 0, x.at_⟩ : GNode)], IntKind.i64.wrap (atx + 1), 0⟩ : GR10_Got))
 (∃ (J : Bool → Prop),
 (cond (x.kind != 4)
 (J true)
 (cond (!(x.text == [45]))
 (cond (!(x.text == [33]))
 (J (!(x.text == [40])))
 (J false))
 (J false))) ∧
 ∀ (x1 : Bool), J x1 →
 cond (x1)
 (K (⟨[], atx, 11⟩ : GR10_Got))
 (cond (deep == 24)
 (K (⟨[], atx, 5⟩ : GR10_Got))
 (cond (x.text == [40])
 (V_R10_level toks (IntKind.i64.wrap (atx + 1)) 1 (IntKind.i64.wrap (deep + 1)) (fun x2 =>
 cond (x2.e_ != 0)
 (K x2)
 (V_R10_Tok toks x2.at_ (fun x3 =>
 ∃ (J1 : Bool → Prop),
 (cond (x3.kind != 4)
 (J1 true)
 (J1 (!(x3.text == [41])))) ∧
 ∀ (x4 : Bool), J1 x4 →
 cond (x4)
 (K (⟨[], x2.at_, 11⟩ : GR10_Got))
 (K (⟨x2.l, IntKind.i64.wrap (x2.at_ + 1), 0⟩ : GR10_Got))))))
 (V_R10_one toks (IntKind.i64.wrap (atx + 1)) (IntKind.i64.wrap (deep + 1)) (fun x5 =>
 cond (x5.e_ != 0)
 (K x5)
 (∃ (J2 : Int → Prop),
 (cond (x.text == [33])
 (J2 4)
 (J2 3)) ∧
 ∀ (op : Int), J2 op →
 ([(⟨op, [], 0, 1, x.at_⟩ : GNode)]).length + x5.l.length < 2 ^ 32 ∧
 K (⟨([(⟨op, [], 0, 1, x.at_⟩ : GNode)] ++ x5.l), x5.at_, 0⟩ : GR10_Got)))))))))
set_option maxHeartbeats 4000000 in
set_option maxRecDepth 10000 in
theorem R10_one_lift (toks : List GToken) (atx : Int) (deep : Int) (K : GR10_Got → Prop) (h : R10_one_vwp toks atx deep K) : V_R10_one toks atx deep K := by
 intro m w hm toksA toksC le_toks f_toks
 have o := Mem.start hm.lt
 refine R10_one_ok toksA toks.length toksC atx deep _ _ ?_
 intro b w1 hb hw1
 obtain ⟨st, o⟩ := o.dB hb hw1
 refine call_then (h _ w1 (o.mo hm (by simp) (.head _)) _ _ le_toks (f_toks.st st)) ?_
 rintro _ w2 ⟨x, h, ⟨cs, rfl, f⟩, ke⟩
 obtain ⟨st1, o⟩ := o.dE ke
 obtain rfl := GToken_out f
 refine ⟨_, _, _, _, rfl, ?_⟩
 intro b1 w3 hb1 hw3
 obtain ⟨st2, o⟩ := o.dB hb1 hw3
 refine ⟨o.wr 0 rfl rfl, fun w4 hw4 => ?_⟩
 obtain ⟨st3, o⟩ := o.dSs 0 hw4 rfl
 refine ⟨_, (o.at 0 rfl).cell rfl, ?_⟩
 refine cond_map (fun h => ?_) (fun h => ?_) h
 refine ⟨_, (o.at 0 rfl).cell rfl, ?_⟩
 refine ⟨_, (o.at 0 rfl).cell rfl, ?_⟩
 intro b2 w5 hb2 hw5
 have el : El cGNode (ms [.box b1 [.int .i64 x.kind, .string (mkS x.text), .int .i64 x.n, .int .i64 x.at_], .box b [.slice none 0 0, .int .i64 0, .int .i64 0]] m) w4 [(⟨1, [], x.n, 0, x.at_⟩ : GNode)] ([.int .i64 1, .string (mkS []), .int .i64 x.n, .int .i64 0, .int .i64 x.at_] : List Value) := (El.cons (cs := [.int .i64 1, .string (mkS []), .int .i64 x.n, .int .i64 0, .int .i64 x.at_]) (GNode_in (⟨1, [], x.n, 0, x.at_⟩ : GNode)) (El.nil _ _ _))
 have st4 := o.xL hb2 hw5 5 1
 have o := o.lit hb2 hw5 5 1 (by decide) rfl
 refine ⟨o.wr 2 rfl rfl, fun w6 hw6 => ?_⟩
 obtain ⟨st5, o⟩ := o.dSs 2 hw6 rfl
 refine ⟨_, _, _, _, _, (o.at 2 rfl).whole, ?_⟩
 have le := (o.rowAt 0 rfl).cap
 have st6 := o.xX 0
 have f1 := o.freeze (c := cGNode) (l := [(⟨1, [], x.n, 0, x.at_⟩ : GNode)]) 0 rfl (fun b hb => by simp at hb) (el.st (st4.trans (st5.trans st6)))
 have o := o.erase 0
 exact ⟨(⟨[(⟨1, [], x.n, 0, x.at_⟩ : GNode)], IntKind.i64.wrap (atx + 1), 0⟩ : GR10_Got), h, ⟨_, rfl, (GR10_Got_in (⟨[(⟨1, [], x.n, 0, x.at_⟩ : GNode)], IntKind.i64.wrap (atx + 1), 0⟩ : GR10_Got) ⟨le, (f1.st Mem.endS)⟩)⟩, o.done⟩
 refine ⟨_, (o.at 0 rfl).cell rfl, ?_⟩
 refine cond_map (fun h => ?_) (fun h => ?_) h
 refine ⟨_, (o.at 0 rfl).cell rfl, ?_⟩
 refine ⟨_, (o.at 0 rfl).cell rfl, ?_⟩
 intro b3 w7 hb3 hw7
 have el1 : El cGNode (ms [.box b1 [.int .i64 x.kind, .string (mkS x.text), .int .i64 x.n, .int .i64 x.at_], .box b [.slice none 0 0, .int .i64 0, .int .i64 0]] m) w4 [(⟨2, x.text, 0, 0, x.at_⟩ : GNode)] ([.int .i64 2, .string (mkS x.text), .int .i64 0, .int .i64 0, .int .i64 x.at_] : List Value) := (El.cons (cs := [.int .i64 2, .string (mkS x.text), .int .i64 0, .int .i64 0, .int .i64 x.at_]) (GNode_in (⟨2, x.text, 0, 0, x.at_⟩ : GNode)) (El.nil _ _ _))
 have st7 := o.xL hb3 hw7 5 1
 have o := o.lit hb3 hw7 5 1 (by decide) rfl
 refine ⟨o.wr 2 rfl rfl, fun w8 hw8 => ?_⟩
 obtain ⟨st8, o⟩ := o.dSs 2 hw8 rfl
 refine ⟨_, _, _, _, _, (o.at 2 rfl).whole, ?_⟩
 have le1 := (o.rowAt 0 rfl).cap
 have st9 := o.xX 0
 have f2 := o.freeze (c := cGNode) (l := [(⟨2, x.text, 0, 0, x.at_⟩ : GNode)]) 0 rfl (fun b hb => by simp at hb) (el1.st (st7.trans (st8.trans st9)))
 have o := o.erase 0
 exact ⟨(⟨[(⟨2, x.text, 0, 0, x.at_⟩ : GNode)], IntKind.i64.wrap (atx + 1), 0⟩ : GR10_Got), h, ⟨_, rfl, (GR10_Got_in (⟨[(⟨2, x.text, 0, 0, x.at_⟩ : GNode)], IntKind.i64.wrap (atx + 1), 0⟩ : GR10_Got) ⟨le1, (f2.st Mem.endS)⟩)⟩, o.done⟩
 obtain ⟨J, h, h2⟩ := h
 refine ⟨fun x1 w9 => J x1 ∧ Mem w.heap.size [] m [([], w.heap.size, w)] [] w9 [.box b1 [.int .i64 x.kind, .string (mkS x.text), .int .i64 x.n, .int .i64 x.at_], .box b [.slice none 0 0, .int .i64 0, .int .i64 0]] ∧ Step (ms [.box b1 [.int .i64 x.kind, .string (mkS x.text), .int .i64 x.n, .int .i64 x.at_], .box b [.slice none 0 0, .int .i64 0, .int .i64 0]] m) w4 (ms [.box b1 [.int .i64 x.kind, .string (mkS x.text), .int .i64 x.n, .int .i64 x.at_], .box b [.slice none 0 0, .int .i64 0, .int .i64 0]] m) w9, ?_, ?_⟩
 refine ⟨_, (o.at 0 rfl).cell rfl, ?_⟩
 refine cond_map (fun h => ?_) (fun h => ?_) h
 exact ⟨h, o, Step.refl _ _⟩
 refine ⟨_, (o.at 0 rfl).cell rfl, ?_⟩
 refine cond_map (fun h => ?_) (fun h => ?_) h
 refine ⟨_, (o.at 0 rfl).cell rfl, ?_⟩
 refine cond_map (fun h => ?_) (fun h => ?_) h
 refine ⟨_, (o.at 0 rfl).cell rfl, ?_⟩
 exact ⟨h, o, Step.refl _ _⟩
 exact ⟨h, o, Step.refl _ _⟩
 exact ⟨h, o, Step.refl _ _⟩
 rintro _ x1 w9 ⟨hJ, o, st10⟩
 have h := h2 x1 hJ
 refine cond_map (fun h => ?_) (fun h => ?_) h
 refine ⟨o.wr 1 rfl rfl, fun w10 hw10 => ?_⟩
 obtain ⟨st11, o⟩ := o.dSs 1 hw10 rfl
 refine ⟨_, _, _, _, _, (o.at 1 rfl).whole, ?_⟩
 exact ⟨(⟨[], atx, 11⟩ : GR10_Got), h, ⟨_, rfl, (GR10_Got_in (⟨[], atx, 11⟩ : GR10_Got) ⟨(Nat.le_refl _), (SlR.nil _ _ _ _)⟩)⟩, o.done⟩
 refine cond_map (fun h => ?_) (fun h => ?_) h
 refine ⟨o.wr 1 rfl rfl, fun w11 hw11 => ?_⟩
 obtain ⟨st12, o⟩ := o.dSs 1 hw11 rfl
 refine ⟨_, _, _, _, _, (o.at 1 rfl).whole, ?_⟩
 exact ⟨(⟨[], atx, 5⟩ : GR10_Got), h, ⟨_, rfl, (GR10_Got_in (⟨[], atx, 5⟩ : GR10_Got) ⟨(Nat.le_refl _), (SlR.nil _ _ _ _)⟩)⟩, o.done⟩
 refine ⟨_, (o.at 0 rfl).cell rfl, ?_⟩
 refine cond_map (fun h => ?_) (fun h => ?_) h
 refine call_then (h _ w9 (o.mo hm (by simp) (.head _)) _ _ le_toks (f_toks.st (st.trans (st1.trans (st2.trans (st3.trans st10)))))) ?_
 rintro _ w12 ⟨x2, h, ⟨cs1, rfl, f3⟩, ke1⟩
 obtain ⟨st13, o⟩ := o.dE ke1
 obtain ⟨a, c, rfl, ⟨le2, f4⟩⟩ := GR10_Got_out f3
 refine ⟨_, _, _, _, _, rfl, ?_⟩
 intro b4 w13 hb4 hw13
 obtain ⟨st14, o⟩ := o.dB hb4 hw13
 refine ⟨o.wr 0 rfl rfl, fun w14 hw14 => ?_⟩
 obtain ⟨st15, o⟩ := o.dSs 0 hw14 rfl
 refine ⟨_, (o.at 0 rfl).cell rfl, ?_⟩
 refine cond_map (fun h => ?_) (fun h => ?_) h
 refine ⟨_, _, _, _, _, (o.at 0 rfl).whole, ?_⟩
 refine ⟨o.wr 2 rfl rfl, fun w15 hw15 => ?_⟩
 obtain ⟨st16, o⟩ := o.dSs 2 hw15 rfl
 refine ⟨_, _, _, _, _, (o.at 2 rfl).whole, ?_⟩
 exact ⟨x2, h, ⟨_, rfl, (GR10_Got_in x2 ⟨le2, (f4.st (st14.trans (st15.trans (st16.trans Mem.endS))))⟩)⟩, o.done⟩
 refine ⟨_, (o.at 0 rfl).cell rfl, ?_⟩
 refine call_then (h _ w14 (o.mo hm (by simp) (.head _)) _ _ le_toks (f_toks.st (st.trans (st1.trans (st2.trans (st3.trans (st10.trans (st13.trans (st14.trans st15))))))))) ?_
 rintro _ w16 ⟨x3, h, ⟨cs2, rfl, f5⟩, ke2⟩
 obtain ⟨st17, o⟩ := o.dE ke2
 obtain rfl := GToken_out f5
 refine ⟨_, _, _, _, rfl, ?_⟩
 intro b5 w17 hb5 hw17
 obtain ⟨st18, o⟩ := o.dB hb5 hw17
 refine ⟨o.wr 0 rfl rfl, fun w18 hw18 => ?_⟩
 obtain ⟨st19, o⟩ := o.dSs 0 hw18 rfl
 obtain ⟨J1, h, h2⟩ := h
 refine ⟨fun x4 w19 => J1 x4 ∧ Mem w.heap.size [] m [([], w.heap.size, w)] [] w19 [.box b5 [.int .i64 x3.kind, .string (mkS x3.text), .int .i64 x3.n, .int .i64 x3.at_], .box b4 [.slice a x2.l.length c, .int .i64 x2.at_, .int .i64 x2.e_], .box b1 [.int .i64 x.kind, .string (mkS x.text), .int .i64 x.n, .int .i64 x.at_], .box b [.slice none 0 0, .int .i64 0, .int .i64 0]] ∧ Step (ms [.box b5 [.int .i64 x3.kind, .string (mkS x3.text), .int .i64 x3.n, .int .i64 x3.at_], .box b4 [.slice a x2.l.length c, .int .i64 x2.at_, .int .i64 x2.e_], .box b1 [.int .i64 x.kind, .string (mkS x.text), .int .i64 x.n, .int .i64 x.at_], .box b [.slice none 0 0, .int .i64 0, .int .i64 0]] m) w18 (ms [.box b5 [.int .i64 x3.kind, .string (mkS x3.text), .int .i64 x3.n, .int .i64 x3.at_], .box b4 [.slice a x2.l.length c, .int .i64 x2.at_, .int .i64 x2.e_], .box b1 [.int .i64 x.kind, .string (mkS x.text), .int .i64 x.n, .int .i64 x.at_], .box b [.slice none 0 0, .int .i64 0, .int .i64 0]] m) w19, ?_, ?_⟩
 refine ⟨_, (o.at 0 rfl).cell rfl, ?_⟩
 refine cond_map (fun h => ?_) (fun h => ?_) h
 exact ⟨h, o, Step.refl _ _⟩
 refine ⟨_, (o.at 0 rfl).cell rfl, ?_⟩
 exact ⟨h, o, Step.refl _ _⟩
 rintro _ x4 w19 ⟨hJ, o, st20⟩
 have h := h2 x4 hJ
 refine cond_map (fun h => ?_) (fun h => ?_) h
 refine ⟨_, (o.at 1 rfl).cell rfl, ?_⟩
 refine ⟨o.wr 3 rfl rfl, fun w20 hw20 => ?_⟩
 obtain ⟨st21, o⟩ := o.dSs 3 hw20 rfl
 refine ⟨_, _, _, _, _, (o.at 3 rfl).whole, ?_⟩
 exact ⟨(⟨[], x2.at_, 11⟩ : GR10_Got), h, ⟨_, rfl, (GR10_Got_in (⟨[], x2.at_, 11⟩ : GR10_Got) ⟨(Nat.le_refl _), (SlR.nil _ _ _ _)⟩)⟩, o.done⟩
 refine ⟨_, _, _, (o.at 1 rfl).cell rfl, ?_⟩
 refine ⟨_, (o.at 1 rfl).cell rfl, ?_⟩
 refine ⟨o.wr 3 rfl rfl, fun w21 hw21 => ?_⟩
 obtain ⟨st22, o⟩ := o.dSs 3 hw21 rfl
 refine ⟨_, _, _, _, _, (o.at 3 rfl).whole, ?_⟩
 exact ⟨(⟨x2.l, IntKind.i64.wrap (x2.at_ + 1), 0⟩ : GR10_Got), h, ⟨_, rfl, (GR10_Got_in (⟨x2.l, IntKind.i64.wrap (x2.at_ + 1), 0⟩ : GR10_Got) ⟨le2, (f4.st (st14.trans (st15.trans (st17.trans (st18.trans (st19.trans (st20.trans (st22.trans Mem.endS))))))))⟩)⟩, o.done⟩
 refine call_then (h _ w9 (o.mo hm (by simp) (.head _)) _ _ le_toks (f_toks.st (st.trans (st1.trans (st2.trans (st3.trans st10)))))) ?_
 rintro _ w22 ⟨x5, h, ⟨cs3, rfl, f6⟩, ke3⟩
 obtain ⟨st23, o⟩ := o.dE ke3
 obtain ⟨a1, c1, rfl, ⟨le3, f7⟩⟩ := GR10_Got_out f6
 refine ⟨_, _, _, _, _, rfl, ?_⟩
 intro b6 w23 hb6 hw23
 obtain ⟨st24, o⟩ := o.dB hb6 hw23
 refine ⟨o.wr 0 rfl rfl, fun w24 hw24 => ?_⟩
 obtain ⟨st25, o⟩ := o.dSs 0 hw24 rfl
 refine ⟨_, (o.at 0 rfl).cell rfl, ?_⟩
 refine cond_map (fun h => ?_) (fun h => ?_) h
 refine ⟨_, _, _, _, _, (o.at 0 rfl).whole, ?_⟩
 refine ⟨o.wr 2 rfl rfl, fun w25 hw25 => ?_⟩
 obtain ⟨st26, o⟩ := o.dSs 2 hw25 rfl
 refine ⟨_, _, _, _, _, (o.at 2 rfl).whole, ?_⟩
 exact ⟨x5, h, ⟨_, rfl, (GR10_Got_in x5 ⟨le3, (f7.st (st24.trans (st25.trans (st26.trans Mem.endS))))⟩)⟩, o.done⟩
 obtain ⟨J2, h, h2⟩ := h
 refine ⟨fun op w26 => J2 op ∧ Mem w.heap.size [] m [([], w.heap.size, w)] [] w26 [.box b6 [.slice a1 x5.l.length c1, .int .i64 x5.at_, .int .i64 x5.e_], .box b1 [.int .i64 x.kind, .string (mkS x.text), .int .i64 x.n, .int .i64 x.at_], .box b [.slice none 0 0, .int .i64 0, .int .i64 0]] ∧ Step (ms [.box b6 [.slice a1 x5.l.length c1, .int .i64 x5.at_, .int .i64 x5.e_], .box b1 [.int .i64 x.kind, .string (mkS x.text), .int .i64 x.n, .int .i64 x.at_], .box b [.slice none 0 0, .int .i64 0, .int .i64 0]] m) w24 (ms [.box b6 [.slice a1 x5.l.length c1, .int .i64 x5.at_, .int .i64 x5.e_], .box b1 [.int .i64 x.kind, .string (mkS x.text), .int .i64 x.n, .int .i64 x.at_], .box b [.slice none 0 0, .int .i64 0, .int .i64 0]] m) w26, ?_, ?_⟩
 refine ⟨_, (o.at 1 rfl).cell rfl, ?_⟩
 refine cond_map (fun h => ?_) (fun h => ?_) h
 exact ⟨h, o, Step.refl _ _⟩
 exact ⟨h, o, Step.refl _ _⟩
 rintro _ op w26 ⟨hJ, o, st27⟩
 have h := h2 op hJ
 intro w27 hw27
 obtain ⟨st28, o⟩ := o.dD hw27
 have ox := o
 refine ⟨fun u => Keep [] w27 u, Keep.refl _ _, ?_⟩
 refine ⟨_, fun u hu => ((ox.at 1 rfl).keep hu (by simp)).cell rfl, ?_⟩
 refine ⟨_, _, _, fun u hu => ((ox.at 0 rfl).keep hu (by simp)).cell rfl, ?_⟩
 refine ⟨_, fun u hu => ((ox.at 0 rfl).keep hu (by simp)).cell rfl, ?_⟩
 intro b7 w28 hb7 hw28
 have el2 : El cGNode (ms [.box b6 [.slice a1 x5.l.length c1, .int .i64 x5.at_, .int .i64 x5.e_], .box b1 [.int .i64 x.kind, .string (mkS x.text), .int .i64 x.n, .int .i64 x.at_], .box b [.slice none 0 0, .int .i64 0, .int .i64 0]] m) w27 [(⟨op, [], 0, 1, x.at_⟩ : GNode)] ([.int .i64 op, .string (mkS []), .int .i64 0, .int .i64 1, .int .i64 x.at_] : List Value) := (El.cons (cs := [.int .i64 op, .string (mkS []), .int .i64 0, .int .i64 1, .int .i64 x.at_]) (GNode_in (⟨op, [], 0, 1, x.at_⟩ : GNode)) (El.nil _ _ _))
 have st29 := o.xL hb7 hw28 5 1
 have o := o.lit hb7 hw28 5 1 (by decide) rfl
 refine ⟨((keep_alloc hw28).mono (by simp)), ?_⟩
 obtain ⟨lt, h⟩ := h
 obtain ⟨xs, hx, el3⟩ := SlR.cells (f7.st (st24.trans (st25.trans (st27.trans (st28.trans st29)))))
 have el4 := ((el2.st st29)).app el3
 refine append_sl sl_39 (o.rowAt 0 rfl) hx el3.len el3.one (by first | (simp; done) | simpa using lt) (by decide) (Nat.zero_le _) fun a2 c2 w29 hr hg hat => ?_
 have ln : 1 + x5.l.length = ([(⟨op, [], 0, 1, x.at_⟩ : GNode)] ++ x5.l).length := (by first | (simp; done) | (simp; omega))
 rw [ln] at hr ⊢
 refine ⟨_, _, _, rfl, ?_⟩
 have st30 := o.xA 0 rfl hr hg hat
 have o := o.app 0 rfl hr hg hat
 refine ⟨(keep_app ((keep_alloc hw28).mono (by simp)) hg (fresh_lit hb7 (Keep.refl _ _))), ?_⟩
 refine ⟨o.wr 3 rfl rfl, fun w30 hw30 => ?_⟩
 obtain ⟨st31, o⟩ := o.dSs 3 hw30 rfl
 refine ⟨_, _, _, _, _, (o.at 3 rfl).whole, ?_⟩
 have le4 := (o.rowAt 0 rfl).cap
 have st32 := o.xX 0
 have f8 := o.freeze (c := cGNode) (l := ([(⟨op, [], 0, 1, x.at_⟩ : GNode)] ++ x5.l)) 0 rfl (fun b hb => by simp at hb) (el4.st (st30.trans (st31.trans st32)))
 have o := o.erase 0
 exact ⟨(⟨([(⟨op, [], 0, 1, x.at_⟩ : GNode)] ++ x5.l), x5.at_, 0⟩ : GR10_Got), h, ⟨_, rfl, (GR10_Got_in (⟨([(⟨op, [], 0, 1, x.at_⟩ : GNode)] ++ x5.l), x5.at_, 0⟩ : GR10_Got) ⟨le4, (f8.st Mem.endS)⟩)⟩, o.done⟩
def R10_Parse_vwp (toks : List GToken) (atx : Int) (K : GR10_Got → Prop) : Prop :=
 cond (decide (atx < 0))
 (K (⟨[], 0, 1⟩ : GR10_Got))
 (V_R10_level toks atx 1 0 (fun x =>
 K x))
set_option maxRecDepth 10000 in
theorem R10_Parse_lift (toks : List GToken) (atx : Int) (K : GR10_Got → Prop) (h : R10_Parse_vwp toks atx K) : V_R10_Parse toks atx K := by
 intro m w hm toksA toksC le_toks f_toks
 have o := Mem.start hm.lt
 refine R10_Parse_ok toksA toks.length toksC atx _ _ ?_
 intro b w1 hb hw1
 obtain ⟨st, o⟩ := o.dB hb hw1
 refine cond_map (fun h => ?_) (fun h => ?_) h
 refine ⟨o.wr 0 rfl rfl, fun w2 hw2 => ?_⟩
 obtain ⟨st1, o⟩ := o.dSs 0 hw2 rfl
 refine ⟨_, _, _, _, _, (o.at 0 rfl).whole, ?_⟩
 exact ⟨(⟨[], 0, 1⟩ : GR10_Got), h, ⟨_, rfl, (GR10_Got_in (⟨[], 0, 1⟩ : GR10_Got) ⟨(Nat.le_refl _), (SlR.nil _ _ _ _)⟩)⟩, o.done⟩
 refine call_then (h _ w1 (o.mo hm (by simp) (.head _)) _ _ le_toks (f_toks.st st)) ?_
 rintro _ w3 ⟨x, h, ⟨cs, rfl, f⟩, ke⟩
 obtain ⟨st2, o⟩ := o.dE ke
 obtain ⟨a, c, rfl, ⟨le, f1⟩⟩ := GR10_Got_out f
 refine ⟨_, _, _, _, _, rfl, ?_⟩
 refine ⟨o.wr 0 rfl rfl, fun w4 hw4 => ?_⟩
 obtain ⟨st3, o⟩ := o.dSs 0 hw4 rfl
 refine ⟨_, _, _, _, _, (o.at 0 rfl).whole, ?_⟩
 exact ⟨x, h, ⟨_, rfl, (GR10_Got_in x ⟨le, (f1.st (st3.trans Mem.endS))⟩)⟩, o.done⟩
def L11_live_vwp (K : Bool → Prop) : Prop :=
 V_parse_Text [109, 97, 105, 110, 32, 123, 32, 125] (fun r r1 r2 =>
 V_parse_Text [109, 97, 105, 110, 32, 123, 32, 99, 32, 33, 32, 59, 32, 125] (fun r3 r4 r5 =>
 cond ((r.length : Int) == 3)
 (((0 : Int) ≤ 1 ∧ 1 < (r.length : Int)) ∧
 ∀ x, r[1]? = some x →
 cond (x.op == 41)
 (cond (r1 == 0)
 (cond (r2 == 0)
 (cond (r4 == 11)
 (K (r5 == 11))
 (K false))
 (K false))
 (K false))
 (K false))
 (K false)))
set_option maxRecDepth 10000 in
theorem L11_live_lift (K : Bool → Prop) (h : L11_live_vwp K) : V_L11_live K := by
 intro m w hm
 have o := Mem.start hm.lt
 refine L11_live_ok _ _ ?_
 refine call_then (h _ w (o.mo hm (by simp) (.head _))) ?_
 rintro _ w1 ⟨r, r1, r2, h, ⟨a, c, rfl, ⟨le, f⟩⟩, ke⟩
 obtain ⟨st, o⟩ := o.dE ke
 refine ⟨_, _, _, _, _, rfl, ?_⟩
 refine call_then (h _ w1 (o.mo hm (by simp) (.head _))) ?_
 rintro _ w2 ⟨r3, r4, r5, h, ⟨a1, c1, rfl, ⟨le1, f1⟩⟩, ke1⟩
 obtain ⟨st1, o⟩ := o.dE ke1
 refine ⟨_, _, _, _, _, rfl, ?_⟩
 refine cond_map (fun h => ?_) (fun h => ?_) h
 obtain ⟨hi, h⟩ := h
 obtain ⟨p, x, cs, hp, he, hc, hr⟩ := (f.st st1).elem hi
 obtain rfl := GNode_out hr
 have h := h x he
 refine ⟨hi, ptrOr_some hp ?_⟩
 refine ⟨_, (CellsAt.head hc.2), ?_⟩
 refine cond_map (fun h => ?_) (fun h => ?_) h
 refine cond_map (fun h => ?_) (fun h => ?_) h
 refine cond_map (fun h => ?_) (fun h => ?_) h
 refine cond_map (fun h => ?_) (fun h => ?_) h
 exact ⟨(r5 == 11), h, rfl, o.done⟩
 exact ⟨false, h, rfl, o.done⟩
 exact ⟨false, h, rfl, o.done⟩
 exact ⟨false, h, rfl, o.done⟩
 exact ⟨false, h, rfl, o.done⟩
 exact ⟨false, h, rfl, o.done⟩
def L11_ParseDeep_vwp (n : Int) (last : Bool) (K : Bool → Prop) : Prop :=
 ∃ (I : (List UInt8) → Int → Nat → Prop), (∃ n1, I [109, 97, 105, 110, 32, 123] 0 n1) ∧
 ∀ (sx : List UInt8) (i : Int) (n1 : Nat), I sx i n1 →
 cond (decide (i < (IntKind.i64.wrap n)))
 (((sx.length + [32, 105, 102, 32, 49, 32, 123].length : Nat) : Int) ≤ IntKind.i64.max ∧
 ∃ n2, n2 < n1 ∧ I (sx ++ [32, 105, 102, 32, 49, 32, 123]) (IntKind.i64.wrap (i + 1)) n2)
 (∃ (J : (List UInt8) → Prop),
 (cond (last)
 (((sx.length + [32, 119, 104, 105, 108, 101, 32, 50, 32, 123, 32, 125].length : Nat) : Int) ≤ IntKind.i64.max ∧
 J (sx ++ [32, 119, 104, 105, 108, 101, 32, 50, 32, 123, 32, 125]))
 (J sx)) ∧
 ∀ (sx1 : List UInt8), J sx1 →
 ∃ (I1 : (List UInt8) → Int → Nat → Prop), (∃ n3, I1 sx1 0 n3) ∧
 ∀ (sx2 : List UInt8) (i1 : Int) (n3 : Nat), I1 sx2 i1 n3 →
 cond (decide (i1 ≤ (IntKind.i64.wrap n)))
 (((sx2.length + [32, 125].length : Nat) : Int) ≤ IntKind.i64.max ∧
 ∃ n4, n4 < n3 ∧ I1 (sx2 ++ [32, 125]) (IntKind.i64.wrap (i1 + 1)) n4)
 (∃ (J1 : Int → Prop),
 (cond (last)
 (J1 (IntKind.i64.wrap ((IntKind.i64.wrap ((IntKind.i64.wrap n) + 1)) + 1)))
 (J1 (IntKind.i64.wrap ((IntKind.i64.wrap n) + 1)))) ∧
 ∀ (de : Int), J1 de →
 V_parse_Text sx2 (fun r r1 r2 =>
 cond (decide (de > 24))
 (cond ((r.length : Int) == 0)
 (cond (decide (r1 < (sx2.length : Int)))
 (((0 : Int) ≤ (if 0 > r1 then 0 else r1) ∧ (if 0 > r1 then 0 else r1) < (sx2.length : Int)) ∧
 cond (((sx2.getD (if 0 > r1 then 0 else r1).toNat 0).toNat : Int) == 123)
 (cond (r2 == 5)
 (V_L11_live  (fun x =>
 K x))
 (K false))
 (K false))
 (K false))
 (K false))
 (cond (decide ((r.length : Int) > 0))
 (cond (r1 == 0)
 (cond (r2 == 0)
 (V_L11_live  (fun x1 =>
 K x1))
 (K false))
 (K false))
 (K false)))))
set_option maxRecDepth 10000 in
theorem L11_ParseDeep_lift (n : Int) (last : Bool) (K : Bool → Prop) (h : L11_ParseDeep_vwp n last K) : V_L11_ParseDeep n last K := by
 intro m w hm
 have o := Mem.start hm.lt
 refine L11_ParseDeep_ok n last _ _ ?_
 obtain ⟨I, ⟨n6, h⟩, h2⟩ := h
 obtain ⟨Z, hZ⟩ : ∃ Z : (List UInt8) → Int → World → Nat → Prop, Z = fun sx i w1 n1 => I sx i n1 ∧ Mem w.heap.size [] m [([], w.heap.size, w)] [] w1 [] ∧ Step (ms [] m) w (ms [] m) w1 := ⟨_, rfl⟩
 refine ⟨fun sx i w1 => ∃ n1, Z sx i w1 n1, fun sx i w1 => leastN (Z sx i w1), ⟨n6, ?_⟩, ?_⟩
 rw [hZ]; exact ⟨h, o, Step.refl _ _⟩
 intro _ sx i w1 hIZ
 obtain ⟨n1, hnn1⟩ : ∃ n1, n1 = leastN (Z sx i w1) := ⟨_, rfl⟩
 have hIZ := leastN_at hIZ
 rw [← hnn1, hZ] at hIZ
 obtain ⟨h, o, st⟩ := hIZ
 have h := h2 sx i n1 h
 refine cond_map (fun h => ?_) (fun h => ?_) h
 refine ⟨h.1, ?_⟩
 have h := And.right h
 obtain ⟨n2, hl, h⟩ := h
 exact loop_again hnn1 (show Z _ _ w1 n2 from (by rw [hZ]; exact ⟨h, o, st⟩)) hl
 obtain ⟨J, h, h2⟩ := h
 refine ⟨fun sx1 w2 => J sx1 ∧ Mem w.heap.size [] m [([], w.heap.size, w)] [] w2 [] ∧ Step (ms [] m) w1 (ms [] m) w2, ?_, ?_⟩
 refine cond_map (fun h => ?_) (fun h => ?_) h
 refine ⟨h.1, ?_⟩
 have h := And.right h
 exact ⟨h, o, Step.refl _ _⟩
 exact ⟨h, o, Step.refl _ _⟩
 rintro _ sx1 w2 ⟨hJ, o, st1⟩
 have h := h2 sx1 hJ
 obtain ⟨I1, ⟨n5, h⟩, h2⟩ := h
 obtain ⟨Z1, hZ1⟩ : ∃ Z1 : (List UInt8) → Int → World → Nat → Prop, Z1 = fun sx2 i1 w3 n3 => I1 sx2 i1 n3 ∧ Mem w.heap.size [] m [([], w.heap.size, w)] [] w3 [] ∧ Step (ms [] m) w2 (ms [] m) w3 := ⟨_, rfl⟩
 refine ⟨fun sx2 i1 w3 => ∃ n3, Z1 sx2 i1 w3 n3, fun sx2 i1 w3 => leastN (Z1 sx2 i1 w3), ⟨n5, ?_⟩, ?_⟩
 rw [hZ1]; exact ⟨h, o, Step.refl _ _⟩
 intro _ sx2 i1 w3 hIZ1
 obtain ⟨n3, hnn3⟩ : ∃ n3, n3 = leastN (Z1 sx2 i1 w3) := ⟨_, rfl⟩
 have hIZ1 := leastN_at hIZ1
 rw [← hnn3, hZ1] at hIZ1
 obtain ⟨h, o, st2⟩ := hIZ1
 have h := h2 sx2 i1 n3 h
 refine cond_map (fun h => ?_) (fun h => ?_) h
 refine ⟨h.1, ?_⟩
 have h := And.right h
 obtain ⟨n4, hl1, h⟩ := h
 exact loop_again hnn3 (show Z1 _ _ w3 n4 from (by rw [hZ1]; exact ⟨h, o, st2⟩)) hl1
 obtain ⟨J1, h, h2⟩ := h
 refine ⟨fun de w4 => J1 de ∧ Mem w.heap.size [] m [([], w.heap.size, w)] [] w4 [] ∧ Step (ms [] m) w3 (ms [] m) w4, ?_, ?_⟩
 refine cond_map (fun h => ?_) (fun h => ?_) h
 exact ⟨h, o, Step.refl _ _⟩
 exact ⟨h, o, Step.refl _ _⟩
 rintro _ de w4 ⟨hJ, o, st3⟩
 have h := h2 de hJ
 refine call_then (h _ w4 (o.mo hm (by simp) (.head _))) ?_
 rintro _ w5 ⟨r, r1, r2, h, ⟨a, c, rfl, ⟨le, f⟩⟩, ke⟩
 obtain ⟨st4, o⟩ := o.dE ke
 refine ⟨_, _, _, _, _, rfl, ?_⟩
 refine cond_map (fun h => ?_) (fun h => ?_) h
 refine cond_map (fun h => ?_) (fun h => ?_) h
 refine cond_map (fun h => ?_) (fun h => ?_) h
 refine ⟨h.1, ?_⟩
 have h := And.right h
 refine cond_map (fun h => ?_) (fun h => ?_) h
 refine cond_map (fun h => ?_) (fun h => ?_) h
 refine call_then (h _ w5 (o.mo hm (by simp) (.head _))) ?_
 rintro _ w6 ⟨x, h, rfl, ke1⟩
 obtain ⟨st5, o⟩ := o.dE ke1
 refine ⟨_, rfl, ?_⟩
 exact ⟨x, h, rfl, o.done⟩
 exact ⟨false, h, rfl, o.done⟩
 exact ⟨false, h, rfl, o.done⟩
 exact ⟨false, h, rfl, o.done⟩
 exact ⟨false, h, rfl, o.done⟩
 refine cond_map (fun h => ?_) (fun h => ?_) h
 refine cond_map (fun h => ?_) (fun h => ?_) h
 refine cond_map (fun h => ?_) (fun h => ?_) h
 refine call_then (h _ w5 (o.mo hm (by simp) (.head _))) ?_
 rintro _ w7 ⟨x1, h, rfl, ke2⟩
 obtain ⟨st6, o⟩ := o.dE ke2
 refine ⟨_, rfl, ?_⟩
 exact ⟨x1, h, rfl, o.done⟩
 exact ⟨false, h, rfl, o.done⟩
 exact ⟨false, h, rfl, o.done⟩
 exact ⟨false, h, rfl, o.done⟩
end Go.Proofs.Ytdbdkdmgfiiljaa

namespace Go.Proofs.Ytdbdkdmgfiiljaa
open Go.Vc Go.Lv Go.Ty
structure TermC where
  T : List GToken → Int → List GNode × Int × Int
  lo : ∀ toks at_, 0 ≤ at_ → at_ ≤ (toks.length : Int) → at_ ≤ (T toks at_).2.1
  hi : ∀ toks at_, 0 ≤ at_ → at_ ≤ (toks.length : Int) → (T toks at_).2.1 ≤ (toks.length : Int)
  len : ∀ toks at_, 0 ≤ at_ → at_ ≤ (toks.length : Int) → ((T toks at_).1.length : Int) ≤ (T toks at_).2.1 - at_
  pv : ∀ toks, toks.length < 1000000000 → ∀ at_, 0 ≤ at_ → at_ ≤ (toks.length : Int) → ∀ K : List GNode → Int → Int → Prop, K (T toks at_).1 (T toks at_).2.1 (T toks at_).2.2 → V_term_Parse toks at_ K
  rv : ∀ toks, toks.length < 1000000000 → ∀ at_, 0 ≤ at_ → at_ ≤ (toks.length : Int) → ∀ K : GR10_Got → Prop, K ⟨(T toks at_).1, (T toks at_).2.1, (T toks at_).2.2⟩ → V_R10_Parse toks at_ K
abbrev Str := List UInt8
def sLB : Str := [123]
def sRB : Str := [125]
def sLP : Str := [40]
def sRP : Str := [41]
def sLS : Str := [91]
def sRS : Str := [93]
def sSemi : Str := [59]
def sComma : Str := [44]
def sColon : Str := [58]
def sBang : Str := [33]
def sAsk : Str := [63]
def sEq : Str := [61]
def sVar : Str := [118, 97, 114]
def sStart : Str := [115, 116, 97, 114, 116]
def sSleep : Str := [115, 108, 101, 101, 112]
def sPrint : Str := [112, 114, 105, 110, 116]
def sAssert : Str := [97, 115, 115, 101, 114, 116]
def sSkip : Str := [115, 107, 105, 112]
def sStop : Str := [115, 116, 111, 112]
def sWhile : Str := [119, 104, 105, 108, 101]
def sIf : Str := [105, 102]
def sElse : Str := [101, 108, 115, 101]
def sSelect : Str := [115, 101, 108, 101, 99, 116]
def sCase : Str := [99, 97, 115, 101]
def sWhen : Str := [119, 104, 101, 110]
def sAfter : Str := [97, 102, 116, 101, 114]
def sRandom : Str := [114, 97, 110, 100, 111, 109]
def sChan : Str := [99, 104, 97, 110]
def sProc : Str := [112, 114, 111, 99]
def sMain : Str := [109, 97, 105, 110]
abbrev Cur := GR11_cur
section
variable (M : TermC) (toks : List GToken)
def tokF (at_ : Int) : GToken := if at_ < (toks.length : Int) then (toks[at_.toNat]?).getD ⟨0, [], 0, 0⟩ else ⟨0, [], 0, 0⟩
def isF (at_ : Int) (s : Str) : Bool := ((tokF toks at_).kind == 3 || (tokF toks at_).kind == 4) && ((tokF toks at_).text == s)
def fromC (at_ : Int) : Cur := ⟨[], 0, at_, 0⟩
def eatC (s : Str) (c : Cur) : Cur := if c.e_ = 0 then (if isF toks c.at_ s then ⟨c.l, c.n, c.at_ + 1, 0⟩ else ⟨c.l, c.n, c.at_, 11⟩) else c
def addC (c d : Cur) : Cur := if c.e_ = 0 then ⟨c.l ++ d.l, IntKind.i64.wrap (c.n + 1), d.at_, d.e_⟩ else c
def underC (c : Cur) (x : GNode) : Cur := ⟨⟨x.op, x.name, x.n, c.n, x.at_⟩ :: c.l, 1, c.at_, c.e_⟩
def nameC (c : Cur) : Cur := if c.e_ = 0 then (if (tokF toks c.at_).kind = 1 then ⟨c.l, c.n, c.at_ + 1, 0⟩ else ⟨c.l, c.n, c.at_, 11⟩) else c
def nameS (c : Cur) : Str := if c.e_ = 0 then (if (tokF toks c.at_).kind = 1 then (tokF toks c.at_).text else []) else []
def termC (c : Cur) : Cur := addC c ⟨(M.T toks c.at_).1, 0, (M.T toks c.at_).2.1, (M.T toks c.at_).2.2⟩
def seeB (s : Str) (c : Cur) : Bool := decide (c.e_ = 0) && isF toks c.at_ s
def nd (op : Int) (name : Str) (n at_ : Int) : GNode := ⟨op, name, n, 0, (tokF toks at_).at_⟩
def refC1 (c : Cur) : Cur := if seeB toks sLS c then eatC toks sRS (termC M toks (eatC toks sLS c)) else c
def refC (at_ : Int) : Cur := underC (refC1 M toks (nameC toks (fromC at_))) (nd toks 33 (nameS toks (fromC at_)) 0 at_)
def loopC (g : Cur → Bool) (b : Cur → Cur) : Nat → Cur → Cur
  | 0, c => c
  | f + 1, c => if g c then loopC g b f (b c) else c
def fuel : Nat := toks.length + 2
def blockC (stmt : Int → Cur) (at_ : Int) : Cur :=
  underC (eatC toks sRB (loopC (fun c => decide (c.e_ = 0) && !isF toks c.at_ sRB) (fun c => addC c (stmt c.at_)) (fuel toks) (eatC toks sLB (fromC at_)))) (nd toks 32 [] 0 at_)
def inC (blk : Int → Cur) (c : Cur) : Cur := addC c (blk c.at_)
structure Comm where
  c : Cur
  op : Int
  name : Str
def commC2 (send recv : Int) (c : Cur) : Comm := if seeB toks sBang c then ⟨termC M toks (eatC toks sBang c), send, []⟩ else ⟨nameC toks (eatC toks sAsk c), recv, nameS toks (eatC toks sAsk c)⟩
def commC (send recv : Int) (c : Cur) : Comm := if c.e_ = 0 then commC2 M toks send recv (addC c (refC M toks c.at_)) else ⟨c, 0, []⟩
def whenC (c : Cur) : Cur := if seeB toks sWhen c then eatC toks sColon (termC M toks (eatC toks sWhen c)) else c
def whenN (c : Cur) : Int := if seeB toks sWhen c then 1 else 0
def afterC (c : Cur) : Comm := if seeB toks sAfter c then ⟨termC M toks (eatC toks sAfter c), 36, []⟩ else commC M toks 35 34 c
def clauseC (blk : Int → Cur) (at_ : Int) : Cur :=
  if isF toks at_ sElse then underC (inC blk (eatC toks sElse (fromC at_))) (nd toks 37 [] 0 at_)
  else underC (inC blk (afterC M toks (whenC M toks (eatC toks sCase (fromC at_)))).c) (nd toks (afterC M toks (whenC M toks (eatC toks sCase (fromC at_)))).op (afterC M toks (whenC M toks (eatC toks sCase (fromC at_)))).name (whenN toks (eatC toks sCase (fromC at_))) at_)
def argsC (c : Cur) : Cur :=
  eatC toks sRP (if (decide ((eatC toks sLP c).e_ = 0) && !isF toks (eatC toks sLP c).at_ sRP) then
    loopC (seeB toks sComma) (fun c => termC M toks (eatC toks sComma c)) (fuel toks) (termC M toks (eatC toks sLP c)) else eatC toks sLP c)
def setC (at_ : Int) : Cur :=
  if seeB toks sRandom (eatC toks sEq (nameC toks (fromC at_))) then
    underC (eatC toks sSemi (eatC toks sRP (termC M toks (eatC toks sLP (eatC toks sRandom (eatC toks sEq (nameC toks (fromC at_)))))))) (nd toks 20 (nameS toks (fromC at_)) 0 at_)
  else underC (eatC toks sSemi (termC M toks (eatC toks sEq (nameC toks (fromC at_))))) (nd toks 19 (nameS toks (fromC at_)) 0 at_)
def oneC (s : Str) (op : Int) (at_ : Int) : Cur := underC (eatC toks sSemi (termC M toks (eatC toks s (fromC at_)))) (nd toks op [] 0 at_)
def noneC (s : Str) (op : Int) (at_ : Int) : Cur := underC (eatC toks sSemi (eatC toks s (fromC at_))) (nd toks op [] 0 at_)
def ifC (blk : Int → Cur) (c : Cur) : Cur := if seeB toks sElse c then inC blk (eatC toks sElse c) else c
def selC (blk : Int → Cur) (c : Cur) : Cur := loopC (fun c => decide (c.e_ = 0) && !isF toks c.at_ sRB) (fun c => addC c (clauseC M toks blk c.at_)) (fuel toks) (addC c (clauseC M toks blk c.at_))
def wordC (blk : Int → Cur) (at_ : Int) : Cur :=
  let s := (tokF toks at_).text
  if s = sVar then underC (eatC toks sSemi (termC M toks (eatC toks sEq (nameC toks (eatC toks sVar (fromC at_)))))) (nd toks 18 (nameS toks (eatC toks sVar (fromC at_))) 0 at_)
  else if s = sStart then underC (eatC toks sSemi (argsC M toks (nameC toks (eatC toks sStart (fromC at_))))) (nd toks 26 (nameS toks (eatC toks sStart (fromC at_))) 0 at_)
  else if s = sSleep then oneC M toks sSleep 27 at_
  else if s = sPrint then oneC M toks sPrint 28 at_
  else if s = sAssert then oneC M toks sAssert 29 at_
  else if s = sSkip then noneC toks sSkip 30 at_
  else if s = sStop then noneC toks sStop 31 at_
  else if s = sWhile then underC (inC blk (termC M toks (eatC toks sWhile (fromC at_)))) (nd toks 24 [] 0 at_)
  else if s = sIf then underC (ifC toks blk (inC blk (termC M toks (eatC toks sIf (fromC at_))))) (nd toks 23 [] 0 at_)
  else if s = sSelect then underC (eatC toks sRB (selC M toks blk (eatC toks sLB (eatC toks sSelect (fromC at_))))) (nd toks 25 [] 0 at_)
  else ⟨[], 0, at_, 11⟩
def stmtC (blk : Int → Cur) (at_ : Int) : Cur :=
  if (tokF toks at_).kind = 1 then
    (if isF toks (at_ + 1) sEq then setC M toks at_
     else underC (eatC toks sSemi (commC M toks 21 22 (fromC at_)).c) (nd toks (commC M toks 21 22 (fromC at_)).op (commC M toks 21 22 (fromC at_)).name 0 at_))
  else if (tokF toks at_).kind = 3 then wordC M toks blk at_
  else ⟨[], 0, at_, 11⟩
def blkF : Nat → Int → Cur
  | 0, at_ => if isF toks at_ sLB then ⟨[], 0, at_, 5⟩ else blockC toks fromC at_
  | k + 1, at_ => blockC toks (stmtC M toks (blkF k)) at_
def sizeC (c : Cur) : Cur := if c.e_ = 0 then (if (tokF toks c.at_).kind = 2 then (if (tokF toks c.at_).n < 1 ∨ (tokF toks c.at_).n > 16 then ⟨c.l, c.n, c.at_, 6⟩ else ⟨c.l, c.n, c.at_ + 1, 0⟩) else ⟨c.l, c.n, c.at_, 11⟩) else c
def sizeN (c : Cur) : Int := if (sizeC toks c).e_ = 0 then (tokF toks c.at_).n else 0
def paramC (c : Cur) : Cur := addC c (underC (nameC toks (fromC c.at_)) (nd toks 39 (nameS toks (fromC c.at_)) 0 c.at_))
def chanC1 (c : Cur) : Cur := if seeB toks sLS c then eatC toks sRS (sizeC toks (eatC toks sLS c)) else c
def chanN (c : Cur) : Int := if seeB toks sLS c then sizeN toks (eatC toks sLS c) else 0
def procC1 (c : Cur) : Cur := if (decide (c.e_ = 0) && !isF toks c.at_ sRP) then loopC (seeB toks sComma) (fun c => paramC toks (eatC toks sComma c)) (fuel toks) (paramC toks c) else c
def declC (at_ : Int) : Cur :=
  if isF toks at_ sChan then
    underC (eatC toks sSemi (chanC1 toks (nameC toks (eatC toks sChan (fromC at_))))) (nd toks 38 (nameS toks (eatC toks sChan (fromC at_))) (chanN toks (nameC toks (eatC toks sChan (fromC at_)))) at_)
  else if isF toks at_ sProc then
    underC (inC (blkF M toks 24) (eatC toks sRP (procC1 toks (eatC toks sLP (nameC toks (eatC toks sProc (fromC at_))))))) (nd toks 40 (nameS toks (eatC toks sProc (fromC at_))) 0 at_)
  else underC (inC (blkF M toks 24) (eatC toks sMain (fromC at_))) (nd toks 41 [] 0 at_)
def unitC : Cur := loopC (fun c => decide (c.e_ = 0) && !decide ((tokF toks c.at_).kind = 0)) (fun c => addC c (declC M toks c.at_)) (fuel toks) (fromC 0)
def unitF : GR10_Got := if (unitC M toks).e_ ≠ 0 then ⟨[], (unitC M toks).at_, (unitC M toks).e_⟩ else ⟨(underC (unitC M toks) ⟨42, [], 0, 0, 0⟩).l, 0, 0⟩
end
structure Cw (toks : List GToken) (at0 : Int) (s q : Nat) (c : Cur) : Prop where
  z : 0 ≤ at0
  lo : at0 ≤ c.at_
  hi : c.at_ ≤ (toks.length : Int)
  w : c.e_ = 0 → (c.l.length : Int) + s ≤ c.at_ - at0
  b : (c.l.length : Int) ≤ c.at_ - at0 + q
section
variable {toks : List GToken} {at0 : Int} {s q : Nat} {c d : Cur}
theorem Cw.mono {s' q' : Nat} (h : Cw toks at0 s q c) (hs : s' ≤ s) (hq : q ≤ q') : Cw toks at0 s' q' c :=
  ⟨h.z, h.lo, h.hi, fun e => by have := h.w e; omega, by have := h.b; omega⟩
theorem cw_from {at_ : Int} (h0 : 0 ≤ at_) (h1 : at_ ≤ (toks.length : Int)) (q : Nat) : Cw toks at_ 0 q (fromC at_) := ⟨h0, Int.le_refl _, h1, fun _ => by simp [fromC], by simp [fromC]⟩
theorem tokF_end {at_ : Int} (h : (toks.length : Int) ≤ at_) : tokF toks at_ = ⟨0, [], 0, 0⟩ := by unfold tokF; rw [if_neg (by omega)]
theorem isF_lt {at_ : Int} {s : Str} (h : isF toks at_ s = true) : at_ < (toks.length : Int) := by
  by_cases hl : at_ < (toks.length : Int)
  · exact hl
  · unfold isF at h
    rw [tokF_end (by omega)] at h
    simp at h
theorem kind_lt {at_ : Int} (h : (tokF toks at_).kind ≠ 0) : at_ < (toks.length : Int) := by
  by_cases hl : at_ < (toks.length : Int)
  · exact hl
  · rw [tokF_end (by omega)] at h; exact absurd rfl h
theorem cw_eat (t : Str) (h : Cw toks at0 s q c) : Cw toks at0 (s + 1) q (eatC toks t c) := by
  obtain ⟨z, lo, hi, w, b⟩ := h
  unfold eatC
  split
  · rename_i he
    split
    · rename_i hs
      have := isF_lt hs
      have := w he
      exact ⟨z, by dsimp only; omega, by dsimp only; omega, fun _ => by dsimp only; omega, by dsimp only; omega⟩
    · exact ⟨z, lo, hi, fun h => by simp at h, b⟩
  · rename_i he
    exact ⟨z, lo, hi, fun h => absurd h he, b⟩
theorem cw_name (h : Cw toks at0 s q c) : Cw toks at0 (s + 1) q (nameC toks c) := by
  obtain ⟨z, lo, hi, w, b⟩ := h
  unfold nameC
  split
  · rename_i he
    split
    · rename_i hs
      have := kind_lt (toks := toks) (at_ := c.at_) (by omega)
      have := w he
      exact ⟨z, by dsimp only; omega, by dsimp only; omega, fun _ => by dsimp only; omega, by dsimp only; omega⟩
    · exact ⟨z, lo, hi, fun h => by simp at h, b⟩
  · rename_i he
    exact ⟨z, lo, hi, fun h => absurd h he, b⟩
theorem cw_size (h : Cw toks at0 s q c) : Cw toks at0 (s + 1) q (sizeC toks c) := by
  obtain ⟨z, lo, hi, w, b⟩ := h
  unfold sizeC
  split
  · rename_i he
    split
    · rename_i hs
      have := kind_lt (toks := toks) (at_ := c.at_) (by omega)
      have := w he
      split
      · exact ⟨z, lo, hi, fun h => by simp at h, b⟩
      · exact ⟨z, by dsimp only; omega, by dsimp only; omega, fun _ => by dsimp only; omega, by dsimp only; omega⟩
    · exact ⟨z, lo, hi, fun h => by simp at h, b⟩
  · rename_i he
    exact ⟨z, lo, hi, fun h => absurd h he, b⟩
theorem cw_add {q' s' : Nat} (h : Cw toks at0 s q c) (hd : c.e_ = 0 → Cw toks c.at_ s' q' d) (hq : q' ≤ q) : Cw toks at0 (s + s') q (addC c d) := by
  obtain ⟨z, lo, hi, w, b⟩ := h
  unfold addC
  split
  · rename_i he
    obtain ⟨z', lo', hi', w', b'⟩ := hd he
    have := w he
    refine ⟨z, by dsimp only; omega, hi', fun e => ?_, ?_⟩
    · have := w' e
      simp only [List.length_append]; omega
    · simp only [List.length_append]; omega
  · rename_i he
    exact ⟨z, lo, hi, fun h => absurd h he, b⟩
theorem cw_term (M : TermC) (h : Cw toks at0 s q c) : Cw toks at0 s q (termC M toks c) := by
  have h0 : 0 ≤ c.at_ := Int.le_trans h.z h.lo
  refine cw_add (s' := 0) (q' := 0) h (fun _ => ⟨h0, M.lo _ _ h0 h.hi, M.hi _ _ h0 h.hi, fun _ => ?_, ?_⟩) (Nat.zero_le _)
  · have := M.len _ _ h0 h.hi; simpa using this
  · have := M.len _ _ h0 h.hi; simpa using this
theorem cw_under {x : GNode} (h : Cw toks at0 (s + 1) q c) : Cw toks at0 s (q + 1) (underC c x) := by
  obtain ⟨z, lo, hi, w, b⟩ := h
  refine ⟨z, lo, hi, fun e => ?_, ?_⟩
  · have := w e
    simp only [underC, List.length_cons]; omega
  · simp only [underC, List.length_cons]; omega
theorem Cw.z1 (h : Cw toks at0 s q c) : 0 ≤ c.at_ := Int.le_trans h.z h.lo
theorem cw_err {at_ e : Int} (h0 : 0 ≤ at_) (h1 : at_ ≤ (toks.length : Int)) (he : e ≠ 0) (s q : Nat) : Cw toks at_ s q ⟨[], 0, at_, e⟩ := ⟨h0, Int.le_refl _, h1, fun h => absurd h he, by simp⟩
theorem cw_ref1 (M : TermC) (h : Cw toks at0 s q c) : Cw toks at0 s q (refC1 M toks c) := by
  unfold refC1
  split
  · exact (cw_eat _ (cw_term M (cw_eat _ h))).mono (by omega) (Nat.le_refl _)
  · exact h
theorem cw_ref (M : TermC) {at_ : Int} (h0 : 0 ≤ at_) (h1 : at_ ≤ (toks.length : Int)) : Cw toks at_ 0 1 (refC M toks at_) :=
  cw_under (cw_ref1 M (cw_name (cw_from h0 h1 0)))
theorem cw_comm2 (M : TermC) (a b : Int) (h : Cw toks at0 s q c) : Cw toks at0 (s + 1) q (commC2 M toks a b c).c := by
  unfold commC2
  split
  · exact cw_term M (cw_eat _ h)
  · exact (cw_name (cw_eat _ h)).mono (by omega) (Nat.le_refl _)
theorem cw_comm (M : TermC) (a b : Int) (h : Cw toks at0 s q c) (hq : 1 ≤ q) : Cw toks at0 (s + 1) q (commC M toks a b c).c := by
  unfold commC
  split
  · exact cw_comm2 M a b (cw_add h (fun _ => cw_ref M h.z1 h.hi) hq)
  · rename_i he
    exact ⟨h.z, h.lo, h.hi, fun h => absurd h he, h.b⟩
theorem loop_cw {g : Cur → Bool} {b : Cur → Cur} (hb : ∀ c, Cw toks at0 s q c → g c = true → Cw toks at0 s q (b c)) : ∀ (f : Nat) (c : Cur), Cw toks at0 s q c → Cw toks at0 s q (loopC g b f c)
  | 0, c, h => h
  | f + 1, c, h => by
    unfold loopC
    cases hg : g c with
    | true => rw [if_pos rfl]; exact loop_cw hb f _ (hb c h hg)
    | false => rw [if_neg (by simp)]; exact h
theorem cw_block {stmt : Int → Cur} (hs : ∀ at_, 0 ≤ at_ → at_ ≤ (toks.length : Int) → Cw toks at_ 0 q (stmt at_)) {at_ : Int} (h0 : 0 ≤ at_) (h1 : at_ ≤ (toks.length : Int)) : Cw toks at_ 1 (q + 1) (blockC toks stmt at_) :=
  cw_under (cw_eat _ (loop_cw (s := 1) (fun _ h _ => cw_add h (fun _ => hs _ h.z1 h.hi) (Nat.le_refl _)) _ _ (cw_eat _ (cw_from h0 h1 q))))
def Blk (toks : List GToken) (q : Nat) (blk : Int → Cur) : Prop := ∀ at_, 0 ≤ at_ → at_ ≤ (toks.length : Int) → Cw toks at_ 1 q (blk at_)
theorem cw_in {blk : Int → Cur} {q' : Nat} (hb : Blk toks q' blk) (h : Cw toks at0 s q c) (hq : q' ≤ q) : Cw toks at0 (s + 1) q (inC blk c) :=
  cw_add h (fun _ => hb _ h.z1 h.hi) hq
theorem cw_when (M : TermC) (h : Cw toks at0 s q c) : Cw toks at0 s q (whenC M toks c) := by
  unfold whenC
  split
  · exact (cw_eat _ (cw_term M (cw_eat _ h))).mono (by omega) (Nat.le_refl _)
  · exact h
theorem cw_after (M : TermC) (h : Cw toks at0 s q c) (hq : 1 ≤ q) : Cw toks at0 s q (afterC M toks c).c := by
  unfold afterC
  split
  · exact (cw_term M (cw_eat _ h)).mono (by omega) (Nat.le_refl _)
  · exact (cw_comm M _ _ h hq).mono (by omega) (Nat.le_refl _)
theorem cw_clause (M : TermC) {blk : Int → Cur} (hb : Blk toks q blk) (hq : 1 ≤ q) {at_ : Int} (h0 : 0 ≤ at_) (h1 : at_ ≤ (toks.length : Int)) : Cw toks at_ 1 (q + 1) (clauseC M toks blk at_) := by
  unfold clauseC
  split
  · exact cw_under (cw_in hb (cw_eat _ (cw_from h0 h1 q)) (Nat.le_refl _))
  · exact cw_under (cw_in hb (cw_after M (cw_when M (cw_eat _ (cw_from h0 h1 q))) hq) (Nat.le_refl _))
theorem cw_args (M : TermC) (h : Cw toks at0 s q c) : Cw toks at0 s q (argsC M toks c) := by
  unfold argsC
  refine (cw_eat (s := s) _ ?_).mono (by omega) (Nat.le_refl _)
  split
  · exact loop_cw (fun _ h _ => (cw_term M (cw_eat _ h)).mono (by omega) (Nat.le_refl _)) _ _ ((cw_term M (cw_eat _ h)).mono (by omega) (Nat.le_refl _))
  · exact (cw_eat _ h).mono (by omega) (Nat.le_refl _)
theorem cw_set (M : TermC) {at_ : Int} (h0 : 0 ≤ at_) (h1 : at_ ≤ (toks.length : Int)) : Cw toks at_ 1 1 (setC M toks at_) := by
  unfold setC
  split
  · exact (cw_under (cw_eat _ (cw_eat _ (cw_term M (cw_eat _ (cw_eat _ (cw_eat _ (cw_name (cw_from h0 h1 0))))))))).mono (by omega) (Nat.le_refl _)
  · exact (cw_under (cw_eat _ (cw_term M (cw_eat _ (cw_name (cw_from h0 h1 0)))))).mono (by omega) (Nat.le_refl _)
theorem cw_word (M : TermC) {blk : Int → Cur} (hb : Blk toks q blk) (hq : 1 ≤ q) {at_ : Int} (h0 : 0 ≤ at_) (h1 : at_ ≤ (toks.length : Int)) : Cw toks at_ 1 (q + 2) (wordC M toks blk at_) := by
  have hf := cw_from h0 h1 q
  have h11 := cw_err (toks := toks) h0 h1 (e := 11) (by decide) 1 (q + 2)
  unfold wordC
  dsimp only
  split
  · exact (cw_under (cw_eat _ (cw_term M (cw_eat _ (cw_name (cw_eat _ hf)))))).mono (by omega) (by omega)
  split
  · exact (cw_under (cw_eat _ (cw_args M (cw_name (cw_eat _ hf))))).mono (by omega) (by omega)
  split
  · exact (cw_under (cw_eat _ (cw_term M (cw_eat _ hf)))).mono (by omega) (by omega)
  split
  · exact (cw_under (cw_eat _ (cw_term M (cw_eat _ hf)))).mono (by omega) (by omega)
  split
  · exact (cw_under (cw_eat _ (cw_term M (cw_eat _ hf)))).mono (by omega) (by omega)
  split
  · exact (cw_under (cw_eat _ (cw_eat _ hf))).mono (by omega) (by omega)
  split
  · exact (cw_under (cw_eat _ (cw_eat _ hf))).mono (by omega) (by omega)
  split
  · exact (cw_under (cw_in hb (cw_term M (cw_eat _ hf)) (Nat.le_refl _))).mono (by omega) (by omega)
  split
  · have hi := cw_in hb (cw_term M (cw_eat sIf hf)) (Nat.le_refl _)
    refine (cw_under (s := 1) (q := q) ?_).mono (by omega) (by omega)
    unfold ifC
    split
    · exact (cw_in hb (cw_eat _ hi) (Nat.le_refl _)).mono (by omega) (Nat.le_refl _)
    · exact hi
  split
  · refine (cw_under (s := 2) (q := q + 1) (cw_eat _ ?_)).mono (by omega) (by omega)
    unfold selC
    have hf' := (cw_eat sLB (cw_eat sSelect hf)).mono (q' := q + 1) (Nat.le_refl _) (by omega)
    exact loop_cw (s := 2) (fun _ h _ => (cw_add h (fun _ => cw_clause M hb hq h.z1 h.hi) (Nat.le_refl _)).mono (by omega) (Nat.le_refl _)) _ _ ((cw_add hf' (fun _ => cw_clause M hb hq hf'.z1 hf'.hi) (Nat.le_refl _)).mono (by omega) (Nat.le_refl _))
  · exact h11
theorem cw_stmt (M : TermC) {blk : Int → Cur} (hb : Blk toks q blk) (hq : 1 ≤ q) {at_ : Int} (h0 : 0 ≤ at_) (h1 : at_ ≤ (toks.length : Int)) : Cw toks at_ 1 (q + 2) (stmtC M toks blk at_) := by
  unfold stmtC
  split
  · split
    · exact (cw_set M h0 h1).mono (by omega) (by omega)
    · exact (cw_under (cw_eat _ (cw_comm M _ _ (cw_from h0 h1 q) hq))).mono (by omega) (by omega)
  · split
    · exact cw_word M hb hq h0 h1
    · exact cw_err h0 h1 (by decide) _ _
theorem cw_blk (M : TermC) : ∀ k, Blk toks (3 * k + 2) (blkF M toks k)
  | 0, at_, h0, h1 => by
    unfold blkF
    split
    · exact cw_err h0 h1 (by decide) _ _
    · exact (cw_block (fun a h0 h1 => cw_from h0 h1 1) h0 h1).mono (by omega) (by omega)
  | k + 1, at_, h0, h1 => by
    unfold blkF
    exact (cw_block (fun a h0 h1 => (cw_stmt M (cw_blk M k) (by omega) h0 h1).mono (by omega) (Nat.le_refl _)) h0 h1).mono (by omega) (by omega)
theorem cw_param (h : Cw toks at0 s q c) (hq : 1 ≤ q) : Cw toks at0 s q (paramC toks c) :=
  cw_add h (fun _ => cw_under (cw_name (cw_from h.z1 h.hi 0))) hq
theorem cw_proc1 (h : Cw toks at0 s q c) (hq : 1 ≤ q) : Cw toks at0 s q (procC1 toks c) := by
  unfold procC1
  split
  · exact loop_cw (fun _ h _ => (cw_param (cw_eat _ h) hq).mono (by omega) (Nat.le_refl _)) _ _ (cw_param h hq)
  · exact h
theorem cw_chan1 (h : Cw toks at0 s q c) : Cw toks at0 s q (chanC1 toks c) := by
  unfold chanC1
  split
  · exact (cw_eat _ (cw_size (cw_eat _ h))).mono (by omega) (Nat.le_refl _)
  · exact h
theorem cw_decl (M : TermC) {at_ : Int} (h0 : 0 ≤ at_) (h1 : at_ ≤ (toks.length : Int)) : Cw toks at_ 1 100 (declC M toks at_) := by
  have hf := cw_from h0 h1 80
  unfold declC
  split
  · exact (cw_under (cw_eat _ (cw_chan1 (cw_name (cw_eat _ hf))))).mono (by omega) (by omega)
  split
  · exact (cw_under (cw_in (cw_blk M 24) (cw_eat _ (cw_proc1 (cw_eat _ (cw_name (cw_eat _ hf))) (by omega))) (by omega))).mono (by omega) (by omega)
  · exact (cw_under (cw_in (cw_blk M 24) (cw_eat _ hf) (by omega))).mono (by omega) (by omega)
def LI (toks : List GToken) (g : Cur → Bool) (b : Cur → Cur) (F : Cur) (f : Nat) (c : Cur) : Prop := loopC g b f c = F ∧ (c.e_ = 0 → (toks.length : Int) + 2 ≤ f + c.at_)
theorem LI.start {g : Cur → Bool} {b : Cur → Cur} (h : Cw toks at0 s q c) : LI toks g b (loopC g b (fuel toks) c) (fuel toks) c := ⟨rfl, fun _ => by have := h.z1; unfold fuel; omega⟩
theorem LI.step {g : Cur → Bool} {b : Cur → Cur} {F : Cur} {f : Nat} (h : LI toks g b F f c) (hg : g c = true) (he : c.e_ = 0) (hh : c.at_ ≤ (toks.length : Int)) (ha : (b c).e_ = 0 → c.at_ + 1 ≤ (b c).at_) : ∃ f', f' < f ∧ LI toks g b F f' (b c) := by
  have h2 := h.2 he
  obtain ⟨f, rfl⟩ : ∃ f', f = f' + 1 := ⟨f - 1, by omega⟩
  refine ⟨f, by omega, ?_, fun e => by have := ha e; omega⟩
  have := h.1
  rw [loopC, hg, if_pos rfl] at this
  exact this
theorem LI.stop {g : Cur → Bool} {b : Cur → Cur} {F : Cur} {f : Nat} (h : LI toks g b F f c) (hg : g c = false) : c = F := by
  have := h.1
  cases f with
  | zero => exact this
  | succ f => rw [loopC, hg, if_neg (by simp)] at this; exact this
theorem adv_add {s' q' : Nat} (h : Cw toks c.at_ (s' + 1) q' d) (he : c.e_ = 0) (hd : (addC c d).e_ = 0) : c.at_ + 1 ≤ (addC c d).at_ := by
  unfold addC at hd ⊢
  rw [if_pos he] at hd ⊢
  have := h.w hd
  dsimp only
  omega
theorem cw_unit (M : TermC) : Cw toks 0 0 100 (unitC M toks) :=
  loop_cw (fun _ h _ => (cw_add h (fun _ => cw_decl M h.z1 h.hi) (Nat.le_refl _)).mono (by omega) (Nat.le_refl _)) _ _ (cw_from (Int.le_refl _) (by omega) _)
end
end Go.Proofs.Ytdbdkdmgfiiljaa
namespace Go.Proofs.Ytdbdkdmgfiiljaa
open Go.Vc Go.Lv Go.Ty
section
variable {toks : List GToken} {at0 : Int} {s q : Nat} {c d : Cur}
theorem rtok_v {at_ : Int} (h0 : 0 ≤ at_) (K : GToken → Prop) (h : K (tokF toks at_)) : V_R10_Tok toks at_ K := by
  refine R10_Tok_lift _ _ _ (cond_intro (fun hc => ?_) fun hc => ?_)
  · have hlt : at_ < (toks.length : Int) := by simpa using hc
    refine ⟨⟨h0, hlt⟩, fun x hx => ?_⟩
    unfold tokF at h
    rw [if_pos hlt, hx] at h; exact h
  · have hlt : ¬ at_ < (toks.length : Int) := by simpa using hc
    unfold tokF at h
    rw [if_neg hlt] at h; exact h
theorem is_cond (x : GToken) (t : Str) (K : Bool → Prop) (h : K ((x.kind == 3 || x.kind == 4) && (x.text == t))) : cond (x.kind == 3) (K (x.text == t)) (cond (x.kind == 4) (K (x.text == t)) (K false)) := by
  refine cond_intro (fun h3 => ?_) fun h3 => cond_intro (fun h4 => ?_) fun h4 => ?_
  · rw [h3] at h; exact h
  · rw [h3, h4] at h; exact h
  · rw [h3, h4] at h; exact h
theorem Cw.len (hN : toks.length < 1000000) (hc : Cw toks at0 s q c) (hq : q ≤ 1000) : c.l.length < 2000000 := by
  have := hc.b; have := hc.lo; have := hc.hi; have := hc.z
  omega
theorem see_eat {t : Str} (h : (decide (c.e_ = 0) && isF toks c.at_ t) = true) : eatC toks t c = ⟨c.l, c.n, c.at_ + 1, 0⟩ := by
  simp only [Bool.and_eq_true, decide_eq_true_eq] at h
  unfold eatC
  rw [if_pos h.1, if_pos h.2]
theorem term_at (M : TermC) (hc : Cw toks at0 s q c) (he : c.e_ = 0) : c.at_ ≤ (termC M toks c).at_ := by
  unfold termC addC
  rw [if_pos he]
  exact M.lo _ _ hc.z1 hc.hi
end
end Go.Proofs.Ytdbdkdmgfiiljaa
namespace Go.Proofs.Ytdbdkdmgfiiljaa
open Go.Vc Go.Lv Go.Ty
section
variable {toks : List GToken} {at0 : Int} {s q : Nat} {c d : Cur}
end
end Go.Proofs.Ytdbdkdmgfiiljaa
namespace Go.Proofs.Ytdbdkdmgfiiljaa
open Go.Vc Go.Lv Go.Ty
def wk (x : GNode) (n : Int) : GNode := ⟨x.op, x.name, x.n, n, x.at_⟩
def fromE (at_ e : Int) : Cur := ⟨[], 0, at_, e⟩
structure Re (toks : List GToken) (A : List GNode) (x : GNode) (at0 dp : Int) (s q p : Nat) (c : Cur) (r : Gparse_reader) : Prop where
  cw : Cw toks at0 s q c
  t : r.toks = toks
  at_ : r.at_ = c.at_
  e_ : r.e_ = c.e_
  dp : r.deep = dp
  ok : c.e_ = 0 → r.l = A ++ wk x c.n :: c.l
  lo : A.length < r.l.length
  hi : c.e_ ≠ 0 → (r.l.length : Int) ≤ A.length + 1 + (c.at_ - at0) + p
  ha : (A.length : Int) ≤ at0 + 2000
section
variable {toks : List GToken} {A : List GNode} {x : GNode} {at0 dp : Int} {s q p : Nat} {c d : Cur} {r : Gparse_reader}
theorem Re.re (h : Re toks A x at0 dp s q p c r) {L : List GNode} (hl : r.l = L) : Re toks A x at0 dp s q p c ⟨toks, r.at_, r.deep, L, r.e_⟩ := by
  subst hl
  exact ⟨h.cw, rfl, h.at_, h.e_, h.dp, h.ok, h.lo, h.hi, h.ha⟩
theorem Re.mono {s' q' p' : Nat} (h : Re toks A x at0 dp s q p c r) (hs : s' ≤ s) (hq : q ≤ q') (hp : p ≤ p') : Re toks A x at0 dp s' q' p' c r :=
  ⟨h.cw.mono hs hq, h.t, h.at_, h.e_, h.dp, h.ok, h.lo, fun e => by have := h.hi e; omega, h.ha⟩
theorem Re.len (h : Re toks A x at0 dp s q p c r) : (r.l.length : Int) ≤ A.length + 1 + (c.at_ - at0) + p := by
  by_cases he : c.e_ = 0
  · have h1 := h.cw.w he
    rw [h.ok he]
    simp only [List.length_append, List.length_cons]
    omega
  · exact h.hi he
theorem Re.small (hN : toks.length < 1000000) (h : Re toks A x at0 dp s q p c r) (hp : p ≤ 1000) : r.l.length < 2000000 := by
  have := h.len
  have := h.cw.z
  have := h.cw.hi
  have := h.cw.lo
  have := h.ha
  omega
theorem Re.stepE {c' : Cur} {r' : Gparse_reader} {s' : Nat} (h : Re toks A x at0 dp s q p c r) (hc : Cw toks at0 s' q c') (ht : r'.toks = toks) (hat : r'.at_ = c'.at_) (he : r'.e_ = c'.e_) (hd : r'.deep = r.deep) (hl : r'.l = r.l) (hge : c.at_ ≤ c'.at_) (hok : c'.e_ = 0 → r.l = A ++ wk x c'.n :: c'.l) : Re toks A x at0 dp s' q p c' r' :=
  ⟨hc, ht, hat, he, hd.trans h.dp, fun e => hl.trans (hok e), by rw [hl]; exact h.lo, fun _ => by rw [hl]; have := h.len; omega, h.ha⟩
theorem Re.anyx (h : Re toks A x at0 dp s q p c r) (he : c.e_ ≠ 0) (x' : GNode) : Re toks A x' at0 dp s q p c r :=
  ⟨h.cw, h.t, h.at_, h.e_, h.dp, fun e => absurd e he, h.lo, h.hi, h.ha⟩
theorem Re.resetp (h : Re toks A x at0 dp s q p c r) (he : c.e_ = 0) (p' : Nat) : Re toks A x at0 dp s q p' c r :=
  ⟨h.cw, h.t, h.at_, h.e_, h.dp, h.ok, h.lo, fun e => absurd he e, h.ha⟩
theorem Re.elem (h : Re toks A x at0 dp s q p c r) {P : GNode → Prop} (hP : ∀ y, r.l[A.length]? = some y → (c.e_ = 0 → y = wk x c.n) → P y) :
    ((0 : Int) ≤ (A.length : Int) ∧ (A.length : Int) < (r.l.length : Int)) ∧ ∀ y, r.l[(A.length : Int).toNat]? = some y → P y := by
  have := h.lo
  refine ⟨⟨by omega, by omega⟩, fun y hy => ?_⟩
  rw [Int.toNat_natCast] at hy
  refine hP y hy fun e => ?_
  rw [h.ok e] at hy
  simpa using hy.symm
theorem Re.upd (h : Re toks A x at0 dp s q p c r) {y y' : GNode} (x' : GNode) (hy : c.e_ = 0 → y = wk x c.n) (hy' : y = wk x c.n → y' = wk x' c.n) : Re toks A x' at0 dp s q p c ⟨toks, r.at_, r.deep, r.l.set (A.length : Int).toNat y', r.e_⟩ := by
  refine ⟨h.cw, rfl, h.at_, h.e_, h.dp, fun e => ?_, by rw [List.length_set]; exact h.lo, fun e => by rw [List.length_set]; exact h.hi e, h.ha⟩
  show r.l.set _ _ = _
  rw [h.ok e, Int.toNat_natCast, hy' (hy e)]
  simp
theorem psee_v (hN : toks.length < 1000000) (ht : r.toks = toks) (h0 : 0 ≤ r.at_) (h1 : r.at_ ≤ (toks.length : Int)) (k : Int) (hk : 0 ≤ k) (hk1 : k ≤ 1) (K : GToken → Prop) (h : K (tokF toks (r.at_ + k))) : V_parse_reader_see r k K := by
  subst ht
  refine parse_reader_see_lift _ _ _ ?_
  unfold parse_reader_see_vwp
  rw [wrap_in (by omega) (by omega)]
  refine cond_intro (fun hc => ?_) fun hc => ?_
  · have hlt : r.at_ + k < (r.toks.length : Int) := by simpa using hc
    refine ⟨⟨by omega, hlt⟩, fun x hx => ?_⟩
    unfold tokF at h
    rw [if_pos hlt, hx] at h; exact h
  · have hlt : ¬ r.at_ + k < (r.toks.length : Int) := by simpa using hc
    unfold tokF at h
    rw [if_neg hlt] at h; exact h
theorem pis_v (hN : toks.length < 1000000) (ht : r.toks = toks) (h0 : 0 ≤ r.at_) (h1 : r.at_ ≤ (toks.length : Int)) (k : Int) (hk : 0 ≤ k) (hk1 : k ≤ 1) (t : Str) (K : Bool → Prop) (h : K (isF toks (r.at_ + k) t)) : V_parse_reader_is r k t K :=
  parse_reader_is_lift _ _ _ _ (psee_v hN ht h0 h1 k hk hk1 _ (is_cond _ t K h))
theorem pfail_v (e : Int) (K : Gparse_reader → Prop) (h : K ⟨r.toks, r.at_, r.deep, r.l, if r.e_ = 0 then e else r.e_⟩) : V_parse_reader_fail r e K := by
  refine parse_reader_fail_lift _ _ _ (cond_intro (fun hc => ?_) fun hc => ?_)
  · rw [if_pos (by simpa using hc)] at h; exact h
  · rw [if_neg (by simpa using hc)] at h; exact h
theorem eat0 (t : Str) : seeB toks t c = true → eatC toks t c = ⟨c.l, c.n, c.at_ + 1, 0⟩ := see_eat
theorem eat1 {t : Str} (he : c.e_ = 0) (h : seeB toks t c = false) : eatC toks t c = ⟨c.l, c.n, c.at_, 11⟩ := by
  unfold seeB at h
  rw [decide_eq_true he] at h
  unfold eatC
  rw [if_pos he, if_neg (by simpa using h)]
theorem eatE {t : Str} (he : c.e_ ≠ 0) : eatC toks t c = c := by unfold eatC; rw [if_neg he]
theorem see_lt {t : Str} (h : seeB toks t c = true) : c.e_ = 0 ∧ isF toks c.at_ t = true := by
  unfold seeB at h
  simpa using h
theorem seeE {t : Str} (he : c.e_ ≠ 0) : seeB toks t c = false := by unfold seeB; rw [decide_eq_false he]; rfl
theorem eat_s (hN : toks.length < 1000000) (h : Re toks A x at0 dp s q p c r) (t : Str) (K : Bool → Gparse_reader → Prop)
    (hT : seeB toks t c = true → ∀ r', r'.l = r.l → Re toks A x at0 dp (s + 1) q p (eatC toks t c) r' → K true r')
    (hF : seeB toks t c = false → ∀ r', r'.l = r.l → Re toks A x at0 dp s q p c r' → K false r') : V_parse_reader_eat r t K := by
  have z0 := h.cw.z1
  have z1 := h.cw.hi
  refine parse_reader_eat_lift _ _ _ ⟨fun b => b = !seeB toks t c, cond_intro (fun he => ?_) (fun he => ?_), ?_⟩
  · show true = _
    have he : r.e_ ≠ 0 := by simpa using he
    rw [seeE (by rw [← h.e_]; exact he)]; rfl
  · have he : r.e_ = 0 := by simpa using he
    refine pis_v hN h.t (by rw [h.at_]; exact z0) (by rw [h.at_]; exact z1) 0 (by decide) (by decide) t _ ?_
    show _ = _
    unfold seeB
    rw [Int.add_zero, h.at_, decide_eq_true (by rw [← h.e_]; exact he)]; rfl
  · rintro _ rfl
    cases hb : seeB toks t c with
    | false => exact hF hb r rfl h
    | true =>
      obtain ⟨he, hi⟩ := see_lt hb
      have hlt := isF_lt hi
      refine hT hb _ rfl (h.stepE (cw_eat t h.cw) h.t ?_ ?_ rfl rfl ?_ ?_)
      · rw [eat0 t hb]
        dsimp only
        rw [wrap_in (by rw [h.at_]; omega) (by rw [h.at_]; omega), h.at_]
      · rw [eat0 t hb, h.e_, he]
      · rw [eat0 t hb]; dsimp only; omega
      · rw [eat0 t hb]
        exact fun _ => h.ok he
theorem must_s (hN : toks.length < 1000000) (h : Re toks A x at0 dp s q p c r) (t : Str) (K : Gparse_reader → Prop)
    (hK : ∀ r', r'.l = r.l → Re toks A x at0 dp (s + 1) q p (eatC toks t c) r' → K r') : V_parse_reader_must r [t] K := by
  obtain ⟨tk, a, dd, l, e⟩ := r
  obtain rfl : tk = toks := h.t
  refine parse_reader_must_lift _ _ _ ⟨fun i at_ deep ex n => (i = 0 ∧ at_ = a ∧ deep = dd ∧ ex = e ∧ n = 1) ∨ (i = 1 ∧ n = 0 ∧ Re tk A x at0 dp (s + 1) q p (eatC tk t c) ⟨tk, at_, deep, l, ex⟩), ⟨1, .inl ⟨rfl, rfl, rfl, rfl, rfl⟩⟩, ?_⟩
  rintro i at_ deep ex n (⟨rfl, rfl, rfl, rfl, rfl⟩ | ⟨rfl, rfl, hr⟩)
  · refine cond_t (by simp) ⟨⟨by decide, by simp⟩, fun x1 hx1 => ?_⟩
    obtain rfl : x1 = t := by simpa using hx1.symm
    refine eat_s hN h x1 _ (fun hb r' hl hr => cond_f rfl ⟨0, by decide, .inr ⟨by decide, rfl, hr.re hl⟩⟩) fun hb r' hl hr => cond_t rfl (pfail_v _ _ ?_)
    have hr := hr.re hl
    refine hK _ rfl (hr.stepE (cw_eat x1 h.cw) rfl ?_ ?_ rfl rfl ?_ ?_)
    · by_cases he : c.e_ = 0
      · rw [eat1 he hb]; exact hr.at_
      · rw [eatE he]; exact hr.at_
    · dsimp only
      have h2 := hr.e_
      dsimp only at h2
      rw [h2]
      by_cases he : c.e_ = 0
      · rw [eat1 he hb, if_pos he]
      · rw [eatE he, if_neg he]
    · by_cases he : c.e_ = 0
      · rw [eat1 he hb]; exact Int.le_refl _
      · rw [eatE he]; exact Int.le_refl _
    · intro h0
      exfalso
      by_cases he : c.e_ = 0
      · rw [eat1 he hb] at h0; cases h0
      · rw [eatE he] at h0; exact he h0
  · exact cond_f (by simp) (hK _ rfl hr)
theorem name_s (hN : toks.length < 1000000) (h : Re toks A x at0 dp s q p c r) (K : Str → Gparse_reader → Prop)
    (hK : ∀ r', r'.l = r.l → Re toks A x at0 dp (s + 1) q p (nameC toks c) r' → K (nameS toks c) r') : V_parse_reader_name r K := by
  have z0 := h.cw.z1
  have z1 := h.cw.hi
  have hcw := cw_name h.cw
  obtain ⟨tk, a, dd, l, e⟩ := r
  obtain rfl : tk = toks := h.t
  have hat : a = c.at_ := h.at_
  have hee : e = c.e_ := h.e_
  refine parse_reader_name_lift _ _ (psee_v hN rfl (by dsimp only; omega) (by dsimp only; omega) 0 (by decide) (by decide) _ ?_)
  dsimp only
  rw [Int.add_zero, hat]
  refine ⟨fun b => b = !decide (c.e_ = 0 ∧ (tokF tk c.at_).kind = 1), cond_intro (fun he => ?_) (fun he => ?_), ?_⟩
  · show true = _
    have he : e ≠ 0 := by simpa using he
    rw [decide_eq_false (fun hh => he (hee.trans hh.1))]; rfl
  · have he : e = 0 := by simpa using he
    show _ = _
    rw [Bool.eq_iff_iff]; simp [← hee, he]
  · rintro _ rfl
    by_cases hh : c.e_ = 0 ∧ (tokF tk c.at_).kind = 1
    · rw [decide_eq_true hh]
      have hc' : nameC tk c = ⟨c.l, c.n, c.at_ + 1, 0⟩ := by unfold nameC; rw [if_pos hh.1, if_pos hh.2]
      have hs : nameS tk c = (tokF tk c.at_).text := by unfold nameS; rw [if_pos hh.1, if_pos hh.2]
      have hlt := kind_lt (toks := tk) (at_ := c.at_) (by omega)
      show K _ _
      rw [← hs]
      refine hK _ rfl (h.stepE hcw rfl ?_ ?_ rfl rfl ?_ ?_)
      · rw [hc']; dsimp only; rw [wrap_in (by omega) (by omega)]
      · rw [hc']; exact hee.trans hh.1
      · rw [hc']; dsimp only; omega
      · rw [hc']; exact fun _ => h.ok hh.1
    · rw [decide_eq_false hh]
      show V_parse_reader_fail _ _ _
      refine pfail_v _ _ ?_
      have hs : nameS tk c = [] := by
        unfold nameS
        by_cases he : c.e_ = 0
        · rw [if_pos he, if_neg (fun hk => hh ⟨he, hk⟩)]
        · rw [if_neg he]
      have hc' : (nameC tk c).at_ = c.at_ ∧ (nameC tk c).e_ = if c.e_ = 0 then 11 else c.e_ := by
        unfold nameC
        by_cases he : c.e_ = 0
        · rw [if_pos he, if_neg (fun hk => hh ⟨he, hk⟩), if_pos he]; exact ⟨rfl, rfl⟩
        · rw [if_neg he, if_neg he]; exact ⟨rfl, rfl⟩
      rw [← hs]
      refine hK _ rfl (h.stepE hcw rfl ?_ ?_ rfl rfl ?_ ?_)
      · rw [hc'.1]
      · rw [hc'.2, ← hee]
      · rw [hc'.1]; exact Int.le_refl _
      · rw [hc'.2]
        intro h0
        exfalso
        split at h0
        · cases h0
        · rename_i he; exact he h0
theorem open_s (hN : toks.length < 1000000) (ht : r.toks = toks) (h0 : 0 ≤ r.at_) (h1 : r.at_ ≤ (toks.length : Int)) (hl : r.l.length < 3000000) (op : Int) (K : Int → Gparse_reader → Prop)
    (hK : ((r.l.length : Int) ≤ r.at_ + 2000 → ∀ r', Re toks r.l (nd toks op [] 0 r.at_) r.at_ r.deep 0 0 0 (fromE r.at_ r.e_) r' → r'.l = r.l ++ [nd toks op [] 0 r.at_] → K (r.l.length : Int) r')) (ha : (r.l.length : Int) ≤ r.at_ + 2000) : V_parse_reader_open r op K := by
  obtain ⟨tk, a, dd, l, e⟩ := r
  obtain rfl : tk = toks := ht
  dsimp only at h0 h1 hl ha hK
  refine parse_reader_open_lift _ _ _ ⟨fun a' d' l' e' => a' = a ∧ d' = dd ∧ l' = l ++ [nd tk op [] 0 a] ∧ e' = e, psee_v hN rfl h0 h1 0 (by decide) (by decide) _ ⟨by simp only [List.length_cons, List.length_nil]; omega, rfl, rfl, ?_, rfl⟩, ?_⟩
  · dsimp only; rw [Int.add_zero]; rfl
  · rintro a' d' l' e' ⟨h1', h2', h3', h4'⟩
    subst h1' h2' h3' h4'
    have hw : IntKind.i64.wrap (((l ++ [nd tk op [] 0 a']).length : Int) - 1) = (l.length : Int) := by
      rw [wrap_in (by simp only [List.length_append, List.length_cons, List.length_nil]; omega) (by simp only [List.length_append, List.length_cons, List.length_nil]; omega)]; simp
    rw [hw]
    refine hK ha _ ⟨⟨h0, Int.le_refl _, h1, fun _ => by simp [fromE], by simp [fromE]⟩, rfl, rfl, rfl, rfl, fun _ => rfl, by simp, fun _ => ?_, ha⟩ rfl
    simp only [fromE, List.length_append, List.length_cons, List.length_nil]; omega
theorem dbl {l : List GNode} {i : Int} {Q : GNode → GNode → Prop} (h0 : 0 ≤ i) (h1 : i < (l.length : Int)) (h : ∀ y, l[i.toNat]? = some y → Q y y) :
    ((0 : Int) ≤ i ∧ i < (l.length : Int)) ∧ ∀ y, l[i.toNat]? = some y → ((0 : Int) ≤ i ∧ i < (l.length : Int)) ∧ ∀ z, l[i.toNat]? = some z → Q y z :=
  ⟨⟨h0, h1⟩, fun y hy => ⟨⟨h0, h1⟩, fun z hz => by rw [hy] at hz; cases hz; exact h y hy⟩⟩
theorem term_s (M : TermC) (hN : toks.length < 1000000) (h : Re toks A x at0 dp s q p c r) (hp : p ≤ 1000) (K : Gparse_reader → Prop)
    (hK : ∀ r', Re toks A x at0 dp s q p (termC M toks c) r' → K r') : V_parse_reader_term r (A.length : Int) K := by
  have z0 := h.cw.z1
  have z1 := h.cw.hi
  have hcw := cw_term M h.cw
  have hsm := h.small hN hp
  have hln := h.len
  have hlo := h.lo
  obtain ⟨tk, a, dd, l, e⟩ := r
  obtain rfl : tk = toks := h.t
  have hat : a = c.at_ := h.at_
  have hee : e = c.e_ := h.e_
  dsimp only at hsm hln hlo
  refine parse_reader_term_lift _ _ _ (cond_intro (fun he => ?_) fun he => ?_)
  · have he : c.e_ ≠ 0 := by rw [← hee]; simpa using he
    refine hK _ ?_
    have : termC M tk c = c := by unfold termC addC; rw [if_neg he]
    rw [this]; exact h
  · have he0 : c.e_ = 0 := by rw [← hee]; simpa using he
    have hok := h.ok he0
    have htc : termC M tk c = ⟨c.l ++ (M.T tk c.at_).1, IntKind.i64.wrap (c.n + 1), (M.T tk c.at_).2.1, (M.T tk c.at_).2.2⟩ := by unfold termC addC; rw [if_pos he0]
    have hlo' := M.lo tk c.at_ z0 z1
    have hhi' := M.hi tk c.at_ z0 z1
    have hlen' := M.len tk c.at_ z0 z1
    dsimp only
    rw [hat]
    refine ⟨fun l1 a1 e1 => l1 = (M.T tk c.at_).1 ∧ a1 = (M.T tk c.at_).2.1 ∧ e1 = (M.T tk c.at_).2.2, M.pv tk (by omega) _ z0 z1 _ ⟨rfl, rfl, rfl⟩, ?_⟩
    rintro _ _ _ ⟨rfl, rfl, rfl⟩
    rw [htc] at hK hcw
    generalize M.T tk c.at_ = R at hK hcw hlo' hhi' hlen'
    obtain ⟨l1, a1, e1⟩ := R
    dsimp only at hK hcw hlo' hhi' hlen' hok ⊢
    refine cond_intro (fun h1 => ?_) fun h1 => ?_
    · have h1 : e1 ≠ 0 := by simpa using h1
      refine pfail_v _ _ (hK _ ⟨hcw, rfl, rfl, ?_, h.dp, fun e => absurd e h1, hlo, fun _ => ?_, h.ha⟩)
      · dsimp only; rw [if_pos (hee.trans he0)]
      · dsimp only; omega
    · have h1 : e1 = 0 := by simpa using h1
      subst h1
      refine ⟨by omega, dbl (by omega) (by simp only [List.length_append]; omega) fun y hy => hK _ ⟨hcw, rfl, rfl, hee.trans he0, h.dp, fun _ => ?_, by rw [List.length_set, List.length_append]; omega, fun e => absurd rfl e, h.ha⟩⟩
      rw [Int.toNat_natCast] at hy ⊢
      rw [hok] at hy ⊢
      have hy : y = wk x c.n := by simpa using hy.symm
      subst hy
      simp [wk]
theorem fin_add {x2 : GNode} {dp2 : Int} {s2 q2 p2 s' q' p' : Nat} {c2 dd : Cur} {r2 : Gparse_reader} {L : List GNode} (h : Re toks A x at0 dp s q p c r) (hL : r.l = L)
    (h2 : Re toks L x2 c.at_ dp2 s2 q2 p2 c2 r2) (hE : c.e_ ≠ 0 → c2.at_ = c.at_ ∧ c2.e_ = c.e_) (hd : c.e_ = 0 → dd.at_ = c2.at_ ∧ dd.e_ = c2.e_ ∧ (c2.e_ = 0 → dd.l = (underC c2 x2).l))
    (hcw : Cw toks at0 s' q' (addC c dd)) (hp : p + p2 + 1 ≤ p') {K : Gparse_reader → Prop} {dp3 : Int} (hdp : dp3 = dp)
    (hK : ∀ r', Re toks A x at0 dp s' q' p' (addC c dd) r' → K r') :
    ((0 : Int) ≤ (A.length : Int) ∧ (A.length : Int) < (r2.l.length : Int)) ∧ ∀ y, r2.l[(A.length : Int).toNat]? = some y → ((0 : Int) ≤ (A.length : Int) ∧ (A.length : Int) < (r2.l.length : Int)) ∧ ∀ z, r2.l[(A.length : Int).toNat]? = some z →
      K ⟨toks, r2.at_, dp3, r2.l.set (A.length : Int).toNat ⟨z.op, z.name, z.n, IntKind.i64.wrap (y.kids + 1), z.at_⟩, r2.e_⟩ := by
  subst hL
  have hlo := h.lo
  have hlo2 := h2.lo
  have hln := h.len
  have hln2 := h2.len
  refine dbl (by omega) (by omega) fun y hy => hK _ ?_
  rw [Int.toNat_natCast] at hy ⊢
  by_cases he : c.e_ = 0
  · have hd := hd he
    have ha : addC c dd = ⟨c.l ++ dd.l, IntKind.i64.wrap (c.n + 1), dd.at_, dd.e_⟩ := by unfold addC; rw [if_pos he]
    rw [ha] at hcw ⊢
    refine ⟨hcw, rfl, h2.at_.trans hd.1.symm, h2.e_.trans hd.2.1.symm, hdp, fun e => ?_, by rw [List.length_set]; omega, fun _ => ?_, h.ha⟩
    · have e2 : c2.e_ = 0 := hd.2.1.symm.trans e
      show r2.l.set _ _ = _
      have hl2 := h2.ok e2
      rw [h.ok he] at hl2
      rw [hl2] at hy ⊢
      have hy : y = wk x c.n := by simpa using hy.symm
      subst hy
      rw [hd.2.2 e2]
      simp [wk, underC]
    · rw [List.length_set]
      dsimp only
      rw [hd.1]
      have := h.cw.w he
      rw [h.ok he] at hln2
      simp only [List.length_append, List.length_cons] at hln2
      omega
  · obtain ⟨e1, e2⟩ := hE he
    have ha : addC c dd = c := by unfold addC; rw [if_neg he]
    rw [ha] at hcw ⊢
    refine ⟨hcw, rfl, h2.at_.trans e1, h2.e_.trans e2, hdp, fun e => absurd e he, by rw [List.length_set]; omega, fun _ => ?_, h.ha⟩
    rw [List.length_set]
    omega
end
end Go.Proofs.Ytdbdkdmgfiiljaa
namespace Go.Proofs.Ytdbdkdmgfiiljaa
open Go.Vc Go.Lv Go.Ty
section
variable {toks : List GToken} {A : List GNode} {x : GNode} {at0 dp : Int} {s q p : Nat} {c d : Cur} {r : Gparse_reader}
theorem nameE (he : c.e_ ≠ 0) : nameC toks c = c := by unfold nameC; rw [if_neg he]
theorem addE (he : c.e_ ≠ 0) (d : Cur) : addC c d = c := by unfold addC; rw [if_neg he]
theorem termE (M : TermC) (he : c.e_ ≠ 0) : termC M toks c = c := addE he _
theorem refC1E (M : TermC) (he : c.e_ ≠ 0) : refC1 M toks c = c := by unfold refC1; rw [if_neg (by rw [seeE he]; simp)]
theorem loopE {g : Cur → Bool} {b : Cur → Cur} (hg : g c = false) : ∀ f, loopC g b f c = c
  | 0 => rfl
  | f + 1 => by unfold loopC; rw [if_neg (by rw [hg]; simp)]
theorem Re.len' (h : Re toks A x at0 dp s q p c r) (hA : (A.length : Int) ≤ at0 + 1000) (hp : p ≤ 900) : (r.l.length : Int) ≤ r.at_ + 2000 := by
  have := h.len
  rw [h.at_]
  omega
theorem ref_s (M : TermC) (hN : toks.length < 1000000) (h : Re toks A x at0 dp s q p c r) (hA : (A.length : Int) ≤ at0 + 1000) (hp : p ≤ 900) (hq : 1 ≤ q) (K : Gparse_reader → Prop)
    (hK : ∀ r', Re toks A x at0 dp s q (p + 1) (addC c (refC M toks c.at_)) r' → K r') : V_parse_reader_ref r (A.length : Int) K := by
  have hsm := h.small hN (by omega)
  have hl' := h.len' hA hp
  have z0 := h.cw.z1
  have z1 := h.cw.hi
  obtain ⟨tk, a, dd, l, e⟩ := r
  obtain rfl : tk = toks := h.t
  obtain rfl : a = c.at_ := h.at_
  obtain rfl : e = c.e_ := h.e_
  have hdp : dd = dp := h.dp
  dsimp only at hsm hl'
  refine parse_reader_ref_lift _ _ _ (open_s hN rfl z0 z1 (by dsimp only; omega) 33 _ (fun _ r1 h1 hl1 => ?_) hl')
  refine ⟨fun at_ deep l' ex => Re tk l (nd tk 33 (nameS tk (fromE c.at_ c.e_)) 0 c.at_) c.at_ dd 1 0 0 (nameC tk (fromE c.at_ c.e_)) ⟨tk, at_, deep, l', ex⟩, name_s hN (h1.re rfl) _ (fun r2 hl2 h2 => ?_), ?_⟩
  · have h2 := h2.re hl2
    exact h2.elem fun y _ hy => h2.upd _ hy fun e => by rw [e]; rfl
  · intro at1 deep1 l1 ex1 h2
    refine ⟨fun at_ deep l' ex => Re tk l (nd tk 33 (nameS tk (fromE c.at_ c.e_)) 0 c.at_) c.at_ dd 1 0 0 (refC1 M tk (nameC tk (fromE c.at_ c.e_))) ⟨tk, at_, deep, l', ex⟩, eat_s hN h2 sLS _ (fun hb r3 hl3 h3 => ?_) (fun hb r3 hl3 h3 => ?_), ?_⟩
    · refine term_s M hN (h3.re hl3) (by omega) _ fun r4 h4 => must_s hN (h4.re rfl) sRS _ fun r5 hl5 h5 => ?_
      have h5 := h5.re hl5
      unfold refC1; rw [if_pos hb]
      exact h5.mono (by omega) (by omega) (by omega)
    · have h3 := h3.re hl3
      unfold refC1; rw [if_neg (by rw [hb]; simp)]
      exact h3
    · intro at2 deep2 l2 ex2 h3
      have hcw := cw_add h.cw (fun _ => cw_ref M z0 z1) hq
      refine fin_add (dd := refC M tk c.at_) h rfl h3 (fun he => ?_) (fun he => ?_) hcw (Nat.le_refl _) (h3.dp.trans hdp) hK
      · have h0 : (fromE c.at_ c.e_).e_ ≠ 0 := he
        rw [nameE h0, refC1E M h0]; exact ⟨rfl, rfl⟩
      · rw [he]; exact ⟨rfl, rfl, fun _ => rfl⟩
theorem param_s (hN : toks.length < 1000000) (h : Re toks A x at0 dp s q p c r) (hA : (A.length : Int) ≤ at0 + 1000) (hp : p ≤ 900) (hq : 1 ≤ q) (K : Gparse_reader → Prop)
    (hK : ∀ r', Re toks A x at0 dp s q (p + 1) (paramC toks c) r' → K r') : V_parse_reader_param r (A.length : Int) K := by
  have hsm := h.small hN (by omega)
  have hl' := h.len' hA hp
  have z0 := h.cw.z1
  have z1 := h.cw.hi
  obtain ⟨tk, a, dd, l, e⟩ := r
  obtain rfl : tk = toks := h.t
  obtain rfl : a = c.at_ := h.at_
  obtain rfl : e = c.e_ := h.e_
  have hdp : dd = dp := h.dp
  dsimp only at hsm hl'
  refine parse_reader_param_lift _ _ _ (open_s hN rfl z0 z1 (by dsimp only; omega) 39 _ (fun _ r1 h1 hl1 => ?_) hl')
  refine ⟨fun at_ deep l' ex => Re tk l (nd tk 39 (nameS tk (fromE c.at_ c.e_)) 0 c.at_) c.at_ dd 1 0 0 (nameC tk (fromE c.at_ c.e_)) ⟨tk, at_, deep, l', ex⟩, name_s hN (h1.re rfl) _ (fun r2 hl2 h2 => ?_), ?_⟩
  · have h2 := h2.re hl2
    exact h2.elem fun y _ hy => h2.upd _ hy fun e => by rw [e]; rfl
  · intro at1 deep1 l1 ex1 h3
    refine fin_add (dd := underC (nameC tk (fromC c.at_)) (nd tk 39 (nameS tk (fromC c.at_)) 0 c.at_)) h rfl h3 (fun he => ?_) (fun he => ?_) (cw_param h.cw hq) (Nat.le_refl _) (h3.dp.trans hdp) hK
    · have h0 : (fromE c.at_ c.e_).e_ ≠ 0 := he
      rw [nameE h0]; exact ⟨rfl, rfl⟩
    · rw [he]; exact ⟨rfl, rfl, fun _ => rfl⟩
theorem comm_s (M : TermC) (hN : toks.length < 1000000) (a b : Int) (h : Re toks A x at0 dp s q p c r) (hx : x.name = []) (hA : (A.length : Int) ≤ at0 + 1000) (hp : p ≤ 900) (hq : 1 ≤ q) (K : Gparse_reader → Prop)
    (hK : ∀ r', Re toks A ⟨(commC M toks a b c).op, (commC M toks a b c).name, x.n, x.kids, x.at_⟩ at0 dp (s + 1) q (p + 1) (commC M toks a b c).c r' → K r') : V_parse_reader_comm r (A.length : Int) a b K := by
  have hcm := cw_comm M a b h.cw hq
  obtain ⟨tk, a', dd, l, e⟩ := r
  obtain rfl : tk = toks := h.t
  refine parse_reader_comm_lift _ _ _ _ _ (ref_s M hN h hA hp hq _ fun r1 h1 => ?_)
  have hc1 : c.e_ ≠ 0 → addC c (refC M tk c.at_) = c := fun he => addE he _
  have hcm1 : c.e_ = 0 → commC M tk a b c = commC2 M tk a b (addC c (refC M tk c.at_)) := fun he => by unfold commC; rw [if_pos he]
  have hcm0 : c.e_ ≠ 0 → commC M tk a b c = ⟨c, 0, []⟩ := fun he => by unfold commC; rw [if_neg he]
  generalize addC c (refC M tk c.at_) = c1 at h1 hc1 hcm1
  have hsee : ∀ {t : Str}, seeB tk t c1 = true → c.e_ = 0 := fun {t} hb => by
    apply Classical.byContradiction
    intro he
    rw [hc1 he, seeE he] at hb; cases hb
  have h1 := h1.re rfl
  refine eat_s hN h1 sBang _ (fun hb r2 hl2 h2 => ?_) (fun hb r2 hl2 h2 => ?_)
  · have h2 := h2.re hl2
    have hcc : commC M tk a b c = ⟨termC M tk (eatC tk sBang c1), a, []⟩ := by rw [hcm1 (hsee hb)]; unfold commC2; rw [if_pos hb]
    rw [hcc] at hK hcm
    refine h2.elem fun y _ hy => term_s M hN (h2.upd (⟨a, [], x.n, x.kids, x.at_⟩ : GNode) hy fun e => by rw [e]; simp [wk, hx]) (by omega) _ fun r3 h3 => hK _ (h3.re rfl)
  · have h2 := h2.re hl2
    refine eat_s hN h2 sAsk _ (fun hb2 r4 hl4 h4 => ?_) (fun hb2 r4 hl4 h4 => ?_)
    · have h4 := h4.re hl4
      have hcc : commC M tk a b c = ⟨nameC tk (eatC tk sAsk c1), b, nameS tk (eatC tk sAsk c1)⟩ := by rw [hcm1 (hsee hb2)]; unfold commC2; rw [if_neg (by rw [hb]; simp)]
      rw [hcc] at hK hcm
      refine h4.elem fun y _ hy => name_s hN (h4.upd (⟨b, x.name, x.n, x.kids, x.at_⟩ : GNode) hy fun e => by rw [e]; rfl) _ fun r5 hl5 h5 => ?_
      have h5 := h5.re hl5
      exact h5.elem fun y _ hy => hK _ ((h5.upd _ hy fun e => by rw [e]; rfl).mono (by omega) (Nat.le_refl _) (Nat.le_refl _))
    · have h4 := h4.re hl4
      refine pfail_v _ _ ?_
      have hce : (commC M tk a b c).c.at_ = c1.at_ ∧ (commC M tk a b c).c.e_ = (if c1.e_ = 0 then 11 else c1.e_) := by
        by_cases he : c.e_ = 0
        · rw [hcm1 he]
          unfold commC2; rw [if_neg (by rw [hb]; simp)]
          dsimp only
          by_cases he1 : c1.e_ = 0
          · rw [eat1 he1 hb2, if_pos he1, nameE (by simp)]; exact ⟨rfl, rfl⟩
          · rw [eatE he1, nameE he1, if_neg he1]; exact ⟨rfl, rfl⟩
        · rw [hcm0 he, hc1 he, if_neg he]; exact ⟨rfl, rfl⟩
      have hne : (commC M tk a b c).c.e_ ≠ 0 := by
        rw [hce.2]
        split
        · decide
        · assumption
      have h4e := h4.e_
      dsimp only at h4e
      have hfin : Re tk A x at0 dp (s + 1) q (p + 1) (commC M tk a b c).c ⟨tk, r4.at_, r4.deep, r1.l, if r4.e_ = 0 then 11 else r4.e_⟩ := h4.stepE hcm rfl (by rw [hce.1]; exact h4.at_) (by rw [hce.2]; dsimp only; rw [h4e]) rfl rfl (by rw [hce.1]; exact Int.le_refl _) (fun e => absurd e hne)
      exact hK _ (hfin.anyx hne _)
theorem size_s (hN : toks.length < 1000000) (h : Re toks A x at0 dp s q p c r) (K : Gparse_reader → Prop)
    (hK : ∀ r', Re toks A ⟨x.op, x.name, sizeN toks c, x.kids, x.at_⟩ at0 dp (s + 1) q p (sizeC toks c) r' → K r') : V_parse_reader_size r (A.length : Int) K := by
  have z0 := h.cw.z1
  have z1 := h.cw.hi
  have hcw := cw_size h.cw
  obtain ⟨tk, a, dd, l, e⟩ := r
  obtain rfl : tk = toks := h.t
  obtain rfl : a = c.at_ := h.at_
  obtain rfl : e = c.e_ := h.e_
  refine parse_reader_size_lift _ _ _ (psee_v hN rfl z0 z1 0 (by decide) (by decide) _ ?_)
  dsimp only
  rw [Int.add_zero]
  refine cond_intro (fun he => ?_) fun he => ?_
  · have he : c.e_ ≠ 0 := by simpa using he
    have hs : sizeC tk c = c := by unfold sizeC; rw [if_neg he]
    rw [hs] at hK hcw
    have hfin : Re tk A x at0 dp (s + 1) q p c ⟨tk, c.at_, dd, l, c.e_⟩ := h.stepE hcw rfl rfl rfl rfl rfl (Int.le_refl _) (fun e => absurd e he)
    exact hK _ (hfin.anyx he _)
  · have he : c.e_ = 0 := by simpa using he
    refine cond_intro (fun hk => ?_) fun hk => ?_
    · have hk : (tokF tk c.at_).kind ≠ 2 := by simpa using hk
      have hs : sizeC tk c = ⟨c.l, c.n, c.at_, 11⟩ := by unfold sizeC; rw [if_pos he, if_neg hk]
      rw [hs] at hK hcw
      have hfin : Re tk A x at0 dp (s + 1) q p ⟨c.l, c.n, c.at_, 11⟩ ⟨tk, c.at_, dd, l, if c.e_ = 0 then 11 else c.e_⟩ := h.stepE hcw rfl rfl (by dsimp only; rw [if_pos he]) rfl rfl (Int.le_refl _) (fun e => by cases e)
      exact pfail_v _ _ (hK _ (hfin.anyx (by simp) _))
    · have hk : (tokF tk c.at_).kind = 2 := by simpa using hk
      refine ⟨fun b => b = decide ((tokF tk c.at_).n < 1 ∨ (tokF tk c.at_).n > 16), cond_intro (fun h1 => ?_) (fun h1 => ?_), ?_⟩
      · show true = _
        have h1 : (tokF tk c.at_).n < 1 := by simpa using h1
        rw [decide_eq_true (.inl h1)]
      · show _ = _
        have h1 : ¬ (tokF tk c.at_).n < 1 := by simpa using h1
        rw [Bool.eq_iff_iff]; simp; omega
      · rintro _ rfl
        refine cond_intro (fun hr => ?_) fun hr => ?_
        · have hr := of_decide_eq_true hr
          have hs : sizeC tk c = ⟨c.l, c.n, c.at_, 6⟩ := by unfold sizeC; rw [if_pos he, if_pos hk, if_pos hr]
          rw [hs] at hK hcw
          have hfin : Re tk A x at0 dp (s + 1) q p ⟨c.l, c.n, c.at_, 6⟩ ⟨tk, c.at_, dd, l, if c.e_ = 0 then 6 else c.e_⟩ := h.stepE hcw rfl rfl (by dsimp only; rw [if_pos he]) rfl rfl (Int.le_refl _) (fun e => by cases e)
          exact pfail_v _ _ (hK _ (hfin.anyx (by simp) _))
        · have hr := of_decide_eq_false hr
          have hs : sizeC tk c = ⟨c.l, c.n, c.at_ + 1, 0⟩ := by unfold sizeC; rw [if_pos he, if_pos hk, if_neg hr]
          have hn : sizeN tk c = (tokF tk c.at_).n := by unfold sizeN; rw [hs, if_pos rfl]
          rw [hs] at hK hcw
          rw [hn] at hK
          have hlt := kind_lt (toks := tk) (at_ := c.at_) (by rw [hk]; decide)
          rw [wrap_in (by omega) (by omega)]
          have h' : Re tk A x at0 dp (s + 1) q p ⟨c.l, c.n, c.at_ + 1, 0⟩ ⟨tk, c.at_ + 1, dd, l, c.e_⟩ := h.stepE hcw rfl rfl he rfl rfl (by dsimp only; omega) (fun _ => h.ok he)
          exact h'.elem fun y _ hy => hK _ (h'.upd _ hy fun e => by rw [e]; rfl)
theorem args_s (M : TermC) (hN : toks.length < 1000000) (h : Re toks A x at0 dp s q p c r) (hp : p ≤ 900) (K : Gparse_reader → Prop)
    (hK : ∀ r', Re toks A x at0 dp s q p (argsC M toks c) r' → K r') : V_parse_reader_args r (A.length : Int) K := by
  obtain ⟨tk, a, dd, l, e⟩ := r
  obtain rfl : tk = toks := h.t
  refine parse_reader_args_lift _ _ _ (must_s hN h sLP _ fun r1 hl1 h1 => ?_)
  have h1 := h1.re hl1
  have hcw := cw_args M h.cw
  unfold argsC at hK hcw
  generalize eatC tk sLP c = c1 at h1 hK hcw
  refine eat_s hN h1 sRP _ (fun hb r2 hl2 h2 => ?_) (fun hb r2 hl2 h2 => ?_)
  · have h2 := h2.re hl2
    obtain ⟨he, hi⟩ := see_lt hb
    rw [if_neg (by rw [hi]; simp)] at hK
    exact cond_f rfl (hK _ (h2.mono (by omega) (Nat.le_refl _) (Nat.le_refl _)))
  · have h2 := h2.re hl2
    refine cond_t rfl (term_s M hN h2 (by omega) _ fun r3 h3 => ?_)
    have h3 := (h3.re rfl).mono (s' := s) (by omega) (Nat.le_refl _) (Nat.le_refl _)
    have hF : (if (decide (c1.e_ = 0) && !isF tk c1.at_ sRP) then loopC (seeB tk sComma) (fun c => termC M tk (eatC tk sComma c)) (fuel tk) (termC M tk c1) else c1) = loopC (seeB tk sComma) (fun c => termC M tk (eatC tk sComma c)) (fuel tk) (termC M tk c1) := by
      by_cases he : c1.e_ = 0
      · have hi : isF tk c1.at_ sRP = false := by
          have := hb
          unfold seeB at this
          rw [decide_eq_true he] at this
          simpa using this
        rw [if_pos (by rw [decide_eq_true he, hi]; rfl)]
      · rw [if_neg (by rw [decide_eq_false he]; simp), termE M he, loopE (seeE he)]
    rw [hF] at hK
    refine ⟨fun at_ deep l' ex f => ∃ c', Re tk A x at0 dp s q p c' ⟨tk, at_, deep, l', ex⟩ ∧ LI tk (seeB tk sComma) (fun c => termC M tk (eatC tk sComma c)) (loopC (seeB tk sComma) (fun c => termC M tk (eatC tk sComma c)) (fuel tk) (termC M tk c1)) f c', ⟨_, _, h3, LI.start h3.cw⟩, ?_⟩
    rintro at1 deep1 l1 ex1 f ⟨c', h4, hl⟩
    refine eat_s hN h4 sComma _ (fun hb r5 hl5 h5 => cond_t rfl ?_) (fun hb r5 hl5 h5 => cond_f rfl ?_)
    · refine term_s M hN (h5.re hl5) (by omega) _ fun r6 h6 => ?_
      have h6 := h6.re rfl
      obtain ⟨f', hf', hl'⟩ := hl.step hb (see_lt hb).1 h4.cw.hi (fun hd => by
        have := term_at M (cw_eat sComma h4.cw) (by rw [eat0 sComma hb])
        rw [eat0 sComma hb] at this ⊢
        exact this)
      exact ⟨f', hf', _, h6.mono (by omega) (Nat.le_refl _) (Nat.le_refl _), hl'⟩
    · have h5 := h5.re hl5
      rw [← hl.stop hb] at hK
      exact must_s hN h5 sRP _ fun r6 hl6 h6 => hK _ ((h6.re hl6).mono (by omega) (Nat.le_refl _) (Nat.le_refl _))
def setB (M : TermC) (toks : List GToken) (c : Cur) : Cur :=
  if seeB toks sRandom (eatC toks sEq (nameC toks c)) then eatC toks sRP (termC M toks (eatC toks sLP (eatC toks sRandom (eatC toks sEq (nameC toks c))))) else termC M toks (eatC toks sEq (nameC toks c))
def setOp (toks : List GToken) (c : Cur) (o : Int) : Int := if seeB toks sRandom (eatC toks sEq (nameC toks c)) then 20 else o
theorem set_s (M : TermC) (hN : toks.length < 1000000) (h : Re toks A x at0 dp s q p c r) (hp : p ≤ 900) (K : Gparse_reader → Prop)
    (hK : ∀ r', Re toks A ⟨setOp toks c x.op, nameS toks c, x.n, x.kids, x.at_⟩ at0 dp (s + 2) q p (setB M toks c) r' → K r') : V_parse_reader_set r (A.length : Int) K := by
  obtain ⟨tk, a, dd, l, e⟩ := r
  obtain rfl : tk = toks := h.t
  refine parse_reader_set_lift _ _ _ ⟨fun at_ deep l' ex => Re tk A ⟨x.op, nameS tk c, x.n, x.kids, x.at_⟩ at0 dp (s + 1) q p (nameC tk c) ⟨tk, at_, deep, l', ex⟩, name_s hN h _ (fun r1 hl1 h1 => ?_), ?_⟩
  · have h1 := h1.re hl1
    exact h1.elem fun y _ hy => h1.upd _ hy fun e => by rw [e]; rfl
  · intro at1 deep1 l1 ex1 h1
    refine must_s hN h1 sEq _ fun r2 hl2 h2 => ?_
    have h2 := h2.re hl2
    unfold setB setOp at hK
    generalize eatC tk sEq (nameC tk c) = c2 at h2 hK
    refine eat_s hN h2 sRandom _ (fun hb r3 hl3 h3 => cond_t rfl ?_) (fun hb r3 hl3 h3 => cond_f rfl ?_)
    · rw [if_pos hb, if_pos hb] at hK
      have h3 := h3.re hl3
      refine h3.elem fun y _ hy => must_s hN (h3.upd (⟨20, nameS tk c, x.n, x.kids, x.at_⟩ : GNode) hy fun e => by rw [e]; rfl) sLP _ fun r4 hl4 h4 => term_s M hN (h4.re hl4) (by omega) _ fun r5 h5 => must_s hN (h5.re rfl) sRP _ fun r6 hl6 h6 => hK _ ((h6.re hl6).mono (by omega) (Nat.le_refl _) (Nat.le_refl _))
    · rw [if_neg (by rw [hb]; simp), if_neg (by rw [hb]; simp)] at hK
      exact term_s M hN (h3.re hl3) (by omega) _ fun r4 h4 => hK _ (h4.re rfl)
end
end Go.Proofs.Ytdbdkdmgfiiljaa
namespace Go.Proofs.Ytdbdkdmgfiiljaa
open Go.Vc Go.Lv Go.Ty
section
variable {toks : List GToken} {A : List GNode} {x : GNode} {at0 dp : Int} {s q p : Nat} {c d : Cur} {r : Gparse_reader}
def stK (M : TermC) (toks : List GToken) : Nat → Int → Cur
  | 0 => fromC
  | k + 1 => stmtC M toks (blkF M toks k)
theorem blk_eq (M : TermC) (k : Nat) (at_ : Int) (h : ¬ (k = 0 ∧ isF toks at_ sLB = true)) : blkF M toks k at_ = blockC toks (stK M toks k) at_ := by
  cases k with
  | zero =>
    unfold blkF
    rw [if_neg (fun hx => h ⟨rfl, hx⟩)]; rfl
  | succ k => rfl
theorem Re.dpset {at_ dp2 l e : _} {dp' : Int} (h : Re toks A x at0 dp s q p c ⟨toks, at_, dp2, l, e⟩) {d' : Int} (hd : d' = dp') : Re toks A x at0 dp' s q p c ⟨toks, at_, d', l, e⟩ :=
  ⟨h.cw, rfl, h.at_, h.e_, hd, h.ok, h.lo, h.hi, h.ha⟩
def Got (toks : List GToken) (L : List GNode) (at0 dp : Int) (p : Nat) (e0 : Int) (cc : Cur) (K : Gparse_reader → Prop) : Prop :=
  ∀ (r' : Gparse_reader) (x2 : GNode) (c2 : Cur), Re toks L x2 at0 dp 1 200 p c2 r' → (e0 = 0 → cc.at_ = c2.at_ ∧ cc.e_ = c2.e_ ∧ (c2.e_ = 0 → cc.l = (underC c2 x2).l)) → (e0 ≠ 0 → c2.at_ = at0 ∧ c2.e_ = e0) → K r'
def PB (M : TermC) (toks : List GToken) (k : Nat) : Prop := ∀ (A : List GNode) (x : GNode) (at0 : Int) (s p : Nat) (c : Cur) (r : Gparse_reader) (K : Gparse_reader → Prop),
  Re toks A x at0 (24 - (k : Int)) (s + 1) 200 p c r → (c.e_ = 0 → (A.length : Int) ≤ at0 + 1) → (A.length : Int) ≤ at0 + 1000 → p ≤ 300 →
  (∀ r', Re toks A x at0 (24 - (k : Int)) (s + 2) 200 (p + (10 * k + 20)) (inC (blkF M toks k) c) r' → K r') → V_parse_reader_block r (A.length : Int) K
def PS (M : TermC) (toks : List GToken) (k : Nat) : Prop := ∀ (r : Gparse_reader) (K : Gparse_reader → Prop),
  r.toks = toks → 0 ≤ r.at_ → r.at_ ≤ (toks.length : Int) → r.deep = 24 - (k : Int) → r.e_ = 0 → (r.l.length : Int) ≤ r.at_ + 1 →
  Got toks r.l r.at_ (24 - (k : Int)) (10 * k + 25) 0 (stmtC M toks (blkF M toks k) r.at_) K → V_parse_reader_stmt r K
theorem lenOk (h : Re toks A x at0 dp (s + 1) q p c r) (he : c.e_ = 0) (hA : (A.length : Int) ≤ at0 + 1) : (r.l.length : Int) ≤ c.at_ + 1 := by
  have := h.cw.w he
  rw [h.ok he]
  simp only [List.length_append, List.length_cons]
  omega
theorem block_s (M : TermC) (hN : toks.length < 1000000) (k : Nat) (hk : k ≤ 24) (hS : ∀ k', k = k' + 1 → PS M toks k') : PB M toks k := by
  intro A x at0 s p c r K h hA1 hA hp hK
  have hsm := h.small hN (by omega)
  have hl' := h.len' hA (by omega)
  have z0 := h.cw.z1
  have z1 := h.cw.hi
  have hok1 : c.e_ = 0 → (r.l.length : Int) ≤ c.at_ + 1 := fun he => lenOk h he (hA1 he)
  obtain ⟨tk, a, dd, l, e⟩ := r
  obtain rfl : tk = toks := h.t
  obtain rfl : a = c.at_ := h.at_
  obtain rfl : e = c.e_ := h.e_
  have hdp : dd = 24 - (k : Int) := h.dp
  subst hdp
  dsimp only at hsm hl' hok1
  generalize he0 : (if c.e_ = 0 ∧ isF tk c.at_ sLB = true ∧ k = 0 then (5 : Int) else c.e_) = e0
  refine parse_reader_block_lift _ _ _ ⟨fun at_ deep l' ex => at_ = c.at_ ∧ deep = 24 - (k : Int) ∧ l' = l ∧ ex = e0, ⟨fun b => b = decide (c.e_ = 0 ∧ isF tk c.at_ sLB = true ∧ k = 0), cond_intro (fun he => ?_) (fun he => ?_), ?_⟩, ?_⟩
  · have he : c.e_ = 0 := by simpa using he
    refine pis_v hN rfl z0 z1 0 (by decide) (by decide) sLB _ ?_
    dsimp only
    rw [Int.add_zero]
    refine cond_intro (fun hi => ?_) fun hi => ?_
    · show _ = _
      rw [Bool.eq_iff_iff]; simp [he, hi]; omega
    · show false = _
      rw [hi]; simp
  · have he : ¬ c.e_ = 0 := by simpa using he
    show false = _
    rw [decide_eq_false (fun hh => he hh.1)]
  · rintro _ rfl
    refine cond_intro (fun hb => ?_) fun hb => ?_
    · have hb := of_decide_eq_true hb
      refine pfail_v _ _ ⟨rfl, rfl, rfl, ?_⟩
      dsimp only
      rw [← he0, if_pos hb, if_pos hb.1]
    · have hb := of_decide_eq_false hb
      refine ⟨rfl, rfl, rfl, ?_⟩
      rw [← he0, if_neg hb]
  rintro a' d' l' x' ⟨q1, q2, q3, q4⟩
  have q3 := q3.symm
  have q4 := q4.symm
  subst q1 q2 q3 q4
  refine open_s hN rfl z0 z1 (by dsimp only; omega) 32 _ (fun _ r2 h2 hl2 => ?_) hl'
  dsimp only at h2
  refine must_s hN (h2.re rfl) sLB _ fun r3 hl3 h3 => ?_
  have h3 := h3.re hl3
  have hw : IntKind.i64.wrap (r3.deep + 1) = 25 - (k : Int) := by rw [show r3.deep = 24 - (k : Int) from h3.dp, wrap_in (by omega) (by omega)]; omega
  rw [hw]
  have h3 := (h3.dpset (dp' := 25 - (k : Int)) rfl).mono (s' := 1) (q' := 200) (p' := 10 * k + 16) (Nat.le_refl _) (by omega) (by omega)
  -- where the loop is entered, blocks may be within
  have hk0 : (eatC tk sLB (fromE c.at_ (if c.e_ = 0 ∧ isF tk c.at_ sLB = true ∧ k = 0 then (5 : Int) else c.e_))).e_ = 0 → k ≠ 0 ∧ c.e_ = 0 := by
    intro h0
    split at h0
    · rw [eatE (by simp [fromE])] at h0; simp [fromE] at h0
    · rename_i hb
      by_cases he : c.e_ = 0
      · refine ⟨fun hk0 => ?_, he⟩
        unfold eatC fromE at h0
        dsimp only at h0
        rw [if_pos he] at h0
        split at h0
        · rename_i hi; exact hb ⟨he, hi, hk0⟩
        · cases h0
      · rw [eatE (by exact he)] at h0; exact absurd h0 he
  rw [he0] at hk0
  generalize hc1 : eatC tk sLB (fromE c.at_ e0) = c1 at h3 hk0
  generalize hF : loopC (fun c => decide (c.e_ = 0) && !isF tk c.at_ sRB) (fun c => addC c (stK M tk k c.at_)) (fuel tk) c1 = F
  refine ⟨fun at_ deep l' ex f => ∃ c', Re tk l (nd tk 32 [] 0 c.at_) c.at_ (25 - (k : Int)) 1 200 (10 * k + 16) c' ⟨tk, at_, deep, l', ex⟩ ∧ LI tk (fun c => decide (c.e_ = 0) && !isF tk c.at_ sRB) (fun c => addC c (stK M tk k c.at_)) F f c' ∧ (c'.e_ = 0 → k ≠ 0 ∧ c.e_ = 0), ⟨_, c1, h3, hF ▸ LI.start h3.cw, hk0⟩, ?_⟩
  clear h2 h3 hl2 hl3 hw
  rintro at1 deep1 l1 ex1 f ⟨c', h4, hl, hk'⟩
  have h4e : ex1 = c'.e_ := h4.e_
  have h4a : at1 = c'.at_ := h4.at_
  subst h4e; subst h4a
  refine ⟨fun b => b = (decide (c'.e_ = 0) && !isF tk c'.at_ sRB), cond_intro (fun he => ?_) (fun he => ?_), ?_⟩
  · have he : c'.e_ = 0 := by simpa using he
    refine pis_v hN rfl h4.cw.z1 h4.cw.hi 0 (by decide) (by decide) sRB _ ?_
    dsimp only
    rw [Int.add_zero, decide_eq_true he]; rfl
  · have he : ¬ c'.e_ = 0 := by simpa using he
    show false = _
    rw [decide_eq_false he]; rfl
  rintro _ rfl
  refine cond_intro (fun hA' => ?_) fun hB => ?_
  · have he : c'.e_ = 0 := by simp at hA'; exact hA'.1
    obtain ⟨hkk, hce⟩ := hk' he
    obtain ⟨k', rfl⟩ : ∃ k', k = k' + 1 := ⟨k - 1, by omega⟩
    have hln := lenOk (s := 0) h4 he (by have := hok1 hce; omega)
    have hd : deep1 = 24 - (k' : Int) := by have : deep1 = 25 - ((k' + 1 : Nat) : Int) := h4.dp; omega
    refine hS k' rfl _ _ rfl h4.cw.z1 h4.cw.hi hd he hln fun r4 x2 c2 h5 hcc _ => ?_
    dsimp only at h5 hcc
    have hcw := cw_stmt M (cw_blk (toks := tk) M k') (by omega) h4.cw.z1 h4.cw.hi
    have hadd := (cw_add (q' := 3 * k' + 4) (s' := 1) h4.cw (fun _ => hcw) (by omega)).mono (s' := 1) (q' := 200) (by omega) (Nat.le_refl _)
    have h4r := h4.resetp he 0
    obtain ⟨f', hf', hl'⟩ := hl.step hA' he h4.cw.hi (fun hd => adv_add hcw he hd)
    exact fin_add (dd := stmtC M tk (blkF M tk k') c'.at_) (p' := 10 * (k' + 1) + 16) (dp3 := r4.deep) h4r rfl h5 (fun hne => absurd he hne) (fun _ => hcc rfl) hadd (by omega) (by rw [h5.dp]; omega) (K := fun r5 => ∃ n1, n1 < f ∧ ∃ c', Re tk l (nd tk 32 [] 0 c.at_) c.at_ (25 - ((k' + 1 : Nat) : Int)) 1 200 (10 * (k' + 1) + 16) c' ⟨tk, r5.at_, r5.deep, r5.l, r5.e_⟩ ∧ LI tk (fun c => decide (c.e_ = 0) && !isF tk c.at_ sRB) (fun c => addC c (stK M tk (k' + 1) c.at_)) F n1 c' ∧ (c'.e_ = 0 → k' + 1 ≠ 0 ∧ c.e_ = 0)) fun r5 h6 => ⟨f', hf', _, h6.re rfl, hl', fun _ => ⟨hkk, hce⟩⟩
  · have hst := (hl.stop hB).symm
    subst hst
    refine must_s hN h4 sRB _ fun r5 hl5 h5 => ?_
    have h5 := h5.re hl5
    have hw : IntKind.i64.wrap (r5.deep - 1) = 24 - (k : Int) := by rw [show r5.deep = 25 - (k : Int) from h5.dp, wrap_in (by omega) (by omega)]; omega
    rw [hw]
    have hcw := cw_in (cw_blk (toks := tk) M k) h.cw (by omega)
    refine fin_add (dd := blkF M tk k c.at_) (p' := p + (10 * k + 20)) h rfl h5 (fun hne => ?_) (fun he => ?_) hcw (by omega) rfl hK
    · have e0c : e0 = c.e_ := by rw [← he0, if_neg (fun hh => hne hh.1)]
      have hne0 : (fromE c.at_ e0).e_ ≠ 0 := by show e0 ≠ 0; rw [e0c]; exact hne
      have hc1' : c1 = fromE c.at_ e0 := by rw [← hc1, eatE hne0]
      have hF' : F = fromE c.at_ e0 := by rw [← hF, hc1', loopE (by rw [decide_eq_false hne0]; rfl)]
      rw [hF', eatE hne0]
      exact ⟨rfl, e0c⟩
    · by_cases hb : isF tk c.at_ sLB = true ∧ k = 0
      · have e05 : e0 = 5 := by rw [← he0, if_pos ⟨he, hb⟩]
        have hne0 : (fromE c.at_ e0).e_ ≠ 0 := by show e0 ≠ 0; rw [e05]; decide
        have hc1' : c1 = fromE c.at_ e0 := by rw [← hc1, eatE hne0]
        have hF' : F = fromE c.at_ e0 := by rw [← hF, hc1', loopE (by rw [decide_eq_false hne0]; rfl)]
        rw [hF', eatE hne0, e05]
        obtain ⟨hb1, rfl⟩ := hb
        unfold blkF
        rw [if_pos hb1]
        exact ⟨rfl, rfl, fun h => by cases h⟩
      · have e00 : e0 = 0 := by rw [← he0, if_neg (fun hh => hb hh.2)]; exact he
        rw [blk_eq M k c.at_ (fun hh => hb ⟨hh.2, hh.1⟩)]
        have hc1' : c1 = eatC tk sLB (fromC c.at_) := by rw [← hc1, e00]; rfl
        have : blockC tk (stK M tk k) c.at_ = underC (eatC tk sRB F) (nd tk 32 [] 0 c.at_) := by rw [← hF, hc1']; rfl
        rw [this]
        exact ⟨rfl, rfl, fun _ => rfl⟩
theorem clause_s (M : TermC) (hN : toks.length < 1000000) (k : Nat) (hk : k ≤ 24) (hB : PB M toks k) (r : Gparse_reader) (K : Gparse_reader → Prop) (ht : r.toks = toks) (h0 : 0 ≤ r.at_) (h1 : r.at_ ≤ (toks.length : Int)) (hd : r.deep = 24 - (k : Int))
    (hl1 : r.e_ = 0 → (r.l.length : Int) ≤ r.at_ + 1) (hl2 : (r.l.length : Int) ≤ r.at_ + 900) (hK : Got toks r.l r.at_ (24 - (k : Int)) (10 * k + 24) r.e_ (clauseC M toks (blkF M toks k) r.at_) K) : V_parse_reader_clause r K := by
  obtain ⟨tk, a, dd, l, e⟩ := r
  obtain rfl : tk = toks := ht
  dsimp only at h0 h1 hd hl1 hl2 hK
  subst hd
  have hsm : l.length < 3000000 := by omega
  refine parse_reader_clause_lift _ _ (open_s hN rfl h0 h1 hsm 37 _ (fun _ r1 h2 _ => ?_) (by dsimp only; omega))
  have h2 := (h2.re rfl).mono (s' := 0) (q' := 200) (p' := 0) (Nat.le_refl _) (by omega) (Nat.le_refl _)
  dsimp only at h2
  refine eat_s hN h2 sElse _ (fun hb r2 hl2' h3 => cond_t rfl ?_) (fun hb r2 hl2' h3 => cond_f rfl ?_)
  · obtain ⟨he, hi⟩ := see_lt hb
    have he : e = 0 := he
    subst he
    refine hB _ _ _ 0 _ _ _ _ (h3.re hl2') (fun _ => hl1 rfl) (by dsimp only; omega) (by omega) fun r3 h4 => hK _ _ _ ((h4.re rfl).mono (by omega) (Nat.le_refl _) (by omega)) (fun _ => ?_) (fun hne => absurd rfl hne)
    have hi : isF tk a sElse = true := hi
    unfold clauseC
    rw [if_pos hi]
    exact ⟨rfl, rfl, fun _ => rfl⟩
  · have h3 := h3.re hl2'
    refine must_s hN h3 sCase _ fun r4 hl4 h4 => ?_
    have h4 := h4.re hl4
    have hcE : e ≠ 0 → eatC tk sCase (fromE a e) = fromE a e := fun hne => eatE hne
    have hcO : e = 0 → clauseC M tk (blkF M tk k) a = underC (inC (blkF M tk k) (afterC M tk (whenC M tk (eatC tk sCase (fromE a e)))).c) (nd tk (afterC M tk (whenC M tk (eatC tk sCase (fromE a e)))).op (afterC M tk (whenC M tk (eatC tk sCase (fromE a e)))).name (whenN tk (eatC tk sCase (fromE a e))) a) := by
      intro he
      subst he
      have hi : isF tk a sElse = false := by
        unfold seeB fromE at hb
        simpa using hb
      unfold clauseC
      rw [if_neg (by rw [hi]; simp)]; rfl
    generalize eatC tk sCase (fromE a e) = c1 at h4 hcE hcO
    refine ⟨fun at_ deep l' ex => Re tk l (nd tk 37 [] (whenN tk c1) a) a (24 - (k : Int)) 1 200 0 (whenC M tk c1) ⟨tk, at_, deep, l', ex⟩, eat_s hN h4 sWhen _ (fun hb r5 hl5 h5 => cond_t rfl ?_) (fun hb r5 hl5 h5 => cond_f rfl ?_), ?_⟩
    · have h5 := h5.re hl5
      refine h5.elem fun y _ hy => term_s M hN (h5.upd (nd tk 37 [] 1 a) hy fun e => by rw [e]; rfl) (by omega) _ fun r6 h6 => must_s hN (h6.re rfl) sColon _ fun r7 hl7 h7 => ?_
      have h7 := h7.re hl7
      unfold whenN whenC; rw [if_pos hb, if_pos hb]
      exact h7.mono (by omega) (Nat.le_refl _) (Nat.le_refl _)
    · have h5 := h5.re hl5
      unfold whenN whenC; rw [if_neg (by rw [hb]; simp), if_neg (by rw [hb]; simp)]
      exact h5
    · intro at5 deep5 l5 ex5 h5
      have hwE : e ≠ 0 → whenC M tk c1 = fromE a e := fun hne => by
        rw [hcE hne]
        unfold whenC; rw [if_neg (by rw [seeE (show (fromE a e).e_ ≠ 0 from hne)]; simp)]
      generalize whenN tk c1 = wn at h5 hcO
      generalize whenC M tk c1 = c2 at h5 hwE hcO
      have hnm : (afterC M tk c2).c.e_ = 0 → True := fun _ => trivial
      refine ⟨fun at_ deep l' ex => Re tk l (nd tk (afterC M tk c2).op (afterC M tk c2).name wn a) a (24 - (k : Int)) 1 200 1 (afterC M tk c2).c ⟨tk, at_, deep, l', ex⟩, eat_s hN h5 sAfter _ (fun hb r6 hl6 h6 => cond_t rfl ?_) (fun hb r6 hl6 h6 => cond_f rfl ?_), ?_⟩
      · have h6 := h6.re hl6
        refine h6.elem fun y _ hy => term_s M hN (h6.upd (nd tk 36 [] wn a) hy fun e => by rw [e]; rfl) (by omega) _ fun r7 h7 => ?_
        unfold afterC; rw [if_pos hb]
        exact (h7.re rfl).mono (by omega) (Nat.le_refl _) (by omega)
      · have h6 := h6.re hl6
        refine comm_s M hN 35 34 h6 rfl (by omega) (by omega) (by omega) _ fun r7 h7 => ?_
        unfold afterC; rw [if_neg (by rw [hb]; simp)]
        exact (h7.re rfl).mono (by omega) (Nat.le_refl _) (by omega)
      · intro at7 deep7 l7 ex7 h7
        have haE : e ≠ 0 → (afterC M tk c2).c = fromE a e := fun hne => by
          rw [hwE hne]
          unfold afterC; rw [if_neg (by rw [seeE (show (fromE a e).e_ ≠ 0 from hne)]; simp)]
          unfold commC; rw [if_neg (show (fromE a e).e_ ≠ 0 from hne)]
        refine hB _ _ _ 0 _ _ _ _ h7 (fun he7 => ?_) (by dsimp only; omega) (by omega) fun r8 h8 => hK _ _ _ ((h8.re rfl).mono (by omega) (Nat.le_refl _) (by omega)) (fun he => ?_) (fun hne => ?_)
        · refine hl1 ?_
          apply Classical.byContradiction
          intro hne
          rw [haE hne] at he7
          exact hne he7
        · rw [hcO he]
          exact ⟨rfl, rfl, fun _ => rfl⟩
        · unfold inC
          rw [haE hne, addE (show (fromE a e).e_ ≠ 0 from hne)]
          exact ⟨rfl, rfl⟩
end
end Go.Proofs.Ytdbdkdmgfiiljaa
namespace Go.Proofs.Ytdbdkdmgfiiljaa
open Go.Vc Go.Lv Go.Ty
section
variable {toks : List GToken} {A : List GNode} {x : GNode} {at0 dp : Int} {s q p : Nat} {c d : Cur} {r : Gparse_reader}
theorem nameJ (hN : toks.length < 1000000) {a dd e : Int} {L : List GNode} (h : Re toks A x at0 dp s q p c ⟨toks, a, dd, L, e⟩) {G : Int → Int → List GNode → Int → Prop}
    (hG : ∀ a d l e, Re toks A ⟨x.op, nameS toks c, x.n, x.kids, x.at_⟩ at0 dp (s + 1) q p (nameC toks c) ⟨toks, a, d, l, e⟩ → G a d l e) :
    ∃ J2 : Int → Int → List GNode → Int → Prop, (V_parse_reader_name ⟨toks, a, dd, L, e⟩ (fun x4 r6 => ((0 : Int) ≤ (A.length : Int) ∧ (A.length : Int) < (L.length : Int)) ∧
      ∀ x5, L[(A.length : Int).toNat]? = some x5 → J2 r6.at_ r6.deep (L.set (A.length : Int).toNat ⟨x5.op, x4, x5.n, x5.kids, x5.at_⟩) r6.e_)) ∧ ∀ a d l e, J2 a d l e → G a d l e := by
  refine ⟨G, name_s hN h _ (fun r2 hl2 h2 => ?_), fun _ _ _ _ h => h⟩
  have h2 := h2.re hl2
  exact h2.elem fun y _ hy => hG _ _ _ _ (h2.upd _ hy fun e => by rw [e]; rfl)
theorem stmt_s (M : TermC) (hN : toks.length < 1000000) (k : Nat) (hk : k ≤ 24) (hB : PB M toks k) : PS M toks k := by
  intro r K ht h0 h1 hd he hl hK
  obtain ⟨tk, a, dd, l, e⟩ := r
  obtain rfl : tk = toks := ht
  dsimp only at h0 h1 hd he hl hK
  subst hd; subst he
  have hA1000 : (l.length : Int) ≤ a + 1000 := by omega
  refine parse_reader_stmt_lift _ _ (psee_v hN rfl h0 h1 0 (by decide) (by decide) _ (open_s hN rfl h0 h1 (by dsimp only; omega) 0 _ (fun _ r1 h2 _ => ?_) (by dsimp only; omega)))
  have h2 := (h2.re rfl).mono (s' := 0) (q' := 200) (p' := 0) (Nat.le_refl _) (by omega) (Nat.le_refl _)
  dsimp only at h2 ⊢
  rw [Int.add_zero]
  -- the end of a statement with a semicolon
  have semi : ∀ (at1 deep1 : Int) (l1 : List GNode) (ex1 : Int), (∃ x2 c2, Re tk l x2 a (24 - (k : Int)) 0 200 5 c2 ⟨tk, at1, deep1, l1, ex1⟩ ∧ stmtC M tk (blkF M tk k) a = underC (eatC tk sSemi c2) x2) →
      V_parse_reader_must (⟨tk, at1, deep1, l1, ex1⟩ : Gparse_reader) ([[59]] : List (List UInt8)) (fun r22 => K (⟨tk, r22.at_, r22.deep, l1, r22.e_⟩ : Gparse_reader)) := by
    rintro at1 deep1 l1 ex1 ⟨x2, c2, h3, hst⟩
    refine must_s hN h3 sSemi _ fun r4 hl4 h4 => hK _ x2 _ ((h4.re hl4).mono (by omega) (Nat.le_refl _) (by omega)) (fun _ => ?_) (fun hne => absurd rfl hne)
    rw [hst]; exact ⟨rfl, rfl, fun _ => rfl⟩
  -- the end of one without
  have fin : ∀ (r' : Gparse_reader) x2 c2, Re tk l x2 a (24 - (k : Int)) 1 200 (10 * k + 25) c2 r' → stmtC M tk (blkF M tk k) a = underC c2 x2 → K r' := by
    intro r' x2 c2 h3 hst
    refine hK _ x2 _ h3 (fun _ => ?_) (fun hne => absurd rfl hne)
    rw [hst]; exact ⟨rfl, rfl, fun _ => rfl⟩
  refine cond_intro (fun hk1 => ?_) fun hk1 => ⟨rfl, rfl, rfl, rfl, rfl, cond_intro (fun hk3 => ?_) fun hk3 => ?_⟩
  · have hk1 : (tokF tk a).kind = 1 := by simpa using hk1
    refine ⟨fun at1 deep1 l1 ex1 => ∃ x2 c2, Re tk l x2 a (24 - (k : Int)) 0 200 5 c2 ⟨tk, at1, deep1, l1, ex1⟩ ∧ stmtC M tk (blkF M tk k) a = underC (eatC tk sSemi c2) x2, ?_, semi⟩
    have h2a : r1.at_ = a := h2.at_
    refine pis_v hN rfl (by dsimp only; omega) (by dsimp only; omega) 1 (by decide) (by decide) sEq _ ?_
    dsimp only
    refine cond_intro (fun hi => ?_) fun hi => ?_
    · rw [h2a] at hi
      refine h2.elem fun y _ hy => set_s M hN (h2.upd (nd tk 19 [] 0 a) hy fun e => by rw [e]; rfl) (by omega) _ fun r3 h3 => ⟨_, _, (h3.re rfl).mono (by omega) (Nat.le_refl _) (by omega), ?_⟩
      unfold stmtC
      rw [if_pos hk1, if_pos hi]
      unfold setC setB setOp
      show (if seeB tk sRandom (eatC tk sEq (nameC tk (fromC a))) = true then _ else _) = underC (eatC tk sSemi (if seeB tk sRandom (eatC tk sEq (nameC tk (fromC a))) = true then _ else _)) ⟨if seeB tk sRandom (eatC tk sEq (nameC tk (fromC a))) = true then _ else _, _, _, _, _⟩
      split <;> rfl
    · rw [h2a] at hi
      refine comm_s M hN 21 22 h2 rfl hA1000 (by omega) (by omega) _ fun r3 h3 => ⟨_, _, (h3.re rfl).mono (by omega) (Nat.le_refl _) (by omega), ?_⟩
      unfold stmtC
      rw [if_pos hk1, if_neg (by rw [hi]; simp)]
      rfl
  · have hk1 : ¬ (tokF tk a).kind = 1 := by simpa using hk1
    have hk3 : ¬ (tokF tk a).kind = 3 := by simpa using hk3
    have hst : stmtC M tk (blkF M tk k) a = ⟨[], 0, a, 11⟩ := by unfold stmtC; rw [if_neg hk1, if_neg hk3]
    have h2e : r1.e_ = 0 := h2.e_
    have hfin : Re tk l (nd tk 0 [] 0 a) a (24 - (k : Int)) 1 200 0 ⟨[], 0, a, 11⟩ ⟨tk, r1.at_, r1.deep, r1.l, if r1.e_ = 0 then 11 else r1.e_⟩ := h2.stepE (cw_err h0 h1 (by decide) 1 200) rfl h2.at_ (by dsimp only; rw [if_pos h2e]) rfl rfl (Int.le_refl _) (fun e => by cases e)
    refine pfail_v _ _ (hK _ (nd tk 0 [] 0 a) ⟨[], 0, a, 11⟩ (hfin.mono (Nat.le_refl _) (Nat.le_refl _) (by omega)) (fun _ => ?_) (fun hne => absurd rfl hne))
    rw [hst]; exact ⟨rfl, rfl, fun e => by cases e⟩
  · have hk1 : ¬ (tokF tk a).kind = 1 := by simpa using hk1
    have hk3 : (tokF tk a).kind = 3 := by simpa using hk3
    have hst : stmtC M tk (blkF M tk k) a = wordC M tk (blkF M tk k) a := by unfold stmtC; rw [if_neg hk1, if_pos hk3]
    have hlt := kind_lt (toks := tk) (at_ := a) (by rw [hk3]; decide)
    have h2a : r1.at_ = a := h2.at_
    have h2e : r1.e_ = 0 := h2.e_
    have hwa : IntKind.i64.wrap (r1.at_ + 1) = a + 1 := by rw [h2a, wrap_in (by omega) (by omega)]
    have hE : ∀ t : Str, (tokF tk a).text = t → eatC tk t (fromC a) = ⟨[], 0, a + 1, 0⟩ := fun t htx => by
      unfold eatC fromC isF
      dsimp only
      rw [if_pos rfl, hk3, htx]
      simp
    have h3 : Re tk l (nd tk 0 [] 0 a) a (24 - (k : Int)) 1 200 0 ⟨[], 0, a + 1, 0⟩ ⟨tk, a + 1, r1.deep, r1.l, r1.e_⟩ :=
      h2.stepE ⟨h0, by dsimp only; omega, by dsimp only; omega, fun _ => by simp; omega, by simp; omega⟩ rfl rfl h2e rfl rfl (by show a ≤ a + 1; omega) (fun _ => h2.ok rfl)
    rw [hwa]
    rw [hst] at semi fin hK
    generalize htx : (tokF tk a).text = tx at hE
    refine ⟨fun at1 deep1 l1 ex1 => ∃ x2 c2, Re tk l x2 a (24 - (k : Int)) 0 200 5 c2 ⟨tk, at1, deep1, l1, ex1⟩ ∧ wordC M tk (blkF M tk k) a = underC (eatC tk sSemi c2) x2, ?_, semi⟩
    clear h2 h2a hwa
    unfold wordC at fin hK ⊢
    dsimp only at fin hK ⊢
    rw [htx] at fin hK ⊢
    refine cond_intro (fun hv => ?_) fun hv => ?_
    · obtain rfl : tx = sVar := eq_of_beq hv
      have hEv := hE sVar rfl
      rw [if_pos rfl, hEv]
      refine h3.elem fun y _ hy => nameJ hN (h3.upd (nd tk 18 [] 0 a) hy fun e => by rw [e]; rfl) fun a2 d2 l2 e2 h4 => must_s hN h4 sEq _ fun r5 hl5 h5 => term_s M hN (h5.re hl5) (by omega) _ fun r6 h6 => ⟨_, _, (h6.re rfl).mono (by omega) (Nat.le_refl _) (by omega), rfl⟩
    rw [if_neg (show ¬ tx = sVar from ne_of_beq_false hv)] at fin hK ⊢
    refine cond_intro (fun hv => ?_) fun hv => ?_
    · obtain rfl : tx = sStart := eq_of_beq hv
      have hEv := hE sStart rfl
      rw [if_pos rfl, hEv]
      refine h3.elem fun y _ hy => nameJ hN (h3.upd (nd tk 26 [] 0 a) hy fun e => by rw [e]; rfl) fun a2 d2 l2 e2 h4 => args_s M hN h4 (by omega) _ fun r6 h6 => ⟨_, _, (h6.re rfl).mono (by omega) (Nat.le_refl _) (by omega), rfl⟩
    rw [if_neg (show ¬ tx = sStart from ne_of_beq_false hv)] at fin hK ⊢
    refine ⟨fun b => b = true ↔ (tx = sSleep ∨ tx = sPrint ∨ tx = sAssert), ?_, ?_⟩
    · refine cond_intro (fun h => ?_) fun h => cond_intro (fun h' => ?_) fun h' => ?_
      · show _ ↔ _
        have h : tx = sSleep := eq_of_beq h
        subst h; decide
      · show _ ↔ _
        have h' : tx = sPrint := eq_of_beq h'
        subst h'; decide
      · show _ ↔ _
        have h : ¬ tx = sSleep := ne_of_beq_false h
        have h' : ¬ tx = sPrint := ne_of_beq_false h'
        simp [h, h', sAssert]
    intro b hb
    refine cond_intro (fun hbt => ?_) fun hbf => ?_
    · have hb := hb.1 hbt
      refine ⟨fun l4 => ∃ op, Re tk l (nd tk op [] 0 a) a (24 - (k : Int)) 1 200 0 ⟨[], 0, a + 1, 0⟩ ⟨tk, a + 1, r1.deep, l4, r1.e_⟩ ∧ ((op = 27 ∧ tx = sSleep) ∨ (op = 28 ∧ tx = sPrint) ∨ (op = 29 ∧ tx = sAssert)), ?_, ?_⟩
      · intro op hop
        refine h3.elem fun y _ hy => ⟨op, h3.upd (nd tk op [] 0 a) hy fun e => by rw [e]; rfl, ?_⟩
        rcases hb with rfl | rfl | rfl
        · exact .inl ⟨hop.trans (by decide), rfl⟩
        · exact .inr (.inl ⟨hop.trans (by decide), rfl⟩)
        · exact .inr (.inr ⟨hop.trans (by decide), rfl⟩)
      · rintro l4 ⟨op, h4, hop⟩
        refine term_s M hN h4 (by omega) _ fun r6 h6 => ⟨_, _, (h6.re rfl).mono (by omega) (Nat.le_refl _) (by omega), ?_⟩
        rcases hop with ⟨rfl, rfl⟩ | ⟨rfl, rfl⟩ | ⟨rfl, rfl⟩
        · rw [if_pos rfl]; unfold oneC; rw [hE sSleep rfl]
        · rw [if_neg (by decide), if_pos rfl]; unfold oneC; rw [hE sPrint rfl]
        · rw [if_neg (by decide), if_neg (by decide), if_pos rfl]; unfold oneC; rw [hE sAssert rfl]
    have hb : ¬ (tx = sSleep ∨ tx = sPrint ∨ tx = sAssert) := fun h => by rw [hb.2 h] at hbf; cases hbf
    simp only [not_or] at hb
    rw [if_neg hb.1, if_neg hb.2.1, if_neg hb.2.2] at fin hK ⊢
    refine ⟨fun b => b = true ↔ (tx = sSkip ∨ tx = sStop), ?_, ?_⟩
    · refine cond_intro (fun h => ?_) fun h => ?_
      · show _ ↔ _
        have h : tx = sSkip := eq_of_beq h
        subst h; decide
      · show _ ↔ _
        have h : ¬ tx = sSkip := ne_of_beq_false h
        simp [h, sStop]
    intro b2 hb2
    refine cond_intro (fun hbt => ?_) fun hbf => ?_
    · have hb2 := hb2.1 hbt
      intro op hop
      refine h3.elem fun y _ hy => ⟨_, _, (h3.upd (nd tk op [] 0 a) hy fun e => by rw [e]; rfl).mono (by omega) (Nat.le_refl _) (by omega), ?_⟩
      rcases hb2 with rfl | rfl
      · have : op = 30 := hop.trans (by decide)
        subst this
        rw [if_pos rfl]; unfold noneC; rw [hE sSkip rfl]
      · have : op = 31 := hop.trans (by decide)
        subst this
        rw [if_neg (by decide), if_pos rfl]; unfold noneC; rw [hE sStop rfl]
    have hb2 : ¬ (tx = sSkip ∨ tx = sStop) := fun h => by rw [hb2.2 h] at hbf; cases hbf
    simp only [not_or] at hb2
    rw [if_neg hb2.1, if_neg hb2.2] at fin hK
    -- the program asks for 'if' first
    refine cond_intro (fun hv => ?_) fun hv => ?_
    · obtain rfl : tx = sIf := eq_of_beq hv
      have hEv := hE sIf rfl
      rw [if_neg (by decide), if_pos rfl, hEv] at fin
      refine h3.elem fun y _ hy => term_s M hN (h3.upd (nd tk 23 [] 0 a) hy fun e => by rw [e]; rfl) (by omega) _ fun r4 h4 => hB _ _ _ 0 _ _ _ _ (h4.re rfl) (fun _ => hl) hA1000 (by omega) fun r5 h5 => ?_
      have h5 := h5.re rfl
      refine eat_s hN h5 sElse _ (fun hb r6 hl6 h6 => cond_t rfl ?_) (fun hb r6 hl6 h6 => cond_f rfl ?_)
      · have h6 := h6.re hl6
        have he6 : (eatC tk sElse (inC (blkF M tk k) (termC M tk ⟨[], 0, a + 1, 0⟩))).e_ = 0 := by rw [eat0 sElse hb]
        refine hB _ _ _ 2 _ _ _ _ (h6.resetp he6 0) (fun _ => hl) hA1000 (by omega) fun r7 h7 => fin _ _ _ ((h7.re rfl).mono (by omega) (Nat.le_refl _) (by omega)) ?_
        unfold ifC; rw [if_pos hb]
      · have h6 := h6.re hl6
        refine fin _ _ _ (h6.mono (by omega) (Nat.le_refl _) (by omega)) ?_
        unfold ifC; rw [if_neg (by rw [hb]; simp)]
    have hv : ¬ tx = sIf := ne_of_beq_false hv
    refine cond_intro (fun hw => ?_) fun hw => ?_
    · obtain rfl : tx = sWhile := eq_of_beq hw
      have hEv := hE sWhile rfl
      rw [if_pos rfl, hEv] at fin
      refine h3.elem fun y _ hy => term_s M hN (h3.upd (nd tk 24 [] 0 a) hy fun e => by rw [e]; rfl) (by omega) _ fun r4 h4 => hB _ _ _ 0 _ _ _ _ (h4.re rfl) (fun _ => hl) hA1000 (by omega) fun r5 h5 => ?_
      exact fin _ _ _ ((h5.re rfl).mono (by omega) (Nat.le_refl _) (by omega)) rfl
    have hw : ¬ tx = sWhile := ne_of_beq_false hw
    rw [if_neg hw, if_neg hv] at fin hK
    refine cond_intro (fun hs => ?_) fun hs => ?_
    · obtain rfl : tx = sSelect := eq_of_beq hs
      have hEv := hE sSelect rfl
      rw [if_pos rfl, hEv] at fin
      refine h3.elem fun y _ hy => must_s hN (h3.upd (nd tk 25 [] 0 a) hy fun e => by rw [e]; rfl) sLB _ fun r4 hl4 h4 => ?_
      have h4 := h4.re hl4
      generalize eatC tk sLB ⟨[], 0, a + 1, 0⟩ = c1 at h4 fin
      unfold selC at fin
      generalize hF : loopC (fun c => decide (c.e_ = 0) && !isF tk c.at_ sRB) (fun c => addC c (clauseC M tk (blkF M tk k) c.at_)) (fuel tk) (addC c1 (clauseC M tk (blkF M tk k) c1.at_)) = F at fin
      have hcl : ∀ {b : Int}, 0 ≤ b → b ≤ (tk.length : Int) → Cw tk b 1 (3 * k + 3) (clauseC M tk (blkF M tk k) b) := fun ha hb' => cw_clause M (cw_blk M k) (by omega) ha hb'
      have ha1 := cw_add h4.cw (fun _ => hcl h4.cw.z1 h4.cw.hi) (by omega)
      refine ⟨fun at_ deep l' ex f => ∃ c', Re tk l (nd tk 25 [] 0 a) a (24 - (k : Int)) 1 200 0 c' ⟨tk, at_, deep, l', ex⟩ ∧ LI tk (fun c => decide (c.e_ = 0) && !isF tk c.at_ sRB) (fun c => addC c (clauseC M tk (blkF M tk k) c.at_)) F f (addC c' (clauseC M tk (blkF M tk k) c'.at_)), ⟨_, c1, h4.mono (by omega) (Nat.le_refl _) (Nat.le_refl _), hF ▸ LI.start ha1⟩, ?_⟩
      rintro at5 deep5 l5 ex5 f ⟨c', h5, hl'⟩
      have h5e : ex5 = c'.e_ := h5.e_
      have h5a : at5 = c'.at_ := h5.at_
      subst h5e; subst h5a
      have hln := h5.len
      dsimp only at hln
      refine clause_s M hN k hk hB _ _ rfl h5.cw.z1 h5.cw.hi h5.dp (fun he => lenOk (s := 0) h5 he hl) (by dsimp only; omega) fun r6 x2 c2 h6 hcc hE6 => ?_
      dsimp only at h6 hcc hE6
      have hadd := (cw_add (q' := 3 * k + 3) (s' := 1) h5.cw (fun _ => hcl h5.cw.z1 h5.cw.hi) (by omega)).mono (s' := 1) (q' := 200) (by omega) (Nat.le_refl _)
      refine fin_add (dd := clauseC M tk (blkF M tk k) c'.at_) (p' := 10 * k + 25) (dp3 := r6.deep) h5 rfl h6 hE6 hcc hadd (by omega) h6.dp (K := fun r7 => ∃ J7 : Bool → Prop, (cond (r7.e_ != 0) (J7 (r7.e_ != 0)) (V_parse_reader_is r7 0 [125] (fun x22 => J7 x22))) ∧ ∀ x21, J7 x21 → cond x21 (V_parse_reader_must r7 [[125]] (fun r20 => K ⟨tk, r20.at_, r20.deep, r7.l, r20.e_⟩))
        (∃ n1, n1 < f ∧ ∃ c', Re tk l (nd tk 25 [] 0 a) a (24 - (k : Int)) 1 200 0 c' ⟨tk, r7.at_, r7.deep, r7.l, r7.e_⟩ ∧ LI tk (fun c => decide (c.e_ = 0) && !isF tk c.at_ sRB) (fun c => addC c (clauseC M tk (blkF M tk k) c.at_)) F n1 (addC c' (clauseC M tk (blkF M tk k) c'.at_)))) fun r7 h7 => ?_
      obtain ⟨tk7, a7, d7, l7, e7⟩ := r7
      obtain rfl : tk7 = tk := h7.t
      generalize addC c' (clauseC M tk7 (blkF M tk7 k) c'.at_) = cc at h7 hl' hadd
      obtain rfl : e7 = cc.e_ := h7.e_
      obtain rfl : a7 = cc.at_ := h7.at_
      dsimp only
      refine ⟨fun b => b = !(decide (cc.e_ = 0) && !isF tk7 cc.at_ sRB), cond_intro (fun hx => ?_) (fun hx => ?_), ?_⟩
      · have hx : ¬ cc.e_ = 0 := by simpa using hx
        show _ = _
        rw [decide_eq_false hx, show (cc.e_ != 0) = true by simpa using hx]; rfl
      · have hx : cc.e_ = 0 := by simpa using hx
        refine pis_v hN rfl hadd.z1 hadd.hi 0 (by decide) (by decide) sRB _ ?_
        show _ = _
        dsimp only
        rw [Int.add_zero, decide_eq_true hx]; simp
      · rintro _ rfl
        refine cond_intro (fun hx => ?_) fun hx => ?_
        · have hg : (decide (cc.e_ = 0) && !isF tk7 cc.at_ sRB) = false := by rw [Bool.eq_false_iff]; intro h; rw [h] at hx; cases hx
          have hst' := hl'.stop hg
          subst hst'
          exact must_s hN h7 sRB _ fun r8 hl8 h8 => fin _ _ _ ((h8.re hl8).mono (by omega) (Nat.le_refl _) (by omega)) rfl
        · have hg : (decide (cc.e_ = 0) && !isF tk7 cc.at_ sRB) = true := by simpa using hx
          have he : cc.e_ = 0 := by simp at hg; exact hg.1
          obtain ⟨f', hf', hl''⟩ := hl'.step hg he hadd.hi (fun hd => adv_add (hcl hadd.z1 hadd.hi) he hd)
          exact ⟨f', hf', _, h7.resetp he 0, hl''⟩
    have hs : ¬ tx = sSelect := ne_of_beq_false hs
    rw [if_neg hs] at hK
    have hw2 : IntKind.i64.wrap ((a + 1) - 1) = a := by rw [wrap_in (by omega) (by omega)]; omega
    rw [hw2]
    refine pfail_v _ _ (hK _ (nd tk 0 [] 0 a) ⟨[], 0, a, 11⟩ ?_ (fun _ => ⟨rfl, rfl, fun e => by cases e⟩) (fun hne => absurd rfl hne))
    refine ⟨cw_err h0 h1 (by decide) 1 200, rfl, rfl, ?_, h3.dp, (fun e => by cases e), h3.lo, fun _ => ?_, h3.ha⟩
    · dsimp only; rw [if_pos h2e]
    · have := h3.ok rfl
      dsimp only at this ⊢
      rw [this]
      simp only [List.length_append, List.length_cons, List.length_nil]; omega
end
end Go.Proofs.Ytdbdkdmgfiiljaa
namespace Go.Proofs.Ytdbdkdmgfiiljaa
open Go.Vc Go.Lv Go.Ty
section
variable {toks : List GToken} {A : List GNode} {x : GNode} {at0 dp : Int} {s q p : Nat} {c d : Cur} {r : Gparse_reader}
theorem pb_ps (M : TermC) (hN : toks.length < 1000000) : ∀ k, k ≤ 24 → PB M toks k ∧ PS M toks k
  | 0, h => by
    have hB := block_s M hN 0 h (fun k' e => by cases e)
    exact ⟨hB, stmt_s M hN 0 h hB⟩
  | k + 1, h => by
    have ih := pb_ps M hN k (by omega)
    have hs : ∀ k', k + 1 = k' + 1 → PS M toks k' := by
      intro k' e
      cases e
      exact ih.2
    have hB := block_s M hN (k + 1) h hs
    exact ⟨hB, stmt_s M hN (k + 1) h hB⟩
theorem pb_top (M : TermC) (hN : toks.length < 1000000) : PB M toks 24 := (pb_ps M hN 24 (Nat.le_refl _)).1
theorem decl_s (M : TermC) (hN : toks.length < 1000000) (r : Gparse_reader) (K : Gparse_reader → Prop) (ht : r.toks = toks) (h0 : 0 ≤ r.at_) (h1 : r.at_ ≤ (toks.length : Int)) (hd : r.deep = 0) (he : r.e_ = 0) (hl : (r.l.length : Int) ≤ r.at_ + 1)
    (hK : Got toks r.l r.at_ 0 300 0 (declC M toks r.at_) K) : V_parse_reader_decl r K := by
  obtain ⟨tk, a, dd, l, e⟩ := r
  obtain rfl : tk = toks := ht
  dsimp only at h0 h1 hd he hl hK
  subst hd; subst he
  have hA1000 : (l.length : Int) ≤ a + 1000 := by omega
  have hB := pb_top M hN
  refine parse_reader_decl_lift _ _ (open_s hN rfl h0 h1 (by dsimp only; omega) 41 _ (fun _ r1 h2 _ => ?_) (by dsimp only; omega))
  have h2 := (h2.re rfl).mono (s' := 0) (q' := 200) (p' := 0) (Nat.le_refl _) (by omega) (Nat.le_refl _)
  dsimp only at h2 ⊢
  have fin : ∀ (r' : Gparse_reader) x2 c2, Re tk l x2 a 0 1 200 300 c2 r' → declC M tk a = underC c2 x2 → K r' := by
    intro r' x2 c2 h3 hst
    refine hK _ x2 _ h3 (fun _ => ?_) (fun hne => absurd rfl hne)
    rw [hst]; exact ⟨rfl, rfl, fun _ => rfl⟩
  have hsee : ∀ {t : Str}, seeB tk t (fromE a 0) = isF tk a t := fun {t} => by unfold seeB fromE; simp
  refine eat_s hN h2 sChan _ (fun hb r2 hl2 h3 => cond_t rfl ?_) (fun hb r2 hl2 h3 => cond_f rfl ?_)
  · have h3 := h3.re hl2
    rw [hsee] at hb
    unfold declC at fin
    rw [if_pos hb] at fin
    change ∀ (r' : Gparse_reader) x2 c2, Re tk l x2 a 0 1 200 300 c2 r' → underC (eatC tk sSemi (chanC1 tk (nameC tk (eatC tk sChan (fromE a 0))))) (nd tk 38 (nameS tk (eatC tk sChan (fromE a 0))) (chanN tk (nameC tk (eatC tk sChan (fromE a 0)))) a) = underC c2 x2 → K r' at fin
    refine h3.elem fun y _ hy => nameJ hN (h3.upd (nd tk 38 [] 0 a) hy fun e => by rw [e]; rfl) fun a2 d2 l2 e2 h4 => ?_
    generalize nameS tk (eatC tk sChan (fromE a 0)) = nm at h4 fin
    generalize nameC tk (eatC tk sChan (fromE a 0)) = c1 at h4 fin
    refine ⟨fun at_ deep l' ex => Re tk l (nd tk 38 nm (chanN tk c1) a) a 0 0 200 0 (chanC1 tk c1) ⟨tk, at_, deep, l', ex⟩, eat_s hN h4 sLS _ (fun hb r3 hl3 h5 => cond_t rfl ?_) (fun hb r3 hl3 h5 => cond_f rfl ?_), ?_⟩
    · refine size_s hN (h5.re hl3) _ fun r6 h6 => must_s hN (h6.re rfl) sRS _ fun r7 hl7 h7 => ?_
      have h7 := h7.re hl7
      unfold chanN chanC1; rw [if_pos hb, if_pos hb]
      exact h7.mono (by omega) (Nat.le_refl _) (Nat.le_refl _)
    · have h5 := h5.re hl3
      unfold chanN chanC1; rw [if_neg (by rw [hb]; simp), if_neg (by rw [hb]; simp)]
      exact h5.mono (by omega) (Nat.le_refl _) (Nat.le_refl _)
    · intro at5 deep5 l5 ex5 h5
      exact must_s hN h5 sSemi _ fun r6 hl6 h6 => fin _ _ _ ((h6.re hl6).mono (by omega) (Nat.le_refl _) (by omega)) rfl
  rw [hsee] at hb
  have hbc : ¬ isF tk a sChan = true := by rw [hb]; simp
  have h3 := h3.re hl2
  refine eat_s hN h3 sProc _ (fun hb r4 hl4 h4 => cond_t rfl ?_) (fun hb r4 hl4 h4 => cond_f rfl ?_)
  · have h4 := h4.re hl4
    rw [hsee] at hb
    unfold declC at fin
    rw [if_neg hbc, if_pos hb] at fin
    change ∀ (r' : Gparse_reader) x2 c2, Re tk l x2 a 0 1 200 300 c2 r' → underC (inC (blkF M tk 24) (eatC tk sRP (procC1 tk (eatC tk sLP (nameC tk (eatC tk sProc (fromE a 0))))))) (nd tk 40 (nameS tk (eatC tk sProc (fromE a 0))) 0 a) = underC c2 x2 → K r' at fin
    refine h4.elem fun y _ hy => nameJ hN (h4.upd (nd tk 40 [] 0 a) hy fun e => by rw [e]; rfl) fun a2 d2 l2 e2 h5 => must_s hN h5 sLP _ fun r6 hl6 h6 => ?_
    have h6 := h6.re hl6
    generalize nameS tk (eatC tk sProc (fromE a 0)) = nm at h6 fin
    generalize eatC tk sLP (nameC tk (eatC tk sProc (fromE a 0))) = c1 at h6 fin
    refine ⟨fun at_ deep l' ex => Re tk l (nd tk 40 nm 0 a) a 0 1 200 2 (eatC tk sRP (procC1 tk c1)) ⟨tk, at_, deep, l', ex⟩, eat_s hN h6 sRP _ (fun hb r7 hl7 h7 => cond_f rfl ?_) (fun hb r7 hl7 h7 => cond_t rfl ?_), ?_⟩
    · have h7 := h7.re hl7
      obtain ⟨he, hi⟩ := see_lt hb
      unfold procC1
      rw [if_neg (by rw [hi]; simp)]
      exact h7.mono (by omega) (Nat.le_refl _) (by omega)
    · have h7 := h7.re hl7
      refine param_s hN h7 hA1000 (by omega) (by omega) _ fun r8 h8 => ?_
      have h8 := (h8.re rfl).mono (s' := 0) (q' := 200) (p' := 1) (by omega) (Nat.le_refl _) (by omega)
      have hF : procC1 tk c1 = loopC (seeB tk sComma) (fun c => paramC tk (eatC tk sComma c)) (fuel tk) (paramC tk c1) := by
        unfold procC1
        by_cases he : c1.e_ = 0
        · have hi : isF tk c1.at_ sRP = false := by
            have := hb
            unfold seeB at this
            rw [decide_eq_true he] at this
            simpa using this
          rw [if_pos (by rw [decide_eq_true he, hi]; rfl)]
        · rw [if_neg (by rw [decide_eq_false he]; simp), show paramC tk c1 = c1 from addE he _, loopE (seeE he)]
      rw [hF]
      generalize hG : loopC (seeB tk sComma) (fun c => paramC tk (eatC tk sComma c)) (fuel tk) (paramC tk c1) = G
      refine ⟨fun at_ deep l' ex f => ∃ c', Re tk l (nd tk 40 nm 0 a) a 0 0 200 (if c'.e_ = 0 then 1 else 2) c' ⟨tk, at_, deep, l', ex⟩ ∧ LI tk (seeB tk sComma) (fun c => paramC tk (eatC tk sComma c)) G f c', ⟨_, _, h8.mono (Nat.le_refl _) (Nat.le_refl _) (by split <;> omega), hG ▸ LI.start h8.cw⟩, ?_⟩
      rintro at9 deep9 l9 ex9 f ⟨c', h9, hl⟩
      refine eat_s hN h9 sComma _ (fun hb r10 hl10 h10 => cond_t rfl ?_) (fun hb r10 hl10 h10 => cond_f rfl ?_)
      · have h10 := h10.re hl10
        have he10 : (eatC tk sComma c').e_ = 0 := by rw [eat0 sComma hb]
        have h10 := h10.resetp he10 0
        refine param_s hN h10 hA1000 (by omega) (by omega) _ fun r11 h11 => ?_
        have h11 := h11.re rfl
        obtain ⟨f', hf', hl'⟩ := hl.step hb (see_lt hb).1 h9.cw.hi (fun hd => by
          have e4 := cw_eat sComma h9.cw
          have e6 := cw_under (x := nd tk 39 (nameS tk (fromC (eatC tk sComma c').at_)) 0 (eatC tk sComma c').at_) (cw_name (cw_from (toks := tk) (at_ := (eatC tk sComma c').at_) e4.z1 e4.hi 0))
          unfold paramC addC at hd ⊢
          rw [if_pos he10] at hd ⊢
          have := e6.lo
          have h2 : (eatC tk sComma c').at_ = c'.at_ + 1 := by rw [eat0 sComma hb]
          dsimp only at this ⊢
          omega)
        exact ⟨f', hf', _, h11.mono (by omega) (Nat.le_refl _) (by split <;> omega), hl'⟩
      · have h10 := h10.re hl10
        rw [← hl.stop hb]
        exact must_s hN h10 sRP _ fun r11 hl11 h11 => (h11.re hl11).mono (by omega) (Nat.le_refl _) (by split <;> omega)
    · intro at7 deep7 l7 ex7 h7
      exact hB _ _ _ 0 _ _ _ _ h7 (fun _ => hl) hA1000 (by omega) fun r8 h8 => fin _ _ _ ((h8.re rfl).mono (by omega) (Nat.le_refl _) (by omega)) rfl
  · have h4 := h4.re hl4
    rw [hsee] at hb
    have hbp : ¬ isF tk a sProc = true := by rw [hb]; simp
    unfold declC at fin
    rw [if_neg hbc, if_neg hbp] at fin
    change ∀ (r' : Gparse_reader) x2 c2, Re tk l x2 a 0 1 200 300 c2 r' → underC (inC (blkF M tk 24) (eatC tk sMain (fromE a 0))) (nd tk 41 [] 0 a) = underC c2 x2 → K r' at fin
    refine must_s hN h4 sMain _ fun r5 hl5 h5 => ?_
    exact hB _ _ _ 0 _ _ _ _ (h5.re hl5) (fun _ => hl) hA1000 (by omega) fun r8 h8 => fin _ _ _ ((h8.re rfl).mono (by omega) (Nat.le_refl _) (by omega)) rfl
theorem unit_s (M : TermC) (hN : toks.length < 1000000) (K : List GNode → Int → Int → Prop) (h : K (unitF M toks).l (unitF M toks).at_ (unitF M toks).e_) : V_parse_Unit toks K := by
  have hf := cw_from (toks := toks) (at_ := 0) (Int.le_refl _) (by omega) 200
  have hst : Re toks [] ⟨42, [], 0, 0, 0⟩ 0 0 0 200 0 (fromC 0) ⟨toks, 0, 0, [⟨42, [], 0, 0, 0⟩], 0⟩ :=
    ⟨hf, rfl, rfl, rfl, rfl, fun _ => rfl, by simp, fun h => absurd rfl h, by simp⟩
  refine parse_Unit_lift _ _ ⟨fun atx deep l ex f => ∃ c', Re toks [] ⟨42, [], 0, 0, 0⟩ 0 0 0 200 (if c'.e_ = 0 then 0 else 301) c' ⟨toks, atx, deep, l, ex⟩ ∧ LI toks (fun c => decide (c.e_ = 0) && !decide ((tokF toks c.at_).kind = 0)) (fun c => addC c (declC M toks c.at_)) (unitC M toks) f c', ⟨_, fromC 0, hst.mono (Nat.le_refl _) (Nat.le_refl _) (Nat.zero_le _), LI.start hf⟩, ?_⟩
  rintro atx deep l ex f ⟨c', h4, hl⟩
  obtain rfl : ex = c'.e_ := h4.e_
  obtain rfl : atx = c'.at_ := h4.at_
  obtain rfl : deep = 0 := h4.dp
  refine ⟨fun b => b = (decide (c'.e_ = 0) && !decide ((tokF toks c'.at_).kind = 0)), cond_intro (fun he => ?_) (fun he => ?_), ?_⟩
  · have he : c'.e_ = 0 := by simpa using he
    refine psee_v hN rfl h4.cw.z1 h4.cw.hi 0 (by decide) (by decide) _ ?_
    dsimp only
    show _ = _
    rw [Int.add_zero, Bool.eq_iff_iff]; simp [he]
  · have he : ¬ c'.e_ = 0 := by simpa using he
    show false = _
    rw [decide_eq_false he]; rfl
  rintro _ rfl
  refine cond_intro (fun hA' => ?_) fun hB => ?_
  · have he : c'.e_ = 0 := by simp at hA'; exact hA'.1
    rw [if_pos he] at h4
    have hw := h4.cw.w he
    have hln : (l.length : Int) ≤ c'.at_ + 1 := by
      have := h4.ok he
      dsimp only at this
      rw [this]
      simp only [List.nil_append, List.length_cons]
      omega
    refine decl_s M hN _ _ rfl h4.cw.z1 h4.cw.hi rfl he hln fun r4 x2 c2 h5 hcc _ => ?_
    dsimp only at h5 hcc
    have hcw := cw_decl M h4.cw.z1 h4.cw.hi
    have hadd := (cw_add (q' := 100) (s' := 1) h4.cw (fun _ => hcw) (by omega)).mono (s' := 0) (q' := 200) (by omega) (Nat.le_refl _)
    obtain ⟨f', hf', hl'⟩ := hl.step hA' he h4.cw.hi (fun hd => adv_add hcw he hd)
    exact fin_add (dd := declC M toks c'.at_) (p' := 301) (dp3 := r4.deep) h4 rfl h5 (fun hne => absurd he hne) (fun _ => hcc rfl) hadd (by omega) h5.dp (K := fun r5 => ∃ n1, n1 < f ∧ ∃ c', Re toks [] ⟨42, [], 0, 0, 0⟩ 0 0 0 200 (if c'.e_ = 0 then 0 else 301) c' ⟨toks, r5.at_, r5.deep, r5.l, r5.e_⟩ ∧ LI toks (fun c => decide (c.e_ = 0) && !decide ((tokF toks c.at_).kind = 0)) (fun c => addC c (declC M toks c.at_)) (unitC M toks) n1 c') fun r5 h6 => by
      refine ⟨f', hf', _, ?_, hl'⟩
      by_cases he2 : (addC c' (declC M toks c'.at_)).e_ = 0
      · rw [if_pos he2]; exact (h6.re rfl).resetp he2 0
      · rw [if_neg he2]; exact h6.re rfl
  · have hst := (hl.stop hB).symm
    unfold unitF at h
    rw [hst] at h
    refine cond_intro (fun hx => ?_) fun hx => ?_
    · rw [if_pos (by simpa using hx)] at h; exact h
    · have hx : c'.e_ = 0 := by simpa using hx
      rw [if_neg (fun hh => hh hx)] at h
      have := h4.ok hx
      dsimp only at this
      rw [this]
      exact h
end
end Go.Proofs.Ytdbdkdmgfiiljaa
namespace Go.Proofs.Ytdbdkdmgfiiljaa
open Go.Vc Go.Lv Go.Ty Go.Tk Go.Tm
def gT (t : Tok) : GToken := ⟨t.kind, t.text, t.n, t.at_⟩
def tT (t : GToken) : Tok := ⟨t.kind, t.text, t.n, t.at_⟩
def gN (x : Nd) : GNode := ⟨x.op, x.name, x.n, x.kids, x.at_⟩
theorem gT_map (toks : List GToken) : (toks.map tT).map gT = toks := by
  rw [List.map_map]
  exact List.map_id _
theorem ret_mono {K K' : Value → World → Prop} (h : ∀ v w', K v w' → K' v w') : ∀ e w', Ret K e w' → Ret K' e w'
  | .returned _, w', hk => h _ w' hk
  | .panicked _, _, hk => hk.elim
  | .outgrown, _, hk => hk.elim
theorem next_v (s : List UInt8) (hs : s.length < 2 ^ 40) (at_ : Int) (K : GToken → Int → Int → Prop) (h : K (gT (nextS s at_).1) (nextS s at_).2.1 (nextS s at_).2.2) : V_token_Next s at_ K := fun _ w _ =>
  (Next_spec s hs at_ w).mono (ret_mono fun _ _ ⟨hv, he⟩ => ⟨_, _, _, h, ⟨_, hv, GToken_in (gT (nextS s at_).1)⟩, Keep.ofExt he⟩)
theorem op_v (s : List UInt8) (K : Int → Prop) (h : K (opOf s)) : V_R10_Op s K := fun _ w _ =>
  (rOp_spec s w).mono (ret_mono fun _ _ ⟨hv, he⟩ => ⟨_, h, hv, Keep.ofExt he⟩)
theorem level_v (op : Int) (K : Int → Prop) (h : K (levO op : Nat)) : V_R10_Level op K := fun _ w _ =>
  (rLevel_spec op w).mono (ret_mono fun _ _ ⟨hv, he⟩ => ⟨_, h, hv, Keep.ofExt he⟩)
theorem all_v (s : List UInt8) (K : List GToken → Int → Int → Prop) (h : K ((allS s).1.map gT) (allS s).2.1 (allS s).2.2) : V_token_All s K := by
  refine token_All_lift _ _ (cond_intro (fun hx => ?_) fun hx => ?_)
  · have : allS s = ([], 0, 5) := by unfold allS; rw [if_pos (by simp at hx; omega)]
    rw [this] at h; exact h
  · have hs : s.length ≤ 65536 := by simp at hx; omega
    have hall : allS s = allFrom s (s.length + 1) 0 [] := by unfold allS; rw [if_neg (by omega)]
    rw [hall] at h
    refine ⟨fun out atx n => ∃ (acc : List Tok) (k : Nat), atx = k ∧ out = acc.map gT ∧ acc.length ≤ k ∧ k ≤ s.length ∧ s.length < n + k ∧ allFrom s (s.length + 1) 0 [] = allFrom s n k acc, ⟨s.length + 1, [], 0, rfl, rfl, Nat.zero_le _, Nat.zero_le _, by omega, rfl⟩, ?_⟩
    rintro _ _ n ⟨acc, k, rfl, rfl, hacc, hk, hf, heq⟩
    rw [heq] at h
    obtain ⟨f, rfl⟩ : ∃ f', n = f' + 1 := ⟨n - 1, by omega⟩
    refine next_v s (by omega) k _ ?_
    have hadv := nextS_adv s k hk
    have hstep : allFrom s (f + 1) k acc = if (nextS s k).2.2 ≠ 0 then (([] : List Tok), ((nextS s k).2.1 : Int), (nextS s k).2.2) else if (nextS s k).1.kind = 0 then (acc ++ [(nextS s k).1], (nextS s k).1.at_, 0) else allFrom s f (nextS s k).2.1 (acc ++ [(nextS s k).1]) := rfl
    generalize nextS s k = x at *
    obtain ⟨t, nx, e⟩ := x
    dsimp only at hadv hstep ⊢
    refine cond_intro (fun he => ?_) fun he => ?_
    · rw [hstep, if_pos (by simpa using he)] at h; exact h
    · have he : e = 0 := by simpa using he
      subst he
      rw [if_neg (fun h => h rfl)] at hstep
      refine ⟨by simp only [List.length_map, List.length_cons, List.length_nil]; omega, cond_intro (fun hk0 => ?_) fun hk0 => ?_⟩
      · rw [hstep, if_pos (show t.kind = 0 by simpa [gT] using hk0)] at h
        simpa [gT] using h
      · have hk0 : t.kind ≠ 0 := by simpa [gT] using hk0
        rw [if_neg hk0] at hstep
        obtain ⟨h1, h2⟩ := hadv rfl hk0
        exact ⟨f, by omega, acc ++ [t], nx, rfl, by simp, by simp; omega, h2, by omega, heq.trans hstep⟩
def gR (r : Res) : GR10_Got := ⟨r.l.map gN, (r.at_ : Int), r.e⟩
theorem tok_T (toks : List Tok) (p : Nat) : tokF (toks.map gT) (p : Int) = gT (T toks p) := by
  unfold tokF T
  rw [List.length_map, Int.toNat_natCast]
  by_cases h : p < toks.length
  · rw [if_pos (by omega), List.getElem?_map, List.getD_eq_getElem?_getD, List.getElem?_eq_getElem h]; rfl
  · rw [if_neg (by omega), List.getD_eq_getElem?_getD, List.getElem?_eq_none (by omega)]; rfl
theorem rtokT_v (toks : List Tok) (p : Nat) (K : GToken → Prop) (h : K (gT (T toks p))) : V_R10_Tok (toks.map gT) p K := rtok_v (by omega) _ (by rw [tok_T]; exact h)
section
variable (toks : List Tok) (hN : toks.length < 2 ^ 30)
include hN
theorem rone_s (r1 rl : Nat → Nat → Option Res)
    (hr1 : ∀ p d r, r1 p d = some r → d ≤ 24 → ∀ K : GR10_Got → Prop, K (gR r) → V_R10_one (toks.map gT) p d K)
    (hrl : ∀ p d r, rl p d = some r → d ≤ 24 → ∀ K : GR10_Got → Prop, K (gR r) → V_R10_level (toks.map gT) p 1 d K)
    (hk1 : ∀ p d r, r1 p d = some r → Ok toks p r) (hkl : ∀ p d r, rl p d = some r → Ok toks p r)
    (p d : Nat) (r : Res) (h : oneStep toks r1 rl p d = some r) (hd : d ≤ 24) (K : GR10_Got → Prop) (hK : K (gR r)) : V_R10_one (toks.map gT) p d K := by
  refine R10_one_lift _ _ _ _ (rtokT_v toks p _ ?_)
  have hlt : (T toks p).kind ≠ 0 → p < toks.length := T_lt
  unfold oneStep at h
  generalize T toks p = t at h hlt ⊢
  obtain ⟨tk, tx, tn, ta⟩ := t
  dsimp only [gT] at h hlt ⊢
  have hp1 : p < toks.length → IntKind.i64.wrap ((p : Int) + 1) = ((p + 1 : Nat) : Int) := fun hp => by rw [wrap_in (by omega) (by omega)]; omega
  have hd1 : IntKind.i64.wrap ((d : Int) + 1) = ((d + 1 : Nat) : Int) := by rw [wrap_in (by omega) (by omega)]; omega
  refine cond_intro (fun h2 => ?_) fun h2 => ?_
  · have h2 : tk = 2 := by simpa using h2
    rw [if_pos h2] at h
    cases h
    rw [hp1 (hlt (by omega))]
    exact hK
  have h2 : tk ≠ 2 := by simpa using h2
  rw [if_neg h2] at h
  refine cond_intro (fun h3 => ?_) fun h3 => ?_
  · have h3 : tk = 1 := by simpa using h3
    rw [if_pos h3] at h
    cases h
    rw [hp1 (hlt (by omega))]
    exact hK
  have h3 : tk ≠ 1 := by simpa using h3
  rw [if_neg h3] at h
  refine ⟨fun b => b = !decide (tk = 4 ∧ (tx = [45] ∨ tx = [33] ∨ tx = [40])), ?_, ?_⟩
  · refine cond_intro (fun h4 => ?_) fun h4 => ?_
    · have h4 : tk ≠ 4 := by simpa using h4
      show true = _
      rw [decide_eq_false (fun c => h4 c.1)]; rfl
    · have h4 : tk = 4 := by simpa using h4
      refine cond_intro (fun h5 => cond_intro (fun h6 => ?_) fun h6 => ?_) fun h5 => ?_
      · show _ = _
        have h5 : tx ≠ [45] := by simpa using h5
        have h6 : tx ≠ [33] := by simpa using h6
        rw [Bool.eq_iff_iff]; simp [h4, h5, h6]
      · show false = _
        have h6 : tx = [33] := by simpa using h6
        rw [decide_eq_true ⟨h4, .inr (.inl h6)⟩]; rfl
      · show false = _
        have h5 : tx = [45] := by simpa using h5
        rw [decide_eq_true ⟨h4, .inl h5⟩]; rfl
  rintro _ rfl
  refine cond_intro (fun hc => ?_) fun hc => ?_
  · have hc : ¬ (tk = 4 ∧ (tx = [45] ∨ tx = [33] ∨ tx = [40])) := by simpa only [Bool.not_eq_true', decide_eq_false_iff_not] using hc
    rw [if_neg (fun c => hc ⟨c.1, c.2.elim .inl (fun e => .inr (.inl e))⟩), if_neg (fun c => hc ⟨c.1, .inr (.inr c.2)⟩)] at h
    cases h
    exact hK
  have hc : tk = 4 ∧ (tx = [45] ∨ tx = [33] ∨ tx = [40]) := by simpa only [Bool.not_eq_false', decide_eq_true_eq] using hc
  have hp := hlt (by omega)
  rw [hp1 hp, hd1]
  by_cases h40 : tx = [40]
  · subst h40
    rw [if_neg (fun c => by simp at c), if_pos ⟨hc.1, rfl⟩] at h
    refine cond_intro (fun h24 => ?_) fun h24 => ?_
    · have h24 : d = 24 := by have : (d : Int) = 24 := by simpa using h24
                              omega
      rw [if_pos h24] at h
      cases h
      exact hK
    · have h24 : d ≠ 24 := by
        intro e; subst e; simp at h24
      rw [if_neg h24] at h
      obtain ⟨x, hx, rfl⟩ := Option.map_eq_some_iff.1 h
      refine cond_t (by simp) (hrl _ _ _ hx (by omega) _ ?_)
      have hk := hkl _ _ _ hx
      refine cond_intro (fun he => ?_) fun he => ?_
      · have he : x.e ≠ 0 := by simpa [gR] using he
        rw [if_pos he] at hK; exact hK
      · have he : x.e = 0 := by simpa [gR] using he
        rw [if_neg (fun c => c he)] at hK
        refine rtokT_v toks x.at_ _ ?_
        refine ⟨fun b => b = !decide ((T toks x.at_).kind = 4 ∧ (T toks x.at_).text = [41]), cond_intro (fun h4 => ?_) (fun h4 => ?_), ?_⟩
        · have h4 : (T toks x.at_).kind ≠ 4 := by simpa [gT] using h4
          show true = _
          rw [decide_eq_false (fun c => h4 c.1)]; rfl
        · have h4 : (T toks x.at_).kind = 4 := by simpa [gT] using h4
          show _ = _
          rw [Bool.eq_iff_iff]; simp [h4, gT]
        · rintro _ rfl
          refine cond_intro (fun hq => ?_) fun hq => ?_
          · rw [if_neg (by simpa only [Bool.not_eq_true', decide_eq_false_iff_not] using hq)] at hK; exact hK
          · have hq : (T toks x.at_).kind = 4 ∧ (T toks x.at_).text = [41] := by simpa only [Bool.not_eq_false', decide_eq_true_eq] using hq
            rw [if_pos hq] at hK
            have := (hk.1 he).2.1
            have hw : IntKind.i64.wrap ((gR x).at_ + 1) = ((x.at_ + 1 : Nat) : Int) := by
              show IntKind.i64.wrap ((x.at_ : Int) + 1) = _
              rw [wrap_in (by omega) (by omega)]; omega
            rw [hw]
            exact hK
  · have hs : tx = [45] ∨ tx = [33] := by
      rcases hc.2 with e | e | e
      · exact .inl e
      · exact .inr e
      · exact absurd e h40
    rw [if_pos ⟨hc.1, hs⟩] at h
    refine cond_intro (fun h24 => ?_) fun h24 => ?_
    · have h24 : d = 24 := by have : (d : Int) = 24 := by simpa using h24
                              omega
      rw [if_pos h24] at h
      cases h
      exact hK
    · have h24 : d ≠ 24 := by
        intro e; subst e; simp at h24
      rw [if_neg h24] at h
      obtain ⟨x, hx, rfl⟩ := Option.map_eq_some_iff.1 h
      have hk := hk1 _ _ _ hx
      refine cond_f (by simpa using h40) (hr1 _ _ _ hx (by omega) _ ?_)
      refine cond_intro (fun he => ?_) fun he => ?_
      · have he : x.e ≠ 0 := by simpa [gR] using he
        rw [if_neg he] at hK; exact hK
      · have he : x.e = 0 := by simpa [gR] using he
        rw [if_pos he] at hK
        refine ⟨fun op => op = if tx = [33] then 4 else 3, cond_intro (fun h5 => ?_) (fun h5 => ?_), ?_⟩
        · show (4 : Int) = _
          rw [if_pos (by simpa using h5)]
        · show (3 : Int) = _
          rw [if_neg (by simpa using h5)]
        · rintro _ rfl
          have := hk.1 he
          exact ⟨by simp only [List.length_cons, List.length_nil, gR, List.length_map]; omega, hK⟩
theorem rlev_s (f : Nat)
    (ih1 : ∀ f', f' ≤ f → ∀ p d r, R toks f' (.one p d) = some r → d ≤ 24 → ∀ K : GR10_Got → Prop, K (gR r) → V_R10_one (toks.map gT) p d K)
    (ihl : ∀ f', f' ≤ f → ∀ (n : Nat) p d r, 1 ≤ n → n ≤ 6 → R toks f' (.lev n p d) = some r → d ≤ 24 → ∀ K : GR10_Got → Prop, K (gR r) → V_R10_level (toks.map gT) p n d K)
    (n p d : Nat) (r : Res) (h1 : 1 ≤ n) (h6 : n ≤ 6) (h : R toks (f + 1) (.lev n p d) = some r) (hd : d ≤ 24) (K : GR10_Got → Prop) (hK : K (gR r)) : V_R10_level (toks.map gT) p n d K := by
  refine R10_level_lift _ _ _ _ _ ?_
  rw [R] at h
  refine cond_intro (fun h66 => ?_) fun h66 => ?_
  · have h66 : n = 6 := by have : (n : Int) = 6 := by simpa using h66
                           omega
    rw [if_pos h66] at h
    exact ih1 f (Nat.le_refl _) _ _ _ h hd _ hK
  · have h66 : n ≠ 6 := by
      intro e; subst e; simp at h66
    rw [if_neg h66] at h
    obtain ⟨x0, hx0, hr0⟩ := Option.bind_eq_some_iff.1 h
    have hn1 : IntKind.i64.wrap ((n : Int) + 1) = ((n + 1 : Nat) : Int) := by rw [wrap_in (by omega) (by omega)]; omega
    rw [hn1]
    refine ihl f (Nat.le_refl _) (n + 1) p d x0 (by omega) (by omega) hx0 hd _ ?_
    have hok0 := (R_ok toks f).2.1 _ _ _ _ hx0
    refine ⟨fun L At E _ _ _ n1 => ∃ x, n1 ≤ f ∧ R toks n1 (.loop n 0 d x) = some r ∧ L = x.l.map gN ∧ At = (x.at_ : Int) ∧ E = x.e ∧ (x.e = 0 → x.at_ ≤ toks.length ∧ x.l.length ≤ x.at_), ⟨f, x0, Nat.le_refl _, hr0, rfl, rfl, rfl, fun he => by have := hok0.1 he; omega⟩, ?_⟩
    clear hr0 hok0 hx0
    rintro _ _ _ L1 At1 E1 n1 ⟨x, hf1, hr, rfl, rfl, rfl, hxo⟩
    obtain ⟨g, rfl⟩ : ∃ g, n1 = g + 1 := by
      cases n1 with
      | zero => simp [R] at hr
      | succ g => exact ⟨g, rfl⟩
    rw [R] at hr
    refine cond_intro (fun he => ?_) fun he => ?_
    · have he : x.e = 0 := by simpa using he
      obtain ⟨hxN, hxl⟩ := hxo he
      rw [if_neg (fun c => c he)] at hr
      refine rtokT_v toks x.at_ _ (op_v _ _ ?_)
      have hjoin : ∀ y, join toks x y = ⟨⟨opOf (T toks x.at_).text, [], 0, 2, (T toks x.at_).at_⟩ :: x.l ++ y.l, y.at_, 0⟩ := fun _ => rfl
      have hmine : mine toks x.at_ = if (T toks x.at_).kind = 4 then levO (opOf (T toks x.at_).text) else 0 := rfl
      have hmlt := mine_lt (toks := toks) (p := x.at_)
      have hlv := lev_bd (T toks x.at_).text
      generalize T toks x.at_ = t at hjoin hmine hlv ⊢
      obtain ⟨tk, tx, tn, ta⟩ := t
      dsimp only [gT] at hjoin hmine hlv ⊢
      refine ⟨fun b => b = decide (mine toks x.at_ = 0 ∨ mine toks x.at_ ≠ n), ?_, ?_⟩
      · refine cond_intro (fun h4 => ?_) fun h4 => cond_intro (fun h0 => ?_) fun h0 => ?_
        · have h4 : tk ≠ 4 := by simpa using h4
          show true = _
          rw [hmine, if_neg h4]; simp
        · have h4 : tk = 4 := by simpa using h4
          have h0 : opOf tx = 0 := by simpa using h0
          show true = _
          rw [hmine, if_pos h4]
          rcases hlv with h | h
          · rw [h.2]; simp
          · exact absurd h0 h.1
        · have h4 : tk = 4 := by simpa using h4
          have h0 : opOf tx ≠ 0 := by simpa using h0
          refine level_v _ _ ?_
          show _ = _
          rw [hmine, if_pos h4, Bool.eq_iff_iff]
          simp only [bne_iff_ne, ne_eq, decide_eq_true_eq]
          rcases hlv with h | h
          · exact absurd h.1 h0
          · constructor
            · intro hh; right; intro e; exact hh (by rw [e])
            · rintro (hh | hh)
              · omega
              · intro e; apply hh; omega
      · rintro _ rfl
        refine cond_intro (fun hc => ?_) fun hc => ?_
        · rw [if_pos (of_decide_eq_true hc)] at hr
          cases hr
          exact hK
        · have hc := of_decide_eq_false hc
          rw [if_neg hc] at hr
          simp only [not_or, Classical.not_not] at hc
          have hlt := hmlt hc.1
          obtain ⟨y, hy, hr⟩ := Option.bind_eq_some_iff.1 hr
          have hyk := (R_ok toks g).2.1 _ _ _ _ hy
          have hx1 : IntKind.i64.wrap ((x.at_ : Int) + 1) = ((x.at_ + 1 : Nat) : Int) := by rw [wrap_in (by omega) (by omega)]; omega
          rw [hx1]
          refine ihl g (by omega) (n + 1) _ d y (by omega) (by omega) hy hd _ ?_
          refine cond_intro (fun hye => ?_) fun hye => ?_
          · have hye : y.e ≠ 0 := by simpa [gR] using hye
            rw [if_pos hye] at hr
            cases hr
            exact hK
          · have hye : y.e = 0 := by simpa [gR] using hye
            rw [if_neg (fun c => c hye)] at hr
            have hyk := hyk.1 hye
            refine ⟨by simp only [List.length_cons, List.length_nil, List.length_map]; omega, fun L2 At2 E2 => L2 = (join toks x y).l.map gN ∧ At2 = (y.at_ : Int) ∧ E2 = 0, ⟨by simp only [List.length_cons, List.length_nil, List.length_append, List.length_map, gR]; omega, ?_, rfl, rfl⟩, ?_⟩
            · rw [hjoin]; simp [gR, gN]
            · rintro _ _ _ ⟨rfl, rfl, rfl⟩
              have hja : (join toks x y).at_ = y.at_ := rfl
              have hje : (join toks x y).e = 0 := rfl
              refine cond_intro (fun h3 => ?_) fun h3 => ?_
              · have h3 : n = 3 := by have : (n : Int) = 3 := by simpa using h3
                                      omega
                rw [if_pos h3] at hr
                cases hr
                exact hK
              · have h3 : n ≠ 3 := by
                  intro e; subst e; simp at h3
                rw [if_neg h3] at hr
                refine ⟨g, by omega, join toks x y, by omega, hr, rfl, rfl, rfl, fun _ => ⟨by rw [hja]; omega, ?_⟩⟩
                rw [hja, hjoin]
                simp only [List.cons_append, List.length_cons, List.length_append]
                omega
    · have he : x.e ≠ 0 := by simpa using he
      rw [if_pos he] at hr
      cases hr
      exact hK
theorem rwalk_v : ∀ f, ∀ f1, f1 ≤ f →
    (∀ p d r, R toks f1 (.one p d) = some r → d ≤ 24 → ∀ K : GR10_Got → Prop, K (gR r) → V_R10_one (toks.map gT) p d K) ∧
    (∀ (n : Nat) p d r, 1 ≤ n → n ≤ 6 → R toks f1 (.lev n p d) = some r → d ≤ 24 → ∀ K : GR10_Got → Prop, K (gR r) → V_R10_level (toks.map gT) p n d K) := by
  intro f
  induction f with
  | zero =>
    intro f1 hf
    obtain rfl : f1 = 0 := by omega
    exact ⟨fun _ _ _ h => by simp [R] at h, fun _ _ _ _ _ _ h => by simp [R] at h⟩
  | succ f ih =>
    intro f1 hf
    by_cases hle : f1 ≤ f
    · exact ih f1 hle
    · obtain rfl : f1 = f + 1 := by omega
      refine ⟨fun p d r h hd K hK => ?_, fun n p d r h1 h6 h hd K hK => rlev_s toks hN f (fun f' hf' => (ih f' hf').1) (fun f' hf' => (ih f' hf').2) n p d r h1 h6 h hd K hK⟩
      simp only [R] at h
      exact rone_s toks hN _ _ (ih f (Nat.le_refl _)).1 (fun p d r h hd K hK => (ih f (Nat.le_refl _)).2 1 p d r (by omega) (by omega) h hd K hK) (fun p d r h => (R_ok toks f).1 p d r h) (fun p d r h => (R_ok toks f).2.1 1 p d r h) p d r h hd K hK
theorem rparse_v (at_ : Int) (h0 : 0 ≤ at_) (K : GR10_Got → Prop) (hK : K (gR (parseOf toks at_))) : V_R10_Parse (toks.map gT) at_ K := by
  refine R10_Parse_lift _ _ _ (cond_f (by simp; omega) ?_)
  have hP := parseOf_pos toks at_ (by omega)
  generalize parseOf toks at_ = r at hP hK
  obtain ⟨p, rfl⟩ : ∃ p : Nat, at_ = p := ⟨at_.toNat, by omega⟩
  obtain ⟨g, hg⟩ := (P_R toks _).2.1 1 _ _ _ (by omega) (by omega) hP
  exact (rwalk_v toks hN g g (Nat.le_refl _)).2 1 p 0 r (by omega) (by omega) hg (by omega) _ hK
end
theorem el_toks {m : List Nat} {w : World} : ∀ {l : List GToken} {xs : List Value}, El cGToken m w l xs → xs = flat tokC (l.map tT)
  | [], xs, ⟨css, h, ha⟩ => by
    cases css with
    | nil => rw [h]; rfl
    | cons a b => exact ha.elim
  | t :: l, xs, ⟨css, h, ha⟩ => by
    cases css with
    | nil => exact ha.elim
    | cons a b =>
      have h1 := GToken_out ha.1
      have h2 := el_toks (l := l) ⟨b, rfl, ha.2⟩
      rw [h, List.flatten_cons, h2, h1]
      rfl
theorem sl_toks {m : List Nat} {w : World} {a : Option Addr} {l : List GToken} (h : SlR cGToken m w a l) : SlAt w a (flat tokC (l.map tT)) := by
  rcases h with rfl | ⟨p, xs, rfl, _, hc, he⟩
  · cases a with
    | none => rfl
    | some p => intro i hi; exact absurd hi (Nat.not_lt_zero _)
  · rw [← el_toks he]; exact hc
theorem el_nds (m : List Nat) (w : World) : ∀ (l : List Nd), El cGNode m w (l.map gN) (flat ndC l)
  | [] => El.nil _ _ _
  | x :: l => by
    have : flat ndC (x :: l) = ndC x ++ flat ndC l := by simp [flat]
    rw [this]
    exact El.cons (GNode_in (gN x)) (el_nds m w l)
theorem sl_nds {m : List Nat} {w w' : World} {a : Option Addr} {l : List Nd} (h : SlAt w' a (flat ndC l)) (hf : ∀ k, blk a = some k → w.heap.size ≤ k) (hm : ∀ b ∈ m, b < w.heap.size) : SlR cGNode m w' a (l.map gN) := by
  cases a with
  | none =>
    left
    cases l with
    | nil => rfl
    | cons x l => simp [SlAt, flat, ndC] at h
  | some p =>
    refine .inr ⟨p, _, rfl, fun hp => ?_, h, el_nds _ _ _⟩
    have h1 := hm _ hp
    have h2 := hf p.block rfl
    omega
theorem parse_v (toks : List GToken) (hN : toks.length < 2 ^ 30) (at_ : Int) (K : List GNode → Int → Int → Prop) (hK : K ((parseOf (toks.map tT) at_).l.map gN) (parseOf (toks.map tT) at_).at_ (parseOf (toks.map tT) at_).e) : V_term_Parse toks at_ K := by
  intro m w hm ta tc htc hs
  have := Parse_F (toks.map tT) (by rw [List.length_map]; exact hN) ta tc at_ w (sl_toks hs)
  rw [List.length_map] at this
  refine this.mono (ret_mono ?_)
  rintro _ w' ⟨a, c, rfl, ⟨hf, hc⟩, hsl, he⟩
  refine ⟨_, _, _, hK, ⟨a, c, ?_, by rw [List.length_map]; exact hc, sl_nds hsl hf hm.lt⟩, Keep.ofExt he⟩
  rw [List.length_map]
theorem one_bd {toks : List Tok} {r1 rl : Nat → Nat → Option Res} (h1 : ∀ p d r, r1 p d = some r → p ≤ toks.length → p ≤ r.at_ ∧ r.at_ ≤ toks.length) (hl : ∀ p d r, rl p d = some r → p ≤ toks.length → p ≤ r.at_ ∧ r.at_ ≤ toks.length) {p d : Nat} {r : Res}
    (h : oneStep toks r1 rl p d = some r) (hp : p ≤ toks.length) : p ≤ r.at_ ∧ r.at_ ≤ toks.length := by
  unfold oneStep at h
  split at h
  · rename_i c
    have := T_lt (toks := toks) (p := p) (by rw [c]; decide)
    cases h; exact ⟨by simp, by simp; omega⟩
  split at h
  · rename_i c
    have := T_lt (toks := toks) (p := p) (by rw [c]; decide)
    cases h; exact ⟨by simp, by simp; omega⟩
  split at h
  · rename_i c
    have := T_lt (toks := toks) (p := p) (by rw [c.1]; decide)
    split at h
    · cases h; exact ⟨Nat.le_refl _, hp⟩
    · obtain ⟨x, hx, rfl⟩ := Option.map_eq_some_iff.1 h
      have hk := h1 _ _ _ hx (by omega)
      split
      · exact ⟨by dsimp only; omega, by dsimp only; omega⟩
      · exact ⟨by omega, by omega⟩
  split at h
  · rename_i c
    have := T_lt (toks := toks) (p := p) (by rw [c.1]; decide)
    split at h
    · cases h; exact ⟨Nat.le_refl _, hp⟩
    · obtain ⟨x, hx, rfl⟩ := Option.map_eq_some_iff.1 h
      have hk := hl _ _ _ hx (by omega)
      split
      · exact ⟨by omega, by omega⟩
      · split
        · rename_i c
          have := T_lt (toks := toks) (p := x.at_) (by rw [c.1]; decide)
          exact ⟨by dsimp only; omega, by dsimp only; omega⟩
        · exact ⟨by dsimp only; omega, by dsimp only; omega⟩
  · cases h; exact ⟨Nat.le_refl _, hp⟩
theorem P_bd (toks : List Tok) : ∀ (f : Nat), (∀ p d r, P toks f (.one p d) = some r → p ≤ toks.length → p ≤ r.at_ ∧ r.at_ ≤ toks.length) ∧ (∀ n p d r, P toks f (.lev n p d) = some r → p ≤ toks.length → p ≤ r.at_ ∧ r.at_ ≤ toks.length) ∧
    (∀ n m d x r, P toks f (.loop n m d x) = some r → x.at_ ≤ toks.length → x.at_ ≤ r.at_ ∧ r.at_ ≤ toks.length) := by
  intro f
  induction f with
  | zero => exact ⟨fun _ _ _ h => by simp [P] at h, fun _ _ _ _ h => by simp [P] at h, fun _ _ _ _ _ h => by simp [P] at h⟩
  | succ f ih =>
    obtain ⟨ih1, ih2, ih3⟩ := ih
    refine ⟨fun p d r h hp => ?_, fun n p d r h hp => ?_, fun n m d x r h hp => ?_⟩
    · simp only [P] at h
      exact one_bd (fun p d r h => ih1 p d r h) (fun p d r h => ih2 1 p d r h) h hp
    · rw [P] at h
      obtain ⟨x, hx, hr⟩ := Option.bind_eq_some_iff.1 h
      have h1 := ih1 _ _ _ hx hp
      have h2 := ih3 _ _ _ _ _ hr h1.2
      omega
    · rw [P] at h
      split at h
      · cases h; exact ⟨Nat.le_refl _, hp⟩
      split at h
      · cases h; exact ⟨Nat.le_refl _, hp⟩
      · rename_i c
        obtain ⟨y, hy, hr⟩ := Option.bind_eq_some_iff.1 h
        have := mine_lt (toks := toks) (p := x.at_) (fun e => c (.inl e))
        have h1 := ih2 _ _ _ _ hy (by omega)
        split at hr
        · cases hr; omega
        · have h2 := ih3 _ _ _ _ _ hr h1.2
          have : (join toks x y).at_ = y.at_ := rfl
          omega
def TM : TermC where
  T toks at_ := ((parseOf (toks.map tT) at_).l.map gN, ((parseOf (toks.map tT) at_).at_ : Int), (parseOf (toks.map tT) at_).e)
  lo toks at_ h0 h1 := by
    have := ((P_bd (toks.map tT) _).2.1 _ _ _ _ (parseOf_pos (toks.map tT) at_ (by omega)) (by rw [List.length_map]; omega)).1
    dsimp only; omega
  hi toks at_ h0 h1 := by
    have := ((P_bd (toks.map tT) _).2.1 _ _ _ _ (parseOf_pos (toks.map tT) at_ (by omega)) (by rw [List.length_map]; omega)).2
    rw [List.length_map] at this
    dsimp only; omega
  len toks at_ h0 h1 := by
    have hb := ((P_bd (toks.map tT) _).2.1 _ _ _ _ (parseOf_pos (toks.map tT) at_ (by omega)) (by rw [List.length_map]; omega)).1
    have hk := (P_ok (toks.map tT) _).2.1 _ _ _ _ (parseOf_pos (toks.map tT) at_ (by omega))
    dsimp only
    rw [List.length_map]
    by_cases he : (parseOf (toks.map tT) at_).e = 0
    · have := (hk.1 he).2.2
      omega
    · rw [hk.2 he]
      simp only [List.length_nil]
      omega
  pv toks hN at_ _ _ K hK := parse_v toks (by omega) at_ K hK
  rv toks hN at_ h0 _ K hK := by
    have := rparse_v (toks.map tT) (by rw [List.length_map]; omega) at_ h0 K hK
    rwa [gT_map] at this
end Go.Proofs.Ytdbdkdmgfiiljaa
namespace Go.Proofs.Ytdbdkdmgfiiljaa
open Go.Vc Go.Lv Go.Ty Go.Tk Go.Tm
theorem allFrom_ok (s : List UInt8) : ∀ (f k : Nat) (acc : List Tok), k ≤ s.length → s.length < f + k → (allFrom s f k acc).2.2 = 0 → (allFrom s f k acc).1 ≠ [] ∧ (allFrom s f k acc).1.length ≤ acc.length + f
  | 0, k, acc, hk, hf, _ => by omega
  | f + 1, k, acc, hk, hf, h => by
    unfold allFrom at h ⊢
    have hadv := nextS_adv s k hk
    split at h
    · rename_i he; exact absurd h he
    · rename_i he
      have he : (nextS s k).2.2 = 0 := Classical.not_not.1 he
      rw [if_neg (by rw [he]; simp)]
      split at h
      · rename_i hk0
        rw [if_pos hk0]
        exact ⟨by simp, by simp⟩
      · rename_i hk0
        rw [if_neg hk0]
        obtain ⟨h1, h2⟩ := hadv he hk0
        have := allFrom_ok s f (nextS s k).2.1 (acc ++ [(nextS s k).1]) h2 (by omega) h
        refine ⟨this.1, ?_⟩
        have h3 := this.2
        simp only [List.length_append, List.length_cons, List.length_nil] at h3
        omega
theorem allS_ok (s : List UInt8) (h : (allS s).2.2 = 0) : (allS s).1 ≠ [] ∧ (allS s).1.length ≤ 65537 := by
  unfold allS at h ⊢
  split at h
  · cases h
  · rename_i hl
    rw [if_neg hl]
    have := allFrom_ok s (s.length + 1) 0 [] (Nat.zero_le _) (by omega) h
    refine ⟨this.1, ?_⟩
    have h2 := this.2
    simp only [List.length_nil] at h2
    omega
def toksF (s : List UInt8) : List GToken := (allS s).1.map gT
def lastI (toks : List GToken) (a : Int) : Int := if (toks.length : Int) - 1 < a then (toks.length : Int) - 1 else a
def atF (toks : List GToken) (a : Int) : Int := ((toks[(lastI toks a).toNat]?).getD ⟨0, [], 0, 0⟩).at_
def textF (s : List UInt8) : GR10_Got :=
  if (allS s).2.2 ≠ 0 then ⟨[], (allS s).2.1, (allS s).2.2⟩
  else if (unitF TM (toksF s)).e_ ≠ 0 then ⟨[], atF (toksF s) (unitF TM (toksF s)).at_, (unitF TM (toksF s)).e_⟩
  else ⟨(unitF TM (toksF s)).l, 0, 0⟩
theorem unit_at (M : TermC) (toks : List GToken) : 0 ≤ (unitF M toks).at_ ∧ (unitF M toks).at_ ≤ (toks.length : Int) := by
  have := cw_unit (toks := toks) M
  unfold unitF
  split
  · exact ⟨this.z1, this.hi⟩
  · exact ⟨Int.le_refl _, by dsimp only; omega⟩
theorem last_bd {toks : List GToken} {a : Int} (h : toks ≠ []) (h0 : 0 ≤ a) (P : Int → Prop) (hP : P (atF toks a)) (hN : toks.length < 1000000) :
    ((0 : Int) ≤ (if (IntKind.i64.wrap ((toks.length : Int) - 1)) < a then IntKind.i64.wrap ((toks.length : Int) - 1) else a) ∧ (if (IntKind.i64.wrap ((toks.length : Int) - 1)) < a then IntKind.i64.wrap ((toks.length : Int) - 1) else a) < (toks.length : Int)) ∧
    ∀ x, toks[(if (IntKind.i64.wrap ((toks.length : Int) - 1)) < a then IntKind.i64.wrap ((toks.length : Int) - 1) else a).toNat]? = some x → P x.at_ := by
  have hl := List.length_pos_iff.2 h
  have hw : IntKind.i64.wrap ((toks.length : Int) - 1) = (toks.length : Int) - 1 := wrap_in (by omega) (by omega)
  rw [hw]
  unfold atF lastI at hP
  refine ⟨by split <;> omega, fun x hx => ?_⟩
  rw [hx] at hP
  exact hP
theorem text_v (s : List UInt8) (K : List GNode → Int → Int → Prop) (h : K (textF s).l (textF s).at_ (textF s).e_) : V_parse_Text s K := by
  refine parse_Text_lift _ _ (all_v s _ ?_)
  unfold textF at h
  refine cond_intro (fun he => ?_) fun he => ?_
  · rw [if_pos (by simpa using he)] at h; exact h
  · have he : (allS s).2.2 = 0 := by simpa using he
    rw [if_neg (fun c => c he)] at h
    obtain ⟨hne, hlen⟩ := allS_ok s he
    have hN : (toksF s).length < 1000000 := by unfold toksF; rw [List.length_map]; omega
    have hne : toksF s ≠ [] := by unfold toksF; simpa using hne
    show V_parse_Unit (toksF s) _
    refine unit_s TM hN _ ?_
    refine cond_intro (fun hu => ?_) fun hu => ?_
    · rw [if_pos (by simpa using hu)] at h
      exact last_bd hne (unit_at TM _).1 (fun a => K [] a (unitF TM (toksF s)).e_) h hN
    · rw [if_neg (fun c => c (by simpa using hu))] at h; exact h
def txA : List UInt8 := [109, 97, 105, 110, 32, 123, 32, 125]
def txB : List UInt8 := [109, 97, 105, 110, 32, 123, 32, 99, 32, 33, 32, 59, 32, 125]
theorem txA_is : textF txA = ⟨[⟨42, [], 0, 1, 0⟩, ⟨41, [], 0, 1, 0⟩, ⟨32, [], 0, 0, 5⟩], 0, 0⟩ := by kernel_rfl
theorem txB_is : textF txB = ⟨[], 11, 11⟩ := by kernel_rfl
theorem live_v (K : Bool → Prop) (h : K true) : V_L11_live K := by
  refine L11_live_lift _ (text_v txA _ (text_v txB _ ?_))
  rw [txA_is, txB_is]
  refine cond_t rfl ⟨⟨by decide, by decide⟩, fun x hx => ?_⟩
  cases hx
  exact cond_t rfl (cond_t rfl (cond_t rfl (cond_t rfl h)))
end Go.Proofs.Ytdbdkdmgfiiljaa
namespace Go.Proofs.Ytdbdkdmgfiiljaa
open Go.Vc Go.Lv Go.Ty Go.Tk Go.Tm
def cIf : List UInt8 := [32, 105, 102, 32, 49, 32, 123]
def cWh : List UInt8 := [32, 119, 104, 105, 108, 101, 32, 50, 32, 123, 32, 125]
def cCl : List UInt8 := [32, 125]
def reps (n : Nat) (v : List UInt8) : List UInt8 := (List.replicate n v).flatten
theorem reps_cons (n : Nat) (v : List UInt8) : reps (n + 1) v = v ++ reps n v := by simp [reps, List.replicate_succ]
theorem reps_snoc (n : Nat) (v : List UInt8) : reps (n + 1) v = reps n v ++ v := by unfold reps; rw [List.replicate_succ']; simp
theorem reps_len (n : Nat) (v : List UInt8) : (reps n v).length = n * v.length := by
  induction n with
  | zero => simp [reps]
  | succ n ih => rw [reps_cons, List.length_append, ih, Nat.succ_mul]; omega
def deepT (n : Nat) (last : Bool) : List UInt8 := [109, 97, 105, 110, 32, 123] ++ (reps n cIf ++ ((if last then cWh else []) ++ reps (n + 1) cCl))
theorem next_sp {s : List UInt8} {a : Nat} {v u : List UInt8} {bl : Bool} (ha : a ≤ s.length) (h : s.drop a = (if bl then [32] else []) ++ (v ++ u)) (hb : blankN false (v ++ u) = 0) : nextS s a = tokAt (v ++ u) (a + (if bl then 1 else 0)) := by
  unfold nextS
  rw [if_neg (by omega), Int.toNat_natCast]
  have hbn : blankN false (s.drop a) = if bl then 1 else 0 := by
    rw [h]
    cases bl with
    | false => exact hb
    | true =>
      show blankN false (32 :: (v ++ u)) = 1
      unfold blankN
      simp [hb]
  rw [hbn, ← List.drop_drop, h]
  cases bl <;> rfl
theorem lex_one {s : List UInt8} {a f : Nat} {v u : List UInt8} {bl : Bool} {acc : List Tok} {t : Tok} (h : s.drop a = (if bl then [32] else []) ++ (v ++ u)) (hv : v ≠ []) (hb : blankN false (v ++ u) = 0)
    (ht : tokAt (v ++ u) (a + (if bl then 1 else 0)) = (t, a + (if bl then 1 else 0) + v.length, 0)) (hk : t.kind ≠ 0) :
    allFrom s (f + 1) a acc = allFrom s f (a + (if bl then 1 else 0) + v.length) (acc ++ [t]) ∧ s.drop (a + (if bl then 1 else 0) + v.length) = u ∧ a + (if bl then 1 else 0) + v.length ≤ s.length := by
  have hl := congrArg List.length h
  have hvl := List.length_pos_iff.2 hv
  have hbl : (if bl = true then [(32 : UInt8)] else []).length = if bl then 1 else 0 := by cases bl <;> rfl
  simp only [List.length_drop, List.length_append, hbl] at hl
  refine ⟨?_, ?_, by omega⟩
  · rw [allFrom, next_sp (by omega) h hb, ht]
    simp [hk]
  · rw [← List.drop_drop, ← List.drop_drop, h]
    cases bl <;> simp
theorem tk_sign (c : UInt8) (hc : c = 123 ∨ c = 125) (u : List UInt8) (p : Nat) : tokAt ([c] ++ u) p = (⟨4, [c], 0, p⟩, p + 1, 0) := by
  show tokAt (c :: u) p = _
  rw [tokAt_cons]
  rcases hc with rfl | rfl
  · have : signOf (123 :: u) = [123] := by
      unfold signOf
      have : signs2.find? (hasPre · (123 :: u)) = none := by simp [signs2, hasPre]
      rw [this]; rfl
    rw [this]; rfl
  · have : signOf (125 :: u) = [125] := by
      unfold signOf
      have : signs2.find? (hasPre · (125 :: u)) = none := by simp [signs2, hasPre]
      rw [this]; rfl
    rw [this]; rfl
theorem tk_main (u : List UInt8) (p : Nat) : tokAt ([109, 97, 105, 110] ++ (32 :: u)) p = (⟨3, [109, 97, 105, 110], 0, p⟩, p + 4, 0) := by
  show tokAt (109 :: 97 :: 105 :: 110 :: 32 :: u) p = _
  rw [tokAt_cons]; rfl
theorem tk_if (u : List UInt8) (p : Nat) : tokAt ([105, 102] ++ (32 :: u)) p = (⟨3, [105, 102], 0, p⟩, p + 2, 0) := by
  show tokAt (105 :: 102 :: 32 :: u) p = _
  rw [tokAt_cons]; rfl
theorem tk_while (u : List UInt8) (p : Nat) : tokAt ([119, 104, 105, 108, 101] ++ (32 :: u)) p = (⟨3, [119, 104, 105, 108, 101], 0, p⟩, p + 5, 0) := by
  show tokAt (119 :: 104 :: 105 :: 108 :: 101 :: 32 :: u) p = _
  rw [tokAt_cons]; rfl
theorem tk_1 (u : List UInt8) (p : Nat) : tokAt ([49] ++ (32 :: u)) p = (⟨2, [49], 1, p⟩, p + 1, 0) := by
  show tokAt (49 :: 32 :: u) p = _
  rw [tokAt_cons]; rfl
theorem tk_2 (u : List UInt8) (p : Nat) : tokAt ([50] ++ (32 :: u)) p = (⟨2, [50], 2, p⟩, p + 1, 0) := by
  show tokAt (50 :: 32 :: u) p = _
  rw [tokAt_cons]; rfl
theorem k2 : (2 : Int) ≠ 0 := by decide
theorem k3 : (3 : Int) ≠ 0 := by decide
theorem k4 : (4 : Int) ≠ 0 := by decide
def ifT (a : Nat) : List Tok := [⟨3, [105, 102], 0, (a + 1 : Nat)⟩, ⟨2, [49], 1, (a + 4 : Nat)⟩, ⟨4, [123], 0, (a + 6 : Nat)⟩]
def nT : Nat → Nat → List Tok
  | _, 0 => []
  | a, j + 1 => ifT a ++ nT (a + 7) j
def clT : Nat → Nat → List Tok
  | _, 0 => []
  | a, j + 1 => [⟨4, [125], 0, (a + 1 : Nat)⟩] ++ clT (a + 2) j
def whT (a : Nat) : List Tok := [⟨3, [119, 104, 105, 108, 101], 0, (a + 1 : Nat)⟩, ⟨2, [50], 2, (a + 7 : Nat)⟩, ⟨4, [123], 0, (a + 9 : Nat)⟩, ⟨4, [125], 0, (a + 11 : Nat)⟩]
theorem lex_if {s : List UInt8} {a f : Nat} {u : List UInt8} {acc : List Tok} (h : s.drop a = cIf ++ u) :
    allFrom s (f + 3) a acc = allFrom s f (a + 7) (acc ++ ifT a) ∧ s.drop (a + 7) = u ∧ a + 7 ≤ s.length := by
  obtain ⟨e1, d1, _⟩ := lex_one (f := f + 2) (acc := acc) (bl := true) (v := [105, 102]) (u := [32, 49, 32, 123] ++ u) h (by simp) rfl (tk_if ([49, 32, 123] ++ u) (a + 1)) k3
  obtain ⟨e2, d2, _⟩ := lex_one (f := f + 1) (acc := acc ++ [⟨3, [105, 102], 0, (a + 1 : Nat)⟩]) (bl := true) (v := [49]) (u := [32, 123] ++ u) d1 (by simp) rfl (tk_1 ([123] ++ u) _) k2
  obtain ⟨e3, d3, l3⟩ := lex_one (f := f) (acc := acc ++ [⟨3, [105, 102], 0, (a + 1 : Nat)⟩] ++ [⟨2, [49], 1, (a + 4 : Nat)⟩]) (bl := true) (v := [123]) (u := u) d2 (by simp) rfl (tk_sign 123 (.inl rfl) u _) k4
  refine ⟨?_, d3, l3⟩
  rw [e1]
  refine e2.trans (e3.trans ?_)
  congr 1
  simp [ifT]
  omega
theorem lex_ifs {s : List UInt8} : ∀ (j f a : Nat) (u : List UInt8) (acc : List Tok), a ≤ s.length → s.drop a = reps j cIf ++ u →
    allFrom s (3 * j + f) a acc = allFrom s f (a + 7 * j) (acc ++ nT a j) ∧ s.drop (a + 7 * j) = u ∧ a + 7 * j ≤ s.length
  | 0, f, a, u, acc, ha, h => ⟨by simp [nT], h, ha⟩
  | j + 1, f, a, u, acc, _, h => by
    rw [reps_cons, List.append_assoc] at h
    obtain ⟨e1, d1, l1⟩ := lex_if (f := 3 * j + f) (acc := acc) h
    obtain ⟨e2, d2, l2⟩ := lex_ifs j f (a + 7) u (acc ++ ifT a) l1 d1
    refine ⟨?_, ?_, by omega⟩
    · rw [show 3 * (j + 1) + f = 3 * j + f + 3 by omega, e1, e2]
      congr 1
      · omega
      · simp [nT]
    · rw [← d2]; congr 1; omega
theorem lex_cls {s : List UInt8} : ∀ (j f a : Nat) (u : List UInt8) (acc : List Tok), a ≤ s.length → s.drop a = reps j cCl ++ u →
    allFrom s (j + f) a acc = allFrom s f (a + 2 * j) (acc ++ clT a j) ∧ s.drop (a + 2 * j) = u ∧ a + 2 * j ≤ s.length
  | 0, f, a, u, acc, ha, h => ⟨by simp [clT], h, ha⟩
  | j + 1, f, a, u, acc, _, h => by
    rw [reps_cons, List.append_assoc] at h
    obtain ⟨e1, d1, l1⟩ := lex_one (f := j + f) (acc := acc) (bl := true) (v := [125]) (u := reps j cCl ++ u) h (by simp) rfl (tk_sign 125 (.inr rfl) _ _) k4
    obtain ⟨e2, d2, l2⟩ := lex_cls j f (a + 2) u (acc ++ [⟨4, [125], 0, (a + 1 : Nat)⟩]) l1 d1
    refine ⟨?_, ?_, by omega⟩
    · rw [show j + 1 + f = j + f + 1 by omega]
      refine e1.trans (e2.trans ?_)
      congr 1
      · omega
      · simp [clT]
    · rw [← d2]; congr 1; omega
theorem lex_wh {s : List UInt8} {a f : Nat} {u : List UInt8} {acc : List Tok} (h : s.drop a = cWh ++ u) :
    allFrom s (f + 4) a acc = allFrom s f (a + 12) (acc ++ whT a) ∧ s.drop (a + 12) = u ∧ a + 12 ≤ s.length := by
  obtain ⟨e1, d1, _⟩ := lex_one (f := f + 3) (acc := acc) (bl := true) (v := [119, 104, 105, 108, 101]) (u := [32, 50, 32, 123, 32, 125] ++ u) h (by simp) rfl (tk_while ([50, 32, 123, 32, 125] ++ u) (a + 1)) k3
  obtain ⟨e2, d2, _⟩ := lex_one (f := f + 2) (acc := acc ++ [⟨3, [119, 104, 105, 108, 101], 0, (a + 1 : Nat)⟩]) (bl := true) (v := [50]) (u := [32, 123, 32, 125] ++ u) d1 (by simp) rfl (tk_2 ([123, 32, 125] ++ u) _) k2
  obtain ⟨e3, d3, _⟩ := lex_one (f := f + 1) (acc := acc ++ [⟨3, [119, 104, 105, 108, 101], 0, (a + 1 : Nat)⟩] ++ [⟨2, [50], 2, (a + 7 : Nat)⟩]) (bl := true) (v := [123]) (u := [32, 125] ++ u) d2 (by simp) rfl (tk_sign 123 (.inl rfl) _ _) k4
  obtain ⟨e4, d4, l4⟩ := lex_one (f := f) (acc := acc ++ [⟨3, [119, 104, 105, 108, 101], 0, (a + 1 : Nat)⟩] ++ [⟨2, [50], 2, (a + 7 : Nat)⟩] ++ [⟨4, [123], 0, (a + 9 : Nat)⟩]) (bl := true) (v := [125]) (u := u) d3 (by simp) rfl (tk_sign 125 (.inr rfl) u _) k4
  refine ⟨?_, d4, l4⟩
  rw [e1]
  refine e2.trans (e3.trans (e4.trans ?_))
  congr 1
  simp [whT]
  omega
theorem deepT_len (n : Nat) (last : Bool) : (deepT n last).length = 6 + (n * 7 + ((if last then 12 else 0) + (n + 1) * 2)) := by
  unfold deepT
  simp only [List.length_append, reps_len]
  cases last <;> rfl
def headT : List Tok := [⟨3, [109, 97, 105, 110], 0, 0⟩, ⟨4, [123], 0, 5⟩]
theorem all_deepT (n : Nat) (last : Bool) (hn : n ≤ 255) : (allS (deepT n last)).2.2 = 0 ∧ ∃ tl, (allS (deepT n last)).1 = headT ++ (nT 6 n ++ tl) := by
  have hlen := deepT_len n last
  unfold allS
  rw [if_neg (by rw [hlen]; split <;> omega)]
  generalize hf : (deepT n last).length + 1 = F
  obtain ⟨r, hr⟩ : ∃ r, F = 3 * n + ((if last then 4 else 0) + ((n + 1) + (r + 1))) + 2 := ⟨F - (3 * n + ((if last then 4 else 0) + ((n + 1) + 1)) + 2), by rw [← hf, hlen]; split <;> omega⟩
  rw [hr]
  obtain ⟨e1, d1, _⟩ := lex_one (s := deepT n last) (a := 0) (f := 3 * n + ((if last then 4 else 0) + ((n + 1) + (r + 1))) + 1) (acc := []) (bl := false) (v := [109, 97, 105, 110]) (u := [32, 123] ++ (reps n cIf ++ ((if last then cWh else []) ++ reps (n + 1) cCl))) rfl (by simp) rfl (tk_main _ 0) k3
  obtain ⟨e2, d2, l2⟩ := lex_one (s := deepT n last) (a := 4) (f := 3 * n + ((if last then 4 else 0) + ((n + 1) + (r + 1)))) (acc := [] ++ [⟨3, [109, 97, 105, 110], 0, 0⟩]) (bl := true) (v := [123]) (u := (reps n cIf ++ ((if last then cWh else []) ++ reps (n + 1) cCl))) d1 (by simp) rfl (tk_sign 123 (.inl rfl) _ _) k4
  obtain ⟨e3, d3, l3⟩ := lex_ifs n ((if last then 4 else 0) + ((n + 1) + (r + 1))) 6 _ headT l2 d2
  have e123 : allFrom (deepT n last) (3 * n + ((if last then 4 else 0) + ((n + 1) + (r + 1))) + 2) 0 [] = allFrom (deepT n last) ((if last then 4 else 0) + ((n + 1) + (r + 1))) (6 + 7 * n) (headT ++ nT 6 n) := e1.trans (e2.trans e3)
  rw [e123]
  have fin : ∀ a acc, a ≤ (deepT n last).length → (deepT n last).drop a = reps (n + 1) cCl → (allFrom (deepT n last) ((n + 1) + (r + 1)) a (headT ++ nT 6 n ++ acc)).2.2 = 0 ∧ ∃ tl, (allFrom (deepT n last) ((n + 1) + (r + 1)) a (headT ++ nT 6 n ++ acc)).1 = headT ++ (nT 6 n ++ tl) := by
    intro a acc ha hd
    obtain ⟨e5, d5, l5⟩ := lex_cls (n + 1) (r + 1) a [] (headT ++ nT 6 n ++ acc) ha (by rw [hd]; simp)
    rw [e5]
    have hn5 : nextS (deepT n last) ((a + 2 * (n + 1) : Nat) : Int) = (⟨0, [], 0, ((a + 2 * (n + 1) : Nat) : Int)⟩, a + 2 * (n + 1), 0) := by
      unfold nextS
      rw [if_neg (by omega), Int.toNat_natCast, d5]
      have : blankN false ([] : List UInt8) = 0 := rfl
      rw [this, Nat.add_zero, d5]; rfl
    rw [allFrom, hn5]
    exact ⟨rfl, acc ++ clT a (n + 1) ++ [⟨0, [], 0, ((a + 2 * (n + 1) : Nat) : Int)⟩], by simp⟩
  cases last with
  | false =>
    have := fin (6 + 7 * n) [] l3 (by rw [d3]; rfl)
    simpa using this
  | true =>
    obtain ⟨e4, d4, l4⟩ := lex_wh (f := (n + 1) + (r + 1)) (acc := headT ++ nT 6 n) (a := 6 + 7 * n) (s := deepT n true) (u := reps (n + 1) cCl) (by rw [d3]; rfl)
    have := fin (6 + 7 * n + 12) (whT (6 + 7 * n)) l4 d4
    rw [show (if true = true then 4 else 0) + (n + 1 + (r + 1)) = n + 1 + (r + 1) + 4 by simp; omega, e4]
    exact this
theorem nT_get : ∀ (i a n : Nat), i < n → (nT a n)[3 * i]? = some ⟨3, [105, 102], 0, (a + 7 * i + 1 : Nat)⟩ ∧ (nT a n)[3 * i + 1]? = some ⟨2, [49], 1, (a + 7 * i + 4 : Nat)⟩ ∧ (nT a n)[3 * i + 2]? = some ⟨4, [123], 0, (a + 7 * i + 6 : Nat)⟩
  | 0, a, n + 1, _ => ⟨rfl, rfl, rfl⟩
  | i + 1, a, n + 1, h => by
    have ih := nT_get i (a + 7) n (by omega)
    have e : ∀ k, (nT a (n + 1))[k + 3]? = (nT (a + 7) n)[k]? := fun k => rfl
    rw [show 3 * (i + 1) = 3 * i + 3 by omega, show 3 * i + 3 + 1 = 3 * i + 1 + 3 by omega, show 3 * i + 3 + 2 = 3 * i + 2 + 3 by omega, e, e, e, show a + 7 * (i + 1) = a + 7 + 7 * i by omega]
    exact ih
theorem tokF_get {toks : List GToken} {p : Nat} {t : GToken} (h : toks[p]? = some t) : tokF toks (p : Int) = t := by
  have := (List.getElem?_eq_some_iff.1 h).1
  unfold tokF
  rw [if_pos (by omega), Int.toNat_natCast, h]; rfl
theorem num_T (toks : List GToken) (p : Nat) (h2 : (tokF toks p).kind = 2) (h4 : (tokF toks ((p : Int) + 1)).text = sLB) : (TM.T toks p).2.1 = (p : Int) + 1 ∧ (TM.T toks p).2.2 = 0 := by
  have hlt := kind_lt (toks := toks) (at_ := p) (by rw [h2]; decide)
  have e1 : gT (T (toks.map tT) p) = tokF toks p := by rw [← tok_T, gT_map]
  have e2 : gT (T (toks.map tT) (p + 1)) = tokF toks ((p : Int) + 1) := by rw [← tok_T, gT_map]; rfl
  have k1 : (T (toks.map tT) p).kind = 2 := by have := congrArg GToken.kind e1; rw [h2] at this; exact this
  have x2 : (T (toks.map tT) (p + 1)).text = sLB := by have := congrArg GToken.text e2; rw [h4] at this; exact this
  have hm : mine (toks.map tT) (p + 1) = 0 := by
    unfold mine
    split
    · rw [x2]; rfl
    · rfl
  have hP := parseOf_pos (toks.map tT) p (by omega)
  rw [Int.toNat_natCast, List.length_map, show 3 * (toks.length - p) + 2 = (3 * (toks.length - p) - 1) + 1 + 1 + 1 by omega, P, P] at hP
  unfold oneStep at hP
  rw [if_pos k1] at hP
  dsimp only [Option.bind] at hP
  rw [P] at hP
  dsimp only at hP
  rw [if_neg (by simp), if_pos (.inl hm)] at hP
  have hP := Option.some.inj hP
  show ((parseOf (toks.map tT) p).at_ : Int) = _ ∧ (parseOf (toks.map tT) p).e = 0
  rw [← hP]
  exact ⟨by simp, rfl⟩
structure Pre (toks : List GToken) (i k : Nat) : Prop where
  br : ∀ j, j ≤ k → (tokF toks ((i + 3 * j : Nat) : Int)).kind = 4 ∧ (tokF toks ((i + 3 * j : Nat) : Int)).text = sLB
  iff_ : ∀ j, j < k → (tokF toks ((i + 3 * j + 1 : Nat) : Int)).kind = 3 ∧ (tokF toks ((i + 3 * j + 1 : Nat) : Int)).text = sIf
  num : ∀ j, j < k → (tokF toks ((i + 3 * j + 2 : Nat) : Int)).kind = 2
theorem isF_of {toks : List GToken} {p : Int} {s : Str} (hk : (tokF toks p).kind = 3 ∨ (tokF toks p).kind = 4) (h : (tokF toks p).text = s) : isF toks p s = true := by
  unfold isF
  rcases hk with e | e <;> simp [e, h]
theorem isF_no {toks : List GToken} {p : Int} {s : Str} (h : (tokF toks p).text ≠ s) : isF toks p s = false := by
  unfold isF
  simp [h]
theorem eat_at {toks : List GToken} {p : Int} {s : Str} (h : isF toks p s = true) : eatC toks s (fromC p) = ⟨[], 0, p + 1, 0⟩ := by
  unfold eatC fromC
  dsimp only
  rw [if_pos rfl, if_pos h]
theorem deepA (toks : List GToken) : ∀ (k i : Nat), Pre toks i k → (blkF TM toks k (i : Int)).e_ = 5 ∧ (blkF TM toks k (i : Int)).at_ = ((i + 3 * k : Nat) : Int)
  | 0, i, h => by
    have h0 := h.br 0 (Nat.le_refl _)
    rw [Nat.mul_zero, Nat.add_zero] at h0 ⊢
    unfold blkF
    rw [if_pos (isF_of (.inr h0.1) h0.2)]
    exact ⟨rfl, rfl⟩
  | k + 1, i, h => by
    have h0 := h.br 0 (Nat.zero_le _)
    rw [Nat.mul_zero, Nat.add_zero] at h0
    have h1 := h.iff_ 0 (Nat.zero_lt_succ _)
    have h2 := h.num 0 (Nat.zero_lt_succ _)
    have h3 := h.br 1 (by omega)
    have c1 : ((i + 3 * 0 + 1 : Nat) : Int) = (i : Int) + 1 := by omega
    have c2 : ((i + 3 * 0 + 2 : Nat) : Int) = ((i + 2 : Nat) : Int) := by omega
    have c3 : ((i + 3 * 1 : Nat) : Int) = ((i + 2 : Nat) : Int) + 1 := by omega
    rw [c1] at h1
    rw [c2] at h2
    rw [c3] at h3
    obtain ⟨ih1, ih2⟩ := deepA toks k (i + 3) ⟨fun j hj => by have := h.br (j + 1) (by omega); rwa [show i + 3 * (j + 1) = i + 3 + 3 * j by omega] at this, fun j hj => by have := h.iff_ (j + 1) (by omega); rwa [show i + 3 * (j + 1) = i + 3 + 3 * j by omega] at this, fun j hj => by have := h.num (j + 1) (by omega); rwa [show i + 3 * (j + 1) = i + 3 + 3 * j by omega] at this⟩
    have ht := num_T toks (i + 2) h2 h3.2
    have hS : (stmtC TM toks (blkF TM toks k) ((i : Int) + 1)).e_ = 5 ∧ (stmtC TM toks (blkF TM toks k) ((i : Int) + 1)).at_ = ((i + 3 * (k + 1) : Nat) : Int) := by
      unfold stmtC
      rw [if_neg (by rw [h1.1]; decide), if_pos h1.1]
      unfold wordC
      dsimp only
      rw [h1.2]
      rw [if_neg (by decide), if_neg (by decide), if_neg (by decide), if_neg (by decide), if_neg (by decide), if_neg (by decide), if_neg (by decide), if_neg (by decide), if_pos rfl]
      have he : eatC toks sIf (fromC ((i : Int) + 1)) = ⟨[], 0, ((i + 2 : Nat) : Int), 0⟩ := by
        rw [eat_at (isF_of (.inl h1.1) h1.2), show (i : Int) + 1 + 1 = ((i + 2 : Nat) : Int) by omega]
      rw [he]
      have htc : (termC TM toks ⟨[], 0, ((i + 2 : Nat) : Int), 0⟩).at_ = ((i + 3 : Nat) : Int) ∧ (termC TM toks ⟨[], 0, ((i + 2 : Nat) : Int), 0⟩).e_ = 0 := by
        unfold termC addC
        rw [if_pos rfl]
        refine ⟨?_, ht.2⟩
        show (TM.T toks ((i + 2 : Nat) : Int)).2.1 = _
        rw [ht.1]; omega
      generalize termC TM toks ⟨[], 0, ((i + 2 : Nat) : Int), 0⟩ = c at htc
      have hin : (inC (blkF TM toks k) c).e_ = 5 ∧ (inC (blkF TM toks k) c).at_ = ((i + 3 * (k + 1) : Nat) : Int) := by
        unfold inC addC
        rw [if_pos htc.2, htc.1]
        exact ⟨ih1, by rw [show i + 3 * (k + 1) = i + 3 + 3 * k by omega]; exact ih2⟩
      unfold ifC
      rw [if_neg (by rw [seeE (by rw [hin.1]; decide)]; simp)]
      exact hin
    show (blockC toks (stmtC TM toks (blkF TM toks k)) (i : Int)).e_ = 5 ∧ (blockC toks (stmtC TM toks (blkF TM toks k)) (i : Int)).at_ = _
    unfold blockC
    have he : eatC toks sLB (fromC (i : Int)) = ⟨[], 0, (i : Int) + 1, 0⟩ := eat_at (isF_of (.inr h0.1) h0.2)
    rw [he]
    unfold fuel
    rw [loopC, if_pos (by rw [isF_no (by rw [h1.2]; decide)]; rfl)]
    have ha : addC ⟨[], 0, (i : Int) + 1, 0⟩ (stmtC TM toks (blkF TM toks k) ((i : Int) + 1)) = ⟨[] ++ (stmtC TM toks (blkF TM toks k) ((i : Int) + 1)).l, IntKind.i64.wrap (0 + 1), (stmtC TM toks (blkF TM toks k) ((i : Int) + 1)).at_, (stmtC TM toks (blkF TM toks k) ((i : Int) + 1)).e_⟩ := by
      unfold addC; rw [if_pos rfl]
    dsimp only
    rw [ha]
    rw [loopE (by rw [decide_eq_false (by rw [hS.1]; decide)]; rfl), eatE (by rw [hS.1]; decide)]
    exact hS
theorem deep_bad (n : Nat) (last : Bool) (h24 : 24 ≤ n) (hn : n ≤ 255) : textF (deepT n last) = ⟨[], 173, 5⟩ := by
  obtain ⟨h1, tl, h2⟩ := all_deepT n last hn
  unfold textF
  rw [if_neg (fun c => c h1)]
  have hg : ∀ i, i < n → (toksF (deepT n last))[2 + 3 * i]? = some ⟨3, [105, 102], 0, (6 + 7 * i + 1 : Nat)⟩ ∧ (toksF (deepT n last))[2 + (3 * i + 1)]? = some ⟨2, [49], 1, (6 + 7 * i + 4 : Nat)⟩ ∧ (toksF (deepT n last))[2 + (3 * i + 2)]? = some ⟨4, [123], 0, (6 + 7 * i + 6 : Nat)⟩ := by
    intro i hi
    have hlen : ∀ k t, (nT 6 n)[k]? = some t → (toksF (deepT n last))[2 + k]? = some (gT t) := by
      intro k t hk
      have := (List.getElem?_eq_some_iff.1 hk).1
      unfold toksF
      rw [h2, List.getElem?_map, List.getElem?_append_right (by simp [headT]), List.getElem?_append_left (by simp [headT]; omega)]
      simp [headT, hk]
    obtain ⟨g1, g2, g3⟩ := nT_get i 6 n hi
    exact ⟨hlen _ _ g1, hlen _ _ g2, hlen _ _ g3⟩
  have g0 : (toksF (deepT n last))[0]? = some ⟨3, [109, 97, 105, 110], 0, 0⟩ := by unfold toksF; rw [h2]; rfl
  have g1 : (toksF (deepT n last))[1]? = some ⟨4, [123], 0, 5⟩ := by unfold toksF; rw [h2]; rfl
  generalize toksF (deepT n last) = toks at hg g0 g1
  have t0 : tokF toks 0 = ⟨3, [109, 97, 105, 110], 0, 0⟩ := tokF_get (p := 0) g0
  have pre : Pre toks 1 24 := by
    refine ⟨fun j hj => ?_, fun j hj => ?_, fun j hj => ?_⟩
    · cases j with
      | zero => rw [tokF_get (p := 1 + 3 * 0) g1]; exact ⟨rfl, rfl⟩
      | succ j =>
        have := (hg j (by omega)).2.2
        rw [show 2 + (3 * j + 2) = 1 + 3 * (j + 1) by omega] at this
        rw [tokF_get this]; exact ⟨rfl, rfl⟩
    · have := (hg j (by omega)).1
      rw [show 2 + 3 * j = 1 + 3 * j + 1 by omega] at this
      rw [tokF_get this]; exact ⟨rfl, rfl⟩
    · have := (hg j (by omega)).2.1
      rw [show 2 + (3 * j + 1) = 1 + 3 * j + 2 by omega] at this
      rw [tokF_get this]
  obtain ⟨b1, b2⟩ := deepA toks 24 1 pre
  have hd : (declC TM toks 0).e_ = 5 ∧ (declC TM toks 0).at_ = 73 := by
    unfold declC
    rw [if_neg (by rw [isF_no (by rw [t0]; decide)]; simp), if_neg (by rw [isF_no (by rw [t0]; decide)]; simp)]
    have he : eatC toks sMain (fromC 0) = ⟨[], 0, 1, 0⟩ := eat_at (isF_of (.inl (by rw [t0])) (by rw [t0]; rfl))
    rw [he]
    unfold inC addC
    rw [if_pos rfl]
    exact ⟨b1, b2⟩
  have hu : (unitC TM toks).e_ = 5 ∧ (unitC TM toks).at_ = 73 := by
    unfold unitC fuel
    rw [loopC, if_pos (by show (true && !decide ((tokF toks 0).kind = 0)) = true; rw [t0]; rfl)]
    have ha : addC (fromC 0) (declC TM toks (fromC 0).at_) = ⟨[] ++ (declC TM toks 0).l, IntKind.i64.wrap (0 + 1), (declC TM toks 0).at_, (declC TM toks 0).e_⟩ := by
      unfold addC fromC; dsimp only; rw [if_pos rfl]
    rw [ha, loopE (by rw [decide_eq_false (by rw [hd.1]; decide)]; rfl)]
    exact hd
  have hun : unitF TM toks = ⟨[], 73, 5⟩ := by
    unfold unitF
    rw [if_pos (by rw [hu.1]; decide), hu.1, hu.2]
  rw [hun, if_pos (by decide)]
  congr 1
  have h73 := (hg 23 (by omega)).2.2
  have hlt := (List.getElem?_eq_some_iff.1 h73).1
  unfold atF lastI
  rw [if_neg (by dsimp only; omega)]
  dsimp only
  rw [show (73 : Int).toNat = 2 + (3 * 23 + 2) from rfl, h73]; rfl
theorem deepT_173 (n : Nat) (last : Bool) (h24 : 24 ≤ n) : (deepT n last).getD 173 0 = 123 := by
  obtain ⟨k, rfl⟩ : ∃ k, n = 24 + k := ⟨n - 24, by omega⟩
  have : reps (24 + k) cIf = reps 24 cIf ++ reps k cIf := by
    unfold reps
    rw [← List.replicate_append_replicate]; simp
  unfold deepT
  rw [this, List.append_assoc]
  generalize reps k cIf ++ _ = u
  rfl
def okB (n : Nat) (last : Bool) : Bool :=
  let x := textF (deepT n last)
  if n + 1 + (if last then 1 else 0) > 24 then x.l.isEmpty && decide (0 ≤ x.at_) && decide (x.at_ < ((deepT n last).length : Int)) && ((deepT n last).getD x.at_.toNat 0 == 123) && decide (x.e_ = 5)
  else !x.l.isEmpty && decide (x.at_ = 0) && decide (x.e_ = 0)
theorem few : ((List.range 24).all fun n => okB n true && okB n false) = true := by kernel_rfl
theorem deep_ok (n : Nat) (last : Bool) (hn : n ≤ 255) : okB n last = true := by
  by_cases h : n < 24
  · have h1 := List.all_eq_true.1 few n (List.mem_range.2 h)
    have h2 := Bool.and_eq_true_iff.1 h1
    cases last
    · exact h2.2
    · exact h2.1
  · unfold okB
    rw [deep_bad n last (by omega) hn]
    dsimp only
    rw [if_pos (by omega), deepT_len]
    have : (173 : Int) < ((6 + (n * 7 + ((if last then 12 else 0) + (n + 1) * 2)) : Nat) : Int) := by omega
    rw [show (173 : Int).toNat = 173 from rfl, deepT_173 n last (by omega), decide_eq_true this]
    rfl
end Go.Proofs.Ytdbdkdmgfiiljaa
