/- A part of the proof: conditions of the code, contracts, the plain law. -/
import Derived.Test.YtdbdkdmgfiiljaaM2
import Derived.Test.YtdbdkdmgfiiljaaM3
import Derived.Test.YtdbdkdmgfiiljaaM4
import Derived.Test.YtdbdkdmgfiiljaaM5
import Derived.Test.YtdbdkdmgfiiljaaMapL
import Derived.Test.YtdbdkdmgfiiljaaLoop
namespace Go.Proofs.Ytdbdkdmgfiiljaa
open Go.Vc Go.Lv Go.Ty
def R10_one_vwp (toks : List GToken) (atx : Int) (deep : Int) (K : GR10_Got → Prop) : Prop :=
 V_R10_Tok toks atx (fun x =>
 cond (x.kind == 2)
 (K (⟨[(⟨1, [], x.n, 0, x.at_⟩ : GNode)], IntKind.i64.wrap (atx + 1), 0⟩ : GR10_Got))
 (cond (x.kind == 1)
 (K (⟨[(⟨2, x.text, 0, 0, x.at_⟩ : GNode)], IntKind.i64.wrap (atx + 1), 0⟩ : GR10_Got))
 (∃ (J : Bool → Prop),
 (cond (x.kind != 4)
 (J true)
 (cond (!(x.text == [45]))
 (cond (!(x.text == [33]))
 (J (!(x.text == [40])))
 (J false))
 (J false))) ∧
 ∀ (x1 : Bool), J x1 →
 cond (x1)
 (K (⟨[], atx, 11⟩ : GR10_Got))
 (cond (deep == 24)
 (K (⟨[], atx, 5⟩ : GR10_Got))
 (cond (x.text == [40])
 (V_R10_level toks (IntKind.i64.wrap (atx + 1)) 1 (IntKind.i64.wrap (deep + 1)) (fun x2 =>
 cond (x2.e_ != 0)
 (K x2)
 (V_R10_Tok toks x2.at_ (fun x3 =>
 ∃ (J1 : Bool → Prop),
 (cond (x3.kind != 4)
 (J1 true)
 (J1 (!(x3.text == [41])))) ∧
 ∀ (x4 : Bool), J1 x4 →
 cond (x4)
 (K (⟨[], x2.at_, 11⟩ : GR10_Got))
 (K (⟨x2.l, IntKind.i64.wrap (x2.at_ + 1), 0⟩ : GR10_Got))))))
 (V_R10_one toks (IntKind.i64.wrap (atx + 1)) (IntKind.i64.wrap (deep + 1)) (fun x5 =>
 cond (x5.e_ != 0)
 (K x5)
 (∃ (J2 : Int → Prop),
 (cond (x.text == [33])
 (J2 4)
 (J2 3)) ∧
 ∀ (op : Int), J2 op →
 ([(⟨op, [], 0, 1, x.at_⟩ : GNode)]).length + x5.l.length < 2 ^ 32 ∧
 K (⟨([(⟨op, [], 0, 1, x.at_⟩ : GNode)] ++ x5.l), x5.at_, 0⟩ : GR10_Got)))))))))
set_option maxHeartbeats 4000000 in
set_option maxRecDepth 10000 in
theorem R10_one_lift (toks : List GToken) (atx : Int) (deep : Int) (K : GR10_Got → Prop) (h : R10_one_vwp toks atx deep K) : V_R10_one toks atx deep K := by
 intro m w hm toksA toksC le_toks f_toks
 have o := Mem.start hm.lt
 refine R10_one_ok toksA toks.length toksC atx deep _ _ ?_
 intro b w1 hb hw1
 obtain ⟨st, o⟩ := o.dB hb hw1
 refine call_then (h _ w1 (o.mo hm (by simp) (.head _)) _ _ le_toks (f_toks.st st)) ?_
 rintro _ w2 ⟨x, h, ⟨cs, rfl, f⟩, ke⟩
 obtain ⟨st1, o⟩ := o.dE ke
 obtain rfl := GToken_out f
 refine ⟨_, _, _, _, rfl, ?_⟩
 intro b1 w3 hb1 hw3
 obtain ⟨st2, o⟩ := o.dB hb1 hw3
 refine ⟨o.wr 0 rfl rfl, fun w4 hw4 => ?_⟩
 obtain ⟨st3, o⟩ := o.dSs 0 hw4 rfl
 refine ⟨_, (o.at 0 rfl).cell rfl, ?_⟩
 refine cond_map (fun h => ?_) (fun h => ?_) h
 refine ⟨_, (o.at 0 rfl).cell rfl, ?_⟩
 refine ⟨_, (o.at 0 rfl).cell rfl, ?_⟩
 intro b2 w5 hb2 hw5
 have el : El cGNode (ms [.box b1 [.int .i64 x.kind, .string (mkS x.text), .int .i64 x.n, .int .i64 x.at_], .box b [.slice none 0 0, .int .i64 0, .int .i64 0]] m) w4 [(⟨1, [], x.n, 0, x.at_⟩ : GNode)] ([.int .i64 1, .string (mkS []), .int .i64 x.n, .int .i64 0, .int .i64 x.at_] : List Value) := (El.cons (cs := [.int .i64 1, .string (mkS []), .int .i64 x.n, .int .i64 0, .int .i64 x.at_]) (GNode_in (⟨1, [], x.n, 0, x.at_⟩ : GNode)) (El.nil _ _ _))
 have st4 := o.xL hb2 hw5 5 1
 have o := o.lit hb2 hw5 5 1 (by decide) rfl
 refine ⟨o.wr 2 rfl rfl, fun w6 hw6 => ?_⟩
 obtain ⟨st5, o⟩ := o.dSs 2 hw6 rfl
 refine ⟨_, _, _, _, _, (o.at 2 rfl).whole, ?_⟩
 have le := (o.rowAt 0 rfl).cap
 have st6 := o.xX 0
 have f1 := o.freeze (c := cGNode) (l := [(⟨1, [], x.n, 0, x.at_⟩ : GNode)]) 0 rfl (fun b hb => by simp at hb) (el.st (st4.trans (st5.trans st6)))
 have o := o.erase 0
 exact ⟨(⟨[(⟨1, [], x.n, 0, x.at_⟩ : GNode)], IntKind.i64.wrap (atx + 1), 0⟩ : GR10_Got), h, ⟨_, rfl, (GR10_Got_in (⟨[(⟨1, [], x.n, 0, x.at_⟩ : GNode)], IntKind.i64.wrap (atx + 1), 0⟩ : GR10_Got) ⟨le, (f1.st Mem.endS)⟩)⟩, o.done⟩
 refine ⟨_, (o.at 0 rfl).cell rfl, ?_⟩
 refine cond_map (fun h => ?_) (fun h => ?_) h
 refine ⟨_, (o.at 0 rfl).cell rfl, ?_⟩
 refine ⟨_, (o.at 0 rfl).cell rfl, ?_⟩
 intro b3 w7 hb3 hw7
 have el1 : El cGNode (ms [.box b1 [.int .i64 x.kind, .string (mkS x.text), .int .i64 x.n, .int .i64 x.at_], .box b [.slice none 0 0, .int .i64 0, .int .i64 0]] m) w4 [(⟨2, x.text, 0, 0, x.at_⟩ : GNode)] ([.int .i64 2, .string (mkS x.text), .int .i64 0, .int .i64 0, .int .i64 x.at_] : List Value) := (El.cons (cs := [.int .i64 2, .string (mkS x.text), .int .i64 0, .int .i64 0, .int .i64 x.at_]) (GNode_in (⟨2, x.text, 0, 0, x.at_⟩ : GNode)) (El.nil _ _ _))
 have st7 := o.xL hb3 hw7 5 1
 have o := o.lit hb3 hw7 5 1 (by decide) rfl
 refine ⟨o.wr 2 rfl rfl, fun w8 hw8 => ?_⟩
 obtain ⟨st8, o⟩ := o.dSs 2 hw8 rfl
 refine ⟨_, _, _, _, _, (o.at 2 rfl).whole, ?_⟩
 have le1 := (o.rowAt 0 rfl).cap
 have st9 := o.xX 0
 have f2 := o.freeze (c := cGNode) (l := [(⟨2, x.text, 0, 0, x.at_⟩ : GNode)]) 0 rfl (fun b hb => by simp at hb) (el1.st (st7.trans (st8.trans st9)))
 have o := o.erase 0
 exact ⟨(⟨[(⟨2, x.text, 0, 0, x.at_⟩ : GNode)], IntKind.i64.wrap (atx + 1), 0⟩ : GR10_Got), h, ⟨_, rfl, (GR10_Got_in (⟨[(⟨2, x.text, 0, 0, x.at_⟩ : GNode)], IntKind.i64.wrap (atx + 1), 0⟩ : GR10_Got) ⟨le1, (f2.st Mem.endS)⟩)⟩, o.done⟩
 obtain ⟨J, h, h2⟩ := h
 refine ⟨fun x1 w9 => J x1 ∧ Mem w.heap.size [] m [([], w.heap.size, w)] [] w9 [.box b1 [.int .i64 x.kind, .string (mkS x.text), .int .i64 x.n, .int .i64 x.at_], .box b [.slice none 0 0, .int .i64 0, .int .i64 0]] ∧ Step (ms [.box b1 [.int .i64 x.kind, .string (mkS x.text), .int .i64 x.n, .int .i64 x.at_], .box b [.slice none 0 0, .int .i64 0, .int .i64 0]] m) w4 (ms [.box b1 [.int .i64 x.kind, .string (mkS x.text), .int .i64 x.n, .int .i64 x.at_], .box b [.slice none 0 0, .int .i64 0, .int .i64 0]] m) w9, ?_, ?_⟩
 refine ⟨_, (o.at 0 rfl).cell rfl, ?_⟩
 refine cond_map (fun h => ?_) (fun h => ?_) h
 exact ⟨h, o, Step.refl _ _⟩
 refine ⟨_, (o.at 0 rfl).cell rfl, ?_⟩
 refine cond_map (fun h => ?_) (fun h => ?_) h
 refine ⟨_, (o.at 0 rfl).cell rfl, ?_⟩
 refine cond_map (fun h => ?_) (fun h => ?_) h
 refine ⟨_, (o.at 0 rfl).cell rfl, ?_⟩
 exact ⟨h, o, Step.refl _ _⟩
 exact ⟨h, o, Step.refl _ _⟩
 exact ⟨h, o, Step.refl _ _⟩
 rintro _ x1 w9 ⟨hJ, o, st10⟩
 have h := h2 x1 hJ
 refine cond_map (fun h => ?_) (fun h => ?_) h
 refine ⟨o.wr 1 rfl rfl, fun w10 hw10 => ?_⟩
 obtain ⟨st11, o⟩ := o.dSs 1 hw10 rfl
 refine ⟨_, _, _, _, _, (o.at 1 rfl).whole, ?_⟩
 exact ⟨(⟨[], atx, 11⟩ : GR10_Got), h, ⟨_, rfl, (GR10_Got_in (⟨[], atx, 11⟩ : GR10_Got) ⟨(Nat.le_refl _), (SlR.nil _ _ _ _)⟩)⟩, o.done⟩
 refine cond_map (fun h => ?_) (fun h => ?_) h
 refine ⟨o.wr 1 rfl rfl, fun w11 hw11 => ?_⟩
 obtain ⟨st12, o⟩ := o.dSs 1 hw11 rfl
 refine ⟨_, _, _, _, _, (o.at 1 rfl).whole, ?_⟩
 exact ⟨(⟨[], atx, 5⟩ : GR10_Got), h, ⟨_, rfl, (GR10_Got_in (⟨[], atx, 5⟩ : GR10_Got) ⟨(Nat.le_refl _), (SlR.nil _ _ _ _)⟩)⟩, o.done⟩
 refine ⟨_, (o.at 0 rfl).cell rfl, ?_⟩
 refine cond_map (fun h => ?_) (fun h => ?_) h
 refine call_then (h _ w9 (o.mo hm (by simp) (.head _)) _ _ le_toks (f_toks.st (st.trans (st1.trans (st2.trans (st3.trans st10)))))) ?_
 rintro _ w12 ⟨x2, h, ⟨cs1, rfl, f3⟩, ke1⟩
 obtain ⟨st13, o⟩ := o.dE ke1
 obtain ⟨a, c, rfl, ⟨le2, f4⟩⟩ := GR10_Got_out f3
 refine ⟨_, _, _, _, _, rfl, ?_⟩
 intro b4 w13 hb4 hw13
 obtain ⟨st14, o⟩ := o.dB hb4 hw13
 refine ⟨o.wr 0 rfl rfl, fun w14 hw14 => ?_⟩
 obtain ⟨st15, o⟩ := o.dSs 0 hw14 rfl
 refine ⟨_, (o.at 0 rfl).cell rfl, ?_⟩
 refine cond_map (fun h => ?_) (fun h => ?_) h
 refine ⟨_, _, _, _, _, (o.at 0 rfl).whole, ?_⟩
 refine ⟨o.wr 2 rfl rfl, fun w15 hw15 => ?_⟩
 obtain ⟨st16, o⟩ := o.dSs 2 hw15 rfl
 refine ⟨_, _, _, _, _, (o.at 2 rfl).whole, ?_⟩
 exact ⟨x2, h, ⟨_, rfl, (GR10_Got_in x2 ⟨le2, (f4.st (st14.trans (st15.trans (st16.trans Mem.endS))))⟩)⟩, o.done⟩
 refine ⟨_, (o.at 0 rfl).cell rfl, ?_⟩
 refine call_then (h _ w14 (o.mo hm (by simp) (.head _)) _ _ le_toks (f_toks.st (st.trans (st1.trans (st2.trans (st3.trans (st10.trans (st13.trans (st14.trans st15))))))))) ?_
 rintro _ w16 ⟨x3, h, ⟨cs2, rfl, f5⟩, ke2⟩
 obtain ⟨st17, o⟩ := o.dE ke2
 obtain rfl := GToken_out f5
 refine ⟨_, _, _, _, rfl, ?_⟩
 intro b5 w17 hb5 hw17
 obtain ⟨st18, o⟩ := o.dB hb5 hw17
 refine ⟨o.wr 0 rfl rfl, fun w18 hw18 => ?_⟩
 obtain ⟨st19, o⟩ := o.dSs 0 hw18 rfl
 obtain ⟨J1, h, h2⟩ := h
 refine ⟨fun x4 w19 => J1 x4 ∧ Mem w.heap.size [] m [([], w.heap.size, w)] [] w19 [.box b5 [.int .i64 x3.kind, .string (mkS x3.text), .int .i64 x3.n, .int .i64 x3.at_], .box b4 [.slice a x2.l.length c, .int .i64 x2.at_, .int .i64 x2.e_], .box b1 [.int .i64 x.kind, .string (mkS x.text), .int .i64 x.n, .int .i64 x.at_], .box b [.slice none 0 0, .int .i64 0, .int .i64 0]] ∧ Step (ms [.box b5 [.int .i64 x3.kind, .string (mkS x3.text), .int .i64 x3.n, .int .i64 x3.at_], .box b4 [.slice a x2.l.length c, .int .i64 x2.at_, .int .i64 x2.e_], .box b1 [.int .i64 x.kind, .string (mkS x.text), .int .i64 x.n, .int .i64 x.at_], .box b [.slice none 0 0, .int .i64 0, .int .i64 0]] m) w18 (ms [.box b5 [.int .i64 x3.kind, .string (mkS x3.text), .int .i64 x3.n, .int .i64 x3.at_], .box b4 [.slice a x2.l.length c, .int .i64 x2.at_, .int .i64 x2.e_], .box b1 [.int .i64 x.kind, .string (mkS x.text), .int .i64 x.n, .int .i64 x.at_], .box b [.slice none 0 0, .int .i64 0, .int .i64 0]] m) w19, ?_, ?_⟩
 refine ⟨_, (o.at 0 rfl).cell rfl, ?_⟩
 refine cond_map (fun h => ?_) (fun h => ?_) h
 exact ⟨h, o, Step.refl _ _⟩
 refine ⟨_, (o.at 0 rfl).cell rfl, ?_⟩
 exact ⟨h, o, Step.refl _ _⟩
 rintro _ x4 w19 ⟨hJ, o, st20⟩
 have h := h2 x4 hJ
 refine cond_map (fun h => ?_) (fun h => ?_) h
 refine ⟨_, (o.at 1 rfl).cell rfl, ?_⟩
 refine ⟨o.wr 3 rfl rfl, fun w20 hw20 => ?_⟩
 obtain ⟨st21, o⟩ := o.dSs 3 hw20 rfl
 refine ⟨_, _, _, _, _, (o.at 3 rfl).whole, ?_⟩
 exact ⟨(⟨[], x2.at_, 11⟩ : GR10_Got), h, ⟨_, rfl, (GR10_Got_in (⟨[], x2.at_, 11⟩ : GR10_Got) ⟨(Nat.le_refl _), (SlR.nil _ _ _ _)⟩)⟩, o.done⟩
 refine ⟨_, _, _, (o.at 1 rfl).cell rfl, ?_⟩
 refine ⟨_, (o.at 1 rfl).cell rfl, ?_⟩
 refine ⟨o.wr 3 rfl rfl, fun w21 hw21 => ?_⟩
 obtain ⟨st22, o⟩ := o.dSs 3 hw21 rfl
 refine ⟨_, _, _, _, _, (o.at 3 rfl).whole, ?_⟩
 exact ⟨(⟨x2.l, IntKind.i64.wrap (x2.at_ + 1), 0⟩ : GR10_Got), h, ⟨_, rfl, (GR10_Got_in (⟨x2.l, IntKind.i64.wrap (x2.at_ + 1), 0⟩ : GR10_Got) ⟨le2, (f4.st (st14.trans (st15.trans (st17.trans (st18.trans (st19.trans (st20.trans (st22.trans Mem.endS))))))))⟩)⟩, o.done⟩
 refine call_then (h _ w9 (o.mo hm (by simp) (.head _)) _ _ le_toks (f_toks.st (st.trans (st1.trans (st2.trans (st3.trans st10)))))) ?_
 rintro _ w22 ⟨x5, h, ⟨cs3, rfl, f6⟩, ke3⟩
 obtain ⟨st23, o⟩ := o.dE ke3
 obtain ⟨a1, c1, rfl, ⟨le3, f7⟩⟩ := GR10_Got_out f6
 refine ⟨_, _, _, _, _, rfl, ?_⟩
 intro b6 w23 hb6 hw23
 obtain ⟨st24, o⟩ := o.dB hb6 hw23
 refine ⟨o.wr 0 rfl rfl, fun w24 hw24 => ?_⟩
 obtain ⟨st25, o⟩ := o.dSs 0 hw24 rfl
 refine ⟨_, (o.at 0 rfl).cell rfl, ?_⟩
 refine cond_map (fun h => ?_) (fun h => ?_) h
 refine ⟨_, _, _, _, _, (o.at 0 rfl).whole, ?_⟩
 refine ⟨o.wr 2 rfl rfl, fun w25 hw25 => ?_⟩
 obtain ⟨st26, o⟩ := o.dSs 2 hw25 rfl
 refine ⟨_, _, _, _, _, (o.at 2 rfl).whole, ?_⟩
 exact ⟨x5, h, ⟨_, rfl, (GR10_Got_in x5 ⟨le3, (f7.st (st24.trans (st25.trans (st26.trans Mem.endS))))⟩)⟩, o.done⟩
 obtain ⟨J2, h, h2⟩ := h
 refine ⟨fun op w26 => J2 op ∧ Mem w.heap.size [] m [([], w.heap.size, w)] [] w26 [.box b6 [.slice a1 x5.l.length c1, .int .i64 x5.at_, .int .i64 x5.e_], .box b1 [.int .i64 x.kind, .string (mkS x.text), .int .i64 x.n, .int .i64 x.at_], .box b [.slice none 0 0, .int .i64 0, .int .i64 0]] ∧ Step (ms [.box b6 [.slice a1 x5.l.length c1, .int .i64 x5.at_, .int .i64 x5.e_], .box b1 [.int .i64 x.kind, .string (mkS x.text), .int .i64 x.n, .int .i64 x.at_], .box b [.slice none 0 0, .int .i64 0, .int .i64 0]] m) w24 (ms [.box b6 [.slice a1 x5.l.length c1, .int .i64 x5.at_, .int .i64 x5.e_], .box b1 [.int .i64 x.kind, .string (mkS x.text), .int .i64 x.n, .int .i64 x.at_], .box b [.slice none 0 0, .int .i64 0, .int .i64 0]] m) w26, ?_, ?_⟩
 refine ⟨_, (o.at 1 rfl).cell rfl, ?_⟩
 refine cond_map (fun h => ?_) (fun h => ?_) h
 exact ⟨h, o, Step.refl _ _⟩
 exact ⟨h, o, Step.refl _ _⟩
 rintro _ op w26 ⟨hJ, o, st27⟩
 have h := h2 op hJ
 intro w27 hw27
 obtain ⟨st28, o⟩ := o.dD hw27
 have ox := o
 refine ⟨fun u => Keep [] w27 u, Keep.refl _ _, ?_⟩
 refine ⟨_, fun u hu => ((ox.at 1 rfl).keep hu (by simp)).cell rfl, ?_⟩
 refine ⟨_, _, _, fun u hu => ((ox.at 0 rfl).keep hu (by simp)).cell rfl, ?_⟩
 refine ⟨_, fun u hu => ((ox.at 0 rfl).keep hu (by simp)).cell rfl, ?_⟩
 intro b7 w28 hb7 hw28
 have el2 : El cGNode (ms [.box b6 [.slice a1 x5.l.length c1, .int .i64 x5.at_, .int .i64 x5.e_], .box b1 [.int .i64 x.kind, .string (mkS x.text), .int .i64 x.n, .int .i64 x.at_], .box b [.slice none 0 0, .int .i64 0, .int .i64 0]] m) w27 [(⟨op, [], 0, 1, x.at_⟩ : GNode)] ([.int .i64 op, .string (mkS []), .int .i64 0, .int .i64 1, .int .i64 x.at_] : List Value) := (El.cons (cs := [.int .i64 op, .string (mkS []), .int .i64 0, .int .i64 1, .int .i64 x.at_]) (GNode_in (⟨op, [], 0, 1, x.at_⟩ : GNode)) (El.nil _ _ _))
 have st29 := o.xL hb7 hw28 5 1
 have o := o.lit hb7 hw28 5 1 (by decide) rfl
 refine ⟨((keep_alloc hw28).mono (by simp)), ?_⟩
 obtain ⟨lt, h⟩ := h
 obtain ⟨xs, hx, el3⟩ := SlR.cells (f7.st (st24.trans (st25.trans (st27.trans (st28.trans st29)))))
 have el4 := ((el2.st st29)).app el3
 refine append_sl sl_39 (o.rowAt 0 rfl) hx el3.len el3.one (by first | (simp; done) | simpa using lt) (by decide) (Nat.zero_le _) fun a2 c2 w29 hr hg hat => ?_
 have ln : 1 + x5.l.length = ([(⟨op, [], 0, 1, x.at_⟩ : GNode)] ++ x5.l).length := (by first | (simp; done) | (simp; omega))
 rw [ln] at hr ⊢
 refine ⟨_, _, _, rfl, ?_⟩
 have st30 := o.xA 0 rfl hr hg hat
 have o := o.app 0 rfl hr hg hat
 refine ⟨(keep_app ((keep_alloc hw28).mono (by simp)) hg (fresh_lit hb7 (Keep.refl _ _))), ?_⟩
 refine ⟨o.wr 3 rfl rfl, fun w30 hw30 => ?_⟩
 obtain ⟨st31, o⟩ := o.dSs 3 hw30 rfl
 refine ⟨_, _, _, _, _, (o.at 3 rfl).whole, ?_⟩
 have le4 := (o.rowAt 0 rfl).cap
 have st32 := o.xX 0
 have f8 := o.freeze (c := cGNode) (l := ([(⟨op, [], 0, 1, x.at_⟩ : GNode)] ++ x5.l)) 0 rfl (fun b hb => by simp at hb) (el4.st (st30.trans (st31.trans st32)))
 have o := o.erase 0
 exact ⟨(⟨([(⟨op, [], 0, 1, x.at_⟩ : GNode)] ++ x5.l), x5.at_, 0⟩ : GR10_Got), h, ⟨_, rfl, (GR10_Got_in (⟨([(⟨op, [], 0, 1, x.at_⟩ : GNode)] ++ x5.l), x5.at_, 0⟩ : GR10_Got) ⟨le4, (f8.st Mem.endS)⟩)⟩, o.done⟩
def R10_Parse_vwp (toks : List GToken) (atx : Int) (K : GR10_Got → Prop) : Prop :=
 cond (decide (atx < 0))
 (K (⟨[], 0, 1⟩ : GR10_Got))
 (V_R10_level toks atx 1 0 (fun x =>
 K x))
set_option maxRecDepth 10000 in
theorem R10_Parse_lift (toks : List GToken) (atx : Int) (K : GR10_Got → Prop) (h : R10_Parse_vwp toks atx K) : V_R10_Parse toks atx K := by
 intro m w hm toksA toksC le_toks f_toks
 have o := Mem.start hm.lt
 refine R10_Parse_ok toksA toks.length toksC atx _ _ ?_
 intro b w1 hb hw1
 obtain ⟨st, o⟩ := o.dB hb hw1
 refine cond_map (fun h => ?_) (fun h => ?_) h
 refine ⟨o.wr 0 rfl rfl, fun w2 hw2 => ?_⟩
 obtain ⟨st1, o⟩ := o.dSs 0 hw2 rfl
 refine ⟨_, _, _, _, _, (o.at 0 rfl).whole, ?_⟩
 exact ⟨(⟨[], 0, 1⟩ : GR10_Got), h, ⟨_, rfl, (GR10_Got_in (⟨[], 0, 1⟩ : GR10_Got) ⟨(Nat.le_refl _), (SlR.nil _ _ _ _)⟩)⟩, o.done⟩
 refine call_then (h _ w1 (o.mo hm (by simp) (.head _)) _ _ le_toks (f_toks.st st)) ?_
 rintro _ w3 ⟨x, h, ⟨cs, rfl, f⟩, ke⟩
 obtain ⟨st2, o⟩ := o.dE ke
 obtain ⟨a, c, rfl, ⟨le, f1⟩⟩ := GR10_Got_out f
 refine ⟨_, _, _, _, _, rfl, ?_⟩
 refine ⟨o.wr 0 rfl rfl, fun w4 hw4 => ?_⟩
 obtain ⟨st3, o⟩ := o.dSs 0 hw4 rfl
 refine ⟨_, _, _, _, _, (o.at 0 rfl).whole, ?_⟩
 exact ⟨x, h, ⟨_, rfl, (GR10_Got_in x ⟨le, (f1.st (st3.trans Mem.endS))⟩)⟩, o.done⟩
def L11_same_vwp (l : List GNode) (atx : Int) (ex : Int) (xq : GR10_Got) (K : Bool → Prop) : Prop :=
 V_R10_Same l xq.l (fun x =>
 cond (x)
 (cond (atx == xq.at_)
 (K (ex == xq.e_))
 (K false))
 (K false))
set_option maxRecDepth 10000 in
theorem L11_same_lift (l : List GNode) (atx : Int) (ex : Int) (xq : GR10_Got) (K : Bool → Prop) (h : L11_same_vwp l atx ex xq K) : V_L11_same l atx ex xq K := by
 intro m w hm lA lC le_l f_l xqcs f_xq
 obtain ⟨a, c, rfl, ⟨le, f⟩⟩ := GR10_Got_out f_xq
 have o := Mem.start hm.lt
 refine L11_same_ok lA l.length lC atx ex _ _ _ _ _ _ _ ?_
 intro b w1 hb hw1
 obtain ⟨st, o⟩ := o.dB hb hw1
 refine ⟨_, _, _, (o.at 0 rfl).cell rfl, ?_⟩
 refine call_then (h _ w1 (o.mo hm (by simp) (.head _)) _ _ le_l (f_l.st st) _ _ le (f.st st)) ?_
 rintro _ w2 ⟨x, h, rfl, ke⟩
 obtain ⟨st1, o⟩ := o.dE ke
 refine ⟨_, rfl, ?_⟩
 refine cond_map (fun h => ?_) (fun h => ?_) h
 refine ⟨_, (o.at 0 rfl).cell rfl, ?_⟩
 refine cond_map (fun h => ?_) (fun h => ?_) h
 refine ⟨_, (o.at 0 rfl).cell rfl, ?_⟩
 exact ⟨(ex == xq.e_), h, rfl, o.done⟩
 exact ⟨false, h, rfl, o.done⟩
 exact ⟨false, h, rfl, o.done⟩
def L11_live_vwp (K : Bool → Prop) : Prop :=
 V_parse_Text [109, 97, 105, 110, 32, 123, 32, 125] (fun r r1 r2 =>
 V_parse_Text [109, 97, 105, 110, 32, 123, 32, 99, 32, 33, 32, 59, 32, 125] (fun r3 r4 r5 =>
 cond ((r.length : Int) == 3)
 (((0 : Int) ≤ 1 ∧ 1 < (r.length : Int)) ∧
 ∀ x, r[1]? = some x →
 cond (x.op == 41)
 (cond (r1 == 0)
 (cond (r2 == 0)
 (cond (r4 == 11)
 (K (r5 == 11))
 (K false))
 (K false))
 (K false))
 (K false))
 (K false)))
set_option maxRecDepth 10000 in
theorem L11_live_lift (K : Bool → Prop) (h : L11_live_vwp K) : V_L11_live K := by
 intro m w hm
 have o := Mem.start hm.lt
 refine L11_live_ok _ _ ?_
 refine call_then (h _ w (o.mo hm (by simp) (.head _))) ?_
 rintro _ w1 ⟨r, r1, r2, h, ⟨a, c, rfl, ⟨le, f⟩⟩, ke⟩
 obtain ⟨st, o⟩ := o.dE ke
 refine ⟨_, _, _, _, _, rfl, ?_⟩
 refine call_then (h _ w1 (o.mo hm (by simp) (.head _))) ?_
 rintro _ w2 ⟨r3, r4, r5, h, ⟨a1, c1, rfl, ⟨le1, f1⟩⟩, ke1⟩
 obtain ⟨st1, o⟩ := o.dE ke1
 refine ⟨_, _, _, _, _, rfl, ?_⟩
 refine cond_map (fun h => ?_) (fun h => ?_) h
 obtain ⟨hi, h⟩ := h
 obtain ⟨p, x, cs, hp, he, hc, hr⟩ := (f.st st1).elem hi
 obtain rfl := GNode_out hr
 have h := h x he
 refine ⟨hi, ptrOr_some hp ?_⟩
 refine ⟨_, (CellsAt.head hc.2), ?_⟩
 refine cond_map (fun h => ?_) (fun h => ?_) h
 refine cond_map (fun h => ?_) (fun h => ?_) h
 refine cond_map (fun h => ?_) (fun h => ?_) h
 refine cond_map (fun h => ?_) (fun h => ?_) h
 exact ⟨(r5 == 11), h, rfl, o.done⟩
 exact ⟨false, h, rfl, o.done⟩
 exact ⟨false, h, rfl, o.done⟩
 exact ⟨false, h, rfl, o.done⟩
 exact ⟨false, h, rfl, o.done⟩
 exact ⟨false, h, rfl, o.done⟩
def L11_ParseTexts_vwp (sx : List UInt8) (K : Bool → Prop) : Prop :=
 cond (decide ((sx.length : Int) > 1500))
 (V_L11_live  (fun x =>
 K x))
 (V_parse_Text sx (fun r r1 r2 =>
 V_R11_Text sx (fun x1 =>
 V_L11_same r r1 r2 x1 (fun x2 =>
 cond (x2)
 (V_L11_live  (fun x3 =>
 K x3))
 (K false)))))
set_option maxRecDepth 10000 in
theorem L11_ParseTexts_lift (sx : List UInt8) (K : Bool → Prop) (h : L11_ParseTexts_vwp sx K) : V_L11_ParseTexts sx K := by
 intro m w hm
 have o := Mem.start hm.lt
 refine L11_ParseTexts_ok sx _ _ ?_
 refine cond_map (fun h => ?_) (fun h => ?_) h
 refine call_then (h _ w (o.mo hm (by simp) (.head _))) ?_
 rintro _ w1 ⟨x, h, rfl, ke⟩
 obtain ⟨st, o⟩ := o.dE ke
 refine ⟨_, rfl, ?_⟩
 exact ⟨x, h, rfl, o.done⟩
 refine call_then (h _ w (o.mo hm (by simp) (.head _))) ?_
 rintro _ w2 ⟨r, r1, r2, h, ⟨a, c, rfl, ⟨le, f⟩⟩, ke1⟩
 obtain ⟨st1, o⟩ := o.dE ke1
 refine ⟨_, _, _, _, _, rfl, ?_⟩
 refine call_then (h _ w2 (o.mo hm (by simp) (.head _))) ?_
 rintro _ w3 ⟨x1, h, ⟨cs, rfl, f1⟩, ke2⟩
 obtain ⟨st2, o⟩ := o.dE ke2
 obtain ⟨a1, c1, rfl, ⟨le1, f2⟩⟩ := GR10_Got_out f1
 refine ⟨_, _, _, _, _, rfl, ?_⟩
 refine call_then (h _ w3 (o.mo hm (by simp) (.head _)) _ _ le (f.st st2) _ (GR10_Got_in x1 ⟨le1, f2⟩)) ?_
 rintro _ w4 ⟨x2, h, rfl, ke3⟩
 obtain ⟨st3, o⟩ := o.dE ke3
 refine ⟨_, rfl, ?_⟩
 refine cond_map (fun h => ?_) (fun h => ?_) h
 refine call_then (h _ w4 (o.mo hm (by simp) (.head _))) ?_
 rintro _ w5 ⟨x3, h, rfl, ke4⟩
 obtain ⟨st4, o⟩ := o.dE ke4
 refine ⟨_, rfl, ?_⟩
 exact ⟨x3, h, rfl, o.done⟩
 exact ⟨false, h, rfl, o.done⟩
end Go.Proofs.Ytdbdkdmgfiiljaa

namespace Go.Proofs.Ytdbdkdmgfiiljaa
open Go.Vc Go.Lv Go.Ty
structure TermC where
  T : List GToken → Int → List GNode × Int × Int
  lo : ∀ toks at_, 0 ≤ at_ → at_ ≤ (toks.length : Int) → at_ ≤ (T toks at_).2.1
  hi : ∀ toks at_, 0 ≤ at_ → at_ ≤ (toks.length : Int) → (T toks at_).2.1 ≤ (toks.length : Int)
  len : ∀ toks at_, 0 ≤ at_ → at_ ≤ (toks.length : Int) → ((T toks at_).1.length : Int) ≤ (T toks at_).2.1 - at_
  pv : ∀ toks, toks.length < 1000000000 → ∀ at_, 0 ≤ at_ → at_ ≤ (toks.length : Int) → ∀ K : List GNode → Int → Int → Prop, K (T toks at_).1 (T toks at_).2.1 (T toks at_).2.2 → V_term_Parse toks at_ K
  rv : ∀ toks, toks.length < 1000000000 → ∀ at_, 0 ≤ at_ → at_ ≤ (toks.length : Int) → ∀ K : GR10_Got → Prop, K ⟨(T toks at_).1, (T toks at_).2.1, (T toks at_).2.2⟩ → V_R10_Parse toks at_ K
abbrev Str := List UInt8
def sLB : Str := [123]
def sRB : Str := [125]
def sLP : Str := [40]
def sRP : Str := [41]
def sLS : Str := [91]
def sRS : Str := [93]
def sSemi : Str := [59]
def sComma : Str := [44]
def sColon : Str := [58]
def sBang : Str := [33]
def sAsk : Str := [63]
def sEq : Str := [61]
def sVar : Str := [118, 97, 114]
def sStart : Str := [115, 116, 97, 114, 116]
def sSleep : Str := [115, 108, 101, 101, 112]
def sPrint : Str := [112, 114, 105, 110, 116]
def sAssert : Str := [97, 115, 115, 101, 114, 116]
def sSkip : Str := [115, 107, 105, 112]
def sStop : Str := [115, 116, 111, 112]
def sWhile : Str := [119, 104, 105, 108, 101]
def sIf : Str := [105, 102]
def sElse : Str := [101, 108, 115, 101]
def sSelect : Str := [115, 101, 108, 101, 99, 116]
def sCase : Str := [99, 97, 115, 101]
def sWhen : Str := [119, 104, 101, 110]
def sAfter : Str := [97, 102, 116, 101, 114]
def sRandom : Str := [114, 97, 110, 100, 111, 109]
def sChan : Str := [99, 104, 97, 110]
def sProc : Str := [112, 114, 111, 99]
def sMain : Str := [109, 97, 105, 110]
abbrev Cur := GR11_cur
section
variable (M : TermC) (toks : List GToken)
def tokF (at_ : Int) : GToken := if at_ < (toks.length : Int) then (toks[at_.toNat]?).getD ⟨0, [], 0, 0⟩ else ⟨0, [], 0, 0⟩
def isF (at_ : Int) (s : Str) : Bool := ((tokF toks at_).kind == 3 || (tokF toks at_).kind == 4) && ((tokF toks at_).text == s)
def fromC (at_ : Int) : Cur := ⟨[], 0, at_, 0⟩
def eatC (s : Str) (c : Cur) : Cur := if c.e_ = 0 then (if isF toks c.at_ s then ⟨c.l, c.n, c.at_ + 1, 0⟩ else ⟨c.l, c.n, c.at_, 11⟩) else c
def addC (c d : Cur) : Cur := if c.e_ = 0 then ⟨c.l ++ d.l, IntKind.i64.wrap (c.n + 1), d.at_, d.e_⟩ else c
def underC (c : Cur) (x : GNode) : Cur := ⟨⟨x.op, x.name, x.n, c.n, x.at_⟩ :: c.l, 1, c.at_, c.e_⟩
def nameC (c : Cur) : Cur := if c.e_ = 0 then (if (tokF toks c.at_).kind = 1 then ⟨c.l, c.n, c.at_ + 1, 0⟩ else ⟨c.l, c.n, c.at_, 11⟩) else c
def nameS (c : Cur) : Str := if c.e_ = 0 then (if (tokF toks c.at_).kind = 1 then (tokF toks c.at_).text else []) else []
def termC (c : Cur) : Cur := addC c ⟨(M.T toks c.at_).1, 0, (M.T toks c.at_).2.1, (M.T toks c.at_).2.2⟩
def seeB (s : Str) (c : Cur) : Bool := decide (c.e_ = 0) && isF toks c.at_ s
def nd (op : Int) (name : Str) (n at_ : Int) : GNode := ⟨op, name, n, 0, (tokF toks at_).at_⟩
def refC1 (c : Cur) : Cur := if seeB toks sLS c then eatC toks sRS (termC M toks (eatC toks sLS c)) else c
def refC (at_ : Int) : Cur := underC (refC1 M toks (nameC toks (fromC at_))) (nd toks 33 (nameS toks (fromC at_)) 0 at_)
def loopC (g : Cur → Bool) (b : Cur → Cur) : Nat → Cur → Cur
  | 0, c => c
  | f + 1, c => if g c then loopC g b f (b c) else c
def fuel : Nat := toks.length + 2
def blockC (stmt : Int → Cur) (at_ : Int) : Cur :=
  underC (eatC toks sRB (loopC (fun c => decide (c.e_ = 0) && !isF toks c.at_ sRB) (fun c => addC c (stmt c.at_)) (fuel toks) (eatC toks sLB (fromC at_)))) (nd toks 32 [] 0 at_)
def inC (blk : Int → Cur) (c : Cur) : Cur := addC c (blk c.at_)
structure Comm where
  c : Cur
  op : Int
  name : Str
def commC2 (send recv : Int) (c : Cur) : Comm := if seeB toks sBang c then ⟨termC M toks (eatC toks sBang c), send, []⟩ else ⟨nameC toks (eatC toks sAsk c), recv, nameS toks (eatC toks sAsk c)⟩
def commC (send recv : Int) (c : Cur) : Comm := if c.e_ = 0 then commC2 M toks send recv (addC c (refC M toks c.at_)) else ⟨c, 0, []⟩
def whenC (c : Cur) : Cur := if seeB toks sWhen c then eatC toks sColon (termC M toks (eatC toks sWhen c)) else c
def whenN (c : Cur) : Int := if seeB toks sWhen c then 1 else 0
def afterC (c : Cur) : Comm := if seeB toks sAfter c then ⟨termC M toks (eatC toks sAfter c), 36, []⟩ else commC M toks 35 34 c
def clauseC (blk : Int → Cur) (at_ : Int) : Cur :=
  if isF toks at_ sElse then underC (inC blk (eatC toks sElse (fromC at_))) (nd toks 37 [] 0 at_)
  else underC (inC blk (afterC M toks (whenC M toks (eatC toks sCase (fromC at_)))).c) (nd toks (afterC M toks (whenC M toks (eatC toks sCase (fromC at_)))).op (afterC M toks (whenC M toks (eatC toks sCase (fromC at_)))).name (whenN toks (eatC toks sCase (fromC at_))) at_)
def argsC (c : Cur) : Cur :=
  eatC toks sRP (if (decide ((eatC toks sLP c).e_ = 0) && !isF toks (eatC toks sLP c).at_ sRP) then
    loopC (seeB toks sComma) (fun c => termC M toks (eatC toks sComma c)) (fuel toks) (termC M toks (eatC toks sLP c)) else eatC toks sLP c)
def setC (at_ : Int) : Cur :=
  if seeB toks sRandom (eatC toks sEq (nameC toks (fromC at_))) then
    underC (eatC toks sSemi (eatC toks sRP (termC M toks (eatC toks sLP (eatC toks sRandom (eatC toks sEq (nameC toks (fromC at_)))))))) (nd toks 20 (nameS toks (fromC at_)) 0 at_)
  else underC (eatC toks sSemi (termC M toks (eatC toks sEq (nameC toks (fromC at_))))) (nd toks 19 (nameS toks (fromC at_)) 0 at_)
def oneC (s : Str) (op : Int) (at_ : Int) : Cur := underC (eatC toks sSemi (termC M toks (eatC toks s (fromC at_)))) (nd toks op [] 0 at_)
def noneC (s : Str) (op : Int) (at_ : Int) : Cur := underC (eatC toks sSemi (eatC toks s (fromC at_))) (nd toks op [] 0 at_)
def ifC (blk : Int → Cur) (c : Cur) : Cur := if seeB toks sElse c then inC blk (eatC toks sElse c) else c
def selC (blk : Int → Cur) (c : Cur) : Cur := loopC (fun c => decide (c.e_ = 0) && !isF toks c.at_ sRB) (fun c => addC c (clauseC M toks blk c.at_)) (fuel toks) (addC c (clauseC M toks blk c.at_))
def wordC (blk : Int → Cur) (at_ : Int) : Cur :=
  let s := (tokF toks at_).text
  if s = sVar then underC (eatC toks sSemi (termC M toks (eatC toks sEq (nameC toks (eatC toks sVar (fromC at_)))))) (nd toks 18 (nameS toks (eatC toks sVar (fromC at_))) 0 at_)
  else if s = sStart then underC (eatC toks sSemi (argsC M toks (nameC toks (eatC toks sStart (fromC at_))))) (nd toks 26 (nameS toks (eatC toks sStart (fromC at_))) 0 at_)
  else if s = sSleep then oneC M toks sSleep 27 at_
  else if s = sPrint then oneC M toks sPrint 28 at_
  else if s = sAssert then oneC M toks sAssert 29 at_
  else if s = sSkip then noneC toks sSkip 30 at_
  else if s = sStop then noneC toks sStop 31 at_
  else if s = sWhile then underC (inC blk (termC M toks (eatC toks sWhile (fromC at_)))) (nd toks 24 [] 0 at_)
  else if s = sIf then underC (ifC toks blk (inC blk (termC M toks (eatC toks sIf (fromC at_))))) (nd toks 23 [] 0 at_)
  else if s = sSelect then underC (eatC toks sRB (selC M toks blk (eatC toks sLB (eatC toks sSelect (fromC at_))))) (nd toks 25 [] 0 at_)
  else ⟨[], 0, at_, 11⟩
def stmtC (blk : Int → Cur) (at_ : Int) : Cur :=
  if (tokF toks at_).kind = 1 then
    (if isF toks (at_ + 1) sEq then setC M toks at_
     else underC (eatC toks sSemi (commC M toks 21 22 (fromC at_)).c) (nd toks (commC M toks 21 22 (fromC at_)).op (commC M toks 21 22 (fromC at_)).name 0 at_))
  else if (tokF toks at_).kind = 3 then wordC M toks blk at_
  else ⟨[], 0, at_, 11⟩
def blkF : Nat → Int → Cur
  | 0, at_ => if isF toks at_ sLB then ⟨[], 0, at_, 5⟩ else blockC toks fromC at_
  | k + 1, at_ => blockC toks (stmtC M toks (blkF k)) at_
def sizeC (c : Cur) : Cur := if c.e_ = 0 then (if (tokF toks c.at_).kind = 2 then (if (tokF toks c.at_).n < 1 ∨ (tokF toks c.at_).n > 16 then ⟨c.l, c.n, c.at_, 6⟩ else ⟨c.l, c.n, c.at_ + 1, 0⟩) else ⟨c.l, c.n, c.at_, 11⟩) else c
def sizeN (c : Cur) : Int := if (sizeC toks c).e_ = 0 then (tokF toks c.at_).n else 0
def paramC (c : Cur) : Cur := addC c (underC (nameC toks (fromC c.at_)) (nd toks 39 (nameS toks (fromC c.at_)) 0 c.at_))
def chanC1 (c : Cur) : Cur := if seeB toks sLS c then eatC toks sRS (sizeC toks (eatC toks sLS c)) else c
def chanN (c : Cur) : Int := if seeB toks sLS c then sizeN toks (eatC toks sLS c) else 0
def procC1 (c : Cur) : Cur := if (decide (c.e_ = 0) && !isF toks c.at_ sRP) then loopC (seeB toks sComma) (fun c => paramC toks (eatC toks sComma c)) (fuel toks) (paramC toks c) else c
def declC (at_ : Int) : Cur :=
  if isF toks at_ sChan then
    underC (eatC toks sSemi (chanC1 toks (nameC toks (eatC toks sChan (fromC at_))))) (nd toks 38 (nameS toks (eatC toks sChan (fromC at_))) (chanN toks (nameC toks (eatC toks sChan (fromC at_)))) at_)
  else if isF toks at_ sProc then
    underC (inC (blkF M toks 24) (eatC toks sRP (procC1 toks (eatC toks sLP (nameC toks (eatC toks sProc (fromC at_))))))) (nd toks 40 (nameS toks (eatC toks sProc (fromC at_))) 0 at_)
  else underC (inC (blkF M toks 24) (eatC toks sMain (fromC at_))) (nd toks 41 [] 0 at_)
def unitC : Cur := loopC (fun c => decide (c.e_ = 0) && !decide ((tokF toks c.at_).kind = 0)) (fun c => addC c (declC M toks c.at_)) (fuel toks) (fromC 0)
def unitF : GR10_Got := if (unitC M toks).e_ ≠ 0 then ⟨[], (unitC M toks).at_, (unitC M toks).e_⟩ else ⟨(underC (unitC M toks) ⟨42, [], 0, 0, 0⟩).l, 0, 0⟩
end
structure Cw (toks : List GToken) (at0 : Int) (s q : Nat) (c : Cur) : Prop where
  z : 0 ≤ at0
  lo : at0 ≤ c.at_
  hi : c.at_ ≤ (toks.length : Int)
  w : c.e_ = 0 → (c.l.length : Int) + s ≤ c.at_ - at0
  b : (c.l.length : Int) ≤ c.at_ - at0 + q
section
variable {toks : List GToken} {at0 : Int} {s q : Nat} {c d : Cur}
theorem Cw.mono {s' q' : Nat} (h : Cw toks at0 s q c) (hs : s' ≤ s) (hq : q ≤ q') : Cw toks at0 s' q' c :=
  ⟨h.z, h.lo, h.hi, fun e => by have := h.w e; omega, by have := h.b; omega⟩
theorem cw_from {at_ : Int} (h0 : 0 ≤ at_) (h1 : at_ ≤ (toks.length : Int)) (q : Nat) : Cw toks at_ 0 q (fromC at_) := ⟨h0, Int.le_refl _, h1, fun _ => by simp [fromC], by simp [fromC]⟩
theorem tokF_end {at_ : Int} (h : (toks.length : Int) ≤ at_) : tokF toks at_ = ⟨0, [], 0, 0⟩ := by unfold tokF; rw [if_neg (by omega)]
theorem isF_lt {at_ : Int} {s : Str} (h : isF toks at_ s = true) : at_ < (toks.length : Int) := by
  by_cases hl : at_ < (toks.length : Int)
  · exact hl
  · unfold isF at h
    rw [tokF_end (by omega)] at h
    simp at h
theorem kind_lt {at_ : Int} (h : (tokF toks at_).kind ≠ 0) : at_ < (toks.length : Int) := by
  by_cases hl : at_ < (toks.length : Int)
  · exact hl
  · rw [tokF_end (by omega)] at h; exact absurd rfl h
theorem cw_eat (t : Str) (h : Cw toks at0 s q c) : Cw toks at0 (s + 1) q (eatC toks t c) := by
  obtain ⟨z, lo, hi, w, b⟩ := h
  unfold eatC
  split
  · rename_i he
    split
    · rename_i hs
      have := isF_lt hs
      have := w he
      exact ⟨z, by dsimp only; omega, by dsimp only; omega, fun _ => by dsimp only; omega, by dsimp only; omega⟩
    · exact ⟨z, lo, hi, fun h => by simp at h, b⟩
  · rename_i he
    exact ⟨z, lo, hi, fun h => absurd h he, b⟩
theorem cw_name (h : Cw toks at0 s q c) : Cw toks at0 (s + 1) q (nameC toks c) := by
  obtain ⟨z, lo, hi, w, b⟩ := h
  unfold nameC
  split
  · rename_i he
    split
    · rename_i hs
      have := kind_lt (toks := toks) (at_ := c.at_) (by omega)
      have := w he
      exact ⟨z, by dsimp only; omega, by dsimp only; omega, fun _ => by dsimp only; omega, by dsimp only; omega⟩
    · exact ⟨z, lo, hi, fun h => by simp at h, b⟩
  · rename_i he
    exact ⟨z, lo, hi, fun h => absurd h he, b⟩
theorem cw_size (h : Cw toks at0 s q c) : Cw toks at0 (s + 1) q (sizeC toks c) := by
  obtain ⟨z, lo, hi, w, b⟩ := h
  unfold sizeC
  split
  · rename_i he
    split
    · rename_i hs
      have := kind_lt (toks := toks) (at_ := c.at_) (by omega)
      have := w he
      split
      · exact ⟨z, lo, hi, fun h => by simp at h, b⟩
      · exact ⟨z, by dsimp only; omega, by dsimp only; omega, fun _ => by dsimp only; omega, by dsimp only; omega⟩
    · exact ⟨z, lo, hi, fun h => by simp at h, b⟩
  · rename_i he
    exact ⟨z, lo, hi, fun h => absurd h he, b⟩
theorem cw_add {q' s' : Nat} (h : Cw toks at0 s q c) (hd : c.e_ = 0 → Cw toks c.at_ s' q' d) (hq : q' ≤ q) : Cw toks at0 (s + s') q (addC c d) := by
  obtain ⟨z, lo, hi, w, b⟩ := h
  unfold addC
  split
  · rename_i he
    obtain ⟨z', lo', hi', w', b'⟩ := hd he
    have := w he
    refine ⟨z, by dsimp only; omega, hi', fun e => ?_, ?_⟩
    · have := w' e
      simp only [List.length_append]; omega
    · simp only [List.length_append]; omega
  · rename_i he
    exact ⟨z, lo, hi, fun h => absurd h he, b⟩
theorem cw_term (M : TermC) (h : Cw toks at0 s q c) : Cw toks at0 s q (termC M toks c) := by
  have h0 : 0 ≤ c.at_ := Int.le_trans h.z h.lo
  refine cw_add (s' := 0) (q' := 0) h (fun _ => ⟨h0, M.lo _ _ h0 h.hi, M.hi _ _ h0 h.hi, fun _ => ?_, ?_⟩) (Nat.zero_le _)
  · have := M.len _ _ h0 h.hi; simpa using this
  · have := M.len _ _ h0 h.hi; simpa using this
theorem cw_under {x : GNode} (h : Cw toks at0 (s + 1) q c) : Cw toks at0 s (q + 1) (underC c x) := by
  obtain ⟨z, lo, hi, w, b⟩ := h
  refine ⟨z, lo, hi, fun e => ?_, ?_⟩
  · have := w e
    simp only [underC, List.length_cons]; omega
  · simp only [underC, List.length_cons]; omega
theorem Cw.z1 (h : Cw toks at0 s q c) : 0 ≤ c.at_ := Int.le_trans h.z h.lo
theorem cw_err {at_ e : Int} (h0 : 0 ≤ at_) (h1 : at_ ≤ (toks.length : Int)) (he : e ≠ 0) (s q : Nat) : Cw toks at_ s q ⟨[], 0, at_, e⟩ := ⟨h0, Int.le_refl _, h1, fun h => absurd h he, by simp⟩
theorem cw_ref1 (M : TermC) (h : Cw toks at0 s q c) : Cw toks at0 s q (refC1 M toks c) := by
  unfold refC1
  split
  · exact (cw_eat _ (cw_term M (cw_eat _ h))).mono (by omega) (Nat.le_refl _)
  · exact h
theorem cw_ref (M : TermC) {at_ : Int} (h0 : 0 ≤ at_) (h1 : at_ ≤ (toks.length : Int)) : Cw toks at_ 0 1 (refC M toks at_) :=
  cw_under (cw_ref1 M (cw_name (cw_from h0 h1 0)))
theorem cw_comm2 (M : TermC) (a b : Int) (h : Cw toks at0 s q c) : Cw toks at0 (s + 1) q (commC2 M toks a b c).c := by
  unfold commC2
  split
  · exact cw_term M (cw_eat _ h)
  · exact (cw_name (cw_eat _ h)).mono (by omega) (Nat.le_refl _)
theorem cw_comm (M : TermC) (a b : Int) (h : Cw toks at0 s q c) (hq : 1 ≤ q) : Cw toks at0 (s + 1) q (commC M toks a b c).c := by
  unfold commC
  split
  · exact cw_comm2 M a b (cw_add h (fun _ => cw_ref M h.z1 h.hi) hq)
  · rename_i he
    exact ⟨h.z, h.lo, h.hi, fun h => absurd h he, h.b⟩
theorem loop_cw {g : Cur → Bool} {b : Cur → Cur} (hb : ∀ c, Cw toks at0 s q c → g c = true → Cw toks at0 s q (b c)) : ∀ (f : Nat) (c : Cur), Cw toks at0 s q c → Cw toks at0 s q (loopC g b f c)
  | 0, c, h => h
  | f + 1, c, h => by
    unfold loopC
    cases hg : g c with
    | true => rw [if_pos rfl]; exact loop_cw hb f _ (hb c h hg)
    | false => rw [if_neg (by simp)]; exact h
theorem cw_block {stmt : Int → Cur} (hs : ∀ at_, 0 ≤ at_ → at_ ≤ (toks.length : Int) → Cw toks at_ 0 q (stmt at_)) {at_ : Int} (h0 : 0 ≤ at_) (h1 : at_ ≤ (toks.length : Int)) : Cw toks at_ 1 (q + 1) (blockC toks stmt at_) :=
  cw_under (cw_eat _ (loop_cw (s := 1) (fun _ h _ => cw_add h (fun _ => hs _ h.z1 h.hi) (Nat.le_refl _)) _ _ (cw_eat _ (cw_from h0 h1 q))))
def Blk (toks : List GToken) (q : Nat) (blk : Int → Cur) : Prop := ∀ at_, 0 ≤ at_ → at_ ≤ (toks.length : Int) → Cw toks at_ 1 q (blk at_)
theorem cw_in {blk : Int → Cur} {q' : Nat} (hb : Blk toks q' blk) (h : Cw toks at0 s q c) (hq : q' ≤ q) : Cw toks at0 (s + 1) q (inC blk c) :=
  cw_add h (fun _ => hb _ h.z1 h.hi) hq
theorem cw_when (M : TermC) (h : Cw toks at0 s q c) : Cw toks at0 s q (whenC M toks c) := by
  unfold whenC
  split
  · exact (cw_eat _ (cw_term M (cw_eat _ h))).mono (by omega) (Nat.le_refl _)
  · exact h
theorem cw_after (M : TermC) (h : Cw toks at0 s q c) (hq : 1 ≤ q) : Cw toks at0 s q (afterC M toks c).c := by
  unfold afterC
  split
  · exact (cw_term M (cw_eat _ h)).mono (by omega) (Nat.le_refl _)
  · exact (cw_comm M _ _ h hq).mono (by omega) (Nat.le_refl _)
theorem cw_clause (M : TermC) {blk : Int → Cur} (hb : Blk toks q blk) (hq : 1 ≤ q) {at_ : Int} (h0 : 0 ≤ at_) (h1 : at_ ≤ (toks.length : Int)) : Cw toks at_ 1 (q + 1) (clauseC M toks blk at_) := by
  unfold clauseC
  split
  · exact cw_under (cw_in hb (cw_eat _ (cw_from h0 h1 q)) (Nat.le_refl _))
  · exact cw_under (cw_in hb (cw_after M (cw_when M (cw_eat _ (cw_from h0 h1 q))) hq) (Nat.le_refl _))
theorem cw_args (M : TermC) (h : Cw toks at0 s q c) : Cw toks at0 s q (argsC M toks c) := by
  unfold argsC
  refine (cw_eat (s := s) _ ?_).mono (by omega) (Nat.le_refl _)
  split
  · exact loop_cw (fun _ h _ => (cw_term M (cw_eat _ h)).mono (by omega) (Nat.le_refl _)) _ _ ((cw_term M (cw_eat _ h)).mono (by omega) (Nat.le_refl _))
  · exact (cw_eat _ h).mono (by omega) (Nat.le_refl _)
theorem cw_set (M : TermC) {at_ : Int} (h0 : 0 ≤ at_) (h1 : at_ ≤ (toks.length : Int)) : Cw toks at_ 1 1 (setC M toks at_) := by
  unfold setC
  split
  · exact (cw_under (cw_eat _ (cw_eat _ (cw_term M (cw_eat _ (cw_eat _ (cw_eat _ (cw_name (cw_from h0 h1 0))))))))).mono (by omega) (Nat.le_refl _)
  · exact (cw_under (cw_eat _ (cw_term M (cw_eat _ (cw_name (cw_from h0 h1 0)))))).mono (by omega) (Nat.le_refl _)
theorem cw_word (M : TermC) {blk : Int → Cur} (hb : Blk toks q blk) (hq : 1 ≤ q) {at_ : Int} (h0 : 0 ≤ at_) (h1 : at_ ≤ (toks.length : Int)) : Cw toks at_ 1 (q + 2) (wordC M toks blk at_) := by
  have hf := cw_from h0 h1 q
  have h11 := cw_err (toks := toks) h0 h1 (e := 11) (by decide) 1 (q + 2)
  unfold wordC
  dsimp only
  split
  · exact (cw_under (cw_eat _ (cw_term M (cw_eat _ (cw_name (cw_eat _ hf)))))).mono (by omega) (by omega)
  split
  · exact (cw_under (cw_eat _ (cw_args M (cw_name (cw_eat _ hf))))).mono (by omega) (by omega)
  split
  · exact (cw_under (cw_eat _ (cw_term M (cw_eat _ hf)))).mono (by omega) (by omega)
  split
  · exact (cw_under (cw_eat _ (cw_term M (cw_eat _ hf)))).mono (by omega) (by omega)
  split
  · exact (cw_under (cw_eat _ (cw_term M (cw_eat _ hf)))).mono (by omega) (by omega)
  split
  · exact (cw_under (cw_eat _ (cw_eat _ hf))).mono (by omega) (by omega)
  split
  · exact (cw_under (cw_eat _ (cw_eat _ hf))).mono (by omega) (by omega)
  split
  · exact (cw_under (cw_in hb (cw_term M (cw_eat _ hf)) (Nat.le_refl _))).mono (by omega) (by omega)
  split
  · have hi := cw_in hb (cw_term M (cw_eat sIf hf)) (Nat.le_refl _)
    refine (cw_under (s := 1) (q := q) ?_).mono (by omega) (by omega)
    unfold ifC
    split
    · exact (cw_in hb (cw_eat _ hi) (Nat.le_refl _)).mono (by omega) (Nat.le_refl _)
    · exact hi
  split
  · refine (cw_under (s := 2) (q := q + 1) (cw_eat _ ?_)).mono (by omega) (by omega)
    unfold selC
    have hf' := (cw_eat sLB (cw_eat sSelect hf)).mono (q' := q + 1) (Nat.le_refl _) (by omega)
    exact loop_cw (s := 2) (fun _ h _ => (cw_add h (fun _ => cw_clause M hb hq h.z1 h.hi) (Nat.le_refl _)).mono (by omega) (Nat.le_refl _)) _ _ ((cw_add hf' (fun _ => cw_clause M hb hq hf'.z1 hf'.hi) (Nat.le_refl _)).mono (by omega) (Nat.le_refl _))
  · exact h11
theorem cw_stmt (M : TermC) {blk : Int → Cur} (hb : Blk toks q blk) (hq : 1 ≤ q) {at_ : Int} (h0 : 0 ≤ at_) (h1 : at_ ≤ (toks.length : Int)) : Cw toks at_ 1 (q + 2) (stmtC M toks blk at_) := by
  unfold stmtC
  split
  · split
    · exact (cw_set M h0 h1).mono (by omega) (by omega)
    · exact (cw_under (cw_eat _ (cw_comm M _ _ (cw_from h0 h1 q) hq))).mono (by omega) (by omega)
  · split
    · exact cw_word M hb hq h0 h1
    · exact cw_err h0 h1 (by decide) _ _
theorem cw_blk (M : TermC) : ∀ k, Blk toks (3 * k + 2) (blkF M toks k)
  | 0, at_, h0, h1 => by
    unfold blkF
    split
    · exact cw_err h0 h1 (by decide) _ _
    · exact (cw_block (fun a h0 h1 => cw_from h0 h1 1) h0 h1).mono (by omega) (by omega)
  | k + 1, at_, h0, h1 => by
    unfold blkF
    exact (cw_block (fun a h0 h1 => (cw_stmt M (cw_blk M k) (by omega) h0 h1).mono (by omega) (Nat.le_refl _)) h0 h1).mono (by omega) (by omega)
theorem cw_param (h : Cw toks at0 s q c) (hq : 1 ≤ q) : Cw toks at0 s q (paramC toks c) :=
  cw_add h (fun _ => cw_under (cw_name (cw_from h.z1 h.hi 0))) hq
theorem cw_proc1 (h : Cw toks at0 s q c) (hq : 1 ≤ q) : Cw toks at0 s q (procC1 toks c) := by
  unfold procC1
  split
  · exact loop_cw (fun _ h _ => (cw_param (cw_eat _ h) hq).mono (by omega) (Nat.le_refl _)) _ _ (cw_param h hq)
  · exact h
theorem cw_chan1 (h : Cw toks at0 s q c) : Cw toks at0 s q (chanC1 toks c) := by
  unfold chanC1
  split
  · exact (cw_eat _ (cw_size (cw_eat _ h))).mono (by omega) (Nat.le_refl _)
  · exact h
theorem cw_decl (M : TermC) {at_ : Int} (h0 : 0 ≤ at_) (h1 : at_ ≤ (toks.length : Int)) : Cw toks at_ 1 100 (declC M toks at_) := by
  have hf := cw_from h0 h1 80
  unfold declC
  split
  · exact (cw_under (cw_eat _ (cw_chan1 (cw_name (cw_eat _ hf))))).mono (by omega) (by omega)
  split
  · exact (cw_under (cw_in (cw_blk M 24) (cw_eat _ (cw_proc1 (cw_eat _ (cw_name (cw_eat _ hf))) (by omega))) (by omega))).mono (by omega) (by omega)
  · exact (cw_under (cw_in (cw_blk M 24) (cw_eat _ hf) (by omega))).mono (by omega) (by omega)
def LI (toks : List GToken) (g : Cur → Bool) (b : Cur → Cur) (F : Cur) (f : Nat) (c : Cur) : Prop := loopC g b f c = F ∧ (c.e_ = 0 → (toks.length : Int) + 2 ≤ f + c.at_)
theorem LI.start {g : Cur → Bool} {b : Cur → Cur} (h : Cw toks at0 s q c) : LI toks g b (loopC g b (fuel toks) c) (fuel toks) c := ⟨rfl, fun _ => by have := h.z1; unfold fuel; omega⟩
theorem LI.step {g : Cur → Bool} {b : Cur → Cur} {F : Cur} {f : Nat} (h : LI toks g b F f c) (hg : g c = true) (he : c.e_ = 0) (hh : c.at_ ≤ (toks.length : Int)) (ha : (b c).e_ = 0 → c.at_ + 1 ≤ (b c).at_) : ∃ f', f' < f ∧ LI toks g b F f' (b c) := by
  have h2 := h.2 he
  obtain ⟨f, rfl⟩ : ∃ f', f = f' + 1 := ⟨f - 1, by omega⟩
  refine ⟨f, by omega, ?_, fun e => by have := ha e; omega⟩
  have := h.1
  rw [loopC, hg, if_pos rfl] at this
  exact this
theorem LI.stop {g : Cur → Bool} {b : Cur → Cur} {F : Cur} {f : Nat} (h : LI toks g b F f c) (hg : g c = false) : c = F := by
  have := h.1
  cases f with
  | zero => exact this
  | succ f => rw [loopC, hg, if_neg (by simp)] at this; exact this
theorem adv_add {s' q' : Nat} (h : Cw toks c.at_ (s' + 1) q' d) (he : c.e_ = 0) (hd : (addC c d).e_ = 0) : c.at_ + 1 ≤ (addC c d).at_ := by
  unfold addC at hd ⊢
  rw [if_pos he] at hd ⊢
  have := h.w hd
  dsimp only
  omega
theorem cw_unit (M : TermC) : Cw toks 0 0 100 (unitC M toks) :=
  loop_cw (fun _ h _ => (cw_add h (fun _ => cw_decl M h.z1 h.hi) (Nat.le_refl _)).mono (by omega) (Nat.le_refl _)) _ _ (cw_from (Int.le_refl _) (by omega) _)
end
end Go.Proofs.Ytdbdkdmgfiiljaa
namespace Go.Proofs.Ytdbdkdmgfiiljaa
open Go.Vc Go.Lv Go.Ty
section
variable {toks : List GToken} {at0 : Int} {s q : Nat} {c d : Cur}
theorem rtok_v {at_ : Int} (h0 : 0 ≤ at_) (K : GToken → Prop) (h : K (tokF toks at_)) : V_R10_Tok toks at_ K := by
  refine R10_Tok_lift _ _ _ (cond_intro (fun hc => ?_) fun hc => ?_)
  · have hlt : at_ < (toks.length : Int) := by simpa using hc
    refine ⟨⟨h0, hlt⟩, fun x hx => ?_⟩
    unfold tokF at h
    rw [if_pos hlt, hx] at h; exact h
  · have hlt : ¬ at_ < (toks.length : Int) := by simpa using hc
    unfold tokF at h
    rw [if_neg hlt] at h; exact h
theorem is_cond (x : GToken) (t : Str) (K : Bool → Prop) (h : K ((x.kind == 3 || x.kind == 4) && (x.text == t))) : cond (x.kind == 3) (K (x.text == t)) (cond (x.kind == 4) (K (x.text == t)) (K false)) := by
  refine cond_intro (fun h3 => ?_) fun h3 => cond_intro (fun h4 => ?_) fun h4 => ?_
  · rw [h3] at h; exact h
  · rw [h3, h4] at h; exact h
  · rw [h3, h4] at h; exact h
theorem ris_v {at_ : Int} (h0 : 0 ≤ at_) (t : Str) (K : Bool → Prop) (h : K (isF toks at_ t)) : V_R11_is toks at_ t K :=
  R11_is_lift _ _ _ _ (rtok_v h0 _ (is_cond _ t K h))
theorem rfrom_v {at_ : Int} (K : Cur → Prop) (h : K (fromC at_)) : V_R11_from at_ K := R11_from_lift _ _ h
theorem rsee {e at_ : Int} (h0 : 0 ≤ at_) (t : Str) {A B : Prop} (hA : (decide (e = 0) && isF toks at_ t) = true → A) (hB : (decide (e = 0) && isF toks at_ t) = false → B) :
    ∃ J1 : Bool → Prop, (cond (e == 0) (V_R11_is toks at_ t (fun x => J1 x)) (J1 false)) ∧ ∀ x, J1 x → cond x A B := by
  refine ⟨fun x => x = (decide (e = 0) && isF toks at_ t), cond_intro (fun he => ?_) (fun he => ?_), ?_⟩
  · have he : e = 0 := by simpa using he
    subst he
    exact ris_v h0 t _ rfl
  · have he : ¬ e = 0 := by simpa using he
    show false = _
    rw [decide_eq_false he]; rfl
  · rintro _ rfl
    exact cond_intro hA hB
theorem rseeN {e at_ : Int} (h0 : 0 ≤ at_) (t : Str) {A B : Prop} (hA : (decide (e = 0) && !isF toks at_ t) = true → A) (hB : (decide (e = 0) && !isF toks at_ t) = false → B) :
    ∃ J1 : Bool → Prop, (cond (e == 0) (V_R11_is toks at_ t (fun x => J1 (!x))) (J1 false)) ∧ ∀ x, J1 x → cond x A B := by
  refine ⟨fun x => x = (decide (e = 0) && !isF toks at_ t), cond_intro (fun he => ?_) (fun he => ?_), ?_⟩
  · have he : e = 0 := by simpa using he
    subst he
    exact ris_v h0 t _ rfl
  · have he : ¬ e = 0 := by simpa using he
    show false = _
    rw [decide_eq_false he]; rfl
  · rintro _ rfl
    exact cond_intro hA hB
theorem reat_v (hN : toks.length < 1000000) (hc : Cw toks at0 s q c) (t : Str) (K : Cur → Prop) (h : K (eatC toks t c)) : V_R11_cur_eat c toks t K := by
  have h0 := hc.z1
  have h1 := hc.hi
  refine R11_cur_eat_lift _ _ _ _ ⟨fun l n a e => l = c.l ∧ n = c.n ∧ a = c.at_ ∧ e = if decide (c.e_ = 0) && !isF toks c.at_ t then 11 else c.e_, rseeN h0 t (fun hA => ⟨rfl, rfl, rfl, by rw [if_pos hA]⟩) (fun hB => ⟨rfl, rfl, rfl, by rw [if_neg (by rw [hB]; simp)]⟩), ?_⟩
  rintro _ _ _ _ ⟨rfl, rfl, rfl, rfl⟩
  refine ⟨fun l n a e => ⟨l, n, a, e⟩ = eatC toks t c, ?_, fun _ _ _ _ he => by rw [he]; exact h⟩
  unfold eatC
  by_cases he : c.e_ = 0
  · rw [if_pos he]
    cases hi : isF toks c.at_ t with
    | true =>
      rw [decide_eq_true he]
      have := isF_lt hi
      refine cond_t (by rw [he]; rfl) ?_
      show _ = _
      rw [wrap_in (by omega) (by omega), he]; rfl
    | false =>
      rw [decide_eq_true he]
      exact cond_f rfl rfl
  · rw [if_neg he, decide_eq_false he]
    refine cond_f (by simpa using he) ?_
    rfl
theorem radd_v (K : Cur → Prop) (hl : c.e_ = 0 → c.l.length + d.l.length < 2 ^ 32) (h : K (addC c d)) : V_R11_cur_add c d K := by
  refine R11_cur_add_lift _ _ _ (cond_intro (fun he => ?_) fun he => ?_)
  · have he : ¬ c.e_ = 0 := by simpa using he
    unfold addC at h; rw [if_neg he] at h; exact h
  · have he : c.e_ = 0 := by simpa using he
    unfold addC at h; rw [if_pos he] at h
    have := hl he
    exact ⟨by omega, this, h⟩
theorem runder_v (x : GNode) (K : Cur → Prop) (hl : c.l.length < 2 ^ 31) (h : K (underC c x)) : V_R11_cur_under c x K :=
  R11_cur_under_lift _ _ _ ⟨by simp only [List.length_cons, List.length_nil]; omega, h⟩
theorem Cw.len (hN : toks.length < 1000000) (hc : Cw toks at0 s q c) (hq : q ≤ 1000) : c.l.length < 2000000 := by
  have := hc.b; have := hc.lo; have := hc.hi; have := hc.z
  omega
theorem Cw.sum {q' s' : Nat} (hN : toks.length < 1000000) (hc : Cw toks at0 s q c) (hd : Cw toks c.at_ s' q' d) (hq : q ≤ 1000) (hq' : q' ≤ 1000) : c.l.length + d.l.length < 2 ^ 32 := by
  have := hc.len hN hq; have := hd.len hN hq'
  omega
theorem rterm_v (M : TermC) (hN : toks.length < 1000000) (hc : Cw toks at0 s q c) (hq : q ≤ 1000) (K : Cur → Prop) (h : K (termC M toks c)) : V_R11_cur_term c toks K := by
  have h0 := hc.z1
  refine R11_cur_term_lift _ _ _ (cond_intro (fun he => ?_) fun he => ?_)
  · have he : ¬ c.e_ = 0 := by simpa using he
    unfold termC addC at h; rw [if_neg he] at h; exact h
  · refine M.rv toks (by omega) _ h0 hc.hi _ (radd_v _ (fun _ => ?_) h)
    have h1 := hc.len hN hq
    have h2 := M.len toks _ h0 hc.hi
    have h3 := M.hi toks _ h0 hc.hi
    dsimp only
    omega
theorem rname_v (hN : toks.length < 1000000) (hc : Cw toks at0 s q c) (K : Cur → Str → Prop) (h : K (nameC toks c) (nameS toks c)) : V_R11_cur_name c toks K := by
  have h0 := hc.z1
  have h1 := hc.hi
  refine R11_cur_name_lift _ _ _ (rtok_v h0 _ ⟨fun l n a e => l = c.l ∧ n = c.n ∧ a = c.at_ ∧ e = if c.e_ = 0 ∧ (tokF toks c.at_).kind ≠ 1 then 11 else c.e_, ?_, ?_⟩)
  · refine ⟨fun x => x = decide (c.e_ = 0 ∧ (tokF toks c.at_).kind ≠ 1), cond_intro (fun he => ?_) (fun he => ?_), ?_⟩
    · have he : c.e_ = 0 := by simpa using he
      show _ = _
      rw [Bool.eq_iff_iff]; simp [he]
    · have he : ¬ c.e_ = 0 := by simpa using he
      show false = _
      rw [decide_eq_false (fun h => he h.1)]
    · rintro _ rfl
      refine cond_intro (fun hh => ⟨rfl, rfl, rfl, by rw [if_pos (of_decide_eq_true hh)]⟩) (fun hh => ⟨rfl, rfl, rfl, by rw [if_neg (of_decide_eq_false hh)]⟩)
  · rintro _ _ _ _ ⟨rfl, rfl, rfl, rfl⟩
    unfold nameC nameS at h
    by_cases he : c.e_ = 0
    · rw [if_pos he, if_pos he] at h
      by_cases hk : (tokF toks c.at_).kind = 1
      · rw [if_pos hk, if_pos hk] at h
        have := kind_lt (toks := toks) (at_ := c.at_) (by omega)
        rw [if_neg (fun hh => hh.2 hk)]
        refine cond_f (by simpa using he) ?_
        rw [wrap_in (by omega) (by omega), he]; exact h
      · rw [if_neg hk, if_neg hk] at h
        rw [if_pos ⟨he, hk⟩]; exact h
    · rw [if_neg he, if_neg he] at h
      rw [if_neg (fun hh => he hh.1)]
      exact cond_t (by simpa using he) h
theorem rref_v (M : TermC) (hN : toks.length < 1000000) {at_ : Int} (h0 : 0 ≤ at_) (h1 : at_ ≤ (toks.length : Int)) (K : Cur → Prop) (h : K (refC M toks at_)) : V_R11_ref toks at_ K := by
  have hf := cw_from h0 h1 0
  have hn := cw_name hf
  refine R11_ref_lift _ _ _ (rfrom_v _ (rname_v hN hf _ ⟨fun l n a e => ⟨l, n, a, e⟩ = refC1 M toks (nameC toks (fromC at_)), rsee hn.z1 sLS (fun hA => ?_) (fun hB => ?_), ?_⟩))
  · have e1 := cw_eat sLS hn
    refine reat_v hN hn sLS _ (rterm_v M hN e1 (by omega) _ (reat_v hN (cw_term M e1) sRS _ ?_))
    unfold refC1; rw [if_pos (show seeB toks sLS _ = true from hA)]
  · unfold refC1; rw [if_neg (by rw [show seeB toks sLS _ = false from hB]; simp)]
  · intro l n a e he
    refine rtok_v h0 _ ?_
    rw [he]
    exact runder_v _ _ (by have := (cw_ref1 M hn).len hN (by omega); omega) h
theorem rin_v {q' : Nat} (hN : toks.length < 1000000) {blk : Int → Cur} {deep : Int} (hb : Blk toks q' blk) (hq' : q' ≤ 1000) (hB : ∀ at_, 0 ≤ at_ → at_ ≤ (toks.length : Int) → ∀ K : Cur → Prop, K (blk at_) → V_R11_block toks at_ deep K)
    (hc : Cw toks at0 s q c) (hq : q ≤ 1000) (K : Cur → Prop) (h : K (inC blk c)) : V_R11_cur_in c toks deep K := by
  refine R11_cur_in_lift _ _ _ _ (cond_intro (fun he => ?_) fun he => ?_)
  · have he : ¬ c.e_ = 0 := by simpa using he
    unfold inC addC at h; rw [if_neg he] at h; exact h
  · exact hB _ hc.z1 hc.hi _ (radd_v _ (fun _ => hc.sum hN (hb _ hc.z1 hc.hi) hq hq') h)
theorem rcomm_v (M : TermC) (hN : toks.length < 1000000) (a b : Int) (hc : Cw toks at0 s q c) (h1q : 1 ≤ q) (hq : q ≤ 1000) (K : Cur → Int → Str → Prop) (h : K (commC M toks a b c).c (commC M toks a b c).op (commC M toks a b c).name) : V_R11_cur_comm c toks a b K := by
  refine R11_cur_comm_lift _ _ _ _ _ (cond_intro (fun he => ?_) fun he => ?_)
  · have he : ¬ c.e_ = 0 := by simpa using he
    unfold commC at h; rw [if_neg he] at h; exact h
  · have he : c.e_ = 0 := by simpa using he
    unfold commC at h; rw [if_pos he] at h
    have hr := cw_ref M hc.z1 hc.hi
    have ha := cw_add hc (fun _ => hr) h1q
    refine ⟨fun l n x e => ⟨l, n, x, e⟩ = addC c (refC M toks c.at_), rref_v M hN hc.z1 hc.hi _ (radd_v _ (fun _ => hc.sum hN hr hq (by omega)) rfl), ?_⟩
    intro l n x e hx
    rw [← hx] at h ha
    refine rsee ha.z1 sBang (fun hA => ?_) (fun hB => ?_)
    · unfold commC2 at h
      rw [if_pos (show seeB toks sBang ⟨l, n, x, e⟩ = true from hA)] at h
      exact reat_v hN ha sBang _ (rterm_v M hN (cw_eat _ ha) hq _ h)
    · unfold commC2 at h
      rw [if_neg (by rw [show seeB toks sBang ⟨l, n, x, e⟩ = false from hB]; simp)] at h
      exact reat_v hN ha sAsk _ (rname_v hN (cw_eat _ ha) _ h)
theorem see_eat {t : Str} (h : (decide (c.e_ = 0) && isF toks c.at_ t) = true) : eatC toks t c = ⟨c.l, c.n, c.at_ + 1, 0⟩ := by
  simp only [Bool.and_eq_true, decide_eq_true_eq] at h
  unfold eatC
  rw [if_pos h.1, if_pos h.2]
theorem term_at (M : TermC) (hc : Cw toks at0 s q c) (he : c.e_ = 0) : c.at_ ≤ (termC M toks c).at_ := by
  unfold termC addC
  rw [if_pos he]
  exact M.lo _ _ hc.z1 hc.hi
theorem rargs_v (M : TermC) (hN : toks.length < 1000000) (hc : Cw toks at0 s q c) (hq : q ≤ 1000) (K : Cur → Prop) (h : K (argsC M toks c)) : V_R11_cur_args c toks K := by
  have e1 := cw_eat sLP hc
  refine R11_cur_args_lift _ _ _ (reat_v hN hc sLP _ ?_)
  unfold argsC at h
  refine ⟨fun l n a e => K (eatC toks sRP ⟨l, n, a, e⟩) ∧ Cw toks at0 s q ⟨l, n, a, e⟩, rseeN e1.z1 sRP (fun hA => ?_) (fun hB => ?_), ?_⟩
  · rw [if_pos hA] at h
    have t1 := (cw_term M e1).mono (s' := s) (by omega) (Nat.le_refl _)
    refine rterm_v M hN e1 hq _ ⟨fun l n a e f => Cw toks at0 s q ⟨l, n, a, e⟩ ∧ LI toks (seeB toks sComma) (fun c => termC M toks (eatC toks sComma c)) (loopC (seeB toks sComma) (fun c => termC M toks (eatC toks sComma c)) (fuel toks) (termC M toks (eatC toks sLP c))) f ⟨l, n, a, e⟩, ⟨_, t1, LI.start t1⟩, ?_⟩
    rintro l n a e f ⟨hw, hl⟩
    refine rsee hw.z1 sComma (fun hA => ?_) (fun hB => ?_)
    · have e2 := cw_eat sComma hw
      refine reat_v hN hw sComma _ (rterm_v M hN e2 hq _ ?_)
      have hw2 := cw_term M e2
      have hst := hl.step hA (by simp at hA; exact hA.1) hw.hi (fun hd => ?_)
      · obtain ⟨f', hf', hl'⟩ := hst
        exact ⟨f', hf', hw2.mono (by omega) (Nat.le_refl _), hl'⟩
      · have hs := see_eat (c := ⟨l, n, a, e⟩) hA
        have := term_at M e2 (by rw [hs])
        rw [hs] at this ⊢
        exact this
    · rw [← hl.stop hB] at h
      exact ⟨h, hw⟩
  · rw [if_neg (by rw [hB]; simp)] at h
    exact ⟨h, e1.mono (by omega) (Nat.le_refl _)⟩
  · rintro l n a e ⟨h, hw⟩
    exact reat_v hN hw sRP _ h
end
end Go.Proofs.Ytdbdkdmgfiiljaa
namespace Go.Proofs.Ytdbdkdmgfiiljaa
open Go.Vc Go.Lv Go.Ty
section
variable {toks : List GToken} {at0 : Int} {s q : Nat} {c d : Cur}
theorem rset_v (M : TermC) (hN : toks.length < 1000000) {at_ : Int} (h0 : 0 ≤ at_) (h1 : at_ ≤ (toks.length : Int)) (K : Cur → Prop) (h : K (setC M toks at_)) : V_R11_set toks at_ ⟨0, [], 0, 0, (tokF toks at_).at_⟩ K := by
  have hf := cw_from h0 h1 0
  have hn := cw_name hf
  have e1 := cw_eat sEq hn
  refine R11_set_lift _ _ _ _ (rfrom_v _ (rname_v hN hf _ (reat_v hN hn sEq _ ?_)))
  refine ⟨fun l n a e op nm N kids at' => nm = nameS toks (fromC at_) ∧ N = 0 ∧ kids = 0 ∧ at' = (tokF toks at_).at_ ∧ Cw toks at_ 1 0 ⟨l, n, a, e⟩ ∧ setC M toks at_ = underC (eatC toks sSemi ⟨l, n, a, e⟩) (nd toks op (nameS toks (fromC at_)) 0 at_), rsee e1.z1 sRandom (fun hA => ?_) (fun hB => ?_), ?_⟩
  · have e2 := cw_eat sRandom e1
    have e3 := cw_eat sLP e2
    have e4 := cw_term M e3
    have e5 := cw_eat sRP e4
    refine reat_v hN e1 sRandom _ (reat_v hN e2 sLP _ (rterm_v M hN e3 (by omega) _ (reat_v hN e4 sRP _ ⟨rfl, rfl, rfl, rfl, e5.mono (by omega) (by omega), ?_⟩)))
    unfold setC; rw [if_pos (show seeB toks sRandom _ = true from hA)]
  · have e4 := cw_term M e1
    refine rterm_v M hN e1 (by omega) _ ⟨rfl, rfl, rfl, rfl, e4.mono (by omega) (by omega), ?_⟩
    unfold setC; rw [if_neg (by rw [show seeB toks sRandom _ = false from hB]; simp)]
  · rintro l n a e op nm N kids at' ⟨rfl, rfl, rfl, rfl, hw, he⟩
    rw [he] at h
    exact reat_v hN hw sSemi _ (runder_v _ _ (by have := (cw_eat sSemi hw).len hN (by omega); omega) h)
def RB (M : TermC) (toks : List GToken) (k : Nat) : Prop := ∀ at_, 0 ≤ at_ → at_ ≤ (toks.length : Int) → ∀ K : Cur → Prop, K (blkF M toks k at_) → V_R11_block toks at_ (25 - (k : Int)) K
def RS (M : TermC) (toks : List GToken) (k : Nat) : Prop := ∀ at_, 0 ≤ at_ → at_ ≤ (toks.length : Int) → ∀ K : Cur → Prop, K (stmtC M toks (blkF M toks k) at_) → V_R11_stmt toks at_ (24 - (k : Int)) K
theorem wrap_deep {k : Nat} (hk : k ≤ 24) : IntKind.i64.wrap ((24 - (k : Int)) + 1) = 25 - (k : Int) := by rw [wrap_in (by omega) (by omega)]; omega
theorem rclause_v (M : TermC) (hN : toks.length < 1000000) {k : Nat} (hk : k ≤ 24) (hB : RB M toks k) {at_ : Int} (h0 : 0 ≤ at_) (h1 : at_ ≤ (toks.length : Int)) (K : Cur → Prop) (h : K (clauseC M toks (blkF M toks k) at_)) : V_R11_clause toks at_ (24 - (k : Int)) K := by
  have hb := cw_blk (toks := toks) M k
  have hf := cw_from h0 h1 200
  refine R11_clause_lift _ _ _ _ (rtok_v h0 _ (ris_v h0 sElse _ (cond_intro (fun hA => ?_) fun hA => ?_)))
  · unfold clauseC at h; rw [if_pos hA] at h
    have e1 := cw_eat sElse hf
    have i1 := cw_in hb e1 (by omega)
    refine rfrom_v _ (reat_v hN hf sElse _ ?_)
    rw [wrap_deep hk]
    exact rin_v hN hb (by omega) hB e1 (by omega) _ (runder_v _ _ (by have := i1.len hN (by omega); omega) h)
  · unfold clauseC at h; rw [if_neg (by rw [hA]; simp)] at h
    have e1 := cw_eat sCase hf
    refine rfrom_v _ (reat_v hN hf sCase _ ?_)
    generalize hc1 : eatC toks sCase (fromC at_) = c1 at h e1
    have w1 := cw_when M e1
    refine ⟨fun l n a e op nm N kids at' => op = 0 ∧ nm = [] ∧ N = whenN toks c1 ∧ kids = 0 ∧ at' = (tokF toks at_).at_ ∧ ⟨l, n, a, e⟩ = whenC M toks c1, rsee e1.z1 sWhen (fun hA => ?_) (fun hB => ?_), ?_⟩
    · have e2 := cw_eat sWhen e1
      refine reat_v hN e1 sWhen _ (rterm_v M hN e2 (by omega) _ (reat_v hN (cw_term M e2) sColon _ ⟨rfl, rfl, ?_, rfl, rfl, ?_⟩))
      · unfold whenN; rw [if_pos (show seeB toks sWhen c1 = true from hA)]
      · unfold whenC; rw [if_pos (show seeB toks sWhen c1 = true from hA)]
    · refine ⟨rfl, rfl, ?_, rfl, rfl, ?_⟩
      · unfold whenN; rw [if_neg (by rw [show seeB toks sWhen c1 = false from hB]; simp)]
      · unfold whenC; rw [if_neg (by rw [show seeB toks sWhen c1 = false from hB]; simp)]
    · rintro l n a e _ _ _ _ _ ⟨rfl, rfl, rfl, rfl, rfl, hx⟩
      generalize whenC M toks c1 = c2 at h w1 hx
      subst hx
      have a1 := cw_after M w1 (by omega)
      refine ⟨fun l1 n1 a1 e1 op nm N kids at' => op = (afterC M toks ⟨l, n, a, e⟩).op ∧ nm = (afterC M toks ⟨l, n, a, e⟩).name ∧ N = whenN toks c1 ∧ kids = 0 ∧ at' = (tokF toks at_).at_ ∧ ⟨l1, n1, a1, e1⟩ = (afterC M toks ⟨l, n, a, e⟩).c, rsee w1.z1 sAfter (fun hA => ?_) (fun hB => ?_), ?_⟩
      · have e2 := cw_eat sAfter w1
        refine reat_v hN w1 sAfter _ (rterm_v M hN e2 (by omega) _ ?_)
        unfold afterC; rw [if_pos (show seeB toks sAfter ⟨l, n, a, e⟩ = true from hA)]
        exact ⟨rfl, rfl, rfl, rfl, rfl, rfl⟩
      · refine rcomm_v M hN 35 34 w1 (by omega) (by omega) _ ?_
        unfold afterC; rw [if_neg (by rw [show seeB toks sAfter ⟨l, n, a, e⟩ = false from hB]; simp)]
        exact ⟨rfl, rfl, rfl, rfl, rfl, rfl⟩
      · rintro l1 n1 x1 e1 _ _ _ _ _ ⟨rfl, rfl, rfl, rfl, rfl, hx⟩
        rw [hx, wrap_deep hk]
        have i1 := cw_in hb a1 (by omega)
        exact rin_v hN hb (by omega) hB a1 (by omega) _ (runder_v _ _ (by have := i1.len hN (by omega); omega) h)
theorem rone_v (M : TermC) (hN : toks.length < 1000000) (t : Str) (op : Int) {at_ : Int} (h0 : 0 ≤ at_) (h1 : at_ ≤ (toks.length : Int)) (K : Cur → Prop) (h : K (oneC M toks t op at_)) :
    V_R11_cur_eat (fromC at_) toks t (fun x16 => V_R11_cur_term x16 toks (fun x17 => V_R11_cur_eat x17 toks [59] (fun x18 => V_R11_cur_under x18 (⟨op, [], 0, 0, (tokF toks at_).at_⟩ : GNode) (fun x19 => K x19)))) := by
  have hf := cw_from h0 h1 0
  have e1 := cw_eat t hf
  have e2 := cw_term M e1
  have e3 := cw_eat sSemi e2
  exact reat_v hN hf t _ (rterm_v M hN e1 (by omega) _ (reat_v hN e2 sSemi _ (runder_v _ _ (by have := e3.len hN (by omega); omega) h)))
theorem rnone_v (hN : toks.length < 1000000) (t : Str) (op : Int) {at_ : Int} (h0 : 0 ≤ at_) (h1 : at_ ≤ (toks.length : Int)) (K : Cur → Prop) (h : K (noneC toks t op at_)) :
    V_R11_cur_eat (fromC at_) toks t (fun x16 => V_R11_cur_eat x16 toks [59] (fun x18 => V_R11_cur_under x18 (⟨op, [], 0, 0, (tokF toks at_).at_⟩ : GNode) (fun x19 => K x19))) := by
  have hf := cw_from h0 h1 0
  have e1 := cw_eat t hf
  have e3 := cw_eat sSemi e1
  exact reat_v hN hf t _ (reat_v hN e1 sSemi _ (runder_v _ _ (by have := e3.len hN (by omega); omega) h))
theorem rstmt_v (M : TermC) (hN : toks.length < 1000000) {k : Nat} (hk : k ≤ 24) (hB : RB M toks k) : RS M toks k := by
  intro at_ h0 h1 K h
  have hb := cw_blk (toks := toks) M k
  have hf := cw_from h0 h1 200
  refine R11_stmt_lift _ _ _ _ (rtok_v h0 _ (rfrom_v _ ⟨fun x => x = (decide ((tokF toks at_).kind = 1) && isF toks (at_ + 1) sEq), ?_, ?_⟩))
  · refine cond_intro (fun hc => ?_) fun hc => ?_
    · have hk1 : (tokF toks at_).kind = 1 := by simpa using hc
      rw [wrap_in (by omega) (by omega)]
      refine ris_v (by omega) sEq _ ?_
      rw [decide_eq_true hk1]; rfl
    · have hk1 : ¬ (tokF toks at_).kind = 1 := by simpa using hc
      show false = _
      rw [decide_eq_false hk1]; rfl
  rintro _ rfl
  unfold stmtC at h
  refine cond_intro (fun hc => ?_) fun hc => cond_intro (fun h1k => ?_) fun h1k => cond_intro (fun h3 => ?_) fun h3 => ?_
  · simp only [Bool.and_eq_true, decide_eq_true_eq] at hc
    rw [if_pos hc.1, if_pos hc.2] at h
    exact rset_v M hN h0 h1 _ h
  · have hk1 : (tokF toks at_).kind = 1 := by simpa using h1k
    rw [hk1] at hc
    rw [if_pos hk1, if_neg (by simpa using hc)] at h
    have c1 := cw_comm M 21 22 hf (by omega)
    exact rcomm_v M hN 21 22 hf (by omega) (by omega) _ (reat_v hN c1 sSemi _ (runder_v _ _ (by have := (cw_eat sSemi c1).len hN (by omega); omega) h))
  · have hk1 : ¬ (tokF toks at_).kind = 1 := by simpa using h1k
    have hk3 : ¬ (tokF toks at_).kind = 3 := by simpa using h3
    rw [if_neg hk1, if_neg hk3] at h
    exact h
  · have hk1 : ¬ (tokF toks at_).kind = 1 := by simpa using h1k
    have hk3 : (tokF toks at_).kind = 3 := by simpa using h3
    rw [if_neg hk1, if_pos hk3] at h
    clear hc h1k h3
    unfold wordC at h
    dsimp only at h
    refine cond_intro (fun e => ?_) fun e => ?_
    · rw [if_pos (show (tokF toks at_).text = sVar from eq_of_beq e)] at h
      have e1 := cw_eat sVar hf
      have e2 := cw_name e1
      have e3 := cw_eat sEq e2
      have e4 := cw_term M e3
      have e5 := cw_eat sSemi e4
      exact reat_v hN hf sVar _ (rname_v hN e1 _ (reat_v hN e2 sEq _ (rterm_v M hN e3 (by omega) _ (reat_v hN e4 sSemi _ (runder_v _ _ (by have := e5.len hN (by omega); omega) h)))))
    rw [if_neg (show ¬ (tokF toks at_).text = sVar from ne_of_beq_false e)] at h
    refine cond_intro (fun e => ?_) fun e => ?_
    · rw [if_pos (show (tokF toks at_).text = sStart from eq_of_beq e)] at h
      have e1 := cw_eat sStart hf
      have e2 := cw_name e1
      have e3 := cw_args M e2
      have e5 := cw_eat sSemi e3
      exact reat_v hN hf sStart _ (rname_v hN e1 _ (rargs_v M hN e2 (by omega) _ (reat_v hN e3 sSemi _ (runder_v _ _ (by have := e5.len hN (by omega); omega) h))))
    rw [if_neg (show ¬ (tokF toks at_).text = sStart from ne_of_beq_false e)] at h
    refine cond_intro (fun e => ?_) fun e => ?_
    · rw [if_pos (show (tokF toks at_).text = sSleep from eq_of_beq e)] at h
      exact rone_v M hN sSleep 27 h0 h1 _ h
    rw [if_neg (show ¬ (tokF toks at_).text = sSleep from ne_of_beq_false e)] at h
    refine cond_intro (fun e => ?_) fun e => ?_
    · rw [if_pos (show (tokF toks at_).text = sPrint from eq_of_beq e)] at h
      exact rone_v M hN sPrint 28 h0 h1 _ h
    rw [if_neg (show ¬ (tokF toks at_).text = sPrint from ne_of_beq_false e)] at h
    refine cond_intro (fun e => ?_) fun e => ?_
    · rw [if_pos (show (tokF toks at_).text = sAssert from eq_of_beq e)] at h
      exact rone_v M hN sAssert 29 h0 h1 _ h
    rw [if_neg (show ¬ (tokF toks at_).text = sAssert from ne_of_beq_false e)] at h
    refine cond_intro (fun e => ?_) fun e => ?_
    · rw [if_pos (show (tokF toks at_).text = sSkip from eq_of_beq e)] at h
      exact rnone_v hN sSkip 30 h0 h1 _ h
    rw [if_neg (show ¬ (tokF toks at_).text = sSkip from ne_of_beq_false e)] at h
    refine cond_intro (fun e => ?_) fun e => ?_
    · rw [if_pos (show (tokF toks at_).text = sStop from eq_of_beq e)] at h
      exact rnone_v hN sStop 31 h0 h1 _ h
    rw [if_neg (show ¬ (tokF toks at_).text = sStop from ne_of_beq_false e)] at h
    refine cond_intro (fun e => ?_) fun e => ?_
    · rw [if_pos (show (tokF toks at_).text = sWhile from eq_of_beq e)] at h
      have e1 := cw_eat sWhile hf
      have e2 := cw_term M e1
      have e3 := cw_in hb e2 (by omega)
      refine reat_v hN hf sWhile _ (rterm_v M hN e1 (by omega) _ ?_)
      rw [wrap_deep hk]
      exact rin_v hN hb (by omega) hB e2 (by omega) _ (runder_v _ _ (by have := e3.len hN (by omega); omega) h)
    rw [if_neg (show ¬ (tokF toks at_).text = sWhile from ne_of_beq_false e)] at h
    refine cond_intro (fun e => ?_) fun e => ?_
    · rw [if_pos (show (tokF toks at_).text = sIf from eq_of_beq e)] at h
      have e1 := cw_eat sIf hf
      have e2 := cw_term M e1
      have e3 := cw_in hb e2 (by omega)
      refine reat_v hN hf sIf _ (rterm_v M hN e1 (by omega) _ ?_)
      rw [wrap_deep hk]
      refine rin_v hN hb (by omega) hB e2 (by omega) _ ?_
      generalize inC (blkF M toks k) (termC M toks (eatC toks sIf (fromC at_))) = c1 at h e3
      refine ⟨fun l n a e => ⟨l, n, a, e⟩ = ifC toks (blkF M toks k) c1, rsee e3.z1 sElse (fun hA => ?_) (fun hB' => ?_), ?_⟩
      · have e4 := cw_eat sElse e3
        refine reat_v hN e3 sElse _ (rin_v hN hb (by omega) hB e4 (by omega) _ ?_)
        unfold ifC; rw [if_pos (show seeB toks sElse c1 = true from hA)]
      · unfold ifC; rw [if_neg (by rw [show seeB toks sElse c1 = false from hB']; simp)]
      · intro l n a e hx
        rw [hx]
        refine runder_v _ _ ?_ h
        unfold ifC
        split
        · have := (cw_in hb (cw_eat sElse e3) (by omega)).len hN (by omega); omega
        · have := e3.len hN (by omega); omega
    rw [if_neg (show ¬ (tokF toks at_).text = sIf from ne_of_beq_false e)] at h
    refine cond_intro (fun e => ?_) fun e => ?_
    · rw [if_pos (show (tokF toks at_).text = sSelect from eq_of_beq e)] at h
      have e1 := cw_eat sSelect hf
      have e2 := cw_eat sLB e1
      refine reat_v hN hf sSelect _ (reat_v hN e1 sLB _ ?_)
      generalize eatC toks sLB (eatC toks sSelect (fromC at_)) = c1 at h e2
      have hcl : ∀ {a : Int}, 0 ≤ a → a ≤ (toks.length : Int) → Cw toks a 1 (3 * k + 3) (clauseC M toks (blkF M toks k) a) := fun ha hb' => cw_clause M hb (by omega) ha hb'
      have a1 := (cw_add e2 (fun _ => hcl e2.z1 e2.hi) (by omega)).mono (s' := 2) (by omega) (Nat.le_refl _)
      refine ⟨fun l n a e => ⟨l, n, a, e⟩ = addC c1 (clauseC M toks (blkF M toks k) c1.at_), cond_intro (fun he => ?_) (fun he => ?_), ?_⟩
      · exact rclause_v M hN hk hB e2.z1 e2.hi _ (radd_v _ (fun _ => e2.sum hN (hcl e2.z1 e2.hi) (by omega) (by omega)) rfl)
      · show c1 = _
        unfold addC
        rw [if_neg (by simpa using he)]
      · intro l n a e hx
        rw [← hx] at a1
        unfold selC at h
        rw [← hx] at h
        generalize hF : loopC (fun c => decide (c.e_ = 0) && !isF toks c.at_ sRB) (fun c => addC c (clauseC M toks (blkF M toks k) c.at_)) (fuel toks) ⟨l, n, a, e⟩ = F at h
        refine ⟨fun l n a e f => Cw toks at_ 2 200 ⟨l, n, a, e⟩ ∧ LI toks (fun c => decide (c.e_ = 0) && !isF toks c.at_ sRB) (fun c => addC c (clauseC M toks (blkF M toks k) c.at_)) F f ⟨l, n, a, e⟩, ⟨_, a1, hF ▸ LI.start a1⟩, ?_⟩
        clear hF
        clear hx a1
        rintro l n a e f ⟨hw, hl⟩
        refine rseeN hw.z1 sRB (fun hA => ?_) (fun hB' => ?_)
        · have he : e = 0 := by simp at hA; exact hA.1
          have hcw := hcl hw.z1 hw.hi
          obtain ⟨f', hf', hl'⟩ := hl.step hA he hw.hi (fun hd => adv_add hcw he hd)
          exact rclause_v M hN hk hB hw.z1 hw.hi _ (radd_v _ (fun _ => hw.sum hN hcw (by omega) (by omega)) ⟨f', hf', (cw_add hw (fun _ => hcw) (by omega)).mono (by omega) (Nat.le_refl _), hl'⟩)
        · rw [← hl.stop hB'] at h
          exact reat_v hN hw sRB _ (runder_v _ _ (by have := (cw_eat sRB hw).len hN (by omega); omega) h)
    rw [if_neg (show ¬ (tokF toks at_).text = sSelect from ne_of_beq_false e)] at h
    exact h
theorem rblk_v (hN : toks.length < 1000000) {stmt : Int → Cur} {deep : Int} {at_ : Int} (h0 : 0 ≤ at_) (h1 : at_ ≤ (toks.length : Int)) (hq : q ≤ 900)
    (hS : isF toks at_ sLB = true → ∀ a, 0 ≤ a → a ≤ (toks.length : Int) → Cw toks a 1 q (stmt a) ∧ ∀ K : Cur → Prop, K (stmt a) → V_R11_stmt toks a deep K) (K : Cur → Prop) (h : K (blockC toks stmt at_)) :
    V_R11_cur_eat (fromC at_) toks [123] (fun x3 =>
      ∃ (I : (List GNode) → Int → Int → Int → Nat → Prop), (∃ n1, I x3.l x3.n x3.at_ x3.e_ n1) ∧
      ∀ (l : List GNode) (n : Int) (atx1 : Int) (ex : Int) (n1 : Nat), I l n atx1 ex n1 →
      ∃ (J1 : Bool → Prop),
      (cond (ex == 0) (V_R11_is toks atx1 [125] (fun x5 => J1 (!x5))) (J1 false)) ∧
      ∀ (x4 : Bool), J1 x4 →
      cond (x4)
      (V_R11_stmt toks atx1 deep (fun x6 => V_R11_cur_add (⟨l, n, atx1, ex⟩ : GR11_cur) x6 (fun x7 => ∃ n2, n2 < n1 ∧ I x7.l x7.n x7.at_ x7.e_ n2)))
      (V_R11_cur_eat (⟨l, n, atx1, ex⟩ : GR11_cur) toks [125] (fun x8 => V_R10_Tok toks at_ (fun x9 => V_R11_cur_under x8 (⟨32, [], 0, 0, x9.at_⟩ : GNode) (fun x10 => K x10))))) := by
  have hf := cw_from h0 h1 q
  have e1 := cw_eat sLB hf
  refine reat_v hN hf sLB _ ?_
  have hsome : (eatC toks sLB (fromC at_)).e_ = 0 → isF toks at_ sLB = true := by
    unfold eatC fromC
    dsimp only
    rw [if_pos rfl]
    split
    · rename_i hx; exact fun _ => hx
    · intro hx; cases hx
  unfold blockC at h
  generalize eatC toks sLB (fromC at_) = c0 at h e1 hsome
  generalize hF : loopC (fun c => decide (c.e_ = 0) && !isF toks c.at_ sRB) (fun c => addC c (stmt c.at_)) (fuel toks) c0 = F at h
  refine ⟨fun l n a e f => Cw toks at_ 1 q ⟨l, n, a, e⟩ ∧ (e = 0 → isF toks at_ sLB = true) ∧ LI toks (fun c => decide (c.e_ = 0) && !isF toks c.at_ sRB) (fun c => addC c (stmt c.at_)) F f ⟨l, n, a, e⟩, ⟨_, e1, hsome, hF ▸ LI.start e1⟩, ?_⟩
  clear e1 hsome
  rintro l n a e f ⟨hw, hso, hl⟩
  refine rseeN hw.z1 sRB (fun hA => ?_) (fun hB' => ?_)
  · have he : e = 0 := by simp at hA; exact hA.1
    obtain ⟨hcw, hst⟩ := hS (hso he) a hw.z1 hw.hi
    obtain ⟨f', hf', hl'⟩ := hl.step hA he hw.hi (fun hd => adv_add hcw he hd)
    exact hst _ (radd_v _ (fun _ => hw.sum hN hcw (by omega) (by omega)) ⟨f', hf', (cw_add hw (fun _ => hcw) (by omega)).mono (by omega) (Nat.le_refl _), fun _ => hso he, hl'⟩)
  · rw [← hl.stop hB'] at h
    exact reat_v hN hw sRB _ (rtok_v h0 _ (runder_v _ _ (by have := (cw_eat sRB hw).len hN (by omega); omega) h))
theorem RB_all (M : TermC) (hN : toks.length < 1000000) : ∀ k, k ≤ 24 → RB M toks k
  | 0, _ => fun at_ h0 h1 K h => by
    refine R11_block_lift _ _ _ _ (rfrom_v _ ⟨fun x => x = isF toks at_ sLB, ris_v h0 sLB _ (cond_intro (fun hc => ?_) (fun hc => ?_)), ?_⟩)
    · show decide _ = _
      have hc : isF toks at_ sLB = true := hc
      rw [hc]; decide
    · show false = _
      have hc : isF toks at_ sLB = false := hc
      rw [hc]
    · rintro _ rfl
      unfold blkF at h
      refine cond_intro (fun hc => ?_) fun hc => ?_
      · rw [if_pos hc] at h; exact h
      · rw [if_neg (by rw [hc]; simp)] at h
        exact rblk_v (q := 0) hN h0 h1 (by omega) (fun hx => by rw [hc] at hx; cases hx) K h
  | k + 1, hk => fun at_ h0 h1 K h => by
    have hd : ¬ (25 - ((k + 1 : Nat) : Int)) > 24 := by omega
    refine R11_block_lift _ _ _ _ (rfrom_v _ ⟨fun x => x = false, ris_v h0 sLB _ (cond_intro (fun hc => ?_) (fun hc => rfl)), ?_⟩)
    · show decide _ = _
      exact decide_eq_false hd
    · rintro _ rfl
      unfold blkF at h
      have hS := rstmt_v M hN (by omega) (RB_all M hN k (by omega))
      refine rblk_v (q := 3 * k + 4) hN h0 h1 (by omega) (fun _ a ha hb => ⟨cw_stmt M (cw_blk M k) (by omega) ha hb, fun K hK => ?_⟩) K h
      have := hS a ha hb K hK
      rw [show (25 - ((k + 1 : Nat) : Int)) = 24 - (k : Int) by omega]
      exact this
theorem RB_top (M : TermC) (hN : toks.length < 1000000) (at_ : Int) (h0 : 0 ≤ at_) (h1 : at_ ≤ (toks.length : Int)) (K : Cur → Prop) (h : K (blkF M toks 24 at_)) : V_R11_block toks at_ 1 K :=
  RB_all M hN 24 (Nat.le_refl _) at_ h0 h1 K h
theorem rsize_v (hN : toks.length < 1000000) (hc : Cw toks at0 s q c) (K : Cur → Int → Prop) (h : K (sizeC toks c) (sizeN toks c)) : V_R11_cur_size c toks K := by
  have h0 := hc.z1
  have h1 := hc.hi
  unfold sizeN at h
  refine R11_cur_size_lift _ _ _ (rtok_v h0 _ ⟨fun l n a e => l = c.l ∧ n = c.n ∧ a = c.at_ ∧ e = if c.e_ = 0 ∧ (tokF toks c.at_).kind ≠ 2 then 11 else c.e_, ?_, ?_⟩)
  · refine ⟨fun x => x = decide (c.e_ = 0 ∧ (tokF toks c.at_).kind ≠ 2), cond_intro (fun he => ?_) (fun he => ?_), ?_⟩
    · have he : c.e_ = 0 := by simpa using he
      show _ = _
      rw [Bool.eq_iff_iff]; simp [he]
    · have he : ¬ c.e_ = 0 := by simpa using he
      show false = _
      rw [decide_eq_false (fun h => he h.1)]
    · rintro _ rfl
      exact cond_intro (fun hh => ⟨rfl, rfl, rfl, by rw [if_pos (of_decide_eq_true hh)]⟩) (fun hh => ⟨rfl, rfl, rfl, by rw [if_neg (of_decide_eq_false hh)]⟩)
  · rintro _ _ _ _ ⟨rfl, rfl, rfl, rfl⟩
    generalize hx : tokF toks c.at_ = x at h
    refine ⟨fun l n a e => l = c.l ∧ n = c.n ∧ a = c.at_ ∧ e = if c.e_ = 0 ∧ x.kind = 2 ∧ (x.n < 1 ∨ x.n > 16) then 6 else if c.e_ = 0 ∧ x.kind ≠ 2 then 11 else c.e_, ?_, ?_⟩
    · refine ⟨fun b => b = decide (c.e_ = 0 ∧ x.kind = 2 ∧ (x.n < 1 ∨ x.n > 16)), cond_intro (fun he => cond_intro (fun h1' => ?_) (fun h1' => ?_)) (fun he => ?_), ?_⟩
      · show true = _
        have h1' : x.n < 1 := by simpa using h1'
        have hh : ¬ (c.e_ = 0 ∧ x.kind ≠ 2) := by
          intro hh; rw [if_pos hh] at he; simp at he
        rw [if_neg hh] at he
        have he : c.e_ = 0 := by simpa using he
        rw [decide_eq_true]
        exact ⟨he, by
          apply Classical.byContradiction
          intro hk; exact hh ⟨he, hk⟩, .inl h1'⟩
      · show _ = _
        have h1' : ¬ x.n < 1 := by simpa using h1'
        have hh : ¬ (c.e_ = 0 ∧ x.kind ≠ 2) := by
          intro hh; rw [if_pos hh] at he; simp at he
        rw [if_neg hh] at he
        have he : c.e_ = 0 := by simpa using he
        have hk : x.kind = 2 := by
          apply Classical.byContradiction
          intro hk; exact hh ⟨he, hk⟩
        rw [Bool.eq_iff_iff]; simp [he, hk]; omega
      · show false = _
        rw [decide_eq_false]
        rintro ⟨h3, h4, _⟩
        rw [if_neg (fun hh => hh.2 h4), h3] at he
        simp at he
      · rintro _ rfl
        exact cond_intro (fun hh => ⟨rfl, rfl, rfl, by rw [if_pos (of_decide_eq_true hh)]⟩) (fun hh => ⟨rfl, rfl, rfl, by rw [if_neg (of_decide_eq_false hh)]⟩)
    · rintro _ _ _ _ ⟨rfl, rfl, rfl, rfl⟩
      unfold sizeC at h
      rw [hx] at h
      by_cases he : c.e_ = 0
      · rw [if_pos he] at h
        by_cases hk : x.kind = 2
        · rw [if_pos hk] at h
          have := kind_lt (toks := toks) (at_ := c.at_) (by rw [hx, hk]; decide)
          by_cases hr : x.n < 1 ∨ x.n > 16
          · rw [if_pos hr, if_neg (by simp)] at h
            rw [if_pos ⟨he, hk, hr⟩]; exact h
          · rw [if_neg hr, if_pos rfl] at h
            rw [if_neg (fun hh => hr hh.2.2), if_neg (fun hh => hh.2 hk)]
            refine cond_f (by simpa using he) ?_
            rw [wrap_in (by omega) (by omega), he]; exact h
        · rw [if_neg hk, if_neg (by simp)] at h
          rw [if_neg (fun hh => hk hh.2.1), if_pos ⟨he, hk⟩]; exact h
      · rw [if_neg he, if_neg he] at h
        rw [if_neg (fun hh => he hh.1), if_neg (fun hh => he hh.1)]
        exact cond_t (by simpa using he) h
theorem rparam_v (hN : toks.length < 1000000) (hc : Cw toks at0 s q c) (hq : q ≤ 1000) (K : Cur → Prop) (h : K (paramC toks c)) : V_R11_cur_param c toks K := by
  refine R11_cur_param_lift _ _ _ (cond_intro (fun he => ?_) fun he => ?_)
  · have he : ¬ c.e_ = 0 := by simpa using he
    unfold paramC addC at h; rw [if_neg he] at h; exact h
  · have hf := cw_from hc.z1 hc.hi 0
    have hn := cw_name hf
    exact rfrom_v _ (rname_v hN hf _ (rtok_v hc.z1 _ (runder_v _ _ (by have := hn.len hN (by omega); omega) (radd_v _ (fun _ => hc.sum hN (cw_under hn) hq (by omega)) h))))
theorem rdecl_v (M : TermC) (hN : toks.length < 1000000) {at_ : Int} (h0 : 0 ≤ at_) (h1 : at_ ≤ (toks.length : Int)) (K : Cur → Prop) (h : K (declC M toks at_)) : V_R11_decl toks at_ K := by
  have hf := cw_from h0 h1 200
  have hb := cw_blk (toks := toks) M 24
  unfold declC at h
  refine R11_decl_lift _ _ _ (rtok_v h0 _ (ris_v h0 sChan _ (cond_intro (fun hA => ?_) fun hA => ris_v h0 sProc _ (cond_intro (fun hP => ?_) fun hP => ?_))))
  · rw [if_pos hA] at h
    have e1 := cw_eat sChan hf
    have e2 := cw_name e1
    refine rfrom_v _ (reat_v hN hf sChan _ (rname_v hN e1 _ ?_))
    generalize nameS toks (eatC toks sChan (fromC at_)) = nm at h
    generalize nameC toks (eatC toks sChan (fromC at_)) = c1 at h e2
    refine ⟨fun l n a e op nm' N kids at' => op = 38 ∧ nm' = nm ∧ N = chanN toks c1 ∧ kids = 0 ∧ at' = (tokF toks at_).at_ ∧ ⟨l, n, a, e⟩ = chanC1 toks c1, rsee e2.z1 sLS (fun hA => ?_) (fun hB => ?_), ?_⟩
    · have e3 := cw_eat sLS e2
      refine reat_v hN e2 sLS _ (rsize_v hN e3 _ (reat_v hN (cw_size e3) sRS _ ⟨rfl, rfl, ?_, rfl, rfl, ?_⟩))
      · unfold chanN; rw [if_pos (show seeB toks sLS c1 = true from hA)]
      · unfold chanC1; rw [if_pos (show seeB toks sLS c1 = true from hA)]
    · refine ⟨rfl, rfl, ?_, rfl, rfl, ?_⟩
      · unfold chanN; rw [if_neg (by rw [show seeB toks sLS c1 = false from hB]; simp)]
      · unfold chanC1; rw [if_neg (by rw [show seeB toks sLS c1 = false from hB]; simp)]
    · rintro l n a e _ _ _ _ _ ⟨rfl, rfl, rfl, rfl, rfl, hx⟩
      rw [hx]
      have e3 := cw_chan1 e2
      exact reat_v hN e3 sSemi _ (runder_v _ _ (by have := (cw_eat sSemi e3).len hN (by omega); omega) h)
  · rw [if_neg (by rw [hA]; simp), if_pos hP] at h
    have e1 := cw_eat sProc hf
    have e2 := cw_name e1
    have e3 := cw_eat sLP e2
    refine rfrom_v _ (reat_v hN hf sProc _ (rname_v hN e1 _ (reat_v hN e2 sLP _ ?_)))
    generalize nameS toks (eatC toks sProc (fromC at_)) = nm at h
    generalize eatC toks sLP (nameC toks (eatC toks sProc (fromC at_))) = c1 at h e3
    have hpw : ∀ {c : Cur}, Cw toks at_ 3 200 c → Cw toks at_ 3 200 (paramC toks c) := fun hw => cw_param hw (by omega)
    refine ⟨fun l n a e => ⟨l, n, a, e⟩ = procC1 toks c1, rseeN e3.z1 sRP (fun hA => ?_) (fun hB => ?_), ?_⟩
    · have p1 := hpw e3
      refine rparam_v hN e3 (by omega) _ ?_
      unfold procC1
      rw [if_pos hA]
      refine ⟨fun l n a e f => Cw toks at_ 3 200 ⟨l, n, a, e⟩ ∧ LI toks (seeB toks sComma) (fun c => paramC toks (eatC toks sComma c)) (loopC (seeB toks sComma) (fun c => paramC toks (eatC toks sComma c)) (fuel toks) (paramC toks c1)) f ⟨l, n, a, e⟩, ⟨_, p1, LI.start p1⟩, ?_⟩
      rintro l n a e f ⟨hw, hl⟩
      refine rsee hw.z1 sComma (fun hA => ?_) (fun hB => ?_)
      · have e4 := cw_eat sComma hw
        have hs := see_eat (c := ⟨l, n, a, e⟩) hA
        have he : e = 0 := by simp at hA; exact hA.1
        have hpp : Cw toks a 0 0 (fromC a) := cw_from hw.z1 hw.hi 0
        obtain ⟨f', hf', hl'⟩ := hl.step hA he hw.hi (fun hd => by
          rw [hs] at hd ⊢
          have e5 : Cw toks a 1 200 ⟨[], n, a + 1, 0⟩ := by
            have := cw_eat sComma (cw_from hw.z1 hw.hi 200)
            have hs' := see_eat (toks := toks) (t := sComma) (c := fromC a) (by subst he; exact hA)
            rw [hs'] at this
            exact ⟨this.z, this.lo, this.hi, this.w, this.b⟩
          have e6 := cw_under (x := nd toks 39 (nameS toks (fromC (a + 1))) 0 (a + 1)) (cw_name (cw_from (toks := toks) (at_ := a + 1) (by have := e5.z1; exact this) e5.hi 0))
          unfold paramC addC at hd ⊢
          rw [if_pos rfl] at hd ⊢
          have := e6.lo
          dsimp only at this ⊢
          omega)
        exact reat_v hN hw sComma _ (rparam_v hN e4 (by omega) _ ⟨f', hf', (cw_param e4 (by omega)).mono (by omega) (Nat.le_refl _), hl'⟩)
      · exact hl.stop hB
    · unfold procC1
      rw [if_neg (by rw [hB]; simp)]
    · intro l n a e hx
      rw [hx]
      have e4 := cw_proc1 e3 (by omega)
      have e5 := cw_eat sRP e4
      have e6 := cw_in hb e5 (by omega)
      exact reat_v hN e4 sRP _ (rin_v hN hb (by omega) (RB_top M hN) e5 (by omega) _ (runder_v _ _ (by have := e6.len hN (by omega); omega) h))
  · rw [if_neg (by rw [hA]; simp), if_neg (by rw [hP]; simp)] at h
    have e1 := cw_eat sMain hf
    have e2 := cw_in hb e1 (by omega)
    exact rfrom_v _ (reat_v hN hf sMain _ (rin_v hN hb (by omega) (RB_top M hN) e1 (by omega) _ (runder_v _ _ (by have := e2.len hN (by omega); omega) h)))
theorem runit_v (M : TermC) (hN : toks.length < 1000000) (K : GR10_Got → Prop) (h : K (unitF M toks)) : V_R11_Unit toks K := by
  have hf := cw_from (toks := toks) (at_ := 0) (Int.le_refl _) (by omega) 100
  refine R11_Unit_lift _ _ (rfrom_v _ ⟨fun l n a e f => Cw toks 0 0 100 ⟨l, n, a, e⟩ ∧ LI toks (fun c => decide (c.e_ = 0) && !decide ((tokF toks c.at_).kind = 0)) (fun c => addC c (declC M toks c.at_)) (unitC M toks) f ⟨l, n, a, e⟩, ⟨_, hf, LI.start hf⟩, ?_⟩)
  rintro l n a e f ⟨hw, hl⟩
  refine ⟨fun x => x = (decide (e = 0) && !decide ((tokF toks a).kind = 0)), cond_intro (fun he => ?_) (fun he => ?_), ?_⟩
  · have he : e = 0 := by simpa using he
    subst he
    refine rtok_v hw.z1 _ ?_
    show _ = _
    rw [Bool.eq_iff_iff]; simp
  · have he : ¬ e = 0 := by simpa using he
    show false = _
    rw [decide_eq_false he]; rfl
  · rintro _ rfl
    refine cond_intro (fun hA => ?_) fun hB => ?_
    · have he : e = 0 := by simp at hA; exact hA.1
      have hcw := cw_decl M hw.z1 hw.hi
      obtain ⟨f', hf', hl'⟩ := hl.step hA he hw.hi (fun hd => adv_add hcw he hd)
      exact rdecl_v M hN hw.z1 hw.hi _ (radd_v _ (fun _ => hw.sum hN hcw (by omega) (by omega)) ⟨f', hf', (cw_add hw (fun _ => hcw) (by omega)).mono (by omega) (Nat.le_refl _), hl'⟩)
    · have hst := hl.stop hB
      unfold unitF at h
      rw [← hst] at h
      refine cond_intro (fun he => ?_) fun he => ?_
      · rw [if_pos (by simpa using he)] at h; exact h
      · rw [if_neg (by simpa using he)] at h
        exact runder_v _ _ (by have := hw.len hN (by omega); omega) h
end
end Go.Proofs.Ytdbdkdmgfiiljaa
namespace Go.Proofs.Ytdbdkdmgfiiljaa
open Go.Vc Go.Lv Go.Ty
def wk (x : GNode) (n : Int) : GNode := ⟨x.op, x.name, x.n, n, x.at_⟩
def fromE (at_ e : Int) : Cur := ⟨[], 0, at_, e⟩
structure Re (toks : List GToken) (A : List GNode) (x : GNode) (at0 dp : Int) (s q p : Nat) (c : Cur) (r : Gparse_reader) : Prop where
  cw : Cw toks at0 s q c
  t : r.toks = toks
  at_ : r.at_ = c.at_
  e_ : r.e_ = c.e_
  dp : r.deep = dp
  ok : c.e_ = 0 → r.l = A ++ wk x c.n :: c.l
  lo : A.length < r.l.length
  hi : c.e_ ≠ 0 → (r.l.length : Int) ≤ A.length + 1 + (c.at_ - at0) + p
  ha : (A.length : Int) ≤ at0 + 2000
section
variable {toks : List GToken} {A : List GNode} {x : GNode} {at0 dp : Int} {s q p : Nat} {c d : Cur} {r : Gparse_reader}
theorem Re.re (h : Re toks A x at0 dp s q p c r) {L : List GNode} (hl : r.l = L) : Re toks A x at0 dp s q p c ⟨toks, r.at_, r.deep, L, r.e_⟩ := by
  subst hl
  exact ⟨h.cw, rfl, h.at_, h.e_, h.dp, h.ok, h.lo, h.hi, h.ha⟩
theorem Re.mono {s' q' p' : Nat} (h : Re toks A x at0 dp s q p c r) (hs : s' ≤ s) (hq : q ≤ q') (hp : p ≤ p') : Re toks A x at0 dp s' q' p' c r :=
  ⟨h.cw.mono hs hq, h.t, h.at_, h.e_, h.dp, h.ok, h.lo, fun e => by have := h.hi e; omega, h.ha⟩
theorem Re.len (h : Re toks A x at0 dp s q p c r) : (r.l.length : Int) ≤ A.length + 1 + (c.at_ - at0) + p := by
  by_cases he : c.e_ = 0
  · have h1 := h.cw.w he
    rw [h.ok he]
    simp only [List.length_append, List.length_cons]
    omega
  · exact h.hi he
theorem Re.small (hN : toks.length < 1000000) (h : Re toks A x at0 dp s q p c r) (hp : p ≤ 1000) : r.l.length < 2000000 := by
  have := h.len
  have := h.cw.z
  have := h.cw.hi
  have := h.cw.lo
  have := h.ha
  omega
theorem Re.stepE {c' : Cur} {r' : Gparse_reader} {s' : Nat} (h : Re toks A x at0 dp s q p c r) (hc : Cw toks at0 s' q c') (ht : r'.toks = toks) (hat : r'.at_ = c'.at_) (he : r'.e_ = c'.e_) (hd : r'.deep = r.deep) (hl : r'.l = r.l) (hge : c.at_ ≤ c'.at_) (hok : c'.e_ = 0 → r.l = A ++ wk x c'.n :: c'.l) : Re toks A x at0 dp s' q p c' r' :=
  ⟨hc, ht, hat, he, hd.trans h.dp, fun e => hl.trans (hok e), by rw [hl]; exact h.lo, fun _ => by rw [hl]; have := h.len; omega, h.ha⟩
theorem Re.anyx (h : Re toks A x at0 dp s q p c r) (he : c.e_ ≠ 0) (x' : GNode) : Re toks A x' at0 dp s q p c r :=
  ⟨h.cw, h.t, h.at_, h.e_, h.dp, fun e => absurd e he, h.lo, h.hi, h.ha⟩
theorem Re.resetp (h : Re toks A x at0 dp s q p c r) (he : c.e_ = 0) (p' : Nat) : Re toks A x at0 dp s q p' c r :=
  ⟨h.cw, h.t, h.at_, h.e_, h.dp, h.ok, h.lo, fun e => absurd he e, h.ha⟩
theorem Re.elem (h : Re toks A x at0 dp s q p c r) {P : GNode → Prop} (hP : ∀ y, r.l[A.length]? = some y → (c.e_ = 0 → y = wk x c.n) → P y) :
    ((0 : Int) ≤ (A.length : Int) ∧ (A.length : Int) < (r.l.length : Int)) ∧ ∀ y, r.l[(A.length : Int).toNat]? = some y → P y := by
  have := h.lo
  refine ⟨⟨by omega, by omega⟩, fun y hy => ?_⟩
  rw [Int.toNat_natCast] at hy
  refine hP y hy fun e => ?_
  rw [h.ok e] at hy
  simpa using hy.symm
theorem Re.upd (h : Re toks A x at0 dp s q p c r) {y y' : GNode} (x' : GNode) (hy : c.e_ = 0 → y = wk x c.n) (hy' : y = wk x c.n → y' = wk x' c.n) : Re toks A x' at0 dp s q p c ⟨toks, r.at_, r.deep, r.l.set (A.length : Int).toNat y', r.e_⟩ := by
  refine ⟨h.cw, rfl, h.at_, h.e_, h.dp, fun e => ?_, by rw [List.length_set]; exact h.lo, fun e => by rw [List.length_set]; exact h.hi e, h.ha⟩
  show r.l.set _ _ = _
  rw [h.ok e, Int.toNat_natCast, hy' (hy e)]
  simp
theorem psee_v (hN : toks.length < 1000000) (ht : r.toks = toks) (h0 : 0 ≤ r.at_) (h1 : r.at_ ≤ (toks.length : Int)) (k : Int) (hk : 0 ≤ k) (hk1 : k ≤ 1) (K : GToken → Prop) (h : K (tokF toks (r.at_ + k))) : V_parse_reader_see r k K := by
  subst ht
  refine parse_reader_see_lift _ _ _ ?_
  unfold parse_reader_see_vwp
  rw [wrap_in (by omega) (by omega)]
  refine cond_intro (fun hc => ?_) fun hc => ?_
  · have hlt : r.at_ + k < (r.toks.length : Int) := by simpa using hc
    refine ⟨⟨by omega, hlt⟩, fun x hx => ?_⟩
    unfold tokF at h
    rw [if_pos hlt, hx] at h; exact h
  · have hlt : ¬ r.at_ + k < (r.toks.length : Int) := by simpa using hc
    unfold tokF at h
    rw [if_neg hlt] at h; exact h
theorem pis_v (hN : toks.length < 1000000) (ht : r.toks = toks) (h0 : 0 ≤ r.at_) (h1 : r.at_ ≤ (toks.length : Int)) (k : Int) (hk : 0 ≤ k) (hk1 : k ≤ 1) (t : Str) (K : Bool → Prop) (h : K (isF toks (r.at_ + k) t)) : V_parse_reader_is r k t K :=
  parse_reader_is_lift _ _ _ _ (psee_v hN ht h0 h1 k hk hk1 _ (is_cond _ t K h))
theorem pfail_v (e : Int) (K : Gparse_reader → Prop) (h : K ⟨r.toks, r.at_, r.deep, r.l, if r.e_ = 0 then e else r.e_⟩) : V_parse_reader_fail r e K := by
  refine parse_reader_fail_lift _ _ _ (cond_intro (fun hc => ?_) fun hc => ?_)
  · rw [if_pos (by simpa using hc)] at h; exact h
  · rw [if_neg (by simpa using hc)] at h; exact h
theorem eat0 (t : Str) : seeB toks t c = true → eatC toks t c = ⟨c.l, c.n, c.at_ + 1, 0⟩ := see_eat
theorem eat1 {t : Str} (he : c.e_ = 0) (h : seeB toks t c = false) : eatC toks t c = ⟨c.l, c.n, c.at_, 11⟩ := by
  unfold seeB at h
  rw [decide_eq_true he] at h
  unfold eatC
  rw [if_pos he, if_neg (by simpa using h)]
theorem eatE {t : Str} (he : c.e_ ≠ 0) : eatC toks t c = c := by unfold eatC; rw [if_neg he]
theorem see_lt {t : Str} (h : seeB toks t c = true) : c.e_ = 0 ∧ isF toks c.at_ t = true := by
  unfold seeB at h
  simpa using h
theorem seeE {t : Str} (he : c.e_ ≠ 0) : seeB toks t c = false := by unfold seeB; rw [decide_eq_false he]; rfl
theorem eat_s (hN : toks.length < 1000000) (h : Re toks A x at0 dp s q p c r) (t : Str) (K : Bool → Gparse_reader → Prop)
    (hT : seeB toks t c = true → ∀ r', r'.l = r.l → Re toks A x at0 dp (s + 1) q p (eatC toks t c) r' → K true r')
    (hF : seeB toks t c = false → ∀ r', r'.l = r.l → Re toks A x at0 dp s q p c r' → K false r') : V_parse_reader_eat r t K := by
  have z0 := h.cw.z1
  have z1 := h.cw.hi
  refine parse_reader_eat_lift _ _ _ ⟨fun b => b = !seeB toks t c, cond_intro (fun he => ?_) (fun he => ?_), ?_⟩
  · show true = _
    have he : r.e_ ≠ 0 := by simpa using he
    rw [seeE (by rw [← h.e_]; exact he)]; rfl
  · have he : r.e_ = 0 := by simpa using he
    refine pis_v hN h.t (by rw [h.at_]; exact z0) (by rw [h.at_]; exact z1) 0 (by decide) (by decide) t _ ?_
    show _ = _
    unfold seeB
    rw [Int.add_zero, h.at_, decide_eq_true (by rw [← h.e_]; exact he)]; rfl
  · rintro _ rfl
    cases hb : seeB toks t c with
    | false => exact hF hb r rfl h
    | true =>
      obtain ⟨he, hi⟩ := see_lt hb
      have hlt := isF_lt hi
      refine hT hb _ rfl (h.stepE (cw_eat t h.cw) h.t ?_ ?_ rfl rfl ?_ ?_)
      · rw [eat0 t hb]
        dsimp only
        rw [wrap_in (by rw [h.at_]; omega) (by rw [h.at_]; omega), h.at_]
      · rw [eat0 t hb, h.e_, he]
      · rw [eat0 t hb]; dsimp only; omega
      · rw [eat0 t hb]
        exact fun _ => h.ok he
theorem must_s (hN : toks.length < 1000000) (h : Re toks A x at0 dp s q p c r) (t : Str) (K : Gparse_reader → Prop)
    (hK : ∀ r', r'.l = r.l → Re toks A x at0 dp (s + 1) q p (eatC toks t c) r' → K r') : V_parse_reader_must r [t] K := by
  obtain ⟨tk, a, dd, l, e⟩ := r
  obtain rfl : tk = toks := h.t
  refine parse_reader_must_lift _ _ _ ⟨fun i at_ deep ex n => (i = 0 ∧ at_ = a ∧ deep = dd ∧ ex = e ∧ n = 1) ∨ (i = 1 ∧ n = 0 ∧ Re tk A x at0 dp (s + 1) q p (eatC tk t c) ⟨tk, at_, deep, l, ex⟩), ⟨1, .inl ⟨rfl, rfl, rfl, rfl, rfl⟩⟩, ?_⟩
  rintro i at_ deep ex n (⟨rfl, rfl, rfl, rfl, rfl⟩ | ⟨rfl, rfl, hr⟩)
  · refine cond_t (by simp) ⟨⟨by decide, by simp⟩, fun x1 hx1 => ?_⟩
    obtain rfl : x1 = t := by simpa using hx1.symm
    refine eat_s hN h x1 _ (fun hb r' hl hr => cond_f rfl ⟨0, by decide, .inr ⟨by decide, rfl, hr.re hl⟩⟩) fun hb r' hl hr => cond_t rfl (pfail_v _ _ ?_)
    have hr := hr.re hl
    refine hK _ rfl (hr.stepE (cw_eat x1 h.cw) rfl ?_ ?_ rfl rfl ?_ ?_)
    · by_cases he : c.e_ = 0
      · rw [eat1 he hb]; exact hr.at_
      · rw [eatE he]; exact hr.at_
    · dsimp only
      have h2 := hr.e_
      dsimp only at h2
      rw [h2]
      by_cases he : c.e_ = 0
      · rw [eat1 he hb, if_pos he]
      · rw [eatE he, if_neg he]
    · by_cases he : c.e_ = 0
      · rw [eat1 he hb]; exact Int.le_refl _
      · rw [eatE he]; exact Int.le_refl _
    · intro h0
      exfalso
      by_cases he : c.e_ = 0
      · rw [eat1 he hb] at h0; cases h0
      · rw [eatE he] at h0; exact he h0
  · exact cond_f (by simp) (hK _ rfl hr)
theorem name_s (hN : toks.length < 1000000) (h : Re toks A x at0 dp s q p c r) (K : Str → Gparse_reader → Prop)
    (hK : ∀ r', r'.l = r.l → Re toks A x at0 dp (s + 1) q p (nameC toks c) r' → K (nameS toks c) r') : V_parse_reader_name r K := by
  have z0 := h.cw.z1
  have z1 := h.cw.hi
  have hcw := cw_name h.cw
  obtain ⟨tk, a, dd, l, e⟩ := r
  obtain rfl : tk = toks := h.t
  have hat : a = c.at_ := h.at_
  have hee : e = c.e_ := h.e_
  refine parse_reader_name_lift _ _ (psee_v hN rfl (by dsimp only; omega) (by dsimp only; omega) 0 (by decide) (by decide) _ ?_)
  dsimp only
  rw [Int.add_zero, hat]
  refine ⟨fun b => b = !decide (c.e_ = 0 ∧ (tokF tk c.at_).kind = 1), cond_intro (fun he => ?_) (fun he => ?_), ?_⟩
  · show true = _
    have he : e ≠ 0 := by simpa using he
    rw [decide_eq_false (fun hh => he (hee.trans hh.1))]; rfl
  · have he : e = 0 := by simpa using he
    show _ = _
    rw [Bool.eq_iff_iff]; simp [← hee, he]
  · rintro _ rfl
    by_cases hh : c.e_ = 0 ∧ (tokF tk c.at_).kind = 1
    · rw [decide_eq_true hh]
      have hc' : nameC tk c = ⟨c.l, c.n, c.at_ + 1, 0⟩ := by unfold nameC; rw [if_pos hh.1, if_pos hh.2]
      have hs : nameS tk c = (tokF tk c.at_).text := by unfold nameS; rw [if_pos hh.1, if_pos hh.2]
      have hlt := kind_lt (toks := tk) (at_ := c.at_) (by omega)
      show K _ _
      rw [← hs]
      refine hK _ rfl (h.stepE hcw rfl ?_ ?_ rfl rfl ?_ ?_)
      · rw [hc']; dsimp only; rw [wrap_in (by omega) (by omega)]
      · rw [hc']; exact hee.trans hh.1
      · rw [hc']; dsimp only; omega
      · rw [hc']; exact fun _ => h.ok hh.1
    · rw [decide_eq_false hh]
      show V_parse_reader_fail _ _ _
      refine pfail_v _ _ ?_
      have hs : nameS tk c = [] := by
        unfold nameS
        by_cases he : c.e_ = 0
        · rw [if_pos he, if_neg (fun hk => hh ⟨he, hk⟩)]
        · rw [if_neg he]
      have hc' : (nameC tk c).at_ = c.at_ ∧ (nameC tk c).e_ = if c.e_ = 0 then 11 else c.e_ := by
        unfold nameC
        by_cases he : c.e_ = 0
        · rw [if_pos he, if_neg (fun hk => hh ⟨he, hk⟩), if_pos he]; exact ⟨rfl, rfl⟩
        · rw [if_neg he, if_neg he]; exact ⟨rfl, rfl⟩
      rw [← hs]
      refine hK _ rfl (h.stepE hcw rfl ?_ ?_ rfl rfl ?_ ?_)
      · rw [hc'.1]
      · rw [hc'.2, ← hee]
      · rw [hc'.1]; exact Int.le_refl _
      · rw [hc'.2]
        intro h0
        exfalso
        split at h0
        · cases h0
        · rename_i he; exact he h0
theorem open_s (hN : toks.length < 1000000) (ht : r.toks = toks) (h0 : 0 ≤ r.at_) (h1 : r.at_ ≤ (toks.length : Int)) (hl : r.l.length < 3000000) (op : Int) (K : Int → Gparse_reader → Prop)
    (hK : ((r.l.length : Int) ≤ r.at_ + 2000 → ∀ r', Re toks r.l (nd toks op [] 0 r.at_) r.at_ r.deep 0 0 0 (fromE r.at_ r.e_) r' → r'.l = r.l ++ [nd toks op [] 0 r.at_] → K (r.l.length : Int) r')) (ha : (r.l.length : Int) ≤ r.at_ + 2000) : V_parse_reader_open r op K := by
  obtain ⟨tk, a, dd, l, e⟩ := r
  obtain rfl : tk = toks := ht
  dsimp only at h0 h1 hl ha hK
  refine parse_reader_open_lift _ _ _ ⟨fun a' d' l' e' => a' = a ∧ d' = dd ∧ l' = l ++ [nd tk op [] 0 a] ∧ e' = e, psee_v hN rfl h0 h1 0 (by decide) (by decide) _ ⟨by simp only [List.length_cons, List.length_nil]; omega, rfl, rfl, ?_, rfl⟩, ?_⟩
  · dsimp only; rw [Int.add_zero]; rfl
  · rintro a' d' l' e' ⟨h1', h2', h3', h4'⟩
    subst h1' h2' h3' h4'
    have hw : IntKind.i64.wrap (((l ++ [nd tk op [] 0 a']).length : Int) - 1) = (l.length : Int) := by
      rw [wrap_in (by simp only [List.length_append, List.length_cons, List.length_nil]; omega) (by simp only [List.length_append, List.length_cons, List.length_nil]; omega)]; simp
    rw [hw]
    refine hK ha _ ⟨⟨h0, Int.le_refl _, h1, fun _ => by simp [fromE], by simp [fromE]⟩, rfl, rfl, rfl, rfl, fun _ => rfl, by simp, fun _ => ?_, ha⟩ rfl
    simp only [fromE, List.length_append, List.length_cons, List.length_nil]; omega
theorem dbl {l : List GNode} {i : Int} {Q : GNode → GNode → Prop} (h0 : 0 ≤ i) (h1 : i < (l.length : Int)) (h : ∀ y, l[i.toNat]? = some y → Q y y) :
    ((0 : Int) ≤ i ∧ i < (l.length : Int)) ∧ ∀ y, l[i.toNat]? = some y → ((0 : Int) ≤ i ∧ i < (l.length : Int)) ∧ ∀ z, l[i.toNat]? = some z → Q y z :=
  ⟨⟨h0, h1⟩, fun y hy => ⟨⟨h0, h1⟩, fun z hz => by rw [hy] at hz; cases hz; exact h y hy⟩⟩
theorem term_s (M : TermC) (hN : toks.length < 1000000) (h : Re toks A x at0 dp s q p c r) (hp : p ≤ 1000) (K : Gparse_reader → Prop)
    (hK : ∀ r', Re toks A x at0 dp s q p (termC M toks c) r' → K r') : V_parse_reader_term r (A.length : Int) K := by
  have z0 := h.cw.z1
  have z1 := h.cw.hi
  have hcw := cw_term M h.cw
  have hsm := h.small hN hp
  have hln := h.len
  have hlo := h.lo
  obtain ⟨tk, a, dd, l, e⟩ := r
  obtain rfl : tk = toks := h.t
  have hat : a = c.at_ := h.at_
  have hee : e = c.e_ := h.e_
  dsimp only at hsm hln hlo
  refine parse_reader_term_lift _ _ _ (cond_intro (fun he => ?_) fun he => ?_)
  · have he : c.e_ ≠ 0 := by rw [← hee]; simpa using he
    refine hK _ ?_
    have : termC M tk c = c := by unfold termC addC; rw [if_neg he]
    rw [this]; exact h
  · have he0 : c.e_ = 0 := by rw [← hee]; simpa using he
    have hok := h.ok he0
    have htc : termC M tk c = ⟨c.l ++ (M.T tk c.at_).1, IntKind.i64.wrap (c.n + 1), (M.T tk c.at_).2.1, (M.T tk c.at_).2.2⟩ := by unfold termC addC; rw [if_pos he0]
    have hlo' := M.lo tk c.at_ z0 z1
    have hhi' := M.hi tk c.at_ z0 z1
    have hlen' := M.len tk c.at_ z0 z1
    dsimp only
    rw [hat]
    refine ⟨fun l1 a1 e1 => l1 = (M.T tk c.at_).1 ∧ a1 = (M.T tk c.at_).2.1 ∧ e1 = (M.T tk c.at_).2.2, M.pv tk (by omega) _ z0 z1 _ ⟨rfl, rfl, rfl⟩, ?_⟩
    rintro _ _ _ ⟨rfl, rfl, rfl⟩
    rw [htc] at hK hcw
    generalize M.T tk c.at_ = R at hK hcw hlo' hhi' hlen'
    obtain ⟨l1, a1, e1⟩ := R
    dsimp only at hK hcw hlo' hhi' hlen' hok ⊢
    refine cond_intro (fun h1 => ?_) fun h1 => ?_
    · have h1 : e1 ≠ 0 := by simpa using h1
      refine pfail_v _ _ (hK _ ⟨hcw, rfl, rfl, ?_, h.dp, fun e => absurd e h1, hlo, fun _ => ?_, h.ha⟩)
      · dsimp only; rw [if_pos (hee.trans he0)]
      · dsimp only; omega
    · have h1 : e1 = 0 := by simpa using h1
      subst h1
      refine ⟨by omega, dbl (by omega) (by simp only [List.length_append]; omega) fun y hy => hK _ ⟨hcw, rfl, rfl, hee.trans he0, h.dp, fun _ => ?_, by rw [List.length_set, List.length_append]; omega, fun e => absurd rfl e, h.ha⟩⟩
      rw [Int.toNat_natCast] at hy ⊢
      rw [hok] at hy ⊢
      have hy : y = wk x c.n := by simpa using hy.symm
      subst hy
      simp [wk]
theorem fin_add {x2 : GNode} {dp2 : Int} {s2 q2 p2 s' q' p' : Nat} {c2 dd : Cur} {r2 : Gparse_reader} {L : List GNode} (h : Re toks A x at0 dp s q p c r) (hL : r.l = L)
    (h2 : Re toks L x2 c.at_ dp2 s2 q2 p2 c2 r2) (hE : c.e_ ≠ 0 → c2.at_ = c.at_ ∧ c2.e_ = c.e_) (hd : c.e_ = 0 → dd.at_ = c2.at_ ∧ dd.e_ = c2.e_ ∧ (c2.e_ = 0 → dd.l = (underC c2 x2).l))
    (hcw : Cw toks at0 s' q' (addC c dd)) (hp : p + p2 + 1 ≤ p') {K : Gparse_reader → Prop} {dp3 : Int} (hdp : dp3 = dp)
    (hK : ∀ r', Re toks A x at0 dp s' q' p' (addC c dd) r' → K r') :
    ((0 : Int) ≤ (A.length : Int) ∧ (A.length : Int) < (r2.l.length : Int)) ∧ ∀ y, r2.l[(A.length : Int).toNat]? = some y → ((0 : Int) ≤ (A.length : Int) ∧ (A.length : Int) < (r2.l.length : Int)) ∧ ∀ z, r2.l[(A.length : Int).toNat]? = some z →
      K ⟨toks, r2.at_, dp3, r2.l.set (A.length : Int).toNat ⟨z.op, z.name, z.n, IntKind.i64.wrap (y.kids + 1), z.at_⟩, r2.e_⟩ := by
  subst hL
  have hlo := h.lo
  have hlo2 := h2.lo
  have hln := h.len
  have hln2 := h2.len
  refine dbl (by omega) (by omega) fun y hy => hK _ ?_
  rw [Int.toNat_natCast] at hy ⊢
  by_cases he : c.e_ = 0
  · have hd := hd he
    have ha : addC c dd = ⟨c.l ++ dd.l, IntKind.i64.wrap (c.n + 1), dd.at_, dd.e_⟩ := by unfold addC; rw [if_pos he]
    rw [ha] at hcw ⊢
    refine ⟨hcw, rfl, h2.at_.trans hd.1.symm, h2.e_.trans hd.2.1.symm, hdp, fun e => ?_, by rw [List.length_set]; omega, fun _ => ?_, h.ha⟩
    · have e2 : c2.e_ = 0 := hd.2.1.symm.trans e
      show r2.l.set _ _ = _
      have hl2 := h2.ok e2
      rw [h.ok he] at hl2
      rw [hl2] at hy ⊢
      have hy : y = wk x c.n := by simpa using hy.symm
      subst hy
      rw [hd.2.2 e2]
      simp [wk, underC]
    · rw [List.length_set]
      dsimp only
      rw [hd.1]
      have := h.cw.w he
      rw [h.ok he] at hln2
      simp only [List.length_append, List.length_cons] at hln2
      omega
  · obtain ⟨e1, e2⟩ := hE he
    have ha : addC c dd = c := by unfold addC; rw [if_neg he]
    rw [ha] at hcw ⊢
    refine ⟨hcw, rfl, h2.at_.trans e1, h2.e_.trans e2, hdp, fun e => absurd e he, by rw [List.length_set]; omega, fun _ => ?_, h.ha⟩
    rw [List.length_set]
    omega
end
end Go.Proofs.Ytdbdkdmgfiiljaa
namespace Go.Proofs.Ytdbdkdmgfiiljaa
open Go.Vc Go.Lv Go.Ty
section
variable {toks : List GToken} {A : List GNode} {x : GNode} {at0 dp : Int} {s q p : Nat} {c d : Cur} {r : Gparse_reader}
theorem nameE (he : c.e_ ≠ 0) : nameC toks c = c := by unfold nameC; rw [if_neg he]
theorem addE (he : c.e_ ≠ 0) (d : Cur) : addC c d = c := by unfold addC; rw [if_neg he]
theorem termE (M : TermC) (he : c.e_ ≠ 0) : termC M toks c = c := addE he _
theorem refC1E (M : TermC) (he : c.e_ ≠ 0) : refC1 M toks c = c := by unfold refC1; rw [if_neg (by rw [seeE he]; simp)]
theorem loopE {g : Cur → Bool} {b : Cur → Cur} (hg : g c = false) : ∀ f, loopC g b f c = c
  | 0 => rfl
  | f + 1 => by unfold loopC; rw [if_neg (by rw [hg]; simp)]
theorem Re.len' (h : Re toks A x at0 dp s q p c r) (hA : (A.length : Int) ≤ at0 + 1000) (hp : p ≤ 900) : (r.l.length : Int) ≤ r.at_ + 2000 := by
  have := h.len
  rw [h.at_]
  omega
theorem ref_s (M : TermC) (hN : toks.length < 1000000) (h : Re toks A x at0 dp s q p c r) (hA : (A.length : Int) ≤ at0 + 1000) (hp : p ≤ 900) (hq : 1 ≤ q) (K : Gparse_reader → Prop)
    (hK : ∀ r', Re toks A x at0 dp s q (p + 1) (addC c (refC M toks c.at_)) r' → K r') : V_parse_reader_ref r (A.length : Int) K := by
  have hsm := h.small hN (by omega)
  have hl' := h.len' hA hp
  have z0 := h.cw.z1
  have z1 := h.cw.hi
  obtain ⟨tk, a, dd, l, e⟩ := r
  obtain rfl : tk = toks := h.t
  obtain rfl : a = c.at_ := h.at_
  obtain rfl : e = c.e_ := h.e_
  have hdp : dd = dp := h.dp
  dsimp only at hsm hl'
  refine parse_reader_ref_lift _ _ _ (open_s hN rfl z0 z1 (by dsimp only; omega) 33 _ (fun _ r1 h1 hl1 => ?_) hl')
  refine ⟨fun at_ deep l' ex => Re tk l (nd tk 33 (nameS tk (fromE c.at_ c.e_)) 0 c.at_) c.at_ dd 1 0 0 (nameC tk (fromE c.at_ c.e_)) ⟨tk, at_, deep, l', ex⟩, name_s hN (h1.re rfl) _ (fun r2 hl2 h2 => ?_), ?_⟩
  · have h2 := h2.re hl2
    exact h2.elem fun y _ hy => h2.upd _ hy fun e => by rw [e]; rfl
  · intro at1 deep1 l1 ex1 h2
    refine ⟨fun at_ deep l' ex => Re tk l (nd tk 33 (nameS tk (fromE c.at_ c.e_)) 0 c.at_) c.at_ dd 1 0 0 (refC1 M tk (nameC tk (fromE c.at_ c.e_))) ⟨tk, at_, deep, l', ex⟩, eat_s hN h2 sLS _ (fun hb r3 hl3 h3 => ?_) (fun hb r3 hl3 h3 => ?_), ?_⟩
    · refine term_s M hN (h3.re hl3) (by omega) _ fun r4 h4 => must_s hN (h4.re rfl) sRS _ fun r5 hl5 h5 => ?_
      have h5 := h5.re hl5
      unfold refC1; rw [if_pos hb]
      exact h5.mono (by omega) (by omega) (by omega)
    · have h3 := h3.re hl3
      unfold refC1; rw [if_neg (by rw [hb]; simp)]
      exact h3
    · intro at2 deep2 l2 ex2 h3
      have hcw := cw_add h.cw (fun _ => cw_ref M z0 z1) hq
      refine fin_add (dd := refC M tk c.at_) h rfl h3 (fun he => ?_) (fun he => ?_) hcw (Nat.le_refl _) (h3.dp.trans hdp) hK
      · have h0 : (fromE c.at_ c.e_).e_ ≠ 0 := he
        rw [nameE h0, refC1E M h0]; exact ⟨rfl, rfl⟩
      · rw [he]; exact ⟨rfl, rfl, fun _ => rfl⟩
theorem param_s (hN : toks.length < 1000000) (h : Re toks A x at0 dp s q p c r) (hA : (A.length : Int) ≤ at0 + 1000) (hp : p ≤ 900) (hq : 1 ≤ q) (K : Gparse_reader → Prop)
    (hK : ∀ r', Re toks A x at0 dp s q (p + 1) (paramC toks c) r' → K r') : V_parse_reader_param r (A.length : Int) K := by
  have hsm := h.small hN (by omega)
  have hl' := h.len' hA hp
  have z0 := h.cw.z1
  have z1 := h.cw.hi
  obtain ⟨tk, a, dd, l, e⟩ := r
  obtain rfl : tk = toks := h.t
  obtain rfl : a = c.at_ := h.at_
  obtain rfl : e = c.e_ := h.e_
  have hdp : dd = dp := h.dp
  dsimp only at hsm hl'
  refine parse_reader_param_lift _ _ _ (open_s hN rfl z0 z1 (by dsimp only; omega) 39 _ (fun _ r1 h1 hl1 => ?_) hl')
  refine ⟨fun at_ deep l' ex => Re tk l (nd tk 39 (nameS tk (fromE c.at_ c.e_)) 0 c.at_) c.at_ dd 1 0 0 (nameC tk (fromE c.at_ c.e_)) ⟨tk, at_, deep, l', ex⟩, name_s hN (h1.re rfl) _ (fun r2 hl2 h2 => ?_), ?_⟩
  · have h2 := h2.re hl2
    exact h2.elem fun y _ hy => h2.upd _ hy fun e => by rw [e]; rfl
  · intro at1 deep1 l1 ex1 h3
    refine fin_add (dd := underC (nameC tk (fromC c.at_)) (nd tk 39 (nameS tk (fromC c.at_)) 0 c.at_)) h rfl h3 (fun he => ?_) (fun he => ?_) (cw_param h.cw hq) (Nat.le_refl _) (h3.dp.trans hdp) hK
    · have h0 : (fromE c.at_ c.e_).e_ ≠ 0 := he
      rw [nameE h0]; exact ⟨rfl, rfl⟩
    · rw [he]; exact ⟨rfl, rfl, fun _ => rfl⟩
theorem comm_s (M : TermC) (hN : toks.length < 1000000) (a b : Int) (h : Re toks A x at0 dp s q p c r) (hx : x.name = []) (hA : (A.length : Int) ≤ at0 + 1000) (hp : p ≤ 900) (hq : 1 ≤ q) (K : Gparse_reader → Prop)
    (hK : ∀ r', Re toks A ⟨(commC M toks a b c).op, (commC M toks a b c).name, x.n, x.kids, x.at_⟩ at0 dp (s + 1) q (p + 1) (commC M toks a b c).c r' → K r') : V_parse_reader_comm r (A.length : Int) a b K := by
  have hcm := cw_comm M a b h.cw hq
  obtain ⟨tk, a', dd, l, e⟩ := r
  obtain rfl : tk = toks := h.t
  refine parse_reader_comm_lift _ _ _ _ _ (ref_s M hN h hA hp hq _ fun r1 h1 => ?_)
  have hc1 : c.e_ ≠ 0 → addC c (refC M tk c.at_) = c := fun he => addE he _
  have hcm1 : c.e_ = 0 → commC M tk a b c = commC2 M tk a b (addC c (refC M tk c.at_)) := fun he => by unfold commC; rw [if_pos he]
  have hcm0 : c.e_ ≠ 0 → commC M tk a b c = ⟨c, 0, []⟩ := fun he => by unfold commC; rw [if_neg he]
  generalize addC c (refC M tk c.at_) = c1 at h1 hc1 hcm1
  have hsee : ∀ {t : Str}, seeB tk t c1 = true → c.e_ = 0 := fun {t} hb => by
    apply Classical.byContradiction
    intro he
    rw [hc1 he, seeE he] at hb; cases hb
  have h1 := h1.re rfl
  refine eat_s hN h1 sBang _ (fun hb r2 hl2 h2 => ?_) (fun hb r2 hl2 h2 => ?_)
  · have h2 := h2.re hl2
    have hcc : commC M tk a b c = ⟨termC M tk (eatC tk sBang c1), a, []⟩ := by rw [hcm1 (hsee hb)]; unfold commC2; rw [if_pos hb]
    rw [hcc] at hK hcm
    refine h2.elem fun y _ hy => term_s M hN (h2.upd (⟨a, [], x.n, x.kids, x.at_⟩ : GNode) hy fun e => by rw [e]; simp [wk, hx]) (by omega) _ fun r3 h3 => hK _ (h3.re rfl)
  · have h2 := h2.re hl2
    refine eat_s hN h2 sAsk _ (fun hb2 r4 hl4 h4 => ?_) (fun hb2 r4 hl4 h4 => ?_)
    · have h4 := h4.re hl4
      have hcc : commC M tk a b c = ⟨nameC tk (eatC tk sAsk c1), b, nameS tk (eatC tk sAsk c1)⟩ := by rw [hcm1 (hsee hb2)]; unfold commC2; rw [if_neg (by rw [hb]; simp)]
      rw [hcc] at hK hcm
      refine h4.elem fun y _ hy => name_s hN (h4.upd (⟨b, x.name, x.n, x.kids, x.at_⟩ : GNode) hy fun e => by rw [e]; rfl) _ fun r5 hl5 h5 => ?_
      have h5 := h5.re hl5
      exact h5.elem fun y _ hy => hK _ ((h5.upd _ hy fun e => by rw [e]; rfl).mono (by omega) (Nat.le_refl _) (Nat.le_refl _))
    · have h4 := h4.re hl4
      refine pfail_v _ _ ?_
      have hce : (commC M tk a b c).c.at_ = c1.at_ ∧ (commC M tk a b c).c.e_ = (if c1.e_ = 0 then 11 else c1.e_) := by
        by_cases he : c.e_ = 0
        · rw [hcm1 he]
          unfold commC2; rw [if_neg (by rw [hb]; simp)]
          dsimp only
          by_cases he1 : c1.e_ = 0
          · rw [eat1 he1 hb2, if_pos he1, nameE (by simp)]; exact ⟨rfl, rfl⟩
          · rw [eatE he1, nameE he1, if_neg he1]; exact ⟨rfl, rfl⟩
        · rw [hcm0 he, hc1 he, if_neg he]; exact ⟨rfl, rfl⟩
      have hne : (commC M tk a b c).c.e_ ≠ 0 := by
        rw [hce.2]
        split
        · decide
        · assumption
      have h4e := h4.e_
      dsimp only at h4e
      have hfin : Re tk A x at0 dp (s + 1) q (p + 1) (commC M tk a b c).c ⟨tk, r4.at_, r4.deep, r1.l, if r4.e_ = 0 then 11 else r4.e_⟩ := h4.stepE hcm rfl (by rw [hce.1]; exact h4.at_) (by rw [hce.2]; dsimp only; rw [h4e]) rfl rfl (by rw [hce.1]; exact Int.le_refl _) (fun e => absurd e hne)
      exact hK _ (hfin.anyx hne _)
theorem size_s (hN : toks.length < 1000000) (h : Re toks A x at0 dp s q p c r) (K : Gparse_reader → Prop)
    (hK : ∀ r', Re toks A ⟨x.op, x.name, sizeN toks c, x.kids, x.at_⟩ at0 dp (s + 1) q p (sizeC toks c) r' → K r') : V_parse_reader_size r (A.length : Int) K := by
  have z0 := h.cw.z1
  have z1 := h.cw.hi
  have hcw := cw_size h.cw
  obtain ⟨tk, a, dd, l, e⟩ := r
  obtain rfl : tk = toks := h.t
  obtain rfl : a = c.at_ := h.at_
  obtain rfl : e = c.e_ := h.e_
  refine parse_reader_size_lift _ _ _ (psee_v hN rfl z0 z1 0 (by decide) (by decide) _ ?_)
  dsimp only
  rw [Int.add_zero]
  refine cond_intro (fun he => ?_) fun he => ?_
  · have he : c.e_ ≠ 0 := by simpa using he
    have hs : sizeC tk c = c := by unfold sizeC; rw [if_neg he]
    rw [hs] at hK hcw
    have hfin : Re tk A x at0 dp (s + 1) q p c ⟨tk, c.at_, dd, l, c.e_⟩ := h.stepE hcw rfl rfl rfl rfl rfl (Int.le_refl _) (fun e => absurd e he)
    exact hK _ (hfin.anyx he _)
  · have he : c.e_ = 0 := by simpa using he
    refine cond_intro (fun hk => ?_) fun hk => ?_
    · have hk : (tokF tk c.at_).kind ≠ 2 := by simpa using hk
      have hs : sizeC tk c = ⟨c.l, c.n, c.at_, 11⟩ := by unfold sizeC; rw [if_pos he, if_neg hk]
      rw [hs] at hK hcw
      have hfin : Re tk A x at0 dp (s + 1) q p ⟨c.l, c.n, c.at_, 11⟩ ⟨tk, c.at_, dd, l, if c.e_ = 0 then 11 else c.e_⟩ := h.stepE hcw rfl rfl (by dsimp only; rw [if_pos he]) rfl rfl (Int.le_refl _) (fun e => by cases e)
      exact pfail_v _ _ (hK _ (hfin.anyx (by simp) _))
    · have hk : (tokF tk c.at_).kind = 2 := by simpa using hk
      refine ⟨fun b => b = decide ((tokF tk c.at_).n < 1 ∨ (tokF tk c.at_).n > 16), cond_intro (fun h1 => ?_) (fun h1 => ?_), ?_⟩
      · show true = _
        have h1 : (tokF tk c.at_).n < 1 := by simpa using h1
        rw [decide_eq_true (.inl h1)]
      · show _ = _
        have h1 : ¬ (tokF tk c.at_).n < 1 := by simpa using h1
        rw [Bool.eq_iff_iff]; simp; omega
      · rintro _ rfl
        refine cond_intro (fun hr => ?_) fun hr => ?_
        · have hr := of_decide_eq_true hr
          have hs : sizeC tk c = ⟨c.l, c.n, c.at_, 6⟩ := by unfold sizeC; rw [if_pos he, if_pos hk, if_pos hr]
          rw [hs] at hK hcw
          have hfin : Re tk A x at0 dp (s + 1) q p ⟨c.l, c.n, c.at_, 6⟩ ⟨tk, c.at_, dd, l, if c.e_ = 0 then 6 else c.e_⟩ := h.stepE hcw rfl rfl (by dsimp only; rw [if_pos he]) rfl rfl (Int.le_refl _) (fun e => by cases e)
          exact pfail_v _ _ (hK _ (hfin.anyx (by simp) _))
        · have hr := of_decide_eq_false hr
          have hs : sizeC tk c = ⟨c.l, c.n, c.at_ + 1, 0⟩ := by unfold sizeC; rw [if_pos he, if_pos hk, if_neg hr]
          have hn : sizeN tk c = (tokF tk c.at_).n := by unfold sizeN; rw [hs, if_pos rfl]
          rw [hs] at hK hcw
          rw [hn] at hK
          have hlt := kind_lt (toks := tk) (at_ := c.at_) (by rw [hk]; decide)
          rw [wrap_in (by omega) (by omega)]
          have h' : Re tk A x at0 dp (s + 1) q p ⟨c.l, c.n, c.at_ + 1, 0⟩ ⟨tk, c.at_ + 1, dd, l, c.e_⟩ := h.stepE hcw rfl rfl he rfl rfl (by dsimp only; omega) (fun _ => h.ok he)
          exact h'.elem fun y _ hy => hK _ (h'.upd _ hy fun e => by rw [e]; rfl)
theorem args_s (M : TermC) (hN : toks.length < 1000000) (h : Re toks A x at0 dp s q p c r) (hp : p ≤ 900) (K : Gparse_reader → Prop)
    (hK : ∀ r', Re toks A x at0 dp s q p (argsC M toks c) r' → K r') : V_parse_reader_args r (A.length : Int) K := by
  obtain ⟨tk, a, dd, l, e⟩ := r
  obtain rfl : tk = toks := h.t
  refine parse_reader_args_lift _ _ _ (must_s hN h sLP _ fun r1 hl1 h1 => ?_)
  have h1 := h1.re hl1
  have hcw := cw_args M h.cw
  unfold argsC at hK hcw
  generalize eatC tk sLP c = c1 at h1 hK hcw
  refine eat_s hN h1 sRP _ (fun hb r2 hl2 h2 => ?_) (fun hb r2 hl2 h2 => ?_)
  · have h2 := h2.re hl2
    obtain ⟨he, hi⟩ := see_lt hb
    rw [if_neg (by rw [hi]; simp)] at hK
    exact cond_f rfl (hK _ (h2.mono (by omega) (Nat.le_refl _) (Nat.le_refl _)))
  · have h2 := h2.re hl2
    refine cond_t rfl (term_s M hN h2 (by omega) _ fun r3 h3 => ?_)
    have h3 := (h3.re rfl).mono (s' := s) (by omega) (Nat.le_refl _) (Nat.le_refl _)
    have hF : (if (decide (c1.e_ = 0) && !isF tk c1.at_ sRP) then loopC (seeB tk sComma) (fun c => termC M tk (eatC tk sComma c)) (fuel tk) (termC M tk c1) else c1) = loopC (seeB tk sComma) (fun c => termC M tk (eatC tk sComma c)) (fuel tk) (termC M tk c1) := by
      by_cases he : c1.e_ = 0
      · have hi : isF tk c1.at_ sRP = false := by
          have := hb
          unfold seeB at this
          rw [decide_eq_true he] at this
          simpa using this
        rw [if_pos (by rw [decide_eq_true he, hi]; rfl)]
      · rw [if_neg (by rw [decide_eq_false he]; simp), termE M he, loopE (seeE he)]
    rw [hF] at hK
    refine ⟨fun at_ deep l' ex f => ∃ c', Re tk A x at0 dp s q p c' ⟨tk, at_, deep, l', ex⟩ ∧ LI tk (seeB tk sComma) (fun c => termC M tk (eatC tk sComma c)) (loopC (seeB tk sComma) (fun c => termC M tk (eatC tk sComma c)) (fuel tk) (termC M tk c1)) f c', ⟨_, _, h3, LI.start h3.cw⟩, ?_⟩
    rintro at1 deep1 l1 ex1 f ⟨c', h4, hl⟩
    refine eat_s hN h4 sComma _ (fun hb r5 hl5 h5 => cond_t rfl ?_) (fun hb r5 hl5 h5 => cond_f rfl ?_)
    · refine term_s M hN (h5.re hl5) (by omega) _ fun r6 h6 => ?_
      have h6 := h6.re rfl
      obtain ⟨f', hf', hl'⟩ := hl.step hb (see_lt hb).1 h4.cw.hi (fun hd => by
        have := term_at M (cw_eat sComma h4.cw) (by rw [eat0 sComma hb])
        rw [eat0 sComma hb] at this ⊢
        exact this)
      exact ⟨f', hf', _, h6.mono (by omega) (Nat.le_refl _) (Nat.le_refl _), hl'⟩
    · have h5 := h5.re hl5
      rw [← hl.stop hb] at hK
      exact must_s hN h5 sRP _ fun r6 hl6 h6 => hK _ ((h6.re hl6).mono (by omega) (Nat.le_refl _) (Nat.le_refl _))
def setB (M : TermC) (toks : List GToken) (c : Cur) : Cur :=
  if seeB toks sRandom (eatC toks sEq (nameC toks c)) then eatC toks sRP (termC M toks (eatC toks sLP (eatC toks sRandom (eatC toks sEq (nameC toks c))))) else termC M toks (eatC toks sEq (nameC toks c))
def setOp (toks : List GToken) (c : Cur) (o : Int) : Int := if seeB toks sRandom (eatC toks sEq (nameC toks c)) then 20 else o
theorem set_s (M : TermC) (hN : toks.length < 1000000) (h : Re toks A x at0 dp s q p c r) (hp : p ≤ 900) (K : Gparse_reader → Prop)
    (hK : ∀ r', Re toks A ⟨setOp toks c x.op, nameS toks c, x.n, x.kids, x.at_⟩ at0 dp (s + 2) q p (setB M toks c) r' → K r') : V_parse_reader_set r (A.length : Int) K := by
  obtain ⟨tk, a, dd, l, e⟩ := r
  obtain rfl : tk = toks := h.t
  refine parse_reader_set_lift _ _ _ ⟨fun at_ deep l' ex => Re tk A ⟨x.op, nameS tk c, x.n, x.kids, x.at_⟩ at0 dp (s + 1) q p (nameC tk c) ⟨tk, at_, deep, l', ex⟩, name_s hN h _ (fun r1 hl1 h1 => ?_), ?_⟩
  · have h1 := h1.re hl1
    exact h1.elem fun y _ hy => h1.upd _ hy fun e => by rw [e]; rfl
  · intro at1 deep1 l1 ex1 h1
    refine must_s hN h1 sEq _ fun r2 hl2 h2 => ?_
    have h2 := h2.re hl2
    unfold setB setOp at hK
    generalize eatC tk sEq (nameC tk c) = c2 at h2 hK
    refine eat_s hN h2 sRandom _ (fun hb r3 hl3 h3 => cond_t rfl ?_) (fun hb r3 hl3 h3 => cond_f rfl ?_)
    · rw [if_pos hb, if_pos hb] at hK
      have h3 := h3.re hl3
      refine h3.elem fun y _ hy => must_s hN (h3.upd (⟨20, nameS tk c, x.n, x.kids, x.at_⟩ : GNode) hy fun e => by rw [e]; rfl) sLP _ fun r4 hl4 h4 => term_s M hN (h4.re hl4) (by omega) _ fun r5 h5 => must_s hN (h5.re rfl) sRP _ fun r6 hl6 h6 => hK _ ((h6.re hl6).mono (by omega) (Nat.le_refl _) (Nat.le_refl _))
    · rw [if_neg (by rw [hb]; simp), if_neg (by rw [hb]; simp)] at hK
      exact term_s M hN (h3.re hl3) (by omega) _ fun r4 h4 => hK _ (h4.re rfl)
end
end Go.Proofs.Ytdbdkdmgfiiljaa
namespace Go.Proofs.Ytdbdkdmgfiiljaa
open Go.Vc Go.Lv Go.Ty
section
variable {toks : List GToken} {A : List GNode} {x : GNode} {at0 dp : Int} {s q p : Nat} {c d : Cur} {r : Gparse_reader}
def stK (M : TermC) (toks : List GToken) : Nat → Int → Cur
  | 0 => fromC
  | k + 1 => stmtC M toks (blkF M toks k)
theorem blk_eq (M : TermC) (k : Nat) (at_ : Int) (h : ¬ (k = 0 ∧ isF toks at_ sLB = true)) : blkF M toks k at_ = blockC toks (stK M toks k) at_ := by
  cases k with
  | zero =>
    unfold blkF
    rw [if_neg (fun hx => h ⟨rfl, hx⟩)]; rfl
  | succ k => rfl
theorem Re.dpset {at_ dp2 l e : _} {dp' : Int} (h : Re toks A x at0 dp s q p c ⟨toks, at_, dp2, l, e⟩) {d' : Int} (hd : d' = dp') : Re toks A x at0 dp' s q p c ⟨toks, at_, d', l, e⟩ :=
  ⟨h.cw, rfl, h.at_, h.e_, hd, h.ok, h.lo, h.hi, h.ha⟩
def Got (toks : List GToken) (L : List GNode) (at0 dp : Int) (p : Nat) (e0 : Int) (cc : Cur) (K : Gparse_reader → Prop) : Prop :=
  ∀ (r' : Gparse_reader) (x2 : GNode) (c2 : Cur), Re toks L x2 at0 dp 1 200 p c2 r' → (e0 = 0 → cc.at_ = c2.at_ ∧ cc.e_ = c2.e_ ∧ (c2.e_ = 0 → cc.l = (underC c2 x2).l)) → (e0 ≠ 0 → c2.at_ = at0 ∧ c2.e_ = e0) → K r'
def PB (M : TermC) (toks : List GToken) (k : Nat) : Prop := ∀ (A : List GNode) (x : GNode) (at0 : Int) (s p : Nat) (c : Cur) (r : Gparse_reader) (K : Gparse_reader → Prop),
  Re toks A x at0 (24 - (k : Int)) (s + 1) 200 p c r → (c.e_ = 0 → (A.length : Int) ≤ at0 + 1) → (A.length : Int) ≤ at0 + 1000 → p ≤ 300 →
  (∀ r', Re toks A x at0 (24 - (k : Int)) (s + 2) 200 (p + (10 * k + 20)) (inC (blkF M toks k) c) r' → K r') → V_parse_reader_block r (A.length : Int) K
def PS (M : TermC) (toks : List GToken) (k : Nat) : Prop := ∀ (r : Gparse_reader) (K : Gparse_reader → Prop),
  r.toks = toks → 0 ≤ r.at_ → r.at_ ≤ (toks.length : Int) → r.deep = 24 - (k : Int) → r.e_ = 0 → (r.l.length : Int) ≤ r.at_ + 1 →
  Got toks r.l r.at_ (24 - (k : Int)) (10 * k + 25) 0 (stmtC M toks (blkF M toks k) r.at_) K → V_parse_reader_stmt r K
theorem lenOk (h : Re toks A x at0 dp (s + 1) q p c r) (he : c.e_ = 0) (hA : (A.length : Int) ≤ at0 + 1) : (r.l.length : Int) ≤ c.at_ + 1 := by
  have := h.cw.w he
  rw [h.ok he]
  simp only [List.length_append, List.length_cons]
  omega
theorem block_s (M : TermC) (hN : toks.length < 1000000) (k : Nat) (hk : k ≤ 24) (hS : ∀ k', k = k' + 1 → PS M toks k') : PB M toks k := by
  intro A x at0 s p c r K h hA1 hA hp hK
  have hsm := h.small hN (by omega)
  have hl' := h.len' hA (by omega)
  have z0 := h.cw.z1
  have z1 := h.cw.hi
  have hok1 : c.e_ = 0 → (r.l.length : Int) ≤ c.at_ + 1 := fun he => lenOk h he (hA1 he)
  obtain ⟨tk, a, dd, l, e⟩ := r
  obtain rfl : tk = toks := h.t
  obtain rfl : a = c.at_ := h.at_
  obtain rfl : e = c.e_ := h.e_
  have hdp : dd = 24 - (k : Int) := h.dp
  subst hdp
  dsimp only at hsm hl' hok1
  generalize he0 : (if c.e_ = 0 ∧ isF tk c.at_ sLB = true ∧ k = 0 then (5 : Int) else c.e_) = e0
  refine parse_reader_block_lift _ _ _ ⟨fun at_ deep l' ex => at_ = c.at_ ∧ deep = 24 - (k : Int) ∧ l' = l ∧ ex = e0, ⟨fun b => b = decide (c.e_ = 0 ∧ isF tk c.at_ sLB = true ∧ k = 0), cond_intro (fun he => ?_) (fun he => ?_), ?_⟩, ?_⟩
  · have he : c.e_ = 0 := by simpa using he
    refine pis_v hN rfl z0 z1 0 (by decide) (by decide) sLB _ ?_
    dsimp only
    rw [Int.add_zero]
    refine cond_intro (fun hi => ?_) fun hi => ?_
    · show _ = _
      rw [Bool.eq_iff_iff]; simp [he, hi]; omega
    · show false = _
      rw [hi]; simp
  · have he : ¬ c.e_ = 0 := by simpa using he
    show false = _
    rw [decide_eq_false (fun hh => he hh.1)]
  · rintro _ rfl
    refine cond_intro (fun hb => ?_) fun hb => ?_
    · have hb := of_decide_eq_true hb
      refine pfail_v _ _ ⟨rfl, rfl, rfl, ?_⟩
      dsimp only
      rw [← he0, if_pos hb, if_pos hb.1]
    · have hb := of_decide_eq_false hb
      refine ⟨rfl, rfl, rfl, ?_⟩
      rw [← he0, if_neg hb]
  rintro a' d' l' x' ⟨q1, q2, q3, q4⟩
  have q3 := q3.symm
  have q4 := q4.symm
  subst q1 q2 q3 q4
  refine open_s hN rfl z0 z1 (by dsimp only; omega) 32 _ (fun _ r2 h2 hl2 => ?_) hl'
  dsimp only at h2
  refine must_s hN (h2.re rfl) sLB _ fun r3 hl3 h3 => ?_
  have h3 := h3.re hl3
  have hw : IntKind.i64.wrap (r3.deep + 1) = 25 - (k : Int) := by rw [show r3.deep = 24 - (k : Int) from h3.dp, wrap_in (by omega) (by omega)]; omega
  rw [hw]
  have h3 := (h3.dpset (dp' := 25 - (k : Int)) rfl).mono (s' := 1) (q' := 200) (p' := 10 * k + 16) (Nat.le_refl _) (by omega) (by omega)
  -- where the loop is entered, blocks may be within
  have hk0 : (eatC tk sLB (fromE c.at_ (if c.e_ = 0 ∧ isF tk c.at_ sLB = true ∧ k = 0 then (5 : Int) else c.e_))).e_ = 0 → k ≠ 0 ∧ c.e_ = 0 := by
    intro h0
    split at h0
    · rw [eatE (by simp [fromE])] at h0; simp [fromE] at h0
    · rename_i hb
      by_cases he : c.e_ = 0
      · refine ⟨fun hk0 => ?_, he⟩
        unfold eatC fromE at h0
        dsimp only at h0
        rw [if_pos he] at h0
        split at h0
        · rename_i hi; exact hb ⟨he, hi, hk0⟩
        · cases h0
      · rw [eatE (by exact he)] at h0; exact absurd h0 he
  rw [he0] at hk0
  generalize hc1 : eatC tk sLB (fromE c.at_ e0) = c1 at h3 hk0
  generalize hF : loopC (fun c => decide (c.e_ = 0) && !isF tk c.at_ sRB) (fun c => addC c (stK M tk k c.at_)) (fuel tk) c1 = F
  refine ⟨fun at_ deep l' ex f => ∃ c', Re tk l (nd tk 32 [] 0 c.at_) c.at_ (25 - (k : Int)) 1 200 (10 * k + 16) c' ⟨tk, at_, deep, l', ex⟩ ∧ LI tk (fun c => decide (c.e_ = 0) && !isF tk c.at_ sRB) (fun c => addC c (stK M tk k c.at_)) F f c' ∧ (c'.e_ = 0 → k ≠ 0 ∧ c.e_ = 0), ⟨_, c1, h3, hF ▸ LI.start h3.cw, hk0⟩, ?_⟩
  clear h2 h3 hl2 hl3 hw
  rintro at1 deep1 l1 ex1 f ⟨c', h4, hl, hk'⟩
  have h4e : ex1 = c'.e_ := h4.e_
  have h4a : at1 = c'.at_ := h4.at_
  subst h4e; subst h4a
  refine ⟨fun b => b = (decide (c'.e_ = 0) && !isF tk c'.at_ sRB), cond_intro (fun he => ?_) (fun he => ?_), ?_⟩
  · have he : c'.e_ = 0 := by simpa using he
    refine pis_v hN rfl h4.cw.z1 h4.cw.hi 0 (by decide) (by decide) sRB _ ?_
    dsimp only
    rw [Int.add_zero, decide_eq_true he]; rfl
  · have he : ¬ c'.e_ = 0 := by simpa using he
    show false = _
    rw [decide_eq_false he]; rfl
  rintro _ rfl
  refine cond_intro (fun hA' => ?_) fun hB => ?_
  · have he : c'.e_ = 0 := by simp at hA'; exact hA'.1
    obtain ⟨hkk, hce⟩ := hk' he
    obtain ⟨k', rfl⟩ : ∃ k', k = k' + 1 := ⟨k - 1, by omega⟩
    have hln := lenOk (s := 0) h4 he (by have := hok1 hce; omega)
    have hd : deep1 = 24 - (k' : Int) := by have : deep1 = 25 - ((k' + 1 : Nat) : Int) := h4.dp; omega
    refine hS k' rfl _ _ rfl h4.cw.z1 h4.cw.hi hd he hln fun r4 x2 c2 h5 hcc _ => ?_
    dsimp only at h5 hcc
    have hcw := cw_stmt M (cw_blk (toks := tk) M k') (by omega) h4.cw.z1 h4.cw.hi
    have hadd := (cw_add (q' := 3 * k' + 4) (s' := 1) h4.cw (fun _ => hcw) (by omega)).mono (s' := 1) (q' := 200) (by omega) (Nat.le_refl _)
    have h4r := h4.resetp he 0
    obtain ⟨f', hf', hl'⟩ := hl.step hA' he h4.cw.hi (fun hd => adv_add hcw he hd)
    exact fin_add (dd := stmtC M tk (blkF M tk k') c'.at_) (p' := 10 * (k' + 1) + 16) (dp3 := r4.deep) h4r rfl h5 (fun hne => absurd he hne) (fun _ => hcc rfl) hadd (by omega) (by rw [h5.dp]; omega) (K := fun r5 => ∃ n1, n1 < f ∧ ∃ c', Re tk l (nd tk 32 [] 0 c.at_) c.at_ (25 - ((k' + 1 : Nat) : Int)) 1 200 (10 * (k' + 1) + 16) c' ⟨tk, r5.at_, r5.deep, r5.l, r5.e_⟩ ∧ LI tk (fun c => decide (c.e_ = 0) && !isF tk c.at_ sRB) (fun c => addC c (stK M tk (k' + 1) c.at_)) F n1 c' ∧ (c'.e_ = 0 → k' + 1 ≠ 0 ∧ c.e_ = 0)) fun r5 h6 => ⟨f', hf', _, h6.re rfl, hl', fun _ => ⟨hkk, hce⟩⟩
  · have hst := (hl.stop hB).symm
    subst hst
    refine must_s hN h4 sRB _ fun r5 hl5 h5 => ?_
    have h5 := h5.re hl5
    have hw : IntKind.i64.wrap (r5.deep - 1) = 24 - (k : Int) := by rw [show r5.deep = 25 - (k : Int) from h5.dp, wrap_in (by omega) (by omega)]; omega
    rw [hw]
    have hcw := cw_in (cw_blk (toks := tk) M k) h.cw (by omega)
    refine fin_add (dd := blkF M tk k c.at_) (p' := p + (10 * k + 20)) h rfl h5 (fun hne => ?_) (fun he => ?_) hcw (by omega) rfl hK
    · have e0c : e0 = c.e_ := by rw [← he0, if_neg (fun hh => hne hh.1)]
      have hne0 : (fromE c.at_ e0).e_ ≠ 0 := by show e0 ≠ 0; rw [e0c]; exact hne
      have hc1' : c1 = fromE c.at_ e0 := by rw [← hc1, eatE hne0]
      have hF' : F = fromE c.at_ e0 := by rw [← hF, hc1', loopE (by rw [decide_eq_false hne0]; rfl)]
      rw [hF', eatE hne0]
      exact ⟨rfl, e0c⟩
    · by_cases hb : isF tk c.at_ sLB = true ∧ k = 0
      · have e05 : e0 = 5 := by rw [← he0, if_pos ⟨he, hb⟩]
        have hne0 : (fromE c.at_ e0).e_ ≠ 0 := by show e0 ≠ 0; rw [e05]; decide
        have hc1' : c1 = fromE c.at_ e0 := by rw [← hc1, eatE hne0]
        have hF' : F = fromE c.at_ e0 := by rw [← hF, hc1', loopE (by rw [decide_eq_false hne0]; rfl)]
        rw [hF', eatE hne0, e05]
        obtain ⟨hb1, rfl⟩ := hb
        unfold blkF
        rw [if_pos hb1]
        exact ⟨rfl, rfl, fun h => by cases h⟩
      · have e00 : e0 = 0 := by rw [← he0, if_neg (fun hh => hb hh.2)]; exact he
        rw [blk_eq M k c.at_ (fun hh => hb ⟨hh.2, hh.1⟩)]
        have hc1' : c1 = eatC tk sLB (fromC c.at_) := by rw [← hc1, e00]; rfl
        have : blockC tk (stK M tk k) c.at_ = underC (eatC tk sRB F) (nd tk 32 [] 0 c.at_) := by rw [← hF, hc1']; rfl
        rw [this]
        exact ⟨rfl, rfl, fun _ => rfl⟩
theorem clause_s (M : TermC) (hN : toks.length < 1000000) (k : Nat) (hk : k ≤ 24) (hB : PB M toks k) (r : Gparse_reader) (K : Gparse_reader → Prop) (ht : r.toks = toks) (h0 : 0 ≤ r.at_) (h1 : r.at_ ≤ (toks.length : Int)) (hd : r.deep = 24 - (k : Int))
    (hl1 : r.e_ = 0 → (r.l.length : Int) ≤ r.at_ + 1) (hl2 : (r.l.length : Int) ≤ r.at_ + 900) (hK : Got toks r.l r.at_ (24 - (k : Int)) (10 * k + 24) r.e_ (clauseC M toks (blkF M toks k) r.at_) K) : V_parse_reader_clause r K := by
  obtain ⟨tk, a, dd, l, e⟩ := r
  obtain rfl : tk = toks := ht
  dsimp only at h0 h1 hd hl1 hl2 hK
  subst hd
  have hsm : l.length < 3000000 := by omega
  refine parse_reader_clause_lift _ _ (open_s hN rfl h0 h1 hsm 37 _ (fun _ r1 h2 _ => ?_) (by dsimp only; omega))
  have h2 := (h2.re rfl).mono (s' := 0) (q' := 200) (p' := 0) (Nat.le_refl _) (by omega) (Nat.le_refl _)
  dsimp only at h2
  refine eat_s hN h2 sElse _ (fun hb r2 hl2' h3 => cond_t rfl ?_) (fun hb r2 hl2' h3 => cond_f rfl ?_)
  · obtain ⟨he, hi⟩ := see_lt hb
    have he : e = 0 := he
    subst he
    refine hB _ _ _ 0 _ _ _ _ (h3.re hl2') (fun _ => hl1 rfl) (by dsimp only; omega) (by omega) fun r3 h4 => hK _ _ _ ((h4.re rfl).mono (by omega) (Nat.le_refl _) (by omega)) (fun _ => ?_) (fun hne => absurd rfl hne)
    have hi : isF tk a sElse = true := hi
    unfold clauseC
    rw [if_pos hi]
    exact ⟨rfl, rfl, fun _ => rfl⟩
  · have h3 := h3.re hl2'
    refine must_s hN h3 sCase _ fun r4 hl4 h4 => ?_
    have h4 := h4.re hl4
    have hcE : e ≠ 0 → eatC tk sCase (fromE a e) = fromE a e := fun hne => eatE hne
    have hcO : e = 0 → clauseC M tk (blkF M tk k) a = underC (inC (blkF M tk k) (afterC M tk (whenC M tk (eatC tk sCase (fromE a e)))).c) (nd tk (afterC M tk (whenC M tk (eatC tk sCase (fromE a e)))).op (afterC M tk (whenC M tk (eatC tk sCase (fromE a e)))).name (whenN tk (eatC tk sCase (fromE a e))) a) := by
      intro he
      subst he
      have hi : isF tk a sElse = false := by
        unfold seeB fromE at hb
        simpa using hb
      unfold clauseC
      rw [if_neg (by rw [hi]; simp)]; rfl
    generalize eatC tk sCase (fromE a e) = c1 at h4 hcE hcO
    refine ⟨fun at_ deep l' ex => Re tk l (nd tk 37 [] (whenN tk c1) a) a (24 - (k : Int)) 1 200 0 (whenC M tk c1) ⟨tk, at_, deep, l', ex⟩, eat_s hN h4 sWhen _ (fun hb r5 hl5 h5 => cond_t rfl ?_) (fun hb r5 hl5 h5 => cond_f rfl ?_), ?_⟩
    · have h5 := h5.re hl5
      refine h5.elem fun y _ hy => term_s M hN (h5.upd (nd tk 37 [] 1 a) hy fun e => by rw [e]; rfl) (by omega) _ fun r6 h6 => must_s hN (h6.re rfl) sColon _ fun r7 hl7 h7 => ?_
      have h7 := h7.re hl7
      unfold whenN whenC; rw [if_pos hb, if_pos hb]
      exact h7.mono (by omega) (Nat.le_refl _) (Nat.le_refl _)
    · have h5 := h5.re hl5
      unfold whenN whenC; rw [if_neg (by rw [hb]; simp), if_neg (by rw [hb]; simp)]
      exact h5
    · intro at5 deep5 l5 ex5 h5
      have hwE : e ≠ 0 → whenC M tk c1 = fromE a e := fun hne => by
        rw [hcE hne]
        unfold whenC; rw [if_neg (by rw [seeE (show (fromE a e).e_ ≠ 0 from hne)]; simp)]
      generalize whenN tk c1 = wn at h5 hcO
      generalize whenC M tk c1 = c2 at h5 hwE hcO
      have hnm : (afterC M tk c2).c.e_ = 0 → True := fun _ => trivial
      refine ⟨fun at_ deep l' ex => Re tk l (nd tk (afterC M tk c2).op (afterC M tk c2).name wn a) a (24 - (k : Int)) 1 200 1 (afterC M tk c2).c ⟨tk, at_, deep, l', ex⟩, eat_s hN h5 sAfter _ (fun hb r6 hl6 h6 => cond_t rfl ?_) (fun hb r6 hl6 h6 => cond_f rfl ?_), ?_⟩
      · have h6 := h6.re hl6
        refine h6.elem fun y _ hy => term_s M hN (h6.upd (nd tk 36 [] wn a) hy fun e => by rw [e]; rfl) (by omega) _ fun r7 h7 => ?_
        unfold afterC; rw [if_pos hb]
        exact (h7.re rfl).mono (by omega) (Nat.le_refl _) (by omega)
      · have h6 := h6.re hl6
        refine comm_s M hN 35 34 h6 rfl (by omega) (by omega) (by omega) _ fun r7 h7 => ?_
        unfold afterC; rw [if_neg (by rw [hb]; simp)]
        exact (h7.re rfl).mono (by omega) (Nat.le_refl _) (by omega)
      · intro at7 deep7 l7 ex7 h7
        have haE : e ≠ 0 → (afterC M tk c2).c = fromE a e := fun hne => by
          rw [hwE hne]
          unfold afterC; rw [if_neg (by rw [seeE (show (fromE a e).e_ ≠ 0 from hne)]; simp)]
          unfold commC; rw [if_neg (show (fromE a e).e_ ≠ 0 from hne)]
        refine hB _ _ _ 0 _ _ _ _ h7 (fun he7 => ?_) (by dsimp only; omega) (by omega) fun r8 h8 => hK _ _ _ ((h8.re rfl).mono (by omega) (Nat.le_refl _) (by omega)) (fun he => ?_) (fun hne => ?_)
        · refine hl1 ?_
          apply Classical.byContradiction
          intro hne
          rw [haE hne] at he7
          exact hne he7
        · rw [hcO he]
          exact ⟨rfl, rfl, fun _ => rfl⟩
        · unfold inC
          rw [haE hne, addE (show (fromE a e).e_ ≠ 0 from hne)]
          exact ⟨rfl, rfl⟩
end
end Go.Proofs.Ytdbdkdmgfiiljaa
namespace Go.Proofs.Ytdbdkdmgfiiljaa
open Go.Vc Go.Lv Go.Ty
section
variable {toks : List GToken} {A : List GNode} {x : GNode} {at0 dp : Int} {s q p : Nat} {c d : Cur} {r : Gparse_reader}
theorem nameJ (hN : toks.length < 1000000) {a dd e : Int} {L : List GNode} (h : Re toks A x at0 dp s q p c ⟨toks, a, dd, L, e⟩) {G : Int → Int → List GNode → Int → Prop}
    (hG : ∀ a d l e, Re toks A ⟨x.op, nameS toks c, x.n, x.kids, x.at_⟩ at0 dp (s + 1) q p (nameC toks c) ⟨toks, a, d, l, e⟩ → G a d l e) :
    ∃ J2 : Int → Int → List GNode → Int → Prop, (V_parse_reader_name ⟨toks, a, dd, L, e⟩ (fun x4 r6 => ((0 : Int) ≤ (A.length : Int) ∧ (A.length : Int) < (L.length : Int)) ∧
      ∀ x5, L[(A.length : Int).toNat]? = some x5 → J2 r6.at_ r6.deep (L.set (A.length : Int).toNat ⟨x5.op, x4, x5.n, x5.kids, x5.at_⟩) r6.e_)) ∧ ∀ a d l e, J2 a d l e → G a d l e := by
  refine ⟨G, name_s hN h _ (fun r2 hl2 h2 => ?_), fun _ _ _ _ h => h⟩
  have h2 := h2.re hl2
  exact h2.elem fun y _ hy => hG _ _ _ _ (h2.upd _ hy fun e => by rw [e]; rfl)
theorem stmt_s (M : TermC) (hN : toks.length < 1000000) (k : Nat) (hk : k ≤ 24) (hB : PB M toks k) : PS M toks k := by
  intro r K ht h0 h1 hd he hl hK
  obtain ⟨tk, a, dd, l, e⟩ := r
  obtain rfl : tk = toks := ht
  dsimp only at h0 h1 hd he hl hK
  subst hd; subst he
  have hA1000 : (l.length : Int) ≤ a + 1000 := by omega
  refine parse_reader_stmt_lift _ _ (psee_v hN rfl h0 h1 0 (by decide) (by decide) _ (open_s hN rfl h0 h1 (by dsimp only; omega) 0 _ (fun _ r1 h2 _ => ?_) (by dsimp only; omega)))
  have h2 := (h2.re rfl).mono (s' := 0) (q' := 200) (p' := 0) (Nat.le_refl _) (by omega) (Nat.le_refl _)
  dsimp only at h2 ⊢
  rw [Int.add_zero]
  -- the end of a statement with a semicolon
  have semi : ∀ (at1 deep1 : Int) (l1 : List GNode) (ex1 : Int), (∃ x2 c2, Re tk l x2 a (24 - (k : Int)) 0 200 5 c2 ⟨tk, at1, deep1, l1, ex1⟩ ∧ stmtC M tk (blkF M tk k) a = underC (eatC tk sSemi c2) x2) →
      V_parse_reader_must (⟨tk, at1, deep1, l1, ex1⟩ : Gparse_reader) ([[59]] : List (List UInt8)) (fun r22 => K (⟨tk, r22.at_, r22.deep, l1, r22.e_⟩ : Gparse_reader)) := by
    rintro at1 deep1 l1 ex1 ⟨x2, c2, h3, hst⟩
    refine must_s hN h3 sSemi _ fun r4 hl4 h4 => hK _ x2 _ ((h4.re hl4).mono (by omega) (Nat.le_refl _) (by omega)) (fun _ => ?_) (fun hne => absurd rfl hne)
    rw [hst]; exact ⟨rfl, rfl, fun _ => rfl⟩
  -- the end of one without
  have fin : ∀ (r' : Gparse_reader) x2 c2, Re tk l x2 a (24 - (k : Int)) 1 200 (10 * k + 25) c2 r' → stmtC M tk (blkF M tk k) a = underC c2 x2 → K r' := by
    intro r' x2 c2 h3 hst
    refine hK _ x2 _ h3 (fun _ => ?_) (fun hne => absurd rfl hne)
    rw [hst]; exact ⟨rfl, rfl, fun _ => rfl⟩
  refine cond_intro (fun hk1 => ?_) fun hk1 => ⟨rfl, rfl, rfl, rfl, rfl, cond_intro (fun hk3 => ?_) fun hk3 => ?_⟩
  · have hk1 : (tokF tk a).kind = 1 := by simpa using hk1
    refine ⟨fun at1 deep1 l1 ex1 => ∃ x2 c2, Re tk l x2 a (24 - (k : Int)) 0 200 5 c2 ⟨tk, at1, deep1, l1, ex1⟩ ∧ stmtC M tk (blkF M tk k) a = underC (eatC tk sSemi c2) x2, ?_, semi⟩
    have h2a : r1.at_ = a := h2.at_
    refine pis_v hN rfl (by dsimp only; omega) (by dsimp only; omega) 1 (by decide) (by decide) sEq _ ?_
    dsimp only
    refine cond_intro (fun hi => ?_) fun hi => ?_
    · rw [h2a] at hi
      refine h2.elem fun y _ hy => set_s M hN (h2.upd (nd tk 19 [] 0 a) hy fun e => by rw [e]; rfl) (by omega) _ fun r3 h3 => ⟨_, _, (h3.re rfl).mono (by omega) (Nat.le_refl _) (by omega), ?_⟩
      unfold stmtC
      rw [if_pos hk1, if_pos hi]
      unfold setC setB setOp
      show (if seeB tk sRandom (eatC tk sEq (nameC tk (fromC a))) = true then _ else _) = underC (eatC tk sSemi (if seeB tk sRandom (eatC tk sEq (nameC tk (fromC a))) = true then _ else _)) ⟨if seeB tk sRandom (eatC tk sEq (nameC tk (fromC a))) = true then _ else _, _, _, _, _⟩
      split <;> rfl
    · rw [h2a] at hi
      refine comm_s M hN 21 22 h2 rfl hA1000 (by omega) (by omega) _ fun r3 h3 => ⟨_, _, (h3.re rfl).mono (by omega) (Nat.le_refl _) (by omega), ?_⟩
      unfold stmtC
      rw [if_pos hk1, if_neg (by rw [hi]; simp)]
      rfl
  · have hk1 : ¬ (tokF tk a).kind = 1 := by simpa using hk1
    have hk3 : ¬ (tokF tk a).kind = 3 := by simpa using hk3
    have hst : stmtC M tk (blkF M tk k) a = ⟨[], 0, a, 11⟩ := by unfold stmtC; rw [if_neg hk1, if_neg hk3]
    have h2e : r1.e_ = 0 := h2.e_
    have hfin : Re tk l (nd tk 0 [] 0 a) a (24 - (k : Int)) 1 200 0 ⟨[], 0, a, 11⟩ ⟨tk, r1.at_, r1.deep, r1.l, if r1.e_ = 0 then 11 else r1.e_⟩ := h2.stepE (cw_err h0 h1 (by decide) 1 200) rfl h2.at_ (by dsimp only; rw [if_pos h2e]) rfl rfl (Int.le_refl _) (fun e => by cases e)
    refine pfail_v _ _ (hK _ (nd tk 0 [] 0 a) ⟨[], 0, a, 11⟩ (hfin.mono (Nat.le_refl _) (Nat.le_refl _) (by omega)) (fun _ => ?_) (fun hne => absurd rfl hne))
    rw [hst]; exact ⟨rfl, rfl, fun e => by cases e⟩
  · have hk1 : ¬ (tokF tk a).kind = 1 := by simpa using hk1
    have hk3 : (tokF tk a).kind = 3 := by simpa using hk3
    have hst : stmtC M tk (blkF M tk k) a = wordC M tk (blkF M tk k) a := by unfold stmtC; rw [if_neg hk1, if_pos hk3]
    have hlt := kind_lt (toks := tk) (at_ := a) (by rw [hk3]; decide)
    have h2a : r1.at_ = a := h2.at_
    have h2e : r1.e_ = 0 := h2.e_
    have hwa : IntKind.i64.wrap (r1.at_ + 1) = a + 1 := by rw [h2a, wrap_in (by omega) (by omega)]
    have hE : ∀ t : Str, (tokF tk a).text = t → eatC tk t (fromC a) = ⟨[], 0, a + 1, 0⟩ := fun t htx => by
      unfold eatC fromC isF
      dsimp only
      rw [if_pos rfl, hk3, htx]
      simp
    have h3 : Re tk l (nd tk 0 [] 0 a) a (24 - (k : Int)) 1 200 0 ⟨[], 0, a + 1, 0⟩ ⟨tk, a + 1, r1.deep, r1.l, r1.e_⟩ :=
      h2.stepE ⟨h0, by dsimp only; omega, by dsimp only; omega, fun _ => by simp; omega, by simp; omega⟩ rfl rfl h2e rfl rfl (by show a ≤ a + 1; omega) (fun _ => h2.ok rfl)
    rw [hwa]
    rw [hst] at semi fin hK
    generalize htx : (tokF tk a).text = tx at hE
    refine ⟨fun at1 deep1 l1 ex1 => ∃ x2 c2, Re tk l x2 a (24 - (k : Int)) 0 200 5 c2 ⟨tk, at1, deep1, l1, ex1⟩ ∧ wordC M tk (blkF M tk k) a = underC (eatC tk sSemi c2) x2, ?_, semi⟩
    clear h2 h2a hwa
    unfold wordC at fin hK ⊢
    dsimp only at fin hK ⊢
    rw [htx] at fin hK ⊢
    refine cond_intro (fun hv => ?_) fun hv => ?_
    · obtain rfl : tx = sVar := eq_of_beq hv
      have hEv := hE sVar rfl
      rw [if_pos rfl, hEv]
      refine h3.elem fun y _ hy => nameJ hN (h3.upd (nd tk 18 [] 0 a) hy fun e => by rw [e]; rfl) fun a2 d2 l2 e2 h4 => must_s hN h4 sEq _ fun r5 hl5 h5 => term_s M hN (h5.re hl5) (by omega) _ fun r6 h6 => ⟨_, _, (h6.re rfl).mono (by omega) (Nat.le_refl _) (by omega), rfl⟩
    rw [if_neg (show ¬ tx = sVar from ne_of_beq_false hv)] at fin hK ⊢
    refine cond_intro (fun hv => ?_) fun hv => ?_
    · obtain rfl : tx = sStart := eq_of_beq hv
      have hEv := hE sStart rfl
      rw [if_pos rfl, hEv]
      refine h3.elem fun y _ hy => nameJ hN (h3.upd (nd tk 26 [] 0 a) hy fun e => by rw [e]; rfl) fun a2 d2 l2 e2 h4 => args_s M hN h4 (by omega) _ fun r6 h6 => ⟨_, _, (h6.re rfl).mono (by omega) (Nat.le_refl _) (by omega), rfl⟩
    rw [if_neg (show ¬ tx = sStart from ne_of_beq_false hv)] at fin hK ⊢
    refine ⟨fun b => b = true ↔ (tx = sSleep ∨ tx = sPrint ∨ tx = sAssert), ?_, ?_⟩
    · refine cond_intro (fun h => ?_) fun h => cond_intro (fun h' => ?_) fun h' => ?_
      · show _ ↔ _
        have h : tx = sSleep := eq_of_beq h
        subst h; decide
      · show _ ↔ _
        have h' : tx = sPrint := eq_of_beq h'
        subst h'; decide
      · show _ ↔ _
        have h : ¬ tx = sSleep := ne_of_beq_false h
        have h' : ¬ tx = sPrint := ne_of_beq_false h'
        simp [h, h', sAssert]
    intro b hb
    refine cond_intro (fun hbt => ?_) fun hbf => ?_
    · have hb := hb.1 hbt
      refine ⟨fun l4 => ∃ op, Re tk l (nd tk op [] 0 a) a (24 - (k : Int)) 1 200 0 ⟨[], 0, a + 1, 0⟩ ⟨tk, a + 1, r1.deep, l4, r1.e_⟩ ∧ ((op = 27 ∧ tx = sSleep) ∨ (op = 28 ∧ tx = sPrint) ∨ (op = 29 ∧ tx = sAssert)), ?_, ?_⟩
      · intro op hop
        refine h3.elem fun y _ hy => ⟨op, h3.upd (nd tk op [] 0 a) hy fun e => by rw [e]; rfl, ?_⟩
        rcases hb with rfl | rfl | rfl
        · exact .inl ⟨hop.trans (by decide), rfl⟩
        · exact .inr (.inl ⟨hop.trans (by decide), rfl⟩)
        · exact .inr (.inr ⟨hop.trans (by decide), rfl⟩)
      · rintro l4 ⟨op, h4, hop⟩
        refine term_s M hN h4 (by omega) _ fun r6 h6 => ⟨_, _, (h6.re rfl).mono (by omega) (Nat.le_refl _) (by omega), ?_⟩
        rcases hop with ⟨rfl, rfl⟩ | ⟨rfl, rfl⟩ | ⟨rfl, rfl⟩
        · rw [if_pos rfl]; unfold oneC; rw [hE sSleep rfl]
        · rw [if_neg (by decide), if_pos rfl]; unfold oneC; rw [hE sPrint rfl]
        · rw [if_neg (by decide), if_neg (by decide), if_pos rfl]; unfold oneC; rw [hE sAssert rfl]
    have hb : ¬ (tx = sSleep ∨ tx = sPrint ∨ tx = sAssert) := fun h => by rw [hb.2 h] at hbf; cases hbf
    simp only [not_or] at hb
    rw [if_neg hb.1, if_neg hb.2.1, if_neg hb.2.2] at fin hK ⊢
    refine ⟨fun b => b = true ↔ (tx = sSkip ∨ tx = sStop), ?_, ?_⟩
    · refine cond_intro (fun h => ?_) fun h => ?_
      · show _ ↔ _
        have h : tx = sSkip := eq_of_beq h
        subst h; decide
      · show _ ↔ _
        have h : ¬ tx = sSkip := ne_of_beq_false h
        simp [h, sStop]
    intro b2 hb2
    refine cond_intro (fun hbt => ?_) fun hbf => ?_
    · have hb2 := hb2.1 hbt
      intro op hop
      refine h3.elem fun y _ hy => ⟨_, _, (h3.upd (nd tk op [] 0 a) hy fun e => by rw [e]; rfl).mono (by omega) (Nat.le_refl _) (by omega), ?_⟩
      rcases hb2 with rfl | rfl
      · have : op = 30 := hop.trans (by decide)
        subst this
        rw [if_pos rfl]; unfold noneC; rw [hE sSkip rfl]
      · have : op = 31 := hop.trans (by decide)
        subst this
        rw [if_neg (by decide), if_pos rfl]; unfold noneC; rw [hE sStop rfl]
    have hb2 : ¬ (tx = sSkip ∨ tx = sStop) := fun h => by rw [hb2.2 h] at hbf; cases hbf
    simp only [not_or] at hb2
    rw [if_neg hb2.1, if_neg hb2.2] at fin hK
    -- the program asks for 'if' first
    refine cond_intro (fun hv => ?_) fun hv => ?_
    · obtain rfl : tx = sIf := eq_of_beq hv
      have hEv := hE sIf rfl
      rw [if_neg (by decide), if_pos rfl, hEv] at fin
      refine h3.elem fun y _ hy => term_s M hN (h3.upd (nd tk 23 [] 0 a) hy fun e => by rw [e]; rfl) (by omega) _ fun r4 h4 => hB _ _ _ 0 _ _ _ _ (h4.re rfl) (fun _ => hl) hA1000 (by omega) fun r5 h5 => ?_
      have h5 := h5.re rfl
      refine eat_s hN h5 sElse _ (fun hb r6 hl6 h6 => cond_t rfl ?_) (fun hb r6 hl6 h6 => cond_f rfl ?_)
      · have h6 := h6.re hl6
        have he6 : (eatC tk sElse (inC (blkF M tk k) (termC M tk ⟨[], 0, a + 1, 0⟩))).e_ = 0 := by rw [eat0 sElse hb]
        refine hB _ _ _ 2 _ _ _ _ (h6.resetp he6 0) (fun _ => hl) hA1000 (by omega) fun r7 h7 => fin _ _ _ ((h7.re rfl).mono (by omega) (Nat.le_refl _) (by omega)) ?_
        unfold ifC; rw [if_pos hb]
      · have h6 := h6.re hl6
        refine fin _ _ _ (h6.mono (by omega) (Nat.le_refl _) (by omega)) ?_
        unfold ifC; rw [if_neg (by rw [hb]; simp)]
    have hv : ¬ tx = sIf := ne_of_beq_false hv
    refine cond_intro (fun hw => ?_) fun hw => ?_
    · obtain rfl : tx = sWhile := eq_of_beq hw
      have hEv := hE sWhile rfl
      rw [if_pos rfl, hEv] at fin
      refine h3.elem fun y _ hy => term_s M hN (h3.upd (nd tk 24 [] 0 a) hy fun e => by rw [e]; rfl) (by omega) _ fun r4 h4 => hB _ _ _ 0 _ _ _ _ (h4.re rfl) (fun _ => hl) hA1000 (by omega) fun r5 h5 => ?_
      exact fin _ _ _ ((h5.re rfl).mono (by omega) (Nat.le_refl _) (by omega)) rfl
    have hw : ¬ tx = sWhile := ne_of_beq_false hw
    rw [if_neg hw, if_neg hv] at fin hK
    refine cond_intro (fun hs => ?_) fun hs => ?_
    · obtain rfl : tx = sSelect := eq_of_beq hs
      have hEv := hE sSelect rfl
      rw [if_pos rfl, hEv] at fin
      refine h3.elem fun y _ hy => must_s hN (h3.upd (nd tk 25 [] 0 a) hy fun e => by rw [e]; rfl) sLB _ fun r4 hl4 h4 => ?_
      have h4 := h4.re hl4
      generalize eatC tk sLB ⟨[], 0, a + 1, 0⟩ = c1 at h4 fin
      unfold selC at fin
      generalize hF : loopC (fun c => decide (c.e_ = 0) && !isF tk c.at_ sRB) (fun c => addC c (clauseC M tk (blkF M tk k) c.at_)) (fuel tk) (addC c1 (clauseC M tk (blkF M tk k) c1.at_)) = F at fin
      have hcl : ∀ {b : Int}, 0 ≤ b → b ≤ (tk.length : Int) → Cw tk b 1 (3 * k + 3) (clauseC M tk (blkF M tk k) b) := fun ha hb' => cw_clause M (cw_blk M k) (by omega) ha hb'
      have ha1 := cw_add h4.cw (fun _ => hcl h4.cw.z1 h4.cw.hi) (by omega)
      refine ⟨fun at_ deep l' ex f => ∃ c', Re tk l (nd tk 25 [] 0 a) a (24 - (k : Int)) 1 200 0 c' ⟨tk, at_, deep, l', ex⟩ ∧ LI tk (fun c => decide (c.e_ = 0) && !isF tk c.at_ sRB) (fun c => addC c (clauseC M tk (blkF M tk k) c.at_)) F f (addC c' (clauseC M tk (blkF M tk k) c'.at_)), ⟨_, c1, h4.mono (by omega) (Nat.le_refl _) (Nat.le_refl _), hF ▸ LI.start ha1⟩, ?_⟩
      rintro at5 deep5 l5 ex5 f ⟨c', h5, hl'⟩
      have h5e : ex5 = c'.e_ := h5.e_
      have h5a : at5 = c'.at_ := h5.at_
      subst h5e; subst h5a
      have hln := h5.len
      dsimp only at hln
      refine clause_s M hN k hk hB _ _ rfl h5.cw.z1 h5.cw.hi h5.dp (fun he => lenOk (s := 0) h5 he hl) (by dsimp only; omega) fun r6 x2 c2 h6 hcc hE6 => ?_
      dsimp only at h6 hcc hE6
      have hadd := (cw_add (q' := 3 * k + 3) (s' := 1) h5.cw (fun _ => hcl h5.cw.z1 h5.cw.hi) (by omega)).mono (s' := 1) (q' := 200) (by omega) (Nat.le_refl _)
      refine fin_add (dd := clauseC M tk (blkF M tk k) c'.at_) (p' := 10 * k + 25) (dp3 := r6.deep) h5 rfl h6 hE6 hcc hadd (by omega) h6.dp (K := fun r7 => ∃ J7 : Bool → Prop, (cond (r7.e_ != 0) (J7 (r7.e_ != 0)) (V_parse_reader_is r7 0 [125] (fun x22 => J7 x22))) ∧ ∀ x21, J7 x21 → cond x21 (V_parse_reader_must r7 [[125]] (fun r20 => K ⟨tk, r20.at_, r20.deep, r7.l, r20.e_⟩))
        (∃ n1, n1 < f ∧ ∃ c', Re tk l (nd tk 25 [] 0 a) a (24 - (k : Int)) 1 200 0 c' ⟨tk, r7.at_, r7.deep, r7.l, r7.e_⟩ ∧ LI tk (fun c => decide (c.e_ = 0) && !isF tk c.at_ sRB) (fun c => addC c (clauseC M tk (blkF M tk k) c.at_)) F n1 (addC c' (clauseC M tk (blkF M tk k) c'.at_)))) fun r7 h7 => ?_
      obtain ⟨tk7, a7, d7, l7, e7⟩ := r7
      obtain rfl : tk7 = tk := h7.t
      generalize addC c' (clauseC M tk7 (blkF M tk7 k) c'.at_) = cc at h7 hl' hadd
      obtain rfl : e7 = cc.e_ := h7.e_
      obtain rfl : a7 = cc.at_ := h7.at_
      dsimp only
      refine ⟨fun b => b = !(decide (cc.e_ = 0) && !isF tk7 cc.at_ sRB), cond_intro (fun hx => ?_) (fun hx => ?_), ?_⟩
      · have hx : ¬ cc.e_ = 0 := by simpa using hx
        show _ = _
        rw [decide_eq_false hx, show (cc.e_ != 0) = true by simpa using hx]; rfl
      · have hx : cc.e_ = 0 := by simpa using hx
        refine pis_v hN rfl hadd.z1 hadd.hi 0 (by decide) (by decide) sRB _ ?_
        show _ = _
        dsimp only
        rw [Int.add_zero, decide_eq_true hx]; simp
      · rintro _ rfl
        refine cond_intro (fun hx => ?_) fun hx => ?_
        · have hg : (decide (cc.e_ = 0) && !isF tk7 cc.at_ sRB) = false := by rw [Bool.eq_false_iff]; intro h; rw [h] at hx; cases hx
          have hst' := hl'.stop hg
          subst hst'
          exact must_s hN h7 sRB _ fun r8 hl8 h8 => fin _ _ _ ((h8.re hl8).mono (by omega) (Nat.le_refl _) (by omega)) rfl
        · have hg : (decide (cc.e_ = 0) && !isF tk7 cc.at_ sRB) = true := by simpa using hx
          have he : cc.e_ = 0 := by simp at hg; exact hg.1
          obtain ⟨f', hf', hl''⟩ := hl'.step hg he hadd.hi (fun hd => adv_add (hcl hadd.z1 hadd.hi) he hd)
          exact ⟨f', hf', _, h7.resetp he 0, hl''⟩
    have hs : ¬ tx = sSelect := ne_of_beq_false hs
    rw [if_neg hs] at hK
    have hw2 : IntKind.i64.wrap ((a + 1) - 1) = a := by rw [wrap_in (by omega) (by omega)]; omega
    rw [hw2]
    refine pfail_v _ _ (hK _ (nd tk 0 [] 0 a) ⟨[], 0, a, 11⟩ ?_ (fun _ => ⟨rfl, rfl, fun e => by cases e⟩) (fun hne => absurd rfl hne))
    refine ⟨cw_err h0 h1 (by decide) 1 200, rfl, rfl, ?_, h3.dp, (fun e => by cases e), h3.lo, fun _ => ?_, h3.ha⟩
    · dsimp only; rw [if_pos h2e]
    · have := h3.ok rfl
      dsimp only at this ⊢
      rw [this]
      simp only [List.length_append, List.length_cons, List.length_nil]; omega
end
end Go.Proofs.Ytdbdkdmgfiiljaa
namespace Go.Proofs.Ytdbdkdmgfiiljaa
open Go.Vc Go.Lv Go.Ty
section
variable {toks : List GToken} {A : List GNode} {x : GNode} {at0 dp : Int} {s q p : Nat} {c d : Cur} {r : Gparse_reader}
theorem pb_ps (M : TermC) (hN : toks.length < 1000000) : ∀ k, k ≤ 24 → PB M toks k ∧ PS M toks k
  | 0, h => by
    have hB := block_s M hN 0 h (fun k' e => by cases e)
    exact ⟨hB, stmt_s M hN 0 h hB⟩
  | k + 1, h => by
    have ih := pb_ps M hN k (by omega)
    have hs : ∀ k', k + 1 = k' + 1 → PS M toks k' := by
      intro k' e
      cases e
      exact ih.2
    have hB := block_s M hN (k + 1) h hs
    exact ⟨hB, stmt_s M hN (k + 1) h hB⟩
theorem pb_top (M : TermC) (hN : toks.length < 1000000) : PB M toks 24 := (pb_ps M hN 24 (Nat.le_refl _)).1
theorem decl_s (M : TermC) (hN : toks.length < 1000000) (r : Gparse_reader) (K : Gparse_reader → Prop) (ht : r.toks = toks) (h0 : 0 ≤ r.at_) (h1 : r.at_ ≤ (toks.length : Int)) (hd : r.deep = 0) (he : r.e_ = 0) (hl : (r.l.length : Int) ≤ r.at_ + 1)
    (hK : Got toks r.l r.at_ 0 300 0 (declC M toks r.at_) K) : V_parse_reader_decl r K := by
  obtain ⟨tk, a, dd, l, e⟩ := r
  obtain rfl : tk = toks := ht
  dsimp only at h0 h1 hd he hl hK
  subst hd; subst he
  have hA1000 : (l.length : Int) ≤ a + 1000 := by omega
  have hB := pb_top M hN
  refine parse_reader_decl_lift _ _ (open_s hN rfl h0 h1 (by dsimp only; omega) 41 _ (fun _ r1 h2 _ => ?_) (by dsimp only; omega))
  have h2 := (h2.re rfl).mono (s' := 0) (q' := 200) (p' := 0) (Nat.le_refl _) (by omega) (Nat.le_refl _)
  dsimp only at h2 ⊢
  have fin : ∀ (r' : Gparse_reader) x2 c2, Re tk l x2 a 0 1 200 300 c2 r' → declC M tk a = underC c2 x2 → K r' := by
    intro r' x2 c2 h3 hst
    refine hK _ x2 _ h3 (fun _ => ?_) (fun hne => absurd rfl hne)
    rw [hst]; exact ⟨rfl, rfl, fun _ => rfl⟩
  have hsee : ∀ {t : Str}, seeB tk t (fromE a 0) = isF tk a t := fun {t} => by unfold seeB fromE; simp
  refine eat_s hN h2 sChan _ (fun hb r2 hl2 h3 => cond_t rfl ?_) (fun hb r2 hl2 h3 => cond_f rfl ?_)
  · have h3 := h3.re hl2
    rw [hsee] at hb
    unfold declC at fin
    rw [if_pos hb] at fin
    change ∀ (r' : Gparse_reader) x2 c2, Re tk l x2 a 0 1 200 300 c2 r' → underC (eatC tk sSemi (chanC1 tk (nameC tk (eatC tk sChan (fromE a 0))))) (nd tk 38 (nameS tk (eatC tk sChan (fromE a 0))) (chanN tk (nameC tk (eatC tk sChan (fromE a 0)))) a) = underC c2 x2 → K r' at fin
    refine h3.elem fun y _ hy => nameJ hN (h3.upd (nd tk 38 [] 0 a) hy fun e => by rw [e]; rfl) fun a2 d2 l2 e2 h4 => ?_
    generalize nameS tk (eatC tk sChan (fromE a 0)) = nm at h4 fin
    generalize nameC tk (eatC tk sChan (fromE a 0)) = c1 at h4 fin
    refine ⟨fun at_ deep l' ex => Re tk l (nd tk 38 nm (chanN tk c1) a) a 0 0 200 0 (chanC1 tk c1) ⟨tk, at_, deep, l', ex⟩, eat_s hN h4 sLS _ (fun hb r3 hl3 h5 => cond_t rfl ?_) (fun hb r3 hl3 h5 => cond_f rfl ?_), ?_⟩
    · refine size_s hN (h5.re hl3) _ fun r6 h6 => must_s hN (h6.re rfl) sRS _ fun r7 hl7 h7 => ?_
      have h7 := h7.re hl7
      unfold chanN chanC1; rw [if_pos hb, if_pos hb]
      exact h7.mono (by omega) (Nat.le_refl _) (Nat.le_refl _)
    · have h5 := h5.re hl3
      unfold chanN chanC1; rw [if_neg (by rw [hb]; simp), if_neg (by rw [hb]; simp)]
      exact h5.mono (by omega) (Nat.le_refl _) (Nat.le_refl _)
    · intro at5 deep5 l5 ex5 h5
      exact must_s hN h5 sSemi _ fun r6 hl6 h6 => fin _ _ _ ((h6.re hl6).mono (by omega) (Nat.le_refl _) (by omega)) rfl
  rw [hsee] at hb
  have hbc : ¬ isF tk a sChan = true := by rw [hb]; simp
  have h3 := h3.re hl2
  refine eat_s hN h3 sProc _ (fun hb r4 hl4 h4 => cond_t rfl ?_) (fun hb r4 hl4 h4 => cond_f rfl ?_)
  · have h4 := h4.re hl4
    rw [hsee] at hb
    unfold declC at fin
    rw [if_neg hbc, if_pos hb] at fin
    change ∀ (r' : Gparse_reader) x2 c2, Re tk l x2 a 0 1 200 300 c2 r' → underC (inC (blkF M tk 24) (eatC tk sRP (procC1 tk (eatC tk sLP (nameC tk (eatC tk sProc (fromE a 0))))))) (nd tk 40 (nameS tk (eatC tk sProc (fromE a 0))) 0 a) = underC c2 x2 → K r' at fin
    refine h4.elem fun y _ hy => nameJ hN (h4.upd (nd tk 40 [] 0 a) hy fun e => by rw [e]; rfl) fun a2 d2 l2 e2 h5 => must_s hN h5 sLP _ fun r6 hl6 h6 => ?_
    have h6 := h6.re hl6
    generalize nameS tk (eatC tk sProc (fromE a 0)) = nm at h6 fin
    generalize eatC tk sLP (nameC tk (eatC tk sProc (fromE a 0))) = c1 at h6 fin
    refine ⟨fun at_ deep l' ex => Re tk l (nd tk 40 nm 0 a) a 0 1 200 2 (eatC tk sRP (procC1 tk c1)) ⟨tk, at_, deep, l', ex⟩, eat_s hN h6 sRP _ (fun hb r7 hl7 h7 => cond_f rfl ?_) (fun hb r7 hl7 h7 => cond_t rfl ?_), ?_⟩
    · have h7 := h7.re hl7
      obtain ⟨he, hi⟩ := see_lt hb
      unfold procC1
      rw [if_neg (by rw [hi]; simp)]
      exact h7.mono (by omega) (Nat.le_refl _) (by omega)
    · have h7 := h7.re hl7
      refine param_s hN h7 hA1000 (by omega) (by omega) _ fun r8 h8 => ?_
      have h8 := (h8.re rfl).mono (s' := 0) (q' := 200) (p' := 1) (by omega) (Nat.le_refl _) (by omega)
      have hF : procC1 tk c1 = loopC (seeB tk sComma) (fun c => paramC tk (eatC tk sComma c)) (fuel tk) (paramC tk c1) := by
        unfold procC1
        by_cases he : c1.e_ = 0
        · have hi : isF tk c1.at_ sRP = false := by
            have := hb
            unfold seeB at this
            rw [decide_eq_true he] at this
            simpa using this
          rw [if_pos (by rw [decide_eq_true he, hi]; rfl)]
        · rw [if_neg (by rw [decide_eq_false he]; simp), show paramC tk c1 = c1 from addE he _, loopE (seeE he)]
      rw [hF]
      generalize hG : loopC (seeB tk sComma) (fun c => paramC tk (eatC tk sComma c)) (fuel tk) (paramC tk c1) = G
      refine ⟨fun at_ deep l' ex f => ∃ c', Re tk l (nd tk 40 nm 0 a) a 0 0 200 (if c'.e_ = 0 then 1 else 2) c' ⟨tk, at_, deep, l', ex⟩ ∧ LI tk (seeB tk sComma) (fun c => paramC tk (eatC tk sComma c)) G f c', ⟨_, _, h8.mono (Nat.le_refl _) (Nat.le_refl _) (by split <;> omega), hG ▸ LI.start h8.cw⟩, ?_⟩
      rintro at9 deep9 l9 ex9 f ⟨c', h9, hl⟩
      refine eat_s hN h9 sComma _ (fun hb r10 hl10 h10 => cond_t rfl ?_) (fun hb r10 hl10 h10 => cond_f rfl ?_)
      · have h10 := h10.re hl10
        have he10 : (eatC tk sComma c').e_ = 0 := by rw [eat0 sComma hb]
        have h10 := h10.resetp he10 0
        refine param_s hN h10 hA1000 (by omega) (by omega) _ fun r11 h11 => ?_
        have h11 := h11.re rfl
        obtain ⟨f', hf', hl'⟩ := hl.step hb (see_lt hb).1 h9.cw.hi (fun hd => by
          have e4 := cw_eat sComma h9.cw
          have e6 := cw_under (x := nd tk 39 (nameS tk (fromC (eatC tk sComma c').at_)) 0 (eatC tk sComma c').at_) (cw_name (cw_from (toks := tk) (at_ := (eatC tk sComma c').at_) e4.z1 e4.hi 0))
          unfold paramC addC at hd ⊢
          rw [if_pos he10] at hd ⊢
          have := e6.lo
          have h2 : (eatC tk sComma c').at_ = c'.at_ + 1 := by rw [eat0 sComma hb]
          dsimp only at this ⊢
          omega)
        exact ⟨f', hf', _, h11.mono (by omega) (Nat.le_refl _) (by split <;> omega), hl'⟩
      · have h10 := h10.re hl10
        rw [← hl.stop hb]
        exact must_s hN h10 sRP _ fun r11 hl11 h11 => (h11.re hl11).mono (by omega) (Nat.le_refl _) (by split <;> omega)
    · intro at7 deep7 l7 ex7 h7
      exact hB _ _ _ 0 _ _ _ _ h7 (fun _ => hl) hA1000 (by omega) fun r8 h8 => fin _ _ _ ((h8.re rfl).mono (by omega) (Nat.le_refl _) (by omega)) rfl
  · have h4 := h4.re hl4
    rw [hsee] at hb
    have hbp : ¬ isF tk a sProc = true := by rw [hb]; simp
    unfold declC at fin
    rw [if_neg hbc, if_neg hbp] at fin
    change ∀ (r' : Gparse_reader) x2 c2, Re tk l x2 a 0 1 200 300 c2 r' → underC (inC (blkF M tk 24) (eatC tk sMain (fromE a 0))) (nd tk 41 [] 0 a) = underC c2 x2 → K r' at fin
    refine must_s hN h4 sMain _ fun r5 hl5 h5 => ?_
    exact hB _ _ _ 0 _ _ _ _ (h5.re hl5) (fun _ => hl) hA1000 (by omega) fun r8 h8 => fin _ _ _ ((h8.re rfl).mono (by omega) (Nat.le_refl _) (by omega)) rfl
theorem unit_s (M : TermC) (hN : toks.length < 1000000) (K : List GNode → Int → Int → Prop) (h : K (unitF M toks).l (unitF M toks).at_ (unitF M toks).e_) : V_parse_Unit toks K := by
  have hf := cw_from (toks := toks) (at_ := 0) (Int.le_refl _) (by omega) 200
  have hst : Re toks [] ⟨42, [], 0, 0, 0⟩ 0 0 0 200 0 (fromC 0) ⟨toks, 0, 0, [⟨42, [], 0, 0, 0⟩], 0⟩ :=
    ⟨hf, rfl, rfl, rfl, rfl, fun _ => rfl, by simp, fun h => absurd rfl h, by simp⟩
  refine parse_Unit_lift _ _ ⟨fun atx deep l ex f => ∃ c', Re toks [] ⟨42, [], 0, 0, 0⟩ 0 0 0 200 (if c'.e_ = 0 then 0 else 301) c' ⟨toks, atx, deep, l, ex⟩ ∧ LI toks (fun c => decide (c.e_ = 0) && !decide ((tokF toks c.at_).kind = 0)) (fun c => addC c (declC M toks c.at_)) (unitC M toks) f c', ⟨_, fromC 0, hst.mono (Nat.le_refl _) (Nat.le_refl _) (Nat.zero_le _), LI.start hf⟩, ?_⟩
  rintro atx deep l ex f ⟨c', h4, hl⟩
  obtain rfl : ex = c'.e_ := h4.e_
  obtain rfl : atx = c'.at_ := h4.at_
  obtain rfl : deep = 0 := h4.dp
  refine ⟨fun b => b = (decide (c'.e_ = 0) && !decide ((tokF toks c'.at_).kind = 0)), cond_intro (fun he => ?_) (fun he => ?_), ?_⟩
  · have he : c'.e_ = 0 := by simpa using he
    refine psee_v hN rfl h4.cw.z1 h4.cw.hi 0 (by decide) (by decide) _ ?_
    dsimp only
    show _ = _
    rw [Int.add_zero, Bool.eq_iff_iff]; simp [he]
  · have he : ¬ c'.e_ = 0 := by simpa using he
    show false = _
    rw [decide_eq_false he]; rfl
  rintro _ rfl
  refine cond_intro (fun hA' => ?_) fun hB => ?_
  · have he : c'.e_ = 0 := by simp at hA'; exact hA'.1
    rw [if_pos he] at h4
    have hw := h4.cw.w he
    have hln : (l.length : Int) ≤ c'.at_ + 1 := by
      have := h4.ok he
      dsimp only at this
      rw [this]
      simp only [List.nil_append, List.length_cons]
      omega
    refine decl_s M hN _ _ rfl h4.cw.z1 h4.cw.hi rfl he hln fun r4 x2 c2 h5 hcc _ => ?_
    dsimp only at h5 hcc
    have hcw := cw_decl M h4.cw.z1 h4.cw.hi
    have hadd := (cw_add (q' := 100) (s' := 1) h4.cw (fun _ => hcw) (by omega)).mono (s' := 0) (q' := 200) (by omega) (Nat.le_refl _)
    obtain ⟨f', hf', hl'⟩ := hl.step hA' he h4.cw.hi (fun hd => adv_add hcw he hd)
    exact fin_add (dd := declC M toks c'.at_) (p' := 301) (dp3 := r4.deep) h4 rfl h5 (fun hne => absurd he hne) (fun _ => hcc rfl) hadd (by omega) h5.dp (K := fun r5 => ∃ n1, n1 < f ∧ ∃ c', Re toks [] ⟨42, [], 0, 0, 0⟩ 0 0 0 200 (if c'.e_ = 0 then 0 else 301) c' ⟨toks, r5.at_, r5.deep, r5.l, r5.e_⟩ ∧ LI toks (fun c => decide (c.e_ = 0) && !decide ((tokF toks c.at_).kind = 0)) (fun c => addC c (declC M toks c.at_)) (unitC M toks) n1 c') fun r5 h6 => by
      refine ⟨f', hf', _, ?_, hl'⟩
      by_cases he2 : (addC c' (declC M toks c'.at_)).e_ = 0
      · rw [if_pos he2]; exact (h6.re rfl).resetp he2 0
      · rw [if_neg he2]; exact h6.re rfl
  · have hst := (hl.stop hB).symm
    unfold unitF at h
    rw [hst] at h
    refine cond_intro (fun hx => ?_) fun hx => ?_
    · rw [if_pos (by simpa using hx)] at h; exact h
    · have hx : c'.e_ = 0 := by simpa using hx
      rw [if_neg (fun hh => hh hx)] at h
      have := h4.ok hx
      dsimp only at this
      rw [this]
      exact h
end
end Go.Proofs.Ytdbdkdmgfiiljaa
