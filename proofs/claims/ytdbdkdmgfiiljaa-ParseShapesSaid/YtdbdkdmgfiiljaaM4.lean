/- A part of the proof: conditions of the code, contracts, the plain law. -/
import Derived.Test.YtdbdkdmgfiiljaaM2
import Derived.Test.YtdbdkdmgfiiljaaMapL
namespace Go.Proofs.Ytdbdkdmgfiiljaa
open Go.Vc Go.Lv Go.Ty
set_option maxRecDepth 10000
def R11_stmt_vwp (toks : List GToken) (atx : Int) (deep : Int) (K : GR11_cur → Prop) : Prop :=
 V_R10_Tok toks atx (fun x =>
 V_R11_from atx (fun x1 =>
 ∃ (J : Bool → Prop),
 (cond (x.kind == 1)
 (V_R11_is toks (IntKind.i64.wrap (atx + 1)) [61] (fun x3 =>
 J x3))
 (J false)) ∧
 ∀ (x2 : Bool), J x2 →
 cond (x2)
 (V_R11_set toks atx (⟨0, [], 0, 0, x.at_⟩ : GNode) (fun x4 =>
 K x4))
 (cond (x.kind == 1)
 (V_R11_cur_comm x1 toks 21 22 (fun r r1 r2 =>
 V_R11_cur_eat r toks [59] (fun x5 =>
 V_R11_cur_under x5 (⟨r1, r2, 0, 0, x.at_⟩ : GNode) (fun x6 =>
 K x6))))
 (cond (x.kind != 3)
 (K (⟨x1.l, x1.n, x1.at_, 11⟩ : GR11_cur))
 (cond (x.text == [118, 97, 114])
 (V_R11_cur_eat x1 toks [118, 97, 114] (fun x7 =>
 V_R11_cur_name x7 toks (fun r3 r4 =>
 V_R11_cur_eat r3 toks [61] (fun x8 =>
 V_R11_cur_term x8 toks (fun x9 =>
 V_R11_cur_eat x9 toks [59] (fun x10 =>
 V_R11_cur_under x10 (⟨18, r4, 0, 0, x.at_⟩ : GNode) (fun x11 =>
 K x11)))))))
 (cond (x.text == [115, 116, 97, 114, 116])
 (V_R11_cur_eat x1 toks [115, 116, 97, 114, 116] (fun x12 =>
 V_R11_cur_name x12 toks (fun r5 r6 =>
 V_R11_cur_args r5 toks (fun x13 =>
 V_R11_cur_eat x13 toks [59] (fun x14 =>
 V_R11_cur_under x14 (⟨26, r6, 0, 0, x.at_⟩ : GNode) (fun x15 =>
 K x15))))))
 (cond (x.text == [115, 108, 101, 101, 112])
 (V_R11_cur_eat x1 toks [115, 108, 101, 101, 112] (fun x16 =>
 V_R11_cur_term x16 toks (fun x17 =>
 V_R11_cur_eat x17 toks [59] (fun x18 =>
 V_R11_cur_under x18 (⟨27, [], 0, 0, x.at_⟩ : GNode) (fun x19 =>
 K x19)))))
 (cond (x.text == [112, 114, 105, 110, 116])
 (V_R11_cur_eat x1 toks [112, 114, 105, 110, 116] (fun x20 =>
 V_R11_cur_term x20 toks (fun x21 =>
 V_R11_cur_eat x21 toks [59] (fun x22 =>
 V_R11_cur_under x22 (⟨28, [], 0, 0, x.at_⟩ : GNode) (fun x23 =>
 K x23)))))
 (cond (x.text == [97, 115, 115, 101, 114, 116])
 (V_R11_cur_eat x1 toks [97, 115, 115, 101, 114, 116] (fun x24 =>
 V_R11_cur_term x24 toks (fun x25 =>
 V_R11_cur_eat x25 toks [59] (fun x26 =>
 V_R11_cur_under x26 (⟨29, [], 0, 0, x.at_⟩ : GNode) (fun x27 =>
 K x27)))))
 (cond (x.text == [115, 107, 105, 112])
 (V_R11_cur_eat x1 toks [115, 107, 105, 112] (fun x28 =>
 V_R11_cur_eat x28 toks [59] (fun x29 =>
 V_R11_cur_under x29 (⟨30, [], 0, 0, x.at_⟩ : GNode) (fun x30 =>
 K x30))))
 (cond (x.text == [115, 116, 111, 112])
 (V_R11_cur_eat x1 toks [115, 116, 111, 112] (fun x31 =>
 V_R11_cur_eat x31 toks [59] (fun x32 =>
 V_R11_cur_under x32 (⟨31, [], 0, 0, x.at_⟩ : GNode) (fun x33 =>
 K x33))))
 (cond (x.text == [119, 104, 105, 108, 101])
 (V_R11_cur_eat x1 toks [119, 104, 105, 108, 101] (fun x34 =>
 V_R11_cur_term x34 toks (fun x35 =>
 V_R11_cur_in x35 toks (IntKind.i64.wrap (deep + 1)) (fun x36 =>
 V_R11_cur_under x36 (⟨24, [], 0, 0, x.at_⟩ : GNode) (fun x37 =>
 K x37)))))
 (cond (x.text == [105, 102])
 (V_R11_cur_eat x1 toks [105, 102] (fun x38 =>
 V_R11_cur_term x38 toks (fun x39 =>
 V_R11_cur_in x39 toks (IntKind.i64.wrap (deep + 1)) (fun x40 =>
 ∃ (J1 : (List GNode) → Int → Int → Int → Prop),
 (∃ (J2 : Bool → Prop),
 (cond (x40.e_ == 0)
 (V_R11_is toks x40.at_ [101, 108, 115, 101] (fun x42 =>
 J2 x42))
 (J2 false)) ∧
 ∀ (x41 : Bool), J2 x41 →
 cond (x41)
 (V_R11_cur_eat x40 toks [101, 108, 115, 101] (fun x43 =>
 V_R11_cur_in x43 toks (IntKind.i64.wrap (deep + 1)) (fun x44 =>
 J1 x44.l x44.n x44.at_ x44.e_)))
 (J1 x40.l x40.n x40.at_ x40.e_)) ∧
 ∀ (l : List GNode) (n : Int) (atx1 : Int) (ex : Int), J1 l n atx1 ex →
 V_R11_cur_under (⟨l, n, atx1, ex⟩ : GR11_cur) (⟨23, [], 0, 0, x.at_⟩ : GNode) (fun x45 =>
 K x45)))))
 (cond (x.text == [115, 101, 108, 101, 99, 116])
 (V_R11_cur_eat x1 toks [115, 101, 108, 101, 99, 116] (fun x46 =>
 V_R11_cur_eat x46 toks [123] (fun x47 =>
 ∃ (J3 : (List GNode) → Int → Int → Int → Prop),
 (cond (x47.e_ == 0)
 (V_R11_clause toks x47.at_ deep (fun x48 =>
 V_R11_cur_add x47 x48 (fun x49 =>
 J3 x49.l x49.n x49.at_ x49.e_)))
 (J3 x47.l x47.n x47.at_ x47.e_)) ∧
 ∀ (l1 : List GNode) (n1 : Int) (atx2 : Int) (ex1 : Int), J3 l1 n1 atx2 ex1 →
 ∃ (I : (List GNode) → Int → Int → Int → Nat → Prop), (∃ n3, I l1 n1 atx2 ex1 n3) ∧
 ∀ (l2 : List GNode) (n2 : Int) (atx3 : Int) (ex2 : Int) (n3 : Nat), I l2 n2 atx3 ex2 n3 →
 ∃ (J4 : Bool → Prop),
 (cond (ex2 == 0)
 (V_R11_is toks atx3 [125] (fun x51 =>
 J4 (!x51)))
 (J4 false)) ∧
 ∀ (x50 : Bool), J4 x50 →
 cond (x50)
 (V_R11_clause toks atx3 deep (fun x52 =>
 V_R11_cur_add (⟨l2, n2, atx3, ex2⟩ : GR11_cur) x52 (fun x53 =>
 ∃ n4, n4 < n3 ∧ I x53.l x53.n x53.at_ x53.e_ n4)))
 (V_R11_cur_eat (⟨l2, n2, atx3, ex2⟩ : GR11_cur) toks [125] (fun x54 =>
 V_R11_cur_under x54 (⟨25, [], 0, 0, x.at_⟩ : GNode) (fun x55 =>
 K x55))))))
 (K (⟨x1.l, x1.n, x1.at_, 11⟩ : GR11_cur))))))))))))))))
set_option maxHeartbeats 4000000 in
theorem R11_stmt_lift (toks : List GToken) (atx : Int) (deep : Int) (K : GR11_cur → Prop) (h : R11_stmt_vwp toks atx deep K) : V_R11_stmt toks atx deep K := by
 intro m w hm toksA toksC le_toks f_toks
 have o := Mem.start hm.lt
 refine R11_stmt_ok toksA toks.length toksC atx deep _ _ ?_
 intro b w1 hb hw1
 obtain ⟨st, o⟩ := o.dB hb hw1
 refine call_then (h _ w1 (o.mo hm (by simp) (.head _)) _ _ le_toks (f_toks.st st)) ?_
 rintro _ w2 ⟨x, h, ⟨cs, rfl, f⟩, ke⟩
 obtain ⟨st1, o⟩ := o.dE ke
 obtain rfl := GToken_out f
 refine ⟨_, _, _, _, rfl, ?_⟩
 intro b1 w3 hb1 hw3
 obtain ⟨st2, o⟩ := o.dB hb1 hw3
 refine ⟨o.wr 0 rfl rfl, fun w4 hw4 => ?_⟩
 obtain ⟨st3, o⟩ := o.dSs 0 hw4 rfl
 refine ⟨_, (o.at 0 rfl).cell rfl, ?_⟩
 intro b2 w5 hb2 hw5
 obtain ⟨st4, o⟩ := o.dB hb2 hw5
 refine ⟨o.wr 0 rfl rfl, fun w6 hw6 => ?_⟩
 obtain ⟨st5, o⟩ := o.dSs 0 hw6 rfl
 refine call_then (h _ w6 (o.mo hm (by simp) (.head _))) ?_
 rintro _ w7 ⟨x1, h, ⟨cs1, rfl, f1⟩, ke1⟩
 obtain ⟨st6, o⟩ := o.dE ke1
 obtain ⟨a, c, rfl, ⟨le, f2⟩⟩ := GR11_cur_out f1
 refine ⟨_, _, _, _, _, _, rfl, ?_⟩
 intro b3 w8 hb3 hw8
 obtain ⟨st7, o⟩ := o.dB hb3 hw8
 refine ⟨o.wr 0 rfl rfl, fun w9 hw9 => ?_⟩
 obtain ⟨st8, o⟩ := o.dSs 0 hw9 rfl
 obtain ⟨J, h, h2⟩ := h
 refine ⟨fun x2 w10 => J x2 ∧ Mem w.heap.size [] m [([], w.heap.size, w)] [] w10 [.box b3 [.slice a x1.l.length c, .q x1.n, .q x1.at_, .q x1.e_], .box b2 [.q 0, .s [], .q 0, .q 0, .q x.at_], .box b1 [.q x.kind, .s x.text, .q x.n, .q x.at_], .box b [.slice none 0 0, .q 0, .q 0, .q 0]] ∧ Step (ms [.box b3 [.slice a x1.l.length c, .q x1.n, .q x1.at_, .q x1.e_], .box b2 [.q 0, .s [], .q 0, .q 0, .q x.at_], .box b1 [.q x.kind, .s x.text, .q x.n, .q x.at_], .box b [.slice none 0 0, .q 0, .q 0, .q 0]] m) w9 (ms [.box b3 [.slice a x1.l.length c, .q x1.n, .q x1.at_, .q x1.e_], .box b2 [.q 0, .s [], .q 0, .q 0, .q x.at_], .box b1 [.q x.kind, .s x.text, .q x.n, .q x.at_], .box b [.slice none 0 0, .q 0, .q 0, .q 0]] m) w10, ?_, ?_⟩
 refine ⟨_, (o.at 2 rfl).cell rfl, ?_⟩
 refine cond_map (fun h => ?_) (fun h => ?_) h
 have sT := (((((((st.trans st1).trans st2).trans st3).trans st4).trans st5).trans st6).trans st7).trans st8
 refine call_then (h _ w9 (o.mo hm (by simp) (.head _)) _ _ le_toks (f_toks.st sT)) ?_
 rintro _ w11 ⟨x3, h, rfl, ke2⟩
 obtain ⟨st10, o⟩ := o.dE ke2
 refine ⟨_, rfl, ?_⟩
 exact ⟨h, o, st10⟩
 exact ⟨h, o, Step.refl _ _⟩
 rintro _ x2 w10 ⟨hJ, o, st9⟩
 have h := h2 x2 hJ
 refine cond_map (fun h => ?_) (fun h => ?_) h
 refine ⟨_, _, _, _, _, (o.at 1 rfl).whole, ?_⟩
 have sT1 := ((((((((st.trans st1).trans st2).trans st3).trans st4).trans st5).trans st6).trans st7).trans st8).trans st9
 refine call_then (h _ w10 (o.mo hm (by simp) (.head _)) _ _ le_toks (f_toks.st sT1) _ (GNode_in (⟨0, [], 0, 0, x.at_⟩ : GNode))) ?_
 rintro _ w12 ⟨x4, h, ⟨cs2, rfl, f3⟩, ke3⟩
 obtain ⟨st11, o⟩ := o.dE ke3
 obtain ⟨a1, c1, rfl, ⟨le1, f4⟩⟩ := GR11_cur_out f3
 refine ⟨_, _, _, _, _, _, rfl, ?_⟩
 refine ⟨o.wr 3 rfl rfl, fun w13 hw13 => ?_⟩
 obtain ⟨st12, o⟩ := o.dSs 3 hw13 rfl
 refine ⟨_, _, _, _, _, _, (o.at 3 rfl).whole, ?_⟩
 exact ⟨x4, h, ⟨_, rfl, (GR11_cur_in x4 ⟨le1, (f4.st (st12.trans Mem.endS))⟩)⟩, o.done⟩
 refine ⟨_, (o.at 2 rfl).cell rfl, ?_⟩
 refine cond_map (fun h => ?_) (fun h => ?_) h
 refine ⟨_, _, _, _, _, _, (o.at 0 rfl).whole, ?_⟩
 have sT2 := (st7.trans st8).trans st9
 have sT3 := ((((((((st.trans st1).trans st2).trans st3).trans st4).trans st5).trans st6).trans st7).trans st8).trans st9
 refine call_then (h _ w10 (o.mo hm (by simp) (.head _)) _ (GR11_cur_in x1 ⟨le, (f2.st sT2)⟩) _ _ le_toks (f_toks.st sT3)) ?_
 rintro _ w14 ⟨r, r1, r2, h, ⟨cs3, rfl, f5⟩, ke4⟩
 obtain ⟨st13, o⟩ := o.dE ke4
 obtain ⟨a2, c2, rfl, ⟨le2, f6⟩⟩ := GR11_cur_out f5
 refine ⟨_, _, _, _, _, _, _, _, rfl, ?_⟩
 refine ⟨o.wr 0 rfl rfl, fun w15 hw15 => ?_⟩
 obtain ⟨st14, o⟩ := o.dSs 0 hw15 rfl
 refine ⟨o.wr 1 rfl rfl, fun w16 hw16 => ?_⟩
 obtain ⟨st15, o⟩ := o.dS 1 hw16 rfl
 refine ⟨o.wr 1 rfl rfl, fun w17 hw17 => ?_⟩
 obtain ⟨st16, o⟩ := o.dS 1 hw17 rfl
 intro w18 hw18
 obtain ⟨st17, o⟩ := o.dD hw18
 have ox := o
 refine ⟨fun u => Keep [] w18 u, Keep.refl _ _, ?_⟩
 refine ⟨_, _, _, _, _, _, fun u hu => ((ox.at 0 rfl).keep hu (by simp)).whole, ?_⟩
 refine ⟨_, _, _, _, _, fun u hu => ((ox.at 1 rfl).keep hu (by simp)).whole, ?_⟩
 have sT4 := ((st14.trans st15).trans st16).trans st17
 have sT5 := ((((sT3.trans st13).trans st14).trans st15).trans st16).trans st17
 refine call_then (h _ w18 (o.mo hm (by simp) (.head _)) _ (GR11_cur_in r ⟨le2, (f6.st sT4)⟩) _ _ le_toks (f_toks.st sT5)) ?_
 rintro _ w19 ⟨x5, h, ⟨cs4, rfl, f7⟩, ke5⟩
 obtain ⟨st18, o⟩ := o.dE ke5
 obtain ⟨a3, c3, rfl, ⟨le3, f8⟩⟩ := GR11_cur_out f7
 refine ⟨_, _, _, _, _, _, rfl, ?_⟩
 refine ⟨(ke5.mono (by simp)), ?_⟩
 refine call_then (h _ w19 (o.mo hm (by simp) (.head _)) _ (GR11_cur_in x5 ⟨le3, f8⟩) _ (GNode_in (⟨r1, r2, 0, 0, x.at_⟩ : GNode))) ?_
 rintro _ w20 ⟨x6, h, ⟨cs5, rfl, f9⟩, ke6⟩
 obtain ⟨st19, o⟩ := o.dE ke6
 obtain ⟨a4, c4, rfl, ⟨le4, f10⟩⟩ := GR11_cur_out f9
 refine ⟨_, _, _, _, _, _, rfl, ?_⟩
 refine ⟨o.wr 3 rfl rfl, fun w21 hw21 => ?_⟩
 obtain ⟨st20, o⟩ := o.dSs 3 hw21 rfl
 refine ⟨_, _, _, _, _, _, (o.at 3 rfl).whole, ?_⟩
 exact ⟨x6, h, ⟨_, rfl, (GR11_cur_in x6 ⟨le4, (f10.st (st20.trans Mem.endS))⟩)⟩, o.done⟩
 refine ⟨_, (o.at 2 rfl).cell rfl, ?_⟩
 refine cond_map (fun h => ?_) (fun h => ?_) h
 refine ⟨o.wr 0 rfl rfl, fun w22 hw22 => ?_⟩
 obtain ⟨st21, o⟩ := o.dS 0 hw22 rfl
 refine ⟨_, _, _, _, _, _, (o.at 0 rfl).whole, ?_⟩
 refine ⟨o.wr 3 rfl rfl, fun w23 hw23 => ?_⟩
 obtain ⟨st22, o⟩ := o.dSs 3 hw23 rfl
 refine ⟨_, _, _, _, _, _, (o.at 3 rfl).whole, ?_⟩
 exact ⟨(⟨x1.l, x1.n, x1.at_, 11⟩ : GR11_cur), h, ⟨_, rfl, (GR11_cur_in (⟨x1.l, x1.n, x1.at_, 11⟩ : GR11_cur) ⟨le, (f2.st (st7.trans (st8.trans (st9.trans (st21.trans (st22.trans Mem.endS))))))⟩)⟩, o.done⟩
 refine ⟨_, (o.at 2 rfl).cell rfl, ?_⟩
 refine cond_map (fun h => ?_) (fun h => ?_) h
 refine ⟨o.wr 1 rfl rfl, fun w24 hw24 => ?_⟩
 obtain ⟨st23, o⟩ := o.dS 1 hw24 rfl
 refine ⟨_, _, _, _, _, _, (o.at 0 rfl).whole, ?_⟩
 have sT6 := ((st7.trans st8).trans st9).trans st23
 have sT7 := (((((((((st.trans st1).trans st2).trans st3).trans st4).trans st5).trans st6).trans st7).trans st8).trans st9).trans st23
 refine call_then (h _ w24 (o.mo hm (by simp) (.head _)) _ (GR11_cur_in x1 ⟨le, (f2.st sT6)⟩) _ _ le_toks (f_toks.st sT7)) ?_
 rintro _ w25 ⟨x7, h, ⟨cs6, rfl, f11⟩, ke7⟩
 obtain ⟨st24, o⟩ := o.dE ke7
 obtain ⟨a5, c5, rfl, ⟨le5, f12⟩⟩ := GR11_cur_out f11
 refine ⟨_, _, _, _, _, _, rfl, ?_⟩
 have sT8 := sT7.trans st24
 refine call_then (h _ w25 (o.mo hm (by simp) (.head _)) _ (GR11_cur_in x7 ⟨le5, f12⟩) _ _ le_toks (f_toks.st sT8)) ?_
 rintro _ w26 ⟨r3, r4, h, ⟨cs7, rfl, f13⟩, ke8⟩
 obtain ⟨st25, o⟩ := o.dE ke8
 obtain ⟨a6, c6, rfl, ⟨le6, f14⟩⟩ := GR11_cur_out f13
 refine ⟨_, _, _, _, _, _, _, rfl, ?_⟩
 refine ⟨o.wr 0 rfl rfl, fun w27 hw27 => ?_⟩
 obtain ⟨st26, o⟩ := o.dSs 0 hw27 rfl
 refine ⟨o.wr 1 rfl rfl, fun w28 hw28 => ?_⟩
 obtain ⟨st27, o⟩ := o.dS 1 hw28 rfl
 intro w29 hw29
 obtain ⟨st28, o⟩ := o.dD hw29
 have ox1 := o
 refine ⟨fun u => Keep [] w29 u, Keep.refl _ _, ?_⟩
 refine ⟨_, _, _, _, _, _, fun u hu => ((ox1.at 0 rfl).keep hu (by simp)).whole, ?_⟩
 refine ⟨_, _, _, _, _, fun u hu => ((ox1.at 1 rfl).keep hu (by simp)).whole, ?_⟩
 have sT9 := (st26.trans st27).trans st28
 have sT10 := (((sT8.trans st25).trans st26).trans st27).trans st28
 refine call_then (h _ w29 (o.mo hm (by simp) (.head _)) _ (GR11_cur_in r3 ⟨le6, (f14.st sT9)⟩) _ _ le_toks (f_toks.st sT10)) ?_
 rintro _ w30 ⟨x8, h, ⟨cs8, rfl, f15⟩, ke9⟩
 obtain ⟨st29, o⟩ := o.dE ke9
 obtain ⟨a7, c7, rfl, ⟨le7, f16⟩⟩ := GR11_cur_out f15
 refine ⟨_, _, _, _, _, _, rfl, ?_⟩
 refine ⟨(ke9.mono (by simp)), ?_⟩
 have sT11 := sT10.trans st29
 refine call_then (h _ w30 (o.mo hm (by simp) (.head _)) _ (GR11_cur_in x8 ⟨le7, f16⟩) _ _ le_toks (f_toks.st sT11)) ?_
 rintro _ w31 ⟨x9, h, ⟨cs9, rfl, f17⟩, ke10⟩
 obtain ⟨st30, o⟩ := o.dE ke10
 obtain ⟨a8, c8, rfl, ⟨le8, f18⟩⟩ := GR11_cur_out f17
 refine ⟨_, _, _, _, _, _, rfl, ?_⟩
 refine ⟨((ke9.mono (by simp)).trans (ke10.mono (by simp))), ?_⟩
 have sT12 := sT11.trans st30
 refine call_then (h _ w31 (o.mo hm (by simp) (.head _)) _ (GR11_cur_in x9 ⟨le8, f18⟩) _ _ le_toks (f_toks.st sT12)) ?_
 rintro _ w32 ⟨x10, h, ⟨cs10, rfl, f19⟩, ke11⟩
 obtain ⟨st31, o⟩ := o.dE ke11
 obtain ⟨a9, c9, rfl, ⟨le9, f20⟩⟩ := GR11_cur_out f19
 refine ⟨_, _, _, _, _, _, rfl, ?_⟩
 refine ⟨(((ke9.mono (by simp)).trans (ke10.mono (by simp))).trans (ke11.mono (by simp))), ?_⟩
 refine call_then (h _ w32 (o.mo hm (by simp) (.head _)) _ (GR11_cur_in x10 ⟨le9, f20⟩) _ (GNode_in (⟨18, r4, 0, 0, x.at_⟩ : GNode))) ?_
 rintro _ w33 ⟨x11, h, ⟨cs11, rfl, f21⟩, ke12⟩
 obtain ⟨st32, o⟩ := o.dE ke12
 obtain ⟨a10, c10, rfl, ⟨le10, f22⟩⟩ := GR11_cur_out f21
 refine ⟨_, _, _, _, _, _, rfl, ?_⟩
 refine ⟨o.wr 3 rfl rfl, fun w34 hw34 => ?_⟩
 obtain ⟨st33, o⟩ := o.dSs 3 hw34 rfl
 refine ⟨_, _, _, _, _, _, (o.at 3 rfl).whole, ?_⟩
 exact ⟨x11, h, ⟨_, rfl, (GR11_cur_in x11 ⟨le10, (f22.st (st33.trans Mem.endS))⟩)⟩, o.done⟩
 refine cond_map (fun h => ?_) (fun h => ?_) h
 refine ⟨o.wr 1 rfl rfl, fun w35 hw35 => ?_⟩
 obtain ⟨st34, o⟩ := o.dS 1 hw35 rfl
 refine ⟨_, _, _, _, _, _, (o.at 0 rfl).whole, ?_⟩
 have sT13 := ((st7.trans st8).trans st9).trans st34
 have sT14 := (((((((((st.trans st1).trans st2).trans st3).trans st4).trans st5).trans st6).trans st7).trans st8).trans st9).trans st34
 refine call_then (h _ w35 (o.mo hm (by simp) (.head _)) _ (GR11_cur_in x1 ⟨le, (f2.st sT13)⟩) _ _ le_toks (f_toks.st sT14)) ?_
 rintro _ w36 ⟨x12, h, ⟨cs12, rfl, f23⟩, ke13⟩
 obtain ⟨st35, o⟩ := o.dE ke13
 obtain ⟨a11, c11, rfl, ⟨le11, f24⟩⟩ := GR11_cur_out f23
 refine ⟨_, _, _, _, _, _, rfl, ?_⟩
 have sT15 := sT14.trans st35
 refine call_then (h _ w36 (o.mo hm (by simp) (.head _)) _ (GR11_cur_in x12 ⟨le11, f24⟩) _ _ le_toks (f_toks.st sT15)) ?_
 rintro _ w37 ⟨r5, r6, h, ⟨cs13, rfl, f25⟩, ke14⟩
 obtain ⟨st36, o⟩ := o.dE ke14
 obtain ⟨a12, c12, rfl, ⟨le12, f26⟩⟩ := GR11_cur_out f25
 refine ⟨_, _, _, _, _, _, _, rfl, ?_⟩
 refine ⟨o.wr 0 rfl rfl, fun w38 hw38 => ?_⟩
 obtain ⟨st37, o⟩ := o.dSs 0 hw38 rfl
 refine ⟨o.wr 1 rfl rfl, fun w39 hw39 => ?_⟩
 obtain ⟨st38, o⟩ := o.dS 1 hw39 rfl
 intro w40 hw40
 obtain ⟨st39, o⟩ := o.dD hw40
 have ox2 := o
 refine ⟨fun u => Keep [] w40 u, Keep.refl _ _, ?_⟩
 refine ⟨_, _, _, _, _, _, fun u hu => ((ox2.at 0 rfl).keep hu (by simp)).whole, ?_⟩
 refine ⟨_, _, _, _, _, fun u hu => ((ox2.at 1 rfl).keep hu (by simp)).whole, ?_⟩
 have sT16 := (st37.trans st38).trans st39
 have sT17 := (((sT15.trans st36).trans st37).trans st38).trans st39
 refine call_then (h _ w40 (o.mo hm (by simp) (.head _)) _ (GR11_cur_in r5 ⟨le12, (f26.st sT16)⟩) _ _ le_toks (f_toks.st sT17)) ?_
 rintro _ w41 ⟨x13, h, ⟨cs14, rfl, f27⟩, ke15⟩
 obtain ⟨st40, o⟩ := o.dE ke15
 obtain ⟨a13, c13, rfl, ⟨le13, f28⟩⟩ := GR11_cur_out f27
 refine ⟨_, _, _, _, _, _, rfl, ?_⟩
 refine ⟨(ke15.mono (by simp)), ?_⟩
 have sT18 := sT17.trans st40
 refine call_then (h _ w41 (o.mo hm (by simp) (.head _)) _ (GR11_cur_in x13 ⟨le13, f28⟩) _ _ le_toks (f_toks.st sT18)) ?_
 rintro _ w42 ⟨x14, h, ⟨cs15, rfl, f29⟩, ke16⟩
 obtain ⟨st41, o⟩ := o.dE ke16
 obtain ⟨a14, c14, rfl, ⟨le14, f30⟩⟩ := GR11_cur_out f29
 refine ⟨_, _, _, _, _, _, rfl, ?_⟩
 refine ⟨((ke15.mono (by simp)).trans (ke16.mono (by simp))), ?_⟩
 refine call_then (h _ w42 (o.mo hm (by simp) (.head _)) _ (GR11_cur_in x14 ⟨le14, f30⟩) _ (GNode_in (⟨26, r6, 0, 0, x.at_⟩ : GNode))) ?_
 rintro _ w43 ⟨x15, h, ⟨cs16, rfl, f31⟩, ke17⟩
 obtain ⟨st42, o⟩ := o.dE ke17
 obtain ⟨a15, c15, rfl, ⟨le15, f32⟩⟩ := GR11_cur_out f31
 refine ⟨_, _, _, _, _, _, rfl, ?_⟩
 refine ⟨o.wr 3 rfl rfl, fun w44 hw44 => ?_⟩
 obtain ⟨st43, o⟩ := o.dSs 3 hw44 rfl
 refine ⟨_, _, _, _, _, _, (o.at 3 rfl).whole, ?_⟩
 exact ⟨x15, h, ⟨_, rfl, (GR11_cur_in x15 ⟨le15, (f32.st (st43.trans Mem.endS))⟩)⟩, o.done⟩
 refine cond_map (fun h => ?_) (fun h => ?_) h
 refine ⟨o.wr 1 rfl rfl, fun w45 hw45 => ?_⟩
 obtain ⟨st44, o⟩ := o.dS 1 hw45 rfl
 intro w46 hw46
 obtain ⟨st45, o⟩ := o.dD hw46
 have ox3 := o
 refine ⟨fun u => Keep [] w46 u, Keep.refl _ _, ?_⟩
 refine ⟨_, _, _, _, _, _, fun u hu => ((ox3.at 0 rfl).keep hu (by simp)).whole, ?_⟩
 refine ⟨_, _, _, _, _, fun u hu => ((ox3.at 1 rfl).keep hu (by simp)).whole, ?_⟩
 have sT19 := (((st7.trans st8).trans st9).trans st44).trans st45
 have sT20 := ((((((((((st.trans st1).trans st2).trans st3).trans st4).trans st5).trans st6).trans st7).trans st8).trans st9).trans st44).trans st45
 refine call_then (h _ w46 (o.mo hm (by simp) (.head _)) _ (GR11_cur_in x1 ⟨le, (f2.st sT19)⟩) _ _ le_toks (f_toks.st sT20)) ?_
 rintro _ w47 ⟨x16, h, ⟨cs17, rfl, f33⟩, ke18⟩
 obtain ⟨st46, o⟩ := o.dE ke18
 obtain ⟨a16, c16, rfl, ⟨le16, f34⟩⟩ := GR11_cur_out f33
 refine ⟨_, _, _, _, _, _, rfl, ?_⟩
 refine ⟨(ke18.mono (by simp)), ?_⟩
 have sT21 := sT20.trans st46
 refine call_then (h _ w47 (o.mo hm (by simp) (.head _)) _ (GR11_cur_in x16 ⟨le16, f34⟩) _ _ le_toks (f_toks.st sT21)) ?_
 rintro _ w48 ⟨x17, h, ⟨cs18, rfl, f35⟩, ke19⟩
 obtain ⟨st47, o⟩ := o.dE ke19
 obtain ⟨a17, c17, rfl, ⟨le17, f36⟩⟩ := GR11_cur_out f35
 refine ⟨_, _, _, _, _, _, rfl, ?_⟩
 refine ⟨((ke18.mono (by simp)).trans (ke19.mono (by simp))), ?_⟩
 have sT22 := sT21.trans st47
 refine call_then (h _ w48 (o.mo hm (by simp) (.head _)) _ (GR11_cur_in x17 ⟨le17, f36⟩) _ _ le_toks (f_toks.st sT22)) ?_
 rintro _ w49 ⟨x18, h, ⟨cs19, rfl, f37⟩, ke20⟩
 obtain ⟨st48, o⟩ := o.dE ke20
 obtain ⟨a18, c18, rfl, ⟨le18, f38⟩⟩ := GR11_cur_out f37
 refine ⟨_, _, _, _, _, _, rfl, ?_⟩
 refine ⟨(((ke18.mono (by simp)).trans (ke19.mono (by simp))).trans (ke20.mono (by simp))), ?_⟩
 refine call_then (h _ w49 (o.mo hm (by simp) (.head _)) _ (GR11_cur_in x18 ⟨le18, f38⟩) _ (GNode_in (⟨27, [], 0, 0, x.at_⟩ : GNode))) ?_
 rintro _ w50 ⟨x19, h, ⟨cs20, rfl, f39⟩, ke21⟩
 obtain ⟨st49, o⟩ := o.dE ke21
 obtain ⟨a19, c19, rfl, ⟨le19, f40⟩⟩ := GR11_cur_out f39
 refine ⟨_, _, _, _, _, _, rfl, ?_⟩
 refine ⟨o.wr 3 rfl rfl, fun w51 hw51 => ?_⟩
 obtain ⟨st50, o⟩ := o.dSs 3 hw51 rfl
 refine ⟨_, _, _, _, _, _, (o.at 3 rfl).whole, ?_⟩
 exact ⟨x19, h, ⟨_, rfl, (GR11_cur_in x19 ⟨le19, (f40.st (st50.trans Mem.endS))⟩)⟩, o.done⟩
 refine cond_map (fun h => ?_) (fun h => ?_) h
 refine ⟨o.wr 1 rfl rfl, fun w52 hw52 => ?_⟩
 obtain ⟨st51, o⟩ := o.dS 1 hw52 rfl
 intro w53 hw53
 obtain ⟨st52, o⟩ := o.dD hw53
 have ox4 := o
 refine ⟨fun u => Keep [] w53 u, Keep.refl _ _, ?_⟩
 refine ⟨_, _, _, _, _, _, fun u hu => ((ox4.at 0 rfl).keep hu (by simp)).whole, ?_⟩
 refine ⟨_, _, _, _, _, fun u hu => ((ox4.at 1 rfl).keep hu (by simp)).whole, ?_⟩
 have sT23 := (((st7.trans st8).trans st9).trans st51).trans st52
 have sT24 := ((((((((((st.trans st1).trans st2).trans st3).trans st4).trans st5).trans st6).trans st7).trans st8).trans st9).trans st51).trans st52
 refine call_then (h _ w53 (o.mo hm (by simp) (.head _)) _ (GR11_cur_in x1 ⟨le, (f2.st sT23)⟩) _ _ le_toks (f_toks.st sT24)) ?_
 rintro _ w54 ⟨x20, h, ⟨cs21, rfl, f41⟩, ke22⟩
 obtain ⟨st53, o⟩ := o.dE ke22
 obtain ⟨a20, c20, rfl, ⟨le20, f42⟩⟩ := GR11_cur_out f41
 refine ⟨_, _, _, _, _, _, rfl, ?_⟩
 refine ⟨(ke22.mono (by simp)), ?_⟩
 have sT25 := sT24.trans st53
 refine call_then (h _ w54 (o.mo hm (by simp) (.head _)) _ (GR11_cur_in x20 ⟨le20, f42⟩) _ _ le_toks (f_toks.st sT25)) ?_
 rintro _ w55 ⟨x21, h, ⟨cs22, rfl, f43⟩, ke23⟩
 obtain ⟨st54, o⟩ := o.dE ke23
 obtain ⟨a21, c21, rfl, ⟨le21, f44⟩⟩ := GR11_cur_out f43
 refine ⟨_, _, _, _, _, _, rfl, ?_⟩
 refine ⟨((ke22.mono (by simp)).trans (ke23.mono (by simp))), ?_⟩
 have sT26 := sT25.trans st54
 refine call_then (h _ w55 (o.mo hm (by simp) (.head _)) _ (GR11_cur_in x21 ⟨le21, f44⟩) _ _ le_toks (f_toks.st sT26)) ?_
 rintro _ w56 ⟨x22, h, ⟨cs23, rfl, f45⟩, ke24⟩
 obtain ⟨st55, o⟩ := o.dE ke24
 obtain ⟨a22, c22, rfl, ⟨le22, f46⟩⟩ := GR11_cur_out f45
 refine ⟨_, _, _, _, _, _, rfl, ?_⟩
 refine ⟨(((ke22.mono (by simp)).trans (ke23.mono (by simp))).trans (ke24.mono (by simp))), ?_⟩
 refine call_then (h _ w56 (o.mo hm (by simp) (.head _)) _ (GR11_cur_in x22 ⟨le22, f46⟩) _ (GNode_in (⟨28, [], 0, 0, x.at_⟩ : GNode))) ?_
 rintro _ w57 ⟨x23, h, ⟨cs24, rfl, f47⟩, ke25⟩
 obtain ⟨st56, o⟩ := o.dE ke25
 obtain ⟨a23, c23, rfl, ⟨le23, f48⟩⟩ := GR11_cur_out f47
 refine ⟨_, _, _, _, _, _, rfl, ?_⟩
 refine ⟨o.wr 3 rfl rfl, fun w58 hw58 => ?_⟩
 obtain ⟨st57, o⟩ := o.dSs 3 hw58 rfl
 refine ⟨_, _, _, _, _, _, (o.at 3 rfl).whole, ?_⟩
 exact ⟨x23, h, ⟨_, rfl, (GR11_cur_in x23 ⟨le23, (f48.st (st57.trans Mem.endS))⟩)⟩, o.done⟩
 refine cond_map (fun h => ?_) (fun h => ?_) h
 refine ⟨o.wr 1 rfl rfl, fun w59 hw59 => ?_⟩
 obtain ⟨st58, o⟩ := o.dS 1 hw59 rfl
 intro w60 hw60
 obtain ⟨st59, o⟩ := o.dD hw60
 have ox5 := o
 refine ⟨fun u => Keep [] w60 u, Keep.refl _ _, ?_⟩
 refine ⟨_, _, _, _, _, _, fun u hu => ((ox5.at 0 rfl).keep hu (by simp)).whole, ?_⟩
 refine ⟨_, _, _, _, _, fun u hu => ((ox5.at 1 rfl).keep hu (by simp)).whole, ?_⟩
 have sT27 := (((st7.trans st8).trans st9).trans st58).trans st59
 have sT28 := ((((((((((st.trans st1).trans st2).trans st3).trans st4).trans st5).trans st6).trans st7).trans st8).trans st9).trans st58).trans st59
 refine call_then (h _ w60 (o.mo hm (by simp) (.head _)) _ (GR11_cur_in x1 ⟨le, (f2.st sT27)⟩) _ _ le_toks (f_toks.st sT28)) ?_
 rintro _ w61 ⟨x24, h, ⟨cs25, rfl, f49⟩, ke26⟩
 obtain ⟨st60, o⟩ := o.dE ke26
 obtain ⟨a24, c24, rfl, ⟨le24, f50⟩⟩ := GR11_cur_out f49
 refine ⟨_, _, _, _, _, _, rfl, ?_⟩
 refine ⟨(ke26.mono (by simp)), ?_⟩
 have sT29 := sT28.trans st60
 refine call_then (h _ w61 (o.mo hm (by simp) (.head _)) _ (GR11_cur_in x24 ⟨le24, f50⟩) _ _ le_toks (f_toks.st sT29)) ?_
 rintro _ w62 ⟨x25, h, ⟨cs26, rfl, f51⟩, ke27⟩
 obtain ⟨st61, o⟩ := o.dE ke27
 obtain ⟨a25, c25, rfl, ⟨le25, f52⟩⟩ := GR11_cur_out f51
 refine ⟨_, _, _, _, _, _, rfl, ?_⟩
 refine ⟨((ke26.mono (by simp)).trans (ke27.mono (by simp))), ?_⟩
 have sT30 := sT29.trans st61
 refine call_then (h _ w62 (o.mo hm (by simp) (.head _)) _ (GR11_cur_in x25 ⟨le25, f52⟩) _ _ le_toks (f_toks.st sT30)) ?_
 rintro _ w63 ⟨x26, h, ⟨cs27, rfl, f53⟩, ke28⟩
 obtain ⟨st62, o⟩ := o.dE ke28
 obtain ⟨a26, c26, rfl, ⟨le26, f54⟩⟩ := GR11_cur_out f53
 refine ⟨_, _, _, _, _, _, rfl, ?_⟩
 refine ⟨(((ke26.mono (by simp)).trans (ke27.mono (by simp))).trans (ke28.mono (by simp))), ?_⟩
 refine call_then (h _ w63 (o.mo hm (by simp) (.head _)) _ (GR11_cur_in x26 ⟨le26, f54⟩) _ (GNode_in (⟨29, [], 0, 0, x.at_⟩ : GNode))) ?_
 rintro _ w64 ⟨x27, h, ⟨cs28, rfl, f55⟩, ke29⟩
 obtain ⟨st63, o⟩ := o.dE ke29
 obtain ⟨a27, c27, rfl, ⟨le27, f56⟩⟩ := GR11_cur_out f55
 refine ⟨_, _, _, _, _, _, rfl, ?_⟩
 refine ⟨o.wr 3 rfl rfl, fun w65 hw65 => ?_⟩
 obtain ⟨st64, o⟩ := o.dSs 3 hw65 rfl
 refine ⟨_, _, _, _, _, _, (o.at 3 rfl).whole, ?_⟩
 exact ⟨x27, h, ⟨_, rfl, (GR11_cur_in x27 ⟨le27, (f56.st (st64.trans Mem.endS))⟩)⟩, o.done⟩
 refine cond_map (fun h => ?_) (fun h => ?_) h
 refine ⟨o.wr 1 rfl rfl, fun w66 hw66 => ?_⟩
 obtain ⟨st65, o⟩ := o.dS 1 hw66 rfl
 intro w67 hw67
 obtain ⟨st66, o⟩ := o.dD hw67
 have ox6 := o
 refine ⟨fun u => Keep [] w67 u, Keep.refl _ _, ?_⟩
 refine ⟨_, _, _, _, _, _, fun u hu => ((ox6.at 0 rfl).keep hu (by simp)).whole, ?_⟩
 refine ⟨_, _, _, _, _, fun u hu => ((ox6.at 1 rfl).keep hu (by simp)).whole, ?_⟩
 have sT31 := (((st7.trans st8).trans st9).trans st65).trans st66
 have sT32 := ((((((((((st.trans st1).trans st2).trans st3).trans st4).trans st5).trans st6).trans st7).trans st8).trans st9).trans st65).trans st66
 refine call_then (h _ w67 (o.mo hm (by simp) (.head _)) _ (GR11_cur_in x1 ⟨le, (f2.st sT31)⟩) _ _ le_toks (f_toks.st sT32)) ?_
 rintro _ w68 ⟨x28, h, ⟨cs29, rfl, f57⟩, ke30⟩
 obtain ⟨st67, o⟩ := o.dE ke30
 obtain ⟨a28, c28, rfl, ⟨le28, f58⟩⟩ := GR11_cur_out f57
 refine ⟨_, _, _, _, _, _, rfl, ?_⟩
 refine ⟨(ke30.mono (by simp)), ?_⟩
 have sT33 := sT32.trans st67
 refine call_then (h _ w68 (o.mo hm (by simp) (.head _)) _ (GR11_cur_in x28 ⟨le28, f58⟩) _ _ le_toks (f_toks.st sT33)) ?_
 rintro _ w69 ⟨x29, h, ⟨cs30, rfl, f59⟩, ke31⟩
 obtain ⟨st68, o⟩ := o.dE ke31
 obtain ⟨a29, c29, rfl, ⟨le29, f60⟩⟩ := GR11_cur_out f59
 refine ⟨_, _, _, _, _, _, rfl, ?_⟩
 refine ⟨((ke30.mono (by simp)).trans (ke31.mono (by simp))), ?_⟩
 refine call_then (h _ w69 (o.mo hm (by simp) (.head _)) _ (GR11_cur_in x29 ⟨le29, f60⟩) _ (GNode_in (⟨30, [], 0, 0, x.at_⟩ : GNode))) ?_
 rintro _ w70 ⟨x30, h, ⟨cs31, rfl, f61⟩, ke32⟩
 obtain ⟨st69, o⟩ := o.dE ke32
 obtain ⟨a30, c30, rfl, ⟨le30, f62⟩⟩ := GR11_cur_out f61
 refine ⟨_, _, _, _, _, _, rfl, ?_⟩
 refine ⟨o.wr 3 rfl rfl, fun w71 hw71 => ?_⟩
 obtain ⟨st70, o⟩ := o.dSs 3 hw71 rfl
 refine ⟨_, _, _, _, _, _, (o.at 3 rfl).whole, ?_⟩
 exact ⟨x30, h, ⟨_, rfl, (GR11_cur_in x30 ⟨le30, (f62.st (st70.trans Mem.endS))⟩)⟩, o.done⟩
 refine cond_map (fun h => ?_) (fun h => ?_) h
 refine ⟨o.wr 1 rfl rfl, fun w72 hw72 => ?_⟩
 obtain ⟨st71, o⟩ := o.dS 1 hw72 rfl
 intro w73 hw73
 obtain ⟨st72, o⟩ := o.dD hw73
 have ox7 := o
 refine ⟨fun u => Keep [] w73 u, Keep.refl _ _, ?_⟩
 refine ⟨_, _, _, _, _, _, fun u hu => ((ox7.at 0 rfl).keep hu (by simp)).whole, ?_⟩
 refine ⟨_, _, _, _, _, fun u hu => ((ox7.at 1 rfl).keep hu (by simp)).whole, ?_⟩
 have sT34 := (((st7.trans st8).trans st9).trans st71).trans st72
 have sT35 := ((((((((((st.trans st1).trans st2).trans st3).trans st4).trans st5).trans st6).trans st7).trans st8).trans st9).trans st71).trans st72
 refine call_then (h _ w73 (o.mo hm (by simp) (.head _)) _ (GR11_cur_in x1 ⟨le, (f2.st sT34)⟩) _ _ le_toks (f_toks.st sT35)) ?_
 rintro _ w74 ⟨x31, h, ⟨cs32, rfl, f63⟩, ke33⟩
 obtain ⟨st73, o⟩ := o.dE ke33
 obtain ⟨a31, c31, rfl, ⟨le31, f64⟩⟩ := GR11_cur_out f63
 refine ⟨_, _, _, _, _, _, rfl, ?_⟩
 refine ⟨(ke33.mono (by simp)), ?_⟩
 have sT36 := sT35.trans st73
 refine call_then (h _ w74 (o.mo hm (by simp) (.head _)) _ (GR11_cur_in x31 ⟨le31, f64⟩) _ _ le_toks (f_toks.st sT36)) ?_
 rintro _ w75 ⟨x32, h, ⟨cs33, rfl, f65⟩, ke34⟩
 obtain ⟨st74, o⟩ := o.dE ke34
 obtain ⟨a32, c32, rfl, ⟨le32, f66⟩⟩ := GR11_cur_out f65
 refine ⟨_, _, _, _, _, _, rfl, ?_⟩
 refine ⟨((ke33.mono (by simp)).trans (ke34.mono (by simp))), ?_⟩
 refine call_then (h _ w75 (o.mo hm (by simp) (.head _)) _ (GR11_cur_in x32 ⟨le32, f66⟩) _ (GNode_in (⟨31, [], 0, 0, x.at_⟩ : GNode))) ?_
 rintro _ w76 ⟨x33, h, ⟨cs34, rfl, f67⟩, ke35⟩
 obtain ⟨st75, o⟩ := o.dE ke35
 obtain ⟨a33, c33, rfl, ⟨le33, f68⟩⟩ := GR11_cur_out f67
 refine ⟨_, _, _, _, _, _, rfl, ?_⟩
 refine ⟨o.wr 3 rfl rfl, fun w77 hw77 => ?_⟩
 obtain ⟨st76, o⟩ := o.dSs 3 hw77 rfl
 refine ⟨_, _, _, _, _, _, (o.at 3 rfl).whole, ?_⟩
 exact ⟨x33, h, ⟨_, rfl, (GR11_cur_in x33 ⟨le33, (f68.st (st76.trans Mem.endS))⟩)⟩, o.done⟩
 refine cond_map (fun h => ?_) (fun h => ?_) h
 refine ⟨o.wr 1 rfl rfl, fun w78 hw78 => ?_⟩
 obtain ⟨st77, o⟩ := o.dS 1 hw78 rfl
 intro w79 hw79
 obtain ⟨st78, o⟩ := o.dD hw79
 have ox8 := o
 refine ⟨fun u => Keep [] w79 u, Keep.refl _ _, ?_⟩
 refine ⟨_, _, _, _, _, _, fun u hu => ((ox8.at 0 rfl).keep hu (by simp)).whole, ?_⟩
 refine ⟨_, _, _, _, _, fun u hu => ((ox8.at 1 rfl).keep hu (by simp)).whole, ?_⟩
 have sT37 := (((st7.trans st8).trans st9).trans st77).trans st78
 have sT38 := ((((((((((st.trans st1).trans st2).trans st3).trans st4).trans st5).trans st6).trans st7).trans st8).trans st9).trans st77).trans st78
 refine call_then (h _ w79 (o.mo hm (by simp) (.head _)) _ (GR11_cur_in x1 ⟨le, (f2.st sT37)⟩) _ _ le_toks (f_toks.st sT38)) ?_
 rintro _ w80 ⟨x34, h, ⟨cs35, rfl, f69⟩, ke36⟩
 obtain ⟨st79, o⟩ := o.dE ke36
 obtain ⟨a34, c34, rfl, ⟨le34, f70⟩⟩ := GR11_cur_out f69
 refine ⟨_, _, _, _, _, _, rfl, ?_⟩
 refine ⟨(ke36.mono (by simp)), ?_⟩
 have sT39 := sT38.trans st79
 refine call_then (h _ w80 (o.mo hm (by simp) (.head _)) _ (GR11_cur_in x34 ⟨le34, f70⟩) _ _ le_toks (f_toks.st sT39)) ?_
 rintro _ w81 ⟨x35, h, ⟨cs36, rfl, f71⟩, ke37⟩
 obtain ⟨st80, o⟩ := o.dE ke37
 obtain ⟨a35, c35, rfl, ⟨le35, f72⟩⟩ := GR11_cur_out f71
 refine ⟨_, _, _, _, _, _, rfl, ?_⟩
 refine ⟨((ke36.mono (by simp)).trans (ke37.mono (by simp))), ?_⟩
 have sT40 := sT39.trans st80
 refine call_then (h _ w81 (o.mo hm (by simp) (.head _)) _ (GR11_cur_in x35 ⟨le35, f72⟩) _ _ le_toks (f_toks.st sT40)) ?_
 rintro _ w82 ⟨x36, h, ⟨cs37, rfl, f73⟩, ke38⟩
 obtain ⟨st81, o⟩ := o.dE ke38
 obtain ⟨a36, c36, rfl, ⟨le36, f74⟩⟩ := GR11_cur_out f73
 refine ⟨_, _, _, _, _, _, rfl, ?_⟩
 refine ⟨(((ke36.mono (by simp)).trans (ke37.mono (by simp))).trans (ke38.mono (by simp))), ?_⟩
 refine call_then (h _ w82 (o.mo hm (by simp) (.head _)) _ (GR11_cur_in x36 ⟨le36, f74⟩) _ (GNode_in (⟨24, [], 0, 0, x.at_⟩ : GNode))) ?_
 rintro _ w83 ⟨x37, h, ⟨cs38, rfl, f75⟩, ke39⟩
 obtain ⟨st82, o⟩ := o.dE ke39
 obtain ⟨a37, c37, rfl, ⟨le37, f76⟩⟩ := GR11_cur_out f75
 refine ⟨_, _, _, _, _, _, rfl, ?_⟩
 refine ⟨o.wr 3 rfl rfl, fun w84 hw84 => ?_⟩
 obtain ⟨st83, o⟩ := o.dSs 3 hw84 rfl
 refine ⟨_, _, _, _, _, _, (o.at 3 rfl).whole, ?_⟩
 exact ⟨x37, h, ⟨_, rfl, (GR11_cur_in x37 ⟨le37, (f76.st (st83.trans Mem.endS))⟩)⟩, o.done⟩
 refine cond_map (fun h => ?_) (fun h => ?_) h
 refine ⟨o.wr 1 rfl rfl, fun w85 hw85 => ?_⟩
 obtain ⟨st84, o⟩ := o.dS 1 hw85 rfl
 refine ⟨_, _, _, _, _, _, (o.at 0 rfl).whole, ?_⟩
 have sT41 := ((st7.trans st8).trans st9).trans st84
 have sT42 := (((((((((st.trans st1).trans st2).trans st3).trans st4).trans st5).trans st6).trans st7).trans st8).trans st9).trans st84
 refine call_then (h _ w85 (o.mo hm (by simp) (.head _)) _ (GR11_cur_in x1 ⟨le, (f2.st sT41)⟩) _ _ le_toks (f_toks.st sT42)) ?_
 rintro _ w86 ⟨x38, h, ⟨cs39, rfl, f77⟩, ke40⟩
 obtain ⟨st85, o⟩ := o.dE ke40
 obtain ⟨a38, c38, rfl, ⟨le38, f78⟩⟩ := GR11_cur_out f77
 refine ⟨_, _, _, _, _, _, rfl, ?_⟩
 have sT43 := sT42.trans st85
 refine call_then (h _ w86 (o.mo hm (by simp) (.head _)) _ (GR11_cur_in x38 ⟨le38, f78⟩) _ _ le_toks (f_toks.st sT43)) ?_
 rintro _ w87 ⟨x39, h, ⟨cs40, rfl, f79⟩, ke41⟩
 obtain ⟨st86, o⟩ := o.dE ke41
 obtain ⟨a39, c39, rfl, ⟨le39, f80⟩⟩ := GR11_cur_out f79
 refine ⟨_, _, _, _, _, _, rfl, ?_⟩
 have sT44 := sT43.trans st86
 refine call_then (h _ w87 (o.mo hm (by simp) (.head _)) _ (GR11_cur_in x39 ⟨le39, f80⟩) _ _ le_toks (f_toks.st sT44)) ?_
 rintro _ w88 ⟨x40, h, ⟨cs41, rfl, f81⟩, ke42⟩
 obtain ⟨st87, o⟩ := o.dE ke42
 obtain ⟨a40, c40, rfl, ⟨le40, f82⟩⟩ := GR11_cur_out f81
 refine ⟨_, _, _, _, _, _, rfl, ?_⟩
 refine ⟨o.wr 0 rfl rfl, fun w89 hw89 => ?_⟩
 obtain ⟨st88, o⟩ := o.dSs 0 hw89 rfl
 obtain ⟨J1, h, h2⟩ := h
 refine ⟨fun w90 => ∃ (l : List GNode) (n : Int) (atx1 : Int) (ex : Int) (a41 : Option Addr) (c41 : Nat), J1 l n atx1 ex ∧ (l.length ≤ c41 ∧ SlR cGNode (ms [.box b3 [.slice a41 l.length c41, .q n, .q atx1, .q ex], .box b2 [.q 23, .s [], .q 0, .q 0, .q x.at_], .box b1 [.q x.kind, .s x.text, .q x.n, .q x.at_], .box b [.slice none 0 0, .q 0, .q 0, .q 0]] m) w90 a41 l) ∧ Mem w.heap.size [] m [([], w.heap.size, w)] [] w90 [.box b3 [.slice a41 l.length c41, .q n, .q atx1, .q ex], .box b2 [.q 23, .s [], .q 0, .q 0, .q x.at_], .box b1 [.q x.kind, .s x.text, .q x.n, .q x.at_], .box b [.slice none 0 0, .q 0, .q 0, .q 0]] ∧ Step (ms [.box b3 [.slice a40 x40.l.length c40, .q x40.n, .q x40.at_, .q x40.e_], .box b2 [.q 23, .s [], .q 0, .q 0, .q x.at_], .box b1 [.q x.kind, .s x.text, .q x.n, .q x.at_], .box b [.slice none 0 0, .q 0, .q 0, .q 0]] m) w89 (ms [.box b3 [.slice a41 l.length c41, .q n, .q atx1, .q ex], .box b2 [.q 23, .s [], .q 0, .q 0, .q x.at_], .box b1 [.q x.kind, .s x.text, .q x.n, .q x.at_], .box b [.slice none 0 0, .q 0, .q 0, .q 0]] m) w90, ?_, ?_⟩
 obtain ⟨J2, h, h2⟩ := h
 refine ⟨fun x41 w91 => J2 x41 ∧ Mem w.heap.size [] m [([], w.heap.size, w)] [] w91 [.box b3 [.slice a40 x40.l.length c40, .q x40.n, .q x40.at_, .q x40.e_], .box b2 [.q 23, .s [], .q 0, .q 0, .q x.at_], .box b1 [.q x.kind, .s x.text, .q x.n, .q x.at_], .box b [.slice none 0 0, .q 0, .q 0, .q 0]] ∧ Step (ms [.box b3 [.slice a40 x40.l.length c40, .q x40.n, .q x40.at_, .q x40.e_], .box b2 [.q 23, .s [], .q 0, .q 0, .q x.at_], .box b1 [.q x.kind, .s x.text, .q x.n, .q x.at_], .box b [.slice none 0 0, .q 0, .q 0, .q 0]] m) w89 (ms [.box b3 [.slice a40 x40.l.length c40, .q x40.n, .q x40.at_, .q x40.e_], .box b2 [.q 23, .s [], .q 0, .q 0, .q x.at_], .box b1 [.q x.kind, .s x.text, .q x.n, .q x.at_], .box b [.slice none 0 0, .q 0, .q 0, .q 0]] m) w91, ?_, ?_⟩
 refine ⟨_, (o.at 0 rfl).cell rfl, ?_⟩
 refine cond_map (fun h => ?_) (fun h => ?_) h
 refine ⟨_, (o.at 0 rfl).cell rfl, ?_⟩
 have sT45 := (sT44.trans st87).trans st88
 refine call_then (h _ w89 (o.mo hm (by simp) (.head _)) _ _ le_toks (f_toks.st sT45)) ?_
 rintro _ w92 ⟨x42, h, rfl, ke43⟩
 obtain ⟨st91, o⟩ := o.dE ke43
 refine ⟨_, rfl, ?_⟩
 exact ⟨h, o, st91⟩
 exact ⟨h, o, Step.refl _ _⟩
 rintro _ x41 w91 ⟨hJ, o, st90⟩
 have h := h2 x41 hJ
 refine cond_map (fun h => ?_) (fun h => ?_) h
 refine ⟨_, _, _, _, _, _, (o.at 0 rfl).whole, ?_⟩
 have sT46 := ((sT44.trans st87).trans st88).trans st90
 refine call_then (h _ w91 (o.mo hm (by simp) (.head _)) _ (GR11_cur_in x40 ⟨le40, (f82.st (st88.trans st90))⟩) _ _ le_toks (f_toks.st sT46)) ?_
 rintro _ w93 ⟨x43, h, ⟨cs42, rfl, f84⟩, ke44⟩
 obtain ⟨st92, o⟩ := o.dE ke44
 obtain ⟨a42, c42, rfl, ⟨le42, f85⟩⟩ := GR11_cur_out f84
 refine ⟨_, _, _, _, _, _, rfl, ?_⟩
 have sT47 := sT46.trans st92
 refine call_then (h _ w93 (o.mo hm (by simp) (.head _)) _ (GR11_cur_in x43 ⟨le42, f85⟩) _ _ le_toks (f_toks.st sT47)) ?_
 rintro _ w94 ⟨x44, h, ⟨cs43, rfl, f86⟩, ke45⟩
 obtain ⟨st93, o⟩ := o.dE ke45
 obtain ⟨a43, c43, rfl, ⟨le43, f87⟩⟩ := GR11_cur_out f86
 refine ⟨_, _, _, _, _, _, rfl, ?_⟩
 refine ⟨o.wr 0 rfl rfl, fun w95 hw95 => ?_⟩
 obtain ⟨st94, o⟩ := o.dSs 0 hw95 rfl
 have sT48 := ((st90.trans st92).trans st93).trans st94
 exact ⟨x44.l, x44.n, x44.at_, x44.e_, a43, c43, h, ⟨le43, (f87.st st94)⟩, o, sT48⟩
 exact ⟨x40.l, x40.n, x40.at_, x40.e_, a40, c40, h, ⟨le40, (f82.st (st88.trans st90))⟩, o, st90⟩
 rintro _ w90 ⟨l, n, atx1, ex, a41, c41, hJ, ⟨le41, f83⟩, o, st89⟩
 have h := h2 l n atx1 ex hJ
 refine ⟨_, _, _, _, _, _, (o.at 0 rfl).whole, ?_⟩
 refine ⟨_, _, _, _, _, (o.at 1 rfl).whole, ?_⟩
 refine call_then (h _ w90 (o.mo hm (by simp) (.head _)) _ (GR11_cur_in (⟨l, n, atx1, ex⟩ : GR11_cur) ⟨le41, f83⟩) _ (GNode_in (⟨23, [], 0, 0, x.at_⟩ : GNode))) ?_
 rintro _ w96 ⟨x45, h, ⟨cs44, rfl, f88⟩, ke46⟩
 obtain ⟨st95, o⟩ := o.dE ke46
 obtain ⟨a44, c44, rfl, ⟨le44, f89⟩⟩ := GR11_cur_out f88
 refine ⟨_, _, _, _, _, _, rfl, ?_⟩
 refine ⟨o.wr 3 rfl rfl, fun w97 hw97 => ?_⟩
 obtain ⟨st96, o⟩ := o.dSs 3 hw97 rfl
 refine ⟨_, _, _, _, _, _, (o.at 3 rfl).whole, ?_⟩
 exact ⟨x45, h, ⟨_, rfl, (GR11_cur_in x45 ⟨le44, (f89.st (st96.trans Mem.endS))⟩)⟩, o.done⟩
 refine cond_map (fun h => ?_) (fun h => ?_) h
 refine ⟨o.wr 1 rfl rfl, fun w98 hw98 => ?_⟩
 obtain ⟨st97, o⟩ := o.dS 1 hw98 rfl
 refine ⟨_, _, _, _, _, _, (o.at 0 rfl).whole, ?_⟩
 have sT49 := ((st7.trans st8).trans st9).trans st97
 have sT50 := (((((((((st.trans st1).trans st2).trans st3).trans st4).trans st5).trans st6).trans st7).trans st8).trans st9).trans st97
 refine call_then (h _ w98 (o.mo hm (by simp) (.head _)) _ (GR11_cur_in x1 ⟨le, (f2.st sT49)⟩) _ _ le_toks (f_toks.st sT50)) ?_
 rintro _ w99 ⟨x46, h, ⟨cs45, rfl, f90⟩, ke47⟩
 obtain ⟨st98, o⟩ := o.dE ke47
 obtain ⟨a45, c45, rfl, ⟨le45, f91⟩⟩ := GR11_cur_out f90
 refine ⟨_, _, _, _, _, _, rfl, ?_⟩
 have sT51 := sT50.trans st98
 refine call_then (h _ w99 (o.mo hm (by simp) (.head _)) _ (GR11_cur_in x46 ⟨le45, f91⟩) _ _ le_toks (f_toks.st sT51)) ?_
 rintro _ w100 ⟨x47, h, ⟨cs46, rfl, f92⟩, ke48⟩
 obtain ⟨st99, o⟩ := o.dE ke48
 obtain ⟨a46, c46, rfl, ⟨le46, f93⟩⟩ := GR11_cur_out f92
 refine ⟨_, _, _, _, _, _, rfl, ?_⟩
 refine ⟨o.wr 0 rfl rfl, fun w101 hw101 => ?_⟩
 obtain ⟨st100, o⟩ := o.dSs 0 hw101 rfl
 obtain ⟨J3, h, h2⟩ := h
 refine ⟨fun w102 => ∃ (l1 : List GNode) (n1 : Int) (atx2 : Int) (ex1 : Int) (a47 : Option Addr) (c47 : Nat), J3 l1 n1 atx2 ex1 ∧ (l1.length ≤ c47 ∧ SlR cGNode (ms [.box b3 [.slice a47 l1.length c47, .q n1, .q atx2, .q ex1], .box b2 [.q 25, .s [], .q 0, .q 0, .q x.at_], .box b1 [.q x.kind, .s x.text, .q x.n, .q x.at_], .box b [.slice none 0 0, .q 0, .q 0, .q 0]] m) w102 a47 l1) ∧ Mem w.heap.size [] m [([], w.heap.size, w)] [] w102 [.box b3 [.slice a47 l1.length c47, .q n1, .q atx2, .q ex1], .box b2 [.q 25, .s [], .q 0, .q 0, .q x.at_], .box b1 [.q x.kind, .s x.text, .q x.n, .q x.at_], .box b [.slice none 0 0, .q 0, .q 0, .q 0]] ∧ Step (ms [.box b3 [.slice a46 x47.l.length c46, .q x47.n, .q x47.at_, .q x47.e_], .box b2 [.q 25, .s [], .q 0, .q 0, .q x.at_], .box b1 [.q x.kind, .s x.text, .q x.n, .q x.at_], .box b [.slice none 0 0, .q 0, .q 0, .q 0]] m) w101 (ms [.box b3 [.slice a47 l1.length c47, .q n1, .q atx2, .q ex1], .box b2 [.q 25, .s [], .q 0, .q 0, .q x.at_], .box b1 [.q x.kind, .s x.text, .q x.n, .q x.at_], .box b [.slice none 0 0, .q 0, .q 0, .q 0]] m) w102, ?_, ?_⟩
 refine ⟨_, (o.at 0 rfl).cell rfl, ?_⟩
 refine cond_map (fun h => ?_) (fun h => ?_) h
 intro w103 hw103
 obtain ⟨st102, o⟩ := o.dD hw103
 have ox9 := o
 refine ⟨fun u => Keep [] w103 u, Keep.refl _ _, ?_⟩
 refine ⟨_, _, _, _, _, _, fun u hu => ((ox9.at 0 rfl).keep hu (by simp)).whole, ?_⟩
 refine ⟨_, fun u hu => ((ox9.at 0 rfl).keep hu (by simp)).cell rfl, ?_⟩
 have sT52 := ((sT51.trans st99).trans st100).trans st102
 refine call_then (h _ w103 (o.mo hm (by simp) (.head _)) _ _ le_toks (f_toks.st sT52)) ?_
 rintro _ w104 ⟨x48, h, ⟨cs47, rfl, f95⟩, ke49⟩
 obtain ⟨st103, o⟩ := o.dE ke49
 obtain ⟨a48, c48, rfl, ⟨le48, f96⟩⟩ := GR11_cur_out f95
 refine ⟨_, _, _, _, _, _, rfl, ?_⟩
 refine ⟨(ke49.mono (by simp)), ?_⟩
 have sT53 := (st100.trans st102).trans st103
 refine call_then (h _ w104 (o.mo hm (by simp) (.head _)) _ (GR11_cur_in x47 ⟨le46, (f93.st sT53)⟩) _ (GR11_cur_in x48 ⟨le48, f96⟩)) ?_
 rintro _ w105 ⟨x49, h, ⟨cs48, rfl, f97⟩, ke50⟩
 obtain ⟨st104, o⟩ := o.dE ke50
 obtain ⟨a49, c49, rfl, ⟨le49, f98⟩⟩ := GR11_cur_out f97
 refine ⟨_, _, _, _, _, _, rfl, ?_⟩
 refine ⟨o.wr 0 rfl rfl, fun w106 hw106 => ?_⟩
 obtain ⟨st105, o⟩ := o.dSs 0 hw106 rfl
 have sT54 := ((st102.trans st103).trans st104).trans st105
 exact ⟨x49.l, x49.n, x49.at_, x49.e_, a49, c49, h, ⟨le49, (f98.st st105)⟩, o, sT54⟩
 exact ⟨x47.l, x47.n, x47.at_, x47.e_, a46, c46, h, ⟨le46, (f93.st st100)⟩, o, Step.refl _ _⟩
 rintro _ w102 ⟨l1, n1, atx2, ex1, a47, c47, hJ, ⟨le47, f94⟩, o, st101⟩
 have h := h2 l1 n1 atx2 ex1 hJ
 obtain ⟨I, ⟨n5, h⟩, h2⟩ := h
 obtain ⟨Z, hZ⟩ : ∃ Z : World → Nat → Prop, Z = fun w107 n3 => ∃ (l2 : List GNode) (n2 : Int) (atx3 : Int) (ex2 : Int) (a50 : Option Addr) (c50 : Nat), I l2 n2 atx3 ex2 n3 ∧ (l2.length ≤ c50 ∧ SlR cGNode (ms [.box b3 [.slice a50 l2.length c50, .q n2, .q atx3, .q ex2], .box b2 [.q 25, .s [], .q 0, .q 0, .q x.at_], .box b1 [.q x.kind, .s x.text, .q x.n, .q x.at_], .box b [.slice none 0 0, .q 0, .q 0, .q 0]] m) w107 a50 l2) ∧ Mem w.heap.size [] m [([], w.heap.size, w)] [] w107 [.box b3 [.slice a50 l2.length c50, .q n2, .q atx3, .q ex2], .box b2 [.q 25, .s [], .q 0, .q 0, .q x.at_], .box b1 [.q x.kind, .s x.text, .q x.n, .q x.at_], .box b [.slice none 0 0, .q 0, .q 0, .q 0]] ∧ Step (ms [.box b3 [.slice a47 l1.length c47, .q n1, .q atx2, .q ex1], .box b2 [.q 25, .s [], .q 0, .q 0, .q x.at_], .box b1 [.q x.kind, .s x.text, .q x.n, .q x.at_], .box b [.slice none 0 0, .q 0, .q 0, .q 0]] m) w102 (ms [.box b3 [.slice a50 l2.length c50, .q n2, .q atx3, .q ex2], .box b2 [.q 25, .s [], .q 0, .q 0, .q x.at_], .box b1 [.q x.kind, .s x.text, .q x.n, .q x.at_], .box b [.slice none 0 0, .q 0, .q 0, .q 0]] m) w107 := ⟨_, rfl⟩
 refine ⟨fun w107 => ∃ n3, Z w107 n3, fun w107 => leastN (Z w107), ⟨n5, ?_⟩, ?_⟩
 rw [hZ]; exact ⟨l1, n1, atx2, ex1, a47, c47, h, ⟨le47, f94⟩, o, Step.refl _ _⟩
 intro _ w107 hIZ
 obtain ⟨n3, hnn3⟩ : ∃ n3, n3 = leastN (Z w107) := ⟨_, rfl⟩
 have hIZ := leastN_at hIZ
 rw [← hnn3, hZ] at hIZ
 obtain ⟨l2, n2, atx3, ex2, a50, c50, h, ⟨le50, f99⟩, o, st106⟩ := hIZ
 have h := h2 l2 n2 atx3 ex2 n3 h
 obtain ⟨J4, h, h2⟩ := h
 refine ⟨fun x50 w108 => J4 x50 ∧ Mem w.heap.size [] m [([], w.heap.size, w)] [] w108 [.box b3 [.slice a50 l2.length c50, .q n2, .q atx3, .q ex2], .box b2 [.q 25, .s [], .q 0, .q 0, .q x.at_], .box b1 [.q x.kind, .s x.text, .q x.n, .q x.at_], .box b [.slice none 0 0, .q 0, .q 0, .q 0]] ∧ Step (ms [.box b3 [.slice a50 l2.length c50, .q n2, .q atx3, .q ex2], .box b2 [.q 25, .s [], .q 0, .q 0, .q x.at_], .box b1 [.q x.kind, .s x.text, .q x.n, .q x.at_], .box b [.slice none 0 0, .q 0, .q 0, .q 0]] m) w107 (ms [.box b3 [.slice a50 l2.length c50, .q n2, .q atx3, .q ex2], .box b2 [.q 25, .s [], .q 0, .q 0, .q x.at_], .box b1 [.q x.kind, .s x.text, .q x.n, .q x.at_], .box b [.slice none 0 0, .q 0, .q 0, .q 0]] m) w108, ?_, ?_⟩
 refine ⟨_, (o.at 0 rfl).cell rfl, ?_⟩
 refine cond_map (fun h => ?_) (fun h => ?_) h
 refine ⟨_, (o.at 0 rfl).cell rfl, ?_⟩
 have sT55 := (((sT51.trans st99).trans st100).trans st101).trans st106
 refine call_then (h _ w107 (o.mo hm (by simp) (.head _)) _ _ le_toks (f_toks.st sT55)) ?_
 rintro _ w109 ⟨x51, h, rfl, ke51⟩
 obtain ⟨st108, o⟩ := o.dE ke51
 refine ⟨_, rfl, ?_⟩
 exact ⟨h, o, st108⟩
 exact ⟨h, o, Step.refl _ _⟩
 rintro _ x50 w108 ⟨hJ, o, st107⟩
 have h := h2 x50 hJ
 refine cond_map (fun h => ?_) (fun h => ?_) h
 intro w110 hw110
 obtain ⟨st109, o⟩ := o.dD hw110
 have ox10 := o
 refine ⟨fun u => Keep [] w110 u, Keep.refl _ _, ?_⟩
 refine ⟨_, _, _, _, _, _, fun u hu => ((ox10.at 0 rfl).keep hu (by simp)).whole, ?_⟩
 refine ⟨_, fun u hu => ((ox10.at 0 rfl).keep hu (by simp)).cell rfl, ?_⟩
 have sT56 := (((((sT51.trans st99).trans st100).trans st101).trans st106).trans st107).trans st109
 refine call_then (h _ w110 (o.mo hm (by simp) (.head _)) _ _ le_toks (f_toks.st sT56)) ?_
 rintro _ w111 ⟨x52, h, ⟨cs49, rfl, f100⟩, ke52⟩
 obtain ⟨st110, o⟩ := o.dE ke52
 obtain ⟨a51, c51, rfl, ⟨le51, f101⟩⟩ := GR11_cur_out f100
 refine ⟨_, _, _, _, _, _, rfl, ?_⟩
 refine ⟨(ke52.mono (by simp)), ?_⟩
 have sT57 := (st107.trans st109).trans st110
 refine call_then (h _ w111 (o.mo hm (by simp) (.head _)) _ (GR11_cur_in (⟨l2, n2, atx3, ex2⟩ : GR11_cur) ⟨le50, (f99.st sT57)⟩) _ (GR11_cur_in x52 ⟨le51, f101⟩)) ?_
 rintro _ w112 ⟨x53, h, ⟨cs50, rfl, f102⟩, ke53⟩
 obtain ⟨st111, o⟩ := o.dE ke53
 obtain ⟨a52, c52, rfl, ⟨le52, f103⟩⟩ := GR11_cur_out f102
 refine ⟨_, _, _, _, _, _, rfl, ?_⟩
 refine ⟨o.wr 0 rfl rfl, fun w113 hw113 => ?_⟩
 obtain ⟨st112, o⟩ := o.dSs 0 hw113 rfl
 obtain ⟨n4, hl, h⟩ := h
 have sT58 := ((((st106.trans st107).trans st109).trans st110).trans st111).trans st112
 exact loop_again hnn3 (show Z w113 n4 from (by rw [hZ]; exact ⟨x53.l, x53.n, x53.at_, x53.e_, a52, c52, h, ⟨le52, (f103.st st112)⟩, o, sT58⟩)) hl
 intro w114 hw114
 obtain ⟨st113, o⟩ := o.dD hw114
 have ox11 := o
 refine ⟨fun u => Keep [] w114 u, Keep.refl _ _, ?_⟩
 refine ⟨_, _, _, _, _, _, fun u hu => ((ox11.at 0 rfl).keep hu (by simp)).whole, ?_⟩
 refine ⟨_, _, _, _, _, fun u hu => ((ox11.at 1 rfl).keep hu (by simp)).whole, ?_⟩
 have sT59 := (((((sT51.trans st99).trans st100).trans st101).trans st106).trans st107).trans st113
 refine call_then (h _ w114 (o.mo hm (by simp) (.head _)) _ (GR11_cur_in (⟨l2, n2, atx3, ex2⟩ : GR11_cur) ⟨le50, (f99.st (st107.trans st113))⟩) _ _ le_toks (f_toks.st sT59)) ?_
 rintro _ w115 ⟨x54, h, ⟨cs51, rfl, f104⟩, ke54⟩
 obtain ⟨st114, o⟩ := o.dE ke54
 obtain ⟨a53, c53, rfl, ⟨le53, f105⟩⟩ := GR11_cur_out f104
 refine ⟨_, _, _, _, _, _, rfl, ?_⟩
 refine ⟨(ke54.mono (by simp)), ?_⟩
 refine call_then (h _ w115 (o.mo hm (by simp) (.head _)) _ (GR11_cur_in x54 ⟨le53, f105⟩) _ (GNode_in (⟨25, [], 0, 0, x.at_⟩ : GNode))) ?_
 rintro _ w116 ⟨x55, h, ⟨cs52, rfl, f106⟩, ke55⟩
 obtain ⟨st115, o⟩ := o.dE ke55
 obtain ⟨a54, c54, rfl, ⟨le54, f107⟩⟩ := GR11_cur_out f106
 refine ⟨_, _, _, _, _, _, rfl, ?_⟩
 refine ⟨o.wr 3 rfl rfl, fun w117 hw117 => ?_⟩
 obtain ⟨st116, o⟩ := o.dSs 3 hw117 rfl
 refine ⟨_, _, _, _, _, _, (o.at 3 rfl).whole, ?_⟩
 exact ⟨x55, h, ⟨_, rfl, (GR11_cur_in x55 ⟨le54, (f107.st (st116.trans Mem.endS))⟩)⟩, o.done⟩
 refine ⟨o.wr 0 rfl rfl, fun w118 hw118 => ?_⟩
 obtain ⟨st117, o⟩ := o.dS 0 hw118 rfl
 refine ⟨_, _, _, _, _, _, (o.at 0 rfl).whole, ?_⟩
 refine ⟨o.wr 3 rfl rfl, fun w119 hw119 => ?_⟩
 obtain ⟨st118, o⟩ := o.dSs 3 hw119 rfl
 refine ⟨_, _, _, _, _, _, (o.at 3 rfl).whole, ?_⟩
 exact ⟨(⟨x1.l, x1.n, x1.at_, 11⟩ : GR11_cur), h, ⟨_, rfl, (GR11_cur_in (⟨x1.l, x1.n, x1.at_, 11⟩ : GR11_cur) ⟨le, (f2.st (st7.trans (st8.trans (st9.trans (st117.trans (st118.trans Mem.endS))))))⟩)⟩, o.done⟩
def R11_decl_vwp (toks : List GToken) (atx : Int) (K : GR11_cur → Prop) : Prop :=
 V_R10_Tok toks atx (fun x =>
 V_R11_is toks atx [99, 104, 97, 110] (fun x1 =>
 cond (x1)
 (V_R11_from atx (fun x2 =>
 V_R11_cur_eat x2 toks [99, 104, 97, 110] (fun x3 =>
 V_R11_cur_name x3 toks (fun r r1 =>
 ∃ (J : (List GNode) → Int → Int → Int → Int → (List UInt8) → Int → Int → Int → Prop),
 (∃ (J1 : Bool → Prop),
 (cond (r.e_ == 0)
 (V_R11_is toks r.at_ [91] (fun x5 =>
 J1 x5))
 (J1 false)) ∧
 ∀ (x4 : Bool), J1 x4 →
 cond (x4)
 (V_R11_cur_eat r toks [91] (fun x6 =>
 V_R11_cur_size x6 toks (fun r2 r3 =>
 V_R11_cur_eat r2 toks [93] (fun x7 =>
 J x7.l x7.n x7.at_ x7.e_ 38 r1 r3 0 x.at_))))
 (J r.l r.n r.at_ r.e_ 38 r1 0 0 x.at_)) ∧
 ∀ (l : List GNode) (n : Int) (atx1 : Int) (ex : Int) (Op : Int) (Na : List UInt8) (N : Int) (Ki : Int) (At : Int), J l n atx1 ex Op Na N Ki At →
 V_R11_cur_eat (⟨l, n, atx1, ex⟩ : GR11_cur) toks [59] (fun x8 =>
 V_R11_cur_under x8 (⟨Op, Na, N, Ki, At⟩ : GNode) (fun x9 =>
 K x9))))))
 (V_R11_is toks atx [112, 114, 111, 99] (fun x10 =>
 cond (x10)
 (V_R11_from atx (fun x11 =>
 V_R11_cur_eat x11 toks [112, 114, 111, 99] (fun x12 =>
 V_R11_cur_name x12 toks (fun r4 r5 =>
 V_R11_cur_eat r4 toks [40] (fun x13 =>
 ∃ (J2 : (List GNode) → Int → Int → Int → Prop),
 (∃ (J3 : Bool → Prop),
 (cond (x13.e_ == 0)
 (V_R11_is toks x13.at_ [41] (fun x15 =>
 J3 (!x15)))
 (J3 false)) ∧
 ∀ (x14 : Bool), J3 x14 →
 cond (x14)
 (V_R11_cur_param x13 toks (fun x16 =>
 ∃ (I : (List GNode) → Int → Int → Int → Nat → Prop), (∃ n3, I x16.l x16.n x16.at_ x16.e_ n3) ∧
 ∀ (l2 : List GNode) (n2 : Int) (atx3 : Int) (ex2 : Int) (n3 : Nat), I l2 n2 atx3 ex2 n3 →
 ∃ (J4 : Bool → Prop),
 (cond (ex2 == 0)
 (V_R11_is toks atx3 [44] (fun x18 =>
 J4 x18))
 (J4 false)) ∧
 ∀ (x17 : Bool), J4 x17 →
 cond (x17)
 (V_R11_cur_eat (⟨l2, n2, atx3, ex2⟩ : GR11_cur) toks [44] (fun x19 =>
 V_R11_cur_param x19 toks (fun x20 =>
 ∃ n4, n4 < n3 ∧ I x20.l x20.n x20.at_ x20.e_ n4)))
 (J2 l2 n2 atx3 ex2)))
 (J2 x13.l x13.n x13.at_ x13.e_)) ∧
 ∀ (l1 : List GNode) (n1 : Int) (atx2 : Int) (ex1 : Int), J2 l1 n1 atx2 ex1 →
 V_R11_cur_eat (⟨l1, n1, atx2, ex1⟩ : GR11_cur) toks [41] (fun x21 =>
 V_R11_cur_in x21 toks 1 (fun x22 =>
 V_R11_cur_under x22 (⟨40, r5, 0, 0, x.at_⟩ : GNode) (fun x23 =>
 K x23))))))))
 (V_R11_from atx (fun x24 =>
 V_R11_cur_eat x24 toks [109, 97, 105, 110] (fun x25 =>
 V_R11_cur_in x25 toks 1 (fun x26 =>
 V_R11_cur_under x26 (⟨41, [], 0, 0, x.at_⟩ : GNode) (fun x27 =>
 K x27)))))))))
set_option maxHeartbeats 4000000 in
theorem R11_decl_lift (toks : List GToken) (atx : Int) (K : GR11_cur → Prop) (h : R11_decl_vwp toks atx K) : V_R11_decl toks atx K := by
 intro m w hm toksA toksC le_toks f_toks
 have o := Mem.start hm.lt
 refine R11_decl_ok toksA toks.length toksC atx _ _ ?_
 intro b w1 hb hw1
 obtain ⟨st, o⟩ := o.dB hb hw1
 refine call_then (h _ w1 (o.mo hm (by simp) (.head _)) _ _ le_toks (f_toks.st st)) ?_
 rintro _ w2 ⟨x, h, ⟨cs, rfl, f⟩, ke⟩
 obtain ⟨st1, o⟩ := o.dE ke
 obtain rfl := GToken_out f
 refine ⟨_, _, _, _, rfl, ?_⟩
 intro b1 w3 hb1 hw3
 obtain ⟨st2, o⟩ := o.dB hb1 hw3
 refine ⟨o.wr 0 rfl rfl, fun w4 hw4 => ?_⟩
 obtain ⟨st3, o⟩ := o.dSs 0 hw4 rfl
 have sT := ((st.trans st1).trans st2).trans st3
 refine call_then (h _ w4 (o.mo hm (by simp) (.head _)) _ _ le_toks (f_toks.st sT)) ?_
 rintro _ w5 ⟨x1, h, rfl, ke1⟩
 obtain ⟨st4, o⟩ := o.dE ke1
 refine ⟨_, rfl, ?_⟩
 refine cond_map (fun h => ?_) (fun h => ?_) h
 refine ⟨o.wr 0 rfl rfl, fun w6 hw6 => ?_⟩
 obtain ⟨st5, o⟩ := o.dS 0 hw6 rfl
 refine call_then (h _ w6 (o.mo hm (by simp) (.head _))) ?_
 rintro _ w7 ⟨x2, h, ⟨cs1, rfl, f1⟩, ke2⟩
 obtain ⟨st6, o⟩ := o.dE ke2
 obtain ⟨a, c, rfl, ⟨le, f2⟩⟩ := GR11_cur_out f1
 refine ⟨_, _, _, _, _, _, rfl, ?_⟩
 have sT1 := ((sT.trans st4).trans st5).trans st6
 refine call_then (h _ w7 (o.mo hm (by simp) (.head _)) _ (GR11_cur_in x2 ⟨le, f2⟩) _ _ le_toks (f_toks.st sT1)) ?_
 rintro _ w8 ⟨x3, h, ⟨cs2, rfl, f3⟩, ke3⟩
 obtain ⟨st7, o⟩ := o.dE ke3
 obtain ⟨a1, c1, rfl, ⟨le1, f4⟩⟩ := GR11_cur_out f3
 refine ⟨_, _, _, _, _, _, rfl, ?_⟩
 have sT2 := sT1.trans st7
 refine call_then (h _ w8 (o.mo hm (by simp) (.head _)) _ (GR11_cur_in x3 ⟨le1, f4⟩) _ _ le_toks (f_toks.st sT2)) ?_
 rintro _ w9 ⟨r, r1, h, ⟨cs3, rfl, f5⟩, ke4⟩
 obtain ⟨st8, o⟩ := o.dE ke4
 obtain ⟨a2, c2, rfl, ⟨le2, f6⟩⟩ := GR11_cur_out f5
 refine ⟨_, _, _, _, _, _, _, rfl, ?_⟩
 intro b2 w10 hb2 hw10
 obtain ⟨st9, o⟩ := o.dB hb2 hw10
 refine ⟨o.wr 0 rfl rfl, fun w11 hw11 => ?_⟩
 obtain ⟨st10, o⟩ := o.dSs 0 hw11 rfl
 refine ⟨o.wr 1 rfl rfl, fun w12 hw12 => ?_⟩
 obtain ⟨st11, o⟩ := o.dS 1 hw12 rfl
 obtain ⟨J, h, h2⟩ := h
 refine ⟨fun w13 => ∃ (l : List GNode) (n : Int) (atx1 : Int) (ex : Int) (Op : Int) (Na : List UInt8) (N : Int) (Ki : Int) (At : Int) (a3 : Option Addr) (c3 : Nat), J l n atx1 ex Op Na N Ki At ∧ (l.length ≤ c3 ∧ SlR cGNode (ms [.box b2 [.slice a3 l.length c3, .q n, .q atx1, .q ex], .box b1 [.q Op, .s Na, .q N, .q Ki, .q At], .box b [.slice none 0 0, .q 0, .q 0, .q 0]] m) w13 a3 l) ∧ Mem w.heap.size [] m [([], w.heap.size, w)] [] w13 [.box b2 [.slice a3 l.length c3, .q n, .q atx1, .q ex], .box b1 [.q Op, .s Na, .q N, .q Ki, .q At], .box b [.slice none 0 0, .q 0, .q 0, .q 0]] ∧ Step (ms [.box b2 [.slice a2 r.l.length c2, .q r.n, .q r.at_, .q r.e_], .box b1 [.q 38, .s r1, .q 0, .q 0, .q x.at_], .box b [.slice none 0 0, .q 0, .q 0, .q 0]] m) w12 (ms [.box b2 [.slice a3 l.length c3, .q n, .q atx1, .q ex], .box b1 [.q Op, .s Na, .q N, .q Ki, .q At], .box b [.slice none 0 0, .q 0, .q 0, .q 0]] m) w13, ?_, ?_⟩
 obtain ⟨J1, h, h2⟩ := h
 refine ⟨fun x4 w14 => J1 x4 ∧ Mem w.heap.size [] m [([], w.heap.size, w)] [] w14 [.box b2 [.slice a2 r.l.length c2, .q r.n, .q r.at_, .q r.e_], .box b1 [.q 38, .s r1, .q 0, .q 0, .q x.at_], .box b [.slice none 0 0, .q 0, .q 0, .q 0]] ∧ Step (ms [.box b2 [.slice a2 r.l.length c2, .q r.n, .q r.at_, .q r.e_], .box b1 [.q 38, .s r1, .q 0, .q 0, .q x.at_], .box b [.slice none 0 0, .q 0, .q 0, .q 0]] m) w12 (ms [.box b2 [.slice a2 r.l.length c2, .q r.n, .q r.at_, .q r.e_], .box b1 [.q 38, .s r1, .q 0, .q 0, .q x.at_], .box b [.slice none 0 0, .q 0, .q 0, .q 0]] m) w14, ?_, ?_⟩
 refine ⟨_, (o.at 0 rfl).cell rfl, ?_⟩
 refine cond_map (fun h => ?_) (fun h => ?_) h
 refine ⟨_, (o.at 0 rfl).cell rfl, ?_⟩
 have sT3 := (((sT2.trans st8).trans st9).trans st10).trans st11
 refine call_then (h _ w12 (o.mo hm (by simp) (.head _)) _ _ le_toks (f_toks.st sT3)) ?_
 rintro _ w15 ⟨x5, h, rfl, ke5⟩
 obtain ⟨st14, o⟩ := o.dE ke5
 refine ⟨_, rfl, ?_⟩
 exact ⟨h, o, st14⟩
 exact ⟨h, o, Step.refl _ _⟩
 rintro _ x4 w14 ⟨hJ, o, st13⟩
 have h := h2 x4 hJ
 refine cond_map (fun h => ?_) (fun h => ?_) h
 refine ⟨_, _, _, _, _, _, (o.at 0 rfl).whole, ?_⟩
 have sT4 := ((st9.trans st10).trans st11).trans st13
 have sT5 := ((((sT2.trans st8).trans st9).trans st10).trans st11).trans st13
 refine call_then (h _ w14 (o.mo hm (by simp) (.head _)) _ (GR11_cur_in r ⟨le2, (f6.st sT4)⟩) _ _ le_toks (f_toks.st sT5)) ?_
 rintro _ w16 ⟨x6, h, ⟨cs4, rfl, f8⟩, ke6⟩
 obtain ⟨st15, o⟩ := o.dE ke6
 obtain ⟨a4, c4, rfl, ⟨le4, f9⟩⟩ := GR11_cur_out f8
 refine ⟨_, _, _, _, _, _, rfl, ?_⟩
 have sT6 := sT5.trans st15
 refine call_then (h _ w16 (o.mo hm (by simp) (.head _)) _ (GR11_cur_in x6 ⟨le4, f9⟩) _ _ le_toks (f_toks.st sT6)) ?_
 rintro _ w17 ⟨r2, r3, h, ⟨cs5, rfl, f10⟩, ke7⟩
 obtain ⟨st16, o⟩ := o.dE ke7
 obtain ⟨a5, c5, rfl, ⟨le5, f11⟩⟩ := GR11_cur_out f10
 refine ⟨_, _, _, _, _, _, _, rfl, ?_⟩
 refine ⟨o.wr 0 rfl rfl, fun w18 hw18 => ?_⟩
 obtain ⟨st17, o⟩ := o.dSs 0 hw18 rfl
 refine ⟨o.wr 1 rfl rfl, fun w19 hw19 => ?_⟩
 obtain ⟨st18, o⟩ := o.dS 1 hw19 rfl
 refine ⟨_, _, _, _, _, _, (o.at 0 rfl).whole, ?_⟩
 have sT7 := ((sT6.trans st16).trans st17).trans st18
 refine call_then (h _ w19 (o.mo hm (by simp) (.head _)) _ (GR11_cur_in r2 ⟨le5, (f11.st (st17.trans st18))⟩) _ _ le_toks (f_toks.st sT7)) ?_
 rintro _ w20 ⟨x7, h, ⟨cs6, rfl, f12⟩, ke8⟩
 obtain ⟨st19, o⟩ := o.dE ke8
 obtain ⟨a6, c6, rfl, ⟨le6, f13⟩⟩ := GR11_cur_out f12
 refine ⟨_, _, _, _, _, _, rfl, ?_⟩
 refine ⟨o.wr 0 rfl rfl, fun w21 hw21 => ?_⟩
 obtain ⟨st20, o⟩ := o.dSs 0 hw21 rfl
 have sT8 := (((((st13.trans st15).trans st16).trans st17).trans st18).trans st19).trans st20
 exact ⟨x7.l, x7.n, x7.at_, x7.e_, 38, r1, r3, 0, x.at_, a6, c6, h, ⟨le6, (f13.st st20)⟩, o, sT8⟩
 have sT9 := ((st9.trans st10).trans st11).trans st13
 exact ⟨r.l, r.n, r.at_, r.e_, 38, r1, 0, 0, x.at_, a2, c2, h, ⟨le2, (f6.st sT9)⟩, o, st13⟩
 rintro _ w13 ⟨l, n, atx1, ex, Op, Na, N, Ki, At, a3, c3, hJ, ⟨le3, f7⟩, o, st12⟩
 have h := h2 l n atx1 ex Op Na N Ki At hJ
 intro w22 hw22
 obtain ⟨st21, o⟩ := o.dD hw22
 have ox := o
 refine ⟨fun u => Keep [] w22 u, Keep.refl _ _, ?_⟩
 refine ⟨_, _, _, _, _, _, fun u hu => ((ox.at 0 rfl).keep hu (by simp)).whole, ?_⟩
 refine ⟨_, _, _, _, _, fun u hu => ((ox.at 1 rfl).keep hu (by simp)).whole, ?_⟩
 have sT10 := (((((sT2.trans st8).trans st9).trans st10).trans st11).trans st12).trans st21
 refine call_then (h _ w22 (o.mo hm (by simp) (.head _)) _ (GR11_cur_in (⟨l, n, atx1, ex⟩ : GR11_cur) ⟨le3, (f7.st st21)⟩) _ _ le_toks (f_toks.st sT10)) ?_
 rintro _ w23 ⟨x8, h, ⟨cs7, rfl, f14⟩, ke9⟩
 obtain ⟨st22, o⟩ := o.dE ke9
 obtain ⟨a7, c7, rfl, ⟨le7, f15⟩⟩ := GR11_cur_out f14
 refine ⟨_, _, _, _, _, _, rfl, ?_⟩
 refine ⟨(ke9.mono (by simp)), ?_⟩
 refine call_then (h _ w23 (o.mo hm (by simp) (.head _)) _ (GR11_cur_in x8 ⟨le7, f15⟩) _ (GNode_in (⟨Op, Na, N, Ki, At⟩ : GNode))) ?_
 rintro _ w24 ⟨x9, h, ⟨cs8, rfl, f16⟩, ke10⟩
 obtain ⟨st23, o⟩ := o.dE ke10
 obtain ⟨a8, c8, rfl, ⟨le8, f17⟩⟩ := GR11_cur_out f16
 refine ⟨_, _, _, _, _, _, rfl, ?_⟩
 refine ⟨o.wr 2 rfl rfl, fun w25 hw25 => ?_⟩
 obtain ⟨st24, o⟩ := o.dSs 2 hw25 rfl
 refine ⟨_, _, _, _, _, _, (o.at 2 rfl).whole, ?_⟩
 exact ⟨x9, h, ⟨_, rfl, (GR11_cur_in x9 ⟨le8, (f17.st (st24.trans Mem.endS))⟩)⟩, o.done⟩
 have sT11 := sT.trans st4
 refine call_then (h _ w5 (o.mo hm (by simp) (.head _)) _ _ le_toks (f_toks.st sT11)) ?_
 rintro _ w26 ⟨x10, h, rfl, ke11⟩
 obtain ⟨st25, o⟩ := o.dE ke11
 refine ⟨_, rfl, ?_⟩
 refine cond_map (fun h => ?_) (fun h => ?_) h
 refine ⟨o.wr 0 rfl rfl, fun w27 hw27 => ?_⟩
 obtain ⟨st26, o⟩ := o.dS 0 hw27 rfl
 refine call_then (h _ w27 (o.mo hm (by simp) (.head _))) ?_
 rintro _ w28 ⟨x11, h, ⟨cs9, rfl, f18⟩, ke12⟩
 obtain ⟨st27, o⟩ := o.dE ke12
 obtain ⟨a9, c9, rfl, ⟨le9, f19⟩⟩ := GR11_cur_out f18
 refine ⟨_, _, _, _, _, _, rfl, ?_⟩
 have sT12 := ((sT11.trans st25).trans st26).trans st27
 refine call_then (h _ w28 (o.mo hm (by simp) (.head _)) _ (GR11_cur_in x11 ⟨le9, f19⟩) _ _ le_toks (f_toks.st sT12)) ?_
 rintro _ w29 ⟨x12, h, ⟨cs10, rfl, f20⟩, ke13⟩
 obtain ⟨st28, o⟩ := o.dE ke13
 obtain ⟨a10, c10, rfl, ⟨le10, f21⟩⟩ := GR11_cur_out f20
 refine ⟨_, _, _, _, _, _, rfl, ?_⟩
 have sT13 := sT12.trans st28
 refine call_then (h _ w29 (o.mo hm (by simp) (.head _)) _ (GR11_cur_in x12 ⟨le10, f21⟩) _ _ le_toks (f_toks.st sT13)) ?_
 rintro _ w30 ⟨r4, r5, h, ⟨cs11, rfl, f22⟩, ke14⟩
 obtain ⟨st29, o⟩ := o.dE ke14
 obtain ⟨a11, c11, rfl, ⟨le11, f23⟩⟩ := GR11_cur_out f22
 refine ⟨_, _, _, _, _, _, _, rfl, ?_⟩
 intro b3 w31 hb3 hw31
 obtain ⟨st30, o⟩ := o.dB hb3 hw31
 refine ⟨o.wr 0 rfl rfl, fun w32 hw32 => ?_⟩
 obtain ⟨st31, o⟩ := o.dSs 0 hw32 rfl
 refine ⟨o.wr 1 rfl rfl, fun w33 hw33 => ?_⟩
 obtain ⟨st32, o⟩ := o.dS 1 hw33 rfl
 refine ⟨_, _, _, _, _, _, (o.at 0 rfl).whole, ?_⟩
 have sT14 := (st30.trans st31).trans st32
 have sT15 := (((sT13.trans st29).trans st30).trans st31).trans st32
 refine call_then (h _ w33 (o.mo hm (by simp) (.head _)) _ (GR11_cur_in r4 ⟨le11, (f23.st sT14)⟩) _ _ le_toks (f_toks.st sT15)) ?_
 rintro _ w34 ⟨x13, h, ⟨cs12, rfl, f24⟩, ke15⟩
 obtain ⟨st33, o⟩ := o.dE ke15
 obtain ⟨a12, c12, rfl, ⟨le12, f25⟩⟩ := GR11_cur_out f24
 refine ⟨_, _, _, _, _, _, rfl, ?_⟩
 refine ⟨o.wr 0 rfl rfl, fun w35 hw35 => ?_⟩
 obtain ⟨st34, o⟩ := o.dSs 0 hw35 rfl
 obtain ⟨J2, h, h2⟩ := h
 refine ⟨fun w36 => ∃ (l1 : List GNode) (n1 : Int) (atx2 : Int) (ex1 : Int) (a13 : Option Addr) (c13 : Nat), J2 l1 n1 atx2 ex1 ∧ (l1.length ≤ c13 ∧ SlR cGNode (ms [.box b3 [.slice a13 l1.length c13, .q n1, .q atx2, .q ex1], .box b1 [.q 40, .s r5, .q 0, .q 0, .q x.at_], .box b [.slice none 0 0, .q 0, .q 0, .q 0]] m) w36 a13 l1) ∧ Mem w.heap.size [] m [([], w.heap.size, w)] [] w36 [.box b3 [.slice a13 l1.length c13, .q n1, .q atx2, .q ex1], .box b1 [.q 40, .s r5, .q 0, .q 0, .q x.at_], .box b [.slice none 0 0, .q 0, .q 0, .q 0]] ∧ Step (ms [.box b3 [.slice a12 x13.l.length c12, .q x13.n, .q x13.at_, .q x13.e_], .box b1 [.q 40, .s r5, .q 0, .q 0, .q x.at_], .box b [.slice none 0 0, .q 0, .q 0, .q 0]] m) w35 (ms [.box b3 [.slice a13 l1.length c13, .q n1, .q atx2, .q ex1], .box b1 [.q 40, .s r5, .q 0, .q 0, .q x.at_], .box b [.slice none 0 0, .q 0, .q 0, .q 0]] m) w36, ?_, ?_⟩
 obtain ⟨J3, h, h2⟩ := h
 refine ⟨fun x14 w37 => J3 x14 ∧ Mem w.heap.size [] m [([], w.heap.size, w)] [] w37 [.box b3 [.slice a12 x13.l.length c12, .q x13.n, .q x13.at_, .q x13.e_], .box b1 [.q 40, .s r5, .q 0, .q 0, .q x.at_], .box b [.slice none 0 0, .q 0, .q 0, .q 0]] ∧ Step (ms [.box b3 [.slice a12 x13.l.length c12, .q x13.n, .q x13.at_, .q x13.e_], .box b1 [.q 40, .s r5, .q 0, .q 0, .q x.at_], .box b [.slice none 0 0, .q 0, .q 0, .q 0]] m) w35 (ms [.box b3 [.slice a12 x13.l.length c12, .q x13.n, .q x13.at_, .q x13.e_], .box b1 [.q 40, .s r5, .q 0, .q 0, .q x.at_], .box b [.slice none 0 0, .q 0, .q 0, .q 0]] m) w37, ?_, ?_⟩
 refine ⟨_, (o.at 0 rfl).cell rfl, ?_⟩
 refine cond_map (fun h => ?_) (fun h => ?_) h
 refine ⟨_, (o.at 0 rfl).cell rfl, ?_⟩
 have sT16 := (sT15.trans st33).trans st34
 refine call_then (h _ w35 (o.mo hm (by simp) (.head _)) _ _ le_toks (f_toks.st sT16)) ?_
 rintro _ w38 ⟨x15, h, rfl, ke16⟩
 obtain ⟨st37, o⟩ := o.dE ke16
 refine ⟨_, rfl, ?_⟩
 exact ⟨h, o, st37⟩
 exact ⟨h, o, Step.refl _ _⟩
 rintro _ x14 w37 ⟨hJ, o, st36⟩
 have h := h2 x14 hJ
 refine cond_map (fun h => ?_) (fun h => ?_) h
 refine ⟨_, _, _, _, _, _, (o.at 0 rfl).whole, ?_⟩
 have sT17 := ((sT15.trans st33).trans st34).trans st36
 refine call_then (h _ w37 (o.mo hm (by simp) (.head _)) _ (GR11_cur_in x13 ⟨le12, (f25.st (st34.trans st36))⟩) _ _ le_toks (f_toks.st sT17)) ?_
 rintro _ w39 ⟨x16, h, ⟨cs13, rfl, f27⟩, ke17⟩
 obtain ⟨st38, o⟩ := o.dE ke17
 obtain ⟨a14, c14, rfl, ⟨le14, f28⟩⟩ := GR11_cur_out f27
 refine ⟨_, _, _, _, _, _, rfl, ?_⟩
 refine ⟨o.wr 0 rfl rfl, fun w40 hw40 => ?_⟩
 obtain ⟨st39, o⟩ := o.dSs 0 hw40 rfl
 obtain ⟨I, ⟨n5, h⟩, h2⟩ := h
 obtain ⟨Z, hZ⟩ : ∃ Z : World → Nat → Prop, Z = fun w41 n3 => ∃ (l2 : List GNode) (n2 : Int) (atx3 : Int) (ex2 : Int) (a15 : Option Addr) (c15 : Nat), I l2 n2 atx3 ex2 n3 ∧ (l2.length ≤ c15 ∧ SlR cGNode (ms [.box b3 [.slice a15 l2.length c15, .q n2, .q atx3, .q ex2], .box b1 [.q 40, .s r5, .q 0, .q 0, .q x.at_], .box b [.slice none 0 0, .q 0, .q 0, .q 0]] m) w41 a15 l2) ∧ Mem w.heap.size [] m [([], w.heap.size, w)] [] w41 [.box b3 [.slice a15 l2.length c15, .q n2, .q atx3, .q ex2], .box b1 [.q 40, .s r5, .q 0, .q 0, .q x.at_], .box b [.slice none 0 0, .q 0, .q 0, .q 0]] ∧ Step (ms [.box b3 [.slice a14 x16.l.length c14, .q x16.n, .q x16.at_, .q x16.e_], .box b1 [.q 40, .s r5, .q 0, .q 0, .q x.at_], .box b [.slice none 0 0, .q 0, .q 0, .q 0]] m) w40 (ms [.box b3 [.slice a15 l2.length c15, .q n2, .q atx3, .q ex2], .box b1 [.q 40, .s r5, .q 0, .q 0, .q x.at_], .box b [.slice none 0 0, .q 0, .q 0, .q 0]] m) w41 := ⟨_, rfl⟩
 refine ⟨fun w41 => ∃ n3, Z w41 n3, fun w41 => leastN (Z w41), ⟨n5, ?_⟩, ?_⟩
 rw [hZ]; exact ⟨x16.l, x16.n, x16.at_, x16.e_, a14, c14, h, ⟨le14, (f28.st st39)⟩, o, Step.refl _ _⟩
 intro _ w41 hIZ
 obtain ⟨n3, hnn3⟩ : ∃ n3, n3 = leastN (Z w41) := ⟨_, rfl⟩
 have hIZ := leastN_at hIZ
 rw [← hnn3, hZ] at hIZ
 obtain ⟨l2, n2, atx3, ex2, a15, c15, h, ⟨le15, f29⟩, o, st40⟩ := hIZ
 have h := h2 l2 n2 atx3 ex2 n3 h
 obtain ⟨J4, h, h2⟩ := h
 refine ⟨fun x17 w42 => J4 x17 ∧ Mem w.heap.size [] m [([], w.heap.size, w)] [] w42 [.box b3 [.slice a15 l2.length c15, .q n2, .q atx3, .q ex2], .box b1 [.q 40, .s r5, .q 0, .q 0, .q x.at_], .box b [.slice none 0 0, .q 0, .q 0, .q 0]] ∧ Step (ms [.box b3 [.slice a15 l2.length c15, .q n2, .q atx3, .q ex2], .box b1 [.q 40, .s r5, .q 0, .q 0, .q x.at_], .box b [.slice none 0 0, .q 0, .q 0, .q 0]] m) w41 (ms [.box b3 [.slice a15 l2.length c15, .q n2, .q atx3, .q ex2], .box b1 [.q 40, .s r5, .q 0, .q 0, .q x.at_], .box b [.slice none 0 0, .q 0, .q 0, .q 0]] m) w42, ?_, ?_⟩
 refine ⟨_, (o.at 0 rfl).cell rfl, ?_⟩
 refine cond_map (fun h => ?_) (fun h => ?_) h
 refine ⟨_, (o.at 0 rfl).cell rfl, ?_⟩
 have sT18 := ((sT17.trans st38).trans st39).trans st40
 refine call_then (h _ w41 (o.mo hm (by simp) (.head _)) _ _ le_toks (f_toks.st sT18)) ?_
 rintro _ w43 ⟨x18, h, rfl, ke18⟩
 obtain ⟨st42, o⟩ := o.dE ke18
 refine ⟨_, rfl, ?_⟩
 exact ⟨h, o, st42⟩
 exact ⟨h, o, Step.refl _ _⟩
 rintro _ x17 w42 ⟨hJ, o, st41⟩
 have h := h2 x17 hJ
 refine cond_map (fun h => ?_) (fun h => ?_) h
 refine ⟨_, _, _, _, _, _, (o.at 0 rfl).whole, ?_⟩
 have sT19 := (((sT17.trans st38).trans st39).trans st40).trans st41
 refine call_then (h _ w42 (o.mo hm (by simp) (.head _)) _ (GR11_cur_in (⟨l2, n2, atx3, ex2⟩ : GR11_cur) ⟨le15, (f29.st st41)⟩) _ _ le_toks (f_toks.st sT19)) ?_
 rintro _ w44 ⟨x19, h, ⟨cs14, rfl, f30⟩, ke19⟩
 obtain ⟨st43, o⟩ := o.dE ke19
 obtain ⟨a16, c16, rfl, ⟨le16, f31⟩⟩ := GR11_cur_out f30
 refine ⟨_, _, _, _, _, _, rfl, ?_⟩
 have sT20 := sT19.trans st43
 refine call_then (h _ w44 (o.mo hm (by simp) (.head _)) _ (GR11_cur_in x19 ⟨le16, f31⟩) _ _ le_toks (f_toks.st sT20)) ?_
 rintro _ w45 ⟨x20, h, ⟨cs15, rfl, f32⟩, ke20⟩
 obtain ⟨st44, o⟩ := o.dE ke20
 obtain ⟨a17, c17, rfl, ⟨le17, f33⟩⟩ := GR11_cur_out f32
 refine ⟨_, _, _, _, _, _, rfl, ?_⟩
 refine ⟨o.wr 0 rfl rfl, fun w46 hw46 => ?_⟩
 obtain ⟨st45, o⟩ := o.dSs 0 hw46 rfl
 obtain ⟨n4, hl, h⟩ := h
 have sT21 := (((st40.trans st41).trans st43).trans st44).trans st45
 exact loop_again hnn3 (show Z w46 n4 from (by rw [hZ]; exact ⟨x20.l, x20.n, x20.at_, x20.e_, a17, c17, h, ⟨le17, (f33.st st45)⟩, o, sT21⟩)) hl
 have sT22 := (((st36.trans st38).trans st39).trans st40).trans st41
 exact ⟨l2, n2, atx3, ex2, a15, c15, h, ⟨le15, (f29.st st41)⟩, o, sT22⟩
 exact ⟨x13.l, x13.n, x13.at_, x13.e_, a12, c12, h, ⟨le12, (f25.st (st34.trans st36))⟩, o, st36⟩
 rintro _ w36 ⟨l1, n1, atx2, ex1, a13, c13, hJ, ⟨le13, f26⟩, o, st35⟩
 have h := h2 l1 n1 atx2 ex1 hJ
 intro w47 hw47
 obtain ⟨st46, o⟩ := o.dD hw47
 have ox1 := o
 refine ⟨fun u => Keep [] w47 u, Keep.refl _ _, ?_⟩
 refine ⟨_, _, _, _, _, _, fun u hu => ((ox1.at 0 rfl).keep hu (by simp)).whole, ?_⟩
 refine ⟨_, _, _, _, _, fun u hu => ((ox1.at 1 rfl).keep hu (by simp)).whole, ?_⟩
 have sT23 := (((sT15.trans st33).trans st34).trans st35).trans st46
 refine call_then (h _ w47 (o.mo hm (by simp) (.head _)) _ (GR11_cur_in (⟨l1, n1, atx2, ex1⟩ : GR11_cur) ⟨le13, (f26.st st46)⟩) _ _ le_toks (f_toks.st sT23)) ?_
 rintro _ w48 ⟨x21, h, ⟨cs16, rfl, f34⟩, ke21⟩
 obtain ⟨st47, o⟩ := o.dE ke21
 obtain ⟨a18, c18, rfl, ⟨le18, f35⟩⟩ := GR11_cur_out f34
 refine ⟨_, _, _, _, _, _, rfl, ?_⟩
 refine ⟨(ke21.mono (by simp)), ?_⟩
 have sT24 := sT23.trans st47
 refine call_then (h _ w48 (o.mo hm (by simp) (.head _)) _ (GR11_cur_in x21 ⟨le18, f35⟩) _ _ le_toks (f_toks.st sT24)) ?_
 rintro _ w49 ⟨x22, h, ⟨cs17, rfl, f36⟩, ke22⟩
 obtain ⟨st48, o⟩ := o.dE ke22
 obtain ⟨a19, c19, rfl, ⟨le19, f37⟩⟩ := GR11_cur_out f36
 refine ⟨_, _, _, _, _, _, rfl, ?_⟩
 refine ⟨((ke21.mono (by simp)).trans (ke22.mono (by simp))), ?_⟩
 refine call_then (h _ w49 (o.mo hm (by simp) (.head _)) _ (GR11_cur_in x22 ⟨le19, f37⟩) _ (GNode_in (⟨40, r5, 0, 0, x.at_⟩ : GNode))) ?_
 rintro _ w50 ⟨x23, h, ⟨cs18, rfl, f38⟩, ke23⟩
 obtain ⟨st49, o⟩ := o.dE ke23
 obtain ⟨a20, c20, rfl, ⟨le20, f39⟩⟩ := GR11_cur_out f38
 refine ⟨_, _, _, _, _, _, rfl, ?_⟩
 refine ⟨o.wr 2 rfl rfl, fun w51 hw51 => ?_⟩
 obtain ⟨st50, o⟩ := o.dSs 2 hw51 rfl
 refine ⟨_, _, _, _, _, _, (o.at 2 rfl).whole, ?_⟩
 exact ⟨x23, h, ⟨_, rfl, (GR11_cur_in x23 ⟨le20, (f39.st (st50.trans Mem.endS))⟩)⟩, o.done⟩
 refine ⟨o.wr 0 rfl rfl, fun w52 hw52 => ?_⟩
 obtain ⟨st51, o⟩ := o.dS 0 hw52 rfl
 intro w53 hw53
 obtain ⟨st52, o⟩ := o.dD hw53
 have ox2 := o
 refine ⟨fun u => Keep [] w53 u, Keep.refl _ _, ?_⟩
 refine ⟨_, _, _, _, _, fun u hu => ((ox2.at 0 rfl).keep hu (by simp)).whole, ?_⟩
 refine call_then (h _ w53 (o.mo hm (by simp) (.head _))) ?_
 rintro _ w54 ⟨x24, h, ⟨cs19, rfl, f40⟩, ke24⟩
 obtain ⟨st53, o⟩ := o.dE ke24
 obtain ⟨a21, c21, rfl, ⟨le21, f41⟩⟩ := GR11_cur_out f40
 refine ⟨_, _, _, _, _, _, rfl, ?_⟩
 refine ⟨(ke24.mono (by simp)), ?_⟩
 have sT25 := (((sT11.trans st25).trans st51).trans st52).trans st53
 refine call_then (h _ w54 (o.mo hm (by simp) (.head _)) _ (GR11_cur_in x24 ⟨le21, f41⟩) _ _ le_toks (f_toks.st sT25)) ?_
 rintro _ w55 ⟨x25, h, ⟨cs20, rfl, f42⟩, ke25⟩
 obtain ⟨st54, o⟩ := o.dE ke25
 obtain ⟨a22, c22, rfl, ⟨le22, f43⟩⟩ := GR11_cur_out f42
 refine ⟨_, _, _, _, _, _, rfl, ?_⟩
 refine ⟨((ke24.mono (by simp)).trans (ke25.mono (by simp))), ?_⟩
 have sT26 := sT25.trans st54
 refine call_then (h _ w55 (o.mo hm (by simp) (.head _)) _ (GR11_cur_in x25 ⟨le22, f43⟩) _ _ le_toks (f_toks.st sT26)) ?_
 rintro _ w56 ⟨x26, h, ⟨cs21, rfl, f44⟩, ke26⟩
 obtain ⟨st55, o⟩ := o.dE ke26
 obtain ⟨a23, c23, rfl, ⟨le23, f45⟩⟩ := GR11_cur_out f44
 refine ⟨_, _, _, _, _, _, rfl, ?_⟩
 refine ⟨(((ke24.mono (by simp)).trans (ke25.mono (by simp))).trans (ke26.mono (by simp))), ?_⟩
 refine call_then (h _ w56 (o.mo hm (by simp) (.head _)) _ (GR11_cur_in x26 ⟨le23, f45⟩) _ (GNode_in (⟨41, [], 0, 0, x.at_⟩ : GNode))) ?_
 rintro _ w57 ⟨x27, h, ⟨cs22, rfl, f46⟩, ke27⟩
 obtain ⟨st56, o⟩ := o.dE ke27
 obtain ⟨a24, c24, rfl, ⟨le24, f47⟩⟩ := GR11_cur_out f46
 refine ⟨_, _, _, _, _, _, rfl, ?_⟩
 refine ⟨o.wr 1 rfl rfl, fun w58 hw58 => ?_⟩
 obtain ⟨st57, o⟩ := o.dSs 1 hw58 rfl
 refine ⟨_, _, _, _, _, _, (o.at 1 rfl).whole, ?_⟩
 exact ⟨x27, h, ⟨_, rfl, (GR11_cur_in x27 ⟨le24, (f47.st (st57.trans Mem.endS))⟩)⟩, o.done⟩
def R11_Unit_vwp (toks : List GToken) (K : GR10_Got → Prop) : Prop :=
 V_R11_from 0 (fun x =>
 ∃ (I : (List GNode) → Int → Int → Int → Nat → Prop), (∃ n1, I x.l x.n x.at_ x.e_ n1) ∧
 ∀ (l : List GNode) (n : Int) (atx : Int) (ex : Int) (n1 : Nat), I l n atx ex n1 →
 ∃ (J : Bool → Prop),
 (cond (ex == 0)
 (V_R10_Tok toks atx (fun x2 =>
 J (x2.kind != 0)))
 (J false)) ∧
 ∀ (x1 : Bool), J x1 →
 cond (x1)
 (V_R11_decl toks atx (fun x3 =>
 V_R11_cur_add (⟨l, n, atx, ex⟩ : GR11_cur) x3 (fun x4 =>
 ∃ n2, n2 < n1 ∧ I x4.l x4.n x4.at_ x4.e_ n2)))
 (cond (ex != 0)
 (K (⟨[], atx, ex⟩ : GR10_Got))
 (V_R11_cur_under (⟨l, n, atx, ex⟩ : GR11_cur) (⟨42, [], 0, 0, 0⟩ : GNode) (fun x5 =>
 K (⟨x5.l, 0, 0⟩ : GR10_Got)))))
theorem R11_Unit_lift (toks : List GToken) (K : GR10_Got → Prop) (h : R11_Unit_vwp toks K) : V_R11_Unit toks K := by
 intro m w hm toksA toksC le_toks f_toks
 have o := Mem.start hm.lt
 refine R11_Unit_ok toksA toks.length toksC _ _ ?_
 intro b w1 hb hw1
 obtain ⟨st, o⟩ := o.dB hb hw1
 refine call_then (h _ w1 (o.mo hm (by simp) (.head _))) ?_
 rintro _ w2 ⟨x, h, ⟨cs, rfl, f⟩, ke⟩
 obtain ⟨st1, o⟩ := o.dE ke
 obtain ⟨a, c, rfl, ⟨le, f1⟩⟩ := GR11_cur_out f
 refine ⟨_, _, _, _, _, _, rfl, ?_⟩
 intro b1 w3 hb1 hw3
 obtain ⟨st2, o⟩ := o.dB hb1 hw3
 refine ⟨o.wr 0 rfl rfl, fun w4 hw4 => ?_⟩
 obtain ⟨st3, o⟩ := o.dSs 0 hw4 rfl
 obtain ⟨I, ⟨n3, h⟩, h2⟩ := h
 obtain ⟨Z, hZ⟩ : ∃ Z : World → Nat → Prop, Z = fun w5 n1 => ∃ (l : List GNode) (n : Int) (atx : Int) (ex : Int) (a1 : Option Addr) (c1 : Nat), I l n atx ex n1 ∧ (l.length ≤ c1 ∧ SlR cGNode (ms [.box b1 [.slice a1 l.length c1, .q n, .q atx, .q ex], .box b [.slice none 0 0, .q 0, .q 0]] m) w5 a1 l) ∧ Mem w.heap.size [] m [([], w.heap.size, w)] [] w5 [.box b1 [.slice a1 l.length c1, .q n, .q atx, .q ex], .box b [.slice none 0 0, .q 0, .q 0]] ∧ Step (ms [.box b1 [.slice a x.l.length c, .q x.n, .q x.at_, .q x.e_], .box b [.slice none 0 0, .q 0, .q 0]] m) w4 (ms [.box b1 [.slice a1 l.length c1, .q n, .q atx, .q ex], .box b [.slice none 0 0, .q 0, .q 0]] m) w5 := ⟨_, rfl⟩
 refine ⟨fun w5 => ∃ n1, Z w5 n1, fun w5 => leastN (Z w5), ⟨n3, ?_⟩, ?_⟩
 rw [hZ]; exact ⟨x.l, x.n, x.at_, x.e_, a, c, h, ⟨le, (f1.st (st2.trans st3))⟩, o, Step.refl _ _⟩
 intro _ w5 hIZ
 obtain ⟨n1, hnn1⟩ : ∃ n1, n1 = leastN (Z w5) := ⟨_, rfl⟩
 have hIZ := leastN_at hIZ
 rw [← hnn1, hZ] at hIZ
 obtain ⟨l, n, atx, ex, a1, c1, h, ⟨le1, f2⟩, o, st4⟩ := hIZ
 have h := h2 l n atx ex n1 h
 obtain ⟨J, h, h2⟩ := h
 refine ⟨fun x1 w6 => J x1 ∧ Mem w.heap.size [] m [([], w.heap.size, w)] [] w6 [.box b1 [.slice a1 l.length c1, .q n, .q atx, .q ex], .box b [.slice none 0 0, .q 0, .q 0]] ∧ Step (ms [.box b1 [.slice a1 l.length c1, .q n, .q atx, .q ex], .box b [.slice none 0 0, .q 0, .q 0]] m) w5 (ms [.box b1 [.slice a1 l.length c1, .q n, .q atx, .q ex], .box b [.slice none 0 0, .q 0, .q 0]] m) w6, ?_, ?_⟩
 refine ⟨_, (o.at 0 rfl).cell rfl, ?_⟩
 refine cond_map (fun h => ?_) (fun h => ?_) h
 refine ⟨_, (o.at 0 rfl).cell rfl, ?_⟩
 have sT := (((st.trans st1).trans st2).trans st3).trans st4
 refine call_then (h _ w5 (o.mo hm (by simp) (.head _)) _ _ le_toks (f_toks.st sT)) ?_
 rintro _ w7 ⟨x2, h, ⟨cs1, rfl, f3⟩, ke1⟩
 obtain ⟨st6, o⟩ := o.dE ke1
 obtain rfl := GToken_out f3
 refine ⟨_, _, _, _, rfl, ?_⟩
 exact ⟨h, o, st6⟩
 exact ⟨h, o, Step.refl _ _⟩
 rintro _ x1 w6 ⟨hJ, o, st5⟩
 have h := h2 x1 hJ
 refine cond_map (fun h => ?_) (fun h => ?_) h
 intro w8 hw8
 obtain ⟨st7, o⟩ := o.dD hw8
 have ox := o
 refine ⟨fun u => Keep [] w8 u, Keep.refl _ _, ?_⟩
 refine ⟨_, _, _, _, _, _, fun u hu => ((ox.at 0 rfl).keep hu (by simp)).whole, ?_⟩
 refine ⟨_, fun u hu => ((ox.at 0 rfl).keep hu (by simp)).cell rfl, ?_⟩
 have sT1 := (((((st.trans st1).trans st2).trans st3).trans st4).trans st5).trans st7
 refine call_then (h _ w8 (o.mo hm (by simp) (.head _)) _ _ le_toks (f_toks.st sT1)) ?_
 rintro _ w9 ⟨x3, h, ⟨cs2, rfl, f4⟩, ke2⟩
 obtain ⟨st8, o⟩ := o.dE ke2
 obtain ⟨a2, c2, rfl, ⟨le2, f5⟩⟩ := GR11_cur_out f4
 refine ⟨_, _, _, _, _, _, rfl, ?_⟩
 refine ⟨(ke2.mono (by simp)), ?_⟩
 have sT2 := (st5.trans st7).trans st8
 refine call_then (h _ w9 (o.mo hm (by simp) (.head _)) _ (GR11_cur_in (⟨l, n, atx, ex⟩ : GR11_cur) ⟨le1, (f2.st sT2)⟩) _ (GR11_cur_in x3 ⟨le2, f5⟩)) ?_
 rintro _ w10 ⟨x4, h, ⟨cs3, rfl, f6⟩, ke3⟩
 obtain ⟨st9, o⟩ := o.dE ke3
 obtain ⟨a3, c3, rfl, ⟨le3, f7⟩⟩ := GR11_cur_out f6
 refine ⟨_, _, _, _, _, _, rfl, ?_⟩
 refine ⟨o.wr 0 rfl rfl, fun w11 hw11 => ?_⟩
 obtain ⟨st10, o⟩ := o.dSs 0 hw11 rfl
 obtain ⟨n2, hl, h⟩ := h
 have sT3 := ((((st4.trans st5).trans st7).trans st8).trans st9).trans st10
 exact loop_again hnn1 (show Z w11 n2 from (by rw [hZ]; exact ⟨x4.l, x4.n, x4.at_, x4.e_, a3, c3, h, ⟨le3, (f7.st st10)⟩, o, sT3⟩)) hl
 refine ⟨_, (o.at 0 rfl).cell rfl, ?_⟩
 refine cond_map (fun h => ?_) (fun h => ?_) h
 refine ⟨_, (o.at 0 rfl).cell rfl, ?_⟩
 refine ⟨_, (o.at 0 rfl).cell rfl, ?_⟩
 refine ⟨o.wr 1 rfl rfl, fun w12 hw12 => ?_⟩
 obtain ⟨st11, o⟩ := o.dSs 1 hw12 rfl
 refine ⟨_, _, _, _, _, (o.at 1 rfl).whole, ?_⟩
 exact ⟨(⟨[], atx, ex⟩ : GR10_Got), h, ⟨_, rfl, (GR10_Got_in (⟨[], atx, ex⟩ : GR10_Got) ⟨(Nat.le_refl _), (SlR.nil _ _ _ _)⟩)⟩, o.done⟩
 refine ⟨_, _, _, _, _, _, (o.at 0 rfl).whole, ?_⟩
 refine call_then (h _ w6 (o.mo hm (by simp) (.head _)) _ (GR11_cur_in (⟨l, n, atx, ex⟩ : GR11_cur) ⟨le1, (f2.st st5)⟩) _ (GNode_in (⟨42, [], 0, 0, 0⟩ : GNode))) ?_
 rintro _ w13 ⟨x5, h, ⟨cs4, rfl, f8⟩, ke4⟩
 obtain ⟨st12, o⟩ := o.dE ke4
 obtain ⟨a4, c4, rfl, ⟨le4, f9⟩⟩ := GR11_cur_out f8
 refine ⟨_, _, _, _, _, _, rfl, ?_⟩
 refine ⟨o.wr 1 rfl rfl, fun w14 hw14 => ?_⟩
 obtain ⟨st13, o⟩ := o.dSs 1 hw14 rfl
 refine ⟨_, _, _, _, _, (o.at 1 rfl).whole, ?_⟩
 exact ⟨(⟨x5.l, 0, 0⟩ : GR10_Got), h, ⟨_, rfl, (GR10_Got_in (⟨x5.l, 0, 0⟩ : GR10_Got) ⟨le4, (f9.st (st13.trans Mem.endS))⟩)⟩, o.done⟩
def R11_Text_vwp (sx : List UInt8) (K : GR10_Got → Prop) : Prop :=
 V_R08_All sx (fun x =>
 cond (x.e_ != 0)
 (K (⟨[], x.at_, x.e_⟩ : GR10_Got))
 (V_R11_Unit x.l (fun x1 =>
 ∃ (J : (List GNode) → Int → Int → Prop),
 (cond (x1.e_ != 0)
 (((0 : Int) ≤ (if (IntKind.i64.wrap ((x.l.length : Int) - 1)) < x1.at_ then IntKind.i64.wrap ((x.l.length : Int) - 1) else x1.at_) ∧ (if (IntKind.i64.wrap ((x.l.length : Int) - 1)) < x1.at_ then IntKind.i64.wrap ((x.l.length : Int) - 1) else x1.at_) < (x.l.length : Int)) ∧
 ∀ x2, x.l[(if (IntKind.i64.wrap ((x.l.length : Int) - 1)) < x1.at_ then IntKind.i64.wrap ((x.l.length : Int) - 1) else x1.at_).toNat]? = some x2 →
 J x1.l x2.at_ x1.e_)
 (J x1.l x1.at_ x1.e_)) ∧
 ∀ (L : List GNode) (At : Int) (E : Int), J L At E →
 K (⟨L, At, E⟩ : GR10_Got))))
theorem R11_Text_lift (sx : List UInt8) (K : GR10_Got → Prop) (h : R11_Text_vwp sx K) : V_R11_Text sx K := by
 intro m w hm
 have o := Mem.start hm.lt
 refine R11_Text_ok sx _ _ ?_
 intro b w1 hb hw1
 obtain ⟨st, o⟩ := o.dB hb hw1
 refine call_then (h _ w1 (o.mo hm (by simp) (.head _))) ?_
 rintro _ w2 ⟨x, h, ⟨cs, rfl, f⟩, ke⟩
 obtain ⟨st1, o⟩ := o.dE ke
 obtain ⟨a, c, rfl, ⟨le, f1⟩⟩ := GR08_List_out f
 refine ⟨_, _, _, _, _, rfl, ?_⟩
 intro b1 w3 hb1 hw3
 obtain ⟨st2, o⟩ := o.dB hb1 hw3
 refine ⟨o.wr 0 rfl rfl, fun w4 hw4 => ?_⟩
 obtain ⟨st3, o⟩ := o.dSs 0 hw4 rfl
 refine ⟨_, (o.at 0 rfl).cell rfl, ?_⟩
 refine cond_map (fun h => ?_) (fun h => ?_) h
 refine ⟨_, (o.at 0 rfl).cell rfl, ?_⟩
 refine ⟨_, (o.at 0 rfl).cell rfl, ?_⟩
 refine ⟨o.wr 1 rfl rfl, fun w5 hw5 => ?_⟩
 obtain ⟨st4, o⟩ := o.dSs 1 hw5 rfl
 refine ⟨_, _, _, _, _, (o.at 1 rfl).whole, ?_⟩
 exact ⟨(⟨[], x.at_, x.e_⟩ : GR10_Got), h, ⟨_, rfl, (GR10_Got_in (⟨[], x.at_, x.e_⟩ : GR10_Got) ⟨(Nat.le_refl _), (SlR.nil _ _ _ _)⟩)⟩, o.done⟩
 refine ⟨_, _, _, (o.at 0 rfl).cell rfl, ?_⟩
 refine call_then (h _ w4 (o.mo hm (by simp) (.head _)) _ _ le (f1.st (st2.trans st3))) ?_
 rintro _ w6 ⟨x1, h, ⟨cs1, rfl, f2⟩, ke1⟩
 obtain ⟨st5, o⟩ := o.dE ke1
 obtain ⟨a1, c1, rfl, ⟨le1, f3⟩⟩ := GR10_Got_out f2
 refine ⟨_, _, _, _, _, rfl, ?_⟩
 intro b2 w7 hb2 hw7
 obtain ⟨st6, o⟩ := o.dB hb2 hw7
 refine ⟨o.wr 0 rfl rfl, fun w8 hw8 => ?_⟩
 obtain ⟨st7, o⟩ := o.dSs 0 hw8 rfl
 obtain ⟨J, h, h2⟩ := h
 refine ⟨fun w9 => ∃ (L : List GNode) (At : Int) (E : Int) (a2 : Option Addr) (c2 : Nat), J L At E ∧ (L.length ≤ c2 ∧ SlR cGNode (ms [.box b2 [.slice a2 L.length c2, .q At, .q E], .box b1 [.slice a x.l.length c, .q x.at_, .q x.e_], .box b [.slice none 0 0, .q 0, .q 0]] m) w9 a2 L) ∧ Mem w.heap.size [] m [([], w.heap.size, w)] [] w9 [.box b2 [.slice a2 L.length c2, .q At, .q E], .box b1 [.slice a x.l.length c, .q x.at_, .q x.e_], .box b [.slice none 0 0, .q 0, .q 0]] ∧ Step (ms [.box b2 [.slice a1 x1.l.length c1, .q x1.at_, .q x1.e_], .box b1 [.slice a x.l.length c, .q x.at_, .q x.e_], .box b [.slice none 0 0, .q 0, .q 0]] m) w8 (ms [.box b2 [.slice a2 L.length c2, .q At, .q E], .box b1 [.slice a x.l.length c, .q x.at_, .q x.e_], .box b [.slice none 0 0, .q 0, .q 0]] m) w9, ?_, ?_⟩
 refine ⟨_, (o.at 0 rfl).cell rfl, ?_⟩
 refine cond_map (fun h => ?_) (fun h => ?_) h
 refine ⟨_, _, _, (o.at 1 rfl).cell rfl, ?_⟩
 refine ⟨_, (o.at 0 rfl).cell rfl, ?_⟩
 refine ⟨_, _, _, (o.at 1 rfl).cell rfl, ?_⟩
 obtain ⟨hi, h⟩ := h
 have sT := (((st2.trans st3).trans st5).trans st6).trans st7
 obtain ⟨p, x2, cs2, hp, he, hc, hr⟩ := (f1.st sT).elem hi
 obtain rfl := GToken_out hr
 have h := h x2 he
 refine ⟨hi, ptrOr_some hp ?_⟩
 refine ⟨_, hc.2 3 (Nat.le_of_ble_eq_true rfl), ?_⟩
 refine ⟨o.wr 0 rfl rfl, fun w10 hw10 => ?_⟩
 obtain ⟨st9, o⟩ := o.dS 0 hw10 rfl
 have sT1 := (st6.trans st7).trans st9
 exact ⟨x1.l, x2.at_, x1.e_, a1, c1, h, ⟨le1, (f3.st sT1)⟩, o, st9⟩
 exact ⟨x1.l, x1.at_, x1.e_, a1, c1, h, ⟨le1, (f3.st (st6.trans st7))⟩, o, Step.refl _ _⟩
 rintro _ w9 ⟨L, At, E, a2, c2, hJ, ⟨le2, f4⟩, o, st8⟩
 have h := h2 L At E hJ
 refine ⟨_, _, _, _, _, (o.at 0 rfl).whole, ?_⟩
 refine ⟨o.wr 2 rfl rfl, fun w11 hw11 => ?_⟩
 obtain ⟨st10, o⟩ := o.dSs 2 hw11 rfl
 refine ⟨_, _, _, _, _, (o.at 2 rfl).whole, ?_⟩
 exact ⟨(⟨L, At, E⟩ : GR10_Got), h, ⟨_, rfl, (GR10_Got_in (⟨L, At, E⟩ : GR10_Got) ⟨le2, (f4.st (st10.trans Mem.endS))⟩)⟩, o.done⟩
def R11_cur_eat_vwp (cq : GR11_cur) (toks : List GToken) (sx : List UInt8) (K : GR11_cur → Prop) : Prop :=
 ∃ (J : (List GNode) → Int → Int → Int → Prop),
 (∃ (J1 : Bool → Prop),
 (cond (cq.e_ == 0)
 (V_R11_is toks cq.at_ sx (fun x1 =>
 J1 (!x1)))
 (J1 false)) ∧
 ∀ (x : Bool), J1 x →
 cond (x)
 (J cq.l cq.n cq.at_ 11)
 (J cq.l cq.n cq.at_ cq.e_)) ∧
 ∀ (l : List GNode) (n : Int) (atx : Int) (ex : Int), J l n atx ex →
 ∃ (J2 : (List GNode) → Int → Int → Int → Prop),
 (cond (ex == 0)
 (J2 l n (IntKind.i64.wrap (atx + 1)) ex)
 (J2 l n atx ex)) ∧
 ∀ (l1 : List GNode) (n1 : Int) (atx1 : Int) (ex1 : Int), J2 l1 n1 atx1 ex1 →
 K (⟨l1, n1, atx1, ex1⟩ : GR11_cur)
theorem R11_cur_eat_lift (cq : GR11_cur) (toks : List GToken) (sx : List UInt8) (K : GR11_cur → Prop) (h : R11_cur_eat_vwp cq toks sx K) : V_R11_cur_eat cq toks sx K := by
 intro m w hm cqcs f_cq toksA toksC le_toks f_toks
 obtain ⟨a, c, rfl, ⟨le, f⟩⟩ := GR11_cur_out f_cq
 have o := Mem.start hm.lt
 refine R11_cur_eat_ok _ _ _ _ _ _ toksA toks.length toksC sx _ _ ?_
 intro b w1 hb hw1
 obtain ⟨st, o⟩ := o.dB hb hw1
 intro b1 w2 hb1 hw2
 obtain ⟨st1, o⟩ := o.dB hb1 hw2
 obtain ⟨J, h, h2⟩ := h
 refine ⟨fun w3 => ∃ (l : List GNode) (n : Int) (atx : Int) (ex : Int) (a1 : Option Addr) (c1 : Nat), J l n atx ex ∧ (l.length ≤ c1 ∧ SlR cGNode (ms [.box b1 [.slice none 0 0, .q 0, .q 0, .q 0], .box b [.slice a1 l.length c1, .q n, .q atx, .q ex]] m) w3 a1 l) ∧ Mem w.heap.size [] m [([], w.heap.size, w)] [] w3 [.box b1 [.slice none 0 0, .q 0, .q 0, .q 0], .box b [.slice a1 l.length c1, .q n, .q atx, .q ex]] ∧ Step (ms [.box b1 [.slice none 0 0, .q 0, .q 0, .q 0], .box b [.slice a cq.l.length c, .q cq.n, .q cq.at_, .q cq.e_]] m) w2 (ms [.box b1 [.slice none 0 0, .q 0, .q 0, .q 0], .box b [.slice a1 l.length c1, .q n, .q atx, .q ex]] m) w3, ?_, ?_⟩
 obtain ⟨J1, h, h2⟩ := h
 refine ⟨fun x w4 => J1 x ∧ Mem w.heap.size [] m [([], w.heap.size, w)] [] w4 [.box b1 [.slice none 0 0, .q 0, .q 0, .q 0], .box b [.slice a cq.l.length c, .q cq.n, .q cq.at_, .q cq.e_]] ∧ Step (ms [.box b1 [.slice none 0 0, .q 0, .q 0, .q 0], .box b [.slice a cq.l.length c, .q cq.n, .q cq.at_, .q cq.e_]] m) w2 (ms [.box b1 [.slice none 0 0, .q 0, .q 0, .q 0], .box b [.slice a cq.l.length c, .q cq.n, .q cq.at_, .q cq.e_]] m) w4, ?_, ?_⟩
 refine ⟨_, (o.at 1 rfl).cell rfl, ?_⟩
 refine cond_map (fun h => ?_) (fun h => ?_) h
 refine ⟨_, (o.at 1 rfl).cell rfl, ?_⟩
 refine call_then (h _ w2 (o.mo hm (by simp) (.head _)) _ _ le_toks (f_toks.st (st.trans st1))) ?_
 rintro _ w5 ⟨x1, h, rfl, ke⟩
 obtain ⟨st4, o⟩ := o.dE ke
 refine ⟨_, rfl, ?_⟩
 exact ⟨h, o, st4⟩
 exact ⟨h, o, Step.refl _ _⟩
 rintro _ x w4 ⟨hJ, o, st3⟩
 have h := h2 x hJ
 refine cond_map (fun h => ?_) (fun h => ?_) h
 refine ⟨o.wr 1 rfl rfl, fun w6 hw6 => ?_⟩
 obtain ⟨st5, o⟩ := o.dS 1 hw6 rfl
 have sT := ((st.trans st1).trans st3).trans st5
 exact ⟨cq.l, cq.n, cq.at_, 11, a, c, h, ⟨le, (f.st sT)⟩, o, (st3.trans st5)⟩
 have sT1 := (st.trans st1).trans st3
 exact ⟨cq.l, cq.n, cq.at_, cq.e_, a, c, h, ⟨le, (f.st sT1)⟩, o, st3⟩
 rintro _ w3 ⟨l, n, atx, ex, a1, c1, hJ, ⟨le1, f1⟩, o, st2⟩
 have h := h2 l n atx ex hJ
 obtain ⟨J2, h, h2⟩ := h
 refine ⟨fun w7 => ∃ (l1 : List GNode) (n1 : Int) (atx1 : Int) (ex1 : Int) (a2 : Option Addr) (c2 : Nat), J2 l1 n1 atx1 ex1 ∧ (l1.length ≤ c2 ∧ SlR cGNode (ms [.box b1 [.slice none 0 0, .q 0, .q 0, .q 0], .box b [.slice a2 l1.length c2, .q n1, .q atx1, .q ex1]] m) w7 a2 l1) ∧ Mem w.heap.size [] m [([], w.heap.size, w)] [] w7 [.box b1 [.slice none 0 0, .q 0, .q 0, .q 0], .box b [.slice a2 l1.length c2, .q n1, .q atx1, .q ex1]] ∧ Step (ms [.box b1 [.slice none 0 0, .q 0, .q 0, .q 0], .box b [.slice a1 l.length c1, .q n, .q atx, .q ex]] m) w3 (ms [.box b1 [.slice none 0 0, .q 0, .q 0, .q 0], .box b [.slice a2 l1.length c2, .q n1, .q atx1, .q ex1]] m) w7, ?_, ?_⟩
 refine ⟨_, (o.at 1 rfl).cell rfl, ?_⟩
 refine cond_map (fun h => ?_) (fun h => ?_) h
 refine ⟨_, (o.at 1 rfl).cell rfl, ?_⟩
 refine ⟨o.wr 1 rfl rfl, fun w8 hw8 => ?_⟩
 obtain ⟨st7, o⟩ := o.dS 1 hw8 rfl
 exact ⟨l, n, (IntKind.i64.wrap (atx + 1)), ex, a1, c1, h, ⟨le1, (f1.st st7)⟩, o, st7⟩
 exact ⟨l, n, atx, ex, a1, c1, h, ⟨le1, f1⟩, o, Step.refl _ _⟩
 rintro _ w7 ⟨l1, n1, atx1, ex1, a2, c2, hJ, ⟨le2, f2⟩, o, st6⟩
 have h := h2 l1 n1 atx1 ex1 hJ
 refine ⟨_, _, _, _, _, _, (o.at 1 rfl).whole, ?_⟩
 refine ⟨o.wr 0 rfl rfl, fun w9 hw9 => ?_⟩
 obtain ⟨st8, o⟩ := o.dSs 0 hw9 rfl
 refine ⟨_, _, _, _, _, _, (o.at 0 rfl).whole, ?_⟩
 exact ⟨(⟨l1, n1, atx1, ex1⟩ : GR11_cur), h, ⟨_, rfl, (GR11_cur_in (⟨l1, n1, atx1, ex1⟩ : GR11_cur) ⟨le2, (f2.st (st8.trans Mem.endS))⟩)⟩, o.done⟩
def R11_cur_add_vwp (cq : GR11_cur) (d : GR11_cur) (K : GR11_cur → Prop) : Prop :=
 cond (cq.e_ != 0)
 (K cq)
 (0 + cq.l.length < 2 ^ 32 ∧
 cq.l.length + d.l.length < 2 ^ 32 ∧
 K (⟨(cq.l ++ d.l), IntKind.i64.wrap (cq.n + 1), d.at_, d.e_⟩ : GR11_cur))
theorem R11_cur_add_lift (cq : GR11_cur) (d : GR11_cur) (K : GR11_cur → Prop) (h : R11_cur_add_vwp cq d K) : V_R11_cur_add cq d K := by
 intro m w hm cqcs f_cq dcs f_d
 obtain ⟨a, c, rfl, ⟨le, f⟩⟩ := GR11_cur_out f_cq
 obtain ⟨a1, c1, rfl, ⟨le1, f1⟩⟩ := GR11_cur_out f_d
 have o := Mem.start hm.lt
 refine R11_cur_add_ok _ _ _ _ _ _ _ _ _ _ _ _ _ _ ?_
 intro b w1 hb hw1
 obtain ⟨st, o⟩ := o.dB hb hw1
 intro b1 w2 hb1 hw2
 obtain ⟨st1, o⟩ := o.dB hb1 hw2
 intro b2 w3 hb2 hw3
 obtain ⟨st2, o⟩ := o.dB hb2 hw3
 refine ⟨_, (o.at 2 rfl).cell rfl, ?_⟩
 refine cond_map (fun h => ?_) (fun h => ?_) h
 refine ⟨_, _, _, _, _, _, (o.at 2 rfl).whole, ?_⟩
 refine ⟨o.wr 0 rfl rfl, fun w4 hw4 => ?_⟩
 obtain ⟨st3, o⟩ := o.dSs 0 hw4 rfl
 refine ⟨_, _, _, _, _, _, (o.at 0 rfl).whole, ?_⟩
 exact ⟨cq, h, ⟨_, rfl, (GR11_cur_in cq ⟨le, (f.st (st.trans (st1.trans (st2.trans (st3.trans Mem.endS)))))⟩)⟩, o.done⟩
 intro w5 hw5
 obtain ⟨st4, o⟩ := o.dD hw5
 have ox := o
 refine ⟨fun u => Keep [] w5 u, Keep.refl _ _, ?_⟩
 refine ⟨_, _, _, fun u hu => ((ox.at 2 rfl).keep hu (by simp)).cell rfl, ?_⟩
 refine ⟨_, _, _, fun u hu => ((ox.at 1 rfl).keep hu (by simp)).cell rfl, ?_⟩
 refine ⟨_, fun u hu => ((ox.at 2 rfl).keep hu (by simp)).cell rfl, ?_⟩
 refine ⟨_, fun u hu => ((ox.at 1 rfl).keep hu (by simp)).cell rfl, ?_⟩
 refine ⟨_, fun u hu => ((ox.at 1 rfl).keep hu (by simp)).cell rfl, ?_⟩
 intro b3 w6 hb3 hw6
 have el : El cGNode (ms [.box b2 [.slice none 0 0, .q 0, .q 0, .q 0], .box b1 [.slice a1 d.l.length c1, .q d.n, .q d.at_, .q d.e_], .box b [.slice a cq.l.length c, .q cq.n, .q cq.at_, .q cq.e_]] m) w5 [] ([] : List Value) := (El.nil _ _ _)
 have st5 := o.xL hb3 hw6 5 0
 have o := o.lit hb3 hw6 5 0 (by decide) rfl
 refine ⟨((keep_alloc hw6).mono (by simp)), ?_⟩
 obtain ⟨lt, h⟩ := h
 have sT := (((st.trans st1).trans st2).trans st4).trans st5
 obtain ⟨xs, hx, el1⟩ := SlR.cells (f.st sT)
 have el2 := ((el.st st5)).app el1
 refine append_sl sl_39 (o.rowAt 0 rfl) hx el1.len el1.one (by first | (simp; done) | simpa using lt) (by decide) (Nat.zero_le _) fun a2 c2 w7 hr hg hat => ?_
 have ln : 0 + cq.l.length = cq.l.length := (by first | (simp; done) | (simp; omega))
 rw [ln] at hr ⊢
 refine ⟨_, _, _, rfl, ?_⟩
 have st6 := o.xA 0 rfl hr hg hat
 have o := o.app 0 rfl hr hg hat
 refine ⟨(keep_app ((keep_alloc hw6).mono (by simp)) hg (fresh_lit hb3 (Keep.refl _ _))), ?_⟩
 obtain ⟨lt1, h⟩ := h
 have sT1 := sT.trans st6
 obtain ⟨xs1, hx1, el3⟩ := SlR.cells (f1.st sT1)
 have el4 := ((el2.st st6)).app el3
 refine append_sl sl_39 (o.rowAt 0 rfl) hx1 el3.len el3.one (by first | (simp; done) | simpa using lt1) (by decide) (Nat.zero_le _) fun a3 c3 w8 hr1 hg1 hat1 => ?_
 have ln1 : cq.l.length + d.l.length = (cq.l ++ d.l).length := (by first | (simp; done) | (simp; omega))
 rw [ln1] at hr1 ⊢
 refine ⟨_, _, _, rfl, ?_⟩
 have st7 := o.xA 0 rfl hr1 hg1 hat1
 have o := o.app 0 rfl hr1 hg1 hat1
 refine ⟨(keep_app (keep_app ((keep_alloc hw6).mono (by simp)) hg (fresh_lit hb3 (Keep.refl _ _))) hg1 (fresh_app (fresh_lit hb3 (Keep.refl _ _)) hat ((keep_alloc hw6).mono (by simp)))), ?_⟩
 refine ⟨o.wr 1 rfl rfl, fun w9 hw9 => ?_⟩
 obtain ⟨st8, o⟩ := o.dSs 1 hw9 rfl
 refine ⟨_, _, _, _, _, _, (o.at 1 rfl).whole, ?_⟩
 have le2 := (o.rowAt 0 rfl).cap
 have st9 := o.xX 0
 have sT2 := (st7.trans st8).trans st9
 have f2 := o.freeze (c := cGNode) (l := (cq.l ++ d.l)) 0 rfl (fun b hb => by simp at hb) (el4.st sT2)
 have o := o.erase 0
 exact ⟨(⟨(cq.l ++ d.l), IntKind.i64.wrap (cq.n + 1), d.at_, d.e_⟩ : GR11_cur), h, ⟨_, rfl, (GR11_cur_in (⟨(cq.l ++ d.l), IntKind.i64.wrap (cq.n + 1), d.at_, d.e_⟩ : GR11_cur) ⟨le2, (f2.st Mem.endS)⟩)⟩, o.done⟩
def R11_cur_under_vwp (cq : GR11_cur) (xq : GNode) (K : GR11_cur → Prop) : Prop :=
 [(⟨xq.op, xq.name, xq.n, cq.n, xq.at_⟩ : GNode)].length + cq.l.length < 2 ^ 32 ∧
 K (⟨([(⟨xq.op, xq.name, xq.n, cq.n, xq.at_⟩ : GNode)] ++ cq.l), 1, cq.at_, cq.e_⟩ : GR11_cur)
theorem R11_cur_under_lift (cq : GR11_cur) (xq : GNode) (K : GR11_cur → Prop) (h : R11_cur_under_vwp cq xq K) : V_R11_cur_under cq xq K := by
 intro m w hm cqcs f_cq xqcs f_xq
 obtain ⟨a, c, rfl, ⟨le, f⟩⟩ := GR11_cur_out f_cq
 obtain rfl := GNode_out f_xq
 have o := Mem.start hm.lt
 refine R11_cur_under_ok _ _ _ _ _ _ _ _ _ _ _ _ _ ?_
 intro b w1 hb hw1
 obtain ⟨st, o⟩ := o.dB hb hw1
 intro b1 w2 hb1 hw2
 obtain ⟨st1, o⟩ := o.dB hb1 hw2
 intro b2 w3 hb2 hw3
 obtain ⟨st2, o⟩ := o.dB hb2 hw3
 refine ⟨_, (o.at 2 rfl).cell rfl, ?_⟩
 refine ⟨o.wr 1 rfl rfl, fun w4 hw4 => ?_⟩
 obtain ⟨st3, o⟩ := o.dS 1 hw4 rfl
 refine ⟨_, _, _, _, _, (o.at 1 rfl).whole, ?_⟩
 intro b3 w5 hb3 hw5
 have el : El cGNode (ms [.box b2 [.slice none 0 0, .q 0, .q 0, .q 0], .box b1 [.q xq.op, .s xq.name, .q xq.n, .q cq.n, .q xq.at_], .box b [.slice a cq.l.length c, .q cq.n, .q cq.at_, .q cq.e_]] m) w4 [(⟨xq.op, xq.name, xq.n, cq.n, xq.at_⟩ : GNode)] ([.q xq.op, .s xq.name, .q xq.n, .q cq.n, .q xq.at_] : List Value) := (El.cons (cs := [.q xq.op, .s xq.name, .q xq.n, .q cq.n, .q xq.at_]) (GNode_in (⟨xq.op, xq.name, xq.n, cq.n, xq.at_⟩ : GNode)) (El.nil _ _ _))
 have st4 := o.xL hb3 hw5 5 1
 have o := o.lit hb3 hw5 5 1 (by decide) rfl
 refine ⟨_, _, _, (o.at 3 rfl).cell rfl, ?_⟩
 obtain ⟨lt, h⟩ := h
 have sT := (((st.trans st1).trans st2).trans st3).trans st4
 obtain ⟨xs, hx, el1⟩ := SlR.cells (f.st sT)
 have el2 := ((el.st st4)).app el1
 refine append_sl sl_39 (o.rowAt 0 rfl) hx el1.len el1.one (by first | (simp; done) | simpa using lt) (by decide) (Nat.zero_le _) fun a1 c1 w6 hr hg hat => ?_
 have ln : 1 + cq.l.length = ([(⟨xq.op, xq.name, xq.n, cq.n, xq.at_⟩ : GNode)] ++ cq.l).length := (by first | (simp; done) | (simp; omega))
 rw [ln] at hr ⊢
 refine ⟨_, _, _, rfl, ?_⟩
 have st5 := o.xA 0 rfl hr hg hat
 have o := o.app 0 rfl hr hg hat
 refine ⟨o.wr 3 rfl rfl, fun w7 hw7 => ?_⟩
 obtain ⟨st6, o⟩ := o.dS 3 hw7 rfl
 refine ⟨o.wr 3 rfl rfl, fun w8 hw8 => ?_⟩
 obtain ⟨st7, o⟩ := o.dS 3 hw8 rfl
 refine ⟨_, _, _, _, _, _, (o.at 3 rfl).whole, ?_⟩
 refine ⟨o.wr 1 rfl rfl, fun w9 hw9 => ?_⟩
 obtain ⟨st8, o⟩ := o.dSs 1 hw9 rfl
 refine ⟨_, _, _, _, _, _, (o.at 1 rfl).whole, ?_⟩
 have le1 := (o.rowAt 0 rfl).cap
 have st9 := o.xX 0
 have sT1 := (((st5.trans st6).trans st7).trans st8).trans st9
 have f1 := o.freeze (c := cGNode) (l := ([(⟨xq.op, xq.name, xq.n, cq.n, xq.at_⟩ : GNode)] ++ cq.l)) 0 rfl (fun b hb => by simp at hb) (el2.st sT1)
 have o := o.erase 0
 exact ⟨(⟨([(⟨xq.op, xq.name, xq.n, cq.n, xq.at_⟩ : GNode)] ++ cq.l), 1, cq.at_, cq.e_⟩ : GR11_cur), h, ⟨_, rfl, (GR11_cur_in (⟨([(⟨xq.op, xq.name, xq.n, cq.n, xq.at_⟩ : GNode)] ++ cq.l), 1, cq.at_, cq.e_⟩ : GR11_cur) ⟨le1, (f1.st Mem.endS)⟩)⟩, o.done⟩
def R11_cur_term_vwp (cq : GR11_cur) (toks : List GToken) (K : GR11_cur → Prop) : Prop :=
 cond (cq.e_ != 0)
 (K cq)
 (V_R10_Parse toks cq.at_ (fun x =>
 V_R11_cur_add cq (⟨x.l, 0, x.at_, x.e_⟩ : GR11_cur) (fun x1 =>
 K x1)))
theorem R11_cur_term_lift (cq : GR11_cur) (toks : List GToken) (K : GR11_cur → Prop) (h : R11_cur_term_vwp cq toks K) : V_R11_cur_term cq toks K := by
 intro m w hm cqcs f_cq toksA toksC le_toks f_toks
 obtain ⟨a, c, rfl, ⟨le, f⟩⟩ := GR11_cur_out f_cq
 have o := Mem.start hm.lt
 refine R11_cur_term_ok _ _ _ _ _ _ toksA toks.length toksC _ _ ?_
 intro b w1 hb hw1
 obtain ⟨st, o⟩ := o.dB hb hw1
 intro b1 w2 hb1 hw2
 obtain ⟨st1, o⟩ := o.dB hb1 hw2
 refine ⟨_, (o.at 1 rfl).cell rfl, ?_⟩
 refine cond_map (fun h => ?_) (fun h => ?_) h
 refine ⟨_, _, _, _, _, _, (o.at 1 rfl).whole, ?_⟩
 refine ⟨o.wr 0 rfl rfl, fun w3 hw3 => ?_⟩
 obtain ⟨st2, o⟩ := o.dSs 0 hw3 rfl
 refine ⟨_, _, _, _, _, _, (o.at 0 rfl).whole, ?_⟩
 exact ⟨cq, h, ⟨_, rfl, (GR11_cur_in cq ⟨le, (f.st (st.trans (st1.trans (st2.trans Mem.endS))))⟩)⟩, o.done⟩
 refine ⟨_, (o.at 1 rfl).cell rfl, ?_⟩
 refine call_then (h _ w2 (o.mo hm (by simp) (.head _)) _ _ le_toks (f_toks.st (st.trans st1))) ?_
 rintro _ w4 ⟨x, h, ⟨cs, rfl, f1⟩, ke⟩
 obtain ⟨st3, o⟩ := o.dE ke
 obtain ⟨a1, c1, rfl, ⟨le1, f2⟩⟩ := GR10_Got_out f1
 refine ⟨_, _, _, _, _, rfl, ?_⟩
 intro b2 w5 hb2 hw5
 obtain ⟨st4, o⟩ := o.dB hb2 hw5
 refine ⟨o.wr 0 rfl rfl, fun w6 hw6 => ?_⟩
 obtain ⟨st5, o⟩ := o.dSs 0 hw6 rfl
 refine ⟨_, _, _, _, _, _, (o.at 2 rfl).whole, ?_⟩
 refine ⟨_, _, _, (o.at 0 rfl).cell rfl, ?_⟩
 refine ⟨_, (o.at 0 rfl).cell rfl, ?_⟩
 refine ⟨_, (o.at 0 rfl).cell rfl, ?_⟩
 have sT := (((st.trans st1).trans st3).trans st4).trans st5
 refine call_then (h _ w6 (o.mo hm (by simp) (.head _)) _ (GR11_cur_in cq ⟨le, (f.st sT)⟩) _ (GR11_cur_in (⟨x.l, 0, x.at_, x.e_⟩ : GR11_cur) ⟨le1, (f2.st (st4.trans st5))⟩)) ?_
 rintro _ w7 ⟨x1, h, ⟨cs1, rfl, f3⟩, ke1⟩
 obtain ⟨st6, o⟩ := o.dE ke1
 obtain ⟨a2, c2, rfl, ⟨le2, f4⟩⟩ := GR11_cur_out f3
 refine ⟨_, _, _, _, _, _, rfl, ?_⟩
 refine ⟨o.wr 1 rfl rfl, fun w8 hw8 => ?_⟩
 obtain ⟨st7, o⟩ := o.dSs 1 hw8 rfl
 refine ⟨_, _, _, _, _, _, (o.at 1 rfl).whole, ?_⟩
 exact ⟨x1, h, ⟨_, rfl, (GR11_cur_in x1 ⟨le2, (f4.st (st7.trans Mem.endS))⟩)⟩, o.done⟩
def R11_cur_name_vwp (cq : GR11_cur) (toks : List GToken) (K : GR11_cur → (List UInt8) → Prop) : Prop :=
 V_R10_Tok toks cq.at_ (fun x =>
 ∃ (J : (List GNode) → Int → Int → Int → Prop),
 (∃ (J1 : Bool → Prop),
 (cond (cq.e_ == 0)
 (J1 (x.kind != 1))
 (J1 false)) ∧
 ∀ (x1 : Bool), J1 x1 →
 cond (x1)
 (J cq.l cq.n cq.at_ 11)
 (J cq.l cq.n cq.at_ cq.e_)) ∧
 ∀ (l : List GNode) (n : Int) (atx : Int) (ex : Int), J l n atx ex →
 cond (ex != 0)
 (K (⟨l, n, atx, ex⟩ : GR11_cur) [])
 (K (⟨l, n, IntKind.i64.wrap (atx + 1), ex⟩ : GR11_cur) x.text))
theorem R11_cur_name_lift (cq : GR11_cur) (toks : List GToken) (K : GR11_cur → (List UInt8) → Prop) (h : R11_cur_name_vwp cq toks K) : V_R11_cur_name cq toks K := by
 intro m w hm cqcs f_cq toksA toksC le_toks f_toks
 obtain ⟨a, c, rfl, ⟨le, f⟩⟩ := GR11_cur_out f_cq
 have o := Mem.start hm.lt
 refine R11_cur_name_ok _ _ _ _ _ _ toksA toks.length toksC _ _ ?_
 intro b w1 hb hw1
 obtain ⟨st, o⟩ := o.dB hb hw1
 intro b1 w2 hb1 hw2
 obtain ⟨st1, o⟩ := o.dB hb1 hw2
 refine ⟨_, (o.at 1 rfl).cell rfl, ?_⟩
 refine call_then (h _ w2 (o.mo hm (by simp) (.head _)) _ _ le_toks (f_toks.st (st.trans st1))) ?_
 rintro _ w3 ⟨x, h, ⟨cs, rfl, f1⟩, ke⟩
 obtain ⟨st2, o⟩ := o.dE ke
 obtain rfl := GToken_out f1
 refine ⟨_, _, _, _, rfl, ?_⟩
 intro b2 w4 hb2 hw4
 obtain ⟨st3, o⟩ := o.dB hb2 hw4
 refine ⟨o.wr 0 rfl rfl, fun w5 hw5 => ?_⟩
 obtain ⟨st4, o⟩ := o.dSs 0 hw5 rfl
 obtain ⟨J, h, h2⟩ := h
 refine ⟨fun w6 => ∃ (l : List GNode) (n : Int) (atx : Int) (ex : Int) (a1 : Option Addr) (c1 : Nat), J l n atx ex ∧ (l.length ≤ c1 ∧ SlR cGNode (ms [.box b2 [.q x.kind, .s x.text, .q x.n, .q x.at_], .box b1 [.slice none 0 0, .q 0, .q 0, .q 0], .box b [.slice a1 l.length c1, .q n, .q atx, .q ex]] m) w6 a1 l) ∧ Mem w.heap.size [] m [([], w.heap.size, w)] [] w6 [.box b2 [.q x.kind, .s x.text, .q x.n, .q x.at_], .box b1 [.slice none 0 0, .q 0, .q 0, .q 0], .box b [.slice a1 l.length c1, .q n, .q atx, .q ex]] ∧ Step (ms [.box b2 [.q x.kind, .s x.text, .q x.n, .q x.at_], .box b1 [.slice none 0 0, .q 0, .q 0, .q 0], .box b [.slice a cq.l.length c, .q cq.n, .q cq.at_, .q cq.e_]] m) w5 (ms [.box b2 [.q x.kind, .s x.text, .q x.n, .q x.at_], .box b1 [.slice none 0 0, .q 0, .q 0, .q 0], .box b [.slice a1 l.length c1, .q n, .q atx, .q ex]] m) w6, ?_, ?_⟩
 obtain ⟨J1, h, h2⟩ := h
 refine ⟨fun x1 w7 => J1 x1 ∧ Mem w.heap.size [] m [([], w.heap.size, w)] [] w7 [.box b2 [.q x.kind, .s x.text, .q x.n, .q x.at_], .box b1 [.slice none 0 0, .q 0, .q 0, .q 0], .box b [.slice a cq.l.length c, .q cq.n, .q cq.at_, .q cq.e_]] ∧ Step (ms [.box b2 [.q x.kind, .s x.text, .q x.n, .q x.at_], .box b1 [.slice none 0 0, .q 0, .q 0, .q 0], .box b [.slice a cq.l.length c, .q cq.n, .q cq.at_, .q cq.e_]] m) w5 (ms [.box b2 [.q x.kind, .s x.text, .q x.n, .q x.at_], .box b1 [.slice none 0 0, .q 0, .q 0, .q 0], .box b [.slice a cq.l.length c, .q cq.n, .q cq.at_, .q cq.e_]] m) w7, ?_, ?_⟩
 refine ⟨_, (o.at 2 rfl).cell rfl, ?_⟩
 refine cond_map (fun h => ?_) (fun h => ?_) h
 refine ⟨_, (o.at 0 rfl).cell rfl, ?_⟩
 exact ⟨h, o, Step.refl _ _⟩
 exact ⟨h, o, Step.refl _ _⟩
 rintro _ x1 w7 ⟨hJ, o, st6⟩
 have h := h2 x1 hJ
 refine cond_map (fun h => ?_) (fun h => ?_) h
 refine ⟨o.wr 2 rfl rfl, fun w8 hw8 => ?_⟩
 obtain ⟨st7, o⟩ := o.dS 2 hw8 rfl
 have sT := (((((st.trans st1).trans st2).trans st3).trans st4).trans st6).trans st7
 exact ⟨cq.l, cq.n, cq.at_, 11, a, c, h, ⟨le, (f.st sT)⟩, o, (st6.trans st7)⟩
 have sT1 := ((((st.trans st1).trans st2).trans st3).trans st4).trans st6
 exact ⟨cq.l, cq.n, cq.at_, cq.e_, a, c, h, ⟨le, (f.st sT1)⟩, o, st6⟩
 rintro _ w6 ⟨l, n, atx, ex, a1, c1, hJ, ⟨le1, f2⟩, o, st5⟩
 have h := h2 l n atx ex hJ
 refine ⟨_, (o.at 2 rfl).cell rfl, ?_⟩
 refine cond_map (fun h => ?_) (fun h => ?_) h
 refine ⟨_, _, _, _, _, _, (o.at 2 rfl).whole, ?_⟩
 refine ⟨o.wr 1 rfl rfl, fun w9 hw9 => ?_⟩
 obtain ⟨st8, o⟩ := o.dSs 1 hw9 rfl
 refine ⟨_, _, _, _, _, _, (o.at 1 rfl).whole, ?_⟩
 exact ⟨(⟨l, n, atx, ex⟩ : GR11_cur), [], h, ⟨_, rfl, (GR11_cur_in (⟨l, n, atx, ex⟩ : GR11_cur) ⟨le1, (f2.st (st8.trans Mem.endS))⟩)⟩, o.done⟩
 refine ⟨_, (o.at 2 rfl).cell rfl, ?_⟩
 refine ⟨o.wr 2 rfl rfl, fun w10 hw10 => ?_⟩
 obtain ⟨st9, o⟩ := o.dS 2 hw10 rfl
 intro w11 hw11
 obtain ⟨st10, o⟩ := o.dD hw11
 have ox := o
 refine ⟨fun u => Keep [b1] w11 u, Keep.refl _ _, ?_⟩
 refine ⟨_, _, _, _, _, _, fun u hu => ((ox.at 2 rfl).keep hu (fun h => by (simp only [List.mem_cons, List.not_mem_nil, or_false] at h; rcases h with h; exact ox.neq 2 1 rfl rfl (by decide) h))).whole, ?_⟩
 refine ⟨_, fun u hu => ((ox.at 0 rfl).keep hu (fun h => by (simp only [List.mem_cons, List.not_mem_nil, or_false] at h; rcases h with h; exact ox.neq 0 1 rfl rfl (by decide) h))).cell rfl, ?_⟩
 refine ⟨o.wr 1 rfl rfl, fun w12 hw12 => ?_⟩
 obtain ⟨st11, o⟩ := o.dSs 1 hw12 rfl
 refine ⟨(Keep.mono (keep_sets hw12) (by simp)), ?_⟩
 refine ⟨_, _, _, _, _, _, (o.at 1 rfl).whole, ?_⟩
 exact ⟨(⟨l, n, IntKind.i64.wrap (atx + 1), ex⟩ : GR11_cur), x.text, h, ⟨_, rfl, (GR11_cur_in (⟨l, n, IntKind.i64.wrap (atx + 1), ex⟩ : GR11_cur) ⟨le1, (f2.st (st9.trans (st10.trans (st11.trans Mem.endS))))⟩)⟩, o.done⟩
def R11_cur_in_vwp (cq : GR11_cur) (toks : List GToken) (deep : Int) (K : GR11_cur → Prop) : Prop :=
 cond (cq.e_ != 0)
 (K cq)
 (V_R11_block toks cq.at_ deep (fun x =>
 V_R11_cur_add cq x (fun x1 =>
 K x1)))
theorem R11_cur_in_lift (cq : GR11_cur) (toks : List GToken) (deep : Int) (K : GR11_cur → Prop) (h : R11_cur_in_vwp cq toks deep K) : V_R11_cur_in cq toks deep K := by
 intro m w hm cqcs f_cq toksA toksC le_toks f_toks
 obtain ⟨a, c, rfl, ⟨le, f⟩⟩ := GR11_cur_out f_cq
 have o := Mem.start hm.lt
 refine R11_cur_in_ok _ _ _ _ _ _ toksA toks.length toksC deep _ _ ?_
 intro b w1 hb hw1
 obtain ⟨st, o⟩ := o.dB hb hw1
 intro b1 w2 hb1 hw2
 obtain ⟨st1, o⟩ := o.dB hb1 hw2
 refine ⟨_, (o.at 1 rfl).cell rfl, ?_⟩
 refine cond_map (fun h => ?_) (fun h => ?_) h
 refine ⟨_, _, _, _, _, _, (o.at 1 rfl).whole, ?_⟩
 refine ⟨o.wr 0 rfl rfl, fun w3 hw3 => ?_⟩
 obtain ⟨st2, o⟩ := o.dSs 0 hw3 rfl
 refine ⟨_, _, _, _, _, _, (o.at 0 rfl).whole, ?_⟩
 exact ⟨cq, h, ⟨_, rfl, (GR11_cur_in cq ⟨le, (f.st (st.trans (st1.trans (st2.trans Mem.endS))))⟩)⟩, o.done⟩
 intro w4 hw4
 obtain ⟨st3, o⟩ := o.dD hw4
 have ox := o
 refine ⟨fun u => Keep [] w4 u, Keep.refl _ _, ?_⟩
 refine ⟨_, _, _, _, _, _, fun u hu => ((ox.at 1 rfl).keep hu (by simp)).whole, ?_⟩
 refine ⟨_, fun u hu => ((ox.at 1 rfl).keep hu (by simp)).cell rfl, ?_⟩
 have sT := (st.trans st1).trans st3
 refine call_then (h _ w4 (o.mo hm (by simp) (.head _)) _ _ le_toks (f_toks.st sT)) ?_
 rintro _ w5 ⟨x, h, ⟨cs, rfl, f1⟩, ke⟩
 obtain ⟨st4, o⟩ := o.dE ke
 obtain ⟨a1, c1, rfl, ⟨le1, f2⟩⟩ := GR11_cur_out f1
 refine ⟨_, _, _, _, _, _, rfl, ?_⟩
 refine ⟨(ke.mono (by simp)), ?_⟩
 have sT1 := sT.trans st4
 refine call_then (h _ w5 (o.mo hm (by simp) (.head _)) _ (GR11_cur_in cq ⟨le, (f.st sT1)⟩) _ (GR11_cur_in x ⟨le1, f2⟩)) ?_
 rintro _ w6 ⟨x1, h, ⟨cs1, rfl, f3⟩, ke1⟩
 obtain ⟨st5, o⟩ := o.dE ke1
 obtain ⟨a2, c2, rfl, ⟨le2, f4⟩⟩ := GR11_cur_out f3
 refine ⟨_, _, _, _, _, _, rfl, ?_⟩
 refine ⟨o.wr 0 rfl rfl, fun w7 hw7 => ?_⟩
 obtain ⟨st6, o⟩ := o.dSs 0 hw7 rfl
 refine ⟨_, _, _, _, _, _, (o.at 0 rfl).whole, ?_⟩
 exact ⟨x1, h, ⟨_, rfl, (GR11_cur_in x1 ⟨le2, (f4.st (st6.trans Mem.endS))⟩)⟩, o.done⟩
def R11_cur_comm_vwp (cq : GR11_cur) (toks : List GToken) (send : Int) (recv : Int) (K : GR11_cur → Int → (List UInt8) → Prop) : Prop :=
 cond (cq.e_ != 0)
 (K cq 0 [])
 (∃ (J : (List GNode) → Int → Int → Int → Prop),
 (V_R11_ref toks cq.at_ (fun x =>
 V_R11_cur_add cq x (fun x1 =>
 J x1.l x1.n x1.at_ x1.e_))) ∧
 ∀ (l : List GNode) (n : Int) (atx : Int) (ex : Int), J l n atx ex →
 ∃ (J1 : Bool → Prop),
 (cond (ex == 0)
 (V_R11_is toks atx [33] (fun x3 =>
 J1 x3))
 (J1 false)) ∧
 ∀ (x2 : Bool), J1 x2 →
 cond (x2)
 (V_R11_cur_eat (⟨l, n, atx, ex⟩ : GR11_cur) toks [33] (fun x4 =>
 V_R11_cur_term x4 toks (fun x5 =>
 K x5 send [])))
 (V_R11_cur_eat (⟨l, n, atx, ex⟩ : GR11_cur) toks [63] (fun x6 =>
 V_R11_cur_name x6 toks (fun r r1 =>
 K r recv r1))))
theorem R11_cur_comm_lift (cq : GR11_cur) (toks : List GToken) (send : Int) (recv : Int) (K : GR11_cur → Int → (List UInt8) → Prop) (h : R11_cur_comm_vwp cq toks send recv K) : V_R11_cur_comm cq toks send recv K := by
 intro m w hm cqcs f_cq toksA toksC le_toks f_toks
 obtain ⟨a, c, rfl, ⟨le, f⟩⟩ := GR11_cur_out f_cq
 have o := Mem.start hm.lt
 refine R11_cur_comm_ok _ _ _ _ _ _ toksA toks.length toksC send recv _ _ ?_
 intro b w1 hb hw1
 obtain ⟨st, o⟩ := o.dB hb hw1
 intro b1 w2 hb1 hw2
 obtain ⟨st1, o⟩ := o.dB hb1 hw2
 refine ⟨_, (o.at 1 rfl).cell rfl, ?_⟩
 refine cond_map (fun h => ?_) (fun h => ?_) h
 refine ⟨_, _, _, _, _, _, (o.at 1 rfl).whole, ?_⟩
 refine ⟨o.wr 0 rfl rfl, fun w3 hw3 => ?_⟩
 obtain ⟨st2, o⟩ := o.dSs 0 hw3 rfl
 refine ⟨_, _, _, _, _, _, (o.at 0 rfl).whole, ?_⟩
 exact ⟨cq, 0, [], h, ⟨_, rfl, (GR11_cur_in cq ⟨le, (f.st (st.trans (st1.trans (st2.trans Mem.endS))))⟩)⟩, o.done⟩
 obtain ⟨J, h, h2⟩ := h
 refine ⟨fun w4 => ∃ (l : List GNode) (n : Int) (atx : Int) (ex : Int) (a1 : Option Addr) (c1 : Nat), J l n atx ex ∧ (l.length ≤ c1 ∧ SlR cGNode (ms [.box b1 [.slice none 0 0, .q 0, .q 0, .q 0], .box b [.slice a1 l.length c1, .q n, .q atx, .q ex]] m) w4 a1 l) ∧ Mem w.heap.size [] m [([], w.heap.size, w)] [] w4 [.box b1 [.slice none 0 0, .q 0, .q 0, .q 0], .box b [.slice a1 l.length c1, .q n, .q atx, .q ex]] ∧ Step (ms [.box b1 [.slice none 0 0, .q 0, .q 0, .q 0], .box b [.slice a cq.l.length c, .q cq.n, .q cq.at_, .q cq.e_]] m) w2 (ms [.box b1 [.slice none 0 0, .q 0, .q 0, .q 0], .box b [.slice a1 l.length c1, .q n, .q atx, .q ex]] m) w4, ?_, ?_⟩
 intro w5 hw5
 obtain ⟨st4, o⟩ := o.dD hw5
 have ox := o
 refine ⟨fun u => Keep [] w5 u, Keep.refl _ _, ?_⟩
 refine ⟨_, _, _, _, _, _, fun u hu => ((ox.at 1 rfl).keep hu (by simp)).whole, ?_⟩
 refine ⟨_, fun u hu => ((ox.at 1 rfl).keep hu (by simp)).cell rfl, ?_⟩
 have sT := (st.trans st1).trans st4
 refine call_then (h _ w5 (o.mo hm (by simp) (.head _)) _ _ le_toks (f_toks.st sT)) ?_
 rintro _ w6 ⟨x, h, ⟨cs, rfl, f2⟩, ke⟩
 obtain ⟨st5, o⟩ := o.dE ke
 obtain ⟨a2, c2, rfl, ⟨le2, f3⟩⟩ := GR11_cur_out f2
 refine ⟨_, _, _, _, _, _, rfl, ?_⟩
 refine ⟨(ke.mono (by simp)), ?_⟩
 have sT1 := sT.trans st5
 refine call_then (h _ w6 (o.mo hm (by simp) (.head _)) _ (GR11_cur_in cq ⟨le, (f.st sT1)⟩) _ (GR11_cur_in x ⟨le2, f3⟩)) ?_
 rintro _ w7 ⟨x1, h, ⟨cs1, rfl, f4⟩, ke1⟩
 obtain ⟨st6, o⟩ := o.dE ke1
 obtain ⟨a3, c3, rfl, ⟨le3, f5⟩⟩ := GR11_cur_out f4
 refine ⟨_, _, _, _, _, _, rfl, ?_⟩
 refine ⟨o.wr 1 rfl rfl, fun w8 hw8 => ?_⟩
 obtain ⟨st7, o⟩ := o.dSs 1 hw8 rfl
 have sT2 := ((st4.trans st5).trans st6).trans st7
 exact ⟨x1.l, x1.n, x1.at_, x1.e_, a3, c3, h, ⟨le3, (f5.st st7)⟩, o, sT2⟩
 rintro _ w4 ⟨l, n, atx, ex, a1, c1, hJ, ⟨le1, f1⟩, o, st3⟩
 have h := h2 l n atx ex hJ
 obtain ⟨J1, h, h2⟩ := h
 refine ⟨fun x2 w9 => J1 x2 ∧ Mem w.heap.size [] m [([], w.heap.size, w)] [] w9 [.box b1 [.slice none 0 0, .q 0, .q 0, .q 0], .box b [.slice a1 l.length c1, .q n, .q atx, .q ex]] ∧ Step (ms [.box b1 [.slice none 0 0, .q 0, .q 0, .q 0], .box b [.slice a1 l.length c1, .q n, .q atx, .q ex]] m) w4 (ms [.box b1 [.slice none 0 0, .q 0, .q 0, .q 0], .box b [.slice a1 l.length c1, .q n, .q atx, .q ex]] m) w9, ?_, ?_⟩
 refine ⟨_, (o.at 1 rfl).cell rfl, ?_⟩
 refine cond_map (fun h => ?_) (fun h => ?_) h
 refine ⟨_, (o.at 1 rfl).cell rfl, ?_⟩
 have sT3 := (st.trans st1).trans st3
 refine call_then (h _ w4 (o.mo hm (by simp) (.head _)) _ _ le_toks (f_toks.st sT3)) ?_
 rintro _ w10 ⟨x3, h, rfl, ke2⟩
 obtain ⟨st9, o⟩ := o.dE ke2
 refine ⟨_, rfl, ?_⟩
 exact ⟨h, o, st9⟩
 exact ⟨h, o, Step.refl _ _⟩
 rintro _ x2 w9 ⟨hJ, o, st8⟩
 have h := h2 x2 hJ
 refine cond_map (fun h => ?_) (fun h => ?_) h
 refine ⟨_, _, _, _, _, _, (o.at 1 rfl).whole, ?_⟩
 have sT4 := ((st.trans st1).trans st3).trans st8
 refine call_then (h _ w9 (o.mo hm (by simp) (.head _)) _ (GR11_cur_in (⟨l, n, atx, ex⟩ : GR11_cur) ⟨le1, (f1.st st8)⟩) _ _ le_toks (f_toks.st sT4)) ?_
 rintro _ w11 ⟨x4, h, ⟨cs2, rfl, f6⟩, ke3⟩
 obtain ⟨st10, o⟩ := o.dE ke3
 obtain ⟨a4, c4, rfl, ⟨le4, f7⟩⟩ := GR11_cur_out f6
 refine ⟨_, _, _, _, _, _, rfl, ?_⟩
 have sT5 := sT4.trans st10
 refine call_then (h _ w11 (o.mo hm (by simp) (.head _)) _ (GR11_cur_in x4 ⟨le4, f7⟩) _ _ le_toks (f_toks.st sT5)) ?_
 rintro _ w12 ⟨x5, h, ⟨cs3, rfl, f8⟩, ke4⟩
 obtain ⟨st11, o⟩ := o.dE ke4
 obtain ⟨a5, c5, rfl, ⟨le5, f9⟩⟩ := GR11_cur_out f8
 refine ⟨_, _, _, _, _, _, rfl, ?_⟩
 refine ⟨o.wr 0 rfl rfl, fun w13 hw13 => ?_⟩
 obtain ⟨st12, o⟩ := o.dSs 0 hw13 rfl
 refine ⟨_, _, _, _, _, _, (o.at 0 rfl).whole, ?_⟩
 exact ⟨x5, send, [], h, ⟨_, rfl, (GR11_cur_in x5 ⟨le5, (f9.st (st12.trans Mem.endS))⟩)⟩, o.done⟩
 refine ⟨_, _, _, _, _, _, (o.at 1 rfl).whole, ?_⟩
 have sT6 := ((st.trans st1).trans st3).trans st8
 refine call_then (h _ w9 (o.mo hm (by simp) (.head _)) _ (GR11_cur_in (⟨l, n, atx, ex⟩ : GR11_cur) ⟨le1, (f1.st st8)⟩) _ _ le_toks (f_toks.st sT6)) ?_
 rintro _ w14 ⟨x6, h, ⟨cs4, rfl, f10⟩, ke5⟩
 obtain ⟨st13, o⟩ := o.dE ke5
 obtain ⟨a6, c6, rfl, ⟨le6, f11⟩⟩ := GR11_cur_out f10
 refine ⟨_, _, _, _, _, _, rfl, ?_⟩
 have sT7 := sT6.trans st13
 refine call_then (h _ w14 (o.mo hm (by simp) (.head _)) _ (GR11_cur_in x6 ⟨le6, f11⟩) _ _ le_toks (f_toks.st sT7)) ?_
 rintro _ w15 ⟨r, r1, h, ⟨cs5, rfl, f12⟩, ke6⟩
 obtain ⟨st14, o⟩ := o.dE ke6
 obtain ⟨a7, c7, rfl, ⟨le7, f13⟩⟩ := GR11_cur_out f12
 refine ⟨_, _, _, _, _, _, _, rfl, ?_⟩
 refine ⟨o.wr 1 rfl rfl, fun w16 hw16 => ?_⟩
 obtain ⟨st15, o⟩ := o.dSs 1 hw16 rfl
 refine ⟨_, _, _, _, _, _, (o.at 1 rfl).whole, ?_⟩
 refine ⟨o.wr 0 rfl rfl, fun w17 hw17 => ?_⟩
 obtain ⟨st16, o⟩ := o.dSs 0 hw17 rfl
 refine ⟨_, _, _, _, _, _, (o.at 0 rfl).whole, ?_⟩
 exact ⟨r, recv, r1, h, ⟨_, rfl, (GR11_cur_in r ⟨le7, (f13.st (st15.trans (st16.trans Mem.endS)))⟩)⟩, o.done⟩
def R11_cur_args_vwp (cq : GR11_cur) (toks : List GToken) (K : GR11_cur → Prop) : Prop :=
 V_R11_cur_eat cq toks [40] (fun x =>
 ∃ (J : (List GNode) → Int → Int → Int → Prop),
 (∃ (J1 : Bool → Prop),
 (cond (x.e_ == 0)
 (V_R11_is toks x.at_ [41] (fun x2 =>
 J1 (!x2)))
 (J1 false)) ∧
 ∀ (x1 : Bool), J1 x1 →
 cond (x1)
 (V_R11_cur_term x toks (fun x3 =>
 ∃ (I : (List GNode) → Int → Int → Int → Nat → Prop), (∃ n2, I x3.l x3.n x3.at_ x3.e_ n2) ∧
 ∀ (l1 : List GNode) (n1 : Int) (atx1 : Int) (ex1 : Int) (n2 : Nat), I l1 n1 atx1 ex1 n2 →
 ∃ (J2 : Bool → Prop),
 (cond (ex1 == 0)
 (V_R11_is toks atx1 [44] (fun x5 =>
 J2 x5))
 (J2 false)) ∧
 ∀ (x4 : Bool), J2 x4 →
 cond (x4)
 (V_R11_cur_eat (⟨l1, n1, atx1, ex1⟩ : GR11_cur) toks [44] (fun x6 =>
 V_R11_cur_term x6 toks (fun x7 =>
 ∃ n3, n3 < n2 ∧ I x7.l x7.n x7.at_ x7.e_ n3)))
 (J l1 n1 atx1 ex1)))
 (J x.l x.n x.at_ x.e_)) ∧
 ∀ (l : List GNode) (n : Int) (atx : Int) (ex : Int), J l n atx ex →
 V_R11_cur_eat (⟨l, n, atx, ex⟩ : GR11_cur) toks [41] (fun x8 =>
 K x8))
theorem R11_cur_args_lift (cq : GR11_cur) (toks : List GToken) (K : GR11_cur → Prop) (h : R11_cur_args_vwp cq toks K) : V_R11_cur_args cq toks K := by
 intro m w hm cqcs f_cq toksA toksC le_toks f_toks
 obtain ⟨a, c, rfl, ⟨le, f⟩⟩ := GR11_cur_out f_cq
 have o := Mem.start hm.lt
 refine R11_cur_args_ok _ _ _ _ _ _ toksA toks.length toksC _ _ ?_
 intro b w1 hb hw1
 obtain ⟨st, o⟩ := o.dB hb hw1
 intro b1 w2 hb1 hw2
 obtain ⟨st1, o⟩ := o.dB hb1 hw2
 refine ⟨_, _, _, _, _, _, (o.at 1 rfl).whole, ?_⟩
 refine call_then (h _ w2 (o.mo hm (by simp) (.head _)) _ (GR11_cur_in cq ⟨le, (f.st (st.trans st1))⟩) _ _ le_toks (f_toks.st (st.trans st1))) ?_
 rintro _ w3 ⟨x, h, ⟨cs, rfl, f1⟩, ke⟩
 obtain ⟨st2, o⟩ := o.dE ke
 obtain ⟨a1, c1, rfl, ⟨le1, f2⟩⟩ := GR11_cur_out f1
 refine ⟨_, _, _, _, _, _, rfl, ?_⟩
 refine ⟨o.wr 1 rfl rfl, fun w4 hw4 => ?_⟩
 obtain ⟨st3, o⟩ := o.dSs 1 hw4 rfl
 obtain ⟨J, h, h2⟩ := h
 refine ⟨fun w5 => ∃ (l : List GNode) (n : Int) (atx : Int) (ex : Int) (a2 : Option Addr) (c2 : Nat), J l n atx ex ∧ (l.length ≤ c2 ∧ SlR cGNode (ms [.box b1 [.slice none 0 0, .q 0, .q 0, .q 0], .box b [.slice a2 l.length c2, .q n, .q atx, .q ex]] m) w5 a2 l) ∧ Mem w.heap.size [] m [([], w.heap.size, w)] [] w5 [.box b1 [.slice none 0 0, .q 0, .q 0, .q 0], .box b [.slice a2 l.length c2, .q n, .q atx, .q ex]] ∧ Step (ms [.box b1 [.slice none 0 0, .q 0, .q 0, .q 0], .box b [.slice a1 x.l.length c1, .q x.n, .q x.at_, .q x.e_]] m) w4 (ms [.box b1 [.slice none 0 0, .q 0, .q 0, .q 0], .box b [.slice a2 l.length c2, .q n, .q atx, .q ex]] m) w5, ?_, ?_⟩
 obtain ⟨J1, h, h2⟩ := h
 refine ⟨fun x1 w6 => J1 x1 ∧ Mem w.heap.size [] m [([], w.heap.size, w)] [] w6 [.box b1 [.slice none 0 0, .q 0, .q 0, .q 0], .box b [.slice a1 x.l.length c1, .q x.n, .q x.at_, .q x.e_]] ∧ Step (ms [.box b1 [.slice none 0 0, .q 0, .q 0, .q 0], .box b [.slice a1 x.l.length c1, .q x.n, .q x.at_, .q x.e_]] m) w4 (ms [.box b1 [.slice none 0 0, .q 0, .q 0, .q 0], .box b [.slice a1 x.l.length c1, .q x.n, .q x.at_, .q x.e_]] m) w6, ?_, ?_⟩
 refine ⟨_, (o.at 1 rfl).cell rfl, ?_⟩
 refine cond_map (fun h => ?_) (fun h => ?_) h
 refine ⟨_, (o.at 1 rfl).cell rfl, ?_⟩
 have sT := ((st.trans st1).trans st2).trans st3
 refine call_then (h _ w4 (o.mo hm (by simp) (.head _)) _ _ le_toks (f_toks.st sT)) ?_
 rintro _ w7 ⟨x2, h, rfl, ke1⟩
 obtain ⟨st6, o⟩ := o.dE ke1
 refine ⟨_, rfl, ?_⟩
 exact ⟨h, o, st6⟩
 exact ⟨h, o, Step.refl _ _⟩
 rintro _ x1 w6 ⟨hJ, o, st5⟩
 have h := h2 x1 hJ
 refine cond_map (fun h => ?_) (fun h => ?_) h
 refine ⟨_, _, _, _, _, _, (o.at 1 rfl).whole, ?_⟩
 have sT1 := (((st.trans st1).trans st2).trans st3).trans st5
 refine call_then (h _ w6 (o.mo hm (by simp) (.head _)) _ (GR11_cur_in x ⟨le1, (f2.st (st3.trans st5))⟩) _ _ le_toks (f_toks.st sT1)) ?_
 rintro _ w8 ⟨x3, h, ⟨cs1, rfl, f4⟩, ke2⟩
 obtain ⟨st7, o⟩ := o.dE ke2
 obtain ⟨a3, c3, rfl, ⟨le3, f5⟩⟩ := GR11_cur_out f4
 refine ⟨_, _, _, _, _, _, rfl, ?_⟩
 refine ⟨o.wr 1 rfl rfl, fun w9 hw9 => ?_⟩
 obtain ⟨st8, o⟩ := o.dSs 1 hw9 rfl
 obtain ⟨I, ⟨n4, h⟩, h2⟩ := h
 obtain ⟨Z, hZ⟩ : ∃ Z : World → Nat → Prop, Z = fun w10 n2 => ∃ (l1 : List GNode) (n1 : Int) (atx1 : Int) (ex1 : Int) (a4 : Option Addr) (c4 : Nat), I l1 n1 atx1 ex1 n2 ∧ (l1.length ≤ c4 ∧ SlR cGNode (ms [.box b1 [.slice none 0 0, .q 0, .q 0, .q 0], .box b [.slice a4 l1.length c4, .q n1, .q atx1, .q ex1]] m) w10 a4 l1) ∧ Mem w.heap.size [] m [([], w.heap.size, w)] [] w10 [.box b1 [.slice none 0 0, .q 0, .q 0, .q 0], .box b [.slice a4 l1.length c4, .q n1, .q atx1, .q ex1]] ∧ Step (ms [.box b1 [.slice none 0 0, .q 0, .q 0, .q 0], .box b [.slice a3 x3.l.length c3, .q x3.n, .q x3.at_, .q x3.e_]] m) w9 (ms [.box b1 [.slice none 0 0, .q 0, .q 0, .q 0], .box b [.slice a4 l1.length c4, .q n1, .q atx1, .q ex1]] m) w10 := ⟨_, rfl⟩
 refine ⟨fun w10 => ∃ n2, Z w10 n2, fun w10 => leastN (Z w10), ⟨n4, ?_⟩, ?_⟩
 rw [hZ]; exact ⟨x3.l, x3.n, x3.at_, x3.e_, a3, c3, h, ⟨le3, (f5.st st8)⟩, o, Step.refl _ _⟩
 intro _ w10 hIZ
 obtain ⟨n2, hnn2⟩ : ∃ n2, n2 = leastN (Z w10) := ⟨_, rfl⟩
 have hIZ := leastN_at hIZ
 rw [← hnn2, hZ] at hIZ
 obtain ⟨l1, n1, atx1, ex1, a4, c4, h, ⟨le4, f6⟩, o, st9⟩ := hIZ
 have h := h2 l1 n1 atx1 ex1 n2 h
 obtain ⟨J2, h, h2⟩ := h
 refine ⟨fun x4 w11 => J2 x4 ∧ Mem w.heap.size [] m [([], w.heap.size, w)] [] w11 [.box b1 [.slice none 0 0, .q 0, .q 0, .q 0], .box b [.slice a4 l1.length c4, .q n1, .q atx1, .q ex1]] ∧ Step (ms [.box b1 [.slice none 0 0, .q 0, .q 0, .q 0], .box b [.slice a4 l1.length c4, .q n1, .q atx1, .q ex1]] m) w10 (ms [.box b1 [.slice none 0 0, .q 0, .q 0, .q 0], .box b [.slice a4 l1.length c4, .q n1, .q atx1, .q ex1]] m) w11, ?_, ?_⟩
 refine ⟨_, (o.at 1 rfl).cell rfl, ?_⟩
 refine cond_map (fun h => ?_) (fun h => ?_) h
 refine ⟨_, (o.at 1 rfl).cell rfl, ?_⟩
 have sT2 := ((sT1.trans st7).trans st8).trans st9
 refine call_then (h _ w10 (o.mo hm (by simp) (.head _)) _ _ le_toks (f_toks.st sT2)) ?_
 rintro _ w12 ⟨x5, h, rfl, ke3⟩
 obtain ⟨st11, o⟩ := o.dE ke3
 refine ⟨_, rfl, ?_⟩
 exact ⟨h, o, st11⟩
 exact ⟨h, o, Step.refl _ _⟩
 rintro _ x4 w11 ⟨hJ, o, st10⟩
 have h := h2 x4 hJ
 refine cond_map (fun h => ?_) (fun h => ?_) h
 refine ⟨_, _, _, _, _, _, (o.at 1 rfl).whole, ?_⟩
 have sT3 := (((sT1.trans st7).trans st8).trans st9).trans st10
 refine call_then (h _ w11 (o.mo hm (by simp) (.head _)) _ (GR11_cur_in (⟨l1, n1, atx1, ex1⟩ : GR11_cur) ⟨le4, (f6.st st10)⟩) _ _ le_toks (f_toks.st sT3)) ?_
 rintro _ w13 ⟨x6, h, ⟨cs2, rfl, f7⟩, ke4⟩
 obtain ⟨st12, o⟩ := o.dE ke4
 obtain ⟨a5, c5, rfl, ⟨le5, f8⟩⟩ := GR11_cur_out f7
 refine ⟨_, _, _, _, _, _, rfl, ?_⟩
 have sT4 := sT3.trans st12
 refine call_then (h _ w13 (o.mo hm (by simp) (.head _)) _ (GR11_cur_in x6 ⟨le5, f8⟩) _ _ le_toks (f_toks.st sT4)) ?_
 rintro _ w14 ⟨x7, h, ⟨cs3, rfl, f9⟩, ke5⟩
 obtain ⟨st13, o⟩ := o.dE ke5
 obtain ⟨a6, c6, rfl, ⟨le6, f10⟩⟩ := GR11_cur_out f9
 refine ⟨_, _, _, _, _, _, rfl, ?_⟩
 refine ⟨o.wr 1 rfl rfl, fun w15 hw15 => ?_⟩
 obtain ⟨st14, o⟩ := o.dSs 1 hw15 rfl
 obtain ⟨n3, hl, h⟩ := h
 have sT5 := (((st9.trans st10).trans st12).trans st13).trans st14
 exact loop_again hnn2 (show Z w15 n3 from (by rw [hZ]; exact ⟨x7.l, x7.n, x7.at_, x7.e_, a6, c6, h, ⟨le6, (f10.st st14)⟩, o, sT5⟩)) hl
 have sT6 := (((st5.trans st7).trans st8).trans st9).trans st10
 exact ⟨l1, n1, atx1, ex1, a4, c4, h, ⟨le4, (f6.st st10)⟩, o, sT6⟩
 exact ⟨x.l, x.n, x.at_, x.e_, a1, c1, h, ⟨le1, (f2.st (st3.trans st5))⟩, o, st5⟩
 rintro _ w5 ⟨l, n, atx, ex, a2, c2, hJ, ⟨le2, f3⟩, o, st4⟩
 have h := h2 l n atx ex hJ
 refine ⟨_, _, _, _, _, _, (o.at 1 rfl).whole, ?_⟩
 have sT7 := (((st.trans st1).trans st2).trans st3).trans st4
 refine call_then (h _ w5 (o.mo hm (by simp) (.head _)) _ (GR11_cur_in (⟨l, n, atx, ex⟩ : GR11_cur) ⟨le2, f3⟩) _ _ le_toks (f_toks.st sT7)) ?_
 rintro _ w16 ⟨x8, h, ⟨cs4, rfl, f11⟩, ke6⟩
 obtain ⟨st15, o⟩ := o.dE ke6
 obtain ⟨a7, c7, rfl, ⟨le7, f12⟩⟩ := GR11_cur_out f11
 refine ⟨_, _, _, _, _, _, rfl, ?_⟩
 refine ⟨o.wr 0 rfl rfl, fun w17 hw17 => ?_⟩
 obtain ⟨st16, o⟩ := o.dSs 0 hw17 rfl
 refine ⟨_, _, _, _, _, _, (o.at 0 rfl).whole, ?_⟩
 exact ⟨x8, h, ⟨_, rfl, (GR11_cur_in x8 ⟨le7, (f12.st (st16.trans Mem.endS))⟩)⟩, o.done⟩
def R11_cur_size_vwp (cq : GR11_cur) (toks : List GToken) (K : GR11_cur → Int → Prop) : Prop :=
 V_R10_Tok toks cq.at_ (fun x =>
 ∃ (J : (List GNode) → Int → Int → Int → Prop),
 (∃ (J1 : Bool → Prop),
 (cond (cq.e_ == 0)
 (J1 (x.kind != 2))
 (J1 false)) ∧
 ∀ (x1 : Bool), J1 x1 →
 cond (x1)
 (J cq.l cq.n cq.at_ 11)
 (J cq.l cq.n cq.at_ cq.e_)) ∧
 ∀ (l : List GNode) (n : Int) (atx : Int) (ex : Int), J l n atx ex →
 ∃ (J2 : (List GNode) → Int → Int → Int → Prop),
 (∃ (J3 : Bool → Prop),
 (cond (ex == 0)
 (cond (decide (x.n < 1))
 (J3 true)
 (J3 (decide (x.n > 16))))
 (J3 false)) ∧
 ∀ (x2 : Bool), J3 x2 →
 cond (x2)
 (J2 l n atx 6)
 (J2 l n atx ex)) ∧
 ∀ (l1 : List GNode) (n1 : Int) (atx1 : Int) (ex1 : Int), J2 l1 n1 atx1 ex1 →
 cond (ex1 != 0)
 (K (⟨l1, n1, atx1, ex1⟩ : GR11_cur) 0)
 (K (⟨l1, n1, IntKind.i64.wrap (atx1 + 1), ex1⟩ : GR11_cur) x.n))
theorem R11_cur_size_lift (cq : GR11_cur) (toks : List GToken) (K : GR11_cur → Int → Prop) (h : R11_cur_size_vwp cq toks K) : V_R11_cur_size cq toks K := by
 intro m w hm cqcs f_cq toksA toksC le_toks f_toks
 obtain ⟨a, c, rfl, ⟨le, f⟩⟩ := GR11_cur_out f_cq
 have o := Mem.start hm.lt
 refine R11_cur_size_ok _ _ _ _ _ _ toksA toks.length toksC _ _ ?_
 intro b w1 hb hw1
 obtain ⟨st, o⟩ := o.dB hb hw1
 intro b1 w2 hb1 hw2
 obtain ⟨st1, o⟩ := o.dB hb1 hw2
 refine ⟨_, (o.at 1 rfl).cell rfl, ?_⟩
 refine call_then (h _ w2 (o.mo hm (by simp) (.head _)) _ _ le_toks (f_toks.st (st.trans st1))) ?_
 rintro _ w3 ⟨x, h, ⟨cs, rfl, f1⟩, ke⟩
 obtain ⟨st2, o⟩ := o.dE ke
 obtain rfl := GToken_out f1
 refine ⟨_, _, _, _, rfl, ?_⟩
 intro b2 w4 hb2 hw4
 obtain ⟨st3, o⟩ := o.dB hb2 hw4
 refine ⟨o.wr 0 rfl rfl, fun w5 hw5 => ?_⟩
 obtain ⟨st4, o⟩ := o.dSs 0 hw5 rfl
 obtain ⟨J, h, h2⟩ := h
 refine ⟨fun w6 => ∃ (l : List GNode) (n : Int) (atx : Int) (ex : Int) (a1 : Option Addr) (c1 : Nat), J l n atx ex ∧ (l.length ≤ c1 ∧ SlR cGNode (ms [.box b2 [.q x.kind, .s x.text, .q x.n, .q x.at_], .box b1 [.slice none 0 0, .q 0, .q 0, .q 0], .box b [.slice a1 l.length c1, .q n, .q atx, .q ex]] m) w6 a1 l) ∧ Mem w.heap.size [] m [([], w.heap.size, w)] [] w6 [.box b2 [.q x.kind, .s x.text, .q x.n, .q x.at_], .box b1 [.slice none 0 0, .q 0, .q 0, .q 0], .box b [.slice a1 l.length c1, .q n, .q atx, .q ex]] ∧ Step (ms [.box b2 [.q x.kind, .s x.text, .q x.n, .q x.at_], .box b1 [.slice none 0 0, .q 0, .q 0, .q 0], .box b [.slice a cq.l.length c, .q cq.n, .q cq.at_, .q cq.e_]] m) w5 (ms [.box b2 [.q x.kind, .s x.text, .q x.n, .q x.at_], .box b1 [.slice none 0 0, .q 0, .q 0, .q 0], .box b [.slice a1 l.length c1, .q n, .q atx, .q ex]] m) w6, ?_, ?_⟩
 obtain ⟨J1, h, h2⟩ := h
 refine ⟨fun x1 w7 => J1 x1 ∧ Mem w.heap.size [] m [([], w.heap.size, w)] [] w7 [.box b2 [.q x.kind, .s x.text, .q x.n, .q x.at_], .box b1 [.slice none 0 0, .q 0, .q 0, .q 0], .box b [.slice a cq.l.length c, .q cq.n, .q cq.at_, .q cq.e_]] ∧ Step (ms [.box b2 [.q x.kind, .s x.text, .q x.n, .q x.at_], .box b1 [.slice none 0 0, .q 0, .q 0, .q 0], .box b [.slice a cq.l.length c, .q cq.n, .q cq.at_, .q cq.e_]] m) w5 (ms [.box b2 [.q x.kind, .s x.text, .q x.n, .q x.at_], .box b1 [.slice none 0 0, .q 0, .q 0, .q 0], .box b [.slice a cq.l.length c, .q cq.n, .q cq.at_, .q cq.e_]] m) w7, ?_, ?_⟩
 refine ⟨_, (o.at 2 rfl).cell rfl, ?_⟩
 refine cond_map (fun h => ?_) (fun h => ?_) h
 refine ⟨_, (o.at 0 rfl).cell rfl, ?_⟩
 exact ⟨h, o, Step.refl _ _⟩
 exact ⟨h, o, Step.refl _ _⟩
 rintro _ x1 w7 ⟨hJ, o, st6⟩
 have h := h2 x1 hJ
 refine cond_map (fun h => ?_) (fun h => ?_) h
 refine ⟨o.wr 2 rfl rfl, fun w8 hw8 => ?_⟩
 obtain ⟨st7, o⟩ := o.dS 2 hw8 rfl
 have sT := (((((st.trans st1).trans st2).trans st3).trans st4).trans st6).trans st7
 exact ⟨cq.l, cq.n, cq.at_, 11, a, c, h, ⟨le, (f.st sT)⟩, o, (st6.trans st7)⟩
 have sT1 := ((((st.trans st1).trans st2).trans st3).trans st4).trans st6
 exact ⟨cq.l, cq.n, cq.at_, cq.e_, a, c, h, ⟨le, (f.st sT1)⟩, o, st6⟩
 rintro _ w6 ⟨l, n, atx, ex, a1, c1, hJ, ⟨le1, f2⟩, o, st5⟩
 have h := h2 l n atx ex hJ
 obtain ⟨J2, h, h2⟩ := h
 refine ⟨fun w9 => ∃ (l1 : List GNode) (n1 : Int) (atx1 : Int) (ex1 : Int) (a2 : Option Addr) (c2 : Nat), J2 l1 n1 atx1 ex1 ∧ (l1.length ≤ c2 ∧ SlR cGNode (ms [.box b2 [.q x.kind, .s x.text, .q x.n, .q x.at_], .box b1 [.slice none 0 0, .q 0, .q 0, .q 0], .box b [.slice a2 l1.length c2, .q n1, .q atx1, .q ex1]] m) w9 a2 l1) ∧ Mem w.heap.size [] m [([], w.heap.size, w)] [] w9 [.box b2 [.q x.kind, .s x.text, .q x.n, .q x.at_], .box b1 [.slice none 0 0, .q 0, .q 0, .q 0], .box b [.slice a2 l1.length c2, .q n1, .q atx1, .q ex1]] ∧ Step (ms [.box b2 [.q x.kind, .s x.text, .q x.n, .q x.at_], .box b1 [.slice none 0 0, .q 0, .q 0, .q 0], .box b [.slice a1 l.length c1, .q n, .q atx, .q ex]] m) w6 (ms [.box b2 [.q x.kind, .s x.text, .q x.n, .q x.at_], .box b1 [.slice none 0 0, .q 0, .q 0, .q 0], .box b [.slice a2 l1.length c2, .q n1, .q atx1, .q ex1]] m) w9, ?_, ?_⟩
 obtain ⟨J3, h, h2⟩ := h
 refine ⟨fun x2 w10 => J3 x2 ∧ Mem w.heap.size [] m [([], w.heap.size, w)] [] w10 [.box b2 [.q x.kind, .s x.text, .q x.n, .q x.at_], .box b1 [.slice none 0 0, .q 0, .q 0, .q 0], .box b [.slice a1 l.length c1, .q n, .q atx, .q ex]] ∧ Step (ms [.box b2 [.q x.kind, .s x.text, .q x.n, .q x.at_], .box b1 [.slice none 0 0, .q 0, .q 0, .q 0], .box b [.slice a1 l.length c1, .q n, .q atx, .q ex]] m) w6 (ms [.box b2 [.q x.kind, .s x.text, .q x.n, .q x.at_], .box b1 [.slice none 0 0, .q 0, .q 0, .q 0], .box b [.slice a1 l.length c1, .q n, .q atx, .q ex]] m) w10, ?_, ?_⟩
 refine ⟨_, (o.at 2 rfl).cell rfl, ?_⟩
 refine cond_map (fun h => ?_) (fun h => ?_) h
 refine ⟨_, (o.at 0 rfl).cell rfl, ?_⟩
 refine cond_map (fun h => ?_) (fun h => ?_) h
 exact ⟨h, o, Step.refl _ _⟩
 refine ⟨_, (o.at 0 rfl).cell rfl, ?_⟩
 exact ⟨h, o, Step.refl _ _⟩
 exact ⟨h, o, Step.refl _ _⟩
 rintro _ x2 w10 ⟨hJ, o, st9⟩
 have h := h2 x2 hJ
 refine cond_map (fun h => ?_) (fun h => ?_) h
 refine ⟨o.wr 2 rfl rfl, fun w11 hw11 => ?_⟩
 obtain ⟨st10, o⟩ := o.dS 2 hw11 rfl
 exact ⟨l, n, atx, 6, a1, c1, h, ⟨le1, (f2.st (st9.trans st10))⟩, o, (st9.trans st10)⟩
 exact ⟨l, n, atx, ex, a1, c1, h, ⟨le1, (f2.st st9)⟩, o, st9⟩
 rintro _ w9 ⟨l1, n1, atx1, ex1, a2, c2, hJ, ⟨le2, f3⟩, o, st8⟩
 have h := h2 l1 n1 atx1 ex1 hJ
 refine ⟨_, (o.at 2 rfl).cell rfl, ?_⟩
 refine cond_map (fun h => ?_) (fun h => ?_) h
 refine ⟨_, _, _, _, _, _, (o.at 2 rfl).whole, ?_⟩
 refine ⟨o.wr 1 rfl rfl, fun w12 hw12 => ?_⟩
 obtain ⟨st11, o⟩ := o.dSs 1 hw12 rfl
 refine ⟨_, _, _, _, _, _, (o.at 1 rfl).whole, ?_⟩
 exact ⟨(⟨l1, n1, atx1, ex1⟩ : GR11_cur), 0, h, ⟨_, rfl, (GR11_cur_in (⟨l1, n1, atx1, ex1⟩ : GR11_cur) ⟨le2, (f3.st (st11.trans Mem.endS))⟩)⟩, o.done⟩
 refine ⟨_, (o.at 2 rfl).cell rfl, ?_⟩
 refine ⟨o.wr 2 rfl rfl, fun w13 hw13 => ?_⟩
 obtain ⟨st12, o⟩ := o.dS 2 hw13 rfl
 intro w14 hw14
 obtain ⟨st13, o⟩ := o.dD hw14
 have ox := o
 refine ⟨fun u => Keep [b1] w14 u, Keep.refl _ _, ?_⟩
 refine ⟨_, _, _, _, _, _, fun u hu => ((ox.at 2 rfl).keep hu (fun h => by (simp only [List.mem_cons, List.not_mem_nil, or_false] at h; rcases h with h; exact ox.neq 2 1 rfl rfl (by decide) h))).whole, ?_⟩
 refine ⟨_, fun u hu => ((ox.at 0 rfl).keep hu (fun h => by (simp only [List.mem_cons, List.not_mem_nil, or_false] at h; rcases h with h; exact ox.neq 0 1 rfl rfl (by decide) h))).cell rfl, ?_⟩
 refine ⟨o.wr 1 rfl rfl, fun w15 hw15 => ?_⟩
 obtain ⟨st14, o⟩ := o.dSs 1 hw15 rfl
 refine ⟨(Keep.mono (keep_sets hw15) (by simp)), ?_⟩
 refine ⟨_, _, _, _, _, _, (o.at 1 rfl).whole, ?_⟩
 exact ⟨(⟨l1, n1, IntKind.i64.wrap (atx1 + 1), ex1⟩ : GR11_cur), x.n, h, ⟨_, rfl, (GR11_cur_in (⟨l1, n1, IntKind.i64.wrap (atx1 + 1), ex1⟩ : GR11_cur) ⟨le2, (f3.st (st12.trans (st13.trans (st14.trans Mem.endS))))⟩)⟩, o.done⟩
def R11_cur_param_vwp (cq : GR11_cur) (toks : List GToken) (K : GR11_cur → Prop) : Prop :=
 cond (cq.e_ != 0)
 (K cq)
 (V_R11_from cq.at_ (fun x =>
 V_R11_cur_name x toks (fun r r1 =>
 V_R10_Tok toks cq.at_ (fun x1 =>
 V_R11_cur_under r (⟨39, r1, 0, 0, x1.at_⟩ : GNode) (fun x2 =>
 V_R11_cur_add cq x2 (fun x3 =>
 K x3))))))
theorem R11_cur_param_lift (cq : GR11_cur) (toks : List GToken) (K : GR11_cur → Prop) (h : R11_cur_param_vwp cq toks K) : V_R11_cur_param cq toks K := by
 intro m w hm cqcs f_cq toksA toksC le_toks f_toks
 obtain ⟨a, c, rfl, ⟨le, f⟩⟩ := GR11_cur_out f_cq
 have o := Mem.start hm.lt
 refine R11_cur_param_ok _ _ _ _ _ _ toksA toks.length toksC _ _ ?_
 intro b w1 hb hw1
 obtain ⟨st, o⟩ := o.dB hb hw1
 intro b1 w2 hb1 hw2
 obtain ⟨st1, o⟩ := o.dB hb1 hw2
 refine ⟨_, (o.at 1 rfl).cell rfl, ?_⟩
 refine cond_map (fun h => ?_) (fun h => ?_) h
 refine ⟨_, _, _, _, _, _, (o.at 1 rfl).whole, ?_⟩
 refine ⟨o.wr 0 rfl rfl, fun w3 hw3 => ?_⟩
 obtain ⟨st2, o⟩ := o.dSs 0 hw3 rfl
 refine ⟨_, _, _, _, _, _, (o.at 0 rfl).whole, ?_⟩
 exact ⟨cq, h, ⟨_, rfl, (GR11_cur_in cq ⟨le, (f.st (st.trans (st1.trans (st2.trans Mem.endS))))⟩)⟩, o.done⟩
 refine ⟨_, (o.at 1 rfl).cell rfl, ?_⟩
 refine call_then (h _ w2 (o.mo hm (by simp) (.head _))) ?_
 rintro _ w4 ⟨x, h, ⟨cs, rfl, f1⟩, ke⟩
 obtain ⟨st3, o⟩ := o.dE ke
 obtain ⟨a1, c1, rfl, ⟨le1, f2⟩⟩ := GR11_cur_out f1
 refine ⟨_, _, _, _, _, _, rfl, ?_⟩
 have sT := (st.trans st1).trans st3
 refine call_then (h _ w4 (o.mo hm (by simp) (.head _)) _ (GR11_cur_in x ⟨le1, f2⟩) _ _ le_toks (f_toks.st sT)) ?_
 rintro _ w5 ⟨r, r1, h, ⟨cs1, rfl, f3⟩, ke1⟩
 obtain ⟨st4, o⟩ := o.dE ke1
 obtain ⟨a2, c2, rfl, ⟨le2, f4⟩⟩ := GR11_cur_out f3
 refine ⟨_, _, _, _, _, _, _, rfl, ?_⟩
 intro b2 w6 hb2 hw6
 obtain ⟨st5, o⟩ := o.dB hb2 hw6
 refine ⟨o.wr 0 rfl rfl, fun w7 hw7 => ?_⟩
 obtain ⟨st6, o⟩ := o.dSs 0 hw7 rfl
 intro w8 hw8
 obtain ⟨st7, o⟩ := o.dD hw8
 have ox := o
 refine ⟨fun u => Keep [] w8 u, Keep.refl _ _, ?_⟩
 refine ⟨_, _, _, _, _, _, fun u hu => ((ox.at 2 rfl).keep hu (by simp)).whole, ?_⟩
 refine ⟨_, _, _, _, _, _, fun u hu => ((ox.at 0 rfl).keep hu (by simp)).whole, ?_⟩
 refine ⟨_, fun u hu => ((ox.at 2 rfl).keep hu (by simp)).cell rfl, ?_⟩
 have sT1 := (((sT.trans st4).trans st5).trans st6).trans st7
 refine call_then (h _ w8 (o.mo hm (by simp) (.head _)) _ _ le_toks (f_toks.st sT1)) ?_
 rintro _ w9 ⟨x1, h, ⟨cs2, rfl, f5⟩, ke2⟩
 obtain ⟨st8, o⟩ := o.dE ke2
 obtain rfl := GToken_out f5
 refine ⟨_, _, _, _, rfl, ?_⟩
 refine ⟨(ke2.mono (by simp)), ?_⟩
 have sT2 := ((st5.trans st6).trans st7).trans st8
 refine call_then (h _ w9 (o.mo hm (by simp) (.head _)) _ (GR11_cur_in r ⟨le2, (f4.st sT2)⟩) _ (GNode_in (⟨39, r1, 0, 0, x1.at_⟩ : GNode))) ?_
 rintro _ w10 ⟨x2, h, ⟨cs3, rfl, f6⟩, ke3⟩
 obtain ⟨st9, o⟩ := o.dE ke3
 obtain ⟨a3, c3, rfl, ⟨le3, f7⟩⟩ := GR11_cur_out f6
 refine ⟨_, _, _, _, _, _, rfl, ?_⟩
 refine ⟨((ke2.mono (by simp)).trans (ke3.mono (by simp))), ?_⟩
 have sT3 := (sT1.trans st8).trans st9
 refine call_then (h _ w10 (o.mo hm (by simp) (.head _)) _ (GR11_cur_in cq ⟨le, (f.st sT3)⟩) _ (GR11_cur_in x2 ⟨le3, f7⟩)) ?_
 rintro _ w11 ⟨x3, h, ⟨cs4, rfl, f8⟩, ke4⟩
 obtain ⟨st10, o⟩ := o.dE ke4
 obtain ⟨a4, c4, rfl, ⟨le4, f9⟩⟩ := GR11_cur_out f8
 refine ⟨_, _, _, _, _, _, rfl, ?_⟩
 refine ⟨o.wr 1 rfl rfl, fun w12 hw12 => ?_⟩
 obtain ⟨st11, o⟩ := o.dSs 1 hw12 rfl
 refine ⟨_, _, _, _, _, _, (o.at 1 rfl).whole, ?_⟩
 exact ⟨x3, h, ⟨_, rfl, (GR11_cur_in x3 ⟨le4, (f9.st (st11.trans Mem.endS))⟩)⟩, o.done⟩
def R10_Tok_vwp (toks : List GToken) (atx : Int) (K : GToken → Prop) : Prop :=
 cond (decide (atx < (toks.length : Int)))
 (((0 : Int) ≤ atx ∧ atx < (toks.length : Int)) ∧
 ∀ x, toks[atx.toNat]? = some x →
 K x)
 (K (⟨0, [], 0, 0⟩ : GToken))
theorem R10_Tok_lift (toks : List GToken) (atx : Int) (K : GToken → Prop) (h : R10_Tok_vwp toks atx K) : V_R10_Tok toks atx K := by
 intro m w hm toksA toksC le_toks f_toks
 have o := Mem.start hm.lt
 refine R10_Tok_ok toksA toks.length toksC atx _ _ ?_
 intro b w1 hb hw1
 obtain ⟨st, o⟩ := o.dB hb hw1
 refine cond_map (fun h => ?_) (fun h => ?_) h
 obtain ⟨hi, h⟩ := h
 obtain ⟨p, x, cs, hp, he, hc, hr⟩ := (f_toks.st st).elem hi
 obtain rfl := GToken_out hr
 have h := h x he
 refine ⟨hi, ptrOr_some hp ?_⟩
 refine ⟨_, _, _, _, hc.2, ?_⟩
 refine ⟨o.wr 0 rfl rfl, fun w2 hw2 => ?_⟩
 obtain ⟨st1, o⟩ := o.dSs 0 hw2 rfl
 refine ⟨_, _, _, _, (o.at 0 rfl).whole, ?_⟩
 exact ⟨x, h, ⟨_, rfl, (GToken_in x)⟩, o.done⟩
 refine ⟨o.wr 0 rfl rfl, fun w3 hw3 => ?_⟩
 obtain ⟨st2, o⟩ := o.dSs 0 hw3 rfl
 refine ⟨_, _, _, _, (o.at 0 rfl).whole, ?_⟩
 exact ⟨(⟨0, [], 0, 0⟩ : GToken), h, ⟨_, rfl, (GToken_in (⟨0, [], 0, 0⟩ : GToken))⟩, o.done⟩
def token_All_vwp (sx : List UInt8) (K : (List GToken) → Int → Int → Prop) : Prop :=
 cond (decide ((sx.length : Int) > 65536))
 (K [] 0 5)
 (∃ (I : (List GToken) → Int → Nat → Prop), (∃ n, I [] 0 n) ∧
 ∀ (out : List GToken) (atx : Int) (n : Nat), I out atx n →
 V_token_Next sx atx (fun r r1 r2 =>
 cond (r2 != 0)
 (K [] r1 r2)
 (out.length + [r].length < 2 ^ 32 ∧
 cond (r.kind == 0)
 (K (out ++ [r]) r.at_ 0)
 (∃ n1, n1 < n ∧ I (out ++ [r]) r1 n1))))
theorem token_All_lift (sx : List UInt8) (K : (List GToken) → Int → Int → Prop) (h : token_All_vwp sx K) : V_token_All sx K := by
 intro m w hm
 have o := Mem.start hm.lt
 refine token_All_ok sx _ _ ?_
 refine cond_map (fun h => ?_) (fun h => ?_) h
 exact ⟨[], 0, 5, h, ⟨_, _, rfl, ⟨(Nat.le_refl _), (SlR.nil _ _ _ _)⟩⟩, o.done⟩
 have st := o.xN 44 4
 have o := o.nilrow 44 4
 obtain ⟨I, ⟨n2, h⟩, h2⟩ := h
 obtain ⟨Z, hZ⟩ : ∃ Z : (Option Addr) → Nat → Nat → Int → World → Nat → Prop, Z = fun ou ou1 ou2 atx w1 n => ∃ (out : List GToken) (xs : List Value), I out atx n ∧ El cGToken (ms [.row 44 4 ou out.length ou2 xs] m) w1 out xs ∧ ou1 = out.length ∧ Mem w.heap.size [] m [([], w.heap.size, w)] [] w1 [.row 44 4 ou out.length ou2 xs] ∧ Step (ms [.row 44 4 none 0 0 []] m) w (ms [.row 44 4 ou out.length ou2 xs] m) w1 := ⟨_, rfl⟩
 refine ⟨fun ou ou1 ou2 atx w1 => ∃ n, Z ou ou1 ou2 atx w1 n, fun ou ou1 ou2 atx w1 => leastN (Z ou ou1 ou2 atx w1), ⟨n2, ?_⟩, ?_⟩
 rw [hZ]; exact ⟨[], [], h, (El.nil _ _ _), rfl, o, Step.refl _ _⟩
 intro _ ou ou1 ou2 atx w1 hIZ
 obtain ⟨n, hnn⟩ : ∃ n, n = leastN (Z ou ou1 ou2 atx w1) := ⟨_, rfl⟩
 have hIZ := leastN_at hIZ
 rw [← hnn, hZ] at hIZ
 obtain ⟨out, xs, h, el, rfl, o, st1⟩ := hIZ
 have h := h2 out atx n h
 refine call_then (h _ w1 (o.mo hm (by simp) (.head _))) ?_
 rintro _ w2 ⟨r, r1, r2, h, ⟨cs, rfl, f⟩, ke⟩
 obtain ⟨st2, o⟩ := o.dE ke
 obtain rfl := GToken_out f
 refine ⟨_, _, _, _, _, _, rfl, ?_⟩
 intro b w3 hb hw3
 obtain ⟨st3, o⟩ := o.dB hb hw3
 refine ⟨o.wr 0 rfl rfl, fun w4 hw4 => ?_⟩
 obtain ⟨st4, o⟩ := o.dSs 0 hw4 rfl
 refine cond_map (fun h => ?_) (fun h => ?_) h
 exact ⟨[], r1, r2, h, ⟨_, _, rfl, ⟨(Nat.le_refl _), (SlR.nil _ _ _ _)⟩⟩, o.done⟩
 refine ⟨_, _, _, _, (o.at 0 rfl).whole, ?_⟩
 intro b1 w5 hb1 hw5
 have el1 : El cGToken (ms [.box b [.q r.kind, .s r.text, .q r.n, .q r.at_], .row 44 4 ou out.length ou2 xs] m) w4 [r] ([.q r.kind, .s r.text, .q r.n, .q r.at_] : List Value) := (El.cons (cs := [.q r.kind, .s r.text, .q r.n, .q r.at_]) (GToken_in r) (El.nil _ _ _))
 have st5 := o.xL hb1 hw5 4 1
 have o := o.lit hb1 hw5 4 1 (by decide) rfl
 obtain ⟨lt, h⟩ := h
 have sT := ((st2.trans st3).trans st4).trans st5
 have el3 := ((el.st sT)).app (el1.st st5)
 refine append_sl sl_44 (o.rowAt 2 rfl) (o.rowAt 0 rfl).sl (el1.st st5).len (el1.st st5).one (by first | (simp; done) | simpa using lt) (by decide) (Nat.zero_le _) fun a c w6 hr hg hat => ?_
 have ln : out.length + 1 = (out ++ [r]).length := (by first | (simp; done) | (simp; omega))
 rw [ln] at hr ⊢
 refine ⟨_, _, _, rfl, ?_⟩
 have st6 := o.xA 2 rfl hr hg hat
 have o := o.app 2 rfl hr hg hat
 refine ⟨_, (o.at 1 rfl).cell rfl, ?_⟩
 refine cond_map (fun h => ?_) (fun h => ?_) h
 intro w7 hw7
 obtain ⟨st7, o⟩ := o.dD hw7
 refine ⟨_, (o.at 1 rfl).cell rfl, ?_⟩
 have le := (o.rowAt 2 rfl).cap
 have st8 := o.xX 2
 have sT1 := (st6.trans st7).trans st8
 have f1 := o.freeze (c := cGToken) (l := (out ++ [r])) 2 rfl (fun b hb => by simp at hb) (el3.st sT1)
 have o := o.erase 2
 exact ⟨(out ++ [r]), r.at_, 0, h, ⟨_, _, rfl, ⟨le, (f1.st Mem.endS)⟩⟩, o.done⟩
 have st9 := o.xX 0
 have o := o.erase 0
 obtain ⟨st10, o⟩ := o.dX 0
 obtain ⟨n1, hl, h⟩ := h
 have sT2 := (st6.trans st9).trans st10
 have sT3 := ((((((st1.trans st2).trans st3).trans st4).trans st5).trans st6).trans st9).trans st10
 exact loop_again hnn (show Z _ _ _ _ w6 n1 from (by rw [hZ]; exact ⟨(out ++ [r]), (xs ++ ([.q r.kind, .s r.text, .q r.n, .q r.at_] : List Value)), h, (el3.st sT2), rfl, o, sT3⟩)) hl
def R08_All_vwp (sx : List UInt8) (K : GR08_List → Prop) : Prop :=
 cond (decide ((sx.length : Int) > 65536))
 (K (⟨[], 0, 5⟩ : GR08_List))
 (∃ (I : Int → (List GToken) → Int → Int → Int → Int → Nat → Prop), (∃ n, I 0 [] 0 0 0 0 n) ∧
 ∀ (atx : Int) (L : List GToken) (At : Int) (E : Int) (At1 : Int) (E1 : Int) (n : Nat), I atx L At E At1 E1 n →
 V_R08_Next sx atx (fun x =>
 cond (x.e_ != 0)
 (K (⟨[], x.next, x.e_⟩ : GR08_List))
 (L.length + [x.t].length < 2 ^ 32 ∧
 cond (x.t.kind == 0)
 (K (⟨(L ++ [x.t]), x.t.at_, E⟩ : GR08_List))
 (∃ n1, n1 < n ∧ I x.next (L ++ [x.t]) x.t.at_ E At1 E1 n1))))
theorem R08_All_lift (sx : List UInt8) (K : GR08_List → Prop) (h : R08_All_vwp sx K) : V_R08_All sx K := by
 intro m w hm
 have o := Mem.start hm.lt
 refine R08_All_ok sx _ _ ?_
 intro b w1 hb hw1
 obtain ⟨st, o⟩ := o.dB hb hw1
 refine cond_map (fun h => ?_) (fun h => ?_) h
 refine ⟨o.wr 0 rfl rfl, fun w2 hw2 => ?_⟩
 obtain ⟨st1, o⟩ := o.dSs 0 hw2 rfl
 refine ⟨_, _, _, _, _, (o.at 0 rfl).whole, ?_⟩
 exact ⟨(⟨[], 0, 5⟩ : GR08_List), h, ⟨_, rfl, (GR08_List_in (⟨[], 0, 5⟩ : GR08_List) ⟨(Nat.le_refl _), (SlR.nil _ _ _ _)⟩)⟩, o.done⟩
 intro b1 w3 hb1 hw3
 obtain ⟨st2, o⟩ := o.dB hb1 hw3
 have st3 := o.xN 44 4
 have o := o.nilrow 44 4
 obtain ⟨I, ⟨n2, h⟩, h2⟩ := h
 obtain ⟨Z, hZ⟩ : ∃ Z : Int → World → Nat → Prop, Z = fun atx w4 n => ∃ (L : List GToken) (At : Int) (E : Int) (At1 : Int) (E1 : Int) (xs : List Value) (a : Option Addr) (c : Nat), I atx L At E At1 E1 n ∧ El cGToken (ms [.row 44 4 a L.length c xs, .box b1 [.slice a L.length c, .q At, .q E], .box b [.slice none 0 0, .q At1, .q E1]] m) w4 L xs ∧ Mem w.heap.size [] m [([], w.heap.size, w)] [] w4 [.row 44 4 a L.length c xs, .box b1 [.slice a L.length c, .q At, .q E], .box b [.slice none 0 0, .q At1, .q E1]] ∧ Step (ms [.row 44 4 none 0 0 [], .box b1 [.slice none 0 0, .q 0, .q 0], .box b [.slice none 0 0, .q 0, .q 0]] m) w3 (ms [.row 44 4 a L.length c xs, .box b1 [.slice a L.length c, .q At, .q E], .box b [.slice none 0 0, .q At1, .q E1]] m) w4 := ⟨_, rfl⟩
 refine ⟨fun atx w4 => ∃ n, Z atx w4 n, fun atx w4 => leastN (Z atx w4), ⟨n2, ?_⟩, ?_⟩
 rw [hZ]; exact ⟨[], 0, 0, 0, 0, [], none, 0, h, (El.nil _ _ _), o, Step.refl _ _⟩
 intro _ atx w4 hIZ
 obtain ⟨n, hnn⟩ : ∃ n, n = leastN (Z atx w4) := ⟨_, rfl⟩
 have hIZ := leastN_at hIZ
 rw [← hnn, hZ] at hIZ
 obtain ⟨L, At, E, At1, E1, xs, a, c, h, el, o, st4⟩ := hIZ
 have h := h2 atx L At E At1 E1 n h
 refine call_then (h _ w4 (o.mo hm (by simp) (.head _))) ?_
 rintro _ w5 ⟨x, h, ⟨cs, rfl, f⟩, ke⟩
 obtain ⟨st5, o⟩ := o.dE ke
 obtain rfl := GR08_Got_out f
 refine ⟨_, _, _, _, _, _, rfl, ?_⟩
 intro b2 w6 hb2 hw6
 obtain ⟨st6, o⟩ := o.dB hb2 hw6
 refine ⟨o.wr 0 rfl rfl, fun w7 hw7 => ?_⟩
 obtain ⟨st7, o⟩ := o.dSs 0 hw7 rfl
 refine ⟨_, (o.at 0 rfl).cell rfl, ?_⟩
 refine cond_map (fun h => ?_) (fun h => ?_) h
 refine ⟨_, (o.at 0 rfl).cell rfl, ?_⟩
 refine ⟨_, (o.at 0 rfl).cell rfl, ?_⟩
 refine ⟨o.wr 3 rfl rfl, fun w8 hw8 => ?_⟩
 obtain ⟨st8, o⟩ := o.dSs 3 hw8 rfl
 refine ⟨_, _, _, _, _, (o.at 3 rfl).whole, ?_⟩
 exact ⟨(⟨[], x.next, x.e_⟩ : GR08_List), h, ⟨_, rfl, (GR08_List_in (⟨[], x.next, x.e_⟩ : GR08_List) ⟨(Nat.le_refl _), (SlR.nil _ _ _ _)⟩)⟩, o.done⟩
 refine ⟨_, _, _, (o.at 2 rfl).cell rfl, ?_⟩
 refine ⟨_, _, _, _, (o.at 0 rfl).cells (m := [.q x.t.kind, .s x.t.text, .q x.t.n, .q x.t.at_]) 0 (fun j hj => by match j, hj with | 0, _ => rfl | 1, _ => rfl | 2, _ => rfl | 3, _ => rfl), ?_⟩
 intro b3 w9 hb3 hw9
 have el1 : El cGToken (ms [.box b2 [.q x.t.kind, .s x.t.text, .q x.t.n, .q x.t.at_, .q x.next, .q x.e_], .row 44 4 a L.length c xs, .box b1 [.slice a L.length c, .q At, .q E], .box b [.slice none 0 0, .q At1, .q E1]] m) w7 [x.t] ([.q x.t.kind, .s x.t.text, .q x.t.n, .q x.t.at_] : List Value) := (El.cons (cs := [.q x.t.kind, .s x.t.text, .q x.t.n, .q x.t.at_]) (GToken_in x.t) (El.nil _ _ _))
 have st9 := o.xL hb3 hw9 4 1
 have o := o.lit hb3 hw9 4 1 (by decide) rfl
 obtain ⟨lt, h⟩ := h
 have sT := ((st5.trans st6).trans st7).trans st9
 have el3 := ((el.st sT)).app (el1.st st9)
 refine append_sl sl_44 (o.rowAt 2 rfl) (o.rowAt 0 rfl).sl (el1.st st9).len (el1.st st9).one (by first | (simp; done) | simpa using lt) (by decide) (Nat.zero_le _) fun a1 c1 w10 hr hg hat => ?_
 have ln : L.length + 1 = (L ++ [x.t]).length := (by first | (simp; done) | (simp; omega))
 rw [ln] at hr ⊢
 refine ⟨_, _, _, rfl, ?_⟩
 have st10 := o.xA 2 rfl hr hg hat
 have o := o.app 2 rfl hr hg hat
 refine ⟨o.wr 3 rfl rfl, fun w11 hw11 => ?_⟩
 obtain ⟨st11, o⟩ := o.dS 3 hw11 rfl
 refine ⟨_, (o.at 1 rfl).cell rfl, ?_⟩
 refine ⟨o.wr 3 rfl rfl, fun w12 hw12 => ?_⟩
 obtain ⟨st12, o⟩ := o.dS 3 hw12 rfl
 refine ⟨_, (o.at 1 rfl).cell rfl, ?_⟩
 refine cond_map (fun h => ?_) (fun h => ?_) h
 refine ⟨_, _, _, _, _, (o.at 3 rfl).whole, ?_⟩
 refine ⟨o.wr 4 rfl rfl, fun w13 hw13 => ?_⟩
 obtain ⟨st13, o⟩ := o.dSs 4 hw13 rfl
 refine ⟨_, _, _, _, _, (o.at 4 rfl).whole, ?_⟩
 have le := (o.rowAt 2 rfl).cap
 have st14 := o.xX 2
 have sT1 := (((st10.trans st11).trans st12).trans st13).trans st14
 have f1 := o.freeze (c := cGToken) (l := (L ++ [x.t])) 2 rfl (fun b hb => by simp at hb) (el3.st sT1)
 have o := o.erase 2
 exact ⟨(⟨(L ++ [x.t]), x.t.at_, E⟩ : GR08_List), h, ⟨_, rfl, (GR08_List_in (⟨(L ++ [x.t]), x.t.at_, E⟩ : GR08_List) ⟨le, (f1.st Mem.endS)⟩)⟩, o.done⟩
 refine ⟨_, (o.at 1 rfl).cell rfl, ?_⟩
 obtain ⟨st15, o⟩ := o.dX 0
 obtain ⟨st16, o⟩ := o.dX 0
 obtain ⟨n1, hl, h⟩ := h
 have sT2 := (((st10.trans st11).trans st12).trans st15).trans st16
 have sT3 := ((((((((st4.trans st5).trans st6).trans st7).trans st9).trans st10).trans st11).trans st12).trans st15).trans st16
 exact loop_again hnn (show Z _ w12 n1 from (by rw [hZ]; exact ⟨(L ++ [x.t]), x.t.at_, E, At1, E1, (xs ++ ([.q x.t.kind, .s x.t.text, .q x.t.n, .q x.t.at_] : List Value)), a1, c1, h, (el3.st sT2), o, sT3⟩)) hl
end Go.Proofs.Ytdbdkdmgfiiljaa
