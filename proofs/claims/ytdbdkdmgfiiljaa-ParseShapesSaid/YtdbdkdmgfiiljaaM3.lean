/- A part of the proof: conditions of the code, contracts, the plain law. -/
import Derived.Test.YtdbdkdmgfiiljaaM2
import Derived.Test.YtdbdkdmgfiiljaaMapL
namespace Go.Proofs.Ytdbdkdmgfiiljaa
open Go.Vc Go.Lv Go.Ty
set_option maxRecDepth 10000
def parse_reader_stmt_vwp (r : Gparse_reader) (K : Gparse_reader → Prop) : Prop :=
 V_parse_reader_see r 0 (fun x =>
 V_parse_reader_open r 0 (fun i r1 =>
 cond (x.kind == 1)
 (∃ (J : Int → Int → (List GNode) → Int → Prop),
 (V_parse_reader_is (⟨r.toks, r1.at_, r1.deep, r1.l, r1.e_⟩ : Gparse_reader) 1 [61] (fun x1 =>
 cond (x1)
 (((0 : Int) ≤ i ∧ i < (r1.l.length : Int)) ∧
 ∀ x2, r1.l[i.toNat]? = some x2 →
 V_parse_reader_set (⟨r.toks, r1.at_, r1.deep, (r1.l.set i.toNat (⟨19, x2.name, x2.n, x2.kids, x2.at_⟩ : GNode)), r1.e_⟩ : Gparse_reader) i (fun r2 =>
 J r2.at_ r2.deep r2.l r2.e_))
 (V_parse_reader_comm (⟨r.toks, r1.at_, r1.deep, r1.l, r1.e_⟩ : Gparse_reader) i 21 22 (fun r3 =>
 J r3.at_ r3.deep r3.l r3.e_)))) ∧
 ∀ (atx : Int) (de : Int) (l : List GNode) (ex : Int), J atx de l ex →
 V_parse_reader_must (⟨r.toks, atx, de, l, ex⟩ : Gparse_reader) ([[59]] : List (List UInt8)) (fun r4 =>
 K (⟨r.toks, r4.at_, r4.deep, l, r4.e_⟩ : Gparse_reader)))
 (getG ([] : List (List UInt8 × Int)) [115, 108, 101, 101, 112] = none ∧
 getG (([] : List (List UInt8 × Int)) ++ [([115, 108, 101, 101, 112], 27)]) [112, 114, 105, 110, 116] = none ∧
 getG ((([] : List (List UInt8 × Int)) ++ [([115, 108, 101, 101, 112], 27)]) ++ [([112, 114, 105, 110, 116], 28)]) [97, 115, 115, 101, 114, 116] = none ∧
 getG (((([] : List (List UInt8 × Int)) ++ [([115, 108, 101, 101, 112], 27)]) ++ [([112, 114, 105, 110, 116], 28)]) ++ [([97, 115, 115, 101, 114, 116], 29)]) [115, 107, 105, 112] = none ∧
 getG ((((([] : List (List UInt8 × Int)) ++ [([115, 108, 101, 101, 112], 27)]) ++ [([112, 114, 105, 110, 116], 28)]) ++ [([97, 115, 115, 101, 114, 116], 29)]) ++ [([115, 107, 105, 112], 30)]) [115, 116, 111, 112] = none ∧
 cond (x.kind != 3)
 (V_parse_reader_fail (⟨r.toks, r1.at_, r1.deep, r1.l, r1.e_⟩ : Gparse_reader) 11 (fun r5 =>
 K (⟨r.toks, r5.at_, r5.deep, r1.l, r5.e_⟩ : Gparse_reader)))
 (∃ (J1 : Int → Int → (List GNode) → Int → Prop),
 (cond (x.text == [118, 97, 114])
 (((0 : Int) ≤ i ∧ i < (r1.l.length : Int)) ∧
 ∀ x3, r1.l[i.toNat]? = some x3 →
 ∃ (J2 : Int → Int → (List GNode) → Int → Prop),
 (V_parse_reader_name (⟨r.toks, IntKind.i64.wrap (r1.at_ + 1), r1.deep, (r1.l.set i.toNat (⟨18, x3.name, x3.n, x3.kids, x3.at_⟩ : GNode)), r1.e_⟩ : Gparse_reader) (fun x4 r6 =>
 ((0 : Int) ≤ i ∧ i < ((r1.l.set i.toNat (⟨18, x3.name, x3.n, x3.kids, x3.at_⟩ : GNode)).length : Int)) ∧
 ∀ x5, (r1.l.set i.toNat (⟨18, x3.name, x3.n, x3.kids, x3.at_⟩ : GNode))[i.toNat]? = some x5 →
 J2 r6.at_ r6.deep ((r1.l.set i.toNat (⟨18, x3.name, x3.n, x3.kids, x3.at_⟩ : GNode)).set i.toNat (⟨x5.op, x4, x5.n, x5.kids, x5.at_⟩ : GNode)) r6.e_)) ∧
 ∀ (atx2 : Int) (de2 : Int) (l2 : List GNode) (ex2 : Int), J2 atx2 de2 l2 ex2 →
 V_parse_reader_must (⟨r.toks, atx2, de2, l2, ex2⟩ : Gparse_reader) ([[61]] : List (List UInt8)) (fun r7 =>
 V_parse_reader_term (⟨r.toks, r7.at_, r7.deep, l2, r7.e_⟩ : Gparse_reader) i (fun r8 =>
 J1 r8.at_ r8.deep r8.l r8.e_)))
 (cond (x.text == [115, 116, 97, 114, 116])
 (((0 : Int) ≤ i ∧ i < (r1.l.length : Int)) ∧
 ∀ x6, r1.l[i.toNat]? = some x6 →
 ∃ (J3 : Int → Int → (List GNode) → Int → Prop),
 (V_parse_reader_name (⟨r.toks, IntKind.i64.wrap (r1.at_ + 1), r1.deep, (r1.l.set i.toNat (⟨26, x6.name, x6.n, x6.kids, x6.at_⟩ : GNode)), r1.e_⟩ : Gparse_reader) (fun x7 r9 =>
 ((0 : Int) ≤ i ∧ i < ((r1.l.set i.toNat (⟨26, x6.name, x6.n, x6.kids, x6.at_⟩ : GNode)).length : Int)) ∧
 ∀ x8, (r1.l.set i.toNat (⟨26, x6.name, x6.n, x6.kids, x6.at_⟩ : GNode))[i.toNat]? = some x8 →
 J3 r9.at_ r9.deep ((r1.l.set i.toNat (⟨26, x6.name, x6.n, x6.kids, x6.at_⟩ : GNode)).set i.toNat (⟨x8.op, x7, x8.n, x8.kids, x8.at_⟩ : GNode)) r9.e_)) ∧
 ∀ (atx3 : Int) (de3 : Int) (l3 : List GNode) (ex3 : Int), J3 atx3 de3 l3 ex3 →
 V_parse_reader_args (⟨r.toks, atx3, de3, l3, ex3⟩ : Gparse_reader) i (fun r10 =>
 J1 r10.at_ r10.deep r10.l r10.e_))
 (∃ (J4 : Bool → Prop),
 (cond (x.text == [115, 108, 101, 101, 112])
 (J4 (x.text == [115, 108, 101, 101, 112]))
 (cond (x.text == [112, 114, 105, 110, 116])
 (J4 (x.text == [112, 114, 105, 110, 116]))
 (J4 (x.text == [97, 115, 115, 101, 114, 116])))) ∧
 ∀ (x9 : Bool), J4 x9 →
 cond (x9)
 (∃ (J5 : (List GNode) → Prop),
 (∀ (x10 : Int), x10 = (getG (((((([] : List (List UInt8 × Int)) ++ [([115, 108, 101, 101, 112], 27)]) ++ [([112, 114, 105, 110, 116], 28)]) ++ [([97, 115, 115, 101, 114, 116], 29)]) ++ [([115, 107, 105, 112], 30)]) ++ [([115, 116, 111, 112], 31)]) x.text).getD 0 →
 ((0 : Int) ≤ i ∧ i < (r1.l.length : Int)) ∧
 ∀ x11, r1.l[i.toNat]? = some x11 →
 J5 (r1.l.set i.toNat (⟨x10, x11.name, x11.n, x11.kids, x11.at_⟩ : GNode))) ∧
 ∀ (l4 : List GNode), J5 l4 →
 V_parse_reader_term (⟨r.toks, IntKind.i64.wrap (r1.at_ + 1), r1.deep, l4, r1.e_⟩ : Gparse_reader) i (fun r11 =>
 J1 r11.at_ r11.deep r11.l r11.e_))
 (∃ (J6 : Bool → Prop),
 (cond (x.text == [115, 107, 105, 112])
 (J6 (x.text == [115, 107, 105, 112]))
 (J6 (x.text == [115, 116, 111, 112]))) ∧
 ∀ (x12 : Bool), J6 x12 →
 cond (x12)
 (∀ (x13 : Int), x13 = (getG (((((([] : List (List UInt8 × Int)) ++ [([115, 108, 101, 101, 112], 27)]) ++ [([112, 114, 105, 110, 116], 28)]) ++ [([97, 115, 115, 101, 114, 116], 29)]) ++ [([115, 107, 105, 112], 30)]) ++ [([115, 116, 111, 112], 31)]) x.text).getD 0 →
 ((0 : Int) ≤ i ∧ i < (r1.l.length : Int)) ∧
 ∀ x14, r1.l[i.toNat]? = some x14 →
 J1 (IntKind.i64.wrap (r1.at_ + 1)) r1.deep (r1.l.set i.toNat (⟨x13, x14.name, x14.n, x14.kids, x14.at_⟩ : GNode)) r1.e_)
 (cond (x.text == [105, 102])
 (((0 : Int) ≤ i ∧ i < (r1.l.length : Int)) ∧
 ∀ x15, r1.l[i.toNat]? = some x15 →
 V_parse_reader_term (⟨r.toks, IntKind.i64.wrap (r1.at_ + 1), r1.deep, (r1.l.set i.toNat (⟨23, x15.name, x15.n, x15.kids, x15.at_⟩ : GNode)), r1.e_⟩ : Gparse_reader) i (fun r12 =>
 V_parse_reader_block (⟨r.toks, r12.at_, r12.deep, r12.l, r12.e_⟩ : Gparse_reader) i (fun r13 =>
 V_parse_reader_eat (⟨r.toks, r13.at_, r13.deep, r13.l, r13.e_⟩ : Gparse_reader) [101, 108, 115, 101] (fun x16 r14 =>
 cond (x16)
 (V_parse_reader_block (⟨r.toks, r14.at_, r14.deep, r13.l, r14.e_⟩ : Gparse_reader) i (fun r15 =>
 K (⟨r.toks, r15.at_, r15.deep, r15.l, r15.e_⟩ : Gparse_reader)))
 (K (⟨r.toks, r14.at_, r14.deep, r13.l, r14.e_⟩ : Gparse_reader))))))
 (cond (x.text == [119, 104, 105, 108, 101])
 (((0 : Int) ≤ i ∧ i < (r1.l.length : Int)) ∧
 ∀ x17, r1.l[i.toNat]? = some x17 →
 V_parse_reader_term (⟨r.toks, IntKind.i64.wrap (r1.at_ + 1), r1.deep, (r1.l.set i.toNat (⟨24, x17.name, x17.n, x17.kids, x17.at_⟩ : GNode)), r1.e_⟩ : Gparse_reader) i (fun r16 =>
 V_parse_reader_block (⟨r.toks, r16.at_, r16.deep, r16.l, r16.e_⟩ : Gparse_reader) i (fun r17 =>
 K (⟨r.toks, r17.at_, r17.deep, r17.l, r17.e_⟩ : Gparse_reader))))
 (cond (x.text == [115, 101, 108, 101, 99, 116])
 (((0 : Int) ≤ i ∧ i < (r1.l.length : Int)) ∧
 ∀ x18, r1.l[i.toNat]? = some x18 →
 V_parse_reader_must (⟨r.toks, IntKind.i64.wrap (r1.at_ + 1), r1.deep, (r1.l.set i.toNat (⟨25, x18.name, x18.n, x18.kids, x18.at_⟩ : GNode)), r1.e_⟩ : Gparse_reader) ([[123]] : List (List UInt8)) (fun r18 =>
 ∃ (I : Int → Int → (List GNode) → Int → Nat → Prop), (∃ n, I r18.at_ r18.deep (r1.l.set i.toNat (⟨25, x18.name, x18.n, x18.kids, x18.at_⟩ : GNode)) r18.e_ n) ∧
 ∀ (atx4 : Int) (de4 : Int) (l5 : List GNode) (ex4 : Int) (n : Nat), I atx4 de4 l5 ex4 n →
 V_parse_reader_clause (⟨r.toks, atx4, de4, l5, ex4⟩ : Gparse_reader) (fun r19 =>
 ((0 : Int) ≤ i ∧ i < (r19.l.length : Int)) ∧
 ∀ x19, r19.l[i.toNat]? = some x19 →
 ((0 : Int) ≤ i ∧ i < (r19.l.length : Int)) ∧
 ∀ x20, r19.l[i.toNat]? = some x20 →
 ∃ (J7 : Bool → Prop),
 (cond (r19.e_ != 0)
 (J7 (r19.e_ != 0))
 (V_parse_reader_is (⟨r.toks, r19.at_, r19.deep, (r19.l.set i.toNat (⟨x20.op, x20.name, x20.n, IntKind.i64.wrap (x19.kids + 1), x20.at_⟩ : GNode)), r19.e_⟩ : Gparse_reader) 0 [125] (fun x22 =>
 J7 x22))) ∧
 ∀ (x21 : Bool), J7 x21 →
 cond (x21)
 (V_parse_reader_must (⟨r.toks, r19.at_, r19.deep, (r19.l.set i.toNat (⟨x20.op, x20.name, x20.n, IntKind.i64.wrap (x19.kids + 1), x20.at_⟩ : GNode)), r19.e_⟩ : Gparse_reader) ([[125]] : List (List UInt8)) (fun r20 =>
 K (⟨r.toks, r20.at_, r20.deep, (r19.l.set i.toNat (⟨x20.op, x20.name, x20.n, IntKind.i64.wrap (x19.kids + 1), x20.at_⟩ : GNode)), r20.e_⟩ : Gparse_reader)))
 (∃ n1, n1 < n ∧ I r19.at_ r19.deep (r19.l.set i.toNat (⟨x20.op, x20.name, x20.n, IntKind.i64.wrap (x19.kids + 1), x20.at_⟩ : GNode)) r19.e_ n1))))
 (V_parse_reader_fail (⟨r.toks, IntKind.i64.wrap ((IntKind.i64.wrap (r1.at_ + 1)) - 1), r1.deep, r1.l, r1.e_⟩ : Gparse_reader) 11 (fun r21 =>
 K (⟨r.toks, r21.at_, r21.deep, r1.l, r21.e_⟩ : Gparse_reader)))))))))) ∧
 ∀ (atx1 : Int) (de1 : Int) (l1 : List GNode) (ex1 : Int), J1 atx1 de1 l1 ex1 →
 V_parse_reader_must (⟨r.toks, atx1, de1, l1, ex1⟩ : Gparse_reader) ([[59]] : List (List UInt8)) (fun r22 =>
 K (⟨r.toks, r22.at_, r22.deep, l1, r22.e_⟩ : Gparse_reader))))))
set_option maxHeartbeats 4000000 in
theorem parse_reader_stmt_lift (r : Gparse_reader) (K : Gparse_reader → Prop) (h : parse_reader_stmt_vwp r K) : V_parse_reader_stmt r K := by
 intro m w hm rb rA rC rxs rA0 rC0 in_r ina_r bx_r rw_r f_r le_r0 f_r0
 have hrs_ := Mem.objlt hm.lt in_r ina_r
 have o := Mem.obj hm.lt in_r ina_r bx_r rw_r
 have st := Mem.objS (w := w) (l := [.slice rA0 r.toks.length rC0, .q r.at_, .q r.deep, .slice rA r.l.length rC, .q r.e_]) (e := 39) (size := 5) (n := r.l.length) (c := rC) (xs := rxs) in_r ina_r
 have hrm : ∀ b ∈ (rb :: (Vc.blk rA).toList), b ∈ m := fun b hb => (List.mem_cons.1 hb).elim (fun e => e ▸ in_r) (fun h => (ina_r b (Option.mem_toList.1 h)).1)
 refine parse_reader_stmt_ok rb _ _ ?_
 refine call_then (h _ w (o.mo hm hrm (.head _)) _ _ _ _ _ (o.at 0 rfl) le_r0 (f_r0.st st)) ?_
 rintro _ w1 ⟨x, h, ⟨cs, rfl, f⟩, ke⟩
 obtain ⟨st1, o⟩ := o.dE ke
 obtain rfl := GToken_out f
 refine ⟨_, _, _, _, rfl, ?_⟩
 intro b w2 hb hw2
 obtain ⟨st2, o⟩ := o.dB hb hw2
 refine ⟨o.wr 0 rfl rfl, fun w3 hw3 => ?_⟩
 obtain ⟨st3, o⟩ := o.dSs 0 hw3 rfl
 have sT := ((st.trans st1).trans st2).trans st3
 refine call_then (h _ w3 (o.mo hm hrm (.head _)) _ _ _ _ _ _ (Mem.inms 1 rfl) (o.objin 1 2 rfl rfl (by decide)) (o.at 1 rfl) (o.rowAt 2 rfl) (f_r.st sT) le_r0 (f_r0.st sT)) ?_
 rintro _ w4 ⟨i, r1, h, rfl, ⟨a, c, xs, bx, hr, el, fr⟩, ke1⟩
 obtain ⟨st4, el1, o⟩ := o.y2 1 2 rfl rfl (by decide) ke1 bx hr fr el
 refine ⟨_, rfl, ?_⟩
 refine ⟨_, (o.at 0 rfl).cell rfl, ?_⟩
 refine cond_map (fun h => ?_) (fun h => ?_) h
 obtain ⟨J, h, h2⟩ := h
 refine ⟨fun w5 => ∃ (atx : Int) (de : Int) (l : List GNode) (ex : Int) (xs1 : List Value) (a1 : Option Addr) (c1 : Nat), J atx de l ex ∧ El cGNode (ms [.box b [.q x.kind, .s x.text, .q x.n, .q x.at_], .box rb [.slice rA0 r.toks.length rC0, .q atx, .q de, .slice a1 l.length c1, .q ex], .row 39 5 a1 l.length c1 xs1] m) w5 l xs1 ∧ Mem w.heap.size (rb :: (Vc.blk rA).toList) m [((rb :: (Vc.blk rA).toList), w.heap.size, w)] [] w5 [.box b [.q x.kind, .s x.text, .q x.n, .q x.at_], .box rb [.slice rA0 r.toks.length rC0, .q atx, .q de, .slice a1 l.length c1, .q ex], .row 39 5 a1 l.length c1 xs1] ∧ Step (ms [.box b [.q x.kind, .s x.text, .q x.n, .q x.at_], .box rb [.slice rA0 r.toks.length rC0, .q r1.at_, .q r1.deep, .slice a r1.l.length c, .q r1.e_], .row 39 5 a r1.l.length c xs] m) w4 (ms [.box b [.q x.kind, .s x.text, .q x.n, .q x.at_], .box rb [.slice rA0 r.toks.length rC0, .q atx, .q de, .slice a1 l.length c1, .q ex], .row 39 5 a1 l.length c1 xs1] m) w5, ?_, ?_⟩
 have sT1 := sT.trans st4
 refine call_then (h _ w4 (o.mo hm hrm (.head _)) _ _ _ _ _ (o.at 1 rfl) le_r0 (f_r0.st sT1)) ?_
 rintro _ w6 ⟨x1, h, rfl, ke2⟩
 obtain ⟨st6, o⟩ := o.dE ke2
 refine ⟨_, rfl, ?_⟩
 refine cond_map (fun h => ?_) (fun h => ?_) h
 refine ⟨_, _, _, (o.at 1 rfl).cell rfl, ?_⟩
 obtain ⟨hi, h⟩ := h
 obtain ⟨p, x2, cs1, hp, he, hc, hr1⟩ := row_elem (o.rowAt 2 rfl) (el1.st st6) hi
 obtain rfl := GNode_out hr1
 have h := h x2 he
 refine ⟨hi, ptrOr_some hp ?_⟩
 have hq := row_putp (i := i.toNat) (o.rowAt 2 rfl) (el1.st st6) hp he hc.2 rfl 0 (.q 19) (by decide)
 refine ⟨hq.1, fun w7 hw7 => ?_⟩
 obtain ⟨xs2, hr2, hg, hel⟩ := hq.2 _ hw7
 have el3 := hel (⟨19, x2.name, x2.n, x2.kids, x2.at_⟩ : GNode) (GNode_in (⟨19, x2.name, x2.n, x2.kids, x2.at_⟩ : GNode))
 have st7 := o.xA 2 rfl hr2 hg (.inl rfl)
 have o := o.app 2 rfl hr2 hg (.inl rfl)
 have ln : r1.l.length = (r1.l.set i.toNat (⟨19, x2.name, x2.n, x2.kids, x2.at_⟩ : GNode)).length := row_len (o.rowAt 2 rfl) (el3.st st7)
 rw [ln] at o
 try rw [ln]
 have sT2 := (sT1.trans st6).trans st7
 refine call_then (h _ w7 (o.mo hm hrm (.head _)) _ _ _ _ _ _ (Mem.inms 1 rfl) (o.objin 1 2 rfl rfl (by decide)) (o.at 1 rfl) (o.rowAt 2 rfl) (el3.st st7) le_r0 (f_r0.st sT2)) ?_
 rintro _ w8 ⟨r2, h, -, ⟨a2, c2, xs3, bx1, hr3, el4, fr1⟩, ke3⟩
 obtain ⟨st8, el5, o⟩ := o.y2 1 2 rfl rfl (by decide) ke3 bx1 hr3 fr1 el4
 have sT3 := (st6.trans st7).trans st8
 exact ⟨r2.at_, r2.deep, r2.l, r2.e_, xs3, a2, c2, h, el5, o, sT3⟩
 have sT4 := sT1.trans st6
 refine call_then (h _ w6 (o.mo hm hrm (.head _)) _ _ _ _ _ _ (Mem.inms 1 rfl) (o.objin 1 2 rfl rfl (by decide)) (o.at 1 rfl) (o.rowAt 2 rfl) (el1.st st6) le_r0 (f_r0.st sT4)) ?_
 rintro _ w9 ⟨r3, h, -, ⟨a3, c3, xs4, bx2, hr4, el6, fr2⟩, ke4⟩
 obtain ⟨st9, el7, o⟩ := o.y2 1 2 rfl rfl (by decide) ke4 bx2 hr4 fr2 el6
 exact ⟨r3.at_, r3.deep, r3.l, r3.e_, xs4, a3, c3, h, el7, o, (st6.trans st9)⟩
 rintro _ w5 ⟨atx, de, l, ex, xs1, a1, c1, hJ, el2, o, st5⟩
 have h := h2 atx de l ex hJ
 intro b1 w10 hb1 hw10
 have el8 : El cStr (ms [.box b [.q x.kind, .s x.text, .q x.n, .q x.at_], .box rb [.slice rA0 r.toks.length rC0, .q atx, .q de, .slice a1 l.length c1, .q ex], .row 39 5 a1 l.length c1 xs1] m) w5 ([[59]] : List (List UInt8)) ([.s [59]] : List Value) := (El.cons (cs := [.s [59]]) rfl (El.nil _ _ _))
 have fr3 : w.heap.size ≤ b1 := hb1 ▸ o.le
 have st10 := o.xL hb1 hw10 1 1
 have o := o.lit hb1 hw10 1 1 (by decide) rfl
 have le := (o.rowAt 0 rfl).cap
 have st11 := o.xX 0
 have f1 := o.freeze (c := cStr) (l := ([[59]] : List (List UInt8))) 0 rfl (fun q hq h => by have := hrs_ q hq; have := fr3; simp [Vc.blk] at h; omega) (el8.st (st10.trans st11))
 have o := o.erase 0
 have sT5 := (((sT.trans st4).trans st5).trans st10).trans st11
 refine call_then (h _ w10 (o.mo hm hrm (.head _)) _ _ _ _ _ (Mem.inms 1 rfl) (o.at 1 rfl) le_r0 (f_r0.st sT5) _ _ le f1) ?_
 rintro _ w11 ⟨r4, h, -, bx3, ke5⟩
 obtain ⟨st12, o⟩ := o.dC 1 ke5 bx3 rfl
 exact ⟨(⟨r.toks, r4.at_, r4.deep, l, r4.e_⟩ : Gparse_reader), h, trivial, ⟨_, _, _, o.at 1 rfl, o.rowAt 2 rfl, (el2.st (st10.trans (st11.trans (st12.trans (o.eRS 2 rfl))))), o.oldnew 2 rfl 1 rfl (by decide)⟩, o.done⟩
 intro b2 w12 hb2 hw12
 have st13 := Mem.mapNewS (ps := [.box b [.q x.kind, .s x.text, .q x.n, .q x.at_], .box rb [.slice rA0 r.toks.length rC0, .q r1.at_, .q r1.deep, .slice a r1.l.length c, .q r1.e_], .row 39 5 a r1.l.length c xs]) (m0 := m) kStr (fun x : Int => .q x) hb2 hw12
 have o := o.mapNew kStr (fun x : Int => .q x) hb2 hw12
 obtain ⟨hg1, h⟩ := h
 refine map_put (E := kStr) (s := [115, 108, 101, 101, 112]) (o.rawAt 0 rfl) Try.underlying104 Try.underlying9 (by rw [getG_encM, hg1]; rfl) ?_
 intro w13 hk hmp
 rw [show (.q 27 : Value) = (fun x : Int => .q x) 27 from rfl, encM_snoc] at hmp
 have st14 := Mem.mapPutS (ps := [.raw b2 (mapO kStr (encM (fun x : Int => .q x) ([] : List (List UInt8 × Int)))), .box b [.q x.kind, .s x.text, .q x.n, .q x.at_], .box rb [.slice rA0 r.toks.length rC0, .q r1.at_, .q r1.deep, .slice a r1.l.length c, .q r1.e_], .row 39 5 a r1.l.length c xs]) (m0 := m) kStr (kvs := encM (fun x : Int => .q x) (([] : List (List UInt8 × Int)) ++ [([115, 108, 101, 101, 112], 27)])) 0 rfl hk
 have o := o.mapPut kStr 0 rfl hk hmp
 obtain ⟨hg2, h⟩ := h
 refine map_put (E := kStr) (s := [112, 114, 105, 110, 116]) (o.rawAt 0 rfl) Try.underlying104 Try.underlying9 (by rw [getG_encM, hg2]; rfl) ?_
 intro w14 hk1 hmp1
 rw [show (.q 28 : Value) = (fun x : Int => .q x) 28 from rfl, encM_snoc] at hmp1
 have st15 := Mem.mapPutS (ps := [.raw b2 (mapO kStr (encM (fun x : Int => .q x) (([] : List (List UInt8 × Int)) ++ [([115, 108, 101, 101, 112], 27)]))), .box b [.q x.kind, .s x.text, .q x.n, .q x.at_], .box rb [.slice rA0 r.toks.length rC0, .q r1.at_, .q r1.deep, .slice a r1.l.length c, .q r1.e_], .row 39 5 a r1.l.length c xs]) (m0 := m) kStr (kvs := encM (fun x : Int => .q x) ((([] : List (List UInt8 × Int)) ++ [([115, 108, 101, 101, 112], 27)]) ++ [([112, 114, 105, 110, 116], 28)])) 0 rfl hk1
 have o := o.mapPut kStr 0 rfl hk1 hmp1
 obtain ⟨hg3, h⟩ := h
 refine map_put (E := kStr) (s := [97, 115, 115, 101, 114, 116]) (o.rawAt 0 rfl) Try.underlying104 Try.underlying9 (by rw [getG_encM, hg3]; rfl) ?_
 intro w15 hk2 hmp2
 rw [show (.q 29 : Value) = (fun x : Int => .q x) 29 from rfl, encM_snoc] at hmp2
 have st16 := Mem.mapPutS (ps := [.raw b2 (mapO kStr (encM (fun x : Int => .q x) ((([] : List (List UInt8 × Int)) ++ [([115, 108, 101, 101, 112], 27)]) ++ [([112, 114, 105, 110, 116], 28)]))), .box b [.q x.kind, .s x.text, .q x.n, .q x.at_], .box rb [.slice rA0 r.toks.length rC0, .q r1.at_, .q r1.deep, .slice a r1.l.length c, .q r1.e_], .row 39 5 a r1.l.length c xs]) (m0 := m) kStr (kvs := encM (fun x : Int => .q x) (((([] : List (List UInt8 × Int)) ++ [([115, 108, 101, 101, 112], 27)]) ++ [([112, 114, 105, 110, 116], 28)]) ++ [([97, 115, 115, 101, 114, 116], 29)])) 0 rfl hk2
 have o := o.mapPut kStr 0 rfl hk2 hmp2
 obtain ⟨hg4, h⟩ := h
 refine map_put (E := kStr) (s := [115, 107, 105, 112]) (o.rawAt 0 rfl) Try.underlying104 Try.underlying9 (by rw [getG_encM, hg4]; rfl) ?_
 intro w16 hk3 hmp3
 rw [show (.q 30 : Value) = (fun x : Int => .q x) 30 from rfl, encM_snoc] at hmp3
 have st17 := Mem.mapPutS (ps := [.raw b2 (mapO kStr (encM (fun x : Int => .q x) (((([] : List (List UInt8 × Int)) ++ [([115, 108, 101, 101, 112], 27)]) ++ [([112, 114, 105, 110, 116], 28)]) ++ [([97, 115, 115, 101, 114, 116], 29)]))), .box b [.q x.kind, .s x.text, .q x.n, .q x.at_], .box rb [.slice rA0 r.toks.length rC0, .q r1.at_, .q r1.deep, .slice a r1.l.length c, .q r1.e_], .row 39 5 a r1.l.length c xs]) (m0 := m) kStr (kvs := encM (fun x : Int => .q x) ((((([] : List (List UInt8 × Int)) ++ [([115, 108, 101, 101, 112], 27)]) ++ [([112, 114, 105, 110, 116], 28)]) ++ [([97, 115, 115, 101, 114, 116], 29)]) ++ [([115, 107, 105, 112], 30)])) 0 rfl hk3
 have o := o.mapPut kStr 0 rfl hk3 hmp3
 obtain ⟨hg5, h⟩ := h
 refine map_put (E := kStr) (s := [115, 116, 111, 112]) (o.rawAt 0 rfl) Try.underlying104 Try.underlying9 (by rw [getG_encM, hg5]; rfl) ?_
 intro w17 hk4 hmp4
 rw [show (.q 31 : Value) = (fun x : Int => .q x) 31 from rfl, encM_snoc] at hmp4
 have st18 := Mem.mapPutS (ps := [.raw b2 (mapO kStr (encM (fun x : Int => .q x) ((((([] : List (List UInt8 × Int)) ++ [([115, 108, 101, 101, 112], 27)]) ++ [([112, 114, 105, 110, 116], 28)]) ++ [([97, 115, 115, 101, 114, 116], 29)]) ++ [([115, 107, 105, 112], 30)]))), .box b [.q x.kind, .s x.text, .q x.n, .q x.at_], .box rb [.slice rA0 r.toks.length rC0, .q r1.at_, .q r1.deep, .slice a r1.l.length c, .q r1.e_], .row 39 5 a r1.l.length c xs]) (m0 := m) kStr (kvs := encM (fun x : Int => .q x) (((((([] : List (List UInt8 × Int)) ++ [([115, 108, 101, 101, 112], 27)]) ++ [([112, 114, 105, 110, 116], 28)]) ++ [([97, 115, 115, 101, 114, 116], 29)]) ++ [([115, 107, 105, 112], 30)]) ++ [([115, 116, 111, 112], 31)])) 0 rfl hk4
 have o := o.mapPut kStr 0 rfl hk4 hmp4
 refine ⟨_, (o.at 1 rfl).cell rfl, ?_⟩
 refine cond_map (fun h => ?_) (fun h => ?_) h
 have sT6 := ((((((sT.trans st4).trans st13).trans st14).trans st15).trans st16).trans st17).trans st18
 refine call_then (h _ w17 (o.mo hm hrm (.head _)) _ _ _ _ _ (Mem.inms 2 rfl) (o.at 2 rfl) le_r0 (f_r0.st sT6)) ?_
 rintro _ w18 ⟨r5, h, -, bx4, ke6⟩
 obtain ⟨st19, o⟩ := o.dC 2 ke6 bx4 rfl
 exact ⟨(⟨r.toks, r5.at_, r5.deep, r1.l, r5.e_⟩ : Gparse_reader), h, trivial, ⟨_, _, _, o.at 2 rfl, o.rowAt 3 rfl, (el1.st (st13.trans (st14.trans (st15.trans (st16.trans (st17.trans (st18.trans (st19.trans (o.eRS 3 rfl))))))))), o.oldnew 3 rfl 2 rfl (by decide)⟩, o.done⟩
 refine ⟨_, (o.at 2 rfl).cell rfl, ?_⟩
 refine ⟨o.wr 2 rfl rfl, fun w19 hw19 => ?_⟩
 obtain ⟨st20, o⟩ := o.dS 2 hw19 rfl
 obtain ⟨J1, h, h2⟩ := h
 refine ⟨fun w20 => ∃ (atx1 : Int) (de1 : Int) (l1 : List GNode) (ex1 : Int) (xs5 : List Value) (a4 : Option Addr) (c4 : Nat), J1 atx1 de1 l1 ex1 ∧ El cGNode (ms [.raw b2 (mapO kStr (encM (fun x : Int => .q x) (((((([] : List (List UInt8 × Int)) ++ [([115, 108, 101, 101, 112], 27)]) ++ [([112, 114, 105, 110, 116], 28)]) ++ [([97, 115, 115, 101, 114, 116], 29)]) ++ [([115, 107, 105, 112], 30)]) ++ [([115, 116, 111, 112], 31)]))), .box b [.q x.kind, .s x.text, .q x.n, .q x.at_], .box rb [.slice rA0 r.toks.length rC0, .q atx1, .q de1, .slice a4 l1.length c4, .q ex1], .row 39 5 a4 l1.length c4 xs5] m) w20 l1 xs5 ∧ Mem w.heap.size (rb :: (Vc.blk rA).toList) m [((rb :: (Vc.blk rA).toList), w.heap.size, w)] [] w20 [.raw b2 (mapO kStr (encM (fun x : Int => .q x) (((((([] : List (List UInt8 × Int)) ++ [([115, 108, 101, 101, 112], 27)]) ++ [([112, 114, 105, 110, 116], 28)]) ++ [([97, 115, 115, 101, 114, 116], 29)]) ++ [([115, 107, 105, 112], 30)]) ++ [([115, 116, 111, 112], 31)]))), .box b [.q x.kind, .s x.text, .q x.n, .q x.at_], .box rb [.slice rA0 r.toks.length rC0, .q atx1, .q de1, .slice a4 l1.length c4, .q ex1], .row 39 5 a4 l1.length c4 xs5] ∧ Step (ms [.raw b2 (mapO kStr (encM (fun x : Int => .q x) (((((([] : List (List UInt8 × Int)) ++ [([115, 108, 101, 101, 112], 27)]) ++ [([112, 114, 105, 110, 116], 28)]) ++ [([97, 115, 115, 101, 114, 116], 29)]) ++ [([115, 107, 105, 112], 30)]) ++ [([115, 116, 111, 112], 31)]))), .box b [.q x.kind, .s x.text, .q x.n, .q x.at_], .box rb [.slice rA0 r.toks.length rC0, .q (IntKind.i64.wrap (r1.at_ + 1)), .q r1.deep, .slice a r1.l.length c, .q r1.e_], .row 39 5 a r1.l.length c xs] m) w19 (ms [.raw b2 (mapO kStr (encM (fun x : Int => .q x) (((((([] : List (List UInt8 × Int)) ++ [([115, 108, 101, 101, 112], 27)]) ++ [([112, 114, 105, 110, 116], 28)]) ++ [([97, 115, 115, 101, 114, 116], 29)]) ++ [([115, 107, 105, 112], 30)]) ++ [([115, 116, 111, 112], 31)]))), .box b [.q x.kind, .s x.text, .q x.n, .q x.at_], .box rb [.slice rA0 r.toks.length rC0, .q atx1, .q de1, .slice a4 l1.length c4, .q ex1], .row 39 5 a4 l1.length c4 xs5] m) w20, ?_, ?_⟩
 refine ⟨_, (o.at 1 rfl).cell rfl, ?_⟩
 refine cond_map (fun h => ?_) (fun h => ?_) h
 refine ⟨_, _, _, (o.at 2 rfl).cell rfl, ?_⟩
 obtain ⟨hi1, h⟩ := h
 have sT7 := (((((st13.trans st14).trans st15).trans st16).trans st17).trans st18).trans st20
 obtain ⟨p1, x3, cs2, hp1, he1, hc1, hr5⟩ := row_elem (o.rowAt 3 rfl) (el1.st sT7) hi1
 obtain rfl := GNode_out hr5
 have h := h x3 he1
 refine ⟨hi1, ptrOr_some hp1 ?_⟩
 have hq1 := row_putp (i := i.toNat) (o.rowAt 3 rfl) (el1.st sT7) hp1 he1 hc1.2 rfl 0 (.q 18) (by decide)
 refine ⟨hq1.1, fun w21 hw21 => ?_⟩
 obtain ⟨xs6, hr6, hg6, hel1⟩ := hq1.2 _ hw21
 have el10 := hel1 (⟨18, x3.name, x3.n, x3.kids, x3.at_⟩ : GNode) (GNode_in (⟨18, x3.name, x3.n, x3.kids, x3.at_⟩ : GNode))
 have st22 := o.xA 3 rfl hr6 hg6 (.inl rfl)
 have o := o.app 3 rfl hr6 hg6 (.inl rfl)
 have ln1 : r1.l.length = (r1.l.set i.toNat (⟨18, x3.name, x3.n, x3.kids, x3.at_⟩ : GNode)).length := row_len (o.rowAt 3 rfl) (el10.st st22)
 obtain ⟨J2, h, h2⟩ := h
 refine ⟨fun w22 => ∃ (atx2 : Int) (de2 : Int) (l2 : List GNode) (ex2 : Int) (xs7 : List Value) (a5 : Option Addr) (c5 : Nat), J2 atx2 de2 l2 ex2 ∧ El cGNode (ms [.raw b2 (mapO kStr (encM (fun x : Int => .q x) (((((([] : List (List UInt8 × Int)) ++ [([115, 108, 101, 101, 112], 27)]) ++ [([112, 114, 105, 110, 116], 28)]) ++ [([97, 115, 115, 101, 114, 116], 29)]) ++ [([115, 107, 105, 112], 30)]) ++ [([115, 116, 111, 112], 31)]))), .box b [.q x.kind, .s x.text, .q x.n, .q x.at_], .box rb [.slice rA0 r.toks.length rC0, .q atx2, .q de2, .slice a5 l2.length c5, .q ex2], .row 39 5 a5 l2.length c5 xs7] m) w22 l2 xs7 ∧ Mem w.heap.size (rb :: (Vc.blk rA).toList) m [((rb :: (Vc.blk rA).toList), w.heap.size, w)] [] w22 [.raw b2 (mapO kStr (encM (fun x : Int => .q x) (((((([] : List (List UInt8 × Int)) ++ [([115, 108, 101, 101, 112], 27)]) ++ [([112, 114, 105, 110, 116], 28)]) ++ [([97, 115, 115, 101, 114, 116], 29)]) ++ [([115, 107, 105, 112], 30)]) ++ [([115, 116, 111, 112], 31)]))), .box b [.q x.kind, .s x.text, .q x.n, .q x.at_], .box rb [.slice rA0 r.toks.length rC0, .q atx2, .q de2, .slice a5 l2.length c5, .q ex2], .row 39 5 a5 l2.length c5 xs7] ∧ Step (ms [.raw b2 (mapO kStr (encM (fun x : Int => .q x) (((((([] : List (List UInt8 × Int)) ++ [([115, 108, 101, 101, 112], 27)]) ++ [([112, 114, 105, 110, 116], 28)]) ++ [([97, 115, 115, 101, 114, 116], 29)]) ++ [([115, 107, 105, 112], 30)]) ++ [([115, 116, 111, 112], 31)]))), .box b [.q x.kind, .s x.text, .q x.n, .q x.at_], .box rb [.slice rA0 r.toks.length rC0, .q (IntKind.i64.wrap (r1.at_ + 1)), .q r1.deep, .slice a r1.l.length c, .q r1.e_], .row 39 5 a r1.l.length c xs6] m) w21 (ms [.raw b2 (mapO kStr (encM (fun x : Int => .q x) (((((([] : List (List UInt8 × Int)) ++ [([115, 108, 101, 101, 112], 27)]) ++ [([112, 114, 105, 110, 116], 28)]) ++ [([97, 115, 115, 101, 114, 116], 29)]) ++ [([115, 107, 105, 112], 30)]) ++ [([115, 116, 111, 112], 31)]))), .box b [.q x.kind, .s x.text, .q x.n, .q x.at_], .box rb [.slice rA0 r.toks.length rC0, .q atx2, .q de2, .slice a5 l2.length c5, .q ex2], .row 39 5 a5 l2.length c5 xs7] m) w22, ?_, ?_⟩
 intro w23 hw23
 obtain ⟨st24, o⟩ := o.dD hw23
 rw [ln1] at o
 try rw [ln1]
 have ox := o
 refine ⟨fun u => Keep [rb] w23 u ∧ u.cell? ⟨rb, 3, none⟩ = some (.slice a ((r1.l.set i.toNat (⟨18, x3.name, x3.n, x3.kids, x3.at_⟩ : GNode)).length) c), ⟨Keep.refl _ _, (o.at 2 rfl).cell (i := 3) rfl⟩, ?_⟩
 refine ⟨_, _, _, fun u hu => hu.2, ?_⟩
 have sT8 := (((((((((sT.trans st4).trans st13).trans st14).trans st15).trans st16).trans st17).trans st18).trans st20).trans st22).trans st24
 refine call_then (h _ w23 (o.mo hm hrm (.head _)) _ _ _ _ _ (Mem.inms 2 rfl) (o.at 2 rfl) le_r0 (f_r0.st sT8)) ?_
 rintro _ w24 ⟨x4, r6, h, rfl, bx5, ke7⟩
 obtain ⟨st25, o⟩ := o.dC 2 ke7 bx5 rfl
 refine ⟨_, rfl, ?_⟩
 refine ⟨⟨(Keep.mono ke7 (by simp)), (o.at 2 rfl).cell (i := 3) rfl⟩, ?_⟩
 obtain ⟨hi2, h⟩ := h
 have sT9 := (st22.trans st24).trans st25
 obtain ⟨p2, x5, cs3, hp2, he2, hc2, hr7⟩ := row_elem (o.rowAt 3 rfl) (el10.st sT9) hi2
 obtain rfl := GNode_out hr7
 have h := h x5 he2
 refine ⟨hi2, ptrOr_some hp2 ?_⟩
 have hq2 := row_putp (i := i.toNat) (o.rowAt 3 rfl) (el10.st sT9) hp2 he2 hc2.2 rfl 1 (.s x4) (by decide)
 refine ⟨hq2.1, fun w25 hw25 => ?_⟩
 obtain ⟨xs8, hr8, hg7, hel2⟩ := hq2.2 _ hw25
 have el12 := hel2 (⟨x5.op, x4, x5.n, x5.kids, x5.at_⟩ : GNode) (GNode_in (⟨x5.op, x4, x5.n, x5.kids, x5.at_⟩ : GNode))
 have st26 := o.xA 3 rfl hr8 hg7 (.inl rfl)
 have o := o.app 3 rfl hr8 hg7 (.inl rfl)
 have ln2 : (r1.l.set i.toNat (⟨18, x3.name, x3.n, x3.kids, x3.at_⟩ : GNode)).length = ((r1.l.set i.toNat (⟨18, x3.name, x3.n, x3.kids, x3.at_⟩ : GNode)).set i.toNat (⟨x5.op, x4, x5.n, x5.kids, x5.at_⟩ : GNode)).length := row_len (o.rowAt 3 rfl) (el12.st st26)
 rw [ln2] at o
 have sT10 := (st24.trans st25).trans st26
 exact ⟨r6.at_, r6.deep, ((r1.l.set i.toNat (⟨18, x3.name, x3.n, x3.kids, x3.at_⟩ : GNode)).set i.toNat (⟨x5.op, x4, x5.n, x5.kids, x5.at_⟩ : GNode)), r6.e_, xs8, a, c, h, (el12.st st26), o, sT10⟩
 rintro _ w22 ⟨atx2, de2, l2, ex2, xs7, a5, c5, hJ, el11, o, st23⟩
 have h := h2 atx2 de2 l2 ex2 hJ
 intro b3 w26 hb3 hw26
 have el13 : El cStr (ms [.raw b2 (mapO kStr (encM (fun x : Int => .q x) (((((([] : List (List UInt8 × Int)) ++ [([115, 108, 101, 101, 112], 27)]) ++ [([112, 114, 105, 110, 116], 28)]) ++ [([97, 115, 115, 101, 114, 116], 29)]) ++ [([115, 107, 105, 112], 30)]) ++ [([115, 116, 111, 112], 31)]))), .box b [.q x.kind, .s x.text, .q x.n, .q x.at_], .box rb [.slice rA0 r.toks.length rC0, .q atx2, .q de2, .slice a5 l2.length c5, .q ex2], .row 39 5 a5 l2.length c5 xs7] m) w22 ([[61]] : List (List UInt8)) ([.s [61]] : List Value) := (El.cons (cs := [.s [61]]) rfl (El.nil _ _ _))
 have fr4 : w.heap.size ≤ b3 := hb3 ▸ o.le
 have st27 := o.xL hb3 hw26 1 1
 have o := o.lit hb3 hw26 1 1 (by decide) rfl
 have le1 := (o.rowAt 0 rfl).cap
 have st28 := o.xX 0
 have f2 := o.freeze (c := cStr) (l := ([[61]] : List (List UInt8))) 0 rfl (fun q hq h => by have := hrs_ q hq; have := fr4; simp [Vc.blk] at h; omega) (el13.st (st27.trans st28))
 have o := o.erase 0
 have sT11 := (((((((((((sT.trans st4).trans st13).trans st14).trans st15).trans st16).trans st17).trans st18).trans st20).trans st22).trans st23).trans st27).trans st28
 refine call_then (h _ w26 (o.mo hm hrm (.head _)) _ _ _ _ _ (Mem.inms 2 rfl) (o.at 2 rfl) le_r0 (f_r0.st sT11) _ _ le1 f2) ?_
 rintro _ w27 ⟨r7, h, -, bx6, ke8⟩
 obtain ⟨st29, o⟩ := o.dC 2 ke8 bx6 rfl
 have sT12 := (st27.trans st28).trans st29
 have sT13 := sT11.trans st29
 refine call_then (h _ w27 (o.mo hm hrm (.head _)) _ _ _ _ _ _ (Mem.inms 2 rfl) (o.objin 2 3 rfl rfl (by decide)) (o.at 2 rfl) (o.rowAt 3 rfl) (el11.st sT12) le_r0 (f_r0.st sT13)) ?_
 rintro _ w28 ⟨r8, h, -, ⟨a6, c6, xs9, bx7, hr9, el14, fr5⟩, ke9⟩
 obtain ⟨st30, el15, o⟩ := o.y2 2 3 rfl rfl (by decide) ke9 bx7 hr9 fr5 el14
 have sT14 := ((((st22.trans st23).trans st27).trans st28).trans st29).trans st30
 exact ⟨r8.at_, r8.deep, r8.l, r8.e_, xs9, a6, c6, h, el15, o, sT14⟩
 refine cond_map (fun h => ?_) (fun h => ?_) h
 refine ⟨_, _, _, (o.at 2 rfl).cell rfl, ?_⟩
 obtain ⟨hi3, h⟩ := h
 have sT15 := (((((st13.trans st14).trans st15).trans st16).trans st17).trans st18).trans st20
 obtain ⟨p3, x6, cs4, hp3, he3, hc3, hr10⟩ := row_elem (o.rowAt 3 rfl) (el1.st sT15) hi3
 obtain rfl := GNode_out hr10
 have h := h x6 he3
 refine ⟨hi3, ptrOr_some hp3 ?_⟩
 have hq3 := row_putp (i := i.toNat) (o.rowAt 3 rfl) (el1.st sT15) hp3 he3 hc3.2 rfl 0 (.q 26) (by decide)
 refine ⟨hq3.1, fun w29 hw29 => ?_⟩
 obtain ⟨xs10, hr11, hg8, hel3⟩ := hq3.2 _ hw29
 have el16 := hel3 (⟨26, x6.name, x6.n, x6.kids, x6.at_⟩ : GNode) (GNode_in (⟨26, x6.name, x6.n, x6.kids, x6.at_⟩ : GNode))
 have st31 := o.xA 3 rfl hr11 hg8 (.inl rfl)
 have o := o.app 3 rfl hr11 hg8 (.inl rfl)
 have ln3 : r1.l.length = (r1.l.set i.toNat (⟨26, x6.name, x6.n, x6.kids, x6.at_⟩ : GNode)).length := row_len (o.rowAt 3 rfl) (el16.st st31)
 obtain ⟨J3, h, h2⟩ := h
 refine ⟨fun w30 => ∃ (atx3 : Int) (de3 : Int) (l3 : List GNode) (ex3 : Int) (xs11 : List Value) (a7 : Option Addr) (c7 : Nat), J3 atx3 de3 l3 ex3 ∧ El cGNode (ms [.raw b2 (mapO kStr (encM (fun x : Int => .q x) (((((([] : List (List UInt8 × Int)) ++ [([115, 108, 101, 101, 112], 27)]) ++ [([112, 114, 105, 110, 116], 28)]) ++ [([97, 115, 115, 101, 114, 116], 29)]) ++ [([115, 107, 105, 112], 30)]) ++ [([115, 116, 111, 112], 31)]))), .box b [.q x.kind, .s x.text, .q x.n, .q x.at_], .box rb [.slice rA0 r.toks.length rC0, .q atx3, .q de3, .slice a7 l3.length c7, .q ex3], .row 39 5 a7 l3.length c7 xs11] m) w30 l3 xs11 ∧ Mem w.heap.size (rb :: (Vc.blk rA).toList) m [((rb :: (Vc.blk rA).toList), w.heap.size, w)] [] w30 [.raw b2 (mapO kStr (encM (fun x : Int => .q x) (((((([] : List (List UInt8 × Int)) ++ [([115, 108, 101, 101, 112], 27)]) ++ [([112, 114, 105, 110, 116], 28)]) ++ [([97, 115, 115, 101, 114, 116], 29)]) ++ [([115, 107, 105, 112], 30)]) ++ [([115, 116, 111, 112], 31)]))), .box b [.q x.kind, .s x.text, .q x.n, .q x.at_], .box rb [.slice rA0 r.toks.length rC0, .q atx3, .q de3, .slice a7 l3.length c7, .q ex3], .row 39 5 a7 l3.length c7 xs11] ∧ Step (ms [.raw b2 (mapO kStr (encM (fun x : Int => .q x) (((((([] : List (List UInt8 × Int)) ++ [([115, 108, 101, 101, 112], 27)]) ++ [([112, 114, 105, 110, 116], 28)]) ++ [([97, 115, 115, 101, 114, 116], 29)]) ++ [([115, 107, 105, 112], 30)]) ++ [([115, 116, 111, 112], 31)]))), .box b [.q x.kind, .s x.text, .q x.n, .q x.at_], .box rb [.slice rA0 r.toks.length rC0, .q (IntKind.i64.wrap (r1.at_ + 1)), .q r1.deep, .slice a r1.l.length c, .q r1.e_], .row 39 5 a r1.l.length c xs10] m) w29 (ms [.raw b2 (mapO kStr (encM (fun x : Int => .q x) (((((([] : List (List UInt8 × Int)) ++ [([115, 108, 101, 101, 112], 27)]) ++ [([112, 114, 105, 110, 116], 28)]) ++ [([97, 115, 115, 101, 114, 116], 29)]) ++ [([115, 107, 105, 112], 30)]) ++ [([115, 116, 111, 112], 31)]))), .box b [.q x.kind, .s x.text, .q x.n, .q x.at_], .box rb [.slice rA0 r.toks.length rC0, .q atx3, .q de3, .slice a7 l3.length c7, .q ex3], .row 39 5 a7 l3.length c7 xs11] m) w30, ?_, ?_⟩
 intro w31 hw31
 obtain ⟨st33, o⟩ := o.dD hw31
 rw [ln3] at o
 try rw [ln3]
 have ox1 := o
 refine ⟨fun u => Keep [rb] w31 u ∧ u.cell? ⟨rb, 3, none⟩ = some (.slice a ((r1.l.set i.toNat (⟨26, x6.name, x6.n, x6.kids, x6.at_⟩ : GNode)).length) c), ⟨Keep.refl _ _, (o.at 2 rfl).cell (i := 3) rfl⟩, ?_⟩
 refine ⟨_, _, _, fun u hu => hu.2, ?_⟩
 have sT16 := (((((((((sT.trans st4).trans st13).trans st14).trans st15).trans st16).trans st17).trans st18).trans st20).trans st31).trans st33
 refine call_then (h _ w31 (o.mo hm hrm (.head _)) _ _ _ _ _ (Mem.inms 2 rfl) (o.at 2 rfl) le_r0 (f_r0.st sT16)) ?_
 rintro _ w32 ⟨x7, r9, h, rfl, bx8, ke10⟩
 obtain ⟨st34, o⟩ := o.dC 2 ke10 bx8 rfl
 refine ⟨_, rfl, ?_⟩
 refine ⟨⟨(Keep.mono ke10 (by simp)), (o.at 2 rfl).cell (i := 3) rfl⟩, ?_⟩
 obtain ⟨hi4, h⟩ := h
 have sT17 := (st31.trans st33).trans st34
 obtain ⟨p4, x8, cs5, hp4, he4, hc4, hr12⟩ := row_elem (o.rowAt 3 rfl) (el16.st sT17) hi4
 obtain rfl := GNode_out hr12
 have h := h x8 he4
 refine ⟨hi4, ptrOr_some hp4 ?_⟩
 have hq4 := row_putp (i := i.toNat) (o.rowAt 3 rfl) (el16.st sT17) hp4 he4 hc4.2 rfl 1 (.s x7) (by decide)
 refine ⟨hq4.1, fun w33 hw33 => ?_⟩
 obtain ⟨xs12, hr13, hg9, hel4⟩ := hq4.2 _ hw33
 have el18 := hel4 (⟨x8.op, x7, x8.n, x8.kids, x8.at_⟩ : GNode) (GNode_in (⟨x8.op, x7, x8.n, x8.kids, x8.at_⟩ : GNode))
 have st35 := o.xA 3 rfl hr13 hg9 (.inl rfl)
 have o := o.app 3 rfl hr13 hg9 (.inl rfl)
 have ln4 : (r1.l.set i.toNat (⟨26, x6.name, x6.n, x6.kids, x6.at_⟩ : GNode)).length = ((r1.l.set i.toNat (⟨26, x6.name, x6.n, x6.kids, x6.at_⟩ : GNode)).set i.toNat (⟨x8.op, x7, x8.n, x8.kids, x8.at_⟩ : GNode)).length := row_len (o.rowAt 3 rfl) (el18.st st35)
 rw [ln4] at o
 have sT18 := (st33.trans st34).trans st35
 exact ⟨r9.at_, r9.deep, ((r1.l.set i.toNat (⟨26, x6.name, x6.n, x6.kids, x6.at_⟩ : GNode)).set i.toNat (⟨x8.op, x7, x8.n, x8.kids, x8.at_⟩ : GNode)), r9.e_, xs12, a, c, h, (el18.st st35), o, sT18⟩
 rintro _ w30 ⟨atx3, de3, l3, ex3, xs11, a7, c7, hJ, el17, o, st32⟩
 have h := h2 atx3 de3 l3 ex3 hJ
 have sT19 := (((((((((sT.trans st4).trans st13).trans st14).trans st15).trans st16).trans st17).trans st18).trans st20).trans st31).trans st32
 refine call_then (h _ w30 (o.mo hm hrm (.head _)) _ _ _ _ _ _ (Mem.inms 2 rfl) (o.objin 2 3 rfl rfl (by decide)) (o.at 2 rfl) (o.rowAt 3 rfl) el17 le_r0 (f_r0.st sT19)) ?_
 rintro _ w34 ⟨r10, h, -, ⟨a8, c8, xs13, bx9, hr14, el19, fr6⟩, ke11⟩
 obtain ⟨st36, el20, o⟩ := o.y2 2 3 rfl rfl (by decide) ke11 bx9 hr14 fr6 el19
 have sT20 := (st31.trans st32).trans st36
 exact ⟨r10.at_, r10.deep, r10.l, r10.e_, xs13, a8, c8, h, el20, o, sT20⟩
 obtain ⟨J4, h, h2⟩ := h
 refine ⟨fun x9 w35 => J4 x9 ∧ Mem w.heap.size (rb :: (Vc.blk rA).toList) m [((rb :: (Vc.blk rA).toList), w.heap.size, w)] [] w35 [.raw b2 (mapO kStr (encM (fun x : Int => .q x) (((((([] : List (List UInt8 × Int)) ++ [([115, 108, 101, 101, 112], 27)]) ++ [([112, 114, 105, 110, 116], 28)]) ++ [([97, 115, 115, 101, 114, 116], 29)]) ++ [([115, 107, 105, 112], 30)]) ++ [([115, 116, 111, 112], 31)]))), .box b [.q x.kind, .s x.text, .q x.n, .q x.at_], .box rb [.slice rA0 r.toks.length rC0, .q (IntKind.i64.wrap (r1.at_ + 1)), .q r1.deep, .slice a r1.l.length c, .q r1.e_], .row 39 5 a r1.l.length c xs] ∧ Step (ms [.raw b2 (mapO kStr (encM (fun x : Int => .q x) (((((([] : List (List UInt8 × Int)) ++ [([115, 108, 101, 101, 112], 27)]) ++ [([112, 114, 105, 110, 116], 28)]) ++ [([97, 115, 115, 101, 114, 116], 29)]) ++ [([115, 107, 105, 112], 30)]) ++ [([115, 116, 111, 112], 31)]))), .box b [.q x.kind, .s x.text, .q x.n, .q x.at_], .box rb [.slice rA0 r.toks.length rC0, .q (IntKind.i64.wrap (r1.at_ + 1)), .q r1.deep, .slice a r1.l.length c, .q r1.e_], .row 39 5 a r1.l.length c xs] m) w19 (ms [.raw b2 (mapO kStr (encM (fun x : Int => .q x) (((((([] : List (List UInt8 × Int)) ++ [([115, 108, 101, 101, 112], 27)]) ++ [([112, 114, 105, 110, 116], 28)]) ++ [([97, 115, 115, 101, 114, 116], 29)]) ++ [([115, 107, 105, 112], 30)]) ++ [([115, 116, 111, 112], 31)]))), .box b [.q x.kind, .s x.text, .q x.n, .q x.at_], .box rb [.slice rA0 r.toks.length rC0, .q (IntKind.i64.wrap (r1.at_ + 1)), .q r1.deep, .slice a r1.l.length c, .q r1.e_], .row 39 5 a r1.l.length c xs] m) w35, ?_, ?_⟩
 refine cond_map (fun h => ?_) (fun h => ?_) h
 exact ⟨h, o, Step.refl _ _⟩
 refine cond_map (fun h => ?_) (fun h => ?_) h
 exact ⟨h, o, Step.refl _ _⟩
 exact ⟨h, o, Step.refl _ _⟩
 rintro _ x9 w35 ⟨hJ, o, st37⟩
 have h := h2 x9 hJ
 refine cond_map (fun h => ?_) (fun h => ?_) h
 obtain ⟨J5, h, h2⟩ := h
 refine ⟨fun w36 => ∃ (l4 : List GNode) (xs14 : List Value), J5 l4 ∧ (r1.l.length = l4.length ∧ El cGNode (ms [.raw b2 (mapO kStr (encM (fun x : Int => .q x) (((((([] : List (List UInt8 × Int)) ++ [([115, 108, 101, 101, 112], 27)]) ++ [([112, 114, 105, 110, 116], 28)]) ++ [([97, 115, 115, 101, 114, 116], 29)]) ++ [([115, 107, 105, 112], 30)]) ++ [([115, 116, 111, 112], 31)]))), .box b [.q x.kind, .s x.text, .q x.n, .q x.at_], .box rb [.slice rA0 r.toks.length rC0, .q (IntKind.i64.wrap (r1.at_ + 1)), .q r1.deep, .slice a r1.l.length c, .q r1.e_], .row 39 5 a r1.l.length c xs14] m) w36 l4 xs14) ∧ Mem w.heap.size (rb :: (Vc.blk rA).toList) m [((rb :: (Vc.blk rA).toList), w.heap.size, w)] [] w36 [.raw b2 (mapO kStr (encM (fun x : Int => .q x) (((((([] : List (List UInt8 × Int)) ++ [([115, 108, 101, 101, 112], 27)]) ++ [([112, 114, 105, 110, 116], 28)]) ++ [([97, 115, 115, 101, 114, 116], 29)]) ++ [([115, 107, 105, 112], 30)]) ++ [([115, 116, 111, 112], 31)]))), .box b [.q x.kind, .s x.text, .q x.n, .q x.at_], .box rb [.slice rA0 r.toks.length rC0, .q (IntKind.i64.wrap (r1.at_ + 1)), .q r1.deep, .slice a r1.l.length c, .q r1.e_], .row 39 5 a r1.l.length c xs14] ∧ Step (ms [.raw b2 (mapO kStr (encM (fun x : Int => .q x) (((((([] : List (List UInt8 × Int)) ++ [([115, 108, 101, 101, 112], 27)]) ++ [([112, 114, 105, 110, 116], 28)]) ++ [([97, 115, 115, 101, 114, 116], 29)]) ++ [([115, 107, 105, 112], 30)]) ++ [([115, 116, 111, 112], 31)]))), .box b [.q x.kind, .s x.text, .q x.n, .q x.at_], .box rb [.slice rA0 r.toks.length rC0, .q (IntKind.i64.wrap (r1.at_ + 1)), .q r1.deep, .slice a r1.l.length c, .q r1.e_], .row 39 5 a r1.l.length c xs] m) w35 (ms [.raw b2 (mapO kStr (encM (fun x : Int => .q x) (((((([] : List (List UInt8 × Int)) ++ [([115, 108, 101, 101, 112], 27)]) ++ [([112, 114, 105, 110, 116], 28)]) ++ [([97, 115, 115, 101, 114, 116], 29)]) ++ [([115, 107, 105, 112], 30)]) ++ [([115, 116, 111, 112], 31)]))), .box b [.q x.kind, .s x.text, .q x.n, .q x.at_], .box rb [.slice rA0 r.toks.length rC0, .q (IntKind.i64.wrap (r1.at_ + 1)), .q r1.deep, .slice a r1.l.length c, .q r1.e_], .row 39 5 a r1.l.length c xs14] m) w36, ?_, ?_⟩
 intro w37 hw37
 obtain ⟨st39, o⟩ := o.dD hw37
 have ox2 := o
 refine ⟨fun u => Keep [] w37 u, Keep.refl _ _, ?_⟩
 refine ⟨_, _, _, fun u hu => ((ox2.at 2 rfl).keep hu (by simp)).cell rfl, ?_⟩
 refine ⟨_, fun u hu => ((ox2.at 1 rfl).keep hu (by simp)).cell rfl, ?_⟩
 refine map_get (E := kStr) (f := (fun x : Int => .q x)) (L := (((((([] : List (List UInt8 × Int)) ++ [([115, 108, 101, 101, 112], 27)]) ++ [([112, 114, 105, 110, 116], 28)]) ++ [([97, 115, 115, 101, 114, 116], 29)]) ++ [([115, 107, 105, 112], 30)]) ++ [([115, 116, 111, 112], 31)])) (z := 0) (o.rawAt 0 rfl) Try.underlying104 Try.underlying9 (by kernel_rfl) x.text ?_
 have h := h _ rfl
 generalize (getG (((((([] : List (List UInt8 × Int)) ++ [([115, 108, 101, 101, 112], 27)]) ++ [([112, 114, 105, 110, 116], 28)]) ++ [([97, 115, 115, 101, 114, 116], 29)]) ++ [([115, 107, 105, 112], 30)]) ++ [([115, 116, 111, 112], 31)]) x.text).getD 0 = x10 at h ⊢
 refine ⟨_, rfl, ?_⟩
 refine ⟨(Keep.refl _ _), ?_⟩
 obtain ⟨hi5, h⟩ := h
 have sT21 := (((((((st13.trans st14).trans st15).trans st16).trans st17).trans st18).trans st20).trans st37).trans st39
 obtain ⟨p5, x11, cs6, hp5, he5, hc5, hr15⟩ := row_elem (o.rowAt 3 rfl) (el1.st sT21) hi5
 obtain rfl := GNode_out hr15
 have h := h x11 he5
 refine ⟨hi5, ptrOr_some hp5 ?_⟩
 have hq5 := row_putp (i := i.toNat) (o.rowAt 3 rfl) (el1.st sT21) hp5 he5 hc5.2 rfl 0 (.q x10) (by decide)
 refine ⟨hq5.1, fun w38 hw38 => ?_⟩
 obtain ⟨xs15, hr16, hg10, hel5⟩ := hq5.2 _ hw38
 have el22 := hel5 (⟨x10, x11.name, x11.n, x11.kids, x11.at_⟩ : GNode) (GNode_in (⟨x10, x11.name, x11.n, x11.kids, x11.at_⟩ : GNode))
 have st40 := o.xA 3 rfl hr16 hg10 (.inl rfl)
 have o := o.app 3 rfl hr16 hg10 (.inl rfl)
 have ln6 : r1.l.length = (r1.l.set i.toNat (⟨x10, x11.name, x11.n, x11.kids, x11.at_⟩ : GNode)).length := row_len (o.rowAt 3 rfl) (el22.st st40)
 exact ⟨(r1.l.set i.toNat (⟨x10, x11.name, x11.n, x11.kids, x11.at_⟩ : GNode)), xs15, h, ⟨ln6, (el22.st st40)⟩, o, (st39.trans st40)⟩
 rintro _ w36 ⟨l4, xs14, hJ, ⟨ln5, el21⟩, o, st38⟩
 have h := h2 l4 hJ
 rw [ln5] at o
 try rw [ln5]
 have sT22 := (((((((((sT.trans st4).trans st13).trans st14).trans st15).trans st16).trans st17).trans st18).trans st20).trans st37).trans st38
 refine call_then (h _ w36 (o.mo hm hrm (.head _)) _ _ _ _ _ _ (Mem.inms 2 rfl) (o.objin 2 3 rfl rfl (by decide)) (o.at 2 rfl) (o.rowAt 3 rfl) el21 le_r0 (f_r0.st sT22)) ?_
 rintro _ w39 ⟨r11, h, -, ⟨a9, c9, xs16, bx10, hr17, el23, fr7⟩, ke12⟩
 obtain ⟨st41, el24, o⟩ := o.y2 2 3 rfl rfl (by decide) ke12 bx10 hr17 fr7 el23
 have sT23 := (st37.trans st38).trans st41
 exact ⟨r11.at_, r11.deep, r11.l, r11.e_, xs16, a9, c9, h, el24, o, sT23⟩
 obtain ⟨J6, h, h2⟩ := h
 refine ⟨fun x12 w40 => J6 x12 ∧ Mem w.heap.size (rb :: (Vc.blk rA).toList) m [((rb :: (Vc.blk rA).toList), w.heap.size, w)] [] w40 [.raw b2 (mapO kStr (encM (fun x : Int => .q x) (((((([] : List (List UInt8 × Int)) ++ [([115, 108, 101, 101, 112], 27)]) ++ [([112, 114, 105, 110, 116], 28)]) ++ [([97, 115, 115, 101, 114, 116], 29)]) ++ [([115, 107, 105, 112], 30)]) ++ [([115, 116, 111, 112], 31)]))), .box b [.q x.kind, .s x.text, .q x.n, .q x.at_], .box rb [.slice rA0 r.toks.length rC0, .q (IntKind.i64.wrap (r1.at_ + 1)), .q r1.deep, .slice a r1.l.length c, .q r1.e_], .row 39 5 a r1.l.length c xs] ∧ Step (ms [.raw b2 (mapO kStr (encM (fun x : Int => .q x) (((((([] : List (List UInt8 × Int)) ++ [([115, 108, 101, 101, 112], 27)]) ++ [([112, 114, 105, 110, 116], 28)]) ++ [([97, 115, 115, 101, 114, 116], 29)]) ++ [([115, 107, 105, 112], 30)]) ++ [([115, 116, 111, 112], 31)]))), .box b [.q x.kind, .s x.text, .q x.n, .q x.at_], .box rb [.slice rA0 r.toks.length rC0, .q (IntKind.i64.wrap (r1.at_ + 1)), .q r1.deep, .slice a r1.l.length c, .q r1.e_], .row 39 5 a r1.l.length c xs] m) w35 (ms [.raw b2 (mapO kStr (encM (fun x : Int => .q x) (((((([] : List (List UInt8 × Int)) ++ [([115, 108, 101, 101, 112], 27)]) ++ [([112, 114, 105, 110, 116], 28)]) ++ [([97, 115, 115, 101, 114, 116], 29)]) ++ [([115, 107, 105, 112], 30)]) ++ [([115, 116, 111, 112], 31)]))), .box b [.q x.kind, .s x.text, .q x.n, .q x.at_], .box rb [.slice rA0 r.toks.length rC0, .q (IntKind.i64.wrap (r1.at_ + 1)), .q r1.deep, .slice a r1.l.length c, .q r1.e_], .row 39 5 a r1.l.length c xs] m) w40, ?_, ?_⟩
 refine cond_map (fun h => ?_) (fun h => ?_) h
 exact ⟨h, o, Step.refl _ _⟩
 exact ⟨h, o, Step.refl _ _⟩
 rintro _ x12 w40 ⟨hJ, o, st42⟩
 have h := h2 x12 hJ
 refine cond_map (fun h => ?_) (fun h => ?_) h
 intro w41 hw41
 obtain ⟨st43, o⟩ := o.dD hw41
 have ox3 := o
 refine ⟨fun u => Keep [] w41 u, Keep.refl _ _, ?_⟩
 refine ⟨_, _, _, fun u hu => ((ox3.at 2 rfl).keep hu (by simp)).cell rfl, ?_⟩
 refine ⟨_, fun u hu => ((ox3.at 1 rfl).keep hu (by simp)).cell rfl, ?_⟩
 refine map_get (E := kStr) (f := (fun x : Int => .q x)) (L := (((((([] : List (List UInt8 × Int)) ++ [([115, 108, 101, 101, 112], 27)]) ++ [([112, 114, 105, 110, 116], 28)]) ++ [([97, 115, 115, 101, 114, 116], 29)]) ++ [([115, 107, 105, 112], 30)]) ++ [([115, 116, 111, 112], 31)])) (z := 0) (o.rawAt 0 rfl) Try.underlying104 Try.underlying9 (by kernel_rfl) x.text ?_
 have h := h _ rfl
 generalize (getG (((((([] : List (List UInt8 × Int)) ++ [([115, 108, 101, 101, 112], 27)]) ++ [([112, 114, 105, 110, 116], 28)]) ++ [([97, 115, 115, 101, 114, 116], 29)]) ++ [([115, 107, 105, 112], 30)]) ++ [([115, 116, 111, 112], 31)]) x.text).getD 0 = x13 at h ⊢
 refine ⟨_, rfl, ?_⟩
 refine ⟨(Keep.refl _ _), ?_⟩
 obtain ⟨hi6, h⟩ := h
 have sT24 := ((((((((st13.trans st14).trans st15).trans st16).trans st17).trans st18).trans st20).trans st37).trans st42).trans st43
 obtain ⟨p6, x14, cs7, hp6, he6, hc6, hr18⟩ := row_elem (o.rowAt 3 rfl) (el1.st sT24) hi6
 obtain rfl := GNode_out hr18
 have h := h x14 he6
 refine ⟨hi6, ptrOr_some hp6 ?_⟩
 have hq6 := row_putp (i := i.toNat) (o.rowAt 3 rfl) (el1.st sT24) hp6 he6 hc6.2 rfl 0 (.q x13) (by decide)
 refine ⟨hq6.1, fun w42 hw42 => ?_⟩
 obtain ⟨xs17, hr19, hg11, hel6⟩ := hq6.2 _ hw42
 have el25 := hel6 (⟨x13, x14.name, x14.n, x14.kids, x14.at_⟩ : GNode) (GNode_in (⟨x13, x14.name, x14.n, x14.kids, x14.at_⟩ : GNode))
 have st44 := o.xA 3 rfl hr19 hg11 (.inl rfl)
 have o := o.app 3 rfl hr19 hg11 (.inl rfl)
 have ln7 : r1.l.length = (r1.l.set i.toNat (⟨x13, x14.name, x14.n, x14.kids, x14.at_⟩ : GNode)).length := row_len (o.rowAt 3 rfl) (el25.st st44)
 rw [ln7] at o
 have sT25 := ((st37.trans st42).trans st43).trans st44
 exact ⟨(IntKind.i64.wrap (r1.at_ + 1)), r1.deep, (r1.l.set i.toNat (⟨x13, x14.name, x14.n, x14.kids, x14.at_⟩ : GNode)), r1.e_, xs17, a, c, h, (el25.st st44), o, sT25⟩
 refine cond_map (fun h => ?_) (fun h => ?_) h
 refine ⟨_, _, _, (o.at 2 rfl).cell rfl, ?_⟩
 obtain ⟨hi7, h⟩ := h
 have sT26 := (((((((st13.trans st14).trans st15).trans st16).trans st17).trans st18).trans st20).trans st37).trans st42
 obtain ⟨p7, x15, cs8, hp7, he7, hc7, hr20⟩ := row_elem (o.rowAt 3 rfl) (el1.st sT26) hi7
 obtain rfl := GNode_out hr20
 have h := h x15 he7
 refine ⟨hi7, ptrOr_some hp7 ?_⟩
 have hq7 := row_putp (i := i.toNat) (o.rowAt 3 rfl) (el1.st sT26) hp7 he7 hc7.2 rfl 0 (.q 23) (by decide)
 refine ⟨hq7.1, fun w43 hw43 => ?_⟩
 obtain ⟨xs18, hr21, hg12, hel7⟩ := hq7.2 _ hw43
 have el26 := hel7 (⟨23, x15.name, x15.n, x15.kids, x15.at_⟩ : GNode) (GNode_in (⟨23, x15.name, x15.n, x15.kids, x15.at_⟩ : GNode))
 have st45 := o.xA 3 rfl hr21 hg12 (.inl rfl)
 have o := o.app 3 rfl hr21 hg12 (.inl rfl)
 have ln8 : r1.l.length = (r1.l.set i.toNat (⟨23, x15.name, x15.n, x15.kids, x15.at_⟩ : GNode)).length := row_len (o.rowAt 3 rfl) (el26.st st45)
 rw [ln8] at o
 try rw [ln8]
 have sT27 := ((((((((((sT.trans st4).trans st13).trans st14).trans st15).trans st16).trans st17).trans st18).trans st20).trans st37).trans st42).trans st45
 refine call_then (h _ w43 (o.mo hm hrm (.head _)) _ _ _ _ _ _ (Mem.inms 2 rfl) (o.objin 2 3 rfl rfl (by decide)) (o.at 2 rfl) (o.rowAt 3 rfl) (el26.st st45) le_r0 (f_r0.st sT27)) ?_
 rintro _ w44 ⟨r12, h, -, ⟨a10, c10, xs19, bx11, hr22, el27, fr8⟩, ke13⟩
 obtain ⟨st46, el28, o⟩ := o.y2 2 3 rfl rfl (by decide) ke13 bx11 hr22 fr8 el27
 have sT28 := sT27.trans st46
 refine call_then (h _ w44 (o.mo hm hrm (.head _)) _ _ _ _ _ _ (Mem.inms 2 rfl) (o.objin 2 3 rfl rfl (by decide)) (o.at 2 rfl) (o.rowAt 3 rfl) el28 le_r0 (f_r0.st sT28)) ?_
 rintro _ w45 ⟨r13, h, -, ⟨a11, c11, xs20, bx12, hr23, el29, fr9⟩, ke14⟩
 obtain ⟨st47, el30, o⟩ := o.y2 2 3 rfl rfl (by decide) ke14 bx12 hr23 fr9 el29
 have sT29 := sT28.trans st47
 refine call_then (h _ w45 (o.mo hm hrm (.head _)) _ _ _ _ _ (Mem.inms 2 rfl) (o.at 2 rfl) le_r0 (f_r0.st sT29)) ?_
 rintro _ w46 ⟨x16, r14, h, rfl, bx13, ke15⟩
 obtain ⟨st48, o⟩ := o.dC 2 ke15 bx13 rfl
 refine ⟨_, rfl, ?_⟩
 refine cond_map (fun h => ?_) (fun h => ?_) h
 have sT30 := sT29.trans st48
 refine call_then (h _ w46 (o.mo hm hrm (.head _)) _ _ _ _ _ _ (Mem.inms 2 rfl) (o.objin 2 3 rfl rfl (by decide)) (o.at 2 rfl) (o.rowAt 3 rfl) (el30.st st48) le_r0 (f_r0.st sT30)) ?_
 rintro _ w47 ⟨r15, h, -, ⟨a12, c12, xs21, bx14, hr24, el31, fr10⟩, ke16⟩
 obtain ⟨st49, el32, o⟩ := o.y2 2 3 rfl rfl (by decide) ke16 bx14 hr24 fr10 el31
 exact ⟨(⟨r.toks, r15.at_, r15.deep, r15.l, r15.e_⟩ : Gparse_reader), h, trivial, ⟨_, _, _, o.at 2 rfl, o.rowAt 3 rfl, (el32.st (o.eRS 3 rfl)), o.oldnew 3 rfl 2 rfl (by decide)⟩, o.done⟩
 exact ⟨(⟨r.toks, r14.at_, r14.deep, r13.l, r14.e_⟩ : Gparse_reader), h, trivial, ⟨_, _, _, o.at 2 rfl, o.rowAt 3 rfl, (el30.st (st48.trans (o.eRS 3 rfl))), o.oldnew 3 rfl 2 rfl (by decide)⟩, o.done⟩
 refine cond_map (fun h => ?_) (fun h => ?_) h
 refine ⟨_, _, _, (o.at 2 rfl).cell rfl, ?_⟩
 obtain ⟨hi8, h⟩ := h
 have sT31 := (((((((st13.trans st14).trans st15).trans st16).trans st17).trans st18).trans st20).trans st37).trans st42
 obtain ⟨p8, x17, cs9, hp8, he8, hc8, hr25⟩ := row_elem (o.rowAt 3 rfl) (el1.st sT31) hi8
 obtain rfl := GNode_out hr25
 have h := h x17 he8
 refine ⟨hi8, ptrOr_some hp8 ?_⟩
 have hq8 := row_putp (i := i.toNat) (o.rowAt 3 rfl) (el1.st sT31) hp8 he8 hc8.2 rfl 0 (.q 24) (by decide)
 refine ⟨hq8.1, fun w48 hw48 => ?_⟩
 obtain ⟨xs22, hr26, hg13, hel8⟩ := hq8.2 _ hw48
 have el33 := hel8 (⟨24, x17.name, x17.n, x17.kids, x17.at_⟩ : GNode) (GNode_in (⟨24, x17.name, x17.n, x17.kids, x17.at_⟩ : GNode))
 have st50 := o.xA 3 rfl hr26 hg13 (.inl rfl)
 have o := o.app 3 rfl hr26 hg13 (.inl rfl)
 have ln9 : r1.l.length = (r1.l.set i.toNat (⟨24, x17.name, x17.n, x17.kids, x17.at_⟩ : GNode)).length := row_len (o.rowAt 3 rfl) (el33.st st50)
 rw [ln9] at o
 try rw [ln9]
 have sT32 := ((((((((((sT.trans st4).trans st13).trans st14).trans st15).trans st16).trans st17).trans st18).trans st20).trans st37).trans st42).trans st50
 refine call_then (h _ w48 (o.mo hm hrm (.head _)) _ _ _ _ _ _ (Mem.inms 2 rfl) (o.objin 2 3 rfl rfl (by decide)) (o.at 2 rfl) (o.rowAt 3 rfl) (el33.st st50) le_r0 (f_r0.st sT32)) ?_
 rintro _ w49 ⟨r16, h, -, ⟨a13, c13, xs23, bx15, hr27, el34, fr11⟩, ke17⟩
 obtain ⟨st51, el35, o⟩ := o.y2 2 3 rfl rfl (by decide) ke17 bx15 hr27 fr11 el34
 have sT33 := sT32.trans st51
 refine call_then (h _ w49 (o.mo hm hrm (.head _)) _ _ _ _ _ _ (Mem.inms 2 rfl) (o.objin 2 3 rfl rfl (by decide)) (o.at 2 rfl) (o.rowAt 3 rfl) el35 le_r0 (f_r0.st sT33)) ?_
 rintro _ w50 ⟨r17, h, -, ⟨a14, c14, xs24, bx16, hr28, el36, fr12⟩, ke18⟩
 obtain ⟨st52, el37, o⟩ := o.y2 2 3 rfl rfl (by decide) ke18 bx16 hr28 fr12 el36
 exact ⟨(⟨r.toks, r17.at_, r17.deep, r17.l, r17.e_⟩ : Gparse_reader), h, trivial, ⟨_, _, _, o.at 2 rfl, o.rowAt 3 rfl, (el37.st (o.eRS 3 rfl)), o.oldnew 3 rfl 2 rfl (by decide)⟩, o.done⟩
 refine cond_map (fun h => ?_) (fun h => ?_) h
 refine ⟨_, _, _, (o.at 2 rfl).cell rfl, ?_⟩
 obtain ⟨hi9, h⟩ := h
 have sT34 := (((((((st13.trans st14).trans st15).trans st16).trans st17).trans st18).trans st20).trans st37).trans st42
 obtain ⟨p9, x18, cs10, hp9, he9, hc9, hr29⟩ := row_elem (o.rowAt 3 rfl) (el1.st sT34) hi9
 obtain rfl := GNode_out hr29
 have h := h x18 he9
 refine ⟨hi9, ptrOr_some hp9 ?_⟩
 have hq9 := row_putp (i := i.toNat) (o.rowAt 3 rfl) (el1.st sT34) hp9 he9 hc9.2 rfl 0 (.q 25) (by decide)
 refine ⟨hq9.1, fun w51 hw51 => ?_⟩
 obtain ⟨xs25, hr30, hg14, hel9⟩ := hq9.2 _ hw51
 have el38 := hel9 (⟨25, x18.name, x18.n, x18.kids, x18.at_⟩ : GNode) (GNode_in (⟨25, x18.name, x18.n, x18.kids, x18.at_⟩ : GNode))
 have st53 := o.xA 3 rfl hr30 hg14 (.inl rfl)
 have o := o.app 3 rfl hr30 hg14 (.inl rfl)
 have ln10 : r1.l.length = (r1.l.set i.toNat (⟨25, x18.name, x18.n, x18.kids, x18.at_⟩ : GNode)).length := row_len (o.rowAt 3 rfl) (el38.st st53)
 intro b4 w52 hb4 hw52
 have el39 : El cStr (ms [.raw b2 (mapO kStr (encM (fun x : Int => .q x) (((((([] : List (List UInt8 × Int)) ++ [([115, 108, 101, 101, 112], 27)]) ++ [([112, 114, 105, 110, 116], 28)]) ++ [([97, 115, 115, 101, 114, 116], 29)]) ++ [([115, 107, 105, 112], 30)]) ++ [([115, 116, 111, 112], 31)]))), .box b [.q x.kind, .s x.text, .q x.n, .q x.at_], .box rb [.slice rA0 r.toks.length rC0, .q (IntKind.i64.wrap (r1.at_ + 1)), .q r1.deep, .slice a r1.l.length c, .q r1.e_], .row 39 5 a r1.l.length c xs25] m) w51 ([[123]] : List (List UInt8)) ([.s [123]] : List Value) := (El.cons (cs := [.s [123]]) rfl (El.nil _ _ _))
 have fr13 : w.heap.size ≤ b4 := hb4 ▸ o.le
 have st54 := o.xL hb4 hw52 1 1
 have o := o.lit hb4 hw52 1 1 (by decide) rfl
 have le2 := (o.rowAt 0 rfl).cap
 have st55 := o.xX 0
 have f3 := o.freeze (c := cStr) (l := ([[123]] : List (List UInt8))) 0 rfl (fun q hq h => by have := hrs_ q hq; have := fr13; simp [Vc.blk] at h; omega) (el39.st (st54.trans st55))
 have o := o.erase 0
 rw [ln10] at o
 try rw [ln10]
 have sT35 := ((((((((((((sT.trans st4).trans st13).trans st14).trans st15).trans st16).trans st17).trans st18).trans st20).trans st37).trans st42).trans st53).trans st54).trans st55
 refine call_then (h _ w52 (o.mo hm hrm (.head _)) _ _ _ _ _ (Mem.inms 2 rfl) (o.at 2 rfl) le_r0 (f_r0.st sT35) _ _ le2 f3) ?_
 rintro _ w53 ⟨r18, h, -, bx17, ke19⟩
 obtain ⟨st56, o⟩ := o.dC 2 ke19 bx17 rfl
 obtain ⟨I, ⟨n2, h⟩, h2⟩ := h
 obtain ⟨Z, hZ⟩ : ∃ Z : World → Nat → Prop, Z = fun w54 n => ∃ (atx4 : Int) (de4 : Int) (l5 : List GNode) (ex4 : Int) (xs26 : List Value) (a15 : Option Addr) (c15 : Nat), I atx4 de4 l5 ex4 n ∧ El cGNode (ms [.raw b2 (mapO kStr (encM (fun x : Int => .q x) (((((([] : List (List UInt8 × Int)) ++ [([115, 108, 101, 101, 112], 27)]) ++ [([112, 114, 105, 110, 116], 28)]) ++ [([97, 115, 115, 101, 114, 116], 29)]) ++ [([115, 107, 105, 112], 30)]) ++ [([115, 116, 111, 112], 31)]))), .box b [.q x.kind, .s x.text, .q x.n, .q x.at_], .box rb [.slice rA0 r.toks.length rC0, .q atx4, .q de4, .slice a15 l5.length c15, .q ex4], .row 39 5 a15 l5.length c15 xs26] m) w54 l5 xs26 ∧ Mem w.heap.size (rb :: (Vc.blk rA).toList) m [((rb :: (Vc.blk rA).toList), w.heap.size, w)] [] w54 [.raw b2 (mapO kStr (encM (fun x : Int => .q x) (((((([] : List (List UInt8 × Int)) ++ [([115, 108, 101, 101, 112], 27)]) ++ [([112, 114, 105, 110, 116], 28)]) ++ [([97, 115, 115, 101, 114, 116], 29)]) ++ [([115, 107, 105, 112], 30)]) ++ [([115, 116, 111, 112], 31)]))), .box b [.q x.kind, .s x.text, .q x.n, .q x.at_], .box rb [.slice rA0 r.toks.length rC0, .q atx4, .q de4, .slice a15 l5.length c15, .q ex4], .row 39 5 a15 l5.length c15 xs26] ∧ Step (ms [.raw b2 (mapO kStr (encM (fun x : Int => .q x) (((((([] : List (List UInt8 × Int)) ++ [([115, 108, 101, 101, 112], 27)]) ++ [([112, 114, 105, 110, 116], 28)]) ++ [([97, 115, 115, 101, 114, 116], 29)]) ++ [([115, 107, 105, 112], 30)]) ++ [([115, 116, 111, 112], 31)]))), .box b [.q x.kind, .s x.text, .q x.n, .q x.at_], .box rb [.slice rA0 r.toks.length rC0, .q r18.at_, .q r18.deep, .slice a ((r1.l.set i.toNat (⟨25, x18.name, x18.n, x18.kids, x18.at_⟩ : GNode)).length) c, .q r18.e_], .row 39 5 a ((r1.l.set i.toNat (⟨25, x18.name, x18.n, x18.kids, x18.at_⟩ : GNode)).length) c xs25] m) w53 (ms [.raw b2 (mapO kStr (encM (fun x : Int => .q x) (((((([] : List (List UInt8 × Int)) ++ [([115, 108, 101, 101, 112], 27)]) ++ [([112, 114, 105, 110, 116], 28)]) ++ [([97, 115, 115, 101, 114, 116], 29)]) ++ [([115, 107, 105, 112], 30)]) ++ [([115, 116, 111, 112], 31)]))), .box b [.q x.kind, .s x.text, .q x.n, .q x.at_], .box rb [.slice rA0 r.toks.length rC0, .q atx4, .q de4, .slice a15 l5.length c15, .q ex4], .row 39 5 a15 l5.length c15 xs26] m) w54 := ⟨_, rfl⟩
 refine ⟨fun w54 => ∃ n, Z w54 n, fun w54 => leastN (Z w54), ⟨n2, ?_⟩, ?_⟩
 have sT36 := ((st53.trans st54).trans st55).trans st56
 rw [hZ]; exact ⟨r18.at_, r18.deep, (r1.l.set i.toNat (⟨25, x18.name, x18.n, x18.kids, x18.at_⟩ : GNode)), r18.e_, xs25, a, c, h, (el38.st sT36), o, Step.refl _ _⟩
 intro _ w54 hIZ
 obtain ⟨n, hnn⟩ : ∃ n, n = leastN (Z w54) := ⟨_, rfl⟩
 have hIZ := leastN_at hIZ
 rw [← hnn, hZ] at hIZ
 obtain ⟨atx4, de4, l5, ex4, xs26, a15, c15, h, el40, o, st57⟩ := hIZ
 have h := h2 atx4 de4 l5 ex4 n h
 have sT37 := (sT35.trans st56).trans st57
 refine call_then (h _ w54 (o.mo hm hrm (.head _)) _ _ _ _ _ _ (Mem.inms 2 rfl) (o.objin 2 3 rfl rfl (by decide)) (o.at 2 rfl) (o.rowAt 3 rfl) el40 le_r0 (f_r0.st sT37)) ?_
 rintro _ w55 ⟨r19, h, -, ⟨a16, c16, xs27, bx18, hr31, el41, fr14⟩, ke20⟩
 obtain ⟨st58, el42, o⟩ := o.y2 2 3 rfl rfl (by decide) ke20 bx18 hr31 fr14 el41
 refine ⟨_, _, _, (o.at 2 rfl).cell rfl, ?_⟩
 obtain ⟨hi10, h⟩ := h
 obtain ⟨p10, x19, cs11, hp10, he10, hc10, hr32⟩ := row_elem (o.rowAt 3 rfl) el42 hi10
 obtain rfl := GNode_out hr32
 have h := h x19 he10
 refine ⟨hi10, ptrOr_some hp10 ?_⟩
 refine ⟨_, hc10.2 3 (Nat.le_of_ble_eq_true rfl), ?_⟩
 obtain ⟨hi11, h⟩ := h
 obtain ⟨p11, x20, cs12, hp11, he11, hc11, hr33⟩ := row_elem (o.rowAt 3 rfl) el42 hi11
 obtain rfl := GNode_out hr33
 have h := h x20 he11
 refine ⟨hi11, ptrOr_some hp11 ?_⟩
 have hq10 := row_putp (i := i.toNat) (o.rowAt 3 rfl) el42 hp11 he11 hc11.2 rfl 3 (.q (IntKind.i64.wrap (x19.kids + 1))) (by decide)
 refine ⟨hq10.1, fun w56 hw56 => ?_⟩
 obtain ⟨xs28, hr34, hg15, hel10⟩ := hq10.2 _ hw56
 have el43 := hel10 (⟨x20.op, x20.name, x20.n, IntKind.i64.wrap (x19.kids + 1), x20.at_⟩ : GNode) (GNode_in (⟨x20.op, x20.name, x20.n, IntKind.i64.wrap (x19.kids + 1), x20.at_⟩ : GNode))
 have st59 := o.xA 3 rfl hr34 hg15 (.inl rfl)
 have o := o.app 3 rfl hr34 hg15 (.inl rfl)
 have ln11 : r19.l.length = (r19.l.set i.toNat (⟨x20.op, x20.name, x20.n, IntKind.i64.wrap (x19.kids + 1), x20.at_⟩ : GNode)).length := row_len (o.rowAt 3 rfl) (el43.st st59)
 obtain ⟨J7, h, h2⟩ := h
 refine ⟨fun x21 w57 => J7 x21 ∧ Mem w.heap.size (rb :: (Vc.blk rA).toList) m [((rb :: (Vc.blk rA).toList), w.heap.size, w)] [] w57 [.raw b2 (mapO kStr (encM (fun x : Int => .q x) (((((([] : List (List UInt8 × Int)) ++ [([115, 108, 101, 101, 112], 27)]) ++ [([112, 114, 105, 110, 116], 28)]) ++ [([97, 115, 115, 101, 114, 116], 29)]) ++ [([115, 107, 105, 112], 30)]) ++ [([115, 116, 111, 112], 31)]))), .box b [.q x.kind, .s x.text, .q x.n, .q x.at_], .box rb [.slice rA0 r.toks.length rC0, .q r19.at_, .q r19.deep, .slice a16 r19.l.length c16, .q r19.e_], .row 39 5 a16 r19.l.length c16 xs28] ∧ Step (ms [.raw b2 (mapO kStr (encM (fun x : Int => .q x) (((((([] : List (List UInt8 × Int)) ++ [([115, 108, 101, 101, 112], 27)]) ++ [([112, 114, 105, 110, 116], 28)]) ++ [([97, 115, 115, 101, 114, 116], 29)]) ++ [([115, 107, 105, 112], 30)]) ++ [([115, 116, 111, 112], 31)]))), .box b [.q x.kind, .s x.text, .q x.n, .q x.at_], .box rb [.slice rA0 r.toks.length rC0, .q r19.at_, .q r19.deep, .slice a16 r19.l.length c16, .q r19.e_], .row 39 5 a16 r19.l.length c16 xs28] m) w56 (ms [.raw b2 (mapO kStr (encM (fun x : Int => .q x) (((((([] : List (List UInt8 × Int)) ++ [([115, 108, 101, 101, 112], 27)]) ++ [([112, 114, 105, 110, 116], 28)]) ++ [([97, 115, 115, 101, 114, 116], 29)]) ++ [([115, 107, 105, 112], 30)]) ++ [([115, 116, 111, 112], 31)]))), .box b [.q x.kind, .s x.text, .q x.n, .q x.at_], .box rb [.slice rA0 r.toks.length rC0, .q r19.at_, .q r19.deep, .slice a16 r19.l.length c16, .q r19.e_], .row 39 5 a16 r19.l.length c16 xs28] m) w57, ?_, ?_⟩
 refine ⟨_, (o.at 2 rfl).cell rfl, ?_⟩
 refine cond_map (fun h => ?_) (fun h => ?_) h
 exact ⟨h, o, Step.refl _ _⟩
 rw [ln11] at o
 try rw [ln11]
 have sT38 := (sT37.trans st58).trans st59
 refine call_then (h _ w56 (o.mo hm hrm (.head _)) _ _ _ _ _ (o.at 2 rfl) le_r0 (f_r0.st sT38)) ?_
 rintro _ w58 ⟨x22, h, rfl, ke21⟩
 obtain ⟨st61, o⟩ := o.dE ke21
 refine ⟨_, rfl, ?_⟩
 exact ⟨h, o, st61⟩
 rintro _ x21 w57 ⟨hJ, o, st60⟩
 have h := h2 x21 hJ
 refine cond_map (fun h => ?_) (fun h => ?_) h
 intro b5 w59 hb5 hw59
 have el44 : El cStr (ms [.raw b2 (mapO kStr (encM (fun x : Int => .q x) (((((([] : List (List UInt8 × Int)) ++ [([115, 108, 101, 101, 112], 27)]) ++ [([112, 114, 105, 110, 116], 28)]) ++ [([97, 115, 115, 101, 114, 116], 29)]) ++ [([115, 107, 105, 112], 30)]) ++ [([115, 116, 111, 112], 31)]))), .box b [.q x.kind, .s x.text, .q x.n, .q x.at_], .box rb [.slice rA0 r.toks.length rC0, .q r19.at_, .q r19.deep, .slice a16 r19.l.length c16, .q r19.e_], .row 39 5 a16 r19.l.length c16 xs28] m) w57 ([[125]] : List (List UInt8)) ([.s [125]] : List Value) := (El.cons (cs := [.s [125]]) rfl (El.nil _ _ _))
 have fr15 : w.heap.size ≤ b5 := hb5 ▸ o.le
 have st62 := o.xL hb5 hw59 1 1
 have o := o.lit hb5 hw59 1 1 (by decide) rfl
 have le3 := (o.rowAt 0 rfl).cap
 have st63 := o.xX 0
 have f4 := o.freeze (c := cStr) (l := ([[125]] : List (List UInt8))) 0 rfl (fun q hq h => by have := hrs_ q hq; have := fr15; simp [Vc.blk] at h; omega) (el44.st (st62.trans st63))
 have o := o.erase 0
 rw [ln11] at o
 try rw [ln11]
 have sT39 := ((((sT37.trans st58).trans st59).trans st60).trans st62).trans st63
 refine call_then (h _ w59 (o.mo hm hrm (.head _)) _ _ _ _ _ (Mem.inms 2 rfl) (o.at 2 rfl) le_r0 (f_r0.st sT39) _ _ le3 f4) ?_
 rintro _ w60 ⟨r20, h, -, bx19, ke22⟩
 obtain ⟨st64, o⟩ := o.dC 2 ke22 bx19 rfl
 exact ⟨(⟨r.toks, r20.at_, r20.deep, (r19.l.set i.toNat (⟨x20.op, x20.name, x20.n, IntKind.i64.wrap (x19.kids + 1), x20.at_⟩ : GNode)), r20.e_⟩ : Gparse_reader), h, trivial, ⟨_, _, _, o.at 2 rfl, o.rowAt 3 rfl, (el43.st (st59.trans (st60.trans (st62.trans (st63.trans (st64.trans (o.eRS 3 rfl))))))), o.oldnew 3 rfl 2 rfl (by decide)⟩, o.done⟩
 rw [ln11] at o
 obtain ⟨n1, hl, h⟩ := h
 have sT40 := ((st57.trans st58).trans st59).trans st60
 exact loop_again hnn (show Z w57 n1 from (by rw [hZ]; exact ⟨r19.at_, r19.deep, (r19.l.set i.toNat (⟨x20.op, x20.name, x20.n, IntKind.i64.wrap (x19.kids + 1), x20.at_⟩ : GNode)), r19.e_, xs28, a16, c16, h, (el43.st (st59.trans st60)), o, sT40⟩)) hl
 refine ⟨_, (o.at 2 rfl).cell rfl, ?_⟩
 refine ⟨o.wr 2 rfl rfl, fun w61 hw61 => ?_⟩
 obtain ⟨st65, o⟩ := o.dS 2 hw61 rfl
 have sT41 := ((((((((((sT.trans st4).trans st13).trans st14).trans st15).trans st16).trans st17).trans st18).trans st20).trans st37).trans st42).trans st65
 refine call_then (h _ w61 (o.mo hm hrm (.head _)) _ _ _ _ _ (Mem.inms 2 rfl) (o.at 2 rfl) le_r0 (f_r0.st sT41)) ?_
 rintro _ w62 ⟨r21, h, -, bx20, ke23⟩
 obtain ⟨st66, o⟩ := o.dC 2 ke23 bx20 rfl
 exact ⟨(⟨r.toks, r21.at_, r21.deep, r1.l, r21.e_⟩ : Gparse_reader), h, trivial, ⟨_, _, _, o.at 2 rfl, o.rowAt 3 rfl, (el1.st (st13.trans (st14.trans (st15.trans (st16.trans (st17.trans (st18.trans (st20.trans (st37.trans (st42.trans (st65.trans (st66.trans (o.eRS 3 rfl))))))))))))), o.oldnew 3 rfl 2 rfl (by decide)⟩, o.done⟩
 rintro _ w20 ⟨atx1, de1, l1, ex1, xs5, a4, c4, hJ, el9, o, st21⟩
 have h := h2 atx1 de1 l1 ex1 hJ
 intro b6 w63 hb6 hw63
 have el45 : El cStr (ms [.raw b2 (mapO kStr (encM (fun x : Int => .q x) (((((([] : List (List UInt8 × Int)) ++ [([115, 108, 101, 101, 112], 27)]) ++ [([112, 114, 105, 110, 116], 28)]) ++ [([97, 115, 115, 101, 114, 116], 29)]) ++ [([115, 107, 105, 112], 30)]) ++ [([115, 116, 111, 112], 31)]))), .box b [.q x.kind, .s x.text, .q x.n, .q x.at_], .box rb [.slice rA0 r.toks.length rC0, .q atx1, .q de1, .slice a4 l1.length c4, .q ex1], .row 39 5 a4 l1.length c4 xs5] m) w20 ([[59]] : List (List UInt8)) ([.s [59]] : List Value) := (El.cons (cs := [.s [59]]) rfl (El.nil _ _ _))
 have fr16 : w.heap.size ≤ b6 := hb6 ▸ o.le
 have st67 := o.xL hb6 hw63 1 1
 have o := o.lit hb6 hw63 1 1 (by decide) rfl
 have le4 := (o.rowAt 0 rfl).cap
 have st68 := o.xX 0
 have f5 := o.freeze (c := cStr) (l := ([[59]] : List (List UInt8))) 0 rfl (fun q hq h => by have := hrs_ q hq; have := fr16; simp [Vc.blk] at h; omega) (el45.st (st67.trans st68))
 have o := o.erase 0
 have sT42 := ((((((((((sT.trans st4).trans st13).trans st14).trans st15).trans st16).trans st17).trans st18).trans st20).trans st21).trans st67).trans st68
 refine call_then (h _ w63 (o.mo hm hrm (.head _)) _ _ _ _ _ (Mem.inms 2 rfl) (o.at 2 rfl) le_r0 (f_r0.st sT42) _ _ le4 f5) ?_
 rintro _ w64 ⟨r22, h, -, bx21, ke24⟩
 obtain ⟨st69, o⟩ := o.dC 2 ke24 bx21 rfl
 exact ⟨(⟨r.toks, r22.at_, r22.deep, l1, r22.e_⟩ : Gparse_reader), h, trivial, ⟨_, _, _, o.at 2 rfl, o.rowAt 3 rfl, (el9.st (st67.trans (st68.trans (st69.trans (o.eRS 3 rfl))))), o.oldnew 3 rfl 2 rfl (by decide)⟩, o.done⟩
def parse_reader_decl_vwp (r : Gparse_reader) (K : Gparse_reader → Prop) : Prop :=
 V_parse_reader_open r 41 (fun i r1 =>
 V_parse_reader_eat (⟨r.toks, r1.at_, r1.deep, r1.l, r1.e_⟩ : Gparse_reader) [99, 104, 97, 110] (fun x r2 =>
 cond (x)
 (((0 : Int) ≤ i ∧ i < (r1.l.length : Int)) ∧
 ∀ x1, r1.l[i.toNat]? = some x1 →
 ∃ (J : Int → Int → (List GNode) → Int → Prop),
 (V_parse_reader_name (⟨r.toks, r2.at_, r2.deep, (r1.l.set i.toNat (⟨38, x1.name, x1.n, x1.kids, x1.at_⟩ : GNode)), r2.e_⟩ : Gparse_reader) (fun x2 r3 =>
 ((0 : Int) ≤ i ∧ i < ((r1.l.set i.toNat (⟨38, x1.name, x1.n, x1.kids, x1.at_⟩ : GNode)).length : Int)) ∧
 ∀ x3, (r1.l.set i.toNat (⟨38, x1.name, x1.n, x1.kids, x1.at_⟩ : GNode))[i.toNat]? = some x3 →
 J r3.at_ r3.deep ((r1.l.set i.toNat (⟨38, x1.name, x1.n, x1.kids, x1.at_⟩ : GNode)).set i.toNat (⟨x3.op, x2, x3.n, x3.kids, x3.at_⟩ : GNode)) r3.e_)) ∧
 ∀ (atx : Int) (de : Int) (l : List GNode) (ex : Int), J atx de l ex →
 ∃ (J1 : Int → Int → (List GNode) → Int → Prop),
 (V_parse_reader_eat (⟨r.toks, atx, de, l, ex⟩ : Gparse_reader) [91] (fun x4 r4 =>
 cond (x4)
 (V_parse_reader_size (⟨r.toks, r4.at_, r4.deep, l, r4.e_⟩ : Gparse_reader) i (fun r5 =>
 V_parse_reader_must (⟨r.toks, r5.at_, r5.deep, r5.l, r5.e_⟩ : Gparse_reader) ([[93]] : List (List UInt8)) (fun r6 =>
 J1 r6.at_ r6.deep r5.l r6.e_)))
 (J1 r4.at_ r4.deep l r4.e_))) ∧
 ∀ (atx1 : Int) (de1 : Int) (l1 : List GNode) (ex1 : Int), J1 atx1 de1 l1 ex1 →
 V_parse_reader_must (⟨r.toks, atx1, de1, l1, ex1⟩ : Gparse_reader) ([[59]] : List (List UInt8)) (fun r7 =>
 K (⟨r.toks, r7.at_, r7.deep, l1, r7.e_⟩ : Gparse_reader)))
 (V_parse_reader_eat (⟨r.toks, r2.at_, r2.deep, r1.l, r2.e_⟩ : Gparse_reader) [112, 114, 111, 99] (fun x5 r8 =>
 cond (x5)
 (((0 : Int) ≤ i ∧ i < (r1.l.length : Int)) ∧
 ∀ x6, r1.l[i.toNat]? = some x6 →
 ∃ (J2 : Int → Int → (List GNode) → Int → Prop),
 (V_parse_reader_name (⟨r.toks, r8.at_, r8.deep, (r1.l.set i.toNat (⟨40, x6.name, x6.n, x6.kids, x6.at_⟩ : GNode)), r8.e_⟩ : Gparse_reader) (fun x7 r9 =>
 ((0 : Int) ≤ i ∧ i < ((r1.l.set i.toNat (⟨40, x6.name, x6.n, x6.kids, x6.at_⟩ : GNode)).length : Int)) ∧
 ∀ x8, (r1.l.set i.toNat (⟨40, x6.name, x6.n, x6.kids, x6.at_⟩ : GNode))[i.toNat]? = some x8 →
 J2 r9.at_ r9.deep ((r1.l.set i.toNat (⟨40, x6.name, x6.n, x6.kids, x6.at_⟩ : GNode)).set i.toNat (⟨x8.op, x7, x8.n, x8.kids, x8.at_⟩ : GNode)) r9.e_)) ∧
 ∀ (atx2 : Int) (de2 : Int) (l2 : List GNode) (ex2 : Int), J2 atx2 de2 l2 ex2 →
 V_parse_reader_must (⟨r.toks, atx2, de2, l2, ex2⟩ : Gparse_reader) ([[40]] : List (List UInt8)) (fun r10 =>
 ∃ (J3 : Int → Int → (List GNode) → Int → Prop),
 (V_parse_reader_eat (⟨r.toks, r10.at_, r10.deep, l2, r10.e_⟩ : Gparse_reader) [41] (fun x9 r11 =>
 cond (!x9)
 (V_parse_reader_param (⟨r.toks, r11.at_, r11.deep, l2, r11.e_⟩ : Gparse_reader) i (fun r12 =>
 ∃ (I : Int → Int → (List GNode) → Int → Nat → Prop), (∃ n, I r12.at_ r12.deep r12.l r12.e_ n) ∧
 ∀ (atx4 : Int) (de4 : Int) (l4 : List GNode) (ex4 : Int) (n : Nat), I atx4 de4 l4 ex4 n →
 V_parse_reader_eat (⟨r.toks, atx4, de4, l4, ex4⟩ : Gparse_reader) [44] (fun x10 r13 =>
 cond (x10)
 (V_parse_reader_param (⟨r.toks, r13.at_, r13.deep, l4, r13.e_⟩ : Gparse_reader) i (fun r14 =>
 ∃ n1, n1 < n ∧ I r14.at_ r14.deep r14.l r14.e_ n1))
 (V_parse_reader_must (⟨r.toks, r13.at_, r13.deep, l4, r13.e_⟩ : Gparse_reader) ([[41]] : List (List UInt8)) (fun r15 =>
 J3 r15.at_ r15.deep l4 r15.e_)))))
 (J3 r11.at_ r11.deep l2 r11.e_))) ∧
 ∀ (atx3 : Int) (de3 : Int) (l3 : List GNode) (ex3 : Int), J3 atx3 de3 l3 ex3 →
 V_parse_reader_block (⟨r.toks, atx3, de3, l3, ex3⟩ : Gparse_reader) i (fun r16 =>
 K (⟨r.toks, r16.at_, r16.deep, r16.l, r16.e_⟩ : Gparse_reader))))
 (V_parse_reader_must (⟨r.toks, r8.at_, r8.deep, r1.l, r8.e_⟩ : Gparse_reader) ([[109, 97, 105, 110]] : List (List UInt8)) (fun r17 =>
 V_parse_reader_block (⟨r.toks, r17.at_, r17.deep, r1.l, r17.e_⟩ : Gparse_reader) i (fun r18 =>
 K (⟨r.toks, r18.at_, r18.deep, r18.l, r18.e_⟩ : Gparse_reader))))))))
set_option maxHeartbeats 4000000 in
theorem parse_reader_decl_lift (r : Gparse_reader) (K : Gparse_reader → Prop) (h : parse_reader_decl_vwp r K) : V_parse_reader_decl r K := by
 intro m w hm rb rA rC rxs rA0 rC0 in_r ina_r bx_r rw_r f_r le_r0 f_r0
 have hrs_ := Mem.objlt hm.lt in_r ina_r
 have o := Mem.obj hm.lt in_r ina_r bx_r rw_r
 have st := Mem.objS (w := w) (l := [.slice rA0 r.toks.length rC0, .q r.at_, .q r.deep, .slice rA r.l.length rC, .q r.e_]) (e := 39) (size := 5) (n := r.l.length) (c := rC) (xs := rxs) in_r ina_r
 have hrm : ∀ b ∈ (rb :: (Vc.blk rA).toList), b ∈ m := fun b hb => (List.mem_cons.1 hb).elim (fun e => e ▸ in_r) (fun h => (ina_r b (Option.mem_toList.1 h)).1)
 refine parse_reader_decl_ok rb _ _ ?_
 refine call_then (h _ w (o.mo hm hrm (.head _)) _ _ _ _ _ _ (Mem.inms 0 rfl) (o.objin 0 1 rfl rfl (by decide)) (o.at 0 rfl) (o.rowAt 1 rfl) (f_r.st st) le_r0 (f_r0.st st)) ?_
 rintro _ w1 ⟨i, r1, h, rfl, ⟨a, c, xs, bx, hr, el, fr⟩, ke⟩
 obtain ⟨st1, el1, o⟩ := o.y2 0 1 rfl rfl (by decide) ke bx hr fr el
 refine ⟨_, rfl, ?_⟩
 refine call_then (h _ w1 (o.mo hm hrm (.head _)) _ _ _ _ _ (Mem.inms 0 rfl) (o.at 0 rfl) le_r0 (f_r0.st (st.trans st1))) ?_
 rintro _ w2 ⟨x, r2, h, rfl, bx1, ke1⟩
 obtain ⟨st2, o⟩ := o.dC 0 ke1 bx1 rfl
 refine ⟨_, rfl, ?_⟩
 refine cond_map (fun h => ?_) (fun h => ?_) h
 refine ⟨_, _, _, (o.at 0 rfl).cell rfl, ?_⟩
 obtain ⟨hi, h⟩ := h
 obtain ⟨p, x1, cs, hp, he, hc, hr1⟩ := row_elem (o.rowAt 1 rfl) (el1.st st2) hi
 obtain rfl := GNode_out hr1
 have h := h x1 he
 refine ⟨hi, ptrOr_some hp ?_⟩
 have hq := row_putp (i := i.toNat) (o.rowAt 1 rfl) (el1.st st2) hp he hc.2 rfl 0 (.q 38) (by decide)
 refine ⟨hq.1, fun w3 hw3 => ?_⟩
 obtain ⟨xs1, hr2, hg, hel⟩ := hq.2 _ hw3
 have el2 := hel (⟨38, x1.name, x1.n, x1.kids, x1.at_⟩ : GNode) (GNode_in (⟨38, x1.name, x1.n, x1.kids, x1.at_⟩ : GNode))
 have st3 := o.xA 1 rfl hr2 hg (.inl rfl)
 have o := o.app 1 rfl hr2 hg (.inl rfl)
 have ln : r1.l.length = (r1.l.set i.toNat (⟨38, x1.name, x1.n, x1.kids, x1.at_⟩ : GNode)).length := row_len (o.rowAt 1 rfl) (el2.st st3)
 obtain ⟨J, h, h2⟩ := h
 refine ⟨fun w4 => ∃ (atx : Int) (de : Int) (l : List GNode) (ex : Int) (xs2 : List Value) (a1 : Option Addr) (c1 : Nat), J atx de l ex ∧ El cGNode (ms [.box rb [.slice rA0 r.toks.length rC0, .q atx, .q de, .slice a1 l.length c1, .q ex], .row 39 5 a1 l.length c1 xs2] m) w4 l xs2 ∧ Mem w.heap.size (rb :: (Vc.blk rA).toList) m [((rb :: (Vc.blk rA).toList), w.heap.size, w)] [] w4 [.box rb [.slice rA0 r.toks.length rC0, .q atx, .q de, .slice a1 l.length c1, .q ex], .row 39 5 a1 l.length c1 xs2] ∧ Step (ms [.box rb [.slice rA0 r.toks.length rC0, .q r2.at_, .q r2.deep, .slice a r1.l.length c, .q r2.e_], .row 39 5 a r1.l.length c xs1] m) w3 (ms [.box rb [.slice rA0 r.toks.length rC0, .q atx, .q de, .slice a1 l.length c1, .q ex], .row 39 5 a1 l.length c1 xs2] m) w4, ?_, ?_⟩
 intro w5 hw5
 obtain ⟨st5, o⟩ := o.dD hw5
 rw [ln] at o
 try rw [ln]
 have ox := o
 refine ⟨fun u => Keep [rb] w5 u ∧ u.cell? ⟨rb, 3, none⟩ = some (.slice a ((r1.l.set i.toNat (⟨38, x1.name, x1.n, x1.kids, x1.at_⟩ : GNode)).length) c), ⟨Keep.refl _ _, (o.at 0 rfl).cell (i := 3) rfl⟩, ?_⟩
 refine ⟨_, _, _, fun u hu => hu.2, ?_⟩
 have sT := (((st.trans st1).trans st2).trans st3).trans st5
 refine call_then (h _ w5 (o.mo hm hrm (.head _)) _ _ _ _ _ (Mem.inms 0 rfl) (o.at 0 rfl) le_r0 (f_r0.st sT)) ?_
 rintro _ w6 ⟨x2, r3, h, rfl, bx2, ke2⟩
 obtain ⟨st6, o⟩ := o.dC 0 ke2 bx2 rfl
 refine ⟨_, rfl, ?_⟩
 refine ⟨⟨(Keep.mono ke2 (by simp)), (o.at 0 rfl).cell (i := 3) rfl⟩, ?_⟩
 obtain ⟨hi1, h⟩ := h
 have sT1 := (st3.trans st5).trans st6
 obtain ⟨p1, x3, cs1, hp1, he1, hc1, hr3⟩ := row_elem (o.rowAt 1 rfl) (el2.st sT1) hi1
 obtain rfl := GNode_out hr3
 have h := h x3 he1
 refine ⟨hi1, ptrOr_some hp1 ?_⟩
 have hq1 := row_putp (i := i.toNat) (o.rowAt 1 rfl) (el2.st sT1) hp1 he1 hc1.2 rfl 1 (.s x2) (by decide)
 refine ⟨hq1.1, fun w7 hw7 => ?_⟩
 obtain ⟨xs3, hr4, hg1, hel1⟩ := hq1.2 _ hw7
 have el4 := hel1 (⟨x3.op, x2, x3.n, x3.kids, x3.at_⟩ : GNode) (GNode_in (⟨x3.op, x2, x3.n, x3.kids, x3.at_⟩ : GNode))
 have st7 := o.xA 1 rfl hr4 hg1 (.inl rfl)
 have o := o.app 1 rfl hr4 hg1 (.inl rfl)
 have ln1 : (r1.l.set i.toNat (⟨38, x1.name, x1.n, x1.kids, x1.at_⟩ : GNode)).length = ((r1.l.set i.toNat (⟨38, x1.name, x1.n, x1.kids, x1.at_⟩ : GNode)).set i.toNat (⟨x3.op, x2, x3.n, x3.kids, x3.at_⟩ : GNode)).length := row_len (o.rowAt 1 rfl) (el4.st st7)
 rw [ln1] at o
 have sT2 := (st5.trans st6).trans st7
 exact ⟨r3.at_, r3.deep, ((r1.l.set i.toNat (⟨38, x1.name, x1.n, x1.kids, x1.at_⟩ : GNode)).set i.toNat (⟨x3.op, x2, x3.n, x3.kids, x3.at_⟩ : GNode)), r3.e_, xs3, a, c, h, (el4.st st7), o, sT2⟩
 rintro _ w4 ⟨atx, de, l, ex, xs2, a1, c1, hJ, el3, o, st4⟩
 have h := h2 atx de l ex hJ
 obtain ⟨J1, h, h2⟩ := h
 refine ⟨fun w8 => ∃ (atx1 : Int) (de1 : Int) (l1 : List GNode) (ex1 : Int) (xs4 : List Value) (a2 : Option Addr) (c2 : Nat), J1 atx1 de1 l1 ex1 ∧ El cGNode (ms [.box rb [.slice rA0 r.toks.length rC0, .q atx1, .q de1, .slice a2 l1.length c2, .q ex1], .row 39 5 a2 l1.length c2 xs4] m) w8 l1 xs4 ∧ Mem w.heap.size (rb :: (Vc.blk rA).toList) m [((rb :: (Vc.blk rA).toList), w.heap.size, w)] [] w8 [.box rb [.slice rA0 r.toks.length rC0, .q atx1, .q de1, .slice a2 l1.length c2, .q ex1], .row 39 5 a2 l1.length c2 xs4] ∧ Step (ms [.box rb [.slice rA0 r.toks.length rC0, .q atx, .q de, .slice a1 l.length c1, .q ex], .row 39 5 a1 l.length c1 xs2] m) w4 (ms [.box rb [.slice rA0 r.toks.length rC0, .q atx1, .q de1, .slice a2 l1.length c2, .q ex1], .row 39 5 a2 l1.length c2 xs4] m) w8, ?_, ?_⟩
 have sT3 := (((st.trans st1).trans st2).trans st3).trans st4
 refine call_then (h _ w4 (o.mo hm hrm (.head _)) _ _ _ _ _ (Mem.inms 0 rfl) (o.at 0 rfl) le_r0 (f_r0.st sT3)) ?_
 rintro _ w9 ⟨x4, r4, h, rfl, bx3, ke3⟩
 obtain ⟨st9, o⟩ := o.dC 0 ke3 bx3 rfl
 refine ⟨_, rfl, ?_⟩
 refine cond_map (fun h => ?_) (fun h => ?_) h
 have sT4 := sT3.trans st9
 refine call_then (h _ w9 (o.mo hm hrm (.head _)) _ _ _ _ _ _ (Mem.inms 0 rfl) (o.objin 0 1 rfl rfl (by decide)) (o.at 0 rfl) (o.rowAt 1 rfl) (el3.st st9) le_r0 (f_r0.st sT4)) ?_
 rintro _ w10 ⟨r5, h, -, ⟨a3, c3, xs5, bx4, hr5, el6, fr1⟩, ke4⟩
 obtain ⟨st10, el7, o⟩ := o.y2 0 1 rfl rfl (by decide) ke4 bx4 hr5 fr1 el6
 intro b w11 hb hw11
 have el8 : El cStr (ms [.box rb [.slice rA0 r.toks.length rC0, .q r5.at_, .q r5.deep, .slice a3 r5.l.length c3, .q r5.e_], .row 39 5 a3 r5.l.length c3 xs5] m) w10 ([[93]] : List (List UInt8)) ([.s [93]] : List Value) := (El.cons (cs := [.s [93]]) rfl (El.nil _ _ _))
 have fr2 : w.heap.size ≤ b := hb ▸ o.le
 have st11 := o.xL hb hw11 1 1
 have o := o.lit hb hw11 1 1 (by decide) rfl
 have le := (o.rowAt 0 rfl).cap
 have st12 := o.xX 0
 have f := o.freeze (c := cStr) (l := ([[93]] : List (List UInt8))) 0 rfl (fun q hq h => by have := hrs_ q hq; have := fr2; simp [Vc.blk] at h; omega) (el8.st (st11.trans st12))
 have o := o.erase 0
 have sT5 := ((sT4.trans st10).trans st11).trans st12
 refine call_then (h _ w11 (o.mo hm hrm (.head _)) _ _ _ _ _ (Mem.inms 0 rfl) (o.at 0 rfl) le_r0 (f_r0.st sT5) _ _ le f) ?_
 rintro _ w12 ⟨r6, h, -, bx5, ke5⟩
 obtain ⟨st13, o⟩ := o.dC 0 ke5 bx5 rfl
 have sT6 := (st11.trans st12).trans st13
 have sT7 := (((st9.trans st10).trans st11).trans st12).trans st13
 exact ⟨r6.at_, r6.deep, r5.l, r6.e_, xs5, a3, c3, h, (el7.st sT6), o, sT7⟩
 exact ⟨r4.at_, r4.deep, l, r4.e_, xs2, a1, c1, h, (el3.st st9), o, st9⟩
 rintro _ w8 ⟨atx1, de1, l1, ex1, xs4, a2, c2, hJ, el5, o, st8⟩
 have h := h2 atx1 de1 l1 ex1 hJ
 intro b1 w13 hb1 hw13
 have el9 : El cStr (ms [.box rb [.slice rA0 r.toks.length rC0, .q atx1, .q de1, .slice a2 l1.length c2, .q ex1], .row 39 5 a2 l1.length c2 xs4] m) w8 ([[59]] : List (List UInt8)) ([.s [59]] : List Value) := (El.cons (cs := [.s [59]]) rfl (El.nil _ _ _))
 have fr3 : w.heap.size ≤ b1 := hb1 ▸ o.le
 have st14 := o.xL hb1 hw13 1 1
 have o := o.lit hb1 hw13 1 1 (by decide) rfl
 have le1 := (o.rowAt 0 rfl).cap
 have st15 := o.xX 0
 have f1 := o.freeze (c := cStr) (l := ([[59]] : List (List UInt8))) 0 rfl (fun q hq h => by have := hrs_ q hq; have := fr3; simp [Vc.blk] at h; omega) (el9.st (st14.trans st15))
 have o := o.erase 0
 have sT8 := ((((((st.trans st1).trans st2).trans st3).trans st4).trans st8).trans st14).trans st15
 refine call_then (h _ w13 (o.mo hm hrm (.head _)) _ _ _ _ _ (Mem.inms 0 rfl) (o.at 0 rfl) le_r0 (f_r0.st sT8) _ _ le1 f1) ?_
 rintro _ w14 ⟨r7, h, -, bx6, ke6⟩
 obtain ⟨st16, o⟩ := o.dC 0 ke6 bx6 rfl
 exact ⟨(⟨r.toks, r7.at_, r7.deep, l1, r7.e_⟩ : Gparse_reader), h, trivial, ⟨_, _, _, o.at 0 rfl, o.rowAt 1 rfl, (el5.st (st14.trans (st15.trans (st16.trans (o.eRS 1 rfl))))), o.oldnew 1 rfl 0 rfl (by decide)⟩, o.done⟩
 have sT9 := (st.trans st1).trans st2
 refine call_then (h _ w2 (o.mo hm hrm (.head _)) _ _ _ _ _ (Mem.inms 0 rfl) (o.at 0 rfl) le_r0 (f_r0.st sT9)) ?_
 rintro _ w15 ⟨x5, r8, h, rfl, bx7, ke7⟩
 obtain ⟨st17, o⟩ := o.dC 0 ke7 bx7 rfl
 refine ⟨_, rfl, ?_⟩
 refine cond_map (fun h => ?_) (fun h => ?_) h
 refine ⟨_, _, _, (o.at 0 rfl).cell rfl, ?_⟩
 obtain ⟨hi2, h⟩ := h
 obtain ⟨p2, x6, cs2, hp2, he2, hc2, hr6⟩ := row_elem (o.rowAt 1 rfl) (el1.st (st2.trans st17)) hi2
 obtain rfl := GNode_out hr6
 have h := h x6 he2
 refine ⟨hi2, ptrOr_some hp2 ?_⟩
 have hq2 := row_putp (i := i.toNat) (o.rowAt 1 rfl) (el1.st (st2.trans st17)) hp2 he2 hc2.2 rfl 0 (.q 40) (by decide)
 refine ⟨hq2.1, fun w16 hw16 => ?_⟩
 obtain ⟨xs6, hr7, hg2, hel2⟩ := hq2.2 _ hw16
 have el10 := hel2 (⟨40, x6.name, x6.n, x6.kids, x6.at_⟩ : GNode) (GNode_in (⟨40, x6.name, x6.n, x6.kids, x6.at_⟩ : GNode))
 have st18 := o.xA 1 rfl hr7 hg2 (.inl rfl)
 have o := o.app 1 rfl hr7 hg2 (.inl rfl)
 have ln2 : r1.l.length = (r1.l.set i.toNat (⟨40, x6.name, x6.n, x6.kids, x6.at_⟩ : GNode)).length := row_len (o.rowAt 1 rfl) (el10.st st18)
 obtain ⟨J2, h, h2⟩ := h
 refine ⟨fun w17 => ∃ (atx2 : Int) (de2 : Int) (l2 : List GNode) (ex2 : Int) (xs7 : List Value) (a4 : Option Addr) (c4 : Nat), J2 atx2 de2 l2 ex2 ∧ El cGNode (ms [.box rb [.slice rA0 r.toks.length rC0, .q atx2, .q de2, .slice a4 l2.length c4, .q ex2], .row 39 5 a4 l2.length c4 xs7] m) w17 l2 xs7 ∧ Mem w.heap.size (rb :: (Vc.blk rA).toList) m [((rb :: (Vc.blk rA).toList), w.heap.size, w)] [] w17 [.box rb [.slice rA0 r.toks.length rC0, .q atx2, .q de2, .slice a4 l2.length c4, .q ex2], .row 39 5 a4 l2.length c4 xs7] ∧ Step (ms [.box rb [.slice rA0 r.toks.length rC0, .q r8.at_, .q r8.deep, .slice a r1.l.length c, .q r8.e_], .row 39 5 a r1.l.length c xs6] m) w16 (ms [.box rb [.slice rA0 r.toks.length rC0, .q atx2, .q de2, .slice a4 l2.length c4, .q ex2], .row 39 5 a4 l2.length c4 xs7] m) w17, ?_, ?_⟩
 intro w18 hw18
 obtain ⟨st20, o⟩ := o.dD hw18
 rw [ln2] at o
 try rw [ln2]
 have ox1 := o
 refine ⟨fun u => Keep [rb] w18 u ∧ u.cell? ⟨rb, 3, none⟩ = some (.slice a ((r1.l.set i.toNat (⟨40, x6.name, x6.n, x6.kids, x6.at_⟩ : GNode)).length) c), ⟨Keep.refl _ _, (o.at 0 rfl).cell (i := 3) rfl⟩, ?_⟩
 refine ⟨_, _, _, fun u hu => hu.2, ?_⟩
 have sT10 := ((sT9.trans st17).trans st18).trans st20
 refine call_then (h _ w18 (o.mo hm hrm (.head _)) _ _ _ _ _ (Mem.inms 0 rfl) (o.at 0 rfl) le_r0 (f_r0.st sT10)) ?_
 rintro _ w19 ⟨x7, r9, h, rfl, bx8, ke8⟩
 obtain ⟨st21, o⟩ := o.dC 0 ke8 bx8 rfl
 refine ⟨_, rfl, ?_⟩
 refine ⟨⟨(Keep.mono ke8 (by simp)), (o.at 0 rfl).cell (i := 3) rfl⟩, ?_⟩
 obtain ⟨hi3, h⟩ := h
 have sT11 := (st18.trans st20).trans st21
 obtain ⟨p3, x8, cs3, hp3, he3, hc3, hr8⟩ := row_elem (o.rowAt 1 rfl) (el10.st sT11) hi3
 obtain rfl := GNode_out hr8
 have h := h x8 he3
 refine ⟨hi3, ptrOr_some hp3 ?_⟩
 have hq3 := row_putp (i := i.toNat) (o.rowAt 1 rfl) (el10.st sT11) hp3 he3 hc3.2 rfl 1 (.s x7) (by decide)
 refine ⟨hq3.1, fun w20 hw20 => ?_⟩
 obtain ⟨xs8, hr9, hg3, hel3⟩ := hq3.2 _ hw20
 have el12 := hel3 (⟨x8.op, x7, x8.n, x8.kids, x8.at_⟩ : GNode) (GNode_in (⟨x8.op, x7, x8.n, x8.kids, x8.at_⟩ : GNode))
 have st22 := o.xA 1 rfl hr9 hg3 (.inl rfl)
 have o := o.app 1 rfl hr9 hg3 (.inl rfl)
 have ln3 : (r1.l.set i.toNat (⟨40, x6.name, x6.n, x6.kids, x6.at_⟩ : GNode)).length = ((r1.l.set i.toNat (⟨40, x6.name, x6.n, x6.kids, x6.at_⟩ : GNode)).set i.toNat (⟨x8.op, x7, x8.n, x8.kids, x8.at_⟩ : GNode)).length := row_len (o.rowAt 1 rfl) (el12.st st22)
 rw [ln3] at o
 have sT12 := (st20.trans st21).trans st22
 exact ⟨r9.at_, r9.deep, ((r1.l.set i.toNat (⟨40, x6.name, x6.n, x6.kids, x6.at_⟩ : GNode)).set i.toNat (⟨x8.op, x7, x8.n, x8.kids, x8.at_⟩ : GNode)), r9.e_, xs8, a, c, h, (el12.st st22), o, sT12⟩
 rintro _ w17 ⟨atx2, de2, l2, ex2, xs7, a4, c4, hJ, el11, o, st19⟩
 have h := h2 atx2 de2 l2 ex2 hJ
 intro b2 w21 hb2 hw21
 have el13 : El cStr (ms [.box rb [.slice rA0 r.toks.length rC0, .q atx2, .q de2, .slice a4 l2.length c4, .q ex2], .row 39 5 a4 l2.length c4 xs7] m) w17 ([[40]] : List (List UInt8)) ([.s [40]] : List Value) := (El.cons (cs := [.s [40]]) rfl (El.nil _ _ _))
 have fr4 : w.heap.size ≤ b2 := hb2 ▸ o.le
 have st23 := o.xL hb2 hw21 1 1
 have o := o.lit hb2 hw21 1 1 (by decide) rfl
 have le2 := (o.rowAt 0 rfl).cap
 have st24 := o.xX 0
 have f2 := o.freeze (c := cStr) (l := ([[40]] : List (List UInt8))) 0 rfl (fun q hq h => by have := hrs_ q hq; have := fr4; simp [Vc.blk] at h; omega) (el13.st (st23.trans st24))
 have o := o.erase 0
 have sT13 := ((((sT9.trans st17).trans st18).trans st19).trans st23).trans st24
 refine call_then (h _ w21 (o.mo hm hrm (.head _)) _ _ _ _ _ (Mem.inms 0 rfl) (o.at 0 rfl) le_r0 (f_r0.st sT13) _ _ le2 f2) ?_
 rintro _ w22 ⟨r10, h, -, bx9, ke9⟩
 obtain ⟨st25, o⟩ := o.dC 0 ke9 bx9 rfl
 obtain ⟨J3, h, h2⟩ := h
 refine ⟨fun w23 => ∃ (atx3 : Int) (de3 : Int) (l3 : List GNode) (ex3 : Int) (xs9 : List Value) (a5 : Option Addr) (c5 : Nat), J3 atx3 de3 l3 ex3 ∧ El cGNode (ms [.box rb [.slice rA0 r.toks.length rC0, .q atx3, .q de3, .slice a5 l3.length c5, .q ex3], .row 39 5 a5 l3.length c5 xs9] m) w23 l3 xs9 ∧ Mem w.heap.size (rb :: (Vc.blk rA).toList) m [((rb :: (Vc.blk rA).toList), w.heap.size, w)] [] w23 [.box rb [.slice rA0 r.toks.length rC0, .q atx3, .q de3, .slice a5 l3.length c5, .q ex3], .row 39 5 a5 l3.length c5 xs9] ∧ Step (ms [.box rb [.slice rA0 r.toks.length rC0, .q r10.at_, .q r10.deep, .slice a4 l2.length c4, .q r10.e_], .row 39 5 a4 l2.length c4 xs7] m) w22 (ms [.box rb [.slice rA0 r.toks.length rC0, .q atx3, .q de3, .slice a5 l3.length c5, .q ex3], .row 39 5 a5 l3.length c5 xs9] m) w23, ?_, ?_⟩
 have sT14 := sT13.trans st25
 refine call_then (h _ w22 (o.mo hm hrm (.head _)) _ _ _ _ _ (Mem.inms 0 rfl) (o.at 0 rfl) le_r0 (f_r0.st sT14)) ?_
 rintro _ w24 ⟨x9, r11, h, rfl, bx10, ke10⟩
 obtain ⟨st27, o⟩ := o.dC 0 ke10 bx10 rfl
 refine ⟨_, rfl, ?_⟩
 refine cond_map (fun h => ?_) (fun h => ?_) h
 have sT15 := ((st23.trans st24).trans st25).trans st27
 have sT16 := sT14.trans st27
 refine call_then (h _ w24 (o.mo hm hrm (.head _)) _ _ _ _ _ _ (Mem.inms 0 rfl) (o.objin 0 1 rfl rfl (by decide)) (o.at 0 rfl) (o.rowAt 1 rfl) (el11.st sT15) le_r0 (f_r0.st sT16)) ?_
 rintro _ w25 ⟨r12, h, -, ⟨a6, c6, xs10, bx11, hr10, el15, fr5⟩, ke11⟩
 obtain ⟨st28, el16, o⟩ := o.y2 0 1 rfl rfl (by decide) ke11 bx11 hr10 fr5 el15
 obtain ⟨I, ⟨n2, h⟩, h2⟩ := h
 obtain ⟨Z, hZ⟩ : ∃ Z : World → Nat → Prop, Z = fun w26 n => ∃ (atx4 : Int) (de4 : Int) (l4 : List GNode) (ex4 : Int) (xs11 : List Value) (a7 : Option Addr) (c7 : Nat), I atx4 de4 l4 ex4 n ∧ El cGNode (ms [.box rb [.slice rA0 r.toks.length rC0, .q atx4, .q de4, .slice a7 l4.length c7, .q ex4], .row 39 5 a7 l4.length c7 xs11] m) w26 l4 xs11 ∧ Mem w.heap.size (rb :: (Vc.blk rA).toList) m [((rb :: (Vc.blk rA).toList), w.heap.size, w)] [] w26 [.box rb [.slice rA0 r.toks.length rC0, .q atx4, .q de4, .slice a7 l4.length c7, .q ex4], .row 39 5 a7 l4.length c7 xs11] ∧ Step (ms [.box rb [.slice rA0 r.toks.length rC0, .q r12.at_, .q r12.deep, .slice a6 r12.l.length c6, .q r12.e_], .row 39 5 a6 r12.l.length c6 xs10] m) w25 (ms [.box rb [.slice rA0 r.toks.length rC0, .q atx4, .q de4, .slice a7 l4.length c7, .q ex4], .row 39 5 a7 l4.length c7 xs11] m) w26 := ⟨_, rfl⟩
 refine ⟨fun w26 => ∃ n, Z w26 n, fun w26 => leastN (Z w26), ⟨n2, ?_⟩, ?_⟩
 rw [hZ]; exact ⟨r12.at_, r12.deep, r12.l, r12.e_, xs10, a6, c6, h, el16, o, Step.refl _ _⟩
 intro _ w26 hIZ
 obtain ⟨n, hnn⟩ : ∃ n, n = leastN (Z w26) := ⟨_, rfl⟩
 have hIZ := leastN_at hIZ
 rw [← hnn, hZ] at hIZ
 obtain ⟨atx4, de4, l4, ex4, xs11, a7, c7, h, el17, o, st29⟩ := hIZ
 have h := h2 atx4 de4 l4 ex4 n h
 have sT17 := (sT16.trans st28).trans st29
 refine call_then (h _ w26 (o.mo hm hrm (.head _)) _ _ _ _ _ (Mem.inms 0 rfl) (o.at 0 rfl) le_r0 (f_r0.st sT17)) ?_
 rintro _ w27 ⟨x10, r13, h, rfl, bx12, ke12⟩
 obtain ⟨st30, o⟩ := o.dC 0 ke12 bx12 rfl
 refine ⟨_, rfl, ?_⟩
 refine cond_map (fun h => ?_) (fun h => ?_) h
 have sT18 := sT17.trans st30
 refine call_then (h _ w27 (o.mo hm hrm (.head _)) _ _ _ _ _ _ (Mem.inms 0 rfl) (o.objin 0 1 rfl rfl (by decide)) (o.at 0 rfl) (o.rowAt 1 rfl) (el17.st st30) le_r0 (f_r0.st sT18)) ?_
 rintro _ w28 ⟨r14, h, -, ⟨a8, c8, xs12, bx13, hr11, el18, fr6⟩, ke13⟩
 obtain ⟨st31, el19, o⟩ := o.y2 0 1 rfl rfl (by decide) ke13 bx13 hr11 fr6 el18
 obtain ⟨n1, hl, h⟩ := h
 have sT19 := (st29.trans st30).trans st31
 exact loop_again hnn (show Z w28 n1 from (by rw [hZ]; exact ⟨r14.at_, r14.deep, r14.l, r14.e_, xs12, a8, c8, h, el19, o, sT19⟩)) hl
 intro b3 w29 hb3 hw29
 have el20 : El cStr (ms [.box rb [.slice rA0 r.toks.length rC0, .q r13.at_, .q r13.deep, .slice a7 l4.length c7, .q r13.e_], .row 39 5 a7 l4.length c7 xs11] m) w27 ([[41]] : List (List UInt8)) ([.s [41]] : List Value) := (El.cons (cs := [.s [41]]) rfl (El.nil _ _ _))
 have fr7 : w.heap.size ≤ b3 := hb3 ▸ o.le
 have st32 := o.xL hb3 hw29 1 1
 have o := o.lit hb3 hw29 1 1 (by decide) rfl
 have le3 := (o.rowAt 0 rfl).cap
 have st33 := o.xX 0
 have f3 := o.freeze (c := cStr) (l := ([[41]] : List (List UInt8))) 0 rfl (fun q hq h => by have := hrs_ q hq; have := fr7; simp [Vc.blk] at h; omega) (el20.st (st32.trans st33))
 have o := o.erase 0
 have sT20 := ((sT17.trans st30).trans st32).trans st33
 refine call_then (h _ w29 (o.mo hm hrm (.head _)) _ _ _ _ _ (Mem.inms 0 rfl) (o.at 0 rfl) le_r0 (f_r0.st sT20) _ _ le3 f3) ?_
 rintro _ w30 ⟨r15, h, -, bx14, ke14⟩
 obtain ⟨st34, o⟩ := o.dC 0 ke14 bx14 rfl
 have sT21 := ((st30.trans st32).trans st33).trans st34
 have sT22 := (((((st27.trans st28).trans st29).trans st30).trans st32).trans st33).trans st34
 exact ⟨r15.at_, r15.deep, l4, r15.e_, xs11, a7, c7, h, (el17.st sT21), o, sT22⟩
 have sT23 := ((st23.trans st24).trans st25).trans st27
 exact ⟨r11.at_, r11.deep, l2, r11.e_, xs7, a4, c4, h, (el11.st sT23), o, st27⟩
 rintro _ w23 ⟨atx3, de3, l3, ex3, xs9, a5, c5, hJ, el14, o, st26⟩
 have h := h2 atx3 de3 l3 ex3 hJ
 have sT24 := (sT13.trans st25).trans st26
 refine call_then (h _ w23 (o.mo hm hrm (.head _)) _ _ _ _ _ _ (Mem.inms 0 rfl) (o.objin 0 1 rfl rfl (by decide)) (o.at 0 rfl) (o.rowAt 1 rfl) el14 le_r0 (f_r0.st sT24)) ?_
 rintro _ w31 ⟨r16, h, -, ⟨a9, c9, xs13, bx15, hr12, el21, fr8⟩, ke15⟩
 obtain ⟨st35, el22, o⟩ := o.y2 0 1 rfl rfl (by decide) ke15 bx15 hr12 fr8 el21
 exact ⟨(⟨r.toks, r16.at_, r16.deep, r16.l, r16.e_⟩ : Gparse_reader), h, trivial, ⟨_, _, _, o.at 0 rfl, o.rowAt 1 rfl, (el22.st (o.eRS 1 rfl)), o.oldnew 1 rfl 0 rfl (by decide)⟩, o.done⟩
 intro b4 w32 hb4 hw32
 have el23 : El cStr (ms [.box rb [.slice rA0 r.toks.length rC0, .q r8.at_, .q r8.deep, .slice a r1.l.length c, .q r8.e_], .row 39 5 a r1.l.length c xs] m) w15 ([[109, 97, 105, 110]] : List (List UInt8)) ([.s [109, 97, 105, 110]] : List Value) := (El.cons (cs := [.s [109, 97, 105, 110]]) rfl (El.nil _ _ _))
 have fr9 : w.heap.size ≤ b4 := hb4 ▸ o.le
 have st36 := o.xL hb4 hw32 1 1
 have o := o.lit hb4 hw32 1 1 (by decide) rfl
 have le4 := (o.rowAt 0 rfl).cap
 have st37 := o.xX 0
 have f4 := o.freeze (c := cStr) (l := ([[109, 97, 105, 110]] : List (List UInt8))) 0 rfl (fun q hq h => by have := hrs_ q hq; have := fr9; simp [Vc.blk] at h; omega) (el23.st (st36.trans st37))
 have o := o.erase 0
 have sT25 := ((sT9.trans st17).trans st36).trans st37
 refine call_then (h _ w32 (o.mo hm hrm (.head _)) _ _ _ _ _ (Mem.inms 0 rfl) (o.at 0 rfl) le_r0 (f_r0.st sT25) _ _ le4 f4) ?_
 rintro _ w33 ⟨r17, h, -, bx16, ke16⟩
 obtain ⟨st38, o⟩ := o.dC 0 ke16 bx16 rfl
 have sT26 := (((st2.trans st17).trans st36).trans st37).trans st38
 have sT27 := sT25.trans st38
 refine call_then (h _ w33 (o.mo hm hrm (.head _)) _ _ _ _ _ _ (Mem.inms 0 rfl) (o.objin 0 1 rfl rfl (by decide)) (o.at 0 rfl) (o.rowAt 1 rfl) (el1.st sT26) le_r0 (f_r0.st sT27)) ?_
 rintro _ w34 ⟨r18, h, -, ⟨a10, c10, xs14, bx17, hr13, el24, fr10⟩, ke17⟩
 obtain ⟨st39, el25, o⟩ := o.y2 0 1 rfl rfl (by decide) ke17 bx17 hr13 fr10 el24
 exact ⟨(⟨r.toks, r18.at_, r18.deep, r18.l, r18.e_⟩ : Gparse_reader), h, trivial, ⟨_, _, _, o.at 0 rfl, o.rowAt 1 rfl, (el25.st (o.eRS 1 rfl)), o.oldnew 1 rfl 0 rfl (by decide)⟩, o.done⟩
def parse_reader_size_vwp (r : Gparse_reader) (i : Int) (K : Gparse_reader → Prop) : Prop :=
 V_parse_reader_see r 0 (fun x =>
 cond (r.e_ != 0)
 (K r)
 (cond (x.kind != 2)
 (V_parse_reader_fail r 11 (fun r1 =>
 K (⟨r.toks, r1.at_, r1.deep, r.l, r1.e_⟩ : Gparse_reader)))
 (∃ (J : Bool → Prop),
 (cond (decide (x.n < 1))
 (J true)
 (J (decide (x.n > 16)))) ∧
 ∀ (x1 : Bool), J x1 →
 cond (x1)
 (V_parse_reader_fail r 6 (fun r2 =>
 K (⟨r.toks, r2.at_, r2.deep, r.l, r2.e_⟩ : Gparse_reader)))
 (((0 : Int) ≤ i ∧ i < (r.l.length : Int)) ∧
 ∀ x2, r.l[i.toNat]? = some x2 →
 K (⟨r.toks, IntKind.i64.wrap (r.at_ + 1), r.deep, (r.l.set i.toNat (⟨x2.op, x2.name, x.n, x2.kids, x2.at_⟩ : GNode)), r.e_⟩ : Gparse_reader)))))
theorem parse_reader_size_lift (r : Gparse_reader) (i : Int) (K : Gparse_reader → Prop) (h : parse_reader_size_vwp r i K) : V_parse_reader_size r i K := by
 intro m w hm rb rA rC rxs rA0 rC0 in_r ina_r bx_r rw_r f_r le_r0 f_r0
 have hrs_ := Mem.objlt hm.lt in_r ina_r
 have o := Mem.obj hm.lt in_r ina_r bx_r rw_r
 have st := Mem.objS (w := w) (l := [.slice rA0 r.toks.length rC0, .q r.at_, .q r.deep, .slice rA r.l.length rC, .q r.e_]) (e := 39) (size := 5) (n := r.l.length) (c := rC) (xs := rxs) in_r ina_r
 have hrm : ∀ b ∈ (rb :: (Vc.blk rA).toList), b ∈ m := fun b hb => (List.mem_cons.1 hb).elim (fun e => e ▸ in_r) (fun h => (ina_r b (Option.mem_toList.1 h)).1)
 refine parse_reader_size_ok rb i _ _ ?_
 refine call_then (h _ w (o.mo hm hrm (.head _)) _ _ _ _ _ (o.at 0 rfl) le_r0 (f_r0.st st)) ?_
 rintro _ w1 ⟨x, h, ⟨cs, rfl, f⟩, ke⟩
 obtain ⟨st1, o⟩ := o.dE ke
 obtain rfl := GToken_out f
 refine ⟨_, _, _, _, rfl, ?_⟩
 intro b w2 hb hw2
 obtain ⟨st2, o⟩ := o.dB hb hw2
 refine ⟨o.wr 0 rfl rfl, fun w3 hw3 => ?_⟩
 obtain ⟨st3, o⟩ := o.dSs 0 hw3 rfl
 refine ⟨_, (o.at 1 rfl).cell rfl, ?_⟩
 refine cond_map (fun h => ?_) (fun h => ?_) h
 exact ⟨r, h, trivial, ⟨_, _, _, o.at 1 rfl, o.rowAt 2 rfl, (f_r.st (st.trans (st1.trans (st2.trans (st3.trans (o.eRS 2 rfl)))))), o.oldnew 2 rfl 1 rfl (by decide)⟩, o.done⟩
 refine ⟨_, (o.at 0 rfl).cell rfl, ?_⟩
 refine cond_map (fun h => ?_) (fun h => ?_) h
 have sT := ((st.trans st1).trans st2).trans st3
 refine call_then (h _ w3 (o.mo hm hrm (.head _)) _ _ _ _ _ (Mem.inms 1 rfl) (o.at 1 rfl) le_r0 (f_r0.st sT)) ?_
 rintro _ w4 ⟨r1, h, -, bx, ke1⟩
 obtain ⟨st4, o⟩ := o.dC 1 ke1 bx rfl
 exact ⟨(⟨r.toks, r1.at_, r1.deep, r.l, r1.e_⟩ : Gparse_reader), h, trivial, ⟨_, _, _, o.at 1 rfl, o.rowAt 2 rfl, (f_r.st (st.trans (st1.trans (st2.trans (st3.trans (st4.trans (o.eRS 2 rfl))))))), o.oldnew 2 rfl 1 rfl (by decide)⟩, o.done⟩
 obtain ⟨J, h, h2⟩ := h
 refine ⟨fun x1 w5 => J x1 ∧ Mem w.heap.size (rb :: (Vc.blk rA).toList) m [((rb :: (Vc.blk rA).toList), w.heap.size, w)] [] w5 [.box b [.q x.kind, .s x.text, .q x.n, .q x.at_], .box rb [.slice rA0 r.toks.length rC0, .q r.at_, .q r.deep, .slice rA r.l.length rC, .q r.e_], .row 39 5 rA r.l.length rC rxs] ∧ Step (ms [.box b [.q x.kind, .s x.text, .q x.n, .q x.at_], .box rb [.slice rA0 r.toks.length rC0, .q r.at_, .q r.deep, .slice rA r.l.length rC, .q r.e_], .row 39 5 rA r.l.length rC rxs] m) w3 (ms [.box b [.q x.kind, .s x.text, .q x.n, .q x.at_], .box rb [.slice rA0 r.toks.length rC0, .q r.at_, .q r.deep, .slice rA r.l.length rC, .q r.e_], .row 39 5 rA r.l.length rC rxs] m) w5, ?_, ?_⟩
 refine ⟨_, (o.at 0 rfl).cell rfl, ?_⟩
 refine cond_map (fun h => ?_) (fun h => ?_) h
 exact ⟨h, o, Step.refl _ _⟩
 refine ⟨_, (o.at 0 rfl).cell rfl, ?_⟩
 exact ⟨h, o, Step.refl _ _⟩
 rintro _ x1 w5 ⟨hJ, o, st5⟩
 have h := h2 x1 hJ
 refine cond_map (fun h => ?_) (fun h => ?_) h
 have sT1 := (((st.trans st1).trans st2).trans st3).trans st5
 refine call_then (h _ w5 (o.mo hm hrm (.head _)) _ _ _ _ _ (Mem.inms 1 rfl) (o.at 1 rfl) le_r0 (f_r0.st sT1)) ?_
 rintro _ w6 ⟨r2, h, -, bx1, ke2⟩
 obtain ⟨st6, o⟩ := o.dC 1 ke2 bx1 rfl
 exact ⟨(⟨r.toks, r2.at_, r2.deep, r.l, r2.e_⟩ : Gparse_reader), h, trivial, ⟨_, _, _, o.at 1 rfl, o.rowAt 2 rfl, (f_r.st (st.trans (st1.trans (st2.trans (st3.trans (st5.trans (st6.trans (o.eRS 2 rfl)))))))), o.oldnew 2 rfl 1 rfl (by decide)⟩, o.done⟩
 refine ⟨_, (o.at 1 rfl).cell rfl, ?_⟩
 refine ⟨o.wr 1 rfl rfl, fun w7 hw7 => ?_⟩
 obtain ⟨st7, o⟩ := o.dS 1 hw7 rfl
 intro w8 hw8
 obtain ⟨st8, o⟩ := o.dD hw8
 refine ⟨_, _, _, (o.at 1 rfl).cell rfl, ?_⟩
 refine ⟨_, (o.at 0 rfl).cell rfl, ?_⟩
 obtain ⟨hi, h⟩ := h
 have sT2 := (((((st.trans st1).trans st2).trans st3).trans st5).trans st7).trans st8
 obtain ⟨p, x2, cs1, hp, he, hc, hr⟩ := row_elem (o.rowAt 2 rfl) (f_r.st sT2) hi
 obtain rfl := GNode_out hr
 have h := h x2 he
 refine ⟨hi, ptrOr_some hp ?_⟩
 have hq := row_putp (i := i.toNat) (o.rowAt 2 rfl) (f_r.st sT2) hp he hc.2 rfl 2 (.q x.n) (by decide)
 refine ⟨hq.1, fun w9 hw9 => ?_⟩
 obtain ⟨xs, hr1, hg, hel⟩ := hq.2 _ hw9
 have el := hel (⟨x2.op, x2.name, x.n, x2.kids, x2.at_⟩ : GNode) (GNode_in (⟨x2.op, x2.name, x.n, x2.kids, x2.at_⟩ : GNode))
 have st9 := o.xA 2 rfl hr1 hg (.inl rfl)
 have o := o.app 2 rfl hr1 hg (.inl rfl)
 have ln : r.l.length = (r.l.set i.toNat (⟨x2.op, x2.name, x.n, x2.kids, x2.at_⟩ : GNode)).length := row_len (o.rowAt 2 rfl) (el.st st9)
 rw [ln] at o
 try rw [ln]
 exact ⟨(⟨r.toks, IntKind.i64.wrap (r.at_ + 1), r.deep, (r.l.set i.toNat (⟨x2.op, x2.name, x.n, x2.kids, x2.at_⟩ : GNode)), r.e_⟩ : Gparse_reader), h, trivial, ⟨_, _, _, o.at 1 rfl, o.rowAt 2 rfl, (el.st (st9.trans (o.eRS 2 rfl))), o.oldnew 2 rfl 1 rfl (by decide)⟩, o.done⟩
def parse_reader_param_vwp (r : Gparse_reader) (up : Int) (K : Gparse_reader → Prop) : Prop :=
 V_parse_reader_open r 39 (fun i r1 =>
 ∃ (J : Int → Int → (List GNode) → Int → Prop),
 (V_parse_reader_name (⟨r.toks, r1.at_, r1.deep, r1.l, r1.e_⟩ : Gparse_reader) (fun x r2 =>
 ((0 : Int) ≤ i ∧ i < (r1.l.length : Int)) ∧
 ∀ x1, r1.l[i.toNat]? = some x1 →
 J r2.at_ r2.deep (r1.l.set i.toNat (⟨x1.op, x, x1.n, x1.kids, x1.at_⟩ : GNode)) r2.e_)) ∧
 ∀ (atx : Int) (de : Int) (l : List GNode) (ex : Int), J atx de l ex →
 ((0 : Int) ≤ up ∧ up < (l.length : Int)) ∧
 ∀ x2, l[up.toNat]? = some x2 →
 ((0 : Int) ≤ up ∧ up < (l.length : Int)) ∧
 ∀ x3, l[up.toNat]? = some x3 →
 K (⟨r.toks, atx, de, (l.set up.toNat (⟨x3.op, x3.name, x3.n, IntKind.i64.wrap (x2.kids + 1), x3.at_⟩ : GNode)), ex⟩ : Gparse_reader))
theorem parse_reader_param_lift (r : Gparse_reader) (up : Int) (K : Gparse_reader → Prop) (h : parse_reader_param_vwp r up K) : V_parse_reader_param r up K := by
 intro m w hm rb rA rC rxs rA0 rC0 in_r ina_r bx_r rw_r f_r le_r0 f_r0
 have hrs_ := Mem.objlt hm.lt in_r ina_r
 have o := Mem.obj hm.lt in_r ina_r bx_r rw_r
 have st := Mem.objS (w := w) (l := [.slice rA0 r.toks.length rC0, .q r.at_, .q r.deep, .slice rA r.l.length rC, .q r.e_]) (e := 39) (size := 5) (n := r.l.length) (c := rC) (xs := rxs) in_r ina_r
 have hrm : ∀ b ∈ (rb :: (Vc.blk rA).toList), b ∈ m := fun b hb => (List.mem_cons.1 hb).elim (fun e => e ▸ in_r) (fun h => (ina_r b (Option.mem_toList.1 h)).1)
 refine parse_reader_param_ok rb up _ _ ?_
 refine call_then (h _ w (o.mo hm hrm (.head _)) _ _ _ _ _ _ (Mem.inms 0 rfl) (o.objin 0 1 rfl rfl (by decide)) (o.at 0 rfl) (o.rowAt 1 rfl) (f_r.st st) le_r0 (f_r0.st st)) ?_
 rintro _ w1 ⟨i, r1, h, rfl, ⟨a, c, xs, bx, hr, el, fr⟩, ke⟩
 obtain ⟨st1, el1, o⟩ := o.y2 0 1 rfl rfl (by decide) ke bx hr fr el
 refine ⟨_, rfl, ?_⟩
 obtain ⟨J, h, h2⟩ := h
 refine ⟨fun w2 => ∃ (atx : Int) (de : Int) (l : List GNode) (ex : Int) (xs1 : List Value) (a1 : Option Addr) (c1 : Nat), J atx de l ex ∧ El cGNode (ms [.box rb [.slice rA0 r.toks.length rC0, .q atx, .q de, .slice a1 l.length c1, .q ex], .row 39 5 a1 l.length c1 xs1] m) w2 l xs1 ∧ Mem w.heap.size (rb :: (Vc.blk rA).toList) m [((rb :: (Vc.blk rA).toList), w.heap.size, w)] [] w2 [.box rb [.slice rA0 r.toks.length rC0, .q atx, .q de, .slice a1 l.length c1, .q ex], .row 39 5 a1 l.length c1 xs1] ∧ Step (ms [.box rb [.slice rA0 r.toks.length rC0, .q r1.at_, .q r1.deep, .slice a r1.l.length c, .q r1.e_], .row 39 5 a r1.l.length c xs] m) w1 (ms [.box rb [.slice rA0 r.toks.length rC0, .q atx, .q de, .slice a1 l.length c1, .q ex], .row 39 5 a1 l.length c1 xs1] m) w2, ?_, ?_⟩
 intro w3 hw3
 obtain ⟨st3, o⟩ := o.dD hw3
 have ox := o
 refine ⟨fun u => Keep [rb] w3 u ∧ u.cell? ⟨rb, 3, none⟩ = some (.slice a r1.l.length c), ⟨Keep.refl _ _, (o.at 0 rfl).cell (i := 3) rfl⟩, ?_⟩
 refine ⟨_, _, _, fun u hu => hu.2, ?_⟩
 have sT := (st.trans st1).trans st3
 refine call_then (h _ w3 (o.mo hm hrm (.head _)) _ _ _ _ _ (Mem.inms 0 rfl) (o.at 0 rfl) le_r0 (f_r0.st sT)) ?_
 rintro _ w4 ⟨x, r2, h, rfl, bx1, ke1⟩
 obtain ⟨st4, o⟩ := o.dC 0 ke1 bx1 rfl
 refine ⟨_, rfl, ?_⟩
 refine ⟨⟨(Keep.mono ke1 (by simp)), (o.at 0 rfl).cell (i := 3) rfl⟩, ?_⟩
 obtain ⟨hi, h⟩ := h
 obtain ⟨p, x1, cs, hp, he, hc, hr1⟩ := row_elem (o.rowAt 1 rfl) (el1.st (st3.trans st4)) hi
 obtain rfl := GNode_out hr1
 have h := h x1 he
 refine ⟨hi, ptrOr_some hp ?_⟩
 have hq := row_putp (i := i.toNat) (o.rowAt 1 rfl) (el1.st (st3.trans st4)) hp he hc.2 rfl 1 (.s x) (by decide)
 refine ⟨hq.1, fun w5 hw5 => ?_⟩
 obtain ⟨xs2, hr2, hg, hel⟩ := hq.2 _ hw5
 have el3 := hel (⟨x1.op, x, x1.n, x1.kids, x1.at_⟩ : GNode) (GNode_in (⟨x1.op, x, x1.n, x1.kids, x1.at_⟩ : GNode))
 have st5 := o.xA 1 rfl hr2 hg (.inl rfl)
 have o := o.app 1 rfl hr2 hg (.inl rfl)
 have ln : r1.l.length = (r1.l.set i.toNat (⟨x1.op, x, x1.n, x1.kids, x1.at_⟩ : GNode)).length := row_len (o.rowAt 1 rfl) (el3.st st5)
 rw [ln] at o
 have sT1 := (st3.trans st4).trans st5
 exact ⟨r2.at_, r2.deep, (r1.l.set i.toNat (⟨x1.op, x, x1.n, x1.kids, x1.at_⟩ : GNode)), r2.e_, xs2, a, c, h, (el3.st st5), o, sT1⟩
 rintro _ w2 ⟨atx, de, l, ex, xs1, a1, c1, hJ, el2, o, st2⟩
 have h := h2 atx de l ex hJ
 refine ⟨_, _, _, (o.at 0 rfl).cell rfl, ?_⟩
 obtain ⟨hi1, h⟩ := h
 obtain ⟨p1, x2, cs1, hp1, he1, hc1, hr3⟩ := row_elem (o.rowAt 1 rfl) el2 hi1
 obtain rfl := GNode_out hr3
 have h := h x2 he1
 refine ⟨hi1, ptrOr_some hp1 ?_⟩
 refine ⟨_, hc1.2 3 (Nat.le_of_ble_eq_true rfl), ?_⟩
 obtain ⟨hi2, h⟩ := h
 obtain ⟨p2, x3, cs2, hp2, he2, hc2, hr4⟩ := row_elem (o.rowAt 1 rfl) el2 hi2
 obtain rfl := GNode_out hr4
 have h := h x3 he2
 refine ⟨hi2, ptrOr_some hp2 ?_⟩
 have hq1 := row_putp (i := up.toNat) (o.rowAt 1 rfl) el2 hp2 he2 hc2.2 rfl 3 (.q (IntKind.i64.wrap (x2.kids + 1))) (by decide)
 refine ⟨hq1.1, fun w6 hw6 => ?_⟩
 obtain ⟨xs3, hr5, hg1, hel1⟩ := hq1.2 _ hw6
 have el4 := hel1 (⟨x3.op, x3.name, x3.n, IntKind.i64.wrap (x2.kids + 1), x3.at_⟩ : GNode) (GNode_in (⟨x3.op, x3.name, x3.n, IntKind.i64.wrap (x2.kids + 1), x3.at_⟩ : GNode))
 have st6 := o.xA 1 rfl hr5 hg1 (.inl rfl)
 have o := o.app 1 rfl hr5 hg1 (.inl rfl)
 have ln1 : l.length = (l.set up.toNat (⟨x3.op, x3.name, x3.n, IntKind.i64.wrap (x2.kids + 1), x3.at_⟩ : GNode)).length := row_len (o.rowAt 1 rfl) (el4.st st6)
 rw [ln1] at o
 try rw [ln1]
 exact ⟨(⟨r.toks, atx, de, (l.set up.toNat (⟨x3.op, x3.name, x3.n, IntKind.i64.wrap (x2.kids + 1), x3.at_⟩ : GNode)), ex⟩ : Gparse_reader), h, trivial, ⟨_, _, _, o.at 0 rfl, o.rowAt 1 rfl, (el4.st (st6.trans (o.eRS 1 rfl))), o.oldnew 1 rfl 0 rfl (by decide)⟩, o.done⟩
def R11_is_vwp (toks : List GToken) (atx : Int) (sx : List UInt8) (K : Bool → Prop) : Prop :=
 V_R10_Tok toks atx (fun x =>
 cond (x.kind == 3)
 (K (x.text == sx))
 (cond (x.kind == 4)
 (K (x.text == sx))
 (K false)))
theorem R11_is_lift (toks : List GToken) (atx : Int) (sx : List UInt8) (K : Bool → Prop) (h : R11_is_vwp toks atx sx K) : V_R11_is toks atx sx K := by
 intro m w hm toksA toksC le_toks f_toks
 have o := Mem.start hm.lt
 refine R11_is_ok toksA toks.length toksC atx sx _ _ ?_
 refine call_then (h _ w (o.mo hm (by simp) (.head _)) _ _ le_toks f_toks) ?_
 rintro _ w1 ⟨x, h, ⟨cs, rfl, f⟩, ke⟩
 obtain ⟨st, o⟩ := o.dE ke
 obtain rfl := GToken_out f
 refine ⟨_, _, _, _, rfl, ?_⟩
 intro b w2 hb hw2
 obtain ⟨st1, o⟩ := o.dB hb hw2
 refine ⟨o.wr 0 rfl rfl, fun w3 hw3 => ?_⟩
 obtain ⟨st2, o⟩ := o.dSs 0 hw3 rfl
 refine ⟨_, (o.at 0 rfl).cell rfl, ?_⟩
 refine cond_map (fun h => ?_) (fun h => ?_) h
 refine ⟨_, (o.at 0 rfl).cell rfl, ?_⟩
 exact ⟨(x.text == sx), h, rfl, o.done⟩
 refine ⟨_, (o.at 0 rfl).cell rfl, ?_⟩
 refine cond_map (fun h => ?_) (fun h => ?_) h
 refine ⟨_, (o.at 0 rfl).cell rfl, ?_⟩
 exact ⟨(x.text == sx), h, rfl, o.done⟩
 exact ⟨false, h, rfl, o.done⟩
def R11_from_vwp (atx : Int) (K : GR11_cur → Prop) : Prop :=
 K (⟨[], 0, atx, 0⟩ : GR11_cur)
theorem R11_from_lift (atx : Int) (K : GR11_cur → Prop) (h : R11_from_vwp atx K) : V_R11_from atx K := by
 intro m w hm
 have o := Mem.start hm.lt
 refine R11_from_ok atx _ _ ?_
 intro b w1 hb hw1
 obtain ⟨st, o⟩ := o.dB hb hw1
 refine ⟨o.wr 0 rfl rfl, fun w2 hw2 => ?_⟩
 obtain ⟨st1, o⟩ := o.dSs 0 hw2 rfl
 refine ⟨_, _, _, _, _, _, (o.at 0 rfl).whole, ?_⟩
 exact ⟨(⟨[], 0, atx, 0⟩ : GR11_cur), h, ⟨_, rfl, (GR11_cur_in (⟨[], 0, atx, 0⟩ : GR11_cur) ⟨(Nat.le_refl _), (SlR.nil _ _ _ _)⟩)⟩, o.done⟩
def R11_ref_vwp (toks : List GToken) (atx : Int) (K : GR11_cur → Prop) : Prop :=
 V_R11_from atx (fun x =>
 V_R11_cur_name x toks (fun r r1 =>
 ∃ (J : (List GNode) → Int → Int → Int → Prop),
 (∃ (J1 : Bool → Prop),
 (cond (r.e_ == 0)
 (V_R11_is toks r.at_ [91] (fun x2 =>
 J1 x2))
 (J1 false)) ∧
 ∀ (x1 : Bool), J1 x1 →
 cond (x1)
 (V_R11_cur_eat r toks [91] (fun x3 =>
 V_R11_cur_term x3 toks (fun x4 =>
 V_R11_cur_eat x4 toks [93] (fun x5 =>
 J x5.l x5.n x5.at_ x5.e_))))
 (J r.l r.n r.at_ r.e_)) ∧
 ∀ (l : List GNode) (n : Int) (atx1 : Int) (ex : Int), J l n atx1 ex →
 V_R10_Tok toks atx (fun x6 =>
 V_R11_cur_under (⟨l, n, atx1, ex⟩ : GR11_cur) (⟨33, r1, 0, 0, x6.at_⟩ : GNode) (fun x7 =>
 K x7))))
theorem R11_ref_lift (toks : List GToken) (atx : Int) (K : GR11_cur → Prop) (h : R11_ref_vwp toks atx K) : V_R11_ref toks atx K := by
 intro m w hm toksA toksC le_toks f_toks
 have o := Mem.start hm.lt
 refine R11_ref_ok toksA toks.length toksC atx _ _ ?_
 intro b w1 hb hw1
 obtain ⟨st, o⟩ := o.dB hb hw1
 refine call_then (h _ w1 (o.mo hm (by simp) (.head _))) ?_
 rintro _ w2 ⟨x, h, ⟨cs, rfl, f⟩, ke⟩
 obtain ⟨st1, o⟩ := o.dE ke
 obtain ⟨a, c, rfl, ⟨le, f1⟩⟩ := GR11_cur_out f
 refine ⟨_, _, _, _, _, _, rfl, ?_⟩
 refine call_then (h _ w2 (o.mo hm (by simp) (.head _)) _ (GR11_cur_in x ⟨le, f1⟩) _ _ le_toks (f_toks.st (st.trans st1))) ?_
 rintro _ w3 ⟨r, r1, h, ⟨cs1, rfl, f2⟩, ke1⟩
 obtain ⟨st2, o⟩ := o.dE ke1
 obtain ⟨a1, c1, rfl, ⟨le1, f3⟩⟩ := GR11_cur_out f2
 refine ⟨_, _, _, _, _, _, _, rfl, ?_⟩
 intro b1 w4 hb1 hw4
 obtain ⟨st3, o⟩ := o.dB hb1 hw4
 refine ⟨o.wr 0 rfl rfl, fun w5 hw5 => ?_⟩
 obtain ⟨st4, o⟩ := o.dSs 0 hw5 rfl
 obtain ⟨J, h, h2⟩ := h
 refine ⟨fun w6 => ∃ (l : List GNode) (n : Int) (atx1 : Int) (ex : Int) (a2 : Option Addr) (c2 : Nat), J l n atx1 ex ∧ (l.length ≤ c2 ∧ SlR cGNode (ms [.box b1 [.slice a2 l.length c2, .q n, .q atx1, .q ex], .box b [.slice none 0 0, .q 0, .q 0, .q 0]] m) w6 a2 l) ∧ Mem w.heap.size [] m [([], w.heap.size, w)] [] w6 [.box b1 [.slice a2 l.length c2, .q n, .q atx1, .q ex], .box b [.slice none 0 0, .q 0, .q 0, .q 0]] ∧ Step (ms [.box b1 [.slice a1 r.l.length c1, .q r.n, .q r.at_, .q r.e_], .box b [.slice none 0 0, .q 0, .q 0, .q 0]] m) w5 (ms [.box b1 [.slice a2 l.length c2, .q n, .q atx1, .q ex], .box b [.slice none 0 0, .q 0, .q 0, .q 0]] m) w6, ?_, ?_⟩
 obtain ⟨J1, h, h2⟩ := h
 refine ⟨fun x1 w7 => J1 x1 ∧ Mem w.heap.size [] m [([], w.heap.size, w)] [] w7 [.box b1 [.slice a1 r.l.length c1, .q r.n, .q r.at_, .q r.e_], .box b [.slice none 0 0, .q 0, .q 0, .q 0]] ∧ Step (ms [.box b1 [.slice a1 r.l.length c1, .q r.n, .q r.at_, .q r.e_], .box b [.slice none 0 0, .q 0, .q 0, .q 0]] m) w5 (ms [.box b1 [.slice a1 r.l.length c1, .q r.n, .q r.at_, .q r.e_], .box b [.slice none 0 0, .q 0, .q 0, .q 0]] m) w7, ?_, ?_⟩
 refine ⟨_, (o.at 0 rfl).cell rfl, ?_⟩
 refine cond_map (fun h => ?_) (fun h => ?_) h
 refine ⟨_, (o.at 0 rfl).cell rfl, ?_⟩
 have sT := (((st.trans st1).trans st2).trans st3).trans st4
 refine call_then (h _ w5 (o.mo hm (by simp) (.head _)) _ _ le_toks (f_toks.st sT)) ?_
 rintro _ w8 ⟨x2, h, rfl, ke2⟩
 obtain ⟨st7, o⟩ := o.dE ke2
 refine ⟨_, rfl, ?_⟩
 exact ⟨h, o, st7⟩
 exact ⟨h, o, Step.refl _ _⟩
 rintro _ x1 w7 ⟨hJ, o, st6⟩
 have h := h2 x1 hJ
 refine cond_map (fun h => ?_) (fun h => ?_) h
 refine ⟨_, _, _, _, _, _, (o.at 0 rfl).whole, ?_⟩
 have sT1 := (st3.trans st4).trans st6
 have sT2 := ((((st.trans st1).trans st2).trans st3).trans st4).trans st6
 refine call_then (h _ w7 (o.mo hm (by simp) (.head _)) _ (GR11_cur_in r ⟨le1, (f3.st sT1)⟩) _ _ le_toks (f_toks.st sT2)) ?_
 rintro _ w9 ⟨x3, h, ⟨cs2, rfl, f5⟩, ke3⟩
 obtain ⟨st8, o⟩ := o.dE ke3
 obtain ⟨a3, c3, rfl, ⟨le3, f6⟩⟩ := GR11_cur_out f5
 refine ⟨_, _, _, _, _, _, rfl, ?_⟩
 have sT3 := sT2.trans st8
 refine call_then (h _ w9 (o.mo hm (by simp) (.head _)) _ (GR11_cur_in x3 ⟨le3, f6⟩) _ _ le_toks (f_toks.st sT3)) ?_
 rintro _ w10 ⟨x4, h, ⟨cs3, rfl, f7⟩, ke4⟩
 obtain ⟨st9, o⟩ := o.dE ke4
 obtain ⟨a4, c4, rfl, ⟨le4, f8⟩⟩ := GR11_cur_out f7
 refine ⟨_, _, _, _, _, _, rfl, ?_⟩
 have sT4 := sT3.trans st9
 refine call_then (h _ w10 (o.mo hm (by simp) (.head _)) _ (GR11_cur_in x4 ⟨le4, f8⟩) _ _ le_toks (f_toks.st sT4)) ?_
 rintro _ w11 ⟨x5, h, ⟨cs4, rfl, f9⟩, ke5⟩
 obtain ⟨st10, o⟩ := o.dE ke5
 obtain ⟨a5, c5, rfl, ⟨le5, f10⟩⟩ := GR11_cur_out f9
 refine ⟨_, _, _, _, _, _, rfl, ?_⟩
 refine ⟨o.wr 0 rfl rfl, fun w12 hw12 => ?_⟩
 obtain ⟨st11, o⟩ := o.dSs 0 hw12 rfl
 have sT5 := (((st6.trans st8).trans st9).trans st10).trans st11
 exact ⟨x5.l, x5.n, x5.at_, x5.e_, a5, c5, h, ⟨le5, (f10.st st11)⟩, o, sT5⟩
 have sT6 := (st3.trans st4).trans st6
 exact ⟨r.l, r.n, r.at_, r.e_, a1, c1, h, ⟨le1, (f3.st sT6)⟩, o, st6⟩
 rintro _ w6 ⟨l, n, atx1, ex, a2, c2, hJ, ⟨le2, f4⟩, o, st5⟩
 have h := h2 l n atx1 ex hJ
 intro w13 hw13
 obtain ⟨st12, o⟩ := o.dD hw13
 have ox := o
 refine ⟨fun u => Keep [] w13 u, Keep.refl _ _, ?_⟩
 refine ⟨_, _, _, _, _, _, fun u hu => ((ox.at 0 rfl).keep hu (by simp)).whole, ?_⟩
 have sT7 := (((((st.trans st1).trans st2).trans st3).trans st4).trans st5).trans st12
 refine call_then (h _ w13 (o.mo hm (by simp) (.head _)) _ _ le_toks (f_toks.st sT7)) ?_
 rintro _ w14 ⟨x6, h, ⟨cs5, rfl, f11⟩, ke6⟩
 obtain ⟨st13, o⟩ := o.dE ke6
 obtain rfl := GToken_out f11
 refine ⟨_, _, _, _, rfl, ?_⟩
 refine ⟨(ke6.mono (by simp)), ?_⟩
 refine call_then (h _ w14 (o.mo hm (by simp) (.head _)) _ (GR11_cur_in (⟨l, n, atx1, ex⟩ : GR11_cur) ⟨le2, (f4.st (st12.trans st13))⟩) _ (GNode_in (⟨33, r1, 0, 0, x6.at_⟩ : GNode))) ?_
 rintro _ w15 ⟨x7, h, ⟨cs6, rfl, f12⟩, ke7⟩
 obtain ⟨st14, o⟩ := o.dE ke7
 obtain ⟨a6, c6, rfl, ⟨le6, f13⟩⟩ := GR11_cur_out f12
 refine ⟨_, _, _, _, _, _, rfl, ?_⟩
 refine ⟨o.wr 1 rfl rfl, fun w16 hw16 => ?_⟩
 obtain ⟨st15, o⟩ := o.dSs 1 hw16 rfl
 refine ⟨_, _, _, _, _, _, (o.at 1 rfl).whole, ?_⟩
 exact ⟨x7, h, ⟨_, rfl, (GR11_cur_in x7 ⟨le6, (f13.st (st15.trans Mem.endS))⟩)⟩, o.done⟩
def R11_block_vwp (toks : List GToken) (atx : Int) (deep : Int) (K : GR11_cur → Prop) : Prop :=
 V_R11_from atx (fun x =>
 ∃ (J : Bool → Prop),
 (V_R11_is toks atx [123] (fun x2 =>
 cond (x2)
 (J (decide (deep > 24)))
 (J false))) ∧
 ∀ (x1 : Bool), J x1 →
 cond (x1)
 (K (⟨x.l, x.n, x.at_, 5⟩ : GR11_cur))
 (V_R11_cur_eat x toks [123] (fun x3 =>
 ∃ (I : (List GNode) → Int → Int → Int → Nat → Prop), (∃ n1, I x3.l x3.n x3.at_ x3.e_ n1) ∧
 ∀ (l : List GNode) (n : Int) (atx1 : Int) (ex : Int) (n1 : Nat), I l n atx1 ex n1 →
 ∃ (J1 : Bool → Prop),
 (cond (ex == 0)
 (V_R11_is toks atx1 [125] (fun x5 =>
 J1 (!x5)))
 (J1 false)) ∧
 ∀ (x4 : Bool), J1 x4 →
 cond (x4)
 (V_R11_stmt toks atx1 deep (fun x6 =>
 V_R11_cur_add (⟨l, n, atx1, ex⟩ : GR11_cur) x6 (fun x7 =>
 ∃ n2, n2 < n1 ∧ I x7.l x7.n x7.at_ x7.e_ n2)))
 (V_R11_cur_eat (⟨l, n, atx1, ex⟩ : GR11_cur) toks [125] (fun x8 =>
 V_R10_Tok toks atx (fun x9 =>
 V_R11_cur_under x8 (⟨32, [], 0, 0, x9.at_⟩ : GNode) (fun x10 =>
 K x10)))))))
theorem R11_block_lift (toks : List GToken) (atx : Int) (deep : Int) (K : GR11_cur → Prop) (h : R11_block_vwp toks atx deep K) : V_R11_block toks atx deep K := by
 intro m w hm toksA toksC le_toks f_toks
 have o := Mem.start hm.lt
 refine R11_block_ok toksA toks.length toksC atx deep _ _ ?_
 intro b w1 hb hw1
 obtain ⟨st, o⟩ := o.dB hb hw1
 refine call_then (h _ w1 (o.mo hm (by simp) (.head _))) ?_
 rintro _ w2 ⟨x, h, ⟨cs, rfl, f⟩, ke⟩
 obtain ⟨st1, o⟩ := o.dE ke
 obtain ⟨a, c, rfl, ⟨le, f1⟩⟩ := GR11_cur_out f
 refine ⟨_, _, _, _, _, _, rfl, ?_⟩
 intro b1 w3 hb1 hw3
 obtain ⟨st2, o⟩ := o.dB hb1 hw3
 refine ⟨o.wr 0 rfl rfl, fun w4 hw4 => ?_⟩
 obtain ⟨st3, o⟩ := o.dSs 0 hw4 rfl
 obtain ⟨J, h, h2⟩ := h
 refine ⟨fun x1 w5 => J x1 ∧ Mem w.heap.size [] m [([], w.heap.size, w)] [] w5 [.box b1 [.slice a x.l.length c, .q x.n, .q x.at_, .q x.e_], .box b [.slice none 0 0, .q 0, .q 0, .q 0]] ∧ Step (ms [.box b1 [.slice a x.l.length c, .q x.n, .q x.at_, .q x.e_], .box b [.slice none 0 0, .q 0, .q 0, .q 0]] m) w4 (ms [.box b1 [.slice a x.l.length c, .q x.n, .q x.at_, .q x.e_], .box b [.slice none 0 0, .q 0, .q 0, .q 0]] m) w5, ?_, ?_⟩
 have sT := ((st.trans st1).trans st2).trans st3
 refine call_then (h _ w4 (o.mo hm (by simp) (.head _)) _ _ le_toks (f_toks.st sT)) ?_
 rintro _ w6 ⟨x2, h, rfl, ke1⟩
 obtain ⟨st5, o⟩ := o.dE ke1
 refine ⟨_, rfl, ?_⟩
 refine cond_map (fun h => ?_) (fun h => ?_) h
 exact ⟨h, o, st5⟩
 exact ⟨h, o, st5⟩
 rintro _ x1 w5 ⟨hJ, o, st4⟩
 have h := h2 x1 hJ
 refine cond_map (fun h => ?_) (fun h => ?_) h
 refine ⟨o.wr 0 rfl rfl, fun w7 hw7 => ?_⟩
 obtain ⟨st6, o⟩ := o.dS 0 hw7 rfl
 refine ⟨_, _, _, _, _, _, (o.at 0 rfl).whole, ?_⟩
 refine ⟨o.wr 1 rfl rfl, fun w8 hw8 => ?_⟩
 obtain ⟨st7, o⟩ := o.dSs 1 hw8 rfl
 refine ⟨_, _, _, _, _, _, (o.at 1 rfl).whole, ?_⟩
 exact ⟨(⟨x.l, x.n, x.at_, 5⟩ : GR11_cur), h, ⟨_, rfl, (GR11_cur_in (⟨x.l, x.n, x.at_, 5⟩ : GR11_cur) ⟨le, (f1.st (st2.trans (st3.trans (st4.trans (st6.trans (st7.trans Mem.endS))))))⟩)⟩, o.done⟩
 refine ⟨_, _, _, _, _, _, (o.at 0 rfl).whole, ?_⟩
 have sT1 := (st2.trans st3).trans st4
 have sT2 := (((st.trans st1).trans st2).trans st3).trans st4
 refine call_then (h _ w5 (o.mo hm (by simp) (.head _)) _ (GR11_cur_in x ⟨le, (f1.st sT1)⟩) _ _ le_toks (f_toks.st sT2)) ?_
 rintro _ w9 ⟨x3, h, ⟨cs1, rfl, f2⟩, ke2⟩
 obtain ⟨st8, o⟩ := o.dE ke2
 obtain ⟨a1, c1, rfl, ⟨le1, f3⟩⟩ := GR11_cur_out f2
 refine ⟨_, _, _, _, _, _, rfl, ?_⟩
 refine ⟨o.wr 0 rfl rfl, fun w10 hw10 => ?_⟩
 obtain ⟨st9, o⟩ := o.dSs 0 hw10 rfl
 obtain ⟨I, ⟨n3, h⟩, h2⟩ := h
 obtain ⟨Z, hZ⟩ : ∃ Z : World → Nat → Prop, Z = fun w11 n1 => ∃ (l : List GNode) (n : Int) (atx1 : Int) (ex : Int) (a2 : Option Addr) (c2 : Nat), I l n atx1 ex n1 ∧ (l.length ≤ c2 ∧ SlR cGNode (ms [.box b1 [.slice a2 l.length c2, .q n, .q atx1, .q ex], .box b [.slice none 0 0, .q 0, .q 0, .q 0]] m) w11 a2 l) ∧ Mem w.heap.size [] m [([], w.heap.size, w)] [] w11 [.box b1 [.slice a2 l.length c2, .q n, .q atx1, .q ex], .box b [.slice none 0 0, .q 0, .q 0, .q 0]] ∧ Step (ms [.box b1 [.slice a1 x3.l.length c1, .q x3.n, .q x3.at_, .q x3.e_], .box b [.slice none 0 0, .q 0, .q 0, .q 0]] m) w10 (ms [.box b1 [.slice a2 l.length c2, .q n, .q atx1, .q ex], .box b [.slice none 0 0, .q 0, .q 0, .q 0]] m) w11 := ⟨_, rfl⟩
 refine ⟨fun w11 => ∃ n1, Z w11 n1, fun w11 => leastN (Z w11), ⟨n3, ?_⟩, ?_⟩
 rw [hZ]; exact ⟨x3.l, x3.n, x3.at_, x3.e_, a1, c1, h, ⟨le1, (f3.st st9)⟩, o, Step.refl _ _⟩
 intro _ w11 hIZ
 obtain ⟨n1, hnn1⟩ : ∃ n1, n1 = leastN (Z w11) := ⟨_, rfl⟩
 have hIZ := leastN_at hIZ
 rw [← hnn1, hZ] at hIZ
 obtain ⟨l, n, atx1, ex, a2, c2, h, ⟨le2, f4⟩, o, st10⟩ := hIZ
 have h := h2 l n atx1 ex n1 h
 obtain ⟨J1, h, h2⟩ := h
 refine ⟨fun x4 w12 => J1 x4 ∧ Mem w.heap.size [] m [([], w.heap.size, w)] [] w12 [.box b1 [.slice a2 l.length c2, .q n, .q atx1, .q ex], .box b [.slice none 0 0, .q 0, .q 0, .q 0]] ∧ Step (ms [.box b1 [.slice a2 l.length c2, .q n, .q atx1, .q ex], .box b [.slice none 0 0, .q 0, .q 0, .q 0]] m) w11 (ms [.box b1 [.slice a2 l.length c2, .q n, .q atx1, .q ex], .box b [.slice none 0 0, .q 0, .q 0, .q 0]] m) w12, ?_, ?_⟩
 refine ⟨_, (o.at 0 rfl).cell rfl, ?_⟩
 refine cond_map (fun h => ?_) (fun h => ?_) h
 refine ⟨_, (o.at 0 rfl).cell rfl, ?_⟩
 have sT3 := ((sT2.trans st8).trans st9).trans st10
 refine call_then (h _ w11 (o.mo hm (by simp) (.head _)) _ _ le_toks (f_toks.st sT3)) ?_
 rintro _ w13 ⟨x5, h, rfl, ke3⟩
 obtain ⟨st12, o⟩ := o.dE ke3
 refine ⟨_, rfl, ?_⟩
 exact ⟨h, o, st12⟩
 exact ⟨h, o, Step.refl _ _⟩
 rintro _ x4 w12 ⟨hJ, o, st11⟩
 have h := h2 x4 hJ
 refine cond_map (fun h => ?_) (fun h => ?_) h
 intro w14 hw14
 obtain ⟨st13, o⟩ := o.dD hw14
 have ox := o
 refine ⟨fun u => Keep [] w14 u, Keep.refl _ _, ?_⟩
 refine ⟨_, _, _, _, _, _, fun u hu => ((ox.at 0 rfl).keep hu (by simp)).whole, ?_⟩
 refine ⟨_, fun u hu => ((ox.at 0 rfl).keep hu (by simp)).cell rfl, ?_⟩
 have sT4 := ((((sT2.trans st8).trans st9).trans st10).trans st11).trans st13
 refine call_then (h _ w14 (o.mo hm (by simp) (.head _)) _ _ le_toks (f_toks.st sT4)) ?_
 rintro _ w15 ⟨x6, h, ⟨cs2, rfl, f5⟩, ke4⟩
 obtain ⟨st14, o⟩ := o.dE ke4
 obtain ⟨a3, c3, rfl, ⟨le3, f6⟩⟩ := GR11_cur_out f5
 refine ⟨_, _, _, _, _, _, rfl, ?_⟩
 refine ⟨(ke4.mono (by simp)), ?_⟩
 have sT5 := (st11.trans st13).trans st14
 refine call_then (h _ w15 (o.mo hm (by simp) (.head _)) _ (GR11_cur_in (⟨l, n, atx1, ex⟩ : GR11_cur) ⟨le2, (f4.st sT5)⟩) _ (GR11_cur_in x6 ⟨le3, f6⟩)) ?_
 rintro _ w16 ⟨x7, h, ⟨cs3, rfl, f7⟩, ke5⟩
 obtain ⟨st15, o⟩ := o.dE ke5
 obtain ⟨a4, c4, rfl, ⟨le4, f8⟩⟩ := GR11_cur_out f7
 refine ⟨_, _, _, _, _, _, rfl, ?_⟩
 refine ⟨o.wr 0 rfl rfl, fun w17 hw17 => ?_⟩
 obtain ⟨st16, o⟩ := o.dSs 0 hw17 rfl
 obtain ⟨n2, hl, h⟩ := h
 have sT6 := ((((st10.trans st11).trans st13).trans st14).trans st15).trans st16
 exact loop_again hnn1 (show Z w17 n2 from (by rw [hZ]; exact ⟨x7.l, x7.n, x7.at_, x7.e_, a4, c4, h, ⟨le4, (f8.st st16)⟩, o, sT6⟩)) hl
 refine ⟨_, _, _, _, _, _, (o.at 0 rfl).whole, ?_⟩
 have sT7 := (((sT2.trans st8).trans st9).trans st10).trans st11
 refine call_then (h _ w12 (o.mo hm (by simp) (.head _)) _ (GR11_cur_in (⟨l, n, atx1, ex⟩ : GR11_cur) ⟨le2, (f4.st st11)⟩) _ _ le_toks (f_toks.st sT7)) ?_
 rintro _ w18 ⟨x8, h, ⟨cs4, rfl, f9⟩, ke6⟩
 obtain ⟨st17, o⟩ := o.dE ke6
 obtain ⟨a5, c5, rfl, ⟨le5, f10⟩⟩ := GR11_cur_out f9
 refine ⟨_, _, _, _, _, _, rfl, ?_⟩
 refine ⟨o.wr 0 rfl rfl, fun w19 hw19 => ?_⟩
 obtain ⟨st18, o⟩ := o.dSs 0 hw19 rfl
 intro w20 hw20
 obtain ⟨st19, o⟩ := o.dD hw20
 have ox1 := o
 refine ⟨fun u => Keep [] w20 u, Keep.refl _ _, ?_⟩
 refine ⟨_, _, _, _, _, _, fun u hu => ((ox1.at 0 rfl).keep hu (by simp)).whole, ?_⟩
 have sT8 := ((sT7.trans st17).trans st18).trans st19
 refine call_then (h _ w20 (o.mo hm (by simp) (.head _)) _ _ le_toks (f_toks.st sT8)) ?_
 rintro _ w21 ⟨x9, h, ⟨cs5, rfl, f11⟩, ke7⟩
 obtain ⟨st20, o⟩ := o.dE ke7
 obtain rfl := GToken_out f11
 refine ⟨_, _, _, _, rfl, ?_⟩
 refine ⟨(ke7.mono (by simp)), ?_⟩
 have sT9 := (st18.trans st19).trans st20
 refine call_then (h _ w21 (o.mo hm (by simp) (.head _)) _ (GR11_cur_in x8 ⟨le5, (f10.st sT9)⟩) _ (GNode_in (⟨32, [], 0, 0, x9.at_⟩ : GNode))) ?_
 rintro _ w22 ⟨x10, h, ⟨cs6, rfl, f12⟩, ke8⟩
 obtain ⟨st21, o⟩ := o.dE ke8
 obtain ⟨a6, c6, rfl, ⟨le6, f13⟩⟩ := GR11_cur_out f12
 refine ⟨_, _, _, _, _, _, rfl, ?_⟩
 refine ⟨o.wr 1 rfl rfl, fun w23 hw23 => ?_⟩
 obtain ⟨st22, o⟩ := o.dSs 1 hw23 rfl
 refine ⟨_, _, _, _, _, _, (o.at 1 rfl).whole, ?_⟩
 exact ⟨x10, h, ⟨_, rfl, (GR11_cur_in x10 ⟨le6, (f13.st (st22.trans Mem.endS))⟩)⟩, o.done⟩
def R11_clause_vwp (toks : List GToken) (atx : Int) (deep : Int) (K : GR11_cur → Prop) : Prop :=
 V_R10_Tok toks atx (fun x =>
 V_R11_is toks atx [101, 108, 115, 101] (fun x1 =>
 cond (x1)
 (V_R11_from atx (fun x2 =>
 V_R11_cur_eat x2 toks [101, 108, 115, 101] (fun x3 =>
 V_R11_cur_in x3 toks (IntKind.i64.wrap (deep + 1)) (fun x4 =>
 V_R11_cur_under x4 (⟨37, [], 0, 0, x.at_⟩ : GNode) (fun x5 =>
 K x5)))))
 (V_R11_from atx (fun x6 =>
 V_R11_cur_eat x6 toks [99, 97, 115, 101] (fun x7 =>
 ∃ (J : (List GNode) → Int → Int → Int → Int → (List UInt8) → Int → Int → Int → Prop),
 (∃ (J1 : Bool → Prop),
 (cond (x7.e_ == 0)
 (V_R11_is toks x7.at_ [119, 104, 101, 110] (fun x9 =>
 J1 x9))
 (J1 false)) ∧
 ∀ (x8 : Bool), J1 x8 →
 cond (x8)
 (V_R11_cur_eat x7 toks [119, 104, 101, 110] (fun x10 =>
 V_R11_cur_term x10 toks (fun x11 =>
 V_R11_cur_eat x11 toks [58] (fun x12 =>
 J x12.l x12.n x12.at_ x12.e_ 0 [] 1 0 x.at_))))
 (J x7.l x7.n x7.at_ x7.e_ 0 [] 0 0 x.at_)) ∧
 ∀ (l : List GNode) (n : Int) (atx1 : Int) (ex : Int) (Op : Int) (Na : List UInt8) (N : Int) (Ki : Int) (At : Int), J l n atx1 ex Op Na N Ki At →
 ∃ (J2 : (List GNode) → Int → Int → Int → Int → (List UInt8) → Int → Int → Int → Prop),
 (∃ (J3 : Bool → Prop),
 (cond (ex == 0)
 (V_R11_is toks atx1 [97, 102, 116, 101, 114] (fun x14 =>
 J3 x14))
 (J3 false)) ∧
 ∀ (x13 : Bool), J3 x13 →
 cond (x13)
 (V_R11_cur_eat (⟨l, n, atx1, ex⟩ : GR11_cur) toks [97, 102, 116, 101, 114] (fun x15 =>
 V_R11_cur_term x15 toks (fun x16 =>
 J2 x16.l x16.n x16.at_ x16.e_ 36 Na N Ki At)))
 (V_R11_cur_comm (⟨l, n, atx1, ex⟩ : GR11_cur) toks 35 34 (fun r r1 r2 =>
 J2 r.l r.n r.at_ r.e_ r1 r2 N Ki At))) ∧
 ∀ (l1 : List GNode) (n1 : Int) (atx2 : Int) (ex1 : Int) (Op1 : Int) (Na1 : List UInt8) (N1 : Int) (Ki1 : Int) (At1 : Int), J2 l1 n1 atx2 ex1 Op1 Na1 N1 Ki1 At1 →
 V_R11_cur_in (⟨l1, n1, atx2, ex1⟩ : GR11_cur) toks (IntKind.i64.wrap (deep + 1)) (fun x17 =>
 V_R11_cur_under x17 (⟨Op1, Na1, N1, Ki1, At1⟩ : GNode) (fun x18 =>
 K x18)))))))
set_option maxHeartbeats 4000000 in
theorem R11_clause_lift (toks : List GToken) (atx : Int) (deep : Int) (K : GR11_cur → Prop) (h : R11_clause_vwp toks atx deep K) : V_R11_clause toks atx deep K := by
 intro m w hm toksA toksC le_toks f_toks
 have o := Mem.start hm.lt
 refine R11_clause_ok toksA toks.length toksC atx deep _ _ ?_
 intro b w1 hb hw1
 obtain ⟨st, o⟩ := o.dB hb hw1
 refine call_then (h _ w1 (o.mo hm (by simp) (.head _)) _ _ le_toks (f_toks.st st)) ?_
 rintro _ w2 ⟨x, h, ⟨cs, rfl, f⟩, ke⟩
 obtain ⟨st1, o⟩ := o.dE ke
 obtain rfl := GToken_out f
 refine ⟨_, _, _, _, rfl, ?_⟩
 intro b1 w3 hb1 hw3
 obtain ⟨st2, o⟩ := o.dB hb1 hw3
 refine ⟨o.wr 0 rfl rfl, fun w4 hw4 => ?_⟩
 obtain ⟨st3, o⟩ := o.dSs 0 hw4 rfl
 have sT := ((st.trans st1).trans st2).trans st3
 refine call_then (h _ w4 (o.mo hm (by simp) (.head _)) _ _ le_toks (f_toks.st sT)) ?_
 rintro _ w5 ⟨x1, h, rfl, ke1⟩
 obtain ⟨st4, o⟩ := o.dE ke1
 refine ⟨_, rfl, ?_⟩
 refine cond_map (fun h => ?_) (fun h => ?_) h
 refine ⟨o.wr 0 rfl rfl, fun w6 hw6 => ?_⟩
 obtain ⟨st5, o⟩ := o.dS 0 hw6 rfl
 intro w7 hw7
 obtain ⟨st6, o⟩ := o.dD hw7
 have ox := o
 refine ⟨fun u => Keep [] w7 u, Keep.refl _ _, ?_⟩
 refine ⟨_, _, _, _, _, fun u hu => ((ox.at 0 rfl).keep hu (by simp)).whole, ?_⟩
 refine call_then (h _ w7 (o.mo hm (by simp) (.head _))) ?_
 rintro _ w8 ⟨x2, h, ⟨cs1, rfl, f1⟩, ke2⟩
 obtain ⟨st7, o⟩ := o.dE ke2
 obtain ⟨a, c, rfl, ⟨le, f2⟩⟩ := GR11_cur_out f1
 refine ⟨_, _, _, _, _, _, rfl, ?_⟩
 refine ⟨(ke2.mono (by simp)), ?_⟩
 have sT1 := (((sT.trans st4).trans st5).trans st6).trans st7
 refine call_then (h _ w8 (o.mo hm (by simp) (.head _)) _ (GR11_cur_in x2 ⟨le, f2⟩) _ _ le_toks (f_toks.st sT1)) ?_
 rintro _ w9 ⟨x3, h, ⟨cs2, rfl, f3⟩, ke3⟩
 obtain ⟨st8, o⟩ := o.dE ke3
 obtain ⟨a1, c1, rfl, ⟨le1, f4⟩⟩ := GR11_cur_out f3
 refine ⟨_, _, _, _, _, _, rfl, ?_⟩
 refine ⟨((ke2.mono (by simp)).trans (ke3.mono (by simp))), ?_⟩
 have sT2 := sT1.trans st8
 refine call_then (h _ w9 (o.mo hm (by simp) (.head _)) _ (GR11_cur_in x3 ⟨le1, f4⟩) _ _ le_toks (f_toks.st sT2)) ?_
 rintro _ w10 ⟨x4, h, ⟨cs3, rfl, f5⟩, ke4⟩
 obtain ⟨st9, o⟩ := o.dE ke4
 obtain ⟨a2, c2, rfl, ⟨le2, f6⟩⟩ := GR11_cur_out f5
 refine ⟨_, _, _, _, _, _, rfl, ?_⟩
 refine ⟨(((ke2.mono (by simp)).trans (ke3.mono (by simp))).trans (ke4.mono (by simp))), ?_⟩
 refine call_then (h _ w10 (o.mo hm (by simp) (.head _)) _ (GR11_cur_in x4 ⟨le2, f6⟩) _ (GNode_in (⟨37, [], 0, 0, x.at_⟩ : GNode))) ?_
 rintro _ w11 ⟨x5, h, ⟨cs4, rfl, f7⟩, ke5⟩
 obtain ⟨st10, o⟩ := o.dE ke5
 obtain ⟨a3, c3, rfl, ⟨le3, f8⟩⟩ := GR11_cur_out f7
 refine ⟨_, _, _, _, _, _, rfl, ?_⟩
 refine ⟨o.wr 1 rfl rfl, fun w12 hw12 => ?_⟩
 obtain ⟨st11, o⟩ := o.dSs 1 hw12 rfl
 refine ⟨_, _, _, _, _, _, (o.at 1 rfl).whole, ?_⟩
 exact ⟨x5, h, ⟨_, rfl, (GR11_cur_in x5 ⟨le3, (f8.st (st11.trans Mem.endS))⟩)⟩, o.done⟩
 refine call_then (h _ w5 (o.mo hm (by simp) (.head _))) ?_
 rintro _ w13 ⟨x6, h, ⟨cs5, rfl, f9⟩, ke6⟩
 obtain ⟨st12, o⟩ := o.dE ke6
 obtain ⟨a4, c4, rfl, ⟨le4, f10⟩⟩ := GR11_cur_out f9
 refine ⟨_, _, _, _, _, _, rfl, ?_⟩
 have sT3 := (sT.trans st4).trans st12
 refine call_then (h _ w13 (o.mo hm (by simp) (.head _)) _ (GR11_cur_in x6 ⟨le4, f10⟩) _ _ le_toks (f_toks.st sT3)) ?_
 rintro _ w14 ⟨x7, h, ⟨cs6, rfl, f11⟩, ke7⟩
 obtain ⟨st13, o⟩ := o.dE ke7
 obtain ⟨a5, c5, rfl, ⟨le5, f12⟩⟩ := GR11_cur_out f11
 refine ⟨_, _, _, _, _, _, rfl, ?_⟩
 intro b2 w15 hb2 hw15
 obtain ⟨st14, o⟩ := o.dB hb2 hw15
 refine ⟨o.wr 0 rfl rfl, fun w16 hw16 => ?_⟩
 obtain ⟨st15, o⟩ := o.dSs 0 hw16 rfl
 obtain ⟨J, h, h2⟩ := h
 refine ⟨fun w17 => ∃ (l : List GNode) (n : Int) (atx1 : Int) (ex : Int) (Op : Int) (Na : List UInt8) (N : Int) (Ki : Int) (At : Int) (a6 : Option Addr) (c6 : Nat), J l n atx1 ex Op Na N Ki At ∧ (l.length ≤ c6 ∧ SlR cGNode (ms [.box b2 [.slice a6 l.length c6, .q n, .q atx1, .q ex], .box b1 [.q Op, .s Na, .q N, .q Ki, .q At], .box b [.slice none 0 0, .q 0, .q 0, .q 0]] m) w17 a6 l) ∧ Mem w.heap.size [] m [([], w.heap.size, w)] [] w17 [.box b2 [.slice a6 l.length c6, .q n, .q atx1, .q ex], .box b1 [.q Op, .s Na, .q N, .q Ki, .q At], .box b [.slice none 0 0, .q 0, .q 0, .q 0]] ∧ Step (ms [.box b2 [.slice a5 x7.l.length c5, .q x7.n, .q x7.at_, .q x7.e_], .box b1 [.q 0, .s [], .q 0, .q 0, .q x.at_], .box b [.slice none 0 0, .q 0, .q 0, .q 0]] m) w16 (ms [.box b2 [.slice a6 l.length c6, .q n, .q atx1, .q ex], .box b1 [.q Op, .s Na, .q N, .q Ki, .q At], .box b [.slice none 0 0, .q 0, .q 0, .q 0]] m) w17, ?_, ?_⟩
 obtain ⟨J1, h, h2⟩ := h
 refine ⟨fun x8 w18 => J1 x8 ∧ Mem w.heap.size [] m [([], w.heap.size, w)] [] w18 [.box b2 [.slice a5 x7.l.length c5, .q x7.n, .q x7.at_, .q x7.e_], .box b1 [.q 0, .s [], .q 0, .q 0, .q x.at_], .box b [.slice none 0 0, .q 0, .q 0, .q 0]] ∧ Step (ms [.box b2 [.slice a5 x7.l.length c5, .q x7.n, .q x7.at_, .q x7.e_], .box b1 [.q 0, .s [], .q 0, .q 0, .q x.at_], .box b [.slice none 0 0, .q 0, .q 0, .q 0]] m) w16 (ms [.box b2 [.slice a5 x7.l.length c5, .q x7.n, .q x7.at_, .q x7.e_], .box b1 [.q 0, .s [], .q 0, .q 0, .q x.at_], .box b [.slice none 0 0, .q 0, .q 0, .q 0]] m) w18, ?_, ?_⟩
 refine ⟨_, (o.at 0 rfl).cell rfl, ?_⟩
 refine cond_map (fun h => ?_) (fun h => ?_) h
 refine ⟨_, (o.at 0 rfl).cell rfl, ?_⟩
 have sT4 := ((sT3.trans st13).trans st14).trans st15
 refine call_then (h _ w16 (o.mo hm (by simp) (.head _)) _ _ le_toks (f_toks.st sT4)) ?_
 rintro _ w19 ⟨x9, h, rfl, ke8⟩
 obtain ⟨st18, o⟩ := o.dE ke8
 refine ⟨_, rfl, ?_⟩
 exact ⟨h, o, st18⟩
 exact ⟨h, o, Step.refl _ _⟩
 rintro _ x8 w18 ⟨hJ, o, st17⟩
 have h := h2 x8 hJ
 refine cond_map (fun h => ?_) (fun h => ?_) h
 refine ⟨o.wr 1 rfl rfl, fun w20 hw20 => ?_⟩
 obtain ⟨st19, o⟩ := o.dS 1 hw20 rfl
 refine ⟨_, _, _, _, _, _, (o.at 0 rfl).whole, ?_⟩
 have sT5 := ((st14.trans st15).trans st17).trans st19
 have sT6 := ((((sT3.trans st13).trans st14).trans st15).trans st17).trans st19
 refine call_then (h _ w20 (o.mo hm (by simp) (.head _)) _ (GR11_cur_in x7 ⟨le5, (f12.st sT5)⟩) _ _ le_toks (f_toks.st sT6)) ?_
 rintro _ w21 ⟨x10, h, ⟨cs7, rfl, f14⟩, ke9⟩
 obtain ⟨st20, o⟩ := o.dE ke9
 obtain ⟨a7, c7, rfl, ⟨le7, f15⟩⟩ := GR11_cur_out f14
 refine ⟨_, _, _, _, _, _, rfl, ?_⟩
 have sT7 := sT6.trans st20
 refine call_then (h _ w21 (o.mo hm (by simp) (.head _)) _ (GR11_cur_in x10 ⟨le7, f15⟩) _ _ le_toks (f_toks.st sT7)) ?_
 rintro _ w22 ⟨x11, h, ⟨cs8, rfl, f16⟩, ke10⟩
 obtain ⟨st21, o⟩ := o.dE ke10
 obtain ⟨a8, c8, rfl, ⟨le8, f17⟩⟩ := GR11_cur_out f16
 refine ⟨_, _, _, _, _, _, rfl, ?_⟩
 have sT8 := sT7.trans st21
 refine call_then (h _ w22 (o.mo hm (by simp) (.head _)) _ (GR11_cur_in x11 ⟨le8, f17⟩) _ _ le_toks (f_toks.st sT8)) ?_
 rintro _ w23 ⟨x12, h, ⟨cs9, rfl, f18⟩, ke11⟩
 obtain ⟨st22, o⟩ := o.dE ke11
 obtain ⟨a9, c9, rfl, ⟨le9, f19⟩⟩ := GR11_cur_out f18
 refine ⟨_, _, _, _, _, _, rfl, ?_⟩
 refine ⟨o.wr 0 rfl rfl, fun w24 hw24 => ?_⟩
 obtain ⟨st23, o⟩ := o.dSs 0 hw24 rfl
 have sT9 := ((((st17.trans st19).trans st20).trans st21).trans st22).trans st23
 exact ⟨x12.l, x12.n, x12.at_, x12.e_, 0, [], 1, 0, x.at_, a9, c9, h, ⟨le9, (f19.st st23)⟩, o, sT9⟩
 have sT10 := (st14.trans st15).trans st17
 exact ⟨x7.l, x7.n, x7.at_, x7.e_, 0, [], 0, 0, x.at_, a5, c5, h, ⟨le5, (f12.st sT10)⟩, o, st17⟩
 rintro _ w17 ⟨l, n, atx1, ex, Op, Na, N, Ki, At, a6, c6, hJ, ⟨le6, f13⟩, o, st16⟩
 have h := h2 l n atx1 ex Op Na N Ki At hJ
 obtain ⟨J2, h, h2⟩ := h
 refine ⟨fun w25 => ∃ (l1 : List GNode) (n1 : Int) (atx2 : Int) (ex1 : Int) (Op1 : Int) (Na1 : List UInt8) (N1 : Int) (Ki1 : Int) (At1 : Int) (a10 : Option Addr) (c10 : Nat), J2 l1 n1 atx2 ex1 Op1 Na1 N1 Ki1 At1 ∧ (l1.length ≤ c10 ∧ SlR cGNode (ms [.box b2 [.slice a10 l1.length c10, .q n1, .q atx2, .q ex1], .box b1 [.q Op1, .s Na1, .q N1, .q Ki1, .q At1], .box b [.slice none 0 0, .q 0, .q 0, .q 0]] m) w25 a10 l1) ∧ Mem w.heap.size [] m [([], w.heap.size, w)] [] w25 [.box b2 [.slice a10 l1.length c10, .q n1, .q atx2, .q ex1], .box b1 [.q Op1, .s Na1, .q N1, .q Ki1, .q At1], .box b [.slice none 0 0, .q 0, .q 0, .q 0]] ∧ Step (ms [.box b2 [.slice a6 l.length c6, .q n, .q atx1, .q ex], .box b1 [.q Op, .s Na, .q N, .q Ki, .q At], .box b [.slice none 0 0, .q 0, .q 0, .q 0]] m) w17 (ms [.box b2 [.slice a10 l1.length c10, .q n1, .q atx2, .q ex1], .box b1 [.q Op1, .s Na1, .q N1, .q Ki1, .q At1], .box b [.slice none 0 0, .q 0, .q 0, .q 0]] m) w25, ?_, ?_⟩
 obtain ⟨J3, h, h2⟩ := h
 refine ⟨fun x13 w26 => J3 x13 ∧ Mem w.heap.size [] m [([], w.heap.size, w)] [] w26 [.box b2 [.slice a6 l.length c6, .q n, .q atx1, .q ex], .box b1 [.q Op, .s Na, .q N, .q Ki, .q At], .box b [.slice none 0 0, .q 0, .q 0, .q 0]] ∧ Step (ms [.box b2 [.slice a6 l.length c6, .q n, .q atx1, .q ex], .box b1 [.q Op, .s Na, .q N, .q Ki, .q At], .box b [.slice none 0 0, .q 0, .q 0, .q 0]] m) w17 (ms [.box b2 [.slice a6 l.length c6, .q n, .q atx1, .q ex], .box b1 [.q Op, .s Na, .q N, .q Ki, .q At], .box b [.slice none 0 0, .q 0, .q 0, .q 0]] m) w26, ?_, ?_⟩
 refine ⟨_, (o.at 0 rfl).cell rfl, ?_⟩
 refine cond_map (fun h => ?_) (fun h => ?_) h
 refine ⟨_, (o.at 0 rfl).cell rfl, ?_⟩
 have sT11 := (((sT3.trans st13).trans st14).trans st15).trans st16
 refine call_then (h _ w17 (o.mo hm (by simp) (.head _)) _ _ le_toks (f_toks.st sT11)) ?_
 rintro _ w27 ⟨x14, h, rfl, ke12⟩
 obtain ⟨st26, o⟩ := o.dE ke12
 refine ⟨_, rfl, ?_⟩
 exact ⟨h, o, st26⟩
 exact ⟨h, o, Step.refl _ _⟩
 rintro _ x13 w26 ⟨hJ, o, st25⟩
 have h := h2 x13 hJ
 refine cond_map (fun h => ?_) (fun h => ?_) h
 refine ⟨o.wr 1 rfl rfl, fun w28 hw28 => ?_⟩
 obtain ⟨st27, o⟩ := o.dS 1 hw28 rfl
 refine ⟨_, _, _, _, _, _, (o.at 0 rfl).whole, ?_⟩
 have sT12 := (((((sT3.trans st13).trans st14).trans st15).trans st16).trans st25).trans st27
 refine call_then (h _ w28 (o.mo hm (by simp) (.head _)) _ (GR11_cur_in (⟨l, n, atx1, ex⟩ : GR11_cur) ⟨le6, (f13.st (st25.trans st27))⟩) _ _ le_toks (f_toks.st sT12)) ?_
 rintro _ w29 ⟨x15, h, ⟨cs10, rfl, f21⟩, ke13⟩
 obtain ⟨st28, o⟩ := o.dE ke13
 obtain ⟨a11, c11, rfl, ⟨le11, f22⟩⟩ := GR11_cur_out f21
 refine ⟨_, _, _, _, _, _, rfl, ?_⟩
 have sT13 := sT12.trans st28
 refine call_then (h _ w29 (o.mo hm (by simp) (.head _)) _ (GR11_cur_in x15 ⟨le11, f22⟩) _ _ le_toks (f_toks.st sT13)) ?_
 rintro _ w30 ⟨x16, h, ⟨cs11, rfl, f23⟩, ke14⟩
 obtain ⟨st29, o⟩ := o.dE ke14
 obtain ⟨a12, c12, rfl, ⟨le12, f24⟩⟩ := GR11_cur_out f23
 refine ⟨_, _, _, _, _, _, rfl, ?_⟩
 refine ⟨o.wr 0 rfl rfl, fun w31 hw31 => ?_⟩
 obtain ⟨st30, o⟩ := o.dSs 0 hw31 rfl
 have sT14 := (((st25.trans st27).trans st28).trans st29).trans st30
 exact ⟨x16.l, x16.n, x16.at_, x16.e_, 36, Na, N, Ki, At, a12, c12, h, ⟨le12, (f24.st st30)⟩, o, sT14⟩
 refine ⟨_, _, _, _, _, _, (o.at 0 rfl).whole, ?_⟩
 have sT15 := ((((sT3.trans st13).trans st14).trans st15).trans st16).trans st25
 refine call_then (h _ w26 (o.mo hm (by simp) (.head _)) _ (GR11_cur_in (⟨l, n, atx1, ex⟩ : GR11_cur) ⟨le6, (f13.st st25)⟩) _ _ le_toks (f_toks.st sT15)) ?_
 rintro _ w32 ⟨r, r1, r2, h, ⟨cs12, rfl, f25⟩, ke15⟩
 obtain ⟨st31, o⟩ := o.dE ke15
 obtain ⟨a13, c13, rfl, ⟨le13, f26⟩⟩ := GR11_cur_out f25
 refine ⟨_, _, _, _, _, _, _, _, rfl, ?_⟩
 refine ⟨o.wr 0 rfl rfl, fun w33 hw33 => ?_⟩
 obtain ⟨st32, o⟩ := o.dSs 0 hw33 rfl
 refine ⟨o.wr 1 rfl rfl, fun w34 hw34 => ?_⟩
 obtain ⟨st33, o⟩ := o.dS 1 hw34 rfl
 refine ⟨o.wr 1 rfl rfl, fun w35 hw35 => ?_⟩
 obtain ⟨st34, o⟩ := o.dS 1 hw35 rfl
 have sT16 := (st32.trans st33).trans st34
 have sT17 := (((st25.trans st31).trans st32).trans st33).trans st34
 exact ⟨r.l, r.n, r.at_, r.e_, r1, r2, N, Ki, At, a13, c13, h, ⟨le13, (f26.st sT16)⟩, o, sT17⟩
 rintro _ w25 ⟨l1, n1, atx2, ex1, Op1, Na1, N1, Ki1, At1, a10, c10, hJ, ⟨le10, f20⟩, o, st24⟩
 have h := h2 l1 n1 atx2 ex1 Op1 Na1 N1 Ki1 At1 hJ
 intro w36 hw36
 obtain ⟨st35, o⟩ := o.dD hw36
 have ox1 := o
 refine ⟨fun u => Keep [] w36 u, Keep.refl _ _, ?_⟩
 refine ⟨_, _, _, _, _, _, fun u hu => ((ox1.at 0 rfl).keep hu (by simp)).whole, ?_⟩
 refine ⟨_, _, _, _, _, fun u hu => ((ox1.at 1 rfl).keep hu (by simp)).whole, ?_⟩
 have sT18 := (((((sT3.trans st13).trans st14).trans st15).trans st16).trans st24).trans st35
 refine call_then (h _ w36 (o.mo hm (by simp) (.head _)) _ (GR11_cur_in (⟨l1, n1, atx2, ex1⟩ : GR11_cur) ⟨le10, (f20.st st35)⟩) _ _ le_toks (f_toks.st sT18)) ?_
 rintro _ w37 ⟨x17, h, ⟨cs13, rfl, f27⟩, ke16⟩
 obtain ⟨st36, o⟩ := o.dE ke16
 obtain ⟨a14, c14, rfl, ⟨le14, f28⟩⟩ := GR11_cur_out f27
 refine ⟨_, _, _, _, _, _, rfl, ?_⟩
 refine ⟨(ke16.mono (by simp)), ?_⟩
 refine call_then (h _ w37 (o.mo hm (by simp) (.head _)) _ (GR11_cur_in x17 ⟨le14, f28⟩) _ (GNode_in (⟨Op1, Na1, N1, Ki1, At1⟩ : GNode))) ?_
 rintro _ w38 ⟨x18, h, ⟨cs14, rfl, f29⟩, ke17⟩
 obtain ⟨st37, o⟩ := o.dE ke17
 obtain ⟨a15, c15, rfl, ⟨le15, f30⟩⟩ := GR11_cur_out f29
 refine ⟨_, _, _, _, _, _, rfl, ?_⟩
 refine ⟨o.wr 2 rfl rfl, fun w39 hw39 => ?_⟩
 obtain ⟨st38, o⟩ := o.dSs 2 hw39 rfl
 refine ⟨_, _, _, _, _, _, (o.at 2 rfl).whole, ?_⟩
 exact ⟨x18, h, ⟨_, rfl, (GR11_cur_in x18 ⟨le15, (f30.st (st38.trans Mem.endS))⟩)⟩, o.done⟩
def R11_set_vwp (toks : List GToken) (atx : Int) (xq : GNode) (K : GR11_cur → Prop) : Prop :=
 V_R11_from atx (fun x =>
 V_R11_cur_name x toks (fun r r1 =>
 V_R11_cur_eat r toks [61] (fun x1 =>
 ∃ (J : (List GNode) → Int → Int → Int → Int → (List UInt8) → Int → Int → Int → Prop),
 (∃ (J1 : Bool → Prop),
 (cond (x1.e_ == 0)
 (V_R11_is toks x1.at_ [114, 97, 110, 100, 111, 109] (fun x3 =>
 J1 x3))
 (J1 false)) ∧
 ∀ (x2 : Bool), J1 x2 →
 cond (x2)
 (V_R11_cur_eat x1 toks [114, 97, 110, 100, 111, 109] (fun x4 =>
 V_R11_cur_eat x4 toks [40] (fun x5 =>
 V_R11_cur_term x5 toks (fun x6 =>
 V_R11_cur_eat x6 toks [41] (fun x7 =>
 J x7.l x7.n x7.at_ x7.e_ 20 r1 xq.n xq.kids xq.at_)))))
 (V_R11_cur_term x1 toks (fun x8 =>
 J x8.l x8.n x8.at_ x8.e_ 19 r1 xq.n xq.kids xq.at_))) ∧
 ∀ (l : List GNode) (n : Int) (atx1 : Int) (ex : Int) (Op : Int) (Na : List UInt8) (N : Int) (Ki : Int) (At : Int), J l n atx1 ex Op Na N Ki At →
 V_R11_cur_eat (⟨l, n, atx1, ex⟩ : GR11_cur) toks [59] (fun x9 =>
 V_R11_cur_under x9 (⟨Op, Na, N, Ki, At⟩ : GNode) (fun x10 =>
 K x10)))))
set_option maxHeartbeats 4000000 in
theorem R11_set_lift (toks : List GToken) (atx : Int) (xq : GNode) (K : GR11_cur → Prop) (h : R11_set_vwp toks atx xq K) : V_R11_set toks atx xq K := by
 intro m w hm toksA toksC le_toks f_toks xqcs f_xq
 obtain rfl := GNode_out f_xq
 have o := Mem.start hm.lt
 refine R11_set_ok toksA toks.length toksC atx _ _ _ _ _ _ _ ?_
 intro b w1 hb hw1
 obtain ⟨st, o⟩ := o.dB hb hw1
 intro b1 w2 hb1 hw2
 obtain ⟨st1, o⟩ := o.dB hb1 hw2
 refine call_then (h _ w2 (o.mo hm (by simp) (.head _))) ?_
 rintro _ w3 ⟨x, h, ⟨cs, rfl, f⟩, ke⟩
 obtain ⟨st2, o⟩ := o.dE ke
 obtain ⟨a, c, rfl, ⟨le, f1⟩⟩ := GR11_cur_out f
 refine ⟨_, _, _, _, _, _, rfl, ?_⟩
 have sT := (st.trans st1).trans st2
 refine call_then (h _ w3 (o.mo hm (by simp) (.head _)) _ (GR11_cur_in x ⟨le, f1⟩) _ _ le_toks (f_toks.st sT)) ?_
 rintro _ w4 ⟨r, r1, h, ⟨cs1, rfl, f2⟩, ke1⟩
 obtain ⟨st3, o⟩ := o.dE ke1
 obtain ⟨a1, c1, rfl, ⟨le1, f3⟩⟩ := GR11_cur_out f2
 refine ⟨_, _, _, _, _, _, _, rfl, ?_⟩
 intro b2 w5 hb2 hw5
 obtain ⟨st4, o⟩ := o.dB hb2 hw5
 refine ⟨o.wr 0 rfl rfl, fun w6 hw6 => ?_⟩
 obtain ⟨st5, o⟩ := o.dSs 0 hw6 rfl
 refine ⟨_, _, _, _, _, _, (o.at 0 rfl).whole, ?_⟩
 have sT1 := ((sT.trans st3).trans st4).trans st5
 refine call_then (h _ w6 (o.mo hm (by simp) (.head _)) _ (GR11_cur_in r ⟨le1, (f3.st (st4.trans st5))⟩) _ _ le_toks (f_toks.st sT1)) ?_
 rintro _ w7 ⟨x1, h, ⟨cs2, rfl, f4⟩, ke2⟩
 obtain ⟨st6, o⟩ := o.dE ke2
 obtain ⟨a2, c2, rfl, ⟨le2, f5⟩⟩ := GR11_cur_out f4
 refine ⟨_, _, _, _, _, _, rfl, ?_⟩
 refine ⟨o.wr 0 rfl rfl, fun w8 hw8 => ?_⟩
 obtain ⟨st7, o⟩ := o.dSs 0 hw8 rfl
 refine ⟨o.wr 2 rfl rfl, fun w9 hw9 => ?_⟩
 obtain ⟨st8, o⟩ := o.dS 2 hw9 rfl
 refine ⟨o.wr 2 rfl rfl, fun w10 hw10 => ?_⟩
 obtain ⟨st9, o⟩ := o.dS 2 hw10 rfl
 obtain ⟨J, h, h2⟩ := h
 refine ⟨fun w11 => ∃ (l : List GNode) (n : Int) (atx1 : Int) (ex : Int) (Op : Int) (Na : List UInt8) (N : Int) (Ki : Int) (At : Int) (a3 : Option Addr) (c3 : Nat), J l n atx1 ex Op Na N Ki At ∧ (l.length ≤ c3 ∧ SlR cGNode (ms [.box b2 [.slice a3 l.length c3, .q n, .q atx1, .q ex], .box b1 [.slice none 0 0, .q 0, .q 0, .q 0], .box b [.q Op, .s Na, .q N, .q Ki, .q At]] m) w11 a3 l) ∧ Mem w.heap.size [] m [([], w.heap.size, w)] [] w11 [.box b2 [.slice a3 l.length c3, .q n, .q atx1, .q ex], .box b1 [.slice none 0 0, .q 0, .q 0, .q 0], .box b [.q Op, .s Na, .q N, .q Ki, .q At]] ∧ Step (ms [.box b2 [.slice a2 x1.l.length c2, .q x1.n, .q x1.at_, .q x1.e_], .box b1 [.slice none 0 0, .q 0, .q 0, .q 0], .box b [.q 19, .s r1, .q xq.n, .q xq.kids, .q xq.at_]] m) w10 (ms [.box b2 [.slice a3 l.length c3, .q n, .q atx1, .q ex], .box b1 [.slice none 0 0, .q 0, .q 0, .q 0], .box b [.q Op, .s Na, .q N, .q Ki, .q At]] m) w11, ?_, ?_⟩
 obtain ⟨J1, h, h2⟩ := h
 refine ⟨fun x2 w12 => J1 x2 ∧ Mem w.heap.size [] m [([], w.heap.size, w)] [] w12 [.box b2 [.slice a2 x1.l.length c2, .q x1.n, .q x1.at_, .q x1.e_], .box b1 [.slice none 0 0, .q 0, .q 0, .q 0], .box b [.q 19, .s r1, .q xq.n, .q xq.kids, .q xq.at_]] ∧ Step (ms [.box b2 [.slice a2 x1.l.length c2, .q x1.n, .q x1.at_, .q x1.e_], .box b1 [.slice none 0 0, .q 0, .q 0, .q 0], .box b [.q 19, .s r1, .q xq.n, .q xq.kids, .q xq.at_]] m) w10 (ms [.box b2 [.slice a2 x1.l.length c2, .q x1.n, .q x1.at_, .q x1.e_], .box b1 [.slice none 0 0, .q 0, .q 0, .q 0], .box b [.q 19, .s r1, .q xq.n, .q xq.kids, .q xq.at_]] m) w12, ?_, ?_⟩
 refine ⟨_, (o.at 0 rfl).cell rfl, ?_⟩
 refine cond_map (fun h => ?_) (fun h => ?_) h
 refine ⟨_, (o.at 0 rfl).cell rfl, ?_⟩
 have sT2 := (((sT1.trans st6).trans st7).trans st8).trans st9
 refine call_then (h _ w10 (o.mo hm (by simp) (.head _)) _ _ le_toks (f_toks.st sT2)) ?_
 rintro _ w13 ⟨x3, h, rfl, ke3⟩
 obtain ⟨st12, o⟩ := o.dE ke3
 refine ⟨_, rfl, ?_⟩
 exact ⟨h, o, st12⟩
 exact ⟨h, o, Step.refl _ _⟩
 rintro _ x2 w12 ⟨hJ, o, st11⟩
 have h := h2 x2 hJ
 refine cond_map (fun h => ?_) (fun h => ?_) h
 refine ⟨o.wr 2 rfl rfl, fun w14 hw14 => ?_⟩
 obtain ⟨st13, o⟩ := o.dS 2 hw14 rfl
 refine ⟨_, _, _, _, _, _, (o.at 0 rfl).whole, ?_⟩
 have sT3 := (((st7.trans st8).trans st9).trans st11).trans st13
 have sT4 := (((((sT1.trans st6).trans st7).trans st8).trans st9).trans st11).trans st13
 refine call_then (h _ w14 (o.mo hm (by simp) (.head _)) _ (GR11_cur_in x1 ⟨le2, (f5.st sT3)⟩) _ _ le_toks (f_toks.st sT4)) ?_
 rintro _ w15 ⟨x4, h, ⟨cs3, rfl, f7⟩, ke4⟩
 obtain ⟨st14, o⟩ := o.dE ke4
 obtain ⟨a4, c4, rfl, ⟨le4, f8⟩⟩ := GR11_cur_out f7
 refine ⟨_, _, _, _, _, _, rfl, ?_⟩
 have sT5 := sT4.trans st14
 refine call_then (h _ w15 (o.mo hm (by simp) (.head _)) _ (GR11_cur_in x4 ⟨le4, f8⟩) _ _ le_toks (f_toks.st sT5)) ?_
 rintro _ w16 ⟨x5, h, ⟨cs4, rfl, f9⟩, ke5⟩
 obtain ⟨st15, o⟩ := o.dE ke5
 obtain ⟨a5, c5, rfl, ⟨le5, f10⟩⟩ := GR11_cur_out f9
 refine ⟨_, _, _, _, _, _, rfl, ?_⟩
 have sT6 := sT5.trans st15
 refine call_then (h _ w16 (o.mo hm (by simp) (.head _)) _ (GR11_cur_in x5 ⟨le5, f10⟩) _ _ le_toks (f_toks.st sT6)) ?_
 rintro _ w17 ⟨x6, h, ⟨cs5, rfl, f11⟩, ke6⟩
 obtain ⟨st16, o⟩ := o.dE ke6
 obtain ⟨a6, c6, rfl, ⟨le6, f12⟩⟩ := GR11_cur_out f11
 refine ⟨_, _, _, _, _, _, rfl, ?_⟩
 have sT7 := sT6.trans st16
 refine call_then (h _ w17 (o.mo hm (by simp) (.head _)) _ (GR11_cur_in x6 ⟨le6, f12⟩) _ _ le_toks (f_toks.st sT7)) ?_
 rintro _ w18 ⟨x7, h, ⟨cs6, rfl, f13⟩, ke7⟩
 obtain ⟨st17, o⟩ := o.dE ke7
 obtain ⟨a7, c7, rfl, ⟨le7, f14⟩⟩ := GR11_cur_out f13
 refine ⟨_, _, _, _, _, _, rfl, ?_⟩
 refine ⟨o.wr 0 rfl rfl, fun w19 hw19 => ?_⟩
 obtain ⟨st18, o⟩ := o.dSs 0 hw19 rfl
 have sT8 := (((((st11.trans st13).trans st14).trans st15).trans st16).trans st17).trans st18
 exact ⟨x7.l, x7.n, x7.at_, x7.e_, 20, r1, xq.n, xq.kids, xq.at_, a7, c7, h, ⟨le7, (f14.st st18)⟩, o, sT8⟩
 refine ⟨_, _, _, _, _, _, (o.at 0 rfl).whole, ?_⟩
 have sT9 := ((st7.trans st8).trans st9).trans st11
 have sT10 := ((((sT1.trans st6).trans st7).trans st8).trans st9).trans st11
 refine call_then (h _ w12 (o.mo hm (by simp) (.head _)) _ (GR11_cur_in x1 ⟨le2, (f5.st sT9)⟩) _ _ le_toks (f_toks.st sT10)) ?_
 rintro _ w20 ⟨x8, h, ⟨cs7, rfl, f15⟩, ke8⟩
 obtain ⟨st19, o⟩ := o.dE ke8
 obtain ⟨a8, c8, rfl, ⟨le8, f16⟩⟩ := GR11_cur_out f15
 refine ⟨_, _, _, _, _, _, rfl, ?_⟩
 refine ⟨o.wr 0 rfl rfl, fun w21 hw21 => ?_⟩
 obtain ⟨st20, o⟩ := o.dSs 0 hw21 rfl
 have sT11 := (st11.trans st19).trans st20
 exact ⟨x8.l, x8.n, x8.at_, x8.e_, 19, r1, xq.n, xq.kids, xq.at_, a8, c8, h, ⟨le8, (f16.st st20)⟩, o, sT11⟩
 rintro _ w11 ⟨l, n, atx1, ex, Op, Na, N, Ki, At, a3, c3, hJ, ⟨le3, f6⟩, o, st10⟩
 have h := h2 l n atx1 ex Op Na N Ki At hJ
 intro w22 hw22
 obtain ⟨st21, o⟩ := o.dD hw22
 have ox := o
 refine ⟨fun u => Keep [] w22 u, Keep.refl _ _, ?_⟩
 refine ⟨_, _, _, _, _, _, fun u hu => ((ox.at 0 rfl).keep hu (by simp)).whole, ?_⟩
 refine ⟨_, _, _, _, _, fun u hu => ((ox.at 2 rfl).keep hu (by simp)).whole, ?_⟩
 have sT12 := (((((sT1.trans st6).trans st7).trans st8).trans st9).trans st10).trans st21
 refine call_then (h _ w22 (o.mo hm (by simp) (.head _)) _ (GR11_cur_in (⟨l, n, atx1, ex⟩ : GR11_cur) ⟨le3, (f6.st st21)⟩) _ _ le_toks (f_toks.st sT12)) ?_
 rintro _ w23 ⟨x9, h, ⟨cs8, rfl, f17⟩, ke9⟩
 obtain ⟨st22, o⟩ := o.dE ke9
 obtain ⟨a9, c9, rfl, ⟨le9, f18⟩⟩ := GR11_cur_out f17
 refine ⟨_, _, _, _, _, _, rfl, ?_⟩
 refine ⟨(ke9.mono (by simp)), ?_⟩
 refine call_then (h _ w23 (o.mo hm (by simp) (.head _)) _ (GR11_cur_in x9 ⟨le9, f18⟩) _ (GNode_in (⟨Op, Na, N, Ki, At⟩ : GNode))) ?_
 rintro _ w24 ⟨x10, h, ⟨cs9, rfl, f19⟩, ke10⟩
 obtain ⟨st23, o⟩ := o.dE ke10
 obtain ⟨a10, c10, rfl, ⟨le10, f20⟩⟩ := GR11_cur_out f19
 refine ⟨_, _, _, _, _, _, rfl, ?_⟩
 refine ⟨o.wr 1 rfl rfl, fun w25 hw25 => ?_⟩
 obtain ⟨st24, o⟩ := o.dSs 1 hw25 rfl
 refine ⟨_, _, _, _, _, _, (o.at 1 rfl).whole, ?_⟩
 exact ⟨x10, h, ⟨_, rfl, (GR11_cur_in x10 ⟨le10, (f20.st (st24.trans Mem.endS))⟩)⟩, o.done⟩
end Go.Proofs.Ytdbdkdmgfiiljaa
