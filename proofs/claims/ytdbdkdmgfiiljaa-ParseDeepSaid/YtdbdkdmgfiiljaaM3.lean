/- A part of the proof: conditions of the code, contracts, the plain law. -/
import Derived.Test.YtdbdkdmgfiiljaaM1
import Derived.Test.YtdbdkdmgfiiljaaMapL
namespace Go.Proofs.Ytdbdkdmgfiiljaa
open Go.Vc Go.Lv Go.Ty
def parse_reader_stmt_vwp (r : Gparse_reader) (K : Gparse_reader → Prop) : Prop :=
 V_parse_reader_see r 0 (fun x =>
 V_parse_reader_open r 0 (fun i r1 =>
 cond (x.kind == 1)
 (∃ (J : Int → Int → (List GNode) → Int → Prop),
 (V_parse_reader_is (⟨r.toks, r1.at_, r1.deep, r1.l, r1.e_⟩ : Gparse_reader) 1 [61] (fun x1 =>
 cond (x1)
 (((0 : Int) ≤ i ∧ i < (r1.l.length : Int)) ∧
 ∀ x2, r1.l[i.toNat]? = some x2 →
 V_parse_reader_set (⟨r.toks, r1.at_, r1.deep, (r1.l.set i.toNat (⟨19, x2.name, x2.n, x2.kids, x2.at_⟩ : GNode)), r1.e_⟩ : Gparse_reader) i (fun r2 =>
 J r2.at_ r2.deep r2.l r2.e_))
 (V_parse_reader_comm (⟨r.toks, r1.at_, r1.deep, r1.l, r1.e_⟩ : Gparse_reader) i 21 22 (fun r3 =>
 J r3.at_ r3.deep r3.l r3.e_)))) ∧
 ∀ (atx : Int) (de : Int) (l : List GNode) (ex : Int), J atx de l ex →
 V_parse_reader_must (⟨r.toks, atx, de, l, ex⟩ : Gparse_reader) ([[59]] : List (List UInt8)) (fun r4 =>
 K (⟨r.toks, r4.at_, r4.deep, l, r4.e_⟩ : Gparse_reader)))
 (getG ([] : List (List UInt8 × Int)) [115, 108, 101, 101, 112] = none ∧
 getG (([] : List (List UInt8 × Int)) ++ [([115, 108, 101, 101, 112], 27)]) [112, 114, 105, 110, 116] = none ∧
 getG ((([] : List (List UInt8 × Int)) ++ [([115, 108, 101, 101, 112], 27)]) ++ [([112, 114, 105, 110, 116], 28)]) [97, 115, 115, 101, 114, 116] = none ∧
 getG (((([] : List (List UInt8 × Int)) ++ [([115, 108, 101, 101, 112], 27)]) ++ [([112, 114, 105, 110, 116], 28)]) ++ [([97, 115, 115, 101, 114, 116], 29)]) [115, 107, 105, 112] = none ∧
 getG ((((([] : List (List UInt8 × Int)) ++ [([115, 108, 101, 101, 112], 27)]) ++ [([112, 114, 105, 110, 116], 28)]) ++ [([97, 115, 115, 101, 114, 116], 29)]) ++ [([115, 107, 105, 112], 30)]) [115, 116, 111, 112] = none ∧
 cond (x.kind != 3)
 (V_parse_reader_fail (⟨r.toks, r1.at_, r1.deep, r1.l, r1.e_⟩ : Gparse_reader) 11 (fun r5 =>
 K (⟨r.toks, r5.at_, r5.deep, r1.l, r5.e_⟩ : Gparse_reader)))
 (∃ (J1 : Int → Int → (List GNode) → Int → Prop),
 (cond (x.text == [118, 97, 114])
 (((0 : Int) ≤ i ∧ i < (r1.l.length : Int)) ∧
 ∀ x3, r1.l[i.toNat]? = some x3 →
 ∃ (J2 : Int → Int → (List GNode) → Int → Prop),
 (V_parse_reader_name (⟨r.toks, IntKind.i64.wrap (r1.at_ + 1), r1.deep, (r1.l.set i.toNat (⟨18, x3.name, x3.n, x3.kids, x3.at_⟩ : GNode)), r1.e_⟩ : Gparse_reader) (fun x4 r6 =>
 ((0 : Int) ≤ i ∧ i < ((r1.l.set i.toNat (⟨18, x3.name, x3.n, x3.kids, x3.at_⟩ : GNode)).length : Int)) ∧
 ∀ x5, (r1.l.set i.toNat (⟨18, x3.name, x3.n, x3.kids, x3.at_⟩ : GNode))[i.toNat]? = some x5 →
 J2 r6.at_ r6.deep ((r1.l.set i.toNat (⟨18, x3.name, x3.n, x3.kids, x3.at_⟩ : GNode)).set i.toNat (⟨x5.op, x4, x5.n, x5.kids, x5.at_⟩ : GNode)) r6.e_)) ∧
 ∀ (atx2 : Int) (de2 : Int) (l2 : List GNode) (ex2 : Int), J2 atx2 de2 l2 ex2 →
 V_parse_reader_must (⟨r.toks, atx2, de2, l2, ex2⟩ : Gparse_reader) ([[61]] : List (List UInt8)) (fun r7 =>
 V_parse_reader_term (⟨r.toks, r7.at_, r7.deep, l2, r7.e_⟩ : Gparse_reader) i (fun r8 =>
 J1 r8.at_ r8.deep r8.l r8.e_)))
 (cond (x.text == [115, 116, 97, 114, 116])
 (((0 : Int) ≤ i ∧ i < (r1.l.length : Int)) ∧
 ∀ x6, r1.l[i.toNat]? = some x6 →
 ∃ (J3 : Int → Int → (List GNode) → Int → Prop),
 (V_parse_reader_name (⟨r.toks, IntKind.i64.wrap (r1.at_ + 1), r1.deep, (r1.l.set i.toNat (⟨26, x6.name, x6.n, x6.kids, x6.at_⟩ : GNode)), r1.e_⟩ : Gparse_reader) (fun x7 r9 =>
 ((0 : Int) ≤ i ∧ i < ((r1.l.set i.toNat (⟨26, x6.name, x6.n, x6.kids, x6.at_⟩ : GNode)).length : Int)) ∧
 ∀ x8, (r1.l.set i.toNat (⟨26, x6.name, x6.n, x6.kids, x6.at_⟩ : GNode))[i.toNat]? = some x8 →
 J3 r9.at_ r9.deep ((r1.l.set i.toNat (⟨26, x6.name, x6.n, x6.kids, x6.at_⟩ : GNode)).set i.toNat (⟨x8.op, x7, x8.n, x8.kids, x8.at_⟩ : GNode)) r9.e_)) ∧
 ∀ (atx3 : Int) (de3 : Int) (l3 : List GNode) (ex3 : Int), J3 atx3 de3 l3 ex3 →
 V_parse_reader_args (⟨r.toks, atx3, de3, l3, ex3⟩ : Gparse_reader) i (fun r10 =>
 J1 r10.at_ r10.deep r10.l r10.e_))
 (∃ (J4 : Bool → Prop),
 (cond (x.text == [115, 108, 101, 101, 112])
 (J4 (x.text == [115, 108, 101, 101, 112]))
 (cond (x.text == [112, 114, 105, 110, 116])
 (J4 (x.text == [112, 114, 105, 110, 116]))
 (J4 (x.text == [97, 115, 115, 101, 114, 116])))) ∧
 ∀ (x9 : Bool), J4 x9 →
 cond (x9)
 (∃ (J5 : (List GNode) → Prop),
 (∀ (x10 : Int), x10 = (getG (((((([] : List (List UInt8 × Int)) ++ [([115, 108, 101, 101, 112], 27)]) ++ [([112, 114, 105, 110, 116], 28)]) ++ [([97, 115, 115, 101, 114, 116], 29)]) ++ [([115, 107, 105, 112], 30)]) ++ [([115, 116, 111, 112], 31)]) x.text).getD 0 →
 ((0 : Int) ≤ i ∧ i < (r1.l.length : Int)) ∧
 ∀ x11, r1.l[i.toNat]? = some x11 →
 J5 (r1.l.set i.toNat (⟨x10, x11.name, x11.n, x11.kids, x11.at_⟩ : GNode))) ∧
 ∀ (l4 : List GNode), J5 l4 →
 V_parse_reader_term (⟨r.toks, IntKind.i64.wrap (r1.at_ + 1), r1.deep, l4, r1.e_⟩ : Gparse_reader) i (fun r11 =>
 J1 r11.at_ r11.deep r11.l r11.e_))
 (∃ (J6 : Bool → Prop),
 (cond (x.text == [115, 107, 105, 112])
 (J6 (x.text == [115, 107, 105, 112]))
 (J6 (x.text == [115, 116, 111, 112]))) ∧
 ∀ (x12 : Bool), J6 x12 →
 cond (x12)
 (∀ (x13 : Int), x13 = (getG (((((([] : List (List UInt8 × Int)) ++ [([115, 108, 101, 101, 112], 27)]) ++ [([112, 114, 105, 110, 116], 28)]) ++ [([97, 115, 115, 101, 114, 116], 29)]) ++ [([115, 107, 105, 112], 30)]) ++ [([115, 116, 111, 112], 31)]) x.text).getD 0 →
 ((0 : Int) ≤ i ∧ i < (r1.l.length : Int)) ∧
 ∀ x14, r1.l[i.toNat]? = some x14 →
 J1 (IntKind.i64.wrap (r1.at_ + 1)) r1.deep (r1.l.set i.toNat (⟨x13, x14.name, x14.n, x14.kids, x14.at_⟩ : GNode)) r1.e_)
 (cond (x.text == [105, 102])
 (((0 : Int) ≤ i ∧ i < (r1.l.length : Int)) ∧
 ∀ x15, r1.l[i.toNat]? = some x15 →
 V_parse_reader_term (⟨r.toks, IntKind.i64.wrap (r1.at_ + 1), r1.deep, (r1.l.set i.toNat (⟨23, x15.name, x15.n, x15.kids, x15.at_⟩ : GNode)), r1.e_⟩ : Gparse_reader) i (fun r12 =>
 V_parse_reader_block (⟨r.toks, r12.at_, r12.deep, r12.l, r12.e_⟩ : Gparse_reader) i (fun r13 =>
 V_parse_reader_eat (⟨r.toks, r13.at_, r13.deep, r13.l, r13.e_⟩ : Gparse_reader) [101, 108, 115, 101] (fun x16 r14 =>
 cond (x16)
 (V_parse_reader_block (⟨r.toks, r14.at_, r14.deep, r13.l, r14.e_⟩ : Gparse_reader) i (fun r15 =>
 K (⟨r.toks, r15.at_, r15.deep, r15.l, r15.e_⟩ : Gparse_reader)))
 (K (⟨r.toks, r14.at_, r14.deep, r13.l, r14.e_⟩ : Gparse_reader))))))
 (cond (x.text == [119, 104, 105, 108, 101])
 (((0 : Int) ≤ i ∧ i < (r1.l.length : Int)) ∧
 ∀ x17, r1.l[i.toNat]? = some x17 →
 V_parse_reader_term (⟨r.toks, IntKind.i64.wrap (r1.at_ + 1), r1.deep, (r1.l.set i.toNat (⟨24, x17.name, x17.n, x17.kids, x17.at_⟩ : GNode)), r1.e_⟩ : Gparse_reader) i (fun r16 =>
 V_parse_reader_block (⟨r.toks, r16.at_, r16.deep, r16.l, r16.e_⟩ : Gparse_reader) i (fun r17 =>
 K (⟨r.toks, r17.at_, r17.deep, r17.l, r17.e_⟩ : Gparse_reader))))
 (cond (x.text == [115, 101, 108, 101, 99, 116])
 (((0 : Int) ≤ i ∧ i < (r1.l.length : Int)) ∧
 ∀ x18, r1.l[i.toNat]? = some x18 →
 V_parse_reader_must (⟨r.toks, IntKind.i64.wrap (r1.at_ + 1), r1.deep, (r1.l.set i.toNat (⟨25, x18.name, x18.n, x18.kids, x18.at_⟩ : GNode)), r1.e_⟩ : Gparse_reader) ([[123]] : List (List UInt8)) (fun r18 =>
 ∃ (I : Int → Int → (List GNode) → Int → Nat → Prop), (∃ n, I r18.at_ r18.deep (r1.l.set i.toNat (⟨25, x18.name, x18.n, x18.kids, x18.at_⟩ : GNode)) r18.e_ n) ∧
 ∀ (atx4 : Int) (de4 : Int) (l5 : List GNode) (ex4 : Int) (n : Nat), I atx4 de4 l5 ex4 n →
 V_parse_reader_clause (⟨r.toks, atx4, de4, l5, ex4⟩ : Gparse_reader) (fun r19 =>
 ((0 : Int) ≤ i ∧ i < (r19.l.length : Int)) ∧
 ∀ x19, r19.l[i.toNat]? = some x19 →
 ((0 : Int) ≤ i ∧ i < (r19.l.length : Int)) ∧
 ∀ x20, r19.l[i.toNat]? = some x20 →
 ∃ (J7 : Bool → Prop),
 (cond (r19.e_ != 0)
 (J7 (r19.e_ != 0))
 (V_parse_reader_is (⟨r.toks, r19.at_, r19.deep, (r19.l.set i.toNat (⟨x20.op, x20.name, x20.n, IntKind.i64.wrap (x19.kids + 1), x20.at_⟩ : GNode)), r19.e_⟩ : Gparse_reader) 0 [125] (fun x22 =>
 J7 x22))) ∧
 ∀ (x21 : Bool), J7 x21 →
 cond (x21)
 (V_parse_reader_must (⟨r.toks, r19.at_, r19.deep, (r19.l.set i.toNat (⟨x20.op, x20.name, x20.n, IntKind.i64.wrap (x19.kids + 1), x20.at_⟩ : GNode)), r19.e_⟩ : Gparse_reader) ([[125]] : List (List UInt8)) (fun r20 =>
 K (⟨r.toks, r20.at_, r20.deep, (r19.l.set i.toNat (⟨x20.op, x20.name, x20.n, IntKind.i64.wrap (x19.kids + 1), x20.at_⟩ : GNode)), r20.e_⟩ : Gparse_reader)))
 (∃ n1, n1 < n ∧ I r19.at_ r19.deep (r19.l.set i.toNat (⟨x20.op, x20.name, x20.n, IntKind.i64.wrap (x19.kids + 1), x20.at_⟩ : GNode)) r19.e_ n1))))
 (V_parse_reader_fail (⟨r.toks, IntKind.i64.wrap ((IntKind.i64.wrap (r1.at_ + 1)) - 1), r1.deep, r1.l, r1.e_⟩ : Gparse_reader) 11 (fun r21 =>
 K (⟨r.toks, r21.at_, r21.deep, r1.l, r21.e_⟩ : Gparse_reader)))))))))) ∧
 ∀ (atx1 : Int) (de1 : Int) (l1 : List GNode) (ex1 : Int), J1 atx1 de1 l1 ex1 →
 V_parse_reader_must (⟨r.toks, atx1, de1, l1, ex1⟩ : Gparse_reader) ([[59]] : List (List UInt8)) (fun r22 =>
 K (⟨r.toks, r22.at_, r22.deep, l1, r22.e_⟩ : Gparse_reader))))))
set_option maxHeartbeats 4000000 in
set_option maxRecDepth 10000 in
theorem parse_reader_stmt_lift (r : Gparse_reader) (K : Gparse_reader → Prop) (h : parse_reader_stmt_vwp r K) : V_parse_reader_stmt r K := by
 intro m w hm rb rA rC rxs rA0 rC0 in_r ina_r bx_r rw_r f_r le_r0 f_r0
 have hrs_ := Mem.objlt hm.lt in_r ina_r
 have o := Mem.obj hm.lt in_r ina_r bx_r rw_r
 have st := Mem.objS (w := w) (l := [.slice rA0 r.toks.length rC0, .int .i64 r.at_, .int .i64 r.deep, .slice rA r.l.length rC, .int .i64 r.e_]) (e := 39) (size := 5) (n := r.l.length) (c := rC) (xs := rxs) in_r ina_r
 have hrm : ∀ b ∈ (rb :: (Vc.blk rA).toList), b ∈ m := fun b hb => (List.mem_cons.1 hb).elim (fun e => e ▸ in_r) (fun h => (ina_r b (Option.mem_toList.1 h)).1)
 refine parse_reader_stmt_ok rb _ _ ?_
 refine call_then (h _ w (o.mo hm hrm (.head _)) _ _ _ _ _ (o.at 0 rfl) le_r0 (f_r0.st st)) ?_
 rintro _ w1 ⟨x, h, ⟨cs, rfl, f⟩, ke⟩
 obtain ⟨st1, o⟩ := o.dE ke
 obtain rfl := GToken_out f
 refine ⟨_, _, _, _, rfl, ?_⟩
 intro b w2 hb hw2
 obtain ⟨st2, o⟩ := o.dB hb hw2
 refine ⟨o.wr 0 rfl rfl, fun w3 hw3 => ?_⟩
 obtain ⟨st3, o⟩ := o.dSs 0 hw3 rfl
 refine call_then (h _ w3 (o.mo hm hrm (.head _)) _ _ _ _ _ _ (Mem.inms 1 rfl) (o.objin 1 2 rfl rfl (by decide)) (o.at 1 rfl) (o.rowAt 2 rfl) (f_r.st (st.trans (st1.trans (st2.trans st3)))) le_r0 (f_r0.st (st.trans (st1.trans (st2.trans st3))))) ?_
 rintro _ w4 ⟨i, r1, h, rfl, ⟨a, c, xs, bx, hr, el, fr⟩, ke1⟩
 have st4 := Mem.call2S (ps := [.box b [.int .i64 x.kind, .string (mkS x.text), .int .i64 x.n, .int .i64 x.at_], .box rb [.slice rA0 r.toks.length rC0, .int .i64 r.at_, .int .i64 r.deep, .slice rA r.l.length rC, .int .i64 r.e_], .row 39 5 rA r.l.length rC rxs]) (m0 := m) (l' := [.slice rA0 r.toks.length rC0, .int .i64 r1.at_, .int .i64 r1.deep, .slice a r1.l.length c, .int .i64 r1.e_]) (n' := r1.l.length) (c' := c) (xs' := xs) 1 2 rfl rfl ke1 fr
 have el1 := El.st el (Mem.call2D (ps := [.box b [.int .i64 x.kind, .string (mkS x.text), .int .i64 x.n, .int .i64 x.at_], .box rb [.slice rA0 r.toks.length rC0, .int .i64 r.at_, .int .i64 r.deep, .slice rA r.l.length rC, .int .i64 r.e_], .row 39 5 rA r.l.length rC rxs]) (m0 := m) (l' := [.slice rA0 r.toks.length rC0, .int .i64 r1.at_, .int .i64 r1.deep, .slice a r1.l.length c, .int .i64 r1.e_]) (e := 39) (size := 5) (n' := r1.l.length) (c' := c) (xs' := xs) 1 2 rfl)
 have o := o.call2 1 2 rfl rfl (by decide) ke1 bx hr fr
 refine ⟨_, rfl, ?_⟩
 refine ⟨_, (o.at 0 rfl).cell rfl, ?_⟩
 refine cond_map (fun h => ?_) (fun h => ?_) h
 obtain ⟨J, h, h2⟩ := h
 refine ⟨fun w5 => ∃ (atx : Int) (de : Int) (l : List GNode) (ex : Int) (xs1 : List Value) (a1 : Option Addr) (c1 : Nat), J atx de l ex ∧ El cGNode (ms [.box b [.int .i64 x.kind, .string (mkS x.text), .int .i64 x.n, .int .i64 x.at_], .box rb [.slice rA0 r.toks.length rC0, .int .i64 atx, .int .i64 de, .slice a1 l.length c1, .int .i64 ex], .row 39 5 a1 l.length c1 xs1] m) w5 l xs1 ∧ Mem w.heap.size (rb :: (Vc.blk rA).toList) m [((rb :: (Vc.blk rA).toList), w.heap.size, w)] [] w5 [.box b [.int .i64 x.kind, .string (mkS x.text), .int .i64 x.n, .int .i64 x.at_], .box rb [.slice rA0 r.toks.length rC0, .int .i64 atx, .int .i64 de, .slice a1 l.length c1, .int .i64 ex], .row 39 5 a1 l.length c1 xs1] ∧ Step (ms [.box b [.int .i64 x.kind, .string (mkS x.text), .int .i64 x.n, .int .i64 x.at_], .box rb [.slice rA0 r.toks.length rC0, .int .i64 r1.at_, .int .i64 r1.deep, .slice a r1.l.length c, .int .i64 r1.e_], .row 39 5 a r1.l.length c xs] m) w4 (ms [.box b [.int .i64 x.kind, .string (mkS x.text), .int .i64 x.n, .int .i64 x.at_], .box rb [.slice rA0 r.toks.length rC0, .int .i64 atx, .int .i64 de, .slice a1 l.length c1, .int .i64 ex], .row 39 5 a1 l.length c1 xs1] m) w5, ?_, ?_⟩
 refine call_then (h _ w4 (o.mo hm hrm (.head _)) _ _ _ _ _ (o.at 1 rfl) le_r0 (f_r0.st (st.trans (st1.trans (st2.trans (st3.trans st4)))))) ?_
 rintro _ w6 ⟨x1, h, rfl, ke2⟩
 obtain ⟨st6, o⟩ := o.dE ke2
 refine ⟨_, rfl, ?_⟩
 refine cond_map (fun h => ?_) (fun h => ?_) h
 refine ⟨_, _, _, (o.at 1 rfl).cell rfl, ?_⟩
 obtain ⟨hi, h⟩ := h
 obtain ⟨p, x2, cs1, hp, he, hc, hr1⟩ := row_elem (o.rowAt 2 rfl) (el1.st st6) hi
 obtain rfl := GNode_out hr1
 have h := h x2 he
 refine ⟨hi, ptrOr_some hp ?_⟩
 have hq := row_putp (i := i.toNat) (o.rowAt 2 rfl) (el1.st st6) hp he hc.2 rfl 0 (.int .i64 19) (by decide)
 refine ⟨hq.1, fun w7 hw7 => ?_⟩
 obtain ⟨xs2, hr2, hg, hel⟩ := hq.2 _ hw7
 have el3 := hel (⟨19, x2.name, x2.n, x2.kids, x2.at_⟩ : GNode) (GNode_in (⟨19, x2.name, x2.n, x2.kids, x2.at_⟩ : GNode))
 have st7 := o.xA 2 rfl hr2 hg (.inl rfl)
 have o := o.app 2 rfl hr2 hg (.inl rfl)
 have ln : r1.l.length = (r1.l.set i.toNat (⟨19, x2.name, x2.n, x2.kids, x2.at_⟩ : GNode)).length := row_len (o.rowAt 2 rfl) (el3.st st7)
 rw [ln] at o
 try rw [ln]
 refine call_then (h _ w7 (o.mo hm hrm (.head _)) _ _ _ _ _ _ (Mem.inms 1 rfl) (o.objin 1 2 rfl rfl (by decide)) (o.at 1 rfl) (o.rowAt 2 rfl) (el3.st st7) le_r0 (f_r0.st (st.trans (st1.trans (st2.trans (st3.trans (st4.trans (st6.trans st7)))))))) ?_
 rintro _ w8 ⟨r2, h, -, ⟨a2, c2, xs3, bx1, hr3, el4, fr1⟩, ke3⟩
 have st8 := Mem.call2S (ps := [.box b [.int .i64 x.kind, .string (mkS x.text), .int .i64 x.n, .int .i64 x.at_], .box rb [.slice rA0 r.toks.length rC0, .int .i64 r1.at_, .int .i64 r1.deep, .slice a ((r1.l.set i.toNat (⟨19, x2.name, x2.n, x2.kids, x2.at_⟩ : GNode)).length) c, .int .i64 r1.e_], .row 39 5 a ((r1.l.set i.toNat (⟨19, x2.name, x2.n, x2.kids, x2.at_⟩ : GNode)).length) c xs2]) (m0 := m) (l' := [.slice rA0 r.toks.length rC0, .int .i64 r2.at_, .int .i64 r2.deep, .slice a2 r2.l.length c2, .int .i64 r2.e_]) (n' := r2.l.length) (c' := c2) (xs' := xs3) 1 2 rfl rfl ke3 fr1
 have el5 := El.st el4 (Mem.call2D (ps := [.box b [.int .i64 x.kind, .string (mkS x.text), .int .i64 x.n, .int .i64 x.at_], .box rb [.slice rA0 r.toks.length rC0, .int .i64 r1.at_, .int .i64 r1.deep, .slice a ((r1.l.set i.toNat (⟨19, x2.name, x2.n, x2.kids, x2.at_⟩ : GNode)).length) c, .int .i64 r1.e_], .row 39 5 a ((r1.l.set i.toNat (⟨19, x2.name, x2.n, x2.kids, x2.at_⟩ : GNode)).length) c xs2]) (m0 := m) (l' := [.slice rA0 r.toks.length rC0, .int .i64 r2.at_, .int .i64 r2.deep, .slice a2 r2.l.length c2, .int .i64 r2.e_]) (e := 39) (size := 5) (n' := r2.l.length) (c' := c2) (xs' := xs3) 1 2 rfl)
 have o := o.call2 1 2 rfl rfl (by decide) ke3 bx1 hr3 fr1
 exact ⟨r2.at_, r2.deep, r2.l, r2.e_, xs3, a2, c2, h, el5, o, (st6.trans (st7.trans st8))⟩
 refine call_then (h _ w6 (o.mo hm hrm (.head _)) _ _ _ _ _ _ (Mem.inms 1 rfl) (o.objin 1 2 rfl rfl (by decide)) (o.at 1 rfl) (o.rowAt 2 rfl) (el1.st st6) le_r0 (f_r0.st (st.trans (st1.trans (st2.trans (st3.trans (st4.trans st6))))))) ?_
 rintro _ w9 ⟨r3, h, -, ⟨a3, c3, xs4, bx2, hr4, el6, fr2⟩, ke4⟩
 have st9 := Mem.call2S (ps := [.box b [.int .i64 x.kind, .string (mkS x.text), .int .i64 x.n, .int .i64 x.at_], .box rb [.slice rA0 r.toks.length rC0, .int .i64 r1.at_, .int .i64 r1.deep, .slice a r1.l.length c, .int .i64 r1.e_], .row 39 5 a r1.l.length c xs]) (m0 := m) (l' := [.slice rA0 r.toks.length rC0, .int .i64 r3.at_, .int .i64 r3.deep, .slice a3 r3.l.length c3, .int .i64 r3.e_]) (n' := r3.l.length) (c' := c3) (xs' := xs4) 1 2 rfl rfl ke4 fr2
 have el7 := El.st el6 (Mem.call2D (ps := [.box b [.int .i64 x.kind, .string (mkS x.text), .int .i64 x.n, .int .i64 x.at_], .box rb [.slice rA0 r.toks.length rC0, .int .i64 r1.at_, .int .i64 r1.deep, .slice a r1.l.length c, .int .i64 r1.e_], .row 39 5 a r1.l.length c xs]) (m0 := m) (l' := [.slice rA0 r.toks.length rC0, .int .i64 r3.at_, .int .i64 r3.deep, .slice a3 r3.l.length c3, .int .i64 r3.e_]) (e := 39) (size := 5) (n' := r3.l.length) (c' := c3) (xs' := xs4) 1 2 rfl)
 have o := o.call2 1 2 rfl rfl (by decide) ke4 bx2 hr4 fr2
 exact ⟨r3.at_, r3.deep, r3.l, r3.e_, xs4, a3, c3, h, el7, o, (st6.trans st9)⟩
 rintro _ w5 ⟨atx, de, l, ex, xs1, a1, c1, hJ, el2, o, st5⟩
 have h := h2 atx de l ex hJ
 intro b1 w10 hb1 hw10
 have el8 : El cStr (ms [.box b [.int .i64 x.kind, .string (mkS x.text), .int .i64 x.n, .int .i64 x.at_], .box rb [.slice rA0 r.toks.length rC0, .int .i64 atx, .int .i64 de, .slice a1 l.length c1, .int .i64 ex], .row 39 5 a1 l.length c1 xs1] m) w5 ([[59]] : List (List UInt8)) ([.string (mkS [59])] : List Value) := (El.cons (cs := [.string (mkS [59])]) rfl (El.nil _ _ _))
 have fr3 : w.heap.size ≤ b1 := hb1 ▸ o.le
 have st10 := o.xL hb1 hw10 1 1
 have o := o.lit hb1 hw10 1 1 (by decide) rfl
 have le := (o.rowAt 0 rfl).cap
 have st11 := o.xX 0
 have f1 := o.freeze (c := cStr) (l := ([[59]] : List (List UInt8))) 0 rfl (fun q hq h => by have := hrs_ q hq; have := fr3; simp [Vc.blk] at h; omega) (el8.st (st10.trans st11))
 have o := o.erase 0
 refine call_then (h _ w10 (o.mo hm hrm (.head _)) _ _ _ _ _ (Mem.inms 1 rfl) (o.at 1 rfl) le_r0 (f_r0.st (st.trans (st1.trans (st2.trans (st3.trans (st4.trans (st5.trans (st10.trans st11)))))))) _ _ le f1) ?_
 rintro _ w11 ⟨r4, h, -, bx3, ke5⟩
 have st12 := o.xC (l' := [.slice rA0 r.toks.length rC0, .int .i64 r4.at_, .int .i64 r4.deep, .slice a1 l.length c1, .int .i64 r4.e_]) 1 ke5 rfl
 have o := o.call 1 ke5 bx3 rfl
 exact ⟨(⟨r.toks, r4.at_, r4.deep, l, r4.e_⟩ : Gparse_reader), h, trivial, ⟨_, _, _, o.at 1 rfl, o.rowAt 2 rfl, (el2.st (st10.trans (st11.trans (st12.trans (Mem.endRS (w := w11) (ps := [.box b [.int .i64 x.kind, .string (mkS x.text), .int .i64 x.n, .int .i64 x.at_], .box rb [.slice rA0 r.toks.length rC0, .int .i64 r4.at_, .int .i64 r4.deep, .slice a1 l.length c1, .int .i64 r4.e_], .row 39 5 a1 l.length c1 xs1]) (m0 := m) 2 rfl))))), o.oldnew 2 rfl 1 rfl (by decide)⟩, o.done⟩
 intro b2 w12 hb2 hw12
 have st13 := Mem.mapNewS (ps := [.box b [.int .i64 x.kind, .string (mkS x.text), .int .i64 x.n, .int .i64 x.at_], .box rb [.slice rA0 r.toks.length rC0, .int .i64 r1.at_, .int .i64 r1.deep, .slice a r1.l.length c, .int .i64 r1.e_], .row 39 5 a r1.l.length c xs]) (m0 := m) kStr (fun x : Int => .int .i64 x) hb2 hw12
 have o := o.mapNew kStr (fun x : Int => .int .i64 x) hb2 hw12
 obtain ⟨hg1, h⟩ := h
 refine map_put (E := kStr) (s := [115, 108, 101, 101, 112]) (o.rawAt 0 rfl) Try.underlying104 Try.underlying9 (by rw [getG_encM, hg1]; rfl) ?_
 intro w13 hk hmp
 rw [show (.int .i64 27 : Value) = (fun x : Int => .int .i64 x) 27 from rfl, encM_snoc] at hmp
 have st14 := Mem.mapPutS (ps := [.raw b2 (mapO kStr (encM (fun x : Int => .int .i64 x) ([] : List (List UInt8 × Int)))), .box b [.int .i64 x.kind, .string (mkS x.text), .int .i64 x.n, .int .i64 x.at_], .box rb [.slice rA0 r.toks.length rC0, .int .i64 r1.at_, .int .i64 r1.deep, .slice a r1.l.length c, .int .i64 r1.e_], .row 39 5 a r1.l.length c xs]) (m0 := m) kStr (kvs := encM (fun x : Int => .int .i64 x) (([] : List (List UInt8 × Int)) ++ [([115, 108, 101, 101, 112], 27)])) 0 rfl hk
 have o := o.mapPut kStr 0 rfl hk hmp
 obtain ⟨hg2, h⟩ := h
 refine map_put (E := kStr) (s := [112, 114, 105, 110, 116]) (o.rawAt 0 rfl) Try.underlying104 Try.underlying9 (by rw [getG_encM, hg2]; rfl) ?_
 intro w14 hk1 hmp1
 rw [show (.int .i64 28 : Value) = (fun x : Int => .int .i64 x) 28 from rfl, encM_snoc] at hmp1
 have st15 := Mem.mapPutS (ps := [.raw b2 (mapO kStr (encM (fun x : Int => .int .i64 x) (([] : List (List UInt8 × Int)) ++ [([115, 108, 101, 101, 112], 27)]))), .box b [.int .i64 x.kind, .string (mkS x.text), .int .i64 x.n, .int .i64 x.at_], .box rb [.slice rA0 r.toks.length rC0, .int .i64 r1.at_, .int .i64 r1.deep, .slice a r1.l.length c, .int .i64 r1.e_], .row 39 5 a r1.l.length c xs]) (m0 := m) kStr (kvs := encM (fun x : Int => .int .i64 x) ((([] : List (List UInt8 × Int)) ++ [([115, 108, 101, 101, 112], 27)]) ++ [([112, 114, 105, 110, 116], 28)])) 0 rfl hk1
 have o := o.mapPut kStr 0 rfl hk1 hmp1
 obtain ⟨hg3, h⟩ := h
 refine map_put (E := kStr) (s := [97, 115, 115, 101, 114, 116]) (o.rawAt 0 rfl) Try.underlying104 Try.underlying9 (by rw [getG_encM, hg3]; rfl) ?_
 intro w15 hk2 hmp2
 rw [show (.int .i64 29 : Value) = (fun x : Int => .int .i64 x) 29 from rfl, encM_snoc] at hmp2
 have st16 := Mem.mapPutS (ps := [.raw b2 (mapO kStr (encM (fun x : Int => .int .i64 x) ((([] : List (List UInt8 × Int)) ++ [([115, 108, 101, 101, 112], 27)]) ++ [([112, 114, 105, 110, 116], 28)]))), .box b [.int .i64 x.kind, .string (mkS x.text), .int .i64 x.n, .int .i64 x.at_], .box rb [.slice rA0 r.toks.length rC0, .int .i64 r1.at_, .int .i64 r1.deep, .slice a r1.l.length c, .int .i64 r1.e_], .row 39 5 a r1.l.length c xs]) (m0 := m) kStr (kvs := encM (fun x : Int => .int .i64 x) (((([] : List (List UInt8 × Int)) ++ [([115, 108, 101, 101, 112], 27)]) ++ [([112, 114, 105, 110, 116], 28)]) ++ [([97, 115, 115, 101, 114, 116], 29)])) 0 rfl hk2
 have o := o.mapPut kStr 0 rfl hk2 hmp2
 obtain ⟨hg4, h⟩ := h
 refine map_put (E := kStr) (s := [115, 107, 105, 112]) (o.rawAt 0 rfl) Try.underlying104 Try.underlying9 (by rw [getG_encM, hg4]; rfl) ?_
 intro w16 hk3 hmp3
 rw [show (.int .i64 30 : Value) = (fun x : Int => .int .i64 x) 30 from rfl, encM_snoc] at hmp3
 have st17 := Mem.mapPutS (ps := [.raw b2 (mapO kStr (encM (fun x : Int => .int .i64 x) (((([] : List (List UInt8 × Int)) ++ [([115, 108, 101, 101, 112], 27)]) ++ [([112, 114, 105, 110, 116], 28)]) ++ [([97, 115, 115, 101, 114, 116], 29)]))), .box b [.int .i64 x.kind, .string (mkS x.text), .int .i64 x.n, .int .i64 x.at_], .box rb [.slice rA0 r.toks.length rC0, .int .i64 r1.at_, .int .i64 r1.deep, .slice a r1.l.length c, .int .i64 r1.e_], .row 39 5 a r1.l.length c xs]) (m0 := m) kStr (kvs := encM (fun x : Int => .int .i64 x) ((((([] : List (List UInt8 × Int)) ++ [([115, 108, 101, 101, 112], 27)]) ++ [([112, 114, 105, 110, 116], 28)]) ++ [([97, 115, 115, 101, 114, 116], 29)]) ++ [([115, 107, 105, 112], 30)])) 0 rfl hk3
 have o := o.mapPut kStr 0 rfl hk3 hmp3
 obtain ⟨hg5, h⟩ := h
 refine map_put (E := kStr) (s := [115, 116, 111, 112]) (o.rawAt 0 rfl) Try.underlying104 Try.underlying9 (by rw [getG_encM, hg5]; rfl) ?_
 intro w17 hk4 hmp4
 rw [show (.int .i64 31 : Value) = (fun x : Int => .int .i64 x) 31 from rfl, encM_snoc] at hmp4
 have st18 := Mem.mapPutS (ps := [.raw b2 (mapO kStr (encM (fun x : Int => .int .i64 x) ((((([] : List (List UInt8 × Int)) ++ [([115, 108, 101, 101, 112], 27)]) ++ [([112, 114, 105, 110, 116], 28)]) ++ [([97, 115, 115, 101, 114, 116], 29)]) ++ [([115, 107, 105, 112], 30)]))), .box b [.int .i64 x.kind, .string (mkS x.text), .int .i64 x.n, .int .i64 x.at_], .box rb [.slice rA0 r.toks.length rC0, .int .i64 r1.at_, .int .i64 r1.deep, .slice a r1.l.length c, .int .i64 r1.e_], .row 39 5 a r1.l.length c xs]) (m0 := m) kStr (kvs := encM (fun x : Int => .int .i64 x) (((((([] : List (List UInt8 × Int)) ++ [([115, 108, 101, 101, 112], 27)]) ++ [([112, 114, 105, 110, 116], 28)]) ++ [([97, 115, 115, 101, 114, 116], 29)]) ++ [([115, 107, 105, 112], 30)]) ++ [([115, 116, 111, 112], 31)])) 0 rfl hk4
 have o := o.mapPut kStr 0 rfl hk4 hmp4
 refine ⟨_, (o.at 1 rfl).cell rfl, ?_⟩
 refine cond_map (fun h => ?_) (fun h => ?_) h
 refine call_then (h _ w17 (o.mo hm hrm (.head _)) _ _ _ _ _ (Mem.inms 2 rfl) (o.at 2 rfl) le_r0 (f_r0.st (st.trans (st1.trans (st2.trans (st3.trans (st4.trans (st13.trans (st14.trans (st15.trans (st16.trans (st17.trans st18)))))))))))) ?_
 rintro _ w18 ⟨r5, h, -, bx4, ke6⟩
 have st19 := o.xC (l' := [.slice rA0 r.toks.length rC0, .int .i64 r5.at_, .int .i64 r5.deep, .slice a r1.l.length c, .int .i64 r5.e_]) 2 ke6 rfl
 have o := o.call 2 ke6 bx4 rfl
 exact ⟨(⟨r.toks, r5.at_, r5.deep, r1.l, r5.e_⟩ : Gparse_reader), h, trivial, ⟨_, _, _, o.at 2 rfl, o.rowAt 3 rfl, (el1.st (st13.trans (st14.trans (st15.trans (st16.trans (st17.trans (st18.trans (st19.trans (Mem.endRS (w := w18) (ps := [.raw b2 (mapO kStr (encM (fun x : Int => .int .i64 x) (((((([] : List (List UInt8 × Int)) ++ [([115, 108, 101, 101, 112], 27)]) ++ [([112, 114, 105, 110, 116], 28)]) ++ [([97, 115, 115, 101, 114, 116], 29)]) ++ [([115, 107, 105, 112], 30)]) ++ [([115, 116, 111, 112], 31)]))), .box b [.int .i64 x.kind, .string (mkS x.text), .int .i64 x.n, .int .i64 x.at_], .box rb [.slice rA0 r.toks.length rC0, .int .i64 r5.at_, .int .i64 r5.deep, .slice a r1.l.length c, .int .i64 r5.e_], .row 39 5 a r1.l.length c xs]) (m0 := m) 3 rfl))))))))), o.oldnew 3 rfl 2 rfl (by decide)⟩, o.done⟩
 refine ⟨_, (o.at 2 rfl).cell rfl, ?_⟩
 refine ⟨o.wr 2 rfl rfl, fun w19 hw19 => ?_⟩
 obtain ⟨st20, o⟩ := o.dS 2 hw19 rfl
 obtain ⟨J1, h, h2⟩ := h
 refine ⟨fun w20 => ∃ (atx1 : Int) (de1 : Int) (l1 : List GNode) (ex1 : Int) (xs5 : List Value) (a4 : Option Addr) (c4 : Nat), J1 atx1 de1 l1 ex1 ∧ El cGNode (ms [.raw b2 (mapO kStr (encM (fun x : Int => .int .i64 x) (((((([] : List (List UInt8 × Int)) ++ [([115, 108, 101, 101, 112], 27)]) ++ [([112, 114, 105, 110, 116], 28)]) ++ [([97, 115, 115, 101, 114, 116], 29)]) ++ [([115, 107, 105, 112], 30)]) ++ [([115, 116, 111, 112], 31)]))), .box b [.int .i64 x.kind, .string (mkS x.text), .int .i64 x.n, .int .i64 x.at_], .box rb [.slice rA0 r.toks.length rC0, .int .i64 atx1, .int .i64 de1, .slice a4 l1.length c4, .int .i64 ex1], .row 39 5 a4 l1.length c4 xs5] m) w20 l1 xs5 ∧ Mem w.heap.size (rb :: (Vc.blk rA).toList) m [((rb :: (Vc.blk rA).toList), w.heap.size, w)] [] w20 [.raw b2 (mapO kStr (encM (fun x : Int => .int .i64 x) (((((([] : List (List UInt8 × Int)) ++ [([115, 108, 101, 101, 112], 27)]) ++ [([112, 114, 105, 110, 116], 28)]) ++ [([97, 115, 115, 101, 114, 116], 29)]) ++ [([115, 107, 105, 112], 30)]) ++ [([115, 116, 111, 112], 31)]))), .box b [.int .i64 x.kind, .string (mkS x.text), .int .i64 x.n, .int .i64 x.at_], .box rb [.slice rA0 r.toks.length rC0, .int .i64 atx1, .int .i64 de1, .slice a4 l1.length c4, .int .i64 ex1], .row 39 5 a4 l1.length c4 xs5] ∧ Step (ms [.raw b2 (mapO kStr (encM (fun x : Int => .int .i64 x) (((((([] : List (List UInt8 × Int)) ++ [([115, 108, 101, 101, 112], 27)]) ++ [([112, 114, 105, 110, 116], 28)]) ++ [([97, 115, 115, 101, 114, 116], 29)]) ++ [([115, 107, 105, 112], 30)]) ++ [([115, 116, 111, 112], 31)]))), .box b [.int .i64 x.kind, .string (mkS x.text), .int .i64 x.n, .int .i64 x.at_], .box rb [.slice rA0 r.toks.length rC0, .int .i64 (IntKind.i64.wrap (r1.at_ + 1)), .int .i64 r1.deep, .slice a r1.l.length c, .int .i64 r1.e_], .row 39 5 a r1.l.length c xs] m) w19 (ms [.raw b2 (mapO kStr (encM (fun x : Int => .int .i64 x) (((((([] : List (List UInt8 × Int)) ++ [([115, 108, 101, 101, 112], 27)]) ++ [([112, 114, 105, 110, 116], 28)]) ++ [([97, 115, 115, 101, 114, 116], 29)]) ++ [([115, 107, 105, 112], 30)]) ++ [([115, 116, 111, 112], 31)]))), .box b [.int .i64 x.kind, .string (mkS x.text), .int .i64 x.n, .int .i64 x.at_], .box rb [.slice rA0 r.toks.length rC0, .int .i64 atx1, .int .i64 de1, .slice a4 l1.length c4, .int .i64 ex1], .row 39 5 a4 l1.length c4 xs5] m) w20, ?_, ?_⟩
 refine ⟨_, (o.at 1 rfl).cell rfl, ?_⟩
 refine cond_map (fun h => ?_) (fun h => ?_) h
 refine ⟨_, _, _, (o.at 2 rfl).cell rfl, ?_⟩
 obtain ⟨hi1, h⟩ := h
 obtain ⟨p1, x3, cs2, hp1, he1, hc1, hr5⟩ := row_elem (o.rowAt 3 rfl) (el1.st (st13.trans (st14.trans (st15.trans (st16.trans (st17.trans (st18.trans st20))))))) hi1
 obtain rfl := GNode_out hr5
 have h := h x3 he1
 refine ⟨hi1, ptrOr_some hp1 ?_⟩
 have hq1 := row_putp (i := i.toNat) (o.rowAt 3 rfl) (el1.st (st13.trans (st14.trans (st15.trans (st16.trans (st17.trans (st18.trans st20))))))) hp1 he1 hc1.2 rfl 0 (.int .i64 18) (by decide)
 refine ⟨hq1.1, fun w21 hw21 => ?_⟩
 obtain ⟨xs6, hr6, hg6, hel1⟩ := hq1.2 _ hw21
 have el10 := hel1 (⟨18, x3.name, x3.n, x3.kids, x3.at_⟩ : GNode) (GNode_in (⟨18, x3.name, x3.n, x3.kids, x3.at_⟩ : GNode))
 have st22 := o.xA 3 rfl hr6 hg6 (.inl rfl)
 have o := o.app 3 rfl hr6 hg6 (.inl rfl)
 have ln1 : r1.l.length = (r1.l.set i.toNat (⟨18, x3.name, x3.n, x3.kids, x3.at_⟩ : GNode)).length := row_len (o.rowAt 3 rfl) (el10.st st22)
 obtain ⟨J2, h, h2⟩ := h
 refine ⟨fun w22 => ∃ (atx2 : Int) (de2 : Int) (l2 : List GNode) (ex2 : Int) (xs7 : List Value) (a5 : Option Addr) (c5 : Nat), J2 atx2 de2 l2 ex2 ∧ El cGNode (ms [.raw b2 (mapO kStr (encM (fun x : Int => .int .i64 x) (((((([] : List (List UInt8 × Int)) ++ [([115, 108, 101, 101, 112], 27)]) ++ [([112, 114, 105, 110, 116], 28)]) ++ [([97, 115, 115, 101, 114, 116], 29)]) ++ [([115, 107, 105, 112], 30)]) ++ [([115, 116, 111, 112], 31)]))), .box b [.int .i64 x.kind, .string (mkS x.text), .int .i64 x.n, .int .i64 x.at_], .box rb [.slice rA0 r.toks.length rC0, .int .i64 atx2, .int .i64 de2, .slice a5 l2.length c5, .int .i64 ex2], .row 39 5 a5 l2.length c5 xs7] m) w22 l2 xs7 ∧ Mem w.heap.size (rb :: (Vc.blk rA).toList) m [((rb :: (Vc.blk rA).toList), w.heap.size, w)] [] w22 [.raw b2 (mapO kStr (encM (fun x : Int => .int .i64 x) (((((([] : List (List UInt8 × Int)) ++ [([115, 108, 101, 101, 112], 27)]) ++ [([112, 114, 105, 110, 116], 28)]) ++ [([97, 115, 115, 101, 114, 116], 29)]) ++ [([115, 107, 105, 112], 30)]) ++ [([115, 116, 111, 112], 31)]))), .box b [.int .i64 x.kind, .string (mkS x.text), .int .i64 x.n, .int .i64 x.at_], .box rb [.slice rA0 r.toks.length rC0, .int .i64 atx2, .int .i64 de2, .slice a5 l2.length c5, .int .i64 ex2], .row 39 5 a5 l2.length c5 xs7] ∧ Step (ms [.raw b2 (mapO kStr (encM (fun x : Int => .int .i64 x) (((((([] : List (List UInt8 × Int)) ++ [([115, 108, 101, 101, 112], 27)]) ++ [([112, 114, 105, 110, 116], 28)]) ++ [([97, 115, 115, 101, 114, 116], 29)]) ++ [([115, 107, 105, 112], 30)]) ++ [([115, 116, 111, 112], 31)]))), .box b [.int .i64 x.kind, .string (mkS x.text), .int .i64 x.n, .int .i64 x.at_], .box rb [.slice rA0 r.toks.length rC0, .int .i64 (IntKind.i64.wrap (r1.at_ + 1)), .int .i64 r1.deep, .slice a r1.l.length c, .int .i64 r1.e_], .row 39 5 a r1.l.length c xs6] m) w21 (ms [.raw b2 (mapO kStr (encM (fun x : Int => .int .i64 x) (((((([] : List (List UInt8 × Int)) ++ [([115, 108, 101, 101, 112], 27)]) ++ [([112, 114, 105, 110, 116], 28)]) ++ [([97, 115, 115, 101, 114, 116], 29)]) ++ [([115, 107, 105, 112], 30)]) ++ [([115, 116, 111, 112], 31)]))), .box b [.int .i64 x.kind, .string (mkS x.text), .int .i64 x.n, .int .i64 x.at_], .box rb [.slice rA0 r.toks.length rC0, .int .i64 atx2, .int .i64 de2, .slice a5 l2.length c5, .int .i64 ex2], .row 39 5 a5 l2.length c5 xs7] m) w22, ?_, ?_⟩
 intro w23 hw23
 obtain ⟨st24, o⟩ := o.dD hw23
 rw [ln1] at o
 try rw [ln1]
 have ox := o
 refine ⟨fun u => Keep [rb] w23 u ∧ u.cell? ⟨rb, 3, none⟩ = some (.slice a ((r1.l.set i.toNat (⟨18, x3.name, x3.n, x3.kids, x3.at_⟩ : GNode)).length) c), ⟨Keep.refl _ _, (o.at 2 rfl).cell (i := 3) rfl⟩, ?_⟩
 refine ⟨_, _, _, fun u hu => hu.2, ?_⟩
 refine call_then (h _ w23 (o.mo hm hrm (.head _)) _ _ _ _ _ (Mem.inms 2 rfl) (o.at 2 rfl) le_r0 (f_r0.st (st.trans (st1.trans (st2.trans (st3.trans (st4.trans (st13.trans (st14.trans (st15.trans (st16.trans (st17.trans (st18.trans (st20.trans (st22.trans st24))))))))))))))) ?_
 rintro _ w24 ⟨x4, r6, h, rfl, bx5, ke7⟩
 have st25 := o.xC (l' := [.slice rA0 r.toks.length rC0, .int .i64 r6.at_, .int .i64 r6.deep, .slice a ((r1.l.set i.toNat (⟨18, x3.name, x3.n, x3.kids, x3.at_⟩ : GNode)).length) c, .int .i64 r6.e_]) 2 ke7 rfl
 have o := o.call 2 ke7 bx5 rfl
 refine ⟨_, rfl, ?_⟩
 refine ⟨⟨(Keep.mono ke7 (by simp)), (o.at 2 rfl).cell (i := 3) rfl⟩, ?_⟩
 obtain ⟨hi2, h⟩ := h
 obtain ⟨p2, x5, cs3, hp2, he2, hc2, hr7⟩ := row_elem (o.rowAt 3 rfl) (el10.st (st22.trans (st24.trans st25))) hi2
 obtain rfl := GNode_out hr7
 have h := h x5 he2
 refine ⟨hi2, ptrOr_some hp2 ?_⟩
 have hq2 := row_putp (i := i.toNat) (o.rowAt 3 rfl) (el10.st (st22.trans (st24.trans st25))) hp2 he2 hc2.2 rfl 1 (.string (mkS x4)) (by decide)
 refine ⟨hq2.1, fun w25 hw25 => ?_⟩
 obtain ⟨xs8, hr8, hg7, hel2⟩ := hq2.2 _ hw25
 have el12 := hel2 (⟨x5.op, x4, x5.n, x5.kids, x5.at_⟩ : GNode) (GNode_in (⟨x5.op, x4, x5.n, x5.kids, x5.at_⟩ : GNode))
 have st26 := o.xA 3 rfl hr8 hg7 (.inl rfl)
 have o := o.app 3 rfl hr8 hg7 (.inl rfl)
 have ln2 : (r1.l.set i.toNat (⟨18, x3.name, x3.n, x3.kids, x3.at_⟩ : GNode)).length = ((r1.l.set i.toNat (⟨18, x3.name, x3.n, x3.kids, x3.at_⟩ : GNode)).set i.toNat (⟨x5.op, x4, x5.n, x5.kids, x5.at_⟩ : GNode)).length := row_len (o.rowAt 3 rfl) (el12.st st26)
 rw [ln2] at o
 exact ⟨r6.at_, r6.deep, ((r1.l.set i.toNat (⟨18, x3.name, x3.n, x3.kids, x3.at_⟩ : GNode)).set i.toNat (⟨x5.op, x4, x5.n, x5.kids, x5.at_⟩ : GNode)), r6.e_, xs8, a, c, h, (el12.st st26), o, (st24.trans (st25.trans st26))⟩
 rintro _ w22 ⟨atx2, de2, l2, ex2, xs7, a5, c5, hJ, el11, o, st23⟩
 have h := h2 atx2 de2 l2 ex2 hJ
 intro b3 w26 hb3 hw26
 have el13 : El cStr (ms [.raw b2 (mapO kStr (encM (fun x : Int => .int .i64 x) (((((([] : List (List UInt8 × Int)) ++ [([115, 108, 101, 101, 112], 27)]) ++ [([112, 114, 105, 110, 116], 28)]) ++ [([97, 115, 115, 101, 114, 116], 29)]) ++ [([115, 107, 105, 112], 30)]) ++ [([115, 116, 111, 112], 31)]))), .box b [.int .i64 x.kind, .string (mkS x.text), .int .i64 x.n, .int .i64 x.at_], .box rb [.slice rA0 r.toks.length rC0, .int .i64 atx2, .int .i64 de2, .slice a5 l2.length c5, .int .i64 ex2], .row 39 5 a5 l2.length c5 xs7] m) w22 ([[61]] : List (List UInt8)) ([.string (mkS [61])] : List Value) := (El.cons (cs := [.string (mkS [61])]) rfl (El.nil _ _ _))
 have fr4 : w.heap.size ≤ b3 := hb3 ▸ o.le
 have st27 := o.xL hb3 hw26 1 1
 have o := o.lit hb3 hw26 1 1 (by decide) rfl
 have le1 := (o.rowAt 0 rfl).cap
 have st28 := o.xX 0
 have f2 := o.freeze (c := cStr) (l := ([[61]] : List (List UInt8))) 0 rfl (fun q hq h => by have := hrs_ q hq; have := fr4; simp [Vc.blk] at h; omega) (el13.st (st27.trans st28))
 have o := o.erase 0
 refine call_then (h _ w26 (o.mo hm hrm (.head _)) _ _ _ _ _ (Mem.inms 2 rfl) (o.at 2 rfl) le_r0 (f_r0.st (st.trans (st1.trans (st2.trans (st3.trans (st4.trans (st13.trans (st14.trans (st15.trans (st16.trans (st17.trans (st18.trans (st20.trans (st22.trans (st23.trans (st27.trans st28)))))))))))))))) _ _ le1 f2) ?_
 rintro _ w27 ⟨r7, h, -, bx6, ke8⟩
 have st29 := o.xC (l' := [.slice rA0 r.toks.length rC0, .int .i64 r7.at_, .int .i64 r7.deep, .slice a5 l2.length c5, .int .i64 r7.e_]) 2 ke8 rfl
 have o := o.call 2 ke8 bx6 rfl
 refine call_then (h _ w27 (o.mo hm hrm (.head _)) _ _ _ _ _ _ (Mem.inms 2 rfl) (o.objin 2 3 rfl rfl (by decide)) (o.at 2 rfl) (o.rowAt 3 rfl) (el11.st (st27.trans (st28.trans st29))) le_r0 (f_r0.st (st.trans (st1.trans (st2.trans (st3.trans (st4.trans (st13.trans (st14.trans (st15.trans (st16.trans (st17.trans (st18.trans (st20.trans (st22.trans (st23.trans (st27.trans (st28.trans st29)))))))))))))))))) ?_
 rintro _ w28 ⟨r8, h, -, ⟨a6, c6, xs9, bx7, hr9, el14, fr5⟩, ke9⟩
 have st30 := Mem.call2S (ps := [.raw b2 (mapO kStr (encM (fun x : Int => .int .i64 x) (((((([] : List (List UInt8 × Int)) ++ [([115, 108, 101, 101, 112], 27)]) ++ [([112, 114, 105, 110, 116], 28)]) ++ [([97, 115, 115, 101, 114, 116], 29)]) ++ [([115, 107, 105, 112], 30)]) ++ [([115, 116, 111, 112], 31)]))), .box b [.int .i64 x.kind, .string (mkS x.text), .int .i64 x.n, .int .i64 x.at_], .box rb [.slice rA0 r.toks.length rC0, .int .i64 r7.at_, .int .i64 r7.deep, .slice a5 l2.length c5, .int .i64 r7.e_], .row 39 5 a5 l2.length c5 xs7]) (m0 := m) (l' := [.slice rA0 r.toks.length rC0, .int .i64 r8.at_, .int .i64 r8.deep, .slice a6 r8.l.length c6, .int .i64 r8.e_]) (n' := r8.l.length) (c' := c6) (xs' := xs9) 2 3 rfl rfl ke9 fr5
 have el15 := El.st el14 (Mem.call2D (ps := [.raw b2 (mapO kStr (encM (fun x : Int => .int .i64 x) (((((([] : List (List UInt8 × Int)) ++ [([115, 108, 101, 101, 112], 27)]) ++ [([112, 114, 105, 110, 116], 28)]) ++ [([97, 115, 115, 101, 114, 116], 29)]) ++ [([115, 107, 105, 112], 30)]) ++ [([115, 116, 111, 112], 31)]))), .box b [.int .i64 x.kind, .string (mkS x.text), .int .i64 x.n, .int .i64 x.at_], .box rb [.slice rA0 r.toks.length rC0, .int .i64 r7.at_, .int .i64 r7.deep, .slice a5 l2.length c5, .int .i64 r7.e_], .row 39 5 a5 l2.length c5 xs7]) (m0 := m) (l' := [.slice rA0 r.toks.length rC0, .int .i64 r8.at_, .int .i64 r8.deep, .slice a6 r8.l.length c6, .int .i64 r8.e_]) (e := 39) (size := 5) (n' := r8.l.length) (c' := c6) (xs' := xs9) 2 3 rfl)
 have o := o.call2 2 3 rfl rfl (by decide) ke9 bx7 hr9 fr5
 exact ⟨r8.at_, r8.deep, r8.l, r8.e_, xs9, a6, c6, h, el15, o, (st22.trans (st23.trans (st27.trans (st28.trans (st29.trans st30)))))⟩
 refine cond_map (fun h => ?_) (fun h => ?_) h
 refine ⟨_, _, _, (o.at 2 rfl).cell rfl, ?_⟩
 obtain ⟨hi3, h⟩ := h
 obtain ⟨p3, x6, cs4, hp3, he3, hc3, hr10⟩ := row_elem (o.rowAt 3 rfl) (el1.st (st13.trans (st14.trans (st15.trans (st16.trans (st17.trans (st18.trans st20))))))) hi3
 obtain rfl := GNode_out hr10
 have h := h x6 he3
 refine ⟨hi3, ptrOr_some hp3 ?_⟩
 have hq3 := row_putp (i := i.toNat) (o.rowAt 3 rfl) (el1.st (st13.trans (st14.trans (st15.trans (st16.trans (st17.trans (st18.trans st20))))))) hp3 he3 hc3.2 rfl 0 (.int .i64 26) (by decide)
 refine ⟨hq3.1, fun w29 hw29 => ?_⟩
 obtain ⟨xs10, hr11, hg8, hel3⟩ := hq3.2 _ hw29
 have el16 := hel3 (⟨26, x6.name, x6.n, x6.kids, x6.at_⟩ : GNode) (GNode_in (⟨26, x6.name, x6.n, x6.kids, x6.at_⟩ : GNode))
 have st31 := o.xA 3 rfl hr11 hg8 (.inl rfl)
 have o := o.app 3 rfl hr11 hg8 (.inl rfl)
 have ln3 : r1.l.length = (r1.l.set i.toNat (⟨26, x6.name, x6.n, x6.kids, x6.at_⟩ : GNode)).length := row_len (o.rowAt 3 rfl) (el16.st st31)
 obtain ⟨J3, h, h2⟩ := h
 refine ⟨fun w30 => ∃ (atx3 : Int) (de3 : Int) (l3 : List GNode) (ex3 : Int) (xs11 : List Value) (a7 : Option Addr) (c7 : Nat), J3 atx3 de3 l3 ex3 ∧ El cGNode (ms [.raw b2 (mapO kStr (encM (fun x : Int => .int .i64 x) (((((([] : List (List UInt8 × Int)) ++ [([115, 108, 101, 101, 112], 27)]) ++ [([112, 114, 105, 110, 116], 28)]) ++ [([97, 115, 115, 101, 114, 116], 29)]) ++ [([115, 107, 105, 112], 30)]) ++ [([115, 116, 111, 112], 31)]))), .box b [.int .i64 x.kind, .string (mkS x.text), .int .i64 x.n, .int .i64 x.at_], .box rb [.slice rA0 r.toks.length rC0, .int .i64 atx3, .int .i64 de3, .slice a7 l3.length c7, .int .i64 ex3], .row 39 5 a7 l3.length c7 xs11] m) w30 l3 xs11 ∧ Mem w.heap.size (rb :: (Vc.blk rA).toList) m [((rb :: (Vc.blk rA).toList), w.heap.size, w)] [] w30 [.raw b2 (mapO kStr (encM (fun x : Int => .int .i64 x) (((((([] : List (List UInt8 × Int)) ++ [([115, 108, 101, 101, 112], 27)]) ++ [([112, 114, 105, 110, 116], 28)]) ++ [([97, 115, 115, 101, 114, 116], 29)]) ++ [([115, 107, 105, 112], 30)]) ++ [([115, 116, 111, 112], 31)]))), .box b [.int .i64 x.kind, .string (mkS x.text), .int .i64 x.n, .int .i64 x.at_], .box rb [.slice rA0 r.toks.length rC0, .int .i64 atx3, .int .i64 de3, .slice a7 l3.length c7, .int .i64 ex3], .row 39 5 a7 l3.length c7 xs11] ∧ Step (ms [.raw b2 (mapO kStr (encM (fun x : Int => .int .i64 x) (((((([] : List (List UInt8 × Int)) ++ [([115, 108, 101, 101, 112], 27)]) ++ [([112, 114, 105, 110, 116], 28)]) ++ [([97, 115, 115, 101, 114, 116], 29)]) ++ [([115, 107, 105, 112], 30)]) ++ [([115, 116, 111, 112], 31)]))), .box b [.int .i64 x.kind, .string (mkS x.text), .int .i64 x.n, .int .i64 x.at_], .box rb [.slice rA0 r.toks.length rC0, .int .i64 (IntKind.i64.wrap (r1.at_ + 1)), .int .i64 r1.deep, .slice a r1.l.length c, .int .i64 r1.e_], .row 39 5 a r1.l.length c xs10] m) w29 (ms [.raw b2 (mapO kStr (encM (fun x : Int => .int .i64 x) (((((([] : List (List UInt8 × Int)) ++ [([115, 108, 101, 101, 112], 27)]) ++ [([112, 114, 105, 110, 116], 28)]) ++ [([97, 115, 115, 101, 114, 116], 29)]) ++ [([115, 107, 105, 112], 30)]) ++ [([115, 116, 111, 112], 31)]))), .box b [.int .i64 x.kind, .string (mkS x.text), .int .i64 x.n, .int .i64 x.at_], .box rb [.slice rA0 r.toks.length rC0, .int .i64 atx3, .int .i64 de3, .slice a7 l3.length c7, .int .i64 ex3], .row 39 5 a7 l3.length c7 xs11] m) w30, ?_, ?_⟩
 intro w31 hw31
 obtain ⟨st33, o⟩ := o.dD hw31
 rw [ln3] at o
 try rw [ln3]
 have ox1 := o
 refine ⟨fun u => Keep [rb] w31 u ∧ u.cell? ⟨rb, 3, none⟩ = some (.slice a ((r1.l.set i.toNat (⟨26, x6.name, x6.n, x6.kids, x6.at_⟩ : GNode)).length) c), ⟨Keep.refl _ _, (o.at 2 rfl).cell (i := 3) rfl⟩, ?_⟩
 refine ⟨_, _, _, fun u hu => hu.2, ?_⟩
 refine call_then (h _ w31 (o.mo hm hrm (.head _)) _ _ _ _ _ (Mem.inms 2 rfl) (o.at 2 rfl) le_r0 (f_r0.st (st.trans (st1.trans (st2.trans (st3.trans (st4.trans (st13.trans (st14.trans (st15.trans (st16.trans (st17.trans (st18.trans (st20.trans (st31.trans st33))))))))))))))) ?_
 rintro _ w32 ⟨x7, r9, h, rfl, bx8, ke10⟩
 have st34 := o.xC (l' := [.slice rA0 r.toks.length rC0, .int .i64 r9.at_, .int .i64 r9.deep, .slice a ((r1.l.set i.toNat (⟨26, x6.name, x6.n, x6.kids, x6.at_⟩ : GNode)).length) c, .int .i64 r9.e_]) 2 ke10 rfl
 have o := o.call 2 ke10 bx8 rfl
 refine ⟨_, rfl, ?_⟩
 refine ⟨⟨(Keep.mono ke10 (by simp)), (o.at 2 rfl).cell (i := 3) rfl⟩, ?_⟩
 obtain ⟨hi4, h⟩ := h
 obtain ⟨p4, x8, cs5, hp4, he4, hc4, hr12⟩ := row_elem (o.rowAt 3 rfl) (el16.st (st31.trans (st33.trans st34))) hi4
 obtain rfl := GNode_out hr12
 have h := h x8 he4
 refine ⟨hi4, ptrOr_some hp4 ?_⟩
 have hq4 := row_putp (i := i.toNat) (o.rowAt 3 rfl) (el16.st (st31.trans (st33.trans st34))) hp4 he4 hc4.2 rfl 1 (.string (mkS x7)) (by decide)
 refine ⟨hq4.1, fun w33 hw33 => ?_⟩
 obtain ⟨xs12, hr13, hg9, hel4⟩ := hq4.2 _ hw33
 have el18 := hel4 (⟨x8.op, x7, x8.n, x8.kids, x8.at_⟩ : GNode) (GNode_in (⟨x8.op, x7, x8.n, x8.kids, x8.at_⟩ : GNode))
 have st35 := o.xA 3 rfl hr13 hg9 (.inl rfl)
 have o := o.app 3 rfl hr13 hg9 (.inl rfl)
 have ln4 : (r1.l.set i.toNat (⟨26, x6.name, x6.n, x6.kids, x6.at_⟩ : GNode)).length = ((r1.l.set i.toNat (⟨26, x6.name, x6.n, x6.kids, x6.at_⟩ : GNode)).set i.toNat (⟨x8.op, x7, x8.n, x8.kids, x8.at_⟩ : GNode)).length := row_len (o.rowAt 3 rfl) (el18.st st35)
 rw [ln4] at o
 exact ⟨r9.at_, r9.deep, ((r1.l.set i.toNat (⟨26, x6.name, x6.n, x6.kids, x6.at_⟩ : GNode)).set i.toNat (⟨x8.op, x7, x8.n, x8.kids, x8.at_⟩ : GNode)), r9.e_, xs12, a, c, h, (el18.st st35), o, (st33.trans (st34.trans st35))⟩
 rintro _ w30 ⟨atx3, de3, l3, ex3, xs11, a7, c7, hJ, el17, o, st32⟩
 have h := h2 atx3 de3 l3 ex3 hJ
 refine call_then (h _ w30 (o.mo hm hrm (.head _)) _ _ _ _ _ _ (Mem.inms 2 rfl) (o.objin 2 3 rfl rfl (by decide)) (o.at 2 rfl) (o.rowAt 3 rfl) el17 le_r0 (f_r0.st (st.trans (st1.trans (st2.trans (st3.trans (st4.trans (st13.trans (st14.trans (st15.trans (st16.trans (st17.trans (st18.trans (st20.trans (st31.trans st32))))))))))))))) ?_
 rintro _ w34 ⟨r10, h, -, ⟨a8, c8, xs13, bx9, hr14, el19, fr6⟩, ke11⟩
 have st36 := Mem.call2S (ps := [.raw b2 (mapO kStr (encM (fun x : Int => .int .i64 x) (((((([] : List (List UInt8 × Int)) ++ [([115, 108, 101, 101, 112], 27)]) ++ [([112, 114, 105, 110, 116], 28)]) ++ [([97, 115, 115, 101, 114, 116], 29)]) ++ [([115, 107, 105, 112], 30)]) ++ [([115, 116, 111, 112], 31)]))), .box b [.int .i64 x.kind, .string (mkS x.text), .int .i64 x.n, .int .i64 x.at_], .box rb [.slice rA0 r.toks.length rC0, .int .i64 atx3, .int .i64 de3, .slice a7 l3.length c7, .int .i64 ex3], .row 39 5 a7 l3.length c7 xs11]) (m0 := m) (l' := [.slice rA0 r.toks.length rC0, .int .i64 r10.at_, .int .i64 r10.deep, .slice a8 r10.l.length c8, .int .i64 r10.e_]) (n' := r10.l.length) (c' := c8) (xs' := xs13) 2 3 rfl rfl ke11 fr6
 have el20 := El.st el19 (Mem.call2D (ps := [.raw b2 (mapO kStr (encM (fun x : Int => .int .i64 x) (((((([] : List (List UInt8 × Int)) ++ [([115, 108, 101, 101, 112], 27)]) ++ [([112, 114, 105, 110, 116], 28)]) ++ [([97, 115, 115, 101, 114, 116], 29)]) ++ [([115, 107, 105, 112], 30)]) ++ [([115, 116, 111, 112], 31)]))), .box b [.int .i64 x.kind, .string (mkS x.text), .int .i64 x.n, .int .i64 x.at_], .box rb [.slice rA0 r.toks.length rC0, .int .i64 atx3, .int .i64 de3, .slice a7 l3.length c7, .int .i64 ex3], .row 39 5 a7 l3.length c7 xs11]) (m0 := m) (l' := [.slice rA0 r.toks.length rC0, .int .i64 r10.at_, .int .i64 r10.deep, .slice a8 r10.l.length c8, .int .i64 r10.e_]) (e := 39) (size := 5) (n' := r10.l.length) (c' := c8) (xs' := xs13) 2 3 rfl)
 have o := o.call2 2 3 rfl rfl (by decide) ke11 bx9 hr14 fr6
 exact ⟨r10.at_, r10.deep, r10.l, r10.e_, xs13, a8, c8, h, el20, o, (st31.trans (st32.trans st36))⟩
 obtain ⟨J4, h, h2⟩ := h
 refine ⟨fun x9 w35 => J4 x9 ∧ Mem w.heap.size (rb :: (Vc.blk rA).toList) m [((rb :: (Vc.blk rA).toList), w.heap.size, w)] [] w35 [.raw b2 (mapO kStr (encM (fun x : Int => .int .i64 x) (((((([] : List (List UInt8 × Int)) ++ [([115, 108, 101, 101, 112], 27)]) ++ [([112, 114, 105, 110, 116], 28)]) ++ [([97, 115, 115, 101, 114, 116], 29)]) ++ [([115, 107, 105, 112], 30)]) ++ [([115, 116, 111, 112], 31)]))), .box b [.int .i64 x.kind, .string (mkS x.text), .int .i64 x.n, .int .i64 x.at_], .box rb [.slice rA0 r.toks.length rC0, .int .i64 (IntKind.i64.wrap (r1.at_ + 1)), .int .i64 r1.deep, .slice a r1.l.length c, .int .i64 r1.e_], .row 39 5 a r1.l.length c xs] ∧ Step (ms [.raw b2 (mapO kStr (encM (fun x : Int => .int .i64 x) (((((([] : List (List UInt8 × Int)) ++ [([115, 108, 101, 101, 112], 27)]) ++ [([112, 114, 105, 110, 116], 28)]) ++ [([97, 115, 115, 101, 114, 116], 29)]) ++ [([115, 107, 105, 112], 30)]) ++ [([115, 116, 111, 112], 31)]))), .box b [.int .i64 x.kind, .string (mkS x.text), .int .i64 x.n, .int .i64 x.at_], .box rb [.slice rA0 r.toks.length rC0, .int .i64 (IntKind.i64.wrap (r1.at_ + 1)), .int .i64 r1.deep, .slice a r1.l.length c, .int .i64 r1.e_], .row 39 5 a r1.l.length c xs] m) w19 (ms [.raw b2 (mapO kStr (encM (fun x : Int => .int .i64 x) (((((([] : List (List UInt8 × Int)) ++ [([115, 108, 101, 101, 112], 27)]) ++ [([112, 114, 105, 110, 116], 28)]) ++ [([97, 115, 115, 101, 114, 116], 29)]) ++ [([115, 107, 105, 112], 30)]) ++ [([115, 116, 111, 112], 31)]))), .box b [.int .i64 x.kind, .string (mkS x.text), .int .i64 x.n, .int .i64 x.at_], .box rb [.slice rA0 r.toks.length rC0, .int .i64 (IntKind.i64.wrap (r1.at_ + 1)), .int .i64 r1.deep, .slice a r1.l.length c, .int .i64 r1.e_], .row 39 5 a r1.l.length c xs] m) w35, ?_, ?_⟩
 refine cond_map (fun h => ?_) (fun h => ?_) h
 exact ⟨h, o, Step.refl _ _⟩
 refine cond_map (fun h => ?_) (fun h => ?_) h
 exact ⟨h, o, Step.refl _ _⟩
 exact ⟨h, o, Step.refl _ _⟩
 rintro _ x9 w35 ⟨hJ, o, st37⟩
 have h := h2 x9 hJ
 refine cond_map (fun h => ?_) (fun h => ?_) h
 obtain ⟨J5, h, h2⟩ := h
 refine ⟨fun w36 => ∃ (l4 : List GNode) (xs14 : List Value), J5 l4 ∧ (r1.l.length = l4.length ∧ El cGNode (ms [.raw b2 (mapO kStr (encM (fun x : Int => .int .i64 x) (((((([] : List (List UInt8 × Int)) ++ [([115, 108, 101, 101, 112], 27)]) ++ [([112, 114, 105, 110, 116], 28)]) ++ [([97, 115, 115, 101, 114, 116], 29)]) ++ [([115, 107, 105, 112], 30)]) ++ [([115, 116, 111, 112], 31)]))), .box b [.int .i64 x.kind, .string (mkS x.text), .int .i64 x.n, .int .i64 x.at_], .box rb [.slice rA0 r.toks.length rC0, .int .i64 (IntKind.i64.wrap (r1.at_ + 1)), .int .i64 r1.deep, .slice a r1.l.length c, .int .i64 r1.e_], .row 39 5 a r1.l.length c xs14] m) w36 l4 xs14) ∧ Mem w.heap.size (rb :: (Vc.blk rA).toList) m [((rb :: (Vc.blk rA).toList), w.heap.size, w)] [] w36 [.raw b2 (mapO kStr (encM (fun x : Int => .int .i64 x) (((((([] : List (List UInt8 × Int)) ++ [([115, 108, 101, 101, 112], 27)]) ++ [([112, 114, 105, 110, 116], 28)]) ++ [([97, 115, 115, 101, 114, 116], 29)]) ++ [([115, 107, 105, 112], 30)]) ++ [([115, 116, 111, 112], 31)]))), .box b [.int .i64 x.kind, .string (mkS x.text), .int .i64 x.n, .int .i64 x.at_], .box rb [.slice rA0 r.toks.length rC0, .int .i64 (IntKind.i64.wrap (r1.at_ + 1)), .int .i64 r1.deep, .slice a r1.l.length c, .int .i64 r1.e_], .row 39 5 a r1.l.length c xs14] ∧ Step (ms [.raw b2 (mapO kStr (encM (fun x : Int => .int .i64 x) (((((([] : List (List UInt8 × Int)) ++ [([115, 108, 101, 101, 112], 27)]) ++ [([112, 114, 105, 110, 116], 28)]) ++ [([97, 115, 115, 101, 114, 116], 29)]) ++ [([115, 107, 105, 112], 30)]) ++ [([115, 116, 111, 112], 31)]))), .box b [.int .i64 x.kind, .string (mkS x.text), .int .i64 x.n, .int .i64 x.at_], .box rb [.slice rA0 r.toks.length rC0, .int .i64 (IntKind.i64.wrap (r1.at_ + 1)), .int .i64 r1.deep, .slice a r1.l.length c, .int .i64 r1.e_], .row 39 5 a r1.l.length c xs] m) w35 (ms [.raw b2 (mapO kStr (encM (fun x : Int => .int .i64 x) (((((([] : List (List UInt8 × Int)) ++ [([115, 108, 101, 101, 112], 27)]) ++ [([112, 114, 105, 110, 116], 28)]) ++ [([97, 115, 115, 101, 114, 116], 29)]) ++ [([115, 107, 105, 112], 30)]) ++ [([115, 116, 111, 112], 31)]))), .box b [.int .i64 x.kind, .string (mkS x.text), .int .i64 x.n, .int .i64 x.at_], .box rb [.slice rA0 r.toks.length rC0, .int .i64 (IntKind.i64.wrap (r1.at_ + 1)), .int .i64 r1.deep, .slice a r1.l.length c, .int .i64 r1.e_], .row 39 5 a r1.l.length c xs14] m) w36, ?_, ?_⟩
 intro w37 hw37
 obtain ⟨st39, o⟩ := o.dD hw37
 have ox2 := o
 refine ⟨fun u => Keep [] w37 u, Keep.refl _ _, ?_⟩
 refine ⟨_, _, _, fun u hu => ((ox2.at 2 rfl).keep hu (by simp)).cell rfl, ?_⟩
 refine ⟨_, fun u hu => ((ox2.at 1 rfl).keep hu (by simp)).cell rfl, ?_⟩
 refine map_get (E := kStr) (f := (fun x : Int => .int .i64 x)) (L := (((((([] : List (List UInt8 × Int)) ++ [([115, 108, 101, 101, 112], 27)]) ++ [([112, 114, 105, 110, 116], 28)]) ++ [([97, 115, 115, 101, 114, 116], 29)]) ++ [([115, 107, 105, 112], 30)]) ++ [([115, 116, 111, 112], 31)])) (z := 0) (o.rawAt 0 rfl) Try.underlying104 Try.underlying9 (by kernel_rfl) x.text ?_
 have h := h _ rfl
 generalize (getG (((((([] : List (List UInt8 × Int)) ++ [([115, 108, 101, 101, 112], 27)]) ++ [([112, 114, 105, 110, 116], 28)]) ++ [([97, 115, 115, 101, 114, 116], 29)]) ++ [([115, 107, 105, 112], 30)]) ++ [([115, 116, 111, 112], 31)]) x.text).getD 0 = x10 at h ⊢
 refine ⟨_, rfl, ?_⟩
 refine ⟨(Keep.refl _ _), ?_⟩
 obtain ⟨hi5, h⟩ := h
 obtain ⟨p5, x11, cs6, hp5, he5, hc5, hr15⟩ := row_elem (o.rowAt 3 rfl) (el1.st (st13.trans (st14.trans (st15.trans (st16.trans (st17.trans (st18.trans (st20.trans (st37.trans st39))))))))) hi5
 obtain rfl := GNode_out hr15
 have h := h x11 he5
 refine ⟨hi5, ptrOr_some hp5 ?_⟩
 have hq5 := row_putp (i := i.toNat) (o.rowAt 3 rfl) (el1.st (st13.trans (st14.trans (st15.trans (st16.trans (st17.trans (st18.trans (st20.trans (st37.trans st39))))))))) hp5 he5 hc5.2 rfl 0 (.int .i64 x10) (by decide)
 refine ⟨hq5.1, fun w38 hw38 => ?_⟩
 obtain ⟨xs15, hr16, hg10, hel5⟩ := hq5.2 _ hw38
 have el22 := hel5 (⟨x10, x11.name, x11.n, x11.kids, x11.at_⟩ : GNode) (GNode_in (⟨x10, x11.name, x11.n, x11.kids, x11.at_⟩ : GNode))
 have st40 := o.xA 3 rfl hr16 hg10 (.inl rfl)
 have o := o.app 3 rfl hr16 hg10 (.inl rfl)
 have ln6 : r1.l.length = (r1.l.set i.toNat (⟨x10, x11.name, x11.n, x11.kids, x11.at_⟩ : GNode)).length := row_len (o.rowAt 3 rfl) (el22.st st40)
 exact ⟨(r1.l.set i.toNat (⟨x10, x11.name, x11.n, x11.kids, x11.at_⟩ : GNode)), xs15, h, ⟨ln6, (el22.st st40)⟩, o, (st39.trans st40)⟩
 rintro _ w36 ⟨l4, xs14, hJ, ⟨ln5, el21⟩, o, st38⟩
 have h := h2 l4 hJ
 rw [ln5] at o
 try rw [ln5]
 refine call_then (h _ w36 (o.mo hm hrm (.head _)) _ _ _ _ _ _ (Mem.inms 2 rfl) (o.objin 2 3 rfl rfl (by decide)) (o.at 2 rfl) (o.rowAt 3 rfl) el21 le_r0 (f_r0.st (st.trans (st1.trans (st2.trans (st3.trans (st4.trans (st13.trans (st14.trans (st15.trans (st16.trans (st17.trans (st18.trans (st20.trans (st37.trans st38))))))))))))))) ?_
 rintro _ w39 ⟨r11, h, -, ⟨a9, c9, xs16, bx10, hr17, el23, fr7⟩, ke12⟩
 have st41 := Mem.call2S (ps := [.raw b2 (mapO kStr (encM (fun x : Int => .int .i64 x) (((((([] : List (List UInt8 × Int)) ++ [([115, 108, 101, 101, 112], 27)]) ++ [([112, 114, 105, 110, 116], 28)]) ++ [([97, 115, 115, 101, 114, 116], 29)]) ++ [([115, 107, 105, 112], 30)]) ++ [([115, 116, 111, 112], 31)]))), .box b [.int .i64 x.kind, .string (mkS x.text), .int .i64 x.n, .int .i64 x.at_], .box rb [.slice rA0 r.toks.length rC0, .int .i64 (IntKind.i64.wrap (r1.at_ + 1)), .int .i64 r1.deep, .slice a l4.length c, .int .i64 r1.e_], .row 39 5 a l4.length c xs14]) (m0 := m) (l' := [.slice rA0 r.toks.length rC0, .int .i64 r11.at_, .int .i64 r11.deep, .slice a9 r11.l.length c9, .int .i64 r11.e_]) (n' := r11.l.length) (c' := c9) (xs' := xs16) 2 3 rfl rfl ke12 fr7
 have el24 := El.st el23 (Mem.call2D (ps := [.raw b2 (mapO kStr (encM (fun x : Int => .int .i64 x) (((((([] : List (List UInt8 × Int)) ++ [([115, 108, 101, 101, 112], 27)]) ++ [([112, 114, 105, 110, 116], 28)]) ++ [([97, 115, 115, 101, 114, 116], 29)]) ++ [([115, 107, 105, 112], 30)]) ++ [([115, 116, 111, 112], 31)]))), .box b [.int .i64 x.kind, .string (mkS x.text), .int .i64 x.n, .int .i64 x.at_], .box rb [.slice rA0 r.toks.length rC0, .int .i64 (IntKind.i64.wrap (r1.at_ + 1)), .int .i64 r1.deep, .slice a l4.length c, .int .i64 r1.e_], .row 39 5 a l4.length c xs14]) (m0 := m) (l' := [.slice rA0 r.toks.length rC0, .int .i64 r11.at_, .int .i64 r11.deep, .slice a9 r11.l.length c9, .int .i64 r11.e_]) (e := 39) (size := 5) (n' := r11.l.length) (c' := c9) (xs' := xs16) 2 3 rfl)
 have o := o.call2 2 3 rfl rfl (by decide) ke12 bx10 hr17 fr7
 exact ⟨r11.at_, r11.deep, r11.l, r11.e_, xs16, a9, c9, h, el24, o, (st37.trans (st38.trans st41))⟩
 obtain ⟨J6, h, h2⟩ := h
 refine ⟨fun x12 w40 => J6 x12 ∧ Mem w.heap.size (rb :: (Vc.blk rA).toList) m [((rb :: (Vc.blk rA).toList), w.heap.size, w)] [] w40 [.raw b2 (mapO kStr (encM (fun x : Int => .int .i64 x) (((((([] : List (List UInt8 × Int)) ++ [([115, 108, 101, 101, 112], 27)]) ++ [([112, 114, 105, 110, 116], 28)]) ++ [([97, 115, 115, 101, 114, 116], 29)]) ++ [([115, 107, 105, 112], 30)]) ++ [([115, 116, 111, 112], 31)]))), .box b [.int .i64 x.kind, .string (mkS x.text), .int .i64 x.n, .int .i64 x.at_], .box rb [.slice rA0 r.toks.length rC0, .int .i64 (IntKind.i64.wrap (r1.at_ + 1)), .int .i64 r1.deep, .slice a r1.l.length c, .int .i64 r1.e_], .row 39 5 a r1.l.length c xs] ∧ Step (ms [.raw b2 (mapO kStr (encM (fun x : Int => .int .i64 x) (((((([] : List (List UInt8 × Int)) ++ [([115, 108, 101, 101, 112], 27)]) ++ [([112, 114, 105, 110, 116], 28)]) ++ [([97, 115, 115, 101, 114, 116], 29)]) ++ [([115, 107, 105, 112], 30)]) ++ [([115, 116, 111, 112], 31)]))), .box b [.int .i64 x.kind, .string (mkS x.text), .int .i64 x.n, .int .i64 x.at_], .box rb [.slice rA0 r.toks.length rC0, .int .i64 (IntKind.i64.wrap (r1.at_ + 1)), .int .i64 r1.deep, .slice a r1.l.length c, .int .i64 r1.e_], .row 39 5 a r1.l.length c xs] m) w35 (ms [.raw b2 (mapO kStr (encM (fun x : Int => .int .i64 x) (((((([] : List (List UInt8 × Int)) ++ [([115, 108, 101, 101, 112], 27)]) ++ [([112, 114, 105, 110, 116], 28)]) ++ [([97, 115, 115, 101, 114, 116], 29)]) ++ [([115, 107, 105, 112], 30)]) ++ [([115, 116, 111, 112], 31)]))), .box b [.int .i64 x.kind, .string (mkS x.text), .int .i64 x.n, .int .i64 x.at_], .box rb [.slice rA0 r.toks.length rC0, .int .i64 (IntKind.i64.wrap (r1.at_ + 1)), .int .i64 r1.deep, .slice a r1.l.length c, .int .i64 r1.e_], .row 39 5 a r1.l.length c xs] m) w40, ?_, ?_⟩
 refine cond_map (fun h => ?_) (fun h => ?_) h
 exact ⟨h, o, Step.refl _ _⟩
 exact ⟨h, o, Step.refl _ _⟩
 rintro _ x12 w40 ⟨hJ, o, st42⟩
 have h := h2 x12 hJ
 refine cond_map (fun h => ?_) (fun h => ?_) h
 intro w41 hw41
 obtain ⟨st43, o⟩ := o.dD hw41
 have ox3 := o
 refine ⟨fun u => Keep [] w41 u, Keep.refl _ _, ?_⟩
 refine ⟨_, _, _, fun u hu => ((ox3.at 2 rfl).keep hu (by simp)).cell rfl, ?_⟩
 refine ⟨_, fun u hu => ((ox3.at 1 rfl).keep hu (by simp)).cell rfl, ?_⟩
 refine map_get (E := kStr) (f := (fun x : Int => .int .i64 x)) (L := (((((([] : List (List UInt8 × Int)) ++ [([115, 108, 101, 101, 112], 27)]) ++ [([112, 114, 105, 110, 116], 28)]) ++ [([97, 115, 115, 101, 114, 116], 29)]) ++ [([115, 107, 105, 112], 30)]) ++ [([115, 116, 111, 112], 31)])) (z := 0) (o.rawAt 0 rfl) Try.underlying104 Try.underlying9 (by kernel_rfl) x.text ?_
 have h := h _ rfl
 generalize (getG (((((([] : List (List UInt8 × Int)) ++ [([115, 108, 101, 101, 112], 27)]) ++ [([112, 114, 105, 110, 116], 28)]) ++ [([97, 115, 115, 101, 114, 116], 29)]) ++ [([115, 107, 105, 112], 30)]) ++ [([115, 116, 111, 112], 31)]) x.text).getD 0 = x13 at h ⊢
 refine ⟨_, rfl, ?_⟩
 refine ⟨(Keep.refl _ _), ?_⟩
 obtain ⟨hi6, h⟩ := h
 obtain ⟨p6, x14, cs7, hp6, he6, hc6, hr18⟩ := row_elem (o.rowAt 3 rfl) (el1.st (st13.trans (st14.trans (st15.trans (st16.trans (st17.trans (st18.trans (st20.trans (st37.trans (st42.trans st43)))))))))) hi6
 obtain rfl := GNode_out hr18
 have h := h x14 he6
 refine ⟨hi6, ptrOr_some hp6 ?_⟩
 have hq6 := row_putp (i := i.toNat) (o.rowAt 3 rfl) (el1.st (st13.trans (st14.trans (st15.trans (st16.trans (st17.trans (st18.trans (st20.trans (st37.trans (st42.trans st43)))))))))) hp6 he6 hc6.2 rfl 0 (.int .i64 x13) (by decide)
 refine ⟨hq6.1, fun w42 hw42 => ?_⟩
 obtain ⟨xs17, hr19, hg11, hel6⟩ := hq6.2 _ hw42
 have el25 := hel6 (⟨x13, x14.name, x14.n, x14.kids, x14.at_⟩ : GNode) (GNode_in (⟨x13, x14.name, x14.n, x14.kids, x14.at_⟩ : GNode))
 have st44 := o.xA 3 rfl hr19 hg11 (.inl rfl)
 have o := o.app 3 rfl hr19 hg11 (.inl rfl)
 have ln7 : r1.l.length = (r1.l.set i.toNat (⟨x13, x14.name, x14.n, x14.kids, x14.at_⟩ : GNode)).length := row_len (o.rowAt 3 rfl) (el25.st st44)
 rw [ln7] at o
 exact ⟨(IntKind.i64.wrap (r1.at_ + 1)), r1.deep, (r1.l.set i.toNat (⟨x13, x14.name, x14.n, x14.kids, x14.at_⟩ : GNode)), r1.e_, xs17, a, c, h, (el25.st st44), o, (st37.trans (st42.trans (st43.trans st44)))⟩
 refine cond_map (fun h => ?_) (fun h => ?_) h
 refine ⟨_, _, _, (o.at 2 rfl).cell rfl, ?_⟩
 obtain ⟨hi7, h⟩ := h
 obtain ⟨p7, x15, cs8, hp7, he7, hc7, hr20⟩ := row_elem (o.rowAt 3 rfl) (el1.st (st13.trans (st14.trans (st15.trans (st16.trans (st17.trans (st18.trans (st20.trans (st37.trans st42))))))))) hi7
 obtain rfl := GNode_out hr20
 have h := h x15 he7
 refine ⟨hi7, ptrOr_some hp7 ?_⟩
 have hq7 := row_putp (i := i.toNat) (o.rowAt 3 rfl) (el1.st (st13.trans (st14.trans (st15.trans (st16.trans (st17.trans (st18.trans (st20.trans (st37.trans st42))))))))) hp7 he7 hc7.2 rfl 0 (.int .i64 23) (by decide)
 refine ⟨hq7.1, fun w43 hw43 => ?_⟩
 obtain ⟨xs18, hr21, hg12, hel7⟩ := hq7.2 _ hw43
 have el26 := hel7 (⟨23, x15.name, x15.n, x15.kids, x15.at_⟩ : GNode) (GNode_in (⟨23, x15.name, x15.n, x15.kids, x15.at_⟩ : GNode))
 have st45 := o.xA 3 rfl hr21 hg12 (.inl rfl)
 have o := o.app 3 rfl hr21 hg12 (.inl rfl)
 have ln8 : r1.l.length = (r1.l.set i.toNat (⟨23, x15.name, x15.n, x15.kids, x15.at_⟩ : GNode)).length := row_len (o.rowAt 3 rfl) (el26.st st45)
 rw [ln8] at o
 try rw [ln8]
 refine call_then (h _ w43 (o.mo hm hrm (.head _)) _ _ _ _ _ _ (Mem.inms 2 rfl) (o.objin 2 3 rfl rfl (by decide)) (o.at 2 rfl) (o.rowAt 3 rfl) (el26.st st45) le_r0 (f_r0.st (st.trans (st1.trans (st2.trans (st3.trans (st4.trans (st13.trans (st14.trans (st15.trans (st16.trans (st17.trans (st18.trans (st20.trans (st37.trans (st42.trans st45)))))))))))))))) ?_
 rintro _ w44 ⟨r12, h, -, ⟨a10, c10, xs19, bx11, hr22, el27, fr8⟩, ke13⟩
 have st46 := Mem.call2S (ps := [.raw b2 (mapO kStr (encM (fun x : Int => .int .i64 x) (((((([] : List (List UInt8 × Int)) ++ [([115, 108, 101, 101, 112], 27)]) ++ [([112, 114, 105, 110, 116], 28)]) ++ [([97, 115, 115, 101, 114, 116], 29)]) ++ [([115, 107, 105, 112], 30)]) ++ [([115, 116, 111, 112], 31)]))), .box b [.int .i64 x.kind, .string (mkS x.text), .int .i64 x.n, .int .i64 x.at_], .box rb [.slice rA0 r.toks.length rC0, .int .i64 (IntKind.i64.wrap (r1.at_ + 1)), .int .i64 r1.deep, .slice a ((r1.l.set i.toNat (⟨23, x15.name, x15.n, x15.kids, x15.at_⟩ : GNode)).length) c, .int .i64 r1.e_], .row 39 5 a ((r1.l.set i.toNat (⟨23, x15.name, x15.n, x15.kids, x15.at_⟩ : GNode)).length) c xs18]) (m0 := m) (l' := [.slice rA0 r.toks.length rC0, .int .i64 r12.at_, .int .i64 r12.deep, .slice a10 r12.l.length c10, .int .i64 r12.e_]) (n' := r12.l.length) (c' := c10) (xs' := xs19) 2 3 rfl rfl ke13 fr8
 have el28 := El.st el27 (Mem.call2D (ps := [.raw b2 (mapO kStr (encM (fun x : Int => .int .i64 x) (((((([] : List (List UInt8 × Int)) ++ [([115, 108, 101, 101, 112], 27)]) ++ [([112, 114, 105, 110, 116], 28)]) ++ [([97, 115, 115, 101, 114, 116], 29)]) ++ [([115, 107, 105, 112], 30)]) ++ [([115, 116, 111, 112], 31)]))), .box b [.int .i64 x.kind, .string (mkS x.text), .int .i64 x.n, .int .i64 x.at_], .box rb [.slice rA0 r.toks.length rC0, .int .i64 (IntKind.i64.wrap (r1.at_ + 1)), .int .i64 r1.deep, .slice a ((r1.l.set i.toNat (⟨23, x15.name, x15.n, x15.kids, x15.at_⟩ : GNode)).length) c, .int .i64 r1.e_], .row 39 5 a ((r1.l.set i.toNat (⟨23, x15.name, x15.n, x15.kids, x15.at_⟩ : GNode)).length) c xs18]) (m0 := m) (l' := [.slice rA0 r.toks.length rC0, .int .i64 r12.at_, .int .i64 r12.deep, .slice a10 r12.l.length c10, .int .i64 r12.e_]) (e := 39) (size := 5) (n' := r12.l.length) (c' := c10) (xs' := xs19) 2 3 rfl)
 have o := o.call2 2 3 rfl rfl (by decide) ke13 bx11 hr22 fr8
 refine call_then (h _ w44 (o.mo hm hrm (.head _)) _ _ _ _ _ _ (Mem.inms 2 rfl) (o.objin 2 3 rfl rfl (by decide)) (o.at 2 rfl) (o.rowAt 3 rfl) el28 le_r0 (f_r0.st (st.trans (st1.trans (st2.trans (st3.trans (st4.trans (st13.trans (st14.trans (st15.trans (st16.trans (st17.trans (st18.trans (st20.trans (st37.trans (st42.trans (st45.trans st46))))))))))))))))) ?_
 rintro _ w45 ⟨r13, h, -, ⟨a11, c11, xs20, bx12, hr23, el29, fr9⟩, ke14⟩
 have st47 := Mem.call2S (ps := [.raw b2 (mapO kStr (encM (fun x : Int => .int .i64 x) (((((([] : List (List UInt8 × Int)) ++ [([115, 108, 101, 101, 112], 27)]) ++ [([112, 114, 105, 110, 116], 28)]) ++ [([97, 115, 115, 101, 114, 116], 29)]) ++ [([115, 107, 105, 112], 30)]) ++ [([115, 116, 111, 112], 31)]))), .box b [.int .i64 x.kind, .string (mkS x.text), .int .i64 x.n, .int .i64 x.at_], .box rb [.slice rA0 r.toks.length rC0, .int .i64 r12.at_, .int .i64 r12.deep, .slice a10 r12.l.length c10, .int .i64 r12.e_], .row 39 5 a10 r12.l.length c10 xs19]) (m0 := m) (l' := [.slice rA0 r.toks.length rC0, .int .i64 r13.at_, .int .i64 r13.deep, .slice a11 r13.l.length c11, .int .i64 r13.e_]) (n' := r13.l.length) (c' := c11) (xs' := xs20) 2 3 rfl rfl ke14 fr9
 have el30 := El.st el29 (Mem.call2D (ps := [.raw b2 (mapO kStr (encM (fun x : Int => .int .i64 x) (((((([] : List (List UInt8 × Int)) ++ [([115, 108, 101, 101, 112], 27)]) ++ [([112, 114, 105, 110, 116], 28)]) ++ [([97, 115, 115, 101, 114, 116], 29)]) ++ [([115, 107, 105, 112], 30)]) ++ [([115, 116, 111, 112], 31)]))), .box b [.int .i64 x.kind, .string (mkS x.text), .int .i64 x.n, .int .i64 x.at_], .box rb [.slice rA0 r.toks.length rC0, .int .i64 r12.at_, .int .i64 r12.deep, .slice a10 r12.l.length c10, .int .i64 r12.e_], .row 39 5 a10 r12.l.length c10 xs19]) (m0 := m) (l' := [.slice rA0 r.toks.length rC0, .int .i64 r13.at_, .int .i64 r13.deep, .slice a11 r13.l.length c11, .int .i64 r13.e_]) (e := 39) (size := 5) (n' := r13.l.length) (c' := c11) (xs' := xs20) 2 3 rfl)
 have o := o.call2 2 3 rfl rfl (by decide) ke14 bx12 hr23 fr9
 refine call_then (h _ w45 (o.mo hm hrm (.head _)) _ _ _ _ _ (Mem.inms 2 rfl) (o.at 2 rfl) le_r0 (f_r0.st (st.trans (st1.trans (st2.trans (st3.trans (st4.trans (st13.trans (st14.trans (st15.trans (st16.trans (st17.trans (st18.trans (st20.trans (st37.trans (st42.trans (st45.trans (st46.trans st47)))))))))))))))))) ?_
 rintro _ w46 ⟨x16, r14, h, rfl, bx13, ke15⟩
 have st48 := o.xC (l' := [.slice rA0 r.toks.length rC0, .int .i64 r14.at_, .int .i64 r14.deep, .slice a11 r13.l.length c11, .int .i64 r14.e_]) 2 ke15 rfl
 have o := o.call 2 ke15 bx13 rfl
 refine ⟨_, rfl, ?_⟩
 refine cond_map (fun h => ?_) (fun h => ?_) h
 refine call_then (h _ w46 (o.mo hm hrm (.head _)) _ _ _ _ _ _ (Mem.inms 2 rfl) (o.objin 2 3 rfl rfl (by decide)) (o.at 2 rfl) (o.rowAt 3 rfl) (el30.st st48) le_r0 (f_r0.st (st.trans (st1.trans (st2.trans (st3.trans (st4.trans (st13.trans (st14.trans (st15.trans (st16.trans (st17.trans (st18.trans (st20.trans (st37.trans (st42.trans (st45.trans (st46.trans (st47.trans st48))))))))))))))))))) ?_
 rintro _ w47 ⟨r15, h, -, ⟨a12, c12, xs21, bx14, hr24, el31, fr10⟩, ke16⟩
 have st49 := Mem.call2S (ps := [.raw b2 (mapO kStr (encM (fun x : Int => .int .i64 x) (((((([] : List (List UInt8 × Int)) ++ [([115, 108, 101, 101, 112], 27)]) ++ [([112, 114, 105, 110, 116], 28)]) ++ [([97, 115, 115, 101, 114, 116], 29)]) ++ [([115, 107, 105, 112], 30)]) ++ [([115, 116, 111, 112], 31)]))), .box b [.int .i64 x.kind, .string (mkS x.text), .int .i64 x.n, .int .i64 x.at_], .box rb [.slice rA0 r.toks.length rC0, .int .i64 r14.at_, .int .i64 r14.deep, .slice a11 r13.l.length c11, .int .i64 r14.e_], .row 39 5 a11 r13.l.length c11 xs20]) (m0 := m) (l' := [.slice rA0 r.toks.length rC0, .int .i64 r15.at_, .int .i64 r15.deep, .slice a12 r15.l.length c12, .int .i64 r15.e_]) (n' := r15.l.length) (c' := c12) (xs' := xs21) 2 3 rfl rfl ke16 fr10
 have el32 := El.st el31 (Mem.call2D (ps := [.raw b2 (mapO kStr (encM (fun x : Int => .int .i64 x) (((((([] : List (List UInt8 × Int)) ++ [([115, 108, 101, 101, 112], 27)]) ++ [([112, 114, 105, 110, 116], 28)]) ++ [([97, 115, 115, 101, 114, 116], 29)]) ++ [([115, 107, 105, 112], 30)]) ++ [([115, 116, 111, 112], 31)]))), .box b [.int .i64 x.kind, .string (mkS x.text), .int .i64 x.n, .int .i64 x.at_], .box rb [.slice rA0 r.toks.length rC0, .int .i64 r14.at_, .int .i64 r14.deep, .slice a11 r13.l.length c11, .int .i64 r14.e_], .row 39 5 a11 r13.l.length c11 xs20]) (m0 := m) (l' := [.slice rA0 r.toks.length rC0, .int .i64 r15.at_, .int .i64 r15.deep, .slice a12 r15.l.length c12, .int .i64 r15.e_]) (e := 39) (size := 5) (n' := r15.l.length) (c' := c12) (xs' := xs21) 2 3 rfl)
 have o := o.call2 2 3 rfl rfl (by decide) ke16 bx14 hr24 fr10
 exact ⟨(⟨r.toks, r15.at_, r15.deep, r15.l, r15.e_⟩ : Gparse_reader), h, trivial, ⟨_, _, _, o.at 2 rfl, o.rowAt 3 rfl, (el32.st (Mem.endRS (w := w47) (ps := [.raw b2 (mapO kStr (encM (fun x : Int => .int .i64 x) (((((([] : List (List UInt8 × Int)) ++ [([115, 108, 101, 101, 112], 27)]) ++ [([112, 114, 105, 110, 116], 28)]) ++ [([97, 115, 115, 101, 114, 116], 29)]) ++ [([115, 107, 105, 112], 30)]) ++ [([115, 116, 111, 112], 31)]))), .box b [.int .i64 x.kind, .string (mkS x.text), .int .i64 x.n, .int .i64 x.at_], .box rb [.slice rA0 r.toks.length rC0, .int .i64 r15.at_, .int .i64 r15.deep, .slice a12 r15.l.length c12, .int .i64 r15.e_], .row 39 5 a12 r15.l.length c12 xs21]) (m0 := m) 3 rfl)), o.oldnew 3 rfl 2 rfl (by decide)⟩, o.done⟩
 exact ⟨(⟨r.toks, r14.at_, r14.deep, r13.l, r14.e_⟩ : Gparse_reader), h, trivial, ⟨_, _, _, o.at 2 rfl, o.rowAt 3 rfl, (el30.st (st48.trans (Mem.endRS (w := w46) (ps := [.raw b2 (mapO kStr (encM (fun x : Int => .int .i64 x) (((((([] : List (List UInt8 × Int)) ++ [([115, 108, 101, 101, 112], 27)]) ++ [([112, 114, 105, 110, 116], 28)]) ++ [([97, 115, 115, 101, 114, 116], 29)]) ++ [([115, 107, 105, 112], 30)]) ++ [([115, 116, 111, 112], 31)]))), .box b [.int .i64 x.kind, .string (mkS x.text), .int .i64 x.n, .int .i64 x.at_], .box rb [.slice rA0 r.toks.length rC0, .int .i64 r14.at_, .int .i64 r14.deep, .slice a11 r13.l.length c11, .int .i64 r14.e_], .row 39 5 a11 r13.l.length c11 xs20]) (m0 := m) 3 rfl))), o.oldnew 3 rfl 2 rfl (by decide)⟩, o.done⟩
 refine cond_map (fun h => ?_) (fun h => ?_) h
 refine ⟨_, _, _, (o.at 2 rfl).cell rfl, ?_⟩
 obtain ⟨hi8, h⟩ := h
 obtain ⟨p8, x17, cs9, hp8, he8, hc8, hr25⟩ := row_elem (o.rowAt 3 rfl) (el1.st (st13.trans (st14.trans (st15.trans (st16.trans (st17.trans (st18.trans (st20.trans (st37.trans st42))))))))) hi8
 obtain rfl := GNode_out hr25
 have h := h x17 he8
 refine ⟨hi8, ptrOr_some hp8 ?_⟩
 have hq8 := row_putp (i := i.toNat) (o.rowAt 3 rfl) (el1.st (st13.trans (st14.trans (st15.trans (st16.trans (st17.trans (st18.trans (st20.trans (st37.trans st42))))))))) hp8 he8 hc8.2 rfl 0 (.int .i64 24) (by decide)
 refine ⟨hq8.1, fun w48 hw48 => ?_⟩
 obtain ⟨xs22, hr26, hg13, hel8⟩ := hq8.2 _ hw48
 have el33 := hel8 (⟨24, x17.name, x17.n, x17.kids, x17.at_⟩ : GNode) (GNode_in (⟨24, x17.name, x17.n, x17.kids, x17.at_⟩ : GNode))
 have st50 := o.xA 3 rfl hr26 hg13 (.inl rfl)
 have o := o.app 3 rfl hr26 hg13 (.inl rfl)
 have ln9 : r1.l.length = (r1.l.set i.toNat (⟨24, x17.name, x17.n, x17.kids, x17.at_⟩ : GNode)).length := row_len (o.rowAt 3 rfl) (el33.st st50)
 rw [ln9] at o
 try rw [ln9]
 refine call_then (h _ w48 (o.mo hm hrm (.head _)) _ _ _ _ _ _ (Mem.inms 2 rfl) (o.objin 2 3 rfl rfl (by decide)) (o.at 2 rfl) (o.rowAt 3 rfl) (el33.st st50) le_r0 (f_r0.st (st.trans (st1.trans (st2.trans (st3.trans (st4.trans (st13.trans (st14.trans (st15.trans (st16.trans (st17.trans (st18.trans (st20.trans (st37.trans (st42.trans st50)))))))))))))))) ?_
 rintro _ w49 ⟨r16, h, -, ⟨a13, c13, xs23, bx15, hr27, el34, fr11⟩, ke17⟩
 have st51 := Mem.call2S (ps := [.raw b2 (mapO kStr (encM (fun x : Int => .int .i64 x) (((((([] : List (List UInt8 × Int)) ++ [([115, 108, 101, 101, 112], 27)]) ++ [([112, 114, 105, 110, 116], 28)]) ++ [([97, 115, 115, 101, 114, 116], 29)]) ++ [([115, 107, 105, 112], 30)]) ++ [([115, 116, 111, 112], 31)]))), .box b [.int .i64 x.kind, .string (mkS x.text), .int .i64 x.n, .int .i64 x.at_], .box rb [.slice rA0 r.toks.length rC0, .int .i64 (IntKind.i64.wrap (r1.at_ + 1)), .int .i64 r1.deep, .slice a ((r1.l.set i.toNat (⟨24, x17.name, x17.n, x17.kids, x17.at_⟩ : GNode)).length) c, .int .i64 r1.e_], .row 39 5 a ((r1.l.set i.toNat (⟨24, x17.name, x17.n, x17.kids, x17.at_⟩ : GNode)).length) c xs22]) (m0 := m) (l' := [.slice rA0 r.toks.length rC0, .int .i64 r16.at_, .int .i64 r16.deep, .slice a13 r16.l.length c13, .int .i64 r16.e_]) (n' := r16.l.length) (c' := c13) (xs' := xs23) 2 3 rfl rfl ke17 fr11
 have el35 := El.st el34 (Mem.call2D (ps := [.raw b2 (mapO kStr (encM (fun x : Int => .int .i64 x) (((((([] : List (List UInt8 × Int)) ++ [([115, 108, 101, 101, 112], 27)]) ++ [([112, 114, 105, 110, 116], 28)]) ++ [([97, 115, 115, 101, 114, 116], 29)]) ++ [([115, 107, 105, 112], 30)]) ++ [([115, 116, 111, 112], 31)]))), .box b [.int .i64 x.kind, .string (mkS x.text), .int .i64 x.n, .int .i64 x.at_], .box rb [.slice rA0 r.toks.length rC0, .int .i64 (IntKind.i64.wrap (r1.at_ + 1)), .int .i64 r1.deep, .slice a ((r1.l.set i.toNat (⟨24, x17.name, x17.n, x17.kids, x17.at_⟩ : GNode)).length) c, .int .i64 r1.e_], .row 39 5 a ((r1.l.set i.toNat (⟨24, x17.name, x17.n, x17.kids, x17.at_⟩ : GNode)).length) c xs22]) (m0 := m) (l' := [.slice rA0 r.toks.length rC0, .int .i64 r16.at_, .int .i64 r16.deep, .slice a13 r16.l.length c13, .int .i64 r16.e_]) (e := 39) (size := 5) (n' := r16.l.length) (c' := c13) (xs' := xs23) 2 3 rfl)
 have o := o.call2 2 3 rfl rfl (by decide) ke17 bx15 hr27 fr11
 refine call_then (h _ w49 (o.mo hm hrm (.head _)) _ _ _ _ _ _ (Mem.inms 2 rfl) (o.objin 2 3 rfl rfl (by decide)) (o.at 2 rfl) (o.rowAt 3 rfl) el35 le_r0 (f_r0.st (st.trans (st1.trans (st2.trans (st3.trans (st4.trans (st13.trans (st14.trans (st15.trans (st16.trans (st17.trans (st18.trans (st20.trans (st37.trans (st42.trans (st50.trans st51))))))))))))))))) ?_
 rintro _ w50 ⟨r17, h, -, ⟨a14, c14, xs24, bx16, hr28, el36, fr12⟩, ke18⟩
 have st52 := Mem.call2S (ps := [.raw b2 (mapO kStr (encM (fun x : Int => .int .i64 x) (((((([] : List (List UInt8 × Int)) ++ [([115, 108, 101, 101, 112], 27)]) ++ [([112, 114, 105, 110, 116], 28)]) ++ [([97, 115, 115, 101, 114, 116], 29)]) ++ [([115, 107, 105, 112], 30)]) ++ [([115, 116, 111, 112], 31)]))), .box b [.int .i64 x.kind, .string (mkS x.text), .int .i64 x.n, .int .i64 x.at_], .box rb [.slice rA0 r.toks.length rC0, .int .i64 r16.at_, .int .i64 r16.deep, .slice a13 r16.l.length c13, .int .i64 r16.e_], .row 39 5 a13 r16.l.length c13 xs23]) (m0 := m) (l' := [.slice rA0 r.toks.length rC0, .int .i64 r17.at_, .int .i64 r17.deep, .slice a14 r17.l.length c14, .int .i64 r17.e_]) (n' := r17.l.length) (c' := c14) (xs' := xs24) 2 3 rfl rfl ke18 fr12
 have el37 := El.st el36 (Mem.call2D (ps := [.raw b2 (mapO kStr (encM (fun x : Int => .int .i64 x) (((((([] : List (List UInt8 × Int)) ++ [([115, 108, 101, 101, 112], 27)]) ++ [([112, 114, 105, 110, 116], 28)]) ++ [([97, 115, 115, 101, 114, 116], 29)]) ++ [([115, 107, 105, 112], 30)]) ++ [([115, 116, 111, 112], 31)]))), .box b [.int .i64 x.kind, .string (mkS x.text), .int .i64 x.n, .int .i64 x.at_], .box rb [.slice rA0 r.toks.length rC0, .int .i64 r16.at_, .int .i64 r16.deep, .slice a13 r16.l.length c13, .int .i64 r16.e_], .row 39 5 a13 r16.l.length c13 xs23]) (m0 := m) (l' := [.slice rA0 r.toks.length rC0, .int .i64 r17.at_, .int .i64 r17.deep, .slice a14 r17.l.length c14, .int .i64 r17.e_]) (e := 39) (size := 5) (n' := r17.l.length) (c' := c14) (xs' := xs24) 2 3 rfl)
 have o := o.call2 2 3 rfl rfl (by decide) ke18 bx16 hr28 fr12
 exact ⟨(⟨r.toks, r17.at_, r17.deep, r17.l, r17.e_⟩ : Gparse_reader), h, trivial, ⟨_, _, _, o.at 2 rfl, o.rowAt 3 rfl, (el37.st (Mem.endRS (w := w50) (ps := [.raw b2 (mapO kStr (encM (fun x : Int => .int .i64 x) (((((([] : List (List UInt8 × Int)) ++ [([115, 108, 101, 101, 112], 27)]) ++ [([112, 114, 105, 110, 116], 28)]) ++ [([97, 115, 115, 101, 114, 116], 29)]) ++ [([115, 107, 105, 112], 30)]) ++ [([115, 116, 111, 112], 31)]))), .box b [.int .i64 x.kind, .string (mkS x.text), .int .i64 x.n, .int .i64 x.at_], .box rb [.slice rA0 r.toks.length rC0, .int .i64 r17.at_, .int .i64 r17.deep, .slice a14 r17.l.length c14, .int .i64 r17.e_], .row 39 5 a14 r17.l.length c14 xs24]) (m0 := m) 3 rfl)), o.oldnew 3 rfl 2 rfl (by decide)⟩, o.done⟩
 refine cond_map (fun h => ?_) (fun h => ?_) h
 refine ⟨_, _, _, (o.at 2 rfl).cell rfl, ?_⟩
 obtain ⟨hi9, h⟩ := h
 obtain ⟨p9, x18, cs10, hp9, he9, hc9, hr29⟩ := row_elem (o.rowAt 3 rfl) (el1.st (st13.trans (st14.trans (st15.trans (st16.trans (st17.trans (st18.trans (st20.trans (st37.trans st42))))))))) hi9
 obtain rfl := GNode_out hr29
 have h := h x18 he9
 refine ⟨hi9, ptrOr_some hp9 ?_⟩
 have hq9 := row_putp (i := i.toNat) (o.rowAt 3 rfl) (el1.st (st13.trans (st14.trans (st15.trans (st16.trans (st17.trans (st18.trans (st20.trans (st37.trans st42))))))))) hp9 he9 hc9.2 rfl 0 (.int .i64 25) (by decide)
 refine ⟨hq9.1, fun w51 hw51 => ?_⟩
 obtain ⟨xs25, hr30, hg14, hel9⟩ := hq9.2 _ hw51
 have el38 := hel9 (⟨25, x18.name, x18.n, x18.kids, x18.at_⟩ : GNode) (GNode_in (⟨25, x18.name, x18.n, x18.kids, x18.at_⟩ : GNode))
 have st53 := o.xA 3 rfl hr30 hg14 (.inl rfl)
 have o := o.app 3 rfl hr30 hg14 (.inl rfl)
 have ln10 : r1.l.length = (r1.l.set i.toNat (⟨25, x18.name, x18.n, x18.kids, x18.at_⟩ : GNode)).length := row_len (o.rowAt 3 rfl) (el38.st st53)
 intro b4 w52 hb4 hw52
 have el39 : El cStr (ms [.raw b2 (mapO kStr (encM (fun x : Int => .int .i64 x) (((((([] : List (List UInt8 × Int)) ++ [([115, 108, 101, 101, 112], 27)]) ++ [([112, 114, 105, 110, 116], 28)]) ++ [([97, 115, 115, 101, 114, 116], 29)]) ++ [([115, 107, 105, 112], 30)]) ++ [([115, 116, 111, 112], 31)]))), .box b [.int .i64 x.kind, .string (mkS x.text), .int .i64 x.n, .int .i64 x.at_], .box rb [.slice rA0 r.toks.length rC0, .int .i64 (IntKind.i64.wrap (r1.at_ + 1)), .int .i64 r1.deep, .slice a r1.l.length c, .int .i64 r1.e_], .row 39 5 a r1.l.length c xs25] m) w51 ([[123]] : List (List UInt8)) ([.string (mkS [123])] : List Value) := (El.cons (cs := [.string (mkS [123])]) rfl (El.nil _ _ _))
 have fr13 : w.heap.size ≤ b4 := hb4 ▸ o.le
 have st54 := o.xL hb4 hw52 1 1
 have o := o.lit hb4 hw52 1 1 (by decide) rfl
 have le2 := (o.rowAt 0 rfl).cap
 have st55 := o.xX 0
 have f3 := o.freeze (c := cStr) (l := ([[123]] : List (List UInt8))) 0 rfl (fun q hq h => by have := hrs_ q hq; have := fr13; simp [Vc.blk] at h; omega) (el39.st (st54.trans st55))
 have o := o.erase 0
 rw [ln10] at o
 try rw [ln10]
 refine call_then (h _ w52 (o.mo hm hrm (.head _)) _ _ _ _ _ (Mem.inms 2 rfl) (o.at 2 rfl) le_r0 (f_r0.st (st.trans (st1.trans (st2.trans (st3.trans (st4.trans (st13.trans (st14.trans (st15.trans (st16.trans (st17.trans (st18.trans (st20.trans (st37.trans (st42.trans (st53.trans (st54.trans st55))))))))))))))))) _ _ le2 f3) ?_
 rintro _ w53 ⟨r18, h, -, bx17, ke19⟩
 have st56 := o.xC (l' := [.slice rA0 r.toks.length rC0, .int .i64 r18.at_, .int .i64 r18.deep, .slice a ((r1.l.set i.toNat (⟨25, x18.name, x18.n, x18.kids, x18.at_⟩ : GNode)).length) c, .int .i64 r18.e_]) 2 ke19 rfl
 have o := o.call 2 ke19 bx17 rfl
 obtain ⟨I, ⟨n2, h⟩, h2⟩ := h
 obtain ⟨Z, hZ⟩ : ∃ Z : World → Nat → Prop, Z = fun w54 n => ∃ (atx4 : Int) (de4 : Int) (l5 : List GNode) (ex4 : Int) (xs26 : List Value) (a15 : Option Addr) (c15 : Nat), I atx4 de4 l5 ex4 n ∧ El cGNode (ms [.raw b2 (mapO kStr (encM (fun x : Int => .int .i64 x) (((((([] : List (List UInt8 × Int)) ++ [([115, 108, 101, 101, 112], 27)]) ++ [([112, 114, 105, 110, 116], 28)]) ++ [([97, 115, 115, 101, 114, 116], 29)]) ++ [([115, 107, 105, 112], 30)]) ++ [([115, 116, 111, 112], 31)]))), .box b [.int .i64 x.kind, .string (mkS x.text), .int .i64 x.n, .int .i64 x.at_], .box rb [.slice rA0 r.toks.length rC0, .int .i64 atx4, .int .i64 de4, .slice a15 l5.length c15, .int .i64 ex4], .row 39 5 a15 l5.length c15 xs26] m) w54 l5 xs26 ∧ Mem w.heap.size (rb :: (Vc.blk rA).toList) m [((rb :: (Vc.blk rA).toList), w.heap.size, w)] [] w54 [.raw b2 (mapO kStr (encM (fun x : Int => .int .i64 x) (((((([] : List (List UInt8 × Int)) ++ [([115, 108, 101, 101, 112], 27)]) ++ [([112, 114, 105, 110, 116], 28)]) ++ [([97, 115, 115, 101, 114, 116], 29)]) ++ [([115, 107, 105, 112], 30)]) ++ [([115, 116, 111, 112], 31)]))), .box b [.int .i64 x.kind, .string (mkS x.text), .int .i64 x.n, .int .i64 x.at_], .box rb [.slice rA0 r.toks.length rC0, .int .i64 atx4, .int .i64 de4, .slice a15 l5.length c15, .int .i64 ex4], .row 39 5 a15 l5.length c15 xs26] ∧ Step (ms [.raw b2 (mapO kStr (encM (fun x : Int => .int .i64 x) (((((([] : List (List UInt8 × Int)) ++ [([115, 108, 101, 101, 112], 27)]) ++ [([112, 114, 105, 110, 116], 28)]) ++ [([97, 115, 115, 101, 114, 116], 29)]) ++ [([115, 107, 105, 112], 30)]) ++ [([115, 116, 111, 112], 31)]))), .box b [.int .i64 x.kind, .string (mkS x.text), .int .i64 x.n, .int .i64 x.at_], .box rb [.slice rA0 r.toks.length rC0, .int .i64 r18.at_, .int .i64 r18.deep, .slice a ((r1.l.set i.toNat (⟨25, x18.name, x18.n, x18.kids, x18.at_⟩ : GNode)).length) c, .int .i64 r18.e_], .row 39 5 a ((r1.l.set i.toNat (⟨25, x18.name, x18.n, x18.kids, x18.at_⟩ : GNode)).length) c xs25] m) w53 (ms [.raw b2 (mapO kStr (encM (fun x : Int => .int .i64 x) (((((([] : List (List UInt8 × Int)) ++ [([115, 108, 101, 101, 112], 27)]) ++ [([112, 114, 105, 110, 116], 28)]) ++ [([97, 115, 115, 101, 114, 116], 29)]) ++ [([115, 107, 105, 112], 30)]) ++ [([115, 116, 111, 112], 31)]))), .box b [.int .i64 x.kind, .string (mkS x.text), .int .i64 x.n, .int .i64 x.at_], .box rb [.slice rA0 r.toks.length rC0, .int .i64 atx4, .int .i64 de4, .slice a15 l5.length c15, .int .i64 ex4], .row 39 5 a15 l5.length c15 xs26] m) w54 := ⟨_, rfl⟩
 refine ⟨fun w54 => ∃ n, Z w54 n, fun w54 => leastN (Z w54), ⟨n2, ?_⟩, ?_⟩
 rw [hZ]; exact ⟨r18.at_, r18.deep, (r1.l.set i.toNat (⟨25, x18.name, x18.n, x18.kids, x18.at_⟩ : GNode)), r18.e_, xs25, a, c, h, (el38.st (st53.trans (st54.trans (st55.trans st56)))), o, Step.refl _ _⟩
 intro _ w54 hIZ
 obtain ⟨n, hnn⟩ : ∃ n, n = leastN (Z w54) := ⟨_, rfl⟩
 have hIZ := leastN_at hIZ
 rw [← hnn, hZ] at hIZ
 obtain ⟨atx4, de4, l5, ex4, xs26, a15, c15, h, el40, o, st57⟩ := hIZ
 have h := h2 atx4 de4 l5 ex4 n h
 refine call_then (h _ w54 (o.mo hm hrm (.head _)) _ _ _ _ _ _ (Mem.inms 2 rfl) (o.objin 2 3 rfl rfl (by decide)) (o.at 2 rfl) (o.rowAt 3 rfl) el40 le_r0 (f_r0.st (st.trans (st1.trans (st2.trans (st3.trans (st4.trans (st13.trans (st14.trans (st15.trans (st16.trans (st17.trans (st18.trans (st20.trans (st37.trans (st42.trans (st53.trans (st54.trans (st55.trans (st56.trans st57)))))))))))))))))))) ?_
 rintro _ w55 ⟨r19, h, -, ⟨a16, c16, xs27, bx18, hr31, el41, fr14⟩, ke20⟩
 have st58 := Mem.call2S (ps := [.raw b2 (mapO kStr (encM (fun x : Int => .int .i64 x) (((((([] : List (List UInt8 × Int)) ++ [([115, 108, 101, 101, 112], 27)]) ++ [([112, 114, 105, 110, 116], 28)]) ++ [([97, 115, 115, 101, 114, 116], 29)]) ++ [([115, 107, 105, 112], 30)]) ++ [([115, 116, 111, 112], 31)]))), .box b [.int .i64 x.kind, .string (mkS x.text), .int .i64 x.n, .int .i64 x.at_], .box rb [.slice rA0 r.toks.length rC0, .int .i64 atx4, .int .i64 de4, .slice a15 l5.length c15, .int .i64 ex4], .row 39 5 a15 l5.length c15 xs26]) (m0 := m) (l' := [.slice rA0 r.toks.length rC0, .int .i64 r19.at_, .int .i64 r19.deep, .slice a16 r19.l.length c16, .int .i64 r19.e_]) (n' := r19.l.length) (c' := c16) (xs' := xs27) 2 3 rfl rfl ke20 fr14
 have el42 := El.st el41 (Mem.call2D (ps := [.raw b2 (mapO kStr (encM (fun x : Int => .int .i64 x) (((((([] : List (List UInt8 × Int)) ++ [([115, 108, 101, 101, 112], 27)]) ++ [([112, 114, 105, 110, 116], 28)]) ++ [([97, 115, 115, 101, 114, 116], 29)]) ++ [([115, 107, 105, 112], 30)]) ++ [([115, 116, 111, 112], 31)]))), .box b [.int .i64 x.kind, .string (mkS x.text), .int .i64 x.n, .int .i64 x.at_], .box rb [.slice rA0 r.toks.length rC0, .int .i64 atx4, .int .i64 de4, .slice a15 l5.length c15, .int .i64 ex4], .row 39 5 a15 l5.length c15 xs26]) (m0 := m) (l' := [.slice rA0 r.toks.length rC0, .int .i64 r19.at_, .int .i64 r19.deep, .slice a16 r19.l.length c16, .int .i64 r19.e_]) (e := 39) (size := 5) (n' := r19.l.length) (c' := c16) (xs' := xs27) 2 3 rfl)
 have o := o.call2 2 3 rfl rfl (by decide) ke20 bx18 hr31 fr14
 refine ⟨_, _, _, (o.at 2 rfl).cell rfl, ?_⟩
 obtain ⟨hi10, h⟩ := h
 obtain ⟨p10, x19, cs11, hp10, he10, hc10, hr32⟩ := row_elem (o.rowAt 3 rfl) el42 hi10
 obtain rfl := GNode_out hr32
 have h := h x19 he10
 refine ⟨hi10, ptrOr_some hp10 ?_⟩
 refine ⟨_, hc10.2 3 (Nat.le_of_ble_eq_true rfl), ?_⟩
 obtain ⟨hi11, h⟩ := h
 obtain ⟨p11, x20, cs12, hp11, he11, hc11, hr33⟩ := row_elem (o.rowAt 3 rfl) el42 hi11
 obtain rfl := GNode_out hr33
 have h := h x20 he11
 refine ⟨hi11, ptrOr_some hp11 ?_⟩
 have hq10 := row_putp (i := i.toNat) (o.rowAt 3 rfl) el42 hp11 he11 hc11.2 rfl 3 (.int .i64 (IntKind.i64.wrap (x19.kids + 1))) (by decide)
 refine ⟨hq10.1, fun w56 hw56 => ?_⟩
 obtain ⟨xs28, hr34, hg15, hel10⟩ := hq10.2 _ hw56
 have el43 := hel10 (⟨x20.op, x20.name, x20.n, IntKind.i64.wrap (x19.kids + 1), x20.at_⟩ : GNode) (GNode_in (⟨x20.op, x20.name, x20.n, IntKind.i64.wrap (x19.kids + 1), x20.at_⟩ : GNode))
 have st59 := o.xA 3 rfl hr34 hg15 (.inl rfl)
 have o := o.app 3 rfl hr34 hg15 (.inl rfl)
 have ln11 : r19.l.length = (r19.l.set i.toNat (⟨x20.op, x20.name, x20.n, IntKind.i64.wrap (x19.kids + 1), x20.at_⟩ : GNode)).length := row_len (o.rowAt 3 rfl) (el43.st st59)
 obtain ⟨J7, h, h2⟩ := h
 refine ⟨fun x21 w57 => J7 x21 ∧ Mem w.heap.size (rb :: (Vc.blk rA).toList) m [((rb :: (Vc.blk rA).toList), w.heap.size, w)] [] w57 [.raw b2 (mapO kStr (encM (fun x : Int => .int .i64 x) (((((([] : List (List UInt8 × Int)) ++ [([115, 108, 101, 101, 112], 27)]) ++ [([112, 114, 105, 110, 116], 28)]) ++ [([97, 115, 115, 101, 114, 116], 29)]) ++ [([115, 107, 105, 112], 30)]) ++ [([115, 116, 111, 112], 31)]))), .box b [.int .i64 x.kind, .string (mkS x.text), .int .i64 x.n, .int .i64 x.at_], .box rb [.slice rA0 r.toks.length rC0, .int .i64 r19.at_, .int .i64 r19.deep, .slice a16 r19.l.length c16, .int .i64 r19.e_], .row 39 5 a16 r19.l.length c16 xs28] ∧ Step (ms [.raw b2 (mapO kStr (encM (fun x : Int => .int .i64 x) (((((([] : List (List UInt8 × Int)) ++ [([115, 108, 101, 101, 112], 27)]) ++ [([112, 114, 105, 110, 116], 28)]) ++ [([97, 115, 115, 101, 114, 116], 29)]) ++ [([115, 107, 105, 112], 30)]) ++ [([115, 116, 111, 112], 31)]))), .box b [.int .i64 x.kind, .string (mkS x.text), .int .i64 x.n, .int .i64 x.at_], .box rb [.slice rA0 r.toks.length rC0, .int .i64 r19.at_, .int .i64 r19.deep, .slice a16 r19.l.length c16, .int .i64 r19.e_], .row 39 5 a16 r19.l.length c16 xs28] m) w56 (ms [.raw b2 (mapO kStr (encM (fun x : Int => .int .i64 x) (((((([] : List (List UInt8 × Int)) ++ [([115, 108, 101, 101, 112], 27)]) ++ [([112, 114, 105, 110, 116], 28)]) ++ [([97, 115, 115, 101, 114, 116], 29)]) ++ [([115, 107, 105, 112], 30)]) ++ [([115, 116, 111, 112], 31)]))), .box b [.int .i64 x.kind, .string (mkS x.text), .int .i64 x.n, .int .i64 x.at_], .box rb [.slice rA0 r.toks.length rC0, .int .i64 r19.at_, .int .i64 r19.deep, .slice a16 r19.l.length c16, .int .i64 r19.e_], .row 39 5 a16 r19.l.length c16 xs28] m) w57, ?_, ?_⟩
 refine ⟨_, (o.at 2 rfl).cell rfl, ?_⟩
 refine cond_map (fun h => ?_) (fun h => ?_) h
 exact ⟨h, o, Step.refl _ _⟩
 rw [ln11] at o
 try rw [ln11]
 refine call_then (h _ w56 (o.mo hm hrm (.head _)) _ _ _ _ _ (o.at 2 rfl) le_r0 (f_r0.st (st.trans (st1.trans (st2.trans (st3.trans (st4.trans (st13.trans (st14.trans (st15.trans (st16.trans (st17.trans (st18.trans (st20.trans (st37.trans (st42.trans (st53.trans (st54.trans (st55.trans (st56.trans (st57.trans (st58.trans st59)))))))))))))))))))))) ?_
 rintro _ w58 ⟨x22, h, rfl, ke21⟩
 obtain ⟨st61, o⟩ := o.dE ke21
 refine ⟨_, rfl, ?_⟩
 exact ⟨h, o, st61⟩
 rintro _ x21 w57 ⟨hJ, o, st60⟩
 have h := h2 x21 hJ
 refine cond_map (fun h => ?_) (fun h => ?_) h
 intro b5 w59 hb5 hw59
 have el44 : El cStr (ms [.raw b2 (mapO kStr (encM (fun x : Int => .int .i64 x) (((((([] : List (List UInt8 × Int)) ++ [([115, 108, 101, 101, 112], 27)]) ++ [([112, 114, 105, 110, 116], 28)]) ++ [([97, 115, 115, 101, 114, 116], 29)]) ++ [([115, 107, 105, 112], 30)]) ++ [([115, 116, 111, 112], 31)]))), .box b [.int .i64 x.kind, .string (mkS x.text), .int .i64 x.n, .int .i64 x.at_], .box rb [.slice rA0 r.toks.length rC0, .int .i64 r19.at_, .int .i64 r19.deep, .slice a16 r19.l.length c16, .int .i64 r19.e_], .row 39 5 a16 r19.l.length c16 xs28] m) w57 ([[125]] : List (List UInt8)) ([.string (mkS [125])] : List Value) := (El.cons (cs := [.string (mkS [125])]) rfl (El.nil _ _ _))
 have fr15 : w.heap.size ≤ b5 := hb5 ▸ o.le
 have st62 := o.xL hb5 hw59 1 1
 have o := o.lit hb5 hw59 1 1 (by decide) rfl
 have le3 := (o.rowAt 0 rfl).cap
 have st63 := o.xX 0
 have f4 := o.freeze (c := cStr) (l := ([[125]] : List (List UInt8))) 0 rfl (fun q hq h => by have := hrs_ q hq; have := fr15; simp [Vc.blk] at h; omega) (el44.st (st62.trans st63))
 have o := o.erase 0
 rw [ln11] at o
 try rw [ln11]
 refine call_then (h _ w59 (o.mo hm hrm (.head _)) _ _ _ _ _ (Mem.inms 2 rfl) (o.at 2 rfl) le_r0 (f_r0.st (st.trans (st1.trans (st2.trans (st3.trans (st4.trans (st13.trans (st14.trans (st15.trans (st16.trans (st17.trans (st18.trans (st20.trans (st37.trans (st42.trans (st53.trans (st54.trans (st55.trans (st56.trans (st57.trans (st58.trans (st59.trans (st60.trans (st62.trans st63)))))))))))))))))))))))) _ _ le3 f4) ?_
 rintro _ w60 ⟨r20, h, -, bx19, ke22⟩
 have st64 := o.xC (l' := [.slice rA0 r.toks.length rC0, .int .i64 r20.at_, .int .i64 r20.deep, .slice a16 ((r19.l.set i.toNat (⟨x20.op, x20.name, x20.n, IntKind.i64.wrap (x19.kids + 1), x20.at_⟩ : GNode)).length) c16, .int .i64 r20.e_]) 2 ke22 rfl
 have o := o.call 2 ke22 bx19 rfl
 exact ⟨(⟨r.toks, r20.at_, r20.deep, (r19.l.set i.toNat (⟨x20.op, x20.name, x20.n, IntKind.i64.wrap (x19.kids + 1), x20.at_⟩ : GNode)), r20.e_⟩ : Gparse_reader), h, trivial, ⟨_, _, _, o.at 2 rfl, o.rowAt 3 rfl, (el43.st (st59.trans (st60.trans (st62.trans (st63.trans (st64.trans (Mem.endRS (w := w60) (ps := [.raw b2 (mapO kStr (encM (fun x : Int => .int .i64 x) (((((([] : List (List UInt8 × Int)) ++ [([115, 108, 101, 101, 112], 27)]) ++ [([112, 114, 105, 110, 116], 28)]) ++ [([97, 115, 115, 101, 114, 116], 29)]) ++ [([115, 107, 105, 112], 30)]) ++ [([115, 116, 111, 112], 31)]))), .box b [.int .i64 x.kind, .string (mkS x.text), .int .i64 x.n, .int .i64 x.at_], .box rb [.slice rA0 r.toks.length rC0, .int .i64 r20.at_, .int .i64 r20.deep, .slice a16 ((r19.l.set i.toNat (⟨x20.op, x20.name, x20.n, IntKind.i64.wrap (x19.kids + 1), x20.at_⟩ : GNode)).length) c16, .int .i64 r20.e_], .row 39 5 a16 ((r19.l.set i.toNat (⟨x20.op, x20.name, x20.n, IntKind.i64.wrap (x19.kids + 1), x20.at_⟩ : GNode)).length) c16 xs28]) (m0 := m) 3 rfl))))))), o.oldnew 3 rfl 2 rfl (by decide)⟩, o.done⟩
 rw [ln11] at o
 obtain ⟨n1, hl, h⟩ := h
 exact loop_again hnn (show Z w57 n1 from (by rw [hZ]; exact ⟨r19.at_, r19.deep, (r19.l.set i.toNat (⟨x20.op, x20.name, x20.n, IntKind.i64.wrap (x19.kids + 1), x20.at_⟩ : GNode)), r19.e_, xs28, a16, c16, h, (el43.st (st59.trans st60)), o, (st57.trans (st58.trans (st59.trans st60)))⟩)) hl
 refine ⟨_, (o.at 2 rfl).cell rfl, ?_⟩
 refine ⟨o.wr 2 rfl rfl, fun w61 hw61 => ?_⟩
 obtain ⟨st65, o⟩ := o.dS 2 hw61 rfl
 refine call_then (h _ w61 (o.mo hm hrm (.head _)) _ _ _ _ _ (Mem.inms 2 rfl) (o.at 2 rfl) le_r0 (f_r0.st (st.trans (st1.trans (st2.trans (st3.trans (st4.trans (st13.trans (st14.trans (st15.trans (st16.trans (st17.trans (st18.trans (st20.trans (st37.trans (st42.trans st65)))))))))))))))) ?_
 rintro _ w62 ⟨r21, h, -, bx20, ke23⟩
 have st66 := o.xC (l' := [.slice rA0 r.toks.length rC0, .int .i64 r21.at_, .int .i64 r21.deep, .slice a r1.l.length c, .int .i64 r21.e_]) 2 ke23 rfl
 have o := o.call 2 ke23 bx20 rfl
 exact ⟨(⟨r.toks, r21.at_, r21.deep, r1.l, r21.e_⟩ : Gparse_reader), h, trivial, ⟨_, _, _, o.at 2 rfl, o.rowAt 3 rfl, (el1.st (st13.trans (st14.trans (st15.trans (st16.trans (st17.trans (st18.trans (st20.trans (st37.trans (st42.trans (st65.trans (st66.trans (Mem.endRS (w := w62) (ps := [.raw b2 (mapO kStr (encM (fun x : Int => .int .i64 x) (((((([] : List (List UInt8 × Int)) ++ [([115, 108, 101, 101, 112], 27)]) ++ [([112, 114, 105, 110, 116], 28)]) ++ [([97, 115, 115, 101, 114, 116], 29)]) ++ [([115, 107, 105, 112], 30)]) ++ [([115, 116, 111, 112], 31)]))), .box b [.int .i64 x.kind, .string (mkS x.text), .int .i64 x.n, .int .i64 x.at_], .box rb [.slice rA0 r.toks.length rC0, .int .i64 r21.at_, .int .i64 r21.deep, .slice a r1.l.length c, .int .i64 r21.e_], .row 39 5 a r1.l.length c xs]) (m0 := m) 3 rfl))))))))))))), o.oldnew 3 rfl 2 rfl (by decide)⟩, o.done⟩
 rintro _ w20 ⟨atx1, de1, l1, ex1, xs5, a4, c4, hJ, el9, o, st21⟩
 have h := h2 atx1 de1 l1 ex1 hJ
 intro b6 w63 hb6 hw63
 have el45 : El cStr (ms [.raw b2 (mapO kStr (encM (fun x : Int => .int .i64 x) (((((([] : List (List UInt8 × Int)) ++ [([115, 108, 101, 101, 112], 27)]) ++ [([112, 114, 105, 110, 116], 28)]) ++ [([97, 115, 115, 101, 114, 116], 29)]) ++ [([115, 107, 105, 112], 30)]) ++ [([115, 116, 111, 112], 31)]))), .box b [.int .i64 x.kind, .string (mkS x.text), .int .i64 x.n, .int .i64 x.at_], .box rb [.slice rA0 r.toks.length rC0, .int .i64 atx1, .int .i64 de1, .slice a4 l1.length c4, .int .i64 ex1], .row 39 5 a4 l1.length c4 xs5] m) w20 ([[59]] : List (List UInt8)) ([.string (mkS [59])] : List Value) := (El.cons (cs := [.string (mkS [59])]) rfl (El.nil _ _ _))
 have fr16 : w.heap.size ≤ b6 := hb6 ▸ o.le
 have st67 := o.xL hb6 hw63 1 1
 have o := o.lit hb6 hw63 1 1 (by decide) rfl
 have le4 := (o.rowAt 0 rfl).cap
 have st68 := o.xX 0
 have f5 := o.freeze (c := cStr) (l := ([[59]] : List (List UInt8))) 0 rfl (fun q hq h => by have := hrs_ q hq; have := fr16; simp [Vc.blk] at h; omega) (el45.st (st67.trans st68))
 have o := o.erase 0
 refine call_then (h _ w63 (o.mo hm hrm (.head _)) _ _ _ _ _ (Mem.inms 2 rfl) (o.at 2 rfl) le_r0 (f_r0.st (st.trans (st1.trans (st2.trans (st3.trans (st4.trans (st13.trans (st14.trans (st15.trans (st16.trans (st17.trans (st18.trans (st20.trans (st21.trans (st67.trans st68))))))))))))))) _ _ le4 f5) ?_
 rintro _ w64 ⟨r22, h, -, bx21, ke24⟩
 have st69 := o.xC (l' := [.slice rA0 r.toks.length rC0, .int .i64 r22.at_, .int .i64 r22.deep, .slice a4 l1.length c4, .int .i64 r22.e_]) 2 ke24 rfl
 have o := o.call 2 ke24 bx21 rfl
 exact ⟨(⟨r.toks, r22.at_, r22.deep, l1, r22.e_⟩ : Gparse_reader), h, trivial, ⟨_, _, _, o.at 2 rfl, o.rowAt 3 rfl, (el9.st (st67.trans (st68.trans (st69.trans (Mem.endRS (w := w64) (ps := [.raw b2 (mapO kStr (encM (fun x : Int => .int .i64 x) (((((([] : List (List UInt8 × Int)) ++ [([115, 108, 101, 101, 112], 27)]) ++ [([112, 114, 105, 110, 116], 28)]) ++ [([97, 115, 115, 101, 114, 116], 29)]) ++ [([115, 107, 105, 112], 30)]) ++ [([115, 116, 111, 112], 31)]))), .box b [.int .i64 x.kind, .string (mkS x.text), .int .i64 x.n, .int .i64 x.at_], .box rb [.slice rA0 r.toks.length rC0, .int .i64 r22.at_, .int .i64 r22.deep, .slice a4 l1.length c4, .int .i64 r22.e_], .row 39 5 a4 l1.length c4 xs5]) (m0 := m) 3 rfl))))), o.oldnew 3 rfl 2 rfl (by decide)⟩, o.done⟩
def parse_reader_decl_vwp (r : Gparse_reader) (K : Gparse_reader → Prop) : Prop :=
 V_parse_reader_open r 41 (fun i r1 =>
 V_parse_reader_eat (⟨r.toks, r1.at_, r1.deep, r1.l, r1.e_⟩ : Gparse_reader) [99, 104, 97, 110] (fun x r2 =>
 cond (x)
 (((0 : Int) ≤ i ∧ i < (r1.l.length : Int)) ∧
 ∀ x1, r1.l[i.toNat]? = some x1 →
 ∃ (J : Int → Int → (List GNode) → Int → Prop),
 (V_parse_reader_name (⟨r.toks, r2.at_, r2.deep, (r1.l.set i.toNat (⟨38, x1.name, x1.n, x1.kids, x1.at_⟩ : GNode)), r2.e_⟩ : Gparse_reader) (fun x2 r3 =>
 ((0 : Int) ≤ i ∧ i < ((r1.l.set i.toNat (⟨38, x1.name, x1.n, x1.kids, x1.at_⟩ : GNode)).length : Int)) ∧
 ∀ x3, (r1.l.set i.toNat (⟨38, x1.name, x1.n, x1.kids, x1.at_⟩ : GNode))[i.toNat]? = some x3 →
 J r3.at_ r3.deep ((r1.l.set i.toNat (⟨38, x1.name, x1.n, x1.kids, x1.at_⟩ : GNode)).set i.toNat (⟨x3.op, x2, x3.n, x3.kids, x3.at_⟩ : GNode)) r3.e_)) ∧
 ∀ (atx : Int) (de : Int) (l : List GNode) (ex : Int), J atx de l ex →
 ∃ (J1 : Int → Int → (List GNode) → Int → Prop),
 (V_parse_reader_eat (⟨r.toks, atx, de, l, ex⟩ : Gparse_reader) [91] (fun x4 r4 =>
 cond (x4)
 (V_parse_reader_size (⟨r.toks, r4.at_, r4.deep, l, r4.e_⟩ : Gparse_reader) i (fun r5 =>
 V_parse_reader_must (⟨r.toks, r5.at_, r5.deep, r5.l, r5.e_⟩ : Gparse_reader) ([[93]] : List (List UInt8)) (fun r6 =>
 J1 r6.at_ r6.deep r5.l r6.e_)))
 (J1 r4.at_ r4.deep l r4.e_))) ∧
 ∀ (atx1 : Int) (de1 : Int) (l1 : List GNode) (ex1 : Int), J1 atx1 de1 l1 ex1 →
 V_parse_reader_must (⟨r.toks, atx1, de1, l1, ex1⟩ : Gparse_reader) ([[59]] : List (List UInt8)) (fun r7 =>
 K (⟨r.toks, r7.at_, r7.deep, l1, r7.e_⟩ : Gparse_reader)))
 (V_parse_reader_eat (⟨r.toks, r2.at_, r2.deep, r1.l, r2.e_⟩ : Gparse_reader) [112, 114, 111, 99] (fun x5 r8 =>
 cond (x5)
 (((0 : Int) ≤ i ∧ i < (r1.l.length : Int)) ∧
 ∀ x6, r1.l[i.toNat]? = some x6 →
 ∃ (J2 : Int → Int → (List GNode) → Int → Prop),
 (V_parse_reader_name (⟨r.toks, r8.at_, r8.deep, (r1.l.set i.toNat (⟨40, x6.name, x6.n, x6.kids, x6.at_⟩ : GNode)), r8.e_⟩ : Gparse_reader) (fun x7 r9 =>
 ((0 : Int) ≤ i ∧ i < ((r1.l.set i.toNat (⟨40, x6.name, x6.n, x6.kids, x6.at_⟩ : GNode)).length : Int)) ∧
 ∀ x8, (r1.l.set i.toNat (⟨40, x6.name, x6.n, x6.kids, x6.at_⟩ : GNode))[i.toNat]? = some x8 →
 J2 r9.at_ r9.deep ((r1.l.set i.toNat (⟨40, x6.name, x6.n, x6.kids, x6.at_⟩ : GNode)).set i.toNat (⟨x8.op, x7, x8.n, x8.kids, x8.at_⟩ : GNode)) r9.e_)) ∧
 ∀ (atx2 : Int) (de2 : Int) (l2 : List GNode) (ex2 : Int), J2 atx2 de2 l2 ex2 →
 V_parse_reader_must (⟨r.toks, atx2, de2, l2, ex2⟩ : Gparse_reader) ([[40]] : List (List UInt8)) (fun r10 =>
 ∃ (J3 : Int → Int → (List GNode) → Int → Prop),
 (V_parse_reader_eat (⟨r.toks, r10.at_, r10.deep, l2, r10.e_⟩ : Gparse_reader) [41] (fun x9 r11 =>
 cond (!x9)
 (V_parse_reader_param (⟨r.toks, r11.at_, r11.deep, l2, r11.e_⟩ : Gparse_reader) i (fun r12 =>
 ∃ (I : Int → Int → (List GNode) → Int → Nat → Prop), (∃ n, I r12.at_ r12.deep r12.l r12.e_ n) ∧
 ∀ (atx4 : Int) (de4 : Int) (l4 : List GNode) (ex4 : Int) (n : Nat), I atx4 de4 l4 ex4 n →
 V_parse_reader_eat (⟨r.toks, atx4, de4, l4, ex4⟩ : Gparse_reader) [44] (fun x10 r13 =>
 cond (x10)
 (V_parse_reader_param (⟨r.toks, r13.at_, r13.deep, l4, r13.e_⟩ : Gparse_reader) i (fun r14 =>
 ∃ n1, n1 < n ∧ I r14.at_ r14.deep r14.l r14.e_ n1))
 (V_parse_reader_must (⟨r.toks, r13.at_, r13.deep, l4, r13.e_⟩ : Gparse_reader) ([[41]] : List (List UInt8)) (fun r15 =>
 J3 r15.at_ r15.deep l4 r15.e_)))))
 (J3 r11.at_ r11.deep l2 r11.e_))) ∧
 ∀ (atx3 : Int) (de3 : Int) (l3 : List GNode) (ex3 : Int), J3 atx3 de3 l3 ex3 →
 V_parse_reader_block (⟨r.toks, atx3, de3, l3, ex3⟩ : Gparse_reader) i (fun r16 =>
 K (⟨r.toks, r16.at_, r16.deep, r16.l, r16.e_⟩ : Gparse_reader))))
 (V_parse_reader_must (⟨r.toks, r8.at_, r8.deep, r1.l, r8.e_⟩ : Gparse_reader) ([[109, 97, 105, 110]] : List (List UInt8)) (fun r17 =>
 V_parse_reader_block (⟨r.toks, r17.at_, r17.deep, r1.l, r17.e_⟩ : Gparse_reader) i (fun r18 =>
 K (⟨r.toks, r18.at_, r18.deep, r18.l, r18.e_⟩ : Gparse_reader))))))))
set_option maxHeartbeats 4000000 in
set_option maxRecDepth 10000 in
theorem parse_reader_decl_lift (r : Gparse_reader) (K : Gparse_reader → Prop) (h : parse_reader_decl_vwp r K) : V_parse_reader_decl r K := by
 intro m w hm rb rA rC rxs rA0 rC0 in_r ina_r bx_r rw_r f_r le_r0 f_r0
 have hrs_ := Mem.objlt hm.lt in_r ina_r
 have o := Mem.obj hm.lt in_r ina_r bx_r rw_r
 have st := Mem.objS (w := w) (l := [.slice rA0 r.toks.length rC0, .int .i64 r.at_, .int .i64 r.deep, .slice rA r.l.length rC, .int .i64 r.e_]) (e := 39) (size := 5) (n := r.l.length) (c := rC) (xs := rxs) in_r ina_r
 have hrm : ∀ b ∈ (rb :: (Vc.blk rA).toList), b ∈ m := fun b hb => (List.mem_cons.1 hb).elim (fun e => e ▸ in_r) (fun h => (ina_r b (Option.mem_toList.1 h)).1)
 refine parse_reader_decl_ok rb _ _ ?_
 refine call_then (h _ w (o.mo hm hrm (.head _)) _ _ _ _ _ _ (Mem.inms 0 rfl) (o.objin 0 1 rfl rfl (by decide)) (o.at 0 rfl) (o.rowAt 1 rfl) (f_r.st st) le_r0 (f_r0.st st)) ?_
 rintro _ w1 ⟨i, r1, h, rfl, ⟨a, c, xs, bx, hr, el, fr⟩, ke⟩
 have st1 := Mem.call2S (ps := [.box rb [.slice rA0 r.toks.length rC0, .int .i64 r.at_, .int .i64 r.deep, .slice rA r.l.length rC, .int .i64 r.e_], .row 39 5 rA r.l.length rC rxs]) (m0 := m) (l' := [.slice rA0 r.toks.length rC0, .int .i64 r1.at_, .int .i64 r1.deep, .slice a r1.l.length c, .int .i64 r1.e_]) (n' := r1.l.length) (c' := c) (xs' := xs) 0 1 rfl rfl ke fr
 have el1 := El.st el (Mem.call2D (ps := [.box rb [.slice rA0 r.toks.length rC0, .int .i64 r.at_, .int .i64 r.deep, .slice rA r.l.length rC, .int .i64 r.e_], .row 39 5 rA r.l.length rC rxs]) (m0 := m) (l' := [.slice rA0 r.toks.length rC0, .int .i64 r1.at_, .int .i64 r1.deep, .slice a r1.l.length c, .int .i64 r1.e_]) (e := 39) (size := 5) (n' := r1.l.length) (c' := c) (xs' := xs) 0 1 rfl)
 have o := o.call2 0 1 rfl rfl (by decide) ke bx hr fr
 refine ⟨_, rfl, ?_⟩
 refine call_then (h _ w1 (o.mo hm hrm (.head _)) _ _ _ _ _ (Mem.inms 0 rfl) (o.at 0 rfl) le_r0 (f_r0.st (st.trans st1))) ?_
 rintro _ w2 ⟨x, r2, h, rfl, bx1, ke1⟩
 have st2 := o.xC (l' := [.slice rA0 r.toks.length rC0, .int .i64 r2.at_, .int .i64 r2.deep, .slice a r1.l.length c, .int .i64 r2.e_]) 0 ke1 rfl
 have o := o.call 0 ke1 bx1 rfl
 refine ⟨_, rfl, ?_⟩
 refine cond_map (fun h => ?_) (fun h => ?_) h
 refine ⟨_, _, _, (o.at 0 rfl).cell rfl, ?_⟩
 obtain ⟨hi, h⟩ := h
 obtain ⟨p, x1, cs, hp, he, hc, hr1⟩ := row_elem (o.rowAt 1 rfl) (el1.st st2) hi
 obtain rfl := GNode_out hr1
 have h := h x1 he
 refine ⟨hi, ptrOr_some hp ?_⟩
 have hq := row_putp (i := i.toNat) (o.rowAt 1 rfl) (el1.st st2) hp he hc.2 rfl 0 (.int .i64 38) (by decide)
 refine ⟨hq.1, fun w3 hw3 => ?_⟩
 obtain ⟨xs1, hr2, hg, hel⟩ := hq.2 _ hw3
 have el2 := hel (⟨38, x1.name, x1.n, x1.kids, x1.at_⟩ : GNode) (GNode_in (⟨38, x1.name, x1.n, x1.kids, x1.at_⟩ : GNode))
 have st3 := o.xA 1 rfl hr2 hg (.inl rfl)
 have o := o.app 1 rfl hr2 hg (.inl rfl)
 have ln : r1.l.length = (r1.l.set i.toNat (⟨38, x1.name, x1.n, x1.kids, x1.at_⟩ : GNode)).length := row_len (o.rowAt 1 rfl) (el2.st st3)
 obtain ⟨J, h, h2⟩ := h
 refine ⟨fun w4 => ∃ (atx : Int) (de : Int) (l : List GNode) (ex : Int) (xs2 : List Value) (a1 : Option Addr) (c1 : Nat), J atx de l ex ∧ El cGNode (ms [.box rb [.slice rA0 r.toks.length rC0, .int .i64 atx, .int .i64 de, .slice a1 l.length c1, .int .i64 ex], .row 39 5 a1 l.length c1 xs2] m) w4 l xs2 ∧ Mem w.heap.size (rb :: (Vc.blk rA).toList) m [((rb :: (Vc.blk rA).toList), w.heap.size, w)] [] w4 [.box rb [.slice rA0 r.toks.length rC0, .int .i64 atx, .int .i64 de, .slice a1 l.length c1, .int .i64 ex], .row 39 5 a1 l.length c1 xs2] ∧ Step (ms [.box rb [.slice rA0 r.toks.length rC0, .int .i64 r2.at_, .int .i64 r2.deep, .slice a r1.l.length c, .int .i64 r2.e_], .row 39 5 a r1.l.length c xs1] m) w3 (ms [.box rb [.slice rA0 r.toks.length rC0, .int .i64 atx, .int .i64 de, .slice a1 l.length c1, .int .i64 ex], .row 39 5 a1 l.length c1 xs2] m) w4, ?_, ?_⟩
 intro w5 hw5
 obtain ⟨st5, o⟩ := o.dD hw5
 rw [ln] at o
 try rw [ln]
 have ox := o
 refine ⟨fun u => Keep [rb] w5 u ∧ u.cell? ⟨rb, 3, none⟩ = some (.slice a ((r1.l.set i.toNat (⟨38, x1.name, x1.n, x1.kids, x1.at_⟩ : GNode)).length) c), ⟨Keep.refl _ _, (o.at 0 rfl).cell (i := 3) rfl⟩, ?_⟩
 refine ⟨_, _, _, fun u hu => hu.2, ?_⟩
 refine call_then (h _ w5 (o.mo hm hrm (.head _)) _ _ _ _ _ (Mem.inms 0 rfl) (o.at 0 rfl) le_r0 (f_r0.st (st.trans (st1.trans (st2.trans (st3.trans st5)))))) ?_
 rintro _ w6 ⟨x2, r3, h, rfl, bx2, ke2⟩
 have st6 := o.xC (l' := [.slice rA0 r.toks.length rC0, .int .i64 r3.at_, .int .i64 r3.deep, .slice a ((r1.l.set i.toNat (⟨38, x1.name, x1.n, x1.kids, x1.at_⟩ : GNode)).length) c, .int .i64 r3.e_]) 0 ke2 rfl
 have o := o.call 0 ke2 bx2 rfl
 refine ⟨_, rfl, ?_⟩
 refine ⟨⟨(Keep.mono ke2 (by simp)), (o.at 0 rfl).cell (i := 3) rfl⟩, ?_⟩
 obtain ⟨hi1, h⟩ := h
 obtain ⟨p1, x3, cs1, hp1, he1, hc1, hr3⟩ := row_elem (o.rowAt 1 rfl) (el2.st (st3.trans (st5.trans st6))) hi1
 obtain rfl := GNode_out hr3
 have h := h x3 he1
 refine ⟨hi1, ptrOr_some hp1 ?_⟩
 have hq1 := row_putp (i := i.toNat) (o.rowAt 1 rfl) (el2.st (st3.trans (st5.trans st6))) hp1 he1 hc1.2 rfl 1 (.string (mkS x2)) (by decide)
 refine ⟨hq1.1, fun w7 hw7 => ?_⟩
 obtain ⟨xs3, hr4, hg1, hel1⟩ := hq1.2 _ hw7
 have el4 := hel1 (⟨x3.op, x2, x3.n, x3.kids, x3.at_⟩ : GNode) (GNode_in (⟨x3.op, x2, x3.n, x3.kids, x3.at_⟩ : GNode))
 have st7 := o.xA 1 rfl hr4 hg1 (.inl rfl)
 have o := o.app 1 rfl hr4 hg1 (.inl rfl)
 have ln1 : (r1.l.set i.toNat (⟨38, x1.name, x1.n, x1.kids, x1.at_⟩ : GNode)).length = ((r1.l.set i.toNat (⟨38, x1.name, x1.n, x1.kids, x1.at_⟩ : GNode)).set i.toNat (⟨x3.op, x2, x3.n, x3.kids, x3.at_⟩ : GNode)).length := row_len (o.rowAt 1 rfl) (el4.st st7)
 rw [ln1] at o
 exact ⟨r3.at_, r3.deep, ((r1.l.set i.toNat (⟨38, x1.name, x1.n, x1.kids, x1.at_⟩ : GNode)).set i.toNat (⟨x3.op, x2, x3.n, x3.kids, x3.at_⟩ : GNode)), r3.e_, xs3, a, c, h, (el4.st st7), o, (st5.trans (st6.trans st7))⟩
 rintro _ w4 ⟨atx, de, l, ex, xs2, a1, c1, hJ, el3, o, st4⟩
 have h := h2 atx de l ex hJ
 obtain ⟨J1, h, h2⟩ := h
 refine ⟨fun w8 => ∃ (atx1 : Int) (de1 : Int) (l1 : List GNode) (ex1 : Int) (xs4 : List Value) (a2 : Option Addr) (c2 : Nat), J1 atx1 de1 l1 ex1 ∧ El cGNode (ms [.box rb [.slice rA0 r.toks.length rC0, .int .i64 atx1, .int .i64 de1, .slice a2 l1.length c2, .int .i64 ex1], .row 39 5 a2 l1.length c2 xs4] m) w8 l1 xs4 ∧ Mem w.heap.size (rb :: (Vc.blk rA).toList) m [((rb :: (Vc.blk rA).toList), w.heap.size, w)] [] w8 [.box rb [.slice rA0 r.toks.length rC0, .int .i64 atx1, .int .i64 de1, .slice a2 l1.length c2, .int .i64 ex1], .row 39 5 a2 l1.length c2 xs4] ∧ Step (ms [.box rb [.slice rA0 r.toks.length rC0, .int .i64 atx, .int .i64 de, .slice a1 l.length c1, .int .i64 ex], .row 39 5 a1 l.length c1 xs2] m) w4 (ms [.box rb [.slice rA0 r.toks.length rC0, .int .i64 atx1, .int .i64 de1, .slice a2 l1.length c2, .int .i64 ex1], .row 39 5 a2 l1.length c2 xs4] m) w8, ?_, ?_⟩
 refine call_then (h _ w4 (o.mo hm hrm (.head _)) _ _ _ _ _ (Mem.inms 0 rfl) (o.at 0 rfl) le_r0 (f_r0.st (st.trans (st1.trans (st2.trans (st3.trans st4)))))) ?_
 rintro _ w9 ⟨x4, r4, h, rfl, bx3, ke3⟩
 have st9 := o.xC (l' := [.slice rA0 r.toks.length rC0, .int .i64 r4.at_, .int .i64 r4.deep, .slice a1 l.length c1, .int .i64 r4.e_]) 0 ke3 rfl
 have o := o.call 0 ke3 bx3 rfl
 refine ⟨_, rfl, ?_⟩
 refine cond_map (fun h => ?_) (fun h => ?_) h
 refine call_then (h _ w9 (o.mo hm hrm (.head _)) _ _ _ _ _ _ (Mem.inms 0 rfl) (o.objin 0 1 rfl rfl (by decide)) (o.at 0 rfl) (o.rowAt 1 rfl) (el3.st st9) le_r0 (f_r0.st (st.trans (st1.trans (st2.trans (st3.trans (st4.trans st9))))))) ?_
 rintro _ w10 ⟨r5, h, -, ⟨a3, c3, xs5, bx4, hr5, el6, fr1⟩, ke4⟩
 have st10 := Mem.call2S (ps := [.box rb [.slice rA0 r.toks.length rC0, .int .i64 r4.at_, .int .i64 r4.deep, .slice a1 l.length c1, .int .i64 r4.e_], .row 39 5 a1 l.length c1 xs2]) (m0 := m) (l' := [.slice rA0 r.toks.length rC0, .int .i64 r5.at_, .int .i64 r5.deep, .slice a3 r5.l.length c3, .int .i64 r5.e_]) (n' := r5.l.length) (c' := c3) (xs' := xs5) 0 1 rfl rfl ke4 fr1
 have el7 := El.st el6 (Mem.call2D (ps := [.box rb [.slice rA0 r.toks.length rC0, .int .i64 r4.at_, .int .i64 r4.deep, .slice a1 l.length c1, .int .i64 r4.e_], .row 39 5 a1 l.length c1 xs2]) (m0 := m) (l' := [.slice rA0 r.toks.length rC0, .int .i64 r5.at_, .int .i64 r5.deep, .slice a3 r5.l.length c3, .int .i64 r5.e_]) (e := 39) (size := 5) (n' := r5.l.length) (c' := c3) (xs' := xs5) 0 1 rfl)
 have o := o.call2 0 1 rfl rfl (by decide) ke4 bx4 hr5 fr1
 intro b w11 hb hw11
 have el8 : El cStr (ms [.box rb [.slice rA0 r.toks.length rC0, .int .i64 r5.at_, .int .i64 r5.deep, .slice a3 r5.l.length c3, .int .i64 r5.e_], .row 39 5 a3 r5.l.length c3 xs5] m) w10 ([[93]] : List (List UInt8)) ([.string (mkS [93])] : List Value) := (El.cons (cs := [.string (mkS [93])]) rfl (El.nil _ _ _))
 have fr2 : w.heap.size ≤ b := hb ▸ o.le
 have st11 := o.xL hb hw11 1 1
 have o := o.lit hb hw11 1 1 (by decide) rfl
 have le := (o.rowAt 0 rfl).cap
 have st12 := o.xX 0
 have f := o.freeze (c := cStr) (l := ([[93]] : List (List UInt8))) 0 rfl (fun q hq h => by have := hrs_ q hq; have := fr2; simp [Vc.blk] at h; omega) (el8.st (st11.trans st12))
 have o := o.erase 0
 refine call_then (h _ w11 (o.mo hm hrm (.head _)) _ _ _ _ _ (Mem.inms 0 rfl) (o.at 0 rfl) le_r0 (f_r0.st (st.trans (st1.trans (st2.trans (st3.trans (st4.trans (st9.trans (st10.trans (st11.trans st12))))))))) _ _ le f) ?_
 rintro _ w12 ⟨r6, h, -, bx5, ke5⟩
 have st13 := o.xC (l' := [.slice rA0 r.toks.length rC0, .int .i64 r6.at_, .int .i64 r6.deep, .slice a3 r5.l.length c3, .int .i64 r6.e_]) 0 ke5 rfl
 have o := o.call 0 ke5 bx5 rfl
 exact ⟨r6.at_, r6.deep, r5.l, r6.e_, xs5, a3, c3, h, (el7.st (st11.trans (st12.trans st13))), o, (st9.trans (st10.trans (st11.trans (st12.trans st13))))⟩
 exact ⟨r4.at_, r4.deep, l, r4.e_, xs2, a1, c1, h, (el3.st st9), o, st9⟩
 rintro _ w8 ⟨atx1, de1, l1, ex1, xs4, a2, c2, hJ, el5, o, st8⟩
 have h := h2 atx1 de1 l1 ex1 hJ
 intro b1 w13 hb1 hw13
 have el9 : El cStr (ms [.box rb [.slice rA0 r.toks.length rC0, .int .i64 atx1, .int .i64 de1, .slice a2 l1.length c2, .int .i64 ex1], .row 39 5 a2 l1.length c2 xs4] m) w8 ([[59]] : List (List UInt8)) ([.string (mkS [59])] : List Value) := (El.cons (cs := [.string (mkS [59])]) rfl (El.nil _ _ _))
 have fr3 : w.heap.size ≤ b1 := hb1 ▸ o.le
 have st14 := o.xL hb1 hw13 1 1
 have o := o.lit hb1 hw13 1 1 (by decide) rfl
 have le1 := (o.rowAt 0 rfl).cap
 have st15 := o.xX 0
 have f1 := o.freeze (c := cStr) (l := ([[59]] : List (List UInt8))) 0 rfl (fun q hq h => by have := hrs_ q hq; have := fr3; simp [Vc.blk] at h; omega) (el9.st (st14.trans st15))
 have o := o.erase 0
 refine call_then (h _ w13 (o.mo hm hrm (.head _)) _ _ _ _ _ (Mem.inms 0 rfl) (o.at 0 rfl) le_r0 (f_r0.st (st.trans (st1.trans (st2.trans (st3.trans (st4.trans (st8.trans (st14.trans st15)))))))) _ _ le1 f1) ?_
 rintro _ w14 ⟨r7, h, -, bx6, ke6⟩
 have st16 := o.xC (l' := [.slice rA0 r.toks.length rC0, .int .i64 r7.at_, .int .i64 r7.deep, .slice a2 l1.length c2, .int .i64 r7.e_]) 0 ke6 rfl
 have o := o.call 0 ke6 bx6 rfl
 exact ⟨(⟨r.toks, r7.at_, r7.deep, l1, r7.e_⟩ : Gparse_reader), h, trivial, ⟨_, _, _, o.at 0 rfl, o.rowAt 1 rfl, (el5.st (st14.trans (st15.trans (st16.trans (Mem.endRS (w := w14) (ps := [.box rb [.slice rA0 r.toks.length rC0, .int .i64 r7.at_, .int .i64 r7.deep, .slice a2 l1.length c2, .int .i64 r7.e_], .row 39 5 a2 l1.length c2 xs4]) (m0 := m) 1 rfl))))), o.oldnew 1 rfl 0 rfl (by decide)⟩, o.done⟩
 refine call_then (h _ w2 (o.mo hm hrm (.head _)) _ _ _ _ _ (Mem.inms 0 rfl) (o.at 0 rfl) le_r0 (f_r0.st (st.trans (st1.trans st2)))) ?_
 rintro _ w15 ⟨x5, r8, h, rfl, bx7, ke7⟩
 have st17 := o.xC (l' := [.slice rA0 r.toks.length rC0, .int .i64 r8.at_, .int .i64 r8.deep, .slice a r1.l.length c, .int .i64 r8.e_]) 0 ke7 rfl
 have o := o.call 0 ke7 bx7 rfl
 refine ⟨_, rfl, ?_⟩
 refine cond_map (fun h => ?_) (fun h => ?_) h
 refine ⟨_, _, _, (o.at 0 rfl).cell rfl, ?_⟩
 obtain ⟨hi2, h⟩ := h
 obtain ⟨p2, x6, cs2, hp2, he2, hc2, hr6⟩ := row_elem (o.rowAt 1 rfl) (el1.st (st2.trans st17)) hi2
 obtain rfl := GNode_out hr6
 have h := h x6 he2
 refine ⟨hi2, ptrOr_some hp2 ?_⟩
 have hq2 := row_putp (i := i.toNat) (o.rowAt 1 rfl) (el1.st (st2.trans st17)) hp2 he2 hc2.2 rfl 0 (.int .i64 40) (by decide)
 refine ⟨hq2.1, fun w16 hw16 => ?_⟩
 obtain ⟨xs6, hr7, hg2, hel2⟩ := hq2.2 _ hw16
 have el10 := hel2 (⟨40, x6.name, x6.n, x6.kids, x6.at_⟩ : GNode) (GNode_in (⟨40, x6.name, x6.n, x6.kids, x6.at_⟩ : GNode))
 have st18 := o.xA 1 rfl hr7 hg2 (.inl rfl)
 have o := o.app 1 rfl hr7 hg2 (.inl rfl)
 have ln2 : r1.l.length = (r1.l.set i.toNat (⟨40, x6.name, x6.n, x6.kids, x6.at_⟩ : GNode)).length := row_len (o.rowAt 1 rfl) (el10.st st18)
 obtain ⟨J2, h, h2⟩ := h
 refine ⟨fun w17 => ∃ (atx2 : Int) (de2 : Int) (l2 : List GNode) (ex2 : Int) (xs7 : List Value) (a4 : Option Addr) (c4 : Nat), J2 atx2 de2 l2 ex2 ∧ El cGNode (ms [.box rb [.slice rA0 r.toks.length rC0, .int .i64 atx2, .int .i64 de2, .slice a4 l2.length c4, .int .i64 ex2], .row 39 5 a4 l2.length c4 xs7] m) w17 l2 xs7 ∧ Mem w.heap.size (rb :: (Vc.blk rA).toList) m [((rb :: (Vc.blk rA).toList), w.heap.size, w)] [] w17 [.box rb [.slice rA0 r.toks.length rC0, .int .i64 atx2, .int .i64 de2, .slice a4 l2.length c4, .int .i64 ex2], .row 39 5 a4 l2.length c4 xs7] ∧ Step (ms [.box rb [.slice rA0 r.toks.length rC0, .int .i64 r8.at_, .int .i64 r8.deep, .slice a r1.l.length c, .int .i64 r8.e_], .row 39 5 a r1.l.length c xs6] m) w16 (ms [.box rb [.slice rA0 r.toks.length rC0, .int .i64 atx2, .int .i64 de2, .slice a4 l2.length c4, .int .i64 ex2], .row 39 5 a4 l2.length c4 xs7] m) w17, ?_, ?_⟩
 intro w18 hw18
 obtain ⟨st20, o⟩ := o.dD hw18
 rw [ln2] at o
 try rw [ln2]
 have ox1 := o
 refine ⟨fun u => Keep [rb] w18 u ∧ u.cell? ⟨rb, 3, none⟩ = some (.slice a ((r1.l.set i.toNat (⟨40, x6.name, x6.n, x6.kids, x6.at_⟩ : GNode)).length) c), ⟨Keep.refl _ _, (o.at 0 rfl).cell (i := 3) rfl⟩, ?_⟩
 refine ⟨_, _, _, fun u hu => hu.2, ?_⟩
 refine call_then (h _ w18 (o.mo hm hrm (.head _)) _ _ _ _ _ (Mem.inms 0 rfl) (o.at 0 rfl) le_r0 (f_r0.st (st.trans (st1.trans (st2.trans (st17.trans (st18.trans st20))))))) ?_
 rintro _ w19 ⟨x7, r9, h, rfl, bx8, ke8⟩
 have st21 := o.xC (l' := [.slice rA0 r.toks.length rC0, .int .i64 r9.at_, .int .i64 r9.deep, .slice a ((r1.l.set i.toNat (⟨40, x6.name, x6.n, x6.kids, x6.at_⟩ : GNode)).length) c, .int .i64 r9.e_]) 0 ke8 rfl
 have o := o.call 0 ke8 bx8 rfl
 refine ⟨_, rfl, ?_⟩
 refine ⟨⟨(Keep.mono ke8 (by simp)), (o.at 0 rfl).cell (i := 3) rfl⟩, ?_⟩
 obtain ⟨hi3, h⟩ := h
 obtain ⟨p3, x8, cs3, hp3, he3, hc3, hr8⟩ := row_elem (o.rowAt 1 rfl) (el10.st (st18.trans (st20.trans st21))) hi3
 obtain rfl := GNode_out hr8
 have h := h x8 he3
 refine ⟨hi3, ptrOr_some hp3 ?_⟩
 have hq3 := row_putp (i := i.toNat) (o.rowAt 1 rfl) (el10.st (st18.trans (st20.trans st21))) hp3 he3 hc3.2 rfl 1 (.string (mkS x7)) (by decide)
 refine ⟨hq3.1, fun w20 hw20 => ?_⟩
 obtain ⟨xs8, hr9, hg3, hel3⟩ := hq3.2 _ hw20
 have el12 := hel3 (⟨x8.op, x7, x8.n, x8.kids, x8.at_⟩ : GNode) (GNode_in (⟨x8.op, x7, x8.n, x8.kids, x8.at_⟩ : GNode))
 have st22 := o.xA 1 rfl hr9 hg3 (.inl rfl)
 have o := o.app 1 rfl hr9 hg3 (.inl rfl)
 have ln3 : (r1.l.set i.toNat (⟨40, x6.name, x6.n, x6.kids, x6.at_⟩ : GNode)).length = ((r1.l.set i.toNat (⟨40, x6.name, x6.n, x6.kids, x6.at_⟩ : GNode)).set i.toNat (⟨x8.op, x7, x8.n, x8.kids, x8.at_⟩ : GNode)).length := row_len (o.rowAt 1 rfl) (el12.st st22)
 rw [ln3] at o
 exact ⟨r9.at_, r9.deep, ((r1.l.set i.toNat (⟨40, x6.name, x6.n, x6.kids, x6.at_⟩ : GNode)).set i.toNat (⟨x8.op, x7, x8.n, x8.kids, x8.at_⟩ : GNode)), r9.e_, xs8, a, c, h, (el12.st st22), o, (st20.trans (st21.trans st22))⟩
 rintro _ w17 ⟨atx2, de2, l2, ex2, xs7, a4, c4, hJ, el11, o, st19⟩
 have h := h2 atx2 de2 l2 ex2 hJ
 intro b2 w21 hb2 hw21
 have el13 : El cStr (ms [.box rb [.slice rA0 r.toks.length rC0, .int .i64 atx2, .int .i64 de2, .slice a4 l2.length c4, .int .i64 ex2], .row 39 5 a4 l2.length c4 xs7] m) w17 ([[40]] : List (List UInt8)) ([.string (mkS [40])] : List Value) := (El.cons (cs := [.string (mkS [40])]) rfl (El.nil _ _ _))
 have fr4 : w.heap.size ≤ b2 := hb2 ▸ o.le
 have st23 := o.xL hb2 hw21 1 1
 have o := o.lit hb2 hw21 1 1 (by decide) rfl
 have le2 := (o.rowAt 0 rfl).cap
 have st24 := o.xX 0
 have f2 := o.freeze (c := cStr) (l := ([[40]] : List (List UInt8))) 0 rfl (fun q hq h => by have := hrs_ q hq; have := fr4; simp [Vc.blk] at h; omega) (el13.st (st23.trans st24))
 have o := o.erase 0
 refine call_then (h _ w21 (o.mo hm hrm (.head _)) _ _ _ _ _ (Mem.inms 0 rfl) (o.at 0 rfl) le_r0 (f_r0.st (st.trans (st1.trans (st2.trans (st17.trans (st18.trans (st19.trans (st23.trans st24)))))))) _ _ le2 f2) ?_
 rintro _ w22 ⟨r10, h, -, bx9, ke9⟩
 have st25 := o.xC (l' := [.slice rA0 r.toks.length rC0, .int .i64 r10.at_, .int .i64 r10.deep, .slice a4 l2.length c4, .int .i64 r10.e_]) 0 ke9 rfl
 have o := o.call 0 ke9 bx9 rfl
 obtain ⟨J3, h, h2⟩ := h
 refine ⟨fun w23 => ∃ (atx3 : Int) (de3 : Int) (l3 : List GNode) (ex3 : Int) (xs9 : List Value) (a5 : Option Addr) (c5 : Nat), J3 atx3 de3 l3 ex3 ∧ El cGNode (ms [.box rb [.slice rA0 r.toks.length rC0, .int .i64 atx3, .int .i64 de3, .slice a5 l3.length c5, .int .i64 ex3], .row 39 5 a5 l3.length c5 xs9] m) w23 l3 xs9 ∧ Mem w.heap.size (rb :: (Vc.blk rA).toList) m [((rb :: (Vc.blk rA).toList), w.heap.size, w)] [] w23 [.box rb [.slice rA0 r.toks.length rC0, .int .i64 atx3, .int .i64 de3, .slice a5 l3.length c5, .int .i64 ex3], .row 39 5 a5 l3.length c5 xs9] ∧ Step (ms [.box rb [.slice rA0 r.toks.length rC0, .int .i64 r10.at_, .int .i64 r10.deep, .slice a4 l2.length c4, .int .i64 r10.e_], .row 39 5 a4 l2.length c4 xs7] m) w22 (ms [.box rb [.slice rA0 r.toks.length rC0, .int .i64 atx3, .int .i64 de3, .slice a5 l3.length c5, .int .i64 ex3], .row 39 5 a5 l3.length c5 xs9] m) w23, ?_, ?_⟩
 refine call_then (h _ w22 (o.mo hm hrm (.head _)) _ _ _ _ _ (Mem.inms 0 rfl) (o.at 0 rfl) le_r0 (f_r0.st (st.trans (st1.trans (st2.trans (st17.trans (st18.trans (st19.trans (st23.trans (st24.trans st25)))))))))) ?_
 rintro _ w24 ⟨x9, r11, h, rfl, bx10, ke10⟩
 have st27 := o.xC (l' := [.slice rA0 r.toks.length rC0, .int .i64 r11.at_, .int .i64 r11.deep, .slice a4 l2.length c4, .int .i64 r11.e_]) 0 ke10 rfl
 have o := o.call 0 ke10 bx10 rfl
 refine ⟨_, rfl, ?_⟩
 refine cond_map (fun h => ?_) (fun h => ?_) h
 refine call_then (h _ w24 (o.mo hm hrm (.head _)) _ _ _ _ _ _ (Mem.inms 0 rfl) (o.objin 0 1 rfl rfl (by decide)) (o.at 0 rfl) (o.rowAt 1 rfl) (el11.st (st23.trans (st24.trans (st25.trans st27)))) le_r0 (f_r0.st (st.trans (st1.trans (st2.trans (st17.trans (st18.trans (st19.trans (st23.trans (st24.trans (st25.trans st27))))))))))) ?_
 rintro _ w25 ⟨r12, h, -, ⟨a6, c6, xs10, bx11, hr10, el15, fr5⟩, ke11⟩
 have st28 := Mem.call2S (ps := [.box rb [.slice rA0 r.toks.length rC0, .int .i64 r11.at_, .int .i64 r11.deep, .slice a4 l2.length c4, .int .i64 r11.e_], .row 39 5 a4 l2.length c4 xs7]) (m0 := m) (l' := [.slice rA0 r.toks.length rC0, .int .i64 r12.at_, .int .i64 r12.deep, .slice a6 r12.l.length c6, .int .i64 r12.e_]) (n' := r12.l.length) (c' := c6) (xs' := xs10) 0 1 rfl rfl ke11 fr5
 have el16 := El.st el15 (Mem.call2D (ps := [.box rb [.slice rA0 r.toks.length rC0, .int .i64 r11.at_, .int .i64 r11.deep, .slice a4 l2.length c4, .int .i64 r11.e_], .row 39 5 a4 l2.length c4 xs7]) (m0 := m) (l' := [.slice rA0 r.toks.length rC0, .int .i64 r12.at_, .int .i64 r12.deep, .slice a6 r12.l.length c6, .int .i64 r12.e_]) (e := 39) (size := 5) (n' := r12.l.length) (c' := c6) (xs' := xs10) 0 1 rfl)
 have o := o.call2 0 1 rfl rfl (by decide) ke11 bx11 hr10 fr5
 obtain ⟨I, ⟨n2, h⟩, h2⟩ := h
 obtain ⟨Z, hZ⟩ : ∃ Z : World → Nat → Prop, Z = fun w26 n => ∃ (atx4 : Int) (de4 : Int) (l4 : List GNode) (ex4 : Int) (xs11 : List Value) (a7 : Option Addr) (c7 : Nat), I atx4 de4 l4 ex4 n ∧ El cGNode (ms [.box rb [.slice rA0 r.toks.length rC0, .int .i64 atx4, .int .i64 de4, .slice a7 l4.length c7, .int .i64 ex4], .row 39 5 a7 l4.length c7 xs11] m) w26 l4 xs11 ∧ Mem w.heap.size (rb :: (Vc.blk rA).toList) m [((rb :: (Vc.blk rA).toList), w.heap.size, w)] [] w26 [.box rb [.slice rA0 r.toks.length rC0, .int .i64 atx4, .int .i64 de4, .slice a7 l4.length c7, .int .i64 ex4], .row 39 5 a7 l4.length c7 xs11] ∧ Step (ms [.box rb [.slice rA0 r.toks.length rC0, .int .i64 r12.at_, .int .i64 r12.deep, .slice a6 r12.l.length c6, .int .i64 r12.e_], .row 39 5 a6 r12.l.length c6 xs10] m) w25 (ms [.box rb [.slice rA0 r.toks.length rC0, .int .i64 atx4, .int .i64 de4, .slice a7 l4.length c7, .int .i64 ex4], .row 39 5 a7 l4.length c7 xs11] m) w26 := ⟨_, rfl⟩
 refine ⟨fun w26 => ∃ n, Z w26 n, fun w26 => leastN (Z w26), ⟨n2, ?_⟩, ?_⟩
 rw [hZ]; exact ⟨r12.at_, r12.deep, r12.l, r12.e_, xs10, a6, c6, h, el16, o, Step.refl _ _⟩
 intro _ w26 hIZ
 obtain ⟨n, hnn⟩ : ∃ n, n = leastN (Z w26) := ⟨_, rfl⟩
 have hIZ := leastN_at hIZ
 rw [← hnn, hZ] at hIZ
 obtain ⟨atx4, de4, l4, ex4, xs11, a7, c7, h, el17, o, st29⟩ := hIZ
 have h := h2 atx4 de4 l4 ex4 n h
 refine call_then (h _ w26 (o.mo hm hrm (.head _)) _ _ _ _ _ (Mem.inms 0 rfl) (o.at 0 rfl) le_r0 (f_r0.st (st.trans (st1.trans (st2.trans (st17.trans (st18.trans (st19.trans (st23.trans (st24.trans (st25.trans (st27.trans (st28.trans st29))))))))))))) ?_
 rintro _ w27 ⟨x10, r13, h, rfl, bx12, ke12⟩
 have st30 := o.xC (l' := [.slice rA0 r.toks.length rC0, .int .i64 r13.at_, .int .i64 r13.deep, .slice a7 l4.length c7, .int .i64 r13.e_]) 0 ke12 rfl
 have o := o.call 0 ke12 bx12 rfl
 refine ⟨_, rfl, ?_⟩
 refine cond_map (fun h => ?_) (fun h => ?_) h
 refine call_then (h _ w27 (o.mo hm hrm (.head _)) _ _ _ _ _ _ (Mem.inms 0 rfl) (o.objin 0 1 rfl rfl (by decide)) (o.at 0 rfl) (o.rowAt 1 rfl) (el17.st st30) le_r0 (f_r0.st (st.trans (st1.trans (st2.trans (st17.trans (st18.trans (st19.trans (st23.trans (st24.trans (st25.trans (st27.trans (st28.trans (st29.trans st30)))))))))))))) ?_
 rintro _ w28 ⟨r14, h, -, ⟨a8, c8, xs12, bx13, hr11, el18, fr6⟩, ke13⟩
 have st31 := Mem.call2S (ps := [.box rb [.slice rA0 r.toks.length rC0, .int .i64 r13.at_, .int .i64 r13.deep, .slice a7 l4.length c7, .int .i64 r13.e_], .row 39 5 a7 l4.length c7 xs11]) (m0 := m) (l' := [.slice rA0 r.toks.length rC0, .int .i64 r14.at_, .int .i64 r14.deep, .slice a8 r14.l.length c8, .int .i64 r14.e_]) (n' := r14.l.length) (c' := c8) (xs' := xs12) 0 1 rfl rfl ke13 fr6
 have el19 := El.st el18 (Mem.call2D (ps := [.box rb [.slice rA0 r.toks.length rC0, .int .i64 r13.at_, .int .i64 r13.deep, .slice a7 l4.length c7, .int .i64 r13.e_], .row 39 5 a7 l4.length c7 xs11]) (m0 := m) (l' := [.slice rA0 r.toks.length rC0, .int .i64 r14.at_, .int .i64 r14.deep, .slice a8 r14.l.length c8, .int .i64 r14.e_]) (e := 39) (size := 5) (n' := r14.l.length) (c' := c8) (xs' := xs12) 0 1 rfl)
 have o := o.call2 0 1 rfl rfl (by decide) ke13 bx13 hr11 fr6
 obtain ⟨n1, hl, h⟩ := h
 exact loop_again hnn (show Z w28 n1 from (by rw [hZ]; exact ⟨r14.at_, r14.deep, r14.l, r14.e_, xs12, a8, c8, h, el19, o, (st29.trans (st30.trans st31))⟩)) hl
 intro b3 w29 hb3 hw29
 have el20 : El cStr (ms [.box rb [.slice rA0 r.toks.length rC0, .int .i64 r13.at_, .int .i64 r13.deep, .slice a7 l4.length c7, .int .i64 r13.e_], .row 39 5 a7 l4.length c7 xs11] m) w27 ([[41]] : List (List UInt8)) ([.string (mkS [41])] : List Value) := (El.cons (cs := [.string (mkS [41])]) rfl (El.nil _ _ _))
 have fr7 : w.heap.size ≤ b3 := hb3 ▸ o.le
 have st32 := o.xL hb3 hw29 1 1
 have o := o.lit hb3 hw29 1 1 (by decide) rfl
 have le3 := (o.rowAt 0 rfl).cap
 have st33 := o.xX 0
 have f3 := o.freeze (c := cStr) (l := ([[41]] : List (List UInt8))) 0 rfl (fun q hq h => by have := hrs_ q hq; have := fr7; simp [Vc.blk] at h; omega) (el20.st (st32.trans st33))
 have o := o.erase 0
 refine call_then (h _ w29 (o.mo hm hrm (.head _)) _ _ _ _ _ (Mem.inms 0 rfl) (o.at 0 rfl) le_r0 (f_r0.st (st.trans (st1.trans (st2.trans (st17.trans (st18.trans (st19.trans (st23.trans (st24.trans (st25.trans (st27.trans (st28.trans (st29.trans (st30.trans (st32.trans st33))))))))))))))) _ _ le3 f3) ?_
 rintro _ w30 ⟨r15, h, -, bx14, ke14⟩
 have st34 := o.xC (l' := [.slice rA0 r.toks.length rC0, .int .i64 r15.at_, .int .i64 r15.deep, .slice a7 l4.length c7, .int .i64 r15.e_]) 0 ke14 rfl
 have o := o.call 0 ke14 bx14 rfl
 exact ⟨r15.at_, r15.deep, l4, r15.e_, xs11, a7, c7, h, (el17.st (st30.trans (st32.trans (st33.trans st34)))), o, (st27.trans (st28.trans (st29.trans (st30.trans (st32.trans (st33.trans st34))))))⟩
 exact ⟨r11.at_, r11.deep, l2, r11.e_, xs7, a4, c4, h, (el11.st (st23.trans (st24.trans (st25.trans st27)))), o, st27⟩
 rintro _ w23 ⟨atx3, de3, l3, ex3, xs9, a5, c5, hJ, el14, o, st26⟩
 have h := h2 atx3 de3 l3 ex3 hJ
 refine call_then (h _ w23 (o.mo hm hrm (.head _)) _ _ _ _ _ _ (Mem.inms 0 rfl) (o.objin 0 1 rfl rfl (by decide)) (o.at 0 rfl) (o.rowAt 1 rfl) el14 le_r0 (f_r0.st (st.trans (st1.trans (st2.trans (st17.trans (st18.trans (st19.trans (st23.trans (st24.trans (st25.trans st26))))))))))) ?_
 rintro _ w31 ⟨r16, h, -, ⟨a9, c9, xs13, bx15, hr12, el21, fr8⟩, ke15⟩
 have st35 := Mem.call2S (ps := [.box rb [.slice rA0 r.toks.length rC0, .int .i64 atx3, .int .i64 de3, .slice a5 l3.length c5, .int .i64 ex3], .row 39 5 a5 l3.length c5 xs9]) (m0 := m) (l' := [.slice rA0 r.toks.length rC0, .int .i64 r16.at_, .int .i64 r16.deep, .slice a9 r16.l.length c9, .int .i64 r16.e_]) (n' := r16.l.length) (c' := c9) (xs' := xs13) 0 1 rfl rfl ke15 fr8
 have el22 := El.st el21 (Mem.call2D (ps := [.box rb [.slice rA0 r.toks.length rC0, .int .i64 atx3, .int .i64 de3, .slice a5 l3.length c5, .int .i64 ex3], .row 39 5 a5 l3.length c5 xs9]) (m0 := m) (l' := [.slice rA0 r.toks.length rC0, .int .i64 r16.at_, .int .i64 r16.deep, .slice a9 r16.l.length c9, .int .i64 r16.e_]) (e := 39) (size := 5) (n' := r16.l.length) (c' := c9) (xs' := xs13) 0 1 rfl)
 have o := o.call2 0 1 rfl rfl (by decide) ke15 bx15 hr12 fr8
 exact ⟨(⟨r.toks, r16.at_, r16.deep, r16.l, r16.e_⟩ : Gparse_reader), h, trivial, ⟨_, _, _, o.at 0 rfl, o.rowAt 1 rfl, (el22.st (Mem.endRS (w := w31) (ps := [.box rb [.slice rA0 r.toks.length rC0, .int .i64 r16.at_, .int .i64 r16.deep, .slice a9 r16.l.length c9, .int .i64 r16.e_], .row 39 5 a9 r16.l.length c9 xs13]) (m0 := m) 1 rfl)), o.oldnew 1 rfl 0 rfl (by decide)⟩, o.done⟩
 intro b4 w32 hb4 hw32
 have el23 : El cStr (ms [.box rb [.slice rA0 r.toks.length rC0, .int .i64 r8.at_, .int .i64 r8.deep, .slice a r1.l.length c, .int .i64 r8.e_], .row 39 5 a r1.l.length c xs] m) w15 ([[109, 97, 105, 110]] : List (List UInt8)) ([.string (mkS [109, 97, 105, 110])] : List Value) := (El.cons (cs := [.string (mkS [109, 97, 105, 110])]) rfl (El.nil _ _ _))
 have fr9 : w.heap.size ≤ b4 := hb4 ▸ o.le
 have st36 := o.xL hb4 hw32 1 1
 have o := o.lit hb4 hw32 1 1 (by decide) rfl
 have le4 := (o.rowAt 0 rfl).cap
 have st37 := o.xX 0
 have f4 := o.freeze (c := cStr) (l := ([[109, 97, 105, 110]] : List (List UInt8))) 0 rfl (fun q hq h => by have := hrs_ q hq; have := fr9; simp [Vc.blk] at h; omega) (el23.st (st36.trans st37))
 have o := o.erase 0
 refine call_then (h _ w32 (o.mo hm hrm (.head _)) _ _ _ _ _ (Mem.inms 0 rfl) (o.at 0 rfl) le_r0 (f_r0.st (st.trans (st1.trans (st2.trans (st17.trans (st36.trans st37)))))) _ _ le4 f4) ?_
 rintro _ w33 ⟨r17, h, -, bx16, ke16⟩
 have st38 := o.xC (l' := [.slice rA0 r.toks.length rC0, .int .i64 r17.at_, .int .i64 r17.deep, .slice a r1.l.length c, .int .i64 r17.e_]) 0 ke16 rfl
 have o := o.call 0 ke16 bx16 rfl
 refine call_then (h _ w33 (o.mo hm hrm (.head _)) _ _ _ _ _ _ (Mem.inms 0 rfl) (o.objin 0 1 rfl rfl (by decide)) (o.at 0 rfl) (o.rowAt 1 rfl) (el1.st (st2.trans (st17.trans (st36.trans (st37.trans st38))))) le_r0 (f_r0.st (st.trans (st1.trans (st2.trans (st17.trans (st36.trans (st37.trans st38)))))))) ?_
 rintro _ w34 ⟨r18, h, -, ⟨a10, c10, xs14, bx17, hr13, el24, fr10⟩, ke17⟩
 have st39 := Mem.call2S (ps := [.box rb [.slice rA0 r.toks.length rC0, .int .i64 r17.at_, .int .i64 r17.deep, .slice a r1.l.length c, .int .i64 r17.e_], .row 39 5 a r1.l.length c xs]) (m0 := m) (l' := [.slice rA0 r.toks.length rC0, .int .i64 r18.at_, .int .i64 r18.deep, .slice a10 r18.l.length c10, .int .i64 r18.e_]) (n' := r18.l.length) (c' := c10) (xs' := xs14) 0 1 rfl rfl ke17 fr10
 have el25 := El.st el24 (Mem.call2D (ps := [.box rb [.slice rA0 r.toks.length rC0, .int .i64 r17.at_, .int .i64 r17.deep, .slice a r1.l.length c, .int .i64 r17.e_], .row 39 5 a r1.l.length c xs]) (m0 := m) (l' := [.slice rA0 r.toks.length rC0, .int .i64 r18.at_, .int .i64 r18.deep, .slice a10 r18.l.length c10, .int .i64 r18.e_]) (e := 39) (size := 5) (n' := r18.l.length) (c' := c10) (xs' := xs14) 0 1 rfl)
 have o := o.call2 0 1 rfl rfl (by decide) ke17 bx17 hr13 fr10
 exact ⟨(⟨r.toks, r18.at_, r18.deep, r18.l, r18.e_⟩ : Gparse_reader), h, trivial, ⟨_, _, _, o.at 0 rfl, o.rowAt 1 rfl, (el25.st (Mem.endRS (w := w34) (ps := [.box rb [.slice rA0 r.toks.length rC0, .int .i64 r18.at_, .int .i64 r18.deep, .slice a10 r18.l.length c10, .int .i64 r18.e_], .row 39 5 a10 r18.l.length c10 xs14]) (m0 := m) 1 rfl)), o.oldnew 1 rfl 0 rfl (by decide)⟩, o.done⟩
def parse_reader_size_vwp (r : Gparse_reader) (i : Int) (K : Gparse_reader → Prop) : Prop :=
 V_parse_reader_see r 0 (fun x =>
 cond (r.e_ != 0)
 (K r)
 (cond (x.kind != 2)
 (V_parse_reader_fail r 11 (fun r1 =>
 K (⟨r.toks, r1.at_, r1.deep, r.l, r1.e_⟩ : Gparse_reader)))
 (∃ (J : Bool → Prop),
 (cond (decide (x.n < 1))
 (J true)
 (J (decide (x.n > 16)))) ∧
 ∀ (x1 : Bool), J x1 →
 cond (x1)
 (V_parse_reader_fail r 6 (fun r2 =>
 K (⟨r.toks, r2.at_, r2.deep, r.l, r2.e_⟩ : Gparse_reader)))
 (((0 : Int) ≤ i ∧ i < (r.l.length : Int)) ∧
 ∀ x2, r.l[i.toNat]? = some x2 →
 K (⟨r.toks, IntKind.i64.wrap (r.at_ + 1), r.deep, (r.l.set i.toNat (⟨x2.op, x2.name, x.n, x2.kids, x2.at_⟩ : GNode)), r.e_⟩ : Gparse_reader)))))
set_option maxRecDepth 10000 in
theorem parse_reader_size_lift (r : Gparse_reader) (i : Int) (K : Gparse_reader → Prop) (h : parse_reader_size_vwp r i K) : V_parse_reader_size r i K := by
 intro m w hm rb rA rC rxs rA0 rC0 in_r ina_r bx_r rw_r f_r le_r0 f_r0
 have hrs_ := Mem.objlt hm.lt in_r ina_r
 have o := Mem.obj hm.lt in_r ina_r bx_r rw_r
 have st := Mem.objS (w := w) (l := [.slice rA0 r.toks.length rC0, .int .i64 r.at_, .int .i64 r.deep, .slice rA r.l.length rC, .int .i64 r.e_]) (e := 39) (size := 5) (n := r.l.length) (c := rC) (xs := rxs) in_r ina_r
 have hrm : ∀ b ∈ (rb :: (Vc.blk rA).toList), b ∈ m := fun b hb => (List.mem_cons.1 hb).elim (fun e => e ▸ in_r) (fun h => (ina_r b (Option.mem_toList.1 h)).1)
 refine parse_reader_size_ok rb i _ _ ?_
 refine call_then (h _ w (o.mo hm hrm (.head _)) _ _ _ _ _ (o.at 0 rfl) le_r0 (f_r0.st st)) ?_
 rintro _ w1 ⟨x, h, ⟨cs, rfl, f⟩, ke⟩
 obtain ⟨st1, o⟩ := o.dE ke
 obtain rfl := GToken_out f
 refine ⟨_, _, _, _, rfl, ?_⟩
 intro b w2 hb hw2
 obtain ⟨st2, o⟩ := o.dB hb hw2
 refine ⟨o.wr 0 rfl rfl, fun w3 hw3 => ?_⟩
 obtain ⟨st3, o⟩ := o.dSs 0 hw3 rfl
 refine ⟨_, (o.at 1 rfl).cell rfl, ?_⟩
 refine cond_map (fun h => ?_) (fun h => ?_) h
 exact ⟨r, h, trivial, ⟨_, _, _, o.at 1 rfl, o.rowAt 2 rfl, (f_r.st (st.trans (st1.trans (st2.trans (st3.trans (Mem.endRS (w := w3) (ps := [.box b [.int .i64 x.kind, .string (mkS x.text), .int .i64 x.n, .int .i64 x.at_], .box rb [.slice rA0 r.toks.length rC0, .int .i64 r.at_, .int .i64 r.deep, .slice rA r.l.length rC, .int .i64 r.e_], .row 39 5 rA r.l.length rC rxs]) (m0 := m) 2 rfl)))))), o.oldnew 2 rfl 1 rfl (by decide)⟩, o.done⟩
 refine ⟨_, (o.at 0 rfl).cell rfl, ?_⟩
 refine cond_map (fun h => ?_) (fun h => ?_) h
 refine call_then (h _ w3 (o.mo hm hrm (.head _)) _ _ _ _ _ (Mem.inms 1 rfl) (o.at 1 rfl) le_r0 (f_r0.st (st.trans (st1.trans (st2.trans st3))))) ?_
 rintro _ w4 ⟨r1, h, -, bx, ke1⟩
 have st4 := o.xC (l' := [.slice rA0 r.toks.length rC0, .int .i64 r1.at_, .int .i64 r1.deep, .slice rA r.l.length rC, .int .i64 r1.e_]) 1 ke1 rfl
 have o := o.call 1 ke1 bx rfl
 exact ⟨(⟨r.toks, r1.at_, r1.deep, r.l, r1.e_⟩ : Gparse_reader), h, trivial, ⟨_, _, _, o.at 1 rfl, o.rowAt 2 rfl, (f_r.st (st.trans (st1.trans (st2.trans (st3.trans (st4.trans (Mem.endRS (w := w4) (ps := [.box b [.int .i64 x.kind, .string (mkS x.text), .int .i64 x.n, .int .i64 x.at_], .box rb [.slice rA0 r.toks.length rC0, .int .i64 r1.at_, .int .i64 r1.deep, .slice rA r.l.length rC, .int .i64 r1.e_], .row 39 5 rA r.l.length rC rxs]) (m0 := m) 2 rfl))))))), o.oldnew 2 rfl 1 rfl (by decide)⟩, o.done⟩
 obtain ⟨J, h, h2⟩ := h
 refine ⟨fun x1 w5 => J x1 ∧ Mem w.heap.size (rb :: (Vc.blk rA).toList) m [((rb :: (Vc.blk rA).toList), w.heap.size, w)] [] w5 [.box b [.int .i64 x.kind, .string (mkS x.text), .int .i64 x.n, .int .i64 x.at_], .box rb [.slice rA0 r.toks.length rC0, .int .i64 r.at_, .int .i64 r.deep, .slice rA r.l.length rC, .int .i64 r.e_], .row 39 5 rA r.l.length rC rxs] ∧ Step (ms [.box b [.int .i64 x.kind, .string (mkS x.text), .int .i64 x.n, .int .i64 x.at_], .box rb [.slice rA0 r.toks.length rC0, .int .i64 r.at_, .int .i64 r.deep, .slice rA r.l.length rC, .int .i64 r.e_], .row 39 5 rA r.l.length rC rxs] m) w3 (ms [.box b [.int .i64 x.kind, .string (mkS x.text), .int .i64 x.n, .int .i64 x.at_], .box rb [.slice rA0 r.toks.length rC0, .int .i64 r.at_, .int .i64 r.deep, .slice rA r.l.length rC, .int .i64 r.e_], .row 39 5 rA r.l.length rC rxs] m) w5, ?_, ?_⟩
 refine ⟨_, (o.at 0 rfl).cell rfl, ?_⟩
 refine cond_map (fun h => ?_) (fun h => ?_) h
 exact ⟨h, o, Step.refl _ _⟩
 refine ⟨_, (o.at 0 rfl).cell rfl, ?_⟩
 exact ⟨h, o, Step.refl _ _⟩
 rintro _ x1 w5 ⟨hJ, o, st5⟩
 have h := h2 x1 hJ
 refine cond_map (fun h => ?_) (fun h => ?_) h
 refine call_then (h _ w5 (o.mo hm hrm (.head _)) _ _ _ _ _ (Mem.inms 1 rfl) (o.at 1 rfl) le_r0 (f_r0.st (st.trans (st1.trans (st2.trans (st3.trans st5)))))) ?_
 rintro _ w6 ⟨r2, h, -, bx1, ke2⟩
 have st6 := o.xC (l' := [.slice rA0 r.toks.length rC0, .int .i64 r2.at_, .int .i64 r2.deep, .slice rA r.l.length rC, .int .i64 r2.e_]) 1 ke2 rfl
 have o := o.call 1 ke2 bx1 rfl
 exact ⟨(⟨r.toks, r2.at_, r2.deep, r.l, r2.e_⟩ : Gparse_reader), h, trivial, ⟨_, _, _, o.at 1 rfl, o.rowAt 2 rfl, (f_r.st (st.trans (st1.trans (st2.trans (st3.trans (st5.trans (st6.trans (Mem.endRS (w := w6) (ps := [.box b [.int .i64 x.kind, .string (mkS x.text), .int .i64 x.n, .int .i64 x.at_], .box rb [.slice rA0 r.toks.length rC0, .int .i64 r2.at_, .int .i64 r2.deep, .slice rA r.l.length rC, .int .i64 r2.e_], .row 39 5 rA r.l.length rC rxs]) (m0 := m) 2 rfl)))))))), o.oldnew 2 rfl 1 rfl (by decide)⟩, o.done⟩
 refine ⟨_, (o.at 1 rfl).cell rfl, ?_⟩
 refine ⟨o.wr 1 rfl rfl, fun w7 hw7 => ?_⟩
 obtain ⟨st7, o⟩ := o.dS 1 hw7 rfl
 intro w8 hw8
 obtain ⟨st8, o⟩ := o.dD hw8
 refine ⟨_, _, _, (o.at 1 rfl).cell rfl, ?_⟩
 refine ⟨_, (o.at 0 rfl).cell rfl, ?_⟩
 obtain ⟨hi, h⟩ := h
 obtain ⟨p, x2, cs1, hp, he, hc, hr⟩ := row_elem (o.rowAt 2 rfl) (f_r.st (st.trans (st1.trans (st2.trans (st3.trans (st5.trans (st7.trans st8))))))) hi
 obtain rfl := GNode_out hr
 have h := h x2 he
 refine ⟨hi, ptrOr_some hp ?_⟩
 have hq := row_putp (i := i.toNat) (o.rowAt 2 rfl) (f_r.st (st.trans (st1.trans (st2.trans (st3.trans (st5.trans (st7.trans st8))))))) hp he hc.2 rfl 2 (.int .i64 x.n) (by decide)
 refine ⟨hq.1, fun w9 hw9 => ?_⟩
 obtain ⟨xs, hr1, hg, hel⟩ := hq.2 _ hw9
 have el := hel (⟨x2.op, x2.name, x.n, x2.kids, x2.at_⟩ : GNode) (GNode_in (⟨x2.op, x2.name, x.n, x2.kids, x2.at_⟩ : GNode))
 have st9 := o.xA 2 rfl hr1 hg (.inl rfl)
 have o := o.app 2 rfl hr1 hg (.inl rfl)
 have ln : r.l.length = (r.l.set i.toNat (⟨x2.op, x2.name, x.n, x2.kids, x2.at_⟩ : GNode)).length := row_len (o.rowAt 2 rfl) (el.st st9)
 rw [ln] at o
 try rw [ln]
 exact ⟨(⟨r.toks, IntKind.i64.wrap (r.at_ + 1), r.deep, (r.l.set i.toNat (⟨x2.op, x2.name, x.n, x2.kids, x2.at_⟩ : GNode)), r.e_⟩ : Gparse_reader), h, trivial, ⟨_, _, _, o.at 1 rfl, o.rowAt 2 rfl, (el.st (st9.trans (Mem.endRS (w := w9) (ps := [.box b [.int .i64 x.kind, .string (mkS x.text), .int .i64 x.n, .int .i64 x.at_], .box rb [.slice rA0 r.toks.length rC0, .int .i64 (IntKind.i64.wrap (r.at_ + 1)), .int .i64 r.deep, .slice rA ((r.l.set i.toNat (⟨x2.op, x2.name, x.n, x2.kids, x2.at_⟩ : GNode)).length) rC, .int .i64 r.e_], .row 39 5 rA ((r.l.set i.toNat (⟨x2.op, x2.name, x.n, x2.kids, x2.at_⟩ : GNode)).length) rC xs]) (m0 := m) 2 rfl))), o.oldnew 2 rfl 1 rfl (by decide)⟩, o.done⟩
def parse_reader_param_vwp (r : Gparse_reader) (up : Int) (K : Gparse_reader → Prop) : Prop :=
 V_parse_reader_open r 39 (fun i r1 =>
 ∃ (J : Int → Int → (List GNode) → Int → Prop),
 (V_parse_reader_name (⟨r.toks, r1.at_, r1.deep, r1.l, r1.e_⟩ : Gparse_reader) (fun x r2 =>
 ((0 : Int) ≤ i ∧ i < (r1.l.length : Int)) ∧
 ∀ x1, r1.l[i.toNat]? = some x1 →
 J r2.at_ r2.deep (r1.l.set i.toNat (⟨x1.op, x, x1.n, x1.kids, x1.at_⟩ : GNode)) r2.e_)) ∧
 ∀ (atx : Int) (de : Int) (l : List GNode) (ex : Int), J atx de l ex →
 ((0 : Int) ≤ up ∧ up < (l.length : Int)) ∧
 ∀ x2, l[up.toNat]? = some x2 →
 ((0 : Int) ≤ up ∧ up < (l.length : Int)) ∧
 ∀ x3, l[up.toNat]? = some x3 →
 K (⟨r.toks, atx, de, (l.set up.toNat (⟨x3.op, x3.name, x3.n, IntKind.i64.wrap (x2.kids + 1), x3.at_⟩ : GNode)), ex⟩ : Gparse_reader))
set_option maxRecDepth 10000 in
theorem parse_reader_param_lift (r : Gparse_reader) (up : Int) (K : Gparse_reader → Prop) (h : parse_reader_param_vwp r up K) : V_parse_reader_param r up K := by
 intro m w hm rb rA rC rxs rA0 rC0 in_r ina_r bx_r rw_r f_r le_r0 f_r0
 have hrs_ := Mem.objlt hm.lt in_r ina_r
 have o := Mem.obj hm.lt in_r ina_r bx_r rw_r
 have st := Mem.objS (w := w) (l := [.slice rA0 r.toks.length rC0, .int .i64 r.at_, .int .i64 r.deep, .slice rA r.l.length rC, .int .i64 r.e_]) (e := 39) (size := 5) (n := r.l.length) (c := rC) (xs := rxs) in_r ina_r
 have hrm : ∀ b ∈ (rb :: (Vc.blk rA).toList), b ∈ m := fun b hb => (List.mem_cons.1 hb).elim (fun e => e ▸ in_r) (fun h => (ina_r b (Option.mem_toList.1 h)).1)
 refine parse_reader_param_ok rb up _ _ ?_
 refine call_then (h _ w (o.mo hm hrm (.head _)) _ _ _ _ _ _ (Mem.inms 0 rfl) (o.objin 0 1 rfl rfl (by decide)) (o.at 0 rfl) (o.rowAt 1 rfl) (f_r.st st) le_r0 (f_r0.st st)) ?_
 rintro _ w1 ⟨i, r1, h, rfl, ⟨a, c, xs, bx, hr, el, fr⟩, ke⟩
 have st1 := Mem.call2S (ps := [.box rb [.slice rA0 r.toks.length rC0, .int .i64 r.at_, .int .i64 r.deep, .slice rA r.l.length rC, .int .i64 r.e_], .row 39 5 rA r.l.length rC rxs]) (m0 := m) (l' := [.slice rA0 r.toks.length rC0, .int .i64 r1.at_, .int .i64 r1.deep, .slice a r1.l.length c, .int .i64 r1.e_]) (n' := r1.l.length) (c' := c) (xs' := xs) 0 1 rfl rfl ke fr
 have el1 := El.st el (Mem.call2D (ps := [.box rb [.slice rA0 r.toks.length rC0, .int .i64 r.at_, .int .i64 r.deep, .slice rA r.l.length rC, .int .i64 r.e_], .row 39 5 rA r.l.length rC rxs]) (m0 := m) (l' := [.slice rA0 r.toks.length rC0, .int .i64 r1.at_, .int .i64 r1.deep, .slice a r1.l.length c, .int .i64 r1.e_]) (e := 39) (size := 5) (n' := r1.l.length) (c' := c) (xs' := xs) 0 1 rfl)
 have o := o.call2 0 1 rfl rfl (by decide) ke bx hr fr
 refine ⟨_, rfl, ?_⟩
 obtain ⟨J, h, h2⟩ := h
 refine ⟨fun w2 => ∃ (atx : Int) (de : Int) (l : List GNode) (ex : Int) (xs1 : List Value) (a1 : Option Addr) (c1 : Nat), J atx de l ex ∧ El cGNode (ms [.box rb [.slice rA0 r.toks.length rC0, .int .i64 atx, .int .i64 de, .slice a1 l.length c1, .int .i64 ex], .row 39 5 a1 l.length c1 xs1] m) w2 l xs1 ∧ Mem w.heap.size (rb :: (Vc.blk rA).toList) m [((rb :: (Vc.blk rA).toList), w.heap.size, w)] [] w2 [.box rb [.slice rA0 r.toks.length rC0, .int .i64 atx, .int .i64 de, .slice a1 l.length c1, .int .i64 ex], .row 39 5 a1 l.length c1 xs1] ∧ Step (ms [.box rb [.slice rA0 r.toks.length rC0, .int .i64 r1.at_, .int .i64 r1.deep, .slice a r1.l.length c, .int .i64 r1.e_], .row 39 5 a r1.l.length c xs] m) w1 (ms [.box rb [.slice rA0 r.toks.length rC0, .int .i64 atx, .int .i64 de, .slice a1 l.length c1, .int .i64 ex], .row 39 5 a1 l.length c1 xs1] m) w2, ?_, ?_⟩
 intro w3 hw3
 obtain ⟨st3, o⟩ := o.dD hw3
 have ox := o
 refine ⟨fun u => Keep [rb] w3 u ∧ u.cell? ⟨rb, 3, none⟩ = some (.slice a r1.l.length c), ⟨Keep.refl _ _, (o.at 0 rfl).cell (i := 3) rfl⟩, ?_⟩
 refine ⟨_, _, _, fun u hu => hu.2, ?_⟩
 refine call_then (h _ w3 (o.mo hm hrm (.head _)) _ _ _ _ _ (Mem.inms 0 rfl) (o.at 0 rfl) le_r0 (f_r0.st (st.trans (st1.trans st3)))) ?_
 rintro _ w4 ⟨x, r2, h, rfl, bx1, ke1⟩
 have st4 := o.xC (l' := [.slice rA0 r.toks.length rC0, .int .i64 r2.at_, .int .i64 r2.deep, .slice a r1.l.length c, .int .i64 r2.e_]) 0 ke1 rfl
 have o := o.call 0 ke1 bx1 rfl
 refine ⟨_, rfl, ?_⟩
 refine ⟨⟨(Keep.mono ke1 (by simp)), (o.at 0 rfl).cell (i := 3) rfl⟩, ?_⟩
 obtain ⟨hi, h⟩ := h
 obtain ⟨p, x1, cs, hp, he, hc, hr1⟩ := row_elem (o.rowAt 1 rfl) (el1.st (st3.trans st4)) hi
 obtain rfl := GNode_out hr1
 have h := h x1 he
 refine ⟨hi, ptrOr_some hp ?_⟩
 have hq := row_putp (i := i.toNat) (o.rowAt 1 rfl) (el1.st (st3.trans st4)) hp he hc.2 rfl 1 (.string (mkS x)) (by decide)
 refine ⟨hq.1, fun w5 hw5 => ?_⟩
 obtain ⟨xs2, hr2, hg, hel⟩ := hq.2 _ hw5
 have el3 := hel (⟨x1.op, x, x1.n, x1.kids, x1.at_⟩ : GNode) (GNode_in (⟨x1.op, x, x1.n, x1.kids, x1.at_⟩ : GNode))
 have st5 := o.xA 1 rfl hr2 hg (.inl rfl)
 have o := o.app 1 rfl hr2 hg (.inl rfl)
 have ln : r1.l.length = (r1.l.set i.toNat (⟨x1.op, x, x1.n, x1.kids, x1.at_⟩ : GNode)).length := row_len (o.rowAt 1 rfl) (el3.st st5)
 rw [ln] at o
 exact ⟨r2.at_, r2.deep, (r1.l.set i.toNat (⟨x1.op, x, x1.n, x1.kids, x1.at_⟩ : GNode)), r2.e_, xs2, a, c, h, (el3.st st5), o, (st3.trans (st4.trans st5))⟩
 rintro _ w2 ⟨atx, de, l, ex, xs1, a1, c1, hJ, el2, o, st2⟩
 have h := h2 atx de l ex hJ
 refine ⟨_, _, _, (o.at 0 rfl).cell rfl, ?_⟩
 obtain ⟨hi1, h⟩ := h
 obtain ⟨p1, x2, cs1, hp1, he1, hc1, hr3⟩ := row_elem (o.rowAt 1 rfl) el2 hi1
 obtain rfl := GNode_out hr3
 have h := h x2 he1
 refine ⟨hi1, ptrOr_some hp1 ?_⟩
 refine ⟨_, hc1.2 3 (Nat.le_of_ble_eq_true rfl), ?_⟩
 obtain ⟨hi2, h⟩ := h
 obtain ⟨p2, x3, cs2, hp2, he2, hc2, hr4⟩ := row_elem (o.rowAt 1 rfl) el2 hi2
 obtain rfl := GNode_out hr4
 have h := h x3 he2
 refine ⟨hi2, ptrOr_some hp2 ?_⟩
 have hq1 := row_putp (i := up.toNat) (o.rowAt 1 rfl) el2 hp2 he2 hc2.2 rfl 3 (.int .i64 (IntKind.i64.wrap (x2.kids + 1))) (by decide)
 refine ⟨hq1.1, fun w6 hw6 => ?_⟩
 obtain ⟨xs3, hr5, hg1, hel1⟩ := hq1.2 _ hw6
 have el4 := hel1 (⟨x3.op, x3.name, x3.n, IntKind.i64.wrap (x2.kids + 1), x3.at_⟩ : GNode) (GNode_in (⟨x3.op, x3.name, x3.n, IntKind.i64.wrap (x2.kids + 1), x3.at_⟩ : GNode))
 have st6 := o.xA 1 rfl hr5 hg1 (.inl rfl)
 have o := o.app 1 rfl hr5 hg1 (.inl rfl)
 have ln1 : l.length = (l.set up.toNat (⟨x3.op, x3.name, x3.n, IntKind.i64.wrap (x2.kids + 1), x3.at_⟩ : GNode)).length := row_len (o.rowAt 1 rfl) (el4.st st6)
 rw [ln1] at o
 try rw [ln1]
 exact ⟨(⟨r.toks, atx, de, (l.set up.toNat (⟨x3.op, x3.name, x3.n, IntKind.i64.wrap (x2.kids + 1), x3.at_⟩ : GNode)), ex⟩ : Gparse_reader), h, trivial, ⟨_, _, _, o.at 0 rfl, o.rowAt 1 rfl, (el4.st (st6.trans (Mem.endRS (w := w6) (ps := [.box rb [.slice rA0 r.toks.length rC0, .int .i64 atx, .int .i64 de, .slice a1 ((l.set up.toNat (⟨x3.op, x3.name, x3.n, IntKind.i64.wrap (x2.kids + 1), x3.at_⟩ : GNode)).length) c1, .int .i64 ex], .row 39 5 a1 ((l.set up.toNat (⟨x3.op, x3.name, x3.n, IntKind.i64.wrap (x2.kids + 1), x3.at_⟩ : GNode)).length) c1 xs3]) (m0 := m) 1 rfl))), o.oldnew 1 rfl 0 rfl (by decide)⟩, o.done⟩
end Go.Proofs.Ytdbdkdmgfiiljaa
namespace Go.Proofs.Ytdbdkdmgfiiljaa
open Go.Vc Go.Lv Go.Ty
def R10_Tok_vwp (toks : List GToken) (atx : Int) (K : GToken → Prop) : Prop :=
 cond (decide (atx < (toks.length : Int)))
 (((0 : Int) ≤ atx ∧ atx < (toks.length : Int)) ∧
 ∀ x, toks[atx.toNat]? = some x →
 K x)
 (K (⟨0, [], 0, 0⟩ : GToken))
set_option maxRecDepth 10000 in
theorem R10_Tok_lift (toks : List GToken) (atx : Int) (K : GToken → Prop) (h : R10_Tok_vwp toks atx K) : V_R10_Tok toks atx K := by
 intro m w hm toksA toksC le_toks f_toks
 have o := Mem.start hm.lt
 refine R10_Tok_ok toksA toks.length toksC atx _ _ ?_
 intro b w1 hb hw1
 obtain ⟨st, o⟩ := o.dB hb hw1
 refine cond_map (fun h => ?_) (fun h => ?_) h
 obtain ⟨hi, h⟩ := h
 obtain ⟨p, x, cs, hp, he, hc, hr⟩ := (f_toks.st st).elem hi
 obtain rfl := GToken_out hr
 have h := h x he
 refine ⟨hi, ptrOr_some hp ?_⟩
 refine ⟨_, _, _, _, hc.2, ?_⟩
 refine ⟨o.wr 0 rfl rfl, fun w2 hw2 => ?_⟩
 obtain ⟨st1, o⟩ := o.dSs 0 hw2 rfl
 refine ⟨_, _, _, _, (o.at 0 rfl).whole, ?_⟩
 exact ⟨x, h, ⟨_, rfl, (GToken_in x)⟩, o.done⟩
 refine ⟨o.wr 0 rfl rfl, fun w3 hw3 => ?_⟩
 obtain ⟨st2, o⟩ := o.dSs 0 hw3 rfl
 refine ⟨_, _, _, _, (o.at 0 rfl).whole, ?_⟩
 exact ⟨(⟨0, [], 0, 0⟩ : GToken), h, ⟨_, rfl, (GToken_in (⟨0, [], 0, 0⟩ : GToken))⟩, o.done⟩
def token_All_vwp (sx : List UInt8) (K : (List GToken) → Int → Int → Prop) : Prop :=
 cond (decide ((sx.length : Int) > 65536))
 (K [] 0 5)
 (∃ (I : (List GToken) → Int → Nat → Prop), (∃ n, I [] 0 n) ∧
 ∀ (out : List GToken) (atx : Int) (n : Nat), I out atx n →
 V_token_Next sx atx (fun r r1 r2 =>
 cond (r2 != 0)
 (K [] r1 r2)
 (out.length + [r].length < 2 ^ 32 ∧
 cond (r.kind == 0)
 (K (out ++ [r]) r.at_ 0)
 (∃ n1, n1 < n ∧ I (out ++ [r]) r1 n1))))
set_option maxRecDepth 10000 in
theorem token_All_lift (sx : List UInt8) (K : (List GToken) → Int → Int → Prop) (h : token_All_vwp sx K) : V_token_All sx K := by
 intro m w hm
 have o := Mem.start hm.lt
 refine token_All_ok sx _ _ ?_
 refine cond_map (fun h => ?_) (fun h => ?_) h
 exact ⟨[], 0, 5, h, ⟨_, _, rfl, ⟨(Nat.le_refl _), (SlR.nil _ _ _ _)⟩⟩, o.done⟩
 have st := o.xN 44 4
 have o := o.nilrow 44 4
 obtain ⟨I, ⟨n2, h⟩, h2⟩ := h
 obtain ⟨Z, hZ⟩ : ∃ Z : (Option Addr) → Nat → Nat → Int → World → Nat → Prop, Z = fun ou ou1 ou2 atx w1 n => ∃ (out : List GToken) (xs : List Value), I out atx n ∧ El cGToken (ms [.row 44 4 ou out.length ou2 xs] m) w1 out xs ∧ ou1 = out.length ∧ Mem w.heap.size [] m [([], w.heap.size, w)] [] w1 [.row 44 4 ou out.length ou2 xs] ∧ Step (ms [.row 44 4 none 0 0 []] m) w (ms [.row 44 4 ou out.length ou2 xs] m) w1 := ⟨_, rfl⟩
 refine ⟨fun ou ou1 ou2 atx w1 => ∃ n, Z ou ou1 ou2 atx w1 n, fun ou ou1 ou2 atx w1 => leastN (Z ou ou1 ou2 atx w1), ⟨n2, ?_⟩, ?_⟩
 rw [hZ]; exact ⟨[], [], h, (El.nil _ _ _), rfl, o, Step.refl _ _⟩
 intro _ ou ou1 ou2 atx w1 hIZ
 obtain ⟨n, hnn⟩ : ∃ n, n = leastN (Z ou ou1 ou2 atx w1) := ⟨_, rfl⟩
 have hIZ := leastN_at hIZ
 rw [← hnn, hZ] at hIZ
 obtain ⟨out, xs, h, el, rfl, o, st1⟩ := hIZ
 have h := h2 out atx n h
 refine call_then (h _ w1 (o.mo hm (by simp) (.head _))) ?_
 rintro _ w2 ⟨r, r1, r2, h, ⟨cs, rfl, f⟩, ke⟩
 obtain ⟨st2, o⟩ := o.dE ke
 obtain rfl := GToken_out f
 refine ⟨_, _, _, _, _, _, rfl, ?_⟩
 intro b w3 hb hw3
 obtain ⟨st3, o⟩ := o.dB hb hw3
 refine ⟨o.wr 0 rfl rfl, fun w4 hw4 => ?_⟩
 obtain ⟨st4, o⟩ := o.dSs 0 hw4 rfl
 refine cond_map (fun h => ?_) (fun h => ?_) h
 exact ⟨[], r1, r2, h, ⟨_, _, rfl, ⟨(Nat.le_refl _), (SlR.nil _ _ _ _)⟩⟩, o.done⟩
 refine ⟨_, _, _, _, (o.at 0 rfl).whole, ?_⟩
 intro b1 w5 hb1 hw5
 have el1 : El cGToken (ms [.box b [.int .i64 r.kind, .string (mkS r.text), .int .i64 r.n, .int .i64 r.at_], .row 44 4 ou out.length ou2 xs] m) w4 [r] ([.int .i64 r.kind, .string (mkS r.text), .int .i64 r.n, .int .i64 r.at_] : List Value) := (El.cons (cs := [.int .i64 r.kind, .string (mkS r.text), .int .i64 r.n, .int .i64 r.at_]) (GToken_in r) (El.nil _ _ _))
 have st5 := o.xL hb1 hw5 4 1
 have o := o.lit hb1 hw5 4 1 (by decide) rfl
 obtain ⟨lt, h⟩ := h
 have el3 := ((el.st (st2.trans (st3.trans (st4.trans st5))))).app (el1.st st5)
 refine append_sl sl_44 (o.rowAt 2 rfl) (o.rowAt 0 rfl).sl (el1.st st5).len (el1.st st5).one (by first | (simp; done) | simpa using lt) (by decide) (Nat.zero_le _) fun a c w6 hr hg hat => ?_
 have ln : out.length + 1 = (out ++ [r]).length := (by first | (simp; done) | (simp; omega))
 rw [ln] at hr ⊢
 refine ⟨_, _, _, rfl, ?_⟩
 have st6 := o.xA 2 rfl hr hg hat
 have o := o.app 2 rfl hr hg hat
 refine ⟨_, (o.at 1 rfl).cell rfl, ?_⟩
 refine cond_map (fun h => ?_) (fun h => ?_) h
 intro w7 hw7
 obtain ⟨st7, o⟩ := o.dD hw7
 refine ⟨_, (o.at 1 rfl).cell rfl, ?_⟩
 have le := (o.rowAt 2 rfl).cap
 have st8 := o.xX 2
 have f1 := o.freeze (c := cGToken) (l := (out ++ [r])) 2 rfl (fun b hb => by simp at hb) (el3.st (st6.trans (st7.trans st8)))
 have o := o.erase 2
 exact ⟨(out ++ [r]), r.at_, 0, h, ⟨_, _, rfl, ⟨le, (f1.st Mem.endS)⟩⟩, o.done⟩
 have st9 := o.xX 0
 have o := o.erase 0
 obtain ⟨st10, o⟩ := o.dX 0
 obtain ⟨n1, hl, h⟩ := h
 exact loop_again hnn (show Z _ _ _ _ w6 n1 from (by rw [hZ]; exact ⟨(out ++ [r]), (xs ++ ([.int .i64 r.kind, .string (mkS r.text), .int .i64 r.n, .int .i64 r.at_] : List Value)), h, (el3.st (st6.trans (st9.trans st10))), rfl, o, (st1.trans (st2.trans (st3.trans (st4.trans (st5.trans (st6.trans (st9.trans st10)))))))⟩)) hl
def R10_level_vwp (toks : List GToken) (atx : Int) (n : Int) (deep : Int) (K : GR10_Got → Prop) : Prop :=
 cond (n == 6)
 (V_R10_one toks atx deep (fun x =>
 K x))
 (V_R10_level toks atx (IntKind.i64.wrap (n + 1)) deep (fun x1 =>
 ∃ (I : (List GNode) → Int → Int → (List GNode) → Int → Int → Nat → Prop), (∃ n1, I x1.l x1.at_ x1.e_ [] 0 0 n1) ∧
 ∀ (L : List GNode) (At : Int) (E : Int) (L1 : List GNode) (At1 : Int) (E1 : Int) (n1 : Nat), I L At E L1 At1 E1 n1 →
 cond (E == 0)
 (V_R10_Tok toks At (fun x2 =>
 V_R10_Op x2.text (fun op =>
 ∃ (J : Bool → Prop),
 (cond (x2.kind != 4)
 (J true)
 (cond (op == 0)
 (J true)
 (V_R10_Level op (fun x4 =>
 J (x4 != n))))) ∧
 ∀ (x3 : Bool), J x3 →
 cond (x3)
 (K (⟨L, At, E⟩ : GR10_Got))
 (V_R10_level toks (IntKind.i64.wrap (At + 1)) (IntKind.i64.wrap (n + 1)) deep (fun x5 =>
 cond (x5.e_ != 0)
 (K x5)
 (([(⟨op, [], 0, 2, x2.at_⟩ : GNode)]).length + L.length < 2 ^ 32 ∧
 ∃ (J1 : (List GNode) → Int → Int → Prop),
 (([(⟨op, [], 0, 2, x2.at_⟩ : GNode)] ++ L).length + x5.l.length < 2 ^ 32 ∧
 J1 (([(⟨op, [], 0, 2, x2.at_⟩ : GNode)] ++ L) ++ x5.l) x5.at_ 0) ∧
 ∀ (L2 : List GNode) (At2 : Int) (E2 : Int), J1 L2 At2 E2 →
 cond (n == 3)
 (K (⟨L2, At2, E2⟩ : GR10_Got))
 (∃ n2, n2 < n1 ∧ I L2 At2 E2 L1 At1 E1 n2)))))))
 (K (⟨L, At, E⟩ : GR10_Got))))
set_option maxHeartbeats 4000000 in
set_option maxRecDepth 10000 in
theorem R10_level_lift (toks : List GToken) (atx : Int) (n : Int) (deep : Int) (K : GR10_Got → Prop) (h : R10_level_vwp toks atx n deep K) : V_R10_level toks atx n deep K := by
 intro m w hm toksA toksC le_toks f_toks
 have o := Mem.start hm.lt
 refine R10_level_ok toksA toks.length toksC atx n deep _ _ ?_
 intro b w1 hb hw1
 obtain ⟨st, o⟩ := o.dB hb hw1
 refine cond_map (fun h => ?_) (fun h => ?_) h
 refine call_then (h _ w1 (o.mo hm (by simp) (.head _)) _ _ le_toks (f_toks.st st)) ?_
 rintro _ w2 ⟨x, h, ⟨cs, rfl, f⟩, ke⟩
 obtain ⟨st1, o⟩ := o.dE ke
 obtain ⟨a, c, rfl, ⟨le, f1⟩⟩ := GR10_Got_out f
 refine ⟨_, _, _, _, _, rfl, ?_⟩
 refine ⟨o.wr 0 rfl rfl, fun w3 hw3 => ?_⟩
 obtain ⟨st2, o⟩ := o.dSs 0 hw3 rfl
 refine ⟨_, _, _, _, _, (o.at 0 rfl).whole, ?_⟩
 exact ⟨x, h, ⟨_, rfl, (GR10_Got_in x ⟨le, (f1.st (st2.trans Mem.endS))⟩)⟩, o.done⟩
 refine call_then (h _ w1 (o.mo hm (by simp) (.head _)) _ _ le_toks (f_toks.st st)) ?_
 rintro _ w4 ⟨x1, h, ⟨cs1, rfl, f2⟩, ke1⟩
 obtain ⟨st3, o⟩ := o.dE ke1
 obtain ⟨a1, c1, rfl, ⟨le1, f3⟩⟩ := GR10_Got_out f2
 refine ⟨_, _, _, _, _, rfl, ?_⟩
 intro b1 w5 hb1 hw5
 obtain ⟨st4, o⟩ := o.dB hb1 hw5
 refine ⟨o.wr 0 rfl rfl, fun w6 hw6 => ?_⟩
 obtain ⟨st5, o⟩ := o.dSs 0 hw6 rfl
 have st6 := o.xN 39 5
 have o := o.nilrow 39 5
 obtain ⟨I, ⟨n3, h⟩, h2⟩ := h
 obtain ⟨Z, hZ⟩ : ∃ Z : World → Nat → Prop, Z = fun w7 n1 => ∃ (L : List GNode) (At : Int) (E : Int) (L1 : List GNode) (At1 : Int) (E1 : Int) (a2 : Option Addr) (c2 : Nat) (xs : List Value) (a3 : Option Addr) (c3 : Nat), I L At E L1 At1 E1 n1 ∧ (L.length ≤ c2 ∧ SlR cGNode (ms [.row 39 5 a3 L1.length c3 xs, .box b1 [.slice a2 L.length c2, .int .i64 At, .int .i64 E], .box b [.slice a3 L1.length c3, .int .i64 At1, .int .i64 E1]] m) w7 a2 L) ∧ El cGNode (ms [.row 39 5 a3 L1.length c3 xs, .box b1 [.slice a2 L.length c2, .int .i64 At, .int .i64 E], .box b [.slice a3 L1.length c3, .int .i64 At1, .int .i64 E1]] m) w7 L1 xs ∧ Mem w.heap.size [] m [([], w.heap.size, w)] [] w7 [.row 39 5 a3 L1.length c3 xs, .box b1 [.slice a2 L.length c2, .int .i64 At, .int .i64 E], .box b [.slice a3 L1.length c3, .int .i64 At1, .int .i64 E1]] ∧ Step (ms [.row 39 5 none 0 0 [], .box b1 [.slice a1 x1.l.length c1, .int .i64 x1.at_, .int .i64 x1.e_], .box b [.slice none 0 0, .int .i64 0, .int .i64 0]] m) w6 (ms [.row 39 5 a3 L1.length c3 xs, .box b1 [.slice a2 L.length c2, .int .i64 At, .int .i64 E], .box b [.slice a3 L1.length c3, .int .i64 At1, .int .i64 E1]] m) w7 := ⟨_, rfl⟩
 refine ⟨fun w7 => ∃ n1, Z w7 n1, fun w7 => leastN (Z w7), ⟨n3, ?_⟩, ?_⟩
 rw [hZ]; exact ⟨x1.l, x1.at_, x1.e_, [], 0, 0, a1, c1, [], none, 0, h, ⟨le1, (f3.st (st4.trans (st5.trans st6)))⟩, (El.nil _ _ _), o, Step.refl _ _⟩
 intro _ w7 hIZ
 obtain ⟨n1, hnn1⟩ : ∃ n1, n1 = leastN (Z w7) := ⟨_, rfl⟩
 have hIZ := leastN_at hIZ
 rw [← hnn1, hZ] at hIZ
 obtain ⟨L, At, E, L1, At1, E1, a2, c2, xs, a3, c3, h, ⟨le2, f4⟩, el, o, st7⟩ := hIZ
 have h := h2 L At E L1 At1 E1 n1 h
 refine ⟨_, (o.at 1 rfl).cell rfl, ?_⟩
 refine cond_map (fun h => ?_) (fun h => ?_) h
 refine ⟨_, (o.at 1 rfl).cell rfl, ?_⟩
 refine call_then (h _ w7 (o.mo hm (by simp) (.head _)) _ _ le_toks (f_toks.st (st.trans (st3.trans (st4.trans (st5.trans (st6.trans st7))))))) ?_
 rintro _ w8 ⟨x2, h, ⟨cs2, rfl, f5⟩, ke2⟩
 obtain ⟨st8, o⟩ := o.dE ke2
 obtain rfl := GToken_out f5
 refine ⟨_, _, _, _, rfl, ?_⟩
 intro b2 w9 hb2 hw9
 obtain ⟨st9, o⟩ := o.dB hb2 hw9
 refine ⟨o.wr 0 rfl rfl, fun w10 hw10 => ?_⟩
 obtain ⟨st10, o⟩ := o.dSs 0 hw10 rfl
 refine ⟨_, (o.at 0 rfl).cell rfl, ?_⟩
 refine call_then (h _ w10 (o.mo hm (by simp) (.head _))) ?_
 rintro _ w11 ⟨op, h, rfl, ke3⟩
 obtain ⟨st11, o⟩ := o.dE ke3
 refine ⟨_, rfl, ?_⟩
 obtain ⟨J, h, h2⟩ := h
 refine ⟨fun x3 w12 => J x3 ∧ Mem w.heap.size [] m [([], w.heap.size, w)] [] w12 [.box b2 [.int .i64 x2.kind, .string (mkS x2.text), .int .i64 x2.n, .int .i64 x2.at_], .row 39 5 a3 L1.length c3 xs, .box b1 [.slice a2 L.length c2, .int .i64 At, .int .i64 E], .box b [.slice a3 L1.length c3, .int .i64 At1, .int .i64 E1]] ∧ Step (ms [.box b2 [.int .i64 x2.kind, .string (mkS x2.text), .int .i64 x2.n, .int .i64 x2.at_], .row 39 5 a3 L1.length c3 xs, .box b1 [.slice a2 L.length c2, .int .i64 At, .int .i64 E], .box b [.slice a3 L1.length c3, .int .i64 At1, .int .i64 E1]] m) w11 (ms [.box b2 [.int .i64 x2.kind, .string (mkS x2.text), .int .i64 x2.n, .int .i64 x2.at_], .row 39 5 a3 L1.length c3 xs, .box b1 [.slice a2 L.length c2, .int .i64 At, .int .i64 E], .box b [.slice a3 L1.length c3, .int .i64 At1, .int .i64 E1]] m) w12, ?_, ?_⟩
 refine ⟨_, (o.at 0 rfl).cell rfl, ?_⟩
 refine cond_map (fun h => ?_) (fun h => ?_) h
 exact ⟨h, o, Step.refl _ _⟩
 refine cond_map (fun h => ?_) (fun h => ?_) h
 exact ⟨h, o, Step.refl _ _⟩
 refine call_then (h _ w11 (o.mo hm (by simp) (.head _))) ?_
 rintro _ w13 ⟨x4, h, rfl, ke4⟩
 obtain ⟨st13, o⟩ := o.dE ke4
 refine ⟨_, rfl, ?_⟩
 exact ⟨h, o, st13⟩
 rintro _ x3 w12 ⟨hJ, o, st12⟩
 have h := h2 x3 hJ
 refine cond_map (fun h => ?_) (fun h => ?_) h
 refine ⟨_, _, _, _, _, (o.at 2 rfl).whole, ?_⟩
 refine ⟨o.wr 3 rfl rfl, fun w14 hw14 => ?_⟩
 obtain ⟨st14, o⟩ := o.dSs 3 hw14 rfl
 refine ⟨_, _, _, _, _, (o.at 3 rfl).whole, ?_⟩
 exact ⟨(⟨L, At, E⟩ : GR10_Got), h, ⟨_, rfl, (GR10_Got_in (⟨L, At, E⟩ : GR10_Got) ⟨le2, (f4.st (st8.trans (st9.trans (st10.trans (st11.trans (st12.trans (st14.trans Mem.endS)))))))⟩)⟩, o.done⟩
 refine ⟨_, (o.at 2 rfl).cell rfl, ?_⟩
 refine call_then (h _ w12 (o.mo hm (by simp) (.head _)) _ _ le_toks (f_toks.st (st.trans (st3.trans (st4.trans (st5.trans (st6.trans (st7.trans (st8.trans (st9.trans (st10.trans (st11.trans st12)))))))))))) ?_
 rintro _ w15 ⟨x5, h, ⟨cs3, rfl, f6⟩, ke5⟩
 obtain ⟨st15, o⟩ := o.dE ke5
 obtain ⟨a4, c4, rfl, ⟨le3, f7⟩⟩ := GR10_Got_out f6
 refine ⟨_, _, _, _, _, rfl, ?_⟩
 intro b3 w16 hb3 hw16
 obtain ⟨st16, o⟩ := o.dB hb3 hw16
 refine ⟨o.wr 0 rfl rfl, fun w17 hw17 => ?_⟩
 obtain ⟨st17, o⟩ := o.dSs 0 hw17 rfl
 refine ⟨_, (o.at 0 rfl).cell rfl, ?_⟩
 refine cond_map (fun h => ?_) (fun h => ?_) h
 refine ⟨_, _, _, _, _, (o.at 0 rfl).whole, ?_⟩
 refine ⟨o.wr 4 rfl rfl, fun w18 hw18 => ?_⟩
 obtain ⟨st18, o⟩ := o.dSs 4 hw18 rfl
 refine ⟨_, _, _, _, _, (o.at 4 rfl).whole, ?_⟩
 exact ⟨x5, h, ⟨_, rfl, (GR10_Got_in x5 ⟨le3, (f7.st (st16.trans (st17.trans (st18.trans Mem.endS))))⟩)⟩, o.done⟩
 refine ⟨_, (o.at 1 rfl).cell rfl, ?_⟩
 intro b4 w19 hb4 hw19
 have el1 : El cGNode (ms [.box b3 [.slice a4 x5.l.length c4, .int .i64 x5.at_, .int .i64 x5.e_], .box b2 [.int .i64 x2.kind, .string (mkS x2.text), .int .i64 x2.n, .int .i64 x2.at_], .row 39 5 a3 L1.length c3 xs, .box b1 [.slice a2 L.length c2, .int .i64 At, .int .i64 E], .box b [.slice a3 L1.length c3, .int .i64 At1, .int .i64 E1]] m) w17 [(⟨op, [], 0, 2, x2.at_⟩ : GNode)] ([.int .i64 op, .string (mkS []), .int .i64 0, .int .i64 2, .int .i64 x2.at_] : List Value) := (El.cons (cs := [.int .i64 op, .string (mkS []), .int .i64 0, .int .i64 2, .int .i64 x2.at_]) (GNode_in (⟨op, [], 0, 2, x2.at_⟩ : GNode)) (El.nil _ _ _))
 have st19 := o.xL hb4 hw19 5 1
 have o := o.lit hb4 hw19 5 1 (by decide) rfl
 refine ⟨_, _, _, (o.at 4 rfl).cell rfl, ?_⟩
 obtain ⟨lt, h⟩ := h
 obtain ⟨xs1, hx, el2⟩ := SlR.cells (f4.st (st8.trans (st9.trans (st10.trans (st11.trans (st12.trans (st15.trans (st16.trans (st17.trans st19)))))))))
 have el3 := ((el1.st st19)).app el2
 refine append_sl sl_39 (o.rowAt 0 rfl) hx el2.len el2.one (by first | (simp; done) | simpa using lt) (by decide) (Nat.zero_le _) fun a5 c5 w20 hr hg hat => ?_
 have ln : 1 + L.length = ([(⟨op, [], 0, 2, x2.at_⟩ : GNode)] ++ L).length := (by first | (simp; done) | (simp; omega))
 rw [ln] at hr ⊢
 refine ⟨_, _, _, rfl, ?_⟩
 have st20 := o.xA 0 rfl hr hg hat
 have o := o.app 0 rfl hr hg hat
 obtain ⟨J1, h, h2⟩ := h
 refine ⟨fun w21 => ∃ (L2 : List GNode) (At2 : Int) (E2 : Int) (xs2 : List Value) (a6 : Option Addr) (c6 : Nat), J1 L2 At2 E2 ∧ El cGNode (ms [.row 39 5 a6 L2.length c6 xs2, .box b3 [.slice a4 x5.l.length c4, .int .i64 x5.at_, .int .i64 x5.e_], .box b2 [.int .i64 x2.kind, .string (mkS x2.text), .int .i64 x2.n, .int .i64 x2.at_], .row 39 5 a3 L1.length c3 xs, .box b1 [.slice a6 L2.length c6, .int .i64 At2, .int .i64 E2], .box b [.slice a3 L1.length c3, .int .i64 At1, .int .i64 E1]] m) w21 L2 xs2 ∧ Mem w.heap.size [] m [([], w.heap.size, w)] [] w21 [.row 39 5 a6 L2.length c6 xs2, .box b3 [.slice a4 x5.l.length c4, .int .i64 x5.at_, .int .i64 x5.e_], .box b2 [.int .i64 x2.kind, .string (mkS x2.text), .int .i64 x2.n, .int .i64 x2.at_], .row 39 5 a3 L1.length c3 xs, .box b1 [.slice a6 L2.length c6, .int .i64 At2, .int .i64 E2], .box b [.slice a3 L1.length c3, .int .i64 At1, .int .i64 E1]] ∧ Step (ms [.row 39 5 a5 (([(⟨op, [], 0, 2, x2.at_⟩ : GNode)] ++ L).length) c5 (([.int .i64 op, .string (mkS []), .int .i64 0, .int .i64 2, .int .i64 x2.at_] : List Value) ++ xs1), .box b3 [.slice a4 x5.l.length c4, .int .i64 x5.at_, .int .i64 x5.e_], .box b2 [.int .i64 x2.kind, .string (mkS x2.text), .int .i64 x2.n, .int .i64 x2.at_], .row 39 5 a3 L1.length c3 xs, .box b1 [.slice a2 L.length c2, .int .i64 At, .int .i64 E], .box b [.slice a3 L1.length c3, .int .i64 At1, .int .i64 E1]] m) w20 (ms [.row 39 5 a6 L2.length c6 xs2, .box b3 [.slice a4 x5.l.length c4, .int .i64 x5.at_, .int .i64 x5.e_], .box b2 [.int .i64 x2.kind, .string (mkS x2.text), .int .i64 x2.n, .int .i64 x2.at_], .row 39 5 a3 L1.length c3 xs, .box b1 [.slice a6 L2.length c6, .int .i64 At2, .int .i64 E2], .box b [.slice a3 L1.length c3, .int .i64 At1, .int .i64 E1]] m) w21, ?_, ?_⟩
 intro w22 hw22
 obtain ⟨st22, o⟩ := o.dD hw22
 have ox := o
 refine ⟨fun u => Keep ((Vc.blk a5).toList) w22 u, Keep.refl _ _, ?_⟩
 refine ⟨_, _, _, fun u hu => ((ox.at 1 rfl).keep hu (fun h => by exact ox.boxrow 1 0 rfl rfl (by decide) h)).cell rfl, ?_⟩
 refine ⟨_, fun u hu => ((ox.at 1 rfl).keep hu (fun h => by exact ox.boxrow 1 0 rfl rfl (by decide) h)).cell rfl, ?_⟩
 obtain ⟨lt1, h⟩ := h
 obtain ⟨xs3, hx1, el5⟩ := SlR.cells (f7.st (st16.trans (st17.trans (st19.trans (st20.trans st22)))))
 have el6 := ((el3.st (st20.trans st22))).app el5
 refine append_sl sl_39 (o.rowAt 0 rfl) hx1 el5.len el5.one (by first | (simp; done) | simpa using lt1) (by decide) (Nat.zero_le _) fun a7 c7 w23 hr1 hg1 hat1 => ?_
 have ln1 : ([(⟨op, [], 0, 2, x2.at_⟩ : GNode)] ++ L).length + x5.l.length = (([(⟨op, [], 0, 2, x2.at_⟩ : GNode)] ++ L) ++ x5.l).length := (by first | (simp; done) | (simp; omega))
 rw [ln1] at hr1 ⊢
 refine ⟨_, _, _, rfl, ?_⟩
 have st23 := o.xA 0 rfl hr1 hg1 hat1
 have o := o.app 0 rfl hr1 hg1 hat1
 refine ⟨(keep_app (Keep.refl _ _) hg1 (fun q hq => .inl (by simp [hq]))), ?_⟩
 refine ⟨o.wr 4 rfl rfl, fun w24 hw24 => ?_⟩
 obtain ⟨st24, o⟩ := o.dSs 4 hw24 rfl
 exact ⟨(([(⟨op, [], 0, 2, x2.at_⟩ : GNode)] ++ L) ++ x5.l), x5.at_, 0, ((([.int .i64 op, .string (mkS []), .int .i64 0, .int .i64 2, .int .i64 x2.at_] : List Value) ++ xs1) ++ xs3), a7, c7, h, (el6.st (st23.trans st24)), o, (st22.trans (st23.trans st24))⟩
 rintro _ w21 ⟨L2, At2, E2, xs2, a6, c6, hJ, el4, o, st21⟩
 have h := h2 L2 At2 E2 hJ
 refine cond_map (fun h => ?_) (fun h => ?_) h
 refine ⟨_, _, _, _, _, (o.at 4 rfl).whole, ?_⟩
 refine ⟨o.wr 5 rfl rfl, fun w25 hw25 => ?_⟩
 obtain ⟨st25, o⟩ := o.dSs 5 hw25 rfl
 refine ⟨_, _, _, _, _, (o.at 5 rfl).whole, ?_⟩
 have le4 := (o.rowAt 0 rfl).cap
 have st26 := o.xX 0
 have f8 := o.freeze (c := cGNode) (l := L2) 0 rfl (fun b hb => by simp at hb) (el4.st (st25.trans st26))
 have o := o.erase 0
 exact ⟨(⟨L2, At2, E2⟩ : GR10_Got), h, ⟨_, rfl, (GR10_Got_in (⟨L2, At2, E2⟩ : GR10_Got) ⟨le4, (f8.st Mem.endS)⟩)⟩, o.done⟩
 have le5 := (o.rowAt 0 rfl).cap
 have st27 := o.xX 0
 have f9 := o.freeze (c := cGNode) (l := L2) 0 rfl (fun b hb => by simp at hb) (el4.st st27)
 have o := o.erase 0
 obtain ⟨st28, o⟩ := o.dX 0
 obtain ⟨st29, o⟩ := o.dX 0
 obtain ⟨n2, hl, h⟩ := h
 exact loop_again hnn1 (show Z w21 n2 from (by rw [hZ]; exact ⟨L2, At2, E2, L1, At1, E1, a6, c6, xs, a3, c3, h, ⟨le5, (f9.st (st28.trans st29))⟩, (el.st (st8.trans (st9.trans (st10.trans (st11.trans (st12.trans (st15.trans (st16.trans (st17.trans (st19.trans (st20.trans (st21.trans (st27.trans (st28.trans st29)))))))))))))), o, (st7.trans (st8.trans (st9.trans (st10.trans (st11.trans (st12.trans (st15.trans (st16.trans (st17.trans (st19.trans (st20.trans (st21.trans (st27.trans (st28.trans st29))))))))))))))⟩)) hl
 refine ⟨_, _, _, _, _, (o.at 1 rfl).whole, ?_⟩
 refine ⟨o.wr 2 rfl rfl, fun w26 hw26 => ?_⟩
 obtain ⟨st30, o⟩ := o.dSs 2 hw26 rfl
 refine ⟨_, _, _, _, _, (o.at 2 rfl).whole, ?_⟩
 exact ⟨(⟨L, At, E⟩ : GR10_Got), h, ⟨_, rfl, (GR10_Got_in (⟨L, At, E⟩ : GR10_Got) ⟨le2, (f4.st (st30.trans Mem.endS))⟩)⟩, o.done⟩
end Go.Proofs.Ytdbdkdmgfiiljaa
