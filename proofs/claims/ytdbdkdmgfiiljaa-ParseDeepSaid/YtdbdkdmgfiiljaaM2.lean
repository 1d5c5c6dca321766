/- A part of the proof: conditions of the code, contracts, the plain law. -/
import Derived.Test.YtdbdkdmgfiiljaaM1
import Derived.Test.YtdbdkdmgfiiljaaMapL
namespace Go.Proofs.Ytdbdkdmgfiiljaa
open Go.Vc Go.Lv Go.Ty
def parse_Unit_vwp (toks : List GToken) (K : (List GNode) → Int → Int → Prop) : Prop :=
 ∃ (I : Int → Int → (List GNode) → Int → Nat → Prop), (∃ n, I 0 0 ([(⟨42, [], 0, 0, 0⟩ : GNode)]) 0 n) ∧
 ∀ (atx : Int) (de : Int) (l : List GNode) (ex : Int) (n : Nat), I atx de l ex n →
 ∃ (J : Bool → Prop),
 (cond (ex == 0)
 (V_parse_reader_see (⟨toks, atx, de, l, ex⟩ : Gparse_reader) 0 (fun x1 =>
 J (x1.kind != 0)))
 (J false)) ∧
 ∀ (x : Bool), J x →
 cond (x)
 (V_parse_reader_decl (⟨toks, atx, de, l, ex⟩ : Gparse_reader) (fun r =>
 ((0 : Int) ≤ 0 ∧ 0 < (r.l.length : Int)) ∧
 ∀ x2, r.l[0]? = some x2 →
 ((0 : Int) ≤ 0 ∧ 0 < (r.l.length : Int)) ∧
 ∀ x3, r.l[0]? = some x3 →
 ∃ n1, n1 < n ∧ I r.at_ r.deep (r.l.set 0 (⟨x3.op, x3.name, x3.n, IntKind.i64.wrap (x2.kids + 1), x3.at_⟩ : GNode)) r.e_ n1))
 (cond (ex != 0)
 (K [] atx ex)
 (K l 0 0))
set_option maxRecDepth 10000 in
theorem parse_Unit_lift (toks : List GToken) (K : (List GNode) → Int → Int → Prop) (h : parse_Unit_vwp toks K) : V_parse_Unit toks K := by
 intro m w hm toksA toksC le_toks f_toks
 have o := Mem.start hm.lt
 refine parse_Unit_ok toksA toks.length toksC _ _ ?_
 intro b w1 hb hw1
 have el : El cGNode (ms [] m) w [(⟨42, [], 0, 0, 0⟩ : GNode)] ([.int .i64 42, .string (mkS []), .int .i64 0, .int .i64 0, .int .i64 0] : List Value) := (El.cons (cs := [.int .i64 42, .string (mkS []), .int .i64 0, .int .i64 0, .int .i64 0]) (GNode_in (⟨42, [], 0, 0, 0⟩ : GNode)) (El.nil _ _ _))
 have st := o.xL hb hw1 5 1
 have o := o.lit hb hw1 5 1 (by decide) rfl
 intro b1 w2 hb1 hw2
 obtain ⟨st1, o⟩ := o.dB hb1 hw2
 obtain ⟨I, ⟨n2, h⟩, h2⟩ := h
 obtain ⟨Z, hZ⟩ : ∃ Z : World → Nat → Prop, Z = fun w3 n => ∃ (atx : Int) (de : Int) (l : List GNode) (ex : Int) (xs : List Value) (a : Option Addr) (c : Nat), I atx de l ex n ∧ El cGNode (ms [.box b1 [.slice toksA toks.length toksC, .int .i64 atx, .int .i64 de, .slice a l.length c, .int .i64 ex], .row 39 5 a l.length c xs] m) w3 l xs ∧ Mem w.heap.size [] m [([], w.heap.size, w)] [] w3 [.box b1 [.slice toksA toks.length toksC, .int .i64 atx, .int .i64 de, .slice a l.length c, .int .i64 ex], .row 39 5 a l.length c xs] ∧ Step (ms [.box b1 [.slice toksA toks.length toksC, .int .i64 0, .int .i64 0, .slice (some ⟨b, 0, none⟩) 1 1, .int .i64 0], .row 39 5 (some ⟨b, 0, none⟩) 1 1 ([.int .i64 42, .string (mkS []), .int .i64 0, .int .i64 0, .int .i64 0] : List Value)] m) w2 (ms [.box b1 [.slice toksA toks.length toksC, .int .i64 atx, .int .i64 de, .slice a l.length c, .int .i64 ex], .row 39 5 a l.length c xs] m) w3 := ⟨_, rfl⟩
 refine ⟨fun w3 => ∃ n, Z w3 n, fun w3 => leastN (Z w3), ⟨n2, ?_⟩, ?_⟩
 rw [hZ]; exact ⟨0, 0, ([(⟨42, [], 0, 0, 0⟩ : GNode)]), 0, ([.int .i64 42, .string (mkS []), .int .i64 0, .int .i64 0, .int .i64 0] : List Value), (some ⟨b, 0, none⟩), 1, h, (el.st (st.trans st1)), o, Step.refl _ _⟩
 intro _ w3 hIZ
 obtain ⟨n, hnn⟩ : ∃ n, n = leastN (Z w3) := ⟨_, rfl⟩
 have hIZ := leastN_at hIZ
 rw [← hnn, hZ] at hIZ
 obtain ⟨atx, de, l, ex, xs, a, c, h, el1, o, st2⟩ := hIZ
 have h := h2 atx de l ex n h
 obtain ⟨J, h, h2⟩ := h
 refine ⟨fun x w4 => J x ∧ Mem w.heap.size [] m [([], w.heap.size, w)] [] w4 [.box b1 [.slice toksA toks.length toksC, .int .i64 atx, .int .i64 de, .slice a l.length c, .int .i64 ex], .row 39 5 a l.length c xs] ∧ Step (ms [.box b1 [.slice toksA toks.length toksC, .int .i64 atx, .int .i64 de, .slice a l.length c, .int .i64 ex], .row 39 5 a l.length c xs] m) w3 (ms [.box b1 [.slice toksA toks.length toksC, .int .i64 atx, .int .i64 de, .slice a l.length c, .int .i64 ex], .row 39 5 a l.length c xs] m) w4, ?_, ?_⟩
 refine ⟨_, (o.at 0 rfl).cell rfl, ?_⟩
 refine cond_map (fun h => ?_) (fun h => ?_) h
 refine call_then (h _ w3 (o.mo hm (by simp) (.head _)) _ _ _ _ _ (o.at 0 rfl) le_toks (f_toks.st (st.trans (st1.trans st2)))) ?_
 rintro _ w5 ⟨x1, h, ⟨cs, rfl, f⟩, ke⟩
 obtain ⟨st4, o⟩ := o.dE ke
 obtain rfl := GToken_out f
 refine ⟨_, _, _, _, rfl, ?_⟩
 exact ⟨h, o, st4⟩
 exact ⟨h, o, Step.refl _ _⟩
 rintro _ x w4 ⟨hJ, o, st3⟩
 have h := h2 x hJ
 refine cond_map (fun h => ?_) (fun h => ?_) h
 refine call_then (h _ w4 (o.mo hm (by simp) (.head _)) _ _ _ _ _ _ (Mem.inms 0 rfl) (o.objin 0 1 rfl rfl (by decide)) (o.at 0 rfl) (o.rowAt 1 rfl) (el1.st st3) le_toks (f_toks.st (st.trans (st1.trans (st2.trans st3))))) ?_
 rintro _ w6 ⟨r, h, -, ⟨a1, c1, xs1, bx, hr, el2, fr⟩, ke1⟩
 have st5 := Mem.call2S (ps := [.box b1 [.slice toksA toks.length toksC, .int .i64 atx, .int .i64 de, .slice a l.length c, .int .i64 ex], .row 39 5 a l.length c xs]) (m0 := m) (l' := [.slice toksA toks.length toksC, .int .i64 r.at_, .int .i64 r.deep, .slice a1 r.l.length c1, .int .i64 r.e_]) (n' := r.l.length) (c' := c1) (xs' := xs1) 0 1 rfl rfl ke1 fr
 have el3 := El.st el2 (Mem.call2D (ps := [.box b1 [.slice toksA toks.length toksC, .int .i64 atx, .int .i64 de, .slice a l.length c, .int .i64 ex], .row 39 5 a l.length c xs]) (m0 := m) (l' := [.slice toksA toks.length toksC, .int .i64 r.at_, .int .i64 r.deep, .slice a1 r.l.length c1, .int .i64 r.e_]) (e := 39) (size := 5) (n' := r.l.length) (c' := c1) (xs' := xs1) 0 1 rfl)
 have o := o.call2 0 1 rfl rfl (by decide) ke1 bx hr fr
 refine ⟨_, _, _, (o.at 0 rfl).cell rfl, ?_⟩
 obtain ⟨hi, h⟩ := h
 obtain ⟨p, x2, cs1, hp, he, hc, hr1⟩ := row_elem (o.rowAt 1 rfl) el3 hi
 obtain rfl := GNode_out hr1
 have h := h x2 he
 refine ⟨hi, ptrOr_some hp ?_⟩
 refine ⟨_, hc.2 3 (Nat.le_of_ble_eq_true rfl), ?_⟩
 obtain ⟨hi1, h⟩ := h
 obtain ⟨p1, x3, cs2, hp1, he1, hc1, hr2⟩ := row_elem (o.rowAt 1 rfl) el3 hi1
 obtain rfl := GNode_out hr2
 have h := h x3 he1
 refine ⟨hi1, ptrOr_some hp1 ?_⟩
 have hq := row_putp (i := 0) (o.rowAt 1 rfl) el3 hp1 he1 hc1.2 rfl 3 (.int .i64 (IntKind.i64.wrap (x2.kids + 1))) (by decide)
 refine ⟨hq.1, fun w7 hw7 => ?_⟩
 obtain ⟨xs2, hr3, hg, hel⟩ := hq.2 _ hw7
 have el4 := hel (⟨x3.op, x3.name, x3.n, IntKind.i64.wrap (x2.kids + 1), x3.at_⟩ : GNode) (GNode_in (⟨x3.op, x3.name, x3.n, IntKind.i64.wrap (x2.kids + 1), x3.at_⟩ : GNode))
 have st6 := o.xA 1 rfl hr3 hg (.inl rfl)
 have o := o.app 1 rfl hr3 hg (.inl rfl)
 have ln : r.l.length = (r.l.set 0 (⟨x3.op, x3.name, x3.n, IntKind.i64.wrap (x2.kids + 1), x3.at_⟩ : GNode)).length := row_len (o.rowAt 1 rfl) (el4.st st6)
 rw [ln] at o
 obtain ⟨n1, hl, h⟩ := h
 exact loop_again hnn (show Z w7 n1 from (by rw [hZ]; exact ⟨r.at_, r.deep, (r.l.set 0 (⟨x3.op, x3.name, x3.n, IntKind.i64.wrap (x2.kids + 1), x3.at_⟩ : GNode)), r.e_, xs2, a1, c1, h, (el4.st st6), o, (st2.trans (st3.trans (st5.trans st6)))⟩)) hl
 refine ⟨_, (o.at 0 rfl).cell rfl, ?_⟩
 refine cond_map (fun h => ?_) (fun h => ?_) h
 intro w8 hw8
 obtain ⟨st7, o⟩ := o.dD hw8
 refine ⟨_, (o.at 0 rfl).cell rfl, ?_⟩
 refine ⟨_, (o.at 0 rfl).cell rfl, ?_⟩
 exact ⟨[], atx, ex, h, ⟨_, _, rfl, ⟨(Nat.le_refl _), (SlR.nil _ _ _ _)⟩⟩, o.done⟩
 refine ⟨_, _, _, (o.at 0 rfl).cell rfl, ?_⟩
 have le := (o.rowAt 1 rfl).cap
 have st8 := o.xX 1
 have f1 := o.freeze (c := cGNode) (l := l) 1 rfl (fun b hb => by simp at hb) (el1.st (st3.trans st8))
 have o := o.erase 1
 exact ⟨l, 0, 0, h, ⟨_, _, rfl, ⟨le, (f1.st Mem.endS)⟩⟩, o.done⟩
def parse_Text_vwp (sx : List UInt8) (K : (List GNode) → Int → Int → Prop) : Prop :=
 V_token_All sx (fun r r1 r2 =>
 cond (r2 != 0)
 (K [] r1 r2)
 (V_parse_Unit r (fun r3 r4 r5 =>
 cond (r5 != 0)
 (((0 : Int) ≤ (if (IntKind.i64.wrap ((r.length : Int) - 1)) < r4 then IntKind.i64.wrap ((r.length : Int) - 1) else r4) ∧ (if (IntKind.i64.wrap ((r.length : Int) - 1)) < r4 then IntKind.i64.wrap ((r.length : Int) - 1) else r4) < (r.length : Int)) ∧
 ∀ x, r[(if (IntKind.i64.wrap ((r.length : Int) - 1)) < r4 then IntKind.i64.wrap ((r.length : Int) - 1) else r4).toNat]? = some x →
 K [] x.at_ r5)
 (K r3 0 0))))
set_option maxRecDepth 10000 in
theorem parse_Text_lift (sx : List UInt8) (K : (List GNode) → Int → Int → Prop) (h : parse_Text_vwp sx K) : V_parse_Text sx K := by
 intro m w hm
 have o := Mem.start hm.lt
 refine parse_Text_ok sx _ _ ?_
 refine call_then (h _ w (o.mo hm (by simp) (.head _))) ?_
 rintro _ w1 ⟨r, r1, r2, h, ⟨a, c, rfl, ⟨le, f⟩⟩, ke⟩
 obtain ⟨st, o⟩ := o.dE ke
 refine ⟨_, _, _, _, _, rfl, ?_⟩
 refine cond_map (fun h => ?_) (fun h => ?_) h
 exact ⟨[], r1, r2, h, ⟨_, _, rfl, ⟨(Nat.le_refl _), (SlR.nil _ _ _ _)⟩⟩, o.done⟩
 refine call_then (h _ w1 (o.mo hm (by simp) (.head _)) _ _ le f) ?_
 rintro _ w2 ⟨r3, r4, r5, h, ⟨a1, c1, rfl, ⟨le1, f1⟩⟩, ke1⟩
 obtain ⟨st1, o⟩ := o.dE ke1
 refine ⟨_, _, _, _, _, rfl, ?_⟩
 refine cond_map (fun h => ?_) (fun h => ?_) h
 intro w3 hw3
 obtain ⟨st2, o⟩ := o.dD hw3
 obtain ⟨hi, h⟩ := h
 obtain ⟨p, x, cs, hp, he, hc, hr⟩ := (f.st (st1.trans st2)).elem hi
 obtain rfl := GToken_out hr
 have h := h x he
 refine ⟨hi, ptrOr_some hp ?_⟩
 refine ⟨_, hc.2 3 (Nat.le_of_ble_eq_true rfl), ?_⟩
 exact ⟨[], x.at_, r5, h, ⟨_, _, rfl, ⟨(Nat.le_refl _), (SlR.nil _ _ _ _)⟩⟩, o.done⟩
 exact ⟨r3, 0, 0, h, ⟨_, _, rfl, ⟨le1, (f1.st (Mem.endS (ps := []) (m0 := m)))⟩⟩, o.done⟩
def parse_reader_see_vwp (r : Gparse_reader) (k : Int) (K : GToken → Prop) : Prop :=
 cond (decide ((IntKind.i64.wrap (r.at_ + k)) < (r.toks.length : Int)))
 (((0 : Int) ≤ (IntKind.i64.wrap (r.at_ + k)) ∧ (IntKind.i64.wrap (r.at_ + k)) < (r.toks.length : Int)) ∧
 ∀ x, r.toks[(IntKind.i64.wrap (r.at_ + k)).toNat]? = some x →
 K x)
 (K (⟨0, [], 0, 0⟩ : GToken))
set_option maxRecDepth 10000 in
theorem parse_reader_see_lift (r : Gparse_reader) (k : Int) (K : GToken → Prop) (h : parse_reader_see_vwp r k K) : V_parse_reader_see r k K := by
 intro m w hm rb rA rC rA0 rC0 bx_r le_r0 f_r0
 have o := Mem.start hm.lt
 refine parse_reader_see_ok rb k _ _ ?_
 intro b w1 hb hw1
 obtain ⟨st, o⟩ := o.dB hb hw1
 intro w2 hw2
 obtain ⟨st1, o⟩ := o.dD hw2
 refine ⟨_, (bx_r.keep o.done (by simp)).cell rfl, ?_⟩
 refine ⟨_, _, _, (bx_r.keep o.done (by simp)).cell rfl, ?_⟩
 refine cond_map (fun h => ?_) (fun h => ?_) h
 intro w3 hw3
 obtain ⟨st2, o⟩ := o.dD hw3
 have ox := o
 refine ⟨fun u => Keep [] w3 u, Keep.refl _ _, ?_⟩
 refine ⟨_, _, _, fun u hu => ((bx_r.keep ox.done (by simp)).keep hu (by simp)).cell rfl, ?_⟩
 refine ⟨_, fun u hu => ((bx_r.keep ox.done (by simp)).keep hu (by simp)).cell rfl, ?_⟩
 obtain ⟨hi, h⟩ := h
 obtain ⟨p, x, cs, hp, he, hc, hr⟩ := (f_r0.st (st.trans (st1.trans st2))).elem hi
 obtain rfl := GToken_out hr
 have h := h x he
 refine ⟨hi, ptrOr_some hp ?_⟩
 refine ⟨_, _, _, _, fun u hu => (ElAt.held hc hu (by simp)), ?_⟩
 refine ⟨o.wr 0 rfl rfl, fun w4 hw4 => ?_⟩
 obtain ⟨st3, o⟩ := o.dSs 0 hw4 rfl
 refine ⟨_, _, _, _, (o.at 0 rfl).whole, ?_⟩
 exact ⟨x, h, ⟨_, rfl, (GToken_in x)⟩, o.done⟩
 refine ⟨o.wr 0 rfl rfl, fun w5 hw5 => ?_⟩
 obtain ⟨st4, o⟩ := o.dSs 0 hw5 rfl
 refine ⟨_, _, _, _, (o.at 0 rfl).whole, ?_⟩
 exact ⟨(⟨0, [], 0, 0⟩ : GToken), h, ⟨_, rfl, (GToken_in (⟨0, [], 0, 0⟩ : GToken))⟩, o.done⟩
def parse_reader_is_vwp (r : Gparse_reader) (k : Int) (sx : List UInt8) (K : Bool → Prop) : Prop :=
 V_parse_reader_see r k (fun x =>
 cond (x.kind == 3)
 (K (x.text == sx))
 (cond (x.kind == 4)
 (K (x.text == sx))
 (K false)))
set_option maxRecDepth 10000 in
theorem parse_reader_is_lift (r : Gparse_reader) (k : Int) (sx : List UInt8) (K : Bool → Prop) (h : parse_reader_is_vwp r k sx K) : V_parse_reader_is r k sx K := by
 intro m w hm rb rA rC rA0 rC0 bx_r le_r0 f_r0
 have o := Mem.start hm.lt
 refine parse_reader_is_ok rb k sx _ _ ?_
 refine call_then (h _ w (o.mo hm (by simp) (.head _)) _ _ _ _ _ (bx_r.keep o.done (by simp)) le_r0 f_r0) ?_
 rintro _ w1 ⟨x, h, ⟨cs, rfl, f⟩, ke⟩
 obtain ⟨st, o⟩ := o.dE ke
 obtain rfl := GToken_out f
 refine ⟨_, _, _, _, rfl, ?_⟩
 intro b w2 hb hw2
 obtain ⟨st1, o⟩ := o.dB hb hw2
 refine ⟨o.wr 0 rfl rfl, fun w3 hw3 => ?_⟩
 obtain ⟨st2, o⟩ := o.dSs 0 hw3 rfl
 refine ⟨_, (o.at 0 rfl).cell rfl, ?_⟩
 refine cond_map (fun h => ?_) (fun h => ?_) h
 refine ⟨_, (o.at 0 rfl).cell rfl, ?_⟩
 exact ⟨(x.text == sx), h, rfl, o.done⟩
 refine ⟨_, (o.at 0 rfl).cell rfl, ?_⟩
 refine cond_map (fun h => ?_) (fun h => ?_) h
 refine ⟨_, (o.at 0 rfl).cell rfl, ?_⟩
 exact ⟨(x.text == sx), h, rfl, o.done⟩
 exact ⟨false, h, rfl, o.done⟩
def parse_reader_fail_vwp (r : Gparse_reader) (ex : Int) (K : Gparse_reader → Prop) : Prop :=
 cond (r.e_ == 0)
 (K (⟨r.toks, r.at_, r.deep, r.l, ex⟩ : Gparse_reader))
 (K r)
set_option maxRecDepth 10000 in
theorem parse_reader_fail_lift (r : Gparse_reader) (ex : Int) (K : Gparse_reader → Prop) (h : parse_reader_fail_vwp r ex K) : V_parse_reader_fail r ex K := by
 intro m w hm rb rA rC rA0 rC0 in_r bx_r le_r0 f_r0
 have o := Mem.recv hm.lt in_r bx_r
 have st := Mem.recvS (w := w) in_r bx_r
 have hrm : ∀ b ∈ [rb], b ∈ m := fun b hb => (List.mem_singleton.1 hb) ▸ in_r
 refine parse_reader_fail_ok rb ex _ _ ?_
 refine ⟨_, (o.at 0 rfl).cell rfl, ?_⟩
 refine cond_map (fun h => ?_) (fun h => ?_) h
 refine ⟨o.wr 0 rfl rfl, fun w1 hw1 => ?_⟩
 obtain ⟨st1, o⟩ := o.dS 0 hw1 rfl
 exact ⟨(⟨r.toks, r.at_, r.deep, r.l, ex⟩ : Gparse_reader), h, trivial, o.at 0 rfl, o.done⟩
 exact ⟨r, h, trivial, o.at 0 rfl, o.done⟩
def parse_reader_eat_vwp (r : Gparse_reader) (sx : List UInt8) (K : Bool → Gparse_reader → Prop) : Prop :=
 ∃ (J : Bool → Prop),
 (cond (r.e_ != 0)
 (J true)
 (V_parse_reader_is r 0 sx (fun x1 =>
 J (!x1)))) ∧
 ∀ (x : Bool), J x →
 cond (x)
 (K false r)
 (K true (⟨r.toks, IntKind.i64.wrap (r.at_ + 1), r.deep, r.l, r.e_⟩ : Gparse_reader))
set_option maxRecDepth 10000 in
theorem parse_reader_eat_lift (r : Gparse_reader) (sx : List UInt8) (K : Bool → Gparse_reader → Prop) (h : parse_reader_eat_vwp r sx K) : V_parse_reader_eat r sx K := by
 intro m w hm rb rA rC rA0 rC0 in_r bx_r le_r0 f_r0
 have o := Mem.recv hm.lt in_r bx_r
 have st := Mem.recvS (w := w) in_r bx_r
 have hrm : ∀ b ∈ [rb], b ∈ m := fun b hb => (List.mem_singleton.1 hb) ▸ in_r
 refine parse_reader_eat_ok rb sx _ _ ?_
 obtain ⟨J, h, h2⟩ := h
 refine ⟨fun x w1 => J x ∧ Mem w.heap.size [rb] m [([rb], w.heap.size, w)] [] w1 [.box rb [.slice rA0 r.toks.length rC0, .int .i64 r.at_, .int .i64 r.deep, .slice rA r.l.length rC, .int .i64 r.e_]] ∧ Step (ms [.box rb [.slice rA0 r.toks.length rC0, .int .i64 r.at_, .int .i64 r.deep, .slice rA r.l.length rC, .int .i64 r.e_]] m) w (ms [.box rb [.slice rA0 r.toks.length rC0, .int .i64 r.at_, .int .i64 r.deep, .slice rA r.l.length rC, .int .i64 r.e_]] m) w1, ?_, ?_⟩
 refine ⟨_, (o.at 0 rfl).cell rfl, ?_⟩
 refine cond_map (fun h => ?_) (fun h => ?_) h
 exact ⟨h, o, Step.refl _ _⟩
 refine call_then (h _ w (o.mo hm hrm (.head _)) _ _ _ _ _ (o.at 0 rfl) le_r0 (f_r0.st st)) ?_
 rintro _ w2 ⟨x1, h, rfl, ke⟩
 obtain ⟨st2, o⟩ := o.dE ke
 refine ⟨_, rfl, ?_⟩
 exact ⟨h, o, st2⟩
 rintro _ x w1 ⟨hJ, o, st1⟩
 have h := h2 x hJ
 refine cond_map (fun h => ?_) (fun h => ?_) h
 exact ⟨false, r, h, rfl, o.at 0 rfl, o.done⟩
 refine ⟨_, (o.at 0 rfl).cell rfl, ?_⟩
 refine ⟨o.wr 0 rfl rfl, fun w3 hw3 => ?_⟩
 obtain ⟨st3, o⟩ := o.dS 0 hw3 rfl
 exact ⟨true, (⟨r.toks, IntKind.i64.wrap (r.at_ + 1), r.deep, r.l, r.e_⟩ : Gparse_reader), h, rfl, o.at 0 rfl, o.done⟩
def parse_reader_must_vwp (r : Gparse_reader) (l : List (List UInt8)) (K : Gparse_reader → Prop) : Prop :=
 ∃ (I : Int → Int → Int → Int → Nat → Prop), (∃ n, I 0 r.at_ r.deep r.e_ n) ∧
 ∀ (x : Int) (atx : Int) (de : Int) (ex : Int) (n : Nat), I x atx de ex n →
 cond (decide (x < (l.length : Int)))
 (((0 : Int) ≤ x ∧ x < (l.length : Int)) ∧
 ∀ x1, l[x.toNat]? = some x1 →
 V_parse_reader_eat (⟨r.toks, atx, de, r.l, ex⟩ : Gparse_reader) x1 (fun x2 r1 =>
 cond (!x2)
 (V_parse_reader_fail (⟨r.toks, r1.at_, r1.deep, r.l, r1.e_⟩ : Gparse_reader) 11 (fun r2 =>
 K (⟨r.toks, r2.at_, r2.deep, r.l, r2.e_⟩ : Gparse_reader)))
 (∃ n1, n1 < n ∧ I (IntKind.i64.wrap (x + 1)) r1.at_ r1.deep r1.e_ n1)))
 (K (⟨r.toks, atx, de, r.l, ex⟩ : Gparse_reader))
set_option maxRecDepth 10000 in
theorem parse_reader_must_lift (r : Gparse_reader) (l : List (List UInt8)) (K : Gparse_reader → Prop) (h : parse_reader_must_vwp r l K) : V_parse_reader_must r l K := by
 intro m w hm rb rA rC rA0 rC0 in_r bx_r le_r0 f_r0 lA lC le_l f_l
 have o := Mem.recv hm.lt in_r bx_r
 have st := Mem.recvS (w := w) in_r bx_r
 have hrm : ∀ b ∈ [rb], b ∈ m := fun b hb => (List.mem_singleton.1 hb) ▸ in_r
 refine parse_reader_must_ok rb lA l.length lC _ _ ?_
 obtain ⟨I, ⟨n2, h⟩, h2⟩ := h
 obtain ⟨Z, hZ⟩ : ∃ Z : Int → World → Nat → Prop, Z = fun x w1 n => ∃ (atx : Int) (de : Int) (ex : Int), I x atx de ex n ∧ Mem w.heap.size [rb] m [([rb], w.heap.size, w)] [] w1 [.box rb [.slice rA0 r.toks.length rC0, .int .i64 atx, .int .i64 de, .slice rA r.l.length rC, .int .i64 ex]] ∧ Step (ms [.box rb [.slice rA0 r.toks.length rC0, .int .i64 r.at_, .int .i64 r.deep, .slice rA r.l.length rC, .int .i64 r.e_]] m) w (ms [.box rb [.slice rA0 r.toks.length rC0, .int .i64 atx, .int .i64 de, .slice rA r.l.length rC, .int .i64 ex]] m) w1 := ⟨_, rfl⟩
 refine ⟨fun x w1 => ∃ n, Z x w1 n, fun x w1 => leastN (Z x w1), ⟨n2, ?_⟩, ?_⟩
 rw [hZ]; exact ⟨r.at_, r.deep, r.e_, h, o, Step.refl _ _⟩
 intro _ x w1 hIZ
 obtain ⟨n, hnn⟩ : ∃ n, n = leastN (Z x w1) := ⟨_, rfl⟩
 have hIZ := leastN_at hIZ
 rw [← hnn, hZ] at hIZ
 obtain ⟨atx, de, ex, h, o, st1⟩ := hIZ
 have h := h2 x atx de ex n h
 refine cond_map (fun h => ?_) (fun h => ?_) h
 obtain ⟨hi, h⟩ := h
 obtain ⟨p, x1, cs, hp, he, hc, hr⟩ := (f_l.st (st.trans st1)).elem hi
 obtain rfl := hr
 have h := h x1 he
 refine ⟨hi, ptrOr_some hp ?_⟩
 refine ⟨_, (CellsAt.head hc.2), ?_⟩
 refine call_then (h _ w1 (o.mo hm hrm (.head _)) _ _ _ _ _ (Mem.inms 0 rfl) (o.at 0 rfl) le_r0 (f_r0.st (st.trans st1))) ?_
 rintro _ w2 ⟨x2, r1, h, rfl, bx, ke⟩
 have st2 := o.xC (l' := [.slice rA0 r.toks.length rC0, .int .i64 r1.at_, .int .i64 r1.deep, .slice rA r.l.length rC, .int .i64 r1.e_]) 0 ke rfl
 have o := o.call 0 ke bx rfl
 refine ⟨_, rfl, ?_⟩
 refine cond_map (fun h => ?_) (fun h => ?_) h
 refine call_then (h _ w2 (o.mo hm hrm (.head _)) _ _ _ _ _ (Mem.inms 0 rfl) (o.at 0 rfl) le_r0 (f_r0.st (st.trans (st1.trans st2)))) ?_
 rintro _ w3 ⟨r2, h, -, bx1, ke1⟩
 have st3 := o.xC (l' := [.slice rA0 r.toks.length rC0, .int .i64 r2.at_, .int .i64 r2.deep, .slice rA r.l.length rC, .int .i64 r2.e_]) 0 ke1 rfl
 have o := o.call 0 ke1 bx1 rfl
 exact ⟨(⟨r.toks, r2.at_, r2.deep, r.l, r2.e_⟩ : Gparse_reader), h, trivial, o.at 0 rfl, o.done⟩
 obtain ⟨n1, hl, h⟩ := h
 exact loop_again hnn (show Z _ w2 n1 from (by rw [hZ]; exact ⟨r1.at_, r1.deep, r1.e_, h, o, (st1.trans st2)⟩)) hl
 exact ⟨(⟨r.toks, atx, de, r.l, ex⟩ : Gparse_reader), h, trivial, o.at 0 rfl, o.done⟩
def parse_reader_name_vwp (r : Gparse_reader) (K : (List UInt8) → Gparse_reader → Prop) : Prop :=
 V_parse_reader_see r 0 (fun x =>
 ∃ (J : Bool → Prop),
 (cond (r.e_ != 0)
 (J true)
 (J (x.kind != 1))) ∧
 ∀ (x1 : Bool), J x1 →
 cond (x1)
 (V_parse_reader_fail r 11 (fun r1 =>
 K [] (⟨r.toks, r1.at_, r1.deep, r.l, r1.e_⟩ : Gparse_reader)))
 (K x.text (⟨r.toks, IntKind.i64.wrap (r.at_ + 1), r.deep, r.l, r.e_⟩ : Gparse_reader)))
set_option maxRecDepth 10000 in
theorem parse_reader_name_lift (r : Gparse_reader) (K : (List UInt8) → Gparse_reader → Prop) (h : parse_reader_name_vwp r K) : V_parse_reader_name r K := by
 intro m w hm rb rA rC rA0 rC0 in_r bx_r le_r0 f_r0
 have o := Mem.recv hm.lt in_r bx_r
 have st := Mem.recvS (w := w) in_r bx_r
 have hrm : ∀ b ∈ [rb], b ∈ m := fun b hb => (List.mem_singleton.1 hb) ▸ in_r
 refine parse_reader_name_ok rb _ _ ?_
 refine call_then (h _ w (o.mo hm hrm (.head _)) _ _ _ _ _ (o.at 0 rfl) le_r0 (f_r0.st st)) ?_
 rintro _ w1 ⟨x, h, ⟨cs, rfl, f⟩, ke⟩
 obtain ⟨st1, o⟩ := o.dE ke
 obtain rfl := GToken_out f
 refine ⟨_, _, _, _, rfl, ?_⟩
 intro b w2 hb hw2
 obtain ⟨st2, o⟩ := o.dB hb hw2
 refine ⟨o.wr 0 rfl rfl, fun w3 hw3 => ?_⟩
 obtain ⟨st3, o⟩ := o.dSs 0 hw3 rfl
 obtain ⟨J, h, h2⟩ := h
 refine ⟨fun x1 w4 => J x1 ∧ Mem w.heap.size [rb] m [([rb], w.heap.size, w)] [] w4 [.box b [.int .i64 x.kind, .string (mkS x.text), .int .i64 x.n, .int .i64 x.at_], .box rb [.slice rA0 r.toks.length rC0, .int .i64 r.at_, .int .i64 r.deep, .slice rA r.l.length rC, .int .i64 r.e_]] ∧ Step (ms [.box b [.int .i64 x.kind, .string (mkS x.text), .int .i64 x.n, .int .i64 x.at_], .box rb [.slice rA0 r.toks.length rC0, .int .i64 r.at_, .int .i64 r.deep, .slice rA r.l.length rC, .int .i64 r.e_]] m) w3 (ms [.box b [.int .i64 x.kind, .string (mkS x.text), .int .i64 x.n, .int .i64 x.at_], .box rb [.slice rA0 r.toks.length rC0, .int .i64 r.at_, .int .i64 r.deep, .slice rA r.l.length rC, .int .i64 r.e_]] m) w4, ?_, ?_⟩
 refine ⟨_, (o.at 1 rfl).cell rfl, ?_⟩
 refine cond_map (fun h => ?_) (fun h => ?_) h
 exact ⟨h, o, Step.refl _ _⟩
 refine ⟨_, (o.at 0 rfl).cell rfl, ?_⟩
 exact ⟨h, o, Step.refl _ _⟩
 rintro _ x1 w4 ⟨hJ, o, st4⟩
 have h := h2 x1 hJ
 refine cond_map (fun h => ?_) (fun h => ?_) h
 refine call_then (h _ w4 (o.mo hm hrm (.head _)) _ _ _ _ _ (Mem.inms 1 rfl) (o.at 1 rfl) le_r0 (f_r0.st (st.trans (st1.trans (st2.trans (st3.trans st4)))))) ?_
 rintro _ w5 ⟨r1, h, -, bx, ke1⟩
 have st5 := o.xC (l' := [.slice rA0 r.toks.length rC0, .int .i64 r1.at_, .int .i64 r1.deep, .slice rA r.l.length rC, .int .i64 r1.e_]) 1 ke1 rfl
 have o := o.call 1 ke1 bx rfl
 exact ⟨[], (⟨r.toks, r1.at_, r1.deep, r.l, r1.e_⟩ : Gparse_reader), h, rfl, o.at 1 rfl, o.done⟩
 refine ⟨_, (o.at 1 rfl).cell rfl, ?_⟩
 refine ⟨o.wr 1 rfl rfl, fun w6 hw6 => ?_⟩
 obtain ⟨st6, o⟩ := o.dS 1 hw6 rfl
 refine ⟨_, (o.at 0 rfl).cell rfl, ?_⟩
 exact ⟨x.text, (⟨r.toks, IntKind.i64.wrap (r.at_ + 1), r.deep, r.l, r.e_⟩ : Gparse_reader), h, rfl, o.at 1 rfl, o.done⟩
def parse_reader_open_vwp (r : Gparse_reader) (op : Int) (K : Int → Gparse_reader → Prop) : Prop :=
 ∃ (J : Int → Int → (List GNode) → Int → Prop),
 (V_parse_reader_see r 0 (fun x =>
 r.l.length + ([(⟨op, [], 0, 0, x.at_⟩ : GNode)]).length < 2 ^ 32 ∧
 J r.at_ r.deep (r.l ++ [(⟨op, [], 0, 0, x.at_⟩ : GNode)]) r.e_)) ∧
 ∀ (atx : Int) (de : Int) (l : List GNode) (ex : Int), J atx de l ex →
 K (IntKind.i64.wrap ((l.length : Int) - 1)) (⟨r.toks, atx, de, l, ex⟩ : Gparse_reader)
set_option maxRecDepth 10000 in
theorem parse_reader_open_lift (r : Gparse_reader) (op : Int) (K : Int → Gparse_reader → Prop) (h : parse_reader_open_vwp r op K) : V_parse_reader_open r op K := by
 intro m w hm rb rA rC rxs rA0 rC0 in_r ina_r bx_r rw_r f_r le_r0 f_r0
 have hrs_ := Mem.objlt hm.lt in_r ina_r
 have o := Mem.obj hm.lt in_r ina_r bx_r rw_r
 have st := Mem.objS (w := w) (l := [.slice rA0 r.toks.length rC0, .int .i64 r.at_, .int .i64 r.deep, .slice rA r.l.length rC, .int .i64 r.e_]) (e := 39) (size := 5) (n := r.l.length) (c := rC) (xs := rxs) in_r ina_r
 have hrm : ∀ b ∈ (rb :: (Vc.blk rA).toList), b ∈ m := fun b hb => (List.mem_cons.1 hb).elim (fun e => e ▸ in_r) (fun h => (ina_r b (Option.mem_toList.1 h)).1)
 refine parse_reader_open_ok rb op _ _ ?_
 obtain ⟨J, h, h2⟩ := h
 refine ⟨fun w1 => ∃ (atx : Int) (de : Int) (l : List GNode) (ex : Int) (xs : List Value) (a : Option Addr) (c : Nat), J atx de l ex ∧ El cGNode (ms [.box rb [.slice rA0 r.toks.length rC0, .int .i64 atx, .int .i64 de, .slice a l.length c, .int .i64 ex], .row 39 5 a l.length c xs] m) w1 l xs ∧ Mem w.heap.size (rb :: (Vc.blk rA).toList) m [((rb :: (Vc.blk rA).toList), w.heap.size, w)] [] w1 [.box rb [.slice rA0 r.toks.length rC0, .int .i64 atx, .int .i64 de, .slice a l.length c, .int .i64 ex], .row 39 5 a l.length c xs] ∧ Step (ms [.box rb [.slice rA0 r.toks.length rC0, .int .i64 r.at_, .int .i64 r.deep, .slice rA r.l.length rC, .int .i64 r.e_], .row 39 5 rA r.l.length rC rxs] m) w (ms [.box rb [.slice rA0 r.toks.length rC0, .int .i64 atx, .int .i64 de, .slice a l.length c, .int .i64 ex], .row 39 5 a l.length c xs] m) w1, ?_, ?_⟩
 intro w2 hw2
 obtain ⟨st2, o⟩ := o.dD hw2
 have ox := o
 refine ⟨fun u => Keep [] w2 u, Keep.refl _ _, ?_⟩
 refine ⟨_, _, _, fun u hu => ((ox.at 0 rfl).keep hu (by simp)).cell rfl, ?_⟩
 refine call_then (h _ w2 (o.mo hm hrm (.head _)) _ _ _ _ _ (o.at 0 rfl) le_r0 (f_r0.st (st.trans st2))) ?_
 rintro _ w3 ⟨x, h, ⟨cs, rfl, f⟩, ke⟩
 obtain ⟨st3, o⟩ := o.dE ke
 obtain rfl := GToken_out f
 refine ⟨_, _, _, _, rfl, ?_⟩
 refine ⟨(ke.mono (by simp)), ?_⟩
 intro b w4 hb hw4
 have el1 : El cGNode (ms [.box rb [.slice rA0 r.toks.length rC0, .int .i64 r.at_, .int .i64 r.deep, .slice rA r.l.length rC, .int .i64 r.e_], .row 39 5 rA r.l.length rC rxs] m) w3 [(⟨op, [], 0, 0, x.at_⟩ : GNode)] ([.int .i64 op, .string (mkS []), .int .i64 0, .int .i64 0, .int .i64 x.at_] : List Value) := (El.cons (cs := [.int .i64 op, .string (mkS []), .int .i64 0, .int .i64 0, .int .i64 x.at_]) (GNode_in (⟨op, [], 0, 0, x.at_⟩ : GNode)) (El.nil _ _ _))
 have fr : w.heap.size ≤ b := hb ▸ o.le
 have st4 := o.xL hb hw4 5 1
 have o := o.lit hb hw4 5 1 (by decide) rfl
 refine ⟨((ke.mono (by simp)).trans ((keep_alloc hw4).mono (by simp))), ?_⟩
 obtain ⟨lt, h⟩ := h
 have el3 := ((f_r.st (st.trans (st2.trans (st3.trans st4))))).app (el1.st st4)
 refine append_sl sl_39 (o.rowAt 2 rfl) (o.rowAt 0 rfl).sl (el1.st st4).len (el1.st st4).one (by first | (simp; done) | simpa using lt) (by decide) (Nat.zero_le _) fun a1 c1 w5 hr hg hat => ?_
 have ln : r.l.length + 1 = (r.l ++ [(⟨op, [], 0, 0, x.at_⟩ : GNode)]).length := (by first | (simp; done) | (simp; omega))
 rw [ln] at hr ⊢
 refine ⟨_, _, _, rfl, ?_⟩
 have st5 := o.xA 2 rfl hr hg hat
 have o := o.app 2 rfl hr hg hat
 refine ⟨o.wr 1 rfl rfl, fun w6 hw6 => ?_⟩
 obtain ⟨st6, o⟩ := o.dS 1 hw6 rfl
 obtain ⟨st7, o⟩ := o.dX 0
 exact ⟨r.at_, r.deep, (r.l ++ [(⟨op, [], 0, 0, x.at_⟩ : GNode)]), r.e_, (rxs ++ ([.int .i64 op, .string (mkS []), .int .i64 0, .int .i64 0, .int .i64 x.at_] : List Value)), a1, c1, h, (el3.st (st5.trans (st6.trans st7))), o, (st2.trans (st3.trans (st4.trans (st5.trans (st6.trans st7)))))⟩
 rintro _ w1 ⟨atx, de, l, ex, xs, a, c, hJ, el, o, st1⟩
 have h := h2 atx de l ex hJ
 refine ⟨_, _, _, (o.at 0 rfl).cell rfl, ?_⟩
 exact ⟨(IntKind.i64.wrap ((l.length : Int) - 1)), (⟨r.toks, atx, de, l, ex⟩ : Gparse_reader), h, rfl, ⟨_, _, _, o.at 0 rfl, o.rowAt 1 rfl, (el.st (Mem.endRS (w := w1) (ps := [.box rb [.slice rA0 r.toks.length rC0, .int .i64 atx, .int .i64 de, .slice a l.length c, .int .i64 ex], .row 39 5 a l.length c xs]) (m0 := m) 1 rfl)), o.oldnew 1 rfl 0 rfl (by decide)⟩, o.done⟩
def parse_reader_term_vwp (r : Gparse_reader) (up : Int) (K : Gparse_reader → Prop) : Prop :=
 cond (r.e_ != 0)
 (K r)
 (∃ (J : (List GNode) → Int → Int → Prop),
 (V_term_Parse r.toks r.at_ (fun r1 r2 r3 =>
 J r1 r2 r3)) ∧
 ∀ (l : List GNode) (atx : Int) (ex : Int), J l atx ex →
 cond (ex != 0)
 (V_parse_reader_fail (⟨r.toks, atx, r.deep, r.l, r.e_⟩ : Gparse_reader) ex (fun r4 =>
 K (⟨r.toks, r4.at_, r4.deep, r.l, r4.e_⟩ : Gparse_reader)))
 (r.l.length + l.length < 2 ^ 32 ∧
 ((0 : Int) ≤ up ∧ up < ((r.l ++ l).length : Int)) ∧
 ∀ x, (r.l ++ l)[up.toNat]? = some x →
 ((0 : Int) ≤ up ∧ up < ((r.l ++ l).length : Int)) ∧
 ∀ x1, (r.l ++ l)[up.toNat]? = some x1 →
 K (⟨r.toks, atx, r.deep, ((r.l ++ l).set up.toNat (⟨x1.op, x1.name, x1.n, IntKind.i64.wrap (x.kids + 1), x1.at_⟩ : GNode)), r.e_⟩ : Gparse_reader)))
set_option maxRecDepth 10000 in
theorem parse_reader_term_lift (r : Gparse_reader) (up : Int) (K : Gparse_reader → Prop) (h : parse_reader_term_vwp r up K) : V_parse_reader_term r up K := by
 intro m w hm rb rA rC rxs rA0 rC0 in_r ina_r bx_r rw_r f_r le_r0 f_r0
 have hrs_ := Mem.objlt hm.lt in_r ina_r
 have o := Mem.obj hm.lt in_r ina_r bx_r rw_r
 have st := Mem.objS (w := w) (l := [.slice rA0 r.toks.length rC0, .int .i64 r.at_, .int .i64 r.deep, .slice rA r.l.length rC, .int .i64 r.e_]) (e := 39) (size := 5) (n := r.l.length) (c := rC) (xs := rxs) in_r ina_r
 have hrm : ∀ b ∈ (rb :: (Vc.blk rA).toList), b ∈ m := fun b hb => (List.mem_cons.1 hb).elim (fun e => e ▸ in_r) (fun h => (ina_r b (Option.mem_toList.1 h)).1)
 refine parse_reader_term_ok rb up _ _ ?_
 refine ⟨_, (o.at 0 rfl).cell rfl, ?_⟩
 refine cond_map (fun h => ?_) (fun h => ?_) h
 exact ⟨r, h, trivial, ⟨_, _, _, o.at 0 rfl, o.rowAt 1 rfl, (f_r.st (st.trans (Mem.endRS (w := w) (ps := [.box rb [.slice rA0 r.toks.length rC0, .int .i64 r.at_, .int .i64 r.deep, .slice rA r.l.length rC, .int .i64 r.e_], .row 39 5 rA r.l.length rC rxs]) (m0 := m) 1 rfl))), o.oldnew 1 rfl 0 rfl (by decide)⟩, o.done⟩
 obtain ⟨J, h, h2⟩ := h
 refine ⟨fun lA lN lC atx ex w1 => ∃ (l : List GNode), J l atx ex ∧ (l.length ≤ lC ∧ SlR cGNode (ms [.box rb [.slice rA0 r.toks.length rC0, .int .i64 r.at_, .int .i64 r.deep, .slice rA r.l.length rC, .int .i64 r.e_], .row 39 5 rA r.l.length rC rxs] m) w1 lA l) ∧ lN = l.length ∧ Mem w.heap.size (rb :: (Vc.blk rA).toList) m [((rb :: (Vc.blk rA).toList), w.heap.size, w)] [] w1 [.box rb [.slice rA0 r.toks.length rC0, .int .i64 r.at_, .int .i64 r.deep, .slice rA r.l.length rC, .int .i64 r.e_], .row 39 5 rA r.l.length rC rxs] ∧ Step (ms [.box rb [.slice rA0 r.toks.length rC0, .int .i64 r.at_, .int .i64 r.deep, .slice rA r.l.length rC, .int .i64 r.e_], .row 39 5 rA r.l.length rC rxs] m) w (ms [.box rb [.slice rA0 r.toks.length rC0, .int .i64 r.at_, .int .i64 r.deep, .slice rA r.l.length rC, .int .i64 r.e_], .row 39 5 rA r.l.length rC rxs] m) w1, ?_, ?_⟩
 intro w2 hw2
 obtain ⟨st2, o⟩ := o.dD hw2
 have ox := o
 refine ⟨fun u => Keep [] w2 u, Keep.refl _ _, ?_⟩
 refine ⟨_, _, _, fun u hu => ((ox.at 0 rfl).keep hu (by simp)).cell rfl, ?_⟩
 refine ⟨_, fun u hu => ((ox.at 0 rfl).keep hu (by simp)).cell rfl, ?_⟩
 refine call_then (h _ w2 (o.mo hm hrm (.head _)) _ _ le_r0 (f_r0.st (st.trans st2))) ?_
 rintro _ w3 ⟨r1, r2, r3, h, ⟨a, c, rfl, ⟨le1, f1⟩⟩, ke⟩
 obtain ⟨st3, o⟩ := o.dE ke
 refine ⟨_, _, _, _, _, rfl, ?_⟩
 exact ⟨r1, h, ⟨le1, f1⟩, rfl, o, (st2.trans st3)⟩
 rintro _ lA lN lC atx ex w1 ⟨l, hJ, ⟨le, f⟩, rfl, o, st1⟩
 have h := h2 l atx ex hJ
 refine ⟨o.wr 0 rfl rfl, fun w4 hw4 => ?_⟩
 obtain ⟨st4, o⟩ := o.dS 0 hw4 rfl
 refine cond_map (fun h => ?_) (fun h => ?_) h
 refine call_then (h _ w4 (o.mo hm hrm (.head _)) _ _ _ _ _ (Mem.inms 0 rfl) (o.at 0 rfl) le_r0 (f_r0.st (st.trans (st1.trans st4)))) ?_
 rintro _ w5 ⟨r4, h, -, bx, ke1⟩
 have st5 := o.xC (l' := [.slice rA0 r.toks.length rC0, .int .i64 r4.at_, .int .i64 r4.deep, .slice rA r.l.length rC, .int .i64 r4.e_]) 0 ke1 rfl
 have o := o.call 0 ke1 bx rfl
 exact ⟨(⟨r.toks, r4.at_, r4.deep, r.l, r4.e_⟩ : Gparse_reader), h, trivial, ⟨_, _, _, o.at 0 rfl, o.rowAt 1 rfl, (f_r.st (st.trans (st1.trans (st4.trans (st5.trans (Mem.endRS (w := w5) (ps := [.box rb [.slice rA0 r.toks.length rC0, .int .i64 r4.at_, .int .i64 r4.deep, .slice rA r.l.length rC, .int .i64 r4.e_], .row 39 5 rA r.l.length rC rxs]) (m0 := m) 1 rfl)))))), o.oldnew 1 rfl 0 rfl (by decide)⟩, o.done⟩
 refine ⟨_, _, _, (o.at 0 rfl).cell rfl, ?_⟩
 obtain ⟨lt, h⟩ := h
 obtain ⟨xs, hx, el⟩ := SlR.cells (f.st st4)
 have el1 := ((f_r.st (st.trans (st1.trans st4)))).app el
 refine append_sl sl_39 (o.rowAt 1 rfl) hx el.len el.one (by first | (simp; done) | simpa using lt) (by decide) (Nat.zero_le _) fun a1 c1 w6 hr hg hat => ?_
 have ln : r.l.length + l.length = (r.l ++ l).length := (by first | (simp; done) | (simp; omega))
 rw [ln] at hr ⊢
 refine ⟨_, _, _, rfl, ?_⟩
 have st6 := o.xA 1 rfl hr hg hat
 have o := o.app 1 rfl hr hg hat
 refine ⟨o.wr 0 rfl rfl, fun w7 hw7 => ?_⟩
 obtain ⟨st7, o⟩ := o.dS 0 hw7 rfl
 refine ⟨_, _, _, (o.at 0 rfl).cell rfl, ?_⟩
 obtain ⟨hi, h⟩ := h
 obtain ⟨p, x, cs, hp, he, hc, hr1⟩ := row_elem (o.rowAt 1 rfl) (el1.st (st6.trans st7)) hi
 obtain rfl := GNode_out hr1
 have h := h x he
 refine ⟨hi, ptrOr_some hp ?_⟩
 refine ⟨_, hc.2 3 (Nat.le_of_ble_eq_true rfl), ?_⟩
 obtain ⟨hi1, h⟩ := h
 obtain ⟨p1, x1, cs1, hp1, he1, hc1, hr2⟩ := row_elem (o.rowAt 1 rfl) (el1.st (st6.trans st7)) hi1
 obtain rfl := GNode_out hr2
 have h := h x1 he1
 refine ⟨hi1, ptrOr_some hp1 ?_⟩
 have hq := row_putp (i := up.toNat) (o.rowAt 1 rfl) (el1.st (st6.trans st7)) hp1 he1 hc1.2 rfl 3 (.int .i64 (IntKind.i64.wrap (x.kids + 1))) (by decide)
 refine ⟨hq.1, fun w8 hw8 => ?_⟩
 obtain ⟨xs1, hr3, hg1, hel⟩ := hq.2 _ hw8
 have el2 := hel (⟨x1.op, x1.name, x1.n, IntKind.i64.wrap (x.kids + 1), x1.at_⟩ : GNode) (GNode_in (⟨x1.op, x1.name, x1.n, IntKind.i64.wrap (x.kids + 1), x1.at_⟩ : GNode))
 have st8 := o.xA 1 rfl hr3 hg1 (.inl rfl)
 have o := o.app 1 rfl hr3 hg1 (.inl rfl)
 have ln1 : (r.l ++ l).length = ((r.l ++ l).set up.toNat (⟨x1.op, x1.name, x1.n, IntKind.i64.wrap (x.kids + 1), x1.at_⟩ : GNode)).length := row_len (o.rowAt 1 rfl) (el2.st st8)
 rw [ln1] at o
 try rw [ln1]
 exact ⟨(⟨r.toks, atx, r.deep, ((r.l ++ l).set up.toNat (⟨x1.op, x1.name, x1.n, IntKind.i64.wrap (x.kids + 1), x1.at_⟩ : GNode)), r.e_⟩ : Gparse_reader), h, trivial, ⟨_, _, _, o.at 0 rfl, o.rowAt 1 rfl, (el2.st (st8.trans (Mem.endRS (w := w8) (ps := [.box rb [.slice rA0 r.toks.length rC0, .int .i64 atx, .int .i64 r.deep, .slice a1 (((r.l ++ l).set up.toNat (⟨x1.op, x1.name, x1.n, IntKind.i64.wrap (x.kids + 1), x1.at_⟩ : GNode)).length) c1, .int .i64 r.e_], .row 39 5 a1 (((r.l ++ l).set up.toNat (⟨x1.op, x1.name, x1.n, IntKind.i64.wrap (x.kids + 1), x1.at_⟩ : GNode)).length) c1 xs1]) (m0 := m) 1 rfl))), o.oldnew 1 rfl 0 rfl (by decide)⟩, o.done⟩
def parse_reader_ref_vwp (r : Gparse_reader) (up : Int) (K : Gparse_reader → Prop) : Prop :=
 V_parse_reader_open r 33 (fun i r1 =>
 ∃ (J : Int → Int → (List GNode) → Int → Prop),
 (V_parse_reader_name (⟨r.toks, r1.at_, r1.deep, r1.l, r1.e_⟩ : Gparse_reader) (fun x r2 =>
 ((0 : Int) ≤ i ∧ i < (r1.l.length : Int)) ∧
 ∀ x1, r1.l[i.toNat]? = some x1 →
 J r2.at_ r2.deep (r1.l.set i.toNat (⟨x1.op, x, x1.n, x1.kids, x1.at_⟩ : GNode)) r2.e_)) ∧
 ∀ (atx : Int) (de : Int) (l : List GNode) (ex : Int), J atx de l ex →
 ∃ (J1 : Int → Int → (List GNode) → Int → Prop),
 (V_parse_reader_eat (⟨r.toks, atx, de, l, ex⟩ : Gparse_reader) [91] (fun x2 r3 =>
 cond (x2)
 (V_parse_reader_term (⟨r.toks, r3.at_, r3.deep, l, r3.e_⟩ : Gparse_reader) i (fun r4 =>
 V_parse_reader_must (⟨r.toks, r4.at_, r4.deep, r4.l, r4.e_⟩ : Gparse_reader) ([[93]] : List (List UInt8)) (fun r5 =>
 J1 r5.at_ r5.deep r4.l r5.e_)))
 (J1 r3.at_ r3.deep l r3.e_))) ∧
 ∀ (atx1 : Int) (de1 : Int) (l1 : List GNode) (ex1 : Int), J1 atx1 de1 l1 ex1 →
 ((0 : Int) ≤ up ∧ up < (l1.length : Int)) ∧
 ∀ x3, l1[up.toNat]? = some x3 →
 ((0 : Int) ≤ up ∧ up < (l1.length : Int)) ∧
 ∀ x4, l1[up.toNat]? = some x4 →
 K (⟨r.toks, atx1, de1, (l1.set up.toNat (⟨x4.op, x4.name, x4.n, IntKind.i64.wrap (x3.kids + 1), x4.at_⟩ : GNode)), ex1⟩ : Gparse_reader))
set_option maxRecDepth 10000 in
theorem parse_reader_ref_lift (r : Gparse_reader) (up : Int) (K : Gparse_reader → Prop) (h : parse_reader_ref_vwp r up K) : V_parse_reader_ref r up K := by
 intro m w hm rb rA rC rxs rA0 rC0 in_r ina_r bx_r rw_r f_r le_r0 f_r0
 have hrs_ := Mem.objlt hm.lt in_r ina_r
 have o := Mem.obj hm.lt in_r ina_r bx_r rw_r
 have st := Mem.objS (w := w) (l := [.slice rA0 r.toks.length rC0, .int .i64 r.at_, .int .i64 r.deep, .slice rA r.l.length rC, .int .i64 r.e_]) (e := 39) (size := 5) (n := r.l.length) (c := rC) (xs := rxs) in_r ina_r
 have hrm : ∀ b ∈ (rb :: (Vc.blk rA).toList), b ∈ m := fun b hb => (List.mem_cons.1 hb).elim (fun e => e ▸ in_r) (fun h => (ina_r b (Option.mem_toList.1 h)).1)
 refine parse_reader_ref_ok rb up _ _ ?_
 refine call_then (h _ w (o.mo hm hrm (.head _)) _ _ _ _ _ _ (Mem.inms 0 rfl) (o.objin 0 1 rfl rfl (by decide)) (o.at 0 rfl) (o.rowAt 1 rfl) (f_r.st st) le_r0 (f_r0.st st)) ?_
 rintro _ w1 ⟨i, r1, h, rfl, ⟨a, c, xs, bx, hr, el, fr⟩, ke⟩
 have st1 := Mem.call2S (ps := [.box rb [.slice rA0 r.toks.length rC0, .int .i64 r.at_, .int .i64 r.deep, .slice rA r.l.length rC, .int .i64 r.e_], .row 39 5 rA r.l.length rC rxs]) (m0 := m) (l' := [.slice rA0 r.toks.length rC0, .int .i64 r1.at_, .int .i64 r1.deep, .slice a r1.l.length c, .int .i64 r1.e_]) (n' := r1.l.length) (c' := c) (xs' := xs) 0 1 rfl rfl ke fr
 have el1 := El.st el (Mem.call2D (ps := [.box rb [.slice rA0 r.toks.length rC0, .int .i64 r.at_, .int .i64 r.deep, .slice rA r.l.length rC, .int .i64 r.e_], .row 39 5 rA r.l.length rC rxs]) (m0 := m) (l' := [.slice rA0 r.toks.length rC0, .int .i64 r1.at_, .int .i64 r1.deep, .slice a r1.l.length c, .int .i64 r1.e_]) (e := 39) (size := 5) (n' := r1.l.length) (c' := c) (xs' := xs) 0 1 rfl)
 have o := o.call2 0 1 rfl rfl (by decide) ke bx hr fr
 refine ⟨_, rfl, ?_⟩
 obtain ⟨J, h, h2⟩ := h
 refine ⟨fun w2 => ∃ (atx : Int) (de : Int) (l : List GNode) (ex : Int) (xs1 : List Value) (a1 : Option Addr) (c1 : Nat), J atx de l ex ∧ El cGNode (ms [.box rb [.slice rA0 r.toks.length rC0, .int .i64 atx, .int .i64 de, .slice a1 l.length c1, .int .i64 ex], .row 39 5 a1 l.length c1 xs1] m) w2 l xs1 ∧ Mem w.heap.size (rb :: (Vc.blk rA).toList) m [((rb :: (Vc.blk rA).toList), w.heap.size, w)] [] w2 [.box rb [.slice rA0 r.toks.length rC0, .int .i64 atx, .int .i64 de, .slice a1 l.length c1, .int .i64 ex], .row 39 5 a1 l.length c1 xs1] ∧ Step (ms [.box rb [.slice rA0 r.toks.length rC0, .int .i64 r1.at_, .int .i64 r1.deep, .slice a r1.l.length c, .int .i64 r1.e_], .row 39 5 a r1.l.length c xs] m) w1 (ms [.box rb [.slice rA0 r.toks.length rC0, .int .i64 atx, .int .i64 de, .slice a1 l.length c1, .int .i64 ex], .row 39 5 a1 l.length c1 xs1] m) w2, ?_, ?_⟩
 intro w3 hw3
 obtain ⟨st3, o⟩ := o.dD hw3
 have ox := o
 refine ⟨fun u => Keep [rb] w3 u ∧ u.cell? ⟨rb, 3, none⟩ = some (.slice a r1.l.length c), ⟨Keep.refl _ _, (o.at 0 rfl).cell (i := 3) rfl⟩, ?_⟩
 refine ⟨_, _, _, fun u hu => hu.2, ?_⟩
 refine call_then (h _ w3 (o.mo hm hrm (.head _)) _ _ _ _ _ (Mem.inms 0 rfl) (o.at 0 rfl) le_r0 (f_r0.st (st.trans (st1.trans st3)))) ?_
 rintro _ w4 ⟨x, r2, h, rfl, bx1, ke1⟩
 have st4 := o.xC (l' := [.slice rA0 r.toks.length rC0, .int .i64 r2.at_, .int .i64 r2.deep, .slice a r1.l.length c, .int .i64 r2.e_]) 0 ke1 rfl
 have o := o.call 0 ke1 bx1 rfl
 refine ⟨_, rfl, ?_⟩
 refine ⟨⟨(Keep.mono ke1 (by simp)), (o.at 0 rfl).cell (i := 3) rfl⟩, ?_⟩
 obtain ⟨hi, h⟩ := h
 obtain ⟨p, x1, cs, hp, he, hc, hr1⟩ := row_elem (o.rowAt 1 rfl) (el1.st (st3.trans st4)) hi
 obtain rfl := GNode_out hr1
 have h := h x1 he
 refine ⟨hi, ptrOr_some hp ?_⟩
 have hq := row_putp (i := i.toNat) (o.rowAt 1 rfl) (el1.st (st3.trans st4)) hp he hc.2 rfl 1 (.string (mkS x)) (by decide)
 refine ⟨hq.1, fun w5 hw5 => ?_⟩
 obtain ⟨xs2, hr2, hg, hel⟩ := hq.2 _ hw5
 have el3 := hel (⟨x1.op, x, x1.n, x1.kids, x1.at_⟩ : GNode) (GNode_in (⟨x1.op, x, x1.n, x1.kids, x1.at_⟩ : GNode))
 have st5 := o.xA 1 rfl hr2 hg (.inl rfl)
 have o := o.app 1 rfl hr2 hg (.inl rfl)
 have ln : r1.l.length = (r1.l.set i.toNat (⟨x1.op, x, x1.n, x1.kids, x1.at_⟩ : GNode)).length := row_len (o.rowAt 1 rfl) (el3.st st5)
 rw [ln] at o
 exact ⟨r2.at_, r2.deep, (r1.l.set i.toNat (⟨x1.op, x, x1.n, x1.kids, x1.at_⟩ : GNode)), r2.e_, xs2, a, c, h, (el3.st st5), o, (st3.trans (st4.trans st5))⟩
 rintro _ w2 ⟨atx, de, l, ex, xs1, a1, c1, hJ, el2, o, st2⟩
 have h := h2 atx de l ex hJ
 obtain ⟨J1, h, h2⟩ := h
 refine ⟨fun w6 => ∃ (atx1 : Int) (de1 : Int) (l1 : List GNode) (ex1 : Int) (xs3 : List Value) (a2 : Option Addr) (c2 : Nat), J1 atx1 de1 l1 ex1 ∧ El cGNode (ms [.box rb [.slice rA0 r.toks.length rC0, .int .i64 atx1, .int .i64 de1, .slice a2 l1.length c2, .int .i64 ex1], .row 39 5 a2 l1.length c2 xs3] m) w6 l1 xs3 ∧ Mem w.heap.size (rb :: (Vc.blk rA).toList) m [((rb :: (Vc.blk rA).toList), w.heap.size, w)] [] w6 [.box rb [.slice rA0 r.toks.length rC0, .int .i64 atx1, .int .i64 de1, .slice a2 l1.length c2, .int .i64 ex1], .row 39 5 a2 l1.length c2 xs3] ∧ Step (ms [.box rb [.slice rA0 r.toks.length rC0, .int .i64 atx, .int .i64 de, .slice a1 l.length c1, .int .i64 ex], .row 39 5 a1 l.length c1 xs1] m) w2 (ms [.box rb [.slice rA0 r.toks.length rC0, .int .i64 atx1, .int .i64 de1, .slice a2 l1.length c2, .int .i64 ex1], .row 39 5 a2 l1.length c2 xs3] m) w6, ?_, ?_⟩
 refine call_then (h _ w2 (o.mo hm hrm (.head _)) _ _ _ _ _ (Mem.inms 0 rfl) (o.at 0 rfl) le_r0 (f_r0.st (st.trans (st1.trans st2)))) ?_
 rintro _ w7 ⟨x2, r3, h, rfl, bx2, ke2⟩
 have st7 := o.xC (l' := [.slice rA0 r.toks.length rC0, .int .i64 r3.at_, .int .i64 r3.deep, .slice a1 l.length c1, .int .i64 r3.e_]) 0 ke2 rfl
 have o := o.call 0 ke2 bx2 rfl
 refine ⟨_, rfl, ?_⟩
 refine cond_map (fun h => ?_) (fun h => ?_) h
 refine call_then (h _ w7 (o.mo hm hrm (.head _)) _ _ _ _ _ _ (Mem.inms 0 rfl) (o.objin 0 1 rfl rfl (by decide)) (o.at 0 rfl) (o.rowAt 1 rfl) (el2.st st7) le_r0 (f_r0.st (st.trans (st1.trans (st2.trans st7))))) ?_
 rintro _ w8 ⟨r4, h, -, ⟨a3, c3, xs4, bx3, hr3, el5, fr1⟩, ke3⟩
 have st8 := Mem.call2S (ps := [.box rb [.slice rA0 r.toks.length rC0, .int .i64 r3.at_, .int .i64 r3.deep, .slice a1 l.length c1, .int .i64 r3.e_], .row 39 5 a1 l.length c1 xs1]) (m0 := m) (l' := [.slice rA0 r.toks.length rC0, .int .i64 r4.at_, .int .i64 r4.deep, .slice a3 r4.l.length c3, .int .i64 r4.e_]) (n' := r4.l.length) (c' := c3) (xs' := xs4) 0 1 rfl rfl ke3 fr1
 have el6 := El.st el5 (Mem.call2D (ps := [.box rb [.slice rA0 r.toks.length rC0, .int .i64 r3.at_, .int .i64 r3.deep, .slice a1 l.length c1, .int .i64 r3.e_], .row 39 5 a1 l.length c1 xs1]) (m0 := m) (l' := [.slice rA0 r.toks.length rC0, .int .i64 r4.at_, .int .i64 r4.deep, .slice a3 r4.l.length c3, .int .i64 r4.e_]) (e := 39) (size := 5) (n' := r4.l.length) (c' := c3) (xs' := xs4) 0 1 rfl)
 have o := o.call2 0 1 rfl rfl (by decide) ke3 bx3 hr3 fr1
 intro b w9 hb hw9
 have el7 : El cStr (ms [.box rb [.slice rA0 r.toks.length rC0, .int .i64 r4.at_, .int .i64 r4.deep, .slice a3 r4.l.length c3, .int .i64 r4.e_], .row 39 5 a3 r4.l.length c3 xs4] m) w8 ([[93]] : List (List UInt8)) ([.string (mkS [93])] : List Value) := (El.cons (cs := [.string (mkS [93])]) rfl (El.nil _ _ _))
 have fr2 : w.heap.size ≤ b := hb ▸ o.le
 have st9 := o.xL hb hw9 1 1
 have o := o.lit hb hw9 1 1 (by decide) rfl
 have le := (o.rowAt 0 rfl).cap
 have st10 := o.xX 0
 have f := o.freeze (c := cStr) (l := ([[93]] : List (List UInt8))) 0 rfl (fun q hq h => by have := hrs_ q hq; have := fr2; simp [Vc.blk] at h; omega) (el7.st (st9.trans st10))
 have o := o.erase 0
 refine call_then (h _ w9 (o.mo hm hrm (.head _)) _ _ _ _ _ (Mem.inms 0 rfl) (o.at 0 rfl) le_r0 (f_r0.st (st.trans (st1.trans (st2.trans (st7.trans (st8.trans (st9.trans st10))))))) _ _ le f) ?_
 rintro _ w10 ⟨r5, h, -, bx4, ke4⟩
 have st11 := o.xC (l' := [.slice rA0 r.toks.length rC0, .int .i64 r5.at_, .int .i64 r5.deep, .slice a3 r4.l.length c3, .int .i64 r5.e_]) 0 ke4 rfl
 have o := o.call 0 ke4 bx4 rfl
 exact ⟨r5.at_, r5.deep, r4.l, r5.e_, xs4, a3, c3, h, (el6.st (st9.trans (st10.trans st11))), o, (st7.trans (st8.trans (st9.trans (st10.trans st11))))⟩
 exact ⟨r3.at_, r3.deep, l, r3.e_, xs1, a1, c1, h, (el2.st st7), o, st7⟩
 rintro _ w6 ⟨atx1, de1, l1, ex1, xs3, a2, c2, hJ, el4, o, st6⟩
 have h := h2 atx1 de1 l1 ex1 hJ
 refine ⟨_, _, _, (o.at 0 rfl).cell rfl, ?_⟩
 obtain ⟨hi1, h⟩ := h
 obtain ⟨p1, x3, cs1, hp1, he1, hc1, hr4⟩ := row_elem (o.rowAt 1 rfl) el4 hi1
 obtain rfl := GNode_out hr4
 have h := h x3 he1
 refine ⟨hi1, ptrOr_some hp1 ?_⟩
 refine ⟨_, hc1.2 3 (Nat.le_of_ble_eq_true rfl), ?_⟩
 obtain ⟨hi2, h⟩ := h
 obtain ⟨p2, x4, cs2, hp2, he2, hc2, hr5⟩ := row_elem (o.rowAt 1 rfl) el4 hi2
 obtain rfl := GNode_out hr5
 have h := h x4 he2
 refine ⟨hi2, ptrOr_some hp2 ?_⟩
 have hq1 := row_putp (i := up.toNat) (o.rowAt 1 rfl) el4 hp2 he2 hc2.2 rfl 3 (.int .i64 (IntKind.i64.wrap (x3.kids + 1))) (by decide)
 refine ⟨hq1.1, fun w11 hw11 => ?_⟩
 obtain ⟨xs5, hr6, hg1, hel1⟩ := hq1.2 _ hw11
 have el8 := hel1 (⟨x4.op, x4.name, x4.n, IntKind.i64.wrap (x3.kids + 1), x4.at_⟩ : GNode) (GNode_in (⟨x4.op, x4.name, x4.n, IntKind.i64.wrap (x3.kids + 1), x4.at_⟩ : GNode))
 have st12 := o.xA 1 rfl hr6 hg1 (.inl rfl)
 have o := o.app 1 rfl hr6 hg1 (.inl rfl)
 have ln1 : l1.length = (l1.set up.toNat (⟨x4.op, x4.name, x4.n, IntKind.i64.wrap (x3.kids + 1), x4.at_⟩ : GNode)).length := row_len (o.rowAt 1 rfl) (el8.st st12)
 rw [ln1] at o
 try rw [ln1]
 exact ⟨(⟨r.toks, atx1, de1, (l1.set up.toNat (⟨x4.op, x4.name, x4.n, IntKind.i64.wrap (x3.kids + 1), x4.at_⟩ : GNode)), ex1⟩ : Gparse_reader), h, trivial, ⟨_, _, _, o.at 0 rfl, o.rowAt 1 rfl, (el8.st (st12.trans (Mem.endRS (w := w11) (ps := [.box rb [.slice rA0 r.toks.length rC0, .int .i64 atx1, .int .i64 de1, .slice a2 ((l1.set up.toNat (⟨x4.op, x4.name, x4.n, IntKind.i64.wrap (x3.kids + 1), x4.at_⟩ : GNode)).length) c2, .int .i64 ex1], .row 39 5 a2 ((l1.set up.toNat (⟨x4.op, x4.name, x4.n, IntKind.i64.wrap (x3.kids + 1), x4.at_⟩ : GNode)).length) c2 xs5]) (m0 := m) 1 rfl))), o.oldnew 1 rfl 0 rfl (by decide)⟩, o.done⟩
def parse_reader_block_vwp (r : Gparse_reader) (up : Int) (K : Gparse_reader → Prop) : Prop :=
 ∃ (J : Int → Int → (List GNode) → Int → Prop),
 (∃ (J1 : Bool → Prop),
 (cond (r.e_ == 0)
 (V_parse_reader_is r 0 [123] (fun x1 =>
 cond (x1)
 (J1 (r.deep == 24))
 (J1 false)))
 (J1 false)) ∧
 ∀ (x : Bool), J1 x →
 cond (x)
 (V_parse_reader_fail r 5 (fun r1 =>
 J r1.at_ r1.deep r.l r1.e_))
 (J r.at_ r.deep r.l r.e_)) ∧
 ∀ (atx : Int) (de : Int) (l : List GNode) (ex : Int), J atx de l ex →
 V_parse_reader_open (⟨r.toks, atx, de, l, ex⟩ : Gparse_reader) 32 (fun i r2 =>
 V_parse_reader_must (⟨r.toks, r2.at_, r2.deep, r2.l, r2.e_⟩ : Gparse_reader) ([[123]] : List (List UInt8)) (fun r3 =>
 ∃ (I : Int → Int → (List GNode) → Int → Nat → Prop), (∃ n, I r3.at_ (IntKind.i64.wrap (r3.deep + 1)) r2.l r3.e_ n) ∧
 ∀ (atx1 : Int) (de1 : Int) (l1 : List GNode) (ex1 : Int) (n : Nat), I atx1 de1 l1 ex1 n →
 ∃ (J2 : Bool → Prop),
 (cond (ex1 == 0)
 (V_parse_reader_is (⟨r.toks, atx1, de1, l1, ex1⟩ : Gparse_reader) 0 [125] (fun x3 =>
 J2 (!x3)))
 (J2 false)) ∧
 ∀ (x2 : Bool), J2 x2 →
 cond (x2)
 (V_parse_reader_stmt (⟨r.toks, atx1, de1, l1, ex1⟩ : Gparse_reader) (fun r4 =>
 ((0 : Int) ≤ i ∧ i < (r4.l.length : Int)) ∧
 ∀ x4, r4.l[i.toNat]? = some x4 →
 ((0 : Int) ≤ i ∧ i < (r4.l.length : Int)) ∧
 ∀ x5, r4.l[i.toNat]? = some x5 →
 ∃ n1, n1 < n ∧ I r4.at_ r4.deep (r4.l.set i.toNat (⟨x5.op, x5.name, x5.n, IntKind.i64.wrap (x4.kids + 1), x5.at_⟩ : GNode)) r4.e_ n1))
 (V_parse_reader_must (⟨r.toks, atx1, de1, l1, ex1⟩ : Gparse_reader) ([[125]] : List (List UInt8)) (fun r5 =>
 ((0 : Int) ≤ up ∧ up < (l1.length : Int)) ∧
 ∀ x6, l1[up.toNat]? = some x6 →
 ((0 : Int) ≤ up ∧ up < (l1.length : Int)) ∧
 ∀ x7, l1[up.toNat]? = some x7 →
 K (⟨r.toks, r5.at_, IntKind.i64.wrap (r5.deep - 1), (l1.set up.toNat (⟨x7.op, x7.name, x7.n, IntKind.i64.wrap (x6.kids + 1), x7.at_⟩ : GNode)), r5.e_⟩ : Gparse_reader)))))
set_option maxHeartbeats 4000000 in
set_option maxRecDepth 10000 in
theorem parse_reader_block_lift (r : Gparse_reader) (up : Int) (K : Gparse_reader → Prop) (h : parse_reader_block_vwp r up K) : V_parse_reader_block r up K := by
 intro m w hm rb rA rC rxs rA0 rC0 in_r ina_r bx_r rw_r f_r le_r0 f_r0
 have hrs_ := Mem.objlt hm.lt in_r ina_r
 have o := Mem.obj hm.lt in_r ina_r bx_r rw_r
 have st := Mem.objS (w := w) (l := [.slice rA0 r.toks.length rC0, .int .i64 r.at_, .int .i64 r.deep, .slice rA r.l.length rC, .int .i64 r.e_]) (e := 39) (size := 5) (n := r.l.length) (c := rC) (xs := rxs) in_r ina_r
 have hrm : ∀ b ∈ (rb :: (Vc.blk rA).toList), b ∈ m := fun b hb => (List.mem_cons.1 hb).elim (fun e => e ▸ in_r) (fun h => (ina_r b (Option.mem_toList.1 h)).1)
 refine parse_reader_block_ok rb up _ _ ?_
 obtain ⟨J, h, h2⟩ := h
 refine ⟨fun w1 => ∃ (atx : Int) (de : Int) (l : List GNode) (ex : Int) (xs : List Value) (a : Option Addr) (c : Nat), J atx de l ex ∧ El cGNode (ms [.box rb [.slice rA0 r.toks.length rC0, .int .i64 atx, .int .i64 de, .slice a l.length c, .int .i64 ex], .row 39 5 a l.length c xs] m) w1 l xs ∧ Mem w.heap.size (rb :: (Vc.blk rA).toList) m [((rb :: (Vc.blk rA).toList), w.heap.size, w)] [] w1 [.box rb [.slice rA0 r.toks.length rC0, .int .i64 atx, .int .i64 de, .slice a l.length c, .int .i64 ex], .row 39 5 a l.length c xs] ∧ Step (ms [.box rb [.slice rA0 r.toks.length rC0, .int .i64 r.at_, .int .i64 r.deep, .slice rA r.l.length rC, .int .i64 r.e_], .row 39 5 rA r.l.length rC rxs] m) w (ms [.box rb [.slice rA0 r.toks.length rC0, .int .i64 atx, .int .i64 de, .slice a l.length c, .int .i64 ex], .row 39 5 a l.length c xs] m) w1, ?_, ?_⟩
 obtain ⟨J1, h, h2⟩ := h
 refine ⟨fun x w2 => J1 x ∧ Mem w.heap.size (rb :: (Vc.blk rA).toList) m [((rb :: (Vc.blk rA).toList), w.heap.size, w)] [] w2 [.box rb [.slice rA0 r.toks.length rC0, .int .i64 r.at_, .int .i64 r.deep, .slice rA r.l.length rC, .int .i64 r.e_], .row 39 5 rA r.l.length rC rxs] ∧ Step (ms [.box rb [.slice rA0 r.toks.length rC0, .int .i64 r.at_, .int .i64 r.deep, .slice rA r.l.length rC, .int .i64 r.e_], .row 39 5 rA r.l.length rC rxs] m) w (ms [.box rb [.slice rA0 r.toks.length rC0, .int .i64 r.at_, .int .i64 r.deep, .slice rA r.l.length rC, .int .i64 r.e_], .row 39 5 rA r.l.length rC rxs] m) w2, ?_, ?_⟩
 refine ⟨_, (o.at 0 rfl).cell rfl, ?_⟩
 refine cond_map (fun h => ?_) (fun h => ?_) h
 refine call_then (h _ w (o.mo hm hrm (.head _)) _ _ _ _ _ (o.at 0 rfl) le_r0 (f_r0.st st)) ?_
 rintro _ w3 ⟨x1, h, rfl, ke⟩
 obtain ⟨st3, o⟩ := o.dE ke
 refine ⟨_, rfl, ?_⟩
 refine cond_map (fun h => ?_) (fun h => ?_) h
 refine ⟨_, (o.at 0 rfl).cell rfl, ?_⟩
 exact ⟨h, o, st3⟩
 exact ⟨h, o, st3⟩
 exact ⟨h, o, Step.refl _ _⟩
 rintro _ x w2 ⟨hJ, o, st2⟩
 have h := h2 x hJ
 refine cond_map (fun h => ?_) (fun h => ?_) h
 refine call_then (h _ w2 (o.mo hm hrm (.head _)) _ _ _ _ _ (Mem.inms 0 rfl) (o.at 0 rfl) le_r0 (f_r0.st (st.trans st2))) ?_
 rintro _ w4 ⟨r1, h, -, bx, ke1⟩
 have st4 := o.xC (l' := [.slice rA0 r.toks.length rC0, .int .i64 r1.at_, .int .i64 r1.deep, .slice rA r.l.length rC, .int .i64 r1.e_]) 0 ke1 rfl
 have o := o.call 0 ke1 bx rfl
 exact ⟨r1.at_, r1.deep, r.l, r1.e_, rxs, rA, rC, h, (f_r.st (st.trans (st2.trans st4))), o, (st2.trans st4)⟩
 exact ⟨r.at_, r.deep, r.l, r.e_, rxs, rA, rC, h, (f_r.st (st.trans st2)), o, st2⟩
 rintro _ w1 ⟨atx, de, l, ex, xs, a, c, hJ, el, o, st1⟩
 have h := h2 atx de l ex hJ
 refine call_then (h _ w1 (o.mo hm hrm (.head _)) _ _ _ _ _ _ (Mem.inms 0 rfl) (o.objin 0 1 rfl rfl (by decide)) (o.at 0 rfl) (o.rowAt 1 rfl) el le_r0 (f_r0.st (st.trans st1))) ?_
 rintro _ w5 ⟨i, r2, h, rfl, ⟨a1, c1, xs1, bx1, hr, el1, fr⟩, ke2⟩
 have st5 := Mem.call2S (ps := [.box rb [.slice rA0 r.toks.length rC0, .int .i64 atx, .int .i64 de, .slice a l.length c, .int .i64 ex], .row 39 5 a l.length c xs]) (m0 := m) (l' := [.slice rA0 r.toks.length rC0, .int .i64 r2.at_, .int .i64 r2.deep, .slice a1 r2.l.length c1, .int .i64 r2.e_]) (n' := r2.l.length) (c' := c1) (xs' := xs1) 0 1 rfl rfl ke2 fr
 have el2 := El.st el1 (Mem.call2D (ps := [.box rb [.slice rA0 r.toks.length rC0, .int .i64 atx, .int .i64 de, .slice a l.length c, .int .i64 ex], .row 39 5 a l.length c xs]) (m0 := m) (l' := [.slice rA0 r.toks.length rC0, .int .i64 r2.at_, .int .i64 r2.deep, .slice a1 r2.l.length c1, .int .i64 r2.e_]) (e := 39) (size := 5) (n' := r2.l.length) (c' := c1) (xs' := xs1) 0 1 rfl)
 have o := o.call2 0 1 rfl rfl (by decide) ke2 bx1 hr fr
 refine ⟨_, rfl, ?_⟩
 intro b w6 hb hw6
 have el3 : El cStr (ms [.box rb [.slice rA0 r.toks.length rC0, .int .i64 r2.at_, .int .i64 r2.deep, .slice a1 r2.l.length c1, .int .i64 r2.e_], .row 39 5 a1 r2.l.length c1 xs1] m) w5 ([[123]] : List (List UInt8)) ([.string (mkS [123])] : List Value) := (El.cons (cs := [.string (mkS [123])]) rfl (El.nil _ _ _))
 have fr1 : w.heap.size ≤ b := hb ▸ o.le
 have st6 := o.xL hb hw6 1 1
 have o := o.lit hb hw6 1 1 (by decide) rfl
 have le := (o.rowAt 0 rfl).cap
 have st7 := o.xX 0
 have f := o.freeze (c := cStr) (l := ([[123]] : List (List UInt8))) 0 rfl (fun q hq h => by have := hrs_ q hq; have := fr1; simp [Vc.blk] at h; omega) (el3.st (st6.trans st7))
 have o := o.erase 0
 refine call_then (h _ w6 (o.mo hm hrm (.head _)) _ _ _ _ _ (Mem.inms 0 rfl) (o.at 0 rfl) le_r0 (f_r0.st (st.trans (st1.trans (st5.trans (st6.trans st7))))) _ _ le f) ?_
 rintro _ w7 ⟨r3, h, -, bx2, ke3⟩
 have st8 := o.xC (l' := [.slice rA0 r.toks.length rC0, .int .i64 r3.at_, .int .i64 r3.deep, .slice a1 r2.l.length c1, .int .i64 r3.e_]) 0 ke3 rfl
 have o := o.call 0 ke3 bx2 rfl
 refine ⟨_, (o.at 0 rfl).cell rfl, ?_⟩
 refine ⟨o.wr 0 rfl rfl, fun w8 hw8 => ?_⟩
 obtain ⟨st9, o⟩ := o.dS 0 hw8 rfl
 obtain ⟨I, ⟨n2, h⟩, h2⟩ := h
 obtain ⟨Z, hZ⟩ : ∃ Z : World → Nat → Prop, Z = fun w9 n => ∃ (atx1 : Int) (de1 : Int) (l1 : List GNode) (ex1 : Int) (xs2 : List Value) (a2 : Option Addr) (c2 : Nat), I atx1 de1 l1 ex1 n ∧ El cGNode (ms [.box rb [.slice rA0 r.toks.length rC0, .int .i64 atx1, .int .i64 de1, .slice a2 l1.length c2, .int .i64 ex1], .row 39 5 a2 l1.length c2 xs2] m) w9 l1 xs2 ∧ Mem w.heap.size (rb :: (Vc.blk rA).toList) m [((rb :: (Vc.blk rA).toList), w.heap.size, w)] [] w9 [.box rb [.slice rA0 r.toks.length rC0, .int .i64 atx1, .int .i64 de1, .slice a2 l1.length c2, .int .i64 ex1], .row 39 5 a2 l1.length c2 xs2] ∧ Step (ms [.box rb [.slice rA0 r.toks.length rC0, .int .i64 r3.at_, .int .i64 (IntKind.i64.wrap (r3.deep + 1)), .slice a1 r2.l.length c1, .int .i64 r3.e_], .row 39 5 a1 r2.l.length c1 xs1] m) w8 (ms [.box rb [.slice rA0 r.toks.length rC0, .int .i64 atx1, .int .i64 de1, .slice a2 l1.length c2, .int .i64 ex1], .row 39 5 a2 l1.length c2 xs2] m) w9 := ⟨_, rfl⟩
 refine ⟨fun w9 => ∃ n, Z w9 n, fun w9 => leastN (Z w9), ⟨n2, ?_⟩, ?_⟩
 rw [hZ]; exact ⟨r3.at_, (IntKind.i64.wrap (r3.deep + 1)), r2.l, r3.e_, xs1, a1, c1, h, (el2.st (st6.trans (st7.trans (st8.trans st9)))), o, Step.refl _ _⟩
 intro _ w9 hIZ
 obtain ⟨n, hnn⟩ : ∃ n, n = leastN (Z w9) := ⟨_, rfl⟩
 have hIZ := leastN_at hIZ
 rw [← hnn, hZ] at hIZ
 obtain ⟨atx1, de1, l1, ex1, xs2, a2, c2, h, el4, o, st10⟩ := hIZ
 have h := h2 atx1 de1 l1 ex1 n h
 obtain ⟨J2, h, h2⟩ := h
 refine ⟨fun x2 w10 => J2 x2 ∧ Mem w.heap.size (rb :: (Vc.blk rA).toList) m [((rb :: (Vc.blk rA).toList), w.heap.size, w)] [] w10 [.box rb [.slice rA0 r.toks.length rC0, .int .i64 atx1, .int .i64 de1, .slice a2 l1.length c2, .int .i64 ex1], .row 39 5 a2 l1.length c2 xs2] ∧ Step (ms [.box rb [.slice rA0 r.toks.length rC0, .int .i64 atx1, .int .i64 de1, .slice a2 l1.length c2, .int .i64 ex1], .row 39 5 a2 l1.length c2 xs2] m) w9 (ms [.box rb [.slice rA0 r.toks.length rC0, .int .i64 atx1, .int .i64 de1, .slice a2 l1.length c2, .int .i64 ex1], .row 39 5 a2 l1.length c2 xs2] m) w10, ?_, ?_⟩
 refine ⟨_, (o.at 0 rfl).cell rfl, ?_⟩
 refine cond_map (fun h => ?_) (fun h => ?_) h
 refine call_then (h _ w9 (o.mo hm hrm (.head _)) _ _ _ _ _ (o.at 0 rfl) le_r0 (f_r0.st (st.trans (st1.trans (st5.trans (st6.trans (st7.trans (st8.trans (st9.trans st10))))))))) ?_
 rintro _ w11 ⟨x3, h, rfl, ke4⟩
 obtain ⟨st12, o⟩ := o.dE ke4
 refine ⟨_, rfl, ?_⟩
 exact ⟨h, o, st12⟩
 exact ⟨h, o, Step.refl _ _⟩
 rintro _ x2 w10 ⟨hJ, o, st11⟩
 have h := h2 x2 hJ
 refine cond_map (fun h => ?_) (fun h => ?_) h
 refine call_then (h _ w10 (o.mo hm hrm (.head _)) _ _ _ _ _ _ (Mem.inms 0 rfl) (o.objin 0 1 rfl rfl (by decide)) (o.at 0 rfl) (o.rowAt 1 rfl) (el4.st st11) le_r0 (f_r0.st (st.trans (st1.trans (st5.trans (st6.trans (st7.trans (st8.trans (st9.trans (st10.trans st11)))))))))) ?_
 rintro _ w12 ⟨r4, h, -, ⟨a3, c3, xs3, bx3, hr1, el5, fr2⟩, ke5⟩
 have st13 := Mem.call2S (ps := [.box rb [.slice rA0 r.toks.length rC0, .int .i64 atx1, .int .i64 de1, .slice a2 l1.length c2, .int .i64 ex1], .row 39 5 a2 l1.length c2 xs2]) (m0 := m) (l' := [.slice rA0 r.toks.length rC0, .int .i64 r4.at_, .int .i64 r4.deep, .slice a3 r4.l.length c3, .int .i64 r4.e_]) (n' := r4.l.length) (c' := c3) (xs' := xs3) 0 1 rfl rfl ke5 fr2
 have el6 := El.st el5 (Mem.call2D (ps := [.box rb [.slice rA0 r.toks.length rC0, .int .i64 atx1, .int .i64 de1, .slice a2 l1.length c2, .int .i64 ex1], .row 39 5 a2 l1.length c2 xs2]) (m0 := m) (l' := [.slice rA0 r.toks.length rC0, .int .i64 r4.at_, .int .i64 r4.deep, .slice a3 r4.l.length c3, .int .i64 r4.e_]) (e := 39) (size := 5) (n' := r4.l.length) (c' := c3) (xs' := xs3) 0 1 rfl)
 have o := o.call2 0 1 rfl rfl (by decide) ke5 bx3 hr1 fr2
 refine ⟨_, _, _, (o.at 0 rfl).cell rfl, ?_⟩
 obtain ⟨hi, h⟩ := h
 obtain ⟨p, x4, cs, hp, he, hc, hr2⟩ := row_elem (o.rowAt 1 rfl) el6 hi
 obtain rfl := GNode_out hr2
 have h := h x4 he
 refine ⟨hi, ptrOr_some hp ?_⟩
 refine ⟨_, hc.2 3 (Nat.le_of_ble_eq_true rfl), ?_⟩
 obtain ⟨hi1, h⟩ := h
 obtain ⟨p1, x5, cs1, hp1, he1, hc1, hr3⟩ := row_elem (o.rowAt 1 rfl) el6 hi1
 obtain rfl := GNode_out hr3
 have h := h x5 he1
 refine ⟨hi1, ptrOr_some hp1 ?_⟩
 have hq := row_putp (i := i.toNat) (o.rowAt 1 rfl) el6 hp1 he1 hc1.2 rfl 3 (.int .i64 (IntKind.i64.wrap (x4.kids + 1))) (by decide)
 refine ⟨hq.1, fun w13 hw13 => ?_⟩
 obtain ⟨xs4, hr4, hg, hel⟩ := hq.2 _ hw13
 have el7 := hel (⟨x5.op, x5.name, x5.n, IntKind.i64.wrap (x4.kids + 1), x5.at_⟩ : GNode) (GNode_in (⟨x5.op, x5.name, x5.n, IntKind.i64.wrap (x4.kids + 1), x5.at_⟩ : GNode))
 have st14 := o.xA 1 rfl hr4 hg (.inl rfl)
 have o := o.app 1 rfl hr4 hg (.inl rfl)
 have ln : r4.l.length = (r4.l.set i.toNat (⟨x5.op, x5.name, x5.n, IntKind.i64.wrap (x4.kids + 1), x5.at_⟩ : GNode)).length := row_len (o.rowAt 1 rfl) (el7.st st14)
 rw [ln] at o
 obtain ⟨n1, hl, h⟩ := h
 exact loop_again hnn (show Z w13 n1 from (by rw [hZ]; exact ⟨r4.at_, r4.deep, (r4.l.set i.toNat (⟨x5.op, x5.name, x5.n, IntKind.i64.wrap (x4.kids + 1), x5.at_⟩ : GNode)), r4.e_, xs4, a3, c3, h, (el7.st st14), o, (st10.trans (st11.trans (st13.trans st14)))⟩)) hl
 intro b1 w14 hb1 hw14
 have el8 : El cStr (ms [.box rb [.slice rA0 r.toks.length rC0, .int .i64 atx1, .int .i64 de1, .slice a2 l1.length c2, .int .i64 ex1], .row 39 5 a2 l1.length c2 xs2] m) w10 ([[125]] : List (List UInt8)) ([.string (mkS [125])] : List Value) := (El.cons (cs := [.string (mkS [125])]) rfl (El.nil _ _ _))
 have fr3 : w.heap.size ≤ b1 := hb1 ▸ o.le
 have st15 := o.xL hb1 hw14 1 1
 have o := o.lit hb1 hw14 1 1 (by decide) rfl
 have le1 := (o.rowAt 0 rfl).cap
 have st16 := o.xX 0
 have f1 := o.freeze (c := cStr) (l := ([[125]] : List (List UInt8))) 0 rfl (fun q hq h => by have := hrs_ q hq; have := fr3; simp [Vc.blk] at h; omega) (el8.st (st15.trans st16))
 have o := o.erase 0
 refine call_then (h _ w14 (o.mo hm hrm (.head _)) _ _ _ _ _ (Mem.inms 0 rfl) (o.at 0 rfl) le_r0 (f_r0.st (st.trans (st1.trans (st5.trans (st6.trans (st7.trans (st8.trans (st9.trans (st10.trans (st11.trans (st15.trans st16))))))))))) _ _ le1 f1) ?_
 rintro _ w15 ⟨r5, h, -, bx4, ke6⟩
 have st17 := o.xC (l' := [.slice rA0 r.toks.length rC0, .int .i64 r5.at_, .int .i64 r5.deep, .slice a2 l1.length c2, .int .i64 r5.e_]) 0 ke6 rfl
 have o := o.call 0 ke6 bx4 rfl
 refine ⟨_, (o.at 0 rfl).cell rfl, ?_⟩
 refine ⟨o.wr 0 rfl rfl, fun w16 hw16 => ?_⟩
 obtain ⟨st18, o⟩ := o.dS 0 hw16 rfl
 refine ⟨_, _, _, (o.at 0 rfl).cell rfl, ?_⟩
 obtain ⟨hi2, h⟩ := h
 obtain ⟨p2, x6, cs2, hp2, he2, hc2, hr5⟩ := row_elem (o.rowAt 1 rfl) (el4.st (st11.trans (st15.trans (st16.trans (st17.trans st18))))) hi2
 obtain rfl := GNode_out hr5
 have h := h x6 he2
 refine ⟨hi2, ptrOr_some hp2 ?_⟩
 refine ⟨_, hc2.2 3 (Nat.le_of_ble_eq_true rfl), ?_⟩
 obtain ⟨hi3, h⟩ := h
 obtain ⟨p3, x7, cs3, hp3, he3, hc3, hr6⟩ := row_elem (o.rowAt 1 rfl) (el4.st (st11.trans (st15.trans (st16.trans (st17.trans st18))))) hi3
 obtain rfl := GNode_out hr6
 have h := h x7 he3
 refine ⟨hi3, ptrOr_some hp3 ?_⟩
 have hq1 := row_putp (i := up.toNat) (o.rowAt 1 rfl) (el4.st (st11.trans (st15.trans (st16.trans (st17.trans st18))))) hp3 he3 hc3.2 rfl 3 (.int .i64 (IntKind.i64.wrap (x6.kids + 1))) (by decide)
 refine ⟨hq1.1, fun w17 hw17 => ?_⟩
 obtain ⟨xs5, hr7, hg1, hel1⟩ := hq1.2 _ hw17
 have el9 := hel1 (⟨x7.op, x7.name, x7.n, IntKind.i64.wrap (x6.kids + 1), x7.at_⟩ : GNode) (GNode_in (⟨x7.op, x7.name, x7.n, IntKind.i64.wrap (x6.kids + 1), x7.at_⟩ : GNode))
 have st19 := o.xA 1 rfl hr7 hg1 (.inl rfl)
 have o := o.app 1 rfl hr7 hg1 (.inl rfl)
 have ln1 : l1.length = (l1.set up.toNat (⟨x7.op, x7.name, x7.n, IntKind.i64.wrap (x6.kids + 1), x7.at_⟩ : GNode)).length := row_len (o.rowAt 1 rfl) (el9.st st19)
 rw [ln1] at o
 try rw [ln1]
 exact ⟨(⟨r.toks, r5.at_, IntKind.i64.wrap (r5.deep - 1), (l1.set up.toNat (⟨x7.op, x7.name, x7.n, IntKind.i64.wrap (x6.kids + 1), x7.at_⟩ : GNode)), r5.e_⟩ : Gparse_reader), h, trivial, ⟨_, _, _, o.at 0 rfl, o.rowAt 1 rfl, (el9.st (st19.trans (Mem.endRS (w := w17) (ps := [.box rb [.slice rA0 r.toks.length rC0, .int .i64 r5.at_, .int .i64 (IntKind.i64.wrap (r5.deep - 1)), .slice a2 ((l1.set up.toNat (⟨x7.op, x7.name, x7.n, IntKind.i64.wrap (x6.kids + 1), x7.at_⟩ : GNode)).length) c2, .int .i64 r5.e_], .row 39 5 a2 ((l1.set up.toNat (⟨x7.op, x7.name, x7.n, IntKind.i64.wrap (x6.kids + 1), x7.at_⟩ : GNode)).length) c2 xs5]) (m0 := m) 1 rfl))), o.oldnew 1 rfl 0 rfl (by decide)⟩, o.done⟩
def parse_reader_comm_vwp (r : Gparse_reader) (i : Int) (send : Int) (recv : Int) (K : Gparse_reader → Prop) : Prop :=
 V_parse_reader_ref r i (fun r1 =>
 V_parse_reader_eat (⟨r.toks, r1.at_, r1.deep, r1.l, r1.e_⟩ : Gparse_reader) [33] (fun x r2 =>
 cond (x)
 (((0 : Int) ≤ i ∧ i < (r1.l.length : Int)) ∧
 ∀ x1, r1.l[i.toNat]? = some x1 →
 V_parse_reader_term (⟨r.toks, r2.at_, r2.deep, (r1.l.set i.toNat (⟨send, x1.name, x1.n, x1.kids, x1.at_⟩ : GNode)), r2.e_⟩ : Gparse_reader) i (fun r3 =>
 K (⟨r.toks, r3.at_, r3.deep, r3.l, r3.e_⟩ : Gparse_reader)))
 (V_parse_reader_eat (⟨r.toks, r2.at_, r2.deep, r1.l, r2.e_⟩ : Gparse_reader) [63] (fun x2 r4 =>
 cond (x2)
 (((0 : Int) ≤ i ∧ i < (r1.l.length : Int)) ∧
 ∀ x3, r1.l[i.toNat]? = some x3 →
 V_parse_reader_name (⟨r.toks, r4.at_, r4.deep, (r1.l.set i.toNat (⟨recv, x3.name, x3.n, x3.kids, x3.at_⟩ : GNode)), r4.e_⟩ : Gparse_reader) (fun x4 r5 =>
 ((0 : Int) ≤ i ∧ i < ((r1.l.set i.toNat (⟨recv, x3.name, x3.n, x3.kids, x3.at_⟩ : GNode)).length : Int)) ∧
 ∀ x5, (r1.l.set i.toNat (⟨recv, x3.name, x3.n, x3.kids, x3.at_⟩ : GNode))[i.toNat]? = some x5 →
 K (⟨r.toks, r5.at_, r5.deep, ((r1.l.set i.toNat (⟨recv, x3.name, x3.n, x3.kids, x3.at_⟩ : GNode)).set i.toNat (⟨x5.op, x4, x5.n, x5.kids, x5.at_⟩ : GNode)), r5.e_⟩ : Gparse_reader)))
 (V_parse_reader_fail (⟨r.toks, r4.at_, r4.deep, r1.l, r4.e_⟩ : Gparse_reader) 11 (fun r6 =>
 K (⟨r.toks, r6.at_, r6.deep, r1.l, r6.e_⟩ : Gparse_reader)))))))
set_option maxRecDepth 10000 in
theorem parse_reader_comm_lift (r : Gparse_reader) (i : Int) (send : Int) (recv : Int) (K : Gparse_reader → Prop) (h : parse_reader_comm_vwp r i send recv K) : V_parse_reader_comm r i send recv K := by
 intro m w hm rb rA rC rxs rA0 rC0 in_r ina_r bx_r rw_r f_r le_r0 f_r0
 have hrs_ := Mem.objlt hm.lt in_r ina_r
 have o := Mem.obj hm.lt in_r ina_r bx_r rw_r
 have st := Mem.objS (w := w) (l := [.slice rA0 r.toks.length rC0, .int .i64 r.at_, .int .i64 r.deep, .slice rA r.l.length rC, .int .i64 r.e_]) (e := 39) (size := 5) (n := r.l.length) (c := rC) (xs := rxs) in_r ina_r
 have hrm : ∀ b ∈ (rb :: (Vc.blk rA).toList), b ∈ m := fun b hb => (List.mem_cons.1 hb).elim (fun e => e ▸ in_r) (fun h => (ina_r b (Option.mem_toList.1 h)).1)
 refine parse_reader_comm_ok rb i send recv _ _ ?_
 refine call_then (h _ w (o.mo hm hrm (.head _)) _ _ _ _ _ _ (Mem.inms 0 rfl) (o.objin 0 1 rfl rfl (by decide)) (o.at 0 rfl) (o.rowAt 1 rfl) (f_r.st st) le_r0 (f_r0.st st)) ?_
 rintro _ w1 ⟨r1, h, -, ⟨a, c, xs, bx, hr, el, fr⟩, ke⟩
 have st1 := Mem.call2S (ps := [.box rb [.slice rA0 r.toks.length rC0, .int .i64 r.at_, .int .i64 r.deep, .slice rA r.l.length rC, .int .i64 r.e_], .row 39 5 rA r.l.length rC rxs]) (m0 := m) (l' := [.slice rA0 r.toks.length rC0, .int .i64 r1.at_, .int .i64 r1.deep, .slice a r1.l.length c, .int .i64 r1.e_]) (n' := r1.l.length) (c' := c) (xs' := xs) 0 1 rfl rfl ke fr
 have el1 := El.st el (Mem.call2D (ps := [.box rb [.slice rA0 r.toks.length rC0, .int .i64 r.at_, .int .i64 r.deep, .slice rA r.l.length rC, .int .i64 r.e_], .row 39 5 rA r.l.length rC rxs]) (m0 := m) (l' := [.slice rA0 r.toks.length rC0, .int .i64 r1.at_, .int .i64 r1.deep, .slice a r1.l.length c, .int .i64 r1.e_]) (e := 39) (size := 5) (n' := r1.l.length) (c' := c) (xs' := xs) 0 1 rfl)
 have o := o.call2 0 1 rfl rfl (by decide) ke bx hr fr
 refine call_then (h _ w1 (o.mo hm hrm (.head _)) _ _ _ _ _ (Mem.inms 0 rfl) (o.at 0 rfl) le_r0 (f_r0.st (st.trans st1))) ?_
 rintro _ w2 ⟨x, r2, h, rfl, bx1, ke1⟩
 have st2 := o.xC (l' := [.slice rA0 r.toks.length rC0, .int .i64 r2.at_, .int .i64 r2.deep, .slice a r1.l.length c, .int .i64 r2.e_]) 0 ke1 rfl
 have o := o.call 0 ke1 bx1 rfl
 refine ⟨_, rfl, ?_⟩
 refine cond_map (fun h => ?_) (fun h => ?_) h
 refine ⟨_, _, _, (o.at 0 rfl).cell rfl, ?_⟩
 obtain ⟨hi, h⟩ := h
 obtain ⟨p, x1, cs, hp, he, hc, hr1⟩ := row_elem (o.rowAt 1 rfl) (el1.st st2) hi
 obtain rfl := GNode_out hr1
 have h := h x1 he
 refine ⟨hi, ptrOr_some hp ?_⟩
 have hq := row_putp (i := i.toNat) (o.rowAt 1 rfl) (el1.st st2) hp he hc.2 rfl 0 (.int .i64 send) (by decide)
 refine ⟨hq.1, fun w3 hw3 => ?_⟩
 obtain ⟨xs1, hr2, hg, hel⟩ := hq.2 _ hw3
 have el2 := hel (⟨send, x1.name, x1.n, x1.kids, x1.at_⟩ : GNode) (GNode_in (⟨send, x1.name, x1.n, x1.kids, x1.at_⟩ : GNode))
 have st3 := o.xA 1 rfl hr2 hg (.inl rfl)
 have o := o.app 1 rfl hr2 hg (.inl rfl)
 have ln : r1.l.length = (r1.l.set i.toNat (⟨send, x1.name, x1.n, x1.kids, x1.at_⟩ : GNode)).length := row_len (o.rowAt 1 rfl) (el2.st st3)
 rw [ln] at o
 try rw [ln]
 refine call_then (h _ w3 (o.mo hm hrm (.head _)) _ _ _ _ _ _ (Mem.inms 0 rfl) (o.objin 0 1 rfl rfl (by decide)) (o.at 0 rfl) (o.rowAt 1 rfl) (el2.st st3) le_r0 (f_r0.st (st.trans (st1.trans (st2.trans st3))))) ?_
 rintro _ w4 ⟨r3, h, -, ⟨a1, c1, xs2, bx2, hr3, el3, fr1⟩, ke2⟩
 have st4 := Mem.call2S (ps := [.box rb [.slice rA0 r.toks.length rC0, .int .i64 r2.at_, .int .i64 r2.deep, .slice a ((r1.l.set i.toNat (⟨send, x1.name, x1.n, x1.kids, x1.at_⟩ : GNode)).length) c, .int .i64 r2.e_], .row 39 5 a ((r1.l.set i.toNat (⟨send, x1.name, x1.n, x1.kids, x1.at_⟩ : GNode)).length) c xs1]) (m0 := m) (l' := [.slice rA0 r.toks.length rC0, .int .i64 r3.at_, .int .i64 r3.deep, .slice a1 r3.l.length c1, .int .i64 r3.e_]) (n' := r3.l.length) (c' := c1) (xs' := xs2) 0 1 rfl rfl ke2 fr1
 have el4 := El.st el3 (Mem.call2D (ps := [.box rb [.slice rA0 r.toks.length rC0, .int .i64 r2.at_, .int .i64 r2.deep, .slice a ((r1.l.set i.toNat (⟨send, x1.name, x1.n, x1.kids, x1.at_⟩ : GNode)).length) c, .int .i64 r2.e_], .row 39 5 a ((r1.l.set i.toNat (⟨send, x1.name, x1.n, x1.kids, x1.at_⟩ : GNode)).length) c xs1]) (m0 := m) (l' := [.slice rA0 r.toks.length rC0, .int .i64 r3.at_, .int .i64 r3.deep, .slice a1 r3.l.length c1, .int .i64 r3.e_]) (e := 39) (size := 5) (n' := r3.l.length) (c' := c1) (xs' := xs2) 0 1 rfl)
 have o := o.call2 0 1 rfl rfl (by decide) ke2 bx2 hr3 fr1
 exact ⟨(⟨r.toks, r3.at_, r3.deep, r3.l, r3.e_⟩ : Gparse_reader), h, trivial, ⟨_, _, _, o.at 0 rfl, o.rowAt 1 rfl, (el4.st (Mem.endRS (w := w4) (ps := [.box rb [.slice rA0 r.toks.length rC0, .int .i64 r3.at_, .int .i64 r3.deep, .slice a1 r3.l.length c1, .int .i64 r3.e_], .row 39 5 a1 r3.l.length c1 xs2]) (m0 := m) 1 rfl)), o.oldnew 1 rfl 0 rfl (by decide)⟩, o.done⟩
 refine call_then (h _ w2 (o.mo hm hrm (.head _)) _ _ _ _ _ (Mem.inms 0 rfl) (o.at 0 rfl) le_r0 (f_r0.st (st.trans (st1.trans st2)))) ?_
 rintro _ w5 ⟨x2, r4, h, rfl, bx3, ke3⟩
 have st5 := o.xC (l' := [.slice rA0 r.toks.length rC0, .int .i64 r4.at_, .int .i64 r4.deep, .slice a r1.l.length c, .int .i64 r4.e_]) 0 ke3 rfl
 have o := o.call 0 ke3 bx3 rfl
 refine ⟨_, rfl, ?_⟩
 refine cond_map (fun h => ?_) (fun h => ?_) h
 refine ⟨_, _, _, (o.at 0 rfl).cell rfl, ?_⟩
 obtain ⟨hi1, h⟩ := h
 obtain ⟨p1, x3, cs1, hp1, he1, hc1, hr4⟩ := row_elem (o.rowAt 1 rfl) (el1.st (st2.trans st5)) hi1
 obtain rfl := GNode_out hr4
 have h := h x3 he1
 refine ⟨hi1, ptrOr_some hp1 ?_⟩
 have hq1 := row_putp (i := i.toNat) (o.rowAt 1 rfl) (el1.st (st2.trans st5)) hp1 he1 hc1.2 rfl 0 (.int .i64 recv) (by decide)
 refine ⟨hq1.1, fun w6 hw6 => ?_⟩
 obtain ⟨xs3, hr5, hg1, hel1⟩ := hq1.2 _ hw6
 have el5 := hel1 (⟨recv, x3.name, x3.n, x3.kids, x3.at_⟩ : GNode) (GNode_in (⟨recv, x3.name, x3.n, x3.kids, x3.at_⟩ : GNode))
 have st6 := o.xA 1 rfl hr5 hg1 (.inl rfl)
 have o := o.app 1 rfl hr5 hg1 (.inl rfl)
 have ln1 : r1.l.length = (r1.l.set i.toNat (⟨recv, x3.name, x3.n, x3.kids, x3.at_⟩ : GNode)).length := row_len (o.rowAt 1 rfl) (el5.st st6)
 intro w7 hw7
 obtain ⟨st7, o⟩ := o.dD hw7
 rw [ln1] at o
 try rw [ln1]
 have ox := o
 refine ⟨fun u => Keep [rb] w7 u ∧ u.cell? ⟨rb, 3, none⟩ = some (.slice a ((r1.l.set i.toNat (⟨recv, x3.name, x3.n, x3.kids, x3.at_⟩ : GNode)).length) c), ⟨Keep.refl _ _, (o.at 0 rfl).cell (i := 3) rfl⟩, ?_⟩
 refine ⟨_, _, _, fun u hu => hu.2, ?_⟩
 refine call_then (h _ w7 (o.mo hm hrm (.head _)) _ _ _ _ _ (Mem.inms 0 rfl) (o.at 0 rfl) le_r0 (f_r0.st (st.trans (st1.trans (st2.trans (st5.trans (st6.trans st7))))))) ?_
 rintro _ w8 ⟨x4, r5, h, rfl, bx4, ke4⟩
 have st8 := o.xC (l' := [.slice rA0 r.toks.length rC0, .int .i64 r5.at_, .int .i64 r5.deep, .slice a ((r1.l.set i.toNat (⟨recv, x3.name, x3.n, x3.kids, x3.at_⟩ : GNode)).length) c, .int .i64 r5.e_]) 0 ke4 rfl
 have o := o.call 0 ke4 bx4 rfl
 refine ⟨_, rfl, ?_⟩
 refine ⟨⟨(Keep.mono ke4 (by simp)), (o.at 0 rfl).cell (i := 3) rfl⟩, ?_⟩
 obtain ⟨hi2, h⟩ := h
 obtain ⟨p2, x5, cs2, hp2, he2, hc2, hr6⟩ := row_elem (o.rowAt 1 rfl) (el5.st (st6.trans (st7.trans st8))) hi2
 obtain rfl := GNode_out hr6
 have h := h x5 he2
 refine ⟨hi2, ptrOr_some hp2 ?_⟩
 have hq2 := row_putp (i := i.toNat) (o.rowAt 1 rfl) (el5.st (st6.trans (st7.trans st8))) hp2 he2 hc2.2 rfl 1 (.string (mkS x4)) (by decide)
 refine ⟨hq2.1, fun w9 hw9 => ?_⟩
 obtain ⟨xs4, hr7, hg2, hel2⟩ := hq2.2 _ hw9
 have el6 := hel2 (⟨x5.op, x4, x5.n, x5.kids, x5.at_⟩ : GNode) (GNode_in (⟨x5.op, x4, x5.n, x5.kids, x5.at_⟩ : GNode))
 have st9 := o.xA 1 rfl hr7 hg2 (.inl rfl)
 have o := o.app 1 rfl hr7 hg2 (.inl rfl)
 have ln2 : (r1.l.set i.toNat (⟨recv, x3.name, x3.n, x3.kids, x3.at_⟩ : GNode)).length = ((r1.l.set i.toNat (⟨recv, x3.name, x3.n, x3.kids, x3.at_⟩ : GNode)).set i.toNat (⟨x5.op, x4, x5.n, x5.kids, x5.at_⟩ : GNode)).length := row_len (o.rowAt 1 rfl) (el6.st st9)
 rw [ln2] at o
 try rw [ln2]
 exact ⟨(⟨r.toks, r5.at_, r5.deep, ((r1.l.set i.toNat (⟨recv, x3.name, x3.n, x3.kids, x3.at_⟩ : GNode)).set i.toNat (⟨x5.op, x4, x5.n, x5.kids, x5.at_⟩ : GNode)), r5.e_⟩ : Gparse_reader), h, trivial, ⟨_, _, _, o.at 0 rfl, o.rowAt 1 rfl, (el6.st (st9.trans (Mem.endRS (w := w9) (ps := [.box rb [.slice rA0 r.toks.length rC0, .int .i64 r5.at_, .int .i64 r5.deep, .slice a (((r1.l.set i.toNat (⟨recv, x3.name, x3.n, x3.kids, x3.at_⟩ : GNode)).set i.toNat (⟨x5.op, x4, x5.n, x5.kids, x5.at_⟩ : GNode)).length) c, .int .i64 r5.e_], .row 39 5 a (((r1.l.set i.toNat (⟨recv, x3.name, x3.n, x3.kids, x3.at_⟩ : GNode)).set i.toNat (⟨x5.op, x4, x5.n, x5.kids, x5.at_⟩ : GNode)).length) c xs4]) (m0 := m) 1 rfl))), o.oldnew 1 rfl 0 rfl (by decide)⟩, o.done⟩
 refine call_then (h _ w5 (o.mo hm hrm (.head _)) _ _ _ _ _ (Mem.inms 0 rfl) (o.at 0 rfl) le_r0 (f_r0.st (st.trans (st1.trans (st2.trans st5))))) ?_
 rintro _ w10 ⟨r6, h, -, bx5, ke5⟩
 have st10 := o.xC (l' := [.slice rA0 r.toks.length rC0, .int .i64 r6.at_, .int .i64 r6.deep, .slice a r1.l.length c, .int .i64 r6.e_]) 0 ke5 rfl
 have o := o.call 0 ke5 bx5 rfl
 exact ⟨(⟨r.toks, r6.at_, r6.deep, r1.l, r6.e_⟩ : Gparse_reader), h, trivial, ⟨_, _, _, o.at 0 rfl, o.rowAt 1 rfl, (el1.st (st2.trans (st5.trans (st10.trans (Mem.endRS (w := w10) (ps := [.box rb [.slice rA0 r.toks.length rC0, .int .i64 r6.at_, .int .i64 r6.deep, .slice a r1.l.length c, .int .i64 r6.e_], .row 39 5 a r1.l.length c xs]) (m0 := m) 1 rfl))))), o.oldnew 1 rfl 0 rfl (by decide)⟩, o.done⟩
def parse_reader_set_vwp (r : Gparse_reader) (i : Int) (K : Gparse_reader → Prop) : Prop :=
 ∃ (J : Int → Int → (List GNode) → Int → Prop),
 (V_parse_reader_name r (fun x r1 =>
 ((0 : Int) ≤ i ∧ i < (r.l.length : Int)) ∧
 ∀ x1, r.l[i.toNat]? = some x1 →
 J r1.at_ r1.deep (r.l.set i.toNat (⟨x1.op, x, x1.n, x1.kids, x1.at_⟩ : GNode)) r1.e_)) ∧
 ∀ (atx : Int) (de : Int) (l : List GNode) (ex : Int), J atx de l ex →
 V_parse_reader_must (⟨r.toks, atx, de, l, ex⟩ : Gparse_reader) ([[61]] : List (List UInt8)) (fun r2 =>
 V_parse_reader_eat (⟨r.toks, r2.at_, r2.deep, l, r2.e_⟩ : Gparse_reader) [114, 97, 110, 100, 111, 109] (fun x2 r3 =>
 cond (x2)
 (((0 : Int) ≤ i ∧ i < (l.length : Int)) ∧
 ∀ x3, l[i.toNat]? = some x3 →
 V_parse_reader_must (⟨r.toks, r3.at_, r3.deep, (l.set i.toNat (⟨20, x3.name, x3.n, x3.kids, x3.at_⟩ : GNode)), r3.e_⟩ : Gparse_reader) ([[40]] : List (List UInt8)) (fun r4 =>
 V_parse_reader_term (⟨r.toks, r4.at_, r4.deep, (l.set i.toNat (⟨20, x3.name, x3.n, x3.kids, x3.at_⟩ : GNode)), r4.e_⟩ : Gparse_reader) i (fun r5 =>
 V_parse_reader_must (⟨r.toks, r5.at_, r5.deep, r5.l, r5.e_⟩ : Gparse_reader) ([[41]] : List (List UInt8)) (fun r6 =>
 K (⟨r.toks, r6.at_, r6.deep, r5.l, r6.e_⟩ : Gparse_reader)))))
 (V_parse_reader_term (⟨r.toks, r3.at_, r3.deep, l, r3.e_⟩ : Gparse_reader) i (fun r7 =>
 K (⟨r.toks, r7.at_, r7.deep, r7.l, r7.e_⟩ : Gparse_reader)))))
set_option maxHeartbeats 4000000 in
set_option maxRecDepth 10000 in
theorem parse_reader_set_lift (r : Gparse_reader) (i : Int) (K : Gparse_reader → Prop) (h : parse_reader_set_vwp r i K) : V_parse_reader_set r i K := by
 intro m w hm rb rA rC rxs rA0 rC0 in_r ina_r bx_r rw_r f_r le_r0 f_r0
 have hrs_ := Mem.objlt hm.lt in_r ina_r
 have o := Mem.obj hm.lt in_r ina_r bx_r rw_r
 have st := Mem.objS (w := w) (l := [.slice rA0 r.toks.length rC0, .int .i64 r.at_, .int .i64 r.deep, .slice rA r.l.length rC, .int .i64 r.e_]) (e := 39) (size := 5) (n := r.l.length) (c := rC) (xs := rxs) in_r ina_r
 have hrm : ∀ b ∈ (rb :: (Vc.blk rA).toList), b ∈ m := fun b hb => (List.mem_cons.1 hb).elim (fun e => e ▸ in_r) (fun h => (ina_r b (Option.mem_toList.1 h)).1)
 refine parse_reader_set_ok rb i _ _ ?_
 obtain ⟨J, h, h2⟩ := h
 refine ⟨fun w1 => ∃ (atx : Int) (de : Int) (l : List GNode) (ex : Int) (xs : List Value) (a : Option Addr) (c : Nat), J atx de l ex ∧ El cGNode (ms [.box rb [.slice rA0 r.toks.length rC0, .int .i64 atx, .int .i64 de, .slice a l.length c, .int .i64 ex], .row 39 5 a l.length c xs] m) w1 l xs ∧ Mem w.heap.size (rb :: (Vc.blk rA).toList) m [((rb :: (Vc.blk rA).toList), w.heap.size, w)] [] w1 [.box rb [.slice rA0 r.toks.length rC0, .int .i64 atx, .int .i64 de, .slice a l.length c, .int .i64 ex], .row 39 5 a l.length c xs] ∧ Step (ms [.box rb [.slice rA0 r.toks.length rC0, .int .i64 r.at_, .int .i64 r.deep, .slice rA r.l.length rC, .int .i64 r.e_], .row 39 5 rA r.l.length rC rxs] m) w (ms [.box rb [.slice rA0 r.toks.length rC0, .int .i64 atx, .int .i64 de, .slice a l.length c, .int .i64 ex], .row 39 5 a l.length c xs] m) w1, ?_, ?_⟩
 intro w2 hw2
 obtain ⟨st2, o⟩ := o.dD hw2
 have ox := o
 refine ⟨fun u => Keep [rb] w2 u ∧ u.cell? ⟨rb, 3, none⟩ = some (.slice rA r.l.length rC), ⟨Keep.refl _ _, (o.at 0 rfl).cell (i := 3) rfl⟩, ?_⟩
 refine ⟨_, _, _, fun u hu => hu.2, ?_⟩
 refine call_then (h _ w2 (o.mo hm hrm (.head _)) _ _ _ _ _ (Mem.inms 0 rfl) (o.at 0 rfl) le_r0 (f_r0.st (st.trans st2))) ?_
 rintro _ w3 ⟨x, r1, h, rfl, bx, ke⟩
 have st3 := o.xC (l' := [.slice rA0 r.toks.length rC0, .int .i64 r1.at_, .int .i64 r1.deep, .slice rA r.l.length rC, .int .i64 r1.e_]) 0 ke rfl
 have o := o.call 0 ke bx rfl
 refine ⟨_, rfl, ?_⟩
 refine ⟨⟨(Keep.mono ke (by simp)), (o.at 0 rfl).cell (i := 3) rfl⟩, ?_⟩
 obtain ⟨hi, h⟩ := h
 obtain ⟨p, x1, cs, hp, he, hc, hr⟩ := row_elem (o.rowAt 1 rfl) (f_r.st (st.trans (st2.trans st3))) hi
 obtain rfl := GNode_out hr
 have h := h x1 he
 refine ⟨hi, ptrOr_some hp ?_⟩
 have hq := row_putp (i := i.toNat) (o.rowAt 1 rfl) (f_r.st (st.trans (st2.trans st3))) hp he hc.2 rfl 1 (.string (mkS x)) (by decide)
 refine ⟨hq.1, fun w4 hw4 => ?_⟩
 obtain ⟨xs1, hr1, hg, hel⟩ := hq.2 _ hw4
 have el1 := hel (⟨x1.op, x, x1.n, x1.kids, x1.at_⟩ : GNode) (GNode_in (⟨x1.op, x, x1.n, x1.kids, x1.at_⟩ : GNode))
 have st4 := o.xA 1 rfl hr1 hg (.inl rfl)
 have o := o.app 1 rfl hr1 hg (.inl rfl)
 have ln : r.l.length = (r.l.set i.toNat (⟨x1.op, x, x1.n, x1.kids, x1.at_⟩ : GNode)).length := row_len (o.rowAt 1 rfl) (el1.st st4)
 rw [ln] at o
 exact ⟨r1.at_, r1.deep, (r.l.set i.toNat (⟨x1.op, x, x1.n, x1.kids, x1.at_⟩ : GNode)), r1.e_, xs1, rA, rC, h, (el1.st st4), o, (st2.trans (st3.trans st4))⟩
 rintro _ w1 ⟨atx, de, l, ex, xs, a, c, hJ, el, o, st1⟩
 have h := h2 atx de l ex hJ
 intro b w5 hb hw5
 have el2 : El cStr (ms [.box rb [.slice rA0 r.toks.length rC0, .int .i64 atx, .int .i64 de, .slice a l.length c, .int .i64 ex], .row 39 5 a l.length c xs] m) w1 ([[61]] : List (List UInt8)) ([.string (mkS [61])] : List Value) := (El.cons (cs := [.string (mkS [61])]) rfl (El.nil _ _ _))
 have fr : w.heap.size ≤ b := hb ▸ o.le
 have st5 := o.xL hb hw5 1 1
 have o := o.lit hb hw5 1 1 (by decide) rfl
 have le := (o.rowAt 0 rfl).cap
 have st6 := o.xX 0
 have f := o.freeze (c := cStr) (l := ([[61]] : List (List UInt8))) 0 rfl (fun q hq h => by have := hrs_ q hq; have := fr; simp [Vc.blk] at h; omega) (el2.st (st5.trans st6))
 have o := o.erase 0
 refine call_then (h _ w5 (o.mo hm hrm (.head _)) _ _ _ _ _ (Mem.inms 0 rfl) (o.at 0 rfl) le_r0 (f_r0.st (st.trans (st1.trans (st5.trans st6)))) _ _ le f) ?_
 rintro _ w6 ⟨r2, h, -, bx1, ke1⟩
 have st7 := o.xC (l' := [.slice rA0 r.toks.length rC0, .int .i64 r2.at_, .int .i64 r2.deep, .slice a l.length c, .int .i64 r2.e_]) 0 ke1 rfl
 have o := o.call 0 ke1 bx1 rfl
 refine call_then (h _ w6 (o.mo hm hrm (.head _)) _ _ _ _ _ (Mem.inms 0 rfl) (o.at 0 rfl) le_r0 (f_r0.st (st.trans (st1.trans (st5.trans (st6.trans st7)))))) ?_
 rintro _ w7 ⟨x2, r3, h, rfl, bx2, ke2⟩
 have st8 := o.xC (l' := [.slice rA0 r.toks.length rC0, .int .i64 r3.at_, .int .i64 r3.deep, .slice a l.length c, .int .i64 r3.e_]) 0 ke2 rfl
 have o := o.call 0 ke2 bx2 rfl
 refine ⟨_, rfl, ?_⟩
 refine cond_map (fun h => ?_) (fun h => ?_) h
 refine ⟨_, _, _, (o.at 0 rfl).cell rfl, ?_⟩
 obtain ⟨hi1, h⟩ := h
 obtain ⟨p1, x3, cs1, hp1, he1, hc1, hr2⟩ := row_elem (o.rowAt 1 rfl) (el.st (st5.trans (st6.trans (st7.trans st8)))) hi1
 obtain rfl := GNode_out hr2
 have h := h x3 he1
 refine ⟨hi1, ptrOr_some hp1 ?_⟩
 have hq1 := row_putp (i := i.toNat) (o.rowAt 1 rfl) (el.st (st5.trans (st6.trans (st7.trans st8)))) hp1 he1 hc1.2 rfl 0 (.int .i64 20) (by decide)
 refine ⟨hq1.1, fun w8 hw8 => ?_⟩
 obtain ⟨xs2, hr3, hg1, hel1⟩ := hq1.2 _ hw8
 have el3 := hel1 (⟨20, x3.name, x3.n, x3.kids, x3.at_⟩ : GNode) (GNode_in (⟨20, x3.name, x3.n, x3.kids, x3.at_⟩ : GNode))
 have st9 := o.xA 1 rfl hr3 hg1 (.inl rfl)
 have o := o.app 1 rfl hr3 hg1 (.inl rfl)
 have ln1 : l.length = (l.set i.toNat (⟨20, x3.name, x3.n, x3.kids, x3.at_⟩ : GNode)).length := row_len (o.rowAt 1 rfl) (el3.st st9)
 intro b1 w9 hb1 hw9
 have el4 : El cStr (ms [.box rb [.slice rA0 r.toks.length rC0, .int .i64 r3.at_, .int .i64 r3.deep, .slice a l.length c, .int .i64 r3.e_], .row 39 5 a l.length c xs2] m) w8 ([[40]] : List (List UInt8)) ([.string (mkS [40])] : List Value) := (El.cons (cs := [.string (mkS [40])]) rfl (El.nil _ _ _))
 have fr1 : w.heap.size ≤ b1 := hb1 ▸ o.le
 have st10 := o.xL hb1 hw9 1 1
 have o := o.lit hb1 hw9 1 1 (by decide) rfl
 have le1 := (o.rowAt 0 rfl).cap
 have st11 := o.xX 0
 have f1 := o.freeze (c := cStr) (l := ([[40]] : List (List UInt8))) 0 rfl (fun q hq h => by have := hrs_ q hq; have := fr1; simp [Vc.blk] at h; omega) (el4.st (st10.trans st11))
 have o := o.erase 0
 rw [ln1] at o
 try rw [ln1]
 refine call_then (h _ w9 (o.mo hm hrm (.head _)) _ _ _ _ _ (Mem.inms 0 rfl) (o.at 0 rfl) le_r0 (f_r0.st (st.trans (st1.trans (st5.trans (st6.trans (st7.trans (st8.trans (st9.trans (st10.trans st11))))))))) _ _ le1 f1) ?_
 rintro _ w10 ⟨r4, h, -, bx3, ke3⟩
 have st12 := o.xC (l' := [.slice rA0 r.toks.length rC0, .int .i64 r4.at_, .int .i64 r4.deep, .slice a ((l.set i.toNat (⟨20, x3.name, x3.n, x3.kids, x3.at_⟩ : GNode)).length) c, .int .i64 r4.e_]) 0 ke3 rfl
 have o := o.call 0 ke3 bx3 rfl
 refine call_then (h _ w10 (o.mo hm hrm (.head _)) _ _ _ _ _ _ (Mem.inms 0 rfl) (o.objin 0 1 rfl rfl (by decide)) (o.at 0 rfl) (o.rowAt 1 rfl) (el3.st (st9.trans (st10.trans (st11.trans st12)))) le_r0 (f_r0.st (st.trans (st1.trans (st5.trans (st6.trans (st7.trans (st8.trans (st9.trans (st10.trans (st11.trans st12))))))))))) ?_
 rintro _ w11 ⟨r5, h, -, ⟨a1, c1, xs3, bx4, hr4, el5, fr2⟩, ke4⟩
 have st13 := Mem.call2S (ps := [.box rb [.slice rA0 r.toks.length rC0, .int .i64 r4.at_, .int .i64 r4.deep, .slice a ((l.set i.toNat (⟨20, x3.name, x3.n, x3.kids, x3.at_⟩ : GNode)).length) c, .int .i64 r4.e_], .row 39 5 a ((l.set i.toNat (⟨20, x3.name, x3.n, x3.kids, x3.at_⟩ : GNode)).length) c xs2]) (m0 := m) (l' := [.slice rA0 r.toks.length rC0, .int .i64 r5.at_, .int .i64 r5.deep, .slice a1 r5.l.length c1, .int .i64 r5.e_]) (n' := r5.l.length) (c' := c1) (xs' := xs3) 0 1 rfl rfl ke4 fr2
 have el6 := El.st el5 (Mem.call2D (ps := [.box rb [.slice rA0 r.toks.length rC0, .int .i64 r4.at_, .int .i64 r4.deep, .slice a ((l.set i.toNat (⟨20, x3.name, x3.n, x3.kids, x3.at_⟩ : GNode)).length) c, .int .i64 r4.e_], .row 39 5 a ((l.set i.toNat (⟨20, x3.name, x3.n, x3.kids, x3.at_⟩ : GNode)).length) c xs2]) (m0 := m) (l' := [.slice rA0 r.toks.length rC0, .int .i64 r5.at_, .int .i64 r5.deep, .slice a1 r5.l.length c1, .int .i64 r5.e_]) (e := 39) (size := 5) (n' := r5.l.length) (c' := c1) (xs' := xs3) 0 1 rfl)
 have o := o.call2 0 1 rfl rfl (by decide) ke4 bx4 hr4 fr2
 intro b2 w12 hb2 hw12
 have el7 : El cStr (ms [.box rb [.slice rA0 r.toks.length rC0, .int .i64 r5.at_, .int .i64 r5.deep, .slice a1 r5.l.length c1, .int .i64 r5.e_], .row 39 5 a1 r5.l.length c1 xs3] m) w11 ([[41]] : List (List UInt8)) ([.string (mkS [41])] : List Value) := (El.cons (cs := [.string (mkS [41])]) rfl (El.nil _ _ _))
 have fr3 : w.heap.size ≤ b2 := hb2 ▸ o.le
 have st14 := o.xL hb2 hw12 1 1
 have o := o.lit hb2 hw12 1 1 (by decide) rfl
 have le2 := (o.rowAt 0 rfl).cap
 have st15 := o.xX 0
 have f2 := o.freeze (c := cStr) (l := ([[41]] : List (List UInt8))) 0 rfl (fun q hq h => by have := hrs_ q hq; have := fr3; simp [Vc.blk] at h; omega) (el7.st (st14.trans st15))
 have o := o.erase 0
 refine call_then (h _ w12 (o.mo hm hrm (.head _)) _ _ _ _ _ (Mem.inms 0 rfl) (o.at 0 rfl) le_r0 (f_r0.st (st.trans (st1.trans (st5.trans (st6.trans (st7.trans (st8.trans (st9.trans (st10.trans (st11.trans (st12.trans (st13.trans (st14.trans st15))))))))))))) _ _ le2 f2) ?_
 rintro _ w13 ⟨r6, h, -, bx5, ke5⟩
 have st16 := o.xC (l' := [.slice rA0 r.toks.length rC0, .int .i64 r6.at_, .int .i64 r6.deep, .slice a1 r5.l.length c1, .int .i64 r6.e_]) 0 ke5 rfl
 have o := o.call 0 ke5 bx5 rfl
 exact ⟨(⟨r.toks, r6.at_, r6.deep, r5.l, r6.e_⟩ : Gparse_reader), h, trivial, ⟨_, _, _, o.at 0 rfl, o.rowAt 1 rfl, (el6.st (st14.trans (st15.trans (st16.trans (Mem.endRS (w := w13) (ps := [.box rb [.slice rA0 r.toks.length rC0, .int .i64 r6.at_, .int .i64 r6.deep, .slice a1 r5.l.length c1, .int .i64 r6.e_], .row 39 5 a1 r5.l.length c1 xs3]) (m0 := m) 1 rfl))))), o.oldnew 1 rfl 0 rfl (by decide)⟩, o.done⟩
 refine call_then (h _ w7 (o.mo hm hrm (.head _)) _ _ _ _ _ _ (Mem.inms 0 rfl) (o.objin 0 1 rfl rfl (by decide)) (o.at 0 rfl) (o.rowAt 1 rfl) (el.st (st5.trans (st6.trans (st7.trans st8)))) le_r0 (f_r0.st (st.trans (st1.trans (st5.trans (st6.trans (st7.trans st8))))))) ?_
 rintro _ w14 ⟨r7, h, -, ⟨a2, c2, xs4, bx6, hr5, el8, fr4⟩, ke6⟩
 have st17 := Mem.call2S (ps := [.box rb [.slice rA0 r.toks.length rC0, .int .i64 r3.at_, .int .i64 r3.deep, .slice a l.length c, .int .i64 r3.e_], .row 39 5 a l.length c xs]) (m0 := m) (l' := [.slice rA0 r.toks.length rC0, .int .i64 r7.at_, .int .i64 r7.deep, .slice a2 r7.l.length c2, .int .i64 r7.e_]) (n' := r7.l.length) (c' := c2) (xs' := xs4) 0 1 rfl rfl ke6 fr4
 have el9 := El.st el8 (Mem.call2D (ps := [.box rb [.slice rA0 r.toks.length rC0, .int .i64 r3.at_, .int .i64 r3.deep, .slice a l.length c, .int .i64 r3.e_], .row 39 5 a l.length c xs]) (m0 := m) (l' := [.slice rA0 r.toks.length rC0, .int .i64 r7.at_, .int .i64 r7.deep, .slice a2 r7.l.length c2, .int .i64 r7.e_]) (e := 39) (size := 5) (n' := r7.l.length) (c' := c2) (xs' := xs4) 0 1 rfl)
 have o := o.call2 0 1 rfl rfl (by decide) ke6 bx6 hr5 fr4
 exact ⟨(⟨r.toks, r7.at_, r7.deep, r7.l, r7.e_⟩ : Gparse_reader), h, trivial, ⟨_, _, _, o.at 0 rfl, o.rowAt 1 rfl, (el9.st (Mem.endRS (w := w14) (ps := [.box rb [.slice rA0 r.toks.length rC0, .int .i64 r7.at_, .int .i64 r7.deep, .slice a2 r7.l.length c2, .int .i64 r7.e_], .row 39 5 a2 r7.l.length c2 xs4]) (m0 := m) 1 rfl)), o.oldnew 1 rfl 0 rfl (by decide)⟩, o.done⟩
def parse_reader_clause_vwp (r : Gparse_reader) (K : Gparse_reader → Prop) : Prop :=
 V_parse_reader_open r 37 (fun i r1 =>
 V_parse_reader_eat (⟨r.toks, r1.at_, r1.deep, r1.l, r1.e_⟩ : Gparse_reader) [101, 108, 115, 101] (fun x r2 =>
 cond (x)
 (V_parse_reader_block (⟨r.toks, r2.at_, r2.deep, r1.l, r2.e_⟩ : Gparse_reader) i (fun r3 =>
 K (⟨r.toks, r3.at_, r3.deep, r3.l, r3.e_⟩ : Gparse_reader)))
 (V_parse_reader_must (⟨r.toks, r2.at_, r2.deep, r1.l, r2.e_⟩ : Gparse_reader) ([[99, 97, 115, 101]] : List (List UInt8)) (fun r4 =>
 ∃ (J : Int → Int → (List GNode) → Int → Prop),
 (V_parse_reader_eat (⟨r.toks, r4.at_, r4.deep, r1.l, r4.e_⟩ : Gparse_reader) [119, 104, 101, 110] (fun x1 r5 =>
 cond (x1)
 (((0 : Int) ≤ i ∧ i < (r1.l.length : Int)) ∧
 ∀ x2, r1.l[i.toNat]? = some x2 →
 V_parse_reader_term (⟨r.toks, r5.at_, r5.deep, (r1.l.set i.toNat (⟨x2.op, x2.name, 1, x2.kids, x2.at_⟩ : GNode)), r5.e_⟩ : Gparse_reader) i (fun r6 =>
 V_parse_reader_must (⟨r.toks, r6.at_, r6.deep, r6.l, r6.e_⟩ : Gparse_reader) ([[58]] : List (List UInt8)) (fun r7 =>
 J r7.at_ r7.deep r6.l r7.e_)))
 (J r5.at_ r5.deep r1.l r5.e_))) ∧
 ∀ (atx : Int) (de : Int) (l : List GNode) (ex : Int), J atx de l ex →
 ∃ (J1 : Int → Int → (List GNode) → Int → Prop),
 (V_parse_reader_eat (⟨r.toks, atx, de, l, ex⟩ : Gparse_reader) [97, 102, 116, 101, 114] (fun x3 r8 =>
 cond (x3)
 (((0 : Int) ≤ i ∧ i < (l.length : Int)) ∧
 ∀ x4, l[i.toNat]? = some x4 →
 V_parse_reader_term (⟨r.toks, r8.at_, r8.deep, (l.set i.toNat (⟨36, x4.name, x4.n, x4.kids, x4.at_⟩ : GNode)), r8.e_⟩ : Gparse_reader) i (fun r9 =>
 J1 r9.at_ r9.deep r9.l r9.e_))
 (V_parse_reader_comm (⟨r.toks, r8.at_, r8.deep, l, r8.e_⟩ : Gparse_reader) i 35 34 (fun r10 =>
 J1 r10.at_ r10.deep r10.l r10.e_)))) ∧
 ∀ (atx1 : Int) (de1 : Int) (l1 : List GNode) (ex1 : Int), J1 atx1 de1 l1 ex1 →
 V_parse_reader_block (⟨r.toks, atx1, de1, l1, ex1⟩ : Gparse_reader) i (fun r11 =>
 K (⟨r.toks, r11.at_, r11.deep, r11.l, r11.e_⟩ : Gparse_reader))))))
set_option maxHeartbeats 4000000 in
set_option maxRecDepth 10000 in
theorem parse_reader_clause_lift (r : Gparse_reader) (K : Gparse_reader → Prop) (h : parse_reader_clause_vwp r K) : V_parse_reader_clause r K := by
 intro m w hm rb rA rC rxs rA0 rC0 in_r ina_r bx_r rw_r f_r le_r0 f_r0
 have hrs_ := Mem.objlt hm.lt in_r ina_r
 have o := Mem.obj hm.lt in_r ina_r bx_r rw_r
 have st := Mem.objS (w := w) (l := [.slice rA0 r.toks.length rC0, .int .i64 r.at_, .int .i64 r.deep, .slice rA r.l.length rC, .int .i64 r.e_]) (e := 39) (size := 5) (n := r.l.length) (c := rC) (xs := rxs) in_r ina_r
 have hrm : ∀ b ∈ (rb :: (Vc.blk rA).toList), b ∈ m := fun b hb => (List.mem_cons.1 hb).elim (fun e => e ▸ in_r) (fun h => (ina_r b (Option.mem_toList.1 h)).1)
 refine parse_reader_clause_ok rb _ _ ?_
 refine call_then (h _ w (o.mo hm hrm (.head _)) _ _ _ _ _ _ (Mem.inms 0 rfl) (o.objin 0 1 rfl rfl (by decide)) (o.at 0 rfl) (o.rowAt 1 rfl) (f_r.st st) le_r0 (f_r0.st st)) ?_
 rintro _ w1 ⟨i, r1, h, rfl, ⟨a, c, xs, bx, hr, el, fr⟩, ke⟩
 have st1 := Mem.call2S (ps := [.box rb [.slice rA0 r.toks.length rC0, .int .i64 r.at_, .int .i64 r.deep, .slice rA r.l.length rC, .int .i64 r.e_], .row 39 5 rA r.l.length rC rxs]) (m0 := m) (l' := [.slice rA0 r.toks.length rC0, .int .i64 r1.at_, .int .i64 r1.deep, .slice a r1.l.length c, .int .i64 r1.e_]) (n' := r1.l.length) (c' := c) (xs' := xs) 0 1 rfl rfl ke fr
 have el1 := El.st el (Mem.call2D (ps := [.box rb [.slice rA0 r.toks.length rC0, .int .i64 r.at_, .int .i64 r.deep, .slice rA r.l.length rC, .int .i64 r.e_], .row 39 5 rA r.l.length rC rxs]) (m0 := m) (l' := [.slice rA0 r.toks.length rC0, .int .i64 r1.at_, .int .i64 r1.deep, .slice a r1.l.length c, .int .i64 r1.e_]) (e := 39) (size := 5) (n' := r1.l.length) (c' := c) (xs' := xs) 0 1 rfl)
 have o := o.call2 0 1 rfl rfl (by decide) ke bx hr fr
 refine ⟨_, rfl, ?_⟩
 refine call_then (h _ w1 (o.mo hm hrm (.head _)) _ _ _ _ _ (Mem.inms 0 rfl) (o.at 0 rfl) le_r0 (f_r0.st (st.trans st1))) ?_
 rintro _ w2 ⟨x, r2, h, rfl, bx1, ke1⟩
 have st2 := o.xC (l' := [.slice rA0 r.toks.length rC0, .int .i64 r2.at_, .int .i64 r2.deep, .slice a r1.l.length c, .int .i64 r2.e_]) 0 ke1 rfl
 have o := o.call 0 ke1 bx1 rfl
 refine ⟨_, rfl, ?_⟩
 refine cond_map (fun h => ?_) (fun h => ?_) h
 refine call_then (h _ w2 (o.mo hm hrm (.head _)) _ _ _ _ _ _ (Mem.inms 0 rfl) (o.objin 0 1 rfl rfl (by decide)) (o.at 0 rfl) (o.rowAt 1 rfl) (el1.st st2) le_r0 (f_r0.st (st.trans (st1.trans st2)))) ?_
 rintro _ w3 ⟨r3, h, -, ⟨a1, c1, xs1, bx2, hr1, el2, fr1⟩, ke2⟩
 have st3 := Mem.call2S (ps := [.box rb [.slice rA0 r.toks.length rC0, .int .i64 r2.at_, .int .i64 r2.deep, .slice a r1.l.length c, .int .i64 r2.e_], .row 39 5 a r1.l.length c xs]) (m0 := m) (l' := [.slice rA0 r.toks.length rC0, .int .i64 r3.at_, .int .i64 r3.deep, .slice a1 r3.l.length c1, .int .i64 r3.e_]) (n' := r3.l.length) (c' := c1) (xs' := xs1) 0 1 rfl rfl ke2 fr1
 have el3 := El.st el2 (Mem.call2D (ps := [.box rb [.slice rA0 r.toks.length rC0, .int .i64 r2.at_, .int .i64 r2.deep, .slice a r1.l.length c, .int .i64 r2.e_], .row 39 5 a r1.l.length c xs]) (m0 := m) (l' := [.slice rA0 r.toks.length rC0, .int .i64 r3.at_, .int .i64 r3.deep, .slice a1 r3.l.length c1, .int .i64 r3.e_]) (e := 39) (size := 5) (n' := r3.l.length) (c' := c1) (xs' := xs1) 0 1 rfl)
 have o := o.call2 0 1 rfl rfl (by decide) ke2 bx2 hr1 fr1
 exact ⟨(⟨r.toks, r3.at_, r3.deep, r3.l, r3.e_⟩ : Gparse_reader), h, trivial, ⟨_, _, _, o.at 0 rfl, o.rowAt 1 rfl, (el3.st (Mem.endRS (w := w3) (ps := [.box rb [.slice rA0 r.toks.length rC0, .int .i64 r3.at_, .int .i64 r3.deep, .slice a1 r3.l.length c1, .int .i64 r3.e_], .row 39 5 a1 r3.l.length c1 xs1]) (m0 := m) 1 rfl)), o.oldnew 1 rfl 0 rfl (by decide)⟩, o.done⟩
 intro b w4 hb hw4
 have el4 : El cStr (ms [.box rb [.slice rA0 r.toks.length rC0, .int .i64 r2.at_, .int .i64 r2.deep, .slice a r1.l.length c, .int .i64 r2.e_], .row 39 5 a r1.l.length c xs] m) w2 ([[99, 97, 115, 101]] : List (List UInt8)) ([.string (mkS [99, 97, 115, 101])] : List Value) := (El.cons (cs := [.string (mkS [99, 97, 115, 101])]) rfl (El.nil _ _ _))
 have fr2 : w.heap.size ≤ b := hb ▸ o.le
 have st4 := o.xL hb hw4 1 1
 have o := o.lit hb hw4 1 1 (by decide) rfl
 have le := (o.rowAt 0 rfl).cap
 have st5 := o.xX 0
 have f := o.freeze (c := cStr) (l := ([[99, 97, 115, 101]] : List (List UInt8))) 0 rfl (fun q hq h => by have := hrs_ q hq; have := fr2; simp [Vc.blk] at h; omega) (el4.st (st4.trans st5))
 have o := o.erase 0
 refine call_then (h _ w4 (o.mo hm hrm (.head _)) _ _ _ _ _ (Mem.inms 0 rfl) (o.at 0 rfl) le_r0 (f_r0.st (st.trans (st1.trans (st2.trans (st4.trans st5))))) _ _ le f) ?_
 rintro _ w5 ⟨r4, h, -, bx3, ke3⟩
 have st6 := o.xC (l' := [.slice rA0 r.toks.length rC0, .int .i64 r4.at_, .int .i64 r4.deep, .slice a r1.l.length c, .int .i64 r4.e_]) 0 ke3 rfl
 have o := o.call 0 ke3 bx3 rfl
 obtain ⟨J, h, h2⟩ := h
 refine ⟨fun w6 => ∃ (atx : Int) (de : Int) (l : List GNode) (ex : Int) (xs2 : List Value) (a2 : Option Addr) (c2 : Nat), J atx de l ex ∧ El cGNode (ms [.box rb [.slice rA0 r.toks.length rC0, .int .i64 atx, .int .i64 de, .slice a2 l.length c2, .int .i64 ex], .row 39 5 a2 l.length c2 xs2] m) w6 l xs2 ∧ Mem w.heap.size (rb :: (Vc.blk rA).toList) m [((rb :: (Vc.blk rA).toList), w.heap.size, w)] [] w6 [.box rb [.slice rA0 r.toks.length rC0, .int .i64 atx, .int .i64 de, .slice a2 l.length c2, .int .i64 ex], .row 39 5 a2 l.length c2 xs2] ∧ Step (ms [.box rb [.slice rA0 r.toks.length rC0, .int .i64 r4.at_, .int .i64 r4.deep, .slice a r1.l.length c, .int .i64 r4.e_], .row 39 5 a r1.l.length c xs] m) w5 (ms [.box rb [.slice rA0 r.toks.length rC0, .int .i64 atx, .int .i64 de, .slice a2 l.length c2, .int .i64 ex], .row 39 5 a2 l.length c2 xs2] m) w6, ?_, ?_⟩
 refine call_then (h _ w5 (o.mo hm hrm (.head _)) _ _ _ _ _ (Mem.inms 0 rfl) (o.at 0 rfl) le_r0 (f_r0.st (st.trans (st1.trans (st2.trans (st4.trans (st5.trans st6))))))) ?_
 rintro _ w7 ⟨x1, r5, h, rfl, bx4, ke4⟩
 have st8 := o.xC (l' := [.slice rA0 r.toks.length rC0, .int .i64 r5.at_, .int .i64 r5.deep, .slice a r1.l.length c, .int .i64 r5.e_]) 0 ke4 rfl
 have o := o.call 0 ke4 bx4 rfl
 refine ⟨_, rfl, ?_⟩
 refine cond_map (fun h => ?_) (fun h => ?_) h
 refine ⟨_, _, _, (o.at 0 rfl).cell rfl, ?_⟩
 obtain ⟨hi, h⟩ := h
 obtain ⟨p, x2, cs, hp, he, hc, hr2⟩ := row_elem (o.rowAt 1 rfl) (el1.st (st2.trans (st4.trans (st5.trans (st6.trans st8))))) hi
 obtain rfl := GNode_out hr2
 have h := h x2 he
 refine ⟨hi, ptrOr_some hp ?_⟩
 have hq := row_putp (i := i.toNat) (o.rowAt 1 rfl) (el1.st (st2.trans (st4.trans (st5.trans (st6.trans st8))))) hp he hc.2 rfl 2 (.int .i64 1) (by decide)
 refine ⟨hq.1, fun w8 hw8 => ?_⟩
 obtain ⟨xs3, hr3, hg, hel⟩ := hq.2 _ hw8
 have el6 := hel (⟨x2.op, x2.name, 1, x2.kids, x2.at_⟩ : GNode) (GNode_in (⟨x2.op, x2.name, 1, x2.kids, x2.at_⟩ : GNode))
 have st9 := o.xA 1 rfl hr3 hg (.inl rfl)
 have o := o.app 1 rfl hr3 hg (.inl rfl)
 have ln : r1.l.length = (r1.l.set i.toNat (⟨x2.op, x2.name, 1, x2.kids, x2.at_⟩ : GNode)).length := row_len (o.rowAt 1 rfl) (el6.st st9)
 rw [ln] at o
 try rw [ln]
 refine call_then (h _ w8 (o.mo hm hrm (.head _)) _ _ _ _ _ _ (Mem.inms 0 rfl) (o.objin 0 1 rfl rfl (by decide)) (o.at 0 rfl) (o.rowAt 1 rfl) (el6.st st9) le_r0 (f_r0.st (st.trans (st1.trans (st2.trans (st4.trans (st5.trans (st6.trans (st8.trans st9))))))))) ?_
 rintro _ w9 ⟨r6, h, -, ⟨a3, c3, xs4, bx5, hr4, el7, fr3⟩, ke5⟩
 have st10 := Mem.call2S (ps := [.box rb [.slice rA0 r.toks.length rC0, .int .i64 r5.at_, .int .i64 r5.deep, .slice a ((r1.l.set i.toNat (⟨x2.op, x2.name, 1, x2.kids, x2.at_⟩ : GNode)).length) c, .int .i64 r5.e_], .row 39 5 a ((r1.l.set i.toNat (⟨x2.op, x2.name, 1, x2.kids, x2.at_⟩ : GNode)).length) c xs3]) (m0 := m) (l' := [.slice rA0 r.toks.length rC0, .int .i64 r6.at_, .int .i64 r6.deep, .slice a3 r6.l.length c3, .int .i64 r6.e_]) (n' := r6.l.length) (c' := c3) (xs' := xs4) 0 1 rfl rfl ke5 fr3
 have el8 := El.st el7 (Mem.call2D (ps := [.box rb [.slice rA0 r.toks.length rC0, .int .i64 r5.at_, .int .i64 r5.deep, .slice a ((r1.l.set i.toNat (⟨x2.op, x2.name, 1, x2.kids, x2.at_⟩ : GNode)).length) c, .int .i64 r5.e_], .row 39 5 a ((r1.l.set i.toNat (⟨x2.op, x2.name, 1, x2.kids, x2.at_⟩ : GNode)).length) c xs3]) (m0 := m) (l' := [.slice rA0 r.toks.length rC0, .int .i64 r6.at_, .int .i64 r6.deep, .slice a3 r6.l.length c3, .int .i64 r6.e_]) (e := 39) (size := 5) (n' := r6.l.length) (c' := c3) (xs' := xs4) 0 1 rfl)
 have o := o.call2 0 1 rfl rfl (by decide) ke5 bx5 hr4 fr3
 intro b1 w10 hb1 hw10
 have el9 : El cStr (ms [.box rb [.slice rA0 r.toks.length rC0, .int .i64 r6.at_, .int .i64 r6.deep, .slice a3 r6.l.length c3, .int .i64 r6.e_], .row 39 5 a3 r6.l.length c3 xs4] m) w9 ([[58]] : List (List UInt8)) ([.string (mkS [58])] : List Value) := (El.cons (cs := [.string (mkS [58])]) rfl (El.nil _ _ _))
 have fr4 : w.heap.size ≤ b1 := hb1 ▸ o.le
 have st11 := o.xL hb1 hw10 1 1
 have o := o.lit hb1 hw10 1 1 (by decide) rfl
 have le1 := (o.rowAt 0 rfl).cap
 have st12 := o.xX 0
 have f1 := o.freeze (c := cStr) (l := ([[58]] : List (List UInt8))) 0 rfl (fun q hq h => by have := hrs_ q hq; have := fr4; simp [Vc.blk] at h; omega) (el9.st (st11.trans st12))
 have o := o.erase 0
 refine call_then (h _ w10 (o.mo hm hrm (.head _)) _ _ _ _ _ (Mem.inms 0 rfl) (o.at 0 rfl) le_r0 (f_r0.st (st.trans (st1.trans (st2.trans (st4.trans (st5.trans (st6.trans (st8.trans (st9.trans (st10.trans (st11.trans st12))))))))))) _ _ le1 f1) ?_
 rintro _ w11 ⟨r7, h, -, bx6, ke6⟩
 have st13 := o.xC (l' := [.slice rA0 r.toks.length rC0, .int .i64 r7.at_, .int .i64 r7.deep, .slice a3 r6.l.length c3, .int .i64 r7.e_]) 0 ke6 rfl
 have o := o.call 0 ke6 bx6 rfl
 exact ⟨r7.at_, r7.deep, r6.l, r7.e_, xs4, a3, c3, h, (el8.st (st11.trans (st12.trans st13))), o, (st8.trans (st9.trans (st10.trans (st11.trans (st12.trans st13)))))⟩
 exact ⟨r5.at_, r5.deep, r1.l, r5.e_, xs, a, c, h, (el1.st (st2.trans (st4.trans (st5.trans (st6.trans st8))))), o, st8⟩
 rintro _ w6 ⟨atx, de, l, ex, xs2, a2, c2, hJ, el5, o, st7⟩
 have h := h2 atx de l ex hJ
 obtain ⟨J1, h, h2⟩ := h
 refine ⟨fun w12 => ∃ (atx1 : Int) (de1 : Int) (l1 : List GNode) (ex1 : Int) (xs5 : List Value) (a4 : Option Addr) (c4 : Nat), J1 atx1 de1 l1 ex1 ∧ El cGNode (ms [.box rb [.slice rA0 r.toks.length rC0, .int .i64 atx1, .int .i64 de1, .slice a4 l1.length c4, .int .i64 ex1], .row 39 5 a4 l1.length c4 xs5] m) w12 l1 xs5 ∧ Mem w.heap.size (rb :: (Vc.blk rA).toList) m [((rb :: (Vc.blk rA).toList), w.heap.size, w)] [] w12 [.box rb [.slice rA0 r.toks.length rC0, .int .i64 atx1, .int .i64 de1, .slice a4 l1.length c4, .int .i64 ex1], .row 39 5 a4 l1.length c4 xs5] ∧ Step (ms [.box rb [.slice rA0 r.toks.length rC0, .int .i64 atx, .int .i64 de, .slice a2 l.length c2, .int .i64 ex], .row 39 5 a2 l.length c2 xs2] m) w6 (ms [.box rb [.slice rA0 r.toks.length rC0, .int .i64 atx1, .int .i64 de1, .slice a4 l1.length c4, .int .i64 ex1], .row 39 5 a4 l1.length c4 xs5] m) w12, ?_, ?_⟩
 refine call_then (h _ w6 (o.mo hm hrm (.head _)) _ _ _ _ _ (Mem.inms 0 rfl) (o.at 0 rfl) le_r0 (f_r0.st (st.trans (st1.trans (st2.trans (st4.trans (st5.trans (st6.trans st7)))))))) ?_
 rintro _ w13 ⟨x3, r8, h, rfl, bx7, ke7⟩
 have st15 := o.xC (l' := [.slice rA0 r.toks.length rC0, .int .i64 r8.at_, .int .i64 r8.deep, .slice a2 l.length c2, .int .i64 r8.e_]) 0 ke7 rfl
 have o := o.call 0 ke7 bx7 rfl
 refine ⟨_, rfl, ?_⟩
 refine cond_map (fun h => ?_) (fun h => ?_) h
 refine ⟨_, _, _, (o.at 0 rfl).cell rfl, ?_⟩
 obtain ⟨hi1, h⟩ := h
 obtain ⟨p1, x4, cs1, hp1, he1, hc1, hr5⟩ := row_elem (o.rowAt 1 rfl) (el5.st st15) hi1
 obtain rfl := GNode_out hr5
 have h := h x4 he1
 refine ⟨hi1, ptrOr_some hp1 ?_⟩
 have hq1 := row_putp (i := i.toNat) (o.rowAt 1 rfl) (el5.st st15) hp1 he1 hc1.2 rfl 0 (.int .i64 36) (by decide)
 refine ⟨hq1.1, fun w14 hw14 => ?_⟩
 obtain ⟨xs6, hr6, hg1, hel1⟩ := hq1.2 _ hw14
 have el11 := hel1 (⟨36, x4.name, x4.n, x4.kids, x4.at_⟩ : GNode) (GNode_in (⟨36, x4.name, x4.n, x4.kids, x4.at_⟩ : GNode))
 have st16 := o.xA 1 rfl hr6 hg1 (.inl rfl)
 have o := o.app 1 rfl hr6 hg1 (.inl rfl)
 have ln1 : l.length = (l.set i.toNat (⟨36, x4.name, x4.n, x4.kids, x4.at_⟩ : GNode)).length := row_len (o.rowAt 1 rfl) (el11.st st16)
 rw [ln1] at o
 try rw [ln1]
 refine call_then (h _ w14 (o.mo hm hrm (.head _)) _ _ _ _ _ _ (Mem.inms 0 rfl) (o.objin 0 1 rfl rfl (by decide)) (o.at 0 rfl) (o.rowAt 1 rfl) (el11.st st16) le_r0 (f_r0.st (st.trans (st1.trans (st2.trans (st4.trans (st5.trans (st6.trans (st7.trans (st15.trans st16)))))))))) ?_
 rintro _ w15 ⟨r9, h, -, ⟨a5, c5, xs7, bx8, hr7, el12, fr5⟩, ke8⟩
 have st17 := Mem.call2S (ps := [.box rb [.slice rA0 r.toks.length rC0, .int .i64 r8.at_, .int .i64 r8.deep, .slice a2 ((l.set i.toNat (⟨36, x4.name, x4.n, x4.kids, x4.at_⟩ : GNode)).length) c2, .int .i64 r8.e_], .row 39 5 a2 ((l.set i.toNat (⟨36, x4.name, x4.n, x4.kids, x4.at_⟩ : GNode)).length) c2 xs6]) (m0 := m) (l' := [.slice rA0 r.toks.length rC0, .int .i64 r9.at_, .int .i64 r9.deep, .slice a5 r9.l.length c5, .int .i64 r9.e_]) (n' := r9.l.length) (c' := c5) (xs' := xs7) 0 1 rfl rfl ke8 fr5
 have el13 := El.st el12 (Mem.call2D (ps := [.box rb [.slice rA0 r.toks.length rC0, .int .i64 r8.at_, .int .i64 r8.deep, .slice a2 ((l.set i.toNat (⟨36, x4.name, x4.n, x4.kids, x4.at_⟩ : GNode)).length) c2, .int .i64 r8.e_], .row 39 5 a2 ((l.set i.toNat (⟨36, x4.name, x4.n, x4.kids, x4.at_⟩ : GNode)).length) c2 xs6]) (m0 := m) (l' := [.slice rA0 r.toks.length rC0, .int .i64 r9.at_, .int .i64 r9.deep, .slice a5 r9.l.length c5, .int .i64 r9.e_]) (e := 39) (size := 5) (n' := r9.l.length) (c' := c5) (xs' := xs7) 0 1 rfl)
 have o := o.call2 0 1 rfl rfl (by decide) ke8 bx8 hr7 fr5
 exact ⟨r9.at_, r9.deep, r9.l, r9.e_, xs7, a5, c5, h, el13, o, (st15.trans (st16.trans st17))⟩
 refine call_then (h _ w13 (o.mo hm hrm (.head _)) _ _ _ _ _ _ (Mem.inms 0 rfl) (o.objin 0 1 rfl rfl (by decide)) (o.at 0 rfl) (o.rowAt 1 rfl) (el5.st st15) le_r0 (f_r0.st (st.trans (st1.trans (st2.trans (st4.trans (st5.trans (st6.trans (st7.trans st15))))))))) ?_
 rintro _ w16 ⟨r10, h, -, ⟨a6, c6, xs8, bx9, hr8, el14, fr6⟩, ke9⟩
 have st18 := Mem.call2S (ps := [.box rb [.slice rA0 r.toks.length rC0, .int .i64 r8.at_, .int .i64 r8.deep, .slice a2 l.length c2, .int .i64 r8.e_], .row 39 5 a2 l.length c2 xs2]) (m0 := m) (l' := [.slice rA0 r.toks.length rC0, .int .i64 r10.at_, .int .i64 r10.deep, .slice a6 r10.l.length c6, .int .i64 r10.e_]) (n' := r10.l.length) (c' := c6) (xs' := xs8) 0 1 rfl rfl ke9 fr6
 have el15 := El.st el14 (Mem.call2D (ps := [.box rb [.slice rA0 r.toks.length rC0, .int .i64 r8.at_, .int .i64 r8.deep, .slice a2 l.length c2, .int .i64 r8.e_], .row 39 5 a2 l.length c2 xs2]) (m0 := m) (l' := [.slice rA0 r.toks.length rC0, .int .i64 r10.at_, .int .i64 r10.deep, .slice a6 r10.l.length c6, .int .i64 r10.e_]) (e := 39) (size := 5) (n' := r10.l.length) (c' := c6) (xs' := xs8) 0 1 rfl)
 have o := o.call2 0 1 rfl rfl (by decide) ke9 bx9 hr8 fr6
 exact ⟨r10.at_, r10.deep, r10.l, r10.e_, xs8, a6, c6, h, el15, o, (st15.trans st18)⟩
 rintro _ w12 ⟨atx1, de1, l1, ex1, xs5, a4, c4, hJ, el10, o, st14⟩
 have h := h2 atx1 de1 l1 ex1 hJ
 refine call_then (h _ w12 (o.mo hm hrm (.head _)) _ _ _ _ _ _ (Mem.inms 0 rfl) (o.objin 0 1 rfl rfl (by decide)) (o.at 0 rfl) (o.rowAt 1 rfl) el10 le_r0 (f_r0.st (st.trans (st1.trans (st2.trans (st4.trans (st5.trans (st6.trans (st7.trans st14))))))))) ?_
 rintro _ w17 ⟨r11, h, -, ⟨a7, c7, xs9, bx10, hr9, el16, fr7⟩, ke10⟩
 have st19 := Mem.call2S (ps := [.box rb [.slice rA0 r.toks.length rC0, .int .i64 atx1, .int .i64 de1, .slice a4 l1.length c4, .int .i64 ex1], .row 39 5 a4 l1.length c4 xs5]) (m0 := m) (l' := [.slice rA0 r.toks.length rC0, .int .i64 r11.at_, .int .i64 r11.deep, .slice a7 r11.l.length c7, .int .i64 r11.e_]) (n' := r11.l.length) (c' := c7) (xs' := xs9) 0 1 rfl rfl ke10 fr7
 have el17 := El.st el16 (Mem.call2D (ps := [.box rb [.slice rA0 r.toks.length rC0, .int .i64 atx1, .int .i64 de1, .slice a4 l1.length c4, .int .i64 ex1], .row 39 5 a4 l1.length c4 xs5]) (m0 := m) (l' := [.slice rA0 r.toks.length rC0, .int .i64 r11.at_, .int .i64 r11.deep, .slice a7 r11.l.length c7, .int .i64 r11.e_]) (e := 39) (size := 5) (n' := r11.l.length) (c' := c7) (xs' := xs9) 0 1 rfl)
 have o := o.call2 0 1 rfl rfl (by decide) ke10 bx10 hr9 fr7
 exact ⟨(⟨r.toks, r11.at_, r11.deep, r11.l, r11.e_⟩ : Gparse_reader), h, trivial, ⟨_, _, _, o.at 0 rfl, o.rowAt 1 rfl, (el17.st (Mem.endRS (w := w17) (ps := [.box rb [.slice rA0 r.toks.length rC0, .int .i64 r11.at_, .int .i64 r11.deep, .slice a7 r11.l.length c7, .int .i64 r11.e_], .row 39 5 a7 r11.l.length c7 xs9]) (m0 := m) 1 rfl)), o.oldnew 1 rfl 0 rfl (by decide)⟩, o.done⟩
def parse_reader_args_vwp (r : Gparse_reader) (i : Int) (K : Gparse_reader → Prop) : Prop :=
 V_parse_reader_must r ([[40]] : List (List UInt8)) (fun r1 =>
 V_parse_reader_eat (⟨r.toks, r1.at_, r1.deep, r.l, r1.e_⟩ : Gparse_reader) [41] (fun x r2 =>
 cond (!x)
 (V_parse_reader_term (⟨r.toks, r2.at_, r2.deep, r.l, r2.e_⟩ : Gparse_reader) i (fun r3 =>
 ∃ (I : Int → Int → (List GNode) → Int → Nat → Prop), (∃ n, I r3.at_ r3.deep r3.l r3.e_ n) ∧
 ∀ (atx : Int) (de : Int) (l : List GNode) (ex : Int) (n : Nat), I atx de l ex n →
 V_parse_reader_eat (⟨r.toks, atx, de, l, ex⟩ : Gparse_reader) [44] (fun x1 r4 =>
 cond (x1)
 (V_parse_reader_term (⟨r.toks, r4.at_, r4.deep, l, r4.e_⟩ : Gparse_reader) i (fun r5 =>
 ∃ n1, n1 < n ∧ I r5.at_ r5.deep r5.l r5.e_ n1))
 (V_parse_reader_must (⟨r.toks, r4.at_, r4.deep, l, r4.e_⟩ : Gparse_reader) ([[41]] : List (List UInt8)) (fun r6 =>
 K (⟨r.toks, r6.at_, r6.deep, l, r6.e_⟩ : Gparse_reader))))))
 (K (⟨r.toks, r2.at_, r2.deep, r.l, r2.e_⟩ : Gparse_reader))))
set_option maxRecDepth 10000 in
theorem parse_reader_args_lift (r : Gparse_reader) (i : Int) (K : Gparse_reader → Prop) (h : parse_reader_args_vwp r i K) : V_parse_reader_args r i K := by
 intro m w hm rb rA rC rxs rA0 rC0 in_r ina_r bx_r rw_r f_r le_r0 f_r0
 have hrs_ := Mem.objlt hm.lt in_r ina_r
 have o := Mem.obj hm.lt in_r ina_r bx_r rw_r
 have st := Mem.objS (w := w) (l := [.slice rA0 r.toks.length rC0, .int .i64 r.at_, .int .i64 r.deep, .slice rA r.l.length rC, .int .i64 r.e_]) (e := 39) (size := 5) (n := r.l.length) (c := rC) (xs := rxs) in_r ina_r
 have hrm : ∀ b ∈ (rb :: (Vc.blk rA).toList), b ∈ m := fun b hb => (List.mem_cons.1 hb).elim (fun e => e ▸ in_r) (fun h => (ina_r b (Option.mem_toList.1 h)).1)
 refine parse_reader_args_ok rb i _ _ ?_
 intro b w1 hb hw1
 have el : El cStr (ms [.box rb [.slice rA0 r.toks.length rC0, .int .i64 r.at_, .int .i64 r.deep, .slice rA r.l.length rC, .int .i64 r.e_], .row 39 5 rA r.l.length rC rxs] m) w ([[40]] : List (List UInt8)) ([.string (mkS [40])] : List Value) := (El.cons (cs := [.string (mkS [40])]) rfl (El.nil _ _ _))
 have fr : w.heap.size ≤ b := hb ▸ o.le
 have st1 := o.xL hb hw1 1 1
 have o := o.lit hb hw1 1 1 (by decide) rfl
 have le := (o.rowAt 0 rfl).cap
 have st2 := o.xX 0
 have f := o.freeze (c := cStr) (l := ([[40]] : List (List UInt8))) 0 rfl (fun q hq h => by have := hrs_ q hq; have := fr; simp [Vc.blk] at h; omega) (el.st (st1.trans st2))
 have o := o.erase 0
 refine call_then (h _ w1 (o.mo hm hrm (.head _)) _ _ _ _ _ (Mem.inms 0 rfl) (o.at 0 rfl) le_r0 (f_r0.st (st.trans (st1.trans st2))) _ _ le f) ?_
 rintro _ w2 ⟨r1, h, -, bx, ke⟩
 have st3 := o.xC (l' := [.slice rA0 r.toks.length rC0, .int .i64 r1.at_, .int .i64 r1.deep, .slice rA r.l.length rC, .int .i64 r1.e_]) 0 ke rfl
 have o := o.call 0 ke bx rfl
 refine call_then (h _ w2 (o.mo hm hrm (.head _)) _ _ _ _ _ (Mem.inms 0 rfl) (o.at 0 rfl) le_r0 (f_r0.st (st.trans (st1.trans (st2.trans st3))))) ?_
 rintro _ w3 ⟨x, r2, h, rfl, bx1, ke1⟩
 have st4 := o.xC (l' := [.slice rA0 r.toks.length rC0, .int .i64 r2.at_, .int .i64 r2.deep, .slice rA r.l.length rC, .int .i64 r2.e_]) 0 ke1 rfl
 have o := o.call 0 ke1 bx1 rfl
 refine ⟨_, rfl, ?_⟩
 refine cond_map (fun h => ?_) (fun h => ?_) h
 refine call_then (h _ w3 (o.mo hm hrm (.head _)) _ _ _ _ _ _ (Mem.inms 0 rfl) (o.objin 0 1 rfl rfl (by decide)) (o.at 0 rfl) (o.rowAt 1 rfl) (f_r.st (st.trans (st1.trans (st2.trans (st3.trans st4))))) le_r0 (f_r0.st (st.trans (st1.trans (st2.trans (st3.trans st4)))))) ?_
 rintro _ w4 ⟨r3, h, -, ⟨a, c, xs, bx2, hr, el1, fr1⟩, ke2⟩
 have st5 := Mem.call2S (ps := [.box rb [.slice rA0 r.toks.length rC0, .int .i64 r2.at_, .int .i64 r2.deep, .slice rA r.l.length rC, .int .i64 r2.e_], .row 39 5 rA r.l.length rC rxs]) (m0 := m) (l' := [.slice rA0 r.toks.length rC0, .int .i64 r3.at_, .int .i64 r3.deep, .slice a r3.l.length c, .int .i64 r3.e_]) (n' := r3.l.length) (c' := c) (xs' := xs) 0 1 rfl rfl ke2 fr1
 have el2 := El.st el1 (Mem.call2D (ps := [.box rb [.slice rA0 r.toks.length rC0, .int .i64 r2.at_, .int .i64 r2.deep, .slice rA r.l.length rC, .int .i64 r2.e_], .row 39 5 rA r.l.length rC rxs]) (m0 := m) (l' := [.slice rA0 r.toks.length rC0, .int .i64 r3.at_, .int .i64 r3.deep, .slice a r3.l.length c, .int .i64 r3.e_]) (e := 39) (size := 5) (n' := r3.l.length) (c' := c) (xs' := xs) 0 1 rfl)
 have o := o.call2 0 1 rfl rfl (by decide) ke2 bx2 hr fr1
 obtain ⟨I, ⟨n2, h⟩, h2⟩ := h
 obtain ⟨Z, hZ⟩ : ∃ Z : World → Nat → Prop, Z = fun w5 n => ∃ (atx : Int) (de : Int) (l : List GNode) (ex : Int) (xs1 : List Value) (a1 : Option Addr) (c1 : Nat), I atx de l ex n ∧ El cGNode (ms [.box rb [.slice rA0 r.toks.length rC0, .int .i64 atx, .int .i64 de, .slice a1 l.length c1, .int .i64 ex], .row 39 5 a1 l.length c1 xs1] m) w5 l xs1 ∧ Mem w.heap.size (rb :: (Vc.blk rA).toList) m [((rb :: (Vc.blk rA).toList), w.heap.size, w)] [] w5 [.box rb [.slice rA0 r.toks.length rC0, .int .i64 atx, .int .i64 de, .slice a1 l.length c1, .int .i64 ex], .row 39 5 a1 l.length c1 xs1] ∧ Step (ms [.box rb [.slice rA0 r.toks.length rC0, .int .i64 r3.at_, .int .i64 r3.deep, .slice a r3.l.length c, .int .i64 r3.e_], .row 39 5 a r3.l.length c xs] m) w4 (ms [.box rb [.slice rA0 r.toks.length rC0, .int .i64 atx, .int .i64 de, .slice a1 l.length c1, .int .i64 ex], .row 39 5 a1 l.length c1 xs1] m) w5 := ⟨_, rfl⟩
 refine ⟨fun w5 => ∃ n, Z w5 n, fun w5 => leastN (Z w5), ⟨n2, ?_⟩, ?_⟩
 rw [hZ]; exact ⟨r3.at_, r3.deep, r3.l, r3.e_, xs, a, c, h, el2, o, Step.refl _ _⟩
 intro _ w5 hIZ
 obtain ⟨n, hnn⟩ : ∃ n, n = leastN (Z w5) := ⟨_, rfl⟩
 have hIZ := leastN_at hIZ
 rw [← hnn, hZ] at hIZ
 obtain ⟨atx, de, l, ex, xs1, a1, c1, h, el3, o, st6⟩ := hIZ
 have h := h2 atx de l ex n h
 refine call_then (h _ w5 (o.mo hm hrm (.head _)) _ _ _ _ _ (Mem.inms 0 rfl) (o.at 0 rfl) le_r0 (f_r0.st (st.trans (st1.trans (st2.trans (st3.trans (st4.trans (st5.trans st6)))))))) ?_
 rintro _ w6 ⟨x1, r4, h, rfl, bx3, ke3⟩
 have st7 := o.xC (l' := [.slice rA0 r.toks.length rC0, .int .i64 r4.at_, .int .i64 r4.deep, .slice a1 l.length c1, .int .i64 r4.e_]) 0 ke3 rfl
 have o := o.call 0 ke3 bx3 rfl
 refine ⟨_, rfl, ?_⟩
 refine cond_map (fun h => ?_) (fun h => ?_) h
 refine call_then (h _ w6 (o.mo hm hrm (.head _)) _ _ _ _ _ _ (Mem.inms 0 rfl) (o.objin 0 1 rfl rfl (by decide)) (o.at 0 rfl) (o.rowAt 1 rfl) (el3.st st7) le_r0 (f_r0.st (st.trans (st1.trans (st2.trans (st3.trans (st4.trans (st5.trans (st6.trans st7))))))))) ?_
 rintro _ w7 ⟨r5, h, -, ⟨a2, c2, xs2, bx4, hr1, el4, fr2⟩, ke4⟩
 have st8 := Mem.call2S (ps := [.box rb [.slice rA0 r.toks.length rC0, .int .i64 r4.at_, .int .i64 r4.deep, .slice a1 l.length c1, .int .i64 r4.e_], .row 39 5 a1 l.length c1 xs1]) (m0 := m) (l' := [.slice rA0 r.toks.length rC0, .int .i64 r5.at_, .int .i64 r5.deep, .slice a2 r5.l.length c2, .int .i64 r5.e_]) (n' := r5.l.length) (c' := c2) (xs' := xs2) 0 1 rfl rfl ke4 fr2
 have el5 := El.st el4 (Mem.call2D (ps := [.box rb [.slice rA0 r.toks.length rC0, .int .i64 r4.at_, .int .i64 r4.deep, .slice a1 l.length c1, .int .i64 r4.e_], .row 39 5 a1 l.length c1 xs1]) (m0 := m) (l' := [.slice rA0 r.toks.length rC0, .int .i64 r5.at_, .int .i64 r5.deep, .slice a2 r5.l.length c2, .int .i64 r5.e_]) (e := 39) (size := 5) (n' := r5.l.length) (c' := c2) (xs' := xs2) 0 1 rfl)
 have o := o.call2 0 1 rfl rfl (by decide) ke4 bx4 hr1 fr2
 obtain ⟨n1, hl, h⟩ := h
 exact loop_again hnn (show Z w7 n1 from (by rw [hZ]; exact ⟨r5.at_, r5.deep, r5.l, r5.e_, xs2, a2, c2, h, el5, o, (st6.trans (st7.trans st8))⟩)) hl
 intro b1 w8 hb1 hw8
 have el6 : El cStr (ms [.box rb [.slice rA0 r.toks.length rC0, .int .i64 r4.at_, .int .i64 r4.deep, .slice a1 l.length c1, .int .i64 r4.e_], .row 39 5 a1 l.length c1 xs1] m) w6 ([[41]] : List (List UInt8)) ([.string (mkS [41])] : List Value) := (El.cons (cs := [.string (mkS [41])]) rfl (El.nil _ _ _))
 have fr3 : w.heap.size ≤ b1 := hb1 ▸ o.le
 have st9 := o.xL hb1 hw8 1 1
 have o := o.lit hb1 hw8 1 1 (by decide) rfl
 have le1 := (o.rowAt 0 rfl).cap
 have st10 := o.xX 0
 have f1 := o.freeze (c := cStr) (l := ([[41]] : List (List UInt8))) 0 rfl (fun q hq h => by have := hrs_ q hq; have := fr3; simp [Vc.blk] at h; omega) (el6.st (st9.trans st10))
 have o := o.erase 0
 refine call_then (h _ w8 (o.mo hm hrm (.head _)) _ _ _ _ _ (Mem.inms 0 rfl) (o.at 0 rfl) le_r0 (f_r0.st (st.trans (st1.trans (st2.trans (st3.trans (st4.trans (st5.trans (st6.trans (st7.trans (st9.trans st10)))))))))) _ _ le1 f1) ?_
 rintro _ w9 ⟨r6, h, -, bx5, ke5⟩
 have st11 := o.xC (l' := [.slice rA0 r.toks.length rC0, .int .i64 r6.at_, .int .i64 r6.deep, .slice a1 l.length c1, .int .i64 r6.e_]) 0 ke5 rfl
 have o := o.call 0 ke5 bx5 rfl
 exact ⟨(⟨r.toks, r6.at_, r6.deep, l, r6.e_⟩ : Gparse_reader), h, trivial, ⟨_, _, _, o.at 0 rfl, o.rowAt 1 rfl, (el3.st (st7.trans (st9.trans (st10.trans (st11.trans (Mem.endRS (w := w9) (ps := [.box rb [.slice rA0 r.toks.length rC0, .int .i64 r6.at_, .int .i64 r6.deep, .slice a1 l.length c1, .int .i64 r6.e_], .row 39 5 a1 l.length c1 xs1]) (m0 := m) 1 rfl)))))), o.oldnew 1 rfl 0 rfl (by decide)⟩, o.done⟩
 exact ⟨(⟨r.toks, r2.at_, r2.deep, r.l, r2.e_⟩ : Gparse_reader), h, trivial, ⟨_, _, _, o.at 0 rfl, o.rowAt 1 rfl, (f_r.st (st.trans (st1.trans (st2.trans (st3.trans (st4.trans (Mem.endRS (w := w3) (ps := [.box rb [.slice rA0 r.toks.length rC0, .int .i64 r2.at_, .int .i64 r2.deep, .slice rA r.l.length rC, .int .i64 r2.e_], .row 39 5 rA r.l.length rC rxs]) (m0 := m) 1 rfl))))))), o.oldnew 1 rfl 0 rfl (by decide)⟩, o.done⟩
end Go.Proofs.Ytdbdkdmgfiiljaa
