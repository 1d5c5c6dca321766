/- Layer 42: the bytes of a state, written by the program. -/
import Derived.Test.YtfcemnnlmlggoaaGreatLtXa
import Derived.Test.YtfcemnnlmlggoaaGreatLtXb
import Derived.Test.YtfcemnnlmlggoaaGreatLtXc
import Derived.Test.YtfcemnnlmlggoaaGreatLtXd
import Derived.Test.YtfcemnnlmlggoaaGreatInsV
import Derived.Test.YtfcemnnlmlggoaaGreatKeyA
import Derived.Test.YtfcemnnlmlggoaaGreatLoop
namespace Go.Proofs.YtfcemnnlmlggoaaGreat
open Go.Vc Go.Lv Go.Ty Go.Iv
theorem keq {α : Type} {K : α → Prop} {x y : α} (h : K y) (e : x = y) : K x := e ▸ h
theorem zig_v (n : Int) (hn : J64 n) (K : Int → Prop) (h : K (zigN n)) : V_vint_Zig n K := by
  refine vint_Zig_lift _ _ ⟨by decide, by decide, ?_⟩
  rw [zig_eq hn]; exact h
theorem pow_lt10 {k : Nat} (h : 128 ^ k < 18446744073709551616) : k ≤ 9 := by
  rcases Nat.lt_or_ge 9 k with h1 | h1
  · have : 128 ^ 10 ≤ 128 ^ k := Nat.pow_le_pow_right (by omega) h1
    have e : (128 : Nat) ^ 10 = 1180591620717411303424 := rfl
    omega
  · exact h1
theorem div_pow {a k : Nat} : a / 128 * 128 ^ (k + 1) ≤ a * 128 ^ k := by
  rw [Nat.pow_succ, Nat.mul_comm (128 ^ k) 128, ← Nat.mul_assoc]
  exact Nat.mul_le_mul_right _ (Nat.div_mul_le_self a 128)
theorem size_v (u : Nat) (hu : u < 18446744073709551616) (K : Int → Prop) (h : ∀ n : Nat, 1 ≤ n → n ≤ 10 → K n) : V_vint_Size u K := by
  refine vint_Size_lift _ _ ⟨fun u1 n m => ∃ a k : Nat, u1 = a ∧ n = ((k + 1 : Nat) : Int) ∧ a = m ∧ a * 128 ^ k < 18446744073709551616 ∧ k ≤ 9, ⟨u, u, 0, rfl, rfl, rfl, by simpa using hu, by omega⟩, ?_⟩
  rintro _ _ _ ⟨a, k, rfl, rfl, rfl, hk, hk9⟩
  refine cond_intro (fun hc => ⟨by decide, ?_⟩) fun hc => h (k + 1) (by omega) (by omega)
  have ha : 128 ≤ a := by have := of_decide_eq_true hc; omega
  have h1 : a / 128 * 128 ^ (k + 1) < 18446744073709551616 := Nat.lt_of_le_of_lt div_pow hk
  have h2 : 128 ^ (k + 1) ≤ a / 128 * 128 ^ (k + 1) := Nat.le_mul_of_pos_left _ (by omega)
  refine ⟨a / 128, by omega, a / 128, k + 1, ?_, ?_, rfl, h1, pow_lt10 (by omega)⟩
  · show (a : Int).fdiv ((128 : Nat) : Int) = _
    rw [fdiv_nat]
  · rw [wrap_in (by omega) (by omega)]; omega
theorem or128 (a : Nat) : bitsOr .u8 (IntKind.u8.wrap (a : Int)) 128 = ((a % 128 + 128 : Nat) : Int) := by
  have key : ∀ b : Fin 256, bitsOr .u8 ((b.val : Nat) : Int) 128 = ((b.val % 128 + 128 : Nat) : Int) := by decide +kernel
  have := key ⟨a % 256, by omega⟩
  rw [show IntKind.u8.wrap (a : Int) = ((a % 256 : Nat) : Int) by rw [IntKind.wrap_u8]; omega, this]
  have : a % 256 % 128 = a % 128 := by omega
  simp only [this]
theorem u8_wrap {a : Nat} (h : a < 256) : IntKind.u8.wrap (a : Int) = (a : Int) := by rw [IntKind.wrap_u8]; omega
theorem strOf_len (l : List Int) : (strOf l).length = l.length := by simp [strOf]
theorem put_v (s : List UInt8) (u : Nat) (hs : s.length < 1073741824) (hu : u < 18446744073709551616) (K : List UInt8 → Prop) (h : K (s ++ numF u)) : V_vint_Put s u K := by
  refine vint_Put_lift _ _ _ (size_v u hu _ fun n h1 h2 => ?_)
  have hw : IntKind.i64.wrap ((s.length : Int) + (n : Int)) = ((s.length + n : Nat) : Int) := by rw [wrap_in (by omega) (by omega)]; omega
  rw [hw]
  refine ⟨by omega, by omega, fun u1 out m => ∃ a : Nat, u1 = a ∧ a = m ∧ a < 18446744073709551616 ∧ strOf out ++ numF a = s ++ numF u, ⟨u, u, rfl, rfl, hu, by rw [strOf_nums]⟩, ?_⟩
  rintro _ out _ ⟨a, rfl, rfl, ha, he⟩
  have hlen := congrArg List.length he
  rw [List.length_append, List.length_append, strOf_len] at hlen
  have := numF_len10 hu
  refine cond_intro (fun hc => ⟨by rw [List.length_singleton]; omega, by decide, ?_⟩) fun hc => ⟨by rw [List.length_singleton]; omega, keq h ?_⟩
  · have hc : ¬ a < 128 := by have := of_decide_eq_true hc; omega
    refine ⟨a / 128, by omega, a / 128, ?_, rfl, by omega, ?_⟩
    · show (a : Int).fdiv ((128 : Nat) : Int) = _
      rw [fdiv_nat]
    · rw [strOf_app, or128, strOf_one, ← he, numF_ge hc, List.append_assoc]; rfl
  · have hc : a < 128 := by have := of_decide_eq_false hc; omega
    rw [strOf_app, u8_wrap (by omega), strOf_one, ← he, numF_lt hc]; rfl
theorem add_v (l : List Int) (s : List UInt8) (hl : l.length + s.length < 2 ^ 32) (K : Gwire_Writer → Prop) (h : K ⟨l ++ nums s⟩) : V_wire_Writer_add ⟨l⟩ s K := wire_Writer_add_lift _ _ _ ⟨hl, h⟩
theorem wint_v (l : List Int) (n : Int) (hn : J64 n) (hl : l.length < 2 ^ 31) (K : Gwire_Writer → Prop) (h : K ⟨l ++ nums (numF (zigN n))⟩) : V_wire_Writer_Int ⟨l⟩ n K := by
  have := numF_len10 (zig_lt hn)
  exact wire_Writer_Int_lift _ _ _ (vint_PutInt_lift _ _ _ (zig_v n hn _ (put_v [] _ (by decide) (zig_lt hn) _ (add_v l _ (by rw [List.nil_append]; omega) _ h))))
end Go.Proofs.YtfcemnnlmlggoaaGreat
namespace Go.Proofs.YtfcemnnlmlggoaaGreat
open Go.Vc Go.Lv Go.Ty Go.Iv Go.Ky

theorem nums_app (a b : List UInt8) : nums (a ++ b) = nums a ++ nums b := by simp [nums]
theorem nums_ln (a : List UInt8) : (nums a).length = a.length := by simp [nums]
theorem intF_len {n : Int} (h : J64 n) : (intF n).length ≤ 10 := numF_len10 (zig_lt h)
theorem flat_len {l : List Int} (h : ∀ x ∈ l, J64 x) : (l.flatMap intF).length ≤ 10 * l.length := by
  induction l with
  | nil => simp
  | cons a l ih =>
    rw [List.flatMap_cons, List.length_append, List.length_cons]
    have := intF_len (h a (by simp))
    have := ih fun x hx => h x (by simp [hx])
    omega
theorem wint_k (l : List Int) (n : Int) (hn : J64 n) (hl : l.length < 2 ^ 31) (K : Gwire_Writer → Prop) (h : K ⟨l ++ nums (intF n)⟩) : V_wire_Writer_Int ⟨l⟩ n K := wint_v l n hn hl K h
theorem wnum_k (l : List Int) (n : Nat) (hn : n < 2 ^ 31) (hl : l.length < 2 ^ 31) (K : Gwire_Writer → Prop) (h : K ⟨l ++ nums (numF n)⟩) : V_wire_Writer_Num ⟨l⟩ (IntKind.u64.wrap (n : Int)) K := by
  rw [show IntKind.u64.wrap (n : Int) = (n : Int) by rw [IntKind.wrap_u64]; omega]
  have := numF_len10 (u := n) (by omega)
  exact wire_Writer_Num_lift _ _ _ (put_v [] _ (by decide) (by omega) _ (add_v l _ (by rw [List.nil_append]; omega) _ h))
theorem flat_snoc {α : Type} {l : List α} {k : Nat} (f : α → List UInt8) (h : k < l.length) : (l.take (k + 1)).flatMap f = (l.take k).flatMap f ++ f l[k] := by
  rw [take_snoc h, List.flatMap_append]; simp
theorem dints_v (s l : List Int) (hl : ∀ x ∈ l, J64 x) (hb : s.length + 10 * l.length < 2 ^ 31) (K : Gwire_Writer → Prop) (h : K ⟨s ++ nums (l.flatMap intF)⟩) : V_dump_writer_ints ⟨s⟩ l K := by
  refine dump_writer_ints_lift _ _ _ ⟨fun i t n => At l.length (fun k => t = s ++ nums ((l.take k).flatMap intF)) i n, ⟨_, At.start (by simp [nums])⟩, ?_⟩
  rintro _ _ _ ⟨k, rfl, hk, rfl, rfl⟩
  refine At.cond hk (fun hk => at_elem hk ?_) fun hk => ?_
  · have := flat_len (l := l.take k) (fun x hx => hl x (List.mem_of_mem_take hx))
    rw [List.length_take] at this
    refine wint_k _ _ (hl _ (List.getElem_mem hk)) (by rw [List.length_append, nums_ln]; omega) _ (At.next (by omega) hk ?_)
    rw [flat_snoc _ hk, nums_app, List.append_assoc]
  · rw [hk, List.take_length]; exact h
theorem wints_v (s l : List Int) (hl : ∀ x ∈ l, J64 x) (hb : s.length + 10 + 10 * l.length < 2 ^ 31) (K : Gwire_Writer → Prop) (h : K ⟨s ++ nums (rowF intF l)⟩) : V_wire_Writer_Ints ⟨s⟩ l K := by
  have hn := numF_len10 (u := l.length) (by omega)
  refine wire_Writer_Ints_lift _ _ _ (wnum_k _ _ (by omega) (by omega) _ ⟨fun i t n => At l.length (fun k => t = s ++ nums (numF l.length ++ (l.take k).flatMap intF)) i n, ⟨_, At.start (by simp)⟩, ?_⟩)
  rintro _ _ _ ⟨k, rfl, hk, rfl, rfl⟩
  refine At.cond hk (fun hk => at_elem hk ?_) fun hk => ?_
  · have := flat_len (l := l.take k) (fun x hx => hl x (List.mem_of_mem_take hx))
    rw [List.length_take] at this
    refine wint_k _ _ (hl _ (List.getElem_mem hk)) (by rw [List.length_append, nums_ln, List.length_append]; omega) _ (At.next (by omega) hk ?_)
    rw [flat_snoc _ hk]
    simp only [nums_app, List.append_assoc]
  · rw [hk, List.take_length]; exact h
/-- numbers of the machine -/
structure RgA (a : GAlt) : Prop where
  kind : J64 a.kind
  chan : J64 a.chan
  val : J64 a.val
  slot : J64 a.slot
  goto : J64 a.goto
structure RgP (p : GProc) : Prop where
  df : J64 p.def_
  at_ : J64 p.at_
  vars : ∀ v ∈ p.vars, J64 v
  fuel : J64 p.fuel
  mode : J64 p.mode
  chan : J64 p.chan
  val : J64 p.val
  slot : J64 p.slot
  unt : J64 p.until_
  since : J64 p.since
  alts : ∀ a ∈ p.alts, RgA a
structure RgS (s : GState) : Prop where
  now : J64 s.now
  since : J64 s.since
  halt : J64 s.halt
  fault : J64 s.fault
  who : J64 s.who
  procs : ∀ p ∈ s.procs, RgP p
  out : ∀ v ∈ s.out, J64 v
/-- no more than may be looked at -/
structure Sm (s : GState) : Prop where
  procs : s.procs.length ≤ 20
  out : s.out.length ≤ 60
  each : ∀ p ∈ s.procs, p.vars.length ≤ 40 ∧ p.alts.length ≤ 40
theorem altF_eq (a : GAlt) : [a.kind, a.chan, a.val, a.slot, a.goto].flatMap intF = altF a := by simp [altF]
theorem altF_len {a : GAlt} (h : RgA a) : (altF a).length ≤ 50 := by
  rw [← altF_eq]
  exact flat_len (l := [a.kind, a.chan, a.val, a.slot, a.goto]) (by
    intro x hx
    simp at hx
    rcases hx with rfl | rfl | rfl | rfl | rfl
    · exact h.kind
    · exact h.chan
    · exact h.val
    · exact h.slot
    · exact h.goto)
theorem flatA_len {l : List GAlt} (h : ∀ x ∈ l, RgA x) : (l.flatMap altF).length ≤ 50 * l.length := by
  induction l with
  | nil => simp
  | cons a l ih =>
    rw [List.flatMap_cons, List.length_append, List.length_cons]
    have := altF_len (h a (by simp))
    have := ih fun x hx => h x (by simp [hx])
    omega
theorem procF_eq (p : GProc) : procF p = [p.def_, p.at_].flatMap intF ++ (rowF intF p.vars ++ ([p.fuel, p.mode, p.chan, p.val, p.slot, p.until_, p.since].flatMap intF ++ (numF p.alts.length ++ p.alts.flatMap altF))) := by
  simp [procF, rowF]
theorem rowF_len {l : List Int} (hl : ∀ x ∈ l, J64 x) (hn : l.length < 2 ^ 30) : (rowF intF l).length ≤ 10 + 10 * l.length := by
  unfold rowF
  rw [List.length_append]
  have := numF_len10 (u := l.length) (by omega)
  have := flat_len hl
  omega
theorem procF_len {p : GProc} (h : RgP p) (hv : p.vars.length ≤ 40) (ha : p.alts.length ≤ 40) : (procF p).length ≤ 2600 := by
  rw [procF_eq]
  simp only [List.length_append]
  have h1 := flat_len (l := [p.def_, p.at_]) (by intro x hx; simp at hx; rcases hx with rfl | rfl <;> (first | exact h.df | exact h.at_))
  have h2 := rowF_len h.vars (by omega)
  have h3 := flat_len (l := [p.fuel, p.mode, p.chan, p.val, p.slot, p.until_, p.since]) (by
    intro x hx; simp at hx
    rcases hx with rfl | rfl | rfl | rfl | rfl | rfl | rfl <;> (first | exact h.fuel | exact h.mode | exact h.chan | exact h.val | exact h.slot | exact h.unt | exact h.since))
  have h4 := numF_len10 (u := p.alts.length) (by omega)
  have h5 := flatA_len h.alts
  simp only [List.length_cons, List.length_nil] at h1 h3
  omega
theorem dproc_v (s : List Int) (p : GProc) (r : RgP p) (hv : p.vars.length ≤ 40) (ha : p.alts.length ≤ 40) (hb : s.length < 2 ^ 30) (K : Gwire_Writer → Prop) (h : K ⟨s ++ nums (procF p)⟩) : V_dump_writer_proc ⟨s⟩ p K := by
  rw [procF_eq] at h
  have r1 : ∀ x ∈ [p.def_, p.at_], J64 x := by intro x hx; simp at hx; rcases hx with rfl | rfl <;> (first | exact r.df | exact r.at_)
  have r3 : ∀ x ∈ [p.fuel, p.mode, p.chan, p.val, p.slot, p.until_, p.since], J64 x := by
    intro x hx; simp at hx
    rcases hx with rfl | rfl | rfl | rfl | rfl | rfl | rfl <;> (first | exact r.fuel | exact r.mode | exact r.chan | exact r.val | exact r.slot | exact r.unt | exact r.since)
  have h1 := flat_len r1
  have h2 := rowF_len r.vars (by omega)
  have h3 := flat_len r3
  have h4 := numF_len10 (u := p.alts.length) (by omega)
  generalize hA : [p.def_, p.at_] = A at h h1 r1
  generalize hC : [p.fuel, p.mode, p.chan, p.val, p.slot, p.until_, p.since] = C at h h3 r3
  have hAl : A.length = 2 := by rw [← hA]; rfl
  have hCl : C.length = 7 := by rw [← hC]; rfl
  refine dump_writer_proc_lift _ _ _ ?_
  unfold dump_writer_proc_vwp
  rw [hA, hC]
  refine dints_v _ _ r1 (by omega) _ (wints_v _ _ r.vars (by rw [List.length_append, nums_ln]; omega) _ (dints_v _ _ r3 (by rw [List.length_append, List.length_append, nums_ln, nums_ln]; omega) _ (wnum_k _ _ (by omega) (by simp only [List.length_append, nums_ln]; omega) _ ?_)))
  refine ⟨fun i t n => At p.alts.length (fun k => t = s ++ nums (A.flatMap intF ++ (rowF intF p.vars ++ (C.flatMap intF ++ (numF p.alts.length ++ (p.alts.take k).flatMap altF))))) i n, ⟨_, At.start (by simp [nums])⟩, ?_⟩
  rintro _ _ _ ⟨k, rfl, hk, rfl, rfl⟩
  refine At.cond hk (fun hk => at_elem hk ?_) fun hk => ?_
  · have h5 := flatA_len (l := p.alts.take k) (fun x hx => r.alts x (List.mem_of_mem_take hx))
    rw [List.length_take] at h5
    have ra := r.alts _ (List.getElem_mem hk)
    refine dints_v _ _ (by
      intro x hx; simp at hx
      rcases hx with rfl | rfl | rfl | rfl | rfl <;> (first | exact ra.kind | exact ra.chan | exact ra.val | exact ra.slot | exact ra.goto)) (by simp only [List.length_append, nums_ln, List.length_cons, List.length_nil]; omega) _ (At.next (by omega) hk ?_)
    rw [altF_eq, flat_snoc _ hk]
    simp only [nums_app, List.append_assoc]
  · rw [hk, List.take_length]; exact h
theorem flatP_len {l : List GProc} (h : ∀ x ∈ l, RgP x) (hs : ∀ x ∈ l, x.vars.length ≤ 40 ∧ x.alts.length ≤ 40) : (l.flatMap procF).length ≤ 2600 * l.length := by
  induction l with
  | nil => simp
  | cons a l ih =>
    rw [List.flatMap_cons, List.length_append, List.length_cons]
    have := procF_len (h a (by simp)) (hs a (by simp)).1 (hs a (by simp)).2
    have := ih (fun x hx => h x (by simp [hx])) (fun x hx => hs x (by simp [hx]))
    omega
theorem stateF_eq (s : GState) : stateF s = [s.now, s.since, s.halt, s.fault, s.who].flatMap intF ++ ((numF s.procs.length ++ s.procs.flatMap procF) ++ rowF intF s.out) := by
  simp [stateF, rowF]
theorem put_k (s : GState) (r : RgS s) (sm : Sm s) (K : List UInt8 → Prop) (h : K (stateF s)) : V_dump_Put s K := by
  rw [stateF_eq] at h
  have r1 : ∀ x ∈ [s.now, s.since, s.halt, s.fault, s.who], J64 x := by
    intro x hx; simp at hx
    rcases hx with rfl | rfl | rfl | rfl | rfl <;> (first | exact r.now | exact r.since | exact r.halt | exact r.fault | exact r.who)
  have h1 := flat_len r1
  have hp := sm.procs
  have ho := sm.out
  have h4 := numF_len10 (u := s.procs.length) (by omega)
  generalize hA : [s.now, s.since, s.halt, s.fault, s.who] = A at h h1 r1
  have hAl : A.length = 5 := by rw [← hA]; rfl
  refine dump_Put_lift _ _ ?_
  unfold dump_Put_vwp
  rw [hA]
  refine dints_v _ _ r1 (by simp; omega) _ (wnum_k _ _ (by omega) (by simp only [List.length_append, nums_ln, List.length_nil]; omega) _ ?_)
  refine ⟨fun i t n => At s.procs.length (fun k => t = nums (A.flatMap intF ++ (numF s.procs.length ++ (s.procs.take k).flatMap procF))) i n, ⟨_, At.start (by simp [nums])⟩, ?_⟩
  rintro _ _ _ ⟨k, rfl, hk, rfl, rfl⟩
  have h5 := flatP_len (l := s.procs.take k) (fun x hx => r.procs x (List.mem_of_mem_take hx)) (fun x hx => sm.each x (List.mem_of_mem_take hx))
  rw [List.length_take] at h5
  refine At.cond hk (fun hk => at_elem hk ?_) fun hk => ?_
  · have hm := sm.each _ (List.getElem_mem hk)
    refine dproc_v _ _ (r.procs _ (List.getElem_mem hk)) hm.1 hm.2 (by simp only [List.length_append, nums_ln]; omega) _ (At.next (by omega) hk ?_)
    rw [flat_snoc _ hk]
    simp only [nums_app, List.append_assoc]
  · rw [hk, List.take_length] at h5 ⊢
    refine wints_v _ _ r.out (by simp only [List.length_append, nums_ln]; omega) _ (wire_Writer_Bytes_lift _ _ ?_)
    show K (strOf _)
    rw [← nums_app, strOf_nums, List.append_assoc]
    exact h
end Go.Proofs.YtfcemnnlmlggoaaGreat
