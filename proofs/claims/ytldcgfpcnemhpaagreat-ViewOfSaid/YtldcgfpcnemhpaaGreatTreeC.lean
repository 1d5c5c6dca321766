/- slices.Repeat of one byte. -/
import Derived.Test.YtldcgfpcnemhpaaGreatLtT
import Derived.Test.YtldcgfpcnemhpaaGreatWrep
import Derived.Laws.CopyRow
import Derived.Laws.IdiomCopy
namespace Go.Proofs.YtldcgfpcnemhpaaGreat
open Go.Vc Go.Lv Go.Ty
theorem wrap_u64 {n : Int} (h0 : 0 ≤ n) (h : n < 18446744073709551616) : IntKind.u64.wrap n = n := by
  simp [IntKind.wrap, IntKind.signed, IntKind.bits]; omega
theorem and_low (n : Int) (h0 : 0 ≤ n) (h : n < 4294967296) : bitsAnd .u64 n 4294967295 = n := by
  obtain ⟨m, rfl⟩ : ∃ m : Nat, n = m := ⟨n.toNat, by omega⟩
  unfold bitsAnd
  have e : (BitVec.ofInt (IntKind.u64.bits) (m : Int) &&& BitVec.ofInt (IntKind.u64.bits) 4294967295).toNat = m := by
    have h1 : (BitVec.ofInt (IntKind.u64.bits) (m : Int)).toNat = m := by
      show (BitVec.ofInt 64 (m : Int)).toNat = m
      rw [BitVec.toNat_ofInt]; omega
    have h2 : (BitVec.ofInt (IntKind.u64.bits) (4294967295 : Int)).toNat = 2 ^ 32 - 1 := by decide
    rw [BitVec.toNat_and, h1, h2, Nat.and_two_pow_sub_one_eq_mod]
    omega
  rw [e]
  have e2 : IntKind.u64.wrap (m : Int) = (m : Int) := wrap_u64 (by omega) (by omega)
  exact e2
theorem mul_one_spec (n : Int) (h0 : 0 ≤ n) (h : n < 4294967296) (w : World) : Calls Tryz.prog 100 #[.int .u64 1, .int .u64 n] w (Ret fun v w' => v = .tuple #[.int .u64 0, .int .u64 n] ∧ w = w') := by
  refine math_bits_Mul_ok _ _ _ _ ?_
  refine math_bits_Mul64_ok _ _ _ _ ⟨by decide, by decide, by decide, by decide, by decide, ?_⟩
  have hb : (2 ^ (min 32 IntKind.u64.bits) : Int) = 4294967296 := by decide
  rw [hb, and_low n h0 h, show (bitsAnd .u64 1 4294967295) = 1 by decide, show Int.fdiv 1 4294967296 = 0 by decide, show Int.fdiv n 4294967296 = 0 by rw [Int.fdiv_eq_ediv_of_nonneg _ (by omega)]; omega]
  have w0 : IntKind.u64.wrap 0 = 0 := by decide
  have wn : IntKind.u64.wrap n = n := wrap_u64 (by omega) (by omega)
  simp only [Int.zero_mul, Int.one_mul, Int.mul_zero, w0, wn]
  rw [show Int.fdiv n 4294967296 = 0 by rw [Int.fdiv_eq_ediv_of_nonneg _ (by omega)]; omega]
  simp only [w0, Int.zero_fdiv, show (bitsAnd .u64 0 4294967295) = 0 by decide, Int.add_zero]
  exact ⟨_, _, rfl, rfl, trivial⟩
theorem row_keep {w0 w : World} {g : Nat} {xs : Array Value} (h : Keep [] w0 w) (hg : w0.heap.size ≤ g) : Keep [] w0 (w.setRow g xs) :=
  ⟨h.os, h.tape, h.output, by simpa [World.setRow] using h.size, fun j hj hm => by
    rw [← h.block j hj hm]
    simp only [World.setRow, Array.getElem?_modify]
    rw [if_neg (by omega)]⟩
theorem repeat_v (a n : Int) (hn : 0 ≤ n) (hn2 : n < 4294967296) (K : List Int → Prop) (h : K (List.replicate n.toNat a)) : V_slices_Repeat_Slbyte_byte [a] n K := by
  intro m w hm xA xC hxc hx
  obtain ⟨N, rfl⟩ : ∃ N : Nat, n = N := ⟨n.toNat, by omega⟩
  rw [Int.toNat_natCast] at h
  refine slices_Repeat_Slbyte_byte_ok _ _ _ _ _ _ ⟨fun w' => w = w', cond_f (by simp) rfl, ?_⟩
  rintro _ _ rfl
  have wn : IntKind.u64.wrap (N : Int) = N := wrap_u64 (by omega) (by omega)
  rw [wn, show IntKind.u64.wrap (([a].length : Nat) : Int) = 1 from wrap_u64 (n := 1) (by omega) (by omega)]
  refine call_then (mul_one_spec N hn hn2 _) ?_
  rintro _ _ ⟨rfl, rfl⟩
  refine ⟨_, _, rfl, fun w' => w = w', fun _ => cond_f (by simp; omega) rfl, ?_⟩
  rintro _ _ rfl
  have hT := sl_5
  obtain ⟨i, z, ht, hi, hz, hsz, hb, hzs, hpos⟩ := hT
  have hz0 : z = .int .u8 0 := by
    have : Tryz.prog.info? 5 = some Tryz.t5 := by kernel_rfl
    rw [this] at hi
    cases hi
    have h2 : Tryz.t5.zero = some (.int .u8 0) := by kernel_rfl
    rw [h2] at hz
    exact (Option.some.inj hz).symm
  subst hz0
  rw [wrap_in (n := (N : Int)) (by omega) (by omega)]
  refine ⟨_, _, run_make w (P := Tryz.prog) 104 5 i (.int .u8 0) ht hi hz .i64 .i64 N N (by omega) (by omega) (by rw [hb]; omega) (by omega), ?_⟩
  refine ⟨_, _, _, rfl, ?_⟩
  rw [Int.toNat_natCast]
  have hcells : (madeCells (Value.int .u8 0).cells (N * i.size)) = ⟨List.replicate N (.int .u8 0)⟩ := by
    rw [hsz, Nat.mul_one]
    apply Array.ext'
    apply List.ext_getElem
    · simp [madeCells]
    · intro j h1 h2
      simp [madeCells, Value.cells, Nat.mod_one]
  rw [hcells]
  have hsome : (Tryz.prog.info? 5).map (·.size) = some 1 := by rw [hi]; simp [hsz]
  generalize hw1 : w.alloc (.cells ⟨List.replicate N (.int .u8 0)⟩ 5) = w1
  have hg1 : w1.heap[w.heap.size]? = some (.cells ⟨List.replicate N (.int .u8 0)⟩ 5 (0, 0)) := by rw [← hw1]; show (w.heap.push _)[w.heap.size]? = _; simp
  have hk1 : Keep [] w w1 := keep_alloc hw1.symm
  have hend : ∀ (w8 : World), Keep [] w w8 → w8.heap[w.heap.size]? = some (.cells ⟨List.replicate N (.int .u8 a)⟩ 5 (0, 0)) →
      (∃ r0 : List Int, K r0 ∧ (∃ (a0 : Option Addr) (c0 : Nat), (Value.slice (some ⟨w.heap.size, 0, none⟩) N N) = .slice a0 r0.length c0 ∧ r0.length ≤ c0 ∧ SlR (cInt .u8) m w8 a0 r0) ∧ Keep [] w w8) := by
    intro w8 hk hg
    refine ⟨_, h, ⟨some ⟨w.heap.size, 0, none⟩, N, by simp, by simp, .inr ⟨_, _, rfl, fun hmm => Nat.lt_irrefl _ (hm _ hmm), ?_, el_nums _ _ _⟩⟩, hk⟩
    intro j hj
    rw [add_mk, Nat.zero_add]
    have hj' : j < N := by simpa using hj
    simp [World.cell?, hg, hj']
  by_cases hN : N = 0
  · subst hN
    refine ⟨_, _, run_copy_none (P := Tryz.prog) w1 _ _ _ _ _ _ _ _ _ _ ht hsome (by simp), ⟨_, rfl, fun n1 w8 => n1 = 0 ∧ w1 = w8, fun _ _ => 0, ⟨rfl, rfl⟩, ?_⟩⟩
    rintro _ _ _ ⟨rfl, rfl⟩
    exact cond_f (by simp) (hend _ hk1 hg1)
  · obtain ⟨p, x, cs, rfl, hx0, hat, hrep⟩ := hx.elem (i := 0) (by simp)
    simp at hx0
    subst hx0
    have hcs : cs = [.int .u8 a] := hrep
    subst hcs
    have hat1 : CellsAt w1 (p.add 0) [.int .u8 a] := hat.held hk1 (by simp)
    refine ⟨_, _, run_copy_row Tryz.prog w1 _ _ _ _ w.heap.size 0 N N p 1 xC ⟨List.replicate N (.int .u8 0)⟩ 5 [.int .u8 a] ht hsome hg1 (by show 1 = min 1 N; omega) (fun j v hj => ?_) (by simp; omega) (by simp [Value.oneCell']), ?_⟩
    · cases j with
      | zero =>
        simp at hj
        subst hj
        have := hat1 0 (by simp)
        simpa [Addr.add] using this
      | succ j => simp at hj
    · refine ⟨_, rfl, fun n1 w8 => ∃ q : Nat, n1 = q ∧ 1 ≤ q ∧ q ≤ N ∧ Keep [] w w8 ∧ w8.heap[w.heap.size]? = some (.cells ⟨List.replicate q (.int .u8 a) ++ List.replicate (N - q) (.int .u8 0)⟩ 5 (0, 0)), fun n1 _ => N - n1.toNat, ⟨1, rfl, by omega, by omega, row_keep hk1 (Nat.le_refl _), ?_⟩, ?_⟩
      · rw [setRow_heap _ _ _ _ _ _ hg1]
        simp
      · rintro _ _ w8 ⟨q, rfl, hq1, hqN, hk, hg⟩
        refine cond_intro (fun hc => ?_) fun hc => ?_
        · have hqN' : q < N := by simp at hc; omega
          intro w9 hw9
          refine ⟨by omega, by omega, ?_⟩
          have hk9 : Keep [] w w9 := hk.trans (keep_drew hw9)
          have hg9 : w9.heap[w.heap.size]? = some (.cells ⟨List.replicate q (.int .u8 a) ++ List.replicate (N - q) (.int .u8 0)⟩ 5 (0, 0)) := by rw [hw9]; exact hg
          rw [Int.toNat_natCast, subBase_zero]
          have hsub : subBase (some ⟨w.heap.size, 0, none⟩) q N 1 = some ⟨w.heap.size, q, none⟩ := by
            unfold subBase
            rw [if_neg (by omega)]
            simp [add_mk]
          rw [hsub]
          obtain ⟨c, hc1, hc2, hc3, hc4⟩ : ∃ c : Nat, min q (N - q) = c ∧ 1 ≤ c ∧ c ≤ q ∧ c ≤ N - q := ⟨_, rfl, by omega, by omega, by omega⟩
          refine ⟨_, _, run_copy_row Tryz.prog w9 _ _ _ _ w.heap.size q (N - q) (N - q) ⟨w.heap.size, 0, none⟩ (q - 0) (N - 0) _ 5 (List.replicate c (.int .u8 a)) ht hsome hg9 (by rw [List.length_replicate]; show c = min q (N - q); omega) (fun j v hj => ?_) (by simp; omega) (fun v hv => by rw [List.eq_of_mem_replicate hv]; rfl), ?_⟩
          · have hj' := (List.getElem?_eq_some_iff.1 hj).1
            have hv := (List.getElem?_eq_some_iff.1 hj).2
            simp at hj' hv
            rw [add_mk, Nat.zero_add]
            have hjq : j < q := by omega
            simp only [World.cell?, hg9, Option.isSome_none, Bool.false_eq_true, if_false]
            rw [List.getElem?_toArray]
            show (List.replicate q (Value.int .u8 a) ++ List.replicate (N - q) (Value.int .u8 0))[j]? = some v
            rw [List.getElem?_append_left (by simp; omega), ← hv]
            simp [hjq]
          · refine ⟨_, rfl, ?_⟩
            rw [List.length_replicate]
            rw [wrap_in (by omega) (by omega)]
            refine ⟨⟨q + c, by omega, by omega, by omega, row_keep hk9 (Nat.le_refl _), ?_⟩, by show N - ((q : Int) + (c : Int)).toNat < N - (q : Int).toNat; omega⟩
            have hl : (List.replicate q (Value.int .u8 a) ++ List.replicate (N - q) (Value.int .u8 0)).take q ++ List.replicate c (Value.int .u8 a) ++ (List.replicate q (Value.int .u8 a) ++ List.replicate (N - q) (Value.int .u8 0)).drop (q + c) = List.replicate (q + c) (Value.int .u8 a) ++ List.replicate (N - (q + c)) (Value.int .u8 0) := by
              rw [List.take_append_of_le_length (by simp), List.take_of_length_le (by simp), List.drop_append, List.drop_of_length_le (by simp), List.nil_append, List.drop_replicate, List.length_replicate, List.replicate_append_replicate, show N - q - (q + c - q) = N - (q + c) by omega]
            refine (setRow_heap _ _ _ _ _ _ hg9).trans ?_
            rw [← hl]
        · have hq : q = N := by simp at hc; omega
          subst hq
          rw [Nat.sub_self, List.replicate_zero, List.append_nil] at hg
          exact hend _ hk hg
end Go.Proofs.YtldcgfpcnemhpaaGreat
