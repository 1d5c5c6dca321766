/- A part of the proof: conditions of the code, contracts, the plain law. -/
import Derived.Test.YtdbdkdmgfiiljaaRows
import Derived.Test.YtdbdkdmgfiiljaaVcI
namespace Go.Proofs.Ytdbdkdmgfiiljaa
open Go.Vc
def parse_Unit_wp (x0 : Option Addr) (x1 : Nat) (x2 : Nat) (K : Value → World → Prop) (w : World) : Prop :=
 ∀ x3 w1, x3 = w.heap.size → w1 = w.alloc (.cells #[.q 42, .s [], .q 0, .q 0, .q 0] 39) →
 ∀ x4 w2, x4 = w1.heap.size → w2 = w1.alloc (.cells #[.slice x0 x1 x2, .q 0, .q 0, .slice (some ⟨x3, 0, none⟩) 1 1, .q 0] 56) →
 ∃ (I : World → Prop) (x5 : World → Nat), I w2 ∧
 ∀ (_x6 : Nat → Value) (w3 : World), I w3 →
 ∃ (J : Bool → World → Prop),
 (∃ x7, w3.cell? ⟨x4, 4, none⟩ = some (.q x7) ∧
 cond (x7 == 0)
 (Calls Try.prog 19 #[.pointer (some ⟨x4, 0, none⟩), .q 0] w3 (Ret fun x8 w4 =>
 ∃ x9 x10 x11 x12, x8 = .agg #[.q x9, .s x10, .q x11, .q x12] ∧
 J (x9 != 0) w4))
 (J false w3)) ∧
 ∀ (_x13 : Nat → Value) (x14 : Bool) (w5 : World), J x14 w5 →
 cond (x14)
 (Calls Try.prog 20 #[.pointer (some ⟨x4, 0, none⟩)] w5 (Ret fun _x15 w6 =>
 ∃ x16 x17 x18, w6.cell? ⟨x4, 3, none⟩ = some (.slice x16 x17 x18) ∧
 ((0 : Int) ≤ 0 ∧ 0 < (x17 : Int)) ∧
 ptrOr x16 (fun x19 =>
 ∃ x20, w6.cell? ((x19.add (0 * 5)).add 3) = some (.q x20) ∧
 ((0 : Int) ≤ 0 ∧ 0 < (x17 : Int)) ∧
 ptrOr x16 (fun x21 =>
 Writable w6 ((x21.add (0 * 5)).add 3) 1 ∧ ∀ w7, w7 = w6.setCell ((x21.add (0 * 5)).add 3) (.q (IntKind.i64.wrap (x20 + 1))) →
 I w7 ∧ x5 w7 < x5 w3))))
 (∃ x22, w5.cell? ⟨x4, 4, none⟩ = some (.q x22) ∧
 cond (x22 != 0)
 (∀ w8, w8 = w5.drew →
 ∃ x23, w8.cell? ⟨x4, 1, none⟩ = some (.q x23) ∧
 ∃ x24, w8.cell? ⟨x4, 4, none⟩ = some (.q x24) ∧
 K (.tuple #[.slice none 0 0, .q x23, .q x24]) w8)
 (∃ x25 x26 x27, w5.cell? ⟨x4, 3, none⟩ = some (.slice x25 x26 x27) ∧
 K (.tuple #[.slice x25 x26 x27, .q 0, .q 0]) w5))
theorem parse_Unit_ok (x0 : Option Addr) (x1 : Nat) (x2 : Nat) (K : Value → World → Prop) (w : World) (h : parse_Unit_wp x0 x1 x2 K w) : Calls Try.prog 13 #[.slice x0 x1 x2] w (Ret K) :=
 calls_of { loops := [(28, [])], cuts := [(112, [(21, .bool)])] } Try.func13 (by kernel_rfl) h
def parse_Text_wp (x0 : List UInt8) (K : Value → World → Prop) (w : World) : Prop :=
 Calls Try.prog 12 #[.s x0] w (Ret fun x1 w1 =>
 ∃ x2 x3 x4 x5 x6, x1 = .tuple #[.slice x2 x3 x4, .q x5, .q x6] ∧
 cond (x6 != 0)
 (K (.tuple #[.slice none 0 0, .q x5, .q x6]) w1)
 (Calls Try.prog 13 #[.slice x2 x3 x4] w1 (Ret fun x7 w2 =>
 ∃ x8 x9 x10 x11 x12, x7 = .tuple #[.slice x8 x9 x10, .q x11, .q x12] ∧
 cond (x12 != 0)
 (∀ w3, w3 = w2.drew →
 ((0 : Int) ≤ (if (IntKind.i64.wrap ((x3 : Int) - 1)) < x11 then IntKind.i64.wrap ((x3 : Int) - 1) else x11) ∧ (if (IntKind.i64.wrap ((x3 : Int) - 1)) < x11 then IntKind.i64.wrap ((x3 : Int) - 1) else x11) < (x3 : Int)) ∧
 ptrOr x2 (fun x13 =>
 ∃ x14, w3.cell? ((x13.add ((if (IntKind.i64.wrap ((x3 : Int) - 1)) < x11 then IntKind.i64.wrap ((x3 : Int) - 1) else x11).toNat * 4)).add 3) = some (.q x14) ∧
 K (.tuple #[.slice none 0 0, .q x14, .q x12]) w3))
 (K (.tuple #[.slice x8 x9 x10, .q 0, .q 0]) w2))))
theorem parse_Text_ok (x0 : List UInt8) (K : Value → World → Prop) (w : World) (h : parse_Text_wp x0 K w) : Calls Try.prog 7 #[.s x0] w (Ret K) :=
 calls_of {} Try.func7 (by kernel_rfl) h
def parse_reader_see_wp (x0 : Nat) (x1 : Int) (K : Value → World → Prop) (w : World) : Prop :=
 ∀ x2 w1, x2 = w.heap.size → w1 = w.alloc (.cells #[.q 0, .s [], .q 0, .q 0] 44) →
 ∀ w2, w2 = w1.drew →
 ∃ x3, w2.cell? ⟨x0, 1, none⟩ = some (.q x3) ∧
 ∃ x4 x5 x6, w2.cell? ⟨x0, 0, none⟩ = some (.slice x4 x5 x6) ∧
 cond (decide ((IntKind.i64.wrap (x3 + x1)) < (x5 : Int)))
 (∀ w3, w3 = w2.drew →
 ∃ (S : World → Prop), S w3 ∧
 ∃ x7 x8 x9, (∀ u, S u → u.cell? ⟨x0, 0, none⟩ = some (.slice x7 x8 x9)) ∧
 ∃ x10, (∀ u, S u → u.cell? ⟨x0, 1, none⟩ = some (.q x10)) ∧
 ((0 : Int) ≤ (IntKind.i64.wrap (x10 + x1)) ∧ (IntKind.i64.wrap (x10 + x1)) < (x8 : Int)) ∧
 ptrOr x7 (fun x11 =>
 ∃ x12 x13 x14 x15, (∀ u, S u → CellsAt u (x11.add ((IntKind.i64.wrap (x10 + x1)).toNat * 4)) [.q x12, .s x13, .q x14, .q x15]) ∧
 Writable w3 ⟨x2, 0, none⟩ 4 ∧ ∀ w4, w4 = setCells w3 ⟨x2, 0, none⟩ [.q x12, .s x13, .q x14, .q x15] →
 ∃ x16 x17 x18 x19, CellsAt w4 ⟨x2, 0, none⟩ [.q x16, .s x17, .q x18, .q x19] ∧
 K (.agg #[.q x16, .s x17, .q x18, .q x19]) w4))
 (Writable w2 ⟨x2, 0, none⟩ 4 ∧ ∀ w5, w5 = setCells w2 ⟨x2, 0, none⟩ [.q 0, .s [], .q 0, .q 0] →
 ∃ x20 x21 x22 x23, CellsAt w5 ⟨x2, 0, none⟩ [.q x20, .s x21, .q x22, .q x23] ∧
 K (.agg #[.q x20, .s x21, .q x22, .q x23]) w5)
theorem parse_reader_see_ok (x0 : Nat) (x1 : Int) (K : Value → World → Prop) (w : World) (h : parse_reader_see_wp x0 x1 K w) : Calls Try.prog 19 #[.pointer (some ⟨x0, 0, none⟩), .q x1] w (Ret K) :=
 calls_of {} Try.func19 (by kernel_rfl) h
def parse_reader_is_wp (x0 : Nat) (x1 : Int) (x2 : List UInt8) (K : Value → World → Prop) (w : World) : Prop :=
 Calls Try.prog 19 #[.pointer (some ⟨x0, 0, none⟩), .q x1] w (Ret fun x3 w1 =>
 ∃ x4 x5 x6 x7, x3 = .agg #[.q x4, .s x5, .q x6, .q x7] ∧
 ∀ x8 w2, x8 = w1.heap.size → w2 = w1.alloc (.cells #[.q 0, .s [], .q 0, .q 0] 44) →
 Writable w2 ⟨x8, 0, none⟩ 4 ∧ ∀ w3, w3 = setCells w2 ⟨x8, 0, none⟩ [.q x4, .s x5, .q x6, .q x7] →
 ∃ x9, w3.cell? ⟨x8, 0, none⟩ = some (.q x9) ∧
 cond (x9 == 3)
 (∃ x10, w3.cell? ⟨x8, 1, none⟩ = some (.s x10) ∧
 K (.bool (x10 == x2)) w3)
 (∃ x11, w3.cell? ⟨x8, 0, none⟩ = some (.q x11) ∧
 cond (x11 == 4)
 (∃ x12, w3.cell? ⟨x8, 1, none⟩ = some (.s x12) ∧
 K (.bool (x12 == x2)) w3)
 (K (.bool false) w3)))
theorem parse_reader_is_ok (x0 : Nat) (x1 : Int) (x2 : List UInt8) (K : Value → World → Prop) (w : World) (h : parse_reader_is_wp x0 x1 x2 K w) : Calls Try.prog 67 #[.pointer (some ⟨x0, 0, none⟩), .q x1, .s x2] w (Ret K) :=
 calls_of {} Try.func67 (by kernel_rfl) h
def parse_reader_fail_wp (x0 : Nat) (x1 : Int) (K : Value → World → Prop) (w : World) : Prop :=
 ∃ x2, w.cell? ⟨x0, 4, none⟩ = some (.q x2) ∧
 cond (x2 == 0)
 (Writable w ⟨x0, 4, none⟩ 1 ∧ ∀ w1, w1 = w.setCell ⟨x0, 4, none⟩ (.q x1) →
 K (.tuple #[]) w1)
 (K (.tuple #[]) w)
theorem parse_reader_fail_ok (x0 : Nat) (x1 : Int) (K : Value → World → Prop) (w : World) (h : parse_reader_fail_wp x0 x1 K w) : Calls Try.prog 68 #[.pointer (some ⟨x0, 0, none⟩), .q x1] w (Ret K) :=
 calls_of {} Try.func68 (by kernel_rfl) h
def parse_reader_eat_wp (x0 : Nat) (x1 : List UInt8) (K : Value → World → Prop) (w : World) : Prop :=
 ∃ (J : Bool → World → Prop),
 (∃ x2, w.cell? ⟨x0, 4, none⟩ = some (.q x2) ∧
 cond (x2 != 0)
 (J true w)
 (Calls Try.prog 67 #[.pointer (some ⟨x0, 0, none⟩), .q 0, .s x1] w (Ret fun x3 w1 =>
 ∃ x4, x3 = .bool x4 ∧
 J (!x4) w1))) ∧
 ∀ (_x5 : Nat → Value) (x6 : Bool) (w2 : World), J x6 w2 →
 cond (x6)
 (K (.bool false) w2)
 (∃ x7, w2.cell? ⟨x0, 1, none⟩ = some (.q x7) ∧
 Writable w2 ⟨x0, 1, none⟩ 1 ∧ ∀ w3, w3 = w2.setCell ⟨x0, 1, none⟩ (.q (IntKind.i64.wrap (x7 + 1))) →
 K (.bool true) w3)
theorem parse_reader_eat_ok (x0 : Nat) (x1 : List UInt8) (K : Value → World → Prop) (w : World) (h : parse_reader_eat_wp x0 x1 K w) : Calls Try.prog 43 #[.pointer (some ⟨x0, 0, none⟩), .s x1] w (Ret K) :=
 calls_of { cuts := [(6, [(15, .bool)])] } Try.func43 (by kernel_rfl) h
def parse_reader_must_wp (x0 : Nat) (x1 : Option Addr) (x2 : Nat) (_x3 : Nat) (K : Value → World → Prop) (w : World) : Prop :=
 ∃ (I : Int → World → Prop) (x4 : Int → World → Nat), I 0 w ∧
 ∀ (_x5 : Nat → Value) (x6 : Int) (w1 : World), I x6 w1 →
 cond (decide (x6 < (x2 : Int)))
 (((0 : Int) ≤ x6 ∧ x6 < (x2 : Int)) ∧
 ptrOr x1 (fun x7 =>
 ∃ x8, w1.cell? (x7.add (x6.toNat * 1)) = some (.s x8) ∧
 Calls Try.prog 43 #[.pointer (some ⟨x0, 0, none⟩), .s x8] w1 (Ret fun x9 w2 =>
 ∃ x10, x9 = .bool x10 ∧
 cond (!x10)
 (Calls Try.prog 68 #[.pointer (some ⟨x0, 0, none⟩), .q 11] w2 (Ret fun _x11 w3 =>
 K (.tuple #[]) w3))
 (I (IntKind.i64.wrap (x6 + 1)) w2 ∧ x4 (IntKind.i64.wrap (x6 + 1)) w2 < x4 x6 w1))))
 (K (.tuple #[]) w1)
theorem parse_reader_must_ok (x0 : Nat) (x1 : Option Addr) (x2 : Nat) (x3 : Nat) (K : Value → World → Prop) (w : World) (h : parse_reader_must_wp x0 x1 x2 x3 K w) : Calls Try.prog 46 #[.pointer (some ⟨x0, 0, none⟩), .slice x1 x2 x3] w (Ret K) :=
 calls_of { loops := [(6, [(8, .int .i64)])] } Try.func46 (by kernel_rfl) h
def parse_reader_name_wp (x0 : Nat) (K : Value → World → Prop) (w : World) : Prop :=
 Calls Try.prog 19 #[.pointer (some ⟨x0, 0, none⟩), .q 0] w (Ret fun x1 w1 =>
 ∃ x2 x3 x4 x5, x1 = .agg #[.q x2, .s x3, .q x4, .q x5] ∧
 ∀ x6 w2, x6 = w1.heap.size → w2 = w1.alloc (.cells #[.q 0, .s [], .q 0, .q 0] 44) →
 Writable w2 ⟨x6, 0, none⟩ 4 ∧ ∀ w3, w3 = setCells w2 ⟨x6, 0, none⟩ [.q x2, .s x3, .q x4, .q x5] →
 ∃ (J : Bool → World → Prop),
 (∃ x7, w3.cell? ⟨x0, 4, none⟩ = some (.q x7) ∧
 cond (x7 != 0)
 (J true w3)
 (∃ x8, w3.cell? ⟨x6, 0, none⟩ = some (.q x8) ∧
 J (x8 != 1) w3)) ∧
 ∀ (_x9 : Nat → Value) (x10 : Bool) (w4 : World), J x10 w4 →
 cond (x10)
 (Calls Try.prog 68 #[.pointer (some ⟨x0, 0, none⟩), .q 11] w4 (Ret fun _x11 w5 =>
 K (.s []) w5))
 (∃ x12, w4.cell? ⟨x0, 1, none⟩ = some (.q x12) ∧
 Writable w4 ⟨x0, 1, none⟩ 1 ∧ ∀ w6, w6 = w4.setCell ⟨x0, 1, none⟩ (.q (IntKind.i64.wrap (x12 + 1))) →
 ∃ x13, w6.cell? ⟨x6, 1, none⟩ = some (.s x13) ∧
 K (.s x13) w6))
theorem parse_reader_name_ok (x0 : Nat) (K : Value → World → Prop) (w : World) (h : parse_reader_name_wp x0 K w) : Calls Try.prog 44 #[.pointer (some ⟨x0, 0, none⟩)] w (Ret K) :=
 calls_of { cuts := [(14, [(15, .bool)])] } Try.func44 (by kernel_rfl) h
def parse_reader_open_wp (x0 : Nat) (x1 : Int) (K : Value → World → Prop) (w : World) : Prop :=
 ∃ (J : World → Prop),
 (∀ w1, w1 = w.drew →
 ∃ (S : World → Prop), S w1 ∧
 ∃ x2 x3 x4, (∀ u, S u → u.cell? ⟨x0, 3, none⟩ = some (.slice x2 x3 x4)) ∧
 Calls Try.prog 19 #[.pointer (some ⟨x0, 0, none⟩), .q 0] w1 (Ret fun x5 w2 =>
 ∃ x6 x7 x8 x9, x5 = .agg #[.q x6, .s x7, .q x8, .q x9] ∧
 S w2 ∧
 ∀ x10 w3, x10 = w2.heap.size → w3 = w2.alloc (.cells #[.q x1, .s [], .q 0, .q 0, .q x9] 39) →
 S w3 ∧
 SemOk Try.prog (Builtin.append_ #[23, 23] 23 #[.slice x2 x3 x4, .slice (some ⟨x10, 0, none⟩) 1 1]) (fun x11 w4 =>
 ∃ x12 x13 x14, x11 = .slice x12 x13 x14 ∧
 Writable w4 ⟨x0, 3, none⟩ 1 ∧ ∀ w5, w5 = w4.setCell ⟨x0, 3, none⟩ (.slice x12 x13 x14) →
 J w5) w3)) ∧
 ∀ (_x15 : Nat → Value) (w6 : World), J w6 →
 ∃ x16 x17 x18, w6.cell? ⟨x0, 3, none⟩ = some (.slice x16 x17 x18) ∧
 K (.q (IntKind.i64.wrap ((x17 : Int) - 1))) w6
theorem parse_reader_open_ok (x0 : Nat) (x1 : Int) (K : Value → World → Prop) (w : World) (h : parse_reader_open_wp x0 x1 K w) : Calls Try.prog 42 #[.pointer (some ⟨x0, 0, none⟩), .q x1] w (Ret K) :=
 calls_of { cuts := [(3, [])] } Try.func42 (by kernel_rfl) h
def parse_reader_term_wp (x0 : Nat) (x1 : Int) (K : Value → World → Prop) (w : World) : Prop :=
 ∃ x2, w.cell? ⟨x0, 4, none⟩ = some (.q x2) ∧
 cond (x2 != 0)
 (K (.tuple #[]) w)
 (∃ (J : Option Addr → Nat → Nat → Int → Int → World → Prop),
 (∀ w1, w1 = w.drew →
 ∃ (S : World → Prop), S w1 ∧
 ∃ x3 x4 x5, (∀ u, S u → u.cell? ⟨x0, 0, none⟩ = some (.slice x3 x4 x5)) ∧
 ∃ x6, (∀ u, S u → u.cell? ⟨x0, 1, none⟩ = some (.q x6)) ∧
 Calls Try.prog 84 #[.slice x3 x4 x5, .q x6] w1 (Ret fun x7 w2 =>
 ∃ x8 x9 x10 x11 x12, x7 = .tuple #[.slice x8 x9 x10, .q x11, .q x12] ∧
 J x8 x9 x10 x11 x12 w2)) ∧
 ∀ (_x13 : Nat → Value) (x14 : Option Addr) (x15 : Nat) (x16 : Nat) (x17 : Int) (x18 : Int) (w3 : World), J x14 x15 x16 x17 x18 w3 →
 Writable w3 ⟨x0, 1, none⟩ 1 ∧ ∀ w4, w4 = w3.setCell ⟨x0, 1, none⟩ (.q x17) →
 cond (x18 != 0)
 (Calls Try.prog 68 #[.pointer (some ⟨x0, 0, none⟩), .q x18] w4 (Ret fun _x19 w5 =>
 K (.tuple #[]) w5))
 (∃ x20 x21 x22, w4.cell? ⟨x0, 3, none⟩ = some (.slice x20 x21 x22) ∧
 SemOk Try.prog (Builtin.append_ #[23, 23] 23 #[.slice x20 x21 x22, .slice x14 x15 x16]) (fun x23 w6 =>
 ∃ x24 x25 x26, x23 = .slice x24 x25 x26 ∧
 Writable w6 ⟨x0, 3, none⟩ 1 ∧ ∀ w7, w7 = w6.setCell ⟨x0, 3, none⟩ (.slice x24 x25 x26) →
 ∃ x27 x28 x29, w7.cell? ⟨x0, 3, none⟩ = some (.slice x27 x28 x29) ∧
 ((0 : Int) ≤ x1 ∧ x1 < (x28 : Int)) ∧
 ptrOr x27 (fun x30 =>
 ∃ x31, w7.cell? ((x30.add (x1.toNat * 5)).add 3) = some (.q x31) ∧
 ((0 : Int) ≤ x1 ∧ x1 < (x28 : Int)) ∧
 ptrOr x27 (fun x32 =>
 Writable w7 ((x32.add (x1.toNat * 5)).add 3) 1 ∧ ∀ w8, w8 = w7.setCell ((x32.add (x1.toNat * 5)).add 3) (.q (IntKind.i64.wrap (x31 + 1))) →
 K (.tuple #[]) w8))) w4))
theorem parse_reader_term_ok (x0 : Nat) (x1 : Int) (K : Value → World → Prop) (w : World) (h : parse_reader_term_wp x0 x1 K w) : Calls Try.prog 77 #[.pointer (some ⟨x0, 0, none⟩), .q x1] w (Ret K) :=
 calls_of { cuts := [(3, [(4, .slice), (5, .int .i64), (6, .int .i64)])] } Try.func77 (by kernel_rfl) h
def parse_reader_ref_wp (x0 : Nat) (x1 : Int) (K : Value → World → Prop) (w : World) : Prop :=
 Calls Try.prog 42 #[.pointer (some ⟨x0, 0, none⟩), .q 33] w (Ret fun x2 w1 =>
 ∃ x3, x2 = .q x3 ∧
 ∃ (J : World → Prop),
 (∀ w2, w2 = w1.drew →
 ∃ (S : World → Prop), S w2 ∧
 ∃ x4 x5 x6, (∀ u, S u → u.cell? ⟨x0, 3, none⟩ = some (.slice x4 x5 x6)) ∧
 Calls Try.prog 44 #[.pointer (some ⟨x0, 0, none⟩)] w2 (Ret fun x7 w3 =>
 ∃ x8, x7 = .s x8 ∧
 S w3 ∧
 ((0 : Int) ≤ x3 ∧ x3 < (x5 : Int)) ∧
 ptrOr x4 (fun x9 =>
 Writable w3 ((x9.add (x3.toNat * 5)).add 1) 1 ∧ ∀ w4, w4 = w3.setCell ((x9.add (x3.toNat * 5)).add 1) (.s x8) →
 J w4))) ∧
 ∀ (_x10 : Nat → Value) (w5 : World), J w5 →
 ∃ (J1 : World → Prop),
 (Calls Try.prog 43 #[.pointer (some ⟨x0, 0, none⟩), .s [91]] w5 (Ret fun x11 w6 =>
 ∃ x12, x11 = .bool x12 ∧
 cond (x12)
 (Calls Try.prog 77 #[.pointer (some ⟨x0, 0, none⟩), .q x3] w6 (Ret fun _x13 w7 =>
 ∀ x14 w8, x14 = w7.heap.size → w8 = w7.alloc (.cells #[.s [93]] 9) →
 Calls Try.prog 46 #[.pointer (some ⟨x0, 0, none⟩), .slice (some ⟨x14, 0, none⟩) 1 1] w8 (Ret fun _x15 w9 =>
 J1 w9)))
 (J1 w6))) ∧
 ∀ (_x16 : Nat → Value) (w10 : World), J1 w10 →
 ∃ x17 x18 x19, w10.cell? ⟨x0, 3, none⟩ = some (.slice x17 x18 x19) ∧
 ((0 : Int) ≤ x1 ∧ x1 < (x18 : Int)) ∧
 ptrOr x17 (fun x20 =>
 ∃ x21, w10.cell? ((x20.add (x1.toNat * 5)).add 3) = some (.q x21) ∧
 ((0 : Int) ≤ x1 ∧ x1 < (x18 : Int)) ∧
 ptrOr x17 (fun x22 =>
 Writable w10 ((x22.add (x1.toNat * 5)).add 3) 1 ∧ ∀ w11, w11 = w10.setCell ((x22.add (x1.toNat * 5)).add 3) (.q (IntKind.i64.wrap (x21 + 1))) →
 K (.tuple #[]) w11)))
theorem parse_reader_ref_ok (x0 : Nat) (x1 : Int) (K : Value → World → Prop) (w : World) (h : parse_reader_ref_wp x0 x1 K w) : Calls Try.prog 83 #[.pointer (some ⟨x0, 0, none⟩), .q x1] w (Ret K) :=
 calls_of { cuts := [(3, []), (7, [])] } Try.func83 (by kernel_rfl) h
def parse_reader_block_wp (x0 : Nat) (x1 : Int) (K : Value → World → Prop) (w : World) : Prop :=
 ∃ (J : World → Prop),
 (∃ (J1 : Bool → World → Prop),
 (∃ x2, w.cell? ⟨x0, 4, none⟩ = some (.q x2) ∧
 cond (x2 == 0)
 (Calls Try.prog 67 #[.pointer (some ⟨x0, 0, none⟩), .q 0, .s [123]] w (Ret fun x3 w1 =>
 ∃ x4, x3 = .bool x4 ∧
 cond (x4)
 (∃ x5, w1.cell? ⟨x0, 2, none⟩ = some (.q x5) ∧
 J1 (x5 == 24) w1)
 (J1 false w1)))
 (J1 false w)) ∧
 ∀ (_x6 : Nat → Value) (x7 : Bool) (w2 : World), J1 x7 w2 →
 cond (x7)
 (Calls Try.prog 68 #[.pointer (some ⟨x0, 0, none⟩), .q 5] w2 (Ret fun _x8 w3 =>
 J w3))
 (J w2)) ∧
 ∀ (_x9 : Nat → Value) (w4 : World), J w4 →
 Calls Try.prog 42 #[.pointer (some ⟨x0, 0, none⟩), .q 32] w4 (Ret fun x10 w5 =>
 ∃ x11, x10 = .q x11 ∧
 ∀ x12 w6, x12 = w5.heap.size → w6 = w5.alloc (.cells #[.s [123]] 9) →
 Calls Try.prog 46 #[.pointer (some ⟨x0, 0, none⟩), .slice (some ⟨x12, 0, none⟩) 1 1] w6 (Ret fun _x13 w7 =>
 ∃ x14, w7.cell? ⟨x0, 2, none⟩ = some (.q x14) ∧
 Writable w7 ⟨x0, 2, none⟩ 1 ∧ ∀ w8, w8 = w7.setCell ⟨x0, 2, none⟩ (.q (IntKind.i64.wrap (x14 + 1))) →
 ∃ (I : World → Prop) (x15 : World → Nat), I w8 ∧
 ∀ (_x16 : Nat → Value) (w9 : World), I w9 →
 ∃ (J2 : Bool → World → Prop),
 (∃ x17, w9.cell? ⟨x0, 4, none⟩ = some (.q x17) ∧
 cond (x17 == 0)
 (Calls Try.prog 67 #[.pointer (some ⟨x0, 0, none⟩), .q 0, .s [125]] w9 (Ret fun x18 w10 =>
 ∃ x19, x18 = .bool x19 ∧
 J2 (!x19) w10))
 (J2 false w9)) ∧
 ∀ (_x20 : Nat → Value) (x21 : Bool) (w11 : World), J2 x21 w11 →
 cond (x21)
 (Calls Try.prog 69 #[.pointer (some ⟨x0, 0, none⟩)] w11 (Ret fun _x22 w12 =>
 ∃ x23 x24 x25, w12.cell? ⟨x0, 3, none⟩ = some (.slice x23 x24 x25) ∧
 ((0 : Int) ≤ x11 ∧ x11 < (x24 : Int)) ∧
 ptrOr x23 (fun x26 =>
 ∃ x27, w12.cell? ((x26.add (x11.toNat * 5)).add 3) = some (.q x27) ∧
 ((0 : Int) ≤ x11 ∧ x11 < (x24 : Int)) ∧
 ptrOr x23 (fun x28 =>
 Writable w12 ((x28.add (x11.toNat * 5)).add 3) 1 ∧ ∀ w13, w13 = w12.setCell ((x28.add (x11.toNat * 5)).add 3) (.q (IntKind.i64.wrap (x27 + 1))) →
 I w13 ∧ x15 w13 < x15 w9))))
 (∀ x29 w14, x29 = w11.heap.size → w14 = w11.alloc (.cells #[.s [125]] 9) →
 Calls Try.prog 46 #[.pointer (some ⟨x0, 0, none⟩), .slice (some ⟨x29, 0, none⟩) 1 1] w14 (Ret fun _x30 w15 =>
 ∃ x31, w15.cell? ⟨x0, 2, none⟩ = some (.q x31) ∧
 Writable w15 ⟨x0, 2, none⟩ 1 ∧ ∀ w16, w16 = w15.setCell ⟨x0, 2, none⟩ (.q (IntKind.i64.wrap (x31 - 1))) →
 ∃ x32 x33 x34, w16.cell? ⟨x0, 3, none⟩ = some (.slice x32 x33 x34) ∧
 ((0 : Int) ≤ x1 ∧ x1 < (x33 : Int)) ∧
 ptrOr x32 (fun x35 =>
 ∃ x36, w16.cell? ((x35.add (x1.toNat * 5)).add 3) = some (.q x36) ∧
 ((0 : Int) ≤ x1 ∧ x1 < (x33 : Int)) ∧
 ptrOr x32 (fun x37 =>
 Writable w16 ((x37.add (x1.toNat * 5)).add 3) 1 ∧ ∀ w17, w17 = w16.setCell ((x37.add (x1.toNat * 5)).add 3) (.q (IntKind.i64.wrap (x36 + 1))) →
 K (.tuple #[]) w17))))))
theorem parse_reader_block_ok (x0 : Nat) (x1 : Int) (K : Value → World → Prop) (w : World) (h : parse_reader_block_wp x0 x1 K w) : Calls Try.prog 48 #[.pointer (some ⟨x0, 0, none⟩), .q x1] w (Ret K) :=
 calls_of { loops := [(124, [])], cuts := [(1, []), (2, [(20, .bool)]), (496, [(44, .bool)])] } Try.func48 (by kernel_rfl) h
def parse_reader_comm_wp (x0 : Nat) (x1 : Int) (x2 : Int) (x3 : Int) (K : Value → World → Prop) (w : World) : Prop :=
 Calls Try.prog 83 #[.pointer (some ⟨x0, 0, none⟩), .q x1] w (Ret fun _x4 w1 =>
 Calls Try.prog 43 #[.pointer (some ⟨x0, 0, none⟩), .s [33]] w1 (Ret fun x5 w2 =>
 ∃ x6, x5 = .bool x6 ∧
 cond (x6)
 (∃ x7 x8 x9, w2.cell? ⟨x0, 3, none⟩ = some (.slice x7 x8 x9) ∧
 ((0 : Int) ≤ x1 ∧ x1 < (x8 : Int)) ∧
 ptrOr x7 (fun x10 =>
 Writable w2 (x10.add (x1.toNat * 5)) 1 ∧ ∀ w3, w3 = w2.setCell (x10.add (x1.toNat * 5)) (.q x2) →
 Calls Try.prog 77 #[.pointer (some ⟨x0, 0, none⟩), .q x1] w3 (Ret fun _x11 w4 =>
 K (.tuple #[]) w4)))
 (Calls Try.prog 43 #[.pointer (some ⟨x0, 0, none⟩), .s [63]] w2 (Ret fun x12 w5 =>
 ∃ x13, x12 = .bool x13 ∧
 cond (x13)
 (∃ x14 x15 x16, w5.cell? ⟨x0, 3, none⟩ = some (.slice x14 x15 x16) ∧
 ((0 : Int) ≤ x1 ∧ x1 < (x15 : Int)) ∧
 ptrOr x14 (fun x17 =>
 Writable w5 (x17.add (x1.toNat * 5)) 1 ∧ ∀ w6, w6 = w5.setCell (x17.add (x1.toNat * 5)) (.q x3) →
 ∀ w7, w7 = w6.drew →
 ∃ (S : World → Prop), S w7 ∧
 ∃ x18 x19 x20, (∀ u, S u → u.cell? ⟨x0, 3, none⟩ = some (.slice x18 x19 x20)) ∧
 Calls Try.prog 44 #[.pointer (some ⟨x0, 0, none⟩)] w7 (Ret fun x21 w8 =>
 ∃ x22, x21 = .s x22 ∧
 S w8 ∧
 ((0 : Int) ≤ x1 ∧ x1 < (x19 : Int)) ∧
 ptrOr x18 (fun x23 =>
 Writable w8 ((x23.add (x1.toNat * 5)).add 1) 1 ∧ ∀ w9, w9 = w8.setCell ((x23.add (x1.toNat * 5)).add 1) (.s x22) →
 K (.tuple #[]) w9))))
 (Calls Try.prog 68 #[.pointer (some ⟨x0, 0, none⟩), .q 11] w5 (Ret fun _x24 w10 =>
 K (.tuple #[]) w10))))))
theorem parse_reader_comm_ok (x0 : Nat) (x1 : Int) (x2 : Int) (x3 : Int) (K : Value → World → Prop) (w : World) (h : parse_reader_comm_wp x0 x1 x2 x3 K w) : Calls Try.prog 76 #[.pointer (some ⟨x0, 0, none⟩), .q x1, .q x2, .q x3] w (Ret K) :=
 calls_of {} Try.func76 (by kernel_rfl) h
def parse_reader_set_wp (x0 : Nat) (x1 : Int) (K : Value → World → Prop) (w : World) : Prop :=
 ∃ (J : World → Prop),
 (∀ w1, w1 = w.drew →
 ∃ (S : World → Prop), S w1 ∧
 ∃ x2 x3 x4, (∀ u, S u → u.cell? ⟨x0, 3, none⟩ = some (.slice x2 x3 x4)) ∧
 Calls Try.prog 44 #[.pointer (some ⟨x0, 0, none⟩)] w1 (Ret fun x5 w2 =>
 ∃ x6, x5 = .s x6 ∧
 S w2 ∧
 ((0 : Int) ≤ x1 ∧ x1 < (x3 : Int)) ∧
 ptrOr x2 (fun x7 =>
 Writable w2 ((x7.add (x1.toNat * 5)).add 1) 1 ∧ ∀ w3, w3 = w2.setCell ((x7.add (x1.toNat * 5)).add 1) (.s x6) →
 J w3))) ∧
 ∀ (_x8 : Nat → Value) (w4 : World), J w4 →
 ∀ x9 w5, x9 = w4.heap.size → w5 = w4.alloc (.cells #[.s [61]] 9) →
 Calls Try.prog 46 #[.pointer (some ⟨x0, 0, none⟩), .slice (some ⟨x9, 0, none⟩) 1 1] w5 (Ret fun _x10 w6 =>
 Calls Try.prog 43 #[.pointer (some ⟨x0, 0, none⟩), .s [114, 97, 110, 100, 111, 109]] w6 (Ret fun x11 w7 =>
 ∃ x12, x11 = .bool x12 ∧
 cond (x12)
 (∃ x13 x14 x15, w7.cell? ⟨x0, 3, none⟩ = some (.slice x13 x14 x15) ∧
 ((0 : Int) ≤ x1 ∧ x1 < (x14 : Int)) ∧
 ptrOr x13 (fun x16 =>
 Writable w7 (x16.add (x1.toNat * 5)) 1 ∧ ∀ w8, w8 = w7.setCell (x16.add (x1.toNat * 5)) (.q 20) →
 ∀ x17 w9, x17 = w8.heap.size → w9 = w8.alloc (.cells #[.s [40]] 9) →
 Calls Try.prog 46 #[.pointer (some ⟨x0, 0, none⟩), .slice (some ⟨x17, 0, none⟩) 1 1] w9 (Ret fun _x18 w10 =>
 Calls Try.prog 77 #[.pointer (some ⟨x0, 0, none⟩), .q x1] w10 (Ret fun _x19 w11 =>
 ∀ x20 w12, x20 = w11.heap.size → w12 = w11.alloc (.cells #[.s [41]] 9) →
 Calls Try.prog 46 #[.pointer (some ⟨x0, 0, none⟩), .slice (some ⟨x20, 0, none⟩) 1 1] w12 (Ret fun _x21 w13 =>
 K (.tuple #[]) w13)))))
 (Calls Try.prog 77 #[.pointer (some ⟨x0, 0, none⟩), .q x1] w7 (Ret fun _x22 w14 =>
 K (.tuple #[]) w14))))
theorem parse_reader_set_ok (x0 : Nat) (x1 : Int) (K : Value → World → Prop) (w : World) (h : parse_reader_set_wp x0 x1 K w) : Calls Try.prog 75 #[.pointer (some ⟨x0, 0, none⟩), .q x1] w (Ret K) :=
 calls_of { cuts := [(1, [])] } Try.func75 (by kernel_rfl) h
def parse_reader_clause_wp (x0 : Nat) (K : Value → World → Prop) (w : World) : Prop :=
 Calls Try.prog 42 #[.pointer (some ⟨x0, 0, none⟩), .q 37] w (Ret fun x1 w1 =>
 ∃ x2, x1 = .q x2 ∧
 Calls Try.prog 43 #[.pointer (some ⟨x0, 0, none⟩), .s [101, 108, 115, 101]] w1 (Ret fun x3 w2 =>
 ∃ x4, x3 = .bool x4 ∧
 cond (x4)
 (Calls Try.prog 48 #[.pointer (some ⟨x0, 0, none⟩), .q x2] w2 (Ret fun _x5 w3 =>
 K (.tuple #[]) w3))
 (∀ x6 w4, x6 = w2.heap.size → w4 = w2.alloc (.cells #[.s [99, 97, 115, 101]] 9) →
 Calls Try.prog 46 #[.pointer (some ⟨x0, 0, none⟩), .slice (some ⟨x6, 0, none⟩) 1 1] w4 (Ret fun _x7 w5 =>
 ∃ (J : World → Prop),
 (Calls Try.prog 43 #[.pointer (some ⟨x0, 0, none⟩), .s [119, 104, 101, 110]] w5 (Ret fun x8 w6 =>
 ∃ x9, x8 = .bool x9 ∧
 cond (x9)
 (∃ x10 x11 x12, w6.cell? ⟨x0, 3, none⟩ = some (.slice x10 x11 x12) ∧
 ((0 : Int) ≤ x2 ∧ x2 < (x11 : Int)) ∧
 ptrOr x10 (fun x13 =>
 Writable w6 ((x13.add (x2.toNat * 5)).add 2) 1 ∧ ∀ w7, w7 = w6.setCell ((x13.add (x2.toNat * 5)).add 2) (.q 1) →
 Calls Try.prog 77 #[.pointer (some ⟨x0, 0, none⟩), .q x2] w7 (Ret fun _x14 w8 =>
 ∀ x15 w9, x15 = w8.heap.size → w9 = w8.alloc (.cells #[.s [58]] 9) →
 Calls Try.prog 46 #[.pointer (some ⟨x0, 0, none⟩), .slice (some ⟨x15, 0, none⟩) 1 1] w9 (Ret fun _x16 w10 =>
 J w10))))
 (J w6))) ∧
 ∀ (_x17 : Nat → Value) (w11 : World), J w11 →
 ∃ (J1 : World → Prop),
 (Calls Try.prog 43 #[.pointer (some ⟨x0, 0, none⟩), .s [97, 102, 116, 101, 114]] w11 (Ret fun x18 w12 =>
 ∃ x19, x18 = .bool x19 ∧
 cond (x19)
 (∃ x20 x21 x22, w12.cell? ⟨x0, 3, none⟩ = some (.slice x20 x21 x22) ∧
 ((0 : Int) ≤ x2 ∧ x2 < (x21 : Int)) ∧
 ptrOr x20 (fun x23 =>
 Writable w12 (x23.add (x2.toNat * 5)) 1 ∧ ∀ w13, w13 = w12.setCell (x23.add (x2.toNat * 5)) (.q 36) →
 Calls Try.prog 77 #[.pointer (some ⟨x0, 0, none⟩), .q x2] w13 (Ret fun _x24 w14 =>
 J1 w14)))
 (Calls Try.prog 76 #[.pointer (some ⟨x0, 0, none⟩), .q x2, .q 35, .q 34] w12 (Ret fun _x25 w15 =>
 J1 w15)))) ∧
 ∀ (_x26 : Nat → Value) (w16 : World), J1 w16 →
 Calls Try.prog 48 #[.pointer (some ⟨x0, 0, none⟩), .q x2] w16 (Ret fun _x27 w17 =>
 K (.tuple #[]) w17)))))
theorem parse_reader_clause_ok (x0 : Nat) (K : Value → World → Prop) (w : World) (h : parse_reader_clause_wp x0 K w) : Calls Try.prog 79 #[.pointer (some ⟨x0, 0, none⟩)] w (Ret K) :=
 calls_of { cuts := [(15, []), (31, [])] } Try.func79 (by kernel_rfl) h
def parse_reader_args_wp (x0 : Nat) (x1 : Int) (K : Value → World → Prop) (w : World) : Prop :=
 ∀ x2 w1, x2 = w.heap.size → w1 = w.alloc (.cells #[.s [40]] 9) →
 Calls Try.prog 46 #[.pointer (some ⟨x0, 0, none⟩), .slice (some ⟨x2, 0, none⟩) 1 1] w1 (Ret fun _x3 w2 =>
 Calls Try.prog 43 #[.pointer (some ⟨x0, 0, none⟩), .s [41]] w2 (Ret fun x4 w3 =>
 ∃ x5, x4 = .bool x5 ∧
 cond (!x5)
 (Calls Try.prog 77 #[.pointer (some ⟨x0, 0, none⟩), .q x1] w3 (Ret fun _x6 w4 =>
 ∃ (I : World → Prop) (x7 : World → Nat), I w4 ∧
 ∀ (_x8 : Nat → Value) (w5 : World), I w5 →
 Calls Try.prog 43 #[.pointer (some ⟨x0, 0, none⟩), .s [44]] w5 (Ret fun x9 w6 =>
 ∃ x10, x9 = .bool x10 ∧
 cond (x10)
 (Calls Try.prog 77 #[.pointer (some ⟨x0, 0, none⟩), .q x1] w6 (Ret fun _x11 w7 =>
 I w7 ∧ x7 w7 < x7 w5))
 (∀ x12 w8, x12 = w6.heap.size → w8 = w6.alloc (.cells #[.s [41]] 9) →
 Calls Try.prog 46 #[.pointer (some ⟨x0, 0, none⟩), .slice (some ⟨x12, 0, none⟩) 1 1] w8 (Ret fun _x13 w9 =>
 K (.tuple #[]) w9)))))
 (K (.tuple #[]) w3)))
theorem parse_reader_args_ok (x0 : Nat) (x1 : Int) (K : Value → World → Prop) (w : World) (h : parse_reader_args_wp x0 x1 K w) : Calls Try.prog 78 #[.pointer (some ⟨x0, 0, none⟩), .q x1] w (Ret K) :=
 calls_of { loops := [(116, [])] } Try.func78 (by kernel_rfl) h
def parse_reader_stmt_wp (x0 : Nat) (K : Value → World → Prop) (w : World) : Prop :=
 Calls Try.prog 19 #[.pointer (some ⟨x0, 0, none⟩), .q 0] w (Ret fun x1 w1 =>
 ∃ x2 x3 x4 x5, x1 = .agg #[.q x2, .s x3, .q x4, .q x5] ∧
 ∀ x6 w2, x6 = w1.heap.size → w2 = w1.alloc (.cells #[.q 0, .s [], .q 0, .q 0] 44) →
 Writable w2 ⟨x6, 0, none⟩ 4 ∧ ∀ w3, w3 = setCells w2 ⟨x6, 0, none⟩ [.q x2, .s x3, .q x4, .q x5] →
 Calls Try.prog 42 #[.pointer (some ⟨x0, 0, none⟩), .q 0] w3 (Ret fun x7 w4 =>
 ∃ x8, x7 = .q x8 ∧
 ∃ x9, w4.cell? ⟨x6, 0, none⟩ = some (.q x9) ∧
 cond (x9 == 1)
 (∃ (J : World → Prop),
 (Calls Try.prog 67 #[.pointer (some ⟨x0, 0, none⟩), .q 1, .s [61]] w4 (Ret fun x10 w5 =>
 ∃ x11, x10 = .bool x11 ∧
 cond (x11)
 (∃ x12 x13 x14, w5.cell? ⟨x0, 3, none⟩ = some (.slice x12 x13 x14) ∧
 ((0 : Int) ≤ x8 ∧ x8 < (x13 : Int)) ∧
 ptrOr x12 (fun x15 =>
 Writable w5 (x15.add (x8.toNat * 5)) 1 ∧ ∀ w6, w6 = w5.setCell (x15.add (x8.toNat * 5)) (.q 19) →
 Calls Try.prog 75 #[.pointer (some ⟨x0, 0, none⟩), .q x8] w6 (Ret fun _x16 w7 =>
 J w7)))
 (Calls Try.prog 76 #[.pointer (some ⟨x0, 0, none⟩), .q x8, .q 21, .q 22] w5 (Ret fun _x17 w8 =>
 J w8)))) ∧
 ∀ (_x18 : Nat → Value) (w9 : World), J w9 →
 ∀ x19 w10, x19 = w9.heap.size → w10 = w9.alloc (.cells #[.s [59]] 9) →
 Calls Try.prog 46 #[.pointer (some ⟨x0, 0, none⟩), .slice (some ⟨x19, 0, none⟩) 1 1] w10 (Ret fun _x20 w11 =>
 K (.tuple #[]) w11))
 (∀ x21 w12, x21 = w4.heap.size → w12 = w4.alloc (.map #[] 0) →
 SemOk Try.prog (Instr.mapUpdate 104 (.map (some x21)) (.s [115, 108, 101, 101, 112]) (.q 27)) (fun _ w13 =>
 SemOk Try.prog (Instr.mapUpdate 104 (.map (some x21)) (.s [112, 114, 105, 110, 116]) (.q 28)) (fun _ w14 =>
 SemOk Try.prog (Instr.mapUpdate 104 (.map (some x21)) (.s [97, 115, 115, 101, 114, 116]) (.q 29)) (fun _ w15 =>
 SemOk Try.prog (Instr.mapUpdate 104 (.map (some x21)) (.s [115, 107, 105, 112]) (.q 30)) (fun _ w16 =>
 SemOk Try.prog (Instr.mapUpdate 104 (.map (some x21)) (.s [115, 116, 111, 112]) (.q 31)) (fun _ w17 =>
 ∃ x27, w17.cell? ⟨x6, 0, none⟩ = some (.q x27) ∧
 cond (x27 != 3)
 (Calls Try.prog 68 #[.pointer (some ⟨x0, 0, none⟩), .q 11] w17 (Ret fun _x28 w18 =>
 K (.tuple #[]) w18))
 (∃ x29, w17.cell? ⟨x0, 1, none⟩ = some (.q x29) ∧
 Writable w17 ⟨x0, 1, none⟩ 1 ∧ ∀ w19, w19 = w17.setCell ⟨x0, 1, none⟩ (.q (IntKind.i64.wrap (x29 + 1))) →
 ∃ (J1 : World → Prop),
 (∃ x30, w19.cell? ⟨x6, 1, none⟩ = some (.s x30) ∧
 cond (x30 == [118, 97, 114])
 (∃ x31 x32 x33, w19.cell? ⟨x0, 3, none⟩ = some (.slice x31 x32 x33) ∧
 ((0 : Int) ≤ x8 ∧ x8 < (x32 : Int)) ∧
 ptrOr x31 (fun x34 =>
 Writable w19 (x34.add (x8.toNat * 5)) 1 ∧ ∀ w20, w20 = w19.setCell (x34.add (x8.toNat * 5)) (.q 18) →
 ∃ (J2 : World → Prop),
 (∀ w21, w21 = w20.drew →
 ∃ (S : World → Prop), S w21 ∧
 ∃ x35 x36 x37, (∀ u, S u → u.cell? ⟨x0, 3, none⟩ = some (.slice x35 x36 x37)) ∧
 Calls Try.prog 44 #[.pointer (some ⟨x0, 0, none⟩)] w21 (Ret fun x38 w22 =>
 ∃ x39, x38 = .s x39 ∧
 S w22 ∧
 ((0 : Int) ≤ x8 ∧ x8 < (x36 : Int)) ∧
 ptrOr x35 (fun x40 =>
 Writable w22 ((x40.add (x8.toNat * 5)).add 1) 1 ∧ ∀ w23, w23 = w22.setCell ((x40.add (x8.toNat * 5)).add 1) (.s x39) →
 J2 w23))) ∧
 ∀ (_x41 : Nat → Value) (w24 : World), J2 w24 →
 ∀ x42 w25, x42 = w24.heap.size → w25 = w24.alloc (.cells #[.s [61]] 9) →
 Calls Try.prog 46 #[.pointer (some ⟨x0, 0, none⟩), .slice (some ⟨x42, 0, none⟩) 1 1] w25 (Ret fun _x43 w26 =>
 Calls Try.prog 77 #[.pointer (some ⟨x0, 0, none⟩), .q x8] w26 (Ret fun _x44 w27 =>
 J1 w27))))
 (cond (x30 == [115, 116, 97, 114, 116])
 (∃ x45 x46 x47, w19.cell? ⟨x0, 3, none⟩ = some (.slice x45 x46 x47) ∧
 ((0 : Int) ≤ x8 ∧ x8 < (x46 : Int)) ∧
 ptrOr x45 (fun x48 =>
 Writable w19 (x48.add (x8.toNat * 5)) 1 ∧ ∀ w28, w28 = w19.setCell (x48.add (x8.toNat * 5)) (.q 26) →
 ∃ (J3 : World → Prop),
 (∀ w29, w29 = w28.drew →
 ∃ (S1 : World → Prop), S1 w29 ∧
 ∃ x49 x50 x51, (∀ u, S1 u → u.cell? ⟨x0, 3, none⟩ = some (.slice x49 x50 x51)) ∧
 Calls Try.prog 44 #[.pointer (some ⟨x0, 0, none⟩)] w29 (Ret fun x52 w30 =>
 ∃ x53, x52 = .s x53 ∧
 S1 w30 ∧
 ((0 : Int) ≤ x8 ∧ x8 < (x50 : Int)) ∧
 ptrOr x49 (fun x54 =>
 Writable w30 ((x54.add (x8.toNat * 5)).add 1) 1 ∧ ∀ w31, w31 = w30.setCell ((x54.add (x8.toNat * 5)).add 1) (.s x53) →
 J3 w31))) ∧
 ∀ (_x55 : Nat → Value) (w32 : World), J3 w32 →
 Calls Try.prog 78 #[.pointer (some ⟨x0, 0, none⟩), .q x8] w32 (Ret fun _x56 w33 =>
 J1 w33)))
 (∃ (J4 : Bool → World → Prop),
 (cond (x30 == [115, 108, 101, 101, 112])
 (J4 (x30 == [115, 108, 101, 101, 112]) w19)
 (cond (x30 == [112, 114, 105, 110, 116])
 (J4 (x30 == [112, 114, 105, 110, 116]) w19)
 (J4 (x30 == [97, 115, 115, 101, 114, 116]) w19))) ∧
 ∀ (_x57 : Nat → Value) (x58 : Bool) (w34 : World), J4 x58 w34 →
 cond (x58)
 (∃ (J5 : World → Prop),
 (∀ w35, w35 = w34.drew →
 ∃ (S2 : World → Prop), S2 w35 ∧
 ∃ x59 x60 x61, (∀ u, S2 u → u.cell? ⟨x0, 3, none⟩ = some (.slice x59 x60 x61)) ∧
 ∃ x62, (∀ u, S2 u → u.cell? ⟨x6, 1, none⟩ = some (.s x62)) ∧
 SemOk Try.prog (Instr.lookup 104 (.map (some x21)) (.s x62) false) (fun x63 w36 =>
 ∃ x64, x63 = .q x64 ∧
 S2 w36 ∧
 ((0 : Int) ≤ x8 ∧ x8 < (x60 : Int)) ∧
 ptrOr x59 (fun x65 =>
 Writable w36 (x65.add (x8.toNat * 5)) 1 ∧ ∀ w37, w37 = w36.setCell (x65.add (x8.toNat * 5)) (.q x64) →
 J5 w37)) w35) ∧
 ∀ (_x66 : Nat → Value) (w38 : World), J5 w38 →
 Calls Try.prog 77 #[.pointer (some ⟨x0, 0, none⟩), .q x8] w38 (Ret fun _x67 w39 =>
 J1 w39))
 (∃ (J6 : Bool → World → Prop),
 (cond (x30 == [115, 107, 105, 112])
 (J6 (x30 == [115, 107, 105, 112]) w34)
 (J6 (x30 == [115, 116, 111, 112]) w34)) ∧
 ∀ (_x68 : Nat → Value) (x69 : Bool) (w40 : World), J6 x69 w40 →
 cond (x69)
 (∀ w41, w41 = w40.drew →
 ∃ (S3 : World → Prop), S3 w41 ∧
 ∃ x70 x71 x72, (∀ u, S3 u → u.cell? ⟨x0, 3, none⟩ = some (.slice x70 x71 x72)) ∧
 ∃ x73, (∀ u, S3 u → u.cell? ⟨x6, 1, none⟩ = some (.s x73)) ∧
 SemOk Try.prog (Instr.lookup 104 (.map (some x21)) (.s x73) false) (fun x74 w42 =>
 ∃ x75, x74 = .q x75 ∧
 S3 w42 ∧
 ((0 : Int) ≤ x8 ∧ x8 < (x71 : Int)) ∧
 ptrOr x70 (fun x76 =>
 Writable w42 (x76.add (x8.toNat * 5)) 1 ∧ ∀ w43, w43 = w42.setCell (x76.add (x8.toNat * 5)) (.q x75) →
 J1 w43)) w41)
 (cond (x30 == [105, 102])
 (∃ x77 x78 x79, w40.cell? ⟨x0, 3, none⟩ = some (.slice x77 x78 x79) ∧
 ((0 : Int) ≤ x8 ∧ x8 < (x78 : Int)) ∧
 ptrOr x77 (fun x80 =>
 Writable w40 (x80.add (x8.toNat * 5)) 1 ∧ ∀ w44, w44 = w40.setCell (x80.add (x8.toNat * 5)) (.q 23) →
 Calls Try.prog 77 #[.pointer (some ⟨x0, 0, none⟩), .q x8] w44 (Ret fun _x81 w45 =>
 Calls Try.prog 48 #[.pointer (some ⟨x0, 0, none⟩), .q x8] w45 (Ret fun _x82 w46 =>
 Calls Try.prog 43 #[.pointer (some ⟨x0, 0, none⟩), .s [101, 108, 115, 101]] w46 (Ret fun x83 w47 =>
 ∃ x84, x83 = .bool x84 ∧
 cond (x84)
 (Calls Try.prog 48 #[.pointer (some ⟨x0, 0, none⟩), .q x8] w47 (Ret fun _x85 w48 =>
 K (.tuple #[]) w48))
 (K (.tuple #[]) w47))))))
 (cond (x30 == [119, 104, 105, 108, 101])
 (∃ x86 x87 x88, w40.cell? ⟨x0, 3, none⟩ = some (.slice x86 x87 x88) ∧
 ((0 : Int) ≤ x8 ∧ x8 < (x87 : Int)) ∧
 ptrOr x86 (fun x89 =>
 Writable w40 (x89.add (x8.toNat * 5)) 1 ∧ ∀ w49, w49 = w40.setCell (x89.add (x8.toNat * 5)) (.q 24) →
 Calls Try.prog 77 #[.pointer (some ⟨x0, 0, none⟩), .q x8] w49 (Ret fun _x90 w50 =>
 Calls Try.prog 48 #[.pointer (some ⟨x0, 0, none⟩), .q x8] w50 (Ret fun _x91 w51 =>
 K (.tuple #[]) w51))))
 (cond (x30 == [115, 101, 108, 101, 99, 116])
 (∃ x92 x93 x94, w40.cell? ⟨x0, 3, none⟩ = some (.slice x92 x93 x94) ∧
 ((0 : Int) ≤ x8 ∧ x8 < (x93 : Int)) ∧
 ptrOr x92 (fun x95 =>
 Writable w40 (x95.add (x8.toNat * 5)) 1 ∧ ∀ w52, w52 = w40.setCell (x95.add (x8.toNat * 5)) (.q 25) →
 ∀ x96 w53, x96 = w52.heap.size → w53 = w52.alloc (.cells #[.s [123]] 9) →
 Calls Try.prog 46 #[.pointer (some ⟨x0, 0, none⟩), .slice (some ⟨x96, 0, none⟩) 1 1] w53 (Ret fun _x97 w54 =>
 ∃ (I : World → Prop) (x98 : World → Nat), I w54 ∧
 ∀ (_x99 : Nat → Value) (w55 : World), I w55 →
 Calls Try.prog 79 #[.pointer (some ⟨x0, 0, none⟩)] w55 (Ret fun _x100 w56 =>
 ∃ x101 x102 x103, w56.cell? ⟨x0, 3, none⟩ = some (.slice x101 x102 x103) ∧
 ((0 : Int) ≤ x8 ∧ x8 < (x102 : Int)) ∧
 ptrOr x101 (fun x104 =>
 ∃ x105, w56.cell? ((x104.add (x8.toNat * 5)).add 3) = some (.q x105) ∧
 ((0 : Int) ≤ x8 ∧ x8 < (x102 : Int)) ∧
 ptrOr x101 (fun x106 =>
 Writable w56 ((x106.add (x8.toNat * 5)).add 3) 1 ∧ ∀ w57, w57 = w56.setCell ((x106.add (x8.toNat * 5)).add 3) (.q (IntKind.i64.wrap (x105 + 1))) →
 ∃ (J7 : Bool → World → Prop),
 (∃ x107, w57.cell? ⟨x0, 4, none⟩ = some (.q x107) ∧
 cond (x107 != 0)
 (J7 (x107 != 0) w57)
 (Calls Try.prog 67 #[.pointer (some ⟨x0, 0, none⟩), .q 0, .s [125]] w57 (Ret fun x108 w58 =>
 ∃ x109, x108 = .bool x109 ∧
 J7 x109 w58))) ∧
 ∀ (_x110 : Nat → Value) (x111 : Bool) (w59 : World), J7 x111 w59 →
 cond (x111)
 (∀ x112 w60, x112 = w59.heap.size → w60 = w59.alloc (.cells #[.s [125]] 9) →
 Calls Try.prog 46 #[.pointer (some ⟨x0, 0, none⟩), .slice (some ⟨x112, 0, none⟩) 1 1] w60 (Ret fun _x113 w61 =>
 K (.tuple #[]) w61))
 (I w59 ∧ x98 w59 < x98 w55)))))))
 (∃ x114, w40.cell? ⟨x0, 1, none⟩ = some (.q x114) ∧
 Writable w40 ⟨x0, 1, none⟩ 1 ∧ ∀ w62, w62 = w40.setCell ⟨x0, 1, none⟩ (.q (IntKind.i64.wrap (x114 - 1))) →
 Calls Try.prog 68 #[.pointer (some ⟨x0, 0, none⟩), .q 11] w62 (Ret fun _x115 w63 =>
 K (.tuple #[]) w63))))))))) ∧
 ∀ (_x116 : Nat → Value) (w64 : World), J1 w64 →
 ∀ x117 w65, x117 = w64.heap.size → w65 = w64.alloc (.cells #[.s [59]] 9) →
 Calls Try.prog 46 #[.pointer (some ⟨x0, 0, none⟩), .slice (some ⟨x117, 0, none⟩) 1 1] w65 (Ret fun _x118 w66 =>
 K (.tuple #[]) w66))) w16) w15) w14) w13) w12)))
theorem parse_reader_stmt_ok (x0 : Nat) (K : Value → World → Prop) (w : World) (h : parse_reader_stmt_wp x0 K w) : Calls Try.prog 69 #[.pointer (some ⟨x0, 0, none⟩)] w (Ret K) :=
 calls_of { loops := [(1068498844, [])], cuts := [(58, []), (127, []), (8149, []), (16303, [(100, .bool)]), (32605, []), (65214, []), (65215, [(118, .bool)]), (34191963014, [(192, .bool)])] } Try.func69 (by kernel_rfl) h
def parse_reader_decl_wp (x0 : Nat) (K : Value → World → Prop) (w : World) : Prop :=
 Calls Try.prog 42 #[.pointer (some ⟨x0, 0, none⟩), .q 41] w (Ret fun x1 w1 =>
 ∃ x2, x1 = .q x2 ∧
 Calls Try.prog 43 #[.pointer (some ⟨x0, 0, none⟩), .s [99, 104, 97, 110]] w1 (Ret fun x3 w2 =>
 ∃ x4, x3 = .bool x4 ∧
 cond (x4)
 (∃ x5 x6 x7, w2.cell? ⟨x0, 3, none⟩ = some (.slice x5 x6 x7) ∧
 ((0 : Int) ≤ x2 ∧ x2 < (x6 : Int)) ∧
 ptrOr x5 (fun x8 =>
 Writable w2 (x8.add (x2.toNat * 5)) 1 ∧ ∀ w3, w3 = w2.setCell (x8.add (x2.toNat * 5)) (.q 38) →
 ∃ (J : World → Prop),
 (∀ w4, w4 = w3.drew →
 ∃ (S : World → Prop), S w4 ∧
 ∃ x9 x10 x11, (∀ u, S u → u.cell? ⟨x0, 3, none⟩ = some (.slice x9 x10 x11)) ∧
 Calls Try.prog 44 #[.pointer (some ⟨x0, 0, none⟩)] w4 (Ret fun x12 w5 =>
 ∃ x13, x12 = .s x13 ∧
 S w5 ∧
 ((0 : Int) ≤ x2 ∧ x2 < (x10 : Int)) ∧
 ptrOr x9 (fun x14 =>
 Writable w5 ((x14.add (x2.toNat * 5)).add 1) 1 ∧ ∀ w6, w6 = w5.setCell ((x14.add (x2.toNat * 5)).add 1) (.s x13) →
 J w6))) ∧
 ∀ (_x15 : Nat → Value) (w7 : World), J w7 →
 ∃ (J1 : World → Prop),
 (Calls Try.prog 43 #[.pointer (some ⟨x0, 0, none⟩), .s [91]] w7 (Ret fun x16 w8 =>
 ∃ x17, x16 = .bool x17 ∧
 cond (x17)
 (Calls Try.prog 45 #[.pointer (some ⟨x0, 0, none⟩), .q x2] w8 (Ret fun _x18 w9 =>
 ∀ x19 w10, x19 = w9.heap.size → w10 = w9.alloc (.cells #[.s [93]] 9) →
 Calls Try.prog 46 #[.pointer (some ⟨x0, 0, none⟩), .slice (some ⟨x19, 0, none⟩) 1 1] w10 (Ret fun _x20 w11 =>
 J1 w11)))
 (J1 w8))) ∧
 ∀ (_x21 : Nat → Value) (w12 : World), J1 w12 →
 ∀ x22 w13, x22 = w12.heap.size → w13 = w12.alloc (.cells #[.s [59]] 9) →
 Calls Try.prog 46 #[.pointer (some ⟨x0, 0, none⟩), .slice (some ⟨x22, 0, none⟩) 1 1] w13 (Ret fun _x23 w14 =>
 K (.tuple #[]) w14)))
 (Calls Try.prog 43 #[.pointer (some ⟨x0, 0, none⟩), .s [112, 114, 111, 99]] w2 (Ret fun x24 w15 =>
 ∃ x25, x24 = .bool x25 ∧
 cond (x25)
 (∃ x26 x27 x28, w15.cell? ⟨x0, 3, none⟩ = some (.slice x26 x27 x28) ∧
 ((0 : Int) ≤ x2 ∧ x2 < (x27 : Int)) ∧
 ptrOr x26 (fun x29 =>
 Writable w15 (x29.add (x2.toNat * 5)) 1 ∧ ∀ w16, w16 = w15.setCell (x29.add (x2.toNat * 5)) (.q 40) →
 ∃ (J2 : World → Prop),
 (∀ w17, w17 = w16.drew →
 ∃ (S1 : World → Prop), S1 w17 ∧
 ∃ x30 x31 x32, (∀ u, S1 u → u.cell? ⟨x0, 3, none⟩ = some (.slice x30 x31 x32)) ∧
 Calls Try.prog 44 #[.pointer (some ⟨x0, 0, none⟩)] w17 (Ret fun x33 w18 =>
 ∃ x34, x33 = .s x34 ∧
 S1 w18 ∧
 ((0 : Int) ≤ x2 ∧ x2 < (x31 : Int)) ∧
 ptrOr x30 (fun x35 =>
 Writable w18 ((x35.add (x2.toNat * 5)).add 1) 1 ∧ ∀ w19, w19 = w18.setCell ((x35.add (x2.toNat * 5)).add 1) (.s x34) →
 J2 w19))) ∧
 ∀ (_x36 : Nat → Value) (w20 : World), J2 w20 →
 ∀ x37 w21, x37 = w20.heap.size → w21 = w20.alloc (.cells #[.s [40]] 9) →
 Calls Try.prog 46 #[.pointer (some ⟨x0, 0, none⟩), .slice (some ⟨x37, 0, none⟩) 1 1] w21 (Ret fun _x38 w22 =>
 ∃ (J3 : World → Prop),
 (Calls Try.prog 43 #[.pointer (some ⟨x0, 0, none⟩), .s [41]] w22 (Ret fun x39 w23 =>
 ∃ x40, x39 = .bool x40 ∧
 cond (!x40)
 (Calls Try.prog 47 #[.pointer (some ⟨x0, 0, none⟩), .q x2] w23 (Ret fun _x41 w24 =>
 ∃ (I : World → Prop) (x42 : World → Nat), I w24 ∧
 ∀ (_x43 : Nat → Value) (w25 : World), I w25 →
 Calls Try.prog 43 #[.pointer (some ⟨x0, 0, none⟩), .s [44]] w25 (Ret fun x44 w26 =>
 ∃ x45, x44 = .bool x45 ∧
 cond (x45)
 (Calls Try.prog 47 #[.pointer (some ⟨x0, 0, none⟩), .q x2] w26 (Ret fun _x46 w27 =>
 I w27 ∧ x42 w27 < x42 w25))
 (∀ x47 w28, x47 = w26.heap.size → w28 = w26.alloc (.cells #[.s [41]] 9) →
 Calls Try.prog 46 #[.pointer (some ⟨x0, 0, none⟩), .slice (some ⟨x47, 0, none⟩) 1 1] w28 (Ret fun _x48 w29 =>
 J3 w29)))))
 (J3 w23))) ∧
 ∀ (_x49 : Nat → Value) (w30 : World), J3 w30 →
 Calls Try.prog 48 #[.pointer (some ⟨x0, 0, none⟩), .q x2] w30 (Ret fun _x50 w31 =>
 K (.tuple #[]) w31))))
 (∀ x51 w32, x51 = w15.heap.size → w32 = w15.alloc (.cells #[.s [109, 97, 105, 110]] 9) →
 Calls Try.prog 46 #[.pointer (some ⟨x0, 0, none⟩), .slice (some ⟨x51, 0, none⟩) 1 1] w32 (Ret fun _x52 w33 =>
 Calls Try.prog 48 #[.pointer (some ⟨x0, 0, none⟩), .q x2] w33 (Ret fun _x53 w34 =>
 K (.tuple #[]) w34)))))))
theorem parse_reader_decl_ok (x0 : Nat) (K : Value → World → Prop) (w : World) (h : parse_reader_decl_wp x0 K w) : Calls Try.prog 20 #[.pointer (some ⟨x0, 0, none⟩)] w (Ret K) :=
 calls_of { loops := [(56788, [])], cuts := [(53, []), (107, []), (221, []), (887, [])] } Try.func20 (by kernel_rfl) h
def parse_reader_size_wp (x0 : Nat) (x1 : Int) (K : Value → World → Prop) (w : World) : Prop :=
 Calls Try.prog 19 #[.pointer (some ⟨x0, 0, none⟩), .q 0] w (Ret fun x2 w1 =>
 ∃ x3 x4 x5 x6, x2 = .agg #[.q x3, .s x4, .q x5, .q x6] ∧
 ∀ x7 w2, x7 = w1.heap.size → w2 = w1.alloc (.cells #[.q 0, .s [], .q 0, .q 0] 44) →
 Writable w2 ⟨x7, 0, none⟩ 4 ∧ ∀ w3, w3 = setCells w2 ⟨x7, 0, none⟩ [.q x3, .s x4, .q x5, .q x6] →
 ∃ x8, w3.cell? ⟨x0, 4, none⟩ = some (.q x8) ∧
 cond (x8 != 0)
 (K (.tuple #[]) w3)
 (∃ x9, w3.cell? ⟨x7, 0, none⟩ = some (.q x9) ∧
 cond (x9 != 2)
 (Calls Try.prog 68 #[.pointer (some ⟨x0, 0, none⟩), .q 11] w3 (Ret fun _x10 w4 =>
 K (.tuple #[]) w4))
 (∃ (J : Bool → World → Prop),
 (∃ x11, w3.cell? ⟨x7, 2, none⟩ = some (.q x11) ∧
 cond (decide (x11 < 1))
 (J true w3)
 (∃ x12, w3.cell? ⟨x7, 2, none⟩ = some (.q x12) ∧
 J (decide (x12 > 16)) w3)) ∧
 ∀ (_x13 : Nat → Value) (x14 : Bool) (w5 : World), J x14 w5 →
 cond (x14)
 (Calls Try.prog 68 #[.pointer (some ⟨x0, 0, none⟩), .q 6] w5 (Ret fun _x15 w6 =>
 K (.tuple #[]) w6))
 (∃ x16, w5.cell? ⟨x0, 1, none⟩ = some (.q x16) ∧
 Writable w5 ⟨x0, 1, none⟩ 1 ∧ ∀ w7, w7 = w5.setCell ⟨x0, 1, none⟩ (.q (IntKind.i64.wrap (x16 + 1))) →
 ∀ w8, w8 = w7.drew →
 ∃ x17 x18 x19, w8.cell? ⟨x0, 3, none⟩ = some (.slice x17 x18 x19) ∧
 ∃ x20, w8.cell? ⟨x7, 2, none⟩ = some (.q x20) ∧
 ((0 : Int) ≤ x1 ∧ x1 < (x18 : Int)) ∧
 ptrOr x17 (fun x21 =>
 Writable w8 ((x21.add (x1.toNat * 5)).add 2) 1 ∧ ∀ w9, w9 = w8.setCell ((x21.add (x1.toNat * 5)).add 2) (.q x20) →
 K (.tuple #[]) w9)))))
theorem parse_reader_size_ok (x0 : Nat) (x1 : Int) (K : Value → World → Prop) (w : World) (h : parse_reader_size_wp x0 x1 K w) : Calls Try.prog 45 #[.pointer (some ⟨x0, 0, none⟩), .q x1] w (Ret K) :=
 calls_of { cuts := [(111, [(35, .bool)])] } Try.func45 (by kernel_rfl) h
def parse_reader_param_wp (x0 : Nat) (x1 : Int) (K : Value → World → Prop) (w : World) : Prop :=
 Calls Try.prog 42 #[.pointer (some ⟨x0, 0, none⟩), .q 39] w (Ret fun x2 w1 =>
 ∃ x3, x2 = .q x3 ∧
 ∃ (J : World → Prop),
 (∀ w2, w2 = w1.drew →
 ∃ (S : World → Prop), S w2 ∧
 ∃ x4 x5 x6, (∀ u, S u → u.cell? ⟨x0, 3, none⟩ = some (.slice x4 x5 x6)) ∧
 Calls Try.prog 44 #[.pointer (some ⟨x0, 0, none⟩)] w2 (Ret fun x7 w3 =>
 ∃ x8, x7 = .s x8 ∧
 S w3 ∧
 ((0 : Int) ≤ x3 ∧ x3 < (x5 : Int)) ∧
 ptrOr x4 (fun x9 =>
 Writable w3 ((x9.add (x3.toNat * 5)).add 1) 1 ∧ ∀ w4, w4 = w3.setCell ((x9.add (x3.toNat * 5)).add 1) (.s x8) →
 J w4))) ∧
 ∀ (_x10 : Nat → Value) (w5 : World), J w5 →
 ∃ x11 x12 x13, w5.cell? ⟨x0, 3, none⟩ = some (.slice x11 x12 x13) ∧
 ((0 : Int) ≤ x1 ∧ x1 < (x12 : Int)) ∧
 ptrOr x11 (fun x14 =>
 ∃ x15, w5.cell? ((x14.add (x1.toNat * 5)).add 3) = some (.q x15) ∧
 ((0 : Int) ≤ x1 ∧ x1 < (x12 : Int)) ∧
 ptrOr x11 (fun x16 =>
 Writable w5 ((x16.add (x1.toNat * 5)).add 3) 1 ∧ ∀ w6, w6 = w5.setCell ((x16.add (x1.toNat * 5)).add 3) (.q (IntKind.i64.wrap (x15 + 1))) →
 K (.tuple #[]) w6)))
theorem parse_reader_param_ok (x0 : Nat) (x1 : Int) (K : Value → World → Prop) (w : World) (h : parse_reader_param_wp x0 x1 K w) : Calls Try.prog 47 #[.pointer (some ⟨x0, 0, none⟩), .q x1] w (Ret K) :=
 calls_of { cuts := [(3, [])] } Try.func47 (by kernel_rfl) h
def R11_is_wp (x0 : Option Addr) (x1 : Nat) (x2 : Nat) (x3 : Int) (x4 : List UInt8) (K : Value → World → Prop) (w : World) : Prop :=
 Calls Try.prog 22 #[.slice x0 x1 x2, .q x3] w (Ret fun x5 w1 =>
 ∃ x6 x7 x8 x9, x5 = .agg #[.q x6, .s x7, .q x8, .q x9] ∧
 ∀ x10 w2, x10 = w1.heap.size → w2 = w1.alloc (.cells #[.q 0, .s [], .q 0, .q 0] 44) →
 Writable w2 ⟨x10, 0, none⟩ 4 ∧ ∀ w3, w3 = setCells w2 ⟨x10, 0, none⟩ [.q x6, .s x7, .q x8, .q x9] →
 ∃ x11, w3.cell? ⟨x10, 0, none⟩ = some (.q x11) ∧
 cond (x11 == 3)
 (∃ x12, w3.cell? ⟨x10, 1, none⟩ = some (.s x12) ∧
 K (.bool (x12 == x4)) w3)
 (∃ x13, w3.cell? ⟨x10, 0, none⟩ = some (.q x13) ∧
 cond (x13 == 4)
 (∃ x14, w3.cell? ⟨x10, 1, none⟩ = some (.s x14) ∧
 K (.bool (x14 == x4)) w3)
 (K (.bool false) w3)))
theorem R11_is_ok (x0 : Option Addr) (x1 : Nat) (x2 : Nat) (x3 : Int) (x4 : List UInt8) (K : Value → World → Prop) (w : World) (h : R11_is_wp x0 x1 x2 x3 x4 K w) : Calls Try.prog 49 #[.slice x0 x1 x2, .q x3, .s x4] w (Ret K) :=
 calls_of {} Try.func49 (by kernel_rfl) h
def R11_from_wp (x0 : Int) (K : Value → World → Prop) (w : World) : Prop :=
 ∀ x1 w1, x1 = w.heap.size → w1 = w.alloc (.cells #[.slice none 0 0, .q 0, .q 0, .q 0] 59) →
 Writable w1 ⟨x1, 0, none⟩ 4 ∧ ∀ w2, w2 = setCells w1 ⟨x1, 0, none⟩ [.slice none 0 0, .q 0, .q x0, .q 0] →
 ∃ x2 x3 x4 x5 x6 x7, CellsAt w2 ⟨x1, 0, none⟩ [.slice x2 x3 x4, .q x5, .q x6, .q x7] ∧
 K (.agg #[.slice x2 x3 x4, .q x5, .q x6, .q x7]) w2
theorem R11_from_ok (x0 : Int) (K : Value → World → Prop) (w : World) (h : R11_from_wp x0 K w) : Calls Try.prog 21 #[.q x0] w (Ret K) :=
 calls_of {} Try.func21 (by kernel_rfl) h
end Go.Proofs.Ytdbdkdmgfiiljaa
namespace Go.Proofs.Ytdbdkdmgfiiljaa
open Go.Vc
def R11_ref_wp (x0 : Option Addr) (x1 : Nat) (x2 : Nat) (x3 : Int) (K : Value → World → Prop) (w : World) : Prop :=
 ∀ x4 w1, x4 = w.heap.size → w1 = w.alloc (.cells #[.slice none 0 0, .q 0, .q 0, .q 0] 59) →
 Calls Try.prog 21 #[.q x3] w1 (Ret fun x5 w2 =>
 ∃ x6 x7 x8 x9 x10 x11, x5 = .agg #[.slice x6 x7 x8, .q x9, .q x10, .q x11] ∧
 Calls Try.prog 51 #[.agg #[.slice x6 x7 x8, .q x9, .q x10, .q x11], .slice x0 x1 x2] w2 (Ret fun x12 w3 =>
 ∃ x13 x14 x15 x16 x17 x18 x19, x12 = .tuple #[.agg #[.slice x13 x14 x15, .q x16, .q x17, .q x18], .s x19] ∧
 ∀ x20 w4, x20 = w3.heap.size → w4 = w3.alloc (.cells #[.slice none 0 0, .q 0, .q 0, .q 0] 59) →
 Writable w4 ⟨x20, 0, none⟩ 4 ∧ ∀ w5, w5 = setCells w4 ⟨x20, 0, none⟩ [.slice x13 x14 x15, .q x16, .q x17, .q x18] →
 ∃ (J : World → Prop),
 (∃ (J1 : Bool → World → Prop),
 (∃ x21, w5.cell? ⟨x20, 3, none⟩ = some (.q x21) ∧
 cond (x21 == 0)
 (∃ x22, w5.cell? ⟨x20, 2, none⟩ = some (.q x22) ∧
 Calls Try.prog 49 #[.slice x0 x1 x2, .q x22, .s [91]] w5 (Ret fun x23 w6 =>
 ∃ x24, x23 = .bool x24 ∧
 J1 x24 w6))
 (J1 false w5)) ∧
 ∀ (_x25 : Nat → Value) (x26 : Bool) (w7 : World), J1 x26 w7 →
 cond (x26)
 (∃ x27 x28 x29 x30 x31 x32, CellsAt w7 ⟨x20, 0, none⟩ [.slice x27 x28 x29, .q x30, .q x31, .q x32] ∧
 Calls Try.prog 50 #[.agg #[.slice x27 x28 x29, .q x30, .q x31, .q x32], .slice x0 x1 x2, .s [91]] w7 (Ret fun x33 w8 =>
 ∃ x34 x35 x36 x37 x38 x39, x33 = .agg #[.slice x34 x35 x36, .q x37, .q x38, .q x39] ∧
 Calls Try.prog 87 #[.agg #[.slice x34 x35 x36, .q x37, .q x38, .q x39], .slice x0 x1 x2] w8 (Ret fun x40 w9 =>
 ∃ x41 x42 x43 x44 x45 x46, x40 = .agg #[.slice x41 x42 x43, .q x44, .q x45, .q x46] ∧
 Calls Try.prog 50 #[.agg #[.slice x41 x42 x43, .q x44, .q x45, .q x46], .slice x0 x1 x2, .s [93]] w9 (Ret fun x47 w10 =>
 ∃ x48 x49 x50 x51 x52 x53, x47 = .agg #[.slice x48 x49 x50, .q x51, .q x52, .q x53] ∧
 Writable w10 ⟨x20, 0, none⟩ 4 ∧ ∀ w11, w11 = setCells w10 ⟨x20, 0, none⟩ [.slice x48 x49 x50, .q x51, .q x52, .q x53] →
 J w11))))
 (J w7)) ∧
 ∀ (_x54 : Nat → Value) (w12 : World), J w12 →
 ∀ w13, w13 = w12.drew →
 ∃ (S : World → Prop), S w13 ∧
 ∃ x55 x56 x57 x58 x59 x60, (∀ u, S u → CellsAt u ⟨x20, 0, none⟩ [.slice x55 x56 x57, .q x58, .q x59, .q x60]) ∧
 Calls Try.prog 22 #[.slice x0 x1 x2, .q x3] w13 (Ret fun x61 w14 =>
 ∃ x62 x63 x64 x65, x61 = .agg #[.q x62, .s x63, .q x64, .q x65] ∧
 S w14 ∧
 Calls Try.prog 25 #[.agg #[.slice x55 x56 x57, .q x58, .q x59, .q x60], .agg #[.q 33, .s x19, .q 0, .q 0, .q x65]] w14 (Ret fun x66 w15 =>
 ∃ x67 x68 x69 x70 x71 x72, x66 = .agg #[.slice x67 x68 x69, .q x70, .q x71, .q x72] ∧
 Writable w15 ⟨x4, 0, none⟩ 4 ∧ ∀ w16, w16 = setCells w15 ⟨x4, 0, none⟩ [.slice x67 x68 x69, .q x70, .q x71, .q x72] →
 ∃ x73 x74 x75 x76 x77 x78, CellsAt w16 ⟨x4, 0, none⟩ [.slice x73 x74 x75, .q x76, .q x77, .q x78] ∧
 K (.agg #[.slice x73 x74 x75, .q x76, .q x77, .q x78]) w16))))
theorem R11_ref_ok (x0 : Option Addr) (x1 : Nat) (x2 : Nat) (x3 : Int) (K : Value → World → Prop) (w : World) (h : R11_ref_wp x0 x1 x2 x3 K w) : Calls Try.prog 91 #[.slice x0 x1 x2, .q x3] w (Ret K) :=
 calls_of { cuts := [(7, []), (14, [(22, .bool)])] } Try.func91 (by kernel_rfl) h
def R11_block_wp (x0 : Option Addr) (x1 : Nat) (x2 : Nat) (x3 : Int) (x4 : Int) (K : Value → World → Prop) (w : World) : Prop :=
 ∀ x5 w1, x5 = w.heap.size → w1 = w.alloc (.cells #[.slice none 0 0, .q 0, .q 0, .q 0] 59) →
 Calls Try.prog 21 #[.q x3] w1 (Ret fun x6 w2 =>
 ∃ x7 x8 x9 x10 x11 x12, x6 = .agg #[.slice x7 x8 x9, .q x10, .q x11, .q x12] ∧
 ∀ x13 w3, x13 = w2.heap.size → w3 = w2.alloc (.cells #[.slice none 0 0, .q 0, .q 0, .q 0] 59) →
 Writable w3 ⟨x13, 0, none⟩ 4 ∧ ∀ w4, w4 = setCells w3 ⟨x13, 0, none⟩ [.slice x7 x8 x9, .q x10, .q x11, .q x12] →
 ∃ (J : Bool → World → Prop),
 (Calls Try.prog 49 #[.slice x0 x1 x2, .q x3, .s [123]] w4 (Ret fun x14 w5 =>
 ∃ x15, x14 = .bool x15 ∧
 cond (x15)
 (J (decide (x4 > 24)) w5)
 (J false w5))) ∧
 ∀ (_x16 : Nat → Value) (x17 : Bool) (w6 : World), J x17 w6 →
 cond (x17)
 (Writable w6 ⟨x13, 3, none⟩ 1 ∧ ∀ w7, w7 = w6.setCell ⟨x13, 3, none⟩ (.q 5) →
 ∃ x18 x19 x20 x21 x22 x23, CellsAt w7 ⟨x13, 0, none⟩ [.slice x18 x19 x20, .q x21, .q x22, .q x23] ∧
 Writable w7 ⟨x5, 0, none⟩ 4 ∧ ∀ w8, w8 = setCells w7 ⟨x5, 0, none⟩ [.slice x18 x19 x20, .q x21, .q x22, .q x23] →
 ∃ x24 x25 x26 x27 x28 x29, CellsAt w8 ⟨x5, 0, none⟩ [.slice x24 x25 x26, .q x27, .q x28, .q x29] ∧
 K (.agg #[.slice x24 x25 x26, .q x27, .q x28, .q x29]) w8)
 (∃ x30 x31 x32 x33 x34 x35, CellsAt w6 ⟨x13, 0, none⟩ [.slice x30 x31 x32, .q x33, .q x34, .q x35] ∧
 Calls Try.prog 50 #[.agg #[.slice x30 x31 x32, .q x33, .q x34, .q x35], .slice x0 x1 x2, .s [123]] w6 (Ret fun x36 w9 =>
 ∃ x37 x38 x39 x40 x41 x42, x36 = .agg #[.slice x37 x38 x39, .q x40, .q x41, .q x42] ∧
 Writable w9 ⟨x13, 0, none⟩ 4 ∧ ∀ w10, w10 = setCells w9 ⟨x13, 0, none⟩ [.slice x37 x38 x39, .q x40, .q x41, .q x42] →
 ∃ (I : World → Prop) (x43 : World → Nat), I w10 ∧
 ∀ (_x44 : Nat → Value) (w11 : World), I w11 →
 ∃ (J1 : Bool → World → Prop),
 (∃ x45, w11.cell? ⟨x13, 3, none⟩ = some (.q x45) ∧
 cond (x45 == 0)
 (∃ x46, w11.cell? ⟨x13, 2, none⟩ = some (.q x46) ∧
 Calls Try.prog 49 #[.slice x0 x1 x2, .q x46, .s [125]] w11 (Ret fun x47 w12 =>
 ∃ x48, x47 = .bool x48 ∧
 J1 (!x48) w12))
 (J1 false w11)) ∧
 ∀ (_x49 : Nat → Value) (x50 : Bool) (w13 : World), J1 x50 w13 →
 cond (x50)
 (∀ w14, w14 = w13.drew →
 ∃ (S : World → Prop), S w14 ∧
 ∃ x51 x52 x53 x54 x55 x56, (∀ u, S u → CellsAt u ⟨x13, 0, none⟩ [.slice x51 x52 x53, .q x54, .q x55, .q x56]) ∧
 ∃ x57, (∀ u, S u → u.cell? ⟨x13, 2, none⟩ = some (.q x57)) ∧
 Calls Try.prog 80 #[.slice x0 x1 x2, .q x57, .q x4] w14 (Ret fun x58 w15 =>
 ∃ x59 x60 x61 x62 x63 x64, x58 = .agg #[.slice x59 x60 x61, .q x62, .q x63, .q x64] ∧
 S w15 ∧
 Calls Try.prog 23 #[.agg #[.slice x51 x52 x53, .q x54, .q x55, .q x56], .agg #[.slice x59 x60 x61, .q x62, .q x63, .q x64]] w15 (Ret fun x65 w16 =>
 ∃ x66 x67 x68 x69 x70 x71, x65 = .agg #[.slice x66 x67 x68, .q x69, .q x70, .q x71] ∧
 Writable w16 ⟨x13, 0, none⟩ 4 ∧ ∀ w17, w17 = setCells w16 ⟨x13, 0, none⟩ [.slice x66 x67 x68, .q x69, .q x70, .q x71] →
 I w17 ∧ x43 w17 < x43 w11)))
 (∃ x72 x73 x74 x75 x76 x77, CellsAt w13 ⟨x13, 0, none⟩ [.slice x72 x73 x74, .q x75, .q x76, .q x77] ∧
 Calls Try.prog 50 #[.agg #[.slice x72 x73 x74, .q x75, .q x76, .q x77], .slice x0 x1 x2, .s [125]] w13 (Ret fun x78 w18 =>
 ∃ x79 x80 x81 x82 x83 x84, x78 = .agg #[.slice x79 x80 x81, .q x82, .q x83, .q x84] ∧
 Writable w18 ⟨x13, 0, none⟩ 4 ∧ ∀ w19, w19 = setCells w18 ⟨x13, 0, none⟩ [.slice x79 x80 x81, .q x82, .q x83, .q x84] →
 ∀ w20, w20 = w19.drew →
 ∃ (S1 : World → Prop), S1 w20 ∧
 ∃ x85 x86 x87 x88 x89 x90, (∀ u, S1 u → CellsAt u ⟨x13, 0, none⟩ [.slice x85 x86 x87, .q x88, .q x89, .q x90]) ∧
 Calls Try.prog 22 #[.slice x0 x1 x2, .q x3] w20 (Ret fun x91 w21 =>
 ∃ x92 x93 x94 x95, x91 = .agg #[.q x92, .s x93, .q x94, .q x95] ∧
 S1 w21 ∧
 Calls Try.prog 25 #[.agg #[.slice x85 x86 x87, .q x88, .q x89, .q x90], .agg #[.q 32, .s [], .q 0, .q 0, .q x95]] w21 (Ret fun x96 w22 =>
 ∃ x97 x98 x99 x100 x101 x102, x96 = .agg #[.slice x97 x98 x99, .q x100, .q x101, .q x102] ∧
 Writable w22 ⟨x5, 0, none⟩ 4 ∧ ∀ w23, w23 = setCells w22 ⟨x5, 0, none⟩ [.slice x97 x98 x99, .q x100, .q x101, .q x102] →
 ∃ x103 x104 x105 x106 x107 x108, CellsAt w23 ⟨x5, 0, none⟩ [.slice x103 x104 x105, .q x106, .q x107, .q x108] ∧
 K (.agg #[.slice x103 x104 x105, .q x106, .q x107, .q x108]) w23)))))))
theorem R11_block_ok (x0 : Option Addr) (x1 : Nat) (x2 : Nat) (x3 : Int) (x4 : Int) (K : Value → World → Prop) (w : World) (h : R11_block_wp x0 x1 x2 x3 x4 K w) : Calls Try.prog 70 #[.slice x0 x1 x2, .q x3, .q x4] w (Ret K) :=
 calls_of { loops := [(124, [])], cuts := [(14, [(16, .bool)]), (496, [(31, .bool)])] } Try.func70 (by kernel_rfl) h
def R11_clause_wp (x0 : Option Addr) (x1 : Nat) (x2 : Nat) (x3 : Int) (x4 : Int) (K : Value → World → Prop) (w : World) : Prop :=
 ∀ x5 w1, x5 = w.heap.size → w1 = w.alloc (.cells #[.slice none 0 0, .q 0, .q 0, .q 0] 59) →
 Calls Try.prog 22 #[.slice x0 x1 x2, .q x3] w1 (Ret fun x6 w2 =>
 ∃ x7 x8 x9 x10, x6 = .agg #[.q x7, .s x8, .q x9, .q x10] ∧
 ∀ x11 w3, x11 = w2.heap.size → w3 = w2.alloc (.cells #[.q 0, .s [], .q 0, .q 0, .q 0] 39) →
 Writable w3 ⟨x11, 0, none⟩ 5 ∧ ∀ w4, w4 = setCells w3 ⟨x11, 0, none⟩ [.q 0, .s [], .q 0, .q 0, .q x10] →
 Calls Try.prog 49 #[.slice x0 x1 x2, .q x3, .s [101, 108, 115, 101]] w4 (Ret fun x12 w5 =>
 ∃ x13, x12 = .bool x13 ∧
 cond (x13)
 (Writable w5 ⟨x11, 0, none⟩ 1 ∧ ∀ w6, w6 = w5.setCell ⟨x11, 0, none⟩ (.q 37) →
 ∀ w7, w7 = w6.drew →
 ∃ (S : World → Prop), S w7 ∧
 ∃ x14 x15 x16 x17 x18, (∀ u, S u → CellsAt u ⟨x11, 0, none⟩ [.q x14, .s x15, .q x16, .q x17, .q x18]) ∧
 Calls Try.prog 21 #[.q x3] w7 (Ret fun x19 w8 =>
 ∃ x20 x21 x22 x23 x24 x25, x19 = .agg #[.slice x20 x21 x22, .q x23, .q x24, .q x25] ∧
 S w8 ∧
 Calls Try.prog 50 #[.agg #[.slice x20 x21 x22, .q x23, .q x24, .q x25], .slice x0 x1 x2, .s [101, 108, 115, 101]] w8 (Ret fun x26 w9 =>
 ∃ x27 x28 x29 x30 x31 x32, x26 = .agg #[.slice x27 x28 x29, .q x30, .q x31, .q x32] ∧
 S w9 ∧
 Calls Try.prog 54 #[.agg #[.slice x27 x28 x29, .q x30, .q x31, .q x32], .slice x0 x1 x2, .q (IntKind.i64.wrap (x4 + 1))] w9 (Ret fun x33 w10 =>
 ∃ x34 x35 x36 x37 x38 x39, x33 = .agg #[.slice x34 x35 x36, .q x37, .q x38, .q x39] ∧
 S w10 ∧
 Calls Try.prog 25 #[.agg #[.slice x34 x35 x36, .q x37, .q x38, .q x39], .agg #[.q x14, .s x15, .q x16, .q x17, .q x18]] w10 (Ret fun x40 w11 =>
 ∃ x41 x42 x43 x44 x45 x46, x40 = .agg #[.slice x41 x42 x43, .q x44, .q x45, .q x46] ∧
 Writable w11 ⟨x5, 0, none⟩ 4 ∧ ∀ w12, w12 = setCells w11 ⟨x5, 0, none⟩ [.slice x41 x42 x43, .q x44, .q x45, .q x46] →
 ∃ x47 x48 x49 x50 x51 x52, CellsAt w12 ⟨x5, 0, none⟩ [.slice x47 x48 x49, .q x50, .q x51, .q x52] ∧
 K (.agg #[.slice x47 x48 x49, .q x50, .q x51, .q x52]) w12)))))
 (Calls Try.prog 21 #[.q x3] w5 (Ret fun x53 w13 =>
 ∃ x54 x55 x56 x57 x58 x59, x53 = .agg #[.slice x54 x55 x56, .q x57, .q x58, .q x59] ∧
 Calls Try.prog 50 #[.agg #[.slice x54 x55 x56, .q x57, .q x58, .q x59], .slice x0 x1 x2, .s [99, 97, 115, 101]] w13 (Ret fun x60 w14 =>
 ∃ x61 x62 x63 x64 x65 x66, x60 = .agg #[.slice x61 x62 x63, .q x64, .q x65, .q x66] ∧
 ∀ x67 w15, x67 = w14.heap.size → w15 = w14.alloc (.cells #[.slice none 0 0, .q 0, .q 0, .q 0] 59) →
 Writable w15 ⟨x67, 0, none⟩ 4 ∧ ∀ w16, w16 = setCells w15 ⟨x67, 0, none⟩ [.slice x61 x62 x63, .q x64, .q x65, .q x66] →
 ∃ (J : World → Prop),
 (∃ (J1 : Bool → World → Prop),
 (∃ x68, w16.cell? ⟨x67, 3, none⟩ = some (.q x68) ∧
 cond (x68 == 0)
 (∃ x69, w16.cell? ⟨x67, 2, none⟩ = some (.q x69) ∧
 Calls Try.prog 49 #[.slice x0 x1 x2, .q x69, .s [119, 104, 101, 110]] w16 (Ret fun x70 w17 =>
 ∃ x71, x70 = .bool x71 ∧
 J1 x71 w17))
 (J1 false w16)) ∧
 ∀ (_x72 : Nat → Value) (x73 : Bool) (w18 : World), J1 x73 w18 →
 cond (x73)
 (Writable w18 ⟨x11, 2, none⟩ 1 ∧ ∀ w19, w19 = w18.setCell ⟨x11, 2, none⟩ (.q 1) →
 ∃ x74 x75 x76 x77 x78 x79, CellsAt w19 ⟨x67, 0, none⟩ [.slice x74 x75 x76, .q x77, .q x78, .q x79] ∧
 Calls Try.prog 50 #[.agg #[.slice x74 x75 x76, .q x77, .q x78, .q x79], .slice x0 x1 x2, .s [119, 104, 101, 110]] w19 (Ret fun x80 w20 =>
 ∃ x81 x82 x83 x84 x85 x86, x80 = .agg #[.slice x81 x82 x83, .q x84, .q x85, .q x86] ∧
 Calls Try.prog 87 #[.agg #[.slice x81 x82 x83, .q x84, .q x85, .q x86], .slice x0 x1 x2] w20 (Ret fun x87 w21 =>
 ∃ x88 x89 x90 x91 x92 x93, x87 = .agg #[.slice x88 x89 x90, .q x91, .q x92, .q x93] ∧
 Calls Try.prog 50 #[.agg #[.slice x88 x89 x90, .q x91, .q x92, .q x93], .slice x0 x1 x2, .s [58]] w21 (Ret fun x94 w22 =>
 ∃ x95 x96 x97 x98 x99 x100, x94 = .agg #[.slice x95 x96 x97, .q x98, .q x99, .q x100] ∧
 Writable w22 ⟨x67, 0, none⟩ 4 ∧ ∀ w23, w23 = setCells w22 ⟨x67, 0, none⟩ [.slice x95 x96 x97, .q x98, .q x99, .q x100] →
 J w23))))
 (J w18)) ∧
 ∀ (_x101 : Nat → Value) (w24 : World), J w24 →
 ∃ (J2 : World → Prop),
 (∃ (J3 : Bool → World → Prop),
 (∃ x102, w24.cell? ⟨x67, 3, none⟩ = some (.q x102) ∧
 cond (x102 == 0)
 (∃ x103, w24.cell? ⟨x67, 2, none⟩ = some (.q x103) ∧
 Calls Try.prog 49 #[.slice x0 x1 x2, .q x103, .s [97, 102, 116, 101, 114]] w24 (Ret fun x104 w25 =>
 ∃ x105, x104 = .bool x105 ∧
 J3 x105 w25))
 (J3 false w24)) ∧
 ∀ (_x106 : Nat → Value) (x107 : Bool) (w26 : World), J3 x107 w26 →
 cond (x107)
 (Writable w26 ⟨x11, 0, none⟩ 1 ∧ ∀ w27, w27 = w26.setCell ⟨x11, 0, none⟩ (.q 36) →
 ∃ x108 x109 x110 x111 x112 x113, CellsAt w27 ⟨x67, 0, none⟩ [.slice x108 x109 x110, .q x111, .q x112, .q x113] ∧
 Calls Try.prog 50 #[.agg #[.slice x108 x109 x110, .q x111, .q x112, .q x113], .slice x0 x1 x2, .s [97, 102, 116, 101, 114]] w27 (Ret fun x114 w28 =>
 ∃ x115 x116 x117 x118 x119 x120, x114 = .agg #[.slice x115 x116 x117, .q x118, .q x119, .q x120] ∧
 Calls Try.prog 87 #[.agg #[.slice x115 x116 x117, .q x118, .q x119, .q x120], .slice x0 x1 x2] w28 (Ret fun x121 w29 =>
 ∃ x122 x123 x124 x125 x126 x127, x121 = .agg #[.slice x122 x123 x124, .q x125, .q x126, .q x127] ∧
 Writable w29 ⟨x67, 0, none⟩ 4 ∧ ∀ w30, w30 = setCells w29 ⟨x67, 0, none⟩ [.slice x122 x123 x124, .q x125, .q x126, .q x127] →
 J2 w30)))
 (∃ x128 x129 x130 x131 x132 x133, CellsAt w26 ⟨x67, 0, none⟩ [.slice x128 x129 x130, .q x131, .q x132, .q x133] ∧
 Calls Try.prog 86 #[.agg #[.slice x128 x129 x130, .q x131, .q x132, .q x133], .slice x0 x1 x2, .q 35, .q 34] w26 (Ret fun x134 w31 =>
 ∃ x135 x136 x137 x138 x139 x140 x141 x142, x134 = .tuple #[.agg #[.slice x135 x136 x137, .q x138, .q x139, .q x140], .q x141, .s x142] ∧
 Writable w31 ⟨x67, 0, none⟩ 4 ∧ ∀ w32, w32 = setCells w31 ⟨x67, 0, none⟩ [.slice x135 x136 x137, .q x138, .q x139, .q x140] →
 Writable w32 ⟨x11, 0, none⟩ 1 ∧ ∀ w33, w33 = w32.setCell ⟨x11, 0, none⟩ (.q x141) →
 Writable w33 ⟨x11, 1, none⟩ 1 ∧ ∀ w34, w34 = w33.setCell ⟨x11, 1, none⟩ (.s x142) →
 J2 w34))) ∧
 ∀ (_x143 : Nat → Value) (w35 : World), J2 w35 →
 ∀ w36, w36 = w35.drew →
 ∃ (S1 : World → Prop), S1 w36 ∧
 ∃ x144 x145 x146 x147 x148 x149, (∀ u, S1 u → CellsAt u ⟨x67, 0, none⟩ [.slice x144 x145 x146, .q x147, .q x148, .q x149]) ∧
 ∃ x150 x151 x152 x153 x154, (∀ u, S1 u → CellsAt u ⟨x11, 0, none⟩ [.q x150, .s x151, .q x152, .q x153, .q x154]) ∧
 Calls Try.prog 54 #[.agg #[.slice x144 x145 x146, .q x147, .q x148, .q x149], .slice x0 x1 x2, .q (IntKind.i64.wrap (x4 + 1))] w36 (Ret fun x155 w37 =>
 ∃ x156 x157 x158 x159 x160 x161, x155 = .agg #[.slice x156 x157 x158, .q x159, .q x160, .q x161] ∧
 S1 w37 ∧
 Calls Try.prog 25 #[.agg #[.slice x156 x157 x158, .q x159, .q x160, .q x161], .agg #[.q x150, .s x151, .q x152, .q x153, .q x154]] w37 (Ret fun x162 w38 =>
 ∃ x163 x164 x165 x166 x167 x168, x162 = .agg #[.slice x163 x164 x165, .q x166, .q x167, .q x168] ∧
 Writable w38 ⟨x5, 0, none⟩ 4 ∧ ∀ w39, w39 = setCells w38 ⟨x5, 0, none⟩ [.slice x163 x164 x165, .q x166, .q x167, .q x168] →
 ∃ x169 x170 x171 x172 x173 x174, CellsAt w39 ⟨x5, 0, none⟩ [.slice x169 x170 x171, .q x172, .q x173, .q x174] ∧
 K (.agg #[.slice x169 x170 x171, .q x172, .q x173, .q x174]) w39)))))))
theorem R11_clause_ok (x0 : Option Addr) (x1 : Nat) (x2 : Nat) (x3 : Int) (x4 : Int) (K : Value → World → Prop) (w : World) (h : R11_clause_wp x0 x1 x2 x3 x4 K w) : Calls Try.prog 89 #[.slice x0 x1 x2, .q x3, .q x4] w (Ret K) :=
 calls_of { cuts := [(31, []), (62, [(40, .bool)]), (63, []), (126, [(57, .bool)])] } Try.func89 (by kernel_rfl) h
def R11_set_wp (x0 : Option Addr) (x1 : Nat) (x2 : Nat) (x3 : Int) (x4 : Int) (x5 : List UInt8) (x6 : Int) (x7 : Int) (x8 : Int) (K : Value → World → Prop) (w : World) : Prop :=
 ∀ x9 w1, x9 = w.heap.size → w1 = w.alloc (.cells #[.q x4, .s x5, .q x6, .q x7, .q x8] 39) →
 ∀ x10 w2, x10 = w1.heap.size → w2 = w1.alloc (.cells #[.slice none 0 0, .q 0, .q 0, .q 0] 59) →
 Calls Try.prog 21 #[.q x3] w2 (Ret fun x11 w3 =>
 ∃ x12 x13 x14 x15 x16 x17, x11 = .agg #[.slice x12 x13 x14, .q x15, .q x16, .q x17] ∧
 Calls Try.prog 51 #[.agg #[.slice x12 x13 x14, .q x15, .q x16, .q x17], .slice x0 x1 x2] w3 (Ret fun x18 w4 =>
 ∃ x19 x20 x21 x22 x23 x24 x25, x18 = .tuple #[.agg #[.slice x19 x20 x21, .q x22, .q x23, .q x24], .s x25] ∧
 ∀ x26 w5, x26 = w4.heap.size → w5 = w4.alloc (.cells #[.slice none 0 0, .q 0, .q 0, .q 0] 59) →
 Writable w5 ⟨x26, 0, none⟩ 4 ∧ ∀ w6, w6 = setCells w5 ⟨x26, 0, none⟩ [.slice x19 x20 x21, .q x22, .q x23, .q x24] →
 ∃ x27 x28 x29 x30 x31 x32, CellsAt w6 ⟨x26, 0, none⟩ [.slice x27 x28 x29, .q x30, .q x31, .q x32] ∧
 Calls Try.prog 50 #[.agg #[.slice x27 x28 x29, .q x30, .q x31, .q x32], .slice x0 x1 x2, .s [61]] w6 (Ret fun x33 w7 =>
 ∃ x34 x35 x36 x37 x38 x39, x33 = .agg #[.slice x34 x35 x36, .q x37, .q x38, .q x39] ∧
 Writable w7 ⟨x26, 0, none⟩ 4 ∧ ∀ w8, w8 = setCells w7 ⟨x26, 0, none⟩ [.slice x34 x35 x36, .q x37, .q x38, .q x39] →
 Writable w8 ⟨x9, 0, none⟩ 1 ∧ ∀ w9, w9 = w8.setCell ⟨x9, 0, none⟩ (.q 19) →
 Writable w9 ⟨x9, 1, none⟩ 1 ∧ ∀ w10, w10 = w9.setCell ⟨x9, 1, none⟩ (.s x25) →
 ∃ (J : World → Prop),
 (∃ (J1 : Bool → World → Prop),
 (∃ x40, w10.cell? ⟨x26, 3, none⟩ = some (.q x40) ∧
 cond (x40 == 0)
 (∃ x41, w10.cell? ⟨x26, 2, none⟩ = some (.q x41) ∧
 Calls Try.prog 49 #[.slice x0 x1 x2, .q x41, .s [114, 97, 110, 100, 111, 109]] w10 (Ret fun x42 w11 =>
 ∃ x43, x42 = .bool x43 ∧
 J1 x43 w11))
 (J1 false w10)) ∧
 ∀ (_x44 : Nat → Value) (x45 : Bool) (w12 : World), J1 x45 w12 →
 cond (x45)
 (Writable w12 ⟨x9, 0, none⟩ 1 ∧ ∀ w13, w13 = w12.setCell ⟨x9, 0, none⟩ (.q 20) →
 ∃ x46 x47 x48 x49 x50 x51, CellsAt w13 ⟨x26, 0, none⟩ [.slice x46 x47 x48, .q x49, .q x50, .q x51] ∧
 Calls Try.prog 50 #[.agg #[.slice x46 x47 x48, .q x49, .q x50, .q x51], .slice x0 x1 x2, .s [114, 97, 110, 100, 111, 109]] w13 (Ret fun x52 w14 =>
 ∃ x53 x54 x55 x56 x57 x58, x52 = .agg #[.slice x53 x54 x55, .q x56, .q x57, .q x58] ∧
 Calls Try.prog 50 #[.agg #[.slice x53 x54 x55, .q x56, .q x57, .q x58], .slice x0 x1 x2, .s [40]] w14 (Ret fun x59 w15 =>
 ∃ x60 x61 x62 x63 x64 x65, x59 = .agg #[.slice x60 x61 x62, .q x63, .q x64, .q x65] ∧
 Calls Try.prog 87 #[.agg #[.slice x60 x61 x62, .q x63, .q x64, .q x65], .slice x0 x1 x2] w15 (Ret fun x66 w16 =>
 ∃ x67 x68 x69 x70 x71 x72, x66 = .agg #[.slice x67 x68 x69, .q x70, .q x71, .q x72] ∧
 Calls Try.prog 50 #[.agg #[.slice x67 x68 x69, .q x70, .q x71, .q x72], .slice x0 x1 x2, .s [41]] w16 (Ret fun x73 w17 =>
 ∃ x74 x75 x76 x77 x78 x79, x73 = .agg #[.slice x74 x75 x76, .q x77, .q x78, .q x79] ∧
 Writable w17 ⟨x26, 0, none⟩ 4 ∧ ∀ w18, w18 = setCells w17 ⟨x26, 0, none⟩ [.slice x74 x75 x76, .q x77, .q x78, .q x79] →
 J w18)))))
 (∃ x80 x81 x82 x83 x84 x85, CellsAt w12 ⟨x26, 0, none⟩ [.slice x80 x81 x82, .q x83, .q x84, .q x85] ∧
 Calls Try.prog 87 #[.agg #[.slice x80 x81 x82, .q x83, .q x84, .q x85], .slice x0 x1 x2] w12 (Ret fun x86 w19 =>
 ∃ x87 x88 x89 x90 x91 x92, x86 = .agg #[.slice x87 x88 x89, .q x90, .q x91, .q x92] ∧
 Writable w19 ⟨x26, 0, none⟩ 4 ∧ ∀ w20, w20 = setCells w19 ⟨x26, 0, none⟩ [.slice x87 x88 x89, .q x90, .q x91, .q x92] →
 J w20))) ∧
 ∀ (_x93 : Nat → Value) (w21 : World), J w21 →
 ∀ w22, w22 = w21.drew →
 ∃ (S : World → Prop), S w22 ∧
 ∃ x94 x95 x96 x97 x98 x99, (∀ u, S u → CellsAt u ⟨x26, 0, none⟩ [.slice x94 x95 x96, .q x97, .q x98, .q x99]) ∧
 ∃ x100 x101 x102 x103 x104, (∀ u, S u → CellsAt u ⟨x9, 0, none⟩ [.q x100, .s x101, .q x102, .q x103, .q x104]) ∧
 Calls Try.prog 50 #[.agg #[.slice x94 x95 x96, .q x97, .q x98, .q x99], .slice x0 x1 x2, .s [59]] w22 (Ret fun x105 w23 =>
 ∃ x106 x107 x108 x109 x110 x111, x105 = .agg #[.slice x106 x107 x108, .q x109, .q x110, .q x111] ∧
 S w23 ∧
 Calls Try.prog 25 #[.agg #[.slice x106 x107 x108, .q x109, .q x110, .q x111], .agg #[.q x100, .s x101, .q x102, .q x103, .q x104]] w23 (Ret fun x112 w24 =>
 ∃ x113 x114 x115 x116 x117 x118, x112 = .agg #[.slice x113 x114 x115, .q x116, .q x117, .q x118] ∧
 Writable w24 ⟨x10, 0, none⟩ 4 ∧ ∀ w25, w25 = setCells w24 ⟨x10, 0, none⟩ [.slice x113 x114 x115, .q x116, .q x117, .q x118] →
 ∃ x119 x120 x121 x122 x123 x124, CellsAt w25 ⟨x10, 0, none⟩ [.slice x119 x120 x121, .q x122, .q x123, .q x124] ∧
 K (.agg #[.slice x119 x120 x121, .q x122, .q x123, .q x124]) w25)))))
theorem R11_set_ok (x0 : Option Addr) (x1 : Nat) (x2 : Nat) (x3 : Int) (x4 : Int) (x5 : List UInt8) (x6 : Int) (x7 : Int) (x8 : Int) (K : Value → World → Prop) (w : World) (h : R11_set_wp x0 x1 x2 x3 x4 x5 x6 x7 x8 K w) : Calls Try.prog 85 #[.slice x0 x1 x2, .q x3, .agg #[.q x4, .s x5, .q x6, .q x7, .q x8]] w (Ret K) :=
 calls_of { cuts := [(31, []), (62, [(30, .bool)])] } Try.func85 (by kernel_rfl) h
end Go.Proofs.Ytdbdkdmgfiiljaa
namespace Go.Proofs.Ytdbdkdmgfiiljaa
open Go.Vc
def R11_stmt_wp (x0 : Option Addr) (x1 : Nat) (x2 : Nat) (x3 : Int) (x4 : Int) (K : Value → World → Prop) (w : World) : Prop :=
 ∀ x5 w1, x5 = w.heap.size → w1 = w.alloc (.cells #[.slice none 0 0, .q 0, .q 0, .q 0] 59) →
 Calls Try.prog 22 #[.slice x0 x1 x2, .q x3] w1 (Ret fun x6 w2 =>
 ∃ x7 x8 x9 x10, x6 = .agg #[.q x7, .s x8, .q x9, .q x10] ∧
 ∀ x11 w3, x11 = w2.heap.size → w3 = w2.alloc (.cells #[.q 0, .s [], .q 0, .q 0] 44) →
 Writable w3 ⟨x11, 0, none⟩ 4 ∧ ∀ w4, w4 = setCells w3 ⟨x11, 0, none⟩ [.q x7, .s x8, .q x9, .q x10] →
 ∃ x12, w4.cell? ⟨x11, 3, none⟩ = some (.q x12) ∧
 ∀ x13 w5, x13 = w4.heap.size → w5 = w4.alloc (.cells #[.q 0, .s [], .q 0, .q 0, .q 0] 39) →
 Writable w5 ⟨x13, 0, none⟩ 5 ∧ ∀ w6, w6 = setCells w5 ⟨x13, 0, none⟩ [.q 0, .s [], .q 0, .q 0, .q x12] →
 Calls Try.prog 21 #[.q x3] w6 (Ret fun x14 w7 =>
 ∃ x15 x16 x17 x18 x19 x20, x14 = .agg #[.slice x15 x16 x17, .q x18, .q x19, .q x20] ∧
 ∀ x21 w8, x21 = w7.heap.size → w8 = w7.alloc (.cells #[.slice none 0 0, .q 0, .q 0, .q 0] 59) →
 Writable w8 ⟨x21, 0, none⟩ 4 ∧ ∀ w9, w9 = setCells w8 ⟨x21, 0, none⟩ [.slice x15 x16 x17, .q x18, .q x19, .q x20] →
 ∃ (J : Bool → World → Prop),
 (∃ x22, w9.cell? ⟨x11, 0, none⟩ = some (.q x22) ∧
 cond (x22 == 1)
 (Calls Try.prog 49 #[.slice x0 x1 x2, .q (IntKind.i64.wrap (x3 + 1)), .s [61]] w9 (Ret fun x23 w10 =>
 ∃ x24, x23 = .bool x24 ∧
 J x24 w10))
 (J false w9)) ∧
 ∀ (_x25 : Nat → Value) (x26 : Bool) (w11 : World), J x26 w11 →
 cond (x26)
 (∃ x27 x28 x29 x30 x31, CellsAt w11 ⟨x13, 0, none⟩ [.q x27, .s x28, .q x29, .q x30, .q x31] ∧
 Calls Try.prog 85 #[.slice x0 x1 x2, .q x3, .agg #[.q x27, .s x28, .q x29, .q x30, .q x31]] w11 (Ret fun x32 w12 =>
 ∃ x33 x34 x35 x36 x37 x38, x32 = .agg #[.slice x33 x34 x35, .q x36, .q x37, .q x38] ∧
 Writable w12 ⟨x5, 0, none⟩ 4 ∧ ∀ w13, w13 = setCells w12 ⟨x5, 0, none⟩ [.slice x33 x34 x35, .q x36, .q x37, .q x38] →
 ∃ x39 x40 x41 x42 x43 x44, CellsAt w13 ⟨x5, 0, none⟩ [.slice x39 x40 x41, .q x42, .q x43, .q x44] ∧
 K (.agg #[.slice x39 x40 x41, .q x42, .q x43, .q x44]) w13))
 (∃ x45, w11.cell? ⟨x11, 0, none⟩ = some (.q x45) ∧
 cond (x45 == 1)
 (∃ x46 x47 x48 x49 x50 x51, CellsAt w11 ⟨x21, 0, none⟩ [.slice x46 x47 x48, .q x49, .q x50, .q x51] ∧
 Calls Try.prog 86 #[.agg #[.slice x46 x47 x48, .q x49, .q x50, .q x51], .slice x0 x1 x2, .q 21, .q 22] w11 (Ret fun x52 w14 =>
 ∃ x53 x54 x55 x56 x57 x58 x59 x60, x52 = .tuple #[.agg #[.slice x53 x54 x55, .q x56, .q x57, .q x58], .q x59, .s x60] ∧
 Writable w14 ⟨x21, 0, none⟩ 4 ∧ ∀ w15, w15 = setCells w14 ⟨x21, 0, none⟩ [.slice x53 x54 x55, .q x56, .q x57, .q x58] →
 Writable w15 ⟨x13, 0, none⟩ 1 ∧ ∀ w16, w16 = w15.setCell ⟨x13, 0, none⟩ (.q x59) →
 Writable w16 ⟨x13, 1, none⟩ 1 ∧ ∀ w17, w17 = w16.setCell ⟨x13, 1, none⟩ (.s x60) →
 ∀ w18, w18 = w17.drew →
 ∃ (S : World → Prop), S w18 ∧
 ∃ x61 x62 x63 x64 x65 x66, (∀ u, S u → CellsAt u ⟨x21, 0, none⟩ [.slice x61 x62 x63, .q x64, .q x65, .q x66]) ∧
 ∃ x67 x68 x69 x70 x71, (∀ u, S u → CellsAt u ⟨x13, 0, none⟩ [.q x67, .s x68, .q x69, .q x70, .q x71]) ∧
 Calls Try.prog 50 #[.agg #[.slice x61 x62 x63, .q x64, .q x65, .q x66], .slice x0 x1 x2, .s [59]] w18 (Ret fun x72 w19 =>
 ∃ x73 x74 x75 x76 x77 x78, x72 = .agg #[.slice x73 x74 x75, .q x76, .q x77, .q x78] ∧
 S w19 ∧
 Calls Try.prog 25 #[.agg #[.slice x73 x74 x75, .q x76, .q x77, .q x78], .agg #[.q x67, .s x68, .q x69, .q x70, .q x71]] w19 (Ret fun x79 w20 =>
 ∃ x80 x81 x82 x83 x84 x85, x79 = .agg #[.slice x80 x81 x82, .q x83, .q x84, .q x85] ∧
 Writable w20 ⟨x5, 0, none⟩ 4 ∧ ∀ w21, w21 = setCells w20 ⟨x5, 0, none⟩ [.slice x80 x81 x82, .q x83, .q x84, .q x85] →
 ∃ x86 x87 x88 x89 x90 x91, CellsAt w21 ⟨x5, 0, none⟩ [.slice x86 x87 x88, .q x89, .q x90, .q x91] ∧
 K (.agg #[.slice x86 x87 x88, .q x89, .q x90, .q x91]) w21))))
 (∃ x92, w11.cell? ⟨x11, 0, none⟩ = some (.q x92) ∧
 cond (x92 != 3)
 (Writable w11 ⟨x21, 3, none⟩ 1 ∧ ∀ w22, w22 = w11.setCell ⟨x21, 3, none⟩ (.q 11) →
 ∃ x93 x94 x95 x96 x97 x98, CellsAt w22 ⟨x21, 0, none⟩ [.slice x93 x94 x95, .q x96, .q x97, .q x98] ∧
 Writable w22 ⟨x5, 0, none⟩ 4 ∧ ∀ w23, w23 = setCells w22 ⟨x5, 0, none⟩ [.slice x93 x94 x95, .q x96, .q x97, .q x98] →
 ∃ x99 x100 x101 x102 x103 x104, CellsAt w23 ⟨x5, 0, none⟩ [.slice x99 x100 x101, .q x102, .q x103, .q x104] ∧
 K (.agg #[.slice x99 x100 x101, .q x102, .q x103, .q x104]) w23)
 (∃ x105, w11.cell? ⟨x11, 1, none⟩ = some (.s x105) ∧
 cond (x105 == [118, 97, 114])
 (Writable w11 ⟨x13, 0, none⟩ 1 ∧ ∀ w24, w24 = w11.setCell ⟨x13, 0, none⟩ (.q 18) →
 ∃ x106 x107 x108 x109 x110 x111, CellsAt w24 ⟨x21, 0, none⟩ [.slice x106 x107 x108, .q x109, .q x110, .q x111] ∧
 Calls Try.prog 50 #[.agg #[.slice x106 x107 x108, .q x109, .q x110, .q x111], .slice x0 x1 x2, .s [118, 97, 114]] w24 (Ret fun x112 w25 =>
 ∃ x113 x114 x115 x116 x117 x118, x112 = .agg #[.slice x113 x114 x115, .q x116, .q x117, .q x118] ∧
 Calls Try.prog 51 #[.agg #[.slice x113 x114 x115, .q x116, .q x117, .q x118], .slice x0 x1 x2] w25 (Ret fun x119 w26 =>
 ∃ x120 x121 x122 x123 x124 x125 x126, x119 = .tuple #[.agg #[.slice x120 x121 x122, .q x123, .q x124, .q x125], .s x126] ∧
 Writable w26 ⟨x21, 0, none⟩ 4 ∧ ∀ w27, w27 = setCells w26 ⟨x21, 0, none⟩ [.slice x120 x121 x122, .q x123, .q x124, .q x125] →
 Writable w27 ⟨x13, 1, none⟩ 1 ∧ ∀ w28, w28 = w27.setCell ⟨x13, 1, none⟩ (.s x126) →
 ∀ w29, w29 = w28.drew →
 ∃ (S1 : World → Prop), S1 w29 ∧
 ∃ x127 x128 x129 x130 x131 x132, (∀ u, S1 u → CellsAt u ⟨x21, 0, none⟩ [.slice x127 x128 x129, .q x130, .q x131, .q x132]) ∧
 ∃ x133 x134 x135 x136 x137, (∀ u, S1 u → CellsAt u ⟨x13, 0, none⟩ [.q x133, .s x134, .q x135, .q x136, .q x137]) ∧
 Calls Try.prog 50 #[.agg #[.slice x127 x128 x129, .q x130, .q x131, .q x132], .slice x0 x1 x2, .s [61]] w29 (Ret fun x138 w30 =>
 ∃ x139 x140 x141 x142 x143 x144, x138 = .agg #[.slice x139 x140 x141, .q x142, .q x143, .q x144] ∧
 S1 w30 ∧
 Calls Try.prog 87 #[.agg #[.slice x139 x140 x141, .q x142, .q x143, .q x144], .slice x0 x1 x2] w30 (Ret fun x145 w31 =>
 ∃ x146 x147 x148 x149 x150 x151, x145 = .agg #[.slice x146 x147 x148, .q x149, .q x150, .q x151] ∧
 S1 w31 ∧
 Calls Try.prog 50 #[.agg #[.slice x146 x147 x148, .q x149, .q x150, .q x151], .slice x0 x1 x2, .s [59]] w31 (Ret fun x152 w32 =>
 ∃ x153 x154 x155 x156 x157 x158, x152 = .agg #[.slice x153 x154 x155, .q x156, .q x157, .q x158] ∧
 S1 w32 ∧
 Calls Try.prog 25 #[.agg #[.slice x153 x154 x155, .q x156, .q x157, .q x158], .agg #[.q x133, .s x134, .q x135, .q x136, .q x137]] w32 (Ret fun x159 w33 =>
 ∃ x160 x161 x162 x163 x164 x165, x159 = .agg #[.slice x160 x161 x162, .q x163, .q x164, .q x165] ∧
 Writable w33 ⟨x5, 0, none⟩ 4 ∧ ∀ w34, w34 = setCells w33 ⟨x5, 0, none⟩ [.slice x160 x161 x162, .q x163, .q x164, .q x165] →
 ∃ x166 x167 x168 x169 x170 x171, CellsAt w34 ⟨x5, 0, none⟩ [.slice x166 x167 x168, .q x169, .q x170, .q x171] ∧
 K (.agg #[.slice x166 x167 x168, .q x169, .q x170, .q x171]) w34)))))))
 (cond (x105 == [115, 116, 97, 114, 116])
 (Writable w11 ⟨x13, 0, none⟩ 1 ∧ ∀ w35, w35 = w11.setCell ⟨x13, 0, none⟩ (.q 26) →
 ∃ x172 x173 x174 x175 x176 x177, CellsAt w35 ⟨x21, 0, none⟩ [.slice x172 x173 x174, .q x175, .q x176, .q x177] ∧
 Calls Try.prog 50 #[.agg #[.slice x172 x173 x174, .q x175, .q x176, .q x177], .slice x0 x1 x2, .s [115, 116, 97, 114, 116]] w35 (Ret fun x178 w36 =>
 ∃ x179 x180 x181 x182 x183 x184, x178 = .agg #[.slice x179 x180 x181, .q x182, .q x183, .q x184] ∧
 Calls Try.prog 51 #[.agg #[.slice x179 x180 x181, .q x182, .q x183, .q x184], .slice x0 x1 x2] w36 (Ret fun x185 w37 =>
 ∃ x186 x187 x188 x189 x190 x191 x192, x185 = .tuple #[.agg #[.slice x186 x187 x188, .q x189, .q x190, .q x191], .s x192] ∧
 Writable w37 ⟨x21, 0, none⟩ 4 ∧ ∀ w38, w38 = setCells w37 ⟨x21, 0, none⟩ [.slice x186 x187 x188, .q x189, .q x190, .q x191] →
 Writable w38 ⟨x13, 1, none⟩ 1 ∧ ∀ w39, w39 = w38.setCell ⟨x13, 1, none⟩ (.s x192) →
 ∀ w40, w40 = w39.drew →
 ∃ (S2 : World → Prop), S2 w40 ∧
 ∃ x193 x194 x195 x196 x197 x198, (∀ u, S2 u → CellsAt u ⟨x21, 0, none⟩ [.slice x193 x194 x195, .q x196, .q x197, .q x198]) ∧
 ∃ x199 x200 x201 x202 x203, (∀ u, S2 u → CellsAt u ⟨x13, 0, none⟩ [.q x199, .s x200, .q x201, .q x202, .q x203]) ∧
 Calls Try.prog 88 #[.agg #[.slice x193 x194 x195, .q x196, .q x197, .q x198], .slice x0 x1 x2] w40 (Ret fun x204 w41 =>
 ∃ x205 x206 x207 x208 x209 x210, x204 = .agg #[.slice x205 x206 x207, .q x208, .q x209, .q x210] ∧
 S2 w41 ∧
 Calls Try.prog 50 #[.agg #[.slice x205 x206 x207, .q x208, .q x209, .q x210], .slice x0 x1 x2, .s [59]] w41 (Ret fun x211 w42 =>
 ∃ x212 x213 x214 x215 x216 x217, x211 = .agg #[.slice x212 x213 x214, .q x215, .q x216, .q x217] ∧
 S2 w42 ∧
 Calls Try.prog 25 #[.agg #[.slice x212 x213 x214, .q x215, .q x216, .q x217], .agg #[.q x199, .s x200, .q x201, .q x202, .q x203]] w42 (Ret fun x218 w43 =>
 ∃ x219 x220 x221 x222 x223 x224, x218 = .agg #[.slice x219 x220 x221, .q x222, .q x223, .q x224] ∧
 Writable w43 ⟨x5, 0, none⟩ 4 ∧ ∀ w44, w44 = setCells w43 ⟨x5, 0, none⟩ [.slice x219 x220 x221, .q x222, .q x223, .q x224] →
 ∃ x225 x226 x227 x228 x229 x230, CellsAt w44 ⟨x5, 0, none⟩ [.slice x225 x226 x227, .q x228, .q x229, .q x230] ∧
 K (.agg #[.slice x225 x226 x227, .q x228, .q x229, .q x230]) w44))))))
 (cond (x105 == [115, 108, 101, 101, 112])
 (Writable w11 ⟨x13, 0, none⟩ 1 ∧ ∀ w45, w45 = w11.setCell ⟨x13, 0, none⟩ (.q 27) →
 ∀ w46, w46 = w45.drew →
 ∃ (S3 : World → Prop), S3 w46 ∧
 ∃ x231 x232 x233 x234 x235 x236, (∀ u, S3 u → CellsAt u ⟨x21, 0, none⟩ [.slice x231 x232 x233, .q x234, .q x235, .q x236]) ∧
 ∃ x237 x238 x239 x240 x241, (∀ u, S3 u → CellsAt u ⟨x13, 0, none⟩ [.q x237, .s x238, .q x239, .q x240, .q x241]) ∧
 Calls Try.prog 50 #[.agg #[.slice x231 x232 x233, .q x234, .q x235, .q x236], .slice x0 x1 x2, .s [115, 108, 101, 101, 112]] w46 (Ret fun x242 w47 =>
 ∃ x243 x244 x245 x246 x247 x248, x242 = .agg #[.slice x243 x244 x245, .q x246, .q x247, .q x248] ∧
 S3 w47 ∧
 Calls Try.prog 87 #[.agg #[.slice x243 x244 x245, .q x246, .q x247, .q x248], .slice x0 x1 x2] w47 (Ret fun x249 w48 =>
 ∃ x250 x251 x252 x253 x254 x255, x249 = .agg #[.slice x250 x251 x252, .q x253, .q x254, .q x255] ∧
 S3 w48 ∧
 Calls Try.prog 50 #[.agg #[.slice x250 x251 x252, .q x253, .q x254, .q x255], .slice x0 x1 x2, .s [59]] w48 (Ret fun x256 w49 =>
 ∃ x257 x258 x259 x260 x261 x262, x256 = .agg #[.slice x257 x258 x259, .q x260, .q x261, .q x262] ∧
 S3 w49 ∧
 Calls Try.prog 25 #[.agg #[.slice x257 x258 x259, .q x260, .q x261, .q x262], .agg #[.q x237, .s x238, .q x239, .q x240, .q x241]] w49 (Ret fun x263 w50 =>
 ∃ x264 x265 x266 x267 x268 x269, x263 = .agg #[.slice x264 x265 x266, .q x267, .q x268, .q x269] ∧
 Writable w50 ⟨x5, 0, none⟩ 4 ∧ ∀ w51, w51 = setCells w50 ⟨x5, 0, none⟩ [.slice x264 x265 x266, .q x267, .q x268, .q x269] →
 ∃ x270 x271 x272 x273 x274 x275, CellsAt w51 ⟨x5, 0, none⟩ [.slice x270 x271 x272, .q x273, .q x274, .q x275] ∧
 K (.agg #[.slice x270 x271 x272, .q x273, .q x274, .q x275]) w51)))))
 (cond (x105 == [112, 114, 105, 110, 116])
 (Writable w11 ⟨x13, 0, none⟩ 1 ∧ ∀ w52, w52 = w11.setCell ⟨x13, 0, none⟩ (.q 28) →
 ∀ w53, w53 = w52.drew →
 ∃ (S4 : World → Prop), S4 w53 ∧
 ∃ x276 x277 x278 x279 x280 x281, (∀ u, S4 u → CellsAt u ⟨x21, 0, none⟩ [.slice x276 x277 x278, .q x279, .q x280, .q x281]) ∧
 ∃ x282 x283 x284 x285 x286, (∀ u, S4 u → CellsAt u ⟨x13, 0, none⟩ [.q x282, .s x283, .q x284, .q x285, .q x286]) ∧
 Calls Try.prog 50 #[.agg #[.slice x276 x277 x278, .q x279, .q x280, .q x281], .slice x0 x1 x2, .s [112, 114, 105, 110, 116]] w53 (Ret fun x287 w54 =>
 ∃ x288 x289 x290 x291 x292 x293, x287 = .agg #[.slice x288 x289 x290, .q x291, .q x292, .q x293] ∧
 S4 w54 ∧
 Calls Try.prog 87 #[.agg #[.slice x288 x289 x290, .q x291, .q x292, .q x293], .slice x0 x1 x2] w54 (Ret fun x294 w55 =>
 ∃ x295 x296 x297 x298 x299 x300, x294 = .agg #[.slice x295 x296 x297, .q x298, .q x299, .q x300] ∧
 S4 w55 ∧
 Calls Try.prog 50 #[.agg #[.slice x295 x296 x297, .q x298, .q x299, .q x300], .slice x0 x1 x2, .s [59]] w55 (Ret fun x301 w56 =>
 ∃ x302 x303 x304 x305 x306 x307, x301 = .agg #[.slice x302 x303 x304, .q x305, .q x306, .q x307] ∧
 S4 w56 ∧
 Calls Try.prog 25 #[.agg #[.slice x302 x303 x304, .q x305, .q x306, .q x307], .agg #[.q x282, .s x283, .q x284, .q x285, .q x286]] w56 (Ret fun x308 w57 =>
 ∃ x309 x310 x311 x312 x313 x314, x308 = .agg #[.slice x309 x310 x311, .q x312, .q x313, .q x314] ∧
 Writable w57 ⟨x5, 0, none⟩ 4 ∧ ∀ w58, w58 = setCells w57 ⟨x5, 0, none⟩ [.slice x309 x310 x311, .q x312, .q x313, .q x314] →
 ∃ x315 x316 x317 x318 x319 x320, CellsAt w58 ⟨x5, 0, none⟩ [.slice x315 x316 x317, .q x318, .q x319, .q x320] ∧
 K (.agg #[.slice x315 x316 x317, .q x318, .q x319, .q x320]) w58)))))
 (cond (x105 == [97, 115, 115, 101, 114, 116])
 (Writable w11 ⟨x13, 0, none⟩ 1 ∧ ∀ w59, w59 = w11.setCell ⟨x13, 0, none⟩ (.q 29) →
 ∀ w60, w60 = w59.drew →
 ∃ (S5 : World → Prop), S5 w60 ∧
 ∃ x321 x322 x323 x324 x325 x326, (∀ u, S5 u → CellsAt u ⟨x21, 0, none⟩ [.slice x321 x322 x323, .q x324, .q x325, .q x326]) ∧
 ∃ x327 x328 x329 x330 x331, (∀ u, S5 u → CellsAt u ⟨x13, 0, none⟩ [.q x327, .s x328, .q x329, .q x330, .q x331]) ∧
 Calls Try.prog 50 #[.agg #[.slice x321 x322 x323, .q x324, .q x325, .q x326], .slice x0 x1 x2, .s [97, 115, 115, 101, 114, 116]] w60 (Ret fun x332 w61 =>
 ∃ x333 x334 x335 x336 x337 x338, x332 = .agg #[.slice x333 x334 x335, .q x336, .q x337, .q x338] ∧
 S5 w61 ∧
 Calls Try.prog 87 #[.agg #[.slice x333 x334 x335, .q x336, .q x337, .q x338], .slice x0 x1 x2] w61 (Ret fun x339 w62 =>
 ∃ x340 x341 x342 x343 x344 x345, x339 = .agg #[.slice x340 x341 x342, .q x343, .q x344, .q x345] ∧
 S5 w62 ∧
 Calls Try.prog 50 #[.agg #[.slice x340 x341 x342, .q x343, .q x344, .q x345], .slice x0 x1 x2, .s [59]] w62 (Ret fun x346 w63 =>
 ∃ x347 x348 x349 x350 x351 x352, x346 = .agg #[.slice x347 x348 x349, .q x350, .q x351, .q x352] ∧
 S5 w63 ∧
 Calls Try.prog 25 #[.agg #[.slice x347 x348 x349, .q x350, .q x351, .q x352], .agg #[.q x327, .s x328, .q x329, .q x330, .q x331]] w63 (Ret fun x353 w64 =>
 ∃ x354 x355 x356 x357 x358 x359, x353 = .agg #[.slice x354 x355 x356, .q x357, .q x358, .q x359] ∧
 Writable w64 ⟨x5, 0, none⟩ 4 ∧ ∀ w65, w65 = setCells w64 ⟨x5, 0, none⟩ [.slice x354 x355 x356, .q x357, .q x358, .q x359] →
 ∃ x360 x361 x362 x363 x364 x365, CellsAt w65 ⟨x5, 0, none⟩ [.slice x360 x361 x362, .q x363, .q x364, .q x365] ∧
 K (.agg #[.slice x360 x361 x362, .q x363, .q x364, .q x365]) w65)))))
 (cond (x105 == [115, 107, 105, 112])
 (Writable w11 ⟨x13, 0, none⟩ 1 ∧ ∀ w66, w66 = w11.setCell ⟨x13, 0, none⟩ (.q 30) →
 ∀ w67, w67 = w66.drew →
 ∃ (S6 : World → Prop), S6 w67 ∧
 ∃ x366 x367 x368 x369 x370 x371, (∀ u, S6 u → CellsAt u ⟨x21, 0, none⟩ [.slice x366 x367 x368, .q x369, .q x370, .q x371]) ∧
 ∃ x372 x373 x374 x375 x376, (∀ u, S6 u → CellsAt u ⟨x13, 0, none⟩ [.q x372, .s x373, .q x374, .q x375, .q x376]) ∧
 Calls Try.prog 50 #[.agg #[.slice x366 x367 x368, .q x369, .q x370, .q x371], .slice x0 x1 x2, .s [115, 107, 105, 112]] w67 (Ret fun x377 w68 =>
 ∃ x378 x379 x380 x381 x382 x383, x377 = .agg #[.slice x378 x379 x380, .q x381, .q x382, .q x383] ∧
 S6 w68 ∧
 Calls Try.prog 50 #[.agg #[.slice x378 x379 x380, .q x381, .q x382, .q x383], .slice x0 x1 x2, .s [59]] w68 (Ret fun x384 w69 =>
 ∃ x385 x386 x387 x388 x389 x390, x384 = .agg #[.slice x385 x386 x387, .q x388, .q x389, .q x390] ∧
 S6 w69 ∧
 Calls Try.prog 25 #[.agg #[.slice x385 x386 x387, .q x388, .q x389, .q x390], .agg #[.q x372, .s x373, .q x374, .q x375, .q x376]] w69 (Ret fun x391 w70 =>
 ∃ x392 x393 x394 x395 x396 x397, x391 = .agg #[.slice x392 x393 x394, .q x395, .q x396, .q x397] ∧
 Writable w70 ⟨x5, 0, none⟩ 4 ∧ ∀ w71, w71 = setCells w70 ⟨x5, 0, none⟩ [.slice x392 x393 x394, .q x395, .q x396, .q x397] →
 ∃ x398 x399 x400 x401 x402 x403, CellsAt w71 ⟨x5, 0, none⟩ [.slice x398 x399 x400, .q x401, .q x402, .q x403] ∧
 K (.agg #[.slice x398 x399 x400, .q x401, .q x402, .q x403]) w71))))
 (cond (x105 == [115, 116, 111, 112])
 (Writable w11 ⟨x13, 0, none⟩ 1 ∧ ∀ w72, w72 = w11.setCell ⟨x13, 0, none⟩ (.q 31) →
 ∀ w73, w73 = w72.drew →
 ∃ (S7 : World → Prop), S7 w73 ∧
 ∃ x404 x405 x406 x407 x408 x409, (∀ u, S7 u → CellsAt u ⟨x21, 0, none⟩ [.slice x404 x405 x406, .q x407, .q x408, .q x409]) ∧
 ∃ x410 x411 x412 x413 x414, (∀ u, S7 u → CellsAt u ⟨x13, 0, none⟩ [.q x410, .s x411, .q x412, .q x413, .q x414]) ∧
 Calls Try.prog 50 #[.agg #[.slice x404 x405 x406, .q x407, .q x408, .q x409], .slice x0 x1 x2, .s [115, 116, 111, 112]] w73 (Ret fun x415 w74 =>
 ∃ x416 x417 x418 x419 x420 x421, x415 = .agg #[.slice x416 x417 x418, .q x419, .q x420, .q x421] ∧
 S7 w74 ∧
 Calls Try.prog 50 #[.agg #[.slice x416 x417 x418, .q x419, .q x420, .q x421], .slice x0 x1 x2, .s [59]] w74 (Ret fun x422 w75 =>
 ∃ x423 x424 x425 x426 x427 x428, x422 = .agg #[.slice x423 x424 x425, .q x426, .q x427, .q x428] ∧
 S7 w75 ∧
 Calls Try.prog 25 #[.agg #[.slice x423 x424 x425, .q x426, .q x427, .q x428], .agg #[.q x410, .s x411, .q x412, .q x413, .q x414]] w75 (Ret fun x429 w76 =>
 ∃ x430 x431 x432 x433 x434 x435, x429 = .agg #[.slice x430 x431 x432, .q x433, .q x434, .q x435] ∧
 Writable w76 ⟨x5, 0, none⟩ 4 ∧ ∀ w77, w77 = setCells w76 ⟨x5, 0, none⟩ [.slice x430 x431 x432, .q x433, .q x434, .q x435] →
 ∃ x436 x437 x438 x439 x440 x441, CellsAt w77 ⟨x5, 0, none⟩ [.slice x436 x437 x438, .q x439, .q x440, .q x441] ∧
 K (.agg #[.slice x436 x437 x438, .q x439, .q x440, .q x441]) w77))))
 (cond (x105 == [119, 104, 105, 108, 101])
 (Writable w11 ⟨x13, 0, none⟩ 1 ∧ ∀ w78, w78 = w11.setCell ⟨x13, 0, none⟩ (.q 24) →
 ∀ w79, w79 = w78.drew →
 ∃ (S8 : World → Prop), S8 w79 ∧
 ∃ x442 x443 x444 x445 x446 x447, (∀ u, S8 u → CellsAt u ⟨x21, 0, none⟩ [.slice x442 x443 x444, .q x445, .q x446, .q x447]) ∧
 ∃ x448 x449 x450 x451 x452, (∀ u, S8 u → CellsAt u ⟨x13, 0, none⟩ [.q x448, .s x449, .q x450, .q x451, .q x452]) ∧
 Calls Try.prog 50 #[.agg #[.slice x442 x443 x444, .q x445, .q x446, .q x447], .slice x0 x1 x2, .s [119, 104, 105, 108, 101]] w79 (Ret fun x453 w80 =>
 ∃ x454 x455 x456 x457 x458 x459, x453 = .agg #[.slice x454 x455 x456, .q x457, .q x458, .q x459] ∧
 S8 w80 ∧
 Calls Try.prog 87 #[.agg #[.slice x454 x455 x456, .q x457, .q x458, .q x459], .slice x0 x1 x2] w80 (Ret fun x460 w81 =>
 ∃ x461 x462 x463 x464 x465 x466, x460 = .agg #[.slice x461 x462 x463, .q x464, .q x465, .q x466] ∧
 S8 w81 ∧
 Calls Try.prog 54 #[.agg #[.slice x461 x462 x463, .q x464, .q x465, .q x466], .slice x0 x1 x2, .q (IntKind.i64.wrap (x4 + 1))] w81 (Ret fun x467 w82 =>
 ∃ x468 x469 x470 x471 x472 x473, x467 = .agg #[.slice x468 x469 x470, .q x471, .q x472, .q x473] ∧
 S8 w82 ∧
 Calls Try.prog 25 #[.agg #[.slice x468 x469 x470, .q x471, .q x472, .q x473], .agg #[.q x448, .s x449, .q x450, .q x451, .q x452]] w82 (Ret fun x474 w83 =>
 ∃ x475 x476 x477 x478 x479 x480, x474 = .agg #[.slice x475 x476 x477, .q x478, .q x479, .q x480] ∧
 Writable w83 ⟨x5, 0, none⟩ 4 ∧ ∀ w84, w84 = setCells w83 ⟨x5, 0, none⟩ [.slice x475 x476 x477, .q x478, .q x479, .q x480] →
 ∃ x481 x482 x483 x484 x485 x486, CellsAt w84 ⟨x5, 0, none⟩ [.slice x481 x482 x483, .q x484, .q x485, .q x486] ∧
 K (.agg #[.slice x481 x482 x483, .q x484, .q x485, .q x486]) w84)))))
 (cond (x105 == [105, 102])
 (Writable w11 ⟨x13, 0, none⟩ 1 ∧ ∀ w85, w85 = w11.setCell ⟨x13, 0, none⟩ (.q 23) →
 ∃ x487 x488 x489 x490 x491 x492, CellsAt w85 ⟨x21, 0, none⟩ [.slice x487 x488 x489, .q x490, .q x491, .q x492] ∧
 Calls Try.prog 50 #[.agg #[.slice x487 x488 x489, .q x490, .q x491, .q x492], .slice x0 x1 x2, .s [105, 102]] w85 (Ret fun x493 w86 =>
 ∃ x494 x495 x496 x497 x498 x499, x493 = .agg #[.slice x494 x495 x496, .q x497, .q x498, .q x499] ∧
 Calls Try.prog 87 #[.agg #[.slice x494 x495 x496, .q x497, .q x498, .q x499], .slice x0 x1 x2] w86 (Ret fun x500 w87 =>
 ∃ x501 x502 x503 x504 x505 x506, x500 = .agg #[.slice x501 x502 x503, .q x504, .q x505, .q x506] ∧
 Calls Try.prog 54 #[.agg #[.slice x501 x502 x503, .q x504, .q x505, .q x506], .slice x0 x1 x2, .q (IntKind.i64.wrap (x4 + 1))] w87 (Ret fun x507 w88 =>
 ∃ x508 x509 x510 x511 x512 x513, x507 = .agg #[.slice x508 x509 x510, .q x511, .q x512, .q x513] ∧
 Writable w88 ⟨x21, 0, none⟩ 4 ∧ ∀ w89, w89 = setCells w88 ⟨x21, 0, none⟩ [.slice x508 x509 x510, .q x511, .q x512, .q x513] →
 ∃ (J1 : World → Prop),
 (∃ (J2 : Bool → World → Prop),
 (∃ x514, w89.cell? ⟨x21, 3, none⟩ = some (.q x514) ∧
 cond (x514 == 0)
 (∃ x515, w89.cell? ⟨x21, 2, none⟩ = some (.q x515) ∧
 Calls Try.prog 49 #[.slice x0 x1 x2, .q x515, .s [101, 108, 115, 101]] w89 (Ret fun x516 w90 =>
 ∃ x517, x516 = .bool x517 ∧
 J2 x517 w90))
 (J2 false w89)) ∧
 ∀ (_x518 : Nat → Value) (x519 : Bool) (w91 : World), J2 x519 w91 →
 cond (x519)
 (∃ x520 x521 x522 x523 x524 x525, CellsAt w91 ⟨x21, 0, none⟩ [.slice x520 x521 x522, .q x523, .q x524, .q x525] ∧
 Calls Try.prog 50 #[.agg #[.slice x520 x521 x522, .q x523, .q x524, .q x525], .slice x0 x1 x2, .s [101, 108, 115, 101]] w91 (Ret fun x526 w92 =>
 ∃ x527 x528 x529 x530 x531 x532, x526 = .agg #[.slice x527 x528 x529, .q x530, .q x531, .q x532] ∧
 Calls Try.prog 54 #[.agg #[.slice x527 x528 x529, .q x530, .q x531, .q x532], .slice x0 x1 x2, .q (IntKind.i64.wrap (x4 + 1))] w92 (Ret fun x533 w93 =>
 ∃ x534 x535 x536 x537 x538 x539, x533 = .agg #[.slice x534 x535 x536, .q x537, .q x538, .q x539] ∧
 Writable w93 ⟨x21, 0, none⟩ 4 ∧ ∀ w94, w94 = setCells w93 ⟨x21, 0, none⟩ [.slice x534 x535 x536, .q x537, .q x538, .q x539] →
 J1 w94)))
 (J1 w91)) ∧
 ∀ (_x540 : Nat → Value) (w95 : World), J1 w95 →
 ∃ x541 x542 x543 x544 x545 x546, CellsAt w95 ⟨x21, 0, none⟩ [.slice x541 x542 x543, .q x544, .q x545, .q x546] ∧
 ∃ x547 x548 x549 x550 x551, CellsAt w95 ⟨x13, 0, none⟩ [.q x547, .s x548, .q x549, .q x550, .q x551] ∧
 Calls Try.prog 25 #[.agg #[.slice x541 x542 x543, .q x544, .q x545, .q x546], .agg #[.q x547, .s x548, .q x549, .q x550, .q x551]] w95 (Ret fun x552 w96 =>
 ∃ x553 x554 x555 x556 x557 x558, x552 = .agg #[.slice x553 x554 x555, .q x556, .q x557, .q x558] ∧
 Writable w96 ⟨x5, 0, none⟩ 4 ∧ ∀ w97, w97 = setCells w96 ⟨x5, 0, none⟩ [.slice x553 x554 x555, .q x556, .q x557, .q x558] →
 ∃ x559 x560 x561 x562 x563 x564, CellsAt w97 ⟨x5, 0, none⟩ [.slice x559 x560 x561, .q x562, .q x563, .q x564] ∧
 K (.agg #[.slice x559 x560 x561, .q x562, .q x563, .q x564]) w97)))))
 (cond (x105 == [115, 101, 108, 101, 99, 116])
 (Writable w11 ⟨x13, 0, none⟩ 1 ∧ ∀ w98, w98 = w11.setCell ⟨x13, 0, none⟩ (.q 25) →
 ∃ x565 x566 x567 x568 x569 x570, CellsAt w98 ⟨x21, 0, none⟩ [.slice x565 x566 x567, .q x568, .q x569, .q x570] ∧
 Calls Try.prog 50 #[.agg #[.slice x565 x566 x567, .q x568, .q x569, .q x570], .slice x0 x1 x2, .s [115, 101, 108, 101, 99, 116]] w98 (Ret fun x571 w99 =>
 ∃ x572 x573 x574 x575 x576 x577, x571 = .agg #[.slice x572 x573 x574, .q x575, .q x576, .q x577] ∧
 Calls Try.prog 50 #[.agg #[.slice x572 x573 x574, .q x575, .q x576, .q x577], .slice x0 x1 x2, .s [123]] w99 (Ret fun x578 w100 =>
 ∃ x579 x580 x581 x582 x583 x584, x578 = .agg #[.slice x579 x580 x581, .q x582, .q x583, .q x584] ∧
 Writable w100 ⟨x21, 0, none⟩ 4 ∧ ∀ w101, w101 = setCells w100 ⟨x21, 0, none⟩ [.slice x579 x580 x581, .q x582, .q x583, .q x584] →
 ∃ (J3 : World → Prop),
 (∃ x585, w101.cell? ⟨x21, 3, none⟩ = some (.q x585) ∧
 cond (x585 == 0)
 (∀ w102, w102 = w101.drew →
 ∃ (S9 : World → Prop), S9 w102 ∧
 ∃ x586 x587 x588 x589 x590 x591, (∀ u, S9 u → CellsAt u ⟨x21, 0, none⟩ [.slice x586 x587 x588, .q x589, .q x590, .q x591]) ∧
 ∃ x592, (∀ u, S9 u → u.cell? ⟨x21, 2, none⟩ = some (.q x592)) ∧
 Calls Try.prog 89 #[.slice x0 x1 x2, .q x592, .q x4] w102 (Ret fun x593 w103 =>
 ∃ x594 x595 x596 x597 x598 x599, x593 = .agg #[.slice x594 x595 x596, .q x597, .q x598, .q x599] ∧
 S9 w103 ∧
 Calls Try.prog 23 #[.agg #[.slice x586 x587 x588, .q x589, .q x590, .q x591], .agg #[.slice x594 x595 x596, .q x597, .q x598, .q x599]] w103 (Ret fun x600 w104 =>
 ∃ x601 x602 x603 x604 x605 x606, x600 = .agg #[.slice x601 x602 x603, .q x604, .q x605, .q x606] ∧
 Writable w104 ⟨x21, 0, none⟩ 4 ∧ ∀ w105, w105 = setCells w104 ⟨x21, 0, none⟩ [.slice x601 x602 x603, .q x604, .q x605, .q x606] →
 J3 w105)))
 (J3 w101)) ∧
 ∀ (_x607 : Nat → Value) (w106 : World), J3 w106 →
 ∃ (I : World → Prop) (x608 : World → Nat), I w106 ∧
 ∀ (_x609 : Nat → Value) (w107 : World), I w107 →
 ∃ (J4 : Bool → World → Prop),
 (∃ x610, w107.cell? ⟨x21, 3, none⟩ = some (.q x610) ∧
 cond (x610 == 0)
 (∃ x611, w107.cell? ⟨x21, 2, none⟩ = some (.q x611) ∧
 Calls Try.prog 49 #[.slice x0 x1 x2, .q x611, .s [125]] w107 (Ret fun x612 w108 =>
 ∃ x613, x612 = .bool x613 ∧
 J4 (!x613) w108))
 (J4 false w107)) ∧
 ∀ (_x614 : Nat → Value) (x615 : Bool) (w109 : World), J4 x615 w109 →
 cond (x615)
 (∀ w110, w110 = w109.drew →
 ∃ (S10 : World → Prop), S10 w110 ∧
 ∃ x616 x617 x618 x619 x620 x621, (∀ u, S10 u → CellsAt u ⟨x21, 0, none⟩ [.slice x616 x617 x618, .q x619, .q x620, .q x621]) ∧
 ∃ x622, (∀ u, S10 u → u.cell? ⟨x21, 2, none⟩ = some (.q x622)) ∧
 Calls Try.prog 89 #[.slice x0 x1 x2, .q x622, .q x4] w110 (Ret fun x623 w111 =>
 ∃ x624 x625 x626 x627 x628 x629, x623 = .agg #[.slice x624 x625 x626, .q x627, .q x628, .q x629] ∧
 S10 w111 ∧
 Calls Try.prog 23 #[.agg #[.slice x616 x617 x618, .q x619, .q x620, .q x621], .agg #[.slice x624 x625 x626, .q x627, .q x628, .q x629]] w111 (Ret fun x630 w112 =>
 ∃ x631 x632 x633 x634 x635 x636, x630 = .agg #[.slice x631 x632 x633, .q x634, .q x635, .q x636] ∧
 Writable w112 ⟨x21, 0, none⟩ 4 ∧ ∀ w113, w113 = setCells w112 ⟨x21, 0, none⟩ [.slice x631 x632 x633, .q x634, .q x635, .q x636] →
 I w113 ∧ x608 w113 < x608 w107)))
 (∀ w114, w114 = w109.drew →
 ∃ (S11 : World → Prop), S11 w114 ∧
 ∃ x637 x638 x639 x640 x641 x642, (∀ u, S11 u → CellsAt u ⟨x21, 0, none⟩ [.slice x637 x638 x639, .q x640, .q x641, .q x642]) ∧
 ∃ x643 x644 x645 x646 x647, (∀ u, S11 u → CellsAt u ⟨x13, 0, none⟩ [.q x643, .s x644, .q x645, .q x646, .q x647]) ∧
 Calls Try.prog 50 #[.agg #[.slice x637 x638 x639, .q x640, .q x641, .q x642], .slice x0 x1 x2, .s [125]] w114 (Ret fun x648 w115 =>
 ∃ x649 x650 x651 x652 x653 x654, x648 = .agg #[.slice x649 x650 x651, .q x652, .q x653, .q x654] ∧
 S11 w115 ∧
 Calls Try.prog 25 #[.agg #[.slice x649 x650 x651, .q x652, .q x653, .q x654], .agg #[.q x643, .s x644, .q x645, .q x646, .q x647]] w115 (Ret fun x655 w116 =>
 ∃ x656 x657 x658 x659 x660 x661, x655 = .agg #[.slice x656 x657 x658, .q x659, .q x660, .q x661] ∧
 Writable w116 ⟨x5, 0, none⟩ 4 ∧ ∀ w117, w117 = setCells w116 ⟨x5, 0, none⟩ [.slice x656 x657 x658, .q x659, .q x660, .q x661] →
 ∃ x662 x663 x664 x665 x666 x667, CellsAt w117 ⟨x5, 0, none⟩ [.slice x662 x663 x664, .q x665, .q x666, .q x667] ∧
 K (.agg #[.slice x662 x663 x664, .q x665, .q x666, .q x667]) w117))))))
 (Writable w11 ⟨x21, 3, none⟩ 1 ∧ ∀ w118, w118 = w11.setCell ⟨x21, 3, none⟩ (.q 11) →
 ∃ x668 x669 x670 x671 x672 x673, CellsAt w118 ⟨x21, 0, none⟩ [.slice x668 x669 x670, .q x671, .q x672, .q x673] ∧
 Writable w118 ⟨x5, 0, none⟩ 4 ∧ ∀ w119, w119 = setCells w118 ⟨x5, 0, none⟩ [.slice x668 x669 x670, .q x671, .q x672, .q x673] →
 ∃ x674 x675 x676 x677 x678 x679, CellsAt w119 ⟨x5, 0, none⟩ [.slice x674 x675 x676, .q x677, .q x678, .q x679] ∧
 K (.agg #[.slice x674 x675 x676, .q x677, .q x678, .q x679]) w119)))))))))))))))
theorem R11_stmt_ok (x0 : Option Addr) (x1 : Nat) (x2 : Nat) (x3 : Int) (x4 : Int) (K : Value → World → Prop) (w : World) (h : R11_stmt_wp x0 x1 x2 x3 x4 K w) : Calls Try.prog 80 #[.slice x0 x1 x2, .q x3, .q x4] w (Ret K) :=
 calls_of { loops := [(68551704540, [])], cuts := [(62, [(26, .bool)]), (2142240763, []), (4284481526, [(185, .bool)]), (8568963067, []), (274206818160, [(223, .bool)])] } Try.func80 (by kernel_rfl) h
def R11_decl_wp (x0 : Option Addr) (x1 : Nat) (x2 : Nat) (x3 : Int) (K : Value → World → Prop) (w : World) : Prop :=
 ∀ x4 w1, x4 = w.heap.size → w1 = w.alloc (.cells #[.slice none 0 0, .q 0, .q 0, .q 0] 59) →
 Calls Try.prog 22 #[.slice x0 x1 x2, .q x3] w1 (Ret fun x5 w2 =>
 ∃ x6 x7 x8 x9, x5 = .agg #[.q x6, .s x7, .q x8, .q x9] ∧
 ∀ x10 w3, x10 = w2.heap.size → w3 = w2.alloc (.cells #[.q 0, .s [], .q 0, .q 0, .q 0] 39) →
 Writable w3 ⟨x10, 0, none⟩ 5 ∧ ∀ w4, w4 = setCells w3 ⟨x10, 0, none⟩ [.q 0, .s [], .q 0, .q 0, .q x9] →
 Calls Try.prog 49 #[.slice x0 x1 x2, .q x3, .s [99, 104, 97, 110]] w4 (Ret fun x11 w5 =>
 ∃ x12, x11 = .bool x12 ∧
 cond (x12)
 (Writable w5 ⟨x10, 0, none⟩ 1 ∧ ∀ w6, w6 = w5.setCell ⟨x10, 0, none⟩ (.q 38) →
 Calls Try.prog 21 #[.q x3] w6 (Ret fun x13 w7 =>
 ∃ x14 x15 x16 x17 x18 x19, x13 = .agg #[.slice x14 x15 x16, .q x17, .q x18, .q x19] ∧
 Calls Try.prog 50 #[.agg #[.slice x14 x15 x16, .q x17, .q x18, .q x19], .slice x0 x1 x2, .s [99, 104, 97, 110]] w7 (Ret fun x20 w8 =>
 ∃ x21 x22 x23 x24 x25 x26, x20 = .agg #[.slice x21 x22 x23, .q x24, .q x25, .q x26] ∧
 Calls Try.prog 51 #[.agg #[.slice x21 x22 x23, .q x24, .q x25, .q x26], .slice x0 x1 x2] w8 (Ret fun x27 w9 =>
 ∃ x28 x29 x30 x31 x32 x33 x34, x27 = .tuple #[.agg #[.slice x28 x29 x30, .q x31, .q x32, .q x33], .s x34] ∧
 ∀ x35 w10, x35 = w9.heap.size → w10 = w9.alloc (.cells #[.slice none 0 0, .q 0, .q 0, .q 0] 59) →
 Writable w10 ⟨x35, 0, none⟩ 4 ∧ ∀ w11, w11 = setCells w10 ⟨x35, 0, none⟩ [.slice x28 x29 x30, .q x31, .q x32, .q x33] →
 Writable w11 ⟨x10, 1, none⟩ 1 ∧ ∀ w12, w12 = w11.setCell ⟨x10, 1, none⟩ (.s x34) →
 ∃ (J : World → Prop),
 (∃ (J1 : Bool → World → Prop),
 (∃ x36, w12.cell? ⟨x35, 3, none⟩ = some (.q x36) ∧
 cond (x36 == 0)
 (∃ x37, w12.cell? ⟨x35, 2, none⟩ = some (.q x37) ∧
 Calls Try.prog 49 #[.slice x0 x1 x2, .q x37, .s [91]] w12 (Ret fun x38 w13 =>
 ∃ x39, x38 = .bool x39 ∧
 J1 x39 w13))
 (J1 false w12)) ∧
 ∀ (_x40 : Nat → Value) (x41 : Bool) (w14 : World), J1 x41 w14 →
 cond (x41)
 (∃ x42 x43 x44 x45 x46 x47, CellsAt w14 ⟨x35, 0, none⟩ [.slice x42 x43 x44, .q x45, .q x46, .q x47] ∧
 Calls Try.prog 50 #[.agg #[.slice x42 x43 x44, .q x45, .q x46, .q x47], .slice x0 x1 x2, .s [91]] w14 (Ret fun x48 w15 =>
 ∃ x49 x50 x51 x52 x53 x54, x48 = .agg #[.slice x49 x50 x51, .q x52, .q x53, .q x54] ∧
 Calls Try.prog 52 #[.agg #[.slice x49 x50 x51, .q x52, .q x53, .q x54], .slice x0 x1 x2] w15 (Ret fun x55 w16 =>
 ∃ x56 x57 x58 x59 x60 x61 x62, x55 = .tuple #[.agg #[.slice x56 x57 x58, .q x59, .q x60, .q x61], .q x62] ∧
 Writable w16 ⟨x35, 0, none⟩ 4 ∧ ∀ w17, w17 = setCells w16 ⟨x35, 0, none⟩ [.slice x56 x57 x58, .q x59, .q x60, .q x61] →
 Writable w17 ⟨x10, 2, none⟩ 1 ∧ ∀ w18, w18 = w17.setCell ⟨x10, 2, none⟩ (.q x62) →
 ∃ x63 x64 x65 x66 x67 x68, CellsAt w18 ⟨x35, 0, none⟩ [.slice x63 x64 x65, .q x66, .q x67, .q x68] ∧
 Calls Try.prog 50 #[.agg #[.slice x63 x64 x65, .q x66, .q x67, .q x68], .slice x0 x1 x2, .s [93]] w18 (Ret fun x69 w19 =>
 ∃ x70 x71 x72 x73 x74 x75, x69 = .agg #[.slice x70 x71 x72, .q x73, .q x74, .q x75] ∧
 Writable w19 ⟨x35, 0, none⟩ 4 ∧ ∀ w20, w20 = setCells w19 ⟨x35, 0, none⟩ [.slice x70 x71 x72, .q x73, .q x74, .q x75] →
 J w20))))
 (J w14)) ∧
 ∀ (_x76 : Nat → Value) (w21 : World), J w21 →
 ∀ w22, w22 = w21.drew →
 ∃ (S : World → Prop), S w22 ∧
 ∃ x77 x78 x79 x80 x81 x82, (∀ u, S u → CellsAt u ⟨x35, 0, none⟩ [.slice x77 x78 x79, .q x80, .q x81, .q x82]) ∧
 ∃ x83 x84 x85 x86 x87, (∀ u, S u → CellsAt u ⟨x10, 0, none⟩ [.q x83, .s x84, .q x85, .q x86, .q x87]) ∧
 Calls Try.prog 50 #[.agg #[.slice x77 x78 x79, .q x80, .q x81, .q x82], .slice x0 x1 x2, .s [59]] w22 (Ret fun x88 w23 =>
 ∃ x89 x90 x91 x92 x93 x94, x88 = .agg #[.slice x89 x90 x91, .q x92, .q x93, .q x94] ∧
 S w23 ∧
 Calls Try.prog 25 #[.agg #[.slice x89 x90 x91, .q x92, .q x93, .q x94], .agg #[.q x83, .s x84, .q x85, .q x86, .q x87]] w23 (Ret fun x95 w24 =>
 ∃ x96 x97 x98 x99 x100 x101, x95 = .agg #[.slice x96 x97 x98, .q x99, .q x100, .q x101] ∧
 Writable w24 ⟨x4, 0, none⟩ 4 ∧ ∀ w25, w25 = setCells w24 ⟨x4, 0, none⟩ [.slice x96 x97 x98, .q x99, .q x100, .q x101] →
 ∃ x102 x103 x104 x105 x106 x107, CellsAt w25 ⟨x4, 0, none⟩ [.slice x102 x103 x104, .q x105, .q x106, .q x107] ∧
 K (.agg #[.slice x102 x103 x104, .q x105, .q x106, .q x107]) w25))))))
 (Calls Try.prog 49 #[.slice x0 x1 x2, .q x3, .s [112, 114, 111, 99]] w5 (Ret fun x108 w26 =>
 ∃ x109, x108 = .bool x109 ∧
 cond (x109)
 (Writable w26 ⟨x10, 0, none⟩ 1 ∧ ∀ w27, w27 = w26.setCell ⟨x10, 0, none⟩ (.q 40) →
 Calls Try.prog 21 #[.q x3] w27 (Ret fun x110 w28 =>
 ∃ x111 x112 x113 x114 x115 x116, x110 = .agg #[.slice x111 x112 x113, .q x114, .q x115, .q x116] ∧
 Calls Try.prog 50 #[.agg #[.slice x111 x112 x113, .q x114, .q x115, .q x116], .slice x0 x1 x2, .s [112, 114, 111, 99]] w28 (Ret fun x117 w29 =>
 ∃ x118 x119 x120 x121 x122 x123, x117 = .agg #[.slice x118 x119 x120, .q x121, .q x122, .q x123] ∧
 Calls Try.prog 51 #[.agg #[.slice x118 x119 x120, .q x121, .q x122, .q x123], .slice x0 x1 x2] w29 (Ret fun x124 w30 =>
 ∃ x125 x126 x127 x128 x129 x130 x131, x124 = .tuple #[.agg #[.slice x125 x126 x127, .q x128, .q x129, .q x130], .s x131] ∧
 ∀ x132 w31, x132 = w30.heap.size → w31 = w30.alloc (.cells #[.slice none 0 0, .q 0, .q 0, .q 0] 59) →
 Writable w31 ⟨x132, 0, none⟩ 4 ∧ ∀ w32, w32 = setCells w31 ⟨x132, 0, none⟩ [.slice x125 x126 x127, .q x128, .q x129, .q x130] →
 Writable w32 ⟨x10, 1, none⟩ 1 ∧ ∀ w33, w33 = w32.setCell ⟨x10, 1, none⟩ (.s x131) →
 ∃ x133 x134 x135 x136 x137 x138, CellsAt w33 ⟨x132, 0, none⟩ [.slice x133 x134 x135, .q x136, .q x137, .q x138] ∧
 Calls Try.prog 50 #[.agg #[.slice x133 x134 x135, .q x136, .q x137, .q x138], .slice x0 x1 x2, .s [40]] w33 (Ret fun x139 w34 =>
 ∃ x140 x141 x142 x143 x144 x145, x139 = .agg #[.slice x140 x141 x142, .q x143, .q x144, .q x145] ∧
 Writable w34 ⟨x132, 0, none⟩ 4 ∧ ∀ w35, w35 = setCells w34 ⟨x132, 0, none⟩ [.slice x140 x141 x142, .q x143, .q x144, .q x145] →
 ∃ (J2 : World → Prop),
 (∃ (J3 : Bool → World → Prop),
 (∃ x146, w35.cell? ⟨x132, 3, none⟩ = some (.q x146) ∧
 cond (x146 == 0)
 (∃ x147, w35.cell? ⟨x132, 2, none⟩ = some (.q x147) ∧
 Calls Try.prog 49 #[.slice x0 x1 x2, .q x147, .s [41]] w35 (Ret fun x148 w36 =>
 ∃ x149, x148 = .bool x149 ∧
 J3 (!x149) w36))
 (J3 false w35)) ∧
 ∀ (_x150 : Nat → Value) (x151 : Bool) (w37 : World), J3 x151 w37 →
 cond (x151)
 (∃ x152 x153 x154 x155 x156 x157, CellsAt w37 ⟨x132, 0, none⟩ [.slice x152 x153 x154, .q x155, .q x156, .q x157] ∧
 Calls Try.prog 53 #[.agg #[.slice x152 x153 x154, .q x155, .q x156, .q x157], .slice x0 x1 x2] w37 (Ret fun x158 w38 =>
 ∃ x159 x160 x161 x162 x163 x164, x158 = .agg #[.slice x159 x160 x161, .q x162, .q x163, .q x164] ∧
 Writable w38 ⟨x132, 0, none⟩ 4 ∧ ∀ w39, w39 = setCells w38 ⟨x132, 0, none⟩ [.slice x159 x160 x161, .q x162, .q x163, .q x164] →
 ∃ (I : World → Prop) (x165 : World → Nat), I w39 ∧
 ∀ (_x166 : Nat → Value) (w40 : World), I w40 →
 ∃ (J4 : Bool → World → Prop),
 (∃ x167, w40.cell? ⟨x132, 3, none⟩ = some (.q x167) ∧
 cond (x167 == 0)
 (∃ x168, w40.cell? ⟨x132, 2, none⟩ = some (.q x168) ∧
 Calls Try.prog 49 #[.slice x0 x1 x2, .q x168, .s [44]] w40 (Ret fun x169 w41 =>
 ∃ x170, x169 = .bool x170 ∧
 J4 x170 w41))
 (J4 false w40)) ∧
 ∀ (_x171 : Nat → Value) (x172 : Bool) (w42 : World), J4 x172 w42 →
 cond (x172)
 (∃ x173 x174 x175 x176 x177 x178, CellsAt w42 ⟨x132, 0, none⟩ [.slice x173 x174 x175, .q x176, .q x177, .q x178] ∧
 Calls Try.prog 50 #[.agg #[.slice x173 x174 x175, .q x176, .q x177, .q x178], .slice x0 x1 x2, .s [44]] w42 (Ret fun x179 w43 =>
 ∃ x180 x181 x182 x183 x184 x185, x179 = .agg #[.slice x180 x181 x182, .q x183, .q x184, .q x185] ∧
 Calls Try.prog 53 #[.agg #[.slice x180 x181 x182, .q x183, .q x184, .q x185], .slice x0 x1 x2] w43 (Ret fun x186 w44 =>
 ∃ x187 x188 x189 x190 x191 x192, x186 = .agg #[.slice x187 x188 x189, .q x190, .q x191, .q x192] ∧
 Writable w44 ⟨x132, 0, none⟩ 4 ∧ ∀ w45, w45 = setCells w44 ⟨x132, 0, none⟩ [.slice x187 x188 x189, .q x190, .q x191, .q x192] →
 I w45 ∧ x165 w45 < x165 w40)))
 (J2 w42)))
 (J2 w37)) ∧
 ∀ (_x193 : Nat → Value) (w46 : World), J2 w46 →
 ∀ w47, w47 = w46.drew →
 ∃ (S1 : World → Prop), S1 w47 ∧
 ∃ x194 x195 x196 x197 x198 x199, (∀ u, S1 u → CellsAt u ⟨x132, 0, none⟩ [.slice x194 x195 x196, .q x197, .q x198, .q x199]) ∧
 ∃ x200 x201 x202 x203 x204, (∀ u, S1 u → CellsAt u ⟨x10, 0, none⟩ [.q x200, .s x201, .q x202, .q x203, .q x204]) ∧
 Calls Try.prog 50 #[.agg #[.slice x194 x195 x196, .q x197, .q x198, .q x199], .slice x0 x1 x2, .s [41]] w47 (Ret fun x205 w48 =>
 ∃ x206 x207 x208 x209 x210 x211, x205 = .agg #[.slice x206 x207 x208, .q x209, .q x210, .q x211] ∧
 S1 w48 ∧
 Calls Try.prog 54 #[.agg #[.slice x206 x207 x208, .q x209, .q x210, .q x211], .slice x0 x1 x2, .q 1] w48 (Ret fun x212 w49 =>
 ∃ x213 x214 x215 x216 x217 x218, x212 = .agg #[.slice x213 x214 x215, .q x216, .q x217, .q x218] ∧
 S1 w49 ∧
 Calls Try.prog 25 #[.agg #[.slice x213 x214 x215, .q x216, .q x217, .q x218], .agg #[.q x200, .s x201, .q x202, .q x203, .q x204]] w49 (Ret fun x219 w50 =>
 ∃ x220 x221 x222 x223 x224 x225, x219 = .agg #[.slice x220 x221 x222, .q x223, .q x224, .q x225] ∧
 Writable w50 ⟨x4, 0, none⟩ 4 ∧ ∀ w51, w51 = setCells w50 ⟨x4, 0, none⟩ [.slice x220 x221 x222, .q x223, .q x224, .q x225] →
 ∃ x226 x227 x228 x229 x230 x231, CellsAt w51 ⟨x4, 0, none⟩ [.slice x226 x227 x228, .q x229, .q x230, .q x231] ∧
 K (.agg #[.slice x226 x227 x228, .q x229, .q x230, .q x231]) w51))))))))
 (Writable w26 ⟨x10, 0, none⟩ 1 ∧ ∀ w52, w52 = w26.setCell ⟨x10, 0, none⟩ (.q 41) →
 ∀ w53, w53 = w52.drew →
 ∃ (S2 : World → Prop), S2 w53 ∧
 ∃ x232 x233 x234 x235 x236, (∀ u, S2 u → CellsAt u ⟨x10, 0, none⟩ [.q x232, .s x233, .q x234, .q x235, .q x236]) ∧
 Calls Try.prog 21 #[.q x3] w53 (Ret fun x237 w54 =>
 ∃ x238 x239 x240 x241 x242 x243, x237 = .agg #[.slice x238 x239 x240, .q x241, .q x242, .q x243] ∧
 S2 w54 ∧
 Calls Try.prog 50 #[.agg #[.slice x238 x239 x240, .q x241, .q x242, .q x243], .slice x0 x1 x2, .s [109, 97, 105, 110]] w54 (Ret fun x244 w55 =>
 ∃ x245 x246 x247 x248 x249 x250, x244 = .agg #[.slice x245 x246 x247, .q x248, .q x249, .q x250] ∧
 S2 w55 ∧
 Calls Try.prog 54 #[.agg #[.slice x245 x246 x247, .q x248, .q x249, .q x250], .slice x0 x1 x2, .q 1] w55 (Ret fun x251 w56 =>
 ∃ x252 x253 x254 x255 x256 x257, x251 = .agg #[.slice x252 x253 x254, .q x255, .q x256, .q x257] ∧
 S2 w56 ∧
 Calls Try.prog 25 #[.agg #[.slice x252 x253 x254, .q x255, .q x256, .q x257], .agg #[.q x232, .s x233, .q x234, .q x235, .q x236]] w56 (Ret fun x258 w57 =>
 ∃ x259 x260 x261 x262 x263 x264, x258 = .agg #[.slice x259 x260 x261, .q x262, .q x263, .q x264] ∧
 Writable w57 ⟨x4, 0, none⟩ 4 ∧ ∀ w58, w58 = setCells w57 ⟨x4, 0, none⟩ [.slice x259 x260 x261, .q x262, .q x263, .q x264] →
 ∃ x265 x266 x267 x268 x269 x270, CellsAt w58 ⟨x4, 0, none⟩ [.slice x265 x266 x267, .q x268, .q x269, .q x270] ∧
 K (.agg #[.slice x265 x266 x267, .q x268, .q x269, .q x270]) w58)))))))))
theorem R11_decl_ok (x0 : Option Addr) (x1 : Nat) (x2 : Nat) (x3 : Int) (K : Value → World → Prop) (w : World) (h : R11_decl_wp x0 x1 x2 x3 K w) : Calls Try.prog 24 #[.slice x0 x1 x2, .q x3] w (Ret K) :=
 calls_of { loops := [(62954, [])], cuts := [(471, []), (942, [(38, .bool)]), (1967, []), (3934, [(83, .bool)]), (251816, [(95, .bool)])] } Try.func24 (by kernel_rfl) h
def R11_Unit_wp (x0 : Option Addr) (x1 : Nat) (x2 : Nat) (K : Value → World → Prop) (w : World) : Prop :=
 ∀ x3 w1, x3 = w.heap.size → w1 = w.alloc (.cells #[.slice none 0 0, .q 0, .q 0] 29) →
 Calls Try.prog 21 #[.q 0] w1 (Ret fun x4 w2 =>
 ∃ x5 x6 x7 x8 x9 x10, x4 = .agg #[.slice x5 x6 x7, .q x8, .q x9, .q x10] ∧
 ∀ x11 w3, x11 = w2.heap.size → w3 = w2.alloc (.cells #[.slice none 0 0, .q 0, .q 0, .q 0] 59) →
 Writable w3 ⟨x11, 0, none⟩ 4 ∧ ∀ w4, w4 = setCells w3 ⟨x11, 0, none⟩ [.slice x5 x6 x7, .q x8, .q x9, .q x10] →
 ∃ (I : World → Prop) (x12 : World → Nat), I w4 ∧
 ∀ (_x13 : Nat → Value) (w5 : World), I w5 →
 ∃ (J : Bool → World → Prop),
 (∃ x14, w5.cell? ⟨x11, 3, none⟩ = some (.q x14) ∧
 cond (x14 == 0)
 (∃ x15, w5.cell? ⟨x11, 2, none⟩ = some (.q x15) ∧
 Calls Try.prog 22 #[.slice x0 x1 x2, .q x15] w5 (Ret fun x16 w6 =>
 ∃ x17 x18 x19 x20, x16 = .agg #[.q x17, .s x18, .q x19, .q x20] ∧
 J (x17 != 0) w6))
 (J false w5)) ∧
 ∀ (_x21 : Nat → Value) (x22 : Bool) (w7 : World), J x22 w7 →
 cond (x22)
 (∀ w8, w8 = w7.drew →
 ∃ (S : World → Prop), S w8 ∧
 ∃ x23 x24 x25 x26 x27 x28, (∀ u, S u → CellsAt u ⟨x11, 0, none⟩ [.slice x23 x24 x25, .q x26, .q x27, .q x28]) ∧
 ∃ x29, (∀ u, S u → u.cell? ⟨x11, 2, none⟩ = some (.q x29)) ∧
 Calls Try.prog 24 #[.slice x0 x1 x2, .q x29] w8 (Ret fun x30 w9 =>
 ∃ x31 x32 x33 x34 x35 x36, x30 = .agg #[.slice x31 x32 x33, .q x34, .q x35, .q x36] ∧
 S w9 ∧
 Calls Try.prog 23 #[.agg #[.slice x23 x24 x25, .q x26, .q x27, .q x28], .agg #[.slice x31 x32 x33, .q x34, .q x35, .q x36]] w9 (Ret fun x37 w10 =>
 ∃ x38 x39 x40 x41 x42 x43, x37 = .agg #[.slice x38 x39 x40, .q x41, .q x42, .q x43] ∧
 Writable w10 ⟨x11, 0, none⟩ 4 ∧ ∀ w11, w11 = setCells w10 ⟨x11, 0, none⟩ [.slice x38 x39 x40, .q x41, .q x42, .q x43] →
 I w11 ∧ x12 w11 < x12 w5)))
 (∃ x44, w7.cell? ⟨x11, 3, none⟩ = some (.q x44) ∧
 cond (x44 != 0)
 (∃ x45, w7.cell? ⟨x11, 2, none⟩ = some (.q x45) ∧
 ∃ x46, w7.cell? ⟨x11, 3, none⟩ = some (.q x46) ∧
 Writable w7 ⟨x3, 0, none⟩ 3 ∧ ∀ w12, w12 = setCells w7 ⟨x3, 0, none⟩ [.slice none 0 0, .q x45, .q x46] →
 ∃ x47 x48 x49 x50 x51, CellsAt w12 ⟨x3, 0, none⟩ [.slice x47 x48 x49, .q x50, .q x51] ∧
 K (.agg #[.slice x47 x48 x49, .q x50, .q x51]) w12)
 (∃ x52 x53 x54 x55 x56 x57, CellsAt w7 ⟨x11, 0, none⟩ [.slice x52 x53 x54, .q x55, .q x56, .q x57] ∧
 Calls Try.prog 25 #[.agg #[.slice x52 x53 x54, .q x55, .q x56, .q x57], .agg #[.q 42, .s [], .q 0, .q 0, .q 0]] w7 (Ret fun x58 w13 =>
 ∃ x59 x60 x61 x62 x63 x64, x58 = .agg #[.slice x59 x60 x61, .q x62, .q x63, .q x64] ∧
 Writable w13 ⟨x3, 0, none⟩ 3 ∧ ∀ w14, w14 = setCells w13 ⟨x3, 0, none⟩ [.slice x59 x60 x61, .q 0, .q 0] →
 ∃ x65 x66 x67 x68 x69, CellsAt w14 ⟨x3, 0, none⟩ [.slice x65 x66 x67, .q x68, .q x69] ∧
 K (.agg #[.slice x65 x66 x67, .q x68, .q x69]) w14))))
theorem R11_Unit_ok (x0 : Option Addr) (x1 : Nat) (x2 : Nat) (K : Value → World → Prop) (w : World) (h : R11_Unit_wp x0 x1 x2 K w) : Calls Try.prog 15 #[.slice x0 x1 x2] w (Ret K) :=
 calls_of { loops := [(28, [])], cuts := [(112, [(15, .bool)])] } Try.func15 (by kernel_rfl) h
def R11_Text_wp (x0 : List UInt8) (K : Value → World → Prop) (w : World) : Prop :=
 ∀ x1 w1, x1 = w.heap.size → w1 = w.alloc (.cells #[.slice none 0 0, .q 0, .q 0] 29) →
 Calls Try.prog 10 #[.s x0] w1 (Ret fun x2 w2 =>
 ∃ x3 x4 x5 x6 x7, x2 = .agg #[.slice x3 x4 x5, .q x6, .q x7] ∧
 ∀ x8 w3, x8 = w2.heap.size → w3 = w2.alloc (.cells #[.slice none 0 0, .q 0, .q 0] 35) →
 Writable w3 ⟨x8, 0, none⟩ 3 ∧ ∀ w4, w4 = setCells w3 ⟨x8, 0, none⟩ [.slice x3 x4 x5, .q x6, .q x7] →
 ∃ x9, w4.cell? ⟨x8, 2, none⟩ = some (.q x9) ∧
 cond (x9 != 0)
 (∃ x10, w4.cell? ⟨x8, 1, none⟩ = some (.q x10) ∧
 ∃ x11, w4.cell? ⟨x8, 2, none⟩ = some (.q x11) ∧
 Writable w4 ⟨x1, 0, none⟩ 3 ∧ ∀ w5, w5 = setCells w4 ⟨x1, 0, none⟩ [.slice none 0 0, .q x10, .q x11] →
 ∃ x12 x13 x14 x15 x16, CellsAt w5 ⟨x1, 0, none⟩ [.slice x12 x13 x14, .q x15, .q x16] ∧
 K (.agg #[.slice x12 x13 x14, .q x15, .q x16]) w5)
 (∃ x17 x18 x19, w4.cell? ⟨x8, 0, none⟩ = some (.slice x17 x18 x19) ∧
 Calls Try.prog 15 #[.slice x17 x18 x19] w4 (Ret fun x20 w6 =>
 ∃ x21 x22 x23 x24 x25, x20 = .agg #[.slice x21 x22 x23, .q x24, .q x25] ∧
 ∀ x26 w7, x26 = w6.heap.size → w7 = w6.alloc (.cells #[.slice none 0 0, .q 0, .q 0] 29) →
 Writable w7 ⟨x26, 0, none⟩ 3 ∧ ∀ w8, w8 = setCells w7 ⟨x26, 0, none⟩ [.slice x21 x22 x23, .q x24, .q x25] →
 ∃ (J : World → Prop),
 (∃ x27, w8.cell? ⟨x26, 2, none⟩ = some (.q x27) ∧
 cond (x27 != 0)
 (∃ x28 x29 x30, w8.cell? ⟨x8, 0, none⟩ = some (.slice x28 x29 x30) ∧
 ∃ x31, w8.cell? ⟨x26, 1, none⟩ = some (.q x31) ∧
 ∃ x32 x33 x34, w8.cell? ⟨x8, 0, none⟩ = some (.slice x32 x33 x34) ∧
 ((0 : Int) ≤ (if (IntKind.i64.wrap ((x33 : Int) - 1)) < x31 then IntKind.i64.wrap ((x33 : Int) - 1) else x31) ∧ (if (IntKind.i64.wrap ((x33 : Int) - 1)) < x31 then IntKind.i64.wrap ((x33 : Int) - 1) else x31) < (x29 : Int)) ∧
 ptrOr x28 (fun x35 =>
 ∃ x36, w8.cell? ((x35.add ((if (IntKind.i64.wrap ((x33 : Int) - 1)) < x31 then IntKind.i64.wrap ((x33 : Int) - 1) else x31).toNat * 4)).add 3) = some (.q x36) ∧
 Writable w8 ⟨x26, 1, none⟩ 1 ∧ ∀ w9, w9 = w8.setCell ⟨x26, 1, none⟩ (.q x36) →
 J w9))
 (J w8)) ∧
 ∀ (_x37 : Nat → Value) (w10 : World), J w10 →
 ∃ x38 x39 x40 x41 x42, CellsAt w10 ⟨x26, 0, none⟩ [.slice x38 x39 x40, .q x41, .q x42] ∧
 Writable w10 ⟨x1, 0, none⟩ 3 ∧ ∀ w11, w11 = setCells w10 ⟨x1, 0, none⟩ [.slice x38 x39 x40, .q x41, .q x42] →
 ∃ x43 x44 x45 x46 x47, CellsAt w11 ⟨x1, 0, none⟩ [.slice x43 x44 x45, .q x46, .q x47] ∧
 K (.agg #[.slice x43 x44 x45, .q x46, .q x47]) w11)))
theorem R11_Text_ok (x0 : List UInt8) (K : Value → World → Prop) (w : World) (h : R11_Text_wp x0 K w) : Calls Try.prog 9 #[.s x0] w (Ret K) :=
 calls_of { cuts := [(31, [])] } Try.func9 (by kernel_rfl) h
def R11_cur_eat_wp (x0 : Option Addr) (x1 : Nat) (x2 : Nat) (x3 : Int) (x4 : Int) (x5 : Int) (x6 : Option Addr) (x7 : Nat) (x8 : Nat) (x9 : List UInt8) (K : Value → World → Prop) (w : World) : Prop :=
 ∀ x10 w1, x10 = w.heap.size → w1 = w.alloc (.cells #[.slice x0 x1 x2, .q x3, .q x4, .q x5] 59) →
 ∀ x11 w2, x11 = w1.heap.size → w2 = w1.alloc (.cells #[.slice none 0 0, .q 0, .q 0, .q 0] 59) →
 ∃ (J : World → Prop),
 (∃ (J1 : Bool → World → Prop),
 (∃ x12, w2.cell? ⟨x10, 3, none⟩ = some (.q x12) ∧
 cond (x12 == 0)
 (∃ x13, w2.cell? ⟨x10, 2, none⟩ = some (.q x13) ∧
 Calls Try.prog 49 #[.slice x6 x7 x8, .q x13, .s x9] w2 (Ret fun x14 w3 =>
 ∃ x15, x14 = .bool x15 ∧
 J1 (!x15) w3))
 (J1 false w2)) ∧
 ∀ (_x16 : Nat → Value) (x17 : Bool) (w4 : World), J1 x17 w4 →
 cond (x17)
 (Writable w4 ⟨x10, 3, none⟩ 1 ∧ ∀ w5, w5 = w4.setCell ⟨x10, 3, none⟩ (.q 11) →
 J w5)
 (J w4)) ∧
 ∀ (_x18 : Nat → Value) (w6 : World), J w6 →
 ∃ (J2 : World → Prop),
 (∃ x19, w6.cell? ⟨x10, 3, none⟩ = some (.q x19) ∧
 cond (x19 == 0)
 (∃ x20, w6.cell? ⟨x10, 2, none⟩ = some (.q x20) ∧
 Writable w6 ⟨x10, 2, none⟩ 1 ∧ ∀ w7, w7 = w6.setCell ⟨x10, 2, none⟩ (.q (IntKind.i64.wrap (x20 + 1))) →
 J2 w7)
 (J2 w6)) ∧
 ∀ (_x21 : Nat → Value) (w8 : World), J2 w8 →
 ∃ x22 x23 x24 x25 x26 x27, CellsAt w8 ⟨x10, 0, none⟩ [.slice x22 x23 x24, .q x25, .q x26, .q x27] ∧
 Writable w8 ⟨x11, 0, none⟩ 4 ∧ ∀ w9, w9 = setCells w8 ⟨x11, 0, none⟩ [.slice x22 x23 x24, .q x25, .q x26, .q x27] →
 ∃ x28 x29 x30 x31 x32 x33, CellsAt w9 ⟨x11, 0, none⟩ [.slice x28 x29 x30, .q x31, .q x32, .q x33] ∧
 K (.agg #[.slice x28 x29 x30, .q x31, .q x32, .q x33]) w9
theorem R11_cur_eat_ok (x0 : Option Addr) (x1 : Nat) (x2 : Nat) (x3 : Int) (x4 : Int) (x5 : Int) (x6 : Option Addr) (x7 : Nat) (x8 : Nat) (x9 : List UInt8) (K : Value → World → Prop) (w : World) (h : R11_cur_eat_wp x0 x1 x2 x3 x4 x5 x6 x7 x8 x9 K w) : Calls Try.prog 50 #[.agg #[.slice x0 x1 x2, .q x3, .q x4, .q x5], .slice x6 x7 x8, .s x9] w (Ret K) :=
 calls_of { cuts := [(3, []), (6, [(17, .bool)]), (7, [])] } Try.func50 (by kernel_rfl) h
end Go.Proofs.Ytdbdkdmgfiiljaa
namespace Go.Proofs.Ytdbdkdmgfiiljaa
open Go.Vc
def R11_cur_add_wp (x0 : Option Addr) (x1 : Nat) (x2 : Nat) (x3 : Int) (x4 : Int) (x5 : Int) (x6 : Option Addr) (x7 : Nat) (x8 : Nat) (x9 : Int) (x10 : Int) (x11 : Int) (K : Value → World → Prop) (w : World) : Prop :=
 ∀ x12 w1, x12 = w.heap.size → w1 = w.alloc (.cells #[.slice x0 x1 x2, .q x3, .q x4, .q x5] 59) →
 ∀ x13 w2, x13 = w1.heap.size → w2 = w1.alloc (.cells #[.slice x6 x7 x8, .q x9, .q x10, .q x11] 59) →
 ∀ x14 w3, x14 = w2.heap.size → w3 = w2.alloc (.cells #[.slice none 0 0, .q 0, .q 0, .q 0] 59) →
 ∃ x15, w3.cell? ⟨x12, 3, none⟩ = some (.q x15) ∧
 cond (x15 != 0)
 (∃ x16 x17 x18 x19 x20 x21, CellsAt w3 ⟨x12, 0, none⟩ [.slice x16 x17 x18, .q x19, .q x20, .q x21] ∧
 Writable w3 ⟨x14, 0, none⟩ 4 ∧ ∀ w4, w4 = setCells w3 ⟨x14, 0, none⟩ [.slice x16 x17 x18, .q x19, .q x20, .q x21] →
 ∃ x22 x23 x24 x25 x26 x27, CellsAt w4 ⟨x14, 0, none⟩ [.slice x22 x23 x24, .q x25, .q x26, .q x27] ∧
 K (.agg #[.slice x22 x23 x24, .q x25, .q x26, .q x27]) w4)
 (∀ w5, w5 = w3.drew →
 ∃ (S : World → Prop), S w5 ∧
 ∃ x28 x29 x30, (∀ u, S u → u.cell? ⟨x12, 0, none⟩ = some (.slice x28 x29 x30)) ∧
 ∃ x31 x32 x33, (∀ u, S u → u.cell? ⟨x13, 0, none⟩ = some (.slice x31 x32 x33)) ∧
 ∃ x34, (∀ u, S u → u.cell? ⟨x12, 1, none⟩ = some (.q x34)) ∧
 ∃ x35, (∀ u, S u → u.cell? ⟨x13, 2, none⟩ = some (.q x35)) ∧
 ∃ x36, (∀ u, S u → u.cell? ⟨x13, 3, none⟩ = some (.q x36)) ∧
 ∀ x37 w6, x37 = w5.heap.size → w6 = w5.alloc (.cells #[] 39) →
 S w6 ∧
 SemOk Try.prog (Builtin.append_ #[23, 23] 23 #[.slice (some ⟨x37, 0, none⟩) 0 0, .slice x28 x29 x30]) (fun x38 w7 =>
 ∃ x39 x40 x41, x38 = .slice x39 x40 x41 ∧
 S w7 ∧
 SemOk Try.prog (Builtin.append_ #[23, 23] 23 #[.slice x39 x40 x41, .slice x31 x32 x33]) (fun x42 w8 =>
 ∃ x43 x44 x45, x42 = .slice x43 x44 x45 ∧
 S w8 ∧
 Writable w8 ⟨x14, 0, none⟩ 4 ∧ ∀ w9, w9 = setCells w8 ⟨x14, 0, none⟩ [.slice x43 x44 x45, .q (IntKind.i64.wrap (x34 + 1)), .q x35, .q x36] →
 ∃ x46 x47 x48 x49 x50 x51, CellsAt w9 ⟨x14, 0, none⟩ [.slice x46 x47 x48, .q x49, .q x50, .q x51] ∧
 K (.agg #[.slice x46 x47 x48, .q x49, .q x50, .q x51]) w9) w7) w6)
theorem R11_cur_add_ok (x0 : Option Addr) (x1 : Nat) (x2 : Nat) (x3 : Int) (x4 : Int) (x5 : Int) (x6 : Option Addr) (x7 : Nat) (x8 : Nat) (x9 : Int) (x10 : Int) (x11 : Int) (K : Value → World → Prop) (w : World) (h : R11_cur_add_wp x0 x1 x2 x3 x4 x5 x6 x7 x8 x9 x10 x11 K w) : Calls Try.prog 23 #[.agg #[.slice x0 x1 x2, .q x3, .q x4, .q x5], .agg #[.slice x6 x7 x8, .q x9, .q x10, .q x11]] w (Ret K) :=
 calls_of {} Try.func23 (by kernel_rfl) h
def R11_cur_under_wp (x0 : Option Addr) (x1 : Nat) (x2 : Nat) (x3 : Int) (x4 : Int) (x5 : Int) (x6 : Int) (x7 : List UInt8) (x8 : Int) (x9 : Int) (x10 : Int) (K : Value → World → Prop) (w : World) : Prop :=
 ∀ x11 w1, x11 = w.heap.size → w1 = w.alloc (.cells #[.slice x0 x1 x2, .q x3, .q x4, .q x5] 59) →
 ∀ x12 w2, x12 = w1.heap.size → w2 = w1.alloc (.cells #[.q x6, .s x7, .q x8, .q x9, .q x10] 39) →
 ∀ x13 w3, x13 = w2.heap.size → w3 = w2.alloc (.cells #[.slice none 0 0, .q 0, .q 0, .q 0] 59) →
 ∃ x14, w3.cell? ⟨x11, 1, none⟩ = some (.q x14) ∧
 Writable w3 ⟨x12, 3, none⟩ 1 ∧ ∀ w4, w4 = w3.setCell ⟨x12, 3, none⟩ (.q x14) →
 ∃ x15 x16 x17 x18 x19, CellsAt w4 ⟨x12, 0, none⟩ [.q x15, .s x16, .q x17, .q x18, .q x19] ∧
 ∀ x20 w5, x20 = w4.heap.size → w5 = w4.alloc (.cells #[.q x15, .s x16, .q x17, .q x18, .q x19] 39) →
 ∃ x21 x22 x23, w5.cell? ⟨x11, 0, none⟩ = some (.slice x21 x22 x23) ∧
 SemOk Try.prog (Builtin.append_ #[23, 23] 23 #[.slice (some ⟨x20, 0, none⟩) 1 1, .slice x21 x22 x23]) (fun x24 w6 =>
 ∃ x25 x26 x27, x24 = .slice x25 x26 x27 ∧
 Writable w6 ⟨x11, 0, none⟩ 1 ∧ ∀ w7, w7 = w6.setCell ⟨x11, 0, none⟩ (.slice x25 x26 x27) →
 Writable w7 ⟨x11, 1, none⟩ 1 ∧ ∀ w8, w8 = w7.setCell ⟨x11, 1, none⟩ (.q 1) →
 ∃ x28 x29 x30 x31 x32 x33, CellsAt w8 ⟨x11, 0, none⟩ [.slice x28 x29 x30, .q x31, .q x32, .q x33] ∧
 Writable w8 ⟨x13, 0, none⟩ 4 ∧ ∀ w9, w9 = setCells w8 ⟨x13, 0, none⟩ [.slice x28 x29 x30, .q x31, .q x32, .q x33] →
 ∃ x34 x35 x36 x37 x38 x39, CellsAt w9 ⟨x13, 0, none⟩ [.slice x34 x35 x36, .q x37, .q x38, .q x39] ∧
 K (.agg #[.slice x34 x35 x36, .q x37, .q x38, .q x39]) w9) w5
theorem R11_cur_under_ok (x0 : Option Addr) (x1 : Nat) (x2 : Nat) (x3 : Int) (x4 : Int) (x5 : Int) (x6 : Int) (x7 : List UInt8) (x8 : Int) (x9 : Int) (x10 : Int) (K : Value → World → Prop) (w : World) (h : R11_cur_under_wp x0 x1 x2 x3 x4 x5 x6 x7 x8 x9 x10 K w) : Calls Try.prog 25 #[.agg #[.slice x0 x1 x2, .q x3, .q x4, .q x5], .agg #[.q x6, .s x7, .q x8, .q x9, .q x10]] w (Ret K) :=
 calls_of {} Try.func25 (by kernel_rfl) h
def R11_cur_term_wp (x0 : Option Addr) (x1 : Nat) (x2 : Nat) (x3 : Int) (x4 : Int) (x5 : Int) (x6 : Option Addr) (x7 : Nat) (x8 : Nat) (K : Value → World → Prop) (w : World) : Prop :=
 ∀ x9 w1, x9 = w.heap.size → w1 = w.alloc (.cells #[.slice x0 x1 x2, .q x3, .q x4, .q x5] 59) →
 ∀ x10 w2, x10 = w1.heap.size → w2 = w1.alloc (.cells #[.slice none 0 0, .q 0, .q 0, .q 0] 59) →
 ∃ x11, w2.cell? ⟨x9, 3, none⟩ = some (.q x11) ∧
 cond (x11 != 0)
 (∃ x12 x13 x14 x15 x16 x17, CellsAt w2 ⟨x9, 0, none⟩ [.slice x12 x13 x14, .q x15, .q x16, .q x17] ∧
 Writable w2 ⟨x10, 0, none⟩ 4 ∧ ∀ w3, w3 = setCells w2 ⟨x10, 0, none⟩ [.slice x12 x13 x14, .q x15, .q x16, .q x17] →
 ∃ x18 x19 x20 x21 x22 x23, CellsAt w3 ⟨x10, 0, none⟩ [.slice x18 x19 x20, .q x21, .q x22, .q x23] ∧
 K (.agg #[.slice x18 x19 x20, .q x21, .q x22, .q x23]) w3)
 (∃ x24, w2.cell? ⟨x9, 2, none⟩ = some (.q x24) ∧
 Calls Try.prog 92 #[.slice x6 x7 x8, .q x24] w2 (Ret fun x25 w4 =>
 ∃ x26 x27 x28 x29 x30, x25 = .agg #[.slice x26 x27 x28, .q x29, .q x30] ∧
 ∀ x31 w5, x31 = w4.heap.size → w5 = w4.alloc (.cells #[.slice none 0 0, .q 0, .q 0] 29) →
 Writable w5 ⟨x31, 0, none⟩ 3 ∧ ∀ w6, w6 = setCells w5 ⟨x31, 0, none⟩ [.slice x26 x27 x28, .q x29, .q x30] →
 ∃ x32 x33 x34 x35 x36 x37, CellsAt w6 ⟨x9, 0, none⟩ [.slice x32 x33 x34, .q x35, .q x36, .q x37] ∧
 ∃ x38 x39 x40, w6.cell? ⟨x31, 0, none⟩ = some (.slice x38 x39 x40) ∧
 ∃ x41, w6.cell? ⟨x31, 1, none⟩ = some (.q x41) ∧
 ∃ x42, w6.cell? ⟨x31, 2, none⟩ = some (.q x42) ∧
 Calls Try.prog 23 #[.agg #[.slice x32 x33 x34, .q x35, .q x36, .q x37], .agg #[.slice x38 x39 x40, .q 0, .q x41, .q x42]] w6 (Ret fun x43 w7 =>
 ∃ x44 x45 x46 x47 x48 x49, x43 = .agg #[.slice x44 x45 x46, .q x47, .q x48, .q x49] ∧
 Writable w7 ⟨x10, 0, none⟩ 4 ∧ ∀ w8, w8 = setCells w7 ⟨x10, 0, none⟩ [.slice x44 x45 x46, .q x47, .q x48, .q x49] →
 ∃ x50 x51 x52 x53 x54 x55, CellsAt w8 ⟨x10, 0, none⟩ [.slice x50 x51 x52, .q x53, .q x54, .q x55] ∧
 K (.agg #[.slice x50 x51 x52, .q x53, .q x54, .q x55]) w8)))
theorem R11_cur_term_ok (x0 : Option Addr) (x1 : Nat) (x2 : Nat) (x3 : Int) (x4 : Int) (x5 : Int) (x6 : Option Addr) (x7 : Nat) (x8 : Nat) (K : Value → World → Prop) (w : World) (h : R11_cur_term_wp x0 x1 x2 x3 x4 x5 x6 x7 x8 K w) : Calls Try.prog 87 #[.agg #[.slice x0 x1 x2, .q x3, .q x4, .q x5], .slice x6 x7 x8] w (Ret K) :=
 calls_of {} Try.func87 (by kernel_rfl) h
def R11_cur_name_wp (x0 : Option Addr) (x1 : Nat) (x2 : Nat) (x3 : Int) (x4 : Int) (x5 : Int) (x6 : Option Addr) (x7 : Nat) (x8 : Nat) (K : Value → World → Prop) (w : World) : Prop :=
 ∀ x9 w1, x9 = w.heap.size → w1 = w.alloc (.cells #[.slice x0 x1 x2, .q x3, .q x4, .q x5] 59) →
 ∀ x10 w2, x10 = w1.heap.size → w2 = w1.alloc (.cells #[.slice none 0 0, .q 0, .q 0, .q 0] 59) →
 ∃ x11, w2.cell? ⟨x9, 2, none⟩ = some (.q x11) ∧
 Calls Try.prog 22 #[.slice x6 x7 x8, .q x11] w2 (Ret fun x12 w3 =>
 ∃ x13 x14 x15 x16, x12 = .agg #[.q x13, .s x14, .q x15, .q x16] ∧
 ∀ x17 w4, x17 = w3.heap.size → w4 = w3.alloc (.cells #[.q 0, .s [], .q 0, .q 0] 44) →
 Writable w4 ⟨x17, 0, none⟩ 4 ∧ ∀ w5, w5 = setCells w4 ⟨x17, 0, none⟩ [.q x13, .s x14, .q x15, .q x16] →
 ∃ (J : World → Prop),
 (∃ (J1 : Bool → World → Prop),
 (∃ x18, w5.cell? ⟨x9, 3, none⟩ = some (.q x18) ∧
 cond (x18 == 0)
 (∃ x19, w5.cell? ⟨x17, 0, none⟩ = some (.q x19) ∧
 J1 (x19 != 1) w5)
 (J1 false w5)) ∧
 ∀ (_x20 : Nat → Value) (x21 : Bool) (w6 : World), J1 x21 w6 →
 cond (x21)
 (Writable w6 ⟨x9, 3, none⟩ 1 ∧ ∀ w7, w7 = w6.setCell ⟨x9, 3, none⟩ (.q 11) →
 J w7)
 (J w6)) ∧
 ∀ (_x22 : Nat → Value) (w8 : World), J w8 →
 ∃ x23, w8.cell? ⟨x9, 3, none⟩ = some (.q x23) ∧
 cond (x23 != 0)
 (∃ x24 x25 x26 x27 x28 x29, CellsAt w8 ⟨x9, 0, none⟩ [.slice x24 x25 x26, .q x27, .q x28, .q x29] ∧
 Writable w8 ⟨x10, 0, none⟩ 4 ∧ ∀ w9, w9 = setCells w8 ⟨x10, 0, none⟩ [.slice x24 x25 x26, .q x27, .q x28, .q x29] →
 ∃ x30 x31 x32 x33 x34 x35, CellsAt w9 ⟨x10, 0, none⟩ [.slice x30 x31 x32, .q x33, .q x34, .q x35] ∧
 K (.tuple #[.agg #[.slice x30 x31 x32, .q x33, .q x34, .q x35], .s []]) w9)
 (∃ x36, w8.cell? ⟨x9, 2, none⟩ = some (.q x36) ∧
 Writable w8 ⟨x9, 2, none⟩ 1 ∧ ∀ w10, w10 = w8.setCell ⟨x9, 2, none⟩ (.q (IntKind.i64.wrap (x36 + 1))) →
 ∀ w11, w11 = w10.drew →
 ∃ (S : World → Prop), S w11 ∧
 ∃ x37 x38 x39 x40 x41 x42, (∀ u, S u → CellsAt u ⟨x9, 0, none⟩ [.slice x37 x38 x39, .q x40, .q x41, .q x42]) ∧
 ∃ x43, (∀ u, S u → u.cell? ⟨x17, 1, none⟩ = some (.s x43)) ∧
 Writable w11 ⟨x10, 0, none⟩ 4 ∧ ∀ w12, w12 = setCells w11 ⟨x10, 0, none⟩ [.slice x37 x38 x39, .q x40, .q x41, .q x42] →
 S w12 ∧
 ∃ x44 x45 x46 x47 x48 x49, CellsAt w12 ⟨x10, 0, none⟩ [.slice x44 x45 x46, .q x47, .q x48, .q x49] ∧
 K (.tuple #[.agg #[.slice x44 x45 x46, .q x47, .q x48, .q x49], .s x43]) w12))
theorem R11_cur_name_ok (x0 : Option Addr) (x1 : Nat) (x2 : Nat) (x3 : Int) (x4 : Int) (x5 : Int) (x6 : Option Addr) (x7 : Nat) (x8 : Nat) (K : Value → World → Prop) (w : World) (h : R11_cur_name_wp x0 x1 x2 x3 x4 x5 x6 x7 x8 K w) : Calls Try.prog 51 #[.agg #[.slice x0 x1 x2, .q x3, .q x4, .q x5], .slice x6 x7 x8] w (Ret K) :=
 calls_of { cuts := [(7, []), (14, [(18, .bool)])] } Try.func51 (by kernel_rfl) h
def R11_cur_in_wp (x0 : Option Addr) (x1 : Nat) (x2 : Nat) (x3 : Int) (x4 : Int) (x5 : Int) (x6 : Option Addr) (x7 : Nat) (x8 : Nat) (x9 : Int) (K : Value → World → Prop) (w : World) : Prop :=
 ∀ x10 w1, x10 = w.heap.size → w1 = w.alloc (.cells #[.slice x0 x1 x2, .q x3, .q x4, .q x5] 59) →
 ∀ x11 w2, x11 = w1.heap.size → w2 = w1.alloc (.cells #[.slice none 0 0, .q 0, .q 0, .q 0] 59) →
 ∃ x12, w2.cell? ⟨x10, 3, none⟩ = some (.q x12) ∧
 cond (x12 != 0)
 (∃ x13 x14 x15 x16 x17 x18, CellsAt w2 ⟨x10, 0, none⟩ [.slice x13 x14 x15, .q x16, .q x17, .q x18] ∧
 Writable w2 ⟨x11, 0, none⟩ 4 ∧ ∀ w3, w3 = setCells w2 ⟨x11, 0, none⟩ [.slice x13 x14 x15, .q x16, .q x17, .q x18] →
 ∃ x19 x20 x21 x22 x23 x24, CellsAt w3 ⟨x11, 0, none⟩ [.slice x19 x20 x21, .q x22, .q x23, .q x24] ∧
 K (.agg #[.slice x19 x20 x21, .q x22, .q x23, .q x24]) w3)
 (∀ w4, w4 = w2.drew →
 ∃ (S : World → Prop), S w4 ∧
 ∃ x25 x26 x27 x28 x29 x30, (∀ u, S u → CellsAt u ⟨x10, 0, none⟩ [.slice x25 x26 x27, .q x28, .q x29, .q x30]) ∧
 ∃ x31, (∀ u, S u → u.cell? ⟨x10, 2, none⟩ = some (.q x31)) ∧
 Calls Try.prog 70 #[.slice x6 x7 x8, .q x31, .q x9] w4 (Ret fun x32 w5 =>
 ∃ x33 x34 x35 x36 x37 x38, x32 = .agg #[.slice x33 x34 x35, .q x36, .q x37, .q x38] ∧
 S w5 ∧
 Calls Try.prog 23 #[.agg #[.slice x25 x26 x27, .q x28, .q x29, .q x30], .agg #[.slice x33 x34 x35, .q x36, .q x37, .q x38]] w5 (Ret fun x39 w6 =>
 ∃ x40 x41 x42 x43 x44 x45, x39 = .agg #[.slice x40 x41 x42, .q x43, .q x44, .q x45] ∧
 Writable w6 ⟨x11, 0, none⟩ 4 ∧ ∀ w7, w7 = setCells w6 ⟨x11, 0, none⟩ [.slice x40 x41 x42, .q x43, .q x44, .q x45] →
 ∃ x46 x47 x48 x49 x50 x51, CellsAt w7 ⟨x11, 0, none⟩ [.slice x46 x47 x48, .q x49, .q x50, .q x51] ∧
 K (.agg #[.slice x46 x47 x48, .q x49, .q x50, .q x51]) w7)))
theorem R11_cur_in_ok (x0 : Option Addr) (x1 : Nat) (x2 : Nat) (x3 : Int) (x4 : Int) (x5 : Int) (x6 : Option Addr) (x7 : Nat) (x8 : Nat) (x9 : Int) (K : Value → World → Prop) (w : World) (h : R11_cur_in_wp x0 x1 x2 x3 x4 x5 x6 x7 x8 x9 K w) : Calls Try.prog 54 #[.agg #[.slice x0 x1 x2, .q x3, .q x4, .q x5], .slice x6 x7 x8, .q x9] w (Ret K) :=
 calls_of {} Try.func54 (by kernel_rfl) h
def R11_cur_comm_wp (x0 : Option Addr) (x1 : Nat) (x2 : Nat) (x3 : Int) (x4 : Int) (x5 : Int) (x6 : Option Addr) (x7 : Nat) (x8 : Nat) (x9 : Int) (x10 : Int) (K : Value → World → Prop) (w : World) : Prop :=
 ∀ x11 w1, x11 = w.heap.size → w1 = w.alloc (.cells #[.slice x0 x1 x2, .q x3, .q x4, .q x5] 59) →
 ∀ x12 w2, x12 = w1.heap.size → w2 = w1.alloc (.cells #[.slice none 0 0, .q 0, .q 0, .q 0] 59) →
 ∃ x13, w2.cell? ⟨x11, 3, none⟩ = some (.q x13) ∧
 cond (x13 != 0)
 (∃ x14 x15 x16 x17 x18 x19, CellsAt w2 ⟨x11, 0, none⟩ [.slice x14 x15 x16, .q x17, .q x18, .q x19] ∧
 Writable w2 ⟨x12, 0, none⟩ 4 ∧ ∀ w3, w3 = setCells w2 ⟨x12, 0, none⟩ [.slice x14 x15 x16, .q x17, .q x18, .q x19] →
 ∃ x20 x21 x22 x23 x24 x25, CellsAt w3 ⟨x12, 0, none⟩ [.slice x20 x21 x22, .q x23, .q x24, .q x25] ∧
 K (.tuple #[.agg #[.slice x20 x21 x22, .q x23, .q x24, .q x25], .q 0, .s []]) w3)
 (∃ (J : World → Prop),
 (∀ w4, w4 = w2.drew →
 ∃ (S : World → Prop), S w4 ∧
 ∃ x26 x27 x28 x29 x30 x31, (∀ u, S u → CellsAt u ⟨x11, 0, none⟩ [.slice x26 x27 x28, .q x29, .q x30, .q x31]) ∧
 ∃ x32, (∀ u, S u → u.cell? ⟨x11, 2, none⟩ = some (.q x32)) ∧
 Calls Try.prog 91 #[.slice x6 x7 x8, .q x32] w4 (Ret fun x33 w5 =>
 ∃ x34 x35 x36 x37 x38 x39, x33 = .agg #[.slice x34 x35 x36, .q x37, .q x38, .q x39] ∧
 S w5 ∧
 Calls Try.prog 23 #[.agg #[.slice x26 x27 x28, .q x29, .q x30, .q x31], .agg #[.slice x34 x35 x36, .q x37, .q x38, .q x39]] w5 (Ret fun x40 w6 =>
 ∃ x41 x42 x43 x44 x45 x46, x40 = .agg #[.slice x41 x42 x43, .q x44, .q x45, .q x46] ∧
 Writable w6 ⟨x11, 0, none⟩ 4 ∧ ∀ w7, w7 = setCells w6 ⟨x11, 0, none⟩ [.slice x41 x42 x43, .q x44, .q x45, .q x46] →
 J w7))) ∧
 ∀ (_x47 : Nat → Value) (w8 : World), J w8 →
 ∃ (J1 : Bool → World → Prop),
 (∃ x48, w8.cell? ⟨x11, 3, none⟩ = some (.q x48) ∧
 cond (x48 == 0)
 (∃ x49, w8.cell? ⟨x11, 2, none⟩ = some (.q x49) ∧
 Calls Try.prog 49 #[.slice x6 x7 x8, .q x49, .s [33]] w8 (Ret fun x50 w9 =>
 ∃ x51, x50 = .bool x51 ∧
 J1 x51 w9))
 (J1 false w8)) ∧
 ∀ (_x52 : Nat → Value) (x53 : Bool) (w10 : World), J1 x53 w10 →
 cond (x53)
 (∃ x54 x55 x56 x57 x58 x59, CellsAt w10 ⟨x11, 0, none⟩ [.slice x54 x55 x56, .q x57, .q x58, .q x59] ∧
 Calls Try.prog 50 #[.agg #[.slice x54 x55 x56, .q x57, .q x58, .q x59], .slice x6 x7 x8, .s [33]] w10 (Ret fun x60 w11 =>
 ∃ x61 x62 x63 x64 x65 x66, x60 = .agg #[.slice x61 x62 x63, .q x64, .q x65, .q x66] ∧
 Calls Try.prog 87 #[.agg #[.slice x61 x62 x63, .q x64, .q x65, .q x66], .slice x6 x7 x8] w11 (Ret fun x67 w12 =>
 ∃ x68 x69 x70 x71 x72 x73, x67 = .agg #[.slice x68 x69 x70, .q x71, .q x72, .q x73] ∧
 Writable w12 ⟨x12, 0, none⟩ 4 ∧ ∀ w13, w13 = setCells w12 ⟨x12, 0, none⟩ [.slice x68 x69 x70, .q x71, .q x72, .q x73] →
 ∃ x74 x75 x76 x77 x78 x79, CellsAt w13 ⟨x12, 0, none⟩ [.slice x74 x75 x76, .q x77, .q x78, .q x79] ∧
 K (.tuple #[.agg #[.slice x74 x75 x76, .q x77, .q x78, .q x79], .q x9, .s []]) w13)))
 (∃ x80 x81 x82 x83 x84 x85, CellsAt w10 ⟨x11, 0, none⟩ [.slice x80 x81 x82, .q x83, .q x84, .q x85] ∧
 Calls Try.prog 50 #[.agg #[.slice x80 x81 x82, .q x83, .q x84, .q x85], .slice x6 x7 x8, .s [63]] w10 (Ret fun x86 w14 =>
 ∃ x87 x88 x89 x90 x91 x92, x86 = .agg #[.slice x87 x88 x89, .q x90, .q x91, .q x92] ∧
 Calls Try.prog 51 #[.agg #[.slice x87 x88 x89, .q x90, .q x91, .q x92], .slice x6 x7 x8] w14 (Ret fun x93 w15 =>
 ∃ x94 x95 x96 x97 x98 x99 x100, x93 = .tuple #[.agg #[.slice x94 x95 x96, .q x97, .q x98, .q x99], .s x100] ∧
 Writable w15 ⟨x11, 0, none⟩ 4 ∧ ∀ w16, w16 = setCells w15 ⟨x11, 0, none⟩ [.slice x94 x95 x96, .q x97, .q x98, .q x99] →
 ∃ x101 x102 x103 x104 x105 x106, CellsAt w16 ⟨x11, 0, none⟩ [.slice x101 x102 x103, .q x104, .q x105, .q x106] ∧
 Writable w16 ⟨x12, 0, none⟩ 4 ∧ ∀ w17, w17 = setCells w16 ⟨x12, 0, none⟩ [.slice x101 x102 x103, .q x104, .q x105, .q x106] →
 ∃ x107 x108 x109 x110 x111 x112, CellsAt w17 ⟨x12, 0, none⟩ [.slice x107 x108 x109, .q x110, .q x111, .q x112] ∧
 K (.tuple #[.agg #[.slice x107 x108 x109, .q x110, .q x111, .q x112], .q x10, .s x100]) w17))))
theorem R11_cur_comm_ok (x0 : Option Addr) (x1 : Nat) (x2 : Nat) (x3 : Int) (x4 : Int) (x5 : Int) (x6 : Option Addr) (x7 : Nat) (x8 : Nat) (x9 : Int) (x10 : Int) (K : Value → World → Prop) (w : World) (h : R11_cur_comm_wp x0 x1 x2 x3 x4 x5 x6 x7 x8 x9 x10 K w) : Calls Try.prog 86 #[.agg #[.slice x0 x1 x2, .q x3, .q x4, .q x5], .slice x6 x7 x8, .q x9, .q x10] w (Ret K) :=
 calls_of { cuts := [(7, []), (30, [(30, .bool)])] } Try.func86 (by kernel_rfl) h
def R11_cur_args_wp (x0 : Option Addr) (x1 : Nat) (x2 : Nat) (x3 : Int) (x4 : Int) (x5 : Int) (x6 : Option Addr) (x7 : Nat) (x8 : Nat) (K : Value → World → Prop) (w : World) : Prop :=
 ∀ x9 w1, x9 = w.heap.size → w1 = w.alloc (.cells #[.slice x0 x1 x2, .q x3, .q x4, .q x5] 59) →
 ∀ x10 w2, x10 = w1.heap.size → w2 = w1.alloc (.cells #[.slice none 0 0, .q 0, .q 0, .q 0] 59) →
 ∃ x11 x12 x13 x14 x15 x16, CellsAt w2 ⟨x9, 0, none⟩ [.slice x11 x12 x13, .q x14, .q x15, .q x16] ∧
 Calls Try.prog 50 #[.agg #[.slice x11 x12 x13, .q x14, .q x15, .q x16], .slice x6 x7 x8, .s [40]] w2 (Ret fun x17 w3 =>
 ∃ x18 x19 x20 x21 x22 x23, x17 = .agg #[.slice x18 x19 x20, .q x21, .q x22, .q x23] ∧
 Writable w3 ⟨x9, 0, none⟩ 4 ∧ ∀ w4, w4 = setCells w3 ⟨x9, 0, none⟩ [.slice x18 x19 x20, .q x21, .q x22, .q x23] →
 ∃ (J : World → Prop),
 (∃ (J1 : Bool → World → Prop),
 (∃ x24, w4.cell? ⟨x9, 3, none⟩ = some (.q x24) ∧
 cond (x24 == 0)
 (∃ x25, w4.cell? ⟨x9, 2, none⟩ = some (.q x25) ∧
 Calls Try.prog 49 #[.slice x6 x7 x8, .q x25, .s [41]] w4 (Ret fun x26 w5 =>
 ∃ x27, x26 = .bool x27 ∧
 J1 (!x27) w5))
 (J1 false w4)) ∧
 ∀ (_x28 : Nat → Value) (x29 : Bool) (w6 : World), J1 x29 w6 →
 cond (x29)
 (∃ x30 x31 x32 x33 x34 x35, CellsAt w6 ⟨x9, 0, none⟩ [.slice x30 x31 x32, .q x33, .q x34, .q x35] ∧
 Calls Try.prog 87 #[.agg #[.slice x30 x31 x32, .q x33, .q x34, .q x35], .slice x6 x7 x8] w6 (Ret fun x36 w7 =>
 ∃ x37 x38 x39 x40 x41 x42, x36 = .agg #[.slice x37 x38 x39, .q x40, .q x41, .q x42] ∧
 Writable w7 ⟨x9, 0, none⟩ 4 ∧ ∀ w8, w8 = setCells w7 ⟨x9, 0, none⟩ [.slice x37 x38 x39, .q x40, .q x41, .q x42] →
 ∃ (I : World → Prop) (x43 : World → Nat), I w8 ∧
 ∀ (_x44 : Nat → Value) (w9 : World), I w9 →
 ∃ (J2 : Bool → World → Prop),
 (∃ x45, w9.cell? ⟨x9, 3, none⟩ = some (.q x45) ∧
 cond (x45 == 0)
 (∃ x46, w9.cell? ⟨x9, 2, none⟩ = some (.q x46) ∧
 Calls Try.prog 49 #[.slice x6 x7 x8, .q x46, .s [44]] w9 (Ret fun x47 w10 =>
 ∃ x48, x47 = .bool x48 ∧
 J2 x48 w10))
 (J2 false w9)) ∧
 ∀ (_x49 : Nat → Value) (x50 : Bool) (w11 : World), J2 x50 w11 →
 cond (x50)
 (∃ x51 x52 x53 x54 x55 x56, CellsAt w11 ⟨x9, 0, none⟩ [.slice x51 x52 x53, .q x54, .q x55, .q x56] ∧
 Calls Try.prog 50 #[.agg #[.slice x51 x52 x53, .q x54, .q x55, .q x56], .slice x6 x7 x8, .s [44]] w11 (Ret fun x57 w12 =>
 ∃ x58 x59 x60 x61 x62 x63, x57 = .agg #[.slice x58 x59 x60, .q x61, .q x62, .q x63] ∧
 Calls Try.prog 87 #[.agg #[.slice x58 x59 x60, .q x61, .q x62, .q x63], .slice x6 x7 x8] w12 (Ret fun x64 w13 =>
 ∃ x65 x66 x67 x68 x69 x70, x64 = .agg #[.slice x65 x66 x67, .q x68, .q x69, .q x70] ∧
 Writable w13 ⟨x9, 0, none⟩ 4 ∧ ∀ w14, w14 = setCells w13 ⟨x9, 0, none⟩ [.slice x65 x66 x67, .q x68, .q x69, .q x70] →
 I w14 ∧ x43 w14 < x43 w9)))
 (J w11)))
 (J w6)) ∧
 ∀ (_x71 : Nat → Value) (w15 : World), J w15 →
 ∃ x72 x73 x74 x75 x76 x77, CellsAt w15 ⟨x9, 0, none⟩ [.slice x72 x73 x74, .q x75, .q x76, .q x77] ∧
 Calls Try.prog 50 #[.agg #[.slice x72 x73 x74, .q x75, .q x76, .q x77], .slice x6 x7 x8, .s [41]] w15 (Ret fun x78 w16 =>
 ∃ x79 x80 x81 x82 x83 x84, x78 = .agg #[.slice x79 x80 x81, .q x82, .q x83, .q x84] ∧
 Writable w16 ⟨x10, 0, none⟩ 4 ∧ ∀ w17, w17 = setCells w16 ⟨x10, 0, none⟩ [.slice x79 x80 x81, .q x82, .q x83, .q x84] →
 ∃ x85 x86 x87 x88 x89 x90, CellsAt w17 ⟨x10, 0, none⟩ [.slice x85 x86 x87, .q x88, .q x89, .q x90] ∧
 K (.agg #[.slice x85 x86 x87, .q x88, .q x89, .q x90]) w17))
theorem R11_cur_args_ok (x0 : Option Addr) (x1 : Nat) (x2 : Nat) (x3 : Int) (x4 : Int) (x5 : Int) (x6 : Option Addr) (x7 : Nat) (x8 : Nat) (K : Value → World → Prop) (w : World) (h : R11_cur_args_wp x0 x1 x2 x3 x4 x5 x6 x7 x8 K w) : Calls Try.prog 88 #[.agg #[.slice x0 x1 x2, .q x3, .q x4, .q x5], .slice x6 x7 x8] w (Ret K) :=
 calls_of { loops := [(234, [])], cuts := [(7, []), (14, [(17, .bool)]), (936, [(29, .bool)])] } Try.func88 (by kernel_rfl) h
def R11_cur_size_wp (x0 : Option Addr) (x1 : Nat) (x2 : Nat) (x3 : Int) (x4 : Int) (x5 : Int) (x6 : Option Addr) (x7 : Nat) (x8 : Nat) (K : Value → World → Prop) (w : World) : Prop :=
 ∀ x9 w1, x9 = w.heap.size → w1 = w.alloc (.cells #[.slice x0 x1 x2, .q x3, .q x4, .q x5] 59) →
 ∀ x10 w2, x10 = w1.heap.size → w2 = w1.alloc (.cells #[.slice none 0 0, .q 0, .q 0, .q 0] 59) →
 ∃ x11, w2.cell? ⟨x9, 2, none⟩ = some (.q x11) ∧
 Calls Try.prog 22 #[.slice x6 x7 x8, .q x11] w2 (Ret fun x12 w3 =>
 ∃ x13 x14 x15 x16, x12 = .agg #[.q x13, .s x14, .q x15, .q x16] ∧
 ∀ x17 w4, x17 = w3.heap.size → w4 = w3.alloc (.cells #[.q 0, .s [], .q 0, .q 0] 44) →
 Writable w4 ⟨x17, 0, none⟩ 4 ∧ ∀ w5, w5 = setCells w4 ⟨x17, 0, none⟩ [.q x13, .s x14, .q x15, .q x16] →
 ∃ (J : World → Prop),
 (∃ (J1 : Bool → World → Prop),
 (∃ x18, w5.cell? ⟨x9, 3, none⟩ = some (.q x18) ∧
 cond (x18 == 0)
 (∃ x19, w5.cell? ⟨x17, 0, none⟩ = some (.q x19) ∧
 J1 (x19 != 2) w5)
 (J1 false w5)) ∧
 ∀ (_x20 : Nat → Value) (x21 : Bool) (w6 : World), J1 x21 w6 →
 cond (x21)
 (Writable w6 ⟨x9, 3, none⟩ 1 ∧ ∀ w7, w7 = w6.setCell ⟨x9, 3, none⟩ (.q 11) →
 J w7)
 (J w6)) ∧
 ∀ (_x22 : Nat → Value) (w8 : World), J w8 →
 ∃ (J2 : World → Prop),
 (∃ (J3 : Bool → World → Prop),
 (∃ x23, w8.cell? ⟨x9, 3, none⟩ = some (.q x23) ∧
 cond (x23 == 0)
 (∃ x24, w8.cell? ⟨x17, 2, none⟩ = some (.q x24) ∧
 cond (decide (x24 < 1))
 (J3 true w8)
 (∃ x25, w8.cell? ⟨x17, 2, none⟩ = some (.q x25) ∧
 J3 (decide (x25 > 16)) w8))
 (J3 false w8)) ∧
 ∀ (_x26 : Nat → Value) (x27 : Bool) (w9 : World), J3 x27 w9 →
 cond (x27)
 (Writable w9 ⟨x9, 3, none⟩ 1 ∧ ∀ w10, w10 = w9.setCell ⟨x9, 3, none⟩ (.q 6) →
 J2 w10)
 (J2 w9)) ∧
 ∀ (_x28 : Nat → Value) (w11 : World), J2 w11 →
 ∃ x29, w11.cell? ⟨x9, 3, none⟩ = some (.q x29) ∧
 cond (x29 != 0)
 (∃ x30 x31 x32 x33 x34 x35, CellsAt w11 ⟨x9, 0, none⟩ [.slice x30 x31 x32, .q x33, .q x34, .q x35] ∧
 Writable w11 ⟨x10, 0, none⟩ 4 ∧ ∀ w12, w12 = setCells w11 ⟨x10, 0, none⟩ [.slice x30 x31 x32, .q x33, .q x34, .q x35] →
 ∃ x36 x37 x38 x39 x40 x41, CellsAt w12 ⟨x10, 0, none⟩ [.slice x36 x37 x38, .q x39, .q x40, .q x41] ∧
 K (.tuple #[.agg #[.slice x36 x37 x38, .q x39, .q x40, .q x41], .q 0]) w12)
 (∃ x42, w11.cell? ⟨x9, 2, none⟩ = some (.q x42) ∧
 Writable w11 ⟨x9, 2, none⟩ 1 ∧ ∀ w13, w13 = w11.setCell ⟨x9, 2, none⟩ (.q (IntKind.i64.wrap (x42 + 1))) →
 ∀ w14, w14 = w13.drew →
 ∃ (S : World → Prop), S w14 ∧
 ∃ x43 x44 x45 x46 x47 x48, (∀ u, S u → CellsAt u ⟨x9, 0, none⟩ [.slice x43 x44 x45, .q x46, .q x47, .q x48]) ∧
 ∃ x49, (∀ u, S u → u.cell? ⟨x17, 2, none⟩ = some (.q x49)) ∧
 Writable w14 ⟨x10, 0, none⟩ 4 ∧ ∀ w15, w15 = setCells w14 ⟨x10, 0, none⟩ [.slice x43 x44 x45, .q x46, .q x47, .q x48] →
 S w15 ∧
 ∃ x50 x51 x52 x53 x54 x55, CellsAt w15 ⟨x10, 0, none⟩ [.slice x50 x51 x52, .q x53, .q x54, .q x55] ∧
 K (.tuple #[.agg #[.slice x50 x51 x52, .q x53, .q x54, .q x55], .q x49]) w15))
theorem R11_cur_size_ok (x0 : Option Addr) (x1 : Nat) (x2 : Nat) (x3 : Int) (x4 : Int) (x5 : Int) (x6 : Option Addr) (x7 : Nat) (x8 : Nat) (K : Value → World → Prop) (w : World) (h : R11_cur_size_wp x0 x1 x2 x3 x4 x5 x6 x7 x8 K w) : Calls Try.prog 52 #[.agg #[.slice x0 x1 x2, .q x3, .q x4, .q x5], .slice x6 x7 x8] w (Ret K) :=
 calls_of { cuts := [(7, []), (14, [(18, .bool)]), (15, []), (30, [(32, .bool)])] } Try.func52 (by kernel_rfl) h
def R11_cur_param_wp (x0 : Option Addr) (x1 : Nat) (x2 : Nat) (x3 : Int) (x4 : Int) (x5 : Int) (x6 : Option Addr) (x7 : Nat) (x8 : Nat) (K : Value → World → Prop) (w : World) : Prop :=
 ∀ x9 w1, x9 = w.heap.size → w1 = w.alloc (.cells #[.slice x0 x1 x2, .q x3, .q x4, .q x5] 59) →
 ∀ x10 w2, x10 = w1.heap.size → w2 = w1.alloc (.cells #[.slice none 0 0, .q 0, .q 0, .q 0] 59) →
 ∃ x11, w2.cell? ⟨x9, 3, none⟩ = some (.q x11) ∧
 cond (x11 != 0)
 (∃ x12 x13 x14 x15 x16 x17, CellsAt w2 ⟨x9, 0, none⟩ [.slice x12 x13 x14, .q x15, .q x16, .q x17] ∧
 Writable w2 ⟨x10, 0, none⟩ 4 ∧ ∀ w3, w3 = setCells w2 ⟨x10, 0, none⟩ [.slice x12 x13 x14, .q x15, .q x16, .q x17] →
 ∃ x18 x19 x20 x21 x22 x23, CellsAt w3 ⟨x10, 0, none⟩ [.slice x18 x19 x20, .q x21, .q x22, .q x23] ∧
 K (.agg #[.slice x18 x19 x20, .q x21, .q x22, .q x23]) w3)
 (∃ x24, w2.cell? ⟨x9, 2, none⟩ = some (.q x24) ∧
 Calls Try.prog 21 #[.q x24] w2 (Ret fun x25 w4 =>
 ∃ x26 x27 x28 x29 x30 x31, x25 = .agg #[.slice x26 x27 x28, .q x29, .q x30, .q x31] ∧
 Calls Try.prog 51 #[.agg #[.slice x26 x27 x28, .q x29, .q x30, .q x31], .slice x6 x7 x8] w4 (Ret fun x32 w5 =>
 ∃ x33 x34 x35 x36 x37 x38 x39, x32 = .tuple #[.agg #[.slice x33 x34 x35, .q x36, .q x37, .q x38], .s x39] ∧
 ∀ x40 w6, x40 = w5.heap.size → w6 = w5.alloc (.cells #[.slice none 0 0, .q 0, .q 0, .q 0] 59) →
 Writable w6 ⟨x40, 0, none⟩ 4 ∧ ∀ w7, w7 = setCells w6 ⟨x40, 0, none⟩ [.slice x33 x34 x35, .q x36, .q x37, .q x38] →
 ∀ w8, w8 = w7.drew →
 ∃ (S : World → Prop), S w8 ∧
 ∃ x41 x42 x43 x44 x45 x46, (∀ u, S u → CellsAt u ⟨x9, 0, none⟩ [.slice x41 x42 x43, .q x44, .q x45, .q x46]) ∧
 ∃ x47 x48 x49 x50 x51 x52, (∀ u, S u → CellsAt u ⟨x40, 0, none⟩ [.slice x47 x48 x49, .q x50, .q x51, .q x52]) ∧
 ∃ x53, (∀ u, S u → u.cell? ⟨x9, 2, none⟩ = some (.q x53)) ∧
 Calls Try.prog 22 #[.slice x6 x7 x8, .q x53] w8 (Ret fun x54 w9 =>
 ∃ x55 x56 x57 x58, x54 = .agg #[.q x55, .s x56, .q x57, .q x58] ∧
 S w9 ∧
 Calls Try.prog 25 #[.agg #[.slice x47 x48 x49, .q x50, .q x51, .q x52], .agg #[.q 39, .s x39, .q 0, .q 0, .q x58]] w9 (Ret fun x59 w10 =>
 ∃ x60 x61 x62 x63 x64 x65, x59 = .agg #[.slice x60 x61 x62, .q x63, .q x64, .q x65] ∧
 S w10 ∧
 Calls Try.prog 23 #[.agg #[.slice x41 x42 x43, .q x44, .q x45, .q x46], .agg #[.slice x60 x61 x62, .q x63, .q x64, .q x65]] w10 (Ret fun x66 w11 =>
 ∃ x67 x68 x69 x70 x71 x72, x66 = .agg #[.slice x67 x68 x69, .q x70, .q x71, .q x72] ∧
 Writable w11 ⟨x10, 0, none⟩ 4 ∧ ∀ w12, w12 = setCells w11 ⟨x10, 0, none⟩ [.slice x67 x68 x69, .q x70, .q x71, .q x72] →
 ∃ x73 x74 x75 x76 x77 x78, CellsAt w12 ⟨x10, 0, none⟩ [.slice x73 x74 x75, .q x76, .q x77, .q x78] ∧
 K (.agg #[.slice x73 x74 x75, .q x76, .q x77, .q x78]) w12))))))
theorem R11_cur_param_ok (x0 : Option Addr) (x1 : Nat) (x2 : Nat) (x3 : Int) (x4 : Int) (x5 : Int) (x6 : Option Addr) (x7 : Nat) (x8 : Nat) (K : Value → World → Prop) (w : World) (h : R11_cur_param_wp x0 x1 x2 x3 x4 x5 x6 x7 x8 K w) : Calls Try.prog 53 #[.agg #[.slice x0 x1 x2, .q x3, .q x4, .q x5], .slice x6 x7 x8] w (Ret K) :=
 calls_of {} Try.func53 (by kernel_rfl) h
def R10_Tok_wp (x0 : Option Addr) (x1 : Nat) (_x2 : Nat) (x3 : Int) (K : Value → World → Prop) (w : World) : Prop :=
 ∀ x4 w1, x4 = w.heap.size → w1 = w.alloc (.cells #[.q 0, .s [], .q 0, .q 0] 44) →
 cond (decide (x3 < (x1 : Int)))
 (((0 : Int) ≤ x3 ∧ x3 < (x1 : Int)) ∧
 ptrOr x0 (fun x5 =>
 ∃ x6 x7 x8 x9, CellsAt w1 (x5.add (x3.toNat * 4)) [.q x6, .s x7, .q x8, .q x9] ∧
 Writable w1 ⟨x4, 0, none⟩ 4 ∧ ∀ w2, w2 = setCells w1 ⟨x4, 0, none⟩ [.q x6, .s x7, .q x8, .q x9] →
 ∃ x10 x11 x12 x13, CellsAt w2 ⟨x4, 0, none⟩ [.q x10, .s x11, .q x12, .q x13] ∧
 K (.agg #[.q x10, .s x11, .q x12, .q x13]) w2))
 (Writable w1 ⟨x4, 0, none⟩ 4 ∧ ∀ w3, w3 = setCells w1 ⟨x4, 0, none⟩ [.q 0, .s [], .q 0, .q 0] →
 ∃ x14 x15 x16 x17, CellsAt w3 ⟨x4, 0, none⟩ [.q x14, .s x15, .q x16, .q x17] ∧
 K (.agg #[.q x14, .s x15, .q x16, .q x17]) w3)
theorem R10_Tok_ok (x0 : Option Addr) (x1 : Nat) (x2 : Nat) (x3 : Int) (K : Value → World → Prop) (w : World) (h : R10_Tok_wp x0 x1 x2 x3 K w) : Calls Try.prog 22 #[.slice x0 x1 x2, .q x3] w (Ret K) :=
 calls_of {} Try.func22 (by kernel_rfl) h
def token_All_wp (x0 : List UInt8) (K : Value → World → Prop) (w : World) : Prop :=
 cond (decide ((x0.length : Int) > 65536))
 (K (.tuple #[.slice none 0 0, .q 0, .q 5]) w)
 (∃ (I : Option Addr → Nat → Nat → Int → World → Prop) (x1 : Option Addr → Nat → Nat → Int → World → Nat), I none 0 0 0 w ∧
 ∀ (_x2 : Nat → Value) (x3 : Option Addr) (x4 : Nat) (x5 : Nat) (x6 : Int) (w1 : World), I x3 x4 x5 x6 w1 →
 Calls Try.prog 18 #[.s x0, .q x6] w1 (Ret fun x7 w2 =>
 ∃ x8 x9 x10 x11 x12 x13, x7 = .tuple #[.agg #[.q x8, .s x9, .q x10, .q x11], .q x12, .q x13] ∧
 ∀ x14 w3, x14 = w2.heap.size → w3 = w2.alloc (.cells #[.q 0, .s [], .q 0, .q 0] 44) →
 Writable w3 ⟨x14, 0, none⟩ 4 ∧ ∀ w4, w4 = setCells w3 ⟨x14, 0, none⟩ [.q x8, .s x9, .q x10, .q x11] →
 cond (x13 != 0)
 (K (.tuple #[.slice none 0 0, .q x12, .q x13]) w4)
 (∃ x15 x16 x17 x18, CellsAt w4 ⟨x14, 0, none⟩ [.q x15, .s x16, .q x17, .q x18] ∧
 ∀ x19 w5, x19 = w4.heap.size → w5 = w4.alloc (.cells #[.q x15, .s x16, .q x17, .q x18] 44) →
 SemOk Try.prog (Builtin.append_ #[33, 33] 33 #[.slice x3 x4 x5, .slice (some ⟨x19, 0, none⟩) 1 1]) (fun x20 w6 =>
 ∃ x21 x22 x23, x20 = .slice x21 x22 x23 ∧
 ∃ x24, w6.cell? ⟨x14, 0, none⟩ = some (.q x24) ∧
 cond (x24 == 0)
 (∀ w7, w7 = w6.drew →
 ∃ x25, w7.cell? ⟨x14, 3, none⟩ = some (.q x25) ∧
 K (.tuple #[.slice x21 x22 x23, .q x25, .q 0]) w7)
 (I x21 x22 x23 x12 w6 ∧ x1 x21 x22 x23 x12 w6 < x1 x3 x4 x5 x6 w1)) w5)))
theorem token_All_ok (x0 : List UInt8) (K : Value → World → Prop) (w : World) (h : token_All_wp x0 K w) : Calls Try.prog 12 #[.s x0] w (Ret K) :=
 calls_of { loops := [(62, [(5, .slice), (6, .int .i64)])] } Try.func12 (by kernel_rfl) h
def R08_All_wp (x0 : List UInt8) (K : Value → World → Prop) (w : World) : Prop :=
 ∀ x1 w1, x1 = w.heap.size → w1 = w.alloc (.cells #[.slice none 0 0, .q 0, .q 0] 35) →
 cond (decide ((x0.length : Int) > 65536))
 (Writable w1 ⟨x1, 0, none⟩ 3 ∧ ∀ w2, w2 = setCells w1 ⟨x1, 0, none⟩ [.slice none 0 0, .q 0, .q 5] →
 ∃ x2 x3 x4 x5 x6, CellsAt w2 ⟨x1, 0, none⟩ [.slice x2 x3 x4, .q x5, .q x6] ∧
 K (.agg #[.slice x2 x3 x4, .q x5, .q x6]) w2)
 (∀ x7 w3, x7 = w1.heap.size → w3 = w1.alloc (.cells #[.slice none 0 0, .q 0, .q 0] 35) →
 ∃ (I : Int → World → Prop) (x8 : Int → World → Nat), I 0 w3 ∧
 ∀ (_x9 : Nat → Value) (x10 : Int) (w4 : World), I x10 w4 →
 Calls Try.prog 16 #[.s x0, .q x10] w4 (Ret fun x11 w5 =>
 ∃ x12 x13 x14 x15 x16 x17, x11 = .agg #[.q x12, .s x13, .q x14, .q x15, .q x16, .q x17] ∧
 ∀ x18 w6, x18 = w5.heap.size → w6 = w5.alloc (.cells #[.q 0, .s [], .q 0, .q 0, .q 0, .q 0] 48) →
 Writable w6 ⟨x18, 0, none⟩ 6 ∧ ∀ w7, w7 = setCells w6 ⟨x18, 0, none⟩ [.q x12, .s x13, .q x14, .q x15, .q x16, .q x17] →
 ∃ x19, w7.cell? ⟨x18, 5, none⟩ = some (.q x19) ∧
 cond (x19 != 0)
 (∃ x20, w7.cell? ⟨x18, 4, none⟩ = some (.q x20) ∧
 ∃ x21, w7.cell? ⟨x18, 5, none⟩ = some (.q x21) ∧
 Writable w7 ⟨x1, 0, none⟩ 3 ∧ ∀ w8, w8 = setCells w7 ⟨x1, 0, none⟩ [.slice none 0 0, .q x20, .q x21] →
 ∃ x22 x23 x24 x25 x26, CellsAt w8 ⟨x1, 0, none⟩ [.slice x22 x23 x24, .q x25, .q x26] ∧
 K (.agg #[.slice x22 x23 x24, .q x25, .q x26]) w8)
 (∃ x27 x28 x29, w7.cell? ⟨x7, 0, none⟩ = some (.slice x27 x28 x29) ∧
 ∃ x30 x31 x32 x33, CellsAt w7 ⟨x18, 0, none⟩ [.q x30, .s x31, .q x32, .q x33] ∧
 ∀ x34 w9, x34 = w7.heap.size → w9 = w7.alloc (.cells #[.q x30, .s x31, .q x32, .q x33] 44) →
 SemOk Try.prog (Builtin.append_ #[33, 33] 33 #[.slice x27 x28 x29, .slice (some ⟨x34, 0, none⟩) 1 1]) (fun x35 w10 =>
 ∃ x36 x37 x38, x35 = .slice x36 x37 x38 ∧
 Writable w10 ⟨x7, 0, none⟩ 1 ∧ ∀ w11, w11 = w10.setCell ⟨x7, 0, none⟩ (.slice x36 x37 x38) →
 ∃ x39, w11.cell? ⟨x18, 3, none⟩ = some (.q x39) ∧
 Writable w11 ⟨x7, 1, none⟩ 1 ∧ ∀ w12, w12 = w11.setCell ⟨x7, 1, none⟩ (.q x39) →
 ∃ x40, w12.cell? ⟨x18, 0, none⟩ = some (.q x40) ∧
 cond (x40 == 0)
 (∃ x41 x42 x43 x44 x45, CellsAt w12 ⟨x7, 0, none⟩ [.slice x41 x42 x43, .q x44, .q x45] ∧
 Writable w12 ⟨x1, 0, none⟩ 3 ∧ ∀ w13, w13 = setCells w12 ⟨x1, 0, none⟩ [.slice x41 x42 x43, .q x44, .q x45] →
 ∃ x46 x47 x48 x49 x50, CellsAt w13 ⟨x1, 0, none⟩ [.slice x46 x47 x48, .q x49, .q x50] ∧
 K (.agg #[.slice x46 x47 x48, .q x49, .q x50]) w13)
 (∃ x51, w12.cell? ⟨x18, 4, none⟩ = some (.q x51) ∧
 I x51 w12 ∧ x8 x51 w12 < x8 x10 w4)) w9)))
theorem R08_All_ok (x0 : List UInt8) (K : Value → World → Prop) (w : World) (h : R08_All_wp x0 K w) : Calls Try.prog 10 #[.s x0] w (Ret K) :=
 calls_of { loops := [(62, [(4, .int .i64)])] } Try.func10 (by kernel_rfl) h
def R10_level_wp (x0 : Option Addr) (x1 : Nat) (x2 : Nat) (x3 : Int) (x4 : Int) (x5 : Int) (K : Value → World → Prop) (w : World) : Prop :=
 ∀ x6 w1, x6 = w.heap.size → w1 = w.alloc (.cells #[.slice none 0 0, .q 0, .q 0] 29) →
 cond (x4 == 6)
 (Calls Try.prog 101 #[.slice x0 x1 x2, .q x3, .q x5] w1 (Ret fun x7 w2 =>
 ∃ x8 x9 x10 x11 x12, x7 = .agg #[.slice x8 x9 x10, .q x11, .q x12] ∧
 Writable w2 ⟨x6, 0, none⟩ 3 ∧ ∀ w3, w3 = setCells w2 ⟨x6, 0, none⟩ [.slice x8 x9 x10, .q x11, .q x12] →
 ∃ x13 x14 x15 x16 x17, CellsAt w3 ⟨x6, 0, none⟩ [.slice x13 x14 x15, .q x16, .q x17] ∧
 K (.agg #[.slice x13 x14 x15, .q x16, .q x17]) w3))
 (Calls Try.prog 97 #[.slice x0 x1 x2, .q x3, .q (IntKind.i64.wrap (x4 + 1)), .q x5] w1 (Ret fun x18 w4 =>
 ∃ x19 x20 x21 x22 x23, x18 = .agg #[.slice x19 x20 x21, .q x22, .q x23] ∧
 ∀ x24 w5, x24 = w4.heap.size → w5 = w4.alloc (.cells #[.slice none 0 0, .q 0, .q 0] 29) →
 Writable w5 ⟨x24, 0, none⟩ 3 ∧ ∀ w6, w6 = setCells w5 ⟨x24, 0, none⟩ [.slice x19 x20 x21, .q x22, .q x23] →
 ∃ (I : World → Prop) (x25 : World → Nat), I w6 ∧
 ∀ (_x26 : Nat → Value) (w7 : World), I w7 →
 ∃ x27, w7.cell? ⟨x24, 2, none⟩ = some (.q x27) ∧
 cond (x27 == 0)
 (∃ x28, w7.cell? ⟨x24, 1, none⟩ = some (.q x28) ∧
 Calls Try.prog 22 #[.slice x0 x1 x2, .q x28] w7 (Ret fun x29 w8 =>
 ∃ x30 x31 x32 x33, x29 = .agg #[.q x30, .s x31, .q x32, .q x33] ∧
 ∀ x34 w9, x34 = w8.heap.size → w9 = w8.alloc (.cells #[.q 0, .s [], .q 0, .q 0] 44) →
 Writable w9 ⟨x34, 0, none⟩ 4 ∧ ∀ w10, w10 = setCells w9 ⟨x34, 0, none⟩ [.q x30, .s x31, .q x32, .q x33] →
 ∃ x35, w10.cell? ⟨x34, 1, none⟩ = some (.s x35) ∧
 Calls Try.prog 102 #[.s x35] w10 (Ret fun x36 w11 =>
 ∃ x37, x36 = .q x37 ∧
 ∃ (J : Bool → World → Prop),
 (∃ x38, w11.cell? ⟨x34, 0, none⟩ = some (.q x38) ∧
 cond (x38 != 4)
 (J true w11)
 (cond (x37 == 0)
 (J true w11)
 (Calls Try.prog 103 #[.q x37] w11 (Ret fun x39 w12 =>
 ∃ x40, x39 = .q x40 ∧
 J (x40 != x4) w12)))) ∧
 ∀ (_x41 : Nat → Value) (x42 : Bool) (w13 : World), J x42 w13 →
 cond (x42)
 (∃ x43 x44 x45 x46 x47, CellsAt w13 ⟨x24, 0, none⟩ [.slice x43 x44 x45, .q x46, .q x47] ∧
 Writable w13 ⟨x6, 0, none⟩ 3 ∧ ∀ w14, w14 = setCells w13 ⟨x6, 0, none⟩ [.slice x43 x44 x45, .q x46, .q x47] →
 ∃ x48 x49 x50 x51 x52, CellsAt w14 ⟨x6, 0, none⟩ [.slice x48 x49 x50, .q x51, .q x52] ∧
 K (.agg #[.slice x48 x49 x50, .q x51, .q x52]) w14)
 (∃ x53, w13.cell? ⟨x24, 1, none⟩ = some (.q x53) ∧
 Calls Try.prog 97 #[.slice x0 x1 x2, .q (IntKind.i64.wrap (x53 + 1)), .q (IntKind.i64.wrap (x4 + 1)), .q x5] w13 (Ret fun x54 w15 =>
 ∃ x55 x56 x57 x58 x59, x54 = .agg #[.slice x55 x56 x57, .q x58, .q x59] ∧
 ∀ x60 w16, x60 = w15.heap.size → w16 = w15.alloc (.cells #[.slice none 0 0, .q 0, .q 0] 29) →
 Writable w16 ⟨x60, 0, none⟩ 3 ∧ ∀ w17, w17 = setCells w16 ⟨x60, 0, none⟩ [.slice x55 x56 x57, .q x58, .q x59] →
 ∃ x61, w17.cell? ⟨x60, 2, none⟩ = some (.q x61) ∧
 cond (x61 != 0)
 (∃ x62 x63 x64 x65 x66, CellsAt w17 ⟨x60, 0, none⟩ [.slice x62 x63 x64, .q x65, .q x66] ∧
 Writable w17 ⟨x6, 0, none⟩ 3 ∧ ∀ w18, w18 = setCells w17 ⟨x6, 0, none⟩ [.slice x62 x63 x64, .q x65, .q x66] →
 ∃ x67 x68 x69 x70 x71, CellsAt w18 ⟨x6, 0, none⟩ [.slice x67 x68 x69, .q x70, .q x71] ∧
 K (.agg #[.slice x67 x68 x69, .q x70, .q x71]) w18)
 (∃ x72, w17.cell? ⟨x34, 3, none⟩ = some (.q x72) ∧
 ∀ x73 w19, x73 = w17.heap.size → w19 = w17.alloc (.cells #[.q x37, .s [], .q 0, .q 2, .q x72] 39) →
 ∃ x74 x75 x76, w19.cell? ⟨x24, 0, none⟩ = some (.slice x74 x75 x76) ∧
 SemOk Try.prog (Builtin.append_ #[23, 23] 23 #[.slice (some ⟨x73, 0, none⟩) 1 1, .slice x74 x75 x76]) (fun x77 w20 =>
 ∃ x78 x79 x80, x77 = .slice x78 x79 x80 ∧
 ∃ (J1 : World → Prop),
 (∀ w21, w21 = w20.drew →
 ∃ (S : World → Prop), S w21 ∧
 ∃ x81 x82 x83, (∀ u, S u → u.cell? ⟨x60, 0, none⟩ = some (.slice x81 x82 x83)) ∧
 ∃ x84, (∀ u, S u → u.cell? ⟨x60, 1, none⟩ = some (.q x84)) ∧
 SemOk Try.prog (Builtin.append_ #[23, 23] 23 #[.slice x78 x79 x80, .slice x81 x82 x83]) (fun x85 w22 =>
 ∃ x86 x87 x88, x85 = .slice x86 x87 x88 ∧
 S w22 ∧
 Writable w22 ⟨x24, 0, none⟩ 3 ∧ ∀ w23, w23 = setCells w22 ⟨x24, 0, none⟩ [.slice x86 x87 x88, .q x84, .q 0] →
 J1 w23) w21) ∧
 ∀ (_x89 : Nat → Value) (w24 : World), J1 w24 →
 cond (x4 == 3)
 (∃ x90 x91 x92 x93 x94, CellsAt w24 ⟨x24, 0, none⟩ [.slice x90 x91 x92, .q x93, .q x94] ∧
 Writable w24 ⟨x6, 0, none⟩ 3 ∧ ∀ w25, w25 = setCells w24 ⟨x6, 0, none⟩ [.slice x90 x91 x92, .q x93, .q x94] →
 ∃ x95 x96 x97 x98 x99, CellsAt w25 ⟨x6, 0, none⟩ [.slice x95 x96 x97, .q x98, .q x99] ∧
 K (.agg #[.slice x95 x96 x97, .q x98, .q x99]) w25)
 (I w24 ∧ x25 w24 < x25 w7)) w19))))))
 (∃ x100 x101 x102 x103 x104, CellsAt w7 ⟨x24, 0, none⟩ [.slice x100 x101 x102, .q x103, .q x104] ∧
 Writable w7 ⟨x6, 0, none⟩ 3 ∧ ∀ w26, w26 = setCells w7 ⟨x6, 0, none⟩ [.slice x100 x101 x102, .q x103, .q x104] →
 ∃ x105 x106 x107 x108 x109, CellsAt w26 ⟨x6, 0, none⟩ [.slice x105 x106 x107, .q x108, .q x109] ∧
 K (.agg #[.slice x105 x106 x107, .q x108, .q x109]) w26)))
theorem R10_level_ok (x0 : Option Addr) (x1 : Nat) (x2 : Nat) (x3 : Int) (x4 : Int) (x5 : Int) (K : Value → World → Prop) (w : World) (h : R10_level_wp x0 x1 x2 x3 x4 x5 K w) : Calls Try.prog 97 #[.slice x0 x1 x2, .q x3, .q x4, .q x5] w (Ret K) :=
 calls_of { loops := [(60, [])], cuts := [(3862, [(48, .bool)]), (61823, [])] } Try.func97 (by kernel_rfl) h
def R10_one_wp (x0 : Option Addr) (x1 : Nat) (x2 : Nat) (x3 : Int) (x4 : Int) (K : Value → World → Prop) (w : World) : Prop :=
 ∀ x5 w1, x5 = w.heap.size → w1 = w.alloc (.cells #[.slice none 0 0, .q 0, .q 0] 29) →
 Calls Try.prog 22 #[.slice x0 x1 x2, .q x3] w1 (Ret fun x6 w2 =>
 ∃ x7 x8 x9 x10, x6 = .agg #[.q x7, .s x8, .q x9, .q x10] ∧
 ∀ x11 w3, x11 = w2.heap.size → w3 = w2.alloc (.cells #[.q 0, .s [], .q 0, .q 0] 44) →
 Writable w3 ⟨x11, 0, none⟩ 4 ∧ ∀ w4, w4 = setCells w3 ⟨x11, 0, none⟩ [.q x7, .s x8, .q x9, .q x10] →
 ∃ x12, w4.cell? ⟨x11, 0, none⟩ = some (.q x12) ∧
 cond (x12 == 2)
 (∃ x13, w4.cell? ⟨x11, 2, none⟩ = some (.q x13) ∧
 ∃ x14, w4.cell? ⟨x11, 3, none⟩ = some (.q x14) ∧
 ∀ x15 w5, x15 = w4.heap.size → w5 = w4.alloc (.cells #[.q 1, .s [], .q x13, .q 0, .q x14] 39) →
 Writable w5 ⟨x5, 0, none⟩ 3 ∧ ∀ w6, w6 = setCells w5 ⟨x5, 0, none⟩ [.slice (some ⟨x15, 0, none⟩) 1 1, .q (IntKind.i64.wrap (x3 + 1)), .q 0] →
 ∃ x16 x17 x18 x19 x20, CellsAt w6 ⟨x5, 0, none⟩ [.slice x16 x17 x18, .q x19, .q x20] ∧
 K (.agg #[.slice x16 x17 x18, .q x19, .q x20]) w6)
 (∃ x21, w4.cell? ⟨x11, 0, none⟩ = some (.q x21) ∧
 cond (x21 == 1)
 (∃ x22, w4.cell? ⟨x11, 1, none⟩ = some (.s x22) ∧
 ∃ x23, w4.cell? ⟨x11, 3, none⟩ = some (.q x23) ∧
 ∀ x24 w7, x24 = w4.heap.size → w7 = w4.alloc (.cells #[.q 2, .s x22, .q 0, .q 0, .q x23] 39) →
 Writable w7 ⟨x5, 0, none⟩ 3 ∧ ∀ w8, w8 = setCells w7 ⟨x5, 0, none⟩ [.slice (some ⟨x24, 0, none⟩) 1 1, .q (IntKind.i64.wrap (x3 + 1)), .q 0] →
 ∃ x25 x26 x27 x28 x29, CellsAt w8 ⟨x5, 0, none⟩ [.slice x25 x26 x27, .q x28, .q x29] ∧
 K (.agg #[.slice x25 x26 x27, .q x28, .q x29]) w8)
 (∃ (J : Bool → World → Prop),
 (∃ x30, w4.cell? ⟨x11, 0, none⟩ = some (.q x30) ∧
 cond (x30 != 4)
 (J true w4)
 (∃ x31, w4.cell? ⟨x11, 1, none⟩ = some (.s x31) ∧
 cond (!(x31 == [45]))
 (∃ x32, w4.cell? ⟨x11, 1, none⟩ = some (.s x32) ∧
 cond (!(x32 == [33]))
 (∃ x33, w4.cell? ⟨x11, 1, none⟩ = some (.s x33) ∧
 J (!(x33 == [40])) w4)
 (J false w4))
 (J false w4))) ∧
 ∀ (_x34 : Nat → Value) (x35 : Bool) (w9 : World), J x35 w9 →
 cond (x35)
 (Writable w9 ⟨x5, 0, none⟩ 3 ∧ ∀ w10, w10 = setCells w9 ⟨x5, 0, none⟩ [.slice none 0 0, .q x3, .q 11] →
 ∃ x36 x37 x38 x39 x40, CellsAt w10 ⟨x5, 0, none⟩ [.slice x36 x37 x38, .q x39, .q x40] ∧
 K (.agg #[.slice x36 x37 x38, .q x39, .q x40]) w10)
 (cond (x4 == 24)
 (Writable w9 ⟨x5, 0, none⟩ 3 ∧ ∀ w11, w11 = setCells w9 ⟨x5, 0, none⟩ [.slice none 0 0, .q x3, .q 5] →
 ∃ x41 x42 x43 x44 x45, CellsAt w11 ⟨x5, 0, none⟩ [.slice x41 x42 x43, .q x44, .q x45] ∧
 K (.agg #[.slice x41 x42 x43, .q x44, .q x45]) w11)
 (∃ x46, w9.cell? ⟨x11, 1, none⟩ = some (.s x46) ∧
 cond (x46 == [40])
 (Calls Try.prog 97 #[.slice x0 x1 x2, .q (IntKind.i64.wrap (x3 + 1)), .q 1, .q (IntKind.i64.wrap (x4 + 1))] w9 (Ret fun x47 w12 =>
 ∃ x48 x49 x50 x51 x52, x47 = .agg #[.slice x48 x49 x50, .q x51, .q x52] ∧
 ∀ x53 w13, x53 = w12.heap.size → w13 = w12.alloc (.cells #[.slice none 0 0, .q 0, .q 0] 29) →
 Writable w13 ⟨x53, 0, none⟩ 3 ∧ ∀ w14, w14 = setCells w13 ⟨x53, 0, none⟩ [.slice x48 x49 x50, .q x51, .q x52] →
 ∃ x54, w14.cell? ⟨x53, 2, none⟩ = some (.q x54) ∧
 cond (x54 != 0)
 (∃ x55 x56 x57 x58 x59, CellsAt w14 ⟨x53, 0, none⟩ [.slice x55 x56 x57, .q x58, .q x59] ∧
 Writable w14 ⟨x5, 0, none⟩ 3 ∧ ∀ w15, w15 = setCells w14 ⟨x5, 0, none⟩ [.slice x55 x56 x57, .q x58, .q x59] →
 ∃ x60 x61 x62 x63 x64, CellsAt w15 ⟨x5, 0, none⟩ [.slice x60 x61 x62, .q x63, .q x64] ∧
 K (.agg #[.slice x60 x61 x62, .q x63, .q x64]) w15)
 (∃ x65, w14.cell? ⟨x53, 1, none⟩ = some (.q x65) ∧
 Calls Try.prog 22 #[.slice x0 x1 x2, .q x65] w14 (Ret fun x66 w16 =>
 ∃ x67 x68 x69 x70, x66 = .agg #[.q x67, .s x68, .q x69, .q x70] ∧
 ∀ x71 w17, x71 = w16.heap.size → w17 = w16.alloc (.cells #[.q 0, .s [], .q 0, .q 0] 44) →
 Writable w17 ⟨x71, 0, none⟩ 4 ∧ ∀ w18, w18 = setCells w17 ⟨x71, 0, none⟩ [.q x67, .s x68, .q x69, .q x70] →
 ∃ (J1 : Bool → World → Prop),
 (∃ x72, w18.cell? ⟨x71, 0, none⟩ = some (.q x72) ∧
 cond (x72 != 4)
 (J1 true w18)
 (∃ x73, w18.cell? ⟨x71, 1, none⟩ = some (.s x73) ∧
 J1 (!(x73 == [41])) w18)) ∧
 ∀ (_x74 : Nat → Value) (x75 : Bool) (w19 : World), J1 x75 w19 →
 cond (x75)
 (∃ x76, w19.cell? ⟨x53, 1, none⟩ = some (.q x76) ∧
 Writable w19 ⟨x5, 0, none⟩ 3 ∧ ∀ w20, w20 = setCells w19 ⟨x5, 0, none⟩ [.slice none 0 0, .q x76, .q 11] →
 ∃ x77 x78 x79 x80 x81, CellsAt w20 ⟨x5, 0, none⟩ [.slice x77 x78 x79, .q x80, .q x81] ∧
 K (.agg #[.slice x77 x78 x79, .q x80, .q x81]) w20)
 (∃ x82 x83 x84, w19.cell? ⟨x53, 0, none⟩ = some (.slice x82 x83 x84) ∧
 ∃ x85, w19.cell? ⟨x53, 1, none⟩ = some (.q x85) ∧
 Writable w19 ⟨x5, 0, none⟩ 3 ∧ ∀ w21, w21 = setCells w19 ⟨x5, 0, none⟩ [.slice x82 x83 x84, .q (IntKind.i64.wrap (x85 + 1)), .q 0] →
 ∃ x86 x87 x88 x89 x90, CellsAt w21 ⟨x5, 0, none⟩ [.slice x86 x87 x88, .q x89, .q x90] ∧
 K (.agg #[.slice x86 x87 x88, .q x89, .q x90]) w21)))))
 (Calls Try.prog 101 #[.slice x0 x1 x2, .q (IntKind.i64.wrap (x3 + 1)), .q (IntKind.i64.wrap (x4 + 1))] w9 (Ret fun x91 w22 =>
 ∃ x92 x93 x94 x95 x96, x91 = .agg #[.slice x92 x93 x94, .q x95, .q x96] ∧
 ∀ x97 w23, x97 = w22.heap.size → w23 = w22.alloc (.cells #[.slice none 0 0, .q 0, .q 0] 29) →
 Writable w23 ⟨x97, 0, none⟩ 3 ∧ ∀ w24, w24 = setCells w23 ⟨x97, 0, none⟩ [.slice x92 x93 x94, .q x95, .q x96] →
 ∃ x98, w24.cell? ⟨x97, 2, none⟩ = some (.q x98) ∧
 cond (x98 != 0)
 (∃ x99 x100 x101 x102 x103, CellsAt w24 ⟨x97, 0, none⟩ [.slice x99 x100 x101, .q x102, .q x103] ∧
 Writable w24 ⟨x5, 0, none⟩ 3 ∧ ∀ w25, w25 = setCells w24 ⟨x5, 0, none⟩ [.slice x99 x100 x101, .q x102, .q x103] →
 ∃ x104 x105 x106 x107 x108, CellsAt w25 ⟨x5, 0, none⟩ [.slice x104 x105 x106, .q x107, .q x108] ∧
 K (.agg #[.slice x104 x105 x106, .q x107, .q x108]) w25)
 (∃ (J2 : Int → World → Prop),
 (∃ x109, w24.cell? ⟨x11, 1, none⟩ = some (.s x109) ∧
 cond (x109 == [33])
 (J2 4 w24)
 (J2 3 w24)) ∧
 ∀ (_x110 : Nat → Value) (x111 : Int) (w26 : World), J2 x111 w26 →
 ∀ w27, w27 = w26.drew →
 ∃ (S : World → Prop), S w27 ∧
 ∃ x112, (∀ u, S u → u.cell? ⟨x11, 3, none⟩ = some (.q x112)) ∧
 ∃ x113 x114 x115, (∀ u, S u → u.cell? ⟨x97, 0, none⟩ = some (.slice x113 x114 x115)) ∧
 ∃ x116, (∀ u, S u → u.cell? ⟨x97, 1, none⟩ = some (.q x116)) ∧
 ∀ x117 w28, x117 = w27.heap.size → w28 = w27.alloc (.cells #[.q x111, .s [], .q 0, .q 1, .q x112] 39) →
 S w28 ∧
 SemOk Try.prog (Builtin.append_ #[23, 23] 23 #[.slice (some ⟨x117, 0, none⟩) 1 1, .slice x113 x114 x115]) (fun x118 w29 =>
 ∃ x119 x120 x121, x118 = .slice x119 x120 x121 ∧
 S w29 ∧
 Writable w29 ⟨x5, 0, none⟩ 3 ∧ ∀ w30, w30 = setCells w29 ⟨x5, 0, none⟩ [.slice x119 x120 x121, .q x116, .q 0] →
 ∃ x122 x123 x124 x125 x126, CellsAt w30 ⟨x5, 0, none⟩ [.slice x122 x123 x124, .q x125, .q x126] ∧
 K (.agg #[.slice x122 x123 x124, .q x125, .q x126]) w30) w28))))))))
theorem R10_one_ok (x0 : Option Addr) (x1 : Nat) (x2 : Nat) (x3 : Int) (x4 : Int) (K : Value → World → Prop) (w : World) (h : R10_one_wp x0 x1 x2 x3 x4 K w) : Calls Try.prog 101 #[.slice x0 x1 x2, .q x3, .q x4] w (Ret K) :=
 calls_of { cuts := [(62, [(56, .bool)]), (2047, [(11, .int .i64)]), (16301, [(87, .bool)])] } Try.func101 (by kernel_rfl) h
def R10_Parse_wp (x0 : Option Addr) (x1 : Nat) (x2 : Nat) (x3 : Int) (K : Value → World → Prop) (w : World) : Prop :=
 ∀ x4 w1, x4 = w.heap.size → w1 = w.alloc (.cells #[.slice none 0 0, .q 0, .q 0] 29) →
 cond (decide (x3 < 0))
 (Writable w1 ⟨x4, 0, none⟩ 3 ∧ ∀ w2, w2 = setCells w1 ⟨x4, 0, none⟩ [.slice none 0 0, .q 0, .q 1] →
 ∃ x5 x6 x7 x8 x9, CellsAt w2 ⟨x4, 0, none⟩ [.slice x5 x6 x7, .q x8, .q x9] ∧
 K (.agg #[.slice x5 x6 x7, .q x8, .q x9]) w2)
 (Calls Try.prog 97 #[.slice x0 x1 x2, .q x3, .q 1, .q 0] w1 (Ret fun x10 w3 =>
 ∃ x11 x12 x13 x14 x15, x10 = .agg #[.slice x11 x12 x13, .q x14, .q x15] ∧
 Writable w3 ⟨x4, 0, none⟩ 3 ∧ ∀ w4, w4 = setCells w3 ⟨x4, 0, none⟩ [.slice x11 x12 x13, .q x14, .q x15] →
 ∃ x16 x17 x18 x19 x20, CellsAt w4 ⟨x4, 0, none⟩ [.slice x16 x17 x18, .q x19, .q x20] ∧
 K (.agg #[.slice x16 x17 x18, .q x19, .q x20]) w4))
theorem R10_Parse_ok (x0 : Option Addr) (x1 : Nat) (x2 : Nat) (x3 : Int) (K : Value → World → Prop) (w : World) (h : R10_Parse_wp x0 x1 x2 x3 K w) : Calls Try.prog 92 #[.slice x0 x1 x2, .q x3] w (Ret K) :=
 calls_of {} Try.func92 (by kernel_rfl) h
end Go.Proofs.Ytdbdkdmgfiiljaa
