/- A part of the proof: conditions of the code, contracts, the plain law. -/
import Derived.Test.YtdbdkdmgfiiljaaRows
import Derived.Test.YtdbdkdmgfiiljaaVcI
import Derived.Test.YtdbdkdmgfiiljaaLv
namespace Go.Proofs.Ytdbdkdmgfiiljaa
open Go.Vc
def parse_Unit_wp (x0 : Option Addr) (x1 : Nat) (x2 : Nat) (K : Value → World → Prop) (w : World) : Prop :=
 ∀ x3 w1, x3 = w.heap.size → w1 = w.alloc (.cells #[.int .i64 42, .string (mkS []), .int .i64 0, .int .i64 0, .int .i64 0] 39) →
 ∀ x4 w2, x4 = w1.heap.size → w2 = w1.alloc (.cells #[.slice x0 x1 x2, .int .i64 0, .int .i64 0, .slice (some ⟨x3, 0, none⟩) 1 1, .int .i64 0] 56) →
 ∃ (I : World → Prop) (x5 : World → Nat), I w2 ∧
 ∀ (_x6 : Nat → Value) (w3 : World), I w3 →
 ∃ (J : Bool → World → Prop),
 (∃ x7, w3.cell? ⟨x4, 4, none⟩ = some (.int .i64 x7) ∧
 cond (x7 == 0)
 (Calls Try.prog 19 #[.pointer (some ⟨x4, 0, none⟩), .int .i64 0] w3 (Ret fun x8 w4 =>
 ∃ x9 x10 x11 x12, x8 = .agg #[.int .i64 x9, .string (mkS x10), .int .i64 x11, .int .i64 x12] ∧
 J (x9 != 0) w4))
 (J false w3)) ∧
 ∀ (_x13 : Nat → Value) (x14 : Bool) (w5 : World), J x14 w5 →
 cond (x14)
 (Calls Try.prog 20 #[.pointer (some ⟨x4, 0, none⟩)] w5 (Ret fun _x15 w6 =>
 ∃ x16 x17 x18, w6.cell? ⟨x4, 3, none⟩ = some (.slice x16 x17 x18) ∧
 ((0 : Int) ≤ 0 ∧ 0 < (x17 : Int)) ∧
 ptrOr x16 (fun x19 =>
 ∃ x20, w6.cell? ((x19.add (0 * 5)).add 3) = some (.int .i64 x20) ∧
 ((0 : Int) ≤ 0 ∧ 0 < (x17 : Int)) ∧
 ptrOr x16 (fun x21 =>
 Writable w6 ((x21.add (0 * 5)).add 3) 1 ∧ ∀ w7, w7 = w6.setCell ((x21.add (0 * 5)).add 3) (.int .i64 (IntKind.i64.wrap (x20 + 1))) →
 I w7 ∧ x5 w7 < x5 w3))))
 (∃ x22, w5.cell? ⟨x4, 4, none⟩ = some (.int .i64 x22) ∧
 cond (x22 != 0)
 (∀ w8, w8 = w5.drew →
 ∃ x23, w8.cell? ⟨x4, 1, none⟩ = some (.int .i64 x23) ∧
 ∃ x24, w8.cell? ⟨x4, 4, none⟩ = some (.int .i64 x24) ∧
 K (.tuple #[.slice none 0 0, .int .i64 x23, .int .i64 x24]) w8)
 (∃ x25 x26 x27, w5.cell? ⟨x4, 3, none⟩ = some (.slice x25 x26 x27) ∧
 K (.tuple #[.slice x25 x26 x27, .int .i64 0, .int .i64 0]) w5))
theorem parse_Unit_ok (x0 : Option Addr) (x1 : Nat) (x2 : Nat) (K : Value → World → Prop) (w : World) (h : parse_Unit_wp x0 x1 x2 K w) : Calls Try.prog 13 #[.slice x0 x1 x2] w (Ret K) :=
 calls_of { loops := [(28, [])], cuts := [(112, [(21, .bool)])] } Try.func13 (by kernel_rfl) h
def parse_Text_wp (x0 : List UInt8) (K : Value → World → Prop) (w : World) : Prop :=
 Calls Try.prog 12 #[.string (mkS x0)] w (Ret fun x1 w1 =>
 ∃ x2 x3 x4 x5 x6, x1 = .tuple #[.slice x2 x3 x4, .int .i64 x5, .int .i64 x6] ∧
 cond (x6 != 0)
 (K (.tuple #[.slice none 0 0, .int .i64 x5, .int .i64 x6]) w1)
 (Calls Try.prog 13 #[.slice x2 x3 x4] w1 (Ret fun x7 w2 =>
 ∃ x8 x9 x10 x11 x12, x7 = .tuple #[.slice x8 x9 x10, .int .i64 x11, .int .i64 x12] ∧
 cond (x12 != 0)
 (∀ w3, w3 = w2.drew →
 ((0 : Int) ≤ (if (IntKind.i64.wrap ((x3 : Int) - 1)) < x11 then IntKind.i64.wrap ((x3 : Int) - 1) else x11) ∧ (if (IntKind.i64.wrap ((x3 : Int) - 1)) < x11 then IntKind.i64.wrap ((x3 : Int) - 1) else x11) < (x3 : Int)) ∧
 ptrOr x2 (fun x13 =>
 ∃ x14, w3.cell? ((x13.add ((if (IntKind.i64.wrap ((x3 : Int) - 1)) < x11 then IntKind.i64.wrap ((x3 : Int) - 1) else x11).toNat * 4)).add 3) = some (.int .i64 x14) ∧
 K (.tuple #[.slice none 0 0, .int .i64 x14, .int .i64 x12]) w3))
 (K (.tuple #[.slice x8 x9 x10, .int .i64 0, .int .i64 0]) w2))))
theorem parse_Text_ok (x0 : List UInt8) (K : Value → World → Prop) (w : World) (h : parse_Text_wp x0 K w) : Calls Try.prog 7 #[.string (mkS x0)] w (Ret K) :=
 calls_of {} Try.func7 (by kernel_rfl) h
def parse_reader_see_wp (x0 : Nat) (x1 : Int) (K : Value → World → Prop) (w : World) : Prop :=
 ∀ x2 w1, x2 = w.heap.size → w1 = w.alloc (.cells #[.int .i64 0, .string (mkS []), .int .i64 0, .int .i64 0] 44) →
 ∀ w2, w2 = w1.drew →
 ∃ x3, w2.cell? ⟨x0, 1, none⟩ = some (.int .i64 x3) ∧
 ∃ x4 x5 x6, w2.cell? ⟨x0, 0, none⟩ = some (.slice x4 x5 x6) ∧
 cond (decide ((IntKind.i64.wrap (x3 + x1)) < (x5 : Int)))
 (∀ w3, w3 = w2.drew →
 ∃ (S : World → Prop), S w3 ∧
 ∃ x7 x8 x9, (∀ u, S u → u.cell? ⟨x0, 0, none⟩ = some (.slice x7 x8 x9)) ∧
 ∃ x10, (∀ u, S u → u.cell? ⟨x0, 1, none⟩ = some (.int .i64 x10)) ∧
 ((0 : Int) ≤ (IntKind.i64.wrap (x10 + x1)) ∧ (IntKind.i64.wrap (x10 + x1)) < (x8 : Int)) ∧
 ptrOr x7 (fun x11 =>
 ∃ x12 x13 x14 x15, (∀ u, S u → CellsAt u (x11.add ((IntKind.i64.wrap (x10 + x1)).toNat * 4)) [.int .i64 x12, .string (mkS x13), .int .i64 x14, .int .i64 x15]) ∧
 Writable w3 ⟨x2, 0, none⟩ 4 ∧ ∀ w4, w4 = setCells w3 ⟨x2, 0, none⟩ [.int .i64 x12, .string (mkS x13), .int .i64 x14, .int .i64 x15] →
 ∃ x16 x17 x18 x19, CellsAt w4 ⟨x2, 0, none⟩ [.int .i64 x16, .string (mkS x17), .int .i64 x18, .int .i64 x19] ∧
 K (.agg #[.int .i64 x16, .string (mkS x17), .int .i64 x18, .int .i64 x19]) w4))
 (Writable w2 ⟨x2, 0, none⟩ 4 ∧ ∀ w5, w5 = setCells w2 ⟨x2, 0, none⟩ [.int .i64 0, .string (mkS []), .int .i64 0, .int .i64 0] →
 ∃ x20 x21 x22 x23, CellsAt w5 ⟨x2, 0, none⟩ [.int .i64 x20, .string (mkS x21), .int .i64 x22, .int .i64 x23] ∧
 K (.agg #[.int .i64 x20, .string (mkS x21), .int .i64 x22, .int .i64 x23]) w5)
theorem parse_reader_see_ok (x0 : Nat) (x1 : Int) (K : Value → World → Prop) (w : World) (h : parse_reader_see_wp x0 x1 K w) : Calls Try.prog 19 #[.pointer (some ⟨x0, 0, none⟩), .int .i64 x1] w (Ret K) :=
 calls_of {} Try.func19 (by kernel_rfl) h
def parse_reader_is_wp (x0 : Nat) (x1 : Int) (x2 : List UInt8) (K : Value → World → Prop) (w : World) : Prop :=
 Calls Try.prog 19 #[.pointer (some ⟨x0, 0, none⟩), .int .i64 x1] w (Ret fun x3 w1 =>
 ∃ x4 x5 x6 x7, x3 = .agg #[.int .i64 x4, .string (mkS x5), .int .i64 x6, .int .i64 x7] ∧
 ∀ x8 w2, x8 = w1.heap.size → w2 = w1.alloc (.cells #[.int .i64 0, .string (mkS []), .int .i64 0, .int .i64 0] 44) →
 Writable w2 ⟨x8, 0, none⟩ 4 ∧ ∀ w3, w3 = setCells w2 ⟨x8, 0, none⟩ [.int .i64 x4, .string (mkS x5), .int .i64 x6, .int .i64 x7] →
 ∃ x9, w3.cell? ⟨x8, 0, none⟩ = some (.int .i64 x9) ∧
 cond (x9 == 3)
 (∃ x10, w3.cell? ⟨x8, 1, none⟩ = some (.string (mkS x10)) ∧
 K (.bool (x10 == x2)) w3)
 (∃ x11, w3.cell? ⟨x8, 0, none⟩ = some (.int .i64 x11) ∧
 cond (x11 == 4)
 (∃ x12, w3.cell? ⟨x8, 1, none⟩ = some (.string (mkS x12)) ∧
 K (.bool (x12 == x2)) w3)
 (K (.bool false) w3)))
theorem parse_reader_is_ok (x0 : Nat) (x1 : Int) (x2 : List UInt8) (K : Value → World → Prop) (w : World) (h : parse_reader_is_wp x0 x1 x2 K w) : Calls Try.prog 67 #[.pointer (some ⟨x0, 0, none⟩), .int .i64 x1, .string (mkS x2)] w (Ret K) :=
 calls_of {} Try.func67 (by kernel_rfl) h
def parse_reader_fail_wp (x0 : Nat) (x1 : Int) (K : Value → World → Prop) (w : World) : Prop :=
 ∃ x2, w.cell? ⟨x0, 4, none⟩ = some (.int .i64 x2) ∧
 cond (x2 == 0)
 (Writable w ⟨x0, 4, none⟩ 1 ∧ ∀ w1, w1 = w.setCell ⟨x0, 4, none⟩ (.int .i64 x1) →
 K (.tuple #[]) w1)
 (K (.tuple #[]) w)
theorem parse_reader_fail_ok (x0 : Nat) (x1 : Int) (K : Value → World → Prop) (w : World) (h : parse_reader_fail_wp x0 x1 K w) : Calls Try.prog 68 #[.pointer (some ⟨x0, 0, none⟩), .int .i64 x1] w (Ret K) :=
 calls_of {} Try.func68 (by kernel_rfl) h
def parse_reader_eat_wp (x0 : Nat) (x1 : List UInt8) (K : Value → World → Prop) (w : World) : Prop :=
 ∃ (J : Bool → World → Prop),
 (∃ x2, w.cell? ⟨x0, 4, none⟩ = some (.int .i64 x2) ∧
 cond (x2 != 0)
 (J true w)
 (Calls Try.prog 67 #[.pointer (some ⟨x0, 0, none⟩), .int .i64 0, .string (mkS x1)] w (Ret fun x3 w1 =>
 ∃ x4, x3 = .bool x4 ∧
 J (!x4) w1))) ∧
 ∀ (_x5 : Nat → Value) (x6 : Bool) (w2 : World), J x6 w2 →
 cond (x6)
 (K (.bool false) w2)
 (∃ x7, w2.cell? ⟨x0, 1, none⟩ = some (.int .i64 x7) ∧
 Writable w2 ⟨x0, 1, none⟩ 1 ∧ ∀ w3, w3 = w2.setCell ⟨x0, 1, none⟩ (.int .i64 (IntKind.i64.wrap (x7 + 1))) →
 K (.bool true) w3)
theorem parse_reader_eat_ok (x0 : Nat) (x1 : List UInt8) (K : Value → World → Prop) (w : World) (h : parse_reader_eat_wp x0 x1 K w) : Calls Try.prog 43 #[.pointer (some ⟨x0, 0, none⟩), .string (mkS x1)] w (Ret K) :=
 calls_of { cuts := [(6, [(15, .bool)])] } Try.func43 (by kernel_rfl) h
def parse_reader_must_wp (x0 : Nat) (x1 : Option Addr) (x2 : Nat) (_x3 : Nat) (K : Value → World → Prop) (w : World) : Prop :=
 ∃ (I : Int → World → Prop) (x4 : Int → World → Nat), I 0 w ∧
 ∀ (_x5 : Nat → Value) (x6 : Int) (w1 : World), I x6 w1 →
 cond (decide (x6 < (x2 : Int)))
 (((0 : Int) ≤ x6 ∧ x6 < (x2 : Int)) ∧
 ptrOr x1 (fun x7 =>
 ∃ x8, w1.cell? (x7.add (x6.toNat * 1)) = some (.string (mkS x8)) ∧
 Calls Try.prog 43 #[.pointer (some ⟨x0, 0, none⟩), .string (mkS x8)] w1 (Ret fun x9 w2 =>
 ∃ x10, x9 = .bool x10 ∧
 cond (!x10)
 (Calls Try.prog 68 #[.pointer (some ⟨x0, 0, none⟩), .int .i64 11] w2 (Ret fun _x11 w3 =>
 K (.tuple #[]) w3))
 (I (IntKind.i64.wrap (x6 + 1)) w2 ∧ x4 (IntKind.i64.wrap (x6 + 1)) w2 < x4 x6 w1))))
 (K (.tuple #[]) w1)
theorem parse_reader_must_ok (x0 : Nat) (x1 : Option Addr) (x2 : Nat) (x3 : Nat) (K : Value → World → Prop) (w : World) (h : parse_reader_must_wp x0 x1 x2 x3 K w) : Calls Try.prog 46 #[.pointer (some ⟨x0, 0, none⟩), .slice x1 x2 x3] w (Ret K) :=
 calls_of { loops := [(6, [(8, .int .i64)])] } Try.func46 (by kernel_rfl) h
def parse_reader_name_wp (x0 : Nat) (K : Value → World → Prop) (w : World) : Prop :=
 Calls Try.prog 19 #[.pointer (some ⟨x0, 0, none⟩), .int .i64 0] w (Ret fun x1 w1 =>
 ∃ x2 x3 x4 x5, x1 = .agg #[.int .i64 x2, .string (mkS x3), .int .i64 x4, .int .i64 x5] ∧
 ∀ x6 w2, x6 = w1.heap.size → w2 = w1.alloc (.cells #[.int .i64 0, .string (mkS []), .int .i64 0, .int .i64 0] 44) →
 Writable w2 ⟨x6, 0, none⟩ 4 ∧ ∀ w3, w3 = setCells w2 ⟨x6, 0, none⟩ [.int .i64 x2, .string (mkS x3), .int .i64 x4, .int .i64 x5] →
 ∃ (J : Bool → World → Prop),
 (∃ x7, w3.cell? ⟨x0, 4, none⟩ = some (.int .i64 x7) ∧
 cond (x7 != 0)
 (J true w3)
 (∃ x8, w3.cell? ⟨x6, 0, none⟩ = some (.int .i64 x8) ∧
 J (x8 != 1) w3)) ∧
 ∀ (_x9 : Nat → Value) (x10 : Bool) (w4 : World), J x10 w4 →
 cond (x10)
 (Calls Try.prog 68 #[.pointer (some ⟨x0, 0, none⟩), .int .i64 11] w4 (Ret fun _x11 w5 =>
 K (.string (mkS [])) w5))
 (∃ x12, w4.cell? ⟨x0, 1, none⟩ = some (.int .i64 x12) ∧
 Writable w4 ⟨x0, 1, none⟩ 1 ∧ ∀ w6, w6 = w4.setCell ⟨x0, 1, none⟩ (.int .i64 (IntKind.i64.wrap (x12 + 1))) →
 ∃ x13, w6.cell? ⟨x6, 1, none⟩ = some (.string (mkS x13)) ∧
 K (.string (mkS x13)) w6))
theorem parse_reader_name_ok (x0 : Nat) (K : Value → World → Prop) (w : World) (h : parse_reader_name_wp x0 K w) : Calls Try.prog 44 #[.pointer (some ⟨x0, 0, none⟩)] w (Ret K) :=
 calls_of { cuts := [(14, [(15, .bool)])] } Try.func44 (by kernel_rfl) h
def parse_reader_open_wp (x0 : Nat) (x1 : Int) (K : Value → World → Prop) (w : World) : Prop :=
 ∃ (J : World → Prop),
 (∀ w1, w1 = w.drew →
 ∃ (S : World → Prop), S w1 ∧
 ∃ x2 x3 x4, (∀ u, S u → u.cell? ⟨x0, 3, none⟩ = some (.slice x2 x3 x4)) ∧
 Calls Try.prog 19 #[.pointer (some ⟨x0, 0, none⟩), .int .i64 0] w1 (Ret fun x5 w2 =>
 ∃ x6 x7 x8 x9, x5 = .agg #[.int .i64 x6, .string (mkS x7), .int .i64 x8, .int .i64 x9] ∧
 S w2 ∧
 ∀ x10 w3, x10 = w2.heap.size → w3 = w2.alloc (.cells #[.int .i64 x1, .string (mkS []), .int .i64 0, .int .i64 0, .int .i64 x9] 39) →
 S w3 ∧
 SemOk Try.prog (Builtin.append_ #[23, 23] 23 #[.slice x2 x3 x4, .slice (some ⟨x10, 0, none⟩) 1 1]) (fun x11 w4 =>
 ∃ x12 x13 x14, x11 = .slice x12 x13 x14 ∧
 Writable w4 ⟨x0, 3, none⟩ 1 ∧ ∀ w5, w5 = w4.setCell ⟨x0, 3, none⟩ (.slice x12 x13 x14) →
 J w5) w3)) ∧
 ∀ (_x15 : Nat → Value) (w6 : World), J w6 →
 ∃ x16 x17 x18, w6.cell? ⟨x0, 3, none⟩ = some (.slice x16 x17 x18) ∧
 K (.int .i64 (IntKind.i64.wrap ((x17 : Int) - 1))) w6
theorem parse_reader_open_ok (x0 : Nat) (x1 : Int) (K : Value → World → Prop) (w : World) (h : parse_reader_open_wp x0 x1 K w) : Calls Try.prog 42 #[.pointer (some ⟨x0, 0, none⟩), .int .i64 x1] w (Ret K) :=
 calls_of { cuts := [(3, [])] } Try.func42 (by kernel_rfl) h
def parse_reader_term_wp (x0 : Nat) (x1 : Int) (K : Value → World → Prop) (w : World) : Prop :=
 ∃ x2, w.cell? ⟨x0, 4, none⟩ = some (.int .i64 x2) ∧
 cond (x2 != 0)
 (K (.tuple #[]) w)
 (∃ (J : Option Addr → Nat → Nat → Int → Int → World → Prop),
 (∀ w1, w1 = w.drew →
 ∃ (S : World → Prop), S w1 ∧
 ∃ x3 x4 x5, (∀ u, S u → u.cell? ⟨x0, 0, none⟩ = some (.slice x3 x4 x5)) ∧
 ∃ x6, (∀ u, S u → u.cell? ⟨x0, 1, none⟩ = some (.int .i64 x6)) ∧
 Calls Try.prog 84 #[.slice x3 x4 x5, .int .i64 x6] w1 (Ret fun x7 w2 =>
 ∃ x8 x9 x10 x11 x12, x7 = .tuple #[.slice x8 x9 x10, .int .i64 x11, .int .i64 x12] ∧
 J x8 x9 x10 x11 x12 w2)) ∧
 ∀ (_x13 : Nat → Value) (x14 : Option Addr) (x15 : Nat) (x16 : Nat) (x17 : Int) (x18 : Int) (w3 : World), J x14 x15 x16 x17 x18 w3 →
 Writable w3 ⟨x0, 1, none⟩ 1 ∧ ∀ w4, w4 = w3.setCell ⟨x0, 1, none⟩ (.int .i64 x17) →
 cond (x18 != 0)
 (Calls Try.prog 68 #[.pointer (some ⟨x0, 0, none⟩), .int .i64 x18] w4 (Ret fun _x19 w5 =>
 K (.tuple #[]) w5))
 (∃ x20 x21 x22, w4.cell? ⟨x0, 3, none⟩ = some (.slice x20 x21 x22) ∧
 SemOk Try.prog (Builtin.append_ #[23, 23] 23 #[.slice x20 x21 x22, .slice x14 x15 x16]) (fun x23 w6 =>
 ∃ x24 x25 x26, x23 = .slice x24 x25 x26 ∧
 Writable w6 ⟨x0, 3, none⟩ 1 ∧ ∀ w7, w7 = w6.setCell ⟨x0, 3, none⟩ (.slice x24 x25 x26) →
 ∃ x27 x28 x29, w7.cell? ⟨x0, 3, none⟩ = some (.slice x27 x28 x29) ∧
 ((0 : Int) ≤ x1 ∧ x1 < (x28 : Int)) ∧
 ptrOr x27 (fun x30 =>
 ∃ x31, w7.cell? ((x30.add (x1.toNat * 5)).add 3) = some (.int .i64 x31) ∧
 ((0 : Int) ≤ x1 ∧ x1 < (x28 : Int)) ∧
 ptrOr x27 (fun x32 =>
 Writable w7 ((x32.add (x1.toNat * 5)).add 3) 1 ∧ ∀ w8, w8 = w7.setCell ((x32.add (x1.toNat * 5)).add 3) (.int .i64 (IntKind.i64.wrap (x31 + 1))) →
 K (.tuple #[]) w8))) w4))
theorem parse_reader_term_ok (x0 : Nat) (x1 : Int) (K : Value → World → Prop) (w : World) (h : parse_reader_term_wp x0 x1 K w) : Calls Try.prog 77 #[.pointer (some ⟨x0, 0, none⟩), .int .i64 x1] w (Ret K) :=
 calls_of { cuts := [(3, [(4, .slice), (5, .int .i64), (6, .int .i64)])] } Try.func77 (by kernel_rfl) h
def parse_reader_ref_wp (x0 : Nat) (x1 : Int) (K : Value → World → Prop) (w : World) : Prop :=
 Calls Try.prog 42 #[.pointer (some ⟨x0, 0, none⟩), .int .i64 33] w (Ret fun x2 w1 =>
 ∃ x3, x2 = .int .i64 x3 ∧
 ∃ (J : World → Prop),
 (∀ w2, w2 = w1.drew →
 ∃ (S : World → Prop), S w2 ∧
 ∃ x4 x5 x6, (∀ u, S u → u.cell? ⟨x0, 3, none⟩ = some (.slice x4 x5 x6)) ∧
 Calls Try.prog 44 #[.pointer (some ⟨x0, 0, none⟩)] w2 (Ret fun x7 w3 =>
 ∃ x8, x7 = .string (mkS x8) ∧
 S w3 ∧
 ((0 : Int) ≤ x3 ∧ x3 < (x5 : Int)) ∧
 ptrOr x4 (fun x9 =>
 Writable w3 ((x9.add (x3.toNat * 5)).add 1) 1 ∧ ∀ w4, w4 = w3.setCell ((x9.add (x3.toNat * 5)).add 1) (.string (mkS x8)) →
 J w4))) ∧
 ∀ (_x10 : Nat → Value) (w5 : World), J w5 →
 ∃ (J1 : World → Prop),
 (Calls Try.prog 43 #[.pointer (some ⟨x0, 0, none⟩), .string (mkS [91])] w5 (Ret fun x11 w6 =>
 ∃ x12, x11 = .bool x12 ∧
 cond (x12)
 (Calls Try.prog 77 #[.pointer (some ⟨x0, 0, none⟩), .int .i64 x3] w6 (Ret fun _x13 w7 =>
 ∀ x14 w8, x14 = w7.heap.size → w8 = w7.alloc (.cells #[.string (mkS [93])] 9) →
 Calls Try.prog 46 #[.pointer (some ⟨x0, 0, none⟩), .slice (some ⟨x14, 0, none⟩) 1 1] w8 (Ret fun _x15 w9 =>
 J1 w9)))
 (J1 w6))) ∧
 ∀ (_x16 : Nat → Value) (w10 : World), J1 w10 →
 ∃ x17 x18 x19, w10.cell? ⟨x0, 3, none⟩ = some (.slice x17 x18 x19) ∧
 ((0 : Int) ≤ x1 ∧ x1 < (x18 : Int)) ∧
 ptrOr x17 (fun x20 =>
 ∃ x21, w10.cell? ((x20.add (x1.toNat * 5)).add 3) = some (.int .i64 x21) ∧
 ((0 : Int) ≤ x1 ∧ x1 < (x18 : Int)) ∧
 ptrOr x17 (fun x22 =>
 Writable w10 ((x22.add (x1.toNat * 5)).add 3) 1 ∧ ∀ w11, w11 = w10.setCell ((x22.add (x1.toNat * 5)).add 3) (.int .i64 (IntKind.i64.wrap (x21 + 1))) →
 K (.tuple #[]) w11)))
theorem parse_reader_ref_ok (x0 : Nat) (x1 : Int) (K : Value → World → Prop) (w : World) (h : parse_reader_ref_wp x0 x1 K w) : Calls Try.prog 83 #[.pointer (some ⟨x0, 0, none⟩), .int .i64 x1] w (Ret K) :=
 calls_of { cuts := [(3, []), (7, [])] } Try.func83 (by kernel_rfl) h
def parse_reader_block_wp (x0 : Nat) (x1 : Int) (K : Value → World → Prop) (w : World) : Prop :=
 ∃ (J : World → Prop),
 (∃ (J1 : Bool → World → Prop),
 (∃ x2, w.cell? ⟨x0, 4, none⟩ = some (.int .i64 x2) ∧
 cond (x2 == 0)
 (Calls Try.prog 67 #[.pointer (some ⟨x0, 0, none⟩), .int .i64 0, .string (mkS [123])] w (Ret fun x3 w1 =>
 ∃ x4, x3 = .bool x4 ∧
 cond (x4)
 (∃ x5, w1.cell? ⟨x0, 2, none⟩ = some (.int .i64 x5) ∧
 J1 (x5 == 24) w1)
 (J1 false w1)))
 (J1 false w)) ∧
 ∀ (_x6 : Nat → Value) (x7 : Bool) (w2 : World), J1 x7 w2 →
 cond (x7)
 (Calls Try.prog 68 #[.pointer (some ⟨x0, 0, none⟩), .int .i64 5] w2 (Ret fun _x8 w3 =>
 J w3))
 (J w2)) ∧
 ∀ (_x9 : Nat → Value) (w4 : World), J w4 →
 Calls Try.prog 42 #[.pointer (some ⟨x0, 0, none⟩), .int .i64 32] w4 (Ret fun x10 w5 =>
 ∃ x11, x10 = .int .i64 x11 ∧
 ∀ x12 w6, x12 = w5.heap.size → w6 = w5.alloc (.cells #[.string (mkS [123])] 9) →
 Calls Try.prog 46 #[.pointer (some ⟨x0, 0, none⟩), .slice (some ⟨x12, 0, none⟩) 1 1] w6 (Ret fun _x13 w7 =>
 ∃ x14, w7.cell? ⟨x0, 2, none⟩ = some (.int .i64 x14) ∧
 Writable w7 ⟨x0, 2, none⟩ 1 ∧ ∀ w8, w8 = w7.setCell ⟨x0, 2, none⟩ (.int .i64 (IntKind.i64.wrap (x14 + 1))) →
 ∃ (I : World → Prop) (x15 : World → Nat), I w8 ∧
 ∀ (_x16 : Nat → Value) (w9 : World), I w9 →
 ∃ (J2 : Bool → World → Prop),
 (∃ x17, w9.cell? ⟨x0, 4, none⟩ = some (.int .i64 x17) ∧
 cond (x17 == 0)
 (Calls Try.prog 67 #[.pointer (some ⟨x0, 0, none⟩), .int .i64 0, .string (mkS [125])] w9 (Ret fun x18 w10 =>
 ∃ x19, x18 = .bool x19 ∧
 J2 (!x19) w10))
 (J2 false w9)) ∧
 ∀ (_x20 : Nat → Value) (x21 : Bool) (w11 : World), J2 x21 w11 →
 cond (x21)
 (Calls Try.prog 69 #[.pointer (some ⟨x0, 0, none⟩)] w11 (Ret fun _x22 w12 =>
 ∃ x23 x24 x25, w12.cell? ⟨x0, 3, none⟩ = some (.slice x23 x24 x25) ∧
 ((0 : Int) ≤ x11 ∧ x11 < (x24 : Int)) ∧
 ptrOr x23 (fun x26 =>
 ∃ x27, w12.cell? ((x26.add (x11.toNat * 5)).add 3) = some (.int .i64 x27) ∧
 ((0 : Int) ≤ x11 ∧ x11 < (x24 : Int)) ∧
 ptrOr x23 (fun x28 =>
 Writable w12 ((x28.add (x11.toNat * 5)).add 3) 1 ∧ ∀ w13, w13 = w12.setCell ((x28.add (x11.toNat * 5)).add 3) (.int .i64 (IntKind.i64.wrap (x27 + 1))) →
 I w13 ∧ x15 w13 < x15 w9))))
 (∀ x29 w14, x29 = w11.heap.size → w14 = w11.alloc (.cells #[.string (mkS [125])] 9) →
 Calls Try.prog 46 #[.pointer (some ⟨x0, 0, none⟩), .slice (some ⟨x29, 0, none⟩) 1 1] w14 (Ret fun _x30 w15 =>
 ∃ x31, w15.cell? ⟨x0, 2, none⟩ = some (.int .i64 x31) ∧
 Writable w15 ⟨x0, 2, none⟩ 1 ∧ ∀ w16, w16 = w15.setCell ⟨x0, 2, none⟩ (.int .i64 (IntKind.i64.wrap (x31 - 1))) →
 ∃ x32 x33 x34, w16.cell? ⟨x0, 3, none⟩ = some (.slice x32 x33 x34) ∧
 ((0 : Int) ≤ x1 ∧ x1 < (x33 : Int)) ∧
 ptrOr x32 (fun x35 =>
 ∃ x36, w16.cell? ((x35.add (x1.toNat * 5)).add 3) = some (.int .i64 x36) ∧
 ((0 : Int) ≤ x1 ∧ x1 < (x33 : Int)) ∧
 ptrOr x32 (fun x37 =>
 Writable w16 ((x37.add (x1.toNat * 5)).add 3) 1 ∧ ∀ w17, w17 = w16.setCell ((x37.add (x1.toNat * 5)).add 3) (.int .i64 (IntKind.i64.wrap (x36 + 1))) →
 K (.tuple #[]) w17))))))
theorem parse_reader_block_ok (x0 : Nat) (x1 : Int) (K : Value → World → Prop) (w : World) (h : parse_reader_block_wp x0 x1 K w) : Calls Try.prog 48 #[.pointer (some ⟨x0, 0, none⟩), .int .i64 x1] w (Ret K) :=
 calls_of { loops := [(124, [])], cuts := [(1, []), (2, [(20, .bool)]), (496, [(44, .bool)])] } Try.func48 (by kernel_rfl) h
def parse_reader_comm_wp (x0 : Nat) (x1 : Int) (x2 : Int) (x3 : Int) (K : Value → World → Prop) (w : World) : Prop :=
 Calls Try.prog 83 #[.pointer (some ⟨x0, 0, none⟩), .int .i64 x1] w (Ret fun _x4 w1 =>
 Calls Try.prog 43 #[.pointer (some ⟨x0, 0, none⟩), .string (mkS [33])] w1 (Ret fun x5 w2 =>
 ∃ x6, x5 = .bool x6 ∧
 cond (x6)
 (∃ x7 x8 x9, w2.cell? ⟨x0, 3, none⟩ = some (.slice x7 x8 x9) ∧
 ((0 : Int) ≤ x1 ∧ x1 < (x8 : Int)) ∧
 ptrOr x7 (fun x10 =>
 Writable w2 (x10.add (x1.toNat * 5)) 1 ∧ ∀ w3, w3 = w2.setCell (x10.add (x1.toNat * 5)) (.int .i64 x2) →
 Calls Try.prog 77 #[.pointer (some ⟨x0, 0, none⟩), .int .i64 x1] w3 (Ret fun _x11 w4 =>
 K (.tuple #[]) w4)))
 (Calls Try.prog 43 #[.pointer (some ⟨x0, 0, none⟩), .string (mkS [63])] w2 (Ret fun x12 w5 =>
 ∃ x13, x12 = .bool x13 ∧
 cond (x13)
 (∃ x14 x15 x16, w5.cell? ⟨x0, 3, none⟩ = some (.slice x14 x15 x16) ∧
 ((0 : Int) ≤ x1 ∧ x1 < (x15 : Int)) ∧
 ptrOr x14 (fun x17 =>
 Writable w5 (x17.add (x1.toNat * 5)) 1 ∧ ∀ w6, w6 = w5.setCell (x17.add (x1.toNat * 5)) (.int .i64 x3) →
 ∀ w7, w7 = w6.drew →
 ∃ (S : World → Prop), S w7 ∧
 ∃ x18 x19 x20, (∀ u, S u → u.cell? ⟨x0, 3, none⟩ = some (.slice x18 x19 x20)) ∧
 Calls Try.prog 44 #[.pointer (some ⟨x0, 0, none⟩)] w7 (Ret fun x21 w8 =>
 ∃ x22, x21 = .string (mkS x22) ∧
 S w8 ∧
 ((0 : Int) ≤ x1 ∧ x1 < (x19 : Int)) ∧
 ptrOr x18 (fun x23 =>
 Writable w8 ((x23.add (x1.toNat * 5)).add 1) 1 ∧ ∀ w9, w9 = w8.setCell ((x23.add (x1.toNat * 5)).add 1) (.string (mkS x22)) →
 K (.tuple #[]) w9))))
 (Calls Try.prog 68 #[.pointer (some ⟨x0, 0, none⟩), .int .i64 11] w5 (Ret fun _x24 w10 =>
 K (.tuple #[]) w10))))))
theorem parse_reader_comm_ok (x0 : Nat) (x1 : Int) (x2 : Int) (x3 : Int) (K : Value → World → Prop) (w : World) (h : parse_reader_comm_wp x0 x1 x2 x3 K w) : Calls Try.prog 76 #[.pointer (some ⟨x0, 0, none⟩), .int .i64 x1, .int .i64 x2, .int .i64 x3] w (Ret K) :=
 calls_of {} Try.func76 (by kernel_rfl) h
def parse_reader_set_wp (x0 : Nat) (x1 : Int) (K : Value → World → Prop) (w : World) : Prop :=
 ∃ (J : World → Prop),
 (∀ w1, w1 = w.drew →
 ∃ (S : World → Prop), S w1 ∧
 ∃ x2 x3 x4, (∀ u, S u → u.cell? ⟨x0, 3, none⟩ = some (.slice x2 x3 x4)) ∧
 Calls Try.prog 44 #[.pointer (some ⟨x0, 0, none⟩)] w1 (Ret fun x5 w2 =>
 ∃ x6, x5 = .string (mkS x6) ∧
 S w2 ∧
 ((0 : Int) ≤ x1 ∧ x1 < (x3 : Int)) ∧
 ptrOr x2 (fun x7 =>
 Writable w2 ((x7.add (x1.toNat * 5)).add 1) 1 ∧ ∀ w3, w3 = w2.setCell ((x7.add (x1.toNat * 5)).add 1) (.string (mkS x6)) →
 J w3))) ∧
 ∀ (_x8 : Nat → Value) (w4 : World), J w4 →
 ∀ x9 w5, x9 = w4.heap.size → w5 = w4.alloc (.cells #[.string (mkS [61])] 9) →
 Calls Try.prog 46 #[.pointer (some ⟨x0, 0, none⟩), .slice (some ⟨x9, 0, none⟩) 1 1] w5 (Ret fun _x10 w6 =>
 Calls Try.prog 43 #[.pointer (some ⟨x0, 0, none⟩), .string (mkS [114, 97, 110, 100, 111, 109])] w6 (Ret fun x11 w7 =>
 ∃ x12, x11 = .bool x12 ∧
 cond (x12)
 (∃ x13 x14 x15, w7.cell? ⟨x0, 3, none⟩ = some (.slice x13 x14 x15) ∧
 ((0 : Int) ≤ x1 ∧ x1 < (x14 : Int)) ∧
 ptrOr x13 (fun x16 =>
 Writable w7 (x16.add (x1.toNat * 5)) 1 ∧ ∀ w8, w8 = w7.setCell (x16.add (x1.toNat * 5)) (.int .i64 20) →
 ∀ x17 w9, x17 = w8.heap.size → w9 = w8.alloc (.cells #[.string (mkS [40])] 9) →
 Calls Try.prog 46 #[.pointer (some ⟨x0, 0, none⟩), .slice (some ⟨x17, 0, none⟩) 1 1] w9 (Ret fun _x18 w10 =>
 Calls Try.prog 77 #[.pointer (some ⟨x0, 0, none⟩), .int .i64 x1] w10 (Ret fun _x19 w11 =>
 ∀ x20 w12, x20 = w11.heap.size → w12 = w11.alloc (.cells #[.string (mkS [41])] 9) →
 Calls Try.prog 46 #[.pointer (some ⟨x0, 0, none⟩), .slice (some ⟨x20, 0, none⟩) 1 1] w12 (Ret fun _x21 w13 =>
 K (.tuple #[]) w13)))))
 (Calls Try.prog 77 #[.pointer (some ⟨x0, 0, none⟩), .int .i64 x1] w7 (Ret fun _x22 w14 =>
 K (.tuple #[]) w14))))
theorem parse_reader_set_ok (x0 : Nat) (x1 : Int) (K : Value → World → Prop) (w : World) (h : parse_reader_set_wp x0 x1 K w) : Calls Try.prog 75 #[.pointer (some ⟨x0, 0, none⟩), .int .i64 x1] w (Ret K) :=
 calls_of { cuts := [(1, [])] } Try.func75 (by kernel_rfl) h
def parse_reader_clause_wp (x0 : Nat) (K : Value → World → Prop) (w : World) : Prop :=
 Calls Try.prog 42 #[.pointer (some ⟨x0, 0, none⟩), .int .i64 37] w (Ret fun x1 w1 =>
 ∃ x2, x1 = .int .i64 x2 ∧
 Calls Try.prog 43 #[.pointer (some ⟨x0, 0, none⟩), .string (mkS [101, 108, 115, 101])] w1 (Ret fun x3 w2 =>
 ∃ x4, x3 = .bool x4 ∧
 cond (x4)
 (Calls Try.prog 48 #[.pointer (some ⟨x0, 0, none⟩), .int .i64 x2] w2 (Ret fun _x5 w3 =>
 K (.tuple #[]) w3))
 (∀ x6 w4, x6 = w2.heap.size → w4 = w2.alloc (.cells #[.string (mkS [99, 97, 115, 101])] 9) →
 Calls Try.prog 46 #[.pointer (some ⟨x0, 0, none⟩), .slice (some ⟨x6, 0, none⟩) 1 1] w4 (Ret fun _x7 w5 =>
 ∃ (J : World → Prop),
 (Calls Try.prog 43 #[.pointer (some ⟨x0, 0, none⟩), .string (mkS [119, 104, 101, 110])] w5 (Ret fun x8 w6 =>
 ∃ x9, x8 = .bool x9 ∧
 cond (x9)
 (∃ x10 x11 x12, w6.cell? ⟨x0, 3, none⟩ = some (.slice x10 x11 x12) ∧
 ((0 : Int) ≤ x2 ∧ x2 < (x11 : Int)) ∧
 ptrOr x10 (fun x13 =>
 Writable w6 ((x13.add (x2.toNat * 5)).add 2) 1 ∧ ∀ w7, w7 = w6.setCell ((x13.add (x2.toNat * 5)).add 2) (.int .i64 1) →
 Calls Try.prog 77 #[.pointer (some ⟨x0, 0, none⟩), .int .i64 x2] w7 (Ret fun _x14 w8 =>
 ∀ x15 w9, x15 = w8.heap.size → w9 = w8.alloc (.cells #[.string (mkS [58])] 9) →
 Calls Try.prog 46 #[.pointer (some ⟨x0, 0, none⟩), .slice (some ⟨x15, 0, none⟩) 1 1] w9 (Ret fun _x16 w10 =>
 J w10))))
 (J w6))) ∧
 ∀ (_x17 : Nat → Value) (w11 : World), J w11 →
 ∃ (J1 : World → Prop),
 (Calls Try.prog 43 #[.pointer (some ⟨x0, 0, none⟩), .string (mkS [97, 102, 116, 101, 114])] w11 (Ret fun x18 w12 =>
 ∃ x19, x18 = .bool x19 ∧
 cond (x19)
 (∃ x20 x21 x22, w12.cell? ⟨x0, 3, none⟩ = some (.slice x20 x21 x22) ∧
 ((0 : Int) ≤ x2 ∧ x2 < (x21 : Int)) ∧
 ptrOr x20 (fun x23 =>
 Writable w12 (x23.add (x2.toNat * 5)) 1 ∧ ∀ w13, w13 = w12.setCell (x23.add (x2.toNat * 5)) (.int .i64 36) →
 Calls Try.prog 77 #[.pointer (some ⟨x0, 0, none⟩), .int .i64 x2] w13 (Ret fun _x24 w14 =>
 J1 w14)))
 (Calls Try.prog 76 #[.pointer (some ⟨x0, 0, none⟩), .int .i64 x2, .int .i64 35, .int .i64 34] w12 (Ret fun _x25 w15 =>
 J1 w15)))) ∧
 ∀ (_x26 : Nat → Value) (w16 : World), J1 w16 →
 Calls Try.prog 48 #[.pointer (some ⟨x0, 0, none⟩), .int .i64 x2] w16 (Ret fun _x27 w17 =>
 K (.tuple #[]) w17)))))
theorem parse_reader_clause_ok (x0 : Nat) (K : Value → World → Prop) (w : World) (h : parse_reader_clause_wp x0 K w) : Calls Try.prog 79 #[.pointer (some ⟨x0, 0, none⟩)] w (Ret K) :=
 calls_of { cuts := [(15, []), (31, [])] } Try.func79 (by kernel_rfl) h
def parse_reader_args_wp (x0 : Nat) (x1 : Int) (K : Value → World → Prop) (w : World) : Prop :=
 ∀ x2 w1, x2 = w.heap.size → w1 = w.alloc (.cells #[.string (mkS [40])] 9) →
 Calls Try.prog 46 #[.pointer (some ⟨x0, 0, none⟩), .slice (some ⟨x2, 0, none⟩) 1 1] w1 (Ret fun _x3 w2 =>
 Calls Try.prog 43 #[.pointer (some ⟨x0, 0, none⟩), .string (mkS [41])] w2 (Ret fun x4 w3 =>
 ∃ x5, x4 = .bool x5 ∧
 cond (!x5)
 (Calls Try.prog 77 #[.pointer (some ⟨x0, 0, none⟩), .int .i64 x1] w3 (Ret fun _x6 w4 =>
 ∃ (I : World → Prop) (x7 : World → Nat), I w4 ∧
 ∀ (_x8 : Nat → Value) (w5 : World), I w5 →
 Calls Try.prog 43 #[.pointer (some ⟨x0, 0, none⟩), .string (mkS [44])] w5 (Ret fun x9 w6 =>
 ∃ x10, x9 = .bool x10 ∧
 cond (x10)
 (Calls Try.prog 77 #[.pointer (some ⟨x0, 0, none⟩), .int .i64 x1] w6 (Ret fun _x11 w7 =>
 I w7 ∧ x7 w7 < x7 w5))
 (∀ x12 w8, x12 = w6.heap.size → w8 = w6.alloc (.cells #[.string (mkS [41])] 9) →
 Calls Try.prog 46 #[.pointer (some ⟨x0, 0, none⟩), .slice (some ⟨x12, 0, none⟩) 1 1] w8 (Ret fun _x13 w9 =>
 K (.tuple #[]) w9)))))
 (K (.tuple #[]) w3)))
theorem parse_reader_args_ok (x0 : Nat) (x1 : Int) (K : Value → World → Prop) (w : World) (h : parse_reader_args_wp x0 x1 K w) : Calls Try.prog 78 #[.pointer (some ⟨x0, 0, none⟩), .int .i64 x1] w (Ret K) :=
 calls_of { loops := [(116, [])] } Try.func78 (by kernel_rfl) h
def parse_reader_stmt_wp (x0 : Nat) (K : Value → World → Prop) (w : World) : Prop :=
 Calls Try.prog 19 #[.pointer (some ⟨x0, 0, none⟩), .int .i64 0] w (Ret fun x1 w1 =>
 ∃ x2 x3 x4 x5, x1 = .agg #[.int .i64 x2, .string (mkS x3), .int .i64 x4, .int .i64 x5] ∧
 ∀ x6 w2, x6 = w1.heap.size → w2 = w1.alloc (.cells #[.int .i64 0, .string (mkS []), .int .i64 0, .int .i64 0] 44) →
 Writable w2 ⟨x6, 0, none⟩ 4 ∧ ∀ w3, w3 = setCells w2 ⟨x6, 0, none⟩ [.int .i64 x2, .string (mkS x3), .int .i64 x4, .int .i64 x5] →
 Calls Try.prog 42 #[.pointer (some ⟨x0, 0, none⟩), .int .i64 0] w3 (Ret fun x7 w4 =>
 ∃ x8, x7 = .int .i64 x8 ∧
 ∃ x9, w4.cell? ⟨x6, 0, none⟩ = some (.int .i64 x9) ∧
 cond (x9 == 1)
 (∃ (J : World → Prop),
 (Calls Try.prog 67 #[.pointer (some ⟨x0, 0, none⟩), .int .i64 1, .string (mkS [61])] w4 (Ret fun x10 w5 =>
 ∃ x11, x10 = .bool x11 ∧
 cond (x11)
 (∃ x12 x13 x14, w5.cell? ⟨x0, 3, none⟩ = some (.slice x12 x13 x14) ∧
 ((0 : Int) ≤ x8 ∧ x8 < (x13 : Int)) ∧
 ptrOr x12 (fun x15 =>
 Writable w5 (x15.add (x8.toNat * 5)) 1 ∧ ∀ w6, w6 = w5.setCell (x15.add (x8.toNat * 5)) (.int .i64 19) →
 Calls Try.prog 75 #[.pointer (some ⟨x0, 0, none⟩), .int .i64 x8] w6 (Ret fun _x16 w7 =>
 J w7)))
 (Calls Try.prog 76 #[.pointer (some ⟨x0, 0, none⟩), .int .i64 x8, .int .i64 21, .int .i64 22] w5 (Ret fun _x17 w8 =>
 J w8)))) ∧
 ∀ (_x18 : Nat → Value) (w9 : World), J w9 →
 ∀ x19 w10, x19 = w9.heap.size → w10 = w9.alloc (.cells #[.string (mkS [59])] 9) →
 Calls Try.prog 46 #[.pointer (some ⟨x0, 0, none⟩), .slice (some ⟨x19, 0, none⟩) 1 1] w10 (Ret fun _x20 w11 =>
 K (.tuple #[]) w11))
 (∀ x21 w12, x21 = w4.heap.size → w12 = w4.alloc (.map #[] 0) →
 SemOk Try.prog (Instr.mapUpdate 104 (.map (some x21)) (.string (mkS [115, 108, 101, 101, 112])) (.int .i64 27)) (fun _ w13 =>
 SemOk Try.prog (Instr.mapUpdate 104 (.map (some x21)) (.string (mkS [112, 114, 105, 110, 116])) (.int .i64 28)) (fun _ w14 =>
 SemOk Try.prog (Instr.mapUpdate 104 (.map (some x21)) (.string (mkS [97, 115, 115, 101, 114, 116])) (.int .i64 29)) (fun _ w15 =>
 SemOk Try.prog (Instr.mapUpdate 104 (.map (some x21)) (.string (mkS [115, 107, 105, 112])) (.int .i64 30)) (fun _ w16 =>
 SemOk Try.prog (Instr.mapUpdate 104 (.map (some x21)) (.string (mkS [115, 116, 111, 112])) (.int .i64 31)) (fun _ w17 =>
 ∃ x27, w17.cell? ⟨x6, 0, none⟩ = some (.int .i64 x27) ∧
 cond (x27 != 3)
 (Calls Try.prog 68 #[.pointer (some ⟨x0, 0, none⟩), .int .i64 11] w17 (Ret fun _x28 w18 =>
 K (.tuple #[]) w18))
 (∃ x29, w17.cell? ⟨x0, 1, none⟩ = some (.int .i64 x29) ∧
 Writable w17 ⟨x0, 1, none⟩ 1 ∧ ∀ w19, w19 = w17.setCell ⟨x0, 1, none⟩ (.int .i64 (IntKind.i64.wrap (x29 + 1))) →
 ∃ (J1 : World → Prop),
 (∃ x30, w19.cell? ⟨x6, 1, none⟩ = some (.string (mkS x30)) ∧
 cond (x30 == [118, 97, 114])
 (∃ x31 x32 x33, w19.cell? ⟨x0, 3, none⟩ = some (.slice x31 x32 x33) ∧
 ((0 : Int) ≤ x8 ∧ x8 < (x32 : Int)) ∧
 ptrOr x31 (fun x34 =>
 Writable w19 (x34.add (x8.toNat * 5)) 1 ∧ ∀ w20, w20 = w19.setCell (x34.add (x8.toNat * 5)) (.int .i64 18) →
 ∃ (J2 : World → Prop),
 (∀ w21, w21 = w20.drew →
 ∃ (S : World → Prop), S w21 ∧
 ∃ x35 x36 x37, (∀ u, S u → u.cell? ⟨x0, 3, none⟩ = some (.slice x35 x36 x37)) ∧
 Calls Try.prog 44 #[.pointer (some ⟨x0, 0, none⟩)] w21 (Ret fun x38 w22 =>
 ∃ x39, x38 = .string (mkS x39) ∧
 S w22 ∧
 ((0 : Int) ≤ x8 ∧ x8 < (x36 : Int)) ∧
 ptrOr x35 (fun x40 =>
 Writable w22 ((x40.add (x8.toNat * 5)).add 1) 1 ∧ ∀ w23, w23 = w22.setCell ((x40.add (x8.toNat * 5)).add 1) (.string (mkS x39)) →
 J2 w23))) ∧
 ∀ (_x41 : Nat → Value) (w24 : World), J2 w24 →
 ∀ x42 w25, x42 = w24.heap.size → w25 = w24.alloc (.cells #[.string (mkS [61])] 9) →
 Calls Try.prog 46 #[.pointer (some ⟨x0, 0, none⟩), .slice (some ⟨x42, 0, none⟩) 1 1] w25 (Ret fun _x43 w26 =>
 Calls Try.prog 77 #[.pointer (some ⟨x0, 0, none⟩), .int .i64 x8] w26 (Ret fun _x44 w27 =>
 J1 w27))))
 (cond (x30 == [115, 116, 97, 114, 116])
 (∃ x45 x46 x47, w19.cell? ⟨x0, 3, none⟩ = some (.slice x45 x46 x47) ∧
 ((0 : Int) ≤ x8 ∧ x8 < (x46 : Int)) ∧
 ptrOr x45 (fun x48 =>
 Writable w19 (x48.add (x8.toNat * 5)) 1 ∧ ∀ w28, w28 = w19.setCell (x48.add (x8.toNat * 5)) (.int .i64 26) →
 ∃ (J3 : World → Prop),
 (∀ w29, w29 = w28.drew →
 ∃ (S1 : World → Prop), S1 w29 ∧
 ∃ x49 x50 x51, (∀ u, S1 u → u.cell? ⟨x0, 3, none⟩ = some (.slice x49 x50 x51)) ∧
 Calls Try.prog 44 #[.pointer (some ⟨x0, 0, none⟩)] w29 (Ret fun x52 w30 =>
 ∃ x53, x52 = .string (mkS x53) ∧
 S1 w30 ∧
 ((0 : Int) ≤ x8 ∧ x8 < (x50 : Int)) ∧
 ptrOr x49 (fun x54 =>
 Writable w30 ((x54.add (x8.toNat * 5)).add 1) 1 ∧ ∀ w31, w31 = w30.setCell ((x54.add (x8.toNat * 5)).add 1) (.string (mkS x53)) →
 J3 w31))) ∧
 ∀ (_x55 : Nat → Value) (w32 : World), J3 w32 →
 Calls Try.prog 78 #[.pointer (some ⟨x0, 0, none⟩), .int .i64 x8] w32 (Ret fun _x56 w33 =>
 J1 w33)))
 (∃ (J4 : Bool → World → Prop),
 (cond (x30 == [115, 108, 101, 101, 112])
 (J4 (x30 == [115, 108, 101, 101, 112]) w19)
 (cond (x30 == [112, 114, 105, 110, 116])
 (J4 (x30 == [112, 114, 105, 110, 116]) w19)
 (J4 (x30 == [97, 115, 115, 101, 114, 116]) w19))) ∧
 ∀ (_x57 : Nat → Value) (x58 : Bool) (w34 : World), J4 x58 w34 →
 cond (x58)
 (∃ (J5 : World → Prop),
 (∀ w35, w35 = w34.drew →
 ∃ (S2 : World → Prop), S2 w35 ∧
 ∃ x59 x60 x61, (∀ u, S2 u → u.cell? ⟨x0, 3, none⟩ = some (.slice x59 x60 x61)) ∧
 ∃ x62, (∀ u, S2 u → u.cell? ⟨x6, 1, none⟩ = some (.string (mkS x62))) ∧
 SemOk Try.prog (Instr.lookup 104 (.map (some x21)) (.string (mkS x62)) false) (fun x63 w36 =>
 ∃ x64, x63 = .int .i64 x64 ∧
 S2 w36 ∧
 ((0 : Int) ≤ x8 ∧ x8 < (x60 : Int)) ∧
 ptrOr x59 (fun x65 =>
 Writable w36 (x65.add (x8.toNat * 5)) 1 ∧ ∀ w37, w37 = w36.setCell (x65.add (x8.toNat * 5)) (.int .i64 x64) →
 J5 w37)) w35) ∧
 ∀ (_x66 : Nat → Value) (w38 : World), J5 w38 →
 Calls Try.prog 77 #[.pointer (some ⟨x0, 0, none⟩), .int .i64 x8] w38 (Ret fun _x67 w39 =>
 J1 w39))
 (∃ (J6 : Bool → World → Prop),
 (cond (x30 == [115, 107, 105, 112])
 (J6 (x30 == [115, 107, 105, 112]) w34)
 (J6 (x30 == [115, 116, 111, 112]) w34)) ∧
 ∀ (_x68 : Nat → Value) (x69 : Bool) (w40 : World), J6 x69 w40 →
 cond (x69)
 (∀ w41, w41 = w40.drew →
 ∃ (S3 : World → Prop), S3 w41 ∧
 ∃ x70 x71 x72, (∀ u, S3 u → u.cell? ⟨x0, 3, none⟩ = some (.slice x70 x71 x72)) ∧
 ∃ x73, (∀ u, S3 u → u.cell? ⟨x6, 1, none⟩ = some (.string (mkS x73))) ∧
 SemOk Try.prog (Instr.lookup 104 (.map (some x21)) (.string (mkS x73)) false) (fun x74 w42 =>
 ∃ x75, x74 = .int .i64 x75 ∧
 S3 w42 ∧
 ((0 : Int) ≤ x8 ∧ x8 < (x71 : Int)) ∧
 ptrOr x70 (fun x76 =>
 Writable w42 (x76.add (x8.toNat * 5)) 1 ∧ ∀ w43, w43 = w42.setCell (x76.add (x8.toNat * 5)) (.int .i64 x75) →
 J1 w43)) w41)
 (cond (x30 == [105, 102])
 (∃ x77 x78 x79, w40.cell? ⟨x0, 3, none⟩ = some (.slice x77 x78 x79) ∧
 ((0 : Int) ≤ x8 ∧ x8 < (x78 : Int)) ∧
 ptrOr x77 (fun x80 =>
 Writable w40 (x80.add (x8.toNat * 5)) 1 ∧ ∀ w44, w44 = w40.setCell (x80.add (x8.toNat * 5)) (.int .i64 23) →
 Calls Try.prog 77 #[.pointer (some ⟨x0, 0, none⟩), .int .i64 x8] w44 (Ret fun _x81 w45 =>
 Calls Try.prog 48 #[.pointer (some ⟨x0, 0, none⟩), .int .i64 x8] w45 (Ret fun _x82 w46 =>
 Calls Try.prog 43 #[.pointer (some ⟨x0, 0, none⟩), .string (mkS [101, 108, 115, 101])] w46 (Ret fun x83 w47 =>
 ∃ x84, x83 = .bool x84 ∧
 cond (x84)
 (Calls Try.prog 48 #[.pointer (some ⟨x0, 0, none⟩), .int .i64 x8] w47 (Ret fun _x85 w48 =>
 K (.tuple #[]) w48))
 (K (.tuple #[]) w47))))))
 (cond (x30 == [119, 104, 105, 108, 101])
 (∃ x86 x87 x88, w40.cell? ⟨x0, 3, none⟩ = some (.slice x86 x87 x88) ∧
 ((0 : Int) ≤ x8 ∧ x8 < (x87 : Int)) ∧
 ptrOr x86 (fun x89 =>
 Writable w40 (x89.add (x8.toNat * 5)) 1 ∧ ∀ w49, w49 = w40.setCell (x89.add (x8.toNat * 5)) (.int .i64 24) →
 Calls Try.prog 77 #[.pointer (some ⟨x0, 0, none⟩), .int .i64 x8] w49 (Ret fun _x90 w50 =>
 Calls Try.prog 48 #[.pointer (some ⟨x0, 0, none⟩), .int .i64 x8] w50 (Ret fun _x91 w51 =>
 K (.tuple #[]) w51))))
 (cond (x30 == [115, 101, 108, 101, 99, 116])
 (∃ x92 x93 x94, w40.cell? ⟨x0, 3, none⟩ = some (.slice x92 x93 x94) ∧
 ((0 : Int) ≤ x8 ∧ x8 < (x93 : Int)) ∧
 ptrOr x92 (fun x95 =>
 Writable w40 (x95.add (x8.toNat * 5)) 1 ∧ ∀ w52, w52 = w40.setCell (x95.add (x8.toNat * 5)) (.int .i64 25) →
 ∀ x96 w53, x96 = w52.heap.size → w53 = w52.alloc (.cells #[.string (mkS [123])] 9) →
 Calls Try.prog 46 #[.pointer (some ⟨x0, 0, none⟩), .slice (some ⟨x96, 0, none⟩) 1 1] w53 (Ret fun _x97 w54 =>
 ∃ (I : World → Prop) (x98 : World → Nat), I w54 ∧
 ∀ (_x99 : Nat → Value) (w55 : World), I w55 →
 Calls Try.prog 79 #[.pointer (some ⟨x0, 0, none⟩)] w55 (Ret fun _x100 w56 =>
 ∃ x101 x102 x103, w56.cell? ⟨x0, 3, none⟩ = some (.slice x101 x102 x103) ∧
 ((0 : Int) ≤ x8 ∧ x8 < (x102 : Int)) ∧
 ptrOr x101 (fun x104 =>
 ∃ x105, w56.cell? ((x104.add (x8.toNat * 5)).add 3) = some (.int .i64 x105) ∧
 ((0 : Int) ≤ x8 ∧ x8 < (x102 : Int)) ∧
 ptrOr x101 (fun x106 =>
 Writable w56 ((x106.add (x8.toNat * 5)).add 3) 1 ∧ ∀ w57, w57 = w56.setCell ((x106.add (x8.toNat * 5)).add 3) (.int .i64 (IntKind.i64.wrap (x105 + 1))) →
 ∃ (J7 : Bool → World → Prop),
 (∃ x107, w57.cell? ⟨x0, 4, none⟩ = some (.int .i64 x107) ∧
 cond (x107 != 0)
 (J7 (x107 != 0) w57)
 (Calls Try.prog 67 #[.pointer (some ⟨x0, 0, none⟩), .int .i64 0, .string (mkS [125])] w57 (Ret fun x108 w58 =>
 ∃ x109, x108 = .bool x109 ∧
 J7 x109 w58))) ∧
 ∀ (_x110 : Nat → Value) (x111 : Bool) (w59 : World), J7 x111 w59 →
 cond (x111)
 (∀ x112 w60, x112 = w59.heap.size → w60 = w59.alloc (.cells #[.string (mkS [125])] 9) →
 Calls Try.prog 46 #[.pointer (some ⟨x0, 0, none⟩), .slice (some ⟨x112, 0, none⟩) 1 1] w60 (Ret fun _x113 w61 =>
 K (.tuple #[]) w61))
 (I w59 ∧ x98 w59 < x98 w55)))))))
 (∃ x114, w40.cell? ⟨x0, 1, none⟩ = some (.int .i64 x114) ∧
 Writable w40 ⟨x0, 1, none⟩ 1 ∧ ∀ w62, w62 = w40.setCell ⟨x0, 1, none⟩ (.int .i64 (IntKind.i64.wrap (x114 - 1))) →
 Calls Try.prog 68 #[.pointer (some ⟨x0, 0, none⟩), .int .i64 11] w62 (Ret fun _x115 w63 =>
 K (.tuple #[]) w63))))))))) ∧
 ∀ (_x116 : Nat → Value) (w64 : World), J1 w64 →
 ∀ x117 w65, x117 = w64.heap.size → w65 = w64.alloc (.cells #[.string (mkS [59])] 9) →
 Calls Try.prog 46 #[.pointer (some ⟨x0, 0, none⟩), .slice (some ⟨x117, 0, none⟩) 1 1] w65 (Ret fun _x118 w66 =>
 K (.tuple #[]) w66))) w16) w15) w14) w13) w12)))
theorem parse_reader_stmt_ok (x0 : Nat) (K : Value → World → Prop) (w : World) (h : parse_reader_stmt_wp x0 K w) : Calls Try.prog 69 #[.pointer (some ⟨x0, 0, none⟩)] w (Ret K) :=
 calls_of { loops := [(1068498844, [])], cuts := [(58, []), (127, []), (8149, []), (16303, [(100, .bool)]), (32605, []), (65214, []), (65215, [(118, .bool)]), (34191963014, [(192, .bool)])] } Try.func69 (by kernel_rfl) h
def parse_reader_decl_wp (x0 : Nat) (K : Value → World → Prop) (w : World) : Prop :=
 Calls Try.prog 42 #[.pointer (some ⟨x0, 0, none⟩), .int .i64 41] w (Ret fun x1 w1 =>
 ∃ x2, x1 = .int .i64 x2 ∧
 Calls Try.prog 43 #[.pointer (some ⟨x0, 0, none⟩), .string (mkS [99, 104, 97, 110])] w1 (Ret fun x3 w2 =>
 ∃ x4, x3 = .bool x4 ∧
 cond (x4)
 (∃ x5 x6 x7, w2.cell? ⟨x0, 3, none⟩ = some (.slice x5 x6 x7) ∧
 ((0 : Int) ≤ x2 ∧ x2 < (x6 : Int)) ∧
 ptrOr x5 (fun x8 =>
 Writable w2 (x8.add (x2.toNat * 5)) 1 ∧ ∀ w3, w3 = w2.setCell (x8.add (x2.toNat * 5)) (.int .i64 38) →
 ∃ (J : World → Prop),
 (∀ w4, w4 = w3.drew →
 ∃ (S : World → Prop), S w4 ∧
 ∃ x9 x10 x11, (∀ u, S u → u.cell? ⟨x0, 3, none⟩ = some (.slice x9 x10 x11)) ∧
 Calls Try.prog 44 #[.pointer (some ⟨x0, 0, none⟩)] w4 (Ret fun x12 w5 =>
 ∃ x13, x12 = .string (mkS x13) ∧
 S w5 ∧
 ((0 : Int) ≤ x2 ∧ x2 < (x10 : Int)) ∧
 ptrOr x9 (fun x14 =>
 Writable w5 ((x14.add (x2.toNat * 5)).add 1) 1 ∧ ∀ w6, w6 = w5.setCell ((x14.add (x2.toNat * 5)).add 1) (.string (mkS x13)) →
 J w6))) ∧
 ∀ (_x15 : Nat → Value) (w7 : World), J w7 →
 ∃ (J1 : World → Prop),
 (Calls Try.prog 43 #[.pointer (some ⟨x0, 0, none⟩), .string (mkS [91])] w7 (Ret fun x16 w8 =>
 ∃ x17, x16 = .bool x17 ∧
 cond (x17)
 (Calls Try.prog 45 #[.pointer (some ⟨x0, 0, none⟩), .int .i64 x2] w8 (Ret fun _x18 w9 =>
 ∀ x19 w10, x19 = w9.heap.size → w10 = w9.alloc (.cells #[.string (mkS [93])] 9) →
 Calls Try.prog 46 #[.pointer (some ⟨x0, 0, none⟩), .slice (some ⟨x19, 0, none⟩) 1 1] w10 (Ret fun _x20 w11 =>
 J1 w11)))
 (J1 w8))) ∧
 ∀ (_x21 : Nat → Value) (w12 : World), J1 w12 →
 ∀ x22 w13, x22 = w12.heap.size → w13 = w12.alloc (.cells #[.string (mkS [59])] 9) →
 Calls Try.prog 46 #[.pointer (some ⟨x0, 0, none⟩), .slice (some ⟨x22, 0, none⟩) 1 1] w13 (Ret fun _x23 w14 =>
 K (.tuple #[]) w14)))
 (Calls Try.prog 43 #[.pointer (some ⟨x0, 0, none⟩), .string (mkS [112, 114, 111, 99])] w2 (Ret fun x24 w15 =>
 ∃ x25, x24 = .bool x25 ∧
 cond (x25)
 (∃ x26 x27 x28, w15.cell? ⟨x0, 3, none⟩ = some (.slice x26 x27 x28) ∧
 ((0 : Int) ≤ x2 ∧ x2 < (x27 : Int)) ∧
 ptrOr x26 (fun x29 =>
 Writable w15 (x29.add (x2.toNat * 5)) 1 ∧ ∀ w16, w16 = w15.setCell (x29.add (x2.toNat * 5)) (.int .i64 40) →
 ∃ (J2 : World → Prop),
 (∀ w17, w17 = w16.drew →
 ∃ (S1 : World → Prop), S1 w17 ∧
 ∃ x30 x31 x32, (∀ u, S1 u → u.cell? ⟨x0, 3, none⟩ = some (.slice x30 x31 x32)) ∧
 Calls Try.prog 44 #[.pointer (some ⟨x0, 0, none⟩)] w17 (Ret fun x33 w18 =>
 ∃ x34, x33 = .string (mkS x34) ∧
 S1 w18 ∧
 ((0 : Int) ≤ x2 ∧ x2 < (x31 : Int)) ∧
 ptrOr x30 (fun x35 =>
 Writable w18 ((x35.add (x2.toNat * 5)).add 1) 1 ∧ ∀ w19, w19 = w18.setCell ((x35.add (x2.toNat * 5)).add 1) (.string (mkS x34)) →
 J2 w19))) ∧
 ∀ (_x36 : Nat → Value) (w20 : World), J2 w20 →
 ∀ x37 w21, x37 = w20.heap.size → w21 = w20.alloc (.cells #[.string (mkS [40])] 9) →
 Calls Try.prog 46 #[.pointer (some ⟨x0, 0, none⟩), .slice (some ⟨x37, 0, none⟩) 1 1] w21 (Ret fun _x38 w22 =>
 ∃ (J3 : World → Prop),
 (Calls Try.prog 43 #[.pointer (some ⟨x0, 0, none⟩), .string (mkS [41])] w22 (Ret fun x39 w23 =>
 ∃ x40, x39 = .bool x40 ∧
 cond (!x40)
 (Calls Try.prog 47 #[.pointer (some ⟨x0, 0, none⟩), .int .i64 x2] w23 (Ret fun _x41 w24 =>
 ∃ (I : World → Prop) (x42 : World → Nat), I w24 ∧
 ∀ (_x43 : Nat → Value) (w25 : World), I w25 →
 Calls Try.prog 43 #[.pointer (some ⟨x0, 0, none⟩), .string (mkS [44])] w25 (Ret fun x44 w26 =>
 ∃ x45, x44 = .bool x45 ∧
 cond (x45)
 (Calls Try.prog 47 #[.pointer (some ⟨x0, 0, none⟩), .int .i64 x2] w26 (Ret fun _x46 w27 =>
 I w27 ∧ x42 w27 < x42 w25))
 (∀ x47 w28, x47 = w26.heap.size → w28 = w26.alloc (.cells #[.string (mkS [41])] 9) →
 Calls Try.prog 46 #[.pointer (some ⟨x0, 0, none⟩), .slice (some ⟨x47, 0, none⟩) 1 1] w28 (Ret fun _x48 w29 =>
 J3 w29)))))
 (J3 w23))) ∧
 ∀ (_x49 : Nat → Value) (w30 : World), J3 w30 →
 Calls Try.prog 48 #[.pointer (some ⟨x0, 0, none⟩), .int .i64 x2] w30 (Ret fun _x50 w31 =>
 K (.tuple #[]) w31))))
 (∀ x51 w32, x51 = w15.heap.size → w32 = w15.alloc (.cells #[.string (mkS [109, 97, 105, 110])] 9) →
 Calls Try.prog 46 #[.pointer (some ⟨x0, 0, none⟩), .slice (some ⟨x51, 0, none⟩) 1 1] w32 (Ret fun _x52 w33 =>
 Calls Try.prog 48 #[.pointer (some ⟨x0, 0, none⟩), .int .i64 x2] w33 (Ret fun _x53 w34 =>
 K (.tuple #[]) w34)))))))
theorem parse_reader_decl_ok (x0 : Nat) (K : Value → World → Prop) (w : World) (h : parse_reader_decl_wp x0 K w) : Calls Try.prog 20 #[.pointer (some ⟨x0, 0, none⟩)] w (Ret K) :=
 calls_of { loops := [(56788, [])], cuts := [(53, []), (107, []), (221, []), (887, [])] } Try.func20 (by kernel_rfl) h
def parse_reader_size_wp (x0 : Nat) (x1 : Int) (K : Value → World → Prop) (w : World) : Prop :=
 Calls Try.prog 19 #[.pointer (some ⟨x0, 0, none⟩), .int .i64 0] w (Ret fun x2 w1 =>
 ∃ x3 x4 x5 x6, x2 = .agg #[.int .i64 x3, .string (mkS x4), .int .i64 x5, .int .i64 x6] ∧
 ∀ x7 w2, x7 = w1.heap.size → w2 = w1.alloc (.cells #[.int .i64 0, .string (mkS []), .int .i64 0, .int .i64 0] 44) →
 Writable w2 ⟨x7, 0, none⟩ 4 ∧ ∀ w3, w3 = setCells w2 ⟨x7, 0, none⟩ [.int .i64 x3, .string (mkS x4), .int .i64 x5, .int .i64 x6] →
 ∃ x8, w3.cell? ⟨x0, 4, none⟩ = some (.int .i64 x8) ∧
 cond (x8 != 0)
 (K (.tuple #[]) w3)
 (∃ x9, w3.cell? ⟨x7, 0, none⟩ = some (.int .i64 x9) ∧
 cond (x9 != 2)
 (Calls Try.prog 68 #[.pointer (some ⟨x0, 0, none⟩), .int .i64 11] w3 (Ret fun _x10 w4 =>
 K (.tuple #[]) w4))
 (∃ (J : Bool → World → Prop),
 (∃ x11, w3.cell? ⟨x7, 2, none⟩ = some (.int .i64 x11) ∧
 cond (decide (x11 < 1))
 (J true w3)
 (∃ x12, w3.cell? ⟨x7, 2, none⟩ = some (.int .i64 x12) ∧
 J (decide (x12 > 16)) w3)) ∧
 ∀ (_x13 : Nat → Value) (x14 : Bool) (w5 : World), J x14 w5 →
 cond (x14)
 (Calls Try.prog 68 #[.pointer (some ⟨x0, 0, none⟩), .int .i64 6] w5 (Ret fun _x15 w6 =>
 K (.tuple #[]) w6))
 (∃ x16, w5.cell? ⟨x0, 1, none⟩ = some (.int .i64 x16) ∧
 Writable w5 ⟨x0, 1, none⟩ 1 ∧ ∀ w7, w7 = w5.setCell ⟨x0, 1, none⟩ (.int .i64 (IntKind.i64.wrap (x16 + 1))) →
 ∀ w8, w8 = w7.drew →
 ∃ x17 x18 x19, w8.cell? ⟨x0, 3, none⟩ = some (.slice x17 x18 x19) ∧
 ∃ x20, w8.cell? ⟨x7, 2, none⟩ = some (.int .i64 x20) ∧
 ((0 : Int) ≤ x1 ∧ x1 < (x18 : Int)) ∧
 ptrOr x17 (fun x21 =>
 Writable w8 ((x21.add (x1.toNat * 5)).add 2) 1 ∧ ∀ w9, w9 = w8.setCell ((x21.add (x1.toNat * 5)).add 2) (.int .i64 x20) →
 K (.tuple #[]) w9)))))
theorem parse_reader_size_ok (x0 : Nat) (x1 : Int) (K : Value → World → Prop) (w : World) (h : parse_reader_size_wp x0 x1 K w) : Calls Try.prog 45 #[.pointer (some ⟨x0, 0, none⟩), .int .i64 x1] w (Ret K) :=
 calls_of { cuts := [(111, [(35, .bool)])] } Try.func45 (by kernel_rfl) h
def parse_reader_param_wp (x0 : Nat) (x1 : Int) (K : Value → World → Prop) (w : World) : Prop :=
 Calls Try.prog 42 #[.pointer (some ⟨x0, 0, none⟩), .int .i64 39] w (Ret fun x2 w1 =>
 ∃ x3, x2 = .int .i64 x3 ∧
 ∃ (J : World → Prop),
 (∀ w2, w2 = w1.drew →
 ∃ (S : World → Prop), S w2 ∧
 ∃ x4 x5 x6, (∀ u, S u → u.cell? ⟨x0, 3, none⟩ = some (.slice x4 x5 x6)) ∧
 Calls Try.prog 44 #[.pointer (some ⟨x0, 0, none⟩)] w2 (Ret fun x7 w3 =>
 ∃ x8, x7 = .string (mkS x8) ∧
 S w3 ∧
 ((0 : Int) ≤ x3 ∧ x3 < (x5 : Int)) ∧
 ptrOr x4 (fun x9 =>
 Writable w3 ((x9.add (x3.toNat * 5)).add 1) 1 ∧ ∀ w4, w4 = w3.setCell ((x9.add (x3.toNat * 5)).add 1) (.string (mkS x8)) →
 J w4))) ∧
 ∀ (_x10 : Nat → Value) (w5 : World), J w5 →
 ∃ x11 x12 x13, w5.cell? ⟨x0, 3, none⟩ = some (.slice x11 x12 x13) ∧
 ((0 : Int) ≤ x1 ∧ x1 < (x12 : Int)) ∧
 ptrOr x11 (fun x14 =>
 ∃ x15, w5.cell? ((x14.add (x1.toNat * 5)).add 3) = some (.int .i64 x15) ∧
 ((0 : Int) ≤ x1 ∧ x1 < (x12 : Int)) ∧
 ptrOr x11 (fun x16 =>
 Writable w5 ((x16.add (x1.toNat * 5)).add 3) 1 ∧ ∀ w6, w6 = w5.setCell ((x16.add (x1.toNat * 5)).add 3) (.int .i64 (IntKind.i64.wrap (x15 + 1))) →
 K (.tuple #[]) w6)))
theorem parse_reader_param_ok (x0 : Nat) (x1 : Int) (K : Value → World → Prop) (w : World) (h : parse_reader_param_wp x0 x1 K w) : Calls Try.prog 47 #[.pointer (some ⟨x0, 0, none⟩), .int .i64 x1] w (Ret K) :=
 calls_of { cuts := [(3, [])] } Try.func47 (by kernel_rfl) h
end Go.Proofs.Ytdbdkdmgfiiljaa
namespace Go.Proofs.Ytdbdkdmgfiiljaa
open Go.Vc
end Go.Proofs.Ytdbdkdmgfiiljaa
namespace Go.Proofs.Ytdbdkdmgfiiljaa
open Go.Vc
def R10_Tok_wp (x0 : Option Addr) (x1 : Nat) (_x2 : Nat) (x3 : Int) (K : Value → World → Prop) (w : World) : Prop :=
 ∀ x4 w1, x4 = w.heap.size → w1 = w.alloc (.cells #[.int .i64 0, .string (mkS []), .int .i64 0, .int .i64 0] 44) →
 cond (decide (x3 < (x1 : Int)))
 (((0 : Int) ≤ x3 ∧ x3 < (x1 : Int)) ∧
 ptrOr x0 (fun x5 =>
 ∃ x6 x7 x8 x9, CellsAt w1 (x5.add (x3.toNat * 4)) [.int .i64 x6, .string (mkS x7), .int .i64 x8, .int .i64 x9] ∧
 Writable w1 ⟨x4, 0, none⟩ 4 ∧ ∀ w2, w2 = setCells w1 ⟨x4, 0, none⟩ [.int .i64 x6, .string (mkS x7), .int .i64 x8, .int .i64 x9] →
 ∃ x10 x11 x12 x13, CellsAt w2 ⟨x4, 0, none⟩ [.int .i64 x10, .string (mkS x11), .int .i64 x12, .int .i64 x13] ∧
 K (.agg #[.int .i64 x10, .string (mkS x11), .int .i64 x12, .int .i64 x13]) w2))
 (Writable w1 ⟨x4, 0, none⟩ 4 ∧ ∀ w3, w3 = setCells w1 ⟨x4, 0, none⟩ [.int .i64 0, .string (mkS []), .int .i64 0, .int .i64 0] →
 ∃ x14 x15 x16 x17, CellsAt w3 ⟨x4, 0, none⟩ [.int .i64 x14, .string (mkS x15), .int .i64 x16, .int .i64 x17] ∧
 K (.agg #[.int .i64 x14, .string (mkS x15), .int .i64 x16, .int .i64 x17]) w3)
theorem R10_Tok_ok (x0 : Option Addr) (x1 : Nat) (x2 : Nat) (x3 : Int) (K : Value → World → Prop) (w : World) (h : R10_Tok_wp x0 x1 x2 x3 K w) : Calls Try.prog 22 #[.slice x0 x1 x2, .int .i64 x3] w (Ret K) :=
 calls_of {} Try.func22 (by kernel_rfl) h
end Go.Proofs.Ytdbdkdmgfiiljaa
namespace Go.Proofs.Ytdbdkdmgfiiljaa
open Go.Vc
def token_All_wp (x0 : List UInt8) (K : Value → World → Prop) (w : World) : Prop :=
 cond (decide ((x0.length : Int) > 65536))
 (K (.tuple #[.slice none 0 0, .int .i64 0, .int .i64 5]) w)
 (∃ (I : Option Addr → Nat → Nat → Int → World → Prop) (x1 : Option Addr → Nat → Nat → Int → World → Nat), I none 0 0 0 w ∧
 ∀ (_x2 : Nat → Value) (x3 : Option Addr) (x4 : Nat) (x5 : Nat) (x6 : Int) (w1 : World), I x3 x4 x5 x6 w1 →
 Calls Try.prog 18 #[.string (mkS x0), .int .i64 x6] w1 (Ret fun x7 w2 =>
 ∃ x8 x9 x10 x11 x12 x13, x7 = .tuple #[.agg #[.int .i64 x8, .string (mkS x9), .int .i64 x10, .int .i64 x11], .int .i64 x12, .int .i64 x13] ∧
 ∀ x14 w3, x14 = w2.heap.size → w3 = w2.alloc (.cells #[.int .i64 0, .string (mkS []), .int .i64 0, .int .i64 0] 44) →
 Writable w3 ⟨x14, 0, none⟩ 4 ∧ ∀ w4, w4 = setCells w3 ⟨x14, 0, none⟩ [.int .i64 x8, .string (mkS x9), .int .i64 x10, .int .i64 x11] →
 cond (x13 != 0)
 (K (.tuple #[.slice none 0 0, .int .i64 x12, .int .i64 x13]) w4)
 (∃ x15 x16 x17 x18, CellsAt w4 ⟨x14, 0, none⟩ [.int .i64 x15, .string (mkS x16), .int .i64 x17, .int .i64 x18] ∧
 ∀ x19 w5, x19 = w4.heap.size → w5 = w4.alloc (.cells #[.int .i64 x15, .string (mkS x16), .int .i64 x17, .int .i64 x18] 44) →
 SemOk Try.prog (Builtin.append_ #[33, 33] 33 #[.slice x3 x4 x5, .slice (some ⟨x19, 0, none⟩) 1 1]) (fun x20 w6 =>
 ∃ x21 x22 x23, x20 = .slice x21 x22 x23 ∧
 ∃ x24, w6.cell? ⟨x14, 0, none⟩ = some (.int .i64 x24) ∧
 cond (x24 == 0)
 (∀ w7, w7 = w6.drew →
 ∃ x25, w7.cell? ⟨x14, 3, none⟩ = some (.int .i64 x25) ∧
 K (.tuple #[.slice x21 x22 x23, .int .i64 x25, .int .i64 0]) w7)
 (I x21 x22 x23 x12 w6 ∧ x1 x21 x22 x23 x12 w6 < x1 x3 x4 x5 x6 w1)) w5)))
theorem token_All_ok (x0 : List UInt8) (K : Value → World → Prop) (w : World) (h : token_All_wp x0 K w) : Calls Try.prog 12 #[.string (mkS x0)] w (Ret K) :=
 calls_of { loops := [(62, [(5, .slice), (6, .int .i64)])] } Try.func12 (by kernel_rfl) h
def R10_level_wp (x0 : Option Addr) (x1 : Nat) (x2 : Nat) (x3 : Int) (x4 : Int) (x5 : Int) (K : Value → World → Prop) (w : World) : Prop :=
 ∀ x6 w1, x6 = w.heap.size → w1 = w.alloc (.cells #[.slice none 0 0, .int .i64 0, .int .i64 0] 29) →
 cond (x4 == 6)
 (Calls Try.prog 101 #[.slice x0 x1 x2, .int .i64 x3, .int .i64 x5] w1 (Ret fun x7 w2 =>
 ∃ x8 x9 x10 x11 x12, x7 = .agg #[.slice x8 x9 x10, .int .i64 x11, .int .i64 x12] ∧
 Writable w2 ⟨x6, 0, none⟩ 3 ∧ ∀ w3, w3 = setCells w2 ⟨x6, 0, none⟩ [.slice x8 x9 x10, .int .i64 x11, .int .i64 x12] →
 ∃ x13 x14 x15 x16 x17, CellsAt w3 ⟨x6, 0, none⟩ [.slice x13 x14 x15, .int .i64 x16, .int .i64 x17] ∧
 K (.agg #[.slice x13 x14 x15, .int .i64 x16, .int .i64 x17]) w3))
 (Calls Try.prog 97 #[.slice x0 x1 x2, .int .i64 x3, .int .i64 (IntKind.i64.wrap (x4 + 1)), .int .i64 x5] w1 (Ret fun x18 w4 =>
 ∃ x19 x20 x21 x22 x23, x18 = .agg #[.slice x19 x20 x21, .int .i64 x22, .int .i64 x23] ∧
 ∀ x24 w5, x24 = w4.heap.size → w5 = w4.alloc (.cells #[.slice none 0 0, .int .i64 0, .int .i64 0] 29) →
 Writable w5 ⟨x24, 0, none⟩ 3 ∧ ∀ w6, w6 = setCells w5 ⟨x24, 0, none⟩ [.slice x19 x20 x21, .int .i64 x22, .int .i64 x23] →
 ∃ (I : World → Prop) (x25 : World → Nat), I w6 ∧
 ∀ (_x26 : Nat → Value) (w7 : World), I w7 →
 ∃ x27, w7.cell? ⟨x24, 2, none⟩ = some (.int .i64 x27) ∧
 cond (x27 == 0)
 (∃ x28, w7.cell? ⟨x24, 1, none⟩ = some (.int .i64 x28) ∧
 Calls Try.prog 22 #[.slice x0 x1 x2, .int .i64 x28] w7 (Ret fun x29 w8 =>
 ∃ x30 x31 x32 x33, x29 = .agg #[.int .i64 x30, .string (mkS x31), .int .i64 x32, .int .i64 x33] ∧
 ∀ x34 w9, x34 = w8.heap.size → w9 = w8.alloc (.cells #[.int .i64 0, .string (mkS []), .int .i64 0, .int .i64 0] 44) →
 Writable w9 ⟨x34, 0, none⟩ 4 ∧ ∀ w10, w10 = setCells w9 ⟨x34, 0, none⟩ [.int .i64 x30, .string (mkS x31), .int .i64 x32, .int .i64 x33] →
 ∃ x35, w10.cell? ⟨x34, 1, none⟩ = some (.string (mkS x35)) ∧
 Calls Try.prog 102 #[.string (mkS x35)] w10 (Ret fun x36 w11 =>
 ∃ x37, x36 = .int .i64 x37 ∧
 ∃ (J : Bool → World → Prop),
 (∃ x38, w11.cell? ⟨x34, 0, none⟩ = some (.int .i64 x38) ∧
 cond (x38 != 4)
 (J true w11)
 (cond (x37 == 0)
 (J true w11)
 (Calls Try.prog 103 #[.int .i64 x37] w11 (Ret fun x39 w12 =>
 ∃ x40, x39 = .int .i64 x40 ∧
 J (x40 != x4) w12)))) ∧
 ∀ (_x41 : Nat → Value) (x42 : Bool) (w13 : World), J x42 w13 →
 cond (x42)
 (∃ x43 x44 x45 x46 x47, CellsAt w13 ⟨x24, 0, none⟩ [.slice x43 x44 x45, .int .i64 x46, .int .i64 x47] ∧
 Writable w13 ⟨x6, 0, none⟩ 3 ∧ ∀ w14, w14 = setCells w13 ⟨x6, 0, none⟩ [.slice x43 x44 x45, .int .i64 x46, .int .i64 x47] →
 ∃ x48 x49 x50 x51 x52, CellsAt w14 ⟨x6, 0, none⟩ [.slice x48 x49 x50, .int .i64 x51, .int .i64 x52] ∧
 K (.agg #[.slice x48 x49 x50, .int .i64 x51, .int .i64 x52]) w14)
 (∃ x53, w13.cell? ⟨x24, 1, none⟩ = some (.int .i64 x53) ∧
 Calls Try.prog 97 #[.slice x0 x1 x2, .int .i64 (IntKind.i64.wrap (x53 + 1)), .int .i64 (IntKind.i64.wrap (x4 + 1)), .int .i64 x5] w13 (Ret fun x54 w15 =>
 ∃ x55 x56 x57 x58 x59, x54 = .agg #[.slice x55 x56 x57, .int .i64 x58, .int .i64 x59] ∧
 ∀ x60 w16, x60 = w15.heap.size → w16 = w15.alloc (.cells #[.slice none 0 0, .int .i64 0, .int .i64 0] 29) →
 Writable w16 ⟨x60, 0, none⟩ 3 ∧ ∀ w17, w17 = setCells w16 ⟨x60, 0, none⟩ [.slice x55 x56 x57, .int .i64 x58, .int .i64 x59] →
 ∃ x61, w17.cell? ⟨x60, 2, none⟩ = some (.int .i64 x61) ∧
 cond (x61 != 0)
 (∃ x62 x63 x64 x65 x66, CellsAt w17 ⟨x60, 0, none⟩ [.slice x62 x63 x64, .int .i64 x65, .int .i64 x66] ∧
 Writable w17 ⟨x6, 0, none⟩ 3 ∧ ∀ w18, w18 = setCells w17 ⟨x6, 0, none⟩ [.slice x62 x63 x64, .int .i64 x65, .int .i64 x66] →
 ∃ x67 x68 x69 x70 x71, CellsAt w18 ⟨x6, 0, none⟩ [.slice x67 x68 x69, .int .i64 x70, .int .i64 x71] ∧
 K (.agg #[.slice x67 x68 x69, .int .i64 x70, .int .i64 x71]) w18)
 (∃ x72, w17.cell? ⟨x34, 3, none⟩ = some (.int .i64 x72) ∧
 ∀ x73 w19, x73 = w17.heap.size → w19 = w17.alloc (.cells #[.int .i64 x37, .string (mkS []), .int .i64 0, .int .i64 2, .int .i64 x72] 39) →
 ∃ x74 x75 x76, w19.cell? ⟨x24, 0, none⟩ = some (.slice x74 x75 x76) ∧
 SemOk Try.prog (Builtin.append_ #[23, 23] 23 #[.slice (some ⟨x73, 0, none⟩) 1 1, .slice x74 x75 x76]) (fun x77 w20 =>
 ∃ x78 x79 x80, x77 = .slice x78 x79 x80 ∧
 ∃ (J1 : World → Prop),
 (∀ w21, w21 = w20.drew →
 ∃ (S : World → Prop), S w21 ∧
 ∃ x81 x82 x83, (∀ u, S u → u.cell? ⟨x60, 0, none⟩ = some (.slice x81 x82 x83)) ∧
 ∃ x84, (∀ u, S u → u.cell? ⟨x60, 1, none⟩ = some (.int .i64 x84)) ∧
 SemOk Try.prog (Builtin.append_ #[23, 23] 23 #[.slice x78 x79 x80, .slice x81 x82 x83]) (fun x85 w22 =>
 ∃ x86 x87 x88, x85 = .slice x86 x87 x88 ∧
 S w22 ∧
 Writable w22 ⟨x24, 0, none⟩ 3 ∧ ∀ w23, w23 = setCells w22 ⟨x24, 0, none⟩ [.slice x86 x87 x88, .int .i64 x84, .int .i64 0] →
 J1 w23) w21) ∧
 ∀ (_x89 : Nat → Value) (w24 : World), J1 w24 →
 cond (x4 == 3)
 (∃ x90 x91 x92 x93 x94, CellsAt w24 ⟨x24, 0, none⟩ [.slice x90 x91 x92, .int .i64 x93, .int .i64 x94] ∧
 Writable w24 ⟨x6, 0, none⟩ 3 ∧ ∀ w25, w25 = setCells w24 ⟨x6, 0, none⟩ [.slice x90 x91 x92, .int .i64 x93, .int .i64 x94] →
 ∃ x95 x96 x97 x98 x99, CellsAt w25 ⟨x6, 0, none⟩ [.slice x95 x96 x97, .int .i64 x98, .int .i64 x99] ∧
 K (.agg #[.slice x95 x96 x97, .int .i64 x98, .int .i64 x99]) w25)
 (I w24 ∧ x25 w24 < x25 w7)) w19))))))
 (∃ x100 x101 x102 x103 x104, CellsAt w7 ⟨x24, 0, none⟩ [.slice x100 x101 x102, .int .i64 x103, .int .i64 x104] ∧
 Writable w7 ⟨x6, 0, none⟩ 3 ∧ ∀ w26, w26 = setCells w7 ⟨x6, 0, none⟩ [.slice x100 x101 x102, .int .i64 x103, .int .i64 x104] →
 ∃ x105 x106 x107 x108 x109, CellsAt w26 ⟨x6, 0, none⟩ [.slice x105 x106 x107, .int .i64 x108, .int .i64 x109] ∧
 K (.agg #[.slice x105 x106 x107, .int .i64 x108, .int .i64 x109]) w26)))
theorem R10_level_ok (x0 : Option Addr) (x1 : Nat) (x2 : Nat) (x3 : Int) (x4 : Int) (x5 : Int) (K : Value → World → Prop) (w : World) (h : R10_level_wp x0 x1 x2 x3 x4 x5 K w) : Calls Try.prog 97 #[.slice x0 x1 x2, .int .i64 x3, .int .i64 x4, .int .i64 x5] w (Ret K) :=
 calls_of { loops := [(60, [])], cuts := [(3862, [(48, .bool)]), (61823, [])] } Try.func97 (by kernel_rfl) h
def R10_one_wp (x0 : Option Addr) (x1 : Nat) (x2 : Nat) (x3 : Int) (x4 : Int) (K : Value → World → Prop) (w : World) : Prop :=
 ∀ x5 w1, x5 = w.heap.size → w1 = w.alloc (.cells #[.slice none 0 0, .int .i64 0, .int .i64 0] 29) →
 Calls Try.prog 22 #[.slice x0 x1 x2, .int .i64 x3] w1 (Ret fun x6 w2 =>
 ∃ x7 x8 x9 x10, x6 = .agg #[.int .i64 x7, .string (mkS x8), .int .i64 x9, .int .i64 x10] ∧
 ∀ x11 w3, x11 = w2.heap.size → w3 = w2.alloc (.cells #[.int .i64 0, .string (mkS []), .int .i64 0, .int .i64 0] 44) →
 Writable w3 ⟨x11, 0, none⟩ 4 ∧ ∀ w4, w4 = setCells w3 ⟨x11, 0, none⟩ [.int .i64 x7, .string (mkS x8), .int .i64 x9, .int .i64 x10] →
 ∃ x12, w4.cell? ⟨x11, 0, none⟩ = some (.int .i64 x12) ∧
 cond (x12 == 2)
 (∃ x13, w4.cell? ⟨x11, 2, none⟩ = some (.int .i64 x13) ∧
 ∃ x14, w4.cell? ⟨x11, 3, none⟩ = some (.int .i64 x14) ∧
 ∀ x15 w5, x15 = w4.heap.size → w5 = w4.alloc (.cells #[.int .i64 1, .string (mkS []), .int .i64 x13, .int .i64 0, .int .i64 x14] 39) →
 Writable w5 ⟨x5, 0, none⟩ 3 ∧ ∀ w6, w6 = setCells w5 ⟨x5, 0, none⟩ [.slice (some ⟨x15, 0, none⟩) 1 1, .int .i64 (IntKind.i64.wrap (x3 + 1)), .int .i64 0] →
 ∃ x16 x17 x18 x19 x20, CellsAt w6 ⟨x5, 0, none⟩ [.slice x16 x17 x18, .int .i64 x19, .int .i64 x20] ∧
 K (.agg #[.slice x16 x17 x18, .int .i64 x19, .int .i64 x20]) w6)
 (∃ x21, w4.cell? ⟨x11, 0, none⟩ = some (.int .i64 x21) ∧
 cond (x21 == 1)
 (∃ x22, w4.cell? ⟨x11, 1, none⟩ = some (.string (mkS x22)) ∧
 ∃ x23, w4.cell? ⟨x11, 3, none⟩ = some (.int .i64 x23) ∧
 ∀ x24 w7, x24 = w4.heap.size → w7 = w4.alloc (.cells #[.int .i64 2, .string (mkS x22), .int .i64 0, .int .i64 0, .int .i64 x23] 39) →
 Writable w7 ⟨x5, 0, none⟩ 3 ∧ ∀ w8, w8 = setCells w7 ⟨x5, 0, none⟩ [.slice (some ⟨x24, 0, none⟩) 1 1, .int .i64 (IntKind.i64.wrap (x3 + 1)), .int .i64 0] →
 ∃ x25 x26 x27 x28 x29, CellsAt w8 ⟨x5, 0, none⟩ [.slice x25 x26 x27, .int .i64 x28, .int .i64 x29] ∧
 K (.agg #[.slice x25 x26 x27, .int .i64 x28, .int .i64 x29]) w8)
 (∃ (J : Bool → World → Prop),
 (∃ x30, w4.cell? ⟨x11, 0, none⟩ = some (.int .i64 x30) ∧
 cond (x30 != 4)
 (J true w4)
 (∃ x31, w4.cell? ⟨x11, 1, none⟩ = some (.string (mkS x31)) ∧
 cond (!(x31 == [45]))
 (∃ x32, w4.cell? ⟨x11, 1, none⟩ = some (.string (mkS x32)) ∧
 cond (!(x32 == [33]))
 (∃ x33, w4.cell? ⟨x11, 1, none⟩ = some (.string (mkS x33)) ∧
 J (!(x33 == [40])) w4)
 (J false w4))
 (J false w4))) ∧
 ∀ (_x34 : Nat → Value) (x35 : Bool) (w9 : World), J x35 w9 →
 cond (x35)
 (Writable w9 ⟨x5, 0, none⟩ 3 ∧ ∀ w10, w10 = setCells w9 ⟨x5, 0, none⟩ [.slice none 0 0, .int .i64 x3, .int .i64 11] →
 ∃ x36 x37 x38 x39 x40, CellsAt w10 ⟨x5, 0, none⟩ [.slice x36 x37 x38, .int .i64 x39, .int .i64 x40] ∧
 K (.agg #[.slice x36 x37 x38, .int .i64 x39, .int .i64 x40]) w10)
 (cond (x4 == 24)
 (Writable w9 ⟨x5, 0, none⟩ 3 ∧ ∀ w11, w11 = setCells w9 ⟨x5, 0, none⟩ [.slice none 0 0, .int .i64 x3, .int .i64 5] →
 ∃ x41 x42 x43 x44 x45, CellsAt w11 ⟨x5, 0, none⟩ [.slice x41 x42 x43, .int .i64 x44, .int .i64 x45] ∧
 K (.agg #[.slice x41 x42 x43, .int .i64 x44, .int .i64 x45]) w11)
 (∃ x46, w9.cell? ⟨x11, 1, none⟩ = some (.string (mkS x46)) ∧
 cond (x46 == [40])
 (Calls Try.prog 97 #[.slice x0 x1 x2, .int .i64 (IntKind.i64.wrap (x3 + 1)), .int .i64 1, .int .i64 (IntKind.i64.wrap (x4 + 1))] w9 (Ret fun x47 w12 =>
 ∃ x48 x49 x50 x51 x52, x47 = .agg #[.slice x48 x49 x50, .int .i64 x51, .int .i64 x52] ∧
 ∀ x53 w13, x53 = w12.heap.size → w13 = w12.alloc (.cells #[.slice none 0 0, .int .i64 0, .int .i64 0] 29) →
 Writable w13 ⟨x53, 0, none⟩ 3 ∧ ∀ w14, w14 = setCells w13 ⟨x53, 0, none⟩ [.slice x48 x49 x50, .int .i64 x51, .int .i64 x52] →
 ∃ x54, w14.cell? ⟨x53, 2, none⟩ = some (.int .i64 x54) ∧
 cond (x54 != 0)
 (∃ x55 x56 x57 x58 x59, CellsAt w14 ⟨x53, 0, none⟩ [.slice x55 x56 x57, .int .i64 x58, .int .i64 x59] ∧
 Writable w14 ⟨x5, 0, none⟩ 3 ∧ ∀ w15, w15 = setCells w14 ⟨x5, 0, none⟩ [.slice x55 x56 x57, .int .i64 x58, .int .i64 x59] →
 ∃ x60 x61 x62 x63 x64, CellsAt w15 ⟨x5, 0, none⟩ [.slice x60 x61 x62, .int .i64 x63, .int .i64 x64] ∧
 K (.agg #[.slice x60 x61 x62, .int .i64 x63, .int .i64 x64]) w15)
 (∃ x65, w14.cell? ⟨x53, 1, none⟩ = some (.int .i64 x65) ∧
 Calls Try.prog 22 #[.slice x0 x1 x2, .int .i64 x65] w14 (Ret fun x66 w16 =>
 ∃ x67 x68 x69 x70, x66 = .agg #[.int .i64 x67, .string (mkS x68), .int .i64 x69, .int .i64 x70] ∧
 ∀ x71 w17, x71 = w16.heap.size → w17 = w16.alloc (.cells #[.int .i64 0, .string (mkS []), .int .i64 0, .int .i64 0] 44) →
 Writable w17 ⟨x71, 0, none⟩ 4 ∧ ∀ w18, w18 = setCells w17 ⟨x71, 0, none⟩ [.int .i64 x67, .string (mkS x68), .int .i64 x69, .int .i64 x70] →
 ∃ (J1 : Bool → World → Prop),
 (∃ x72, w18.cell? ⟨x71, 0, none⟩ = some (.int .i64 x72) ∧
 cond (x72 != 4)
 (J1 true w18)
 (∃ x73, w18.cell? ⟨x71, 1, none⟩ = some (.string (mkS x73)) ∧
 J1 (!(x73 == [41])) w18)) ∧
 ∀ (_x74 : Nat → Value) (x75 : Bool) (w19 : World), J1 x75 w19 →
 cond (x75)
 (∃ x76, w19.cell? ⟨x53, 1, none⟩ = some (.int .i64 x76) ∧
 Writable w19 ⟨x5, 0, none⟩ 3 ∧ ∀ w20, w20 = setCells w19 ⟨x5, 0, none⟩ [.slice none 0 0, .int .i64 x76, .int .i64 11] →
 ∃ x77 x78 x79 x80 x81, CellsAt w20 ⟨x5, 0, none⟩ [.slice x77 x78 x79, .int .i64 x80, .int .i64 x81] ∧
 K (.agg #[.slice x77 x78 x79, .int .i64 x80, .int .i64 x81]) w20)
 (∃ x82 x83 x84, w19.cell? ⟨x53, 0, none⟩ = some (.slice x82 x83 x84) ∧
 ∃ x85, w19.cell? ⟨x53, 1, none⟩ = some (.int .i64 x85) ∧
 Writable w19 ⟨x5, 0, none⟩ 3 ∧ ∀ w21, w21 = setCells w19 ⟨x5, 0, none⟩ [.slice x82 x83 x84, .int .i64 (IntKind.i64.wrap (x85 + 1)), .int .i64 0] →
 ∃ x86 x87 x88 x89 x90, CellsAt w21 ⟨x5, 0, none⟩ [.slice x86 x87 x88, .int .i64 x89, .int .i64 x90] ∧
 K (.agg #[.slice x86 x87 x88, .int .i64 x89, .int .i64 x90]) w21)))))
 (Calls Try.prog 101 #[.slice x0 x1 x2, .int .i64 (IntKind.i64.wrap (x3 + 1)), .int .i64 (IntKind.i64.wrap (x4 + 1))] w9 (Ret fun x91 w22 =>
 ∃ x92 x93 x94 x95 x96, x91 = .agg #[.slice x92 x93 x94, .int .i64 x95, .int .i64 x96] ∧
 ∀ x97 w23, x97 = w22.heap.size → w23 = w22.alloc (.cells #[.slice none 0 0, .int .i64 0, .int .i64 0] 29) →
 Writable w23 ⟨x97, 0, none⟩ 3 ∧ ∀ w24, w24 = setCells w23 ⟨x97, 0, none⟩ [.slice x92 x93 x94, .int .i64 x95, .int .i64 x96] →
 ∃ x98, w24.cell? ⟨x97, 2, none⟩ = some (.int .i64 x98) ∧
 cond (x98 != 0)
 (∃ x99 x100 x101 x102 x103, CellsAt w24 ⟨x97, 0, none⟩ [.slice x99 x100 x101, .int .i64 x102, .int .i64 x103] ∧
 Writable w24 ⟨x5, 0, none⟩ 3 ∧ ∀ w25, w25 = setCells w24 ⟨x5, 0, none⟩ [.slice x99 x100 x101, .int .i64 x102, .int .i64 x103] →
 ∃ x104 x105 x106 x107 x108, CellsAt w25 ⟨x5, 0, none⟩ [.slice x104 x105 x106, .int .i64 x107, .int .i64 x108] ∧
 K (.agg #[.slice x104 x105 x106, .int .i64 x107, .int .i64 x108]) w25)
 (∃ (J2 : Int → World → Prop),
 (∃ x109, w24.cell? ⟨x11, 1, none⟩ = some (.string (mkS x109)) ∧
 cond (x109 == [33])
 (J2 4 w24)
 (J2 3 w24)) ∧
 ∀ (_x110 : Nat → Value) (x111 : Int) (w26 : World), J2 x111 w26 →
 ∀ w27, w27 = w26.drew →
 ∃ (S : World → Prop), S w27 ∧
 ∃ x112, (∀ u, S u → u.cell? ⟨x11, 3, none⟩ = some (.int .i64 x112)) ∧
 ∃ x113 x114 x115, (∀ u, S u → u.cell? ⟨x97, 0, none⟩ = some (.slice x113 x114 x115)) ∧
 ∃ x116, (∀ u, S u → u.cell? ⟨x97, 1, none⟩ = some (.int .i64 x116)) ∧
 ∀ x117 w28, x117 = w27.heap.size → w28 = w27.alloc (.cells #[.int .i64 x111, .string (mkS []), .int .i64 0, .int .i64 1, .int .i64 x112] 39) →
 S w28 ∧
 SemOk Try.prog (Builtin.append_ #[23, 23] 23 #[.slice (some ⟨x117, 0, none⟩) 1 1, .slice x113 x114 x115]) (fun x118 w29 =>
 ∃ x119 x120 x121, x118 = .slice x119 x120 x121 ∧
 S w29 ∧
 Writable w29 ⟨x5, 0, none⟩ 3 ∧ ∀ w30, w30 = setCells w29 ⟨x5, 0, none⟩ [.slice x119 x120 x121, .int .i64 x116, .int .i64 0] →
 ∃ x122 x123 x124 x125 x126, CellsAt w30 ⟨x5, 0, none⟩ [.slice x122 x123 x124, .int .i64 x125, .int .i64 x126] ∧
 K (.agg #[.slice x122 x123 x124, .int .i64 x125, .int .i64 x126]) w30) w28))))))))
theorem R10_one_ok (x0 : Option Addr) (x1 : Nat) (x2 : Nat) (x3 : Int) (x4 : Int) (K : Value → World → Prop) (w : World) (h : R10_one_wp x0 x1 x2 x3 x4 K w) : Calls Try.prog 101 #[.slice x0 x1 x2, .int .i64 x3, .int .i64 x4] w (Ret K) :=
 calls_of { cuts := [(62, [(56, .bool)]), (2047, [(11, .int .i64)]), (16301, [(87, .bool)])] } Try.func101 (by kernel_rfl) h
def R10_Parse_wp (x0 : Option Addr) (x1 : Nat) (x2 : Nat) (x3 : Int) (K : Value → World → Prop) (w : World) : Prop :=
 ∀ x4 w1, x4 = w.heap.size → w1 = w.alloc (.cells #[.slice none 0 0, .int .i64 0, .int .i64 0] 29) →
 cond (decide (x3 < 0))
 (Writable w1 ⟨x4, 0, none⟩ 3 ∧ ∀ w2, w2 = setCells w1 ⟨x4, 0, none⟩ [.slice none 0 0, .int .i64 0, .int .i64 1] →
 ∃ x5 x6 x7 x8 x9, CellsAt w2 ⟨x4, 0, none⟩ [.slice x5 x6 x7, .int .i64 x8, .int .i64 x9] ∧
 K (.agg #[.slice x5 x6 x7, .int .i64 x8, .int .i64 x9]) w2)
 (Calls Try.prog 97 #[.slice x0 x1 x2, .int .i64 x3, .int .i64 1, .int .i64 0] w1 (Ret fun x10 w3 =>
 ∃ x11 x12 x13 x14 x15, x10 = .agg #[.slice x11 x12 x13, .int .i64 x14, .int .i64 x15] ∧
 Writable w3 ⟨x4, 0, none⟩ 3 ∧ ∀ w4, w4 = setCells w3 ⟨x4, 0, none⟩ [.slice x11 x12 x13, .int .i64 x14, .int .i64 x15] →
 ∃ x16 x17 x18 x19 x20, CellsAt w4 ⟨x4, 0, none⟩ [.slice x16 x17 x18, .int .i64 x19, .int .i64 x20] ∧
 K (.agg #[.slice x16 x17 x18, .int .i64 x19, .int .i64 x20]) w4))
theorem R10_Parse_ok (x0 : Option Addr) (x1 : Nat) (x2 : Nat) (x3 : Int) (K : Value → World → Prop) (w : World) (h : R10_Parse_wp x0 x1 x2 x3 K w) : Calls Try.prog 92 #[.slice x0 x1 x2, .int .i64 x3] w (Ret K) :=
 calls_of {} Try.func92 (by kernel_rfl) h
end Go.Proofs.Ytdbdkdmgfiiljaa
namespace Go.Proofs.Ytdbdkdmgfiiljaa
open Go.Vc
def L11_live_wp (K : Value → World → Prop) (w : World) : Prop :=
 Calls Try.prog 7 #[.string (mkS [109, 97, 105, 110, 32, 123, 32, 125])] w (Ret fun x0 w1 =>
 ∃ x1 x2 x3 x4 x5, x0 = .tuple #[.slice x1 x2 x3, .int .i64 x4, .int .i64 x5] ∧
 Calls Try.prog 7 #[.string (mkS [109, 97, 105, 110, 32, 123, 32, 99, 32, 33, 32, 59, 32, 125])] w1 (Ret fun x6 w2 =>
 ∃ x7 x8 x9 x10 x11, x6 = .tuple #[.slice x7 x8 x9, .int .i64 x10, .int .i64 x11] ∧
 cond ((x2 : Int) == 3)
 (((0 : Int) ≤ 1 ∧ 1 < (x2 : Int)) ∧
 ptrOr x1 (fun x12 =>
 ∃ x13, w2.cell? (x12.add (1 * 5)) = some (.int .i64 x13) ∧
 cond (x13 == 41)
 (cond (x4 == 0)
 (cond (x5 == 0)
 (cond (x10 == 11)
 (K (.bool (x11 == 11)) w2)
 (K (.bool false) w2))
 (K (.bool false) w2))
 (K (.bool false) w2))
 (K (.bool false) w2)))
 (K (.bool false) w2)))
theorem L11_live_ok (K : Value → World → Prop) (w : World) (h : L11_live_wp K w) : Calls Try.prog 6 #[] w (Ret K) :=
 calls_of {} Try.func6 (by kernel_rfl) h
def L11_ParseDeep_wp (x0 : Int) (x1 : Bool) (K : Value → World → Prop) (w : World) : Prop :=
 ∃ (I : List UInt8 → Int → World → Prop) (x2 : List UInt8 → Int → World → Nat), I [109, 97, 105, 110, 32, 123] 0 w ∧
 ∀ (_x3 : Nat → Value) (x4 : List UInt8) (x5 : Int) (w1 : World), I x4 x5 w1 →
 cond (decide (x5 < (IntKind.i64.wrap x0)))
 (((x4.length + [32, 105, 102, 32, 49, 32, 123].length : Nat) : Int) ≤ IntKind.i64.max ∧
 I (x4 ++ [32, 105, 102, 32, 49, 32, 123]) (IntKind.i64.wrap (x5 + 1)) w1 ∧ x2 (x4 ++ [32, 105, 102, 32, 49, 32, 123]) (IntKind.i64.wrap (x5 + 1)) w1 < x2 x4 x5 w1)
 (∃ (J : List UInt8 → World → Prop),
 (cond (x1)
 (((x4.length + [32, 119, 104, 105, 108, 101, 32, 50, 32, 123, 32, 125].length : Nat) : Int) ≤ IntKind.i64.max ∧
 J (x4 ++ [32, 119, 104, 105, 108, 101, 32, 50, 32, 123, 32, 125]) w1)
 (J x4 w1)) ∧
 ∀ (_x6 : Nat → Value) (x7 : List UInt8) (w2 : World), J x7 w2 →
 ∃ (I1 : List UInt8 → Int → World → Prop) (x8 : List UInt8 → Int → World → Nat), I1 x7 0 w2 ∧
 ∀ (_x9 : Nat → Value) (x10 : List UInt8) (x11 : Int) (w3 : World), I1 x10 x11 w3 →
 cond (decide (x11 ≤ (IntKind.i64.wrap x0)))
 (((x10.length + [32, 125].length : Nat) : Int) ≤ IntKind.i64.max ∧
 I1 (x10 ++ [32, 125]) (IntKind.i64.wrap (x11 + 1)) w3 ∧ x8 (x10 ++ [32, 125]) (IntKind.i64.wrap (x11 + 1)) w3 < x8 x10 x11 w3)
 (∃ (J1 : Int → World → Prop),
 (cond (x1)
 (J1 (IntKind.i64.wrap ((IntKind.i64.wrap ((IntKind.i64.wrap x0) + 1)) + 1)) w3)
 (J1 (IntKind.i64.wrap ((IntKind.i64.wrap x0) + 1)) w3)) ∧
 ∀ (_x12 : Nat → Value) (x13 : Int) (w4 : World), J1 x13 w4 →
 Calls Try.prog 7 #[.string (mkS x10)] w4 (Ret fun x14 w5 =>
 ∃ x15 x16 x17 x18 x19, x14 = .tuple #[.slice x15 x16 x17, .int .i64 x18, .int .i64 x19] ∧
 cond (decide (x13 > 24))
 (cond ((x16 : Int) == 0)
 (cond (decide (x18 < (x10.length : Int)))
 (((0 : Int) ≤ (if 0 > x18 then 0 else x18) ∧ (if 0 > x18 then 0 else x18) < (x10.length : Int)) ∧
 cond (((x10.getD (if 0 > x18 then 0 else x18).toNat 0).toNat : Int) == 123)
 (cond (x19 == 5)
 (Calls Try.prog 6 #[] w5 (Ret fun x20 w6 =>
 ∃ x21, x20 = .bool x21 ∧
 K (.bool x21) w6))
 (K (.bool false) w5))
 (K (.bool false) w5))
 (K (.bool false) w5))
 (K (.bool false) w5))
 (cond (decide ((x16 : Int) > 0))
 (cond (x18 == 0)
 (cond (x19 == 0)
 (Calls Try.prog 6 #[] w5 (Ret fun x22 w7 =>
 ∃ x23, x22 = .bool x23 ∧
 K (.bool x23) w7))
 (K (.bool false) w5))
 (K (.bool false) w5))
 (K (.bool false) w5)))))
theorem L11_ParseDeep_ok (x0 : Int) (x1 : Bool) (K : Value → World → Prop) (w : World) (h : L11_ParseDeep_wp x0 x1 K w) : Calls Try.prog 4 #[.int .u8 x0, .bool x1] w (Ret K) :=
 calls_of { loops := [(58, [(5, .string), (6, .int .i64)]), (250, [(5, .string), (7, .int .i64)])], cuts := [(15, [(5, .string)]), (127, [(8, .int .i64)])] } Try.func4 (by kernel_rfl) h
end Go.Proofs.Ytdbdkdmgfiiljaa

namespace Go.Ty
open Go.Vc Go.Lv
structure GToken where
  kind : Int
  text : List UInt8
  n : Int
  at_ : Int
  deriving DecidableEq, Inhabited
def cGToken : Cod GToken := cMap (fun x => (x.kind, x.text, x.n, x.at_)) (cPair (cInt .i64) (cPair cStr (cPair (cInt .i64) (cInt .i64))))
theorem GToken_out {m : List Nat} {w : World} {x : GToken} {cs : List Value} (h : cGToken.rep m w x cs) : cs = [.int .i64 x.kind, .string (mkS x.text), .int .i64 x.n, .int .i64 x.at_] := by
  obtain ⟨_, _, rfl, rfl, ⟨_, _, rfl, rfl, ⟨_, _, rfl, rfl, rfl⟩⟩⟩ := h
  exact rfl
theorem GToken_in {m : List Nat} {w : World} (x : GToken)   : cGToken.rep m w x [.int .i64 x.kind, .string (mkS x.text), .int .i64 x.n, .int .i64 x.at_] := ⟨[.int .i64 x.kind], [.string (mkS x.text), .int .i64 x.n, .int .i64 x.at_], rfl, rfl, ⟨[.string (mkS x.text)], [.int .i64 x.n, .int .i64 x.at_], rfl, rfl, ⟨[.int .i64 x.n], [.int .i64 x.at_], rfl, rfl, rfl⟩⟩⟩
structure GNode where
  op : Int
  name : List UInt8
  n : Int
  kids : Int
  at_ : Int
  deriving DecidableEq, Inhabited
def cGNode : Cod GNode := cMap (fun x => (x.op, x.name, x.n, x.kids, x.at_)) (cPair (cInt .i64) (cPair cStr (cPair (cInt .i64) (cPair (cInt .i64) (cInt .i64)))))
theorem GNode_out {m : List Nat} {w : World} {x : GNode} {cs : List Value} (h : cGNode.rep m w x cs) : cs = [.int .i64 x.op, .string (mkS x.name), .int .i64 x.n, .int .i64 x.kids, .int .i64 x.at_] := by
  obtain ⟨_, _, rfl, rfl, ⟨_, _, rfl, rfl, ⟨_, _, rfl, rfl, ⟨_, _, rfl, rfl, rfl⟩⟩⟩⟩ := h
  exact rfl
theorem GNode_in {m : List Nat} {w : World} (x : GNode)   : cGNode.rep m w x [.int .i64 x.op, .string (mkS x.name), .int .i64 x.n, .int .i64 x.kids, .int .i64 x.at_] := ⟨[.int .i64 x.op], [.string (mkS x.name), .int .i64 x.n, .int .i64 x.kids, .int .i64 x.at_], rfl, rfl, ⟨[.string (mkS x.name)], [.int .i64 x.n, .int .i64 x.kids, .int .i64 x.at_], rfl, rfl, ⟨[.int .i64 x.n], [.int .i64 x.kids, .int .i64 x.at_], rfl, rfl, ⟨[.int .i64 x.kids], [.int .i64 x.at_], rfl, rfl, rfl⟩⟩⟩⟩
structure Gparse_reader where
  toks : List GToken
  at_ : Int
  deep : Int
  l : List GNode
  e_ : Int
  deriving DecidableEq, Inhabited
structure GR11_cur where
  l : List GNode
  n : Int
  at_ : Int
  e_ : Int
  deriving DecidableEq, Inhabited
structure GR10_Got where
  l : List GNode
  at_ : Int
  e_ : Int
  deriving DecidableEq, Inhabited
def cGR10_Got : Cod GR10_Got := cMap (fun x => (x.l, x.at_, x.e_)) (cPair (cSl cGNode) (cPair (cInt .i64) (cInt .i64)))
theorem GR10_Got_out {m : List Nat} {w : World} {x : GR10_Got} {cs : List Value} (h : cGR10_Got.rep m w x cs) : ∃ (a0 : Option Addr) (c0 : Nat), cs = [.slice a0 x.l.length c0, .int .i64 x.at_, .int .i64 x.e_] ∧ (x.l.length ≤ c0 ∧ SlR cGNode m w a0 x.l) := by
  obtain ⟨_, _, rfl, ⟨a0, c0, rfl, p0, q0⟩, ⟨_, _, rfl, rfl, rfl⟩⟩ := h
  exact ⟨a0, c0, rfl, ⟨p0, q0⟩⟩
theorem GR10_Got_in {m : List Nat} {w : World} (x : GR10_Got) {a0 : Option Addr} {c0 : Nat} (h0 : (x.l.length ≤ c0 ∧ SlR cGNode m w a0 x.l)) : cGR10_Got.rep m w x [.slice a0 x.l.length c0, .int .i64 x.at_, .int .i64 x.e_] := ⟨[.slice a0 x.l.length c0], [.int .i64 x.at_, .int .i64 x.e_], rfl, ⟨_, _, rfl, h0.1, h0.2⟩, ⟨[.int .i64 x.at_], [.int .i64 x.e_], rfl, rfl, rfl⟩⟩
end Go.Ty
namespace Go.Proofs.Ytdbdkdmgfiiljaa
open Go.Vc Go.Lv Go.Ty
theorem sl_39 : SlTy Try.prog 23 39 5 48 := ⟨Try.t39, .agg #[.int .i64 0, .string (mkS []), .int .i64 0, .int .i64 0, .int .i64 0], by kernel_rfl, by kernel_rfl, by kernel_rfl, by kernel_rfl, by kernel_rfl, by kernel_rfl, by decide⟩
theorem sl_44 : SlTy Try.prog 33 44 4 40 := ⟨Try.t44, .agg #[.int .i64 0, .string (mkS []), .int .i64 0, .int .i64 0], by kernel_rfl, by kernel_rfl, by kernel_rfl, by kernel_rfl, by kernel_rfl, by kernel_rfl, by decide⟩
def V_parse_Unit (toks : List GToken) (K : (List GNode) → Int → Int → Prop) : Prop :=
  ∀ (m : List Nat) (w : World), MOk m w → ∀ (toksA : Option Addr) (toksC : Nat), toks.length ≤ toksC → SlR cGToken m w toksA toks →
    Calls Try.prog 13 #[.slice toksA toks.length toksC] w (Ret fun v w' => ∃ (r0 : List GNode) (r1 : Int) (r2 : Int), K r0 r1 r2 ∧ (∃ (a0 : Option Addr) (c0 : Nat), v = .tuple #[.slice a0 r0.length c0, .int .i64 r1, .int .i64 r2] ∧ (r0.length ≤ c0 ∧ SlR cGNode m w' a0 r0)) ∧ Keep [] w w')
def V_parse_reader_see (r : Gparse_reader) (k : Int) (K : GToken → Prop) : Prop :=
  ∀ (m : List Nat) (w : World), MOk m w → ∀ (rb : Nat) (rA : Option Addr) (rC : Nat) (rA0 : Option Addr) (rC0 : Nat), Box w rb [.slice rA0 (r.toks).length rC0, .int .i64 (r.at_), .int .i64 (r.deep), .slice rA (r.l).length rC, .int .i64 (r.e_)] → (r.toks).length ≤ rC0 → SlR cGToken m w rA0 r.toks →
    Calls Try.prog 19 #[.pointer (some ⟨rb, 0, none⟩), .int .i64 k] w (Ret fun v w' => ∃ (r0 : GToken), K r0 ∧ (∃ (cs0 : List Value), v = .agg ⟨cs0⟩ ∧ cGToken.rep m w' r0 cs0) ∧ Keep [] w w')
def V_parse_reader_decl (r : Gparse_reader) (K : Gparse_reader → Prop) : Prop :=
  ∀ (m : List Nat) (w : World), MOk m w → ∀ (rb : Nat) (rA : Option Addr) (rC : Nat) (rxs : List Value) (rA0 : Option Addr) (rC0 : Nat), rb ∈ m → (∀ q, Vc.blk rA = some q → q ∈ m ∧ q ≠ rb) → Box w rb [.slice rA0 (r.toks).length rC0, .int .i64 (r.at_), .int .i64 (r.deep), .slice rA (r.l).length rC, .int .i64 (r.e_)] → Rw w 0 39 5 rA (r.l).length rC rxs → El cGNode m w (r.l) rxs → (r.toks).length ≤ rC0 → SlR cGToken m w rA0 r.toks →
    Calls Try.prog 20 #[.pointer (some ⟨rb, 0, none⟩)] w (Ret fun _ w' => ∃ (r' : Gparse_reader), K r' ∧ (True) ∧ (∃ A' C' xs', Box w' rb [.slice rA0 (r.toks).length rC0, .int .i64 (r'.at_), .int .i64 (r'.deep), .slice A' (r'.l).length C', .int .i64 (r'.e_)] ∧ Rw w' 0 39 5 A' (r'.l).length C' xs' ∧ El cGNode ((Vc.blk A').toList ++ m) w' (r'.l) xs' ∧ (∀ q, Vc.blk A' = some q → q ∈ (Vc.blk rA).toList ∨ w.heap.size ≤ q)) ∧ Keep (rb :: (Vc.blk rA).toList) w w')
def V_parse_Text (sx : List UInt8) (K : (List GNode) → Int → Int → Prop) : Prop :=
  ∀ (m : List Nat) (w : World), MOk m w →
    Calls Try.prog 7 #[.string (mkS sx)] w (Ret fun v w' => ∃ (r0 : List GNode) (r1 : Int) (r2 : Int), K r0 r1 r2 ∧ (∃ (a0 : Option Addr) (c0 : Nat), v = .tuple #[.slice a0 r0.length c0, .int .i64 r1, .int .i64 r2] ∧ (r0.length ≤ c0 ∧ SlR cGNode m w' a0 r0)) ∧ Keep [] w w')
def V_token_All (sx : List UInt8) (K : (List GToken) → Int → Int → Prop) : Prop :=
  ∀ (m : List Nat) (w : World), MOk m w →
    Calls Try.prog 12 #[.string (mkS sx)] w (Ret fun v w' => ∃ (r0 : List GToken) (r1 : Int) (r2 : Int), K r0 r1 r2 ∧ (∃ (a0 : Option Addr) (c0 : Nat), v = .tuple #[.slice a0 r0.length c0, .int .i64 r1, .int .i64 r2] ∧ (r0.length ≤ c0 ∧ SlR cGToken m w' a0 r0)) ∧ Keep [] w w')
def V_parse_reader_is (r : Gparse_reader) (k : Int) (sx : List UInt8) (K : Bool → Prop) : Prop :=
  ∀ (m : List Nat) (w : World), MOk m w → ∀ (rb : Nat) (rA : Option Addr) (rC : Nat) (rA0 : Option Addr) (rC0 : Nat), Box w rb [.slice rA0 (r.toks).length rC0, .int .i64 (r.at_), .int .i64 (r.deep), .slice rA (r.l).length rC, .int .i64 (r.e_)] → (r.toks).length ≤ rC0 → SlR cGToken m w rA0 r.toks →
    Calls Try.prog 67 #[.pointer (some ⟨rb, 0, none⟩), .int .i64 k, .string (mkS sx)] w (Ret fun v w' => ∃ (r0 : Bool), K r0 ∧ (v = .bool r0) ∧ Keep [] w w')
def V_parse_reader_fail (r : Gparse_reader) (ex : Int) (K : Gparse_reader → Prop) : Prop :=
  ∀ (m : List Nat) (w : World), MOk m w → ∀ (rb : Nat) (rA : Option Addr) (rC : Nat) (rA0 : Option Addr) (rC0 : Nat), rb ∈ m → Box w rb [.slice rA0 (r.toks).length rC0, .int .i64 (r.at_), .int .i64 (r.deep), .slice rA (r.l).length rC, .int .i64 (r.e_)] → (r.toks).length ≤ rC0 → SlR cGToken m w rA0 r.toks →
    Calls Try.prog 68 #[.pointer (some ⟨rb, 0, none⟩), .int .i64 ex] w (Ret fun _ w' => ∃ (r' : Gparse_reader), K r' ∧ (True) ∧ Box w' rb [.slice rA0 (r.toks).length rC0, .int .i64 (r'.at_), .int .i64 (r'.deep), .slice rA (r.l).length rC, .int .i64 (r'.e_)] ∧ Keep [rb] w w')
def V_parse_reader_eat (r : Gparse_reader) (sx : List UInt8) (K : Bool → Gparse_reader → Prop) : Prop :=
  ∀ (m : List Nat) (w : World), MOk m w → ∀ (rb : Nat) (rA : Option Addr) (rC : Nat) (rA0 : Option Addr) (rC0 : Nat), rb ∈ m → Box w rb [.slice rA0 (r.toks).length rC0, .int .i64 (r.at_), .int .i64 (r.deep), .slice rA (r.l).length rC, .int .i64 (r.e_)] → (r.toks).length ≤ rC0 → SlR cGToken m w rA0 r.toks →
    Calls Try.prog 43 #[.pointer (some ⟨rb, 0, none⟩), .string (mkS sx)] w (Ret fun v w' => ∃ (r0 : Bool) (r' : Gparse_reader), K r0 r' ∧ (v = .bool r0) ∧ Box w' rb [.slice rA0 (r.toks).length rC0, .int .i64 (r'.at_), .int .i64 (r'.deep), .slice rA (r.l).length rC, .int .i64 (r'.e_)] ∧ Keep [rb] w w')
def V_parse_reader_must (r : Gparse_reader) (l : List (List UInt8)) (K : Gparse_reader → Prop) : Prop :=
  ∀ (m : List Nat) (w : World), MOk m w → ∀ (rb : Nat) (rA : Option Addr) (rC : Nat) (rA0 : Option Addr) (rC0 : Nat), rb ∈ m → Box w rb [.slice rA0 (r.toks).length rC0, .int .i64 (r.at_), .int .i64 (r.deep), .slice rA (r.l).length rC, .int .i64 (r.e_)] → (r.toks).length ≤ rC0 → SlR cGToken m w rA0 r.toks →  ∀ (lA : Option Addr) (lC : Nat), l.length ≤ lC → SlR cStr m w lA l →
    Calls Try.prog 46 #[.pointer (some ⟨rb, 0, none⟩), .slice lA l.length lC] w (Ret fun _ w' => ∃ (r' : Gparse_reader), K r' ∧ (True) ∧ Box w' rb [.slice rA0 (r.toks).length rC0, .int .i64 (r'.at_), .int .i64 (r'.deep), .slice rA (r.l).length rC, .int .i64 (r'.e_)] ∧ Keep [rb] w w')
def V_parse_reader_name (r : Gparse_reader) (K : (List UInt8) → Gparse_reader → Prop) : Prop :=
  ∀ (m : List Nat) (w : World), MOk m w → ∀ (rb : Nat) (rA : Option Addr) (rC : Nat) (rA0 : Option Addr) (rC0 : Nat), rb ∈ m → Box w rb [.slice rA0 (r.toks).length rC0, .int .i64 (r.at_), .int .i64 (r.deep), .slice rA (r.l).length rC, .int .i64 (r.e_)] → (r.toks).length ≤ rC0 → SlR cGToken m w rA0 r.toks →
    Calls Try.prog 44 #[.pointer (some ⟨rb, 0, none⟩)] w (Ret fun v w' => ∃ (r0 : List UInt8) (r' : Gparse_reader), K r0 r' ∧ (v = .string (mkS r0)) ∧ Box w' rb [.slice rA0 (r.toks).length rC0, .int .i64 (r'.at_), .int .i64 (r'.deep), .slice rA (r.l).length rC, .int .i64 (r'.e_)] ∧ Keep [rb] w w')
def V_parse_reader_open (r : Gparse_reader) (op : Int) (K : Int → Gparse_reader → Prop) : Prop :=
  ∀ (m : List Nat) (w : World), MOk m w → ∀ (rb : Nat) (rA : Option Addr) (rC : Nat) (rxs : List Value) (rA0 : Option Addr) (rC0 : Nat), rb ∈ m → (∀ q, Vc.blk rA = some q → q ∈ m ∧ q ≠ rb) → Box w rb [.slice rA0 (r.toks).length rC0, .int .i64 (r.at_), .int .i64 (r.deep), .slice rA (r.l).length rC, .int .i64 (r.e_)] → Rw w 0 39 5 rA (r.l).length rC rxs → El cGNode m w (r.l) rxs → (r.toks).length ≤ rC0 → SlR cGToken m w rA0 r.toks →
    Calls Try.prog 42 #[.pointer (some ⟨rb, 0, none⟩), .int .i64 op] w (Ret fun v w' => ∃ (r0 : Int) (r' : Gparse_reader), K r0 r' ∧ (v = .int .i64 r0) ∧ (∃ A' C' xs', Box w' rb [.slice rA0 (r.toks).length rC0, .int .i64 (r'.at_), .int .i64 (r'.deep), .slice A' (r'.l).length C', .int .i64 (r'.e_)] ∧ Rw w' 0 39 5 A' (r'.l).length C' xs' ∧ El cGNode ((Vc.blk A').toList ++ m) w' (r'.l) xs' ∧ (∀ q, Vc.blk A' = some q → q ∈ (Vc.blk rA).toList ∨ w.heap.size ≤ q)) ∧ Keep (rb :: (Vc.blk rA).toList) w w')
def V_parse_reader_term (r : Gparse_reader) (up : Int) (K : Gparse_reader → Prop) : Prop :=
  ∀ (m : List Nat) (w : World), MOk m w → ∀ (rb : Nat) (rA : Option Addr) (rC : Nat) (rxs : List Value) (rA0 : Option Addr) (rC0 : Nat), rb ∈ m → (∀ q, Vc.blk rA = some q → q ∈ m ∧ q ≠ rb) → Box w rb [.slice rA0 (r.toks).length rC0, .int .i64 (r.at_), .int .i64 (r.deep), .slice rA (r.l).length rC, .int .i64 (r.e_)] → Rw w 0 39 5 rA (r.l).length rC rxs → El cGNode m w (r.l) rxs → (r.toks).length ≤ rC0 → SlR cGToken m w rA0 r.toks →
    Calls Try.prog 77 #[.pointer (some ⟨rb, 0, none⟩), .int .i64 up] w (Ret fun _ w' => ∃ (r' : Gparse_reader), K r' ∧ (True) ∧ (∃ A' C' xs', Box w' rb [.slice rA0 (r.toks).length rC0, .int .i64 (r'.at_), .int .i64 (r'.deep), .slice A' (r'.l).length C', .int .i64 (r'.e_)] ∧ Rw w' 0 39 5 A' (r'.l).length C' xs' ∧ El cGNode ((Vc.blk A').toList ++ m) w' (r'.l) xs' ∧ (∀ q, Vc.blk A' = some q → q ∈ (Vc.blk rA).toList ∨ w.heap.size ≤ q)) ∧ Keep (rb :: (Vc.blk rA).toList) w w')
def V_term_Parse (toks : List GToken) (atx : Int) (K : (List GNode) → Int → Int → Prop) : Prop :=
  ∀ (m : List Nat) (w : World), MOk m w → ∀ (toksA : Option Addr) (toksC : Nat), toks.length ≤ toksC → SlR cGToken m w toksA toks →
    Calls Try.prog 84 #[.slice toksA toks.length toksC, .int .i64 atx] w (Ret fun v w' => ∃ (r0 : List GNode) (r1 : Int) (r2 : Int), K r0 r1 r2 ∧ (∃ (a0 : Option Addr) (c0 : Nat), v = .tuple #[.slice a0 r0.length c0, .int .i64 r1, .int .i64 r2] ∧ (r0.length ≤ c0 ∧ SlR cGNode m w' a0 r0)) ∧ Keep [] w w')
def V_parse_reader_ref (r : Gparse_reader) (up : Int) (K : Gparse_reader → Prop) : Prop :=
  ∀ (m : List Nat) (w : World), MOk m w → ∀ (rb : Nat) (rA : Option Addr) (rC : Nat) (rxs : List Value) (rA0 : Option Addr) (rC0 : Nat), rb ∈ m → (∀ q, Vc.blk rA = some q → q ∈ m ∧ q ≠ rb) → Box w rb [.slice rA0 (r.toks).length rC0, .int .i64 (r.at_), .int .i64 (r.deep), .slice rA (r.l).length rC, .int .i64 (r.e_)] → Rw w 0 39 5 rA (r.l).length rC rxs → El cGNode m w (r.l) rxs → (r.toks).length ≤ rC0 → SlR cGToken m w rA0 r.toks →
    Calls Try.prog 83 #[.pointer (some ⟨rb, 0, none⟩), .int .i64 up] w (Ret fun _ w' => ∃ (r' : Gparse_reader), K r' ∧ (True) ∧ (∃ A' C' xs', Box w' rb [.slice rA0 (r.toks).length rC0, .int .i64 (r'.at_), .int .i64 (r'.deep), .slice A' (r'.l).length C', .int .i64 (r'.e_)] ∧ Rw w' 0 39 5 A' (r'.l).length C' xs' ∧ El cGNode ((Vc.blk A').toList ++ m) w' (r'.l) xs' ∧ (∀ q, Vc.blk A' = some q → q ∈ (Vc.blk rA).toList ∨ w.heap.size ≤ q)) ∧ Keep (rb :: (Vc.blk rA).toList) w w')
def V_parse_reader_block (r : Gparse_reader) (up : Int) (K : Gparse_reader → Prop) : Prop :=
  ∀ (m : List Nat) (w : World), MOk m w → ∀ (rb : Nat) (rA : Option Addr) (rC : Nat) (rxs : List Value) (rA0 : Option Addr) (rC0 : Nat), rb ∈ m → (∀ q, Vc.blk rA = some q → q ∈ m ∧ q ≠ rb) → Box w rb [.slice rA0 (r.toks).length rC0, .int .i64 (r.at_), .int .i64 (r.deep), .slice rA (r.l).length rC, .int .i64 (r.e_)] → Rw w 0 39 5 rA (r.l).length rC rxs → El cGNode m w (r.l) rxs → (r.toks).length ≤ rC0 → SlR cGToken m w rA0 r.toks →
    Calls Try.prog 48 #[.pointer (some ⟨rb, 0, none⟩), .int .i64 up] w (Ret fun _ w' => ∃ (r' : Gparse_reader), K r' ∧ (True) ∧ (∃ A' C' xs', Box w' rb [.slice rA0 (r.toks).length rC0, .int .i64 (r'.at_), .int .i64 (r'.deep), .slice A' (r'.l).length C', .int .i64 (r'.e_)] ∧ Rw w' 0 39 5 A' (r'.l).length C' xs' ∧ El cGNode ((Vc.blk A').toList ++ m) w' (r'.l) xs' ∧ (∀ q, Vc.blk A' = some q → q ∈ (Vc.blk rA).toList ∨ w.heap.size ≤ q)) ∧ Keep (rb :: (Vc.blk rA).toList) w w')
def V_parse_reader_stmt (r : Gparse_reader) (K : Gparse_reader → Prop) : Prop :=
  ∀ (m : List Nat) (w : World), MOk m w → ∀ (rb : Nat) (rA : Option Addr) (rC : Nat) (rxs : List Value) (rA0 : Option Addr) (rC0 : Nat), rb ∈ m → (∀ q, Vc.blk rA = some q → q ∈ m ∧ q ≠ rb) → Box w rb [.slice rA0 (r.toks).length rC0, .int .i64 (r.at_), .int .i64 (r.deep), .slice rA (r.l).length rC, .int .i64 (r.e_)] → Rw w 0 39 5 rA (r.l).length rC rxs → El cGNode m w (r.l) rxs → (r.toks).length ≤ rC0 → SlR cGToken m w rA0 r.toks →
    Calls Try.prog 69 #[.pointer (some ⟨rb, 0, none⟩)] w (Ret fun _ w' => ∃ (r' : Gparse_reader), K r' ∧ (True) ∧ (∃ A' C' xs', Box w' rb [.slice rA0 (r.toks).length rC0, .int .i64 (r'.at_), .int .i64 (r'.deep), .slice A' (r'.l).length C', .int .i64 (r'.e_)] ∧ Rw w' 0 39 5 A' (r'.l).length C' xs' ∧ El cGNode ((Vc.blk A').toList ++ m) w' (r'.l) xs' ∧ (∀ q, Vc.blk A' = some q → q ∈ (Vc.blk rA).toList ∨ w.heap.size ≤ q)) ∧ Keep (rb :: (Vc.blk rA).toList) w w')
def V_parse_reader_comm (r : Gparse_reader) (i : Int) (send : Int) (recv : Int) (K : Gparse_reader → Prop) : Prop :=
  ∀ (m : List Nat) (w : World), MOk m w → ∀ (rb : Nat) (rA : Option Addr) (rC : Nat) (rxs : List Value) (rA0 : Option Addr) (rC0 : Nat), rb ∈ m → (∀ q, Vc.blk rA = some q → q ∈ m ∧ q ≠ rb) → Box w rb [.slice rA0 (r.toks).length rC0, .int .i64 (r.at_), .int .i64 (r.deep), .slice rA (r.l).length rC, .int .i64 (r.e_)] → Rw w 0 39 5 rA (r.l).length rC rxs → El cGNode m w (r.l) rxs → (r.toks).length ≤ rC0 → SlR cGToken m w rA0 r.toks →
    Calls Try.prog 76 #[.pointer (some ⟨rb, 0, none⟩), .int .i64 i, .int .i64 send, .int .i64 recv] w (Ret fun _ w' => ∃ (r' : Gparse_reader), K r' ∧ (True) ∧ (∃ A' C' xs', Box w' rb [.slice rA0 (r.toks).length rC0, .int .i64 (r'.at_), .int .i64 (r'.deep), .slice A' (r'.l).length C', .int .i64 (r'.e_)] ∧ Rw w' 0 39 5 A' (r'.l).length C' xs' ∧ El cGNode ((Vc.blk A').toList ++ m) w' (r'.l) xs' ∧ (∀ q, Vc.blk A' = some q → q ∈ (Vc.blk rA).toList ∨ w.heap.size ≤ q)) ∧ Keep (rb :: (Vc.blk rA).toList) w w')
def V_parse_reader_set (r : Gparse_reader) (i : Int) (K : Gparse_reader → Prop) : Prop :=
  ∀ (m : List Nat) (w : World), MOk m w → ∀ (rb : Nat) (rA : Option Addr) (rC : Nat) (rxs : List Value) (rA0 : Option Addr) (rC0 : Nat), rb ∈ m → (∀ q, Vc.blk rA = some q → q ∈ m ∧ q ≠ rb) → Box w rb [.slice rA0 (r.toks).length rC0, .int .i64 (r.at_), .int .i64 (r.deep), .slice rA (r.l).length rC, .int .i64 (r.e_)] → Rw w 0 39 5 rA (r.l).length rC rxs → El cGNode m w (r.l) rxs → (r.toks).length ≤ rC0 → SlR cGToken m w rA0 r.toks →
    Calls Try.prog 75 #[.pointer (some ⟨rb, 0, none⟩), .int .i64 i] w (Ret fun _ w' => ∃ (r' : Gparse_reader), K r' ∧ (True) ∧ (∃ A' C' xs', Box w' rb [.slice rA0 (r.toks).length rC0, .int .i64 (r'.at_), .int .i64 (r'.deep), .slice A' (r'.l).length C', .int .i64 (r'.e_)] ∧ Rw w' 0 39 5 A' (r'.l).length C' xs' ∧ El cGNode ((Vc.blk A').toList ++ m) w' (r'.l) xs' ∧ (∀ q, Vc.blk A' = some q → q ∈ (Vc.blk rA).toList ∨ w.heap.size ≤ q)) ∧ Keep (rb :: (Vc.blk rA).toList) w w')
def V_parse_reader_clause (r : Gparse_reader) (K : Gparse_reader → Prop) : Prop :=
  ∀ (m : List Nat) (w : World), MOk m w → ∀ (rb : Nat) (rA : Option Addr) (rC : Nat) (rxs : List Value) (rA0 : Option Addr) (rC0 : Nat), rb ∈ m → (∀ q, Vc.blk rA = some q → q ∈ m ∧ q ≠ rb) → Box w rb [.slice rA0 (r.toks).length rC0, .int .i64 (r.at_), .int .i64 (r.deep), .slice rA (r.l).length rC, .int .i64 (r.e_)] → Rw w 0 39 5 rA (r.l).length rC rxs → El cGNode m w (r.l) rxs → (r.toks).length ≤ rC0 → SlR cGToken m w rA0 r.toks →
    Calls Try.prog 79 #[.pointer (some ⟨rb, 0, none⟩)] w (Ret fun _ w' => ∃ (r' : Gparse_reader), K r' ∧ (True) ∧ (∃ A' C' xs', Box w' rb [.slice rA0 (r.toks).length rC0, .int .i64 (r'.at_), .int .i64 (r'.deep), .slice A' (r'.l).length C', .int .i64 (r'.e_)] ∧ Rw w' 0 39 5 A' (r'.l).length C' xs' ∧ El cGNode ((Vc.blk A').toList ++ m) w' (r'.l) xs' ∧ (∀ q, Vc.blk A' = some q → q ∈ (Vc.blk rA).toList ∨ w.heap.size ≤ q)) ∧ Keep (rb :: (Vc.blk rA).toList) w w')
def V_parse_reader_args (r : Gparse_reader) (i : Int) (K : Gparse_reader → Prop) : Prop :=
  ∀ (m : List Nat) (w : World), MOk m w → ∀ (rb : Nat) (rA : Option Addr) (rC : Nat) (rxs : List Value) (rA0 : Option Addr) (rC0 : Nat), rb ∈ m → (∀ q, Vc.blk rA = some q → q ∈ m ∧ q ≠ rb) → Box w rb [.slice rA0 (r.toks).length rC0, .int .i64 (r.at_), .int .i64 (r.deep), .slice rA (r.l).length rC, .int .i64 (r.e_)] → Rw w 0 39 5 rA (r.l).length rC rxs → El cGNode m w (r.l) rxs → (r.toks).length ≤ rC0 → SlR cGToken m w rA0 r.toks →
    Calls Try.prog 78 #[.pointer (some ⟨rb, 0, none⟩), .int .i64 i] w (Ret fun _ w' => ∃ (r' : Gparse_reader), K r' ∧ (True) ∧ (∃ A' C' xs', Box w' rb [.slice rA0 (r.toks).length rC0, .int .i64 (r'.at_), .int .i64 (r'.deep), .slice A' (r'.l).length C', .int .i64 (r'.e_)] ∧ Rw w' 0 39 5 A' (r'.l).length C' xs' ∧ El cGNode ((Vc.blk A').toList ++ m) w' (r'.l) xs' ∧ (∀ q, Vc.blk A' = some q → q ∈ (Vc.blk rA).toList ∨ w.heap.size ≤ q)) ∧ Keep (rb :: (Vc.blk rA).toList) w w')
def V_parse_reader_size (r : Gparse_reader) (i : Int) (K : Gparse_reader → Prop) : Prop :=
  ∀ (m : List Nat) (w : World), MOk m w → ∀ (rb : Nat) (rA : Option Addr) (rC : Nat) (rxs : List Value) (rA0 : Option Addr) (rC0 : Nat), rb ∈ m → (∀ q, Vc.blk rA = some q → q ∈ m ∧ q ≠ rb) → Box w rb [.slice rA0 (r.toks).length rC0, .int .i64 (r.at_), .int .i64 (r.deep), .slice rA (r.l).length rC, .int .i64 (r.e_)] → Rw w 0 39 5 rA (r.l).length rC rxs → El cGNode m w (r.l) rxs → (r.toks).length ≤ rC0 → SlR cGToken m w rA0 r.toks →
    Calls Try.prog 45 #[.pointer (some ⟨rb, 0, none⟩), .int .i64 i] w (Ret fun _ w' => ∃ (r' : Gparse_reader), K r' ∧ (True) ∧ (∃ A' C' xs', Box w' rb [.slice rA0 (r.toks).length rC0, .int .i64 (r'.at_), .int .i64 (r'.deep), .slice A' (r'.l).length C', .int .i64 (r'.e_)] ∧ Rw w' 0 39 5 A' (r'.l).length C' xs' ∧ El cGNode ((Vc.blk A').toList ++ m) w' (r'.l) xs' ∧ (∀ q, Vc.blk A' = some q → q ∈ (Vc.blk rA).toList ∨ w.heap.size ≤ q)) ∧ Keep (rb :: (Vc.blk rA).toList) w w')
def V_parse_reader_param (r : Gparse_reader) (up : Int) (K : Gparse_reader → Prop) : Prop :=
  ∀ (m : List Nat) (w : World), MOk m w → ∀ (rb : Nat) (rA : Option Addr) (rC : Nat) (rxs : List Value) (rA0 : Option Addr) (rC0 : Nat), rb ∈ m → (∀ q, Vc.blk rA = some q → q ∈ m ∧ q ≠ rb) → Box w rb [.slice rA0 (r.toks).length rC0, .int .i64 (r.at_), .int .i64 (r.deep), .slice rA (r.l).length rC, .int .i64 (r.e_)] → Rw w 0 39 5 rA (r.l).length rC rxs → El cGNode m w (r.l) rxs → (r.toks).length ≤ rC0 → SlR cGToken m w rA0 r.toks →
    Calls Try.prog 47 #[.pointer (some ⟨rb, 0, none⟩), .int .i64 up] w (Ret fun _ w' => ∃ (r' : Gparse_reader), K r' ∧ (True) ∧ (∃ A' C' xs', Box w' rb [.slice rA0 (r.toks).length rC0, .int .i64 (r'.at_), .int .i64 (r'.deep), .slice A' (r'.l).length C', .int .i64 (r'.e_)] ∧ Rw w' 0 39 5 A' (r'.l).length C' xs' ∧ El cGNode ((Vc.blk A').toList ++ m) w' (r'.l) xs' ∧ (∀ q, Vc.blk A' = some q → q ∈ (Vc.blk rA).toList ∨ w.heap.size ≤ q)) ∧ Keep (rb :: (Vc.blk rA).toList) w w')
def V_R10_Tok (toks : List GToken) (atx : Int) (K : GToken → Prop) : Prop :=
  ∀ (m : List Nat) (w : World), MOk m w → ∀ (toksA : Option Addr) (toksC : Nat), toks.length ≤ toksC → SlR cGToken m w toksA toks →
    Calls Try.prog 22 #[.slice toksA toks.length toksC, .int .i64 atx] w (Ret fun v w' => ∃ (r0 : GToken), K r0 ∧ (∃ (cs0 : List Value), v = .agg ⟨cs0⟩ ∧ cGToken.rep m w' r0 cs0) ∧ Keep [] w w')
def V_R10_Parse (toks : List GToken) (atx : Int) (K : GR10_Got → Prop) : Prop :=
  ∀ (m : List Nat) (w : World), MOk m w → ∀ (toksA : Option Addr) (toksC : Nat), toks.length ≤ toksC → SlR cGToken m w toksA toks →
    Calls Try.prog 92 #[.slice toksA toks.length toksC, .int .i64 atx] w (Ret fun v w' => ∃ (r0 : GR10_Got), K r0 ∧ (∃ (cs0 : List Value), v = .agg ⟨cs0⟩ ∧ cGR10_Got.rep m w' r0 cs0) ∧ Keep [] w w')
def V_token_Next (sx : List UInt8) (atx : Int) (K : GToken → Int → Int → Prop) : Prop :=
  ∀ (m : List Nat) (w : World), MOk m w →
    Calls Try.prog 18 #[.string (mkS sx), .int .i64 atx] w (Ret fun v w' => ∃ (r0 : GToken) (r1 : Int) (r2 : Int), K r0 r1 r2 ∧ (∃ (cs0 : List Value), v = .tuple #[.agg ⟨cs0⟩, .int .i64 r1, .int .i64 r2] ∧ cGToken.rep m w' r0 cs0) ∧ Keep [] w w')
def V_R10_level (toks : List GToken) (atx : Int) (n : Int) (deep : Int) (K : GR10_Got → Prop) : Prop :=
  ∀ (m : List Nat) (w : World), MOk m w → ∀ (toksA : Option Addr) (toksC : Nat), toks.length ≤ toksC → SlR cGToken m w toksA toks →
    Calls Try.prog 97 #[.slice toksA toks.length toksC, .int .i64 atx, .int .i64 n, .int .i64 deep] w (Ret fun v w' => ∃ (r0 : GR10_Got), K r0 ∧ (∃ (cs0 : List Value), v = .agg ⟨cs0⟩ ∧ cGR10_Got.rep m w' r0 cs0) ∧ Keep [] w w')
def V_R10_one (toks : List GToken) (atx : Int) (deep : Int) (K : GR10_Got → Prop) : Prop :=
  ∀ (m : List Nat) (w : World), MOk m w → ∀ (toksA : Option Addr) (toksC : Nat), toks.length ≤ toksC → SlR cGToken m w toksA toks →
    Calls Try.prog 101 #[.slice toksA toks.length toksC, .int .i64 atx, .int .i64 deep] w (Ret fun v w' => ∃ (r0 : GR10_Got), K r0 ∧ (∃ (cs0 : List Value), v = .agg ⟨cs0⟩ ∧ cGR10_Got.rep m w' r0 cs0) ∧ Keep [] w w')
def V_R10_Op (sx : List UInt8) (K : Int → Prop) : Prop :=
  ∀ (m : List Nat) (w : World), MOk m w →
    Calls Try.prog 102 #[.string (mkS sx)] w (Ret fun v w' => ∃ (r0 : Int), K r0 ∧ (v = .int .i64 r0) ∧ Keep [] w w')
def V_R10_Level (op : Int) (K : Int → Prop) : Prop :=
  ∀ (m : List Nat) (w : World), MOk m w →
    Calls Try.prog 103 #[.int .i64 op] w (Ret fun v w' => ∃ (r0 : Int), K r0 ∧ (v = .int .i64 r0) ∧ Keep [] w w')
def V_L11_live (K : Bool → Prop) : Prop :=
  ∀ (m : List Nat) (w : World), MOk m w →
    Calls Try.prog 6 #[] w (Ret fun v w' => ∃ (r0 : Bool), K r0 ∧ (v = .bool r0) ∧ Keep [] w w')
def V_L11_ParseDeep (n : Int) (last : Bool) (K : Bool → Prop) : Prop :=
  ∀ (m : List Nat) (w : World), MOk m w →
    Calls Try.prog 4 #[.int .u8 n, .bool last] w (Ret fun v w' => ∃ (r0 : Bool), K r0 ∧ (v = .bool r0) ∧ Keep [] w w')
end Go.Proofs.Ytdbdkdmgfiiljaa
