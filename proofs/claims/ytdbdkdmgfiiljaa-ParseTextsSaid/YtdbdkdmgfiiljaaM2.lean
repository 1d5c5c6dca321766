/- A part of the proof: conditions of the code, contracts, the plain law. -/
import Derived.Test.YtdbdkdmgfiiljaaM1
import Derived.Test.YtdbdkdmgfiiljaaRows
import Derived.Test.YtdbdkdmgfiiljaaVcI
import Derived.Test.YtdbdkdmgfiiljaaLv
namespace Go.Proofs.Ytdbdkdmgfiiljaa
open Go.Vc
def R10_Same_wp (x0 : Option Addr) (x1 : Nat) (_x2 : Nat) (x3 : Option Addr) (x4 : Nat) (_x5 : Nat) (K : Value → World → Prop) (w : World) : Prop :=
 cond ((x1 : Int) != (x4 : Int))
 (K (.bool false) w)
 (∃ (I : Int → World → Prop) (x6 : Int → World → Nat), I 0 w ∧
 ∀ (_x7 : Nat → Value) (x8 : Int) (w1 : World), I x8 w1 →
 cond (decide (x8 < (x1 : Int)))
 (∀ w2, w2 = w1.drew →
 ((0 : Int) ≤ x8 ∧ x8 < (x1 : Int)) ∧
 ptrOr x0 (fun x9 =>
 ∃ x10 x11 x12 x13 x14, CellsAt w2 (x9.add (x8.toNat * 5)) [.int .i64 x10, .string (mkS x11), .int .i64 x12, .int .i64 x13, .int .i64 x14] ∧
 ((0 : Int) ≤ x8 ∧ x8 < (x4 : Int)) ∧
 ptrOr x3 (fun x15 =>
 ∃ x16 x17 x18 x19 x20, CellsAt w2 (x15.add (x8.toNat * 5)) [.int .i64 x16, .string (mkS x17), .int .i64 x18, .int .i64 x19, .int .i64 x20] ∧
 cond (!((x10 == x16) && ((x11 == x17) && ((x12 == x18) && ((x13 == x19) && ((x14 == x20) && true))))))
 (K (.bool false) w2)
 (I (IntKind.i64.wrap (x8 + 1)) w2 ∧ x6 (IntKind.i64.wrap (x8 + 1)) w2 < x6 x8 w1))))
 (K (.bool true) w1))
theorem R10_Same_ok (x0 : Option Addr) (x1 : Nat) (x2 : Nat) (x3 : Option Addr) (x4 : Nat) (x5 : Nat) (K : Value → World → Prop) (w : World) (h : R10_Same_wp x0 x1 x2 x3 x4 x5 K w) : Calls Try.prog 14 #[.slice x0 x1 x2, .slice x3 x4 x5] w (Ret K) :=
 calls_of { loops := [(58, [(5, .int .i64)])] } Try.func14 (by kernel_rfl) h
def token_All_wp (x0 : List UInt8) (K : Value → World → Prop) (w : World) : Prop :=
 cond (decide ((x0.length : Int) > 65536))
 (K (.tuple #[.slice none 0 0, .int .i64 0, .int .i64 5]) w)
 (∃ (I : Option Addr → Nat → Nat → Int → World → Prop) (x1 : Option Addr → Nat → Nat → Int → World → Nat), I none 0 0 0 w ∧
 ∀ (_x2 : Nat → Value) (x3 : Option Addr) (x4 : Nat) (x5 : Nat) (x6 : Int) (w1 : World), I x3 x4 x5 x6 w1 →
 Calls Try.prog 18 #[.string (mkS x0), .int .i64 x6] w1 (Ret fun x7 w2 =>
 ∃ x8 x9 x10 x11 x12 x13, x7 = .tuple #[.agg #[.int .i64 x8, .string (mkS x9), .int .i64 x10, .int .i64 x11], .int .i64 x12, .int .i64 x13] ∧
 ∀ x14 w3, x14 = w2.heap.size → w3 = w2.alloc (.cells #[.int .i64 0, .string (mkS []), .int .i64 0, .int .i64 0] 44) →
 Writable w3 ⟨x14, 0, none⟩ 4 ∧ ∀ w4, w4 = setCells w3 ⟨x14, 0, none⟩ [.int .i64 x8, .string (mkS x9), .int .i64 x10, .int .i64 x11] →
 cond (x13 != 0)
 (K (.tuple #[.slice none 0 0, .int .i64 x12, .int .i64 x13]) w4)
 (∃ x15 x16 x17 x18, CellsAt w4 ⟨x14, 0, none⟩ [.int .i64 x15, .string (mkS x16), .int .i64 x17, .int .i64 x18] ∧
 ∀ x19 w5, x19 = w4.heap.size → w5 = w4.alloc (.cells #[.int .i64 x15, .string (mkS x16), .int .i64 x17, .int .i64 x18] 44) →
 SemOk Try.prog (Builtin.append_ #[33, 33] 33 #[.slice x3 x4 x5, .slice (some ⟨x19, 0, none⟩) 1 1]) (fun x20 w6 =>
 ∃ x21 x22 x23, x20 = .slice x21 x22 x23 ∧
 ∃ x24, w6.cell? ⟨x14, 0, none⟩ = some (.int .i64 x24) ∧
 cond (x24 == 0)
 (∀ w7, w7 = w6.drew →
 ∃ x25, w7.cell? ⟨x14, 3, none⟩ = some (.int .i64 x25) ∧
 K (.tuple #[.slice x21 x22 x23, .int .i64 x25, .int .i64 0]) w7)
 (I x21 x22 x23 x12 w6 ∧ x1 x21 x22 x23 x12 w6 < x1 x3 x4 x5 x6 w1)) w5)))
theorem token_All_ok (x0 : List UInt8) (K : Value → World → Prop) (w : World) (h : token_All_wp x0 K w) : Calls Try.prog 12 #[.string (mkS x0)] w (Ret K) :=
 calls_of { loops := [(62, [(5, .slice), (6, .int .i64)])] } Try.func12 (by kernel_rfl) h
def R08_All_wp (x0 : List UInt8) (K : Value → World → Prop) (w : World) : Prop :=
 ∀ x1 w1, x1 = w.heap.size → w1 = w.alloc (.cells #[.slice none 0 0, .int .i64 0, .int .i64 0] 35) →
 cond (decide ((x0.length : Int) > 65536))
 (Writable w1 ⟨x1, 0, none⟩ 3 ∧ ∀ w2, w2 = setCells w1 ⟨x1, 0, none⟩ [.slice none 0 0, .int .i64 0, .int .i64 5] →
 ∃ x2 x3 x4 x5 x6, CellsAt w2 ⟨x1, 0, none⟩ [.slice x2 x3 x4, .int .i64 x5, .int .i64 x6] ∧
 K (.agg #[.slice x2 x3 x4, .int .i64 x5, .int .i64 x6]) w2)
 (∀ x7 w3, x7 = w1.heap.size → w3 = w1.alloc (.cells #[.slice none 0 0, .int .i64 0, .int .i64 0] 35) →
 ∃ (I : Int → World → Prop) (x8 : Int → World → Nat), I 0 w3 ∧
 ∀ (_x9 : Nat → Value) (x10 : Int) (w4 : World), I x10 w4 →
 Calls Try.prog 16 #[.string (mkS x0), .int .i64 x10] w4 (Ret fun x11 w5 =>
 ∃ x12 x13 x14 x15 x16 x17, x11 = .agg #[.int .i64 x12, .string (mkS x13), .int .i64 x14, .int .i64 x15, .int .i64 x16, .int .i64 x17] ∧
 ∀ x18 w6, x18 = w5.heap.size → w6 = w5.alloc (.cells #[.int .i64 0, .string (mkS []), .int .i64 0, .int .i64 0, .int .i64 0, .int .i64 0] 48) →
 Writable w6 ⟨x18, 0, none⟩ 6 ∧ ∀ w7, w7 = setCells w6 ⟨x18, 0, none⟩ [.int .i64 x12, .string (mkS x13), .int .i64 x14, .int .i64 x15, .int .i64 x16, .int .i64 x17] →
 ∃ x19, w7.cell? ⟨x18, 5, none⟩ = some (.int .i64 x19) ∧
 cond (x19 != 0)
 (∃ x20, w7.cell? ⟨x18, 4, none⟩ = some (.int .i64 x20) ∧
 ∃ x21, w7.cell? ⟨x18, 5, none⟩ = some (.int .i64 x21) ∧
 Writable w7 ⟨x1, 0, none⟩ 3 ∧ ∀ w8, w8 = setCells w7 ⟨x1, 0, none⟩ [.slice none 0 0, .int .i64 x20, .int .i64 x21] →
 ∃ x22 x23 x24 x25 x26, CellsAt w8 ⟨x1, 0, none⟩ [.slice x22 x23 x24, .int .i64 x25, .int .i64 x26] ∧
 K (.agg #[.slice x22 x23 x24, .int .i64 x25, .int .i64 x26]) w8)
 (∃ x27 x28 x29, w7.cell? ⟨x7, 0, none⟩ = some (.slice x27 x28 x29) ∧
 ∃ x30 x31 x32 x33, CellsAt w7 ⟨x18, 0, none⟩ [.int .i64 x30, .string (mkS x31), .int .i64 x32, .int .i64 x33] ∧
 ∀ x34 w9, x34 = w7.heap.size → w9 = w7.alloc (.cells #[.int .i64 x30, .string (mkS x31), .int .i64 x32, .int .i64 x33] 44) →
 SemOk Try.prog (Builtin.append_ #[33, 33] 33 #[.slice x27 x28 x29, .slice (some ⟨x34, 0, none⟩) 1 1]) (fun x35 w10 =>
 ∃ x36 x37 x38, x35 = .slice x36 x37 x38 ∧
 Writable w10 ⟨x7, 0, none⟩ 1 ∧ ∀ w11, w11 = w10.setCell ⟨x7, 0, none⟩ (.slice x36 x37 x38) →
 ∃ x39, w11.cell? ⟨x18, 3, none⟩ = some (.int .i64 x39) ∧
 Writable w11 ⟨x7, 1, none⟩ 1 ∧ ∀ w12, w12 = w11.setCell ⟨x7, 1, none⟩ (.int .i64 x39) →
 ∃ x40, w12.cell? ⟨x18, 0, none⟩ = some (.int .i64 x40) ∧
 cond (x40 == 0)
 (∃ x41 x42 x43 x44 x45, CellsAt w12 ⟨x7, 0, none⟩ [.slice x41 x42 x43, .int .i64 x44, .int .i64 x45] ∧
 Writable w12 ⟨x1, 0, none⟩ 3 ∧ ∀ w13, w13 = setCells w12 ⟨x1, 0, none⟩ [.slice x41 x42 x43, .int .i64 x44, .int .i64 x45] →
 ∃ x46 x47 x48 x49 x50, CellsAt w13 ⟨x1, 0, none⟩ [.slice x46 x47 x48, .int .i64 x49, .int .i64 x50] ∧
 K (.agg #[.slice x46 x47 x48, .int .i64 x49, .int .i64 x50]) w13)
 (∃ x51, w12.cell? ⟨x18, 4, none⟩ = some (.int .i64 x51) ∧
 I x51 w12 ∧ x8 x51 w12 < x8 x10 w4)) w9)))
theorem R08_All_ok (x0 : List UInt8) (K : Value → World → Prop) (w : World) (h : R08_All_wp x0 K w) : Calls Try.prog 10 #[.string (mkS x0)] w (Ret K) :=
 calls_of { loops := [(62, [(4, .int .i64)])] } Try.func10 (by kernel_rfl) h
def R10_level_wp (x0 : Option Addr) (x1 : Nat) (x2 : Nat) (x3 : Int) (x4 : Int) (x5 : Int) (K : Value → World → Prop) (w : World) : Prop :=
 ∀ x6 w1, x6 = w.heap.size → w1 = w.alloc (.cells #[.slice none 0 0, .int .i64 0, .int .i64 0] 29) →
 cond (x4 == 6)
 (Calls Try.prog 101 #[.slice x0 x1 x2, .int .i64 x3, .int .i64 x5] w1 (Ret fun x7 w2 =>
 ∃ x8 x9 x10 x11 x12, x7 = .agg #[.slice x8 x9 x10, .int .i64 x11, .int .i64 x12] ∧
 Writable w2 ⟨x6, 0, none⟩ 3 ∧ ∀ w3, w3 = setCells w2 ⟨x6, 0, none⟩ [.slice x8 x9 x10, .int .i64 x11, .int .i64 x12] →
 ∃ x13 x14 x15 x16 x17, CellsAt w3 ⟨x6, 0, none⟩ [.slice x13 x14 x15, .int .i64 x16, .int .i64 x17] ∧
 K (.agg #[.slice x13 x14 x15, .int .i64 x16, .int .i64 x17]) w3))
 (Calls Try.prog 97 #[.slice x0 x1 x2, .int .i64 x3, .int .i64 (IntKind.i64.wrap (x4 + 1)), .int .i64 x5] w1 (Ret fun x18 w4 =>
 ∃ x19 x20 x21 x22 x23, x18 = .agg #[.slice x19 x20 x21, .int .i64 x22, .int .i64 x23] ∧
 ∀ x24 w5, x24 = w4.heap.size → w5 = w4.alloc (.cells #[.slice none 0 0, .int .i64 0, .int .i64 0] 29) →
 Writable w5 ⟨x24, 0, none⟩ 3 ∧ ∀ w6, w6 = setCells w5 ⟨x24, 0, none⟩ [.slice x19 x20 x21, .int .i64 x22, .int .i64 x23] →
 ∃ (I : World → Prop) (x25 : World → Nat), I w6 ∧
 ∀ (_x26 : Nat → Value) (w7 : World), I w7 →
 ∃ x27, w7.cell? ⟨x24, 2, none⟩ = some (.int .i64 x27) ∧
 cond (x27 == 0)
 (∃ x28, w7.cell? ⟨x24, 1, none⟩ = some (.int .i64 x28) ∧
 Calls Try.prog 22 #[.slice x0 x1 x2, .int .i64 x28] w7 (Ret fun x29 w8 =>
 ∃ x30 x31 x32 x33, x29 = .agg #[.int .i64 x30, .string (mkS x31), .int .i64 x32, .int .i64 x33] ∧
 ∀ x34 w9, x34 = w8.heap.size → w9 = w8.alloc (.cells #[.int .i64 0, .string (mkS []), .int .i64 0, .int .i64 0] 44) →
 Writable w9 ⟨x34, 0, none⟩ 4 ∧ ∀ w10, w10 = setCells w9 ⟨x34, 0, none⟩ [.int .i64 x30, .string (mkS x31), .int .i64 x32, .int .i64 x33] →
 ∃ x35, w10.cell? ⟨x34, 1, none⟩ = some (.string (mkS x35)) ∧
 Calls Try.prog 102 #[.string (mkS x35)] w10 (Ret fun x36 w11 =>
 ∃ x37, x36 = .int .i64 x37 ∧
 ∃ (J : Bool → World → Prop),
 (∃ x38, w11.cell? ⟨x34, 0, none⟩ = some (.int .i64 x38) ∧
 cond (x38 != 4)
 (J true w11)
 (cond (x37 == 0)
 (J true w11)
 (Calls Try.prog 103 #[.int .i64 x37] w11 (Ret fun x39 w12 =>
 ∃ x40, x39 = .int .i64 x40 ∧
 J (x40 != x4) w12)))) ∧
 ∀ (_x41 : Nat → Value) (x42 : Bool) (w13 : World), J x42 w13 →
 cond (x42)
 (∃ x43 x44 x45 x46 x47, CellsAt w13 ⟨x24, 0, none⟩ [.slice x43 x44 x45, .int .i64 x46, .int .i64 x47] ∧
 Writable w13 ⟨x6, 0, none⟩ 3 ∧ ∀ w14, w14 = setCells w13 ⟨x6, 0, none⟩ [.slice x43 x44 x45, .int .i64 x46, .int .i64 x47] →
 ∃ x48 x49 x50 x51 x52, CellsAt w14 ⟨x6, 0, none⟩ [.slice x48 x49 x50, .int .i64 x51, .int .i64 x52] ∧
 K (.agg #[.slice x48 x49 x50, .int .i64 x51, .int .i64 x52]) w14)
 (∃ x53, w13.cell? ⟨x24, 1, none⟩ = some (.int .i64 x53) ∧
 Calls Try.prog 97 #[.slice x0 x1 x2, .int .i64 (IntKind.i64.wrap (x53 + 1)), .int .i64 (IntKind.i64.wrap (x4 + 1)), .int .i64 x5] w13 (Ret fun x54 w15 =>
 ∃ x55 x56 x57 x58 x59, x54 = .agg #[.slice x55 x56 x57, .int .i64 x58, .int .i64 x59] ∧
 ∀ x60 w16, x60 = w15.heap.size → w16 = w15.alloc (.cells #[.slice none 0 0, .int .i64 0, .int .i64 0] 29) →
 Writable w16 ⟨x60, 0, none⟩ 3 ∧ ∀ w17, w17 = setCells w16 ⟨x60, 0, none⟩ [.slice x55 x56 x57, .int .i64 x58, .int .i64 x59] →
 ∃ x61, w17.cell? ⟨x60, 2, none⟩ = some (.int .i64 x61) ∧
 cond (x61 != 0)
 (∃ x62 x63 x64 x65 x66, CellsAt w17 ⟨x60, 0, none⟩ [.slice x62 x63 x64, .int .i64 x65, .int .i64 x66] ∧
 Writable w17 ⟨x6, 0, none⟩ 3 ∧ ∀ w18, w18 = setCells w17 ⟨x6, 0, none⟩ [.slice x62 x63 x64, .int .i64 x65, .int .i64 x66] →
 ∃ x67 x68 x69 x70 x71, CellsAt w18 ⟨x6, 0, none⟩ [.slice x67 x68 x69, .int .i64 x70, .int .i64 x71] ∧
 K (.agg #[.slice x67 x68 x69, .int .i64 x70, .int .i64 x71]) w18)
 (∃ x72, w17.cell? ⟨x34, 3, none⟩ = some (.int .i64 x72) ∧
 ∀ x73 w19, x73 = w17.heap.size → w19 = w17.alloc (.cells #[.int .i64 x37, .string (mkS []), .int .i64 0, .int .i64 2, .int .i64 x72] 39) →
 ∃ x74 x75 x76, w19.cell? ⟨x24, 0, none⟩ = some (.slice x74 x75 x76) ∧
 SemOk Try.prog (Builtin.append_ #[23, 23] 23 #[.slice (some ⟨x73, 0, none⟩) 1 1, .slice x74 x75 x76]) (fun x77 w20 =>
 ∃ x78 x79 x80, x77 = .slice x78 x79 x80 ∧
 ∃ (J1 : World → Prop),
 (∀ w21, w21 = w20.drew →
 ∃ (S : World → Prop), S w21 ∧
 ∃ x81 x82 x83, (∀ u, S u → u.cell? ⟨x60, 0, none⟩ = some (.slice x81 x82 x83)) ∧
 ∃ x84, (∀ u, S u → u.cell? ⟨x60, 1, none⟩ = some (.int .i64 x84)) ∧
 SemOk Try.prog (Builtin.append_ #[23, 23] 23 #[.slice x78 x79 x80, .slice x81 x82 x83]) (fun x85 w22 =>
 ∃ x86 x87 x88, x85 = .slice x86 x87 x88 ∧
 S w22 ∧
 Writable w22 ⟨x24, 0, none⟩ 3 ∧ ∀ w23, w23 = setCells w22 ⟨x24, 0, none⟩ [.slice x86 x87 x88, .int .i64 x84, .int .i64 0] →
 J1 w23) w21) ∧
 ∀ (_x89 : Nat → Value) (w24 : World), J1 w24 →
 cond (x4 == 3)
 (∃ x90 x91 x92 x93 x94, CellsAt w24 ⟨x24, 0, none⟩ [.slice x90 x91 x92, .int .i64 x93, .int .i64 x94] ∧
 Writable w24 ⟨x6, 0, none⟩ 3 ∧ ∀ w25, w25 = setCells w24 ⟨x6, 0, none⟩ [.slice x90 x91 x92, .int .i64 x93, .int .i64 x94] →
 ∃ x95 x96 x97 x98 x99, CellsAt w25 ⟨x6, 0, none⟩ [.slice x95 x96 x97, .int .i64 x98, .int .i64 x99] ∧
 K (.agg #[.slice x95 x96 x97, .int .i64 x98, .int .i64 x99]) w25)
 (I w24 ∧ x25 w24 < x25 w7)) w19))))))
 (∃ x100 x101 x102 x103 x104, CellsAt w7 ⟨x24, 0, none⟩ [.slice x100 x101 x102, .int .i64 x103, .int .i64 x104] ∧
 Writable w7 ⟨x6, 0, none⟩ 3 ∧ ∀ w26, w26 = setCells w7 ⟨x6, 0, none⟩ [.slice x100 x101 x102, .int .i64 x103, .int .i64 x104] →
 ∃ x105 x106 x107 x108 x109, CellsAt w26 ⟨x6, 0, none⟩ [.slice x105 x106 x107, .int .i64 x108, .int .i64 x109] ∧
 K (.agg #[.slice x105 x106 x107, .int .i64 x108, .int .i64 x109]) w26)))
theorem R10_level_ok (x0 : Option Addr) (x1 : Nat) (x2 : Nat) (x3 : Int) (x4 : Int) (x5 : Int) (K : Value → World → Prop) (w : World) (h : R10_level_wp x0 x1 x2 x3 x4 x5 K w) : Calls Try.prog 97 #[.slice x0 x1 x2, .int .i64 x3, .int .i64 x4, .int .i64 x5] w (Ret K) :=
 calls_of { loops := [(60, [])], cuts := [(3862, [(48, .bool)]), (61823, [])] } Try.func97 (by kernel_rfl) h
def R10_one_wp (x0 : Option Addr) (x1 : Nat) (x2 : Nat) (x3 : Int) (x4 : Int) (K : Value → World → Prop) (w : World) : Prop :=
 ∀ x5 w1, x5 = w.heap.size → w1 = w.alloc (.cells #[.slice none 0 0, .int .i64 0, .int .i64 0] 29) →
 Calls Try.prog 22 #[.slice x0 x1 x2, .int .i64 x3] w1 (Ret fun x6 w2 =>
 ∃ x7 x8 x9 x10, x6 = .agg #[.int .i64 x7, .string (mkS x8), .int .i64 x9, .int .i64 x10] ∧
 ∀ x11 w3, x11 = w2.heap.size → w3 = w2.alloc (.cells #[.int .i64 0, .string (mkS []), .int .i64 0, .int .i64 0] 44) →
 Writable w3 ⟨x11, 0, none⟩ 4 ∧ ∀ w4, w4 = setCells w3 ⟨x11, 0, none⟩ [.int .i64 x7, .string (mkS x8), .int .i64 x9, .int .i64 x10] →
 ∃ x12, w4.cell? ⟨x11, 0, none⟩ = some (.int .i64 x12) ∧
 cond (x12 == 2)
 (∃ x13, w4.cell? ⟨x11, 2, none⟩ = some (.int .i64 x13) ∧
 ∃ x14, w4.cell? ⟨x11, 3, none⟩ = some (.int .i64 x14) ∧
 ∀ x15 w5, x15 = w4.heap.size → w5 = w4.alloc (.cells #[.int .i64 1, .string (mkS []), .int .i64 x13, .int .i64 0, .int .i64 x14] 39) →
 Writable w5 ⟨x5, 0, none⟩ 3 ∧ ∀ w6, w6 = setCells w5 ⟨x5, 0, none⟩ [.slice (some ⟨x15, 0, none⟩) 1 1, .int .i64 (IntKind.i64.wrap (x3 + 1)), .int .i64 0] →
 ∃ x16 x17 x18 x19 x20, CellsAt w6 ⟨x5, 0, none⟩ [.slice x16 x17 x18, .int .i64 x19, .int .i64 x20] ∧
 K (.agg #[.slice x16 x17 x18, .int .i64 x19, .int .i64 x20]) w6)
 (∃ x21, w4.cell? ⟨x11, 0, none⟩ = some (.int .i64 x21) ∧
 cond (x21 == 1)
 (∃ x22, w4.cell? ⟨x11, 1, none⟩ = some (.string (mkS x22)) ∧
 ∃ x23, w4.cell? ⟨x11, 3, none⟩ = some (.int .i64 x23) ∧
 ∀ x24 w7, x24 = w4.heap.size → w7 = w4.alloc (.cells #[.int .i64 2, .string (mkS x22), .int .i64 0, .int .i64 0, .int .i64 x23] 39) →
 Writable w7 ⟨x5, 0, none⟩ 3 ∧ ∀ w8, w8 = setCells w7 ⟨x5, 0, none⟩ [.slice (some ⟨x24, 0, none⟩) 1 1, .int .i64 (IntKind.i64.wrap (x3 + 1)), .int .i64 0] →
 ∃ x25 x26 x27 x28 x29, CellsAt w8 ⟨x5, 0, none⟩ [.slice x25 x26 x27, .int .i64 x28, .int .i64 x29] ∧
 K (.agg #[.slice x25 x26 x27, .int .i64 x28, .int .i64 x29]) w8)
 (∃ (J : Bool → World → Prop),
 (∃ x30, w4.cell? ⟨x11, 0, none⟩ = some (.int .i64 x30) ∧
 cond (x30 != 4)
 (J true w4)
 (∃ x31, w4.cell? ⟨x11, 1, none⟩ = some (.string (mkS x31)) ∧
 cond (!(x31 == [45]))
 (∃ x32, w4.cell? ⟨x11, 1, none⟩ = some (.string (mkS x32)) ∧
 cond (!(x32 == [33]))
 (∃ x33, w4.cell? ⟨x11, 1, none⟩ = some (.string (mkS x33)) ∧
 J (!(x33 == [40])) w4)
 (J false w4))
 (J false w4))) ∧
 ∀ (_x34 : Nat → Value) (x35 : Bool) (w9 : World), J x35 w9 →
 cond (x35)
 (Writable w9 ⟨x5, 0, none⟩ 3 ∧ ∀ w10, w10 = setCells w9 ⟨x5, 0, none⟩ [.slice none 0 0, .int .i64 x3, .int .i64 11] →
 ∃ x36 x37 x38 x39 x40, CellsAt w10 ⟨x5, 0, none⟩ [.slice x36 x37 x38, .int .i64 x39, .int .i64 x40] ∧
 K (.agg #[.slice x36 x37 x38, .int .i64 x39, .int .i64 x40]) w10)
 (cond (x4 == 24)
 (Writable w9 ⟨x5, 0, none⟩ 3 ∧ ∀ w11, w11 = setCells w9 ⟨x5, 0, none⟩ [.slice none 0 0, .int .i64 x3, .int .i64 5] →
 ∃ x41 x42 x43 x44 x45, CellsAt w11 ⟨x5, 0, none⟩ [.slice x41 x42 x43, .int .i64 x44, .int .i64 x45] ∧
 K (.agg #[.slice x41 x42 x43, .int .i64 x44, .int .i64 x45]) w11)
 (∃ x46, w9.cell? ⟨x11, 1, none⟩ = some (.string (mkS x46)) ∧
 cond (x46 == [40])
 (Calls Try.prog 97 #[.slice x0 x1 x2, .int .i64 (IntKind.i64.wrap (x3 + 1)), .int .i64 1, .int .i64 (IntKind.i64.wrap (x4 + 1))] w9 (Ret fun x47 w12 =>
 ∃ x48 x49 x50 x51 x52, x47 = .agg #[.slice x48 x49 x50, .int .i64 x51, .int .i64 x52] ∧
 ∀ x53 w13, x53 = w12.heap.size → w13 = w12.alloc (.cells #[.slice none 0 0, .int .i64 0, .int .i64 0] 29) →
 Writable w13 ⟨x53, 0, none⟩ 3 ∧ ∀ w14, w14 = setCells w13 ⟨x53, 0, none⟩ [.slice x48 x49 x50, .int .i64 x51, .int .i64 x52] →
 ∃ x54, w14.cell? ⟨x53, 2, none⟩ = some (.int .i64 x54) ∧
 cond (x54 != 0)
 (∃ x55 x56 x57 x58 x59, CellsAt w14 ⟨x53, 0, none⟩ [.slice x55 x56 x57, .int .i64 x58, .int .i64 x59] ∧
 Writable w14 ⟨x5, 0, none⟩ 3 ∧ ∀ w15, w15 = setCells w14 ⟨x5, 0, none⟩ [.slice x55 x56 x57, .int .i64 x58, .int .i64 x59] →
 ∃ x60 x61 x62 x63 x64, CellsAt w15 ⟨x5, 0, none⟩ [.slice x60 x61 x62, .int .i64 x63, .int .i64 x64] ∧
 K (.agg #[.slice x60 x61 x62, .int .i64 x63, .int .i64 x64]) w15)
 (∃ x65, w14.cell? ⟨x53, 1, none⟩ = some (.int .i64 x65) ∧
 Calls Try.prog 22 #[.slice x0 x1 x2, .int .i64 x65] w14 (Ret fun x66 w16 =>
 ∃ x67 x68 x69 x70, x66 = .agg #[.int .i64 x67, .string (mkS x68), .int .i64 x69, .int .i64 x70] ∧
 ∀ x71 w17, x71 = w16.heap.size → w17 = w16.alloc (.cells #[.int .i64 0, .string (mkS []), .int .i64 0, .int .i64 0] 44) →
 Writable w17 ⟨x71, 0, none⟩ 4 ∧ ∀ w18, w18 = setCells w17 ⟨x71, 0, none⟩ [.int .i64 x67, .string (mkS x68), .int .i64 x69, .int .i64 x70] →
 ∃ (J1 : Bool → World → Prop),
 (∃ x72, w18.cell? ⟨x71, 0, none⟩ = some (.int .i64 x72) ∧
 cond (x72 != 4)
 (J1 true w18)
 (∃ x73, w18.cell? ⟨x71, 1, none⟩ = some (.string (mkS x73)) ∧
 J1 (!(x73 == [41])) w18)) ∧
 ∀ (_x74 : Nat → Value) (x75 : Bool) (w19 : World), J1 x75 w19 →
 cond (x75)
 (∃ x76, w19.cell? ⟨x53, 1, none⟩ = some (.int .i64 x76) ∧
 Writable w19 ⟨x5, 0, none⟩ 3 ∧ ∀ w20, w20 = setCells w19 ⟨x5, 0, none⟩ [.slice none 0 0, .int .i64 x76, .int .i64 11] →
 ∃ x77 x78 x79 x80 x81, CellsAt w20 ⟨x5, 0, none⟩ [.slice x77 x78 x79, .int .i64 x80, .int .i64 x81] ∧
 K (.agg #[.slice x77 x78 x79, .int .i64 x80, .int .i64 x81]) w20)
 (∃ x82 x83 x84, w19.cell? ⟨x53, 0, none⟩ = some (.slice x82 x83 x84) ∧
 ∃ x85, w19.cell? ⟨x53, 1, none⟩ = some (.int .i64 x85) ∧
 Writable w19 ⟨x5, 0, none⟩ 3 ∧ ∀ w21, w21 = setCells w19 ⟨x5, 0, none⟩ [.slice x82 x83 x84, .int .i64 (IntKind.i64.wrap (x85 + 1)), .int .i64 0] →
 ∃ x86 x87 x88 x89 x90, CellsAt w21 ⟨x5, 0, none⟩ [.slice x86 x87 x88, .int .i64 x89, .int .i64 x90] ∧
 K (.agg #[.slice x86 x87 x88, .int .i64 x89, .int .i64 x90]) w21)))))
 (Calls Try.prog 101 #[.slice x0 x1 x2, .int .i64 (IntKind.i64.wrap (x3 + 1)), .int .i64 (IntKind.i64.wrap (x4 + 1))] w9 (Ret fun x91 w22 =>
 ∃ x92 x93 x94 x95 x96, x91 = .agg #[.slice x92 x93 x94, .int .i64 x95, .int .i64 x96] ∧
 ∀ x97 w23, x97 = w22.heap.size → w23 = w22.alloc (.cells #[.slice none 0 0, .int .i64 0, .int .i64 0] 29) →
 Writable w23 ⟨x97, 0, none⟩ 3 ∧ ∀ w24, w24 = setCells w23 ⟨x97, 0, none⟩ [.slice x92 x93 x94, .int .i64 x95, .int .i64 x96] →
 ∃ x98, w24.cell? ⟨x97, 2, none⟩ = some (.int .i64 x98) ∧
 cond (x98 != 0)
 (∃ x99 x100 x101 x102 x103, CellsAt w24 ⟨x97, 0, none⟩ [.slice x99 x100 x101, .int .i64 x102, .int .i64 x103] ∧
 Writable w24 ⟨x5, 0, none⟩ 3 ∧ ∀ w25, w25 = setCells w24 ⟨x5, 0, none⟩ [.slice x99 x100 x101, .int .i64 x102, .int .i64 x103] →
 ∃ x104 x105 x106 x107 x108, CellsAt w25 ⟨x5, 0, none⟩ [.slice x104 x105 x106, .int .i64 x107, .int .i64 x108] ∧
 K (.agg #[.slice x104 x105 x106, .int .i64 x107, .int .i64 x108]) w25)
 (∃ (J2 : Int → World → Prop),
 (∃ x109, w24.cell? ⟨x11, 1, none⟩ = some (.string (mkS x109)) ∧
 cond (x109 == [33])
 (J2 4 w24)
 (J2 3 w24)) ∧
 ∀ (_x110 : Nat → Value) (x111 : Int) (w26 : World), J2 x111 w26 →
 ∀ w27, w27 = w26.drew →
 ∃ (S : World → Prop), S w27 ∧
 ∃ x112, (∀ u, S u → u.cell? ⟨x11, 3, none⟩ = some (.int .i64 x112)) ∧
 ∃ x113 x114 x115, (∀ u, S u → u.cell? ⟨x97, 0, none⟩ = some (.slice x113 x114 x115)) ∧
 ∃ x116, (∀ u, S u → u.cell? ⟨x97, 1, none⟩ = some (.int .i64 x116)) ∧
 ∀ x117 w28, x117 = w27.heap.size → w28 = w27.alloc (.cells #[.int .i64 x111, .string (mkS []), .int .i64 0, .int .i64 1, .int .i64 x112] 39) →
 S w28 ∧
 SemOk Try.prog (Builtin.append_ #[23, 23] 23 #[.slice (some ⟨x117, 0, none⟩) 1 1, .slice x113 x114 x115]) (fun x118 w29 =>
 ∃ x119 x120 x121, x118 = .slice x119 x120 x121 ∧
 S w29 ∧
 Writable w29 ⟨x5, 0, none⟩ 3 ∧ ∀ w30, w30 = setCells w29 ⟨x5, 0, none⟩ [.slice x119 x120 x121, .int .i64 x116, .int .i64 0] →
 ∃ x122 x123 x124 x125 x126, CellsAt w30 ⟨x5, 0, none⟩ [.slice x122 x123 x124, .int .i64 x125, .int .i64 x126] ∧
 K (.agg #[.slice x122 x123 x124, .int .i64 x125, .int .i64 x126]) w30) w28))))))))
theorem R10_one_ok (x0 : Option Addr) (x1 : Nat) (x2 : Nat) (x3 : Int) (x4 : Int) (K : Value → World → Prop) (w : World) (h : R10_one_wp x0 x1 x2 x3 x4 K w) : Calls Try.prog 101 #[.slice x0 x1 x2, .int .i64 x3, .int .i64 x4] w (Ret K) :=
 calls_of { cuts := [(62, [(56, .bool)]), (2047, [(11, .int .i64)]), (16301, [(87, .bool)])] } Try.func101 (by kernel_rfl) h
def R10_Parse_wp (x0 : Option Addr) (x1 : Nat) (x2 : Nat) (x3 : Int) (K : Value → World → Prop) (w : World) : Prop :=
 ∀ x4 w1, x4 = w.heap.size → w1 = w.alloc (.cells #[.slice none 0 0, .int .i64 0, .int .i64 0] 29) →
 cond (decide (x3 < 0))
 (Writable w1 ⟨x4, 0, none⟩ 3 ∧ ∀ w2, w2 = setCells w1 ⟨x4, 0, none⟩ [.slice none 0 0, .int .i64 0, .int .i64 1] →
 ∃ x5 x6 x7 x8 x9, CellsAt w2 ⟨x4, 0, none⟩ [.slice x5 x6 x7, .int .i64 x8, .int .i64 x9] ∧
 K (.agg #[.slice x5 x6 x7, .int .i64 x8, .int .i64 x9]) w2)
 (Calls Try.prog 97 #[.slice x0 x1 x2, .int .i64 x3, .int .i64 1, .int .i64 0] w1 (Ret fun x10 w3 =>
 ∃ x11 x12 x13 x14 x15, x10 = .agg #[.slice x11 x12 x13, .int .i64 x14, .int .i64 x15] ∧
 Writable w3 ⟨x4, 0, none⟩ 3 ∧ ∀ w4, w4 = setCells w3 ⟨x4, 0, none⟩ [.slice x11 x12 x13, .int .i64 x14, .int .i64 x15] →
 ∃ x16 x17 x18 x19 x20, CellsAt w4 ⟨x4, 0, none⟩ [.slice x16 x17 x18, .int .i64 x19, .int .i64 x20] ∧
 K (.agg #[.slice x16 x17 x18, .int .i64 x19, .int .i64 x20]) w4))
theorem R10_Parse_ok (x0 : Option Addr) (x1 : Nat) (x2 : Nat) (x3 : Int) (K : Value → World → Prop) (w : World) (h : R10_Parse_wp x0 x1 x2 x3 K w) : Calls Try.prog 92 #[.slice x0 x1 x2, .int .i64 x3] w (Ret K) :=
 calls_of {} Try.func92 (by kernel_rfl) h
end Go.Proofs.Ytdbdkdmgfiiljaa
namespace Go.Proofs.Ytdbdkdmgfiiljaa
open Go.Vc
def L11_same_wp (x0 : Option Addr) (x1 : Nat) (x2 : Nat) (x3 : Int) (x4 : Int) (x5 : Option Addr) (x6 : Nat) (x7 : Nat) (x8 : Int) (x9 : Int) (K : Value → World → Prop) (w : World) : Prop :=
 ∀ x10 w1, x10 = w.heap.size → w1 = w.alloc (.cells #[.slice x5 x6 x7, .int .i64 x8, .int .i64 x9] 29) →
 ∃ x11 x12 x13, w1.cell? ⟨x10, 0, none⟩ = some (.slice x11 x12 x13) ∧
 Calls Try.prog 14 #[.slice x0 x1 x2, .slice x11 x12 x13] w1 (Ret fun x14 w2 =>
 ∃ x15, x14 = .bool x15 ∧
 cond (x15)
 (∃ x16, w2.cell? ⟨x10, 1, none⟩ = some (.int .i64 x16) ∧
 cond (x3 == x16)
 (∃ x17, w2.cell? ⟨x10, 2, none⟩ = some (.int .i64 x17) ∧
 K (.bool (x4 == x17)) w2)
 (K (.bool false) w2))
 (K (.bool false) w2))
theorem L11_same_ok (x0 : Option Addr) (x1 : Nat) (x2 : Nat) (x3 : Int) (x4 : Int) (x5 : Option Addr) (x6 : Nat) (x7 : Nat) (x8 : Int) (x9 : Int) (K : Value → World → Prop) (w : World) (h : L11_same_wp x0 x1 x2 x3 x4 x5 x6 x7 x8 x9 K w) : Calls Try.prog 8 #[.slice x0 x1 x2, .int .i64 x3, .int .i64 x4, .agg #[.slice x5 x6 x7, .int .i64 x8, .int .i64 x9]] w (Ret K) :=
 calls_of {} Try.func8 (by kernel_rfl) h
def L11_live_wp (K : Value → World → Prop) (w : World) : Prop :=
 Calls Try.prog 7 #[.string (mkS [109, 97, 105, 110, 32, 123, 32, 125])] w (Ret fun x0 w1 =>
 ∃ x1 x2 x3 x4 x5, x0 = .tuple #[.slice x1 x2 x3, .int .i64 x4, .int .i64 x5] ∧
 Calls Try.prog 7 #[.string (mkS [109, 97, 105, 110, 32, 123, 32, 99, 32, 33, 32, 59, 32, 125])] w1 (Ret fun x6 w2 =>
 ∃ x7 x8 x9 x10 x11, x6 = .tuple #[.slice x7 x8 x9, .int .i64 x10, .int .i64 x11] ∧
 cond ((x2 : Int) == 3)
 (((0 : Int) ≤ 1 ∧ 1 < (x2 : Int)) ∧
 ptrOr x1 (fun x12 =>
 ∃ x13, w2.cell? (x12.add (1 * 5)) = some (.int .i64 x13) ∧
 cond (x13 == 41)
 (cond (x4 == 0)
 (cond (x5 == 0)
 (cond (x10 == 11)
 (K (.bool (x11 == 11)) w2)
 (K (.bool false) w2))
 (K (.bool false) w2))
 (K (.bool false) w2))
 (K (.bool false) w2)))
 (K (.bool false) w2)))
theorem L11_live_ok (K : Value → World → Prop) (w : World) (h : L11_live_wp K w) : Calls Try.prog 6 #[] w (Ret K) :=
 calls_of {} Try.func6 (by kernel_rfl) h
def L11_ParseTexts_wp (x0 : List UInt8) (K : Value → World → Prop) (w : World) : Prop :=
 cond (decide ((x0.length : Int) > 1500))
 (Calls Try.prog 6 #[] w (Ret fun x1 w1 =>
 ∃ x2, x1 = .bool x2 ∧
 K (.bool x2) w1))
 (Calls Try.prog 7 #[.string (mkS x0)] w (Ret fun x3 w2 =>
 ∃ x4 x5 x6 x7 x8, x3 = .tuple #[.slice x4 x5 x6, .int .i64 x7, .int .i64 x8] ∧
 Calls Try.prog 9 #[.string (mkS x0)] w2 (Ret fun x9 w3 =>
 ∃ x10 x11 x12 x13 x14, x9 = .agg #[.slice x10 x11 x12, .int .i64 x13, .int .i64 x14] ∧
 Calls Try.prog 8 #[.slice x4 x5 x6, .int .i64 x7, .int .i64 x8, .agg #[.slice x10 x11 x12, .int .i64 x13, .int .i64 x14]] w3 (Ret fun x15 w4 =>
 ∃ x16, x15 = .bool x16 ∧
 cond (x16)
 (Calls Try.prog 6 #[] w4 (Ret fun x17 w5 =>
 ∃ x18, x17 = .bool x18 ∧
 K (.bool x18) w5))
 (K (.bool false) w4)))))
theorem L11_ParseTexts_ok (x0 : List UInt8) (K : Value → World → Prop) (w : World) (h : L11_ParseTexts_wp x0 K w) : Calls Try.prog 3 #[.string (mkS x0)] w (Ret K) :=
 calls_of {} Try.func3 (by kernel_rfl) h
end Go.Proofs.Ytdbdkdmgfiiljaa

namespace Go.Ty
open Go.Vc Go.Lv
structure GToken where
  kind : Int
  text : List UInt8
  n : Int
  at_ : Int
  deriving DecidableEq, Inhabited
def cGToken : Cod GToken := cMap (fun x => (x.kind, x.text, x.n, x.at_)) (cPair (cInt .i64) (cPair cStr (cPair (cInt .i64) (cInt .i64))))
theorem GToken_out {m : List Nat} {w : World} {x : GToken} {cs : List Value} (h : cGToken.rep m w x cs) : cs = [.int .i64 x.kind, .string (mkS x.text), .int .i64 x.n, .int .i64 x.at_] := by
  obtain ⟨_, _, rfl, rfl, ⟨_, _, rfl, rfl, ⟨_, _, rfl, rfl, rfl⟩⟩⟩ := h
  exact rfl
theorem GToken_in {m : List Nat} {w : World} (x : GToken)   : cGToken.rep m w x [.int .i64 x.kind, .string (mkS x.text), .int .i64 x.n, .int .i64 x.at_] := ⟨[.int .i64 x.kind], [.string (mkS x.text), .int .i64 x.n, .int .i64 x.at_], rfl, rfl, ⟨[.string (mkS x.text)], [.int .i64 x.n, .int .i64 x.at_], rfl, rfl, ⟨[.int .i64 x.n], [.int .i64 x.at_], rfl, rfl, rfl⟩⟩⟩
structure GNode where
  op : Int
  name : List UInt8
  n : Int
  kids : Int
  at_ : Int
  deriving DecidableEq, Inhabited
def cGNode : Cod GNode := cMap (fun x => (x.op, x.name, x.n, x.kids, x.at_)) (cPair (cInt .i64) (cPair cStr (cPair (cInt .i64) (cPair (cInt .i64) (cInt .i64)))))
theorem GNode_out {m : List Nat} {w : World} {x : GNode} {cs : List Value} (h : cGNode.rep m w x cs) : cs = [.int .i64 x.op, .string (mkS x.name), .int .i64 x.n, .int .i64 x.kids, .int .i64 x.at_] := by
  obtain ⟨_, _, rfl, rfl, ⟨_, _, rfl, rfl, ⟨_, _, rfl, rfl, ⟨_, _, rfl, rfl, rfl⟩⟩⟩⟩ := h
  exact rfl
theorem GNode_in {m : List Nat} {w : World} (x : GNode)   : cGNode.rep m w x [.int .i64 x.op, .string (mkS x.name), .int .i64 x.n, .int .i64 x.kids, .int .i64 x.at_] := ⟨[.int .i64 x.op], [.string (mkS x.name), .int .i64 x.n, .int .i64 x.kids, .int .i64 x.at_], rfl, rfl, ⟨[.string (mkS x.name)], [.int .i64 x.n, .int .i64 x.kids, .int .i64 x.at_], rfl, rfl, ⟨[.int .i64 x.n], [.int .i64 x.kids, .int .i64 x.at_], rfl, rfl, ⟨[.int .i64 x.kids], [.int .i64 x.at_], rfl, rfl, rfl⟩⟩⟩⟩
structure Gparse_reader where
  toks : List GToken
  at_ : Int
  deep : Int
  l : List GNode
  e_ : Int
  deriving DecidableEq, Inhabited
structure GR11_cur where
  l : List GNode
  n : Int
  at_ : Int
  e_ : Int
  deriving DecidableEq, Inhabited
def cGR11_cur : Cod GR11_cur := cMap (fun x => (x.l, x.n, x.at_, x.e_)) (cPair (cSl cGNode) (cPair (cInt .i64) (cPair (cInt .i64) (cInt .i64))))
theorem GR11_cur_out {m : List Nat} {w : World} {x : GR11_cur} {cs : List Value} (h : cGR11_cur.rep m w x cs) : ∃ (a0 : Option Addr) (c0 : Nat), cs = [.slice a0 x.l.length c0, .int .i64 x.n, .int .i64 x.at_, .int .i64 x.e_] ∧ (x.l.length ≤ c0 ∧ SlR cGNode m w a0 x.l) := by
  obtain ⟨_, _, rfl, ⟨a0, c0, rfl, p0, q0⟩, ⟨_, _, rfl, rfl, ⟨_, _, rfl, rfl, rfl⟩⟩⟩ := h
  exact ⟨a0, c0, rfl, ⟨p0, q0⟩⟩
theorem GR11_cur_in {m : List Nat} {w : World} (x : GR11_cur) {a0 : Option Addr} {c0 : Nat} (h0 : (x.l.length ≤ c0 ∧ SlR cGNode m w a0 x.l)) : cGR11_cur.rep m w x [.slice a0 x.l.length c0, .int .i64 x.n, .int .i64 x.at_, .int .i64 x.e_] := ⟨[.slice a0 x.l.length c0], [.int .i64 x.n, .int .i64 x.at_, .int .i64 x.e_], rfl, ⟨_, _, rfl, h0.1, h0.2⟩, ⟨[.int .i64 x.n], [.int .i64 x.at_, .int .i64 x.e_], rfl, rfl, ⟨[.int .i64 x.at_], [.int .i64 x.e_], rfl, rfl, rfl⟩⟩⟩
structure GR10_Got where
  l : List GNode
  at_ : Int
  e_ : Int
  deriving DecidableEq, Inhabited
def cGR10_Got : Cod GR10_Got := cMap (fun x => (x.l, x.at_, x.e_)) (cPair (cSl cGNode) (cPair (cInt .i64) (cInt .i64)))
theorem GR10_Got_out {m : List Nat} {w : World} {x : GR10_Got} {cs : List Value} (h : cGR10_Got.rep m w x cs) : ∃ (a0 : Option Addr) (c0 : Nat), cs = [.slice a0 x.l.length c0, .int .i64 x.at_, .int .i64 x.e_] ∧ (x.l.length ≤ c0 ∧ SlR cGNode m w a0 x.l) := by
  obtain ⟨_, _, rfl, ⟨a0, c0, rfl, p0, q0⟩, ⟨_, _, rfl, rfl, rfl⟩⟩ := h
  exact ⟨a0, c0, rfl, ⟨p0, q0⟩⟩
theorem GR10_Got_in {m : List Nat} {w : World} (x : GR10_Got) {a0 : Option Addr} {c0 : Nat} (h0 : (x.l.length ≤ c0 ∧ SlR cGNode m w a0 x.l)) : cGR10_Got.rep m w x [.slice a0 x.l.length c0, .int .i64 x.at_, .int .i64 x.e_] := ⟨[.slice a0 x.l.length c0], [.int .i64 x.at_, .int .i64 x.e_], rfl, ⟨_, _, rfl, h0.1, h0.2⟩, ⟨[.int .i64 x.at_], [.int .i64 x.e_], rfl, rfl, rfl⟩⟩
structure GR08_List where
  l : List GToken
  at_ : Int
  e_ : Int
  deriving DecidableEq, Inhabited
def cGR08_List : Cod GR08_List := cMap (fun x => (x.l, x.at_, x.e_)) (cPair (cSl cGToken) (cPair (cInt .i64) (cInt .i64)))
theorem GR08_List_out {m : List Nat} {w : World} {x : GR08_List} {cs : List Value} (h : cGR08_List.rep m w x cs) : ∃ (a0 : Option Addr) (c0 : Nat), cs = [.slice a0 x.l.length c0, .int .i64 x.at_, .int .i64 x.e_] ∧ (x.l.length ≤ c0 ∧ SlR cGToken m w a0 x.l) := by
  obtain ⟨_, _, rfl, ⟨a0, c0, rfl, p0, q0⟩, ⟨_, _, rfl, rfl, rfl⟩⟩ := h
  exact ⟨a0, c0, rfl, ⟨p0, q0⟩⟩
theorem GR08_List_in {m : List Nat} {w : World} (x : GR08_List) {a0 : Option Addr} {c0 : Nat} (h0 : (x.l.length ≤ c0 ∧ SlR cGToken m w a0 x.l)) : cGR08_List.rep m w x [.slice a0 x.l.length c0, .int .i64 x.at_, .int .i64 x.e_] := ⟨[.slice a0 x.l.length c0], [.int .i64 x.at_, .int .i64 x.e_], rfl, ⟨_, _, rfl, h0.1, h0.2⟩, ⟨[.int .i64 x.at_], [.int .i64 x.e_], rfl, rfl, rfl⟩⟩
structure GR08_Got where
  t : GToken
  next : Int
  e_ : Int
  deriving DecidableEq, Inhabited
def cGR08_Got : Cod GR08_Got := cMap (fun x => (x.t, x.next, x.e_)) (cPair cGToken (cPair (cInt .i64) (cInt .i64)))
theorem GR08_Got_out {m : List Nat} {w : World} {x : GR08_Got} {cs : List Value} (h : cGR08_Got.rep m w x cs) : cs = [.int .i64 x.t.kind, .string (mkS x.t.text), .int .i64 x.t.n, .int .i64 x.t.at_, .int .i64 x.next, .int .i64 x.e_] := by
  obtain ⟨_, _, rfl, ⟨_, _, rfl, rfl, ⟨_, _, rfl, rfl, ⟨_, _, rfl, rfl, rfl⟩⟩⟩, ⟨_, _, rfl, rfl, rfl⟩⟩ := h
  exact rfl
theorem GR08_Got_in {m : List Nat} {w : World} (x : GR08_Got)   : cGR08_Got.rep m w x [.int .i64 x.t.kind, .string (mkS x.t.text), .int .i64 x.t.n, .int .i64 x.t.at_, .int .i64 x.next, .int .i64 x.e_] := ⟨[.int .i64 x.t.kind, .string (mkS x.t.text), .int .i64 x.t.n, .int .i64 x.t.at_], [.int .i64 x.next, .int .i64 x.e_], rfl, ⟨[.int .i64 x.t.kind], [.string (mkS x.t.text), .int .i64 x.t.n, .int .i64 x.t.at_], rfl, rfl, ⟨[.string (mkS x.t.text)], [.int .i64 x.t.n, .int .i64 x.t.at_], rfl, rfl, ⟨[.int .i64 x.t.n], [.int .i64 x.t.at_], rfl, rfl, rfl⟩⟩⟩, ⟨[.int .i64 x.next], [.int .i64 x.e_], rfl, rfl, rfl⟩⟩
end Go.Ty
namespace Go.Proofs.Ytdbdkdmgfiiljaa
open Go.Vc Go.Lv Go.Ty
theorem sl_39 : SlTy Try.prog 23 39 5 48 := ⟨Try.t39, .agg #[.int .i64 0, .string (mkS []), .int .i64 0, .int .i64 0, .int .i64 0], by kernel_rfl, by kernel_rfl, by kernel_rfl, by kernel_rfl, by kernel_rfl, by kernel_rfl, by decide⟩
theorem sl_44 : SlTy Try.prog 33 44 4 40 := ⟨Try.t44, .agg #[.int .i64 0, .string (mkS []), .int .i64 0, .int .i64 0], by kernel_rfl, by kernel_rfl, by kernel_rfl, by kernel_rfl, by kernel_rfl, by kernel_rfl, by decide⟩
def V_parse_Unit (toks : List GToken) (K : (List GNode) → Int → Int → Prop) : Prop :=
  ∀ (m : List Nat) (w : World), MOk m w → ∀ (toksA : Option Addr) (toksC : Nat), toks.length ≤ toksC → SlR cGToken m w toksA toks →
    Calls Try.prog 13 #[.slice toksA toks.length toksC] w (Ret fun v w' => ∃ (r0 : List GNode) (r1 : Int) (r2 : Int), K r0 r1 r2 ∧ (∃ (a0 : Option Addr) (c0 : Nat), v = .tuple #[.slice a0 r0.length c0, .int .i64 r1, .int .i64 r2] ∧ (r0.length ≤ c0 ∧ SlR cGNode m w' a0 r0)) ∧ Keep [] w w')
def V_parse_reader_see (r : Gparse_reader) (k : Int) (K : GToken → Prop) : Prop :=
  ∀ (m : List Nat) (w : World), MOk m w → ∀ (rb : Nat) (rA : Option Addr) (rC : Nat) (rA0 : Option Addr) (rC0 : Nat), Box w rb [.slice rA0 (r.toks).length rC0, .int .i64 (r.at_), .int .i64 (r.deep), .slice rA (r.l).length rC, .int .i64 (r.e_)] → (r.toks).length ≤ rC0 → SlR cGToken m w rA0 r.toks →
    Calls Try.prog 19 #[.pointer (some ⟨rb, 0, none⟩), .int .i64 k] w (Ret fun v w' => ∃ (r0 : GToken), K r0 ∧ (∃ (cs0 : List Value), v = .agg ⟨cs0⟩ ∧ cGToken.rep m w' r0 cs0) ∧ Keep [] w w')
def V_parse_reader_decl (r : Gparse_reader) (K : Gparse_reader → Prop) : Prop :=
  ∀ (m : List Nat) (w : World), MOk m w → ∀ (rb : Nat) (rA : Option Addr) (rC : Nat) (rxs : List Value) (rA0 : Option Addr) (rC0 : Nat), rb ∈ m → (∀ q, Vc.blk rA = some q → q ∈ m ∧ q ≠ rb) → Box w rb [.slice rA0 (r.toks).length rC0, .int .i64 (r.at_), .int .i64 (r.deep), .slice rA (r.l).length rC, .int .i64 (r.e_)] → Rw w 0 39 5 rA (r.l).length rC rxs → El cGNode m w (r.l) rxs → (r.toks).length ≤ rC0 → SlR cGToken m w rA0 r.toks →
    Calls Try.prog 20 #[.pointer (some ⟨rb, 0, none⟩)] w (Ret fun _ w' => ∃ (r' : Gparse_reader), K r' ∧ (True) ∧ (∃ A' C' xs', Box w' rb [.slice rA0 (r.toks).length rC0, .int .i64 (r'.at_), .int .i64 (r'.deep), .slice A' (r'.l).length C', .int .i64 (r'.e_)] ∧ Rw w' 0 39 5 A' (r'.l).length C' xs' ∧ El cGNode ((Vc.blk A').toList ++ m) w' (r'.l) xs' ∧ (∀ q, Vc.blk A' = some q → q ∈ (Vc.blk rA).toList ∨ w.heap.size ≤ q)) ∧ Keep (rb :: (Vc.blk rA).toList) w w')
def V_parse_Text (sx : List UInt8) (K : (List GNode) → Int → Int → Prop) : Prop :=
  ∀ (m : List Nat) (w : World), MOk m w →
    Calls Try.prog 7 #[.string (mkS sx)] w (Ret fun v w' => ∃ (r0 : List GNode) (r1 : Int) (r2 : Int), K r0 r1 r2 ∧ (∃ (a0 : Option Addr) (c0 : Nat), v = .tuple #[.slice a0 r0.length c0, .int .i64 r1, .int .i64 r2] ∧ (r0.length ≤ c0 ∧ SlR cGNode m w' a0 r0)) ∧ Keep [] w w')
def V_token_All (sx : List UInt8) (K : (List GToken) → Int → Int → Prop) : Prop :=
  ∀ (m : List Nat) (w : World), MOk m w →
    Calls Try.prog 12 #[.string (mkS sx)] w (Ret fun v w' => ∃ (r0 : List GToken) (r1 : Int) (r2 : Int), K r0 r1 r2 ∧ (∃ (a0 : Option Addr) (c0 : Nat), v = .tuple #[.slice a0 r0.length c0, .int .i64 r1, .int .i64 r2] ∧ (r0.length ≤ c0 ∧ SlR cGToken m w' a0 r0)) ∧ Keep [] w w')
def V_parse_reader_is (r : Gparse_reader) (k : Int) (sx : List UInt8) (K : Bool → Prop) : Prop :=
  ∀ (m : List Nat) (w : World), MOk m w → ∀ (rb : Nat) (rA : Option Addr) (rC : Nat) (rA0 : Option Addr) (rC0 : Nat), Box w rb [.slice rA0 (r.toks).length rC0, .int .i64 (r.at_), .int .i64 (r.deep), .slice rA (r.l).length rC, .int .i64 (r.e_)] → (r.toks).length ≤ rC0 → SlR cGToken m w rA0 r.toks →
    Calls Try.prog 67 #[.pointer (some ⟨rb, 0, none⟩), .int .i64 k, .string (mkS sx)] w (Ret fun v w' => ∃ (r0 : Bool), K r0 ∧ (v = .bool r0) ∧ Keep [] w w')
def V_parse_reader_fail (r : Gparse_reader) (ex : Int) (K : Gparse_reader → Prop) : Prop :=
  ∀ (m : List Nat) (w : World), MOk m w → ∀ (rb : Nat) (rA : Option Addr) (rC : Nat) (rA0 : Option Addr) (rC0 : Nat), rb ∈ m → Box w rb [.slice rA0 (r.toks).length rC0, .int .i64 (r.at_), .int .i64 (r.deep), .slice rA (r.l).length rC, .int .i64 (r.e_)] → (r.toks).length ≤ rC0 → SlR cGToken m w rA0 r.toks →
    Calls Try.prog 68 #[.pointer (some ⟨rb, 0, none⟩), .int .i64 ex] w (Ret fun _ w' => ∃ (r' : Gparse_reader), K r' ∧ (True) ∧ Box w' rb [.slice rA0 (r.toks).length rC0, .int .i64 (r'.at_), .int .i64 (r'.deep), .slice rA (r.l).length rC, .int .i64 (r'.e_)] ∧ Keep [rb] w w')
def V_parse_reader_eat (r : Gparse_reader) (sx : List UInt8) (K : Bool → Gparse_reader → Prop) : Prop :=
  ∀ (m : List Nat) (w : World), MOk m w → ∀ (rb : Nat) (rA : Option Addr) (rC : Nat) (rA0 : Option Addr) (rC0 : Nat), rb ∈ m → Box w rb [.slice rA0 (r.toks).length rC0, .int .i64 (r.at_), .int .i64 (r.deep), .slice rA (r.l).length rC, .int .i64 (r.e_)] → (r.toks).length ≤ rC0 → SlR cGToken m w rA0 r.toks →
    Calls Try.prog 43 #[.pointer (some ⟨rb, 0, none⟩), .string (mkS sx)] w (Ret fun v w' => ∃ (r0 : Bool) (r' : Gparse_reader), K r0 r' ∧ (v = .bool r0) ∧ Box w' rb [.slice rA0 (r.toks).length rC0, .int .i64 (r'.at_), .int .i64 (r'.deep), .slice rA (r.l).length rC, .int .i64 (r'.e_)] ∧ Keep [rb] w w')
def V_parse_reader_must (r : Gparse_reader) (l : List (List UInt8)) (K : Gparse_reader → Prop) : Prop :=
  ∀ (m : List Nat) (w : World), MOk m w → ∀ (rb : Nat) (rA : Option Addr) (rC : Nat) (rA0 : Option Addr) (rC0 : Nat), rb ∈ m → Box w rb [.slice rA0 (r.toks).length rC0, .int .i64 (r.at_), .int .i64 (r.deep), .slice rA (r.l).length rC, .int .i64 (r.e_)] → (r.toks).length ≤ rC0 → SlR cGToken m w rA0 r.toks →  ∀ (lA : Option Addr) (lC : Nat), l.length ≤ lC → SlR cStr m w lA l →
    Calls Try.prog 46 #[.pointer (some ⟨rb, 0, none⟩), .slice lA l.length lC] w (Ret fun _ w' => ∃ (r' : Gparse_reader), K r' ∧ (True) ∧ Box w' rb [.slice rA0 (r.toks).length rC0, .int .i64 (r'.at_), .int .i64 (r'.deep), .slice rA (r.l).length rC, .int .i64 (r'.e_)] ∧ Keep [rb] w w')
def V_parse_reader_name (r : Gparse_reader) (K : (List UInt8) → Gparse_reader → Prop) : Prop :=
  ∀ (m : List Nat) (w : World), MOk m w → ∀ (rb : Nat) (rA : Option Addr) (rC : Nat) (rA0 : Option Addr) (rC0 : Nat), rb ∈ m → Box w rb [.slice rA0 (r.toks).length rC0, .int .i64 (r.at_), .int .i64 (r.deep), .slice rA (r.l).length rC, .int .i64 (r.e_)] → (r.toks).length ≤ rC0 → SlR cGToken m w rA0 r.toks →
    Calls Try.prog 44 #[.pointer (some ⟨rb, 0, none⟩)] w (Ret fun v w' => ∃ (r0 : List UInt8) (r' : Gparse_reader), K r0 r' ∧ (v = .string (mkS r0)) ∧ Box w' rb [.slice rA0 (r.toks).length rC0, .int .i64 (r'.at_), .int .i64 (r'.deep), .slice rA (r.l).length rC, .int .i64 (r'.e_)] ∧ Keep [rb] w w')
def V_parse_reader_open (r : Gparse_reader) (op : Int) (K : Int → Gparse_reader → Prop) : Prop :=
  ∀ (m : List Nat) (w : World), MOk m w → ∀ (rb : Nat) (rA : Option Addr) (rC : Nat) (rxs : List Value) (rA0 : Option Addr) (rC0 : Nat), rb ∈ m → (∀ q, Vc.blk rA = some q → q ∈ m ∧ q ≠ rb) → Box w rb [.slice rA0 (r.toks).length rC0, .int .i64 (r.at_), .int .i64 (r.deep), .slice rA (r.l).length rC, .int .i64 (r.e_)] → Rw w 0 39 5 rA (r.l).length rC rxs → El cGNode m w (r.l) rxs → (r.toks).length ≤ rC0 → SlR cGToken m w rA0 r.toks →
    Calls Try.prog 42 #[.pointer (some ⟨rb, 0, none⟩), .int .i64 op] w (Ret fun v w' => ∃ (r0 : Int) (r' : Gparse_reader), K r0 r' ∧ (v = .int .i64 r0) ∧ (∃ A' C' xs', Box w' rb [.slice rA0 (r.toks).length rC0, .int .i64 (r'.at_), .int .i64 (r'.deep), .slice A' (r'.l).length C', .int .i64 (r'.e_)] ∧ Rw w' 0 39 5 A' (r'.l).length C' xs' ∧ El cGNode ((Vc.blk A').toList ++ m) w' (r'.l) xs' ∧ (∀ q, Vc.blk A' = some q → q ∈ (Vc.blk rA).toList ∨ w.heap.size ≤ q)) ∧ Keep (rb :: (Vc.blk rA).toList) w w')
def V_parse_reader_term (r : Gparse_reader) (up : Int) (K : Gparse_reader → Prop) : Prop :=
  ∀ (m : List Nat) (w : World), MOk m w → ∀ (rb : Nat) (rA : Option Addr) (rC : Nat) (rxs : List Value) (rA0 : Option Addr) (rC0 : Nat), rb ∈ m → (∀ q, Vc.blk rA = some q → q ∈ m ∧ q ≠ rb) → Box w rb [.slice rA0 (r.toks).length rC0, .int .i64 (r.at_), .int .i64 (r.deep), .slice rA (r.l).length rC, .int .i64 (r.e_)] → Rw w 0 39 5 rA (r.l).length rC rxs → El cGNode m w (r.l) rxs → (r.toks).length ≤ rC0 → SlR cGToken m w rA0 r.toks →
    Calls Try.prog 77 #[.pointer (some ⟨rb, 0, none⟩), .int .i64 up] w (Ret fun _ w' => ∃ (r' : Gparse_reader), K r' ∧ (True) ∧ (∃ A' C' xs', Box w' rb [.slice rA0 (r.toks).length rC0, .int .i64 (r'.at_), .int .i64 (r'.deep), .slice A' (r'.l).length C', .int .i64 (r'.e_)] ∧ Rw w' 0 39 5 A' (r'.l).length C' xs' ∧ El cGNode ((Vc.blk A').toList ++ m) w' (r'.l) xs' ∧ (∀ q, Vc.blk A' = some q → q ∈ (Vc.blk rA).toList ∨ w.heap.size ≤ q)) ∧ Keep (rb :: (Vc.blk rA).toList) w w')
def V_term_Parse (toks : List GToken) (atx : Int) (K : (List GNode) → Int → Int → Prop) : Prop :=
  ∀ (m : List Nat) (w : World), MOk m w → ∀ (toksA : Option Addr) (toksC : Nat), toks.length ≤ toksC → SlR cGToken m w toksA toks →
    Calls Try.prog 84 #[.slice toksA toks.length toksC, .int .i64 atx] w (Ret fun v w' => ∃ (r0 : List GNode) (r1 : Int) (r2 : Int), K r0 r1 r2 ∧ (∃ (a0 : Option Addr) (c0 : Nat), v = .tuple #[.slice a0 r0.length c0, .int .i64 r1, .int .i64 r2] ∧ (r0.length ≤ c0 ∧ SlR cGNode m w' a0 r0)) ∧ Keep [] w w')
def V_parse_reader_ref (r : Gparse_reader) (up : Int) (K : Gparse_reader → Prop) : Prop :=
  ∀ (m : List Nat) (w : World), MOk m w → ∀ (rb : Nat) (rA : Option Addr) (rC : Nat) (rxs : List Value) (rA0 : Option Addr) (rC0 : Nat), rb ∈ m → (∀ q, Vc.blk rA = some q → q ∈ m ∧ q ≠ rb) → Box w rb [.slice rA0 (r.toks).length rC0, .int .i64 (r.at_), .int .i64 (r.deep), .slice rA (r.l).length rC, .int .i64 (r.e_)] → Rw w 0 39 5 rA (r.l).length rC rxs → El cGNode m w (r.l) rxs → (r.toks).length ≤ rC0 → SlR cGToken m w rA0 r.toks →
    Calls Try.prog 83 #[.pointer (some ⟨rb, 0, none⟩), .int .i64 up] w (Ret fun _ w' => ∃ (r' : Gparse_reader), K r' ∧ (True) ∧ (∃ A' C' xs', Box w' rb [.slice rA0 (r.toks).length rC0, .int .i64 (r'.at_), .int .i64 (r'.deep), .slice A' (r'.l).length C', .int .i64 (r'.e_)] ∧ Rw w' 0 39 5 A' (r'.l).length C' xs' ∧ El cGNode ((Vc.blk A').toList ++ m) w' (r'.l) xs' ∧ (∀ q, Vc.blk A' = some q → q ∈ (Vc.blk rA).toList ∨ w.heap.size ≤ q)) ∧ Keep (rb :: (Vc.blk rA).toList) w w')
def V_parse_reader_block (r : Gparse_reader) (up : Int) (K : Gparse_reader → Prop) : Prop :=
  ∀ (m : List Nat) (w : World), MOk m w → ∀ (rb : Nat) (rA : Option Addr) (rC : Nat) (rxs : List Value) (rA0 : Option Addr) (rC0 : Nat), rb ∈ m → (∀ q, Vc.blk rA = some q → q ∈ m ∧ q ≠ rb) → Box w rb [.slice rA0 (r.toks).length rC0, .int .i64 (r.at_), .int .i64 (r.deep), .slice rA (r.l).length rC, .int .i64 (r.e_)] → Rw w 0 39 5 rA (r.l).length rC rxs → El cGNode m w (r.l) rxs → (r.toks).length ≤ rC0 → SlR cGToken m w rA0 r.toks →
    Calls Try.prog 48 #[.pointer (some ⟨rb, 0, none⟩), .int .i64 up] w (Ret fun _ w' => ∃ (r' : Gparse_reader), K r' ∧ (True) ∧ (∃ A' C' xs', Box w' rb [.slice rA0 (r.toks).length rC0, .int .i64 (r'.at_), .int .i64 (r'.deep), .slice A' (r'.l).length C', .int .i64 (r'.e_)] ∧ Rw w' 0 39 5 A' (r'.l).length C' xs' ∧ El cGNode ((Vc.blk A').toList ++ m) w' (r'.l) xs' ∧ (∀ q, Vc.blk A' = some q → q ∈ (Vc.blk rA).toList ∨ w.heap.size ≤ q)) ∧ Keep (rb :: (Vc.blk rA).toList) w w')
def V_parse_reader_stmt (r : Gparse_reader) (K : Gparse_reader → Prop) : Prop :=
  ∀ (m : List Nat) (w : World), MOk m w → ∀ (rb : Nat) (rA : Option Addr) (rC : Nat) (rxs : List Value) (rA0 : Option Addr) (rC0 : Nat), rb ∈ m → (∀ q, Vc.blk rA = some q → q ∈ m ∧ q ≠ rb) → Box w rb [.slice rA0 (r.toks).length rC0, .int .i64 (r.at_), .int .i64 (r.deep), .slice rA (r.l).length rC, .int .i64 (r.e_)] → Rw w 0 39 5 rA (r.l).length rC rxs → El cGNode m w (r.l) rxs → (r.toks).length ≤ rC0 → SlR cGToken m w rA0 r.toks →
    Calls Try.prog 69 #[.pointer (some ⟨rb, 0, none⟩)] w (Ret fun _ w' => ∃ (r' : Gparse_reader), K r' ∧ (True) ∧ (∃ A' C' xs', Box w' rb [.slice rA0 (r.toks).length rC0, .int .i64 (r'.at_), .int .i64 (r'.deep), .slice A' (r'.l).length C', .int .i64 (r'.e_)] ∧ Rw w' 0 39 5 A' (r'.l).length C' xs' ∧ El cGNode ((Vc.blk A').toList ++ m) w' (r'.l) xs' ∧ (∀ q, Vc.blk A' = some q → q ∈ (Vc.blk rA).toList ∨ w.heap.size ≤ q)) ∧ Keep (rb :: (Vc.blk rA).toList) w w')
def V_parse_reader_comm (r : Gparse_reader) (i : Int) (send : Int) (recv : Int) (K : Gparse_reader → Prop) : Prop :=
  ∀ (m : List Nat) (w : World), MOk m w → ∀ (rb : Nat) (rA : Option Addr) (rC : Nat) (rxs : List Value) (rA0 : Option Addr) (rC0 : Nat), rb ∈ m → (∀ q, Vc.blk rA = some q → q ∈ m ∧ q ≠ rb) → Box w rb [.slice rA0 (r.toks).length rC0, .int .i64 (r.at_), .int .i64 (r.deep), .slice rA (r.l).length rC, .int .i64 (r.e_)] → Rw w 0 39 5 rA (r.l).length rC rxs → El cGNode m w (r.l) rxs → (r.toks).length ≤ rC0 → SlR cGToken m w rA0 r.toks →
    Calls Try.prog 76 #[.pointer (some ⟨rb, 0, none⟩), .int .i64 i, .int .i64 send, .int .i64 recv] w (Ret fun _ w' => ∃ (r' : Gparse_reader), K r' ∧ (True) ∧ (∃ A' C' xs', Box w' rb [.slice rA0 (r.toks).length rC0, .int .i64 (r'.at_), .int .i64 (r'.deep), .slice A' (r'.l).length C', .int .i64 (r'.e_)] ∧ Rw w' 0 39 5 A' (r'.l).length C' xs' ∧ El cGNode ((Vc.blk A').toList ++ m) w' (r'.l) xs' ∧ (∀ q, Vc.blk A' = some q → q ∈ (Vc.blk rA).toList ∨ w.heap.size ≤ q)) ∧ Keep (rb :: (Vc.blk rA).toList) w w')
def V_parse_reader_set (r : Gparse_reader) (i : Int) (K : Gparse_reader → Prop) : Prop :=
  ∀ (m : List Nat) (w : World), MOk m w → ∀ (rb : Nat) (rA : Option Addr) (rC : Nat) (rxs : List Value) (rA0 : Option Addr) (rC0 : Nat), rb ∈ m → (∀ q, Vc.blk rA = some q → q ∈ m ∧ q ≠ rb) → Box w rb [.slice rA0 (r.toks).length rC0, .int .i64 (r.at_), .int .i64 (r.deep), .slice rA (r.l).length rC, .int .i64 (r.e_)] → Rw w 0 39 5 rA (r.l).length rC rxs → El cGNode m w (r.l) rxs → (r.toks).length ≤ rC0 → SlR cGToken m w rA0 r.toks →
    Calls Try.prog 75 #[.pointer (some ⟨rb, 0, none⟩), .int .i64 i] w (Ret fun _ w' => ∃ (r' : Gparse_reader), K r' ∧ (True) ∧ (∃ A' C' xs', Box w' rb [.slice rA0 (r.toks).length rC0, .int .i64 (r'.at_), .int .i64 (r'.deep), .slice A' (r'.l).length C', .int .i64 (r'.e_)] ∧ Rw w' 0 39 5 A' (r'.l).length C' xs' ∧ El cGNode ((Vc.blk A').toList ++ m) w' (r'.l) xs' ∧ (∀ q, Vc.blk A' = some q → q ∈ (Vc.blk rA).toList ∨ w.heap.size ≤ q)) ∧ Keep (rb :: (Vc.blk rA).toList) w w')
def V_parse_reader_clause (r : Gparse_reader) (K : Gparse_reader → Prop) : Prop :=
  ∀ (m : List Nat) (w : World), MOk m w → ∀ (rb : Nat) (rA : Option Addr) (rC : Nat) (rxs : List Value) (rA0 : Option Addr) (rC0 : Nat), rb ∈ m → (∀ q, Vc.blk rA = some q → q ∈ m ∧ q ≠ rb) → Box w rb [.slice rA0 (r.toks).length rC0, .int .i64 (r.at_), .int .i64 (r.deep), .slice rA (r.l).length rC, .int .i64 (r.e_)] → Rw w 0 39 5 rA (r.l).length rC rxs → El cGNode m w (r.l) rxs → (r.toks).length ≤ rC0 → SlR cGToken m w rA0 r.toks →
    Calls Try.prog 79 #[.pointer (some ⟨rb, 0, none⟩)] w (Ret fun _ w' => ∃ (r' : Gparse_reader), K r' ∧ (True) ∧ (∃ A' C' xs', Box w' rb [.slice rA0 (r.toks).length rC0, .int .i64 (r'.at_), .int .i64 (r'.deep), .slice A' (r'.l).length C', .int .i64 (r'.e_)] ∧ Rw w' 0 39 5 A' (r'.l).length C' xs' ∧ El cGNode ((Vc.blk A').toList ++ m) w' (r'.l) xs' ∧ (∀ q, Vc.blk A' = some q → q ∈ (Vc.blk rA).toList ∨ w.heap.size ≤ q)) ∧ Keep (rb :: (Vc.blk rA).toList) w w')
def V_parse_reader_args (r : Gparse_reader) (i : Int) (K : Gparse_reader → Prop) : Prop :=
  ∀ (m : List Nat) (w : World), MOk m w → ∀ (rb : Nat) (rA : Option Addr) (rC : Nat) (rxs : List Value) (rA0 : Option Addr) (rC0 : Nat), rb ∈ m → (∀ q, Vc.blk rA = some q → q ∈ m ∧ q ≠ rb) → Box w rb [.slice rA0 (r.toks).length rC0, .int .i64 (r.at_), .int .i64 (r.deep), .slice rA (r.l).length rC, .int .i64 (r.e_)] → Rw w 0 39 5 rA (r.l).length rC rxs → El cGNode m w (r.l) rxs → (r.toks).length ≤ rC0 → SlR cGToken m w rA0 r.toks →
    Calls Try.prog 78 #[.pointer (some ⟨rb, 0, none⟩), .int .i64 i] w (Ret fun _ w' => ∃ (r' : Gparse_reader), K r' ∧ (True) ∧ (∃ A' C' xs', Box w' rb [.slice rA0 (r.toks).length rC0, .int .i64 (r'.at_), .int .i64 (r'.deep), .slice A' (r'.l).length C', .int .i64 (r'.e_)] ∧ Rw w' 0 39 5 A' (r'.l).length C' xs' ∧ El cGNode ((Vc.blk A').toList ++ m) w' (r'.l) xs' ∧ (∀ q, Vc.blk A' = some q → q ∈ (Vc.blk rA).toList ∨ w.heap.size ≤ q)) ∧ Keep (rb :: (Vc.blk rA).toList) w w')
def V_parse_reader_size (r : Gparse_reader) (i : Int) (K : Gparse_reader → Prop) : Prop :=
  ∀ (m : List Nat) (w : World), MOk m w → ∀ (rb : Nat) (rA : Option Addr) (rC : Nat) (rxs : List Value) (rA0 : Option Addr) (rC0 : Nat), rb ∈ m → (∀ q, Vc.blk rA = some q → q ∈ m ∧ q ≠ rb) → Box w rb [.slice rA0 (r.toks).length rC0, .int .i64 (r.at_), .int .i64 (r.deep), .slice rA (r.l).length rC, .int .i64 (r.e_)] → Rw w 0 39 5 rA (r.l).length rC rxs → El cGNode m w (r.l) rxs → (r.toks).length ≤ rC0 → SlR cGToken m w rA0 r.toks →
    Calls Try.prog 45 #[.pointer (some ⟨rb, 0, none⟩), .int .i64 i] w (Ret fun _ w' => ∃ (r' : Gparse_reader), K r' ∧ (True) ∧ (∃ A' C' xs', Box w' rb [.slice rA0 (r.toks).length rC0, .int .i64 (r'.at_), .int .i64 (r'.deep), .slice A' (r'.l).length C', .int .i64 (r'.e_)] ∧ Rw w' 0 39 5 A' (r'.l).length C' xs' ∧ El cGNode ((Vc.blk A').toList ++ m) w' (r'.l) xs' ∧ (∀ q, Vc.blk A' = some q → q ∈ (Vc.blk rA).toList ∨ w.heap.size ≤ q)) ∧ Keep (rb :: (Vc.blk rA).toList) w w')
def V_parse_reader_param (r : Gparse_reader) (up : Int) (K : Gparse_reader → Prop) : Prop :=
  ∀ (m : List Nat) (w : World), MOk m w → ∀ (rb : Nat) (rA : Option Addr) (rC : Nat) (rxs : List Value) (rA0 : Option Addr) (rC0 : Nat), rb ∈ m → (∀ q, Vc.blk rA = some q → q ∈ m ∧ q ≠ rb) → Box w rb [.slice rA0 (r.toks).length rC0, .int .i64 (r.at_), .int .i64 (r.deep), .slice rA (r.l).length rC, .int .i64 (r.e_)] → Rw w 0 39 5 rA (r.l).length rC rxs → El cGNode m w (r.l) rxs → (r.toks).length ≤ rC0 → SlR cGToken m w rA0 r.toks →
    Calls Try.prog 47 #[.pointer (some ⟨rb, 0, none⟩), .int .i64 up] w (Ret fun _ w' => ∃ (r' : Gparse_reader), K r' ∧ (True) ∧ (∃ A' C' xs', Box w' rb [.slice rA0 (r.toks).length rC0, .int .i64 (r'.at_), .int .i64 (r'.deep), .slice A' (r'.l).length C', .int .i64 (r'.e_)] ∧ Rw w' 0 39 5 A' (r'.l).length C' xs' ∧ El cGNode ((Vc.blk A').toList ++ m) w' (r'.l) xs' ∧ (∀ q, Vc.blk A' = some q → q ∈ (Vc.blk rA).toList ∨ w.heap.size ≤ q)) ∧ Keep (rb :: (Vc.blk rA).toList) w w')
def V_R11_is (toks : List GToken) (atx : Int) (sx : List UInt8) (K : Bool → Prop) : Prop :=
  ∀ (m : List Nat) (w : World), MOk m w → ∀ (toksA : Option Addr) (toksC : Nat), toks.length ≤ toksC → SlR cGToken m w toksA toks →
    Calls Try.prog 49 #[.slice toksA toks.length toksC, .int .i64 atx, .string (mkS sx)] w (Ret fun v w' => ∃ (r0 : Bool), K r0 ∧ (v = .bool r0) ∧ Keep [] w w')
def V_R10_Tok (toks : List GToken) (atx : Int) (K : GToken → Prop) : Prop :=
  ∀ (m : List Nat) (w : World), MOk m w → ∀ (toksA : Option Addr) (toksC : Nat), toks.length ≤ toksC → SlR cGToken m w toksA toks →
    Calls Try.prog 22 #[.slice toksA toks.length toksC, .int .i64 atx] w (Ret fun v w' => ∃ (r0 : GToken), K r0 ∧ (∃ (cs0 : List Value), v = .agg ⟨cs0⟩ ∧ cGToken.rep m w' r0 cs0) ∧ Keep [] w w')
def V_R11_from (atx : Int) (K : GR11_cur → Prop) : Prop :=
  ∀ (m : List Nat) (w : World), MOk m w →
    Calls Try.prog 21 #[.int .i64 atx] w (Ret fun v w' => ∃ (r0 : GR11_cur), K r0 ∧ (∃ (cs0 : List Value), v = .agg ⟨cs0⟩ ∧ cGR11_cur.rep m w' r0 cs0) ∧ Keep [] w w')
def V_R11_ref (toks : List GToken) (atx : Int) (K : GR11_cur → Prop) : Prop :=
  ∀ (m : List Nat) (w : World), MOk m w → ∀ (toksA : Option Addr) (toksC : Nat), toks.length ≤ toksC → SlR cGToken m w toksA toks →
    Calls Try.prog 91 #[.slice toksA toks.length toksC, .int .i64 atx] w (Ret fun v w' => ∃ (r0 : GR11_cur), K r0 ∧ (∃ (cs0 : List Value), v = .agg ⟨cs0⟩ ∧ cGR11_cur.rep m w' r0 cs0) ∧ Keep [] w w')
def V_R11_cur_name (cq : GR11_cur) (toks : List GToken) (K : GR11_cur → (List UInt8) → Prop) : Prop :=
  ∀ (m : List Nat) (w : World), MOk m w → ∀ (cqcs : List Value), cGR11_cur.rep m w cq cqcs → ∀ (toksA : Option Addr) (toksC : Nat), toks.length ≤ toksC → SlR cGToken m w toksA toks →
    Calls Try.prog 51 #[.agg ⟨cqcs⟩, .slice toksA toks.length toksC] w (Ret fun v w' => ∃ (r0 : GR11_cur) (r1 : List UInt8), K r0 r1 ∧ (∃ (cs0 : List Value), v = .tuple #[.agg ⟨cs0⟩, .string (mkS r1)] ∧ cGR11_cur.rep m w' r0 cs0) ∧ Keep [] w w')
def V_R11_cur_eat (cq : GR11_cur) (toks : List GToken) (sx : List UInt8) (K : GR11_cur → Prop) : Prop :=
  ∀ (m : List Nat) (w : World), MOk m w → ∀ (cqcs : List Value), cGR11_cur.rep m w cq cqcs → ∀ (toksA : Option Addr) (toksC : Nat), toks.length ≤ toksC → SlR cGToken m w toksA toks →
    Calls Try.prog 50 #[.agg ⟨cqcs⟩, .slice toksA toks.length toksC, .string (mkS sx)] w (Ret fun v w' => ∃ (r0 : GR11_cur), K r0 ∧ (∃ (cs0 : List Value), v = .agg ⟨cs0⟩ ∧ cGR11_cur.rep m w' r0 cs0) ∧ Keep [] w w')
def V_R11_cur_term (cq : GR11_cur) (toks : List GToken) (K : GR11_cur → Prop) : Prop :=
  ∀ (m : List Nat) (w : World), MOk m w → ∀ (cqcs : List Value), cGR11_cur.rep m w cq cqcs → ∀ (toksA : Option Addr) (toksC : Nat), toks.length ≤ toksC → SlR cGToken m w toksA toks →
    Calls Try.prog 87 #[.agg ⟨cqcs⟩, .slice toksA toks.length toksC] w (Ret fun v w' => ∃ (r0 : GR11_cur), K r0 ∧ (∃ (cs0 : List Value), v = .agg ⟨cs0⟩ ∧ cGR11_cur.rep m w' r0 cs0) ∧ Keep [] w w')
def V_R11_cur_under (cq : GR11_cur) (xq : GNode) (K : GR11_cur → Prop) : Prop :=
  ∀ (m : List Nat) (w : World), MOk m w → ∀ (cqcs : List Value), cGR11_cur.rep m w cq cqcs → ∀ (xqcs : List Value), cGNode.rep m w xq xqcs →
    Calls Try.prog 25 #[.agg ⟨cqcs⟩, .agg ⟨xqcs⟩] w (Ret fun v w' => ∃ (r0 : GR11_cur), K r0 ∧ (∃ (cs0 : List Value), v = .agg ⟨cs0⟩ ∧ cGR11_cur.rep m w' r0 cs0) ∧ Keep [] w w')
def V_R11_block (toks : List GToken) (atx : Int) (deep : Int) (K : GR11_cur → Prop) : Prop :=
  ∀ (m : List Nat) (w : World), MOk m w → ∀ (toksA : Option Addr) (toksC : Nat), toks.length ≤ toksC → SlR cGToken m w toksA toks →
    Calls Try.prog 70 #[.slice toksA toks.length toksC, .int .i64 atx, .int .i64 deep] w (Ret fun v w' => ∃ (r0 : GR11_cur), K r0 ∧ (∃ (cs0 : List Value), v = .agg ⟨cs0⟩ ∧ cGR11_cur.rep m w' r0 cs0) ∧ Keep [] w w')
def V_R11_stmt (toks : List GToken) (atx : Int) (deep : Int) (K : GR11_cur → Prop) : Prop :=
  ∀ (m : List Nat) (w : World), MOk m w → ∀ (toksA : Option Addr) (toksC : Nat), toks.length ≤ toksC → SlR cGToken m w toksA toks →
    Calls Try.prog 80 #[.slice toksA toks.length toksC, .int .i64 atx, .int .i64 deep] w (Ret fun v w' => ∃ (r0 : GR11_cur), K r0 ∧ (∃ (cs0 : List Value), v = .agg ⟨cs0⟩ ∧ cGR11_cur.rep m w' r0 cs0) ∧ Keep [] w w')
def V_R11_cur_add (cq : GR11_cur) (d : GR11_cur) (K : GR11_cur → Prop) : Prop :=
  ∀ (m : List Nat) (w : World), MOk m w → ∀ (cqcs : List Value), cGR11_cur.rep m w cq cqcs → ∀ (dcs : List Value), cGR11_cur.rep m w d dcs →
    Calls Try.prog 23 #[.agg ⟨cqcs⟩, .agg ⟨dcs⟩] w (Ret fun v w' => ∃ (r0 : GR11_cur), K r0 ∧ (∃ (cs0 : List Value), v = .agg ⟨cs0⟩ ∧ cGR11_cur.rep m w' r0 cs0) ∧ Keep [] w w')
def V_R11_clause (toks : List GToken) (atx : Int) (deep : Int) (K : GR11_cur → Prop) : Prop :=
  ∀ (m : List Nat) (w : World), MOk m w → ∀ (toksA : Option Addr) (toksC : Nat), toks.length ≤ toksC → SlR cGToken m w toksA toks →
    Calls Try.prog 89 #[.slice toksA toks.length toksC, .int .i64 atx, .int .i64 deep] w (Ret fun v w' => ∃ (r0 : GR11_cur), K r0 ∧ (∃ (cs0 : List Value), v = .agg ⟨cs0⟩ ∧ cGR11_cur.rep m w' r0 cs0) ∧ Keep [] w w')
def V_R11_cur_in (cq : GR11_cur) (toks : List GToken) (deep : Int) (K : GR11_cur → Prop) : Prop :=
  ∀ (m : List Nat) (w : World), MOk m w → ∀ (cqcs : List Value), cGR11_cur.rep m w cq cqcs → ∀ (toksA : Option Addr) (toksC : Nat), toks.length ≤ toksC → SlR cGToken m w toksA toks →
    Calls Try.prog 54 #[.agg ⟨cqcs⟩, .slice toksA toks.length toksC, .int .i64 deep] w (Ret fun v w' => ∃ (r0 : GR11_cur), K r0 ∧ (∃ (cs0 : List Value), v = .agg ⟨cs0⟩ ∧ cGR11_cur.rep m w' r0 cs0) ∧ Keep [] w w')
def V_R11_cur_comm (cq : GR11_cur) (toks : List GToken) (send : Int) (recv : Int) (K : GR11_cur → Int → (List UInt8) → Prop) : Prop :=
  ∀ (m : List Nat) (w : World), MOk m w → ∀ (cqcs : List Value), cGR11_cur.rep m w cq cqcs → ∀ (toksA : Option Addr) (toksC : Nat), toks.length ≤ toksC → SlR cGToken m w toksA toks →
    Calls Try.prog 86 #[.agg ⟨cqcs⟩, .slice toksA toks.length toksC, .int .i64 send, .int .i64 recv] w (Ret fun v w' => ∃ (r0 : GR11_cur) (r1 : Int) (r2 : List UInt8), K r0 r1 r2 ∧ (∃ (cs0 : List Value), v = .tuple #[.agg ⟨cs0⟩, .int .i64 r1, .string (mkS r2)] ∧ cGR11_cur.rep m w' r0 cs0) ∧ Keep [] w w')
def V_R11_set (toks : List GToken) (atx : Int) (xq : GNode) (K : GR11_cur → Prop) : Prop :=
  ∀ (m : List Nat) (w : World), MOk m w → ∀ (toksA : Option Addr) (toksC : Nat), toks.length ≤ toksC → SlR cGToken m w toksA toks → ∀ (xqcs : List Value), cGNode.rep m w xq xqcs →
    Calls Try.prog 85 #[.slice toksA toks.length toksC, .int .i64 atx, .agg ⟨xqcs⟩] w (Ret fun v w' => ∃ (r0 : GR11_cur), K r0 ∧ (∃ (cs0 : List Value), v = .agg ⟨cs0⟩ ∧ cGR11_cur.rep m w' r0 cs0) ∧ Keep [] w w')
def V_R11_cur_args (cq : GR11_cur) (toks : List GToken) (K : GR11_cur → Prop) : Prop :=
  ∀ (m : List Nat) (w : World), MOk m w → ∀ (cqcs : List Value), cGR11_cur.rep m w cq cqcs → ∀ (toksA : Option Addr) (toksC : Nat), toks.length ≤ toksC → SlR cGToken m w toksA toks →
    Calls Try.prog 88 #[.agg ⟨cqcs⟩, .slice toksA toks.length toksC] w (Ret fun v w' => ∃ (r0 : GR11_cur), K r0 ∧ (∃ (cs0 : List Value), v = .agg ⟨cs0⟩ ∧ cGR11_cur.rep m w' r0 cs0) ∧ Keep [] w w')
def V_R11_decl (toks : List GToken) (atx : Int) (K : GR11_cur → Prop) : Prop :=
  ∀ (m : List Nat) (w : World), MOk m w → ∀ (toksA : Option Addr) (toksC : Nat), toks.length ≤ toksC → SlR cGToken m w toksA toks →
    Calls Try.prog 24 #[.slice toksA toks.length toksC, .int .i64 atx] w (Ret fun v w' => ∃ (r0 : GR11_cur), K r0 ∧ (∃ (cs0 : List Value), v = .agg ⟨cs0⟩ ∧ cGR11_cur.rep m w' r0 cs0) ∧ Keep [] w w')
def V_R11_cur_size (cq : GR11_cur) (toks : List GToken) (K : GR11_cur → Int → Prop) : Prop :=
  ∀ (m : List Nat) (w : World), MOk m w → ∀ (cqcs : List Value), cGR11_cur.rep m w cq cqcs → ∀ (toksA : Option Addr) (toksC : Nat), toks.length ≤ toksC → SlR cGToken m w toksA toks →
    Calls Try.prog 52 #[.agg ⟨cqcs⟩, .slice toksA toks.length toksC] w (Ret fun v w' => ∃ (r0 : GR11_cur) (r1 : Int), K r0 r1 ∧ (∃ (cs0 : List Value), v = .tuple #[.agg ⟨cs0⟩, .int .i64 r1] ∧ cGR11_cur.rep m w' r0 cs0) ∧ Keep [] w w')
def V_R11_cur_param (cq : GR11_cur) (toks : List GToken) (K : GR11_cur → Prop) : Prop :=
  ∀ (m : List Nat) (w : World), MOk m w → ∀ (cqcs : List Value), cGR11_cur.rep m w cq cqcs → ∀ (toksA : Option Addr) (toksC : Nat), toks.length ≤ toksC → SlR cGToken m w toksA toks →
    Calls Try.prog 53 #[.agg ⟨cqcs⟩, .slice toksA toks.length toksC] w (Ret fun v w' => ∃ (r0 : GR11_cur), K r0 ∧ (∃ (cs0 : List Value), v = .agg ⟨cs0⟩ ∧ cGR11_cur.rep m w' r0 cs0) ∧ Keep [] w w')
def V_R11_Unit (toks : List GToken) (K : GR10_Got → Prop) : Prop :=
  ∀ (m : List Nat) (w : World), MOk m w → ∀ (toksA : Option Addr) (toksC : Nat), toks.length ≤ toksC → SlR cGToken m w toksA toks →
    Calls Try.prog 15 #[.slice toksA toks.length toksC] w (Ret fun v w' => ∃ (r0 : GR10_Got), K r0 ∧ (∃ (cs0 : List Value), v = .agg ⟨cs0⟩ ∧ cGR10_Got.rep m w' r0 cs0) ∧ Keep [] w w')
def V_R11_Text (sx : List UInt8) (K : GR10_Got → Prop) : Prop :=
  ∀ (m : List Nat) (w : World), MOk m w →
    Calls Try.prog 9 #[.string (mkS sx)] w (Ret fun v w' => ∃ (r0 : GR10_Got), K r0 ∧ (∃ (cs0 : List Value), v = .agg ⟨cs0⟩ ∧ cGR10_Got.rep m w' r0 cs0) ∧ Keep [] w w')
def V_R08_All (sx : List UInt8) (K : GR08_List → Prop) : Prop :=
  ∀ (m : List Nat) (w : World), MOk m w →
    Calls Try.prog 10 #[.string (mkS sx)] w (Ret fun v w' => ∃ (r0 : GR08_List), K r0 ∧ (∃ (cs0 : List Value), v = .agg ⟨cs0⟩ ∧ cGR08_List.rep m w' r0 cs0) ∧ Keep [] w w')
def V_R10_Parse (toks : List GToken) (atx : Int) (K : GR10_Got → Prop) : Prop :=
  ∀ (m : List Nat) (w : World), MOk m w → ∀ (toksA : Option Addr) (toksC : Nat), toks.length ≤ toksC → SlR cGToken m w toksA toks →
    Calls Try.prog 92 #[.slice toksA toks.length toksC, .int .i64 atx] w (Ret fun v w' => ∃ (r0 : GR10_Got), K r0 ∧ (∃ (cs0 : List Value), v = .agg ⟨cs0⟩ ∧ cGR10_Got.rep m w' r0 cs0) ∧ Keep [] w w')
def V_R10_Same (aq : List GNode) (bq : List GNode) (K : Bool → Prop) : Prop :=
  ∀ (m : List Nat) (w : World), MOk m w → ∀ (aqA : Option Addr) (aqC : Nat), aq.length ≤ aqC → SlR cGNode m w aqA aq → ∀ (bqA : Option Addr) (bqC : Nat), bq.length ≤ bqC → SlR cGNode m w bqA bq →
    Calls Try.prog 14 #[.slice aqA aq.length aqC, .slice bqA bq.length bqC] w (Ret fun v w' => ∃ (r0 : Bool), K r0 ∧ (v = .bool r0) ∧ Keep [] w w')
def V_token_Next (sx : List UInt8) (atx : Int) (K : GToken → Int → Int → Prop) : Prop :=
  ∀ (m : List Nat) (w : World), MOk m w →
    Calls Try.prog 18 #[.string (mkS sx), .int .i64 atx] w (Ret fun v w' => ∃ (r0 : GToken) (r1 : Int) (r2 : Int), K r0 r1 r2 ∧ (∃ (cs0 : List Value), v = .tuple #[.agg ⟨cs0⟩, .int .i64 r1, .int .i64 r2] ∧ cGToken.rep m w' r0 cs0) ∧ Keep [] w w')
def V_R08_Next (sx : List UInt8) (atx : Int) (K : GR08_Got → Prop) : Prop :=
  ∀ (m : List Nat) (w : World), MOk m w →
    Calls Try.prog 16 #[.string (mkS sx), .int .i64 atx] w (Ret fun v w' => ∃ (r0 : GR08_Got), K r0 ∧ (∃ (cs0 : List Value), v = .agg ⟨cs0⟩ ∧ cGR08_Got.rep m w' r0 cs0) ∧ Keep [] w w')
def V_R10_level (toks : List GToken) (atx : Int) (n : Int) (deep : Int) (K : GR10_Got → Prop) : Prop :=
  ∀ (m : List Nat) (w : World), MOk m w → ∀ (toksA : Option Addr) (toksC : Nat), toks.length ≤ toksC → SlR cGToken m w toksA toks →
    Calls Try.prog 97 #[.slice toksA toks.length toksC, .int .i64 atx, .int .i64 n, .int .i64 deep] w (Ret fun v w' => ∃ (r0 : GR10_Got), K r0 ∧ (∃ (cs0 : List Value), v = .agg ⟨cs0⟩ ∧ cGR10_Got.rep m w' r0 cs0) ∧ Keep [] w w')
def V_R10_one (toks : List GToken) (atx : Int) (deep : Int) (K : GR10_Got → Prop) : Prop :=
  ∀ (m : List Nat) (w : World), MOk m w → ∀ (toksA : Option Addr) (toksC : Nat), toks.length ≤ toksC → SlR cGToken m w toksA toks →
    Calls Try.prog 101 #[.slice toksA toks.length toksC, .int .i64 atx, .int .i64 deep] w (Ret fun v w' => ∃ (r0 : GR10_Got), K r0 ∧ (∃ (cs0 : List Value), v = .agg ⟨cs0⟩ ∧ cGR10_Got.rep m w' r0 cs0) ∧ Keep [] w w')
def V_R10_Op (sx : List UInt8) (K : Int → Prop) : Prop :=
  ∀ (m : List Nat) (w : World), MOk m w →
    Calls Try.prog 102 #[.string (mkS sx)] w (Ret fun v w' => ∃ (r0 : Int), K r0 ∧ (v = .int .i64 r0) ∧ Keep [] w w')
def V_R10_Level (op : Int) (K : Int → Prop) : Prop :=
  ∀ (m : List Nat) (w : World), MOk m w →
    Calls Try.prog 103 #[.int .i64 op] w (Ret fun v w' => ∃ (r0 : Int), K r0 ∧ (v = .int .i64 r0) ∧ Keep [] w w')
def V_L11_same (l : List GNode) (atx : Int) (ex : Int) (xq : GR10_Got) (K : Bool → Prop) : Prop :=
  ∀ (m : List Nat) (w : World), MOk m w → ∀ (lA : Option Addr) (lC : Nat), l.length ≤ lC → SlR cGNode m w lA l → ∀ (xqcs : List Value), cGR10_Got.rep m w xq xqcs →
    Calls Try.prog 8 #[.slice lA l.length lC, .int .i64 atx, .int .i64 ex, .agg ⟨xqcs⟩] w (Ret fun v w' => ∃ (r0 : Bool), K r0 ∧ (v = .bool r0) ∧ Keep [] w w')
def V_L11_live (K : Bool → Prop) : Prop :=
  ∀ (m : List Nat) (w : World), MOk m w →
    Calls Try.prog 6 #[] w (Ret fun v w' => ∃ (r0 : Bool), K r0 ∧ (v = .bool r0) ∧ Keep [] w w')
def V_L11_ParseTexts (sx : List UInt8) (K : Bool → Prop) : Prop :=
  ∀ (m : List Nat) (w : World), MOk m w →
    Calls Try.prog 3 #[.string (mkS sx)] w (Ret fun v w' => ∃ (r0 : Bool), K r0 ∧ (v = .bool r0) ∧ Keep [] w w')
end Go.Proofs.Ytdbdkdmgfiiljaa
