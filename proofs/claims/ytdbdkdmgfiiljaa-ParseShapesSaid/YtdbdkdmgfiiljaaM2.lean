/- A part of the proof: conditions of the code, contracts, the plain law. -/
import Derived.Test.YtdbdkdmgfiiljaaM1
import Derived.Test.YtdbdkdmgfiiljaaRows
import Derived.Test.YtdbdkdmgfiiljaaVcI
import Derived.Test.YtdbdkdmgfiiljaaLv
import Derived.Test.YtdbdkdmgfiiljaaMapL
namespace Go.Proofs.Ytdbdkdmgfiiljaa
open Go.Vc
def R09_Is_wp (x0 : Option Addr) (x1 : Nat) (x2 : Nat) (K : Value → World → Prop) (w : World) : Prop :=
 Calls Try.prog 17 #[.slice x0 x1 x2] w (Ret fun x3 w1 =>
 ∃ x4 x5, x3 = .agg #[.q x4, .q x5] ∧
 SemOk Try.prog (do eqGuard .eql 50 (.tmp 4) (.tmp 5) (.agg #[.q x4, .q x5]) (.agg #[.q 0, .q 0]); binOp .eql 50 (.agg #[.q x4, .q x5]) (.agg #[.q 0, .q 0])) (fun x6 w2 =>
 ∃ x7, x6 = .bool x7 ∧
 K (.bool x7) w2) w1)
theorem R09_Is_ok (x0 : Option Addr) (x1 : Nat) (x2 : Nat) (K : Value → World → Prop) (w : World) (h : R09_Is_wp x0 x1 x2 K w) : Calls Try.prog 11 #[.slice x0 x1 x2] w (Ret K) :=
 calls_of {} Try.func11 (by kernel_rfl) h
def R09_Check_wp (x0 : Option Addr) (x1 : Nat) (x2 : Nat) (K : Value → World → Prop) (w : World) : Prop :=
 ∀ x3 w1, x3 = w.heap.size → w1 = w.alloc (.cells #[.q 0, .q 0] 50) →
 Calls Try.prog 33 #[.slice x0 x1 x2, .q 0, .s [85]] w1 (Ret fun x4 w2 =>
 ∃ x5 x6, x4 = .agg #[.q x5, .bool x6] ∧
 ∀ x7 w3, x7 = w2.heap.size → w3 = w2.alloc (.cells #[.q 0, .bool false] 72) →
 Writable w3 ⟨x7, 0, none⟩ 2 ∧ ∀ w4, w4 = setCells w3 ⟨x7, 0, none⟩ [.q x5, .bool x6] →
 ∃ (J : Bool → World → Prop),
 (∃ x8, w4.cell? ⟨x7, 1, none⟩ = some (.bool x8) ∧
 cond (x8)
 (∃ x9, w4.cell? ⟨x7, 0, none⟩ = some (.q x9) ∧
 J (x9 == (x1 : Int)) w4)
 (J false w4)) ∧
 ∀ (_x10 : Nat → Value) (x11 : Bool) (w5 : World), J x11 w5 →
 cond (x11)
 (Writable w5 ⟨x3, 0, none⟩ 2 ∧ ∀ w6, w6 = setCells w5 ⟨x3, 0, none⟩ [.q 0, .q 0] →
 ∃ x12 x13, CellsAt w6 ⟨x3, 0, none⟩ [.q x12, .q x13] ∧
 K (.agg #[.q x12, .q x13]) w6)
 (∃ x14, w5.cell? ⟨x7, 0, none⟩ = some (.q x14) ∧
 Writable w5 ⟨x3, 0, none⟩ 2 ∧ ∀ w7, w7 = setCells w5 ⟨x3, 0, none⟩ [.q x14, .q 3] →
 ∃ x15 x16, CellsAt w7 ⟨x3, 0, none⟩ [.q x15, .q x16] ∧
 K (.agg #[.q x15, .q x16]) w7))
theorem R09_Check_ok (x0 : Option Addr) (x1 : Nat) (x2 : Nat) (K : Value → World → Prop) (w : World) (h : R09_Check_wp x0 x1 x2 K w) : Calls Try.prog 17 #[.slice x0 x1 x2] w (Ret K) :=
 calls_of { cuts := [(14, [(14, .bool)])] } Try.func17 (by kernel_rfl) h
def R09_Piece_wp (x0 : Option Addr) (x1 : Nat) (x2 : Nat) (x3 : Int) (x4 : List UInt8) (K : Value → World → Prop) (w : World) : Prop :=
 ∀ x5 w1, x5 = w.heap.size → w1 = w.alloc (.cells #[.q 0, .bool false] 72) →
 cond (decide (x3 ≥ (x1 : Int)))
 (Writable w1 ⟨x5, 0, none⟩ 2 ∧ ∀ w2, w2 = setCells w1 ⟨x5, 0, none⟩ [.q (x1 : Int), .bool false] →
 ∃ x6 x7, CellsAt w2 ⟨x5, 0, none⟩ [.q x6, .bool x7] ∧
 K (.agg #[.q x6, .bool x7]) w2)
 (((0 : Int) ≤ x3 ∧ x3 < (x1 : Int)) ∧
 ptrOr x0 (fun x8 =>
 ∃ x9 x10 x11 x12 x13, CellsAt w1 (x8.add (x3.toNat * 5)) [.q x9, .s x10, .q x11, .q x12, .q x13] ∧
 ∀ x14 w3, x14 = w1.heap.size → w3 = w1.alloc (.cells #[.q 0, .s [], .q 0, .q 0, .q 0] 39) →
 ∀ x15 w4, x15 = w3.heap.size → w4 = w3.alloc (.cells #[.q 0, .bool false] 72) →
 ∀ x16 w5, x16 = w4.heap.size → w5 = w4.alloc (.cells #[.q 0, .bool false] 72) →
 Writable w5 ⟨x14, 0, none⟩ 5 ∧ ∀ w6, w6 = setCells w5 ⟨x14, 0, none⟩ [.q x9, .s x10, .q x11, .q x12, .q x13] →
 Writable w6 ⟨x15, 0, none⟩ 2 ∧ ∀ w7, w7 = setCells w6 ⟨x15, 0, none⟩ [.q x3, .bool false] →
 Writable w7 ⟨x16, 0, none⟩ 2 ∧ ∀ w8, w8 = setCells w7 ⟨x16, 0, none⟩ [.q (IntKind.i64.wrap (x3 + 1)), .bool true] →
 ∃ (J : World → Prop),
 (cond (x4 == [69])
 (∃ x17 x18 x19 x20 x21, CellsAt w8 ⟨x14, 0, none⟩ [.q x17, .s x18, .q x19, .q x20, .q x21] ∧
 ∃ x22 x23, CellsAt w8 ⟨x15, 0, none⟩ [.q x22, .bool x23] ∧
 ∃ x24 x25, CellsAt w8 ⟨x16, 0, none⟩ [.q x24, .bool x25] ∧
 Calls Try.prog 55 #[.slice x0 x1 x2, .agg #[.q x17, .s x18, .q x19, .q x20, .q x21], .agg #[.q x22, .bool x23], .agg #[.q x24, .bool x25]] w8 (Ret fun x26 w9 =>
 ∃ x27 x28, x26 = .agg #[.q x27, .bool x28] ∧
 Writable w9 ⟨x5, 0, none⟩ 2 ∧ ∀ w10, w10 = setCells w9 ⟨x5, 0, none⟩ [.q x27, .bool x28] →
 ∃ x29 x30, CellsAt w10 ⟨x5, 0, none⟩ [.q x29, .bool x30] ∧
 K (.agg #[.q x29, .bool x30]) w10))
 (cond (x4 == [83])
 (∃ x31 x32 x33 x34 x35, CellsAt w8 ⟨x14, 0, none⟩ [.q x31, .s x32, .q x33, .q x34, .q x35] ∧
 ∃ x36 x37, CellsAt w8 ⟨x15, 0, none⟩ [.q x36, .bool x37] ∧
 ∃ x38 x39, CellsAt w8 ⟨x16, 0, none⟩ [.q x38, .bool x39] ∧
 Calls Try.prog 56 #[.slice x0 x1 x2, .agg #[.q x31, .s x32, .q x33, .q x34, .q x35], .agg #[.q x36, .bool x37], .agg #[.q x38, .bool x39]] w8 (Ret fun x40 w11 =>
 ∃ x41 x42, x40 = .agg #[.q x41, .bool x42] ∧
 Writable w11 ⟨x5, 0, none⟩ 2 ∧ ∀ w12, w12 = setCells w11 ⟨x5, 0, none⟩ [.q x41, .bool x42] →
 ∃ x43 x44, CellsAt w12 ⟨x5, 0, none⟩ [.q x43, .bool x44] ∧
 K (.agg #[.q x43, .bool x44]) w12))
 (cond (x4 == [67])
 (∃ x45 x46 x47 x48 x49, CellsAt w8 ⟨x14, 0, none⟩ [.q x45, .s x46, .q x47, .q x48, .q x49] ∧
 ∃ x50 x51, CellsAt w8 ⟨x15, 0, none⟩ [.q x50, .bool x51] ∧
 ∃ x52 x53, CellsAt w8 ⟨x16, 0, none⟩ [.q x52, .bool x53] ∧
 Calls Try.prog 57 #[.slice x0 x1 x2, .agg #[.q x45, .s x46, .q x47, .q x48, .q x49], .agg #[.q x50, .bool x51], .agg #[.q x52, .bool x53]] w8 (Ret fun x54 w13 =>
 ∃ x55 x56, x54 = .agg #[.q x55, .bool x56] ∧
 Writable w13 ⟨x5, 0, none⟩ 2 ∧ ∀ w14, w14 = setCells w13 ⟨x5, 0, none⟩ [.q x55, .bool x56] →
 ∃ x57 x58, CellsAt w14 ⟨x5, 0, none⟩ [.q x57, .bool x58] ∧
 K (.agg #[.q x57, .bool x58]) w14))
 (cond (x4 == [82])
 (∃ (J1 : Bool → World → Prop),
 (∃ x59, w8.cell? ⟨x14, 0, none⟩ = some (.q x59) ∧
 cond (x59 == 33)
 (∃ x60 x61 x62 x63 x64, CellsAt w8 ⟨x14, 0, none⟩ [.q x60, .s x61, .q x62, .q x63, .q x64] ∧
 Calls Try.prog 58 #[.agg #[.q x60, .s x61, .q x62, .q x63, .q x64], .q 0] w8 (Ret fun x65 w15 =>
 ∃ x66, x65 = .bool x66 ∧
 cond (x66)
 (J1 true w15)
 (∃ x67 x68 x69 x70 x71, CellsAt w15 ⟨x14, 0, none⟩ [.q x67, .s x68, .q x69, .q x70, .q x71] ∧
 Calls Try.prog 58 #[.agg #[.q x67, .s x68, .q x69, .q x70, .q x71], .q 1] w15 (Ret fun x72 w16 =>
 ∃ x73, x72 = .bool x73 ∧
 J1 x73 w16))))
 (J1 false w8)) ∧
 ∀ (_x74 : Nat → Value) (x75 : Bool) (w17 : World), J1 x75 w17 →
 cond (x75)
 (∃ x76 x77, CellsAt w17 ⟨x16, 0, none⟩ [.q x76, .bool x77] ∧
 ∃ x78, w17.cell? ⟨x14, 3, none⟩ = some (.q x78) ∧
 Calls Try.prog 59 #[.slice x0 x1 x2, .agg #[.q x76, .bool x77], .s [69], .q x78] w17 (Ret fun x79 w18 =>
 ∃ x80 x81, x79 = .agg #[.q x80, .bool x81] ∧
 Writable w18 ⟨x5, 0, none⟩ 2 ∧ ∀ w19, w19 = setCells w18 ⟨x5, 0, none⟩ [.q x80, .bool x81] →
 ∃ x82 x83, CellsAt w19 ⟨x5, 0, none⟩ [.q x82, .bool x83] ∧
 K (.agg #[.q x82, .bool x83]) w19))
 (J w17))
 (cond (x4 == [66])
 (∃ (J2 : Bool → World → Prop),
 (∃ x84, w8.cell? ⟨x14, 0, none⟩ = some (.q x84) ∧
 cond (x84 == 32)
 (∃ x85, w8.cell? ⟨x14, 3, none⟩ = some (.q x85) ∧
 cond (decide (x85 ≥ 0))
 (∃ x86 x87 x88 x89 x90, CellsAt w8 ⟨x14, 0, none⟩ [.q x86, .s x87, .q x88, .q x89, .q x90] ∧
 ∃ x91, w8.cell? ⟨x14, 3, none⟩ = some (.q x91) ∧
 Calls Try.prog 60 #[.agg #[.q x86, .s x87, .q x88, .q x89, .q x90], .q x91] w8 (Ret fun x92 w20 =>
 ∃ x93, x92 = .bool x93 ∧
 J2 x93 w20))
 (J2 false w8))
 (J2 false w8)) ∧
 ∀ (_x94 : Nat → Value) (x95 : Bool) (w21 : World), J2 x95 w21 →
 cond (x95)
 (∃ x96 x97, CellsAt w21 ⟨x16, 0, none⟩ [.q x96, .bool x97] ∧
 ∃ x98, w21.cell? ⟨x14, 3, none⟩ = some (.q x98) ∧
 Calls Try.prog 59 #[.slice x0 x1 x2, .agg #[.q x96, .bool x97], .s [83], .q x98] w21 (Ret fun x99 w22 =>
 ∃ x100 x101, x99 = .agg #[.q x100, .bool x101] ∧
 Writable w22 ⟨x5, 0, none⟩ 2 ∧ ∀ w23, w23 = setCells w22 ⟨x5, 0, none⟩ [.q x100, .bool x101] →
 ∃ x102 x103, CellsAt w23 ⟨x5, 0, none⟩ [.q x102, .bool x103] ∧
 K (.agg #[.q x102, .bool x103]) w23))
 (J w21))
 (cond (x4 == [80])
 (∃ (J3 : Bool → World → Prop),
 (∃ x104, w8.cell? ⟨x14, 0, none⟩ = some (.q x104) ∧
 cond (x104 == 39)
 (∃ x105 x106 x107 x108 x109, CellsAt w8 ⟨x14, 0, none⟩ [.q x105, .s x106, .q x107, .q x108, .q x109] ∧
 Calls Try.prog 58 #[.agg #[.q x105, .s x106, .q x107, .q x108, .q x109], .q 0] w8 (Ret fun x110 w24 =>
 ∃ x111, x110 = .bool x111 ∧
 J3 x111 w24))
 (J3 false w8)) ∧
 ∀ (_x112 : Nat → Value) (x113 : Bool) (w25 : World), J3 x113 w25 →
 cond (x113)
 (∃ x114 x115, CellsAt w25 ⟨x16, 0, none⟩ [.q x114, .bool x115] ∧
 Writable w25 ⟨x5, 0, none⟩ 2 ∧ ∀ w26, w26 = setCells w25 ⟨x5, 0, none⟩ [.q x114, .bool x115] →
 ∃ x116 x117, CellsAt w26 ⟨x5, 0, none⟩ [.q x116, .bool x117] ∧
 K (.agg #[.q x116, .bool x117]) w26)
 (J w25))
 (cond (x4 == [85])
 (∃ (J4 : Bool → World → Prop),
 (∃ x118, w8.cell? ⟨x14, 0, none⟩ = some (.q x118) ∧
 cond (x118 == 42)
 (∃ x119, w8.cell? ⟨x14, 3, none⟩ = some (.q x119) ∧
 cond (decide (x119 ≥ 0))
 (∃ x120 x121 x122 x123 x124, CellsAt w8 ⟨x14, 0, none⟩ [.q x120, .s x121, .q x122, .q x123, .q x124] ∧
 ∃ x125, w8.cell? ⟨x14, 3, none⟩ = some (.q x125) ∧
 Calls Try.prog 60 #[.agg #[.q x120, .s x121, .q x122, .q x123, .q x124], .q x125] w8 (Ret fun x126 w27 =>
 ∃ x127, x126 = .bool x127 ∧
 J4 x127 w27))
 (J4 false w8))
 (J4 false w8)) ∧
 ∀ (_x128 : Nat → Value) (x129 : Bool) (w28 : World), J4 x129 w28 →
 cond (x129)
 (∃ x130 x131, CellsAt w28 ⟨x16, 0, none⟩ [.q x130, .bool x131] ∧
 ∃ x132, w28.cell? ⟨x14, 3, none⟩ = some (.q x132) ∧
 Calls Try.prog 59 #[.slice x0 x1 x2, .agg #[.q x130, .bool x131], .s [68], .q x132] w28 (Ret fun x133 w29 =>
 ∃ x134 x135, x133 = .agg #[.q x134, .bool x135] ∧
 Writable w29 ⟨x5, 0, none⟩ 2 ∧ ∀ w30, w30 = setCells w29 ⟨x5, 0, none⟩ [.q x134, .bool x135] →
 ∃ x136 x137, CellsAt w30 ⟨x5, 0, none⟩ [.q x136, .bool x137] ∧
 K (.agg #[.q x136, .bool x137]) w30))
 (J w28))
 (cond (x4 == [68])
 (∃ x138, w8.cell? ⟨x14, 0, none⟩ = some (.q x138) ∧
 cond (x138 == 38)
 (∃ (J5 : Bool → World → Prop),
 (∃ x139, w8.cell? ⟨x14, 1, none⟩ = some (.s x139) ∧
 Calls Try.prog 61 #[.s x139] w8 (Ret fun x140 w31 =>
 ∃ x141, x140 = .bool x141 ∧
 cond (x141)
 (∃ x142, w31.cell? ⟨x14, 3, none⟩ = some (.q x142) ∧
 cond (x142 == 0)
 (∃ x143, w31.cell? ⟨x14, 2, none⟩ = some (.q x143) ∧
 cond (decide (x143 ≥ 0))
 (∃ x144, w31.cell? ⟨x14, 2, none⟩ = some (.q x144) ∧
 J5 (decide (x144 ≤ 16)) w31)
 (J5 false w31))
 (J5 false w31))
 (J5 false w31))) ∧
 ∀ (_x145 : Nat → Value) (x146 : Bool) (w32 : World), J5 x146 w32 →
 cond (x146)
 (∃ x147 x148, CellsAt w32 ⟨x16, 0, none⟩ [.q x147, .bool x148] ∧
 Writable w32 ⟨x5, 0, none⟩ 2 ∧ ∀ w33, w33 = setCells w32 ⟨x5, 0, none⟩ [.q x147, .bool x148] →
 ∃ x149 x150, CellsAt w33 ⟨x5, 0, none⟩ [.q x149, .bool x150] ∧
 K (.agg #[.q x149, .bool x150]) w33)
 (J w32))
 (cond (x138 == 41)
 (∃ x151 x152 x153 x154 x155, CellsAt w8 ⟨x14, 0, none⟩ [.q x151, .s x152, .q x153, .q x154, .q x155] ∧
 Calls Try.prog 60 #[.agg #[.q x151, .s x152, .q x153, .q x154, .q x155], .q 1] w8 (Ret fun x156 w34 =>
 ∃ x157, x156 = .bool x157 ∧
 cond (x157)
 (∃ x158 x159, CellsAt w34 ⟨x16, 0, none⟩ [.q x158, .bool x159] ∧
 Calls Try.prog 62 #[.slice x0 x1 x2, .agg #[.q x158, .bool x159], .s [66]] w34 (Ret fun x160 w35 =>
 ∃ x161 x162, x160 = .agg #[.q x161, .bool x162] ∧
 Writable w35 ⟨x5, 0, none⟩ 2 ∧ ∀ w36, w36 = setCells w35 ⟨x5, 0, none⟩ [.q x161, .bool x162] →
 ∃ x163 x164, CellsAt w36 ⟨x5, 0, none⟩ [.q x163, .bool x164] ∧
 K (.agg #[.q x163, .bool x164]) w36))
 (J w34)))
 (cond (x138 == 40)
 (∃ (J6 : Bool → World → Prop),
 (∃ x165, w8.cell? ⟨x14, 3, none⟩ = some (.q x165) ∧
 cond (decide (x165 ≥ 1))
 (∃ x166 x167 x168 x169 x170, CellsAt w8 ⟨x14, 0, none⟩ [.q x166, .s x167, .q x168, .q x169, .q x170] ∧
 ∃ x171, w8.cell? ⟨x14, 3, none⟩ = some (.q x171) ∧
 Calls Try.prog 58 #[.agg #[.q x166, .s x167, .q x168, .q x169, .q x170], .q x171] w8 (Ret fun x172 w37 =>
 ∃ x173, x172 = .bool x173 ∧
 J6 x173 w37))
 (J6 false w8)) ∧
 ∀ (_x174 : Nat → Value) (x175 : Bool) (w38 : World), J6 x175 w38 →
 cond (x175)
 (∃ x176 x177, CellsAt w38 ⟨x16, 0, none⟩ [.q x176, .bool x177] ∧
 ∃ x178, w38.cell? ⟨x14, 3, none⟩ = some (.q x178) ∧
 Calls Try.prog 59 #[.slice x0 x1 x2, .agg #[.q x176, .bool x177], .s [80], .q (IntKind.i64.wrap (x178 - 1))] w38 (Ret fun x179 w39 =>
 ∃ x180 x181, x179 = .agg #[.q x180, .bool x181] ∧
 Calls Try.prog 62 #[.slice x0 x1 x2, .agg #[.q x180, .bool x181], .s [66]] w39 (Ret fun x182 w40 =>
 ∃ x183 x184, x182 = .agg #[.q x183, .bool x184] ∧
 Writable w40 ⟨x5, 0, none⟩ 2 ∧ ∀ w41, w41 = setCells w40 ⟨x5, 0, none⟩ [.q x183, .bool x184] →
 ∃ x185 x186, CellsAt w41 ⟨x5, 0, none⟩ [.q x185, .bool x186] ∧
 K (.agg #[.q x185, .bool x186]) w41)))
 (J w38))
 (J w8))))
 (J w8))))))))) ∧
 ∀ (_x187 : Nat → Value) (w42 : World), J w42 →
 ∃ x188 x189, CellsAt w42 ⟨x15, 0, none⟩ [.q x188, .bool x189] ∧
 Writable w42 ⟨x5, 0, none⟩ 2 ∧ ∀ w43, w43 = setCells w42 ⟨x5, 0, none⟩ [.q x188, .bool x189] →
 ∃ x190 x191, CellsAt w43 ⟨x5, 0, none⟩ [.q x190, .bool x191] ∧
 K (.agg #[.q x190, .bool x191]) w43))
theorem R09_Piece_ok (x0 : Option Addr) (x1 : Nat) (x2 : Nat) (x3 : Int) (x4 : List UInt8) (K : Value → World → Prop) (w : World) (h : R09_Piece_wp x0 x1 x2 x3 x4 K w) : Calls Try.prog 33 #[.slice x0 x1 x2, .q x3, .s x4] w (Ret K) :=
 calls_of { cuts := [(15, []), (31486, [(60, .bool)]), (125950, [(81, .bool)]), (503806, [(95, .bool)]), (2015230, [(112, .bool)]), (128974826, [(141, .bool)]), (2063597246, [(160, .bool)])] } Try.func33 (by kernel_rfl) h
def R09_all_wp (x0 : Option Addr) (x1 : Nat) (x2 : Nat) (x3 : Int) (x4 : Bool) (x5 : List UInt8) (x6 : Int) (K : Value → World → Prop) (w : World) : Prop :=
 ∀ x7 w1, x7 = w.heap.size → w1 = w.alloc (.cells #[.q x3, .bool x4] 72) →
 ∀ x8 w2, x8 = w1.heap.size → w2 = w1.alloc (.cells #[.q 0, .bool false] 72) →
 ∃ (I : Int → World → Prop) (x9 : Int → World → Nat), I 0 w2 ∧
 ∀ (_x10 : Nat → Value) (x11 : Int) (w3 : World), I x11 w3 →
 ∃ (J : Bool → World → Prop),
 (cond (decide (x11 < x6))
 (∃ x12, w3.cell? ⟨x7, 1, none⟩ = some (.bool x12) ∧
 J x12 w3)
 (J false w3)) ∧
 ∀ (_x13 : Nat → Value) (x14 : Bool) (w4 : World), J x14 w4 →
 cond (x14)
 (∃ x15, w4.cell? ⟨x7, 0, none⟩ = some (.q x15) ∧
 Calls Try.prog 33 #[.slice x0 x1 x2, .q x15, .s x5] w4 (Ret fun x16 w5 =>
 ∃ x17 x18, x16 = .agg #[.q x17, .bool x18] ∧
 Writable w5 ⟨x7, 0, none⟩ 2 ∧ ∀ w6, w6 = setCells w5 ⟨x7, 0, none⟩ [.q x17, .bool x18] →
 I (IntKind.i64.wrap (x11 + 1)) w6 ∧ x9 (IntKind.i64.wrap (x11 + 1)) w6 < x9 x11 w3))
 (∃ x19 x20, CellsAt w4 ⟨x7, 0, none⟩ [.q x19, .bool x20] ∧
 Writable w4 ⟨x8, 0, none⟩ 2 ∧ ∀ w7, w7 = setCells w4 ⟨x8, 0, none⟩ [.q x19, .bool x20] →
 ∃ x21 x22, CellsAt w7 ⟨x8, 0, none⟩ [.q x21, .bool x22] ∧
 K (.agg #[.q x21, .bool x22]) w7)
theorem R09_all_ok (x0 : Option Addr) (x1 : Nat) (x2 : Nat) (x3 : Int) (x4 : Bool) (x5 : List UInt8) (x6 : Int) (K : Value → World → Prop) (w : World) (h : R09_all_wp x0 x1 x2 x3 x4 x5 x6 K w) : Calls Try.prog 59 #[.slice x0 x1 x2, .agg #[.q x3, .bool x4], .s x5, .q x6] w (Ret K) :=
 calls_of { loops := [(26, [(9, .int .i64)])], cuts := [(104, [(16, .bool)])] } Try.func59 (by kernel_rfl) h
def R09_row_wp (x0 : Option Addr) (x1 : Nat) (x2 : Nat) (x3 : Int) (x4 : Bool) (x5 : List UInt8) (K : Value → World → Prop) (w : World) : Prop :=
 ∀ x6 w1, x6 = w.heap.size → w1 = w.alloc (.cells #[.q x3, .bool x4] 72) →
 ∀ x7 w2, x7 = w1.heap.size → w2 = w1.alloc (.cells #[.q 0, .bool false] 72) →
 ∃ (I : Int → World → Prop) (x8 : Int → World → Nat), I 0 w2 ∧
 ∀ (_x9 : Nat → Value) (x10 : Int) (w3 : World), I x10 w3 →
 ∃ (J : Bool → World → Prop),
 (cond (decide (x10 < (x5.length : Int)))
 (∃ x11, w3.cell? ⟨x6, 1, none⟩ = some (.bool x11) ∧
 J x11 w3)
 (J false w3)) ∧
 ∀ (_x12 : Nat → Value) (x13 : Bool) (w4 : World), J x13 w4 →
 cond (x13)
 (∃ (J1 : World → Prop),
 (∀ w5, w5 = w4.drew →
 ∃ x14, w5.cell? ⟨x6, 0, none⟩ = some (.q x14) ∧
 (((0 : Int) ≤ (IntKind.i64.wrap (x10 + 1)) ∧ (IntKind.i64.wrap (x10 + 1)) ≤ (x5.length : Int)) ∧ (0 : Int) ≤ x10 ∧ x10 ≤ ((IntKind.i64.wrap (x10 + 1)).toNat : Int)) ∧
 Calls Try.prog 33 #[.slice x0 x1 x2, .q x14, .string (mkS ((x5.take (IntKind.i64.wrap (x10 + 1)).toNat).drop x10.toNat))] w5 (Ret fun x15 w6 =>
 ∃ x16 x17, x15 = .agg #[.q x16, .bool x17] ∧
 Writable w6 ⟨x6, 0, none⟩ 2 ∧ ∀ w7, w7 = setCells w6 ⟨x6, 0, none⟩ [.q x16, .bool x17] →
 J1 w7)) ∧
 ∀ (_x18 : Nat → Value) (w8 : World), J1 w8 →
 I (IntKind.i64.wrap (x10 + 1)) w8 ∧ x8 (IntKind.i64.wrap (x10 + 1)) w8 < x8 x10 w3)
 (∃ x19 x20, CellsAt w4 ⟨x6, 0, none⟩ [.q x19, .bool x20] ∧
 Writable w4 ⟨x7, 0, none⟩ 2 ∧ ∀ w9, w9 = setCells w4 ⟨x7, 0, none⟩ [.q x19, .bool x20] →
 ∃ x21 x22, CellsAt w9 ⟨x7, 0, none⟩ [.q x21, .bool x22] ∧
 K (.agg #[.q x21, .bool x22]) w9)
theorem R09_row_ok (x0 : Option Addr) (x1 : Nat) (x2 : Nat) (x3 : Int) (x4 : Bool) (x5 : List UInt8) (K : Value → World → Prop) (w : World) (h : R09_row_wp x0 x1 x2 x3 x4 x5 K w) : Calls Try.prog 62 #[.slice x0 x1 x2, .agg #[.q x3, .bool x4], .s x5] w (Ret K) :=
 calls_of { loops := [(26, [(7, .int .i64)])], cuts := [(104, [(15, .bool)]), (105, [])] } Try.func62 (by kernel_rfl) h
def R09_term_wp (x0 : Option Addr) (x1 : Nat) (x2 : Nat) (x3 : Int) (x4 : List UInt8) (x5 : Int) (x6 : Int) (x7 : Int) (x8 : Int) (x9 : Bool) (x10 : Int) (x11 : Bool) (K : Value → World → Prop) (w : World) : Prop :=
 ∀ x12 w1, x12 = w.heap.size → w1 = w.alloc (.cells #[.q x3, .s x4, .q x5, .q x6, .q x7] 39) →
 ∀ x13 w2, x13 = w1.heap.size → w2 = w1.alloc (.cells #[.q x8, .bool x9] 72) →
 ∀ x14 w3, x14 = w2.heap.size → w3 = w2.alloc (.cells #[.q x10, .bool x11] 72) →
 ∀ x15 w4, x15 = w3.heap.size → w4 = w3.alloc (.cells #[.q 0, .bool false] 72) →
 ∃ (J : Bool → World → Prop),
 (∃ x16, w4.cell? ⟨x12, 0, none⟩ = some (.q x16) ∧
 cond (x16 == 1)
 (∃ x17, w4.cell? ⟨x12, 1, none⟩ = some (.s x17) ∧
 cond (x17 == [])
 (∃ x18, w4.cell? ⟨x12, 3, none⟩ = some (.q x18) ∧
 cond (x18 == 0)
 (∃ x19, w4.cell? ⟨x12, 2, none⟩ = some (.q x19) ∧
 cond (decide (x19 ≥ 0))
 (∃ x20, w4.cell? ⟨x12, 2, none⟩ = some (.q x20) ∧
 J (decide (x20 ≤ 999999999999999999)) w4)
 (J false w4))
 (J false w4))
 (J false w4))
 (J false w4)) ∧
 ∀ (_x21 : Nat → Value) (x22 : Bool) (w5 : World), J x22 w5 →
 cond (x22)
 (∃ x23 x24, CellsAt w5 ⟨x14, 0, none⟩ [.q x23, .bool x24] ∧
 Writable w5 ⟨x15, 0, none⟩ 2 ∧ ∀ w6, w6 = setCells w5 ⟨x15, 0, none⟩ [.q x23, .bool x24] →
 ∃ x25 x26, CellsAt w6 ⟨x15, 0, none⟩ [.q x25, .bool x26] ∧
 K (.agg #[.q x25, .bool x26]) w6)
 (∃ (J1 : Bool → World → Prop),
 (∃ x27, w5.cell? ⟨x12, 0, none⟩ = some (.q x27) ∧
 cond (x27 == 2)
 (∃ x28 x29 x30 x31 x32, CellsAt w5 ⟨x12, 0, none⟩ [.q x28, .s x29, .q x30, .q x31, .q x32] ∧
 Calls Try.prog 58 #[.agg #[.q x28, .s x29, .q x30, .q x31, .q x32], .q 0] w5 (Ret fun x33 w7 =>
 ∃ x34, x33 = .bool x34 ∧
 J1 x34 w7))
 (J1 false w5)) ∧
 ∀ (_x35 : Nat → Value) (x36 : Bool) (w8 : World), J1 x36 w8 →
 cond (x36)
 (∃ x37 x38, CellsAt w8 ⟨x14, 0, none⟩ [.q x37, .bool x38] ∧
 Writable w8 ⟨x15, 0, none⟩ 2 ∧ ∀ w9, w9 = setCells w8 ⟨x15, 0, none⟩ [.q x37, .bool x38] →
 ∃ x39 x40, CellsAt w9 ⟨x15, 0, none⟩ [.q x39, .bool x40] ∧
 K (.agg #[.q x39, .bool x40]) w9)
 (∃ (J2 : Bool → World → Prop),
 (∃ x41, w8.cell? ⟨x12, 0, none⟩ = some (.q x41) ∧
 cond (x41 == 3)
 (∃ x42 x43 x44 x45 x46, CellsAt w8 ⟨x12, 0, none⟩ [.q x42, .s x43, .q x44, .q x45, .q x46] ∧
 Calls Try.prog 60 #[.agg #[.q x42, .s x43, .q x44, .q x45, .q x46], .q 1] w8 (Ret fun x47 w10 =>
 ∃ x48, x47 = .bool x48 ∧
 J2 x48 w10))
 (∃ x49, w8.cell? ⟨x12, 0, none⟩ = some (.q x49) ∧
 cond (x49 == 4)
 (∃ x50 x51 x52 x53 x54, CellsAt w8 ⟨x12, 0, none⟩ [.q x50, .s x51, .q x52, .q x53, .q x54] ∧
 Calls Try.prog 60 #[.agg #[.q x50, .s x51, .q x52, .q x53, .q x54], .q 1] w8 (Ret fun x55 w11 =>
 ∃ x56, x55 = .bool x56 ∧
 J2 x56 w11))
 (J2 false w8))) ∧
 ∀ (_x57 : Nat → Value) (x58 : Bool) (w12 : World), J2 x58 w12 →
 cond (x58)
 (∃ x59 x60, CellsAt w12 ⟨x14, 0, none⟩ [.q x59, .bool x60] ∧
 Calls Try.prog 62 #[.slice x0 x1 x2, .agg #[.q x59, .bool x60], .s [69]] w12 (Ret fun x61 w13 =>
 ∃ x62 x63, x61 = .agg #[.q x62, .bool x63] ∧
 Writable w13 ⟨x15, 0, none⟩ 2 ∧ ∀ w14, w14 = setCells w13 ⟨x15, 0, none⟩ [.q x62, .bool x63] →
 ∃ x64 x65, CellsAt w14 ⟨x15, 0, none⟩ [.q x64, .bool x65] ∧
 K (.agg #[.q x64, .bool x65]) w14))
 (∃ (J3 : Bool → World → Prop),
 (∃ x66, w12.cell? ⟨x12, 0, none⟩ = some (.q x66) ∧
 cond (decide (x66 ≥ 5))
 (∃ x67, w12.cell? ⟨x12, 0, none⟩ = some (.q x67) ∧
 cond (decide (x67 ≤ 17))
 (∃ x68 x69 x70 x71 x72, CellsAt w12 ⟨x12, 0, none⟩ [.q x68, .s x69, .q x70, .q x71, .q x72] ∧
 Calls Try.prog 60 #[.agg #[.q x68, .s x69, .q x70, .q x71, .q x72], .q 2] w12 (Ret fun x73 w15 =>
 ∃ x74, x73 = .bool x74 ∧
 J3 x74 w15))
 (J3 false w12))
 (J3 false w12)) ∧
 ∀ (_x75 : Nat → Value) (x76 : Bool) (w16 : World), J3 x76 w16 →
 cond (x76)
 (∃ x77 x78, CellsAt w16 ⟨x14, 0, none⟩ [.q x77, .bool x78] ∧
 Calls Try.prog 62 #[.slice x0 x1 x2, .agg #[.q x77, .bool x78], .s [69, 69]] w16 (Ret fun x79 w17 =>
 ∃ x80 x81, x79 = .agg #[.q x80, .bool x81] ∧
 Writable w17 ⟨x15, 0, none⟩ 2 ∧ ∀ w18, w18 = setCells w17 ⟨x15, 0, none⟩ [.q x80, .bool x81] →
 ∃ x82 x83, CellsAt w18 ⟨x15, 0, none⟩ [.q x82, .bool x83] ∧
 K (.agg #[.q x82, .bool x83]) w18))
 (∃ x84 x85, CellsAt w16 ⟨x13, 0, none⟩ [.q x84, .bool x85] ∧
 Writable w16 ⟨x15, 0, none⟩ 2 ∧ ∀ w19, w19 = setCells w16 ⟨x15, 0, none⟩ [.q x84, .bool x85] →
 ∃ x86 x87, CellsAt w19 ⟨x15, 0, none⟩ [.q x86, .bool x87] ∧
 K (.agg #[.q x86, .bool x87]) w19))))
theorem R09_term_ok (x0 : Option Addr) (x1 : Nat) (x2 : Nat) (x3 : Int) (x4 : List UInt8) (x5 : Int) (x6 : Int) (x7 : Int) (x8 : Int) (x9 : Bool) (x10 : Int) (x11 : Bool) (K : Value → World → Prop) (w : World) (h : R09_term_wp x0 x1 x2 x3 x4 x5 x6 x7 x8 x9 x10 x11 K w) : Calls Try.prog 55 #[.slice x0 x1 x2, .agg #[.q x3, .s x4, .q x5, .q x6, .q x7], .agg #[.q x8, .bool x9], .agg #[.q x10, .bool x11]] w (Ret K) :=
 calls_of { cuts := [(12, [(9, .bool)]), (51, [(34, .bool)]), (207, [(43, .bool)]), (831, [(59, .bool)])] } Try.func55 (by kernel_rfl) h
def R09_stmt_wp (x0 : Option Addr) (x1 : Nat) (x2 : Nat) (x3 : Int) (x4 : List UInt8) (x5 : Int) (x6 : Int) (x7 : Int) (x8 : Int) (x9 : Bool) (x10 : Int) (x11 : Bool) (K : Value → World → Prop) (w : World) : Prop :=
 ∀ x12 w1, x12 = w.heap.size → w1 = w.alloc (.cells #[.q x3, .s x4, .q x5, .q x6, .q x7] 39) →
 ∀ x13 w2, x13 = w1.heap.size → w2 = w1.alloc (.cells #[.q x8, .bool x9] 72) →
 ∀ x14 w3, x14 = w2.heap.size → w3 = w2.alloc (.cells #[.q x10, .bool x11] 72) →
 ∀ x15 w4, x15 = w3.heap.size → w4 = w3.alloc (.cells #[.q 0, .bool false] 72) →
 ∃ (J : World → Prop),
 (∃ x16, w4.cell? ⟨x12, 0, none⟩ = some (.q x16) ∧
 ∃ (J1 : Bool → World → Prop),
 (cond (x16 == 18)
 (J1 (x16 == 18) w4)
 (cond (x16 == 19)
 (J1 (x16 == 19) w4)
 (J1 (x16 == 20) w4))) ∧
 ∀ (_x17 : Nat → Value) (x18 : Bool) (w5 : World), J1 x18 w5 →
 cond (x18)
 (∃ x19 x20 x21 x22 x23, CellsAt w5 ⟨x12, 0, none⟩ [.q x19, .s x20, .q x21, .q x22, .q x23] ∧
 Calls Try.prog 58 #[.agg #[.q x19, .s x20, .q x21, .q x22, .q x23], .q 1] w5 (Ret fun x24 w6 =>
 ∃ x25, x24 = .bool x25 ∧
 cond (x25)
 (∃ x26 x27, CellsAt w6 ⟨x14, 0, none⟩ [.q x26, .bool x27] ∧
 Calls Try.prog 62 #[.slice x0 x1 x2, .agg #[.q x26, .bool x27], .s [69]] w6 (Ret fun x28 w7 =>
 ∃ x29 x30, x28 = .agg #[.q x29, .bool x30] ∧
 Writable w7 ⟨x15, 0, none⟩ 2 ∧ ∀ w8, w8 = setCells w7 ⟨x15, 0, none⟩ [.q x29, .bool x30] →
 ∃ x31 x32, CellsAt w8 ⟨x15, 0, none⟩ [.q x31, .bool x32] ∧
 K (.agg #[.q x31, .bool x32]) w8))
 (J w6)))
 (cond (x16 == 21)
 (∃ x33 x34 x35 x36 x37, CellsAt w5 ⟨x12, 0, none⟩ [.q x33, .s x34, .q x35, .q x36, .q x37] ∧
 Calls Try.prog 60 #[.agg #[.q x33, .s x34, .q x35, .q x36, .q x37], .q 2] w5 (Ret fun x38 w9 =>
 ∃ x39, x38 = .bool x39 ∧
 cond (x39)
 (∃ x40 x41, CellsAt w9 ⟨x14, 0, none⟩ [.q x40, .bool x41] ∧
 Calls Try.prog 62 #[.slice x0 x1 x2, .agg #[.q x40, .bool x41], .s [82, 69]] w9 (Ret fun x42 w10 =>
 ∃ x43 x44, x42 = .agg #[.q x43, .bool x44] ∧
 Writable w10 ⟨x15, 0, none⟩ 2 ∧ ∀ w11, w11 = setCells w10 ⟨x15, 0, none⟩ [.q x43, .bool x44] →
 ∃ x45 x46, CellsAt w11 ⟨x15, 0, none⟩ [.q x45, .bool x46] ∧
 K (.agg #[.q x45, .bool x46]) w11))
 (J w9)))
 (cond (x16 == 22)
 (∃ x47 x48 x49 x50 x51, CellsAt w5 ⟨x12, 0, none⟩ [.q x47, .s x48, .q x49, .q x50, .q x51] ∧
 Calls Try.prog 58 #[.agg #[.q x47, .s x48, .q x49, .q x50, .q x51], .q 1] w5 (Ret fun x52 w12 =>
 ∃ x53, x52 = .bool x53 ∧
 cond (x53)
 (∃ x54 x55, CellsAt w12 ⟨x14, 0, none⟩ [.q x54, .bool x55] ∧
 Calls Try.prog 62 #[.slice x0 x1 x2, .agg #[.q x54, .bool x55], .s [82]] w12 (Ret fun x56 w13 =>
 ∃ x57 x58, x56 = .agg #[.q x57, .bool x58] ∧
 Writable w13 ⟨x15, 0, none⟩ 2 ∧ ∀ w14, w14 = setCells w13 ⟨x15, 0, none⟩ [.q x57, .bool x58] →
 ∃ x59 x60, CellsAt w14 ⟨x15, 0, none⟩ [.q x59, .bool x60] ∧
 K (.agg #[.q x59, .bool x60]) w14))
 (J w12)))
 (cond (x16 == 23)
 (∃ x61 x62 x63 x64 x65, CellsAt w5 ⟨x12, 0, none⟩ [.q x61, .s x62, .q x63, .q x64, .q x65] ∧
 Calls Try.prog 60 #[.agg #[.q x61, .s x62, .q x63, .q x64, .q x65], .q 2] w5 (Ret fun x66 w15 =>
 ∃ x67, x66 = .bool x67 ∧
 cond (x67)
 (∃ x68 x69, CellsAt w15 ⟨x14, 0, none⟩ [.q x68, .bool x69] ∧
 Calls Try.prog 62 #[.slice x0 x1 x2, .agg #[.q x68, .bool x69], .s [69, 66]] w15 (Ret fun x70 w16 =>
 ∃ x71 x72, x70 = .agg #[.q x71, .bool x72] ∧
 Writable w16 ⟨x15, 0, none⟩ 2 ∧ ∀ w17, w17 = setCells w16 ⟨x15, 0, none⟩ [.q x71, .bool x72] →
 ∃ x73 x74, CellsAt w17 ⟨x15, 0, none⟩ [.q x73, .bool x74] ∧
 K (.agg #[.q x73, .bool x74]) w17))
 (∃ x75 x76 x77 x78 x79, CellsAt w15 ⟨x12, 0, none⟩ [.q x75, .s x76, .q x77, .q x78, .q x79] ∧
 Calls Try.prog 60 #[.agg #[.q x75, .s x76, .q x77, .q x78, .q x79], .q 3] w15 (Ret fun x80 w18 =>
 ∃ x81, x80 = .bool x81 ∧
 cond (x81)
 (∃ x82 x83, CellsAt w18 ⟨x14, 0, none⟩ [.q x82, .bool x83] ∧
 Calls Try.prog 62 #[.slice x0 x1 x2, .agg #[.q x82, .bool x83], .s [69, 66, 66]] w18 (Ret fun x84 w19 =>
 ∃ x85 x86, x84 = .agg #[.q x85, .bool x86] ∧
 Writable w19 ⟨x15, 0, none⟩ 2 ∧ ∀ w20, w20 = setCells w19 ⟨x15, 0, none⟩ [.q x85, .bool x86] →
 ∃ x87 x88, CellsAt w20 ⟨x15, 0, none⟩ [.q x87, .bool x88] ∧
 K (.agg #[.q x87, .bool x88]) w20))
 (J w18)))))
 (cond (x16 == 24)
 (∃ x89 x90 x91 x92 x93, CellsAt w5 ⟨x12, 0, none⟩ [.q x89, .s x90, .q x91, .q x92, .q x93] ∧
 Calls Try.prog 60 #[.agg #[.q x89, .s x90, .q x91, .q x92, .q x93], .q 2] w5 (Ret fun x94 w21 =>
 ∃ x95, x94 = .bool x95 ∧
 cond (x95)
 (∃ x96 x97, CellsAt w21 ⟨x14, 0, none⟩ [.q x96, .bool x97] ∧
 Calls Try.prog 62 #[.slice x0 x1 x2, .agg #[.q x96, .bool x97], .s [69, 66]] w21 (Ret fun x98 w22 =>
 ∃ x99 x100, x98 = .agg #[.q x99, .bool x100] ∧
 Writable w22 ⟨x15, 0, none⟩ 2 ∧ ∀ w23, w23 = setCells w22 ⟨x15, 0, none⟩ [.q x99, .bool x100] →
 ∃ x101 x102, CellsAt w23 ⟨x15, 0, none⟩ [.q x101, .bool x102] ∧
 K (.agg #[.q x101, .bool x102]) w23))
 (J w21)))
 (cond (x16 == 25)
 (∃ (J2 : Bool → World → Prop),
 (∃ x103, w5.cell? ⟨x12, 3, none⟩ = some (.q x103) ∧
 cond (decide (x103 ≥ 1))
 (∃ x104 x105 x106 x107 x108, CellsAt w5 ⟨x12, 0, none⟩ [.q x104, .s x105, .q x106, .q x107, .q x108] ∧
 ∃ x109, w5.cell? ⟨x12, 3, none⟩ = some (.q x109) ∧
 Calls Try.prog 60 #[.agg #[.q x104, .s x105, .q x106, .q x107, .q x108], .q x109] w5 (Ret fun x110 w24 =>
 ∃ x111, x110 = .bool x111 ∧
 J2 x111 w24))
 (J2 false w5)) ∧
 ∀ (_x112 : Nat → Value) (x113 : Bool) (w25 : World), J2 x113 w25 →
 cond (x113)
 (∃ x114 x115, CellsAt w25 ⟨x14, 0, none⟩ [.q x114, .bool x115] ∧
 ∃ x116, w25.cell? ⟨x12, 3, none⟩ = some (.q x116) ∧
 Calls Try.prog 59 #[.slice x0 x1 x2, .agg #[.q x114, .bool x115], .s [67], .q x116] w25 (Ret fun x117 w26 =>
 ∃ x118 x119, x117 = .agg #[.q x118, .bool x119] ∧
 Writable w26 ⟨x15, 0, none⟩ 2 ∧ ∀ w27, w27 = setCells w26 ⟨x15, 0, none⟩ [.q x118, .bool x119] →
 ∃ x120 x121, CellsAt w27 ⟨x15, 0, none⟩ [.q x120, .bool x121] ∧
 K (.agg #[.q x120, .bool x121]) w27))
 (J w25))
 (cond (x16 == 26)
 (∃ (J3 : Bool → World → Prop),
 (∃ x122, w5.cell? ⟨x12, 3, none⟩ = some (.q x122) ∧
 cond (decide (x122 ≥ 0))
 (∃ x123 x124 x125 x126 x127, CellsAt w5 ⟨x12, 0, none⟩ [.q x123, .s x124, .q x125, .q x126, .q x127] ∧
 ∃ x128, w5.cell? ⟨x12, 3, none⟩ = some (.q x128) ∧
 Calls Try.prog 58 #[.agg #[.q x123, .s x124, .q x125, .q x126, .q x127], .q x128] w5 (Ret fun x129 w28 =>
 ∃ x130, x129 = .bool x130 ∧
 J3 x130 w28))
 (J3 false w5)) ∧
 ∀ (_x131 : Nat → Value) (x132 : Bool) (w29 : World), J3 x132 w29 →
 cond (x132)
 (∃ x133 x134, CellsAt w29 ⟨x14, 0, none⟩ [.q x133, .bool x134] ∧
 ∃ x135, w29.cell? ⟨x12, 3, none⟩ = some (.q x135) ∧
 Calls Try.prog 59 #[.slice x0 x1 x2, .agg #[.q x133, .bool x134], .s [69], .q x135] w29 (Ret fun x136 w30 =>
 ∃ x137 x138, x136 = .agg #[.q x137, .bool x138] ∧
 Writable w30 ⟨x15, 0, none⟩ 2 ∧ ∀ w31, w31 = setCells w30 ⟨x15, 0, none⟩ [.q x137, .bool x138] →
 ∃ x139 x140, CellsAt w31 ⟨x15, 0, none⟩ [.q x139, .bool x140] ∧
 K (.agg #[.q x139, .bool x140]) w31))
 (J w29))
 (∃ (J4 : Bool → World → Prop),
 (cond (x16 == 27)
 (J4 (x16 == 27) w5)
 (cond (x16 == 28)
 (J4 (x16 == 28) w5)
 (J4 (x16 == 29) w5))) ∧
 ∀ (_x141 : Nat → Value) (x142 : Bool) (w32 : World), J4 x142 w32 →
 cond (x142)
 (∃ x143 x144 x145 x146 x147, CellsAt w32 ⟨x12, 0, none⟩ [.q x143, .s x144, .q x145, .q x146, .q x147] ∧
 Calls Try.prog 60 #[.agg #[.q x143, .s x144, .q x145, .q x146, .q x147], .q 1] w32 (Ret fun x148 w33 =>
 ∃ x149, x148 = .bool x149 ∧
 cond (x149)
 (∃ x150 x151, CellsAt w33 ⟨x14, 0, none⟩ [.q x150, .bool x151] ∧
 Calls Try.prog 62 #[.slice x0 x1 x2, .agg #[.q x150, .bool x151], .s [69]] w33 (Ret fun x152 w34 =>
 ∃ x153 x154, x152 = .agg #[.q x153, .bool x154] ∧
 Writable w34 ⟨x15, 0, none⟩ 2 ∧ ∀ w35, w35 = setCells w34 ⟨x15, 0, none⟩ [.q x153, .bool x154] →
 ∃ x155 x156, CellsAt w35 ⟨x15, 0, none⟩ [.q x155, .bool x156] ∧
 K (.agg #[.q x155, .bool x156]) w35))
 (J w33)))
 (∃ (J5 : Bool → World → Prop),
 (cond (x16 == 30)
 (J5 (x16 == 30) w32)
 (J5 (x16 == 31) w32)) ∧
 ∀ (_x157 : Nat → Value) (x158 : Bool) (w36 : World), J5 x158 w36 →
 cond (x158)
 (∃ x159 x160 x161 x162 x163, CellsAt w36 ⟨x12, 0, none⟩ [.q x159, .s x160, .q x161, .q x162, .q x163] ∧
 Calls Try.prog 60 #[.agg #[.q x159, .s x160, .q x161, .q x162, .q x163], .q 0] w36 (Ret fun x164 w37 =>
 ∃ x165, x164 = .bool x165 ∧
 cond (x165)
 (∃ x166 x167, CellsAt w37 ⟨x14, 0, none⟩ [.q x166, .bool x167] ∧
 Writable w37 ⟨x15, 0, none⟩ 2 ∧ ∀ w38, w38 = setCells w37 ⟨x15, 0, none⟩ [.q x166, .bool x167] →
 ∃ x168 x169, CellsAt w38 ⟨x15, 0, none⟩ [.q x168, .bool x169] ∧
 K (.agg #[.q x168, .bool x169]) w38)
 (J w37)))
 (J w36)))))))))) ∧
 ∀ (_x170 : Nat → Value) (w39 : World), J w39 →
 ∃ x171 x172, CellsAt w39 ⟨x13, 0, none⟩ [.q x171, .bool x172] ∧
 Writable w39 ⟨x15, 0, none⟩ 2 ∧ ∀ w40, w40 = setCells w39 ⟨x15, 0, none⟩ [.q x171, .bool x172] →
 ∃ x173 x174, CellsAt w40 ⟨x15, 0, none⟩ [.q x173, .bool x174] ∧
 K (.agg #[.q x173, .bool x174]) w40
theorem R09_stmt_ok (x0 : Option Addr) (x1 : Nat) (x2 : Nat) (x3 : Int) (x4 : List UInt8) (x5 : Int) (x6 : Int) (x7 : Int) (x8 : Int) (x9 : Bool) (x10 : Int) (x11 : Bool) (K : Value → World → Prop) (w : World) (h : R09_stmt_wp x0 x1 x2 x3 x4 x5 x6 x7 x8 x9 x10 x11 K w) : Calls Try.prog 56 #[.slice x0 x1 x2, .agg #[.q x3, .s x4, .q x5, .q x6, .q x7], .agg #[.q x8, .bool x9], .agg #[.q x10, .bool x11]] w (Ret K) :=
 calls_of { cuts := [(3, []), (26, [(11, .bool)]), (110590, [(63, .bool)]), (442366, [(79, .bool)]), (442367, [(85, .bool)]), (1769471, [(94, .bool)])] } Try.func56 (by kernel_rfl) h
def R09_clause_wp (x0 : Option Addr) (x1 : Nat) (x2 : Nat) (x3 : Int) (x4 : List UInt8) (x5 : Int) (x6 : Int) (x7 : Int) (x8 : Int) (x9 : Bool) (x10 : Int) (x11 : Bool) (K : Value → World → Prop) (w : World) : Prop :=
 ∀ x12 w1, x12 = w.heap.size → w1 = w.alloc (.cells #[.q x3, .s x4, .q x5, .q x6, .q x7] 39) →
 ∀ x13 w2, x13 = w1.heap.size → w2 = w1.alloc (.cells #[.q x8, .bool x9] 72) →
 ∀ x14 w3, x14 = w2.heap.size → w3 = w2.alloc (.cells #[.q x10, .bool x11] 72) →
 ∀ x15 w4, x15 = w3.heap.size → w4 = w3.alloc (.cells #[.q 0, .bool false] 72) →
 ∃ x16, w4.cell? ⟨x12, 0, none⟩ = some (.q x16) ∧
 cond (x16 == 37)
 (∃ x17 x18 x19 x20 x21, CellsAt w4 ⟨x12, 0, none⟩ [.q x17, .s x18, .q x19, .q x20, .q x21] ∧
 Calls Try.prog 60 #[.agg #[.q x17, .s x18, .q x19, .q x20, .q x21], .q 1] w4 (Ret fun x22 w5 =>
 ∃ x23, x22 = .bool x23 ∧
 cond (x23)
 (∃ x24 x25, CellsAt w5 ⟨x14, 0, none⟩ [.q x24, .bool x25] ∧
 Calls Try.prog 62 #[.slice x0 x1 x2, .agg #[.q x24, .bool x25], .s [66]] w5 (Ret fun x26 w6 =>
 ∃ x27 x28, x26 = .agg #[.q x27, .bool x28] ∧
 Writable w6 ⟨x15, 0, none⟩ 2 ∧ ∀ w7, w7 = setCells w6 ⟨x15, 0, none⟩ [.q x27, .bool x28] →
 ∃ x29 x30, CellsAt w7 ⟨x15, 0, none⟩ [.q x29, .bool x30] ∧
 K (.agg #[.q x29, .bool x30]) w7))
 (∃ x31 x32, CellsAt w5 ⟨x13, 0, none⟩ [.q x31, .bool x32] ∧
 Writable w5 ⟨x15, 0, none⟩ 2 ∧ ∀ w8, w8 = setCells w5 ⟨x15, 0, none⟩ [.q x31, .bool x32] →
 ∃ x33 x34, CellsAt w8 ⟨x15, 0, none⟩ [.q x33, .bool x34] ∧
 K (.agg #[.q x33, .bool x34]) w8)))
 (∃ (J : List UInt8 → World → Prop),
 (∃ x35, w4.cell? ⟨x12, 0, none⟩ = some (.q x35) ∧
 cond (x35 == 34)
 (J [82, 66] w4)
 (cond (x35 == 35)
 (J [82, 69, 66] w4)
 (cond (x35 == 36)
 (J [69, 66] w4)
 (∃ x36 x37, CellsAt w4 ⟨x13, 0, none⟩ [.q x36, .bool x37] ∧
 Writable w4 ⟨x15, 0, none⟩ 2 ∧ ∀ w9, w9 = setCells w4 ⟨x15, 0, none⟩ [.q x36, .bool x37] →
 ∃ x38 x39, CellsAt w9 ⟨x15, 0, none⟩ [.q x38, .bool x39] ∧
 K (.agg #[.q x38, .bool x39]) w9)))) ∧
 ∀ (_x40 : Nat → Value) (x41 : List UInt8) (w10 : World), J x41 w10 →
 ∃ (J1 : List UInt8 → World → Prop),
 (∃ x42, w10.cell? ⟨x12, 2, none⟩ = some (.q x42) ∧
 cond (x42 == 1)
 ((([69].length + x41.length : Nat) : Int) ≤ IntKind.i64.max ∧
 J1 ([69] ++ x41) w10)
 (J1 x41 w10)) ∧
 ∀ (_x43 : Nat → Value) (x44 : List UInt8) (w11 : World), J1 x44 w11 →
 ∃ (J2 : Bool → World → Prop),
 (∀ w12, w12 = w11.drew →
 ∃ (S : World → Prop), S w12 ∧
 ∃ x45, (∀ u, S u → u.cell? ⟨x12, 2, none⟩ = some (.q x45)) ∧
 cond (decide (x45 < 0))
 (J2 true w12)
 (∃ x46, (∀ u, S u → u.cell? ⟨x12, 2, none⟩ = some (.q x46)) ∧
 cond (decide (x46 > 1))
 (J2 true w12)
 (∃ x47, (∀ u, S u → u.cell? ⟨x12, 3, none⟩ = some (.q x47)) ∧
 cond (x47 != (x44.length : Int))
 (J2 true w12)
 (∃ x48, (∀ u, S u → u.cell? ⟨x12, 0, none⟩ = some (.q x48)) ∧
 ∃ x49, (∀ u, S u → u.cell? ⟨x12, 1, none⟩ = some (.s x49)) ∧
 Calls Try.prog 61 #[.s x49] w12 (Ret fun x50 w13 =>
 ∃ x51, x50 = .bool x51 ∧
 S w13 ∧
 cond (!((x48 == 34) == x51))
 (J2 true w13)
 (∃ x52, (∀ u, (fun u => u = w13) u → u.cell? ⟨x12, 0, none⟩ = some (.q x52)) ∧
 cond (x52 != 34)
 (∃ x53, (∀ u, (fun u => u = w13) u → u.cell? ⟨x12, 1, none⟩ = some (.s x53)) ∧
 J2 (!(x53 == [])) w13)
 (J2 false w13))))))) ∧
 ∀ (_x54 : Nat → Value) (x55 : Bool) (w14 : World), J2 x55 w14 →
 cond (x55)
 (∃ x56 x57, CellsAt w14 ⟨x13, 0, none⟩ [.q x56, .bool x57] ∧
 Writable w14 ⟨x15, 0, none⟩ 2 ∧ ∀ w15, w15 = setCells w14 ⟨x15, 0, none⟩ [.q x56, .bool x57] →
 ∃ x58 x59, CellsAt w15 ⟨x15, 0, none⟩ [.q x58, .bool x59] ∧
 K (.agg #[.q x58, .bool x59]) w15)
 (∃ x60 x61, CellsAt w14 ⟨x14, 0, none⟩ [.q x60, .bool x61] ∧
 Calls Try.prog 62 #[.slice x0 x1 x2, .agg #[.q x60, .bool x61], .s x44] w14 (Ret fun x62 w16 =>
 ∃ x63 x64, x62 = .agg #[.q x63, .bool x64] ∧
 Writable w16 ⟨x15, 0, none⟩ 2 ∧ ∀ w17, w17 = setCells w16 ⟨x15, 0, none⟩ [.q x63, .bool x64] →
 ∃ x65 x66, CellsAt w17 ⟨x15, 0, none⟩ [.q x65, .bool x66] ∧
 K (.agg #[.q x65, .bool x66]) w17)))
theorem R09_clause_ok (x0 : Option Addr) (x1 : Nat) (x2 : Nat) (x3 : Int) (x4 : List UInt8) (x5 : Int) (x6 : Int) (x7 : Int) (x8 : Int) (x9 : Bool) (x10 : Int) (x11 : Bool) (K : Value → World → Prop) (w : World) (h : R09_clause_wp x0 x1 x2 x3 x4 x5 x6 x7 x8 x9 x10 x11 K w) : Calls Try.prog 57 #[.slice x0 x1 x2, .agg #[.q x3, .s x4, .q x5, .q x6, .q x7], .agg #[.q x8, .bool x9], .agg #[.q x10, .bool x11]] w (Ret K) :=
 calls_of { cuts := [(15, [(9, .string)]), (31, [(9, .string)]), (126, [(66, .bool)])] } Try.func57 (by kernel_rfl) h
def R09_name_wp (x0 : Int) (x1 : List UInt8) (x2 : Int) (x3 : Int) (x4 : Int) (x5 : Int) (K : Value → World → Prop) (w : World) : Prop :=
 ∀ x6 w1, x6 = w.heap.size → w1 = w.alloc (.cells #[.q x0, .s x1, .q x2, .q x3, .q x4] 39) →
 ∃ x7, w1.cell? ⟨x6, 1, none⟩ = some (.s x7) ∧
 Calls Try.prog 61 #[.s x7] w1 (Ret fun x8 w2 =>
 ∃ x9, x8 = .bool x9 ∧
 cond (x9)
 (∃ x10, w2.cell? ⟨x6, 2, none⟩ = some (.q x10) ∧
 cond (x10 == 0)
 (∃ x11, w2.cell? ⟨x6, 3, none⟩ = some (.q x11) ∧
 K (.bool (x11 == x5)) w2)
 (K (.bool false) w2))
 (K (.bool false) w2))
theorem R09_name_ok (x0 : Int) (x1 : List UInt8) (x2 : Int) (x3 : Int) (x4 : Int) (x5 : Int) (K : Value → World → Prop) (w : World) (h : R09_name_wp x0 x1 x2 x3 x4 x5 K w) : Calls Try.prog 58 #[.agg #[.q x0, .s x1, .q x2, .q x3, .q x4], .q x5] w (Ret K) :=
 calls_of {} Try.func58 (by kernel_rfl) h
def R09_bare_wp (x0 : Int) (x1 : List UInt8) (x2 : Int) (x3 : Int) (x4 : Int) (x5 : Int) (K : Value → World → Prop) (w : World) : Prop :=
 ∀ x6 w1, x6 = w.heap.size → w1 = w.alloc (.cells #[.q x0, .s x1, .q x2, .q x3, .q x4] 39) →
 ∃ x7, w1.cell? ⟨x6, 1, none⟩ = some (.s x7) ∧
 cond (x7 == [])
 (∃ x8, w1.cell? ⟨x6, 2, none⟩ = some (.q x8) ∧
 cond (x8 == 0)
 (∃ x9, w1.cell? ⟨x6, 3, none⟩ = some (.q x9) ∧
 K (.bool (x9 == x5)) w1)
 (K (.bool false) w1))
 (K (.bool false) w1)
theorem R09_bare_ok (x0 : Int) (x1 : List UInt8) (x2 : Int) (x3 : Int) (x4 : Int) (x5 : Int) (K : Value → World → Prop) (w : World) (h : R09_bare_wp x0 x1 x2 x3 x4 x5 K w) : Calls Try.prog 60 #[.agg #[.q x0, .s x1, .q x2, .q x3, .q x4], .q x5] w (Ret K) :=
 calls_of {} Try.func60 (by kernel_rfl) h
def L11_live_wp (K : Value → World → Prop) (w : World) : Prop :=
 Calls Try.prog 7 #[.s [109, 97, 105, 110, 32, 123, 32, 125]] w (Ret fun x0 w1 =>
 ∃ x1 x2 x3 x4 x5, x0 = .tuple #[.slice x1 x2 x3, .q x4, .q x5] ∧
 Calls Try.prog 7 #[.s [109, 97, 105, 110, 32, 123, 32, 99, 32, 33, 32, 59, 32, 125]] w1 (Ret fun x6 w2 =>
 ∃ x7 x8 x9 x10 x11, x6 = .tuple #[.slice x7 x8 x9, .q x10, .q x11] ∧
 cond ((x2 : Int) == 3)
 (((0 : Int) ≤ 1 ∧ 1 < (x2 : Int)) ∧
 ptrOr x1 (fun x12 =>
 ∃ x13, w2.cell? (x12.add (1 * 5)) = some (.q x13) ∧
 cond (x13 == 41)
 (cond (x4 == 0)
 (cond (x5 == 0)
 (cond (x10 == 11)
 (K (.bool (x11 == 11)) w2)
 (K (.bool false) w2))
 (K (.bool false) w2))
 (K (.bool false) w2))
 (K (.bool false) w2)))
 (K (.bool false) w2)))
theorem L11_live_ok (K : Value → World → Prop) (w : World) (h : L11_live_wp K w) : Calls Try.prog 6 #[] w (Ret K) :=
 calls_of {} Try.func6 (by kernel_rfl) h
def L11_ParseShapes_wp (x0 : List UInt8) (K : Value → World → Prop) (w : World) : Prop :=
 cond (decide ((x0.length : Int) > 1500))
 (Calls Try.prog 6 #[] w (Ret fun x1 w1 =>
 ∃ x2, x1 = .bool x2 ∧
 K (.bool x2) w1))
 (Calls Try.prog 7 #[.s x0] w (Ret fun x3 w2 =>
 ∃ x4 x5 x6 x7 x8, x3 = .tuple #[.slice x4 x5 x6, .q x7, .q x8] ∧
 cond (x8 != 0)
 (cond ((x5 : Int) == 0)
 (Calls Try.prog 10 #[.s x0] w2 (Ret fun x9 w3 =>
 ∃ x10 x11 x12 x13 x14, x9 = .agg #[.slice x10 x11 x12, .q x13, .q x14] ∧
 cond (x14 != 0)
 (Calls Try.prog 6 #[] w3 (Ret fun x15 w4 =>
 ∃ x16, x15 = .bool x16 ∧
 K (.bool x16) w4))
 (Calls Try.prog 9 #[.s x0] w3 (Ret fun x17 w5 =>
 ∃ x18 x19 x20 x21 x22, x17 = .agg #[.slice x18 x19 x20, .q x21, .q x22] ∧
 cond (x22 != 0)
 (Calls Try.prog 6 #[] w5 (Ret fun x23 w6 =>
 ∃ x24, x23 = .bool x24 ∧
 K (.bool x24) w6))
 (K (.bool false) w5)))))
 (K (.bool false) w2))
 (Calls Try.prog 11 #[.slice x4 x5 x6] w2 (Ret fun x25 w7 =>
 ∃ x26, x25 = .bool x26 ∧
 cond (x26)
 (Calls Try.prog 6 #[] w7 (Ret fun x27 w8 =>
 ∃ x28, x27 = .bool x28 ∧
 K (.bool x28) w8))
 (K (.bool false) w7)))))
theorem L11_ParseShapes_ok (x0 : List UInt8) (K : Value → World → Prop) (w : World) (h : L11_ParseShapes_wp x0 K w) : Calls Try.prog 5 #[.s x0] w (Ret K) :=
 calls_of {} Try.func5 (by kernel_rfl) h
end Go.Proofs.Ytdbdkdmgfiiljaa

namespace Go.Ty
open Go.Vc Go.Lv
structure GToken where
  kind : Int
  text : List UInt8
  n : Int
  at_ : Int
  deriving DecidableEq, Inhabited
def cGToken : Cod GToken := cMap (fun x => (x.kind, x.text, x.n, x.at_)) (cPair (cInt .i64) (cPair cStr (cPair (cInt .i64) (cInt .i64))))
theorem GToken_out {m : List Nat} {w : World} {x : GToken} {cs : List Value} (h : cGToken.rep m w x cs) : cs = [.int .i64 x.kind, .string (mkS x.text), .int .i64 x.n, .int .i64 x.at_] := by
  obtain ⟨_, _, rfl, rfl, ⟨_, _, rfl, rfl, ⟨_, _, rfl, rfl, rfl⟩⟩⟩ := h
  exact rfl
theorem GToken_in {m : List Nat} {w : World} (x : GToken)   : cGToken.rep m w x [.int .i64 x.kind, .string (mkS x.text), .int .i64 x.n, .int .i64 x.at_] := ⟨[.int .i64 x.kind], [.string (mkS x.text), .int .i64 x.n, .int .i64 x.at_], rfl, rfl, ⟨[.string (mkS x.text)], [.int .i64 x.n, .int .i64 x.at_], rfl, rfl, ⟨[.int .i64 x.n], [.int .i64 x.at_], rfl, rfl, rfl⟩⟩⟩
structure GNode where
  op : Int
  name : List UInt8
  n : Int
  kids : Int
  at_ : Int
  deriving DecidableEq, Inhabited
def cGNode : Cod GNode := cMap (fun x => (x.op, x.name, x.n, x.kids, x.at_)) (cPair (cInt .i64) (cPair cStr (cPair (cInt .i64) (cPair (cInt .i64) (cInt .i64)))))
theorem GNode_out {m : List Nat} {w : World} {x : GNode} {cs : List Value} (h : cGNode.rep m w x cs) : cs = [.int .i64 x.op, .string (mkS x.name), .int .i64 x.n, .int .i64 x.kids, .int .i64 x.at_] := by
  obtain ⟨_, _, rfl, rfl, ⟨_, _, rfl, rfl, ⟨_, _, rfl, rfl, ⟨_, _, rfl, rfl, rfl⟩⟩⟩⟩ := h
  exact rfl
theorem GNode_in {m : List Nat} {w : World} (x : GNode)   : cGNode.rep m w x [.int .i64 x.op, .string (mkS x.name), .int .i64 x.n, .int .i64 x.kids, .int .i64 x.at_] := ⟨[.int .i64 x.op], [.string (mkS x.name), .int .i64 x.n, .int .i64 x.kids, .int .i64 x.at_], rfl, rfl, ⟨[.string (mkS x.name)], [.int .i64 x.n, .int .i64 x.kids, .int .i64 x.at_], rfl, rfl, ⟨[.int .i64 x.n], [.int .i64 x.kids, .int .i64 x.at_], rfl, rfl, ⟨[.int .i64 x.kids], [.int .i64 x.at_], rfl, rfl, rfl⟩⟩⟩⟩
structure Gparse_reader where
  toks : List GToken
  at_ : Int
  deep : Int
  l : List GNode
  e_ : Int
  deriving DecidableEq, Inhabited
structure GR11_cur where
  l : List GNode
  n : Int
  at_ : Int
  e_ : Int
  deriving DecidableEq, Inhabited
def cGR11_cur : Cod GR11_cur := cMap (fun x => (x.l, x.n, x.at_, x.e_)) (cPair (cSl cGNode) (cPair (cInt .i64) (cPair (cInt .i64) (cInt .i64))))
theorem GR11_cur_out {m : List Nat} {w : World} {x : GR11_cur} {cs : List Value} (h : cGR11_cur.rep m w x cs) : ∃ (a0 : Option Addr) (c0 : Nat), cs = [.slice a0 x.l.length c0, .int .i64 x.n, .int .i64 x.at_, .int .i64 x.e_] ∧ (x.l.length ≤ c0 ∧ SlR cGNode m w a0 x.l) := by
  obtain ⟨_, _, rfl, ⟨a0, c0, rfl, p0, q0⟩, ⟨_, _, rfl, rfl, ⟨_, _, rfl, rfl, rfl⟩⟩⟩ := h
  exact ⟨a0, c0, rfl, ⟨p0, q0⟩⟩
theorem GR11_cur_in {m : List Nat} {w : World} (x : GR11_cur) {a0 : Option Addr} {c0 : Nat} (h0 : (x.l.length ≤ c0 ∧ SlR cGNode m w a0 x.l)) : cGR11_cur.rep m w x [.slice a0 x.l.length c0, .int .i64 x.n, .int .i64 x.at_, .int .i64 x.e_] := ⟨[.slice a0 x.l.length c0], [.int .i64 x.n, .int .i64 x.at_, .int .i64 x.e_], rfl, ⟨_, _, rfl, h0.1, h0.2⟩, ⟨[.int .i64 x.n], [.int .i64 x.at_, .int .i64 x.e_], rfl, rfl, ⟨[.int .i64 x.at_], [.int .i64 x.e_], rfl, rfl, rfl⟩⟩⟩
structure GR10_Got where
  l : List GNode
  at_ : Int
  e_ : Int
  deriving DecidableEq, Inhabited
def cGR10_Got : Cod GR10_Got := cMap (fun x => (x.l, x.at_, x.e_)) (cPair (cSl cGNode) (cPair (cInt .i64) (cInt .i64)))
theorem GR10_Got_out {m : List Nat} {w : World} {x : GR10_Got} {cs : List Value} (h : cGR10_Got.rep m w x cs) : ∃ (a0 : Option Addr) (c0 : Nat), cs = [.slice a0 x.l.length c0, .int .i64 x.at_, .int .i64 x.e_] ∧ (x.l.length ≤ c0 ∧ SlR cGNode m w a0 x.l) := by
  obtain ⟨_, _, rfl, ⟨a0, c0, rfl, p0, q0⟩, ⟨_, _, rfl, rfl, rfl⟩⟩ := h
  exact ⟨a0, c0, rfl, ⟨p0, q0⟩⟩
theorem GR10_Got_in {m : List Nat} {w : World} (x : GR10_Got) {a0 : Option Addr} {c0 : Nat} (h0 : (x.l.length ≤ c0 ∧ SlR cGNode m w a0 x.l)) : cGR10_Got.rep m w x [.slice a0 x.l.length c0, .int .i64 x.at_, .int .i64 x.e_] := ⟨[.slice a0 x.l.length c0], [.int .i64 x.at_, .int .i64 x.e_], rfl, ⟨_, _, rfl, h0.1, h0.2⟩, ⟨[.int .i64 x.at_], [.int .i64 x.e_], rfl, rfl, rfl⟩⟩
structure GR08_List where
  l : List GToken
  at_ : Int
  e_ : Int
  deriving DecidableEq, Inhabited
def cGR08_List : Cod GR08_List := cMap (fun x => (x.l, x.at_, x.e_)) (cPair (cSl cGToken) (cPair (cInt .i64) (cInt .i64)))
theorem GR08_List_out {m : List Nat} {w : World} {x : GR08_List} {cs : List Value} (h : cGR08_List.rep m w x cs) : ∃ (a0 : Option Addr) (c0 : Nat), cs = [.slice a0 x.l.length c0, .int .i64 x.at_, .int .i64 x.e_] ∧ (x.l.length ≤ c0 ∧ SlR cGToken m w a0 x.l) := by
  obtain ⟨_, _, rfl, ⟨a0, c0, rfl, p0, q0⟩, ⟨_, _, rfl, rfl, rfl⟩⟩ := h
  exact ⟨a0, c0, rfl, ⟨p0, q0⟩⟩
theorem GR08_List_in {m : List Nat} {w : World} (x : GR08_List) {a0 : Option Addr} {c0 : Nat} (h0 : (x.l.length ≤ c0 ∧ SlR cGToken m w a0 x.l)) : cGR08_List.rep m w x [.slice a0 x.l.length c0, .int .i64 x.at_, .int .i64 x.e_] := ⟨[.slice a0 x.l.length c0], [.int .i64 x.at_, .int .i64 x.e_], rfl, ⟨_, _, rfl, h0.1, h0.2⟩, ⟨[.int .i64 x.at_], [.int .i64 x.e_], rfl, rfl, rfl⟩⟩
structure GR08_Got where
  t : GToken
  next : Int
  e_ : Int
  deriving DecidableEq, Inhabited
def cGR08_Got : Cod GR08_Got := cMap (fun x => (x.t, x.next, x.e_)) (cPair cGToken (cPair (cInt .i64) (cInt .i64)))
theorem GR08_Got_out {m : List Nat} {w : World} {x : GR08_Got} {cs : List Value} (h : cGR08_Got.rep m w x cs) : cs = [.int .i64 x.t.kind, .string (mkS x.t.text), .int .i64 x.t.n, .int .i64 x.t.at_, .int .i64 x.next, .int .i64 x.e_] := by
  obtain ⟨_, _, rfl, ⟨_, _, rfl, rfl, ⟨_, _, rfl, rfl, ⟨_, _, rfl, rfl, rfl⟩⟩⟩, ⟨_, _, rfl, rfl, rfl⟩⟩ := h
  exact rfl
theorem GR08_Got_in {m : List Nat} {w : World} (x : GR08_Got)   : cGR08_Got.rep m w x [.int .i64 x.t.kind, .string (mkS x.t.text), .int .i64 x.t.n, .int .i64 x.t.at_, .int .i64 x.next, .int .i64 x.e_] := ⟨[.int .i64 x.t.kind, .string (mkS x.t.text), .int .i64 x.t.n, .int .i64 x.t.at_], [.int .i64 x.next, .int .i64 x.e_], rfl, ⟨[.int .i64 x.t.kind], [.string (mkS x.t.text), .int .i64 x.t.n, .int .i64 x.t.at_], rfl, rfl, ⟨[.string (mkS x.t.text)], [.int .i64 x.t.n, .int .i64 x.t.at_], rfl, rfl, ⟨[.int .i64 x.t.n], [.int .i64 x.t.at_], rfl, rfl, rfl⟩⟩⟩, ⟨[.int .i64 x.next], [.int .i64 x.e_], rfl, rfl, rfl⟩⟩
structure GArr2_int where
  x0 : Int
  x1 : Int
  deriving DecidableEq, Inhabited
def cGArr2_int : Cod GArr2_int := cMap (fun x => (x.x0, x.x1)) (cPair (cInt .i64) (cInt .i64))
theorem GArr2_int_out {m : List Nat} {w : World} {x : GArr2_int} {cs : List Value} (h : cGArr2_int.rep m w x cs) : cs = [.int .i64 x.x0, .int .i64 x.x1] := by
  obtain ⟨_, _, rfl, rfl, rfl⟩ := h
  exact rfl
theorem GArr2_int_in {m : List Nat} {w : World} (x : GArr2_int)   : cGArr2_int.rep m w x [.int .i64 x.x0, .int .i64 x.x1] := ⟨[.int .i64 x.x0], [.int .i64 x.x1], rfl, rfl, rfl⟩
structure GR09_Cur where
  at_ : Int
  ok : Bool
  deriving DecidableEq, Inhabited
def cGR09_Cur : Cod GR09_Cur := cMap (fun x => (x.at_, x.ok)) (cPair (cInt .i64) cBool)
theorem GR09_Cur_out {m : List Nat} {w : World} {x : GR09_Cur} {cs : List Value} (h : cGR09_Cur.rep m w x cs) : cs = [.int .i64 x.at_, .bool x.ok] := by
  obtain ⟨_, _, rfl, rfl, rfl⟩ := h
  exact rfl
theorem GR09_Cur_in {m : List Nat} {w : World} (x : GR09_Cur)   : cGR09_Cur.rep m w x [.int .i64 x.at_, .bool x.ok] := ⟨[.int .i64 x.at_], [.bool x.ok], rfl, rfl, rfl⟩
end Go.Ty
namespace Go.Proofs.Ytdbdkdmgfiiljaa
open Go.Vc Go.Lv Go.Ty
theorem sl_39 : SlTy Try.prog 23 39 5 48 := ⟨Try.t39, .agg #[.int .i64 0, .string (mkS []), .int .i64 0, .int .i64 0, .int .i64 0], by kernel_rfl, by kernel_rfl, by kernel_rfl, by kernel_rfl, by kernel_rfl, by kernel_rfl, by decide⟩
theorem sl_44 : SlTy Try.prog 33 44 4 40 := ⟨Try.t44, .agg #[.int .i64 0, .string (mkS []), .int .i64 0, .int .i64 0], by kernel_rfl, by kernel_rfl, by kernel_rfl, by kernel_rfl, by kernel_rfl, by kernel_rfl, by decide⟩
def V_parse_Unit (toks : List GToken) (K : (List GNode) → Int → Int → Prop) : Prop :=
  ∀ (m : List Nat) (w : World), MOk m w → ∀ (toksA : Option Addr) (toksC : Nat), toks.length ≤ toksC → SlR cGToken m w toksA toks →
    Calls Try.prog 13 #[.slice toksA toks.length toksC] w (Ret fun v w' => ∃ (r0 : List GNode) (r1 : Int) (r2 : Int), K r0 r1 r2 ∧ (∃ (a0 : Option Addr) (c0 : Nat), v = .tuple #[.slice a0 r0.length c0, .q r1, .q r2] ∧ (r0.length ≤ c0 ∧ SlR cGNode m w' a0 r0)) ∧ Keep [] w w')
def V_parse_reader_see (r : Gparse_reader) (k : Int) (K : GToken → Prop) : Prop :=
  ∀ (m : List Nat) (w : World), MOk m w → ∀ (rb : Nat) (rA : Option Addr) (rC : Nat) (rA0 : Option Addr) (rC0 : Nat), Box w rb [.slice rA0 (r.toks).length rC0, .q (r.at_), .q (r.deep), .slice rA (r.l).length rC, .q (r.e_)] → (r.toks).length ≤ rC0 → SlR cGToken m w rA0 r.toks →
    Calls Try.prog 19 #[.pointer (some ⟨rb, 0, none⟩), .q k] w (Ret fun v w' => ∃ (r0 : GToken), K r0 ∧ (∃ (cs0 : List Value), v = .agg ⟨cs0⟩ ∧ cGToken.rep m w' r0 cs0) ∧ Keep [] w w')
def V_parse_reader_decl (r : Gparse_reader) (K : Gparse_reader → Prop) : Prop :=
  ∀ (m : List Nat) (w : World), MOk m w → ∀ (rb : Nat) (rA : Option Addr) (rC : Nat) (rxs : List Value) (rA0 : Option Addr) (rC0 : Nat), rb ∈ m → (∀ q, Vc.blk rA = some q → q ∈ m ∧ q ≠ rb) → Box w rb [.slice rA0 (r.toks).length rC0, .q (r.at_), .q (r.deep), .slice rA (r.l).length rC, .q (r.e_)] → Rw w 0 39 5 rA (r.l).length rC rxs → El cGNode m w (r.l) rxs → (r.toks).length ≤ rC0 → SlR cGToken m w rA0 r.toks →
    Calls Try.prog 20 #[.pointer (some ⟨rb, 0, none⟩)] w (Ret fun _ w' => ∃ (r' : Gparse_reader), K r' ∧ (True) ∧ (∃ A' C' xs', Box w' rb [.slice rA0 (r.toks).length rC0, .q (r'.at_), .q (r'.deep), .slice A' (r'.l).length C', .q (r'.e_)] ∧ Rw w' 0 39 5 A' (r'.l).length C' xs' ∧ El cGNode ((Vc.blk A').toList ++ m) w' (r'.l) xs' ∧ (∀ q, Vc.blk A' = some q → q ∈ (Vc.blk rA).toList ∨ w.heap.size ≤ q)) ∧ Keep (rb :: (Vc.blk rA).toList) w w')
def V_parse_Text (sx : List UInt8) (K : (List GNode) → Int → Int → Prop) : Prop :=
  ∀ (m : List Nat) (w : World), MOk m w →
    Calls Try.prog 7 #[.s sx] w (Ret fun v w' => ∃ (r0 : List GNode) (r1 : Int) (r2 : Int), K r0 r1 r2 ∧ (∃ (a0 : Option Addr) (c0 : Nat), v = .tuple #[.slice a0 r0.length c0, .q r1, .q r2] ∧ (r0.length ≤ c0 ∧ SlR cGNode m w' a0 r0)) ∧ Keep [] w w')
def V_token_All (sx : List UInt8) (K : (List GToken) → Int → Int → Prop) : Prop :=
  ∀ (m : List Nat) (w : World), MOk m w →
    Calls Try.prog 12 #[.s sx] w (Ret fun v w' => ∃ (r0 : List GToken) (r1 : Int) (r2 : Int), K r0 r1 r2 ∧ (∃ (a0 : Option Addr) (c0 : Nat), v = .tuple #[.slice a0 r0.length c0, .q r1, .q r2] ∧ (r0.length ≤ c0 ∧ SlR cGToken m w' a0 r0)) ∧ Keep [] w w')
def V_parse_reader_is (r : Gparse_reader) (k : Int) (sx : List UInt8) (K : Bool → Prop) : Prop :=
  ∀ (m : List Nat) (w : World), MOk m w → ∀ (rb : Nat) (rA : Option Addr) (rC : Nat) (rA0 : Option Addr) (rC0 : Nat), Box w rb [.slice rA0 (r.toks).length rC0, .q (r.at_), .q (r.deep), .slice rA (r.l).length rC, .q (r.e_)] → (r.toks).length ≤ rC0 → SlR cGToken m w rA0 r.toks →
    Calls Try.prog 67 #[.pointer (some ⟨rb, 0, none⟩), .q k, .s sx] w (Ret fun v w' => ∃ (r0 : Bool), K r0 ∧ (v = .bool r0) ∧ Keep [] w w')
def V_parse_reader_fail (r : Gparse_reader) (ex : Int) (K : Gparse_reader → Prop) : Prop :=
  ∀ (m : List Nat) (w : World), MOk m w → ∀ (rb : Nat) (rA : Option Addr) (rC : Nat) (rA0 : Option Addr) (rC0 : Nat), rb ∈ m → Box w rb [.slice rA0 (r.toks).length rC0, .q (r.at_), .q (r.deep), .slice rA (r.l).length rC, .q (r.e_)] → (r.toks).length ≤ rC0 → SlR cGToken m w rA0 r.toks →
    Calls Try.prog 68 #[.pointer (some ⟨rb, 0, none⟩), .q ex] w (Ret fun _ w' => ∃ (r' : Gparse_reader), K r' ∧ (True) ∧ Box w' rb [.slice rA0 (r.toks).length rC0, .q (r'.at_), .q (r'.deep), .slice rA (r.l).length rC, .q (r'.e_)] ∧ Keep [rb] w w')
def V_parse_reader_eat (r : Gparse_reader) (sx : List UInt8) (K : Bool → Gparse_reader → Prop) : Prop :=
  ∀ (m : List Nat) (w : World), MOk m w → ∀ (rb : Nat) (rA : Option Addr) (rC : Nat) (rA0 : Option Addr) (rC0 : Nat), rb ∈ m → Box w rb [.slice rA0 (r.toks).length rC0, .q (r.at_), .q (r.deep), .slice rA (r.l).length rC, .q (r.e_)] → (r.toks).length ≤ rC0 → SlR cGToken m w rA0 r.toks →
    Calls Try.prog 43 #[.pointer (some ⟨rb, 0, none⟩), .s sx] w (Ret fun v w' => ∃ (r0 : Bool) (r' : Gparse_reader), K r0 r' ∧ (v = .bool r0) ∧ Box w' rb [.slice rA0 (r.toks).length rC0, .q (r'.at_), .q (r'.deep), .slice rA (r.l).length rC, .q (r'.e_)] ∧ Keep [rb] w w')
def V_parse_reader_must (r : Gparse_reader) (l : List (List UInt8)) (K : Gparse_reader → Prop) : Prop :=
  ∀ (m : List Nat) (w : World), MOk m w → ∀ (rb : Nat) (rA : Option Addr) (rC : Nat) (rA0 : Option Addr) (rC0 : Nat), rb ∈ m → Box w rb [.slice rA0 (r.toks).length rC0, .q (r.at_), .q (r.deep), .slice rA (r.l).length rC, .q (r.e_)] → (r.toks).length ≤ rC0 → SlR cGToken m w rA0 r.toks →  ∀ (lA : Option Addr) (lC : Nat), l.length ≤ lC → SlR cStr m w lA l →
    Calls Try.prog 46 #[.pointer (some ⟨rb, 0, none⟩), .slice lA l.length lC] w (Ret fun _ w' => ∃ (r' : Gparse_reader), K r' ∧ (True) ∧ Box w' rb [.slice rA0 (r.toks).length rC0, .q (r'.at_), .q (r'.deep), .slice rA (r.l).length rC, .q (r'.e_)] ∧ Keep [rb] w w')
def V_parse_reader_name (r : Gparse_reader) (K : (List UInt8) → Gparse_reader → Prop) : Prop :=
  ∀ (m : List Nat) (w : World), MOk m w → ∀ (rb : Nat) (rA : Option Addr) (rC : Nat) (rA0 : Option Addr) (rC0 : Nat), rb ∈ m → Box w rb [.slice rA0 (r.toks).length rC0, .q (r.at_), .q (r.deep), .slice rA (r.l).length rC, .q (r.e_)] → (r.toks).length ≤ rC0 → SlR cGToken m w rA0 r.toks →
    Calls Try.prog 44 #[.pointer (some ⟨rb, 0, none⟩)] w (Ret fun v w' => ∃ (r0 : List UInt8) (r' : Gparse_reader), K r0 r' ∧ (v = .s r0) ∧ Box w' rb [.slice rA0 (r.toks).length rC0, .q (r'.at_), .q (r'.deep), .slice rA (r.l).length rC, .q (r'.e_)] ∧ Keep [rb] w w')
def V_parse_reader_open (r : Gparse_reader) (op : Int) (K : Int → Gparse_reader → Prop) : Prop :=
  ∀ (m : List Nat) (w : World), MOk m w → ∀ (rb : Nat) (rA : Option Addr) (rC : Nat) (rxs : List Value) (rA0 : Option Addr) (rC0 : Nat), rb ∈ m → (∀ q, Vc.blk rA = some q → q ∈ m ∧ q ≠ rb) → Box w rb [.slice rA0 (r.toks).length rC0, .q (r.at_), .q (r.deep), .slice rA (r.l).length rC, .q (r.e_)] → Rw w 0 39 5 rA (r.l).length rC rxs → El cGNode m w (r.l) rxs → (r.toks).length ≤ rC0 → SlR cGToken m w rA0 r.toks →
    Calls Try.prog 42 #[.pointer (some ⟨rb, 0, none⟩), .q op] w (Ret fun v w' => ∃ (r0 : Int) (r' : Gparse_reader), K r0 r' ∧ (v = .q r0) ∧ (∃ A' C' xs', Box w' rb [.slice rA0 (r.toks).length rC0, .q (r'.at_), .q (r'.deep), .slice A' (r'.l).length C', .q (r'.e_)] ∧ Rw w' 0 39 5 A' (r'.l).length C' xs' ∧ El cGNode ((Vc.blk A').toList ++ m) w' (r'.l) xs' ∧ (∀ q, Vc.blk A' = some q → q ∈ (Vc.blk rA).toList ∨ w.heap.size ≤ q)) ∧ Keep (rb :: (Vc.blk rA).toList) w w')
def V_parse_reader_term (r : Gparse_reader) (up : Int) (K : Gparse_reader → Prop) : Prop :=
  ∀ (m : List Nat) (w : World), MOk m w → ∀ (rb : Nat) (rA : Option Addr) (rC : Nat) (rxs : List Value) (rA0 : Option Addr) (rC0 : Nat), rb ∈ m → (∀ q, Vc.blk rA = some q → q ∈ m ∧ q ≠ rb) → Box w rb [.slice rA0 (r.toks).length rC0, .q (r.at_), .q (r.deep), .slice rA (r.l).length rC, .q (r.e_)] → Rw w 0 39 5 rA (r.l).length rC rxs → El cGNode m w (r.l) rxs → (r.toks).length ≤ rC0 → SlR cGToken m w rA0 r.toks →
    Calls Try.prog 77 #[.pointer (some ⟨rb, 0, none⟩), .q up] w (Ret fun _ w' => ∃ (r' : Gparse_reader), K r' ∧ (True) ∧ (∃ A' C' xs', Box w' rb [.slice rA0 (r.toks).length rC0, .q (r'.at_), .q (r'.deep), .slice A' (r'.l).length C', .q (r'.e_)] ∧ Rw w' 0 39 5 A' (r'.l).length C' xs' ∧ El cGNode ((Vc.blk A').toList ++ m) w' (r'.l) xs' ∧ (∀ q, Vc.blk A' = some q → q ∈ (Vc.blk rA).toList ∨ w.heap.size ≤ q)) ∧ Keep (rb :: (Vc.blk rA).toList) w w')
def V_term_Parse (toks : List GToken) (atx : Int) (K : (List GNode) → Int → Int → Prop) : Prop :=
  ∀ (m : List Nat) (w : World), MOk m w → ∀ (toksA : Option Addr) (toksC : Nat), toks.length ≤ toksC → SlR cGToken m w toksA toks →
    Calls Try.prog 84 #[.slice toksA toks.length toksC, .q atx] w (Ret fun v w' => ∃ (r0 : List GNode) (r1 : Int) (r2 : Int), K r0 r1 r2 ∧ (∃ (a0 : Option Addr) (c0 : Nat), v = .tuple #[.slice a0 r0.length c0, .q r1, .q r2] ∧ (r0.length ≤ c0 ∧ SlR cGNode m w' a0 r0)) ∧ Keep [] w w')
def V_parse_reader_ref (r : Gparse_reader) (up : Int) (K : Gparse_reader → Prop) : Prop :=
  ∀ (m : List Nat) (w : World), MOk m w → ∀ (rb : Nat) (rA : Option Addr) (rC : Nat) (rxs : List Value) (rA0 : Option Addr) (rC0 : Nat), rb ∈ m → (∀ q, Vc.blk rA = some q → q ∈ m ∧ q ≠ rb) → Box w rb [.slice rA0 (r.toks).length rC0, .q (r.at_), .q (r.deep), .slice rA (r.l).length rC, .q (r.e_)] → Rw w 0 39 5 rA (r.l).length rC rxs → El cGNode m w (r.l) rxs → (r.toks).length ≤ rC0 → SlR cGToken m w rA0 r.toks →
    Calls Try.prog 83 #[.pointer (some ⟨rb, 0, none⟩), .q up] w (Ret fun _ w' => ∃ (r' : Gparse_reader), K r' ∧ (True) ∧ (∃ A' C' xs', Box w' rb [.slice rA0 (r.toks).length rC0, .q (r'.at_), .q (r'.deep), .slice A' (r'.l).length C', .q (r'.e_)] ∧ Rw w' 0 39 5 A' (r'.l).length C' xs' ∧ El cGNode ((Vc.blk A').toList ++ m) w' (r'.l) xs' ∧ (∀ q, Vc.blk A' = some q → q ∈ (Vc.blk rA).toList ∨ w.heap.size ≤ q)) ∧ Keep (rb :: (Vc.blk rA).toList) w w')
def V_parse_reader_block (r : Gparse_reader) (up : Int) (K : Gparse_reader → Prop) : Prop :=
  ∀ (m : List Nat) (w : World), MOk m w → ∀ (rb : Nat) (rA : Option Addr) (rC : Nat) (rxs : List Value) (rA0 : Option Addr) (rC0 : Nat), rb ∈ m → (∀ q, Vc.blk rA = some q → q ∈ m ∧ q ≠ rb) → Box w rb [.slice rA0 (r.toks).length rC0, .q (r.at_), .q (r.deep), .slice rA (r.l).length rC, .q (r.e_)] → Rw w 0 39 5 rA (r.l).length rC rxs → El cGNode m w (r.l) rxs → (r.toks).length ≤ rC0 → SlR cGToken m w rA0 r.toks →
    Calls Try.prog 48 #[.pointer (some ⟨rb, 0, none⟩), .q up] w (Ret fun _ w' => ∃ (r' : Gparse_reader), K r' ∧ (True) ∧ (∃ A' C' xs', Box w' rb [.slice rA0 (r.toks).length rC0, .q (r'.at_), .q (r'.deep), .slice A' (r'.l).length C', .q (r'.e_)] ∧ Rw w' 0 39 5 A' (r'.l).length C' xs' ∧ El cGNode ((Vc.blk A').toList ++ m) w' (r'.l) xs' ∧ (∀ q, Vc.blk A' = some q → q ∈ (Vc.blk rA).toList ∨ w.heap.size ≤ q)) ∧ Keep (rb :: (Vc.blk rA).toList) w w')
def V_parse_reader_stmt (r : Gparse_reader) (K : Gparse_reader → Prop) : Prop :=
  ∀ (m : List Nat) (w : World), MOk m w → ∀ (rb : Nat) (rA : Option Addr) (rC : Nat) (rxs : List Value) (rA0 : Option Addr) (rC0 : Nat), rb ∈ m → (∀ q, Vc.blk rA = some q → q ∈ m ∧ q ≠ rb) → Box w rb [.slice rA0 (r.toks).length rC0, .q (r.at_), .q (r.deep), .slice rA (r.l).length rC, .q (r.e_)] → Rw w 0 39 5 rA (r.l).length rC rxs → El cGNode m w (r.l) rxs → (r.toks).length ≤ rC0 → SlR cGToken m w rA0 r.toks →
    Calls Try.prog 69 #[.pointer (some ⟨rb, 0, none⟩)] w (Ret fun _ w' => ∃ (r' : Gparse_reader), K r' ∧ (True) ∧ (∃ A' C' xs', Box w' rb [.slice rA0 (r.toks).length rC0, .q (r'.at_), .q (r'.deep), .slice A' (r'.l).length C', .q (r'.e_)] ∧ Rw w' 0 39 5 A' (r'.l).length C' xs' ∧ El cGNode ((Vc.blk A').toList ++ m) w' (r'.l) xs' ∧ (∀ q, Vc.blk A' = some q → q ∈ (Vc.blk rA).toList ∨ w.heap.size ≤ q)) ∧ Keep (rb :: (Vc.blk rA).toList) w w')
def V_parse_reader_comm (r : Gparse_reader) (i : Int) (send : Int) (recv : Int) (K : Gparse_reader → Prop) : Prop :=
  ∀ (m : List Nat) (w : World), MOk m w → ∀ (rb : Nat) (rA : Option Addr) (rC : Nat) (rxs : List Value) (rA0 : Option Addr) (rC0 : Nat), rb ∈ m → (∀ q, Vc.blk rA = some q → q ∈ m ∧ q ≠ rb) → Box w rb [.slice rA0 (r.toks).length rC0, .q (r.at_), .q (r.deep), .slice rA (r.l).length rC, .q (r.e_)] → Rw w 0 39 5 rA (r.l).length rC rxs → El cGNode m w (r.l) rxs → (r.toks).length ≤ rC0 → SlR cGToken m w rA0 r.toks →
    Calls Try.prog 76 #[.pointer (some ⟨rb, 0, none⟩), .q i, .q send, .q recv] w (Ret fun _ w' => ∃ (r' : Gparse_reader), K r' ∧ (True) ∧ (∃ A' C' xs', Box w' rb [.slice rA0 (r.toks).length rC0, .q (r'.at_), .q (r'.deep), .slice A' (r'.l).length C', .q (r'.e_)] ∧ Rw w' 0 39 5 A' (r'.l).length C' xs' ∧ El cGNode ((Vc.blk A').toList ++ m) w' (r'.l) xs' ∧ (∀ q, Vc.blk A' = some q → q ∈ (Vc.blk rA).toList ∨ w.heap.size ≤ q)) ∧ Keep (rb :: (Vc.blk rA).toList) w w')
def V_parse_reader_set (r : Gparse_reader) (i : Int) (K : Gparse_reader → Prop) : Prop :=
  ∀ (m : List Nat) (w : World), MOk m w → ∀ (rb : Nat) (rA : Option Addr) (rC : Nat) (rxs : List Value) (rA0 : Option Addr) (rC0 : Nat), rb ∈ m → (∀ q, Vc.blk rA = some q → q ∈ m ∧ q ≠ rb) → Box w rb [.slice rA0 (r.toks).length rC0, .q (r.at_), .q (r.deep), .slice rA (r.l).length rC, .q (r.e_)] → Rw w 0 39 5 rA (r.l).length rC rxs → El cGNode m w (r.l) rxs → (r.toks).length ≤ rC0 → SlR cGToken m w rA0 r.toks →
    Calls Try.prog 75 #[.pointer (some ⟨rb, 0, none⟩), .q i] w (Ret fun _ w' => ∃ (r' : Gparse_reader), K r' ∧ (True) ∧ (∃ A' C' xs', Box w' rb [.slice rA0 (r.toks).length rC0, .q (r'.at_), .q (r'.deep), .slice A' (r'.l).length C', .q (r'.e_)] ∧ Rw w' 0 39 5 A' (r'.l).length C' xs' ∧ El cGNode ((Vc.blk A').toList ++ m) w' (r'.l) xs' ∧ (∀ q, Vc.blk A' = some q → q ∈ (Vc.blk rA).toList ∨ w.heap.size ≤ q)) ∧ Keep (rb :: (Vc.blk rA).toList) w w')
def V_parse_reader_clause (r : Gparse_reader) (K : Gparse_reader → Prop) : Prop :=
  ∀ (m : List Nat) (w : World), MOk m w → ∀ (rb : Nat) (rA : Option Addr) (rC : Nat) (rxs : List Value) (rA0 : Option Addr) (rC0 : Nat), rb ∈ m → (∀ q, Vc.blk rA = some q → q ∈ m ∧ q ≠ rb) → Box w rb [.slice rA0 (r.toks).length rC0, .q (r.at_), .q (r.deep), .slice rA (r.l).length rC, .q (r.e_)] → Rw w 0 39 5 rA (r.l).length rC rxs → El cGNode m w (r.l) rxs → (r.toks).length ≤ rC0 → SlR cGToken m w rA0 r.toks →
    Calls Try.prog 79 #[.pointer (some ⟨rb, 0, none⟩)] w (Ret fun _ w' => ∃ (r' : Gparse_reader), K r' ∧ (True) ∧ (∃ A' C' xs', Box w' rb [.slice rA0 (r.toks).length rC0, .q (r'.at_), .q (r'.deep), .slice A' (r'.l).length C', .q (r'.e_)] ∧ Rw w' 0 39 5 A' (r'.l).length C' xs' ∧ El cGNode ((Vc.blk A').toList ++ m) w' (r'.l) xs' ∧ (∀ q, Vc.blk A' = some q → q ∈ (Vc.blk rA).toList ∨ w.heap.size ≤ q)) ∧ Keep (rb :: (Vc.blk rA).toList) w w')
def V_parse_reader_args (r : Gparse_reader) (i : Int) (K : Gparse_reader → Prop) : Prop :=
  ∀ (m : List Nat) (w : World), MOk m w → ∀ (rb : Nat) (rA : Option Addr) (rC : Nat) (rxs : List Value) (rA0 : Option Addr) (rC0 : Nat), rb ∈ m → (∀ q, Vc.blk rA = some q → q ∈ m ∧ q ≠ rb) → Box w rb [.slice rA0 (r.toks).length rC0, .q (r.at_), .q (r.deep), .slice rA (r.l).length rC, .q (r.e_)] → Rw w 0 39 5 rA (r.l).length rC rxs → El cGNode m w (r.l) rxs → (r.toks).length ≤ rC0 → SlR cGToken m w rA0 r.toks →
    Calls Try.prog 78 #[.pointer (some ⟨rb, 0, none⟩), .q i] w (Ret fun _ w' => ∃ (r' : Gparse_reader), K r' ∧ (True) ∧ (∃ A' C' xs', Box w' rb [.slice rA0 (r.toks).length rC0, .q (r'.at_), .q (r'.deep), .slice A' (r'.l).length C', .q (r'.e_)] ∧ Rw w' 0 39 5 A' (r'.l).length C' xs' ∧ El cGNode ((Vc.blk A').toList ++ m) w' (r'.l) xs' ∧ (∀ q, Vc.blk A' = some q → q ∈ (Vc.blk rA).toList ∨ w.heap.size ≤ q)) ∧ Keep (rb :: (Vc.blk rA).toList) w w')
def V_parse_reader_size (r : Gparse_reader) (i : Int) (K : Gparse_reader → Prop) : Prop :=
  ∀ (m : List Nat) (w : World), MOk m w → ∀ (rb : Nat) (rA : Option Addr) (rC : Nat) (rxs : List Value) (rA0 : Option Addr) (rC0 : Nat), rb ∈ m → (∀ q, Vc.blk rA = some q → q ∈ m ∧ q ≠ rb) → Box w rb [.slice rA0 (r.toks).length rC0, .q (r.at_), .q (r.deep), .slice rA (r.l).length rC, .q (r.e_)] → Rw w 0 39 5 rA (r.l).length rC rxs → El cGNode m w (r.l) rxs → (r.toks).length ≤ rC0 → SlR cGToken m w rA0 r.toks →
    Calls Try.prog 45 #[.pointer (some ⟨rb, 0, none⟩), .q i] w (Ret fun _ w' => ∃ (r' : Gparse_reader), K r' ∧ (True) ∧ (∃ A' C' xs', Box w' rb [.slice rA0 (r.toks).length rC0, .q (r'.at_), .q (r'.deep), .slice A' (r'.l).length C', .q (r'.e_)] ∧ Rw w' 0 39 5 A' (r'.l).length C' xs' ∧ El cGNode ((Vc.blk A').toList ++ m) w' (r'.l) xs' ∧ (∀ q, Vc.blk A' = some q → q ∈ (Vc.blk rA).toList ∨ w.heap.size ≤ q)) ∧ Keep (rb :: (Vc.blk rA).toList) w w')
def V_parse_reader_param (r : Gparse_reader) (up : Int) (K : Gparse_reader → Prop) : Prop :=
  ∀ (m : List Nat) (w : World), MOk m w → ∀ (rb : Nat) (rA : Option Addr) (rC : Nat) (rxs : List Value) (rA0 : Option Addr) (rC0 : Nat), rb ∈ m → (∀ q, Vc.blk rA = some q → q ∈ m ∧ q ≠ rb) → Box w rb [.slice rA0 (r.toks).length rC0, .q (r.at_), .q (r.deep), .slice rA (r.l).length rC, .q (r.e_)] → Rw w 0 39 5 rA (r.l).length rC rxs → El cGNode m w (r.l) rxs → (r.toks).length ≤ rC0 → SlR cGToken m w rA0 r.toks →
    Calls Try.prog 47 #[.pointer (some ⟨rb, 0, none⟩), .q up] w (Ret fun _ w' => ∃ (r' : Gparse_reader), K r' ∧ (True) ∧ (∃ A' C' xs', Box w' rb [.slice rA0 (r.toks).length rC0, .q (r'.at_), .q (r'.deep), .slice A' (r'.l).length C', .q (r'.e_)] ∧ Rw w' 0 39 5 A' (r'.l).length C' xs' ∧ El cGNode ((Vc.blk A').toList ++ m) w' (r'.l) xs' ∧ (∀ q, Vc.blk A' = some q → q ∈ (Vc.blk rA).toList ∨ w.heap.size ≤ q)) ∧ Keep (rb :: (Vc.blk rA).toList) w w')
def V_R11_is (toks : List GToken) (atx : Int) (sx : List UInt8) (K : Bool → Prop) : Prop :=
  ∀ (m : List Nat) (w : World), MOk m w → ∀ (toksA : Option Addr) (toksC : Nat), toks.length ≤ toksC → SlR cGToken m w toksA toks →
    Calls Try.prog 49 #[.slice toksA toks.length toksC, .q atx, .s sx] w (Ret fun v w' => ∃ (r0 : Bool), K r0 ∧ (v = .bool r0) ∧ Keep [] w w')
def V_R10_Tok (toks : List GToken) (atx : Int) (K : GToken → Prop) : Prop :=
  ∀ (m : List Nat) (w : World), MOk m w → ∀ (toksA : Option Addr) (toksC : Nat), toks.length ≤ toksC → SlR cGToken m w toksA toks →
    Calls Try.prog 22 #[.slice toksA toks.length toksC, .q atx] w (Ret fun v w' => ∃ (r0 : GToken), K r0 ∧ (∃ (cs0 : List Value), v = .agg ⟨cs0⟩ ∧ cGToken.rep m w' r0 cs0) ∧ Keep [] w w')
def V_R11_from (atx : Int) (K : GR11_cur → Prop) : Prop :=
  ∀ (m : List Nat) (w : World), MOk m w →
    Calls Try.prog 21 #[.q atx] w (Ret fun v w' => ∃ (r0 : GR11_cur), K r0 ∧ (∃ (cs0 : List Value), v = .agg ⟨cs0⟩ ∧ cGR11_cur.rep m w' r0 cs0) ∧ Keep [] w w')
def V_R11_ref (toks : List GToken) (atx : Int) (K : GR11_cur → Prop) : Prop :=
  ∀ (m : List Nat) (w : World), MOk m w → ∀ (toksA : Option Addr) (toksC : Nat), toks.length ≤ toksC → SlR cGToken m w toksA toks →
    Calls Try.prog 91 #[.slice toksA toks.length toksC, .q atx] w (Ret fun v w' => ∃ (r0 : GR11_cur), K r0 ∧ (∃ (cs0 : List Value), v = .agg ⟨cs0⟩ ∧ cGR11_cur.rep m w' r0 cs0) ∧ Keep [] w w')
def V_R11_cur_name (cq : GR11_cur) (toks : List GToken) (K : GR11_cur → (List UInt8) → Prop) : Prop :=
  ∀ (m : List Nat) (w : World), MOk m w → ∀ (cqcs : List Value), cGR11_cur.rep m w cq cqcs → ∀ (toksA : Option Addr) (toksC : Nat), toks.length ≤ toksC → SlR cGToken m w toksA toks →
    Calls Try.prog 51 #[.agg ⟨cqcs⟩, .slice toksA toks.length toksC] w (Ret fun v w' => ∃ (r0 : GR11_cur) (r1 : List UInt8), K r0 r1 ∧ (∃ (cs0 : List Value), v = .tuple #[.agg ⟨cs0⟩, .s r1] ∧ cGR11_cur.rep m w' r0 cs0) ∧ Keep [] w w')
def V_R11_cur_eat (cq : GR11_cur) (toks : List GToken) (sx : List UInt8) (K : GR11_cur → Prop) : Prop :=
  ∀ (m : List Nat) (w : World), MOk m w → ∀ (cqcs : List Value), cGR11_cur.rep m w cq cqcs → ∀ (toksA : Option Addr) (toksC : Nat), toks.length ≤ toksC → SlR cGToken m w toksA toks →
    Calls Try.prog 50 #[.agg ⟨cqcs⟩, .slice toksA toks.length toksC, .s sx] w (Ret fun v w' => ∃ (r0 : GR11_cur), K r0 ∧ (∃ (cs0 : List Value), v = .agg ⟨cs0⟩ ∧ cGR11_cur.rep m w' r0 cs0) ∧ Keep [] w w')
def V_R11_cur_term (cq : GR11_cur) (toks : List GToken) (K : GR11_cur → Prop) : Prop :=
  ∀ (m : List Nat) (w : World), MOk m w → ∀ (cqcs : List Value), cGR11_cur.rep m w cq cqcs → ∀ (toksA : Option Addr) (toksC : Nat), toks.length ≤ toksC → SlR cGToken m w toksA toks →
    Calls Try.prog 87 #[.agg ⟨cqcs⟩, .slice toksA toks.length toksC] w (Ret fun v w' => ∃ (r0 : GR11_cur), K r0 ∧ (∃ (cs0 : List Value), v = .agg ⟨cs0⟩ ∧ cGR11_cur.rep m w' r0 cs0) ∧ Keep [] w w')
def V_R11_cur_under (cq : GR11_cur) (xq : GNode) (K : GR11_cur → Prop) : Prop :=
  ∀ (m : List Nat) (w : World), MOk m w → ∀ (cqcs : List Value), cGR11_cur.rep m w cq cqcs → ∀ (xqcs : List Value), cGNode.rep m w xq xqcs →
    Calls Try.prog 25 #[.agg ⟨cqcs⟩, .agg ⟨xqcs⟩] w (Ret fun v w' => ∃ (r0 : GR11_cur), K r0 ∧ (∃ (cs0 : List Value), v = .agg ⟨cs0⟩ ∧ cGR11_cur.rep m w' r0 cs0) ∧ Keep [] w w')
def V_R11_block (toks : List GToken) (atx : Int) (deep : Int) (K : GR11_cur → Prop) : Prop :=
  ∀ (m : List Nat) (w : World), MOk m w → ∀ (toksA : Option Addr) (toksC : Nat), toks.length ≤ toksC → SlR cGToken m w toksA toks →
    Calls Try.prog 70 #[.slice toksA toks.length toksC, .q atx, .q deep] w (Ret fun v w' => ∃ (r0 : GR11_cur), K r0 ∧ (∃ (cs0 : List Value), v = .agg ⟨cs0⟩ ∧ cGR11_cur.rep m w' r0 cs0) ∧ Keep [] w w')
def V_R11_stmt (toks : List GToken) (atx : Int) (deep : Int) (K : GR11_cur → Prop) : Prop :=
  ∀ (m : List Nat) (w : World), MOk m w → ∀ (toksA : Option Addr) (toksC : Nat), toks.length ≤ toksC → SlR cGToken m w toksA toks →
    Calls Try.prog 80 #[.slice toksA toks.length toksC, .q atx, .q deep] w (Ret fun v w' => ∃ (r0 : GR11_cur), K r0 ∧ (∃ (cs0 : List Value), v = .agg ⟨cs0⟩ ∧ cGR11_cur.rep m w' r0 cs0) ∧ Keep [] w w')
def V_R11_cur_add (cq : GR11_cur) (d : GR11_cur) (K : GR11_cur → Prop) : Prop :=
  ∀ (m : List Nat) (w : World), MOk m w → ∀ (cqcs : List Value), cGR11_cur.rep m w cq cqcs → ∀ (dcs : List Value), cGR11_cur.rep m w d dcs →
    Calls Try.prog 23 #[.agg ⟨cqcs⟩, .agg ⟨dcs⟩] w (Ret fun v w' => ∃ (r0 : GR11_cur), K r0 ∧ (∃ (cs0 : List Value), v = .agg ⟨cs0⟩ ∧ cGR11_cur.rep m w' r0 cs0) ∧ Keep [] w w')
def V_R11_clause (toks : List GToken) (atx : Int) (deep : Int) (K : GR11_cur → Prop) : Prop :=
  ∀ (m : List Nat) (w : World), MOk m w → ∀ (toksA : Option Addr) (toksC : Nat), toks.length ≤ toksC → SlR cGToken m w toksA toks →
    Calls Try.prog 89 #[.slice toksA toks.length toksC, .q atx, .q deep] w (Ret fun v w' => ∃ (r0 : GR11_cur), K r0 ∧ (∃ (cs0 : List Value), v = .agg ⟨cs0⟩ ∧ cGR11_cur.rep m w' r0 cs0) ∧ Keep [] w w')
def V_R11_cur_in (cq : GR11_cur) (toks : List GToken) (deep : Int) (K : GR11_cur → Prop) : Prop :=
  ∀ (m : List Nat) (w : World), MOk m w → ∀ (cqcs : List Value), cGR11_cur.rep m w cq cqcs → ∀ (toksA : Option Addr) (toksC : Nat), toks.length ≤ toksC → SlR cGToken m w toksA toks →
    Calls Try.prog 54 #[.agg ⟨cqcs⟩, .slice toksA toks.length toksC, .q deep] w (Ret fun v w' => ∃ (r0 : GR11_cur), K r0 ∧ (∃ (cs0 : List Value), v = .agg ⟨cs0⟩ ∧ cGR11_cur.rep m w' r0 cs0) ∧ Keep [] w w')
def V_R11_cur_comm (cq : GR11_cur) (toks : List GToken) (send : Int) (recv : Int) (K : GR11_cur → Int → (List UInt8) → Prop) : Prop :=
  ∀ (m : List Nat) (w : World), MOk m w → ∀ (cqcs : List Value), cGR11_cur.rep m w cq cqcs → ∀ (toksA : Option Addr) (toksC : Nat), toks.length ≤ toksC → SlR cGToken m w toksA toks →
    Calls Try.prog 86 #[.agg ⟨cqcs⟩, .slice toksA toks.length toksC, .q send, .q recv] w (Ret fun v w' => ∃ (r0 : GR11_cur) (r1 : Int) (r2 : List UInt8), K r0 r1 r2 ∧ (∃ (cs0 : List Value), v = .tuple #[.agg ⟨cs0⟩, .q r1, .s r2] ∧ cGR11_cur.rep m w' r0 cs0) ∧ Keep [] w w')
def V_R11_set (toks : List GToken) (atx : Int) (xq : GNode) (K : GR11_cur → Prop) : Prop :=
  ∀ (m : List Nat) (w : World), MOk m w → ∀ (toksA : Option Addr) (toksC : Nat), toks.length ≤ toksC → SlR cGToken m w toksA toks → ∀ (xqcs : List Value), cGNode.rep m w xq xqcs →
    Calls Try.prog 85 #[.slice toksA toks.length toksC, .q atx, .agg ⟨xqcs⟩] w (Ret fun v w' => ∃ (r0 : GR11_cur), K r0 ∧ (∃ (cs0 : List Value), v = .agg ⟨cs0⟩ ∧ cGR11_cur.rep m w' r0 cs0) ∧ Keep [] w w')
def V_R11_cur_args (cq : GR11_cur) (toks : List GToken) (K : GR11_cur → Prop) : Prop :=
  ∀ (m : List Nat) (w : World), MOk m w → ∀ (cqcs : List Value), cGR11_cur.rep m w cq cqcs → ∀ (toksA : Option Addr) (toksC : Nat), toks.length ≤ toksC → SlR cGToken m w toksA toks →
    Calls Try.prog 88 #[.agg ⟨cqcs⟩, .slice toksA toks.length toksC] w (Ret fun v w' => ∃ (r0 : GR11_cur), K r0 ∧ (∃ (cs0 : List Value), v = .agg ⟨cs0⟩ ∧ cGR11_cur.rep m w' r0 cs0) ∧ Keep [] w w')
def V_R11_decl (toks : List GToken) (atx : Int) (K : GR11_cur → Prop) : Prop :=
  ∀ (m : List Nat) (w : World), MOk m w → ∀ (toksA : Option Addr) (toksC : Nat), toks.length ≤ toksC → SlR cGToken m w toksA toks →
    Calls Try.prog 24 #[.slice toksA toks.length toksC, .q atx] w (Ret fun v w' => ∃ (r0 : GR11_cur), K r0 ∧ (∃ (cs0 : List Value), v = .agg ⟨cs0⟩ ∧ cGR11_cur.rep m w' r0 cs0) ∧ Keep [] w w')
def V_R11_cur_size (cq : GR11_cur) (toks : List GToken) (K : GR11_cur → Int → Prop) : Prop :=
  ∀ (m : List Nat) (w : World), MOk m w → ∀ (cqcs : List Value), cGR11_cur.rep m w cq cqcs → ∀ (toksA : Option Addr) (toksC : Nat), toks.length ≤ toksC → SlR cGToken m w toksA toks →
    Calls Try.prog 52 #[.agg ⟨cqcs⟩, .slice toksA toks.length toksC] w (Ret fun v w' => ∃ (r0 : GR11_cur) (r1 : Int), K r0 r1 ∧ (∃ (cs0 : List Value), v = .tuple #[.agg ⟨cs0⟩, .q r1] ∧ cGR11_cur.rep m w' r0 cs0) ∧ Keep [] w w')
def V_R11_cur_param (cq : GR11_cur) (toks : List GToken) (K : GR11_cur → Prop) : Prop :=
  ∀ (m : List Nat) (w : World), MOk m w → ∀ (cqcs : List Value), cGR11_cur.rep m w cq cqcs → ∀ (toksA : Option Addr) (toksC : Nat), toks.length ≤ toksC → SlR cGToken m w toksA toks →
    Calls Try.prog 53 #[.agg ⟨cqcs⟩, .slice toksA toks.length toksC] w (Ret fun v w' => ∃ (r0 : GR11_cur), K r0 ∧ (∃ (cs0 : List Value), v = .agg ⟨cs0⟩ ∧ cGR11_cur.rep m w' r0 cs0) ∧ Keep [] w w')
def V_R11_Unit (toks : List GToken) (K : GR10_Got → Prop) : Prop :=
  ∀ (m : List Nat) (w : World), MOk m w → ∀ (toksA : Option Addr) (toksC : Nat), toks.length ≤ toksC → SlR cGToken m w toksA toks →
    Calls Try.prog 15 #[.slice toksA toks.length toksC] w (Ret fun v w' => ∃ (r0 : GR10_Got), K r0 ∧ (∃ (cs0 : List Value), v = .agg ⟨cs0⟩ ∧ cGR10_Got.rep m w' r0 cs0) ∧ Keep [] w w')
def V_R11_Text (sx : List UInt8) (K : GR10_Got → Prop) : Prop :=
  ∀ (m : List Nat) (w : World), MOk m w →
    Calls Try.prog 9 #[.s sx] w (Ret fun v w' => ∃ (r0 : GR10_Got), K r0 ∧ (∃ (cs0 : List Value), v = .agg ⟨cs0⟩ ∧ cGR10_Got.rep m w' r0 cs0) ∧ Keep [] w w')
def V_R08_All (sx : List UInt8) (K : GR08_List → Prop) : Prop :=
  ∀ (m : List Nat) (w : World), MOk m w →
    Calls Try.prog 10 #[.s sx] w (Ret fun v w' => ∃ (r0 : GR08_List), K r0 ∧ (∃ (cs0 : List Value), v = .agg ⟨cs0⟩ ∧ cGR08_List.rep m w' r0 cs0) ∧ Keep [] w w')
def V_R10_Parse (toks : List GToken) (atx : Int) (K : GR10_Got → Prop) : Prop :=
  ∀ (m : List Nat) (w : World), MOk m w → ∀ (toksA : Option Addr) (toksC : Nat), toks.length ≤ toksC → SlR cGToken m w toksA toks →
    Calls Try.prog 92 #[.slice toksA toks.length toksC, .q atx] w (Ret fun v w' => ∃ (r0 : GR10_Got), K r0 ∧ (∃ (cs0 : List Value), v = .agg ⟨cs0⟩ ∧ cGR10_Got.rep m w' r0 cs0) ∧ Keep [] w w')
def V_token_Next (sx : List UInt8) (atx : Int) (K : GToken → Int → Int → Prop) : Prop :=
  ∀ (m : List Nat) (w : World), MOk m w →
    Calls Try.prog 18 #[.s sx, .q atx] w (Ret fun v w' => ∃ (r0 : GToken) (r1 : Int) (r2 : Int), K r0 r1 r2 ∧ (∃ (cs0 : List Value), v = .tuple #[.agg ⟨cs0⟩, .q r1, .q r2] ∧ cGToken.rep m w' r0 cs0) ∧ Keep [] w w')
def V_R08_Next (sx : List UInt8) (atx : Int) (K : GR08_Got → Prop) : Prop :=
  ∀ (m : List Nat) (w : World), MOk m w →
    Calls Try.prog 16 #[.s sx, .q atx] w (Ret fun v w' => ∃ (r0 : GR08_Got), K r0 ∧ (∃ (cs0 : List Value), v = .agg ⟨cs0⟩ ∧ cGR08_Got.rep m w' r0 cs0) ∧ Keep [] w w')
def V_R10_level (toks : List GToken) (atx : Int) (n : Int) (deep : Int) (K : GR10_Got → Prop) : Prop :=
  ∀ (m : List Nat) (w : World), MOk m w → ∀ (toksA : Option Addr) (toksC : Nat), toks.length ≤ toksC → SlR cGToken m w toksA toks →
    Calls Try.prog 97 #[.slice toksA toks.length toksC, .q atx, .q n, .q deep] w (Ret fun v w' => ∃ (r0 : GR10_Got), K r0 ∧ (∃ (cs0 : List Value), v = .agg ⟨cs0⟩ ∧ cGR10_Got.rep m w' r0 cs0) ∧ Keep [] w w')
def V_R10_one (toks : List GToken) (atx : Int) (deep : Int) (K : GR10_Got → Prop) : Prop :=
  ∀ (m : List Nat) (w : World), MOk m w → ∀ (toksA : Option Addr) (toksC : Nat), toks.length ≤ toksC → SlR cGToken m w toksA toks →
    Calls Try.prog 101 #[.slice toksA toks.length toksC, .q atx, .q deep] w (Ret fun v w' => ∃ (r0 : GR10_Got), K r0 ∧ (∃ (cs0 : List Value), v = .agg ⟨cs0⟩ ∧ cGR10_Got.rep m w' r0 cs0) ∧ Keep [] w w')
def V_R10_Op (sx : List UInt8) (K : Int → Prop) : Prop :=
  ∀ (m : List Nat) (w : World), MOk m w →
    Calls Try.prog 102 #[.s sx] w (Ret fun v w' => ∃ (r0 : Int), K r0 ∧ (v = .q r0) ∧ Keep [] w w')
def V_R10_Level (op : Int) (K : Int → Prop) : Prop :=
  ∀ (m : List Nat) (w : World), MOk m w →
    Calls Try.prog 103 #[.q op] w (Ret fun v w' => ∃ (r0 : Int), K r0 ∧ (v = .q r0) ∧ Keep [] w w')
def V_R09_Is (l : List GNode) (K : Bool → Prop) : Prop :=
  ∀ (m : List Nat) (w : World), MOk m w → ∀ (lA : Option Addr) (lC : Nat), l.length ≤ lC → SlR cGNode m w lA l →
    Calls Try.prog 11 #[.slice lA l.length lC] w (Ret fun v w' => ∃ (r0 : Bool), K r0 ∧ (v = .bool r0) ∧ Keep [] w w')
def V_R09_Check (l : List GNode) (K : GArr2_int → Prop) : Prop :=
  ∀ (m : List Nat) (w : World), MOk m w → ∀ (lA : Option Addr) (lC : Nat), l.length ≤ lC → SlR cGNode m w lA l →
    Calls Try.prog 17 #[.slice lA l.length lC] w (Ret fun v w' => ∃ (r0 : GArr2_int), K r0 ∧ (∃ (cs0 : List Value), v = .agg ⟨cs0⟩ ∧ cGArr2_int.rep m w' r0 cs0) ∧ Keep [] w w')
def V_R09_Piece (l : List GNode) (atx : Int) (classx : List UInt8) (K : GR09_Cur → Prop) : Prop :=
  ∀ (m : List Nat) (w : World), MOk m w → ∀ (lA : Option Addr) (lC : Nat), l.length ≤ lC → SlR cGNode m w lA l →
    Calls Try.prog 33 #[.slice lA l.length lC, .q atx, .s classx] w (Ret fun v w' => ∃ (r0 : GR09_Cur), K r0 ∧ (∃ (cs0 : List Value), v = .agg ⟨cs0⟩ ∧ cGR09_Cur.rep m w' r0 cs0) ∧ Keep [] w w')
def V_R09_term (l : List GNode) (xq : GNode) (no : GR09_Cur) (inx : GR09_Cur) (K : GR09_Cur → Prop) : Prop :=
  ∀ (m : List Nat) (w : World), MOk m w → ∀ (lA : Option Addr) (lC : Nat), l.length ≤ lC → SlR cGNode m w lA l → ∀ (xqcs : List Value), cGNode.rep m w xq xqcs → ∀ (nocs : List Value), cGR09_Cur.rep m w no nocs → ∀ (inxcs : List Value), cGR09_Cur.rep m w inx inxcs →
    Calls Try.prog 55 #[.slice lA l.length lC, .agg ⟨xqcs⟩, .agg ⟨nocs⟩, .agg ⟨inxcs⟩] w (Ret fun v w' => ∃ (r0 : GR09_Cur), K r0 ∧ (∃ (cs0 : List Value), v = .agg ⟨cs0⟩ ∧ cGR09_Cur.rep m w' r0 cs0) ∧ Keep [] w w')
def V_R09_stmt (l : List GNode) (xq : GNode) (no : GR09_Cur) (inx : GR09_Cur) (K : GR09_Cur → Prop) : Prop :=
  ∀ (m : List Nat) (w : World), MOk m w → ∀ (lA : Option Addr) (lC : Nat), l.length ≤ lC → SlR cGNode m w lA l → ∀ (xqcs : List Value), cGNode.rep m w xq xqcs → ∀ (nocs : List Value), cGR09_Cur.rep m w no nocs → ∀ (inxcs : List Value), cGR09_Cur.rep m w inx inxcs →
    Calls Try.prog 56 #[.slice lA l.length lC, .agg ⟨xqcs⟩, .agg ⟨nocs⟩, .agg ⟨inxcs⟩] w (Ret fun v w' => ∃ (r0 : GR09_Cur), K r0 ∧ (∃ (cs0 : List Value), v = .agg ⟨cs0⟩ ∧ cGR09_Cur.rep m w' r0 cs0) ∧ Keep [] w w')
def V_R09_clause (l : List GNode) (xq : GNode) (no : GR09_Cur) (inx : GR09_Cur) (K : GR09_Cur → Prop) : Prop :=
  ∀ (m : List Nat) (w : World), MOk m w → ∀ (lA : Option Addr) (lC : Nat), l.length ≤ lC → SlR cGNode m w lA l → ∀ (xqcs : List Value), cGNode.rep m w xq xqcs → ∀ (nocs : List Value), cGR09_Cur.rep m w no nocs → ∀ (inxcs : List Value), cGR09_Cur.rep m w inx inxcs →
    Calls Try.prog 57 #[.slice lA l.length lC, .agg ⟨xqcs⟩, .agg ⟨nocs⟩, .agg ⟨inxcs⟩] w (Ret fun v w' => ∃ (r0 : GR09_Cur), K r0 ∧ (∃ (cs0 : List Value), v = .agg ⟨cs0⟩ ∧ cGR09_Cur.rep m w' r0 cs0) ∧ Keep [] w w')
def V_R09_name (xq : GNode) (kids : Int) (K : Bool → Prop) : Prop :=
  ∀ (m : List Nat) (w : World), MOk m w → ∀ (xqcs : List Value), cGNode.rep m w xq xqcs →
    Calls Try.prog 58 #[.agg ⟨xqcs⟩, .q kids] w (Ret fun v w' => ∃ (r0 : Bool), K r0 ∧ (v = .bool r0) ∧ Keep [] w w')
def V_R09_all (l : List GNode) (cq : GR09_Cur) (classx : List UInt8) (n : Int) (K : GR09_Cur → Prop) : Prop :=
  ∀ (m : List Nat) (w : World), MOk m w → ∀ (lA : Option Addr) (lC : Nat), l.length ≤ lC → SlR cGNode m w lA l → ∀ (cqcs : List Value), cGR09_Cur.rep m w cq cqcs →
    Calls Try.prog 59 #[.slice lA l.length lC, .agg ⟨cqcs⟩, .s classx, .q n] w (Ret fun v w' => ∃ (r0 : GR09_Cur), K r0 ∧ (∃ (cs0 : List Value), v = .agg ⟨cs0⟩ ∧ cGR09_Cur.rep m w' r0 cs0) ∧ Keep [] w w')
def V_R09_bare (xq : GNode) (kids : Int) (K : Bool → Prop) : Prop :=
  ∀ (m : List Nat) (w : World), MOk m w → ∀ (xqcs : List Value), cGNode.rep m w xq xqcs →
    Calls Try.prog 60 #[.agg ⟨xqcs⟩, .q kids] w (Ret fun v w' => ∃ (r0 : Bool), K r0 ∧ (v = .bool r0) ∧ Keep [] w w')
def V_R08_Name (sx : List UInt8) (K : Bool → Prop) : Prop :=
  ∀ (m : List Nat) (w : World), MOk m w →
    Calls Try.prog 61 #[.s sx] w (Ret fun v w' => ∃ (r0 : Bool), K r0 ∧ (v = .bool r0) ∧ Keep [] w w')
def V_R09_row (l : List GNode) (cq : GR09_Cur) (classes : List UInt8) (K : GR09_Cur → Prop) : Prop :=
  ∀ (m : List Nat) (w : World), MOk m w → ∀ (lA : Option Addr) (lC : Nat), l.length ≤ lC → SlR cGNode m w lA l → ∀ (cqcs : List Value), cGR09_Cur.rep m w cq cqcs →
    Calls Try.prog 62 #[.slice lA l.length lC, .agg ⟨cqcs⟩, .s classes] w (Ret fun v w' => ∃ (r0 : GR09_Cur), K r0 ∧ (∃ (cs0 : List Value), v = .agg ⟨cs0⟩ ∧ cGR09_Cur.rep m w' r0 cs0) ∧ Keep [] w w')
def V_L11_live (K : Bool → Prop) : Prop :=
  ∀ (m : List Nat) (w : World), MOk m w →
    Calls Try.prog 6 #[] w (Ret fun v w' => ∃ (r0 : Bool), K r0 ∧ (v = .bool r0) ∧ Keep [] w w')
def V_L11_ParseShapes (sx : List UInt8) (K : Bool → Prop) : Prop :=
  ∀ (m : List Nat) (w : World), MOk m w →
    Calls Try.prog 5 #[.s sx] w (Ret fun v w' => ∃ (r0 : Bool), K r0 ∧ (v = .bool r0) ∧ Keep [] w w')
end Go.Proofs.Ytdbdkdmgfiiljaa
namespace Go.Proofs.Ytdbdkdmgfiiljaa
open Go.Vc Go.Lv Go.Ty
set_option maxRecDepth 10000
def parse_Unit_vwp (toks : List GToken) (K : (List GNode) → Int → Int → Prop) : Prop :=
 ∃ (I : Int → Int → (List GNode) → Int → Nat → Prop), (∃ n, I 0 0 ([(⟨42, [], 0, 0, 0⟩ : GNode)]) 0 n) ∧
 ∀ (atx : Int) (de : Int) (l : List GNode) (ex : Int) (n : Nat), I atx de l ex n →
 ∃ (J : Bool → Prop),
 (cond (ex == 0)
 (V_parse_reader_see (⟨toks, atx, de, l, ex⟩ : Gparse_reader) 0 (fun x1 =>
 J (x1.kind != 0)))
 (J false)) ∧
 ∀ (x : Bool), J x →
 cond (x)
 (V_parse_reader_decl (⟨toks, atx, de, l, ex⟩ : Gparse_reader) (fun r =>
 ((0 : Int) ≤ 0 ∧ 0 < (r.l.length : Int)) ∧
 ∀ x2, r.l[0]? = some x2 →
 ((0 : Int) ≤ 0 ∧ 0 < (r.l.length : Int)) ∧
 ∀ x3, r.l[0]? = some x3 →
 ∃ n1, n1 < n ∧ I r.at_ r.deep (r.l.set 0 (⟨x3.op, x3.name, x3.n, IntKind.i64.wrap (x2.kids + 1), x3.at_⟩ : GNode)) r.e_ n1))
 (cond (ex != 0)
 (K [] atx ex)
 (K l 0 0))
theorem parse_Unit_lift (toks : List GToken) (K : (List GNode) → Int → Int → Prop) (h : parse_Unit_vwp toks K) : V_parse_Unit toks K := by
 intro m w hm toksA toksC le_toks f_toks
 have o := Mem.start hm.lt
 refine parse_Unit_ok toksA toks.length toksC _ _ ?_
 intro b w1 hb hw1
 have el : El cGNode (ms [] m) w [(⟨42, [], 0, 0, 0⟩ : GNode)] ([.q 42, .s [], .q 0, .q 0, .q 0] : List Value) := (El.cons (cs := [.q 42, .s [], .q 0, .q 0, .q 0]) (GNode_in (⟨42, [], 0, 0, 0⟩ : GNode)) (El.nil _ _ _))
 have st := o.xL hb hw1 5 1
 have o := o.lit hb hw1 5 1 (by decide) rfl
 intro b1 w2 hb1 hw2
 obtain ⟨st1, o⟩ := o.dB hb1 hw2
 obtain ⟨I, ⟨n2, h⟩, h2⟩ := h
 obtain ⟨Z, hZ⟩ : ∃ Z : World → Nat → Prop, Z = fun w3 n => ∃ (atx : Int) (de : Int) (l : List GNode) (ex : Int) (xs : List Value) (a : Option Addr) (c : Nat), I atx de l ex n ∧ El cGNode (ms [.box b1 [.slice toksA toks.length toksC, .q atx, .q de, .slice a l.length c, .q ex], .row 39 5 a l.length c xs] m) w3 l xs ∧ Mem w.heap.size [] m [([], w.heap.size, w)] [] w3 [.box b1 [.slice toksA toks.length toksC, .q atx, .q de, .slice a l.length c, .q ex], .row 39 5 a l.length c xs] ∧ Step (ms [.box b1 [.slice toksA toks.length toksC, .q 0, .q 0, .slice (some ⟨b, 0, none⟩) 1 1, .q 0], .row 39 5 (some ⟨b, 0, none⟩) 1 1 ([.q 42, .s [], .q 0, .q 0, .q 0] : List Value)] m) w2 (ms [.box b1 [.slice toksA toks.length toksC, .q atx, .q de, .slice a l.length c, .q ex], .row 39 5 a l.length c xs] m) w3 := ⟨_, rfl⟩
 refine ⟨fun w3 => ∃ n, Z w3 n, fun w3 => leastN (Z w3), ⟨n2, ?_⟩, ?_⟩
 rw [hZ]; exact ⟨0, 0, ([(⟨42, [], 0, 0, 0⟩ : GNode)]), 0, ([.q 42, .s [], .q 0, .q 0, .q 0] : List Value), (some ⟨b, 0, none⟩), 1, h, (el.st (st.trans st1)), o, Step.refl _ _⟩
 intro _ w3 hIZ
 obtain ⟨n, hnn⟩ : ∃ n, n = leastN (Z w3) := ⟨_, rfl⟩
 have hIZ := leastN_at hIZ
 rw [← hnn, hZ] at hIZ
 obtain ⟨atx, de, l, ex, xs, a, c, h, el1, o, st2⟩ := hIZ
 have h := h2 atx de l ex n h
 obtain ⟨J, h, h2⟩ := h
 refine ⟨fun x w4 => J x ∧ Mem w.heap.size [] m [([], w.heap.size, w)] [] w4 [.box b1 [.slice toksA toks.length toksC, .q atx, .q de, .slice a l.length c, .q ex], .row 39 5 a l.length c xs] ∧ Step (ms [.box b1 [.slice toksA toks.length toksC, .q atx, .q de, .slice a l.length c, .q ex], .row 39 5 a l.length c xs] m) w3 (ms [.box b1 [.slice toksA toks.length toksC, .q atx, .q de, .slice a l.length c, .q ex], .row 39 5 a l.length c xs] m) w4, ?_, ?_⟩
 refine ⟨_, (o.at 0 rfl).cell rfl, ?_⟩
 refine cond_map (fun h => ?_) (fun h => ?_) h
 have sT := (st.trans st1).trans st2
 refine call_then (h _ w3 (o.mo hm (by simp) (.head _)) _ _ _ _ _ (o.at 0 rfl) le_toks (f_toks.st sT)) ?_
 rintro _ w5 ⟨x1, h, ⟨cs, rfl, f⟩, ke⟩
 obtain ⟨st4, o⟩ := o.dE ke
 obtain rfl := GToken_out f
 refine ⟨_, _, _, _, rfl, ?_⟩
 exact ⟨h, o, st4⟩
 exact ⟨h, o, Step.refl _ _⟩
 rintro _ x w4 ⟨hJ, o, st3⟩
 have h := h2 x hJ
 refine cond_map (fun h => ?_) (fun h => ?_) h
 have sT1 := ((st.trans st1).trans st2).trans st3
 refine call_then (h _ w4 (o.mo hm (by simp) (.head _)) _ _ _ _ _ _ (Mem.inms 0 rfl) (o.objin 0 1 rfl rfl (by decide)) (o.at 0 rfl) (o.rowAt 1 rfl) (el1.st st3) le_toks (f_toks.st sT1)) ?_
 rintro _ w6 ⟨r, h, -, ⟨a1, c1, xs1, bx, hr, el2, fr⟩, ke1⟩
 obtain ⟨st5, el3, o⟩ := o.y2 0 1 rfl rfl (by decide) ke1 bx hr fr el2
 refine ⟨_, _, _, (o.at 0 rfl).cell rfl, ?_⟩
 obtain ⟨hi, h⟩ := h
 obtain ⟨p, x2, cs1, hp, he, hc, hr1⟩ := row_elem (o.rowAt 1 rfl) el3 hi
 obtain rfl := GNode_out hr1
 have h := h x2 he
 refine ⟨hi, ptrOr_some hp ?_⟩
 refine ⟨_, hc.2 3 (Nat.le_of_ble_eq_true rfl), ?_⟩
 obtain ⟨hi1, h⟩ := h
 obtain ⟨p1, x3, cs2, hp1, he1, hc1, hr2⟩ := row_elem (o.rowAt 1 rfl) el3 hi1
 obtain rfl := GNode_out hr2
 have h := h x3 he1
 refine ⟨hi1, ptrOr_some hp1 ?_⟩
 have hq := row_putp (i := 0) (o.rowAt 1 rfl) el3 hp1 he1 hc1.2 rfl 3 (.q (IntKind.i64.wrap (x2.kids + 1))) (by decide)
 refine ⟨hq.1, fun w7 hw7 => ?_⟩
 obtain ⟨xs2, hr3, hg, hel⟩ := hq.2 _ hw7
 have el4 := hel (⟨x3.op, x3.name, x3.n, IntKind.i64.wrap (x2.kids + 1), x3.at_⟩ : GNode) (GNode_in (⟨x3.op, x3.name, x3.n, IntKind.i64.wrap (x2.kids + 1), x3.at_⟩ : GNode))
 have st6 := o.xA 1 rfl hr3 hg (.inl rfl)
 have o := o.app 1 rfl hr3 hg (.inl rfl)
 have ln : r.l.length = (r.l.set 0 (⟨x3.op, x3.name, x3.n, IntKind.i64.wrap (x2.kids + 1), x3.at_⟩ : GNode)).length := row_len (o.rowAt 1 rfl) (el4.st st6)
 rw [ln] at o
 obtain ⟨n1, hl, h⟩ := h
 have sT2 := ((st2.trans st3).trans st5).trans st6
 exact loop_again hnn (show Z w7 n1 from (by rw [hZ]; exact ⟨r.at_, r.deep, (r.l.set 0 (⟨x3.op, x3.name, x3.n, IntKind.i64.wrap (x2.kids + 1), x3.at_⟩ : GNode)), r.e_, xs2, a1, c1, h, (el4.st st6), o, sT2⟩)) hl
 refine ⟨_, (o.at 0 rfl).cell rfl, ?_⟩
 refine cond_map (fun h => ?_) (fun h => ?_) h
 intro w8 hw8
 obtain ⟨st7, o⟩ := o.dD hw8
 refine ⟨_, (o.at 0 rfl).cell rfl, ?_⟩
 refine ⟨_, (o.at 0 rfl).cell rfl, ?_⟩
 exact ⟨[], atx, ex, h, ⟨_, _, rfl, ⟨(Nat.le_refl _), (SlR.nil _ _ _ _)⟩⟩, o.done⟩
 refine ⟨_, _, _, (o.at 0 rfl).cell rfl, ?_⟩
 have le := (o.rowAt 1 rfl).cap
 have st8 := o.xX 1
 have f1 := o.freeze (c := cGNode) (l := l) 1 rfl (fun b hb => by simp at hb) (el1.st (st3.trans st8))
 have o := o.erase 1
 exact ⟨l, 0, 0, h, ⟨_, _, rfl, ⟨le, (f1.st Mem.endS)⟩⟩, o.done⟩
def parse_Text_vwp (sx : List UInt8) (K : (List GNode) → Int → Int → Prop) : Prop :=
 V_token_All sx (fun r r1 r2 =>
 cond (r2 != 0)
 (K [] r1 r2)
 (V_parse_Unit r (fun r3 r4 r5 =>
 cond (r5 != 0)
 (((0 : Int) ≤ (if (IntKind.i64.wrap ((r.length : Int) - 1)) < r4 then IntKind.i64.wrap ((r.length : Int) - 1) else r4) ∧ (if (IntKind.i64.wrap ((r.length : Int) - 1)) < r4 then IntKind.i64.wrap ((r.length : Int) - 1) else r4) < (r.length : Int)) ∧
 ∀ x, r[(if (IntKind.i64.wrap ((r.length : Int) - 1)) < r4 then IntKind.i64.wrap ((r.length : Int) - 1) else r4).toNat]? = some x →
 K [] x.at_ r5)
 (K r3 0 0))))
theorem parse_Text_lift (sx : List UInt8) (K : (List GNode) → Int → Int → Prop) (h : parse_Text_vwp sx K) : V_parse_Text sx K := by
 intro m w hm
 have o := Mem.start hm.lt
 refine parse_Text_ok sx _ _ ?_
 refine call_then (h _ w (o.mo hm (by simp) (.head _))) ?_
 rintro _ w1 ⟨r, r1, r2, h, ⟨a, c, rfl, ⟨le, f⟩⟩, ke⟩
 obtain ⟨st, o⟩ := o.dE ke
 refine ⟨_, _, _, _, _, rfl, ?_⟩
 refine cond_map (fun h => ?_) (fun h => ?_) h
 exact ⟨[], r1, r2, h, ⟨_, _, rfl, ⟨(Nat.le_refl _), (SlR.nil _ _ _ _)⟩⟩, o.done⟩
 refine call_then (h _ w1 (o.mo hm (by simp) (.head _)) _ _ le f) ?_
 rintro _ w2 ⟨r3, r4, r5, h, ⟨a1, c1, rfl, ⟨le1, f1⟩⟩, ke1⟩
 obtain ⟨st1, o⟩ := o.dE ke1
 refine ⟨_, _, _, _, _, rfl, ?_⟩
 refine cond_map (fun h => ?_) (fun h => ?_) h
 intro w3 hw3
 obtain ⟨st2, o⟩ := o.dD hw3
 obtain ⟨hi, h⟩ := h
 obtain ⟨p, x, cs, hp, he, hc, hr⟩ := (f.st (st1.trans st2)).elem hi
 obtain rfl := GToken_out hr
 have h := h x he
 refine ⟨hi, ptrOr_some hp ?_⟩
 refine ⟨_, hc.2 3 (Nat.le_of_ble_eq_true rfl), ?_⟩
 exact ⟨[], x.at_, r5, h, ⟨_, _, rfl, ⟨(Nat.le_refl _), (SlR.nil _ _ _ _)⟩⟩, o.done⟩
 exact ⟨r3, 0, 0, h, ⟨_, _, rfl, ⟨le1, (f1.st (Mem.endS (ps := []) (m0 := m)))⟩⟩, o.done⟩
def parse_reader_see_vwp (r : Gparse_reader) (k : Int) (K : GToken → Prop) : Prop :=
 cond (decide ((IntKind.i64.wrap (r.at_ + k)) < (r.toks.length : Int)))
 (((0 : Int) ≤ (IntKind.i64.wrap (r.at_ + k)) ∧ (IntKind.i64.wrap (r.at_ + k)) < (r.toks.length : Int)) ∧
 ∀ x, r.toks[(IntKind.i64.wrap (r.at_ + k)).toNat]? = some x →
 K x)
 (K (⟨0, [], 0, 0⟩ : GToken))
theorem parse_reader_see_lift (r : Gparse_reader) (k : Int) (K : GToken → Prop) (h : parse_reader_see_vwp r k K) : V_parse_reader_see r k K := by
 intro m w hm rb rA rC rA0 rC0 bx_r le_r0 f_r0
 have o := Mem.start hm.lt
 refine parse_reader_see_ok rb k _ _ ?_
 intro b w1 hb hw1
 obtain ⟨st, o⟩ := o.dB hb hw1
 intro w2 hw2
 obtain ⟨st1, o⟩ := o.dD hw2
 refine ⟨_, (bx_r.keep o.done (by simp)).cell rfl, ?_⟩
 refine ⟨_, _, _, (bx_r.keep o.done (by simp)).cell rfl, ?_⟩
 refine cond_map (fun h => ?_) (fun h => ?_) h
 intro w3 hw3
 obtain ⟨st2, o⟩ := o.dD hw3
 have ox := o
 refine ⟨fun u => Keep [] w3 u, Keep.refl _ _, ?_⟩
 refine ⟨_, _, _, fun u hu => ((bx_r.keep ox.done (by simp)).keep hu (by simp)).cell rfl, ?_⟩
 refine ⟨_, fun u hu => ((bx_r.keep ox.done (by simp)).keep hu (by simp)).cell rfl, ?_⟩
 obtain ⟨hi, h⟩ := h
 have sT := (st.trans st1).trans st2
 obtain ⟨p, x, cs, hp, he, hc, hr⟩ := (f_r0.st sT).elem hi
 obtain rfl := GToken_out hr
 have h := h x he
 refine ⟨hi, ptrOr_some hp ?_⟩
 refine ⟨_, _, _, _, fun u hu => (ElAt.held hc hu (by simp)), ?_⟩
 refine ⟨o.wr 0 rfl rfl, fun w4 hw4 => ?_⟩
 obtain ⟨st3, o⟩ := o.dSs 0 hw4 rfl
 refine ⟨_, _, _, _, (o.at 0 rfl).whole, ?_⟩
 exact ⟨x, h, ⟨_, rfl, (GToken_in x)⟩, o.done⟩
 refine ⟨o.wr 0 rfl rfl, fun w5 hw5 => ?_⟩
 obtain ⟨st4, o⟩ := o.dSs 0 hw5 rfl
 refine ⟨_, _, _, _, (o.at 0 rfl).whole, ?_⟩
 exact ⟨(⟨0, [], 0, 0⟩ : GToken), h, ⟨_, rfl, (GToken_in (⟨0, [], 0, 0⟩ : GToken))⟩, o.done⟩
def parse_reader_is_vwp (r : Gparse_reader) (k : Int) (sx : List UInt8) (K : Bool → Prop) : Prop :=
 V_parse_reader_see r k (fun x =>
 cond (x.kind == 3)
 (K (x.text == sx))
 (cond (x.kind == 4)
 (K (x.text == sx))
 (K false)))
theorem parse_reader_is_lift (r : Gparse_reader) (k : Int) (sx : List UInt8) (K : Bool → Prop) (h : parse_reader_is_vwp r k sx K) : V_parse_reader_is r k sx K := by
 intro m w hm rb rA rC rA0 rC0 bx_r le_r0 f_r0
 have o := Mem.start hm.lt
 refine parse_reader_is_ok rb k sx _ _ ?_
 refine call_then (h _ w (o.mo hm (by simp) (.head _)) _ _ _ _ _ (bx_r.keep o.done (by simp)) le_r0 f_r0) ?_
 rintro _ w1 ⟨x, h, ⟨cs, rfl, f⟩, ke⟩
 obtain ⟨st, o⟩ := o.dE ke
 obtain rfl := GToken_out f
 refine ⟨_, _, _, _, rfl, ?_⟩
 intro b w2 hb hw2
 obtain ⟨st1, o⟩ := o.dB hb hw2
 refine ⟨o.wr 0 rfl rfl, fun w3 hw3 => ?_⟩
 obtain ⟨st2, o⟩ := o.dSs 0 hw3 rfl
 refine ⟨_, (o.at 0 rfl).cell rfl, ?_⟩
 refine cond_map (fun h => ?_) (fun h => ?_) h
 refine ⟨_, (o.at 0 rfl).cell rfl, ?_⟩
 exact ⟨(x.text == sx), h, rfl, o.done⟩
 refine ⟨_, (o.at 0 rfl).cell rfl, ?_⟩
 refine cond_map (fun h => ?_) (fun h => ?_) h
 refine ⟨_, (o.at 0 rfl).cell rfl, ?_⟩
 exact ⟨(x.text == sx), h, rfl, o.done⟩
 exact ⟨false, h, rfl, o.done⟩
def parse_reader_fail_vwp (r : Gparse_reader) (ex : Int) (K : Gparse_reader → Prop) : Prop :=
 cond (r.e_ == 0)
 (K (⟨r.toks, r.at_, r.deep, r.l, ex⟩ : Gparse_reader))
 (K r)
theorem parse_reader_fail_lift (r : Gparse_reader) (ex : Int) (K : Gparse_reader → Prop) (h : parse_reader_fail_vwp r ex K) : V_parse_reader_fail r ex K := by
 intro m w hm rb rA rC rA0 rC0 in_r bx_r le_r0 f_r0
 have o := Mem.recv hm.lt in_r bx_r
 have st := Mem.recvS (w := w) in_r bx_r
 have hrm : ∀ b ∈ [rb], b ∈ m := fun b hb => (List.mem_singleton.1 hb) ▸ in_r
 refine parse_reader_fail_ok rb ex _ _ ?_
 refine ⟨_, (o.at 0 rfl).cell rfl, ?_⟩
 refine cond_map (fun h => ?_) (fun h => ?_) h
 refine ⟨o.wr 0 rfl rfl, fun w1 hw1 => ?_⟩
 obtain ⟨st1, o⟩ := o.dS 0 hw1 rfl
 exact ⟨(⟨r.toks, r.at_, r.deep, r.l, ex⟩ : Gparse_reader), h, trivial, o.at 0 rfl, o.done⟩
 exact ⟨r, h, trivial, o.at 0 rfl, o.done⟩
def parse_reader_eat_vwp (r : Gparse_reader) (sx : List UInt8) (K : Bool → Gparse_reader → Prop) : Prop :=
 ∃ (J : Bool → Prop),
 (cond (r.e_ != 0)
 (J true)
 (V_parse_reader_is r 0 sx (fun x1 =>
 J (!x1)))) ∧
 ∀ (x : Bool), J x →
 cond (x)
 (K false r)
 (K true (⟨r.toks, IntKind.i64.wrap (r.at_ + 1), r.deep, r.l, r.e_⟩ : Gparse_reader))
theorem parse_reader_eat_lift (r : Gparse_reader) (sx : List UInt8) (K : Bool → Gparse_reader → Prop) (h : parse_reader_eat_vwp r sx K) : V_parse_reader_eat r sx K := by
 intro m w hm rb rA rC rA0 rC0 in_r bx_r le_r0 f_r0
 have o := Mem.recv hm.lt in_r bx_r
 have st := Mem.recvS (w := w) in_r bx_r
 have hrm : ∀ b ∈ [rb], b ∈ m := fun b hb => (List.mem_singleton.1 hb) ▸ in_r
 refine parse_reader_eat_ok rb sx _ _ ?_
 obtain ⟨J, h, h2⟩ := h
 refine ⟨fun x w1 => J x ∧ Mem w.heap.size [rb] m [([rb], w.heap.size, w)] [] w1 [.box rb [.slice rA0 r.toks.length rC0, .q r.at_, .q r.deep, .slice rA r.l.length rC, .q r.e_]] ∧ Step (ms [.box rb [.slice rA0 r.toks.length rC0, .q r.at_, .q r.deep, .slice rA r.l.length rC, .q r.e_]] m) w (ms [.box rb [.slice rA0 r.toks.length rC0, .q r.at_, .q r.deep, .slice rA r.l.length rC, .q r.e_]] m) w1, ?_, ?_⟩
 refine ⟨_, (o.at 0 rfl).cell rfl, ?_⟩
 refine cond_map (fun h => ?_) (fun h => ?_) h
 exact ⟨h, o, Step.refl _ _⟩
 refine call_then (h _ w (o.mo hm hrm (.head _)) _ _ _ _ _ (o.at 0 rfl) le_r0 (f_r0.st st)) ?_
 rintro _ w2 ⟨x1, h, rfl, ke⟩
 obtain ⟨st2, o⟩ := o.dE ke
 refine ⟨_, rfl, ?_⟩
 exact ⟨h, o, st2⟩
 rintro _ x w1 ⟨hJ, o, st1⟩
 have h := h2 x hJ
 refine cond_map (fun h => ?_) (fun h => ?_) h
 exact ⟨false, r, h, rfl, o.at 0 rfl, o.done⟩
 refine ⟨_, (o.at 0 rfl).cell rfl, ?_⟩
 refine ⟨o.wr 0 rfl rfl, fun w3 hw3 => ?_⟩
 obtain ⟨st3, o⟩ := o.dS 0 hw3 rfl
 exact ⟨true, (⟨r.toks, IntKind.i64.wrap (r.at_ + 1), r.deep, r.l, r.e_⟩ : Gparse_reader), h, rfl, o.at 0 rfl, o.done⟩
def parse_reader_must_vwp (r : Gparse_reader) (l : List (List UInt8)) (K : Gparse_reader → Prop) : Prop :=
 ∃ (I : Int → Int → Int → Int → Nat → Prop), (∃ n, I 0 r.at_ r.deep r.e_ n) ∧
 ∀ (x : Int) (atx : Int) (de : Int) (ex : Int) (n : Nat), I x atx de ex n →
 cond (decide (x < (l.length : Int)))
 (((0 : Int) ≤ x ∧ x < (l.length : Int)) ∧
 ∀ x1, l[x.toNat]? = some x1 →
 V_parse_reader_eat (⟨r.toks, atx, de, r.l, ex⟩ : Gparse_reader) x1 (fun x2 r1 =>
 cond (!x2)
 (V_parse_reader_fail (⟨r.toks, r1.at_, r1.deep, r.l, r1.e_⟩ : Gparse_reader) 11 (fun r2 =>
 K (⟨r.toks, r2.at_, r2.deep, r.l, r2.e_⟩ : Gparse_reader)))
 (∃ n1, n1 < n ∧ I (IntKind.i64.wrap (x + 1)) r1.at_ r1.deep r1.e_ n1)))
 (K (⟨r.toks, atx, de, r.l, ex⟩ : Gparse_reader))
theorem parse_reader_must_lift (r : Gparse_reader) (l : List (List UInt8)) (K : Gparse_reader → Prop) (h : parse_reader_must_vwp r l K) : V_parse_reader_must r l K := by
 intro m w hm rb rA rC rA0 rC0 in_r bx_r le_r0 f_r0 lA lC le_l f_l
 have o := Mem.recv hm.lt in_r bx_r
 have st := Mem.recvS (w := w) in_r bx_r
 have hrm : ∀ b ∈ [rb], b ∈ m := fun b hb => (List.mem_singleton.1 hb) ▸ in_r
 refine parse_reader_must_ok rb lA l.length lC _ _ ?_
 obtain ⟨I, ⟨n2, h⟩, h2⟩ := h
 obtain ⟨Z, hZ⟩ : ∃ Z : Int → World → Nat → Prop, Z = fun x w1 n => ∃ (atx : Int) (de : Int) (ex : Int), I x atx de ex n ∧ Mem w.heap.size [rb] m [([rb], w.heap.size, w)] [] w1 [.box rb [.slice rA0 r.toks.length rC0, .q atx, .q de, .slice rA r.l.length rC, .q ex]] ∧ Step (ms [.box rb [.slice rA0 r.toks.length rC0, .q r.at_, .q r.deep, .slice rA r.l.length rC, .q r.e_]] m) w (ms [.box rb [.slice rA0 r.toks.length rC0, .q atx, .q de, .slice rA r.l.length rC, .q ex]] m) w1 := ⟨_, rfl⟩
 refine ⟨fun x w1 => ∃ n, Z x w1 n, fun x w1 => leastN (Z x w1), ⟨n2, ?_⟩, ?_⟩
 rw [hZ]; exact ⟨r.at_, r.deep, r.e_, h, o, Step.refl _ _⟩
 intro _ x w1 hIZ
 obtain ⟨n, hnn⟩ : ∃ n, n = leastN (Z x w1) := ⟨_, rfl⟩
 have hIZ := leastN_at hIZ
 rw [← hnn, hZ] at hIZ
 obtain ⟨atx, de, ex, h, o, st1⟩ := hIZ
 have h := h2 x atx de ex n h
 refine cond_map (fun h => ?_) (fun h => ?_) h
 obtain ⟨hi, h⟩ := h
 obtain ⟨p, x1, cs, hp, he, hc, hr⟩ := (f_l.st (st.trans st1)).elem hi
 obtain rfl := hr
 have h := h x1 he
 refine ⟨hi, ptrOr_some hp ?_⟩
 refine ⟨_, (CellsAt.head hc.2), ?_⟩
 refine call_then (h _ w1 (o.mo hm hrm (.head _)) _ _ _ _ _ (Mem.inms 0 rfl) (o.at 0 rfl) le_r0 (f_r0.st (st.trans st1))) ?_
 rintro _ w2 ⟨x2, r1, h, rfl, bx, ke⟩
 obtain ⟨st2, o⟩ := o.dC 0 ke bx rfl
 refine ⟨_, rfl, ?_⟩
 refine cond_map (fun h => ?_) (fun h => ?_) h
 have sT := (st.trans st1).trans st2
 refine call_then (h _ w2 (o.mo hm hrm (.head _)) _ _ _ _ _ (Mem.inms 0 rfl) (o.at 0 rfl) le_r0 (f_r0.st sT)) ?_
 rintro _ w3 ⟨r2, h, -, bx1, ke1⟩
 obtain ⟨st3, o⟩ := o.dC 0 ke1 bx1 rfl
 exact ⟨(⟨r.toks, r2.at_, r2.deep, r.l, r2.e_⟩ : Gparse_reader), h, trivial, o.at 0 rfl, o.done⟩
 obtain ⟨n1, hl, h⟩ := h
 exact loop_again hnn (show Z _ w2 n1 from (by rw [hZ]; exact ⟨r1.at_, r1.deep, r1.e_, h, o, (st1.trans st2)⟩)) hl
 exact ⟨(⟨r.toks, atx, de, r.l, ex⟩ : Gparse_reader), h, trivial, o.at 0 rfl, o.done⟩
def parse_reader_name_vwp (r : Gparse_reader) (K : (List UInt8) → Gparse_reader → Prop) : Prop :=
 V_parse_reader_see r 0 (fun x =>
 ∃ (J : Bool → Prop),
 (cond (r.e_ != 0)
 (J true)
 (J (x.kind != 1))) ∧
 ∀ (x1 : Bool), J x1 →
 cond (x1)
 (V_parse_reader_fail r 11 (fun r1 =>
 K [] (⟨r.toks, r1.at_, r1.deep, r.l, r1.e_⟩ : Gparse_reader)))
 (K x.text (⟨r.toks, IntKind.i64.wrap (r.at_ + 1), r.deep, r.l, r.e_⟩ : Gparse_reader)))
theorem parse_reader_name_lift (r : Gparse_reader) (K : (List UInt8) → Gparse_reader → Prop) (h : parse_reader_name_vwp r K) : V_parse_reader_name r K := by
 intro m w hm rb rA rC rA0 rC0 in_r bx_r le_r0 f_r0
 have o := Mem.recv hm.lt in_r bx_r
 have st := Mem.recvS (w := w) in_r bx_r
 have hrm : ∀ b ∈ [rb], b ∈ m := fun b hb => (List.mem_singleton.1 hb) ▸ in_r
 refine parse_reader_name_ok rb _ _ ?_
 refine call_then (h _ w (o.mo hm hrm (.head _)) _ _ _ _ _ (o.at 0 rfl) le_r0 (f_r0.st st)) ?_
 rintro _ w1 ⟨x, h, ⟨cs, rfl, f⟩, ke⟩
 obtain ⟨st1, o⟩ := o.dE ke
 obtain rfl := GToken_out f
 refine ⟨_, _, _, _, rfl, ?_⟩
 intro b w2 hb hw2
 obtain ⟨st2, o⟩ := o.dB hb hw2
 refine ⟨o.wr 0 rfl rfl, fun w3 hw3 => ?_⟩
 obtain ⟨st3, o⟩ := o.dSs 0 hw3 rfl
 obtain ⟨J, h, h2⟩ := h
 refine ⟨fun x1 w4 => J x1 ∧ Mem w.heap.size [rb] m [([rb], w.heap.size, w)] [] w4 [.box b [.q x.kind, .s x.text, .q x.n, .q x.at_], .box rb [.slice rA0 r.toks.length rC0, .q r.at_, .q r.deep, .slice rA r.l.length rC, .q r.e_]] ∧ Step (ms [.box b [.q x.kind, .s x.text, .q x.n, .q x.at_], .box rb [.slice rA0 r.toks.length rC0, .q r.at_, .q r.deep, .slice rA r.l.length rC, .q r.e_]] m) w3 (ms [.box b [.q x.kind, .s x.text, .q x.n, .q x.at_], .box rb [.slice rA0 r.toks.length rC0, .q r.at_, .q r.deep, .slice rA r.l.length rC, .q r.e_]] m) w4, ?_, ?_⟩
 refine ⟨_, (o.at 1 rfl).cell rfl, ?_⟩
 refine cond_map (fun h => ?_) (fun h => ?_) h
 exact ⟨h, o, Step.refl _ _⟩
 refine ⟨_, (o.at 0 rfl).cell rfl, ?_⟩
 exact ⟨h, o, Step.refl _ _⟩
 rintro _ x1 w4 ⟨hJ, o, st4⟩
 have h := h2 x1 hJ
 refine cond_map (fun h => ?_) (fun h => ?_) h
 have sT := (((st.trans st1).trans st2).trans st3).trans st4
 refine call_then (h _ w4 (o.mo hm hrm (.head _)) _ _ _ _ _ (Mem.inms 1 rfl) (o.at 1 rfl) le_r0 (f_r0.st sT)) ?_
 rintro _ w5 ⟨r1, h, -, bx, ke1⟩
 obtain ⟨st5, o⟩ := o.dC 1 ke1 bx rfl
 exact ⟨[], (⟨r.toks, r1.at_, r1.deep, r.l, r1.e_⟩ : Gparse_reader), h, rfl, o.at 1 rfl, o.done⟩
 refine ⟨_, (o.at 1 rfl).cell rfl, ?_⟩
 refine ⟨o.wr 1 rfl rfl, fun w6 hw6 => ?_⟩
 obtain ⟨st6, o⟩ := o.dS 1 hw6 rfl
 refine ⟨_, (o.at 0 rfl).cell rfl, ?_⟩
 exact ⟨x.text, (⟨r.toks, IntKind.i64.wrap (r.at_ + 1), r.deep, r.l, r.e_⟩ : Gparse_reader), h, rfl, o.at 1 rfl, o.done⟩
def parse_reader_open_vwp (r : Gparse_reader) (op : Int) (K : Int → Gparse_reader → Prop) : Prop :=
 ∃ (J : Int → Int → (List GNode) → Int → Prop),
 (V_parse_reader_see r 0 (fun x =>
 r.l.length + ([(⟨op, [], 0, 0, x.at_⟩ : GNode)]).length < 2 ^ 32 ∧
 J r.at_ r.deep (r.l ++ [(⟨op, [], 0, 0, x.at_⟩ : GNode)]) r.e_)) ∧
 ∀ (atx : Int) (de : Int) (l : List GNode) (ex : Int), J atx de l ex →
 K (IntKind.i64.wrap ((l.length : Int) - 1)) (⟨r.toks, atx, de, l, ex⟩ : Gparse_reader)
theorem parse_reader_open_lift (r : Gparse_reader) (op : Int) (K : Int → Gparse_reader → Prop) (h : parse_reader_open_vwp r op K) : V_parse_reader_open r op K := by
 intro m w hm rb rA rC rxs rA0 rC0 in_r ina_r bx_r rw_r f_r le_r0 f_r0
 have hrs_ := Mem.objlt hm.lt in_r ina_r
 have o := Mem.obj hm.lt in_r ina_r bx_r rw_r
 have st := Mem.objS (w := w) (l := [.slice rA0 r.toks.length rC0, .q r.at_, .q r.deep, .slice rA r.l.length rC, .q r.e_]) (e := 39) (size := 5) (n := r.l.length) (c := rC) (xs := rxs) in_r ina_r
 have hrm : ∀ b ∈ (rb :: (Vc.blk rA).toList), b ∈ m := fun b hb => (List.mem_cons.1 hb).elim (fun e => e ▸ in_r) (fun h => (ina_r b (Option.mem_toList.1 h)).1)
 refine parse_reader_open_ok rb op _ _ ?_
 obtain ⟨J, h, h2⟩ := h
 refine ⟨fun w1 => ∃ (atx : Int) (de : Int) (l : List GNode) (ex : Int) (xs : List Value) (a : Option Addr) (c : Nat), J atx de l ex ∧ El cGNode (ms [.box rb [.slice rA0 r.toks.length rC0, .q atx, .q de, .slice a l.length c, .q ex], .row 39 5 a l.length c xs] m) w1 l xs ∧ Mem w.heap.size (rb :: (Vc.blk rA).toList) m [((rb :: (Vc.blk rA).toList), w.heap.size, w)] [] w1 [.box rb [.slice rA0 r.toks.length rC0, .q atx, .q de, .slice a l.length c, .q ex], .row 39 5 a l.length c xs] ∧ Step (ms [.box rb [.slice rA0 r.toks.length rC0, .q r.at_, .q r.deep, .slice rA r.l.length rC, .q r.e_], .row 39 5 rA r.l.length rC rxs] m) w (ms [.box rb [.slice rA0 r.toks.length rC0, .q atx, .q de, .slice a l.length c, .q ex], .row 39 5 a l.length c xs] m) w1, ?_, ?_⟩
 intro w2 hw2
 obtain ⟨st2, o⟩ := o.dD hw2
 have ox := o
 refine ⟨fun u => Keep [] w2 u, Keep.refl _ _, ?_⟩
 refine ⟨_, _, _, fun u hu => ((ox.at 0 rfl).keep hu (by simp)).cell rfl, ?_⟩
 refine call_then (h _ w2 (o.mo hm hrm (.head _)) _ _ _ _ _ (o.at 0 rfl) le_r0 (f_r0.st (st.trans st2))) ?_
 rintro _ w3 ⟨x, h, ⟨cs, rfl, f⟩, ke⟩
 obtain ⟨st3, o⟩ := o.dE ke
 obtain rfl := GToken_out f
 refine ⟨_, _, _, _, rfl, ?_⟩
 refine ⟨(ke.mono (by simp)), ?_⟩
 intro b w4 hb hw4
 have el1 : El cGNode (ms [.box rb [.slice rA0 r.toks.length rC0, .q r.at_, .q r.deep, .slice rA r.l.length rC, .q r.e_], .row 39 5 rA r.l.length rC rxs] m) w3 [(⟨op, [], 0, 0, x.at_⟩ : GNode)] ([.q op, .s [], .q 0, .q 0, .q x.at_] : List Value) := (El.cons (cs := [.q op, .s [], .q 0, .q 0, .q x.at_]) (GNode_in (⟨op, [], 0, 0, x.at_⟩ : GNode)) (El.nil _ _ _))
 have fr : w.heap.size ≤ b := hb ▸ o.le
 have st4 := o.xL hb hw4 5 1
 have o := o.lit hb hw4 5 1 (by decide) rfl
 refine ⟨((ke.mono (by simp)).trans ((keep_alloc hw4).mono (by simp))), ?_⟩
 obtain ⟨lt, h⟩ := h
 have sT := ((st.trans st2).trans st3).trans st4
 have el3 := ((f_r.st sT)).app (el1.st st4)
 refine append_sl sl_39 (o.rowAt 2 rfl) (o.rowAt 0 rfl).sl (el1.st st4).len (el1.st st4).one (by first | (simp; done) | simpa using lt) (by decide) (Nat.zero_le _) fun a1 c1 w5 hr hg hat => ?_
 have ln : r.l.length + 1 = (r.l ++ [(⟨op, [], 0, 0, x.at_⟩ : GNode)]).length := (by first | (simp; done) | (simp; omega))
 rw [ln] at hr ⊢
 refine ⟨_, _, _, rfl, ?_⟩
 have st5 := o.xA 2 rfl hr hg hat
 have o := o.app 2 rfl hr hg hat
 refine ⟨o.wr 1 rfl rfl, fun w6 hw6 => ?_⟩
 obtain ⟨st6, o⟩ := o.dS 1 hw6 rfl
 obtain ⟨st7, o⟩ := o.dX 0
 have sT1 := (st5.trans st6).trans st7
 have sT2 := ((((st2.trans st3).trans st4).trans st5).trans st6).trans st7
 exact ⟨r.at_, r.deep, (r.l ++ [(⟨op, [], 0, 0, x.at_⟩ : GNode)]), r.e_, (rxs ++ ([.q op, .s [], .q 0, .q 0, .q x.at_] : List Value)), a1, c1, h, (el3.st sT1), o, sT2⟩
 rintro _ w1 ⟨atx, de, l, ex, xs, a, c, hJ, el, o, st1⟩
 have h := h2 atx de l ex hJ
 refine ⟨_, _, _, (o.at 0 rfl).cell rfl, ?_⟩
 exact ⟨(IntKind.i64.wrap ((l.length : Int) - 1)), (⟨r.toks, atx, de, l, ex⟩ : Gparse_reader), h, rfl, ⟨_, _, _, o.at 0 rfl, o.rowAt 1 rfl, (el.st (o.eRS 1 rfl)), o.oldnew 1 rfl 0 rfl (by decide)⟩, o.done⟩
def parse_reader_term_vwp (r : Gparse_reader) (up : Int) (K : Gparse_reader → Prop) : Prop :=
 cond (r.e_ != 0)
 (K r)
 (∃ (J : (List GNode) → Int → Int → Prop),
 (V_term_Parse r.toks r.at_ (fun r1 r2 r3 =>
 J r1 r2 r3)) ∧
 ∀ (l : List GNode) (atx : Int) (ex : Int), J l atx ex →
 cond (ex != 0)
 (V_parse_reader_fail (⟨r.toks, atx, r.deep, r.l, r.e_⟩ : Gparse_reader) ex (fun r4 =>
 K (⟨r.toks, r4.at_, r4.deep, r.l, r4.e_⟩ : Gparse_reader)))
 (r.l.length + l.length < 2 ^ 32 ∧
 ((0 : Int) ≤ up ∧ up < ((r.l ++ l).length : Int)) ∧
 ∀ x, (r.l ++ l)[up.toNat]? = some x →
 ((0 : Int) ≤ up ∧ up < ((r.l ++ l).length : Int)) ∧
 ∀ x1, (r.l ++ l)[up.toNat]? = some x1 →
 K (⟨r.toks, atx, r.deep, ((r.l ++ l).set up.toNat (⟨x1.op, x1.name, x1.n, IntKind.i64.wrap (x.kids + 1), x1.at_⟩ : GNode)), r.e_⟩ : Gparse_reader)))
theorem parse_reader_term_lift (r : Gparse_reader) (up : Int) (K : Gparse_reader → Prop) (h : parse_reader_term_vwp r up K) : V_parse_reader_term r up K := by
 intro m w hm rb rA rC rxs rA0 rC0 in_r ina_r bx_r rw_r f_r le_r0 f_r0
 have hrs_ := Mem.objlt hm.lt in_r ina_r
 have o := Mem.obj hm.lt in_r ina_r bx_r rw_r
 have st := Mem.objS (w := w) (l := [.slice rA0 r.toks.length rC0, .q r.at_, .q r.deep, .slice rA r.l.length rC, .q r.e_]) (e := 39) (size := 5) (n := r.l.length) (c := rC) (xs := rxs) in_r ina_r
 have hrm : ∀ b ∈ (rb :: (Vc.blk rA).toList), b ∈ m := fun b hb => (List.mem_cons.1 hb).elim (fun e => e ▸ in_r) (fun h => (ina_r b (Option.mem_toList.1 h)).1)
 refine parse_reader_term_ok rb up _ _ ?_
 refine ⟨_, (o.at 0 rfl).cell rfl, ?_⟩
 refine cond_map (fun h => ?_) (fun h => ?_) h
 exact ⟨r, h, trivial, ⟨_, _, _, o.at 0 rfl, o.rowAt 1 rfl, (f_r.st (st.trans (o.eRS 1 rfl))), o.oldnew 1 rfl 0 rfl (by decide)⟩, o.done⟩
 obtain ⟨J, h, h2⟩ := h
 refine ⟨fun lA lN lC atx ex w1 => ∃ (l : List GNode), J l atx ex ∧ (l.length ≤ lC ∧ SlR cGNode (ms [.box rb [.slice rA0 r.toks.length rC0, .q r.at_, .q r.deep, .slice rA r.l.length rC, .q r.e_], .row 39 5 rA r.l.length rC rxs] m) w1 lA l) ∧ lN = l.length ∧ Mem w.heap.size (rb :: (Vc.blk rA).toList) m [((rb :: (Vc.blk rA).toList), w.heap.size, w)] [] w1 [.box rb [.slice rA0 r.toks.length rC0, .q r.at_, .q r.deep, .slice rA r.l.length rC, .q r.e_], .row 39 5 rA r.l.length rC rxs] ∧ Step (ms [.box rb [.slice rA0 r.toks.length rC0, .q r.at_, .q r.deep, .slice rA r.l.length rC, .q r.e_], .row 39 5 rA r.l.length rC rxs] m) w (ms [.box rb [.slice rA0 r.toks.length rC0, .q r.at_, .q r.deep, .slice rA r.l.length rC, .q r.e_], .row 39 5 rA r.l.length rC rxs] m) w1, ?_, ?_⟩
 intro w2 hw2
 obtain ⟨st2, o⟩ := o.dD hw2
 have ox := o
 refine ⟨fun u => Keep [] w2 u, Keep.refl _ _, ?_⟩
 refine ⟨_, _, _, fun u hu => ((ox.at 0 rfl).keep hu (by simp)).cell rfl, ?_⟩
 refine ⟨_, fun u hu => ((ox.at 0 rfl).keep hu (by simp)).cell rfl, ?_⟩
 refine call_then (h _ w2 (o.mo hm hrm (.head _)) _ _ le_r0 (f_r0.st (st.trans st2))) ?_
 rintro _ w3 ⟨r1, r2, r3, h, ⟨a, c, rfl, ⟨le1, f1⟩⟩, ke⟩
 obtain ⟨st3, o⟩ := o.dE ke
 refine ⟨_, _, _, _, _, rfl, ?_⟩
 exact ⟨r1, h, ⟨le1, f1⟩, rfl, o, (st2.trans st3)⟩
 rintro _ lA lN lC atx ex w1 ⟨l, hJ, ⟨le, f⟩, rfl, o, st1⟩
 have h := h2 l atx ex hJ
 refine ⟨o.wr 0 rfl rfl, fun w4 hw4 => ?_⟩
 obtain ⟨st4, o⟩ := o.dS 0 hw4 rfl
 refine cond_map (fun h => ?_) (fun h => ?_) h
 have sT := (st.trans st1).trans st4
 refine call_then (h _ w4 (o.mo hm hrm (.head _)) _ _ _ _ _ (Mem.inms 0 rfl) (o.at 0 rfl) le_r0 (f_r0.st sT)) ?_
 rintro _ w5 ⟨r4, h, -, bx, ke1⟩
 obtain ⟨st5, o⟩ := o.dC 0 ke1 bx rfl
 exact ⟨(⟨r.toks, r4.at_, r4.deep, r.l, r4.e_⟩ : Gparse_reader), h, trivial, ⟨_, _, _, o.at 0 rfl, o.rowAt 1 rfl, (f_r.st (st.trans (st1.trans (st4.trans (st5.trans (o.eRS 1 rfl)))))), o.oldnew 1 rfl 0 rfl (by decide)⟩, o.done⟩
 refine ⟨_, _, _, (o.at 0 rfl).cell rfl, ?_⟩
 obtain ⟨lt, h⟩ := h
 obtain ⟨xs, hx, el⟩ := SlR.cells (f.st st4)
 have sT1 := (st.trans st1).trans st4
 have el1 := ((f_r.st sT1)).app el
 refine append_sl sl_39 (o.rowAt 1 rfl) hx el.len el.one (by first | (simp; done) | simpa using lt) (by decide) (Nat.zero_le _) fun a1 c1 w6 hr hg hat => ?_
 have ln : r.l.length + l.length = (r.l ++ l).length := (by first | (simp; done) | (simp; omega))
 rw [ln] at hr ⊢
 refine ⟨_, _, _, rfl, ?_⟩
 have st6 := o.xA 1 rfl hr hg hat
 have o := o.app 1 rfl hr hg hat
 refine ⟨o.wr 0 rfl rfl, fun w7 hw7 => ?_⟩
 obtain ⟨st7, o⟩ := o.dS 0 hw7 rfl
 refine ⟨_, _, _, (o.at 0 rfl).cell rfl, ?_⟩
 obtain ⟨hi, h⟩ := h
 obtain ⟨p, x, cs, hp, he, hc, hr1⟩ := row_elem (o.rowAt 1 rfl) (el1.st (st6.trans st7)) hi
 obtain rfl := GNode_out hr1
 have h := h x he
 refine ⟨hi, ptrOr_some hp ?_⟩
 refine ⟨_, hc.2 3 (Nat.le_of_ble_eq_true rfl), ?_⟩
 obtain ⟨hi1, h⟩ := h
 obtain ⟨p1, x1, cs1, hp1, he1, hc1, hr2⟩ := row_elem (o.rowAt 1 rfl) (el1.st (st6.trans st7)) hi1
 obtain rfl := GNode_out hr2
 have h := h x1 he1
 refine ⟨hi1, ptrOr_some hp1 ?_⟩
 have hq := row_putp (i := up.toNat) (o.rowAt 1 rfl) (el1.st (st6.trans st7)) hp1 he1 hc1.2 rfl 3 (.q (IntKind.i64.wrap (x.kids + 1))) (by decide)
 refine ⟨hq.1, fun w8 hw8 => ?_⟩
 obtain ⟨xs1, hr3, hg1, hel⟩ := hq.2 _ hw8
 have el2 := hel (⟨x1.op, x1.name, x1.n, IntKind.i64.wrap (x.kids + 1), x1.at_⟩ : GNode) (GNode_in (⟨x1.op, x1.name, x1.n, IntKind.i64.wrap (x.kids + 1), x1.at_⟩ : GNode))
 have st8 := o.xA 1 rfl hr3 hg1 (.inl rfl)
 have o := o.app 1 rfl hr3 hg1 (.inl rfl)
 have ln1 : (r.l ++ l).length = ((r.l ++ l).set up.toNat (⟨x1.op, x1.name, x1.n, IntKind.i64.wrap (x.kids + 1), x1.at_⟩ : GNode)).length := row_len (o.rowAt 1 rfl) (el2.st st8)
 rw [ln1] at o
 try rw [ln1]
 exact ⟨(⟨r.toks, atx, r.deep, ((r.l ++ l).set up.toNat (⟨x1.op, x1.name, x1.n, IntKind.i64.wrap (x.kids + 1), x1.at_⟩ : GNode)), r.e_⟩ : Gparse_reader), h, trivial, ⟨_, _, _, o.at 0 rfl, o.rowAt 1 rfl, (el2.st (st8.trans (o.eRS 1 rfl))), o.oldnew 1 rfl 0 rfl (by decide)⟩, o.done⟩
def parse_reader_ref_vwp (r : Gparse_reader) (up : Int) (K : Gparse_reader → Prop) : Prop :=
 V_parse_reader_open r 33 (fun i r1 =>
 ∃ (J : Int → Int → (List GNode) → Int → Prop),
 (V_parse_reader_name (⟨r.toks, r1.at_, r1.deep, r1.l, r1.e_⟩ : Gparse_reader) (fun x r2 =>
 ((0 : Int) ≤ i ∧ i < (r1.l.length : Int)) ∧
 ∀ x1, r1.l[i.toNat]? = some x1 →
 J r2.at_ r2.deep (r1.l.set i.toNat (⟨x1.op, x, x1.n, x1.kids, x1.at_⟩ : GNode)) r2.e_)) ∧
 ∀ (atx : Int) (de : Int) (l : List GNode) (ex : Int), J atx de l ex →
 ∃ (J1 : Int → Int → (List GNode) → Int → Prop),
 (V_parse_reader_eat (⟨r.toks, atx, de, l, ex⟩ : Gparse_reader) [91] (fun x2 r3 =>
 cond (x2)
 (V_parse_reader_term (⟨r.toks, r3.at_, r3.deep, l, r3.e_⟩ : Gparse_reader) i (fun r4 =>
 V_parse_reader_must (⟨r.toks, r4.at_, r4.deep, r4.l, r4.e_⟩ : Gparse_reader) ([[93]] : List (List UInt8)) (fun r5 =>
 J1 r5.at_ r5.deep r4.l r5.e_)))
 (J1 r3.at_ r3.deep l r3.e_))) ∧
 ∀ (atx1 : Int) (de1 : Int) (l1 : List GNode) (ex1 : Int), J1 atx1 de1 l1 ex1 →
 ((0 : Int) ≤ up ∧ up < (l1.length : Int)) ∧
 ∀ x3, l1[up.toNat]? = some x3 →
 ((0 : Int) ≤ up ∧ up < (l1.length : Int)) ∧
 ∀ x4, l1[up.toNat]? = some x4 →
 K (⟨r.toks, atx1, de1, (l1.set up.toNat (⟨x4.op, x4.name, x4.n, IntKind.i64.wrap (x3.kids + 1), x4.at_⟩ : GNode)), ex1⟩ : Gparse_reader))
theorem parse_reader_ref_lift (r : Gparse_reader) (up : Int) (K : Gparse_reader → Prop) (h : parse_reader_ref_vwp r up K) : V_parse_reader_ref r up K := by
 intro m w hm rb rA rC rxs rA0 rC0 in_r ina_r bx_r rw_r f_r le_r0 f_r0
 have hrs_ := Mem.objlt hm.lt in_r ina_r
 have o := Mem.obj hm.lt in_r ina_r bx_r rw_r
 have st := Mem.objS (w := w) (l := [.slice rA0 r.toks.length rC0, .q r.at_, .q r.deep, .slice rA r.l.length rC, .q r.e_]) (e := 39) (size := 5) (n := r.l.length) (c := rC) (xs := rxs) in_r ina_r
 have hrm : ∀ b ∈ (rb :: (Vc.blk rA).toList), b ∈ m := fun b hb => (List.mem_cons.1 hb).elim (fun e => e ▸ in_r) (fun h => (ina_r b (Option.mem_toList.1 h)).1)
 refine parse_reader_ref_ok rb up _ _ ?_
 refine call_then (h _ w (o.mo hm hrm (.head _)) _ _ _ _ _ _ (Mem.inms 0 rfl) (o.objin 0 1 rfl rfl (by decide)) (o.at 0 rfl) (o.rowAt 1 rfl) (f_r.st st) le_r0 (f_r0.st st)) ?_
 rintro _ w1 ⟨i, r1, h, rfl, ⟨a, c, xs, bx, hr, el, fr⟩, ke⟩
 obtain ⟨st1, el1, o⟩ := o.y2 0 1 rfl rfl (by decide) ke bx hr fr el
 refine ⟨_, rfl, ?_⟩
 obtain ⟨J, h, h2⟩ := h
 refine ⟨fun w2 => ∃ (atx : Int) (de : Int) (l : List GNode) (ex : Int) (xs1 : List Value) (a1 : Option Addr) (c1 : Nat), J atx de l ex ∧ El cGNode (ms [.box rb [.slice rA0 r.toks.length rC0, .q atx, .q de, .slice a1 l.length c1, .q ex], .row 39 5 a1 l.length c1 xs1] m) w2 l xs1 ∧ Mem w.heap.size (rb :: (Vc.blk rA).toList) m [((rb :: (Vc.blk rA).toList), w.heap.size, w)] [] w2 [.box rb [.slice rA0 r.toks.length rC0, .q atx, .q de, .slice a1 l.length c1, .q ex], .row 39 5 a1 l.length c1 xs1] ∧ Step (ms [.box rb [.slice rA0 r.toks.length rC0, .q r1.at_, .q r1.deep, .slice a r1.l.length c, .q r1.e_], .row 39 5 a r1.l.length c xs] m) w1 (ms [.box rb [.slice rA0 r.toks.length rC0, .q atx, .q de, .slice a1 l.length c1, .q ex], .row 39 5 a1 l.length c1 xs1] m) w2, ?_, ?_⟩
 intro w3 hw3
 obtain ⟨st3, o⟩ := o.dD hw3
 have ox := o
 refine ⟨fun u => Keep [rb] w3 u ∧ u.cell? ⟨rb, 3, none⟩ = some (.slice a r1.l.length c), ⟨Keep.refl _ _, (o.at 0 rfl).cell (i := 3) rfl⟩, ?_⟩
 refine ⟨_, _, _, fun u hu => hu.2, ?_⟩
 have sT := (st.trans st1).trans st3
 refine call_then (h _ w3 (o.mo hm hrm (.head _)) _ _ _ _ _ (Mem.inms 0 rfl) (o.at 0 rfl) le_r0 (f_r0.st sT)) ?_
 rintro _ w4 ⟨x, r2, h, rfl, bx1, ke1⟩
 obtain ⟨st4, o⟩ := o.dC 0 ke1 bx1 rfl
 refine ⟨_, rfl, ?_⟩
 refine ⟨⟨(Keep.mono ke1 (by simp)), (o.at 0 rfl).cell (i := 3) rfl⟩, ?_⟩
 obtain ⟨hi, h⟩ := h
 obtain ⟨p, x1, cs, hp, he, hc, hr1⟩ := row_elem (o.rowAt 1 rfl) (el1.st (st3.trans st4)) hi
 obtain rfl := GNode_out hr1
 have h := h x1 he
 refine ⟨hi, ptrOr_some hp ?_⟩
 have hq := row_putp (i := i.toNat) (o.rowAt 1 rfl) (el1.st (st3.trans st4)) hp he hc.2 rfl 1 (.s x) (by decide)
 refine ⟨hq.1, fun w5 hw5 => ?_⟩
 obtain ⟨xs2, hr2, hg, hel⟩ := hq.2 _ hw5
 have el3 := hel (⟨x1.op, x, x1.n, x1.kids, x1.at_⟩ : GNode) (GNode_in (⟨x1.op, x, x1.n, x1.kids, x1.at_⟩ : GNode))
 have st5 := o.xA 1 rfl hr2 hg (.inl rfl)
 have o := o.app 1 rfl hr2 hg (.inl rfl)
 have ln : r1.l.length = (r1.l.set i.toNat (⟨x1.op, x, x1.n, x1.kids, x1.at_⟩ : GNode)).length := row_len (o.rowAt 1 rfl) (el3.st st5)
 rw [ln] at o
 have sT1 := (st3.trans st4).trans st5
 exact ⟨r2.at_, r2.deep, (r1.l.set i.toNat (⟨x1.op, x, x1.n, x1.kids, x1.at_⟩ : GNode)), r2.e_, xs2, a, c, h, (el3.st st5), o, sT1⟩
 rintro _ w2 ⟨atx, de, l, ex, xs1, a1, c1, hJ, el2, o, st2⟩
 have h := h2 atx de l ex hJ
 obtain ⟨J1, h, h2⟩ := h
 refine ⟨fun w6 => ∃ (atx1 : Int) (de1 : Int) (l1 : List GNode) (ex1 : Int) (xs3 : List Value) (a2 : Option Addr) (c2 : Nat), J1 atx1 de1 l1 ex1 ∧ El cGNode (ms [.box rb [.slice rA0 r.toks.length rC0, .q atx1, .q de1, .slice a2 l1.length c2, .q ex1], .row 39 5 a2 l1.length c2 xs3] m) w6 l1 xs3 ∧ Mem w.heap.size (rb :: (Vc.blk rA).toList) m [((rb :: (Vc.blk rA).toList), w.heap.size, w)] [] w6 [.box rb [.slice rA0 r.toks.length rC0, .q atx1, .q de1, .slice a2 l1.length c2, .q ex1], .row 39 5 a2 l1.length c2 xs3] ∧ Step (ms [.box rb [.slice rA0 r.toks.length rC0, .q atx, .q de, .slice a1 l.length c1, .q ex], .row 39 5 a1 l.length c1 xs1] m) w2 (ms [.box rb [.slice rA0 r.toks.length rC0, .q atx1, .q de1, .slice a2 l1.length c2, .q ex1], .row 39 5 a2 l1.length c2 xs3] m) w6, ?_, ?_⟩
 have sT2 := (st.trans st1).trans st2
 refine call_then (h _ w2 (o.mo hm hrm (.head _)) _ _ _ _ _ (Mem.inms 0 rfl) (o.at 0 rfl) le_r0 (f_r0.st sT2)) ?_
 rintro _ w7 ⟨x2, r3, h, rfl, bx2, ke2⟩
 obtain ⟨st7, o⟩ := o.dC 0 ke2 bx2 rfl
 refine ⟨_, rfl, ?_⟩
 refine cond_map (fun h => ?_) (fun h => ?_) h
 have sT3 := sT2.trans st7
 refine call_then (h _ w7 (o.mo hm hrm (.head _)) _ _ _ _ _ _ (Mem.inms 0 rfl) (o.objin 0 1 rfl rfl (by decide)) (o.at 0 rfl) (o.rowAt 1 rfl) (el2.st st7) le_r0 (f_r0.st sT3)) ?_
 rintro _ w8 ⟨r4, h, -, ⟨a3, c3, xs4, bx3, hr3, el5, fr1⟩, ke3⟩
 obtain ⟨st8, el6, o⟩ := o.y2 0 1 rfl rfl (by decide) ke3 bx3 hr3 fr1 el5
 intro b w9 hb hw9
 have el7 : El cStr (ms [.box rb [.slice rA0 r.toks.length rC0, .q r4.at_, .q r4.deep, .slice a3 r4.l.length c3, .q r4.e_], .row 39 5 a3 r4.l.length c3 xs4] m) w8 ([[93]] : List (List UInt8)) ([.s [93]] : List Value) := (El.cons (cs := [.s [93]]) rfl (El.nil _ _ _))
 have fr2 : w.heap.size ≤ b := hb ▸ o.le
 have st9 := o.xL hb hw9 1 1
 have o := o.lit hb hw9 1 1 (by decide) rfl
 have le := (o.rowAt 0 rfl).cap
 have st10 := o.xX 0
 have f := o.freeze (c := cStr) (l := ([[93]] : List (List UInt8))) 0 rfl (fun q hq h => by have := hrs_ q hq; have := fr2; simp [Vc.blk] at h; omega) (el7.st (st9.trans st10))
 have o := o.erase 0
 have sT4 := ((sT3.trans st8).trans st9).trans st10
 refine call_then (h _ w9 (o.mo hm hrm (.head _)) _ _ _ _ _ (Mem.inms 0 rfl) (o.at 0 rfl) le_r0 (f_r0.st sT4) _ _ le f) ?_
 rintro _ w10 ⟨r5, h, -, bx4, ke4⟩
 obtain ⟨st11, o⟩ := o.dC 0 ke4 bx4 rfl
 have sT5 := (st9.trans st10).trans st11
 have sT6 := (((st7.trans st8).trans st9).trans st10).trans st11
 exact ⟨r5.at_, r5.deep, r4.l, r5.e_, xs4, a3, c3, h, (el6.st sT5), o, sT6⟩
 exact ⟨r3.at_, r3.deep, l, r3.e_, xs1, a1, c1, h, (el2.st st7), o, st7⟩
 rintro _ w6 ⟨atx1, de1, l1, ex1, xs3, a2, c2, hJ, el4, o, st6⟩
 have h := h2 atx1 de1 l1 ex1 hJ
 refine ⟨_, _, _, (o.at 0 rfl).cell rfl, ?_⟩
 obtain ⟨hi1, h⟩ := h
 obtain ⟨p1, x3, cs1, hp1, he1, hc1, hr4⟩ := row_elem (o.rowAt 1 rfl) el4 hi1
 obtain rfl := GNode_out hr4
 have h := h x3 he1
 refine ⟨hi1, ptrOr_some hp1 ?_⟩
 refine ⟨_, hc1.2 3 (Nat.le_of_ble_eq_true rfl), ?_⟩
 obtain ⟨hi2, h⟩ := h
 obtain ⟨p2, x4, cs2, hp2, he2, hc2, hr5⟩ := row_elem (o.rowAt 1 rfl) el4 hi2
 obtain rfl := GNode_out hr5
 have h := h x4 he2
 refine ⟨hi2, ptrOr_some hp2 ?_⟩
 have hq1 := row_putp (i := up.toNat) (o.rowAt 1 rfl) el4 hp2 he2 hc2.2 rfl 3 (.q (IntKind.i64.wrap (x3.kids + 1))) (by decide)
 refine ⟨hq1.1, fun w11 hw11 => ?_⟩
 obtain ⟨xs5, hr6, hg1, hel1⟩ := hq1.2 _ hw11
 have el8 := hel1 (⟨x4.op, x4.name, x4.n, IntKind.i64.wrap (x3.kids + 1), x4.at_⟩ : GNode) (GNode_in (⟨x4.op, x4.name, x4.n, IntKind.i64.wrap (x3.kids + 1), x4.at_⟩ : GNode))
 have st12 := o.xA 1 rfl hr6 hg1 (.inl rfl)
 have o := o.app 1 rfl hr6 hg1 (.inl rfl)
 have ln1 : l1.length = (l1.set up.toNat (⟨x4.op, x4.name, x4.n, IntKind.i64.wrap (x3.kids + 1), x4.at_⟩ : GNode)).length := row_len (o.rowAt 1 rfl) (el8.st st12)
 rw [ln1] at o
 try rw [ln1]
 exact ⟨(⟨r.toks, atx1, de1, (l1.set up.toNat (⟨x4.op, x4.name, x4.n, IntKind.i64.wrap (x3.kids + 1), x4.at_⟩ : GNode)), ex1⟩ : Gparse_reader), h, trivial, ⟨_, _, _, o.at 0 rfl, o.rowAt 1 rfl, (el8.st (st12.trans (o.eRS 1 rfl))), o.oldnew 1 rfl 0 rfl (by decide)⟩, o.done⟩
def parse_reader_block_vwp (r : Gparse_reader) (up : Int) (K : Gparse_reader → Prop) : Prop :=
 ∃ (J : Int → Int → (List GNode) → Int → Prop),
 (∃ (J1 : Bool → Prop),
 (cond (r.e_ == 0)
 (V_parse_reader_is r 0 [123] (fun x1 =>
 cond (x1)
 (J1 (r.deep == 24))
 (J1 false)))
 (J1 false)) ∧
 ∀ (x : Bool), J1 x →
 cond (x)
 (V_parse_reader_fail r 5 (fun r1 =>
 J r1.at_ r1.deep r.l r1.e_))
 (J r.at_ r.deep r.l r.e_)) ∧
 ∀ (atx : Int) (de : Int) (l : List GNode) (ex : Int), J atx de l ex →
 V_parse_reader_open (⟨r.toks, atx, de, l, ex⟩ : Gparse_reader) 32 (fun i r2 =>
 V_parse_reader_must (⟨r.toks, r2.at_, r2.deep, r2.l, r2.e_⟩ : Gparse_reader) ([[123]] : List (List UInt8)) (fun r3 =>
 ∃ (I : Int → Int → (List GNode) → Int → Nat → Prop), (∃ n, I r3.at_ (IntKind.i64.wrap (r3.deep + 1)) r2.l r3.e_ n) ∧
 ∀ (atx1 : Int) (de1 : Int) (l1 : List GNode) (ex1 : Int) (n : Nat), I atx1 de1 l1 ex1 n →
 ∃ (J2 : Bool → Prop),
 (cond (ex1 == 0)
 (V_parse_reader_is (⟨r.toks, atx1, de1, l1, ex1⟩ : Gparse_reader) 0 [125] (fun x3 =>
 J2 (!x3)))
 (J2 false)) ∧
 ∀ (x2 : Bool), J2 x2 →
 cond (x2)
 (V_parse_reader_stmt (⟨r.toks, atx1, de1, l1, ex1⟩ : Gparse_reader) (fun r4 =>
 ((0 : Int) ≤ i ∧ i < (r4.l.length : Int)) ∧
 ∀ x4, r4.l[i.toNat]? = some x4 →
 ((0 : Int) ≤ i ∧ i < (r4.l.length : Int)) ∧
 ∀ x5, r4.l[i.toNat]? = some x5 →
 ∃ n1, n1 < n ∧ I r4.at_ r4.deep (r4.l.set i.toNat (⟨x5.op, x5.name, x5.n, IntKind.i64.wrap (x4.kids + 1), x5.at_⟩ : GNode)) r4.e_ n1))
 (V_parse_reader_must (⟨r.toks, atx1, de1, l1, ex1⟩ : Gparse_reader) ([[125]] : List (List UInt8)) (fun r5 =>
 ((0 : Int) ≤ up ∧ up < (l1.length : Int)) ∧
 ∀ x6, l1[up.toNat]? = some x6 →
 ((0 : Int) ≤ up ∧ up < (l1.length : Int)) ∧
 ∀ x7, l1[up.toNat]? = some x7 →
 K (⟨r.toks, r5.at_, IntKind.i64.wrap (r5.deep - 1), (l1.set up.toNat (⟨x7.op, x7.name, x7.n, IntKind.i64.wrap (x6.kids + 1), x7.at_⟩ : GNode)), r5.e_⟩ : Gparse_reader)))))
set_option maxHeartbeats 4000000 in
theorem parse_reader_block_lift (r : Gparse_reader) (up : Int) (K : Gparse_reader → Prop) (h : parse_reader_block_vwp r up K) : V_parse_reader_block r up K := by
 intro m w hm rb rA rC rxs rA0 rC0 in_r ina_r bx_r rw_r f_r le_r0 f_r0
 have hrs_ := Mem.objlt hm.lt in_r ina_r
 have o := Mem.obj hm.lt in_r ina_r bx_r rw_r
 have st := Mem.objS (w := w) (l := [.slice rA0 r.toks.length rC0, .q r.at_, .q r.deep, .slice rA r.l.length rC, .q r.e_]) (e := 39) (size := 5) (n := r.l.length) (c := rC) (xs := rxs) in_r ina_r
 have hrm : ∀ b ∈ (rb :: (Vc.blk rA).toList), b ∈ m := fun b hb => (List.mem_cons.1 hb).elim (fun e => e ▸ in_r) (fun h => (ina_r b (Option.mem_toList.1 h)).1)
 refine parse_reader_block_ok rb up _ _ ?_
 obtain ⟨J, h, h2⟩ := h
 refine ⟨fun w1 => ∃ (atx : Int) (de : Int) (l : List GNode) (ex : Int) (xs : List Value) (a : Option Addr) (c : Nat), J atx de l ex ∧ El cGNode (ms [.box rb [.slice rA0 r.toks.length rC0, .q atx, .q de, .slice a l.length c, .q ex], .row 39 5 a l.length c xs] m) w1 l xs ∧ Mem w.heap.size (rb :: (Vc.blk rA).toList) m [((rb :: (Vc.blk rA).toList), w.heap.size, w)] [] w1 [.box rb [.slice rA0 r.toks.length rC0, .q atx, .q de, .slice a l.length c, .q ex], .row 39 5 a l.length c xs] ∧ Step (ms [.box rb [.slice rA0 r.toks.length rC0, .q r.at_, .q r.deep, .slice rA r.l.length rC, .q r.e_], .row 39 5 rA r.l.length rC rxs] m) w (ms [.box rb [.slice rA0 r.toks.length rC0, .q atx, .q de, .slice a l.length c, .q ex], .row 39 5 a l.length c xs] m) w1, ?_, ?_⟩
 obtain ⟨J1, h, h2⟩ := h
 refine ⟨fun x w2 => J1 x ∧ Mem w.heap.size (rb :: (Vc.blk rA).toList) m [((rb :: (Vc.blk rA).toList), w.heap.size, w)] [] w2 [.box rb [.slice rA0 r.toks.length rC0, .q r.at_, .q r.deep, .slice rA r.l.length rC, .q r.e_], .row 39 5 rA r.l.length rC rxs] ∧ Step (ms [.box rb [.slice rA0 r.toks.length rC0, .q r.at_, .q r.deep, .slice rA r.l.length rC, .q r.e_], .row 39 5 rA r.l.length rC rxs] m) w (ms [.box rb [.slice rA0 r.toks.length rC0, .q r.at_, .q r.deep, .slice rA r.l.length rC, .q r.e_], .row 39 5 rA r.l.length rC rxs] m) w2, ?_, ?_⟩
 refine ⟨_, (o.at 0 rfl).cell rfl, ?_⟩
 refine cond_map (fun h => ?_) (fun h => ?_) h
 refine call_then (h _ w (o.mo hm hrm (.head _)) _ _ _ _ _ (o.at 0 rfl) le_r0 (f_r0.st st)) ?_
 rintro _ w3 ⟨x1, h, rfl, ke⟩
 obtain ⟨st3, o⟩ := o.dE ke
 refine ⟨_, rfl, ?_⟩
 refine cond_map (fun h => ?_) (fun h => ?_) h
 refine ⟨_, (o.at 0 rfl).cell rfl, ?_⟩
 exact ⟨h, o, st3⟩
 exact ⟨h, o, st3⟩
 exact ⟨h, o, Step.refl _ _⟩
 rintro _ x w2 ⟨hJ, o, st2⟩
 have h := h2 x hJ
 refine cond_map (fun h => ?_) (fun h => ?_) h
 refine call_then (h _ w2 (o.mo hm hrm (.head _)) _ _ _ _ _ (Mem.inms 0 rfl) (o.at 0 rfl) le_r0 (f_r0.st (st.trans st2))) ?_
 rintro _ w4 ⟨r1, h, -, bx, ke1⟩
 obtain ⟨st4, o⟩ := o.dC 0 ke1 bx rfl
 have sT := (st.trans st2).trans st4
 exact ⟨r1.at_, r1.deep, r.l, r1.e_, rxs, rA, rC, h, (f_r.st sT), o, (st2.trans st4)⟩
 exact ⟨r.at_, r.deep, r.l, r.e_, rxs, rA, rC, h, (f_r.st (st.trans st2)), o, st2⟩
 rintro _ w1 ⟨atx, de, l, ex, xs, a, c, hJ, el, o, st1⟩
 have h := h2 atx de l ex hJ
 refine call_then (h _ w1 (o.mo hm hrm (.head _)) _ _ _ _ _ _ (Mem.inms 0 rfl) (o.objin 0 1 rfl rfl (by decide)) (o.at 0 rfl) (o.rowAt 1 rfl) el le_r0 (f_r0.st (st.trans st1))) ?_
 rintro _ w5 ⟨i, r2, h, rfl, ⟨a1, c1, xs1, bx1, hr, el1, fr⟩, ke2⟩
 obtain ⟨st5, el2, o⟩ := o.y2 0 1 rfl rfl (by decide) ke2 bx1 hr fr el1
 refine ⟨_, rfl, ?_⟩
 intro b w6 hb hw6
 have el3 : El cStr (ms [.box rb [.slice rA0 r.toks.length rC0, .q r2.at_, .q r2.deep, .slice a1 r2.l.length c1, .q r2.e_], .row 39 5 a1 r2.l.length c1 xs1] m) w5 ([[123]] : List (List UInt8)) ([.s [123]] : List Value) := (El.cons (cs := [.s [123]]) rfl (El.nil _ _ _))
 have fr1 : w.heap.size ≤ b := hb ▸ o.le
 have st6 := o.xL hb hw6 1 1
 have o := o.lit hb hw6 1 1 (by decide) rfl
 have le := (o.rowAt 0 rfl).cap
 have st7 := o.xX 0
 have f := o.freeze (c := cStr) (l := ([[123]] : List (List UInt8))) 0 rfl (fun q hq h => by have := hrs_ q hq; have := fr1; simp [Vc.blk] at h; omega) (el3.st (st6.trans st7))
 have o := o.erase 0
 have sT1 := (((st.trans st1).trans st5).trans st6).trans st7
 refine call_then (h _ w6 (o.mo hm hrm (.head _)) _ _ _ _ _ (Mem.inms 0 rfl) (o.at 0 rfl) le_r0 (f_r0.st sT1) _ _ le f) ?_
 rintro _ w7 ⟨r3, h, -, bx2, ke3⟩
 obtain ⟨st8, o⟩ := o.dC 0 ke3 bx2 rfl
 refine ⟨_, (o.at 0 rfl).cell rfl, ?_⟩
 refine ⟨o.wr 0 rfl rfl, fun w8 hw8 => ?_⟩
 obtain ⟨st9, o⟩ := o.dS 0 hw8 rfl
 obtain ⟨I, ⟨n2, h⟩, h2⟩ := h
 obtain ⟨Z, hZ⟩ : ∃ Z : World → Nat → Prop, Z = fun w9 n => ∃ (atx1 : Int) (de1 : Int) (l1 : List GNode) (ex1 : Int) (xs2 : List Value) (a2 : Option Addr) (c2 : Nat), I atx1 de1 l1 ex1 n ∧ El cGNode (ms [.box rb [.slice rA0 r.toks.length rC0, .q atx1, .q de1, .slice a2 l1.length c2, .q ex1], .row 39 5 a2 l1.length c2 xs2] m) w9 l1 xs2 ∧ Mem w.heap.size (rb :: (Vc.blk rA).toList) m [((rb :: (Vc.blk rA).toList), w.heap.size, w)] [] w9 [.box rb [.slice rA0 r.toks.length rC0, .q atx1, .q de1, .slice a2 l1.length c2, .q ex1], .row 39 5 a2 l1.length c2 xs2] ∧ Step (ms [.box rb [.slice rA0 r.toks.length rC0, .q r3.at_, .q (IntKind.i64.wrap (r3.deep + 1)), .slice a1 r2.l.length c1, .q r3.e_], .row 39 5 a1 r2.l.length c1 xs1] m) w8 (ms [.box rb [.slice rA0 r.toks.length rC0, .q atx1, .q de1, .slice a2 l1.length c2, .q ex1], .row 39 5 a2 l1.length c2 xs2] m) w9 := ⟨_, rfl⟩
 refine ⟨fun w9 => ∃ n, Z w9 n, fun w9 => leastN (Z w9), ⟨n2, ?_⟩, ?_⟩
 have sT2 := ((st6.trans st7).trans st8).trans st9
 rw [hZ]; exact ⟨r3.at_, (IntKind.i64.wrap (r3.deep + 1)), r2.l, r3.e_, xs1, a1, c1, h, (el2.st sT2), o, Step.refl _ _⟩
 intro _ w9 hIZ
 obtain ⟨n, hnn⟩ : ∃ n, n = leastN (Z w9) := ⟨_, rfl⟩
 have hIZ := leastN_at hIZ
 rw [← hnn, hZ] at hIZ
 obtain ⟨atx1, de1, l1, ex1, xs2, a2, c2, h, el4, o, st10⟩ := hIZ
 have h := h2 atx1 de1 l1 ex1 n h
 obtain ⟨J2, h, h2⟩ := h
 refine ⟨fun x2 w10 => J2 x2 ∧ Mem w.heap.size (rb :: (Vc.blk rA).toList) m [((rb :: (Vc.blk rA).toList), w.heap.size, w)] [] w10 [.box rb [.slice rA0 r.toks.length rC0, .q atx1, .q de1, .slice a2 l1.length c2, .q ex1], .row 39 5 a2 l1.length c2 xs2] ∧ Step (ms [.box rb [.slice rA0 r.toks.length rC0, .q atx1, .q de1, .slice a2 l1.length c2, .q ex1], .row 39 5 a2 l1.length c2 xs2] m) w9 (ms [.box rb [.slice rA0 r.toks.length rC0, .q atx1, .q de1, .slice a2 l1.length c2, .q ex1], .row 39 5 a2 l1.length c2 xs2] m) w10, ?_, ?_⟩
 refine ⟨_, (o.at 0 rfl).cell rfl, ?_⟩
 refine cond_map (fun h => ?_) (fun h => ?_) h
 have sT3 := ((sT1.trans st8).trans st9).trans st10
 refine call_then (h _ w9 (o.mo hm hrm (.head _)) _ _ _ _ _ (o.at 0 rfl) le_r0 (f_r0.st sT3)) ?_
 rintro _ w11 ⟨x3, h, rfl, ke4⟩
 obtain ⟨st12, o⟩ := o.dE ke4
 refine ⟨_, rfl, ?_⟩
 exact ⟨h, o, st12⟩
 exact ⟨h, o, Step.refl _ _⟩
 rintro _ x2 w10 ⟨hJ, o, st11⟩
 have h := h2 x2 hJ
 refine cond_map (fun h => ?_) (fun h => ?_) h
 have sT4 := (((sT1.trans st8).trans st9).trans st10).trans st11
 refine call_then (h _ w10 (o.mo hm hrm (.head _)) _ _ _ _ _ _ (Mem.inms 0 rfl) (o.objin 0 1 rfl rfl (by decide)) (o.at 0 rfl) (o.rowAt 1 rfl) (el4.st st11) le_r0 (f_r0.st sT4)) ?_
 rintro _ w12 ⟨r4, h, -, ⟨a3, c3, xs3, bx3, hr1, el5, fr2⟩, ke5⟩
 obtain ⟨st13, el6, o⟩ := o.y2 0 1 rfl rfl (by decide) ke5 bx3 hr1 fr2 el5
 refine ⟨_, _, _, (o.at 0 rfl).cell rfl, ?_⟩
 obtain ⟨hi, h⟩ := h
 obtain ⟨p, x4, cs, hp, he, hc, hr2⟩ := row_elem (o.rowAt 1 rfl) el6 hi
 obtain rfl := GNode_out hr2
 have h := h x4 he
 refine ⟨hi, ptrOr_some hp ?_⟩
 refine ⟨_, hc.2 3 (Nat.le_of_ble_eq_true rfl), ?_⟩
 obtain ⟨hi1, h⟩ := h
 obtain ⟨p1, x5, cs1, hp1, he1, hc1, hr3⟩ := row_elem (o.rowAt 1 rfl) el6 hi1
 obtain rfl := GNode_out hr3
 have h := h x5 he1
 refine ⟨hi1, ptrOr_some hp1 ?_⟩
 have hq := row_putp (i := i.toNat) (o.rowAt 1 rfl) el6 hp1 he1 hc1.2 rfl 3 (.q (IntKind.i64.wrap (x4.kids + 1))) (by decide)
 refine ⟨hq.1, fun w13 hw13 => ?_⟩
 obtain ⟨xs4, hr4, hg, hel⟩ := hq.2 _ hw13
 have el7 := hel (⟨x5.op, x5.name, x5.n, IntKind.i64.wrap (x4.kids + 1), x5.at_⟩ : GNode) (GNode_in (⟨x5.op, x5.name, x5.n, IntKind.i64.wrap (x4.kids + 1), x5.at_⟩ : GNode))
 have st14 := o.xA 1 rfl hr4 hg (.inl rfl)
 have o := o.app 1 rfl hr4 hg (.inl rfl)
 have ln : r4.l.length = (r4.l.set i.toNat (⟨x5.op, x5.name, x5.n, IntKind.i64.wrap (x4.kids + 1), x5.at_⟩ : GNode)).length := row_len (o.rowAt 1 rfl) (el7.st st14)
 rw [ln] at o
 obtain ⟨n1, hl, h⟩ := h
 have sT5 := ((st10.trans st11).trans st13).trans st14
 exact loop_again hnn (show Z w13 n1 from (by rw [hZ]; exact ⟨r4.at_, r4.deep, (r4.l.set i.toNat (⟨x5.op, x5.name, x5.n, IntKind.i64.wrap (x4.kids + 1), x5.at_⟩ : GNode)), r4.e_, xs4, a3, c3, h, (el7.st st14), o, sT5⟩)) hl
 intro b1 w14 hb1 hw14
 have el8 : El cStr (ms [.box rb [.slice rA0 r.toks.length rC0, .q atx1, .q de1, .slice a2 l1.length c2, .q ex1], .row 39 5 a2 l1.length c2 xs2] m) w10 ([[125]] : List (List UInt8)) ([.s [125]] : List Value) := (El.cons (cs := [.s [125]]) rfl (El.nil _ _ _))
 have fr3 : w.heap.size ≤ b1 := hb1 ▸ o.le
 have st15 := o.xL hb1 hw14 1 1
 have o := o.lit hb1 hw14 1 1 (by decide) rfl
 have le1 := (o.rowAt 0 rfl).cap
 have st16 := o.xX 0
 have f1 := o.freeze (c := cStr) (l := ([[125]] : List (List UInt8))) 0 rfl (fun q hq h => by have := hrs_ q hq; have := fr3; simp [Vc.blk] at h; omega) (el8.st (st15.trans st16))
 have o := o.erase 0
 have sT6 := (((((sT1.trans st8).trans st9).trans st10).trans st11).trans st15).trans st16
 refine call_then (h _ w14 (o.mo hm hrm (.head _)) _ _ _ _ _ (Mem.inms 0 rfl) (o.at 0 rfl) le_r0 (f_r0.st sT6) _ _ le1 f1) ?_
 rintro _ w15 ⟨r5, h, -, bx4, ke6⟩
 obtain ⟨st17, o⟩ := o.dC 0 ke6 bx4 rfl
 refine ⟨_, (o.at 0 rfl).cell rfl, ?_⟩
 refine ⟨o.wr 0 rfl rfl, fun w16 hw16 => ?_⟩
 obtain ⟨st18, o⟩ := o.dS 0 hw16 rfl
 refine ⟨_, _, _, (o.at 0 rfl).cell rfl, ?_⟩
 obtain ⟨hi2, h⟩ := h
 have sT7 := (((st11.trans st15).trans st16).trans st17).trans st18
 obtain ⟨p2, x6, cs2, hp2, he2, hc2, hr5⟩ := row_elem (o.rowAt 1 rfl) (el4.st sT7) hi2
 obtain rfl := GNode_out hr5
 have h := h x6 he2
 refine ⟨hi2, ptrOr_some hp2 ?_⟩
 refine ⟨_, hc2.2 3 (Nat.le_of_ble_eq_true rfl), ?_⟩
 obtain ⟨hi3, h⟩ := h
 obtain ⟨p3, x7, cs3, hp3, he3, hc3, hr6⟩ := row_elem (o.rowAt 1 rfl) (el4.st sT7) hi3
 obtain rfl := GNode_out hr6
 have h := h x7 he3
 refine ⟨hi3, ptrOr_some hp3 ?_⟩
 have hq1 := row_putp (i := up.toNat) (o.rowAt 1 rfl) (el4.st sT7) hp3 he3 hc3.2 rfl 3 (.q (IntKind.i64.wrap (x6.kids + 1))) (by decide)
 refine ⟨hq1.1, fun w17 hw17 => ?_⟩
 obtain ⟨xs5, hr7, hg1, hel1⟩ := hq1.2 _ hw17
 have el9 := hel1 (⟨x7.op, x7.name, x7.n, IntKind.i64.wrap (x6.kids + 1), x7.at_⟩ : GNode) (GNode_in (⟨x7.op, x7.name, x7.n, IntKind.i64.wrap (x6.kids + 1), x7.at_⟩ : GNode))
 have st19 := o.xA 1 rfl hr7 hg1 (.inl rfl)
 have o := o.app 1 rfl hr7 hg1 (.inl rfl)
 have ln1 : l1.length = (l1.set up.toNat (⟨x7.op, x7.name, x7.n, IntKind.i64.wrap (x6.kids + 1), x7.at_⟩ : GNode)).length := row_len (o.rowAt 1 rfl) (el9.st st19)
 rw [ln1] at o
 try rw [ln1]
 exact ⟨(⟨r.toks, r5.at_, IntKind.i64.wrap (r5.deep - 1), (l1.set up.toNat (⟨x7.op, x7.name, x7.n, IntKind.i64.wrap (x6.kids + 1), x7.at_⟩ : GNode)), r5.e_⟩ : Gparse_reader), h, trivial, ⟨_, _, _, o.at 0 rfl, o.rowAt 1 rfl, (el9.st (st19.trans (o.eRS 1 rfl))), o.oldnew 1 rfl 0 rfl (by decide)⟩, o.done⟩
def parse_reader_comm_vwp (r : Gparse_reader) (i : Int) (send : Int) (recv : Int) (K : Gparse_reader → Prop) : Prop :=
 V_parse_reader_ref r i (fun r1 =>
 V_parse_reader_eat (⟨r.toks, r1.at_, r1.deep, r1.l, r1.e_⟩ : Gparse_reader) [33] (fun x r2 =>
 cond (x)
 (((0 : Int) ≤ i ∧ i < (r1.l.length : Int)) ∧
 ∀ x1, r1.l[i.toNat]? = some x1 →
 V_parse_reader_term (⟨r.toks, r2.at_, r2.deep, (r1.l.set i.toNat (⟨send, x1.name, x1.n, x1.kids, x1.at_⟩ : GNode)), r2.e_⟩ : Gparse_reader) i (fun r3 =>
 K (⟨r.toks, r3.at_, r3.deep, r3.l, r3.e_⟩ : Gparse_reader)))
 (V_parse_reader_eat (⟨r.toks, r2.at_, r2.deep, r1.l, r2.e_⟩ : Gparse_reader) [63] (fun x2 r4 =>
 cond (x2)
 (((0 : Int) ≤ i ∧ i < (r1.l.length : Int)) ∧
 ∀ x3, r1.l[i.toNat]? = some x3 →
 V_parse_reader_name (⟨r.toks, r4.at_, r4.deep, (r1.l.set i.toNat (⟨recv, x3.name, x3.n, x3.kids, x3.at_⟩ : GNode)), r4.e_⟩ : Gparse_reader) (fun x4 r5 =>
 ((0 : Int) ≤ i ∧ i < ((r1.l.set i.toNat (⟨recv, x3.name, x3.n, x3.kids, x3.at_⟩ : GNode)).length : Int)) ∧
 ∀ x5, (r1.l.set i.toNat (⟨recv, x3.name, x3.n, x3.kids, x3.at_⟩ : GNode))[i.toNat]? = some x5 →
 K (⟨r.toks, r5.at_, r5.deep, ((r1.l.set i.toNat (⟨recv, x3.name, x3.n, x3.kids, x3.at_⟩ : GNode)).set i.toNat (⟨x5.op, x4, x5.n, x5.kids, x5.at_⟩ : GNode)), r5.e_⟩ : Gparse_reader)))
 (V_parse_reader_fail (⟨r.toks, r4.at_, r4.deep, r1.l, r4.e_⟩ : Gparse_reader) 11 (fun r6 =>
 K (⟨r.toks, r6.at_, r6.deep, r1.l, r6.e_⟩ : Gparse_reader)))))))
theorem parse_reader_comm_lift (r : Gparse_reader) (i : Int) (send : Int) (recv : Int) (K : Gparse_reader → Prop) (h : parse_reader_comm_vwp r i send recv K) : V_parse_reader_comm r i send recv K := by
 intro m w hm rb rA rC rxs rA0 rC0 in_r ina_r bx_r rw_r f_r le_r0 f_r0
 have hrs_ := Mem.objlt hm.lt in_r ina_r
 have o := Mem.obj hm.lt in_r ina_r bx_r rw_r
 have st := Mem.objS (w := w) (l := [.slice rA0 r.toks.length rC0, .q r.at_, .q r.deep, .slice rA r.l.length rC, .q r.e_]) (e := 39) (size := 5) (n := r.l.length) (c := rC) (xs := rxs) in_r ina_r
 have hrm : ∀ b ∈ (rb :: (Vc.blk rA).toList), b ∈ m := fun b hb => (List.mem_cons.1 hb).elim (fun e => e ▸ in_r) (fun h => (ina_r b (Option.mem_toList.1 h)).1)
 refine parse_reader_comm_ok rb i send recv _ _ ?_
 refine call_then (h _ w (o.mo hm hrm (.head _)) _ _ _ _ _ _ (Mem.inms 0 rfl) (o.objin 0 1 rfl rfl (by decide)) (o.at 0 rfl) (o.rowAt 1 rfl) (f_r.st st) le_r0 (f_r0.st st)) ?_
 rintro _ w1 ⟨r1, h, -, ⟨a, c, xs, bx, hr, el, fr⟩, ke⟩
 obtain ⟨st1, el1, o⟩ := o.y2 0 1 rfl rfl (by decide) ke bx hr fr el
 refine call_then (h _ w1 (o.mo hm hrm (.head _)) _ _ _ _ _ (Mem.inms 0 rfl) (o.at 0 rfl) le_r0 (f_r0.st (st.trans st1))) ?_
 rintro _ w2 ⟨x, r2, h, rfl, bx1, ke1⟩
 obtain ⟨st2, o⟩ := o.dC 0 ke1 bx1 rfl
 refine ⟨_, rfl, ?_⟩
 refine cond_map (fun h => ?_) (fun h => ?_) h
 refine ⟨_, _, _, (o.at 0 rfl).cell rfl, ?_⟩
 obtain ⟨hi, h⟩ := h
 obtain ⟨p, x1, cs, hp, he, hc, hr1⟩ := row_elem (o.rowAt 1 rfl) (el1.st st2) hi
 obtain rfl := GNode_out hr1
 have h := h x1 he
 refine ⟨hi, ptrOr_some hp ?_⟩
 have hq := row_putp (i := i.toNat) (o.rowAt 1 rfl) (el1.st st2) hp he hc.2 rfl 0 (.q send) (by decide)
 refine ⟨hq.1, fun w3 hw3 => ?_⟩
 obtain ⟨xs1, hr2, hg, hel⟩ := hq.2 _ hw3
 have el2 := hel (⟨send, x1.name, x1.n, x1.kids, x1.at_⟩ : GNode) (GNode_in (⟨send, x1.name, x1.n, x1.kids, x1.at_⟩ : GNode))
 have st3 := o.xA 1 rfl hr2 hg (.inl rfl)
 have o := o.app 1 rfl hr2 hg (.inl rfl)
 have ln : r1.l.length = (r1.l.set i.toNat (⟨send, x1.name, x1.n, x1.kids, x1.at_⟩ : GNode)).length := row_len (o.rowAt 1 rfl) (el2.st st3)
 rw [ln] at o
 try rw [ln]
 have sT := ((st.trans st1).trans st2).trans st3
 refine call_then (h _ w3 (o.mo hm hrm (.head _)) _ _ _ _ _ _ (Mem.inms 0 rfl) (o.objin 0 1 rfl rfl (by decide)) (o.at 0 rfl) (o.rowAt 1 rfl) (el2.st st3) le_r0 (f_r0.st sT)) ?_
 rintro _ w4 ⟨r3, h, -, ⟨a1, c1, xs2, bx2, hr3, el3, fr1⟩, ke2⟩
 obtain ⟨st4, el4, o⟩ := o.y2 0 1 rfl rfl (by decide) ke2 bx2 hr3 fr1 el3
 exact ⟨(⟨r.toks, r3.at_, r3.deep, r3.l, r3.e_⟩ : Gparse_reader), h, trivial, ⟨_, _, _, o.at 0 rfl, o.rowAt 1 rfl, (el4.st (o.eRS 1 rfl)), o.oldnew 1 rfl 0 rfl (by decide)⟩, o.done⟩
 have sT1 := (st.trans st1).trans st2
 refine call_then (h _ w2 (o.mo hm hrm (.head _)) _ _ _ _ _ (Mem.inms 0 rfl) (o.at 0 rfl) le_r0 (f_r0.st sT1)) ?_
 rintro _ w5 ⟨x2, r4, h, rfl, bx3, ke3⟩
 obtain ⟨st5, o⟩ := o.dC 0 ke3 bx3 rfl
 refine ⟨_, rfl, ?_⟩
 refine cond_map (fun h => ?_) (fun h => ?_) h
 refine ⟨_, _, _, (o.at 0 rfl).cell rfl, ?_⟩
 obtain ⟨hi1, h⟩ := h
 obtain ⟨p1, x3, cs1, hp1, he1, hc1, hr4⟩ := row_elem (o.rowAt 1 rfl) (el1.st (st2.trans st5)) hi1
 obtain rfl := GNode_out hr4
 have h := h x3 he1
 refine ⟨hi1, ptrOr_some hp1 ?_⟩
 have hq1 := row_putp (i := i.toNat) (o.rowAt 1 rfl) (el1.st (st2.trans st5)) hp1 he1 hc1.2 rfl 0 (.q recv) (by decide)
 refine ⟨hq1.1, fun w6 hw6 => ?_⟩
 obtain ⟨xs3, hr5, hg1, hel1⟩ := hq1.2 _ hw6
 have el5 := hel1 (⟨recv, x3.name, x3.n, x3.kids, x3.at_⟩ : GNode) (GNode_in (⟨recv, x3.name, x3.n, x3.kids, x3.at_⟩ : GNode))
 have st6 := o.xA 1 rfl hr5 hg1 (.inl rfl)
 have o := o.app 1 rfl hr5 hg1 (.inl rfl)
 have ln1 : r1.l.length = (r1.l.set i.toNat (⟨recv, x3.name, x3.n, x3.kids, x3.at_⟩ : GNode)).length := row_len (o.rowAt 1 rfl) (el5.st st6)
 intro w7 hw7
 obtain ⟨st7, o⟩ := o.dD hw7
 rw [ln1] at o
 try rw [ln1]
 have ox := o
 refine ⟨fun u => Keep [rb] w7 u ∧ u.cell? ⟨rb, 3, none⟩ = some (.slice a ((r1.l.set i.toNat (⟨recv, x3.name, x3.n, x3.kids, x3.at_⟩ : GNode)).length) c), ⟨Keep.refl _ _, (o.at 0 rfl).cell (i := 3) rfl⟩, ?_⟩
 refine ⟨_, _, _, fun u hu => hu.2, ?_⟩
 have sT2 := ((sT1.trans st5).trans st6).trans st7
 refine call_then (h _ w7 (o.mo hm hrm (.head _)) _ _ _ _ _ (Mem.inms 0 rfl) (o.at 0 rfl) le_r0 (f_r0.st sT2)) ?_
 rintro _ w8 ⟨x4, r5, h, rfl, bx4, ke4⟩
 obtain ⟨st8, o⟩ := o.dC 0 ke4 bx4 rfl
 refine ⟨_, rfl, ?_⟩
 refine ⟨⟨(Keep.mono ke4 (by simp)), (o.at 0 rfl).cell (i := 3) rfl⟩, ?_⟩
 obtain ⟨hi2, h⟩ := h
 have sT3 := (st6.trans st7).trans st8
 obtain ⟨p2, x5, cs2, hp2, he2, hc2, hr6⟩ := row_elem (o.rowAt 1 rfl) (el5.st sT3) hi2
 obtain rfl := GNode_out hr6
 have h := h x5 he2
 refine ⟨hi2, ptrOr_some hp2 ?_⟩
 have hq2 := row_putp (i := i.toNat) (o.rowAt 1 rfl) (el5.st sT3) hp2 he2 hc2.2 rfl 1 (.s x4) (by decide)
 refine ⟨hq2.1, fun w9 hw9 => ?_⟩
 obtain ⟨xs4, hr7, hg2, hel2⟩ := hq2.2 _ hw9
 have el6 := hel2 (⟨x5.op, x4, x5.n, x5.kids, x5.at_⟩ : GNode) (GNode_in (⟨x5.op, x4, x5.n, x5.kids, x5.at_⟩ : GNode))
 have st9 := o.xA 1 rfl hr7 hg2 (.inl rfl)
 have o := o.app 1 rfl hr7 hg2 (.inl rfl)
 have ln2 : (r1.l.set i.toNat (⟨recv, x3.name, x3.n, x3.kids, x3.at_⟩ : GNode)).length = ((r1.l.set i.toNat (⟨recv, x3.name, x3.n, x3.kids, x3.at_⟩ : GNode)).set i.toNat (⟨x5.op, x4, x5.n, x5.kids, x5.at_⟩ : GNode)).length := row_len (o.rowAt 1 rfl) (el6.st st9)
 rw [ln2] at o
 try rw [ln2]
 exact ⟨(⟨r.toks, r5.at_, r5.deep, ((r1.l.set i.toNat (⟨recv, x3.name, x3.n, x3.kids, x3.at_⟩ : GNode)).set i.toNat (⟨x5.op, x4, x5.n, x5.kids, x5.at_⟩ : GNode)), r5.e_⟩ : Gparse_reader), h, trivial, ⟨_, _, _, o.at 0 rfl, o.rowAt 1 rfl, (el6.st (st9.trans (o.eRS 1 rfl))), o.oldnew 1 rfl 0 rfl (by decide)⟩, o.done⟩
 have sT4 := sT1.trans st5
 refine call_then (h _ w5 (o.mo hm hrm (.head _)) _ _ _ _ _ (Mem.inms 0 rfl) (o.at 0 rfl) le_r0 (f_r0.st sT4)) ?_
 rintro _ w10 ⟨r6, h, -, bx5, ke5⟩
 obtain ⟨st10, o⟩ := o.dC 0 ke5 bx5 rfl
 exact ⟨(⟨r.toks, r6.at_, r6.deep, r1.l, r6.e_⟩ : Gparse_reader), h, trivial, ⟨_, _, _, o.at 0 rfl, o.rowAt 1 rfl, (el1.st (st2.trans (st5.trans (st10.trans (o.eRS 1 rfl))))), o.oldnew 1 rfl 0 rfl (by decide)⟩, o.done⟩
def parse_reader_set_vwp (r : Gparse_reader) (i : Int) (K : Gparse_reader → Prop) : Prop :=
 ∃ (J : Int → Int → (List GNode) → Int → Prop),
 (V_parse_reader_name r (fun x r1 =>
 ((0 : Int) ≤ i ∧ i < (r.l.length : Int)) ∧
 ∀ x1, r.l[i.toNat]? = some x1 →
 J r1.at_ r1.deep (r.l.set i.toNat (⟨x1.op, x, x1.n, x1.kids, x1.at_⟩ : GNode)) r1.e_)) ∧
 ∀ (atx : Int) (de : Int) (l : List GNode) (ex : Int), J atx de l ex →
 V_parse_reader_must (⟨r.toks, atx, de, l, ex⟩ : Gparse_reader) ([[61]] : List (List UInt8)) (fun r2 =>
 V_parse_reader_eat (⟨r.toks, r2.at_, r2.deep, l, r2.e_⟩ : Gparse_reader) [114, 97, 110, 100, 111, 109] (fun x2 r3 =>
 cond (x2)
 (((0 : Int) ≤ i ∧ i < (l.length : Int)) ∧
 ∀ x3, l[i.toNat]? = some x3 →
 V_parse_reader_must (⟨r.toks, r3.at_, r3.deep, (l.set i.toNat (⟨20, x3.name, x3.n, x3.kids, x3.at_⟩ : GNode)), r3.e_⟩ : Gparse_reader) ([[40]] : List (List UInt8)) (fun r4 =>
 V_parse_reader_term (⟨r.toks, r4.at_, r4.deep, (l.set i.toNat (⟨20, x3.name, x3.n, x3.kids, x3.at_⟩ : GNode)), r4.e_⟩ : Gparse_reader) i (fun r5 =>
 V_parse_reader_must (⟨r.toks, r5.at_, r5.deep, r5.l, r5.e_⟩ : Gparse_reader) ([[41]] : List (List UInt8)) (fun r6 =>
 K (⟨r.toks, r6.at_, r6.deep, r5.l, r6.e_⟩ : Gparse_reader)))))
 (V_parse_reader_term (⟨r.toks, r3.at_, r3.deep, l, r3.e_⟩ : Gparse_reader) i (fun r7 =>
 K (⟨r.toks, r7.at_, r7.deep, r7.l, r7.e_⟩ : Gparse_reader)))))
set_option maxHeartbeats 4000000 in
theorem parse_reader_set_lift (r : Gparse_reader) (i : Int) (K : Gparse_reader → Prop) (h : parse_reader_set_vwp r i K) : V_parse_reader_set r i K := by
 intro m w hm rb rA rC rxs rA0 rC0 in_r ina_r bx_r rw_r f_r le_r0 f_r0
 have hrs_ := Mem.objlt hm.lt in_r ina_r
 have o := Mem.obj hm.lt in_r ina_r bx_r rw_r
 have st := Mem.objS (w := w) (l := [.slice rA0 r.toks.length rC0, .q r.at_, .q r.deep, .slice rA r.l.length rC, .q r.e_]) (e := 39) (size := 5) (n := r.l.length) (c := rC) (xs := rxs) in_r ina_r
 have hrm : ∀ b ∈ (rb :: (Vc.blk rA).toList), b ∈ m := fun b hb => (List.mem_cons.1 hb).elim (fun e => e ▸ in_r) (fun h => (ina_r b (Option.mem_toList.1 h)).1)
 refine parse_reader_set_ok rb i _ _ ?_
 obtain ⟨J, h, h2⟩ := h
 refine ⟨fun w1 => ∃ (atx : Int) (de : Int) (l : List GNode) (ex : Int) (xs : List Value) (a : Option Addr) (c : Nat), J atx de l ex ∧ El cGNode (ms [.box rb [.slice rA0 r.toks.length rC0, .q atx, .q de, .slice a l.length c, .q ex], .row 39 5 a l.length c xs] m) w1 l xs ∧ Mem w.heap.size (rb :: (Vc.blk rA).toList) m [((rb :: (Vc.blk rA).toList), w.heap.size, w)] [] w1 [.box rb [.slice rA0 r.toks.length rC0, .q atx, .q de, .slice a l.length c, .q ex], .row 39 5 a l.length c xs] ∧ Step (ms [.box rb [.slice rA0 r.toks.length rC0, .q r.at_, .q r.deep, .slice rA r.l.length rC, .q r.e_], .row 39 5 rA r.l.length rC rxs] m) w (ms [.box rb [.slice rA0 r.toks.length rC0, .q atx, .q de, .slice a l.length c, .q ex], .row 39 5 a l.length c xs] m) w1, ?_, ?_⟩
 intro w2 hw2
 obtain ⟨st2, o⟩ := o.dD hw2
 have ox := o
 refine ⟨fun u => Keep [rb] w2 u ∧ u.cell? ⟨rb, 3, none⟩ = some (.slice rA r.l.length rC), ⟨Keep.refl _ _, (o.at 0 rfl).cell (i := 3) rfl⟩, ?_⟩
 refine ⟨_, _, _, fun u hu => hu.2, ?_⟩
 refine call_then (h _ w2 (o.mo hm hrm (.head _)) _ _ _ _ _ (Mem.inms 0 rfl) (o.at 0 rfl) le_r0 (f_r0.st (st.trans st2))) ?_
 rintro _ w3 ⟨x, r1, h, rfl, bx, ke⟩
 obtain ⟨st3, o⟩ := o.dC 0 ke bx rfl
 refine ⟨_, rfl, ?_⟩
 refine ⟨⟨(Keep.mono ke (by simp)), (o.at 0 rfl).cell (i := 3) rfl⟩, ?_⟩
 obtain ⟨hi, h⟩ := h
 have sT := (st.trans st2).trans st3
 obtain ⟨p, x1, cs, hp, he, hc, hr⟩ := row_elem (o.rowAt 1 rfl) (f_r.st sT) hi
 obtain rfl := GNode_out hr
 have h := h x1 he
 refine ⟨hi, ptrOr_some hp ?_⟩
 have hq := row_putp (i := i.toNat) (o.rowAt 1 rfl) (f_r.st sT) hp he hc.2 rfl 1 (.s x) (by decide)
 refine ⟨hq.1, fun w4 hw4 => ?_⟩
 obtain ⟨xs1, hr1, hg, hel⟩ := hq.2 _ hw4
 have el1 := hel (⟨x1.op, x, x1.n, x1.kids, x1.at_⟩ : GNode) (GNode_in (⟨x1.op, x, x1.n, x1.kids, x1.at_⟩ : GNode))
 have st4 := o.xA 1 rfl hr1 hg (.inl rfl)
 have o := o.app 1 rfl hr1 hg (.inl rfl)
 have ln : r.l.length = (r.l.set i.toNat (⟨x1.op, x, x1.n, x1.kids, x1.at_⟩ : GNode)).length := row_len (o.rowAt 1 rfl) (el1.st st4)
 rw [ln] at o
 have sT1 := (st2.trans st3).trans st4
 exact ⟨r1.at_, r1.deep, (r.l.set i.toNat (⟨x1.op, x, x1.n, x1.kids, x1.at_⟩ : GNode)), r1.e_, xs1, rA, rC, h, (el1.st st4), o, sT1⟩
 rintro _ w1 ⟨atx, de, l, ex, xs, a, c, hJ, el, o, st1⟩
 have h := h2 atx de l ex hJ
 intro b w5 hb hw5
 have el2 : El cStr (ms [.box rb [.slice rA0 r.toks.length rC0, .q atx, .q de, .slice a l.length c, .q ex], .row 39 5 a l.length c xs] m) w1 ([[61]] : List (List UInt8)) ([.s [61]] : List Value) := (El.cons (cs := [.s [61]]) rfl (El.nil _ _ _))
 have fr : w.heap.size ≤ b := hb ▸ o.le
 have st5 := o.xL hb hw5 1 1
 have o := o.lit hb hw5 1 1 (by decide) rfl
 have le := (o.rowAt 0 rfl).cap
 have st6 := o.xX 0
 have f := o.freeze (c := cStr) (l := ([[61]] : List (List UInt8))) 0 rfl (fun q hq h => by have := hrs_ q hq; have := fr; simp [Vc.blk] at h; omega) (el2.st (st5.trans st6))
 have o := o.erase 0
 have sT2 := ((st.trans st1).trans st5).trans st6
 refine call_then (h _ w5 (o.mo hm hrm (.head _)) _ _ _ _ _ (Mem.inms 0 rfl) (o.at 0 rfl) le_r0 (f_r0.st sT2) _ _ le f) ?_
 rintro _ w6 ⟨r2, h, -, bx1, ke1⟩
 obtain ⟨st7, o⟩ := o.dC 0 ke1 bx1 rfl
 have sT3 := sT2.trans st7
 refine call_then (h _ w6 (o.mo hm hrm (.head _)) _ _ _ _ _ (Mem.inms 0 rfl) (o.at 0 rfl) le_r0 (f_r0.st sT3)) ?_
 rintro _ w7 ⟨x2, r3, h, rfl, bx2, ke2⟩
 obtain ⟨st8, o⟩ := o.dC 0 ke2 bx2 rfl
 refine ⟨_, rfl, ?_⟩
 refine cond_map (fun h => ?_) (fun h => ?_) h
 refine ⟨_, _, _, (o.at 0 rfl).cell rfl, ?_⟩
 obtain ⟨hi1, h⟩ := h
 have sT4 := ((st5.trans st6).trans st7).trans st8
 obtain ⟨p1, x3, cs1, hp1, he1, hc1, hr2⟩ := row_elem (o.rowAt 1 rfl) (el.st sT4) hi1
 obtain rfl := GNode_out hr2
 have h := h x3 he1
 refine ⟨hi1, ptrOr_some hp1 ?_⟩
 have hq1 := row_putp (i := i.toNat) (o.rowAt 1 rfl) (el.st sT4) hp1 he1 hc1.2 rfl 0 (.q 20) (by decide)
 refine ⟨hq1.1, fun w8 hw8 => ?_⟩
 obtain ⟨xs2, hr3, hg1, hel1⟩ := hq1.2 _ hw8
 have el3 := hel1 (⟨20, x3.name, x3.n, x3.kids, x3.at_⟩ : GNode) (GNode_in (⟨20, x3.name, x3.n, x3.kids, x3.at_⟩ : GNode))
 have st9 := o.xA 1 rfl hr3 hg1 (.inl rfl)
 have o := o.app 1 rfl hr3 hg1 (.inl rfl)
 have ln1 : l.length = (l.set i.toNat (⟨20, x3.name, x3.n, x3.kids, x3.at_⟩ : GNode)).length := row_len (o.rowAt 1 rfl) (el3.st st9)
 intro b1 w9 hb1 hw9
 have el4 : El cStr (ms [.box rb [.slice rA0 r.toks.length rC0, .q r3.at_, .q r3.deep, .slice a l.length c, .q r3.e_], .row 39 5 a l.length c xs2] m) w8 ([[40]] : List (List UInt8)) ([.s [40]] : List Value) := (El.cons (cs := [.s [40]]) rfl (El.nil _ _ _))
 have fr1 : w.heap.size ≤ b1 := hb1 ▸ o.le
 have st10 := o.xL hb1 hw9 1 1
 have o := o.lit hb1 hw9 1 1 (by decide) rfl
 have le1 := (o.rowAt 0 rfl).cap
 have st11 := o.xX 0
 have f1 := o.freeze (c := cStr) (l := ([[40]] : List (List UInt8))) 0 rfl (fun q hq h => by have := hrs_ q hq; have := fr1; simp [Vc.blk] at h; omega) (el4.st (st10.trans st11))
 have o := o.erase 0
 rw [ln1] at o
 try rw [ln1]
 have sT5 := (((sT3.trans st8).trans st9).trans st10).trans st11
 refine call_then (h _ w9 (o.mo hm hrm (.head _)) _ _ _ _ _ (Mem.inms 0 rfl) (o.at 0 rfl) le_r0 (f_r0.st sT5) _ _ le1 f1) ?_
 rintro _ w10 ⟨r4, h, -, bx3, ke3⟩
 obtain ⟨st12, o⟩ := o.dC 0 ke3 bx3 rfl
 have sT6 := ((st9.trans st10).trans st11).trans st12
 have sT7 := sT5.trans st12
 refine call_then (h _ w10 (o.mo hm hrm (.head _)) _ _ _ _ _ _ (Mem.inms 0 rfl) (o.objin 0 1 rfl rfl (by decide)) (o.at 0 rfl) (o.rowAt 1 rfl) (el3.st sT6) le_r0 (f_r0.st sT7)) ?_
 rintro _ w11 ⟨r5, h, -, ⟨a1, c1, xs3, bx4, hr4, el5, fr2⟩, ke4⟩
 obtain ⟨st13, el6, o⟩ := o.y2 0 1 rfl rfl (by decide) ke4 bx4 hr4 fr2 el5
 intro b2 w12 hb2 hw12
 have el7 : El cStr (ms [.box rb [.slice rA0 r.toks.length rC0, .q r5.at_, .q r5.deep, .slice a1 r5.l.length c1, .q r5.e_], .row 39 5 a1 r5.l.length c1 xs3] m) w11 ([[41]] : List (List UInt8)) ([.s [41]] : List Value) := (El.cons (cs := [.s [41]]) rfl (El.nil _ _ _))
 have fr3 : w.heap.size ≤ b2 := hb2 ▸ o.le
 have st14 := o.xL hb2 hw12 1 1
 have o := o.lit hb2 hw12 1 1 (by decide) rfl
 have le2 := (o.rowAt 0 rfl).cap
 have st15 := o.xX 0
 have f2 := o.freeze (c := cStr) (l := ([[41]] : List (List UInt8))) 0 rfl (fun q hq h => by have := hrs_ q hq; have := fr3; simp [Vc.blk] at h; omega) (el7.st (st14.trans st15))
 have o := o.erase 0
 have sT8 := ((sT7.trans st13).trans st14).trans st15
 refine call_then (h _ w12 (o.mo hm hrm (.head _)) _ _ _ _ _ (Mem.inms 0 rfl) (o.at 0 rfl) le_r0 (f_r0.st sT8) _ _ le2 f2) ?_
 rintro _ w13 ⟨r6, h, -, bx5, ke5⟩
 obtain ⟨st16, o⟩ := o.dC 0 ke5 bx5 rfl
 exact ⟨(⟨r.toks, r6.at_, r6.deep, r5.l, r6.e_⟩ : Gparse_reader), h, trivial, ⟨_, _, _, o.at 0 rfl, o.rowAt 1 rfl, (el6.st (st14.trans (st15.trans (st16.trans (o.eRS 1 rfl))))), o.oldnew 1 rfl 0 rfl (by decide)⟩, o.done⟩
 have sT9 := ((st5.trans st6).trans st7).trans st8
 have sT10 := sT3.trans st8
 refine call_then (h _ w7 (o.mo hm hrm (.head _)) _ _ _ _ _ _ (Mem.inms 0 rfl) (o.objin 0 1 rfl rfl (by decide)) (o.at 0 rfl) (o.rowAt 1 rfl) (el.st sT9) le_r0 (f_r0.st sT10)) ?_
 rintro _ w14 ⟨r7, h, -, ⟨a2, c2, xs4, bx6, hr5, el8, fr4⟩, ke6⟩
 obtain ⟨st17, el9, o⟩ := o.y2 0 1 rfl rfl (by decide) ke6 bx6 hr5 fr4 el8
 exact ⟨(⟨r.toks, r7.at_, r7.deep, r7.l, r7.e_⟩ : Gparse_reader), h, trivial, ⟨_, _, _, o.at 0 rfl, o.rowAt 1 rfl, (el9.st (o.eRS 1 rfl)), o.oldnew 1 rfl 0 rfl (by decide)⟩, o.done⟩
def parse_reader_clause_vwp (r : Gparse_reader) (K : Gparse_reader → Prop) : Prop :=
 V_parse_reader_open r 37 (fun i r1 =>
 V_parse_reader_eat (⟨r.toks, r1.at_, r1.deep, r1.l, r1.e_⟩ : Gparse_reader) [101, 108, 115, 101] (fun x r2 =>
 cond (x)
 (V_parse_reader_block (⟨r.toks, r2.at_, r2.deep, r1.l, r2.e_⟩ : Gparse_reader) i (fun r3 =>
 K (⟨r.toks, r3.at_, r3.deep, r3.l, r3.e_⟩ : Gparse_reader)))
 (V_parse_reader_must (⟨r.toks, r2.at_, r2.deep, r1.l, r2.e_⟩ : Gparse_reader) ([[99, 97, 115, 101]] : List (List UInt8)) (fun r4 =>
 ∃ (J : Int → Int → (List GNode) → Int → Prop),
 (V_parse_reader_eat (⟨r.toks, r4.at_, r4.deep, r1.l, r4.e_⟩ : Gparse_reader) [119, 104, 101, 110] (fun x1 r5 =>
 cond (x1)
 (((0 : Int) ≤ i ∧ i < (r1.l.length : Int)) ∧
 ∀ x2, r1.l[i.toNat]? = some x2 →
 V_parse_reader_term (⟨r.toks, r5.at_, r5.deep, (r1.l.set i.toNat (⟨x2.op, x2.name, 1, x2.kids, x2.at_⟩ : GNode)), r5.e_⟩ : Gparse_reader) i (fun r6 =>
 V_parse_reader_must (⟨r.toks, r6.at_, r6.deep, r6.l, r6.e_⟩ : Gparse_reader) ([[58]] : List (List UInt8)) (fun r7 =>
 J r7.at_ r7.deep r6.l r7.e_)))
 (J r5.at_ r5.deep r1.l r5.e_))) ∧
 ∀ (atx : Int) (de : Int) (l : List GNode) (ex : Int), J atx de l ex →
 ∃ (J1 : Int → Int → (List GNode) → Int → Prop),
 (V_parse_reader_eat (⟨r.toks, atx, de, l, ex⟩ : Gparse_reader) [97, 102, 116, 101, 114] (fun x3 r8 =>
 cond (x3)
 (((0 : Int) ≤ i ∧ i < (l.length : Int)) ∧
 ∀ x4, l[i.toNat]? = some x4 →
 V_parse_reader_term (⟨r.toks, r8.at_, r8.deep, (l.set i.toNat (⟨36, x4.name, x4.n, x4.kids, x4.at_⟩ : GNode)), r8.e_⟩ : Gparse_reader) i (fun r9 =>
 J1 r9.at_ r9.deep r9.l r9.e_))
 (V_parse_reader_comm (⟨r.toks, r8.at_, r8.deep, l, r8.e_⟩ : Gparse_reader) i 35 34 (fun r10 =>
 J1 r10.at_ r10.deep r10.l r10.e_)))) ∧
 ∀ (atx1 : Int) (de1 : Int) (l1 : List GNode) (ex1 : Int), J1 atx1 de1 l1 ex1 →
 V_parse_reader_block (⟨r.toks, atx1, de1, l1, ex1⟩ : Gparse_reader) i (fun r11 =>
 K (⟨r.toks, r11.at_, r11.deep, r11.l, r11.e_⟩ : Gparse_reader))))))
set_option maxHeartbeats 4000000 in
theorem parse_reader_clause_lift (r : Gparse_reader) (K : Gparse_reader → Prop) (h : parse_reader_clause_vwp r K) : V_parse_reader_clause r K := by
 intro m w hm rb rA rC rxs rA0 rC0 in_r ina_r bx_r rw_r f_r le_r0 f_r0
 have hrs_ := Mem.objlt hm.lt in_r ina_r
 have o := Mem.obj hm.lt in_r ina_r bx_r rw_r
 have st := Mem.objS (w := w) (l := [.slice rA0 r.toks.length rC0, .q r.at_, .q r.deep, .slice rA r.l.length rC, .q r.e_]) (e := 39) (size := 5) (n := r.l.length) (c := rC) (xs := rxs) in_r ina_r
 have hrm : ∀ b ∈ (rb :: (Vc.blk rA).toList), b ∈ m := fun b hb => (List.mem_cons.1 hb).elim (fun e => e ▸ in_r) (fun h => (ina_r b (Option.mem_toList.1 h)).1)
 refine parse_reader_clause_ok rb _ _ ?_
 refine call_then (h _ w (o.mo hm hrm (.head _)) _ _ _ _ _ _ (Mem.inms 0 rfl) (o.objin 0 1 rfl rfl (by decide)) (o.at 0 rfl) (o.rowAt 1 rfl) (f_r.st st) le_r0 (f_r0.st st)) ?_
 rintro _ w1 ⟨i, r1, h, rfl, ⟨a, c, xs, bx, hr, el, fr⟩, ke⟩
 obtain ⟨st1, el1, o⟩ := o.y2 0 1 rfl rfl (by decide) ke bx hr fr el
 refine ⟨_, rfl, ?_⟩
 refine call_then (h _ w1 (o.mo hm hrm (.head _)) _ _ _ _ _ (Mem.inms 0 rfl) (o.at 0 rfl) le_r0 (f_r0.st (st.trans st1))) ?_
 rintro _ w2 ⟨x, r2, h, rfl, bx1, ke1⟩
 obtain ⟨st2, o⟩ := o.dC 0 ke1 bx1 rfl
 refine ⟨_, rfl, ?_⟩
 refine cond_map (fun h => ?_) (fun h => ?_) h
 have sT := (st.trans st1).trans st2
 refine call_then (h _ w2 (o.mo hm hrm (.head _)) _ _ _ _ _ _ (Mem.inms 0 rfl) (o.objin 0 1 rfl rfl (by decide)) (o.at 0 rfl) (o.rowAt 1 rfl) (el1.st st2) le_r0 (f_r0.st sT)) ?_
 rintro _ w3 ⟨r3, h, -, ⟨a1, c1, xs1, bx2, hr1, el2, fr1⟩, ke2⟩
 obtain ⟨st3, el3, o⟩ := o.y2 0 1 rfl rfl (by decide) ke2 bx2 hr1 fr1 el2
 exact ⟨(⟨r.toks, r3.at_, r3.deep, r3.l, r3.e_⟩ : Gparse_reader), h, trivial, ⟨_, _, _, o.at 0 rfl, o.rowAt 1 rfl, (el3.st (o.eRS 1 rfl)), o.oldnew 1 rfl 0 rfl (by decide)⟩, o.done⟩
 intro b w4 hb hw4
 have el4 : El cStr (ms [.box rb [.slice rA0 r.toks.length rC0, .q r2.at_, .q r2.deep, .slice a r1.l.length c, .q r2.e_], .row 39 5 a r1.l.length c xs] m) w2 ([[99, 97, 115, 101]] : List (List UInt8)) ([.s [99, 97, 115, 101]] : List Value) := (El.cons (cs := [.s [99, 97, 115, 101]]) rfl (El.nil _ _ _))
 have fr2 : w.heap.size ≤ b := hb ▸ o.le
 have st4 := o.xL hb hw4 1 1
 have o := o.lit hb hw4 1 1 (by decide) rfl
 have le := (o.rowAt 0 rfl).cap
 have st5 := o.xX 0
 have f := o.freeze (c := cStr) (l := ([[99, 97, 115, 101]] : List (List UInt8))) 0 rfl (fun q hq h => by have := hrs_ q hq; have := fr2; simp [Vc.blk] at h; omega) (el4.st (st4.trans st5))
 have o := o.erase 0
 have sT1 := (((st.trans st1).trans st2).trans st4).trans st5
 refine call_then (h _ w4 (o.mo hm hrm (.head _)) _ _ _ _ _ (Mem.inms 0 rfl) (o.at 0 rfl) le_r0 (f_r0.st sT1) _ _ le f) ?_
 rintro _ w5 ⟨r4, h, -, bx3, ke3⟩
 obtain ⟨st6, o⟩ := o.dC 0 ke3 bx3 rfl
 obtain ⟨J, h, h2⟩ := h
 refine ⟨fun w6 => ∃ (atx : Int) (de : Int) (l : List GNode) (ex : Int) (xs2 : List Value) (a2 : Option Addr) (c2 : Nat), J atx de l ex ∧ El cGNode (ms [.box rb [.slice rA0 r.toks.length rC0, .q atx, .q de, .slice a2 l.length c2, .q ex], .row 39 5 a2 l.length c2 xs2] m) w6 l xs2 ∧ Mem w.heap.size (rb :: (Vc.blk rA).toList) m [((rb :: (Vc.blk rA).toList), w.heap.size, w)] [] w6 [.box rb [.slice rA0 r.toks.length rC0, .q atx, .q de, .slice a2 l.length c2, .q ex], .row 39 5 a2 l.length c2 xs2] ∧ Step (ms [.box rb [.slice rA0 r.toks.length rC0, .q r4.at_, .q r4.deep, .slice a r1.l.length c, .q r4.e_], .row 39 5 a r1.l.length c xs] m) w5 (ms [.box rb [.slice rA0 r.toks.length rC0, .q atx, .q de, .slice a2 l.length c2, .q ex], .row 39 5 a2 l.length c2 xs2] m) w6, ?_, ?_⟩
 have sT2 := sT1.trans st6
 refine call_then (h _ w5 (o.mo hm hrm (.head _)) _ _ _ _ _ (Mem.inms 0 rfl) (o.at 0 rfl) le_r0 (f_r0.st sT2)) ?_
 rintro _ w7 ⟨x1, r5, h, rfl, bx4, ke4⟩
 obtain ⟨st8, o⟩ := o.dC 0 ke4 bx4 rfl
 refine ⟨_, rfl, ?_⟩
 refine cond_map (fun h => ?_) (fun h => ?_) h
 refine ⟨_, _, _, (o.at 0 rfl).cell rfl, ?_⟩
 obtain ⟨hi, h⟩ := h
 have sT3 := (((st2.trans st4).trans st5).trans st6).trans st8
 obtain ⟨p, x2, cs, hp, he, hc, hr2⟩ := row_elem (o.rowAt 1 rfl) (el1.st sT3) hi
 obtain rfl := GNode_out hr2
 have h := h x2 he
 refine ⟨hi, ptrOr_some hp ?_⟩
 have hq := row_putp (i := i.toNat) (o.rowAt 1 rfl) (el1.st sT3) hp he hc.2 rfl 2 (.q 1) (by decide)
 refine ⟨hq.1, fun w8 hw8 => ?_⟩
 obtain ⟨xs3, hr3, hg, hel⟩ := hq.2 _ hw8
 have el6 := hel (⟨x2.op, x2.name, 1, x2.kids, x2.at_⟩ : GNode) (GNode_in (⟨x2.op, x2.name, 1, x2.kids, x2.at_⟩ : GNode))
 have st9 := o.xA 1 rfl hr3 hg (.inl rfl)
 have o := o.app 1 rfl hr3 hg (.inl rfl)
 have ln : r1.l.length = (r1.l.set i.toNat (⟨x2.op, x2.name, 1, x2.kids, x2.at_⟩ : GNode)).length := row_len (o.rowAt 1 rfl) (el6.st st9)
 rw [ln] at o
 try rw [ln]
 have sT4 := (sT2.trans st8).trans st9
 refine call_then (h _ w8 (o.mo hm hrm (.head _)) _ _ _ _ _ _ (Mem.inms 0 rfl) (o.objin 0 1 rfl rfl (by decide)) (o.at 0 rfl) (o.rowAt 1 rfl) (el6.st st9) le_r0 (f_r0.st sT4)) ?_
 rintro _ w9 ⟨r6, h, -, ⟨a3, c3, xs4, bx5, hr4, el7, fr3⟩, ke5⟩
 obtain ⟨st10, el8, o⟩ := o.y2 0 1 rfl rfl (by decide) ke5 bx5 hr4 fr3 el7
 intro b1 w10 hb1 hw10
 have el9 : El cStr (ms [.box rb [.slice rA0 r.toks.length rC0, .q r6.at_, .q r6.deep, .slice a3 r6.l.length c3, .q r6.e_], .row 39 5 a3 r6.l.length c3 xs4] m) w9 ([[58]] : List (List UInt8)) ([.s [58]] : List Value) := (El.cons (cs := [.s [58]]) rfl (El.nil _ _ _))
 have fr4 : w.heap.size ≤ b1 := hb1 ▸ o.le
 have st11 := o.xL hb1 hw10 1 1
 have o := o.lit hb1 hw10 1 1 (by decide) rfl
 have le1 := (o.rowAt 0 rfl).cap
 have st12 := o.xX 0
 have f1 := o.freeze (c := cStr) (l := ([[58]] : List (List UInt8))) 0 rfl (fun q hq h => by have := hrs_ q hq; have := fr4; simp [Vc.blk] at h; omega) (el9.st (st11.trans st12))
 have o := o.erase 0
 have sT5 := ((sT4.trans st10).trans st11).trans st12
 refine call_then (h _ w10 (o.mo hm hrm (.head _)) _ _ _ _ _ (Mem.inms 0 rfl) (o.at 0 rfl) le_r0 (f_r0.st sT5) _ _ le1 f1) ?_
 rintro _ w11 ⟨r7, h, -, bx6, ke6⟩
 obtain ⟨st13, o⟩ := o.dC 0 ke6 bx6 rfl
 have sT6 := (st11.trans st12).trans st13
 have sT7 := ((((st8.trans st9).trans st10).trans st11).trans st12).trans st13
 exact ⟨r7.at_, r7.deep, r6.l, r7.e_, xs4, a3, c3, h, (el8.st sT6), o, sT7⟩
 have sT8 := (((st2.trans st4).trans st5).trans st6).trans st8
 exact ⟨r5.at_, r5.deep, r1.l, r5.e_, xs, a, c, h, (el1.st sT8), o, st8⟩
 rintro _ w6 ⟨atx, de, l, ex, xs2, a2, c2, hJ, el5, o, st7⟩
 have h := h2 atx de l ex hJ
 obtain ⟨J1, h, h2⟩ := h
 refine ⟨fun w12 => ∃ (atx1 : Int) (de1 : Int) (l1 : List GNode) (ex1 : Int) (xs5 : List Value) (a4 : Option Addr) (c4 : Nat), J1 atx1 de1 l1 ex1 ∧ El cGNode (ms [.box rb [.slice rA0 r.toks.length rC0, .q atx1, .q de1, .slice a4 l1.length c4, .q ex1], .row 39 5 a4 l1.length c4 xs5] m) w12 l1 xs5 ∧ Mem w.heap.size (rb :: (Vc.blk rA).toList) m [((rb :: (Vc.blk rA).toList), w.heap.size, w)] [] w12 [.box rb [.slice rA0 r.toks.length rC0, .q atx1, .q de1, .slice a4 l1.length c4, .q ex1], .row 39 5 a4 l1.length c4 xs5] ∧ Step (ms [.box rb [.slice rA0 r.toks.length rC0, .q atx, .q de, .slice a2 l.length c2, .q ex], .row 39 5 a2 l.length c2 xs2] m) w6 (ms [.box rb [.slice rA0 r.toks.length rC0, .q atx1, .q de1, .slice a4 l1.length c4, .q ex1], .row 39 5 a4 l1.length c4 xs5] m) w12, ?_, ?_⟩
 have sT9 := (sT1.trans st6).trans st7
 refine call_then (h _ w6 (o.mo hm hrm (.head _)) _ _ _ _ _ (Mem.inms 0 rfl) (o.at 0 rfl) le_r0 (f_r0.st sT9)) ?_
 rintro _ w13 ⟨x3, r8, h, rfl, bx7, ke7⟩
 obtain ⟨st15, o⟩ := o.dC 0 ke7 bx7 rfl
 refine ⟨_, rfl, ?_⟩
 refine cond_map (fun h => ?_) (fun h => ?_) h
 refine ⟨_, _, _, (o.at 0 rfl).cell rfl, ?_⟩
 obtain ⟨hi1, h⟩ := h
 obtain ⟨p1, x4, cs1, hp1, he1, hc1, hr5⟩ := row_elem (o.rowAt 1 rfl) (el5.st st15) hi1
 obtain rfl := GNode_out hr5
 have h := h x4 he1
 refine ⟨hi1, ptrOr_some hp1 ?_⟩
 have hq1 := row_putp (i := i.toNat) (o.rowAt 1 rfl) (el5.st st15) hp1 he1 hc1.2 rfl 0 (.q 36) (by decide)
 refine ⟨hq1.1, fun w14 hw14 => ?_⟩
 obtain ⟨xs6, hr6, hg1, hel1⟩ := hq1.2 _ hw14
 have el11 := hel1 (⟨36, x4.name, x4.n, x4.kids, x4.at_⟩ : GNode) (GNode_in (⟨36, x4.name, x4.n, x4.kids, x4.at_⟩ : GNode))
 have st16 := o.xA 1 rfl hr6 hg1 (.inl rfl)
 have o := o.app 1 rfl hr6 hg1 (.inl rfl)
 have ln1 : l.length = (l.set i.toNat (⟨36, x4.name, x4.n, x4.kids, x4.at_⟩ : GNode)).length := row_len (o.rowAt 1 rfl) (el11.st st16)
 rw [ln1] at o
 try rw [ln1]
 have sT10 := (sT9.trans st15).trans st16
 refine call_then (h _ w14 (o.mo hm hrm (.head _)) _ _ _ _ _ _ (Mem.inms 0 rfl) (o.objin 0 1 rfl rfl (by decide)) (o.at 0 rfl) (o.rowAt 1 rfl) (el11.st st16) le_r0 (f_r0.st sT10)) ?_
 rintro _ w15 ⟨r9, h, -, ⟨a5, c5, xs7, bx8, hr7, el12, fr5⟩, ke8⟩
 obtain ⟨st17, el13, o⟩ := o.y2 0 1 rfl rfl (by decide) ke8 bx8 hr7 fr5 el12
 have sT11 := (st15.trans st16).trans st17
 exact ⟨r9.at_, r9.deep, r9.l, r9.e_, xs7, a5, c5, h, el13, o, sT11⟩
 have sT12 := sT9.trans st15
 refine call_then (h _ w13 (o.mo hm hrm (.head _)) _ _ _ _ _ _ (Mem.inms 0 rfl) (o.objin 0 1 rfl rfl (by decide)) (o.at 0 rfl) (o.rowAt 1 rfl) (el5.st st15) le_r0 (f_r0.st sT12)) ?_
 rintro _ w16 ⟨r10, h, -, ⟨a6, c6, xs8, bx9, hr8, el14, fr6⟩, ke9⟩
 obtain ⟨st18, el15, o⟩ := o.y2 0 1 rfl rfl (by decide) ke9 bx9 hr8 fr6 el14
 exact ⟨r10.at_, r10.deep, r10.l, r10.e_, xs8, a6, c6, h, el15, o, (st15.trans st18)⟩
 rintro _ w12 ⟨atx1, de1, l1, ex1, xs5, a4, c4, hJ, el10, o, st14⟩
 have h := h2 atx1 de1 l1 ex1 hJ
 have sT13 := ((sT1.trans st6).trans st7).trans st14
 refine call_then (h _ w12 (o.mo hm hrm (.head _)) _ _ _ _ _ _ (Mem.inms 0 rfl) (o.objin 0 1 rfl rfl (by decide)) (o.at 0 rfl) (o.rowAt 1 rfl) el10 le_r0 (f_r0.st sT13)) ?_
 rintro _ w17 ⟨r11, h, -, ⟨a7, c7, xs9, bx10, hr9, el16, fr7⟩, ke10⟩
 obtain ⟨st19, el17, o⟩ := o.y2 0 1 rfl rfl (by decide) ke10 bx10 hr9 fr7 el16
 exact ⟨(⟨r.toks, r11.at_, r11.deep, r11.l, r11.e_⟩ : Gparse_reader), h, trivial, ⟨_, _, _, o.at 0 rfl, o.rowAt 1 rfl, (el17.st (o.eRS 1 rfl)), o.oldnew 1 rfl 0 rfl (by decide)⟩, o.done⟩
def parse_reader_args_vwp (r : Gparse_reader) (i : Int) (K : Gparse_reader → Prop) : Prop :=
 V_parse_reader_must r ([[40]] : List (List UInt8)) (fun r1 =>
 V_parse_reader_eat (⟨r.toks, r1.at_, r1.deep, r.l, r1.e_⟩ : Gparse_reader) [41] (fun x r2 =>
 cond (!x)
 (V_parse_reader_term (⟨r.toks, r2.at_, r2.deep, r.l, r2.e_⟩ : Gparse_reader) i (fun r3 =>
 ∃ (I : Int → Int → (List GNode) → Int → Nat → Prop), (∃ n, I r3.at_ r3.deep r3.l r3.e_ n) ∧
 ∀ (atx : Int) (de : Int) (l : List GNode) (ex : Int) (n : Nat), I atx de l ex n →
 V_parse_reader_eat (⟨r.toks, atx, de, l, ex⟩ : Gparse_reader) [44] (fun x1 r4 =>
 cond (x1)
 (V_parse_reader_term (⟨r.toks, r4.at_, r4.deep, l, r4.e_⟩ : Gparse_reader) i (fun r5 =>
 ∃ n1, n1 < n ∧ I r5.at_ r5.deep r5.l r5.e_ n1))
 (V_parse_reader_must (⟨r.toks, r4.at_, r4.deep, l, r4.e_⟩ : Gparse_reader) ([[41]] : List (List UInt8)) (fun r6 =>
 K (⟨r.toks, r6.at_, r6.deep, l, r6.e_⟩ : Gparse_reader))))))
 (K (⟨r.toks, r2.at_, r2.deep, r.l, r2.e_⟩ : Gparse_reader))))
theorem parse_reader_args_lift (r : Gparse_reader) (i : Int) (K : Gparse_reader → Prop) (h : parse_reader_args_vwp r i K) : V_parse_reader_args r i K := by
 intro m w hm rb rA rC rxs rA0 rC0 in_r ina_r bx_r rw_r f_r le_r0 f_r0
 have hrs_ := Mem.objlt hm.lt in_r ina_r
 have o := Mem.obj hm.lt in_r ina_r bx_r rw_r
 have st := Mem.objS (w := w) (l := [.slice rA0 r.toks.length rC0, .q r.at_, .q r.deep, .slice rA r.l.length rC, .q r.e_]) (e := 39) (size := 5) (n := r.l.length) (c := rC) (xs := rxs) in_r ina_r
 have hrm : ∀ b ∈ (rb :: (Vc.blk rA).toList), b ∈ m := fun b hb => (List.mem_cons.1 hb).elim (fun e => e ▸ in_r) (fun h => (ina_r b (Option.mem_toList.1 h)).1)
 refine parse_reader_args_ok rb i _ _ ?_
 intro b w1 hb hw1
 have el : El cStr (ms [.box rb [.slice rA0 r.toks.length rC0, .q r.at_, .q r.deep, .slice rA r.l.length rC, .q r.e_], .row 39 5 rA r.l.length rC rxs] m) w ([[40]] : List (List UInt8)) ([.s [40]] : List Value) := (El.cons (cs := [.s [40]]) rfl (El.nil _ _ _))
 have fr : w.heap.size ≤ b := hb ▸ o.le
 have st1 := o.xL hb hw1 1 1
 have o := o.lit hb hw1 1 1 (by decide) rfl
 have le := (o.rowAt 0 rfl).cap
 have st2 := o.xX 0
 have f := o.freeze (c := cStr) (l := ([[40]] : List (List UInt8))) 0 rfl (fun q hq h => by have := hrs_ q hq; have := fr; simp [Vc.blk] at h; omega) (el.st (st1.trans st2))
 have o := o.erase 0
 have sT := (st.trans st1).trans st2
 refine call_then (h _ w1 (o.mo hm hrm (.head _)) _ _ _ _ _ (Mem.inms 0 rfl) (o.at 0 rfl) le_r0 (f_r0.st sT) _ _ le f) ?_
 rintro _ w2 ⟨r1, h, -, bx, ke⟩
 obtain ⟨st3, o⟩ := o.dC 0 ke bx rfl
 have sT1 := sT.trans st3
 refine call_then (h _ w2 (o.mo hm hrm (.head _)) _ _ _ _ _ (Mem.inms 0 rfl) (o.at 0 rfl) le_r0 (f_r0.st sT1)) ?_
 rintro _ w3 ⟨x, r2, h, rfl, bx1, ke1⟩
 obtain ⟨st4, o⟩ := o.dC 0 ke1 bx1 rfl
 refine ⟨_, rfl, ?_⟩
 refine cond_map (fun h => ?_) (fun h => ?_) h
 have sT2 := sT1.trans st4
 refine call_then (h _ w3 (o.mo hm hrm (.head _)) _ _ _ _ _ _ (Mem.inms 0 rfl) (o.objin 0 1 rfl rfl (by decide)) (o.at 0 rfl) (o.rowAt 1 rfl) (f_r.st sT2) le_r0 (f_r0.st sT2)) ?_
 rintro _ w4 ⟨r3, h, -, ⟨a, c, xs, bx2, hr, el1, fr1⟩, ke2⟩
 obtain ⟨st5, el2, o⟩ := o.y2 0 1 rfl rfl (by decide) ke2 bx2 hr fr1 el1
 obtain ⟨I, ⟨n2, h⟩, h2⟩ := h
 obtain ⟨Z, hZ⟩ : ∃ Z : World → Nat → Prop, Z = fun w5 n => ∃ (atx : Int) (de : Int) (l : List GNode) (ex : Int) (xs1 : List Value) (a1 : Option Addr) (c1 : Nat), I atx de l ex n ∧ El cGNode (ms [.box rb [.slice rA0 r.toks.length rC0, .q atx, .q de, .slice a1 l.length c1, .q ex], .row 39 5 a1 l.length c1 xs1] m) w5 l xs1 ∧ Mem w.heap.size (rb :: (Vc.blk rA).toList) m [((rb :: (Vc.blk rA).toList), w.heap.size, w)] [] w5 [.box rb [.slice rA0 r.toks.length rC0, .q atx, .q de, .slice a1 l.length c1, .q ex], .row 39 5 a1 l.length c1 xs1] ∧ Step (ms [.box rb [.slice rA0 r.toks.length rC0, .q r3.at_, .q r3.deep, .slice a r3.l.length c, .q r3.e_], .row 39 5 a r3.l.length c xs] m) w4 (ms [.box rb [.slice rA0 r.toks.length rC0, .q atx, .q de, .slice a1 l.length c1, .q ex], .row 39 5 a1 l.length c1 xs1] m) w5 := ⟨_, rfl⟩
 refine ⟨fun w5 => ∃ n, Z w5 n, fun w5 => leastN (Z w5), ⟨n2, ?_⟩, ?_⟩
 rw [hZ]; exact ⟨r3.at_, r3.deep, r3.l, r3.e_, xs, a, c, h, el2, o, Step.refl _ _⟩
 intro _ w5 hIZ
 obtain ⟨n, hnn⟩ : ∃ n, n = leastN (Z w5) := ⟨_, rfl⟩
 have hIZ := leastN_at hIZ
 rw [← hnn, hZ] at hIZ
 obtain ⟨atx, de, l, ex, xs1, a1, c1, h, el3, o, st6⟩ := hIZ
 have h := h2 atx de l ex n h
 have sT3 := (sT2.trans st5).trans st6
 refine call_then (h _ w5 (o.mo hm hrm (.head _)) _ _ _ _ _ (Mem.inms 0 rfl) (o.at 0 rfl) le_r0 (f_r0.st sT3)) ?_
 rintro _ w6 ⟨x1, r4, h, rfl, bx3, ke3⟩
 obtain ⟨st7, o⟩ := o.dC 0 ke3 bx3 rfl
 refine ⟨_, rfl, ?_⟩
 refine cond_map (fun h => ?_) (fun h => ?_) h
 have sT4 := sT3.trans st7
 refine call_then (h _ w6 (o.mo hm hrm (.head _)) _ _ _ _ _ _ (Mem.inms 0 rfl) (o.objin 0 1 rfl rfl (by decide)) (o.at 0 rfl) (o.rowAt 1 rfl) (el3.st st7) le_r0 (f_r0.st sT4)) ?_
 rintro _ w7 ⟨r5, h, -, ⟨a2, c2, xs2, bx4, hr1, el4, fr2⟩, ke4⟩
 obtain ⟨st8, el5, o⟩ := o.y2 0 1 rfl rfl (by decide) ke4 bx4 hr1 fr2 el4
 obtain ⟨n1, hl, h⟩ := h
 have sT5 := (st6.trans st7).trans st8
 exact loop_again hnn (show Z w7 n1 from (by rw [hZ]; exact ⟨r5.at_, r5.deep, r5.l, r5.e_, xs2, a2, c2, h, el5, o, sT5⟩)) hl
 intro b1 w8 hb1 hw8
 have el6 : El cStr (ms [.box rb [.slice rA0 r.toks.length rC0, .q r4.at_, .q r4.deep, .slice a1 l.length c1, .q r4.e_], .row 39 5 a1 l.length c1 xs1] m) w6 ([[41]] : List (List UInt8)) ([.s [41]] : List Value) := (El.cons (cs := [.s [41]]) rfl (El.nil _ _ _))
 have fr3 : w.heap.size ≤ b1 := hb1 ▸ o.le
 have st9 := o.xL hb1 hw8 1 1
 have o := o.lit hb1 hw8 1 1 (by decide) rfl
 have le1 := (o.rowAt 0 rfl).cap
 have st10 := o.xX 0
 have f1 := o.freeze (c := cStr) (l := ([[41]] : List (List UInt8))) 0 rfl (fun q hq h => by have := hrs_ q hq; have := fr3; simp [Vc.blk] at h; omega) (el6.st (st9.trans st10))
 have o := o.erase 0
 have sT6 := ((sT3.trans st7).trans st9).trans st10
 refine call_then (h _ w8 (o.mo hm hrm (.head _)) _ _ _ _ _ (Mem.inms 0 rfl) (o.at 0 rfl) le_r0 (f_r0.st sT6) _ _ le1 f1) ?_
 rintro _ w9 ⟨r6, h, -, bx5, ke5⟩
 obtain ⟨st11, o⟩ := o.dC 0 ke5 bx5 rfl
 exact ⟨(⟨r.toks, r6.at_, r6.deep, l, r6.e_⟩ : Gparse_reader), h, trivial, ⟨_, _, _, o.at 0 rfl, o.rowAt 1 rfl, (el3.st (st7.trans (st9.trans (st10.trans (st11.trans (o.eRS 1 rfl)))))), o.oldnew 1 rfl 0 rfl (by decide)⟩, o.done⟩
 exact ⟨(⟨r.toks, r2.at_, r2.deep, r.l, r2.e_⟩ : Gparse_reader), h, trivial, ⟨_, _, _, o.at 0 rfl, o.rowAt 1 rfl, (f_r.st (st.trans (st1.trans (st2.trans (st3.trans (st4.trans (o.eRS 1 rfl))))))), o.oldnew 1 rfl 0 rfl (by decide)⟩, o.done⟩
end Go.Proofs.Ytdbdkdmgfiiljaa
