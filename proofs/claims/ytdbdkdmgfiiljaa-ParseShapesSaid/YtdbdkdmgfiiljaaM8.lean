/- A part of the proof: conditions of the code, contracts, the plain law. -/
import Derived.Test.YtdbdkdmgfiiljaaM7
import Derived.Test.YtdbdkdmgfiiljaaRows
import Derived.Test.YtdbdkdmgfiiljaaVcF
namespace Go.Proofs.Ytdbdkdmgfiiljaa
open Go.Vc
def term_reader_now_wp (r : Addr) (K : Value → World → Prop) (w : World) : Prop :=
  ∀ (b : Nat) (w1 : World), b = w.heap.size → w1 = w.alloc (.cells #[.int .i64 0, .string (mkS []), .int .i64 0, .int .i64 0] 44) →
  ∀ w2 : World, w2 = w1.drew →
  ∃ (x : Int), w2.cell? (r.add 1) = some (.int .i64 x) ∧
  ∃ (xA : Option Addr) (xN : Nat) (xC : Nat), w2.cell? r = some (.slice xA xN xC) ∧
  cond (decide (x < (xN : Int)))
    (∀ w3 : World, w3 = w2.drew →
    ∃ (S : World → Prop), S w3 ∧
    ∃ (xA1 : Option Addr) (xN1 : Nat) (xC1 : Nat), (∀ u : World, S u → u.cell? r = some (.slice xA1 xN1 xC1)) ∧
    ∃ (x1 : Int), (∀ u : World, S u → u.cell? (r.add 1) = some (.int .i64 x1)) ∧
    ((0 : Int) ≤ x1 ∧ x1 < (xN1 : Int)) ∧
    ptrOr xA1 (fun a =>
      ∃ (xKind : Int) (xText : List UInt8) (xN2 : Int) (xAt : Int), (∀ u : World, S u → CellsAt u (a.add (x1.toNat * 4)) [.int .i64 xKind, .string (mkS xText), .int .i64 xN2, .int .i64 xAt]) ∧
      Writable w3 ⟨b, 0, none⟩ 4 ∧ ∀ w4 : World, w4 = setCells w3 ⟨b, 0, none⟩ [.int .i64 xKind, .string (mkS xText), .int .i64 xN2, .int .i64 xAt] →
      ∃ (rKind : Int) (rText : List UInt8) (rN : Int) (rAt : Int), CellsAt w4 ⟨b, 0, none⟩ [.int .i64 rKind, .string (mkS rText), .int .i64 rN, .int .i64 rAt] ∧
      K (.agg #[.int .i64 rKind, .string (mkS rText), .int .i64 rN, .int .i64 rAt]) w4))
    (Writable w2 ⟨b, 0, none⟩ 4 ∧ ∀ w5 : World, w5 = setCells w2 ⟨b, 0, none⟩ [.int .i64 0, .string (mkS []), .int .i64 0, .int .i64 0] →
    ∃ (rKind1 : Int) (rText1 : List UInt8) (rN1 : Int) (rAt1 : Int), CellsAt w5 ⟨b, 0, none⟩ [.int .i64 rKind1, .string (mkS rText1), .int .i64 rN1, .int .i64 rAt1] ∧
    K (.agg #[.int .i64 rKind1, .string (mkS rText1), .int .i64 rN1, .int .i64 rAt1]) w5)
theorem term_reader_now_ok (r : Addr) (K : Value → World → Prop) (w : World) (h : term_reader_now_wp r K w) : Calls Try.prog 95 #[.pointer (some r)] w (Ret K) :=
  calls_of {} Try.func95 (by kernel_rfl) h
def term_reader_is_wp (r : Addr) (s : List UInt8) (K : Value → World → Prop) (w : World) : Prop :=
  Calls Try.prog 95 #[.pointer (some r)] w (Ret fun v w1 => -- (*term.reader).now
    ∃ (xKind : Int) (xText : List UInt8) (xN : Int) (xAt : Int), v = .agg #[.int .i64 xKind, .string (mkS xText), .int .i64 xN, .int .i64 xAt] ∧
    cond (xKind == 4)
      (Calls Try.prog 95 #[.pointer (some r)] w1 (Ret fun v1 w2 => -- (*term.reader).now
        ∃ (xKind1 : Int) (xText1 : List UInt8) (xN1 : Int) (xAt1 : Int), v1 = .agg #[.int .i64 xKind1, .string (mkS xText1), .int .i64 xN1, .int .i64 xAt1] ∧
        K (.bool (xText1 == s)) w2))
      (K (.bool false) w1))
theorem term_reader_is_ok (r : Addr) (s : List UInt8) (K : Value → World → Prop) (w : World) (h : term_reader_is_wp r s K w) : Calls Try.prog 98 #[.pointer (some r), .string (mkS s)] w (Ret K) :=
  calls_of {} Try.func98 (by kernel_rfl) h
def term_below_one_wp (r : Addr) (K : Value → World → Prop) (w : World) : Prop :=
  ∃ (x : Int), w.cell? (r.add 2) = some (.int .i64 x) ∧
  cond (x == 24)
    (Writable w (r.add 3) 1 ∧ ∀ w1 : World, w1 = w.setCell (r.add 3) (.int .i64 5) →
    K (.slice none 0 0) w1)
    (∃ (x1 : Int), w.cell? (r.add 2) = some (.int .i64 x1) ∧
    Writable w (r.add 2) 1 ∧ ∀ w2 : World, w2 = w.setCell (r.add 2) (.int .i64 (IntKind.i64.wrap (x1 + 1))) →
    ∃ (x2 : Int), w2.cell? (r.add 1) = some (.int .i64 x2) ∧
    Writable w2 (r.add 1) 1 ∧ ∀ w3 : World, w3 = w2.setCell (r.add 1) (.int .i64 (IntKind.i64.wrap (x2 + 1))) →
    Calls Try.prog 94 #[.pointer (some r)] w3 (Ret fun v w4 => -- (*term.reader).one
      ∃ (lA : Option Addr) (lN : Nat) (lC : Nat), v = .slice lA lN lC ∧
      ∃ (x3 : Int), w4.cell? (r.add 2) = some (.int .i64 x3) ∧
      Writable w4 (r.add 2) 1 ∧ ∀ w5 : World, w5 = w4.setCell (r.add 2) (.int .i64 (IntKind.i64.wrap (x3 - 1))) →
      K (.slice lA lN lC) w5))
theorem term_below_one_ok (r : Addr) (K : Value → World → Prop) (w : World) (h : term_below_one_wp r K w) : Calls Try.prog 99 #[.pointer (some r), .func (.func 94) #[.pointer (some r)] #[]] w (Ret K) :=
  calls_of {} Try.func99 (by kernel_rfl) h
def term_below_from_wp (r : Addr) (q : Addr) (K : Value → World → Prop) (w : World) : Prop :=
  ∃ (x : Int), w.cell? (r.add 2) = some (.int .i64 x) ∧
  cond (x == 24)
    (Writable w (r.add 3) 1 ∧ ∀ w1 : World, w1 = w.setCell (r.add 3) (.int .i64 5) →
    K (.slice none 0 0) w1)
    (∃ (x1 : Int), w.cell? (r.add 2) = some (.int .i64 x1) ∧
    Writable w (r.add 2) 1 ∧ ∀ w2 : World, w2 = w.setCell (r.add 2) (.int .i64 (IntKind.i64.wrap (x1 + 1))) →
    ∃ (x2 : Int), w2.cell? (r.add 1) = some (.int .i64 x2) ∧
    Writable w2 (r.add 1) 1 ∧ ∀ w3 : World, w3 = w2.setCell (r.add 1) (.int .i64 (IntKind.i64.wrap (x2 + 1))) →
    Calls Try.prog 100 #[.pointer (some q)] w3 (Ret fun v w4 => -- (*term.reader).one$1
      ∃ (lA : Option Addr) (lN : Nat) (lC : Nat), v = .slice lA lN lC ∧
      ∃ (x3 : Int), w4.cell? (r.add 2) = some (.int .i64 x3) ∧
      Writable w4 (r.add 2) 1 ∧ ∀ w5 : World, w5 = w4.setCell (r.add 2) (.int .i64 (IntKind.i64.wrap (x3 - 1))) →
      K (.slice lA lN lC) w5))
theorem term_below_from_ok (r : Addr) (q : Addr) (K : Value → World → Prop) (w : World) (h : term_below_from_wp r q K w) : Calls Try.prog 99 #[.pointer (some r), .func (.func 100) #[] #[.pointer (some q)]] w (Ret K) :=
  calls_of {} Try.func99 (by kernel_rfl) h
def term_reader_one_1_wp (p0 : Addr) (K : Value → World → Prop) (w : World) : Prop :=
  ∃ (x : Option Addr), w.cell? p0 = some (.pointer x) ∧
  Calls Try.prog 90 #[.pointer x, .int .i64 1] w (Ret fun v w1 => -- (*term.reader).from
    ∃ (xA : Option Addr) (xN : Nat) (xC : Nat), v = .slice xA xN xC ∧
    K (.slice xA xN xC) w1)
theorem term_reader_one_1_ok (p0 : Addr) (K : Value → World → Prop) (w : World) (h : term_reader_one_1_wp p0 K w) : Calls Try.prog 100 #[.pointer (some p0)] w (Ret K) :=
  calls_of {} Try.func100 (by kernel_rfl) h
def term_reader_one_wp (r : Addr) (K : Value → World → Prop) (w : World) : Prop :=
  ∀ (b : Nat) (w1 : World), b = w.heap.size → w1 = w.alloc (.cells #[.pointer (some r)] 109) →
  ∃ (x : Option Addr), w1.cell? ⟨b, 0, none⟩ = some (.pointer x) ∧
  Calls Try.prog 95 #[.pointer x] w1 (Ret fun v w2 => -- (*term.reader).now
    ∃ (xKind : Int) (xText : List UInt8) (xN : Int) (xAt : Int), v = .agg #[.int .i64 xKind, .string (mkS xText), .int .i64 xN, .int .i64 xAt] ∧
    ∀ (b1 : Nat) (w3 : World), b1 = w2.heap.size → w3 = w2.alloc (.cells #[.int .i64 0, .string (mkS []), .int .i64 0, .int .i64 0] 44) →
    Writable w3 ⟨b1, 0, none⟩ 4 ∧ ∀ w4 : World, w4 = setCells w3 ⟨b1, 0, none⟩ [.int .i64 xKind, .string (mkS xText), .int .i64 xN, .int .i64 xAt] →
    ∃ (x1 : Int), w4.cell? ⟨b1, 0, none⟩ = some (.int .i64 x1) ∧
    cond (x1 == 2)
      (∃ (x2 : Option Addr), w4.cell? ⟨b, 0, none⟩ = some (.pointer x2) ∧
      ptrOr x2 (fun a =>
        ∃ (x3 : Int), w4.cell? (a.add 1) = some (.int .i64 x3) ∧
        ptrOr x2 (fun a1 =>
          Writable w4 (a1.add 1) 1 ∧ ∀ w5 : World, w5 = w4.setCell (a1.add 1) (.int .i64 (IntKind.i64.wrap (x3 + 1))) →
          ∃ (x4 : Int), w5.cell? ⟨b1, 2, none⟩ = some (.int .i64 x4) ∧
          ∃ (x5 : Int), w5.cell? ⟨b1, 3, none⟩ = some (.int .i64 x5) ∧
          ∀ (b2 : Nat) (w6 : World), b2 = w5.heap.size → w6 = w5.alloc (.cells #[.int .i64 1, .string (mkS []), .int .i64 x4, .int .i64 0, .int .i64 x5] 39) →
          K (.slice (some ⟨b2, 0, none⟩) 1 1) w6)))
      (∃ (x6 : Int), w4.cell? ⟨b1, 0, none⟩ = some (.int .i64 x6) ∧
      cond (x6 == 1)
        (∃ (x7 : Option Addr), w4.cell? ⟨b, 0, none⟩ = some (.pointer x7) ∧
        ptrOr x7 (fun a2 =>
          ∃ (x8 : Int), w4.cell? (a2.add 1) = some (.int .i64 x8) ∧
          ptrOr x7 (fun a3 =>
            Writable w4 (a3.add 1) 1 ∧ ∀ w7 : World, w7 = w4.setCell (a3.add 1) (.int .i64 (IntKind.i64.wrap (x8 + 1))) →
            ∃ (x9 : List UInt8), w7.cell? ⟨b1, 1, none⟩ = some (.string (mkS x9)) ∧
            ∃ (x10 : Int), w7.cell? ⟨b1, 3, none⟩ = some (.int .i64 x10) ∧
            ∀ (b3 : Nat) (w8 : World), b3 = w7.heap.size → w8 = w7.alloc (.cells #[.int .i64 2, .string (mkS x9), .int .i64 0, .int .i64 0, .int .i64 x10] 39) →
            K (.slice (some ⟨b3, 0, none⟩) 1 1) w8)))
        (∃ (J : Bool → World → Prop),
        (∃ (x11 : Option Addr), w4.cell? ⟨b, 0, none⟩ = some (.pointer x11) ∧
          Calls Try.prog 98 #[.pointer x11, .string (mkS [45])] w4 (Ret fun v1 w9 => -- (*term.reader).is
            ∃ (x12 : Bool), v1 = .bool x12 ∧
            cond (x12)
              (J x12 w9)
              (∃ (x13 : Option Addr), w9.cell? ⟨b, 0, none⟩ = some (.pointer x13) ∧
              Calls Try.prog 98 #[.pointer x13, .string (mkS [33])] w9 (Ret fun v2 w10 => -- (*term.reader).is
                ∃ (x14 : Bool), v2 = .bool x14 ∧
                J x14 w10)))) ∧
        ∀ (_g : Nat → Value) (x15 : Bool) (w11 : World), J x15 w11 →
        cond (x15)
          (∃ (J1 : Int → World → Prop),
          (∃ (x16 : List UInt8), w11.cell? ⟨b1, 1, none⟩ = some (.string (mkS x16)) ∧
            cond (x16 == [33])
              (J1 4 w11)
              (J1 3 w11)) ∧
          ∀ (_g1 : Nat → Value) (op : Int) (w12 : World), J1 op w12 →
          ∀ w13 : World, w13 = w12.drew →
          ∃ (S : World → Prop), S w13 ∧
          ∃ (x17 : Int), (∀ u : World, S u → u.cell? ⟨b1, 3, none⟩ = some (.int .i64 x17)) ∧
          ∃ (x18 : Option Addr), (∀ u : World, S u → u.cell? ⟨b, 0, none⟩ = some (.pointer x18)) ∧
          ∃ (x19 : Option Addr), (∀ u : World, S u → u.cell? ⟨b, 0, none⟩ = some (.pointer x19)) ∧
          (∀ (b4 : Nat) (w14 : World), b4 = w13.heap.size → w14 = w13.alloc (.cells #[.int .i64 op, .string (mkS []), .int .i64 0, .int .i64 1, .int .i64 x17] 39) →
          S w14 ∧
          Calls Try.prog 99 #[.pointer x18, .func (.func 94) #[.pointer x19] #[]] w14 (Ret fun v3 w15 => -- (*term.reader).below
            ∃ (xA : Option Addr) (xN1 : Nat) (xC : Nat), v3 = .slice xA xN1 xC ∧
            S w15 ∧
            SemOk Try.prog (Builtin.append_ #[23, 23] 23 #[.slice (some ⟨b4, 0, none⟩) 1 1, .slice xA xN1 xC]) (fun v4 w16 =>
              ∃ (xA1 : Option Addr) (xN2 : Nat) (xC1 : Nat), v4 = .slice xA1 xN2 xC1 ∧
              K (.slice xA1 xN2 xC1) w16) w15)) ∧
          (Calls Try.prog 99 #[.pointer x18, .func (.func 94) #[.pointer x19] #[]] w13 (Ret fun v5 w17 => -- (*term.reader).below
            ∃ (xA2 : Option Addr) (xN3 : Nat) (xC2 : Nat), v5 = .slice xA2 xN3 xC2 ∧
            S w17 ∧
            ∀ (b5 : Nat) (w18 : World), b5 = w17.heap.size → w18 = w17.alloc (.cells #[.int .i64 op, .string (mkS []), .int .i64 0, .int .i64 1, .int .i64 x17] 39) →
            S w18 ∧
            SemOk Try.prog (Builtin.append_ #[23, 23] 23 #[.slice (some ⟨b5, 0, none⟩) 1 1, .slice xA2 xN3 xC2]) (fun v6 w19 =>
              ∃ (xA3 : Option Addr) (xN4 : Nat) (xC3 : Nat), v6 = .slice xA3 xN4 xC3 ∧
              K (.slice xA3 xN4 xC3) w19) w18)))
          (∃ (x20 : Option Addr), w11.cell? ⟨b, 0, none⟩ = some (.pointer x20) ∧
          Calls Try.prog 98 #[.pointer x20, .string (mkS [40])] w11 (Ret fun v7 w20 => -- (*term.reader).is
            ∃ (x21 : Bool), v7 = .bool x21 ∧
            cond (x21)
              (∃ (x22 : Option Addr), w20.cell? ⟨b, 0, none⟩ = some (.pointer x22) ∧
              Calls Try.prog 99 #[.pointer x22, .func (.func 100) #[] #[.pointer (some ⟨b, 0, none⟩)]] w20 (Ret fun v8 w21 => -- (*term.reader).below
                ∃ (lA : Option Addr) (lN : Nat) (lC : Nat), v8 = .slice lA lN lC ∧
                ∃ (J2 : World → Prop),
                (∃ (J3 : Bool → World → Prop),
                  (∃ (x23 : Option Addr), w21.cell? ⟨b, 0, none⟩ = some (.pointer x23) ∧
                    ptrOr x23 (fun a4 =>
                      ∃ (x24 : Int), w21.cell? (a4.add 3) = some (.int .i64 x24) ∧
                      cond (x24 == 0)
                        (∃ (x25 : Option Addr), w21.cell? ⟨b, 0, none⟩ = some (.pointer x25) ∧
                        Calls Try.prog 98 #[.pointer x25, .string (mkS [41])] w21 (Ret fun v9 w22 => -- (*term.reader).is
                          ∃ (x26 : Bool), v9 = .bool x26 ∧
                          J3 (!x26) w22))
                        (J3 false w21))) ∧
                  ∀ (_g2 : Nat → Value) (x27 : Bool) (w23 : World), J3 x27 w23 →
                  cond (x27)
                    (∃ (x28 : Option Addr), w23.cell? ⟨b, 0, none⟩ = some (.pointer x28) ∧
                    ptrOr x28 (fun a5 =>
                      Writable w23 (a5.add 3) 1 ∧ ∀ w24 : World, w24 = w23.setCell (a5.add 3) (.int .i64 11) →
                      J2 w24))
                    (J2 w23)) ∧
                ∀ (_g3 : Nat → Value) (w25 : World), J2 w25 →
                ∃ (x29 : Option Addr), w25.cell? ⟨b, 0, none⟩ = some (.pointer x29) ∧
                ptrOr x29 (fun a6 =>
                  ∃ (x30 : Int), w25.cell? (a6.add 3) = some (.int .i64 x30) ∧
                  cond (x30 == 0)
                    (∃ (x31 : Option Addr), w25.cell? ⟨b, 0, none⟩ = some (.pointer x31) ∧
                    ptrOr x31 (fun a7 =>
                      ∃ (x32 : Int), w25.cell? (a7.add 1) = some (.int .i64 x32) ∧
                      ptrOr x31 (fun a8 =>
                        Writable w25 (a8.add 1) 1 ∧ ∀ w26 : World, w26 = w25.setCell (a8.add 1) (.int .i64 (IntKind.i64.wrap (x32 + 1))) →
                        K (.slice lA lN lC) w26)))
                    (K (.slice lA lN lC) w25))))
              (∃ (x33 : Option Addr), w20.cell? ⟨b, 0, none⟩ = some (.pointer x33) ∧
              ptrOr x33 (fun a9 =>
                Writable w20 (a9.add 3) 1 ∧ ∀ w27 : World, w27 = w20.setCell (a9.add 3) (.int .i64 11) →
                K (.slice none 0 0) w27)))))))
theorem term_reader_one_ok (r : Addr) (K : Value → World → Prop) (w : World) (h : term_reader_one_wp r K w) : Calls Try.prog 94 #[.pointer (some r)] w (Ret K) :=
  calls_of { cuts := [(463, [(42, .bool)]), (3709, [(4, .int .i64)]), (14845, []), (29690, [(75, .bool)])] } Try.func94 (by kernel_rfl) h
def term_binary_wp (K : Value → World → Prop) (w : World) : Prop :=
  ∀ (b : Nat) (w1 : World), b = w.heap.size → w1 = w.alloc (.map #[] 0) →
  SemOk Try.prog (Instr.mapUpdate 104 (.map (some b)) (.string (mkS [124, 124])) (.int .i64 17)) (fun _ w2 =>
    SemOk Try.prog (Instr.mapUpdate 104 (.map (some b)) (.string (mkS [38, 38])) (.int .i64 16)) (fun _ w3 =>
      SemOk Try.prog (Instr.mapUpdate 104 (.map (some b)) (.string (mkS [61, 61])) (.int .i64 10)) (fun _ w4 =>
        SemOk Try.prog (Instr.mapUpdate 104 (.map (some b)) (.string (mkS [33, 61])) (.int .i64 11)) (fun _ w5 =>
          SemOk Try.prog (Instr.mapUpdate 104 (.map (some b)) (.string (mkS [60])) (.int .i64 12)) (fun _ w6 =>
            SemOk Try.prog (Instr.mapUpdate 104 (.map (some b)) (.string (mkS [60, 61])) (.int .i64 13)) (fun _ w7 =>
              SemOk Try.prog (Instr.mapUpdate 104 (.map (some b)) (.string (mkS [62])) (.int .i64 14)) (fun _ w8 =>
                SemOk Try.prog (Instr.mapUpdate 104 (.map (some b)) (.string (mkS [62, 61])) (.int .i64 15)) (fun _ w9 =>
                  SemOk Try.prog (Instr.mapUpdate 104 (.map (some b)) (.string (mkS [43])) (.int .i64 5)) (fun _ w10 =>
                    SemOk Try.prog (Instr.mapUpdate 104 (.map (some b)) (.string (mkS [45])) (.int .i64 6)) (fun _ w11 =>
                      SemOk Try.prog (Instr.mapUpdate 104 (.map (some b)) (.string (mkS [42])) (.int .i64 7)) (fun _ w12 =>
                        SemOk Try.prog (Instr.mapUpdate 104 (.map (some b)) (.string (mkS [47])) (.int .i64 8)) (fun _ w13 =>
                          SemOk Try.prog (Instr.mapUpdate 104 (.map (some b)) (.string (mkS [37])) (.int .i64 9)) (fun _ w14 =>
                            K (.map (some b)) w14) w13) w12) w11) w10) w9) w8) w7) w6) w5) w4) w3) w2) w1
theorem term_binary_ok (K : Value → World → Prop) (w : World) (h : term_binary_wp K w) : Calls Try.prog 93 #[] w (Ret K) :=
  calls_of {} Try.func93 (by kernel_rfl) h
def term_Level_wp (op : Int) (K : Value → World → Prop) (w : World) : Prop :=
  cond (op == 17)
    (K (.int .i64 1) w)
    (cond (op == 16)
      (K (.int .i64 2) w)
      (∀ (_g : Nat → Value),
      cond (((decide (op ≥ 10)) && (decide (op ≤ 15))))
        (K (.int .i64 3) w)
        (∀ (_g1 : Nat → Value),
        cond (((op == 5) || (op == 6)))
          (K (.int .i64 4) w)
          (∀ (_g2 : Nat → Value),
          cond (((decide (op ≥ 7)) && (decide (op ≤ 9))))
            (K (.int .i64 5) w)
            (∀ (_g3 : Nat → Value),
            cond (((op == 3) || (op == 4)))
              (K (.int .i64 6) w)
              (∀ (_g4 : Nat → Value),
              cond (((op == 1) || (op == 2)))
                (K (.int .i64 7) w)
                (K (.int .i64 0) w)))))))
theorem term_Level_ok (op : Int) (K : Value → World → Prop) (w : World) (h : term_Level_wp op K w) : Calls Try.prog 96 #[.int .i64 op] w (Ret K) :=
  calls_of { merges := [(414, [9]), (1662, [16]), (6654, [23]), (26622, [30]), (106494, [37])] } Try.func96 (by kernel_rfl) h
def term_reader_from_wp (r : Addr) (level : Int) (K : Value → World → Prop) (w : World) : Prop :=
  Calls Try.prog 93 #[] w (Ret fun v w1 => -- term.binary
    ∃ (signs : Option Nat), v = .map signs ∧
    Calls Try.prog 94 #[.pointer (some r)] w1 (Ret fun v1 w2 => -- (*term.reader).one
      ∃ (lA : Option Addr) (lN : Nat) (lC : Nat), v1 = .slice lA lN lC ∧
      ∃ (I : Option Addr → Nat → Nat → Int → World → Prop) (m : Option Addr → Nat → Nat → Int → World → Nat), I lA lN lC 6 w2 ∧
      ∀ (_g : Nat → Value) (lA1 : Option Addr) (lN1 : Nat) (lC1 : Nat) (most : Int) (w3 : World), I lA1 lN1 lC1 most w3 →
      ∃ (x : Int), w3.cell? (r.add 3) = some (.int .i64 x) ∧
      cond (x == 0)
        (Calls Try.prog 95 #[.pointer (some r)] w3 (Ret fun v2 w4 => -- (*term.reader).now
          ∃ (xKind : Int) (xText : List UInt8) (xN : Int) (xAt : Int), v2 = .agg #[.int .i64 xKind, .string (mkS xText), .int .i64 xN, .int .i64 xAt] ∧
          ∀ (b : Nat) (w5 : World), b = w4.heap.size → w5 = w4.alloc (.cells #[.int .i64 0, .string (mkS []), .int .i64 0, .int .i64 0] 44) →
          Writable w5 ⟨b, 0, none⟩ 4 ∧ ∀ w6 : World, w6 = setCells w5 ⟨b, 0, none⟩ [.int .i64 xKind, .string (mkS xText), .int .i64 xN, .int .i64 xAt] →
          ∃ (x1 : List UInt8), w6.cell? ⟨b, 1, none⟩ = some (.string (mkS x1)) ∧
          SemOk Try.prog (Instr.lookup 104 (.map signs) (.string (mkS x1)) false) (fun v3 w7 =>
            ∃ (op : Int), v3 = .int .i64 op ∧
            Calls Try.prog 96 #[.int .i64 op] w7 (Ret fun v4 w8 => -- term.Level
              ∃ (mine : Int), v4 = .int .i64 mine ∧
              ∃ (J : Bool → World → Prop),
              (∃ (x2 : Int), w8.cell? ⟨b, 0, none⟩ = some (.int .i64 x2) ∧
                cond (x2 != 4)
                  (J true w8)
                  (cond (mine == 0)
                    (J true w8)
                    (cond (decide (mine < level))
                      (J true w8)
                      (J (decide (mine > most)) w8)))) ∧
              ∀ (_g1 : Nat → Value) (x3 : Bool) (w9 : World), J x3 w9 →
              cond (x3)
                (K (.slice lA1 lN1 lC1) w9)
                (∃ (x4 : Int), w9.cell? (r.add 1) = some (.int .i64 x4) ∧
                Writable w9 (r.add 1) 1 ∧ ∀ w10 : World, w10 = w9.setCell (r.add 1) (.int .i64 (IntKind.i64.wrap (x4 + 1))) →
                Calls Try.prog 90 #[.pointer (some r), .int .i64 (IntKind.i64.wrap (mine + 1))] w10 (Ret fun v5 w11 => -- (*term.reader).from
                  ∃ (rightA : Option Addr) (rightN : Nat) (rightC : Nat), v5 = .slice rightA rightN rightC ∧
                  ∃ (x5 : Int), w11.cell? ⟨b, 3, none⟩ = some (.int .i64 x5) ∧
                  ∀ (b1 : Nat) (w12 : World), b1 = w11.heap.size → w12 = w11.alloc (.cells #[.int .i64 op, .string (mkS []), .int .i64 0, .int .i64 2, .int .i64 x5] 39) →
                  SemOk Try.prog (Builtin.append_ #[23, 23] 23 #[.slice (some ⟨b1, 0, none⟩) 1 1, .slice lA1 lN1 lC1]) (fun v6 w13 =>
                    ∃ (xA : Option Addr) (xN1 : Nat) (xC : Nat), v6 = .slice xA xN1 xC ∧
                    SemOk Try.prog (Builtin.append_ #[23, 23] 23 #[.slice xA xN1 xC, .slice rightA rightN rightC]) (fun v7 w14 =>
                      ∃ (lA2 : Option Addr) (lN2 : Nat) (lC2 : Nat), v7 = .slice lA2 lN2 lC2 ∧
                      cond (mine == 3)
                        (I lA2 lN2 lC2 2 w14 ∧ m lA2 lN2 lC2 2 w14 < m lA1 lN1 lC1 most w3)
                        (I lA2 lN2 lC2 mine w14 ∧ m lA2 lN2 lC2 mine w14 < m lA1 lN1 lC1 most w3)) w13) w12)))) w6))
        (K (.slice none 0 0) w3)))
theorem term_reader_from_ok (r : Addr) (level : Int) (K : Value → World → Prop) (w : World) (h : term_reader_from_wp r level K w) : Calls Try.prog 90 #[.pointer (some r), .int .i64 level] w (Ret K) :=
  calls_of { loops := [(124, [(6, .slice), (7, .int .i64)])], cuts := [(15918, [(44, .bool)])] } Try.func90 (by kernel_rfl) h
def term_Parse_wp (toksA : Option Addr) (toksN : Nat) (toksC : Nat) (atx : Int) (K : Value → World → Prop) (w : World) : Prop :=
  cond (decide (atx < 0))
    (K (.tuple #[.slice none 0 0, .int .i64 0, .int .i64 1]) w)
    (∀ (b : Nat) (w1 : World), b = w.heap.size → w1 = w.alloc (.cells #[.slice toksA toksN toksC, .int .i64 atx, .int .i64 0, .int .i64 0] 111) →
    Calls Try.prog 90 #[.pointer (some ⟨b, 0, none⟩), .int .i64 1] w1 (Ret fun v w2 => -- (*term.reader).from
      ∃ (lA : Option Addr) (lN : Nat) (lC : Nat), v = .slice lA lN lC ∧
      ∃ (x : Int), w2.cell? ⟨b, 3, none⟩ = some (.int .i64 x) ∧
      cond (x != 0)
        (∀ w3 : World, w3 = w2.drew →
        ∃ (x1 : Int), w3.cell? ⟨b, 1, none⟩ = some (.int .i64 x1) ∧
        ∃ (x2 : Int), w3.cell? ⟨b, 3, none⟩ = some (.int .i64 x2) ∧
        K (.tuple #[.slice none 0 0, .int .i64 x1, .int .i64 x2]) w3)
        (∀ w4 : World, w4 = w2.drew →
        ∃ (x3 : Int), w4.cell? ⟨b, 1, none⟩ = some (.int .i64 x3) ∧
        K (.tuple #[.slice lA lN lC, .int .i64 x3, .int .i64 0]) w4)))
theorem term_Parse_ok (toksA : Option Addr) (toksN : Nat) (toksC : Nat) (atx : Int) (K : Value → World → Prop) (w : World) (h : term_Parse_wp toksA toksN toksC atx K w) : Calls Try.prog 84 #[.slice toksA toksN toksC, .int .i64 atx] w (Ret K) :=
  calls_of {} Try.func84 (by kernel_rfl) h
end Go.Proofs.Ytdbdkdmgfiiljaa
namespace Go.Proofs.Ytdbdkdmgfiiljaa
open Go.Vc Go.Tk Go.Tm
theorem Level_spec (op : Int) (w : World) : Calls Try.prog 96 #[.int .i64 op] w (Ret fun v w' => v = .int .i64 (levO op : Nat) ∧ w = w') := by
  refine term_Level_ok _ _ _ ?_
  unfold levO
  refine cond_intro (fun h => ?_) fun h => ?_
  · have h : op = 17 := by simpa using h
    rw [if_pos h]; exact ⟨rfl, rfl⟩
  · have h : op ≠ 17 := by simpa using h
    rw [if_neg h]
    refine cond_intro (fun h => ?_) fun h => ?_
    · have h : op = 16 := by simpa using h
      rw [if_pos h]; exact ⟨rfl, rfl⟩
    · have h : op ≠ 16 := by simpa using h
      rw [if_neg h]
      intro _
      refine cond_intro (fun h => ?_) fun h => ?_
      · rw [if_pos (by simp at h; omega)]; exact ⟨rfl, rfl⟩
      · rw [if_neg (by simp at h; omega)]
        intro _
        refine cond_intro (fun h => ?_) fun h => ?_
        · rw [if_pos (by simpa using h)]; exact ⟨rfl, rfl⟩
        · rw [if_neg (by simpa using h)]
          intro _
          refine cond_intro (fun h => ?_) fun h => ?_
          · rw [if_pos (by simp at h; omega)]; exact ⟨rfl, rfl⟩
          · rw [if_neg (by simp at h; omega)]
            intro _
            refine cond_intro (fun h => ?_) fun h => ?_
            · rw [if_pos (by simpa using h)]; exact ⟨rfl, rfl⟩
            · rw [if_neg (by simpa using h)]
              intro _
              refine cond_intro (fun h => ?_) fun h => ?_
              · rw [if_pos (by simpa using h)]; exact ⟨rfl, rfl⟩
              · rw [if_neg (by simpa using h)]; exact ⟨rfl, rfl⟩
def binKvs : List (List UInt8 × Value) := [([124, 124], .int .i64 17), ([38, 38], .int .i64 16), ([61, 61], .int .i64 10), ([33, 61], .int .i64 11), ([60], .int .i64 12), ([60, 61], .int .i64 13), ([62], .int .i64 14), ([62, 61], .int .i64 15), ([43], .int .i64 5), ([45], .int .i64 6), ([42], .int .i64 7), ([47], .int .i64 8), ([37], .int .i64 9)]
theorem get_bin (s : List UInt8) : (getK binKvs s).getD (.int .i64 0) = .int .i64 (opOf s) := by
  by_cases h : s ∈ sgs
  · simp only [sgs, List.mem_cons, List.not_mem_nil, or_false] at h
    rcases h with rfl | rfl | rfl | rfl | rfl | rfl | rfl | rfl | rfl | rfl | rfl | rfl | rfl <;> rfl
  · have h0 : opOf s = 0 := by
      have : ∀ (l : List (List UInt8)) (i : Nat), s ∉ l → idx s l i = 0 := by
        intro l
        induction l with
        | nil => intro i _; rfl
        | cons x l ih =>
          intro i hn
          unfold idx
          rw [if_neg (fun e => hn (by simp [e])), ih _ (fun hm => hn (by simp [hm]))]
      exact this sgs 0 h
    have h1 : getK binKvs s = none := by
      unfold getK
      rw [List.find?_eq_none.2]
      · rfl
      · intro x hx hb
        have hb : x.1 = s := by simpa using hb
        apply h
        rw [← hb]
        simp only [binKvs, List.mem_cons, List.not_mem_nil, or_false] at hx
        rcases hx with rfl | rfl | rfl | rfl | rfl | rfl | rfl | rfl | rfl | rfl | rfl | rfl | rfl <;> decide
    rw [h0, h1]; rfl
theorem map_ty : Try.prog.underlying 104 = some (.map 9 3) := by kernel_rfl
theorem binary_spec (w : World) : Calls Try.prog 93 #[] w (Ret fun v w' => ∃ b, v = .map (some b) ∧ MapAt w' b binKvs ∧ w.heap.size ≤ b ∧ Ext w w') := by
  refine term_binary_ok _ _ ?_
  intro b w1 hb hw1
  have m := MapAt.new hb hw1
  have g : w1.grownBy w1 (some b) := ⟨rfl, rfl, rfl, Nat.le_refl _, fun _ _ _ => rfl⟩
  refine m.add map_ty str_ty rfl fun w2 m g2 => ?_
  have g := grownBy_trans g g2; clear g2
  refine m.add map_ty str_ty rfl fun w2 m g2 => ?_
  have g := grownBy_trans g g2; clear g2
  refine m.add map_ty str_ty rfl fun w2 m g2 => ?_
  have g := grownBy_trans g g2; clear g2
  refine m.add map_ty str_ty rfl fun w2 m g2 => ?_
  have g := grownBy_trans g g2; clear g2
  refine m.add map_ty str_ty rfl fun w2 m g2 => ?_
  have g := grownBy_trans g g2; clear g2
  refine m.add map_ty str_ty rfl fun w2 m g2 => ?_
  have g := grownBy_trans g g2; clear g2
  refine m.add map_ty str_ty rfl fun w2 m g2 => ?_
  have g := grownBy_trans g g2; clear g2
  refine m.add map_ty str_ty rfl fun w2 m g2 => ?_
  have g := grownBy_trans g g2; clear g2
  refine m.add map_ty str_ty rfl fun w2 m g2 => ?_
  have g := grownBy_trans g g2; clear g2
  refine m.add map_ty str_ty rfl fun w2 m g2 => ?_
  have g := grownBy_trans g g2; clear g2
  refine m.add map_ty str_ty rfl fun w2 m g2 => ?_
  have g := grownBy_trans g g2; clear g2
  refine m.add map_ty str_ty rfl fun w2 m g2 => ?_
  have g := grownBy_trans g g2; clear g2
  refine m.add map_ty str_ty rfl fun w2 m g2 => ?_
  have g := grownBy_trans g g2; clear g2
  refine ⟨b, rfl, m, hb ▸ Nat.le_refl _, ?_⟩
  have e := Ext.alloc hw1
  have hsz := e.size
  exact ⟨g.os.trans e.os, g.tape.trans e.tape, g.output.trans e.output, Nat.le_trans e.size g.size, fun k hk => (g.block k (by omega) (fun h => by cases h; omega)).trans (Go.RowKit.Below.block e k hk)⟩
def rdC (ta : Option Addr) (n tc : Nat) (p d : Nat) (e : Int) : List Value := [.slice ta n tc, .int .i64 p, .int .i64 d, .int .i64 e]
theorem now_spec (toks : List Tok) (rb : Nat) (ta : Option Addr) (tc p d : Nat) (e : Int) (w : World) (hr : Box w rb (rdC ta toks.length tc p d e)) (h : SlAt w ta (flat tokC toks)) :
    Calls Try.prog 95 #[.pointer (some ⟨rb, 0, none⟩)] w (Ret fun v w' => v = .agg ⟨tokC (T toks p)⟩ ∧ Ext w w') := by
  refine term_reader_now_ok _ _ _ ?_
  intro b w1 hb hw1
  have o := (Own.start w).alloc hb hw1
  have hne : b ≠ rb := by have := hr.lt; omega
  have hoff := h.off (b := b) (by omega)
  have hr := hr.ext (.alloc hw1)
  have h := h.ext (.alloc hw1)
  intro w2 hw2
  have o := o.drew hw2
  have hr := hr.ext (.drew hw2)
  have h := h.ext (.drew hw2)
  refine ⟨_, hr.cell rfl, _, _, _, hr.cell rfl, cond_intro (fun hx => ?_) fun hx => ?_⟩
  · have hlt : p < toks.length := by simpa using hx
    intro w3 hw3
    have o := o.drew hw3
    have hr := hr.ext (.drew hw3)
    have h := h.ext (.drew hw3)
    refine ⟨fun u => Box u rb (rdC ta toks.length tc p d e) ∧ SlAt u ta (flat tokC toks), ⟨hr, h⟩, _, _, _, fun u hu => hu.1.cell rfl, _, fun u hu => hu.1.cell rfl, ⟨by omega, by omega⟩, ?_⟩
    rw [Int.toNat_natCast]
    obtain ⟨q, rfl, hq⟩ := h.elem tokC_len (by decide) hlt
    refine ⟨toks[p].kind, toks[p].text, toks[p].n, toks[p].at_, fun u hu => ?_, o.wr 0 rfl rfl, fun w4 hw4 => ?_⟩
    · obtain ⟨q', eq, hq'⟩ := hu.2.elem tokC_len (by decide) hlt
      cases eq
      exact hq'
    · have hr := hr.setsOther hw4 hne
      have h := h.sets hw4 hoff
      have o := o.sets 0 hw4 rfl
      refine ⟨_, _, _, _, (o.at 0 rfl).whole, ?_, o.done⟩
      have : T toks p = toks[p] := by unfold T; simp [List.getD, hlt]
      rw [this]; rfl
  · have hge : toks.length ≤ p := by simpa using hx
    refine ⟨o.wr 0 rfl rfl, fun w3 hw3 => ?_⟩
    have o := o.sets 0 hw3 rfl
    exact ⟨_, _, _, _, (o.at 0 rfl).whole, by rw [T_end hge]; rfl, o.done⟩
theorem is_spec (toks : List Tok) (rb : Nat) (ta : Option Addr) (tc p d : Nat) (e : Int) (s : List UInt8) (w : World) (hr : Box w rb (rdC ta toks.length tc p d e)) (h : SlAt w ta (flat tokC toks)) :
    Calls Try.prog 98 #[.pointer (some ⟨rb, 0, none⟩), .string (mkS s)] w (Ret fun v w' => v = .bool (decide ((T toks p).kind = 4 ∧ (T toks p).text = s)) ∧ Ext w w') := by
  refine term_reader_is_ok _ _ _ _ (call_then (now_spec toks rb ta tc p d e w hr h) ?_)
  rintro _ w1 ⟨rfl, he1⟩
  refine ⟨_, _, _, _, rfl, cond_intro (fun h4 => ?_) fun h4 => ?_⟩
  · have h4 : (T toks p).kind = 4 := by simpa using h4
    refine call_then (now_spec toks rb ta tc p d e w1 (hr.ext he1) (h.ext he1)) ?_
    rintro _ w2 ⟨rfl, he2⟩
    refine ⟨_, _, _, _, rfl, ?_, he1.trans he2⟩
    congr 1
    rw [Bool.eq_iff_iff]
    simp [h4]
  · have h4 : (T toks p).kind ≠ 4 := by simpa using h4
    exact ⟨by simp [h4], he1⟩
end Go.Proofs.Ytdbdkdmgfiiljaa
namespace Go.Proofs.Ytdbdkdmgfiiljaa
open Go.Vc Go.Tk Go.Tm
theorem rw_cap {w : World} {base e size : Nat} {a : Option Addr} {n c : Nat} {xs : List Value} (h : Rw w base e size a n c xs) : n ≤ c := by
  rcases h.2 with ⟨hv, hn⟩ | ⟨g, cap, cur, hv, _, _, hc, _⟩
  · omega
  · cases hv; exact hc
def RG (toks : List Tok) (rb : Nat) (ta : Option Addr) (tc d B : Nat) (w : World) (r : Res) (v : Value) (w' : World) : Prop :=
  ∃ a m c, ∃ l : List Nd, v = .slice a m c ∧ m = l.length ∧ SlAt w' a (flat ndC l) ∧ (∀ k, blk a = some k → w.heap.size ≤ k) ∧ (l.length ≤ toks.length + B ∧ l.length ≤ c) ∧ (r.e = 0 → l = r.l) ∧
    Box w' rb (rdC ta toks.length tc r.at_ d r.e) ∧ w.grownBy w' (some rb)
theorem below_deep (toks : List Tok) (rb : Nat) (ta : Option Addr) (tc p : Nat) (w : World) (hr : Box w rb (rdC ta toks.length tc p 24 0)) :
    Calls Try.prog 99 #[.pointer (some ⟨rb, 0, none⟩), .func (.func 94) #[.pointer (some ⟨rb, 0, none⟩)] #[]] w (Ret (RG toks rb ta tc 24 0 w ⟨[], p, 5⟩)) := by
  refine term_below_one_ok _ _ _ ?_
  refine ⟨_, hr.cell rfl, cond_t rfl ⟨(OwnR.start hr).wrR (i := 3) rfl, fun w1 hw1 => ?_⟩⟩
  have o := (OwnR.start hr).setR hw1
  exact ⟨none, 0, 0, [], rfl, rfl, rfl, fun k h => (by cases h), by simp, fun _ => rfl, o.rbox, o.grown⟩
theorem below_one (toks : List Tok) (rb : Nat) (ta : Option Addr) (tc p d B : Nat) (hp : p < 2 ^ 60) (hd : d < 24) (x : Res) (w : World) (hr : Box w rb (rdC ta toks.length tc p d 0)) (hs : SlAt w ta (flat tokC toks)) (hoff : Off ta (flat tokC toks) rb)
    (h1 : ∀ w, Box w rb (rdC ta toks.length tc (p + 1) (d + 1) 0) → SlAt w ta (flat tokC toks) → Calls Try.prog 94 #[.pointer (some ⟨rb, 0, none⟩)] w (Ret (RG toks rb ta tc (d + 1) B w x))) :
    Calls Try.prog 99 #[.pointer (some ⟨rb, 0, none⟩), .func (.func 94) #[.pointer (some ⟨rb, 0, none⟩)] #[]] w (Ret (RG toks rb ta tc d B w x)) := by
  refine term_below_one_ok _ _ _ ?_
  have o := OwnR.start hr
  have hd1 : IntKind.i64.wrap ((d : Int) + 1) = ((d + 1 : Nat) : Int) := by rw [wrap_in (by omega) (by omega)]; omega
  have hp1 : IntKind.i64.wrap ((p : Int) + 1) = ((p + 1 : Nat) : Int) := by rw [wrap_in (by omega) (by omega)]; omega
  have hd2 : IntKind.i64.wrap (((d + 1 : Nat) : Int) - 1) = (d : Int) := by rw [wrap_in (by omega) (by omega)]; omega
  refine ⟨_, hr.cell rfl, cond_f (by simp; omega) ⟨_, hr.cell rfl, o.wrR (i := 2) rfl, fun w2 hw2 => ?_⟩⟩
  have o := o.setR hw2
  have hs := hs.set hw2 hoff
  refine ⟨_, o.rbox.cell rfl, o.wrR (i := 1) rfl, fun w3 hw3 => ?_⟩
  have o := o.setR hw3
  have hs := hs.set hw3 hoff
  rw [hd1, hp1] at o
  refine call_then (h1 w3 o.rbox hs) ?_
  rintro _ w4 ⟨a, m, c, l, rfl, rfl, hsl, hfr, hle, hl, hb, hg⟩
  have hle3 := o.le
  have hrb : rb < w3.heap.size := o.rbox.lt
  have o := o.call hg hb
  refine ⟨_, _, _, rfl, _, o.rbox.cell rfl, o.wrR (i := 2) rfl, fun w5 hw5 => ?_⟩
  have hsl := hsl.set hw5 (fresh_off hfr hrb _)
  have o := o.setR hw5
  rw [hd2] at o
  exact ⟨a, _, c, l, rfl, rfl, hsl, fun k hk => Nat.le_trans hle3 (hfr k hk), hle, hl, o.rbox, o.grown⟩
theorem belowF_deep (toks : List Tok) (q : Addr) (rb : Nat) (ta : Option Addr) (tc p : Nat) (w : World) (hr : Box w rb (rdC ta toks.length tc p 24 0)) :
    Calls Try.prog 99 #[.pointer (some ⟨rb, 0, none⟩), .func (.func 100) #[] #[.pointer (some q)]] w (Ret (RG toks rb ta tc 24 0 w ⟨[], p, 5⟩)) := by
  refine term_below_from_ok _ _ _ _ ?_
  refine ⟨_, hr.cell rfl, cond_t rfl ⟨(OwnR.start hr).wrR (i := 3) rfl, fun w1 hw1 => ?_⟩⟩
  have o := (OwnR.start hr).setR hw1
  exact ⟨none, 0, 0, [], rfl, rfl, rfl, fun k h => (by cases h), by simp, fun _ => rfl, o.rbox, o.grown⟩
theorem below_from (toks : List Tok) (q : Addr) (rb : Nat) (ta : Option Addr) (tc p d B : Nat) (hp : p < 2 ^ 60) (hd : d < 24) (x : Res) (w : World) (hr : Box w rb (rdC ta toks.length tc p d 0)) (hs : SlAt w ta (flat tokC toks)) (hoff : Off ta (flat tokC toks) rb) (hq : w.cell? q = some (.pointer (some ⟨rb, 0, none⟩))) (hqb : q.block ≠ rb)
    (h1 : ∀ w, Box w rb (rdC ta toks.length tc (p + 1) (d + 1) 0) → SlAt w ta (flat tokC toks) → w.cell? q = some (.pointer (some ⟨rb, 0, none⟩)) → Calls Try.prog 100 #[.pointer (some q)] w (Ret (RG toks rb ta tc (d + 1) B w x))) :
    Calls Try.prog 99 #[.pointer (some ⟨rb, 0, none⟩), .func (.func 100) #[] #[.pointer (some q)]] w (Ret (RG toks rb ta tc d B w x)) := by
  refine term_below_from_ok _ _ _ _ ?_
  have o := OwnR.start hr
  have hd1 : IntKind.i64.wrap ((d : Int) + 1) = ((d + 1 : Nat) : Int) := by rw [wrap_in (by omega) (by omega)]; omega
  have hp1 : IntKind.i64.wrap ((p : Int) + 1) = ((p + 1 : Nat) : Int) := by rw [wrap_in (by omega) (by omega)]; omega
  have hd2 : IntKind.i64.wrap (((d + 1 : Nat) : Int) - 1) = (d : Int) := by rw [wrap_in (by omega) (by omega)]; omega
  refine ⟨_, hr.cell rfl, cond_f (by simp; omega) ⟨_, hr.cell rfl, o.wrR (i := 2) rfl, fun w2 hw2 => ?_⟩⟩
  have o := o.setR hw2
  have hs := hs.set hw2 hoff
  refine ⟨_, o.rbox.cell rfl, o.wrR (i := 1) rfl, fun w3 hw3 => ?_⟩
  have o := o.setR hw3
  have hs := hs.set hw3 hoff
  rw [hd1, hp1] at o
  have hq3 : w3.cell? q = some (.pointer (some ⟨rb, 0, none⟩)) := by
    have := cell_lt hq
    rw [World.cell?_of_block (o.grown.block q.block this (fun e => hqb (Option.some.inj e)))]
    exact hq
  refine call_then (h1 w3 o.rbox hs hq3) ?_
  rintro _ w4 ⟨a, m, c, l, rfl, rfl, hsl, hfr, hle, hl, hb, hg⟩
  have hle3 := o.le
  have hrb : rb < w3.heap.size := o.rbox.lt
  have o := o.call hg hb
  refine ⟨_, _, _, rfl, _, o.rbox.cell rfl, o.wrR (i := 2) rfl, fun w5 hw5 => ?_⟩
  have hsl := hsl.set hw5 (fresh_off hfr hrb _)
  have o := o.setR hw5
  rw [hd2] at o
  exact ⟨a, _, c, l, rfl, rfl, hsl, fun k hk => Nat.le_trans hle3 (hfr k hk), hle, hl, o.rbox, o.grown⟩
end Go.Proofs.Ytdbdkdmgfiiljaa
namespace Go.Proofs.Ytdbdkdmgfiiljaa
open Go.Vc Go.Tk Go.Tm
theorem cons_row {w w' : World} {base b : Nat} {cs : Array Value} (hb : b = w.heap.size) (hw : w' = w.alloc (.cells cs 39)) (hbase : base ≤ b) (hs : cs.size = 5) : Rw w' base 39 5 (some ⟨b, 0, none⟩) 1 1 cs.toList :=
  Rw.lit hb hw hbase (by decide) (by rw [hs])
set_option maxHeartbeats 1000000 in
theorem pOne_step (toks : List Tok) (hN : toks.length < 2 ^ 30) (rb : Nat) (ta : Option Addr) (tc : Nat) (hoff : Off ta (flat tokC toks) rb) (r1 rl : Nat → Nat → Option Res)
    (hr1 : ∀ p d r, r1 p d = some r → d ≤ 24 → ∀ w, Box w rb (rdC ta toks.length tc p d 0) → SlAt w ta (flat tokC toks) → Calls Try.prog 94 #[.pointer (some ⟨rb, 0, none⟩)] w (Ret (RG toks rb ta tc d (25 - d) w r)))
    (hrl : ∀ p d r, rl p d = some r → d ≤ 24 → ∀ w, Box w rb (rdC ta toks.length tc p d 0) → SlAt w ta (flat tokC toks) → Calls Try.prog 90 #[.pointer (some ⟨rb, 0, none⟩), .int .i64 1] w (Ret (RG toks rb ta tc d (25 - d) w r)))
    (hkl : ∀ p d r, rl p d = some r → Ok toks p r)
    (p d : Nat) (r : Res) (h : oneStep toks r1 rl p d = some r) (hd : d ≤ 24) (w : World) (hr : Box w rb (rdC ta toks.length tc p d 0)) (hs : SlAt w ta (flat tokC toks)) :
    Calls Try.prog 94 #[.pointer (some ⟨rb, 0, none⟩)] w (Ret (RG toks rb ta tc d (25 - d) w r)) := by
  have hp1 : p < toks.length → IntKind.i64.wrap ((p : Int) + 1) = ((p + 1 : Nat) : Int) := fun hp => by rw [wrap_in (by omega) (by omega)]; omega
  refine term_reader_one_ok _ _ _ ?_
  intro b w1 hb hw1
  have o := (OwnR.start hr).alloc hb hw1
  have hs1 := hs.ext (.alloc hw1)
  refine ⟨_, (o.at 0 rfl).cell rfl, call_then (now_spec toks rb ta tc p d 0 w1 o.rbox hs1) ?_⟩
  rintro _ w2 ⟨rfl, he2⟩
  have o := o.ext he2
  have hs2 := hs1.ext he2
  have hlt : (T toks p).kind ≠ 0 → p < toks.length := T_lt
  have hT : T toks p = T toks p := rfl
  unfold oneStep at h
  generalize hTt : T toks p = t at h hlt ⊢
  refine ⟨_, _, _, _, rfl, ?_⟩
  intro b1 w3 hb1 hw3
  have hs3 := hs2.ext (.alloc hw3)
  have hofft := hs2.off (b := b1) (by omega)
  have o := o.alloc hb1 hw3
  refine ⟨o.wr 0 rfl rfl, fun w4 hw4 => ?_⟩
  have o : OwnR rb w w4 (rdC ta toks.length tc p d 0) [(b1, tokC t), (b, [.pointer (some ⟨rb, 0, none⟩)])] := o.sets 0 hw4 rfl
  have hs4 := hs3.sets hw4 hofft
  refine ⟨_, (o.at 0 rfl).cell rfl, cond_intro (fun h2 => ?_) fun h2 => ?_⟩
  · have h2 : t.kind = 2 := by simpa using h2
    rw [if_pos h2] at h
    cases h
    refine ⟨_, (o.at 1 rfl).cell rfl, _, o.rbox.cell rfl, o.wrR (i := 1) rfl, fun w5 hw5 => ?_⟩
    have o := o.setR hw5
    rw [hp1 (hlt (by rw [h2]; decide))] at o
    refine ⟨_, (o.at 0 rfl).cell rfl, _, (o.at 0 rfl).cell rfl, ?_⟩
    intro b2 w6 hb2 hw6
    have o := o.alloc hb2 hw6
    exact ⟨_, _, _, [⟨1, [], t.n, 0, t.at_⟩], rfl, rfl, (o.at 0 rfl).whole, box_fresh (o.ge 0 rfl), by simp; omega, fun _ => rfl, o.rbox, o.grown⟩
  · have h2 : t.kind ≠ 2 := by simpa using h2
    rw [if_neg h2] at h
    refine ⟨_, (o.at 0 rfl).cell rfl, cond_intro (fun h3 => ?_) fun h3 => ?_⟩
    · have h3 : t.kind = 1 := by simpa using h3
      rw [if_pos h3] at h
      cases h
      refine ⟨_, (o.at 1 rfl).cell rfl, _, o.rbox.cell rfl, o.wrR (i := 1) rfl, fun w5 hw5 => ?_⟩
      have o := o.setR hw5
      rw [hp1 (hlt (by rw [h3]; decide))] at o
      refine ⟨_, (o.at 0 rfl).cell rfl, _, (o.at 0 rfl).cell rfl, ?_⟩
      intro b2 w6 hb2 hw6
      have o := o.alloc hb2 hw6
      exact ⟨_, _, _, [⟨2, t.text, 0, 0, t.at_⟩], rfl, rfl, (o.at 0 rfl).whole, box_fresh (o.ge 0 rfl), by simp; omega, fun _ => rfl, o.rbox, o.grown⟩
    · have h3 : t.kind ≠ 1 := by simpa using h3
      rw [if_neg h3] at h
      refine ⟨fun x w' => x = decide (t.kind = 4 ∧ (t.text = [45] ∨ t.text = [33])) ∧ Ext w4 w', ?_, ?_⟩
      · refine ⟨_, (o.at 1 rfl).cell rfl, call_then (is_spec toks rb ta tc p d 0 [45] w4 o.rbox hs4) ?_⟩
        rw [hTt]
        rintro _ w9 ⟨rfl, he9⟩
        refine ⟨_, rfl, cond_intro (fun h5 => ?_) fun h5 => ?_⟩
        · have h5' := of_decide_eq_true h5
          exact ⟨by rw [h5]; exact (decide_eq_true ⟨h5'.1, .inl h5'.2⟩).symm, he9⟩
        · have h5' := of_decide_eq_false h5
          have o := o.ext he9
          refine ⟨_, (o.at 1 rfl).cell rfl, call_then (is_spec toks rb ta tc p d 0 [33] w9 o.rbox (hs4.ext he9)) ?_⟩
          rw [hTt]
          rintro _ w10 ⟨rfl, he10⟩
          refine ⟨_, rfl, ?_, he9.trans he10⟩
          rw [Bool.eq_iff_iff]
          simp only [decide_eq_true_iff]
          exact ⟨fun c => ⟨c.1, .inr c.2⟩, fun c => ⟨c.1, c.2.elim (fun e => absurd ⟨c.1, e⟩ h5') id⟩⟩
      · rintro _ x15 w11 ⟨rfl, he11⟩
        have o := o.ext he11
        have hs11 := hs4.ext he11
        refine cond_intro (fun hc => ?_) fun hc => ?_
        · have hc := of_decide_eq_true hc
          rw [if_pos hc] at h
          have hlt := hlt (by rw [hc.1]; decide)
          have hbel : ∃ x, (∀ w', Box w' rb (rdC ta toks.length tc p d 0) → SlAt w' ta (flat tokC toks) → Calls Try.prog 99 #[.pointer (some ⟨rb, 0, none⟩), .func (.func 94) #[.pointer (some ⟨rb, 0, none⟩)] #[]] w' (Ret (RG toks rb ta tc d (24 - d) w' x))) ∧
              r = (if x.e = 0 then ⟨⟨if t.text = [33] then 4 else 3, [], 0, 1, t.at_⟩ :: x.l, x.at_, 0⟩ else x) := by
            by_cases h24 : d = 24
            · rw [if_pos h24] at h
              cases h
              subst h24
              exact ⟨⟨[], p, 5⟩, fun w' hb' _ => below_deep toks rb ta tc p w' hb', rfl⟩
            · rw [if_neg h24] at h
              obtain ⟨y, hy, hr⟩ := Option.map_eq_some_iff.1 h
              refine ⟨y, fun w' hb' hs' => below_one toks rb ta tc p d (24 - d) (by omega) (by omega) y w' hb' hs' hoff (fun w'' hb'' hs'' => ?_), hr.symm⟩
              have := hr1 _ _ _ hy (by omega) w'' hb'' hs''
              rwa [show 25 - (d + 1) = 24 - d by omega] at this
          obtain ⟨x, hbel, hrx⟩ := hbel
          refine ⟨fun op w' => w11 = w' ∧ op = (if t.text = [33] then 4 else 3), ?_, ?_⟩
          · refine ⟨_, (o.at 0 rfl).cell rfl, cond_intro (fun h7 => ?_) fun h7 => ?_⟩
            · have h7 : t.text = [33] := by simpa using h7
              exact ⟨rfl, by rw [if_pos h7]⟩
            · have h7 : t.text ≠ [33] := by simpa using h7
              exact ⟨rfl, by rw [if_neg h7]⟩
          · rintro _ op _ ⟨rfl, hop⟩
            intro w13 hw13
            have o := o.drew hw13
            have hs13 := hs11.ext (.drew hw13)
            have hrbl := o.rlt
            have fin : ∀ (w' : World) (b4 : Nat) (a : Option Addr) (c : Nat) (l : List Nd), OwnR rb w w' (rdC ta toks.length tc x.at_ d x.e) [(b1, tokC t), (b, [.pointer (some ⟨rb, 0, none⟩)])] →
                Rw w' w.heap.size 39 5 (some ⟨b4, 0, none⟩) 1 1 (ndC ⟨op, [], 0, 1, t.at_⟩) → b1 ≠ b4 → b ≠ b4 → w.heap.size ≤ b4 → SlAt w' a (flat ndC l) → l.length ≤ toks.length + (24 - d) → (x.e = 0 → l = x.l) →
                SemOk Try.prog (Builtin.append_ #[23, 23] 23 #[.slice (some ⟨b4, 0, none⟩) 1 1, .slice a l.length c]) (fun v w'' => ∃ (xA : Option Addr) (xN : Nat) (xC : Nat), v = .slice xA xN xC ∧ RG toks rb ta tc d (25 - d) w r (.slice xA xN xC) w'') w' := by
              intro w' b4 a c l o hrow hn1 hn2 hb4 hsl hle hl
              refine append_sl sl_nd hrow hsl (flat_len ndC_len _) (ndC_one _) (by omega) (by decide) o.le fun a' c' w'' hrow' hg hat => ?_
              have hle0 := o.le
              have o := o.gro hg (fun k hk => by
                cases hk
                refine ⟨hb4, fun q hq => ?_⟩
                simp only [List.mem_cons, List.not_mem_nil, or_false] at hq
                rcases hq with rfl | rfl
                · exact hn1
                · exact hn2)
              refine ⟨_, _, _, rfl, a', _, c', ⟨op, [], 0, 1, t.at_⟩ :: l, rfl, by simp [Nat.add_comm], hrow'.sl, fun k hk => ?_, ?_, fun he => ?_, ?_, o.grown⟩
              · rcases hat with e | e
                · rw [e] at hk; cases hk; exact hb4
                · rw [e] at hk; cases hk; exact hle0
              · have := rw_cap hrow'
                simp only [List.length_cons]
                omega
              · have hx : x.e = 0 := by
                  cases Decidable.em (x.e = 0) with
                  | inl h => exact h
                  | inr h => rw [hrx, if_neg h] at he; exact he
                rw [hrx, if_pos hx, hl hx, hop]
              · have h1 : r.at_ = x.at_ := by rw [hrx]; split <;> rfl
                have h2 : r.e = x.e := by rw [hrx]; split <;> simp_all
                rw [h1, h2]
                exact o.rbox
            refine ⟨fun u => Box u b1 (tokC t) ∧ Box u b [.pointer (some ⟨rb, 0, none⟩)], ⟨o.at 0 rfl, o.at 1 rfl⟩, _, fun u hu => hu.1.cell rfl, _, fun u hu => hu.2.cell rfl, _, fun u hu => hu.2.cell rfl, ?_, ?_⟩
            · intro b4 w14 hb4 hw14
              have hwb : w.heap.size ≤ b4 := by have := o.le; omega
              have hrow := cons_row hb4 hw14 hwb rfl
              have hl1 := (o.at 0 rfl).lt
              have hl2 := (o.at 1 rfl).lt
              have o := o.ext (.alloc hw14)
              refine ⟨⟨o.at 0 rfl, o.at 1 rfl⟩, call_then (hbel w14 o.rbox (hs13.ext (.alloc hw14))) ?_⟩
              rintro _ w15 ⟨a, m, c, l, rfl, rfl, hsl, hfr, hle, hl, hb', hg⟩
              have o := o.call hg hb'
              have hrow := hrow.kept (fun k hk => hg.block k (hrow.lt k hk).2 (fun e => by
                have e1 : b4 = k := Option.some.inj hk
                have e2 : k = rb := Option.some.inj e
                omega))
              exact ⟨_, _, _, rfl, ⟨o.at 0 rfl, o.at 1 rfl⟩, fin w15 b4 a c l o hrow (by omega) (by omega) hwb hsl hle.1 hl⟩
            · refine call_then (hbel w13 o.rbox hs13) ?_
              rintro _ w17 ⟨a, m, c, l, rfl, rfl, hsl, hfr, hle, hl, hb', hg⟩
              have o := o.call hg hb'
              refine ⟨_, _, _, rfl, ⟨o.at 0 rfl, o.at 1 rfl⟩, ?_⟩
              intro b5 w18 hb5 hw18
              have hwb : w.heap.size ≤ b5 := by have := o.le; omega
              have hrow := cons_row hb5 hw18 hwb rfl
              have hl1 := (o.at 0 rfl).lt
              have hl2 := (o.at 1 rfl).lt
              have o := o.ext (.alloc hw18)
              exact ⟨⟨o.at 0 rfl, o.at 1 rfl⟩, fin w18 b5 a c l o hrow (by omega) (by omega) hwb (hsl.ext (.alloc hw18)) hle.1 hl⟩
        · have hc := of_decide_eq_false hc
          rw [if_neg hc] at h
          refine ⟨_, (o.at 1 rfl).cell rfl, call_then (is_spec toks rb ta tc p d 0 [40] w11 o.rbox hs11) ?_⟩
          rw [hTt]
          rintro _ w20 ⟨rfl, he20⟩
          have o := o.ext he20
          have hs20 := hs11.ext he20
          have hrbl := o.rlt
          refine ⟨_, rfl, cond_intro (fun h40 => ?_) fun h40 => ?_⟩
          · have h40 := of_decide_eq_true h40
            rw [if_pos h40] at h
            have hlt := hlt (by rw [h40.1]; decide)
            have hq := (o.at 1 rfl).cell (i := 0) (v := .pointer (some ⟨rb, 0, none⟩)) rfl
            have hqb : b ≠ rb := by have := o.ge 1 rfl; omega
            have hbel : ∃ x, Calls Try.prog 99 #[.pointer (some ⟨rb, 0, none⟩), .func (.func 100) #[] #[.pointer (some ⟨b, 0, none⟩)]] w20 (Ret (RG toks rb ta tc d (24 - d) w20 x)) ∧
                r = (if x.e ≠ 0 then x else if (T toks x.at_).kind = 4 ∧ (T toks x.at_).text = [41] then ⟨x.l, x.at_ + 1, 0⟩ else ⟨[], x.at_, 11⟩) ∧ (x.e = 0 → x.at_ ≤ toks.length) := by
              by_cases h24 : d = 24
              · rw [if_pos h24] at h
                cases h
                subst h24
                exact ⟨⟨[], p, 5⟩, belowF_deep toks _ rb ta tc p w20 o.rbox, rfl, fun h => (by cases h)⟩
              · rw [if_neg h24] at h
                obtain ⟨y, hy, hr⟩ := Option.map_eq_some_iff.1 h
                refine ⟨y, below_from toks ⟨b, 0, none⟩ rb ta tc p d (24 - d) (by omega) (by omega) y w20 o.rbox hs20 hoff hq hqb (fun w'' hb'' hs'' hq'' => ?_), hr.symm, fun he => ((hkl _ _ _ hy).1 he).2.1⟩
                have := hrl _ _ _ hy (by omega) w'' hb'' hs''
                rw [show 25 - (d + 1) = 24 - d by omega] at this
                refine term_reader_one_1_ok _ _ _ ⟨_, hq'', call_then this ?_⟩
                rintro _ w3 ⟨a, m, c, l, rfl, rest⟩
                exact ⟨_, _, _, rfl, a, m, c, l, rfl, rest⟩
            obtain ⟨x, hbel, hrx, hxN⟩ := hbel
            refine ⟨_, hq, call_then hbel ?_⟩
            have hle20 := o.le
            have hrb20 := o.rbox.lt
            rintro _ w21 ⟨a, m, c, l, rfl, rfl, hsl, hfr, hle, hl, hb', hg⟩
            have hs21 : SlAt w21 ta (flat tokC toks) := hs20.grown hg (fun k hk => by cases hk; exact hoff)
            have o := o.call hg hb'
            have hfr' : ∀ k, blk a = some k → w.heap.size ≤ k := fun k hk => Nat.le_trans hle20 (hfr k hk)
            have hoffa := fresh_off hfr hrb20 (flat ndC l)
            refine ⟨_, _, _, rfl, fun w' => ∃ e', OwnR rb w w' (rdC ta toks.length tc x.at_ d e') [(b1, tokC t), (b, [.pointer (some ⟨rb, 0, none⟩)])] ∧ SlAt w' a (flat ndC l) ∧ e' = (if x.e ≠ 0 then x.e else if (T toks x.at_).kind = 4 ∧ (T toks x.at_).text = [41] then 0 else 11), ?_, ?_⟩
            · refine ⟨fun z w' => (z = decide (x.e = 0 ∧ ¬ ((T toks x.at_).kind = 4 ∧ (T toks x.at_).text = [41]))) ∧ Ext w21 w', ?_, ?_⟩
              · refine ⟨_, (o.at 1 rfl).cell rfl, _, o.rbox.cell rfl, cond_intro (fun he => ?_) fun he => ?_⟩
                · have he : x.e = 0 := by simpa using he
                  rw [he] at o
                  refine ⟨_, (o.at 1 rfl).cell rfl, call_then (is_spec toks rb ta tc x.at_ d 0 [41] w21 o.rbox hs21) ?_⟩
                  rintro _ w22 ⟨rfl, he22⟩
                  refine ⟨_, rfl, ?_, he22⟩
                  rw [← decide_not]
                  exact decide_eq_decide.2 ⟨fun c => ⟨he, c⟩, fun c => c.2⟩
                · have he : x.e ≠ 0 := by simpa using he
                  exact ⟨(decide_eq_false (fun c => he c.1)).symm, Ext.refl _⟩
              · rintro _ z w23 ⟨rfl, he23⟩
                have o := o.ext he23
                have hsl := hsl.ext he23
                refine cond_intro (fun hz => ?_) fun hz => ?_
                · have hz := of_decide_eq_true hz
                  refine ⟨_, (o.at 1 rfl).cell rfl, o.wrR (i := 3) rfl, fun w24 hw24 => ?_⟩
                  have o := o.setR hw24
                  exact ⟨11, o, hsl.set hw24 hoffa, by rw [if_neg (by simpa using hz.1), if_neg hz.2]⟩
                · have hz := of_decide_eq_false hz
                  refine ⟨x.e, o, hsl, ?_⟩
                  split
                  · rfl
                  · rename_i hx
                    have hx : x.e = 0 := by simpa using hx
                    split
                    · exact hx
                    · rename_i hy; exact absurd ⟨hx, hy⟩ hz
            · rintro _ w25 ⟨e', o, hsl, he'⟩
              refine ⟨_, (o.at 1 rfl).cell rfl, _, o.rbox.cell rfl, cond_intro (fun he0 => ?_) fun he0 => ?_⟩
              · have he0 : e' = 0 := by simpa using he0
                have hx : x.e = 0 := by
                  cases Decidable.em (x.e = 0) with
                  | inl h => exact h
                  | inr h => rw [if_pos h] at he'; rw [he0] at he'; exact he'.symm
                have hx41 : (T toks x.at_).kind = 4 ∧ (T toks x.at_).text = [41] := by
                  cases Decidable.em ((T toks x.at_).kind = 4 ∧ (T toks x.at_).text = [41]) with
                  | inl h => exact h
                  | inr h => rw [if_neg (by simpa using hx), if_neg h, he0] at he'; cases he'
                rw [if_neg (by simpa using hx), if_pos hx41] at hrx
                have hxN := hxN hx
                refine ⟨_, (o.at 1 rfl).cell rfl, _, o.rbox.cell rfl, o.wrR (i := 1) rfl, fun w26 hw26 => ?_⟩
                have o := o.setR hw26
                rw [wrap_in (by omega) (by omega)] at o
                refine ⟨a, _, c, l, rfl, rfl, hsl.set hw26 hoffa, hfr', by omega, fun _ => by rw [hrx, hl hx], ?_, o.grown⟩
                rw [hrx, he0] at *
                exact o.rbox
              · have he0 : e' ≠ 0 := by simpa using he0
                refine ⟨a, _, c, l, rfl, rfl, hsl, hfr', by omega, fun he => ?_, ?_, o.grown⟩
                · exfalso
                  apply he0
                  rw [hrx] at he
                  rw [he']
                  split at he
                  · rename_i c; exact absurd he c
                  · rename_i c
                    rw [if_neg c]
                    split at he
                    · rename_i c; rw [if_pos c]
                    · cases he
                · have h1 : r.at_ = x.at_ := by
                    rw [hrx]
                    split
                    · rfl
                    · rename_i c
                      rw [if_neg c] at he'
                      split
                      · rename_i c; rw [if_pos c] at he'; exact absurd he' he0
                      · rfl
                  have h2 : r.e = e' := by
                    rw [hrx, he']
                    split
                    · rfl
                    · split <;> rfl
                  rw [h1, h2]
                  exact o.rbox
          · have h40 := of_decide_eq_false h40
            rw [if_neg h40] at h
            cases h
            refine ⟨_, (o.at 1 rfl).cell rfl, o.wrR (i := 3) rfl, fun w27 hw27 => ?_⟩
            have o := o.setR hw27
            exact ⟨none, 0, 0, [], rfl, rfl, rfl, fun k h => (by cases h), by simp, fun _ => rfl, o.rbox, o.grown⟩
end Go.Proofs.Ytdbdkdmgfiiljaa
namespace Go.Proofs.Ytdbdkdmgfiiljaa
open Go.Vc Go.Tk Go.Tm
theorem map_grown {w w' : World} {b rb : Nat} {kvs : List (List UInt8 × Value)} (h : MapAt w b kvs) (hg : w.grownBy w' (some rb)) (hne : b ≠ rb) : MapAt w' b kvs := by
  unfold MapAt at *
  rw [hg.block b (Array.getElem?_eq_some_iff.1 h).1 (fun e => hne (Option.some.inj e))]
  exact h
theorem map_grown' {w w' : World} {b : Nat} {row : Option Nat} {kvs : List (List UInt8 × Value)} (h : MapAt w b kvs) (hg : w.grownBy w' row) (hne : ∀ k, row = some k → b ≠ k) : MapAt w' b kvs := by
  unfold MapAt at *
  rw [hg.block b (Array.getElem?_eq_some_iff.1 h).1 (fun e => hne b e.symm rfl)]
  exact h
theorem zero_int (w : World) : (zeroValue 3).run Try.prog w = .ok (.int .i64 0) w := by kernel_rfl
set_option maxHeartbeats 1000000 in
theorem pFrom_step (toks : List Tok) (hN : toks.length < 2 ^ 30) (rb : Nat) (ta : Option Addr) (tc : Nat) (hoff : Off ta (flat tokC toks) rb) (f : Nat)
    (hone : ∀ f1 p d r, f1 ≤ f → P toks f1 (.one p d) = some r → d ≤ 24 → ∀ w, Box w rb (rdC ta toks.length tc p d 0) → SlAt w ta (flat tokC toks) → Calls Try.prog 94 #[.pointer (some ⟨rb, 0, none⟩)] w (Ret (RG toks rb ta tc d (25 - d) w r)))
    (hlev : ∀ f1 (n : Nat) p d r, f1 ≤ f → 1 ≤ n → n ≤ 6 → P toks f1 (.lev n p d) = some r → d ≤ 24 → ∀ w, Box w rb (rdC ta toks.length tc p d 0) → SlAt w ta (flat tokC toks) → Calls Try.prog 90 #[.pointer (some ⟨rb, 0, none⟩), .int .i64 n] w (Ret (RG toks rb ta tc d (25 - d) w r)))
    (n p d : Nat) (r : Res) (hn1 : 1 ≤ n) (hn6 : n ≤ 6) (h : P toks (f + 1) (.lev n p d) = some r) (hd : d ≤ 24) (w : World) (hr : Box w rb (rdC ta toks.length tc p d 0)) (hs : SlAt w ta (flat tokC toks)) :
    Calls Try.prog 90 #[.pointer (some ⟨rb, 0, none⟩), .int .i64 n] w (Ret (RG toks rb ta tc d (25 - d) w r)) := by
  refine term_reader_from_ok _ _ _ _ (call_then (binary_spec w) ?_)
  rintro _ w1 ⟨b0, rfl, hm, hb0, he1⟩
  have o := (OwnR.start hr).ext he1
  have hs1 := hs.ext he1
  have hrl := hr.lt
  have hb0r : b0 ≠ rb := by omega
  rw [P] at h
  obtain ⟨x0, hx0, hr0⟩ := Option.bind_eq_some_iff.1 h
  refine ⟨_, rfl, call_then (hone _ _ _ _ (Nat.le_refl _) hx0 hd w1 o.rbox hs1) ?_⟩
  have hle1 := o.le
  rintro _ w2 ⟨a0, m0, c0, l0, rfl, rfl, hsl, hfr, hle, hl, hb', hg⟩
  have o := o.call hg hb'
  have hm := map_grown hm hg hb0r
  have hok0 := (P_ok toks f).1 _ _ _ hx0
  refine ⟨_, _, _, rfl, fun lA lN lC most w3 => ∃ f' x m l, f' ≤ f ∧ 1 ≤ f ∧ P toks f' (.loop n m d x) = some r ∧ most = (m : Nat) ∧ m ≤ 6 ∧ lN = List.length l ∧ SlAt w3 lA (flat ndC l) ∧ (∀ k, blk lA = some k → w.heap.size ≤ k) ∧ (l.length ≤ 2 ^ 32 ∧ l.length ≤ lC) ∧
      (x.e = 0 → l = x.l ∧ x.at_ ≤ toks.length ∧ x.l.length ≤ x.at_) ∧ MapAt w3 b0 binKvs ∧ OwnR rb w w3 (rdC ta toks.length tc x.at_ d x.e) [],
    fun _ _ _ _ w3 => match w3.cell? ⟨rb, 1, none⟩, w3.cell? ⟨rb, 3, none⟩ with | some (.int _ i), some (.int _ e) => if e = 0 then toks.length + 1 - i.toNat else 0 | _, _ => 0, ?_, ?_⟩
  · refine ⟨f, x0, 6, l0, Nat.le_refl _, ?_, hr0, rfl, by omega, rfl, hsl, fun k hk => Nat.le_trans hle1 (hfr k hk), by omega, fun he => ⟨hl he, ?_⟩, hm, o⟩
    · cases f with
      | zero => simp [P] at hx0
      | succ f => omega
    · have := hok0.1 he; omega
  · clear hsl hfr hm o hok0 hr0 hx0 hb' hg hl hle
    rintro _ lA lN lC most w3 ⟨f', x, m, l, hf', hf1, hr, rfl, hm6, rfl, hsl, hfr, hll, hxo, hm, o⟩
    obtain ⟨g, rfl⟩ : ∃ g, f' = g + 1 := by
      cases f' with
      | zero => simp [P] at hr
      | succ g => exact ⟨g, rfl⟩
    rw [P] at hr
    have hs3 : SlAt w3 ta (flat tokC toks) := hs.grown o.grown (fun k hk => by cases hk; exact hoff)
    have hmes : ∀ w' (y : Res), Box w' rb (rdC ta toks.length tc y.at_ d y.e) → (match w'.cell? ⟨rb, 1, none⟩, w'.cell? ⟨rb, 3, none⟩ with | some (.int _ i), some (.int _ e) => if e = 0 then toks.length + 1 - i.toNat else 0 | _, _ => 0) = if y.e = 0 then toks.length + 1 - y.at_ else 0 := by
      intro w' y hb
      have e1 : w'.cell? ⟨rb, 1, none⟩ = some (.int .i64 (y.at_ : Int)) := hb.cell rfl
      have e2 : w'.cell? ⟨rb, 3, none⟩ = some (.int .i64 y.e) := hb.cell rfl
      simp only [e1, e2, Int.toNat_natCast]
    have hm3 := hmes w3 x o.rbox
    refine ⟨_, o.rbox.cell rfl, cond_intro (fun he => ?_) fun he => ?_⟩
    · have he : x.e = 0 := by simpa using he
      obtain ⟨rfl, hxN, hxl⟩ := hxo he
      rw [if_neg (by simpa using he)] at hr
      rw [if_pos he] at hm3
      have hok := o.rbox
      rw [he] at o
      refine call_then (now_spec toks rb ta tc x.at_ d 0 w3 o.rbox hs3) ?_
      rintro _ w4 ⟨rfl, he4⟩
      have o := o.ext he4
      have hsl := hsl.ext he4
      have hm := hm.ext he4
      have hs4 := hs3.ext he4
      have hmine : mine toks x.at_ = if (T toks x.at_).kind = 4 then levO (opOf (T toks x.at_).text) else 0 := rfl
      have hjoin : ∀ y, join toks x y = ⟨⟨opOf (T toks x.at_).text, [], 0, 2, (T toks x.at_).at_⟩ :: x.l ++ y.l, y.at_, 0⟩ := fun _ => rfl
      have hmlt := mine_lt (toks := toks) (p := x.at_)
      have hm5 := mine_le toks x.at_
      generalize T toks x.at_ = t at hmine hjoin ⊢
      refine ⟨_, _, _, _, rfl, ?_⟩
      intro b w5 hb hw5
      have hoffb := hsl.off (b := b) (by omega)
      have hofft := hs4.off (b := b) (by omega)
      have hb0b : b0 ≠ b := by have := (Array.getElem?_eq_some_iff.1 hm).1; omega
      have hsl := hsl.ext (.alloc hw5)
      have hs5 := hs4.ext (.alloc hw5)
      have hm := hm.ext (.alloc hw5)
      have o := o.alloc hb hw5
      refine ⟨o.wr 0 rfl rfl, fun w6 hw6 => ?_⟩
      have o : OwnR rb w w6 (rdC ta toks.length tc x.at_ d 0) [(b, tokC t)] := o.sets 0 hw6 rfl
      have hsl := hsl.sets hw6 hoffb
      have hs6 := hs5.sets hw6 hofft
      have hm : MapAt w6 b0 binKvs := by
        unfold MapAt at *
        rw [hw6]
        unfold setCells
        rw [heap_sets (fun e => hb0b e.symm)]
        exact hm
      refine ⟨_, (o.at 0 rfl).cell rfl, hm.get map_ty str_ty (zero_int w6) t.text ?_⟩
      rw [get_bin]
      refine ⟨_, rfl, call_then (Level_spec (opOf t.text) w6) ?_⟩
      rintro _ _ ⟨rfl, rfl⟩
      refine ⟨_, rfl, fun z w' => w6 = w' ∧ z = decide (mine toks x.at_ = 0 ∨ mine toks x.at_ < n ∨ m < mine toks x.at_), ?_, ?_⟩
      · refine ⟨_, (o.at 0 rfl).cell rfl, cond_intro (fun h4 => ?_) fun h4 => ?_⟩
        · have h4 : t.kind ≠ 4 := by simpa using h4
          exact ⟨rfl, by rw [hmine, if_neg h4]; simp⟩
        · have h4 : t.kind = 4 := by simpa using h4
          rw [if_pos h4] at hmine
          rw [hmine]
          refine cond_intro (fun h0 => ?_) fun h0 => ?_
          · have h0 : levO (opOf t.text) = 0 := by simpa using h0
            exact ⟨rfl, (decide_eq_true (.inl h0)).symm⟩
          · have h0 : levO (opOf t.text) ≠ 0 := by simpa using h0
            refine cond_intro (fun h5 => ?_) fun h5 => ?_
            · have h5 : levO (opOf t.text) < n := by simpa using h5
              exact ⟨rfl, (decide_eq_true (.inr (.inl h5))).symm⟩
            · have h5 : ¬ levO (opOf t.text) < n := by simpa using h5
              refine ⟨rfl, decide_eq_decide.2 ⟨fun c => .inr (.inr (by omega)), fun c => by omega⟩⟩
      · rintro _ z _ ⟨rfl, rfl⟩
        refine cond_intro (fun hc => ?_) fun hc => ?_
        · have hc := of_decide_eq_true hc
          rw [if_pos hc] at hr
          cases hr
          refine ⟨_, _, _, _, rfl, rfl, hsl, hfr, by omega, fun _ => rfl, ?_, o.grown⟩
          rw [he]; exact o.rbox
        · have hc := of_decide_eq_false hc
          rw [if_neg hc] at hr
          have hlt := hmlt (by omega)
          have h4 : t.kind = 4 := by
            cases Decidable.em (t.kind = 4) with
            | inl h => exact h
            | inr h => rw [if_neg h] at hmine; omega
          rw [if_pos h4] at hmine
          rw [← hmine]
          obtain ⟨y, hy, hr⟩ := Option.bind_eq_some_iff.1 hr
          have hyk := (P_ok toks g).2.1 _ _ _ _ hy
          have hx1 : IntKind.i64.wrap ((x.at_ : Int) + 1) = ((x.at_ + 1 : Nat) : Int) := by rw [wrap_in (by omega) (by omega)]; omega
          have hmi1 : IntKind.i64.wrap ((mine toks x.at_ : Int) + 1) = ((mine toks x.at_ + 1 : Nat) : Int) := by rw [wrap_in (by omega) (by omega)]; omega
          refine ⟨_, o.rbox.cell rfl, o.wrR (i := 1) rfl, fun w10 hw10 => ?_⟩
          have hoffr : Off lA (flat ndC x.l) rb := fresh_off hfr hrl _
          have hsl := hsl.set hw10 hoffr
          have hs10 := hs6.set hw10 hoff
          have hm := map_grown hm (grownBy_set hw10) hb0r
          have o := o.setR hw10
          rw [hx1] at o
          rw [hmi1]
          have hoffr1 : ∀ (l1 : List Nd) (a1 : Option Addr), (∀ k, blk a1 = some k → w10.heap.size ≤ k) → Off a1 (flat ndC l1) rb := fun l1 a1 h => fresh_off h (by have := o.rbox.lt; omega) _
          refine call_then (hlev g _ _ _ _ (by omega) (by omega) (by omega) hy hd w10 o.rbox hs10) ?_
          have hle10 := o.le
          rintro _ w11 ⟨a1, m1, c1, l1, rfl, rfl, hsl1, hfr1, hlel1, hl1, hb1', hg1⟩
          have hsl : SlAt w11 lA (flat ndC x.l) := hsl.grown hg1 (fun k hk => by cases hk; exact hoffr)
          have hm := map_grown hm hg1 hb0r
          have o := o.call hg1 hb1'
          refine ⟨_, _, _, rfl, _, (o.at 0 rfl).cell rfl, ?_⟩
          intro b1 w12 hb1 hw12
          have hwb : w.heap.size ≤ b1 := by have := o.le; omega
          have hrow := cons_row hb1 hw12 hwb rfl
          have hbl := (o.at 0 rfl).lt
          have hm0 := (Array.getElem?_eq_some_iff.1 hm).1
          have hrl1 := o.rbox.lt
          have hoff1 : Off a1 (flat ndC l1) b1 := hsl1.off (by omega)
          have hsl1a : ∀ k, blk a1 = some k → flat ndC l1 ≠ [] → k < w11.heap.size := fun k hk hne => hsl1.lt hk hne
          have hsl := hsl.ext (.alloc hw12)
          have hsl1 := hsl1.ext (.alloc hw12)
          have hm := hm.ext (.alloc hw12)
          have o := o.ext (.alloc hw12)
          have hsz12 := alloc_size hw12
          refine append_sl sl_nd hrow hsl (flat_len ndC_len _) (ndC_one _) (by omega) (by decide) o.le fun a' c' w13 hrow' hg' hat => ?_
          have hsl1 := hsl1.grown hg' (fun k hk => by cases hk; exact hoff1)
          have hm := map_grown' hm hg' (fun k hk => by cases hk; show b0 ≠ b1; omega)
          have o := o.gro hg' (fun k hk => by
            cases hk
            refine ⟨hwb, fun q hq => ?_⟩
            simp only [List.mem_cons, List.not_mem_nil, or_false] at hq
            subst hq
            show b ≠ b1
            omega)
          have hsz13 := hg'.size
          have hat' : ∀ k, blk a' = some k → k = b1 ∨ k = w12.heap.size := fun k hk => by
            rcases hat with e | e
            · rw [e] at hk; cases hk; exact .inl rfl
            · rw [e] at hk; cases hk; exact .inr rfl
          have hoff2 : ∀ k, blk a' = some k → Off a1 (flat ndC l1) k := fun k hk => by
            rcases hat' k hk with rfl | rfl
            · exact hoff1
            · rcases hoff1 with h | h
              · exact .inl h
              · by_cases hne : flat ndC l1 = []
                · exact .inl hne
                · refine .inr fun e => ?_
                  have := hsl1a _ e hne
                  omega
          refine ⟨_, _, _, rfl, append_sl sl_nd hrow' hsl1 (flat_len ndC_len _) (ndC_one _) (by omega) (by decide) o.le fun a'' c'' w14 hrow'' hg'' hat'' => ?_⟩
          have hm := map_grown' hm hg'' (fun k hk => by rcases hat' k hk with rfl | rfl <;> omega)
          have o := o.gro hg'' (fun k hk => by
            refine ⟨by rcases hat' k hk with rfl | rfl <;> omega, fun q hq => ?_⟩
            simp only [List.mem_cons, List.not_mem_nil, or_false] at hq
            subst hq
            show b ≠ k
            rcases hat' k hk with rfl | rfl <;> omega)
          refine ⟨_, _, _, rfl, ?_⟩
          have hfr'' : ∀ k, blk a'' = some k → w.heap.size ≤ k := fun k hk => by
            rcases hat'' with e | e
            · rw [e] at hk; rcases hat' k hk with rfl | rfl <;> omega
            · rw [e] at hk; cases hk; omega
          have hcap'' := rw_cap hrow''
          have fin : ∀ mo : Nat, mo = (if mine toks x.at_ = 3 then 2 else mine toks x.at_) → (∃ f' z m l, f' ≤ f ∧ 1 ≤ f ∧ P toks f' (.loop n m d z) = some r ∧ (mo : Int) = (m : Nat) ∧ m ≤ 6 ∧ 1 + x.l.length + l1.length = List.length l ∧ SlAt w14 a'' (flat ndC l) ∧ (∀ k, blk a'' = some k → w.heap.size ≤ k) ∧ (l.length ≤ 2 ^ 32 ∧ l.length ≤ c'') ∧
              (z.e = 0 → l = z.l ∧ z.at_ ≤ toks.length ∧ z.l.length ≤ z.at_) ∧ MapAt w14 b0 binKvs ∧ OwnR rb w w14 (rdC ta toks.length tc z.at_ d z.e) []) ∧ (match w14.cell? ⟨rb, 1, none⟩, w14.cell? ⟨rb, 3, none⟩ with | some (.int _ i), some (.int _ e) => if e = 0 then toks.length + 1 - i.toNat else 0 | _, _ => 0) < toks.length + 1 - x.at_ := by
            intro mo hmo
            have o' : OwnR rb w w14 (rdC ta toks.length tc y.at_ d y.e) [] := ⟨o.grown, o.rlt, o.rbox, fun _ h => (by cases h), List.Pairwise.nil⟩
            rw [hmes w14 y o'.rbox]
            by_cases hye : y.e = 0
            · rw [if_neg (by simpa using hye)] at hr
              have hyk := hyk.1 hye
              rw [if_pos hye]
              refine ⟨⟨g, join toks x y, mo, ⟨opOf t.text, [], 0, 2, t.at_⟩ :: x.l ++ l1, by omega, hf1, by rw [hmo]; exact hr, rfl, by rw [hmo]; split <;> omega, by simp; omega, ?_, hfr'', by simp; omega, fun _ => ?_, hm, ?_⟩, by omega⟩
              · have := hrow''.sl
                rwa [show flat ndC (⟨opOf t.text, [], 0, 2, t.at_⟩ :: x.l ++ l1) = ndC ⟨opOf t.text, [], 0, 2, t.at_⟩ ++ flat ndC x.l ++ flat ndC l1 by simp [flat]]
              · rw [hjoin, hl1 hye]
                refine ⟨rfl, hyk.2.1, ?_⟩
                simp only [List.cons_append, List.length_cons, List.length_append]
                omega
              · rw [hjoin]; simp only; rw [hye] at o'; exact o'
            · rw [if_pos hye] at hr
              have hr := Option.some.inj hr
              subst hr
              rw [if_neg hye]
              refine ⟨⟨1, y, mo, ⟨opOf t.text, [], 0, 2, t.at_⟩ :: x.l ++ l1, hf1, hf1, by rw [P, if_pos hye], rfl, by rw [hmo]; split <;> omega, by simp; omega, ?_, hfr'', by simp; omega, fun h => absurd h hye, hm, o'⟩, by omega⟩
              have := hrow''.sl
              rwa [show flat ndC (⟨opOf t.text, [], 0, 2, t.at_⟩ :: x.l ++ l1) = ndC ⟨opOf t.text, [], 0, 2, t.at_⟩ ++ flat ndC x.l ++ flat ndC l1 by simp [flat]]
          rw [← hm3] at fin
          refine cond_intro (fun h3 => ?_) fun h3 => ?_
          · have h3 : mine toks x.at_ = 3 := by have : (mine toks x.at_ : Int) = 3 := (by simpa using h3); omega
            exact fin 2 (by rw [if_pos h3])
          · have h3 : mine toks x.at_ ≠ 3 := by have : ¬ (mine toks x.at_ : Int) = 3 := (by simpa using h3); omega
            exact fin (mine toks x.at_) (by rw [if_neg h3])
    · have he : x.e ≠ 0 := by simpa using he
      rw [if_pos he] at hr
      cases hr
      exact ⟨none, 0, 0, [], rfl, rfl, rfl, fun k h => (by cases h), by simp, fun h => absurd h he, o.rbox, o.grown⟩
end Go.Proofs.Ytdbdkdmgfiiljaa
namespace Go.Proofs.Ytdbdkdmgfiiljaa
open Go.Vc Go.Tk Go.Tm
theorem pWalk (toks : List Tok) (hN : toks.length < 2 ^ 30) (rb : Nat) (ta : Option Addr) (tc : Nat) (hoff : Off ta (flat tokC toks) rb) : ∀ f, ∀ f1, f1 ≤ f →
    (∀ p d r, P toks f1 (.one p d) = some r → d ≤ 24 → ∀ w, Box w rb (rdC ta toks.length tc p d 0) → SlAt w ta (flat tokC toks) → Calls Try.prog 94 #[.pointer (some ⟨rb, 0, none⟩)] w (Ret (RG toks rb ta tc d (25 - d) w r))) ∧
    (∀ (n : Nat) p d r, 1 ≤ n → n ≤ 6 → P toks f1 (.lev n p d) = some r → d ≤ 24 → ∀ w, Box w rb (rdC ta toks.length tc p d 0) → SlAt w ta (flat tokC toks) → Calls Try.prog 90 #[.pointer (some ⟨rb, 0, none⟩), .int .i64 n] w (Ret (RG toks rb ta tc d (25 - d) w r))) := by
  intro f
  induction f with
  | zero =>
    intro f1 hf
    obtain rfl : f1 = 0 := by omega
    exact ⟨fun _ _ _ h => by simp [P] at h, fun _ _ _ _ _ _ h => by simp [P] at h⟩
  | succ f ih =>
    intro f1 hf
    by_cases hle : f1 ≤ f
    · exact ih f1 hle
    · obtain rfl : f1 = f + 1 := by omega
      refine ⟨fun p d r h hd w hr hs => ?_, fun n p d r h1 h6 h hd w hr hs => pFrom_step toks hN rb ta tc hoff f (fun f1 p d r hf => (ih f1 hf).1 p d r) (fun f1 n p d r hf => (ih f1 hf).2 n p d r) n p d r h1 h6 h hd w hr hs⟩
      simp only [P] at h
      have ih := ih f (Nat.le_refl _)
      exact pOne_step toks hN rb ta tc hoff _ _ ih.1 (fun p d r h hd w hr hs => ih.2 1 p d r (by omega) (by omega) h hd w hr hs) (fun p d r h => (P_ok toks f).2.1 1 p d r h) p d r h hd w hr hs
def parseOf (toks : List Tok) (at_ : Int) : Res := if at_ < 0 then ⟨[], 0, 1⟩ else (P toks (3 * (toks.length - at_.toNat) + 2) (.lev 1 at_.toNat 0)).getD ⟨[], 0, 0⟩
theorem parseOf_pos (toks : List Tok) (at_ : Int) (h : ¬ at_ < 0) : P toks (3 * (toks.length - at_.toNat) + 2) (.lev 1 at_.toNat 0) = some (parseOf toks at_) := by
  obtain ⟨r, hr⟩ := (P_total toks _).2.1 1 at_.toNat 0 (Nat.le_refl _)
  unfold parseOf
  rw [if_neg h, hr]
  rfl
theorem parseOf_nil (toks : List Tok) (at_ : Int) (h : (parseOf toks at_).e ≠ 0) : (parseOf toks at_).l = [] := by
  by_cases h0 : at_ < 0
  · unfold parseOf; rw [if_pos h0]
  · exact ((P_ok toks _).2.1 _ _ _ _ (parseOf_pos toks at_ h0)).2 h
theorem Parse_F (toks : List Tok) (hN : toks.length < 2 ^ 30) (ta : Option Addr) (tc : Nat) (at_ : Int) (w : World) (hs : SlAt w ta (flat tokC toks)) :
    Calls Try.prog 84 #[.slice ta toks.length tc, .int .i64 at_] w (Ret fun v w' => ∃ a c, v = .tuple #[.slice a (parseOf toks at_).l.length c, .int .i64 (parseOf toks at_).at_, .int .i64 (parseOf toks at_).e] ∧ ((∀ k, blk a = some k → w.heap.size ≤ k) ∧ (parseOf toks at_).l.length ≤ c) ∧ SlAt w' a (flat ndC (parseOf toks at_).l) ∧ Ext w w') := by
  refine term_Parse_ok _ _ _ _ _ _ (cond_intro (fun h0 => ?_) fun h0 => ?_)
  · have h0 : at_ < 0 := by simpa using h0
    unfold parseOf
    rw [if_pos h0]
    exact ⟨none, 0, rfl, ⟨none_fresh, Nat.le_refl _⟩, rfl, Ext.refl _⟩
  · have h0 : ¬ at_ < 0 := by simpa using h0
    have hP := parseOf_pos toks at_ h0
    have hnil := parseOf_nil toks at_
    generalize parseOf toks at_ = r at hP hnil ⊢
    obtain ⟨p, rfl⟩ : ∃ p : Nat, at_ = p := ⟨at_.toNat, by omega⟩
    intro b w1 hb hw1
    have o := (Own.start w).alloc hb hw1
    have hoff := hs.off (b := b) (by omega)
    have e1 := Ext.alloc hw1
    refine call_then ((pWalk toks hN b ta tc hoff _ _ (Nat.le_refl _)).2 1 p 0 r (by omega) (by omega) hP (by omega) w1 (o.at 0 rfl) (hs.ext e1)) ?_
    rintro _ w2 ⟨a, m, c, l, rfl, rfl, hsl, hfr, hle, hl, hb', hg⟩
    have ext : Ext w w2 := by
      have hsz := e1.size
      exact ⟨hg.os.trans e1.os, hg.tape.trans e1.tape, hg.output.trans e1.output, Nat.le_trans e1.size hg.size, fun k hk => (hg.block k (by omega) (fun h => by cases h; omega)).trans (Go.RowKit.Below.block e1 k hk)⟩
    refine ⟨_, _, _, rfl, _, hb'.cell rfl, cond_intro (fun he => ?_) fun he => ?_⟩
    · have he : r.e ≠ 0 := by simpa using he
      intro w3 hw3
      have hb' := hb'.ext (.drew hw3)
      refine ⟨_, hb'.cell rfl, _, hb'.cell rfl, none, 0, ?_, ⟨none_fresh, by rw [hnil he]; exact Nat.le_refl _⟩, by rw [hnil he]; rfl, ext.trans (.drew hw3)⟩
      rw [hnil he]; rfl
    · have he : r.e = 0 := by simpa using he
      intro w3 hw3
      have hb' := hb'.ext (.drew hw3)
      refine ⟨_, hb'.cell rfl, a, c, ?_, ⟨fun k hk => Nat.le_trans e1.size (hfr k hk), by rw [← hl he]; exact hle.2⟩, ?_, ext.trans (.drew hw3)⟩
      · rw [he, ← hl he]
      · rw [← hl he]; exact hsl.ext (.drew hw3)
end Go.Proofs.Ytdbdkdmgfiiljaa
namespace Go.Proofs.Ytdbdkdmgfiiljaa
open Go.Vc Go.Tk
def okAt (s : List UInt8) (k : Nat) : Bool := letC (s.getD k 0) || (decide (k ≠ 0) && digC (s.getD k 0))
theorem nameS_of (s : List UInt8) : nameS s = (decide (s.length ≤ 16) && (decide (s ≠ []) && (decide (∀ k, k < s.length → okAt s k = true) && !decide (s ∈ words)))) := by
  cases s with
  | nil => rfl
  | cons c l =>
    rw [nameS_cons]
    have hall : (letC c && (c :: l).all wordC) = decide (∀ k, k < (c :: l).length → okAt (c :: l) k = true) := by
      rw [Bool.eq_iff_iff]
      simp only [Bool.and_eq_true, decide_eq_true_iff, List.all_eq_true]
      constructor
      · rintro ⟨h0, h1⟩ k hk
        cases k with
        | zero => simp [okAt, h0]
        | succ k =>
          have : wordC ((c :: l)[k+1]) = true := h1 _ (List.getElem_mem hk)
          rw [← getD_eq _ _ hk] at this
          simpa [okAt, wordC, wordN, letC, digC] using this
      · intro h
        refine ⟨by simpa [okAt] using h 0 (by simp), fun x hx => ?_⟩
        obtain ⟨k, hk, rfl⟩ := List.getElem_of_mem hx
        have := h k hk
        rw [← getD_eq _ _ hk]
        simp only [okAt, Bool.or_eq_true, Bool.and_eq_true] at this
        simp only [wordC, wordN, Bool.or_eq_true]
        rcases this with h | ⟨_, h⟩
        · exact .inl h
        · exact .inr h
    rw [← hall]
    simp [Bool.and_assoc]
theorem rName_spec (s : List UInt8) (hs : s.length < 2 ^ 40) (w : World) : Calls Try.prog 61 #[.string (mkS s)] w (Ret fun v w' => v = .bool (nameS s) ∧ Ext w w') := by
  refine R08_Name_ok _ _ _ ?_
  refine ⟨fun i w' => ∃ k : Nat, i = k ∧ k ≤ s.length ∧ (∀ j, j < k → okAt s j = true) ∧ w = w', fun i _ => s.length - i.toNat, ⟨0, rfl, Nat.zero_le _, fun _ h => absurd h (by omega), rfl⟩, ?_⟩
  rintro _ _ _ ⟨k, rfl, hk, hall, rfl⟩
  refine cond_intro (fun hlt => ?_) fun hge => ?_
  · have hlt : k < s.length := by simpa using hlt
    refine ⟨fun x w4 => x = (!okAt s k) ∧ w = w4, ⟨⟨by omega, by omega⟩, ?_⟩, ?_⟩
    · rw [Int.toNat_natCast]
      refine call_then (rLetter_spec _ (UInt8.toNat_lt _) w) ?_
      rintro _ _ ⟨rfl, rfl⟩
      refine ⟨_, rfl, cond_intro (fun h1 => ?_) fun h1 => ?_⟩
      · have h1 : letC (s.getD k 0) = false := by simpa [letC] using h1
        refine cond_intro (fun h0 => ?_) fun h0 => ?_
        · have : k = 0 := by simp at h0; omega
          subst this
          exact ⟨by unfold okAt; rw [h1]; simp, rfl⟩
        · have h0 : k ≠ 0 := by simp at h0; omega
          refine ⟨⟨by omega, by omega⟩, call_then (rDigit_spec _ w) ?_⟩
          rintro _ _ ⟨rfl, rfl⟩
          exact ⟨_, rfl, by unfold okAt; rw [h1]; simp [h0, digC], rfl⟩
      · have h1 : letC (s.getD k 0) = true := by simpa [letC] using h1
        exact ⟨by unfold okAt; rw [h1]; simp, rfl⟩
    · rintro _ _ _ ⟨rfl, rfl⟩
      refine cond_intro (fun hb => ?_) fun hb => ?_
      · have hb : okAt s k = false := by simpa using hb
        refine ⟨?_, Ext.refl _⟩
        rw [nameS_of, decide_eq_false (p := ∀ k, k < s.length → okAt s k = true) (fun h => by have := h k hlt; rw [hb] at this; cases this)]
        simp
      · have hb : okAt s k = true := by simpa using hb
        rw [wrap_in (by omega) (by omega)]
        refine ⟨⟨k + 1, by omega, hlt, fun j hj => ?_, rfl⟩, by dsimp only; omega⟩
        rcases Nat.lt_or_ge j k with h | h
        · exact hall j h
        · rw [show j = k by omega]; exact hb
  · have hge : k = s.length := by simp at hge; omega
    subst hge
    refine cond_intro (fun h1 => ?_) fun h1 => ?_
    · have h1 : s ≠ [] := by intro e; subst e; simp at h1
      refine cond_intro (fun h2 => ?_) fun h2 => ?_
      · have h2 : s.length ≤ 16 := by simp at h2; omega
        refine call_then (rWords_spec w) ?_
        rintro _ w2 ⟨b, rfl, hc, he⟩
        refine ⟨_, _, _, rfl, call_then (rIn_spec wordsR (by decide) _ _ s w2 hc) ?_⟩
        rintro _ _ ⟨rfl, rfl⟩
        refine ⟨_, rfl, ?_, he⟩
        rw [nameS_of, wordsR_iff, decide_eq_true h2, decide_eq_true h1, decide_eq_true hall]
        simp
      · have h2 : ¬ s.length ≤ 16 := by simp at h2; omega
        exact ⟨by rw [nameS_of, decide_eq_false h2]; simp, Ext.refl _⟩
    · have h1 : s = [] := by simp at h1; exact List.length_eq_zero_iff.1 (by omega)
      subst h1
      exact ⟨rfl, Ext.refl _⟩
end Go.Proofs.Ytdbdkdmgfiiljaa
