/- The rest of explore.Key, behind its first loop. -/
import Derived.Test.YtfcemnnlmlggoaaGreatRows
import Derived.Test.YtfcemnnlmlggoaaGreatVtX
namespace Go.Proofs.YtfcemnnlmlggoaaGreat
open Go.Vc Go.Lv Go.Ty
def explore_Key_rest (b b2 : Nat) (xA8 : Option Addr) (xN8 : Nat) (K : Value → World → Prop) (w17 : World) : Prop :=
  ∃ (I1 : Int → World → Prop) (m1 : Int → World → Nat), I1 0 w17 ∧
          ∀ (_g2 : Nat → Value) (x4 : Int) (w18 : World), I1 x4 w18 →
          cond (decide (x4 < (xN8 : Int)))
            (∃ (xA9 : Option Addr) (xN9 : Nat) (xC9 : Nat), w18.cell? ⟨b, 5, none⟩ = some (.slice xA9 xN9 xC9) ∧
            ((0 : Int) ≤ x4 ∧ x4 < (xN9 : Int)) ∧
            ptrOr xA9 (fun a1 =>
              ∃ (J1 : World → Prop),
              (∃ (xDef2 : Int) (xAt2 : Int) (xVarsA2 : Option Addr) (xVarsN2 : Nat) (xVarsC2 : Nat) (xFuel2 : Int) (xMode2 : Int) (xChan2 : Int) (xVal2 : Int) (xSlot2 : Int) (xUntil2 : Int) (xSince2 : Int) (xAltsA2 : Option Addr) (xAltsN2 : Nat) (xAltsC2 : Nat), CellsAt w18 (a1.add (x4.toNat * 11)) [.int .i64 xDef2, .int .i64 xAt2, .slice xVarsA2 xVarsN2 xVarsC2, .int .i64 xFuel2, .int .i64 xMode2, .int .i64 xChan2, .int .i64 xVal2, .int .i64 xSlot2, .int .i64 xUntil2, .int .i64 xSince2, .slice xAltsA2 xAltsN2 xAltsC2] ∧
                Calls Tryz.prog 10 #[.agg #[.int .i64 xDef2, .int .i64 xAt2, .slice xVarsA2 xVarsN2 xVarsC2, .int .i64 xFuel2, .int .i64 xMode2, .int .i64 xChan2, .int .i64 xVal2, .int .i64 xSlot2, .int .i64 xUntil2, .int .i64 xSince2, .slice xAltsA2 xAltsN2 xAltsC2]] w18 (Ret fun v5 w19 => -- explore.queued
                  ∃ (x5 : Bool), v5 = .bool x5 ∧
                  cond (x5)
                    (∃ (x6 : Int), w19.cell? ((a1.add (x4.toNat * 11)).add 9) = some (.int .i64 x6) ∧
                    Calls Tryz.prog 13 #[.int .i64 x6, .pointer (some ⟨b2, 0, none⟩)] w19 (Ret fun v6 w20 => -- explore.Key$1
                      ∃ (x7 : Int), v6 = .int .i64 x7 ∧
                      Writable w20 ((a1.add (x4.toNat * 11)).add 9) 1 ∧ ∀ w21 : World, w21 = w20.setCell ((a1.add (x4.toNat * 11)).add 9) (.int .i64 x7) →
                      J1 w21))
                    (J1 w19))) ∧
              ∀ (_g3 : Nat → Value) (w22 : World), J1 w22 →
              ∃ (J2 : World → Prop),
              (∃ (x8 : Int), w22.cell? ((a1.add (x4.toNat * 11)).add 4) = some (.int .i64 x8) ∧
                cond (x8 == 4)
                  (∀ w23 : World, w23 = w22.drew →
                  ∃ (x9 : Int), w23.cell? ((a1.add (x4.toNat * 11)).add 8) = some (.int .i64 x9) ∧
                  ∃ (x10 : Int), w23.cell? ⟨b, 0, none⟩ = some (.int .i64 x10) ∧
                  Writable w23 ((a1.add (x4.toNat * 11)).add 8) 1 ∧ ∀ w24 : World, w24 = w23.setCell ((a1.add (x4.toNat * 11)).add 8) (.int .i64 (IntKind.i64.wrap (x9 - x10))) →
                  J2 w24)
                  (J2 w22)) ∧
              ∀ (_g4 : Nat → Value) (w25 : World), J2 w25 →
              ∃ (xA10 : Option Addr) (xN10 : Nat) (xC10 : Nat), w25.cell? ((a1.add (x4.toNat * 11)).add 10) = some (.slice xA10 xN10 xC10) ∧
              Calls Tryz.prog 16 #[.slice xA10 xN10 xC10] w25 (Ret fun v7 w26 => -- slices.Clone[[]api.Alt,api.Alt]
                ∃ (xA11 : Option Addr) (xN11 : Nat) (xC11 : Nat), v7 = .slice xA11 xN11 xC11 ∧
                Writable w26 ((a1.add (x4.toNat * 11)).add 10) 1 ∧ ∀ w27 : World, w27 = w26.setCell ((a1.add (x4.toNat * 11)).add 10) (.slice xA11 xN11 xC11) →
                ∃ (xA12 : Option Addr) (xN12 : Nat) (xC12 : Nat), w27.cell? ((a1.add (x4.toNat * 11)).add 10) = some (.slice xA12 xN12 xC12) ∧
                ∃ (I2 : Int → World → Prop) (m2 : Int → World → Nat), I2 0 w27 ∧
                ∀ (_g5 : Nat → Value) (x11 : Int) (w28 : World), I2 x11 w28 →
                cond (decide (x11 < (xN12 : Int)))
                  (∃ (J3 : World → Prop),
                  (∃ (xA13 : Option Addr) (xN13 : Nat) (xC13 : Nat), w28.cell? ((a1.add (x4.toNat * 11)).add 10) = some (.slice xA13 xN13 xC13) ∧
                    ((0 : Int) ≤ x11 ∧ x11 < (xN13 : Int)) ∧
                    ptrOr xA13 (fun a2 =>
                      ∃ (x12 : Int), w28.cell? (a2.add (x11.toNat * 5)) = some (.int .i64 x12) ∧
                      cond (x12 == 3)
                        (∀ w29 : World, w29 = w28.drew →
                        ∃ (xA14 : Option Addr) (xN14 : Nat) (xC14 : Nat), w29.cell? ((a1.add (x4.toNat * 11)).add 10) = some (.slice xA14 xN14 xC14) ∧
                        ((0 : Int) ≤ x11 ∧ x11 < (xN14 : Int)) ∧
                        ptrOr xA14 (fun a3 =>
                          ∃ (x13 : Int), w29.cell? ((a3.add (x11.toNat * 5)).add 2) = some (.int .i64 x13) ∧
                          ∃ (x14 : Int), w29.cell? ⟨b, 0, none⟩ = some (.int .i64 x14) ∧
                          ((0 : Int) ≤ x11 ∧ x11 < (xN14 : Int)) ∧
                          ptrOr xA14 (fun a4 =>
                            Writable w29 ((a4.add (x11.toNat * 5)).add 2) 1 ∧ ∀ w30 : World, w30 = w29.setCell ((a4.add (x11.toNat * 5)).add 2) (.int .i64 (IntKind.i64.wrap (x13 - x14))) →
                            J3 w30)))
                        (J3 w28))) ∧
                  ∀ (_g6 : Nat → Value) (w31 : World), J3 w31 →
                  I2 (IntKind.i64.wrap (x11 + 1)) w31 ∧ m2 (IntKind.i64.wrap (x11 + 1)) w31 < m2 x11 w28)
                  (I1 (IntKind.i64.wrap (x4 + 1)) w28 ∧ m1 (IntKind.i64.wrap (x4 + 1)) w28 < m1 x4 w18))))
            (∃ (x15 : Int), w18.cell? ⟨b, 1, none⟩ = some (.int .i64 x15) ∧
            Calls Tryz.prog 13 #[.int .i64 x15, .pointer (some ⟨b2, 0, none⟩)] w18 (Ret fun v8 w32 => -- explore.Key$1
              ∃ (x16 : Int), v8 = .int .i64 x16 ∧
              Writable w32 ⟨b, 1, none⟩ 1 ∧ ∀ w33 : World, w33 = w32.setCell ⟨b, 1, none⟩ (.int .i64 x16) →
              Writable w33 ⟨b, 0, none⟩ 1 ∧ ∀ w34 : World, w34 = w33.setCell ⟨b, 0, none⟩ (.int .i64 0) →
              ∃ (xNow : Int) (xSince3 : Int) (xHalt : Int) (xFault : Int) (xWho : Int) (xProcsA : Option Addr) (xProcsN : Nat) (xProcsC : Nat) (xOutA : Option Addr) (xOutN : Nat) (xOutC : Nat), CellsAt w34 ⟨b, 0, none⟩ [.int .i64 xNow, .int .i64 xSince3, .int .i64 xHalt, .int .i64 xFault, .int .i64 xWho, .slice xProcsA xProcsN xProcsC, .slice xOutA xOutN xOutC] ∧
              Calls Tryz.prog 17 #[.agg #[.int .i64 xNow, .int .i64 xSince3, .int .i64 xHalt, .int .i64 xFault, .int .i64 xWho, .slice xProcsA xProcsN xProcsC, .slice xOutA xOutN xOutC]] w34 (Ret fun v9 w35 => -- dump.Put
                ∃ (x17 : List UInt8), v9 = .string (mkS x17) ∧
                K (.string (mkS x17)) w35)))
def Rest_explore_Key (sx : GState) (L : List Int) (P : List GProc) (K : List UInt8 → Prop) : Prop :=
  ∀ (m : List Nat) (w w17 : World), MOk m w → ∀ (a8 : Option Addr) (c8 : Nat) (xs5 : List Value) (b2 : Nat) (a7 : Option Addr) (c7 : Nat) (xs4 : List Value) (b : Nat) (a1 : Option Addr) (c1 : Nat),
    El cGProc (ms [.row 38 11 a8 P.length c8 xs5, .box b2 [.slice a7 L.length c7], .row 3 1 a7 L.length c7 xs4, .box b [.int .i64 sx.now, .int .i64 sx.since, .int .i64 sx.halt, .int .i64 sx.fault, .int .i64 sx.who, .slice a8 P.length c8, .slice a1 sx.out.length c1]] m) w17 P xs5 → El (cInt .i64) (ms [.row 38 11 a8 P.length c8 xs5, .box b2 [.slice a7 L.length c7], .row 3 1 a7 L.length c7 xs4, .box b [.int .i64 sx.now, .int .i64 sx.since, .int .i64 sx.halt, .int .i64 sx.fault, .int .i64 sx.who, .slice a8 P.length c8, .slice a1 sx.out.length c1]] m) w17 L xs4 → (sx.out.length ≤ c1 ∧ SlR (cInt .i64) (ms [.row 38 11 a8 P.length c8 xs5, .box b2 [.slice a7 L.length c7], .row 3 1 a7 L.length c7 xs4, .box b [.int .i64 sx.now, .int .i64 sx.since, .int .i64 sx.halt, .int .i64 sx.fault, .int .i64 sx.who, .slice a8 P.length c8, .slice a1 sx.out.length c1]] m) w17 a1 sx.out) → Mem w.heap.size [] m [([], w.heap.size, w)] [] w17 [.row 38 11 a8 P.length c8 xs5, .box b2 [.slice a7 L.length c7], .row 3 1 a7 L.length c7 xs4, .box b [.int .i64 sx.now, .int .i64 sx.since, .int .i64 sx.halt, .int .i64 sx.fault, .int .i64 sx.who, .slice a8 P.length c8, .slice a1 sx.out.length c1]] →
    explore_Key_rest b b2 a8 P.length (fun v w' => ∃ (r0 : List UInt8), K r0 ∧ (v = .string (mkS r0)) ∧ Keep [] w w') w17
end Go.Proofs.YtfcemnnlmlggoaaGreat
