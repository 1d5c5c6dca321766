/- A part of the proof: conditions of the code, contracts, the plain law. -/
import Derived.Test.YtdbdkdmgfiiljaaMem
import Derived.Test.YtdbdkdmgfiiljaaRows
import Derived.Test.YtdbdkdmgfiiljaaVcF
import Derived.Lib.Bytealg
import Derived.Test.YtdbdkdmgfiiljaaMemB
import Derived.Test.YtdbdkdmgfiiljaaMemC
import Derived.Test.YtdbdkdmgfiiljaaMemD
import Derived.Test.YtdbdkdmgfiiljaaMemE
import Derived.MapKept
namespace Go.Tk
open Go.Vc
def letN (n : Nat) : Bool := (97 ≤ n && n ≤ 122) || (65 ≤ n && n ≤ 90) || n == 95
def digN (n : Nat) : Bool := 48 ≤ n && n ≤ 57
def wordN (n : Nat) : Bool := letN n || digN n
def letC (c : UInt8) : Bool := letN c.toNat
def digC (c : UInt8) : Bool := digN c.toNat
def wordC (c : UInt8) : Bool := wordN c.toNat
def letterB (n : Nat) : Bool := ((n : Int) == 95) || ((decide ((bitsOr .u8 (n : Int) 32) ≥ 97)) && (decide ((bitsOr .u8 (n : Int) 32) ≤ 122)))
theorem letterB_eq (n : Nat) (h : n < 256) : letterB n = letN n := by
  have : ∀ n : Fin 256, letterB n.val = letN n.val := by decide +kernel
  exact this ⟨n, h⟩
theorem takeWhile_take {α : Type} (p : α → Bool) : ∀ (l : List α) (k : Nat), (∀ i (h : i < l.length), i < k → p l[i] = true) → (∀ h : k < l.length, p l[k] = false) → l.takeWhile p = l.take k
  | [], k, _, _ => by simp
  | a :: l, 0, _, h2 => by
    have := h2 (by simp)
    simp at this
    simp [this]
  | a :: l, k + 1, h1, h2 => by
    have h0 := h1 0 (by simp) (by omega)
    simp at h0
    rw [List.takeWhile_cons, h0]
    simp only [if_true, List.take_succ_cons, List.cons.injEq, true_and]
    exact takeWhile_take p l k (fun i h hk => by have := h1 (i + 1) (by simp; omega) (by omega); simpa using this) (fun h => by have := h2 (by simp; omega); simpa using this)
theorem getD_eq (l : List UInt8) (i : Nat) (h : i < l.length) : l.getD i 0 = l[i] := by simp [List.getD, h]
theorem less_irrefl : ∀ (a : List UInt8), Op.bytesLess a a = false
  | [] => rfl
  | x :: a => by
    simp only [Op.bytesLess, less_irrefl a]
    simp
theorem less_trans : ∀ (a b c : List UInt8), Op.bytesLess a b = true → Op.bytesLess b c = true → Op.bytesLess a c = true
  | a, b, [], _, h2 => by cases b <;> simp [Op.bytesLess] at h2
  | [], _, _ :: _, _, _ => rfl
  | x :: a, [], z :: c, h1, _ => by simp [Op.bytesLess] at h1
  | x :: a, y :: b, z :: c, h1, h2 => by
    simp only [Op.bytesLess, Bool.or_eq_true, decide_eq_true_eq, Bool.and_eq_true, beq_iff_eq] at h1 h2 ⊢
    rcases h1 with h1 | ⟨rfl, h1⟩
    · rcases h2 with h2 | ⟨rfl, h2⟩
      · left; exact UInt8.lt_trans h1 h2
      · left; exact h1
    · rcases h2 with h2 | ⟨rfl, h2⟩
      · left; exact h2
      · right; exact ⟨rfl, less_trans a b c h1 h2⟩
def words : List (List UInt8) := [[97, 102, 116, 101, 114], [97, 115, 115, 101, 114, 116], [99, 97, 115, 101], [99, 104, 97, 110], [101, 108, 115, 101], [105, 102], [109, 97, 105, 110], [112, 114, 105, 110, 116], [112, 114, 111, 99], [114, 97, 110, 100, 111, 109], [115, 101, 108, 101, 99, 116], [115, 107, 105, 112], [115, 108, 101, 101, 112], [115, 116, 97, 114, 116], [115, 116, 111, 112], [118, 97, 114], [119, 104, 101, 110], [119, 104, 105, 108, 101]]
def Sorted (l : List (List UInt8)) : Prop := ∀ i j (hi : i < l.length) (hj : j < l.length), i < j → Op.bytesLess l[i] l[j] = true
theorem words_sorted : Sorted words := by
  have h : ∀ i j : Fin 18, i < j → Op.bytesLess (words[i.val]!) (words[j.val]!) = true := by decide +kernel
  intro i j hi hj hij
  have := h ⟨i, hi⟩ ⟨j, hj⟩ hij
  simpa [hi, hj] using this
def isBl (c : UInt8) : Bool := c == 9 || c == 10 || c == 13 || c == 32
def blankN : Bool → List UInt8 → Nat
  | _, [] => 0
  | r, c :: l => if c == 10 then blankN false l + 1 else if c == 35 then blankN true l + 1 else if !r && c != 9 && c != 13 && c != 32 then 0 else blankN r l + 1
theorem blank_le : ∀ (r : Bool) (l : List UInt8), blankN r l ≤ l.length
  | _, [] => Nat.le_refl _
  | r, c :: l => by
    unfold blankN
    have h1 := blank_le false l
    have h2 := blank_le true l
    have h3 := blank_le r l
    simp only [List.length_cons]
    split
    · omega
    · split
      · omega
      · split <;> omega
end Go.Tk
namespace Go.Proofs.Ytdbdkdmgfiiljaa
open Go.Vc
def token_words_wp (K : Value → World → Prop) (w : World) : Prop :=
  ∀ (b : Nat) (w1 : World), b = w.heap.size → w1 = w.alloc (.cells #[.string (mkS [97, 102, 116, 101, 114]), .string (mkS [97, 115, 115, 101, 114, 116]), .string (mkS [99, 97, 115, 101]), .string (mkS [99, 104, 97, 110]), .string (mkS [101, 108, 115, 101]), .string (mkS [105, 102]), .string (mkS [109, 97, 105, 110]), .string (mkS [112, 114, 105, 110, 116]), .string (mkS [112, 114, 111, 99]), .string (mkS [114, 97, 110, 100, 111, 109]), .string (mkS [115, 101, 108, 101, 99, 116]), .string (mkS [115, 107, 105, 112]), .string (mkS [115, 108, 101, 101, 112]), .string (mkS [115, 116, 97, 114, 116]), .string (mkS [115, 116, 111, 112]), .string (mkS [118, 97, 114]), .string (mkS [119, 104, 101, 110]), .string (mkS [119, 104, 105, 108, 101])] 9) →
  K (.slice (some ⟨b, 0, none⟩) 18 18) w1
theorem token_words_ok (K : Value → World → Prop) (w : World) (h : token_words_wp K w) : Calls Try.prog 65 #[] w (Ret K) :=
  calls_of {} Try.func65 (by kernel_rfl) h
def token_letter_wp (c : Int) (K : Value → World → Prop) (w : World) : Prop :=
  ∀ (_g : Nat → Value),
  K (.bool ((c == 95) || ((decide ((bitsOr .u8 c 32) ≥ 97)) && (decide ((bitsOr .u8 c 32) ≤ 122))))) w
theorem token_letter_ok (c : Int) (K : Value → World → Prop) (w : World) (h : token_letter_wp c K w) : Calls Try.prog 35 #[.int .u8 c] w (Ret K) :=
  calls_of { merges := [(6, [2])] } Try.func35 (by kernel_rfl) h
def token_digit_wp (c : Int) (K : Value → World → Prop) (w : World) : Prop :=
  ∀ (_g : Nat → Value),
  K (.bool ((decide (c ≥ 48)) && (decide (c ≤ 57)))) w
theorem token_digit_ok (c : Int) (K : Value → World → Prop) (w : World) (h : token_digit_wp c K w) : Calls Try.prog 39 #[.int .u8 c] w (Ret K) :=
  calls_of { merges := [(6, [2])] } Try.func39 (by kernel_rfl) h
def token_wordly_wp (c : Int) (K : Value → World → Prop) (w : World) : Prop :=
  Calls Try.prog 35 #[.int .u8 c] w (Ret fun v w1 => -- token.letter
    ∃ (x : Bool), v = .bool x ∧
    cond (x)
      (K (.bool true) w1)
      (Calls Try.prog 39 #[.int .u8 c] w1 (Ret fun v1 w2 => -- token.digit
        ∃ (x1 : Bool), v1 = .bool x1 ∧
        K (.bool x1) w2)))
theorem token_wordly_ok (c : Int) (K : Value → World → Prop) (w : World) (h : token_wordly_wp c K w) : Calls Try.prog 37 #[.int .u8 c] w (Ret K) :=
  calls_of {} Try.func37 (by kernel_rfl) h
def token_run_wordly_wp (s : List UInt8) (K : Value → World → Prop) (w : World) : Prop :=
  ∃ (I : Int → World → Prop) (m : Int → World → Nat), I 0 w ∧
  ∀ (_g : Nat → Value) (x : Int) (w1 : World), I x w1 →
  cond (decide (x < (s.length : Int)))
    (((0 : Int) ≤ x ∧ x < (s.length : Int)) ∧
    Calls Try.prog 37 #[.int .u8 ((s.getD x.toNat 0).toNat : Int)] w1 (Ret fun v w2 => -- token.wordly
      ∃ (x1 : Bool), v = .bool x1 ∧
      cond (!x1)
        (((0 : Int) ≤ x ∧ x ≤ (s.length : Int)) ∧
        K (.string (mkS (s.take x.toNat))) w2)
        (I (IntKind.i64.wrap (x + 1)) w2 ∧ m (IntKind.i64.wrap (x + 1)) w2 < m x w1)))
    (K (.string (mkS s)) w1)
theorem token_run_wordly_ok (s : List UInt8) (K : Value → World → Prop) (w : World) (h : token_run_wordly_wp s K w) : Calls Try.prog 36 #[.string (mkS s), .func (.func 37) #[] #[]] w (Ret K) :=
  calls_of { loops := [(26, [(8, .int .i64)])] } Try.func36 (by kernel_rfl) h
def token_run_digit_wp (s : List UInt8) (K : Value → World → Prop) (w : World) : Prop :=
  ∃ (I : Int → World → Prop) (m : Int → World → Nat), I 0 w ∧
  ∀ (_g : Nat → Value) (x : Int) (w1 : World), I x w1 →
  cond (decide (x < (s.length : Int)))
    (((0 : Int) ≤ x ∧ x < (s.length : Int)) ∧
    Calls Try.prog 39 #[.int .u8 ((s.getD x.toNat 0).toNat : Int)] w1 (Ret fun v w2 => -- token.digit
      ∃ (x1 : Bool), v = .bool x1 ∧
      cond (!x1)
        (((0 : Int) ≤ x ∧ x ≤ (s.length : Int)) ∧
        K (.string (mkS (s.take x.toNat))) w2)
        (I (IntKind.i64.wrap (x + 1)) w2 ∧ m (IntKind.i64.wrap (x + 1)) w2 < m x w1)))
    (K (.string (mkS s)) w1)
theorem token_run_digit_ok (s : List UInt8) (K : Value → World → Prop) (w : World) (h : token_run_digit_wp s K w) : Calls Try.prog 36 #[.string (mkS s), .func (.func 39) #[] #[]] w (Ret K) :=
  calls_of { loops := [(26, [(8, .int .i64)])] } Try.func36 (by kernel_rfl) h
def slices_BinarySearch_Slstring_string_wp (xA : Option Addr) (xN : Nat) (_xC : Nat) (target : List UInt8) (K : Value → World → Prop) (w : World) : Prop :=
  ∃ (I : Int → Int → World → Prop) (m : Int → Int → World → Nat), I 0 (xN : Int) w ∧
  ∀ (_g : Nat → Value) (i : Int) (j : Int) (w1 : World), I i j w1 →
  cond (decide (i < j))
    ((0 : Int) ≤ 1 ∧
    ((0 : Int) ≤ (IntKind.i64.wrap ((IntKind.u64.wrap (IntKind.i64.wrap (i + j))).fdiv (2 ^ (min 1 IntKind.u64.bits)))) ∧ (IntKind.i64.wrap ((IntKind.u64.wrap (IntKind.i64.wrap (i + j))).fdiv (2 ^ (min 1 IntKind.u64.bits)))) < (xN : Int)) ∧
    ptrOr xA (fun a =>
      ∃ (x : List UInt8), w1.cell? (a.add ((IntKind.i64.wrap ((IntKind.u64.wrap (IntKind.i64.wrap (i + j))).fdiv (2 ^ (min 1 IntKind.u64.bits)))).toNat * 1)) = some (.string (mkS x)) ∧
      Calls Try.prog 72 #[.string (mkS x), .string (mkS target)] w1 (Ret fun v w2 => -- cmp.Less[string]
        ∃ (x1 : Bool), v = .bool x1 ∧
        cond (x1)
          (I (IntKind.i64.wrap ((IntKind.i64.wrap ((IntKind.u64.wrap (IntKind.i64.wrap (i + j))).fdiv (2 ^ (min 1 IntKind.u64.bits)))) + 1)) j w2 ∧ m (IntKind.i64.wrap ((IntKind.i64.wrap ((IntKind.u64.wrap (IntKind.i64.wrap (i + j))).fdiv (2 ^ (min 1 IntKind.u64.bits)))) + 1)) j w2 < m i j w1)
          (I i (IntKind.i64.wrap ((IntKind.u64.wrap (IntKind.i64.wrap (i + j))).fdiv (2 ^ (min 1 IntKind.u64.bits)))) w2 ∧ m i (IntKind.i64.wrap ((IntKind.u64.wrap (IntKind.i64.wrap (i + j))).fdiv (2 ^ (min 1 IntKind.u64.bits)))) w2 < m i j w1))))
    (cond (decide (i < (xN : Int)))
      (((0 : Int) ≤ i ∧ i < (xN : Int)) ∧
      ptrOr xA (fun a1 =>
        ∃ (x2 : List UInt8), w1.cell? (a1.add (i.toNat * 1)) = some (.string (mkS x2)) ∧
        cond (x2 == target)
          (K (.tuple #[.int .i64 i, .bool true]) w1)
          (((0 : Int) ≤ i ∧ i < (xN : Int)) ∧
          ptrOr xA (fun a2 =>
            ∃ (x3 : List UInt8), w1.cell? (a2.add (i.toNat * 1)) = some (.string (mkS x3)) ∧
            Calls Try.prog 73 #[.string (mkS x3)] w1 (Ret fun v1 w3 => -- slices.isNaN[string]
              ∃ (x4 : Bool), v1 = .bool x4 ∧
              cond (x4)
                (Calls Try.prog 73 #[.string (mkS target)] w3 (Ret fun v2 w4 => -- slices.isNaN[string]
                  ∃ (x5 : Bool), v2 = .bool x5 ∧
                  K (.tuple #[.int .i64 i, .bool x5]) w4))
                (K (.tuple #[.int .i64 i, .bool false]) w3))))))
      (K (.tuple #[.int .i64 i, .bool false]) w1))
theorem slices_BinarySearch_Slstring_string_ok (xA : Option Addr) (xN : Nat) (xC : Nat) (target : List UInt8) (K : Value → World → Prop) (w : World) (h : slices_BinarySearch_Slstring_string_wp xA xN xC target K w) : Calls Try.prog 64 #[.slice xA xN xC, .string (mkS target)] w (Ret K) :=
  calls_of { loops := [(60, [(7, .int .i64), (8, .int .i64)])] } Try.func64 (by kernel_rfl) h
def cmp_Less_string_wp (x : List UInt8) (y : List UInt8) (K : Value → World → Prop) (w : World) : Prop :=
  Calls Try.prog 82 #[.string (mkS x)] w (Ret fun v w1 => -- cmp.isNaN[string]
    ∃ (x1 : Bool), v = .bool x1 ∧
    cond (x1)
      (Calls Try.prog 82 #[.string (mkS y)] w1 (Ret fun v1 w2 => -- cmp.isNaN[string]
        ∃ (x2 : Bool), v1 = .bool x2 ∧
        cond (!x2)
          (K (.bool true) w2)
          (K (.bool (Op.bytesLess x y)) w2)))
      (K (.bool (Op.bytesLess x y)) w1))
theorem cmp_Less_string_ok (x : List UInt8) (y : List UInt8) (K : Value → World → Prop) (w : World) (h : cmp_Less_string_wp x y K w) : Calls Try.prog 72 #[.string (mkS x), .string (mkS y)] w (Ret K) :=
  calls_of {} Try.func72 (by kernel_rfl) h
def slices_isNaN_string_wp (x : List UInt8) (K : Value → World → Prop) (w : World) : Prop :=
  K (.bool (!(x == x))) w
theorem slices_isNaN_string_ok (x : List UInt8) (K : Value → World → Prop) (w : World) (h : slices_isNaN_string_wp x K w) : Calls Try.prog 73 #[.string (mkS x)] w (Ret K) :=
  calls_of {} Try.func73 (by kernel_rfl) h
def cmp_isNaN_string_wp (x : List UInt8) (K : Value → World → Prop) (w : World) : Prop :=
  K (.bool (!(x == x))) w
theorem cmp_isNaN_string_ok (x : List UInt8) (K : Value → World → Prop) (w : World) (h : cmp_isNaN_string_wp x K w) : Calls Try.prog 82 #[.string (mkS x)] w (Ret K) :=
  calls_of {} Try.func82 (by kernel_rfl) h
def token_Word_wp (s : List UInt8) (K : Value → World → Prop) (w : World) : Prop :=
  Calls Try.prog 65 #[] w (Ret fun v w1 => -- token.words
    ∃ (xA : Option Addr) (xN : Nat) (xC : Nat), v = .slice xA xN xC ∧
    Calls Try.prog 64 #[.slice xA xN xC, .string (mkS s)] w1 (Ret fun v1 w2 => -- slices.BinarySearch[[]string,string]
      ∃ (x0 : Int) (x1 : Bool), v1 = .tuple #[.int .i64 x0, .bool x1] ∧
      K (.bool x1) w2))
theorem token_Word_ok (s : List UInt8) (K : Value → World → Prop) (w : World) (h : token_Word_wp s K w) : Calls Try.prog 38 #[.string (mkS s)] w (Ret K) :=
  calls_of {} Try.func38 (by kernel_rfl) h
def strings_IndexByte_wp (s : List UInt8) (c : Int) (K : Value → World → Prop) (w : World) : Prop :=
  Calls Try.prog 71 #[.string (mkS s), .int .u8 c] w (Ret fun v w1 => -- internal/stringslite.IndexByte
    ∃ (x : Int), v = .int .i64 x ∧
    K (.int .i64 x) w1)
theorem strings_IndexByte_ok (s : List UInt8) (c : Int) (K : Value → World → Prop) (w : World) (h : strings_IndexByte_wp s c K w) : Calls Try.prog 63 #[.string (mkS s), .int .u8 c] w (Ret K) :=
  calls_of {} Try.func63 (by kernel_rfl) h
def internal_stringslite_IndexByte_wp (s : List UInt8) (c : Int) (K : Value → World → Prop) (w : World) : Prop :=
  ExtOk Try.prog 81 #[.string (mkS s), .int .u8 c] (fun v w1 => -- internal/bytealg.IndexByteString
    ∃ (x : Int), v = .int .i64 x ∧
    K (.int .i64 x) w1) w
theorem internal_stringslite_IndexByte_ok (s : List UInt8) (c : Int) (K : Value → World → Prop) (w : World) (h : internal_stringslite_IndexByte_wp s c K w) : Calls Try.prog 71 #[.string (mkS s), .int .u8 c] w (Ret K) :=
  calls_of {} Try.func71 (by kernel_rfl) h
def strings_HasPrefix_wp (s : List UInt8) (prefixx : List UInt8) (K : Value → World → Prop) (w : World) : Prop :=
  Calls Try.prog 74 #[.string (mkS s), .string (mkS prefixx)] w (Ret fun v w1 => -- internal/stringslite.HasPrefix
    ∃ (x : Bool), v = .bool x ∧
    K (.bool x) w1)
theorem strings_HasPrefix_ok (s : List UInt8) (prefixx : List UInt8) (K : Value → World → Prop) (w : World) (h : strings_HasPrefix_wp s prefixx K w) : Calls Try.prog 66 #[.string (mkS s), .string (mkS prefixx)] w (Ret K) :=
  calls_of {} Try.func66 (by kernel_rfl) h
def internal_stringslite_HasPrefix_wp (s : List UInt8) (prefixx : List UInt8) (K : Value → World → Prop) (w : World) : Prop :=
  ((decide ((s.length : Int) ≥ (prefixx.length : Int))) = true → ((0 : Int) ≤ (prefixx.length : Int) ∧ (prefixx.length : Int) ≤ (s.length : Int))) ∧
  ∀ (_g : Nat → Value),
  K (.bool ((decide ((s.length : Int) ≥ (prefixx.length : Int))) && ((s.take (prefixx.length : Int).toNat) == prefixx))) w
theorem internal_stringslite_HasPrefix_ok (s : List UInt8) (prefixx : List UInt8) (K : Value → World → Prop) (w : World) (h : internal_stringslite_HasPrefix_wp s prefixx K w) : Calls Try.prog 74 #[.string (mkS s), .string (mkS prefixx)] w (Ret K) :=
  calls_of { merges := [(6, [4])] } Try.func74 (by kernel_rfl) h
def token_blank_wp (s : List UInt8) (K : Value → World → Prop) (w : World) : Prop :=
  ∃ (I : Int → World → Prop) (m : Int → World → Nat), I 0 w ∧
  ∀ (_g : Nat → Value) (n : Int) (w1 : World), I n w1 →
  cond (decide (n < (s.length : Int)))
    (((0 : Int) ≤ n ∧ n < (s.length : Int)) ∧
    ∃ (J : Int → World → Prop),
    (cond (((s.getD n.toNat 0).toNat : Int) == 35)
        (((0 : Int) ≤ n ∧ n ≤ (s.length : Int)) ∧
        Calls Try.prog 63 #[.string (mkS (s.drop n.toNat)), .int .u8 10] w1 (Ret fun v w2 => -- strings.IndexByte
          ∃ (endx : Int), v = .int .i64 endx ∧
          cond (decide (endx < 0))
            (K (.int .i64 (s.length : Int)) w2)
            (J (IntKind.i64.wrap (n + endx)) w2)))
        (∃ (J1 : Bool → World → Prop),
        (cond (((s.getD n.toNat 0).toNat : Int) == 9)
            (J1 (((s.getD n.toNat 0).toNat : Int) == 9) w1)
            (cond (((s.getD n.toNat 0).toNat : Int) == 10)
              (J1 (((s.getD n.toNat 0).toNat : Int) == 10) w1)
              (cond (((s.getD n.toNat 0).toNat : Int) == 13)
                (J1 (((s.getD n.toNat 0).toNat : Int) == 13) w1)
                (J1 (((s.getD n.toNat 0).toNat : Int) == 32) w1)))) ∧
        ∀ (_g1 : Nat → Value) (x : Bool) (w3 : World), J1 x w3 →
        cond (x)
          (J n w3)
          (K (.int .i64 n) w3))) ∧
    ∀ (_g2 : Nat → Value) (n1 : Int) (w4 : World), J n1 w4 →
    I (IntKind.i64.wrap (n1 + 1)) w4 ∧ m (IntKind.i64.wrap (n1 + 1)) w4 < m n w1)
    (K (.int .i64 n) w1)
theorem token_blank_ok (s : List UInt8) (K : Value → World → Prop) (w : World) (h : token_blank_wp s K w) : Calls Try.prog 34 #[.string (mkS s)] w (Ret K) :=
  calls_of { loops := [(28, [(3, .int .i64)])], cuts := [(3624, [(3, .int .i64)]), (231937, [(14, .bool)])] } Try.func34 (by kernel_rfl) h
def token_sign_wp (s : List UInt8) (K : Value → World → Prop) (w : World) : Prop :=
  ∀ (b : Nat) (w1 : World), b = w.heap.size → w1 = w.alloc (.cells #[.string (mkS [61, 61]), .string (mkS [33, 61]), .string (mkS [60, 61]), .string (mkS [62, 61]), .string (mkS [38, 38]), .string (mkS [124, 124])] 9) →
  ∃ (I : Int → World → Prop) (m : Int → World → Nat), I 0 w1 ∧
  ∀ (_g : Nat → Value) (x : Int) (w2 : World), I x w2 →
  cond (decide (x < (6 : Int)))
    (((0 : Int) ≤ x ∧ x < (6 : Int)) ∧
    ∃ (two : List UInt8), w2.cell? ((⟨b, 0, none⟩ : Addr).add (x.toNat * 1)) = some (.string (mkS two)) ∧
    Calls Try.prog 66 #[.string (mkS s), .string (mkS two)] w2 (Ret fun v w3 => -- strings.HasPrefix
      ∃ (x1 : Bool), v = .bool x1 ∧
      cond (x1)
        (K (.string (mkS two)) w3)
        (I (IntKind.i64.wrap (x + 1)) w3 ∧ m (IntKind.i64.wrap (x + 1)) w3 < m x w2)))
    (((0 : Int) ≤ 0 ∧ 0 < (s.length : Int)) ∧
    Calls Try.prog 63 #[.string (mkS [123, 125, 40, 41, 91, 93, 59, 44, 58, 61, 33, 63, 43, 45, 42, 47, 37, 60, 62]), .int .u8 ((s.getD 0 0).toNat : Int)] w2 (Ret fun v1 w4 => -- strings.IndexByte
      ∃ (x2 : Int), v1 = .int .i64 x2 ∧
      cond (decide (x2 ≥ 0))
        (((0 : Int) ≤ 1 ∧ 1 ≤ (s.length : Int)) ∧
        K (.string (mkS (s.take 1))) w4)
        (K (.string (mkS [])) w4)))
theorem token_sign_ok (s : List UInt8) (K : Value → World → Prop) (w : World) (h : token_sign_wp s K w) : Calls Try.prog 41 #[.string (mkS s)] w (Ret K) :=
  calls_of { loops := [(26, [(7, .int .i64)])] } Try.func41 (by kernel_rfl) h
def token_number_wp (text : List UInt8) (behind : List UInt8) (K : Value → World → Prop) (w : World) : Prop :=
  ((0 : Int) ≤ 0 ∧ 0 < (text.length : Int)) ∧
  ∀ (_g : Nat → Value),
  cond (((((text.getD 0 0).toNat : Int) == 48) && (decide ((text.length : Int) > 1))))
    (K (.tuple #[.int .i64 0, .int .i64 3]) w)
    (cond (decide ((text.length : Int) > 18))
      (K (.tuple #[.int .i64 0, .int .i64 5]) w)
      (∃ (J : Bool → World → Prop),
      (cond (!(behind == []))
          (((0 : Int) ≤ 0 ∧ 0 < (behind.length : Int)) ∧
          Calls Try.prog 35 #[.int .u8 ((behind.getD 0 0).toNat : Int)] w (Ret fun v w1 => -- token.letter
            ∃ (x : Bool), v = .bool x ∧
            J x w1))
          (J false w)) ∧
      ∀ (_g1 : Nat → Value) (x1 : Bool) (w2 : World), J x1 w2 →
      cond (x1)
        (K (.tuple #[.int .i64 0, .int .i64 3]) w2)
        (SemOk Try.prog (convert 9 97 (.string (mkS text))) (fun v1 w3 =>
          ∃ (xA : Option Addr) (xN : Nat) (xC : Nat), v1 = .slice xA xN xC ∧
          ∃ (I : Int → Int → World → Prop) (m : Int → Int → World → Nat), I 0 0 w3 ∧
          ∀ (_g2 : Nat → Value) (n : Int) (x2 : Int) (w4 : World), I n x2 w4 →
          cond (decide (x2 < (xN : Int)))
            (((0 : Int) ≤ x2 ∧ x2 < (xN : Int)) ∧
            ptrOr xA (fun a =>
              ∃ (c : Int), w4.cell? (a.add (x2.toNat * 1)) = some (.int .u8 c) ∧
              I (IntKind.i64.wrap ((IntKind.i64.wrap ((10 : Int) * n)) + (IntKind.i64.wrap (IntKind.u8.wrap (c - 48))))) (IntKind.i64.wrap (x2 + 1)) w4 ∧ m (IntKind.i64.wrap ((IntKind.i64.wrap ((10 : Int) * n)) + (IntKind.i64.wrap (IntKind.u8.wrap (c - 48))))) (IntKind.i64.wrap (x2 + 1)) w4 < m n x2 w4))
            (K (.tuple #[.int .i64 n, .int .i64 0]) w4)) w2)))
theorem token_number_ok (text : List UInt8) (behind : List UInt8) (K : Value → World → Prop) (w : World) (h : token_number_wp text behind K w) : Calls Try.prog 40 #[.string (mkS text), .string (mkS behind)] w (Ret K) :=
  calls_of { loops := [(506, [(6, .int .i64), (30, .int .i64)])], cuts := [(30, [(26, .bool)])], merges := [(12, [16])] } Try.func40 (by kernel_rfl) h
def token_Next_wp (s : List UInt8) (atx : Int) (K : Value → World → Prop) (w : World) : Prop :=
  ∀ (b : Nat) (w1 : World), b = w.heap.size → w1 = w.alloc (.cells #[.int .i64 0, .string (mkS []), .int .i64 0, .int .i64 0] 44) →
  ∀ (_g : Nat → Value),
  cond (((decide (atx < 0)) || (decide (atx > (s.length : Int)))))
    (Writable w1 ⟨b, 0, none⟩ 4 ∧ ∀ w2 : World, w2 = setCells w1 ⟨b, 0, none⟩ [.int .i64 0, .string (mkS []), .int .i64 0, .int .i64 0] →
    ∃ (rKind : Int) (rText : List UInt8) (rN : Int) (rAt : Int), CellsAt w2 ⟨b, 0, none⟩ [.int .i64 rKind, .string (mkS rText), .int .i64 rN, .int .i64 rAt] ∧
    K (.tuple #[.agg #[.int .i64 rKind, .string (mkS rText), .int .i64 rN, .int .i64 rAt], .int .i64 0, .int .i64 1]) w2)
    (((0 : Int) ≤ atx ∧ atx ≤ (s.length : Int)) ∧
    Calls Try.prog 34 #[.string (mkS (s.drop atx.toNat))] w1 (Ret fun v w3 => -- token.blank
      ∃ (x : Int), v = .int .i64 x ∧
      ((0 : Int) ≤ (IntKind.i64.wrap (atx + x)) ∧ (IntKind.i64.wrap (atx + x)) ≤ (s.length : Int)) ∧
      ∀ (b1 : Nat) (w4 : World), b1 = w3.heap.size → w4 = w3.alloc (.cells #[.int .i64 0, .string (mkS []), .int .i64 0, .int .i64 0] 44) →
      Writable w4 ⟨b1, 0, none⟩ 4 ∧ ∀ w5 : World, w5 = setCells w4 ⟨b1, 0, none⟩ [.int .i64 0, .string (mkS []), .int .i64 0, .int .i64 (IntKind.i64.wrap (atx + x))] →
      ∃ (J : Int → World → Prop),
      (cond ((s.drop (IntKind.i64.wrap (atx + x)).toNat) == [])
          (∃ (xKind : Int) (xText : List UInt8) (xN : Int) (xAt : Int), CellsAt w5 ⟨b1, 0, none⟩ [.int .i64 xKind, .string (mkS xText), .int .i64 xN, .int .i64 xAt] ∧
          Writable w5 ⟨b, 0, none⟩ 4 ∧ ∀ w6 : World, w6 = setCells w5 ⟨b, 0, none⟩ [.int .i64 xKind, .string (mkS xText), .int .i64 xN, .int .i64 xAt] →
          ∃ (rKind1 : Int) (rText1 : List UInt8) (rN1 : Int) (rAt1 : Int), CellsAt w6 ⟨b, 0, none⟩ [.int .i64 rKind1, .string (mkS rText1), .int .i64 rN1, .int .i64 rAt1] ∧
          K (.tuple #[.agg #[.int .i64 rKind1, .string (mkS rText1), .int .i64 rN1, .int .i64 rAt1], .int .i64 (IntKind.i64.wrap (atx + x)), .int .i64 0]) w6)
          (((0 : Int) ≤ 0 ∧ 0 < ((s.drop (IntKind.i64.wrap (atx + x)).toNat).length : Int)) ∧
          Calls Try.prog 35 #[.int .u8 (((s.drop (IntKind.i64.wrap (atx + x)).toNat).getD 0 0).toNat : Int)] w5 (Ret fun v1 w7 => -- token.letter
            ∃ (x1 : Bool), v1 = .bool x1 ∧
            cond (x1)
              (Calls Try.prog 36 #[.string (mkS (s.drop (IntKind.i64.wrap (atx + x)).toNat)), .func (.func 37) #[] #[]] w7 (Ret fun v2 w8 => -- token.run
                ∃ (x2 : List UInt8), v2 = .string (mkS x2) ∧
                Writable w8 ⟨b1, 0, none⟩ 1 ∧ ∀ w9 : World, w9 = w8.setCell ⟨b1, 0, none⟩ (.int .i64 1) →
                Writable w9 ⟨b1, 1, none⟩ 1 ∧ ∀ w10 : World, w10 = w9.setCell ⟨b1, 1, none⟩ (.string (mkS x2)) →
                ∃ (J1 : World → Prop),
                (∃ (x3 : List UInt8), w10.cell? ⟨b1, 1, none⟩ = some (.string (mkS x3)) ∧
                  Calls Try.prog 38 #[.string (mkS x3)] w10 (Ret fun v3 w11 => -- token.Word
                    ∃ (x4 : Bool), v3 = .bool x4 ∧
                    cond (x4)
                      (Writable w11 ⟨b1, 0, none⟩ 1 ∧ ∀ w12 : World, w12 = w11.setCell ⟨b1, 0, none⟩ (.int .i64 3) →
                      J1 w12)
                      (J1 w11))) ∧
                ∀ (_g1 : Nat → Value) (w13 : World), J1 w13 →
                ∃ (x5 : List UInt8), w13.cell? ⟨b1, 1, none⟩ = some (.string (mkS x5)) ∧
                cond (decide ((x5.length : Int) > 16))
                  (J 5 w13)
                  (J 0 w13)))
              (((0 : Int) ≤ 0 ∧ 0 < ((s.drop (IntKind.i64.wrap (atx + x)).toNat).length : Int)) ∧
              Calls Try.prog 39 #[.int .u8 (((s.drop (IntKind.i64.wrap (atx + x)).toNat).getD 0 0).toNat : Int)] w7 (Ret fun v4 w14 => -- token.digit
                ∃ (x6 : Bool), v4 = .bool x6 ∧
                cond (x6)
                  (Calls Try.prog 36 #[.string (mkS (s.drop (IntKind.i64.wrap (atx + x)).toNat)), .func (.func 39) #[] #[]] w14 (Ret fun v5 w15 => -- token.run
                    ∃ (x7 : List UInt8), v5 = .string (mkS x7) ∧
                    Writable w15 ⟨b1, 0, none⟩ 1 ∧ ∀ w16 : World, w16 = w15.setCell ⟨b1, 0, none⟩ (.int .i64 2) →
                    Writable w16 ⟨b1, 1, none⟩ 1 ∧ ∀ w17 : World, w17 = w16.setCell ⟨b1, 1, none⟩ (.string (mkS x7)) →
                    ∀ w18 : World, w18 = w17.drew →
                    ∃ (S : World → Prop), S w18 ∧
                    ∃ (x8 : List UInt8), (∀ u : World, S u → u.cell? ⟨b1, 1, none⟩ = some (.string (mkS x8))) ∧
                    ∃ (x9 : List UInt8), (∀ u : World, S u → u.cell? ⟨b1, 1, none⟩ = some (.string (mkS x9))) ∧
                    ((0 : Int) ≤ (x9.length : Int) ∧ (x9.length : Int) ≤ ((s.drop (IntKind.i64.wrap (atx + x)).toNat).length : Int)) ∧
                    Calls Try.prog 40 #[.string (mkS x8), .string (mkS ((s.drop (IntKind.i64.wrap (atx + x)).toNat).drop (x9.length : Int).toNat))] w18 (Ret fun v6 w19 => -- token.number
                      ∃ (x0 : Int) (x11 : Int), v6 = .tuple #[.int .i64 x0, .int .i64 x11] ∧
                      Writable w19 ⟨b1, 2, none⟩ 1 ∧ ∀ w20 : World, w20 = w19.setCell ⟨b1, 2, none⟩ (.int .i64 x0) →
                      J x11 w20)))
                  (Calls Try.prog 41 #[.string (mkS (s.drop (IntKind.i64.wrap (atx + x)).toNat))] w14 (Ret fun v7 w21 => -- token.sign
                    ∃ (x10 : List UInt8), v7 = .string (mkS x10) ∧
                    Writable w21 ⟨b1, 0, none⟩ 1 ∧ ∀ w22 : World, w22 = w21.setCell ⟨b1, 0, none⟩ (.int .i64 4) →
                    Writable w22 ⟨b1, 1, none⟩ 1 ∧ ∀ w23 : World, w23 = w22.setCell ⟨b1, 1, none⟩ (.string (mkS x10)) →
                    ∃ (x12 : List UInt8), w23.cell? ⟨b1, 1, none⟩ = some (.string (mkS x12)) ∧
                    cond (x12 == [])
                      (J 10 w23)
                      (J 0 w23)))))))) ∧
      ∀ (_g2 : Nat → Value) (e : Int) (w24 : World), J e w24 →
      cond (e != 0)
        (Writable w24 ⟨b, 0, none⟩ 4 ∧ ∀ w25 : World, w25 = setCells w24 ⟨b, 0, none⟩ [.int .i64 0, .string (mkS []), .int .i64 0, .int .i64 0] →
        ∃ (rKind2 : Int) (rText2 : List UInt8) (rN2 : Int) (rAt2 : Int), CellsAt w25 ⟨b, 0, none⟩ [.int .i64 rKind2, .string (mkS rText2), .int .i64 rN2, .int .i64 rAt2] ∧
        K (.tuple #[.agg #[.int .i64 rKind2, .string (mkS rText2), .int .i64 rN2, .int .i64 rAt2], .int .i64 (IntKind.i64.wrap (atx + x)), .int .i64 e]) w25)
        (∀ w26 : World, w26 = w24.drew →
        ∃ (S1 : World → Prop), S1 w26 ∧
        ∃ (xKind1 : Int) (xText1 : List UInt8) (xN1 : Int) (xAt1 : Int), (∀ u : World, S1 u → CellsAt u ⟨b1, 0, none⟩ [.int .i64 xKind1, .string (mkS xText1), .int .i64 xN1, .int .i64 xAt1]) ∧
        ∃ (x13 : List UInt8), (∀ u : World, S1 u → u.cell? ⟨b1, 1, none⟩ = some (.string (mkS x13))) ∧
        Writable w26 ⟨b, 0, none⟩ 4 ∧ ∀ w27 : World, w27 = setCells w26 ⟨b, 0, none⟩ [.int .i64 xKind1, .string (mkS xText1), .int .i64 xN1, .int .i64 xAt1] →
        S1 w27 ∧
        ∃ (rKind3 : Int) (rText3 : List UInt8) (rN3 : Int) (rAt3 : Int), CellsAt w27 ⟨b, 0, none⟩ [.int .i64 rKind3, .string (mkS rText3), .int .i64 rN3, .int .i64 rAt3] ∧
        K (.tuple #[.agg #[.int .i64 rKind3, .string (mkS rText3), .int .i64 rN3, .int .i64 rAt3], .int .i64 (IntKind.i64.wrap ((IntKind.i64.wrap (atx + x)) + (x13.length : Int))), .int .i64 0]) w27)))
theorem token_Next_ok (s : List UInt8) (atx : Int) (K : Value → World → Prop) (w : World) (h : token_Next_wp s atx K w) : Calls Try.prog 18 #[.string (mkS s), .int .i64 atx] w (Ret K) :=
  calls_of { cuts := [(127, [(9, .int .i64)]), (16285, [])], merges := [(12, [17])] } Try.func18 (by kernel_rfl) h
end Go.Proofs.Ytdbdkdmgfiiljaa
namespace Go.Proofs.Ytdbdkdmgfiiljaa
open Go.Vc Go.Tk
theorem letter_spec (n : Nat) (h : n < 256) (w : World) : Calls Try.prog 35 #[.int .u8 (n : Int)] w (Ret fun v w' => v = .bool (letN n) ∧ w = w') := by
  refine token_letter_ok _ _ _ ?_
  intro _
  exact ⟨by rw [← letterB_eq n h]; rfl, rfl⟩
theorem digit_spec (n : Nat) (w : World) : Calls Try.prog 39 #[.int .u8 (n : Int)] w (Ret fun v w' => v = .bool (digN n) ∧ w = w') := by
  refine token_digit_ok _ _ _ ?_
  intro _
  refine ⟨?_, rfl⟩
  have e : ((decide ((n : Int) ≥ 48)) && (decide ((n : Int) ≤ 57))) = digN n := by unfold digN; rw [Bool.eq_iff_iff]; simp; omega
  rw [e]
theorem wordly_spec (n : Nat) (h : n < 256) (w : World) : Calls Try.prog 37 #[.int .u8 (n : Int)] w (Ret fun v w' => v = .bool (wordN n) ∧ w = w') := by
  refine token_wordly_ok _ _ _ (call_then (letter_spec n h w) ?_)
  rintro _ _ ⟨rfl, rfl⟩
  refine ⟨_, rfl, cond_intro (fun hx => ?_) fun hx => ?_⟩
  · exact ⟨by simp [wordN, hx], rfl⟩
  · refine call_then (digit_spec n w) ?_
    rintro _ _ ⟨rfl, rfl⟩
    exact ⟨_, rfl, by simp [wordN, hx], rfl⟩
theorem run_wordly_spec (s : List UInt8) (hs : s.length < 2 ^ 40) (w : World) : Calls Try.prog 36 #[.string (mkS s), .func (.func 37) #[] #[]] w (Ret fun v w' => v = .string (mkS (s.takeWhile wordC)) ∧ w = w') := by
  refine token_run_wordly_ok _ _ _ ?_
  refine ⟨fun x w' => w = w' ∧ ∃ k : Nat, x = k ∧ k ≤ s.length ∧ ∀ i (h : i < s.length), i < k → wordC s[i] = true, fun x _ => s.length - x.toNat, ⟨rfl, 0, rfl, Nat.zero_le _, fun _ _ h => absurd h (Nat.not_lt_zero _)⟩, ?_⟩
  rintro _ _ _ ⟨rfl, k, rfl, hk, hall⟩
  refine cond_intro (fun hx => ?_) fun hx => ?_
  · have hlt : k < s.length := by simpa using hx
    refine ⟨by omega, call_then (wordly_spec _ (UInt8.toNat_lt _) w) ?_⟩
    rintro _ _ ⟨rfl, rfl⟩
    refine ⟨_, rfl, cond_intro (fun hb => ?_) fun hb => ?_⟩
    · refine ⟨by omega, ?_, rfl⟩
      rw [takeWhile_take wordC s k hall (fun h => by simpa [wordC, List.getD, hlt] using hb)]
      simp
    · rw [wrap_in (by omega) (by omega)]
      refine ⟨⟨rfl, k + 1, by omega, by omega, fun i h hi => ?_⟩, by dsimp only; omega⟩
      rcases Nat.lt_or_ge i k with h' | h'
      · exact hall i h h'
      · obtain rfl : i = k := by omega
        simpa [wordC, List.getD, hlt] using hb
  · have hge : ¬ k < s.length := by simpa using hx
    refine ⟨?_, rfl⟩
    rw [takeWhile_take wordC s k hall (fun h => absurd h hge), List.take_of_length_le (by omega)]
theorem run_digit_spec (s : List UInt8) (hs : s.length < 2 ^ 40) (w : World) : Calls Try.prog 36 #[.string (mkS s), .func (.func 39) #[] #[]] w (Ret fun v w' => v = .string (mkS (s.takeWhile digC)) ∧ w = w') := by
  refine token_run_digit_ok _ _ _ ?_
  refine ⟨fun x w' => w = w' ∧ ∃ k : Nat, x = k ∧ k ≤ s.length ∧ ∀ i (h : i < s.length), i < k → digC s[i] = true, fun x _ => s.length - x.toNat, ⟨rfl, 0, rfl, Nat.zero_le _, fun _ _ h => absurd h (Nat.not_lt_zero _)⟩, ?_⟩
  rintro _ _ _ ⟨rfl, k, rfl, hk, hall⟩
  refine cond_intro (fun hx => ?_) fun hx => ?_
  · have hlt : k < s.length := by simpa using hx
    refine ⟨by omega, call_then (digit_spec _ w) ?_⟩
    rintro _ _ ⟨rfl, rfl⟩
    refine ⟨_, rfl, cond_intro (fun hb => ?_) fun hb => ?_⟩
    · refine ⟨by omega, ?_, rfl⟩
      rw [takeWhile_take digC s k hall (fun h => by simpa [digC, List.getD, hlt] using hb)]
      simp
    · rw [wrap_in (by omega) (by omega)]
      refine ⟨⟨rfl, k + 1, by omega, by omega, fun i h hi => ?_⟩, by dsimp only; omega⟩
      rcases Nat.lt_or_ge i k with h' | h'
      · exact hall i h h'
      · obtain rfl : i = k := by omega
        simpa [digC, List.getD, hlt] using hb
  · have hge : ¬ k < s.length := by simpa using hx
    refine ⟨?_, rfl⟩
    rw [takeWhile_take digC s k hall (fun h => absurd h hge), List.take_of_length_le (by omega)]
theorem isNaN_spec (x : List UInt8) (w : World) : Calls Try.prog 82 #[.string (mkS x)] w (Ret fun v w' => v = .bool false ∧ w = w') :=
  cmp_isNaN_string_ok _ _ _ ⟨by simp, rfl⟩
theorem isNaN2_spec (x : List UInt8) (w : World) : Calls Try.prog 73 #[.string (mkS x)] w (Ret fun v w' => v = .bool false ∧ w = w') :=
  slices_isNaN_string_ok _ _ _ ⟨by simp, rfl⟩
theorem less_spec (x y : List UInt8) (w : World) : Calls Try.prog 72 #[.string (mkS x), .string (mkS y)] w (Ret fun v w' => v = .bool (Op.bytesLess x y) ∧ w = w') := by
  refine cmp_Less_string_ok _ _ _ _ (call_then (isNaN_spec x w) ?_)
  rintro _ _ ⟨rfl, rfl⟩
  exact ⟨_, rfl, rfl, rfl⟩
theorem words_spec (w : World) : Calls Try.prog 65 #[] w (Ret fun v w' => ∃ b, v = .slice (some ⟨b, 0, none⟩) 18 18 ∧ Box w' b (words.map fun s => .string (mkS s)) ∧ Ext w w') := by
  refine token_words_ok _ _ ?_
  intro b w1 hb hw
  exact ⟨b, rfl, Box.new hb hw, .alloc hw⟩
def mid (i j : Nat) : Nat := (i + j) / 2
theorem mid_eq (i j : Nat) (h : i + j < 2 ^ 40) : IntKind.i64.wrap ((IntKind.u64.wrap (IntKind.i64.wrap ((i : Int) + (j : Int)))).fdiv (2 ^ (min 1 IntKind.u64.bits))) = (mid i j : Nat) := by
  have e0 : IntKind.i64.wrap ((i : Int) + (j : Int)) = (i : Int) + j := wrap_in (by omega) (by omega)
  have e : IntKind.u64.wrap ((i : Int) + (j : Int)) = (i : Int) + j := by rw [IntKind.wrap_u64]; omega
  have e2 : (min 1 IntKind.u64.bits) = 1 := by decide
  have e3 : ((i : Int) + (j : Int)).fdiv (2 ^ 1) = (mid i j : Nat) := by
    rw [Int.fdiv_eq_ediv_of_nonneg _ (by decide)]; unfold mid; omega
  rw [e0, e, e2, e3]
  exact wrap_in (by omega) (by unfold mid; omega)
theorem search_spec (l : List (List UInt8)) (hl : Sorted l) (hn : l.length < 1000) (b c : Nat) (t : List UInt8) (w : World) (hb : Box w b (l.map fun s => .string (mkS s))) :
    Calls Try.prog 64 #[.slice (some ⟨b, 0, none⟩) l.length c, .string (mkS t)] w (Ret fun v w' => ∃ i : Int, v = .tuple #[.int .i64 i, .bool (decide (t ∈ l))] ∧ w = w') := by
  refine slices_BinarySearch_Slstring_string_ok _ _ _ _ _ _ ?_
  have hcell : ∀ (k : Nat) (h : k < l.length), w.cell? ⟨b, k, none⟩ = some (.string (mkS l[k])) := fun k h => hb.cell (by simp [h])
  refine ⟨fun i j w' => w = w' ∧ ∃ i' j' : Nat, i = i' ∧ j = j' ∧ i' ≤ j' ∧ j' ≤ l.length ∧ (∀ k (h : k < l.length), k < i' → Op.bytesLess l[k] t = true) ∧ (∀ k (h : k < l.length), j' ≤ k → Op.bytesLess l[k] t = false), fun i j _ => (j - i).toNat,
    ⟨rfl, 0, l.length, rfl, rfl, Nat.zero_le _, Nat.le_refl _, fun _ _ h => absurd h (Nat.not_lt_zero _), fun k h h' => by omega⟩, ?_⟩
  rintro _ _ _ _ ⟨rfl, i, j, rfl, rfl, hij, hj, hlo, hhi⟩
  refine cond_intro (fun hx => ?_) fun hx => ?_
  · have hlt : i < j := by simpa using hx
    rw [mid_eq i j (by omega)]
    have hm1 : i ≤ mid i j := by unfold mid; omega
    have hm2 : mid i j < j := by unfold mid; omega
    generalize mid i j = m at hm1 hm2
    have hml : m < l.length := by omega
    refine ⟨by omega, by omega, l[m], by rw [add_mk]; simpa using hcell m hml, call_then (less_spec _ _ w) ?_⟩
    rintro _ _ ⟨rfl, rfl⟩
    refine ⟨_, rfl, cond_intro (fun hb => ?_) fun hb => ?_⟩
    · rw [wrap_in (by omega) (by omega)]
      refine ⟨⟨rfl, m + 1, j, by omega, rfl, by omega, hj, fun k h hk => ?_, hhi⟩, by dsimp only; omega⟩
      rcases Nat.lt_or_ge k m with h' | h'
      · exact less_trans _ _ _ (hl k m h hml h') hb
      · obtain rfl : k = m := by omega
        exact hb
    · refine ⟨⟨rfl, i, m, rfl, rfl, hm1, by omega, hlo, fun k h hk => ?_⟩, by dsimp only; omega⟩
      rcases Nat.lt_or_ge m k with h' | h'
      · cases hh : Op.bytesLess l[k] t with
        | false => rfl
        | true => rw [less_trans _ _ _ (hl m k hml h h') hh] at hb; cases hb
      · obtain rfl : k = m := by omega
        exact hb
  · have hge : i = j := by have : ¬ i < j := by simpa using hx
                           omega
    subst hge
    refine cond_intro (fun hx2 => ?_) fun hx2 => ?_
    · have hil : i < l.length := by simpa using hx2
      have hcell' : w.cell? ((⟨b, 0, none⟩ : Addr).add ((i : Int).toNat * 1)) = some (.string (mkS l[i])) := by rw [add_mk]; simpa using hcell i hil
      refine ⟨by omega, l[i], hcell', cond_intro (fun hb => ?_) fun hb => ?_⟩
      · have : l[i] = t := by simpa using hb
        refine ⟨(i : Int), ?_, rfl⟩
        rw [decide_eq_true (this ▸ List.getElem_mem hil)]
      · have hne : l[i] ≠ t := by simpa using hb
        refine ⟨by omega, l[i], hcell', call_then (isNaN2_spec _ w) ?_⟩
        rintro _ _ ⟨rfl, rfl⟩
        refine ⟨_, rfl, (i : Int), ?_, rfl⟩
        have hnot : t ∉ l := by
          intro hm
          obtain ⟨p, hp, rfl⟩ := List.getElem_of_mem hm
          rcases Nat.lt_trichotomy p i with h' | h' | h'
          · have := hlo p hp h'; rw [less_irrefl] at this; cases this
          · subst h'; exact hne rfl
          · have := hl i p hil hp h'
            rw [hhi i hil (Nat.le_refl _)] at this; cases this
        rw [decide_eq_false hnot]
    · have hil : ¬ i < l.length := by simpa using hx2
      refine ⟨(i : Int), ?_, rfl⟩
      have hnot : t ∉ l := by
        intro hm
        obtain ⟨p, hp, rfl⟩ := List.getElem_of_mem hm
        have := hlo p hp (by omega); rw [less_irrefl] at this; cases this
      rw [decide_eq_false hnot]
theorem Word_spec (s : List UInt8) (w : World) : Calls Try.prog 38 #[.string (mkS s)] w (Ret fun v w' => v = .bool (decide (s ∈ words)) ∧ Ext w w') := by
  refine token_Word_ok _ _ _ (call_then (words_spec w) ?_)
  rintro _ w1 ⟨b, rfl, hb, he⟩
  refine ⟨_, _, _, rfl, call_then (search_spec words words_sorted (by decide) b 18 s w1 hb) ?_⟩
  rintro _ _ ⟨i, rfl, rfl⟩
  exact ⟨_, _, rfl, rfl, he⟩
end Go.Proofs.Ytdbdkdmgfiiljaa
namespace Go.Tk
open Go.Vc
theorem blank_cons (r : Bool) (c : UInt8) (l : List UInt8) : blankN r (c :: l) = if c == 10 then blankN false l + 1 else if c == 35 then blankN true l + 1 else if !r && c != 9 && c != 13 && c != 32 then 0 else blankN r l + 1 := rfl
theorem blank_true : ∀ (l : List UInt8), (Lib.indexByte l 10 = -1 ∧ blankN true l = l.length) ∨ (∃ e : Nat, Lib.indexByte l 10 = e ∧ e < l.length ∧ blankN true l = e + 1 + blankN false (l.drop (e + 1)))
  | [] => .inl ⟨rfl, rfl⟩
  | c :: l => by
    by_cases h : c = 10
    · subst h
      right
      refine ⟨0, by simp [Lib.indexByte], by simp, ?_⟩
      simp [blankN]; omega
    · have hb : (c == 10) = false := by simpa using h
      have hbl : blankN true (c :: l) = blankN true l + 1 := by
        rw [blank_cons]
        simp only [hb, Bool.false_eq_true, if_false, Bool.not_true, Bool.false_and]
        split <;> rfl
      rcases blank_true l with ⟨h1, h2⟩ | ⟨e, h1, h2, h3⟩
      · left; exact ⟨by simp [Lib.indexByte, hb, h1], by rw [hbl, h2]; simp⟩
      · right
        refine ⟨e + 1, ?_, by simp; omega, ?_⟩
        · have : ((e : Int) == -1) = false := by rw [beq_eq_false_iff_ne]; omega
          simp [Lib.indexByte, hb, h1, this]
        · rw [hbl, h3]; simp; omega
theorem blank_hash (l : List UInt8) : (Lib.indexByte (35 :: l) 10 < 0 ∧ blankN false (35 :: l) = (35 :: l).length) ∨ (∃ e : Nat, Lib.indexByte (35 :: l) 10 = e ∧ e < (35 :: l).length ∧ blankN false (35 :: l) = e + 1 + blankN false ((35 :: l).drop (e + 1))) := by
  have hb : blankN false (35 :: l) = blankN true l + 1 := by simp [blankN]
  have hi : Lib.indexByte (35 :: l) 10 = if Lib.indexByte l 10 == -1 then -1 else Lib.indexByte l 10 + 1 := by simp [Lib.indexByte]
  rcases blank_true l with ⟨h1, h2⟩ | ⟨e, h1, h2, h3⟩
  · left; rw [hi, h1, hb, h2]; exact ⟨by simp, by simp⟩
  · right
    have : ((e : Int) == -1) = false := by rw [beq_eq_false_iff_ne]; omega
    refine ⟨e + 1, by rw [hi, h1, this]; simp, by simp; omega, ?_⟩
    rw [hb, h3]; simp; omega
theorem blank_space (c : UInt8) (l : List UInt8) (h : isBl c = true) : blankN false (c :: l) = blankN false l + 1 := by
  unfold isBl at h
  rw [blank_cons]
  simp only [Bool.or_eq_true, beq_iff_eq] at h
  rcases h with ((rfl | rfl) | rfl) | rfl <;> simp
theorem blank_other (c : UInt8) (l : List UInt8) (h : isBl c = false) (h2 : c ≠ 35) : blankN false (c :: l) = 0 := by
  unfold isBl at h
  rw [blank_cons]
  simp only [Bool.or_eq_false_iff, beq_eq_false_iff_ne] at h
  obtain ⟨⟨⟨h9, h10⟩, h13⟩, h32⟩ := h
  simp [h9, h10, h13, h32, h2]
def signs2 : List (List UInt8) := [[61, 61], [33, 61], [60, 61], [62, 61], [38, 38], [124, 124]]
def signs1 : List UInt8 := [123, 125, 40, 41, 91, 93, 59, 44, 58, 61, 33, 63, 43, 45, 42, 47, 37, 60, 62]
def hasPre (p l : List UInt8) : Bool := l.take p.length == p
def signOf (l : List UInt8) : List UInt8 :=
  match signs2.find? (hasPre · l) with
  | some t => t
  | none => match l with
    | c :: _ => if signs1.contains c then [c] else []
    | [] => []
theorem hasPre_dec (p l : List UInt8) : (decide ((l.length : Int) ≥ (p.length : Int)) && (l.take p.length == p)) = hasPre p l := by
  unfold hasPre
  by_cases h : l.take p.length = p
  · have : p.length ≤ l.length := by rw [← h]; simp; omega
    simp [h]; omega
  · have : (l.take p.length == p) = false := by simpa using h
    rw [this]; simp
theorem find_none_of {α : Type} (p : α → Bool) (l : List α) (h : ∀ i (hi : i < l.length), p l[i] = false) : l.find? p = none := by
  rw [List.find?_eq_none]
  intro x hx
  obtain ⟨i, hi, rfl⟩ := List.getElem_of_mem hx
  simp [h i hi]
theorem find_at {α : Type} (p : α → Bool) : ∀ (l : List α) (k : Nat) (hk : k < l.length), (∀ i (hi : i < l.length), i < k → p l[i] = false) → p l[k] = true → l.find? p = some l[k]
  | a :: l, 0, _, _, h2 => by simp at h2; simp [h2]
  | a :: l, k + 1, hk, h1, h2 => by
    have h0 := h1 0 (by simp) (by omega)
    simp at h0 h2
    rw [List.find?_cons, h0]
    exact find_at p l k (by simpa using hk) (fun i hi hik => by have := h1 (i + 1) (by simp; omega) (by omega); simpa using this) h2
theorem indexByte_mem : ∀ (l : List UInt8) (c : UInt8), (0 ≤ Lib.indexByte l c) ↔ l.contains c = true
  | [], c => by simp [Lib.indexByte]
  | b :: l, c => by
    have ih := indexByte_mem l c
    have hge := Lib.indexByte_ge l c
    unfold Lib.indexByte
    by_cases h : b = c
    · subst h; simp
    · have hb : (b == c) = false := by simpa using h
      have hb' : (c == b) = false := by simpa using fun e : c = b => h e.symm
      simp only [hb, Bool.false_eq_true, if_false, List.contains_cons, hb', Bool.false_or]
      rw [← ih]
      split
      · rename_i h1; simp at h1; omega
      · rename_i h1; simp at h1; omega
def signsAll : List (List UInt8) := signs2 ++ signs1.map fun c => [c]
theorem signOf_all (l : List UInt8) : signOf l = match signsAll.find? (hasPre · l) with | some t => t | none => [] := by
  unfold signOf signsAll
  rw [List.find?_append]
  cases h : signs2.find? (hasPre · l) with
  | some t => rfl
  | none =>
    simp only [Option.none_or]
    cases l with
    | nil =>
      have : (signs1.map fun c => [c]).find? (hasPre · []) = none := by decide
      rw [this]
    | cons c l =>
      have hp : ∀ d : UInt8, hasPre [d] (c :: l) = (c == d) := by intro d; unfold hasPre; rw [Bool.eq_iff_iff]; simp
      rw [List.find?_map]
      have he : ((hasPre · (c :: l)) ∘ fun d => [d]) = fun d => c == d := by funext d; exact hp d
      rw [he]
      cases hf : signs1.find? (fun d => c == d) with
      | none =>
        have : signs1.contains c = false := by
          rw [List.find?_eq_none] at hf
          cases hc : signs1.contains c with
          | false => rfl
          | true => exact absurd (by simp) (hf c (List.contains_iff_mem.1 hc))
        simp only [this, Bool.false_eq_true, if_false, Option.map_none]
      | some d =>
        have h1 := List.find?_some hf
        have h2 := List.mem_of_find?_eq_some hf
        simp at h1
        subst h1
        have : signs1.contains c = true := List.contains_iff_mem.2 h2
        simp only [this, if_true, Option.map_some]
def numVal (d : List UInt8) : Nat := d.foldl (fun n c => 10 * n + (c.toNat - 48)) 0
theorem numVal_snoc (d : List UInt8) (c : UInt8) : numVal (d ++ [c]) = 10 * numVal d + (c.toNat - 48) := by simp [numVal]
theorem numVal_bd (d : List UInt8) (h : ∀ c ∈ d, digC c = true) : numVal d < 10 ^ d.length := by
  suffices ∀ (d : List UInt8) (n k : Nat), (∀ c ∈ d, digC c = true) → n < 10 ^ k → d.foldl (fun n c => 10 * n + (c.toNat - 48)) n < 10 ^ (k + d.length) by
    have := this d 0 0 h (by simp); simpa [numVal] using this
  intro d
  induction d with
  | nil => intro n k _ hn; simpa using hn
  | cons c d ih =>
    intro n k hd hn
    have hc := hd c (by simp)
    simp [digC, digN] at hc
    have := ih (10 * n + (c.toNat - 48)) (k + 1) (fun x hx => hd x (by simp [hx])) (by rw [Nat.pow_succ]; omega)
    rw [show k + 1 + d.length = k + (c :: d).length by simp; omega] at this
    exact this
def headLet (r : List UInt8) : Bool := match r with | x :: _ => letC x | [] => false
def numRes (d r : List UInt8) : Int × Int :=
  if d.getD 0 0 == 48 && decide (d.length > 1) then (0, 3) else if d.length > 18 then (0, 5) else if headLet r then (0, 3) else ((numVal d : Nat), 0)
structure Tok where
  kind : Int
  text : List UInt8
  n : Int
  at_ : Int
def Tok.zero : Tok := ⟨0, [], 0, 0⟩
def tokC (t : Tok) : List Value := [.int .i64 t.kind, .string (mkS t.text), .int .i64 t.n, .int .i64 t.at_]
def tokAt (l : List UInt8) (p : Nat) : Tok × Nat × Int :=
  match l with
  | [] => (⟨0, [], 0, p⟩, p, 0)
  | c :: _ =>
    if letC c then
      if (l.takeWhile wordC).length > 16 then (Tok.zero, p, 5)
      else (⟨if decide (l.takeWhile wordC ∈ words) then 3 else 1, l.takeWhile wordC, 0, p⟩, p + (l.takeWhile wordC).length, 0)
    else if digC c then
      if (numRes (l.takeWhile digC) (l.drop (l.takeWhile digC).length)).2 = 0 then (⟨2, l.takeWhile digC, (numRes (l.takeWhile digC) (l.drop (l.takeWhile digC).length)).1, p⟩, p + (l.takeWhile digC).length, 0)
      else (Tok.zero, p, (numRes (l.takeWhile digC) (l.drop (l.takeWhile digC).length)).2)
    else if signOf l = [] then (Tok.zero, p, 10)
    else (⟨4, signOf l, 0, p⟩, p + (signOf l).length, 0)
theorem tokAt_cons (c : UInt8) (l : List UInt8) (p : Nat) : tokAt (c :: l) p =
    if letC c then
      if ((c :: l).takeWhile wordC).length > 16 then (Tok.zero, p, 5)
      else (⟨if decide ((c :: l).takeWhile wordC ∈ words) then 3 else 1, (c :: l).takeWhile wordC, 0, p⟩, p + ((c :: l).takeWhile wordC).length, 0)
    else if digC c then
      if (numRes ((c :: l).takeWhile digC) ((c :: l).drop ((c :: l).takeWhile digC).length)).2 = 0 then (⟨2, (c :: l).takeWhile digC, (numRes ((c :: l).takeWhile digC) ((c :: l).drop ((c :: l).takeWhile digC).length)).1, p⟩, p + ((c :: l).takeWhile digC).length, 0)
      else (Tok.zero, p, (numRes ((c :: l).takeWhile digC) ((c :: l).drop ((c :: l).takeWhile digC).length)).2)
    else if signOf (c :: l) = [] then (Tok.zero, p, 10)
    else (⟨4, signOf (c :: l), 0, p⟩, p + (signOf (c :: l)).length, 0) := rfl
def nextS (s : List UInt8) (at_ : Int) : Tok × Nat × Int :=
  if at_ < 0 ∨ (s.length : Int) < at_ then (Tok.zero, 0, 1)
  else tokAt (s.drop (at_.toNat + blankN false (s.drop at_.toNat))) (at_.toNat + blankN false (s.drop at_.toNat))
end Go.Tk
namespace Go.Proofs.Ytdbdkdmgfiiljaa
open Go.Vc Go.Tk
theorem indexByteString_spec (s : List UInt8) (c : Nat) (w : World) (K : Value → World → Prop) (hk : K (.int .i64 (Lib.indexByte s c.toUInt8)) w) : ExtOk Try.prog 81 #[.string (mkS s), .int .u8 (c : Int)] K w := by
  refine ⟨_, w, ?_, hk⟩
  rw [run_callFunc_extern Try.func81 (by kernel_rfl) (by kernel_rfl) (by kernel_rfl) (e := Extern.BytealgIndexByte.indexByte) (by kernel_rfl), Lib.run_indexByteString]
  rfl
theorem IndexByte_spec (s : List UInt8) (c : Nat) (w : World) : Calls Try.prog 63 #[.string (mkS s), .int .u8 (c : Int)] w (Ret fun v w' => v = .int .i64 (Lib.indexByte s c.toUInt8) ∧ w = w') := by
  refine strings_IndexByte_ok _ _ _ _ (call_then (internal_stringslite_IndexByte_ok s c (fun v w' => v = .int .i64 (Lib.indexByte s c.toUInt8) ∧ w = w') w (indexByteString_spec s c w _ ⟨_, rfl, rfl, rfl⟩)) ?_)
  rintro _ _ ⟨rfl, rfl⟩
  exact ⟨_, rfl, rfl, rfl⟩
theorem HasPrefix_spec (s p : List UInt8) (w : World) : Calls Try.prog 66 #[.string (mkS s), .string (mkS p)] w (Ret fun v w' => v = .bool (hasPre p s) ∧ w = w') := by
  refine strings_HasPrefix_ok _ _ _ _ (call_then (internal_stringslite_HasPrefix_ok s p (fun v w' => v = .bool (hasPre p s) ∧ w = w') w ⟨fun h => ?_, fun _ => ⟨?_, rfl⟩⟩) ?_)
  · simp at h; omega
  · rw [Int.toNat_natCast, hasPre_dec]
  · rintro _ _ ⟨rfl, rfl⟩
    exact ⟨_, rfl, rfl, rfl⟩
theorem drop_cons (s : List UInt8) (k : Nat) (h : k < s.length) : s.drop k = s.getD k 0 :: s.drop (k + 1) := by
  rw [List.drop_eq_getElem_cons h]; simp [List.getD, h]
theorem isBl_of (c : UInt8) : isBl c = (((c.toNat : Int) == 9) || ((c.toNat : Int) == 10) || ((c.toNat : Int) == 13) || ((c.toNat : Int) == 32)) := by
  have : ∀ n : Fin 256, isBl n.val.toUInt8 = (((n.val.toUInt8.toNat : Int) == 9) || ((n.val.toUInt8.toNat : Int) == 10) || ((n.val.toUInt8.toNat : Int) == 13) || ((n.val.toUInt8.toNat : Int) == 32)) := by decide +kernel
  have h := this ⟨c.toNat, c.toNat_lt⟩
  have e : c.toNat.toUInt8 = c := by simp
  simpa only [e] using h
theorem hash_of (c : UInt8) (h : ((c.toNat : Int) == 35) = true) : c = 35 := by
  have h1 : c.toNat = 35 := by simp at h; omega
  have e : c.toNat.toUInt8 = c := by simp
  rw [← e, h1]; rfl
theorem hash_not (c : UInt8) (h : ((c.toNat : Int) == 35) = false) : c ≠ 35 := by
  rintro rfl; simp at h
theorem blank_spec (s : List UInt8) (hs : s.length < 2 ^ 40) (w : World) : Calls Try.prog 34 #[.string (mkS s)] w (Ret fun v w' => v = .int .i64 (blankN false s : Nat) ∧ w = w') := by
  refine token_blank_ok _ _ _ ?_
  refine ⟨fun n w' => w = w' ∧ ∃ k : Nat, n = k ∧ k ≤ s.length ∧ blankN false s = k + blankN false (s.drop k), fun n _ => s.length - n.toNat, ⟨rfl, 0, rfl, Nat.zero_le _, by simp⟩, ?_⟩
  rintro _ _ _ ⟨rfl, k, rfl, hk, hb⟩
  refine cond_intro (fun hx => ?_) fun hx => ?_
  · have hlt : k < s.length := by simpa using hx
    have hd := drop_cons s k hlt
    have hkk : ((k : Int)).toNat = k := by omega
    rw [hkk]
    generalize hc : s.getD k 0 = c at hd ⊢
    refine ⟨by omega, fun n w' => w = w' ∧ ∃ j : Nat, n = j ∧ k ≤ j ∧ j < s.length ∧ blankN false s = j + 1 + blankN false (s.drop (j + 1)), ?_, ?_⟩
    · refine cond_intro (fun h35 => ?_) fun h35 => ?_
      · refine ⟨by omega, call_then (IndexByte_spec (s.drop k) 10 w) ?_⟩
        rintro _ _ ⟨rfl, rfl⟩
        have hc35 := hash_of c h35
        subst hc35
        rw [hd] at hb ⊢
        refine ⟨_, rfl, ?_⟩
        have e10 : (10 : Nat).toUInt8 = 10 := rfl
        rw [e10]
        have hl : (s.drop k).length = s.length - k := by simp
        rcases blank_hash (s.drop (k + 1)) with ⟨h1, h2⟩ | ⟨e, h1, h2, h3⟩
        · refine cond_t (by simpa using h1) ⟨?_, rfl⟩
          rw [hb, h2, ← hd, hl]; congr 1; omega
        · refine cond_f (by rw [h1]; simp) ?_
          rw [← hd, hl] at h2
          rw [h1, wrap_in (by omega) (by omega)]
          refine ⟨rfl, k + e, by omega, by omega, by omega, ?_⟩
          rw [hb, h3, ← hd, List.drop_drop]
          rw [show k + (e + 1) = k + e + 1 by omega]; omega
      · refine ⟨fun x w' => w = w' ∧ x = isBl c, ?_, ?_⟩
        · have hbl := isBl_of c
          refine cond_intro (fun h9 => ?_) fun h9 => ?_
          · exact ⟨rfl, by rw [hbl, h9]; simp⟩
          · refine cond_intro (fun h10 => ?_) fun h10 => ?_
            · exact ⟨rfl, by rw [hbl, h9, h10]; simp⟩
            · refine cond_intro (fun h13 => ?_) fun h13 => ?_
              · exact ⟨rfl, by rw [hbl, h9, h10, h13]; simp⟩
              · exact ⟨rfl, by rw [hbl, h9, h10, h13]; simp⟩
        · rintro _ x _ ⟨rfl, rfl⟩
          refine cond_intro (fun hx => ?_) fun hx => ?_
          · refine ⟨rfl, k, rfl, Nat.le_refl _, hlt, ?_⟩
            rw [hb, hd, blank_space c _ hx]; omega
          · refine ⟨?_, rfl⟩
            rw [hb, hd, blank_other c _ hx (hash_not c h35)]; simp
    · rintro _ _ _ ⟨rfl, j, rfl, hkj, hj, hbj⟩
      rw [wrap_in (by omega) (by omega)]
      exact ⟨⟨rfl, j + 1, by omega, by omega, hbj⟩, by dsimp only; omega⟩
  · have hge : ¬ k < s.length := by simpa using hx
    refine ⟨?_, rfl⟩
    rw [hb, List.drop_of_length_le (by omega)]; simp [blankN]
theorem sign_spec (s : List UInt8) (hs : s ≠ []) (w : World) : Calls Try.prog 41 #[.string (mkS s)] w (Ret fun v w' => v = .string (mkS (signOf s)) ∧ Ext w w') := by
  refine token_sign_ok _ _ _ ?_
  intro b w1 hb hw1
  have hbox : Box w1 b (signs2.map fun s => .string (mkS s)) := Box.new hb hw1
  have he : Ext w w1 := .alloc hw1
  refine ⟨fun x w' => w1 = w' ∧ ∃ k : Nat, x = k ∧ k ≤ 6 ∧ ∀ i (h : i < signs2.length), i < k → hasPre signs2[i] s = false, fun x _ => 6 - x.toNat, ⟨rfl, 0, rfl, by omega, fun _ _ h => absurd h (Nat.not_lt_zero _)⟩, ?_⟩
  rintro _ _ _ ⟨rfl, k, rfl, hk, hall⟩
  refine cond_intro (fun hx => ?_) fun hx => ?_
  · have hlt : k < 6 := by simp at hx; omega
    have hlt' : k < signs2.length := hlt
    refine ⟨by omega, signs2[k], ?_, call_then (HasPrefix_spec s _ w1) ?_⟩
    · rw [add_mk]; exact hbox.cell (by simp [hlt'])
    · rintro _ _ ⟨rfl, rfl⟩
      refine ⟨_, rfl, cond_intro (fun hp => ?_) fun hp => ?_⟩
      · refine ⟨?_, he⟩
        unfold signOf
        rw [find_at (hasPre · s) signs2 k hlt' hall hp]
      · rw [wrap_in (by omega) (by omega)]
        refine ⟨⟨rfl, k + 1, by omega, by omega, fun i h hi => ?_⟩, by dsimp only; omega⟩
        rcases Nat.lt_or_ge i k with h' | h'
        · exact hall i h h'
        · obtain rfl : i = k := by omega
          exact hp
  · have h6 : k = 6 := by simp at hx; omega
    subst h6
    have hn : signs2.find? (hasPre · s) = none := find_none_of _ _ fun i hi => hall i hi hi
    cases s with
    | nil => exact absurd rfl hs
    | cons c l =>
      have e0 : ((c :: l).getD 0 0) = c := rfl
      rw [e0]
      refine ⟨⟨by omega, by simp⟩, call_then (IndexByte_spec _ c.toNat w1) ?_⟩
      rintro _ _ ⟨rfl, rfl⟩
      refine ⟨_, rfl, ?_⟩
      have ec : c.toNat.toUInt8 = c := by simp
      rw [ec]
      have hm := indexByte_mem signs1 c
      have hsig : signOf (c :: l) = if signs1.contains c then [c] else [] := by unfold signOf; rw [hn]
      change cond (decide (Lib.indexByte signs1 c ≥ 0)) _ _
      refine cond_intro (fun h => ?_) fun h => ?_
      · refine ⟨⟨by omega, by simp; omega⟩, ?_, he⟩
        rw [hsig, if_pos (hm.1 (by simpa using h))]; rfl
      · refine ⟨?_, he⟩
        rw [hsig, if_neg (fun hh => by have := hm.2 hh; simp at h; omega)]
def byteV (c : UInt8) : Value := .int .u8 (c.toNat : Int)
theorem freeze_cell (w : World) (a p : Addr) (n : Nat) : (w.freeze a n).cell? p = w.cell? p := by
  unfold World.freeze
  split
  · rfl
  · simp only [World.cell?, Array.getElem?_modify]
    by_cases h : a.block = p.block
    · simp only [h, if_true]
      cases w.heap[p.block]? with
      | none => rfl
      | some o => cases o <;> rfl
    · simp [h]
theorem freeze_ext (w w1 : World) (a : Addr) (n : Nat) (h : Ext w w1) (ha : w.heap.size ≤ a.block) : Ext w (w1.freeze a n) := by
  unfold World.freeze
  split
  · exact h
  · refine ⟨h.os, h.tape, h.output, by simpa using h.size, fun k hk => ?_⟩
    simp only [Array.getElem?_modify]
    rw [if_neg (by omega)]
    exact Go.RowKit.Below.block h k hk
def byteCells (s : List UInt8) (k : Nat) : Array Value := (mkS s).data.map (fun b : UInt8 => Value.int .u8 (b.toNat : Int)) ++ Array.replicate k (Value.int .u8 0)
theorem bytes_spec (T E : TypeId) (P : Program) (h1 : P.underlying 9 = some .string) (h2 : P.underlying T = some (.slice E)) (h3 : P.underlying E = some (.int .u8)) (s : List UInt8) (w : World) (K : Value → World → Prop)
    (hk : ∀ p c w', CellsAt w' p (s.map byteV) → Ext w w' → K (.slice (some p) s.length c) w') : SemOk P (convert 9 T (.string (mkS s))) K w := by
  obtain ⟨cap, hcap⟩ : ∃ cap, cap = (Question.appendCap (mkS s).size 0 E).cut (w.tape w.drawn (.appendCap (mkS s).size 0 E)) := ⟨_, rfl⟩
  have hrun : (convert 9 T (.string (mkS s))).run P w = .ok (.slice (some ⟨w.heap.size, 0, none⟩) s.length cap)
      ((w.drew.alloc (.cells (byteCells s (cap - (mkS s).size)) E)).freeze ⟨w.heap.size, (byteCells s (cap - (mkS s).size)).size, none⟩ 1) := by
    simp only [convert, underlying, Sem.run_bind, run_program, Result.andThen_ok, h1, h2, h3, Sem.run_pure, Conv.stringToBytes, run_choose, Question.forced, Bool.false_eq_true, if_false, newRow, run_newObj, markStringish, run_shape]
    simp only [World.shape?, Array.getElem?_push_size, Result.andThen_ok, run_freeze, ← hcap]
    rfl
  refine ⟨_, _, hrun, hk _ _ _ ?_ ?_⟩
  · intro i hi
    rw [freeze_cell, add_mk]
    have hb : Box (w.drew.alloc (.cells (byteCells s (cap - (mkS s).size)) E)) w.heap.size _ := Box.new (w := w.drew) rfl rfl
    refine hb.cell ?_
    simp only [Nat.zero_add, byteCells, Array.toList_append, Array.toList_map]
    rw [List.getElem?_append_left (by simpa [mkS] using hi)]
    simp only [List.length_map] at hi
    simp [mkS, byteV, hi]
  · exact freeze_ext w _ _ _ ((Ext.drew rfl).trans (.alloc rfl)) (Nat.le_refl _)
theorem str_ty : Try.prog.underlying 9 = some .string := by kernel_rfl
theorem bytes_ty : Try.prog.underlying 97 = some (.slice 5) := by kernel_rfl
theorem byte_ty : Try.prog.underlying 5 = some (.int .u8) := by kernel_rfl
theorem number_spec (d r : List UInt8) (hd : d ≠ []) (hdig : ∀ c ∈ d, digC c = true) (hl : d.length < 2 ^ 40) (w : World) :
    Calls Try.prog 40 #[.string (mkS d), .string (mkS r)] w (Ret fun v w' => v = .tuple #[.int .i64 (numRes d r).1, .int .i64 (numRes d r).2] ∧ Ext w w') := by
  refine token_number_ok _ _ _ _ ?_
  have hpos : 0 < d.length := by cases d with | nil => exact absurd rfl hd | cons _ _ => simp
  refine ⟨by omega, fun _ => ?_⟩
  have e48 : ((((d.getD 0 0).toNat : Int) == 48) && decide ((d.length : Int) > 1)) = (d.getD 0 0 == 48 && decide (d.length > 1)) := by
    have : (((d.getD 0 0).toNat : Int) == 48) = (d.getD 0 0 == 48) := by
      rw [Bool.eq_iff_iff]; simp [← UInt8.toNat_inj]
      omega
    rw [this]; congr 1
    rw [Bool.eq_iff_iff]; simp; omega
  rw [e48]
  unfold numRes
  refine cond_intro (fun h => ?_) fun h => ?_
  · exact ⟨by rw [if_pos h], Ext.refl _⟩
  · have hn : ¬ (d.getD 0 0 == 48 && decide (d.length > 1)) = true := by rw [h]; simp
    simp only [if_neg hn]
    refine cond_intro (fun h18 => ?_) fun h18 => ?_
    · have : d.length > 18 := by simp at h18; omega
      exact ⟨by rw [if_pos this], Ext.refl _⟩
    · have h18' : ¬ d.length > 18 := by simp at h18; omega
      simp only [if_neg h18']
      refine ⟨fun x w' => w = w' ∧ x = headLet r, ?_, ?_⟩
      · cases r with
        | nil => exact ⟨rfl, rfl⟩
        | cons x r =>
          refine ⟨⟨by omega, by simp⟩, call_then (letter_spec _ (UInt8.toNat_lt _) w) ?_⟩
          rintro _ _ ⟨rfl, rfl⟩
          exact ⟨_, rfl, rfl, rfl⟩
      · rintro _ x _ ⟨rfl, rfl⟩
        refine cond_intro (fun hx => ?_) fun hx => ?_
        · exact ⟨by rw [if_pos hx], Ext.refl _⟩
        · have hn2 : ¬ headLet r = true := by rw [hx]; simp
          simp only [if_neg hn2]
          refine bytes_spec _ _ _ str_ty bytes_ty byte_ty d w _ fun p c w1 hc he => ?_
          refine ⟨_, _, _, rfl, fun n x w' => w1 = w' ∧ ∃ k : Nat, x = k ∧ k ≤ d.length ∧ n = (numVal (d.take k) : Nat), fun _ x _ => d.length - x.toNat, ⟨rfl, 0, rfl, Nat.zero_le _, rfl⟩, ?_⟩
          rintro _ _ _ _ ⟨rfl, k, rfl, hk, rfl⟩
          refine cond_intro (fun hx => ?_) fun hx => ?_
          · have hlt : k < d.length := by simpa using hx
            have hcell := hc k (by simpa using hlt)
            simp only [List.getElem_map, byteV] at hcell
            refine ⟨by omega, (d[k].toNat : Int), by simpa using hcell, ?_⟩
            have hdk := hdig d[k] (List.getElem_mem hlt)
            simp [digC, digN] at hdk
            have hbd : numVal (d.take k) < 10 ^ k := by
              have := numVal_bd (d.take k) (fun c hc => hdig c (List.mem_of_mem_take hc))
              rwa [List.length_take, Nat.min_eq_left (by omega)] at this
            have hbd2 : 10 ^ k ≤ 10 ^ 17 := Nat.pow_le_pow_right (by omega) (by omega)
            have e1 : IntKind.u8.wrap ((d[k].toNat : Int) - 48) = (d[k].toNat : Int) - 48 := by rw [IntKind.wrap_u8]; omega
            rw [e1, wrap_in (n := (d[k].toNat : Int) - 48) (by omega) (by omega), wrap_in (n := 10 * _) (by omega) (by omega), wrap_in (by omega) (by omega), wrap_in (n := (k : Int) + 1) (by omega) (by omega)]
            refine ⟨⟨rfl, k + 1, by omega, by omega, ?_⟩, by dsimp only; omega⟩
            rw [List.take_succ_eq_append_getElem hlt, numVal_snoc]; omega
          · have hge : ¬ k < d.length := by simpa using hx
            exact ⟨by rw [List.take_of_length_le (by omega)], he⟩
end Go.Proofs.Ytdbdkdmgfiiljaa
namespace Go.Proofs.Ytdbdkdmgfiiljaa
open Go.Vc Go.Tk
theorem takeWhile_le {α : Type} (p : α → Bool) (l : List α) : (l.takeWhile p).length ≤ l.length := by
  have := List.takeWhile_prefix p (l := l); exact this.length_le
theorem mem_takeWhile {α : Type} (p : α → Bool) : ∀ (l : List α), ∀ c ∈ l.takeWhile p, p c = true
  | [], _, h => by cases h
  | a :: l, c, h => by
    rw [List.takeWhile_cons] at h
    split at h
    · rename_i ha
      cases h with
      | head => exact ha
      | tail _ h => exact mem_takeWhile p l c h
    · cases h
theorem digC_of_letC {c : UInt8} (h : letC c = true) : digC c = false := by
  simp only [letC, digC, letN, digN] at *
  rw [Bool.eq_false_iff]
  simp at *
  omega
theorem signOf_le (l : List UInt8) : (signOf l).length ≤ l.length := by
  unfold signOf
  split
  · rename_i t h
    have := List.find?_some h
    simp only [hasPre, beq_iff_eq] at this
    rw [← this]; simp; omega
  · split
    · split <;> simp
    · simp
set_option maxHeartbeats 1000000 in
theorem Next_spec (s : List UInt8) (hs : s.length < 2 ^ 40) (at_ : Int) (w : World) :
    Calls Try.prog 18 #[.string (mkS s), .int .i64 at_] w (Ret fun v w' => v = .tuple #[.agg ⟨tokC (nextS s at_).1⟩, .int .i64 (nextS s at_).2.1, .int .i64 (nextS s at_).2.2] ∧ Ext w w') := by
  refine token_Next_ok _ _ _ _ ?_
  intro b w1 hb hw1
  have o := (Own.start w).alloc hb hw1
  intro _
  refine cond_intro (fun hx => ?_) fun hx => ?_
  · refine ⟨o.wr 0 rfl rfl, fun w2 hw2 => ?_⟩
    have o := o.sets 0 hw2 rfl
    refine ⟨_, _, _, _, (o.at 0 rfl).whole, ?_, o.done⟩
    have : nextS s at_ = (Tok.zero, 0, 1) := by unfold nextS; rw [if_pos (by simp at hx; omega)]
    rw [this]; rfl
  · simp at hx
    obtain ⟨k, rfl⟩ := Int.eq_ofNat_of_zero_le hx.1
    have hk : k ≤ s.length := by omega
    have hkk : ((k : Nat) : Int).toNat = k := Int.toNat_natCast k
    rw [hkk]
    have hns : nextS s (k : Int) = tokAt (s.drop (k + blankN false (s.drop k))) (k + blankN false (s.drop k)) := by
      unfold nextS; rw [if_neg (by omega), hkk]
    rw [hns]
    have hble := blank_le false (s.drop k)
    simp only [List.length_drop] at hble
    refine ⟨by omega, call_then (blank_spec (s.drop k) (by simp; omega) w1) ?_⟩
    rintro _ _ ⟨rfl, rfl⟩
    generalize hp : k + blankN false (s.drop k) = p
    have hple : p ≤ s.length := by omega
    have hwp : IntKind.i64.wrap ((k : Int) + (blankN false (s.drop k) : Nat)) = (p : Int) := by rw [wrap_in (by omega) (by omega)]; omega
    refine ⟨_, rfl, ?_⟩
    rw [hwp]
    refine ⟨by omega, ?_⟩
    intro b1 w4 hb1 hw4
    have o := o.alloc hb1 hw4
    refine ⟨o.wr 0 rfl rfl, fun w5 hw5 => ?_⟩
    have o := o.sets 0 hw5 rfl
    rw [Int.toNat_natCast]
    generalize hl : s.drop p = l
    have hll : l.length = s.length - p := by rw [← hl]; simp
    -- what is in the boxes when the ways meet
    refine ⟨fun e w' => ∃ t : Tok, ∃ q : Nat, tokAt l p = (if e = 0 then (t, q, 0) else (Tok.zero, p, e)) ∧ (e = 0 → q = p + t.text.length ∧ t.text.length < 2 ^ 40) ∧ Own w.heap.size w w' [(b1, tokC t), (b, tokC Tok.zero)], ?_, ?_⟩
    · cases l with
      | nil =>
        refine ⟨_, _, _, _, (o.at 0 rfl).whole, o.wr 1 rfl rfl, fun w6 hw6 => ?_⟩
        have o := o.sets 1 hw6 rfl
        exact ⟨_, _, _, _, (o.at 1 rfl).whole, rfl, o.done⟩
      | cons c l =>
        refine ⟨⟨by omega, by simp⟩, call_then (letter_spec _ (UInt8.toNat_lt _) w5) ?_⟩
        rintro _ _ ⟨rfl, rfl⟩
        have e0 : (c :: l).getD 0 0 = c := rfl
        rw [e0]
        refine ⟨_, rfl, cond_intro (fun hlet => ?_) fun hlet => ?_⟩
        · refine call_then (run_wordly_spec _ (by omega) w5) ?_
          rintro _ _ ⟨rfl, rfl⟩
          refine ⟨_, rfl, o.wr 0 rfl rfl, fun w9 hw9 => ?_⟩
          have o := o.set 0 hw9 rfl
          refine ⟨o.wr 0 rfl rfl, fun w10 hw10 => ?_⟩
          have o := o.set 0 hw10 rfl
          refine ⟨fun w' => Own w.heap.size w w' [(b1, tokC ⟨if decide ((c :: l).takeWhile wordC ∈ words) then 3 else 1, (c :: l).takeWhile wordC, 0, p⟩), (b, tokC Tok.zero)], ?_, ?_⟩
          · refine ⟨_, (o.at 0 rfl).cell rfl, call_then (Word_spec _ w10) ?_⟩
            rintro _ w11 ⟨rfl, he⟩
            have o := o.ext he
            refine ⟨_, rfl, cond_intro (fun hwd => ?_) fun hwd => ?_⟩
            · refine ⟨o.wr 0 rfl rfl, fun w12 hw12 => ?_⟩
              have o := o.set 0 hw12 rfl
              rw [hwd]; exact o
            · rw [hwd]; exact o
          · rintro _ w13 o
            refine ⟨_, (o.at 0 rfl).cell rfl, ?_⟩
            have htk : tokAt (c :: l) p = if ((c :: l).takeWhile wordC).length > 16 then (Tok.zero, p, 5) else (⟨if decide ((c :: l).takeWhile wordC ∈ words) then 3 else 1, (c :: l).takeWhile wordC, 0, p⟩, p + ((c :: l).takeWhile wordC).length, 0) := by
              rw [tokAt_cons, if_pos (show letC c = true from hlet)]
            refine cond_intro (fun h16 => ?_) fun h16 => ?_
            · refine ⟨_, 0, ?_, fun h => absurd h (by decide), o⟩
              rw [htk, if_pos (by simp at h16; omega)]; rfl
            · refine ⟨_, _, ?_, fun _ => ⟨rfl, by have := takeWhile_le wordC (c :: l); dsimp only; omega⟩, o⟩
              rw [htk, if_neg (by simp at h16; omega)]; rfl
        · have hlet' : letC c = false := hlet
          refine ⟨⟨by omega, by simp⟩, call_then (digit_spec _ w5) ?_⟩
          rintro _ _ ⟨rfl, rfl⟩
          refine ⟨_, rfl, cond_intro (fun hdig => ?_) fun hdig => ?_⟩
          · have hdig' : digC c = true := hdig
            refine call_then (run_digit_spec _ (by omega) w5) ?_
            rintro _ _ ⟨rfl, rfl⟩
            have hd0 : (c :: l).takeWhile digC ≠ [] := by rw [List.takeWhile_cons, hdig']; simp
            have hdl := takeWhile_le digC (c :: l)
            refine ⟨_, rfl, o.wr 0 rfl rfl, fun w16 hw16 => ?_⟩
            have o := o.set 0 hw16 rfl
            refine ⟨o.wr 0 rfl rfl, fun w17 hw17 => ?_⟩
            have o := o.set 0 hw17 rfl
            intro w18 hw18
            have o := o.drew hw18
            have htk : tokAt (c :: l) p = if (numRes ((c :: l).takeWhile digC) ((c :: l).drop ((c :: l).takeWhile digC).length)).2 = 0 then (⟨2, (c :: l).takeWhile digC, (numRes ((c :: l).takeWhile digC) ((c :: l).drop ((c :: l).takeWhile digC).length)).1, p⟩, p + ((c :: l).takeWhile digC).length, 0)
                else (Tok.zero, p, (numRes ((c :: l).takeWhile digC) ((c :: l).drop ((c :: l).takeWhile digC).length)).2) := by
              rw [tokAt_cons, if_neg (by rw [hlet']; simp), if_pos hdig']
            have hcell := (o.at 0 rfl).cell (i := 1) rfl
            refine ⟨fun u => u.cell? ⟨b1, 1, none⟩ = some (.string (mkS ((c :: l).takeWhile digC))), hcell, _, fun u hu => hu, _, fun u hu => hu, by omega, ?_⟩
            rw [Int.toNat_natCast]
            refine call_then (number_spec _ _ hd0 (mem_takeWhile _ _) (by omega) w18) ?_
            rintro _ w19 ⟨rfl, he⟩
            have o := o.ext he
            refine ⟨_, _, rfl, o.wr 0 rfl rfl, fun w20 hw20 => ?_⟩
            have o := o.set 0 hw20 rfl
            refine ⟨⟨2, (c :: l).takeWhile digC, _, p⟩, p + ((c :: l).takeWhile digC).length, ?_, fun _ => ⟨rfl, by dsimp only; omega⟩, o⟩
            rw [htk]
          · have hdig' : digC c = false := hdig
            refine call_then (sign_spec (c :: l) (by simp) w5) ?_
            rintro _ w23 ⟨rfl, he⟩
            have o := o.ext he
            refine ⟨_, rfl, o.wr 0 rfl rfl, fun w24 hw24 => ?_⟩
            have o := o.set 0 hw24 rfl
            refine ⟨o.wr 0 rfl rfl, fun w25 hw25 => ?_⟩
            have o := o.set 0 hw25 rfl
            refine ⟨_, (o.at 0 rfl).cell rfl, ?_⟩
            have htk : tokAt (c :: l) p = if signOf (c :: l) = [] then (Tok.zero, p, 10) else (⟨4, signOf (c :: l), 0, p⟩, p + (signOf (c :: l)).length, 0) := by
              rw [tokAt_cons, if_neg (by rw [hlet']; simp), if_neg (by rw [hdig']; simp)]
            refine cond_intro (fun hsg => ?_) fun hsg => ?_
            · refine ⟨⟨4, signOf (c :: l), 0, p⟩, 0, ?_, fun h => absurd h (by decide), o⟩
              rw [htk, if_pos (by simpa using hsg)]; rfl
            · refine ⟨⟨4, signOf (c :: l), 0, p⟩, _, ?_, fun _ => ⟨rfl, by have := signOf_le (c :: l); dsimp only; omega⟩, o⟩
              rw [htk, if_neg (by simpa using hsg)]; rfl
    · rintro _ e w26 ⟨t, q, htk, hq, o⟩
      rw [htk]
      refine cond_intro (fun he => ?_) fun he => ?_
      · have he' : ¬ e = 0 := by simpa using he
        rw [if_neg he']
        refine ⟨o.wr 1 rfl rfl, fun w27 hw27 => ?_⟩
        have o := o.sets 1 hw27 rfl
        exact ⟨_, _, _, _, (o.at 1 rfl).whole, rfl, o.done⟩
      · have he' : e = 0 := by simpa using he
        subst he'
        obtain ⟨hq, hfit⟩ := hq rfl
        subst hq
        simp only [if_true]
        have hww : IntKind.i64.wrap ((p : Int) + (t.text.length : Nat)) = ((p + t.text.length : Nat) : Int) := by rw [wrap_in (by omega) (by omega)]; omega
        intro w28 hw28
        have o := o.drew hw28
        refine ⟨fun u => Box u b1 (tokC t), o.at 0 rfl, _, _, _, _, fun u hu => hu.whole, _, fun u hu => hu.cell rfl, o.wr 1 rfl rfl, fun w27 hw27 => ?_⟩
        have o := o.sets 1 hw27 rfl
        exact ⟨o.at 0 rfl, _, _, _, _, (o.at 1 rfl).whole, by rw [hww]; rfl, o.done⟩
end Go.Proofs.Ytdbdkdmgfiiljaa
namespace Go.Proofs.Ytdbdkdmgfiiljaa
open Go.Vc
def R08_Words_wp (K : Value → World → Prop) (w : World) : Prop :=
  ∀ (b : Nat) (w1 : World), b = w.heap.size → w1 = w.alloc (.cells #[.string (mkS [99, 104, 97, 110]), .string (mkS [112, 114, 111, 99]), .string (mkS [109, 97, 105, 110]), .string (mkS [118, 97, 114]), .string (mkS [105, 102]), .string (mkS [101, 108, 115, 101]), .string (mkS [119, 104, 105, 108, 101]), .string (mkS [115, 101, 108, 101, 99, 116]), .string (mkS [99, 97, 115, 101]), .string (mkS [119, 104, 101, 110]), .string (mkS [97, 102, 116, 101, 114]), .string (mkS [115, 116, 97, 114, 116]), .string (mkS [115, 108, 101, 101, 112]), .string (mkS [114, 97, 110, 100, 111, 109]), .string (mkS [112, 114, 105, 110, 116]), .string (mkS [97, 115, 115, 101, 114, 116]), .string (mkS [115, 107, 105, 112]), .string (mkS [115, 116, 111, 112])] 9) →
  K (.slice (some ⟨b, 0, none⟩) 18 18) w1
theorem R08_Words_ok (K : Value → World → Prop) (w : World) (h : R08_Words_wp K w) : Calls Try.prog 31 #[] w (Ret K) :=
  calls_of {} Try.func31 (by kernel_rfl) h
def R08_Signs_wp (K : Value → World → Prop) (w : World) : Prop :=
  ∀ (b : Nat) (w1 : World), b = w.heap.size → w1 = w.alloc (.cells #[.string (mkS [61, 61]), .string (mkS [33, 61]), .string (mkS [60, 61]), .string (mkS [62, 61]), .string (mkS [38, 38]), .string (mkS [124, 124]), .string (mkS [123]), .string (mkS [125]), .string (mkS [40]), .string (mkS [41]), .string (mkS [91]), .string (mkS [93]), .string (mkS [59]), .string (mkS [44]), .string (mkS [58]), .string (mkS [61]), .string (mkS [33]), .string (mkS [63]), .string (mkS [43]), .string (mkS [45]), .string (mkS [42]), .string (mkS [47]), .string (mkS [37]), .string (mkS [60]), .string (mkS [62])] 9) →
  K (.slice (some ⟨b, 0, none⟩) 25 25) w1
theorem R08_Signs_ok (K : Value → World → Prop) (w : World) (h : R08_Signs_wp K w) : Calls Try.prog 32 #[] w (Ret K) :=
  calls_of {} Try.func32 (by kernel_rfl) h
def R08_In_wp (lA : Option Addr) (lN : Nat) (_lC : Nat) (s : List UInt8) (K : Value → World → Prop) (w : World) : Prop :=
  ∃ (I : Int → World → Prop) (m : Int → World → Nat), I 0 w ∧
  ∀ (_g : Nat → Value) (i : Int) (w1 : World), I i w1 →
  cond (decide (i < (lN : Int)))
    (((0 : Int) ≤ i ∧ i < (lN : Int)) ∧
    ptrOr lA (fun a =>
      ∃ (x : List UInt8), w1.cell? (a.add (i.toNat * 1)) = some (.string (mkS x)) ∧
      cond (x == s)
        (K (.bool true) w1)
        (I (IntKind.i64.wrap (i + 1)) w1 ∧ m (IntKind.i64.wrap (i + 1)) w1 < m i w1)))
    (K (.bool false) w1)
theorem R08_In_ok (lA : Option Addr) (lN : Nat) (lC : Nat) (s : List UInt8) (K : Value → World → Prop) (w : World) (h : R08_In_wp lA lN lC s K w) : Calls Try.prog 30 #[.slice lA lN lC, .string (mkS s)] w (Ret K) :=
  calls_of { loops := [(26, [(5, .int .i64)])] } Try.func30 (by kernel_rfl) h
def R08_Letter_wp (c : Int) (K : Value → World → Prop) (w : World) : Prop :=
  ∀ (_g : Nat → Value),
  K (.bool (cond (decide (c ≥ 97)) ((decide (c ≤ 122)) || (cond (decide (c ≥ 65)) ((decide (c ≤ 90)) || (c == 95)) (c == 95))) (cond (decide (c ≥ 65)) ((decide (c ≤ 90)) || (c == 95)) (c == 95)))) w
theorem R08_Letter_ok (c : Int) (K : Value → World → Prop) (w : World) (h : R08_Letter_wp c K w) : Calls Try.prog 29 #[.int .u8 c] w (Ret K) :=
  calls_of { merges := [(6, [2])] } Try.func29 (by kernel_rfl) h
def R08_Digit_wp (c : Int) (K : Value → World → Prop) (w : World) : Prop :=
  ∀ (_g : Nat → Value),
  K (.bool ((decide (c ≥ 48)) && (decide (c ≤ 57)))) w
theorem R08_Digit_ok (c : Int) (K : Value → World → Prop) (w : World) (h : R08_Digit_wp c K w) : Calls Try.prog 27 #[.int .u8 c] w (Ret K) :=
  calls_of { merges := [(6, [2])] } Try.func27 (by kernel_rfl) h
def R08_Name_wp (s : List UInt8) (K : Value → World → Prop) (w : World) : Prop :=
  ∃ (I : Int → World → Prop) (m : Int → World → Nat), I 0 w ∧
  ∀ (_g : Nat → Value) (i : Int) (w1 : World), I i w1 →
  cond (decide (i < (s.length : Int)))
    (∃ (J : Bool → World → Prop),
    (((0 : Int) ≤ i ∧ i < (s.length : Int)) ∧
      Calls Try.prog 29 #[.int .u8 ((s.getD i.toNat 0).toNat : Int)] w1 (Ret fun v w2 => -- retraceref08.Letter
        ∃ (x : Bool), v = .bool x ∧
        cond (!x)
          (cond (i == 0)
            (J true w2)
            (((0 : Int) ≤ i ∧ i < (s.length : Int)) ∧
            Calls Try.prog 27 #[.int .u8 ((s.getD i.toNat 0).toNat : Int)] w2 (Ret fun v1 w3 => -- retraceref08.Digit
              ∃ (x1 : Bool), v1 = .bool x1 ∧
              J (!x1) w3)))
          (J false w2))) ∧
    ∀ (_g1 : Nat → Value) (x2 : Bool) (w4 : World), J x2 w4 →
    cond (x2)
      (K (.bool false) w4)
      (I (IntKind.i64.wrap (i + 1)) w4 ∧ m (IntKind.i64.wrap (i + 1)) w4 < m i w1))
    (cond (decide ((s.length : Int) ≥ 1))
      (cond (decide ((s.length : Int) ≤ 16))
        (Calls Try.prog 31 #[] w1 (Ret fun v2 w5 => -- retraceref08.Words
          ∃ (xA : Option Addr) (xN : Nat) (xC : Nat), v2 = .slice xA xN xC ∧
          Calls Try.prog 30 #[.slice xA xN xC, .string (mkS s)] w5 (Ret fun v3 w6 => -- retraceref08.In
            ∃ (x3 : Bool), v3 = .bool x3 ∧
            K (.bool (!x3)) w6)))
        (K (.bool false) w1))
      (K (.bool false) w1))
theorem R08_Name_ok (s : List UInt8) (K : Value → World → Prop) (w : World) (h : R08_Name_wp s K w) : Calls Try.prog 61 #[.string (mkS s)] w (Ret K) :=
  calls_of { loops := [(26, [(3, .int .i64)])], cuts := [(420, [(25, .bool)])] } Try.func61 (by kernel_rfl) h
def R08_begin_wp (s : List UInt8) (atx : Int) (K : Value → World → Prop) (w : World) : Prop :=
  ∃ (I : Int → Bool → World → Prop) (m : Int → Bool → World → Nat), I atx false w ∧
  ∀ (_g : Nat → Value) (atx1 : Int) (remark : Bool) (w1 : World), I atx1 remark w1 →
  cond (decide (atx1 < (s.length : Int)))
    (((0 : Int) ≤ atx1 ∧ atx1 < (s.length : Int)) ∧
    ∃ (J : Bool → World → Prop),
    (cond (((s.getD atx1.toNat 0).toNat : Int) == 10)
        (J false w1)
        (cond (((s.getD atx1.toNat 0).toNat : Int) == 35)
          (J true w1)
          (∀ (_g1 : Nat → Value),
          cond (((!remark) && ((((s.getD atx1.toNat 0).toNat : Int) != 9) && ((((s.getD atx1.toNat 0).toNat : Int) != 13) && (((s.getD atx1.toNat 0).toNat : Int) != 32)))))
            (K (.int .i64 atx1) w1)
            (J remark w1)))) ∧
    ∀ (_g2 : Nat → Value) (remark1 : Bool) (w2 : World), J remark1 w2 →
    I (IntKind.i64.wrap (atx1 + 1)) remark1 w2 ∧ m (IntKind.i64.wrap (atx1 + 1)) remark1 w2 < m atx1 remark w1)
    (K (.int .i64 atx1) w1)
theorem R08_begin_ok (s : List UInt8) (atx : Int) (K : Value → World → Prop) (w : World) (h : R08_begin_wp s atx K w) : Calls Try.prog 26 #[.string (mkS s), .int .i64 atx] w (Ret K) :=
  calls_of { loops := [(28, [(1, .int .i64), (5, .bool)])], cuts := [(453, [(5, .bool)])], merges := [(29022, [31])] } Try.func26 (by kernel_rfl) h
def R08_digits_wp (s : List UInt8) (fromx : Int) (to : Int) (K : Value → World → Prop) (w : World) : Prop :=
  ∀ (b : Nat) (w1 : World), b = w.heap.size → w1 = w.alloc (.cells #[.int .i64 0, .string (mkS []), .int .i64 0, .int .i64 0, .int .i64 0, .int .i64 0] 48) →
  ((0 : Int) ≤ fromx ∧ fromx < (s.length : Int)) ∧
  ∀ (_g : Nat → Value),
  cond (((((s.getD fromx.toNat 0).toNat : Int) == 48) && (decide (to > (IntKind.i64.wrap (fromx + 1))))))
    (Writable w1 ⟨b, 0, none⟩ 6 ∧ ∀ w2 : World, w2 = setCells w1 ⟨b, 0, none⟩ [.int .i64 0, .string (mkS []), .int .i64 0, .int .i64 0, .int .i64 fromx, .int .i64 3] →
    ∃ (rTKind : Int) (rTText : List UInt8) (rTN : Int) (rTAt : Int) (rNext : Int) (rE : Int), CellsAt w2 ⟨b, 0, none⟩ [.int .i64 rTKind, .string (mkS rTText), .int .i64 rTN, .int .i64 rTAt, .int .i64 rNext, .int .i64 rE] ∧
    K (.agg #[.int .i64 rTKind, .string (mkS rTText), .int .i64 rTN, .int .i64 rTAt, .int .i64 rNext, .int .i64 rE]) w2)
    (cond (decide ((IntKind.i64.wrap (to - fromx)) > 18))
      (Writable w1 ⟨b, 0, none⟩ 6 ∧ ∀ w3 : World, w3 = setCells w1 ⟨b, 0, none⟩ [.int .i64 0, .string (mkS []), .int .i64 0, .int .i64 0, .int .i64 fromx, .int .i64 5] →
      ∃ (rTKind1 : Int) (rTText1 : List UInt8) (rTN1 : Int) (rTAt1 : Int) (rNext1 : Int) (rE1 : Int), CellsAt w3 ⟨b, 0, none⟩ [.int .i64 rTKind1, .string (mkS rTText1), .int .i64 rTN1, .int .i64 rTAt1, .int .i64 rNext1, .int .i64 rE1] ∧
      K (.agg #[.int .i64 rTKind1, .string (mkS rTText1), .int .i64 rTN1, .int .i64 rTAt1, .int .i64 rNext1, .int .i64 rE1]) w3)
      (∃ (J : Bool → World → Prop),
      (cond (decide (to < (s.length : Int)))
          (((0 : Int) ≤ to ∧ to < (s.length : Int)) ∧
          Calls Try.prog 29 #[.int .u8 ((s.getD to.toNat 0).toNat : Int)] w1 (Ret fun v w4 => -- retraceref08.Letter
            ∃ (x : Bool), v = .bool x ∧
            J x w4))
          (J false w1)) ∧
      ∀ (_g1 : Nat → Value) (x1 : Bool) (w5 : World), J x1 w5 →
      cond (x1)
        (Writable w5 ⟨b, 0, none⟩ 6 ∧ ∀ w6 : World, w6 = setCells w5 ⟨b, 0, none⟩ [.int .i64 0, .string (mkS []), .int .i64 0, .int .i64 0, .int .i64 fromx, .int .i64 3] →
        ∃ (rTKind2 : Int) (rTText2 : List UInt8) (rTN2 : Int) (rTAt2 : Int) (rNext2 : Int) (rE2 : Int), CellsAt w6 ⟨b, 0, none⟩ [.int .i64 rTKind2, .string (mkS rTText2), .int .i64 rTN2, .int .i64 rTAt2, .int .i64 rNext2, .int .i64 rE2] ∧
        K (.agg #[.int .i64 rTKind2, .string (mkS rTText2), .int .i64 rTN2, .int .i64 rTAt2, .int .i64 rNext2, .int .i64 rE2]) w6)
        (∃ (I : Int → Int → World → Prop) (m : Int → Int → World → Nat), I 0 fromx w5 ∧
        ∀ (_g2 : Nat → Value) (n : Int) (i : Int) (w7 : World), I n i w7 →
        cond (decide (i < to))
          (((0 : Int) ≤ i ∧ i < (s.length : Int)) ∧
          I (IntKind.i64.wrap ((IntKind.i64.wrap ((IntKind.i64.wrap (n * 10)) + (IntKind.i64.wrap ((s.getD i.toNat 0).toNat : Int)))) - 48)) (IntKind.i64.wrap (i + 1)) w7 ∧ m (IntKind.i64.wrap ((IntKind.i64.wrap ((IntKind.i64.wrap (n * 10)) + (IntKind.i64.wrap ((s.getD i.toNat 0).toNat : Int)))) - 48)) (IntKind.i64.wrap (i + 1)) w7 < m n i w7)
          ((((0 : Int) ≤ to ∧ to ≤ (s.length : Int)) ∧ (0 : Int) ≤ fromx ∧ fromx ≤ (to.toNat : Int)) ∧
          Writable w7 ⟨b, 0, none⟩ 6 ∧ ∀ w8 : World, w8 = setCells w7 ⟨b, 0, none⟩ [.int .i64 2, .string (mkS ((s.take to.toNat).drop fromx.toNat)), .int .i64 n, .int .i64 fromx, .int .i64 to, .int .i64 0] →
          ∃ (rTKind3 : Int) (rTText3 : List UInt8) (rTN3 : Int) (rTAt3 : Int) (rNext3 : Int) (rE3 : Int), CellsAt w8 ⟨b, 0, none⟩ [.int .i64 rTKind3, .string (mkS rTText3), .int .i64 rTN3, .int .i64 rTAt3, .int .i64 rNext3, .int .i64 rE3] ∧
          K (.agg #[.int .i64 rTKind3, .string (mkS rTText3), .int .i64 rTN3, .int .i64 rTAt3, .int .i64 rNext3, .int .i64 rE3]) w8))))
theorem R08_digits_ok (s : List UInt8) (fromx : Int) (to : Int) (K : Value → World → Prop) (w : World) (h : R08_digits_wp s fromx to K w) : Calls Try.prog 28 #[.string (mkS s), .int .i64 fromx, .int .i64 to] w (Ret K) :=
  calls_of { loops := [(506, [(7, .int .i64), (8, .int .i64)])], cuts := [(30, [(36, .bool)])], merges := [(12, [18])] } Try.func28 (by kernel_rfl) h
def R08_Next_wp (s : List UInt8) (atx : Int) (K : Value → World → Prop) (w : World) : Prop :=
  ∀ (b : Nat) (w1 : World), b = w.heap.size → w1 = w.alloc (.cells #[.int .i64 0, .string (mkS []), .int .i64 0, .int .i64 0, .int .i64 0, .int .i64 0] 48) →
  ∀ (_g : Nat → Value),
  cond (((decide (atx < 0)) || (decide (atx > (s.length : Int)))))
    (Writable w1 ⟨b, 0, none⟩ 6 ∧ ∀ w2 : World, w2 = setCells w1 ⟨b, 0, none⟩ [.int .i64 0, .string (mkS []), .int .i64 0, .int .i64 0, .int .i64 0, .int .i64 1] →
    ∃ (rTKind : Int) (rTText : List UInt8) (rTN : Int) (rTAt : Int) (rNext : Int) (rE : Int), CellsAt w2 ⟨b, 0, none⟩ [.int .i64 rTKind, .string (mkS rTText), .int .i64 rTN, .int .i64 rTAt, .int .i64 rNext, .int .i64 rE] ∧
    K (.agg #[.int .i64 rTKind, .string (mkS rTText), .int .i64 rTN, .int .i64 rTAt, .int .i64 rNext, .int .i64 rE]) w2)
    (Calls Try.prog 26 #[.string (mkS s), .int .i64 atx] w1 (Ret fun v w3 => -- retraceref08.begin
      ∃ (fromx : Int), v = .int .i64 fromx ∧
      cond (fromx == (s.length : Int))
        (Writable w3 ⟨b, 0, none⟩ 6 ∧ ∀ w4 : World, w4 = setCells w3 ⟨b, 0, none⟩ [.int .i64 0, .string (mkS []), .int .i64 0, .int .i64 fromx, .int .i64 fromx, .int .i64 0] →
        ∃ (rTKind1 : Int) (rTText1 : List UInt8) (rTN1 : Int) (rTAt1 : Int) (rNext1 : Int) (rE1 : Int), CellsAt w4 ⟨b, 0, none⟩ [.int .i64 rTKind1, .string (mkS rTText1), .int .i64 rTN1, .int .i64 rTAt1, .int .i64 rNext1, .int .i64 rE1] ∧
        K (.agg #[.int .i64 rTKind1, .string (mkS rTText1), .int .i64 rTN1, .int .i64 rTAt1, .int .i64 rNext1, .int .i64 rE1]) w4)
        (((0 : Int) ≤ fromx ∧ fromx < (s.length : Int)) ∧
        Calls Try.prog 27 #[.int .u8 ((s.getD fromx.toNat 0).toNat : Int)] w3 (Ret fun v1 w5 => -- retraceref08.Digit
          ∃ (x : Bool), v1 = .bool x ∧
          cond (x)
            (∃ (I : Int → World → Prop) (m : Int → World → Nat), I fromx w5 ∧
            ∀ (_g1 : Nat → Value) (to : Int) (w6 : World), I to w6 →
            ∃ (J : Bool → World → Prop),
            (cond (decide (to < (s.length : Int)))
                (((0 : Int) ≤ to ∧ to < (s.length : Int)) ∧
                Calls Try.prog 27 #[.int .u8 ((s.getD to.toNat 0).toNat : Int)] w6 (Ret fun v2 w7 => -- retraceref08.Digit
                  ∃ (x1 : Bool), v2 = .bool x1 ∧
                  J x1 w7))
                (J false w6)) ∧
            ∀ (_g2 : Nat → Value) (x2 : Bool) (w8 : World), J x2 w8 →
            cond (x2)
              (I (IntKind.i64.wrap (to + 1)) w8 ∧ m (IntKind.i64.wrap (to + 1)) w8 < m to w6)
              (Calls Try.prog 28 #[.string (mkS s), .int .i64 fromx, .int .i64 to] w8 (Ret fun v3 w9 => -- retraceref08.digits
                ∃ (xTKind : Int) (xTText : List UInt8) (xTN : Int) (xTAt : Int) (xNext : Int) (xE : Int), v3 = .agg #[.int .i64 xTKind, .string (mkS xTText), .int .i64 xTN, .int .i64 xTAt, .int .i64 xNext, .int .i64 xE] ∧
                Writable w9 ⟨b, 0, none⟩ 6 ∧ ∀ w10 : World, w10 = setCells w9 ⟨b, 0, none⟩ [.int .i64 xTKind, .string (mkS xTText), .int .i64 xTN, .int .i64 xTAt, .int .i64 xNext, .int .i64 xE] →
                ∃ (rTKind2 : Int) (rTText2 : List UInt8) (rTN2 : Int) (rTAt2 : Int) (rNext2 : Int) (rE2 : Int), CellsAt w10 ⟨b, 0, none⟩ [.int .i64 rTKind2, .string (mkS rTText2), .int .i64 rTN2, .int .i64 rTAt2, .int .i64 rNext2, .int .i64 rE2] ∧
                K (.agg #[.int .i64 rTKind2, .string (mkS rTText2), .int .i64 rTN2, .int .i64 rTAt2, .int .i64 rNext2, .int .i64 rE2]) w10)))
            (((0 : Int) ≤ fromx ∧ fromx < (s.length : Int)) ∧
            Calls Try.prog 29 #[.int .u8 ((s.getD fromx.toNat 0).toNat : Int)] w5 (Ret fun v4 w11 => -- retraceref08.Letter
              ∃ (x3 : Bool), v4 = .bool x3 ∧
              cond (x3)
                (∃ (I1 : Int → World → Prop) (m1 : Int → World → Nat), I1 fromx w11 ∧
                ∀ (_g3 : Nat → Value) (to1 : Int) (w12 : World), I1 to1 w12 →
                ∃ (J1 : Bool → World → Prop),
                (cond (decide (to1 < (s.length : Int)))
                    (((0 : Int) ≤ to1 ∧ to1 < (s.length : Int)) ∧
                    Calls Try.prog 29 #[.int .u8 ((s.getD to1.toNat 0).toNat : Int)] w12 (Ret fun v5 w13 => -- retraceref08.Letter
                      ∃ (x4 : Bool), v5 = .bool x4 ∧
                      cond (x4)
                        (J1 true w13)
                        (((0 : Int) ≤ to1 ∧ to1 < (s.length : Int)) ∧
                        Calls Try.prog 27 #[.int .u8 ((s.getD to1.toNat 0).toNat : Int)] w13 (Ret fun v6 w14 => -- retraceref08.Digit
                          ∃ (x5 : Bool), v6 = .bool x5 ∧
                          J1 x5 w14))))
                    (J1 false w12)) ∧
                ∀ (_g4 : Nat → Value) (x6 : Bool) (w15 : World), J1 x6 w15 →
                cond (x6)
                  (I1 (IntKind.i64.wrap (to1 + 1)) w15 ∧ m1 (IntKind.i64.wrap (to1 + 1)) w15 < m1 to1 w12)
                  (cond (decide ((IntKind.i64.wrap (to1 - fromx)) > 16))
                    (Writable w15 ⟨b, 0, none⟩ 6 ∧ ∀ w16 : World, w16 = setCells w15 ⟨b, 0, none⟩ [.int .i64 0, .string (mkS []), .int .i64 0, .int .i64 0, .int .i64 fromx, .int .i64 5] →
                    ∃ (rTKind3 : Int) (rTText3 : List UInt8) (rTN3 : Int) (rTAt3 : Int) (rNext3 : Int) (rE3 : Int), CellsAt w16 ⟨b, 0, none⟩ [.int .i64 rTKind3, .string (mkS rTText3), .int .i64 rTN3, .int .i64 rTAt3, .int .i64 rNext3, .int .i64 rE3] ∧
                    K (.agg #[.int .i64 rTKind3, .string (mkS rTText3), .int .i64 rTN3, .int .i64 rTAt3, .int .i64 rNext3, .int .i64 rE3]) w16)
                    (∃ (J2 : Int → World → Prop),
                    (∃ (J3 : Bool → World → Prop),
                      (∀ w17 : World, w17 = w15.drew →
                        (((0 : Int) ≤ to1 ∧ to1 ≤ (s.length : Int)) ∧ (0 : Int) ≤ fromx ∧ fromx ≤ (to1.toNat : Int)) ∧
                        Calls Try.prog 31 #[] w17 (Ret fun v7 w18 => -- retraceref08.Words
                          ∃ (xA : Option Addr) (xN : Nat) (xC : Nat), v7 = .slice xA xN xC ∧
                          Calls Try.prog 30 #[.slice xA xN xC, .string (mkS ((s.take to1.toNat).drop fromx.toNat))] w18 (Ret fun v8 w19 => -- retraceref08.In
                            ∃ (x7 : Bool), v8 = .bool x7 ∧
                            J3 x7 w19))) ∧
                      ∀ (_g5 : Nat → Value) (x8 : Bool) (w20 : World), J3 x8 w20 →
                      cond (x8)
                        (J2 3 w20)
                        (J2 1 w20)) ∧
                    ∀ (_g6 : Nat → Value) (kind : Int) (w21 : World), J2 kind w21 →
                    (((0 : Int) ≤ to1 ∧ to1 ≤ (s.length : Int)) ∧ (0 : Int) ≤ fromx ∧ fromx ≤ (to1.toNat : Int)) ∧
                    Writable w21 ⟨b, 0, none⟩ 6 ∧ ∀ w22 : World, w22 = setCells w21 ⟨b, 0, none⟩ [.int .i64 kind, .string (mkS ((s.take to1.toNat).drop fromx.toNat)), .int .i64 0, .int .i64 fromx, .int .i64 to1, .int .i64 0] →
                    ∃ (rTKind4 : Int) (rTText4 : List UInt8) (rTN4 : Int) (rTAt4 : Int) (rNext4 : Int) (rE4 : Int), CellsAt w22 ⟨b, 0, none⟩ [.int .i64 rTKind4, .string (mkS rTText4), .int .i64 rTN4, .int .i64 rTAt4, .int .i64 rNext4, .int .i64 rE4] ∧
                    K (.agg #[.int .i64 rTKind4, .string (mkS rTText4), .int .i64 rTN4, .int .i64 rTAt4, .int .i64 rNext4, .int .i64 rE4]) w22)))
                (Calls Try.prog 32 #[] w11 (Ret fun v9 w23 => -- retraceref08.Signs
                  ∃ (lA : Option Addr) (lN : Nat) (lC : Nat), v9 = .slice lA lN lC ∧
                  ∃ (I2 : Int → World → Prop) (m2 : Int → World → Nat), I2 0 w23 ∧
                  ∀ (_g7 : Nat → Value) (i : Int) (w24 : World), I2 i w24 →
                  cond (decide (i < (lN : Int)))
                    (((0 : Int) ≤ i ∧ i < (lN : Int)) ∧
                    ptrOr lA (fun a =>
                      ∃ (x9 : List UInt8), w24.cell? (a.add (i.toNat * 1)) = some (.string (mkS x9)) ∧
                      ∃ (J4 : Bool → World → Prop),
                      (∀ w25 : World, w25 = w24.drew →
                        cond (decide ((IntKind.i64.wrap (fromx + (x9.length : Int))) ≤ (s.length : Int)))
                          ((((0 : Int) ≤ (IntKind.i64.wrap (fromx + (x9.length : Int))) ∧ (IntKind.i64.wrap (fromx + (x9.length : Int))) ≤ (s.length : Int)) ∧ (0 : Int) ≤ fromx ∧ fromx ≤ ((IntKind.i64.wrap (fromx + (x9.length : Int))).toNat : Int)) ∧
                          ((0 : Int) ≤ i ∧ i < (lN : Int)) ∧
                          ptrOr lA (fun a1 =>
                            ∃ (x10 : List UInt8), w25.cell? (a1.add (i.toNat * 1)) = some (.string (mkS x10)) ∧
                            J4 (((s.take (IntKind.i64.wrap (fromx + (x9.length : Int))).toNat).drop fromx.toNat) == x10) w25))
                          (J4 false w25)) ∧
                      ∀ (_g8 : Nat → Value) (x11 : Bool) (w26 : World), J4 x11 w26 →
                      cond (x11)
                        (((0 : Int) ≤ i ∧ i < (lN : Int)) ∧
                        ptrOr lA (fun a2 =>
                          ∃ (x12 : List UInt8), w26.cell? (a2.add (i.toNat * 1)) = some (.string (mkS x12)) ∧
                          Writable w26 ⟨b, 0, none⟩ 6 ∧ ∀ w27 : World, w27 = setCells w26 ⟨b, 0, none⟩ [.int .i64 4, .string (mkS x12), .int .i64 0, .int .i64 fromx, .int .i64 (IntKind.i64.wrap (fromx + (x9.length : Int))), .int .i64 0] →
                          ∃ (rTKind5 : Int) (rTText5 : List UInt8) (rTN5 : Int) (rTAt5 : Int) (rNext5 : Int) (rE5 : Int), CellsAt w27 ⟨b, 0, none⟩ [.int .i64 rTKind5, .string (mkS rTText5), .int .i64 rTN5, .int .i64 rTAt5, .int .i64 rNext5, .int .i64 rE5] ∧
                          K (.agg #[.int .i64 rTKind5, .string (mkS rTText5), .int .i64 rTN5, .int .i64 rTAt5, .int .i64 rNext5, .int .i64 rE5]) w27))
                        (I2 (IntKind.i64.wrap (i + 1)) w26 ∧ m2 (IntKind.i64.wrap (i + 1)) w26 < m2 i w24)))
                    (Writable w24 ⟨b, 0, none⟩ 6 ∧ ∀ w28 : World, w28 = setCells w24 ⟨b, 0, none⟩ [.int .i64 0, .string (mkS []), .int .i64 0, .int .i64 0, .int .i64 fromx, .int .i64 10] →
                    ∃ (rTKind6 : Int) (rTText6 : List UInt8) (rTN6 : Int) (rTAt6 : Int) (rNext6 : Int) (rE6 : Int), CellsAt w28 ⟨b, 0, none⟩ [.int .i64 rTKind6, .string (mkS rTText6), .int .i64 rTN6, .int .i64 rTAt6, .int .i64 rNext6, .int .i64 rE6] ∧
                    K (.agg #[.int .i64 rTKind6, .string (mkS rTText6), .int .i64 rTN6, .int .i64 rTAt6, .int .i64 rNext6, .int .i64 rE6]) w28)))))))))
theorem R08_Next_ok (s : List UInt8) (atx : Int) (K : Value → World → Prop) (w : World) (h : R08_Next_wp s atx K w) : Calls Try.prog 16 #[.string (mkS s), .int .i64 atx] w (Ret K) :=
  calls_of { loops := [(2024, [(6, .int .i64)]), (4072, [(6, .int .i64)]), (4090, [(9, .int .i64)])], cuts := [(8096, [(45, .bool)]), (8151, [(7, .int .i64)]), (16288, [(71, .bool)]), (16302, [(85, .bool)]), (130889, [(125, .bool)])], merges := [(12, [18])] } Try.func16 (by kernel_rfl) h
end Go.Proofs.Ytdbdkdmgfiiljaa
namespace Go.Proofs.Ytdbdkdmgfiiljaa
open Go.Vc Go.Tk
def rLetB (n : Nat) : Bool := cond (decide ((n : Int) ≥ 97)) ((decide ((n : Int) ≤ 122)) || (cond (decide ((n : Int) ≥ 65)) ((decide ((n : Int) ≤ 90)) || ((n : Int) == 95)) ((n : Int) == 95))) (cond (decide ((n : Int) ≥ 65)) ((decide ((n : Int) ≤ 90)) || ((n : Int) == 95)) ((n : Int) == 95))
theorem rLetB_eq (n : Nat) (h : n < 256) : rLetB n = letN n := by
  have : ∀ n : Fin 256, rLetB n.val = letN n.val := by decide +kernel
  exact this ⟨n, h⟩
theorem rLetter_spec (n : Nat) (h : n < 256) (w : World) : Calls Try.prog 29 #[.int .u8 (n : Int)] w (Ret fun v w' => v = .bool (letN n) ∧ w = w') := by
  refine R08_Letter_ok _ _ _ ?_
  intro _
  exact ⟨by rw [← rLetB_eq n h]; rfl, rfl⟩
theorem rDigit_spec (n : Nat) (w : World) : Calls Try.prog 27 #[.int .u8 (n : Int)] w (Ret fun v w' => v = .bool (digN n) ∧ w = w') := by
  refine R08_Digit_ok _ _ _ ?_
  intro _
  refine ⟨?_, rfl⟩
  have e : ((decide ((n : Int) ≥ 48)) && (decide ((n : Int) ≤ 57))) = digN n := by unfold digN; rw [Bool.eq_iff_iff]; simp; omega
  rw [e]
def strV (s : List UInt8) : Value := .string (mkS s)
theorem rIn_spec (l : List (List UInt8)) (hl : l.length < 2 ^ 40) (p : Addr) (c : Nat) (s : List UInt8) (w : World) (hc : CellsAt w p (l.map strV)) :
    Calls Try.prog 30 #[.slice (some p) l.length c, .string (mkS s)] w (Ret fun v w' => v = .bool (decide (s ∈ l)) ∧ w = w') := by
  refine R08_In_ok _ _ _ _ _ _ ?_
  refine ⟨fun i w' => w = w' ∧ ∃ k : Nat, i = k ∧ k ≤ l.length ∧ ∀ j (h : j < l.length), j < k → l[j] ≠ s, fun i _ => l.length - i.toNat, ⟨rfl, 0, rfl, Nat.zero_le _, fun _ _ h => absurd h (Nat.not_lt_zero _)⟩, ?_⟩
  rintro _ _ _ ⟨rfl, k, rfl, hk, hall⟩
  refine cond_intro (fun hx => ?_) fun hx => ?_
  · have hlt : k < l.length := by simpa using hx
    have hcell := hc k (by simpa using hlt)
    simp only [List.getElem_map, strV] at hcell
    refine ⟨by omega, l[k], by simpa using hcell, cond_intro (fun hb => ?_) fun hb => ?_⟩
    · have : l[k] = s := by simpa using hb
      exact ⟨by rw [decide_eq_true (this ▸ List.getElem_mem hlt)], rfl⟩
    · have hne : l[k] ≠ s := by simpa using hb
      rw [wrap_in (by omega) (by omega)]
      refine ⟨⟨rfl, k + 1, by omega, by omega, fun j h hj => ?_⟩, by dsimp only; omega⟩
      rcases Nat.lt_or_ge j k with h' | h'
      · exact hall j h h'
      · obtain rfl : j = k := by omega
        exact hne
  · have hge : ¬ k < l.length := by simpa using hx
    refine ⟨?_, rfl⟩
    have hnot : s ∉ l := by
      intro hm
      obtain ⟨j, hj, rfl⟩ := List.getElem_of_mem hm
      exact hall j hj (by omega) rfl
    rw [decide_eq_false hnot]
def wordsR : List (List UInt8) := [[99, 104, 97, 110], [112, 114, 111, 99], [109, 97, 105, 110], [118, 97, 114], [105, 102], [101, 108, 115, 101], [119, 104, 105, 108, 101], [115, 101, 108, 101, 99, 116], [99, 97, 115, 101], [119, 104, 101, 110], [97, 102, 116, 101, 114], [115, 116, 97, 114, 116], [115, 108, 101, 101, 112], [114, 97, 110, 100, 111, 109], [112, 114, 105, 110, 116], [97, 115, 115, 101, 114, 116], [115, 107, 105, 112], [115, 116, 111, 112]]
theorem wordsR_iff (s : List UInt8) : decide (s ∈ wordsR) = decide (s ∈ words) := by
  have h1 : ∀ x ∈ wordsR, x ∈ words := by decide
  have h2 : ∀ x ∈ words, x ∈ wordsR := by decide
  rw [Bool.eq_iff_iff]; simp only [decide_eq_true_eq]
  exact ⟨h1 s, h2 s⟩
theorem rWords_spec (w : World) : Calls Try.prog 31 #[] w (Ret fun v w' => ∃ b, v = .slice (some ⟨b, 0, none⟩) 18 18 ∧ CellsAt w' ⟨b, 0, none⟩ (wordsR.map strV) ∧ Ext w w') := by
  refine R08_Words_ok _ _ ?_
  intro b w1 hb hw
  exact ⟨b, rfl, (Box.new hb hw).whole, .alloc hw⟩
theorem rSigns_spec (w : World) : Calls Try.prog 32 #[] w (Ret fun v w' => ∃ b, v = .slice (some ⟨b, 0, none⟩) 25 25 ∧ CellsAt w' ⟨b, 0, none⟩ (signsAll.map strV) ∧ Ext w w') := by
  refine R08_Signs_ok _ _ ?_
  intro b w1 hb hw
  exact ⟨b, rfl, (Box.new hb hw).whole, .alloc hw⟩
theorem beq_10 (c : UInt8) : ((c.toNat : Int) == 10) = (c == 10) := by rw [Bool.eq_iff_iff]; simp [← UInt8.toNat_inj]; omega
theorem beq_35 (c : UInt8) : ((c.toNat : Int) == 35) = (c == 35) := by rw [Bool.eq_iff_iff]; simp [← UInt8.toNat_inj]; omega
theorem bne_9 (c : UInt8) : ((c.toNat : Int) != 9) = (c != 9) := by rw [Bool.eq_iff_iff]; simp [← UInt8.toNat_inj]; omega
theorem bne_13 (c : UInt8) : ((c.toNat : Int) != 13) = (c != 13) := by rw [Bool.eq_iff_iff]; simp [← UInt8.toNat_inj]; omega
theorem bne_32 (c : UInt8) : ((c.toNat : Int) != 32) = (c != 32) := by rw [Bool.eq_iff_iff]; simp [← UInt8.toNat_inj]; omega
theorem begin_spec (s : List UInt8) (hs : s.length < 2 ^ 40) (a : Nat) (ha : a ≤ s.length) (w : World) :
    Calls Try.prog 26 #[.string (mkS s), .int .i64 (a : Int)] w (Ret fun v w' => v = .int .i64 ((a + blankN false (s.drop a) : Nat) : Int) ∧ w = w') := by
  refine R08_begin_ok _ _ _ _ ?_
  refine ⟨fun x r w' => w = w' ∧ ∃ k : Nat, x = k ∧ a ≤ k ∧ k ≤ s.length ∧ a + blankN false (s.drop a) = k + blankN r (s.drop k), fun x _ _ => s.length - x.toNat, ⟨rfl, a, rfl, Nat.le_refl _, ha, rfl⟩, ?_⟩
  rintro _ _ r _ ⟨rfl, k, rfl, hak, hk, hb⟩
  refine cond_intro (fun hx => ?_) fun hx => ?_
  · have hlt : k < s.length := by simpa using hx
    have hd := drop_cons s k hlt
    rw [Int.toNat_natCast]
    generalize hc : s.getD k 0 = c at hd ⊢
    rw [hd, blank_cons] at hb
    simp only [beq_10, beq_35, bne_9, bne_13, bne_32]
    refine ⟨by omega, fun r' w' => w = w' ∧ a + blankN false (s.drop a) = k + 1 + blankN r' (s.drop (k + 1)), ?_, ?_⟩
    · refine cond_intro (fun h10 => ?_) fun h10 => ?_
      · refine ⟨rfl, ?_⟩
        rw [hb, if_pos h10]; omega
      · rw [if_neg (by rw [h10]; simp)] at hb
        refine cond_intro (fun h35 => ?_) fun h35 => ?_
        · refine ⟨rfl, ?_⟩
          rw [hb, if_pos h35]; omega
        · rw [if_neg (by rw [h35]; simp)] at hb
          intro _
          have e : ((!r) && ((c != 9) && ((c != 13) && (c != 32)))) = (!r && c != 9 && c != 13 && c != 32) := by simp [Bool.and_assoc]
          rw [e]
          refine cond_intro (fun hst => ?_) fun hst => ?_
          · refine ⟨?_, by trivial⟩
            rw [hb, if_pos hst]; rfl
          · refine ⟨rfl, ?_⟩
            rw [hb, if_neg (by rw [hst]; simp)]; omega
    · rintro _ r' _ ⟨rfl, hb'⟩
      rw [wrap_in (by omega) (by omega)]
      exact ⟨⟨rfl, k + 1, by omega, by omega, by omega, hb'⟩, by omega⟩
  · have hge : ¬ k < s.length := by simpa using hx
    refine ⟨?_, rfl⟩
    rw [hb, List.drop_of_length_le (by omega)]; simp [blankN]
def gotC (x : Tok × Nat × Int) : List Value := tokC x.1 ++ [.int .i64 (x.2.1 : Int), .int .i64 x.2.2]
theorem digits_spec (s : List UInt8) (hs : s.length < 2 ^ 40) (p n : Nat) (hn : 0 < n) (hpn : p + n ≤ s.length) (hdig : ∀ c ∈ (s.drop p).take n, digC c = true) (w : World) :
    Calls Try.prog 28 #[.string (mkS s), .int .i64 (p : Int), .int .i64 ((p + n : Nat) : Int)] w (Ret fun v w' => v = .agg ⟨gotC (if (numRes ((s.drop p).take n) (s.drop (p + n))).2 = 0 then (⟨2, (s.drop p).take n, (numRes ((s.drop p).take n) (s.drop (p + n))).1, p⟩, p + n, 0) else (Tok.zero, p, (numRes ((s.drop p).take n) (s.drop (p + n))).2))⟩ ∧ Ext w w') := by
  refine R08_digits_ok _ _ _ _ _ ?_
  intro b w1 hb hw1
  have o := (Own.start w).alloc hb hw1
  have hdl : ((s.drop p).take n).length = n := by simp; omega
  have hget : ∀ i, i < n → ((s.drop p).take n).getD i 0 = s.getD (p + i) 0 := by
    intro i hi
    simp [List.getD, hi]
  have h0 := hget 0 hn
  rw [Nat.add_zero] at h0
  refine ⟨by omega, fun _ => ?_⟩
  rw [Int.toNat_natCast]
  have e48 : ((((s.getD p 0).toNat : Int) == 48) && decide (((p + n : Nat) : Int) > IntKind.i64.wrap ((p : Int) + 1))) = (((s.drop p).take n).getD 0 0 == 48 && decide (((s.drop p).take n).length > 1)) := by
    rw [h0, hdl, wrap_in (by omega) (by omega)]
    have : (((s.getD p 0).toNat : Int) == 48) = (s.getD p 0 == 48) := by
      rw [Bool.eq_iff_iff]; simp [← UInt8.toNat_inj]; omega
    rw [this]; congr 1
    rw [Bool.eq_iff_iff]; simp; omega
  rw [e48]
  generalize hd : (s.drop p).take n = d at *
  refine cond_intro (fun h => ?_) fun h => ?_
  · have hr : numRes d (s.drop (p + n)) = (0, 3) := by unfold numRes; rw [if_pos h]
    rw [hr]
    refine ⟨o.wr 0 rfl rfl, fun w2 hw2 => ?_⟩
    have o := o.sets 0 hw2 rfl
    exact ⟨_, _, _, _, _, _, (o.at 0 rfl).whole, rfl, o.done⟩
  · rw [wrap_in (n := ((p + n : Nat) : Int) - (p : Int)) (by omega) (by omega)]
    refine cond_intro (fun h18 => ?_) fun h18 => ?_
    · have hr : numRes d (s.drop (p + n)) = (0, 5) := by unfold numRes; rw [if_neg (by rw [h]; simp), if_pos (by simp at h18; omega)]
      rw [hr]
      refine ⟨o.wr 0 rfl rfl, fun w2 hw2 => ?_⟩
      have o := o.sets 0 hw2 rfl
      exact ⟨_, _, _, _, _, _, (o.at 0 rfl).whole, rfl, o.done⟩
    · have h18' : ¬ d.length > 18 := by simp at h18; omega
      refine ⟨fun x w' => w1 = w' ∧ x = headLet (s.drop (p + n)), ?_, ?_⟩
      · refine cond_intro (fun hx => ?_) fun hx => ?_
        · have hlt : p + n < s.length := by simp at hx; omega
          refine ⟨by omega, call_then (rLetter_spec _ (UInt8.toNat_lt _) w1) ?_⟩
          rintro _ _ ⟨rfl, rfl⟩
          refine ⟨_, rfl, rfl, ?_⟩
          rw [Int.toNat_natCast, drop_cons s (p + n) hlt]; rfl
        · have hge : ¬ p + n < s.length := by simp at hx; omega
          refine ⟨rfl, ?_⟩
          rw [List.drop_of_length_le (by omega)]; rfl
      · rintro _ x _ ⟨rfl, rfl⟩
        refine cond_intro (fun hx => ?_) fun hx => ?_
        · have hr : numRes d (s.drop (p + n)) = (0, 3) := by unfold numRes; rw [if_neg (by rw [h]; simp), if_neg h18', if_pos hx]
          rw [hr]
          refine ⟨o.wr 0 rfl rfl, fun w2 hw2 => ?_⟩
          have o := o.sets 0 hw2 rfl
          exact ⟨_, _, _, _, _, _, (o.at 0 rfl).whole, rfl, o.done⟩
        · have hr : numRes d (s.drop (p + n)) = (((numVal d : Nat) : Int), 0) := by unfold numRes; rw [if_neg (by rw [h]; simp), if_neg h18', if_neg (by rw [hx]; simp)]
          rw [hr]
          refine ⟨fun v i w' => w1 = w' ∧ ∃ k : Nat, i = ((p + k : Nat) : Int) ∧ k ≤ n ∧ v = (numVal (d.take k) : Nat), fun _ i _ => p + n - i.toNat, ⟨rfl, 0, rfl, Nat.zero_le _, rfl⟩, ?_⟩
          rintro _ _ _ _ ⟨rfl, k, rfl, hk, rfl⟩
          refine cond_intro (fun hx => ?_) fun hx => ?_
          · have hlt : k < n := by simp at hx; omega
            refine ⟨by omega, ?_⟩
            have hltd : k < d.length := by omega
            rw [Int.toNat_natCast, ← hget k hlt, getD_eq d k hltd]
            have hdk := hdig d[k] (List.getElem_mem hltd)
            simp [digC, digN] at hdk
            have hbd : numVal (d.take k) < 10 ^ k := by
              have := numVal_bd (d.take k) (fun c hc => hdig c (List.mem_of_mem_take hc))
              rwa [List.length_take, Nat.min_eq_left (by omega)] at this
            have hbd2 : 10 ^ k ≤ 10 ^ 17 := Nat.pow_le_pow_right (by omega) (by omega)
            rw [wrap_in (n := (d[k].toNat : Int)) (by omega) (by omega), wrap_in (n := (numVal (d.take k) : Nat) * 10) (by omega) (by omega), wrap_in (n := (numVal (d.take k) : Nat) * 10 + (d[k].toNat : Int)) (by omega) (by omega), wrap_in (by omega) (by omega), wrap_in (n := ((p + k : Nat) : Int) + 1) (by omega) (by omega)]
            refine ⟨⟨rfl, k + 1, by omega, by omega, ?_⟩, by dsimp only; omega⟩
            rw [List.take_succ_eq_append_getElem hltd, numVal_snoc]; omega
          · have hkn : k = n := by simp at hx; omega
            subst hkn
            refine ⟨by omega, o.wr 0 rfl rfl, fun w2 hw2 => ?_⟩
            have o := o.sets 0 hw2 rfl
            refine ⟨_, _, _, _, _, _, (o.at 0 rfl).whole, ?_, o.done⟩
            have ht : (s.take ((p + k : Nat) : Int).toNat).drop p = d := by rw [Int.toNat_natCast, List.drop_take, ← hd]; congr 1; omega
            rw [ht, List.take_of_length_le (by omega)]; rfl
end Go.Proofs.Ytdbdkdmgfiiljaa
namespace Go.Proofs.Ytdbdkdmgfiiljaa
open Go.Vc Go.Tk
theorem letC_of_digC {c : UInt8} (h : digC c = true) : letC c = false := by
  cases hl : letC c with
  | false => rfl
  | true => rw [digC_of_letC hl] at h; cases h
theorem drop_take_len (s : List UInt8) (p n : Nat) : (s.take (p + n)).drop p = (s.drop p).take n := by rw [List.drop_take]; congr 1; omega
set_option maxHeartbeats 1000000 in
theorem rNext_spec (s : List UInt8) (hs : s.length < 2 ^ 40) (at_ : Int) (w : World) :
    Calls Try.prog 16 #[.string (mkS s), .int .i64 at_] w (Ret fun v w' => v = .agg ⟨gotC (nextS s at_)⟩ ∧ Ext w w') := by
  refine R08_Next_ok _ _ _ _ ?_
  intro b w1 hb hw1
  have o := (Own.start w).alloc hb hw1
  intro _
  refine cond_intro (fun hx => ?_) fun hx => ?_
  · refine ⟨o.wr 0 rfl rfl, fun w2 hw2 => ?_⟩
    have o := o.sets 0 hw2 rfl
    refine ⟨_, _, _, _, _, _, (o.at 0 rfl).whole, ?_, o.done⟩
    have : nextS s at_ = (Tok.zero, 0, 1) := by unfold nextS; rw [if_pos (by simp at hx; omega)]
    rw [this]; rfl
  · simp at hx
    obtain ⟨k, rfl⟩ := Int.eq_ofNat_of_zero_le hx.1
    have hk : k ≤ s.length := by omega
    have hkk : ((k : Nat) : Int).toNat = k := Int.toNat_natCast k
    have hns : nextS s (k : Int) = tokAt (s.drop (k + blankN false (s.drop k))) (k + blankN false (s.drop k)) := by
      unfold nextS; rw [if_neg (by omega), hkk]
    rw [hns]
    have hble := blank_le false (s.drop k)
    simp only [List.length_drop] at hble
    refine call_then (begin_spec s hs k hk w1) ?_
    rintro _ _ ⟨rfl, rfl⟩
    generalize hp : k + blankN false (s.drop k) = p
    have hple : p ≤ s.length := by omega
    refine ⟨_, rfl, ?_⟩
    generalize hl : s.drop p = l
    have hll : l.length = s.length - p := by rw [← hl]; simp
    rw [Int.toNat_natCast]
    refine cond_intro (fun hend => ?_) fun hend => ?_
    · have hpe : p = s.length := by simp at hend; omega
      have : l = [] := by rw [← hl, hpe]; simp
      subst this
      refine ⟨o.wr 0 rfl rfl, fun w2 hw2 => ?_⟩
      have o := o.sets 0 hw2 rfl
      exact ⟨_, _, _, _, _, _, (o.at 0 rfl).whole, rfl, o.done⟩
    · have hplt : p < s.length := by simp at hend; omega
      have hdc := drop_cons s p hplt
      rw [hl] at hdc
      generalize hc : s.getD p 0 = c at hdc ⊢
      generalize s.drop (p + 1) = l' at hdc
      subst hdc
      have hgl : ∀ i, i < (c :: l').length → (c :: l').getD i 0 = s.getD (p + i) 0 := by
        intro i _; rw [← hl]; simp [List.getD]
      refine ⟨by omega, call_then (rDigit_spec _ w1) ?_⟩
      rintro _ _ ⟨rfl, rfl⟩
      refine ⟨_, rfl, cond_intro (fun hdig => ?_) fun hdig => ?_⟩
      · -- digits
        have hdig' : digC c = true := hdig
        have hlet' := letC_of_digC hdig'
        refine ⟨fun x w' => w1 = w' ∧ ∃ n : Nat, x = ((p + n : Nat) : Int) ∧ n ≤ (c :: l').length ∧ ∀ i (h : i < (c :: l').length), i < n → digC (c :: l')[i] = true, fun x _ => s.length - x.toNat, ⟨rfl, 0, rfl, Nat.zero_le _, fun _ _ h => absurd h (Nat.not_lt_zero _)⟩, ?_⟩
        rintro _ _ _ ⟨rfl, n, rfl, hn, hall⟩
        refine ⟨fun x w' => w1 = w' ∧ (x = true → ∃ h : n < (c :: l').length, digC (c :: l')[n] = true) ∧ (x = false → ∀ h : n < (c :: l').length, digC (c :: l')[n] = false), ?_, ?_⟩
        · refine cond_intro (fun hx => ?_) fun hx => ?_
          · have hlt : n < (c :: l').length := by simp at hx; omega
            refine ⟨by omega, call_then (rDigit_spec _ w1) ?_⟩
            rintro _ _ ⟨rfl, rfl⟩
            rw [Int.toNat_natCast, ← hgl n hlt, getD_eq _ _ hlt]
            exact ⟨_, rfl, rfl, fun h => ⟨hlt, h⟩, fun h _ => h⟩
          · exact ⟨rfl, fun h => (by cases h), fun _ h => by simp at hx; omega⟩
        · rintro _ x _ ⟨rfl, h1, h2⟩
          refine cond_intro (fun hx => ?_) fun hx => ?_
          · obtain ⟨hlt, hdn⟩ := h1 hx
            rw [wrap_in (by omega) (by omega)]
            refine ⟨⟨rfl, n + 1, by omega, by omega, fun i h hi => ?_⟩, by dsimp only; omega⟩
            rcases Nat.lt_or_ge i n with h' | h'
            · exact hall i h h'
            · obtain rfl : i = n := by omega
              exact hdn
          · have htw := takeWhile_take digC (c :: l') n hall (h2 hx)
            have hn0 : 0 < n := by
              rcases Nat.eq_zero_or_pos n with h' | h'
              · subst h'; have := h2 hx (by simp); simp [hdig'] at this
              · exact h'
            have htl : ((c :: l').takeWhile digC).length = n := by rw [htw, List.length_take]; omega
            refine call_then (digits_spec s hs p n hn0 (by omega) (by rw [hl, ← htw]; exact mem_takeWhile _ _) w1) ?_
            rintro _ w9 ⟨rfl, he⟩
            have o := o.ext he
            have htk : tokAt (c :: l') p = if (numRes ((c :: l').takeWhile digC) ((c :: l').drop ((c :: l').takeWhile digC).length)).2 = 0 then (⟨2, (c :: l').takeWhile digC, (numRes ((c :: l').takeWhile digC) ((c :: l').drop ((c :: l').takeWhile digC).length)).1, p⟩, p + ((c :: l').takeWhile digC).length, 0)
                else (Tok.zero, p, (numRes ((c :: l').takeWhile digC) ((c :: l').drop ((c :: l').takeWhile digC).length)).2) := by
              rw [tokAt_cons, if_neg (by rw [hlet']; simp), if_pos hdig']
            have hdrop : s.drop (p + n) = (c :: l').drop n := by rw [← hl, List.drop_drop]
            rw [hl, ← htw, hdrop]
            rw [htl] at htk
            rw [← htk]
            refine ⟨_, _, _, _, _, _, rfl, o.wr 0 rfl rfl, fun w2 hw2 => ?_⟩
            have o := o.sets 0 hw2 rfl
            exact ⟨_, _, _, _, _, _, (o.at 0 rfl).whole, rfl, o.done⟩
      · have hdig' : digC c = false := hdig
        refine ⟨by omega, call_then (rLetter_spec _ (UInt8.toNat_lt _) w1) ?_⟩
        rintro _ _ ⟨rfl, rfl⟩
        refine ⟨_, rfl, cond_intro (fun hlet => ?_) fun hlet => ?_⟩
        · -- a word
          have hlet' : letC c = true := hlet
          refine ⟨fun x w' => w1 = w' ∧ ∃ n : Nat, x = ((p + n : Nat) : Int) ∧ n ≤ (c :: l').length ∧ ∀ i (h : i < (c :: l').length), i < n → wordC (c :: l')[i] = true, fun x _ => s.length - x.toNat, ⟨rfl, 0, rfl, Nat.zero_le _, fun _ _ h => absurd h (Nat.not_lt_zero _)⟩, ?_⟩
          rintro _ _ _ ⟨rfl, n, rfl, hn, hall⟩
          refine ⟨fun x w' => w1 = w' ∧ (x = true → ∃ h : n < (c :: l').length, wordC (c :: l')[n] = true) ∧ (x = false → ∀ h : n < (c :: l').length, wordC (c :: l')[n] = false), ?_, ?_⟩
          · refine cond_intro (fun hx => ?_) fun hx => ?_
            · have hlt : n < (c :: l').length := by simp at hx; omega
              refine ⟨by omega, call_then (rLetter_spec _ (UInt8.toNat_lt _) w1) ?_⟩
              rintro _ _ ⟨rfl, rfl⟩
              rw [Int.toNat_natCast, ← hgl n hlt, getD_eq _ _ hlt]
              refine ⟨_, rfl, cond_intro (fun hl1 => ?_) fun hl1 => ?_⟩
              · exact ⟨rfl, fun _ => ⟨hlt, by simp only [wordC, wordN, hl1, Bool.true_or]⟩, fun h => by cases h⟩
              · refine ⟨by omega, call_then (rDigit_spec _ w1) ?_⟩
                rintro _ _ ⟨rfl, rfl⟩
                exact ⟨_, rfl, rfl, fun h => ⟨hlt, by simp only [wordC, wordN, hl1, h, Bool.or_true]⟩, fun h _ => by simp only [wordC, wordN, hl1, h, Bool.or_self]⟩
            · exact ⟨rfl, fun h => (by cases h), fun _ h => by simp at hx; omega⟩
          · rintro _ x _ ⟨rfl, h1, h2⟩
            refine cond_intro (fun hx => ?_) fun hx => ?_
            · obtain ⟨hlt, hdn⟩ := h1 hx
              rw [wrap_in (by omega) (by omega)]
              refine ⟨⟨rfl, n + 1, by omega, by omega, fun i h hi => ?_⟩, by dsimp only; omega⟩
              rcases Nat.lt_or_ge i n with h' | h'
              · exact hall i h h'
              · obtain rfl : i = n := by omega
                exact hdn
            · have htw := takeWhile_take wordC (c :: l') n hall (h2 hx)
              have htl : ((c :: l').takeWhile wordC).length = n := by rw [htw, List.length_take]; omega
              have htk : tokAt (c :: l') p = if ((c :: l').takeWhile wordC).length > 16 then (Tok.zero, p, 5) else (⟨if decide ((c :: l').takeWhile wordC ∈ words) then 3 else 1, (c :: l').takeWhile wordC, 0, p⟩, p + ((c :: l').takeWhile wordC).length, 0) := by
                rw [tokAt_cons, if_pos hlet']
              rw [htl] at htk
              have hcut : (s.take ((p + n : Nat) : Int).toNat).drop p = (c :: l').takeWhile wordC := by rw [Int.toNat_natCast, drop_take_len, hl, htw]
              rw [hcut, wrap_in (n := ((p + n : Nat) : Int) - (p : Int)) (by omega) (by omega)]
              refine cond_intro (fun h16 => ?_) fun h16 => ?_
              · rw [htk, if_pos (by simp at h16; omega)]
                refine ⟨o.wr 0 rfl rfl, fun w2 hw2 => ?_⟩
                have o := o.sets 0 hw2 rfl
                exact ⟨_, _, _, _, _, _, (o.at 0 rfl).whole, rfl, o.done⟩
              · rw [htk, if_neg (by simp at h16; omega)]
                refine ⟨fun kind w' => kind = (if decide ((c :: l').takeWhile wordC ∈ words) then 3 else 1) ∧ Own w.heap.size w w' [(b, gotC (Tok.zero, 0, 0))], ⟨fun x w' => x = decide ((c :: l').takeWhile wordC ∈ words) ∧ Own w.heap.size w w' [(b, gotC (Tok.zero, 0, 0))], ?_, ?_⟩, ?_⟩
                · intro w17 hw17
                  have o := o.drew hw17
                  refine ⟨by omega, call_then (rWords_spec w17) ?_⟩
                  rintro _ w18 ⟨lb, rfl, hcells, he⟩
                  have o := o.ext he
                  refine ⟨_, _, _, rfl, call_then (rIn_spec wordsR (by decide) _ 18 _ w18 hcells) ?_⟩
                  rintro _ _ ⟨rfl, rfl⟩
                  exact ⟨_, rfl, wordsR_iff _, o⟩
                · rintro _ x w20 ⟨rfl, o⟩
                  refine cond_intro (fun hx => ?_) fun hx => ?_
                  · exact ⟨by rw [hx]; rfl, o⟩
                  · exact ⟨by rw [hx]; rfl, o⟩
                · rintro _ kind w21 ⟨rfl, o⟩
                  refine ⟨by omega, o.wr 0 rfl rfl, fun w22 hw22 => ?_⟩
                  have o := o.sets 0 hw22 rfl
                  exact ⟨_, _, _, _, _, _, (o.at 0 rfl).whole, rfl, o.done⟩
        · -- a sign
          have hlet' : letC c = false := hlet
          have htk : tokAt (c :: l') p = if signOf (c :: l') = [] then (Tok.zero, p, 10) else (⟨4, signOf (c :: l'), 0, p⟩, p + (signOf (c :: l')).length, 0) := by
            rw [tokAt_cons, if_neg (by rw [hlet']; simp), if_neg (by rw [hdig']; simp)]
          have hsa := signOf_all (c :: l')
          refine call_then (rSigns_spec w1) ?_
          rintro _ w23 ⟨lb, rfl, hcells, he⟩
          have o := o.ext he
          refine ⟨_, _, _, rfl, fun i w' => CellsAt w' ⟨lb, 0, none⟩ (signsAll.map strV) ∧ Own w.heap.size w w' [(b, gotC (Tok.zero, 0, 0))] ∧ ∃ n : Nat, i = n ∧ n ≤ 25 ∧ ∀ j (h : j < signsAll.length), j < n → hasPre signsAll[j] (c :: l') = false, fun i _ => 25 - i.toNat, ⟨hcells, o, 0, rfl, by omega, fun _ _ h => absurd h (Nat.not_lt_zero _)⟩, ?_⟩
          rintro _ _ w24 ⟨hcells, o, n, rfl, hn, hall⟩
          have hs25 : signsAll.length = 25 := by decide
          refine cond_intro (fun hx => ?_) fun hx => ?_
          · have hlt : n < 25 := by simp at hx; omega
            have hlt' : n < signsAll.length := by omega
            have hcell : ∀ w', CellsAt w' ⟨lb, 0, none⟩ (signsAll.map strV) → w'.cell? ((⟨lb, 0, none⟩ : Addr).add ((n : Int).toNat * 1)) = some (.string (mkS signsAll[n])) := by
              intro w' h
              have := h n (by simpa using hlt')
              simp only [List.getElem_map, strV] at this
              simpa using this
            have hlen : signsAll[n].length ≤ 2 ∧ 0 < signsAll[n].length := by
              have : ∀ t ∈ signsAll, t.length ≤ 2 ∧ 0 < t.length := by decide
              exact this _ (List.getElem_mem hlt')
            refine ⟨by omega, signsAll[n], hcell _ hcells, fun x w' => x = hasPre signsAll[n] (c :: l') ∧ CellsAt w' ⟨lb, 0, none⟩ (signsAll.map strV) ∧ Own w.heap.size w w' [(b, gotC (Tok.zero, 0, 0))], ?_, ?_⟩
            · intro w25 hw25
              have o := o.drew hw25
              have hcells := (Ext.drew hw25).cells hcells
              have hww : IntKind.i64.wrap ((p : Int) + (signsAll[n].length : Int)) = ((p + signsAll[n].length : Nat) : Int) := by rw [wrap_in (by omega) (by omega)]; omega
              rw [hww]
              refine cond_intro (fun hf => ?_) fun hf => ?_
              · refine ⟨by simp at hf; omega, by omega, signsAll[n], hcell _ hcells, ?_, hcells, o⟩
                rw [Int.toNat_natCast, drop_take_len, hl]; rfl
              · refine ⟨?_, hcells, o⟩
                have hshort : (c :: l').length < signsAll[n].length := by simp at hf; omega
                unfold hasPre
                rw [List.take_of_length_le (by omega)]
                symm
                rw [beq_eq_false_iff_ne]
                intro e; rw [← e] at hshort; omega
            · rintro _ x w26 ⟨rfl, hcells, o⟩
              refine cond_intro (fun hp1 => ?_) fun hp1 => ?_
              · have hfind := find_at (hasPre · (c :: l')) signsAll n hlt' hall hp1
                rw [hfind] at hsa
                simp only at hsa
                have hww : IntKind.i64.wrap ((p : Int) + (signsAll[n].length : Int)) = ((p + signsAll[n].length : Nat) : Int) := by rw [wrap_in (by omega) (by omega)]; omega
                refine ⟨by omega, signsAll[n], hcell _ hcells, o.wr 0 rfl rfl, fun w2 hw2 => ?_⟩
                have o := o.sets 0 hw2 rfl
                refine ⟨_, _, _, _, _, _, (o.at 0 rfl).whole, ?_, o.done⟩
                rw [htk, hsa, if_neg (by intro e; rw [e] at hlen; simp at hlen), hww]; rfl
              · rw [wrap_in (by omega) (by omega)]
                refine ⟨⟨hcells, o, n + 1, by omega, by omega, fun j h hj => ?_⟩, by dsimp only; omega⟩
                rcases Nat.lt_or_ge j n with h' | h'
                · exact hall j h h'
                · obtain rfl : j = n := by omega
                  exact hp1
          · have hn25 : n = 25 := by simp at hx; omega
            subst hn25
            have hfind := find_none_of (hasPre · (c :: l')) signsAll fun j h => hall j h (by omega)
            rw [hfind] at hsa
            simp only at hsa
            rw [htk, if_pos hsa]
            refine ⟨o.wr 0 rfl rfl, fun w2 hw2 => ?_⟩
            have o := o.sets 0 hw2 rfl
            exact ⟨_, _, _, _, _, _, (o.at 0 rfl).whole, rfl, o.done⟩
end Go.Proofs.Ytdbdkdmgfiiljaa
namespace Go.Tk
open Go.Vc
theorem tokAt_adv (l : List UInt8) (p : Nat) (h : (tokAt l p).2.2 = 0) (hk : (tokAt l p).1.kind ≠ 0) : p < (tokAt l p).2.1 ∧ (tokAt l p).2.1 ≤ p + l.length := by
  cases l with
  | nil => exact absurd rfl hk
  | cons c l =>
    rw [tokAt_cons] at *
    split at h
    · rename_i hc
      split at h
      · cases h
      · rename_i h16
        simp only [hc, if_true, if_neg h16]
        have h1 := Go.Proofs.Ytdbdkdmgfiiljaa.takeWhile_le wordC (c :: l)
        have h2 : 0 < ((c :: l).takeWhile wordC).length := by
          rw [List.takeWhile_cons, if_pos (by simp only [wordC, wordN]; simp only [letC] at hc; rw [hc]; rfl)]; simp
        omega
    · rename_i hc
      split at h
      · rename_i hd
        split at h
        · rename_i hq
          simp only [hc, hd, if_true, if_pos hq, Bool.false_eq_true, if_false]
          have h1 := Go.Proofs.Ytdbdkdmgfiiljaa.takeWhile_le digC (c :: l)
          have h2 : 0 < ((c :: l).takeWhile digC).length := by rw [List.takeWhile_cons, if_pos hd]; simp
          omega
        · rename_i hq; exact absurd h hq
      · rename_i hd
        split at h
        · cases h
        · rename_i hq
          simp only [hc, hd, if_neg hq, Bool.false_eq_true, if_false]
          have h1 := Go.Proofs.Ytdbdkdmgfiiljaa.signOf_le (c :: l)
          have h2 : 0 < (signOf (c :: l)).length := by cases hh : signOf (c :: l) with | nil => exact absurd hh hq | cons _ _ => simp
          omega
theorem nextS_adv (s : List UInt8) (a : Nat) (ha : a ≤ s.length) (h : (nextS s a).2.2 = 0) (hk : (nextS s a).1.kind ≠ 0) : a < (nextS s a).2.1 ∧ (nextS s a).2.1 ≤ s.length := by
  have e : nextS s (a : Int) = tokAt (s.drop (a + blankN false (s.drop a))) (a + blankN false (s.drop a)) := by
    unfold nextS; rw [if_neg (by omega), Int.toNat_natCast]
  rw [e] at h hk ⊢
  have hb := blank_le false (s.drop a)
  have := tokAt_adv _ _ h hk
  simp only [List.length_drop] at hb this
  omega
def allFrom (s : List UInt8) : Nat → Nat → List Tok → List Tok × Int × Int
  | 0, _, acc => (acc, 0, 0)
  | f + 1, a, acc =>
    if (nextS s a).2.2 ≠ 0 then ([], (nextS s a).2.1, (nextS s a).2.2)
    else if (nextS s a).1.kind = 0 then (acc ++ [(nextS s a).1], (nextS s a).1.at_, 0)
    else allFrom s f (nextS s a).2.1 (acc ++ [(nextS s a).1])
def allS (s : List UInt8) : List Tok × Int × Int := if s.length > 65536 then ([], 0, 5) else allFrom s (s.length + 1) 0 []
def nameS (s : List UInt8) : Bool :=
  match s with
  | [] => false
  | c :: l => decide ((c :: l).length ≤ 16) && (letC c && ((c :: l).all wordC && !decide ((c :: l) ∈ words)))
theorem nameS_cons (c : UInt8) (l : List UInt8) : nameS (c :: l) = (decide ((c :: l).length ≤ 16) && (letC c && ((c :: l).all wordC && !decide ((c :: l) ∈ words)))) := rfl
theorem tokC_len (t : Tok) : (tokC t).length = 4 := rfl
end Go.Tk
namespace Go.Tm
open Go.Vc Go.Tk
structure Nd where
  op : Int
  name : List UInt8
  n : Int
  kids : Int
  at_ : Int
  deriving DecidableEq
def ndC (x : Nd) : List Value := [.int .i64 x.op, .string (mkS x.name), .int .i64 x.n, .int .i64 x.kids, .int .i64 x.at_]
theorem ndC_len (x : Nd) : (ndC x).length = 5 := rfl
structure Res where
  l : List Nd
  at_ : Nat
  e : Int
def T (toks : List Tok) (p : Nat) : Tok := toks.getD p Tok.zero
def sgs : List (List UInt8) := [[43], [45], [42], [47], [37], [61, 61], [33, 61], [60], [60, 61], [62], [62, 61], [38, 38], [124, 124]]
def idx (s : List UInt8) : List (List UInt8) → Nat → Int
  | [], _ => 0
  | x :: l, i => if x = s then (5 + i : Nat) else idx s l (i + 1)
def opOf (s : List UInt8) : Int := idx s sgs 0
def levO (op : Int) : Nat :=
  if op = 17 then 1 else if op = 16 then 2 else if 10 ≤ op ∧ op ≤ 15 then 3 else if op = 5 ∨ op = 6 then 4 else if 7 ≤ op ∧ op ≤ 9 then 5 else if op = 3 ∨ op = 4 then 6 else if op = 1 ∨ op = 2 then 7 else 0
theorem opOf_bd (s : List UInt8) : opOf s = 0 ∨ (5 ≤ opOf s ∧ opOf s ≤ 17) := by
  suffices ∀ (l : List (List UInt8)) (i : Nat), idx s l i = 0 ∨ (5 + (i : Int) ≤ idx s l i ∧ idx s l i < 5 + i + l.length) by
    have := this sgs 0
    simp [sgs] at this
    unfold opOf sgs
    omega
  intro l
  induction l with
  | nil => intro i; exact .inl rfl
  | cons x l ih =>
    intro i
    unfold idx
    split
    · right; simp; omega
    · rcases ih (i + 1) with h | h
      · exact .inl h
      · right; simp at h ⊢; omega
theorem lev_bd (s : List UInt8) : (opOf s = 0 ∧ levO (opOf s) = 0) ∨ (opOf s ≠ 0 ∧ 1 ≤ levO (opOf s) ∧ levO (opOf s) ≤ 5) := by
  rcases opOf_bd s with h | ⟨h1, h2⟩
  · left; rw [h]; exact ⟨rfl, by decide⟩
  · right
    refine ⟨by omega, ?_⟩
    unfold levO
    repeat' split
    all_goals omega
inductive Job
  | one (p d : Nat)
  | lev (n p d : Nat)
  | loop (n most d : Nat) (x : Res)
def oneStep (toks : List Tok) (r1 rl : Nat → Nat → Option Res) (p d : Nat) : Option Res :=
  if (T toks p).kind = 2 then some ⟨[⟨1, [], (T toks p).n, 0, (T toks p).at_⟩], p + 1, 0⟩
  else if (T toks p).kind = 1 then some ⟨[⟨2, (T toks p).text, 0, 0, (T toks p).at_⟩], p + 1, 0⟩
  else if (T toks p).kind = 4 ∧ ((T toks p).text = [45] ∨ (T toks p).text = [33]) then
    if d = 24 then some ⟨[], p, 5⟩
    else (r1 (p + 1) (d + 1)).map fun x => if x.e = 0 then ⟨⟨if (T toks p).text = [33] then 4 else 3, [], 0, 1, (T toks p).at_⟩ :: x.l, x.at_, 0⟩ else x
  else if (T toks p).kind = 4 ∧ (T toks p).text = [40] then
    if d = 24 then some ⟨[], p, 5⟩
    else (rl (p + 1) (d + 1)).map fun x => if x.e ≠ 0 then x else if (T toks x.at_).kind = 4 ∧ (T toks x.at_).text = [41] then ⟨x.l, x.at_ + 1, 0⟩ else ⟨[], x.at_, 11⟩
  else some ⟨[], p, 11⟩
def join (toks : List Tok) (x y : Res) : Res := ⟨⟨opOf (T toks x.at_).text, [], 0, 2, (T toks x.at_).at_⟩ :: x.l ++ y.l, y.at_, 0⟩
def mine (toks : List Tok) (p : Nat) : Nat := if (T toks p).kind = 4 then levO (opOf (T toks p).text) else 0
theorem mine_le (toks : List Tok) (p : Nat) : mine toks p ≤ 5 := by
  unfold mine
  split
  · rcases lev_bd (T toks p).text with h | h <;> omega
  · omega
def R (toks : List Tok) : Nat → Job → Option Res
  | 0, _ => none
  | f + 1, .one p d => oneStep toks (fun p d => R toks f (.one p d)) (fun p d => R toks f (.lev 1 p d)) p d
  | f + 1, .lev n p d => if n = 6 then R toks f (.one p d) else (R toks f (.lev (n + 1) p d)).bind fun x => R toks f (.loop n 0 d x)
  | f + 1, .loop n m d x => if x.e ≠ 0 then some x else if mine toks x.at_ = 0 ∨ mine toks x.at_ ≠ n then some x
    else (R toks f (.lev (n + 1) (x.at_ + 1) d)).bind fun y => if y.e ≠ 0 then some y else if n = 3 then some (join toks x y) else R toks f (.loop n m d (join toks x y))
def P (toks : List Tok) : Nat → Job → Option Res
  | 0, _ => none
  | f + 1, .one p d => oneStep toks (fun p d => P toks f (.one p d)) (fun p d => P toks f (.lev 1 p d)) p d
  | f + 1, .lev n p d => (P toks f (.one p d)).bind fun x => P toks f (.loop n 6 d x)
  | f + 1, .loop n m d x => if x.e ≠ 0 then some x else if mine toks x.at_ = 0 ∨ mine toks x.at_ < n ∨ m < mine toks x.at_ then some x
    else (P toks f (.lev (mine toks x.at_ + 1) (x.at_ + 1) d)).bind fun y => if y.e ≠ 0 then some y else P toks f (.loop n (if mine toks x.at_ = 3 then 2 else mine toks x.at_) d (join toks x y))
theorem oneStep_mono {toks : List Tok} {r1 rl r1' rl' : Nat → Nat → Option Res} (h1 : ∀ p d r, r1 p d = some r → r1' p d = some r) (hl : ∀ p d r, rl p d = some r → rl' p d = some r) {p d : Nat} {r : Res}
    (h : oneStep toks r1 rl p d = some r) : oneStep toks r1' rl' p d = some r := by
  unfold oneStep at *
  split at h
  · rename_i c; rw [if_pos c]; exact h
  · rename_i c
    rw [if_neg c]
    split at h
    · rename_i c; rw [if_pos c]; exact h
    · rename_i c
      rw [if_neg c]
      split at h
      · rename_i c
        rw [if_pos c]
        split at h
        · rename_i c; rw [if_pos c]; exact h
        · rename_i c
          rw [if_neg c]
          obtain ⟨x, hx, rfl⟩ := Option.map_eq_some_iff.1 h
          exact Option.map_eq_some_iff.2 ⟨x, h1 _ _ _ hx, rfl⟩
      · rename_i c
        rw [if_neg c]
        split at h
        · rename_i c
          rw [if_pos c]
          split at h
          · rename_i c; rw [if_pos c]; exact h
          · rename_i c
            rw [if_neg c]
            obtain ⟨x, hx, rfl⟩ := Option.map_eq_some_iff.1 h
            exact Option.map_eq_some_iff.2 ⟨x, hl _ _ _ hx, rfl⟩
        · rename_i c; rw [if_neg c]; exact h
theorem R_succ (toks : List Tok) : ∀ (f : Nat) (j : Job) (r : Res), R toks f j = some r → R toks (f + 1) j = some r := by
  intro f
  induction f with
  | zero => intro j r h; simp [R] at h
  | succ f ih =>
    intro j r h
    cases j with
    | one p d =>
      simp only [R] at h
      show oneStep toks (fun p d => R toks (f + 1) (.one p d)) (fun p d => R toks (f + 1) (.lev 1 p d)) p d = some r
      exact oneStep_mono (fun p d r h => ih _ _ h) (fun p d r h => ih _ _ h) h
    | lev n p d =>
      rw [R] at h ⊢
      split at h
      · rename_i hn; rw [if_pos hn]; exact ih _ _ h
      · rename_i hn
        rw [if_neg hn]
        obtain ⟨x, hx, hr⟩ := Option.bind_eq_some_iff.1 h
        exact Option.bind_eq_some_iff.2 ⟨x, ih _ _ hx, ih _ _ hr⟩
    | loop n m d x =>
      rw [R] at h ⊢
      split at h
      · rename_i he; rw [if_pos he]; exact h
      · rename_i he
        rw [if_neg he]
        split at h
        · rename_i hm; rw [if_pos hm]; exact h
        · rename_i hm
          rw [if_neg hm]
          obtain ⟨y, hy, hr⟩ := Option.bind_eq_some_iff.1 h
          refine Option.bind_eq_some_iff.2 ⟨y, ih _ _ hy, ?_⟩
          split at hr
          · rename_i hye; rw [if_pos hye]; exact hr
          · rename_i hye
            rw [if_neg hye]
            split at hr
            · rename_i h3; rw [if_pos h3]; exact hr
            · rename_i h3; rw [if_neg h3]; exact ih _ _ hr
theorem R_mono (toks : List Tok) {f g : Nat} (hfg : f ≤ g) {j : Job} {r : Res} (h : R toks f j = some r) : R toks g j = some r := by
  induction g with
  | zero => have : f = 0 := by omega
            subst this; exact h
  | succ g ih =>
    rcases Nat.lt_or_ge g f with h1 | h1
    · have : f = g + 1 := by omega
      subst this; exact h
    · exact R_succ _ _ _ _ (ih h1)
def chain (toks : List Tok) (g d : Nat) : Nat → Nat → Res → Option Res
  | _, 0, x => some x
  | n, k + 1, x => (chain toks g d (n + 1) k x).bind fun y => R toks g (.loop n 0 d y)
theorem chain_mono (toks : List Tok) {f g d : Nat} (hfg : f ≤ g) : ∀ (k n : Nat) {x r : Res}, chain toks f d n k x = some r → chain toks g d n k x = some r
  | 0, _, _, _, h => h
  | k + 1, n, x, r, h => by
    obtain ⟨y, hy, hr⟩ := Option.bind_eq_some_iff.1 h
    exact Option.bind_eq_some_iff.2 ⟨y, chain_mono toks hfg k (n + 1) hy, R_mono toks hfg hr⟩
theorem chain_split (toks : List Tok) (g d : Nat) : ∀ (a b n : Nat) (x : Res), chain toks g d n (a + b) x = (chain toks g d (n + a) b x).bind (chain toks g d n a)
  | 0, b, n, x => by
    simp only [Nat.zero_add, Nat.add_zero]
    cases chain toks g d n b x <;> rfl
  | a + 1, b, n, x => by
    rw [show a + 1 + b = (a + b) + 1 by omega]
    show (chain toks g d (n + 1) (a + b) x).bind _ = _
    rw [chain_split toks g d a b (n + 1) x, show n + 1 + a = n + (a + 1) by omega]
    cases chain toks g d (n + (a + 1)) b x with
    | none => rfl
    | some y => rfl
theorem chain_idle (toks : List Tok) (g d : Nat) (x : Res) : ∀ (k n : Nat), (x.e ≠ 0 ∨ mine toks x.at_ = 0 ∨ mine toks x.at_ < n ∨ n + k ≤ mine toks x.at_) → chain toks (g + 1) d n k x = some x
  | 0, _, _ => rfl
  | k + 1, n, h => by
    show (chain toks (g + 1) d (n + 1) k x).bind _ = _
    rw [chain_idle toks g d x k (n + 1) (by omega)]
    show R toks (g + 1) (.loop n 0 d x) = _
    rw [R]
    rcases h with h | h
    · rw [if_pos h]
    · split
      · rfl
      · rw [if_pos (by omega)]
theorem chain_lev (toks : List Tok) (g p d : Nat) : ∀ (k n : Nat) (x r : Res), n + k = 6 → R toks g (.one p d) = some x → chain toks g d n k x = some r → ∃ g', R toks g' (.lev n p d) = some r
  | 0, n, x, r, hn, h1, h2 => by
    cases h2
    exact ⟨g + 1, by rw [R, if_pos (by omega)]; exact h1⟩
  | k + 1, n, x, r, hn, h1, h2 => by
    obtain ⟨y, hy, hr⟩ := Option.bind_eq_some_iff.1 h2
    obtain ⟨g', h⟩ := chain_lev toks g p d k (n + 1) x y (by omega) h1 hy
    refine ⟨max g g' + 1, ?_⟩
    rw [R, if_neg (by omega)]
    exact Option.bind_eq_some_iff.2 ⟨y, R_mono toks (Nat.le_max_right _ _) h, R_mono toks (Nat.le_max_left _ _) hr⟩
theorem P_R (toks : List Tok) : ∀ (f : Nat), (∀ p d r, P toks f (.one p d) = some r → ∃ g, R toks g (.one p d) = some r) ∧
    (∀ n p d r, 1 ≤ n → n ≤ 6 → P toks f (.lev n p d) = some r → ∃ g, R toks g (.lev n p d) = some r) ∧
    (∀ n m d x r, 1 ≤ n → n ≤ 6 → m ≤ 6 → P toks f (.loop n m d x) = some r → ∃ g, chain toks g d n (min m 5 + 1 - n) x = some r) := by
  intro f
  induction f with
  | zero => exact ⟨fun _ _ _ h => by simp [P] at h, fun _ _ _ _ _ _ h => by simp [P] at h, fun _ _ _ _ _ _ _ _ h => by simp [P] at h⟩
  | succ f ih =>
    obtain ⟨ih1, ih2, ih3⟩ := ih
    refine ⟨fun p d r h => ?_, fun n p d r hn hn6 h => ?_, fun n m d x r hn hn6 hm h => ?_⟩
    · simp only [P] at h
      unfold oneStep at h
      split at h
      · rename_i hk; exact ⟨1, by simp only [R]; unfold oneStep; rw [if_pos hk]; exact h⟩
      · rename_i hk
        split at h
        · rename_i hk1; exact ⟨1, by simp only [R]; unfold oneStep; rw [if_neg hk, if_pos hk1]; exact h⟩
        · rename_i hk1
          split at h
          · rename_i hk2
            split at h
            · rename_i hd; exact ⟨1, by simp only [R]; unfold oneStep; rw [if_neg hk, if_neg hk1, if_pos hk2, if_pos hd]; exact h⟩
            · rename_i hd
              obtain ⟨x, hx, rfl⟩ := Option.map_eq_some_iff.1 h
              obtain ⟨g, hg⟩ := ih1 _ _ _ hx
              exact ⟨g + 1, by simp only [R]; unfold oneStep; rw [if_neg hk, if_neg hk1, if_pos hk2, if_neg hd]; exact Option.map_eq_some_iff.2 ⟨x, hg, rfl⟩⟩
          · rename_i hk2
            split at h
            · rename_i hk3
              split at h
              · rename_i hd; exact ⟨1, by simp only [R]; unfold oneStep; rw [if_neg hk, if_neg hk1, if_neg hk2, if_pos hk3, if_pos hd]; exact h⟩
              · rename_i hd
                obtain ⟨x, hx, rfl⟩ := Option.map_eq_some_iff.1 h
                obtain ⟨g, hg⟩ := ih2 _ _ _ _ (by omega) (by omega) hx
                exact ⟨g + 1, by simp only [R]; unfold oneStep; rw [if_neg hk, if_neg hk1, if_neg hk2, if_pos hk3, if_neg hd]; exact Option.map_eq_some_iff.2 ⟨x, hg, rfl⟩⟩
            · rename_i hk3; exact ⟨1, by simp only [R]; unfold oneStep; rw [if_neg hk, if_neg hk1, if_neg hk2, if_neg hk3]; exact h⟩
    · rw [P] at h
      obtain ⟨x, hx, hr⟩ := Option.bind_eq_some_iff.1 h
      obtain ⟨g1, h1⟩ := ih1 _ _ _ hx
      obtain ⟨g2, h2⟩ := ih3 _ _ _ _ _ hn hn6 (by omega) hr
      exact chain_lev toks (max g1 g2) p d (min 6 5 + 1 - n) n x r (by omega) (R_mono toks (Nat.le_max_left _ _) h1) (chain_mono toks (Nat.le_max_right _ _) _ _ h2)
    · rw [P] at h
      split at h
      · rename_i he
        cases h
        exact ⟨1, chain_idle toks 0 d x _ _ (.inl he)⟩
      · rename_i he
        have hml := mine_le toks x.at_
        split at h
        · rename_i hm'
          cases h
          exact ⟨1, chain_idle toks 0 d x _ _ (by omega)⟩
        · rename_i hm'
          obtain ⟨y, hy, hr⟩ := Option.bind_eq_some_iff.1 h
          obtain ⟨g1, h1⟩ := ih2 _ _ _ _ (by omega) (by omega) hy
          have hfin : ∀ g z, R toks (g + 1) (.loop (mine toks x.at_) 0 d x) = some z → chain toks (g + 1) d n (mine toks x.at_ - n) z = some r → chain toks (g + 1) d n (min m 5 + 1 - n) x = some r := by
            intro g z hz hc
            rw [show min m 5 + 1 - n = (mine toks x.at_ - n) + ((min m 5 - mine toks x.at_) + 1) by omega, chain_split, show n + (mine toks x.at_ - n) = mine toks x.at_ by omega]
            refine Option.bind_eq_some_iff.2 ⟨z, ?_, hc⟩
            show (chain toks (g + 1) d (mine toks x.at_ + 1) (min m 5 - mine toks x.at_) x).bind _ = _
            rw [chain_idle toks g d x _ _ (by omega)]
            exact hz
          split at hr
          · rename_i hye
            have hry : y = r := Option.some.inj hr
            refine ⟨g1 + 1, hfin g1 y ?_ (by rw [← hry]; exact chain_idle toks g1 d y _ _ (.inl hye))⟩
            rw [R, if_neg he, if_neg (by omega)]
            exact Option.bind_eq_some_iff.2 ⟨y, h1, by rw [if_pos hye]⟩
          · rename_i hye
            obtain ⟨g2, h2⟩ := ih3 _ _ _ _ _ hn hn6 (by split <;> omega) hr
            by_cases h3 : mine toks x.at_ = 3
            · rw [if_pos h3] at h2
              refine ⟨max g1 g2 + 1, hfin (max g1 g2) (join toks x y) ?_ (chain_mono toks (f := g2) (by omega) _ _ (by rw [h3]; rw [show min 2 5 + 1 - n = 3 - n by omega] at h2; exact h2))⟩
              rw [R, if_neg he, if_neg (by omega)]
              exact Option.bind_eq_some_iff.2 ⟨y, R_mono toks (Nat.le_max_left _ _) h1, by rw [if_neg hye, if_pos h3]⟩
            · rw [if_neg h3] at h2
              rw [show min (mine toks x.at_) 5 + 1 - n = (mine toks x.at_ - n) + 1 by omega, chain_split, show n + (mine toks x.at_ - n) = mine toks x.at_ by omega] at h2
              obtain ⟨z, hz, hc⟩ := Option.bind_eq_some_iff.1 h2
              have hz' : R toks g2 (.loop (mine toks x.at_) 0 d (join toks x y)) = some z := hz
              refine ⟨max g1 g2 + 1, hfin (max g1 g2) z ?_ (chain_mono toks (by omega) _ _ hc)⟩
              rw [R, if_neg he, if_neg (by omega)]
              exact Option.bind_eq_some_iff.2 ⟨y, R_mono toks (Nat.le_max_left _ _) h1, by rw [if_neg hye, if_neg h3]; exact R_mono toks (Nat.le_max_right _ _) hz'⟩
end Go.Tm
namespace Go.Tm
open Go.Vc Go.Tk
theorem T_end {toks : List Tok} {p : Nat} (h : toks.length ≤ p) : T toks p = Tok.zero := by
  unfold T; rw [List.getD_eq_getElem?_getD, List.getElem?_eq_none h]; rfl
theorem T_lt {toks : List Tok} {p : Nat} (h : (T toks p).kind ≠ 0) : p < toks.length := by
  rcases Nat.lt_or_ge p toks.length with h1 | h1
  · exact h1
  · rw [T_end h1] at h; exact absurd rfl h
theorem mine_lt {toks : List Tok} {p : Nat} (h : mine toks p ≠ 0) : p < toks.length := by
  refine T_lt fun e => h ?_
  unfold mine; rw [e]; rfl
def Ok (toks : List Tok) (p : Nat) (r : Res) : Prop := (r.e = 0 → p < r.at_ ∧ r.at_ ≤ toks.length ∧ r.l.length ≤ r.at_ - p) ∧ (r.e ≠ 0 → r.l = [])
theorem oneStep_ok {toks : List Tok} {r1 rl : Nat → Nat → Option Res} (h1 : ∀ p d r, r1 p d = some r → Ok toks p r) (hl : ∀ p d r, rl p d = some r → Ok toks p r) {p d : Nat} {r : Res}
    (h : oneStep toks r1 rl p d = some r) : Ok toks p r := by
  unfold oneStep at h
  split at h
  · rename_i c
    have := T_lt (toks := toks) (p := p) (by rw [c]; decide)
    cases h; exact ⟨fun _ => ⟨by simp, this, by simp⟩, fun h => absurd rfl h⟩
  · split at h
    · rename_i c
      have := T_lt (toks := toks) (p := p) (by rw [c]; decide)
      cases h; exact ⟨fun _ => ⟨by simp, this, by simp⟩, fun h => absurd rfl h⟩
    · split at h
      · rename_i c
        have := T_lt (toks := toks) (p := p) (by rw [c.1]; decide)
        split at h
        · cases h; exact ⟨fun h => by simp at h, fun _ => rfl⟩
        · obtain ⟨x, hx, rfl⟩ := Option.map_eq_some_iff.1 h
          have hk := h1 _ _ _ hx
          split
          · rename_i he
            have := hk.1 he
            exact ⟨fun _ => ⟨by simp; omega, by simp; omega, by simp; omega⟩, fun h => absurd rfl h⟩
          · rename_i he
            exact ⟨fun h => absurd h he, hk.2⟩
      · split at h
        · rename_i c
          have := T_lt (toks := toks) (p := p) (by rw [c.1]; decide)
          split at h
          · cases h; exact ⟨fun h => by simp at h, fun _ => rfl⟩
          · obtain ⟨x, hx, rfl⟩ := Option.map_eq_some_iff.1 h
            have hk := hl _ _ _ hx
            split
            · rename_i he
              exact ⟨fun h => absurd h he, hk.2⟩
            · rename_i he
              have he : x.e = 0 := by simpa using he
              have hh := hk.1 he
              split
              · rename_i c
                have := T_lt (toks := toks) (p := x.at_) (by rw [c.1]; decide)
                exact ⟨fun _ => ⟨by simp; omega, by simp; omega, by simp; omega⟩, fun h => absurd rfl h⟩
              · exact ⟨fun h => by simp at h, fun _ => rfl⟩
        · cases h; exact ⟨fun h => by simp at h, fun _ => rfl⟩
def OkL (toks : List Tok) (x r : Res) : Prop := (r.e = 0 → x.at_ ≤ r.at_ ∧ r.at_ ≤ toks.length ∧ r.l.length ≤ x.l.length + (r.at_ - x.at_)) ∧ (r.e ≠ 0 → r.l = [])
theorem join_ok {toks : List Tok} {x y : Res} (h : Ok toks (x.at_ + 1) y) (hy : y.e = 0) : x.at_ ≤ (join toks x y).at_ ∧ (join toks x y).at_ ≤ toks.length ∧ (join toks x y).l.length ≤ x.l.length + ((join toks x y).at_ - x.at_) := by
  have := h.1 hy
  simp only [join, List.length_append, List.length_cons]
  omega
theorem P_ok (toks : List Tok) : ∀ (f : Nat), (∀ p d r, P toks f (.one p d) = some r → Ok toks p r) ∧ (∀ n p d r, P toks f (.lev n p d) = some r → Ok toks p r) ∧
    (∀ n m d x r, (x.e = 0 → x.at_ ≤ toks.length) → (x.e ≠ 0 → x.l = []) → P toks f (.loop n m d x) = some r → OkL toks x r ∧ (x.e ≠ 0 → r = x)) := by
  intro f
  induction f with
  | zero => exact ⟨fun _ _ _ h => by simp [P] at h, fun _ _ _ _ h => by simp [P] at h, fun _ _ _ _ _ _ _ h => by simp [P] at h⟩
  | succ f ih =>
    obtain ⟨ih1, ih2, ih3⟩ := ih
    refine ⟨fun p d r h => ?_, fun n p d r h => ?_, fun n m d x r hx hx0 h => ?_⟩
    · simp only [P] at h
      exact oneStep_ok (fun p d r h => ih1 p d r h) (fun p d r h => ih2 1 p d r h) h
    · rw [P] at h
      obtain ⟨x, hx, hr⟩ := Option.bind_eq_some_iff.1 h
      have hk := ih1 _ _ _ hx
      have hl := ih3 _ _ _ _ _ (fun h => (hk.1 h).2.1) hk.2 hr
      by_cases he : x.e = 0
      · have := hk.1 he
        refine ⟨fun h0 => ?_, hl.1.2⟩
        have := hl.1.1 h0
        omega
      · rw [hl.2 he]; exact hk
    · rw [P] at h
      split at h
      · rename_i he; cases h; exact ⟨⟨fun h => absurd h he, hx0⟩, fun _ => rfl⟩
      · rename_i he
        have he : x.e = 0 := by simpa using he
        split at h
        · cases h; exact ⟨⟨fun _ => ⟨Nat.le_refl _, hx he, by omega⟩, fun h => absurd he h⟩, fun h => absurd he h⟩
        · obtain ⟨y, hy, hr⟩ := Option.bind_eq_some_iff.1 h
          have hk := ih2 _ _ _ _ hy
          refine ⟨?_, fun h => absurd he h⟩
          split at hr
          · rename_i hye
            cases hr
            exact ⟨fun h => absurd h hye, hk.2⟩
          · rename_i hye
            have hye : y.e = 0 := by simpa using hye
            have hj := join_ok hk hye
            have := (ih3 _ _ _ _ _ (fun _ => hj.2.1) (fun h => absurd rfl h) hr).1
            refine ⟨fun h0 => ?_, this.2⟩
            have := this.1 h0
            omega
theorem R_ok (toks : List Tok) : ∀ (f : Nat), (∀ p d r, R toks f (.one p d) = some r → Ok toks p r) ∧ (∀ n p d r, R toks f (.lev n p d) = some r → Ok toks p r) ∧
    (∀ n m d x r, (x.e = 0 → x.at_ ≤ toks.length) → (x.e ≠ 0 → x.l = []) → R toks f (.loop n m d x) = some r → OkL toks x r ∧ (x.e ≠ 0 → r = x)) := by
  intro f
  induction f with
  | zero => exact ⟨fun _ _ _ h => by simp [R] at h, fun _ _ _ _ h => by simp [R] at h, fun _ _ _ _ _ _ _ h => by simp [R] at h⟩
  | succ f ih =>
    obtain ⟨ih1, ih2, ih3⟩ := ih
    refine ⟨fun p d r h => ?_, fun n p d r h => ?_, fun n m d x r hx hx0 h => ?_⟩
    · simp only [R] at h
      exact oneStep_ok (fun p d r h => ih1 p d r h) (fun p d r h => ih2 1 p d r h) h
    · rw [R] at h
      split at h
      · exact ih1 _ _ _ h
      · obtain ⟨x, hx, hr⟩ := Option.bind_eq_some_iff.1 h
        have hk := ih2 _ _ _ _ hx
        have hl := ih3 _ _ _ _ _ (fun h => (hk.1 h).2.1) hk.2 hr
        by_cases he : x.e = 0
        · have := hk.1 he
          refine ⟨fun h0 => ?_, hl.1.2⟩
          have := hl.1.1 h0
          omega
        · rw [hl.2 he]; exact hk
    · rw [R] at h
      split at h
      · rename_i he; cases h; exact ⟨⟨fun h => absurd h he, hx0⟩, fun _ => rfl⟩
      · rename_i he
        have he : x.e = 0 := by simpa using he
        split at h
        · cases h; exact ⟨⟨fun _ => ⟨Nat.le_refl _, hx he, by omega⟩, fun h => absurd he h⟩, fun h => absurd he h⟩
        · obtain ⟨y, hy, hr⟩ := Option.bind_eq_some_iff.1 h
          have hk := ih2 _ _ _ _ hy
          refine ⟨?_, fun h => absurd he h⟩
          split at hr
          · rename_i hye
            cases hr
            exact ⟨fun h => absurd h hye, hk.2⟩
          · rename_i hye
            have hye : y.e = 0 := by simpa using hye
            have hj := join_ok hk hye
            split at hr
            · cases hr
              exact ⟨fun _ => hj, fun h => absurd rfl h⟩
            · have := (ih3 _ _ _ _ _ (fun _ => hj.2.1) (fun h => absurd rfl h) hr).1
              refine ⟨fun h0 => ?_, this.2⟩
              have := this.1 h0
              omega
theorem P_total (toks : List Tok) : ∀ (f : Nat), (∀ p d, 3 * (toks.length - p) + 1 ≤ f → ∃ r, P toks f (.one p d) = some r) ∧ (∀ n p d, 3 * (toks.length - p) + 2 ≤ f → ∃ r, P toks f (.lev n p d) = some r) ∧
    (∀ n m d x, 1 ≤ f → (x.e = 0 → 3 * (toks.length - x.at_) + 1 ≤ f) → ∃ r, P toks f (.loop n m d x) = some r) := by
  intro f
  induction f with
  | zero => exact ⟨fun _ _ h => by omega, fun _ _ _ h => by omega, fun _ _ _ _ h => by omega⟩
  | succ f ih =>
    obtain ⟨ih1, ih2, ih3⟩ := ih
    obtain ⟨k1, k2, k3⟩ := P_ok toks f
    refine ⟨fun p d h => ?_, fun n p d h => ?_, fun n m d x _ h => ?_⟩
    · simp only [P]
      unfold oneStep
      split
      · exact ⟨_, rfl⟩
      · split
        · exact ⟨_, rfl⟩
        · split
          · rename_i c
            have := T_lt (toks := toks) (p := p) (by rw [c.1]; decide)
            split
            · exact ⟨_, rfl⟩
            · obtain ⟨x, hx⟩ := ih1 (p + 1) (d + 1) (by omega)
              exact ⟨_, Option.map_eq_some_iff.2 ⟨x, hx, rfl⟩⟩
          · split
            · rename_i c
              have := T_lt (toks := toks) (p := p) (by rw [c.1]; decide)
              split
              · exact ⟨_, rfl⟩
              · obtain ⟨x, hx⟩ := ih2 1 (p + 1) (d + 1) (by omega)
                exact ⟨_, Option.map_eq_some_iff.2 ⟨x, hx, rfl⟩⟩
            · exact ⟨_, rfl⟩
    · rw [P]
      obtain ⟨x, hx⟩ := ih1 p d (by omega)
      obtain ⟨r, hr⟩ := ih3 n 6 d x (by omega) (fun he => by have := (k1 _ _ _ hx).1 he; omega)
      exact ⟨r, by rw [hx]; exact hr⟩
    · rw [P]
      split
      · exact ⟨_, rfl⟩
      · rename_i he
        have he : x.e = 0 := by simpa using he
        have h := h he
        split
        · exact ⟨_, rfl⟩
        · rename_i hm
          have hlt := mine_lt (toks := toks) (p := x.at_) (by omega)
          obtain ⟨y, hy⟩ := ih2 (mine toks x.at_ + 1) (x.at_ + 1) d (by omega)
          rw [hy]
          show ∃ r, (if y.e ≠ 0 then some y else _) = some r
          split
          · exact ⟨_, rfl⟩
          · rename_i hye
            have hye : y.e = 0 := by simpa using hye
            have := (k2 _ _ _ _ hy).1 hye
            exact ih3 _ _ _ _ (by omega) (fun _ => by simp only [join]; omega)
end Go.Tm
namespace Go.Proofs.Ytdbdkdmgfiiljaa
open Go.Vc
def R10_Signs_wp (K : Value → World → Prop) (w : World) : Prop :=
  ∀ (b : Nat) (w1 : World), b = w.heap.size → w1 = w.alloc (.cells #[.string (mkS [124, 124])] 9) →
  ∀ (b1 : Nat) (w2 : World), b1 = w1.heap.size → w2 = w1.alloc (.cells #[.string (mkS [38, 38])] 9) →
  ∀ (b2 : Nat) (w3 : World), b2 = w2.heap.size → w3 = w2.alloc (.cells #[.string (mkS [61, 61]), .string (mkS [33, 61]), .string (mkS [60]), .string (mkS [60, 61]), .string (mkS [62]), .string (mkS [62, 61])] 9) →
  ∀ (b3 : Nat) (w4 : World), b3 = w3.heap.size → w4 = w3.alloc (.cells #[.string (mkS [43]), .string (mkS [45])] 9) →
  ∀ (b4 : Nat) (w5 : World), b4 = w4.heap.size → w5 = w4.alloc (.cells #[.string (mkS [42]), .string (mkS [47]), .string (mkS [37])] 9) →
  ∀ (b5 : Nat) (w6 : World), b5 = w5.heap.size → w6 = w5.alloc (.cells #[.slice (some ⟨b, 0, none⟩) 1 1, .slice (some ⟨b1, 0, none⟩) 1 1, .slice (some ⟨b2, 0, none⟩) 6 6, .slice (some ⟨b3, 0, none⟩) 2 2, .slice (some ⟨b4, 0, none⟩) 3 3] 69) →
  K (.slice (some ⟨b5, 0, none⟩) 5 5) w6
theorem R10_Signs_ok (K : Value → World → Prop) (w : World) (h : R10_Signs_wp K w) : Calls Try.prog 104 #[] w (Ret K) :=
  calls_of {} Try.func104 (by kernel_rfl) h
def R10_Op_wp (s : List UInt8) (K : Value → World → Prop) (w : World) : Prop :=
  ∀ (b : Nat) (w1 : World), b = w.heap.size → w1 = w.alloc (.cells #[.string (mkS [43]), .string (mkS [45]), .string (mkS [42]), .string (mkS [47]), .string (mkS [37]), .string (mkS [61, 61]), .string (mkS [33, 61]), .string (mkS [60]), .string (mkS [60, 61]), .string (mkS [62]), .string (mkS [62, 61]), .string (mkS [38, 38]), .string (mkS [124, 124])] 9) →
  ∃ (I : Int → World → Prop) (m : Int → World → Nat), I 0 w1 ∧
  ∀ (_g : Nat → Value) (i : Int) (w2 : World), I i w2 →
  cond (decide (i < (13 : Int)))
    (((0 : Int) ≤ i ∧ i < (13 : Int)) ∧
    ∃ (x : List UInt8), w2.cell? ((⟨b, 0, none⟩ : Addr).add (i.toNat * 1)) = some (.string (mkS x)) ∧
    cond (x == s)
      (K (.int .i64 (IntKind.i64.wrap ((5 : Int) + i))) w2)
      (I (IntKind.i64.wrap (i + 1)) w2 ∧ m (IntKind.i64.wrap (i + 1)) w2 < m i w2))
    (K (.int .i64 0) w2)
theorem R10_Op_ok (s : List UInt8) (K : Value → World → Prop) (w : World) (h : R10_Op_wp s K w) : Calls Try.prog 102 #[.string (mkS s)] w (Ret K) :=
  calls_of { loops := [(58, [(4, .int .i64)])] } Try.func102 (by kernel_rfl) h
def R10_Level_wp (op : Int) (K : Value → World → Prop) (w : World) : Prop :=
  ∀ (_g : Nat → Value),
  cond (((op == 1) || (op == 2)))
    (K (.int .i64 7) w)
    (∀ (_g1 : Nat → Value),
    cond (((op == 3) || (op == 4)))
      (K (.int .i64 6) w)
      (Calls Try.prog 104 #[] w (Ret fun v w1 => -- retraceref10.Signs
        ∃ (lA : Option Addr) (lN : Nat) (lC : Nat), v = .slice lA lN lC ∧
        ∃ (I : Int → World → Prop) (m : Int → World → Nat), I 0 w1 ∧
        ∀ (_g2 : Nat → Value) (i : Int) (w2 : World), I i w2 →
        cond (decide (i < (lN : Int)))
          (∃ (I1 : Int → World → Prop) (m1 : Int → World → Nat), I1 0 w2 ∧
          ∀ (_g3 : Nat → Value) (k : Int) (w3 : World), I1 k w3 →
          ((0 : Int) ≤ i ∧ i < (lN : Int)) ∧
          ptrOr lA (fun a =>
            ∃ (xA : Option Addr) (xN : Nat) (xC : Nat), w3.cell? (a.add (i.toNat * 1)) = some (.slice xA xN xC) ∧
            cond (decide (k < (xN : Int)))
              (((0 : Int) ≤ i ∧ i < (lN : Int)) ∧
              ptrOr lA (fun a1 =>
                ∃ (xA1 : Option Addr) (xN1 : Nat) (xC1 : Nat), w3.cell? (a1.add (i.toNat * 1)) = some (.slice xA1 xN1 xC1) ∧
                ((0 : Int) ≤ k ∧ k < (xN1 : Int)) ∧
                ptrOr xA1 (fun a2 =>
                  ∃ (x : List UInt8), w3.cell? (a2.add (k.toNat * 1)) = some (.string (mkS x)) ∧
                  Calls Try.prog 102 #[.string (mkS x)] w3 (Ret fun v1 w4 => -- retraceref10.Op
                    ∃ (x1 : Int), v1 = .int .i64 x1 ∧
                    cond (x1 == op)
                      (K (.int .i64 (IntKind.i64.wrap (i + 1))) w4)
                      (I1 (IntKind.i64.wrap (k + 1)) w4 ∧ m1 (IntKind.i64.wrap (k + 1)) w4 < m1 k w3)))))
              (I (IntKind.i64.wrap (i + 1)) w3 ∧ m (IntKind.i64.wrap (i + 1)) w3 < m i w2)))
          (K (.int .i64 0) w2))))
theorem R10_Level_ok (op : Int) (K : Value → World → Prop) (w : World) (h : R10_Level_wp op K w) : Calls Try.prog 103 #[.int .i64 op] w (Ret K) :=
  calls_of { loops := [(250, [(4, .int .i64)]), (16018, [(5, .int .i64)])], merges := [(12, [11]), (28, [17])] } Try.func103 (by kernel_rfl) h
end Go.Proofs.Ytdbdkdmgfiiljaa
namespace Go.Proofs.Ytdbdkdmgfiiljaa
open Go.Vc Go.Tk Go.Tm
theorem rOp_spec (s : List UInt8) (w : World) : Calls Try.prog 102 #[.string (mkS s)] w (Ret fun v w' => v = .int .i64 (opOf s) ∧ Ext w w') := by
  refine R10_Op_ok _ _ _ ?_
  intro b w1 hb hw1
  have o := (Own.start w).alloc hb hw1
  have hcells : ∀ k (hk : k < sgs.length), w1.cell? ((⟨b, 0, none⟩ : Addr).add (k * 1)) = some (.string (mkS sgs[k])) := by
    intro k hk
    have hall : CellsAt w1 ⟨b, 0, none⟩ (sgs.map strV) := (o.at 0 rfl).whole
    have := hall k (by simpa using hk)
    rw [Nat.mul_one, this]
    simp [strV]
  refine ⟨fun i w' => w1 = w' ∧ ∃ k : Nat, i = k ∧ k ≤ 13 ∧ opOf s = idx s (sgs.drop k) k, fun i _ => 13 - i.toNat, ⟨rfl, 0, rfl, by omega, rfl⟩, ?_⟩
  rintro _ _ _ ⟨rfl, k, rfl, hk, hop⟩
  refine cond_intro (fun hx => ?_) fun hx => ?_
  · have hlt : k < 13 := by simp at hx; omega
    have hlt' : k < sgs.length := hlt
    have hd : sgs.drop k = sgs[k] :: sgs.drop (k + 1) := List.drop_eq_getElem_cons hlt'
    rw [hd] at hop
    rw [Int.toNat_natCast]
    refine ⟨⟨by omega, by omega⟩, _, hcells k hlt', cond_intro (fun he => ?_) fun he => ?_⟩
    · have he : sgs[k] = s := by simpa using he
      refine ⟨?_, o.done⟩
      rw [hop, idx, if_pos he, wrap_in (by omega) (by omega)]
      simp
    · have he : sgs[k] ≠ s := by simpa using he
      rw [wrap_in (by omega) (by omega)]
      refine ⟨⟨rfl, k + 1, by omega, by omega, ?_⟩, by dsimp only; omega⟩
      rw [hop, idx, if_neg he]
  · have hk : k = 13 := by simp at hx; omega
    subst hk
    exact ⟨by rw [hop]; rfl, o.done⟩
def sgL : List (List (List UInt8)) := [[[124, 124]], [[38, 38]], [[61, 61], [33, 61], [60], [60, 61], [62], [62, 61]], [[43], [45]], [[42], [47], [37]]]
theorem rLevs_spec (w : World) : Calls Try.prog 104 #[] w (Ret fun v w' => ∃ p, v = .slice (some p) 5 5 ∧ (∀ i (hi : i < sgL.length), ∃ q, w'.cell? (p.add (i * 1)) = some (.slice (some q) sgL[i].length sgL[i].length) ∧ CellsAt w' q (sgL[i].map strV)) ∧ Ext w w') := by
  refine R10_Signs_ok _ _ ?_
  intro b w1 hb hw1 b1 w2 hb1 hw2 b2 w3 hb2 hw3 b3 w4 hb3 hw4 b4 w5 hb4 hw5 b5 w6 hb5 hw6
  have o := ((((((Own.start w).alloc hb hw1).alloc hb1 hw2).alloc hb2 hw3).alloc hb3 hw4).alloc hb4 hw5).alloc hb5 hw6
  refine ⟨_, rfl, fun i hi => ?_, o.done⟩
  match i, hi with
  | 0, _ => exact ⟨_, (o.at 0 rfl).whole 0 (by simp), (o.at 5 rfl).whole⟩
  | 1, _ => exact ⟨_, (o.at 0 rfl).whole 1 (by simp), (o.at 4 rfl).whole⟩
  | 2, _ => exact ⟨_, (o.at 0 rfl).whole 2 (by simp), (o.at 3 rfl).whole⟩
  | 3, _ => exact ⟨_, (o.at 0 rfl).whole 3 (by simp), (o.at 2 rfl).whole⟩
  | 4, _ => exact ⟨_, (o.at 0 rfl).whole 4 (by simp), (o.at 1 rfl).whole⟩
  | i + 5, h => exact absurd h (by show ¬ i + 5 < 5; omega)
def opL : List (List Int) := sgL.map fun l => l.map opOf
theorem lev_found : ∀ i (hi : i < opL.length), ∀ x ∈ opL[i], levO x = i + 1 := by decide
theorem lev_none (op : Int) (h1 : op ≠ 1 ∧ op ≠ 2) (h2 : op ≠ 3 ∧ op ≠ 4) (h : ∀ i (hi : i < opL.length), op ∉ opL[i]) : levO op = 0 := by
  have h0 := h 0 (by decide)
  have h1' := h 1 (by decide)
  have h2' := h 2 (by decide)
  have h3' := h 3 (by decide)
  have h4' := h 4 (by decide)
  have e0 : opL[0]'(by decide) = [17] := by decide
  have e1 : opL[1]'(by decide) = [16] := by decide
  have e2 : opL[2]'(by decide) = [10, 11, 12, 13, 14, 15] := by decide
  have e3 : opL[3]'(by decide) = [5, 6] := by decide
  have e4 : opL[4]'(by decide) = [7, 8, 9] := by decide
  rw [e0] at h0; rw [e1] at h1'; rw [e2] at h2'; rw [e3] at h3'; rw [e4] at h4'
  simp at h0 h1' h2' h3' h4'
  unfold levO
  repeat' split
  all_goals omega
theorem rLevel_spec (op : Int) (w : World) : Calls Try.prog 103 #[.int .i64 op] w (Ret fun v w' => v = .int .i64 (levO op : Nat) ∧ Ext w w') := by
  refine R10_Level_ok _ _ _ ?_
  intro _
  refine cond_intro (fun h1 => ?_) fun h1 => ?_
  · refine ⟨?_, Ext.refl _⟩
    simp at h1
    rcases h1 with rfl | rfl <;> rfl
  · simp at h1
    intro _
    refine cond_intro (fun h2 => ?_) fun h2 => ?_
    · refine ⟨?_, Ext.refl _⟩
      simp at h2
      rcases h2 with rfl | rfl <;> rfl
    · simp at h2
      refine call_then (rLevs_spec w) ?_
      rintro _ w1 ⟨p, rfl, hp, he1⟩
      have hlen : ∀ i (hi : i < sgL.length), (opL[i]'(by simpa [opL] using hi)) = sgL[i].map opOf := fun i hi => by simp [opL]
      refine ⟨_, _, _, rfl, fun i w' => ∃ k : Nat, i = k ∧ k ≤ 5 ∧ (∀ j (hj : j < opL.length), j < k → op ∉ opL[j]) ∧ Ext w1 w', fun i _ => 5 - i.toNat, ⟨0, rfl, by omega, fun _ _ h => absurd h (by omega), Ext.refl _⟩, ?_⟩
      rintro _ _ w2 ⟨k, rfl, hk, hno, he2⟩
      refine cond_intro (fun hx => ?_) fun hx => ?_
      · have hlt : k < 5 := by simp at hx; omega
        have hlt' : k < sgL.length := hlt
        have hlto : k < opL.length := hlt
        obtain ⟨q, hq, hqc⟩ := hp k hlt'
        have hsl := (by decide : ∀ i (hi : i < sgL.length), sgL[i].length ≤ 6) k hlt'
        refine ⟨fun i w' => ∃ j : Nat, i = j ∧ j ≤ sgL[k].length ∧ (∀ z (hz : z < sgL[k].length), z < j → opOf sgL[k][z] ≠ op) ∧ Ext w1 w', fun i _ => sgL[k].length - i.toNat, ⟨0, rfl, by omega, fun _ _ h => absurd h (by omega), he2⟩, ?_⟩
        rintro _ _ w3 ⟨j, rfl, hj, hnj, he3⟩
        rw [Int.toNat_natCast]
        refine ⟨⟨by omega, by omega⟩, _, _, _, he3.cell hq, cond_intro (fun hy => ?_) fun hy => ?_⟩
        · have hjl : j < sgL[k].length := Int.ofNat_lt.1 (of_decide_eq_true hy)
          have hc := he3.cell (hqc j (by rw [List.length_map]; exact hjl))
          simp only [List.getElem_map, strV] at hc
          rw [Int.toNat_natCast]
          refine ⟨⟨by omega, by omega⟩, _, _, _, he3.cell hq, ⟨by omega, by omega⟩, _, by rw [Nat.mul_one]; exact hc, call_then (rOp_spec _ w3) ?_⟩
          rintro _ w4 ⟨rfl, he4⟩
          refine ⟨_, rfl, cond_intro (fun ho => ?_) fun ho => ?_⟩
          · have ho : opOf sgL[k][j] = op := eq_of_beq ho
            refine ⟨?_, (he1.trans he3).trans he4⟩
            rw [wrap_in (by omega) (by omega), lev_found k hlto op (by rw [hlen k hlt', ← ho]; exact List.mem_map_of_mem (List.getElem_mem hjl))]
            simp
          · have ho : opOf sgL[k][j] ≠ op := beq_eq_false_iff_ne.1 ho
            rw [wrap_in (by omega) (by omega)]
            refine ⟨⟨j + 1, by omega, by omega, fun z hz hzj => ?_, he3.trans he4⟩, by dsimp only; omega⟩
            rcases Nat.lt_or_ge z j with h | h
            · exact hnj z hz h
            · obtain rfl : z = j := by omega
              exact ho
        · have hjl : j = sgL[k].length := by have := of_decide_eq_false hy; omega
          rw [wrap_in (by omega) (by omega)]
          refine ⟨⟨k + 1, by omega, by omega, fun z hz hzk => ?_, he3⟩, by dsimp only; omega⟩
          rcases Nat.lt_or_ge z k with h | h
          · exact hno z hz h
          · obtain rfl : z = k := by omega
            rw [hlen z hlt']
            intro hm
            obtain ⟨y, hy1, hy2⟩ := List.mem_map.1 hm
            obtain ⟨u, hu, rfl⟩ := List.getElem_of_mem hy1
            exact hnj u hu (by omega) hy2
      · have hk : k = 5 := by simp at hx; omega
        refine ⟨?_, he1.trans he2⟩
        rw [lev_none op h1 h2 (fun i hi => hno i hi (by have : i < 5 := hi; omega))]
        rfl
theorem sl_nd : SlTy Try.prog 23 39 5 48 := ⟨Try.t39, .agg #[.int .i64 0, .string (mkS []), .int .i64 0, .int .i64 0, .int .i64 0], by kernel_rfl, by kernel_rfl, by kernel_rfl, by kernel_rfl, by kernel_rfl, by kernel_rfl, by decide⟩
theorem ndC_one (l : List Nd) : ∀ u ∈ flat ndC l, u.oneCell' = true := by
  intro u hu
  simp only [flat, List.mem_flatMap] at hu
  obtain ⟨x, _, hu⟩ := hu
  simp only [ndC, List.mem_cons, List.not_mem_nil, or_false] at hu
  rcases hu with rfl | rfl | rfl | rfl | rfl <;> rfl
theorem fresh_off {a : Option Addr} {n b : Nat} (h : ∀ k, blk a = some k → n ≤ k) (hb : b < n) (xs : List Value) : Off a xs b := .inr fun e => by have := h b e; omega
theorem none_fresh {n : Nat} : ∀ k, blk (none : Option Addr) = some k → n ≤ k := fun k h => by cases h
theorem box_fresh {b n : Nat} (h : n ≤ b) : ∀ k, blk (some ⟨b, 0, none⟩ : Option Addr) = some k → n ≤ k := fun k e => by cases e; exact h
theorem alloc_size {w w' : World} {o : Obj} (h : w' = w.alloc o) : w'.heap.size = w.heap.size + 1 := by
  subst h; show (Array.push _ _).size = _; simp
end Go.Proofs.Ytdbdkdmgfiiljaa
namespace Go.Vc
open Go.RowKit (Below)
def entsFrom : Nat → List (List UInt8 × Value) → List MapEntry
  | _, [] => []
  | i, (k, v) :: l => { key := .string (mkS k), val := v, born := i } :: entsFrom (i + 1) l
def MapAt (w : World) (b : Nat) (kvs : List (List UInt8 × Value)) : Prop := w.heap[b]? = some (.map (entsFrom 0 kvs).toArray kvs.length)
def getK (kvs : List (List UInt8 × Value)) (s : List UInt8) : Option Value := (kvs.find? (·.1 == s)).map (·.2)
theorem entsFrom_snoc : ∀ (l : List (List UInt8 × Value)) (i : Nat) (k : List UInt8) (v : Value), entsFrom i (l ++ [(k, v)]) = entsFrom i l ++ [{ key := .string (mkS k), val := v, born := i + l.length }]
  | [], i, k, v => by simp [entsFrom]
  | (a, b) :: l, i, k, v => by
    simp only [List.cons_append, entsFrom, entsFrom_snoc l (i + 1) k v, List.length_cons]
    rw [show i + 1 + l.length = i + (l.length + 1) by omega]
theorem sameNow_str (a b : List UInt8) : Instr.sameNow .string (.string (mkS a)) (.string (mkS b)) = some (b == a) := by
  have h : (mkS a == mkS b) = (b == a) := by
    have h2 : (mkS a == mkS b) = ((mkS a).data == (mkS b).data) := by rfl
    rw [h2, Bool.eq_iff_iff]
    simp [mkS]
    exact ⟨fun h => h.symm, fun h => h.symm⟩
  simp only [Instr.sameNow, h]
theorem findNow_some (s : List UInt8) : ∀ (l : List (List UInt8 × Value)) (i j : Nat), (getK l s = none → Instr.findNow .string (.string (mkS s)) (entsFrom j l) i = some none) ∧ (∀ v, getK l s = some v → ∃ k, Instr.findNow .string (.string (mkS s)) (entsFrom j l) i = some (some (k, v)))
  | [], i, j => ⟨fun _ => rfl, fun v h => by cases h⟩
  | (a, b) :: l, i, j => by
    unfold entsFrom Instr.findNow
    simp only [sameNow_str]
    unfold getK
    rw [List.find?_cons]
    cases h : (a == s) with
    | true => exact ⟨fun h => (by cases h), fun v hv => ⟨i, by simp at hv; rw [hv]⟩⟩
    | false => exact findNow_some s l (i + 1) (j + 1)
theorem MapAt.ext {w w' : World} {b : Nat} {kvs : List (List UInt8 × Value)} (h : MapAt w b kvs) (e : Ext w w') : MapAt w' b kvs := e.block h
theorem MapAt.new {w w' : World} {b : Nat} (hb : b = w.heap.size) (hw : w' = w.alloc (.map #[] 0)) : MapAt w' b [] := by
  subst hb hw
  show (w.heap.push _)[w.heap.size]? = _
  simp [entsFrom]
theorem MapAt.add {P : Program} {w : World} {b : Nat} {kvs : List (List UInt8 × Value)} (h : MapAt w b kvs) {t kt et : TypeId} (ht : P.underlying t = some (.map kt et)) (hk : P.underlying kt = some .string) {s : List UInt8} {v : Value} (hs : getK kvs s = none)
    {K : Unit → World → Prop} (hK : ∀ w', MapAt w' b (kvs ++ [(s, v)]) → w.grownBy w' (some b) → K () w') : SemOk P (Instr.mapUpdate t (.map (some b)) (.string (mkS s)) v) K w := by
  have hf := (findNow_some s kvs 0 0).1 hs
  have hc : (Instr.checkKey false 10000 kt (.string (mkS s))).run P w = .ok () w := MapKept.run_checkKey (k := .string (mkS s)) hk (by simp [MapKept.IsKey]) false 9999
  refine ⟨(), { w with heap := w.heap.setIfInBounds b (.map (entsFrom 0 (kvs ++ [(s, v)])).toArray (kvs.length + 1)) }, ?_, hK _ ?_ ?_⟩
  · simp [Instr.mapUpdate, run_underlying ht, MapKept.run_getObj_map h, hc, MapKept.run_findKey hk hf, MapKept.run_setObj_map _ h, Result.andThen, entsFrom_snoc]
  · have := (MapKept.heap_set (o' := .map (entsFrom 0 (kvs ++ [(s, v)])).toArray (kvs.length + 1)) h).1
    unfold MapAt
    simpa using this
  · exact ⟨rfl, rfl, rfl, by simp, fun k _ hr => (MapKept.heap_set h).2 k (fun e => hr (by rw [e]))⟩
theorem MapAt.get {P : Program} {w : World} {b : Nat} {kvs : List (List UInt8 × Value)} (h : MapAt w b kvs) {t kt et : TypeId} (ht : P.underlying t = some (.map kt et)) (hk : P.underlying kt = some .string) {z : Value} (hz : (zeroValue et).run P w = .ok z w) (s : List UInt8)
    {K : Value → World → Prop} (hK : K ((getK kvs s).getD z) w) : SemOk P (Instr.lookup t (.map (some b)) (.string (mkS s)) false) K w := by
  have hf := findNow_some s kvs 0 0
  have hc : ∀ e, (Instr.checkKey e 10000 kt (.string (mkS s))).run P w = .ok () w := fun e => MapKept.run_checkKey (k := .string (mkS s)) hk (by simp [MapKept.IsKey]) e 9999
  refine ⟨_, w, ?_, hK⟩
  cases hg : getK kvs s with
  | none =>
    have := hf.1 hg
    simp [Instr.lookup, run_underlying ht, MapKept.run_getObj_map h, hc, MapKept.run_findKey hk this, Result.andThen, hz]
  | some v =>
    obtain ⟨k, this⟩ := hf.2 v hg
    simp [Instr.lookup, run_underlying ht, MapKept.run_getObj_map h, hc, MapKept.run_findKey hk this, Result.andThen]
end Go.Vc
