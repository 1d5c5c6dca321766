/- A part of the proof: conditions of the code, contracts, the plain law. -/
import Derived.Test.YtdbdkdmgfiiljaaMem
import Derived.Test.YtdbdkdmgfiiljaaRows
import Derived.Test.YtdbdkdmgfiiljaaVcF
import Derived.Lib.Bytealg
import Derived.Test.YtdbdkdmgfiiljaaMemB
import Derived.Test.YtdbdkdmgfiiljaaMemC
import Derived.Test.YtdbdkdmgfiiljaaMemD
import Derived.Test.YtdbdkdmgfiiljaaMemE
import Derived.MapKept
namespace Go.Tk
open Go.Vc
def letN (n : Nat) : Bool := (97 ≤ n && n ≤ 122) || (65 ≤ n && n ≤ 90) || n == 95
def digN (n : Nat) : Bool := 48 ≤ n && n ≤ 57
def wordN (n : Nat) : Bool := letN n || digN n
def letC (c : UInt8) : Bool := letN c.toNat
def digC (c : UInt8) : Bool := digN c.toNat
def wordC (c : UInt8) : Bool := wordN c.toNat
def letterB (n : Nat) : Bool := ((n : Int) == 95) || ((decide ((bitsOr .u8 (n : Int) 32) ≥ 97)) && (decide ((bitsOr .u8 (n : Int) 32) ≤ 122)))
theorem letterB_eq (n : Nat) (h : n < 256) : letterB n = letN n := by
  have : ∀ n : Fin 256, letterB n.val = letN n.val := by decide +kernel
  exact this ⟨n, h⟩
theorem takeWhile_take {α : Type} (p : α → Bool) : ∀ (l : List α) (k : Nat), (∀ i (h : i < l.length), i < k → p l[i] = true) → (∀ h : k < l.length, p l[k] = false) → l.takeWhile p = l.take k
  | [], k, _, _ => by simp
  | a :: l, 0, _, h2 => by
    have := h2 (by simp)
    simp at this
    simp [this]
  | a :: l, k + 1, h1, h2 => by
    have h0 := h1 0 (by simp) (by omega)
    simp at h0
    rw [List.takeWhile_cons, h0]
    simp only [if_true, List.take_succ_cons, List.cons.injEq, true_and]
    exact takeWhile_take p l k (fun i h hk => by have := h1 (i + 1) (by simp; omega) (by omega); simpa using this) (fun h => by have := h2 (by simp; omega); simpa using this)
theorem less_irrefl : ∀ (a : List UInt8), Op.bytesLess a a = false
  | [] => rfl
  | x :: a => by
    simp only [Op.bytesLess, less_irrefl a]
    simp
theorem less_trans : ∀ (a b c : List UInt8), Op.bytesLess a b = true → Op.bytesLess b c = true → Op.bytesLess a c = true
  | a, b, [], _, h2 => by cases b <;> simp [Op.bytesLess] at h2
  | [], _, _ :: _, _, _ => rfl
  | x :: a, [], z :: c, h1, _ => by simp [Op.bytesLess] at h1
  | x :: a, y :: b, z :: c, h1, h2 => by
    simp only [Op.bytesLess, Bool.or_eq_true, decide_eq_true_eq, Bool.and_eq_true, beq_iff_eq] at h1 h2 ⊢
    rcases h1 with h1 | ⟨rfl, h1⟩
    · rcases h2 with h2 | ⟨rfl, h2⟩
      · left; exact UInt8.lt_trans h1 h2
      · left; exact h1
    · rcases h2 with h2 | ⟨rfl, h2⟩
      · left; exact h2
      · right; exact ⟨rfl, less_trans a b c h1 h2⟩
def words : List (List UInt8) := [[97, 102, 116, 101, 114], [97, 115, 115, 101, 114, 116], [99, 97, 115, 101], [99, 104, 97, 110], [101, 108, 115, 101], [105, 102], [109, 97, 105, 110], [112, 114, 105, 110, 116], [112, 114, 111, 99], [114, 97, 110, 100, 111, 109], [115, 101, 108, 101, 99, 116], [115, 107, 105, 112], [115, 108, 101, 101, 112], [115, 116, 97, 114, 116], [115, 116, 111, 112], [118, 97, 114], [119, 104, 101, 110], [119, 104, 105, 108, 101]]
def Sorted (l : List (List UInt8)) : Prop := ∀ i j (hi : i < l.length) (hj : j < l.length), i < j → Op.bytesLess l[i] l[j] = true
theorem words_sorted : Sorted words := by
  have h : ∀ i j : Fin 18, i < j → Op.bytesLess (words[i.val]!) (words[j.val]!) = true := by decide +kernel
  intro i j hi hj hij
  have := h ⟨i, hi⟩ ⟨j, hj⟩ hij
  simpa [hi, hj] using this
def isBl (c : UInt8) : Bool := c == 9 || c == 10 || c == 13 || c == 32
def blankN : Bool → List UInt8 → Nat
  | _, [] => 0
  | r, c :: l => if c == 10 then blankN false l + 1 else if c == 35 then blankN true l + 1 else if !r && c != 9 && c != 13 && c != 32 then 0 else blankN r l + 1
theorem blank_le : ∀ (r : Bool) (l : List UInt8), blankN r l ≤ l.length
  | _, [] => Nat.le_refl _
  | r, c :: l => by
    unfold blankN
    have h1 := blank_le false l
    have h2 := blank_le true l
    have h3 := blank_le r l
    simp only [List.length_cons]
    split
    · omega
    · split
      · omega
      · split <;> omega
end Go.Tk
namespace Go.Proofs.Ytdbdkdmgfiiljaa
open Go.Vc
def token_words_wp (K : Value → World → Prop) (w : World) : Prop :=
  ∀ (b : Nat) (w1 : World), b = w.heap.size → w1 = w.alloc (.cells #[.string (mkS [97, 102, 116, 101, 114]), .string (mkS [97, 115, 115, 101, 114, 116]), .string (mkS [99, 97, 115, 101]), .string (mkS [99, 104, 97, 110]), .string (mkS [101, 108, 115, 101]), .string (mkS [105, 102]), .string (mkS [109, 97, 105, 110]), .string (mkS [112, 114, 105, 110, 116]), .string (mkS [112, 114, 111, 99]), .string (mkS [114, 97, 110, 100, 111, 109]), .string (mkS [115, 101, 108, 101, 99, 116]), .string (mkS [115, 107, 105, 112]), .string (mkS [115, 108, 101, 101, 112]), .string (mkS [115, 116, 97, 114, 116]), .string (mkS [115, 116, 111, 112]), .string (mkS [118, 97, 114]), .string (mkS [119, 104, 101, 110]), .string (mkS [119, 104, 105, 108, 101])] 9) →
  K (.slice (some ⟨b, 0, none⟩) 18 18) w1
theorem token_words_ok (K : Value → World → Prop) (w : World) (h : token_words_wp K w) : Calls Try.prog 65 #[] w (Ret K) :=
  calls_of {} Try.func65 (by kernel_rfl) h
def token_letter_wp (c : Int) (K : Value → World → Prop) (w : World) : Prop :=
  ∀ (_g : Nat → Value),
  K (.bool ((c == 95) || ((decide ((bitsOr .u8 c 32) ≥ 97)) && (decide ((bitsOr .u8 c 32) ≤ 122))))) w
theorem token_letter_ok (c : Int) (K : Value → World → Prop) (w : World) (h : token_letter_wp c K w) : Calls Try.prog 35 #[.int .u8 c] w (Ret K) :=
  calls_of { merges := [(6, [2])] } Try.func35 (by kernel_rfl) h
def token_digit_wp (c : Int) (K : Value → World → Prop) (w : World) : Prop :=
  ∀ (_g : Nat → Value),
  K (.bool ((decide (c ≥ 48)) && (decide (c ≤ 57)))) w
theorem token_digit_ok (c : Int) (K : Value → World → Prop) (w : World) (h : token_digit_wp c K w) : Calls Try.prog 39 #[.int .u8 c] w (Ret K) :=
  calls_of { merges := [(6, [2])] } Try.func39 (by kernel_rfl) h
def token_wordly_wp (c : Int) (K : Value → World → Prop) (w : World) : Prop :=
  Calls Try.prog 35 #[.int .u8 c] w (Ret fun v w1 => -- token.letter
    ∃ (x : Bool), v = .bool x ∧
    cond (x)
      (K (.bool true) w1)
      (Calls Try.prog 39 #[.int .u8 c] w1 (Ret fun v1 w2 => -- token.digit
        ∃ (x1 : Bool), v1 = .bool x1 ∧
        K (.bool x1) w2)))
theorem token_wordly_ok (c : Int) (K : Value → World → Prop) (w : World) (h : token_wordly_wp c K w) : Calls Try.prog 37 #[.int .u8 c] w (Ret K) :=
  calls_of {} Try.func37 (by kernel_rfl) h
def token_run_wordly_wp (s : List UInt8) (K : Value → World → Prop) (w : World) : Prop :=
  ∃ (I : Int → World → Prop) (m : Int → World → Nat), I 0 w ∧
  ∀ (_g : Nat → Value) (x : Int) (w1 : World), I x w1 →
  cond (decide (x < (s.length : Int)))
    (((0 : Int) ≤ x ∧ x < (s.length : Int)) ∧
    Calls Try.prog 37 #[.int .u8 ((s.getD x.toNat 0).toNat : Int)] w1 (Ret fun v w2 => -- token.wordly
      ∃ (x1 : Bool), v = .bool x1 ∧
      cond (!x1)
        (((0 : Int) ≤ x ∧ x ≤ (s.length : Int)) ∧
        K (.string (mkS (s.take x.toNat))) w2)
        (I (IntKind.i64.wrap (x + 1)) w2 ∧ m (IntKind.i64.wrap (x + 1)) w2 < m x w1)))
    (K (.string (mkS s)) w1)
theorem token_run_wordly_ok (s : List UInt8) (K : Value → World → Prop) (w : World) (h : token_run_wordly_wp s K w) : Calls Try.prog 36 #[.string (mkS s), .func (.func 37) #[] #[]] w (Ret K) :=
  calls_of { loops := [(26, [(8, .int .i64)])] } Try.func36 (by kernel_rfl) h
def token_run_digit_wp (s : List UInt8) (K : Value → World → Prop) (w : World) : Prop :=
  ∃ (I : Int → World → Prop) (m : Int → World → Nat), I 0 w ∧
  ∀ (_g : Nat → Value) (x : Int) (w1 : World), I x w1 →
  cond (decide (x < (s.length : Int)))
    (((0 : Int) ≤ x ∧ x < (s.length : Int)) ∧
    Calls Try.prog 39 #[.int .u8 ((s.getD x.toNat 0).toNat : Int)] w1 (Ret fun v w2 => -- token.digit
      ∃ (x1 : Bool), v = .bool x1 ∧
      cond (!x1)
        (((0 : Int) ≤ x ∧ x ≤ (s.length : Int)) ∧
        K (.string (mkS (s.take x.toNat))) w2)
        (I (IntKind.i64.wrap (x + 1)) w2 ∧ m (IntKind.i64.wrap (x + 1)) w2 < m x w1)))
    (K (.string (mkS s)) w1)
theorem token_run_digit_ok (s : List UInt8) (K : Value → World → Prop) (w : World) (h : token_run_digit_wp s K w) : Calls Try.prog 36 #[.string (mkS s), .func (.func 39) #[] #[]] w (Ret K) :=
  calls_of { loops := [(26, [(8, .int .i64)])] } Try.func36 (by kernel_rfl) h
def slices_BinarySearch_Slstring_string_wp (xA : Option Addr) (xN : Nat) (_xC : Nat) (target : List UInt8) (K : Value → World → Prop) (w : World) : Prop :=
  ∃ (I : Int → Int → World → Prop) (m : Int → Int → World → Nat), I 0 (xN : Int) w ∧
  ∀ (_g : Nat → Value) (i : Int) (j : Int) (w1 : World), I i j w1 →
  cond (decide (i < j))
    ((0 : Int) ≤ 1 ∧
    ((0 : Int) ≤ (IntKind.i64.wrap ((IntKind.u64.wrap (IntKind.i64.wrap (i + j))).fdiv (2 ^ (min 1 IntKind.u64.bits)))) ∧ (IntKind.i64.wrap ((IntKind.u64.wrap (IntKind.i64.wrap (i + j))).fdiv (2 ^ (min 1 IntKind.u64.bits)))) < (xN : Int)) ∧
    ptrOr xA (fun a =>
      ∃ (x : List UInt8), w1.cell? (a.add ((IntKind.i64.wrap ((IntKind.u64.wrap (IntKind.i64.wrap (i + j))).fdiv (2 ^ (min 1 IntKind.u64.bits)))).toNat * 1)) = some (.string (mkS x)) ∧
      Calls Try.prog 72 #[.string (mkS x), .string (mkS target)] w1 (Ret fun v w2 => -- cmp.Less[string]
        ∃ (x1 : Bool), v = .bool x1 ∧
        cond (x1)
          (I (IntKind.i64.wrap ((IntKind.i64.wrap ((IntKind.u64.wrap (IntKind.i64.wrap (i + j))).fdiv (2 ^ (min 1 IntKind.u64.bits)))) + 1)) j w2 ∧ m (IntKind.i64.wrap ((IntKind.i64.wrap ((IntKind.u64.wrap (IntKind.i64.wrap (i + j))).fdiv (2 ^ (min 1 IntKind.u64.bits)))) + 1)) j w2 < m i j w1)
          (I i (IntKind.i64.wrap ((IntKind.u64.wrap (IntKind.i64.wrap (i + j))).fdiv (2 ^ (min 1 IntKind.u64.bits)))) w2 ∧ m i (IntKind.i64.wrap ((IntKind.u64.wrap (IntKind.i64.wrap (i + j))).fdiv (2 ^ (min 1 IntKind.u64.bits)))) w2 < m i j w1))))
    (cond (decide (i < (xN : Int)))
      (((0 : Int) ≤ i ∧ i < (xN : Int)) ∧
      ptrOr xA (fun a1 =>
        ∃ (x2 : List UInt8), w1.cell? (a1.add (i.toNat * 1)) = some (.string (mkS x2)) ∧
        cond (x2 == target)
          (K (.tuple #[.int .i64 i, .bool true]) w1)
          (((0 : Int) ≤ i ∧ i < (xN : Int)) ∧
          ptrOr xA (fun a2 =>
            ∃ (x3 : List UInt8), w1.cell? (a2.add (i.toNat * 1)) = some (.string (mkS x3)) ∧
            Calls Try.prog 73 #[.string (mkS x3)] w1 (Ret fun v1 w3 => -- slices.isNaN[string]
              ∃ (x4 : Bool), v1 = .bool x4 ∧
              cond (x4)
                (Calls Try.prog 73 #[.string (mkS target)] w3 (Ret fun v2 w4 => -- slices.isNaN[string]
                  ∃ (x5 : Bool), v2 = .bool x5 ∧
                  K (.tuple #[.int .i64 i, .bool x5]) w4))
                (K (.tuple #[.int .i64 i, .bool false]) w3))))))
      (K (.tuple #[.int .i64 i, .bool false]) w1))
theorem slices_BinarySearch_Slstring_string_ok (xA : Option Addr) (xN : Nat) (xC : Nat) (target : List UInt8) (K : Value → World → Prop) (w : World) (h : slices_BinarySearch_Slstring_string_wp xA xN xC target K w) : Calls Try.prog 64 #[.slice xA xN xC, .string (mkS target)] w (Ret K) :=
  calls_of { loops := [(60, [(7, .int .i64), (8, .int .i64)])] } Try.func64 (by kernel_rfl) h
def cmp_Less_string_wp (x : List UInt8) (y : List UInt8) (K : Value → World → Prop) (w : World) : Prop :=
  Calls Try.prog 82 #[.string (mkS x)] w (Ret fun v w1 => -- cmp.isNaN[string]
    ∃ (x1 : Bool), v = .bool x1 ∧
    cond (x1)
      (Calls Try.prog 82 #[.string (mkS y)] w1 (Ret fun v1 w2 => -- cmp.isNaN[string]
        ∃ (x2 : Bool), v1 = .bool x2 ∧
        cond (!x2)
          (K (.bool true) w2)
          (K (.bool (Op.bytesLess x y)) w2)))
      (K (.bool (Op.bytesLess x y)) w1))
theorem cmp_Less_string_ok (x : List UInt8) (y : List UInt8) (K : Value → World → Prop) (w : World) (h : cmp_Less_string_wp x y K w) : Calls Try.prog 72 #[.string (mkS x), .string (mkS y)] w (Ret K) :=
  calls_of {} Try.func72 (by kernel_rfl) h
def slices_isNaN_string_wp (x : List UInt8) (K : Value → World → Prop) (w : World) : Prop :=
  K (.bool (!(x == x))) w
theorem slices_isNaN_string_ok (x : List UInt8) (K : Value → World → Prop) (w : World) (h : slices_isNaN_string_wp x K w) : Calls Try.prog 73 #[.string (mkS x)] w (Ret K) :=
  calls_of {} Try.func73 (by kernel_rfl) h
def cmp_isNaN_string_wp (x : List UInt8) (K : Value → World → Prop) (w : World) : Prop :=
  K (.bool (!(x == x))) w
theorem cmp_isNaN_string_ok (x : List UInt8) (K : Value → World → Prop) (w : World) (h : cmp_isNaN_string_wp x K w) : Calls Try.prog 82 #[.string (mkS x)] w (Ret K) :=
  calls_of {} Try.func82 (by kernel_rfl) h
def token_Word_wp (s : List UInt8) (K : Value → World → Prop) (w : World) : Prop :=
  Calls Try.prog 65 #[] w (Ret fun v w1 => -- token.words
    ∃ (xA : Option Addr) (xN : Nat) (xC : Nat), v = .slice xA xN xC ∧
    Calls Try.prog 64 #[.slice xA xN xC, .string (mkS s)] w1 (Ret fun v1 w2 => -- slices.BinarySearch[[]string,string]
      ∃ (x0 : Int) (x1 : Bool), v1 = .tuple #[.int .i64 x0, .bool x1] ∧
      K (.bool x1) w2))
theorem token_Word_ok (s : List UInt8) (K : Value → World → Prop) (w : World) (h : token_Word_wp s K w) : Calls Try.prog 38 #[.string (mkS s)] w (Ret K) :=
  calls_of {} Try.func38 (by kernel_rfl) h
def strings_IndexByte_wp (s : List UInt8) (c : Int) (K : Value → World → Prop) (w : World) : Prop :=
  Calls Try.prog 71 #[.string (mkS s), .int .u8 c] w (Ret fun v w1 => -- internal/stringslite.IndexByte
    ∃ (x : Int), v = .int .i64 x ∧
    K (.int .i64 x) w1)
theorem strings_IndexByte_ok (s : List UInt8) (c : Int) (K : Value → World → Prop) (w : World) (h : strings_IndexByte_wp s c K w) : Calls Try.prog 63 #[.string (mkS s), .int .u8 c] w (Ret K) :=
  calls_of {} Try.func63 (by kernel_rfl) h
def internal_stringslite_IndexByte_wp (s : List UInt8) (c : Int) (K : Value → World → Prop) (w : World) : Prop :=
  ExtOk Try.prog 81 #[.string (mkS s), .int .u8 c] (fun v w1 => -- internal/bytealg.IndexByteString
    ∃ (x : Int), v = .int .i64 x ∧
    K (.int .i64 x) w1) w
theorem internal_stringslite_IndexByte_ok (s : List UInt8) (c : Int) (K : Value → World → Prop) (w : World) (h : internal_stringslite_IndexByte_wp s c K w) : Calls Try.prog 71 #[.string (mkS s), .int .u8 c] w (Ret K) :=
  calls_of {} Try.func71 (by kernel_rfl) h
def strings_HasPrefix_wp (s : List UInt8) (prefixx : List UInt8) (K : Value → World → Prop) (w : World) : Prop :=
  Calls Try.prog 74 #[.string (mkS s), .string (mkS prefixx)] w (Ret fun v w1 => -- internal/stringslite.HasPrefix
    ∃ (x : Bool), v = .bool x ∧
    K (.bool x) w1)
theorem strings_HasPrefix_ok (s : List UInt8) (prefixx : List UInt8) (K : Value → World → Prop) (w : World) (h : strings_HasPrefix_wp s prefixx K w) : Calls Try.prog 66 #[.string (mkS s), .string (mkS prefixx)] w (Ret K) :=
  calls_of {} Try.func66 (by kernel_rfl) h
def internal_stringslite_HasPrefix_wp (s : List UInt8) (prefixx : List UInt8) (K : Value → World → Prop) (w : World) : Prop :=
  ((decide ((s.length : Int) ≥ (prefixx.length : Int))) = true → ((0 : Int) ≤ (prefixx.length : Int) ∧ (prefixx.length : Int) ≤ (s.length : Int))) ∧
  ∀ (_g : Nat → Value),
  K (.bool ((decide ((s.length : Int) ≥ (prefixx.length : Int))) && ((s.take (prefixx.length : Int).toNat) == prefixx))) w
theorem internal_stringslite_HasPrefix_ok (s : List UInt8) (prefixx : List UInt8) (K : Value → World → Prop) (w : World) (h : internal_stringslite_HasPrefix_wp s prefixx K w) : Calls Try.prog 74 #[.string (mkS s), .string (mkS prefixx)] w (Ret K) :=
  calls_of { merges := [(6, [4])] } Try.func74 (by kernel_rfl) h
def token_blank_wp (s : List UInt8) (K : Value → World → Prop) (w : World) : Prop :=
  ∃ (I : Int → World → Prop) (m : Int → World → Nat), I 0 w ∧
  ∀ (_g : Nat → Value) (n : Int) (w1 : World), I n w1 →
  cond (decide (n < (s.length : Int)))
    (((0 : Int) ≤ n ∧ n < (s.length : Int)) ∧
    ∃ (J : Int → World → Prop),
    (cond (((s.getD n.toNat 0).toNat : Int) == 35)
        (((0 : Int) ≤ n ∧ n ≤ (s.length : Int)) ∧
        Calls Try.prog 63 #[.string (mkS (s.drop n.toNat)), .int .u8 10] w1 (Ret fun v w2 => -- strings.IndexByte
          ∃ (endx : Int), v = .int .i64 endx ∧
          cond (decide (endx < 0))
            (K (.int .i64 (s.length : Int)) w2)
            (J (IntKind.i64.wrap (n + endx)) w2)))
        (∃ (J1 : Bool → World → Prop),
        (cond (((s.getD n.toNat 0).toNat : Int) == 9)
            (J1 (((s.getD n.toNat 0).toNat : Int) == 9) w1)
            (cond (((s.getD n.toNat 0).toNat : Int) == 10)
              (J1 (((s.getD n.toNat 0).toNat : Int) == 10) w1)
              (cond (((s.getD n.toNat 0).toNat : Int) == 13)
                (J1 (((s.getD n.toNat 0).toNat : Int) == 13) w1)
                (J1 (((s.getD n.toNat 0).toNat : Int) == 32) w1)))) ∧
        ∀ (_g1 : Nat → Value) (x : Bool) (w3 : World), J1 x w3 →
        cond (x)
          (J n w3)
          (K (.int .i64 n) w3))) ∧
    ∀ (_g2 : Nat → Value) (n1 : Int) (w4 : World), J n1 w4 →
    I (IntKind.i64.wrap (n1 + 1)) w4 ∧ m (IntKind.i64.wrap (n1 + 1)) w4 < m n w1)
    (K (.int .i64 n) w1)
theorem token_blank_ok (s : List UInt8) (K : Value → World → Prop) (w : World) (h : token_blank_wp s K w) : Calls Try.prog 34 #[.string (mkS s)] w (Ret K) :=
  calls_of { loops := [(28, [(3, .int .i64)])], cuts := [(3624, [(3, .int .i64)]), (231937, [(14, .bool)])] } Try.func34 (by kernel_rfl) h
def token_sign_wp (s : List UInt8) (K : Value → World → Prop) (w : World) : Prop :=
  ∀ (b : Nat) (w1 : World), b = w.heap.size → w1 = w.alloc (.cells #[.string (mkS [61, 61]), .string (mkS [33, 61]), .string (mkS [60, 61]), .string (mkS [62, 61]), .string (mkS [38, 38]), .string (mkS [124, 124])] 9) →
  ∃ (I : Int → World → Prop) (m : Int → World → Nat), I 0 w1 ∧
  ∀ (_g : Nat → Value) (x : Int) (w2 : World), I x w2 →
  cond (decide (x < (6 : Int)))
    (((0 : Int) ≤ x ∧ x < (6 : Int)) ∧
    ∃ (two : List UInt8), w2.cell? ((⟨b, 0, none⟩ : Addr).add (x.toNat * 1)) = some (.string (mkS two)) ∧
    Calls Try.prog 66 #[.string (mkS s), .string (mkS two)] w2 (Ret fun v w3 => -- strings.HasPrefix
      ∃ (x1 : Bool), v = .bool x1 ∧
      cond (x1)
        (K (.string (mkS two)) w3)
        (I (IntKind.i64.wrap (x + 1)) w3 ∧ m (IntKind.i64.wrap (x + 1)) w3 < m x w2)))
    (((0 : Int) ≤ 0 ∧ 0 < (s.length : Int)) ∧
    Calls Try.prog 63 #[.string (mkS [123, 125, 40, 41, 91, 93, 59, 44, 58, 61, 33, 63, 43, 45, 42, 47, 37, 60, 62]), .int .u8 ((s.getD 0 0).toNat : Int)] w2 (Ret fun v1 w4 => -- strings.IndexByte
      ∃ (x2 : Int), v1 = .int .i64 x2 ∧
      cond (decide (x2 ≥ 0))
        (((0 : Int) ≤ 1 ∧ 1 ≤ (s.length : Int)) ∧
        K (.string (mkS (s.take 1))) w4)
        (K (.string (mkS [])) w4)))
theorem token_sign_ok (s : List UInt8) (K : Value → World → Prop) (w : World) (h : token_sign_wp s K w) : Calls Try.prog 41 #[.string (mkS s)] w (Ret K) :=
  calls_of { loops := [(26, [(7, .int .i64)])] } Try.func41 (by kernel_rfl) h
def token_number_wp (text : List UInt8) (behind : List UInt8) (K : Value → World → Prop) (w : World) : Prop :=
  ((0 : Int) ≤ 0 ∧ 0 < (text.length : Int)) ∧
  ∀ (_g : Nat → Value),
  cond (((((text.getD 0 0).toNat : Int) == 48) && (decide ((text.length : Int) > 1))))
    (K (.tuple #[.int .i64 0, .int .i64 3]) w)
    (cond (decide ((text.length : Int) > 18))
      (K (.tuple #[.int .i64 0, .int .i64 5]) w)
      (∃ (J : Bool → World → Prop),
      (cond (!(behind == []))
          (((0 : Int) ≤ 0 ∧ 0 < (behind.length : Int)) ∧
          Calls Try.prog 35 #[.int .u8 ((behind.getD 0 0).toNat : Int)] w (Ret fun v w1 => -- token.letter
            ∃ (x : Bool), v = .bool x ∧
            J x w1))
          (J false w)) ∧
      ∀ (_g1 : Nat → Value) (x1 : Bool) (w2 : World), J x1 w2 →
      cond (x1)
        (K (.tuple #[.int .i64 0, .int .i64 3]) w2)
        (SemOk Try.prog (convert 9 97 (.string (mkS text))) (fun v1 w3 =>
          ∃ (xA : Option Addr) (xN : Nat) (xC : Nat), v1 = .slice xA xN xC ∧
          ∃ (I : Int → Int → World → Prop) (m : Int → Int → World → Nat), I 0 0 w3 ∧
          ∀ (_g2 : Nat → Value) (n : Int) (x2 : Int) (w4 : World), I n x2 w4 →
          cond (decide (x2 < (xN : Int)))
            (((0 : Int) ≤ x2 ∧ x2 < (xN : Int)) ∧
            ptrOr xA (fun a =>
              ∃ (c : Int), w4.cell? (a.add (x2.toNat * 1)) = some (.int .u8 c) ∧
              I (IntKind.i64.wrap ((IntKind.i64.wrap ((10 : Int) * n)) + (IntKind.i64.wrap (IntKind.u8.wrap (c - 48))))) (IntKind.i64.wrap (x2 + 1)) w4 ∧ m (IntKind.i64.wrap ((IntKind.i64.wrap ((10 : Int) * n)) + (IntKind.i64.wrap (IntKind.u8.wrap (c - 48))))) (IntKind.i64.wrap (x2 + 1)) w4 < m n x2 w4))
            (K (.tuple #[.int .i64 n, .int .i64 0]) w4)) w2)))
theorem token_number_ok (text : List UInt8) (behind : List UInt8) (K : Value → World → Prop) (w : World) (h : token_number_wp text behind K w) : Calls Try.prog 40 #[.string (mkS text), .string (mkS behind)] w (Ret K) :=
  calls_of { loops := [(506, [(6, .int .i64), (30, .int .i64)])], cuts := [(30, [(26, .bool)])], merges := [(12, [16])] } Try.func40 (by kernel_rfl) h
def token_Next_wp (s : List UInt8) (atx : Int) (K : Value → World → Prop) (w : World) : Prop :=
  ∀ (b : Nat) (w1 : World), b = w.heap.size → w1 = w.alloc (.cells #[.int .i64 0, .string (mkS []), .int .i64 0, .int .i64 0] 44) →
  ∀ (_g : Nat → Value),
  cond (((decide (atx < 0)) || (decide (atx > (s.length : Int)))))
    (Writable w1 ⟨b, 0, none⟩ 4 ∧ ∀ w2 : World, w2 = setCells w1 ⟨b, 0, none⟩ [.int .i64 0, .string (mkS []), .int .i64 0, .int .i64 0] →
    ∃ (rKind : Int) (rText : List UInt8) (rN : Int) (rAt : Int), CellsAt w2 ⟨b, 0, none⟩ [.int .i64 rKind, .string (mkS rText), .int .i64 rN, .int .i64 rAt] ∧
    K (.tuple #[.agg #[.int .i64 rKind, .string (mkS rText), .int .i64 rN, .int .i64 rAt], .int .i64 0, .int .i64 1]) w2)
    (((0 : Int) ≤ atx ∧ atx ≤ (s.length : Int)) ∧
    Calls Try.prog 34 #[.string (mkS (s.drop atx.toNat))] w1 (Ret fun v w3 => -- token.blank
      ∃ (x : Int), v = .int .i64 x ∧
      ((0 : Int) ≤ (IntKind.i64.wrap (atx + x)) ∧ (IntKind.i64.wrap (atx + x)) ≤ (s.length : Int)) ∧
      ∀ (b1 : Nat) (w4 : World), b1 = w3.heap.size → w4 = w3.alloc (.cells #[.int .i64 0, .string (mkS []), .int .i64 0, .int .i64 0] 44) →
      Writable w4 ⟨b1, 0, none⟩ 4 ∧ ∀ w5 : World, w5 = setCells w4 ⟨b1, 0, none⟩ [.int .i64 0, .string (mkS []), .int .i64 0, .int .i64 (IntKind.i64.wrap (atx + x))] →
      ∃ (J : Int → World → Prop),
      (cond ((s.drop (IntKind.i64.wrap (atx + x)).toNat) == [])
          (∃ (xKind : Int) (xText : List UInt8) (xN : Int) (xAt : Int), CellsAt w5 ⟨b1, 0, none⟩ [.int .i64 xKind, .string (mkS xText), .int .i64 xN, .int .i64 xAt] ∧
          Writable w5 ⟨b, 0, none⟩ 4 ∧ ∀ w6 : World, w6 = setCells w5 ⟨b, 0, none⟩ [.int .i64 xKind, .string (mkS xText), .int .i64 xN, .int .i64 xAt] →
          ∃ (rKind1 : Int) (rText1 : List UInt8) (rN1 : Int) (rAt1 : Int), CellsAt w6 ⟨b, 0, none⟩ [.int .i64 rKind1, .string (mkS rText1), .int .i64 rN1, .int .i64 rAt1] ∧
          K (.tuple #[.agg #[.int .i64 rKind1, .string (mkS rText1), .int .i64 rN1, .int .i64 rAt1], .int .i64 (IntKind.i64.wrap (atx + x)), .int .i64 0]) w6)
          (((0 : Int) ≤ 0 ∧ 0 < ((s.drop (IntKind.i64.wrap (atx + x)).toNat).length : Int)) ∧
          Calls Try.prog 35 #[.int .u8 (((s.drop (IntKind.i64.wrap (atx + x)).toNat).getD 0 0).toNat : Int)] w5 (Ret fun v1 w7 => -- token.letter
            ∃ (x1 : Bool), v1 = .bool x1 ∧
            cond (x1)
              (Calls Try.prog 36 #[.string (mkS (s.drop (IntKind.i64.wrap (atx + x)).toNat)), .func (.func 37) #[] #[]] w7 (Ret fun v2 w8 => -- token.run
                ∃ (x2 : List UInt8), v2 = .string (mkS x2) ∧
                Writable w8 ⟨b1, 0, none⟩ 1 ∧ ∀ w9 : World, w9 = w8.setCell ⟨b1, 0, none⟩ (.int .i64 1) →
                Writable w9 ⟨b1, 1, none⟩ 1 ∧ ∀ w10 : World, w10 = w9.setCell ⟨b1, 1, none⟩ (.string (mkS x2)) →
                ∃ (J1 : World → Prop),
                (∃ (x3 : List UInt8), w10.cell? ⟨b1, 1, none⟩ = some (.string (mkS x3)) ∧
                  Calls Try.prog 38 #[.string (mkS x3)] w10 (Ret fun v3 w11 => -- token.Word
                    ∃ (x4 : Bool), v3 = .bool x4 ∧
                    cond (x4)
                      (Writable w11 ⟨b1, 0, none⟩ 1 ∧ ∀ w12 : World, w12 = w11.setCell ⟨b1, 0, none⟩ (.int .i64 3) →
                      J1 w12)
                      (J1 w11))) ∧
                ∀ (_g1 : Nat → Value) (w13 : World), J1 w13 →
                ∃ (x5 : List UInt8), w13.cell? ⟨b1, 1, none⟩ = some (.string (mkS x5)) ∧
                cond (decide ((x5.length : Int) > 16))
                  (J 5 w13)
                  (J 0 w13)))
              (((0 : Int) ≤ 0 ∧ 0 < ((s.drop (IntKind.i64.wrap (atx + x)).toNat).length : Int)) ∧
              Calls Try.prog 39 #[.int .u8 (((s.drop (IntKind.i64.wrap (atx + x)).toNat).getD 0 0).toNat : Int)] w7 (Ret fun v4 w14 => -- token.digit
                ∃ (x6 : Bool), v4 = .bool x6 ∧
                cond (x6)
                  (Calls Try.prog 36 #[.string (mkS (s.drop (IntKind.i64.wrap (atx + x)).toNat)), .func (.func 39) #[] #[]] w14 (Ret fun v5 w15 => -- token.run
                    ∃ (x7 : List UInt8), v5 = .string (mkS x7) ∧
                    Writable w15 ⟨b1, 0, none⟩ 1 ∧ ∀ w16 : World, w16 = w15.setCell ⟨b1, 0, none⟩ (.int .i64 2) →
                    Writable w16 ⟨b1, 1, none⟩ 1 ∧ ∀ w17 : World, w17 = w16.setCell ⟨b1, 1, none⟩ (.string (mkS x7)) →
                    ∀ w18 : World, w18 = w17.drew →
                    ∃ (S : World → Prop), S w18 ∧
                    ∃ (x8 : List UInt8), (∀ u : World, S u → u.cell? ⟨b1, 1, none⟩ = some (.string (mkS x8))) ∧
                    ∃ (x9 : List UInt8), (∀ u : World, S u → u.cell? ⟨b1, 1, none⟩ = some (.string (mkS x9))) ∧
                    ((0 : Int) ≤ (x9.length : Int) ∧ (x9.length : Int) ≤ ((s.drop (IntKind.i64.wrap (atx + x)).toNat).length : Int)) ∧
                    Calls Try.prog 40 #[.string (mkS x8), .string (mkS ((s.drop (IntKind.i64.wrap (atx + x)).toNat).drop (x9.length : Int).toNat))] w18 (Ret fun v6 w19 => -- token.number
                      ∃ (x0 : Int) (x11 : Int), v6 = .tuple #[.int .i64 x0, .int .i64 x11] ∧
                      Writable w19 ⟨b1, 2, none⟩ 1 ∧ ∀ w20 : World, w20 = w19.setCell ⟨b1, 2, none⟩ (.int .i64 x0) →
                      J x11 w20)))
                  (Calls Try.prog 41 #[.string (mkS (s.drop (IntKind.i64.wrap (atx + x)).toNat))] w14 (Ret fun v7 w21 => -- token.sign
                    ∃ (x10 : List UInt8), v7 = .string (mkS x10) ∧
                    Writable w21 ⟨b1, 0, none⟩ 1 ∧ ∀ w22 : World, w22 = w21.setCell ⟨b1, 0, none⟩ (.int .i64 4) →
                    Writable w22 ⟨b1, 1, none⟩ 1 ∧ ∀ w23 : World, w23 = w22.setCell ⟨b1, 1, none⟩ (.string (mkS x10)) →
                    ∃ (x12 : List UInt8), w23.cell? ⟨b1, 1, none⟩ = some (.string (mkS x12)) ∧
                    cond (x12 == [])
                      (J 10 w23)
                      (J 0 w23)))))))) ∧
      ∀ (_g2 : Nat → Value) (e : Int) (w24 : World), J e w24 →
      cond (e != 0)
        (Writable w24 ⟨b, 0, none⟩ 4 ∧ ∀ w25 : World, w25 = setCells w24 ⟨b, 0, none⟩ [.int .i64 0, .string (mkS []), .int .i64 0, .int .i64 0] →
        ∃ (rKind2 : Int) (rText2 : List UInt8) (rN2 : Int) (rAt2 : Int), CellsAt w25 ⟨b, 0, none⟩ [.int .i64 rKind2, .string (mkS rText2), .int .i64 rN2, .int .i64 rAt2] ∧
        K (.tuple #[.agg #[.int .i64 rKind2, .string (mkS rText2), .int .i64 rN2, .int .i64 rAt2], .int .i64 (IntKind.i64.wrap (atx + x)), .int .i64 e]) w25)
        (∀ w26 : World, w26 = w24.drew →
        ∃ (S1 : World → Prop), S1 w26 ∧
        ∃ (xKind1 : Int) (xText1 : List UInt8) (xN1 : Int) (xAt1 : Int), (∀ u : World, S1 u → CellsAt u ⟨b1, 0, none⟩ [.int .i64 xKind1, .string (mkS xText1), .int .i64 xN1, .int .i64 xAt1]) ∧
        ∃ (x13 : List UInt8), (∀ u : World, S1 u → u.cell? ⟨b1, 1, none⟩ = some (.string (mkS x13))) ∧
        Writable w26 ⟨b, 0, none⟩ 4 ∧ ∀ w27 : World, w27 = setCells w26 ⟨b, 0, none⟩ [.int .i64 xKind1, .string (mkS xText1), .int .i64 xN1, .int .i64 xAt1] →
        S1 w27 ∧
        ∃ (rKind3 : Int) (rText3 : List UInt8) (rN3 : Int) (rAt3 : Int), CellsAt w27 ⟨b, 0, none⟩ [.int .i64 rKind3, .string (mkS rText3), .int .i64 rN3, .int .i64 rAt3] ∧
        K (.tuple #[.agg #[.int .i64 rKind3, .string (mkS rText3), .int .i64 rN3, .int .i64 rAt3], .int .i64 (IntKind.i64.wrap ((IntKind.i64.wrap (atx + x)) + (x13.length : Int))), .int .i64 0]) w27)))
theorem token_Next_ok (s : List UInt8) (atx : Int) (K : Value → World → Prop) (w : World) (h : token_Next_wp s atx K w) : Calls Try.prog 18 #[.string (mkS s), .int .i64 atx] w (Ret K) :=
  calls_of { cuts := [(127, [(9, .int .i64)]), (16285, [])], merges := [(12, [17])] } Try.func18 (by kernel_rfl) h
end Go.Proofs.Ytdbdkdmgfiiljaa
namespace Go.Proofs.Ytdbdkdmgfiiljaa
open Go.Vc Go.Tk
theorem letter_spec (n : Nat) (h : n < 256) (w : World) : Calls Try.prog 35 #[.int .u8 (n : Int)] w (Ret fun v w' => v = .bool (letN n) ∧ w = w') := by
  refine token_letter_ok _ _ _ ?_
  intro _
  exact ⟨by rw [← letterB_eq n h]; rfl, rfl⟩
theorem digit_spec (n : Nat) (w : World) : Calls Try.prog 39 #[.int .u8 (n : Int)] w (Ret fun v w' => v = .bool (digN n) ∧ w = w') := by
  refine token_digit_ok _ _ _ ?_
  intro _
  refine ⟨?_, rfl⟩
  have e : ((decide ((n : Int) ≥ 48)) && (decide ((n : Int) ≤ 57))) = digN n := by unfold digN; rw [Bool.eq_iff_iff]; simp; omega
  rw [e]
theorem wordly_spec (n : Nat) (h : n < 256) (w : World) : Calls Try.prog 37 #[.int .u8 (n : Int)] w (Ret fun v w' => v = .bool (wordN n) ∧ w = w') := by
  refine token_wordly_ok _ _ _ (call_then (letter_spec n h w) ?_)
  rintro _ _ ⟨rfl, rfl⟩
  refine ⟨_, rfl, cond_intro (fun hx => ?_) fun hx => ?_⟩
  · exact ⟨by simp [wordN, hx], rfl⟩
  · refine call_then (digit_spec n w) ?_
    rintro _ _ ⟨rfl, rfl⟩
    exact ⟨_, rfl, by simp [wordN, hx], rfl⟩
theorem run_wordly_spec (s : List UInt8) (hs : s.length < 2 ^ 40) (w : World) : Calls Try.prog 36 #[.string (mkS s), .func (.func 37) #[] #[]] w (Ret fun v w' => v = .string (mkS (s.takeWhile wordC)) ∧ w = w') := by
  refine token_run_wordly_ok _ _ _ ?_
  refine ⟨fun x w' => w = w' ∧ ∃ k : Nat, x = k ∧ k ≤ s.length ∧ ∀ i (h : i < s.length), i < k → wordC s[i] = true, fun x _ => s.length - x.toNat, ⟨rfl, 0, rfl, Nat.zero_le _, fun _ _ h => absurd h (Nat.not_lt_zero _)⟩, ?_⟩
  rintro _ _ _ ⟨rfl, k, rfl, hk, hall⟩
  refine cond_intro (fun hx => ?_) fun hx => ?_
  · have hlt : k < s.length := by simpa using hx
    refine ⟨by omega, call_then (wordly_spec _ (UInt8.toNat_lt _) w) ?_⟩
    rintro _ _ ⟨rfl, rfl⟩
    refine ⟨_, rfl, cond_intro (fun hb => ?_) fun hb => ?_⟩
    · refine ⟨by omega, ?_, rfl⟩
      rw [takeWhile_take wordC s k hall (fun h => by simpa [wordC, List.getD, hlt] using hb)]
      simp
    · rw [wrap_in (by omega) (by omega)]
      refine ⟨⟨rfl, k + 1, by omega, by omega, fun i h hi => ?_⟩, by dsimp only; omega⟩
      rcases Nat.lt_or_ge i k with h' | h'
      · exact hall i h h'
      · obtain rfl : i = k := by omega
        simpa [wordC, List.getD, hlt] using hb
  · have hge : ¬ k < s.length := by simpa using hx
    refine ⟨?_, rfl⟩
    rw [takeWhile_take wordC s k hall (fun h => absurd h hge), List.take_of_length_le (by omega)]
theorem run_digit_spec (s : List UInt8) (hs : s.length < 2 ^ 40) (w : World) : Calls Try.prog 36 #[.string (mkS s), .func (.func 39) #[] #[]] w (Ret fun v w' => v = .string (mkS (s.takeWhile digC)) ∧ w = w') := by
  refine token_run_digit_ok _ _ _ ?_
  refine ⟨fun x w' => w = w' ∧ ∃ k : Nat, x = k ∧ k ≤ s.length ∧ ∀ i (h : i < s.length), i < k → digC s[i] = true, fun x _ => s.length - x.toNat, ⟨rfl, 0, rfl, Nat.zero_le _, fun _ _ h => absurd h (Nat.not_lt_zero _)⟩, ?_⟩
  rintro _ _ _ ⟨rfl, k, rfl, hk, hall⟩
  refine cond_intro (fun hx => ?_) fun hx => ?_
  · have hlt : k < s.length := by simpa using hx
    refine ⟨by omega, call_then (digit_spec _ w) ?_⟩
    rintro _ _ ⟨rfl, rfl⟩
    refine ⟨_, rfl, cond_intro (fun hb => ?_) fun hb => ?_⟩
    · refine ⟨by omega, ?_, rfl⟩
      rw [takeWhile_take digC s k hall (fun h => by simpa [digC, List.getD, hlt] using hb)]
      simp
    · rw [wrap_in (by omega) (by omega)]
      refine ⟨⟨rfl, k + 1, by omega, by omega, fun i h hi => ?_⟩, by dsimp only; omega⟩
      rcases Nat.lt_or_ge i k with h' | h'
      · exact hall i h h'
      · obtain rfl : i = k := by omega
        simpa [digC, List.getD, hlt] using hb
  · have hge : ¬ k < s.length := by simpa using hx
    refine ⟨?_, rfl⟩
    rw [takeWhile_take digC s k hall (fun h => absurd h hge), List.take_of_length_le (by omega)]
theorem isNaN_spec (x : List UInt8) (w : World) : Calls Try.prog 82 #[.string (mkS x)] w (Ret fun v w' => v = .bool false ∧ w = w') :=
  cmp_isNaN_string_ok _ _ _ ⟨by simp, rfl⟩
theorem isNaN2_spec (x : List UInt8) (w : World) : Calls Try.prog 73 #[.string (mkS x)] w (Ret fun v w' => v = .bool false ∧ w = w') :=
  slices_isNaN_string_ok _ _ _ ⟨by simp, rfl⟩
theorem less_spec (x y : List UInt8) (w : World) : Calls Try.prog 72 #[.string (mkS x), .string (mkS y)] w (Ret fun v w' => v = .bool (Op.bytesLess x y) ∧ w = w') := by
  refine cmp_Less_string_ok _ _ _ _ (call_then (isNaN_spec x w) ?_)
  rintro _ _ ⟨rfl, rfl⟩
  exact ⟨_, rfl, rfl, rfl⟩
theorem words_spec (w : World) : Calls Try.prog 65 #[] w (Ret fun v w' => ∃ b, v = .slice (some ⟨b, 0, none⟩) 18 18 ∧ Box w' b (words.map fun s => .string (mkS s)) ∧ Ext w w') := by
  refine token_words_ok _ _ ?_
  intro b w1 hb hw
  exact ⟨b, rfl, Box.new hb hw, .alloc hw⟩
def mid (i j : Nat) : Nat := (i + j) / 2
theorem mid_eq (i j : Nat) (h : i + j < 2 ^ 40) : IntKind.i64.wrap ((IntKind.u64.wrap (IntKind.i64.wrap ((i : Int) + (j : Int)))).fdiv (2 ^ (min 1 IntKind.u64.bits))) = (mid i j : Nat) := by
  have e0 : IntKind.i64.wrap ((i : Int) + (j : Int)) = (i : Int) + j := wrap_in (by omega) (by omega)
  have e : IntKind.u64.wrap ((i : Int) + (j : Int)) = (i : Int) + j := by rw [IntKind.wrap_u64]; omega
  have e2 : (min 1 IntKind.u64.bits) = 1 := by decide
  have e3 : ((i : Int) + (j : Int)).fdiv (2 ^ 1) = (mid i j : Nat) := by
    rw [Int.fdiv_eq_ediv_of_nonneg _ (by decide)]; unfold mid; omega
  rw [e0, e, e2, e3]
  exact wrap_in (by omega) (by unfold mid; omega)
theorem search_spec (l : List (List UInt8)) (hl : Sorted l) (hn : l.length < 1000) (b c : Nat) (t : List UInt8) (w : World) (hb : Box w b (l.map fun s => .string (mkS s))) :
    Calls Try.prog 64 #[.slice (some ⟨b, 0, none⟩) l.length c, .string (mkS t)] w (Ret fun v w' => ∃ i : Int, v = .tuple #[.int .i64 i, .bool (decide (t ∈ l))] ∧ w = w') := by
  refine slices_BinarySearch_Slstring_string_ok _ _ _ _ _ _ ?_
  have hcell : ∀ (k : Nat) (h : k < l.length), w.cell? ⟨b, k, none⟩ = some (.string (mkS l[k])) := fun k h => hb.cell (by simp [h])
  refine ⟨fun i j w' => w = w' ∧ ∃ i' j' : Nat, i = i' ∧ j = j' ∧ i' ≤ j' ∧ j' ≤ l.length ∧ (∀ k (h : k < l.length), k < i' → Op.bytesLess l[k] t = true) ∧ (∀ k (h : k < l.length), j' ≤ k → Op.bytesLess l[k] t = false), fun i j _ => (j - i).toNat,
    ⟨rfl, 0, l.length, rfl, rfl, Nat.zero_le _, Nat.le_refl _, fun _ _ h => absurd h (Nat.not_lt_zero _), fun k h h' => by omega⟩, ?_⟩
  rintro _ _ _ _ ⟨rfl, i, j, rfl, rfl, hij, hj, hlo, hhi⟩
  refine cond_intro (fun hx => ?_) fun hx => ?_
  · have hlt : i < j := by simpa using hx
    rw [mid_eq i j (by omega)]
    have hm1 : i ≤ mid i j := by unfold mid; omega
    have hm2 : mid i j < j := by unfold mid; omega
    generalize mid i j = m at hm1 hm2
    have hml : m < l.length := by omega
    refine ⟨by omega, by omega, l[m], by rw [add_mk]; simpa using hcell m hml, call_then (less_spec _ _ w) ?_⟩
    rintro _ _ ⟨rfl, rfl⟩
    refine ⟨_, rfl, cond_intro (fun hb => ?_) fun hb => ?_⟩
    · rw [wrap_in (by omega) (by omega)]
      refine ⟨⟨rfl, m + 1, j, by omega, rfl, by omega, hj, fun k h hk => ?_, hhi⟩, by dsimp only; omega⟩
      rcases Nat.lt_or_ge k m with h' | h'
      · exact less_trans _ _ _ (hl k m h hml h') hb
      · obtain rfl : k = m := by omega
        exact hb
    · refine ⟨⟨rfl, i, m, rfl, rfl, hm1, by omega, hlo, fun k h hk => ?_⟩, by dsimp only; omega⟩
      rcases Nat.lt_or_ge m k with h' | h'
      · cases hh : Op.bytesLess l[k] t with
        | false => rfl
        | true => rw [less_trans _ _ _ (hl m k hml h h') hh] at hb; cases hb
      · obtain rfl : k = m := by omega
        exact hb
  · have hge : i = j := by have : ¬ i < j := by simpa using hx
                           omega
    subst hge
    refine cond_intro (fun hx2 => ?_) fun hx2 => ?_
    · have hil : i < l.length := by simpa using hx2
      have hcell' : w.cell? ((⟨b, 0, none⟩ : Addr).add ((i : Int).toNat * 1)) = some (.string (mkS l[i])) := by rw [add_mk]; simpa using hcell i hil
      refine ⟨by omega, l[i], hcell', cond_intro (fun hb => ?_) fun hb => ?_⟩
      · have : l[i] = t := by simpa using hb
        refine ⟨(i : Int), ?_, rfl⟩
        rw [decide_eq_true (this ▸ List.getElem_mem hil)]
      · have hne : l[i] ≠ t := by simpa using hb
        refine ⟨by omega, l[i], hcell', call_then (isNaN2_spec _ w) ?_⟩
        rintro _ _ ⟨rfl, rfl⟩
        refine ⟨_, rfl, (i : Int), ?_, rfl⟩
        have hnot : t ∉ l := by
          intro hm
          obtain ⟨p, hp, rfl⟩ := List.getElem_of_mem hm
          rcases Nat.lt_trichotomy p i with h' | h' | h'
          · have := hlo p hp h'; rw [less_irrefl] at this; cases this
          · subst h'; exact hne rfl
          · have := hl i p hil hp h'
            rw [hhi i hil (Nat.le_refl _)] at this; cases this
        rw [decide_eq_false hnot]
    · have hil : ¬ i < l.length := by simpa using hx2
      refine ⟨(i : Int), ?_, rfl⟩
      have hnot : t ∉ l := by
        intro hm
        obtain ⟨p, hp, rfl⟩ := List.getElem_of_mem hm
        have := hlo p hp (by omega); rw [less_irrefl] at this; cases this
      rw [decide_eq_false hnot]
theorem Word_spec (s : List UInt8) (w : World) : Calls Try.prog 38 #[.string (mkS s)] w (Ret fun v w' => v = .bool (decide (s ∈ words)) ∧ Ext w w') := by
  refine token_Word_ok _ _ _ (call_then (words_spec w) ?_)
  rintro _ w1 ⟨b, rfl, hb, he⟩
  refine ⟨_, _, _, rfl, call_then (search_spec words words_sorted (by decide) b 18 s w1 hb) ?_⟩
  rintro _ _ ⟨i, rfl, rfl⟩
  exact ⟨_, _, rfl, rfl, he⟩
end Go.Proofs.Ytdbdkdmgfiiljaa
namespace Go.Tk
open Go.Vc
theorem blank_cons (r : Bool) (c : UInt8) (l : List UInt8) : blankN r (c :: l) = if c == 10 then blankN false l + 1 else if c == 35 then blankN true l + 1 else if !r && c != 9 && c != 13 && c != 32 then 0 else blankN r l + 1 := rfl
theorem blank_true : ∀ (l : List UInt8), (Lib.indexByte l 10 = -1 ∧ blankN true l = l.length) ∨ (∃ e : Nat, Lib.indexByte l 10 = e ∧ e < l.length ∧ blankN true l = e + 1 + blankN false (l.drop (e + 1)))
  | [] => .inl ⟨rfl, rfl⟩
  | c :: l => by
    by_cases h : c = 10
    · subst h
      right
      refine ⟨0, by simp [Lib.indexByte], by simp, ?_⟩
      simp [blankN]; omega
    · have hb : (c == 10) = false := by simpa using h
      have hbl : blankN true (c :: l) = blankN true l + 1 := by
        rw [blank_cons]
        simp only [hb, Bool.false_eq_true, if_false, Bool.not_true, Bool.false_and]
        split <;> rfl
      rcases blank_true l with ⟨h1, h2⟩ | ⟨e, h1, h2, h3⟩
      · left; exact ⟨by simp [Lib.indexByte, hb, h1], by rw [hbl, h2]; simp⟩
      · right
        refine ⟨e + 1, ?_, by simp; omega, ?_⟩
        · have : ((e : Int) == -1) = false := by rw [beq_eq_false_iff_ne]; omega
          simp [Lib.indexByte, hb, h1, this]
        · rw [hbl, h3]; simp; omega
theorem blank_hash (l : List UInt8) : (Lib.indexByte (35 :: l) 10 < 0 ∧ blankN false (35 :: l) = (35 :: l).length) ∨ (∃ e : Nat, Lib.indexByte (35 :: l) 10 = e ∧ e < (35 :: l).length ∧ blankN false (35 :: l) = e + 1 + blankN false ((35 :: l).drop (e + 1))) := by
  have hb : blankN false (35 :: l) = blankN true l + 1 := by simp [blankN]
  have hi : Lib.indexByte (35 :: l) 10 = if Lib.indexByte l 10 == -1 then -1 else Lib.indexByte l 10 + 1 := by simp [Lib.indexByte]
  rcases blank_true l with ⟨h1, h2⟩ | ⟨e, h1, h2, h3⟩
  · left; rw [hi, h1, hb, h2]; exact ⟨by simp, by simp⟩
  · right
    have : ((e : Int) == -1) = false := by rw [beq_eq_false_iff_ne]; omega
    refine ⟨e + 1, by rw [hi, h1, this]; simp, by simp; omega, ?_⟩
    rw [hb, h3]; simp; omega
theorem blank_space (c : UInt8) (l : List UInt8) (h : isBl c = true) : blankN false (c :: l) = blankN false l + 1 := by
  unfold isBl at h
  rw [blank_cons]
  simp only [Bool.or_eq_true, beq_iff_eq] at h
  rcases h with ((rfl | rfl) | rfl) | rfl <;> simp
theorem blank_other (c : UInt8) (l : List UInt8) (h : isBl c = false) (h2 : c ≠ 35) : blankN false (c :: l) = 0 := by
  unfold isBl at h
  rw [blank_cons]
  simp only [Bool.or_eq_false_iff, beq_eq_false_iff_ne] at h
  obtain ⟨⟨⟨h9, h10⟩, h13⟩, h32⟩ := h
  simp [h9, h10, h13, h32, h2]
def signs2 : List (List UInt8) := [[61, 61], [33, 61], [60, 61], [62, 61], [38, 38], [124, 124]]
def signs1 : List UInt8 := [123, 125, 40, 41, 91, 93, 59, 44, 58, 61, 33, 63, 43, 45, 42, 47, 37, 60, 62]
def hasPre (p l : List UInt8) : Bool := l.take p.length == p
def signOf (l : List UInt8) : List UInt8 :=
  match signs2.find? (hasPre · l) with
  | some t => t
  | none => match l with
    | c :: _ => if signs1.contains c then [c] else []
    | [] => []
theorem hasPre_dec (p l : List UInt8) : (decide ((l.length : Int) ≥ (p.length : Int)) && (l.take p.length == p)) = hasPre p l := by
  unfold hasPre
  by_cases h : l.take p.length = p
  · have : p.length ≤ l.length := by rw [← h]; simp; omega
    simp [h]; omega
  · have : (l.take p.length == p) = false := by simpa using h
    rw [this]; simp
theorem find_none_of {α : Type} (p : α → Bool) (l : List α) (h : ∀ i (hi : i < l.length), p l[i] = false) : l.find? p = none := by
  rw [List.find?_eq_none]
  intro x hx
  obtain ⟨i, hi, rfl⟩ := List.getElem_of_mem hx
  simp [h i hi]
theorem find_at {α : Type} (p : α → Bool) : ∀ (l : List α) (k : Nat) (hk : k < l.length), (∀ i (hi : i < l.length), i < k → p l[i] = false) → p l[k] = true → l.find? p = some l[k]
  | a :: l, 0, _, _, h2 => by simp at h2; simp [h2]
  | a :: l, k + 1, hk, h1, h2 => by
    have h0 := h1 0 (by simp) (by omega)
    simp at h0 h2
    rw [List.find?_cons, h0]
    exact find_at p l k (by simpa using hk) (fun i hi hik => by have := h1 (i + 1) (by simp; omega) (by omega); simpa using this) h2
theorem indexByte_mem : ∀ (l : List UInt8) (c : UInt8), (0 ≤ Lib.indexByte l c) ↔ l.contains c = true
  | [], c => by simp [Lib.indexByte]
  | b :: l, c => by
    have ih := indexByte_mem l c
    have hge := Lib.indexByte_ge l c
    unfold Lib.indexByte
    by_cases h : b = c
    · subst h; simp
    · have hb : (b == c) = false := by simpa using h
      have hb' : (c == b) = false := by simpa using fun e : c = b => h e.symm
      simp only [hb, Bool.false_eq_true, if_false, List.contains_cons, hb', Bool.false_or]
      rw [← ih]
      split
      · rename_i h1; simp at h1; omega
      · rename_i h1; simp at h1; omega
def numVal (d : List UInt8) : Nat := d.foldl (fun n c => 10 * n + (c.toNat - 48)) 0
theorem numVal_snoc (d : List UInt8) (c : UInt8) : numVal (d ++ [c]) = 10 * numVal d + (c.toNat - 48) := by simp [numVal]
theorem numVal_bd (d : List UInt8) (h : ∀ c ∈ d, digC c = true) : numVal d < 10 ^ d.length := by
  suffices ∀ (d : List UInt8) (n k : Nat), (∀ c ∈ d, digC c = true) → n < 10 ^ k → d.foldl (fun n c => 10 * n + (c.toNat - 48)) n < 10 ^ (k + d.length) by
    have := this d 0 0 h (by simp); simpa [numVal] using this
  intro d
  induction d with
  | nil => intro n k _ hn; simpa using hn
  | cons c d ih =>
    intro n k hd hn
    have hc := hd c (by simp)
    simp [digC, digN] at hc
    have := ih (10 * n + (c.toNat - 48)) (k + 1) (fun x hx => hd x (by simp [hx])) (by rw [Nat.pow_succ]; omega)
    rw [show k + 1 + d.length = k + (c :: d).length by simp; omega] at this
    exact this
def headLet (r : List UInt8) : Bool := match r with | x :: _ => letC x | [] => false
def numRes (d r : List UInt8) : Int × Int :=
  if d.getD 0 0 == 48 && decide (d.length > 1) then (0, 3) else if d.length > 18 then (0, 5) else if headLet r then (0, 3) else ((numVal d : Nat), 0)
structure Tok where
  kind : Int
  text : List UInt8
  n : Int
  at_ : Int
def Tok.zero : Tok := ⟨0, [], 0, 0⟩
def tokC (t : Tok) : List Value := [.int .i64 t.kind, .string (mkS t.text), .int .i64 t.n, .int .i64 t.at_]
def tokAt (l : List UInt8) (p : Nat) : Tok × Nat × Int :=
  match l with
  | [] => (⟨0, [], 0, p⟩, p, 0)
  | c :: _ =>
    if letC c then
      if (l.takeWhile wordC).length > 16 then (Tok.zero, p, 5)
      else (⟨if decide (l.takeWhile wordC ∈ words) then 3 else 1, l.takeWhile wordC, 0, p⟩, p + (l.takeWhile wordC).length, 0)
    else if digC c then
      if (numRes (l.takeWhile digC) (l.drop (l.takeWhile digC).length)).2 = 0 then (⟨2, l.takeWhile digC, (numRes (l.takeWhile digC) (l.drop (l.takeWhile digC).length)).1, p⟩, p + (l.takeWhile digC).length, 0)
      else (Tok.zero, p, (numRes (l.takeWhile digC) (l.drop (l.takeWhile digC).length)).2)
    else if signOf l = [] then (Tok.zero, p, 10)
    else (⟨4, signOf l, 0, p⟩, p + (signOf l).length, 0)
theorem tokAt_cons (c : UInt8) (l : List UInt8) (p : Nat) : tokAt (c :: l) p =
    if letC c then
      if ((c :: l).takeWhile wordC).length > 16 then (Tok.zero, p, 5)
      else (⟨if decide ((c :: l).takeWhile wordC ∈ words) then 3 else 1, (c :: l).takeWhile wordC, 0, p⟩, p + ((c :: l).takeWhile wordC).length, 0)
    else if digC c then
      if (numRes ((c :: l).takeWhile digC) ((c :: l).drop ((c :: l).takeWhile digC).length)).2 = 0 then (⟨2, (c :: l).takeWhile digC, (numRes ((c :: l).takeWhile digC) ((c :: l).drop ((c :: l).takeWhile digC).length)).1, p⟩, p + ((c :: l).takeWhile digC).length, 0)
      else (Tok.zero, p, (numRes ((c :: l).takeWhile digC) ((c :: l).drop ((c :: l).takeWhile digC).length)).2)
    else if signOf (c :: l) = [] then (Tok.zero, p, 10)
    else (⟨4, signOf (c :: l), 0, p⟩, p + (signOf (c :: l)).length, 0) := rfl
def nextS (s : List UInt8) (at_ : Int) : Tok × Nat × Int :=
  if at_ < 0 ∨ (s.length : Int) < at_ then (Tok.zero, 0, 1)
  else tokAt (s.drop (at_.toNat + blankN false (s.drop at_.toNat))) (at_.toNat + blankN false (s.drop at_.toNat))
end Go.Tk
namespace Go.Proofs.Ytdbdkdmgfiiljaa
open Go.Vc Go.Tk
theorem indexByteString_spec (s : List UInt8) (c : Nat) (w : World) (K : Value → World → Prop) (hk : K (.int .i64 (Lib.indexByte s c.toUInt8)) w) : ExtOk Try.prog 81 #[.string (mkS s), .int .u8 (c : Int)] K w := by
  refine ⟨_, w, ?_, hk⟩
  rw [run_callFunc_extern Try.func81 (by kernel_rfl) (by kernel_rfl) (by kernel_rfl) (e := Extern.BytealgIndexByte.indexByte) (by kernel_rfl), Lib.run_indexByteString]
  rfl
theorem IndexByte_spec (s : List UInt8) (c : Nat) (w : World) : Calls Try.prog 63 #[.string (mkS s), .int .u8 (c : Int)] w (Ret fun v w' => v = .int .i64 (Lib.indexByte s c.toUInt8) ∧ w = w') := by
  refine strings_IndexByte_ok _ _ _ _ (call_then (internal_stringslite_IndexByte_ok s c (fun v w' => v = .int .i64 (Lib.indexByte s c.toUInt8) ∧ w = w') w (indexByteString_spec s c w _ ⟨_, rfl, rfl, rfl⟩)) ?_)
  rintro _ _ ⟨rfl, rfl⟩
  exact ⟨_, rfl, rfl, rfl⟩
theorem HasPrefix_spec (s p : List UInt8) (w : World) : Calls Try.prog 66 #[.string (mkS s), .string (mkS p)] w (Ret fun v w' => v = .bool (hasPre p s) ∧ w = w') := by
  refine strings_HasPrefix_ok _ _ _ _ (call_then (internal_stringslite_HasPrefix_ok s p (fun v w' => v = .bool (hasPre p s) ∧ w = w') w ⟨fun h => ?_, fun _ => ⟨?_, rfl⟩⟩) ?_)
  · simp at h; omega
  · rw [Int.toNat_natCast, hasPre_dec]
  · rintro _ _ ⟨rfl, rfl⟩
    exact ⟨_, rfl, rfl, rfl⟩
theorem drop_cons (s : List UInt8) (k : Nat) (h : k < s.length) : s.drop k = s.getD k 0 :: s.drop (k + 1) := by
  rw [List.drop_eq_getElem_cons h]; simp [List.getD, h]
theorem isBl_of (c : UInt8) : isBl c = (((c.toNat : Int) == 9) || ((c.toNat : Int) == 10) || ((c.toNat : Int) == 13) || ((c.toNat : Int) == 32)) := by
  have : ∀ n : Fin 256, isBl n.val.toUInt8 = (((n.val.toUInt8.toNat : Int) == 9) || ((n.val.toUInt8.toNat : Int) == 10) || ((n.val.toUInt8.toNat : Int) == 13) || ((n.val.toUInt8.toNat : Int) == 32)) := by decide +kernel
  have h := this ⟨c.toNat, c.toNat_lt⟩
  have e : c.toNat.toUInt8 = c := by simp
  simpa only [e] using h
theorem hash_of (c : UInt8) (h : ((c.toNat : Int) == 35) = true) : c = 35 := by
  have h1 : c.toNat = 35 := by simp at h; omega
  have e : c.toNat.toUInt8 = c := by simp
  rw [← e, h1]; rfl
theorem hash_not (c : UInt8) (h : ((c.toNat : Int) == 35) = false) : c ≠ 35 := by
  rintro rfl; simp at h
theorem blank_spec (s : List UInt8) (hs : s.length < 2 ^ 40) (w : World) : Calls Try.prog 34 #[.string (mkS s)] w (Ret fun v w' => v = .int .i64 (blankN false s : Nat) ∧ w = w') := by
  refine token_blank_ok _ _ _ ?_
  refine ⟨fun n w' => w = w' ∧ ∃ k : Nat, n = k ∧ k ≤ s.length ∧ blankN false s = k + blankN false (s.drop k), fun n _ => s.length - n.toNat, ⟨rfl, 0, rfl, Nat.zero_le _, by simp⟩, ?_⟩
  rintro _ _ _ ⟨rfl, k, rfl, hk, hb⟩
  refine cond_intro (fun hx => ?_) fun hx => ?_
  · have hlt : k < s.length := by simpa using hx
    have hd := drop_cons s k hlt
    have hkk : ((k : Int)).toNat = k := by omega
    rw [hkk]
    generalize hc : s.getD k 0 = c at hd ⊢
    refine ⟨by omega, fun n w' => w = w' ∧ ∃ j : Nat, n = j ∧ k ≤ j ∧ j < s.length ∧ blankN false s = j + 1 + blankN false (s.drop (j + 1)), ?_, ?_⟩
    · refine cond_intro (fun h35 => ?_) fun h35 => ?_
      · refine ⟨by omega, call_then (IndexByte_spec (s.drop k) 10 w) ?_⟩
        rintro _ _ ⟨rfl, rfl⟩
        have hc35 := hash_of c h35
        subst hc35
        rw [hd] at hb ⊢
        refine ⟨_, rfl, ?_⟩
        have e10 : (10 : Nat).toUInt8 = 10 := rfl
        rw [e10]
        have hl : (s.drop k).length = s.length - k := by simp
        rcases blank_hash (s.drop (k + 1)) with ⟨h1, h2⟩ | ⟨e, h1, h2, h3⟩
        · refine cond_t (by simpa using h1) ⟨?_, rfl⟩
          rw [hb, h2, ← hd, hl]; congr 1; omega
        · refine cond_f (by rw [h1]; simp) ?_
          rw [← hd, hl] at h2
          rw [h1, wrap_in (by omega) (by omega)]
          refine ⟨rfl, k + e, by omega, by omega, by omega, ?_⟩
          rw [hb, h3, ← hd, List.drop_drop]
          rw [show k + (e + 1) = k + e + 1 by omega]; omega
      · refine ⟨fun x w' => w = w' ∧ x = isBl c, ?_, ?_⟩
        · have hbl := isBl_of c
          refine cond_intro (fun h9 => ?_) fun h9 => ?_
          · exact ⟨rfl, by rw [hbl, h9]; simp⟩
          · refine cond_intro (fun h10 => ?_) fun h10 => ?_
            · exact ⟨rfl, by rw [hbl, h9, h10]; simp⟩
            · refine cond_intro (fun h13 => ?_) fun h13 => ?_
              · exact ⟨rfl, by rw [hbl, h9, h10, h13]; simp⟩
              · exact ⟨rfl, by rw [hbl, h9, h10, h13]; simp⟩
        · rintro _ x _ ⟨rfl, rfl⟩
          refine cond_intro (fun hx => ?_) fun hx => ?_
          · refine ⟨rfl, k, rfl, Nat.le_refl _, hlt, ?_⟩
            rw [hb, hd, blank_space c _ hx]; omega
          · refine ⟨?_, rfl⟩
            rw [hb, hd, blank_other c _ hx (hash_not c h35)]; simp
    · rintro _ _ _ ⟨rfl, j, rfl, hkj, hj, hbj⟩
      rw [wrap_in (by omega) (by omega)]
      exact ⟨⟨rfl, j + 1, by omega, by omega, hbj⟩, by dsimp only; omega⟩
  · have hge : ¬ k < s.length := by simpa using hx
    refine ⟨?_, rfl⟩
    rw [hb, List.drop_of_length_le (by omega)]; simp [blankN]
theorem sign_spec (s : List UInt8) (hs : s ≠ []) (w : World) : Calls Try.prog 41 #[.string (mkS s)] w (Ret fun v w' => v = .string (mkS (signOf s)) ∧ Ext w w') := by
  refine token_sign_ok _ _ _ ?_
  intro b w1 hb hw1
  have hbox : Box w1 b (signs2.map fun s => .string (mkS s)) := Box.new hb hw1
  have he : Ext w w1 := .alloc hw1
  refine ⟨fun x w' => w1 = w' ∧ ∃ k : Nat, x = k ∧ k ≤ 6 ∧ ∀ i (h : i < signs2.length), i < k → hasPre signs2[i] s = false, fun x _ => 6 - x.toNat, ⟨rfl, 0, rfl, by omega, fun _ _ h => absurd h (Nat.not_lt_zero _)⟩, ?_⟩
  rintro _ _ _ ⟨rfl, k, rfl, hk, hall⟩
  refine cond_intro (fun hx => ?_) fun hx => ?_
  · have hlt : k < 6 := by simp at hx; omega
    have hlt' : k < signs2.length := hlt
    refine ⟨by omega, signs2[k], ?_, call_then (HasPrefix_spec s _ w1) ?_⟩
    · rw [add_mk]; exact hbox.cell (by simp [hlt'])
    · rintro _ _ ⟨rfl, rfl⟩
      refine ⟨_, rfl, cond_intro (fun hp => ?_) fun hp => ?_⟩
      · refine ⟨?_, he⟩
        unfold signOf
        rw [find_at (hasPre · s) signs2 k hlt' hall hp]
      · rw [wrap_in (by omega) (by omega)]
        refine ⟨⟨rfl, k + 1, by omega, by omega, fun i h hi => ?_⟩, by dsimp only; omega⟩
        rcases Nat.lt_or_ge i k with h' | h'
        · exact hall i h h'
        · obtain rfl : i = k := by omega
          exact hp
  · have h6 : k = 6 := by simp at hx; omega
    subst h6
    have hn : signs2.find? (hasPre · s) = none := find_none_of _ _ fun i hi => hall i hi hi
    cases s with
    | nil => exact absurd rfl hs
    | cons c l =>
      have e0 : ((c :: l).getD 0 0) = c := rfl
      rw [e0]
      refine ⟨⟨by omega, by simp⟩, call_then (IndexByte_spec _ c.toNat w1) ?_⟩
      rintro _ _ ⟨rfl, rfl⟩
      refine ⟨_, rfl, ?_⟩
      have ec : c.toNat.toUInt8 = c := by simp
      rw [ec]
      have hm := indexByte_mem signs1 c
      have hsig : signOf (c :: l) = if signs1.contains c then [c] else [] := by unfold signOf; rw [hn]
      change cond (decide (Lib.indexByte signs1 c ≥ 0)) _ _
      refine cond_intro (fun h => ?_) fun h => ?_
      · refine ⟨⟨by omega, by simp; omega⟩, ?_, he⟩
        rw [hsig, if_pos (hm.1 (by simpa using h))]; rfl
      · refine ⟨?_, he⟩
        rw [hsig, if_neg (fun hh => by have := hm.2 hh; simp at h; omega)]
def byteV (c : UInt8) : Value := .int .u8 (c.toNat : Int)
theorem freeze_cell (w : World) (a p : Addr) (n : Nat) : (w.freeze a n).cell? p = w.cell? p := by
  unfold World.freeze
  split
  · rfl
  · simp only [World.cell?, Array.getElem?_modify]
    by_cases h : a.block = p.block
    · simp only [h, if_true]
      cases w.heap[p.block]? with
      | none => rfl
      | some o => cases o <;> rfl
    · simp [h]
theorem freeze_ext (w w1 : World) (a : Addr) (n : Nat) (h : Ext w w1) (ha : w.heap.size ≤ a.block) : Ext w (w1.freeze a n) := by
  unfold World.freeze
  split
  · exact h
  · refine ⟨h.os, h.tape, h.output, by simpa using h.size, fun k hk => ?_⟩
    simp only [Array.getElem?_modify]
    rw [if_neg (by omega)]
    exact Go.RowKit.Below.block h k hk
def byteCells (s : List UInt8) (k : Nat) : Array Value := (mkS s).data.map (fun b : UInt8 => Value.int .u8 (b.toNat : Int)) ++ Array.replicate k (Value.int .u8 0)
theorem bytes_spec (T E : TypeId) (P : Program) (h1 : P.underlying 9 = some .string) (h2 : P.underlying T = some (.slice E)) (h3 : P.underlying E = some (.int .u8)) (s : List UInt8) (w : World) (K : Value → World → Prop)
    (hk : ∀ p c w', CellsAt w' p (s.map byteV) → Ext w w' → K (.slice (some p) s.length c) w') : SemOk P (convert 9 T (.string (mkS s))) K w := by
  obtain ⟨cap, hcap⟩ : ∃ cap, cap = (Question.appendCap (mkS s).size 0 E).cut (w.tape w.drawn (.appendCap (mkS s).size 0 E)) := ⟨_, rfl⟩
  have hrun : (convert 9 T (.string (mkS s))).run P w = .ok (.slice (some ⟨w.heap.size, 0, none⟩) s.length cap)
      ((w.drew.alloc (.cells (byteCells s (cap - (mkS s).size)) E)).freeze ⟨w.heap.size, (byteCells s (cap - (mkS s).size)).size, none⟩ 1) := by
    simp only [convert, underlying, Sem.run_bind, run_program, Result.andThen_ok, h1, h2, h3, Sem.run_pure, Conv.stringToBytes, run_choose, Question.forced, Bool.false_eq_true, if_false, newRow, run_newObj, markStringish, run_shape]
    simp only [World.shape?, Array.getElem?_push_size, Result.andThen_ok, run_freeze, ← hcap]
    rfl
  refine ⟨_, _, hrun, hk _ _ _ ?_ ?_⟩
  · intro i hi
    rw [freeze_cell, add_mk]
    have hb : Box (w.drew.alloc (.cells (byteCells s (cap - (mkS s).size)) E)) w.heap.size _ := Box.new (w := w.drew) rfl rfl
    refine hb.cell ?_
    simp only [Nat.zero_add, byteCells, Array.toList_append, Array.toList_map]
    rw [List.getElem?_append_left (by simpa [mkS] using hi)]
    simp only [List.length_map] at hi
    simp [mkS, byteV, hi]
  · exact freeze_ext w _ _ _ ((Ext.drew rfl).trans (.alloc rfl)) (Nat.le_refl _)
theorem str_ty : Try.prog.underlying 9 = some .string := by kernel_rfl
theorem bytes_ty : Try.prog.underlying 97 = some (.slice 5) := by kernel_rfl
theorem byte_ty : Try.prog.underlying 5 = some (.int .u8) := by kernel_rfl
theorem number_spec (d r : List UInt8) (hd : d ≠ []) (hdig : ∀ c ∈ d, digC c = true) (hl : d.length < 2 ^ 40) (w : World) :
    Calls Try.prog 40 #[.string (mkS d), .string (mkS r)] w (Ret fun v w' => v = .tuple #[.int .i64 (numRes d r).1, .int .i64 (numRes d r).2] ∧ Ext w w') := by
  refine token_number_ok _ _ _ _ ?_
  have hpos : 0 < d.length := by cases d with | nil => exact absurd rfl hd | cons _ _ => simp
  refine ⟨by omega, fun _ => ?_⟩
  have e48 : ((((d.getD 0 0).toNat : Int) == 48) && decide ((d.length : Int) > 1)) = (d.getD 0 0 == 48 && decide (d.length > 1)) := by
    have : (((d.getD 0 0).toNat : Int) == 48) = (d.getD 0 0 == 48) := by
      rw [Bool.eq_iff_iff]; simp [← UInt8.toNat_inj]
      omega
    rw [this]; congr 1
    rw [Bool.eq_iff_iff]; simp; omega
  rw [e48]
  unfold numRes
  refine cond_intro (fun h => ?_) fun h => ?_
  · exact ⟨by rw [if_pos h], Ext.refl _⟩
  · have hn : ¬ (d.getD 0 0 == 48 && decide (d.length > 1)) = true := by rw [h]; simp
    simp only [if_neg hn]
    refine cond_intro (fun h18 => ?_) fun h18 => ?_
    · have : d.length > 18 := by simp at h18; omega
      exact ⟨by rw [if_pos this], Ext.refl _⟩
    · have h18' : ¬ d.length > 18 := by simp at h18; omega
      simp only [if_neg h18']
      refine ⟨fun x w' => w = w' ∧ x = headLet r, ?_, ?_⟩
      · cases r with
        | nil => exact ⟨rfl, rfl⟩
        | cons x r =>
          refine ⟨⟨by omega, by simp⟩, call_then (letter_spec _ (UInt8.toNat_lt _) w) ?_⟩
          rintro _ _ ⟨rfl, rfl⟩
          exact ⟨_, rfl, rfl, rfl⟩
      · rintro _ x _ ⟨rfl, rfl⟩
        refine cond_intro (fun hx => ?_) fun hx => ?_
        · exact ⟨by rw [if_pos hx], Ext.refl _⟩
        · have hn2 : ¬ headLet r = true := by rw [hx]; simp
          simp only [if_neg hn2]
          refine bytes_spec _ _ _ str_ty bytes_ty byte_ty d w _ fun p c w1 hc he => ?_
          refine ⟨_, _, _, rfl, fun n x w' => w1 = w' ∧ ∃ k : Nat, x = k ∧ k ≤ d.length ∧ n = (numVal (d.take k) : Nat), fun _ x _ => d.length - x.toNat, ⟨rfl, 0, rfl, Nat.zero_le _, rfl⟩, ?_⟩
          rintro _ _ _ _ ⟨rfl, k, rfl, hk, rfl⟩
          refine cond_intro (fun hx => ?_) fun hx => ?_
          · have hlt : k < d.length := by simpa using hx
            have hcell := hc k (by simpa using hlt)
            simp only [List.getElem_map, byteV] at hcell
            refine ⟨by omega, (d[k].toNat : Int), by simpa using hcell, ?_⟩
            have hdk := hdig d[k] (List.getElem_mem hlt)
            simp [digC, digN] at hdk
            have hbd : numVal (d.take k) < 10 ^ k := by
              have := numVal_bd (d.take k) (fun c hc => hdig c (List.mem_of_mem_take hc))
              rwa [List.length_take, Nat.min_eq_left (by omega)] at this
            have hbd2 : 10 ^ k ≤ 10 ^ 17 := Nat.pow_le_pow_right (by omega) (by omega)
            have e1 : IntKind.u8.wrap ((d[k].toNat : Int) - 48) = (d[k].toNat : Int) - 48 := by rw [IntKind.wrap_u8]; omega
            rw [e1, wrap_in (n := (d[k].toNat : Int) - 48) (by omega) (by omega), wrap_in (n := 10 * _) (by omega) (by omega), wrap_in (by omega) (by omega), wrap_in (n := (k : Int) + 1) (by omega) (by omega)]
            refine ⟨⟨rfl, k + 1, by omega, by omega, ?_⟩, by dsimp only; omega⟩
            rw [List.take_succ_eq_append_getElem hlt, numVal_snoc]; omega
          · have hge : ¬ k < d.length := by simpa using hx
            exact ⟨by rw [List.take_of_length_le (by omega)], he⟩
end Go.Proofs.Ytdbdkdmgfiiljaa
namespace Go.Proofs.Ytdbdkdmgfiiljaa
open Go.Vc Go.Tk
theorem takeWhile_le {α : Type} (p : α → Bool) (l : List α) : (l.takeWhile p).length ≤ l.length := by
  have := List.takeWhile_prefix p (l := l); exact this.length_le
theorem mem_takeWhile {α : Type} (p : α → Bool) : ∀ (l : List α), ∀ c ∈ l.takeWhile p, p c = true
  | [], _, h => by cases h
  | a :: l, c, h => by
    rw [List.takeWhile_cons] at h
    split at h
    · rename_i ha
      cases h with
      | head => exact ha
      | tail _ h => exact mem_takeWhile p l c h
    · cases h
theorem signOf_le (l : List UInt8) : (signOf l).length ≤ l.length := by
  unfold signOf
  split
  · rename_i t h
    have := List.find?_some h
    simp only [hasPre, beq_iff_eq] at this
    rw [← this]; simp; omega
  · split
    · split <;> simp
    · simp
set_option maxHeartbeats 1000000 in
theorem Next_spec (s : List UInt8) (hs : s.length < 2 ^ 40) (at_ : Int) (w : World) :
    Calls Try.prog 18 #[.string (mkS s), .int .i64 at_] w (Ret fun v w' => v = .tuple #[.agg ⟨tokC (nextS s at_).1⟩, .int .i64 (nextS s at_).2.1, .int .i64 (nextS s at_).2.2] ∧ Ext w w') := by
  refine token_Next_ok _ _ _ _ ?_
  intro b w1 hb hw1
  have o := (Own.start w).alloc hb hw1
  intro _
  refine cond_intro (fun hx => ?_) fun hx => ?_
  · refine ⟨o.wr 0 rfl rfl, fun w2 hw2 => ?_⟩
    have o := o.sets 0 hw2 rfl
    refine ⟨_, _, _, _, (o.at 0 rfl).whole, ?_, o.done⟩
    have : nextS s at_ = (Tok.zero, 0, 1) := by unfold nextS; rw [if_pos (by simp at hx; omega)]
    rw [this]; rfl
  · simp at hx
    obtain ⟨k, rfl⟩ := Int.eq_ofNat_of_zero_le hx.1
    have hk : k ≤ s.length := by omega
    have hkk : ((k : Nat) : Int).toNat = k := Int.toNat_natCast k
    rw [hkk]
    have hns : nextS s (k : Int) = tokAt (s.drop (k + blankN false (s.drop k))) (k + blankN false (s.drop k)) := by
      unfold nextS; rw [if_neg (by omega), hkk]
    rw [hns]
    have hble := blank_le false (s.drop k)
    simp only [List.length_drop] at hble
    refine ⟨by omega, call_then (blank_spec (s.drop k) (by simp; omega) w1) ?_⟩
    rintro _ _ ⟨rfl, rfl⟩
    generalize hp : k + blankN false (s.drop k) = p
    have hple : p ≤ s.length := by omega
    have hwp : IntKind.i64.wrap ((k : Int) + (blankN false (s.drop k) : Nat)) = (p : Int) := by rw [wrap_in (by omega) (by omega)]; omega
    refine ⟨_, rfl, ?_⟩
    rw [hwp]
    refine ⟨by omega, ?_⟩
    intro b1 w4 hb1 hw4
    have o := o.alloc hb1 hw4
    refine ⟨o.wr 0 rfl rfl, fun w5 hw5 => ?_⟩
    have o := o.sets 0 hw5 rfl
    rw [Int.toNat_natCast]
    generalize hl : s.drop p = l
    have hll : l.length = s.length - p := by rw [← hl]; simp
    -- what is in the boxes when the ways meet
    refine ⟨fun e w' => ∃ t : Tok, ∃ q : Nat, tokAt l p = (if e = 0 then (t, q, 0) else (Tok.zero, p, e)) ∧ (e = 0 → q = p + t.text.length ∧ t.text.length < 2 ^ 40) ∧ Own w.heap.size w w' [(b1, tokC t), (b, tokC Tok.zero)], ?_, ?_⟩
    · cases l with
      | nil =>
        refine ⟨_, _, _, _, (o.at 0 rfl).whole, o.wr 1 rfl rfl, fun w6 hw6 => ?_⟩
        have o := o.sets 1 hw6 rfl
        exact ⟨_, _, _, _, (o.at 1 rfl).whole, rfl, o.done⟩
      | cons c l =>
        refine ⟨⟨by omega, by simp⟩, call_then (letter_spec _ (UInt8.toNat_lt _) w5) ?_⟩
        rintro _ _ ⟨rfl, rfl⟩
        have e0 : (c :: l).getD 0 0 = c := rfl
        rw [e0]
        refine ⟨_, rfl, cond_intro (fun hlet => ?_) fun hlet => ?_⟩
        · refine call_then (run_wordly_spec _ (by omega) w5) ?_
          rintro _ _ ⟨rfl, rfl⟩
          refine ⟨_, rfl, o.wr 0 rfl rfl, fun w9 hw9 => ?_⟩
          have o := o.set 0 hw9 rfl
          refine ⟨o.wr 0 rfl rfl, fun w10 hw10 => ?_⟩
          have o := o.set 0 hw10 rfl
          refine ⟨fun w' => Own w.heap.size w w' [(b1, tokC ⟨if decide ((c :: l).takeWhile wordC ∈ words) then 3 else 1, (c :: l).takeWhile wordC, 0, p⟩), (b, tokC Tok.zero)], ?_, ?_⟩
          · refine ⟨_, (o.at 0 rfl).cell rfl, call_then (Word_spec _ w10) ?_⟩
            rintro _ w11 ⟨rfl, he⟩
            have o := o.ext he
            refine ⟨_, rfl, cond_intro (fun hwd => ?_) fun hwd => ?_⟩
            · refine ⟨o.wr 0 rfl rfl, fun w12 hw12 => ?_⟩
              have o := o.set 0 hw12 rfl
              rw [hwd]; exact o
            · rw [hwd]; exact o
          · rintro _ w13 o
            refine ⟨_, (o.at 0 rfl).cell rfl, ?_⟩
            have htk : tokAt (c :: l) p = if ((c :: l).takeWhile wordC).length > 16 then (Tok.zero, p, 5) else (⟨if decide ((c :: l).takeWhile wordC ∈ words) then 3 else 1, (c :: l).takeWhile wordC, 0, p⟩, p + ((c :: l).takeWhile wordC).length, 0) := by
              rw [tokAt_cons, if_pos (show letC c = true from hlet)]
            refine cond_intro (fun h16 => ?_) fun h16 => ?_
            · refine ⟨_, 0, ?_, fun h => absurd h (by decide), o⟩
              rw [htk, if_pos (by simp at h16; omega)]; rfl
            · refine ⟨_, _, ?_, fun _ => ⟨rfl, by have := takeWhile_le wordC (c :: l); dsimp only; omega⟩, o⟩
              rw [htk, if_neg (by simp at h16; omega)]; rfl
        · have hlet' : letC c = false := hlet
          refine ⟨⟨by omega, by simp⟩, call_then (digit_spec _ w5) ?_⟩
          rintro _ _ ⟨rfl, rfl⟩
          refine ⟨_, rfl, cond_intro (fun hdig => ?_) fun hdig => ?_⟩
          · have hdig' : digC c = true := hdig
            refine call_then (run_digit_spec _ (by omega) w5) ?_
            rintro _ _ ⟨rfl, rfl⟩
            have hd0 : (c :: l).takeWhile digC ≠ [] := by rw [List.takeWhile_cons, hdig']; simp
            have hdl := takeWhile_le digC (c :: l)
            refine ⟨_, rfl, o.wr 0 rfl rfl, fun w16 hw16 => ?_⟩
            have o := o.set 0 hw16 rfl
            refine ⟨o.wr 0 rfl rfl, fun w17 hw17 => ?_⟩
            have o := o.set 0 hw17 rfl
            intro w18 hw18
            have o := o.drew hw18
            have htk : tokAt (c :: l) p = if (numRes ((c :: l).takeWhile digC) ((c :: l).drop ((c :: l).takeWhile digC).length)).2 = 0 then (⟨2, (c :: l).takeWhile digC, (numRes ((c :: l).takeWhile digC) ((c :: l).drop ((c :: l).takeWhile digC).length)).1, p⟩, p + ((c :: l).takeWhile digC).length, 0)
                else (Tok.zero, p, (numRes ((c :: l).takeWhile digC) ((c :: l).drop ((c :: l).takeWhile digC).length)).2) := by
              rw [tokAt_cons, if_neg (by rw [hlet']; simp), if_pos hdig']
            have hcell := (o.at 0 rfl).cell (i := 1) rfl
            refine ⟨fun u => u.cell? ⟨b1, 1, none⟩ = some (.string (mkS ((c :: l).takeWhile digC))), hcell, _, fun u hu => hu, _, fun u hu => hu, by omega, ?_⟩
            rw [Int.toNat_natCast]
            refine call_then (number_spec _ _ hd0 (mem_takeWhile _ _) (by omega) w18) ?_
            rintro _ w19 ⟨rfl, he⟩
            have o := o.ext he
            refine ⟨_, _, rfl, o.wr 0 rfl rfl, fun w20 hw20 => ?_⟩
            have o := o.set 0 hw20 rfl
            refine ⟨⟨2, (c :: l).takeWhile digC, _, p⟩, p + ((c :: l).takeWhile digC).length, ?_, fun _ => ⟨rfl, by dsimp only; omega⟩, o⟩
            rw [htk]
          · have hdig' : digC c = false := hdig
            refine call_then (sign_spec (c :: l) (by simp) w5) ?_
            rintro _ w23 ⟨rfl, he⟩
            have o := o.ext he
            refine ⟨_, rfl, o.wr 0 rfl rfl, fun w24 hw24 => ?_⟩
            have o := o.set 0 hw24 rfl
            refine ⟨o.wr 0 rfl rfl, fun w25 hw25 => ?_⟩
            have o := o.set 0 hw25 rfl
            refine ⟨_, (o.at 0 rfl).cell rfl, ?_⟩
            have htk : tokAt (c :: l) p = if signOf (c :: l) = [] then (Tok.zero, p, 10) else (⟨4, signOf (c :: l), 0, p⟩, p + (signOf (c :: l)).length, 0) := by
              rw [tokAt_cons, if_neg (by rw [hlet']; simp), if_neg (by rw [hdig']; simp)]
            refine cond_intro (fun hsg => ?_) fun hsg => ?_
            · refine ⟨⟨4, signOf (c :: l), 0, p⟩, 0, ?_, fun h => absurd h (by decide), o⟩
              rw [htk, if_pos (by simpa using hsg)]; rfl
            · refine ⟨⟨4, signOf (c :: l), 0, p⟩, _, ?_, fun _ => ⟨rfl, by have := signOf_le (c :: l); dsimp only; omega⟩, o⟩
              rw [htk, if_neg (by simpa using hsg)]; rfl
    · rintro _ e w26 ⟨t, q, htk, hq, o⟩
      rw [htk]
      refine cond_intro (fun he => ?_) fun he => ?_
      · have he' : ¬ e = 0 := by simpa using he
        rw [if_neg he']
        refine ⟨o.wr 1 rfl rfl, fun w27 hw27 => ?_⟩
        have o := o.sets 1 hw27 rfl
        exact ⟨_, _, _, _, (o.at 1 rfl).whole, rfl, o.done⟩
      · have he' : e = 0 := by simpa using he
        subst he'
        obtain ⟨hq, hfit⟩ := hq rfl
        subst hq
        simp only [if_true]
        have hww : IntKind.i64.wrap ((p : Int) + (t.text.length : Nat)) = ((p + t.text.length : Nat) : Int) := by rw [wrap_in (by omega) (by omega)]; omega
        intro w28 hw28
        have o := o.drew hw28
        refine ⟨fun u => Box u b1 (tokC t), o.at 0 rfl, _, _, _, _, fun u hu => hu.whole, _, fun u hu => hu.cell rfl, o.wr 1 rfl rfl, fun w27 hw27 => ?_⟩
        have o := o.sets 1 hw27 rfl
        exact ⟨o.at 0 rfl, _, _, _, _, (o.at 1 rfl).whole, by rw [hww]; rfl, o.done⟩
end Go.Proofs.Ytdbdkdmgfiiljaa
namespace Go.Proofs.Ytdbdkdmgfiiljaa
open Go.Vc
end Go.Proofs.Ytdbdkdmgfiiljaa
namespace Go.Proofs.Ytdbdkdmgfiiljaa
open Go.Vc Go.Tk
def strV (s : List UInt8) : Value := .string (mkS s)
end Go.Proofs.Ytdbdkdmgfiiljaa
namespace Go.Proofs.Ytdbdkdmgfiiljaa
open Go.Vc Go.Tk
end Go.Proofs.Ytdbdkdmgfiiljaa
namespace Go.Tk
open Go.Vc
theorem tokAt_adv (l : List UInt8) (p : Nat) (h : (tokAt l p).2.2 = 0) (hk : (tokAt l p).1.kind ≠ 0) : p < (tokAt l p).2.1 ∧ (tokAt l p).2.1 ≤ p + l.length := by
  cases l with
  | nil => exact absurd rfl hk
  | cons c l =>
    rw [tokAt_cons] at *
    split at h
    · rename_i hc
      split at h
      · cases h
      · rename_i h16
        simp only [hc, if_true, if_neg h16]
        have h1 := Go.Proofs.Ytdbdkdmgfiiljaa.takeWhile_le wordC (c :: l)
        have h2 : 0 < ((c :: l).takeWhile wordC).length := by
          rw [List.takeWhile_cons, if_pos (by simp only [wordC, wordN]; simp only [letC] at hc; rw [hc]; rfl)]; simp
        omega
    · rename_i hc
      split at h
      · rename_i hd
        split at h
        · rename_i hq
          simp only [hc, hd, if_true, if_pos hq, Bool.false_eq_true, if_false]
          have h1 := Go.Proofs.Ytdbdkdmgfiiljaa.takeWhile_le digC (c :: l)
          have h2 : 0 < ((c :: l).takeWhile digC).length := by rw [List.takeWhile_cons, if_pos hd]; simp
          omega
        · rename_i hq; exact absurd h hq
      · rename_i hd
        split at h
        · cases h
        · rename_i hq
          simp only [hc, hd, if_neg hq, Bool.false_eq_true, if_false]
          have h1 := Go.Proofs.Ytdbdkdmgfiiljaa.signOf_le (c :: l)
          have h2 : 0 < (signOf (c :: l)).length := by cases hh : signOf (c :: l) with | nil => exact absurd hh hq | cons _ _ => simp
          omega
theorem nextS_adv (s : List UInt8) (a : Nat) (ha : a ≤ s.length) (h : (nextS s a).2.2 = 0) (hk : (nextS s a).1.kind ≠ 0) : a < (nextS s a).2.1 ∧ (nextS s a).2.1 ≤ s.length := by
  have e : nextS s (a : Int) = tokAt (s.drop (a + blankN false (s.drop a))) (a + blankN false (s.drop a)) := by
    unfold nextS; rw [if_neg (by omega), Int.toNat_natCast]
  rw [e] at h hk ⊢
  have hb := blank_le false (s.drop a)
  have := tokAt_adv _ _ h hk
  simp only [List.length_drop] at hb this
  omega
def allFrom (s : List UInt8) : Nat → Nat → List Tok → List Tok × Int × Int
  | 0, _, acc => (acc, 0, 0)
  | f + 1, a, acc =>
    if (nextS s a).2.2 ≠ 0 then ([], (nextS s a).2.1, (nextS s a).2.2)
    else if (nextS s a).1.kind = 0 then (acc ++ [(nextS s a).1], (nextS s a).1.at_, 0)
    else allFrom s f (nextS s a).2.1 (acc ++ [(nextS s a).1])
def allS (s : List UInt8) : List Tok × Int × Int := if s.length > 65536 then ([], 0, 5) else allFrom s (s.length + 1) 0 []
def nameS (s : List UInt8) : Bool :=
  match s with
  | [] => false
  | c :: l => decide ((c :: l).length ≤ 16) && (letC c && ((c :: l).all wordC && !decide ((c :: l) ∈ words)))
theorem tokC_len (t : Tok) : (tokC t).length = 4 := rfl
end Go.Tk
namespace Go.Tm
open Go.Vc Go.Tk
structure Nd where
  op : Int
  name : List UInt8
  n : Int
  kids : Int
  at_ : Int
  deriving DecidableEq
def ndC (x : Nd) : List Value := [.int .i64 x.op, .string (mkS x.name), .int .i64 x.n, .int .i64 x.kids, .int .i64 x.at_]
theorem ndC_len (x : Nd) : (ndC x).length = 5 := rfl
structure Res where
  l : List Nd
  at_ : Nat
  e : Int
def T (toks : List Tok) (p : Nat) : Tok := toks.getD p Tok.zero
def sgs : List (List UInt8) := [[43], [45], [42], [47], [37], [61, 61], [33, 61], [60], [60, 61], [62], [62, 61], [38, 38], [124, 124]]
def idx (s : List UInt8) : List (List UInt8) → Nat → Int
  | [], _ => 0
  | x :: l, i => if x = s then (5 + i : Nat) else idx s l (i + 1)
def opOf (s : List UInt8) : Int := idx s sgs 0
def levO (op : Int) : Nat :=
  if op = 17 then 1 else if op = 16 then 2 else if 10 ≤ op ∧ op ≤ 15 then 3 else if op = 5 ∨ op = 6 then 4 else if 7 ≤ op ∧ op ≤ 9 then 5 else if op = 3 ∨ op = 4 then 6 else if op = 1 ∨ op = 2 then 7 else 0
theorem opOf_bd (s : List UInt8) : opOf s = 0 ∨ (5 ≤ opOf s ∧ opOf s ≤ 17) := by
  suffices ∀ (l : List (List UInt8)) (i : Nat), idx s l i = 0 ∨ (5 + (i : Int) ≤ idx s l i ∧ idx s l i < 5 + i + l.length) by
    have := this sgs 0
    simp [sgs] at this
    unfold opOf sgs
    omega
  intro l
  induction l with
  | nil => intro i; exact .inl rfl
  | cons x l ih =>
    intro i
    unfold idx
    split
    · right; simp; omega
    · rcases ih (i + 1) with h | h
      · exact .inl h
      · right; simp at h ⊢; omega
theorem lev_bd (s : List UInt8) : (opOf s = 0 ∧ levO (opOf s) = 0) ∨ (opOf s ≠ 0 ∧ 1 ≤ levO (opOf s) ∧ levO (opOf s) ≤ 5) := by
  rcases opOf_bd s with h | ⟨h1, h2⟩
  · left; rw [h]; exact ⟨rfl, by decide⟩
  · right
    refine ⟨by omega, ?_⟩
    unfold levO
    repeat' split
    all_goals omega
inductive Job
  | one (p d : Nat)
  | lev (n p d : Nat)
  | loop (n most d : Nat) (x : Res)
def oneStep (toks : List Tok) (r1 rl : Nat → Nat → Option Res) (p d : Nat) : Option Res :=
  if (T toks p).kind = 2 then some ⟨[⟨1, [], (T toks p).n, 0, (T toks p).at_⟩], p + 1, 0⟩
  else if (T toks p).kind = 1 then some ⟨[⟨2, (T toks p).text, 0, 0, (T toks p).at_⟩], p + 1, 0⟩
  else if (T toks p).kind = 4 ∧ ((T toks p).text = [45] ∨ (T toks p).text = [33]) then
    if d = 24 then some ⟨[], p, 5⟩
    else (r1 (p + 1) (d + 1)).map fun x => if x.e = 0 then ⟨⟨if (T toks p).text = [33] then 4 else 3, [], 0, 1, (T toks p).at_⟩ :: x.l, x.at_, 0⟩ else x
  else if (T toks p).kind = 4 ∧ (T toks p).text = [40] then
    if d = 24 then some ⟨[], p, 5⟩
    else (rl (p + 1) (d + 1)).map fun x => if x.e ≠ 0 then x else if (T toks x.at_).kind = 4 ∧ (T toks x.at_).text = [41] then ⟨x.l, x.at_ + 1, 0⟩ else ⟨[], x.at_, 11⟩
  else some ⟨[], p, 11⟩
def join (toks : List Tok) (x y : Res) : Res := ⟨⟨opOf (T toks x.at_).text, [], 0, 2, (T toks x.at_).at_⟩ :: x.l ++ y.l, y.at_, 0⟩
def mine (toks : List Tok) (p : Nat) : Nat := if (T toks p).kind = 4 then levO (opOf (T toks p).text) else 0
theorem mine_le (toks : List Tok) (p : Nat) : mine toks p ≤ 5 := by
  unfold mine
  split
  · rcases lev_bd (T toks p).text with h | h <;> omega
  · omega
def R (toks : List Tok) : Nat → Job → Option Res
  | 0, _ => none
  | f + 1, .one p d => oneStep toks (fun p d => R toks f (.one p d)) (fun p d => R toks f (.lev 1 p d)) p d
  | f + 1, .lev n p d => if n = 6 then R toks f (.one p d) else (R toks f (.lev (n + 1) p d)).bind fun x => R toks f (.loop n 0 d x)
  | f + 1, .loop n m d x => if x.e ≠ 0 then some x else if mine toks x.at_ = 0 ∨ mine toks x.at_ ≠ n then some x
    else (R toks f (.lev (n + 1) (x.at_ + 1) d)).bind fun y => if y.e ≠ 0 then some y else if n = 3 then some (join toks x y) else R toks f (.loop n m d (join toks x y))
def P (toks : List Tok) : Nat → Job → Option Res
  | 0, _ => none
  | f + 1, .one p d => oneStep toks (fun p d => P toks f (.one p d)) (fun p d => P toks f (.lev 1 p d)) p d
  | f + 1, .lev n p d => (P toks f (.one p d)).bind fun x => P toks f (.loop n 6 d x)
  | f + 1, .loop n m d x => if x.e ≠ 0 then some x else if mine toks x.at_ = 0 ∨ mine toks x.at_ < n ∨ m < mine toks x.at_ then some x
    else (P toks f (.lev (mine toks x.at_ + 1) (x.at_ + 1) d)).bind fun y => if y.e ≠ 0 then some y else P toks f (.loop n (if mine toks x.at_ = 3 then 2 else mine toks x.at_) d (join toks x y))
theorem oneStep_mono {toks : List Tok} {r1 rl r1' rl' : Nat → Nat → Option Res} (h1 : ∀ p d r, r1 p d = some r → r1' p d = some r) (hl : ∀ p d r, rl p d = some r → rl' p d = some r) {p d : Nat} {r : Res}
    (h : oneStep toks r1 rl p d = some r) : oneStep toks r1' rl' p d = some r := by
  unfold oneStep at *
  split at h
  · rename_i c; rw [if_pos c]; exact h
  · rename_i c
    rw [if_neg c]
    split at h
    · rename_i c; rw [if_pos c]; exact h
    · rename_i c
      rw [if_neg c]
      split at h
      · rename_i c
        rw [if_pos c]
        split at h
        · rename_i c; rw [if_pos c]; exact h
        · rename_i c
          rw [if_neg c]
          obtain ⟨x, hx, rfl⟩ := Option.map_eq_some_iff.1 h
          exact Option.map_eq_some_iff.2 ⟨x, h1 _ _ _ hx, rfl⟩
      · rename_i c
        rw [if_neg c]
        split at h
        · rename_i c
          rw [if_pos c]
          split at h
          · rename_i c; rw [if_pos c]; exact h
          · rename_i c
            rw [if_neg c]
            obtain ⟨x, hx, rfl⟩ := Option.map_eq_some_iff.1 h
            exact Option.map_eq_some_iff.2 ⟨x, hl _ _ _ hx, rfl⟩
        · rename_i c; rw [if_neg c]; exact h
theorem R_succ (toks : List Tok) : ∀ (f : Nat) (j : Job) (r : Res), R toks f j = some r → R toks (f + 1) j = some r := by
  intro f
  induction f with
  | zero => intro j r h; simp [R] at h
  | succ f ih =>
    intro j r h
    cases j with
    | one p d =>
      simp only [R] at h
      show oneStep toks (fun p d => R toks (f + 1) (.one p d)) (fun p d => R toks (f + 1) (.lev 1 p d)) p d = some r
      exact oneStep_mono (fun p d r h => ih _ _ h) (fun p d r h => ih _ _ h) h
    | lev n p d =>
      rw [R] at h ⊢
      split at h
      · rename_i hn; rw [if_pos hn]; exact ih _ _ h
      · rename_i hn
        rw [if_neg hn]
        obtain ⟨x, hx, hr⟩ := Option.bind_eq_some_iff.1 h
        exact Option.bind_eq_some_iff.2 ⟨x, ih _ _ hx, ih _ _ hr⟩
    | loop n m d x =>
      rw [R] at h ⊢
      split at h
      · rename_i he; rw [if_pos he]; exact h
      · rename_i he
        rw [if_neg he]
        split at h
        · rename_i hm; rw [if_pos hm]; exact h
        · rename_i hm
          rw [if_neg hm]
          obtain ⟨y, hy, hr⟩ := Option.bind_eq_some_iff.1 h
          refine Option.bind_eq_some_iff.2 ⟨y, ih _ _ hy, ?_⟩
          split at hr
          · rename_i hye; rw [if_pos hye]; exact hr
          · rename_i hye
            rw [if_neg hye]
            split at hr
            · rename_i h3; rw [if_pos h3]; exact hr
            · rename_i h3; rw [if_neg h3]; exact ih _ _ hr
theorem R_mono (toks : List Tok) {f g : Nat} (hfg : f ≤ g) {j : Job} {r : Res} (h : R toks f j = some r) : R toks g j = some r := by
  induction g with
  | zero => have : f = 0 := by omega
            subst this; exact h
  | succ g ih =>
    rcases Nat.lt_or_ge g f with h1 | h1
    · have : f = g + 1 := by omega
      subst this; exact h
    · exact R_succ _ _ _ _ (ih h1)
def chain (toks : List Tok) (g d : Nat) : Nat → Nat → Res → Option Res
  | _, 0, x => some x
  | n, k + 1, x => (chain toks g d (n + 1) k x).bind fun y => R toks g (.loop n 0 d y)
theorem chain_mono (toks : List Tok) {f g d : Nat} (hfg : f ≤ g) : ∀ (k n : Nat) {x r : Res}, chain toks f d n k x = some r → chain toks g d n k x = some r
  | 0, _, _, _, h => h
  | k + 1, n, x, r, h => by
    obtain ⟨y, hy, hr⟩ := Option.bind_eq_some_iff.1 h
    exact Option.bind_eq_some_iff.2 ⟨y, chain_mono toks hfg k (n + 1) hy, R_mono toks hfg hr⟩
theorem chain_split (toks : List Tok) (g d : Nat) : ∀ (a b n : Nat) (x : Res), chain toks g d n (a + b) x = (chain toks g d (n + a) b x).bind (chain toks g d n a)
  | 0, b, n, x => by
    simp only [Nat.zero_add, Nat.add_zero]
    cases chain toks g d n b x <;> rfl
  | a + 1, b, n, x => by
    rw [show a + 1 + b = (a + b) + 1 by omega]
    show (chain toks g d (n + 1) (a + b) x).bind _ = _
    rw [chain_split toks g d a b (n + 1) x, show n + 1 + a = n + (a + 1) by omega]
    cases chain toks g d (n + (a + 1)) b x with
    | none => rfl
    | some y => rfl
theorem chain_idle (toks : List Tok) (g d : Nat) (x : Res) : ∀ (k n : Nat), (x.e ≠ 0 ∨ mine toks x.at_ = 0 ∨ mine toks x.at_ < n ∨ n + k ≤ mine toks x.at_) → chain toks (g + 1) d n k x = some x
  | 0, _, _ => rfl
  | k + 1, n, h => by
    show (chain toks (g + 1) d (n + 1) k x).bind _ = _
    rw [chain_idle toks g d x k (n + 1) (by omega)]
    show R toks (g + 1) (.loop n 0 d x) = _
    rw [R]
    rcases h with h | h
    · rw [if_pos h]
    · split
      · rfl
      · rw [if_pos (by omega)]
theorem chain_lev (toks : List Tok) (g p d : Nat) : ∀ (k n : Nat) (x r : Res), n + k = 6 → R toks g (.one p d) = some x → chain toks g d n k x = some r → ∃ g', R toks g' (.lev n p d) = some r
  | 0, n, x, r, hn, h1, h2 => by
    cases h2
    exact ⟨g + 1, by rw [R, if_pos (by omega)]; exact h1⟩
  | k + 1, n, x, r, hn, h1, h2 => by
    obtain ⟨y, hy, hr⟩ := Option.bind_eq_some_iff.1 h2
    obtain ⟨g', h⟩ := chain_lev toks g p d k (n + 1) x y (by omega) h1 hy
    refine ⟨max g g' + 1, ?_⟩
    rw [R, if_neg (by omega)]
    exact Option.bind_eq_some_iff.2 ⟨y, R_mono toks (Nat.le_max_right _ _) h, R_mono toks (Nat.le_max_left _ _) hr⟩
theorem P_R (toks : List Tok) : ∀ (f : Nat), (∀ p d r, P toks f (.one p d) = some r → ∃ g, R toks g (.one p d) = some r) ∧
    (∀ n p d r, 1 ≤ n → n ≤ 6 → P toks f (.lev n p d) = some r → ∃ g, R toks g (.lev n p d) = some r) ∧
    (∀ n m d x r, 1 ≤ n → n ≤ 6 → m ≤ 6 → P toks f (.loop n m d x) = some r → ∃ g, chain toks g d n (min m 5 + 1 - n) x = some r) := by
  intro f
  induction f with
  | zero => exact ⟨fun _ _ _ h => by simp [P] at h, fun _ _ _ _ _ _ h => by simp [P] at h, fun _ _ _ _ _ _ _ _ h => by simp [P] at h⟩
  | succ f ih =>
    obtain ⟨ih1, ih2, ih3⟩ := ih
    refine ⟨fun p d r h => ?_, fun n p d r hn hn6 h => ?_, fun n m d x r hn hn6 hm h => ?_⟩
    · simp only [P] at h
      unfold oneStep at h
      split at h
      · rename_i hk; exact ⟨1, by simp only [R]; unfold oneStep; rw [if_pos hk]; exact h⟩
      · rename_i hk
        split at h
        · rename_i hk1; exact ⟨1, by simp only [R]; unfold oneStep; rw [if_neg hk, if_pos hk1]; exact h⟩
        · rename_i hk1
          split at h
          · rename_i hk2
            split at h
            · rename_i hd; exact ⟨1, by simp only [R]; unfold oneStep; rw [if_neg hk, if_neg hk1, if_pos hk2, if_pos hd]; exact h⟩
            · rename_i hd
              obtain ⟨x, hx, rfl⟩ := Option.map_eq_some_iff.1 h
              obtain ⟨g, hg⟩ := ih1 _ _ _ hx
              exact ⟨g + 1, by simp only [R]; unfold oneStep; rw [if_neg hk, if_neg hk1, if_pos hk2, if_neg hd]; exact Option.map_eq_some_iff.2 ⟨x, hg, rfl⟩⟩
          · rename_i hk2
            split at h
            · rename_i hk3
              split at h
              · rename_i hd; exact ⟨1, by simp only [R]; unfold oneStep; rw [if_neg hk, if_neg hk1, if_neg hk2, if_pos hk3, if_pos hd]; exact h⟩
              · rename_i hd
                obtain ⟨x, hx, rfl⟩ := Option.map_eq_some_iff.1 h
                obtain ⟨g, hg⟩ := ih2 _ _ _ _ (by omega) (by omega) hx
                exact ⟨g + 1, by simp only [R]; unfold oneStep; rw [if_neg hk, if_neg hk1, if_neg hk2, if_pos hk3, if_neg hd]; exact Option.map_eq_some_iff.2 ⟨x, hg, rfl⟩⟩
            · rename_i hk3; exact ⟨1, by simp only [R]; unfold oneStep; rw [if_neg hk, if_neg hk1, if_neg hk2, if_neg hk3]; exact h⟩
    · rw [P] at h
      obtain ⟨x, hx, hr⟩ := Option.bind_eq_some_iff.1 h
      obtain ⟨g1, h1⟩ := ih1 _ _ _ hx
      obtain ⟨g2, h2⟩ := ih3 _ _ _ _ _ hn hn6 (by omega) hr
      exact chain_lev toks (max g1 g2) p d (min 6 5 + 1 - n) n x r (by omega) (R_mono toks (Nat.le_max_left _ _) h1) (chain_mono toks (Nat.le_max_right _ _) _ _ h2)
    · rw [P] at h
      split at h
      · rename_i he
        cases h
        exact ⟨1, chain_idle toks 0 d x _ _ (.inl he)⟩
      · rename_i he
        have hml := mine_le toks x.at_
        split at h
        · rename_i hm'
          cases h
          exact ⟨1, chain_idle toks 0 d x _ _ (by omega)⟩
        · rename_i hm'
          obtain ⟨y, hy, hr⟩ := Option.bind_eq_some_iff.1 h
          obtain ⟨g1, h1⟩ := ih2 _ _ _ _ (by omega) (by omega) hy
          have hfin : ∀ g z, R toks (g + 1) (.loop (mine toks x.at_) 0 d x) = some z → chain toks (g + 1) d n (mine toks x.at_ - n) z = some r → chain toks (g + 1) d n (min m 5 + 1 - n) x = some r := by
            intro g z hz hc
            rw [show min m 5 + 1 - n = (mine toks x.at_ - n) + ((min m 5 - mine toks x.at_) + 1) by omega, chain_split, show n + (mine toks x.at_ - n) = mine toks x.at_ by omega]
            refine Option.bind_eq_some_iff.2 ⟨z, ?_, hc⟩
            show (chain toks (g + 1) d (mine toks x.at_ + 1) (min m 5 - mine toks x.at_) x).bind _ = _
            rw [chain_idle toks g d x _ _ (by omega)]
            exact hz
          split at hr
          · rename_i hye
            have hry : y = r := Option.some.inj hr
            refine ⟨g1 + 1, hfin g1 y ?_ (by rw [← hry]; exact chain_idle toks g1 d y _ _ (.inl hye))⟩
            rw [R, if_neg he, if_neg (by omega)]
            exact Option.bind_eq_some_iff.2 ⟨y, h1, by rw [if_pos hye]⟩
          · rename_i hye
            obtain ⟨g2, h2⟩ := ih3 _ _ _ _ _ hn hn6 (by split <;> omega) hr
            by_cases h3 : mine toks x.at_ = 3
            · rw [if_pos h3] at h2
              refine ⟨max g1 g2 + 1, hfin (max g1 g2) (join toks x y) ?_ (chain_mono toks (f := g2) (by omega) _ _ (by rw [h3]; rw [show min 2 5 + 1 - n = 3 - n by omega] at h2; exact h2))⟩
              rw [R, if_neg he, if_neg (by omega)]
              exact Option.bind_eq_some_iff.2 ⟨y, R_mono toks (Nat.le_max_left _ _) h1, by rw [if_neg hye, if_pos h3]⟩
            · rw [if_neg h3] at h2
              rw [show min (mine toks x.at_) 5 + 1 - n = (mine toks x.at_ - n) + 1 by omega, chain_split, show n + (mine toks x.at_ - n) = mine toks x.at_ by omega] at h2
              obtain ⟨z, hz, hc⟩ := Option.bind_eq_some_iff.1 h2
              have hz' : R toks g2 (.loop (mine toks x.at_) 0 d (join toks x y)) = some z := hz
              refine ⟨max g1 g2 + 1, hfin (max g1 g2) z ?_ (chain_mono toks (by omega) _ _ hc)⟩
              rw [R, if_neg he, if_neg (by omega)]
              exact Option.bind_eq_some_iff.2 ⟨y, R_mono toks (Nat.le_max_left _ _) h1, by rw [if_neg hye, if_neg h3]; exact R_mono toks (Nat.le_max_right _ _) hz'⟩
end Go.Tm
namespace Go.Tm
open Go.Vc Go.Tk
theorem T_end {toks : List Tok} {p : Nat} (h : toks.length ≤ p) : T toks p = Tok.zero := by
  unfold T; rw [List.getD_eq_getElem?_getD, List.getElem?_eq_none h]; rfl
theorem T_lt {toks : List Tok} {p : Nat} (h : (T toks p).kind ≠ 0) : p < toks.length := by
  rcases Nat.lt_or_ge p toks.length with h1 | h1
  · exact h1
  · rw [T_end h1] at h; exact absurd rfl h
theorem mine_lt {toks : List Tok} {p : Nat} (h : mine toks p ≠ 0) : p < toks.length := by
  refine T_lt fun e => h ?_
  unfold mine; rw [e]; rfl
def Ok (toks : List Tok) (p : Nat) (r : Res) : Prop := (r.e = 0 → p < r.at_ ∧ r.at_ ≤ toks.length ∧ r.l.length ≤ r.at_ - p) ∧ (r.e ≠ 0 → r.l = [])
theorem oneStep_ok {toks : List Tok} {r1 rl : Nat → Nat → Option Res} (h1 : ∀ p d r, r1 p d = some r → Ok toks p r) (hl : ∀ p d r, rl p d = some r → Ok toks p r) {p d : Nat} {r : Res}
    (h : oneStep toks r1 rl p d = some r) : Ok toks p r := by
  unfold oneStep at h
  split at h
  · rename_i c
    have := T_lt (toks := toks) (p := p) (by rw [c]; decide)
    cases h; exact ⟨fun _ => ⟨by simp, this, by simp⟩, fun h => absurd rfl h⟩
  · split at h
    · rename_i c
      have := T_lt (toks := toks) (p := p) (by rw [c]; decide)
      cases h; exact ⟨fun _ => ⟨by simp, this, by simp⟩, fun h => absurd rfl h⟩
    · split at h
      · rename_i c
        have := T_lt (toks := toks) (p := p) (by rw [c.1]; decide)
        split at h
        · cases h; exact ⟨fun h => by simp at h, fun _ => rfl⟩
        · obtain ⟨x, hx, rfl⟩ := Option.map_eq_some_iff.1 h
          have hk := h1 _ _ _ hx
          split
          · rename_i he
            have := hk.1 he
            exact ⟨fun _ => ⟨by simp; omega, by simp; omega, by simp; omega⟩, fun h => absurd rfl h⟩
          · rename_i he
            exact ⟨fun h => absurd h he, hk.2⟩
      · split at h
        · rename_i c
          have := T_lt (toks := toks) (p := p) (by rw [c.1]; decide)
          split at h
          · cases h; exact ⟨fun h => by simp at h, fun _ => rfl⟩
          · obtain ⟨x, hx, rfl⟩ := Option.map_eq_some_iff.1 h
            have hk := hl _ _ _ hx
            split
            · rename_i he
              exact ⟨fun h => absurd h he, hk.2⟩
            · rename_i he
              have he : x.e = 0 := by simpa using he
              have hh := hk.1 he
              split
              · rename_i c
                have := T_lt (toks := toks) (p := x.at_) (by rw [c.1]; decide)
                exact ⟨fun _ => ⟨by simp; omega, by simp; omega, by simp; omega⟩, fun h => absurd rfl h⟩
              · exact ⟨fun h => by simp at h, fun _ => rfl⟩
        · cases h; exact ⟨fun h => by simp at h, fun _ => rfl⟩
def OkL (toks : List Tok) (x r : Res) : Prop := (r.e = 0 → x.at_ ≤ r.at_ ∧ r.at_ ≤ toks.length ∧ r.l.length ≤ x.l.length + (r.at_ - x.at_)) ∧ (r.e ≠ 0 → r.l = [])
theorem join_ok {toks : List Tok} {x y : Res} (h : Ok toks (x.at_ + 1) y) (hy : y.e = 0) : x.at_ ≤ (join toks x y).at_ ∧ (join toks x y).at_ ≤ toks.length ∧ (join toks x y).l.length ≤ x.l.length + ((join toks x y).at_ - x.at_) := by
  have := h.1 hy
  simp only [join, List.length_append, List.length_cons]
  omega
theorem P_ok (toks : List Tok) : ∀ (f : Nat), (∀ p d r, P toks f (.one p d) = some r → Ok toks p r) ∧ (∀ n p d r, P toks f (.lev n p d) = some r → Ok toks p r) ∧
    (∀ n m d x r, (x.e = 0 → x.at_ ≤ toks.length) → (x.e ≠ 0 → x.l = []) → P toks f (.loop n m d x) = some r → OkL toks x r ∧ (x.e ≠ 0 → r = x)) := by
  intro f
  induction f with
  | zero => exact ⟨fun _ _ _ h => by simp [P] at h, fun _ _ _ _ h => by simp [P] at h, fun _ _ _ _ _ _ _ h => by simp [P] at h⟩
  | succ f ih =>
    obtain ⟨ih1, ih2, ih3⟩ := ih
    refine ⟨fun p d r h => ?_, fun n p d r h => ?_, fun n m d x r hx hx0 h => ?_⟩
    · simp only [P] at h
      exact oneStep_ok (fun p d r h => ih1 p d r h) (fun p d r h => ih2 1 p d r h) h
    · rw [P] at h
      obtain ⟨x, hx, hr⟩ := Option.bind_eq_some_iff.1 h
      have hk := ih1 _ _ _ hx
      have hl := ih3 _ _ _ _ _ (fun h => (hk.1 h).2.1) hk.2 hr
      by_cases he : x.e = 0
      · have := hk.1 he
        refine ⟨fun h0 => ?_, hl.1.2⟩
        have := hl.1.1 h0
        omega
      · rw [hl.2 he]; exact hk
    · rw [P] at h
      split at h
      · rename_i he; cases h; exact ⟨⟨fun h => absurd h he, hx0⟩, fun _ => rfl⟩
      · rename_i he
        have he : x.e = 0 := by simpa using he
        split at h
        · cases h; exact ⟨⟨fun _ => ⟨Nat.le_refl _, hx he, by omega⟩, fun h => absurd he h⟩, fun h => absurd he h⟩
        · obtain ⟨y, hy, hr⟩ := Option.bind_eq_some_iff.1 h
          have hk := ih2 _ _ _ _ hy
          refine ⟨?_, fun h => absurd he h⟩
          split at hr
          · rename_i hye
            cases hr
            exact ⟨fun h => absurd h hye, hk.2⟩
          · rename_i hye
            have hye : y.e = 0 := by simpa using hye
            have hj := join_ok hk hye
            have := (ih3 _ _ _ _ _ (fun _ => hj.2.1) (fun h => absurd rfl h) hr).1
            refine ⟨fun h0 => ?_, this.2⟩
            have := this.1 h0
            omega
theorem R_ok (toks : List Tok) : ∀ (f : Nat), (∀ p d r, R toks f (.one p d) = some r → Ok toks p r) ∧ (∀ n p d r, R toks f (.lev n p d) = some r → Ok toks p r) ∧
    (∀ n m d x r, (x.e = 0 → x.at_ ≤ toks.length) → (x.e ≠ 0 → x.l = []) → R toks f (.loop n m d x) = some r → OkL toks x r ∧ (x.e ≠ 0 → r = x)) := by
  intro f
  induction f with
  | zero => exact ⟨fun _ _ _ h => by simp [R] at h, fun _ _ _ _ h => by simp [R] at h, fun _ _ _ _ _ _ _ h => by simp [R] at h⟩
  | succ f ih =>
    obtain ⟨ih1, ih2, ih3⟩ := ih
    refine ⟨fun p d r h => ?_, fun n p d r h => ?_, fun n m d x r hx hx0 h => ?_⟩
    · simp only [R] at h
      exact oneStep_ok (fun p d r h => ih1 p d r h) (fun p d r h => ih2 1 p d r h) h
    · rw [R] at h
      split at h
      · exact ih1 _ _ _ h
      · obtain ⟨x, hx, hr⟩ := Option.bind_eq_some_iff.1 h
        have hk := ih2 _ _ _ _ hx
        have hl := ih3 _ _ _ _ _ (fun h => (hk.1 h).2.1) hk.2 hr
        by_cases he : x.e = 0
        · have := hk.1 he
          refine ⟨fun h0 => ?_, hl.1.2⟩
          have := hl.1.1 h0
          omega
        · rw [hl.2 he]; exact hk
    · rw [R] at h
      split at h
      · rename_i he; cases h; exact ⟨⟨fun h => absurd h he, hx0⟩, fun _ => rfl⟩
      · rename_i he
        have he : x.e = 0 := by simpa using he
        split at h
        · cases h; exact ⟨⟨fun _ => ⟨Nat.le_refl _, hx he, by omega⟩, fun h => absurd he h⟩, fun h => absurd he h⟩
        · obtain ⟨y, hy, hr⟩ := Option.bind_eq_some_iff.1 h
          have hk := ih2 _ _ _ _ hy
          refine ⟨?_, fun h => absurd he h⟩
          split at hr
          · rename_i hye
            cases hr
            exact ⟨fun h => absurd h hye, hk.2⟩
          · rename_i hye
            have hye : y.e = 0 := by simpa using hye
            have hj := join_ok hk hye
            split at hr
            · cases hr
              exact ⟨fun _ => hj, fun h => absurd rfl h⟩
            · have := (ih3 _ _ _ _ _ (fun _ => hj.2.1) (fun h => absurd rfl h) hr).1
              refine ⟨fun h0 => ?_, this.2⟩
              have := this.1 h0
              omega
theorem P_total (toks : List Tok) : ∀ (f : Nat), (∀ p d, 3 * (toks.length - p) + 1 ≤ f → ∃ r, P toks f (.one p d) = some r) ∧ (∀ n p d, 3 * (toks.length - p) + 2 ≤ f → ∃ r, P toks f (.lev n p d) = some r) ∧
    (∀ n m d x, 1 ≤ f → (x.e = 0 → 3 * (toks.length - x.at_) + 1 ≤ f) → ∃ r, P toks f (.loop n m d x) = some r) := by
  intro f
  induction f with
  | zero => exact ⟨fun _ _ h => by omega, fun _ _ _ h => by omega, fun _ _ _ _ h => by omega⟩
  | succ f ih =>
    obtain ⟨ih1, ih2, ih3⟩ := ih
    obtain ⟨k1, k2, k3⟩ := P_ok toks f
    refine ⟨fun p d h => ?_, fun n p d h => ?_, fun n m d x _ h => ?_⟩
    · simp only [P]
      unfold oneStep
      split
      · exact ⟨_, rfl⟩
      · split
        · exact ⟨_, rfl⟩
        · split
          · rename_i c
            have := T_lt (toks := toks) (p := p) (by rw [c.1]; decide)
            split
            · exact ⟨_, rfl⟩
            · obtain ⟨x, hx⟩ := ih1 (p + 1) (d + 1) (by omega)
              exact ⟨_, Option.map_eq_some_iff.2 ⟨x, hx, rfl⟩⟩
          · split
            · rename_i c
              have := T_lt (toks := toks) (p := p) (by rw [c.1]; decide)
              split
              · exact ⟨_, rfl⟩
              · obtain ⟨x, hx⟩ := ih2 1 (p + 1) (d + 1) (by omega)
                exact ⟨_, Option.map_eq_some_iff.2 ⟨x, hx, rfl⟩⟩
            · exact ⟨_, rfl⟩
    · rw [P]
      obtain ⟨x, hx⟩ := ih1 p d (by omega)
      obtain ⟨r, hr⟩ := ih3 n 6 d x (by omega) (fun he => by have := (k1 _ _ _ hx).1 he; omega)
      exact ⟨r, by rw [hx]; exact hr⟩
    · rw [P]
      split
      · exact ⟨_, rfl⟩
      · rename_i he
        have he : x.e = 0 := by simpa using he
        have h := h he
        split
        · exact ⟨_, rfl⟩
        · rename_i hm
          have hlt := mine_lt (toks := toks) (p := x.at_) (by omega)
          obtain ⟨y, hy⟩ := ih2 (mine toks x.at_ + 1) (x.at_ + 1) d (by omega)
          rw [hy]
          show ∃ r, (if y.e ≠ 0 then some y else _) = some r
          split
          · exact ⟨_, rfl⟩
          · rename_i hye
            have hye : y.e = 0 := by simpa using hye
            have := (k2 _ _ _ _ hy).1 hye
            exact ih3 _ _ _ _ (by omega) (fun _ => by simp only [join]; omega)
end Go.Tm
namespace Go.Proofs.Ytdbdkdmgfiiljaa
open Go.Vc
def R10_Signs_wp (K : Value → World → Prop) (w : World) : Prop :=
  ∀ (b : Nat) (w1 : World), b = w.heap.size → w1 = w.alloc (.cells #[.string (mkS [124, 124])] 9) →
  ∀ (b1 : Nat) (w2 : World), b1 = w1.heap.size → w2 = w1.alloc (.cells #[.string (mkS [38, 38])] 9) →
  ∀ (b2 : Nat) (w3 : World), b2 = w2.heap.size → w3 = w2.alloc (.cells #[.string (mkS [61, 61]), .string (mkS [33, 61]), .string (mkS [60]), .string (mkS [60, 61]), .string (mkS [62]), .string (mkS [62, 61])] 9) →
  ∀ (b3 : Nat) (w4 : World), b3 = w3.heap.size → w4 = w3.alloc (.cells #[.string (mkS [43]), .string (mkS [45])] 9) →
  ∀ (b4 : Nat) (w5 : World), b4 = w4.heap.size → w5 = w4.alloc (.cells #[.string (mkS [42]), .string (mkS [47]), .string (mkS [37])] 9) →
  ∀ (b5 : Nat) (w6 : World), b5 = w5.heap.size → w6 = w5.alloc (.cells #[.slice (some ⟨b, 0, none⟩) 1 1, .slice (some ⟨b1, 0, none⟩) 1 1, .slice (some ⟨b2, 0, none⟩) 6 6, .slice (some ⟨b3, 0, none⟩) 2 2, .slice (some ⟨b4, 0, none⟩) 3 3] 69) →
  K (.slice (some ⟨b5, 0, none⟩) 5 5) w6
theorem R10_Signs_ok (K : Value → World → Prop) (w : World) (h : R10_Signs_wp K w) : Calls Try.prog 104 #[] w (Ret K) :=
  calls_of {} Try.func104 (by kernel_rfl) h
def R10_Op_wp (s : List UInt8) (K : Value → World → Prop) (w : World) : Prop :=
  ∀ (b : Nat) (w1 : World), b = w.heap.size → w1 = w.alloc (.cells #[.string (mkS [43]), .string (mkS [45]), .string (mkS [42]), .string (mkS [47]), .string (mkS [37]), .string (mkS [61, 61]), .string (mkS [33, 61]), .string (mkS [60]), .string (mkS [60, 61]), .string (mkS [62]), .string (mkS [62, 61]), .string (mkS [38, 38]), .string (mkS [124, 124])] 9) →
  ∃ (I : Int → World → Prop) (m : Int → World → Nat), I 0 w1 ∧
  ∀ (_g : Nat → Value) (i : Int) (w2 : World), I i w2 →
  cond (decide (i < (13 : Int)))
    (((0 : Int) ≤ i ∧ i < (13 : Int)) ∧
    ∃ (x : List UInt8), w2.cell? ((⟨b, 0, none⟩ : Addr).add (i.toNat * 1)) = some (.string (mkS x)) ∧
    cond (x == s)
      (K (.int .i64 (IntKind.i64.wrap ((5 : Int) + i))) w2)
      (I (IntKind.i64.wrap (i + 1)) w2 ∧ m (IntKind.i64.wrap (i + 1)) w2 < m i w2))
    (K (.int .i64 0) w2)
theorem R10_Op_ok (s : List UInt8) (K : Value → World → Prop) (w : World) (h : R10_Op_wp s K w) : Calls Try.prog 102 #[.string (mkS s)] w (Ret K) :=
  calls_of { loops := [(58, [(4, .int .i64)])] } Try.func102 (by kernel_rfl) h
def R10_Level_wp (op : Int) (K : Value → World → Prop) (w : World) : Prop :=
  ∀ (_g : Nat → Value),
  cond (((op == 1) || (op == 2)))
    (K (.int .i64 7) w)
    (∀ (_g1 : Nat → Value),
    cond (((op == 3) || (op == 4)))
      (K (.int .i64 6) w)
      (Calls Try.prog 104 #[] w (Ret fun v w1 => -- retraceref10.Signs
        ∃ (lA : Option Addr) (lN : Nat) (lC : Nat), v = .slice lA lN lC ∧
        ∃ (I : Int → World → Prop) (m : Int → World → Nat), I 0 w1 ∧
        ∀ (_g2 : Nat → Value) (i : Int) (w2 : World), I i w2 →
        cond (decide (i < (lN : Int)))
          (∃ (I1 : Int → World → Prop) (m1 : Int → World → Nat), I1 0 w2 ∧
          ∀ (_g3 : Nat → Value) (k : Int) (w3 : World), I1 k w3 →
          ((0 : Int) ≤ i ∧ i < (lN : Int)) ∧
          ptrOr lA (fun a =>
            ∃ (xA : Option Addr) (xN : Nat) (xC : Nat), w3.cell? (a.add (i.toNat * 1)) = some (.slice xA xN xC) ∧
            cond (decide (k < (xN : Int)))
              (((0 : Int) ≤ i ∧ i < (lN : Int)) ∧
              ptrOr lA (fun a1 =>
                ∃ (xA1 : Option Addr) (xN1 : Nat) (xC1 : Nat), w3.cell? (a1.add (i.toNat * 1)) = some (.slice xA1 xN1 xC1) ∧
                ((0 : Int) ≤ k ∧ k < (xN1 : Int)) ∧
                ptrOr xA1 (fun a2 =>
                  ∃ (x : List UInt8), w3.cell? (a2.add (k.toNat * 1)) = some (.string (mkS x)) ∧
                  Calls Try.prog 102 #[.string (mkS x)] w3 (Ret fun v1 w4 => -- retraceref10.Op
                    ∃ (x1 : Int), v1 = .int .i64 x1 ∧
                    cond (x1 == op)
                      (K (.int .i64 (IntKind.i64.wrap (i + 1))) w4)
                      (I1 (IntKind.i64.wrap (k + 1)) w4 ∧ m1 (IntKind.i64.wrap (k + 1)) w4 < m1 k w3)))))
              (I (IntKind.i64.wrap (i + 1)) w3 ∧ m (IntKind.i64.wrap (i + 1)) w3 < m i w2)))
          (K (.int .i64 0) w2))))
theorem R10_Level_ok (op : Int) (K : Value → World → Prop) (w : World) (h : R10_Level_wp op K w) : Calls Try.prog 103 #[.int .i64 op] w (Ret K) :=
  calls_of { loops := [(250, [(4, .int .i64)]), (16018, [(5, .int .i64)])], merges := [(12, [11]), (28, [17])] } Try.func103 (by kernel_rfl) h
end Go.Proofs.Ytdbdkdmgfiiljaa
namespace Go.Proofs.Ytdbdkdmgfiiljaa
open Go.Vc Go.Tk Go.Tm
theorem rOp_spec (s : List UInt8) (w : World) : Calls Try.prog 102 #[.string (mkS s)] w (Ret fun v w' => v = .int .i64 (opOf s) ∧ Ext w w') := by
  refine R10_Op_ok _ _ _ ?_
  intro b w1 hb hw1
  have o := (Own.start w).alloc hb hw1
  have hcells : ∀ k (hk : k < sgs.length), w1.cell? ((⟨b, 0, none⟩ : Addr).add (k * 1)) = some (.string (mkS sgs[k])) := by
    intro k hk
    have hall : CellsAt w1 ⟨b, 0, none⟩ (sgs.map strV) := (o.at 0 rfl).whole
    have := hall k (by simpa using hk)
    rw [Nat.mul_one, this]
    simp [strV]
  refine ⟨fun i w' => w1 = w' ∧ ∃ k : Nat, i = k ∧ k ≤ 13 ∧ opOf s = idx s (sgs.drop k) k, fun i _ => 13 - i.toNat, ⟨rfl, 0, rfl, by omega, rfl⟩, ?_⟩
  rintro _ _ _ ⟨rfl, k, rfl, hk, hop⟩
  refine cond_intro (fun hx => ?_) fun hx => ?_
  · have hlt : k < 13 := by simp at hx; omega
    have hlt' : k < sgs.length := hlt
    have hd : sgs.drop k = sgs[k] :: sgs.drop (k + 1) := List.drop_eq_getElem_cons hlt'
    rw [hd] at hop
    rw [Int.toNat_natCast]
    refine ⟨⟨by omega, by omega⟩, _, hcells k hlt', cond_intro (fun he => ?_) fun he => ?_⟩
    · have he : sgs[k] = s := by simpa using he
      refine ⟨?_, o.done⟩
      rw [hop, idx, if_pos he, wrap_in (by omega) (by omega)]
      simp
    · have he : sgs[k] ≠ s := by simpa using he
      rw [wrap_in (by omega) (by omega)]
      refine ⟨⟨rfl, k + 1, by omega, by omega, ?_⟩, by dsimp only; omega⟩
      rw [hop, idx, if_neg he]
  · have hk : k = 13 := by simp at hx; omega
    subst hk
    exact ⟨by rw [hop]; rfl, o.done⟩
def sgL : List (List (List UInt8)) := [[[124, 124]], [[38, 38]], [[61, 61], [33, 61], [60], [60, 61], [62], [62, 61]], [[43], [45]], [[42], [47], [37]]]
theorem rLevs_spec (w : World) : Calls Try.prog 104 #[] w (Ret fun v w' => ∃ p, v = .slice (some p) 5 5 ∧ (∀ i (hi : i < sgL.length), ∃ q, w'.cell? (p.add (i * 1)) = some (.slice (some q) sgL[i].length sgL[i].length) ∧ CellsAt w' q (sgL[i].map strV)) ∧ Ext w w') := by
  refine R10_Signs_ok _ _ ?_
  intro b w1 hb hw1 b1 w2 hb1 hw2 b2 w3 hb2 hw3 b3 w4 hb3 hw4 b4 w5 hb4 hw5 b5 w6 hb5 hw6
  have o := ((((((Own.start w).alloc hb hw1).alloc hb1 hw2).alloc hb2 hw3).alloc hb3 hw4).alloc hb4 hw5).alloc hb5 hw6
  refine ⟨_, rfl, fun i hi => ?_, o.done⟩
  match i, hi with
  | 0, _ => exact ⟨_, (o.at 0 rfl).whole 0 (by simp), (o.at 5 rfl).whole⟩
  | 1, _ => exact ⟨_, (o.at 0 rfl).whole 1 (by simp), (o.at 4 rfl).whole⟩
  | 2, _ => exact ⟨_, (o.at 0 rfl).whole 2 (by simp), (o.at 3 rfl).whole⟩
  | 3, _ => exact ⟨_, (o.at 0 rfl).whole 3 (by simp), (o.at 2 rfl).whole⟩
  | 4, _ => exact ⟨_, (o.at 0 rfl).whole 4 (by simp), (o.at 1 rfl).whole⟩
  | i + 5, h => exact absurd h (by show ¬ i + 5 < 5; omega)
def opL : List (List Int) := sgL.map fun l => l.map opOf
theorem lev_found : ∀ i (hi : i < opL.length), ∀ x ∈ opL[i], levO x = i + 1 := by decide
theorem lev_none (op : Int) (h1 : op ≠ 1 ∧ op ≠ 2) (h2 : op ≠ 3 ∧ op ≠ 4) (h : ∀ i (hi : i < opL.length), op ∉ opL[i]) : levO op = 0 := by
  have h0 := h 0 (by decide)
  have h1' := h 1 (by decide)
  have h2' := h 2 (by decide)
  have h3' := h 3 (by decide)
  have h4' := h 4 (by decide)
  have e0 : opL[0]'(by decide) = [17] := by decide
  have e1 : opL[1]'(by decide) = [16] := by decide
  have e2 : opL[2]'(by decide) = [10, 11, 12, 13, 14, 15] := by decide
  have e3 : opL[3]'(by decide) = [5, 6] := by decide
  have e4 : opL[4]'(by decide) = [7, 8, 9] := by decide
  rw [e0] at h0; rw [e1] at h1'; rw [e2] at h2'; rw [e3] at h3'; rw [e4] at h4'
  simp at h0 h1' h2' h3' h4'
  unfold levO
  repeat' split
  all_goals omega
theorem rLevel_spec (op : Int) (w : World) : Calls Try.prog 103 #[.int .i64 op] w (Ret fun v w' => v = .int .i64 (levO op : Nat) ∧ Ext w w') := by
  refine R10_Level_ok _ _ _ ?_
  intro _
  refine cond_intro (fun h1 => ?_) fun h1 => ?_
  · refine ⟨?_, Ext.refl _⟩
    simp at h1
    rcases h1 with rfl | rfl <;> rfl
  · simp at h1
    intro _
    refine cond_intro (fun h2 => ?_) fun h2 => ?_
    · refine ⟨?_, Ext.refl _⟩
      simp at h2
      rcases h2 with rfl | rfl <;> rfl
    · simp at h2
      refine call_then (rLevs_spec w) ?_
      rintro _ w1 ⟨p, rfl, hp, he1⟩
      have hlen : ∀ i (hi : i < sgL.length), (opL[i]'(by simpa [opL] using hi)) = sgL[i].map opOf := fun i hi => by simp [opL]
      refine ⟨_, _, _, rfl, fun i w' => ∃ k : Nat, i = k ∧ k ≤ 5 ∧ (∀ j (hj : j < opL.length), j < k → op ∉ opL[j]) ∧ Ext w1 w', fun i _ => 5 - i.toNat, ⟨0, rfl, by omega, fun _ _ h => absurd h (by omega), Ext.refl _⟩, ?_⟩
      rintro _ _ w2 ⟨k, rfl, hk, hno, he2⟩
      refine cond_intro (fun hx => ?_) fun hx => ?_
      · have hlt : k < 5 := by simp at hx; omega
        have hlt' : k < sgL.length := hlt
        have hlto : k < opL.length := hlt
        obtain ⟨q, hq, hqc⟩ := hp k hlt'
        have hsl := (by decide : ∀ i (hi : i < sgL.length), sgL[i].length ≤ 6) k hlt'
        refine ⟨fun i w' => ∃ j : Nat, i = j ∧ j ≤ sgL[k].length ∧ (∀ z (hz : z < sgL[k].length), z < j → opOf sgL[k][z] ≠ op) ∧ Ext w1 w', fun i _ => sgL[k].length - i.toNat, ⟨0, rfl, by omega, fun _ _ h => absurd h (by omega), he2⟩, ?_⟩
        rintro _ _ w3 ⟨j, rfl, hj, hnj, he3⟩
        rw [Int.toNat_natCast]
        refine ⟨⟨by omega, by omega⟩, _, _, _, he3.cell hq, cond_intro (fun hy => ?_) fun hy => ?_⟩
        · have hjl : j < sgL[k].length := Int.ofNat_lt.1 (of_decide_eq_true hy)
          have hc := he3.cell (hqc j (by rw [List.length_map]; exact hjl))
          simp only [List.getElem_map, strV] at hc
          rw [Int.toNat_natCast]
          refine ⟨⟨by omega, by omega⟩, _, _, _, he3.cell hq, ⟨by omega, by omega⟩, _, by rw [Nat.mul_one]; exact hc, call_then (rOp_spec _ w3) ?_⟩
          rintro _ w4 ⟨rfl, he4⟩
          refine ⟨_, rfl, cond_intro (fun ho => ?_) fun ho => ?_⟩
          · have ho : opOf sgL[k][j] = op := eq_of_beq ho
            refine ⟨?_, (he1.trans he3).trans he4⟩
            rw [wrap_in (by omega) (by omega), lev_found k hlto op (by rw [hlen k hlt', ← ho]; exact List.mem_map_of_mem (List.getElem_mem hjl))]
            simp
          · have ho : opOf sgL[k][j] ≠ op := beq_eq_false_iff_ne.1 ho
            rw [wrap_in (by omega) (by omega)]
            refine ⟨⟨j + 1, by omega, by omega, fun z hz hzj => ?_, he3.trans he4⟩, by dsimp only; omega⟩
            rcases Nat.lt_or_ge z j with h | h
            · exact hnj z hz h
            · obtain rfl : z = j := by omega
              exact ho
        · have hjl : j = sgL[k].length := by have := of_decide_eq_false hy; omega
          rw [wrap_in (by omega) (by omega)]
          refine ⟨⟨k + 1, by omega, by omega, fun z hz hzk => ?_, he3⟩, by dsimp only; omega⟩
          rcases Nat.lt_or_ge z k with h | h
          · exact hno z hz h
          · obtain rfl : z = k := by omega
            rw [hlen z hlt']
            intro hm
            obtain ⟨y, hy1, hy2⟩ := List.mem_map.1 hm
            obtain ⟨u, hu, rfl⟩ := List.getElem_of_mem hy1
            exact hnj u hu (by omega) hy2
      · have hk : k = 5 := by simp at hx; omega
        refine ⟨?_, he1.trans he2⟩
        rw [lev_none op h1 h2 (fun i hi => hno i hi (by have : i < 5 := hi; omega))]
        rfl
theorem sl_nd : SlTy Try.prog 23 39 5 48 := ⟨Try.t39, .agg #[.int .i64 0, .string (mkS []), .int .i64 0, .int .i64 0, .int .i64 0], by kernel_rfl, by kernel_rfl, by kernel_rfl, by kernel_rfl, by kernel_rfl, by kernel_rfl, by decide⟩
theorem ndC_one (l : List Nd) : ∀ u ∈ flat ndC l, u.oneCell' = true := by
  intro u hu
  simp only [flat, List.mem_flatMap] at hu
  obtain ⟨x, _, hu⟩ := hu
  simp only [ndC, List.mem_cons, List.not_mem_nil, or_false] at hu
  rcases hu with rfl | rfl | rfl | rfl | rfl <;> rfl
theorem fresh_off {a : Option Addr} {n b : Nat} (h : ∀ k, blk a = some k → n ≤ k) (hb : b < n) (xs : List Value) : Off a xs b := .inr fun e => by have := h b e; omega
theorem none_fresh {n : Nat} : ∀ k, blk (none : Option Addr) = some k → n ≤ k := fun k h => by cases h
theorem box_fresh {b n : Nat} (h : n ≤ b) : ∀ k, blk (some ⟨b, 0, none⟩ : Option Addr) = some k → n ≤ k := fun k e => by cases e; exact h
theorem alloc_size {w w' : World} {o : Obj} (h : w' = w.alloc o) : w'.heap.size = w.heap.size + 1 := by
  subst h; show (Array.push _ _).size = _; simp
end Go.Proofs.Ytdbdkdmgfiiljaa
namespace Go.Vc
open Go.RowKit (Below)
def entsFrom : Nat → List (List UInt8 × Value) → List MapEntry
  | _, [] => []
  | i, (k, v) :: l => { key := .string (mkS k), val := v, born := i } :: entsFrom (i + 1) l
def MapAt (w : World) (b : Nat) (kvs : List (List UInt8 × Value)) : Prop := w.heap[b]? = some (.map (entsFrom 0 kvs).toArray kvs.length)
def getK (kvs : List (List UInt8 × Value)) (s : List UInt8) : Option Value := (kvs.find? (·.1 == s)).map (·.2)
theorem entsFrom_snoc : ∀ (l : List (List UInt8 × Value)) (i : Nat) (k : List UInt8) (v : Value), entsFrom i (l ++ [(k, v)]) = entsFrom i l ++ [{ key := .string (mkS k), val := v, born := i + l.length }]
  | [], i, k, v => by simp [entsFrom]
  | (a, b) :: l, i, k, v => by
    simp only [List.cons_append, entsFrom, entsFrom_snoc l (i + 1) k v, List.length_cons]
    rw [show i + 1 + l.length = i + (l.length + 1) by omega]
theorem sameNow_str (a b : List UInt8) : Instr.sameNow .string (.string (mkS a)) (.string (mkS b)) = some (b == a) := by
  have h : (mkS a == mkS b) = (b == a) := by
    have h2 : (mkS a == mkS b) = ((mkS a).data == (mkS b).data) := by rfl
    rw [h2, Bool.eq_iff_iff]
    simp [mkS]
    exact ⟨fun h => h.symm, fun h => h.symm⟩
  simp only [Instr.sameNow, h]
theorem findNow_some (s : List UInt8) : ∀ (l : List (List UInt8 × Value)) (i j : Nat), (getK l s = none → Instr.findNow .string (.string (mkS s)) (entsFrom j l) i = some none) ∧ (∀ v, getK l s = some v → ∃ k, Instr.findNow .string (.string (mkS s)) (entsFrom j l) i = some (some (k, v)))
  | [], i, j => ⟨fun _ => rfl, fun v h => by cases h⟩
  | (a, b) :: l, i, j => by
    unfold entsFrom Instr.findNow
    simp only [sameNow_str]
    unfold getK
    rw [List.find?_cons]
    cases h : (a == s) with
    | true => exact ⟨fun h => (by cases h), fun v hv => ⟨i, by simp at hv; rw [hv]⟩⟩
    | false => exact findNow_some s l (i + 1) (j + 1)
theorem MapAt.ext {w w' : World} {b : Nat} {kvs : List (List UInt8 × Value)} (h : MapAt w b kvs) (e : Ext w w') : MapAt w' b kvs := e.block h
theorem MapAt.new {w w' : World} {b : Nat} (hb : b = w.heap.size) (hw : w' = w.alloc (.map #[] 0)) : MapAt w' b [] := by
  subst hb hw
  show (w.heap.push _)[w.heap.size]? = _
  simp [entsFrom]
theorem MapAt.add {P : Program} {w : World} {b : Nat} {kvs : List (List UInt8 × Value)} (h : MapAt w b kvs) {t kt et : TypeId} (ht : P.underlying t = some (.map kt et)) (hk : P.underlying kt = some .string) {s : List UInt8} {v : Value} (hs : getK kvs s = none)
    {K : Unit → World → Prop} (hK : ∀ w', MapAt w' b (kvs ++ [(s, v)]) → w.grownBy w' (some b) → K () w') : SemOk P (Instr.mapUpdate t (.map (some b)) (.string (mkS s)) v) K w := by
  have hf := (findNow_some s kvs 0 0).1 hs
  have hc : (Instr.checkKey false 10000 kt (.string (mkS s))).run P w = .ok () w := MapKept.run_checkKey (k := .string (mkS s)) hk (by simp [MapKept.IsKey]) false 9999
  refine ⟨(), { w with heap := w.heap.setIfInBounds b (.map (entsFrom 0 (kvs ++ [(s, v)])).toArray (kvs.length + 1)) }, ?_, hK _ ?_ ?_⟩
  · simp [Instr.mapUpdate, run_underlying ht, MapKept.run_getObj_map h, hc, MapKept.run_findKey hk hf, MapKept.run_setObj_map _ h, Result.andThen, entsFrom_snoc]
  · have := (MapKept.heap_set (o' := .map (entsFrom 0 (kvs ++ [(s, v)])).toArray (kvs.length + 1)) h).1
    unfold MapAt
    simpa using this
  · exact ⟨rfl, rfl, rfl, by simp, fun k _ hr => (MapKept.heap_set h).2 k (fun e => hr (by rw [e]))⟩
theorem MapAt.get {P : Program} {w : World} {b : Nat} {kvs : List (List UInt8 × Value)} (h : MapAt w b kvs) {t kt et : TypeId} (ht : P.underlying t = some (.map kt et)) (hk : P.underlying kt = some .string) {z : Value} (hz : (zeroValue et).run P w = .ok z w) (s : List UInt8)
    {K : Value → World → Prop} (hK : K ((getK kvs s).getD z) w) : SemOk P (Instr.lookup t (.map (some b)) (.string (mkS s)) false) K w := by
  have hf := findNow_some s kvs 0 0
  have hc : ∀ e, (Instr.checkKey e 10000 kt (.string (mkS s))).run P w = .ok () w := fun e => MapKept.run_checkKey (k := .string (mkS s)) hk (by simp [MapKept.IsKey]) e 9999
  refine ⟨_, w, ?_, hK⟩
  cases hg : getK kvs s with
  | none =>
    have := hf.1 hg
    simp [Instr.lookup, run_underlying ht, MapKept.run_getObj_map h, hc, MapKept.run_findKey hk this, Result.andThen, hz]
  | some v =>
    obtain ⟨k, this⟩ := hf.2 v hg
    simp [Instr.lookup, run_underlying ht, MapKept.run_getObj_map h, hc, MapKept.run_findKey hk this, Result.andThen]
end Go.Vc
namespace Go.Proofs.Ytdbdkdmgfiiljaa
open Go.Vc
def term_reader_now_wp (r : Addr) (K : Value → World → Prop) (w : World) : Prop :=
  ∀ (b : Nat) (w1 : World), b = w.heap.size → w1 = w.alloc (.cells #[.int .i64 0, .string (mkS []), .int .i64 0, .int .i64 0] 44) →
  ∀ w2 : World, w2 = w1.drew →
  ∃ (x : Int), w2.cell? (r.add 1) = some (.int .i64 x) ∧
  ∃ (xA : Option Addr) (xN : Nat) (xC : Nat), w2.cell? r = some (.slice xA xN xC) ∧
  cond (decide (x < (xN : Int)))
    (∀ w3 : World, w3 = w2.drew →
    ∃ (S : World → Prop), S w3 ∧
    ∃ (xA1 : Option Addr) (xN1 : Nat) (xC1 : Nat), (∀ u : World, S u → u.cell? r = some (.slice xA1 xN1 xC1)) ∧
    ∃ (x1 : Int), (∀ u : World, S u → u.cell? (r.add 1) = some (.int .i64 x1)) ∧
    ((0 : Int) ≤ x1 ∧ x1 < (xN1 : Int)) ∧
    ptrOr xA1 (fun a =>
      ∃ (xKind : Int) (xText : List UInt8) (xN2 : Int) (xAt : Int), (∀ u : World, S u → CellsAt u (a.add (x1.toNat * 4)) [.int .i64 xKind, .string (mkS xText), .int .i64 xN2, .int .i64 xAt]) ∧
      Writable w3 ⟨b, 0, none⟩ 4 ∧ ∀ w4 : World, w4 = setCells w3 ⟨b, 0, none⟩ [.int .i64 xKind, .string (mkS xText), .int .i64 xN2, .int .i64 xAt] →
      ∃ (rKind : Int) (rText : List UInt8) (rN : Int) (rAt : Int), CellsAt w4 ⟨b, 0, none⟩ [.int .i64 rKind, .string (mkS rText), .int .i64 rN, .int .i64 rAt] ∧
      K (.agg #[.int .i64 rKind, .string (mkS rText), .int .i64 rN, .int .i64 rAt]) w4))
    (Writable w2 ⟨b, 0, none⟩ 4 ∧ ∀ w5 : World, w5 = setCells w2 ⟨b, 0, none⟩ [.int .i64 0, .string (mkS []), .int .i64 0, .int .i64 0] →
    ∃ (rKind1 : Int) (rText1 : List UInt8) (rN1 : Int) (rAt1 : Int), CellsAt w5 ⟨b, 0, none⟩ [.int .i64 rKind1, .string (mkS rText1), .int .i64 rN1, .int .i64 rAt1] ∧
    K (.agg #[.int .i64 rKind1, .string (mkS rText1), .int .i64 rN1, .int .i64 rAt1]) w5)
theorem term_reader_now_ok (r : Addr) (K : Value → World → Prop) (w : World) (h : term_reader_now_wp r K w) : Calls Try.prog 95 #[.pointer (some r)] w (Ret K) :=
  calls_of {} Try.func95 (by kernel_rfl) h
def term_reader_is_wp (r : Addr) (s : List UInt8) (K : Value → World → Prop) (w : World) : Prop :=
  Calls Try.prog 95 #[.pointer (some r)] w (Ret fun v w1 => -- (*term.reader).now
    ∃ (xKind : Int) (xText : List UInt8) (xN : Int) (xAt : Int), v = .agg #[.int .i64 xKind, .string (mkS xText), .int .i64 xN, .int .i64 xAt] ∧
    cond (xKind == 4)
      (Calls Try.prog 95 #[.pointer (some r)] w1 (Ret fun v1 w2 => -- (*term.reader).now
        ∃ (xKind1 : Int) (xText1 : List UInt8) (xN1 : Int) (xAt1 : Int), v1 = .agg #[.int .i64 xKind1, .string (mkS xText1), .int .i64 xN1, .int .i64 xAt1] ∧
        K (.bool (xText1 == s)) w2))
      (K (.bool false) w1))
theorem term_reader_is_ok (r : Addr) (s : List UInt8) (K : Value → World → Prop) (w : World) (h : term_reader_is_wp r s K w) : Calls Try.prog 98 #[.pointer (some r), .string (mkS s)] w (Ret K) :=
  calls_of {} Try.func98 (by kernel_rfl) h
def term_below_one_wp (r : Addr) (K : Value → World → Prop) (w : World) : Prop :=
  ∃ (x : Int), w.cell? (r.add 2) = some (.int .i64 x) ∧
  cond (x == 24)
    (Writable w (r.add 3) 1 ∧ ∀ w1 : World, w1 = w.setCell (r.add 3) (.int .i64 5) →
    K (.slice none 0 0) w1)
    (∃ (x1 : Int), w.cell? (r.add 2) = some (.int .i64 x1) ∧
    Writable w (r.add 2) 1 ∧ ∀ w2 : World, w2 = w.setCell (r.add 2) (.int .i64 (IntKind.i64.wrap (x1 + 1))) →
    ∃ (x2 : Int), w2.cell? (r.add 1) = some (.int .i64 x2) ∧
    Writable w2 (r.add 1) 1 ∧ ∀ w3 : World, w3 = w2.setCell (r.add 1) (.int .i64 (IntKind.i64.wrap (x2 + 1))) →
    Calls Try.prog 94 #[.pointer (some r)] w3 (Ret fun v w4 => -- (*term.reader).one
      ∃ (lA : Option Addr) (lN : Nat) (lC : Nat), v = .slice lA lN lC ∧
      ∃ (x3 : Int), w4.cell? (r.add 2) = some (.int .i64 x3) ∧
      Writable w4 (r.add 2) 1 ∧ ∀ w5 : World, w5 = w4.setCell (r.add 2) (.int .i64 (IntKind.i64.wrap (x3 - 1))) →
      K (.slice lA lN lC) w5))
theorem term_below_one_ok (r : Addr) (K : Value → World → Prop) (w : World) (h : term_below_one_wp r K w) : Calls Try.prog 99 #[.pointer (some r), .func (.func 94) #[.pointer (some r)] #[]] w (Ret K) :=
  calls_of {} Try.func99 (by kernel_rfl) h
def term_below_from_wp (r : Addr) (q : Addr) (K : Value → World → Prop) (w : World) : Prop :=
  ∃ (x : Int), w.cell? (r.add 2) = some (.int .i64 x) ∧
  cond (x == 24)
    (Writable w (r.add 3) 1 ∧ ∀ w1 : World, w1 = w.setCell (r.add 3) (.int .i64 5) →
    K (.slice none 0 0) w1)
    (∃ (x1 : Int), w.cell? (r.add 2) = some (.int .i64 x1) ∧
    Writable w (r.add 2) 1 ∧ ∀ w2 : World, w2 = w.setCell (r.add 2) (.int .i64 (IntKind.i64.wrap (x1 + 1))) →
    ∃ (x2 : Int), w2.cell? (r.add 1) = some (.int .i64 x2) ∧
    Writable w2 (r.add 1) 1 ∧ ∀ w3 : World, w3 = w2.setCell (r.add 1) (.int .i64 (IntKind.i64.wrap (x2 + 1))) →
    Calls Try.prog 100 #[.pointer (some q)] w3 (Ret fun v w4 => -- (*term.reader).one$1
      ∃ (lA : Option Addr) (lN : Nat) (lC : Nat), v = .slice lA lN lC ∧
      ∃ (x3 : Int), w4.cell? (r.add 2) = some (.int .i64 x3) ∧
      Writable w4 (r.add 2) 1 ∧ ∀ w5 : World, w5 = w4.setCell (r.add 2) (.int .i64 (IntKind.i64.wrap (x3 - 1))) →
      K (.slice lA lN lC) w5))
theorem term_below_from_ok (r : Addr) (q : Addr) (K : Value → World → Prop) (w : World) (h : term_below_from_wp r q K w) : Calls Try.prog 99 #[.pointer (some r), .func (.func 100) #[] #[.pointer (some q)]] w (Ret K) :=
  calls_of {} Try.func99 (by kernel_rfl) h
def term_reader_one_1_wp (p0 : Addr) (K : Value → World → Prop) (w : World) : Prop :=
  ∃ (x : Option Addr), w.cell? p0 = some (.pointer x) ∧
  Calls Try.prog 90 #[.pointer x, .int .i64 1] w (Ret fun v w1 => -- (*term.reader).from
    ∃ (xA : Option Addr) (xN : Nat) (xC : Nat), v = .slice xA xN xC ∧
    K (.slice xA xN xC) w1)
theorem term_reader_one_1_ok (p0 : Addr) (K : Value → World → Prop) (w : World) (h : term_reader_one_1_wp p0 K w) : Calls Try.prog 100 #[.pointer (some p0)] w (Ret K) :=
  calls_of {} Try.func100 (by kernel_rfl) h
def term_reader_one_wp (r : Addr) (K : Value → World → Prop) (w : World) : Prop :=
  ∀ (b : Nat) (w1 : World), b = w.heap.size → w1 = w.alloc (.cells #[.pointer (some r)] 109) →
  ∃ (x : Option Addr), w1.cell? ⟨b, 0, none⟩ = some (.pointer x) ∧
  Calls Try.prog 95 #[.pointer x] w1 (Ret fun v w2 => -- (*term.reader).now
    ∃ (xKind : Int) (xText : List UInt8) (xN : Int) (xAt : Int), v = .agg #[.int .i64 xKind, .string (mkS xText), .int .i64 xN, .int .i64 xAt] ∧
    ∀ (b1 : Nat) (w3 : World), b1 = w2.heap.size → w3 = w2.alloc (.cells #[.int .i64 0, .string (mkS []), .int .i64 0, .int .i64 0] 44) →
    Writable w3 ⟨b1, 0, none⟩ 4 ∧ ∀ w4 : World, w4 = setCells w3 ⟨b1, 0, none⟩ [.int .i64 xKind, .string (mkS xText), .int .i64 xN, .int .i64 xAt] →
    ∃ (x1 : Int), w4.cell? ⟨b1, 0, none⟩ = some (.int .i64 x1) ∧
    cond (x1 == 2)
      (∃ (x2 : Option Addr), w4.cell? ⟨b, 0, none⟩ = some (.pointer x2) ∧
      ptrOr x2 (fun a =>
        ∃ (x3 : Int), w4.cell? (a.add 1) = some (.int .i64 x3) ∧
        ptrOr x2 (fun a1 =>
          Writable w4 (a1.add 1) 1 ∧ ∀ w5 : World, w5 = w4.setCell (a1.add 1) (.int .i64 (IntKind.i64.wrap (x3 + 1))) →
          ∃ (x4 : Int), w5.cell? ⟨b1, 2, none⟩ = some (.int .i64 x4) ∧
          ∃ (x5 : Int), w5.cell? ⟨b1, 3, none⟩ = some (.int .i64 x5) ∧
          ∀ (b2 : Nat) (w6 : World), b2 = w5.heap.size → w6 = w5.alloc (.cells #[.int .i64 1, .string (mkS []), .int .i64 x4, .int .i64 0, .int .i64 x5] 39) →
          K (.slice (some ⟨b2, 0, none⟩) 1 1) w6)))
      (∃ (x6 : Int), w4.cell? ⟨b1, 0, none⟩ = some (.int .i64 x6) ∧
      cond (x6 == 1)
        (∃ (x7 : Option Addr), w4.cell? ⟨b, 0, none⟩ = some (.pointer x7) ∧
        ptrOr x7 (fun a2 =>
          ∃ (x8 : Int), w4.cell? (a2.add 1) = some (.int .i64 x8) ∧
          ptrOr x7 (fun a3 =>
            Writable w4 (a3.add 1) 1 ∧ ∀ w7 : World, w7 = w4.setCell (a3.add 1) (.int .i64 (IntKind.i64.wrap (x8 + 1))) →
            ∃ (x9 : List UInt8), w7.cell? ⟨b1, 1, none⟩ = some (.string (mkS x9)) ∧
            ∃ (x10 : Int), w7.cell? ⟨b1, 3, none⟩ = some (.int .i64 x10) ∧
            ∀ (b3 : Nat) (w8 : World), b3 = w7.heap.size → w8 = w7.alloc (.cells #[.int .i64 2, .string (mkS x9), .int .i64 0, .int .i64 0, .int .i64 x10] 39) →
            K (.slice (some ⟨b3, 0, none⟩) 1 1) w8)))
        (∃ (J : Bool → World → Prop),
        (∃ (x11 : Option Addr), w4.cell? ⟨b, 0, none⟩ = some (.pointer x11) ∧
          Calls Try.prog 98 #[.pointer x11, .string (mkS [45])] w4 (Ret fun v1 w9 => -- (*term.reader).is
            ∃ (x12 : Bool), v1 = .bool x12 ∧
            cond (x12)
              (J x12 w9)
              (∃ (x13 : Option Addr), w9.cell? ⟨b, 0, none⟩ = some (.pointer x13) ∧
              Calls Try.prog 98 #[.pointer x13, .string (mkS [33])] w9 (Ret fun v2 w10 => -- (*term.reader).is
                ∃ (x14 : Bool), v2 = .bool x14 ∧
                J x14 w10)))) ∧
        ∀ (_g : Nat → Value) (x15 : Bool) (w11 : World), J x15 w11 →
        cond (x15)
          (∃ (J1 : Int → World → Prop),
          (∃ (x16 : List UInt8), w11.cell? ⟨b1, 1, none⟩ = some (.string (mkS x16)) ∧
            cond (x16 == [33])
              (J1 4 w11)
              (J1 3 w11)) ∧
          ∀ (_g1 : Nat → Value) (op : Int) (w12 : World), J1 op w12 →
          ∀ w13 : World, w13 = w12.drew →
          ∃ (S : World → Prop), S w13 ∧
          ∃ (x17 : Int), (∀ u : World, S u → u.cell? ⟨b1, 3, none⟩ = some (.int .i64 x17)) ∧
          ∃ (x18 : Option Addr), (∀ u : World, S u → u.cell? ⟨b, 0, none⟩ = some (.pointer x18)) ∧
          ∃ (x19 : Option Addr), (∀ u : World, S u → u.cell? ⟨b, 0, none⟩ = some (.pointer x19)) ∧
          (∀ (b4 : Nat) (w14 : World), b4 = w13.heap.size → w14 = w13.alloc (.cells #[.int .i64 op, .string (mkS []), .int .i64 0, .int .i64 1, .int .i64 x17] 39) →
          S w14 ∧
          Calls Try.prog 99 #[.pointer x18, .func (.func 94) #[.pointer x19] #[]] w14 (Ret fun v3 w15 => -- (*term.reader).below
            ∃ (xA : Option Addr) (xN1 : Nat) (xC : Nat), v3 = .slice xA xN1 xC ∧
            S w15 ∧
            SemOk Try.prog (Builtin.append_ #[23, 23] 23 #[.slice (some ⟨b4, 0, none⟩) 1 1, .slice xA xN1 xC]) (fun v4 w16 =>
              ∃ (xA1 : Option Addr) (xN2 : Nat) (xC1 : Nat), v4 = .slice xA1 xN2 xC1 ∧
              K (.slice xA1 xN2 xC1) w16) w15)) ∧
          (Calls Try.prog 99 #[.pointer x18, .func (.func 94) #[.pointer x19] #[]] w13 (Ret fun v5 w17 => -- (*term.reader).below
            ∃ (xA2 : Option Addr) (xN3 : Nat) (xC2 : Nat), v5 = .slice xA2 xN3 xC2 ∧
            S w17 ∧
            ∀ (b5 : Nat) (w18 : World), b5 = w17.heap.size → w18 = w17.alloc (.cells #[.int .i64 op, .string (mkS []), .int .i64 0, .int .i64 1, .int .i64 x17] 39) →
            S w18 ∧
            SemOk Try.prog (Builtin.append_ #[23, 23] 23 #[.slice (some ⟨b5, 0, none⟩) 1 1, .slice xA2 xN3 xC2]) (fun v6 w19 =>
              ∃ (xA3 : Option Addr) (xN4 : Nat) (xC3 : Nat), v6 = .slice xA3 xN4 xC3 ∧
              K (.slice xA3 xN4 xC3) w19) w18)))
          (∃ (x20 : Option Addr), w11.cell? ⟨b, 0, none⟩ = some (.pointer x20) ∧
          Calls Try.prog 98 #[.pointer x20, .string (mkS [40])] w11 (Ret fun v7 w20 => -- (*term.reader).is
            ∃ (x21 : Bool), v7 = .bool x21 ∧
            cond (x21)
              (∃ (x22 : Option Addr), w20.cell? ⟨b, 0, none⟩ = some (.pointer x22) ∧
              Calls Try.prog 99 #[.pointer x22, .func (.func 100) #[] #[.pointer (some ⟨b, 0, none⟩)]] w20 (Ret fun v8 w21 => -- (*term.reader).below
                ∃ (lA : Option Addr) (lN : Nat) (lC : Nat), v8 = .slice lA lN lC ∧
                ∃ (J2 : World → Prop),
                (∃ (J3 : Bool → World → Prop),
                  (∃ (x23 : Option Addr), w21.cell? ⟨b, 0, none⟩ = some (.pointer x23) ∧
                    ptrOr x23 (fun a4 =>
                      ∃ (x24 : Int), w21.cell? (a4.add 3) = some (.int .i64 x24) ∧
                      cond (x24 == 0)
                        (∃ (x25 : Option Addr), w21.cell? ⟨b, 0, none⟩ = some (.pointer x25) ∧
                        Calls Try.prog 98 #[.pointer x25, .string (mkS [41])] w21 (Ret fun v9 w22 => -- (*term.reader).is
                          ∃ (x26 : Bool), v9 = .bool x26 ∧
                          J3 (!x26) w22))
                        (J3 false w21))) ∧
                  ∀ (_g2 : Nat → Value) (x27 : Bool) (w23 : World), J3 x27 w23 →
                  cond (x27)
                    (∃ (x28 : Option Addr), w23.cell? ⟨b, 0, none⟩ = some (.pointer x28) ∧
                    ptrOr x28 (fun a5 =>
                      Writable w23 (a5.add 3) 1 ∧ ∀ w24 : World, w24 = w23.setCell (a5.add 3) (.int .i64 11) →
                      J2 w24))
                    (J2 w23)) ∧
                ∀ (_g3 : Nat → Value) (w25 : World), J2 w25 →
                ∃ (x29 : Option Addr), w25.cell? ⟨b, 0, none⟩ = some (.pointer x29) ∧
                ptrOr x29 (fun a6 =>
                  ∃ (x30 : Int), w25.cell? (a6.add 3) = some (.int .i64 x30) ∧
                  cond (x30 == 0)
                    (∃ (x31 : Option Addr), w25.cell? ⟨b, 0, none⟩ = some (.pointer x31) ∧
                    ptrOr x31 (fun a7 =>
                      ∃ (x32 : Int), w25.cell? (a7.add 1) = some (.int .i64 x32) ∧
                      ptrOr x31 (fun a8 =>
                        Writable w25 (a8.add 1) 1 ∧ ∀ w26 : World, w26 = w25.setCell (a8.add 1) (.int .i64 (IntKind.i64.wrap (x32 + 1))) →
                        K (.slice lA lN lC) w26)))
                    (K (.slice lA lN lC) w25))))
              (∃ (x33 : Option Addr), w20.cell? ⟨b, 0, none⟩ = some (.pointer x33) ∧
              ptrOr x33 (fun a9 =>
                Writable w20 (a9.add 3) 1 ∧ ∀ w27 : World, w27 = w20.setCell (a9.add 3) (.int .i64 11) →
                K (.slice none 0 0) w27)))))))
theorem term_reader_one_ok (r : Addr) (K : Value → World → Prop) (w : World) (h : term_reader_one_wp r K w) : Calls Try.prog 94 #[.pointer (some r)] w (Ret K) :=
  calls_of { cuts := [(463, [(42, .bool)]), (3709, [(4, .int .i64)]), (14845, []), (29690, [(75, .bool)])] } Try.func94 (by kernel_rfl) h
def term_binary_wp (K : Value → World → Prop) (w : World) : Prop :=
  ∀ (b : Nat) (w1 : World), b = w.heap.size → w1 = w.alloc (.map #[] 0) →
  SemOk Try.prog (Instr.mapUpdate 104 (.map (some b)) (.string (mkS [124, 124])) (.int .i64 17)) (fun _ w2 =>
    SemOk Try.prog (Instr.mapUpdate 104 (.map (some b)) (.string (mkS [38, 38])) (.int .i64 16)) (fun _ w3 =>
      SemOk Try.prog (Instr.mapUpdate 104 (.map (some b)) (.string (mkS [61, 61])) (.int .i64 10)) (fun _ w4 =>
        SemOk Try.prog (Instr.mapUpdate 104 (.map (some b)) (.string (mkS [33, 61])) (.int .i64 11)) (fun _ w5 =>
          SemOk Try.prog (Instr.mapUpdate 104 (.map (some b)) (.string (mkS [60])) (.int .i64 12)) (fun _ w6 =>
            SemOk Try.prog (Instr.mapUpdate 104 (.map (some b)) (.string (mkS [60, 61])) (.int .i64 13)) (fun _ w7 =>
              SemOk Try.prog (Instr.mapUpdate 104 (.map (some b)) (.string (mkS [62])) (.int .i64 14)) (fun _ w8 =>
                SemOk Try.prog (Instr.mapUpdate 104 (.map (some b)) (.string (mkS [62, 61])) (.int .i64 15)) (fun _ w9 =>
                  SemOk Try.prog (Instr.mapUpdate 104 (.map (some b)) (.string (mkS [43])) (.int .i64 5)) (fun _ w10 =>
                    SemOk Try.prog (Instr.mapUpdate 104 (.map (some b)) (.string (mkS [45])) (.int .i64 6)) (fun _ w11 =>
                      SemOk Try.prog (Instr.mapUpdate 104 (.map (some b)) (.string (mkS [42])) (.int .i64 7)) (fun _ w12 =>
                        SemOk Try.prog (Instr.mapUpdate 104 (.map (some b)) (.string (mkS [47])) (.int .i64 8)) (fun _ w13 =>
                          SemOk Try.prog (Instr.mapUpdate 104 (.map (some b)) (.string (mkS [37])) (.int .i64 9)) (fun _ w14 =>
                            K (.map (some b)) w14) w13) w12) w11) w10) w9) w8) w7) w6) w5) w4) w3) w2) w1
theorem term_binary_ok (K : Value → World → Prop) (w : World) (h : term_binary_wp K w) : Calls Try.prog 93 #[] w (Ret K) :=
  calls_of {} Try.func93 (by kernel_rfl) h
def term_Level_wp (op : Int) (K : Value → World → Prop) (w : World) : Prop :=
  cond (op == 17)
    (K (.int .i64 1) w)
    (cond (op == 16)
      (K (.int .i64 2) w)
      (∀ (_g : Nat → Value),
      cond (((decide (op ≥ 10)) && (decide (op ≤ 15))))
        (K (.int .i64 3) w)
        (∀ (_g1 : Nat → Value),
        cond (((op == 5) || (op == 6)))
          (K (.int .i64 4) w)
          (∀ (_g2 : Nat → Value),
          cond (((decide (op ≥ 7)) && (decide (op ≤ 9))))
            (K (.int .i64 5) w)
            (∀ (_g3 : Nat → Value),
            cond (((op == 3) || (op == 4)))
              (K (.int .i64 6) w)
              (∀ (_g4 : Nat → Value),
              cond (((op == 1) || (op == 2)))
                (K (.int .i64 7) w)
                (K (.int .i64 0) w)))))))
theorem term_Level_ok (op : Int) (K : Value → World → Prop) (w : World) (h : term_Level_wp op K w) : Calls Try.prog 96 #[.int .i64 op] w (Ret K) :=
  calls_of { merges := [(414, [9]), (1662, [16]), (6654, [23]), (26622, [30]), (106494, [37])] } Try.func96 (by kernel_rfl) h
def term_reader_from_wp (r : Addr) (level : Int) (K : Value → World → Prop) (w : World) : Prop :=
  Calls Try.prog 93 #[] w (Ret fun v w1 => -- term.binary
    ∃ (signs : Option Nat), v = .map signs ∧
    Calls Try.prog 94 #[.pointer (some r)] w1 (Ret fun v1 w2 => -- (*term.reader).one
      ∃ (lA : Option Addr) (lN : Nat) (lC : Nat), v1 = .slice lA lN lC ∧
      ∃ (I : Option Addr → Nat → Nat → Int → World → Prop) (m : Option Addr → Nat → Nat → Int → World → Nat), I lA lN lC 6 w2 ∧
      ∀ (_g : Nat → Value) (lA1 : Option Addr) (lN1 : Nat) (lC1 : Nat) (most : Int) (w3 : World), I lA1 lN1 lC1 most w3 →
      ∃ (x : Int), w3.cell? (r.add 3) = some (.int .i64 x) ∧
      cond (x == 0)
        (Calls Try.prog 95 #[.pointer (some r)] w3 (Ret fun v2 w4 => -- (*term.reader).now
          ∃ (xKind : Int) (xText : List UInt8) (xN : Int) (xAt : Int), v2 = .agg #[.int .i64 xKind, .string (mkS xText), .int .i64 xN, .int .i64 xAt] ∧
          ∀ (b : Nat) (w5 : World), b = w4.heap.size → w5 = w4.alloc (.cells #[.int .i64 0, .string (mkS []), .int .i64 0, .int .i64 0] 44) →
          Writable w5 ⟨b, 0, none⟩ 4 ∧ ∀ w6 : World, w6 = setCells w5 ⟨b, 0, none⟩ [.int .i64 xKind, .string (mkS xText), .int .i64 xN, .int .i64 xAt] →
          ∃ (x1 : List UInt8), w6.cell? ⟨b, 1, none⟩ = some (.string (mkS x1)) ∧
          SemOk Try.prog (Instr.lookup 104 (.map signs) (.string (mkS x1)) false) (fun v3 w7 =>
            ∃ (op : Int), v3 = .int .i64 op ∧
            Calls Try.prog 96 #[.int .i64 op] w7 (Ret fun v4 w8 => -- term.Level
              ∃ (mine : Int), v4 = .int .i64 mine ∧
              ∃ (J : Bool → World → Prop),
              (∃ (x2 : Int), w8.cell? ⟨b, 0, none⟩ = some (.int .i64 x2) ∧
                cond (x2 != 4)
                  (J true w8)
                  (cond (mine == 0)
                    (J true w8)
                    (cond (decide (mine < level))
                      (J true w8)
                      (J (decide (mine > most)) w8)))) ∧
              ∀ (_g1 : Nat → Value) (x3 : Bool) (w9 : World), J x3 w9 →
              cond (x3)
                (K (.slice lA1 lN1 lC1) w9)
                (∃ (x4 : Int), w9.cell? (r.add 1) = some (.int .i64 x4) ∧
                Writable w9 (r.add 1) 1 ∧ ∀ w10 : World, w10 = w9.setCell (r.add 1) (.int .i64 (IntKind.i64.wrap (x4 + 1))) →
                Calls Try.prog 90 #[.pointer (some r), .int .i64 (IntKind.i64.wrap (mine + 1))] w10 (Ret fun v5 w11 => -- (*term.reader).from
                  ∃ (rightA : Option Addr) (rightN : Nat) (rightC : Nat), v5 = .slice rightA rightN rightC ∧
                  ∃ (x5 : Int), w11.cell? ⟨b, 3, none⟩ = some (.int .i64 x5) ∧
                  ∀ (b1 : Nat) (w12 : World), b1 = w11.heap.size → w12 = w11.alloc (.cells #[.int .i64 op, .string (mkS []), .int .i64 0, .int .i64 2, .int .i64 x5] 39) →
                  SemOk Try.prog (Builtin.append_ #[23, 23] 23 #[.slice (some ⟨b1, 0, none⟩) 1 1, .slice lA1 lN1 lC1]) (fun v6 w13 =>
                    ∃ (xA : Option Addr) (xN1 : Nat) (xC : Nat), v6 = .slice xA xN1 xC ∧
                    SemOk Try.prog (Builtin.append_ #[23, 23] 23 #[.slice xA xN1 xC, .slice rightA rightN rightC]) (fun v7 w14 =>
                      ∃ (lA2 : Option Addr) (lN2 : Nat) (lC2 : Nat), v7 = .slice lA2 lN2 lC2 ∧
                      cond (mine == 3)
                        (I lA2 lN2 lC2 2 w14 ∧ m lA2 lN2 lC2 2 w14 < m lA1 lN1 lC1 most w3)
                        (I lA2 lN2 lC2 mine w14 ∧ m lA2 lN2 lC2 mine w14 < m lA1 lN1 lC1 most w3)) w13) w12)))) w6))
        (K (.slice none 0 0) w3)))
theorem term_reader_from_ok (r : Addr) (level : Int) (K : Value → World → Prop) (w : World) (h : term_reader_from_wp r level K w) : Calls Try.prog 90 #[.pointer (some r), .int .i64 level] w (Ret K) :=
  calls_of { loops := [(124, [(6, .slice), (7, .int .i64)])], cuts := [(15918, [(44, .bool)])] } Try.func90 (by kernel_rfl) h
def term_Parse_wp (toksA : Option Addr) (toksN : Nat) (toksC : Nat) (atx : Int) (K : Value → World → Prop) (w : World) : Prop :=
  cond (decide (atx < 0))
    (K (.tuple #[.slice none 0 0, .int .i64 0, .int .i64 1]) w)
    (∀ (b : Nat) (w1 : World), b = w.heap.size → w1 = w.alloc (.cells #[.slice toksA toksN toksC, .int .i64 atx, .int .i64 0, .int .i64 0] 111) →
    Calls Try.prog 90 #[.pointer (some ⟨b, 0, none⟩), .int .i64 1] w1 (Ret fun v w2 => -- (*term.reader).from
      ∃ (lA : Option Addr) (lN : Nat) (lC : Nat), v = .slice lA lN lC ∧
      ∃ (x : Int), w2.cell? ⟨b, 3, none⟩ = some (.int .i64 x) ∧
      cond (x != 0)
        (∀ w3 : World, w3 = w2.drew →
        ∃ (x1 : Int), w3.cell? ⟨b, 1, none⟩ = some (.int .i64 x1) ∧
        ∃ (x2 : Int), w3.cell? ⟨b, 3, none⟩ = some (.int .i64 x2) ∧
        K (.tuple #[.slice none 0 0, .int .i64 x1, .int .i64 x2]) w3)
        (∀ w4 : World, w4 = w2.drew →
        ∃ (x3 : Int), w4.cell? ⟨b, 1, none⟩ = some (.int .i64 x3) ∧
        K (.tuple #[.slice lA lN lC, .int .i64 x3, .int .i64 0]) w4)))
theorem term_Parse_ok (toksA : Option Addr) (toksN : Nat) (toksC : Nat) (atx : Int) (K : Value → World → Prop) (w : World) (h : term_Parse_wp toksA toksN toksC atx K w) : Calls Try.prog 84 #[.slice toksA toksN toksC, .int .i64 atx] w (Ret K) :=
  calls_of {} Try.func84 (by kernel_rfl) h
end Go.Proofs.Ytdbdkdmgfiiljaa
namespace Go.Proofs.Ytdbdkdmgfiiljaa
open Go.Vc Go.Tk Go.Tm
theorem Level_spec (op : Int) (w : World) : Calls Try.prog 96 #[.int .i64 op] w (Ret fun v w' => v = .int .i64 (levO op : Nat) ∧ w = w') := by
  refine term_Level_ok _ _ _ ?_
  unfold levO
  refine cond_intro (fun h => ?_) fun h => ?_
  · have h : op = 17 := by simpa using h
    rw [if_pos h]; exact ⟨rfl, rfl⟩
  · have h : op ≠ 17 := by simpa using h
    rw [if_neg h]
    refine cond_intro (fun h => ?_) fun h => ?_
    · have h : op = 16 := by simpa using h
      rw [if_pos h]; exact ⟨rfl, rfl⟩
    · have h : op ≠ 16 := by simpa using h
      rw [if_neg h]
      intro _
      refine cond_intro (fun h => ?_) fun h => ?_
      · rw [if_pos (by simp at h; omega)]; exact ⟨rfl, rfl⟩
      · rw [if_neg (by simp at h; omega)]
        intro _
        refine cond_intro (fun h => ?_) fun h => ?_
        · rw [if_pos (by simpa using h)]; exact ⟨rfl, rfl⟩
        · rw [if_neg (by simpa using h)]
          intro _
          refine cond_intro (fun h => ?_) fun h => ?_
          · rw [if_pos (by simp at h; omega)]; exact ⟨rfl, rfl⟩
          · rw [if_neg (by simp at h; omega)]
            intro _
            refine cond_intro (fun h => ?_) fun h => ?_
            · rw [if_pos (by simpa using h)]; exact ⟨rfl, rfl⟩
            · rw [if_neg (by simpa using h)]
              intro _
              refine cond_intro (fun h => ?_) fun h => ?_
              · rw [if_pos (by simpa using h)]; exact ⟨rfl, rfl⟩
              · rw [if_neg (by simpa using h)]; exact ⟨rfl, rfl⟩
def binKvs : List (List UInt8 × Value) := [([124, 124], .int .i64 17), ([38, 38], .int .i64 16), ([61, 61], .int .i64 10), ([33, 61], .int .i64 11), ([60], .int .i64 12), ([60, 61], .int .i64 13), ([62], .int .i64 14), ([62, 61], .int .i64 15), ([43], .int .i64 5), ([45], .int .i64 6), ([42], .int .i64 7), ([47], .int .i64 8), ([37], .int .i64 9)]
theorem get_bin (s : List UInt8) : (getK binKvs s).getD (.int .i64 0) = .int .i64 (opOf s) := by
  by_cases h : s ∈ sgs
  · simp only [sgs, List.mem_cons, List.not_mem_nil, or_false] at h
    rcases h with rfl | rfl | rfl | rfl | rfl | rfl | rfl | rfl | rfl | rfl | rfl | rfl | rfl <;> rfl
  · have h0 : opOf s = 0 := by
      have : ∀ (l : List (List UInt8)) (i : Nat), s ∉ l → idx s l i = 0 := by
        intro l
        induction l with
        | nil => intro i _; rfl
        | cons x l ih =>
          intro i hn
          unfold idx
          rw [if_neg (fun e => hn (by simp [e])), ih _ (fun hm => hn (by simp [hm]))]
      exact this sgs 0 h
    have h1 : getK binKvs s = none := by
      unfold getK
      rw [List.find?_eq_none.2]
      · rfl
      · intro x hx hb
        have hb : x.1 = s := by simpa using hb
        apply h
        rw [← hb]
        simp only [binKvs, List.mem_cons, List.not_mem_nil, or_false] at hx
        rcases hx with rfl | rfl | rfl | rfl | rfl | rfl | rfl | rfl | rfl | rfl | rfl | rfl | rfl <;> decide
    rw [h0, h1]; rfl
theorem map_ty : Try.prog.underlying 104 = some (.map 9 3) := by kernel_rfl
theorem binary_spec (w : World) : Calls Try.prog 93 #[] w (Ret fun v w' => ∃ b, v = .map (some b) ∧ MapAt w' b binKvs ∧ w.heap.size ≤ b ∧ Ext w w') := by
  refine term_binary_ok _ _ ?_
  intro b w1 hb hw1
  have m := MapAt.new hb hw1
  have g : w1.grownBy w1 (some b) := ⟨rfl, rfl, rfl, Nat.le_refl _, fun _ _ _ => rfl⟩
  refine m.add map_ty str_ty rfl fun w2 m g2 => ?_
  have g := grownBy_trans g g2; clear g2
  refine m.add map_ty str_ty rfl fun w2 m g2 => ?_
  have g := grownBy_trans g g2; clear g2
  refine m.add map_ty str_ty rfl fun w2 m g2 => ?_
  have g := grownBy_trans g g2; clear g2
  refine m.add map_ty str_ty rfl fun w2 m g2 => ?_
  have g := grownBy_trans g g2; clear g2
  refine m.add map_ty str_ty rfl fun w2 m g2 => ?_
  have g := grownBy_trans g g2; clear g2
  refine m.add map_ty str_ty rfl fun w2 m g2 => ?_
  have g := grownBy_trans g g2; clear g2
  refine m.add map_ty str_ty rfl fun w2 m g2 => ?_
  have g := grownBy_trans g g2; clear g2
  refine m.add map_ty str_ty rfl fun w2 m g2 => ?_
  have g := grownBy_trans g g2; clear g2
  refine m.add map_ty str_ty rfl fun w2 m g2 => ?_
  have g := grownBy_trans g g2; clear g2
  refine m.add map_ty str_ty rfl fun w2 m g2 => ?_
  have g := grownBy_trans g g2; clear g2
  refine m.add map_ty str_ty rfl fun w2 m g2 => ?_
  have g := grownBy_trans g g2; clear g2
  refine m.add map_ty str_ty rfl fun w2 m g2 => ?_
  have g := grownBy_trans g g2; clear g2
  refine m.add map_ty str_ty rfl fun w2 m g2 => ?_
  have g := grownBy_trans g g2; clear g2
  refine ⟨b, rfl, m, hb ▸ Nat.le_refl _, ?_⟩
  have e := Ext.alloc hw1
  have hsz := e.size
  exact ⟨g.os.trans e.os, g.tape.trans e.tape, g.output.trans e.output, Nat.le_trans e.size g.size, fun k hk => (g.block k (by omega) (fun h => by cases h; omega)).trans (Go.RowKit.Below.block e k hk)⟩
def rdC (ta : Option Addr) (n tc : Nat) (p d : Nat) (e : Int) : List Value := [.slice ta n tc, .int .i64 p, .int .i64 d, .int .i64 e]
theorem now_spec (toks : List Tok) (rb : Nat) (ta : Option Addr) (tc p d : Nat) (e : Int) (w : World) (hr : Box w rb (rdC ta toks.length tc p d e)) (h : SlAt w ta (flat tokC toks)) :
    Calls Try.prog 95 #[.pointer (some ⟨rb, 0, none⟩)] w (Ret fun v w' => v = .agg ⟨tokC (T toks p)⟩ ∧ Ext w w') := by
  refine term_reader_now_ok _ _ _ ?_
  intro b w1 hb hw1
  have o := (Own.start w).alloc hb hw1
  have hne : b ≠ rb := by have := hr.lt; omega
  have hoff := h.off (b := b) (by omega)
  have hr := hr.ext (.alloc hw1)
  have h := h.ext (.alloc hw1)
  intro w2 hw2
  have o := o.drew hw2
  have hr := hr.ext (.drew hw2)
  have h := h.ext (.drew hw2)
  refine ⟨_, hr.cell rfl, _, _, _, hr.cell rfl, cond_intro (fun hx => ?_) fun hx => ?_⟩
  · have hlt : p < toks.length := by simpa using hx
    intro w3 hw3
    have o := o.drew hw3
    have hr := hr.ext (.drew hw3)
    have h := h.ext (.drew hw3)
    refine ⟨fun u => Box u rb (rdC ta toks.length tc p d e) ∧ SlAt u ta (flat tokC toks), ⟨hr, h⟩, _, _, _, fun u hu => hu.1.cell rfl, _, fun u hu => hu.1.cell rfl, ⟨by omega, by omega⟩, ?_⟩
    rw [Int.toNat_natCast]
    obtain ⟨q, rfl, hq⟩ := h.elem tokC_len (by decide) hlt
    refine ⟨toks[p].kind, toks[p].text, toks[p].n, toks[p].at_, fun u hu => ?_, o.wr 0 rfl rfl, fun w4 hw4 => ?_⟩
    · obtain ⟨q', eq, hq'⟩ := hu.2.elem tokC_len (by decide) hlt
      cases eq
      exact hq'
    · have hr := hr.setsOther hw4 hne
      have h := h.sets hw4 hoff
      have o := o.sets 0 hw4 rfl
      refine ⟨_, _, _, _, (o.at 0 rfl).whole, ?_, o.done⟩
      have : T toks p = toks[p] := by unfold T; simp [List.getD, hlt]
      rw [this]; rfl
  · have hge : toks.length ≤ p := by simpa using hx
    refine ⟨o.wr 0 rfl rfl, fun w3 hw3 => ?_⟩
    have o := o.sets 0 hw3 rfl
    exact ⟨_, _, _, _, (o.at 0 rfl).whole, by rw [T_end hge]; rfl, o.done⟩
theorem is_spec (toks : List Tok) (rb : Nat) (ta : Option Addr) (tc p d : Nat) (e : Int) (s : List UInt8) (w : World) (hr : Box w rb (rdC ta toks.length tc p d e)) (h : SlAt w ta (flat tokC toks)) :
    Calls Try.prog 98 #[.pointer (some ⟨rb, 0, none⟩), .string (mkS s)] w (Ret fun v w' => v = .bool (decide ((T toks p).kind = 4 ∧ (T toks p).text = s)) ∧ Ext w w') := by
  refine term_reader_is_ok _ _ _ _ (call_then (now_spec toks rb ta tc p d e w hr h) ?_)
  rintro _ w1 ⟨rfl, he1⟩
  refine ⟨_, _, _, _, rfl, cond_intro (fun h4 => ?_) fun h4 => ?_⟩
  · have h4 : (T toks p).kind = 4 := by simpa using h4
    refine call_then (now_spec toks rb ta tc p d e w1 (hr.ext he1) (h.ext he1)) ?_
    rintro _ w2 ⟨rfl, he2⟩
    refine ⟨_, _, _, _, rfl, ?_, he1.trans he2⟩
    congr 1
    rw [Bool.eq_iff_iff]
    simp [h4]
  · have h4 : (T toks p).kind ≠ 4 := by simpa using h4
    exact ⟨by simp [h4], he1⟩
end Go.Proofs.Ytdbdkdmgfiiljaa
namespace Go.Proofs.Ytdbdkdmgfiiljaa
open Go.Vc Go.Tk Go.Tm
theorem rw_cap {w : World} {base e size : Nat} {a : Option Addr} {n c : Nat} {xs : List Value} (h : Rw w base e size a n c xs) : n ≤ c := by
  rcases h.2 with ⟨hv, hn⟩ | ⟨g, cap, cur, hv, _, _, hc, _⟩
  · omega
  · cases hv; exact hc
def RG (toks : List Tok) (rb : Nat) (ta : Option Addr) (tc d B : Nat) (w : World) (r : Res) (v : Value) (w' : World) : Prop :=
  ∃ a m c, ∃ l : List Nd, v = .slice a m c ∧ m = l.length ∧ SlAt w' a (flat ndC l) ∧ (∀ k, blk a = some k → w.heap.size ≤ k) ∧ (l.length ≤ toks.length + B ∧ l.length ≤ c) ∧ (r.e = 0 → l = r.l) ∧
    Box w' rb (rdC ta toks.length tc r.at_ d r.e) ∧ w.grownBy w' (some rb)
theorem below_deep (toks : List Tok) (rb : Nat) (ta : Option Addr) (tc p : Nat) (w : World) (hr : Box w rb (rdC ta toks.length tc p 24 0)) :
    Calls Try.prog 99 #[.pointer (some ⟨rb, 0, none⟩), .func (.func 94) #[.pointer (some ⟨rb, 0, none⟩)] #[]] w (Ret (RG toks rb ta tc 24 0 w ⟨[], p, 5⟩)) := by
  refine term_below_one_ok _ _ _ ?_
  refine ⟨_, hr.cell rfl, cond_t rfl ⟨(OwnR.start hr).wrR (i := 3) rfl, fun w1 hw1 => ?_⟩⟩
  have o := (OwnR.start hr).setR hw1
  exact ⟨none, 0, 0, [], rfl, rfl, rfl, fun k h => (by cases h), by simp, fun _ => rfl, o.rbox, o.grown⟩
theorem below_one (toks : List Tok) (rb : Nat) (ta : Option Addr) (tc p d B : Nat) (hp : p < 2 ^ 60) (hd : d < 24) (x : Res) (w : World) (hr : Box w rb (rdC ta toks.length tc p d 0)) (hs : SlAt w ta (flat tokC toks)) (hoff : Off ta (flat tokC toks) rb)
    (h1 : ∀ w, Box w rb (rdC ta toks.length tc (p + 1) (d + 1) 0) → SlAt w ta (flat tokC toks) → Calls Try.prog 94 #[.pointer (some ⟨rb, 0, none⟩)] w (Ret (RG toks rb ta tc (d + 1) B w x))) :
    Calls Try.prog 99 #[.pointer (some ⟨rb, 0, none⟩), .func (.func 94) #[.pointer (some ⟨rb, 0, none⟩)] #[]] w (Ret (RG toks rb ta tc d B w x)) := by
  refine term_below_one_ok _ _ _ ?_
  have o := OwnR.start hr
  have hd1 : IntKind.i64.wrap ((d : Int) + 1) = ((d + 1 : Nat) : Int) := by rw [wrap_in (by omega) (by omega)]; omega
  have hp1 : IntKind.i64.wrap ((p : Int) + 1) = ((p + 1 : Nat) : Int) := by rw [wrap_in (by omega) (by omega)]; omega
  have hd2 : IntKind.i64.wrap (((d + 1 : Nat) : Int) - 1) = (d : Int) := by rw [wrap_in (by omega) (by omega)]; omega
  refine ⟨_, hr.cell rfl, cond_f (by simp; omega) ⟨_, hr.cell rfl, o.wrR (i := 2) rfl, fun w2 hw2 => ?_⟩⟩
  have o := o.setR hw2
  have hs := hs.set hw2 hoff
  refine ⟨_, o.rbox.cell rfl, o.wrR (i := 1) rfl, fun w3 hw3 => ?_⟩
  have o := o.setR hw3
  have hs := hs.set hw3 hoff
  rw [hd1, hp1] at o
  refine call_then (h1 w3 o.rbox hs) ?_
  rintro _ w4 ⟨a, m, c, l, rfl, rfl, hsl, hfr, hle, hl, hb, hg⟩
  have hle3 := o.le
  have hrb : rb < w3.heap.size := o.rbox.lt
  have o := o.call hg hb
  refine ⟨_, _, _, rfl, _, o.rbox.cell rfl, o.wrR (i := 2) rfl, fun w5 hw5 => ?_⟩
  have hsl := hsl.set hw5 (fresh_off hfr hrb _)
  have o := o.setR hw5
  rw [hd2] at o
  exact ⟨a, _, c, l, rfl, rfl, hsl, fun k hk => Nat.le_trans hle3 (hfr k hk), hle, hl, o.rbox, o.grown⟩
theorem belowF_deep (toks : List Tok) (q : Addr) (rb : Nat) (ta : Option Addr) (tc p : Nat) (w : World) (hr : Box w rb (rdC ta toks.length tc p 24 0)) :
    Calls Try.prog 99 #[.pointer (some ⟨rb, 0, none⟩), .func (.func 100) #[] #[.pointer (some q)]] w (Ret (RG toks rb ta tc 24 0 w ⟨[], p, 5⟩)) := by
  refine term_below_from_ok _ _ _ _ ?_
  refine ⟨_, hr.cell rfl, cond_t rfl ⟨(OwnR.start hr).wrR (i := 3) rfl, fun w1 hw1 => ?_⟩⟩
  have o := (OwnR.start hr).setR hw1
  exact ⟨none, 0, 0, [], rfl, rfl, rfl, fun k h => (by cases h), by simp, fun _ => rfl, o.rbox, o.grown⟩
theorem below_from (toks : List Tok) (q : Addr) (rb : Nat) (ta : Option Addr) (tc p d B : Nat) (hp : p < 2 ^ 60) (hd : d < 24) (x : Res) (w : World) (hr : Box w rb (rdC ta toks.length tc p d 0)) (hs : SlAt w ta (flat tokC toks)) (hoff : Off ta (flat tokC toks) rb) (hq : w.cell? q = some (.pointer (some ⟨rb, 0, none⟩))) (hqb : q.block ≠ rb)
    (h1 : ∀ w, Box w rb (rdC ta toks.length tc (p + 1) (d + 1) 0) → SlAt w ta (flat tokC toks) → w.cell? q = some (.pointer (some ⟨rb, 0, none⟩)) → Calls Try.prog 100 #[.pointer (some q)] w (Ret (RG toks rb ta tc (d + 1) B w x))) :
    Calls Try.prog 99 #[.pointer (some ⟨rb, 0, none⟩), .func (.func 100) #[] #[.pointer (some q)]] w (Ret (RG toks rb ta tc d B w x)) := by
  refine term_below_from_ok _ _ _ _ ?_
  have o := OwnR.start hr
  have hd1 : IntKind.i64.wrap ((d : Int) + 1) = ((d + 1 : Nat) : Int) := by rw [wrap_in (by omega) (by omega)]; omega
  have hp1 : IntKind.i64.wrap ((p : Int) + 1) = ((p + 1 : Nat) : Int) := by rw [wrap_in (by omega) (by omega)]; omega
  have hd2 : IntKind.i64.wrap (((d + 1 : Nat) : Int) - 1) = (d : Int) := by rw [wrap_in (by omega) (by omega)]; omega
  refine ⟨_, hr.cell rfl, cond_f (by simp; omega) ⟨_, hr.cell rfl, o.wrR (i := 2) rfl, fun w2 hw2 => ?_⟩⟩
  have o := o.setR hw2
  have hs := hs.set hw2 hoff
  refine ⟨_, o.rbox.cell rfl, o.wrR (i := 1) rfl, fun w3 hw3 => ?_⟩
  have o := o.setR hw3
  have hs := hs.set hw3 hoff
  rw [hd1, hp1] at o
  have hq3 : w3.cell? q = some (.pointer (some ⟨rb, 0, none⟩)) := by
    have := cell_lt hq
    rw [World.cell?_of_block (o.grown.block q.block this (fun e => hqb (Option.some.inj e)))]
    exact hq
  refine call_then (h1 w3 o.rbox hs hq3) ?_
  rintro _ w4 ⟨a, m, c, l, rfl, rfl, hsl, hfr, hle, hl, hb, hg⟩
  have hle3 := o.le
  have hrb : rb < w3.heap.size := o.rbox.lt
  have o := o.call hg hb
  refine ⟨_, _, _, rfl, _, o.rbox.cell rfl, o.wrR (i := 2) rfl, fun w5 hw5 => ?_⟩
  have hsl := hsl.set hw5 (fresh_off hfr hrb _)
  have o := o.setR hw5
  rw [hd2] at o
  exact ⟨a, _, c, l, rfl, rfl, hsl, fun k hk => Nat.le_trans hle3 (hfr k hk), hle, hl, o.rbox, o.grown⟩
end Go.Proofs.Ytdbdkdmgfiiljaa
namespace Go.Proofs.Ytdbdkdmgfiiljaa
open Go.Vc Go.Tk Go.Tm
theorem cons_row {w w' : World} {base b : Nat} {cs : Array Value} (hb : b = w.heap.size) (hw : w' = w.alloc (.cells cs 39)) (hbase : base ≤ b) (hs : cs.size = 5) : Rw w' base 39 5 (some ⟨b, 0, none⟩) 1 1 cs.toList :=
  Rw.lit hb hw hbase (by decide) (by rw [hs])
set_option maxHeartbeats 1000000 in
theorem pOne_step (toks : List Tok) (hN : toks.length < 2 ^ 30) (rb : Nat) (ta : Option Addr) (tc : Nat) (hoff : Off ta (flat tokC toks) rb) (r1 rl : Nat → Nat → Option Res)
    (hr1 : ∀ p d r, r1 p d = some r → d ≤ 24 → ∀ w, Box w rb (rdC ta toks.length tc p d 0) → SlAt w ta (flat tokC toks) → Calls Try.prog 94 #[.pointer (some ⟨rb, 0, none⟩)] w (Ret (RG toks rb ta tc d (25 - d) w r)))
    (hrl : ∀ p d r, rl p d = some r → d ≤ 24 → ∀ w, Box w rb (rdC ta toks.length tc p d 0) → SlAt w ta (flat tokC toks) → Calls Try.prog 90 #[.pointer (some ⟨rb, 0, none⟩), .int .i64 1] w (Ret (RG toks rb ta tc d (25 - d) w r)))
    (hkl : ∀ p d r, rl p d = some r → Ok toks p r)
    (p d : Nat) (r : Res) (h : oneStep toks r1 rl p d = some r) (hd : d ≤ 24) (w : World) (hr : Box w rb (rdC ta toks.length tc p d 0)) (hs : SlAt w ta (flat tokC toks)) :
    Calls Try.prog 94 #[.pointer (some ⟨rb, 0, none⟩)] w (Ret (RG toks rb ta tc d (25 - d) w r)) := by
  have hp1 : p < toks.length → IntKind.i64.wrap ((p : Int) + 1) = ((p + 1 : Nat) : Int) := fun hp => by rw [wrap_in (by omega) (by omega)]; omega
  refine term_reader_one_ok _ _ _ ?_
  intro b w1 hb hw1
  have o := (OwnR.start hr).alloc hb hw1
  have hs1 := hs.ext (.alloc hw1)
  refine ⟨_, (o.at 0 rfl).cell rfl, call_then (now_spec toks rb ta tc p d 0 w1 o.rbox hs1) ?_⟩
  rintro _ w2 ⟨rfl, he2⟩
  have o := o.ext he2
  have hs2 := hs1.ext he2
  have hlt : (T toks p).kind ≠ 0 → p < toks.length := T_lt
  have hT : T toks p = T toks p := rfl
  unfold oneStep at h
  generalize hTt : T toks p = t at h hlt ⊢
  refine ⟨_, _, _, _, rfl, ?_⟩
  intro b1 w3 hb1 hw3
  have hs3 := hs2.ext (.alloc hw3)
  have hofft := hs2.off (b := b1) (by omega)
  have o := o.alloc hb1 hw3
  refine ⟨o.wr 0 rfl rfl, fun w4 hw4 => ?_⟩
  have o : OwnR rb w w4 (rdC ta toks.length tc p d 0) [(b1, tokC t), (b, [.pointer (some ⟨rb, 0, none⟩)])] := o.sets 0 hw4 rfl
  have hs4 := hs3.sets hw4 hofft
  refine ⟨_, (o.at 0 rfl).cell rfl, cond_intro (fun h2 => ?_) fun h2 => ?_⟩
  · have h2 : t.kind = 2 := by simpa using h2
    rw [if_pos h2] at h
    cases h
    refine ⟨_, (o.at 1 rfl).cell rfl, _, o.rbox.cell rfl, o.wrR (i := 1) rfl, fun w5 hw5 => ?_⟩
    have o := o.setR hw5
    rw [hp1 (hlt (by rw [h2]; decide))] at o
    refine ⟨_, (o.at 0 rfl).cell rfl, _, (o.at 0 rfl).cell rfl, ?_⟩
    intro b2 w6 hb2 hw6
    have o := o.alloc hb2 hw6
    exact ⟨_, _, _, [⟨1, [], t.n, 0, t.at_⟩], rfl, rfl, (o.at 0 rfl).whole, box_fresh (o.ge 0 rfl), by simp; omega, fun _ => rfl, o.rbox, o.grown⟩
  · have h2 : t.kind ≠ 2 := by simpa using h2
    rw [if_neg h2] at h
    refine ⟨_, (o.at 0 rfl).cell rfl, cond_intro (fun h3 => ?_) fun h3 => ?_⟩
    · have h3 : t.kind = 1 := by simpa using h3
      rw [if_pos h3] at h
      cases h
      refine ⟨_, (o.at 1 rfl).cell rfl, _, o.rbox.cell rfl, o.wrR (i := 1) rfl, fun w5 hw5 => ?_⟩
      have o := o.setR hw5
      rw [hp1 (hlt (by rw [h3]; decide))] at o
      refine ⟨_, (o.at 0 rfl).cell rfl, _, (o.at 0 rfl).cell rfl, ?_⟩
      intro b2 w6 hb2 hw6
      have o := o.alloc hb2 hw6
      exact ⟨_, _, _, [⟨2, t.text, 0, 0, t.at_⟩], rfl, rfl, (o.at 0 rfl).whole, box_fresh (o.ge 0 rfl), by simp; omega, fun _ => rfl, o.rbox, o.grown⟩
    · have h3 : t.kind ≠ 1 := by simpa using h3
      rw [if_neg h3] at h
      refine ⟨fun x w' => x = decide (t.kind = 4 ∧ (t.text = [45] ∨ t.text = [33])) ∧ Ext w4 w', ?_, ?_⟩
      · refine ⟨_, (o.at 1 rfl).cell rfl, call_then (is_spec toks rb ta tc p d 0 [45] w4 o.rbox hs4) ?_⟩
        rw [hTt]
        rintro _ w9 ⟨rfl, he9⟩
        refine ⟨_, rfl, cond_intro (fun h5 => ?_) fun h5 => ?_⟩
        · have h5' := of_decide_eq_true h5
          exact ⟨by rw [h5]; exact (decide_eq_true ⟨h5'.1, .inl h5'.2⟩).symm, he9⟩
        · have h5' := of_decide_eq_false h5
          have o := o.ext he9
          refine ⟨_, (o.at 1 rfl).cell rfl, call_then (is_spec toks rb ta tc p d 0 [33] w9 o.rbox (hs4.ext he9)) ?_⟩
          rw [hTt]
          rintro _ w10 ⟨rfl, he10⟩
          refine ⟨_, rfl, ?_, he9.trans he10⟩
          rw [Bool.eq_iff_iff]
          simp only [decide_eq_true_iff]
          exact ⟨fun c => ⟨c.1, .inr c.2⟩, fun c => ⟨c.1, c.2.elim (fun e => absurd ⟨c.1, e⟩ h5') id⟩⟩
      · rintro _ x15 w11 ⟨rfl, he11⟩
        have o := o.ext he11
        have hs11 := hs4.ext he11
        refine cond_intro (fun hc => ?_) fun hc => ?_
        · have hc := of_decide_eq_true hc
          rw [if_pos hc] at h
          have hlt := hlt (by rw [hc.1]; decide)
          have hbel : ∃ x, (∀ w', Box w' rb (rdC ta toks.length tc p d 0) → SlAt w' ta (flat tokC toks) → Calls Try.prog 99 #[.pointer (some ⟨rb, 0, none⟩), .func (.func 94) #[.pointer (some ⟨rb, 0, none⟩)] #[]] w' (Ret (RG toks rb ta tc d (24 - d) w' x))) ∧
              r = (if x.e = 0 then ⟨⟨if t.text = [33] then 4 else 3, [], 0, 1, t.at_⟩ :: x.l, x.at_, 0⟩ else x) := by
            by_cases h24 : d = 24
            · rw [if_pos h24] at h
              cases h
              subst h24
              exact ⟨⟨[], p, 5⟩, fun w' hb' _ => below_deep toks rb ta tc p w' hb', rfl⟩
            · rw [if_neg h24] at h
              obtain ⟨y, hy, hr⟩ := Option.map_eq_some_iff.1 h
              refine ⟨y, fun w' hb' hs' => below_one toks rb ta tc p d (24 - d) (by omega) (by omega) y w' hb' hs' hoff (fun w'' hb'' hs'' => ?_), hr.symm⟩
              have := hr1 _ _ _ hy (by omega) w'' hb'' hs''
              rwa [show 25 - (d + 1) = 24 - d by omega] at this
          obtain ⟨x, hbel, hrx⟩ := hbel
          refine ⟨fun op w' => w11 = w' ∧ op = (if t.text = [33] then 4 else 3), ?_, ?_⟩
          · refine ⟨_, (o.at 0 rfl).cell rfl, cond_intro (fun h7 => ?_) fun h7 => ?_⟩
            · have h7 : t.text = [33] := by simpa using h7
              exact ⟨rfl, by rw [if_pos h7]⟩
            · have h7 : t.text ≠ [33] := by simpa using h7
              exact ⟨rfl, by rw [if_neg h7]⟩
          · rintro _ op _ ⟨rfl, hop⟩
            intro w13 hw13
            have o := o.drew hw13
            have hs13 := hs11.ext (.drew hw13)
            have hrbl := o.rlt
            have fin : ∀ (w' : World) (b4 : Nat) (a : Option Addr) (c : Nat) (l : List Nd), OwnR rb w w' (rdC ta toks.length tc x.at_ d x.e) [(b1, tokC t), (b, [.pointer (some ⟨rb, 0, none⟩)])] →
                Rw w' w.heap.size 39 5 (some ⟨b4, 0, none⟩) 1 1 (ndC ⟨op, [], 0, 1, t.at_⟩) → b1 ≠ b4 → b ≠ b4 → w.heap.size ≤ b4 → SlAt w' a (flat ndC l) → l.length ≤ toks.length + (24 - d) → (x.e = 0 → l = x.l) →
                SemOk Try.prog (Builtin.append_ #[23, 23] 23 #[.slice (some ⟨b4, 0, none⟩) 1 1, .slice a l.length c]) (fun v w'' => ∃ (xA : Option Addr) (xN : Nat) (xC : Nat), v = .slice xA xN xC ∧ RG toks rb ta tc d (25 - d) w r (.slice xA xN xC) w'') w' := by
              intro w' b4 a c l o hrow hn1 hn2 hb4 hsl hle hl
              refine append_sl sl_nd hrow hsl (flat_len ndC_len _) (ndC_one _) (by omega) (by decide) o.le fun a' c' w'' hrow' hg hat => ?_
              have hle0 := o.le
              have o := o.gro hg (fun k hk => by
                cases hk
                refine ⟨hb4, fun q hq => ?_⟩
                simp only [List.mem_cons, List.not_mem_nil, or_false] at hq
                rcases hq with rfl | rfl
                · exact hn1
                · exact hn2)
              refine ⟨_, _, _, rfl, a', _, c', ⟨op, [], 0, 1, t.at_⟩ :: l, rfl, by simp [Nat.add_comm], hrow'.sl, fun k hk => ?_, ?_, fun he => ?_, ?_, o.grown⟩
              · rcases hat with e | e
                · rw [e] at hk; cases hk; exact hb4
                · rw [e] at hk; cases hk; exact hle0
              · have := rw_cap hrow'
                simp only [List.length_cons]
                omega
              · have hx : x.e = 0 := by
                  cases Decidable.em (x.e = 0) with
                  | inl h => exact h
                  | inr h => rw [hrx, if_neg h] at he; exact he
                rw [hrx, if_pos hx, hl hx, hop]
              · have h1 : r.at_ = x.at_ := by rw [hrx]; split <;> rfl
                have h2 : r.e = x.e := by rw [hrx]; split <;> simp_all
                rw [h1, h2]
                exact o.rbox
            refine ⟨fun u => Box u b1 (tokC t) ∧ Box u b [.pointer (some ⟨rb, 0, none⟩)], ⟨o.at 0 rfl, o.at 1 rfl⟩, _, fun u hu => hu.1.cell rfl, _, fun u hu => hu.2.cell rfl, _, fun u hu => hu.2.cell rfl, ?_, ?_⟩
            · intro b4 w14 hb4 hw14
              have hwb : w.heap.size ≤ b4 := by have := o.le; omega
              have hrow := cons_row hb4 hw14 hwb rfl
              have hl1 := (o.at 0 rfl).lt
              have hl2 := (o.at 1 rfl).lt
              have o := o.ext (.alloc hw14)
              refine ⟨⟨o.at 0 rfl, o.at 1 rfl⟩, call_then (hbel w14 o.rbox (hs13.ext (.alloc hw14))) ?_⟩
              rintro _ w15 ⟨a, m, c, l, rfl, rfl, hsl, hfr, hle, hl, hb', hg⟩
              have o := o.call hg hb'
              have hrow := hrow.kept (fun k hk => hg.block k (hrow.lt k hk).2 (fun e => by
                have e1 : b4 = k := Option.some.inj hk
                have e2 : k = rb := Option.some.inj e
                omega))
              exact ⟨_, _, _, rfl, ⟨o.at 0 rfl, o.at 1 rfl⟩, fin w15 b4 a c l o hrow (by omega) (by omega) hwb hsl hle.1 hl⟩
            · refine call_then (hbel w13 o.rbox hs13) ?_
              rintro _ w17 ⟨a, m, c, l, rfl, rfl, hsl, hfr, hle, hl, hb', hg⟩
              have o := o.call hg hb'
              refine ⟨_, _, _, rfl, ⟨o.at 0 rfl, o.at 1 rfl⟩, ?_⟩
              intro b5 w18 hb5 hw18
              have hwb : w.heap.size ≤ b5 := by have := o.le; omega
              have hrow := cons_row hb5 hw18 hwb rfl
              have hl1 := (o.at 0 rfl).lt
              have hl2 := (o.at 1 rfl).lt
              have o := o.ext (.alloc hw18)
              exact ⟨⟨o.at 0 rfl, o.at 1 rfl⟩, fin w18 b5 a c l o hrow (by omega) (by omega) hwb (hsl.ext (.alloc hw18)) hle.1 hl⟩
        · have hc := of_decide_eq_false hc
          rw [if_neg hc] at h
          refine ⟨_, (o.at 1 rfl).cell rfl, call_then (is_spec toks rb ta tc p d 0 [40] w11 o.rbox hs11) ?_⟩
          rw [hTt]
          rintro _ w20 ⟨rfl, he20⟩
          have o := o.ext he20
          have hs20 := hs11.ext he20
          have hrbl := o.rlt
          refine ⟨_, rfl, cond_intro (fun h40 => ?_) fun h40 => ?_⟩
          · have h40 := of_decide_eq_true h40
            rw [if_pos h40] at h
            have hlt := hlt (by rw [h40.1]; decide)
            have hq := (o.at 1 rfl).cell (i := 0) (v := .pointer (some ⟨rb, 0, none⟩)) rfl
            have hqb : b ≠ rb := by have := o.ge 1 rfl; omega
            have hbel : ∃ x, Calls Try.prog 99 #[.pointer (some ⟨rb, 0, none⟩), .func (.func 100) #[] #[.pointer (some ⟨b, 0, none⟩)]] w20 (Ret (RG toks rb ta tc d (24 - d) w20 x)) ∧
                r = (if x.e ≠ 0 then x else if (T toks x.at_).kind = 4 ∧ (T toks x.at_).text = [41] then ⟨x.l, x.at_ + 1, 0⟩ else ⟨[], x.at_, 11⟩) ∧ (x.e = 0 → x.at_ ≤ toks.length) := by
              by_cases h24 : d = 24
              · rw [if_pos h24] at h
                cases h
                subst h24
                exact ⟨⟨[], p, 5⟩, belowF_deep toks _ rb ta tc p w20 o.rbox, rfl, fun h => (by cases h)⟩
              · rw [if_neg h24] at h
                obtain ⟨y, hy, hr⟩ := Option.map_eq_some_iff.1 h
                refine ⟨y, below_from toks ⟨b, 0, none⟩ rb ta tc p d (24 - d) (by omega) (by omega) y w20 o.rbox hs20 hoff hq hqb (fun w'' hb'' hs'' hq'' => ?_), hr.symm, fun he => ((hkl _ _ _ hy).1 he).2.1⟩
                have := hrl _ _ _ hy (by omega) w'' hb'' hs''
                rw [show 25 - (d + 1) = 24 - d by omega] at this
                refine term_reader_one_1_ok _ _ _ ⟨_, hq'', call_then this ?_⟩
                rintro _ w3 ⟨a, m, c, l, rfl, rest⟩
                exact ⟨_, _, _, rfl, a, m, c, l, rfl, rest⟩
            obtain ⟨x, hbel, hrx, hxN⟩ := hbel
            refine ⟨_, hq, call_then hbel ?_⟩
            have hle20 := o.le
            have hrb20 := o.rbox.lt
            rintro _ w21 ⟨a, m, c, l, rfl, rfl, hsl, hfr, hle, hl, hb', hg⟩
            have hs21 : SlAt w21 ta (flat tokC toks) := hs20.grown hg (fun k hk => by cases hk; exact hoff)
            have o := o.call hg hb'
            have hfr' : ∀ k, blk a = some k → w.heap.size ≤ k := fun k hk => Nat.le_trans hle20 (hfr k hk)
            have hoffa := fresh_off hfr hrb20 (flat ndC l)
            refine ⟨_, _, _, rfl, fun w' => ∃ e', OwnR rb w w' (rdC ta toks.length tc x.at_ d e') [(b1, tokC t), (b, [.pointer (some ⟨rb, 0, none⟩)])] ∧ SlAt w' a (flat ndC l) ∧ e' = (if x.e ≠ 0 then x.e else if (T toks x.at_).kind = 4 ∧ (T toks x.at_).text = [41] then 0 else 11), ?_, ?_⟩
            · refine ⟨fun z w' => (z = decide (x.e = 0 ∧ ¬ ((T toks x.at_).kind = 4 ∧ (T toks x.at_).text = [41]))) ∧ Ext w21 w', ?_, ?_⟩
              · refine ⟨_, (o.at 1 rfl).cell rfl, _, o.rbox.cell rfl, cond_intro (fun he => ?_) fun he => ?_⟩
                · have he : x.e = 0 := by simpa using he
                  rw [he] at o
                  refine ⟨_, (o.at 1 rfl).cell rfl, call_then (is_spec toks rb ta tc x.at_ d 0 [41] w21 o.rbox hs21) ?_⟩
                  rintro _ w22 ⟨rfl, he22⟩
                  refine ⟨_, rfl, ?_, he22⟩
                  rw [← decide_not]
                  exact decide_eq_decide.2 ⟨fun c => ⟨he, c⟩, fun c => c.2⟩
                · have he : x.e ≠ 0 := by simpa using he
                  exact ⟨(decide_eq_false (fun c => he c.1)).symm, Ext.refl _⟩
              · rintro _ z w23 ⟨rfl, he23⟩
                have o := o.ext he23
                have hsl := hsl.ext he23
                refine cond_intro (fun hz => ?_) fun hz => ?_
                · have hz := of_decide_eq_true hz
                  refine ⟨_, (o.at 1 rfl).cell rfl, o.wrR (i := 3) rfl, fun w24 hw24 => ?_⟩
                  have o := o.setR hw24
                  exact ⟨11, o, hsl.set hw24 hoffa, by rw [if_neg (by simpa using hz.1), if_neg hz.2]⟩
                · have hz := of_decide_eq_false hz
                  refine ⟨x.e, o, hsl, ?_⟩
                  split
                  · rfl
                  · rename_i hx
                    have hx : x.e = 0 := by simpa using hx
                    split
                    · exact hx
                    · rename_i hy; exact absurd ⟨hx, hy⟩ hz
            · rintro _ w25 ⟨e', o, hsl, he'⟩
              refine ⟨_, (o.at 1 rfl).cell rfl, _, o.rbox.cell rfl, cond_intro (fun he0 => ?_) fun he0 => ?_⟩
              · have he0 : e' = 0 := by simpa using he0
                have hx : x.e = 0 := by
                  cases Decidable.em (x.e = 0) with
                  | inl h => exact h
                  | inr h => rw [if_pos h] at he'; rw [he0] at he'; exact he'.symm
                have hx41 : (T toks x.at_).kind = 4 ∧ (T toks x.at_).text = [41] := by
                  cases Decidable.em ((T toks x.at_).kind = 4 ∧ (T toks x.at_).text = [41]) with
                  | inl h => exact h
                  | inr h => rw [if_neg (by simpa using hx), if_neg h, he0] at he'; cases he'
                rw [if_neg (by simpa using hx), if_pos hx41] at hrx
                have hxN := hxN hx
                refine ⟨_, (o.at 1 rfl).cell rfl, _, o.rbox.cell rfl, o.wrR (i := 1) rfl, fun w26 hw26 => ?_⟩
                have o := o.setR hw26
                rw [wrap_in (by omega) (by omega)] at o
                refine ⟨a, _, c, l, rfl, rfl, hsl.set hw26 hoffa, hfr', by omega, fun _ => by rw [hrx, hl hx], ?_, o.grown⟩
                rw [hrx, he0] at *
                exact o.rbox
              · have he0 : e' ≠ 0 := by simpa using he0
                refine ⟨a, _, c, l, rfl, rfl, hsl, hfr', by omega, fun he => ?_, ?_, o.grown⟩
                · exfalso
                  apply he0
                  rw [hrx] at he
                  rw [he']
                  split at he
                  · rename_i c; exact absurd he c
                  · rename_i c
                    rw [if_neg c]
                    split at he
                    · rename_i c; rw [if_pos c]
                    · cases he
                · have h1 : r.at_ = x.at_ := by
                    rw [hrx]
                    split
                    · rfl
                    · rename_i c
                      rw [if_neg c] at he'
                      split
                      · rename_i c; rw [if_pos c] at he'; exact absurd he' he0
                      · rfl
                  have h2 : r.e = e' := by
                    rw [hrx, he']
                    split
                    · rfl
                    · split <;> rfl
                  rw [h1, h2]
                  exact o.rbox
          · have h40 := of_decide_eq_false h40
            rw [if_neg h40] at h
            cases h
            refine ⟨_, (o.at 1 rfl).cell rfl, o.wrR (i := 3) rfl, fun w27 hw27 => ?_⟩
            have o := o.setR hw27
            exact ⟨none, 0, 0, [], rfl, rfl, rfl, fun k h => (by cases h), by simp, fun _ => rfl, o.rbox, o.grown⟩
end Go.Proofs.Ytdbdkdmgfiiljaa
