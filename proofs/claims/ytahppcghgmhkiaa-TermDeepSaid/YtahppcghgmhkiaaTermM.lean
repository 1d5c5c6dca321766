/- Layer 10: brackets and signs ahead, as many as one likes: the plain part. -/
import Derived.Test.YtahppcghgmhkiaaTermK
namespace Go.Tm
open Go.Vc Go.Tk Go.Proofs.Ytahppcghgmhkiaa

def kt (t : Tok) : Int × List UInt8 := (t.kind, t.text)
def pre (b : Bool) : List UInt8 := if b then [32] else []
def deepS (n m : Nat) (op : Bool) : List UInt8 := List.replicate n 40 ++ ((List.replicate m [45, 32]).flatten ++ ([120] ++ (if op then [] else List.replicate n 41)))
def deepL (n m : Nat) (op : Bool) : List (Int × List UInt8) := List.replicate n (4, [40]) ++ (List.replicate m (4, [45]) ++ ((1, [120]) :: ((if op then [] else List.replicate n (4, [41])) ++ [(0, [])])))

theorem nextS_gen {s : List UInt8} {a : Nat} {bl : Bool} {u : List UInt8} (ha : a ≤ s.length) (h : s.drop a = pre bl ++ u) (hb : blankN false u = 0) : nextS s a = tokAt u (a + (pre bl).length) := by
  unfold nextS
  rw [if_neg (by omega), Int.toNat_natCast]
  have hbn : blankN false (s.drop a) = (pre bl).length := by
    rw [h]
    cases bl with
    | false => exact hb
    | true =>
      show blankN false (32 :: u) = 1
      unfold blankN
      simp [hb]
  rw [hbn, ← List.drop_drop, h, List.drop_left]
theorem allFrom_tok {s : List UInt8} {f a b : Nat} {acc : List Tok} {t : Tok} (hn : nextS s a = (t, b, 0)) (hk : t.kind ≠ 0) : allFrom s (f + 1) a acc = allFrom s f b (acc ++ [t]) := by
  rw [allFrom, hn]
  simp [hk]
theorem drop_le {s u : List UInt8} {a : Nat} {c : UInt8} (h : s.drop a = c :: u) : a + 1 ≤ s.length := by
  have := congrArg List.length h
  simp at this
  omega
theorem drop_next {s u v : List UInt8} {a : Nat} (h : s.drop a = v ++ u) : s.drop (a + v.length) = u := by
  rw [← List.drop_drop, h, List.drop_left]
theorem sign40 (r : List UInt8) (p : Nat) : tokAt (40 :: r) p = (⟨4, [40], 0, p⟩, p + 1, 0) := by
  rw [tokAt_cons]
  have : signOf (40 :: r) = [40] := by
    unfold signOf
    have : signs2.find? (hasPre · (40 :: r)) = none := by simp [signs2, hasPre]
    rw [this]; rfl
  rw [this]; rfl
theorem sign41 (r : List UInt8) (p : Nat) : tokAt (41 :: r) p = (⟨4, [41], 0, p⟩, p + 1, 0) := by
  rw [tokAt_cons]
  have : signOf (41 :: r) = [41] := by
    unfold signOf
    have : signs2.find? (hasPre · (41 :: r)) = none := by simp [signs2, hasPre]
    rw [this]; rfl
  rw [this]; rfl
theorem sign45 (r : List UInt8) (p : Nat) : tokAt (45 :: r) p = (⟨4, [45], 0, p⟩, p + 1, 0) := by
  rw [tokAt_cons]
  have : signOf (45 :: r) = [45] := by
    unfold signOf
    have : signs2.find? (hasPre · (45 :: r)) = none := by simp [signs2, hasPre]
    rw [this]; rfl
  rw [this]; rfl
theorem parens (c : UInt8) (hc : ∀ r p, tokAt (c :: r) p = (⟨4, [c], 0, p⟩, p + 1, 0)) (hb : ∀ r, blankN false (c :: r) = 0) (s : List UInt8) : ∀ (j f a : Nat) (acc : List Tok) (u : List UInt8), s.drop a = List.replicate j c ++ u →
    ∃ l, allFrom s (j + f) a acc = allFrom s f (a + j) (acc ++ l) ∧ l.map kt = List.replicate j (4, [c]) ∧ s.drop (a + j) = u := by
  intro j
  induction j with
  | zero => intro f a acc u h; exact ⟨[], by simp, rfl, by simpa using h⟩
  | succ j ih =>
    intro f a acc u h
    rw [List.replicate_succ, List.cons_append] at h
    have hle := drop_le h
    have hn := nextS_gen (bl := false) (by omega) h (hb _)
    rw [hc] at hn
    have h' : s.drop (a + 1) = List.replicate j c ++ u := drop_next (v := [c]) h
    obtain ⟨l, h1, h2, h3⟩ := ih f (a + 1) (acc ++ [⟨4, [c], 0, a⟩]) u h'
    refine ⟨⟨4, [c], 0, a⟩ :: l, ?_, ?_, by rw [← h3]; congr 1; omega⟩
    · rw [show j + 1 + f = (j + f) + 1 by omega, allFrom_tok hn (show (4 : Int) ≠ 0 by decide)]
      show allFrom s (j + f) (a + 1) (acc ++ [⟨4, [c], 0, a⟩]) = _
      rw [h1]
      congr 1
      · omega
      · simp
    · rw [List.map_cons, h2, List.replicate_succ]; rfl
theorem minuses (s : List UInt8) : ∀ (j f a : Nat) (bl : Bool) (acc : List Tok) (u : List UInt8), a ≤ s.length → s.drop a = pre bl ++ ((List.replicate j [45, 32]).flatten ++ u) →
    ∃ a' bl' l, allFrom s (j + f) a acc = allFrom s f a' (acc ++ l) ∧ l.map kt = List.replicate j (4, [45]) ∧ s.drop a' = pre bl' ++ u ∧ a' ≤ s.length := by
  intro j
  induction j with
  | zero => intro f a bl acc u ha h; exact ⟨a, bl, [], by simp, rfl, by simpa using h, ha⟩
  | succ j ih =>
    intro f a bl acc u ha h
    have h : s.drop a = pre bl ++ (45 :: (32 :: ((List.replicate j [45, 32]).flatten ++ u))) := by
      rw [h, List.replicate_succ]; simp
    have hn := nextS_gen ha h rfl
    rw [sign45] at hn
    have h1 : s.drop (a + (pre bl).length) = 45 :: (32 :: ((List.replicate j [45, 32]).flatten ++ u)) := drop_next h
    have hle := drop_le h1
    have h2 : s.drop (a + (pre bl).length + 1) = pre true ++ ((List.replicate j [45, 32]).flatten ++ u) := drop_next (v := [45]) h1
    obtain ⟨a', bl', l, e1, e2, e3, e4⟩ := ih f (a + (pre bl).length + 1) true (acc ++ [⟨4, [45], 0, (a + (pre bl).length : Nat)⟩]) u hle h2
    refine ⟨a', bl', ⟨4, [45], 0, (a + (pre bl).length : Nat)⟩ :: l, ?_, ?_, e3, e4⟩
    · rw [show j + 1 + f = (j + f) + 1 by omega, allFrom_tok hn (show (4 : Int) ≠ 0 by decide)]
      show allFrom s (j + f) (a + (pre bl).length + 1) (acc ++ [⟨4, [45], 0, (a + (pre bl).length : Nat)⟩]) = _
      rw [e1]
      simp
    · rw [List.map_cons, e2, List.replicate_succ]; rfl
theorem allFrom_end {s : List UInt8} {f a : Nat} {acc : List Tok} (ha : a ≤ s.length) (h : s.drop a = []) : allFrom s (f + 1) a acc = (acc ++ [⟨0, [], 0, a⟩], (a : Int), 0) := by
  have hn := nextS_gen (bl := false) (u := []) ha h rfl
  rw [allFrom, hn]
  simp [tokAt, pre]
theorem deepS_len (n m : Nat) (op : Bool) : (deepS n m op).length = n + (2 * m + (1 + if op then 0 else n)) := by
  unfold deepS
  have hfl : ∀ m, ((List.replicate m [(45 : UInt8), 32]).flatten).length = 2 * m := by
    intro m
    induction m with
    | zero => rfl
    | succ m ih => rw [List.replicate_succ, List.flatten_cons, List.length_append, ih]; simp; omega
  simp only [List.length_append, List.length_replicate, hfl, List.length_cons, List.length_nil]
  cases op <;> simp
theorem all_deep (n m : Nat) (op : Bool) (hn : n ≤ 255) (hm : m ≤ 255) : (allS (deepS n m op)).1.map kt = deepL n m op := by
  have hlen := deepS_len n m op
  unfold allS
  rw [if_neg (by rw [hlen]; split <;> omega)]
  generalize hf : (deepS n m op).length + 1 = F
  obtain ⟨l1, e1, k1, d1⟩ := parens 40 sign40 (fun _ => rfl) (deepS n m op) n (m + (1 + ((if op then 0 else n) + (m + 1)))) 0 [] _ (by rw [List.drop_zero]; rfl)
  rw [show F = n + (m + (1 + ((if op then 0 else n) + (m + 1)))) by rw [← hf, hlen]; omega, e1]
  obtain ⟨a2, bl2, l2, e2, k2, d2, le2⟩ := minuses (deepS n m op) m (1 + ((if op then 0 else n) + (m + 1))) (0 + n) false ([] ++ l1) _ (by rw [hlen]; omega) d1
  rw [e2]
  generalize hu : (if op then [] else List.replicate n (41 : UInt8)) = u at d2
  have htw : (120 :: u).takeWhile wordC = [120] := by
    rw [← hu]
    cases op with
    | true => rfl
    | false =>
      cases n with
      | zero => rfl
      | succ n => rfl
  have hn3 := nextS_gen le2 d2 rfl
  have ht : tokAt (120 :: u) (a2 + (pre bl2).length) = (⟨1, [120], 0, (a2 + (pre bl2).length : Nat)⟩, a2 + (pre bl2).length + 1, 0) := by
    rw [tokAt_cons, htw]
    rfl
  have hn3 : nextS (deepS n m op) a2 = _ := hn3.trans ht
  have d3 : (deepS n m op).drop (a2 + (pre bl2).length) = 120 :: u := drop_next d2
  have d4 : (deepS n m op).drop (a2 + (pre bl2).length + 1) = u := drop_next (v := [120]) d3
  have le3 := drop_le d3
  rw [show 1 + ((if op then 0 else n) + (m + 1)) = ((if op then 0 else n) + (m + 1)) + 1 by omega, allFrom_tok hn3 (show (1 : Int) ≠ 0 by decide)]
  show ((allFrom (deepS n m op) ((if op then 0 else n) + (m + 1)) (a2 + (pre bl2).length + 1) _).1.map kt) = _
  unfold deepL
  cases op with
  | true =>
    simp only [if_true] at hu ⊢
    subst hu
    rw [Nat.zero_add, allFrom_end le3 d4]
    simp [k1, k2, kt]
  | false =>
    simp only [Bool.false_eq_true, if_false] at hu ⊢
    subst hu
    obtain ⟨l4, e4, k4, d5⟩ := parens 41 sign41 (fun _ => rfl) (deepS n m false) n (m + 1) (a2 + (pre bl2).length + 1) ([] ++ l1 ++ l2 ++ [⟨1, [120], 0, (a2 + (pre bl2).length : Nat)⟩]) [] (by rw [d4]; simp)
    rw [e4, allFrom_end ?_ d5]
    · simp [k1, k2, k4, kt]
    · have := congrArg List.length d4
      simp at this
      omega

/-! what is read -/
theorem T_kt {toks : List Tok} {L : List (Int × List UInt8)} (h : toks.map kt = L) (p : Nat) : kt (T toks p) = L.getD p (0, []) := by
  subst h
  unfold T
  simp only [List.getD_eq_getElem?_getD, List.getElem?_map]
  cases toks[p]? <;> rfl
theorem lev1 {toks : List Tok} {g p d : Nat} {x : Res} (h : R toks g (.one p d) = some x) (hx : x.e ≠ 0 ∨ mine toks x.at_ = 0) : ∃ g', R toks g' (.lev 1 p d) = some x :=
  chain_lev toks (g + 1) p d 5 1 x x rfl (R_mono toks (Nat.le_succ _) h) (chain_idle toks g d x 5 1 (by rcases hx with h | h; exact .inl h; exact .inr (.inl h)))
section
variable {toks : List Tok} {n m : Nat} {op : Bool} (hT : toks.map kt = deepL n m op)
include hT
theorem at_open {p : Nat} (h : p < n) : (T toks p).kind = 4 ∧ (T toks p).text = [40] := by
  have : kt (T toks p) = (4, [40]) := by rw [T_kt hT, deepL, List.getD_eq_getElem?_getD, List.getElem?_append_left (by simpa using h)]; simp [h]
  exact ⟨congrArg Prod.fst this, congrArg Prod.snd this⟩
theorem at_minus {p : Nat} (h1 : n ≤ p) (h : p < n + m) : (T toks p).kind = 4 ∧ (T toks p).text = [45] := by
  have : kt (T toks p) = (4, [45]) := by
    rw [T_kt hT, deepL, List.getD_eq_getElem?_getD, List.getElem?_append_right (by simpa using h1), List.getElem?_append_left (by simp; omega)]
    simp [show p - n < m by omega]
  exact ⟨congrArg Prod.fst this, congrArg Prod.snd this⟩
theorem at_name : (T toks (n + m)).kind = 1 := by
  have : kt (T toks (n + m)) = (1, [120]) := by
    rw [T_kt hT, deepL, List.getD_eq_getElem?_getD, List.getElem?_append_right (by simp), List.getElem?_append_right (by simp)]
    simp
  exact congrArg Prod.fst this
theorem at_close {p : Nat} (ho : op = false) (h1 : n + m + 1 ≤ p) (h : p < n + m + 1 + n) : (T toks p).kind = 4 ∧ (T toks p).text = [41] := by
  have : kt (T toks p) = (4, [41]) := by
    subst ho
    rw [T_kt hT, deepL, List.getD_eq_getElem?_getD, List.getElem?_append_right (by simp; omega), List.getElem?_append_right (by simp; omega)]
    obtain ⟨q, rfl⟩ : ∃ q, p = n + m + 1 + q := ⟨p - (n + m + 1), by omega⟩
    simp only [List.length_replicate, show n + m + 1 + q - n - m = q + 1 by omega, List.getElem?_cons_succ, Bool.false_eq_true, if_false]
    rw [List.getElem?_append_left (by simp; omega)]
    simp [show q < n by omega]
  exact ⟨congrArg Prod.fst this, congrArg Prod.snd this⟩
theorem at_end {p : Nat} (h : n + m + 1 + (if op then 0 else n) ≤ p) : (T toks p).kind = 0 := by
  have : kt (T toks p) = (0, []) := by
    rw [T_kt hT, deepL, List.getD_eq_getElem?_getD, List.getElem?_append_right (by simp; omega), List.getElem?_append_right (by simp; omega)]
    obtain ⟨q, rfl⟩ : ∃ q, p = n + m + 1 + q := ⟨p - (n + m + 1), by omega⟩
    simp only [List.length_replicate, show n + m + 1 + q - n - m = q + 1 by omega, List.getElem?_cons_succ]
    cases op with
    | true =>
      cases q with
      | zero => rfl
      | succ q => rfl
    | false =>
      simp only [Bool.false_eq_true, if_false] at h ⊢
      rw [List.getElem?_append_right (by simp; omega)]
      simp only [List.length_replicate]
      cases q - n with
      | zero => rfl
      | succ q => rfl
  exact congrArg Prod.fst this
theorem idle {p : Nat} (h : n + m + 1 ≤ p) : mine toks p = 0 := by
  unfold mine
  by_cases hp : n + m + 1 + (if op then 0 else n) ≤ p
  · rw [if_neg (by rw [at_end hT hp]; decide)]
  · have ho : op = false := by cases op with | true => simp at hp; omega | false => rfl
    have := at_close hT ho h (by rw [ho] at hp; simp at hp; omega)
    rw [if_pos this.1, this.2]; rfl
theorem read_minus : ∀ (j p d : Nat), p + j = n + m → n ≤ p → d ≤ 24 → ∃ g r, R toks g (.one p d) = some r ∧
    (if 24 < d + j then r = ⟨[], p + (24 - d), 5⟩ else r.l.length = j + 1 ∧ r.at_ = n + m + 1 ∧ r.e = 0) := by
  intro j
  induction j with
  | zero =>
    intro p d hp _ hd
    obtain rfl : p = n + m := by omega
    have h1 := at_name hT
    refine ⟨1, _, by rw [R, oneStep, if_neg (by rw [h1]; decide), if_pos h1], ?_⟩
    rw [if_neg (by omega)]
    exact ⟨rfl, rfl, rfl⟩
  | succ j ih =>
    intro p d hp hn hd
    have h1 := at_minus hT hn (by omega : p < n + m)
    have e : ∀ g, R toks (g + 1) (.one p d) = if d = 24 then some ⟨[], p, 5⟩ else (R toks g (.one (p + 1) (d + 1))).map fun x => if x.e = 0 then ⟨⟨if (T toks p).text = [33] then 4 else 3, [], 0, 1, (T toks p).at_⟩ :: x.l, x.at_, 0⟩ else x := by
      intro g
      rw [R, oneStep, if_neg (by rw [h1.1]; decide), if_neg (by rw [h1.1]; decide), if_pos ⟨h1.1, .inl h1.2⟩]
    by_cases h24 : d = 24
    · refine ⟨1, _, by rw [e 0, if_pos h24], ?_⟩
      rw [if_pos (by omega), h24]; rfl
    · obtain ⟨g, r, hr, hc⟩ := ih (p + 1) (d + 1) (by omega) (by omega) (by omega)
      refine ⟨g + 1, _, by rw [e g, if_neg h24, hr]; rfl, ?_⟩
      by_cases hx : 24 < d + (j + 1)
      · rw [if_pos (by omega)] at hc
        rw [if_pos hx, hc]
        show Res.mk [] (p + 1 + (24 - (d + 1))) 5 = _
        congr 1
        omega
      · rw [if_neg (by omega)] at hc
        rw [if_neg hx]
        dsimp only
        rw [if_pos hc.2.2]
        exact ⟨by simp [hc.1], hc.2.1, rfl⟩
theorem read_open : ∀ (j p d : Nat), p + j = n → d ≤ 24 → ∃ g r, R toks g (.one p d) = some r ∧
    (if 24 < d + j + m then r = ⟨[], p + (24 - d), 5⟩ else if op = true ∧ 0 < j then r = ⟨[], n + m + 1, 11⟩ else r.l.length = m + 1 ∧ r.at_ = n + m + 1 + (if op then 0 else j) ∧ r.e = 0) := by
  intro j
  induction j with
  | zero =>
    intro p d hp hd
    obtain ⟨g, r, hr, hc⟩ := read_minus hT m p d (by omega) (by omega) hd
    refine ⟨g, r, hr, ?_⟩
    by_cases hx : 24 < d + m
    · rw [if_pos hx] at hc
      rw [if_pos (by omega)]; exact hc
    · rw [if_neg hx] at hc
      rw [if_neg (by omega), if_neg (by omega)]
      exact ⟨hc.1, by rw [hc.2.1]; simp, hc.2.2⟩
  | succ j ih =>
    intro p d hp hd
    have h1 := at_open hT (by omega : p < n)
    have e : ∀ g, R toks (g + 1) (.one p d) = if d = 24 then some ⟨[], p, 5⟩ else (R toks g (.lev 1 (p + 1) (d + 1))).map fun x => if x.e ≠ 0 then x else if (T toks x.at_).kind = 4 ∧ (T toks x.at_).text = [41] then ⟨x.l, x.at_ + 1, 0⟩ else ⟨[], x.at_, 11⟩ := by
      intro g
      rw [R, oneStep, if_neg (by rw [h1.1]; decide), if_neg (by rw [h1.1]; decide), if_neg (by rw [h1.2]; simp), if_pos h1]
    by_cases h24 : d = 24
    · refine ⟨1, _, by rw [e 0, if_pos h24], ?_⟩
      rw [if_pos (by omega), h24]; rfl
    · obtain ⟨g, r, hr, hc⟩ := ih (p + 1) (d + 1) (by omega) (by omega)
      by_cases hx : 24 < d + (j + 1) + m
      · rw [if_pos (by omega)] at hc
        obtain ⟨g', hg'⟩ := lev1 hr (.inl (by rw [hc]; simp))
        refine ⟨g' + 1, _, by rw [e g', if_neg h24, hg']; rfl, ?_⟩
        rw [if_pos hx, hc]
        show Res.mk [] (p + 1 + (24 - (d + 1))) 5 = _
        congr 1
        omega
      · rw [if_neg (by omega)] at hc
        by_cases ho : op = true
        · by_cases hj : 0 < j
          · rw [if_pos ⟨ho, hj⟩] at hc
            obtain ⟨g', hg'⟩ := lev1 hr (.inl (by rw [hc]; simp))
            refine ⟨g' + 1, _, by rw [e g', if_neg h24, hg']; rfl, ?_⟩
            rw [if_neg hx, if_pos ⟨ho, by omega⟩, hc]
            simp
          · rw [if_neg (by omega)] at hc
            rw [ho] at hc
            simp only [if_true, Nat.add_zero] at hc
            obtain ⟨g', hg'⟩ := lev1 hr (.inr (idle hT (by omega)))
            refine ⟨g' + 1, _, by rw [e g', if_neg h24, hg']; rfl, ?_⟩
            rw [if_neg hx, if_pos ⟨ho, by omega⟩]
            dsimp only
            rw [if_neg (by simpa using hc.2.2), if_neg (by rw [hc.2.1, at_end hT (by rw [ho]; simp)]; intro h; cases h.1), hc.2.1]
        · have ho : op = false := by simpa using ho
          rw [if_neg (by rw [ho]; simp)] at hc
          simp only [ho, Bool.false_eq_true, if_false] at hc
          obtain ⟨g', hg'⟩ := lev1 hr (.inr (idle hT (by omega)))
          have h41 := at_close hT ho (p := r.at_) (by omega) (by omega)
          refine ⟨g' + 1, _, by rw [e g', if_neg h24, hg']; rfl, ?_⟩
          rw [if_neg hx, if_neg (by rw [ho]; simp)]
          dsimp only
          rw [if_neg (by simpa using hc.2.2), if_pos h41]
          exact ⟨hc.1, by simp only [ho, Bool.false_eq_true, if_false]; omega, rfl⟩
theorem parse_deep : if 24 < n + m then parseOf toks 0 = ⟨[], 24, 5⟩ else if op = true ∧ 0 < n then parseOf toks 0 = ⟨[], n + m + 1, 11⟩ else (parseOf toks 0).l.length = m + 1 ∧ (parseOf toks 0).at_ = n + m + 1 + (if op then 0 else n) ∧ (parseOf toks 0).e = 0 := by
  obtain ⟨g0, h0⟩ := (P_R toks _).2.1 1 _ _ _ (by omega) (by omega) (parseOf_pos toks 0 (by omega))
  obtain ⟨g, r, hr, hc⟩ := read_open hT n 0 0 (by omega) (by omega)
  have hx : r.e ≠ 0 ∨ mine toks r.at_ = 0 := by
    split at hc
    · exact .inl (by rw [hc]; simp)
    · split at hc
      · exact .inl (by rw [hc]; simp)
      · exact .inr (idle hT (by omega))
  obtain ⟨g', hg'⟩ := lev1 hr hx
  have : parseOf toks 0 = r := by
    have a1 := R_mono toks (Nat.le_add_right g0 g') h0
    have a2 := R_mono toks (Nat.le_add_left g' g0) hg'
    have a3 : some (parseOf toks 0) = some r := a1.symm.trans a2
    exact Option.some.inj a3
  rw [this]
  simpa using hc
end
end Go.Tm
