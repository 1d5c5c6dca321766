/- Layer 10, plain: terms read by levels (the document's way) and by one loop (the program's way). -/
import Derived.Test.YtahppcghgmhkiaaTokH
namespace Go.Tm
open Go.Vc Go.Tk

structure Nd where
  op : Int
  name : List UInt8
  n : Int
  kids : Int
  at_ : Int
  deriving DecidableEq
def ndC (x : Nd) : List Value := [.int .i64 x.op, .string (mkS x.name), .int .i64 x.n, .int .i64 x.kids, .int .i64 x.at_]
theorem ndC_len (x : Nd) : (ndC x).length = 5 := rfl
structure Res where
  l : List Nd
  at_ : Nat
  e : Int

def T (toks : List Tok) (p : Nat) : Tok := toks.getD p Tok.zero
def sgs : List (List UInt8) := [[43], [45], [42], [47], [37], [61, 61], [33, 61], [60], [60, 61], [62], [62, 61], [38, 38], [124, 124]]
def idx (s : List UInt8) : List (List UInt8) → Nat → Int
  | [], _ => 0
  | x :: l, i => if x = s then (5 + i : Nat) else idx s l (i + 1)
def opOf (s : List UInt8) : Int := idx s sgs 0
def levO (op : Int) : Nat :=
  if op = 17 then 1 else if op = 16 then 2 else if 10 ≤ op ∧ op ≤ 15 then 3 else if op = 5 ∨ op = 6 then 4 else if 7 ≤ op ∧ op ≤ 9 then 5 else if op = 3 ∨ op = 4 then 6 else if op = 1 ∨ op = 2 then 7 else 0
theorem opOf_bd (s : List UInt8) : opOf s = 0 ∨ (5 ≤ opOf s ∧ opOf s ≤ 17) := by
  suffices ∀ (l : List (List UInt8)) (i : Nat), idx s l i = 0 ∨ (5 + (i : Int) ≤ idx s l i ∧ idx s l i < 5 + i + l.length) by
    have := this sgs 0
    simp [sgs] at this
    unfold opOf sgs
    omega
  intro l
  induction l with
  | nil => intro i; exact .inl rfl
  | cons x l ih =>
    intro i
    unfold idx
    split
    · right; simp; omega
    · rcases ih (i + 1) with h | h
      · exact .inl h
      · right; simp at h ⊢; omega
theorem lev_bd (s : List UInt8) : (opOf s = 0 ∧ levO (opOf s) = 0) ∨ (opOf s ≠ 0 ∧ 1 ≤ levO (opOf s) ∧ levO (opOf s) ≤ 5) := by
  rcases opOf_bd s with h | ⟨h1, h2⟩
  · left; rw [h]; exact ⟨rfl, by decide⟩
  · right
    refine ⟨by omega, ?_⟩
    unfold levO
    repeat' split
    all_goals omega

inductive Job
  | one (p d : Nat)
  | lev (n p d : Nat)
  | loop (n most d : Nat) (x : Res)

def oneStep (toks : List Tok) (r1 rl : Nat → Nat → Option Res) (p d : Nat) : Option Res :=
  if (T toks p).kind = 2 then some ⟨[⟨1, [], (T toks p).n, 0, (T toks p).at_⟩], p + 1, 0⟩
  else if (T toks p).kind = 1 then some ⟨[⟨2, (T toks p).text, 0, 0, (T toks p).at_⟩], p + 1, 0⟩
  else if (T toks p).kind = 4 ∧ ((T toks p).text = [45] ∨ (T toks p).text = [33]) then
    if d = 24 then some ⟨[], p, 5⟩
    else (r1 (p + 1) (d + 1)).map fun x => if x.e = 0 then ⟨⟨if (T toks p).text = [33] then 4 else 3, [], 0, 1, (T toks p).at_⟩ :: x.l, x.at_, 0⟩ else x
  else if (T toks p).kind = 4 ∧ (T toks p).text = [40] then
    if d = 24 then some ⟨[], p, 5⟩
    else (rl (p + 1) (d + 1)).map fun x => if x.e ≠ 0 then x else if (T toks x.at_).kind = 4 ∧ (T toks x.at_).text = [41] then ⟨x.l, x.at_ + 1, 0⟩ else ⟨[], x.at_, 11⟩
  else some ⟨[], p, 11⟩
/-- two terms and the sign between them -/
def join (toks : List Tok) (x y : Res) : Res := ⟨⟨opOf (T toks x.at_).text, [], 0, 2, (T toks x.at_).at_⟩ :: x.l ++ y.l, y.at_, 0⟩
/-- the level of the sign at a place; 0: none -/
def mine (toks : List Tok) (p : Nat) : Nat := if (T toks p).kind = 4 then levO (opOf (T toks p).text) else 0
theorem mine_le (toks : List Tok) (p : Nat) : mine toks p ≤ 5 := by
  unfold mine
  split
  · rcases lev_bd (T toks p).text with h | h <;> omega
  · omega

/-- the document's way -/
def R (toks : List Tok) : Nat → Job → Option Res
  | 0, _ => none
  | f + 1, .one p d => oneStep toks (fun p d => R toks f (.one p d)) (fun p d => R toks f (.lev 1 p d)) p d
  | f + 1, .lev n p d => if n = 6 then R toks f (.one p d) else (R toks f (.lev (n + 1) p d)).bind fun x => R toks f (.loop n 0 d x)
  | f + 1, .loop n m d x => if x.e ≠ 0 then some x else if mine toks x.at_ = 0 ∨ mine toks x.at_ ≠ n then some x
    else (R toks f (.lev (n + 1) (x.at_ + 1) d)).bind fun y => if y.e ≠ 0 then some y else if n = 3 then some (join toks x y) else R toks f (.loop n m d (join toks x y))
/-- the program's way -/
def P (toks : List Tok) : Nat → Job → Option Res
  | 0, _ => none
  | f + 1, .one p d => oneStep toks (fun p d => P toks f (.one p d)) (fun p d => P toks f (.lev 1 p d)) p d
  | f + 1, .lev n p d => (P toks f (.one p d)).bind fun x => P toks f (.loop n 6 d x)
  | f + 1, .loop n m d x => if x.e ≠ 0 then some x else if mine toks x.at_ = 0 ∨ mine toks x.at_ < n ∨ m < mine toks x.at_ then some x
    else (P toks f (.lev (mine toks x.at_ + 1) (x.at_ + 1) d)).bind fun y => if y.e ≠ 0 then some y else P toks f (.loop n (if mine toks x.at_ = 3 then 2 else mine toks x.at_) d (join toks x y))

theorem oneStep_mono {toks : List Tok} {r1 rl r1' rl' : Nat → Nat → Option Res} (h1 : ∀ p d r, r1 p d = some r → r1' p d = some r) (hl : ∀ p d r, rl p d = some r → rl' p d = some r) {p d : Nat} {r : Res}
    (h : oneStep toks r1 rl p d = some r) : oneStep toks r1' rl' p d = some r := by
  unfold oneStep at *
  split at h
  · rename_i c; rw [if_pos c]; exact h
  · rename_i c
    rw [if_neg c]
    split at h
    · rename_i c; rw [if_pos c]; exact h
    · rename_i c
      rw [if_neg c]
      split at h
      · rename_i c
        rw [if_pos c]
        split at h
        · rename_i c; rw [if_pos c]; exact h
        · rename_i c
          rw [if_neg c]
          obtain ⟨x, hx, rfl⟩ := Option.map_eq_some_iff.1 h
          exact Option.map_eq_some_iff.2 ⟨x, h1 _ _ _ hx, rfl⟩
      · rename_i c
        rw [if_neg c]
        split at h
        · rename_i c
          rw [if_pos c]
          split at h
          · rename_i c; rw [if_pos c]; exact h
          · rename_i c
            rw [if_neg c]
            obtain ⟨x, hx, rfl⟩ := Option.map_eq_some_iff.1 h
            exact Option.map_eq_some_iff.2 ⟨x, hl _ _ _ hx, rfl⟩
        · rename_i c; rw [if_neg c]; exact h
theorem R_succ (toks : List Tok) : ∀ (f : Nat) (j : Job) (r : Res), R toks f j = some r → R toks (f + 1) j = some r := by
  intro f
  induction f with
  | zero => intro j r h; simp [R] at h
  | succ f ih =>
    intro j r h
    cases j with
    | one p d =>
      simp only [R] at h
      show oneStep toks (fun p d => R toks (f + 1) (.one p d)) (fun p d => R toks (f + 1) (.lev 1 p d)) p d = some r
      exact oneStep_mono (fun p d r h => ih _ _ h) (fun p d r h => ih _ _ h) h
    | lev n p d =>
      rw [R] at h ⊢
      split at h
      · rename_i hn; rw [if_pos hn]; exact ih _ _ h
      · rename_i hn
        rw [if_neg hn]
        obtain ⟨x, hx, hr⟩ := Option.bind_eq_some_iff.1 h
        exact Option.bind_eq_some_iff.2 ⟨x, ih _ _ hx, ih _ _ hr⟩
    | loop n m d x =>
      rw [R] at h ⊢
      split at h
      · rename_i he; rw [if_pos he]; exact h
      · rename_i he
        rw [if_neg he]
        split at h
        · rename_i hm; rw [if_pos hm]; exact h
        · rename_i hm
          rw [if_neg hm]
          obtain ⟨y, hy, hr⟩ := Option.bind_eq_some_iff.1 h
          refine Option.bind_eq_some_iff.2 ⟨y, ih _ _ hy, ?_⟩
          split at hr
          · rename_i hye; rw [if_pos hye]; exact hr
          · rename_i hye
            rw [if_neg hye]
            split at hr
            · rename_i h3; rw [if_pos h3]; exact hr
            · rename_i h3; rw [if_neg h3]; exact ih _ _ hr
theorem R_mono (toks : List Tok) {f g : Nat} (hfg : f ≤ g) {j : Job} {r : Res} (h : R toks f j = some r) : R toks g j = some r := by
  induction g with
  | zero => have : f = 0 := by omega
            subst this; exact h
  | succ g ih =>
    rcases Nat.lt_or_ge g f with h1 | h1
    · have : f = g + 1 := by omega
      subst this; exact h
    · exact R_succ _ _ _ _ (ih h1)

/-- the loops of the levels n .. n+k-1, the highest first -/
def chain (toks : List Tok) (g d : Nat) : Nat → Nat → Res → Option Res
  | _, 0, x => some x
  | n, k + 1, x => (chain toks g d (n + 1) k x).bind fun y => R toks g (.loop n 0 d y)
theorem chain_mono (toks : List Tok) {f g d : Nat} (hfg : f ≤ g) : ∀ (k n : Nat) {x r : Res}, chain toks f d n k x = some r → chain toks g d n k x = some r
  | 0, _, _, _, h => h
  | k + 1, n, x, r, h => by
    obtain ⟨y, hy, hr⟩ := Option.bind_eq_some_iff.1 h
    exact Option.bind_eq_some_iff.2 ⟨y, chain_mono toks hfg k (n + 1) hy, R_mono toks hfg hr⟩
theorem chain_split (toks : List Tok) (g d : Nat) : ∀ (a b n : Nat) (x : Res), chain toks g d n (a + b) x = (chain toks g d (n + a) b x).bind (chain toks g d n a)
  | 0, b, n, x => by
    simp only [Nat.zero_add, Nat.add_zero]
    cases chain toks g d n b x <;> rfl
  | a + 1, b, n, x => by
    rw [show a + 1 + b = (a + b) + 1 by omega]
    show (chain toks g d (n + 1) (a + b) x).bind _ = _
    rw [chain_split toks g d a b (n + 1) x, show n + 1 + a = n + (a + 1) by omega]
    cases chain toks g d (n + (a + 1)) b x with
    | none => rfl
    | some y => rfl
theorem chain_idle (toks : List Tok) (g d : Nat) (x : Res) : ∀ (k n : Nat), (x.e ≠ 0 ∨ mine toks x.at_ = 0 ∨ mine toks x.at_ < n ∨ n + k ≤ mine toks x.at_) → chain toks (g + 1) d n k x = some x
  | 0, _, _ => rfl
  | k + 1, n, h => by
    show (chain toks (g + 1) d (n + 1) k x).bind _ = _
    rw [chain_idle toks g d x k (n + 1) (by omega)]
    show R toks (g + 1) (.loop n 0 d x) = _
    rw [R]
    rcases h with h | h
    · rw [if_pos h]
    · split
      · rfl
      · rw [if_pos (by omega)]
theorem chain_lev (toks : List Tok) (g p d : Nat) : ∀ (k n : Nat) (x r : Res), n + k = 6 → R toks g (.one p d) = some x → chain toks g d n k x = some r → ∃ g', R toks g' (.lev n p d) = some r
  | 0, n, x, r, hn, h1, h2 => by
    cases h2
    exact ⟨g + 1, by rw [R, if_pos (by omega)]; exact h1⟩
  | k + 1, n, x, r, hn, h1, h2 => by
    obtain ⟨y, hy, hr⟩ := Option.bind_eq_some_iff.1 h2
    obtain ⟨g', h⟩ := chain_lev toks g p d k (n + 1) x y (by omega) h1 hy
    refine ⟨max g g' + 1, ?_⟩
    rw [R, if_neg (by omega)]
    exact Option.bind_eq_some_iff.2 ⟨y, R_mono toks (Nat.le_max_right _ _) h, R_mono toks (Nat.le_max_left _ _) hr⟩

/-- the program's way is the document's -/
theorem P_R (toks : List Tok) : ∀ (f : Nat), (∀ p d r, P toks f (.one p d) = some r → ∃ g, R toks g (.one p d) = some r) ∧
    (∀ n p d r, 1 ≤ n → n ≤ 6 → P toks f (.lev n p d) = some r → ∃ g, R toks g (.lev n p d) = some r) ∧
    (∀ n m d x r, 1 ≤ n → n ≤ 6 → m ≤ 6 → P toks f (.loop n m d x) = some r → ∃ g, chain toks g d n (min m 5 + 1 - n) x = some r) := by
  intro f
  induction f with
  | zero => exact ⟨fun _ _ _ h => by simp [P] at h, fun _ _ _ _ _ _ h => by simp [P] at h, fun _ _ _ _ _ _ _ _ h => by simp [P] at h⟩
  | succ f ih =>
    obtain ⟨ih1, ih2, ih3⟩ := ih
    refine ⟨fun p d r h => ?_, fun n p d r hn hn6 h => ?_, fun n m d x r hn hn6 hm h => ?_⟩
    · simp only [P] at h
      unfold oneStep at h
      split at h
      · rename_i hk; exact ⟨1, by simp only [R]; unfold oneStep; rw [if_pos hk]; exact h⟩
      · rename_i hk
        split at h
        · rename_i hk1; exact ⟨1, by simp only [R]; unfold oneStep; rw [if_neg hk, if_pos hk1]; exact h⟩
        · rename_i hk1
          split at h
          · rename_i hk2
            split at h
            · rename_i hd; exact ⟨1, by simp only [R]; unfold oneStep; rw [if_neg hk, if_neg hk1, if_pos hk2, if_pos hd]; exact h⟩
            · rename_i hd
              obtain ⟨x, hx, rfl⟩ := Option.map_eq_some_iff.1 h
              obtain ⟨g, hg⟩ := ih1 _ _ _ hx
              exact ⟨g + 1, by simp only [R]; unfold oneStep; rw [if_neg hk, if_neg hk1, if_pos hk2, if_neg hd]; exact Option.map_eq_some_iff.2 ⟨x, hg, rfl⟩⟩
          · rename_i hk2
            split at h
            · rename_i hk3
              split at h
              · rename_i hd; exact ⟨1, by simp only [R]; unfold oneStep; rw [if_neg hk, if_neg hk1, if_neg hk2, if_pos hk3, if_pos hd]; exact h⟩
              · rename_i hd
                obtain ⟨x, hx, rfl⟩ := Option.map_eq_some_iff.1 h
                obtain ⟨g, hg⟩ := ih2 _ _ _ _ (by omega) (by omega) hx
                exact ⟨g + 1, by simp only [R]; unfold oneStep; rw [if_neg hk, if_neg hk1, if_neg hk2, if_pos hk3, if_neg hd]; exact Option.map_eq_some_iff.2 ⟨x, hg, rfl⟩⟩
            · rename_i hk3; exact ⟨1, by simp only [R]; unfold oneStep; rw [if_neg hk, if_neg hk1, if_neg hk2, if_neg hk3]; exact h⟩
    · rw [P] at h
      obtain ⟨x, hx, hr⟩ := Option.bind_eq_some_iff.1 h
      obtain ⟨g1, h1⟩ := ih1 _ _ _ hx
      obtain ⟨g2, h2⟩ := ih3 _ _ _ _ _ hn hn6 (by omega) hr
      exact chain_lev toks (max g1 g2) p d (min 6 5 + 1 - n) n x r (by omega) (R_mono toks (Nat.le_max_left _ _) h1) (chain_mono toks (Nat.le_max_right _ _) _ _ h2)
    · rw [P] at h
      split at h
      · rename_i he
        cases h
        exact ⟨1, chain_idle toks 0 d x _ _ (.inl he)⟩
      · rename_i he
        have hml := mine_le toks x.at_
        split at h
        · rename_i hm'
          cases h
          exact ⟨1, chain_idle toks 0 d x _ _ (by omega)⟩
        · rename_i hm'
          obtain ⟨y, hy, hr⟩ := Option.bind_eq_some_iff.1 h
          obtain ⟨g1, h1⟩ := ih2 _ _ _ _ (by omega) (by omega) hy
          have hfin : ∀ g z, R toks (g + 1) (.loop (mine toks x.at_) 0 d x) = some z → chain toks (g + 1) d n (mine toks x.at_ - n) z = some r → chain toks (g + 1) d n (min m 5 + 1 - n) x = some r := by
            intro g z hz hc
            rw [show min m 5 + 1 - n = (mine toks x.at_ - n) + ((min m 5 - mine toks x.at_) + 1) by omega, chain_split, show n + (mine toks x.at_ - n) = mine toks x.at_ by omega]
            refine Option.bind_eq_some_iff.2 ⟨z, ?_, hc⟩
            show (chain toks (g + 1) d (mine toks x.at_ + 1) (min m 5 - mine toks x.at_) x).bind _ = _
            rw [chain_idle toks g d x _ _ (by omega)]
            exact hz
          split at hr
          · rename_i hye
            have hry : y = r := Option.some.inj hr
            refine ⟨g1 + 1, hfin g1 y ?_ (by rw [← hry]; exact chain_idle toks g1 d y _ _ (.inl hye))⟩
            rw [R, if_neg he, if_neg (by omega)]
            exact Option.bind_eq_some_iff.2 ⟨y, h1, by rw [if_pos hye]⟩
          · rename_i hye
            obtain ⟨g2, h2⟩ := ih3 _ _ _ _ _ hn hn6 (by split <;> omega) hr
            by_cases h3 : mine toks x.at_ = 3
            · rw [if_pos h3] at h2
              refine ⟨max g1 g2 + 1, hfin (max g1 g2) (join toks x y) ?_ (chain_mono toks (f := g2) (by omega) _ _ (by rw [h3]; rw [show min 2 5 + 1 - n = 3 - n by omega] at h2; exact h2))⟩
              rw [R, if_neg he, if_neg (by omega)]
              exact Option.bind_eq_some_iff.2 ⟨y, R_mono toks (Nat.le_max_left _ _) h1, by rw [if_neg hye, if_pos h3]⟩
            · rw [if_neg h3] at h2
              rw [show min (mine toks x.at_) 5 + 1 - n = (mine toks x.at_ - n) + 1 by omega, chain_split, show n + (mine toks x.at_ - n) = mine toks x.at_ by omega] at h2
              obtain ⟨z, hz, hc⟩ := Option.bind_eq_some_iff.1 h2
              have hz' : R toks g2 (.loop (mine toks x.at_) 0 d (join toks x y)) = some z := hz
              refine ⟨max g1 g2 + 1, hfin (max g1 g2) z ?_ (chain_mono toks (by omega) _ _ hc)⟩
              rw [R, if_neg he, if_neg (by omega)]
              exact Option.bind_eq_some_iff.2 ⟨y, R_mono toks (Nat.le_max_left _ _) h1, by rw [if_neg hye, if_neg h3]; exact R_mono toks (Nat.le_max_right _ _) hz'⟩
end Go.Tm
