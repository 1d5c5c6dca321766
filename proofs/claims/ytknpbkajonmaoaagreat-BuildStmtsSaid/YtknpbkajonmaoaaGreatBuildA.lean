/- The law BuildStmts, in plain values: both count the statements ahead. -/
import Derived.Test.YtknpbkajonmaoaaGreatBuildL
import Derived.Test.YtknpbkajonmaoaaGreatLtB
import Derived.Test.YtknpbkajonmaoaaGreatLoop
namespace Go.Proofs.YtknpbkajonmaoaaGreat
open Go.Vc Go.Lv Go.Ty

def isSt (x : GNode) : Bool := decide (x.op ≥ 18) && decide (x.op ≤ 31)
def stAt (l : List GNode) (i : Int) : Bool := decide (0 ≤ i) && decide (i < (l.length : Int)) && match l[i.toNat]? with
  | some x => isSt x
  | none => false
def stZ (l : List GNode) (i : Int) : Int := cond (stAt l i) (((l.take i.toNat).countP isSt : Nat) : Int) (-1)
theorem is_v (x : GNode) (K : Bool → Prop) (h : K (isSt x)) : V_R19_Is x K := by
  refine R19_Is_lift _ _ (cond_intro (fun hc => ?_) fun hc => ?_)
  · unfold isSt at h; rw [hc] at h; exact h
  · unfold isSt at h; rw [hc] at h; exact h
theorem is1_v (x : GNode) (K : Bool → Prop) (h : K (isSt x)) : V_build_Stmt_1 x K := by
  refine build_Stmt_1_lift _ _ (cond_intro (fun hc => ?_) fun hc => ?_)
  · unfold isSt at h; rw [hc] at h; exact h
  · unfold isSt at h; rw [hc] at h; exact h
theorem stAt_get {l : List GNode} {i : Int} {x : GNode} (h1 : 0 ≤ i) (h2 : i < l.length) (hx : l[i.toNat]? = some x) : stAt l i = isSt x := by
  unfold stAt
  rw [decide_eq_true h1, decide_eq_true h2, hx]; rfl
theorem stAt_neg {l : List GNode} {i : Int} (h : i < 0 ∨ (l.length : Int) ≤ i) : stAt l i = false := by
  unfold stAt
  rcases h with h | h
  · rw [decide_eq_false (by omega)]; rfl
  · rw [decide_eq_false (by omega : ¬ i < (l.length : Int))]; simp
theorem stAt_pos {l : List GNode} {i : Int} (h : stAt l i = true) : 0 ≤ i ∧ i < l.length := by
  unfold stAt at h
  simp only [Bool.and_eq_true, decide_eq_true_eq] at h
  exact h.1
theorem count_snoc {l : List GNode} {k : Nat} (hk : k < l.length) : (l.take (k + 1)).countP isSt = (l.take k).countP isSt + (if isSt l[k] then 1 else 0) := by
  rw [List.take_add_one, List.getElem?_eq_getElem hk, List.countP_append]
  simp [List.countP_cons]
theorem stmt_v (l : List GNode) (i : Int) (hl : l.length < 1000000) (K : Int → Prop) (h : K (stZ l i)) : V_build_Stmt l i K := by
  refine build_Stmt_lift _ _ _ ⟨fun b => b = !stAt l i, ?_, ?_⟩
  · refine cond_intro (fun hc => ?_) fun hc => cond_intro (fun hd => ?_) fun hd => ?_
    · rw [stAt_neg (.inl (by simpa using hc))]; rfl
    · rw [stAt_neg (.inr (by simpa using hd))]; rfl
    · refine ⟨⟨by simp at hc; omega, by simp at hd; omega⟩, fun x hx => is1_v _ _ ?_⟩
      rw [stAt_get (by simp at hc; omega) (by simp at hd; omega) hx]
  · rintro _ rfl
    refine cond_intro (fun hb => ?_) fun hb => ?_
    · unfold stZ at h; rw [show stAt l i = false by simpa using hb] at h; exact h
    · have hs : stAt l i = true := by simpa using hb
      have hi := stAt_pos hs
      unfold stZ at h; rw [hs] at h
      obtain ⟨a, rfl⟩ : ∃ a : Nat, i = a := ⟨i.toNat, by omega⟩
      rw [Int.toNat_natCast] at h ⊢
      have htl : (l.take a).length = a := by rw [List.length_take]; omega
      rw [htl]
      refine ⟨by omega, fun n k m => At a (fun k => n = ((l.take k).countP isSt : Nat)) k m, ⟨_, At.start (by simp)⟩, ?_⟩
      rintro _ _ _ ⟨k, rfl, hk, rfl, rfl⟩
      have hcnt : (l.take k).countP isSt ≤ k := Nat.le_trans List.countP_le_length (by rw [List.length_take]; omega)
      refine At.cond hk (fun hk => ?_) fun hk => ?_
      · have hkl : k < l.length := by omega
        refine ⟨fun n => n = ((l.take (k + 1)).countP isSt : Nat), ⟨by omega, fun x hx => is1_v _ _ ?_⟩, ?_⟩
        · rw [Int.toNat_natCast, List.getElem?_take_of_lt hk, List.getElem?_eq_getElem hkl] at hx
          cases hx
          rw [count_snoc hkl]
          refine cond_intro (fun hq => ?_) fun hq => ?_
          · rw [if_pos hq, wrap_in (by omega) (by omega)]; omega
          · rw [if_neg (by rw [hq]; decide)]; omega
        · rintro _ rfl
          exact At.next (by omega) hk rfl
      · rw [hk]; exact h
theorem rstmt_v (l : List GNode) (i : Int) (hl : l.length < 1000000) (K : Int → Prop) (h : K (stZ l i)) : V_R19_Stmt l i K := by
  refine R19_Stmt_lift _ _ _ ⟨fun b => b = !stAt l i, ?_, ?_⟩
  · refine cond_intro (fun hc => ?_) fun hc => cond_intro (fun hd => ?_) fun hd => ?_
    · rw [stAt_neg (.inl (by simpa using hc))]; rfl
    · rw [stAt_neg (.inr (by simpa using hd))]; rfl
    · refine ⟨⟨by simp at hc; omega, by simp at hd; omega⟩, fun x hx => is_v _ _ ?_⟩
      rw [stAt_get (by simp at hc; omega) (by simp at hd; omega) hx]
  · rintro _ rfl
    refine cond_intro (fun hb => ?_) fun hb => ?_
    · unfold stZ at h; rw [show stAt l i = false by simpa using hb] at h; exact h
    · have hs : stAt l i = true := by simpa using hb
      have hi := stAt_pos hs
      unfold stZ at h; rw [hs] at h
      obtain ⟨a, rfl⟩ : ∃ a : Nat, i = a := ⟨i.toNat, by omega⟩
      rw [Int.toNat_natCast] at h
      refine ⟨fun n k m => At a (fun k => n = ((l.take k).countP isSt : Nat)) k m, ⟨_, At.start (by simp)⟩, ?_⟩
      rintro _ _ _ ⟨k, rfl, hk, rfl, rfl⟩
      have hcnt : (l.take k).countP isSt ≤ k := Nat.le_trans List.countP_le_length (by rw [List.length_take]; omega)
      refine At.cond hk (fun hk => ?_) fun hk => ?_
      · have hkl : k < l.length := by omega
        refine ⟨fun n => n = ((l.take (k + 1)).countP isSt : Nat), ⟨by omega, fun x hx => is_v _ _ ?_⟩, ?_⟩
        · rw [Int.toNat_natCast, List.getElem?_eq_getElem hkl] at hx
          cases hx
          rw [count_snoc hkl]
          refine cond_intro (fun hq => ?_) fun hq => ?_
          · rw [if_pos hq, wrap_in (by omega) (by omega)]; omega
          · rw [if_neg (by rw [hq]; decide)]; omega
        · rintro _ rfl
          exact At.next (by omega) hk rfl
      · rw [hk]; exact h
theorem live_v (K : Bool → Prop) (h : K true) : V_L19_live K := fun m w hm => call_then (buildStmts.calls19 w) fun v w' hv => ⟨true, h, hv.1, Keep.ofExt hv.2⟩
theorem BuildStmts_v (l : List GNode) (i : Int) (K : Bool → Prop) (h : K true) : V_L19_BuildStmts l i K := by
  refine L19_BuildStmts_lift _ _ _ (cond_intro (fun _ => live_v _ h) fun hc => ?_)
  have hl : l.length < 1000000 := by simp at hc; omega
  exact stmt_v l i hl _ (rstmt_v l i hl _ (cond_t (by simp) (live_v _ h)))
theorem BuildStmts_spec (l : List GNode) (i : Int) (A : Option Addr) (C : Nat) (hc : l.length ≤ C) (w : World) (h1 : SlR cGNode [] w A l) :
    Calls Tryz.prog 3 #[.slice A l.length C, .int .i64 i] w (Ret fun v w' => v = .bool true ∧ Ext w w') := by
  refine call_then (BuildStmts_v l i (· = true) rfl [] w (MOk.nil trivial) A C hc h1) ?_
  rintro _ _ ⟨_, rfl, rfl, k⟩
  exact ⟨rfl, k.ext⟩
end Go.Proofs.YtknpbkajonmaoaaGreat
