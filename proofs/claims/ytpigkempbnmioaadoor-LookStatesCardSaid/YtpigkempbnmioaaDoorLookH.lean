/- strings.Join, strconv.Itoa (below 100), view.Of: contracts, and what they come to. -/
import Derived.Test.YtpigkempbnmioaaDoorLtK
import Derived.Test.YtpigkempbnmioaaDoorEx
import Derived.Test.YtpigkempbnmioaaDoorViewA
import Derived.Test.YtpigkempbnmioaaDoorShLook
namespace Go.Proofs.YtpigkempbnmioaaDoor
open Go.Vc Go.Lv Go.Ty Go.Proofs

theorem extra156 : Builder.Extra Tryd.prog Tryd.lays156_ren where
  sizeBuilder := by kernel_rfl
  liesBuilder := by kernel_rfl
  t5 := Tryd.underlying5
  a5 := Tryd.isAgg5
  z5 := Tryd.sizeOf5
  v5 := Tryd.zeroValue5
  infoByte := by kernel_rfl
  cellsByte := by kernel_rfl
  sizeByte := by kernel_rfl
  neB5 := by decide
def itoaS (n : Int) : List UInt8 := Lib.decDigits n.toNat
theorem itoa_v (n : Int) (h0 : 0 ≤ n) (h1 : n < 100) (K : List UInt8 → Prop) (h : K (itoaS n)) : V_strconv_Itoa n K := by
  intro m w _
  obtain ⟨i, rfl⟩ : ∃ i : Nat, n = i := ⟨n.toNat, by omega⟩
  have hc := Any.strconv_Itoa_small Tryd.lays171 i (by omega) w
  change Calls Tryd.prog 33 _ _ _ at hc
  refine hc.mono ?_
  rintro e w' ⟨rfl, rfl⟩
  unfold itoaS at h
  rw [Int.toNat_natCast] at h
  exact ⟨_, h, rfl, Keep.refl _ _⟩
theorem el_strs {m : List Nat} {w : World} : ∀ {l : List (List UInt8)} {xs : List Value}, El cStr m w l xs → xs = l.map fun s => .string (mkS s)
  | [], _, ⟨css, rfl, h⟩ => by cases css with | nil => rfl | cons => exact h.elim
  | n :: l, _, ⟨css, rfl, h⟩ => by
    cases css with
    | nil => exact h.elim
    | cons cs css =>
      have h1 : cs = [.string (mkS n)] := h.1
      have := el_strs (l := l) ⟨css, rfl, h.2⟩
      rw [List.flatten_cons, this, h1]; rfl
theorem map_mk (l : List (List UInt8)) : (l.map mkS).map (·.data.toList) = l := by
  rw [List.map_map]
  exact List.map_id l
theorem below_keep {w w' : World} (h : RowKit.Below w.heap.size w w') : Keep [] w w' := Keep.ofExt h
theorem join_v (l : List (List UInt8)) (sep : List UInt8) (hn : l.length ≤ 140737488355328) (hl : (Lib.join l sep).length ≤ 140737488355328) (K : List UInt8 → Prop) (h : K (Lib.join l sep)) : V_strings_Join l sep K := by
  intro m w _ A C hle hs
  cases l with
  | nil =>
    have hc := Any.strings_Join_none Tryd.lays156 extra156 A C (mkS sep) w
    change Calls Tryd.prog 36 _ _ _ at hc
    refine hc.mono ?_
    rintro e w' ⟨rfl, rfl⟩
    exact ⟨[], h, rfl, Keep.refl _ _⟩
  | cons x l =>
    rcases hs with hs | ⟨p, xs, rfl, _, hat, hel⟩
    · cases hs
    have hxs := el_strs hel
    subst hxs
    have c0 := hat 0 (by simp)
    obtain ⟨bk, o, sp⟩ := p
    have hsp : sp = none := by simpa [Addr.add] using cell_spot c0
    subst hsp
    have hlt : bk < w.heap.size := by have := cell_lt c0; rwa [add_mk] at this
    have hc := Any.strings_Join Tryd.lays156 extra156 bk o C ((x :: l).map mkS) (mkS sep) w (fun j y hy => by
      rw [List.getElem?_map] at hy
      obtain ⟨z, hz, rfl⟩ := Option.map_eq_some_iff.1 hy
      obtain ⟨hj, rfl⟩ := List.getElem?_eq_some_iff.1 hz
      have := hat j (by rw [List.length_map]; exact hj)
      rw [add_mk, List.getElem_map] at this
      exact this) hlt (by rw [List.length_map]; exact hn) (by rw [List.length_map]; exact hle) (by rw [map_mk]; exact hl)
    rw [map_mk, List.length_map] at hc
    change Calls Tryd.prog 36 _ _ _ at hc
    refine hc.mono ?_
    rintro e w' ⟨rfl, hb⟩
    exact ⟨_, h, rfl, below_keep hb⟩
def strings_Join_ex (_ : Nat) (l : List (List UInt8)) (sep : List UInt8) : Option (List UInt8) := if l.length ≤ 140737488355328 then (if (Lib.join l sep).length ≤ 140737488355328 then some (Lib.join l sep) else none) else none
theorem strings_Join_exok {n : Nat} {l : List (List UInt8)} {sep r : List UInt8} (h : strings_Join_ex n l sep = some r) (K : List UInt8 → Prop) (hK : K r) : V_strings_Join l sep K := by
  unfold strings_Join_ex at h
  split at h
  · split at h
    · cases h; exact join_v _ _ (by assumption) (by assumption) K hK
    · cases h
  · cases h
def strconv_Itoa_ex (_ : Nat) (n : Int) : Option (List UInt8) := if 0 ≤ n ∧ n < 10 then some [(48 + n.toNat).toUInt8] else none
theorem strconv_Itoa_exok {fu : Nat} {n : Int} {r : List UInt8} (h : strconv_Itoa_ex fu n = some r) (K : List UInt8 → Prop) (hK : K r) : V_strconv_Itoa n K := by
  unfold strconv_Itoa_ex at h
  split at h
  · rename_i hn
    cases h
    refine itoa_v n hn.1 (by omega) K ?_
    have e : itoaS n = [(48 + n.toNat).toUInt8] := by
      have : ∀ i, i < 10 → Lib.decDigits i = [(48 + i).toUInt8] := by decide +kernel
      exact this _ (by omega)
    rw [e]; exact hK
  · cases h
def view_Of_ex (_ : Nat) (c : GCode) (s : GState) : Option GState := if s.procs.length ≤ 20 ∧ (s.procs.all fun p => decide (p.vars.length ≤ 40) && decide (p.alts.length ≤ 40)) = true ∧ s.out.length ≤ 100 then some (viewF c s) else none
theorem view_Of_exok {fu : Nat} {c : GCode} {s r : GState} (h : view_Of_ex fu c s = some r) (K : GState → Prop) (hK : K r) : V_view_Of c s K := by
  unfold view_Of_ex at h
  split at h
  · rename_i hn
    cases h
    refine view_v c s hn.1 (fun p hp => ?_) hn.2.2 K hK
    have := List.all_eq_true.1 hn.2.1 p hp
    simpa using this
  · cases h
end Go.Proofs.YtpigkempbnmioaaDoor
