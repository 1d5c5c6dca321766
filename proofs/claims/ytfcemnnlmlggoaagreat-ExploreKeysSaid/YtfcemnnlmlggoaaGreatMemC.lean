/- More about slices: where an appended row lies; bytes made and turned into a string. -/
import Derived.Test.YtfcemnnlmlggoaaGreatMemB
import Derived.Maps.AppendAt
import Derived.Laws.MakeOwn
import Derived.Laws.IdiomStrings
namespace Go.Vc
open Go.RowKit (Below)

theorem append_at {P : Program} {w : World} {base t ty e size bytes : Nat} {a : Option Addr} {n c : Nat} {xs news : List Value} {src : Addr} {m mc : Nat} {K : Value → World → Prop}
    (hT : SlTy P t e size bytes) (h : Rw w base e size a n c xs) (hs : CellsAt w src news) (hl : news.length = m * size) (h1 : ∀ u ∈ news, u.oneCell' = true) (hm : n + m < 2 ^ 32) (hby : bytes < 2 ^ 10) (hbase : base ≤ w.heap.size)
    (hk : ∀ a' c' w', Rw w' base e size a' (n + m) c' (xs ++ news) → w.grownBy w' (blk a) → (blk a' = blk a ∨ blk a' = some w.heap.size) → K (.slice a' (n + m) c') w') :
    SemOk P (Builtin.append_ #[t, t] ty #[.slice a n c, .slice (some src) m mc]) K w := by
  obtain ⟨i, z, ht, hi, hz, hsz, hb, hzs, hpos⟩ := hT
  obtain ⟨v', w', hrun, hown, hg, _, hat⟩ := run_append_own_at w base t ty e i z size bytes ht hi hz hsz hb hzs hpos (.slice a n c) n xs h src m mc news hl
    (fun j u hu => by obtain ⟨h', e'⟩ := List.getElem?_eq_some_iff.1 hu; rw [← e']; exact hs j h') h1 (by unfold maxLen; omega) (by
      have : (n + m) * bytes ≤ 2 ^ 32 * 2 ^ 10 := Nat.mul_le_mul (by omega) (by omega)
      omega) hbase
  rw [ownBlock_eq a n c] at hat hg
  rcases hown.2 with ⟨hv, hn⟩ | ⟨g, cap, cur, hv, _⟩
  · subst hv
    refine ⟨_, w', hrun, ?_⟩
    have := hk none 0 w' (by rw [hn]; rw [hn] at hown; exact hown) hg hat
    rw [hn] at this
    exact this
  · subst hv
    exact ⟨_, w', hrun, hk _ _ w' hown hg hat⟩

/-- bytes made by make, turned into a string -/
theorem make_bytes {P : Program} {t e : TypeId} (hT : SlTy P t e 1 1) (hz : ∀ i, P.info? e = some i → i.zero = some (.int .u8 0)) (n : Nat) (hn : n < 2 ^ 40) {w : World} {K : Value → World → Prop}
    (hk : ∀ p w', CellsAt w' p (List.replicate n (.int .u8 0)) → Ext w w' → K (.slice (some p) n n) w') : SemOk P (Instr.makeSlice t (.int .i64 n) (.int .i64 n)) K w := by
  obtain ⟨i, z, ht, hi, hz', hsz, hb, hzs, hpos⟩ := hT
  have := hz i hi
  rw [hz'] at this
  cases this
  have hr := run_makeSlice w (P := P) t e i (.int .u8 0) ht hi hz' .i64 .i64 n n (by omega) (by omega)
  refine ⟨_, _, run_make w (P := P) t e i (.int .u8 0) ht hi hz' .i64 .i64 n n (by omega) (by omega) (by rw [hb]; omega) (by omega), ?_⟩
  rw [Int.toNat_natCast, hsz, Nat.mul_one]
  refine hk _ _ (fun j hj => ?_) (Ext.alloc rfl)
  rw [add_mk]
  refine new_cell (cs := madeCells (Value.int .u8 0).cells n) (T := e) ?_
  have hj' : j < n := by simpa using hj
  simp [madeCells, hj', Value.cells, Nat.mod_one]
theorem bytes_back {P : Program} {src dst e : TypeId} (hs : P.underlying src = some (.slice e)) (he : P.underlying e = some (.int .u8)) (hd : P.underlying dst = some .string) {w : World} {p : Addr} {c : Nat} (l : List UInt8)
    (hc : CellsAt w p (l.map fun b => .int .u8 (b.toNat : Int))) {K : Value → World → Prop} (hk : K (.string (mkS l)) w) : SemOk P (convert src dst (.slice (some p) l.length c)) K w := by
  refine ⟨_, _, run_convert_bytes_back w src dst e p c l hs he hd (fun j hj => ?_), hk⟩
  have := hc j (by simpa using hj)
  simpa using this
end Go.Vc
