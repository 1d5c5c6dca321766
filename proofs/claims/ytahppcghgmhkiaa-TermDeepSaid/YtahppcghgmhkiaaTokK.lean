/- The reference's All and Same; the law TokenAll. -/
import Derived.Test.YtahppcghgmhkiaaTokJ
import Derived.Test.YtahppcghgmhkiaaMemC
namespace Go.Proofs.Ytahppcghgmhkiaa
open Go.Vc Go.Tk

theorem allFrom_len (s : List UInt8) : ∀ (f k : Nat) (acc : List Tok), (allFrom s f k acc).1.length ≤ acc.length + f
  | 0, _, acc => by simp [allFrom]
  | f + 1, k, acc => by
    unfold allFrom
    split
    · simp
    · split
      · simp
      · have := allFrom_len s f (nextS s k).2.1 (acc ++ [(nextS s k).1])
        simp at this
        omega
theorem allS_len (s : List UInt8) : (allS s).1.length ≤ s.length + 1 := by
  unfold allS
  split
  · simp
  · have := allFrom_len s (s.length + 1) 0 []
    simpa using this

theorem Same_spec (l : List Tok) (hl : l.length < 2 ^ 40) (a b : Option Addr) (c d : Nat) (w : World) (ha : SlAt w a (flat tokC l)) (hb : SlAt w b (flat tokC l)) :
    Calls Try.prog 31 #[.slice a l.length c, .slice b l.length d] w (Ret fun v w' => v = .bool true ∧ Ext w w') := by
  refine R08_Same_ok _ _ _ _ _ _ _ _ ?_
  refine cond_f (by simp) ⟨fun i w' => ∃ k : Nat, i = k ∧ k ≤ l.length ∧ Ext w w', fun i _ => l.length - i.toNat, ⟨0, rfl, Nat.zero_le _, Ext.refl _⟩, ?_⟩
  rintro _ _ w1 ⟨k, rfl, hk, he⟩
  refine cond_intro (fun hx => ?_) fun hx => ?_
  · have hlt : k < l.length := by simpa using hx
    intro w2 hw2
    have he2 := he.trans (.drew hw2)
    obtain ⟨p, rfl, hp⟩ := (ha.ext he2).elem tokC_len (by decide) hlt
    obtain ⟨q, rfl, hq⟩ := (hb.ext he2).elem tokC_len (by decide) hlt
    refine ⟨⟨by omega, by omega⟩, _, _, _, _, hp, ⟨by omega, by omega⟩, _, _, _, _, hq, cond_f (by simp) ?_⟩
    rw [wrap_in (by omega) (by omega)]
    exact ⟨⟨k + 1, by omega, by omega, he2⟩, by dsimp only; omega⟩
  · exact ⟨rfl, he⟩

theorem rAll_spec (s : List UInt8) (w : World) :
    Calls Try.prog 19 #[.string (mkS s)] w (Ret fun v w' => ∃ a c, v = .agg #[.slice a (allS s).1.length c, .int .i64 (allS s).2.1, .int .i64 (allS s).2.2] ∧ SlAt w' a (flat tokC (allS s).1) ∧ Ext w w') := by
  refine R08_All_ok _ _ _ ?_
  intro b w1 hb hw1
  have o := (Own.start w).alloc hb hw1
  refine cond_intro (fun hx => ?_) fun hx => ?_
  · have : allS s = ([], 0, 5) := by unfold allS; rw [if_pos (by simp at hx; omega)]
    rw [this]
    refine ⟨o.wr 0 rfl rfl, fun w2 hw2 => ?_⟩
    have o := o.sets 0 hw2 rfl
    exact ⟨_, _, _, _, _, (o.at 0 rfl).whole, none, 0, rfl, rfl, o.done⟩
  · have hs : s.length ≤ 65536 := by simp at hx; omega
    have hall : allS s = allFrom s (s.length + 1) 0 [] := by unfold allS; rw [if_neg (by omega)]
    rw [hall]
    intro b1 w3 hb1 hw3
    have o := o.alloc hb1 hw3
    refine ⟨fun x w' => ∃ (acc : List Tok) (f k : Nat) (a : Option Addr) (c : Nat) (y : Int), x = k ∧ acc.length ≤ k ∧ k ≤ s.length ∧ s.length < f + k ∧ allFrom s (s.length + 1) 0 [] = allFrom s f k acc ∧ Rw w' w.heap.size 47 4 a acc.length c (flat tokC acc) ∧ blk a ≠ some b ∧ blk a ≠ some b1 ∧
        Own w.heap.size w w' [(b1, [.slice a acc.length c, .int .i64 y, .int .i64 0]), (b, [.slice none 0 0, .int .i64 0, .int .i64 0])],
      fun x _ => s.length - x.toNat, ⟨[], s.length + 1, 0, none, 0, 0, rfl, Nat.zero_le _, Nat.zero_le _, by omega, rfl, Rw.nil _ _ _ _, by simp [blk], by simp [blk], o⟩, ?_⟩
    clear o
    rintro _ x w4 ⟨acc, f, k, a, c, y, rfl, hacc, hk, hf, heq, hrow, hne, hne1, o⟩
    rw [heq]
    obtain ⟨f, rfl⟩ : ∃ f', f = f' + 1 := ⟨f - 1, by omega⟩
    refine call_then (rNext_spec s (by omega) k w4) ?_
    rintro _ w5 ⟨rfl, he⟩
    have o := o.ext he
    have hrow := hrow.ext he
    refine ⟨_, _, _, _, _, _, rfl, ?_⟩
    intro b2 w6 hb2 hw6
    have hne2 : blk a ≠ some b2 := fun e => by have := (hrow.lt b2 e).2; omega
    have hrow := hrow.ext (.alloc hw6)
    have o := o.alloc hb2 hw6
    refine ⟨o.wr 0 rfl rfl, fun w7 hw7 => ?_⟩
    have o := o.sets 0 hw7 rfl
    have hrow := hrow.sets hw7 hne2
    have hadv := nextS_adv s k hk
    have hstep : allFrom s (f + 1) k acc = if (nextS s k).2.2 ≠ 0 then (([] : List Tok), ((nextS s k).2.1 : Int), (nextS s k).2.2) else if (nextS s k).1.kind = 0 then (acc ++ [(nextS s k).1], (nextS s k).1.at_, 0) else allFrom s f (nextS s k).2.1 (acc ++ [(nextS s k).1]) := rfl
    generalize nextS s k = x at *
    obtain ⟨t, nx, e⟩ := x
    simp only at hadv hstep ⊢
    refine ⟨_, (o.at 0 rfl).cell rfl, cond_intro (fun he => ?_) fun he => ?_⟩
    · have he' : e ≠ 0 := by simpa using he
      rw [hstep, if_pos he']
      refine ⟨_, (o.at 0 rfl).cell rfl, _, (o.at 0 rfl).cell rfl, o.wr 2 rfl rfl, fun w8 hw8 => ?_⟩
      have o := o.sets 2 hw8 rfl
      exact ⟨_, _, _, _, _, (o.at 2 rfl).whole, none, 0, rfl, rfl, o.done⟩
    · have he' : e = 0 := by simpa using he
      subst he'
      rw [if_neg (fun h => h rfl)] at hstep
      refine ⟨_, _, _, (o.at 1 rfl).cell rfl, _, _, _, _, (o.at 0 rfl).cells 0 (m := tokC t) (fun j hj => ?_), ?_⟩
      · have : j < 4 := hj
        match j, this with
        | 0, _ => rfl
        | 1, _ => rfl
        | 2, _ => rfl
        | 3, _ => rfl
      intro b3 w9 hb3 hw9
      have hlt0 := (o.at 0 rfl).lt
      have hlt1 := (o.at 1 rfl).lt
      have hlt2 := (o.at 2 rfl).lt
      have hne3 : blk a ≠ some b3 := fun e => by have := (hrow.lt b3 e).2; omega
      have hrow := hrow.ext (.alloc hw9)
      have o := o.alloc hb3 hw9
      have hsz : w9.heap.size = w7.heap.size + 1 := by rw [hw9]; show (w7.heap.push _).size = _; simp
      refine append_at sl_tok hrow (news := tokC t) (o.at 0 rfl).whole rfl (tokC_one t) (by omega) (by decide) o.le fun a' c' w10 hrow10 hg hat => ?_
      have o := o.grown hg (fun j hj => ⟨(hrow.lt j hj).1, fun p hp => by
        simp only [List.set_cons_zero, List.mem_cons, List.not_mem_nil, or_false] at hp
        rcases hp with rfl | rfl | rfl | rfl
        · exact fun e => hne3 (by rw [hj]; exact congrArg some e.symm)
        · exact fun e => hne2 (by rw [hj]; exact congrArg some e.symm)
        · exact fun e => hne1 (by rw [hj]; exact congrArg some e.symm)
        · exact fun e => hne (by rw [hj]; exact congrArg some e.symm)⟩)
      have far : ∀ z, blk a ≠ some z → z < w9.heap.size → blk a' ≠ some z := fun z h1 h2 h3 => by
        rcases hat with e | e
        · exact h1 (by rw [← e]; exact h3)
        · rw [e] at h3; cases h3; omega
      have far0 := far b hne (by omega)
      have far1 := far b1 hne1 (by omega)
      rw [← flat_snoc] at hrow10
      refine ⟨_, _, _, rfl, o.wr 2 rfl rfl, fun w11 hw11 => ?_⟩
      have o := o.set 2 hw11 rfl
      have hrow11 := hrow10.set hw11 far1
      refine ⟨_, (o.at 1 rfl).cell rfl, o.wr 2 rfl rfl, fun w12 hw12 => ?_⟩
      have o := o.set 2 hw12 rfl
      have hrow12 := hrow11.set hw12 far1
      refine ⟨_, (o.at 1 rfl).cell rfl, cond_intro (fun hk0 => ?_) fun hk0 => ?_⟩
      · have hk0' : t.kind = 0 := by simpa using hk0
        rw [hstep, if_pos hk0']
        refine ⟨_, _, _, _, _, (o.at 2 rfl).whole, o.wr 3 rfl rfl, fun w13 hw13 => ?_⟩
        have o := o.sets 3 hw13 rfl
        have hrow13 := hrow12.sets hw13 far0
        refine ⟨_, _, _, _, _, (o.at 3 rfl).whole, a', c', ?_, hrow13.sl, o.done⟩
        simp
      · have hk0' : t.kind ≠ 0 := by simpa using hk0
        rw [if_neg hk0'] at hstep
        obtain ⟨h1, h2⟩ := hadv rfl hk0'
        refine ⟨_, (o.at 1 rfl).cell rfl, ⟨acc ++ [t], f, nx, a', c', t.at_, rfl, by simp; omega, h2, by omega, hstep, by simpa using hrow12, far0, far1, ⟨o.below, o.le, fun p hp => o.box p ?_, ?_⟩⟩, by dsimp only; omega⟩
        · simp only [List.mem_cons, List.not_mem_nil, or_false] at hp
          rcases hp with rfl | rfl
          · simp
          · simp
        · have := o.dif
          simp only [List.set_cons_zero, List.set_cons_succ, List.map_cons, List.map_nil, List.pairwise_cons] at this ⊢
          exact this.2.2
theorem byte_sl : SlTy Try.prog 55 5 1 1 := ⟨Try.t5, .int .u8 0, by kernel_rfl, by kernel_rfl, by kernel_rfl, by kernel_rfl, by kernel_rfl, by kernel_rfl, by decide⟩
theorem byte_zero (i : TypeInfo) (h : Try.prog.info? 5 = some i) : i.zero = some (.int .u8 0) := by
  have : Try.prog.info? 5 = some Try.t5 := by kernel_rfl
  rw [this] at h; cases h; exact (by kernel_rfl : Try.t5.zero = some (.int .u8 0))

theorem TokenAll_spec (s : List UInt8) (more : Int) (h0 : 0 ≤ more) (h1 : more ≤ 255) (w : World) : Calls Try.prog 9 #[.string (mkS s), .int .u8 more] w (Ret fun v w' => v = .bool true ∧ Ext w w') := by
  refine L08_TokenAll_ok _ _ _ _ ?_
  refine cond_intro (fun hx => ?_) fun hx => ?_
  · refine call_then (live8_spec w) ?_
    rintro _ w1 ⟨rfl, he⟩
    exact ⟨_, rfl, rfl, he⟩
  · refine call_then (All_spec s w) ?_
    rintro _ w2 ⟨a, c, rfl, hsl, he2⟩
    refine ⟨_, _, _, _, _, rfl, call_then (rAll_spec s w2) ?_⟩
    rintro _ w3 ⟨a', c', rfl, hsl', he3⟩
    refine ⟨_, _, _, _, _, rfl, ?_⟩
    intro b w4 hb hw4
    have o := ((Own.start w).ext (he2.trans he3)).alloc hb hw4
    refine ⟨o.wr 0 rfl rfl, fun w5 hw5 => ?_⟩
    have hkeep : ∀ p xs, SlAt w3 p xs → SlAt w5 p xs := by
      intro p xs h
      have h4 := h.ext (.alloc hw4)
      cases p with
      | none => exact h4
      | some p =>
        intro i hi
        have hlt := cell_lt (h i hi)
        have := h4 i hi
        rw [hw5]
        unfold World.cell? setCells at *
        rw [heap_sets (b := b) (i := 0) (k := (p.add i).block) (by omega) _ w4 0]
        exact this
    have hsl5 := hkeep _ _ (hsl.ext he3)
    have hsl5' := hkeep _ _ hsl'
    have o := o.sets 0 hw5 rfl
    rw [wrap_in (n := more) (by omega) (by omega), wrap_in (by omega) (by omega)]
    obtain ⟨m, rfl⟩ : ∃ m : Nat, more = m := ⟨more.toNat, by omega⟩
    rw [show (65537 + (m : Int)) = ((65537 + m : Nat) : Int) by omega]
    refine make_bytes byte_sl byte_zero _ (by omega) fun p w6 hp he6 => ?_
    refine ⟨_, _, _, rfl, ?_⟩
    have hb := bytes_back (P := Try.prog) (src := 55) (dst := 9) (e := 5) bytes_ty byte_ty str_ty (w := w6) (p := p) (c := 65537 + m) (List.replicate (65537 + m) 0) (by rw [List.map_replicate]; exact hp)
      (K := fun v w' => v = .string (mkS (List.replicate (65537 + m) 0)) ∧ w' = w6) ⟨rfl, rfl⟩
    rw [List.length_replicate] at hb
    obtain ⟨_, _, hrun, rfl, rfl⟩ := hb
    refine ⟨_, _, hrun, _, rfl, call_then (All_spec _ _) ?_⟩
    rintro _ w8 ⟨a8, c8, rfl, hsl8, he8⟩
    have h8 : allS (List.replicate (65537 + m) 0) = ([], 0, 5) := by unfold allS; rw [if_pos (by simp; omega)]
    rw [h8]
    have hl : (allS s).1.length < 2 ^ 40 := by have := allS_len s; have : s.length ≤ 1000 := by simp at hx; omega
                                               omega
    have o := o.ext (he6.trans he8)
    refine ⟨_, _, _, _, _, rfl, _, _, _, (o.at 0 rfl).cell rfl, call_then (Same_spec _ hl _ _ _ _ w8 (hsl5.ext (he6.trans he8)) (hsl5'.ext (he6.trans he8))) ?_⟩
    rintro _ w9 ⟨rfl, he9⟩
    have o := o.ext he9
    refine ⟨_, rfl, _, (o.at 0 rfl).cell rfl, cond_t (by simp) ⟨_, (o.at 0 rfl).cell rfl, cond_t (by simp) (cond_t (by simp) (cond_t (by simp) (cond_t (by simp) (call_then (live8_spec _) ?_))))⟩⟩
    rintro _ w10 ⟨rfl, he10⟩
    exact ⟨_, rfl, rfl, o.done.trans he10⟩
end Go.Proofs.Ytahppcghgmhkiaa
