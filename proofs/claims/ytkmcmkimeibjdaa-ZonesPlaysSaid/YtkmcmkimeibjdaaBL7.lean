/-
  A part of a proof that a law of this seat returns true at every input. Conditions: those in each theorem.
-/
import Derived.Test.YtkmcmkimeibjdaaBL4
namespace Go.Proofs.Ytkmcmkimeibjdaa
open Go Eng
set_option linter.unusedSimpArgs false
set_option linter.unusedVariables false
set_option maxRecDepth 100000
/-! ### New -/
def Mx (n : Nat) (x : Bk) : Prop := x.o = 10 ∨ x.p % 2 ^ (x.o + 1) ≠ 0 ∨ n < x.p + 2 ^ (x.o + 1)
theorem inv_new {n : Nat} {l : List Bk} (hn : 1 ≤ n ∧ n ≤ 128) (ht : Tile 0 l n) (hg : ∀ x ∈ l, x.g = 0) (hm : ∀ x ∈ l, Mx n x) : Inv n l := by
  refine ⟨hn, ht, fun x hx y hy gx gy eo lt ep em => ?_, fun x hx => .inl (hg x hx)⟩
  have h1 := (tile_mem ht hy).2.1
  have e2 : 2 ^ (x.o + 1) = 2 ^ x.o + 2 ^ x.o := by rw [Nat.pow_succ]; omega
  rw [← eo] at h1
  rcases hm x hx with h | h | h <;> omega
theorem mask_mod (x o : Nat) : x &&& (2 ^ o - 1) = x % 2 ^ o := Nat.and_two_pow_sub_one_eq_mod x o
theorem new_spec (w : World) (n : Int) : Calls Try.prog 13 #[.int .i64 n] w fun r w' =>
    ((n < 1 ∨ 128 < n) ∧ r = .returned (.tuple #[.pointer none, .int .i64 2]) ∧ w' = w) ∨
    ∃ (N : Nat) (b : Nat) (m : Nat → Nat) (t : Nat) (l : List Bk), n = (N : Int) ∧ r = .returned (.tuple #[ptr b, .int .i64 0]) ∧ Kept none' w w' ∧ BAt w' b m t (stOf N l) ∧ Inv N l ∧ (∀ x ∈ l, x.g = 0) ∧ ∀ x, bblk b m t x → w.heap.size ≤ x := by
  refine (vc13 _ w (fun v w' => ((n < 1 ∨ 128 < n) ∧ v = (.tuple #[.pointer none, .int .i64 2]) ∧ w' = w) ∨
    ∃ (N : Nat) (b : Nat) (m : Nat → Nat) (t : Nat) (l : List Bk), n = (N : Int) ∧ v = (.tuple #[ptr b, .int .i64 0]) ∧ Kept none' w w' ∧ BAt w' b m t (stOf N l) ∧ Inv N l ∧ (∀ x ∈ l, x.g = 0) ∧ ∀ x, bblk b m t x → w.heap.size ≤ x) ?_).mono ?_
  · unfold vcP13
    refine Wif_intro (fun hc => ?_) (fun hc => ?_)
    · simp at hc
      exact .inl ⟨by omega, rfl, rfl⟩
    simp at hc
    obtain ⟨N, rfl⟩ : ∃ N : Nat, n = (N : Int) := ⟨n.toNat, by omega⟩
    have hN : 1 ≤ N ∧ N ≤ 128 := by omega
    intro w1 e1
    have k1 : Kept none' w w1 := e1 ▸ (Kept.refl _ _).allocMap _ _
    have mt1 := map_new e1
    intro w2 e2
    have o2 := own_alloc (c := [Value.int .i64 (N : Int)] ++ (List.replicate 11 (.map none) ++ [.map (some w.heap.size)])) e2
    have k2 : Kept none' w w2 := k1.al e2
    have mt2 := mt1.al e2
    have z1 : w1.heap.size = w.heap.size + 1 := by rw [e1]; simp only [World.alloc, Array.size_push]
    generalize ht : w.heap.size = t at *
    generalize hb' : w1.heap.size = b' at *
    have z2 : w2.heap.size = b' + 1 := by rw [e2, ← hb']; simp only [World.alloc, Array.size_push]
    refine ⟨fun k w' M => ∃ (q : Nat) (m' : Nat → Nat), k = q ∧ q ≤ 11 ∧ M = 11 - q ∧ Kept none' w w' ∧ own w' b' (brawN (N : Int) m' t q) ∧ MapIs w' t [] ∧ (∀ o, o < q → MapIs w' (m' o) [] ∧ b' < m' o) ∧ (∀ o o', o < q → o' < q → o ≠ o' → m' o ≠ m' o'),
      ⟨11, 0, fun _ => 0, rfl, by omega, rfl, k2, by rw [brawN_0]; exact o2, mt2, fun o ho => by omega, fun o o' ho => by omega⟩, ?_⟩
    rintro k w4 _ ⟨q, m', rfl, hq, rfl, k4, o4, mt4, mf4, dm4⟩
    refine Wif_intro (fun hc2 => ?_) (fun hc2 => ?_)
    · have hq0 : q < 11 := by simp at hc2; omega
      intro w5 e5
      have m5 := map_new e5
      have k45 : Kept none' w4 w5 := e5 ▸ (Kept.refl _ _).allocMap _ _
      have o5 := o4.al e5
      have z4 := k4.sz
      have ob4 := o4.lt
      refine Wif_yes (inB_of (by omega) (by omega)) ⟨by rw [Int.toNat_natCast, Nat.mul_one]; exact o5.wr (by rw [brawN_len]; omega), ?_⟩
      intro w7 e7
      rw [Int.toNat_natCast, Nat.mul_one] at e7
      have o7 := o5.s1 e7
      rw [brawN_set _ _ _ hq0] at o7
      have k57 : Kept (· = b') w5 w7 := (Kept.refl _ _).s1 e7 (.inl rfl)
      have hm4 : ∀ o, o < q → m' o < w4.heap.size := fun o ho => (mf4 o ho).1.lt
      refine ⟨11 - (q + 1), by omega, q + 1, upd m' q w4.heap.size, by rw [wi (by omega)]; rfl, by omega, rfl, (k4.tr k45).s1 e7 (.inr (by omega)), o7, (mt4.k k45).kx k57 (by omega), fun o ho => ?_, fun o o' ho ho' hne => ?_⟩
      · by_cases hoq : o = q
        · subst hoq
          rw [upd_same]
          exact ⟨m5.kx k57 (by omega), by omega⟩
        · rw [upd_ne _ _ hoq]
          have := mf4 o (by omega)
          exact ⟨(this.1.k k45).kx k57 (by omega), this.2⟩
      · by_cases hoq : o = q
        · subst hoq
          rw [upd_same, upd_ne _ _ (Ne.symm hne)]
          have := hm4 o' (by omega)
          omega
        · rw [upd_ne _ _ hoq]
          by_cases hoq' : o' = q
          · subst hoq'
            rw [upd_same]
            have := hm4 o (by omega)
            omega
          · rw [upd_ne _ _ hoq']
            exact dm4 o o' (by omega) (by omega) hne
    have hq0 : q = 11 := by simp at hc2; omega
    subst hq0
    rw [brawN_11] at o4
    have hB : BAt w4 b' m' t (stOf N []) := ⟨o4, fun o ho => (mf4 o ho).1, mt4, fun o o' ho ho' hne => dm4 o o' ho ho' hne, fun o ho => ⟨by have := (mf4 o ho).2; omega, by have := (mf4 o ho).2; omega⟩, by omega⟩
    have hfresh : ∀ x, bblk b' m' t x → t ≤ x := fun x hx => by
      rcases hx with rfl | rfl | ⟨o, ho, rfl⟩
      · omega
      · omega
      · have := (mf4 o ho).2; omega
    refine ⟨fun at' w' M => ∃ (a : Nat) (L : List Bk), at' = a ∧ a ≤ N ∧ M = N - a ∧ Kept none' w w' ∧ BAt w' b' m' t (stOf N L) ∧ Tile 0 L a ∧ (∀ x ∈ L, x.g = 0) ∧ (∀ x ∈ L, Mx N x),
      ⟨N, 0, [], rfl, by omega, rfl, k4, hB, rfl, fun x hx => (by cases hx), fun x hx => (by cases hx)⟩, ?_⟩
    rintro _ w5 _ ⟨a, L, rfl, ha, rfl, k5, h5, t5, g5, x5⟩
    refine Wif_intro (fun hc3 => ?_) (fun hc3 => ?_)
    · simp at hc3
      refine ⟨fun o w' M => ∃ q : Nat, o = q ∧ q ≤ 10 ∧ w' = w5 ∧ M = 10 - q ∧ a % 2 ^ q = 0 ∧ a + 2 ^ q ≤ N, ⟨10, 0, rfl, by omega, rfl, rfl, Nat.mod_one _, by simp; omega⟩, ?_⟩
      rintro _ _ _ ⟨q, rfl, hq, rfl, rfl, hmod, hfit⟩
      have ew : IntKind.wrap .i64 ((q : Int) + 1) = ((q + 1 : Nat) : Int) := by rw [wi (by omega)]; rfl
      rw [ew]
      refine gIf_intro (fun _ => by simp; omega) ?_
      refine gIf_intro (fun _ => by simp; omega) ?_
      refine Wif_intro (fun hc4 => ?_) (fun hc4 => ?_)
      · simp only [Bool.and_eq_true, decide_eq_true_eq, beq_iff_eq] at hc4
        obtain ⟨⟨c1, c2⟩, c3⟩ := hc4
        have hp := pow10 (o := q + 1) (by omega)
        have hp0 := p2 (q + 1)
        rw [shl1 (by omega), show ((2 ^ (q + 1) : Nat) : Int) - 1 = ((2 ^ (q + 1) - 1 : Nat) : Int) by omega, wi (by omega), and_nat (by omega) (by omega), mask_mod] at c2
        rw [shl1 (by omega), wi (by omega)] at c3
        exact ⟨10 - (q + 1), by omega, q + 1, rfl, by omega, rfl, rfl, by omega, by omega⟩
      · have hmx : Mx N ⟨a, q, 0⟩ := by
          rcases Nat.lt_or_ge q 10 with hlt | hge
          · have hp := pow10 (o := q + 1) (by omega)
            have hp0 := p2 (q + 1)
            rw [shl1 (by omega), show ((2 ^ (q + 1) : Nat) : Int) - 1 = ((2 ^ (q + 1) - 1 : Nat) : Int) by omega, wi (x := ((2 ^ (q + 1) - 1 : Nat) : Int)) (by omega), and_nat (by omega) (by omega), mask_mod, wi (by omega)] at hc4
            by_cases hz : a % 2 ^ (q + 1) = 0
            · refine .inr (.inr (Nat.lt_of_not_le fun hle => ?_))
              dsimp only at hle
              rw [hz, decide_eq_true (show (q : Int) < 10 by omega), decide_eq_true (show (a : Int) + ((2 ^ (q + 1) : Nat) : Int) ≤ (N : Int) by omega)] at hc4
              simp at hc4
            · exact .inr (.inl hz)
          · exact .inl (by dsimp only; omega)
        refine Wif_yes (inB_of (by omega) (by omega)) ⟨_, by rw [Int.toNat_natCast, Nat.mul_one]; exact h5.rm (o := q) (by omega), ?_⟩
        have hp := pow10 (o := q) (by omega)
        have hp0 := p2 q
        obtain ⟨w6, hu, k6, h6⟩ := h5.ins (l' := L ++ [⟨a, q, 0⟩]) (o := q) (by omega) (a := a) (fun hm => by
          obtain ⟨y, hy, _, _, e⟩ := mem_fr.1 hm
          have := (tile_mem t5 hy).2.1
          have := p2 y.o
          omega) (by omega) (by simp only [fr_app, fr_cons]; simp) (fun j _ hj => by simp only [fr_app, fr_cons]; simp [Ne.symm hj]) (by simp [tk_app, tk_cons])
        refine ⟨w6, hu, Wif_yes (by simp) ⟨N - (a + 2 ^ q), by omega, a + 2 ^ q, L ++ [⟨a, q, 0⟩], by rw [shl1 (by omega), wi (by omega)]; omega, hfit, rfl, ?_, h6, tile_app.2 ⟨a, t5, by refine ⟨rfl, hmod, ?_, rfl⟩; dsimp only; omega⟩, fun x hx => ?_, fun x hx => ?_⟩⟩
        · refine k5.trans k6 (fun x hx e => ?_)
          have := hfresh x (.inr (.inr ⟨q, by omega, e⟩))
          omega
        · simp at hx
          rcases hx with h | rfl
          · exact g5 x h
          · rfl
        · simp at hx
          rcases hx with h | rfl
          · exact x5 x h
          · exact hmx
    · simp at hc3
      have : a = N := by omega
      subst this
      exact .inr ⟨a, b', m', t, L, rfl, rfl, k5, h5, inv_new hN t5 g5 x5, g5, hfresh⟩
  · rintro e w' ⟨v, rfl, hw⟩
    rcases hw with ⟨h1, rfl, h2⟩ | ⟨N, b, m, t, l, h1, rfl, h2⟩
    · exact .inl ⟨h1, rfl, h2⟩
    · exact .inr ⟨N, b, m, t, l, h1, rfl, h2⟩
end Go.Proofs.Ytkmcmkimeibjdaa
namespace Go.Proofs.Ytkmcmkimeibjdaa
open Go Eng
set_option linter.unusedSimpArgs false
set_option linter.unusedVariables false
set_option maxRecDepth 100000
/-! ### eight frames -/
def L0 : List Bk := [⟨0, 3, 0⟩]
def L1 : List Bk := [⟨0, 0, 1⟩, ⟨1, 0, 0⟩, ⟨2, 1, 0⟩, ⟨4, 2, 0⟩]
def L2 : List Bk := [⟨0, 0, 1⟩, ⟨1, 0, 0⟩, ⟨2, 1, 0⟩, ⟨4, 2, 1⟩]
def L3 : List Bk := [⟨0, 2, 0⟩, ⟨4, 2, 1⟩]
theorem inv0 : Inv 8 L0 := ⟨by omega, by simp [Tile, L0], by unfold NB L0; decide, by unfold Fr01 L0; decide⟩
theorem inv1 : Inv 8 L1 := ⟨by omega, by simp [Tile, L1], by unfold NB L1; decide, by unfold Fr01 L1; decide⟩
theorem inv2 : Inv 8 L2 := ⟨by omega, by simp [Tile, L2], by unfold NB L2; decide, by unfold Fr01 L2; decide⟩
theorem inv3 : Inv 8 L3 := ⟨by omega, by simp [Tile, L3], by unfold NB L3; decide, by unfold Fr01 L3; decide⟩
theorem Inv.zero {n : Nat} {l l' : List Bk} (h : Inv n l) (h' : Inv n l') (g : ∀ x ∈ l, x.g = 0) (g' : ∀ x ∈ l', x.g = 0) : l = l' :=
  h.same h' fun x hx => ⟨fun hm => by have := g x hm; omega, fun hm => by have := g' x hm; omega⟩
theorem eqBk (x y : Bk) : x = y ↔ x.p = y.p ∧ x.o = y.o ∧ x.g = y.g := by
  cases x; cases y; simp
theorem step1 {a e : Int} {l' : List Bk} (h : TakeR L0 0 false a e l') (hi : Inv 8 l') : a = 0 ∧ e = 0 ∧ l' = L1 := by
  rcases h with ⟨h, _⟩ | ⟨o, h1, _, h2, _⟩ | ⟨o, x, r, h1, h2, h3, h4, h5, h6, h7, h8, h9, h10, _⟩
  · omega
  · have := h2 ⟨0, 3, 0⟩ (by simp [L0]) rfl
    dsimp only at this
    omega
  · simp only [L0, List.mem_singleton] at h3
    subst h3
    simp only [Bool.false_eq_true, if_false] at h8
    have ho : o = 0 := by omega
    subst ho h8
    refine ⟨h7, h9, hi.same inv1 fun y hy => ?_⟩
    rw [h10 y hy]
    simp only [L0, L1, List.mem_singleton, List.mem_cons, List.not_mem_nil, or_false, eqBk]
    omega
theorem step2 {a e : Int} {l' : List Bk} (h : TakeR L1 2 false a e l') (hi : Inv 8 l') : a = 4 ∧ e = 0 ∧ l' = L2 := by
  rcases h with ⟨h, _⟩ | ⟨o, h1, _, h2, _⟩ | ⟨o, x, r, h1, h2, h3, h4, h5, h6, h7, h8, h9, h10, _⟩
  · omega
  · have := h2 ⟨4, 2, 0⟩ (by simp [L1]) rfl
    dsimp only at this
    omega
  · simp only [Bool.false_eq_true, if_false] at h8
    have ho : o = 2 := by omega
    subst ho
    have hx : x = ⟨4, 2, 0⟩ := by
      simp only [L1, List.mem_cons, List.not_mem_nil, or_false] at h3
      rcases h3 with rfl | rfl | rfl | rfl
      · cases h4
      · simp at h2
      · simp at h2
      · rfl
    subst hx
    dsimp only at h8
    subst h8
    refine ⟨h7, h9, hi.same inv2 fun y hy => ?_⟩
    rw [h10 y hy]
    simp only [L1, L2, List.mem_singleton, List.mem_cons, List.not_mem_nil, or_false, eqBk]
    omega
theorem step3 {e : Int} {l' : List Bk} (h : GiveR L2 0 0 e l') (hi : Inv 8 l') : e = 0 ∧ l' = L3 := by
  rcases h with ⟨h, _⟩ | ⟨x, h1, h2, h3, h4, h5, h6, _⟩
  · exact absurd (mem_tk.2 ⟨⟨0, 0, 1⟩, by simp [L2], rfl, rfl, rfl⟩) h
  · have hx : x = ⟨0, 0, 1⟩ := by
      simp only [L2, List.mem_cons, List.not_mem_nil, or_false] at h1
      rcases h1 with rfl | rfl | rfl | rfl
      · rfl
      · cases h2
      · cases h2
      · simp at h3
    subst hx
    refine ⟨h5, hi.same inv3 fun y hy => ?_⟩
    rw [h6 y hy]
    simp only [L2, L3, List.mem_singleton, List.mem_cons, List.not_mem_nil, or_false, eqBk, ne_eq]
    omega
theorem step4 {e : Int} {l' : List Bk} (h : GiveR L3 4 2 e l') (hi : Inv 8 l') : e = 0 ∧ l' = L0 := by
  rcases h with ⟨h, _⟩ | ⟨x, h1, h2, h3, h4, h5, h6, _⟩
  · exact absurd (mem_tk.2 ⟨⟨4, 2, 1⟩, by simp [L3], rfl, rfl, rfl⟩) h
  · have hx : x = ⟨4, 2, 1⟩ := by
      simp only [L3, List.mem_cons, List.not_mem_nil, or_false] at h1
      rcases h1 with rfl | rfl
      · cases h2
      · rfl
    subst hx
    refine ⟨h5, hi.same inv0 fun y hy => ?_⟩
    rw [h6 y hy]
    simp only [L0, L3, List.mem_singleton, List.mem_cons, List.not_mem_nil, or_false, eqBk, ne_eq]
    omega
theorem own0 {X : Nat → Prop} {w w1 w2 : World} (k : Kept none' w w1) (k2 : Kept X w1 w2) (hx : ∀ x, X x → w.heap.size ≤ x) : Kept none' w w2 :=
  k.trans k2 fun x hl h => absurd (hx x h) (by omega)
section
variable {w w' : World} {b t : Nat} {m : Nat → Nat} {n : Nat} {l : List Bk}
theorem free_st (h : BAt w b m t (stOf n l)) (hi : Inv n l) : Calls Try.prog 19 #[ptr b] w fun r w' => r = .returned (.int .i64 (fsum l : Nat)) ∧ w' = w := by
  have := free_spec h (small_st hi.tl hi.n1.2)
  rw [freeOf_st n l fun x hx => (tile_mem hi.tl hx).2.2.2] at this
  exact this
theorem most_sp (h : BAt w b m t (stOf n l)) (hi : Inv n l) : Calls Try.prog 17 #[ptr b] w fun r w' => r = .returned (.int .i64 (mostOf (stOf n l) 11)) ∧ w' = w :=
  most_spec h (small_st hi.tl hi.n1.2)
end
theorem known_spec (w : World) : Calls Try.prog 14 #[] w fun r w' => r = .returned (.bool true) ∧ Kept none' w w' := by
  refine (vc14 w (fun v w' => v = .bool true ∧ Kept none' w w') ?_).mono ?_
  · unfold vcP14
    refine (new_spec w 8).mono ?_
    rintro _ w1 (⟨h, _⟩ | ⟨N, b, m, t, l, hN, rfl, k1, h1, i1, g1, fr1⟩)
    · omega
    have : N = 8 := by omega
    subst this
    have := i1.zero inv0 g1 (by simp [L0])
    subst this
    refine ⟨_, _, rfl, Wif_no rfl ?_⟩
    refine (take_spec h1 i1 0 false).mono ?_
    rintro _ w2 ⟨a, e, l', rfl, k2, h2, i2, r2⟩
    obtain ⟨rfl, rfl, rfl⟩ := step1 r2 i2
    refine ⟨_, _, rfl, (take_spec h2 i2 2 false).mono ?_⟩
    rintro _ w3 ⟨a, e, l', rfl, k3, h3, i3, r3⟩
    obtain ⟨rfl, rfl, rfl⟩ := step2 r3 i3
    refine ⟨_, _, rfl, Wif_yes rfl ((free_st h3 i3).mono ?_)⟩
    rintro _ w4 ⟨rfl, rfl⟩
    refine ⟨_, rfl, Wif_yes rfl ((give_spec h3 i3 0 0).mono ?_)⟩
    rintro _ w5 ⟨e, l', rfl, k5, h5, i5, r5⟩
    obtain ⟨rfl, rfl⟩ := step3 r5 i5
    refine ⟨_, rfl, Wif_yes rfl ((give_spec h5 i5 4 2).mono ?_)⟩
    rintro _ w6 ⟨e, l', rfl, k6, h6, i6, r6⟩
    obtain ⟨rfl, rfl⟩ := step4 r6 i6
    refine ⟨_, rfl, Wif_yes rfl ((most_sp h6 i6).mono ?_)⟩
    rintro _ w7 ⟨rfl, rfl⟩
    exact ⟨_, rfl, rfl, own0 (own0 (own0 (own0 k1 k2 fr1) k3 fr1) k5 fr1) k6 fr1⟩
  · rintro e w' ⟨v, rfl, rfl, hw⟩
    exact ⟨rfl, hw⟩
end Go.Proofs.Ytkmcmkimeibjdaa
