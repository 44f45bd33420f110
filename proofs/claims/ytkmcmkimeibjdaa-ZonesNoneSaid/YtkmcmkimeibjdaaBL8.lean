/-
  A part of a proof that a law of this seat returns true at every input. Conditions: those in each theorem.
-/
import Derived.Test.YtkmcmkimeibjdaaBL7
namespace Go.Proofs.Ytkmcmkimeibjdaa
open Go Eng
set_option linter.unusedSimpArgs false
set_option linter.unusedVariables false
set_option maxRecDepth 100000
/-! ### eight frames -/
def L0 : List Bk := [⟨0, 3, 0⟩]
def L1 : List Bk := [⟨0, 0, 1⟩, ⟨1, 0, 0⟩, ⟨2, 1, 0⟩, ⟨4, 2, 0⟩]
def L2 : List Bk := [⟨0, 0, 1⟩, ⟨1, 0, 0⟩, ⟨2, 1, 0⟩, ⟨4, 2, 1⟩]
def L3 : List Bk := [⟨0, 2, 0⟩, ⟨4, 2, 1⟩]
theorem inv0 : Inv 8 L0 := ⟨by omega, by simp [Tile, L0], by unfold NB L0; decide, by unfold Fr01 L0; decide⟩
theorem inv1 : Inv 8 L1 := ⟨by omega, by simp [Tile, L1], by unfold NB L1; decide, by unfold Fr01 L1; decide⟩
theorem inv2 : Inv 8 L2 := ⟨by omega, by simp [Tile, L2], by unfold NB L2; decide, by unfold Fr01 L2; decide⟩
theorem inv3 : Inv 8 L3 := ⟨by omega, by simp [Tile, L3], by unfold NB L3; decide, by unfold Fr01 L3; decide⟩
theorem Inv.zero {n : Nat} {l l' : List Bk} (h : Inv n l) (h' : Inv n l') (g : ∀ x ∈ l, x.g = 0) (g' : ∀ x ∈ l', x.g = 0) : l = l' :=
  h.same h' fun x hx => ⟨fun hm => by have := g x hm; omega, fun hm => by have := g' x hm; omega⟩
theorem eqBk (x y : Bk) : x = y ↔ x.p = y.p ∧ x.o = y.o ∧ x.g = y.g := by
  cases x; cases y; simp
theorem step1 {a e : Int} {l' : List Bk} (h : TakeR L0 0 false a e l') (hi : Inv 8 l') : a = 0 ∧ e = 0 ∧ l' = L1 := by
  rcases h with ⟨h, _⟩ | ⟨o, h1, _, h2, _⟩ | ⟨o, x, r, h1, h2, h3, h4, h5, h6, h7, h8, h9, h10, _⟩
  · omega
  · have := h2 ⟨0, 3, 0⟩ (by simp [L0]) rfl
    dsimp only at this
    omega
  · simp only [L0, List.mem_singleton] at h3
    subst h3
    simp only [Bool.false_eq_true, if_false] at h8
    have ho : o = 0 := by omega
    subst ho h8
    refine ⟨h7, h9, hi.same inv1 fun y hy => ?_⟩
    rw [h10 y hy]
    simp only [L0, L1, List.mem_singleton, List.mem_cons, List.not_mem_nil, or_false, eqBk]
    omega
theorem step2 {a e : Int} {l' : List Bk} (h : TakeR L1 2 false a e l') (hi : Inv 8 l') : a = 4 ∧ e = 0 ∧ l' = L2 := by
  rcases h with ⟨h, _⟩ | ⟨o, h1, _, h2, _⟩ | ⟨o, x, r, h1, h2, h3, h4, h5, h6, h7, h8, h9, h10, _⟩
  · omega
  · have := h2 ⟨4, 2, 0⟩ (by simp [L1]) rfl
    dsimp only at this
    omega
  · simp only [Bool.false_eq_true, if_false] at h8
    have ho : o = 2 := by omega
    subst ho
    have hx : x = ⟨4, 2, 0⟩ := by
      simp only [L1, List.mem_cons, List.not_mem_nil, or_false] at h3
      rcases h3 with rfl | rfl | rfl | rfl
      · cases h4
      · simp at h2
      · simp at h2
      · rfl
    subst hx
    dsimp only at h8
    subst h8
    refine ⟨h7, h9, hi.same inv2 fun y hy => ?_⟩
    rw [h10 y hy]
    simp only [L1, L2, List.mem_singleton, List.mem_cons, List.not_mem_nil, or_false, eqBk]
    omega
theorem step3 {e : Int} {l' : List Bk} (h : GiveR L2 0 0 e l') (hi : Inv 8 l') : e = 0 ∧ l' = L3 := by
  rcases h with ⟨h, _⟩ | ⟨x, h1, h2, h3, h4, h5, h6, _⟩
  · exact absurd (mem_tk.2 ⟨⟨0, 0, 1⟩, by simp [L2], rfl, rfl, rfl⟩) h
  · have hx : x = ⟨0, 0, 1⟩ := by
      simp only [L2, List.mem_cons, List.not_mem_nil, or_false] at h1
      rcases h1 with rfl | rfl | rfl | rfl
      · rfl
      · cases h2
      · cases h2
      · simp at h3
    subst hx
    refine ⟨h5, hi.same inv3 fun y hy => ?_⟩
    rw [h6 y hy]
    simp only [L2, L3, List.mem_singleton, List.mem_cons, List.not_mem_nil, or_false, eqBk, ne_eq]
    omega
theorem step4 {e : Int} {l' : List Bk} (h : GiveR L3 4 2 e l') (hi : Inv 8 l') : e = 0 ∧ l' = L0 := by
  rcases h with ⟨h, _⟩ | ⟨x, h1, h2, h3, h4, h5, h6, _⟩
  · exact absurd (mem_tk.2 ⟨⟨4, 2, 1⟩, by simp [L3], rfl, rfl, rfl⟩) h
  · have hx : x = ⟨4, 2, 1⟩ := by
      simp only [L3, List.mem_cons, List.not_mem_nil, or_false] at h1
      rcases h1 with rfl | rfl
      · cases h2
      · rfl
    subst hx
    refine ⟨h5, hi.same inv0 fun y hy => ?_⟩
    rw [h6 y hy]
    simp only [L0, L3, List.mem_singleton, List.mem_cons, List.not_mem_nil, or_false, eqBk, ne_eq]
    omega
theorem own0 {X : Nat → Prop} {w w1 w2 : World} (k : Kept none' w w1) (k2 : Kept X w1 w2) (hx : ∀ x, X x → w.heap.size ≤ x) : Kept none' w w2 :=
  k.trans k2 fun x hl h => absurd (hx x h) (by omega)
section
variable {w w' : World} {b t : Nat} {m : Nat → Nat} {n : Nat} {l : List Bk}
theorem free_st (h : BAt w b m t (stOf n l)) (hi : Inv n l) : Calls Try.prog 19 #[ptr b] w fun r w' => r = .returned (.int .i64 (fsum l : Nat)) ∧ w' = w := by
  have := free_spec h (small_st hi.tl hi.n1.2)
  rw [freeOf_st n l fun x hx => (tile_mem hi.tl hx).2.2.2] at this
  exact this
theorem most_sp (h : BAt w b m t (stOf n l)) (hi : Inv n l) : Calls Try.prog 17 #[ptr b] w fun r w' => r = .returned (.int .i64 (mostOf (stOf n l) 11)) ∧ w' = w :=
  most_spec h (small_st hi.tl hi.n1.2)
end
theorem known_spec (w : World) : Calls Try.prog 14 #[] w fun r w' => r = .returned (.bool true) ∧ Kept none' w w' := by
  refine (vc14 w (fun v w' => v = .bool true ∧ Kept none' w w') ?_).mono ?_
  · unfold vcP14
    refine (new_spec w 8).mono ?_
    rintro _ w1 (⟨h, _⟩ | ⟨N, b, m, t, l, hN, rfl, k1, h1, i1, g1, fr1⟩)
    · omega
    have : N = 8 := by omega
    subst this
    have := i1.zero inv0 g1 (by simp [L0])
    subst this
    refine ⟨_, _, rfl, Wif_no rfl ?_⟩
    refine (take_spec h1 i1 0 false).mono ?_
    rintro _ w2 ⟨a, e, l', rfl, k2, h2, i2, r2⟩
    obtain ⟨rfl, rfl, rfl⟩ := step1 r2 i2
    refine ⟨_, _, rfl, (take_spec h2 i2 2 false).mono ?_⟩
    rintro _ w3 ⟨a, e, l', rfl, k3, h3, i3, r3⟩
    obtain ⟨rfl, rfl, rfl⟩ := step2 r3 i3
    refine ⟨_, _, rfl, Wif_yes rfl ((free_st h3 i3).mono ?_)⟩
    rintro _ w4 ⟨rfl, rfl⟩
    refine ⟨_, rfl, Wif_yes rfl ((give_spec h3 i3 0 0).mono ?_)⟩
    rintro _ w5 ⟨e, l', rfl, k5, h5, i5, r5⟩
    obtain ⟨rfl, rfl⟩ := step3 r5 i5
    refine ⟨_, rfl, Wif_yes rfl ((give_spec h5 i5 4 2).mono ?_)⟩
    rintro _ w6 ⟨e, l', rfl, k6, h6, i6, r6⟩
    obtain ⟨rfl, rfl⟩ := step4 r6 i6
    refine ⟨_, rfl, Wif_yes rfl ((most_sp h6 i6).mono ?_)⟩
    rintro _ w7 ⟨rfl, rfl⟩
    exact ⟨_, rfl, rfl, own0 (own0 (own0 (own0 k1 k2 fr1) k3 fr1) k5 fr1) k6 fr1⟩
  · rintro e w' ⟨v, rfl, rfl, hw⟩
    exact ⟨rfl, hw⟩
end Go.Proofs.Ytkmcmkimeibjdaa
