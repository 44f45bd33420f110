/-
  A part of a proof that a law of this seat returns true at every input. Conditions: those in each theorem.
-/
import Derived.Test.YtkmcmkimeibjdaaBD3
set_option linter.unusedSimpArgs false
set_option linter.unusedVariables false
namespace Go.Proofs.Ytkmcmkimeibjdaa
/-! ### what maps a row of blocks has -/
def fr (o : Nat) (l : List Bk) : List Int := (l.filter fun x => x.g == 0 && x.o == o).map fun x => (x.p : Int)
def tk (l : List Bk) : List (Int × Int) := (l.filter fun x => x.g == 1).map fun x => ((x.p : Int), (x.o : Int))
def fsum : List Bk → Nat
  | [] => 0
  | x :: l => (if x.g = 0 then 2 ^ x.o else 0) + fsum l
@[simp] theorem fr_nil (o : Nat) : fr o [] = [] := rfl
@[simp] theorem tk_nil : tk [] = [] := rfl
theorem fr_app (o : Nat) (l l' : List Bk) : fr o (l ++ l') = fr o l ++ fr o l' := by simp [fr]
theorem tk_app (l l' : List Bk) : tk (l ++ l') = tk l ++ tk l' := by simp [tk]
theorem fr_yes {o : Nat} {x : Bk} (l : List Bk) (hg : x.g = 0) (ho : x.o = o) : fr o (x :: l) = (x.p : Int) :: fr o l := by simp [fr, hg, ho]
theorem fr_no {o : Nat} {x : Bk} (l : List Bk) (h : ¬ (x.g = 0 ∧ x.o = o)) : fr o (x :: l) = fr o l := by
  unfold fr
  rw [List.filter_cons_of_neg (by simpa using h)]
theorem tk_yes {x : Bk} (l : List Bk) (hg : x.g = 1) : tk (x :: l) = ((x.p : Int), (x.o : Int)) :: tk l := by simp [tk, hg]
theorem tk_no {x : Bk} (l : List Bk) (h : x.g ≠ 1) : tk (x :: l) = tk l := by
  unfold tk
  rw [List.filter_cons_of_neg (by simpa using h)]
theorem mem_fr {o : Nat} {l : List Bk} {k : Int} : k ∈ fr o l ↔ ∃ x ∈ l, x.g = 0 ∧ x.o = o ∧ (x.p : Int) = k := by
  unfold fr
  constructor
  · intro h
    obtain ⟨x, hx, e⟩ := List.mem_map.1 h
    obtain ⟨h1, h2⟩ := List.mem_filter.1 hx
    simp only [Bool.and_eq_true, beq_iff_eq] at h2
    exact ⟨x, h1, h2.1, h2.2, e⟩
  · rintro ⟨x, h1, h2, h3, e⟩
    exact List.mem_map.2 ⟨x, List.mem_filter.2 ⟨h1, by simp [h2, h3]⟩, e⟩
theorem mem_tk {l : List Bk} {k j : Int} : (k, j) ∈ tk l ↔ ∃ x ∈ l, x.g = 1 ∧ (x.p : Int) = k ∧ (x.o : Int) = j := by
  unfold tk
  constructor
  · intro h
    obtain ⟨x, hx, e⟩ := List.mem_map.1 h
    obtain ⟨h1, h2⟩ := List.mem_filter.1 hx
    simp only [beq_iff_eq] at h2
    simp only [Prod.mk.injEq] at e
    exact ⟨x, h1, h2, e.1, e.2⟩
  · rintro ⟨x, h1, h2, h3, e⟩
    exact List.mem_map.2 ⟨x, List.mem_filter.2 ⟨h1, by simp [h2]⟩, by simp [h3, e]⟩
theorem fsum_app (l l' : List Bk) : fsum (l ++ l') = fsum l + fsum l' := by
  induction l with
  | nil => simp [fsum]
  | cons x l ih => simp only [List.cons_append, fsum, ih]; omega
/-- without those at a place where no block begins -/
theorem fr_filter {o : Nat} {l : List Bk} {a : Nat} (h : ∀ x ∈ l, x.p ≠ a) : (fr o l).filter (fun k => k != (a : Int)) = fr o l := by
  rw [List.filter_eq_self]
  intro k hk
  obtain ⟨x, hx, _, _, e⟩ := mem_fr.1 hk
  have := h x hx
  simp only [bne_iff_ne, ne_eq]
  omega
theorem tk_filter {l : List Bk} {a : Nat} (h : ∀ x ∈ l, x.p ≠ a) : (tk l).filter (fun k => k.1 != (a : Int)) = tk l := by
  rw [List.filter_eq_self]
  rintro ⟨k, j⟩ hk
  obtain ⟨x, hx, _, e, _⟩ := mem_tk.1 hk
  have := h x hx
  simp only [bne_iff_ne, ne_eq]
  omega
/-- a block's place is no other block's -/
theorem sep_ne {A B : List Bk} {x : Bk} {a b : Nat} (h : Tile a (A ++ x :: B) b) {k : Nat} (h1 : x.p ≤ k) (h2 : k < x.p + 2 ^ x.o) : (∀ y ∈ A, y.p ≠ k) ∧ (∀ y ∈ B, y.p ≠ k) := by
  obtain ⟨hA, hB⟩ := tile_sep h
  refine ⟨fun y hy => ?_, fun y hy => ?_⟩
  · have := hA y hy; have := p2 y.o; omega
  · have := hB y hy; omega
/-- the invariant, with a block in hand -/
structure Mid (n : Nat) (A : List Bk) (x : Bk) (B : List Bk) : Prop where
  n1 : 1 ≤ n ∧ n ≤ 128
  tl : Tile 0 (A ++ x :: B) n
  nb : NB (A ++ B)
  g01 : Fr01 (A ++ B)
theorem Inv.mid {n : Nat} {A B : List Bk} {x y : Bk} (h : Inv n (A ++ x :: B)) (e : y.p = x.p) (e' : y.o = x.o) : Mid n A y B := by
  refine ⟨h.n1, ?_, h.nb.sub fun z hz _ => by simp at hz ⊢; rcases hz with h | h <;> simp [h], fun z hz => h.g01 z (by simp at hz ⊢; rcases hz with h | h <;> simp [h])⟩
  obtain ⟨h1, h2, h3, h4⟩ := tile_mid h.tl
  exact tile_mid' (by rw [e]; exact h1) (by rw [e, e']; exact h2) (by rw [e, e']; exact h3) (by rw [e']; exact h4)
theorem Mid.num {n : Nat} {A B : List Bk} {x : Bk} (h : Mid n A x B) : x.p + 2 ^ x.o ≤ n ∧ x.o ≤ 7 ∧ x.p % 2 ^ x.o = 0 := by
  have := tile_mem h.tl (x := x) (by simp)
  refine ⟨this.2.1, ?_, this.2.2.1⟩
  refine Nat.le_of_not_lt fun hlt => ?_
  have h8 := Nat.pow_le_pow_right (n := 2) (by omega) (show 8 ≤ x.o from hlt)
  have := h.n1
  omega
/-- a block halved: the lower half in hand -/
theorem Mid.lo {n : Nat} {A B : List Bk} {a o g g' : Nat} (h : Mid n A ⟨a, o + 1, g⟩ B) : Mid n A ⟨a, o, g'⟩ (⟨a + 2 ^ o, o, 0⟩ :: B) := by
  obtain ⟨h1, h2, h3, h4⟩ := tile_mid h.tl
  dsimp only at h1 h2 h3 h4
  have e2 : 2 ^ (o + 1) = 2 ^ o + 2 ^ o := by rw [Nat.pow_succ]; omega
  refine ⟨h.n1, tile_mid' h1 ⟨rfl, mod_add (mod_le (o1 := o) h3 (by omega)) (Nat.mod_self _), by dsimp only; omega, by dsimp only; rw [Nat.add_assoc, ← e2]; exact h2⟩ (mod_le (o1 := o) h3 (by omega)) (by dsimp only; omega), ?_, ?_⟩
  · obtain ⟨hA, hB⟩ := tile_sep h.tl
    dsimp only at hA hB
    intro x hx y hy gx gy eo lt ep em
    have hp := p2 o
    have mx : x ∈ A ++ B ∨ x = ⟨a + 2 ^ o, o, 0⟩ := by simp at hx ⊢; rcases hx with h | h | h <;> simp [h]
    have my : y ∈ A ++ B ∨ y = ⟨a + 2 ^ o, o, 0⟩ := by simp at hy ⊢; rcases hy with h | h | h <;> simp [h]
    rcases mx with mx | rfl
    · rcases my with my | rfl
      · exact h.nb x mx y my gx gy eo lt ep em
      · dsimp only at eo ep
        have : x.p = a := by rw [eo] at ep; omega
        rcases List.mem_append.1 mx with hm | hm
        · have := hA x hm; have := p2 x.o; omega
        · have := hB x hm; have := p2 x.o; omega
    · rcases my with my | rfl
      · dsimp only at em
        have d := (Nat.dvd_add_right (Nat.dvd_of_mod_eq_zero h3)).1 (Nat.dvd_of_mod_eq_zero em)
        have := Nat.le_of_dvd hp d
        omega
      · dsimp only at ep; omega
  · intro x hx
    have mx : x ∈ A ++ B ∨ x = ⟨a + 2 ^ o, o, 0⟩ := by simp at hx ⊢; rcases hx with h | h | h <;> simp [h]
    rcases mx with mx | rfl
    · exact h.g01 x mx
    · exact .inl rfl
/-- a block halved: the upper half in hand -/
theorem Mid.hi {n : Nat} {A B : List Bk} {a o g g' : Nat} (h : Mid n A ⟨a, o + 1, g⟩ B) : Mid n (A ++ [⟨a, o, 0⟩]) ⟨a + 2 ^ o, o, g'⟩ B := by
  obtain ⟨h1, h2, h3, h4⟩ := tile_mid h.tl
  dsimp only at h1 h2 h3 h4
  have e2 : 2 ^ (o + 1) = 2 ^ o + 2 ^ o := by rw [Nat.pow_succ]; omega
  refine ⟨h.n1, tile_mid' (tile_app.2 ⟨a, h1, rfl, mod_le (o1 := o) h3 (by omega), by dsimp only; omega, rfl⟩) (by dsimp only; rw [Nat.add_assoc, ← e2]; exact h2) (mod_add (mod_le (o1 := o) h3 (by omega)) (Nat.mod_self _)) (by dsimp only; omega), ?_, ?_⟩
  · obtain ⟨hA, hB⟩ := tile_sep h.tl
    dsimp only at hA hB
    intro x hx y hy gx gy eo lt ep em
    have hp := p2 o
    have mx : x ∈ A ++ B ∨ x = ⟨a, o, 0⟩ := by simp at hx ⊢; rcases hx with h | h | h <;> simp [h]
    have my : y ∈ A ++ B ∨ y = ⟨a, o, 0⟩ := by simp at hy ⊢; rcases hy with h | h | h <;> simp [h]
    rcases mx with mx | rfl
    · rcases my with my | rfl
      · exact h.nb x mx y my gx gy eo lt ep em
      · dsimp only at eo ep
        rw [eo] at ep em
        have d := (Nat.dvd_add_right (Nat.dvd_of_mod_eq_zero em)).1 (by rw [← ep]; exact Nat.dvd_of_mod_eq_zero h3)
        have := Nat.le_of_dvd hp d
        omega
    · rcases my with my | rfl
      · dsimp only at ep
        rcases List.mem_append.1 my with hm | hm
        · have := hA y hm; have := p2 y.o; omega
        · have := hB y hm; have := p2 y.o; omega
      · dsimp only at ep; omega
  · intro x hx
    have mx : x ∈ A ++ B ∨ x = ⟨a, o, 0⟩ := by simp at hx ⊢; rcases hx with h | h | h <;> simp [h]
    rcases mx with mx | rfl
    · exact h.g01 x mx
    · exact .inl rfl
/-- put down as taken -/
theorem Mid.take {n : Nat} {A B : List Bk} {a o g : Nat} (h : Mid n A ⟨a, o, g⟩ B) : Inv n (A ++ ⟨a, o, 1⟩ :: B) := by
  obtain ⟨h1, h2, h3, h4⟩ := tile_mid h.tl
  refine ⟨h.n1, tile_mid' h1 h2 h3 h4, h.nb.sub fun z hz gz => ?_, fun z hz => ?_⟩
  · simp at hz ⊢
    rcases hz with h | rfl | h
    · simp [h]
    · cases gz
    · simp [h]
  · simp at hz
    rcases hz with h' | rfl | h'
    · exact h.g01 z (by simp [h'])
    · exact .inr rfl
    · exact h.g01 z (by simp [h'])
/-- the other half of the block that a block would be a half of -/
def bud (a o : Nat) : Nat := if a / 2 ^ o % 2 = 0 then a + 2 ^ o else a - 2 ^ o
theorem half_even {a o : Nat} (h : a % 2 ^ o = 0) : a / 2 ^ o % 2 = 0 ↔ a % 2 ^ (o + 1) = 0 := by
  have hp := p2 o
  have e := Nat.div_add_mod a (2 ^ o)
  rw [h, Nat.add_zero] at e
  rw [Nat.pow_succ, Nat.mod_mul, h]
  simp only [Nat.zero_add, Nat.mul_eq_zero]
  omega
/-- put down as free, where its other half is not free -/
theorem Mid.free {n : Nat} {A B : List Bk} {a o g : Nat} (h : Mid n A ⟨a, o, g⟩ B) (hb : o < 10 → ((bud a o : Nat) : Int) ∉ fr o (A ++ B)) : Inv n (A ++ ⟨a, o, 0⟩ :: B) := by
  obtain ⟨h1, h2, h3, h4⟩ := tile_mid h.tl
  dsimp only at h3
  refine ⟨h.n1, tile_mid' h1 h2 h3 h4, ?_, fun z hz => ?_⟩
  · intro x hx y hy gx gy eo lt ep em
    have mx : x ∈ A ++ B ∨ x = ⟨a, o, 0⟩ := by simp at hx ⊢; rcases hx with h | h | h <;> simp [h]
    have my : y ∈ A ++ B ∨ y = ⟨a, o, 0⟩ := by simp at hy ⊢; rcases hy with h | h | h <;> simp [h]
    rcases mx with mx | rfl
    · rcases my with my | rfl
      · exact h.nb x mx y my gx gy eo lt ep em
      · dsimp only at eo ep
        rw [eo] at ep em lt
        refine hb lt (mem_fr.2 ⟨x, mx, gx, eo, ?_⟩)
        unfold bud
        rw [if_neg (fun e => ?_)]
        · omega
        · rw [half_even h3, ep] at e
          have d := (Nat.dvd_add_right (Nat.dvd_of_mod_eq_zero em)).1 (Nat.dvd_of_mod_eq_zero e)
          have := Nat.le_of_dvd (p2 o) d
          rw [Nat.pow_succ] at this
          have := p2 o
          omega
    · rcases my with my | rfl
      · dsimp only at eo ep em lt
        refine hb lt (mem_fr.2 ⟨y, my, gy, eo.symm, ?_⟩)
        unfold bud
        rw [if_pos ((half_even h3).2 em), ep]
      · have := p2 o
        dsimp only at ep; omega
  · simp at hz
    rcases hz with h' | rfl | h'
    · exact h.g01 z (by simp [h'])
    · exact .inl rfl
    · exact h.g01 z (by simp [h'])
/-- made one with its other half -/
theorem Mid.one {n : Nat} {A B : List Bk} {a o g g' : Nat} (h : Mid n A ⟨a, o, g⟩ B) (ho : o < 10) (hb : ((bud a o : Nat) : Int) ∈ fr o (A ++ B)) :
    (a / 2 ^ o % 2 = 0 ∧ ∃ B', B = ⟨a + 2 ^ o, o, 0⟩ :: B' ∧ Mid n A ⟨a, o + 1, g'⟩ B') ∨ (a / 2 ^ o % 2 = 1 ∧ ∃ A', A = A' ++ [⟨a - 2 ^ o, o, 0⟩] ∧ 2 ^ o ≤ a ∧ Mid n A' ⟨a - 2 ^ o, o + 1, g'⟩ B) := by
  obtain ⟨h1, h2, h3, h4⟩ := tile_mid h.tl
  dsimp only at h1 h2 h3 h4
  obtain ⟨⟨yp, yo, yg⟩, hy, gy, oy, py⟩ := mem_fr.1 hb
  dsimp only at gy oy py
  subst gy oy
  have hp := p2 yo
  have e2 : 2 ^ (yo + 1) = 2 ^ yo + 2 ^ yo := by rw [Nat.pow_succ]; omega
  have py' : yp = bud a yo := by omega
  obtain ⟨hA, hB⟩ := tile_sep h.tl
  dsimp only at hA hB
  unfold bud at py'
  split at py' <;> rename_i hev
  · left
    refine ⟨hev, ?_⟩
    rcases List.mem_append.1 hy with hm | hm
    · have := hA _ hm; dsimp only at this; omega
    · have hle := tile_mem h2 hm
      dsimp only at hle
      obtain ⟨z, B', rfl, ez, hz⟩ := tile_first h2 (by omega)
      have : z = ⟨yp, yo, 0⟩ := tile_start h2 (by simp) hm (by dsimp only; omega)
      subst this
      dsimp only at ez hz
      subst ez
      refine ⟨B', rfl, h.n1, tile_mid' h1 (by dsimp only; rw [e2, ← Nat.add_assoc]; exact hz) ((half_even h3).1 hev) (by dsimp only; omega), h.nb.sub fun z hz _ => ?_, fun z hz => h.g01 z ?_⟩ <;>
      · simp at hz ⊢
        rcases hz with h | h <;> simp [h]
  · right
    have hod : a / 2 ^ yo % 2 = 1 := by omega
    have hle : 2 ^ yo ≤ a := by
      refine Nat.le_of_not_lt fun hlt => ?_
      rw [Nat.div_eq_of_lt hlt] at hod
      cases hod
    refine ⟨hod, ?_⟩
    rcases List.mem_append.1 hy with hm | hm
    · obtain ⟨A', z, rfl, ez, hz⟩ := tile_last h1 (by omega)
      have hs := tile_pw h1
      have : z = ⟨yp, yo, 0⟩ := by
        simp at hm
        rcases hm with hm | hm
        · have := (List.pairwise_append.1 hs).2.2 _ hm z (by simp)
          dsimp only at this
          have := p2 z.o
          omega
        · exact hm.symm
      subst this
      dsimp only at ez hz
      subst py'
      have hm2 : (a - 2 ^ yo) % 2 ^ (yo + 1) = 0 := by
        have hm3 : (a - 2 ^ yo) % 2 ^ yo = 0 := by
          have := Nat.mod_eq_zero_of_dvd (Nat.dvd_sub (Nat.dvd_of_mod_eq_zero h3) (Nat.dvd_refl (2 ^ yo)))
          exact this
        rw [← half_even hm3]
        have : (a - 2 ^ yo) / 2 ^ yo = a / 2 ^ yo - 1 := by
          have := Nat.sub_mul_div a (2 ^ yo) 1
          rw [Nat.mul_one] at this
          exact this
        rw [this]
        omega
      refine ⟨A', rfl, hle, h.n1, tile_mid' hz (by dsimp only; rw [e2, ← Nat.add_assoc, Nat.sub_add_cancel hle]; exact h2) hm2 (by dsimp only; omega), h.nb.sub fun z hz _ => ?_, fun z hz => h.g01 z ?_⟩ <;>
      · simp at hz ⊢
        rcases hz with h | h <;> simp [h]
    · have := hB _ hm; dsimp only at this; omega
end Go.Proofs.Ytkmcmkimeibjdaa
namespace Go.Proofs.Ytkmcmkimeibjdaa
open Go Eng
set_option linter.unusedSimpArgs false
set_option linter.unusedVariables false
set_option maxRecDepth 100000
/-! ### a node at a world, as a row of blocks -/
def stOf (n : Nat) (l : List Bk) : Bst := ⟨n, fun o => fr o l, tk l⟩
theorem fr_cons (j : Nat) (x : Bk) (l : List Bk) : fr j (x :: l) = (if x.g = 0 ∧ x.o = j then [(x.p : Int)] else []) ++ fr j l := by
  by_cases h : x.g = 0 ∧ x.o = j
  · rw [fr_yes _ h.1 h.2, if_pos h]; rfl
  · rw [fr_no _ h, if_neg h]; rfl
theorem tk_cons (x : Bk) (l : List Bk) : tk (x :: l) = (if x.g = 1 then [((x.p : Int), (x.o : Int))] else []) ++ tk l := by
  by_cases h : x.g = 1
  · rw [tk_yes _ h, if_pos h]; rfl
  · rw [tk_no _ h, if_neg h]; rfl
theorem fr_len (j : Nat) (l : List Bk) : (fr j l).length ≤ l.length := by
  unfold fr; rw [List.length_map]; exact List.length_filter_le _ _
theorem tk_len (l : List Bk) : (tk l).length ≤ l.length := by
  unfold tk; rw [List.length_map]; exact List.length_filter_le _ _
theorem small_st {n : Nat} {l : List Bk} (h : Tile 0 l n) (hn : n ≤ 128) : Small (stOf n l) := fun o _ => by
  have := tile_le h; have := fr_len o l; show (fr o l).length ≤ _; omega
theorem freeOf_cons (n : Nat) (x : Bk) (l : List Bk) : ∀ k, freeOf (stOf n (x :: l)) k = freeOf (stOf n l) k + if x.g = 0 ∧ x.o < k then 2 ^ x.o else 0
  | 0 => by simp [freeOf]
  | k + 1 => by
    have ih := freeOf_cons n x l k
    have e1 : freeOf (stOf n (x :: l)) (k + 1) = freeOf (stOf n (x :: l)) k + (fr k (x :: l)).length * 2 ^ k := rfl
    have e2 : freeOf (stOf n l) (k + 1) = freeOf (stOf n l) k + (fr k l).length * 2 ^ k := rfl
    rw [e1, e2, ih, fr_cons]
    by_cases h : x.g = 0 ∧ x.o = k
    · rw [if_pos h, if_neg (by omega), if_pos (by omega), h.2]
      simp only [List.length_append, List.length_cons, List.length_nil, Nat.add_mul]
      omega
    · rw [if_neg h]
      by_cases h2 : x.g = 0 ∧ x.o < k
      · rw [if_pos h2, if_pos (by omega)]; simp only [List.nil_append]; omega
      · rw [if_neg h2, if_neg (by omega)]; simp
theorem freeOf_nil (n : Nat) : ∀ k, freeOf (stOf n []) k = 0
  | 0 => rfl
  | k + 1 => by
    have e2 : freeOf (stOf n []) (k + 1) = freeOf (stOf n []) k + 0 * 2 ^ k := rfl
    rw [e2, freeOf_nil n k]; simp
theorem fsum_cons (x : Bk) (l : List Bk) : fsum (x :: l) = (if x.g = 0 then 2 ^ x.o else 0) + fsum l := rfl
theorem freeOf_st (n : Nat) : ∀ l : List Bk, (∀ x ∈ l, x.o ≤ 10) → freeOf (stOf n l) 11 = fsum l
  | [], _ => freeOf_nil n 11
  | x :: l, h => by
    rw [freeOf_cons, freeOf_st n l fun y hy => h y (List.mem_cons_of_mem _ hy)]
    have := h x (by simp)
    rw [fsum_cons]
    by_cases g : x.g = 0
    · rw [if_pos ⟨g, by omega⟩, if_pos g]; omega
    · rw [if_neg (fun e => g e.1), if_neg g]; omega
theorem fsum_le {l : List Bk} {a b : Nat} (h : Tile a l b) : a + fsum l ≤ b := by
  induction l generalizing a with
  | nil => simp [Tile] at h; simp [fsum]; omega
  | cons x l ih =>
    have h1 := ih h.2.2.2
    rw [fsum_cons]
    have h2 := p2 x.o
    split <;> omega
theorem most_lt (s : Bst) : ∀ k : Nat, -1 ≤ mostOf s k ∧ mostOf s k < k
  | 0 => by simp [mostOf]
  | k + 1 => by
    have := most_lt s k
    unfold mostOf
    split <;> omega
theorem most_iff (s : Bst) (o : Nat) : ∀ k : Nat, ((o : Int) ≤ mostOf s k ↔ ∃ j, o ≤ j ∧ j < k ∧ 0 < (s.F j).length)
  | 0 => by simp [mostOf]; omega
  | k + 1 => by
    have ih := most_iff s o k
    unfold mostOf
    split <;> rename_i hp
    · constructor
      · intro h; exact ⟨k, by omega, by omega, hp⟩
      · rintro ⟨j, h1, h2, _⟩; omega
    · rw [ih]
      constructor
      · rintro ⟨j, h1, h2, h3⟩; exact ⟨j, h1, by omega, h3⟩
      · rintro ⟨j, h1, h2, h3⟩
        refine ⟨j, h1, ?_, h3⟩
        rcases Nat.lt_or_ge j k with h | h
        · exact h
        · have : j = k := by omega
          subst this; exact absurd h3 hp
theorem fr_pos {j : Nat} {l : List Bk} : 0 < (fr j l).length ↔ ∃ x ∈ l, x.g = 0 ∧ x.o = j := by
  rw [List.length_pos_iff_exists_mem]
  constructor
  · rintro ⟨k, hk⟩
    obtain ⟨x, h1, h2, h3, _⟩ := mem_fr.1 hk
    exact ⟨x, h1, h2, h3⟩
  · rintro ⟨x, h1, h2, h3⟩
    exact ⟨_, mem_fr.2 ⟨x, h1, h2, h3, rfl⟩⟩
theorem most_st {n : Nat} {l : List Bk} (hl : ∀ x ∈ l, x.o ≤ 10) (o : Nat) : (o : Int) ≤ mostOf (stOf n l) 11 ↔ ∃ x ∈ l, x.g = 0 ∧ o ≤ x.o := by
  rw [most_iff]
  constructor
  · rintro ⟨j, h1, h2, h3⟩
    obtain ⟨x, h4, h5, h6⟩ := fr_pos.1 h3
    exact ⟨x, h4, h5, by omega⟩
  · rintro ⟨x, h4, h5, h6⟩
    exact ⟨x.o, h6, by have := hl x h4; omega, fr_pos.2 ⟨x, h4, h5, rfl⟩⟩
theorem not_fr {A B : List Bk} {x : Bk} {n k : Nat} (h : Tile 0 (A ++ x :: B) n) (hg : x.g ≠ 0) (h1 : x.p ≤ k) (h2 : k < x.p + 2 ^ x.o) (o : Nat) : (k : Int) ∉ fr o (A ++ x :: B) := by
  obtain ⟨hA, hB⟩ := sep_ne h h1 h2
  intro hm
  obtain ⟨y, hy, gy, _, e⟩ := mem_fr.1 hm
  simp only [List.mem_append, List.mem_cons] at hy
  rcases hy with hy | rfl | hy
  · exact hA y hy (by omega)
  · exact hg gy
  · exact hB y hy (by omega)
theorem not_tk {A B : List Bk} {x : Bk} {n k : Nat} (h : Tile 0 (A ++ x :: B) n) (hg : x.g ≠ 1) (h1 : x.p ≤ k) (h2 : k < x.p + 2 ^ x.o) (j : Int) : ((k : Int), j) ∉ tk (A ++ x :: B) := by
  obtain ⟨hA, hB⟩ := sep_ne h h1 h2
  intro hm
  obtain ⟨y, hy, gy, e, _⟩ := mem_tk.1 hm
  simp only [List.mem_append, List.mem_cons] at hy
  rcases hy with hy | rfl | hy
  · exact hA y hy (by omega)
  · exact hg gy
  · exact hB y hy (by omega)
section
variable {w w' : World} {b t : Nat} {m : Nat → Nat} {n : Nat} {l l' : List Bk}
/-- one map of them anew -/
theorem BAt.newF (h : BAt w b m t (stOf n l)) {o : Nat} (ho : o < 11) (k : Kept (· = m o) w w') {q : List Int} (hm : MapIs w' (m o) (ent1 q)) (hp : q.Perm (fr o l')) (hq : ∀ j, j < 11 → j ≠ o → fr j l' = fr j l) (ht : tk l' = tk l) : BAt w' b m t (stOf n l') := by
  refine ⟨h.so.kx k (Ne.symm (h.dt o ho).2), fun j hj => ?_, ?_, h.dm, h.dt, h.db⟩
  · by_cases e : j = o
    · subst e
      exact hm.perm (hp.map _)
    · have := (h.mf j hj).kx k (fun e' => e (by have := h.dm j o hj ho; exact Classical.byContradiction fun hne => this hne e'))
      show MapIs w' (m j) (ent1 (fr j l'))
      rw [hq j hj e]; exact this
  · show MapIs w' t (entT (tk l'))
    rw [ht]
    exact h.mt.kx k (Ne.symm (h.dt o ho).1)
theorem BAt.ins (h : BAt w b m t (stOf n l)) {o : Nat} (ho : o < 11) {a : Nat} (ha : (a : Int) ∉ fr o l) (hr : a ≤ 1000000) (hp : (fr o l').Perm ((a : Int) :: fr o l)) (hq : ∀ j, j < 11 → j ≠ o → fr j l' = fr j l) (ht : tk l' = tk l) :
    ∃ w', updIs Try.prog 75 (.map (some (m o))) (.int .i64 (a : Int)) (.bool true) w w' ∧ Kept (· = m o) w w' ∧ BAt w' b m t (stOf n l') := by
  obtain ⟨w', hu, hm, hk⟩ := upd_new (mt := 75) (vt := 4) (kt := 3) Try.underlying75 Try.underlying3 (h.mf o ho) (a : Int) (.bool true) (by omega) (lookup_none_of fun v hv => ha (by
    obtain ⟨x, hx, e⟩ := List.mem_map.1 hv
    cases e
    exact hx))
  refine ⟨w', hu, hk, h.newF ho hk (q := fr o l ++ [(a : Int)]) (by
    have e : ent1 (fr o l ++ [(a : Int)]) = ent1 ((stOf n l).F o) ++ [((a : Int), Value.bool true)] := by simp [ent1, stOf]
    rw [e]; exact hm) ?_ hq ht⟩
  exact (List.perm_append_comm.trans hp.symm)
theorem BAt.del (h : BAt w b m t (stOf n l)) {o : Nat} (ho : o < 11) {a : Nat} (hp : (fr o l).Perm ((a : Int) :: fr o l')) (ha : (a : Int) ∉ fr o l') (hq : ∀ j, j < 11 → j ≠ o → fr j l' = fr j l) (ht : tk l' = tk l) :
    ∃ w', delIs Try.prog #[75, 3] 0 (.map (some (m o))) (.int .i64 (a : Int)) w w' ∧ Kept (· = m o) w w' ∧ BAt w' b m t (stOf n l') := by
  obtain ⟨w', hu, hm, hk⟩ := del1 (mt := 75) (vt := 4) (kt := 3) Try.underlying75 Try.underlying3 (h.mf o ho) (a : Int) (ty := 0)
  refine ⟨w', hu, hk, h.newF ho hk (q := (fr o l).filter (fun k => k != (a : Int))) (by
    have e : ent1 ((fr o l).filter (fun k => k != (a : Int))) = (ent1 ((stOf n l).F o)).filter fun p => p.1 != (a : Int) := by
      simp only [ent1, stOf, List.filter_map]
      rfl
    rw [e]; exact hm) ?_ hq ht⟩
  refine (hp.filter _).trans ?_
  rw [List.filter_cons_of_neg (by simp), List.filter_eq_self.2]
  intro x hx
  simp only [bne_iff_ne, ne_eq]
  intro e
  exact ha (e ▸ hx)
theorem BAt.newT (h : BAt w b m t (stOf n l)) (k : Kept (· = t) w w') {q : List (Int × Int)} (hm : MapIs w' t (entT q)) (hp : q.Perm (tk l')) (hq : ∀ j, j < 11 → fr j l' = fr j l) : BAt w' b m t (stOf n l') := by
  refine ⟨h.so.kx k (Ne.symm h.db), fun j hj => ?_, hm.perm (hp.map _), h.dm, h.dt, h.db⟩
  show MapIs w' (m j) (ent1 (fr j l'))
  rw [hq j hj]
  exact (h.mf j hj).kx k (h.dt j hj).1
theorem BAt.insT (h : BAt w b m t (stOf n l)) {a o : Nat} (ha : ∀ j, ((a : Int), j) ∉ tk l) (hr : a ≤ 1000000) (hp : (tk l').Perm (((a : Int), (o : Int)) :: tk l)) (hq : ∀ j, j < 11 → fr j l' = fr j l) :
    ∃ w', updIs Try.prog 49 (.map (some t)) (.int .i64 (a : Int)) (.int .i64 (o : Int)) w w' ∧ Kept (· = t) w w' ∧ BAt w' b m t (stOf n l') := by
  obtain ⟨w', hu, hm, hk⟩ := upd_new (mt := 49) (vt := 3) (kt := 3) Try.underlying49 Try.underlying3 h.mt (a : Int) (.int .i64 (o : Int)) (by omega) (lookup_none_of fun v hv => by
    obtain ⟨⟨x, y⟩, hx, e⟩ := List.mem_map.1 hv
    cases e
    exact ha _ hx)
  refine ⟨w', hu, hk, h.newT hk (q := tk l ++ [((a : Int), (o : Int))]) (by
    have e : entT (tk l ++ [((a : Int), (o : Int))]) = entT ((stOf n l).T) ++ [((a : Int), Value.int .i64 (o : Int))] := by simp [entT, stOf]
    rw [e]; exact hm) (List.perm_append_comm.trans hp.symm) hq⟩
theorem BAt.delT (h : BAt w b m t (stOf n l)) {a o : Nat} (hp : (tk l).Perm (((a : Int), (o : Int)) :: tk l')) (ha : ∀ j, ((a : Int), j) ∉ tk l') (hq : ∀ j, j < 11 → fr j l' = fr j l) :
    ∃ w', delIs Try.prog #[49, 3] 0 (.map (some t)) (.int .i64 (a : Int)) w w' ∧ Kept (· = t) w w' ∧ BAt w' b m t (stOf n l') := by
  obtain ⟨w', hu, hm, hk⟩ := del1 (mt := 49) (vt := 3) (kt := 3) Try.underlying49 Try.underlying3 h.mt (a : Int) (ty := 0)
  refine ⟨w', hu, hk, h.newT hk (q := (tk l).filter (fun k => k.1 != (a : Int))) (by
    have e : entT ((tk l).filter (fun k => k.1 != (a : Int))) = (entT ((stOf n l).T)).filter fun p => p.1 != (a : Int) := by
      simp only [entT, stOf, List.filter_map]
      rfl
    rw [e]; exact hm) ?_ hq⟩
  refine (hp.filter _).trans ?_
  rw [List.filter_cons_of_neg (by simp), List.filter_eq_self.2]
  rintro ⟨x, y⟩ hx
  simp only [bne_iff_ne, ne_eq]
  intro e
  exact ha y (e ▸ hx)
variable {A B : List Bk} {a o : Nat}
theorem BAt.hold (h : BAt w b m t (stOf n (A ++ ⟨a, o, 0⟩ :: B))) (ht : Tile 0 (A ++ ⟨a, o, 0⟩ :: B) n) : ∃ w', delIs Try.prog #[75, 3] 0 (.map (some (m o))) (.int .i64 (a : Int)) w w' ∧ Kept (· = m o) w w' ∧ BAt w' b m t (stOf n (A ++ ⟨a, o, 2⟩ :: B)) := by
  have h10 := (tile_mem ht (x := ⟨a, o, 0⟩) (by simp)).2.2.2
  dsimp only at h10
  refine h.del (by omega) (by simp only [fr_app, fr_cons]; simp) ?_ (fun j _ hj => by simp only [fr_app, fr_cons]; simp [Ne.symm hj]) (by simp [tk_app, tk_cons])
  obtain ⟨h1, h2, h3, h4⟩ := tile_mid ht
  exact not_fr (n := n) (x := ⟨a, o, 2⟩) (tile_mid' h1 h2 h3 h4) (by simp) (Nat.le_refl _) (by have := p2 o; dsimp only; omega) o
theorem BAt.lo (h : BAt w b m t (stOf n (A ++ ⟨a, o + 1, 2⟩ :: B))) (ht : Tile 0 (A ++ ⟨a, o + 1, 2⟩ :: B) n) (hn : n ≤ 128) : ∃ w', updIs Try.prog 75 (.map (some (m o))) (.int .i64 ((a + 2 ^ o : Nat) : Int)) (.bool true) w w' ∧ Kept (· = m o) w w' ∧ BAt w' b m t (stOf n (A ++ ⟨a, o, 2⟩ :: ⟨a + 2 ^ o, o, 0⟩ :: B)) := by
  have h10 := tile_mem ht (x := ⟨a, o + 1, 2⟩) (by simp)
  dsimp only at h10
  have e2 : 2 ^ (o + 1) = 2 ^ o + 2 ^ o := by rw [Nat.pow_succ]; omega
  have := p2 o
  refine h.ins (by omega) (not_fr ht (by simp) (by dsimp only; omega) (by dsimp only; omega) o) (by omega) (by simp only [fr_app, fr_cons]; simp) (fun j _ hj => by simp only [fr_app, fr_cons]; simp [Ne.symm hj]) (by simp [tk_app, tk_cons])
theorem BAt.hi (h : BAt w b m t (stOf n (A ++ ⟨a, o + 1, 2⟩ :: B))) (ht : Tile 0 (A ++ ⟨a, o + 1, 2⟩ :: B) n) (hn : n ≤ 128) : ∃ w', updIs Try.prog 75 (.map (some (m o))) (.int .i64 (a : Int)) (.bool true) w w' ∧ Kept (· = m o) w w' ∧ BAt w' b m t (stOf n ((A ++ [⟨a, o, 0⟩]) ++ ⟨a + 2 ^ o, o, 2⟩ :: B)) := by
  have h10 := tile_mem ht (x := ⟨a, o + 1, 2⟩) (by simp)
  dsimp only at h10
  have e2 : 2 ^ (o + 1) = 2 ^ o + 2 ^ o := by rw [Nat.pow_succ]; omega
  have := p2 o
  refine h.ins (by omega) (not_fr ht (by simp) (by dsimp only; omega) (by dsimp only; omega) o) (by omega) (by simp only [fr_app, fr_cons]; simp) (fun j _ hj => by simp only [fr_app, fr_cons]; simp [Ne.symm hj]) (by simp [tk_app, tk_cons])
theorem BAt.take (h : BAt w b m t (stOf n (A ++ ⟨a, o, 2⟩ :: B))) (ht : Tile 0 (A ++ ⟨a, o, 2⟩ :: B) n) (hn : n ≤ 128) : ∃ w', updIs Try.prog 49 (.map (some t)) (.int .i64 (a : Int)) (.int .i64 (o : Int)) w w' ∧ Kept (· = t) w w' ∧ BAt w' b m t (stOf n (A ++ ⟨a, o, 1⟩ :: B)) := by
  have h10 := tile_mem ht (x := ⟨a, o, 2⟩) (by simp)
  dsimp only at h10
  have := p2 o
  refine h.insT (not_tk ht (by simp) (by dsimp only; omega) (by dsimp only; omega)) (by omega) (by simp only [tk_app, tk_cons]; simp) (fun j _ => by simp only [fr_app, fr_cons]; simp)
theorem BAt.give (h : BAt w b m t (stOf n (A ++ ⟨a, o, 1⟩ :: B))) (ht : Tile 0 (A ++ ⟨a, o, 1⟩ :: B) n) : ∃ w', delIs Try.prog #[49, 3] 0 (.map (some t)) (.int .i64 (a : Int)) w w' ∧ Kept (· = t) w w' ∧ BAt w' b m t (stOf n (A ++ ⟨a, o, 2⟩ :: B)) := by
  have := p2 o
  obtain ⟨h1, h2, h3, h4⟩ := tile_mid ht
  refine h.delT (o := o) (by simp only [tk_app, tk_cons]; simp) ?_ (fun j _ => by simp only [fr_app, fr_cons]; simp)
  exact not_tk (n := n) (x := ⟨a, o, 2⟩) (tile_mid' h1 h2 h3 h4) (by simp) (Nat.le_refl _) (by have := p2 o; dsimp only; omega)
theorem BAt.oneL (h : BAt w b m t (stOf n (A ++ ⟨a, o, 2⟩ :: ⟨a + 2 ^ o, o, 0⟩ :: B))) (ho : o < 10) (ht : Tile 0 (A ++ ⟨a, o + 1, 2⟩ :: B) n) : ∃ w', delIs Try.prog #[75, 3] 0 (.map (some (m o))) (.int .i64 ((a + 2 ^ o : Nat) : Int)) w w' ∧ Kept (· = m o) w w' ∧ BAt w' b m t (stOf n (A ++ ⟨a, o + 1, 2⟩ :: B)) := by
  have e2 : 2 ^ (o + 1) = 2 ^ o + 2 ^ o := by rw [Nat.pow_succ]; omega
  have := p2 o
  exact h.del (by omega) (by simp only [fr_app, fr_cons]; simp) (not_fr ht (by simp) (by dsimp only; omega) (by dsimp only; omega) o) (fun j _ hj => by simp only [fr_app, fr_cons]; simp [Ne.symm hj]) (by simp [tk_app, tk_cons])
theorem BAt.oneU (h : BAt w b m t (stOf n ((A ++ [⟨a - 2 ^ o, o, 0⟩]) ++ ⟨a, o, 2⟩ :: B))) (ho : o < 10) (ht : Tile 0 (A ++ ⟨a - 2 ^ o, o + 1, 2⟩ :: B) n) : ∃ w', delIs Try.prog #[75, 3] 0 (.map (some (m o))) (.int .i64 ((a - 2 ^ o : Nat) : Int)) w w' ∧ Kept (· = m o) w w' ∧ BAt w' b m t (stOf n (A ++ ⟨a - 2 ^ o, o + 1, 2⟩ :: B)) := by
  have e2 : 2 ^ (o + 1) = 2 ^ o + 2 ^ o := by rw [Nat.pow_succ]; omega
  have := p2 o
  exact h.del (by omega) (by simp only [fr_app, fr_cons]; simp) (not_fr ht (by simp) (by dsimp only; omega) (by dsimp only; omega) o) (fun j _ hj => by simp only [fr_app, fr_cons]; simp [Ne.symm hj]) (by simp [tk_app, tk_cons])
theorem BAt.free (h : BAt w b m t (stOf n (A ++ ⟨a, o, 2⟩ :: B))) (ht : Tile 0 (A ++ ⟨a, o, 2⟩ :: B) n) (hn : n ≤ 128) : ∃ w', updIs Try.prog 75 (.map (some (m o))) (.int .i64 (a : Int)) (.bool true) w w' ∧ Kept (· = m o) w w' ∧ BAt w' b m t (stOf n (A ++ ⟨a, o, 0⟩ :: B)) := by
  have h10 := tile_mem ht (x := ⟨a, o, 2⟩) (by simp)
  dsimp only at h10
  have := p2 o
  exact h.ins (by omega) (not_fr ht (by simp) (by dsimp only; omega) (by dsimp only; omega) o) (by omega) (by simp only [fr_app, fr_cons]; simp) (fun j _ hj => by simp only [fr_app, fr_cons]; simp [Ne.symm hj]) (by simp [tk_app, tk_cons])
end
end Go.Proofs.Ytkmcmkimeibjdaa
