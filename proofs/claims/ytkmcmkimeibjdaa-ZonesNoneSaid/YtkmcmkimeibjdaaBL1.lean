/-
  A part of a proof that a law of this seat returns true at every input. Conditions: those in each theorem.
-/
import Derived.Test.YtkmcmkimeibjdaaEngU
set_option linter.unusedSimpArgs false
set_option linter.unusedVariables false
namespace Go.Proofs.Ytkmcmkimeibjdaa
/-! ### a node's frames as a row of blocks: plain -/
/-- a block: its place, its order, and whether it is free (0), taken (1), in hand (2) -/
structure Bk where
  p : Nat
  o : Nat
  g : Nat
def Tile : Nat → List Bk → Nat → Prop
  | a, [], b => a = b
  | a, x :: l, b => x.p = a ∧ a % 2 ^ x.o = 0 ∧ x.o ≤ 10 ∧ Tile (a + 2 ^ x.o) l b
theorem p2 (o : Nat) : 0 < 2 ^ o := Nat.two_pow_pos o
theorem tile_app {l1 l2 : List Bk} {a b : Nat} : Tile a (l1 ++ l2) b ↔ ∃ c, Tile a l1 c ∧ Tile c l2 b := by
  induction l1 generalizing a with
  | nil => simp [Tile]
  | cons x l ih => simp only [List.cons_append, Tile, ih]; constructor
                   · rintro ⟨h1, h2, h3, c, h4, h5⟩; exact ⟨c, ⟨h1, h2, h3, h4⟩, h5⟩
                   · rintro ⟨c, ⟨h1, h2, h3, h4⟩, h5⟩; exact ⟨h1, h2, h3, c, h4, h5⟩
theorem tile_le {l : List Bk} {a b : Nat} (h : Tile a l b) : a + l.length ≤ b := by
  induction l generalizing a with
  | nil => simp [Tile] at h; simp; omega
  | cons x l ih => have := ih h.2.2.2; have := p2 x.o; simp; omega
theorem tile_mem {l : List Bk} {a b : Nat} (h : Tile a l b) {x : Bk} (hx : x ∈ l) : a ≤ x.p ∧ x.p + 2 ^ x.o ≤ b ∧ x.p % 2 ^ x.o = 0 ∧ x.o ≤ 10 := by
  induction l generalizing a with
  | nil => simp at hx
  | cons y l ih =>
    obtain ⟨h1, h2, h3, h4⟩ := h
    rcases List.mem_cons.1 hx with rfl | hx
    · have := tile_le h4; exact ⟨by omega, by omega, by rw [h1]; exact h2, h3⟩
    · have hh := ih h4 hx; have := p2 y.o; exact ⟨by omega, hh.2.1, hh.2.2⟩
theorem tile_pw {l : List Bk} {a b : Nat} (h : Tile a l b) : l.Pairwise fun x y => x.p + 2 ^ x.o ≤ y.p := by
  induction l generalizing a with
  | nil => exact List.Pairwise.nil
  | cons y l ih =>
    obtain ⟨h1, h2, h3, h4⟩ := h
    refine List.Pairwise.cons (fun x hx => ?_) (ih h4)
    have := (tile_mem h4 hx).1
    omega
theorem tile_start {l : List Bk} {a b : Nat} (h : Tile a l b) {x y : Bk} (hx : x ∈ l) (hy : y ∈ l) (e : x.p = y.p) : x = y := by
  induction l generalizing a with
  | nil => simp at hx
  | cons z l ih =>
    obtain ⟨h1, h2, h3, h4⟩ := h
    have hz := p2 z.o
    rcases List.mem_cons.1 hx with rfl | hx'
    · rcases List.mem_cons.1 hy with rfl | hy
      · rfl
      · have := (tile_mem h4 hy).1; omega
    · rcases List.mem_cons.1 hy with rfl | hy
      · have := (tile_mem h4 hx').1; omega
      · exact ih h4 hx' hy
/-- the blocks ahead of one and behind it -/
theorem tile_mid {A B : List Bk} {x : Bk} {a b : Nat} (h : Tile a (A ++ x :: B) b) : Tile a A x.p ∧ Tile (x.p + 2 ^ x.o) B b ∧ x.p % 2 ^ x.o = 0 ∧ x.o ≤ 10 := by
  obtain ⟨c, h1, h2, h3, h4, h5⟩ := tile_app.1 h
  subst h2
  exact ⟨h1, h5, h3, h4⟩
theorem tile_mid' {A B : List Bk} {x : Bk} {a b : Nat} (h1 : Tile a A x.p) (h2 : Tile (x.p + 2 ^ x.o) B b) (h3 : x.p % 2 ^ x.o = 0) (h4 : x.o ≤ 10) : Tile a (A ++ x :: B) b :=
  tile_app.2 ⟨_, h1, rfl, h3, h4, h2⟩
theorem tile_sep {A B : List Bk} {x : Bk} {a b : Nat} (h : Tile a (A ++ x :: B) b) : (∀ y ∈ A, y.p + 2 ^ y.o ≤ x.p) ∧ (∀ y ∈ B, x.p + 2 ^ x.o ≤ y.p) := by
  obtain ⟨h1, h2, h3⟩ := tile_mid h
  exact ⟨fun y hy => (tile_mem h1 hy).2.1, fun y hy => (tile_mem h2 hy).1⟩
/-- the block that ends where another begins -/
theorem tile_last {A : List Bk} {a b : Nat} (h : Tile a A b) (hne : a < b) : ∃ A' y, A = A' ++ [y] ∧ y.p + 2 ^ y.o = b ∧ Tile a A' y.p := by
  rcases List.eq_nil_or_concat A with rfl | ⟨A', y, rfl⟩
  · simp [Tile] at h; omega
  · rw [List.concat_eq_append] at h ⊢
    obtain ⟨c, h1, h2, h3, h4, h5⟩ := tile_app.1 h
    simp only [Tile] at h5
    exact ⟨A', y, rfl, by omega, by rw [h2]; exact h1⟩
theorem tile_first {B : List Bk} {a b : Nat} (h : Tile a B b) (hne : a < b) : ∃ y B', B = y :: B' ∧ y.p = a ∧ Tile (a + 2 ^ y.o) B' b := by
  cases B with
  | nil => simp [Tile] at h; omega
  | cons y B' => exact ⟨y, B', rfl, h.1, h.2.2.2⟩
/-- no two free blocks could be one -/
def NB (l : List Bk) : Prop := ∀ x ∈ l, ∀ y ∈ l, x.g = 0 → y.g = 0 → x.o = y.o → x.o < 10 → y.p = x.p + 2 ^ x.o → x.p % 2 ^ (x.o + 1) = 0 → False
theorem NB.sub {l l' : List Bk} (h : NB l) (hs : ∀ x ∈ l', x.g = 0 → x ∈ l) : NB l' := fun x hx y hy gx gy => h x (hs x hx gx) y (hs y hy gy) gx gy
theorem mod_le {a o1 o2 : Nat} (h : a % 2 ^ o2 = 0) (hl : o1 ≤ o2) : a % 2 ^ o1 = 0 :=
  Nat.mod_eq_zero_of_dvd (Nat.dvd_trans (Nat.pow_dvd_pow 2 hl) (Nat.dvd_of_mod_eq_zero h))
theorem mod_add {a b o : Nat} (h : a % 2 ^ o = 0) (hb : b % 2 ^ o = 0) : (a + b) % 2 ^ o = 0 :=
  Nat.mod_eq_zero_of_dvd (Nat.dvd_add (Nat.dvd_of_mod_eq_zero h) (Nat.dvd_of_mod_eq_zero hb))
theorem nomax : ∀ (l : List Bk) (a b lim O : Nat) (x : Bk), Tile a (x :: l) b → x.g = 0 → x.o < O → O ≤ 10 → a % 2 ^ O = 0 → a + 2 ^ O ≤ lim → lim ≤ b → (∀ z ∈ x :: l, z.p < lim → z.g = 0) → NB (x :: l) → False
  | [], a, b, lim, O, x, ht, hg, ho, hO, ha, h1, h2, hf, hn => by
    obtain ⟨e1, e2, e3, e4⟩ := ht
    simp only [Tile] at e4
    have := Nat.pow_lt_pow_right (a := 2) (by omega) ho
    omega
  | y :: l, a, b, lim, O, x, ht, hg, ho, hO, ha, h1, h2, hf, hn => by
    obtain ⟨e1, e2, e3, e4⟩ := ht
    have hp := Nat.pow_le_pow_right (n := 2) (by omega) (show x.o + 1 ≤ O from ho)
    have hp' : 2 ^ (x.o + 1) = 2 ^ x.o + 2 ^ x.o := by rw [Nat.pow_succ]; omega
    have hx := p2 x.o
    have e4' := e4
    obtain ⟨f1, f2, f3, f4⟩ := e4
    have gy : y.g = 0 := hf y (by simp) (by omega)
    have hx1 : a % 2 ^ (x.o + 1) = 0 := mod_le ha ho
    have hyo : y.o ≤ x.o := by
      refine Nat.le_of_not_lt fun hlt => ?_
      have := mod_le f2 (show x.o + 1 ≤ y.o from hlt)
      have d := (Nat.dvd_add_right (Nat.dvd_of_mod_eq_zero hx1)).1 (Nat.dvd_of_mod_eq_zero this)
      have := Nat.le_of_dvd hx d
      omega
    rcases Nat.lt_or_ge y.o x.o with hlt | hge
    · refine nomax l (a + 2 ^ x.o) b lim x.o y e4' gy hlt e3 (mod_add e2 (Nat.mod_self _)) (by omega) h2 (fun z hz => hf z (List.mem_cons_of_mem _ hz)) (hn.sub fun z hz _ => List.mem_cons_of_mem _ hz)
    · exact hn x (by simp) y (by simp) hg gy (by omega) (by omega) (by rw [f1, e1]) (by rw [e1]; exact hx1)
def Fr01 (l : List Bk) : Prop := ∀ x ∈ l, x.g = 0 ∨ x.g = 1
theorem uniq : ∀ (l1 l2 : List Bk) (a b : Nat), Tile a l1 b → Tile a l2 b → NB l1 → NB l2 → Fr01 l1 → Fr01 l2 → (∀ x : Bk, x.g = 1 → (x ∈ l1 ↔ x ∈ l2)) → l1 = l2
  | [], [], _, _, _, _, _, _, _, _, _ => rfl
  | [], y :: l2, a, b, h1, h2, _, _, _, _, _ => by
    have := tile_le h2; simp [Tile] at h1; simp at this; omega
  | x :: l1, [], a, b, h1, h2, _, _, _, _, _ => by
    have := tile_le h1; simp [Tile] at h2; simp at this; omega
  | x :: l1, y :: l2, a, b, h1, h2, n1, n2, t1, t2, ht => by
    have h1' := h1
    have h2' := h2
    obtain ⟨e1, e2, e3, e4⟩ := h1
    obtain ⟨f1, f2, f3, f4⟩ := h2
    have hx := p2 x.o
    have hy := p2 y.o
    have tx : x.g = 1 → x = y := fun g => tile_start h2' ((ht x g).1 (by simp)) (by simp) (by omega)
    have ty : y.g = 1 → x = y := fun g => tile_start h1' (by simp) ((ht y g).2 (by simp)) (by omega)
    have key : x = y := by
      by_cases gx : x.g = 1
      · exact tx gx
      by_cases gy : y.g = 1
      · exact ty gy
      have gx0 : x.g = 0 := by have := t1 x (by simp); omega
      have gy0 : y.g = 0 := by have := t2 y (by simp); omega
      have bx := (tile_mem h1' (x := x) (by simp)).2.1
      have by' := (tile_mem h2' (x := y) (by simp)).2.1
      rcases Nat.lt_trichotomy x.o y.o with hlt | heq | hgt
      · refine (nomax l1 a b (a + 2 ^ y.o) y.o x h1' gx0 hlt f3 f2 (Nat.le_refl _) (by omega) (fun z hz hzl => ?_) n1).elim
        rcases t1 z hz with g | g
        · exact g
        · have hz2 := (ht z g).1 hz
          rcases List.mem_cons.1 hz2 with rfl | hz2
          · exact gy0
          · have := (tile_mem f4 hz2).1; omega
      · cases x; cases y; simp_all
      · refine (nomax l2 a b (a + 2 ^ x.o) x.o y h2' gy0 hgt e3 e2 (Nat.le_refl _) (by omega) (fun z hz hzl => ?_) n2).elim
        rcases t2 z hz with g | g
        · exact g
        · have hz2 := (ht z g).2 hz
          rcases List.mem_cons.1 hz2 with rfl | hz2
          · exact gx0
          · have := (tile_mem e4 hz2).1; omega
    subst key
    congr 1
    refine uniq l1 l2 _ b e4 f4 (n1.sub fun z hz _ => List.mem_cons_of_mem _ hz) (n2.sub fun z hz _ => List.mem_cons_of_mem _ hz) (fun z hz => t1 z (List.mem_cons_of_mem _ hz)) (fun z hz => t2 z (List.mem_cons_of_mem _ hz)) fun z g => ?_
    constructor
    · intro hz
      rcases List.mem_cons.1 ((ht z g).1 (List.mem_cons_of_mem _ hz)) with rfl | h
      · have := (tile_mem e4 hz).1; omega
      · exact h
    · intro hz
      rcases List.mem_cons.1 ((ht z g).2 (List.mem_cons_of_mem _ hz)) with rfl | h
      · have := (tile_mem f4 hz).1; omega
      · exact h
/-- a node as it may be -/
structure Inv (n : Nat) (l : List Bk) : Prop where
  n1 : 1 ≤ n ∧ n ≤ 128
  tl : Tile 0 l n
  nb : NB l
  g01 : Fr01 l
theorem Inv.same {n : Nat} {l l' : List Bk} (h : Inv n l) (h' : Inv n l') (ht : ∀ x : Bk, x.g = 1 → (x ∈ l ↔ x ∈ l')) : l = l' := uniq _ _ _ _ h.tl h'.tl h.nb h'.nb h.g01 h'.g01 ht
end Go.Proofs.Ytkmcmkimeibjdaa
