/-
  A part of a proof that a law of this seat returns true at every input. Conditions: those in each theorem.
-/
import Derived.Test.YtklmokolnakkoaaGreatDoorBD1
set_option linter.unusedSimpArgs false
set_option linter.unusedVariables false
namespace Go.Proofs.YtklmokolnakkoaaGreatDoor
def fr (o : Nat) (l : List Bk) : List Int := (l.filter fun x => x.g == 0 && x.o == o).map fun x => (x.p : Int)
def tk (l : List Bk) : List (Int × Int) := (l.filter fun x => x.g == 1).map fun x => ((x.p : Int), (x.o : Int))
def fsum : List Bk → Nat
  | [] => 0
  | x :: l => (if x.g = 0 then 2 ^ x.o else 0) + fsum l
@[simp] theorem fr_nil (o : Nat) : fr o [] = [] := rfl
@[simp] theorem tk_nil : tk [] = [] := rfl
theorem fr_app (o : Nat) (l l' : List Bk) : fr o (l ++ l') = fr o l ++ fr o l' := by simp [fr]
theorem tk_app (l l' : List Bk) : tk (l ++ l') = tk l ++ tk l' := by simp [tk]
theorem fr_yes {o : Nat} {x : Bk} (l : List Bk) (hg : x.g = 0) (ho : x.o = o) : fr o (x :: l) = (x.p : Int) :: fr o l := by simp [fr, hg, ho]
theorem fr_no {o : Nat} {x : Bk} (l : List Bk) (h : ¬ (x.g = 0 ∧ x.o = o)) : fr o (x :: l) = fr o l := by
  unfold fr
  rw [List.filter_cons_of_neg (by simpa using h)]
theorem tk_yes {x : Bk} (l : List Bk) (hg : x.g = 1) : tk (x :: l) = ((x.p : Int), (x.o : Int)) :: tk l := by simp [tk, hg]
theorem tk_no {x : Bk} (l : List Bk) (h : x.g ≠ 1) : tk (x :: l) = tk l := by
  unfold tk
  rw [List.filter_cons_of_neg (by simpa using h)]
theorem mem_fr {o : Nat} {l : List Bk} {k : Int} : k ∈ fr o l ↔ ∃ x ∈ l, x.g = 0 ∧ x.o = o ∧ (x.p : Int) = k := by
  unfold fr
  constructor
  · intro h
    obtain ⟨x, hx, e⟩ := List.mem_map.1 h
    obtain ⟨h1, h2⟩ := List.mem_filter.1 hx
    simp only [Bool.and_eq_true, beq_iff_eq] at h2
    exact ⟨x, h1, h2.1, h2.2, e⟩
  · rintro ⟨x, h1, h2, h3, e⟩
    exact List.mem_map.2 ⟨x, List.mem_filter.2 ⟨h1, by simp [h2, h3]⟩, e⟩
theorem mem_tk {l : List Bk} {k j : Int} : (k, j) ∈ tk l ↔ ∃ x ∈ l, x.g = 1 ∧ (x.p : Int) = k ∧ (x.o : Int) = j := by
  unfold tk
  constructor
  · intro h
    obtain ⟨x, hx, e⟩ := List.mem_map.1 h
    obtain ⟨h1, h2⟩ := List.mem_filter.1 hx
    simp only [beq_iff_eq] at h2
    simp only [Prod.mk.injEq] at e
    exact ⟨x, h1, h2, e.1, e.2⟩
  · rintro ⟨x, h1, h2, h3, e⟩
    exact List.mem_map.2 ⟨x, List.mem_filter.2 ⟨h1, by simp [h2]⟩, by simp [h3, e]⟩
theorem fsum_app (l l' : List Bk) : fsum (l ++ l') = fsum l + fsum l' := by
  induction l with
  | nil => simp [fsum]
  | cons x l ih => simp only [List.cons_append, fsum, ih]; omega
theorem fr_filter {o : Nat} {l : List Bk} {a : Nat} (h : ∀ x ∈ l, x.p ≠ a) : (fr o l).filter (fun k => k != (a : Int)) = fr o l := by
  rw [List.filter_eq_self]
  intro k hk
  obtain ⟨x, hx, _, _, e⟩ := mem_fr.1 hk
  have := h x hx
  simp only [bne_iff_ne, ne_eq]
  omega
theorem tk_filter {l : List Bk} {a : Nat} (h : ∀ x ∈ l, x.p ≠ a) : (tk l).filter (fun k => k.1 != (a : Int)) = tk l := by
  rw [List.filter_eq_self]
  rintro ⟨k, j⟩ hk
  obtain ⟨x, hx, _, e, _⟩ := mem_tk.1 hk
  have := h x hx
  simp only [bne_iff_ne, ne_eq]
  omega
theorem sep_ne {A B : List Bk} {x : Bk} {a b : Nat} (h : Tile a (A ++ x :: B) b) {k : Nat} (h1 : x.p ≤ k) (h2 : k < x.p + 2 ^ x.o) : (∀ y ∈ A, y.p ≠ k) ∧ (∀ y ∈ B, y.p ≠ k) := by
  obtain ⟨hA, hB⟩ := tile_sep h
  refine ⟨fun y hy => ?_, fun y hy => ?_⟩
  · have := hA y hy; have := p2 y.o; omega
  · have := hB y hy; omega
structure Mid (n : Nat) (A : List Bk) (x : Bk) (B : List Bk) : Prop where
  n1 : 1 ≤ n ∧ n ≤ 128
  tl : Tile 0 (A ++ x :: B) n
  nb : NB (A ++ B)
  g01 : Fr01 (A ++ B)
theorem Inv.mid {n : Nat} {A B : List Bk} {x y : Bk} (h : Inv n (A ++ x :: B)) (e : y.p = x.p) (e' : y.o = x.o) : Mid n A y B := by
  refine ⟨h.n1, ?_, h.nb.sub fun z hz _ => by simp at hz ⊢; rcases hz with h | h <;> simp [h], fun z hz => h.g01 z (by simp at hz ⊢; rcases hz with h | h <;> simp [h])⟩
  obtain ⟨h1, h2, h3, h4⟩ := tile_mid h.tl
  exact tile_mid' (by rw [e]; exact h1) (by rw [e, e']; exact h2) (by rw [e, e']; exact h3) (by rw [e']; exact h4)
theorem Mid.num {n : Nat} {A B : List Bk} {x : Bk} (h : Mid n A x B) : x.p + 2 ^ x.o ≤ n ∧ x.o ≤ 7 ∧ x.p % 2 ^ x.o = 0 := by
  have := tile_mem h.tl (x := x) (by simp)
  refine ⟨this.2.1, ?_, this.2.2.1⟩
  refine Nat.le_of_not_lt fun hlt => ?_
  have h8 := Nat.pow_le_pow_right (n := 2) (by omega) (show 8 ≤ x.o from hlt)
  have := h.n1
  omega
theorem Mid.lo {n : Nat} {A B : List Bk} {a o g g' : Nat} (h : Mid n A ⟨a, o + 1, g⟩ B) : Mid n A ⟨a, o, g'⟩ (⟨a + 2 ^ o, o, 0⟩ :: B) := by
  obtain ⟨h1, h2, h3, h4⟩ := tile_mid h.tl
  dsimp only at h1 h2 h3 h4
  have e2 : 2 ^ (o + 1) = 2 ^ o + 2 ^ o := by rw [Nat.pow_succ]; omega
  refine ⟨h.n1, tile_mid' h1 ⟨rfl, mod_add (mod_le (o1 := o) h3 (by omega)) (Nat.mod_self _), by dsimp only; omega, by dsimp only; rw [Nat.add_assoc, ← e2]; exact h2⟩ (mod_le (o1 := o) h3 (by omega)) (by dsimp only; omega), ?_, ?_⟩
  · obtain ⟨hA, hB⟩ := tile_sep h.tl
    dsimp only at hA hB
    intro x hx y hy gx gy eo lt ep em
    have hp := p2 o
    have mx : x ∈ A ++ B ∨ x = ⟨a + 2 ^ o, o, 0⟩ := by simp at hx ⊢; rcases hx with h | h | h <;> simp [h]
    have my : y ∈ A ++ B ∨ y = ⟨a + 2 ^ o, o, 0⟩ := by simp at hy ⊢; rcases hy with h | h | h <;> simp [h]
    rcases mx with mx | rfl
    · rcases my with my | rfl
      · exact h.nb x mx y my gx gy eo lt ep em
      · dsimp only at eo ep
        have : x.p = a := by rw [eo] at ep; omega
        rcases List.mem_append.1 mx with hm | hm
        · have := hA x hm; have := p2 x.o; omega
        · have := hB x hm; have := p2 x.o; omega
    · rcases my with my | rfl
      · dsimp only at em
        have d := (Nat.dvd_add_right (Nat.dvd_of_mod_eq_zero h3)).1 (Nat.dvd_of_mod_eq_zero em)
        have := Nat.le_of_dvd hp d
        omega
      · dsimp only at ep; omega
  · intro x hx
    have mx : x ∈ A ++ B ∨ x = ⟨a + 2 ^ o, o, 0⟩ := by simp at hx ⊢; rcases hx with h | h | h <;> simp [h]
    rcases mx with mx | rfl
    · exact h.g01 x mx
    · exact .inl rfl
theorem Mid.hi {n : Nat} {A B : List Bk} {a o g g' : Nat} (h : Mid n A ⟨a, o + 1, g⟩ B) : Mid n (A ++ [⟨a, o, 0⟩]) ⟨a + 2 ^ o, o, g'⟩ B := by
  obtain ⟨h1, h2, h3, h4⟩ := tile_mid h.tl
  dsimp only at h1 h2 h3 h4
  have e2 : 2 ^ (o + 1) = 2 ^ o + 2 ^ o := by rw [Nat.pow_succ]; omega
  refine ⟨h.n1, tile_mid' (tile_app.2 ⟨a, h1, rfl, mod_le (o1 := o) h3 (by omega), by dsimp only; omega, rfl⟩) (by dsimp only; rw [Nat.add_assoc, ← e2]; exact h2) (mod_add (mod_le (o1 := o) h3 (by omega)) (Nat.mod_self _)) (by dsimp only; omega), ?_, ?_⟩
  · obtain ⟨hA, hB⟩ := tile_sep h.tl
    dsimp only at hA hB
    intro x hx y hy gx gy eo lt ep em
    have hp := p2 o
    have mx : x ∈ A ++ B ∨ x = ⟨a, o, 0⟩ := by simp at hx ⊢; rcases hx with h | h | h <;> simp [h]
    have my : y ∈ A ++ B ∨ y = ⟨a, o, 0⟩ := by simp at hy ⊢; rcases hy with h | h | h <;> simp [h]
    rcases mx with mx | rfl
    · rcases my with my | rfl
      · exact h.nb x mx y my gx gy eo lt ep em
      · dsimp only at eo ep
        rw [eo] at ep em
        have d := (Nat.dvd_add_right (Nat.dvd_of_mod_eq_zero em)).1 (by rw [← ep]; exact Nat.dvd_of_mod_eq_zero h3)
        have := Nat.le_of_dvd hp d
        omega
    · rcases my with my | rfl
      · dsimp only at ep
        rcases List.mem_append.1 my with hm | hm
        · have := hA y hm; have := p2 y.o; omega
        · have := hB y hm; have := p2 y.o; omega
      · dsimp only at ep; omega
  · intro x hx
    have mx : x ∈ A ++ B ∨ x = ⟨a, o, 0⟩ := by simp at hx ⊢; rcases hx with h | h | h <;> simp [h]
    rcases mx with mx | rfl
    · exact h.g01 x mx
    · exact .inl rfl
theorem Mid.take {n : Nat} {A B : List Bk} {a o g : Nat} (h : Mid n A ⟨a, o, g⟩ B) : Inv n (A ++ ⟨a, o, 1⟩ :: B) := by
  obtain ⟨h1, h2, h3, h4⟩ := tile_mid h.tl
  refine ⟨h.n1, tile_mid' h1 h2 h3 h4, h.nb.sub fun z hz gz => ?_, fun z hz => ?_⟩
  · simp at hz ⊢
    rcases hz with h | rfl | h
    · simp [h]
    · cases gz
    · simp [h]
  · simp at hz
    rcases hz with h' | rfl | h'
    · exact h.g01 z (by simp [h'])
    · exact .inr rfl
    · exact h.g01 z (by simp [h'])
def bud (a o : Nat) : Nat := if a / 2 ^ o % 2 = 0 then a + 2 ^ o else a - 2 ^ o
theorem half_even {a o : Nat} (h : a % 2 ^ o = 0) : a / 2 ^ o % 2 = 0 ↔ a % 2 ^ (o + 1) = 0 := by
  have hp := p2 o
  have e := Nat.div_add_mod a (2 ^ o)
  rw [h, Nat.add_zero] at e
  rw [Nat.pow_succ, Nat.mod_mul, h]
  simp only [Nat.zero_add, Nat.mul_eq_zero]
  omega
theorem Mid.free {n : Nat} {A B : List Bk} {a o g : Nat} (h : Mid n A ⟨a, o, g⟩ B) (hb : o < 10 → ((bud a o : Nat) : Int) ∉ fr o (A ++ B)) : Inv n (A ++ ⟨a, o, 0⟩ :: B) := by
  obtain ⟨h1, h2, h3, h4⟩ := tile_mid h.tl
  dsimp only at h3
  refine ⟨h.n1, tile_mid' h1 h2 h3 h4, ?_, fun z hz => ?_⟩
  · intro x hx y hy gx gy eo lt ep em
    have mx : x ∈ A ++ B ∨ x = ⟨a, o, 0⟩ := by simp at hx ⊢; rcases hx with h | h | h <;> simp [h]
    have my : y ∈ A ++ B ∨ y = ⟨a, o, 0⟩ := by simp at hy ⊢; rcases hy with h | h | h <;> simp [h]
    rcases mx with mx | rfl
    · rcases my with my | rfl
      · exact h.nb x mx y my gx gy eo lt ep em
      · dsimp only at eo ep
        rw [eo] at ep em lt
        refine hb lt (mem_fr.2 ⟨x, mx, gx, eo, ?_⟩)
        unfold bud
        rw [if_neg (fun e => ?_)]
        · omega
        · rw [half_even h3, ep] at e
          have d := (Nat.dvd_add_right (Nat.dvd_of_mod_eq_zero em)).1 (Nat.dvd_of_mod_eq_zero e)
          have := Nat.le_of_dvd (p2 o) d
          rw [Nat.pow_succ] at this
          have := p2 o
          omega
    · rcases my with my | rfl
      · dsimp only at eo ep em lt
        refine hb lt (mem_fr.2 ⟨y, my, gy, eo.symm, ?_⟩)
        unfold bud
        rw [if_pos ((half_even h3).2 em), ep]
      · have := p2 o
        dsimp only at ep; omega
  · simp at hz
    rcases hz with h' | rfl | h'
    · exact h.g01 z (by simp [h'])
    · exact .inl rfl
    · exact h.g01 z (by simp [h'])
theorem Mid.one {n : Nat} {A B : List Bk} {a o g g' : Nat} (h : Mid n A ⟨a, o, g⟩ B) (ho : o < 10) (hb : ((bud a o : Nat) : Int) ∈ fr o (A ++ B)) :
    (a / 2 ^ o % 2 = 0 ∧ ∃ B', B = ⟨a + 2 ^ o, o, 0⟩ :: B' ∧ Mid n A ⟨a, o + 1, g'⟩ B') ∨ (a / 2 ^ o % 2 = 1 ∧ ∃ A', A = A' ++ [⟨a - 2 ^ o, o, 0⟩] ∧ 2 ^ o ≤ a ∧ Mid n A' ⟨a - 2 ^ o, o + 1, g'⟩ B) := by
  obtain ⟨h1, h2, h3, h4⟩ := tile_mid h.tl
  dsimp only at h1 h2 h3 h4
  obtain ⟨⟨yp, yo, yg⟩, hy, gy, oy, py⟩ := mem_fr.1 hb
  dsimp only at gy oy py
  subst gy oy
  have hp := p2 yo
  have e2 : 2 ^ (yo + 1) = 2 ^ yo + 2 ^ yo := by rw [Nat.pow_succ]; omega
  have py' : yp = bud a yo := by omega
  obtain ⟨hA, hB⟩ := tile_sep h.tl
  dsimp only at hA hB
  unfold bud at py'
  split at py' <;> rename_i hev
  · left
    refine ⟨hev, ?_⟩
    rcases List.mem_append.1 hy with hm | hm
    · have := hA _ hm; dsimp only at this; omega
    · have hle := tile_mem h2 hm
      dsimp only at hle
      obtain ⟨z, B', rfl, ez, hz⟩ := tile_first h2 (by omega)
      have : z = ⟨yp, yo, 0⟩ := tile_start h2 (by simp) hm (by dsimp only; omega)
      subst this
      dsimp only at ez hz
      subst ez
      refine ⟨B', rfl, h.n1, tile_mid' h1 (by dsimp only; rw [e2, ← Nat.add_assoc]; exact hz) ((half_even h3).1 hev) (by dsimp only; omega), h.nb.sub fun z hz _ => ?_, fun z hz => h.g01 z ?_⟩ <;>
      · simp at hz ⊢
        rcases hz with h | h <;> simp [h]
  · right
    have hod : a / 2 ^ yo % 2 = 1 := by omega
    have hle : 2 ^ yo ≤ a := by
      refine Nat.le_of_not_lt fun hlt => ?_
      rw [Nat.div_eq_of_lt hlt] at hod
      cases hod
    refine ⟨hod, ?_⟩
    rcases List.mem_append.1 hy with hm | hm
    · obtain ⟨A', z, rfl, ez, hz⟩ := tile_last h1 (by omega)
      have hs := tile_pw h1
      have : z = ⟨yp, yo, 0⟩ := by
        simp at hm
        rcases hm with hm | hm
        · have := (List.pairwise_append.1 hs).2.2 _ hm z (by simp)
          dsimp only at this
          have := p2 z.o
          omega
        · exact hm.symm
      subst this
      dsimp only at ez hz
      subst py'
      have hm2 : (a - 2 ^ yo) % 2 ^ (yo + 1) = 0 := by
        have hm3 : (a - 2 ^ yo) % 2 ^ yo = 0 := by
          have := Nat.mod_eq_zero_of_dvd (Nat.dvd_sub (Nat.dvd_of_mod_eq_zero h3) (Nat.dvd_refl (2 ^ yo)))
          exact this
        rw [← half_even hm3]
        have : (a - 2 ^ yo) / 2 ^ yo = a / 2 ^ yo - 1 := by
          have := Nat.sub_mul_div a (2 ^ yo) 1
          rw [Nat.mul_one] at this
          exact this
        rw [this]
        omega
      refine ⟨A', rfl, hle, h.n1, tile_mid' hz (by dsimp only; rw [e2, ← Nat.add_assoc, Nat.sub_add_cancel hle]; exact h2) hm2 (by dsimp only; omega), h.nb.sub fun z hz _ => ?_, fun z hz => h.g01 z ?_⟩ <;>
      · simp at hz ⊢
        rcases hz with h | h <;> simp [h]
    · have := hB _ hm; dsimp only at this; omega
end Go.Proofs.YtklmokolnakkoaaGreatDoor
