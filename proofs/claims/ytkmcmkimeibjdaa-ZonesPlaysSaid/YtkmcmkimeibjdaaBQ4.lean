/-
  A part of a proof that a law of this seat returns true at every input. Conditions: those in each theorem.
-/
import Derived.Test.YtkmcmkimeibjdaaBQ1
namespace Go.Proofs.Ytkmcmkimeibjdaa
open Go Eng
set_option linter.unusedSimpArgs false
set_option linter.unusedVariables false
set_option maxRecDepth 100000
/-! ### the free blocks as a list: one more, one less -/
theorem ins_mid {x : Nat × Nat} : ∀ {A B : List (Nat × Nat)}, (∀ y ∈ A, y.1 ≤ x.1) → (∀ y ∈ B, x.1 < y.1) → ins x (A ++ B) = A ++ x :: B
  | [], [], _, _ => rfl
  | [], y :: r, _, hB => by
    have := hB y (by simp)
    show ins x (y :: r) = x :: y :: r
    unfold ins
    rw [if_pos this]
  | a :: A, B, hA, hB => by
    have h1 := hA a (by simp)
    have := ins_mid (A := A) (B := B) (fun y hy => hA y (List.mem_cons_of_mem _ hy)) hB
    show ins x (a :: (A ++ B)) = a :: (A ++ x :: B)
    conv => lhs; unfold ins
    rw [if_neg (by omega), this]
/-- a free block put among the others -/
theorem ins_bks {A B : List Bk} {a o n : Nat} (h : Tile 0 (A ++ ⟨a, o, 0⟩ :: B) n) : ins (a, o) (bks (A ++ B)) = bks (A ++ ⟨a, o, 0⟩ :: B) := by
  obtain ⟨s1, s2⟩ := tile_sep h
  rw [bks_app, bks_app, bks_free rfl]
  refine ins_mid (fun y hy => ?_) (fun y hy => ?_)
  · obtain ⟨x, hx, _, rfl⟩ := mem_bks.1 hy
    have := s1 x hx
    have := p2 x.o
    dsimp only at *
    omega
  · obtain ⟨x, hx, _, rfl⟩ := mem_bks.1 hy
    have := s2 x hx
    have := p2 o
    dsimp only at *
    omega
theorem hit_self (p o : Nat) : hit (p : Int) (o : Int) (p, o) = true := by simp [hit]
theorem hit_eq {p o : Nat} {y : Nat × Nat} (h : hit (p : Int) (o : Int) y = true) : y = (p, o) := by
  simp only [hit, Bool.and_eq_true, beq_iff_eq] at h
  obtain ⟨h1, h2⟩ := h
  exact Prod.ext (by dsimp only; omega) (by dsimp only; omega)
theorem filt_none {p o : Nat} {l : List (Nat × Nat)} (h : (p, o) ∉ l) : l.filter (fun y => !hit (p : Int) (o : Int) y) = l :=
  List.filter_eq_self.2 fun y hy => by
    cases hh : hit (p : Int) (o : Int) y with
    | false => rfl
    | true => exact absurd (hit_eq hh ▸ hy) h
/-- a free block dropped -/
theorem filt_bks {A B : List Bk} {a o n : Nat} (h : Tile 0 (A ++ ⟨a, o, 0⟩ :: B) n) : (bks (A ++ ⟨a, o, 0⟩ :: B)).filter (fun y => !hit (a : Int) (o : Int) y) = bks (A ++ B) := by
  obtain ⟨s1, s2⟩ := sep_ne h (k := a) (Nat.le_refl _) (by have := p2 o; dsimp only; omega)
  rw [bks_app, bks_app, bks_free rfl, List.filter_append, List.filter_cons_of_neg (by simp [hit_self])]
  congr 1
  · refine filt_none fun hm => ?_
    obtain ⟨x, hx, _, e⟩ := mem_bks.1 hm
    have := congrArg Prod.fst e
    exact s1 x hx this
  · refine filt_none fun hm => ?_
    obtain ⟨x, hx, _, e⟩ := mem_bks.1 hm
    have := congrArg Prod.fst e
    exact s2 x hx this
theorem any_bks {L : List Bk} {p o : Int} : (bks L).any (hit p o) = true ↔ ∃ x ∈ L, x.g = 0 ∧ (x.p : Int) = p ∧ (x.o : Int) = o := by
  rw [List.any_eq_true]
  constructor
  · rintro ⟨y, hy, hh⟩
    obtain ⟨x, hx, hg, rfl⟩ := mem_bks.1 hy
    simp only [hit, Bool.and_eq_true, beq_iff_eq] at hh
    exact ⟨x, hx, hg, hh.1.symm, hh.2.symm⟩
  · rintro ⟨x, hx, hg, rfl, rfl⟩
    exact ⟨_, mem_bks.2 ⟨x, hx, hg, rfl⟩, hit_self _ _⟩
theorem bks_any_hold (A B : List Bk) (a o g : Nat) (h : g ≠ 0) : bks (A ++ ⟨a, o, g⟩ :: B) = bks (A ++ B) := by
  rw [bks_app, bks_app, bks_held h]
/-! ### what is taken -/
theorem tks_any {L : List Bk} {T : List (Nat × Nat)} (h : Tks L T) {p o : Int} : T.any (hit p o) = true ↔ (p, o) ∈ tk L := by
  rw [List.any_eq_true, mem_tk]
  constructor
  · rintro ⟨⟨a, b⟩, hy, hh⟩
    simp only [hit, Bool.and_eq_true, beq_iff_eq] at hh
    exact ⟨⟨a, b, 1⟩, (h.2 _ rfl).2 hy, rfl, hh.1.symm, hh.2.symm⟩
  · rintro ⟨x, hx, hg, rfl, rfl⟩
    exact ⟨_, (h.2 x hg).1 hx, hit_self _ _⟩
/-- given back: out of the list -/
theorem tks_drop {L L' : List Bk} {T : List (Nat × Nat)} {p o : Nat} (h : Tks L T) (hin : (p, o) ∈ T) (hs : ∀ y : Bk, y.g = 1 → (y ∈ L' ↔ y ∈ L ∧ y ≠ ⟨p, o, 1⟩)) : Tks L' (T.filter fun y => !hit (p : Int) (o : Int) y) := by
  refine ⟨h.1.filter _, fun y hy => ?_⟩
  rw [hs y hy, h.2 y hy, List.mem_filter]
  constructor
  · rintro ⟨h1, h2⟩
    refine ⟨h1, ?_⟩
    cases hh : hit (p : Int) (o : Int) (y.p, y.o) with
    | false => rfl
    | true =>
      have := hit_eq hh
      simp at this
      exact absurd ((eqBk _ _).2 ⟨this.1, this.2, hy⟩) h2
  · rintro ⟨h1, h2⟩
    refine ⟨h1, fun e => ?_⟩
    subst e
    simp [hit_self] at h2
end Go.Proofs.Ytkmcmkimeibjdaa
namespace Go.Proofs.Ytkmcmkimeibjdaa
open Go Eng
set_option linter.unusedSimpArgs false
set_option linter.unusedVariables false
set_option maxRecDepth 100000
/-! ### append(append([]T{}, taken...), x) -/
theorem app_none (w : World) (X : Nat) : appIs Try.prog #[56, 56] 56 (.slice (some ⟨X, 0, none⟩) 0 0) (.slice none 0 0) (.slice (some ⟨X, 0, none⟩) 0 0) w w := by
  have hi := info_blk
  cases hii : Try.prog.info? 58 with
  | none => rw [hii] at hi; cases hi
  | some i =>
  constructor
  simp [Builtin.append_, run_underlying Try.underlying56, sizeOf, typeInfo, hii, Builtin.lenOf, Builtin.firstCells, loadCells, loadCellsFrom, storeCells]
/-- the row once more, and one more -/
theorem copy_row {w : World} {X : Nat} {ta : Option Addr} {tc : Nat} {T : List (Nat × Nat)} (hX : w.heap[X]? = some (.cells #[] 58 (0, 0))) (row : w.ownsRow 0 58 2 (.slice ta T.length tc) T.length (tkC T)) (hT : T.length ≤ 900) :
    ∃ a c w', appIs Try.prog #[56, 56] 56 (.slice (some ⟨X, 0, none⟩) 0 0) (.slice ta T.length tc) (.slice a T.length c) w w' ∧ w'.ownsRow X 58 2 (.slice a T.length c) T.length (tkC T) ∧ Kept (fun x => x = X) w w' ∧ w.heap.size ≤ w'.heap.size := by
  have hlt : X < w.heap.size := (Array.getElem?_eq_some_iff.1 hX).1
  have rX : w.ownsRow X 58 2 (.slice (some ⟨X, 0, none⟩) 0 0) 0 [] := ⟨rfl, .inr ⟨X, 0, #[], rfl, Nat.le_refl _, hX, by decide, by decide, rfl, rfl⟩⟩
  obtain ⟨_, hh⟩ := ownsRow_own row
  rcases hh with ⟨rfl, h0, rfl⟩ | ⟨g, cs, rfl, hg, og, htk, hlc, hcs⟩
  · have hT0 : T = [] := List.length_eq_zero_iff.1 h0
    subst hT0
    exact ⟨_, _, w, app_none w X, rX, Kept.refl _ _, Nat.le_refl _⟩
  · obtain ⟨a, l, c, w', happ, rfl, row', k⟩ := app_blk rX og (m := T.length) (off := 0) (c := tc) (by rw [List.drop_zero]; exact htk) (tkC_len T) (fun u hu => by
      simp only [tkC, List.mem_flatMap] at hu
      obtain ⟨x, _, hx⟩ := hu
      simp at hx
      rcases hx with rfl | rfl <;> rfl) (by omega) (by omega)
    rw [Nat.zero_add] at happ row'
    rw [List.nil_append] at row'
    exact ⟨a, c, w', happ, row', k.mono fun x _ h => by simp [Value.ownBlock] at h; exact h.symm, k.sz⟩
end Go.Proofs.Ytkmcmkimeibjdaa
namespace Go.Proofs.Ytkmcmkimeibjdaa
open Go Eng
set_option linter.unusedSimpArgs false
set_option linter.unusedVariables false
set_option maxRecDepth 100000
/-! ### which block the document's Take finds -/
def PickI (F : List (Nat × Nat)) (o : Nat) (high : Bool) (n : Int) (i : Nat) : Prop :=
  (n = -1 ∧ ∀ j y, j < i → F[j]? = some y → y.2 < o) ∨
  ∃ (k : Nat) (y : Nat × Nat), n = (k : Int) ∧ k < i ∧ F[k]? = some y ∧ o ≤ y.2 ∧ ∀ j z, j < i → F[j]? = some z → o ≤ z.2 → y.2 ≤ z.2 ∧ (z.2 = y.2 → if high then j ≤ k else k ≤ j)
section
variable {F : List (Nat × Nat)} {o : Nat} {high : Bool} {n : Int} {i : Nat} {y : Nat × Nat}
theorem PickI.zero : PickI F o high (-1) 0 := .inl ⟨rfl, fun j _ h => absurd h (Nat.not_lt_zero _)⟩
theorem PickI.small (h : PickI F o high n i) (hy : F[i]? = some y) (hl : y.2 < o) : PickI F o high n (i + 1) := by
  rcases h with ⟨rfl, h⟩ | ⟨k, z, rfl, hk, hz, ho, h⟩
  · refine .inl ⟨rfl, fun j z hj hz => ?_⟩
    by_cases e : j = i
    · subst e; rw [hy] at hz; cases hz; exact hl
    · exact h j z (by omega) hz
  · refine .inr ⟨k, z, rfl, by omega, hz, ho, fun j u hj hu hou => ?_⟩
    by_cases e : j = i
    · subst e; rw [hy] at hu; cases hu; omega
    · exact h j u (by omega) hu hou
theorem PickI.new (h : PickI F o high n i) (hy : F[i]? = some y) (hl : o ≤ y.2) (hn : n = -1 ∨ ∃ (k : Nat) (z : Nat × Nat), n = (k : Int) ∧ F[k]? = some z ∧ (y.2 < z.2 ∨ (high = true ∧ y.2 = z.2))) : PickI F o high (i : Int) (i + 1) := by
  refine .inr ⟨i, y, rfl, by omega, hy, hl, fun j u hj hu hou => ?_⟩
  by_cases e : j = i
  · subst e; rw [hy] at hu; cases hu
    exact ⟨Nat.le_refl _, fun _ => by cases high <;> simp⟩
  · rcases h with ⟨rfl, h⟩ | ⟨k, z, rfl, hk, hz, ho, h⟩
    · have := h j u (by omega) hu; omega
    · rcases hn with hn | ⟨k', z', e', hz', hn⟩
      · omega
      · have : k' = k := by omega
        subst this
        rw [hz] at hz'
        cases hz'
        have := (h j u (by omega) hu hou).1
        rcases hn with hn | ⟨rfl, hn⟩
        · exact ⟨by omega, fun e => by omega⟩
        · exact ⟨by omega, fun _ => by simp; omega⟩
theorem PickI.old (h : PickI F o high n i) (hy : F[i]? = some y) (hl : o ≤ y.2) (hn : ∃ (k : Nat) (z : Nat × Nat), n = (k : Int) ∧ F[k]? = some z ∧ ¬ (y.2 < z.2) ∧ ¬ (high = true ∧ y.2 = z.2)) : PickI F o high n (i + 1) := by
  obtain ⟨k', z', e', hz', n1, n2⟩ := hn
  rcases h with ⟨rfl, h⟩ | ⟨k, z, rfl, hk, hz, ho, h⟩
  · omega
  · have : k' = k := by omega
    subst this
    rw [hz] at hz'
    cases hz'
    refine .inr ⟨k', _, rfl, by omega, hz, ho, fun j u hj hu hou => ?_⟩
    by_cases e : j = i
    · subst e; rw [hy] at hu; cases hu
      refine ⟨by omega, fun e => ?_⟩
      cases high with
      | false => simp; omega
      | true => exact absurd ⟨rfl, e⟩ n2
    · exact h j u (by omega) hu hou
theorem PickI.at (h : PickI F o high n i) : n = -1 ∨ ∃ (k : Nat) (y : Nat × Nat), n = (k : Int) ∧ k < i ∧ F[k]? = some y := by
  rcases h with ⟨rfl, _⟩ | ⟨k, y, rfl, hk, hy, _⟩
  · exact .inl rfl
  · exact .inr ⟨k, y, rfl, hk, hy⟩
end
theorem bks_sorted {l : List Bk} {n : Nat} (h : Tile 0 l n) : (bks l).Pairwise fun a b => a.1 < b.1 := by
  have := frB_sorted h
  rw [List.pairwise_map] at this
  unfold bks
  rw [List.pairwise_map]
  exact this
/-- the block found is the one of TakeR -/
theorem pick_found {L : List Bk} {n : Nat} {o : Nat} {high : Bool} {k : Nat} (ht : Tile 0 L n) (h : PickI (bks L) o high (k : Int) (bks L).length) :
    ∃ x ∈ L, x.g = 0 ∧ (bks L)[k]? = some (x.p, x.o) ∧ o ≤ x.o ∧ (∀ y ∈ L, y.g = 0 → o ≤ y.o → x.o ≤ y.o) ∧ (∀ y ∈ L, y.g = 0 → y.o = x.o → if high then y.p ≤ x.p else x.p ≤ y.p) := by
  rcases h with ⟨h, _⟩ | ⟨k', y, e, hk, hy, ho, h⟩
  · omega
  have : k' = k := by omega
  subst this
  obtain ⟨x, hx, hg, rfl⟩ := mem_bks.1 (List.mem_iff_getElem?.2 ⟨_, hy⟩)
  have all : ∀ u ∈ L, u.g = 0 → o ≤ u.o → x.o ≤ u.o ∧ (u.o = x.o → if high then u.p ≤ x.p else x.p ≤ u.p) := by
    intro u hu hgu hou
    obtain ⟨j, hj⟩ := List.mem_iff_getElem?.1 (mem_bks.2 ⟨u, hu, hgu, rfl⟩)
    have hjl := (List.getElem?_eq_some_iff.1 hj).1
    obtain ⟨q1, q2⟩ := h j _ hjl hj hou
    have hs := List.pairwise_iff_getElem.1 (bks_sorted ht)
    have ej := (List.getElem?_eq_some_iff.1 hj).2
    have ek := (List.getElem?_eq_some_iff.1 hy).2
    have lt : ∀ {a b : Nat} (ha : a < (bks L).length) (hb : b < (bks L).length), a ≤ b → (bks L)[a].1 ≤ (bks L)[b].1 := fun ha hb hab => by
      rcases Nat.lt_or_eq_of_le hab with h | h
      · exact Nat.le_of_lt (hs _ _ ha hb h)
      · subst h; exact Nat.le_refl _
    refine ⟨q1, fun e => ?_⟩
    have q3 := q2 e
    cases high with
    | true =>
      simp only [if_true] at q3 ⊢
      have := lt hjl hk q3
      rw [ej, ek] at this
      exact this
    | false =>
      simp only [Bool.false_eq_true, if_false] at q3 ⊢
      have := lt hk hjl q3
      rw [ej, ek] at this
      exact this
  exact ⟨x, hx, hg, hy, ho, fun u hu hgu hou => (all u hu hgu hou).1, fun u hu hgu hou => (all u hu hgu (by have : o ≤ x.o := ho; omega)).2 hou⟩
end Go.Proofs.Ytkmcmkimeibjdaa
