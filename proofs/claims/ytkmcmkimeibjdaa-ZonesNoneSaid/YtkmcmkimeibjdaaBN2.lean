/-
  A part of a proof that a law of this seat returns true at every input. Conditions: those in each theorem.
-/
import Derived.Test.YtkmcmkimeibjdaaBN1
namespace Go.Proofs.Ytkmcmkimeibjdaa
open Go Eng
set_option linter.unusedSimpArgs false
set_option linter.unusedVariables false
set_option maxRecDepth 100000
/-! ### the free blocks, by their places -/
def frB (l : List Bk) : List Bk := l.filter fun x => x.g == 0
def blkV (x : Bk) : Value := .agg #[.int .i64 (x.p : Int), .int .i64 (x.o : Int)]
theorem mem_frB {l : List Bk} {x : Bk} : x ∈ frB l ↔ x ∈ l ∧ x.g = 0 := by
  unfold frB
  rw [List.mem_filter]
  simp
/-- what order the free block at a place has -/
def ordAt (l : List Bk) (a : Nat) : Nat := ((l.find? fun x => x.g == 0 && x.p == a).map (·.o)).getD 0
theorem ordAt_of {l : List Bk} {n : Nat} (h : Tile 0 l n) {x : Bk} (hx : x ∈ l) (hg : x.g = 0) : ordAt l x.p = x.o := by
  unfold ordAt
  cases hf : l.find? fun y => y.g == 0 && y.p == x.p with
  | none =>
    have := List.find?_eq_none.1 hf x hx
    simp [hg] at this
  | some y =>
    have h1 := List.mem_of_find?_eq_some hf
    have h2 := List.find?_some hf
    simp only [Bool.and_eq_true, beq_iff_eq] at h2
    have : y = x := tile_start h h1 hx h2.2
    rw [this]; rfl
theorem frB_sorted {l : List Bk} {n : Nat} (h : Tile 0 l n) : ((frB l).map (·.p)).Pairwise (fun a b => a < b) := by
  rw [List.pairwise_map]
  refine ((tile_pw h).filter _).imp ?_
  intro x y hxy
  have := p2 x.o
  omega
theorem frB_pairs {l : List Bk} {n : Nat} (h : Tile 0 l n) : (frB l).map blkV = ((frB l).map (·.p)).map fun (a : Nat) => Value.agg #[.int .i64 (a : Int), .int .i64 (ordAt l a : Nat)] := by
  rw [List.map_map]
  apply List.map_congr_left
  intro x hx
  obtain ⟨h1, h2⟩ := mem_frB.1 hx
  simp only [Function.comp_apply, blkV, ordAt_of h h1 h2]
end Go.Proofs.Ytkmcmkimeibjdaa
namespace Go.Proofs.Ytkmcmkimeibjdaa
open Go Eng
set_option linter.unusedSimpArgs false
set_option linter.unusedVariables false
set_option maxRecDepth 100000
/-! ### Blocks: what its iterator tells -/
def rowCells (l : List Bk) (d : List Nat) : List Value := d.flatMap fun (a : Nat) => [.int .i64 (a : Int), .int .i64 (ordAt l a : Nat)]
theorem rowCells_app (l : List Bk) (d d' : List Nat) : rowCells l (d ++ d') = rowCells l d ++ rowCells l d' := by simp [rowCells]
theorem rowCells_len (l : List Bk) : ∀ d : List Nat, (rowCells l d).length = d.length * 2
  | [] => rfl
  | a :: d => by
    have := rowCells_len l d
    simp only [rowCells, List.flatMap_cons, List.length_append, List.length_cons, List.length_nil] at this ⊢
    omega
theorem rowCells_get (l : List Bk) : ∀ (d : List Nat) (i : Nat) (a : Nat), d[i]? = some a → (rowCells l d)[i * 2]? = some (.int .i64 (a : Int)) ∧ (rowCells l d)[i * 2 + 1]? = some (.int .i64 (ordAt l a : Nat))
  | [], i, a, h => by simp at h
  | x :: d, 0, a, h => by
    simp at h
    subst h
    exact ⟨rfl, rfl⟩
  | x :: d, i + 1, a, h => by
    have := rowCells_get l d i a (by simpa using h)
    have e : rowCells l (x :: d) = [.int .i64 (x : Int), .int .i64 (ordAt l x : Nat)] ++ rowCells l d := rfl
    rw [e]
    constructor
    · rw [List.getElem?_append_right (by simp; omega), show (i + 1) * 2 - [Value.int .i64 (x : Int), .int .i64 (ordAt l x : Nat)].length = i * 2 by simp; omega]
      exact this.1
    · rw [List.getElem?_append_right (by simp; omega), show (i + 1) * 2 + 1 - [Value.int .i64 (x : Int), .int .i64 (ordAt l x : Nat)].length = i * 2 + 1 by simp; omega]
      exact this.2
def frN (q : Nat) (l : List Bk) : List Nat := (l.filter fun x => x.g == 0 && x.o == q).map (·.p)
def plc (q : Nat) (l : List Bk) : List Nat := (l.filter fun x => x.g == 0 && decide (x.o < q)).map (·.p)
theorem fr_frN (q : Nat) (l : List Bk) : fr q l = (frN q l).map fun (a : Nat) => (a : Int) := by simp [fr, frN, Function.comp_def]
theorem mem_plc {q : Nat} {l : List Bk} {a : Nat} : a ∈ plc q l ↔ ∃ x ∈ l, x.g = 0 ∧ x.o < q ∧ x.p = a := by
  unfold plc
  simp only [List.mem_map, List.mem_filter, Bool.and_eq_true, beq_iff_eq, decide_eq_true_eq]
  constructor
  · rintro ⟨x, ⟨h1, h2, h3⟩, h4⟩; exact ⟨x, h1, h2, h3, h4⟩
  · rintro ⟨x, h1, h2, h3, h4⟩; exact ⟨x, ⟨h1, h2, h3⟩, h4⟩
theorem plc_len (q : Nat) (l : List Bk) : (plc q l).length ≤ l.length := by
  unfold plc; rw [List.length_map]; exact List.length_filter_le _ _
theorem plc_zero (l : List Bk) : plc 0 l = [] := by
  unfold plc
  rw [List.filter_eq_nil_iff.2 (by intro x _; simp)]; rfl
theorem plc_succ (q : Nat) : ∀ l : List Bk, (plc (q + 1) l).Perm (plc q l ++ frN q l)
  | [] => List.Perm.refl _
  | x :: l => by
    have ih := plc_succ q l
    unfold plc frN at *
    by_cases hg : x.g = 0
    · rcases Nat.lt_trichotomy x.o q with h | h | h
      · rw [List.filter_cons_of_pos (by simp [hg]; omega), List.filter_cons_of_pos (by simp [hg]; omega), List.filter_cons_of_neg (by simp [hg]; omega)]
        simp only [List.map_cons, List.cons_append]
        exact ih.cons _
      · rw [List.filter_cons_of_pos (by simp [hg]; omega), List.filter_cons_of_neg (by simp [hg]; omega), List.filter_cons_of_pos (by simp [hg]; omega)]
        simp only [List.map_cons]
        exact (ih.cons _).trans List.perm_middle.symm
      · rw [List.filter_cons_of_neg (by simp [hg]; omega), List.filter_cons_of_neg (by simp [hg]; omega), List.filter_cons_of_neg (by simp [hg]; omega)]
        exact ih
    · rw [List.filter_cons_of_neg (by simp [hg]), List.filter_cons_of_neg (by simp [hg]), List.filter_cons_of_neg (by simp [hg])]
      exact ih
theorem plc_all {l : List Bk} (h : ∀ x ∈ l, x.o ≤ 10) : plc 11 l = (frB l).map (·.p) := by
  unfold plc frB
  congr 1
  apply List.filter_congr
  intro x hx
  have := h x hx
  simp; omega
theorem info_blk : (Try.prog.info? 58).map (fun i => (i.zero, i.size, i.bytes)) = some (some (.agg #[.int .i64 0, .int .i64 0]), 2, 16) := by kernel_rfl
theorem app_blk {w : World} {base : Nat} {v : Value} {n : Nat} {xs : List Value} (ho : w.ownsRow base 58 2 v n xs) {X m c off : Nat} {ys news : List Value} (hx : own w X ys) (hys : (ys.drop off).take (m * 2) = news) (hl : news.length = m * 2)
    (h1 : ∀ u ∈ news, u.oneCell' = true) (h63 : n + m ≤ 1000000) (hbase : base ≤ w.heap.size) :
    ∃ a l c' w', appIs Try.prog #[56, 56] 56 v (.slice (some ⟨X, off, none⟩) m c) (.slice a l c') w w' ∧ l = n + m ∧ w'.ownsRow base 58 2 (.slice a l c') (n + m) (xs ++ news) ∧ Kept (fun b => v.ownBlock = some b) w w' := by
  have h := info_blk
  cases hi : Try.prog.info? 58 with
  | none => rw [hi] at h; cases h
  | some i =>
    rw [hi] at h
    simp at h
    exact app_own (P := Try.prog) (t := 56) (ty := 56) (e := 58) (i := i) (z := .agg #[.int .i64 0, .int .i64 0]) (size := 2) Try.underlying56 hi h.1 h.2.1 rfl (by decide) ho hx hys hl h1 h63 (by omega) hbase
/-- what is asked of the sort -/
def SortSays (l : List Bk) : Prop := ∀ (w : World) (a : Option Addr) (n c base : Nat) (d : List Nat), w.ownsRow base 58 2 (.slice a n c) n (rowCells l d) → (∀ x ∈ d, x < 128) → d.Nodup → d.length ≤ 128 →
  Calls Try.prog 55 #[.slice a n c, .func (.func 56) #[] #[]] w fun e w' => e = .returned (.tuple #[]) ∧ w'.ownsRow base 58 2 (.slice a n c) n (rowCells l (d.mergeSort fun x y => decide (x ≤ y))) ∧ Kept (fun b => (Value.slice a n c).ownBlock = some b) w w'
theorem sorted_perm_eq {d e : List Nat} (hp : d.Perm e) (he : e.Pairwise (fun a b => a < b)) : (d.mergeSort fun x y => decide (x ≤ y)) = e := by
  have h1 : (d.mergeSort fun x y => decide (x ≤ y)).Pairwise (fun x y => x ≤ y) := by
    have := List.pairwise_mergeSort (le := fun (x y : Nat) => decide (x ≤ y)) (by intro a b c h1 h2; simp at *; omega) (by intro a b; simp; omega) d
    exact this.imp fun h => by simpa using h
  have h2 : (d.mergeSort fun x y => decide (x ≤ y)).Perm e := (List.mergeSort_perm d _).trans hp
  exact h2.eq_of_pairwise (le := fun x y => x ≤ y) (fun a b _ _ h1 h2 => by omega) h1 (he.imp fun h => by omega)
end Go.Proofs.Ytkmcmkimeibjdaa
