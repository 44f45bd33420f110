/-
  A part of a proof that a law of this seat returns true at every input. Conditions: those in each theorem.
-/
import Derived.Test.YtkmcmkimeibjdaaBN5
import Derived.Test.YtkmcmkimeibjdaaBS4
import Derived.Shelf.SlSortCmp.NoneTotal
namespace Go.Proofs.Ytkmcmkimeibjdaa
open Go Eng Go.Sort
set_option linter.unusedSimpArgs false
set_option linter.unusedVariables false
set_option maxRecDepth 100000
/-! ### slices.SortFunc at the blocks of a row -/
theorem enters56 : ∀ args w, (callFunc 56 args).run Try.prog w = .ok (.enter 56 args) w := enters_of Try.func56 (by kernel_rfl) rfl
theorem sort_says (L : List Bk) : SortSays L := fun w a n c base d h hd hn hl => by
  have hlen := h.1
  rw [rowCells_len] at hlen
  have hnd : n = d.length := by omega
  obtain ⟨d', rfl⟩ : ∃ d' : List (Fin 128), d = d'.map (·.val) := ⟨d.pmap (fun x hx => ⟨x, hx⟩) hd, by simp [List.map_pmap]⟩
  rw [List.length_map] at hnd hl
  rcases h.2 with ⟨h0, h1⟩ | ⟨g, cap, cur, hv, hb, hgg, hnc, hm, hsz, htk⟩
  · have hd0 : d' = [] := List.length_eq_zero_iff.1 (by omega)
    subst hd0
    cases h0
    refine (AnyF.slices_SortFunc_none (ρ := Try.sortFA_ren) Try.sortFA none 0 (.func (.func 56) #[] #[]) w).mono ?_
    rintro e w' ⟨rfl, rfl⟩
    exact ⟨rfl, by simpa using h, Kept.refl _ _⟩
  · cases hv
    have hglt : g < w.heap.size := (Array.getElem?_eq_some_iff.1 hgg).1
    have hH : HoldsK (encB L) 2 w g 0 d'.toArray := by
      refine holds_blk hgg ?_
      rw [flat_row, ← htk]
      simp [hnd]
    have hcon := AnyQ.slices_SortFunc_total (ρ := Try.sortFA_ren) Try.sortFA 2 Try.isAgg58 Try.sizeOf58 (encB L) (fun _ => rfl) (fun x v hv => by simp [encB] at hv; rcases hv with rfl | rfl <;> rfl) (fun x y => (x.1 : Int) - (y.1 : Int)) swoB 56 #[] g 0 c d'.toArray w enters56 (cmp_lays L g 0 _ w) hH hglt (by simp; omega) totB
    have hs : d'.toArray.size = n := by simp [hnd]
    rw [hs] at hcon
    refine hcon.mono ?_
    rintro e w' ⟨rfl, m, os, rfl⟩
    have := row_after (m := m) (os := os) (d' := (d'.mergeSort fun x y => !(ltOf (fun x y : Fin 128 => (x.1 : Int) - (y.1 : Int))) y x)) h (List.length_mergeSort _) hnd
    rw [merge_map] at this
    exact ⟨rfl, this.1, this.2.mono fun b _ hb => by simp [Value.ownBlock, hb]⟩
end Go.Proofs.Ytkmcmkimeibjdaa
