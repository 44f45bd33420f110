/-
  A part of a proof that a law of this seat returns true at every input. Conditions: those in each theorem.
-/
import Derived.Test.YtkmcmkimeibjdaaBS2
import Derived.Test.YtkmcmkimeibjdaaBS3
namespace Go.Proofs.Ytkmcmkimeibjdaa
open Go Eng
open Go.RowKit Go.Maps Go.Shelf
set_option linter.unusedSimpArgs false
set_option linter.unusedVariables false
set_option maxRecDepth 100000
theorem MapIs.clone {w : World} {b : Nat} {m : List (Int × Value)} (h : MapIs w b m) {es : Array MapEntry} {c : Nat} (he : w.heap[b]? = some (.map es c)) : MapIs (w.alloc (.map es c)) w.heap.size m := by
  obtain ⟨es', c', h1, h2, h3⟩ := h.ex
  rw [he] at h1
  cases h1
  exact ⟨⟨es, c, by simp only [World.alloc]; simp, h2, h3⟩, h.nd, h.rg⟩
theorem clone_bool {w : World} {b : Nat} {m : List (Int × Value)} (h : MapIs w b m) : Calls Try.prog 47 #[.map (some b)] w fun e w' => e = .returned (.map (some w.heap.size)) ∧ Kept none' w w' ∧ MapIs w' w.heap.size m := by
  obtain ⟨es, c, h1, h2, h3⟩ := h.ex
  refine (AnyW.maps_Clone Try.cloneB b es c w h1).mono ?_
  rintro e w' ⟨rfl, rfl⟩
  exact ⟨rfl, (Kept.refl _ _).allocMap es c, MapIs.clone h h1⟩
theorem clone_int {w : World} {b : Nat} {m : List (Int × Value)} (h : MapIs w b m) : Calls Try.prog 46 #[.map (some b)] w fun e w' => e = .returned (.map (some w.heap.size)) ∧ Kept none' w w' ∧ MapIs w' w.heap.size m := by
  obtain ⟨es, c, h1, h2, h3⟩ := h.ex
  refine (AnyW.maps_Clone Try.cloneI b es c w h1).mono ?_
  rintro e w' ⟨rfl, rfl⟩
  exact ⟨rfl, (Kept.refl _ _).allocMap es c, MapIs.clone h h1⟩
theorem len_map {P : Program} {mt kt et : TypeId} (ht : P.underlying mt = some (.map kt et)) (hk : P.underlying kt = some (.int .i64)) {w : World} {b : Nat} {m : List (Int × Value)} (h : MapIs w b m) (hs : m.length ≤ 1000000) {ty : TypeId} :
    lenIs P #[mt] ty (.map (some b)) m.length w := by
  obtain ⟨D, hown, _, hsz⟩ := map_owns hk h (by unfold maxLen; omega)
  have := hown.len ht ty
  rw [hsz] at this
  exact ⟨this⟩
end Go.Proofs.Ytkmcmkimeibjdaa
