/-
  A part of a proof that a law of this seat returns true at every input. Conditions: those in each theorem.
-/
import Derived.Shelf.SlMaps.Clone
import Derived.Test.YtkmcmkimeibjdaaProg
import Derived.Test.YtkmcmkimeibjdaaBS2
/-
  DERIVED: THE SHELF's CONTRACTS AT THIS DUMP, IN PLAIN WORDS (tools/lay-plain.mjs out of 'S3r3.lean', which tools/lay-shelf.mjs wrote): THE SAME DECLARATIONS UNDER THE SAME NAMES: 'import', 'namespace', 'open', 'def', 'theorem' AND NOTHING ELSE: no command of the shelf's: FOR A HAND-IN. Each laying: the table of numbers ('.._ren') and one theorem, a field a fact of the dump's own or the kernel's comparison; each contract: ONE APPLICATION.
-/
namespace Go.Proofs
open Go.Shelf
def Try.cloneI_ren : Go.Shelf.Ren := ⟨fun | 5 => 46 | 7 => 67 | n => n, fun | 23 => 49 | 25 => 3 | 3 => 3 | 4 => 4 | 20 => 20 | n => n, fun | n => n⟩
theorem Try.cloneI : Go.Proofs.SlLaysW.n5 Try.prog Try.cloneI_ren := {
  mixed := by kernel_rfl
  f5 := ⟨Try.f46.name, by decide, Try.func46.trans (congrArg some (by kernel_rfl))⟩
  f7 := Try.func67.trans (congrArg some (by kernel_rfl))
  t4 := Try.underlying4
  a4 := Try.isAgg4
  z4 := Try.sizeOf4
  v4 := Try.zeroValue4
  t20 := Try.underlying20
  a20 := Try.isAgg20
  z20 := Try.sizeOf20
  v20 := Try.zeroValue20
  t23 := Try.underlying49
  a23 := Try.isAgg49
  z23 := Try.sizeOf49
  v23 := Try.zeroValue49 }
def Try.cloneB_ren : Go.Shelf.Ren := ⟨fun | 5 => 47 | 7 => 67 | n => n, fun | 23 => 75 | 25 => 3 | 3 => 4 | 4 => 4 | 20 => 20 | n => n, fun | n => n⟩
theorem Try.cloneB : Go.Proofs.SlLaysW.n5 Try.prog Try.cloneB_ren := {
  mixed := by kernel_rfl
  f5 := ⟨Try.f47.name, by decide, Try.func47.trans (congrArg some (by kernel_rfl))⟩
  f7 := Try.func67.trans (congrArg some (by kernel_rfl))
  t4 := Try.underlying4
  a4 := Try.isAgg4
  z4 := Try.sizeOf4
  v4 := Try.zeroValue4
  t20 := Try.underlying20
  a20 := Try.isAgg20
  z20 := Try.sizeOf20
  v20 := Try.zeroValue20
  t23 := Try.underlying75
  a23 := Try.isAgg75
  z23 := Try.sizeOf75
  v23 := Try.zeroValue75 }
end Go.Proofs
namespace Go.Proofs.Ytkmcmkimeibjdaa
open Go Eng
open Go.RowKit Go.Maps Go.Shelf
set_option linter.unusedSimpArgs false
set_option linter.unusedVariables false
set_option maxRecDepth 100000
theorem MapIs.clone {w : World} {b : Nat} {m : List (Int × Value)} (h : MapIs w b m) {es : Array MapEntry} {c : Nat} (he : w.heap[b]? = some (.map es c)) : MapIs (w.alloc (.map es c)) w.heap.size m := by
  obtain ⟨es', c', h1, h2, h3⟩ := h.ex
  rw [he] at h1
  cases h1
  exact ⟨⟨es, c, by simp only [World.alloc]; simp, h2, h3⟩, h.nd, h.rg⟩
theorem clone_bool {w : World} {b : Nat} {m : List (Int × Value)} (h : MapIs w b m) : Calls Try.prog 47 #[.map (some b)] w fun e w' => e = .returned (.map (some w.heap.size)) ∧ Kept none' w w' ∧ MapIs w' w.heap.size m := by
  obtain ⟨es, c, h1, h2, h3⟩ := h.ex
  refine (AnyW.maps_Clone Try.cloneB b es c w h1).mono ?_
  rintro e w' ⟨rfl, rfl⟩
  exact ⟨rfl, (Kept.refl _ _).allocMap es c, MapIs.clone h h1⟩
theorem clone_int {w : World} {b : Nat} {m : List (Int × Value)} (h : MapIs w b m) : Calls Try.prog 46 #[.map (some b)] w fun e w' => e = .returned (.map (some w.heap.size)) ∧ Kept none' w w' ∧ MapIs w' w.heap.size m := by
  obtain ⟨es, c, h1, h2, h3⟩ := h.ex
  refine (AnyW.maps_Clone Try.cloneI b es c w h1).mono ?_
  rintro e w' ⟨rfl, rfl⟩
  exact ⟨rfl, (Kept.refl _ _).allocMap es c, MapIs.clone h h1⟩
theorem len_map {P : Program} {mt kt et : TypeId} (ht : P.underlying mt = some (.map kt et)) (hk : P.underlying kt = some (.int .i64)) {w : World} {b : Nat} {m : List (Int × Value)} (h : MapIs w b m) (hs : m.length ≤ 1000000) {ty : TypeId} :
    lenIs P #[mt] ty (.map (some b)) m.length w := by
  obtain ⟨D, hown, _, hsz⟩ := map_owns hk h (by unfold maxLen; omega)
  have := hown.len ht ty
  rw [hsz] at this
  exact ⟨this⟩
end Go.Proofs.Ytkmcmkimeibjdaa
