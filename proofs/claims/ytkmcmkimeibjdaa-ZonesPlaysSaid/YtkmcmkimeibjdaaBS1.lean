/-
  A part of a proof that a law of this seat returns true at every input. Conditions: those in each theorem.
-/
import Derived.Shelf.SlIterI.Nil
import Derived.Shelf.SortM.Plain
import Derived.Shelf.SortM.SortNone
import Derived.Test.YtkmcmkimeibjdaaProg
import Derived.Test.YtkmcmkimeibjdaaBR1
import Derived.Maps.Range
import Derived.Maps.Keyed
import Derived.Shelf.SlMaps.Clone
/-
  DERIVED: THE SHELF's CONTRACTS AT THIS DUMP, IN PLAIN WORDS (tools/lay-plain.mjs out of 'S1r3.lean', which tools/lay-shelf.mjs wrote): THE SAME DECLARATIONS UNDER THE SAME NAMES: 'import', 'namespace', 'open', 'def', 'theorem' AND NOTHING ELSE: no command of the shelf's: FOR A HAND-IN. Each laying: the table of numbers ('.._ren') and one theorem, a field a fact of the dump's own or the kernel's comparison; each contract: ONE APPLICATION.
-/
namespace Go.Proofs
open Go.Shelf
def Try.keysA_ren : Go.Shelf.Ren := ⟨fun | 7 => 66 | 10 => 75 | n => n, fun | 23 => 75 | 26 => 3 | 3 => 4 | 28 => 114 | 0 => 0 | 27 => 113 | 33 => 99 | 4 => 4 | n => n, fun | n => n⟩
theorem Try.keysA : Go.Proofs.SlLaysZI.n7 Try.prog Try.keysA_ren := {
  mixed := by kernel_rfl
  f7 := ⟨Try.f66.name, by decide, Try.func66.trans (congrArg some (by kernel_rfl))⟩
  f10 := ⟨Try.f75.name, by decide, Try.func75.trans (congrArg some (by kernel_rfl))⟩
  t0 := Try.underlying0
  a0 := Try.isAgg0
  z0 := Try.sizeOf0
  v0 := Try.zeroValue0
  t4 := Try.underlying4
  a4 := Try.isAgg4
  z4 := Try.sizeOf4
  v4 := Try.zeroValue4
  t23 := Try.underlying75
  a23 := Try.isAgg75
  z23 := Try.sizeOf75
  v23 := Try.zeroValue75
  t26 := Try.underlying3
  a26 := Try.isAgg3
  z26 := Try.sizeOf3
  v26 := Try.zeroValue3
  t27 := Try.underlying113
  a27 := Try.isAgg113
  z27 := Try.sizeOf113
  v27 := Try.zeroValue113
  t28 := Try.underlying114
  a28 := Try.isAgg114
  z28 := Try.sizeOf114
  v28 := Try.zeroValue114
  t33 := Try.underlying99
  a33 := Try.isAgg99
  z33 := Try.sizeOf99
  v33 := Try.zeroValue99 }
def Try.sortedA_ren : Go.Shelf.Ren := ⟨fun | 6 => 65 | 8 => 73 | 9 => 74 | 11 => 86 | 13 => 72 | 12 => 87 | 23 => 84 | 24 => 85 | 14 => 93 | 15 => 94 | 16 => 95 | 17 => 96 | 18 => 97 | 19 => 98 | 20 => 99 | 21 => 100 | 22 => 101 | 25 => 103 | 26 => 89 | 27 => 90 | 28 => 104 | 29 => 105 | 30 => 106 | 31 => 107 | n => n, fun | 26 => 3 | 28 => 114 | 24 => 42 | 0 => 0 | 3 => 3 | 37 => 103 | 48 => 131 | 50 => 59 | 4 => 4 | 40 => 125 | 39 => 124 | 45 => 68 | 5 => 5 | 9 => 9 | 51 => 135 | 55 => 139 | 57 => 147 | 58 => 148 | 33 => 99 | n => n, fun | n => n⟩
theorem Try.sortedA : Go.Proofs.SlLaysZI.n6 Try.prog Try.sortedA_ren := {
  mixed := by kernel_rfl
  f6 := ⟨Try.f65.name, by decide, Try.func65.trans (congrArg some (by kernel_rfl))⟩
  f8 := ⟨Try.f73.name, by decide, Try.func73.trans (congrArg some (by kernel_rfl))⟩
  f11 := ⟨Try.f86.name, by decide, Try.func86.trans (congrArg some (by kernel_rfl))⟩
  t0 := Try.underlying0
  a0 := Try.isAgg0
  z0 := Try.sizeOf0
  v0 := Try.zeroValue0
  t24 := Try.underlying42
  a24 := Try.isAgg42
  z24 := Try.sizeOf42
  v24 := Try.zeroValue42
  t26 := Try.underlying3
  a26 := Try.isAgg3
  z26 := Try.sizeOf3
  v26 := Try.zeroValue3
  t28 := Try.underlying114
  a28 := Try.isAgg114
  z28 := Try.sizeOf114
  v28 := Try.zeroValue114
  i26 := by kernel_rfl }
def Try.sortA_ren : Go.Shelf.Ren := ⟨fun | 5 => 74 | 8 => 72 | 7 => 87 | 19 => 84 | 20 => 85 | 10 => 93 | 11 => 94 | 12 => 95 | 13 => 96 | 14 => 97 | 15 => 98 | 16 => 99 | 17 => 100 | 18 => 101 | 30 => 103 | 31 => 89 | 32 => 90 | 33 => 104 | 34 => 105 | 35 => 106 | 40 => 107 | n => n, fun | 23 => 42 | 25 => 3 | 3 => 3 | 32 => 103 | 22 => 42 | 0 => 0 | 44 => 131 | 46 => 59 | 4 => 4 | 36 => 125 | 35 => 124 | 41 => 68 | 5 => 5 | 9 => 9 | 53 => 135 | 57 => 139 | 63 => 147 | 64 => 148 | n => n, fun | n => n⟩
theorem Try.sortA : Go.Proofs.SlLaysM.n5 Try.prog Try.sortA_ren := {
  mixed := by kernel_rfl
  f5 := ⟨Try.f74.name, by decide, Try.func74.trans (congrArg some (by kernel_rfl))⟩
  f7 := ⟨Try.f87.name, by decide, Try.func87.trans (congrArg some (by kernel_rfl))⟩
  f8 := Try.func72.trans (congrArg some (by kernel_rfl))
  f10 := ⟨Try.f93.name, by decide, Try.func93.trans (congrArg some (by kernel_rfl))⟩
  f11 := ⟨Try.f94.name, by decide, Try.func94.trans (congrArg some (by kernel_rfl))⟩
  f12 := ⟨Try.f95.name, by decide, Try.func95.trans (congrArg some (by kernel_rfl))⟩
  f13 := ⟨Try.f96.name, by decide, Try.func96.trans (congrArg some (by kernel_rfl))⟩
  f14 := ⟨Try.f97.name, by decide, Try.func97.trans (congrArg some (by kernel_rfl))⟩
  f15 := ⟨Try.f98.name, by decide, Try.func98.trans (congrArg some (by kernel_rfl))⟩
  f16 := ⟨Try.f99.name, by decide, Try.func99.trans (congrArg some (by kernel_rfl))⟩
  f17 := ⟨Try.f100.name, by decide, Try.func100.trans (congrArg some (by kernel_rfl))⟩
  f18 := ⟨Try.f101.name, by decide, Try.func101.trans (congrArg some (by kernel_rfl))⟩
  f19 := Try.func84.trans (congrArg some (by kernel_rfl))
  f20 := Try.func85.trans (congrArg some (by kernel_rfl))
  f30 := ⟨Try.f103.name, by decide, Try.func103.trans (congrArg some (by kernel_rfl))⟩
  f31 := Try.func89.trans (congrArg some (by kernel_rfl))
  f32 := Try.func90.trans (congrArg some (by kernel_rfl))
  f33 := ⟨Try.f104.name, by decide, Try.func104.trans (congrArg some (by kernel_rfl))⟩
  f34 := ⟨Try.f105.name, by decide, Try.func105.trans (congrArg some (by kernel_rfl))⟩
  f35 := ⟨Try.f106.name, by decide, Try.func106.trans (congrArg some (by kernel_rfl))⟩
  f40 := ⟨Try.f107.name, by decide, Try.func107.trans (congrArg some (by kernel_rfl))⟩
  t0 := Try.underlying0
  a0 := Try.isAgg0
  z0 := Try.sizeOf0
  v0 := Try.zeroValue0
  t3 := Try.underlying3
  a3 := Try.isAgg3
  z3 := Try.sizeOf3
  v3 := Try.zeroValue3
  t4 := Try.underlying4
  a4 := Try.isAgg4
  z4 := Try.sizeOf4
  v4 := Try.zeroValue4
  t5 := Try.underlying5
  a5 := Try.isAgg5
  z5 := Try.sizeOf5
  v5 := Try.zeroValue5
  t9 := Try.underlying9
  a9 := Try.isAgg9
  z9 := Try.sizeOf9
  v9 := Try.zeroValue9
  t22 := Try.underlying42
  a22 := Try.isAgg42
  z22 := Try.sizeOf42
  v22 := Try.zeroValue42
  t23 := Try.underlying42
  a23 := Try.isAgg42
  z23 := Try.sizeOf42
  v23 := Try.zeroValue42
  t25 := Try.underlying3
  a25 := Try.isAgg3
  z25 := Try.sizeOf3
  v25 := Try.zeroValue3
  t32 := Try.underlying103
  a32 := Try.isAgg103
  z32 := Try.sizeOf103
  v32 := Try.zeroValue103
  t35 := Try.underlying124
  a35 := Try.isAgg124
  z35 := Try.sizeOf124
  v35 := Try.zeroValue124
  t36 := Try.underlying125
  a36 := Try.isAgg125
  z36 := Try.sizeOf125
  v36 := Try.zeroValue125
  t41 := Try.underlying68
  a41 := Try.isAgg68
  z41 := Try.sizeOf68
  v41 := Try.zeroValue68
  t44 := Try.underlying131
  a44 := Try.isAgg131
  z44 := Try.sizeOf131
  v44 := Try.zeroValue131
  t46 := Try.underlying59
  a46 := Try.isAgg59
  z46 := Try.sizeOf59
  v46 := Try.zeroValue59
  t53 := Try.underlying135
  a53 := Try.isAgg135
  z53 := Try.sizeOf135
  v53 := Try.zeroValue135
  t57 := Try.underlying139
  a57 := Try.isAgg139
  z57 := Try.sizeOf139
  v57 := Try.zeroValue139
  t63 := Try.underlying147
  a63 := Try.isAgg147
  z63 := Try.sizeOf147
  v63 := Try.zeroValue147
  t64 := Try.underlying148
  a64 := Try.isAgg148
  z64 := Try.sizeOf148
  v64 := Try.zeroValue148 }
end Go.Proofs

namespace Go.Proofs.Ytkmcmkimeibjdaa
open Go Eng
open Go.RowKit Go.Maps Go.Sort Go.Shelf
set_option linter.unusedSimpArgs false
set_option linter.unusedVariables false
set_option maxRecDepth 100000

/-! ### the keys of a map, sorted -/
def keysR : Value → Option (DataW Unit × List MemPlace) := fun _ => some (.lit (.bool true), [])
theorem map_owns {P : Program} {kt : TypeId} (hk : P.underlying kt = some (.int .i64)) {w : World} {b : Nat} {m : List (Int × Value)} (h : MapIs w b m) (hs : m.length ≤ maxLen) :
    ∃ D, w.ownsMap P kt keysR b m.length D ∧ (intKeys D).Perm (m.map (·.1)) ∧ Maps.size D = m.length := by
  obtain ⟨es, c, h1, h2, h3⟩ := h.ex
  have hlen : es.size = m.length := by
    have := h3.length_eq
    simpa using this
  have hrd : ∀ x ∈ es.toList, ∃ k, x.key = .int .i64 k ∧ Go.WideElems.rd P kt keysR x = some (.int .i64 k, .lit (.bool true)) := by
    intro x hx
    have : enE x ∈ m.map enK := h3.mem_iff.1 (List.mem_map.2 ⟨x, hx, rfl⟩)
    obtain ⟨q, hq, hqe⟩ := List.mem_map.1 this
    have hxk : x.key = .int .i64 q.1 := (congrArg Prod.fst hqe).symm
    have hr := h.rg q hq
    refine ⟨q.1, hxk, ?_⟩
    unfold Go.WideElems.rd
    rw [hxk, keyOf_int_mk hk (by simp [Lit.wf, IntKind.min, IntKind.max, IntKind.signed, IntKind.bits]; omega)]
    rfl
  refine ⟨_, ⟨es, c, h1, ⟨by omega, h2, fun x hx => ?_⟩, by omega, rfl⟩, ?_, ?_⟩
  · obtain ⟨k, _, hr⟩ := hrd x hx
    exact ⟨_, hr⟩
  · show ((es.toList.map (Go.WideElems.rg P kt keysR)).foldr DataW.insert []).map (fun p => _root_.Go.intOf p.1) |>.Perm _
    refine ((Go.WideShapes.sorted_perm _).map _).trans ?_
    rw [List.map_map]
    have e1 : es.toList.map ((fun p => _root_.Go.intOf p.1) ∘ Go.WideElems.rg P kt keysR) = (es.toList.map enE).map fun q => match q.1 with | .int _ n => n | _ => 0 := by
      rw [List.map_map]
      refine List.map_congr_left fun x hx => ?_
      obtain ⟨k, hxk, hr⟩ := hrd x hx
      simp [Go.WideElems.rg, hr, hxk, _root_.Go.intOf, enE]
    rw [e1]
    refine (h3.map _).trans (List.Perm.of_eq ?_)
    rw [List.map_map]
    rfl
  · show ((es.toList.map (Go.WideElems.rg P kt keysR)).foldr DataW.insert []).length = _
    rw [(Go.WideShapes.sorted_perm _).length_eq, List.length_map]
    simpa using hlen

theorem sortsA (m : Nat) : AnyZI.SortsIn Try.prog Try.sortedA_ren Fence.wide m :=
  ⟨fun blk off cap ss W hH hblk hsz => callsIn_wide.2 (AnyM.slices_Sort_int Try.sortA blk off cap ss W hH hblk hsz),
   fun p cap W => callsIn_wide.2 (AnyM.slices_Sort_int_none Try.sortA p cap W)⟩
theorem keys_call (mb : Option Nat) (w : World) : Calls Try.prog 66 #[.map mb] w fun e w' => e = .returned (.func (.func 75) #[] #[.pointer (some ⟨w.heap.size, 0, none⟩)]) ∧ w' = w.alloc (.cells #[.map mb] 75) := by
  refine (callsIn_wide (n := 6)).1 ?_
  exact AnyZI.keys_in Try.keysA Fence.wide 6 trivial rfl mb w
/-- a row of numbers, sorted -/
theorem sorted_call {w w1 : World} {b : Nat} {m : List (Int × Value)} (h : MapIs w b m) (hs : m.length ≤ 1000000) (e : w1 = w.alloc (.cells #[.map (some b)] 75)) :
    Calls Try.prog 65 #[.func (.func 75) #[] #[.pointer (some ⟨w.heap.size, 0, none⟩)]] w1 fun e w' => ∃ (a : Option Addr) (c : Nat) (ks : List Int), e = .returned (.slice a ks.length c) ∧ ks = (m.map (·.1)).mergeSort (fun x y => decide (x ≤ y)) ∧
      w'.ownsRow w.heap.size 3 1 (.slice a ks.length c) ks.length (ks.map (Value.int .i64)) ∧ Kept none' w w' := by
  subst e
  obtain ⟨D, hown, hperm, hsz⟩ := map_owns (P := Try.prog) (kt := 3) Try.underlying3 h (by unfold maxLen; omega)
  have hbl := h.lt
  have hseq : SeqGives Fence.wide 3 Try.prog 75 #[.pointer (some ⟨w.heap.size, 0, none⟩)] encZ (fun ss => ss.Perm (intKeys D)) (Maps.size D) (w.alloc (.cells #[.map (some b)] 75)) :=
    AnyZI.keys_gives (ρ := Try.keysA_ren) { Try.keysA with } Fence.wide _ trivial rfl (by omega) w.heap.size b m.length D _ (by simp) (by simp) (by
      obtain ⟨es, clock, hb, Ft, hs, hD⟩ := hown
      exact ⟨es, clock, (Below.heap_alloc _ _ b hbl).trans hb, Ft, hs, hD⟩)
  have cS := AnyZI.sorted_in Try.sortedA Fence.wide 6 trivial trivial trivial trivial rfl (by omega) (sortsA _) (enters_of Try.func74 (by kernel_rfl) rfl) 75 #[.pointer (some ⟨w.heap.size, 0, none⟩)] trivial (enters_of Try.func75 (by kernel_rfl) rfl) _ _ (by rw [hsz]; unfold maxLen; omega) (by rw [hsz]; omega) _ hseq
  change CallsIn _ _ Try.prog 65 _ _ _ at cS
  refine ((callsIn_wide (n := 6)).1 cS).mono ?_
  rintro e w' ⟨v, ss, rfl, hS, hrow, hnil, hb⟩
  have hks : ss.mergeSort (fun x y => decide (x ≤ y)) = (m.map (·.1)).mergeSort (fun x y => decide (x ≤ y)) := mergeSort_of_perm_i (hS.trans hperm)
  have hlen : ss.length = ((m.map (·.1)).mergeSort (fun x y => decide (x ≤ y))).length := by rw [← hks, List.length_mergeSort]
  rw [hks, hlen] at hrow
  have hv : ∃ a c, v = .slice a ((m.map (·.1)).mergeSort (fun x y => decide (x ≤ y))).length c := by
    rcases hrow.2 with ⟨rfl, h0⟩ | ⟨g, cap, cur, rfl, _⟩
    · exact ⟨none, 0, by rw [h0]⟩
    · exact ⟨_, _, rfl⟩
  obtain ⟨a, c, rfl⟩ := hv
  refine ⟨a, c, _, rfl, rfl, ownsRow_base_a hrow (by simp), ?_⟩
  have k1 : Kept none' w (w.alloc (.cells #[.map (some b)] 75)) := (Kept.refl _ _).alloc _ _
  exact k1.trans (X := none') (Y := none') ⟨hb.os, hb.tape, hb.output, hb.size, fun i hi _ => hb.block i hi⟩ (fun _ _ h => h)
end Go.Proofs.Ytkmcmkimeibjdaa
/-
  DERIVED: THE SHELF's CONTRACTS AT THIS DUMP, IN PLAIN WORDS (tools/lay-plain.mjs out of 'S3r3.lean', which tools/lay-shelf.mjs wrote): THE SAME DECLARATIONS UNDER THE SAME NAMES: 'import', 'namespace', 'open', 'def', 'theorem' AND NOTHING ELSE: no command of the shelf's: FOR A HAND-IN. Each laying: the table of numbers ('.._ren') and one theorem, a field a fact of the dump's own or the kernel's comparison; each contract: ONE APPLICATION.
-/
namespace Go.Proofs
open Go.Shelf
def Try.cloneI_ren : Go.Shelf.Ren := ⟨fun | 5 => 46 | 7 => 67 | n => n, fun | 23 => 49 | 25 => 3 | 3 => 3 | 4 => 4 | 20 => 20 | n => n, fun | n => n⟩
theorem Try.cloneI : Go.Proofs.SlLaysW.n5 Try.prog Try.cloneI_ren := {
  mixed := by kernel_rfl
  f5 := ⟨Try.f46.name, by decide, Try.func46.trans (congrArg some (by kernel_rfl))⟩
  f7 := Try.func67.trans (congrArg some (by kernel_rfl))
  t4 := Try.underlying4
  a4 := Try.isAgg4
  z4 := Try.sizeOf4
  v4 := Try.zeroValue4
  t20 := Try.underlying20
  a20 := Try.isAgg20
  z20 := Try.sizeOf20
  v20 := Try.zeroValue20
  t23 := Try.underlying49
  a23 := Try.isAgg49
  z23 := Try.sizeOf49
  v23 := Try.zeroValue49 }
def Try.cloneB_ren : Go.Shelf.Ren := ⟨fun | 5 => 47 | 7 => 67 | n => n, fun | 23 => 75 | 25 => 3 | 3 => 4 | 4 => 4 | 20 => 20 | n => n, fun | n => n⟩
theorem Try.cloneB : Go.Proofs.SlLaysW.n5 Try.prog Try.cloneB_ren := {
  mixed := by kernel_rfl
  f5 := ⟨Try.f47.name, by decide, Try.func47.trans (congrArg some (by kernel_rfl))⟩
  f7 := Try.func67.trans (congrArg some (by kernel_rfl))
  t4 := Try.underlying4
  a4 := Try.isAgg4
  z4 := Try.sizeOf4
  v4 := Try.zeroValue4
  t20 := Try.underlying20
  a20 := Try.isAgg20
  z20 := Try.sizeOf20
  v20 := Try.zeroValue20
  t23 := Try.underlying75
  a23 := Try.isAgg75
  z23 := Try.sizeOf75
  v23 := Try.zeroValue75 }
end Go.Proofs
namespace Go.Proofs.Ytkmcmkimeibjdaa
open Go Eng
open Go.RowKit Go.Maps Go.Shelf
set_option linter.unusedSimpArgs false
set_option linter.unusedVariables false
set_option maxRecDepth 100000
theorem MapIs.clone {w : World} {b : Nat} {m : List (Int × Value)} (h : MapIs w b m) {es : Array MapEntry} {c : Nat} (he : w.heap[b]? = some (.map es c)) : MapIs (w.alloc (.map es c)) w.heap.size m := by
  obtain ⟨es', c', h1, h2, h3⟩ := h.ex
  rw [he] at h1
  cases h1
  exact ⟨⟨es, c, by simp only [World.alloc]; simp, h2, h3⟩, h.nd, h.rg⟩
theorem clone_bool {w : World} {b : Nat} {m : List (Int × Value)} (h : MapIs w b m) : Calls Try.prog 47 #[.map (some b)] w fun e w' => e = .returned (.map (some w.heap.size)) ∧ Kept none' w w' ∧ MapIs w' w.heap.size m := by
  obtain ⟨es, c, h1, h2, h3⟩ := h.ex
  refine (AnyW.maps_Clone Try.cloneB b es c w h1).mono ?_
  rintro e w' ⟨rfl, rfl⟩
  exact ⟨rfl, (Kept.refl _ _).allocMap es c, MapIs.clone h h1⟩
theorem clone_int {w : World} {b : Nat} {m : List (Int × Value)} (h : MapIs w b m) : Calls Try.prog 46 #[.map (some b)] w fun e w' => e = .returned (.map (some w.heap.size)) ∧ Kept none' w w' ∧ MapIs w' w.heap.size m := by
  obtain ⟨es, c, h1, h2, h3⟩ := h.ex
  refine (AnyW.maps_Clone Try.cloneI b es c w h1).mono ?_
  rintro e w' ⟨rfl, rfl⟩
  exact ⟨rfl, (Kept.refl _ _).allocMap es c, MapIs.clone h h1⟩
theorem len_map {P : Program} {mt kt et : TypeId} (ht : P.underlying mt = some (.map kt et)) (hk : P.underlying kt = some (.int .i64)) {w : World} {b : Nat} {m : List (Int × Value)} (h : MapIs w b m) (hs : m.length ≤ 1000000) {ty : TypeId} :
    lenIs P #[mt] ty (.map (some b)) m.length w := by
  obtain ⟨D, hown, _, hsz⟩ := map_owns hk h (by unfold maxLen; omega)
  have := hown.len ht ty
  rw [hsz] at this
  exact ⟨this⟩
end Go.Proofs.Ytkmcmkimeibjdaa
