/-
  A part of a proof that a law of this seat returns true at every input. Conditions: those in each theorem.
-/
import Derived.Test.YtkmcmkimeibjdaaBS1
import Derived.Test.YtkmcmkimeibjdaaBR1

import Derived.Maps.Range
import Derived.Maps.Keyed
namespace Go.Proofs.Ytkmcmkimeibjdaa
open Go Eng
open Go.RowKit Go.Maps Go.Sort Go.Shelf
set_option linter.unusedSimpArgs false
set_option linter.unusedVariables false
set_option maxRecDepth 100000

/-! ### the keys of a map, sorted -/
def keysR : Value → Option (DataW Unit × List MemPlace) := fun _ => some (.lit (.bool true), [])
theorem map_owns {P : Program} {kt : TypeId} (hk : P.underlying kt = some (.int .i64)) {w : World} {b : Nat} {m : List (Int × Value)} (h : MapIs w b m) (hs : m.length ≤ maxLen) :
    ∃ D, w.ownsMap P kt keysR b m.length D ∧ (intKeys D).Perm (m.map (·.1)) ∧ Maps.size D = m.length := by
  obtain ⟨es, c, h1, h2, h3⟩ := h.ex
  have hlen : es.size = m.length := by
    have := h3.length_eq
    simpa using this
  have hrd : ∀ x ∈ es.toList, ∃ k, x.key = .int .i64 k ∧ Go.WideElems.rd P kt keysR x = some (.int .i64 k, .lit (.bool true)) := by
    intro x hx
    have : enE x ∈ m.map enK := h3.mem_iff.1 (List.mem_map.2 ⟨x, hx, rfl⟩)
    obtain ⟨q, hq, hqe⟩ := List.mem_map.1 this
    have hxk : x.key = .int .i64 q.1 := (congrArg Prod.fst hqe).symm
    have hr := h.rg q hq
    refine ⟨q.1, hxk, ?_⟩
    unfold Go.WideElems.rd
    rw [hxk, keyOf_int_mk hk (by simp [Lit.wf, IntKind.min, IntKind.max, IntKind.signed, IntKind.bits]; omega)]
    rfl
  refine ⟨_, ⟨es, c, h1, ⟨by omega, h2, fun x hx => ?_⟩, by omega, rfl⟩, ?_, ?_⟩
  · obtain ⟨k, _, hr⟩ := hrd x hx
    exact ⟨_, hr⟩
  · show ((es.toList.map (Go.WideElems.rg P kt keysR)).foldr DataW.insert []).map (fun p => _root_.Go.intOf p.1) |>.Perm _
    refine ((Go.WideShapes.sorted_perm _).map _).trans ?_
    rw [List.map_map]
    have e1 : es.toList.map ((fun p => _root_.Go.intOf p.1) ∘ Go.WideElems.rg P kt keysR) = (es.toList.map enE).map fun q => match q.1 with | .int _ n => n | _ => 0 := by
      rw [List.map_map]
      refine List.map_congr_left fun x hx => ?_
      obtain ⟨k, hxk, hr⟩ := hrd x hx
      simp [Go.WideElems.rg, hr, hxk, _root_.Go.intOf, enE]
    rw [e1]
    refine (h3.map _).trans (List.Perm.of_eq ?_)
    rw [List.map_map]
    rfl
  · show ((es.toList.map (Go.WideElems.rg P kt keysR)).foldr DataW.insert []).length = _
    rw [(Go.WideShapes.sorted_perm _).length_eq, List.length_map]
    simpa using hlen

theorem sortsA (m : Nat) : AnyZI.SortsIn Try.prog Try.sortedA_ren Fence.wide m :=
  ⟨fun blk off cap ss W hH hblk hsz => callsIn_wide.2 (AnyM.slices_Sort_int Try.sortA blk off cap ss W hH hblk hsz),
   fun p cap W => callsIn_wide.2 (AnyM.slices_Sort_int_none Try.sortA p cap W)⟩
theorem keys_call (mb : Option Nat) (w : World) : Calls Try.prog 66 #[.map mb] w fun e w' => e = .returned (.func (.func 75) #[] #[.pointer (some ⟨w.heap.size, 0, none⟩)]) ∧ w' = w.alloc (.cells #[.map mb] 75) := by
  refine (callsIn_wide (n := 6)).1 ?_
  exact AnyZI.keys_in Try.keysA Fence.wide 6 trivial rfl mb w
/-- a row of numbers, sorted -/
theorem sorted_call {w w1 : World} {b : Nat} {m : List (Int × Value)} (h : MapIs w b m) (hs : m.length ≤ 1000000) (e : w1 = w.alloc (.cells #[.map (some b)] 75)) :
    Calls Try.prog 65 #[.func (.func 75) #[] #[.pointer (some ⟨w.heap.size, 0, none⟩)]] w1 fun e w' => ∃ (a : Option Addr) (c : Nat) (ks : List Int), e = .returned (.slice a ks.length c) ∧ ks = (m.map (·.1)).mergeSort (fun x y => decide (x ≤ y)) ∧
      w'.ownsRow w.heap.size 3 1 (.slice a ks.length c) ks.length (ks.map (Value.int .i64)) ∧ Kept none' w w' := by
  subst e
  obtain ⟨D, hown, hperm, hsz⟩ := map_owns (P := Try.prog) (kt := 3) Try.underlying3 h (by unfold maxLen; omega)
  have hbl := h.lt
  have hseq : SeqGives Fence.wide 3 Try.prog 75 #[.pointer (some ⟨w.heap.size, 0, none⟩)] encZ (fun ss => ss.Perm (intKeys D)) (Maps.size D) (w.alloc (.cells #[.map (some b)] 75)) :=
    AnyZI.keys_gives (ρ := Try.keysA_ren) { Try.keysA with } Fence.wide _ trivial rfl (by omega) w.heap.size b m.length D _ (by simp) (by simp) (by
      obtain ⟨es, clock, hb, Ft, hs, hD⟩ := hown
      exact ⟨es, clock, (Below.heap_alloc _ _ b hbl).trans hb, Ft, hs, hD⟩)
  have cS := AnyZI.sorted_in Try.sortedA Fence.wide 6 trivial trivial trivial trivial rfl (by omega) (sortsA _) (enters_of Try.func74 (by kernel_rfl) rfl) 75 #[.pointer (some ⟨w.heap.size, 0, none⟩)] trivial (enters_of Try.func75 (by kernel_rfl) rfl) _ _ (by rw [hsz]; unfold maxLen; omega) (by rw [hsz]; omega) _ hseq
  change CallsIn _ _ Try.prog 65 _ _ _ at cS
  refine ((callsIn_wide (n := 6)).1 cS).mono ?_
  rintro e w' ⟨v, ss, rfl, hS, hrow, hnil, hb⟩
  have hks : ss.mergeSort (fun x y => decide (x ≤ y)) = (m.map (·.1)).mergeSort (fun x y => decide (x ≤ y)) := mergeSort_of_perm_i (hS.trans hperm)
  have hlen : ss.length = ((m.map (·.1)).mergeSort (fun x y => decide (x ≤ y))).length := by rw [← hks, List.length_mergeSort]
  rw [hks, hlen] at hrow
  have hv : ∃ a c, v = .slice a ((m.map (·.1)).mergeSort (fun x y => decide (x ≤ y))).length c := by
    rcases hrow.2 with ⟨rfl, h0⟩ | ⟨g, cap, cur, rfl, _⟩
    · exact ⟨none, 0, by rw [h0]⟩
    · exact ⟨_, _, rfl⟩
  obtain ⟨a, c, rfl⟩ := hv
  refine ⟨a, c, _, rfl, rfl, ownsRow_base_a hrow (by simp), ?_⟩
  have k1 : Kept none' w (w.alloc (.cells #[.map (some b)] 75)) := (Kept.refl _ _).alloc _ _
  exact k1.trans (X := none') (Y := none') ⟨hb.os, hb.tape, hb.output, hb.size, fun i hi _ => hb.block i hi⟩ (fun _ _ h => h)
end Go.Proofs.Ytkmcmkimeibjdaa
