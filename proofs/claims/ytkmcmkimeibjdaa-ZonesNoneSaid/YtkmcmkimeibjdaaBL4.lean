/-
  A part of a proof that a law of this seat returns true at every input. Conditions: those in each theorem.
-/
import Derived.Test.YtkmcmkimeibjdaaBL3
namespace Go.Proofs.Ytkmcmkimeibjdaa
open Go Eng
set_option linter.unusedSimpArgs false
set_option linter.unusedVariables false
set_option maxRecDepth 100000
/-! ### pick -/
section
variable {w w' : World} {b t : Nat} {m : Nat → Nat} {s : Bst}
theorem ptrB (b : Nat) : ptr b = .pointer (some ⟨b, 0, none⟩) := rfl
theorem pick_spec (h : BAt w b m t s) (hs : Small s) {o : Nat} (ho : o < 11) (hne : s.F o ≠ []) (high : Bool) :
    Calls Try.prog 45 #[ptr b, .int .i64 (o : Int), .bool high] w fun r w' => ∃ a, r = .returned (.int .i64 a) ∧ a ∈ s.F o ∧ (∀ x ∈ s.F o, if high then x ≤ a else a ≤ x) ∧ Kept none' w w' := by
  refine (vc45 _ _ _ w (fun v w' => ∃ a, v = .int .i64 a ∧ a ∈ s.F o ∧ (∀ x ∈ s.F o, if high then x ≤ a else a ≤ x) ∧ Kept none' w w') ?_).mono ?_
  · unfold vcP45
    simp only [isP_some, Wif_true, gIf_true, pb_some, po_some, Nat.zero_add]
    refine Wif_yes (inB_of (by omega) (by omega)) ⟨_, by rw [Int.toNat_natCast, Nat.mul_one]; exact h.rm ho, (keys_call _ w).mono ?_⟩
    rintro _ w1 ⟨rfl, e1⟩
    refine ⟨_, rfl, (sorted_call (h.mf o ho) (by simpa using hs o ho) e1).mono ?_⟩
    rintro _ w2 ⟨a, c, ks, rfl, hks, row, k2⟩
    refine ⟨_, _, _, rfl, ?_⟩
    have hm1 : (ent1 (s.F o)).map (·.1) = s.F o := by simp [ent1, Function.comp_def]
    rw [hm1] at hks
    have hperm : ks.Perm (s.F o) := by rw [hks]; exact List.mergeSort_perm _ _
    have hlen : ks.length = (s.F o).length := hperm.length_eq
    have hpos : 0 < ks.length := by rw [hlen]; exact List.length_pos_iff.2 hne
    have hl := hs o ho
    have hsorted : ks.Pairwise (fun x y => x ≤ y) := by
      have := List.pairwise_mergeSort (le := fun (x y : Int) => decide (x ≤ y)) (by intro a b c h1 h2; simp at *; omega) (by intro a b; simp; omega) (s.F o)
      rw [← hks] at this
      exact this.imp fun h => by simpa using h
    obtain ⟨_, hh⟩ := ownsRow_own row
    rcases hh with ⟨_, h0, _⟩ | ⟨g, cs, rfl, hg, og, htk, _, _⟩
    · omega
    have hrd : ∀ i (hi : i < ks.length), rd w2 g i = some (.int .i64 ks[i]) := fun i hi => by
      rw [og.rd]
      have : (cs.take (ks.length * 1))[i]? = some (.int .i64 ks[i]) := by rw [htk]; simp [hi]
      rw [List.getElem?_take] at this
      split at this
      · exact this
      · cases this
    cases high
    · simp only [Wif_false, isP_some, Wif_true]
      refine Wif_yes (inB_of (by omega) (by omega)) ⟨_, hrd 0 hpos, _, rfl, hperm.mem_iff.1 (List.getElem_mem _), fun x hx => ?_, k2⟩
      simp only [Bool.false_eq_true, if_false]
      obtain ⟨i, hi, rfl⟩ := List.mem_iff_getElem.1 (hperm.mem_iff.2 hx)
      rcases Nat.eq_zero_or_pos i with rfl | hp
      · exact Int.le_refl _
      · exact List.pairwise_iff_getElem.1 hsorted 0 i hpos hi hp
    · simp only [isP_some, Wif_true, pb_some, po_some]
      have ew : IntKind.wrap .i64 ((ks.length : Int) - 1) = ((ks.length - 1 : Nat) : Int) := by rw [wi (by omega)]; omega
      rw [ew]
      refine Wif_yes (inB_of (by omega) (by omega)) ⟨_, by rw [Int.toNat_natCast, Nat.mul_one, Nat.zero_add]; exact hrd _ (by omega), _, rfl, hperm.mem_iff.1 (List.getElem_mem _), fun x hx => ?_, k2⟩
      simp only [if_true]
      obtain ⟨i, hi, rfl⟩ := List.mem_iff_getElem.1 (hperm.mem_iff.2 hx)
      rcases Nat.lt_or_ge i (ks.length - 1) with hp | hp
      · exact List.pairwise_iff_getElem.1 hsorted i _ hi (by omega) hp
      · have : i = ks.length - 1 := by omega
        subst this
        exact Int.le_refl _
  · rintro e w' ⟨v, rfl, a, rfl, hw⟩
    exact ⟨a, rfl, hw⟩
end
end Go.Proofs.Ytkmcmkimeibjdaa
