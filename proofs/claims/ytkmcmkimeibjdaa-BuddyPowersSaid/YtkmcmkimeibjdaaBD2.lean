/-
  A part of a proof that a law of this seat returns true at every input. Conditions: those in each theorem.
-/
import Derived.Test.YtkmcmkimeibjdaaBD1
namespace Go.Proofs.Ytkmcmkimeibjdaa
open Go Eng
set_option linter.unusedSimpArgs false
set_option linter.unusedVariables false
set_option maxRecDepth 100000
/-- no list is longer than a node has frames -/
def Small (s : Bst) : Prop := ∀ o, o < 11 → (s.F o).length ≤ 1000000
def mostOf (s : Bst) : Nat → Int
  | 0 => -1
  | o + 1 => if 0 < (s.F o).length then o else mostOf s o
section
variable {w w' : World} {b t : Nat} {m : Nat → Nat} {s : Bst}
theorem BAt.len (h : BAt w b m t s) (hs : Small s) {o : Nat} (ho : o < 11) {ty : TypeId} : lenIs Try.prog #[75] ty (.map (some (m o))) (s.F o).length w := by
  have := len_map Try.underlying75 Try.underlying3 (h.mf o ho) (by simpa using hs o ho) (ty := ty)
  simpa using this
theorem most_spec (h : BAt w b m t s) (hs : Small s) : Calls Try.prog 17 #[ptr b] w fun r w' => r = .returned (.int .i64 (mostOf s 11)) ∧ w' = w := by
  refine (vc17 _ w (fun v w' => v = .int .i64 (mostOf s 11) ∧ w' = w) ?_).mono ?_
  · unfold vcP17
    simp only [isP_some, Wif_true, gIf_true, pb_some, po_some, Nat.zero_add]
    refine ⟨fun _ k w' n => w' = w ∧ ∃ q : Nat, k = (q : Int) - 1 ∧ q ≤ 11 ∧ q = n ∧ mostOf s 11 = mostOf s q, ⟨11, rfl, 11, rfl, by omega, rfl, rfl⟩, ?_⟩
    rintro _ k w1 n ⟨rfl, q, rfl, hq, rfl, hm⟩
    refine ⟨_, fun _ => h.r12, Wif_intro (fun hc => ?_) (fun hc => ?_)⟩
    · have hq0 : 0 < q := by simp at hc; omega
      obtain ⟨o, rfl⟩ : ∃ o, q = o + 1 := ⟨q - 1, by omega⟩
      have e1 : (((o + 1 : Nat) : Int) - 1) = (o : Int) := by omega
      rw [e1]
      refine Wif_yes (inB_of (by omega) (by omega)) ⟨_, by rw [Int.toNat_natCast, Nat.mul_one]; exact h.rm (by omega), _, h.len hs (by omega), Wif_intro (fun hp => ?_) (fun hp => ?_)⟩
      · refine ⟨?_, rfl⟩
        rw [hm]
        unfold mostOf
        rw [if_pos (by simpa using hp)]
      · refine ⟨o, Nat.le_refl _, rfl, o, by rw [wi (by omega)], by omega, rfl, ?_⟩
        rw [hm]
        conv => lhs; unfold mostOf
        rw [if_neg (by simpa using hp)]
    · have hq0 : q = 0 := by simp at hc; omega
      subst hq0
      exact ⟨by rw [hm]; rfl, rfl⟩
  · rintro e w' ⟨v, rfl, rfl, hw⟩
    exact ⟨rfl, hw⟩
end
end Go.Proofs.Ytkmcmkimeibjdaa
