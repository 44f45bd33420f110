/-
  A part of a proof that a law of this seat returns true at every input. Conditions: those in each theorem.
-/
import Derived.Test.YtkancagfhbkhiaaC4
namespace Go.Proofs.Ytkancagfhbkhiaa
open Go Eng
set_option linter.unusedSimpArgs false
set_option linter.unusedVariables false
set_option maxRecDepth 10000

/-- the last call of each law -/
theorem fin_known {w0 w : World} (k : Kept none' w0 w) : Calls Try.prog 16 #[] w fun e w' => ∃ b : Bool, e = .returned (.bool b) ∧ (Value.bool b = .bool true ∧ Kept none' w0 w') := by
  refine (known_spec w).mono ?_
  rintro _ w' ⟨rfl, k'⟩
  exact ⟨true, rfl, rfl, k.tr k'⟩
theorem count_all {z c : Nat} (h8 : 8 ≤ z) (hc : c ≤ 256 % z) : (256 - c) / z = 256 / z := by
  have h := Nat.div_add_mod 256 z
  have hl := Nat.mod_lt 256 (show 0 < z by omega)
  have hm : 256 / z * z = z * (256 / z) := Nat.mul_comm _ _
  refine Nat.div_eq_of_lt_le (by omega) ?_
  rw [Nat.add_mul]
  omega
theorem mayBe_nat {size colour : Int} (h : mayBe size colour) : ∃ z c : Nat, size = z ∧ colour = c ∧ 8 ≤ z ∧ z ≤ 128 ∧ c ≤ 256 % z := by
  obtain ⟨m1, m2, m3, m4, m5, m6⟩ := h
  obtain ⟨z, rfl⟩ := Int.eq_ofNat_of_zero_le (show 0 ≤ size by omega)
  obtain ⟨c, rfl⟩ := Int.eq_ofNat_of_zero_le m4
  have hmod : ((256 % z : Nat) : Int) = 256 % (z : Int) := Int.natCast_emod 256 z
  refine ⟨z, c, rfl, rfl, by omega, by omega, ?_⟩
  rw [← hmod] at m6
  generalize 256 % z = q at *
  omega

end Go.Proofs.Ytkancagfhbkhiaa
