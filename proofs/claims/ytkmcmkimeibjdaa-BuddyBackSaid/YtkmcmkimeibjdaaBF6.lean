/-
  A part of a proof that a law of this seat returns true at every input. Conditions: those in each theorem.
-/
import Derived.Test.YtkmcmkimeibjdaaBR4
import Derived.Test.YtkmcmkimeibjdaaBB3
set_option linter.unusedVariables false
set_option linter.unusedSimpArgs false
namespace Go.Proofs.Ytkmcmkimeibjdaa
open Go.ChangeShapes Go.WideShapes Go.ChangeAt Go.RowKit Go.Eng

set_option maxRecDepth 100000 in
theorem buddyBack_lifted (os : Os) (started : os.Started) (H : Type) (enc : TypeId × Value → H) :
    ReturnsInHanded {} Try.checked os 6 .any (Rows.buddyBackSpec.pre6 enc Try.prog Try.f6 Rows.buddyBackRow.domain false) (Rows.buddyBackSpec.post enc Try.prog Try.f6 false true false false) := by
  refine lift_true (C := Try.checked) ownKnobs laid Try.func6 (by kernel_rfl) (bt := 4) Try.underlying4 (by kernel_rfl) (by kernel_rfl) rfl
    (fun H ds h => by match ds, h with | [d1, d2, d3, d4], _ => rfl) ?_ os started H enc
    (ChangeSpec.witness6 (enc := enc) (C := Try.checked) false ⟨#[], #[.int .i64 0, .slice none 0 0, .bool false, .slice none 0 0], []⟩ 8 (by kernel_rfl) (by kernel_rfl) (by kernel_rfl) (by kernel_rfl))
  intro H enc W base args ds p hval0 hA0 _ _
  have hval : ∀ (j : Nat) t v, Try.f6.params[j]? = some t → args[j]? = some v → Value.okWide Try.prog W .any base t v := hval0
  have hA : DataW.TrodAll enc Try.prog W 0 (fun _ => true) true Try.f6.params.toList args.toList ds p := hA0
  rw [Try.params6] at hA hval
  obtain ⟨v0, vs0, d0, ds0, p0, q0, hargs, rfl, rfl, h0, r0⟩ := trodAll_cons hA
  obtain ⟨v1, vs1, d1, ds1, p1, q1, rfl, rfl, rfl, h1, r1⟩ := trodAll_cons r0
  obtain ⟨v2, vs2, d2, ds2, p2, q2, rfl, rfl, rfl, h2, r2⟩ := trodAll_cons r1
  obtain ⟨v3, vs3, d3, ds3, p3, q3, rfl, rfl, rfl, h3, r3⟩ := trodAll_cons r2
  obtain ⟨rfl, rfl, rfl⟩ := trodAll_nil r3
  obtain rfl : args = #[v0, v1, v2, v3] := by cases args; simp_all
  clear hA0 hval0 hargs
  obtain ⟨n, rfl, _, _⟩ := open_i64 (hval 0 3 v0 rfl rfl) h0
  obtain ⟨na, nl, nc, nf, rfl, hx⟩ := open_intsA (hval 1 42 v1 rfl rfl) h1
  obtain ⟨hi, rfl⟩ := open_boolA (hval 2 4 v2 rfl rfl) h2
  obtain ⟨ma, ml, mc, mf, rfl, hx2⟩ := open_intsA (hval 3 42 v3 rfl rfl) h3
  exact back_law n na nl nc nf hi ma ml mc mf W hx.isp hx.rd hx2.isp hx2.rd

/-- THE STATEMENT -/
theorem buddyBack_proved : Rows.BuddyBackSaid :=
  OpenClaim.holds_of_wide 6 Try.f6 rfl rfl rfl rfl rfl rfl rfl ⟨rfl, rfl, rfl, rfl, rfl⟩ rfl rfl rfl rfl rfl (by kernel_rfl) Try.func6 (by kernel_rfl)
    (of_decide_eq_true (by kernel_rfl)) (by unfold Func.isWrapper; first | (rw [if_pos (by decide +kernel)]; kernel_rfl) | (rw [if_neg (by decide +kernel)]; exact ⟨rfl, rfl⟩))
    (fun os started H enc _ => buddyBack_lifted os started H enc)
#print axioms buddyBack_proved
end Go.Proofs.Ytkmcmkimeibjdaa
