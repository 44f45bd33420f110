/-
  A part of a proof that a law of this seat returns true at every input. Conditions: those in each theorem.
-/
import Derived.Test.YtkmcmkimeibjdaaBR1
namespace Go.Proofs.Ytkmcmkimeibjdaa
open Go.ChangeShapes Go.WideShapes Go.ChangeAt Go.RowKit Go.Eng
set_option linter.unusedSimpArgs false
set_option linter.unusedVariables false
set_option maxRecDepth 100000
/-! ### a row of numbers -/
theorem cellsA_3 : Try.prog.cellsOf 3 = 1 := by kernel_rfl
section
variable {H : Type} {enc : TypeId × Value → H}
/-- numbers, handed in as a row -/
structure IntsA (w : World) (a : Option Addr) (l : Nat) (f : Nat → Int) : Prop where
  isp : 0 < l → isP a = true
  rd : ∀ i, i < l → Eng.rd w (pb a) (po a + i) = some (.int .i64 (f i))
  r64 : ∀ i, i < l → -9223372036854775808 ≤ f i ∧ f i ≤ 9223372036854775807
  mx : l ≤ maxLen
theorem open_intsA {W : World} {base : Nat} {v : Value} {d : DataW H} {p : List MemPlace} (hv : Value.okWide Try.prog W .any base 42 v) (h : DataW.Trod enc Try.prog W 0 (fun _ => true) true 42 v d p) :
    ∃ a l c f, v = .slice a l c ∧ IntsA W a l f := by
  obtain ⟨a0, l0, c0, rfl⟩ := okWide_slice Try.underlying42 hv
  obtain ⟨fuel, hf⟩ := h
  obtain ⟨a, l, c, e, hle, hmx, hp, _, hx⟩ := open_row Try.underlying42 hf (by rw [cellsA_3]; omega)
  simp [Value.cells] at e
  obtain ⟨rfl, rfl, rfl⟩ := e
  have each : ∀ i, i < l0 → ∃ n : Int, Eng.rd W (pb a0) (po a0 + i) = some (.int .i64 n) ∧ -9223372036854775808 ≤ n ∧ n ≤ 9223372036854775807 := by
    intro i hi
    obtain ⟨cs, n, x, hlen, hcell, htr⟩ := hx i hi
    obtain ⟨k, rfl, _, hw⟩ := DataW.trod_int Try.underlying3 htr
    have := hcell 0 (by rw [cellsA_3]; omega)
    rw [cellsA_3, Nat.mul_one] at this
    refine ⟨k, this, ?_⟩
    simpa [Lit.wf, IntKind.min, IntKind.max, IntKind.signed, IntKind.bits] using hw
  refine ⟨a0, l0, c0, fun i => if h : i < l0 then (each i h).choose else 0, rfl, hp, fun i hi => ?_, fun i hi => ?_, by omega⟩
  · simp only [hi, dif_pos]
    exact (each i hi).choose_spec.1
  · simp only [hi, dif_pos]
    exact (each i hi).choose_spec.2
theorem open_boolA {W : World} {base : Nat} {v : Value} {d : DataW H} {p : List MemPlace} (hv : Value.okWide Try.prog W .any base 4 v) (h : DataW.Trod enc Try.prog W 0 (fun _ => true) true 4 v d p) : ∃ b, v = .bool b :=
  okWide_bool Try.underlying4 hv
end
end Go.Proofs.Ytkmcmkimeibjdaa
