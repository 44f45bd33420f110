/-
  A part of a proof that a law of this seat returns true at every input. Conditions: those in each theorem.
-/
import Derived.Test.YtkancagfhbkhiaaR2
import Derived.Test.YtkancagfhbkhiaaEngM
set_option linter.unusedVariables false
set_option linter.unusedSimpArgs false
namespace Go.Proofs.Ytkancagfhbkhiaa
open Go.ChangeShapes Go.WideShapes Go.ChangeAt Go.RowKit Go.Eng
set_option maxRecDepth 100000
theorem cells_5 : Try.prog.cellsOf 5 = 1 := by kernel_rfl
theorem cells_3 : Try.prog.cellsOf 3 = 1 := by kernel_rfl
theorem cells_34 : Try.prog.cellsOf 34 = 1 := by kernel_rfl
theorem cells_22 : Try.prog.cellsOf 22 = 1 := by kernel_rfl
theorem cells_40 : Try.prog.cellsOf 40 = 4 := by kernel_rfl
section
variable {H : Type} {enc : TypeId × Value → H}
theorem open_by {W : World} {base : Nat} {v : Value} {d : DataW H} {p : List MemPlace} (hv : Value.okWide Try.prog W .any base 22 v) (h : DataW.Trod enc Try.prog W 0 (fun _ => true) true 22 v d p) :
    ∃ a l c f, v = .slice a l c ∧ BytesAt W a l c f := by
  obtain ⟨a0, l0, c0, rfl⟩ := okWide_slice Try.underlying22 hv
  obtain ⟨fuel, hf⟩ := h
  obtain ⟨a, l, c, f, e, hb⟩ := open_bytes Try.underlying22 Try.underlying5 cells_5 hf
  simp [Value.cells] at e
  obtain ⟨rfl, rfl, rfl⟩ := e
  exact ⟨_, _, _, f, rfl, hb⟩
theorem open_op {W : World} {base : Nat} {v : Value} {d : DataW H} {p : List MemPlace} (hv : Value.okWide Try.prog W .any base 37 v) (h : DataW.Trod enc Try.prog W 0 (fun _ => true) true 37 v d p) :
    ∃ a l c, v = .slice a l c ∧ (0 < l → isP a = true) ∧ ∀ i, i < l → ∃ k j u b bl bc f, OpAt W a i k j u b bl bc f := by
  obtain ⟨a0, l0, c0, rfl⟩ := okWide_slice Try.underlying37 hv
  obtain ⟨fuel, hf⟩ := h
  obtain ⟨a, l, c, e, _, _, hp, hx⟩ := open_ops (te := 5) Try.underlying37 Try.underlying40 cells_40 rfl rfl rfl rfl cells_3 cells_3 cells_34 cells_22 Try.underlying3 Try.underlying3 Try.underlying34 Try.underlying22 Try.underlying5 cells_5 hf
  simp [Value.cells] at e
  obtain ⟨rfl, rfl, rfl⟩ := e
  exact ⟨_, _, _, rfl, hp, hx⟩
end
end Go.Proofs.Ytkancagfhbkhiaa
