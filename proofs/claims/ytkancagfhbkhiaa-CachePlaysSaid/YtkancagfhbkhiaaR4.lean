/-
  A part of a proof that a law of this seat returns true at every input. Conditions: those in each theorem.
-/
import Derived.Test.YtkancagfhbkhiaaR3
import Derived.Test.YtkancagfhbkhiaaD8c
namespace Go.Proofs.Ytkancagfhbkhiaa
open Go.ChangeShapes Go.WideShapes Go.ChangeAt Go.RowKit Go.Eng
set_option maxRecDepth 100000
set_option linter.unusedSimpArgs false
set_option linter.unusedVariables false
theorem cells_4 : Try.prog.cellsOf 4 = 1 := by kernel_rfl
theorem cells_66 : Try.prog.cellsOf 66 = 5 := by kernel_rfl
section
variable {H : Type} {enc : TypeId × Value → H} {P : Program}
theorem open_ops5 {t e : TypeId} {f0 f1 f2 f3 f4 : Field} (ht : P.underlying t = some (.slice e)) (he : P.underlying e = some (.struct #[f0, f1, f2, f3, f4])) (ce : P.cellsOf e = 5)
    (o0 : f0.offset = 0) (o1 : f1.offset = 1) (o2 : f2.offset = 2) (o3 : f3.offset = 3) (o4 : f4.offset = 4) (c0 : P.cellsOf f0.type = 1) (c1 : P.cellsOf f1.type = 1) (c2 : P.cellsOf f2.type = 1) (c3 : P.cellsOf f3.type = 1) (c4 : P.cellsOf f4.type = 1)
    (h0 : P.underlying f0.type = some (.int .i64)) (h1 : P.underlying f1.type = some (.int .i64)) (h2 : P.underlying f2.type = some (.int .i64)) (h3 : P.underlying f3.type = some (.int .u8)) (h4 : P.underlying f4.type = some .bool)
    {W : World} {fuel : Nat} {vs : List Value} {q : DataW H × List MemPlace} (hf : DataW.trod enc P W 0 (fun _ => true) true fuel t vs = some q) :
    ∃ a l c, vs = [.slice a l c] ∧ l ≤ c ∧ c ≤ maxLen ∧ (0 < l → isP a = true) ∧ ∀ i, i < l → ∃ k f j b s, Op5 W a i k f j b s := by
  obtain ⟨a, l, c, rfl, hl, hm, hp, _, hx⟩ := open_row ht hf (by omega)
  refine ⟨a, l, c, rfl, hl, hm, hp, fun i hi => ?_⟩
  obtain ⟨cs, n, x, hlen, hcell, htr⟩ := hx i hi
  obtain ⟨xs, k, _, _, _, hxl, hfs⟩ := DataW.trod_struct he htr
  rw [ce] at hlen hcell
  match xs, hxl, cs, hlen with
  | [y0, y1, y2, y3, y4], _, [v0, v1, v2, v3, v4], _ =>
    have g0 := hfs 0 f0 rfl
    have g1 := hfs 1 f1 rfl
    have g2 := hfs 2 f2 rfl
    have g3 := hfs 3 f3 rfl
    have g4 := hfs 4 f4 rfl
    simp [o0, o1, o2, o3, o4, c0, c1, c2, c3, c4] at g0 g1 g2 g3 g4
    obtain ⟨k0, e0, _, w0⟩ := DataW.trod_int h0 g0
    obtain ⟨k1, e1, _, w1⟩ := DataW.trod_int h1 g1
    obtain ⟨k2, e2, _, w2⟩ := DataW.trod_int h2 g2
    obtain ⟨k3, e3, _, w3⟩ := DataW.trod_int h3 g3
    obtain ⟨k4, e4, _⟩ := DataW.trod_bool h4 g4
    simp at e0 e1 e2 e3 e4
    subst e0 e1 e2 e3 e4
    have r0 := hcell 0 (by omega)
    have r1 := hcell 1 (by omega)
    have r2 := hcell 2 (by omega)
    have r3 := hcell 3 (by omega)
    have r4 := hcell 4 (by omega)
    refine ⟨k0, k1, k2, k3, k4, r0, r1, r2, r3, r4, ?_, ?_, ?_⟩
    · simpa [Lit.wf, IntKind.min, IntKind.max, IntKind.signed, IntKind.bits] using w3
    · simpa [Lit.wf, IntKind.min, IntKind.max, IntKind.signed, IntKind.bits] using w1
    · simpa [Lit.wf, IntKind.min, IntKind.max, IntKind.signed, IntKind.bits] using w2
theorem open_op9 {W : World} {base : Nat} {v : Value} {d : DataW H} {p : List MemPlace} (hv : Value.okWide Try.prog W .any base 60 v) (h : DataW.Trod enc Try.prog W 0 (fun _ => true) true 60 v d p) :
    ∃ a l c, v = .slice a l c ∧ (0 < l → isP a = true) ∧ ∀ i, i < l → ∃ k f j b s, Op5 W a i k f j b s := by
  obtain ⟨a0, l0, c0, rfl⟩ := okWide_slice Try.underlying60 hv
  obtain ⟨fuel, hf⟩ := h
  obtain ⟨a, l, c, e, _, _, hp, hx⟩ := open_ops5 Try.underlying60 Try.underlying66 cells_66 rfl rfl rfl rfl rfl cells_3 cells_3 cells_3 cells_5 cells_4 Try.underlying3 Try.underlying3 Try.underlying3 Try.underlying5 Try.underlying4 hf
  simp [Value.cells] at e
  obtain ⟨rfl, rfl, rfl⟩ := e
  exact ⟨_, _, _, rfl, hp, hx⟩
/-- numbers, handed in as a row -/
structure IntsAt (w : World) (a : Option Addr) (l : Nat) (f : Nat → Int) : Prop where
  isp : 0 < l → isP a = true
  rd : ∀ i, i < l → Eng.rd w (pb a) (po a + i) = some (.int .i64 (f i))
  r64 : ∀ i, i < l → -9223372036854775808 ≤ f i ∧ f i ≤ 9223372036854775807
theorem open_ints9 {W : World} {base : Nat} {v : Value} {d : DataW H} {p : List MemPlace} (hv : Value.okWide Try.prog W .any base 33 v) (h : DataW.Trod enc Try.prog W 0 (fun _ => true) true 33 v d p) :
    ∃ a l c f, v = .slice a l c ∧ IntsAt W a l f := by
  obtain ⟨a0, l0, c0, rfl⟩ := okWide_slice Try.underlying33 hv
  obtain ⟨fuel, hf⟩ := h
  obtain ⟨a, l, c, e, _, _, hp, _, hx⟩ := open_row Try.underlying33 hf (by rw [cells_3]; omega)
  simp [Value.cells] at e
  obtain ⟨rfl, rfl, rfl⟩ := e
  have each : ∀ i, i < l0 → ∃ n : Int, Eng.rd W (pb a0) (po a0 + i) = some (.int .i64 n) ∧ -9223372036854775808 ≤ n ∧ n ≤ 9223372036854775807 := by
    intro i hi
    obtain ⟨cs, n, x, hlen, hcell, htr⟩ := hx i hi
    obtain ⟨k, rfl, _, hw⟩ := DataW.trod_int Try.underlying3 htr
    have := hcell 0 (by rw [cells_3]; omega)
    rw [cells_3, Nat.mul_one] at this
    refine ⟨k, this, ?_⟩
    simpa [Lit.wf, IntKind.min, IntKind.max, IntKind.signed, IntKind.bits] using hw
  refine ⟨a0, l0, c0, fun i => if h : i < l0 then (each i h).choose else 0, rfl, hp, fun i hi => ?_, fun i hi => ?_⟩
  · simp only [hi, dif_pos]
    exact (each i hi).choose_spec.1
  · simp only [hi, dif_pos]
    exact (each i hi).choose_spec.2
end
end Go.Proofs.Ytkancagfhbkhiaa
