/-
  A part of a proof that a law of this seat returns true at every input. Conditions: those in each theorem.
-/
import Derived.Test.YtkmcmkimeibjdaaRows
import Derived.Test.YtkmcmkimeibjdaaEngM
import Derived.Test.YtkmcmkimeibjdaaEngP
import Derived.Test.YtkmcmkimeibjdaaProg
import Derived.KernelRfl
namespace Go.Proofs.Ytkmcmkimeibjdaa
open Go.ChangeShapes Go.WideShapes Go.ChangeAt Go.RowKit Go.Eng
set_option linter.unusedSimpArgs false
set_option linter.unusedVariables false
set_option maxRecDepth 100000
theorem ownKnobs : ownKnob Try.prog.godebug = none := by kernel_rfl
theorem laid : laidOutB Try.prog = true := by kernel_rfl
theorem wf_i64 {x : Int} (h : (Lit.int .i64 x).wf = true) : -9223372036854775808 ≤ x ∧ x ≤ 9223372036854775807 := by
  simpa [Lit.wf, IntKind.min, IntKind.max, IntKind.signed, IntKind.bits] using h
theorem cells_3 : Try.prog.cellsOf 3 = 1 := by kernel_rfl
theorem cells_4 : Try.prog.cellsOf 4 = 1 := by kernel_rfl
theorem cells_29 : Try.prog.cellsOf 29 = 4 := by kernel_rfl
section
variable {H : Type} {enc : TypeId × Value → H}
theorem open_i64 {W : World} {base : Nat} {v : Value} {d : DataW H} {p : List MemPlace} (hv : Value.okWide Try.prog W .any base 3 v) (h : DataW.Trod enc Try.prog W 0 (fun _ => true) true 3 v d p) :
    ∃ a, v = .int .i64 a ∧ -9223372036854775808 ≤ a ∧ a ≤ 9223372036854775807 := by
  obtain ⟨a, rfl, rfl, rfl, w0⟩ := open_int Try.underlying3 hv h
  exact ⟨a, rfl, wf_i64 w0⟩
structure BOp' (w : World) (a : Option Addr) (i : Nat) (k p o : Int) (h : Bool) : Prop where
  r0 : rd w (pb a) (po a + i * 4) = some (.int .i64 k)
  r1 : rd w (pb a) (po a + i * 4 + 1) = some (.int .i64 p)
  r2 : rd w (pb a) (po a + i * 4 + 2) = some (.int .i64 o)
  r3 : rd w (pb a) (po a + i * 4 + 3) = some (.bool h)
  w0 : -9223372036854775808 ≤ p ∧ p ≤ 9223372036854775807
  w1 : -9223372036854775808 ≤ o ∧ o ≤ 9223372036854775807
variable {P : Program}
theorem open_ops4 {t e : TypeId} {f0 f1 f2 f3 : Field} (ht : P.underlying t = some (.slice e)) (he : P.underlying e = some (.struct #[f0, f1, f2, f3])) (ce : P.cellsOf e = 4)
    (o0 : f0.offset = 0) (o1 : f1.offset = 1) (o2 : f2.offset = 2) (o3 : f3.offset = 3) (c0 : P.cellsOf f0.type = 1) (c1 : P.cellsOf f1.type = 1) (c2 : P.cellsOf f2.type = 1) (c3 : P.cellsOf f3.type = 1)
    (h0 : P.underlying f0.type = some (.int .i64)) (h1 : P.underlying f1.type = some (.int .i64)) (h2 : P.underlying f2.type = some (.int .i64)) (h3 : P.underlying f3.type = some .bool)
    {W : World} {fuel : Nat} {vs : List Value} {q : DataW H × List MemPlace} (hf : DataW.trod enc P W 0 (fun _ => true) true fuel t vs = some q) :
    ∃ a l c, vs = [.slice a l c] ∧ l ≤ c ∧ c ≤ maxLen ∧ (0 < l → isP a = true) ∧ ∀ i, i < l → ∃ k p o h, BOp' W a i k p o h := by
  obtain ⟨a, l, c, rfl, hl, hm, hp, _, hx⟩ := open_row ht hf (by omega)
  refine ⟨a, l, c, rfl, hl, hm, hp, fun i hi => ?_⟩
  obtain ⟨cs, n, x, hlen, hcell, htr⟩ := hx i hi
  obtain ⟨xs, k, _, _, _, hxl, hfs⟩ := DataW.trod_struct he htr
  rw [ce] at hlen hcell
  match xs, hxl, cs, hlen with
  | [y0, y1, y2, y3], _, [v0, v1, v2, v3], _ =>
    have g0 := hfs 0 f0 rfl
    have g1 := hfs 1 f1 rfl
    have g2 := hfs 2 f2 rfl
    have g3 := hfs 3 f3 rfl
    simp [o0, o1, o2, o3, c0, c1, c2, c3] at g0 g1 g2 g3
    obtain ⟨k0, e0, _, w0⟩ := DataW.trod_int h0 g0
    obtain ⟨k1, e1, _, w1⟩ := DataW.trod_int h1 g1
    obtain ⟨k2, e2, _, w2⟩ := DataW.trod_int h2 g2
    obtain ⟨k3, e3, _⟩ := DataW.trod_bool h3 g3
    simp at e0 e1 e2 e3
    subst e0 e1 e2 e3
    have r0 := hcell 0 (by omega)
    have r1 := hcell 1 (by omega)
    have r2 := hcell 2 (by omega)
    have r3 := hcell 3 (by omega)
    refine ⟨k0, k1, k2, k3, r0, r1, r2, r3, ?_, ?_⟩
    · simpa [Lit.wf, IntKind.min, IntKind.max, IntKind.signed, IntKind.bits] using w1
    · simpa [Lit.wf, IntKind.min, IntKind.max, IntKind.signed, IntKind.bits] using w2
theorem open_bop {W : World} {base : Nat} {v : Value} {d : DataW H} {p : List MemPlace} (hv : Value.okWide Try.prog W .any base 22 v) (h : DataW.Trod enc Try.prog W 0 (fun _ => true) true 22 v d p) :
    ∃ a l c, v = .slice a l c ∧ (0 < l → isP a = true) ∧ ∀ i, i < l → ∃ k p o h, BOp' W a i k p o h := by
  obtain ⟨a0, l0, c0, rfl⟩ := okWide_slice Try.underlying22 hv
  obtain ⟨fuel, hf⟩ := h
  obtain ⟨a, l, c, e, _, _, hp, hx⟩ := open_ops4 Try.underlying22 Try.underlying29 cells_29 rfl rfl rfl rfl cells_3 cells_3 cells_3 cells_4 Try.underlying3 Try.underlying3 Try.underlying3 Try.underlying4 hf
  simp [Value.cells] at e
  obtain ⟨rfl, rfl, rfl⟩ := e
  exact ⟨_, _, _, rfl, hp, hx⟩
end
end Go.Proofs.Ytkmcmkimeibjdaa
namespace Go.Proofs.Ytkmcmkimeibjdaa
open Go.ChangeShapes Go.WideShapes Go.ChangeAt Go.RowKit Go.Eng
set_option linter.unusedSimpArgs false
set_option linter.unusedVariables false
set_option maxRecDepth 100000
/-! ### a call on zones that is handed in by value -/
section
variable {H : Type} {enc : TypeId × Value → H}
theorem cells_42 : Try.prog.cellsOf 42 = 1 := by kernel_rfl
theorem cells_87 : Try.prog.cellsOf 87 = 6 := by kernel_rfl
theorem open_op87 {W : World} {base : Nat} {v : Value} {d : DataW H} {p : List MemPlace} (hv : Value.okWide Try.prog W .any base 87 v) (h : DataW.Trod enc Try.prog W 0 (fun _ => true) true 87 v d p) :
    ∃ k0 k1 k2 k3 a l c k5, v = .agg #[.int .i64 k0, .int .i64 k1, .int .i64 k2, .int .i64 k3, .slice a l c, .bool k5] := by
  obtain ⟨cs, rfl, hsz⟩ := okWide_struct Try.underlying87 hv
  obtain ⟨fuel, hf⟩ := h
  obtain ⟨xs, k, _, _, hl, hxl, hfs⟩ := DataW.trod_struct Try.underlying87 hf
  have hcs : (Value.agg cs).cells = cs := rfl
  rw [hcs] at hl hfs
  rw [cells_87] at hl
  obtain ⟨l, rfl⟩ : ∃ l : List Value, cs = l.toArray := ⟨cs.toList, by simp⟩
  match xs, hxl, l, hl with
  | [y0, y1, y2, y3, y4, y5], _, [v0, v1, v2, v3, v4, v5], _ =>
    have g0 := hfs 0 _ rfl
    have g1 := hfs 1 _ rfl
    have g2 := hfs 2 _ rfl
    have g3 := hfs 3 _ rfl
    have g4 := hfs 4 _ rfl
    have g5 := hfs 5 _ rfl
    simp [cells_3, cells_4, cells_42] at g0 g1 g2 g3 g4 g5
    obtain ⟨k0, e0, _, w0⟩ := DataW.trod_int Try.underlying3 g0
    obtain ⟨k1, e1, _, w1⟩ := DataW.trod_int Try.underlying3 g1
    obtain ⟨k2, e2, _, w2⟩ := DataW.trod_int Try.underlying3 g2
    obtain ⟨k3, e3, _, w3⟩ := DataW.trod_int Try.underlying3 g3
    obtain ⟨a, l, c, e4, _⟩ := open_row Try.underlying42 g4 (by rw [cells_3]; omega)
    obtain ⟨k5, e5, _⟩ := DataW.trod_bool Try.underlying4 g5
    simp at e0 e1 e2 e3 e4 e5
    subst e0 e1 e2 e3 e4 e5
    exact ⟨k0, k1, k2, k3, a, l, c, k5, rfl⟩
end
end Go.Proofs.Ytkmcmkimeibjdaa
namespace Go.Proofs
theorem Try.mixes : Try.prog.follows .mixedOrders = true := by kernel_rfl
end Go.Proofs
