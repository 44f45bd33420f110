/-
  A part of a proof that a law of this seat returns true at every input. Conditions: those in each theorem.
-/
import Derived.Test.YtkmcmkimeibjdaaBQ9
import Derived.Test.YtkmcmkimeibjdaaEngR
namespace Go.Proofs.Ytkmcmkimeibjdaa
open Go Eng MapKept
set_option linter.unusedSimpArgs false
set_option linter.unusedVariables false
set_option maxRecDepth 100000
/-! ### maps whose keys are blocks -/
def encBk (x : Int × Int) : Value := .agg #[.int .i64 x.1, .int .i64 x.2]
theorem chk58 (e : Bool) (a : Int × Int) (w : World) : (Instr.checkKey e 10000 58 (encBk a)).run Try.prog w = .ok () w := by
  show (Instr.checkKey e (9998 + 1 + 1) 58 (.agg #[.int .i64 a.1, .int .i64 a.2])).run Try.prog w = .ok () w
  unfold Instr.checkKey
  simp only [Sem.run_bind, run_underlying Try.underlying58, Result.andThen_ok]
  have p0 : (part 3 #[Value.int .i64 a.1, .int .i64 a.2] 0).run Try.prog w = .ok (.int .i64 a.1) w := run_partV Try.underlying3 (by kernel_rfl)
  have p1 : (part 3 #[Value.int .i64 a.1, .int .i64 a.2] 1).run Try.prog w = .ok (.int .i64 a.2) w := run_partV Try.underlying3 (by kernel_rfl)
  have c0 : ∀ x : Int, (Instr.checkKey e (9998 + 1) 3 (.int .i64 x)).run Try.prog w = .ok () w := fun x => MapKept.run_checkKey (d := .int .i64) Try.underlying3 (by simp [IsKey]) e 9998
  simp [p0, p1, c0, Result.andThen]
theorem keyBk : KeyOk Try.prog 58 encBk := by
  refine ⟨?_, chk58, ⟨_, Try.underlying58, fun a b => .inl rfl⟩, ?_, ?_⟩
  · rintro ⟨a, b⟩ ⟨c, d⟩ h
    simp [encBk] at h
    exact Prod.ext h.1 h.2
  · rintro ⟨a, b⟩ ⟨c, d⟩ w
    have h : eqT Try.prog 10000 58 (encBk (a, b)) (encBk (c, d)) = some (a == c && (b == d && true)) := by kernel_rfl
    have := eqT_run (P := Try.prog) 10000 58 _ _ _ w h
    have e : (a == c && (b == d && true)) = decide ((a, b) = (c, d)) := by
      simp only [Prod.mk.injEq, Bool.and_true]
      by_cases h1 : a = c <;> by_cases h2 : b = d <;> simp [h1, h2]
    rw [e] at this
    exact this
  · rintro ⟨a, b⟩
    show Instr.sameBits (9998 + 1 + 1) (.agg #[.int .i64 a, .int .i64 b]) (.agg #[.int .i64 a, .int .i64 b]) = true
    simp [Instr.sameBits]
end Go.Proofs.Ytkmcmkimeibjdaa
