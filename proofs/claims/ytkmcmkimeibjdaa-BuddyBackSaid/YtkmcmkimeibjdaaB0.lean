/-
  A part of a proof that a law of this seat returns true at every input. Conditions: those in each theorem.
-/
import Derived.Test.YtkmcmkimeibjdaaEngP
import Derived.Test.YtkmcmkimeibjdaaProg
import Derived.KernelRfl
set_option linter.unusedVariables false
set_option linter.unusedSimpArgs false
namespace Go.Proofs
theorem Try.mixes : Try.prog.follows .mixedOrders = true := by kernel_rfl
end Go.Proofs
