/-
  A part of a proof that a law of this seat returns true at every input. Conditions: those in each theorem.
-/
import Derived.Test.YtklmokolnakkoaaGreatDoorEngR
import Derived.Test.YtklmokolnakkoaaGreatDoorProg
import Derived.KernelRfl
set_option linter.unusedVariables false
set_option linter.unusedSimpArgs false
namespace Go.Proofs
theorem Tryz.mixes : Tryz.prog.follows .mixedOrders = true := by kernel_rfl
end Go.Proofs
