/-
  A part of a proof that a law of this seat returns true at every input. Conditions: those in each theorem.
-/
import Derived.Test.YtklmokolnakkoaaGreatDoorEngR
import Derived.WideKeyEntry
namespace Go.Eng
open Go.MapKept
set_option linter.unusedSimpArgs false
set_option linter.unusedVariables false
section
variable {P : Program} {mt kt vt : TypeId} {κ : Type} [DecidableEq κ] {enc : κ → Value} (hm : P.underlying mt = some (.map kt vt)) (K : KeyOk P kt enc)
variable {w : World} {b : Nat} {m : List (κ × Value)}
include K hm
end
end Go.Eng
