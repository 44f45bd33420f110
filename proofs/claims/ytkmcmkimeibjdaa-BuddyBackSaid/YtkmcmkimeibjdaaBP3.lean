/-
  A part of a proof that a law of this seat returns true at every input. Conditions: those in each theorem.
-/
import Derived.Test.YtkmcmkimeibjdaaBP2
import Derived.Test.YtkmcmkimeibjdaaBN6
set_option linter.unusedVariables false
set_option linter.unusedSimpArgs false
namespace Go.Proofs.Ytkmcmkimeibjdaa
open Go Eng
theorem powers_all (n : Int) (l : Option Addr) (lL lC : Nat) (f : Nat → Int) (W : World) (hp : 0 < lL → isP l = true) (hx : ∀ i, i < lL → rd W (pb l) (po l + i) = some (.int .i64 (f i))) :
    Calls Try.prog 7 #[.int .i64 n, .slice l lL lC] W fun r w' => r = .returned (.bool true) ∧ Kept none' W w' :=
  powers_law (fun _ L _ => sort_says L) n l lL lC f W hp hx
end Go.Proofs.Ytkmcmkimeibjdaa
