/-
  A part of a proof that a law of this seat returns true at every input. Conditions: those in each theorem.
-/
import Derived.Test.YtklmokolnakkoaaGreatDoorB0
set_option linter.unusedSimpArgs false
set_option linter.unusedVariables false
set_option maxRecDepth 100000
namespace Go.Proofs.YtklmokolnakkoaaGreatDoor
open Go Go.Eng
open Go.Value (slice pointer)
/- byre/byrelaw21.CoreHolds -/
/- (*byre/core.Core).Hold -/
/- (*byre/core.Core).Drop -/
/- slices.Index[[]int,int] -/
def vcP92 (s : OA) (sL sC : Nat) (v : Int) (w : World) (K : KV) : Prop := ∃ (I : Int → Int → World → Nat → Prop), (∃ (n : Nat), I 0 0 w n) ∧ ∀ (n n_1 : Int) (w' : World) (n_2 : Nat), I n n_1 w' n_2 → Wif (decide (n_1 < (↑sL : Int))) (Wif (isP s) (Wif (inB n_1 sL) (∃ (x : Int), rd w' (pb s) (po s + Int.toNat n_1 * 1) = some (.int .i64 x) ∧ Wif (v == x) (K (vi n_1) w') (∃ m, Nat.succ m ≤ n_2 ∧ I n (IntKind.wrap .i64 (n_1 + 1)) w' m)) False) False) (K (vi (-1)) w')
theorem vc92 (s : OA) (sL sC : Nat) (v : Int) (w : World) (K : KV) (h : vcP92 s sL sC v w K) : Calls Tryz.prog 92 #[slice s sL sC, vi v] w (fun e w' => ∃ v, e = .returned v ∧ K v w') := Eng.vc_of [167, 120, 130, 61, 133, 143, 134, 91, 103, 113, 98, 99, 169, 15, 16, 17] 2 [] Tryz.mixes Tryz.func92 (by kernel_rfl) (by kernel_rfl) (by kernel_rfl) h
end Go.Proofs.YtklmokolnakkoaaGreatDoor
