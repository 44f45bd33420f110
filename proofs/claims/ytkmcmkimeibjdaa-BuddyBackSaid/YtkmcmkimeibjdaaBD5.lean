/-
  A part of a proof that a law of this seat returns true at every input. Conditions: those in each theorem.
-/
import Derived.Test.YtkmcmkimeibjdaaBD1
namespace Go.Proofs.Ytkmcmkimeibjdaa
open Go Eng
set_option linter.unusedSimpArgs false
set_option linter.unusedVariables false
set_option maxRecDepth 100000
/-! ### a struct whose maps are laid one by one -/
def brawN (n : Int) (m : Nat → Nat) (t k : Nat) : List Value := .int .i64 n :: ((List.range 11).map fun o => if o < k then Value.map (some (m o)) else .map none) ++ [.map (some t)]
theorem brawN_0 (n : Int) (m : Nat → Nat) (t : Nat) : brawN n m t 0 = [Value.int .i64 n] ++ (List.replicate 11 (.map none) ++ [.map (some t)]) := rfl
theorem brawN_11 (n : Int) (m : Nat → Nat) (t : Nat) : brawN n m t 11 = braw n m t := by
  unfold brawN braw
  congr 2
theorem brawN_len (n : Int) (m : Nat → Nat) (t k : Nat) : (brawN n m t k).length = 13 := by simp [brawN]
theorem brawN_set (n : Int) (m : Nat → Nat) (t : Nat) {k : Nat} (hk : k < 11) (x : Nat) : (brawN n m t k).set (1 + k) (.map (some x)) = brawN n (upd m k x) t (k + 1) := by
  apply List.ext_getElem?
  intro i
  rw [List.getElem?_set, brawN_len]
  unfold brawN
  cases i with
  | zero => simp
  | succ j =>
    simp only [List.cons_append, List.getElem?_cons_succ]
    by_cases hj : j < 11
    · rw [List.getElem?_append_left (by simpa using hj), List.getElem?_append_left (by simpa using hj)]
      simp only [List.getElem?_map, List.getElem?_range hj, Option.map_some]
      by_cases hjk : j = k
      · subst hjk
        rw [if_pos (by omega), if_pos (by omega), if_pos (by omega), upd_same]
      · rw [if_neg (by omega)]
        by_cases hlt : j < k
        · rw [if_pos hlt, if_pos (by omega), upd_ne _ _ hjk]
        · rw [if_neg hlt, if_neg (by omega)]
    · rw [if_neg (by omega), List.getElem?_append_right (by simp; omega), List.getElem?_append_right (by simp; omega)]
      simp
end Go.Proofs.Ytkmcmkimeibjdaa
