/-
  A part of a proof that a law of this seat returns true at every input. Conditions: those in each theorem.
-/
import Derived.Test.YtklmokolnakkoaaGreatDoorEngR
import Derived.WideKeyEntry
namespace Go.Eng
open Go.MapKept
set_option linter.unusedSimpArgs false
set_option linter.unusedVariables false
section
variable {P : Program} {mt kt vt : TypeId} {κ : Type} [DecidableEq κ] {enc : κ → Value} (hm : P.underlying mt = some (.map kt vt)) (K : KeyOk P kt enc)
variable {w : World} {b : Nat} {m : List (κ × Value)}
theorem lookG_map (m : List (κ × Value)) (k : κ) (x : Value) (j : κ) (h : (m.lookup k).isSome = true) : (m.map fun p => if p.1 = k then (k, x) else p).lookup j = if j = k then some x else m.lookup j := by
  have e : ∀ (m : List (κ × Value)), j ≠ k → (m.map fun p => if p.1 = k then (k, x) else p).lookup j = m.lookup j := by
    intro m hj
    induction m with
    | nil => rfl
    | cons q m ih =>
      obtain ⟨c, d⟩ := q
      rw [List.map_cons]
      by_cases hc : c = k
      · subst hc
        simp only [if_true]
        have : (j == c) = false := by simpa using hj
        rw [List.lookup_cons, List.lookup_cons, this]
        exact ih
      · rw [if_neg hc, List.lookup_cons, List.lookup_cons, ih]
  by_cases hj : j = k
  · subst hj
    rw [if_pos rfl]
    induction m with
    | nil => cases h
    | cons p m ih =>
      obtain ⟨a, u⟩ := p
      rw [List.map_cons]
      by_cases hak : a = j
      · subst hak; simp
      · rw [if_neg hak]
        have h0 : (j == a) = false := by simpa using fun e => hak e.symm
        have h' : (m.lookup j).isSome = true := by
          rw [List.lookup_cons, h0] at h
          exact h
        rw [List.lookup_cons, h0]
        exact ih h'
  · rw [if_neg hj, e m hj]
include K hm
end
end Go.Eng
