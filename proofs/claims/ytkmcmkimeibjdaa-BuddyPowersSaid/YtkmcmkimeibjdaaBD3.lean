/-
  A part of a proof that a law of this seat returns true at every input. Conditions: those in each theorem.
-/
import Derived.Test.YtkmcmkimeibjdaaBD2
namespace Go.Proofs.Ytkmcmkimeibjdaa
open Go Eng
set_option linter.unusedSimpArgs false
set_option linter.unusedVariables false
set_option maxRecDepth 100000
def freeOf (s : Bst) : Nat → Nat
  | 0 => 0
  | o + 1 => freeOf s o + (s.F o).length * 2 ^ o
theorem freeOf_le {s : Bst} (hs : Small s) : ∀ k, k ≤ 11 → freeOf s k ≤ k * 1024000000
  | 0, _ => Nat.zero_le _
  | o + 1, h => by
    have ih := freeOf_le hs o (by omega)
    have h1 := hs o (by omega)
    have h2 : 2 ^ o ≤ 2 ^ 10 := Nat.pow_le_pow_right (by omega) (by omega)
    have h3 : (s.F o).length * 2 ^ o ≤ 1000000 * 2 ^ 10 := Nat.mul_le_mul h1 h2
    unfold freeOf
    omega
theorem shl_small {x o : Nat} (hx : x ≤ 1000000) (ho : o < 11) : IntKind.wrap .i64 ((x : Int) * 2 ^ min (Int.toNat (o : Int)) 64) = ((x * 2 ^ o : Nat) : Int) := by
  have h2 : 2 ^ o ≤ 2 ^ 10 := Nat.pow_le_pow_right (by omega) (by omega)
  have h3 : x * 2 ^ o ≤ 1000000 * 2 ^ 10 := Nat.mul_le_mul hx h2
  rw [Int.toNat_natCast, Nat.min_eq_left (by omega), show ((x : Int) * 2 ^ o) = ((x * 2 ^ o : Nat) : Int) by simp]
  rw [wi (by omega)]
section
variable {w w' : World} {b t : Nat} {m : Nat → Nat} {s : Bst}
theorem free_spec (h : BAt w b m t s) (hs : Small s) : Calls Try.prog 19 #[ptr b] w fun r w' => r = .returned (.int .i64 (freeOf s 11)) ∧ w' = w := by
  refine (vc19 _ w (fun v w' => v = .int .i64 (freeOf s 11) ∧ w' = w) ?_).mono ?_
  · unfold vcP19
    simp only [isP_some, Wif_true, gIf_true, pb_some, po_some, Nat.zero_add]
    refine ⟨_, fun _ => h.r12, Wif_no rfl ?_⟩
    refine ⟨_, _, _, _, _, _, _, _, _, _, _, ⟨h.rm (o := 0) (by omega), h.rm (o := 1) (by omega), h.rm (o := 2) (by omega), h.rm (o := 3) (by omega), h.rm (o := 4) (by omega), h.rm (o := 5) (by omega), h.rm (o := 6) (by omega), h.rm (o := 7) (by omega), h.rm (o := 8) (by omega), h.rm (o := 9) (by omega), h.rm (o := 10) (by omega)⟩, ?_⟩
    refine ⟨fun a k w' n => w' = w ∧ ∃ q : Nat, k = q ∧ q ≤ 11 ∧ n = 11 - q ∧ a = (freeOf s q : Nat), ⟨11, rfl, 0, rfl, by omega, rfl, rfl⟩, ?_⟩
    rintro _ k w1 n ⟨rfl, q, rfl, hq, rfl, rfl⟩
    refine Wif_intro (fun hc => ?_) (fun hc => ?_)
    · have hq0 : q < 11 := by simp at hc; omega
      refine Wif_yes (inB_of (by omega) (by omega)) ⟨some (m q), ?_, _, h.len hs hq0, Wif_yes (by simp) ⟨11 - (q + 1), by omega, rfl, q + 1, by rw [wi (by omega)]; rfl, by omega, rfl, ?_⟩⟩
      · rw [Int.toNat_natCast, Nat.mul_one]
        match q, hq0 with
        | 0, _ | 1, _ | 2, _ | 3, _ | 4, _ | 5, _ | 6, _ | 7, _ | 8, _ | 9, _ | 10, _ => rfl
      · have h1 := freeOf_le hs (q + 1) (by omega)
        rw [shl_small (hs q hq0) hq0]
        have e1 : freeOf s (q + 1) = freeOf s q + (s.F q).length * 2 ^ q := rfl
        rw [e1] at h1 ⊢
        rw [wi (by omega)]
        omega
    · have hq0 : q = 11 := by simp at hc; omega
      subst hq0
      exact ⟨rfl, rfl⟩
  · rintro e w' ⟨v, rfl, rfl, hw⟩
    exact ⟨rfl, hw⟩
end
end Go.Proofs.Ytkmcmkimeibjdaa
