/-
  A part of a proof that a law of this seat returns true at every input. Conditions: those in each theorem.
-/
import Derived.Test.YtkancagfhbkhiaaC4
namespace Go.Proofs.Ytkancagfhbkhiaa
open Go Eng
set_option linter.unusedSimpArgs false
set_option linter.unusedVariables false
set_option maxRecDepth 10000

/-- the last call of each law -/
theorem fin_known {w0 w : World} (k : Kept none' w0 w) : Calls Try.prog 16 #[] w fun e w' => ∃ b : Bool, e = .returned (.bool b) ∧ (Value.bool b = .bool true ∧ Kept none' w0 w') := by
  refine (known_spec w).mono ?_
  rintro _ w' ⟨rfl, k'⟩
  exact ⟨true, rfl, rfl, k.tr k'⟩
theorem count_all {z c : Nat} (h8 : 8 ≤ z) (hc : c ≤ 256 % z) : (256 - c) / z = 256 / z := by
  have h := Nat.div_add_mod 256 z
  have hl := Nat.mod_lt 256 (show 0 < z by omega)
  have hm : 256 / z * z = z * (256 / z) := Nat.mul_comm _ _
  refine Nat.div_eq_of_lt_le (by omega) ?_
  rw [Nat.add_mul]
  omega
theorem mayBe_nat {size colour : Int} (h : mayBe size colour) : ∃ z c : Nat, size = z ∧ colour = c ∧ 8 ≤ z ∧ z ≤ 128 ∧ c ≤ 256 % z := by
  obtain ⟨m1, m2, m3, m4, m5, m6⟩ := h
  obtain ⟨z, rfl⟩ := Int.eq_ofNat_of_zero_le (show 0 ≤ size by omega)
  obtain ⟨c, rfl⟩ := Int.eq_ofNat_of_zero_le m4
  have hmod : ((256 % z : Nat) : Int) = 256 % (z : Int) := Int.natCast_emod 256 z
  refine ⟨z, c, rfl, rfl, by omega, by omega, ?_⟩
  rw [← hmod] at m6
  generalize 256 % z = q at *
  omega

theorem fits_law (size colour : Int) (hcol : -9223372036854775808 ≤ colour ∧ colour ≤ 9223372036854775807) (w : World) :
    Calls Try.prog 5 #[.int .i64 size, .int .i64 colour] w fun e w' => e = .returned (.bool true) ∧ Kept none' w w' := by
  refine (vc5 size colour w (fun v w' => v = .bool true ∧ Kept none' w w') ?_).mono ?_
  · unfold vcP5
    intro w1 e1
    have b1 := bytes_new e1
    have k1 := (Kept.refl none' w).al e1
    clear e1
    have hle : w.heap.size ≤ w.heap.size := Nat.le_refl _
    have hlt := b1.lt
    generalize hB : w.heap.size = B at *
    by_cases hm : mayBe size colour
    · obtain ⟨z, c, rfl, rfl, h8, h128, hc⟩ := mayBe_nat hm
      refine (new_ok (w := w1) (B := B) z c b1 (Nat.le_refl _) hm).mono ?_
      rintro _ w2 ⟨rfl, k2, f, a2, _⟩
      have k2' := k1.go k2 (fun b hb => .inr (by omega))
      have hS : B < w1.heap.size := hlt
      generalize w1.heap.size = S at *
      refine ⟨_, _, rfl, Wif_no rfl ?_⟩
      have g1 := a2.good.count1
      have g32 := a2.good.count32
      have hfit := a2.good.fits (i := (newSl z c).count - 1) (by omega)
      refine (count_spec a2).mono ?_
      rintro _ w3 ⟨rfl, rfl⟩
      have hcnt : (newSl z c).count = 256 / z := count_all h8 hc
      have hsz : (newSl z c).size = z := rfl
      have hcl : (newSl z c).colour = c := rfl
      have hdm := Nat.div_add_mod 256 z
      have hmm : 256 / z * z = z * (256 / z) := Nat.mul_comm _ _
      have hdiv : Int.tdiv 256 (z : Int) = ((256 / z : Nat) : Int) := rfl
      rw [hdiv]
      have hdmul : ((newSl z c).count - 1) * z + z = z * (256 / z) := by
        have : ((newSl z c).count - 1) * z + z = ((newSl z c).count - 1 + 1) * z := by rw [Nat.add_mul, Nat.one_mul]
        rw [this, Nat.sub_add_cancel g1, hcnt, hmm]
      rw [hcl, hsz] at hfit
      have hat := atOf_nat (s := newSl z c) (i := (newSl z c).count - 1) (by omega)
      rw [hcl, hsz] at hat
      generalize hN : (newSl z c).count = N at *
      have hn1 : (N : Int) - 1 = ((N - 1 : Nat) : Int) := by omega
      have hw1 : IntKind.wrap .i64 ((N : Int) - 1) = ((N - 1 : Nat) : Int) := by rw [hn1]; exact wi (by omega)
      refine ⟨_, rfl, ?_⟩
      rw [hw1]
      clear hw1
      refine (at_spec a2 _).mono ?_
      rintro _ w4 ⟨rfl, k4⟩
      have a4 := a2.k k4
      have k4' := k2'.tr k4
      rw [hat]
      refine ⟨_, _, rfl, Wif_yes (by simp; omega) (Wif_no ?_ ?_)⟩
      · have hmc : (((N - 1) * z : Nat) : Int) = ((N - 1 : Nat) : Int) * (z : Int) := Int.natCast_mul _ _
        have hx : IntKind.wrap .i64 ((c : Int) + IntKind.wrap .i64 (((N - 1 : Nat) : Int) * z)) = ((c + (N - 1) * z : Nat) : Int) := by
          rw [wi (x := ((N - 1 : Nat) : Int) * z) (by omega), wi (by omega)]; omega
        have hy : IntKind.wrap .i64 ((256 / z : Nat) : Int) = (N : Int) := by rw [← hcnt]; exact wi (by omega)
        rw [hx, hy]
        simp
        omega
      dsimp only
      refine (size_spec a4).mono ?_
      rintro _ w5 ⟨rfl, rfl⟩
      refine ⟨_, rfl, Wif_no (by rw [hsz]; simp) ?_⟩
      refine (colour_spec a4).mono ?_
      rintro _ w6 ⟨rfl, rfl⟩
      refine ⟨_, rfl, Wif_no (by rw [hcl]; simp) ?_⟩
      intro w7 e7
      have b7 := bytes_new e7
      have k7 := k4'.al e7
      have hsz6 := k4'.sz
      have hlt7 := b7.lt
      clear e7
      generalize w6.heap.size = B2 at *
      have hw8 : IntKind.wrap .i64 ((c : Int) + 8) = ((c + 8 : Nat) : Int) := by
        have := Nat.mod_lt 256 (show 0 < z by omega)
        rw [wi (by omega)]; rfl
      have hwt : IntKind.wrap .i64 (((c + (N - 1) * z + z : Nat) : Int) + 8) = ((c + (N - 1) * z + z + 8 : Nat) : Int) := by rw [wi (by omega)]; rfl
      rw [hw8, hwt]
      clear hw8 hwt
      have hiff : mayBe (z : Int) ((c + 8 : Nat) : Int) ↔ c + (N - 1) * z + z + 8 ≤ 256 := by
        have hmod : ((256 % z : Nat) : Int) = 256 % (z : Int) := Int.natCast_emod 256 z
        obtain ⟨m1, m2, m3, m4, m5, m6⟩ := hm
        constructor
        · rintro ⟨_, _, _, _, _, h⟩
          rw [← hmod] at h
          generalize 256 % z = q at *
          omega
        · intro h
          refine ⟨m1, m2, m3, by omega, by omega, ?_⟩
          rw [← hmod]
          generalize 256 % z = q at *
          omega
      by_cases hm2 : mayBe (z : Int) ((c + 8 : Nat) : Int)
      · refine (new_ok (w := w7) (B := B2) z (c + 8) b7 (Nat.le_refl _) hm2).mono ?_
        rintro _ w8 ⟨rfl, k8, _⟩
        have k8' := k7.go k8 (fun b hb => .inr (by omega))
        have := hiff.1 hm2
        refine ⟨_, _, rfl, Wif_yes ?_ (fin_known k8')⟩
        simp; omega
      · refine (new_no (w := w7) _ _ _ _ _ (fun h => hm2 h.2)).mono ?_
        rintro _ w8 ⟨rfl, rfl⟩
        have : ¬ (c + (N - 1) * z + z + 8 ≤ 256) := fun h => hm2 (hiff.2 h)
        refine ⟨_, _, rfl, Wif_yes ?_ (fin_known k7)⟩
        simp; omega
    · refine (new_no (w := w1) _ _ _ _ _ (fun h => hm h.2)).mono ?_
      rintro _ w2 ⟨rfl, rfl⟩
      exact ⟨_, _, rfl, Wif_yes rfl (Wif_yes rfl (fin_known k1))⟩
  · rintro e w' ⟨v, rfl, rfl, h⟩
    exact ⟨rfl, h⟩
end Go.Proofs.Ytkancagfhbkhiaa
