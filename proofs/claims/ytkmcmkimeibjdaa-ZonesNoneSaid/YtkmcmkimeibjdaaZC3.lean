/-
  A part of a proof that a law of this seat returns true at every input. Conditions: those in each theorem.
-/
import Derived.Test.YtkmcmkimeibjdaaZC2
namespace Go.Proofs.Ytkmcmkimeibjdaa
open Go Eng
set_option linter.unusedSimpArgs false
set_option linter.unusedVariables false
set_option maxRecDepth 100000
/-! ### the first frame of a node, the node of a frame -/
def fstF (c : Nat → Int) : Nat → Int
  | 0 => 0
  | k + 1 => fstF c k + c (18 + k)
theorem MayP.fr {c : Nat → Int} (h : MayP c) {i : Nat} (hi : (i : Int) < c 0) : 4 ≤ c (18 + i) ∧ c (18 + i) ≤ 128 := (h.2.2.2.2.2.1 i (by omega)).1
theorem MayP.fst {c : Nat → Int} (h : MayP c) : ∀ {k : Nat}, (k : Int) ≤ c 0 → 0 ≤ fstF c k ∧ fstF c k ≤ 128 * k
  | 0, _ => by simp [fstF]
  | k + 1, hk => by
    have := h.fst (k := k) (by omega)
    have := h.fr (i := k) (by omega)
    unfold fstF
    omega
theorem fstF_mono {c : Nat → Int} (h : MayP c) : ∀ {i k : Nat}, i ≤ k → (k : Int) ≤ c 0 → fstF c i ≤ fstF c k
  | i, 0, hi, _ => by have : i = 0 := by omega
                      subst this; exact Int.le_refl _
  | i, k + 1, hi, hk => by
    rcases Nat.lt_or_ge i (k + 1) with hlt | hge
    · have := fstF_mono h (i := i) (k := k) (by omega) (by omega)
      have := h.fr (i := k) (by omega)
      have e : fstF c (k + 1) = fstF c k + c (18 + k) := rfl
      omega
    · have : i = k + 1 := by omega
      subst this; exact Int.le_refl _
theorem first_spec (c : Nat → Int) (hm : MayP c) (w : World) (i : Nat) (hi : (i : Int) < c 0) : Calls Try.prog 53 #[cfgV c, .int .i64 (i : Int)] w fun r w' => r = .returned (.tuple #[.int .i64 (fstF c i), .int .i64 0]) ∧ Kept none' w w' := by
  refine (vc53 c i w (fun v w' => v = .tuple #[.int .i64 (fstF c i), .int .i64 0] ∧ Kept none' w w') ?_).mono ?_
  · have h0 := hm.1
    unfold vcP53
    intro w1 e1
    have o1 := own_alloc e1
    have k1 : Kept none' w w1 := (Kept.refl _ _).al e1
    generalize hb : w.heap.size = b at *
    refine ⟨c, o1.rIall, (may_spec c w1).mono ?_⟩
    rintro _ w2 ⟨mb, rfl, hmb, k2⟩
    have : mb = true := hmb.2 hm
    subst this
    have o2 := o1.k k2
    refine ⟨_, rfl, Wif_no rfl ⟨c 0, o2.rI (by omega), Wif_no ?_ (Wif_yes (okSl_of (by omega) (by omega) (by omega)) ?_)⟩⟩
    · rw [wi (by omega), decide_eq_true (show (i : Int) ≥ 0 by omega), decide_eq_true (show (i : Int) ≤ c 0 - 1 by omega)]; rfl
    refine ⟨fun s k w' N => ∃ q : Nat, k = q ∧ q ≤ i ∧ N = i - q ∧ Kept none' w w' ∧ own w' b (cfg c) ∧ s = fstF c q, ⟨i, 0, rfl, by omega, rfl, k1.tr k2, o2, rfl⟩, ?_⟩
    rintro _ _ w3 _ ⟨q, rfl, hq, rfl, k3, o3, rfl⟩
    refine Wif_intro (fun hc => ?_) (fun hc => ?_)
    · simp only [decide_eq_true_eq] at hc
      have f1 := hm.fst (k := q + 1) (by omega)
      refine Wif_yes (inB_of (by omega) (by omega)) ⟨c (18 + q), by rw [Int.toNat_natCast, Nat.mul_one]; exact o3.rI (by omega), i - (q + 1), by omega, q + 1, by rw [wi (by omega)]; rfl, by omega, rfl, k3, o3, ?_⟩
      have e : fstF c (q + 1) = fstF c q + c (18 + q) := rfl
      rw [← e, wi (by omega)]
    · have : q = i := by simp at hc; omega
      subst this
      exact ⟨rfl, k3⟩
  · rintro e w' ⟨v, rfl, rfl, hw⟩
    exact ⟨rfl, hw⟩
theorem node_spec (c : Nat → Int) (hm : MayP c) (w : World) (fr : Int) (hfr : fr ≤ 9223372036854775807) : Calls Try.prog 52 #[cfgV c, .int .i64 fr] w fun r w' => Kept none' w w' ∧
    ((∃ i : Nat, (i : Int) < c 0 ∧ fstF c i ≤ fr ∧ fr < fstF c (i + 1) ∧ r = .returned (.tuple #[.int .i64 (i : Int), .int .i64 0])) ∨ ((fr < 0 ∨ fstF c (c 0).toNat ≤ fr) ∧ r = .returned (.tuple #[.int .i64 0, .int .i64 7]))) := by
  refine (vc52 c fr w (fun v w' => Kept none' w w' ∧ ((∃ i : Nat, (i : Int) < c 0 ∧ fstF c i ≤ fr ∧ fr < fstF c (i + 1) ∧ v = (.tuple #[.int .i64 (i : Int), .int .i64 0])) ∨ ((fr < 0 ∨ fstF c (c 0).toNat ≤ fr) ∧ v = (.tuple #[.int .i64 0, .int .i64 7])))) ?_).mono ?_
  · have h0 := hm.1
    unfold vcP52
    intro w1 e1
    have o1 := own_alloc e1
    have k1 : Kept none' w w1 := (Kept.refl _ _).al e1
    generalize hb : w.heap.size = b at *
    refine ⟨c, o1.rIall, (may_spec c w1).mono ?_⟩
    rintro _ w2 ⟨mb, rfl, hmb, k2⟩
    have : mb = true := hmb.2 hm
    subst this
    have o2 := o1.k k2
    refine ⟨_, rfl, Wif_no rfl ?_⟩
    refine ⟨fun s _ _ k w' N => ∃ q : Nat, k = q ∧ (q : Int) ≤ c 0 ∧ N = (c 0).toNat - q ∧ Kept none' w w' ∧ own w' b (cfg c) ∧ s = fr - fstF c q ∧ (q = 0 ∨ 0 ≤ s), ⟨(c 0).toNat, 0, rfl, by omega, by omega, k1.tr k2, o2, by simp [fstF], .inl rfl⟩, ?_⟩
    rintro _ _ _ _ w3 _ ⟨q, rfl, hq, rfl, k3, o3, rfl, hs⟩
    have f0 := hm.fst (k := q) (by omega)
    refine ⟨c 0, fun _ => o3.rI (by omega), Wif_intro (fun hc => ?_) (fun hc => ?_)⟩
    · simp only [Bool.and_eq_true, decide_eq_true_eq] at hc
      have f1 := hm.fst (k := q + 1) (by omega)
      have f2 := hm.fr (i := q) (by omega)
      have e : fstF c (q + 1) = fstF c q + c (18 + q) := rfl
      have hrd : rd w3 b (18 + Int.toNat (q : Int) * 1) = some (.int .i64 (c (18 + q))) := by rw [Int.toNat_natCast, Nat.mul_one]; exact o3.rI (by omega)
      refine Wif_yes (inB_of (by omega) (by omega)) ⟨c (18 + q), hrd, Wif_intro (fun h => ?_) (fun h => ?_)⟩
      · simp only [decide_eq_true_eq] at h
        exact ⟨k3, .inl ⟨q, hc.2, by omega, by omega, rfl⟩⟩
      · simp only [decide_eq_false_iff_not] at h
        refine Wif_yes (inB_of (by omega) (by omega)) ⟨c (18 + q), hrd, (c 0).toNat - (q + 1), by omega, q + 1, by rw [wi (by omega)]; rfl, by omega, rfl, k3, o3, ?_, .inr ?_⟩
        · rw [wi (by omega)]; omega
        · rw [wi (by omega)]; omega
    · refine ⟨k3, .inr ⟨?_, rfl⟩⟩
      rcases hs with rfl | hs
      · simp [fstF] at hc
        rcases Int.lt_or_le fr 0 with h | h
        · exact .inl h
        · have := hc h
          omega
      · right
        rw [decide_eq_true (show fr - fstF c q ≥ 0 from hs)] at hc
        simp at hc
        have : q = (c 0).toNat := by omega
        subst this
        omega
  · rintro e w' ⟨v, rfl, hk, hw⟩
    refine ⟨hk, ?_⟩
    rcases hw with ⟨i, h1, h2, h3, rfl⟩ | ⟨h1, rfl⟩
    · exact .inl ⟨i, h1, h2, h3, rfl⟩
    · exact .inr ⟨h1, rfl⟩
/-- a frame is one node's -/
theorem node_one {c : Nat → Int} (h : MayP c) {i j : Nat} {fr : Int} (hi : (i : Int) < c 0) (hj : (j : Int) < c 0) (h1 : fstF c i ≤ fr) (h2 : fr < fstF c (i + 1)) (h3 : fstF c j ≤ fr) (h4 : fr < fstF c (j + 1)) : i = j := by
  rcases Nat.lt_trichotomy i j with hlt | heq | hgt
  · have := fstF_mono h (i := i + 1) (k := j) (by omega) (by omega); omega
  · exact heq
  · have := fstF_mono h (i := j + 1) (k := i) (by omega) (by omega); omega
end Go.Proofs.Ytkmcmkimeibjdaa
