/-
  A part of a proof that a law of this seat returns true at every input. Conditions: those in each theorem.
-/
import Derived.Test.YtklmokolnakkoaaGreatDoorZV1
namespace Go.Proofs.YtklmokolnakkoaaGreatDoor
open Go Eng
set_option linter.unusedSimpArgs false
set_option linter.unusedVariables false
set_option maxRecDepth 100000
def seg (P : Nat → Bool) : Nat → Nat → Bool
  | _, 0 => true
  | i, n + 1 => P i && seg P (i + 1) n
theorem seg_iff {P : Nat → Bool} : ∀ {i n : Nat}, seg P i n = true ↔ ∀ j, j < n → P (i + j) = true
  | i, 0 => ⟨fun _ j h => absurd h (Nat.not_lt_zero _), fun _ => rfl⟩
  | i, n + 1 => by
    simp only [seg, Bool.and_eq_true]
    rw [seg_iff]
    constructor
    · rintro ⟨h0, h⟩ j hj
      cases j with
      | zero => exact h0
      | succ j => rw [show i + (j + 1) = i + 1 + j by omega]; exact h j (by omega)
    · intro h
      exact ⟨h 0 (by omega), fun j hj => by rw [show i + 1 + j = i + (j + 1) by omega]; exact h (j + 1) (by omega)⟩
def chain94 (P : Nat → Bool) : Bool := P 0 && (P 1 && (P 2 && (P 3 && (P 4 && (P 5 && (P 6 && (P 7 && (P 8 && (P 9 && (P 10 && (P 11 && (P 12 && (P 13 && (P 14 && (P 15 && (P 16 && (P 17 && true))))))))))))))) && (P 18 && (P 19 && (P 20 && (P 21 && (P 22 && (P 23 && (P 24 && (P 25 && true))))))) && (P 26 && (P 27 && (P 28 && (P 29 && (P 30 && (P 31 && (P 32 && (P 33 && true))))))) && (P 34 && (P 35 && (P 36 && (P 37 && (P 38 && (P 39 && (P 40 && (P 41 && true))))))) && (P 42 && (P 43 && (P 44 && (P 45 && (P 46 && (P 47 && (P 48 && (P 49 && true))))))) && (P 50 && (P 51 && (P 52 && (P 53 && (P 54 && (P 55 && (P 56 && (P 57 && true))))))) && (P 58 && (P 59 && (P 60 && (P 61 && (P 62 && (P 63 && (P 64 && (P 65 && true))))))) && (P 66 && (P 67 && (P 68 && (P 69 && (P 70 && (P 71 && (P 72 && (P 73 && true))))))) && (P 74 && (P 75 && (P 76 && (P 77 && (P 78 && (P 79 && (P 80 && (P 81 && true))))))) && (P 82 && (P 83 && (P 84 && (P 85 && (P 86 && (P 87 && (P 88 && (P 89 && true))))))) && true))))))) && (P 90 && (P 91 && (P 92 && (P 93 && true))))))))
theorem chain94_eq (P : Nat → Bool) : chain94 P = (P 0 && (P 1 && (seg P 2 16 && (seg P 18 8 && ((seg P 26 8 && (seg P 34 8 && (seg P 42 8 && (seg P 50 8 && (seg P 58 8 && (seg P 66 8 && (seg P 74 8 && (seg P 82 8 && true)))))))) && seg P 90 4))))) := rfl
theorem chain94_iff (P : Nat → Bool) : chain94 P = true ↔ ∀ i, i < 94 → P i = true := by
  rw [chain94_eq]
  simp only [Bool.and_eq_true, seg_iff]
  constructor
  · rintro ⟨h0, h1, h2, h3, ⟨h4, h5, h6, h7, h8, h9, h10, h11, -⟩, h12⟩ i hi
    have go : ∀ o n, (∀ j, j < n → P (o + j) = true) → o ≤ i → i < o + n → P i = true := fun o n h ho hn => by
      have := h (i - o) (by omega)
      rw [show o + (i - o) = i by omega] at this
      exact this
    by_cases e0 : i = 0
    · subst e0; exact h0
    by_cases e1 : i = 1
    · subst e1; exact h1
    by_cases e2 : i < 18
    · exact go _ _ h2 (by omega) (by omega)
    by_cases e3 : i < 26
    · exact go _ _ h3 (by omega) (by omega)
    by_cases e4 : i < 34
    · exact go _ _ h4 (by omega) (by omega)
    by_cases e5 : i < 42
    · exact go _ _ h5 (by omega) (by omega)
    by_cases e6 : i < 50
    · exact go _ _ h6 (by omega) (by omega)
    by_cases e7 : i < 58
    · exact go _ _ h7 (by omega) (by omega)
    by_cases e8 : i < 66
    · exact go _ _ h8 (by omega) (by omega)
    by_cases e9 : i < 74
    · exact go _ _ h9 (by omega) (by omega)
    by_cases e10 : i < 82
    · exact go _ _ h10 (by omega) (by omega)
    by_cases e11 : i < 90
    · exact go _ _ h11 (by omega) (by omega)
    · exact go _ _ h12 (by omega) (by omega)
  · intro h
    exact ⟨h 0 (by omega), h 1 (by omega), fun j hj => h _ (by omega), fun j hj => h _ (by omega), ⟨fun j hj => h _ (by omega), fun j hj => h _ (by omega), fun j hj => h _ (by omega), fun j hj => h _ (by omega), fun j hj => h _ (by omega), fun j hj => h _ (by omega), fun j hj => h _ (by omega), fun j hj => h _ (by omega), trivial⟩, fun j hj => h _ (by omega)⟩
def dst (c : Nat → Int) (i k : Nat) : Int := c (26 + i * 8 + k)
def nearO (c : Nat → Int) (i k : Nat) : Prop := (dst c i k = 0 ↔ i = k) ∧ (0 ≤ dst c i k ∧ dst c i k ≤ 255) ∧ dst c i k = dst c k i
def NearP (c : Nat → Int) : Prop := ∀ i k : Nat, i < (c 0).toNat → k < (c 0).toNat → nearO c i k
theorem near_spec (c : Nat → Int) (w : World) (h0 : 0 ≤ c 0 ∧ c 0 ≤ 8) : Calls Tryz.prog 115 #[cfgV c] w fun r w' => ∃ b, r = .returned (.bool b) ∧ (b = true ↔ NearP c) ∧ Kept none' w w' := by
  refine (vc115 c w (fun v w' => ∃ b, v = .bool b ∧ (b = true ↔ NearP c) ∧ Kept none' w w') ?_).mono ?_
  · unfold vcP115
    intro w1 e1
    have o1 := own_alloc e1
    have k1 : Kept none' w w1 := (Kept.refl _ _).al e1
    generalize hb : w.heap.size = b at *
    have no : ∀ w', ¬ NearP c → Kept none' w w' → ∃ b, Value.bool false = .bool b ∧ (b = true ↔ NearP c) ∧ Kept none' w w' := fun w' h k => ⟨false, rfl, by simpa using h, k⟩
    refine ⟨c 0, o1.rI (j := 0) (by omega), ?_⟩
    refine ⟨fun _ k w' N => ∃ q : Nat, k = q ∧ q ≤ (c 0).toNat ∧ N = (c 0).toNat - q ∧ Kept none' w w' ∧ own w' b (cfg c) ∧ ∀ i, i < q → ∀ k, k < (c 0).toNat → nearO c i k, ⟨(c 0).toNat, 0, rfl, by omega, rfl, k1, o1, fun i hi => by omega⟩, ?_⟩
    rintro _ _ w2 _ ⟨q, rfl, hq, rfl, k2, o2, a2⟩
    refine Wif_intro (fun hc => ?_) (fun hc => ?_)
    · simp only [decide_eq_true_eq] at hc
      refine ⟨c 0, o2.rI (j := 0) (by omega), ?_⟩
      refine ⟨fun _ k w' N => ∃ q2 : Nat, k = q2 ∧ q2 ≤ (c 0).toNat ∧ N = (c 0).toNat - q2 ∧ Kept none' w w' ∧ own w' b (cfg c) ∧ ∀ k, k < q2 → nearO c q k, ⟨(c 0).toNat, 0, rfl, by omega, rfl, k2, o2, fun i hi => by omega⟩, ?_⟩
      rintro _ _ w3 _ ⟨q2, rfl, hq2, rfl, k3, o3, a3⟩
      refine Wif_intro (fun hc2 => ?_) (fun hc2 => ?_)
      · simp only [decide_eq_true_eq] at hc2
        have eB : ∀ {x y : Prop}, Wif (inB (q : Int) 8) x y = x := by intro x y; rw [inB_of (by omega) (by omega)]; rfl
        have eB2 : ∀ {x y : Prop}, Wif (inB (q2 : Int) 8) x y = x := by intro x y; rw [inB_of (by omega) (by omega)]; rfl
        simp only [eB, eB2, Int.toNat_natCast]
        refine ⟨dst c q q2, by rw [Nat.mul_one]; exact o3.rI (by omega), Wif_intro (fun h => ?_) (fun h => ?_)⟩
        · refine no _ (fun hn => ?_) k3
          have := (hn q q2 (by omega) (by omega)).1
          by_cases e : dst c q q2 = 0
          · have e' := this.1 e
            subst e'
            simp [e] at h
          · have e' : (q : Int) ≠ (q2 : Int) := fun x => e (this.2 (by omega))
            rw [show (dst c q q2 == 0) = false by simpa using e, show ((q : Int) == (q2 : Int)) = false by simpa using e'] at h
            cases h
        refine gIf_intro (fun _ => inB_of (by omega) (by omega)) (gIf_intro (fun _ => inB_of (by omega) (by omega)) ?_)
        refine ⟨dst c q2 q, fun _ => by rw [Nat.mul_one]; exact o3.rI (by omega), Wif_intro (fun h2 => ?_) (fun h2 => ?_)⟩
        · refine no _ (fun hn => ?_) k3
          obtain ⟨_, h5, h6⟩ := hn q q2 (by omega) (by omega)
          rw [← h6, decide_eq_true (show dst c q q2 ≥ 0 from h5.1), decide_eq_true h5.2] at h2
          simp at h2
        · refine ⟨(c 0).toNat - (q2 + 1), by omega, q2 + 1, by rw [wi (by omega)]; rfl, by omega, rfl, k3, o3, fun k hk => ?_⟩
          rcases Nat.lt_or_ge k q2 with hlt | hge
          · exact a3 k hlt
          · have : k = q2 := by omega
            subst this
            simp at h2
            refine ⟨?_, by omega, h2.2⟩
            have hb : ((dst c q k == 0) == ((q : Int) == (k : Int))) = true := by
              rw [← Bool.not_eq_false']; exact h
            by_cases e : dst c q k = 0
            · rw [show (dst c q k == 0) = true by simpa using e] at hb
              have : (q : Int) = (k : Int) := by simpa using hb
              exact ⟨fun _ => by omega, fun _ => e⟩
            · rw [show (dst c q k == 0) = false by simpa using e] at hb
              have : (q : Int) ≠ (k : Int) := by simpa using hb
              exact ⟨fun h' => absurd h' e, fun h' => absurd (congrArg Nat.cast h') this⟩
      · simp at hc2
        refine ⟨(c 0).toNat - (q + 1), by omega, q + 1, by rw [wi (by omega)]; rfl, by omega, rfl, k3, o3, fun i hi k hk => ?_⟩
        rcases Nat.lt_or_ge i q with hlt | hge
        · exact a2 i hlt k hk
        · have : i = q := by omega
          subst this
          exact a3 k (by omega)
    · simp at hc
      exact ⟨true, rfl, by simp; exact fun i k hi hk => a2 i (by omega) k hk, k2⟩
  · rintro e w' ⟨v, rfl, b, rfl, hw⟩
    exact ⟨b, rfl, hw⟩
def MayP (c : Nat → Int) : Prop :=
  (1 ≤ c 0 ∧ c 0 ≤ 8) ∧ (1 ≤ c 1 ∧ c 1 ≤ 16) ∧ (0 ≤ c 90 ∧ c 90 ≤ 1024) ∧ (∀ i, i < 94 → c i = bareF c i) ∧ (∀ i, i < (c 1).toNat → 0 ≤ c (2 + i) ∧ c (2 + i) ≤ c 0 - 1) ∧
  (∀ i, i < (c 0).toNat → (4 ≤ c (18 + i) ∧ c (18 + i) ≤ 128) ∧ c 93 ≤ c (18 + i)) ∧ NearP c ∧ 0 ≤ c 91 ∧ c 91 ≤ c 92 ∧ c 92 ≤ c 93
theorem may_spec (c : Nat → Int) (w : World) : Calls Tryz.prog 32 #[cfgV c] w fun r w' => ∃ b, r = .returned (.bool b) ∧ (b = true ↔ MayP c) ∧ Kept none' w w' := by
  refine (vc32 c w (fun v w' => ∃ b, v = .bool b ∧ (b = true ↔ MayP c) ∧ Kept none' w w') ?_).mono ?_
  · unfold vcP32
    intro w1 e1
    have o1 := own_alloc e1
    have k1 : Kept none' w w1 := (Kept.refl _ _).al e1
    generalize hb : w.heap.size = b at *
    intro w2 e2
    have o2 := o1.dr e2
    have k2 := k1.dr e2
    have no : ∀ w', ¬ MayP c → Kept none' w w' → ∃ b, Value.bool false = .bool b ∧ (b = true ↔ MayP c) ∧ Kept none' w w' := fun w' h k => ⟨false, rfl, by simpa using h, k⟩
    refine ⟨c 0, o2.rI (by omega), c 1, fun _ => o2.rI (by omega), Wif_intro (fun h => ?_) (fun h => ?_)⟩
    · refine no _ (fun hm => ?_) k2
      have := hm.1
      simp at h; omega
    have h0 : 1 ≤ c 0 ∧ c 0 ≤ 8 := by simpa using h
    refine ⟨c 90, fun _ => o2.rI (by omega), Wif_intro (fun h => ?_) (fun h => ?_)⟩
    · refine no _ (fun hm => ?_) k2
      have := hm.2.1
      simp at h; omega
    have h1 : 1 ≤ c 1 ∧ c 1 ≤ 16 := by simpa using h
    refine ⟨c, fun _ => o2.rIall, c, fun _ => o2.rIall, Wif_intro (fun h => ?_) (fun h => ?_)⟩
    · refine ⟨fun _ => ⟨o2.rIall, trivial⟩, no _ (fun hm => ?_) k2⟩
      have := hm.2.2.1
      simp at h; omega
    have h2 : 0 ≤ c 90 ∧ c 90 ≤ 1024 := by simpa using h
    refine (bare_spec c w2 (by omega) (by omega)).mono ?_
    rintro _ w3 ⟨rfl, k3⟩
    have o3 := o2.k k3
    have K3 := k2.tr k3
    refine ⟨bareF c, rfl, fun _ => ⟨o3.rIall, trivial⟩, Wif_intro (fun h => ?_) (fun h => ?_)⟩
    · refine no _ (fun hm => ?_) K3
      have h' : (!(chain94 fun i => c i == bareF c i)) = true := h
      rw [(chain94_iff _).2 fun i hi => by simpa using hm.2.2.2.1 i hi] at h'
      cases h'
    have h3 : ∀ i, i < 94 → c i = bareF c i := by
      have h' : (!(chain94 fun i => c i == bareF c i)) = false := h
      rw [Bool.not_eq_false'] at h'
      intro i hi
      simpa using (chain94_iff _).1 h' i hi
    clear h
    refine ⟨c 1, o3.rI (by omega), Wif_yes (okSl_of (by omega) (by omega) (by omega)) ?_⟩
    refine ⟨fun _ k w' N => ∃ q : Nat, k = q ∧ q ≤ (c 1).toNat ∧ N = (c 1).toNat - q ∧ Kept none' w w' ∧ own w' b (cfg c) ∧ ∀ i, i < q → 0 ≤ c (2 + i) ∧ c (2 + i) ≤ c 0 - 1, ⟨(c 1).toNat, 0, rfl, by omega, rfl, K3, o3, fun i hi => by omega⟩, ?_⟩
    rintro _ _ w4 _ ⟨q, rfl, hq, rfl, k4, o4, a4⟩
    refine Wif_intro (fun hc => ?_) (fun hc => ?_)
    · simp only [decide_eq_true_eq] at hc
      refine Wif_yes (inB_of (by omega) (by omega)) ⟨c (2 + q), by rw [Int.toNat_natCast, Nat.mul_one]; exact o4.rI (by omega), c 0, o4.rI (by omega), Wif_intro (fun h => ?_) (fun h => ?_)⟩
      · refine no _ (fun hm => ?_) k4
        have := hm.2.2.2.2.1 q (by omega)
        rw [wi (by omega)] at h
        simp at h; omega
      · rw [wi (by omega)] at h
        refine ⟨(c 1).toNat - (q + 1), by omega, q + 1, by rw [wi (by omega)]; rfl, by omega, rfl, k4, o4, fun i hi => ?_⟩
        rcases Nat.lt_or_ge i q with hlt | hge
        · exact a4 i hlt
        · have : i = q := by omega
          subst this
          simpa using h
    have hqe : q = (c 1).toNat := by simp at hc; omega
    subst hqe
    refine ⟨c 0, o4.rI (by omega), Wif_yes (okSl_of (by omega) (by omega) (by omega)) ?_⟩
    refine ⟨fun _ k w' N => ∃ q : Nat, k = q ∧ q ≤ (c 0).toNat ∧ N = (c 0).toNat - q ∧ Kept none' w w' ∧ own w' b (cfg c) ∧ ∀ i, i < q → (4 ≤ c (18 + i) ∧ c (18 + i) ≤ 128) ∧ c 93 ≤ c (18 + i), ⟨(c 0).toNat, 0, rfl, by omega, rfl, k4, o4, fun i hi => by omega⟩, ?_⟩
    rintro _ _ w5 _ ⟨q, rfl, hq, rfl, k5, o5, a5⟩
    refine Wif_intro (fun hc => ?_) (fun hc => ?_)
    · simp only [decide_eq_true_eq] at hc
      refine Wif_yes (inB_of (by omega) (by omega)) ⟨c (18 + q), by rw [Int.toNat_natCast, Nat.mul_one]; exact o5.rI (by omega), c 93, fun _ => o5.rI (by omega), Wif_intro (fun h => ?_) (fun h => ?_)⟩
      · refine no _ (fun hm => ?_) k5
        have := hm.2.2.2.2.2.1 q (by omega)
        simp at h; omega
      · refine ⟨(c 0).toNat - (q + 1), by omega, q + 1, by rw [wi (by omega)]; rfl, by omega, rfl, k5, o5, fun i hi => ?_⟩
        rcases Nat.lt_or_ge i q with hlt | hge
        · exact a5 i hlt
        · have : i = q := by omega
          subst this
          simp at h; omega
    have hqe : q = (c 0).toNat := by simp at hc; omega
    subst hqe
    refine ⟨c, o5.rIall, (near_spec c w5 (by omega)).mono ?_⟩
    rintro _ w6 ⟨nb, rfl, hnb, k6⟩
    have o6 := o5.k k6
    refine ⟨nb, rfl, c 91, fun _ => o6.rI (by omega), c 91, fun _ => o6.rI (by omega), c 92, fun _ => o6.rI (by omega), c 92, fun _ => o6.rI (by omega), c 93, fun _ => o6.rI (by omega), _, rfl, ?_, k5.tr k6⟩
    simp only [Bool.and_eq_true, decide_eq_true_eq, hnb]
    constructor
    · rintro ⟨⟨⟨g1, g2⟩, g3⟩, g4⟩
      exact ⟨h0, h1, h2, h3, a4, a5, g1, g2, g3, g4⟩
    · rintro ⟨_, _, _, _, _, _, g1, g2, g3, g4⟩
      exact ⟨⟨⟨g1, g2⟩, g3⟩, g4⟩
  · rintro e w' ⟨v, rfl, b, rfl, hw⟩
    exact ⟨b, rfl, hw⟩
end Go.Proofs.YtklmokolnakkoaaGreatDoor
namespace Go.Proofs.YtklmokolnakkoaaGreatDoor
open Go Eng
set_option linter.unusedSimpArgs false
set_option linter.unusedVariables false
set_option maxRecDepth 100000
def fstF (c : Nat → Int) : Nat → Int
  | 0 => 0
  | k + 1 => fstF c k + c (18 + k)
theorem MayP.fr {c : Nat → Int} (h : MayP c) {i : Nat} (hi : (i : Int) < c 0) : 4 ≤ c (18 + i) ∧ c (18 + i) ≤ 128 := (h.2.2.2.2.2.1 i (by omega)).1
theorem MayP.fst {c : Nat → Int} (h : MayP c) : ∀ {k : Nat}, (k : Int) ≤ c 0 → 0 ≤ fstF c k ∧ fstF c k ≤ 128 * k
  | 0, _ => by simp [fstF]
  | k + 1, hk => by
    have := h.fst (k := k) (by omega)
    have := h.fr (i := k) (by omega)
    unfold fstF
    omega
theorem fstF_mono {c : Nat → Int} (h : MayP c) : ∀ {i k : Nat}, i ≤ k → (k : Int) ≤ c 0 → fstF c i ≤ fstF c k
  | i, 0, hi, _ => by have : i = 0 := by omega
                      subst this; exact Int.le_refl _
  | i, k + 1, hi, hk => by
    rcases Nat.lt_or_ge i (k + 1) with hlt | hge
    · have := fstF_mono h (i := i) (k := k) (by omega) (by omega)
      have := h.fr (i := k) (by omega)
      have e : fstF c (k + 1) = fstF c k + c (18 + k) := rfl
      omega
    · have : i = k + 1 := by omega
      subst this; exact Int.le_refl _
theorem first_spec (c : Nat → Int) (hm : MayP c) (w : World) (i : Nat) (hi : (i : Int) < c 0) : Calls Tryz.prog 145 #[cfgV c, .int .i64 (i : Int)] w fun r w' => r = .returned (.tuple #[.int .i64 (fstF c i), .int .i64 0]) ∧ Kept none' w w' := by
  refine (vc145 c i w (fun v w' => v = .tuple #[.int .i64 (fstF c i), .int .i64 0] ∧ Kept none' w w') ?_).mono ?_
  · have h0 := hm.1
    unfold vcP145
    intro w1 e1
    have o1 := own_alloc e1
    have k1 : Kept none' w w1 := (Kept.refl _ _).al e1
    generalize hb : w.heap.size = b at *
    refine ⟨c, o1.rIall, (may_spec c w1).mono ?_⟩
    rintro _ w2 ⟨mb, rfl, hmb, k2⟩
    have : mb = true := hmb.2 hm
    subst this
    have o2 := o1.k k2
    refine ⟨_, rfl, Wif_no rfl ⟨c 0, o2.rI (by omega), Wif_no ?_ (Wif_yes (okSl_of (by omega) (by omega) (by omega)) ?_)⟩⟩
    · rw [wi (by omega), decide_eq_true (show (i : Int) ≥ 0 by omega), decide_eq_true (show (i : Int) ≤ c 0 - 1 by omega)]; rfl
    refine ⟨fun s k w' N => ∃ q : Nat, k = q ∧ q ≤ i ∧ N = i - q ∧ Kept none' w w' ∧ own w' b (cfg c) ∧ s = fstF c q, ⟨i, 0, rfl, by omega, rfl, k1.tr k2, o2, rfl⟩, ?_⟩
    rintro _ _ w3 _ ⟨q, rfl, hq, rfl, k3, o3, rfl⟩
    refine Wif_intro (fun hc => ?_) (fun hc => ?_)
    · simp only [decide_eq_true_eq] at hc
      have f1 := hm.fst (k := q + 1) (by omega)
      refine Wif_yes (inB_of (by omega) (by omega)) ⟨c (18 + q), by rw [Int.toNat_natCast, Nat.mul_one]; exact o3.rI (by omega), i - (q + 1), by omega, q + 1, by rw [wi (by omega)]; rfl, by omega, rfl, k3, o3, ?_⟩
      have e : fstF c (q + 1) = fstF c q + c (18 + q) := rfl
      rw [← e, wi (by omega)]
    · have : q = i := by simp at hc; omega
      subst this
      exact ⟨rfl, k3⟩
  · rintro e w' ⟨v, rfl, rfl, hw⟩
    exact ⟨rfl, hw⟩
theorem node_spec (c : Nat → Int) (hm : MayP c) (w : World) (fr : Int) (hfr : fr ≤ 9223372036854775807) : Calls Tryz.prog 160 #[cfgV c, .int .i64 fr] w fun r w' => Kept none' w w' ∧
    ((∃ i : Nat, (i : Int) < c 0 ∧ fstF c i ≤ fr ∧ fr < fstF c (i + 1) ∧ r = .returned (.tuple #[.int .i64 (i : Int), .int .i64 0])) ∨ ((fr < 0 ∨ fstF c (c 0).toNat ≤ fr) ∧ r = .returned (.tuple #[.int .i64 0, .int .i64 7]))) := by
  refine (vc160 c fr w (fun v w' => Kept none' w w' ∧ ((∃ i : Nat, (i : Int) < c 0 ∧ fstF c i ≤ fr ∧ fr < fstF c (i + 1) ∧ v = (.tuple #[.int .i64 (i : Int), .int .i64 0])) ∨ ((fr < 0 ∨ fstF c (c 0).toNat ≤ fr) ∧ v = (.tuple #[.int .i64 0, .int .i64 7])))) ?_).mono ?_
  · have h0 := hm.1
    unfold vcP160
    intro w1 e1
    have o1 := own_alloc e1
    have k1 : Kept none' w w1 := (Kept.refl _ _).al e1
    generalize hb : w.heap.size = b at *
    refine ⟨c, o1.rIall, (may_spec c w1).mono ?_⟩
    rintro _ w2 ⟨mb, rfl, hmb, k2⟩
    have : mb = true := hmb.2 hm
    subst this
    have o2 := o1.k k2
    refine ⟨_, rfl, Wif_no rfl ?_⟩
    refine ⟨fun s _ _ k w' N => ∃ q : Nat, k = q ∧ (q : Int) ≤ c 0 ∧ N = (c 0).toNat - q ∧ Kept none' w w' ∧ own w' b (cfg c) ∧ s = fr - fstF c q ∧ (q = 0 ∨ 0 ≤ s), ⟨(c 0).toNat, 0, rfl, by omega, by omega, k1.tr k2, o2, by simp [fstF], .inl rfl⟩, ?_⟩
    rintro _ _ _ _ w3 _ ⟨q, rfl, hq, rfl, k3, o3, rfl, hs⟩
    have f0 := hm.fst (k := q) (by omega)
    refine ⟨c 0, fun _ => o3.rI (by omega), Wif_intro (fun hc => ?_) (fun hc => ?_)⟩
    · simp only [Bool.and_eq_true, decide_eq_true_eq] at hc
      have f1 := hm.fst (k := q + 1) (by omega)
      have f2 := hm.fr (i := q) (by omega)
      have e : fstF c (q + 1) = fstF c q + c (18 + q) := rfl
      have hrd : rd w3 b (18 + Int.toNat (q : Int) * 1) = some (.int .i64 (c (18 + q))) := by rw [Int.toNat_natCast, Nat.mul_one]; exact o3.rI (by omega)
      refine Wif_yes (inB_of (by omega) (by omega)) ⟨c (18 + q), hrd, Wif_intro (fun h => ?_) (fun h => ?_)⟩
      · simp only [decide_eq_true_eq] at h
        exact ⟨k3, .inl ⟨q, hc.2, by omega, by omega, rfl⟩⟩
      · simp only [decide_eq_false_iff_not] at h
        refine Wif_yes (inB_of (by omega) (by omega)) ⟨c (18 + q), hrd, (c 0).toNat - (q + 1), by omega, q + 1, by rw [wi (by omega)]; rfl, by omega, rfl, k3, o3, ?_, .inr ?_⟩
        · rw [wi (by omega)]; omega
        · rw [wi (by omega)]; omega
    · refine ⟨k3, .inr ⟨?_, rfl⟩⟩
      rcases hs with rfl | hs
      · simp [fstF] at hc
        rcases Int.lt_or_le fr 0 with h | h
        · exact .inl h
        · have := hc h
          omega
      · right
        rw [decide_eq_true (show fr - fstF c q ≥ 0 from hs)] at hc
        simp at hc
        have : q = (c 0).toNat := by omega
        subst this
        omega
  · rintro e w' ⟨v, rfl, hk, hw⟩
    refine ⟨hk, ?_⟩
    rcases hw with ⟨i, h1, h2, h3, rfl⟩ | ⟨h1, rfl⟩
    · exact .inl ⟨i, h1, h2, h3, rfl⟩
    · exact .inr ⟨h1, rfl⟩
theorem node_one {c : Nat → Int} (h : MayP c) {i j : Nat} {fr : Int} (hi : (i : Int) < c 0) (hj : (j : Int) < c 0) (h1 : fstF c i ≤ fr) (h2 : fr < fstF c (i + 1)) (h3 : fstF c j ≤ fr) (h4 : fr < fstF c (j + 1)) : i = j := by
  rcases Nat.lt_trichotomy i j with hlt | heq | hgt
  · have := fstF_mono h (i := i + 1) (k := j) (by omega) (by omega); omega
  · exact heq
  · have := fstF_mono h (i := j + 1) (k := i) (by omega) (by omega); omega
end Go.Proofs.YtklmokolnakkoaaGreatDoor
