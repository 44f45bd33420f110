/-
  A part of a proof that a law of this seat returns true at every input. Conditions: those in each theorem.
-/
import Derived.Test.YtkmcmkimeibjdaaBQA
namespace Go.Proofs.Ytkmcmkimeibjdaa
open Go Eng
set_option linter.unusedSimpArgs false
set_option linter.unusedVariables false
set_option maxRecDepth 100000
/-! ### the document's zones.Take -/
section
variable {w w' : World} {y z : Nat} {R : Rz} {L : Nat → List Bk} {T : Nat → List (Nat × Nat)}
def RTakeR (w w' : World) (y : Nat) (R : Rz) (L : Nat → List Bk) (T : Nat → List (Nat × Nat)) (len : Nat) (nf : Nat → Int) (floor : Int) (high : Bool) (v : Value) : Prop :=
  (((∃ i, i < len ∧ (nf i < 0 ∨ (R.k : Int) ≤ nf i)) ∨ floor < 0) ∧ v = .tuple #[.int .i64 0, .int .i64 2] ∧ Kept none' w w') ∨
  ((∀ i, i < len → 0 ≤ nf i ∧ nf i < (R.k : Int)) ∧ 0 ≤ floor ∧ (∀ i, i < len → (rfr R.k L (nf i) : Int) ≤ floor) ∧ v = .tuple #[.int .i64 0, .int .i64 6] ∧ Kept none' w w') ∨
  ((∀ i, i < len → 0 ≤ nf i ∧ nf i < (R.k : Int)) ∧ 0 ≤ floor ∧ ∃ (j i : Nat), j < len ∧ nf j = (i : Int) ∧ i < R.k ∧ floor < (fsum (L i) : Int) ∧ (∀ j', j' < j → (rfr R.k L (nf j') : Int) ≤ floor) ∧
    ∃ a l' T', v = .tuple #[.int .i64 (fstF R.c i + a), .int .i64 0] ∧ Kept (· = R.rb i) w w' ∧ RZ w' y R (upd L i l') (upd T i T') ∧ Inv (R.n i) l' ∧ Tks l' T' ∧ T'.length ≤ (T i).length + 1 ∧ TakeR (L i) 0 high a 0 l')
theorem rfr_in {k : Nat} {L : Nat → List Bk} {i : Nat} (hi : i < k) : rfr k L (i : Int) = fsum (L i) := by unfold rfr; rw [if_pos (by omega), Int.toNat_natCast]
theorem rztake_spec (h : RZ w y R L T) (hv : ∀ i, i < R.k → Inv (R.n i) (L i)) (ht : ∀ i, i < R.k → Tks (L i) (T i)) (hT : ∀ i, i < R.k → (T i).length ≤ 800) {nodes : Option Addr} {len cap : Nat} {nf : Nat → Int} (hlen : len ≤ 1000000) (hP : 0 < len → isP nodes = true) (hr : ∀ i, i < len → rd w (pb nodes) (po nodes + i) = some (.int .i64 (nf i))) (floor : Int) (high : Bool) :
    Calls Try.prog 39 #[ptr y, .slice nodes len cap, .int .i64 floor, .bool high] w fun r w' => ∃ v, r = .returned v ∧ RTakeR w w' y R L T len nf floor high v := by
  refine vc39 _ _ _ _ _ _ w (fun v w' => RTakeR w w' y R L T len nf floor high v) ?_
  unfold vcP39
  refine ⟨fun _ _ k w' N => ∃ q : Nat, k = q ∧ q ≤ len ∧ N = len - q ∧ Kept none' w w' ∧ ∀ i, i < q → 0 ≤ nf i ∧ nf i < (R.k : Int), ⟨len, 0, rfl, by omega, rfl, Kept.refl _ _, fun i hi => absurd hi (Nat.not_lt_zero _)⟩, ?_⟩
  rintro _ _ _ w1 _ ⟨q, rfl, hq, rfl, k1, hvq⟩
  refine Wif_intro (fun hc => ?_) (fun hc => ?_)
  · simp only [decide_eq_true_eq] at hc
    intro w2 e2
    have k12 : Kept none' w1 w2 := (Kept.refl _ _).dr e2
    have k2 := k1.tr k12
    have h2 := h.k' k2
    have hrq : rd w2 (pb nodes) (po nodes + Int.toNat (q : Int) * 1) = some (.int .i64 (nf q)) := by rw [Int.toNat_natCast, Nat.mul_one]; exact k2.rd_some (hr q (by omega)) id
    have hPP := hP (by omega)
    have eB : inB (q : Int) len = true := inB_of (by omega) (by omega)
    refine Wif_yes hPP (Wif_yes eB ⟨nf q, hrq, gIf_intro (fun _ => hPP) (gIf_intro (fun _ => eB) ⟨nf q, fun _ => hrq, ?_⟩)⟩)
    simp only [isP_some, Wif_true, gIf_true, pb_some, po_some, Nat.zero_add]
    refine ⟨_, _, _, fun _ => h2.r94, Wif_intro (fun hc2 => ?_) (fun hc2 => ?_)⟩
    · exact .inl ⟨.inl ⟨q, by omega, by simp at hc2; omega⟩, by first | rfl | trivial, k2⟩
    · refine ⟨len - (q + 1), by omega, q + 1, by rw [wi (by omega)]; rfl, by omega, rfl, k2, fun i hi => ?_⟩
      rcases Nat.lt_or_ge i q with hlt | hge
      · exact hvq i hlt
      · have : i = q := by omega
        subst this
        simp at hc2; omega
  have hql : q = len := by simp at hc; omega
  subst hql
  refine Wif_intro (fun hc2 => ?_) (fun hc2 => ?_)
  · exact .inl ⟨.inr (by simpa using hc2), rfl, k1⟩
  have hfl : 0 ≤ floor := by simp at hc2; omega
  have h1 := h.k' k1
  refine ⟨fun _ _ k w' N => ∃ p : Nat, k = p ∧ p ≤ q ∧ N = q - p ∧ w' = w1 ∧ ∀ i, i < p → (rfr R.k L (nf i) : Int) ≤ floor, ⟨q, 0, rfl, by omega, rfl, rfl, fun i hi => absurd hi (Nat.not_lt_zero _)⟩, ?_⟩
  rintro _ _ _ wq _ ⟨p, rfl, hp, rfl, hwq, hlow⟩
  rw [hwq]
  clear hwq wq
  refine Wif_intro (fun hc3 => ?_) (fun hc3 => ?_)
  · simp only [decide_eq_true_eq] at hc3
    have hrp : rd w1 (pb nodes) (po nodes + Int.toNat (p : Int) * 1) = some (.int .i64 (nf p)) := by rw [Int.toNat_natCast, Nat.mul_one]; exact k1.rd_some (hr p (by omega)) id
    have hPP := hP (by omega)
    have eB : inB (p : Int) q = true := inB_of (by omega) (by omega)
    refine Wif_yes hPP (Wif_yes eB ⟨nf p, hrp, (rfree_spec h1 hv (nf p)).mono ?_⟩)
    rintro _ wq ⟨rfl, hwq⟩
    rw [hwq]
    clear hwq wq
    refine ⟨_, rfl, Wif_intro (fun hc4 => ?_) (fun hc4 => ?_)⟩
    · simp only [decide_eq_true_eq] at hc4
      have hvp := hvq p (by omega)
      obtain ⟨i, hi⟩ : ∃ i : Nat, nf p = (i : Int) := ⟨(nf p).toNat, by omega⟩
      have hik : i < R.k := by omega
      rw [hi, rfr_in hik] at hc4
      refine Wif_yes hPP (Wif_yes eB ⟨nf p, hrp, ?_⟩)
      rw [hi]
      refine (rtakeOf_spec h1 hik (hv i hik) (ht i hik) (hT i hik) 0 high).mono ?_
      rintro _ w2 ⟨a, e, l', T', rfl, k2, z2, i2, t2, hl2, r2⟩
      have he := takeR_ok r2 (by omega)
      subst he
      rw [if_pos rfl]
      exact ⟨_, _, rfl, .inr (.inr ⟨hvq, hfl, p, i, by omega, hi, hik, by omega, hlow, a, l', T', rfl, (k1.mono fun _ _ h => h.elim).trans k2 fun _ _ h => h, z2, i2, t2, hl2, r2⟩)⟩
    · simp only [decide_eq_false_iff_not] at hc4
      refine ⟨q - (p + 1), by omega, p + 1, by rw [wi (by omega)]; rfl, by omega, rfl, rfl, fun i hi => ?_⟩
      rcases Nat.lt_or_ge i p with hlt | hge
      · exact hlow i hlt
      · have : i = p := by omega
        subst this; omega
  · have hpq : p = q := by simp at hc3; omega
    subst hpq
    exact .inr (.inl ⟨hvq, hfl, hlow, rfl, k1⟩)
end
end Go.Proofs.Ytkmcmkimeibjdaa
namespace Go.Proofs.Ytkmcmkimeibjdaa
open Go Eng
set_option linter.unusedSimpArgs false
set_option linter.unusedVariables false
set_option maxRecDepth 100000
/-! ### the document's May, Frames, New -/
def RP1 (c : Nat → Int) (i : Nat) : Prop := ((i : Int) < c 1 → 0 ≤ c (2 + i) ∧ c (2 + i) < c 0) ∧ (c 1 ≤ (i : Int) → c (2 + i) = 0)
def RP2 (c : Nat → Int) (i : Nat) : Prop := ((i : Int) < c 0 → 4 ≤ c (18 + i) ∧ c (18 + i) ≤ 128 ∧ c 93 ≤ c (18 + i)) ∧ (c 0 ≤ (i : Int) → c (18 + i) = 0)
def RP3 (c : Nat → Int) (i k : Nat) : Prop := ((c 0 ≤ (i : Int) ∨ c 0 ≤ (k : Int) ∨ i = k) → c (26 + i * 8 + k) = 0) ∧ ((i : Int) < c 0 ∧ (k : Int) < c 0 ∧ i ≠ k → 1 ≤ c (26 + i * 8 + k) ∧ c (26 + i * 8 + k) ≤ 255 ∧ c (26 + i * 8 + k) = c (26 + k * 8 + i))
def RP0 (c : Nat → Int) : Prop := (1 ≤ c 0 ∧ c 0 ≤ 8) ∧ (1 ≤ c 1 ∧ c 1 ≤ 16) ∧ (0 ≤ c 90 ∧ c 90 ≤ 1024)
def RPM (c : Nat → Int) : Prop := RP0 c ∧ (∀ i, i < 16 → RP1 c i) ∧ (∀ i, i < 8 → RP2 c i ∧ ∀ k, k < 8 → RP3 c i k) ∧ 0 ≤ c 91 ∧ c 91 ≤ c 92 ∧ c 92 ≤ c 93
theorem idx_dm {i k : Nat} (hi : i < 8) (hk : k < 8) : (26 + i * 8 + k - 26) % 8 = k ∧ (26 + i * 8 + k - 26) / 8 = i ∧ 26 ≤ 26 + i * 8 + k ∧ 26 + i * 8 + k < 90 := by omega
theorem may_of {c : Nat → Int} (h : RPM c) : MayP c := by
  obtain ⟨⟨h0, h1, h9⟩, p1, p2, q⟩ := h
  refine ⟨h0, h1, h9, fun i hi => ?_, fun i hi => ?_, fun i hi => ?_, fun i k hi hk => ?_, q⟩
  · unfold bareF
    split
    · rename_i hc
      rcases hc with hc | hc | hc
      · have := (p1 (i - 2) (by omega)).2 (by omega)
        rw [show 2 + (i - 2) = i by omega] at this
        exact this
      · have := (p2 (i - 18) (by omega)).1.2 (by omega)
        rw [show 18 + (i - 18) = i by omega] at this
        exact this
      · have := ((p2 ((i - 26) / 8) (by omega)).2 ((i - 26) % 8) (by omega)).1 (by omega)
        rw [show 26 + (i - 26) / 8 * 8 + (i - 26) % 8 = i by omega] at this
        exact this
    · rfl
  · have := (p1 i (by omega)).1 (by omega); omega
  · have := (p2 i (by omega)).1.1 (by omega); exact ⟨⟨this.1, this.2.1⟩, this.2.2⟩
  · have r := (p2 i (by omega)).2 k (by omega)
    unfold nearO dst
    by_cases e : i = k
    · subst e
      have := r.1 (.inr (.inr rfl))
      rw [this]
      simp
    · have := r.2 ⟨by omega, by omega, e⟩
      exact ⟨⟨fun h => by omega, fun h => absurd h e⟩, by omega, this.2.2⟩
theorem of_may {c : Nat → Int} (h : MayP c) : RPM c := by
  obtain ⟨h0, h1, h9, hb, p1, p2, pn, q⟩ := h
  have zr : ∀ i, i < 94 → ((2 + (c 1).toNat ≤ i ∧ i < 18) ∨ (18 + (c 0).toNat ≤ i ∧ i < 26) ∨ (26 ≤ i ∧ i < 90 ∧ ((c 0).toNat ≤ (i - 26) % 8 ∨ (c 0).toNat ≤ (i - 26) / 8))) → c i = 0 := fun i hi hc => by
    have := hb i hi
    unfold bareF at this
    rw [if_pos hc] at this
    exact this
  refine ⟨⟨h0, h1, h9⟩, fun i hi => ⟨fun hc => ?_, fun hc => ?_⟩, fun i hi => ⟨⟨fun hc => ?_, fun hc => ?_⟩, fun k hk => ⟨fun hc => ?_, fun hc => ?_⟩⟩, q⟩
  · have := p1 i (by omega); omega
  · exact zr (2 + i) (by omega) (.inl (by omega))
  · have := p2 i (by omega); omega
  · exact zr (18 + i) (by omega) (.inr (.inl (by omega)))
  · obtain ⟨d1, d2, d3, d4⟩ := idx_dm hi hk
    by_cases e : c 0 ≤ (i : Int) ∨ c 0 ≤ (k : Int)
    · exact zr _ (by omega) (.inr (.inr ⟨d3, d4, by rw [d1, d2]; omega⟩))
    · have e2 : i = k := by omega
      exact ((pn i k (by omega) (by omega)).1).2 e2
  · have r := pn i k (by omega) (by omega)
    unfold nearO dst at r
    have : c (26 + i * 8 + k) ≠ 0 := fun h => hc.2.2 (r.1.1 h)
    have := r.2.1
    exact ⟨by omega, by omega, r.2.2⟩
theorem may_iff {c : Nat → Int} : MayP c ↔ RPM c := ⟨of_may, may_of⟩
theorem rmay_spec (c : Nat → Int) (w : World) : Calls Try.prog 36 #[cfgV c] w fun r w' => ∃ b, r = .returned (.bool b) ∧ (b = true ↔ MayP c) ∧ Kept none' w w' := by
  refine (vc36 c w (fun v w' => ∃ b, v = .bool b ∧ (b = true ↔ MayP c) ∧ Kept none' w w') ?_).mono ?_
  · unfold vcP36
    intro w1 e1
    have o1 := own_alloc e1
    have k1 : Kept none' w w1 := (Kept.refl _ _).al e1
    generalize w.heap.size = b at *
    have no : ∀ w', Kept none' w w' → ¬ RPM c → ∃ b, Value.bool false = .bool b ∧ (b = true ↔ MayP c) ∧ Kept none' w w' := fun w' k h => ⟨false, rfl, by rw [may_iff]; simp [h], k⟩
    refine ⟨c 0, o1.rI (by omega), c 0, fun _ => o1.rI (by omega), c 1, fun _ => o1.rI (by omega), c 1, fun _ => o1.rI (by omega), c 90, fun _ => o1.rI (by omega), c 90, fun _ => o1.rI (by omega), Wif_intro (fun hc => ?_) (fun hc => ?_)⟩
    · refine no _ k1 fun h => ?_
      have := h.1
      unfold RP0 at this
      simp at hc
      omega
    have h0 : RP0 c := by unfold RP0; simp at hc; omega
    have h0' := h0
    unfold RP0 at h0'
    refine ⟨fun _ k w' N => ∃ q : Nat, k = q ∧ q ≤ 16 ∧ N = 16 - q ∧ Kept none' w w' ∧ own w' b (cfg c) ∧ ∀ i, i < q → RP1 c i, ⟨16, 0, rfl, by omega, rfl, k1, o1, fun i hi => absurd hi (Nat.not_lt_zero _)⟩, ?_⟩
    rintro bb _ w2 _ ⟨q, rfl, hq, rfl, k2, o2, hp1⟩
    refine Wif_intro (fun hc2 => ?_) (fun hc2 => ?_)
    · simp only [decide_eq_true_eq] at hc2
      intro w3 e3
      have k3 := k2.dr e3
      have o3 := o2.dr e3
      have hr : rd w3 b (2 + Int.toNat (q : Int) * 1) = some (.int .i64 (c (2 + q))) := by rw [Int.toNat_natCast, Nat.mul_one]; exact o3.rI (by omega)
      have eB : inB (q : Int) 16 = true := inB_of (by omega) (by omega)
      refine ⟨c 1, o3.rI (by omega), gIf_intro (fun _ => eB) ⟨c (2 + q), fun _ => hr, gIf_intro (fun _ => eB) ⟨c (2 + q), fun _ => hr, c 0, fun _ => o3.rI (by omega), c 1, fun _ => o3.rI (by omega), gIf_intro (fun _ => eB) ⟨c (2 + q), fun _ => hr, Wif_intro (fun hc3 => ?_) (fun hc3 => ?_)⟩⟩⟩⟩
      · refine no _ k3 fun h => ?_
        have := h.2.1 q (by omega)
        unfold RP1 at this
        simp at hc3
        omega
      · refine ⟨16 - (q + 1), by omega, q + 1, by rw [wi (by omega)]; rfl, by omega, rfl, k3, o3, fun i hi => ?_⟩
        rcases Nat.lt_or_ge i q with h | h
        · exact hp1 i h
        · have : i = q := by omega
          subst this
          unfold RP1
          simp at hc3
          omega
    have : q = 16 := by simp at hc2; omega
    subst this
    refine ⟨fun _ k w' N => ∃ q : Nat, k = q ∧ q ≤ 8 ∧ N = 8 - q ∧ Kept none' w w' ∧ own w' b (cfg c) ∧ ∀ i, i < q → RP2 c i ∧ ∀ k, k < 8 → RP3 c i k, ⟨8, 0, rfl, by omega, rfl, k2, o2, fun i hi => absurd hi (Nat.not_lt_zero _)⟩, ?_⟩
    rintro bb2 _ w3 _ ⟨q, rfl, hq8, rfl, k3, o3, hp2⟩
    refine Wif_intro (fun hc3 => ?_) (fun hc3 => ?_)
    · simp only [decide_eq_true_eq] at hc3
      refine ⟨c 0, o3.rI (by omega), fun w4 e4 => ?_⟩
      have k4 := k3.dr e4
      have o4 := o3.dr e4
      have hr : rd w4 b (18 + Int.toNat (q : Int) * 1) = some (.int .i64 (c (18 + q))) := by rw [Int.toNat_natCast, Nat.mul_one]; exact o4.rI (by omega)
      have eB : inB (q : Int) 8 = true := inB_of (by omega) (by omega)
      refine gIf_intro (fun _ => eB) ⟨c (18 + q), fun _ => hr, gIf_intro (fun _ => eB) ⟨c (18 + q), fun _ => hr, gIf_intro (fun _ => eB) ⟨c (18 + q), fun _ => hr, c 93, fun _ => o4.rI (by omega), gIf_intro (fun _ => eB) ⟨c (18 + q), fun _ => hr, Wif_intro (fun hc4 => ?_) (fun hc4 => ?_)⟩⟩⟩⟩
      · refine no _ k4 fun h => ?_
        have := (h.2.2.1 q (by omega)).1
        unfold RP2 at this
        simp at hc4
        omega
      have hp2q : RP2 c q := by
        unfold RP2
        simp at hc4
        omega
      refine ⟨fun _ k w' N => ∃ p : Nat, k = p ∧ p ≤ 8 ∧ N = 8 - p ∧ Kept none' w w' ∧ own w' b (cfg c) ∧ ∀ k, k < p → RP3 c q k, ⟨8, 0, rfl, by omega, rfl, k4, o4, fun i hi => absurd hi (Nat.not_lt_zero _)⟩, ?_⟩
      rintro bb3 _ w5 _ ⟨p, rfl, hp8, rfl, k5, o5, hp3⟩
      refine Wif_intro (fun hc5 => ?_) (fun hc5 => ?_)
      · simp only [decide_eq_true_eq] at hc5
        have eBp : inB (p : Int) 8 = true := inB_of (by omega) (by omega)
        have hrp : rd w5 b (26 + Int.toNat (q : Int) * 8 + Int.toNat (p : Int) * 1) = some (.int .i64 (c (26 + q * 8 + p))) := by rw [Int.toNat_natCast, Int.toNat_natCast, Nat.mul_one]; exact o5.rI (by omega)
        have hrq : rd w5 b (26 + Int.toNat (p : Int) * 8 + Int.toNat (q : Int) * 1) = some (.int .i64 (c (26 + p * 8 + q))) := by rw [Int.toNat_natCast, Int.toNat_natCast, Nat.mul_one]; exact o5.rI (by omega)
        have eqp : ((q : Int) == (p : Int)) = decide (q = p) := by
          by_cases h : q = p
          · subst h; simp
          · simp [h]; omega
        have nqp : ((q : Int) != (p : Int)) = !decide (q = p) := by
          show (!((q : Int) == (p : Int))) = _
          rw [eqp]
        refine Wif_yes eB (Wif_yes eBp ⟨_, hrp, c 0, fun _ => o5.rI (by omega), Wif_intro (fun hc6 => ?_) (fun hc6 => ⟨c 0, fun _ => o5.rI (by omega), gIf_intro (fun _ => eBp) (gIf_intro (fun _ => eB) ⟨_, fun _ => hrq, Wif_intro (fun hc7 => ?_) (fun hc7 => ?_)⟩)⟩)⟩)
        · refine no _ k5 fun h => ?_
          have := (h.2.2.1 q (by omega)).2 p (by omega)
          unfold RP3 at this
          rw [eqp] at hc6
          simp at hc6
          exact hc6.2 (this.1 (by omega))
        · refine no _ k5 fun h => ?_
          have := (h.2.2.1 q (by omega)).2 p (by omega)
          unfold RP3 at this
          rw [nqp] at hc7
          simp at hc7
          have := this.2 ⟨by omega, by omega, hc7.1.2⟩
          omega
        · refine ⟨8 - (p + 1), by omega, p + 1, by rw [wi (by omega)]; rfl, by omega, rfl, k5, o5, fun k hk => ?_⟩
          rcases Nat.lt_or_ge k p with h | h
          · exact hp3 k h
          · have : k = p := by omega
            subst this
            unfold RP3
            rw [eqp] at hc6
            rw [nqp] at hc7
            simp at hc6 hc7
            constructor
            · intro hh
              exact hc6 (by omega)
            · rintro ⟨a1, a2, a3⟩
              have := hc7 a1 a2 a3
              omega
      · have : p = 8 := by simp at hc5; omega
        subst this
        refine ⟨8 - (q + 1), by omega, q + 1, by rw [wi (by omega)]; rfl, by omega, rfl, k5, o5, fun i hi => ?_⟩
        rcases Nat.lt_or_ge i q with h | h
        · exact hp2 i h
        · have : i = q := by omega
          subst this
          exact ⟨hp2q, hp3⟩
    have : q = 8 := by simp at hc3; omega
    subst this
    refine ⟨c 91, o3.rI (by omega), c 92, fun _ => o3.rI (by omega), c 91, fun _ => o3.rI (by omega), c 93, fun _ => o3.rI (by omega), c 92, fun _ => o3.rI (by omega), _, rfl, ?_, k3⟩
    rw [may_iff]
    unfold RPM
    simp only [Bool.and_eq_true, decide_eq_true_eq]
    constructor
    · rintro ⟨⟨h1, h2⟩, h3⟩
      exact ⟨h0, hp1, hp2, h1, h2, h3⟩
    · rintro ⟨_, _, _, h1, h2, h3⟩
      exact ⟨⟨h1, h2⟩, h3⟩
  · rintro e w' ⟨v, rfl, b, rfl, hw⟩
    exact ⟨b, rfl, hw⟩
end Go.Proofs.Ytkmcmkimeibjdaa
