/-
  A part of a proof that a law of this seat returns true at every input. Conditions: those in each theorem.
-/
import Derived.Test.YtklmokolnakkoaaGreatDoorZV1
import Derived.Test.YtklmokolnakkoaaGreatDoorZC4
import Derived.Test.YtklmokolnakkoaaGreatDoorB0
set_option linter.unusedVariables false
set_option maxRecDepth 100000
namespace Go.Proofs.YtklmokolnakkoaaGreatDoor
open Go Go.Eng
open Go.Value (slice pointer)
/- byre/byreref02.May -/
def vcP12 (c0 : Nat → Int) (w : World) (K : KV) : Prop := ∀ w', w' = w.alloc (.cells (List.toArray (runI .i64 c0 0 94)) 31) → ∃ (x : Int), rd w' w.heap.size 0 = some (.int .i64 x) ∧ ∃ (x_1 : Int), (decide (x < 1) = false → rd w' w.heap.size 0 = some (.int .i64 x_1)) ∧ ∃ (x_2 : Int), ((decide (x < 1) || decide (x_1 > 8)) = false → rd w' w.heap.size 1 = some (.int .i64 x_2)) ∧ ∃ (x_3 : Int), ((decide (x < 1) || decide (x_1 > 8) || decide (x_2 < 1)) = false → rd w' w.heap.size 1 = some (.int .i64 x_3)) ∧ ∃ (x_4 : Int), ((decide (x < 1) || decide (x_1 > 8) || decide (x_2 < 1) || decide (x_3 > 16)) = false → rd w' w.heap.size 90 = some (.int .i64 x_4)) ∧ ∃ (x_5 : Int), ((decide (x < 1) || decide (x_1 > 8) || decide (x_2 < 1) || decide (x_3 > 16) || decide (x_4 < 0)) = false → rd w' w.heap.size 90 = some (.int .i64 x_5)) ∧ Wif (decide (x < 1) || decide (x_1 > 8) || decide (x_2 < 1) || decide (x_3 > 16) || decide (x_4 < 0) || decide (x_5 > 1024)) (K (.bool false) w') (∃ (I : Bool → Int → World → Nat → Prop), (∃ (n : Nat), I false 0 w' n) ∧ ∀ (b : Bool) (n : Int) (w' : World) (n_1 : Nat), I b n w' n_1 → Wif (decide (n < 16)) (∀ w1, w1 = w'.drew → ∃ (x : Int), rd w1 w.heap.size 1 = some (.int .i64 x) ∧ gIf (inB n 16) (decide (n < x) = true) (∃ (x_6 : Int), (decide (n < x) = true → rd w1 w.heap.size (2 + Int.toNat n * 1) = some (.int .i64 x_6)) ∧ gIf (inB n 16) (decide (n < x) = true ∧ decide (x_6 < 0) = false) (∃ (x_7 : Int), (decide (n < x) = true ∧ decide (x_6 < 0) = false → rd w1 w.heap.size (2 + Int.toNat n * 1) = some (.int .i64 x_7)) ∧ ∃ (x_8 : Int), (decide (n < x) = true ∧ decide (x_6 < 0) = false → rd w1 w.heap.size 0 = some (.int .i64 x_8)) ∧ ∃ (x_9 : Int), ((decide (n < x) && (decide (x_6 < 0) || decide (x_7 ≥ x_8))) = false → rd w1 w.heap.size 1 = some (.int .i64 x_9)) ∧ gIf (inB n 16) ((decide (n < x) && (decide (x_6 < 0) || decide (x_7 ≥ x_8))) = false ∧ decide (n ≥ x_9) = true) (∃ (x_10 : Int), ((decide (n < x) && (decide (x_6 < 0) || decide (x_7 ≥ x_8))) = false ∧ decide (n ≥ x_9) = true → rd w1 w.heap.size (2 + Int.toNat n * 1) = some (.int .i64 x_10)) ∧ Wif (decide (n < x) && (decide (x_6 < 0) || decide (x_7 ≥ x_8)) || decide (n ≥ x_9) && x_10 != 0) (K (.bool false) w1) (∃ m, Nat.succ m ≤ n_1 ∧ I b (IntKind.wrap .i64 (n + 1)) w1 m))))) (∃ (I : Bool → Int → World → Nat → Prop), (∃ (n : Nat), I b 0 w' n) ∧ ∀ (b : Bool) (n : Int) (w' : World) (n_2 : Nat), I b n w' n_2 → Wif (decide (n < 8)) (∃ (x : Int), rd w' w.heap.size 0 = some (.int .i64 x) ∧ ∀ w1, w1 = w'.drew → gIf (inB n 8) (decide (n < x) = true) (∃ (x_6 : Int), (decide (n < x) = true → rd w1 w.heap.size (18 + Int.toNat n * 1) = some (.int .i64 x_6)) ∧ gIf (inB n 8) (decide (n < x) = true ∧ decide (x_6 < 4) = false) (∃ (x_7 : Int), (decide (n < x) = true ∧ decide (x_6 < 4) = false → rd w1 w.heap.size (18 + Int.toNat n * 1) = some (.int .i64 x_7)) ∧ gIf (inB n 8) (decide (n < x) = true ∧ (decide (x_6 < 4) || decide (x_7 > 128)) = false) (∃ (x_8 : Int), (decide (n < x) = true ∧ (decide (x_6 < 4) || decide (x_7 > 128)) = false → rd w1 w.heap.size (18 + Int.toNat n * 1) = some (.int .i64 x_8)) ∧ ∃ (x_9 : Int), (decide (n < x) = true ∧ (decide (x_6 < 4) || decide (x_7 > 128)) = false → rd w1 w.heap.size 93 = some (.int .i64 x_9)) ∧ gIf (inB n 8) ((decide (n < x) && (decide (x_6 < 4) || decide (x_7 > 128) || decide (x_8 < x_9))) = false ∧ (!decide (n < x)) = true) (∃ (x_10 : Int), ((decide (n < x) && (decide (x_6 < 4) || decide (x_7 > 128) || decide (x_8 < x_9))) = false ∧ (!decide (n < x)) = true → rd w1 w.heap.size (18 + Int.toNat n * 1) = some (.int .i64 x_10)) ∧ Wif (decide (n < x) && (decide (x_6 < 4) || decide (x_7 > 128) || decide (x_8 < x_9)) || !decide (n < x) && x_10 != 0) (K (.bool false) w1) (∃ (I_1 : Bool → Int → World → Nat → Prop), (∃ (n : Nat), I_1 b 0 w1 n) ∧ ∀ (b : Bool) (n_3 : Int) (w' : World) (n_4 : Nat), I_1 b n_3 w' n_4 → Wif (decide (n_3 < 8)) (Wif (inB n 8) (Wif (inB n_3 8) (∃ (x_11 : Int), rd w' w.heap.size (26 + Int.toNat n * 8 + Int.toNat n_3 * 1) = some (.int .i64 x_11) ∧ ∃ (x_12 : Int), ((!decide (n < x)) = false → rd w' w.heap.size 0 = some (.int .i64 x_12)) ∧ Wif ((!decide (n < x) || decide (n_3 ≥ x_12) || n == n_3) && x_11 != 0) (K (.bool false) w') (∃ (x_13 : Int), (decide (n < x) = true → rd w' w.heap.size 0 = some (.int .i64 x_13)) ∧ gIf (inB n_3 8) ((decide (n < x) && decide (n_3 < x_13) && n != n_3) = true ∧ (decide (x_11 < 1) || decide (x_11 > 255)) = false) (gIf (inB n 8) ((decide (n < x) && decide (n_3 < x_13) && n != n_3) = true ∧ (decide (x_11 < 1) || decide (x_11 > 255)) = false) (∃ (x_14 : Int), ((decide (n < x) && decide (n_3 < x_13) && n != n_3) = true ∧ (decide (x_11 < 1) || decide (x_11 > 255)) = false → rd w' w.heap.size (26 + Int.toNat n_3 * 8 + Int.toNat n * 1) = some (.int .i64 x_14)) ∧ Wif (decide (n < x) && decide (n_3 < x_13) && n != n_3 && (decide (x_11 < 1) || decide (x_11 > 255) || x_11 != x_14)) (K (.bool false) w') (∃ m, Nat.succ m ≤ n_4 ∧ I_1 b (IntKind.wrap .i64 (n_3 + 1)) w' m))))) False) False) (∃ m, Nat.succ m ≤ n_2 ∧ I b (IntKind.wrap .i64 (n + 1)) w' m))))))) (∃ (x : Int), rd w' w.heap.size 91 = some (.int .i64 x) ∧ ∃ (x_6 : Int), (decide (x ≥ 0) = true → rd w' w.heap.size 92 = some (.int .i64 x_6)) ∧ ∃ (x_7 : Int), (decide (x ≥ 0) = true → rd w' w.heap.size 91 = some (.int .i64 x_7)) ∧ ∃ (x_8 : Int), ((decide (x ≥ 0) && decide (x_6 ≥ x_7)) = true → rd w' w.heap.size 93 = some (.int .i64 x_8)) ∧ ∃ (x_9 : Int), ((decide (x ≥ 0) && decide (x_6 ≥ x_7)) = true → rd w' w.heap.size 92 = some (.int .i64 x_9)) ∧ K (.bool (decide (x ≥ 0) && decide (x_6 ≥ x_7) && decide (x_8 ≥ x_9))) w')))
theorem vc12 (c0 : Nat → Int) (w : World) (K : KV) (h : vcP12 c0 w K) : Calls Tryz.prog 12 #[Value.agg (List.toArray (runI .i64 c0 0 94))] w (fun e w' => ∃ v, e = .returned v ∧ K v w') := Eng.vc_of [169, 123] 2 [] Tryz.mixes Tryz.func12 (by kernel_rfl) (by kernel_rfl) (by kernel_rfl) h
/- byre/byreref02.Frames -/
def vcP14 (c0 : Nat → Int) (w : World) (K : KV) : Prop := ∀ w', w' = w.alloc (.cells (List.toArray (runI .i64 c0 0 94)) 31) → ∃ (I : OA → Nat → Nat → Int → World → Nat → Prop), (∃ (n : Nat), I none 0 0 0 w' n) ∧ ∀ (a : OA) (l c : Nat) (n : Int) (w' : World) (n_1 : Nat), I a l c n w' n_1 → ∃ (x : Nat → Int), rdAll w' w.heap.size 0 (runI .i64 x 0 94) ∧ Calls Tryz.prog 12 #[Value.agg (List.toArray (runI .i64 x 0 94))] w' fun e w' => ∃ (b : Bool), e = .returned (.bool b) ∧ ∃ (x : Int), (b = true → rd w' w.heap.size 0 = some (.int .i64 x)) ∧ Wif (b && decide (n < x)) (∃ (I_1 : OA → Nat → Nat → Int → World → Nat → Prop), (∃ (n : Nat), I_1 a l c 0 w' n) ∧ ∀ (a : OA) (l c : Nat) (n_2 : Int) (w' : World) (n_3 : Nat), I_1 a l c n_2 w' n_3 → Wif (inB n 8) (∃ (x : Int), rd w' w.heap.size (18 + Int.toNat n * 1) = some (.int .i64 x) ∧ Wif (decide (n_2 < x)) (∀ w'_1, w'_1 = w'.alloc (.cells #[vi n] 3) → ∃ (a_1 : OA) (l_1 c_1 : Nat) (w'_2 : World), appIs Tryz.prog #[51, 51] 51 (slice a l c) (slice (some (Addr.mk w'.heap.size 0 none)) 1 1) (slice a_1 l_1 c_1) w'_1 w'_2 ∧ ∃ m, Nat.succ m ≤ n_3 ∧ I_1 a_1 l_1 c_1 (IntKind.wrap .i64 (n_2 + 1)) w'_2 m) (∃ m, Nat.succ m ≤ n_1 ∧ I a l c (IntKind.wrap .i64 (n + 1)) w' m)) False) (K (slice a l c) w')
theorem vc14 (c0 : Nat → Int) (w : World) (K : KV) (h : vcP14 c0 w K) : Calls Tryz.prog 14 #[Value.agg (List.toArray (runI .i64 c0 0 94))] w (fun e w' => ∃ v, e = .returned v ∧ K v w') := Eng.vc_of [169, 123] 2 [] Tryz.mixes Tryz.func14 (by kernel_rfl) (by kernel_rfl) (by kernel_rfl) h
set_option linter.unusedSimpArgs false
set_option linter.unusedVariables false
set_option maxRecDepth 100000
def RP1 (c : Nat → Int) (i : Nat) : Prop := ((i : Int) < c 1 → 0 ≤ c (2 + i) ∧ c (2 + i) < c 0) ∧ (c 1 ≤ (i : Int) → c (2 + i) = 0)
def RP2 (c : Nat → Int) (i : Nat) : Prop := ((i : Int) < c 0 → 4 ≤ c (18 + i) ∧ c (18 + i) ≤ 128 ∧ c 93 ≤ c (18 + i)) ∧ (c 0 ≤ (i : Int) → c (18 + i) = 0)
def RP3 (c : Nat → Int) (i k : Nat) : Prop := ((c 0 ≤ (i : Int) ∨ c 0 ≤ (k : Int) ∨ i = k) → c (26 + i * 8 + k) = 0) ∧ ((i : Int) < c 0 ∧ (k : Int) < c 0 ∧ i ≠ k → 1 ≤ c (26 + i * 8 + k) ∧ c (26 + i * 8 + k) ≤ 255 ∧ c (26 + i * 8 + k) = c (26 + k * 8 + i))
def RP0 (c : Nat → Int) : Prop := (1 ≤ c 0 ∧ c 0 ≤ 8) ∧ (1 ≤ c 1 ∧ c 1 ≤ 16) ∧ (0 ≤ c 90 ∧ c 90 ≤ 1024)
def RPM (c : Nat → Int) : Prop := RP0 c ∧ (∀ i, i < 16 → RP1 c i) ∧ (∀ i, i < 8 → RP2 c i ∧ ∀ k, k < 8 → RP3 c i k) ∧ 0 ≤ c 91 ∧ c 91 ≤ c 92 ∧ c 92 ≤ c 93
theorem idx_dm {i k : Nat} (hi : i < 8) (hk : k < 8) : (26 + i * 8 + k - 26) % 8 = k ∧ (26 + i * 8 + k - 26) / 8 = i ∧ 26 ≤ 26 + i * 8 + k ∧ 26 + i * 8 + k < 90 := by omega
theorem may_of {c : Nat → Int} (h : RPM c) : MayP c := by
  obtain ⟨⟨h0, h1, h9⟩, p1, p2, q⟩ := h
  refine ⟨h0, h1, h9, fun i hi => ?_, fun i hi => ?_, fun i hi => ?_, fun i k hi hk => ?_, q⟩
  · unfold bareF
    split
    · rename_i hc
      rcases hc with hc | hc | hc
      · have := (p1 (i - 2) (by omega)).2 (by omega)
        rw [show 2 + (i - 2) = i by omega] at this
        exact this
      · have := (p2 (i - 18) (by omega)).1.2 (by omega)
        rw [show 18 + (i - 18) = i by omega] at this
        exact this
      · have := ((p2 ((i - 26) / 8) (by omega)).2 ((i - 26) % 8) (by omega)).1 (by omega)
        rw [show 26 + (i - 26) / 8 * 8 + (i - 26) % 8 = i by omega] at this
        exact this
    · rfl
  · have := (p1 i (by omega)).1 (by omega); omega
  · have := (p2 i (by omega)).1.1 (by omega); exact ⟨⟨this.1, this.2.1⟩, this.2.2⟩
  · have r := (p2 i (by omega)).2 k (by omega)
    unfold nearO dst
    by_cases e : i = k
    · subst e
      have := r.1 (.inr (.inr rfl))
      rw [this]
      simp
    · have := r.2 ⟨by omega, by omega, e⟩
      exact ⟨⟨fun h => by omega, fun h => absurd h e⟩, by omega, this.2.2⟩
theorem of_may {c : Nat → Int} (h : MayP c) : RPM c := by
  obtain ⟨h0, h1, h9, hb, p1, p2, pn, q⟩ := h
  have zr : ∀ i, i < 94 → ((2 + (c 1).toNat ≤ i ∧ i < 18) ∨ (18 + (c 0).toNat ≤ i ∧ i < 26) ∨ (26 ≤ i ∧ i < 90 ∧ ((c 0).toNat ≤ (i - 26) % 8 ∨ (c 0).toNat ≤ (i - 26) / 8))) → c i = 0 := fun i hi hc => by
    have := hb i hi
    unfold bareF at this
    rw [if_pos hc] at this
    exact this
  refine ⟨⟨h0, h1, h9⟩, fun i hi => ⟨fun hc => ?_, fun hc => ?_⟩, fun i hi => ⟨⟨fun hc => ?_, fun hc => ?_⟩, fun k hk => ⟨fun hc => ?_, fun hc => ?_⟩⟩, q⟩
  · have := p1 i (by omega); omega
  · exact zr (2 + i) (by omega) (.inl (by omega))
  · have := p2 i (by omega); omega
  · exact zr (18 + i) (by omega) (.inr (.inl (by omega)))
  · obtain ⟨d1, d2, d3, d4⟩ := idx_dm hi hk
    by_cases e : c 0 ≤ (i : Int) ∨ c 0 ≤ (k : Int)
    · exact zr _ (by omega) (.inr (.inr ⟨d3, d4, by rw [d1, d2]; omega⟩))
    · have e2 : i = k := by omega
      exact ((pn i k (by omega) (by omega)).1).2 e2
  · have r := pn i k (by omega) (by omega)
    unfold nearO dst at r
    have : c (26 + i * 8 + k) ≠ 0 := fun h => hc.2.2 (r.1.1 h)
    have := r.2.1
    exact ⟨by omega, by omega, r.2.2⟩
theorem may_iff {c : Nat → Int} : MayP c ↔ RPM c := ⟨of_may, may_of⟩
theorem rmay_spec (c : Nat → Int) (w : World) : Calls Tryz.prog 12 #[cfgV c] w fun r w' => ∃ b, r = .returned (.bool b) ∧ (b = true ↔ MayP c) ∧ Kept none' w w' := by
  refine (vc12 c w (fun v w' => ∃ b, v = .bool b ∧ (b = true ↔ MayP c) ∧ Kept none' w w') ?_).mono ?_
  · unfold vcP12
    intro w1 e1
    have o1 := own_alloc e1
    have k1 : Kept none' w w1 := (Kept.refl _ _).al e1
    generalize w.heap.size = b at *
    have no : ∀ w', Kept none' w w' → ¬ RPM c → ∃ b, Value.bool false = .bool b ∧ (b = true ↔ MayP c) ∧ Kept none' w w' := fun w' k h => ⟨false, rfl, by rw [may_iff]; simp [h], k⟩
    refine ⟨c 0, o1.rI (by omega), c 0, fun _ => o1.rI (by omega), c 1, fun _ => o1.rI (by omega), c 1, fun _ => o1.rI (by omega), c 90, fun _ => o1.rI (by omega), c 90, fun _ => o1.rI (by omega), Wif_intro (fun hc => ?_) (fun hc => ?_)⟩
    · refine no _ k1 fun h => ?_
      have := h.1
      unfold RP0 at this
      simp at hc
      omega
    have h0 : RP0 c := by unfold RP0; simp at hc; omega
    have h0' := h0
    unfold RP0 at h0'
    refine ⟨fun _ k w' N => ∃ q : Nat, k = q ∧ q ≤ 16 ∧ N = 16 - q ∧ Kept none' w w' ∧ own w' b (cfg c) ∧ ∀ i, i < q → RP1 c i, ⟨16, 0, rfl, by omega, rfl, k1, o1, fun i hi => absurd hi (Nat.not_lt_zero _)⟩, ?_⟩
    rintro bb _ w2 _ ⟨q, rfl, hq, rfl, k2, o2, hp1⟩
    refine Wif_intro (fun hc2 => ?_) (fun hc2 => ?_)
    · simp only [decide_eq_true_eq] at hc2
      intro w3 e3
      have k3 := k2.dr e3
      have o3 := o2.dr e3
      have hr : rd w3 b (2 + Int.toNat (q : Int) * 1) = some (.int .i64 (c (2 + q))) := by rw [Int.toNat_natCast, Nat.mul_one]; exact o3.rI (by omega)
      have eB : inB (q : Int) 16 = true := inB_of (by omega) (by omega)
      refine ⟨c 1, o3.rI (by omega), gIf_intro (fun _ => eB) ⟨c (2 + q), fun _ => hr, gIf_intro (fun _ => eB) ⟨c (2 + q), fun _ => hr, c 0, fun _ => o3.rI (by omega), c 1, fun _ => o3.rI (by omega), gIf_intro (fun _ => eB) ⟨c (2 + q), fun _ => hr, Wif_intro (fun hc3 => ?_) (fun hc3 => ?_)⟩⟩⟩⟩
      · refine no _ k3 fun h => ?_
        have := h.2.1 q (by omega)
        unfold RP1 at this
        simp at hc3
        omega
      · refine ⟨16 - (q + 1), by omega, q + 1, by rw [wi (by omega)]; rfl, by omega, rfl, k3, o3, fun i hi => ?_⟩
        rcases Nat.lt_or_ge i q with h | h
        · exact hp1 i h
        · have : i = q := by omega
          subst this
          unfold RP1
          simp at hc3
          omega
    have : q = 16 := by simp at hc2; omega
    subst this
    refine ⟨fun _ k w' N => ∃ q : Nat, k = q ∧ q ≤ 8 ∧ N = 8 - q ∧ Kept none' w w' ∧ own w' b (cfg c) ∧ ∀ i, i < q → RP2 c i ∧ ∀ k, k < 8 → RP3 c i k, ⟨8, 0, rfl, by omega, rfl, k2, o2, fun i hi => absurd hi (Nat.not_lt_zero _)⟩, ?_⟩
    rintro bb2 _ w3 _ ⟨q, rfl, hq8, rfl, k3, o3, hp2⟩
    refine Wif_intro (fun hc3 => ?_) (fun hc3 => ?_)
    · simp only [decide_eq_true_eq] at hc3
      refine ⟨c 0, o3.rI (by omega), fun w4 e4 => ?_⟩
      have k4 := k3.dr e4
      have o4 := o3.dr e4
      have hr : rd w4 b (18 + Int.toNat (q : Int) * 1) = some (.int .i64 (c (18 + q))) := by rw [Int.toNat_natCast, Nat.mul_one]; exact o4.rI (by omega)
      have eB : inB (q : Int) 8 = true := inB_of (by omega) (by omega)
      refine gIf_intro (fun _ => eB) ⟨c (18 + q), fun _ => hr, gIf_intro (fun _ => eB) ⟨c (18 + q), fun _ => hr, gIf_intro (fun _ => eB) ⟨c (18 + q), fun _ => hr, c 93, fun _ => o4.rI (by omega), gIf_intro (fun _ => eB) ⟨c (18 + q), fun _ => hr, Wif_intro (fun hc4 => ?_) (fun hc4 => ?_)⟩⟩⟩⟩
      · refine no _ k4 fun h => ?_
        have := (h.2.2.1 q (by omega)).1
        unfold RP2 at this
        simp at hc4
        omega
      have hp2q : RP2 c q := by
        unfold RP2
        simp at hc4
        omega
      refine ⟨fun _ k w' N => ∃ p : Nat, k = p ∧ p ≤ 8 ∧ N = 8 - p ∧ Kept none' w w' ∧ own w' b (cfg c) ∧ ∀ k, k < p → RP3 c q k, ⟨8, 0, rfl, by omega, rfl, k4, o4, fun i hi => absurd hi (Nat.not_lt_zero _)⟩, ?_⟩
      rintro bb3 _ w5 _ ⟨p, rfl, hp8, rfl, k5, o5, hp3⟩
      refine Wif_intro (fun hc5 => ?_) (fun hc5 => ?_)
      · simp only [decide_eq_true_eq] at hc5
        have eBp : inB (p : Int) 8 = true := inB_of (by omega) (by omega)
        have hrp : rd w5 b (26 + Int.toNat (q : Int) * 8 + Int.toNat (p : Int) * 1) = some (.int .i64 (c (26 + q * 8 + p))) := by rw [Int.toNat_natCast, Int.toNat_natCast, Nat.mul_one]; exact o5.rI (by omega)
        have hrq : rd w5 b (26 + Int.toNat (p : Int) * 8 + Int.toNat (q : Int) * 1) = some (.int .i64 (c (26 + p * 8 + q))) := by rw [Int.toNat_natCast, Int.toNat_natCast, Nat.mul_one]; exact o5.rI (by omega)
        have eqp : ((q : Int) == (p : Int)) = decide (q = p) := by
          by_cases h : q = p
          · subst h; simp
          · simp [h]; omega
        have nqp : ((q : Int) != (p : Int)) = !decide (q = p) := by
          show (!((q : Int) == (p : Int))) = _
          rw [eqp]
        refine Wif_yes eB (Wif_yes eBp ⟨_, hrp, c 0, fun _ => o5.rI (by omega), Wif_intro (fun hc6 => ?_) (fun hc6 => ⟨c 0, fun _ => o5.rI (by omega), gIf_intro (fun _ => eBp) (gIf_intro (fun _ => eB) ⟨_, fun _ => hrq, Wif_intro (fun hc7 => ?_) (fun hc7 => ?_)⟩)⟩)⟩)
        · refine no _ k5 fun h => ?_
          have := (h.2.2.1 q (by omega)).2 p (by omega)
          unfold RP3 at this
          rw [eqp] at hc6
          simp at hc6
          exact hc6.2 (this.1 (by omega))
        · refine no _ k5 fun h => ?_
          have := (h.2.2.1 q (by omega)).2 p (by omega)
          unfold RP3 at this
          rw [nqp] at hc7
          simp at hc7
          have := this.2 ⟨by omega, by omega, hc7.1.2⟩
          omega
        · refine ⟨8 - (p + 1), by omega, p + 1, by rw [wi (by omega)]; rfl, by omega, rfl, k5, o5, fun k hk => ?_⟩
          rcases Nat.lt_or_ge k p with h | h
          · exact hp3 k h
          · have : k = p := by omega
            subst this
            unfold RP3
            rw [eqp] at hc6
            rw [nqp] at hc7
            simp at hc6 hc7
            constructor
            · intro hh
              exact hc6 (by omega)
            · rintro ⟨a1, a2, a3⟩
              have := hc7 a1 a2 a3
              omega
      · have : p = 8 := by simp at hc5; omega
        subst this
        refine ⟨8 - (q + 1), by omega, q + 1, by rw [wi (by omega)]; rfl, by omega, rfl, k5, o5, fun i hi => ?_⟩
        rcases Nat.lt_or_ge i q with h | h
        · exact hp2 i h
        · have : i = q := by omega
          subst this
          exact ⟨hp2q, hp3⟩
    have : q = 8 := by simp at hc3; omega
    subst this
    refine ⟨c 91, o3.rI (by omega), c 92, fun _ => o3.rI (by omega), c 91, fun _ => o3.rI (by omega), c 93, fun _ => o3.rI (by omega), c 92, fun _ => o3.rI (by omega), _, rfl, ?_, k3⟩
    rw [may_iff]
    unfold RPM
    simp only [Bool.and_eq_true, decide_eq_true_eq]
    constructor
    · rintro ⟨⟨h1, h2⟩, h3⟩
      exact ⟨h0, hp1, hp2, h1, h2, h3⟩
    · rintro ⟨_, _, _, h1, h2, h3⟩
      exact ⟨⟨h1, h2⟩, h3⟩
  · rintro e w' ⟨v, rfl, b, rfl, hw⟩
    exact ⟨b, rfl, hw⟩
set_option linter.unusedSimpArgs false
set_option linter.unusedVariables false
set_option maxRecDepth 100000
def ndL (c : Nat → Int) : Nat → List Value
  | 0 => []
  | k + 1 => ndL c k ++ List.replicate (c (18 + k)).toNat (.int .i64 (k : Int))
theorem ndL_len {c : Nat → Int} (h : MayP c) : ∀ {k : Nat}, (k : Int) ≤ c 0 → ((ndL c k).length : Int) = fstF c k
  | 0, _ => rfl
  | k + 1, hk => by
    have := ndL_len h (k := k) (by omega)
    have f := h.fr (i := k) (by omega)
    simp only [ndL, fstF, List.length_append, List.length_replicate]
    omega
theorem rframes_spec (c : Nat → Int) (hm : MayP c) (w : World) : Calls Tryz.prog 14 #[cfgV c] w fun r w' => ∃ a cp, r = .returned (.slice a (fstF c (c 0).toNat).toNat cp) ∧ Kept none' w w' ∧ w'.ownsRow w.heap.size 3 1 (.slice a (fstF c (c 0).toNat).toNat cp) (fstF c (c 0).toNat).toNat (ndL c (c 0).toNat) := by
  refine (vc14 c w (fun v w' => ∃ a cp, v = (.slice a (fstF c (c 0).toNat).toNat cp) ∧ Kept none' w w' ∧ w'.ownsRow w.heap.size 3 1 (.slice a (fstF c (c 0).toNat).toNat cp) (fstF c (c 0).toNat).toNat (ndL c (c 0).toNat)) ?_).mono ?_
  · unfold vcP14
    have h0 := hm.1
    intro w1 e1
    have o1 := own_alloc e1
    have k1 : Kept none' w w1 := (Kept.refl _ _).al e1
    have s1 : w1.heap.size = w.heap.size + 1 := by rw [e1]; simp only [World.alloc, Array.size_push]
    generalize hb : w.heap.size = b at *
    clear e1
    have brow : ∀ {w : World} {v : Value} {n : Nat} {xs : List Value}, w.ownsRow (b + 1) 3 1 v n xs → ∀ x, v.ownBlock = some x → b + 1 ≤ x := fun h x hx => (h.lt x hx).1
    refine ⟨fun a l cp k w' M => ∃ q : Nat, k = (q : Int) ∧ (q : Int) ≤ c 0 ∧ M = (c 0).toNat - q ∧ Kept none' w w' ∧ own w' b (cfg c) ∧ b + 1 ≤ w'.heap.size ∧ l = (ndL c q).length ∧ w'.ownsRow (b + 1) 3 1 (.slice a l cp) l (ndL c q), ⟨(c 0).toNat, 0, rfl, by omega, rfl, k1, o1, by omega, rfl, World.ownsRow_nil _ _ _ _⟩, ?_⟩
    rintro a _ cp _ w2 _ ⟨q, rfl, hq, rfl, k2, o2, s2, rfl, row2⟩
    refine ⟨c, o2.rIall, (rmay_spec c w2).mono ?_⟩
    rintro _ w3 ⟨mb, rfl, hmb, k23⟩
    have : mb = true := hmb.2 hm
    subst this
    have o3 := o2.k k23
    have row3 := ownsRow_kx row2 k23 fun _ _ _ _ => id
    have k3 := k2.tr k23
    have s3 := k23.sz
    refine ⟨true, rfl, c 0, fun _ => o3.rI (by omega), Wif_intro (fun hc => ?_) (fun hc => ?_)⟩
    · have hlt : (q : Int) < c 0 := by simpa using hc
      have hf := hm.fr (i := q) (by omega)
      have hlen := ndL_len hm (k := q) (by omega)
      have hfst := hm.fst (k := q) (by omega)
      refine ⟨fun a l cp k w' M => ∃ p : Nat, k = (p : Int) ∧ (p : Int) ≤ c (18 + q) ∧ M = (c (18 + q)).toNat - p ∧ Kept none' w w' ∧ own w' b (cfg c) ∧ b + 1 ≤ w'.heap.size ∧ l = (ndL c q).length + p ∧ w'.ownsRow (b + 1) 3 1 (.slice a l cp) l (ndL c q ++ List.replicate p (.int .i64 (q : Int))), ⟨(c (18 + q)).toNat, 0, rfl, by omega, rfl, k3, o3, by omega, rfl, by simpa using row3⟩, ?_⟩
      rintro a _ cp _ w4 _ ⟨p, rfl, hp, rfl, k4, o4, s4, rfl, row4⟩
      refine Wif_yes (inB_of (by omega) (by omega)) ⟨c (18 + q), by rw [Int.toNat_natCast, Nat.mul_one]; exact o4.rI (by omega), Wif_intro (fun hc2 => ?_) (fun hc2 => ?_)⟩
      · simp only [decide_eq_true_eq] at hc2
        intro w5 e5
        have k45 : Kept none' w4 w5 := (Kept.refl _ _).al e5
        have p5 := own_alloc (c := [.int .i64 (q : Int)]) e5
        have row5 := ownsRow_kx row4 k45 fun _ _ _ _ => id
        have s5 := k45.sz
        obtain ⟨a', l', c', w6, happ, rfl, row6, k6⟩ := app_one (t := 51) (e := 3) Tryz.underlying51 info_int rfl row5 p5 (m := 1) (off := 0) (c := 1) (news := [.int .i64 (q : Int)]) rfl rfl (fun u hu => by simp at hu; subst hu; rfl) (by omega) (by omega)
        have s6 := k6.sz
        refine ⟨a', _, c', w6, happ, (c (18 + q)).toNat - (p + 1), by omega, p + 1, by rw [wi (by omega)]; rfl, by omega, rfl, own0 (k4.tr k45) k6 fun x hx => by have := brow row5 x hx; omega, (o4.k k45).kx k6 fun hx => by have := brow row5 _ hx; omega, by omega, rfl, ?_⟩
        have : ndL c q ++ List.replicate (p + 1) (Value.int .i64 (q : Int)) = ndL c q ++ List.replicate p (.int .i64 (q : Int)) ++ [.int .i64 (q : Int)] := by rw [List.replicate_succ', List.append_assoc]
        rw [this]
        exact row6
      · have hpe : p = (c (18 + q)).toNat := by simp at hc2; omega
        subst hpe
        have : (ndL c q).length + (c (18 + q)).toNat = (ndL c (q + 1)).length := by simp [ndL]
        rw [this] at row4
        exact ⟨(c 0).toNat - (q + 1), by omega, q + 1, by rw [wi (by omega)]; rfl, by omega, rfl, k4, o4, s4, this, by rw [this]; exact row4⟩
    · have hqe : q = (c 0).toNat := by simp at hc; omega
      subst hqe
      have hlen := ndL_len hm (k := (c 0).toNat) (by omega)
      have e : (ndL c (c 0).toNat).length = (fstF c (c 0).toNat).toNat := by omega
      rw [e] at row3 ⊢
      refine ⟨a, cp, rfl, k3, row3.1, ?_⟩
      rcases row3.2 with h | ⟨g, cap, cur, q1, q2, q3⟩
      · exact .inl h
      · exact .inr ⟨g, cap, cur, q1, by omega, q3⟩
  · rintro e w' ⟨v, rfl, a, cp, rfl, hw⟩
    exact ⟨a, cp, rfl, hw⟩
open Go.Value (slice pointer)
/- byre/byrelaw21.CoreClass -/
/- byre/byrelaw21.CoreNew -/
/- byre/core.Class -/
def vcP8 (size : Int) (w : World) (K : KV) : Prop := ∀ w', w' = w.alloc (.cells #[vi size] 3) → Calls Tryz.prog 29 #[slice (some (Addr.mk 0 0 none)) 8 8, Value.func (Fn.func 30) #[] #[pointer (some (Addr.mk w.heap.size 0 none))]] w' fun e w' => ∃ (n : Int), e = Ending.returned (vi n) ∧ ∃ (x : Int), rd w' w.heap.size 0 = some (.int .i64 x) ∧ Wif (decide (x < 1) || decide (n < 0)) (K (.tuple #[vi 0, vi 2]) w') (K (.tuple #[vi n, vi 0]) w')
theorem vc8 (size : Int) (w : World) (K : KV) (h : vcP8 size w K) : Calls Tryz.prog 8 #[vi size] w (fun e w' => ∃ v, e = .returned v ∧ K v w') := Eng.vc_of [167, 120, 130, 61, 133, 143, 134, 91, 103, 113, 98, 99, 169, 15, 16, 17] 2 [] Tryz.mixes Tryz.func8 (by kernel_rfl) (by kernel_rfl) (by kernel_rfl) h
/- byre/byreref21.Class -/
/- byre/byrelaw21.known -/
def vcP10 (w : World) (K : KV) : Prop := Calls Tryz.prog 31 #[] w fun e w' => ∃ (f : Nat → Int), e = .returned (.agg (List.toArray (runI .i64 f 0 94))) ∧ Calls Tryz.prog 11 #[Value.agg (List.toArray (runI .i64 f 0 94))] w' fun e w' => ∃ (p : OA) (n : Int), e = .returned (.tuple #[pointer p, vi n]) ∧ Calls Tryz.prog 8 #[vi 9] w' fun e w' => ∃ (n_1 n_2 : Int), e = .returned (.tuple #[vi n_1, vi n_2]) ∧ Wif (!Option.isNone p && n == 0 && n_1 == 1 && n_2 == 0) (Calls Tryz.prog 31 #[] w' fun e w' => ∃ (f : Nat → Int), e = .returned (.agg (List.toArray (runI .i64 f 0 94))) ∧ Calls Tryz.prog 19 #[pointer p] w' fun e w' => ∃ (f_1 : Nat → Int) (a : OA) (l c : Nat) (a_1 : OA) (l_1 c_1 : Nat) (a_2 : OA) (l_2 c_2 : Nat) (a_3 : OA) (l_3 c_3 : Nat) (a_4 : OA) (l_4 c_4 : Nat) (a_5 : OA) (l_5 c_5 : Nat) (a_6 : OA) (l_6 c_6 : Nat) (a_7 : OA) (l_7 c_7 : Nat) (a_8 : OA) (l_8 c_8 : Nat) (a_9 : OA) (l_9 c_9 : Nat) (a_10 : OA) (l_10 c_10 : Nat) (a_11 : OA) (l_11 c_11 : Nat) (a_12 : OA) (l_12 c_12 : Nat), e = .returned (.agg (List.toArray (runI .i64 f_1 0 94 ++ [slice a l c, slice a_1 l_1 c_1, slice a_2 l_2 c_2, slice a_3 l_3 c_3, slice a_4 l_4 c_4, slice a_5 l_5 c_5, slice a_6 l_6 c_6, slice a_7 l_7 c_7, slice a_8 l_8 c_8, slice a_9 l_9 c_9, slice a_10 l_10 c_10, slice a_11 l_11 c_11, slice a_12 l_12 c_12]))) ∧ Calls Tryz.prog 18 #[Value.agg (List.toArray (runI .i64 f 0 94)), Value.agg (List.toArray (runI .i64 f_1 0 94 ++ [slice a l c, slice a_1 l_1 c_1, slice a_2 l_2 c_2, slice a_3 l_3 c_3, slice a_4 l_4 c_4, slice a_5 l_5 c_5, slice a_6 l_6 c_6, slice a_7 l_7 c_7, slice a_8 l_8 c_8, slice a_9 l_9 c_9, slice a_10 l_10 c_10, slice a_11 l_11 c_11, slice a_12 l_12 c_12]))] w' fun e w' => ∃ (b : Bool), e = .returned (.bool b) ∧ gIf (isP p) (b = true) (∃ (x : OA) (x_1 x_2 : Nat), (b = true → rd w' (pb p) (po p + 102) = some (.slice x x_1 x_2)) ∧ gIf (isP p) ((b && (↑x_1 : Int) == 1) = true) (∃ (x : OA) (x_3 x_4 : Nat), ((b && (↑x_1 : Int) == 1) = true → rd w' (pb p) (po p + 102) = some (.slice x x_3 x_4)) ∧ gIf (isP x) ((b && (↑x_1 : Int) == 1) = true) (gIf (inB 0 x_3) ((b && (↑x_1 : Int) == 1) = true) (∃ (x_5 : OA) (x_6 x_7 : Nat), ((b && (↑x_1 : Int) == 1) = true → rd w' (pb x) (po x) = some (.slice x_5 x_6 x_7)) ∧ K (.bool (b && (↑x_1 : Int) == 1 && (↑x_6 : Int) == 8)) w'))))) (K (.bool false) w')
theorem vc10 (w : World) (K : KV) (h : vcP10  w K) : Calls Tryz.prog 10 #[] w (fun e w' => ∃ v, e = .returned v ∧ K v w') := Eng.vc_of [167, 120, 130, 61, 133, 143, 134, 91, 103, 113, 98, 99, 169, 15, 16, 17] 2 [] Tryz.mixes Tryz.func10 (by kernel_rfl) (by kernel_rfl) (by kernel_rfl) h
/- slices.IndexFunc[[]int,int] -/
def vcP29 (s : OA) (sL sC : Nat) (f : Value) (w : World) (K : KV) : Prop := ∃ (I : Int → Int → World → Nat → Prop), (∃ (n : Nat), I 0 0 w n) ∧ ∀ (n n_1 : Int) (w' : World) (n_2 : Nat), I n n_1 w' n_2 → Wif (decide (n_1 < (↑sL : Int))) (Wif (isP s) (Wif (inB n_1 sL) (∃ (x : Int), rd w' (pb s) (po s + Int.toNat n_1 * 1) = some (.int .i64 x) ∧ CallsV Tryz.prog f [vi x] w' fun e w' => ∃ (b : Bool), e = .returned (.bool b) ∧ Wif b (K (vi n_1) w') (∃ m, Nat.succ m ≤ n_2 ∧ I n (IntKind.wrap .i64 (n_1 + 1)) w' m)) False) False) (K (vi (-1)) w')
theorem vc29 (s : OA) (sL sC : Nat) (f : Value) (w : World) (K : KV) (h : vcP29 s sL sC f w K) : Calls Tryz.prog 29 #[slice s sL sC, f] w (fun e w' => ∃ v, e = .returned v ∧ K v w') := Eng.vc_of [] 2 [2000011] Tryz.mixes Tryz.func29 (by kernel_rfl) (by kernel_rfl) (by kernel_rfl) h
/- byre/core.Class$1 -/
def vcP30 (n : Int) (c1_0 : OA) (w : World) (K : KV) : Prop := Wif (isP c1_0) (∃ (x : Int), rd w (pb c1_0) (po c1_0) = some (.int .i64 x) ∧ K (.bool (decide (n ≥ x))) w) False
theorem vc30 (n : Int) (c1_0 : OA) (w : World) (K : KV) (h : vcP30 n c1_0 w K) : Calls Tryz.prog 30 #[vi n, pointer c1_0] w (fun e w' => ∃ v, e = .returned v ∧ K v w') := Eng.vc_of [] 2 [] Tryz.mixes Tryz.func30 (by kernel_rfl) (by kernel_rfl) (by kernel_rfl) h
/- byre/byrelaw21.least -/
def vcP31 (w : World) (K : KV) : Prop := ∀ w', w' = w.alloc (.cells (List.toArray (List.replicate 94 (vi 0))) 31) → ∀ w'_1, w'_1 = w'.alloc (.cells (List.toArray (List.replicate 94 (vi 0))) 31) → wrAll w'_1 w'.heap.size 0 ([vi 1, vi 1] ++ (List.replicate 88 (vi 0) ++ [vi 2, vi 0, vi 0, vi 0])) ∧ ∀ w'_2, w'_2 = stAll w'_1 w'.heap.size 0 ([vi 1, vi 1] ++ (List.replicate 88 (vi 0) ++ [vi 2, vi 0, vi 0, vi 0])) → wr w'_2 w'.heap.size 18 ∧ ∀ w'_3, w'_3 = st w'_2 w'.heap.size 18 (vi 4) → ∃ (x : Nat → Int), rdAll w'_3 w'.heap.size 0 (runI .i64 x 0 94) ∧ wrAll w'_3 w.heap.size 0 (runI .i64 x 0 94) ∧ ∀ w', w' = stAll w'_3 w.heap.size 0 (runI .i64 x 0 94) → ∃ (x : Nat → Int), rdAll w' w.heap.size 0 (runI .i64 x 0 94) ∧ K (.agg (List.toArray (runI .i64 x 0 94))) w'
theorem vc31 (w : World) (K : KV) (h : vcP31  w K) : Calls Tryz.prog 31 #[] w (fun e w' => ∃ v, e = .returned v ∧ K v w') := Eng.vc_of [167, 120, 130, 61, 133, 143, 134, 91, 103, 113, 98, 99, 169, 15, 16, 17] 2 [] Tryz.mixes Tryz.func31 (by kernel_rfl) (by kernel_rfl) (by kernel_rfl) h
end Go.Proofs.YtklmokolnakkoaaGreatDoor
