/-
  A part of a proof that a law of this seat returns true at every input. Conditions: those in each theorem.
-/
import Derived.Test.YtkancagfhbkhiaaD5c
import Derived.Test.YtkancagfhbkhiaaW2
import Derived.Test.YtkancagfhbkhiaaV3
namespace Go.Proofs.Ytkancagfhbkhiaa
open Go Eng
set_option linter.unusedSimpArgs false
set_option linter.unusedVariables false
set_option maxRecDepth 10000

theorem may_spec (size colour : Int) (w : World) : Calls Try.prog 43 #[.int .i64 size, .int .i64 colour] w fun e w' => e = .returned (.bool (decide (mayBe size colour))) ∧ w' = w := by
  refine (vc43 _ _ w (fun v w' => v = .bool (decide (mayBe size colour)) ∧ w' = w) ?_).mono ?_
  · unfold vcP43
    refine Wif_intro (fun h => ?_) (fun h => gIf_intro (fun h2 => ?_) ?_)
    · refine ⟨?_, rfl⟩
      congr 1
      symm
      rw [decide_eq_false_iff_not]
      rintro ⟨m1, m2, m3, _⟩
      simp at h
      rcases h with (h | h) | h
      · omega
      · omega
      · rw [Int.tmod_eq_emod_of_nonneg (by omega)] at h; omega
    · simp at h ⊢; omega
    · refine ⟨?_, rfl⟩
      congr 1
      simp at h
      obtain ⟨⟨h1, h2⟩, h3⟩ := h
      rw [Int.tmod_eq_emod_of_nonneg (by omega)] at h3
      rw [Bool.eq_iff_iff]
      simp only [Bool.and_eq_true, decide_eq_true_eq, beq_iff_eq]
      rw [Int.tmod_eq_emod_of_nonneg (a := 256) (by omega)]
      constructor
      · rintro ⟨⟨a, b⟩, c⟩
        rw [Int.tmod_eq_emod_of_nonneg a] at b
        exact ⟨by omega, by omega, h3, a, b, c⟩
      · rintro ⟨_, _, _, a, b, c⟩
        exact ⟨⟨a, by rw [Int.tmod_eq_emod_of_nonneg a]; exact b⟩, c⟩
  · rintro e w' ⟨v, rfl, rfl, h⟩
    exact ⟨rfl, h⟩
theorem mod_next {k m : Nat} (hm : 0 < m) : (k + 1) % m = if k % m + 1 < m then k % m + 1 else 0 := by
  have h := Nat.mod_lt k hm
  rw [Nat.add_mod]
  by_cases h1 : m = 1
  · subst h1; simp [Nat.mod_one]
  · have : 1 % m = 1 := Nat.mod_eq_of_lt (by omega)
    rw [this]
    split
    · exact Nat.mod_eq_of_lt (by assumption)
    · have : k % m + 1 = m := by omega
      rw [this, Nat.mod_self]
theorem colours_law (size n : Int) (w : World) : Calls Try.prog 11 #[.int .i64 size, .int .i64 n] w fun e w' => e = .returned (.bool true) ∧ Kept none' w w' := by
  refine (vc11 size n w (fun v w' => v = .bool true ∧ Kept none' w w') ?_).mono ?_
  · unfold vcP11
    by_cases hm : mayBe size 0
    · obtain ⟨z, c0, rfl, hc0, h8, h128, _⟩ := mayBe_nat hm
      refine (new_cis (Kept.refl _ w) z hm).mono ?_
      rintro _ w1 ⟨C, M, rfl, _, h1, _, _⟩
      refine ⟨_, _, rfl, Wif_intro (fun hn => ?_) (fun hn => ?_)⟩
      · refine (may_spec _ _ w1).mono ?_
        rintro _ w2 ⟨rfl, rfl⟩
        exact ⟨_, rfl, Wif_yes (by simp [hm]) (fin_cknown h1.fr)⟩
      · simp at hn
        obtain ⟨hn0, hn40⟩ := hn
        obtain ⟨N, rfl⟩ := Int.eq_ofNat_of_zero_le hn0
        refine Wif_yes (by simp; omega) ?_
        have hl256 : 256 % z < z := Nat.mod_lt _ (by omega)
        generalize hleft : 256 % z = left at *
        have e1 : Int.tmod 256 (z : Int) = (left : Int) := by
          rw [Int.tmod_eq_emod_of_nonneg (by omega), ← hleft]
          exact (Int.natCast_emod 256 z).symm
        have e2 : Int.tdiv (left : Int) 8 = ((left / 8 : Nat) : Int) := by
          rw [Int.tdiv_eq_ediv_of_nonneg (by omega)]
          exact (Int.natCast_ediv left 8).symm
        have e3 : IntKind.wrap .i64 (IntKind.wrap .i64 (Int.tdiv (Int.tmod 256 (z : Int)) 8) + 1) = ((left / 8 + 1 : Nat) : Int) := by
          rw [e1, e2, wi (x := ((left / 8 : Nat) : Int)) (by omega), wi (by omega)]; rfl
        rw [e3]
        have e4 : IntKind.wrap .i64 (Int.tdiv 256 (z : Int)) = ((256 / z : Nat) : Int) := by
          have hd : 256 / z ≤ 256 := Nat.div_le_self _ _
          have : Int.tdiv 256 (z : Int) = ((256 / z : Nat) : Int) := by
            rw [Int.tdiv_eq_ediv_of_nonneg (by omega)]
            exact (Int.natCast_ediv 256 z).symm
          rw [this]
          generalize 256 / z = q at *
          exact wi (by omega)
        rw [e4]
        refine ⟨fun b n w' m => ∃ (k : Nat) (L : List Slb), n = k ∧ k ≤ N ∧ m = N - k ∧ CIs w w' C M z (k % (left / 8 + 1) * 8) L ∧ ∀ e ∈ L, e.fr < k, ⟨_, 0, [], rfl, by omega, rfl, by simpa using h1, by simp⟩, ?_⟩
        rintro b n w2 m ⟨k, L, rfl, hk, rfl, h2, hlt⟩
        refine Wif_intro (fun hkn => ?_) (fun _ => fin_cknown h2.fr)
        simp only [decide_eq_true_eq] at hkn
        have hk' : k < N := by omega
        intro w3 e3'
        refine (add_cis h2 k (by omega) (by omega) (fun e he => by have := hlt e he; omega) e3').mono ?_
        rintro _ w4 ⟨rfl, _, S, f, h4⟩
        refine ⟨_, rfl, Wif_no rfl ?_⟩
        have hin := (insL_mem (e := ⟨k, S, w2.heap.size, 256, newSl z (k % (left / 8 + 1) * 8), f⟩) (L := L)).2 (.inl rfl)
        refine (slab_in h4.at' hin).mono ?_
        rintro _ w5 ⟨rfl, rfl⟩
        refine ⟨_, _, rfl, ?_⟩
        intro w6 e6
        have h6 := h4.k ((Kept.refl _ _).dr e6)
        have hsl := (h6.at'.sl _ hin).1
        have hmod : k % (left / 8 + 1) < left / 8 + 1 := Nat.mod_lt _ (by omega)
        have e5 : IntKind.wrap .i64 (Int.tmod (k : Int) ((left / 8 + 1 : Nat) : Int) * 8) = ((k % (left / 8 + 1) * 8 : Nat) : Int) := by
          rw [Int.tmod_eq_emod_of_nonneg (by omega), ← Int.natCast_emod]
          generalize k % (left / 8 + 1) = q at *
          rw [wi (by omega)]; rfl
        refine gIf_intro (fun _ => by simp; omega) (Wif_no rfl ((colour_spec hsl).mono ?_))
        rintro _ w7 ⟨rfl, rfl⟩
        have hcol : (newSl z (k % (left / 8 + 1) * 8)).colour = k % (left / 8 + 1) * 8 := rfl
        refine ⟨_, rfl, gIf_intro (fun _ => by simp; omega) (Wif_no ?_ ((count_spec hsl).mono ?_))⟩
        · rw [e5]
          simp [hcol]
        rintro _ w8 ⟨rfl, rfl⟩
        have hcnt : (newSl z (k % (left / 8 + 1) * 8)).count = 256 / z := count_all h8 (by
          rw [hleft]
          generalize k % (left / 8 + 1) = q at *
          omega)
        refine ⟨_, rfl, Wif_no (by simp [hcnt]) ⟨N - (k + 1), by omega, k + 1, insL ⟨k, S, w2.heap.size, 256, newSl z (k % (left / 8 + 1) * 8), f⟩ L, by rw [wi (by omega)]; rfl, by omega, rfl, ?_, fun e he => ?_⟩⟩
        · have hnx : nextCol z (k % (left / 8 + 1) * 8) = (k + 1) % (left / 8 + 1) * 8 := by
            unfold nextCol
            rw [hleft, mod_next (by omega)]
            generalize k % (left / 8 + 1) = q at *
            by_cases hq : q + 1 < left / 8 + 1
            · rw [if_pos hq, if_pos (by omega)]; omega
            · rw [if_neg hq, if_neg (by omega)]
          rw [hnx] at h6
          exact h6
        · rcases insL_mem.1 he with rfl | he
          · show (k : Int) < ((k + 1 : Nat) : Int)
            omega
          · have := hlt e he; omega
    · refine (cnew_no size hm w).mono ?_
      rintro _ w1 ⟨rfl, k1⟩
      refine ⟨_, _, rfl, Wif_yes rfl ((may_spec _ _ w1).mono ?_)⟩
      rintro _ w2 ⟨rfl, rfl⟩
      exact ⟨_, rfl, Wif_yes (by simp [hm]) (fin_cknown k1)⟩
  · rintro e w' ⟨v, rfl, rfl, h⟩
    exact ⟨rfl, h⟩
/-! ### none: one that is not there, or was not made -/
structure NilC (w : World) (p : Option Addr) : Prop where
  isp : Option.isNone p = false → isP p = true
  rd : Option.isNone p = false → Eng.rd w (pb p) (po p + 2) = some (.map none)
theorem NilC.k {w w' : World} {p : Option Addr} (h : NilC w p) (k : Kept none' w w') : NilC w' p := ⟨h.isp, fun hn => k.rd_some (h.rd hn) id⟩
section
variable {w : World} {p : Option Addr}
theorem n41 (h : NilC w p) : Calls Try.prog 41 #[.pointer p] w fun r w' => r = .returned (.tuple #[.int .i64 0, .int .i64 0, .int .i64 1]) ∧ w' = w := by
  refine (vc41 _ w (fun v w' => v = .tuple #[.int .i64 0, .int .i64 0, .int .i64 1] ∧ w' = w) ?_).mono ?_
  · unfold vcP41
    exact gIf_intro h.isp ⟨none, h.rd, Wif_yes (by simp) ⟨rfl, rfl⟩⟩
  · rintro e w' ⟨v, rfl, rfl, h⟩
    exact ⟨rfl, h⟩
theorem n40 (h : NilC w p) (fr : Int) : Calls Try.prog 40 #[.pointer p, .int .i64 fr] w fun r w' => r = .returned (.tuple #[.pointer none, .int .i64 1]) ∧ w' = w := by
  refine (vc40 _ _ w (fun v w' => v = .tuple #[.pointer none, .int .i64 1] ∧ w' = w) ?_).mono ?_
  · unfold vcP40
    exact gIf_intro h.isp ⟨none, h.rd, Wif_yes (by simp) ⟨rfl, rfl⟩⟩
  · rintro e w' ⟨v, rfl, rfl, h⟩
    exact ⟨rfl, h⟩
theorem n37 (h : NilC w p) (fr : Int) (b : Option Addr) (l c : Nat) : Calls Try.prog 37 #[.pointer p, .int .i64 fr, .slice b l c] w fun r w' => r = .returned (.int .i64 1) ∧ w' = w := by
  refine (vc37 _ _ _ _ _ w (fun v w' => v = .int .i64 1 ∧ w' = w) ?_).mono ?_
  · unfold vcP37
    exact gIf_intro h.isp ⟨none, h.rd, Wif_yes (by simp) ⟨rfl, rfl⟩⟩
  · rintro e w' ⟨v, rfl, rfl, h⟩
    exact ⟨rfl, h⟩
theorem n38 (h : NilC w p) (fr i : Int) : Calls Try.prog 38 #[.pointer p, .int .i64 fr, .int .i64 i] w fun r w' => r = .returned (.int .i64 1) ∧ w' = w := by
  refine (vc38 _ _ _ w (fun v w' => v = .int .i64 1 ∧ w' = w) ?_).mono ?_
  · unfold vcP38
    refine (n40 h fr).mono ?_
    rintro _ w1 ⟨rfl, rfl⟩
    exact ⟨_, _, rfl, Wif_yes rfl ⟨rfl, rfl⟩⟩
  · rintro e w' ⟨v, rfl, rfl, h⟩
    exact ⟨rfl, h⟩
theorem n42 (h : NilC w p) (fr : Int) : Calls Try.prog 42 #[.pointer p, .int .i64 fr] w fun r w' => r = .returned (.int .i64 1) ∧ w' = w := by
  refine (vc42 _ _ w (fun v w' => v = .int .i64 1 ∧ w' = w) ?_).mono ?_
  · unfold vcP42
    refine (n40 h fr).mono ?_
    rintro _ w1 ⟨rfl, rfl⟩
    exact ⟨_, _, rfl, Wif_yes rfl ⟨rfl, rfl⟩⟩
  · rintro e w' ⟨v, rfl, rfl, h⟩
    exact ⟨rfl, h⟩
theorem n45 (h : NilC w p) : Calls Try.prog 45 #[.pointer p] w fun r w' => r = .returned (.int .i64 0) ∧ w' = w := by
  refine (vc45 _ w (fun v w' => v = .int .i64 0 ∧ w' = w) ?_).mono ?_
  · unfold vcP45
    exact gIf_intro h.isp ⟨none, h.rd, Wif_yes (by simp) ⟨rfl, rfl⟩⟩
  · rintro e w' ⟨v, rfl, rfl, h⟩
    exact ⟨rfl, h⟩
theorem n39 (h : NilC w p) : Calls Try.prog 39 #[.pointer p] w fun r w' => r = .returned (.slice none 0 0) ∧ w' = w := by
  refine (vc39 _ w (fun v w' => v = .slice none 0 0 ∧ w' = w) ?_).mono ?_
  · unfold vcP39
    exact gIf_intro h.isp ⟨none, h.rd, Wif_yes (by simp) ⟨rfl, rfl⟩⟩
  · rintro e w' ⟨v, rfl, rfl, h⟩
    exact ⟨rfl, h⟩
theorem n72 (x : Option Addr) (w : World) : Calls Try.prog 72 #[.slice none 0 0, .func (.func 66) #[] #[.pointer x]] w fun r w' => r = .returned (.int .i64 (-1)) ∧ w' = w := by
  refine (vc72 _ _ _ _ w (fun v w' => v = .int .i64 (-1) ∧ w' = w) ?_).mono ?_
  · unfold vcP72
    refine ⟨fun _ n w' m => n = 0 ∧ w' = w, ⟨0, rfl, rfl⟩, ?_⟩
    rintro _ n w' m ⟨rfl, rfl⟩
    exact Wif_no rfl ⟨rfl, rfl⟩
  · rintro e w' ⟨v, rfl, rfl, h⟩
    exact ⟨rfl, h⟩
theorem n65 (x : Option Addr) (w : World) : Calls Try.prog 65 #[.slice none 0 0, .func (.func 66) #[] #[.pointer x]] w fun r w' => r = .returned (.slice none 0 0) ∧ w' = w := by
  refine (vc65 _ _ _ _ w (fun v w' => v = .slice none 0 0 ∧ w' = w) ?_).mono ?_
  · unfold vcP65
    refine (n72 x w).mono ?_
    rintro _ w1 ⟨rfl, rfl⟩
    exact ⟨_, rfl, Wif_yes rfl ⟨rfl, rfl⟩⟩
  · rintro e w' ⟨v, rfl, rfl, h⟩
    exact ⟨rfl, h⟩
theorem n44 (h : NilC w p) : Calls Try.prog 44 #[.pointer p] w fun r w' => r = .returned (.slice none 0 0) ∧ Kept none' w w' := by
  refine (vc44 _ w (fun v w' => v = .slice none 0 0 ∧ Kept none' w w') ?_).mono ?_
  · unfold vcP44
    intro w1 e1
    have k1 := (Kept.refl none' w).al (c := #[.pointer p]) e1
    have o1 : own w1 w.heap.size [.pointer p] := own_alloc e1
    refine ⟨_, by rw [o1.rd]; rfl, (n39 (h.k k1)).mono ?_⟩
    rintro _ w2 ⟨rfl, rfl⟩
    refine ⟨_, _, _, rfl, (n65 _ w2).mono ?_⟩
    rintro _ w3 ⟨rfl, rfl⟩
    exact ⟨_, _, _, rfl, rfl, k1⟩
  · rintro e w' ⟨v, rfl, rfl, h⟩
    exact ⟨rfl, h⟩
end
theorem cnone_law (frame i : Int) (w : World) : Calls Try.prog 13 #[.int .i64 frame, .int .i64 i] w fun e w' => e = .returned (.bool true) ∧ Kept none' w w' := by
  refine (vc13 frame i w (fun v w' => v = .bool true ∧ Kept none' w w') ?_).mono ?_
  · unfold vcP13
    intro w1 e1
    have o1 : own w1 w.heap.size [.int .i64 0, .int .i64 0, .map none] := own_alloc e1
    have k1 := (Kept.refl none' w).al (c := #[.int .i64 0, .int .i64 0, .map none]) e1
    intro w2 e2
    have o2 : own w2 w1.heap.size [.pointer none, ptr w.heap.size] := own_alloc e2
    have k12 := (Kept.refl none' w1).al (c := #[.pointer none, ptr w.heap.size]) e2
    have k2 := k1.tr k12
    have z2 := o1.k k12
    refine ⟨fun b n w' m => ∃ k : Nat, n = k ∧ k ≤ 2 ∧ m = 2 - k ∧ Kept none' w2 w', ⟨2, 0, rfl, by omega, rfl, Kept.refl _ _⟩, ?_⟩
    rintro b n w3 m ⟨k, rfl, hk, rfl, k3⟩
    refine Wif_intro (fun hlt => ?_) (fun _ => fin_cknown (k2.tr k3))
    simp only [decide_eq_true_eq] at hlt
    have hp : ∃ p, rd w3 w1.heap.size (0 + Int.toNat (k : Int) * 1) = some (.pointer p) ∧ NilC w3 p := by
      rw [Int.toNat_natCast, Nat.zero_add, Nat.mul_one]
      have o3 := o2.k k3
      have z3 := z2.k k3
      match k, hlt with
      | 0, _ => exact ⟨none, (by rw [o3.rd]; rfl), ⟨fun h => (by cases h), fun h => (by cases h)⟩⟩
      | 1, _ => exact ⟨some ⟨w.heap.size, 0, none⟩, (by rw [o3.rd]; rfl), ⟨fun _ => rfl, fun _ => (by simp only [pb_some, po_some]; rw [z3.rd]; rfl)⟩⟩
    obtain ⟨p, hr, hnil⟩ := hp
    refine Wif_yes (inB_of (by omega) (by omega)) ⟨p, hr, (n41 hnil).mono ?_⟩
    rintro _ w4 ⟨rfl, rfl⟩
    refine ⟨_, _, _, rfl, (n40 hnil frame).mono ?_⟩
    rintro _ w4 ⟨rfl, rfl⟩
    refine ⟨_, _, rfl, Wif_no rfl ?_⟩
    intro w5 e5
    have k5 := (Kept.refl none' w4).al e5
    have h5 := hnil.k k5
    refine (n37 h5 frame _ _ _).mono ?_
    rintro _ w5 ⟨rfl, rfl⟩
    refine ⟨_, rfl, Wif_no rfl ((n38 h5 frame i).mono ?_)⟩
    rintro _ w5 ⟨rfl, rfl⟩
    refine ⟨_, rfl, Wif_no rfl ((n42 h5 frame).mono ?_)⟩
    rintro _ w5 ⟨rfl, rfl⟩
    refine ⟨_, rfl, Wif_no rfl ((n45 h5).mono ?_)⟩
    rintro _ w5 ⟨rfl, rfl⟩
    refine ⟨_, rfl, Wif_no rfl ((n39 h5).mono ?_)⟩
    rintro _ w5 ⟨rfl, rfl⟩
    refine ⟨_, _, _, rfl, (n44 h5).mono ?_⟩
    rintro _ w6 ⟨rfl, k6⟩
    exact ⟨_, _, _, rfl, Wif_no rfl ⟨2 - (k + 1), by omega, k + 1, by rw [wi (by omega)]; rfl, by omega, rfl, (k3.tr k5).tr k6⟩⟩
  · rintro e w' ⟨v, rfl, rfl, h⟩
    exact ⟨rfl, h⟩
end Go.Proofs.Ytkancagfhbkhiaa
