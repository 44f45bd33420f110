/-
  A part of a proof that a law of this seat returns true at every input. Conditions: those in each theorem.
-/
import Derived.Test.YtkmcmkimeibjdaaZC5
namespace Go.Proofs.Ytkmcmkimeibjdaa
open Go Eng
set_option linter.unusedSimpArgs false
set_option linter.unusedVariables false
set_option maxRecDepth 100000
/-! ### zones.Take -/
section
variable {w w' : World} {z : Nat} {S : Zs} {L : Nat → List Bk}
def ZTakeR (w w' : World) (z : Nat) (S : Zs) (L : Nat → List Bk) (len : Nat) (nf : Nat → Int) (floor : Int) (high : Bool) (v : Value) : Prop :=
  (((∃ i, i < len ∧ (nf i < 0 ∨ (S.k : Int) ≤ nf i)) ∨ floor < 0) ∧ v = .tuple #[.int .i64 0, .int .i64 2] ∧ w' = w) ∨
  ((∀ i, i < len → 0 ≤ nf i ∧ nf i < (S.k : Int)) ∧ 0 ≤ floor ∧ (∀ i, i < len → (zfr S L (nf i) : Int) ≤ floor) ∧ v = .tuple #[.int .i64 0, .int .i64 6] ∧ w' = w) ∨
  ((∀ i, i < len → 0 ≤ nf i ∧ nf i < (S.k : Int)) ∧ 0 ≤ floor ∧ ∃ (j i : Nat), j < len ∧ nf j = (i : Int) ∧ i < S.k ∧ floor < (fsum (L i) : Int) ∧ (∀ j', j' < j → (zfr S L (nf j') : Int) ≤ floor) ∧
    ∃ a l', v = .tuple #[.int .i64 (fstF S.c i + a), .int .i64 0] ∧ Kept (S.bl i) w w' ∧ ZAt w' z S (upd L i l') ∧ TakeR (L i) 0 high a 0 l')
theorem ztake_spec (h : ZAt w z S L) {nodes : Option Addr} {len cap : Nat} {nf : Nat → Int} (hlen : len ≤ 1000000) (hP : 0 < len → isP nodes = true) (hr : ∀ i, i < len → rd w (pb nodes) (po nodes + i) = some (.int .i64 (nf i))) (floor : Int) (high : Bool) :
    Calls Try.prog 22 #[ptr z, .slice nodes len cap, .int .i64 floor, .bool high] w fun r w' => ∃ v, r = .returned v ∧ ZTakeR w w' z S L len nf floor high v := by
  refine vc22 _ _ _ _ _ _ w (fun v w' => ZTakeR w w' z S L len nf floor high v) ?_
  unfold vcP22
  simp only [isP_some, Wif_true, gIf_true, pb_some, po_some, Nat.zero_add, Option.isNone_some, Bool.not_false, Bool.true_and]
  refine ⟨_, _, _, fun _ => h.r94, Wif_no rfl ?_⟩
  refine ⟨fun _ _ k w' N => ∃ q : Nat, k = q ∧ q ≤ len ∧ N = len - q ∧ w' = w ∧ ∀ i, i < q → 0 ≤ nf i ∧ nf i < (S.k : Int), ⟨len, 0, rfl, by omega, rfl, rfl, fun i hi => absurd hi (Nat.not_lt_zero _)⟩, ?_⟩
  rintro _ _ _ w1 _ ⟨q, rfl, hq, rfl, rfl, hv⟩
  refine Wif_intro (fun hc => ?_) (fun hc => ?_)
  · simp only [decide_eq_true_eq] at hc
    refine Wif_yes (hP (by omega)) (Wif_yes (inB_of (by omega) (by omega)) ⟨nf q, by rw [Int.toNat_natCast, Nat.mul_one]; exact hr q (by omega), _, _, _, fun _ => h.r94, ?_⟩)
    simp only [Option.isNone_some, Bool.not_false, Bool.true_and]
    refine ⟨_, _, _, fun _ => h.r94, Wif_intro (fun hc2 => ?_) (fun hc2 => ?_)⟩
    · refine .inl ⟨.inl ⟨q, by omega, ?_⟩, rfl, rfl⟩
      rcases Int.lt_or_le (nf q) 0 with h1 | h1
      · exact .inl h1
      · rcases Int.lt_or_le (nf q) (S.k : Int) with h2 | h2
        · rw [decide_eq_true (show nf q ≥ 0 from h1), decide_eq_true h2] at hc2; cases hc2
        · exact .inr h2
    · simp at hc2
      refine ⟨len - (q + 1), by omega, q + 1, by rw [wi (by omega)]; rfl, by omega, rfl, trivial, fun i hi => ?_⟩
      rcases Nat.lt_or_ge i q with hlt | hge
      · exact hv i hlt
      · have : i = q := by omega
        subst this; exact ⟨hc2.1, hc2.2⟩
  have hql : q = len := by simp at hc; omega
  subst hql
  refine Wif_intro (fun hc2 => ?_) (fun hc2 => ?_)
  · exact .inl ⟨.inr (by simpa using hc2), rfl, rfl⟩
  have hfl : 0 ≤ floor := by simp at hc2; omega
  refine ⟨fun _ _ k w' N => ∃ p : Nat, k = p ∧ p ≤ q ∧ N = q - p ∧ w' = w1 ∧ ∀ i, i < p → (zfr S L (nf i) : Int) ≤ floor, ⟨q, 0, rfl, by omega, rfl, rfl, fun i hi => absurd hi (Nat.not_lt_zero _)⟩, ?_⟩
  rintro _ _ _ _ _ ⟨p, rfl, hp, rfl, rfl, hlow⟩
  refine Wif_intro (fun hc3 => ?_) (fun hc3 => ?_)
  · simp only [decide_eq_true_eq] at hc3
    refine Wif_yes (hP (by omega)) (Wif_yes (inB_of (by omega) (by omega)) ⟨nf p, by rw [Int.toNat_natCast, Nat.mul_one]; exact hr p (by omega), (zfree_spec h (nf p)).mono ?_⟩)
    rintro _ _ ⟨rfl, rfl⟩
    refine ⟨_, rfl, Wif_intro (fun hc4 => ?_) (fun hc4 => ?_)⟩
    · simp only [decide_eq_true_eq] at hc4
      have hvp := hv p (by omega)
      obtain ⟨i, hi⟩ : ∃ i : Nat, nf p = (i : Int) := ⟨(nf p).toNat, by omega⟩
      have hik : i < S.k := by omega
      rw [hi, zfr_in hik] at hc4
      rw [hi]
      refine (ztakeOf_spec h hik 0 high).mono ?_
      rintro _ w2 ⟨a, e, l', rfl, k2, z2, r2⟩
      have he := takeR_ok r2 (by omega)
      subst he
      rw [if_pos rfl]
      exact ⟨_, _, rfl, .inr (.inr ⟨hv, hfl, p, i, by omega, hi, hik, by omega, hlow, a, l', rfl, k2, z2, r2⟩)⟩
    · simp only [decide_eq_false_iff_not] at hc4
      refine ⟨q - (p + 1), by omega, p + 1, by rw [wi (by omega)]; rfl, by omega, rfl, rfl, fun i hi => ?_⟩
      rcases Nat.lt_or_ge i p with hlt | hge
      · exact hlow i hlt
      · have : i = p := by omega
        subst this; omega
  · have hpq : p = q := by simp at hc3; omega
    subst hpq
    exact .inr (.inl ⟨hv, hfl, hlow, rfl, rfl⟩)
end
/-! ### two nodes of four frames -/
def twoF (i : Nat) : Int :=
  if i = 0 then 2 else if i = 1 then 1 else if i = 18 then 4 else if i = 19 then 4 else if i = 27 then 10 else if i = 34 then 10 else if i = 91 then 1 else if i = 92 then 2 else if i = 93 then 3 else 0
theorem two_cells : ((((([Value.int .i64 2, Value.int .i64 1] ++ (List.replicate 89 (Value.int .i64 0) ++ [Value.int .i64 1, Value.int .i64 2, Value.int .i64 3])).set 18 (.int .i64 4)).set 19 (.int .i64 4)).set 27 (.int .i64 10)).set 34 (.int .i64 10)) = cfg twoF := by kernel_rfl
theorem two_spec (w : World) : Calls Try.prog 49 #[] w fun r w' => r = .returned (cfgV twoF) ∧ Kept none' w w' := by
  refine (vc49 w (fun v w' => v = cfgV twoF ∧ Kept none' w w') ?_).mono ?_
  · unfold vcP49
    intro w1 e1 w2 e2
    have o1 := own_alloc e1
    have k1 : Kept none' w w1 := (Kept.refl _ _).al e1
    have o2 := o1.al e2
    have p2 := own_alloc e2
    have k2 : Kept none' w w2 := k1.al e2
    have z1 : w1.heap.size = w.heap.size + 1 := by rw [e1]; simp only [World.alloc, Array.size_push]
    clear e1 e2
    generalize hb : w.heap.size = b at *
    generalize hb2 : w1.heap.size = b2 at *
    have kb : ∀ {wa wb : World}, Kept none' w wa → Kept (· = b2) wa wb → Kept none' w wb := fun ka k => ka.trans k fun x hx e => by omega
    refine ⟨p2.wrAll 0 (by simp), ?_⟩
    intro w3 e3
    obtain ⟨p3, k3⟩ := stAll_whole p2 e3 (by simp)
    have o3 := o2.kx k3 (by omega)
    have K3 := kb k2 k3
    clear e3
    refine ⟨p3.wr (by simp), ?_⟩
    intro w4 e4
    have p4 := p3.s1 e4
    have o4 := o3.n1 e4 (by omega)
    have K4 := kb K3 ((Kept.refl _ _).s1 e4 (.inl rfl))
    refine ⟨p4.wr (by simp), ?_⟩
    intro w5 e5
    have p5 := p4.s1 e5
    have o5 := o4.n1 e5 (by omega)
    have K5 := kb K4 ((Kept.refl _ _).s1 e5 (.inl rfl))
    refine ⟨p5.wr (by simp), ?_⟩
    intro w6 e6
    have p6 := p5.s1 e6
    have o6 := o5.n1 e6 (by omega)
    have K6 := kb K5 ((Kept.refl _ _).s1 e6 (.inl rfl))
    refine ⟨p6.wr (by simp), ?_⟩
    intro w7 e7
    have p7 := p6.s1 e7
    have o7 := o6.n1 e7 (by omega)
    have K7 := kb K6 ((Kept.refl _ _).s1 e7 (.inl rfl))
    rw [two_cells] at p7
    refine ⟨twoF, p7.rIall, o7.wrAll 0 (by rw [runI_len]; simp), ?_⟩
    intro w8 e8
    obtain ⟨o8, k8⟩ := stAll_whole o7 e8 (by rw [runI_len]; simp)
    exact ⟨twoF, o8.rIall, rfl, K7.trans k8 fun x hx e => by omega⟩
  · rintro e w' ⟨v, rfl, rfl, hw⟩
    exact ⟨rfl, hw⟩
theorem two_may : MayP twoF := by
  refine ⟨by decide, by decide, by decide, by decide +kernel, by decide, by decide, ?_, by decide, by decide, by decide⟩
  intro i k hi hk
  have e : (twoF 0).toNat = 2 := rfl
  rw [e] at hi hk
  have : i = 0 ∨ i = 1 := by omega
  have : k = 0 ∨ k = 1 := by omega
  rcases ‹i = 0 ∨ i = 1› with rfl | rfl <;> rcases ‹k = 0 ∨ k = 1› with rfl | rfl <;> (unfold nearO; decide)
end Go.Proofs.Ytkmcmkimeibjdaa
