/-
  A part of a proof that a law of this seat returns true at every input. Conditions: those in each theorem.
-/
import Derived.Test.YtkmcmkimeibjdaaBD3
namespace Go.Proofs.Ytkmcmkimeibjdaa
open Go Eng
set_option linter.unusedSimpArgs false
set_option linter.unusedVariables false
set_option maxRecDepth 100000
/-! ### Copy -/
section
variable {w w' : World} {b t : Nat} {m : Nat → Nat} {s : Bst}
theorem copy_spec (h : BAt w b m t s) : Calls Try.prog 18 #[ptr b] w fun r w' => ∃ b' m' t', r = .returned (ptr b') ∧ Kept none' w w' ∧ BAt w' b' m' t' s ∧ ∀ x, bblk b' m' t' x → w.heap.size ≤ x := by
  refine (vc18 _ w (fun v w' => ∃ b' m' t', v = ptr b' ∧ Kept none' w w' ∧ BAt w' b' m' t' s ∧ ∀ x, bblk b' m' t' x → w.heap.size ≤ x) ?_).mono ?_
  · unfold vcP18
    simp only [isP_some, Wif_true, gIf_true, pb_some, po_some, Nat.zero_add]
    refine ⟨_, fun _ => h.r12, Wif_no rfl ?_⟩
    intro w1 e1
    have k1 : Kept none' w w1 := (Kept.refl _ _).dr e1
    have h1 := h.k k1
    refine ⟨_, h1.r0, _, h1.r12, (clone_int h1.mt).mono ?_⟩
    rintro _ w2 ⟨rfl, k2, mt2⟩
    have h2 := h1.k k2
    refine ⟨_, rfl, ⟨h2.r0, trivial⟩, ?_⟩
    intro w3 e3
    have o3 := own_alloc (c := [Value.int .i64 s.n] ++ (List.replicate 11 (.map none) ++ [.map (some w1.heap.size)])) e3
    have k3 : Kept none' w w3 := ((k1.tr k2).al e3)
    have mt3 := mt2.al e3
    have hz1 := k1.sz
    have hz2 := k2.sz
    have ht := mt2.lt
    generalize w1.heap.size = t' at *
    generalize hb' : w2.heap.size = b' at *
    have z3 : w3.heap.size = b' + 1 := by rw [e3, ← hb']; simp only [World.alloc, Array.size_push]
    refine ⟨fun k w' n => ∃ (q : Nat) (m' : Nat → Nat), k = q ∧ q ≤ 11 ∧ n = 11 - q ∧ Kept none' w w' ∧ own w' b' (brawN s.n m' t' q) ∧ MapIs w' t' (entT s.T) ∧ (∀ o, o < q → MapIs w' (m' o) (ent1 (s.F o)) ∧ b' < m' o) ∧ (∀ o o', o < q → o' < q → o ≠ o' → m' o ≠ m' o'),
      ⟨11, 0, fun _ => 0, rfl, by omega, rfl, k3, by rw [brawN_0]; exact o3, mt3, fun o ho => by omega, fun o o' ho => by omega⟩, ?_⟩
    rintro k w4 n ⟨q, m', rfl, hq, rfl, k4, o4, mt4, mf4, dm4⟩
    refine Wif_intro (fun hc => ?_) (fun hc => ?_)
    · have hq0 : q < 11 := by simp at hc; omega
      intro w5 e5
      have k45 : Kept none' w4 w5 := (Kept.refl _ _).dr e5
      have k5 := k4.tr k45
      have h5 := h.k k5
      refine Wif_yes (inB_of (by omega) (by omega)) ⟨_, by rw [Int.toNat_natCast, Nat.mul_one]; exact h5.rm hq0, (clone_bool (h5.mf q hq0)).mono ?_⟩
      rintro _ w6 ⟨rfl, k6, m6⟩
      have o6 := (o4.k k45).k k6
      refine ⟨_, rfl, Wif_yes (inB_of (by omega) (by omega)) ⟨by rw [Int.toNat_natCast, Nat.mul_one]; exact o6.wr (by rw [brawN_len]; omega), ?_⟩⟩
      intro w7 e7
      rw [Int.toNat_natCast, Nat.mul_one] at e7
      have o7 := o6.s1 e7
      rw [brawN_set _ _ _ hq0] at o7
      have z4 := k4.sz
      have ob4 := o4.lt
      have z45 := k45.sz
      have k67 : Kept (· = b') w6 w7 := (Kept.refl _ _).s1 e7 (.inl rfl)
      have hm5 : ∀ o, o < q → m' o < w5.heap.size := fun o ho => by have := (mf4 o ho).1.lt; omega
      refine ⟨11 - (q + 1), by omega, q + 1, upd m' q w5.heap.size, by rw [wi (by omega)]; rfl, by omega, rfl, (k5.tr k6).s1 e7 (.inr (by omega)), o7, ((mt4.k k45).k k6).kx k67 (by omega), fun o ho => ?_, fun o o' ho ho' hne => ?_⟩
      · by_cases hoq : o = q
        · subst hoq
          rw [upd_same]
          exact ⟨m6.kx k67 (by omega), by omega⟩
        · rw [upd_ne _ _ hoq]
          have := mf4 o (by omega)
          exact ⟨((this.1.k k45).k k6).kx k67 (by omega), this.2⟩
      · by_cases hoq : o = q
        · subst hoq
          rw [upd_same, upd_ne _ _ (Ne.symm hne)]
          have := hm5 o' (by omega)
          omega
        · rw [upd_ne _ _ hoq]
          by_cases hoq' : o' = q
          · subst hoq'
            rw [upd_same]
            have := hm5 o (by omega)
            omega
          · rw [upd_ne _ _ hoq']
            exact dm4 o o' (by omega) (by omega) hne
    · have hq0 : q = 11 := by simp at hc; omega
      subst hq0
      rw [brawN_11] at o4
      refine ⟨b', m', t', rfl, k4, ⟨o4, fun o ho => (mf4 o ho).1, mt4, fun o o' ho ho' hne => dm4 o o' ho ho' hne, fun o ho => ⟨by have := (mf4 o ho).2; omega, by have := (mf4 o ho).2; omega⟩, by omega⟩, fun x hx => ?_⟩
      rcases hx with rfl | rfl | ⟨o, ho, rfl⟩
      · omega
      · omega
      · have := (mf4 o ho).2; omega
  · rintro e w' ⟨v, rfl, b', m', t', rfl, hw⟩
    exact ⟨b', m', t', rfl, hw⟩
end
end Go.Proofs.Ytkmcmkimeibjdaa
