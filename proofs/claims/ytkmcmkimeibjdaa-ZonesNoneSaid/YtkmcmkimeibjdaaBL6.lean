/-
  A part of a proof that a law of this seat returns true at every input. Conditions: those in each theorem.
-/
import Derived.Test.YtkmcmkimeibjdaaBL5
namespace Go.Proofs.Ytkmcmkimeibjdaa
open Go Eng
set_option linter.unusedSimpArgs false
set_option linter.unusedVariables false
set_option maxRecDepth 100000
/-! ### Give -/
def GiveR (l : List Bk) (a order e : Int) (l' : List Bk) : Prop :=
  ((a, order) ∉ tk l ∧ e = 2 ∧ l' = l) ∨
  (∃ x ∈ l, x.g = 1 ∧ a = (x.p : Int) ∧ order = (x.o : Int) ∧ e = 0 ∧ (∀ y : Bk, y.g = 1 → (y ∈ l' ↔ y ∈ l ∧ y ≠ x)) ∧ fsum l' = fsum l + 2 ^ x.o)
theorem q_of {a o : Nat} (h : a % 2 ^ o = 0) : a = a / 2 ^ o * 2 ^ o := by
  have e := Nat.div_add_mod a (2 ^ o)
  rw [h, Nat.add_zero, Nat.mul_comm] at e
  exact e.symm
theorem bud_xor {a o : Nat} (h : a % 2 ^ o = 0) (ha : a ≤ 1000000) (ho : o ≤ 10) : bitsI .xor .i64 (a : Int) ((2 ^ o : Nat) : Int) = ((bud a o : Nat) : Int) := by
  have := pow10 ho
  rw [xor_nat (by omega) (by omega)]
  congr 1
  have hq := q_of h
  unfold bud
  generalize a / 2 ^ o = q at *
  subst hq
  rw [xor_pow]
  split
  · rw [Nat.add_mul, Nat.one_mul]
  · rw [Nat.sub_mul, Nat.one_mul]
theorem bud_not {a o : Nat} (h : a % 2 ^ o = 0) (ha : a ≤ 1000000) (ho : o ≤ 10) : bitsI .andNot .i64 (a : Int) ((2 ^ o : Nat) : Int) = ((if a / 2 ^ o % 2 = 0 then a else a - 2 ^ o : Nat) : Int) := by
  have := pow10 ho
  rw [andNot_nat (by omega) (by omega)]
  congr 1
  have hq := q_of h
  generalize a / 2 ^ o = q at *
  subst hq
  rw [andNot_pow]
  split <;> rename_i hc
  · rw [hc, Nat.sub_zero]
  · rw [show q % 2 = 1 by omega, Nat.sub_mul, Nat.one_mul]
theorem look_ent1 (l : List Int) (k : Int) : ((ent1 l).lookup k).getD (.bool false) = .bool (decide (k ∈ l)) := by
  cases h : (ent1 l).lookup k with
  | none =>
    have : k ∉ l := fun hm => by
      induction l with
      | nil => cases hm
      | cons x l ih =>
        simp only [ent1, List.map_cons, List.lookup_cons] at h
        by_cases e : k = x
        · subst e; simp at h
        · rw [show (k == x) = false by simpa using e] at h
          rcases List.mem_cons.1 hm with rfl | hm
          · exact e rfl
          · exact ih h hm
    simp [this]
  | some v =>
    obtain ⟨x, hx, e⟩ := List.mem_map.1 (mem_of_lookup h)
    cases e
    simp [hx]
theorem look_entT (l : List (Int × Int)) (k : Int) : (∃ j, (k, j) ∈ l ∧ (entT l).lookup k = some (.int .i64 j)) ∨ ((∀ j, (k, j) ∉ l) ∧ (entT l).lookup k = none) := by
  cases h : (entT l).lookup k with
  | none =>
    refine .inr ⟨fun j hm => ?_, rfl⟩
    induction l with
    | nil => cases hm
    | cons x l ih =>
      simp only [entT, List.map_cons, List.lookup_cons] at h
      by_cases e : k = x.1
      · subst e; simp at h
      · rw [show (k == x.1) = false by simpa using e] at h
        rcases List.mem_cons.1 hm with rfl | hm
        · exact e rfl
        · exact ih h hm
  | some v =>
    obtain ⟨⟨x, y⟩, hx, e⟩ := List.mem_map.1 (mem_of_lookup h)
    cases e
    exact .inl ⟨y, hx, rfl⟩
section
variable {w w1 w' : World} {b t : Nat} {m : Nat → Nat} {n : Nat} {l : List Bk}
theorem zero4 (w : World) : (zeroValue 4).run Try.prog w = .ok (.bool false) w := Try.zeroValue4 w
theorem zero3 (w : World) : (zeroValue 3).run Try.prog w = .ok (.int .i64 0) w := Try.zeroValue3 w
theorem give_spec (h : BAt w b m t (stOf n l)) (hi : Inv n l) (a order : Int) :
    Calls Try.prog 16 #[ptr b, .int .i64 a, .int .i64 order] w fun r w' => ∃ e l', r = .returned (.int .i64 e) ∧ Kept (bblk b m t) w w' ∧ BAt w' b m t (stOf n l') ∧ Inv n l' ∧ GiveR l a order e l' := by
  refine (vc16 _ _ _ w (fun v w' => ∃ e l', v = .int .i64 e ∧ Kept (bblk b m t) w w' ∧ BAt w' b m t (stOf n l') ∧ Inv n l' ∧ GiveR l a order e l') ?_).mono ?_
  · have hn128 := hi.n1.2
    unfold vcP16
    simp only [isP_some, Wif_true, gIf_true, pb_some, po_some, Nat.zero_add]
    refine ⟨_, fun _ => h.r12, Wif_no rfl ⟨_, h.r12, ?_⟩⟩
    have hlk := look2 (mt := 49) (vt := 3) (kt := 3) Try.underlying49 Try.underlying3 h.mt a (zero3 w)
    rcases look_entT (tk l) a with ⟨j, hj, e⟩ | ⟨hj, e⟩
    rotate_left
    · have e' : (entT (stOf n l).T).lookup a = none := e
      rw [e'] at hlk
      refine ⟨0, false, hlk, Wif_yes (by simp) ⟨_, l, rfl, Kept.refl _ _, h, hi, .inl ⟨hj _, rfl, rfl⟩⟩⟩
    have e' : (entT (stOf n l).T).lookup a = some (.int .i64 j) := e
    rw [e'] at hlk
    refine ⟨j, true, hlk, Wif_intro (fun hc => ?_) (fun hc => ?_)⟩
    · simp at hc
      refine ⟨_, l, rfl, Kept.refl _ _, h, hi, .inl ⟨fun hm => ?_, rfl, rfl⟩⟩
      obtain ⟨x, hx, gx, px, ox⟩ := mem_tk.1 hj
      obtain ⟨y, hy, gy, py, oy⟩ := mem_tk.1 hm
      have := tile_start hi.tl hx hy (by omega)
      subst this
      omega
    simp at hc
    subst hc
    obtain ⟨⟨xp, xo, xg⟩, hx, gx, px, ox⟩ := mem_tk.1 hj
    dsimp only at gx px ox
    subst gx px ox
    obtain ⟨A, B, rfl⟩ := List.append_of_mem hx
    refine ⟨_, h.r12, ?_⟩
    obtain ⟨w2, hd, k2, h2⟩ := h.give hi.tl
    refine ⟨w2, hd, ?_⟩
    have m2 : Mid n A ⟨xp, xo, 2⟩ B := hi.mid rfl rfl
    refine ⟨fun at' k w' N => ∃ (A' B' : List Bk) (kk aa : Nat), k = kk ∧ at' = aa ∧ N = 10 - kk ∧ kk ≤ 10 ∧ Mid n A' ⟨aa, kk, 2⟩ B' ∧ BAt w' b m t (stOf n (A' ++ ⟨aa, kk, 2⟩ :: B')) ∧ Kept (bblk b m t) w w' ∧
        (∀ y : Bk, y.g = 1 → (y ∈ A' ++ B' ↔ y ∈ A ++ B)) ∧ fsum (A' ++ B') + 2 ^ kk = fsum (A ++ B) + 2 ^ xo,
      ⟨10 - xo, A, B, xo, xp, rfl, rfl, rfl, by have := m2.num; dsimp only at this; omega, m2, h2, kbt (Kept.refl _ _) k2, fun y _ => Iff.rfl, rfl⟩, ?_⟩
    rintro _ _ w3 _ ⟨A', B', kk, aa, rfl, rfl, rfl, hk10, m3, h3, K3, hset, hsum⟩ w4 e4
    have hnum := m3.num
    dsimp only at hnum
    have h4 := h3.k ((Kept.refl _ _).dr e4)
    have K4 := K3.dr e4
    refine gIf_intro (fun hc => by simp at hc; exact inB_of (by omega) (by omega)) ?_
    refine ⟨some (m kk), fun hc => by rw [Int.toNat_natCast, Nat.mul_one]; exact h4.rm (by omega), ?_⟩
    refine gIf_intro (fun hc => by simp) ?_
    rw [shl1 hk10, bud_xor hnum.2.2 (by omega) hk10]
    have hfr : fr kk (A' ++ ⟨aa, kk, 2⟩ :: B') = fr kk (A' ++ B') := by simp only [fr_app, fr_cons]; simp
    have hlk := look1 (mt := 75) (vt := 4) (kt := 3) Try.underlying75 Try.underlying3 (h4.mf kk (by omega)) ((bud aa kk : Nat) : Int) (zero4 w4)
    rw [look_ent1] at hlk
    have ef : (stOf n (A' ++ ⟨aa, kk, 2⟩ :: B')).F kk = fr kk (A' ++ B') := hfr
    rw [ef] at hlk
    refine ⟨_, fun _ => hlk, Wif_intro (fun hc => ?_) (fun hc => ?_)⟩
    · simp only [Bool.and_eq_true, decide_eq_true_eq] at hc
      obtain ⟨hc1, hc2⟩ := hc
      have hk1 : kk < 10 := by omega
      intro w5 e5
      have h5 := h4.k ((Kept.refl _ _).dr e5)
      have K5 := K4.dr e5
      refine Wif_yes (inB_of (by omega) (by omega)) ⟨_, by rw [Int.toNat_natCast, Nat.mul_one]; exact h5.rm (by omega), Wif_yes (by simp) ?_⟩
      rw [bud_not hnum.2.2 (by omega) hk10]
      have e2 : 2 ^ (kk + 1) = 2 ^ kk + 2 ^ kk := by rw [Nat.pow_succ]; omega
      rcases m3.one (g' := 2) hk1 hc2 with ⟨hev, B1, rfl, m6⟩ | ⟨hod, A1, rfl, hle, m6⟩
      · rw [if_pos hev]
        have eb : bud aa kk = aa + 2 ^ kk := by unfold bud; rw [if_pos hev]
        rw [eb]
        obtain ⟨w6, hd6, k6, h6⟩ := h5.oneL hk1 m6.tl
        refine ⟨w6, hd6, Wif_yes (by simp) ⟨10 - (kk + 1), by omega, A', B1, kk + 1, aa, by rw [wi (by omega)]; rfl, rfl, rfl, by omega, m6, h6, kbm K5 (by omega) k6, fun y hy => ?_, ?_⟩⟩
        · rw [← hset y hy]
          simp only [List.mem_append, List.mem_cons]
          constructor
          · rintro (h | h)
            · exact .inl h
            · exact .inr (.inr h)
          · rintro (h | rfl | h)
            · exact .inl h
            · cases hy
            · exact .inr h
        · simp only [fsum_app, fsum_cons] at hsum ⊢
          simp at hsum
          omega
      · rw [if_neg (by omega)]
        have eb : bud aa kk = aa - 2 ^ kk := by unfold bud; rw [if_neg (by omega)]
        rw [eb]
        obtain ⟨w6, hd6, k6, h6⟩ := h5.oneU hk1 m6.tl
        refine ⟨w6, hd6, Wif_yes (by simp) ⟨10 - (kk + 1), by omega, A1, B', kk + 1, aa - 2 ^ kk, by rw [wi (by omega)]; rfl, rfl, rfl, by omega, m6, h6, kbm K5 (by omega) k6, fun y hy => ?_, ?_⟩⟩
        · rw [← hset y hy]
          simp only [List.mem_append, List.mem_cons, List.not_mem_nil, or_false]
          constructor
          · rintro (h | h)
            · exact .inl (.inl h)
            · exact .inr h
          · rintro ((h | rfl) | h)
            · exact .inl h
            · cases hy
            · exact .inr h
        · simp only [fsum_app, fsum_cons, fsum] at hsum ⊢
          simp at hsum
          omega
    · refine Wif_yes (inB_of (by omega) (by omega)) ⟨_, by rw [Int.toNat_natCast, Nat.mul_one]; exact h4.rm (by omega), ?_⟩
      obtain ⟨w5, hu, k5, h5⟩ := h4.free m3.tl hn128
      refine ⟨w5, hu, _, _, rfl, kbm K4 (by omega) k5, h5, m3.free fun hlt hm => ?_, .inr ⟨⟨xp, xo, 1⟩, hx, rfl, rfl, rfl, rfl, fun y hy => ?_, ?_⟩⟩
      · simp [hm] at hc; omega
      · have hs := hset y hy
        have hsep := sep_ne hi.tl (k := xp) (Nat.le_refl _) (by have := p2 xo; dsimp only; omega)
        simp only [List.mem_append, List.mem_cons] at hs ⊢
        constructor
        · intro hm
          have hm' : y ∈ A ∨ y ∈ B := by
            rcases hm with h | rfl | h
            · exact hs.1 (.inl h)
            · cases hy
            · exact hs.1 (.inr h)
          refine ⟨by rcases hm' with h | h <;> simp [h], fun e => ?_⟩
          subst e
          rcases hm' with h | h
          · exact hsep.1 _ h rfl
          · exact hsep.2 _ h rfl
        · rintro ⟨hm, hne⟩
          have hm' : y ∈ A ∨ y ∈ B := by
            rcases hm with h | h | h
            · exact .inl h
            · exact absurd h hne
            · exact .inr h
          rcases hs.2 hm' with h | h
          · exact .inl h
          · exact .inr (.inr h)
      · simp only [fsum_app, fsum_cons] at hsum ⊢
        simp
        omega
  · rintro e w' ⟨v, rfl, e, l', rfl, hw⟩
    exact ⟨e, l', rfl, hw⟩
end
end Go.Proofs.Ytkmcmkimeibjdaa
