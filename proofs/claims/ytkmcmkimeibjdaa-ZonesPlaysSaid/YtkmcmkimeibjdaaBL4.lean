/-
  A part of a proof that a law of this seat returns true at every input. Conditions: those in each theorem.
-/
import Derived.Test.YtkmcmkimeibjdaaBL2
namespace Go.Proofs.Ytkmcmkimeibjdaa
open Go Eng
set_option linter.unusedSimpArgs false
set_option linter.unusedVariables false
set_option maxRecDepth 100000
/-! ### pick -/
section
variable {w w' : World} {b t : Nat} {m : Nat → Nat} {s : Bst}
theorem ptrB (b : Nat) : ptr b = .pointer (some ⟨b, 0, none⟩) := rfl
theorem pick_spec (h : BAt w b m t s) (hs : Small s) {o : Nat} (ho : o < 11) (hne : s.F o ≠ []) (high : Bool) :
    Calls Try.prog 45 #[ptr b, .int .i64 (o : Int), .bool high] w fun r w' => ∃ a, r = .returned (.int .i64 a) ∧ a ∈ s.F o ∧ (∀ x ∈ s.F o, if high then x ≤ a else a ≤ x) ∧ Kept none' w w' := by
  refine (vc45 _ _ _ w (fun v w' => ∃ a, v = .int .i64 a ∧ a ∈ s.F o ∧ (∀ x ∈ s.F o, if high then x ≤ a else a ≤ x) ∧ Kept none' w w') ?_).mono ?_
  · unfold vcP45
    simp only [isP_some, Wif_true, gIf_true, pb_some, po_some, Nat.zero_add]
    refine Wif_yes (inB_of (by omega) (by omega)) ⟨_, by rw [Int.toNat_natCast, Nat.mul_one]; exact h.rm ho, (keys_call _ w).mono ?_⟩
    rintro _ w1 ⟨rfl, e1⟩
    refine ⟨_, rfl, (sorted_call (h.mf o ho) (by simpa using hs o ho) e1).mono ?_⟩
    rintro _ w2 ⟨a, c, ks, rfl, hks, row, k2⟩
    refine ⟨_, _, _, rfl, ?_⟩
    have hm1 : (ent1 (s.F o)).map (·.1) = s.F o := by simp [ent1, Function.comp_def]
    rw [hm1] at hks
    have hperm : ks.Perm (s.F o) := by rw [hks]; exact List.mergeSort_perm _ _
    have hlen : ks.length = (s.F o).length := hperm.length_eq
    have hpos : 0 < ks.length := by rw [hlen]; exact List.length_pos_iff.2 hne
    have hl := hs o ho
    have hsorted : ks.Pairwise (fun x y => x ≤ y) := by
      have := List.pairwise_mergeSort (le := fun (x y : Int) => decide (x ≤ y)) (by intro a b c h1 h2; simp at *; omega) (by intro a b; simp; omega) (s.F o)
      rw [← hks] at this
      exact this.imp fun h => by simpa using h
    obtain ⟨_, hh⟩ := ownsRow_own row
    rcases hh with ⟨_, h0, _⟩ | ⟨g, cs, rfl, hg, og, htk, _, _⟩
    · omega
    have hrd : ∀ i (hi : i < ks.length), rd w2 g i = some (.int .i64 ks[i]) := fun i hi => by
      rw [og.rd]
      have : (cs.take (ks.length * 1))[i]? = some (.int .i64 ks[i]) := by rw [htk]; simp [hi]
      rw [List.getElem?_take] at this
      split at this
      · exact this
      · cases this
    cases high
    · simp only [Wif_false, isP_some, Wif_true]
      refine Wif_yes (inB_of (by omega) (by omega)) ⟨_, hrd 0 hpos, _, rfl, hperm.mem_iff.1 (List.getElem_mem _), fun x hx => ?_, k2⟩
      simp only [Bool.false_eq_true, if_false]
      obtain ⟨i, hi, rfl⟩ := List.mem_iff_getElem.1 (hperm.mem_iff.2 hx)
      rcases Nat.eq_zero_or_pos i with rfl | hp
      · exact Int.le_refl _
      · exact List.pairwise_iff_getElem.1 hsorted 0 i hpos hi hp
    · simp only [isP_some, Wif_true, pb_some, po_some]
      have ew : IntKind.wrap .i64 ((ks.length : Int) - 1) = ((ks.length - 1 : Nat) : Int) := by rw [wi (by omega)]; omega
      rw [ew]
      refine Wif_yes (inB_of (by omega) (by omega)) ⟨_, by rw [Int.toNat_natCast, Nat.mul_one, Nat.zero_add]; exact hrd _ (by omega), _, rfl, hperm.mem_iff.1 (List.getElem_mem _), fun x hx => ?_, k2⟩
      simp only [if_true]
      obtain ⟨i, hi, rfl⟩ := List.mem_iff_getElem.1 (hperm.mem_iff.2 hx)
      rcases Nat.lt_or_ge i (ks.length - 1) with hp | hp
      · exact List.pairwise_iff_getElem.1 hsorted i _ hi (by omega) hp
      · have : i = ks.length - 1 := by omega
        subst this
        exact Int.le_refl _
  · rintro e w' ⟨v, rfl, a, rfl, hw⟩
    exact ⟨a, rfl, hw⟩
end
end Go.Proofs.Ytkmcmkimeibjdaa
namespace Go.Proofs.Ytkmcmkimeibjdaa
open Go Eng
set_option linter.unusedSimpArgs false
set_option linter.unusedVariables false
set_option maxRecDepth 100000
/-! ### Take -/
def TakeR (l : List Bk) (order : Int) (high : Bool) (a e : Int) (l' : List Bk) : Prop :=
  ((order < 0 ∨ 10 < order) ∧ a = 0 ∧ e = 2 ∧ l' = l) ∨
  (∃ o : Nat, order = (o : Int) ∧ o ≤ 10 ∧ (∀ x ∈ l, x.g = 0 → x.o < o) ∧ a = 0 ∧ e = 6 ∧ l' = l) ∨
  (∃ (o : Nat) (x : Bk) (r : Nat), order = (o : Int) ∧ o ≤ x.o ∧ x ∈ l ∧ x.g = 0 ∧ (∀ y ∈ l, y.g = 0 → o ≤ y.o → x.o ≤ y.o) ∧ (∀ y ∈ l, y.g = 0 → y.o = x.o → if high then y.p ≤ x.p else x.p ≤ y.p) ∧
    a = (r : Int) ∧ (if high then r + 2 ^ o = x.p + 2 ^ x.o else r = x.p) ∧ e = 0 ∧ (∀ y : Bk, y.g = 1 → (y ∈ l' ↔ y ∈ l ∨ y = ⟨r, o, 1⟩)) ∧ fsum l' + 2 ^ o = fsum l)
theorem pow10 {o : Nat} (h : o ≤ 10) : 2 ^ o ≤ 1024 := Nat.pow_le_pow_right (n := 2) (by omega) h
theorem shl1 {o : Nat} (ho : o ≤ 10) : IntKind.wrap .i64 (1 * 2 ^ min (Int.toNat (o : Int)) 64) = ((2 ^ o : Nat) : Int) := by
  have := shl_small (x := 1) (o := o) (by omega) (by omega)
  simpa using this
section
variable {w w1 w' : World} {b t : Nat} {m : Nat → Nat} {n : Nat} {l : List Bk}
theorem kbm {o : Nat} (h : Kept (bblk b m t) w w1) (ho : o < 11) (k : Kept (· = m o) w1 w') : Kept (bblk b m t) w w' := h.trans k fun x _ e => .inr (.inr ⟨o, ho, e⟩)
theorem kbt (h : Kept (bblk b m t) w w1) (k : Kept (· = t) w1 w') : Kept (bblk b m t) w w' := h.trans k fun x _ e => .inr (.inl e)
theorem take_spec (h : BAt w b m t (stOf n l)) (hi : Inv n l) (order : Int) (high : Bool) :
    Calls Try.prog 15 #[ptr b, .int .i64 order, .bool high] w fun r w' => ∃ a e l', r = .returned (.tuple #[.int .i64 a, .int .i64 e]) ∧ Kept (bblk b m t) w w' ∧ BAt w' b m t (stOf n l') ∧ Inv n l' ∧ TakeR l order high a e l' := by
  refine (vc15 _ _ _ w (fun v w' => ∃ a e l', v = .tuple #[.int .i64 a, .int .i64 e] ∧ Kept (bblk b m t) w w' ∧ BAt w' b m t (stOf n l') ∧ Inv n l' ∧ TakeR l order high a e l') ?_).mono ?_
  · have hs := small_st hi.tl hi.n1.2
    unfold vcP15
    simp only [isP_some, Wif_true, gIf_true, pb_some, po_some, Nat.zero_add]
    refine ⟨_, fun _ => h.r12, Wif_no rfl ?_⟩
    refine Wif_intro (fun hc => ?_) (fun hc => ?_)
    · simp at hc
      exact ⟨_, _, l, rfl, Kept.refl _ _, h, hi, .inl ⟨by omega, rfl, rfl, rfl⟩⟩
    simp at hc
    obtain ⟨o, rfl⟩ : ∃ o : Nat, order = (o : Int) := ⟨order.toNat, by omega⟩
    have ho10 : o ≤ 10 := by omega
    refine ⟨fun k w' N => w' = w ∧ ∃ q : Nat, k = q ∧ q ≤ 11 ∧ N = 11 - q ∧ o ≤ q ∧ ∀ j, o ≤ j → j < q → fr j l = [], ⟨11 - o, rfl, o, rfl, by omega, rfl, Nat.le_refl _, fun j h1 h2 => by omega⟩, ?_⟩
    rintro _ w1 _ ⟨rfl, q, rfl, hq, rfl, hoq, hem⟩
    refine gIf_intro (fun hc => by simp at hc; exact inB_of (by omega) (by omega)) ?_
    refine ⟨some (m q), fun hc => ?_, ((fr q l).length : Int), fun hc => ?_, ?_⟩
    · simp at hc
      rw [Int.toNat_natCast, Nat.mul_one]
      exact h.rm (by omega)
    · simp at hc
      exact h.len hs (by omega)
    refine Wif_intro (fun hc => ?_) (fun hc => ?_)
    · simp only [Bool.and_eq_true, decide_eq_true_eq, beq_iff_eq] at hc
      refine ⟨11 - (q + 1), by omega, rfl, q + 1, by rw [wi (by omega)]; rfl, by omega, rfl, by omega, fun j h1 h2 => ?_⟩
      rcases Nat.lt_or_ge j q with hlt | hge
      · exact hem j h1 hlt
      · have : j = q := by omega
        subst this
        exact List.length_eq_zero_iff.1 (by omega)
    refine Wif_intro (fun hc2 => ?_) (fun hc2 => ?_)
    · simp only [decide_eq_true_eq] at hc2
      refine ⟨_, _, l, rfl, Kept.refl _ _, h, hi, .inr (.inl ⟨o, rfl, ho10, fun x hx hg => ?_, rfl, rfl, rfl⟩)⟩
      refine Nat.lt_of_not_le fun hle => ?_
      have hx10 := (tile_mem hi.tl hx).2.2.2
      have := hem x.o hle (by omega)
      have h2 := (fr_pos (j := x.o) (l := l)).2 ⟨x, hx, hg, rfl⟩
      rw [this] at h2
      simp at h2
    have hq10 : q ≤ 10 := by simp at hc2; omega
    have hne : fr q l ≠ [] := by
      intro e
      rw [e] at hc
      simp at hc
      omega
    refine (pick_spec h hs (o := q) (by omega) hne high).mono ?_
    rintro _ w2 ⟨a, rfl, ham, hext, k2⟩
    refine ⟨_, rfl, ?_⟩
    have h2 := h.k k2
    obtain ⟨⟨xp, xo, xg⟩, hx, gx, ox, rfl⟩ := mem_fr.1 ham
    dsimp only at gx ox
    subst gx ox
    obtain ⟨A, B, rfl⟩ := List.append_of_mem hx
    refine Wif_yes (inB_of (by omega) (by omega)) ⟨_, by rw [Int.toNat_natCast, Nat.mul_one]; exact h2.rm (by omega), ?_⟩
    obtain ⟨w3, hd, k3, h3⟩ := h2.hold hi.tl
    refine ⟨w3, hd, ?_⟩
    have m3 : Mid n A ⟨xp, xo, 2⟩ B := hi.mid rfl rfl
    have K3 : Kept (bblk b m t) w1 w3 := kbm (k2.mono fun _ _ h => h.elim) (by omega) k3
    refine ⟨fun k at' w' N => ∃ (A' B' : List Bk) (kk aa : Nat), k = kk ∧ at' = aa ∧ N = kk - o ∧ o ≤ kk ∧ kk ≤ xo ∧ Mid n A' ⟨aa, kk, 2⟩ B' ∧ BAt w' b m t (stOf n (A' ++ ⟨aa, kk, 2⟩ :: B')) ∧ Kept (bblk b m t) w1 w' ∧
        (if high then aa + 2 ^ kk = xp + 2 ^ xo else aa = xp) ∧ (∀ y : Bk, y.g = 1 → (y ∈ A' ++ B' ↔ y ∈ A ++ B)) ∧ fsum (A' ++ B') + 2 ^ kk = fsum (A ++ B) + 2 ^ xo,
      ⟨xo - o, A, B, xo, xp, rfl, rfl, rfl, hoq, Nat.le_refl _, m3, h3, K3, by cases high <;> simp, fun y _ => Iff.rfl, rfl⟩, ?_⟩
    rintro _ _ w4 _ ⟨A', B', kk, aa, rfl, rfl, rfl, hok, hkx, m4, h4, K4, hform, hset, hsum⟩
    have hnum := m4.num
    dsimp only at hnum
    have hn128 := hi.n1.2
    refine Wif_intro (fun hc3 => ?_) (fun hc3 => ?_)
    · simp only [decide_eq_true_eq] at hc3
      obtain ⟨k1, rfl⟩ : ∃ k1, kk = k1 + 1 := ⟨kk - 1, by omega⟩
      have ew : IntKind.wrap .i64 (((k1 + 1 : Nat) : Int) - 1) = (k1 : Int) := by rw [wi (by omega)]; omega
      rw [ew]
      have e2 : 2 ^ (k1 + 1) = 2 ^ k1 + 2 ^ k1 := by rw [Nat.pow_succ]; omega
      have hp := p2 k1
      rw [shl1 (by omega)]
      have ea : IntKind.wrap .i64 ((aa : Int) + ((2 ^ k1 : Nat) : Int)) = ((aa + 2 ^ k1 : Nat) : Int) := by rw [wi (by omega)]; omega
      rw [ea]
      refine Wif_intro (fun hh => ?_) (fun hh => ?_)
      · subst hh
        refine Wif_yes (inB_of (by omega) (by omega)) ⟨_, by rw [Int.toNat_natCast, Nat.mul_one]; exact h4.rm (by omega), ?_⟩
        obtain ⟨w5, hu, k5, h5⟩ := h4.hi m4.tl hn128
        refine ⟨w5, hu, Wif_yes (by simp) ⟨k1 - o, by omega, _, _, k1, aa + 2 ^ k1, rfl, rfl, rfl, by omega, by omega, m4.hi, h5, kbm K4 (by omega) k5, ?_, fun y hy => ?_, ?_⟩⟩
        · simp only [if_true] at hform ⊢; omega
        · rw [← hset y hy]
          simp only [List.mem_append, List.mem_cons, List.not_mem_nil, or_false]
          constructor
          · rintro ((h | rfl) | h)
            · exact .inl h
            · cases hy
            · exact .inr h
          · rintro (h | h)
            · exact .inl (.inl h)
            · exact .inr h
        · rw [← hsum]; simp only [fsum_app, fsum_cons, fsum]; simp; omega
      · subst hh
        intro w5 e5
        have h4' := h4.k ((Kept.refl _ _).dr e5)
        refine Wif_yes (inB_of (by omega) (by omega)) ⟨_, by rw [Int.toNat_natCast, Nat.mul_one]; exact h4'.rm (by omega), Wif_yes (by simp) ?_⟩
        obtain ⟨w6, hu, k6, h6⟩ := h4'.lo m4.tl hn128
        refine ⟨w6, hu, k1 - o, by omega, _, _, k1, aa, rfl, rfl, rfl, by omega, by omega, m4.lo, h6, kbm (K4.dr e5) (by omega) k6, ?_, fun y hy => ?_, ?_⟩
        · simp at hform ⊢; exact hform
        · rw [← hset y hy]
          simp only [List.mem_append, List.mem_cons, List.not_mem_nil, or_false]
          constructor
          · rintro (h | rfl | h)
            · exact .inl h
            · cases hy
            · exact .inr h
          · rintro (h | h)
            · exact .inl h
            · exact .inr (.inr h)
        · rw [← hsum]; simp only [fsum_app, fsum_cons, fsum]; simp; omega
    · have hkk : kk = o := by simp at hc3; omega
      subst hkk
      refine ⟨_, h4.r12, ?_⟩
      obtain ⟨w5, hu, k5, h5⟩ := h4.take m4.tl hn128
      refine ⟨w5, hu, _, _, _, rfl, kbt K4 k5, h5, m4.take, .inr (.inr ⟨kk, ⟨xp, xo, 0⟩, aa, rfl, hoq, hx, rfl, fun y hy gy oy => ?_, fun y hy gy oy => ?_, rfl, hform, rfl, fun y hy => ?_, ?_⟩)⟩
      · refine Nat.le_of_not_lt fun hlt => ?_
        have := hem y.o oy hlt
        have h2 := (fr_pos (j := y.o)).2 ⟨y, hy, gy, rfl⟩
        rw [this] at h2
        simp at h2
      · have := hext y.p (mem_fr.2 ⟨y, hy, gy, oy, rfl⟩)
        cases high <;> simp at this ⊢ <;> omega
      · have := hset y hy
        simp only [List.mem_append, List.mem_cons] at this ⊢
        constructor
        · rintro (h | rfl | h)
          · rcases this.1 (.inl h) with h | h
            · exact .inl (.inl h)
            · exact .inl (.inr (.inr h))
          · exact .inr rfl
          · rcases this.1 (.inr h) with h | h
            · exact .inl (.inl h)
            · exact .inl (.inr (.inr h))
        · rintro ((h | rfl | h) | rfl)
          · rcases this.2 (.inl h) with h | h
            · exact .inl h
            · exact .inr (.inr h)
          · cases hy
          · rcases this.2 (.inr h) with h | h
            · exact .inl h
            · exact .inr (.inr h)
          · exact .inr (.inl rfl)
      · simp only [fsum_app, fsum_cons] at hsum ⊢
        simp
        omega
  · rintro e w' ⟨v, rfl, a, e, l', rfl, hw⟩
    exact ⟨a, e, l', rfl, hw⟩
end
end Go.Proofs.Ytkmcmkimeibjdaa
namespace Go.Proofs.Ytkmcmkimeibjdaa
open Go Eng
set_option linter.unusedSimpArgs false
set_option linter.unusedVariables false
set_option maxRecDepth 100000
/-! ### Give -/
def GiveR (l : List Bk) (a order e : Int) (l' : List Bk) : Prop :=
  ((a, order) ∉ tk l ∧ e = 2 ∧ l' = l) ∨
  (∃ x ∈ l, x.g = 1 ∧ a = (x.p : Int) ∧ order = (x.o : Int) ∧ e = 0 ∧ (∀ y : Bk, y.g = 1 → (y ∈ l' ↔ y ∈ l ∧ y ≠ x)) ∧ fsum l' = fsum l + 2 ^ x.o)
theorem q_of {a o : Nat} (h : a % 2 ^ o = 0) : a = a / 2 ^ o * 2 ^ o := by
  have e := Nat.div_add_mod a (2 ^ o)
  rw [h, Nat.add_zero, Nat.mul_comm] at e
  exact e.symm
theorem bud_xor {a o : Nat} (h : a % 2 ^ o = 0) (ha : a ≤ 1000000) (ho : o ≤ 10) : bitsI .xor .i64 (a : Int) ((2 ^ o : Nat) : Int) = ((bud a o : Nat) : Int) := by
  have := pow10 ho
  rw [xor_nat (by omega) (by omega)]
  congr 1
  have hq := q_of h
  unfold bud
  generalize a / 2 ^ o = q at *
  subst hq
  rw [xor_pow]
  split
  · rw [Nat.add_mul, Nat.one_mul]
  · rw [Nat.sub_mul, Nat.one_mul]
theorem bud_not {a o : Nat} (h : a % 2 ^ o = 0) (ha : a ≤ 1000000) (ho : o ≤ 10) : bitsI .andNot .i64 (a : Int) ((2 ^ o : Nat) : Int) = ((if a / 2 ^ o % 2 = 0 then a else a - 2 ^ o : Nat) : Int) := by
  have := pow10 ho
  rw [andNot_nat (by omega) (by omega)]
  congr 1
  have hq := q_of h
  generalize a / 2 ^ o = q at *
  subst hq
  rw [andNot_pow]
  split <;> rename_i hc
  · rw [hc, Nat.sub_zero]
  · rw [show q % 2 = 1 by omega, Nat.sub_mul, Nat.one_mul]
theorem look_ent1 (l : List Int) (k : Int) : ((ent1 l).lookup k).getD (.bool false) = .bool (decide (k ∈ l)) := by
  cases h : (ent1 l).lookup k with
  | none =>
    have : k ∉ l := fun hm => by
      induction l with
      | nil => cases hm
      | cons x l ih =>
        simp only [ent1, List.map_cons, List.lookup_cons] at h
        by_cases e : k = x
        · subst e; simp at h
        · rw [show (k == x) = false by simpa using e] at h
          rcases List.mem_cons.1 hm with rfl | hm
          · exact e rfl
          · exact ih h hm
    simp [this]
  | some v =>
    obtain ⟨x, hx, e⟩ := List.mem_map.1 (mem_of_lookup h)
    cases e
    simp [hx]
theorem look_entT (l : List (Int × Int)) (k : Int) : (∃ j, (k, j) ∈ l ∧ (entT l).lookup k = some (.int .i64 j)) ∨ ((∀ j, (k, j) ∉ l) ∧ (entT l).lookup k = none) := by
  cases h : (entT l).lookup k with
  | none =>
    refine .inr ⟨fun j hm => ?_, rfl⟩
    induction l with
    | nil => cases hm
    | cons x l ih =>
      simp only [entT, List.map_cons, List.lookup_cons] at h
      by_cases e : k = x.1
      · subst e; simp at h
      · rw [show (k == x.1) = false by simpa using e] at h
        rcases List.mem_cons.1 hm with rfl | hm
        · exact e rfl
        · exact ih h hm
  | some v =>
    obtain ⟨⟨x, y⟩, hx, e⟩ := List.mem_map.1 (mem_of_lookup h)
    cases e
    exact .inl ⟨y, hx, rfl⟩
section
variable {w w1 w' : World} {b t : Nat} {m : Nat → Nat} {n : Nat} {l : List Bk}
theorem zero4 (w : World) : (zeroValue 4).run Try.prog w = .ok (.bool false) w := Try.zeroValue4 w
theorem zero3 (w : World) : (zeroValue 3).run Try.prog w = .ok (.int .i64 0) w := Try.zeroValue3 w
theorem give_spec (h : BAt w b m t (stOf n l)) (hi : Inv n l) (a order : Int) :
    Calls Try.prog 16 #[ptr b, .int .i64 a, .int .i64 order] w fun r w' => ∃ e l', r = .returned (.int .i64 e) ∧ Kept (bblk b m t) w w' ∧ BAt w' b m t (stOf n l') ∧ Inv n l' ∧ GiveR l a order e l' := by
  refine (vc16 _ _ _ w (fun v w' => ∃ e l', v = .int .i64 e ∧ Kept (bblk b m t) w w' ∧ BAt w' b m t (stOf n l') ∧ Inv n l' ∧ GiveR l a order e l') ?_).mono ?_
  · have hn128 := hi.n1.2
    unfold vcP16
    simp only [isP_some, Wif_true, gIf_true, pb_some, po_some, Nat.zero_add]
    refine ⟨_, fun _ => h.r12, Wif_no rfl ⟨_, h.r12, ?_⟩⟩
    have hlk := look2 (mt := 49) (vt := 3) (kt := 3) Try.underlying49 Try.underlying3 h.mt a (zero3 w)
    rcases look_entT (tk l) a with ⟨j, hj, e⟩ | ⟨hj, e⟩
    rotate_left
    · have e' : (entT (stOf n l).T).lookup a = none := e
      rw [e'] at hlk
      refine ⟨0, false, hlk, Wif_yes (by simp) ⟨_, l, rfl, Kept.refl _ _, h, hi, .inl ⟨hj _, rfl, rfl⟩⟩⟩
    have e' : (entT (stOf n l).T).lookup a = some (.int .i64 j) := e
    rw [e'] at hlk
    refine ⟨j, true, hlk, Wif_intro (fun hc => ?_) (fun hc => ?_)⟩
    · simp at hc
      refine ⟨_, l, rfl, Kept.refl _ _, h, hi, .inl ⟨fun hm => ?_, rfl, rfl⟩⟩
      obtain ⟨x, hx, gx, px, ox⟩ := mem_tk.1 hj
      obtain ⟨y, hy, gy, py, oy⟩ := mem_tk.1 hm
      have := tile_start hi.tl hx hy (by omega)
      subst this
      omega
    simp at hc
    subst hc
    obtain ⟨⟨xp, xo, xg⟩, hx, gx, px, ox⟩ := mem_tk.1 hj
    dsimp only at gx px ox
    subst gx px ox
    obtain ⟨A, B, rfl⟩ := List.append_of_mem hx
    refine ⟨_, h.r12, ?_⟩
    obtain ⟨w2, hd, k2, h2⟩ := h.give hi.tl
    refine ⟨w2, hd, ?_⟩
    have m2 : Mid n A ⟨xp, xo, 2⟩ B := hi.mid rfl rfl
    refine ⟨fun at' k w' N => ∃ (A' B' : List Bk) (kk aa : Nat), k = kk ∧ at' = aa ∧ N = 10 - kk ∧ kk ≤ 10 ∧ Mid n A' ⟨aa, kk, 2⟩ B' ∧ BAt w' b m t (stOf n (A' ++ ⟨aa, kk, 2⟩ :: B')) ∧ Kept (bblk b m t) w w' ∧
        (∀ y : Bk, y.g = 1 → (y ∈ A' ++ B' ↔ y ∈ A ++ B)) ∧ fsum (A' ++ B') + 2 ^ kk = fsum (A ++ B) + 2 ^ xo,
      ⟨10 - xo, A, B, xo, xp, rfl, rfl, rfl, by have := m2.num; dsimp only at this; omega, m2, h2, kbt (Kept.refl _ _) k2, fun y _ => Iff.rfl, rfl⟩, ?_⟩
    rintro _ _ w3 _ ⟨A', B', kk, aa, rfl, rfl, rfl, hk10, m3, h3, K3, hset, hsum⟩ w4 e4
    have hnum := m3.num
    dsimp only at hnum
    have h4 := h3.k ((Kept.refl _ _).dr e4)
    have K4 := K3.dr e4
    refine gIf_intro (fun hc => by simp at hc; exact inB_of (by omega) (by omega)) ?_
    refine ⟨some (m kk), fun hc => by rw [Int.toNat_natCast, Nat.mul_one]; exact h4.rm (by omega), ?_⟩
    refine gIf_intro (fun hc => by simp) ?_
    rw [shl1 hk10, bud_xor hnum.2.2 (by omega) hk10]
    have hfr : fr kk (A' ++ ⟨aa, kk, 2⟩ :: B') = fr kk (A' ++ B') := by simp only [fr_app, fr_cons]; simp
    have hlk := look1 (mt := 75) (vt := 4) (kt := 3) Try.underlying75 Try.underlying3 (h4.mf kk (by omega)) ((bud aa kk : Nat) : Int) (zero4 w4)
    rw [look_ent1] at hlk
    have ef : (stOf n (A' ++ ⟨aa, kk, 2⟩ :: B')).F kk = fr kk (A' ++ B') := hfr
    rw [ef] at hlk
    refine ⟨_, fun _ => hlk, Wif_intro (fun hc => ?_) (fun hc => ?_)⟩
    · simp only [Bool.and_eq_true, decide_eq_true_eq] at hc
      obtain ⟨hc1, hc2⟩ := hc
      have hk1 : kk < 10 := by omega
      intro w5 e5
      have h5 := h4.k ((Kept.refl _ _).dr e5)
      have K5 := K4.dr e5
      refine Wif_yes (inB_of (by omega) (by omega)) ⟨_, by rw [Int.toNat_natCast, Nat.mul_one]; exact h5.rm (by omega), Wif_yes (by simp) ?_⟩
      rw [bud_not hnum.2.2 (by omega) hk10]
      have e2 : 2 ^ (kk + 1) = 2 ^ kk + 2 ^ kk := by rw [Nat.pow_succ]; omega
      rcases m3.one (g' := 2) hk1 hc2 with ⟨hev, B1, rfl, m6⟩ | ⟨hod, A1, rfl, hle, m6⟩
      · rw [if_pos hev]
        have eb : bud aa kk = aa + 2 ^ kk := by unfold bud; rw [if_pos hev]
        rw [eb]
        obtain ⟨w6, hd6, k6, h6⟩ := h5.oneL hk1 m6.tl
        refine ⟨w6, hd6, Wif_yes (by simp) ⟨10 - (kk + 1), by omega, A', B1, kk + 1, aa, by rw [wi (by omega)]; rfl, rfl, rfl, by omega, m6, h6, kbm K5 (by omega) k6, fun y hy => ?_, ?_⟩⟩
        · rw [← hset y hy]
          simp only [List.mem_append, List.mem_cons]
          constructor
          · rintro (h | h)
            · exact .inl h
            · exact .inr (.inr h)
          · rintro (h | rfl | h)
            · exact .inl h
            · cases hy
            · exact .inr h
        · simp only [fsum_app, fsum_cons] at hsum ⊢
          simp at hsum
          omega
      · rw [if_neg (by omega)]
        have eb : bud aa kk = aa - 2 ^ kk := by unfold bud; rw [if_neg (by omega)]
        rw [eb]
        obtain ⟨w6, hd6, k6, h6⟩ := h5.oneU hk1 m6.tl
        refine ⟨w6, hd6, Wif_yes (by simp) ⟨10 - (kk + 1), by omega, A1, B', kk + 1, aa - 2 ^ kk, by rw [wi (by omega)]; rfl, rfl, rfl, by omega, m6, h6, kbm K5 (by omega) k6, fun y hy => ?_, ?_⟩⟩
        · rw [← hset y hy]
          simp only [List.mem_append, List.mem_cons, List.not_mem_nil, or_false]
          constructor
          · rintro (h | h)
            · exact .inl (.inl h)
            · exact .inr h
          · rintro ((h | rfl) | h)
            · exact .inl h
            · cases hy
            · exact .inr h
        · simp only [fsum_app, fsum_cons, fsum] at hsum ⊢
          simp at hsum
          omega
    · refine Wif_yes (inB_of (by omega) (by omega)) ⟨_, by rw [Int.toNat_natCast, Nat.mul_one]; exact h4.rm (by omega), ?_⟩
      obtain ⟨w5, hu, k5, h5⟩ := h4.free m3.tl hn128
      refine ⟨w5, hu, _, _, rfl, kbm K4 (by omega) k5, h5, m3.free fun hlt hm => ?_, .inr ⟨⟨xp, xo, 1⟩, hx, rfl, rfl, rfl, rfl, fun y hy => ?_, ?_⟩⟩
      · simp [hm] at hc; omega
      · have hs := hset y hy
        have hsep := sep_ne hi.tl (k := xp) (Nat.le_refl _) (by have := p2 xo; dsimp only; omega)
        simp only [List.mem_append, List.mem_cons] at hs ⊢
        constructor
        · intro hm
          have hm' : y ∈ A ∨ y ∈ B := by
            rcases hm with h | rfl | h
            · exact hs.1 (.inl h)
            · cases hy
            · exact hs.1 (.inr h)
          refine ⟨by rcases hm' with h | h <;> simp [h], fun e => ?_⟩
          subst e
          rcases hm' with h | h
          · exact hsep.1 _ h rfl
          · exact hsep.2 _ h rfl
        · rintro ⟨hm, hne⟩
          have hm' : y ∈ A ∨ y ∈ B := by
            rcases hm with h | h | h
            · exact .inl h
            · exact absurd h hne
            · exact .inr h
          rcases hs.2 hm' with h | h
          · exact .inl h
          · exact .inr (.inr h)
      · simp only [fsum_app, fsum_cons] at hsum ⊢
        simp
        omega
  · rintro e w' ⟨v, rfl, e, l', rfl, hw⟩
    exact ⟨e, l', rfl, hw⟩
end
end Go.Proofs.Ytkmcmkimeibjdaa
