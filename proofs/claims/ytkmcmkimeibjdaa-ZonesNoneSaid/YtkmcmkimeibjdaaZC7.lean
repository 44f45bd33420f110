/-
  A part of a proof that a law of this seat returns true at every input. Conditions: those in each theorem.
-/
import Derived.Test.YtkmcmkimeibjdaaZC6
namespace Go.Proofs.Ytkmcmkimeibjdaa
open Go Eng
set_option linter.unusedSimpArgs false
set_option linter.unusedVariables false
set_option maxRecDepth 100000
/-! ### the known case of zones -/
theorem takeR_det {n : Nat} {l l' l1 : List Bk} {a e : Int} {x : Bk} (h : TakeR l 0 false a e l') (hi : Inv n l) (hi' : Inv n l') (h1 : Inv n l1) (hx : x ∈ l) (gx : x.g = 0) (hmin : ∀ y ∈ l, y.g = 0 → x.o ≤ y.o ∧ (y.o = x.o → x.p ≤ y.p))
    (ht : ∀ y : Bk, y.g = 1 → (y ∈ l1 ↔ y ∈ l ∨ y = ⟨x.p, 0, 1⟩)) : a = (x.p : Int) ∧ e = 0 ∧ l' = l1 := by
  rcases h with ⟨h, _⟩ | ⟨o, h1, _, h2, _⟩ | ⟨o, y, r, a1, a2, a3, a4, a5, a6, a7, a8, a9, a10, a11⟩
  · omega
  · have := h2 x hx gx; omega
  · have ho : o = 0 := by omega
    subst ho
    have h3 := a5 x hx gx (by omega)
    have h4 := hmin y a3 a4
    have h5 := a6 x hx gx (by omega)
    simp only [Bool.false_eq_true, if_false] at h5 a8
    have h6 := h4.2 (by omega)
    have hr : r = x.p := by omega
    subst hr
    exact ⟨a7, a9, hi'.same h1 fun z hz => by rw [a10 z hz, ht z hz]⟩
def K1s : Nat → List Bk
  | 0 => [⟨0, 2, 0⟩]
  | 1 => [⟨0, 0, 1⟩, ⟨1, 0, 0⟩, ⟨2, 1, 0⟩]
  | 2 => [⟨0, 0, 1⟩, ⟨1, 0, 1⟩, ⟨2, 1, 0⟩]
  | _ => [⟨0, 0, 1⟩, ⟨1, 0, 1⟩, ⟨2, 0, 1⟩, ⟨3, 0, 0⟩]
def K0s : Nat → List Bk
  | 4 => [⟨0, 0, 1⟩, ⟨1, 0, 0⟩, ⟨2, 1, 0⟩]
  | _ => [⟨0, 2, 0⟩]
def K5 : List Bk := [⟨0, 0, 0⟩, ⟨1, 0, 1⟩, ⟨2, 0, 1⟩, ⟨3, 0, 0⟩]
theorem inv_of {l : List Bk} (ht : Tile 0 l 4) (hn : NB l) (hg : Fr01 l) : Inv 4 l := ⟨by omega, ht, hn, hg⟩
theorem ik1 : ∀ q, q ≤ 4 → Inv 4 (K1s q)
  | 0, _ => inv_of (by simp [Tile, K1s]) (by unfold NB K1s; decide) (by unfold Fr01 K1s; decide)
  | 1, _ => inv_of (by simp [Tile, K1s]) (by unfold NB K1s; decide) (by unfold Fr01 K1s; decide)
  | 2, _ => inv_of (by simp [Tile, K1s]) (by unfold NB K1s; decide) (by unfold Fr01 K1s; decide)
  | 3, _ => inv_of (by simp [Tile, K1s]) (by unfold NB K1s; decide) (by unfold Fr01 K1s; decide)
  | 4, _ => inv_of (by simp [Tile, K1s]) (by unfold NB K1s; decide) (by unfold Fr01 K1s; decide)
theorem ik0 : Inv 4 (K0s 4) := inv_of (by simp [Tile, K0s]) (by unfold NB K0s; decide) (by unfold Fr01 K0s; decide)
theorem ik5 : Inv 4 K5 := inv_of (by simp [Tile, K5]) (by unfold NB K5; decide) (by unfold Fr01 K5; decide)
theorem step_k1 {q : Nat} (hq : q ≤ 2) {a : Int} {l' : List Bk} (h : TakeR (K1s q) 0 false a 0 l') (hi' : Inv 4 l') : a = q ∧ l' = K1s (q + 1) := by
  have : q = 0 ∨ q = 1 ∨ q = 2 := by omega
  rcases this with rfl | rfl | rfl
  · obtain ⟨h1, _, h2⟩ := takeR_det (x := ⟨0, 2, 0⟩) h (ik1 0 (by omega)) hi' (ik1 1 (by omega)) (by simp [K1s]) rfl (by simp [K1s]) (fun y hy => by simp [K1s, eqBk]; omega)
    exact ⟨h1, h2⟩
  · obtain ⟨h1, _, h2⟩ := takeR_det (x := ⟨1, 0, 0⟩) h (ik1 1 (by omega)) hi' (ik1 2 (by omega)) (by simp [K1s]) rfl (by simp [K1s]) (fun y hy => by simp [K1s, eqBk]; omega)
    exact ⟨h1, h2⟩
  · obtain ⟨h1, _, h2⟩ := takeR_det (x := ⟨2, 1, 0⟩) h (ik1 2 (by omega)) hi' (ik1 3 (by omega)) (by simp [K1s]) rfl (by simp [K1s]) (fun y hy => by simp [K1s, eqBk]; omega)
    exact ⟨h1, h2⟩
theorem step_k0 {a : Int} {l' : List Bk} (h : TakeR (K0s 3) 0 false a 0 l') (hi' : Inv 4 l') : a = 0 ∧ l' = K0s 4 := by
  obtain ⟨h1, _, h2⟩ := takeR_det (x := ⟨0, 2, 0⟩) h (ik1 0 (by omega)) hi' ik0 (by simp [K0s]) rfl (by simp [K0s]) (fun y hy => by simp [K0s, eqBk]; omega)
  exact ⟨h1, h2⟩
theorem step_g {e : Int} {l' : List Bk} (h : GiveR (K1s 4) 0 0 e l') (hi : Inv 4 l') : e = 0 ∧ l' = K5 := by
  rcases h with ⟨h, _⟩ | ⟨x, h1, h2, h3, h4, h5, h6, _⟩
  · exact absurd (mem_tk.2 ⟨⟨0, 0, 1⟩, by simp [K1s], rfl, rfl, rfl⟩) h
  · have hx : x = ⟨0, 0, 1⟩ := by
      simp only [K1s, List.mem_cons, List.not_mem_nil, or_false] at h1
      rcases h1 with rfl | rfl | rfl | rfl
      · rfl
      · simp at h3
      · simp at h3
      · cases h2
    subst hx
    refine ⟨h5, hi.same ik5 fun y hy => ?_⟩
    rw [h6 y hy]
    simp only [K1s, K5, List.mem_singleton, List.mem_cons, List.not_mem_nil, or_false, eqBk, ne_eq]
    omega
theorem upd_eq {α : Type} (f : Nat → α) (i j : Nat) (v : α) : upd f i v j = if j = i then v else f j := rfl
theorem keptZ {w0 w w1 : World} {S : Zs} {z i : Nat} (h : Kept none' w0 w) (k : Kept (S.bl i) w w1) (hi : i < S.k) (hf : ∀ x, S.all z x → w0.heap.size ≤ x) : Kept none' w0 w1 :=
  own0 h k fun x hx => hf x (.inr (.inr ⟨i, hi, hx⟩))
theorem zknown_spec (w : World) : Calls Try.prog 21 #[] w fun r w' => r = .returned (.bool true) ∧ Kept none' w w' := by
  refine (vc21 w (fun v w' => v = .bool true ∧ Kept none' w w') ?_).mono ?_
  · unfold vcP21
    refine (two_spec w).mono ?_
    rintro _ w1 ⟨rfl, k1⟩
    refine ⟨twoF, rfl, (znew_spec twoF w1).mono ?_⟩
    rintro _ w2 ⟨k2, ⟨h, _⟩ | ⟨hm, z, S, L, rfl, h2, hc, hfree, hfr⟩⟩
    · exact absurd two_may h
    have hk : S.k = 2 := by
      have := h2.kc
      rw [hc] at this
      have e : twoF 0 = 2 := rfl
      rw [e] at this
      omega
    have hn : ∀ i, i < 2 → S.n i = 4 := fun i hi => by
      unfold Zs.n
      rw [hc]
      have : i = 0 ∨ i = 1 := by omega
      rcases this with rfl | rfl <;> rfl
    have K2 : Kept none' w w2 := k1.tr k2
    have s1 := k1.sz
    have hfr0 : ∀ x, S.all z x → w.heap.size ≤ x := fun x hx => by have := hfr x hx; omega
    have hL : ∀ i, i < 2 → L i = [⟨0, 2, 0⟩] := fun i hi => by
      have i1 := h2.iv i (by omega)
      rw [hn i hi] at i1
      exact i1.zero (ik1 0 (by omega)) (hfree i (by omega)) (by simp [K1s])
    have f0 : fstF S.c 0 = 0 := rfl
    have f1 : fstF S.c 1 = 4 := by rw [hc]; rfl
    refine ⟨_, _, rfl, Wif_no rfl ?_⟩
    refine ⟨fun _ k w' N => ∃ (q : Nat) (L : Nat → List Bk), k = q ∧ q ≤ 4 ∧ N = 4 - q ∧ Kept none' w w' ∧ ZAt w' z S L ∧ L 1 = K1s q ∧ L 0 = K0s q, ⟨4, 0, L, rfl, by omega, rfl, K2, h2, hL 1 (by omega), hL 0 (by omega)⟩, ?_⟩
    rintro _ _ w3 _ ⟨q, L, rfl, hq, rfl, k3, h3, hL1, hL0⟩
    refine Wif_intro (fun hc2 => ?_) (fun hc2 => ?_)
    · simp only [decide_eq_true_eq] at hc2
      have hq4 : q < 4 := by omega
      refine Wif_yes (inB_of (by omega) (by omega)) ⟨if q < 3 then 4 + (q : Int) else 0, ?_, ?_⟩
      · have : q = 0 ∨ q = 1 ∨ q = 2 ∨ q = 3 := by omega
        rcases this with rfl | rfl | rfl | rfl <;> rfl
      intro w4 e4
      have o4 := own_alloc (c := [Value.int .i64 1, Value.int .i64 0]) e4
      have k34 : Kept none' w3 w4 := (Kept.refl _ _).al e4
      have h4 := h3.k k34
      have k4 := k3.tr k34
      refine (ztake_spec h4 (len := 2) (cap := 2) (nf := fun i => if i = 0 then 1 else 0) (by omega) (fun _ => rfl) (fun i hi => ?_) 1 false).mono ?_
      · simp only [pb_some, po_some, Nat.zero_add]
        rw [o4.rd]
        have : i = 0 ∨ i = 1 := by omega
        rcases this with rfl | rfl <;> rfl
      rintro _ w5 ⟨v, rfl, hz⟩
      have hz1 : zfr S L 1 = fsum (K1s q) := by rw [show (1 : Int) = ((1 : Nat) : Int) from rfl, zfr_in (by omega), hL1]
      have hz0 : zfr S L 0 = fsum (K0s q) := by rw [show (0 : Int) = ((0 : Nat) : Int) from rfl, zfr_in (by omega), hL0]
      have hf0 : fsum (K0s q) = 4 := by
        have : q = 0 ∨ q = 1 ∨ q = 2 ∨ q = 3 := by omega
        rcases this with rfl | rfl | rfl | rfl <;> rfl
      have hf1 : fsum (K1s q) = 4 - q := by
        have : q = 0 ∨ q = 1 ∨ q = 2 ∨ q = 3 := by omega
        rcases this with rfl | rfl | rfl | rfl <;> rfl
      rcases hz with ⟨⟨i, hi, h⟩ | h, _⟩ | ⟨_, _, h, _⟩ | ⟨_, _, j, i, hj, hji, hik, hlt, hlow, a, l', rfl, k5, h5, r5⟩
      · dsimp only at h
        split at h <;> omega
      · omega
      · have := h 1 (by omega)
        simp only [if_neg (show ¬ (1 : Nat) = 0 by omega)] at this
        rw [hz0, hf0] at this
        omega
      · have K5' : Kept none' w w5 := keptZ k4 k5 hik hfr0
        have i5 := h5.iv i hik
        rw [upd_same, hn i (by omega)] at i5
        have hj2 : j = 0 ∨ j = 1 := by omega
        rcases hj2 with rfl | rfl
        · have hi1 : i = 1 := by simp at hji; omega
          subst hi1
          rw [hL1, hf1] at hlt
          rw [hL1] at r5
          obtain ⟨rfl, rfl⟩ := step_k1 (by omega) r5 i5
          refine ⟨_, _, rfl, Wif_no ?_ ⟨4 - (q + 1), by omega, q + 1, _, by rw [wi (by omega)]; rfl, by omega, rfl, K5', h5, upd_same _ _ _, ?_⟩⟩
          · rw [f1, if_pos (by omega)]; simp
          · rw [upd_ne _ _ (by omega), hL0]
            have : q = 0 ∨ q = 1 ∨ q = 2 := by omega
            rcases this with rfl | rfl | rfl <;> rfl
        · have hi0 : i = 0 := by simp at hji; omega
          subst hi0
          have h0 := hlow 0 (by omega)
          simp only [if_true] at h0
          rw [hz1, hf1] at h0
          have hq3 : q = 3 := by omega
          subst hq3
          rw [hL0] at r5
          obtain ⟨rfl, rfl⟩ := step_k0 r5 i5
          refine ⟨_, _, rfl, Wif_no ?_ ⟨0, by omega, 4, _, by rw [wi (by omega)]; rfl, by omega, rfl, K5', h5, ?_, upd_same _ _ _⟩⟩
          · rw [f0, if_neg (by omega)]; rfl
          · rw [upd_ne _ _ (by omega), hL1]; rfl
    have hq4 : q = 4 := by simp at hc2; omega
    subst hq4
    refine (zstate_spec h3 (i := 1) (by omega)).mono ?_
    rintro _ _ ⟨rfl, rfl⟩
    have e91 : S.c 91 = 1 := by rw [hc]; rfl
    have e92 : S.c 92 = 2 := by rw [hc]; rfl
    have e93 : S.c 93 = 3 := by rw [hc]; rfl
    have es1 : zst S L 1 = 0 := by
      unfold zst
      rw [hL1, e91]; rfl
    have es0 : zst S L 0 = 2 := by
      unfold zst
      rw [hL0, e91, e92, e93]; rfl
    refine ⟨_, rfl, Wif_yes (by rw [es1]; rfl) ((zstate_spec h3 (i := 0) (by omega)).mono ?_)⟩
    rintro _ _ ⟨rfl, rfl⟩
    refine ⟨_, rfl, Wif_yes (by rw [es0]; rfl) ((zgive_spec h3 4 0 (by omega)).mono ?_)⟩
    rintro _ w6 (⟨i, e, l', hik, g1, g2, rfl, k6, h6, r6⟩ | ⟨hno, _⟩)
    · have hi1 : i = 1 := by
        have : i = 0 ∨ i = 1 := by omega
        rcases this with rfl | rfl
        · rw [f1] at g2; omega
        · rfl
      subst hi1
      have i6 := h6.iv 1 hik
      rw [upd_same, hn 1 (by omega)] at i6
      rw [hL1, f1] at r6
      obtain ⟨rfl, rfl⟩ := step_g r6 i6
      refine ⟨_, rfl, Wif_yes rfl ((zfree_spec h6 1).mono ?_)⟩
      rintro _ w7 ⟨rfl, rfl⟩
      refine ⟨_, rfl, ?_, keptZ k3 k6 hik hfr0⟩
      rw [show (1 : Int) = ((1 : Nat) : Int) from rfl, zfr_in hik, upd_same]
      rfl
    · have : fstF S.c S.k = 8 := by rw [hk, hc]; rfl
      omega
  · rintro e w' ⟨v, rfl, rfl, hw⟩
    exact ⟨rfl, hw⟩
end Go.Proofs.Ytkmcmkimeibjdaa
