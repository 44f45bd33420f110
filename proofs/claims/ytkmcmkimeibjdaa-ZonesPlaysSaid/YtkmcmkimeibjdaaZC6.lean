/-
  A part of a proof that a law of this seat returns true at every input. Conditions: those in each theorem.
-/
import Derived.Test.YtkmcmkimeibjdaaZC4
namespace Go.Proofs.Ytkmcmkimeibjdaa
open Go Eng
set_option linter.unusedSimpArgs false
set_option linter.unusedVariables false
set_option maxRecDepth 100000
/-! ### zones.Take -/
section
variable {w w' : World} {z : Nat} {S : Zs} {L : Nat → List Bk}
def ZTakeR (w w' : World) (z : Nat) (S : Zs) (L : Nat → List Bk) (len : Nat) (nf : Nat → Int) (floor : Int) (high : Bool) (v : Value) : Prop :=
  (((∃ i, i < len ∧ (nf i < 0 ∨ (S.k : Int) ≤ nf i)) ∨ floor < 0) ∧ v = .tuple #[.int .i64 0, .int .i64 2] ∧ w' = w) ∨
  ((∀ i, i < len → 0 ≤ nf i ∧ nf i < (S.k : Int)) ∧ 0 ≤ floor ∧ (∀ i, i < len → (zfr S L (nf i) : Int) ≤ floor) ∧ v = .tuple #[.int .i64 0, .int .i64 6] ∧ w' = w) ∨
  ((∀ i, i < len → 0 ≤ nf i ∧ nf i < (S.k : Int)) ∧ 0 ≤ floor ∧ ∃ (j i : Nat), j < len ∧ nf j = (i : Int) ∧ i < S.k ∧ floor < (fsum (L i) : Int) ∧ (∀ j', j' < j → (zfr S L (nf j') : Int) ≤ floor) ∧
    ∃ a l', v = .tuple #[.int .i64 (fstF S.c i + a), .int .i64 0] ∧ Kept (S.bl i) w w' ∧ ZAt w' z S (upd L i l') ∧ TakeR (L i) 0 high a 0 l')
theorem ztake_spec (h : ZAt w z S L) {nodes : Option Addr} {len cap : Nat} {nf : Nat → Int} (hlen : len ≤ 1000000) (hP : 0 < len → isP nodes = true) (hr : ∀ i, i < len → rd w (pb nodes) (po nodes + i) = some (.int .i64 (nf i))) (floor : Int) (high : Bool) :
    Calls Try.prog 22 #[ptr z, .slice nodes len cap, .int .i64 floor, .bool high] w fun r w' => ∃ v, r = .returned v ∧ ZTakeR w w' z S L len nf floor high v := by
  refine vc22 _ _ _ _ _ _ w (fun v w' => ZTakeR w w' z S L len nf floor high v) ?_
  unfold vcP22
  simp only [isP_some, Wif_true, gIf_true, pb_some, po_some, Nat.zero_add, Option.isNone_some, Bool.not_false, Bool.true_and]
  refine ⟨_, _, _, fun _ => h.r94, Wif_no rfl ?_⟩
  refine ⟨fun _ _ k w' N => ∃ q : Nat, k = q ∧ q ≤ len ∧ N = len - q ∧ w' = w ∧ ∀ i, i < q → 0 ≤ nf i ∧ nf i < (S.k : Int), ⟨len, 0, rfl, by omega, rfl, rfl, fun i hi => absurd hi (Nat.not_lt_zero _)⟩, ?_⟩
  rintro _ _ _ w1 _ ⟨q, rfl, hq, rfl, rfl, hv⟩
  refine Wif_intro (fun hc => ?_) (fun hc => ?_)
  · simp only [decide_eq_true_eq] at hc
    refine Wif_yes (hP (by omega)) (Wif_yes (inB_of (by omega) (by omega)) ⟨nf q, by rw [Int.toNat_natCast, Nat.mul_one]; exact hr q (by omega), _, _, _, fun _ => h.r94, ?_⟩)
    simp only [Option.isNone_some, Bool.not_false, Bool.true_and]
    refine ⟨_, _, _, fun _ => h.r94, Wif_intro (fun hc2 => ?_) (fun hc2 => ?_)⟩
    · refine .inl ⟨.inl ⟨q, by omega, ?_⟩, rfl, rfl⟩
      rcases Int.lt_or_le (nf q) 0 with h1 | h1
      · exact .inl h1
      · rcases Int.lt_or_le (nf q) (S.k : Int) with h2 | h2
        · rw [decide_eq_true (show nf q ≥ 0 from h1), decide_eq_true h2] at hc2; cases hc2
        · exact .inr h2
    · simp at hc2
      refine ⟨len - (q + 1), by omega, q + 1, by rw [wi (by omega)]; rfl, by omega, rfl, trivial, fun i hi => ?_⟩
      rcases Nat.lt_or_ge i q with hlt | hge
      · exact hv i hlt
      · have : i = q := by omega
        subst this; exact ⟨hc2.1, hc2.2⟩
  have hql : q = len := by simp at hc; omega
  subst hql
  refine Wif_intro (fun hc2 => ?_) (fun hc2 => ?_)
  · exact .inl ⟨.inr (by simpa using hc2), rfl, rfl⟩
  have hfl : 0 ≤ floor := by simp at hc2; omega
  refine ⟨fun _ _ k w' N => ∃ p : Nat, k = p ∧ p ≤ q ∧ N = q - p ∧ w' = w1 ∧ ∀ i, i < p → (zfr S L (nf i) : Int) ≤ floor, ⟨q, 0, rfl, by omega, rfl, rfl, fun i hi => absurd hi (Nat.not_lt_zero _)⟩, ?_⟩
  rintro _ _ _ _ _ ⟨p, rfl, hp, rfl, rfl, hlow⟩
  refine Wif_intro (fun hc3 => ?_) (fun hc3 => ?_)
  · simp only [decide_eq_true_eq] at hc3
    refine Wif_yes (hP (by omega)) (Wif_yes (inB_of (by omega) (by omega)) ⟨nf p, by rw [Int.toNat_natCast, Nat.mul_one]; exact hr p (by omega), (zfree_spec h (nf p)).mono ?_⟩)
    rintro _ _ ⟨rfl, rfl⟩
    refine ⟨_, rfl, Wif_intro (fun hc4 => ?_) (fun hc4 => ?_)⟩
    · simp only [decide_eq_true_eq] at hc4
      have hvp := hv p (by omega)
      obtain ⟨i, hi⟩ : ∃ i : Nat, nf p = (i : Int) := ⟨(nf p).toNat, by omega⟩
      have hik : i < S.k := by omega
      rw [hi, zfr_in hik] at hc4
      rw [hi]
      refine (ztakeOf_spec h hik 0 high).mono ?_
      rintro _ w2 ⟨a, e, l', rfl, k2, z2, r2⟩
      have he := takeR_ok r2 (by omega)
      subst he
      rw [if_pos rfl]
      exact ⟨_, _, rfl, .inr (.inr ⟨hv, hfl, p, i, by omega, hi, hik, by omega, hlow, a, l', rfl, k2, z2, r2⟩)⟩
    · simp only [decide_eq_false_iff_not] at hc4
      refine ⟨q - (p + 1), by omega, p + 1, by rw [wi (by omega)]; rfl, by omega, rfl, rfl, fun i hi => ?_⟩
      rcases Nat.lt_or_ge i p with hlt | hge
      · exact hlow i hlt
      · have : i = p := by omega
        subst this; omega
  · have hpq : p = q := by simp at hc3; omega
    subst hpq
    exact .inr (.inl ⟨hv, hfl, hlow, rfl, rfl⟩)
end
/-! ### two nodes of four frames -/
def twoF (i : Nat) : Int :=
  if i = 0 then 2 else if i = 1 then 1 else if i = 18 then 4 else if i = 19 then 4 else if i = 27 then 10 else if i = 34 then 10 else if i = 91 then 1 else if i = 92 then 2 else if i = 93 then 3 else 0
theorem two_cells : ((((([Value.int .i64 2, Value.int .i64 1] ++ (List.replicate 89 (Value.int .i64 0) ++ [Value.int .i64 1, Value.int .i64 2, Value.int .i64 3])).set 18 (.int .i64 4)).set 19 (.int .i64 4)).set 27 (.int .i64 10)).set 34 (.int .i64 10)) = cfg twoF := by kernel_rfl
theorem two_spec (w : World) : Calls Try.prog 49 #[] w fun r w' => r = .returned (cfgV twoF) ∧ Kept none' w w' := by
  refine (vc49 w (fun v w' => v = cfgV twoF ∧ Kept none' w w') ?_).mono ?_
  · unfold vcP49
    intro w1 e1 w2 e2
    have o1 := own_alloc e1
    have k1 : Kept none' w w1 := (Kept.refl _ _).al e1
    have o2 := o1.al e2
    have p2 := own_alloc e2
    have k2 : Kept none' w w2 := k1.al e2
    have z1 : w1.heap.size = w.heap.size + 1 := by rw [e1]; simp only [World.alloc, Array.size_push]
    clear e1 e2
    generalize hb : w.heap.size = b at *
    generalize hb2 : w1.heap.size = b2 at *
    have kb : ∀ {wa wb : World}, Kept none' w wa → Kept (· = b2) wa wb → Kept none' w wb := fun ka k => ka.trans k fun x hx e => by omega
    refine ⟨p2.wrAll 0 (by simp), ?_⟩
    intro w3 e3
    obtain ⟨p3, k3⟩ := stAll_whole p2 e3 (by simp)
    have o3 := o2.kx k3 (by omega)
    have K3 := kb k2 k3
    clear e3
    refine ⟨p3.wr (by simp), ?_⟩
    intro w4 e4
    have p4 := p3.s1 e4
    have o4 := o3.n1 e4 (by omega)
    have K4 := kb K3 ((Kept.refl _ _).s1 e4 (.inl rfl))
    refine ⟨p4.wr (by simp), ?_⟩
    intro w5 e5
    have p5 := p4.s1 e5
    have o5 := o4.n1 e5 (by omega)
    have K5 := kb K4 ((Kept.refl _ _).s1 e5 (.inl rfl))
    refine ⟨p5.wr (by simp), ?_⟩
    intro w6 e6
    have p6 := p5.s1 e6
    have o6 := o5.n1 e6 (by omega)
    have K6 := kb K5 ((Kept.refl _ _).s1 e6 (.inl rfl))
    refine ⟨p6.wr (by simp), ?_⟩
    intro w7 e7
    have p7 := p6.s1 e7
    have o7 := o6.n1 e7 (by omega)
    have K7 := kb K6 ((Kept.refl _ _).s1 e7 (.inl rfl))
    rw [two_cells] at p7
    refine ⟨twoF, p7.rIall, o7.wrAll 0 (by rw [runI_len]; simp), ?_⟩
    intro w8 e8
    obtain ⟨o8, k8⟩ := stAll_whole o7 e8 (by rw [runI_len]; simp)
    exact ⟨twoF, o8.rIall, rfl, K7.trans k8 fun x hx e => by omega⟩
  · rintro e w' ⟨v, rfl, rfl, hw⟩
    exact ⟨rfl, hw⟩
theorem two_may : MayP twoF := by
  refine ⟨by decide, by decide, by decide, by decide +kernel, by decide, by decide, ?_, by decide, by decide, by decide⟩
  intro i k hi hk
  have e : (twoF 0).toNat = 2 := rfl
  rw [e] at hi hk
  have : i = 0 ∨ i = 1 := by omega
  have : k = 0 ∨ k = 1 := by omega
  rcases ‹i = 0 ∨ i = 1› with rfl | rfl <;> rcases ‹k = 0 ∨ k = 1› with rfl | rfl <;> (unfold nearO; decide)
end Go.Proofs.Ytkmcmkimeibjdaa
namespace Go.Proofs.Ytkmcmkimeibjdaa
open Go Eng
set_option linter.unusedSimpArgs false
set_option linter.unusedVariables false
set_option maxRecDepth 100000
/-! ### the known case of zones -/
theorem takeR_det {n : Nat} {l l' l1 : List Bk} {a e : Int} {x : Bk} (h : TakeR l 0 false a e l') (hi : Inv n l) (hi' : Inv n l') (h1 : Inv n l1) (hx : x ∈ l) (gx : x.g = 0) (hmin : ∀ y ∈ l, y.g = 0 → x.o ≤ y.o ∧ (y.o = x.o → x.p ≤ y.p))
    (ht : ∀ y : Bk, y.g = 1 → (y ∈ l1 ↔ y ∈ l ∨ y = ⟨x.p, 0, 1⟩)) : a = (x.p : Int) ∧ e = 0 ∧ l' = l1 := by
  rcases h with ⟨h, _⟩ | ⟨o, h1, _, h2, _⟩ | ⟨o, y, r, a1, a2, a3, a4, a5, a6, a7, a8, a9, a10, a11⟩
  · omega
  · have := h2 x hx gx; omega
  · have ho : o = 0 := by omega
    subst ho
    have h3 := a5 x hx gx (by omega)
    have h4 := hmin y a3 a4
    have h5 := a6 x hx gx (by omega)
    simp only [Bool.false_eq_true, if_false] at h5 a8
    have h6 := h4.2 (by omega)
    have hr : r = x.p := by omega
    subst hr
    exact ⟨a7, a9, hi'.same h1 fun z hz => by rw [a10 z hz, ht z hz]⟩
def K1s : Nat → List Bk
  | 0 => [⟨0, 2, 0⟩]
  | 1 => [⟨0, 0, 1⟩, ⟨1, 0, 0⟩, ⟨2, 1, 0⟩]
  | 2 => [⟨0, 0, 1⟩, ⟨1, 0, 1⟩, ⟨2, 1, 0⟩]
  | _ => [⟨0, 0, 1⟩, ⟨1, 0, 1⟩, ⟨2, 0, 1⟩, ⟨3, 0, 0⟩]
def K0s : Nat → List Bk
  | 4 => [⟨0, 0, 1⟩, ⟨1, 0, 0⟩, ⟨2, 1, 0⟩]
  | _ => [⟨0, 2, 0⟩]
def K5 : List Bk := [⟨0, 0, 0⟩, ⟨1, 0, 1⟩, ⟨2, 0, 1⟩, ⟨3, 0, 0⟩]
theorem inv_of {l : List Bk} (ht : Tile 0 l 4) (hn : NB l) (hg : Fr01 l) : Inv 4 l := ⟨by omega, ht, hn, hg⟩
theorem ik1 : ∀ q, q ≤ 4 → Inv 4 (K1s q)
  | 0, _ => inv_of (by simp [Tile, K1s]) (by unfold NB K1s; decide) (by unfold Fr01 K1s; decide)
  | 1, _ => inv_of (by simp [Tile, K1s]) (by unfold NB K1s; decide) (by unfold Fr01 K1s; decide)
  | 2, _ => inv_of (by simp [Tile, K1s]) (by unfold NB K1s; decide) (by unfold Fr01 K1s; decide)
  | 3, _ => inv_of (by simp [Tile, K1s]) (by unfold NB K1s; decide) (by unfold Fr01 K1s; decide)
  | 4, _ => inv_of (by simp [Tile, K1s]) (by unfold NB K1s; decide) (by unfold Fr01 K1s; decide)
theorem ik0 : Inv 4 (K0s 4) := inv_of (by simp [Tile, K0s]) (by unfold NB K0s; decide) (by unfold Fr01 K0s; decide)
theorem ik5 : Inv 4 K5 := inv_of (by simp [Tile, K5]) (by unfold NB K5; decide) (by unfold Fr01 K5; decide)
theorem step_k1 {q : Nat} (hq : q ≤ 2) {a : Int} {l' : List Bk} (h : TakeR (K1s q) 0 false a 0 l') (hi' : Inv 4 l') : a = q ∧ l' = K1s (q + 1) := by
  have : q = 0 ∨ q = 1 ∨ q = 2 := by omega
  rcases this with rfl | rfl | rfl
  · obtain ⟨h1, _, h2⟩ := takeR_det (x := ⟨0, 2, 0⟩) h (ik1 0 (by omega)) hi' (ik1 1 (by omega)) (by simp [K1s]) rfl (by simp [K1s]) (fun y hy => by simp [K1s, eqBk]; omega)
    exact ⟨h1, h2⟩
  · obtain ⟨h1, _, h2⟩ := takeR_det (x := ⟨1, 0, 0⟩) h (ik1 1 (by omega)) hi' (ik1 2 (by omega)) (by simp [K1s]) rfl (by simp [K1s]) (fun y hy => by simp [K1s, eqBk]; omega)
    exact ⟨h1, h2⟩
  · obtain ⟨h1, _, h2⟩ := takeR_det (x := ⟨2, 1, 0⟩) h (ik1 2 (by omega)) hi' (ik1 3 (by omega)) (by simp [K1s]) rfl (by simp [K1s]) (fun y hy => by simp [K1s, eqBk]; omega)
    exact ⟨h1, h2⟩
theorem step_k0 {a : Int} {l' : List Bk} (h : TakeR (K0s 3) 0 false a 0 l') (hi' : Inv 4 l') : a = 0 ∧ l' = K0s 4 := by
  obtain ⟨h1, _, h2⟩ := takeR_det (x := ⟨0, 2, 0⟩) h (ik1 0 (by omega)) hi' ik0 (by simp [K0s]) rfl (by simp [K0s]) (fun y hy => by simp [K0s, eqBk]; omega)
  exact ⟨h1, h2⟩
theorem step_g {e : Int} {l' : List Bk} (h : GiveR (K1s 4) 0 0 e l') (hi : Inv 4 l') : e = 0 ∧ l' = K5 := by
  rcases h with ⟨h, _⟩ | ⟨x, h1, h2, h3, h4, h5, h6, _⟩
  · exact absurd (mem_tk.2 ⟨⟨0, 0, 1⟩, by simp [K1s], rfl, rfl, rfl⟩) h
  · have hx : x = ⟨0, 0, 1⟩ := by
      simp only [K1s, List.mem_cons, List.not_mem_nil, or_false] at h1
      rcases h1 with rfl | rfl | rfl | rfl
      · rfl
      · simp at h3
      · simp at h3
      · cases h2
    subst hx
    refine ⟨h5, hi.same ik5 fun y hy => ?_⟩
    rw [h6 y hy]
    simp only [K1s, K5, List.mem_singleton, List.mem_cons, List.not_mem_nil, or_false, eqBk, ne_eq]
    omega
theorem upd_eq {α : Type} (f : Nat → α) (i j : Nat) (v : α) : upd f i v j = if j = i then v else f j := rfl
theorem keptZ {w0 w w1 : World} {S : Zs} {z i : Nat} (h : Kept none' w0 w) (k : Kept (S.bl i) w w1) (hi : i < S.k) (hf : ∀ x, S.all z x → w0.heap.size ≤ x) : Kept none' w0 w1 :=
  own0 h k fun x hx => hf x (.inr (.inr ⟨i, hi, hx⟩))
theorem zknown_spec (w : World) : Calls Try.prog 21 #[] w fun r w' => r = .returned (.bool true) ∧ Kept none' w w' := by
  refine (vc21 w (fun v w' => v = .bool true ∧ Kept none' w w') ?_).mono ?_
  · unfold vcP21
    refine (two_spec w).mono ?_
    rintro _ w1 ⟨rfl, k1⟩
    refine ⟨twoF, rfl, (znew_spec twoF w1).mono ?_⟩
    rintro _ w2 ⟨k2, ⟨h, _⟩ | ⟨hm, z, S, L, rfl, h2, hc, hfree, hfr⟩⟩
    · exact absurd two_may h
    have hk : S.k = 2 := by
      have := h2.kc
      rw [hc] at this
      have e : twoF 0 = 2 := rfl
      rw [e] at this
      omega
    have hn : ∀ i, i < 2 → S.n i = 4 := fun i hi => by
      unfold Zs.n
      rw [hc]
      have : i = 0 ∨ i = 1 := by omega
      rcases this with rfl | rfl <;> rfl
    have K2 : Kept none' w w2 := k1.tr k2
    have s1 := k1.sz
    have hfr0 : ∀ x, S.all z x → w.heap.size ≤ x := fun x hx => by have := hfr x hx; omega
    have hL : ∀ i, i < 2 → L i = [⟨0, 2, 0⟩] := fun i hi => by
      have i1 := h2.iv i (by omega)
      rw [hn i hi] at i1
      exact i1.zero (ik1 0 (by omega)) (hfree i (by omega)) (by simp [K1s])
    have f0 : fstF S.c 0 = 0 := rfl
    have f1 : fstF S.c 1 = 4 := by rw [hc]; rfl
    refine ⟨_, _, rfl, Wif_no rfl ?_⟩
    refine ⟨fun _ k w' N => ∃ (q : Nat) (L : Nat → List Bk), k = q ∧ q ≤ 4 ∧ N = 4 - q ∧ Kept none' w w' ∧ ZAt w' z S L ∧ L 1 = K1s q ∧ L 0 = K0s q, ⟨4, 0, L, rfl, by omega, rfl, K2, h2, hL 1 (by omega), hL 0 (by omega)⟩, ?_⟩
    rintro _ _ w3 _ ⟨q, L, rfl, hq, rfl, k3, h3, hL1, hL0⟩
    refine Wif_intro (fun hc2 => ?_) (fun hc2 => ?_)
    · simp only [decide_eq_true_eq] at hc2
      have hq4 : q < 4 := by omega
      refine Wif_yes (inB_of (by omega) (by omega)) ⟨if q < 3 then 4 + (q : Int) else 0, ?_, ?_⟩
      · have : q = 0 ∨ q = 1 ∨ q = 2 ∨ q = 3 := by omega
        rcases this with rfl | rfl | rfl | rfl <;> rfl
      intro w4 e4
      have o4 := own_alloc (c := [Value.int .i64 1, Value.int .i64 0]) e4
      have k34 : Kept none' w3 w4 := (Kept.refl _ _).al e4
      have h4 := h3.k k34
      have k4 := k3.tr k34
      refine (ztake_spec h4 (len := 2) (cap := 2) (nf := fun i => if i = 0 then 1 else 0) (by omega) (fun _ => rfl) (fun i hi => ?_) 1 false).mono ?_
      · simp only [pb_some, po_some, Nat.zero_add]
        rw [o4.rd]
        have : i = 0 ∨ i = 1 := by omega
        rcases this with rfl | rfl <;> rfl
      rintro _ w5 ⟨v, rfl, hz⟩
      have hz1 : zfr S L 1 = fsum (K1s q) := by rw [show (1 : Int) = ((1 : Nat) : Int) from rfl, zfr_in (by omega), hL1]
      have hz0 : zfr S L 0 = fsum (K0s q) := by rw [show (0 : Int) = ((0 : Nat) : Int) from rfl, zfr_in (by omega), hL0]
      have hf0 : fsum (K0s q) = 4 := by
        have : q = 0 ∨ q = 1 ∨ q = 2 ∨ q = 3 := by omega
        rcases this with rfl | rfl | rfl | rfl <;> rfl
      have hf1 : fsum (K1s q) = 4 - q := by
        have : q = 0 ∨ q = 1 ∨ q = 2 ∨ q = 3 := by omega
        rcases this with rfl | rfl | rfl | rfl <;> rfl
      rcases hz with ⟨⟨i, hi, h⟩ | h, _⟩ | ⟨_, _, h, _⟩ | ⟨_, _, j, i, hj, hji, hik, hlt, hlow, a, l', rfl, k5, h5, r5⟩
      · dsimp only at h
        split at h <;> omega
      · omega
      · have := h 1 (by omega)
        simp only [if_neg (show ¬ (1 : Nat) = 0 by omega)] at this
        rw [hz0, hf0] at this
        omega
      · have K5' : Kept none' w w5 := keptZ k4 k5 hik hfr0
        have i5 := h5.iv i hik
        rw [upd_same, hn i (by omega)] at i5
        have hj2 : j = 0 ∨ j = 1 := by omega
        rcases hj2 with rfl | rfl
        · have hi1 : i = 1 := by simp at hji; omega
          subst hi1
          rw [hL1, hf1] at hlt
          rw [hL1] at r5
          obtain ⟨rfl, rfl⟩ := step_k1 (by omega) r5 i5
          refine ⟨_, _, rfl, Wif_no ?_ ⟨4 - (q + 1), by omega, q + 1, _, by rw [wi (by omega)]; rfl, by omega, rfl, K5', h5, upd_same _ _ _, ?_⟩⟩
          · rw [f1, if_pos (by omega)]; simp
          · rw [upd_ne _ _ (by omega), hL0]
            have : q = 0 ∨ q = 1 ∨ q = 2 := by omega
            rcases this with rfl | rfl | rfl <;> rfl
        · have hi0 : i = 0 := by simp at hji; omega
          subst hi0
          have h0 := hlow 0 (by omega)
          simp only [if_true] at h0
          rw [hz1, hf1] at h0
          have hq3 : q = 3 := by omega
          subst hq3
          rw [hL0] at r5
          obtain ⟨rfl, rfl⟩ := step_k0 r5 i5
          refine ⟨_, _, rfl, Wif_no ?_ ⟨0, by omega, 4, _, by rw [wi (by omega)]; rfl, by omega, rfl, K5', h5, ?_, upd_same _ _ _⟩⟩
          · rw [f0, if_neg (by omega)]; rfl
          · rw [upd_ne _ _ (by omega), hL1]; rfl
    have hq4 : q = 4 := by simp at hc2; omega
    subst hq4
    refine (zstate_spec h3 (i := 1) (by omega)).mono ?_
    rintro _ _ ⟨rfl, rfl⟩
    have e91 : S.c 91 = 1 := by rw [hc]; rfl
    have e92 : S.c 92 = 2 := by rw [hc]; rfl
    have e93 : S.c 93 = 3 := by rw [hc]; rfl
    have es1 : zst S L 1 = 0 := by
      unfold zst
      rw [hL1, e91]; rfl
    have es0 : zst S L 0 = 2 := by
      unfold zst
      rw [hL0, e91, e92, e93]; rfl
    refine ⟨_, rfl, Wif_yes (by rw [es1]; rfl) ((zstate_spec h3 (i := 0) (by omega)).mono ?_)⟩
    rintro _ _ ⟨rfl, rfl⟩
    refine ⟨_, rfl, Wif_yes (by rw [es0]; rfl) ((zgive_spec h3 4 0 (by omega)).mono ?_)⟩
    rintro _ w6 (⟨i, e, l', hik, g1, g2, rfl, k6, h6, r6⟩ | ⟨hno, _⟩)
    · have hi1 : i = 1 := by
        have : i = 0 ∨ i = 1 := by omega
        rcases this with rfl | rfl
        · rw [f1] at g2; omega
        · rfl
      subst hi1
      have i6 := h6.iv 1 hik
      rw [upd_same, hn 1 (by omega)] at i6
      rw [hL1, f1] at r6
      obtain ⟨rfl, rfl⟩ := step_g r6 i6
      refine ⟨_, rfl, Wif_yes rfl ((zfree_spec h6 1).mono ?_)⟩
      rintro _ w7 ⟨rfl, rfl⟩
      refine ⟨_, rfl, ?_, keptZ k3 k6 hik hfr0⟩
      rw [show (1 : Int) = ((1 : Nat) : Int) from rfl, zfr_in hik, upd_same]
      rfl
    · have : fstF S.c S.k = 8 := by rw [hk, hc]; rfl
      omega
  · rintro e w' ⟨v, rfl, rfl, hw⟩
    exact ⟨rfl, hw⟩
end Go.Proofs.Ytkmcmkimeibjdaa
