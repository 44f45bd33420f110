/-
  A part of a proof that a law of this seat returns true at every input. Conditions: those in each theorem.
-/
import Derived.Test.YtklmokolnakkoaaGreatDoorZ1
import Derived.Test.YtklmokolnakkoaaGreatDoorX5
set_option linter.unusedSimpArgs false
set_option linter.unusedVariables false
set_option maxRecDepth 100000
namespace Go.Proofs.YtklmokolnakkoaaGreatDoor
open Go Go.Eng
set_option maxHeartbeats 4000000 in
theorem coreHolds_walk {w : World} (hz : SizR w) (hw : 0 < w.heap.size) (c : Nat → Int) {l : Option Addr} {lL lC : Nat} (hx : (0 < lL → isP l = true) ∧ ∀ q : Nat, q < lL → ∃ x1 x2 x3 : Int, XOp w l q x1 x2 x3) :
    Calls Tryz.prog 5 #[cfgV c, .slice l lL lC] w fun e w' => e = .returned (.bool true) ∧ Kept none' w w' := by
  refine (vc5 c l lL lC w (fun v w' => v = .bool true ∧ Kept none' w w') ?_).mono ?_
  rotate_left
  · rintro e w' ⟨v, rfl, rfl, h⟩
    exact ⟨rfl, h⟩
  unfold vcP5
  intro w1 e1
  have o1 := own_alloc e1
  have k1 : Kept none' w w1 := (Kept.refl _ _).al e1
  have hs1 : w.heap.size < w1.heap.size := o1.lt
  clear e1
  generalize hb0 : w.heap.size = b0 at *
  refine ⟨c, o1.rIall, (core_new c (hz.k k1) (by omega)).mono ?_⟩
  rintro _ w2 ⟨k2, ⟨hno, rfl⟩ | ⟨hm, k, S, fp, rfl, C2, hc, F, hfp⟩⟩
  · exact ⟨_, _, rfl, Wif_yes rfl (known_k hz (by omega) (k1.tr k2))⟩
  refine ⟨_, _, rfl, Wif_intro (fun _ => known_k hz (by omega) (k1.tr k2)) (fun hlen => ?_)⟩
  have hl2 : lL ≤ 200 := by simp at hlen; omega
  clear hlen
  have hs := C2.sizes
  have ec : c 1 = S.cpus := by rw [← hc]; exact hs.2.1.2.2.symm
  have rc : ∀ {W : World}, Kept none' w1 W → rd W b0 1 = some (vi S.cpus) := fun kk => by rw [(o1.k kk).rI (by omega), ec]
  refine ⟨_, rc k2, Wif_yes (okm_of (by omega) (by omega) (by omega)) fun w3 e3 => ?_⟩
  rw [Int.toNat_natCast] at *
  have k3 : Kept none' w2 w3 := (Kept.refl _ _).al e3
  have R3 : WantA S.cpus w2.heap.size S.held (rng w2 w3) w3 := nilRow e3 fun j _ => by
    rw [F.held]
    exact ⟨⟨none, 0, 0, rfl, RowI.nil', fun x e => by cases e⟩, fun _ h => h.elim⟩
  have hs2 := k2.sz
  have I0 : HI w1 k S w2.heap.size 0 S.held w3 := ⟨k2.tr k3, ⟨fp, rng w2 w3, C2.k k3, R3, fun p x h => ⟨hfp p x h, fun e => by have := (C2.lt p x h).2; have := e.1; omega⟩, fun x e => by have := e.1; omega⟩, fun i => by rw [F.held]; exact Nat.le_refl _⟩
  clear e3
  generalize hg : w2.heap.size = g at *
  refine ⟨fun n W N => ∃ (q : Nat) (f : Nat → List Int), n = q ∧ q ≤ lL ∧ N = lL - q ∧ HI w1 k S g q f W, ⟨lL, 0, S.held, rfl, Nat.zero_le _, rfl, I0⟩, ?_⟩
  clear I0 R3 k3
  rintro _ w4 _ ⟨q, f, rfl, hq, rfl, I⟩
  refine Wif_intro (fun hcq => ?_) (fun hcq => ?_)
  · -- one more
    have hql : q < lL := by simp at hcq; omega
    clear hcq
    obtain ⟨x1, x2, x3, X⟩ := hx.2 q hql
    have K4 : Kept none' w w4 := k1.tr I.kp
    refine Wif_yes (hx.1 (by omega)) (Wif_yes (inB_of (by omega) (by omega)) ⟨x1, x2, x3, ?_, fun w5 e5 => ?_⟩)
    · rw [Int.toNat_natCast]
      exact ⟨K4.rd_some X.r0 id, K4.rd_some X.r1 id, K4.rd_some X.r2 id⟩
    have o5 : own w5 w4.heap.size [vi 0, vi 0, vi 0] := own_alloc e5
    have k5 : Kept none' w4 w5 := (Kept.refl _ _).al e5
    refine ⟨⟨o5.wr (by decide), o5.wr (by decide), o5.wr (by decide)⟩, fun w6 e6 => ?_⟩
    obtain ⟨o6, k6'⟩ := st3 o5 rfl e6
    have k6 : Kept none' w4 w6 := own0 k5 k6' fun x e => Nat.le_of_eq e.symm
    clear e5 e6 k5 k6' o5 X
    have I6 := I.k k6
    obtain ⟨fp4, G, C4, R4, d1, d2⟩ := I.ex
    have hbf : ∀ p, ¬ fp4 p w4.heap.size := fun p h => by have := (C4.lt p _ h).2; omega
    have hbG : ¬ G w4.heap.size := fun h => by have := R4.lt _ h; omega
    have hbq : w1.heap.size ≤ w4.heap.size := I.kp.sz
    have h46 := o6.lt
    have C6 := C4.k k6
    have R6 : WantA S.cpus g f G w6 := (RowA.stb fun _ _ => IntsA.stb).kx _ _ _ _ none' R4 k6 fun _ e => e.elim
    have K6 := I6.kp
    have hln := I.len
    clear I I6 C4 R4 k6 K4
    generalize hbq0 : w4.heap.size = bq at *
    have z0 : ∀ {W : World}, Kept (fun x => x ≠ bq) w6 W → rd W bq 0 = some (vi x1) ∧ rd W bq 1 = some (vi x2) ∧ rd W bq 2 = some (vi x3) := fun kk => by
      have o := o6.kx kk fun e => e rfl
      exact ⟨by rw [o.rd]; rfl, by rw [o.rd]; rfl, by rw [o.rd]; rfl⟩
    have zr := z0 (Kept.refl _ w6)
    refine ⟨x1, zr.1, x1, fun _ => zr.1, _, fun _ => rc K6, x3, zr.2.2, Wif_intro (fun hev => ?_) (fun hev => ?_)⟩
    · -- hold
      refine ⟨x1, zr.1, x2, zr.2.1, (hold_spec C6 x1 x2 fun i _ => Nat.le_trans (hln i) (by omega)).mono ?_⟩
      rintro _ w7 ⟨rfl, k7, fp7, C7, hf7⟩
      have C7 : CoreAt w7 k (setHeld S (if 0 ≤ x1 ∧ x1 < S.cpus then upd f x1.toNat (f x1.toNat ++ [x2]) else f)) fp7 := C7
      have k7 : Kept (fp4 .held) w6 w7 := k7
      have K7b : Kept (fun x => x ≠ bq) w6 w7 := k7.mono fun x _ h e => hbf _ (e ▸ h)
      have R7 : WantA S.cpus g f G w7 := (RowA.stb fun _ _ => IntsA.stb).kx _ _ _ _ _ R6 k7 fun x h1 h2 => (d1 _ x h1).2 h2
      have K7 : Kept none' w1 w7 := own0 K6 k7 fun x h => (d1 _ x h).1
      have hd7 : ∀ p x, fp7 p x → w1.heap.size ≤ x ∧ ¬ G x := fun p x h => by
        rcases hf7 p x h with h | h
        · exact d1 p x h
        · have := h.1
          exact ⟨by omega, fun h2 => by have := R6.lt x h2; omega⟩
      refine ⟨rfl, Wif_intro (fun hin => ?_) (fun hin => ?_)⟩
      · have hin : 0 ≤ x1 ∧ x1 < S.cpus := by simpa using hin
        rw [if_pos hin] at C7
        obtain ⟨i, rfl⟩ : ∃ i : Nat, x1 = i := ⟨x1.toNat, by omega⟩
        have hi : i < S.cpus := by omega
        rw [Int.toNat_natCast] at C7
        intro w8 e8
        have k8 : Kept none' w7 w8 := (Kept.refl _ _).dr e8
        have s8 : w8.heap.size = w7.heap.size := by rw [e8]; rfl
        have C8 := C7.k k8
        have R8 : WantA S.cpus g f G w8 := (RowA.stb fun _ _ => IntsA.stb).kx _ _ _ _ none' R7 k8 fun _ e => e.elim
        have K8b : Kept (fun x => x ≠ bq) w6 w8 := K7b.trans k8 fun _ _ e => e.elim
        have K8 := K7.tr k8
        clear e8 k8
        obtain ⟨a, la, ca, hr, happ⟩ := R8.app hi x2 (Nat.le_trans (hln i) (by omega))
        obtain ⟨_, _, _, _, _, hgG⟩ := R8.get hi
        have cg : ∀ {W : World} {v : Value}, rd W g i = some v → rd W g (0 + Int.toNat (i : Int) * 1) = some v := fun h => by rw [Int.toNat_natCast, Nat.mul_one, Nat.zero_add]; exact h
        refine ⟨_, (z0 K8b).1, _, (z0 K8b).1, Wif_yes (inB_of (by omega) (by omega)) ⟨a, la, ca, cg hr, _, (z0 K8b).2.1, fun w9 e9 => ?_⟩⟩
        have k9 : Kept none' w8 w9 := (Kept.refl _ _).al e9
        have K9b : Kept (fun x => x ≠ bq) w6 w9 := K8b.trans k9 fun _ _ e => e.elim
        obtain ⟨a', l', c', w10, ha, k10, hwr, hst⟩ := happ w9 e9
        have K10b : Kept (fun x => x ≠ bq) w6 w10 := K8b.trans k10 fun x _ h e => hbG (e ▸ h.1)
        refine ⟨⟨cg (k9.rd_some hr id), trivial⟩, ⟨(z0 K9b).1, trivial⟩, ⟨(z0 K9b).1, trivial⟩, a', l', c', w10, ha, ⟨(z0 K10b).1, trivial⟩, Wif_yes (inB_of (by omega) (by omega)) ⟨?_, fun w11 e11 => ?_⟩⟩
        · rw [Int.toNat_natCast, Nat.mul_one, Nat.zero_add]
          exact hwr
        rw [Int.toNat_natCast, Nat.mul_one, Nat.zero_add] at e11
        obtain ⟨k11, R11⟩ := hst w11 e11
        refine ⟨lL - (q + 1), by omega, q + 1, _, by rw [wi (by omega)]; rfl, hql, rfl, own0 K8 k11 d2, ⟨fp7, _, C8.kx k11 fun x p h1 h2 => (hd7 p x h2).2 h1, R11, fun p x h => ⟨(hd7 p x h).1, fun h2 => ?_⟩, fun x h => ?_⟩, fun j => ?_⟩
        · rcases h2 with h2 | h2
          · exact (hd7 p x h).2 h2
          · have := (C8.lt p x h).2; have := h2.1; omega
        · rcases h with h | h
          · exact d2 x h
          · have := h.1; have := K8.sz; omega
        · by_cases hj : j = i
          · subst hj; rw [upd_same, List.length_append]; have := hln j; simp; omega
          · rw [upd_ne _ _ hj]; have := hln j; omega
      · have hno : ¬ (0 ≤ x1 ∧ x1 < S.cpus) := fun hh => by simp [hh.1, hh.2] at hin
        rw [if_neg hno] at C7
        exact ⟨lL - (q + 1), by omega, q + 1, f, by rw [wi (by omega)]; rfl, hql, rfl, K7, ⟨fp7, G, C7, R7, hd7, d2⟩, fun j => Nat.le_trans (hln j) (by omega)⟩
    · -- drop
      refine ⟨x1, zr.1, x2, zr.2.1, (drop_spec C6 x1 x2 fun i _ => Nat.le_trans (hln i) (by omega)).mono ?_⟩
      rintro _ w7 ⟨rfl, k7, fp7, f7, C7, hf7, hff⟩
      have C7 : CoreAt w7 k (setHeld S f7) fp7 := C7
      have hff : (∃ (i j : Nat), x1 = i ∧ i < S.cpus ∧ FirstAt (f i) x2 j ∧ f7 = upd f i (del (f i) j)) ∨ ((∀ i : Nat, x1 = i → i < S.cpus → ∀ j : Nat, (f i)[j]? ≠ some x2) ∧ f7 = f) := hff
      have k7 : Kept (fp4 .held) w6 w7 := k7
      have K7b : Kept (fun x => x ≠ bq) w6 w7 := k7.mono fun x _ h e => hbf _ (e ▸ h)
      have R7 : WantA S.cpus g f G w7 := (RowA.stb fun _ _ => IntsA.stb).kx _ _ _ _ _ R6 k7 fun x h1 h2 => (d1 _ x h1).2 h2
      have K7 : Kept none' w1 w7 := own0 K6 k7 fun x h => (d1 _ x h).1
      have hd7 : ∀ p x, fp7 p x → w1.heap.size ≤ x ∧ ¬ G x := fun p x h => by
        rcases hf7 p x h with h | h
        · exact d1 p x h
        · have := h.1
          exact ⟨by omega, fun h2 => by have := R6.lt x h2; omega⟩
      refine ⟨rfl, ?_⟩
      by_cases hin : 0 ≤ x1 ∧ x1 < S.cpus
      · obtain ⟨i, rfl⟩ : ∃ i : Nat, x1 = i := ⟨x1.toNat, by omega⟩
        have hi : i < S.cpus := by omega
        have cg : ∀ {W : World} {v : Value}, rd W g i = some v → rd W g (0 + Int.toNat (i : Int) * 1) = some v := fun h => by rw [Int.toNat_natCast, Nat.mul_one, Nat.zero_add]; exact h
        have hdc : (decide ((i : Int) ≥ 0) && decide ((i : Int) < (S.cpus : Int))) = true := by simpa using hin
        refine ⟨fun m W M => ∃ r : Nat, m = r ∧ r ≤ (f i).length ∧ M = (f i).length - r ∧ Kept none' w7 W ∧ ∀ j : Nat, j < r → (f i)[j]? ≠ some x2, ⟨_, 0, rfl, Nat.zero_le _, rfl, Kept.refl _ _, fun j h => absurd h (Nat.not_lt_zero _)⟩, ?_⟩
        rintro _ w8 _ ⟨r, rfl, hr, rfl, k8, hnf⟩
        have C8 := C7.k k8
        have R8 : WantA S.cpus g f G w8 := (RowA.stb fun _ _ => IntsA.stb).kx _ _ _ _ none' R7 k8 fun _ e => e.elim
        have K8b : Kept (fun x => x ≠ bq) w6 w8 := K7b.trans k8 fun _ _ e => e.elim
        have K8 := K7.tr k8
        obtain ⟨a, la, ca, hra, RI, hgG⟩ := R8.get hi
        have hla := RI.1
        refine ⟨i, fun _ => (z0 K8b).1, gIf_intro (fun _ => inB_of (by omega) (by omega)) ⟨a, la, ca, fun _ => cg hra, Wif_intro (fun hcr => ?_) (fun hcr => ?_)⟩⟩
        · have hrl : r < (f i).length := by simp at hcr; omega
          intro w9 e9
          have k9 : Kept none' w8 w9 := (Kept.refl _ _).dr e9
          have K9b : Kept (fun x => x ≠ bq) w6 w9 := K8b.trans k9 fun _ _ e => e.elim
          have hra9 := k9.rd_some hra id
          obtain ⟨x, hxr⟩ : ∃ x, (f i)[r]? = some x := ⟨_, List.getElem?_eq_getElem hrl⟩
          obtain ⟨hp, hrx⟩ := (RI.k k9).rd hxr
          refine ⟨_, (z0 K9b).1, Wif_yes (inB_of (by omega) (by omega)) ⟨a, la, ca, cg hra9, Wif_yes hp (Wif_yes (inB_of (by omega) (by omega)) ⟨x, hrx, x2, (z0 K9b).2.1, Wif_intro (fun he => ?_) (fun he => ?_)⟩)⟩⟩
          · have he : x = x2 := by simpa using he
            subst he
            have hfa : FirstAt (f i) x r := ⟨hxr, hnf⟩
            have hf7e : f7 = upd f i (del (f i) r) := by
              rcases hff with ⟨i', j, h1, _, h3, h4⟩ | ⟨h1, _⟩
              · have : i' = i := by omega
                subst this
                rw [h4, FirstAt.uniq hfa h3]
              · exact absurd hxr (h1 i rfl hi r)
            subst hf7e
            intro w10 e10
            have k10 : Kept none' w9 w10 := (Kept.refl _ _).dr e10
            have k7a : Kept none' w7 w10 := (k8.tr k9).tr k10
            have C10 := C7.k k7a
            have R10 : WantA S.cpus g f G w10 := (RowA.stb fun _ _ => IntsA.stb).kx _ _ _ _ none' R7 k7a fun _ e => e.elim
            have K10b : Kept (fun x => x ≠ bq) w6 w10 := K7b.trans k7a fun _ _ e => e.elim
            have K10 := K7.tr k7a
            obtain ⟨a, la, ca, hr10, hla, hlc, hcm, hcut⟩ := R10.cut hi hrl (Nat.le_trans (hln i) (by omega))
            refine ⟨_, (z0 K10b).1, _, (z0 K10b).1, Wif_yes (inB_of (by omega) (by omega)) ⟨a, la, ca, cg hr10, Wif_yes (okSl_of (by omega) (by omega) (by omega)) ⟨_, (z0 K10b).1, Wif_yes (inB_of (by omega) (by omega)) ⟨a, la, ca, cg hr10, ?_⟩⟩⟩⟩
            rw [wi (by have := hln i; omega)]
            refine Wif_yes (okSl_of (by omega) (by omega) (by omega)) fun w11 e11 => ?_
            have k11 : Kept none' w10 w11 := (Kept.refl _ _).al e11
            have K11b : Kept (fun x => x ≠ bq) w6 w11 := K10b.trans k11 fun _ _ e => e.elim
            obtain ⟨a1, l1, c1, w12, p1, k12, a2, l2, c2, w13, p2, k13, hwr, hst⟩ := hcut w11 e11
            have K12b : Kept (fun x => x ≠ bq) w6 w12 := K10b.trans k12 fun _ _ e => e.elim
            have K13b : Kept (fun x => x ≠ bq) w6 w13 := K10b.trans k13 fun _ _ e => e.elim
            have er : Int.toNat ((r : Int) + 1) = r + 1 := by omega
            rw [er, Int.toNat_natCast]
            refine ⟨⟨cg (k11.rd_some hr10 id), trivial⟩, ⟨(z0 K11b).1, trivial⟩, ⟨cg (k11.rd_some hr10 id), trivial⟩, ⟨(z0 K11b).1, trivial⟩, ⟨(z0 K11b).1, trivial⟩, a1, l1, c1, w12, p1, ⟨cg (k12.rd_some hr10 id), trivial⟩, ⟨(z0 K12b).1, trivial⟩, ⟨(z0 K12b).1, trivial⟩, a2, l2, c2, w13, p2, ⟨(z0 K13b).1, trivial⟩, Wif_yes (inB_of (by omega) (by omega)) ⟨?_, fun w14 e14 => ?_⟩⟩
            · rw [Nat.mul_one, Nat.zero_add]
              exact hwr
            rw [Nat.mul_one, Nat.zero_add] at e14
            obtain ⟨k14, R14⟩ := hst w14 e14
            refine ⟨lL - (q + 1), by omega, q + 1, _, by rw [wi (by omega)]; rfl, hql, rfl, own0 K10 k14 d2, ⟨fp7, _, C10.kx k14 fun x p h1 h2 => (hd7 p x h2).2 h1, R14, fun p x h => ⟨(hd7 p x h).1, fun h2 => ?_⟩, fun x h => ?_⟩, fun j => ?_⟩
            · rcases h2 with h2 | h2
              · exact (hd7 p x h).2 h2
              · have := (C10.lt p x h).2; have := h2.1; omega
            · rcases h with h | h
              · exact d2 x h
              · have := h.1; have := K10.sz; omega
            · by_cases hj : j = i
              · subst hj; rw [upd_same]; have := hln j; have := del_len (xs := f j) (j := r); omega
              · rw [upd_ne _ _ hj]; have := hln j; omega
          · have he : x ≠ x2 := by simpa using he
            refine ⟨(f i).length - (r + 1), by omega, r + 1, by rw [wi (by have := hln i; omega)]; rfl, hrl, rfl, k8.tr k9, fun j hj => ?_⟩
            rcases Nat.lt_or_ge j r with h3 | h3
            · exact hnf j h3
            · rw [show j = r by omega, hxr]
              exact fun e => he (Option.some.inj e)
        · have hrl : r = (f i).length := by
            rw [hdc] at hcr
            simp at hcr
            omega
          have hf7e : f7 = f := by
            rcases hff with ⟨i', j, h1, _, h3, h4⟩ | ⟨_, h1⟩
            · have : i' = i := by omega
              subst this
              exact absurd h3.1 (hnf j (by have := (List.getElem?_eq_some_iff.1 h3.1).1; omega))
            · exact h1
          subst hf7e
          exact ⟨lL - (q + 1), by omega, q + 1, _, by rw [wi (by omega)]; rfl, hql, rfl, K8, ⟨fp7, G, C8, R8, hd7, d2⟩, fun j => Nat.le_trans (hln j) (by omega)⟩
      · have hdc : (decide (x1 ≥ 0) && decide (x1 < (S.cpus : Int))) = false := by
          rw [Bool.eq_false_iff]
          intro h
          exact hin (by simpa using h)
        have hf7e : f7 = f := by
          rcases hff with ⟨i', j, h1, h2, _, _⟩ | ⟨_, h1⟩
          · exact absurd ⟨by omega, by omega⟩ hin
          · exact h1
        subst hf7e
        refine ⟨fun m W M => W = w7, ⟨0, rfl⟩, ?_⟩
        rintro m w8 M hw8
        rw [hw8]
        refine ⟨x1, fun _ => (z0 K7b).1, gIf_intro (fun h => by rw [hdc] at h; cases h) ⟨none, 0, 0, (fun h => by rw [hdc] at h; cases h), Wif_no (by rw [hdc]; rfl) ?_⟩⟩
        exact ⟨lL - (q + 1), by omega, q + 1, _, by rw [wi (by omega)]; rfl, hql, rfl, K7, ⟨fp7, G, C7, R7, hd7, d2⟩, fun j => Nat.le_trans (hln j) (by omega)⟩
  · -- the end
    have hqe : q = lL := by simp at hcq; omega
    subst hqe
    clear hcq
    obtain ⟨fp4, G, C4, R4, d1, d2⟩ := I.ex
    have hln := I.len
    have hP : ProcC (setHeld S f) P0 k w4 := fun i b W _ hb _ => by
      have hb : S.sp i = some b := hb
      rw [F.sp] at hb; cases hb
    refine (picture_spec C4 hP (fun i _ => Nat.le_trans (hln i) (by omega)) (fun i _ => ?_) ?_).mono ?_
    · show (S.ring i).length ≤ _
      rw [F.ring]; exact Nat.zero_le _
    · show S.fli.length ≤ _
      rw [F.fli, List.length_replicate]; omega
    rintro _ w5 ⟨PS, rfl, k5, A5⟩
    refine ⟨_, _, _, _, _, _, _, _, _, _, _, _, _, _, _, _, _, _, _, _, _, _, _, _, _, _, _, _, _, _, _, _, _, _, _, _, _, _, _, _, rfl, fun w6 e6 => ?_⟩
    have o6 := own_alloc e6
    have k6 : Kept none' w5 w6 := (Kept.refl _ _).al e6
    refine ⟨o6.wrAll 0 (by simp [runI_len]), fun w7 e7 => ?_⟩
    obtain ⟨o7, k7'⟩ := stAll_whole o6 e7 (by simp [runI_len])
    have k7 : Kept none' w5 w7 := own0 k6 k7' fun x e => Nat.le_of_eq e.symm
    have P7 := (A5.now).k k7
    have R7 : WantA S.cpus g f G w7 := (RowA.stb fun _ _ => IntsA.stb).kx _ _ _ _ none' R4 (k5.tr k7) fun _ e => e.elim
    have K7 : Kept none' w w7 := ((k1.tr I.kp).tr k5).tr k7
    clear e6 e7 k6 k7' o6 A5
    generalize w5.heap.size = br at *
    have r96 : ∀ {W : World}, Kept none' w7 W → rd W br 96 = some (.slice (PS.a 2) (PS.l 2) (PS.c 2)) := fun kk => by
      rw [(o7.k kk).rd, List.getElem?_append_right (by rw [runI_len]; omega), runI_len]
      rfl
    have eh : (picOf (setHeld S f) P0).held = (List.range S.cpus).map f := rfl
    have l2 : PS.l 2 = S.cpus := by rw [P7.held.len, eh, List.length_map, List.length_range]
    have cg : ∀ {W : World} {i : Nat} {v : Value}, rd W g i = some v → rd W g (0 + Int.toNat (i : Int) * 1) = some v := fun h => by rw [Int.toNat_natCast, Nat.mul_one, Nat.zero_add]; exact h
    refine ⟨_, _, _, r96 (Kept.refl _ _), Wif_no (by rw [l2]; simp) ?_⟩
    refine ⟨fun _ n W N => ∃ i : Nat, n = i ∧ i ≤ S.cpus ∧ N = S.cpus - i ∧ Kept none' w7 W, ⟨S.cpus, 0, rfl, Nat.zero_le _, rfl, Kept.refl _ _⟩, ?_⟩
    rintro _ _ w8 _ ⟨i, rfl, hi, rfl, k8⟩
    refine Wif_intro (fun hci => ?_) (fun hci => ?_)
    · have hic : i < S.cpus := by simp at hci; omega
      intro w9 e9
      have k9 : Kept none' w7 w9 := k8.dr e9
      have P9 := P7.k k9
      have R9 : WantA S.cpus g f G w9 := (RowA.stb fun _ _ => IntsA.stb).kx _ _ _ _ none' R7 k9 fun _ e => e.elim
      obtain ⟨a, la, ca, SL, hra⟩ := P9.held.sl (i := i) (x := f i) (by rw [eh]; exact range_get hic)
      obtain ⟨b, lb, cb, hrb, RI, _⟩ := R9.get hic
      have hla := SL.len
      have hlb := RI.1
      refine ⟨_, _, _, r96 k9, Wif_yes (P9.held.isp (by omega)) (Wif_yes (inB_of (by omega) (by omega)) ⟨a, la, ca, hra, Wif_yes (inB_of (by omega) (by omega)) ⟨b, lb, cb, cg hrb, Wif_no (by rw [hla, hlb]; simp) (Wif_yes (inB_of (by omega) (by omega)) ⟨b, lb, cb, cg hrb, ?_⟩)⟩⟩)⟩
      refine ⟨fun _ n W N => ∃ j : Nat, n = j ∧ j ≤ (f i).length ∧ N = (f i).length - j ∧ Kept none' w9 W, ⟨_, 0, rfl, Nat.zero_le _, rfl, Kept.refl _ _⟩, ?_⟩
      rintro _ _ w10 _ ⟨j, rfl, hj, rfl, k10⟩
      have hfi := hln i
      refine Wif_intro (fun hcj => ?_) (fun hcj => ?_)
      · have hjl : j < (f i).length := by simp at hcj; omega
        intro w11 e11
        have k11 : Kept none' w9 w11 := k10.dr e11
        obtain ⟨x, hxj⟩ : ∃ x, (f i)[j]? = some x := ⟨_, List.getElem?_eq_getElem hjl⟩
        have SL' := SL.k RInt.stab k11
        obtain ⟨hp, hrx⟩ := (RI.k k11).rd hxj
        exact ⟨_, _, _, r96 (k9.tr k11), Wif_yes (P9.held.isp (by omega)) (Wif_yes (inB_of (by omega) (by omega)) ⟨a, la, ca, k11.rd_some hra id, Wif_yes (SL'.isp (by omega)) (Wif_yes (inB_of (by omega) (by omega)) ⟨x, SL'.int hxj, Wif_yes (inB_of (by omega) (by omega)) ⟨b, lb, cb, cg (k11.rd_some hrb id), Wif_yes hp (Wif_yes (inB_of (by omega) (by omega)) ⟨x, hrx,
          Wif_no (by simp) ⟨(f i).length - (j + 1), by omega, j + 1, by rw [wi (by omega)]; rfl, hjl, rfl, k11⟩⟩)⟩⟩)⟩)⟩
      · exact ⟨S.cpus - (i + 1), by omega, i + 1, by rw [wi (by omega)]; rfl, hic, rfl, k9.tr k10⟩
    · exact known_k hz (by omega) (K7.tr k8)
end Go.Proofs.YtklmokolnakkoaaGreatDoor
namespace Go.Proofs.YtklmokolnakkoaaGreatDoor
open Go Go.ChangeShapes Go.WideShapes Go.ChangeAt Go.RowKit Go.Eng
set_option linter.unusedSimpArgs false
set_option linter.unusedVariables false
set_option maxRecDepth 100000
section
variable {H : Type} {enc : TypeId × Value → H}
theorem cells_71 : Tryz.prog.cellsOf 71 = 3 * 1 := by kernel_rfl
theorem tr71 (W : World) : Tr H enc Tryz.prog W 71 := tr_arr Tryz.underlying71 cells_3 cells_71 (tr3 W)
theorem open_xs {W : World} {base : Nat} {v : Value} {d : DataW H} {p : List MemPlace} (hv : Value.okWide Tryz.prog W .any base 70 v) (h : DataW.Trod enc Tryz.prog W 0 (fun _ => true) true 70 v d p) :
    ∃ a l c, v = .slice a l c ∧ (0 < l → isP a = true) ∧ ∀ q : Nat, q < l → ∃ x1 x2 x3 : Int, XOp W a q x1 x2 x3 := by
  obtain ⟨a0, l0, c0, rfl⟩ := okWide_slice Tryz.underlying70 hv
  obtain ⟨fuel, hf⟩ := h
  obtain ⟨a, l, c, e, _, _, hp, _, hx⟩ := open_row Tryz.underlying70 hf (by rw [cells_71]; decide)
  simp [Value.cells] at e
  obtain ⟨rfl, rfl, rfl⟩ := e
  refine ⟨_, _, _, rfl, hp, fun q hq => ?_⟩
  obtain ⟨cs, n, x, hlen, hcell, htr⟩ := hx q hq
  rw [cells_71] at hcell hlen
  obtain ⟨hi, _⟩ := tr71 W _ _ _ htr
  obtain ⟨x1, h1, _⟩ := hi 0 (by omega)
  obtain ⟨x2, h2, _⟩ := hi 1 (by omega)
  obtain ⟨x3, h3, _⟩ := hi 2 (by omega)
  exact ⟨x1, x2, x3, (hcell 0 (by omega)).trans h1, (hcell 1 (by omega)).trans h2, (hcell 2 (by omega)).trans h3⟩
end
end Go.Proofs.YtklmokolnakkoaaGreatDoor
