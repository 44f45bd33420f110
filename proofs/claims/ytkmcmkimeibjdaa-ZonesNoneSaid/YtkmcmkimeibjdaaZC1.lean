/-
  A part of a proof that a law of this seat returns true at every input. Conditions: those in each theorem.
-/
import Derived.Test.YtkmcmkimeibjdaaEngQ
import Derived.Test.YtkmcmkimeibjdaaZV1
namespace Go.Proofs.Ytkmcmkimeibjdaa
open Go Eng
set_option linter.unusedSimpArgs false
set_option linter.unusedVariables false
set_option maxRecDepth 100000
/-! ### a config -/
abbrev cfg (c : Nat → Int) : List Value := runI .i64 c 0 94
abbrev cfgV (c : Nat → Int) : Value := .agg (cfg c).toArray
def clrF (f : Nat → Int) (o n : Nat) : Nat → Int := fun i => if o ≤ i ∧ i < o + n then 0 else f i
section
variable {w w' : World} {b : Nat} {f : Nat → Int}
theorem clr_cfg {t e : TypeId} {z : Value} {s : Nat} (ht : Try.prog.underlying t = some (.slice e)) (hv : ∀ w, (zeroValue e).run Try.prog w = .ok z w) (hz : z.cells = (List.replicate s (.int .i64 0)).toArray)
    (h : own w b (cfg f)) (o k cap : Nat) (hk : k ≤ cap) (hn : o + cap * s ≤ 94) {ty : TypeId} :
    ∃ w', clrIs Try.prog #[t] ty (.slice (offA (some ⟨b, o, none⟩) cap k s) (cap - k) (cap - k)) w w' ∧ own w' b (cfg (clrF f (o + k * s) ((cap - k) * s))) ∧ Kept (· = b) w w' := by
  have hks : k * s + (cap - k) * s = cap * s := by rw [← Nat.add_mul]; congr 1; omega
  have hoff : ∃ o', offA (some ⟨b, o, none⟩) cap k s = some ⟨b, o', none⟩ ∧ (o' = o + k * s ∨ k = cap) ∧ o' + (cap - k) * s ≤ 94 := by
    unfold offA
    by_cases e : cap = k
    · rw [if_pos e]; exact ⟨o, rfl, .inr e.symm, by subst e; simp; omega⟩
    · rw [if_neg e]
      refine ⟨o + k * s, ?_, .inl rfl, by omega⟩
      simp [Addr.add]
  obtain ⟨o', e1, e2, e3⟩ := hoff
  rw [e1]
  obtain ⟨w', hc, ho, hkp⟩ := clrN_own (ty := ty) ht hv hz rfl h o' (cap - k) (cap - k) (by rw [runI_len]; exact e3)
  refine ⟨w', hc, ?_, hkp⟩
  have : (cfg f).take o' ++ List.replicate ((cap - k) * s) (Value.int .i64 0) ++ (cfg f).drop (o' + (cap - k) * s) = cfg (clrF f (o + k * s) ((cap - k) * s)) := by
    refine runI_of (by simp [runI_len]; omega) fun j hj => ?_
    have hl : ((cfg f).take o').length = o' := by simp [runI_len]; omega
    by_cases h1 : j < o'
    · rw [List.append_assoc, List.getElem?_append_left (by omega), List.getElem?_take, if_pos h1, runI_get _ _ _ _ _ hj, Nat.zero_add]
      unfold clrF
      rw [if_neg]
      rcases e2 with rfl | rfl
      · omega
      · rw [Nat.sub_self]; omega
    · by_cases h2 : j < o' + (cap - k) * s
      · rw [List.getElem?_append_left (by simp [runI_len]; omega), List.getElem?_append_right (by omega), List.getElem?_replicate, if_pos (by omega)]
        unfold clrF
        rw [if_pos]
        rcases e2 with rfl | rfl
        · omega
        · rw [Nat.sub_self] at h2; omega
      · rw [List.getElem?_append_right (by simp [runI_len]; omega), List.getElem?_drop]
        rw [show o' + (cap - k) * s + (j - (List.take o' (cfg f) ++ List.replicate ((cap - k) * s) (Value.int .i64 0)).length) = j by simp [runI_len]; omega, runI_get _ _ _ _ _ hj, Nat.zero_add]
        unfold clrF
        rw [if_neg]
        rcases e2 with rfl | rfl
        · omega
        · rw [Nat.sub_self]; omega
  rw [this] at ho
  exact ho
end
def bareF (c : Nat → Int) (i : Nat) : Int :=
  if (2 + (c 1).toNat ≤ i ∧ i < 18) ∨ (18 + (c 0).toNat ≤ i ∧ i < 26) ∨ (26 ≤ i ∧ i < 90 ∧ ((c 0).toNat ≤ (i - 26) % 8 ∨ (c 0).toNat ≤ (i - 26) / 8)) then 0 else c i
def rowsF (c g : Nat → Int) (q : Nat) (i : Nat) : Int := if 26 ≤ i ∧ i < 26 + 8 * q ∧ (c 0).toNat ≤ (i - 26) % 8 then 0 else g i
theorem zero3' (w : World) : (zeroValue 3).run Try.prog w = .ok (.int .i64 0) w := Try.zeroValue3 w
theorem zero38 (w : World) : (zeroValue 38).run Try.prog w = .ok (.agg (List.replicate 8 (Value.int .i64 0)).toArray) w := Try.zeroValue38 w
theorem bare_spec (c : Nat → Int) (w : World) (h0 : 0 ≤ c 0 ∧ c 0 ≤ 8) (h1 : 0 ≤ c 1 ∧ c 1 ≤ 16) :
    Calls Try.prog 69 #[cfgV c] w fun r w' => r = .returned (cfgV (bareF c)) ∧ Kept none' w w' := by
  refine (vc69 c w (fun v w' => v = cfgV (bareF c) ∧ Kept none' w w') ?_).mono ?_
  · unfold vcP69
    intro w1 e1 w2 e2
    have o1 := own_alloc e1
    have k1 : Kept none' w w1 := (Kept.refl _ _).al e1
    have o2 := o1.al e2
    have p2 := own_alloc e2
    have k2 : Kept none' w w2 := k1.al e2
    have z1 : w1.heap.size = w.heap.size + 1 := by rw [e1]; simp only [World.alloc, Array.size_push]
    have z2 : w2.heap.size = w.heap.size + 2 := by rw [e2]; simp only [World.alloc, Array.size_push]; omega
    clear e1 e2
    generalize hb : w.heap.size = b at *
    generalize hb2 : w1.heap.size = b2 at *
    have kb : ∀ {X : Nat → Prop} {wa wb : World}, Kept none' w wa → Kept (· = b) wa wb → Kept none' w wb := fun ka k => ka.trans k fun x hx e => by omega
    refine ⟨_, o2.rI (j := 1) (by omega), Wif_yes (okSl_of h1.1 h1.2 (Int.le_refl _)) ?_⟩
    obtain ⟨w3, c3, o3, k3⟩ := clr_cfg (t := 42) (e := 3) (s := 1) (z := .int .i64 0) (ty := 0) Try.underlying42 zero3' rfl o2 2 (c 1).toNat 16 (by omega) (by omega)
    refine ⟨w3, c3, ?_⟩
    have K3 := kb (X := none') k2 k3
    have p3 := p2.kx k3 (by omega)
    have e0 : clrF c (2 + (c 1).toNat * 1) ((16 - (c 1).toNat) * 1) 0 = c 0 := by unfold clrF; rw [if_neg (by omega)]
    generalize hf1 : clrF c (2 + (c 1).toNat * 1) ((16 - (c 1).toNat) * 1) = f1 at *
    refine ⟨c 0, by rw [o3.rI (j := 0) (by omega), e0], Wif_yes (okSl_of h0.1 h0.2 (Int.le_refl _)) ?_⟩
    obtain ⟨w4, c4, o4, k4⟩ := clr_cfg (t := 42) (e := 3) (s := 1) (z := .int .i64 0) (ty := 0) Try.underlying42 zero3' rfl o3 18 (c 0).toNat 8 (by omega) (by omega)
    refine ⟨w4, c4, ?_⟩
    have K4 := kb (X := none') K3 k4
    have p4 := p3.kx k4 (by omega)
    have e0' : clrF f1 (18 + (c 0).toNat * 1) ((8 - (c 0).toNat) * 1) 0 = c 0 := by unfold clrF; rw [if_neg (by omega), e0]
    generalize hf2 : clrF f1 (18 + (c 0).toNat * 1) ((8 - (c 0).toNat) * 1) = f2 at *
    refine ⟨fun k w' N => ∃ q : Nat, k = q ∧ q ≤ 8 ∧ N = 8 - q ∧ Kept none' w w' ∧ own w' b (cfg (rowsF c f2 q)) ∧ own w' b2 (List.replicate 94 (Value.int .i64 0)), ⟨8, 0, rfl, by omega, rfl, K4, ?_, p4⟩, ?_⟩
    · have : cfg (rowsF c f2 0) = cfg f2 := runI_ext fun j hj => by unfold rowsF; rw [if_neg (by omega)]
      rw [this]; exact o4
    rintro _ w5 _ ⟨q, rfl, hq, rfl, K5, o5, p5⟩
    have er : rowsF c f2 q 0 = c 0 := by unfold rowsF; rw [if_neg (by omega), e0']
    refine Wif_intro (fun hc => ?_) (fun hc => ?_)
    · simp only [decide_eq_true_eq] at hc
      intro w6 e6
      have K6 := K5.dr e6
      have o6 := o5.dr e6
      have p6 := p5.dr e6
      refine Wif_yes (inB_of (by omega) (by omega)) ⟨c 0, by rw [o6.rI (j := 0) (by omega), er], Wif_yes (okSl_of h0.1 h0.2 (Int.le_refl _)) ?_⟩
      obtain ⟨w7, c7, o7, k7⟩ := clr_cfg (t := 42) (e := 3) (s := 1) (z := .int .i64 0) (ty := 0) Try.underlying42 zero3' rfl o6 (26 + q * 8) (c 0).toNat 8 (by omega) (by omega)
      refine ⟨w7, by rw [Int.toNat_natCast]; exact c7, 8 - (q + 1), by omega, q + 1, by rw [wi (by omega)]; rfl, by omega, rfl, kb (X := none') K6 k7, ?_, p6.kx k7 (by omega)⟩
      have : cfg (clrF (rowsF c f2 q) (26 + q * 8 + (c 0).toNat * 1) ((8 - (c 0).toNat) * 1)) = cfg (rowsF c f2 (q + 1)) := runI_ext fun j hj => by
        simp only [clrF, rowsF, Nat.zero_add]
        by_cases h2 : 26 ≤ j ∧ j < 26 + 8 * q ∧ (c 0).toNat ≤ (j - 26) % 8
        · rw [if_neg (by omega), if_pos h2, if_pos (by omega)]
        · by_cases h3 : 26 + q * 8 + (c 0).toNat * 1 ≤ j ∧ j < 26 + q * 8 + (c 0).toNat * 1 + (8 - (c 0).toNat) * 1
          · rw [if_pos h3, if_pos (by omega)]
          · rw [if_neg h3, if_neg h2, if_neg (by omega)]
      rw [← this]; exact o7
    · have hq8 : q = 8 := by simp at hc; omega
      subst hq8
      refine ⟨c 0, by rw [o5.rI (j := 0) (by omega), er], Wif_yes (okSl_of h0.1 h0.2 (Int.le_refl _)) ?_⟩
      obtain ⟨w6, c6, o6, k6⟩ := clr_cfg (t := 122) (e := 38) (s := 8) (ty := 0) Try.underlying122 zero38 rfl o5 26 (c 0).toNat 8 (by omega) (by omega)
      have K6 := kb (X := none') K5 k6
      have p6 := p5.kx k6 (by omega)
      have hcf : cfg (clrF (rowsF c f2 8) (26 + (c 0).toNat * 8) ((8 - (c 0).toNat) * 8)) = cfg (bareF c) := runI_ext fun j hj => by
        rw [← hf2, ← hf1]
        simp only [clrF, rowsF, bareF, Nat.zero_add]
        by_cases h2 : (2 + (c 1).toNat ≤ j ∧ j < 18) ∨ (18 + (c 0).toNat ≤ j ∧ j < 26) ∨ (26 ≤ j ∧ j < 90 ∧ ((c 0).toNat ≤ (j - 26) % 8 ∨ (c 0).toNat ≤ (j - 26) / 8))
        · rw [if_pos h2]
          split
          · rfl
          split
          · rfl
          split
          · rfl
          split
          · rfl
          omega
        · rw [if_neg h2, if_neg (by omega), if_neg (by omega), if_neg (by omega), if_neg (by omega)]
      rw [hcf] at o6
      refine ⟨w6, c6, bareF c, o6.rIall, p6.wrAll 0 (by rw [runI_len]; simp), ?_⟩
      intro w7 e7
      obtain ⟨o7, k7⟩ := stAll_whole p6 e7 (by rw [runI_len]; simp)
      exact ⟨bareF c, o7.rIall, rfl, K6.trans k7 fun x hx e => by omega⟩
  · rintro e w' ⟨v, rfl, rfl, hw⟩
    exact ⟨rfl, hw⟩
end Go.Proofs.Ytkmcmkimeibjdaa
