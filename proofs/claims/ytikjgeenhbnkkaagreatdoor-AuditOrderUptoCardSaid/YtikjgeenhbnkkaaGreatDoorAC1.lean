/-
  A part of a proof that a law of this seat returns true at every input. Conditions: those in each theorem.
-/
import Derived.Test.YtikjgeenhbnkkaaGreatDoorEngQ
import Derived.Test.YtikjgeenhbnkkaaGreatDoorAV4
import Derived.Test.YtikjgeenhbnkkaaGreatDoorAU3
namespace Go.Proofs.YtikjgeenhbnkkaaGreatDoor
open Go Eng
set_option linter.unusedSimpArgs false
set_option linter.unusedVariables false
set_option maxRecDepth 100000
abbrev cfg (c : Nat → Int) : List Value := runI .i64 c 0 94
abbrev cfgV (c : Nat → Int) : Value := .agg (cfg c).toArray
def clrF (f : Nat → Int) (o n : Nat) : Nat → Int := fun i => if o ≤ i ∧ i < o + n then 0 else f i
section
variable {w w' : World} {b : Nat} {f : Nat → Int}
theorem clr_cfg {t e : TypeId} {z : Value} {s : Nat} (ht : Tryz.prog.underlying t = some (.slice e)) (hv : ∀ w, (zeroValue e).run Tryz.prog w = .ok z w) (hz : z.cells = (List.replicate s (.int .i64 0)).toArray)
    (h : own w b (cfg f)) (o k cap : Nat) (hk : k ≤ cap) (hn : o + cap * s ≤ 94) {ty : TypeId} :
    ∃ w', clrIs Tryz.prog #[t] ty (.slice (offA (some ⟨b, o, none⟩) cap k s) (cap - k) (cap - k)) w w' ∧ own w' b (cfg (clrF f (o + k * s) ((cap - k) * s))) ∧ Kept (· = b) w w' := by
  have hks : k * s + (cap - k) * s = cap * s := by rw [← Nat.add_mul]; congr 1; omega
  have hoff : ∃ o', offA (some ⟨b, o, none⟩) cap k s = some ⟨b, o', none⟩ ∧ (o' = o + k * s ∨ k = cap) ∧ o' + (cap - k) * s ≤ 94 := by
    unfold offA
    by_cases e : cap = k
    · rw [if_pos e]; exact ⟨o, rfl, .inr e.symm, by subst e; simp; omega⟩
    · rw [if_neg e]
      refine ⟨o + k * s, ?_, .inl rfl, by omega⟩
      simp [Addr.add]
  obtain ⟨o', e1, e2, e3⟩ := hoff
  rw [e1]
  obtain ⟨w', hc, ho, hkp⟩ := clrN_own (ty := ty) ht hv hz rfl h o' (cap - k) (cap - k) (by rw [runI_len]; exact e3)
  refine ⟨w', hc, ?_, hkp⟩
  have : (cfg f).take o' ++ List.replicate ((cap - k) * s) (Value.int .i64 0) ++ (cfg f).drop (o' + (cap - k) * s) = cfg (clrF f (o + k * s) ((cap - k) * s)) := by
    refine runI_of (by simp [runI_len]; omega) fun j hj => ?_
    have hl : ((cfg f).take o').length = o' := by simp [runI_len]; omega
    by_cases h1 : j < o'
    · rw [List.append_assoc, List.getElem?_append_left (by omega), List.getElem?_take, if_pos h1, runI_get _ _ _ _ _ hj, Nat.zero_add]
      unfold clrF
      rw [if_neg]
      rcases e2 with rfl | rfl
      · omega
      · rw [Nat.sub_self]; omega
    · by_cases h2 : j < o' + (cap - k) * s
      · rw [List.getElem?_append_left (by simp [runI_len]; omega), List.getElem?_append_right (by omega), List.getElem?_replicate, if_pos (by omega)]
        unfold clrF
        rw [if_pos]
        rcases e2 with rfl | rfl
        · omega
        · rw [Nat.sub_self] at h2; omega
      · rw [List.getElem?_append_right (by simp [runI_len]; omega), List.getElem?_drop]
        rw [show o' + (cap - k) * s + (j - (List.take o' (cfg f) ++ List.replicate ((cap - k) * s) (Value.int .i64 0)).length) = j by simp [runI_len]; omega, runI_get _ _ _ _ _ hj, Nat.zero_add]
        unfold clrF
        rw [if_neg]
        rcases e2 with rfl | rfl
        · omega
        · rw [Nat.sub_self]; omega
  rw [this] at ho
  exact ho
end
def bareF (c : Nat → Int) (i : Nat) : Int :=
  if (2 + (c 1).toNat ≤ i ∧ i < 18) ∨ (18 + (c 0).toNat ≤ i ∧ i < 26) ∨ (26 ≤ i ∧ i < 90 ∧ ((c 0).toNat ≤ (i - 26) % 8 ∨ (c 0).toNat ≤ (i - 26) / 8)) then 0 else c i
def rowsF (c g : Nat → Int) (q : Nat) (i : Nat) : Int := if 26 ≤ i ∧ i < 26 + 8 * q ∧ (c 0).toNat ≤ (i - 26) % 8 then 0 else g i
theorem zero3' (w : World) : (zeroValue 3).run Tryz.prog w = .ok (.int .i64 0) w := Tryz.zeroValue3 w
theorem zero38 (w : World) : (zeroValue 23).run Tryz.prog w = .ok (.agg (List.replicate 8 (Value.int .i64 0)).toArray) w := Tryz.zeroValue23 w
theorem bare_spec (c : Nat → Int) (w : World) (h0 : 0 ≤ c 0 ∧ c 0 ≤ 8) (h1 : 0 ≤ c 1 ∧ c 1 ≤ 16) :
    Calls Tryz.prog 76 #[cfgV c] w fun r w' => r = .returned (cfgV (bareF c)) ∧ Kept none' w w' := by
  refine (vc76 c w (fun v w' => v = cfgV (bareF c) ∧ Kept none' w w') ?_).mono ?_
  · unfold vcP76
    intro w1 e1 w2 e2
    have o1 := own_alloc e1
    have k1 : Kept none' w w1 := (Kept.refl _ _).al e1
    have o2 := o1.al e2
    have p2 := own_alloc e2
    have k2 : Kept none' w w2 := k1.al e2
    have z1 : w1.heap.size = w.heap.size + 1 := by rw [e1]; simp only [World.alloc, Array.size_push]
    have z2 : w2.heap.size = w.heap.size + 2 := by rw [e2]; simp only [World.alloc, Array.size_push]; omega
    clear e1 e2
    generalize hb : w.heap.size = b at *
    generalize hb2 : w1.heap.size = b2 at *
    have kb : ∀ {X : Nat → Prop} {wa wb : World}, Kept none' w wa → Kept (· = b) wa wb → Kept none' w wb := fun ka k => ka.trans k fun x hx e => by omega
    refine ⟨_, o2.rI (j := 1) (by omega), Wif_yes (okSl_of h1.1 h1.2 (Int.le_refl _)) ?_⟩
    obtain ⟨w3, c3, o3, k3⟩ := clr_cfg (t := 31) (e := 3) (s := 1) (z := .int .i64 0) (ty := 0) Tryz.underlying31 zero3' rfl o2 2 (c 1).toNat 16 (by omega) (by omega)
    refine ⟨w3, c3, ?_⟩
    have K3 := kb (X := none') k2 k3
    have p3 := p2.kx k3 (by omega)
    have e0 : clrF c (2 + (c 1).toNat * 1) ((16 - (c 1).toNat) * 1) 0 = c 0 := by unfold clrF; rw [if_neg (by omega)]
    generalize hf1 : clrF c (2 + (c 1).toNat * 1) ((16 - (c 1).toNat) * 1) = f1 at *
    refine ⟨c 0, by rw [o3.rI (j := 0) (by omega), e0], Wif_yes (okSl_of h0.1 h0.2 (Int.le_refl _)) ?_⟩
    obtain ⟨w4, c4, o4, k4⟩ := clr_cfg (t := 31) (e := 3) (s := 1) (z := .int .i64 0) (ty := 0) Tryz.underlying31 zero3' rfl o3 18 (c 0).toNat 8 (by omega) (by omega)
    refine ⟨w4, c4, ?_⟩
    have K4 := kb (X := none') K3 k4
    have p4 := p3.kx k4 (by omega)
    have e0' : clrF f1 (18 + (c 0).toNat * 1) ((8 - (c 0).toNat) * 1) 0 = c 0 := by unfold clrF; rw [if_neg (by omega), e0]
    generalize hf2 : clrF f1 (18 + (c 0).toNat * 1) ((8 - (c 0).toNat) * 1) = f2 at *
    refine ⟨fun k w' N => ∃ q : Nat, k = q ∧ q ≤ 8 ∧ N = 8 - q ∧ Kept none' w w' ∧ own w' b (cfg (rowsF c f2 q)) ∧ own w' b2 (List.replicate 94 (Value.int .i64 0)), ⟨8, 0, rfl, by omega, rfl, K4, ?_, p4⟩, ?_⟩
    · have : cfg (rowsF c f2 0) = cfg f2 := runI_ext fun j hj => by unfold rowsF; rw [if_neg (by omega)]
      rw [this]; exact o4
    rintro _ w5 _ ⟨q, rfl, hq, rfl, K5, o5, p5⟩
    have er : rowsF c f2 q 0 = c 0 := by unfold rowsF; rw [if_neg (by omega), e0']
    refine Wif_intro (fun hc => ?_) (fun hc => ?_)
    · simp only [decide_eq_true_eq] at hc
      intro w6 e6
      have K6 := K5.dr e6
      have o6 := o5.dr e6
      have p6 := p5.dr e6
      refine Wif_yes (inB_of (by omega) (by omega)) ⟨c 0, by rw [o6.rI (j := 0) (by omega), er], Wif_yes (okSl_of h0.1 h0.2 (Int.le_refl _)) ?_⟩
      obtain ⟨w7, c7, o7, k7⟩ := clr_cfg (t := 31) (e := 3) (s := 1) (z := .int .i64 0) (ty := 0) Tryz.underlying31 zero3' rfl o6 (26 + q * 8) (c 0).toNat 8 (by omega) (by omega)
      refine ⟨w7, by rw [Int.toNat_natCast]; exact c7, 8 - (q + 1), by omega, q + 1, by rw [wi (by omega)]; rfl, by omega, rfl, kb (X := none') K6 k7, ?_, p6.kx k7 (by omega)⟩
      have : cfg (clrF (rowsF c f2 q) (26 + q * 8 + (c 0).toNat * 1) ((8 - (c 0).toNat) * 1)) = cfg (rowsF c f2 (q + 1)) := runI_ext fun j hj => by
        simp only [clrF, rowsF, Nat.zero_add]
        by_cases h2 : 26 ≤ j ∧ j < 26 + 8 * q ∧ (c 0).toNat ≤ (j - 26) % 8
        · rw [if_neg (by omega), if_pos h2, if_pos (by omega)]
        · by_cases h3 : 26 + q * 8 + (c 0).toNat * 1 ≤ j ∧ j < 26 + q * 8 + (c 0).toNat * 1 + (8 - (c 0).toNat) * 1
          · rw [if_pos h3, if_pos (by omega)]
          · rw [if_neg h3, if_neg h2, if_neg (by omega)]
      rw [← this]; exact o7
    · have hq8 : q = 8 := by simp at hc; omega
      subst hq8
      refine ⟨c 0, by rw [o5.rI (j := 0) (by omega), er], Wif_yes (okSl_of h0.1 h0.2 (Int.le_refl _)) ?_⟩
      obtain ⟨w6, c6, o6, k6⟩ := clr_cfg (t := 178) (e := 23) (s := 8) (ty := 0) Tryz.underlying178 zero38 rfl o5 26 (c 0).toNat 8 (by omega) (by omega)
      have K6 := kb (X := none') K5 k6
      have p6 := p5.kx k6 (by omega)
      have hcf : cfg (clrF (rowsF c f2 8) (26 + (c 0).toNat * 8) ((8 - (c 0).toNat) * 8)) = cfg (bareF c) := runI_ext fun j hj => by
        rw [← hf2, ← hf1]
        simp only [clrF, rowsF, bareF, Nat.zero_add]
        by_cases h2 : (2 + (c 1).toNat ≤ j ∧ j < 18) ∨ (18 + (c 0).toNat ≤ j ∧ j < 26) ∨ (26 ≤ j ∧ j < 90 ∧ ((c 0).toNat ≤ (j - 26) % 8 ∨ (c 0).toNat ≤ (j - 26) / 8))
        · rw [if_pos h2]
          split
          · rfl
          split
          · rfl
          split
          · rfl
          split
          · rfl
          omega
        · rw [if_neg h2, if_neg (by omega), if_neg (by omega), if_neg (by omega), if_neg (by omega)]
      rw [hcf] at o6
      refine ⟨w6, c6, bareF c, o6.rIall, p6.wrAll 0 (by rw [runI_len]; simp), ?_⟩
      intro w7 e7
      obtain ⟨o7, k7⟩ := stAll_whole p6 e7 (by rw [runI_len]; simp)
      exact ⟨bareF c, o7.rIall, rfl, K6.trans k7 fun x hx e => by omega⟩
  · rintro e w' ⟨v, rfl, rfl, hw⟩
    exact ⟨rfl, hw⟩
end Go.Proofs.YtikjgeenhbnkkaaGreatDoor
namespace Go.Proofs.YtikjgeenhbnkkaaGreatDoor
open Go Eng
set_option linter.unusedSimpArgs false
set_option linter.unusedVariables false
set_option maxRecDepth 100000
def seg (P : Nat → Bool) : Nat → Nat → Bool
  | _, 0 => true
  | i, n + 1 => P i && seg P (i + 1) n
theorem seg_iff {P : Nat → Bool} : ∀ {i n : Nat}, seg P i n = true ↔ ∀ j, j < n → P (i + j) = true
  | i, 0 => ⟨fun _ j h => absurd h (Nat.not_lt_zero _), fun _ => rfl⟩
  | i, n + 1 => by
    simp only [seg, Bool.and_eq_true]
    rw [seg_iff]
    constructor
    · rintro ⟨h0, h⟩ j hj
      cases j with
      | zero => exact h0
      | succ j => rw [show i + (j + 1) = i + 1 + j by omega]; exact h j (by omega)
    · intro h
      exact ⟨h 0 (by omega), fun j hj => by rw [show i + 1 + j = i + (j + 1) by omega]; exact h (j + 1) (by omega)⟩
def chain94 (P : Nat → Bool) : Bool := P 0 && (P 1 && (P 2 && (P 3 && (P 4 && (P 5 && (P 6 && (P 7 && (P 8 && (P 9 && (P 10 && (P 11 && (P 12 && (P 13 && (P 14 && (P 15 && (P 16 && (P 17 && true))))))))))))))) && (P 18 && (P 19 && (P 20 && (P 21 && (P 22 && (P 23 && (P 24 && (P 25 && true))))))) && (P 26 && (P 27 && (P 28 && (P 29 && (P 30 && (P 31 && (P 32 && (P 33 && true))))))) && (P 34 && (P 35 && (P 36 && (P 37 && (P 38 && (P 39 && (P 40 && (P 41 && true))))))) && (P 42 && (P 43 && (P 44 && (P 45 && (P 46 && (P 47 && (P 48 && (P 49 && true))))))) && (P 50 && (P 51 && (P 52 && (P 53 && (P 54 && (P 55 && (P 56 && (P 57 && true))))))) && (P 58 && (P 59 && (P 60 && (P 61 && (P 62 && (P 63 && (P 64 && (P 65 && true))))))) && (P 66 && (P 67 && (P 68 && (P 69 && (P 70 && (P 71 && (P 72 && (P 73 && true))))))) && (P 74 && (P 75 && (P 76 && (P 77 && (P 78 && (P 79 && (P 80 && (P 81 && true))))))) && (P 82 && (P 83 && (P 84 && (P 85 && (P 86 && (P 87 && (P 88 && (P 89 && true))))))) && true))))))) && (P 90 && (P 91 && (P 92 && (P 93 && true))))))))
theorem chain94_eq (P : Nat → Bool) : chain94 P = (P 0 && (P 1 && (seg P 2 16 && (seg P 18 8 && ((seg P 26 8 && (seg P 34 8 && (seg P 42 8 && (seg P 50 8 && (seg P 58 8 && (seg P 66 8 && (seg P 74 8 && (seg P 82 8 && true)))))))) && seg P 90 4))))) := rfl
theorem chain94_iff (P : Nat → Bool) : chain94 P = true ↔ ∀ i, i < 94 → P i = true := by
  rw [chain94_eq]
  simp only [Bool.and_eq_true, seg_iff]
  constructor
  · rintro ⟨h0, h1, h2, h3, ⟨h4, h5, h6, h7, h8, h9, h10, h11, -⟩, h12⟩ i hi
    have go : ∀ o n, (∀ j, j < n → P (o + j) = true) → o ≤ i → i < o + n → P i = true := fun o n h ho hn => by
      have := h (i - o) (by omega)
      rw [show o + (i - o) = i by omega] at this
      exact this
    by_cases e0 : i = 0
    · subst e0; exact h0
    by_cases e1 : i = 1
    · subst e1; exact h1
    by_cases e2 : i < 18
    · exact go _ _ h2 (by omega) (by omega)
    by_cases e3 : i < 26
    · exact go _ _ h3 (by omega) (by omega)
    by_cases e4 : i < 34
    · exact go _ _ h4 (by omega) (by omega)
    by_cases e5 : i < 42
    · exact go _ _ h5 (by omega) (by omega)
    by_cases e6 : i < 50
    · exact go _ _ h6 (by omega) (by omega)
    by_cases e7 : i < 58
    · exact go _ _ h7 (by omega) (by omega)
    by_cases e8 : i < 66
    · exact go _ _ h8 (by omega) (by omega)
    by_cases e9 : i < 74
    · exact go _ _ h9 (by omega) (by omega)
    by_cases e10 : i < 82
    · exact go _ _ h10 (by omega) (by omega)
    by_cases e11 : i < 90
    · exact go _ _ h11 (by omega) (by omega)
    · exact go _ _ h12 (by omega) (by omega)
  · intro h
    exact ⟨h 0 (by omega), h 1 (by omega), fun j hj => h _ (by omega), fun j hj => h _ (by omega), ⟨fun j hj => h _ (by omega), fun j hj => h _ (by omega), fun j hj => h _ (by omega), fun j hj => h _ (by omega), fun j hj => h _ (by omega), fun j hj => h _ (by omega), fun j hj => h _ (by omega), fun j hj => h _ (by omega), trivial⟩, fun j hj => h _ (by omega)⟩
def dst (c : Nat → Int) (i k : Nat) : Int := c (26 + i * 8 + k)
def nearO (c : Nat → Int) (i k : Nat) : Prop := (dst c i k = 0 ↔ i = k) ∧ (0 ≤ dst c i k ∧ dst c i k ≤ 255) ∧ dst c i k = dst c k i
def NearP (c : Nat → Int) : Prop := ∀ i k : Nat, i < (c 0).toNat → k < (c 0).toNat → nearO c i k
theorem near_spec (c : Nat → Int) (w : World) (h0 : 0 ≤ c 0 ∧ c 0 ≤ 8) : Calls Tryz.prog 77 #[cfgV c] w fun r w' => ∃ b, r = .returned (.bool b) ∧ (b = true ↔ NearP c) ∧ Kept none' w w' := by
  refine (vc77 c w (fun v w' => ∃ b, v = .bool b ∧ (b = true ↔ NearP c) ∧ Kept none' w w') ?_).mono ?_
  · unfold vcP77
    intro w1 e1
    have o1 := own_alloc e1
    have k1 : Kept none' w w1 := (Kept.refl _ _).al e1
    generalize hb : w.heap.size = b at *
    have no : ∀ w', ¬ NearP c → Kept none' w w' → ∃ b, Value.bool false = .bool b ∧ (b = true ↔ NearP c) ∧ Kept none' w w' := fun w' h k => ⟨false, rfl, by simpa using h, k⟩
    refine ⟨c 0, o1.rI (j := 0) (by omega), ?_⟩
    refine ⟨fun _ k w' N => ∃ q : Nat, k = q ∧ q ≤ (c 0).toNat ∧ N = (c 0).toNat - q ∧ Kept none' w w' ∧ own w' b (cfg c) ∧ ∀ i, i < q → ∀ k, k < (c 0).toNat → nearO c i k, ⟨(c 0).toNat, 0, rfl, by omega, rfl, k1, o1, fun i hi => by omega⟩, ?_⟩
    rintro _ _ w2 _ ⟨q, rfl, hq, rfl, k2, o2, a2⟩
    refine Wif_intro (fun hc => ?_) (fun hc => ?_)
    · simp only [decide_eq_true_eq] at hc
      refine ⟨c 0, o2.rI (j := 0) (by omega), ?_⟩
      refine ⟨fun _ k w' N => ∃ q2 : Nat, k = q2 ∧ q2 ≤ (c 0).toNat ∧ N = (c 0).toNat - q2 ∧ Kept none' w w' ∧ own w' b (cfg c) ∧ ∀ k, k < q2 → nearO c q k, ⟨(c 0).toNat, 0, rfl, by omega, rfl, k2, o2, fun i hi => by omega⟩, ?_⟩
      rintro _ _ w3 _ ⟨q2, rfl, hq2, rfl, k3, o3, a3⟩
      refine Wif_intro (fun hc2 => ?_) (fun hc2 => ?_)
      · simp only [decide_eq_true_eq] at hc2
        have eB : ∀ {x y : Prop}, Wif (inB (q : Int) 8) x y = x := by intro x y; rw [inB_of (by omega) (by omega)]; rfl
        have eB2 : ∀ {x y : Prop}, Wif (inB (q2 : Int) 8) x y = x := by intro x y; rw [inB_of (by omega) (by omega)]; rfl
        simp only [eB, eB2, Int.toNat_natCast]
        refine ⟨dst c q q2, by rw [Nat.mul_one]; exact o3.rI (by omega), Wif_intro (fun h => ?_) (fun h => ?_)⟩
        · refine no _ (fun hn => ?_) k3
          have := (hn q q2 (by omega) (by omega)).1
          by_cases e : dst c q q2 = 0
          · have e' := this.1 e
            subst e'
            simp [e] at h
          · have e' : (q : Int) ≠ (q2 : Int) := fun x => e (this.2 (by omega))
            rw [show (dst c q q2 == 0) = false by simpa using e, show ((q : Int) == (q2 : Int)) = false by simpa using e'] at h
            cases h
        refine gIf_intro (fun _ => inB_of (by omega) (by omega)) (gIf_intro (fun _ => inB_of (by omega) (by omega)) ?_)
        refine ⟨dst c q2 q, fun _ => by rw [Nat.mul_one]; exact o3.rI (by omega), Wif_intro (fun h2 => ?_) (fun h2 => ?_)⟩
        · refine no _ (fun hn => ?_) k3
          obtain ⟨_, h5, h6⟩ := hn q q2 (by omega) (by omega)
          rw [← h6, decide_eq_true (show dst c q q2 ≥ 0 from h5.1), decide_eq_true h5.2] at h2
          simp at h2
        · refine ⟨(c 0).toNat - (q2 + 1), by omega, q2 + 1, by rw [wi (by omega)]; rfl, by omega, rfl, k3, o3, fun k hk => ?_⟩
          rcases Nat.lt_or_ge k q2 with hlt | hge
          · exact a3 k hlt
          · have : k = q2 := by omega
            subst this
            simp at h2
            refine ⟨?_, by omega, h2.2⟩
            have hb : ((dst c q k == 0) == ((q : Int) == (k : Int))) = true := by
              rw [← Bool.not_eq_false']; exact h
            by_cases e : dst c q k = 0
            · rw [show (dst c q k == 0) = true by simpa using e] at hb
              have : (q : Int) = (k : Int) := by simpa using hb
              exact ⟨fun _ => by omega, fun _ => e⟩
            · rw [show (dst c q k == 0) = false by simpa using e] at hb
              have : (q : Int) ≠ (k : Int) := by simpa using hb
              exact ⟨fun h' => absurd h' e, fun h' => absurd (congrArg Nat.cast h') this⟩
      · simp at hc2
        refine ⟨(c 0).toNat - (q + 1), by omega, q + 1, by rw [wi (by omega)]; rfl, by omega, rfl, k3, o3, fun i hi k hk => ?_⟩
        rcases Nat.lt_or_ge i q with hlt | hge
        · exact a2 i hlt k hk
        · have : i = q := by omega
          subst this
          exact a3 k (by omega)
    · simp at hc
      exact ⟨true, rfl, by simp; exact fun i k hi hk => a2 i (by omega) k hk, k2⟩
  · rintro e w' ⟨v, rfl, b, rfl, hw⟩
    exact ⟨b, rfl, hw⟩
def MayP (c : Nat → Int) : Prop :=
  (1 ≤ c 0 ∧ c 0 ≤ 8) ∧ (1 ≤ c 1 ∧ c 1 ≤ 16) ∧ (0 ≤ c 90 ∧ c 90 ≤ 1024) ∧ (∀ i, i < 94 → c i = bareF c i) ∧ (∀ i, i < (c 1).toNat → 0 ≤ c (2 + i) ∧ c (2 + i) ≤ c 0 - 1) ∧
  (∀ i, i < (c 0).toNat → (4 ≤ c (18 + i) ∧ c (18 + i) ≤ 128) ∧ c 93 ≤ c (18 + i)) ∧ NearP c ∧ 0 ≤ c 91 ∧ c 91 ≤ c 92 ∧ c 92 ≤ c 93
theorem may_spec (c : Nat → Int) (w : World) : Calls Tryz.prog 31 #[cfgV c] w fun r w' => ∃ b, r = .returned (.bool b) ∧ (b = true ↔ MayP c) ∧ Kept none' w w' := by
  refine (vc31 c w (fun v w' => ∃ b, v = .bool b ∧ (b = true ↔ MayP c) ∧ Kept none' w w') ?_).mono ?_
  · unfold vcP31
    intro w1 e1
    have o1 := own_alloc e1
    have k1 : Kept none' w w1 := (Kept.refl _ _).al e1
    generalize hb : w.heap.size = b at *
    intro w2 e2
    have o2 := o1.dr e2
    have k2 := k1.dr e2
    have no : ∀ w', ¬ MayP c → Kept none' w w' → ∃ b, Value.bool false = .bool b ∧ (b = true ↔ MayP c) ∧ Kept none' w w' := fun w' h k => ⟨false, rfl, by simpa using h, k⟩
    refine ⟨c 0, o2.rI (by omega), c 1, fun _ => o2.rI (by omega), Wif_intro (fun h => ?_) (fun h => ?_)⟩
    · refine no _ (fun hm => ?_) k2
      have := hm.1
      simp at h; omega
    have h0 : 1 ≤ c 0 ∧ c 0 ≤ 8 := by simpa using h
    refine ⟨c 90, fun _ => o2.rI (by omega), Wif_intro (fun h => ?_) (fun h => ?_)⟩
    · refine no _ (fun hm => ?_) k2
      have := hm.2.1
      simp at h; omega
    have h1 : 1 ≤ c 1 ∧ c 1 ≤ 16 := by simpa using h
    refine ⟨c, fun _ => o2.rIall, c, fun _ => o2.rIall, Wif_intro (fun h => ?_) (fun h => ?_)⟩
    · refine ⟨fun _ => ⟨o2.rIall, trivial⟩, no _ (fun hm => ?_) k2⟩
      have := hm.2.2.1
      simp at h; omega
    have h2 : 0 ≤ c 90 ∧ c 90 ≤ 1024 := by simpa using h
    refine (bare_spec c w2 (by omega) (by omega)).mono ?_
    rintro _ w3 ⟨rfl, k3⟩
    have o3 := o2.k k3
    have K3 := k2.tr k3
    refine ⟨bareF c, rfl, fun _ => ⟨o3.rIall, trivial⟩, Wif_intro (fun h => ?_) (fun h => ?_)⟩
    · refine no _ (fun hm => ?_) K3
      have h' : (!(chain94 fun i => c i == bareF c i)) = true := h
      rw [(chain94_iff _).2 fun i hi => by simpa using hm.2.2.2.1 i hi] at h'
      cases h'
    have h3 : ∀ i, i < 94 → c i = bareF c i := by
      have h' : (!(chain94 fun i => c i == bareF c i)) = false := h
      rw [Bool.not_eq_false'] at h'
      intro i hi
      simpa using (chain94_iff _).1 h' i hi
    clear h
    refine ⟨c 1, o3.rI (by omega), Wif_yes (okSl_of (by omega) (by omega) (by omega)) ?_⟩
    refine ⟨fun _ k w' N => ∃ q : Nat, k = q ∧ q ≤ (c 1).toNat ∧ N = (c 1).toNat - q ∧ Kept none' w w' ∧ own w' b (cfg c) ∧ ∀ i, i < q → 0 ≤ c (2 + i) ∧ c (2 + i) ≤ c 0 - 1, ⟨(c 1).toNat, 0, rfl, by omega, rfl, K3, o3, fun i hi => by omega⟩, ?_⟩
    rintro _ _ w4 _ ⟨q, rfl, hq, rfl, k4, o4, a4⟩
    refine Wif_intro (fun hc => ?_) (fun hc => ?_)
    · simp only [decide_eq_true_eq] at hc
      refine Wif_yes (inB_of (by omega) (by omega)) ⟨c (2 + q), by rw [Int.toNat_natCast, Nat.mul_one]; exact o4.rI (by omega), c 0, o4.rI (by omega), Wif_intro (fun h => ?_) (fun h => ?_)⟩
      · refine no _ (fun hm => ?_) k4
        have := hm.2.2.2.2.1 q (by omega)
        rw [wi (by omega)] at h
        simp at h; omega
      · rw [wi (by omega)] at h
        refine ⟨(c 1).toNat - (q + 1), by omega, q + 1, by rw [wi (by omega)]; rfl, by omega, rfl, k4, o4, fun i hi => ?_⟩
        rcases Nat.lt_or_ge i q with hlt | hge
        · exact a4 i hlt
        · have : i = q := by omega
          subst this
          simpa using h
    have hqe : q = (c 1).toNat := by simp at hc; omega
    subst hqe
    refine ⟨c 0, o4.rI (by omega), Wif_yes (okSl_of (by omega) (by omega) (by omega)) ?_⟩
    refine ⟨fun _ k w' N => ∃ q : Nat, k = q ∧ q ≤ (c 0).toNat ∧ N = (c 0).toNat - q ∧ Kept none' w w' ∧ own w' b (cfg c) ∧ ∀ i, i < q → (4 ≤ c (18 + i) ∧ c (18 + i) ≤ 128) ∧ c 93 ≤ c (18 + i), ⟨(c 0).toNat, 0, rfl, by omega, rfl, k4, o4, fun i hi => by omega⟩, ?_⟩
    rintro _ _ w5 _ ⟨q, rfl, hq, rfl, k5, o5, a5⟩
    refine Wif_intro (fun hc => ?_) (fun hc => ?_)
    · simp only [decide_eq_true_eq] at hc
      refine Wif_yes (inB_of (by omega) (by omega)) ⟨c (18 + q), by rw [Int.toNat_natCast, Nat.mul_one]; exact o5.rI (by omega), c 93, fun _ => o5.rI (by omega), Wif_intro (fun h => ?_) (fun h => ?_)⟩
      · refine no _ (fun hm => ?_) k5
        have := hm.2.2.2.2.2.1 q (by omega)
        simp at h; omega
      · refine ⟨(c 0).toNat - (q + 1), by omega, q + 1, by rw [wi (by omega)]; rfl, by omega, rfl, k5, o5, fun i hi => ?_⟩
        rcases Nat.lt_or_ge i q with hlt | hge
        · exact a5 i hlt
        · have : i = q := by omega
          subst this
          simp at h; omega
    have hqe : q = (c 0).toNat := by simp at hc; omega
    subst hqe
    refine ⟨c, o5.rIall, (near_spec c w5 (by omega)).mono ?_⟩
    rintro _ w6 ⟨nb, rfl, hnb, k6⟩
    have o6 := o5.k k6
    refine ⟨nb, rfl, c 91, fun _ => o6.rI (by omega), c 91, fun _ => o6.rI (by omega), c 92, fun _ => o6.rI (by omega), c 92, fun _ => o6.rI (by omega), c 93, fun _ => o6.rI (by omega), _, rfl, ?_, k5.tr k6⟩
    simp only [Bool.and_eq_true, decide_eq_true_eq, hnb]
    constructor
    · rintro ⟨⟨⟨g1, g2⟩, g3⟩, g4⟩
      exact ⟨h0, h1, h2, h3, a4, a5, g1, g2, g3, g4⟩
    · rintro ⟨_, _, _, _, _, _, g1, g2, g3, g4⟩
      exact ⟨⟨⟨g1, g2⟩, g3⟩, g4⟩
  · rintro e w' ⟨v, rfl, b, rfl, hw⟩
    exact ⟨b, rfl, hw⟩
end Go.Proofs.YtikjgeenhbnkkaaGreatDoor
namespace Go.Proofs.YtikjgeenhbnkkaaGreatDoor
open Go Eng
set_option linter.unusedSimpArgs false
set_option linter.unusedVariables false
set_option maxRecDepth 100000
def fstF (c : Nat → Int) : Nat → Int
  | 0 => 0
  | k + 1 => fstF c k + c (18 + k)
theorem MayP.fr {c : Nat → Int} (h : MayP c) {i : Nat} (hi : (i : Int) < c 0) : 4 ≤ c (18 + i) ∧ c (18 + i) ≤ 128 := (h.2.2.2.2.2.1 i (by omega)).1
theorem MayP.fst {c : Nat → Int} (h : MayP c) : ∀ {k : Nat}, (k : Int) ≤ c 0 → 0 ≤ fstF c k ∧ fstF c k ≤ 128 * k
  | 0, _ => by simp [fstF]
  | k + 1, hk => by
    have := h.fst (k := k) (by omega)
    have := h.fr (i := k) (by omega)
    unfold fstF
    omega
theorem fstF_mono {c : Nat → Int} (h : MayP c) : ∀ {i k : Nat}, i ≤ k → (k : Int) ≤ c 0 → fstF c i ≤ fstF c k
  | i, 0, hi, _ => by have : i = 0 := by omega
                      subst this; exact Int.le_refl _
  | i, k + 1, hi, hk => by
    rcases Nat.lt_or_ge i (k + 1) with hlt | hge
    · have := fstF_mono h (i := i) (k := k) (by omega) (by omega)
      have := h.fr (i := k) (by omega)
      have e : fstF c (k + 1) = fstF c k + c (18 + k) := rfl
      omega
    · have : i = k + 1 := by omega
      subst this; exact Int.le_refl _
theorem node_spec (c : Nat → Int) (hm : MayP c) (w : World) (fr : Int) (hfr : fr ≤ 9223372036854775807) : Calls Tryz.prog 67 #[cfgV c, .int .i64 fr] w fun r w' => Kept none' w w' ∧
    ((∃ i : Nat, (i : Int) < c 0 ∧ fstF c i ≤ fr ∧ fr < fstF c (i + 1) ∧ r = .returned (.tuple #[.int .i64 (i : Int), .int .i64 0])) ∨ ((fr < 0 ∨ fstF c (c 0).toNat ≤ fr) ∧ r = .returned (.tuple #[.int .i64 0, .int .i64 7]))) := by
  refine (vc67 c fr w (fun v w' => Kept none' w w' ∧ ((∃ i : Nat, (i : Int) < c 0 ∧ fstF c i ≤ fr ∧ fr < fstF c (i + 1) ∧ v = (.tuple #[.int .i64 (i : Int), .int .i64 0])) ∨ ((fr < 0 ∨ fstF c (c 0).toNat ≤ fr) ∧ v = (.tuple #[.int .i64 0, .int .i64 7])))) ?_).mono ?_
  · have h0 := hm.1
    unfold vcP67
    intro w1 e1
    have o1 := own_alloc e1
    have k1 : Kept none' w w1 := (Kept.refl _ _).al e1
    generalize hb : w.heap.size = b at *
    refine ⟨c, o1.rIall, (may_spec c w1).mono ?_⟩
    rintro _ w2 ⟨mb, rfl, hmb, k2⟩
    have : mb = true := hmb.2 hm
    subst this
    have o2 := o1.k k2
    refine ⟨_, rfl, Wif_no rfl ?_⟩
    refine ⟨fun s _ _ k w' N => ∃ q : Nat, k = q ∧ (q : Int) ≤ c 0 ∧ N = (c 0).toNat - q ∧ Kept none' w w' ∧ own w' b (cfg c) ∧ s = fr - fstF c q ∧ (q = 0 ∨ 0 ≤ s), ⟨(c 0).toNat, 0, rfl, by omega, by omega, k1.tr k2, o2, by simp [fstF], .inl rfl⟩, ?_⟩
    rintro _ _ _ _ w3 _ ⟨q, rfl, hq, rfl, k3, o3, rfl, hs⟩
    have f0 := hm.fst (k := q) (by omega)
    refine ⟨c 0, fun _ => o3.rI (by omega), Wif_intro (fun hc => ?_) (fun hc => ?_)⟩
    · simp only [Bool.and_eq_true, decide_eq_true_eq] at hc
      have f1 := hm.fst (k := q + 1) (by omega)
      have f2 := hm.fr (i := q) (by omega)
      have e : fstF c (q + 1) = fstF c q + c (18 + q) := rfl
      have hrd : rd w3 b (18 + Int.toNat (q : Int) * 1) = some (.int .i64 (c (18 + q))) := by rw [Int.toNat_natCast, Nat.mul_one]; exact o3.rI (by omega)
      refine Wif_yes (inB_of (by omega) (by omega)) ⟨c (18 + q), hrd, Wif_intro (fun h => ?_) (fun h => ?_)⟩
      · simp only [decide_eq_true_eq] at h
        exact ⟨k3, .inl ⟨q, hc.2, by omega, by omega, rfl⟩⟩
      · simp only [decide_eq_false_iff_not] at h
        refine Wif_yes (inB_of (by omega) (by omega)) ⟨c (18 + q), hrd, (c 0).toNat - (q + 1), by omega, q + 1, by rw [wi (by omega)]; rfl, by omega, rfl, k3, o3, ?_, .inr ?_⟩
        · rw [wi (by omega)]; omega
        · rw [wi (by omega)]; omega
    · refine ⟨k3, .inr ⟨?_, rfl⟩⟩
      rcases hs with rfl | hs
      · simp [fstF] at hc
        rcases Int.lt_or_le fr 0 with h | h
        · exact .inl h
        · have := hc h
          omega
      · right
        rw [decide_eq_true (show fr - fstF c q ≥ 0 from hs)] at hc
        simp at hc
        have : q = (c 0).toNat := by omega
        subst this
        omega
  · rintro e w' ⟨v, rfl, hk, hw⟩
    refine ⟨hk, ?_⟩
    rcases hw with ⟨i, h1, h2, h3, rfl⟩ | ⟨h1, rfl⟩
    · exact .inl ⟨i, h1, h2, h3, rfl⟩
    · exact .inr ⟨h1, rfl⟩
theorem node_one {c : Nat → Int} (h : MayP c) {i j : Nat} {fr : Int} (hi : (i : Int) < c 0) (hj : (j : Int) < c 0) (h1 : fstF c i ≤ fr) (h2 : fr < fstF c (i + 1)) (h3 : fstF c j ≤ fr) (h4 : fr < fstF c (j + 1)) : i = j := by
  rcases Nat.lt_trichotomy i j with hlt | heq | hgt
  · have := fstF_mono h (i := i + 1) (k := j) (by omega) (by omega); omega
  · exact heq
  · have := fstF_mono h (i := j + 1) (k := i) (by omega) (by omega); omega
end Go.Proofs.YtikjgeenhbnkkaaGreatDoor
namespace Go.Proofs.YtikjgeenhbnkkaaGreatDoor
open Go Eng
set_option linter.unusedSimpArgs false
set_option linter.unusedVariables false
set_option maxRecDepth 100000
theorem MayP.rest {c : Nat → Int} (h : MayP c) {i : Nat} (hi : c 0 ≤ (i : Int)) (h8 : i < 8) : c (18 + i) = 0 := by
  rw [h.2.2.2.1 (18 + i) (by omega)]
  unfold bareF
  rw [if_pos (.inr (.inl (by omega)))]
theorem MayP.fr8 {c : Nat → Int} (h : MayP c) {i : Nat} (h8 : i < 8) : 0 ≤ c (18 + i) ∧ c (18 + i) ≤ 128 := by
  rcases Int.lt_or_le (i : Int) (c 0) with hlt | hge
  · have := h.fr hlt; omega
  · rw [h.rest hge h8]; omega
theorem MayP.fst8 {c : Nat → Int} (h : MayP c) : ∀ {k : Nat}, k ≤ 8 → 0 ≤ fstF c k ∧ fstF c k ≤ 128 * k
  | 0, _ => by simp [fstF]
  | k + 1, hk => by
    have := h.fst8 (k := k) (by omega)
    have := h.fr8 (i := k) (by omega)
    unfold fstF
    omega
theorem MayP.fstEnd {c : Nat → Int} (h : MayP c) : ∀ {k : Nat}, c 0 ≤ (k : Int) → k ≤ 8 → fstF c k = fstF c (c 0).toNat
  | 0, hk, _ => by
    have := h.1
    omega
  | k + 1, hk, h8 => by
    rcases Int.lt_or_le (k : Int) (c 0) with hlt | hge
    · rw [show (c 0).toNat = k + 1 by omega]
    · have e : fstF c (k + 1) = fstF c k + c (18 + k) := rfl
      rw [e, h.rest hge (by omega), h.fstEnd hge (by omega)]
      omega
def total (c : Nat → Int) : Int := fstF c (c 0).toNat
theorem total_rng {c : Nat → Int} (h : MayP c) : 4 ≤ total c ∧ total c ≤ 1024 := by
  have h0 := h.1
  have h1 := h.fst (k := (c 0).toNat) (by omega)
  have h2 := fstF_mono h (i := 1) (k := (c 0).toNat) (by omega) (by omega)
  have h3 := h.fr (i := 0) (by omega)
  have e : fstF c 1 = fstF c 0 + c (18 + 0) := rfl
  have e0 : fstF c 0 = 0 := rfl
  unfold total
  omega
theorem total_spec (c : Nat → Int) (hm : MayP c) (w : World) : Calls Tryz.prog 32 #[cfgV c] w fun r w' => r = .returned (.int .i64 (total c)) ∧ Kept none' w w' := by
  refine (vc32 c w (fun v w' => v = .int .i64 (total c) ∧ Kept none' w w') ?_).mono ?_
  · have h0 := hm.1
    unfold vcP32
    intro w1 e1
    have o1 := own_alloc e1
    have k1 : Kept none' w w1 := (Kept.refl _ _).al e1
    generalize hb : w.heap.size = b at *
    refine ⟨c, o1.rIall, (may_spec c w1).mono ?_⟩
    rintro _ w2 ⟨mb, rfl, hmb, k2⟩
    have : mb = true := hmb.2 hm
    subst this
    have o2 := o1.k k2
    refine ⟨_, rfl, Wif_no rfl ?_⟩
    refine ⟨fun i => c (18 + i), o2.run 18 fun j hj => by rw [runI_get _ _ _ _ _ (by omega), Nat.zero_add], ?_⟩
    refine ⟨fun s k w' N => ∃ q : Nat, k = q ∧ q ≤ 8 ∧ N = 8 - q ∧ w' = w2 ∧ s = fstF c q, ⟨8, 0, rfl, by omega, by omega, rfl, rfl⟩, ?_⟩
    rintro _ _ w3 _ ⟨q, rfl, hq, rfl, rfl, rfl⟩
    refine Wif_intro (fun hc => ?_) (fun hc => ?_)
    · simp only [decide_eq_true_eq] at hc
      have f1 := hm.fst8 (k := q + 1) (by omega)
      have e : fstF c (q + 1) = fstF c q + c (18 + q) := rfl
      refine Wif_yes (inB_of (by omega) (by omega)) ⟨c (18 + q), ?_, 8 - (q + 1), by omega, q + 1, by rw [wi (by omega)]; rfl, by omega, rfl, rfl, ?_⟩
      · rw [Int.toNat_natCast, Nat.mul_one]
        have := runI_get .i64 (fun i => c (18 + i)) 0 8 q (by omega)
        rw [Nat.zero_add] at this
        exact this
      · rw [wi (by omega)]; rfl
    · simp only [decide_eq_false_iff_not] at hc
      have : q = 8 := by omega
      subst this
      exact ⟨by rw [hm.fstEnd (by omega) (by omega)]; rfl, k1.tr k2⟩
  · rintro e w' ⟨v, rfl, hv, hk⟩
    exact ⟨by rw [hv], hk⟩
end Go.Proofs.YtikjgeenhbnkkaaGreatDoor
set_option linter.unusedSimpArgs false
set_option linter.unusedVariables false
set_option maxRecDepth 100000
namespace Go.Proofs.YtikjgeenhbnkkaaGreatDoor
open Go Eng
def FrP (F f : Int) : Prop := 0 ≤ f ∧ f < F
def SlP (c : Nat → Int) (n : Int) : Prop := 0 ≤ n ∧ n < c 90
def PgP (p : Int) : Prop := 0 ≤ p ∧ p < 1024
def ObP (L : List Slab) (o : Int × Int) : Prop := ∃ s ∈ L, s.frame = o.1 ∧ 0 ≤ o.2 ∧ o.2 < s.count
def cnts (L : List Slab) : List (Int × Value) := L.map fun s => (s.frame, vi s.count)
abbrev pt (z : Nat) : Value := .pointer (some ⟨z, 0, none⟩)
structure ShAt (w : World) (z : Nat) (c : Nat → Int) (F : Int) (L : List Slab) : Prop where
  cf : ∀ i, i < 94 → rd w z i = some (vi (c i))
  fr : rd w z 107 = some (vi F)
  cn : ∃ m, rd w z 108 = some (.map (some m)) ∧ MapIs w m (cnts L)
theorem ShAt.k {w w' : World} {z : Nat} {c : Nat → Int} {F : Int} {L : List Slab} (h : ShAt w z c F L) (k : Kept none' w w') : ShAt w' z c F L :=
  ⟨fun i hi => k.rd_some (h.cf i hi) id, k.rd_some h.fr id, by
    obtain ⟨m, h1, h2⟩ := h.cn
    exact ⟨m, k.rd_some h1 id, h2.k k⟩⟩
abbrev Tells (w : World) (P : Prop) : Ending → World → Prop := fun r w' => ∃ b : Bool, r = .returned (.bool b) ∧ Kept none' w w' ∧ (b = true ↔ P)
abbrev TellsV (w : World) (P : Prop) : Value → World → Prop := fun v w' => ∃ b : Bool, v = .bool b ∧ Kept none' w w' ∧ (b = true ↔ P)
theorem tells_of {w : World} {P : Prop} {e : Ending} {w' : World} (h : ∃ v, e = .returned v ∧ TellsV w P v w') : Tells w P e w' := by
  obtain ⟨v, rfl, b, rfl, h⟩ := h
  exact ⟨b, rfl, h⟩
theorem Tells.from {w0 w w' : World} {P : Prop} {e : Ending} (k : Kept none' w0 w) (h : Tells w P e w') : Tells w0 P e w' := by
  obtain ⟨b, rfl, k2, h⟩ := h
  exact ⟨b, rfl, k.tr k2, h⟩
theorem frame_spec {w : World} {z : Nat} {c : Nat → Int} {F : Int} {L : List Slab} (h : ShAt w z c F L) (f : Int) : Calls Tryz.prog 37 #[pt z, vi f] w (Tells w (FrP F f)) := by
  refine (vc37 (some ⟨z, 0, none⟩) f w (TellsV w (FrP F f)) ?_).mono fun e w' => tells_of
  unfold vcP37
  rw [isP_some, gIf_true]
  exact ⟨F, fun _ => h.fr, _, rfl, Kept.refl _ _, by simp [FrP]⟩
theorem slot_spec {w : World} {z : Nat} {c : Nat → Int} {F : Int} {L : List Slab} (h : ShAt w z c F L) (f : Int) : Calls Tryz.prog 42 #[pt z, vi f] w (Tells w (SlP c f)) := by
  refine (vc42 (some ⟨z, 0, none⟩) f w (TellsV w (SlP c f)) ?_).mono fun e w' => tells_of
  unfold vcP42
  rw [isP_some, gIf_true]
  exact ⟨c 90, fun _ => h.cf 90 (by omega), _, rfl, Kept.refl _ _, by simp [SlP]⟩
theorem page_spec {w : World} (f : Int) : Calls Tryz.prog 54 #[vi f] w (Tells w (PgP f)) := by
  refine (vc54 f w (TellsV w (PgP f)) ?_).mono fun e w' => tells_of
  unfold vcP54
  exact ⟨_, rfl, Kept.refl _ _, by simp [PgP]⟩
theorem cnts_none {L : List Slab} {k : Int} (h : (cnts L).lookup k = none) (s : Slab) (hs : s ∈ L) : s.frame ≠ k := by
  induction L with
  | nil => cases hs
  | cons a L ih =>
    simp only [cnts, List.map_cons, List.lookup_cons] at h
    split at h
    · cases h
    · rename_i hk
      rcases List.mem_cons.1 hs with rfl | hs
      · intro he
        simp [he] at hk
      · exact ih h hs
theorem cnts_some {L : List Slab} {k : Int} {v : Value} (h : (cnts L).lookup k = some v) : ∃ s ∈ L, s.frame = k ∧ v = vi s.count := by
  induction L with
  | nil => cases h
  | cons a L ih =>
    simp only [cnts, List.map_cons, List.lookup_cons] at h
    split at h
    · rename_i hk
      cases h
      exact ⟨a, List.mem_cons_self, (by simpa using hk : k = a.frame).symm, rfl⟩
    · obtain ⟨s, h1, h2⟩ := ih h
      exact ⟨s, List.mem_cons_of_mem _ h1, h2⟩
theorem cnts_one {L : List Slab} (hn : ((cnts L).map Prod.fst).Nodup) {s s' : Slab} (h : s ∈ L) (h' : s' ∈ L) (he : s.frame = s'.frame) : s = s' := by
  induction L with
  | nil => cases h
  | cons a L ih =>
    simp only [cnts, List.map_cons, List.nodup_cons] at hn
    obtain ⟨h1, h2⟩ := hn
    have hin : ∀ t ∈ L, t.frame ≠ a.frame := fun t ht hf => h1 (List.mem_map.2 ⟨(t.frame, vi t.count), List.mem_map.2 ⟨t, ht, rfl⟩, hf⟩)
    rcases List.mem_cons.1 h with g | g <;> rcases List.mem_cons.1 h' with g' | g'
    · rw [g, g']
    · exact absurd (g ▸ he.symm) (hin _ g')
    · exact absurd (g' ▸ he) (hin _ g)
    · exact ih h2 g g'
theorem object_spec {w : World} {z : Nat} {c : Nat → Int} {F : Int} {L : List Slab} (h : ShAt w z c F L) (o : Int × Int) : Calls Tryz.prog 46 #[pt z, .agg #[vi o.1, vi o.2]] w (Tells w (ObP L o)) := by
  refine (vc46 (some ⟨z, 0, none⟩) o.1 o.2 w (TellsV w (ObP L o)) ?_).mono fun e w' => tells_of
  unfold vcP46
  intro w1 e1 w2 e2
  have o1 := (own_alloc (c := [vi o.1, vi o.2]) e1).dr e2
  have k1 : Kept none' w w2 := ((Kept.refl _ _).al e1).dr e2
  obtain ⟨m, h1, h2⟩ := (h.k k1).cn
  refine Wif_yes rfl ⟨some m, h1, o.1, by rw [o1.rd]; rfl, ?_⟩
  have hl := fun z hz => look2 (P := Tryz.prog) (mt := 99) (vt := 3) (kt := 3) rfl rfl h2 o.1 (z := z) hz
  have hl := hl (vi 0) (Tryz.zeroValue3 w2)
  cases hk : (cnts L).lookup o.1 with
  | none =>
    rw [hk] at hl
    refine ⟨0, false, hl, 0, fun h => (by cases h), 0, fun h => (by simp at h), _, rfl, k1, ?_⟩
    constructor
    · intro h; simp at h
    · rintro ⟨s, hs, he, -⟩
      exact absurd he (cnts_none hk s hs)
  | some v =>
    obtain ⟨s, hs, he, rfl⟩ := cnts_some hk
    rw [hk] at hl
    refine ⟨s.count, true, hl, o.2, fun _ => by rw [o1.rd]; rfl, o.2, fun _ => by rw [o1.rd]; rfl, _, rfl, k1, ?_⟩
    constructor
    · intro h
      simp at h
      exact ⟨s, hs, he, h⟩
    · rintro ⟨s', hs', he', h⟩
      obtain rfl := cnts_one h2.nd hs' hs (he'.trans he.symm)
      simp [h]
end Go.Proofs.YtikjgeenhbnkkaaGreatDoor
set_option linter.unusedSimpArgs false
set_option linter.unusedVariables false
set_option maxRecDepth 100000
namespace Go.Proofs.YtikjgeenhbnkkaaGreatDoor
open Go Eng
section
variable {w : World} {z b : Nat} {c : Nat → Int} {F : Int} {L : List Slab} (h : ShAt w z c F L) (hb : rd w b 0 = some (pt z))
include h
theorem frames_of {a : Option Addr} {l k : Nat} {xs : List Int} (hs : SlR RInt 1 w a l k xs) : Calls Tryz.prog 36 #[.slice a l k, .func (.func 37) #[pt z] #[]] w (Tells w (∀ f ∈ xs, FrP F f)) :=
  allP_int (P := FrP F) rfl hs fun x w' cs _ kk hr => by
    obtain rfl : cs = [vi x] := hr
    exact CallsV.mk 37 #[pt z] #[] rfl (by kernel_rfl) (frame_spec (h.k kk) x)
theorem objs_of {a : Option Addr} {l k : Nat} {xs : List (Int × Int)} (hs : SlR RPair 2 w a l k xs) : Calls Tryz.prog 45 #[.slice a l k, .func (.func 46) #[pt z] #[]] w (Tells w (∀ o ∈ xs, ObP L o)) :=
  allP_obj (P := ObP L) rfl hs fun x w' cs _ kk hr => by
    obtain rfl : cs = [vi x.1, vi x.2] := hr
    exact CallsV.mk 46 #[pt z] #[] rfl (by kernel_rfl) (object_spec (h.k kk) x)
include hb
theorem c35_spec {a : Option Addr} {l k : Nat} {xs : List Int} (hs : SlR RInt 1 w a l k xs) : Calls Tryz.prog 35 #[.slice a l k, pt b] w (Tells w (∀ f ∈ xs, FrP F f)) := by
  refine (vc35 a l k (some ⟨b, 0, none⟩) w (TellsV w (∀ f ∈ xs, FrP F f)) ?_).mono fun e w' => tells_of
  unfold vcP35
  refine Wif_yes rfl ⟨_, hb, (frames_of h hs).mono ?_⟩
  rintro _ w' ⟨u, rfl, hu⟩
  exact ⟨u, rfl, u, rfl, hu⟩
theorem c44_spec {a : Option Addr} {l k : Nat} {xs : List (Int × Int)} (hs : SlR RPair 2 w a l k xs) : Calls Tryz.prog 44 #[.slice a l k, pt b] w (Tells w (∀ o ∈ xs, ObP L o)) := by
  refine (vc44 a l k (some ⟨b, 0, none⟩) w (TellsV w (∀ o ∈ xs, ObP L o)) ?_).mono fun e w' => tells_of
  unfold vcP44
  refine Wif_yes rfl ⟨_, hb, (objs_of h hs).mono ?_⟩
  rintro _ w' ⟨u, rfl, hu⟩
  exact ⟨u, rfl, u, rfl, hu⟩
theorem c94_spec {a : Option Addr} {l k : Nat} {xs : List (Int × Int)} (hs : SlR RPair 2 w a l k xs) : Calls Tryz.prog 94 #[.slice a l k, pt b] w (Tells w (∀ o ∈ xs, ObP L o)) := by
  refine (vc94 a l k (some ⟨b, 0, none⟩) w (TellsV w (∀ o ∈ xs, ObP L o)) ?_).mono fun e w' => tells_of
  unfold vcP94
  refine Wif_yes rfl ⟨_, hb, (objs_of h hs).mono ?_⟩
  rintro _ w' ⟨u, rfl, hu⟩
  exact ⟨u, rfl, u, rfl, hu⟩
theorem c41_spec (n : Int) : Calls Tryz.prog 41 #[vi n, pt b] w (Tells w (n = -1 ∨ SlP c n)) := by
  refine (vc41 n (some ⟨b, 0, none⟩) w (TellsV w (n = -1 ∨ SlP c n)) ?_).mono fun e w' => tells_of
  unfold vcP41
  rw [isP_some, gIf_true]
  refine ⟨_, fun _ => hb, Wif_intro (fun hc => ?_) (fun hc => ?_)⟩
  · exact ⟨true, rfl, Kept.refl _ _, by simpa using Or.inl (by simpa using hc)⟩
  · refine (slot_spec h n).mono ?_
    rintro _ w' ⟨u, rfl, hk, hu⟩
    exact ⟨u, rfl, u, rfl, hk, hu.trans ⟨.inr, fun g => g.resolve_left fun e => by simp [e] at hc⟩⟩
theorem c53_spec (o : Own) : Calls Tryz.prog 53 #[.agg #[vi o.n, vi o.pid, vi o.page], pt b] w (Tells w (FrP F o.n ∧ PgP o.page)) := by
  refine (vc53 o.n o.pid o.page (some ⟨b, 0, none⟩) w (TellsV w (FrP F o.n ∧ PgP o.page)) ?_).mono fun e w' => tells_of
  unfold vcP53
  intro w1 e1
  have o1 := own_alloc (c := [vi o.n, vi o.pid, vi o.page]) e1
  have k1 : Kept none' w w1 := (Kept.refl _ _).al e1
  refine Wif_yes rfl ⟨_, k1.rd_some hb id, o.n, by rw [o1.rd]; rfl, (frame_spec (h.k k1) _).mono ?_⟩
  rintro _ w2 ⟨u, rfl, k2, hu⟩
  refine ⟨u, rfl, o.page, fun _ => by rw [(o1.k k2).rd]; rfl, Wif_intro (fun hc => ?_) (fun hc => ?_)⟩
  · refine (page_spec _).mono ?_
    rintro _ w3 ⟨v, rfl, k3, hv⟩
    exact ⟨v, rfl, v, rfl, (k1.tr k2).tr k3, hv.trans ⟨fun g => ⟨hu.1 hc, g⟩, fun g => g.2⟩⟩
  · exact ⟨false, rfl, k1.tr k2, ⟨fun g => by simp at g, fun g => by rw [hu.2 g.1] at hc; exact absurd hc (by simp)⟩⟩
theorem c55_spec (o : Own) : Calls Tryz.prog 55 #[.agg #[vi o.n, vi o.pid, vi o.page], pt b] w (Tells w (SlP c o.n ∧ PgP o.page)) := by
  refine (vc55 o.n o.pid o.page (some ⟨b, 0, none⟩) w (TellsV w (SlP c o.n ∧ PgP o.page)) ?_).mono fun e w' => tells_of
  unfold vcP55
  intro w1 e1
  have o1 := own_alloc (c := [vi o.n, vi o.pid, vi o.page]) e1
  have k1 : Kept none' w w1 := (Kept.refl _ _).al e1
  refine Wif_yes rfl ⟨_, k1.rd_some hb id, o.n, by rw [o1.rd]; rfl, (slot_spec (h.k k1) _).mono ?_⟩
  rintro _ w2 ⟨u, rfl, k2, hu⟩
  refine ⟨u, rfl, o.page, fun _ => by rw [(o1.k k2).rd]; rfl, Wif_intro (fun hc => ?_) (fun hc => ?_)⟩
  · refine (page_spec _).mono ?_
    rintro _ w3 ⟨v, rfl, k3, hv⟩
    exact ⟨v, rfl, v, rfl, (k1.tr k2).tr k3, hv.trans ⟨fun g => ⟨hu.1 hc, g⟩, fun g => g.2⟩⟩
  · exact ⟨false, rfl, k1.tr k2, ⟨fun g => by simp at g, fun g => by rw [hu.2 g.1] at hc; exact absurd hc (by simp)⟩⟩
theorem c79_spec (o : Int × Int) : Calls Tryz.prog 79 #[.agg #[vi o.1, vi o.2], pt b] w (Tells w (FrP F o.2)) := by
  refine (vc79 o.1 o.2 (some ⟨b, 0, none⟩) w (TellsV w (FrP F o.2)) ?_).mono fun e w' => tells_of
  unfold vcP79
  intro w1 e1
  have o1 := own_alloc (c := [vi o.1, vi o.2]) e1
  have k1 : Kept none' w w1 := (Kept.refl _ _).al e1
  refine Wif_yes rfl ⟨_, k1.rd_some hb id, o.2, by rw [o1.rd]; rfl, (frame_spec (h.k k1) _).mono ?_⟩
  rintro _ w2 ⟨u, rfl, k2, hu⟩
  exact ⟨u, rfl, u, rfl, k1.tr k2, hu⟩
def EnP (c : Nat → Int) (F : Int) (m : Mapped) : Prop := PgP m.page ∧ (m.kind ≠ 1 ∨ FrP F m.n) ∧ (m.kind ≠ 2 ∨ SlP c m.n)
end
end Go.Proofs.YtikjgeenhbnkkaaGreatDoor
