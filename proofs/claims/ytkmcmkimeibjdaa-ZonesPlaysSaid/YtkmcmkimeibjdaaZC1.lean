/-
  A part of a proof that a law of this seat returns true at every input. Conditions: those in each theorem.
-/
import Derived.Test.YtkmcmkimeibjdaaEngQ
import Derived.Test.YtkmcmkimeibjdaaBR1
namespace Go.Proofs.Ytkmcmkimeibjdaa
open Go Eng
set_option linter.unusedSimpArgs false
set_option linter.unusedVariables false
set_option maxRecDepth 100000
/-! ### a config -/
abbrev cfg (c : Nat → Int) : List Value := runI .i64 c 0 94
abbrev cfgV (c : Nat → Int) : Value := .agg (cfg c).toArray
def clrF (f : Nat → Int) (o n : Nat) : Nat → Int := fun i => if o ≤ i ∧ i < o + n then 0 else f i
section
variable {w w' : World} {b : Nat} {f : Nat → Int}
theorem clr_cfg {t e : TypeId} {z : Value} {s : Nat} (ht : Try.prog.underlying t = some (.slice e)) (hv : ∀ w, (zeroValue e).run Try.prog w = .ok z w) (hz : z.cells = (List.replicate s (.int .i64 0)).toArray)
    (h : own w b (cfg f)) (o k cap : Nat) (hk : k ≤ cap) (hn : o + cap * s ≤ 94) {ty : TypeId} :
    ∃ w', clrIs Try.prog #[t] ty (.slice (offA (some ⟨b, o, none⟩) cap k s) (cap - k) (cap - k)) w w' ∧ own w' b (cfg (clrF f (o + k * s) ((cap - k) * s))) ∧ Kept (· = b) w w' := by
  have hks : k * s + (cap - k) * s = cap * s := by rw [← Nat.add_mul]; congr 1; omega
  have hoff : ∃ o', offA (some ⟨b, o, none⟩) cap k s = some ⟨b, o', none⟩ ∧ (o' = o + k * s ∨ k = cap) ∧ o' + (cap - k) * s ≤ 94 := by
    unfold offA
    by_cases e : cap = k
    · rw [if_pos e]; exact ⟨o, rfl, .inr e.symm, by subst e; simp; omega⟩
    · rw [if_neg e]
      refine ⟨o + k * s, ?_, .inl rfl, by omega⟩
      simp [Addr.add]
  obtain ⟨o', e1, e2, e3⟩ := hoff
  rw [e1]
  obtain ⟨w', hc, ho, hkp⟩ := clrN_own (ty := ty) ht hv hz rfl h o' (cap - k) (cap - k) (by rw [runI_len]; exact e3)
  refine ⟨w', hc, ?_, hkp⟩
  have : (cfg f).take o' ++ List.replicate ((cap - k) * s) (Value.int .i64 0) ++ (cfg f).drop (o' + (cap - k) * s) = cfg (clrF f (o + k * s) ((cap - k) * s)) := by
    refine runI_of (by simp [runI_len]; omega) fun j hj => ?_
    have hl : ((cfg f).take o').length = o' := by simp [runI_len]; omega
    by_cases h1 : j < o'
    · rw [List.append_assoc, List.getElem?_append_left (by omega), List.getElem?_take, if_pos h1, runI_get _ _ _ _ _ hj, Nat.zero_add]
      unfold clrF
      rw [if_neg]
      rcases e2 with rfl | rfl
      · omega
      · rw [Nat.sub_self]; omega
    · by_cases h2 : j < o' + (cap - k) * s
      · rw [List.getElem?_append_left (by simp [runI_len]; omega), List.getElem?_append_right (by omega), List.getElem?_replicate, if_pos (by omega)]
        unfold clrF
        rw [if_pos]
        rcases e2 with rfl | rfl
        · omega
        · rw [Nat.sub_self] at h2; omega
      · rw [List.getElem?_append_right (by simp [runI_len]; omega), List.getElem?_drop]
        rw [show o' + (cap - k) * s + (j - (List.take o' (cfg f) ++ List.replicate ((cap - k) * s) (Value.int .i64 0)).length) = j by simp [runI_len]; omega, runI_get _ _ _ _ _ hj, Nat.zero_add]
        unfold clrF
        rw [if_neg]
        rcases e2 with rfl | rfl
        · omega
        · rw [Nat.sub_self]; omega
  rw [this] at ho
  exact ho
end
def bareF (c : Nat → Int) (i : Nat) : Int :=
  if (2 + (c 1).toNat ≤ i ∧ i < 18) ∨ (18 + (c 0).toNat ≤ i ∧ i < 26) ∨ (26 ≤ i ∧ i < 90 ∧ ((c 0).toNat ≤ (i - 26) % 8 ∨ (c 0).toNat ≤ (i - 26) / 8)) then 0 else c i
def rowsF (c g : Nat → Int) (q : Nat) (i : Nat) : Int := if 26 ≤ i ∧ i < 26 + 8 * q ∧ (c 0).toNat ≤ (i - 26) % 8 then 0 else g i
theorem zero3' (w : World) : (zeroValue 3).run Try.prog w = .ok (.int .i64 0) w := Try.zeroValue3 w
theorem zero38 (w : World) : (zeroValue 38).run Try.prog w = .ok (.agg (List.replicate 8 (Value.int .i64 0)).toArray) w := Try.zeroValue38 w
theorem bare_spec (c : Nat → Int) (w : World) (h0 : 0 ≤ c 0 ∧ c 0 ≤ 8) (h1 : 0 ≤ c 1 ∧ c 1 ≤ 16) :
    Calls Try.prog 69 #[cfgV c] w fun r w' => r = .returned (cfgV (bareF c)) ∧ Kept none' w w' := by
  refine (vc69 c w (fun v w' => v = cfgV (bareF c) ∧ Kept none' w w') ?_).mono ?_
  · unfold vcP69
    intro w1 e1 w2 e2
    have o1 := own_alloc e1
    have k1 : Kept none' w w1 := (Kept.refl _ _).al e1
    have o2 := o1.al e2
    have p2 := own_alloc e2
    have k2 : Kept none' w w2 := k1.al e2
    have z1 : w1.heap.size = w.heap.size + 1 := by rw [e1]; simp only [World.alloc, Array.size_push]
    have z2 : w2.heap.size = w.heap.size + 2 := by rw [e2]; simp only [World.alloc, Array.size_push]; omega
    clear e1 e2
    generalize hb : w.heap.size = b at *
    generalize hb2 : w1.heap.size = b2 at *
    have kb : ∀ {X : Nat → Prop} {wa wb : World}, Kept none' w wa → Kept (· = b) wa wb → Kept none' w wb := fun ka k => ka.trans k fun x hx e => by omega
    refine ⟨_, o2.rI (j := 1) (by omega), Wif_yes (okSl_of h1.1 h1.2 (Int.le_refl _)) ?_⟩
    obtain ⟨w3, c3, o3, k3⟩ := clr_cfg (t := 42) (e := 3) (s := 1) (z := .int .i64 0) (ty := 0) Try.underlying42 zero3' rfl o2 2 (c 1).toNat 16 (by omega) (by omega)
    refine ⟨w3, c3, ?_⟩
    have K3 := kb (X := none') k2 k3
    have p3 := p2.kx k3 (by omega)
    have e0 : clrF c (2 + (c 1).toNat * 1) ((16 - (c 1).toNat) * 1) 0 = c 0 := by unfold clrF; rw [if_neg (by omega)]
    generalize hf1 : clrF c (2 + (c 1).toNat * 1) ((16 - (c 1).toNat) * 1) = f1 at *
    refine ⟨c 0, by rw [o3.rI (j := 0) (by omega), e0], Wif_yes (okSl_of h0.1 h0.2 (Int.le_refl _)) ?_⟩
    obtain ⟨w4, c4, o4, k4⟩ := clr_cfg (t := 42) (e := 3) (s := 1) (z := .int .i64 0) (ty := 0) Try.underlying42 zero3' rfl o3 18 (c 0).toNat 8 (by omega) (by omega)
    refine ⟨w4, c4, ?_⟩
    have K4 := kb (X := none') K3 k4
    have p4 := p3.kx k4 (by omega)
    have e0' : clrF f1 (18 + (c 0).toNat * 1) ((8 - (c 0).toNat) * 1) 0 = c 0 := by unfold clrF; rw [if_neg (by omega), e0]
    generalize hf2 : clrF f1 (18 + (c 0).toNat * 1) ((8 - (c 0).toNat) * 1) = f2 at *
    refine ⟨fun k w' N => ∃ q : Nat, k = q ∧ q ≤ 8 ∧ N = 8 - q ∧ Kept none' w w' ∧ own w' b (cfg (rowsF c f2 q)) ∧ own w' b2 (List.replicate 94 (Value.int .i64 0)), ⟨8, 0, rfl, by omega, rfl, K4, ?_, p4⟩, ?_⟩
    · have : cfg (rowsF c f2 0) = cfg f2 := runI_ext fun j hj => by unfold rowsF; rw [if_neg (by omega)]
      rw [this]; exact o4
    rintro _ w5 _ ⟨q, rfl, hq, rfl, K5, o5, p5⟩
    have er : rowsF c f2 q 0 = c 0 := by unfold rowsF; rw [if_neg (by omega), e0']
    refine Wif_intro (fun hc => ?_) (fun hc => ?_)
    · simp only [decide_eq_true_eq] at hc
      intro w6 e6
      have K6 := K5.dr e6
      have o6 := o5.dr e6
      have p6 := p5.dr e6
      refine Wif_yes (inB_of (by omega) (by omega)) ⟨c 0, by rw [o6.rI (j := 0) (by omega), er], Wif_yes (okSl_of h0.1 h0.2 (Int.le_refl _)) ?_⟩
      obtain ⟨w7, c7, o7, k7⟩ := clr_cfg (t := 42) (e := 3) (s := 1) (z := .int .i64 0) (ty := 0) Try.underlying42 zero3' rfl o6 (26 + q * 8) (c 0).toNat 8 (by omega) (by omega)
      refine ⟨w7, by rw [Int.toNat_natCast]; exact c7, 8 - (q + 1), by omega, q + 1, by rw [wi (by omega)]; rfl, by omega, rfl, kb (X := none') K6 k7, ?_, p6.kx k7 (by omega)⟩
      have : cfg (clrF (rowsF c f2 q) (26 + q * 8 + (c 0).toNat * 1) ((8 - (c 0).toNat) * 1)) = cfg (rowsF c f2 (q + 1)) := runI_ext fun j hj => by
        simp only [clrF, rowsF, Nat.zero_add]
        by_cases h2 : 26 ≤ j ∧ j < 26 + 8 * q ∧ (c 0).toNat ≤ (j - 26) % 8
        · rw [if_neg (by omega), if_pos h2, if_pos (by omega)]
        · by_cases h3 : 26 + q * 8 + (c 0).toNat * 1 ≤ j ∧ j < 26 + q * 8 + (c 0).toNat * 1 + (8 - (c 0).toNat) * 1
          · rw [if_pos h3, if_pos (by omega)]
          · rw [if_neg h3, if_neg h2, if_neg (by omega)]
      rw [← this]; exact o7
    · have hq8 : q = 8 := by simp at hc; omega
      subst hq8
      refine ⟨c 0, by rw [o5.rI (j := 0) (by omega), er], Wif_yes (okSl_of h0.1 h0.2 (Int.le_refl _)) ?_⟩
      obtain ⟨w6, c6, o6, k6⟩ := clr_cfg (t := 122) (e := 38) (s := 8) (ty := 0) Try.underlying122 zero38 rfl o5 26 (c 0).toNat 8 (by omega) (by omega)
      have K6 := kb (X := none') K5 k6
      have p6 := p5.kx k6 (by omega)
      have hcf : cfg (clrF (rowsF c f2 8) (26 + (c 0).toNat * 8) ((8 - (c 0).toNat) * 8)) = cfg (bareF c) := runI_ext fun j hj => by
        rw [← hf2, ← hf1]
        simp only [clrF, rowsF, bareF, Nat.zero_add]
        by_cases h2 : (2 + (c 1).toNat ≤ j ∧ j < 18) ∨ (18 + (c 0).toNat ≤ j ∧ j < 26) ∨ (26 ≤ j ∧ j < 90 ∧ ((c 0).toNat ≤ (j - 26) % 8 ∨ (c 0).toNat ≤ (j - 26) / 8))
        · rw [if_pos h2]
          split
          · rfl
          split
          · rfl
          split
          · rfl
          split
          · rfl
          omega
        · rw [if_neg h2, if_neg (by omega), if_neg (by omega), if_neg (by omega), if_neg (by omega)]
      rw [hcf] at o6
      refine ⟨w6, c6, bareF c, o6.rIall, p6.wrAll 0 (by rw [runI_len]; simp), ?_⟩
      intro w7 e7
      obtain ⟨o7, k7⟩ := stAll_whole p6 e7 (by rw [runI_len]; simp)
      exact ⟨bareF c, o7.rIall, rfl, K6.trans k7 fun x hx e => by omega⟩
  · rintro e w' ⟨v, rfl, rfl, hw⟩
    exact ⟨rfl, hw⟩
end Go.Proofs.Ytkmcmkimeibjdaa
namespace Go.Proofs.Ytkmcmkimeibjdaa
open Go.ChangeShapes Go.WideShapes Go.ChangeAt Go.RowKit Go.Eng
set_option linter.unusedSimpArgs false
set_option linter.unusedVariables false
set_option maxRecDepth 100000
/-! ### a config that is handed in; a row of numbers -/
def Ints (cs : List Value) : Prop := ∀ j, j < cs.length → ∃ n : Int, cs[j]? = some (.int .i64 n) ∧ -9223372036854775808 ≤ n ∧ n ≤ 9223372036854775807
section
variable {H : Type} {enc : TypeId × Value → H} {P : Program} {W : World}
abbrev Tr (H : Type) (enc : TypeId × Value → H) (P : Program) (W : World) (t : TypeId) : Prop := ∀ (fuel : Nat) (cs : List Value) (x : DataW H × List MemPlace), DataW.trod enc P W 0 (fun _ => true) true fuel t cs = some x → Ints cs ∧ cs.length = P.cellsOf t
theorem tr_int {t : TypeId} (ht : P.underlying t = some (.int .i64)) (hc : P.cellsOf t = 1) : Tr H enc P W t := fun fuel cs x h => by
  obtain ⟨n, rfl, _, hw⟩ := DataW.trod_int ht h
  refine ⟨fun j hj => ⟨n, ?_, wf_i64 hw⟩, by rw [hc]; rfl⟩
  have : j = 0 := by simp at hj; omega
  subst this; rfl
theorem tr_part {cs ds : List Value} {o s : Nat} (h : Ints ((cs.drop o).take s)) {j : Nat} (h1 : o ≤ j) (h2 : j < o + s) (h3 : j < cs.length) : ∃ n : Int, cs[j]? = some (.int .i64 n) ∧ -9223372036854775808 ≤ n ∧ n ≤ 9223372036854775807 := by
  obtain ⟨n, h4, h5⟩ := h (j - o) (by simp; omega)
  rw [List.getElem?_take, if_pos (by omega), List.getElem?_drop, show o + (j - o) = j by omega] at h4
  exact ⟨n, h4, h5⟩
theorem tr_arr {t e : TypeId} {n s : Nat} (ht : P.underlying t = some (.array n e)) (hs : P.cellsOf e = s) (hc : P.cellsOf t = n * s) (he : Tr H enc P W e) : Tr H enc P W t := fun fuel cs x h => by
  obtain ⟨xs, m, _, _, hl, hxl, hx⟩ := DataW.trod_array ht h
  refine ⟨fun j hj => ?_, hl⟩
  rw [hl, hc] at hj
  have hs0 : 0 < s := by
    rcases Nat.eq_zero_or_pos s with h0 | h0
    · subst h0; simp at hj
    · exact h0
  have hi : j / s < n := (Nat.div_lt_iff_lt_mul hs0).2 hj
  have h1 := hx (j / s) hi
  rw [List.getElem?_eq_getElem (by omega), hs] at h1
  have h2 := (he _ _ _ h1).1
  have hd := Nat.div_add_mod j s
  have hm := Nat.mod_lt j hs0
  exact tr_part (ds := []) h2 (by rw [Nat.mul_comm] at hd; omega) (by rw [Nat.mul_comm] at hd; omega) (by rw [hl, hc]; exact hj)
end
section
variable {H : Type} {enc : TypeId × Value → H}
theorem cells_41 : Try.prog.cellsOf 41 = 94 := by kernel_rfl
theorem cells_37 : Try.prog.cellsOf 37 = 16 * 1 := by kernel_rfl
theorem cells_38 : Try.prog.cellsOf 38 = 8 * 1 := by kernel_rfl
theorem cells_39 : Try.prog.cellsOf 39 = 8 * 8 := by kernel_rfl
theorem tr3 (W : World) : Tr H enc Try.prog W 3 := tr_int Try.underlying3 cells_3
theorem tr37 (W : World) : Tr H enc Try.prog W 37 := tr_arr Try.underlying37 cells_3 cells_37 (tr3 W)
theorem tr38 (W : World) : Tr H enc Try.prog W 38 := tr_arr Try.underlying38 cells_3 cells_38 (tr3 W)
theorem tr39 (W : World) : Tr H enc Try.prog W 39 := tr_arr Try.underlying39 cells_38 cells_39 (tr38 W)
theorem tr41 (W : World) : Tr H enc Try.prog W 41 := fun fuel cs x h => by
  obtain ⟨xs, m, _, _, hl, hxl, hx⟩ := DataW.trod_struct Try.underlying41 h
  refine ⟨fun j hj => ?_, hl⟩
  have hxl' : xs.length = 9 := hxl
  rw [hl, cells_41] at hj
  have go : ∀ (i : Nat) (f : Field) (o s : Nat), i < 9 → f.offset = o → Try.prog.cellsOf f.type = s → Tr H enc Try.prog W f.type → DataW.trod enc Try.prog W 0 (fun _ => true) true m f.type ((cs.drop f.offset).take (Try.prog.cellsOf f.type)) = xs[i]? → o ≤ j → j < o + s → ∃ n : Int, cs[j]? = some (.int .i64 n) ∧ -9223372036854775808 ≤ n ∧ n ≤ 9223372036854775807 := by
    intro i f o s hi ho hs ht hf h1 h2
    rw [List.getElem?_eq_getElem (by omega)] at hf
    have := (ht _ _ _ hf).1
    rw [ho, hs] at this
    exact tr_part (ds := []) this h1 h2 (by rw [hl, cells_41]; exact hj)
  by_cases e0 : j < 1
  · exact go 0 _ 0 1 (by omega) rfl cells_3 (tr3 W) (hx 0 _ rfl) (by omega) (by omega)
  by_cases e1 : j < 2
  · exact go 1 _ 1 1 (by omega) rfl cells_3 (tr3 W) (hx 1 _ rfl) (by omega) (by omega)
  by_cases e2 : j < 18
  · exact go 2 _ 2 16 (by omega) rfl cells_37 (tr37 W) (hx 2 _ rfl) (by omega) (by omega)
  by_cases e3 : j < 26
  · exact go 3 _ 18 8 (by omega) rfl cells_38 (tr38 W) (hx 3 _ rfl) (by omega) (by omega)
  by_cases e4 : j < 90
  · exact go 4 _ 26 64 (by omega) rfl cells_39 (tr39 W) (hx 4 _ rfl) (by omega) (by omega)
  by_cases e5 : j < 91
  · exact go 5 _ 90 1 (by omega) rfl cells_3 (tr3 W) (hx 5 _ rfl) (by omega) (by omega)
  by_cases e6 : j < 92
  · exact go 6 _ 91 1 (by omega) rfl cells_3 (tr3 W) (hx 6 _ rfl) (by omega) (by omega)
  by_cases e7 : j < 93
  · exact go 7 _ 92 1 (by omega) rfl cells_3 (tr3 W) (hx 7 _ rfl) (by omega) (by omega)
  · exact go 8 _ 93 1 (by omega) rfl cells_3 (tr3 W) (hx 8 _ rfl) (by omega) (by omega)
theorem open_cfg {W : World} {base : Nat} {v : Value} {d : DataW H} {p : List MemPlace} (hv : Value.okWide Try.prog W .any base 41 v) (h : DataW.Trod enc Try.prog W 0 (fun _ => true) true 41 v d p) :
    ∃ c, v = cfgV c ∧ ∀ j, j < 94 → -9223372036854775808 ≤ c j ∧ c j ≤ 9223372036854775807 := by
  obtain ⟨cs, rfl, hsz⟩ := okWide_struct Try.underlying41 hv
  obtain ⟨fuel, hf⟩ := h
  obtain ⟨hi, hl⟩ := tr41 W _ _ _ hf
  have hcs : (Value.agg cs).cells = cs := rfl
  rw [hcs] at hi hl
  rw [cells_41] at hl
  have each : ∀ j, j < 94 → ∃ n : Int, cs.toList[j]? = some (.int .i64 n) ∧ -9223372036854775808 ≤ n ∧ n ≤ 9223372036854775807 := fun j hj => hi j (by omega)
  obtain ⟨f, hff⟩ : ∃ f : Nat → Int, ∀ j, j < 94 → cs.toList[j]? = some (.int .i64 (f j)) ∧ -9223372036854775808 ≤ f j ∧ f j ≤ 9223372036854775807 :=
    ⟨fun j => if h : j < 94 then (each j h).choose else 0, fun j hj => by simp only [hj, dif_pos]; exact (each j hj).choose_spec⟩
  refine ⟨f, ?_, fun j hj => (hff j hj).2⟩
  have : cs.toList = cfg f := runI_of hl fun j hj => (hff j hj).1
  show Value.agg cs = Value.agg (cfg f).toArray
  rw [← this]
/-- numbers, handed in as a row -/
structure IntsAt (w : World) (a : Option Addr) (l : Nat) (f : Nat → Int) : Prop where
  isp : 0 < l → isP a = true
  rd : ∀ i, i < l → Eng.rd w (pb a) (po a + i) = some (.int .i64 (f i))
  r64 : ∀ i, i < l → -9223372036854775808 ≤ f i ∧ f i ≤ 9223372036854775807
  mx : l ≤ maxLen
theorem open_ints {W : World} {base : Nat} {v : Value} {d : DataW H} {p : List MemPlace} (hv : Value.okWide Try.prog W .any base 42 v) (h : DataW.Trod enc Try.prog W 0 (fun _ => true) true 42 v d p) :
    ∃ a l c f, v = .slice a l c ∧ IntsAt W a l f := by
  obtain ⟨a0, l0, c0, rfl⟩ := okWide_slice Try.underlying42 hv
  obtain ⟨fuel, hf⟩ := h
  obtain ⟨a, l, c, e, hle, hmx, hp, _, hx⟩ := open_row Try.underlying42 hf (by rw [cells_3]; omega)
  simp [Value.cells] at e
  obtain ⟨rfl, rfl, rfl⟩ := e
  have each : ∀ i, i < l0 → ∃ n : Int, Eng.rd W (pb a0) (po a0 + i) = some (.int .i64 n) ∧ -9223372036854775808 ≤ n ∧ n ≤ 9223372036854775807 := by
    intro i hi
    obtain ⟨cs, n, x, hlen, hcell, htr⟩ := hx i hi
    obtain ⟨k, rfl, _, hw⟩ := DataW.trod_int Try.underlying3 htr
    have := hcell 0 (by rw [cells_3]; omega)
    rw [cells_3, Nat.mul_one] at this
    refine ⟨k, this, ?_⟩
    simpa [Lit.wf, IntKind.min, IntKind.max, IntKind.signed, IntKind.bits] using hw
  refine ⟨a0, l0, c0, fun i => if h : i < l0 then (each i h).choose else 0, rfl, hp, fun i hi => ?_, fun i hi => ?_, by omega⟩
  · simp only [hi, dif_pos]
    exact (each i hi).choose_spec.1
  · simp only [hi, dif_pos]
    exact (each i hi).choose_spec.2
theorem open_bool {W : World} {base : Nat} {v : Value} {d : DataW H} {p : List MemPlace} (hv : Value.okWide Try.prog W .any base 4 v) (h : DataW.Trod enc Try.prog W 0 (fun _ => true) true 4 v d p) : ∃ b, v = .bool b :=
  okWide_bool Try.underlying4 hv
end
end Go.Proofs.Ytkmcmkimeibjdaa
namespace Go.Proofs.Ytkmcmkimeibjdaa
open Go.ChangeShapes Go.WideShapes Go.ChangeAt Go.RowKit Go.Eng
set_option linter.unusedSimpArgs false
set_option linter.unusedVariables false
set_option maxRecDepth 100000
/-! ### a call on zones that is handed in by value -/
section
variable {H : Type} {enc : TypeId × Value → H}
theorem cells_42 : Try.prog.cellsOf 42 = 1 := by kernel_rfl
theorem cells_87 : Try.prog.cellsOf 87 = 6 := by kernel_rfl
theorem open_op87 {W : World} {base : Nat} {v : Value} {d : DataW H} {p : List MemPlace} (hv : Value.okWide Try.prog W .any base 87 v) (h : DataW.Trod enc Try.prog W 0 (fun _ => true) true 87 v d p) :
    ∃ k0 k1 k2 k3 a l c k5, v = .agg #[.int .i64 k0, .int .i64 k1, .int .i64 k2, .int .i64 k3, .slice a l c, .bool k5] := by
  obtain ⟨cs, rfl, hsz⟩ := okWide_struct Try.underlying87 hv
  obtain ⟨fuel, hf⟩ := h
  obtain ⟨xs, k, _, _, hl, hxl, hfs⟩ := DataW.trod_struct Try.underlying87 hf
  have hcs : (Value.agg cs).cells = cs := rfl
  rw [hcs] at hl hfs
  rw [cells_87] at hl
  obtain ⟨l, rfl⟩ : ∃ l : List Value, cs = l.toArray := ⟨cs.toList, by simp⟩
  match xs, hxl, l, hl with
  | [y0, y1, y2, y3, y4, y5], _, [v0, v1, v2, v3, v4, v5], _ =>
    have g0 := hfs 0 _ rfl
    have g1 := hfs 1 _ rfl
    have g2 := hfs 2 _ rfl
    have g3 := hfs 3 _ rfl
    have g4 := hfs 4 _ rfl
    have g5 := hfs 5 _ rfl
    simp [cells_3, cells_4, cells_42] at g0 g1 g2 g3 g4 g5
    obtain ⟨k0, e0, _, w0⟩ := DataW.trod_int Try.underlying3 g0
    obtain ⟨k1, e1, _, w1⟩ := DataW.trod_int Try.underlying3 g1
    obtain ⟨k2, e2, _, w2⟩ := DataW.trod_int Try.underlying3 g2
    obtain ⟨k3, e3, _, w3⟩ := DataW.trod_int Try.underlying3 g3
    obtain ⟨a, l, c, e4, _⟩ := open_row Try.underlying42 g4 (by rw [cells_3]; omega)
    obtain ⟨k5, e5, _⟩ := DataW.trod_bool Try.underlying4 g5
    simp at e0 e1 e2 e3 e4 e5
    subst e0 e1 e2 e3 e4 e5
    exact ⟨k0, k1, k2, k3, a, l, c, k5, rfl⟩
end
end Go.Proofs.Ytkmcmkimeibjdaa
