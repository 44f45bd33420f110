/-
  A part of a proof that a law of this seat returns true at every input. Conditions: those in each theorem.
-/
import Derived.Test.YtklmokolnakkoaaGreatDoorY7
import Derived.Test.YtklmokolnakkoaaGreatDoorZV6
import Derived.Test.YtklmokolnakkoaaGreatDoorXV6
import Derived.Shelf.Slices.Delete
import Derived.Test.YtklmokolnakkoaaGreatDoorProg
set_option linter.unusedSimpArgs false
set_option linter.unusedVariables false
set_option maxRecDepth 100000
namespace Go.Proofs.YtklmokolnakkoaaGreatDoor
open Go Go.Eng
def fst8 (size : Int) : Int := if size ≤ 8 then 0 else if size ≤ 16 then 1 else if size ≤ 24 then 2 else if size ≤ 40 then 3 else if size ≤ 56 then 4 else if size ≤ 72 then 5 else if size ≤ 104 then 6 else if size ≤ 128 then 7 else -1
theorem sz_all : sz 0 = 8 ∧ sz 1 = 16 ∧ sz 2 = 24 ∧ sz 3 = 40 ∧ sz 4 = 56 ∧ sz 5 = 72 ∧ sz 6 = 104 ∧ sz 7 = 128 := by decide
theorem fst8_hit {size : Int} {q : Nat} (hq : q < 8) (h : size ≤ sz q) (hl : ∀ i, i < q → sz i < size) : fst8 size = q := by
  obtain ⟨z0, z1, z2, z3, z4, z5, z6, z7⟩ := sz_all
  unfold fst8
  match q, hq with
  | 0, _ => rw [if_pos (by omega)]; rfl
  | 1, _ => have := hl 0 (by omega); rw [if_neg (by omega), if_pos (by omega)]; rfl
  | 2, _ => have := hl 1 (by omega); rw [if_neg (by omega), if_neg (by omega), if_pos (by omega)]; rfl
  | 3, _ => have := hl 2 (by omega); rw [if_neg (by omega), if_neg (by omega), if_neg (by omega), if_pos (by omega)]; rfl
  | 4, _ => have := hl 3 (by omega); rw [if_neg (by omega), if_neg (by omega), if_neg (by omega), if_neg (by omega), if_pos (by omega)]; rfl
  | 5, _ => have := hl 4 (by omega); rw [if_neg (by omega), if_neg (by omega), if_neg (by omega), if_neg (by omega), if_neg (by omega), if_pos (by omega)]; rfl
  | 6, _ => have := hl 5 (by omega); rw [if_neg (by omega), if_neg (by omega), if_neg (by omega), if_neg (by omega), if_neg (by omega), if_neg (by omega), if_pos (by omega)]; rfl
  | 7, _ => have := hl 6 (by omega); rw [if_neg (by omega), if_neg (by omega), if_neg (by omega), if_neg (by omega), if_neg (by omega), if_neg (by omega), if_neg (by omega), if_pos (by omega)]; rfl
theorem fst8_miss {size : Int} (hl : ∀ i, i < 8 → sz i < size) : fst8 size = -1 := by
  obtain ⟨z0, z1, z2, z3, z4, z5, z6, z7⟩ := sz_all
  have := hl 7 (by omega)
  unfold fst8
  rw [if_neg (by omega), if_neg (by omega), if_neg (by omega), if_neg (by omega), if_neg (by omega), if_neg (by omega), if_neg (by omega), if_neg (by omega)]
def clsV (size : Int) : Value := if size < 1 ∨ fst8 size < 0 then .tuple #[vi 0, vi 2] else .tuple #[vi (fst8 size), vi 0]
theorem index_class {w : World} {b : Nat} {size : Int} (hz : SizR w) (hb : rd w b 0 = some (vi size)) : Calls Tryz.prog 29 #[.slice (some ⟨0, 0, none⟩) 8 8, .func (.func 30) #[] #[ptr b]] w fun e w' => e = .returned (vi (fst8 size)) ∧ w' = w := by
  refine (vc29 (some ⟨0, 0, none⟩) 8 8 _ w (fun v w' => v = vi (fst8 size) ∧ w' = w) ?_).mono ?_
  rotate_left
  · rintro e w' ⟨v, rfl, rfl, rfl⟩
    exact ⟨rfl, rfl⟩
  unfold vcP29
  refine ⟨fun _ n w' N => ∃ q : Nat, n = q ∧ q ≤ 8 ∧ N = 8 - q ∧ w' = w ∧ ∀ i, i < q → sz i < size, ⟨8, 0, rfl, by omega, rfl, rfl, fun i h => absurd h (Nat.not_lt_zero _)⟩, ?_⟩
  rintro _ _ w1 _ ⟨q, rfl, hq, rfl, rfl, hl⟩
  refine Wif_intro (fun hc => ?_) (fun hc => ?_)
  · have hq8 : q < 8 := by simp at hc; omega
    refine Wif_yes rfl (Wif_yes (inB_of (by omega) (by omega)) ⟨sz q, by rw [Int.toNat_natCast, Nat.mul_one]; show rd w1 0 (0 + q) = _; rw [Nat.zero_add]; exact hz q hq8, CallsV.mk _ #[] #[_] rfl (by kernel_rfl) ?_⟩)
    refine (vc30 (sz q) (some ⟨b, 0, none⟩) w1 (fun v w' => v = .bool (decide (sz q ≥ size)) ∧ w' = w1) ?_).mono ?_
    · unfold vcP30
      exact Wif_yes rfl ⟨size, hb, rfl, rfl⟩
    rintro e w' ⟨v, rfl, rfl, hw⟩
    refine ⟨_, rfl, Wif_intro (fun h => ?_) (fun h => ?_)⟩
    · have h2 : size ≤ sz q := by simpa using h
      exact ⟨by rw [fst8_hit hq8 h2 hl], hw⟩
    · have h2 : sz q < size := by simpa using h
      refine ⟨8 - (q + 1), by omega, q + 1, by rw [wi (by omega)]; rfl, hq8, rfl, hw, fun i hi => ?_⟩
      rcases Nat.lt_or_ge i q with h3 | h3
      · exact hl i h3
      · rw [show i = q by omega]; exact h2
  · have : q = 8 := by simp at hc; omega
    subst this
    exact ⟨by rw [fst8_miss hl], rfl⟩
theorem class_spec {w : World} (hz : SizR w) (size : Int) : Calls Tryz.prog 8 #[vi size] w fun e w' => e = .returned (clsV size) ∧ Kept none' w w' := by
  refine (vc8 size w (fun v w' => v = clsV size ∧ Kept none' w w') ?_).mono ?_
  · unfold vcP8
    intro w1 e1
    have o1 := own_alloc (c := [vi size]) e1
    have k1 : Kept none' w w1 := (Kept.refl _ _).al e1
    refine (index_class (hz.k k1) (by rw [o1.rd]; rfl)).mono ?_
    rintro _ w2 ⟨rfl, rfl⟩
    refine ⟨_, rfl, size, by rw [o1.rd]; rfl, ?_⟩
    unfold clsV
    refine Wif_intro (fun hc => ?_) (fun hc => ?_)
    · rw [if_pos (by simpa using hc)]; exact ⟨rfl, k1⟩
    · rw [if_neg (by simp at hc; omega)]; exact ⟨rfl, k1⟩
  · rintro e w' ⟨v, rfl, rfl, h⟩
    exact ⟨rfl, h⟩
theorem SlR.one {α : Type} {R : Rd α} {w : World} {a : Option Addr} {l c : Nat} {xs : List α} (h : SlR R 1 w a l c xs) {i : Nat} {x : α} (hx : xs[i]? = some x) : ∃ u, R w [u] x ∧ rd w (pb a) (po a + Int.toNat (i : Int) * 1) = some u := by
  obtain ⟨cs, h1, h2, h3⟩ := h.el i x hx
  match cs, h1 with
  | [u], _ =>
    refine ⟨u, h2, ?_⟩
    rw [Int.toNat_natCast]
    exact h3 0 u rfl
theorem SlR.int {w : World} {a : Option Addr} {l c : Nat} {xs : List Int} (h : SlR RInt 1 w a l c xs) {i : Nat} {x : Int} (hx : xs[i]? = some x) : rd w (pb a) (po a + Int.toNat (i : Int) * 1) = some (vi x) := by
  obtain ⟨u, hu, hr⟩ := h.one hx
  have : u = vi x := by simpa [RInt] using hu
  rw [← this]; exact hr
theorem SlR.sl {α : Type} {R : Rd α} {s : Nat} {w : World} {a : Option Addr} {l c : Nat} {xs : List (List α)} (h : SlR (RL R s) 1 w a l c xs) {i : Nat} {x : List α} (hx : xs[i]? = some x) : ∃ (b : Option Addr) (m d : Nat), SlR R s w b m d x ∧ rd w (pb a) (po a + Int.toNat (i : Int) * 1) = some (.slice b m d) := by
  obtain ⟨u, ⟨b, m, d, hu, hR⟩, hr⟩ := h.one hx
  have : u = .slice b m d := by simpa using hu
  exact ⟨b, m, d, hR, by rw [← this]; exact hr⟩
theorem rep_get {α : Type} {n i : Nat} {x : α} (hi : i < n) : (List.replicate n x)[i]? = some x := by rw [List.getElem?_replicate, if_pos hi]
structure EmptyP (c : Nat → Int) (x : Pic) : Prop where
  hc : x.c = c
  marks : x.marks = List.replicate (fstF c (c 0).toNat).toNat mark0
  held : x.held = List.replicate (c 1).toNat []
  flying : x.flying = List.replicate (c 1).toNat []
  flight : x.flight = List.replicate (c 1).toNat (-1)
  clocks : x.clocks = List.replicate (c 0).toNat []
  mags : x.mags = List.replicate (c 1).toNat (List.replicate 8 [])
  depots : x.depots = List.replicate (c 0).toNat (List.replicate 8 [])
  holders : x.holders = List.replicate (9 + (c 0).toNat) (-1)
  procs : x.procs = []
  frames : x.frames = []
  slots : x.slots = []
  slabs : x.slabs = []
  ord : ∀ y ∈ x.free, ∃ o : Nat, y.2 = o ∧ o ≤ 10
  len : x.free.length ≤ 1024
  sum : (x.free.map fun y => 2 ^ y.2.toNat).sum = (fstF c (c 0).toNat).toNat
theorem bsum_take {L : List (Int × Int)} (q : Nat) : ((L.take q).map fun y => 2 ^ y.2.toNat).sum ≤ (L.map fun y => 2 ^ y.2.toNat).sum := by
  conv => rhs; rw [← List.take_append_drop q L, List.map_append, List.sum_append]
  exact Nat.le_add_right _ _
theorem shlE {o : Nat} (ho : o ≤ 10) : IntKind.wrap .i64 (1 * 2 ^ min (Int.toNat (IntKind.wrap .u64 (o : Int))) 64) = ((2 ^ o : Nat) : Int) := by
  rw [wu (by omega), Int.toNat_natCast, Nat.min_eq_left (by omega), Int.one_mul]
  match o, ho with
  | 0, _ | 1, _ | 2, _ | 3, _ | 4, _ | 5, _ | 6, _ | 7, _ | 8, _ | 9, _ | 10, _ => decide
theorem empty_spec {w : World} {c : Nat → Int} {PS : PicS} {x : Pic} (hm : MayP c) (P : PicR w PS x) (E : EmptyP c x) : Calls Tryz.prog 18 #[cfgV c, picV PS c] w fun e w' => e = .returned (.bool true) ∧ Kept none' w w' := by
  refine (vc18 c c (PS.a 0) (PS.l 0) (PS.c 0) (PS.a 1) (PS.l 1) (PS.c 1) (PS.a 2) (PS.l 2) (PS.c 2) (PS.a 3) (PS.l 3) (PS.c 3) (PS.a 4) (PS.l 4) (PS.c 4) (PS.a 5) (PS.l 5) (PS.c 5) (PS.a 6) (PS.l 6) (PS.c 6) (PS.a 7) (PS.l 7) (PS.c 7) (PS.a 8) (PS.l 8) (PS.c 8) (PS.a 9) (PS.l 9) (PS.c 9) (PS.a 10) (PS.l 10) (PS.c 10) (PS.a 11) (PS.l 11) (PS.c 11) (PS.a 12) (PS.l 12) (PS.c 12) w (fun v w' => v = .bool true ∧ Kept none' w w') ?_).mono ?_
  rotate_left
  · rintro e w' ⟨v, rfl, rfl, h⟩
    exact ⟨rfl, h⟩
  have bn := hm.1
  have bc := hm.2.1
  have ht := hm.tot
  obtain ⟨nn, hnn⟩ : ∃ nn : Nat, c 0 = nn := ⟨(c 0).toNat, by omega⟩
  obtain ⟨nc, hnc⟩ : ∃ nc : Nat, c 1 = nc := ⟨(c 1).toNat, by omega⟩
  have en : (c 0).toNat = nn := by omega
  have ec : (c 1).toNat = nc := by omega
  have Em := E.marks
  have Eh := E.held
  have Ef := E.flying
  have Eg := E.flight
  have Ec := E.clocks
  have Ema := E.mags
  have Ed := E.depots
  have Eo := E.holders
  have Es := E.sum
  rw [ec] at Eh Ef Eg Ema
  rw [en] at Ec Ed Eo Em Es
  unfold vcP18
  intro w1 e1 w2 e2
  have o1 := (own_alloc e1).al e2
  have o2 : own w2 w1.heap.size (cfg c ++ sl13 PS) := own_alloc e2
  have k2 : Kept none' w w2 := ((Kept.refl _ _).al e1).al e2
  clear e1 e2
  generalize w.heap.size = b0 at *
  generalize w1.heap.size = b1 at *
  refine ⟨c, o1.rIall, (rframes_spec c hm w2).mono ?_⟩
  rintro _ w3 ⟨fa, fcp, rfl, k3, _⟩
  rw [en]
  rw [en] at ht
  generalize hN : (fstF c nn).toNat = N at *
  have o1 := o1.k k3
  have o2 := o2.k k3
  have P := P.k (k2.tr k3)
  have K3 := k2.tr k3
  have r1 : ∀ {W : World}, Kept none' w3 W → ∀ {j : Nat} {v : Value}, (sl13 PS)[j]? = some v → rd W b1 (94 + j) = some v := fun k j v hv => by
    rw [(o2.k k).rd, List.getElem?_append_right (by rw [runI_len]; omega), runI_len, Nat.add_sub_cancel_left]; exact hv
  have r0 : ∀ {W : World}, Kept none' w3 W → rd W b0 0 = some (vi nn) ∧ rd W b0 1 = some (vi nc) := fun k => ⟨by rw [(o1.k k).rI (by omega), hnn], by rw [(o1.k k).rI (by omega), hnc]⟩
  have kk := Kept.refl none' w3
  have l0 := P.marks.len
  have l1 := P.free.len
  have l2 := P.held.len
  have l3 := P.flying.len
  have l4 := P.flight.len
  have l5 := P.procs.len
  have l6 := P.frames.len
  have l7 := P.clocks.len
  have l8 := P.slots.len
  have l9 := P.slabs.len
  have l10 := P.mags.len
  have l11 := P.depots.len
  have l12 := P.holders.len
  rw [Em, List.length_replicate] at l0
  rw [Eh, List.length_replicate] at l2
  rw [Ef, List.length_replicate] at l3
  rw [Eg, List.length_replicate] at l4
  rw [E.procs] at l5
  rw [E.frames] at l6
  rw [Ec, List.length_replicate] at l7
  rw [E.slots] at l8
  rw [E.slabs] at l9
  rw [Ema, List.length_replicate] at l10
  rw [Ed, List.length_replicate] at l11
  rw [Eo, List.length_replicate] at l12
  refine ⟨_, _, _, rfl, c, o2.run 0 (fun j hj => by rw [Nat.zero_add, List.getElem?_append_left (by rw [runI_len]; exact hj), runI_get _ _ _ _ _ hj, Nat.zero_add]), c, o1.rIall, ?_⟩
  simp only [beq_self_eq_true, Bool.and_true, Bool.not_true, Bool.false_or]
  refine ⟨_, _, _, fun _ => r1 kk (j := 0) rfl, _, _, _, fun _ => r1 kk (j := 2) rfl, _, fun _ => (r0 kk).2, _, _, _, fun _ => r1 kk (j := 3) rfl, _, fun _ => (r0 kk).2, _, _, _, fun _ => r1 kk (j := 4) rfl, _, fun _ => (r0 kk).2, _, _, _, fun _ => r1 kk (j := 7) rfl, _, fun _ => (r0 kk).1,
    _, _, _, fun _ => r1 kk (j := 10) rfl, _, fun _ => (r0 kk).2, _, _, _, fun _ => r1 kk (j := 11) rfl, _, fun _ => (r0 kk).1, _, _, _, fun _ => r1 kk (j := 12) rfl, _, fun _ => (r0 kk).1, Wif_no ?_ ?_⟩
  · rw [l0, l2, l3, l4, l7, l10, l11, l12, wi (by omega)]
    simp
  refine ⟨_, _, _, r1 kk (j := 5) rfl, _, _, _, r1 kk (j := 6) rfl, _, _, _, r1 kk (j := 8) rfl, _, _, _, r1 kk (j := 9) rfl, Wif_no (by rw [l5, l6, l8, l9]; decide) ?_⟩
  -- the marks
  refine ⟨fun _ n W M => ∃ q : Nat, n = q ∧ q ≤ N ∧ M = N - q ∧ Kept none' w3 W, ⟨N, 0, rfl, by omega, rfl, kk⟩, ?_⟩
  rintro _ _ w4 _ ⟨q, rfl, hq, rfl, k4⟩
  refine Wif_intro (fun hc => ?_) (fun hc => ?_)
  · have hqN : q < N := by simp at hc; omega
    have P4 := P.k k4
    obtain ⟨cs, _, hR, hr⟩ := P4.marks.el q mark0 (by rw [Em]; exact rep_get hqN)
    obtain rfl : cs = [.int .u8 1, vi 0, vi 0, vi 0, vi 0] := hR
    refine ⟨_, _, _, r1 k4 (j := 0) rfl, Wif_yes (P4.marks.isp (by omega)) (Wif_yes (inB_of (by omega) (by omega)) ⟨1, 0, 0, 0, 0, ?_, Wif_no (by decide) ⟨N - (q + 1), by omega, q + 1, by rw [wi (by omega)]; rfl, hqN, rfl, k4⟩⟩)⟩
    rw [Int.toNat_natCast]
    exact ⟨hr 0 _ rfl, hr 1 _ rfl, hr 2 _ rfl, hr 3 _ rfl, hr 4 _ rfl⟩
  clear hc hq q
  -- CPUs
  refine ⟨fun _ n W M => ∃ q : Nat, n = q ∧ q ≤ nc ∧ M = nc - q ∧ Kept none' w3 W, ⟨nc, 0, rfl, by omega, rfl, k4⟩, ?_⟩
  rintro _ _ w5 _ ⟨q, rfl, hq, rfl, k5⟩
  refine ⟨_, (r0 k5).2, Wif_intro (fun hc => ?_) (fun hc => ?_)⟩
  · have hqc : q < nc := by simp at hc; omega
    intro w6 e6
    have k6 : Kept none' w3 w6 := k5.dr e6
    have P6 := P.k k6
    obtain ⟨b2, m2, d2, S2, hr2⟩ := P6.held.sl (i := q) (x := []) (by rw [Eh]; exact rep_get hqc)
    obtain ⟨b3, m3, d3, S3, hr3⟩ := P6.flying.sl (i := q) (x := []) (by rw [Ef]; exact rep_get hqc)
    obtain ⟨b4, m4, d4, S4, hr4⟩ := P6.mags.sl (i := q) (x := List.replicate 8 []) (by rw [Ema]; exact rep_get hqc)
    have hr5 := P6.flight.int (i := q) (x := -1) (by rw [Eg]; exact rep_get hqc)
    have z2 : m2 = 0 := S2.len
    have z3 : m3 = 0 := S3.len
    have z4 : m4 = 8 := by rw [S4.len, List.length_replicate]
    subst z2 z3 z4
    refine ⟨_, _, _, r1 k6 (j := 2) rfl, Wif_yes (P6.held.isp (by omega)) (Wif_yes (inB_of (by omega) (by omega)) ⟨_, _, _, hr2, _, _, _, r1 k6 (j := 3) rfl, Wif_yes (P6.flying.isp (by omega)) (Wif_yes (inB_of (by omega) (by omega)) ⟨_, _, _, hr3, _, _, _, fun _ => r1 k6 (j := 4) rfl,
      gIf_intro (fun _ => P6.flight.isp (by omega)) (gIf_intro (fun _ => inB_of (by omega) (by omega)) ⟨-1, fun _ => hr5, _, _, _, fun _ => r1 k6 (j := 10) rfl, gIf_intro (fun _ => P6.mags.isp (by omega)) (gIf_intro (fun _ => inB_of (by omega) (by omega)) ⟨_, _, _, fun _ => hr4, Wif_no (by decide) ?_⟩)⟩)⟩)⟩)⟩
    refine ⟨fun _ n W M => ∃ r : Nat, n = r ∧ r ≤ 8 ∧ M = 8 - r ∧ Kept none' w3 W, ⟨8, 0, rfl, by omega, rfl, k6⟩, ?_⟩
    rintro _ _ w7 _ ⟨r, rfl, hr8, rfl, k7⟩
    refine Wif_intro (fun hc2 => ?_) (fun hc2 => ⟨nc - (q + 1), by omega, q + 1, by rw [wi (by omega)]; rfl, hqc, rfl, k7⟩)
    have hr8' : r < 8 := by simp at hc2; omega
    have P7 := P.k k7
    obtain ⟨b8, m8, d8, S8, hr8a⟩ := P7.mags.sl (i := q) (x := List.replicate 8 []) (by rw [Ema]; exact rep_get hqc)
    obtain ⟨b9, m9, d9, S9, hr9⟩ := S8.sl (i := r) (x := []) (rep_get hr8')
    have z8 : m8 = 8 := by rw [S8.len, List.length_replicate]
    have z9 : m9 = 0 := S9.len
    subst z8 z9
    exact ⟨_, _, _, r1 k7 (j := 10) rfl, Wif_yes (P7.mags.isp (by omega)) (Wif_yes (inB_of (by omega) (by omega)) ⟨_, _, _, hr8a, Wif_yes (S8.isp (by omega)) (Wif_yes (inB_of (by omega) (by omega)) ⟨_, _, _, hr9, Wif_no (by decide) ⟨8 - (r + 1), by omega, r + 1, by rw [wi (by omega)]; rfl, hr8', rfl, k7⟩⟩)⟩)⟩
  clear hc hq q
  -- nodes
  refine ⟨fun _ n W M => ∃ q : Nat, n = q ∧ q ≤ nn ∧ M = nn - q ∧ Kept none' w3 W, ⟨nn, 0, rfl, by omega, rfl, k5⟩, ?_⟩
  rintro _ _ w6 _ ⟨q, rfl, hq, rfl, k6⟩
  refine ⟨_, (r0 k6).1, Wif_intro (fun hc => ?_) (fun hc => ?_)⟩
  · have hqc : q < nn := by simp at hc; omega
    have P6 := P.k k6
    obtain ⟨b2, m2, d2, S2, hr2⟩ := P6.clocks.sl (i := q) (x := []) (by rw [Ec]; exact rep_get hqc)
    obtain ⟨b4, m4, d4, S4, hr4⟩ := P6.depots.sl (i := q) (x := List.replicate 8 []) (by rw [Ed]; exact rep_get hqc)
    have z2 : m2 = 0 := S2.len
    have z4 : m4 = 8 := by rw [S4.len, List.length_replicate]
    subst z2 z4
    refine ⟨_, _, _, r1 k6 (j := 7) rfl, Wif_yes (P6.clocks.isp (by omega)) (Wif_yes (inB_of (by omega) (by omega)) ⟨_, _, _, hr2, _, _, _, fun _ => r1 k6 (j := 11) rfl,
      gIf_intro (fun _ => P6.depots.isp (by omega)) (gIf_intro (fun _ => inB_of (by omega) (by omega)) ⟨_, _, _, fun _ => hr4, Wif_no (by decide) ?_⟩)⟩)⟩
    refine ⟨fun _ n W M => ∃ r : Nat, n = r ∧ r ≤ 8 ∧ M = 8 - r ∧ Kept none' w3 W, ⟨8, 0, rfl, by omega, rfl, k6⟩, ?_⟩
    rintro _ _ w7 _ ⟨r, rfl, hr8, rfl, k7⟩
    refine Wif_intro (fun hc2 => ?_) (fun hc2 => ⟨nn - (q + 1), by omega, q + 1, by rw [wi (by omega)]; rfl, hqc, rfl, k7⟩)
    have hr8' : r < 8 := by simp at hc2; omega
    have P7 := P.k k7
    obtain ⟨b8, m8, d8, S8, hr8a⟩ := P7.depots.sl (i := q) (x := List.replicate 8 []) (by rw [Ed]; exact rep_get hqc)
    obtain ⟨b9, m9, d9, S9, hr9⟩ := S8.sl (i := r) (x := []) (rep_get hr8')
    have z8 : m8 = 8 := by rw [S8.len, List.length_replicate]
    have z9 : m9 = 0 := S9.len
    subst z8 z9
    exact ⟨_, _, _, r1 k7 (j := 11) rfl, Wif_yes (P7.depots.isp (by omega)) (Wif_yes (inB_of (by omega) (by omega)) ⟨_, _, _, hr8a, Wif_yes (S8.isp (by omega)) (Wif_yes (inB_of (by omega) (by omega)) ⟨_, _, _, hr9, Wif_no (by decide) ⟨8 - (r + 1), by omega, r + 1, by rw [wi (by omega)]; rfl, hr8', rfl, k7⟩⟩)⟩)⟩
  clear hc hq q
  -- locks
  refine ⟨fun _ n W M => ∃ q : Nat, n = q ∧ q ≤ 9 + nn ∧ M = 9 + nn - q ∧ Kept none' w3 W, ⟨9 + nn, 0, rfl, by omega, rfl, k6⟩, ?_⟩
  rintro _ _ w7 _ ⟨q, rfl, hq, rfl, k7⟩
  refine ⟨_, _, _, r1 k7 (j := 12) rfl, Wif_intro (fun hc => ?_) (fun hc => ?_)⟩
  · have hqc : q < 9 + nn := by simp [l12] at hc; omega
    have P7 := P.k k7
    have hr5 := P7.holders.int (i := q) (x := -1) (by rw [Eo]; exact rep_get hqc)
    exact ⟨_, _, _, r1 k7 (j := 12) rfl, Wif_yes (P7.holders.isp (by omega)) (Wif_yes (inB_of (by omega) (by omega)) ⟨-1, hr5, Wif_no (by decide) ⟨9 + nn - (q + 1), by omega, q + 1, by rw [wi (by omega)]; rfl, hqc, rfl, k7⟩⟩)⟩
  clear hc hq q
  -- free blocks
  have hlen := E.len
  refine ⟨fun s n W M => ∃ q : Nat, n = q ∧ q ≤ x.free.length ∧ M = x.free.length - q ∧ Kept none' w3 W ∧ s = (((x.free.take q).map fun y => 2 ^ y.2.toNat).sum : Nat), ⟨_, 0, rfl, by omega, rfl, k7, by simp⟩, ?_⟩
  rintro _ _ w8 _ ⟨q, rfl, hq, rfl, k8, rfl⟩
  refine ⟨_, _, _, r1 k8 (j := 1) rfl, Wif_intro (fun hc => ?_) (fun hc => ?_)⟩
  · have hqf : q < x.free.length := by simp [l1] at hc; omega
    have P8 := P.k k8
    obtain ⟨y, hy⟩ : ∃ y, x.free[q]? = some y := ⟨_, List.getElem?_eq_getElem hqf⟩
    obtain ⟨cs, _, hR, hr⟩ := P8.free.el q y hy
    obtain rfl : cs = [vi y.1, vi y.2] := hR
    obtain ⟨o, ho, ho10⟩ := E.ord y (List.mem_of_getElem? hy)
    have ht1 := bsum_take (L := x.free) (q + 1)
    have e1 : ((x.free.take (q + 1)).map fun y => 2 ^ y.2.toNat).sum = ((x.free.take q).map fun y => 2 ^ y.2.toNat).sum + 2 ^ o := by
      rw [List.take_add_one, hy, List.map_append, List.sum_append]
      simp [ho]
    refine ⟨_, _, _, r1 k8 (j := 1) rfl, Wif_yes (P8.free.isp (by omega)) (Wif_yes (inB_of (by omega) (by omega)) ⟨y.2, by rw [Int.toNat_natCast]; exact hr 1 _ rfl, ?_⟩)⟩
    rw [ho, shlE ho10]
    refine Wif_yes (by rw [wu (by omega)]; simp) ⟨x.free.length - (q + 1), by omega, q + 1, by rw [wi (by omega)]; rfl, hqf, rfl, k8, ?_⟩
    rw [e1]
    rw [wi (by omega)]
    omega
  · have hqe : q = x.free.length := by simp [l1] at hc; omega
    rw [hqe, List.take_length, Es]
    exact ⟨by simp, K3.tr k8⟩
theorem fsum_all {l : List Bk} {a b : Nat} (h : Tile a l b) (hg : ∀ x ∈ l, x.g = 0) : a + fsum l = b := by
  induction l generalizing a with
  | nil => simp [Tile] at h; simp [fsum]; omega
  | cons x l ih =>
    have h1 := ih h.2.2.2 fun y hy => hg y (by simp [hy])
    rw [fsum_cons, if_pos (hg x (by simp))]
    omega
theorem bks_sum (l : List Bk) : ((bks l).map fun y => 2 ^ y.2).sum = fsum l := by
  induction l with
  | nil => rfl
  | cons x l ih =>
    rw [fsum_cons]
    by_cases h : x.g = 0
    · rw [bks_free h, if_pos h, List.map_cons, List.sum_cons, ih]
    · rw [bks_held h, if_neg h, ih, Nat.zero_add]
theorem zsh_sum {c : Nat → Int} {L : Nat → List Bk} : ∀ {k : Nat}, (∀ i, i < k → fsum (L i) = (c (18 + i)).toNat ∧ 0 ≤ c (18 + i)) → ((((zsh c L k).map fun y => 2 ^ y.2).sum : Nat) : Int) = fstF c k
  | 0, _ => rfl
  | k + 1, h => by
    have ih := zsh_sum (c := c) (L := L) (k := k) fun i hi => h i (by omega)
    have hk := h k (by omega)
    have e0 : zsh c L (k + 1) = zsh c L k ++ (bks (L k)).map fun y => ((fstF c k).toNat + y.1, y.2) := rfl
    have e1 : fstF c (k + 1) = fstF c k + c (18 + k) := rfl
    have e2 : (((bks (L k)).map fun y => ((fstF c k).toNat + y.1, y.2)).map fun y : Nat × Nat => 2 ^ y.2) = (bks (L k)).map fun y => 2 ^ y.2 := by rw [List.map_map]; rfl
    rw [e0, e1, List.map_append, List.sum_append, e2, bks_sum]
    omega
theorem zsh_ord {c : Nat → Int} {L : Nat → List Bk} : ∀ {k : Nat}, (∀ i, i < k → ∀ x ∈ L i, x.o ≤ 10) → ∀ y ∈ zsh c L k, y.2 ≤ 10
  | 0, _, y, hy => by simp [zsh] at hy
  | k + 1, h, y, hy => by
    have e0 : zsh c L (k + 1) = zsh c L k ++ (bks (L k)).map fun y => ((fstF c k).toNat + y.1, y.2) := rfl
    rw [e0, List.mem_append] at hy
    rcases hy with hy | hy
    · exact zsh_ord (fun i hi => h i (by omega)) y hy
    · obtain ⟨z, hz, rfl⟩ := List.mem_map.1 hy
      obtain ⟨x, hx, rfl⟩ := List.mem_map.1 hz
      exact h k (by omega) x (mem_frB.1 hx).1
theorem owns0 (n : Nat) : owns n (fun _ => (0, 0)) = [] := by simp [owns]
theorem map_rep {α : Type} (n : Nat) (x : α) : (List.range n).map (fun _ => x) = List.replicate n x := by
  refine List.ext_getElem? fun i => ?_
  rw [List.getElem?_map, List.getElem?_replicate]
  by_cases h : i < n
  · rw [List.getElem?_range h, if_pos h]; rfl
  · rw [if_neg h, List.getElem?_eq_none (by simpa using h)]; rfl
theorem fresh_empty {w : World} {k : Nat} {S : Mach} {fp : Prt → Nat → Prop} {P : Nat → Proc} {c : Nat → Int} (h : CoreAt w k S fp) (F : Fresh S) (hc : S.c = c) : EmptyP c (picOf S P) := by
  subst hc
  obtain ⟨Z, _, hZc⟩ := h.at' .zones
  have hs := h.sizes
  have hk : S.Z.k = (S.c 0).toNat := by have := Z.kc; rw [hZc] at this; omega
  have hN : ∀ i, i < S.Z.k → fsum (S.L i) = (S.Z.c (18 + i)).toNat ∧ 0 ≤ S.Z.c (18 + i) := fun i hi => by
    have h1 := fsum_all (Z.iv i hi).tl (F.L i hi)
    have h2 := (n_int Z hi).1
    unfold Zs.n at h1 h2
    omega
  have hl : (zsh S.Z.c S.L S.Z.k).length ≤ 1024 := by
    have h8 := Z.k8
    have := zsh_len (c := S.Z.c) (L := S.L) (k := S.Z.k) fun i hi => by
      have h1 := bks_le (Z.iv i hi).tl
      have := (n_int Z hi).2.2
      omega
    omega
  refine ⟨rfl, ?_, ?_, map_rep _ _, ?_, ?_, ?_, ?_, ?_, ?_, ?_, ?_, rfl, ?_, by show ((zsh S.Z.c S.L S.Z.k).map intP).length ≤ 1024; rw [List.length_map]; exact hl, ?_⟩
  · show (List.range S.n).map S.mks = _
    rw [F.mks]
    exact map_rep _ _
  · show (List.range S.cpus).map S.held = _
    rw [F.held]
    exact map_rep _ _
  · exact F.fli
  · show (List.range S.nodes).map (fun i => sortI (S.ring i)) = _
    rw [F.ring]
    simp only [show sortI [] = [] by simp [sortI]]
    exact map_rep _ _
  · show (List.range S.cpus).map (fun _ => (List.range 8).map fun _ => []) = _
    rw [map_rep, map_rep]; rfl
  · show (List.range S.nodes).map (fun _ => (List.range 8).map fun _ => []) = _
    rw [map_rep, map_rep]; rfl
  · show (List.range (9 + S.nodes)).map (fun i => IntKind.wrap .i64 (S.lh i - 1)) = _
    rw [F.lh]
    simp only [show IntKind.wrap .i64 (0 - 1) = -1 by decide]
    exact map_rep _ _
  · show procs S P 9 = []
    simp [procs, F.sp]
  · show owns S.n S.rof = []
    rw [F.rof]
    exact owns0 _
  · show owns S.slots S.sof = []
    rw [F.sof]
    exact owns0 _
  · intro y hy
    obtain ⟨z, hz, rfl⟩ := List.mem_map.1 hy
    exact ⟨z.2, rfl, zsh_ord (fun i hi x hx => (tile_mem (Z.iv i hi).tl hx).2.2.2) z hz⟩
  · show ((((zsh S.Z.c S.L S.Z.k).map intP).map fun y => 2 ^ y.2.toNat).sum : Nat) = _
    have := zsh_sum hN
    rw [List.map_map]
    have e : ((fun y : Int × Int => 2 ^ y.2.toNat) ∘ intP) = fun y : Nat × Nat => 2 ^ y.2 := by funext y; simp [intP]
    rw [e]
    have e2 : fstF S.c (S.c 0).toNat = fstF S.Z.c S.Z.k := by rw [hk, hZc]
    rw [e2]
    omega
theorem procC0 {S : Mach} {P : Nat → Proc} {k : Nat} {w : World} (F : Fresh S) : ProcC S P k w := fun i b W _ hb _ => by rw [F.sp] at hb; cases hb
theorem fresh_pic {w : World} {k : Nat} {S : Mach} {fp : Prt → Nat → Prop} {P : Nat → Proc} (h : CoreAt w k S fp) (F : Fresh S) : Calls Tryz.prog 19 #[ptr k] w fun e w' => ∃ PS : PicS, e = .returned (picV PS S.c) ∧ Kept none' w w' ∧ At (rng w w') (fun W => PicR W PS (picOf S P)) w' := by
  have hs := h.sizes
  refine picture_spec h (procC0 F) (fun i _ => ?_) (fun i _ => ?_) ?_
  · rw [F.held]; exact Nat.zero_le _
  · rw [F.ring]; exact Nat.zero_le _
  · rw [F.fli, List.length_replicate]; omega
def leastF : Nat → Int := fun i => if i = 0 then 1 else if i = 1 then 1 else if i = 18 then 4 else if i = 90 then 2 else 0
theorem least_may : MayP leastF := by
  refine ⟨by decide, by decide, by decide, fun i hi => ?_, fun i hi => ?_, fun i hi => ?_, ?_, by decide, by decide, by decide⟩
  · revert i; decide
  · have e : (leastF 1).toNat = 1 := rfl
    rw [e] at hi
    obtain rfl : i = 0 := by omega
    decide
  · have e : (leastF 0).toNat = 1 := rfl
    rw [e] at hi
    obtain rfl : i = 0 := by omega
    decide
  · intro i k hi hk
    have e : (leastF 0).toNat = 1 := rfl
    rw [e] at hi hk
    obtain rfl : i = 0 := by omega
    obtain rfl : k = 0 := by omega
    unfold nearO
    decide
theorem least_cells : ([Value.int .i64 1, Value.int .i64 1] ++ (List.replicate 88 (Value.int .i64 0) ++ [Value.int .i64 2, Value.int .i64 0, Value.int .i64 0, Value.int .i64 0])).set 18 (.int .i64 4) = cfg leastF := by
  kernel_rfl
theorem least_spec (w : World) : Calls Tryz.prog 31 #[] w fun e w' => e = .returned (cfgV leastF) ∧ Kept none' w w' := by
  refine (vc31 w (fun v w' => v = cfgV leastF ∧ Kept none' w w') ?_).mono ?_
  · unfold vcP31
    intro w1 e1 w2 e2
    have o1 := (own_alloc e1).al e2
    have o2 : own w2 w1.heap.size _ := own_alloc e2
    have k2 : Kept none' w w2 := ((Kept.refl _ _).al e1).al e2
    have hne : w.heap.size < w1.heap.size := (own_alloc e1).lt
    refine ⟨o2.wrAll 0 (by simp), fun w3 e3 => ?_⟩
    obtain ⟨o3, k3⟩ := stAll_whole o2 e3 (by simp)
    refine ⟨o3.wr (by simp), fun w4 e4 => ?_⟩
    have o4 := o3.s1 e4
    have k4 : Kept (· = w1.heap.size) w3 w4 := (Kept.refl _ _).s1 e4 (.inl rfl)
    have K4 : Kept none' w w4 := own0 (own0 k2 k3 fun x e => by omega) k4 fun x e => by omega
    have o14 := (o1.kx k3 (by omega)).kx k4 (by omega)
    rw [least_cells] at o4
    refine ⟨leastF, o4.rIall, o14.wrAll 0 (by simp [runI_len]), fun w5 e5 => ?_⟩
    obtain ⟨o5, k5⟩ := stAll_whole o14 e5 (by simp [runI_len])
    exact ⟨leastF, o5.rIall, rfl, own0 K4 k5 fun x e => Nat.le_of_eq e.symm⟩
  · rintro e w' ⟨v, rfl, rfl, h⟩
    exact ⟨rfl, h⟩
def P0 : Nat → Proc := fun _ => ⟨0, 0, [], [], [], []⟩
theorem known_spec {w : World} (hz : SizR w) (hw : 0 < w.heap.size) : Calls Tryz.prog 10 #[] w fun e w' => e = .returned (.bool true) ∧ Kept none' w w' := by
  refine (vc10 w (fun v w' => v = .bool true ∧ Kept none' w w') ?_).mono ?_
  rotate_left
  · rintro e w' ⟨v, rfl, rfl, h⟩
    exact ⟨rfl, h⟩
  unfold vcP10
  refine (least_spec w).mono ?_
  rintro _ w1 ⟨rfl, k1⟩
  refine ⟨leastF, rfl, (core_new leastF (hz.k k1) (by have := k1.sz; omega)).mono ?_⟩
  rintro _ w2 ⟨k2, ⟨hno, _⟩ | ⟨_, k, S, fp, rfl, C2, hc, F, hfp⟩⟩
  · exact absurd least_may hno
  refine ⟨_, _, rfl, (class_spec ((hz.k k1).k k2) 9).mono ?_⟩
  rintro _ w3 ⟨rfl, k3⟩
  have C3 := C2.k k3
  refine ⟨1, 0, rfl, Wif_yes rfl ((least_spec w3).mono ?_)⟩
  rintro _ w4 ⟨rfl, k4⟩
  have C4 := C3.k k4
  refine ⟨leastF, rfl, (fresh_pic (P := P0) C4 F).mono ?_⟩
  rintro _ w5 ⟨PS, rfl, k5, A5⟩
  have C5 := C4.k k5
  rw [hc]
  refine ⟨_, _, _, _, _, _, _, _, _, _, _, _, _, _, _, _, _, _, _, _, _, _, _, _, _, _, _, _, _, _, _, _, _, _, _, _, _, _, _, _, rfl, (empty_spec least_may A5.now (fresh_empty C4 F hc)).mono ?_⟩
  rintro _ w6 ⟨rfl, k6⟩
  have C6 := C5.k k6
  have hn : S.nodes = 1 := by unfold Mach.nodes; rw [hc]; rfl
  obtain ⟨g, cp, u, H, hv, hr, hA, _, _⟩ := (C6.at' .depots).one (B := fun _ => RowA (fun _ => Bin0) 8) (w' := w6) (i := 0) (fun _ _ => RowA.stb fun _ _ => Bin0.stb) (by omega) fun _ _ => rfl
  obtain ⟨g2, cp2, _, _, rfl, _, _, _, _⟩ := hA.one (B := fun _ => Bin0) (w' := w6) (i := 0) (fun _ _ => Bin0.stb) (by omega) fun _ _ => rfl
  rw [hn] at hv
  have hd : rd w6 k (0 + 102) = some (.slice (some ⟨g, 0, none⟩) 1 cp) := by
    have := C6.rt (j := 8) (v := S.vde) rfl
    rw [hv] at this
    rw [Nat.zero_add]
    exact this
  refine ⟨true, rfl, gIf_intro (fun _ => rfl) ⟨_, _, _, fun _ => hd, gIf_intro (fun _ => rfl) ⟨_, _, _, fun _ => hd, gIf_intro (fun _ => rfl) (gIf_intro (fun _ => rfl) ⟨_, _, _, fun _ => hr, rfl, ?_⟩)⟩⟩⟩
  exact ((((k1.tr k2).tr k3).tr k4).tr k5).tr k6
theorem known_k {w w1 : World} (hz : SizR w) (hw : 0 < w.heap.size) (k : Kept none' w w1) : Calls Tryz.prog 10 #[] w1 fun e w' => ∃ b : Bool, e = .returned (.bool b) ∧ Value.bool b = .bool true ∧ Kept none' w w' := by
  refine (known_spec (hz.k k) (Nat.lt_of_lt_of_le hw k.sz)).mono ?_
  rintro _ w2 ⟨rfl, k2⟩
  exact ⟨true, rfl, rfl, k.tr k2⟩
end Go.Proofs.YtklmokolnakkoaaGreatDoor
/-
  DERIVED: THE SHELF's CONTRACTS AT THIS DUMP, IN PLAIN WORDS (tools/lay-plain.mjs out of 'S5.lean', which tools/lay-shelf.mjs wrote): THE SAME DECLARATIONS UNDER THE SAME NAMES: 'import', 'namespace', 'open', 'def', 'theorem' AND NOTHING ELSE: no command of the shelf's: FOR A HAND-IN. Each laying: the table of numbers ('.._ren') and one theorem, a field a fact of the dump's own or the kernel's comparison; each contract: ONE APPLICATION.
-/
namespace Go.Proofs
open Go.Shelf
def Tryz.delI_ren : Go.Shelf.Ren := ⟨fun | 23 => 93 | n => n, fun | 22 => 51 | 3 => 3 | 4 => 4 | 0 => 0 | n => n, fun | n => n⟩
theorem Tryz.delI : Go.Proofs.Lays2.n23 Tryz.prog Tryz.delI_ren := {
  mixed := by kernel_rfl
  f23 := Tryz.func93.trans (congrArg some (by kernel_rfl))
  t0 := Tryz.underlying0
  a0 := Tryz.isAgg0
  z0 := Tryz.sizeOf0
  v0 := Tryz.zeroValue0
  t3 := Tryz.underlying3
  a3 := Tryz.isAgg3
  z3 := Tryz.sizeOf3
  v3 := Tryz.zeroValue3
  t4 := Tryz.underlying4
  a4 := Tryz.isAgg4
  z4 := Tryz.sizeOf4
  v4 := Tryz.zeroValue4
  t22 := Tryz.underlying51
  a22 := Tryz.isAgg51
  z22 := Tryz.sizeOf51
  v22 := Tryz.zeroValue51
  i3 := by kernel_rfl }
end Go.Proofs
