/-
  A part of a proof that a law of this seat returns true at every input. Conditions: those in each theorem.
-/
import Derived.Test.YtklmokolnakkoaaGreatDoorX6
import Derived.Test.YtklmokolnakkoaaGreatDoorXV3
import Derived.Test.YtklmokolnakkoaaGreatDoorEngN
set_option linter.unusedSimpArgs false
set_option linter.unusedVariables false
set_option maxRecDepth 100000
namespace Go.Proofs.YtklmokolnakkoaaGreatDoor
open Go Go.Eng
theorem cset {w w' : World} {b i : Nat} {f : Nat → Int} {T : List Value} {v : Value} (h : own w b (cfg f ++ T)) (e : w' = st w b (94 + i) v) : own w' b (cfg f ++ T.set i v) := by
  have h2 := h.s1 e
  rw [List.set_append_right _ _ (by rw [runI_len]; omega), runI_len, Nat.add_sub_cancel_left] at h2
  exact h2
theorem frames_spec {w : World} {m bb mb : Nat} {c : Nat → Int} {n : Nat} {by' : Nat → Int} {mk : Nat → Mark} (h : MemAt w m bb mb c n by' mk) : Calls Tryz.prog 13 #[ptr m] w fun e w' => e = .returned (vi n) ∧ w' = w := by
  have hr : rd w m (0 + 95) = some (.slice (some ⟨mb, 0, none⟩) n n) := by
    rw [h.so.rd, List.getElem?_append_right (by rw [runI_len]; omega), runI_len]
    rfl
  refine (vc13 _ w (fun v w' => v = vi n ∧ w' = w) ?_).mono ?_
  · unfold vcP13
    exact Wif_no rfl (Wif_yes rfl ⟨_, _, _, hr, rfl, rfl⟩)
  · rintro e w' ⟨v, rfl, rfl, rfl⟩
    exact ⟨rfl, rfl⟩
theorem nilRow {A : Nat → Thing} {T n : Nat} {w w' : World} (e : w' = w.alloc (.cells (List.replicate n (Value.slice none 0 0)).toArray T)) (hA : ∀ j, j < n → A j (.slice none 0 0) (fun _ => False) w') : RowA A n (.slice (some ⟨w.heap.size, 0, none⟩) n n) (rng w w') w' := by
  have o := own_alloc e
  exact ⟨⟨_, n, _, fun _ => .slice none 0 0, fun _ _ => False, rfl, o, fun j hj => by rw [List.getElem?_replicate, if_pos hj], ⟨Nat.le_refl _, o.lt⟩, hA, fun j _ x hx => hx.elim, fun i j _ _ _ x hx => hx.elim⟩, fun x hx => hx.2⟩
structure Fresh (S : Mach) : Prop where
  by' : S.by' = fun _ => 0
  mks : S.mks = fun _ => mark0
  L : ∀ i, i < S.Z.k → ∀ x ∈ S.L i, x.g = 0
  dv : S.dv = fun _ => 0
  lh : S.lh = fun _ => 0
  rof : S.rof = fun _ => (0, 0)
  rat : S.rat = []
  sof : S.sof = fun _ => (0, 0)
  ring : S.ring = fun _ => []
  cof : S.cof = fun _ => []
  held : S.held = fun _ => []
  fli : S.fli = List.replicate S.cpus (-1)
  sp : S.sp = fun _ => none
set_option maxHeartbeats 4000000 in
theorem core_new (c : Nat → Int) {w : World} (hz : SizR w) (hw : 0 < w.heap.size) : Calls Tryz.prog 11 #[cfgV c] w fun e w' => Kept none' w w' ∧ ((¬ MayP c ∧ e = .returned (.tuple #[.pointer none, vi 2])) ∨
    (MayP c ∧ ∃ k S fp, e = .returned (.tuple #[ptr k, vi 0]) ∧ CoreAt w' k S fp ∧ S.c = c ∧ Fresh S ∧ ∀ p x, fp p x → w.heap.size ≤ x)) := by
  refine (vc11 c w (fun v w' => Kept none' w w' ∧ ((¬ MayP c ∧ v = (.tuple #[.pointer none, vi 2])) ∨
    (MayP c ∧ ∃ k S fp, v = (.tuple #[ptr k, vi 0]) ∧ CoreAt w' k S fp ∧ S.c = c ∧ Fresh S ∧ ∀ p x, fp p x → w.heap.size ≤ x))) ?_).mono ?_
  rotate_left
  · rintro e w' ⟨v, rfl, hk, ⟨h1, rfl⟩ | ⟨h1, k, S, fp, rfl, h2⟩⟩
    · exact ⟨hk, .inl ⟨h1, rfl⟩⟩
    · exact ⟨hk, .inr ⟨h1, k, S, fp, rfl, h2⟩⟩
  unfold vcP11
  intro w1 e1
  have o1 := own_alloc e1
  have k1 : Kept none' w w1 := (Kept.refl _ _).al e1
  clear e1
  have hb0 : w.heap.size < w1.heap.size := o1.lt
  generalize hb : w.heap.size = b0 at *
  refine ⟨c, o1.rIall, (may_spec c w1).mono ?_⟩
  rintro _ w2 ⟨ok, rfl, hok, k2⟩
  have o2 := o1.k k2
  have K2 := k1.tr k2
  refine ⟨_, rfl, Wif_intro (fun hc => ?_) (fun hc => ?_)⟩
  · have : ok = false := by simpa using hc
    subst this
    exact ⟨K2, .inl ⟨by simpa using hok, rfl⟩⟩
  have : ok = true := by simpa using hc
  subst this
  have hm : MayP c := hok.1 rfl
  clear hc hok
  have ht := hm.tot
  obtain ⟨nn, hnn⟩ : ∃ nn : Nat, c 0 = nn := ⟨(c 0).toNat, by have := hm.1; omega⟩
  obtain ⟨nc, hnc⟩ : ∃ nc : Nat, c 1 = nc := ⟨(c 1).toNat, by have := hm.2.1; omega⟩
  obtain ⟨ns, hns⟩ : ∃ ns : Nat, c 90 = ns := ⟨(c 90).toNat, by have := hm.2.2.1; omega⟩
  have bn := hm.1
  have bc := hm.2.1
  have bs := hm.2.2.1
  have en : (c 0).toNat = nn := by omega
  have ec : (c 1).toNat = nc := by omega
  have es : (c 90).toNat = ns := by omega
  refine ⟨c, o2.rIall, fun w3 e3 => ?_⟩
  have o3 := o2.al e3
  have so3 := own_alloc e3
  have K3 : Kept none' w w3 := K2.al e3
  have hkb : b0 < w2.heap.size := o2.lt
  have hs3 : w2.heap.size < w3.heap.size := so3.lt
  clear e3
  generalize hkb0 : w2.heap.size = kb at *
  have hne : b0 ≠ kb := by omega
  have z3 : SizR w3 := hz.k K3
  refine ⟨c, o3.rIall, (mnew_spec c hm w3).mono ?_⟩
  rintro _ w4 ⟨pm, bb, mb, rfl, k4, M, f1, f2, f3⟩
  have o4 := o3.k k4
  have so4 := so3.k k4
  refine ⟨_, _, rfl, so4.wr (by simp [runI_len]), fun w5 e5 => ?_⟩
  have so5 := cset (i := 0) so4 e5
  have o5 := o4.n1 e5 hne
  have q5 : Kept (· = kb) w4 w5 := (Kept.refl _ _).s1 e5 (.inl rfl)
  have s5 : Kept (· = kb) w3 w5 := (k4.mono fun _ _ e => e.elim).trans q5 fun _ _ h => h
  have z5 : SizR w5 := z3.kx s5 (by omega)
  have h4 := k4.sz
  have h5 : w5.heap.size = w4.heap.size := by rw [e5]; simp
  clear e5
  refine ⟨c, o5.rIall, (znew_spec c w5).mono ?_⟩
  rintro _ w6 ⟨k6, ⟨hno, _⟩ | ⟨_, pz, Z, LL, rfl, hZ, hZc, hZg, hZf⟩⟩
  · exact absurd hm hno
  have o6 := o5.k k6
  have so6 := so5.k k6
  refine ⟨_, _, rfl, so6.wr (by simp [runI_len]), fun w7 e7 => ?_⟩
  have so7 := cset (i := 1) so6 e7
  have o7 := o6.n1 e7 hne
  have q7 : Kept (· = kb) w6 w7 := (Kept.refl _ _).s1 e7 (.inl rfl)
  have s7 : Kept (· = kb) w5 w7 := (k6.mono fun _ _ e => e.elim).trans q7 fun _ _ h => h
  have z7 : SizR w7 := z5.kx s7 (by omega)
  have h6 := k6.sz
  have h7 : w7.heap.size = w6.heap.size := by rw [e7]; simp
  clear e7
  refine ⟨(ns : Int), by rw [o7.rI (by omega), hns], (dnew_spec (n := ns) (by omega) w7).mono ?_⟩
  rintro _ w8 ⟨pd, db, rfl, k8, D, d1, d2⟩
  have o8 := o7.k k8
  have so8 := so7.k k8
  refine ⟨_, rfl, so8.wr (by simp [runI_len]), fun w9 e9 => ?_⟩
  have so9 := cset (i := 2) so8 e9
  have o9 := o8.n1 e9 hne
  have q9 : Kept (· = kb) w8 w9 := (Kept.refl _ _).s1 e9 (.inl rfl)
  have s9 : Kept (· = kb) w7 w9 := (k8.mono fun _ _ e => e.elim).trans q9 fun _ _ h => h
  have z9 : SizR w9 := z7.kx s9 (by omega)
  have h8 := k8.sz
  have h9 : w9.heap.size = w8.heap.size := by rw [e9]; simp
  clear e9
  refine ⟨(nn : Int), by rw [o9.rI (by omega), hnn], ?_⟩
  rw [show IntKind.wrap .i64 (9 + (nn : Int)) = ((9 + nn : Nat) : Int) from by rw [wi (by omega)]; omega]
  refine (lnew_spec (n := 9 + nn) (by omega) w9).mono ?_
  rintro _ w10 ⟨pl, rfl, k10, K, l1⟩
  have o10 := o9.k k10
  have so10 := so9.k k10
  refine ⟨_, rfl, so10.wr (by simp [runI_len]), fun w11 e11 => ?_⟩
  have so11 := cset (i := 3) so10 e11
  have o11 := o10.n1 e11 hne
  have q11 : Kept (· = kb) w10 w11 := (Kept.refl _ _).s1 e11 (.inl rfl)
  have s11 : Kept (· = kb) w9 w11 := (k10.mono fun _ _ e => e.elim).trans q11 fun _ _ h => h
  have z11 : SizR w11 := z9.kx s11 (by omega)
  have h10 := k10.sz
  have h11 : w11.heap.size = w10.heap.size := by rw [e11]; simp
  clear e11
  have M11 : MemAt w11 pm bb mb c (fstF c (c 0).toNat).toNat (fun _ => 0) (fun _ => mark0) := by
    have kk : Kept (· = kb) w4 w11 := ((q5.trans s7 fun _ _ h => h).trans s9 fun _ _ h => h).trans s11 fun _ _ h => h
    exact ⟨M.so.kx kk (by omega), M.bs.kx kk (by omega), M.ms.kx kk (by omega), M.ne⟩
  refine ⟨_, by rw [so11.rd, List.getElem?_append_right (by rw [runI_len]; omega), runI_len]; rfl, (frames_spec M11).mono ?_⟩
  rintro _ wx ⟨rfl, hx⟩
  rw [hx]
  clear hx
  refine ⟨_, rfl, (rmnew_spec (by omega) w11).mono ?_⟩
  rintro _ w12 ⟨pr, rb, rm, rfl, k12, R, r1, r2, r3⟩
  have o12 := o11.k k12
  have so12 := so11.k k12
  refine ⟨_, rfl, so12.wr (by simp [runI_len]), fun w13 e13 => ?_⟩
  have so13 := cset (i := 4) so12 e13
  have o13 := o12.n1 e13 hne
  have q13 : Kept (· = kb) w12 w13 := (Kept.refl _ _).s1 e13 (.inl rfl)
  have s13 : Kept (· = kb) w11 w13 := (k12.mono fun _ _ e => e.elim).trans q13 fun _ _ h => h
  have z13 : SizR w13 := z11.kx s13 (by omega)
  have h12 := k12.sz
  have h13 : w13.heap.size = w12.heap.size := by rw [e13]; simp
  clear e13
  refine ⟨(ns : Int), by rw [o13.rI (by omega), hns], (slnew_spec (n := ns) (by omega) w13).mono ?_⟩
  rintro _ w14 ⟨ps, sb, rfl, k14, Q, s1, s2⟩
  have o14 := o13.k k14
  have so14 := so13.k k14
  refine ⟨_, rfl, so14.wr (by simp [runI_len]), fun w15 e15 => ?_⟩
  have so15 := cset (i := 5) so14 e15
  have o15 := o14.n1 e15 hne
  have q15 : Kept (· = kb) w14 w15 := (Kept.refl _ _).s1 e15 (.inl rfl)
  have s15 : Kept (· = kb) w13 w15 := (k14.mono fun _ _ e => e.elim).trans q15 fun _ _ h => h
  have z15 : SizR w15 := z13.kx s15 (by omega)
  have h14 := k14.sz
  have h15 : w15.heap.size = w14.heap.size := by rw [e15]; simp
  clear e15
  refine ⟨(nn : Int), by rw [o15.rI (by omega), hnn], (clocks_new (n := nn) (by omega) w15).mono ?_⟩
  rintro _ w16 ⟨ack, cck, rfl, k16, Rck⟩
  have o16 := o15.k k16
  have so16 := so15.k k16
  refine ⟨_, _, _, rfl, so16.wr (by simp [runI_len]), fun w17 e17 => ?_⟩
  have so17 := cset (i := 6) so16 e17
  have o17 := o16.n1 e17 hne
  have q17 : Kept (· = kb) w16 w17 := (Kept.refl _ _).s1 e17 (.inl rfl)
  have s17 : Kept (· = kb) w15 w17 := (k16.mono fun _ _ e => e.elim).trans q17 fun _ _ h => h
  have z17 : SizR w17 := z15.kx s17 (by omega)
  have h16 := k16.sz
  have h17 : w17.heap.size = w16.heap.size := by rw [e17]; simp
  clear e17
  refine ⟨(nn : Int), by rw [o17.rI (by omega), hnn], (caches_new (n := nn) (by omega) z17).mono ?_⟩
  rintro _ w18 ⟨aca, cca, rfl, k18, Rca⟩
  have o18 := o17.k k18
  have so18 := so17.k k18
  refine ⟨_, _, _, rfl, so18.wr (by simp [runI_len]), fun w19 e19 => ?_⟩
  have so19 := cset (i := 7) so18 e19
  have o19 := o18.n1 e19 hne
  have q19 : Kept (· = kb) w18 w19 := (Kept.refl _ _).s1 e19 (.inl rfl)
  have s19 : Kept (· = kb) w17 w19 := (k18.mono fun _ _ e => e.elim).trans q19 fun _ _ h => h
  have z19 : SizR w19 := z17.kx s19 (by omega)
  have h18 := k18.sz
  have h19 : w19.heap.size = w18.heap.size := by rw [e19]; simp
  clear e19
  refine ⟨(nn : Int), by rw [o19.rI (by omega), hnn], (depots_new (n := nn) (w := w19) (by omega)).mono ?_⟩
  rintro _ w20 ⟨ade, cde, rfl, k20, Rde⟩
  have o20 := o19.k k20
  have so20 := so19.k k20
  refine ⟨_, _, _, rfl, so20.wr (by simp [runI_len]), fun w21 e21 => ?_⟩
  have so21 := cset (i := 8) so20 e21
  have o21 := o20.n1 e21 hne
  have q21 : Kept (· = kb) w20 w21 := (Kept.refl _ _).s1 e21 (.inl rfl)
  have s21 : Kept (· = kb) w19 w21 := (k20.mono fun _ _ e => e.elim).trans q21 fun _ _ h => h
  have z21 : SizR w21 := z19.kx s21 (by omega)
  have h20 := k20.sz
  have h21 : w21.heap.size = w20.heap.size := by rw [e21]; simp
  clear e21
  refine ⟨(nc : Int), by rw [o21.rI (by omega), hnc], (mags_new (n := nc) (w := w21) (by omega)).mono ?_⟩
  rintro _ w22 ⟨ama, cma, rfl, k22, Rma⟩
  have o22 := o21.k k22
  have so22 := so21.k k22
  refine ⟨_, _, _, rfl, so22.wr (by simp [runI_len]), fun w23 e23 => ?_⟩
  have so23 := cset (i := 9) so22 e23
  have o23 := o22.n1 e23 hne
  have q23 : Kept (· = kb) w22 w23 := (Kept.refl _ _).s1 e23 (.inl rfl)
  have s23 : Kept (· = kb) w21 w23 := (k22.mono fun _ _ e => e.elim).trans q23 fun _ _ h => h
  have z23 : SizR w23 := z21.kx s23 (by omega)
  have h22 := k22.sz
  have h23 : w23.heap.size = w22.heap.size := by rw [e23]; simp
  clear e23
  refine ⟨(nn : Int), by rw [o23.rI (by omega), hnn], (turns_new (n := nn) (by omega) w23).mono ?_⟩
  rintro _ w24 ⟨atu, ctu, rfl, k24, Rtu⟩
  have o24 := o23.k k24
  have so24 := so23.k k24
  refine ⟨_, _, _, rfl, so24.wr (by simp [runI_len]), fun w25 e25 => ?_⟩
  have so25 := cset (i := 10) so24 e25
  have o25 := o24.n1 e25 hne
  have q25 : Kept (· = kb) w24 w25 := (Kept.refl _ _).s1 e25 (.inl rfl)
  have s25 : Kept (· = kb) w23 w25 := (k24.mono fun _ _ e => e.elim).trans q25 fun _ _ h => h
  have z25 : SizR w25 := z23.kx s25 (by omega)
  have h24 := k24.sz
  have h25 : w25.heap.size = w24.heap.size := by rw [e25]; simp
  clear e25
  refine ⟨(nc : Int), by rw [o25.rI (by omega), hnc], Wif_yes (okm_of (by omega) (by omega) (by omega)) fun w26 e26 => ?_⟩
  have k26 : Kept none' w25 w26 := (Kept.refl _ _).al e26
  rw [Int.toNat_natCast] at e26
  have Rhe : RowA (fun _ => IntsA []) nc (.slice (some ⟨w25.heap.size, 0, none⟩) nc nc) (rng w25 w26) w26 := nilRow e26 fun j hj => ⟨⟨none, 0, 0, rfl, RowI.nil', fun x hx => by simp [Value.ownBlock] at hx⟩, fun x hx => hx.elim⟩
  clear e26
  have o26 := o25.k k26
  have so26 := so25.k k26
  refine ⟨so26.wr (by simp [runI_len]), fun w27 e27 => ?_⟩
  rw [Int.toNat_natCast] at e27
  have so27 := cset (i := 20) so26 e27
  have o27 := o26.n1 e27 hne
  have q27 : Kept (· = kb) w26 w27 := (Kept.refl _ _).s1 e27 (.inl rfl)
  have s27 : Kept (· = kb) w25 w27 := (k26.mono fun _ _ e => e.elim).trans q27 fun _ _ h => h
  have z27 : SizR w27 := z25.kx s27 (by omega)
  have h26 := k26.sz
  have h27 : w27.heap.size = w26.heap.size := by rw [e27]; simp
  clear e27
  refine ⟨(nc : Int), by rw [o27.rI (by omega), hnc], Wif_yes (okm_of (by omega) (by omega) (by omega)) fun w28 e28 => ?_⟩
  have k28 : Kept none' w27 w28 := (Kept.refl _ _).al e28
  rw [Int.toNat_natCast] at e28
  have Rfl : RowA (fun _ => NilA) nc (.slice (some ⟨w27.heap.size, 0, none⟩) nc nc) (rng w27 w28) w28 := nilRow e28 fun j hj => ⟨rfl, fun x hx => hx.elim⟩
  clear e28
  have o28 := o27.k k28
  have so28 := so27.k k28
  refine ⟨so28.wr (by simp [runI_len]), fun w29 e29 => ?_⟩
  rw [Int.toNat_natCast] at e29
  have so29 := cset (i := 21) so28 e29
  have o29 := o28.n1 e29 hne
  have q29 : Kept (· = kb) w28 w29 := (Kept.refl _ _).s1 e29 (.inl rfl)
  have s29 : Kept (· = kb) w27 w29 := (k28.mono fun _ _ e => e.elim).trans q29 fun _ _ h => h
  have z29 : SizR w29 := z27.kx s29 (by omega)
  have h28 := k28.sz
  have h29 : w29.heap.size = w28.heap.size := by rw [e29]; simp
  clear e29
  refine ⟨(nc : Int), by rw [o29.rI (by omega), hnc], (flight_new (n := nc) (by omega) w29).mono ?_⟩
  rintro _ w30 ⟨afi, cfi, rfl, k30, Rfi⟩
  have o30 := o29.k k30
  have so30 := so29.k k30
  refine ⟨_, _, _, rfl, so30.wr (by simp [runI_len]), fun w31 e31 => ?_⟩
  have so31 := cset (i := 22) so30 e31
  have o31 := o30.n1 e31 hne
  have q31 : Kept (· = kb) w30 w31 := (Kept.refl _ _).s1 e31 (.inl rfl)
  have s31 : Kept (· = kb) w29 w31 := (k30.mono fun _ _ e => e.elim).trans q31 fun _ _ h => h
  have z31 : SizR w31 := z29.kx s31 (by omega)
  have h30 := k30.sz
  have h31 : w31.heap.size = w30.heap.size := by rw [e31]; simp
  clear e31
  have t30 : Kept (· = kb) w30 w31 := q31
  have u29 : Kept (· = kb) w29 w31 := (k30.mono fun _ _ e => e.elim).trans t30 fun _ _ h => h
  have t28 : Kept (· = kb) w28 w31 := q29.trans u29 fun _ _ h => h
  have u27 : Kept (· = kb) w27 w31 := (k28.mono fun _ _ e => e.elim).trans t28 fun _ _ h => h
  have t26 : Kept (· = kb) w26 w31 := q27.trans u27 fun _ _ h => h
  have u25 : Kept (· = kb) w25 w31 := (k26.mono fun _ _ e => e.elim).trans t26 fun _ _ h => h
  have t24 : Kept (· = kb) w24 w31 := q25.trans u25 fun _ _ h => h
  have u23 : Kept (· = kb) w23 w31 := (k24.mono fun _ _ e => e.elim).trans t24 fun _ _ h => h
  have t22 : Kept (· = kb) w22 w31 := q23.trans u23 fun _ _ h => h
  have u21 : Kept (· = kb) w21 w31 := (k22.mono fun _ _ e => e.elim).trans t22 fun _ _ h => h
  have t20 : Kept (· = kb) w20 w31 := q21.trans u21 fun _ _ h => h
  have u19 : Kept (· = kb) w19 w31 := (k20.mono fun _ _ e => e.elim).trans t20 fun _ _ h => h
  have t18 : Kept (· = kb) w18 w31 := q19.trans u19 fun _ _ h => h
  have u17 : Kept (· = kb) w17 w31 := (k18.mono fun _ _ e => e.elim).trans t18 fun _ _ h => h
  have t16 : Kept (· = kb) w16 w31 := q17.trans u17 fun _ _ h => h
  have u15 : Kept (· = kb) w15 w31 := (k16.mono fun _ _ e => e.elim).trans t16 fun _ _ h => h
  have t14 : Kept (· = kb) w14 w31 := q15.trans u15 fun _ _ h => h
  have u13 : Kept (· = kb) w13 w31 := (k14.mono fun _ _ e => e.elim).trans t14 fun _ _ h => h
  have t12 : Kept (· = kb) w12 w31 := q13.trans u13 fun _ _ h => h
  have u11 : Kept (· = kb) w11 w31 := (k12.mono fun _ _ e => e.elim).trans t12 fun _ _ h => h
  have t10 : Kept (· = kb) w10 w31 := q11.trans u11 fun _ _ h => h
  have u9 : Kept (· = kb) w9 w31 := (k10.mono fun _ _ e => e.elim).trans t10 fun _ _ h => h
  have t8 : Kept (· = kb) w8 w31 := q9.trans u9 fun _ _ h => h
  have u7 : Kept (· = kb) w7 w31 := (k8.mono fun _ _ e => e.elim).trans t8 fun _ _ h => h
  have t6 : Kept (· = kb) w6 w31 := q7.trans u7 fun _ _ h => h
  have u5 : Kept (· = kb) w5 w31 := (k6.mono fun _ _ e => e.elim).trans t6 fun _ _ h => h
  have t4 : Kept (· = kb) w4 w31 := q5.trans u5 fun _ _ h => h
  have u3 : Kept (· = kb) w3 w31 := (k4.mono fun _ _ e => e.elim).trans t4 fun _ _ h => h
  refine ⟨(K3.mono fun _ _ e => e.elim).trans (X := fun x => False) u3 (fun x hx e => by omega), .inr ⟨hm, kb, ⟨c, pm, pz, pd, pl, pr, ps, .slice ack nn cck, .slice aca nn cca, .slice ade nn cde, .slice ama nc cma, .slice atu nn ctu, .slice (some ⟨w25.heap.size, 0, none⟩) nc nc, .slice (some ⟨w27.heap.size, 0, none⟩) nc nc, .slice afi nc cfi, fun _ => none, fun _ => 0, fun _ => mark0, Z, LL, fun _ => 0, fun _ => 0, fun _ => (0, 0), [], fun _ => (0, 0), fun _ => [], fun _ => [], fun _ => [], List.replicate nc (-1), fun _ => 0⟩,
    fun p x => match p with
      | .core => x = kb
      | .mem => rng w3 w4 x
      | .zones => rng w5 w6 x
      | .dev => rng w7 w8 x
      | .locks => rng w9 w10 x
      | .rmap => rng w11 w12 x
      | .slots => rng w13 w14 x
      | .clocks => rng w15 w16 x
      | .caches => rng w17 w18 x
      | .depots => rng w19 w20 x
      | .mags => rng w21 w22 x
      | .turns => rng w23 w24 x
      | .held => rng w25 w26 x
      | .flying => rng w27 w28 x
      | .flight => rng w29 w30 x
      | .space _ => False, rfl, ⟨?_, ?_, hm, ?_⟩, rfl, ⟨rfl, rfl, hZg, rfl, rfl, rfl, rfl, rfl, rfl, rfl, rfl, by unfold Mach.cpus; rw [ec], rfl⟩, ?_⟩⟩
  · intro p q x h1 h2
    cases p <;> cases q <;> first | rfl | exact h1.elim | exact h2.elim | (simp only [rng] at h1 h2; omega)
  · intro p x h1
    cases p <;> first | exact h1.elim | (simp only [rng] at h1; omega)
  · intro p
    cases p with
    | core => exact ⟨so31, rfl⟩
    | mem => exact PAt.kx (p := .mem) (w := w4) (⟨bb, mb, by rw [← en] at *; exact M, ⟨f1, M.so.lt⟩, ⟨f2, M.bs.lt⟩, ⟨f3, M.ms.lt⟩⟩) t4 fun x e h => by simp only [rng] at h; omega
    | zones => exact PAt.kx (p := .zones) (w := w6) (⟨hZ, fun x hx => ⟨hZf x hx, hZ.lt hx⟩, hZc⟩) t6 fun x e h => by simp only [rng] at h; omega
    | dev => exact PAt.kx (p := .dev) (w := w8) (⟨db, by unfold Mach.slots; rw [es]; exact D, ⟨d1, D.so.lt⟩, ⟨d2, D.bs.lt⟩⟩) t8 fun x e h => by simp only [rng] at h; omega
    | locks => exact PAt.kx (p := .locks) (w := w10) (⟨by unfold Mach.nodes; rw [en]; exact K, ⟨l1, own.lt K⟩⟩) t10 fun x e h => by simp only [rng] at h; omega
    | rmap => exact PAt.kx (p := .rmap) (w := w12) (⟨rb, rm, R, ⟨r1, R.so.lt⟩, ⟨r2, R.fs.lt⟩, ⟨r3, R.mp.lt⟩⟩) t12 fun x e h => by simp only [rng] at h; omega
    | slots => exact PAt.kx (p := .slots) (w := w14) (⟨sb, by unfold Mach.slots; rw [es]; exact Q, ⟨s1, Q.so.lt⟩, ⟨s2, Q.fs.lt⟩⟩) t14 fun x e h => by simp only [rng] at h; omega
    | clocks => exact PAt.kx (p := .clocks) (w := w16) (by show RowA _ (Mach.nodes _) _ _ _; unfold Mach.nodes; rw [en]; exact Rck) t16 fun x e h => by simp only [rng] at h; omega
    | caches => exact PAt.kx (p := .caches) (w := w18) (by show RowA _ (Mach.nodes _) _ _ _; unfold Mach.nodes; rw [en]; exact Rca) t18 fun x e h => by simp only [rng] at h; omega
    | depots => exact PAt.kx (p := .depots) (w := w20) (by show RowA _ (Mach.nodes _) _ _ _; unfold Mach.nodes; rw [en]; exact Rde) t20 fun x e h => by simp only [rng] at h; omega
    | turns => exact PAt.kx (p := .turns) (w := w24) (by show RowA _ (Mach.nodes _) _ _ _; unfold Mach.nodes; rw [en]; exact Rtu) t24 fun x e h => by simp only [rng] at h; omega
    | mags => exact PAt.kx (p := .mags) (w := w22) (by show RowA _ (Mach.cpus _) _ _ _; unfold Mach.cpus; rw [ec]; exact Rma) t22 fun x e h => by simp only [rng] at h; omega
    | held => exact PAt.kx (p := .held) (w := w26) (by show RowA _ (Mach.cpus _) _ _ _; unfold Mach.cpus; rw [ec]; exact Rhe) t26 fun x e h => by simp only [rng] at h; omega
    | flying => exact PAt.kx (p := .flying) (w := w28) (by show RowA _ (Mach.cpus _) _ _ _; unfold Mach.cpus; rw [ec]; exact Rfl) t28 fun x e h => by simp only [rng] at h; omega
    | flight => exact PAt.kx (p := .flight) (w := w30) (⟨⟨_, _, _, rfl, Rfi.weak (Nat.zero_le _), fun x hx => ⟨(Rfi.lt hx).1, (Rfi.lt hx).2⟩⟩, fun x hx => hx.2⟩) t30 fun x e h => by simp only [rng] at h; omega
    | space i => exact fun b hb => by cases hb
  · intro p x h1
    cases p <;> first | exact h1.elim | (simp only [rng] at h1; omega)
theorem at_slR {α : Type} {R : Rd α} {s : Nat} {w : World} {base T n : Nat} {a : Option Addr} {l c : Nat} {vs : List Value} {xs : List α} {F : Nat → Prop} (row : w.ownsRow base T s (.slice a l c) n vs) (hl : n = xs.length) (hF : ∀ x, F x → x < w.heap.size)
    (hel : ∀ (i : Nat) x, xs[i]? = some x → ∃ cs : List Value, cs.length = s ∧ (∀ (j : Nat) u, cs[j]? = some u → vs[i * s + j]? = some u) ∧ ∀ w', Kept (fun b => ¬ F b) w w' → R w' cs x) :
    At (fun x => (Value.slice a l c).ownBlock = some x ∨ F x) (fun W => SlR R s W a l c xs) w := by
  refine ⟨fun x hx => hx.elim (fun h => (row.lt x h).2) (hF x), fun w' k => ?_⟩
  have row' := ownsRow_kx row k fun b _ _ e hb => hb (.inl e)
  have kF : Kept (fun b => ¬ F b) w w' := k.mono fun b _ hb hf => hb (.inr hf)
  rcases row'.2 with ⟨h0, h1⟩ | ⟨g, cap, cur, h0, hb, hgg, hnc, hm, hsz, htk⟩
  · have : xs = [] := List.length_eq_zero_iff.1 (by omega)
    subst this
    cases h0
    exact SlR.nil'
  · cases h0
    subst hl
    refine ⟨rfl, fun _ => rfl, fun h => (by cases h), hnc, hm, fun i x hx => ?_, fun o ho => ?_⟩
    rotate_left
    · have h6 : o < cur.size := by rw [hsz]; exact Nat.lt_of_lt_of_le ho (Nat.mul_le_mul_right _ hnc)
      refine ⟨⟨cur[o], ?_⟩, by simp [World.frozen?, hgg]⟩
      show rd w' g (0 + o) = _
      rw [Nat.zero_add, rd_def, hgg]
      simp [h6]
    obtain ⟨cs, g1, g2, g3⟩ := hel i x hx
    refine ⟨cs, g1, g3 _ kF, fun j u hu => ?_⟩
    have h4 := g2 j u hu
    have h5 : (cur.toList.take (xs.length * s))[i * s + j]? = some u := by rw [htk]; exact h4
    rw [List.getElem?_take] at h5
    split at h5
    · show rd w' g (0 + i * s + j) = _
      rw [Nat.zero_add, rd_def, hgg]
      rw [Array.getElem?_toList] at h5
      exact h5
    · cases h5
theorem flat_get {α : Type} {f : α → List Value} {s : Nat} (h : ∀ x, (f x).length = s) : ∀ {xs : List α} {i : Nat} {x : α}, xs[i]? = some x → ∀ {j : Nat} {u : Value}, (f x)[j]? = some u → (xs.flatMap f)[i * s + j]? = some u
  | [], i, x, hx, j, u, hu => by simp at hx
  | y :: ys, 0, x, hx, j, u, hu => by
    simp at hx
    subst hx
    rw [List.flatMap_cons, Nat.zero_mul, Nat.zero_add, List.getElem?_append_left (List.getElem?_eq_some_iff.1 hu).1]
    exact hu
  | y :: ys, i + 1, x, hx, j, u, hu => by
    rw [List.flatMap_cons, List.getElem?_append_right (by rw [h, Nat.succ_mul]; omega), h, Nat.succ_mul, show i * s + s + j - s = i * s + j by omega]
    exact flat_get h (by simpa using hx) hu
theorem at_flat {α : Type} {f : α → List Value} {s : Nat} (h : ∀ x, (f x).length = s) {w : World} {base T : Nat} {a : Option Addr} {l c n : Nat} {xs : List α} (row : w.ownsRow base T s (.slice a l c) n (xs.flatMap f)) (hn : n = xs.length) :
    At (fun x => (Value.slice a l c).ownBlock = some x) (fun W => SlR (fun _ cs x => cs = f x) s W a l c xs) w :=
  (at_slR (F := fun _ => False) row hn (fun _ h => h.elim) fun i x hx => ⟨f x, h x, fun j u hu => flat_get h hx hu, fun _ _ => rfl⟩).mono (fun x hx => hx.resolve_right id) fun x hx => (row.lt x hx).2
theorem st5 {w w' : World} {b : Nat} {cs : List Value} {v0 v1 v2 v3 v4 : Value} (h : own w b cs) (hl : cs.length = 5) (e : w' = st (st (st (st (st w b 0 v0) b 1 v1) b 2 v2) b 3 v3) b 4 v4) : own w' b [v0, v1, v2, v3, v4] ∧ Kept (· = b) w w' := by
  subst e
  match cs, hl with
  | [a, c, d, f, g], _ =>
    exact ⟨h.st_same.st_same.st_same.st_same.st_same, ((((Kept.refl (· = b) w).st (.inl rfl)).st (.inl rfl)).st (.inl rfl) |>.st (.inl rfl)).st (.inl rfl)⟩
theorem wr5 {w : World} {b : Nat} {cs : List Value} (h : own w b cs) (hl : cs.length = 5) : wr w b 0 ∧ wr w b 1 ∧ wr w b 2 ∧ wr w b 3 ∧ wr w b 4 := ⟨h.wr (by omega), h.wr (by omega), h.wr (by omega), h.wr (by omega), h.wr (by omega)⟩
theorem rd5 {w : World} {b : Nat} {v0 v1 v2 v3 v4 : Value} (h : own w b [v0, v1, v2, v3, v4]) : rd w b 0 = some v0 ∧ rd w b 1 = some v1 ∧ rd w b 2 = some v2 ∧ rd w b 3 = some v3 ∧ rd w b 4 = some v4 := ⟨by rw [h.rd]; rfl, by rw [h.rd]; rfl, by rw [h.rd]; rfl, by rw [h.rd]; rfl, by rw [h.rd]; rfl⟩
theorem st2 {w w' : World} {b : Nat} {cs : List Value} {v0 v1 : Value} (h : own w b cs) (hl : cs.length = 2) (e : w' = st (st w b 0 v0) b 1 v1) : own w' b [v0, v1] ∧ Kept (· = b) w w' := by
  subst e
  match cs, hl with
  | [a, c], _ => exact ⟨h.st_same.st_same, ((Kept.refl (· = b) w).st (.inl rfl)).st (.inl rfl)⟩
theorem own_row {w : World} {b : Nat} {s n : Nat} {f : Nat → List Value} (h : own w b (rowL n f)) (hf : ∀ i, i < n → (f i).length = s) {i j : Nat} (hi : i < n) (hj : j < s) {v : Value} (hv : (f i)[j]? = some v) : rd w b (i * s + j) = some v := by
  rw [h.rd, rowL_get hf hi hj, hv]
section
variable {w : World} {m bb mb : Nat} {c : Nat → Int} {n : Nat} {by' : Nat → Int} {mk : Nat → Mark}
theorem MemAt.k {w' : World} (h : MemAt w m bb mb c n by' mk) (k : Kept none' w w') : MemAt w' m bb mb c n by' mk := ⟨h.so.k k, h.bs.k k, h.ms.k k, h.ne⟩
theorem MemAt.r95 (h : MemAt w m bb mb c n by' mk) : rd w m 95 = some (.slice (some ⟨mb, 0, none⟩) n n) := by
  rw [h.so.rd, List.getElem?_append_right (by rw [runI_len]; omega), runI_len]
  rfl
theorem MemAt.r94 (h : MemAt w m bb mb c n by' mk) : rd w m 94 = some (.slice (some ⟨bb, 0, none⟩) (n * 256) (n * 256)) := by
  rw [h.so.rd, List.getElem?_append_right (by rw [runI_len]; omega), runI_len]
  rfl
theorem MemAt.rm (h : MemAt w m bb mb c n by' mk) {i : Nat} (hi : i < n) : rd w mb (0 + i * 5) = some (.int .u8 (mk i).role) ∧ rd w mb (0 + i * 5 + 1) = some (vi (mk i).order) ∧ rd w mb (0 + i * 5 + 2) = some (vi (mk i).owner) ∧ rd w mb (0 + i * 5 + 3) = some (vi (mk i).page) ∧ rd w mb (0 + i * 5 + 4) = some (vi (mk i).index) := by
  have hf : ∀ i, i < n → (markV (mk i)).length = 5 := fun _ _ => rfl
  rw [Nat.zero_add]
  exact ⟨own_row h.ms hf hi (j := 0) (by omega) rfl, own_row h.ms hf hi (j := 1) (by omega) rfl, own_row h.ms hf hi (j := 2) (by omega) rfl, own_row h.ms hf hi (j := 3) (by omega) rfl, own_row h.ms hf hi (j := 4) (by omega) rfl⟩
theorem mark_spec (h : MemAt w m bb mb c n by' mk) {i : Nat} (hi : i < n) : Calls Tryz.prog 64 #[ptr m, vi i] w fun e w' => e = .returned (.tuple #[.agg (markV (mk i)).toArray, vi 0]) ∧ Kept none' w w' := by
  refine (vc64 _ i w (fun v w' => v = .tuple #[.agg (markV (mk i)).toArray, vi 0] ∧ Kept none' w w') ?_).mono ?_
  rotate_left
  · rintro e w' ⟨v, rfl, rfl, hk⟩
    exact ⟨rfl, hk⟩
  unfold vcP64
  intro w1 e1
  have o1 := own_alloc (c := [Value.int IntKind.u8 0, Value.int IntKind.i64 0, Value.int IntKind.i64 0, Value.int IntKind.i64 0, Value.int IntKind.i64 0]) e1
  have k1 : Kept none' w w1 := (Kept.refl _ _).al e1
  have h1 := h.k k1
  have h95 : rd w1 m (0 + 95) = some (.slice (some ⟨mb, 0, none⟩) n n) := by rw [Nat.zero_add]; exact h1.r95
  have hlt : (decide ((i : Int) < 0) || decide ((i : Int) ≥ (n : Int))) = false := by simp; omega
  refine ⟨_, _, _, fun _ => h95, Wif_no rfl ⟨_, _, _, fun _ => h95, Wif_no hlt (Wif_yes rfl ⟨_, _, _, h95, Wif_yes rfl (Wif_yes (inB_of (by omega) (by omega)) ?_)⟩)⟩⟩
  refine ⟨_, _, _, _, _, by rw [Int.toNat_natCast]; exact h1.rm hi, wr5 o1 rfl, fun w2 e2 => ?_⟩
  obtain ⟨o2, k2⟩ := st5 o1 rfl e2
  exact ⟨_, _, _, _, _, rd5 o2, rfl, own0 k1 k2 fun x e => by omega⟩
end
theorem marks_pic {w : World} {k kb : Nat} {S : Mach} {fp : Prt → Nat → Prop} (h : CoreAt w k S fp) (hk : rd w kb 0 = some (ptr k)) :
    Calls Tryz.prog 62 #[vi S.n, .func (.func 63) #[] #[ptr kb]] w fun e w' => ∃ a l c, e = .returned (.slice a l c) ∧ Kept none' w w' ∧ At (rng w w') (fun W => SlR RMark 5 W a l c ((List.range S.n).map S.mks)) w' := by
  have h4 := h.n4
  refine (sev62 (n := S.n) (w0 := w) (J := fun F i vs w => vs = ((List.range i).map S.mks).flatMap markV) (by omega) ⟨fun F i vs w w' X h _ _ => h, fun F i vs w1 hi hv k1 hF => CallsV.mk _ #[] #[_] rfl (by kernel_rfl) ?_⟩ rfl).mono ?_
  · obtain ⟨bb, mb, M, _⟩ := (h.k k1).at' .mem
    refine (vc63 i (some ⟨kb, 0, none⟩) w1 (fun v w' => v = .agg (markV (S.mks i)).toArray ∧ Kept none' w1 w') ?_).mono ?_
    · unfold vcP63
      intro w2 e2
      have o2 := own_alloc (c := [Value.int IntKind.u8 0, Value.int IntKind.i64 0, Value.int IntKind.i64 0, Value.int IntKind.i64 0, Value.int IntKind.i64 0]) e2
      have k2 : Kept none' w1 w2 := (Kept.refl _ _).al e2
      have C2 := (h.k k1).k k2
      refine Wif_yes rfl ⟨_, (k1.tr k2).rd_some hk id, Wif_yes rfl ⟨_, by show rd w2 k (0 + 94) = _; rw [Nat.zero_add]; exact C2.rt (j := 0) rfl, (mark_spec (M.k k2) hi).mono ?_⟩⟩
      rintro _ w3 ⟨rfl, k3⟩
      have o3 := o2.k k3
      refine ⟨_, _, _, _, _, _, rfl, fun w4 e4 => ?_⟩
      have o4 := own_alloc (c := [Value.int IntKind.u8 0, Value.int IntKind.i64 0, Value.int IntKind.i64 0, Value.int IntKind.i64 0, Value.int IntKind.i64 0]) e4
      have k4 : Kept none' w3 w4 := (Kept.refl _ _).al e4
      refine ⟨wr5 o4 rfl, fun w5 e5 => ?_⟩
      obtain ⟨o5, k5⟩ := st5 o4 rfl e5
      have hne : w1.heap.size ≠ w3.heap.size := Nat.ne_of_lt o3.lt
      have o53 := (o3.k k4).kx k5 hne
      refine ⟨_, _, _, _, _, rd5 o5, wr5 o53 rfl, fun w6 e6 => ?_⟩
      obtain ⟨o6, k6⟩ := st5 o53 rfl e6
      refine ⟨_, _, _, _, _, rd5 o6, rfl, own0 (own0 ((k2.tr k3).tr k4) k5 fun x e => ?_) k6 fun x e => Nat.le_of_eq e.symm⟩
      have := o3.lt
      omega
    · rintro e w' ⟨v, rfl, rfl, k⟩
      refine ⟨markV (S.mks i), ⟨_, _, _, _, _, rfl, rfl⟩, rfl, fun u hu => ?_, k, ?_⟩
      · simp [markV] at hu
        rcases hu with rfl | rfl | rfl | rfl | rfl <;> rfl
      · rw [hv, List.range_succ, List.map_append, List.flatMap_append]
        simp
  · rintro e w' ⟨a, c, F, vs, rfl, kk, row, rfl, _, _⟩
    refine ⟨a, _, c, rfl, kk, ?_⟩
    exact (at_flat (f := markV) (fun _ => rfl) row (by simp)).mono (fun x hx => row.lt x hx) fun x hx => hx.2
def ToldA {α : Type} (R : Rd α) (x : α) : Thing := fun u H w => At H (fun W => R W [u] x) w
theorem ToldA.stb {α : Type} {R : Rd α} {x : α} : Stb (ToldA R x) where
  kx v H w w' X h k hx := At.kx h k fun y e hy => hx y e hy
  lt v H w h := h.lt
theorem pics_row {α : Type} {R : Rd α} {xs : Nat → α} {T n : Nat} {w w' : World} {a : Option Addr} {c : Nat} {F : Nat → Prop} {vs : List Value} (row : w'.ownsRow w.heap.size T 1 (.slice a n c) n vs) (hj : n ≤ n ∧ JRow (fun j => ToldA R (xs j)) F n vs w') (hF : ∀ x, F x → w.heap.size ≤ x ∧ x < w'.heap.size) :
    At (rng w w') (fun W => SlR R 1 W a n c ((List.range n).map xs)) w' := by
  obtain ⟨_, u, H, rfl, h2, h3, _⟩ := hj
  refine (at_slR (F := F) row (by simp) (fun x hx => (hF x hx).2) fun i x hx => ?_).mono (fun x hx => hx.elim (fun e => row.lt x e) (hF x)) fun x hx => hx.2
  have hi : i < n := by simpa using (List.getElem?_eq_some_iff.1 hx).1
  simp [hi] at hx
  subst hx
  refine ⟨[u i], rfl, fun j v hv => ?_, fun w'' k => (h2 i hi).go w'' (k.mono fun b _ hb hH => hb (h3 i hi b hH))⟩
  have hj : j = 0 := by have := (List.getElem?_eq_some_iff.1 hv).1; simp at this; omega
  subst hj
  simp at hv
  simp [hi, hv]
theorem row0 {w w' : World} {t : TypeId} {s : Nat} (e : w' = w.alloc (.cells #[] t)) : w'.ownsRow w.heap.size t s (.slice (some ⟨w.heap.size, 0, none⟩) 0 0) 0 [] := by
  refine ⟨by simp, .inr ⟨_, 0, #[], rfl, Nat.le_refl _, ?_, by decide, by decide, by simp, by simp⟩⟩
  rw [e]
  simp only [World.alloc]
  simp
theorem map_flat : ∀ xs : List Int, xs.map vi = xs.flatMap fun x => [vi x]
  | [] => rfl
  | x :: xs => by rw [List.map_cons, List.flatMap_cons, map_flat xs]; rfl
theorem RowI.at {w : World} {base : Nat} {a : Option Addr} {l c : Nat} {xs : List Int} (h : RowI w base a l c xs) : At (fun x => (Value.slice a l c).ownBlock = some x) (fun W => SlR RInt 1 W a l c xs) w := by
  have row := h.2
  rw [map_flat] at row
  exact at_flat (f := fun x => [vi x]) (fun _ => rfl) row h.1
theorem clone_ints {w : World} {base : Nat} {a : Option Addr} {l c : Nat} {xs : List Int} (h : RowI w base a l c xs) (hl : xs.length ≤ 1000000) :
    Calls Tryz.prog 69 #[.slice a l c] w fun e w' => ∃ a' c', e = .returned (.slice a' xs.length c') ∧ Kept none' w w' ∧ RowI w' w.heap.size a' xs.length c' xs := by
  refine (vc69 a l c w (fun v w' => ∃ a' c', v = (.slice a' xs.length c') ∧ Kept none' w w' ∧ RowI w' w.heap.size a' xs.length c' xs) ?_).mono ?_
  rotate_left
  · rintro e w' ⟨v, rfl, a', c', rfl, h⟩
    exact ⟨a', c', rfl, h⟩
  unfold vcP69
  refine Wif_intro (fun hn => ?_) (fun hn => fun w1 e1 => ?_)
  · have : a = none := by simpa using hn
    subst this
    obtain ⟨hx, row⟩ := h
    have h0 : xs = [] := by
      rcases row.2 with ⟨_, h1⟩ | ⟨g, cap, cur, h0, _⟩
      · exact List.length_eq_zero_iff.1 (by omega)
      · cases h0
    subst h0
    exact ⟨none, 0, rfl, Kept.refl _ _, RowI.nil'⟩
  · have k1 : Kept none' w w1 := (Kept.refl _ _).al e1
    have r1 : w1.ownsRow w.heap.size 3 1 _ 0 [] := row0 e1
    have h1 := h.k k1
    have hsrc : Eng.Src w1 a l c (xs.map vi) := Eng.Src.of_row h1.2
    cases hi : Tryz.prog.info? 3 with
    | none => have : (Tryz.prog.info? 3).isSome = true := by kernel_rfl
              rw [hi] at this; cases this
    | some i =>
      have hinf := info_int
      rw [hi] at hinf
      simp at hinf
      obtain ⟨a', c', w2, happ, row, k2⟩ := Eng.app (P := Tryz.prog) (t := 51) (ty := 51) (e := 3) (i := i) (z := .int .i64 0) (size := 1) Tryz.underlying51 hi hinf.1 hinf.2.1 rfl (by decide) r1 hsrc (by simp [h.1]) (fun u hu => by
        obtain ⟨x, _, rfl⟩ := List.mem_map.1 hu
        rfl) (by rw [h.1]; omega) (by omega) k1.sz
      rw [Nat.zero_add, h.1] at happ row
      rw [h.1]
      refine ⟨a', _, c', w2, happ, a', c', rfl, own0 k1 k2 fun x e => ?_, rfl, by simpa using row⟩
      have := (r1.lt x e).1
      exact this
section
variable {w : World} {k kb : Nat} {S : Mach} {fp : Prt → Nat → Prop}
theorem held_pic (h : CoreAt w k S fp) (hk : rd w kb 0 = some (ptr k)) (hl : ∀ i, i < S.cpus → (S.held i).length ≤ 1000000) :
    Calls Tryz.prog 67 #[vi (S.c 1), .func (.func 68) #[] #[ptr kb]] w fun e w' => ∃ a l c, e = .returned (.slice a l c) ∧ Kept none' w w' ∧ At (rng w w') (fun W => SlR (RL RInt 1) 1 W a l c ((List.range S.cpus).map S.held)) w' := by
  have hs := h.sizes
  rw [← hs.2.1.2.2]
  refine (sev67 (n := S.cpus) (w0 := w) (by omega) (makes_row (A := fun j => ToldA (RL RInt 1) (S.held j)) (fun _ _ => ToldA.stb) fun i w1 hi k1 => CallsV.mk _ #[] #[_] rfl (by kernel_rfl) ?_) jrow0).mono ?_
  · have C1 := h.k k1
    have hh : RowA (fun i => IntsA (S.held i)) S.cpus S.vhe (fp .held) w1 := C1.at' .held
    obtain ⟨g, cp, u, H, hv, hr, hA, _, _⟩ := hh.one (B := fun i => IntsA (S.held i)) (w' := w1) (fun _ _ => IntsA.stb) hi fun _ _ => rfl
    obtain ⟨a, l, c, rfl, hR, _⟩ := hA.ex
    refine (vc68 i (some ⟨kb, 0, none⟩) w1 (fun v w' => ∃ a' c', v = (.slice a' (S.held i).length c') ∧ Kept none' w1 w' ∧ RowI w' w1.heap.size a' (S.held i).length c' (S.held i)) ?_).mono ?_
    · unfold vcP68
      refine Wif_yes rfl ⟨_, k1.rd_some hk id, Wif_yes rfl ⟨some ⟨g, 0, none⟩, S.cpus, cp, ?_, Wif_yes rfl (Wif_yes (inB_of (by omega) (by omega)) ⟨a, l, c, ?_, (clone_ints hR (hl i hi)).mono ?_⟩)⟩⟩
      · have := C1.rt (j := 20) (v := S.vhe) rfl
        rw [hv] at this
        show rd w1 k (0 + 114) = _
        rw [Nat.zero_add]
        exact this
      · rw [Int.toNat_natCast, Nat.mul_one]
        show rd w1 g (0 + i) = _
        rw [Nat.zero_add]
        exact hr
      · rintro _ w2 ⟨a', c', rfl, k2, R2⟩
        exact ⟨a', _, c', rfl, a', c', rfl, k2, R2⟩
    · rintro e w' ⟨v, rfl, a', c', rfl, k2, R2⟩
      exact ⟨_, _, ⟨_, _, _, rfl, rfl⟩, rfl, k2, R2.at.imp fun W hW => ⟨a', _, c', rfl, hW⟩, fun x hx => (R2.lt hx).1⟩
  · rintro e w' ⟨a, c, F, vs, rfl, kk, row, hj, hF, _⟩
    exact ⟨a, _, c, rfl, kk, pics_row row hj hF⟩
theorem flying_pic (h : CoreAt w k S fp) (hk : rd w kb 0 = some (ptr k)) :
    Calls Tryz.prog 70 #[vi (S.c 1), .func (.func 71) #[] #[ptr kb]] w fun e w' => ∃ a l c, e = .returned (.slice a l c) ∧ Kept none' w w' ∧ At (rng w w') (fun W => SlR (RL RPair 2) 1 W a l c ((List.range S.cpus).map fun _ => [])) w' := by
  have hs := h.sizes
  rw [← hs.2.1.2.2]
  refine (sev70 (n := S.cpus) (w0 := w) (by omega) (makes_row (A := fun j => ToldA (RL RPair 2) []) (fun _ _ => ToldA.stb) fun i w1 hi k1 => CallsV.mk _ #[] #[_] rfl (by kernel_rfl) ?_) jrow0).mono ?_
  · have C1 := h.k k1
    have hh : RowA (fun i => NilA) S.cpus S.vfl (fp .flying) w1 := C1.at' .flying
    obtain ⟨g, cp, u, H, hv, hr, hA, _, _⟩ := hh.one (B := fun i => NilA) (w' := w1) (fun _ _ => NilA.stb) hi fun _ _ => rfl
    obtain ⟨rfl, _⟩ := hA
    refine (vc71 i (some ⟨kb, 0, none⟩) w1 (fun v w' => v = .slice none 0 0 ∧ w' = w1) ?_).mono ?_
    · unfold vcP71
      refine Wif_yes rfl ⟨_, k1.rd_some hk id, Wif_yes rfl ⟨some ⟨g, 0, none⟩, S.cpus, cp, ?_, Wif_yes rfl (Wif_yes (inB_of (by omega) (by omega)) ⟨none, 0, 0, ?_, (vc72 none 0 0 w1 (fun v w' => v = .slice none 0 0 ∧ w' = w1) ?_).mono ?_⟩)⟩⟩
      · have := C1.rt (j := 21) (v := S.vfl) rfl
        rw [hv] at this
        show rd w1 k (0 + 115) = _
        rw [Nat.zero_add]
        exact this
      · rw [Int.toNat_natCast, Nat.mul_one]
        show rd w1 g (0 + i) = _
        rw [Nat.zero_add]
        exact hr
      · unfold vcP72
        exact Wif_yes rfl ⟨rfl, rfl⟩
      · rintro _ w2 ⟨v, rfl, rfl, rfl⟩
        exact ⟨none, 0, 0, rfl, rfl, rfl⟩
    · rintro e w' ⟨v, rfl, rfl, rfl⟩
      exact ⟨_, fun _ => False, ⟨_, _, _, rfl, rfl⟩, rfl, Kept.refl _ _, ⟨fun x hx => hx.elim, fun W hW => ⟨none, 0, 0, rfl, SlR.nil'⟩⟩, fun x hx => hx.elim⟩
  · rintro e w' ⟨a, c, F, vs, rfl, kk, row, hj, hF, _⟩
    exact ⟨a, _, c, rfl, kk, pics_row row hj hF⟩
theorem rget_spec {r fb mb n : Nat} {of : Nat → Int × Int} {at' : List ((Int × Int) × Value)} (h : RmapAt w r fb mb n of at') {i : Nat} (hi : i < n) :
    Calls Tryz.prog 74 #[ptr r, vi i] w fun e w' => e = .returned (.tuple #[vi (of i).1, vi (of i).2, .bool ((of i).1 != 0)]) ∧ Kept none' w w' := by
  refine (vc74 _ i w (fun v w' => v = .tuple #[vi (of i).1, vi (of i).2, .bool ((of i).1 != 0)] ∧ Kept none' w w') ?_).mono ?_
  rotate_left
  · rintro e w' ⟨v, rfl, rfl, hk⟩
    exact ⟨rfl, hk⟩
  unfold vcP74
  have h1 : rd w r (0 + 1) = some (.map (some mb)) := by rw [h.so.rd]; rfl
  have h0 : rd w r 0 = some (.slice (some ⟨fb, 0, none⟩) n n) := by rw [h.so.rd]; rfl
  have hlt : (decide ((i : Int) < 0) || decide ((i : Int) ≥ (n : Int))) = false := by simp; omega
  have hf : ∀ i, i < n → (pairV (of i)).length = 2 := fun _ _ => rfl
  have r0 : rd w fb (0 + i * 2) = some (vi (of i).1) := by rw [Nat.zero_add]; exact own_row h.fs hf hi (j := 0) (by omega) rfl
  have r1 : rd w fb (0 + i * 2 + 1) = some (vi (of i).2) := by rw [Nat.zero_add]; exact own_row h.fs hf hi (j := 1) (by omega) rfl
  refine ⟨_, fun _ => h1, Wif_no rfl ⟨_, _, _, fun _ => h0, Wif_no hlt (Wif_yes rfl ⟨_, _, _, h0, Wif_yes rfl (Wif_yes (inB_of (by omega) (by omega)) ⟨_, _, by rw [Int.toNat_natCast]; exact ⟨r0, r1⟩, fun w1 e1 => ?_⟩)⟩)⟩⟩
  have o1 := own_alloc (c := [Value.int IntKind.i64 0, Value.int IntKind.i64 0]) e1
  have k1 : Kept none' w w1 := (Kept.refl _ _).al e1
  refine ⟨⟨o1.wr (by simp), o1.wr (by simp)⟩, fun w2 e2 w3 e3 => ?_⟩
  obtain ⟨o2, k2⟩ := st2 o1 rfl e2
  have o3 := o2.dr e3
  exact ⟨_, by rw [o3.rd]; rfl, _, by rw [o3.rd]; rfl, _, by rw [o3.rd]; rfl, rfl, (own0 k1 k2 fun x e => Nat.le_of_eq e.symm).dr e3⟩
theorem owner_spec {s fb n : Nat} {of : Nat → Int × Int} (h : SlotsAt w s fb n of) {i : Nat} (hi : i < n) :
    Calls Tryz.prog 78 #[ptr s, vi i] w fun e w' => e = .returned (.tuple #[vi (of i).1, vi (of i).2, .bool ((of i).1 != 0)]) ∧ Kept none' w w' := by
  refine (vc78 _ i w (fun v w' => v = .tuple #[vi (of i).1, vi (of i).2, .bool ((of i).1 != 0)] ∧ Kept none' w w') ?_).mono ?_
  rotate_left
  · rintro e w' ⟨v, rfl, rfl, hk⟩
    exact ⟨rfl, hk⟩
  unfold vcP78
  have h0 : rd w s 0 = some (.slice (some ⟨fb, 0, none⟩) n n) := by rw [h.so.rd]; rfl
  have hf : ∀ i, i < n → (pairV (of i)).length = 2 := fun _ _ => rfl
  have r0 : rd w fb (0 + i * 2) = some (vi (of i).1) := by rw [Nat.zero_add]; exact own_row h.fs hf hi (j := 0) (by omega) rfl
  have r1 : rd w fb (0 + i * 2 + 1) = some (vi (of i).2) := by rw [Nat.zero_add]; exact own_row h.fs hf hi (j := 1) (by omega) rfl
  refine Wif_no (by simp) (Wif_no rfl (Wif_yes rfl ⟨_, _, _, h0, Wif_no (by simp; omega) (Wif_yes rfl ⟨_, _, _, h0, Wif_yes rfl (Wif_yes (inB_of (by omega) (by omega)) ⟨_, _, by rw [Int.toNat_natCast]; exact ⟨r0, r1⟩, fun w1 e1 => ?_⟩)⟩)⟩))
  have o1 := own_alloc (c := [Value.int IntKind.i64 0, Value.int IntKind.i64 0]) e1
  have k1 : Kept none' w w1 := (Kept.refl _ _).al e1
  refine ⟨⟨o1.wr (by simp), o1.wr (by simp)⟩, fun w2 e2 w3 e3 => ?_⟩
  obtain ⟨o2, k2⟩ := st2 o1 rfl e2
  have o3 := o2.dr e3
  exact ⟨_, by rw [o3.rd]; rfl, _, by rw [o3.rd]; rfl, _, by rw [o3.rd]; rfl, rfl, (own0 k1 k2 fun x e => Nat.le_of_eq e.symm).dr e3⟩
theorem nlocks_spec {l n : Nat} {f : Nat → Int} (h : LocksAt w l n f) : Calls Tryz.prog 88 #[ptr l] w fun e w' => e = .returned (vi n) ∧ w' = w := by
  have hr : rd w l 0 = some (vi n) := by rw [own.rd h]; rfl
  refine (vc88 _ w (fun v w' => v = vi n ∧ w' = w) ?_).mono ?_
  · unfold vcP88
    exact Wif_no rfl (Wif_yes rfl ⟨_, hr, rfl, rfl⟩)
  · rintro e w' ⟨v, rfl, rfl, rfl⟩
    exact ⟨rfl, rfl⟩
theorem LocksAt.r1 {l n : Nat} {f : Nat → Int} (h : LocksAt w l n f) {i : Nat} (hi : i < 64) : rd w l (1 + i) = some (vi (f i)) := by
  rw [own.rd h, List.getElem?_append_right (by simp), List.getElem?_append_left (by rw [runI_len]; simp; omega)]
  rw [show 1 + i - [vi n].length = i by simp, runI_get _ _ _ _ _ hi, Nat.zero_add]
theorem LocksAt.r65 {l n : Nat} {f : Nat → Int} (h : LocksAt w l n f) : rd w l 65 = some (.bool true) := by
  rw [own.rd h, List.getElem?_append_right (by simp), List.getElem?_append_right (by rw [runI_len]; simp), runI_len]
  rfl
theorem holder_spec {l n : Nat} {f : Nat → Int} (h : LocksAt w l n f) (hn : n ≤ 64) {i : Nat} (hi : i < n) : Calls Tryz.prog 90 #[ptr l, vi i] w fun e w' => e = .returned (vi (IntKind.wrap .i64 (f i - 1))) ∧ w' = w := by
  refine (vc90 _ i w (fun v w' => v = vi (IntKind.wrap .i64 (f i - 1)) ∧ w' = w) ?_).mono ?_
  · unfold vcP90
    have hr : rd w l 0 = some (vi n) := by rw [own.rd h]; rfl
    have h65 : rd w l (0 + 65) = some (.bool true) := by rw [Nat.zero_add]; exact h.r65
    refine ⟨_, fun _ => h65, Wif_no rfl ⟨_, fun _ => hr, Wif_no (by simp; omega) (Wif_yes rfl (Wif_yes (inB_of (by omega) (by omega)) ⟨_, ?_, rfl, rfl⟩))⟩⟩
    rw [Int.toNat_natCast, Nat.mul_one]
    show rd w l (0 + 1 + i) = _
    rw [Nat.zero_add]
    exact h.r1 (by omega)
  · rintro e w' ⟨v, rfl, rfl, rfl⟩
    exact ⟨rfl, rfl⟩
theorem holders_pic (h : CoreAt w k S fp) (hk : rd w kb 0 = some (ptr k)) :
    Calls Tryz.prog 59 #[vi (9 + S.nodes : Nat), .func (.func 89) #[] #[ptr kb]] w fun e w' => ∃ a l c, e = .returned (.slice a l c) ∧ Kept none' w w' ∧ At (rng w w') (fun W => SlR RInt 1 W a l c ((List.range (9 + S.nodes)).map fun i => IntKind.wrap .i64 (S.lh i - 1))) w' := by
  have hs := h.sizes
  refine (sev59 (n := 9 + S.nodes) (w0 := w) (J := fun F i vs w => vs = ((List.range i).map fun i => IntKind.wrap .i64 (S.lh i - 1)).map vi) (by omega) ⟨fun F i vs w w' X h _ _ => h, fun F i vs w1 hi hv k1 hF => CallsV.mk _ #[] #[_] rfl (by kernel_rfl) ?_⟩ rfl).mono ?_
  · have C1 := h.k k1
    obtain ⟨hL, _⟩ : LocksAt w1 S.pl (9 + S.nodes) S.lh ∧ _ := C1.at' .locks
    refine (vc89 i (some ⟨kb, 0, none⟩) w1 (fun v w' => v = vi (IntKind.wrap .i64 (S.lh i - 1)) ∧ w' = w1) ?_).mono ?_
    · unfold vcP89
      refine Wif_yes rfl ⟨_, k1.rd_some hk id, Wif_yes rfl ⟨_, by show rd w1 k (0 + 97) = _; rw [Nat.zero_add]; exact C1.rt (j := 3) rfl, (holder_spec hL (by omega) hi).mono ?_⟩⟩
      rintro _ _ ⟨rfl, rfl⟩
      exact ⟨_, rfl, rfl, rfl⟩
    · rintro e w' ⟨v, rfl, rfl, rfl⟩
      refine ⟨[_], ⟨_, rfl, rfl⟩, rfl, fun u hu => by simp at hu; subst hu; rfl, Kept.refl _ _, ?_⟩
      rw [hv, List.range_succ, List.map_append, List.map_append]
      rfl
  · rintro e w' ⟨a, c, F, vs, rfl, kk, row, rfl, _⟩
    have R : RowI w' w.heap.size a (9 + S.nodes) c ((List.range (9 + S.nodes)).map fun i => IntKind.wrap .i64 (S.lh i - 1)) := ⟨by simp, row⟩
    exact ⟨a, _, c, rfl, kk, R.at.mono (fun x hx => R.lt hx) fun x hx => hx.2⟩
end
end Go.Proofs.YtklmokolnakkoaaGreatDoor
