/-
  A part of a proof that a law of this seat returns true at every input. Conditions: those in each theorem.
-/
import Derived.Test.YtkmcmkimeibjdaaBQ9
import Derived.Test.YtkmcmkimeibjdaaBL9
namespace Go.Proofs.Ytkmcmkimeibjdaa
open Go Eng
set_option linter.unusedSimpArgs false
set_option linter.unusedVariables false
set_option maxRecDepth 100000
/-! ### BuddyPlays -/
theorem takeR_uniq {n : Nat} {L L1 L2 : List Bk} {o : Int} {high : Bool} {a e a2 e2 : Int} (hi : Inv n L) (i1 : Inv n L1) (i2 : Inv n L2) (t1 : TakeR L o high a e L1) (t2 : TakeR L o high a2 e2 L2) : a = a2 ∧ e = e2 ∧ L1 = L2 := by
  have h10 : ∀ x ∈ L, x.o ≤ 10 := fun x hx => (tile_mem hi.tl hx).2.2.2
  rcases t1 with ⟨h, rfl, rfl, rfl⟩ | ⟨o1, ho, hle, hno, rfl, rfl, rfl⟩ | ⟨o1, x, r, ho, hox, hx, gx, hmin, hend, rfl, hr, rfl, hset, _⟩
  · rcases t2 with ⟨_, rfl, rfl, rfl⟩ | ⟨o2, ho2, _, _, rfl, rfl, rfl⟩ | ⟨o2, y, s, ho2, hoy, hy, gy, hmin2, hend2, rfl, hs, rfl, hset2, _⟩
    · exact ⟨rfl, rfl, rfl⟩
    · omega
    · have := h10 y hy; omega
  · rcases t2 with ⟨_, rfl, rfl, rfl⟩ | ⟨o2, ho2, _, _, rfl, rfl, rfl⟩ | ⟨o2, y, s, ho2, hoy, hy, gy, hmin2, hend2, rfl, hs, rfl, hset2, _⟩
    · omega
    · exact ⟨rfl, rfl, rfl⟩
    · have := hno y hy gy; omega
  · rcases t2 with ⟨_, rfl, rfl, rfl⟩ | ⟨o2, ho2, _, hno2, rfl, rfl, rfl⟩ | ⟨o2, y, s, ho2, hoy, hy, gy, hmin2, hend2, rfl, hs, rfl, hset2, _⟩
    · have := h10 x hx; omega
    · have := hno2 x hx gx; omega
    · have eo : o1 = o2 := by omega
      subst eo
      have m1 := hmin y hy gy hoy
      have m2 := hmin2 x hx gx hox
      have exy : x.o = y.o := by omega
      have n1 := hend y hy gy exy.symm
      have n2 := hend2 x hx gx exy
      have ep : x.p = y.p := by cases high <;> simp at n1 n2 <;> omega
      have : x = y := tile_start hi.tl hx hy ep
      subst this
      have er : r = s := by cases high <;> simp at hr hs <;> omega
      subst er
      exact ⟨rfl, rfl, i1.same i2 fun z hz => by rw [hset z hz, hset2 z hz]⟩
theorem giveR_uniq {n : Nat} {L L1 L2 : List Bk} {a o e e2 : Int} (hi : Inv n L) (i1 : Inv n L1) (i2 : Inv n L2) (t1 : GiveR L a o e L1) (t2 : GiveR L a o e2 L2) : e = e2 ∧ L1 = L2 := by
  rcases t1 with ⟨h, rfl, rfl⟩ | ⟨x, hx, gx, rfl, rfl, rfl, hset, _⟩
  · rcases t2 with ⟨_, rfl, rfl⟩ | ⟨y, hy, gy, rfl, rfl, rfl, _, _⟩
    · exact ⟨rfl, rfl⟩
    · exact absurd (mem_tk.2 ⟨y, hy, gy, rfl, rfl⟩) h
  · rcases t2 with ⟨h, rfl, rfl⟩ | ⟨y, hy, gy, ep, eo, rfl, hset2, _⟩
    · exact absurd (mem_tk.2 ⟨x, hx, gx, rfl, rfl⟩) h
    · have : x = y := tile_start hi.tl hx hy (by omega)
      subst this
      exact ⟨rfl, i1.same i2 fun z hz => by rw [hset z hz, hset2 z hz]⟩
theorem tk_uniq {n : Nat} {L : List Bk} (hi : Inv n L) {a i j : Int} (h1 : (a, i) ∈ tk L) (h2 : (a, j) ∈ tk L) : i = j := by
  obtain ⟨x, hx, _, p1, o1⟩ := mem_tk.1 h1
  obtain ⟨y, hy, _, p2, o2⟩ := mem_tk.1 h2
  have : x = y := tile_start hi.tl hx hy (by omega)
  subst this
  omega
theorem own_no_map {w : World} {z : Nat} {cs : List Value} {es : List (Int × Value)} (h : own w z cs) (h2 : MapIs w z es) : False := by
  obtain ⟨t, h⟩ := h
  obtain ⟨es', c, h1, _⟩ := h2.ex
  rw [h] at h1
  cases h1
section
variable {w w' : World} {b t z N : Nat} {m : Nat → Nat} {s : Bst} {F T : List (Nat × Nat)}
theorem rat_not (h : RAt w z N F T) (hb : BAt w b m t s) : ¬ bblk b m t z := by
  obtain ⟨fa, fc, ta, tc, o, _, _⟩ := h.one
  rintro (rfl | rfl | ⟨i, hi, rfl⟩)
  · obtain ⟨t1, h1⟩ := o
    obtain ⟨t2, h2⟩ := hb.so
    rw [h1] at h2
    simp only [Option.some.injEq, Obj.cells.injEq] at h2
    have := congrArg (fun x => Array.size x) h2.1
    simp [braw] at this
  · exact own_no_map o hb.mt
  · exact own_no_map o (hb.mf i hi)
theorem rat_bat (h : RAt w z N F T) (hb : BAt w b m t s) (k : Kept (bblk b m t) w w') : RAt w' z N F T := by
  refine h.kx k (rat_not h hb) fun v n xs row x hx hbb => ?_
  rcases hbb with rfl | rfl | ⟨i, hi, rfl⟩
  · exact row_odd row hb.so (by simp [braw]) hx
  · exact row_map row hb.mt hx
  · exact row_map row (hb.mf i hi) hx
theorem bat_rat (h : RAt w z N F T) (hb : BAt w b m t s) (k : Kept (· = z) w w') : BAt w' b m t s :=
  hb.kx k fun x hx hbb => rat_not h hb (hx ▸ hbb)
end
theorem plays_law (n : Int) (l : Option Addr) (lL lC : Nat) (W : World) (hp : 0 < lL → isP l = true) (hx : ∀ i, i < lL → ∃ k p o h, BOp W l i k p o h) :
    Calls Try.prog 9 #[.int .i64 n, .slice l lL lC] W fun r w' => r = .returned (.bool true) ∧ Kept none' W w' := by
  refine (vc9 n l lL lC W (fun v w' => v = .bool true ∧ Kept none' W w') ?_).mono ?_
  · unfold vcP9
    refine (new_spec W n).mono ?_
    have hknown : ∀ w1, Kept none' W w1 → Calls Try.prog 14 #[] w1 fun (e : Ending) (w' : World) => ∃ (b : Bool), e = Ending.returned (Value.bool b) ∧ (Value.bool b = .bool true ∧ Kept none' W w') := fun w1 k1 => by
      refine (known_spec w1).mono ?_
      rintro _ w2 ⟨rfl, k2⟩
      exact ⟨_, rfl, rfl, k1.tr k2⟩
    rintro _ w1 (⟨hn, rfl, hw⟩ | ⟨N, b, m, t, L, rfl, rfl, k1, h1, i1, g1, fr1⟩)
    · rw [hw]
      exact ⟨_, _, rfl, Wif_yes (by simp; omega) (Wif_yes rfl (hknown _ (Kept.refl _ _)))⟩
    have hN := i1.n1
    refine ⟨_, _, rfl, Wif_no (by simp; omega) (Wif_intro (fun _ => hknown _ k1) (fun hc => ?_))⟩
    simp at hc
    refine (rnew_spec w1 N hN).mono ?_
    rintro _ w2 ⟨L', rfl, k2, hR, i2, g2⟩
    have : L' = L := i2.zero i1 g2 g1
    subst this
    have hzW : W.heap.size ≤ w1.heap.size := k1.sz
    generalize w1.heap.size = z at *
    refine ⟨_, rfl, Wif_no rfl ((same_spec (h1.k k2) i1 hR).mono ?_)⟩
    rintro _ w3 ⟨rfl, k3⟩
    refine ⟨_, rfl, Wif_no rfl ?_⟩
    refine ⟨fun _ p k w' M => ∃ (q b t : Nat) (m : Nat → Nat) (L : List Bk) (T : List (Nat × Nat)), p = some ⟨b, 0, none⟩ ∧ k = (q : Int) ∧ q ≤ lL ∧ M = lL - q ∧ Kept none' W w' ∧ (∀ x, bblk b m t x → W.heap.size ≤ x) ∧ BAt w' b m t (stOf N L) ∧ Inv N L ∧ RAt w' z N (bks L) T ∧ Tks L T ∧ T.length ≤ q,
      ⟨lL, 0, b, t, m, L', [], rfl, rfl, by omega, rfl, (k1.tr k2).tr k3, fr1, (h1.k k2).k k3, i1, hR.k k3, ⟨List.nodup_nil, fun y hy => ⟨fun hm => by have := g1 y hm; omega, fun h => by simp at h⟩⟩, by simp⟩, ?_⟩
    clear hR h1 i1 g1 g2 i2 fr1 b m t L' k1 k2 k3
    rintro bb _ _ w4 _ ⟨q, b, t, m, L, T, rfl, rfl, hq, rfl, k4, fr, h4, i4, hR4, ht4, hT4⟩
    refine Wif_intro (fun hc2 => ?_) (fun _ => hknown _ k4)
    simp only [decide_eq_true_eq] at hc2
    obtain ⟨k, p, o, hh, hop⟩ := hx q (by omega)
    have hop4 := hop.k k4
    have hP := hp (by omega)
    have eP : ∀ {x y : Prop}, Wif (isP l) x y = x := by intro x y; rw [hP]; rfl
    have eB : ∀ {x y : Prop}, Wif (inB (q : Int) lL) x y = x := by intro x y; rw [inB_of (by omega) (by omega)]; rfl
    have ew : IntKind.wrap .i64 ((q : Int) + 1) = ((q + 1 : Nat) : Int) := by rw [wi (by omega)]; rfl
    simp only [eP, eB, Int.toNat_natCast, ew]
    refine ⟨k, p, o, hh, ⟨hop4.r0, hop4.r1, hop4.r2, hop4.r3⟩, fun w5 e5 => ?_⟩
    have o5 := own_alloc (c := [.int .i64 0, .int .i64 0, .int .i64 0, .bool false]) e5
    have k5 : Kept none' w4 w5 := (Kept.refl _ _).al e5
    refine ⟨⟨o5.wr (by simp), o5.wr (by simp), o5.wr (by simp), o5.wr (by simp)⟩, fun w6 e6 => ?_⟩
    have o6 : own w6 w4.heap.size [.int .i64 k, .int .i64 p, .int .i64 o, .bool hh] := by subst e6; exact ((o5.st_same).st_same.st_same).st_same
    have k6 : Kept none' w4 w6 := by
      refine own0 (X := (· = w4.heap.size)) k5 ?_ fun x hx => by omega
      subst e6
      exact (((Kept.refl (· = w4.heap.size) w5).st (.inl rfl)).st (.inl rfl) |>.st (.inl rfl)).st (.inl rfl)
    have K6 := k4.tr k6
    have h6 := h4.k k6
    have hR6 := hR4.k k6
    have hz4 : z < w4.heap.size := by obtain ⟨_, _, _, _, o, _⟩ := hR4.one; exact o.lt
    have hb4 : ∀ x, bblk b m t x → x < w4.heap.size := fun x hx => h4.lt hx
    clear e5 e6 o5
    generalize w4.heap.size = D at *
    -- behind each call
    have next : ∀ (u : World) (b' t' : Nat) (m' : Nat → Nat) (L' : List Bk) (T' : List (Nat × Nat)), Kept none' W u → (∀ x, bblk b' m' t' x → W.heap.size ≤ x) → BAt u b' m' t' (stOf N L') → Inv N L' → RAt u z N (bks L') T' → Tks L' T' → T'.length ≤ q + 1 →
        Calls Try.prog 32 #[.pointer (some ⟨b', 0, none⟩), .pointer (some ⟨z, 0, none⟩)] u fun (e : Ending) (w' : World) => ∃ (b_1 : Bool), e = .returned (.bool b_1) ∧ Wif (!b_1) (Value.bool false = .bool true ∧ Kept none' W w') (∃ (mm : Nat), Nat.succ mm ≤ lL - q ∧
          ∃ (q' b t : Nat) (m : Nat → Nat) (L : List Bk) (T : List (Nat × Nat)), some (⟨b', 0, none⟩ : Addr) = some ⟨b, 0, none⟩ ∧ ((q + 1 : Nat) : Int) = (q' : Int) ∧ q' ≤ lL ∧ mm = lL - q' ∧ Kept none' W w' ∧ (∀ x, bblk b m t x → W.heap.size ≤ x) ∧ BAt w' b m t (stOf N L) ∧ Inv N L ∧ RAt w' z N (bks L) T ∧ Tks L T ∧ T.length ≤ q') := by
      intro u b' t' m' L' T' ku fr' hu iu hRu htu hTu
      refine (same_spec hu iu hRu).mono ?_
      rintro _ v ⟨rfl, kv⟩
      exact ⟨_, rfl, Wif_no rfl ⟨lL - (q + 1), by omega, q + 1, b', t', m', L', T', rfl, rfl, by omega, rfl, ku.tr kv, fr', hu.k kv, iu, hRu.k kv, htu, hTu⟩⟩
    refine ⟨k, by rw [o6.rd]; rfl, Wif_intro (fun _ => ?_) (fun _ => Wif_intro (fun _ => ?_) (fun _ => Wif_intro (fun _ => ?_) (fun _ => Wif_intro (fun _ => ?_) (fun _ => ?_))))⟩
    · -- Take
      refine ⟨o, by rw [o6.rd]; rfl, hh, by rw [o6.rd]; rfl, (take_spec h6 i4 o hh).mono ?_⟩
      rintro _ w7 ⟨a, e, L1, rfl, k7, h7, i7, t7⟩
      have hR7 := rat_bat hR6 h6 k7
      have o7 := o6.kx k7 fun hx => by have := hb4 _ hx; omega
      refine ⟨_, _, rfl, o, by rw [o7.rd]; rfl, hh, by rw [o7.rd]; rfl, (rtake_spec hR7 i4 ht4 (by omega) o hh).mono ?_⟩
      rintro _ w8 ⟨a2, e2, L2, T2, rfl, k8, hR8, i8, ht8, hT8, t8⟩
      have h8 := bat_rat hR7 h7 k8
      obtain ⟨rfl, rfl, rfl⟩ := takeR_uniq i4 i7 i8 t7 t8
      refine ⟨_, _, rfl, Wif_no (by simp) (next w8 b t m L1 T2 ?_ fr h8 i7 hR8 ht8 (by omega))⟩
      refine own0 (own0 K6 k7 fr) k8 fun x hx => ?_
      subst hx; exact hzW
    · -- Give
      intro w7 e7
      have k67 : Kept none' w6 w7 := (Kept.refl _ _).dr e7
      have o7 := o6.k k67
      refine ⟨p, by rw [o7.rd]; rfl, o, by rw [o7.rd]; rfl, p, by rw [o7.rd]; rfl, o, by rw [o7.rd]; rfl, (give_spec (h6.k k67) i4 p o).mono ?_⟩
      rintro _ w8 ⟨e, L1, rfl, k8, h8, i8, t8⟩
      have hR8 := rat_bat (hR6.k k67) (h6.k k67) k8
      have o8 := o7.kx k8 fun hx => by have := hb4 _ hx; omega
      refine ⟨_, rfl, ⟨by rw [o8.rd]; rfl, trivial⟩, ⟨by rw [o8.rd]; rfl, trivial⟩, (rgive_spec hR8 i4 ht4 (by omega) p o).mono ?_⟩
      rintro _ w9 ⟨e2, L2, T2, rfl, k9, hR9, i9, ht9, hT9, t9⟩
      have h9 := bat_rat hR8 h8 k9
      obtain ⟨rfl, rfl⟩ := giveR_uniq i4 i8 i9 t8 t9
      refine ⟨_, rfl, Wif_no (by simp) (next w9 b t m L1 T2 ?_ fr h9 i8 hR9 ht9 (by omega))⟩
      refine own0 (own0 (K6.tr k67) k8 fr) k9 fun x hx => ?_
      subst hx; exact hzW
    · -- Taken
      refine ⟨p, by rw [o6.rd]; rfl, (taken_spec h6 p).mono ?_⟩
      rintro _ w7 ⟨o1, is1, rfl, hw7, htk⟩
      rw [hw7]
      clear hw7 w7
      refine ⟨_, _, rfl, ?_⟩
      obtain ⟨fa, fc, ta, tc, oz, rF, rT⟩ := hR6.one
      simp only [isP_some, Wif_true, gIf_true, pb_some, po_some, Nat.zero_add]
      refine ⟨ta, T.length, tc, by rw [oz.rd]; rfl, ?_⟩
      refine ⟨fun p1 has k1 w' M => ∃ i : Nat, k1 = (i : Int) ∧ i ≤ T.length ∧ M = T.length - i ∧ Kept none' w6 w' ∧ ((has = false ∧ p1 = 0 ∧ ∀ (j : Nat) (y : Nat × Nat), j < i → T[j]? = some y → (y.1 : Int) ≠ p) ∨ (has = true ∧ (p, p1) ∈ tk L)),
        ⟨T.length, 0, rfl, by omega, rfl, Kept.refl _ _, .inl ⟨rfl, rfl, fun j y hj => absurd hj (Nat.not_lt_zero _)⟩⟩, ?_⟩
      rintro p1 has _ w7 _ ⟨i, rfl, hi, rfl, k7, hst⟩
      have ewi : IntKind.wrap .i64 ((i : Int) + 1) = ((i + 1 : Nat) : Int) := by rw [wi (by omega)]; rfl
      rw [ewi]
      refine Wif_intro (fun hc3 => ?_) (fun hc3 => ?_)
      · have hil : i < T.length := by simp at hc3; omega
        intro w8 e8
        have k78 : Kept none' w7 w8 := (Kept.refl _ _).dr e8
        have k8 := k7.tr k78
        obtain ⟨fa8, fc8, ta8, tc8, oz8, rF8, rT8⟩ := (hR6.k k8).one
        refine ⟨ta8, T.length, tc8, by rw [oz8.rd]; rfl, ?_⟩
        obtain ⟨g, rfl, _, _, _, q1, q2⟩ := row2_rd rT8 hil
        obtain ⟨⟨yp, yo⟩, hy⟩ : ∃ y, T[i]? = some y := ⟨T[i], List.getElem?_eq_getElem hil⟩
        obtain ⟨c1, c2⟩ := tkC_get T i _ hy
        rw [c1] at q1
        rw [c2] at q2
        have eBi : ∀ {x y : Prop}, Wif (inB (i : Int) T.length) x y = x := by intro x y; rw [inB_of (by omega) (by omega)]; rfl
        simp only [isP_some, Wif_true, gIf_true, pb_some, po_some, Nat.zero_add, eBi, Int.toNat_natCast]
        refine ⟨_, q1, p, by rw [(o6.k k8).rd]; rfl, Wif_intro (fun he => ?_) (fun he => ?_)⟩
        · have he' : (yp : Int) = p := by simpa using he
          refine ⟨_, _, _, by rw [oz8.rd]; rfl, ?_⟩
          simp only [isP_some, Wif_true, gIf_true, pb_some, po_some, Nat.zero_add, eBi, Int.toNat_natCast]
          refine ⟨_, q2, T.length - (i + 1), by omega, i + 1, rfl, by omega, rfl, k8, .inr ⟨trivial, ?_⟩⟩
          have hm : (yp, yo) ∈ T := List.mem_iff_getElem?.2 ⟨i, hy⟩
          exact mem_tk.2 ⟨⟨yp, yo, 1⟩, (ht4.2 _ rfl).2 hm, rfl, he', rfl⟩
        · have he' : (yp : Int) ≠ p := by simpa using he
          refine ⟨T.length - (i + 1), by omega, i + 1, rfl, by omega, rfl, k8, ?_⟩
          rcases hst with ⟨s1, s2, s3⟩ | ⟨s1, s2⟩
          · refine .inl ⟨s1, s2, fun j y hj hjy => ?_⟩
            rcases Nat.lt_or_ge j i with h | h
            · exact s3 j y h hjy
            · have : j = i := by omega
              subst this
              rw [hy] at hjy
              cases hjy
              exact he'
          · exact .inr ⟨s1, s2⟩
      have hiT : i = T.length := by simp at hc3; omega
      subst hiT
      have heq : is1 = has ∧ o1 = p1 := by
        rcases htk with ⟨r1, r2⟩ | ⟨r1, r2, r3⟩ <;> rcases hst with ⟨s1, s2, s3⟩ | ⟨s1, s2⟩
        · exfalso
          obtain ⟨x, hx1, hx2, hx3, hx4⟩ := mem_tk.1 r2
          obtain ⟨j, hj⟩ := List.mem_iff_getElem?.1 ((ht4.2 x hx2).1 hx1)
          exact s3 j _ (List.getElem?_eq_some_iff.1 hj).1 hj hx3
        · exact ⟨by rw [r1, s1], tk_uniq i4 r2 s2⟩
        · exact ⟨by rw [r1, s1], by rw [r2, s2]⟩
        · exact absurd s2 (r3 _)
      obtain ⟨rfl, rfl⟩ := heq
      exact Wif_no (by simp) (next w7 b t m L T (K6.tr k7) fr (h6.k k7) i4 (hR6.k k7) ht4 (by omega))
    · -- Copy
      refine (copy_spec h6).mono ?_
      rintro _ w7 ⟨b', m', t', rfl, k7, h7, fr7⟩
      have o7 := o6.k k7
      have hlt6 : ∀ x, bblk b m t x → x < w6.heap.size := fun x hx => h6.lt hx
      refine ⟨_, rfl, hh, by rw [o7.rd]; rfl, (take_spec (h6.k k7) i4 0 hh).mono ?_⟩
      rintro _ w8 ⟨a, e, L1, rfl, k8, h8, i8, t8⟩
      have o8 := o7.kx k8 fun hx => by have := hb4 _ hx; omega
      have hR8 := rat_bat (hR6.k k7) (h6.k k7) k8
      have c8 := h7.kx k8 fun x hx hx' => by have := hlt6 _ hx; have := fr7 _ hx'; omega
      refine ⟨_, _, rfl, p, by rw [o8.rd]; rfl, o, by rw [o8.rd]; rfl, (give_spec h8 i8 p o).mono ?_⟩
      rintro _ w9 ⟨e2, L2, rfl, k9, h9, i9, t9⟩
      have hR9 := rat_bat hR8 h8 k9
      have c9 := c8.kx k9 fun x hx hx' => by have := hlt6 _ hx; have := fr7 _ hx'; omega
      refine ⟨_, rfl, Wif_no rfl (next w9 b' t' m' L T (own0 (own0 (K6.tr k7) k8 fr) k9 fr) (fun x hx => ?_) c9 i4 hR9 ht4 (by omega))⟩
      have := fr7 x hx
      have := K6.sz
      omega
    · exact next w6 b t m L T K6 fr h6 i4 hR6 ht4 (by omega)
  · rintro e w' ⟨v, rfl, rfl, hw⟩
    exact ⟨rfl, hw⟩
end Go.Proofs.Ytkmcmkimeibjdaa
