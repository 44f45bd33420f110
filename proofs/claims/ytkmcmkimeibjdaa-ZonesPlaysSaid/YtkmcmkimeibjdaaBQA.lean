/-
  A part of a proof that a law of this seat returns true at every input. Conditions: those in each theorem.
-/
import Derived.Test.YtkmcmkimeibjdaaBQ9
import Derived.Test.YtkmcmkimeibjdaaBL9
import Derived.Test.YtkmcmkimeibjdaaZC6
import Derived.Test.YtkmcmkimeibjdaaZV6
namespace Go.Proofs.Ytkmcmkimeibjdaa
open Go Eng
set_option linter.unusedSimpArgs false
set_option linter.unusedVariables false
set_option maxRecDepth 100000
/-! ### BuddyPlays -/
theorem takeR_uniq {n : Nat} {L L1 L2 : List Bk} {o : Int} {high : Bool} {a e a2 e2 : Int} (hi : Inv n L) (i1 : Inv n L1) (i2 : Inv n L2) (t1 : TakeR L o high a e L1) (t2 : TakeR L o high a2 e2 L2) : a = a2 ∧ e = e2 ∧ L1 = L2 := by
  have h10 : ∀ x ∈ L, x.o ≤ 10 := fun x hx => (tile_mem hi.tl hx).2.2.2
  rcases t1 with ⟨h, rfl, rfl, rfl⟩ | ⟨o1, ho, hle, hno, rfl, rfl, rfl⟩ | ⟨o1, x, r, ho, hox, hx, gx, hmin, hend, rfl, hr, rfl, hset, _⟩
  · rcases t2 with ⟨_, rfl, rfl, rfl⟩ | ⟨o2, ho2, _, _, rfl, rfl, rfl⟩ | ⟨o2, y, s, ho2, hoy, hy, gy, hmin2, hend2, rfl, hs, rfl, hset2, _⟩
    · exact ⟨rfl, rfl, rfl⟩
    · omega
    · have := h10 y hy; omega
  · rcases t2 with ⟨_, rfl, rfl, rfl⟩ | ⟨o2, ho2, _, _, rfl, rfl, rfl⟩ | ⟨o2, y, s, ho2, hoy, hy, gy, hmin2, hend2, rfl, hs, rfl, hset2, _⟩
    · omega
    · exact ⟨rfl, rfl, rfl⟩
    · have := hno y hy gy; omega
  · rcases t2 with ⟨_, rfl, rfl, rfl⟩ | ⟨o2, ho2, _, hno2, rfl, rfl, rfl⟩ | ⟨o2, y, s, ho2, hoy, hy, gy, hmin2, hend2, rfl, hs, rfl, hset2, _⟩
    · have := h10 x hx; omega
    · have := hno2 x hx gx; omega
    · have eo : o1 = o2 := by omega
      subst eo
      have m1 := hmin y hy gy hoy
      have m2 := hmin2 x hx gx hox
      have exy : x.o = y.o := by omega
      have n1 := hend y hy gy exy.symm
      have n2 := hend2 x hx gx exy
      have ep : x.p = y.p := by cases high <;> simp at n1 n2 <;> omega
      have : x = y := tile_start hi.tl hx hy ep
      subst this
      have er : r = s := by cases high <;> simp at hr hs <;> omega
      subst er
      exact ⟨rfl, rfl, i1.same i2 fun z hz => by rw [hset z hz, hset2 z hz]⟩
theorem giveR_uniq {n : Nat} {L L1 L2 : List Bk} {a o e e2 : Int} (hi : Inv n L) (i1 : Inv n L1) (i2 : Inv n L2) (t1 : GiveR L a o e L1) (t2 : GiveR L a o e2 L2) : e = e2 ∧ L1 = L2 := by
  rcases t1 with ⟨h, rfl, rfl⟩ | ⟨x, hx, gx, rfl, rfl, rfl, hset, _⟩
  · rcases t2 with ⟨_, rfl, rfl⟩ | ⟨y, hy, gy, rfl, rfl, rfl, _, _⟩
    · exact ⟨rfl, rfl⟩
    · exact absurd (mem_tk.2 ⟨y, hy, gy, rfl, rfl⟩) h
  · rcases t2 with ⟨h, rfl, rfl⟩ | ⟨y, hy, gy, ep, eo, rfl, hset2, _⟩
    · exact absurd (mem_tk.2 ⟨x, hx, gx, rfl, rfl⟩) h
    · have : x = y := tile_start hi.tl hx hy (by omega)
      subst this
      exact ⟨rfl, i1.same i2 fun z hz => by rw [hset z hz, hset2 z hz]⟩
theorem tk_uniq {n : Nat} {L : List Bk} (hi : Inv n L) {a i j : Int} (h1 : (a, i) ∈ tk L) (h2 : (a, j) ∈ tk L) : i = j := by
  obtain ⟨x, hx, _, p1, o1⟩ := mem_tk.1 h1
  obtain ⟨y, hy, _, p2, o2⟩ := mem_tk.1 h2
  have : x = y := tile_start hi.tl hx hy (by omega)
  subst this
  omega
theorem own_no_map {w : World} {z : Nat} {cs : List Value} {es : List (Int × Value)} (h : own w z cs) (h2 : MapIs w z es) : False := by
  obtain ⟨t, h⟩ := h
  obtain ⟨es', c, h1, _⟩ := h2.ex
  rw [h] at h1
  cases h1
section
variable {w w' : World} {b t z N : Nat} {m : Nat → Nat} {s : Bst} {F T : List (Nat × Nat)}
theorem rat_not (h : RAt w z N F T) (hb : BAt w b m t s) : ¬ bblk b m t z := by
  obtain ⟨fa, fc, ta, tc, o, _, _⟩ := h.one
  rintro (rfl | rfl | ⟨i, hi, rfl⟩)
  · obtain ⟨t1, h1⟩ := o
    obtain ⟨t2, h2⟩ := hb.so
    rw [h1] at h2
    simp only [Option.some.injEq, Obj.cells.injEq] at h2
    have := congrArg (fun x => Array.size x) h2.1
    simp [braw] at this
  · exact own_no_map o hb.mt
  · exact own_no_map o (hb.mf i hi)
theorem rat_bat (h : RAt w z N F T) (hb : BAt w b m t s) (k : Kept (bblk b m t) w w') : RAt w' z N F T := by
  refine h.kx k (rat_not h hb) fun v n xs row x hx hbb => ?_
  rcases hbb with rfl | rfl | ⟨i, hi, rfl⟩
  · exact row_odd row hb.so (by simp [braw]) hx
  · exact row_map row hb.mt hx
  · exact row_map row (hb.mf i hi) hx
theorem bat_rat (h : RAt w z N F T) (hb : BAt w b m t s) (k : Kept (· = z) w w') : BAt w' b m t s :=
  hb.kx k fun x hx hbb => rat_not h hb (hx ▸ hbb)
end
theorem plays_law (n : Int) (l : Option Addr) (lL lC : Nat) (W : World) (hp : 0 < lL → isP l = true) (hx : ∀ i, i < lL → ∃ k p o h, BOp W l i k p o h) :
    Calls Try.prog 9 #[.int .i64 n, .slice l lL lC] W fun r w' => r = .returned (.bool true) ∧ Kept none' W w' := by
  refine (vc9 n l lL lC W (fun v w' => v = .bool true ∧ Kept none' W w') ?_).mono ?_
  · unfold vcP9
    refine (new_spec W n).mono ?_
    have hknown : ∀ w1, Kept none' W w1 → Calls Try.prog 14 #[] w1 fun (e : Ending) (w' : World) => ∃ (b : Bool), e = Ending.returned (Value.bool b) ∧ (Value.bool b = .bool true ∧ Kept none' W w') := fun w1 k1 => by
      refine (known_spec w1).mono ?_
      rintro _ w2 ⟨rfl, k2⟩
      exact ⟨_, rfl, rfl, k1.tr k2⟩
    rintro _ w1 (⟨hn, rfl, hw⟩ | ⟨N, b, m, t, L, rfl, rfl, k1, h1, i1, g1, fr1⟩)
    · rw [hw]
      exact ⟨_, _, rfl, Wif_yes (by simp; omega) (Wif_yes rfl (hknown _ (Kept.refl _ _)))⟩
    have hN := i1.n1
    refine ⟨_, _, rfl, Wif_no (by simp; omega) (Wif_intro (fun _ => hknown _ k1) (fun hc => ?_))⟩
    simp at hc
    refine (rnew_spec w1 N hN).mono ?_
    rintro _ w2 ⟨L', rfl, k2, hR, i2, g2⟩
    have : L' = L := i2.zero i1 g2 g1
    subst this
    have hzW : W.heap.size ≤ w1.heap.size := k1.sz
    generalize w1.heap.size = z at *
    refine ⟨_, rfl, Wif_no rfl ((same_spec (h1.k k2) i1 hR).mono ?_)⟩
    rintro _ w3 ⟨rfl, k3⟩
    refine ⟨_, rfl, Wif_no rfl ?_⟩
    refine ⟨fun _ p k w' M => ∃ (q b t : Nat) (m : Nat → Nat) (L : List Bk) (T : List (Nat × Nat)), p = some ⟨b, 0, none⟩ ∧ k = (q : Int) ∧ q ≤ lL ∧ M = lL - q ∧ Kept none' W w' ∧ (∀ x, bblk b m t x → W.heap.size ≤ x) ∧ BAt w' b m t (stOf N L) ∧ Inv N L ∧ RAt w' z N (bks L) T ∧ Tks L T ∧ T.length ≤ q,
      ⟨lL, 0, b, t, m, L', [], rfl, rfl, by omega, rfl, (k1.tr k2).tr k3, fr1, (h1.k k2).k k3, i1, hR.k k3, ⟨List.nodup_nil, fun y hy => ⟨fun hm => by have := g1 y hm; omega, fun h => by simp at h⟩⟩, by simp⟩, ?_⟩
    clear hR h1 i1 g1 g2 i2 fr1 b m t L' k1 k2 k3
    rintro bb _ _ w4 _ ⟨q, b, t, m, L, T, rfl, rfl, hq, rfl, k4, fr, h4, i4, hR4, ht4, hT4⟩
    refine Wif_intro (fun hc2 => ?_) (fun _ => hknown _ k4)
    simp only [decide_eq_true_eq] at hc2
    obtain ⟨k, p, o, hh, hop⟩ := hx q (by omega)
    have hop4 := hop.k k4
    have hP := hp (by omega)
    have eP : ∀ {x y : Prop}, Wif (isP l) x y = x := by intro x y; rw [hP]; rfl
    have eB : ∀ {x y : Prop}, Wif (inB (q : Int) lL) x y = x := by intro x y; rw [inB_of (by omega) (by omega)]; rfl
    have ew : IntKind.wrap .i64 ((q : Int) + 1) = ((q + 1 : Nat) : Int) := by rw [wi (by omega)]; rfl
    simp only [eP, eB, Int.toNat_natCast, ew]
    refine ⟨k, p, o, hh, ⟨hop4.r0, hop4.r1, hop4.r2, hop4.r3⟩, fun w5 e5 => ?_⟩
    have o5 := own_alloc (c := [.int .i64 0, .int .i64 0, .int .i64 0, .bool false]) e5
    have k5 : Kept none' w4 w5 := (Kept.refl _ _).al e5
    refine ⟨⟨o5.wr (by simp), o5.wr (by simp), o5.wr (by simp), o5.wr (by simp)⟩, fun w6 e6 => ?_⟩
    have o6 : own w6 w4.heap.size [.int .i64 k, .int .i64 p, .int .i64 o, .bool hh] := by subst e6; exact ((o5.st_same).st_same.st_same).st_same
    have k6 : Kept none' w4 w6 := by
      refine own0 (X := (· = w4.heap.size)) k5 ?_ fun x hx => by omega
      subst e6
      exact (((Kept.refl (· = w4.heap.size) w5).st (.inl rfl)).st (.inl rfl) |>.st (.inl rfl)).st (.inl rfl)
    have K6 := k4.tr k6
    have h6 := h4.k k6
    have hR6 := hR4.k k6
    have hz4 : z < w4.heap.size := by obtain ⟨_, _, _, _, o, _⟩ := hR4.one; exact o.lt
    have hb4 : ∀ x, bblk b m t x → x < w4.heap.size := fun x hx => h4.lt hx
    clear e5 e6 o5
    generalize w4.heap.size = D at *
    -- behind each call
    have next : ∀ (u : World) (b' t' : Nat) (m' : Nat → Nat) (L' : List Bk) (T' : List (Nat × Nat)), Kept none' W u → (∀ x, bblk b' m' t' x → W.heap.size ≤ x) → BAt u b' m' t' (stOf N L') → Inv N L' → RAt u z N (bks L') T' → Tks L' T' → T'.length ≤ q + 1 →
        Calls Try.prog 32 #[.pointer (some ⟨b', 0, none⟩), .pointer (some ⟨z, 0, none⟩)] u fun (e : Ending) (w' : World) => ∃ (b_1 : Bool), e = .returned (.bool b_1) ∧ Wif (!b_1) (Value.bool false = .bool true ∧ Kept none' W w') (∃ (mm : Nat), Nat.succ mm ≤ lL - q ∧
          ∃ (q' b t : Nat) (m : Nat → Nat) (L : List Bk) (T : List (Nat × Nat)), some (⟨b', 0, none⟩ : Addr) = some ⟨b, 0, none⟩ ∧ ((q + 1 : Nat) : Int) = (q' : Int) ∧ q' ≤ lL ∧ mm = lL - q' ∧ Kept none' W w' ∧ (∀ x, bblk b m t x → W.heap.size ≤ x) ∧ BAt w' b m t (stOf N L) ∧ Inv N L ∧ RAt w' z N (bks L) T ∧ Tks L T ∧ T.length ≤ q') := by
      intro u b' t' m' L' T' ku fr' hu iu hRu htu hTu
      refine (same_spec hu iu hRu).mono ?_
      rintro _ v ⟨rfl, kv⟩
      exact ⟨_, rfl, Wif_no rfl ⟨lL - (q + 1), by omega, q + 1, b', t', m', L', T', rfl, rfl, by omega, rfl, ku.tr kv, fr', hu.k kv, iu, hRu.k kv, htu, hTu⟩⟩
    refine ⟨k, by rw [o6.rd]; rfl, Wif_intro (fun _ => ?_) (fun _ => Wif_intro (fun _ => ?_) (fun _ => Wif_intro (fun _ => ?_) (fun _ => Wif_intro (fun _ => ?_) (fun _ => ?_))))⟩
    · -- Take
      refine ⟨o, by rw [o6.rd]; rfl, hh, by rw [o6.rd]; rfl, (take_spec h6 i4 o hh).mono ?_⟩
      rintro _ w7 ⟨a, e, L1, rfl, k7, h7, i7, t7⟩
      have hR7 := rat_bat hR6 h6 k7
      have o7 := o6.kx k7 fun hx => by have := hb4 _ hx; omega
      refine ⟨_, _, rfl, o, by rw [o7.rd]; rfl, hh, by rw [o7.rd]; rfl, (rtake_spec hR7 i4 ht4 (by omega) o hh).mono ?_⟩
      rintro _ w8 ⟨a2, e2, L2, T2, rfl, k8, hR8, i8, ht8, hT8, t8⟩
      have h8 := bat_rat hR7 h7 k8
      obtain ⟨rfl, rfl, rfl⟩ := takeR_uniq i4 i7 i8 t7 t8
      refine ⟨_, _, rfl, Wif_no (by simp) (next w8 b t m L1 T2 ?_ fr h8 i7 hR8 ht8 (by omega))⟩
      refine own0 (own0 K6 k7 fr) k8 fun x hx => ?_
      subst hx; exact hzW
    · -- Give
      intro w7 e7
      have k67 : Kept none' w6 w7 := (Kept.refl _ _).dr e7
      have o7 := o6.k k67
      refine ⟨p, by rw [o7.rd]; rfl, o, by rw [o7.rd]; rfl, p, by rw [o7.rd]; rfl, o, by rw [o7.rd]; rfl, (give_spec (h6.k k67) i4 p o).mono ?_⟩
      rintro _ w8 ⟨e, L1, rfl, k8, h8, i8, t8⟩
      have hR8 := rat_bat (hR6.k k67) (h6.k k67) k8
      have o8 := o7.kx k8 fun hx => by have := hb4 _ hx; omega
      refine ⟨_, rfl, ⟨by rw [o8.rd]; rfl, trivial⟩, ⟨by rw [o8.rd]; rfl, trivial⟩, (rgive_spec hR8 i4 ht4 (by omega) p o).mono ?_⟩
      rintro _ w9 ⟨e2, L2, T2, rfl, k9, hR9, i9, ht9, hT9, t9⟩
      have h9 := bat_rat hR8 h8 k9
      obtain ⟨rfl, rfl⟩ := giveR_uniq i4 i8 i9 t8 t9
      refine ⟨_, rfl, Wif_no (by simp) (next w9 b t m L1 T2 ?_ fr h9 i8 hR9 ht9 (by omega))⟩
      refine own0 (own0 (K6.tr k67) k8 fr) k9 fun x hx => ?_
      subst hx; exact hzW
    · -- Taken
      refine ⟨p, by rw [o6.rd]; rfl, (taken_spec h6 p).mono ?_⟩
      rintro _ w7 ⟨o1, is1, rfl, hw7, htk⟩
      rw [hw7]
      clear hw7 w7
      refine ⟨_, _, rfl, ?_⟩
      obtain ⟨fa, fc, ta, tc, oz, rF, rT⟩ := hR6.one
      simp only [isP_some, Wif_true, gIf_true, pb_some, po_some, Nat.zero_add]
      refine ⟨ta, T.length, tc, by rw [oz.rd]; rfl, ?_⟩
      refine ⟨fun p1 has k1 w' M => ∃ i : Nat, k1 = (i : Int) ∧ i ≤ T.length ∧ M = T.length - i ∧ Kept none' w6 w' ∧ ((has = false ∧ p1 = 0 ∧ ∀ (j : Nat) (y : Nat × Nat), j < i → T[j]? = some y → (y.1 : Int) ≠ p) ∨ (has = true ∧ (p, p1) ∈ tk L)),
        ⟨T.length, 0, rfl, by omega, rfl, Kept.refl _ _, .inl ⟨rfl, rfl, fun j y hj => absurd hj (Nat.not_lt_zero _)⟩⟩, ?_⟩
      rintro p1 has _ w7 _ ⟨i, rfl, hi, rfl, k7, hst⟩
      have ewi : IntKind.wrap .i64 ((i : Int) + 1) = ((i + 1 : Nat) : Int) := by rw [wi (by omega)]; rfl
      rw [ewi]
      refine Wif_intro (fun hc3 => ?_) (fun hc3 => ?_)
      · have hil : i < T.length := by simp at hc3; omega
        intro w8 e8
        have k78 : Kept none' w7 w8 := (Kept.refl _ _).dr e8
        have k8 := k7.tr k78
        obtain ⟨fa8, fc8, ta8, tc8, oz8, rF8, rT8⟩ := (hR6.k k8).one
        refine ⟨ta8, T.length, tc8, by rw [oz8.rd]; rfl, ?_⟩
        obtain ⟨g, rfl, _, _, _, q1, q2⟩ := row2_rd rT8 hil
        obtain ⟨⟨yp, yo⟩, hy⟩ : ∃ y, T[i]? = some y := ⟨T[i], List.getElem?_eq_getElem hil⟩
        obtain ⟨c1, c2⟩ := tkC_get T i _ hy
        rw [c1] at q1
        rw [c2] at q2
        have eBi : ∀ {x y : Prop}, Wif (inB (i : Int) T.length) x y = x := by intro x y; rw [inB_of (by omega) (by omega)]; rfl
        simp only [isP_some, Wif_true, gIf_true, pb_some, po_some, Nat.zero_add, eBi, Int.toNat_natCast]
        refine ⟨_, q1, p, by rw [(o6.k k8).rd]; rfl, Wif_intro (fun he => ?_) (fun he => ?_)⟩
        · have he' : (yp : Int) = p := by simpa using he
          refine ⟨_, _, _, by rw [oz8.rd]; rfl, ?_⟩
          simp only [isP_some, Wif_true, gIf_true, pb_some, po_some, Nat.zero_add, eBi, Int.toNat_natCast]
          refine ⟨_, q2, T.length - (i + 1), by omega, i + 1, rfl, by omega, rfl, k8, .inr ⟨trivial, ?_⟩⟩
          have hm : (yp, yo) ∈ T := List.mem_iff_getElem?.2 ⟨i, hy⟩
          exact mem_tk.2 ⟨⟨yp, yo, 1⟩, (ht4.2 _ rfl).2 hm, rfl, he', rfl⟩
        · have he' : (yp : Int) ≠ p := by simpa using he
          refine ⟨T.length - (i + 1), by omega, i + 1, rfl, by omega, rfl, k8, ?_⟩
          rcases hst with ⟨s1, s2, s3⟩ | ⟨s1, s2⟩
          · refine .inl ⟨s1, s2, fun j y hj hjy => ?_⟩
            rcases Nat.lt_or_ge j i with h | h
            · exact s3 j y h hjy
            · have : j = i := by omega
              subst this
              rw [hy] at hjy
              cases hjy
              exact he'
          · exact .inr ⟨s1, s2⟩
      have hiT : i = T.length := by simp at hc3; omega
      subst hiT
      have heq : is1 = has ∧ o1 = p1 := by
        rcases htk with ⟨r1, r2⟩ | ⟨r1, r2, r3⟩ <;> rcases hst with ⟨s1, s2, s3⟩ | ⟨s1, s2⟩
        · exfalso
          obtain ⟨x, hx1, hx2, hx3, hx4⟩ := mem_tk.1 r2
          obtain ⟨j, hj⟩ := List.mem_iff_getElem?.1 ((ht4.2 x hx2).1 hx1)
          exact s3 j _ (List.getElem?_eq_some_iff.1 hj).1 hj hx3
        · exact ⟨by rw [r1, s1], tk_uniq i4 r2 s2⟩
        · exact ⟨by rw [r1, s1], by rw [r2, s2]⟩
        · exact absurd s2 (r3 _)
      obtain ⟨rfl, rfl⟩ := heq
      exact Wif_no (by simp) (next w7 b t m L T (K6.tr k7) fr (h6.k k7) i4 (hR6.k k7) ht4 (by omega))
    · -- Copy
      refine (copy_spec h6).mono ?_
      rintro _ w7 ⟨b', m', t', rfl, k7, h7, fr7⟩
      have o7 := o6.k k7
      have hlt6 : ∀ x, bblk b m t x → x < w6.heap.size := fun x hx => h6.lt hx
      refine ⟨_, rfl, hh, by rw [o7.rd]; rfl, (take_spec (h6.k k7) i4 0 hh).mono ?_⟩
      rintro _ w8 ⟨a, e, L1, rfl, k8, h8, i8, t8⟩
      have o8 := o7.kx k8 fun hx => by have := hb4 _ hx; omega
      have hR8 := rat_bat (hR6.k k7) (h6.k k7) k8
      have c8 := h7.kx k8 fun x hx hx' => by have := hlt6 _ hx; have := fr7 _ hx'; omega
      refine ⟨_, _, rfl, p, by rw [o8.rd]; rfl, o, by rw [o8.rd]; rfl, (give_spec h8 i8 p o).mono ?_⟩
      rintro _ w9 ⟨e2, L2, rfl, k9, h9, i9, t9⟩
      have hR9 := rat_bat hR8 h8 k9
      have c9 := c8.kx k9 fun x hx hx' => by have := hlt6 _ hx; have := fr7 _ hx'; omega
      refine ⟨_, rfl, Wif_no rfl (next w9 b' t' m' L T (own0 (own0 (K6.tr k7) k8 fr) k9 fr) (fun x hx => ?_) c9 i4 hR9 ht4 (by omega))⟩
      have := fr7 x hx
      have := K6.sz
      omega
    · exact next w6 b t m L T K6 fr h6 i4 hR6 ht4 (by omega)
  · rintro e w' ⟨v, rfl, rfl, hw⟩
    exact ⟨rfl, hw⟩
end Go.Proofs.Ytkmcmkimeibjdaa
namespace Go.Proofs.Ytkmcmkimeibjdaa
open Go Eng
set_option linter.unusedSimpArgs false
set_option linter.unusedVariables false
set_option maxRecDepth 100000
/-! ### the document's zones at a world -/
structure Rz where
  bg : Nat
  bc : Nat
  ng : Nat
  nc : Nat
  c : Nat → Int
  k : Nat
  rb : Nat → Nat
def Rz.n (R : Rz) (i : Nat) : Nat := (R.c (18 + i)).toNat
def Rz.N (R : Rz) : Nat := (fstF R.c R.k).toNat
structure RZ (w : World) (y : Nat) (R : Rz) (L : Nat → List Bk) (T : Nat → List (Nat × Nat)) : Prop where
  so : own w y (cfg R.c ++ [.slice (some ⟨R.bg, 0, none⟩) R.k R.bc, .slice (some ⟨R.ng, 0, none⟩) R.N R.nc])
  sb : ∃ cs, own w R.bg cs ∧ ∀ i, i < R.k → cs[i]? = some (ptr (R.rb i))
  sn : ∃ cs, own w R.ng cs ∧ ∀ (f i : Nat), i < R.k → fstF R.c i ≤ (f : Int) → (f : Int) < fstF R.c (i + 1) → cs[f]? = some (.int .i64 (i : Int))
  at_ : ∀ i, i < R.k → RAt w (R.rb i) (R.n i) (bks (L i)) (T i)
  ne : ∀ i, i < R.k → R.rb i ≠ y ∧ R.rb i ≠ R.bg ∧ R.rb i ≠ R.ng
  nj : ∀ i j, i < R.k → j < R.k → i ≠ j → R.rb i ≠ R.rb j
  kc : (R.k : Int) = R.c 0
  my : MayP R.c
section
variable {w w' : World} {y z : Nat} {R : Rz} {S : Zs} {L L' : Nat → List Bk} {T : Nat → List (Nat × Nat)}
theorem RZ.k8 (h : RZ w y R L T) : 1 ≤ R.k ∧ R.k ≤ 8 := by have := h.my.1; have := h.kc; omega
theorem RZ.k' (h : RZ w y R L T) (k : Kept none' w w') : RZ w' y R L T := by
  obtain ⟨cs, h1, h2⟩ := h.sb
  obtain ⟨ds, h3, h4⟩ := h.sn
  exact ⟨h.so.k k, ⟨cs, h1.k k, h2⟩, ⟨ds, h3.k k, h4⟩, fun i hi => (h.at_ i hi).k k, h.ne, h.nj, h.kc, h.my⟩
theorem RZ.one (h : RZ w y R L T) {i : Nat} (hi : i < R.k) (k : Kept (· = R.rb i) w w') {l' : List Bk} {T' : List (Nat × Nat)} (ha : RAt w' (R.rb i) (R.n i) (bks l') T') : RZ w' y R (upd L i l') (upd T i T') := by
  obtain ⟨cs, h1, h2⟩ := h.sb
  obtain ⟨ds, h3, h4⟩ := h.sn
  obtain ⟨n1, n2, n3⟩ := h.ne i hi
  refine ⟨h.so.kx k fun e => n1 e.symm, ⟨cs, h1.kx k fun e => n2 e.symm, h2⟩, ⟨ds, h3.kx k fun e => n3 e.symm, h4⟩, fun j hj => ?_, h.ne, h.nj, h.kc, h.my⟩
  by_cases e : j = i
  · subst e; rw [upd_same, upd_same]; exact ha
  · rw [upd_ne _ _ e, upd_ne _ _ e]
    refine (h.at_ j hj).kx k (h.nj j i hj hi e) fun v n xs row x hx hxe => ?_
    obtain ⟨_, _, _, _, o, _, _⟩ := (h.at_ i hi).one
    subst hxe
    exact row_odd row o (by simp) hx
/-- apart from zones of the code -/
def Apart (z y : Nat) (S : Zs) (R : Rz) : Prop := ∀ x, S.all z x → x ≠ y ∧ x ≠ R.bg ∧ x ≠ R.ng
theorem RZ.zat (h : RZ w y R L T) (hz : ZAt w z S L') (ap : Apart z y S R) {i : Nat} (hi : i < S.k) (k : Kept (S.bl i) w w') : RZ w' y R L T := by
  obtain ⟨cs, h1, h2⟩ := h.sb
  obtain ⟨ds, h3, h4⟩ := h.sn
  have hall : ∀ x, S.bl i x → S.all z x := fun x hx => .inr (.inr ⟨i, hi, hx⟩)
  exact ⟨h.so.kx k fun e => (ap _ (hall _ e)).1 rfl, ⟨cs, h1.kx k fun e => (ap _ (hall _ e)).2.1 rfl, h2⟩, ⟨ds, h3.kx k fun e => (ap _ (hall _ e)).2.2 rfl, h4⟩, fun j hj => rat_bat (h.at_ j hj) (hz.bt i hi) k, h.ne, h.nj, h.kc, h.my⟩
theorem RZ.off (h : RZ w y R L T) (hz : ZAt w z S L') {i : Nat} (hi : i < R.k) : ¬ S.all z (R.rb i) := by
  obtain ⟨_, _, _, _, o, _, _⟩ := (h.at_ i hi).one
  rintro (e | e | ⟨j, hj, hb⟩)
  · have h1 := hz.r (j := 5) (by omega)
    rw [← e, o.rd] at h1
    cases h1
  · obtain ⟨cs, h1, h2⟩ := hz.sg
    have h3 := h2 0 (by have := hz.k8; omega)
    have h4 := h1.rd 0
    rw [← e, o.rd, h3] at h4
    cases h4
  · exact rat_not (h.at_ i hi) (hz.bt j hj) hb
theorem ZAt.rz (hz : ZAt w z S L') (h : RZ w y R L T) {i : Nat} (hi : i < R.k) (k : Kept (· = R.rb i) w w') : ZAt w' z S L' :=
  hz.kx k fun x hx ha => h.off hz hi (hx ▸ ha)
theorem RZ.r (h : RZ w y R L T) {j : Nat} (hj : j < 94) : rd w y j = some (.int .i64 (R.c j)) := by
  rw [h.so.rd, List.getElem?_append_left (by rw [runI_len]; exact hj), runI_get _ _ _ _ _ hj, Nat.zero_add]
theorem RZ.r94 (h : RZ w y R L T) : rd w y 94 = some (.slice (some ⟨R.bg, 0, none⟩) R.k R.bc) := by
  rw [h.so.rd, List.getElem?_append_right (by rw [runI_len]; omega), runI_len]; rfl
theorem RZ.r95 (h : RZ w y R L T) : rd w y 95 = some (.slice (some ⟨R.ng, 0, none⟩) R.N R.nc) := by
  rw [h.so.rd, List.getElem?_append_right (by rw [runI_len]; omega), runI_len]; rfl
theorem RZ.rg (h : RZ w y R L T) {i : Nat} (hi : i < R.k) : rd w R.bg i = some (ptr (R.rb i)) := by
  obtain ⟨cs, h1, h2⟩ := h.sb
  rw [h1.rd, h2 i hi]
theorem RZ.rn (h : RZ w y R L T) {f i : Nat} (hi : i < R.k) (h1 : fstF R.c i ≤ (f : Int)) (h2 : (f : Int) < fstF R.c (i + 1)) : rd w R.ng f = some (.int .i64 (i : Int)) := by
  obtain ⟨cs, h3, h4⟩ := h.sn
  rw [h3.rd, h4 f i hi h1 h2]
theorem RZ.NN (h : RZ w y R L T) : (R.N : Int) = fstF R.c R.k ∧ R.N ≤ 1024 := by
  have := h.my.fst (k := R.k) (by have := h.kc; omega)
  have := h.k8
  unfold Rz.N
  omega
theorem RZ.fst (h : RZ w y R L T) {i : Nat} (hi : i ≤ R.k) : 0 ≤ fstF R.c i ∧ fstF R.c i ≤ 1024 := by
  have := h.my.fst (k := i) (by have := h.kc; omega)
  have := h.k8
  omega
theorem RZ.fr (h : RZ w y R L T) {i : Nat} (hi : i < R.k) : (R.n i : Int) = R.c (18 + i) ∧ 4 ≤ R.n i ∧ R.n i ≤ 128 := by
  have := h.my.fr (i := i) (by have := h.kc; omega)
  unfold Rz.n
  omega
theorem node_at {c : Nat → Int} {q : Int} (h0 : 0 ≤ q) : ∀ {k : Nat}, q < fstF c k → ∃ j, j < k ∧ fstF c j ≤ q ∧ q < fstF c (j + 1)
  | 0, h => by simp [fstF] at h; omega
  | k + 1, h => by
    rcases Int.lt_or_le q (fstF c k) with h1 | h1
    · obtain ⟨j, h2, h3⟩ := node_at h0 h1
      exact ⟨j, by omega, h3⟩
    · exact ⟨k, by omega, h1, h⟩
theorem rfirst_spec (h : RZ w y R L T) {i : Nat} (hi : i < R.k) : Calls Try.prog 63 #[ptr y, .int .i64 (i : Int)] w fun r w' => r = .returned (.int .i64 (fstF R.c i)) ∧ Kept none' w w' := by
  refine (vc63 _ _ w (fun v w' => v = .int .i64 (fstF R.c i) ∧ Kept none' w w') ?_).mono ?_
  · unfold vcP63
    have hN := h.NN
    have hf := h.fst (i := i) (by omega)
    have hfN := fstF_mono h.my (i := i + 1) (k := R.k) (by omega) (by have := h.kc; omega)
    have hpos : fstF R.c i < fstF R.c (i + 1) := by
      have := h.fr hi
      have e : fstF R.c (i + 1) = fstF R.c i + R.c (18 + i) := rfl
      omega
    refine ⟨fun k w' M => ∃ q : Nat, k = (q : Int) ∧ (q : Int) ≤ fstF R.c i ∧ M = R.N - q ∧ w' = w, ⟨R.N, 0, rfl, by omega, rfl, rfl⟩, ?_⟩
    rintro _ w1 _ ⟨q, rfl, hq, rfl, hw1⟩
    rw [hw1]
    clear hw1 w1
    simp only [isP_some, Wif_true, gIf_true, pb_some, po_some, Nat.zero_add]
    have e0 : decide ((q : Int) < (R.N : Int)) = true := by simp; omega
    have eB : inB (q : Int) R.N = true := inB_of (by omega) (by omega)
    refine ⟨_, _, _, h.r95, ?_⟩
    simp only [e0]
    refine ⟨_, _, _, fun _ => h.r95, ?_⟩
    simp only [isP_some, Wif_true, gIf_true, pb_some, po_some, Nat.zero_add, eB, Int.toNat_natCast, Nat.mul_one]
    rcases Int.lt_or_le (q : Int) (fstF R.c i) with hlt | hge
    · obtain ⟨j, hj, h1, h2⟩ := node_at (by omega) hlt
      refine ⟨(j : Int), fun _ => h.rn (by omega) h1 h2, Wif_yes (by simp; omega) ⟨R.N - (q + 1), by omega, q + 1, by rw [wi (by omega)]; rfl, by omega, rfl, trivial⟩⟩
    · refine ⟨(i : Int), fun _ => h.rn hi hge (by omega), Wif_no (by simp) ?_⟩
      have : (q : Int) = fstF R.c i := by omega
      rw [this]
      exact ⟨rfl, Kept.refl _ _⟩
  · rintro e w' ⟨v, rfl, rfl, hw⟩
    exact ⟨rfl, hw⟩
/-- free frames of a node, whatever its number -/
def rfr (k : Nat) (L : Nat → List Bk) (n : Int) : Nat := if 0 ≤ n ∧ n < (k : Int) then fsum (L n.toNat) else 0
theorem rfree_spec (h : RZ w y R L T) (hv : ∀ i, i < R.k → Inv (R.n i) (L i)) (n : Int) : Calls Try.prog 61 #[ptr y, .int .i64 n] w fun r w' => r = .returned (.int .i64 (rfr R.k L n : Nat)) ∧ w' = w := by
  refine (vc61 _ _ w (fun v w' => v = .int .i64 (rfr R.k L n : Nat) ∧ w' = w) ?_).mono ?_
  · unfold vcP61
    simp only [isP_some, Wif_true, gIf_true, pb_some, po_some, Nat.zero_add]
    refine ⟨_, _, _, fun _ => h.r94, Wif_intro (fun hc => ?_) (fun hc => ?_)⟩
    · unfold rfr
      rw [if_neg (by simp at hc; omega)]
      exact ⟨rfl, trivial⟩
    obtain ⟨i, rfl⟩ : ∃ i : Nat, n = (i : Int) := ⟨n.toNat, by simp at hc; omega⟩
    have hi : i < R.k := by simp at hc; omega
    have hvi := hv i hi
    have hfs := fsum_128 hvi
    have hFl : (bks (L i)).length ≤ 128 := by have := bks_le hvi.tl; have := hvi.n1; omega
    have eB : inB (i : Int) R.k = true := inB_of (by omega) (by omega)
    refine ⟨fun s k w' M => ∃ q : Nat, k = (q : Int) ∧ q ≤ (bks (L i)).length ∧ M = (bks (L i)).length - q ∧ s = ((smL ((bks (L i)).take q) : Nat) : Int) ∧ w' = w, ⟨(bks (L i)).length, 0, rfl, by omega, rfl, by simp [smL], rfl⟩, ?_⟩
    rintro _ _ w1 _ ⟨q, rfl, hq, rfl, rfl, hw1⟩
    rw [hw1]
    clear hw1 w1
    obtain ⟨fa, fc, ta, tc, oz, rF, rT⟩ := (h.at_ i hi).one
    refine ⟨_, _, _, h.r94, ?_⟩
    simp only [isP_some, Wif_true, gIf_true, pb_some, po_some, Nat.zero_add, eB, Int.toNat_natCast, Nat.mul_one]
    refine ⟨_, h.rg hi, ?_⟩
    simp only [isP_some, Wif_true, gIf_true, pb_some, po_some, Nat.zero_add]
    refine ⟨fa, (bks (L i)).length, fc, by rw [oz.rd]; rfl, Wif_intro (fun hc2 => ?_) (fun hc2 => ?_)⟩
    · have hql : q < (bks (L i)).length := by simp at hc2; omega
      refine ⟨_, _, _, h.r94, ?_⟩
      simp only [isP_some, Wif_true, gIf_true, pb_some, po_some, Nat.zero_add, eB, Int.toNat_natCast, Nat.mul_one]
      refine ⟨_, h.rg hi, ?_⟩
      simp only [isP_some, Wif_true, gIf_true, pb_some, po_some, Nat.zero_add]
      obtain ⟨g, rfl, _, _, _, q1, q2⟩ := row2_rd rF hql
      obtain ⟨⟨yp, yo⟩, hy⟩ : ∃ y, (bks (L i))[q]? = some y := ⟨(bks (L i))[q], List.getElem?_eq_getElem hql⟩
      obtain ⟨c1, c2⟩ := tkC_get _ q _ hy
      rw [c2] at q2
      have hyo : yo ≤ 10 := by
        obtain ⟨x, hx, _, e⟩ := mem_bks.1 (List.mem_iff_getElem?.2 ⟨q, hy⟩)
        have := (tile_mem hvi.tl hx).2.2.2
        have e2 := congrArg Prod.snd e
        dsimp only at e2
        omega
      have eBq : inB (q : Int) (bks (L i)).length = true := inB_of (by omega) (by omega)
      refine ⟨_, _, _, by rw [oz.rd]; rfl, ?_⟩
      simp only [isP_some, Wif_true, gIf_true, pb_some, po_some, Nat.zero_add, eBq, Int.toNat_natCast]
      refine ⟨_, q2, Wif_yes (by rw [wu (by omega)]; simp) ⟨(bks (L i)).length - (q + 1), by omega, q + 1, by rw [wi (by omega)]; rfl, by omega, rfl, ?_, trivial⟩⟩
      have h1 := smL_le (d := bks (L i)) q
      rw [smL_bks] at h1
      have h2 := pow10 hyo
      have h3 := Nat.two_pow_pos yo
      rw [shlU hyo, wi (by omega), smL_snoc hy]
      rfl
    · have : q = (bks (L i)).length := by simp at hc2; omega
      subst this
      rw [List.take_length, smL_bks]
      unfold rfr
      rw [if_pos (by omega), Int.toNat_natCast]
      exact ⟨rfl, trivial⟩
  · rintro e w' ⟨v, rfl, rfl, hw⟩
    exact ⟨rfl, hw⟩
/-- how a node is off, whatever its number -/
def rst (c : Nat → Int) (k : Nat) (L : Nat → List Bk) (n : Int) : Int :=
  if n < 0 ∨ (k : Int) ≤ n ∨ (rfr k L n : Int) ≤ c 91 then 0 else if (rfr k L n : Int) ≤ c 92 then 1 else if (rfr k L n : Int) ≤ c 93 then 2 else 3
theorem rstate_spec (h : RZ w y R L T) (hv : ∀ i, i < R.k → Inv (R.n i) (L i)) (n : Int) : Calls Try.prog 62 #[ptr y, .int .i64 n] w fun r w' => r = .returned (.int .i64 (rst R.c R.k L n)) ∧ w' = w := by
  refine (vc62 _ _ w (fun v w' => v = .int .i64 (rst R.c R.k L n) ∧ w' = w) ?_).mono ?_
  · unfold vcP62
    refine (rfree_spec h hv n).mono ?_
    rintro _ wq ⟨rfl, hq⟩
    rw [hq]
    clear hq wq
    refine ⟨_, rfl, ?_⟩
    simp only [isP_some, Wif_true, gIf_true, pb_some, po_some, Nat.zero_add]
    refine ⟨_, _, _, fun _ => h.r94, R.c 91, fun _ => h.r (by omega), ?_⟩
    unfold rst
    refine Wif_intro (fun hc => ?_) (fun hc => ⟨R.c 92, h.r (by omega), Wif_intro (fun hc2 => ?_) (fun hc2 => ⟨R.c 93, h.r (by omega), Wif_intro (fun hc3 => ?_) (fun hc3 => ?_)⟩)⟩)
    · rw [if_pos (by simp at hc; omega)]; exact ⟨rfl, trivial⟩
    all_goals rw [if_neg (by simp at hc; omega)]
    · rw [if_pos (by simpa using hc2)]; exact ⟨rfl, trivial⟩
    all_goals rw [if_neg (by simpa using hc2)]
    · rw [if_pos (by simpa using hc3)]; exact ⟨rfl, trivial⟩
    · rw [if_neg (by simpa using hc3)]; exact ⟨rfl, trivial⟩
  · rintro e w' ⟨v, rfl, rfl, hw⟩
    exact ⟨rfl, hw⟩
theorem rtakeOf_none (h : RZ w y R L T) {n : Int} (hn : n < 0 ∨ (R.k : Int) ≤ n) (order : Int) (high : Bool) :
    Calls Try.prog 40 #[ptr y, .int .i64 n, .int .i64 order, .bool high] w fun r w' => r = .returned (.tuple #[.int .i64 0, .int .i64 7]) ∧ w' = w := by
  refine (vc40 _ _ _ _ w (fun v w' => v = (.tuple #[.int .i64 0, .int .i64 7]) ∧ w' = w) ?_).mono ?_
  · unfold vcP40
    simp only [isP_some, Wif_true, gIf_true, pb_some, po_some, Nat.zero_add]
    exact ⟨_, _, _, fun _ => h.r94, Wif_yes (by simp; omega) ⟨trivial, trivial⟩⟩
  · rintro e w' ⟨v, rfl, rfl, hw⟩
    exact ⟨rfl, hw⟩
theorem rtakeOf_spec (h : RZ w y R L T) {i : Nat} (hi : i < R.k) (hv : Inv (R.n i) (L i)) (ht : Tks (L i) (T i)) (hT : (T i).length ≤ 800) (order : Int) (high : Bool) :
    Calls Try.prog 40 #[ptr y, .int .i64 (i : Int), .int .i64 order, .bool high] w fun r w' => ∃ a e l' T', r = .returned (.tuple #[.int .i64 (if e = 0 then fstF R.c i + a else 0), .int .i64 e]) ∧ Kept (· = R.rb i) w w' ∧ RZ w' y R (upd L i l') (upd T i T') ∧ Inv (R.n i) l' ∧ Tks l' T' ∧ T'.length ≤ (T i).length + 1 ∧ TakeR (L i) order high a e l' := by
  refine (vc40 _ _ _ _ w (fun v w' => ∃ a e l' T', v = (.tuple #[.int .i64 (if e = 0 then fstF R.c i + a else 0), .int .i64 e]) ∧ Kept (· = R.rb i) w w' ∧ RZ w' y R (upd L i l') (upd T i T') ∧ Inv (R.n i) l' ∧ Tks l' T' ∧ T'.length ≤ (T i).length + 1 ∧ TakeR (L i) order high a e l') ?_).mono ?_
  · unfold vcP40
    have eB : inB (i : Int) R.k = true := inB_of (by omega) (by omega)
    simp only [isP_some, Wif_true, gIf_true, pb_some, po_some, Nat.zero_add]
    refine ⟨_, _, _, fun _ => h.r94, Wif_no (by simp; omega) ⟨_, _, _, h.r94, ?_⟩⟩
    simp only [isP_some, Wif_true, gIf_true, pb_some, po_some, Nat.zero_add, eB, Int.toNat_natCast, Nat.mul_one]
    refine ⟨_, h.rg hi, (rtake_spec (h.at_ i hi) hv ht hT order high).mono ?_⟩
    rintro _ w1 ⟨a, e, l', T', rfl, k1, h1, i1, t1, hl1, r1⟩
    have z1 := h.one hi k1 h1
    refine ⟨_, _, rfl, Wif_intro (fun hc => ?_) (fun hc => ?_)⟩
    · have he : e ≠ 0 := by simpa using hc
      exact ⟨a, e, l', T', by rw [if_neg he], k1, z1, i1, t1, hl1, r1⟩
    · have he : e = 0 := by simpa using hc
      subst he
      refine (rfirst_spec z1 hi).mono ?_
      rintro _ w2 ⟨rfl, k2⟩
      have hf := h.fst (i := i) (by omega)
      have ha := takeR_in hv r1
      have hn := h.fr hi
      refine ⟨_, rfl, a, 0, l', T', ?_, k1.tr k2, z1.k' k2, i1, t1, hl1, r1⟩
      rw [if_pos rfl, wi (by omega)]
  · rintro e w' ⟨v, rfl, a, e, l', T', rfl, hw⟩
    exact ⟨a, e, l', T', rfl, hw⟩
theorem rgive_spec' (h : RZ w y R L T) (hv : ∀ i, i < R.k → Inv (R.n i) (L i)) (ht : ∀ i, i < R.k → Tks (L i) (T i)) (hT : ∀ i, i < R.k → (T i).length ≤ 800) (fr order : Int) (hfr : -9223372036854775808 ≤ fr ∧ fr ≤ 9223372036854775807) :
    Calls Try.prog 41 #[ptr y, .int .i64 fr, .int .i64 order] w fun r w' =>
      (∃ i e l' T', i < R.k ∧ fstF R.c i ≤ fr ∧ fr < fstF R.c (i + 1) ∧ r = .returned (.int .i64 e) ∧ Kept (· = R.rb i) w w' ∧ RZ w' y R (upd L i l') (upd T i T') ∧ Inv (R.n i) l' ∧ Tks l' T' ∧ T'.length ≤ (T i).length ∧ GiveR (L i) (fr - fstF R.c i) order e l') ∨
      ((fr < 0 ∨ fstF R.c R.k ≤ fr) ∧ r = .returned (.int .i64 7) ∧ Kept none' w w') := by
  refine (vc41 _ _ _ w (fun v w' => (∃ i e l' T', i < R.k ∧ fstF R.c i ≤ fr ∧ fr < fstF R.c (i + 1) ∧ v = (.int .i64 e) ∧ Kept (· = R.rb i) w w' ∧ RZ w' y R (upd L i l') (upd T i T') ∧ Inv (R.n i) l' ∧ Tks l' T' ∧ T'.length ≤ (T i).length ∧ GiveR (L i) (fr - fstF R.c i) order e l') ∨
      ((fr < 0 ∨ fstF R.c R.k ≤ fr) ∧ v = (.int .i64 7) ∧ Kept none' w w')) ?_).mono ?_
  · unfold vcP41
    have hN := h.NN
    simp only [isP_some, Wif_true, gIf_true, pb_some, po_some, Nat.zero_add]
    refine ⟨_, _, _, fun _ => h.r95, Wif_intro (fun hc => ?_) (fun hc => ?_)⟩
    · exact .inr ⟨by simp at hc; omega, trivial, Kept.refl _ _⟩
    obtain ⟨f, rfl⟩ : ∃ f : Nat, fr = (f : Int) := ⟨fr.toNat, by simp at hc; omega⟩
    have hf : (f : Int) < fstF R.c R.k := by simp at hc; omega
    obtain ⟨i, hi, h1, h2⟩ := node_at (by omega) hf
    have eF : inB (f : Int) R.N = true := inB_of (by omega) (by omega)
    have eB : inB (i : Int) R.k = true := inB_of (by omega) (by omega)
    refine ⟨_, _, _, h.r95, ?_⟩
    simp only [isP_some, Wif_true, gIf_true, pb_some, po_some, Nat.zero_add, eF, Int.toNat_natCast, Nat.mul_one]
    refine ⟨_, h.rn hi h1 h2, fun w1 e1 => ?_⟩
    have k1 : Kept none' w w1 := (Kept.refl _ _).dr e1
    have hw1 := h.k' k1
    refine ⟨_, _, _, hw1.r94, ?_⟩
    simp only [isP_some, Wif_true, gIf_true, pb_some, po_some, Nat.zero_add, eB, Int.toNat_natCast, Nat.mul_one]
    refine ⟨_, hw1.rg hi, (rfirst_spec hw1 hi).mono ?_⟩
    rintro _ w2 ⟨rfl, k2⟩
    have hw2 := hw1.k' k2
    have hfi := h.fst (i := i) (by omega)
    refine ⟨_, rfl, ⟨hw2.rg hi, trivial⟩, ⟨hw2.r94, trivial⟩, ?_⟩
    rw [wi (x := (f : Int) - fstF R.c i) (by omega)]
    refine (rgive_spec (hw2.at_ i hi) (hv i hi) (ht i hi) (hT i hi) _ order).mono ?_
    rintro _ w3 ⟨e, l', T', rfl, k3, h3, i3, t3, hl3, r3⟩
    exact ⟨_, rfl, .inl ⟨i, e, l', T', hi, h1, h2, rfl, ((k1.tr k2).mono fun _ _ h => h.elim).trans k3 fun _ _ h => h, hw2.one hi k3 h3, i3, t3, hl3, r3⟩⟩
  · rintro e w' ⟨v, rfl, hw⟩
    rcases hw with ⟨i, e, l', T', h1, h2, h3, rfl, hw⟩ | ⟨h1, rfl, h2⟩
    · exact .inl ⟨i, e, l', T', h1, h2, h3, rfl, hw⟩
    · exact .inr ⟨h1, rfl, h2⟩
end
end Go.Proofs.Ytkmcmkimeibjdaa
