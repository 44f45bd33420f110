/-
  A part of a proof that a law of this seat returns true at every input. Conditions: those in each theorem.
-/
import Derived.Test.YtkmcmkimeibjdaaBB2
namespace Go.Proofs.Ytkmcmkimeibjdaa
open Go Eng
set_option linter.unusedSimpArgs false
set_option linter.unusedVariables false
set_option maxRecDepth 100000
theorem pick_at (x : Int) {l : Nat} (h0 : 0 < l) (h1 : l ≤ 100) : ∃ k : Nat, k < l ∧ IntKind.wrap .i64 (Int.tmod (IntKind.wrap .u64 x) (IntKind.wrap .u64 (l : Int))) = (k : Int) ∧ (IntKind.wrap .u64 (l : Int) != 0) = true := by
  have e1 : IntKind.wrap .u64 (l : Int) = (l : Int) := by
    simp [IntKind.wrap, IntKind.bits, IntKind.signed]; omega
  have e2 : 0 ≤ IntKind.wrap .u64 x := by
    simp [IntKind.wrap, IntKind.bits, IntKind.signed]; omega
  obtain ⟨y, hy⟩ : ∃ y : Nat, IntKind.wrap .u64 x = (y : Int) := ⟨(IntKind.wrap .u64 x).toNat, by omega⟩
  have hm : y % l < l := Nat.mod_lt _ h0
  refine ⟨y % l, hm, ?_, ?_⟩
  · rw [e1, hy, Int.tmod_eq_emod_of_nonneg (by omega), ← Int.natCast_emod, wi (by omega)]
  · rw [e1]; simp; omega
theorem back_law (n : Int) (l : Option Addr) (lL lC : Nat) (f : Nat → Int) (high : Bool) (nx : Option Addr) (nL nC : Nat) (f2 : Nat → Int) (W : World) (hp : 0 < lL → isP l = true) (hx : ∀ i, i < lL → rd W (pb l) (po l + i) = some (.int .i64 (f i)))
    (hp2 : 0 < nL → isP nx = true) (hx2 : ∀ i, i < nL → rd W (pb nx) (po nx + i) = some (.int .i64 (f2 i))) :
    Calls Try.prog 6 #[.int .i64 n, .slice l lL lC, .bool high, .slice nx nL nC] W fun r w' => r = .returned (.bool true) ∧ Kept none' W w' := by
  refine (vc6 n l lL lC high nx nL nC W (fun v w' => v = .bool true ∧ Kept none' W w') ?_).mono ?_
  · unfold vcP6
    have hknown : ∀ (ds : List Nat) w1, DefsAt ds w1 → (∀ d ∈ ds, W.heap.size ≤ d) → Kept none' W w1 → Calls Try.prog 14 #[] w1 fun (e : Ending) (w' : World) => ∃ (b : Bool), e = Ending.returned (Value.bool b) ∧ DefsAt ds w' ∧
        ∀ (w2 : World), Kept (fun (b : Nat) => List.Mem b ds) w' w2 → w2.heap.size = w'.heap.size → (Value.bool b = .bool true ∧ Kept none' W w2) := fun ds w1 hd hg k1 => by
      refine (known_spec w1).mono ?_
      rintro _ w2 ⟨rfl, k2⟩
      exact ⟨_, rfl, hd.k k2 fun _ _ => id, fun w3 k3 _ => ⟨rfl, own0 (k1.tr k2) k3 fun x hx => hg x hx⟩⟩
    have nil : ∀ w : World, DefsAt [] w := fun w => ⟨List.nodup_nil, fun _ h => by cases h⟩
    refine (new_spec W n).mono ?_
    rintro _ w1 (⟨hno, rfl, rfl⟩ | ⟨N, b, m, t, L0, rfl, rfl, k1, h1, i1, g1, fr1⟩)
    · refine ⟨_, _, rfl, (new_spec w1 n).mono ?_⟩
      rintro _ w2 (⟨_, rfl, rfl⟩ | ⟨N, b, m, t, L0, rfl, rfl, k1, h1, i1, g1, fr1⟩)
      · exact ⟨_, _, rfl, Wif_yes (by simp) (hknown _ _ (nil _) (fun _ h => by cases h) (Kept.refl _ _))⟩
      · have := i1.n1; omega
    refine ⟨_, _, rfl, (new_spec w1 N).mono ?_⟩
    have hN := i1.n1
    rintro _ w2 (⟨hno, rfl, rfl⟩ | ⟨N2, b2, m2, t2, L2, hN2, rfl, k2, h2, i2, g2, fr2⟩)
    · omega
    have : N2 = N := by omega
    subst this
    have e0 : L2 = L0 := i2.zero i1 g2 g1
    subst e0
    have K2 := k1.tr k2
    have h1' := h1.k k2
    have hlt : ∀ x, bblk b m t x → x < w1.heap.size := fun x hx => h1.lt hx
    have hs1 := k1.sz
    refine ⟨_, _, rfl, Wif_intro (fun _ => hknown _ _ (nil _) (fun _ h => by cases h) K2) (fun hc => ?_)⟩
    simp at hc
    have hL : lL ≤ 100 := by omega
    -- taking
    have keepC : ∀ {wa wb : World}, BAt wa b2 m2 t2 (stOf N2 L2) → Kept (bblk b m t) wa wb → BAt wb b2 m2 t2 (stOf N2 L2) := fun h k => h.kx k fun x hx hb => by
      have := hlt x hx
      have := fr2 x hb
      omega
    refine ⟨fun a l c k w' M => ∃ (q : Nat) (L : List Bk) (T : List (Nat × Nat)), k = (q : Int) ∧ q ≤ lL ∧ lL - q = M ∧ l = T.length ∧ l ≤ q ∧ Kept none' W w' ∧ BAt w' b m t (stOf N2 L) ∧ BAt w' b2 m2 t2 (stOf N2 L2) ∧ Inv N2 L ∧ Tks L T ∧ w'.ownsRow w2.heap.size 58 2 (.slice a l c) l (tkC T) ∧ w2.heap.size ≤ w'.heap.size,
      ⟨lL, 0, L2, [], rfl, by omega, rfl, rfl, by simp, K2, h1', h2, i1, ⟨List.nodup_nil, fun y hy => ⟨fun hm => by have := g1 y hm; omega, fun h => by simp at h⟩⟩, World.ownsRow_nil _ _ _ _, Nat.le_refl _⟩, ?_⟩
    have hlt2 : ∀ x, bblk b m t x → x < w2.heap.size := fun x hx => by have := hlt x hx; have := k2.sz; omega
    have hlt3 : ∀ x, bblk b2 m2 t2 x → x < w2.heap.size := fun x hx => h2.lt hx
    have hs2 := K2.sz
    have hrowB : ∀ {w : World} {v : Value} {n : Nat} {xs : List Value}, w.ownsRow w2.heap.size 58 2 v n xs → ∀ x, v.ownBlock = some x → w2.heap.size ≤ x := fun h x hx => (rowTy h hx).1
    generalize hbs : w2.heap.size = base at *
    rintro a l1 c k w5 _ ⟨q, L, T, rfl, hq, rfl, rfl, hlq, k5, h5, c5, i5, t5, row5, z5⟩
    refine Wif_intro (fun hc3 => ?_) (fun hc3 => ?_)
    · simp only [decide_eq_true_eq] at hc3
      have hP := hp (by omega)
      have eP : ∀ {x y : Prop}, Wif (isP l) x y = x := by intro x y; rw [hP]; rfl
      have eB : ∀ {x y : Prop}, Wif (inB (q : Int) lL) x y = x := by intro x y; rw [inB_of (by omega) (by omega)]; rfl
      simp only [eP, eB, Int.toNat_natCast, Nat.mul_one]
      have ew : IntKind.wrap .i64 ((q : Int) + 1) = ((q + 1 : Nat) : Int) := by rw [wi (by omega)]; rfl
      rw [ew]
      refine ⟨_, k5.rd_some (hx q (by omega)) id, (take_spec h5 i5 (f q) _).mono ?_⟩
      rintro _ w7 ⟨r, e, L', rfl, k7, h7, i7, r7⟩
      have K7 : Kept none' W w7 := own0 k5 k7 fr1
      have c7 := keepC c5 k7
      have hs7 := k7.sz
      have row7 := ownsRow_kx row5 k7 fun x hx _ _ hb => by have := hlt2 _ hb; omega
      refine ⟨_, _, rfl, Wif_intro (fun he => ?_) (fun he => ?_)⟩
      · have he0 : e = 0 := by simpa using he
        subst he0
        obtain ⟨o', rr, ho, rfl, hnew, hset, _⟩ := takeR_one i5 r7
        refine ⟨_, K7.rd_some (hx q (by omega)) id, ?_⟩
        rw [ho]
        intro w8 e8
        have k78 : Kept none' w7 w8 := (Kept.refl _ _).al e8
        have p8 := own_alloc (c := [Value.int .i64 (rr : Int), Value.int .i64 (o' : Int)]) e8
        have row8 := ownsRow_kx row7 k78 (fun _ _ _ _ => id)
        have hs8 := k78.sz
        obtain ⟨a2, l2, c2, w9, happ, rfl, row9, k9⟩ := app_blk row8 p8 (m := 1) (off := 0) (c := 1) (news := [Value.int .i64 (rr : Int), Value.int .i64 (o' : Int)]) rfl rfl (fun u hu => by simp at hu; rcases hu with rfl | rfl <;> rfl) (by omega) (by omega)
        have hs9 := k9.sz
        refine ⟨a2, _, c2, w9, happ, lL - (q + 1), by omega, q + 1, L', T ++ [(rr, o')], rfl, by omega, rfl, by simp, by omega, own0 (K7.tr k78) k9 fun x hx => by have := hrowB row8 x hx; omega, (h7.k k78).kx k9 fun x hx hb => by have := hrowB row8 x hx; have := hlt2 x hb; omega,
          (c7.k k78).kx k9 fun x hx hb => by have := hrowB row8 x hx; have := hlt3 x hb; omega, i7, t5.take hnew hset, ?_, by omega⟩
        have : tkC (T ++ [(rr, o')]) = tkC T ++ [Value.int .i64 (rr : Int), Value.int .i64 (o' : Int)] := by simp [tkC]
        rw [this]; exact row9
      · have he0 : e ≠ 0 := by simpa using he
        have := takeR_no r7 he0
        subst this
        exact ⟨lL - (q + 1), by omega, q + 1, L', T, rfl, by omega, rfl, rfl, by omega, K7, h7, c7, i7, t5, row7, by omega⟩
    -- giving back
    refine ⟨fun _ a l c k w' M => ∃ (q : Nat) (L : List Bk) (T : List (Nat × Nat)), k = (q : Int) ∧ q + l ≤ 100 ∧ l = M ∧ l = T.length ∧ Kept none' W w' ∧ BAt w' b m t (stOf N2 L) ∧ BAt w' b2 m2 t2 (stOf N2 L2) ∧ Inv N2 L ∧ Tks L T ∧ w'.ownsRow base 58 2 (.slice a l c) l (tkC T) ∧ base ≤ w'.heap.size,
      ⟨T.length, 0, L, T, rfl, by omega, rfl, rfl, k5, h5, c5, i5, t5, row5, z5⟩, ?_⟩
    clear row5 t5 i5 c5 h5 hc3 hlq
    rintro bb a l1 c _ w6 _ ⟨q, L, T, rfl, hql, rfl, rfl, k6, h6, c6, i6, t6, row6, z6⟩
    have ewq : IntKind.wrap .i64 ((q : Int) + 1) = ((q + 1 : Nat) : Int) := by rw [wi (by omega)]; rfl
    have round : ∀ (w1 : World) (kk : Nat), kk < T.length → Kept none' W w1 → BAt w1 b m t (stOf N2 L) → BAt w1 b2 m2 t2 (stOf N2 L2) → w1.ownsRow base 58 2 (.slice a T.length c) T.length (tkC T) → base ≤ w1.heap.size →
        ∃ (g p o : Nat), a = some ⟨g, 0, none⟩ ∧ rd w1 g (kk * 2) = some (.int .i64 (p : Int)) ∧ rd w1 g (kk * 2 + 1) = some (.int .i64 (o : Int)) ∧
          Calls Try.prog 16 #[ptr b, .int .i64 (p : Int), .int .i64 (o : Int)] w1 fun e w' => e = .returned (.int .i64 0) ∧
            rd w' g (kk * 2) = some (.int .i64 (p : Int)) ∧ rd w' g (kk * 2 + 1) = some (.int .i64 (o : Int)) ∧
            Calls Try.prog 16 #[ptr b, .int .i64 (p : Int), .int .i64 (o : Int)] w' fun e w' => e = .returned (.int .i64 2) ∧
              ∀ w1, w1 = World.drew w' → okSl 0 (kk : Int) (c : Int) = true ∧ okSl ((kk + 1 : Nat) : Int) (T.length : Int) (c : Int) = true ∧
                ∀ w2, w2 = World.alloc w1 (.cells #[] 58) → ∃ (a1 : Option Addr), ∃ (l1 : Nat), ∃ (c1 : Nat), ∃ (w3 : World),
                  appIs Try.prog #[56, 56] 56 (.slice (some ⟨w1.heap.size, 0, none⟩) 0 0) (.slice (some ⟨g, 0, none⟩) kk c) (.slice a1 l1 c1) w2 w3 ∧
                  ∃ (a2 : Option Addr), ∃ (l2 : Nat), ∃ (c2 : Nat), ∃ (w4 : World),
                    appIs Try.prog #[56, 56] 56 (.slice a1 l1 c1) (.slice (offA (some ⟨g, 0, none⟩) c (kk + 1) 2) (T.length - (kk + 1)) (c - (kk + 1))) (.slice a2 l2 c2) w3 w4 ∧
                    ∃ (mm : Nat), Nat.succ mm ≤ T.length ∧ ∃ (q' : Nat) (L : List Bk) (T : List (Nat × Nat)), ((q + 1 : Nat) : Int) = (q' : Int) ∧ q' + l2 ≤ 100 ∧ l2 = mm ∧ l2 = T.length ∧ Kept none' W w4 ∧ BAt w4 b m t (stOf N2 L) ∧ BAt w4 b2 m2 t2 (stOf N2 L2) ∧ Inv N2 L ∧ Tks L T ∧ w4.ownsRow base 58 2 (.slice a2 l2 c2) l2 (tkC T) ∧ base ≤ w4.heap.size := by
      intro w1 kk hkk K1 h1 c1 row1 z1
      obtain ⟨g, rfl, _, hg, _, q1, q2⟩ := row2_rd row1 hkk
      obtain ⟨⟨p, o⟩, hpo⟩ : ∃ x, T[kk]? = some x := ⟨T[kk], by simp [hkk]⟩
      obtain ⟨cc1, cc2⟩ := tkC_get T kk _ hpo
      rw [cc1] at q1
      rw [cc2] at q2
      have hsp : T = T.take kk ++ (p, o) :: T.drop (kk + 1) := by
        have := List.getElem?_eq_getElem hkk
        rw [this] at hpo
        have := Option.some.inj hpo
        rw [← this, ← List.drop_eq_getElem_cons hkk, List.take_append_drop]
      have t6' := t6
      rw [hsp] at t6'
      refine ⟨g, p, o, rfl, q1, q2, (give_in h1 i6 t6').mono ?_⟩
      rintro _ w2 ⟨L', rfl, k2, h2, i2, t2', hn2⟩
      have K2 : Kept none' W w2 := own0 K1 k2 fr1
      have c2 := keepC c1 k2
      have row2 := ownsRow_kx row1 k2 fun x hx _ _ hb => by have := hlt2 _ hb; omega
      have hgl : ¬ bblk b m t g := fun hb => by have := hlt2 _ hb; omega
      refine ⟨rfl, k2.rd_some q1 hgl, k2.rd_some q2 hgl, (give_out h2 i2 hn2).mono ?_⟩
      rintro _ w3 ⟨rfl, k3, h3⟩
      have K3 : Kept none' W w3 := own0 K2 k3 fr1
      have c3 := keepC c2 k3
      have row3 := ownsRow_kx row2 k3 fun x hx _ _ hb => by have := hlt2 _ hb; omega
      have hs2 := k2.sz
      have hs3 := k3.sz
      refine ⟨rfl, fun w4 e4 => ?_⟩
      have k4 : Kept none' w3 w4 := (Kept.refl _ _).dr e4
      have hs4 := k4.sz
      have row4 := ownsRow_kx row3 k4 fun _ _ _ _ => id
      obtain ⟨d1, d2, d3⟩ := drain_app (k := kk) row4 hkk (by omega) (by omega)
      refine ⟨d1, d2, fun w5 e5 => ?_⟩
      obtain ⟨a1, l1, c1, w6, happ, a2, l2, c2', w7, happ2, rfl, row7, k7⟩ := d3 w5 e5
      refine ⟨a1, l1, c1, w6, happ, a2, _, c2', w7, happ2, T.length - 1, by omega, q + 1, L', T.take kk ++ T.drop (kk + 1), rfl, by omega, rfl, by simp; omega, (K3.tr k4).tr k7, (h3.k k4).k k7, (c3.k k4).k k7, i2, t2', row7, by have := k7.sz; omega⟩
    refine Wif_intro (fun hc4 => ?_) (fun hc4 => ?_)
    · have hT0 : 0 < T.length := by simp at hc4; omega
      refine Wif_intro (fun hc5 => ?_) (fun hc5 => ?_)
      · have hqn : q < nL := by simp at hc5; omega
        refine Wif_yes (hp2 (by omega)) (Wif_yes (inB_of (by omega) (by omega)) ?_)
        rw [Int.toNat_natCast, Nat.mul_one]
        refine ⟨_, k6.rd_some (hx2 q hqn) id, ?_⟩
        obtain ⟨kk, hkk, hidx, hnz⟩ := pick_at (f2 q) hT0 (by omega)
        rw [hidx, ewq]
        have ek : IntKind.wrap .i64 ((kk : Int) + 1) = ((kk + 1 : Nat) : Int) := by rw [wi (by omega)]; rfl
        rw [ek]
        refine Wif_yes hnz fun w1 e1 => ?_
        have k61 : Kept none' w6 w1 := (Kept.refl _ _).dr e1
        obtain ⟨g, p, o, rfl, q1, q2, hr⟩ := round w1 kk hkk (k6.tr k61) (h6.k k61) (c6.k k61) (ownsRow_kx row6 k61 fun _ _ _ _ => id) (by have := k61.sz; omega)
        have eB : ∀ {x y : Prop}, Wif (inB (kk : Int) T.length) x y = x := by intro x y; rw [inB_of (by omega) (by omega)]; rfl
        have eG : ∀ {x y : Prop}, gIf (inB (kk : Int) T.length) y x = x := by intro x y; rw [inB_of (by omega) (by omega)]; simp [gIf]
        simp only [eB, eG, isP_some, Wif_true, gIf_true, pb_some, po_some, Nat.zero_add, Int.toNat_natCast]
        refine ⟨_, q1, _, q2, hr.mono ?_⟩
        rintro _ w3 ⟨rfl, q3, q4, hr3⟩
        refine ⟨_, rfl, _, fun _ => q3, _, fun _ => q4, Wif_no rfl (hr3.mono ?_)⟩
        rintro _ w4 ⟨rfl, hr4⟩
        refine ⟨_, rfl, Wif_no rfl fun w5 e5 => ?_⟩
        obtain ⟨d1, d2, d3⟩ := hr4 w5 e5
        exact Wif_yes d1 (Wif_yes d2 d3)
      · intro w1 e1
        rw [ewq]
        have k61 : Kept none' w6 w1 := (Kept.refl _ _).dr e1
        obtain ⟨g, p, o, rfl, q1, q2, hr⟩ := round w1 0 hT0 (k6.tr k61) (h6.k k61) (c6.k k61) (ownsRow_kx row6 k61 fun _ _ _ _ => id) (by have := k61.sz; omega)
        have eB : ∀ {x y : Prop}, Wif (inB 0 T.length) x y = x := by intro x y; rw [inB_of (by omega) (by omega)]; rfl
        have eG : ∀ {x y : Prop}, gIf (inB 0 T.length) y x = x := by intro x y; rw [inB_of (by omega) (by omega)]; simp [gIf]
        simp only [eB, eG, isP_some, Wif_true, gIf_true, pb_some, po_some, Nat.zero_add, Int.toNat_natCast]
        simp only [Nat.zero_mul, Nat.zero_add] at q1 q2 hr
        refine ⟨_, q1, _, q2, hr.mono ?_⟩
        rintro _ w3 ⟨rfl, q3, q4, hr3⟩
        refine ⟨_, rfl, _, fun _ => q3, _, fun _ => q4, Wif_no rfl (hr3.mono ?_)⟩
        rintro _ w4 ⟨rfl, hr4⟩
        refine ⟨_, rfl, Wif_no rfl fun w5 e5 => ?_⟩
        obtain ⟨d1, d2, d3⟩ := hr4 w5 e5
        exact Wif_yes d2 d3
    have hT0 : T = [] := by simpa using hc4
    subst hT0
    have eL : L = L2 := i6.zero i1 (t6.none i6) g1
    subst eL
    have hfree := t6.none i6
    clear row6 t6 round ewq
    intro v1 e1 v2 e2 v3 e3 v4 e4
    have x1 := own_alloc (c := [Value.slice none 0 0]) e1
    have x2 := own_alloc (c := [Value.slice none 0 0]) e2
    have x4 := own_alloc (c := [ptr b]) e4
    have k61 : Kept none' w6 v1 := (Kept.refl _ _).al e1
    have k12 : Kept none' v1 v2 := (Kept.refl _ _).al e2
    have k23 : Kept none' v2 v3 := (Kept.refl _ _).al e3
    have k34 : Kept none' v3 v4 := (Kept.refl _ _).al e4
    have s1 : v1.heap.size = w6.heap.size + 1 := by rw [e1]; simp only [World.alloc, Array.size_push]
    have s2 : v2.heap.size = w6.heap.size + 2 := by rw [e2]; simp only [World.alloc, Array.size_push]; omega
    have s3 : v3.heap.size = w6.heap.size + 3 := by rw [e3]; simp only [World.alloc, Array.size_push]; omega
    have s4 : v4.heap.size = w6.heap.size + 4 := by rw [e4]; simp only [World.alloc, Array.size_push]; omega
    have k14 := (k12.tr k23).tr k34
    have k64 := k61.tr k14
    have X4 := x1.k k14
    have Y4 := x2.k (k23.tr k34)
    have h4 := h6.k k64
    have c4 := c6.k k64
    have K4 := k6.tr k64
    have hs6 := k6.sz
    have hlen : (bks L).length ≤ 128 := by have := frB_len L; have := tile_le i6.tl; have := bks_len L; omega
    generalize hkx : w6.heap.size = kx at *
    rw [s1] at Y4
    refine collect h4 i6 (by rw [x4.rd]; rfl) X4 ?_
    intro W1 a1 l1 c1 K1 ox hl1 row1 d1 u1 f1 u2 f2
    have y2 := own_alloc (c := [ptr b2]) f2
    have m1 : Kept none' W1 u1 := (Kept.refl _ _).al f1
    have m2' : Kept none' u1 u2 := (Kept.refl _ _).al f2
    have m12 := m1.tr m2'
    have hz1 := K1.sz
    have hz2 := m12.sz
    have oy2 := (Y4.kx K1 (by omega)).k m12
    have K1W : Kept none' W W1 := own0 K4 K1 fun x hx => by omega
    have hb4 : ∀ x, bblk b m t x → x < kx := fun x hx => by have := hlt2 x hx; omega
    have hb5 : ∀ x, bblk b2 m2 t2 x → x < kx := fun x hx => by have := hlt3 x hx; omega
    have hc1 := (c4.kx K1 fun x hx hb => by have := hb5 x hb; omega).k m12
    have hh1 := (h4.kx K1 fun x hx hb => by have := hb4 x hb; omega).k m12
    have d12 := d1.k m12 (fun h => h)
    have row12 := ownsRow_kx row1 m12 fun _ _ _ _ => id
    have ox2 := ox.k m12
    have dlt : v4.heap.size < u2.heap.size := (Array.getElem?_eq_some_iff.1 d12.at_).1
    rw [s1]
    refine collect hc1 i6 (by rw [y2.rd]; rfl) oy2 ?_
    intro W2 a2 l2 c2 K2' oy hl2 row2 d2
    have hz3 := K2'.sz
    have K2W : Kept none' W W2 := own0 (K1W.tr m12) K2' fun x hx => by omega
    have ox3 := ox2.kx K2' (by omega)
    have hh3 := hh1.kx K2' fun x hx hb => by have := hb4 x hb; omega
    have row13 := ownsRow_kx row12 K2' fun x hx _ _ h => by omega
    have hds : DefsAt [u2.heap.size, v4.heap.size] W2 := by
      refine ⟨by simp; omega, fun D hD => ?_⟩
      simp at hD
      rcases hD with rfl | rfl
      · exact d2.at_
      · exact (d12.k K2' (by omega)).at_
    have hge : ∀ d ∈ [u2.heap.size, v4.heap.size], W.heap.size ≤ d := fun d hd => by
      simp at hd
      rcases hd with rfl | rfl <;> omega
    refine ⟨a1, l1, c1, by rw [ox3.rd]; rfl, a2, l2, c2, by rw [oy.rd]; rfl, Wif_no (by simp; omega) ?_⟩
    refine (free_st hh3 i6).mono ?_
    rintro _ _ ⟨rfl, rfl⟩
    rename_i W2
    have hfs := tile_sumB L 0 N2 i6.tl hfree
    refine ⟨_, rfl, Wif_no (by simp; omega) ?_⟩
    refine ⟨a1, l1, c1, by rw [ox3.rd]; rfl, ?_⟩
    refine ⟨fun _ k w' M => ∃ i : Nat, k = (i : Int) ∧ i ≤ l1 ∧ l1 - i = M ∧ Kept none' W2 w', ⟨l1, 0, rfl, by omega, rfl, Kept.refl _ _⟩, ?_⟩
    rintro _ _ W3 _ ⟨i, rfl, hi1, rfl, K3⟩
    refine Wif_intro (fun hc6 => ?_) (fun hc6 => ?_)
    · have hil : i < l1 := by simp at hc6; omega
      intro W4 e4'
      have K34 := K3.dr e4'
      have rowA := ownsRow_kx row13 K34 fun _ _ _ _ => id
      have rowB := ownsRow_kx row2 K34 fun _ _ _ _ => id
      obtain ⟨gA, rfl, _, _, _, p1, p2⟩ := row2_rd rowA hil
      obtain ⟨gB, rfl, _, _, _, q1, q2⟩ := row2_rd rowB (show i < l2 by omega)
      obtain ⟨⟨p, o⟩, hpo⟩ : ∃ x, (bks L)[i]? = some x := ⟨(bks L)[i]'(by omega), List.getElem?_eq_getElem _⟩
      obtain ⟨cc1, cc2⟩ := tkC_get _ i _ hpo
      rw [cc1] at p1 q1
      rw [cc2] at p2 q2
      refine ⟨_, _, _, by rw [(ox3.k K34).rd]; rfl, Wif_yes rfl (Wif_yes (inB_of (by omega) (by omega)) ?_)⟩
      simp only [Int.toNat_natCast, pb_some, po_some, Nat.zero_add]
      refine ⟨_, _, ⟨p1, p2⟩, _, _, _, by rw [(oy.k K34).rd]; rfl, Wif_yes rfl (Wif_yes (inB_of (by omega) (by omega)) ?_)⟩
      simp only [Int.toNat_natCast, pb_some, po_some, Nat.zero_add]
      refine ⟨_, _, ⟨q1, q2⟩, Wif_no (by simp) ⟨l1 - (i + 1), by omega, i + 1, by rw [wi (by omega)]; rfl, by omega, rfl, K34⟩⟩
    · exact hknown _ _ (hds.k K3 fun _ _ => id) hge (K2W.tr K3)
  · rintro e w' ⟨v, rfl, rfl, hw⟩
    exact ⟨rfl, hw⟩
end Go.Proofs.Ytkmcmkimeibjdaa
