/-
  A part of a proof that a law of this seat returns true at every input. Conditions: those in each theorem.
-/
import Derived.Test.YtkmcmkimeibjdaaZR2
namespace Go.Proofs.Ytkmcmkimeibjdaa
open Go Eng
set_option linter.unusedSimpArgs false
set_option linter.unusedVariables false
set_option maxRecDepth 100000
/-! ### the document's Frames -/
def ndL (c : Nat → Int) : Nat → List Value
  | 0 => []
  | k + 1 => ndL c k ++ List.replicate (c (18 + k)).toNat (.int .i64 (k : Int))
theorem ndL_len {c : Nat → Int} (h : MayP c) : ∀ {k : Nat}, (k : Int) ≤ c 0 → ((ndL c k).length : Int) = fstF c k
  | 0, _ => rfl
  | k + 1, hk => by
    have := ndL_len h (k := k) (by omega)
    have f := h.fr (i := k) (by omega)
    simp only [ndL, fstF, List.length_append, List.length_replicate]
    omega
theorem ndL_get {c : Nat → Int} (h : MayP c) : ∀ {k : Nat}, (k : Int) ≤ c 0 → ∀ {f i : Nat}, i < k → fstF c i ≤ (f : Int) → (f : Int) < fstF c (i + 1) → (ndL c k)[f]? = some (.int .i64 (i : Int))
  | 0, _, f, i, hi, _, _ => absurd hi (Nat.not_lt_zero _)
  | k + 1, hk, f, i, hi, h1, h2 => by
    have hl := ndL_len h (k := k) (by omega)
    have fr := h.fr (i := k) (by omega)
    unfold ndL
    by_cases e : i = k
    · subst e
      have e2 : fstF c (i + 1) = fstF c i + c (18 + i) := rfl
      rw [List.getElem?_append_right (by omega), List.getElem?_replicate, if_pos (by omega)]
    · have := fstF_mono h (i := i + 1) (k := k) (by omega) (by omega)
      rw [List.getElem?_append_left (by omega)]
      exact ndL_get h (by omega) (by omega) h1 h2
theorem rframes_spec (c : Nat → Int) (hm : MayP c) (w : World) : Calls Try.prog 59 #[cfgV c] w fun r w' => ∃ a cp, r = .returned (.slice a (fstF c (c 0).toNat).toNat cp) ∧ Kept none' w w' ∧ w'.ownsRow w.heap.size 3 1 (.slice a (fstF c (c 0).toNat).toNat cp) (fstF c (c 0).toNat).toNat (ndL c (c 0).toNat) := by
  refine (vc59 c w (fun v w' => ∃ a cp, v = (.slice a (fstF c (c 0).toNat).toNat cp) ∧ Kept none' w w' ∧ w'.ownsRow w.heap.size 3 1 (.slice a (fstF c (c 0).toNat).toNat cp) (fstF c (c 0).toNat).toNat (ndL c (c 0).toNat)) ?_).mono ?_
  · unfold vcP59
    have h0 := hm.1
    intro w1 e1
    have o1 := own_alloc e1
    have k1 : Kept none' w w1 := (Kept.refl _ _).al e1
    have s1 : w1.heap.size = w.heap.size + 1 := by rw [e1]; simp only [World.alloc, Array.size_push]
    generalize hb : w.heap.size = b at *
    clear e1
    have brow : ∀ {w : World} {v : Value} {n : Nat} {xs : List Value}, w.ownsRow (b + 1) 3 1 v n xs → ∀ x, v.ownBlock = some x → b + 1 ≤ x := fun h x hx => (h.lt x hx).1
    refine ⟨fun a l cp k w' M => ∃ q : Nat, k = (q : Int) ∧ (q : Int) ≤ c 0 ∧ M = (c 0).toNat - q ∧ Kept none' w w' ∧ own w' b (cfg c) ∧ b + 1 ≤ w'.heap.size ∧ l = (ndL c q).length ∧ w'.ownsRow (b + 1) 3 1 (.slice a l cp) l (ndL c q), ⟨(c 0).toNat, 0, rfl, by omega, rfl, k1, o1, by omega, rfl, World.ownsRow_nil _ _ _ _⟩, ?_⟩
    rintro a _ cp _ w2 _ ⟨q, rfl, hq, rfl, k2, o2, s2, rfl, row2⟩
    refine ⟨c, o2.rIall, (rmay_spec c w2).mono ?_⟩
    rintro _ w3 ⟨mb, rfl, hmb, k23⟩
    have : mb = true := hmb.2 hm
    subst this
    have o3 := o2.k k23
    have row3 := ownsRow_kx row2 k23 fun _ _ _ _ => id
    have k3 := k2.tr k23
    have s3 := k23.sz
    refine ⟨true, rfl, c 0, fun _ => o3.rI (by omega), Wif_intro (fun hc => ?_) (fun hc => ?_)⟩
    · have hlt : (q : Int) < c 0 := by simpa using hc
      have hf := hm.fr (i := q) (by omega)
      have hlen := ndL_len hm (k := q) (by omega)
      have hfst := hm.fst (k := q) (by omega)
      refine ⟨fun a l cp k w' M => ∃ p : Nat, k = (p : Int) ∧ (p : Int) ≤ c (18 + q) ∧ M = (c (18 + q)).toNat - p ∧ Kept none' w w' ∧ own w' b (cfg c) ∧ b + 1 ≤ w'.heap.size ∧ l = (ndL c q).length + p ∧ w'.ownsRow (b + 1) 3 1 (.slice a l cp) l (ndL c q ++ List.replicate p (.int .i64 (q : Int))), ⟨(c (18 + q)).toNat, 0, rfl, by omega, rfl, k3, o3, by omega, rfl, by simpa using row3⟩, ?_⟩
      rintro a _ cp _ w4 _ ⟨p, rfl, hp, rfl, k4, o4, s4, rfl, row4⟩
      refine Wif_yes (inB_of (by omega) (by omega)) ⟨c (18 + q), by rw [Int.toNat_natCast, Nat.mul_one]; exact o4.rI (by omega), Wif_intro (fun hc2 => ?_) (fun hc2 => ?_)⟩
      · simp only [decide_eq_true_eq] at hc2
        intro w5 e5
        have k45 : Kept none' w4 w5 := (Kept.refl _ _).al e5
        have p5 := own_alloc (c := [.int .i64 (q : Int)]) e5
        have row5 := ownsRow_kx row4 k45 fun _ _ _ _ => id
        have s5 := k45.sz
        obtain ⟨a', l', c', w6, happ, rfl, row6, k6⟩ := app_one (t := 42) (e := 3) Try.underlying42 info_int rfl row5 p5 (m := 1) (off := 0) (c := 1) (news := [.int .i64 (q : Int)]) rfl rfl (fun u hu => by simp at hu; subst hu; rfl) (by omega) (by omega)
        have s6 := k6.sz
        refine ⟨a', _, c', w6, happ, (c (18 + q)).toNat - (p + 1), by omega, p + 1, by rw [wi (by omega)]; rfl, by omega, rfl, own0 (k4.tr k45) k6 fun x hx => by have := brow row5 x hx; omega, (o4.k k45).kx k6 fun hx => by have := brow row5 _ hx; omega, by omega, rfl, ?_⟩
        have : ndL c q ++ List.replicate (p + 1) (Value.int .i64 (q : Int)) = ndL c q ++ List.replicate p (.int .i64 (q : Int)) ++ [.int .i64 (q : Int)] := by rw [List.replicate_succ', List.append_assoc]
        rw [this]
        exact row6
      · have hpe : p = (c (18 + q)).toNat := by simp at hc2; omega
        subst hpe
        have : (ndL c q).length + (c (18 + q)).toNat = (ndL c (q + 1)).length := by simp [ndL]
        rw [this] at row4
        exact ⟨(c 0).toNat - (q + 1), by omega, q + 1, by rw [wi (by omega)]; rfl, by omega, rfl, k4, o4, s4, this, by rw [this]; exact row4⟩
    · have hqe : q = (c 0).toNat := by simp at hc; omega
      subst hqe
      have hlen := ndL_len hm (k := (c 0).toNat) (by omega)
      have e : (ndL c (c 0).toNat).length = (fstF c (c 0).toNat).toNat := by omega
      rw [e] at row3 ⊢
      refine ⟨a, cp, rfl, k3, row3.1, ?_⟩
      rcases row3.2 with h | ⟨g, cap, cur, q1, q2, q3⟩
      · exact .inl h
      · exact .inr ⟨g, cap, cur, q1, by omega, q3⟩
  · rintro e w' ⟨v, rfl, a, cp, rfl, hw⟩
    exact ⟨a, cp, rfl, hw⟩
/-! ### the document's New -/
theorem zset2 {f : Nat → Int} {v v' u : Value} : (cfg f ++ [v, u]).set 94 v' = cfg f ++ [v', u] := by
  have hl : (cfg f).length = 94 := runI_len ..
  generalize cfg f = l at *
  rw [List.set_append, if_neg (by omega), hl]
  rfl
theorem info_rb : (Try.prog.info? 70).map (fun i => (i.zero, i.size, i.bytes)) = some (some (.pointer none), 1, 8) := by kernel_rfl
theorem row_ty {w : World} {base e size n g : Nat} {v : Value} {xs : List Value} (h : w.ownsRow base e size v n xs) (hg : v.ownBlock = some g) : base ≤ g ∧ ∃ cur, w.heap[g]? = some (.cells cur e (0, 0)) := by
  rcases h.2 with ⟨rfl, _⟩ | ⟨g', cap, cur, rfl, hb, hgg, _⟩
  · cases hg
  · cases hg
    exact ⟨hb, cur, hgg⟩
theorem rows_apart {w : World} {b1 b2 e1 e2 s1 s2 n1 n2 : Nat} {v1 v2 : Value} {xs1 xs2 : List Value} (h1 : w.ownsRow b1 e1 s1 v1 n1 xs1) (h2 : w.ownsRow b2 e2 s2 v2 n2 xs2) (he : e1 ≠ e2) {x : Nat} (hx : v1.ownBlock = some x) (hy : v2.ownBlock = some x) : False := by
  obtain ⟨_, c1, g1⟩ := row_ty h1 hx
  obtain ⟨_, c2, g2⟩ := row_ty h2 hy
  rw [g1] at g2
  simp only [Option.some.injEq, Obj.cells.injEq] at g2
  exact he g2.2.1
theorem ty_st {w : World} {b o t : Nat} {v : Value} (h : ∃ cur, w.heap[b]? = some (.cells cur t (0, 0))) : ∃ cur, (Eng.st w b o v).heap[b]? = some (.cells cur t (0, 0)) := by
  obtain ⟨cur, h⟩ := h
  refine ⟨cur.setIfInBounds o v, ?_⟩
  have hl := (Array.getElem?_eq_some_iff.1 h).1
  simp only [Eng.st, World.setCell, Array.getElem?_modify]
  rw [if_pos trivial, h]
  rfl
theorem ty_k {w w' : World} {X : Nat → Prop} {b t : Nat} (h : ∃ cur, w.heap[b]? = some (.cells cur t (0, 0))) (k : Kept X w w') (hx : ¬ X b) : ∃ cur, w'.heap[b]? = some (.cells cur t (0, 0)) := by
  obtain ⟨cur, h⟩ := h
  exact ⟨cur, (k.blk b (Array.getElem?_eq_some_iff.1 h).1 hx).trans h⟩
structure RNew (w0 w : World) (z b0 N : Nat) (na : Option Addr) (nc : Nat) (c : Nat → Int) (q : Nat) (a : Option Addr) (cp : Nat) (rb : Nat → Nat) (L : Nat → List Bk) : Prop where
  kp : Kept none' w0 w
  ob : own w b0 (cfg c)
  so : own w z (cfg c ++ [.slice a q cp, .slice na N nc])
  nr : w.ownsRow 0 3 1 (.slice na N nc) N (ndL c (c 0).toNat)
  row : w.ownsRow (z + 1) 70 1 (.slice a q cp) q ((List.range q).map fun i => ptr (rb i))
  at_ : ∀ i, i < q → RAt w (rb i) (c (18 + i)).toNat (bks (L i)) []
  iv : ∀ i, i < q → Inv (c (18 + i)).toNat (L i)
  g0 : ∀ i, i < q → ∀ x ∈ L i, x.g = 0
  lo : ∀ i, i < q → z < rb i
  nj : ∀ i j, i < q → j < q → i ≠ j → rb i ≠ rb j
  sz : z + 1 ≤ w.heap.size
  ns : ∀ g, (Value.slice na N nc).ownBlock = some g → g < z
  ty : ∃ cur, w.heap[z]? = some (.cells cur 110 (0, 0))
theorem rat_row {w : World} {base z N n : Nat} {F T : List (Nat × Nat)} {v : Value} {xs : List Value} (h : RAt w z N F T) (row : w.ownsRow base 70 1 v n xs) (hxs : ∀ u ∈ xs, ∃ b, u = ptr b) (hn : 0 < n → xs ≠ []) {x : Nat} (hx : v.ownBlock = some x) (h0 : n = 0 → v.ownBlock = none) : x ≠ z ∧ (∀ u m ys, w.ownsRow 0 58 2 u m ys → u.ownBlock ≠ some x) := by
  refine ⟨fun e => ?_, fun u m ys hr hu => rows_apart row hr (by decide) hx hu⟩
  subst e
  obtain ⟨_, _, _, _, o, _, _⟩ := h.one
  have hn0 : n ≠ 0 := fun e => by rw [h0 e] at hx; cases hx
  rcases row.2 with ⟨rfl, _⟩ | ⟨g, cap, cur, rfl, hb, hg, _, _, hs, ht⟩
  · cases hx
  · cases hx
    have h1 := o.rd 0
    have h2 : (cur.toList.take (n * 1))[0]? = cur[0]? := by
      rw [List.getElem?_take, if_pos (by omega)]
      simp
    rw [ht] at h2
    have h3 : rd w g 0 = cur[0]? := by
      rw [rd_def, hg]
    obtain ⟨u, hu⟩ : ∃ u, xs[0]? = some u := by
      cases xs with
      | nil => exact absurd rfl (hn (by omega))
      | cons u r => exact ⟨u, rfl⟩
    obtain ⟨b, rfl⟩ := hxs u (List.mem_iff_getElem?.2 ⟨0, hu⟩)
    rw [h3, ← h2, hu] at h1
    cases h1
theorem rnew_zones (c : Nat → Int) (hm : MayP c) (w : World) : Calls Try.prog 37 #[cfgV c] w fun r w' => ∃ y R L, r = .returned (ptr y) ∧ Kept none' w w' ∧ RZ w' y R L (fun _ => []) ∧ R.c = c ∧ (∀ i, i < R.k → Inv (R.n i) (L i)) ∧ (∀ i, i < R.k → ∀ x ∈ L i, x.g = 0) ∧ w.heap.size ≤ y ∧ w.heap.size ≤ R.bg ∧ w.heap.size ≤ R.ng ∧ ∀ i, i < R.k → w.heap.size ≤ R.rb i := by
  refine (vc37 c w (fun v w' => ∃ y R L, v = (ptr y) ∧ Kept none' w w' ∧ RZ w' y R L (fun _ => []) ∧ R.c = c ∧ (∀ i, i < R.k → Inv (R.n i) (L i)) ∧ (∀ i, i < R.k → ∀ x ∈ L i, x.g = 0) ∧ w.heap.size ≤ y ∧ w.heap.size ≤ R.bg ∧ w.heap.size ≤ R.ng ∧ ∀ i, i < R.k → w.heap.size ≤ R.rb i) ?_).mono ?_
  · unfold vcP37
    have h0 := hm.1
    intro w1 e1 w2 e2
    have o1 := own_alloc e1
    have k1 : Kept none' w w1 := (Kept.refl _ _).al e1
    have k12 : Kept none' w1 w2 := (Kept.refl _ _).dr e2
    have s1 : w1.heap.size = w.heap.size + 1 := by rw [e1]; simp only [World.alloc, Array.size_push]
    have o2 := o1.k k12
    have s12 := k12.sz
    generalize hb : w.heap.size = b0 at *
    clear e1 e2
    refine ⟨c, o2.rIall, c, o2.rIall, (rframes_spec c hm w2).mono ?_⟩
    rintro _ w3 ⟨na, nc, rfl, k23, nr3⟩
    have o3 := o2.k k23
    have k3 := (k1.tr k12).tr k23
    have nb3 : ∀ g, (Value.slice na (fstF c (c 0).toNat).toNat nc).ownBlock = some g → b0 ≤ g ∧ g < w3.heap.size := fun g hg => by
      have := nr3.lt g hg
      omega
    have hNpos : 0 < (fstF c (c 0).toNat).toNat := by
      have h4 := hm.fr (i := 0) (by omega)
      have := fstF_mono hm (i := 1) (k := (c 0).toNat) (by omega) (by omega)
      simp [fstF] at this
      simp at h4
      omega
    generalize hNN : (fstF c (c 0).toNat).toNat = N at *
    refine ⟨na, N, nc, rfl, ⟨o3.rIall, trivial⟩, fun w4 e4 => ?_⟩
    have p4 := own_alloc e4
    have k34 : Kept none' w3 w4 := (Kept.refl _ _).al e4
    have o4 := o3.k k34
    have nr4 := ownsRow_kx nr3 k34 fun _ _ _ _ => id
    have K4 := k3.tr k34
    have s4 : w4.heap.size = w3.heap.size + 1 := by rw [e4]; simp only [World.alloc, Array.size_push]
    have hbz : b0 < w3.heap.size := o3.lt
    have ty4 : ∃ cur, w4.heap[w3.heap.size]? = some (.cells cur 110 (0, 0)) := by rw [e4]; exact ⟨_, (MapKept.heap_alloc _ _).1⟩
    clear e4
    generalize hz : w3.heap.size = z at *
    refine ⟨fun k w' M => ∃ (q : Nat) (a : Option Addr) (cp : Nat) (rb : Nat → Nat) (L : Nat → List Bk), k = (q : Int) ∧ (q : Int) ≤ c 0 ∧ M = (c 0).toNat - q ∧ RNew w w' z b0 N na nc c q a cp rb L ∧ (q = 0 → a = none),
      ⟨(c 0).toNat, 0, none, 0, fun _ => 0, fun _ => [], rfl, by omega, rfl, ⟨K4, o4, p4, row_weak nr4, World.ownsRow_nil _ _ _ _, fun i hi => absurd hi (Nat.not_lt_zero _), fun i hi => absurd hi (Nat.not_lt_zero _), fun i hi => absurd hi (Nat.not_lt_zero _), fun i hi => absurd hi (Nat.not_lt_zero _), fun i j hi => absurd hi (Nat.not_lt_zero _), by omega, fun g hg => (nb3 g hg).2, ty4⟩, fun _ => rfl⟩, ?_⟩
    rintro _ w5 _ ⟨q, a, cp, rb, L, rfl, hq, rfl, N5, ha⟩
    have hsz5 := N5.sz
    refine ⟨c 0, N5.ob.rI (by omega), Wif_intro (fun hc => ?_) (fun hc => ?_)⟩
    · simp only [decide_eq_true_eq] at hc
      intro w6 e6
      have k56 : Kept none' w5 w6 := (Kept.refl _ _).dr e6
      have hfr := hm.fr (i := q) (by omega)
      have hr94 : ∀ {u : World}, Kept none' w5 u → rd u z 94 = some (.slice a q cp) := fun k => by
        rw [(N5.so.k k).rd, List.getElem?_append_right (by rw [runI_len]; omega), runI_len]; rfl
      refine ⟨a, q, cp, hr94 k56, Wif_yes (inB_of (by omega) (by omega)) ⟨c (18 + q), by rw [Int.toNat_natCast, Nat.mul_one]; exact (N5.ob.k k56).rI (by omega), ?_⟩⟩
      have hnat : c (18 + q) = ((c (18 + q)).toNat : Int) := by omega
      rw [hnat]
      refine (rnew_spec w6 (c (18 + q)).toNat (by omega)).mono ?_
      rintro _ w7 ⟨l, rfl, k67, h7, i7, g7⟩
      have k57 := k56.tr k67
      refine ⟨_, rfl, ⟨hr94 k57, trivial⟩, fun w8 e8 => ?_⟩
      have k78 : Kept none' w7 w8 := (Kept.refl _ _).al e8
      have k58 := k57.tr k78
      have p8 := own_alloc (c := [ptr w6.heap.size]) e8
      have h8 := h7.k k78
      have row8 := ownsRow_kx N5.row k58 fun _ _ _ _ => id
      have s56 := k56.sz
      have s67 := k67.sz
      have s78 := k78.sz
      clear e6 e8
      generalize hnw : w6.heap.size = nw at *
      obtain ⟨a', l', c', w9, happ, rfl, row9, k9⟩ := app_one (t := 108) (e := 70) Try.underlying108 info_rb rfl row8 p8 (m := 1) (off := 0) (c := 1) (news := [ptr nw]) rfl rfl (fun u hu => by simp at hu; subst hu; rfl) (by omega) (by omega)
      refine ⟨⟨hr94 k58, trivial⟩, a', q + 1, c', w9, happ, ?_⟩
      have rowlt : ∀ x, (Value.slice a q cp).ownBlock = some x → z + 1 ≤ x ∧ x < w5.heap.size := fun x hx => N5.row.lt x hx
      have so9 := (N5.so.k k58).kx k9 fun hx => by have := rowlt _ hx; omega
      have ob9 := (N5.ob.k k58).kx k9 fun hx => by have := rowlt _ hx; omega
      have nr9 := ownsRow_kx (ownsRow_kx N5.nr k58 fun _ _ _ _ => id) k9 fun x _ _ hx hy => by have := N5.ns x hx; have := rowlt x hy; omega
      have hkx : ∀ {zz n : Nat} {F T : List (Nat × Nat)}, RAt w8 zz n F T → RAt w9 zz n F T := fun {zz n F T} hr => by
        have hra : ∀ x, (Value.slice a q cp).ownBlock = some x → x ≠ zz ∧ (∀ u m ys, w8.ownsRow 0 58 2 u m ys → u.ownBlock ≠ some x) := fun x hx =>
          rat_row hr row8 (fun u hu => by obtain ⟨i, _, rfl⟩ := List.mem_map.1 hu; exact ⟨_, rfl⟩) (fun h => by intro e; have := congrArg List.length e; simp at this; omega) hx (fun h => by rw [ha h]; rfl)
        exact hr.kx k9 (fun hx => (hra _ hx).1 rfl) fun v m ys row x hx hy => (hra x hy).2 v m ys row hx
      have at9 : ∀ i, i < q + 1 → RAt w9 (upd rb q nw i) (c (18 + i)).toNat (bks (upd L q l i)) [] := fun i hi => by
        by_cases e : i = q
        · subst e; simp only [upd_same]; exact hkx h8
        · simp only [upd_ne _ _ e]; exact hkx ((N5.at_ i (by omega)).k k58)
      have hrow : (List.range q).map (fun i => ptr (rb i)) ++ [ptr nw] = (List.range (q + 1)).map fun i => ptr (upd rb q nw i) := by
        rw [List.range_succ, List.map_append]
        congr 1
        · apply List.map_congr_left
          intro i hi
          rw [upd_ne _ _ (by have := List.mem_range.1 hi; omega)]
        · simp
      rw [hrow] at row9
      refine ⟨so9.wr (by simp [runI_len]), fun w10 e10 => ?_⟩
      have so10 := so9.s1 e10
      rw [zset2] at so10
      have k910 : Kept (· = z) w9 w10 := (Kept.refl _ _).s1 e10 (.inl rfl)
      have rowlt9 := fun x hx => row9.lt x hx
      have old : ∀ i, i < q → rb i < w5.heap.size := fun i hi => by obtain ⟨_, _, _, _, o, _, _⟩ := (N5.at_ i hi).one; exact o.lt
      have ty9 := ty_k (ty_k N5.ty k58 id) k9 fun hx => by have := rowlt _ hx; omega
      have hrbz : ∀ i, i < q + 1 → z < upd rb q nw i := fun i hi => by
        by_cases e : i = q
        · subst e; simp only [upd_same]; omega
        · simp only [upd_ne _ _ e]; exact N5.lo i (by omega)
      have at10 : ∀ i, i < q + 1 → RAt w10 (upd rb q nw i) (c (18 + i)).toNat (bks (upd L q l i)) [] := fun i hi => by
        refine (at9 i hi).kx k910 (by have := hrbz i hi; omega) fun v m ys row x hx hxz => ?_
        subst hxz
        obtain ⟨_, cur, hcu⟩ := rowTy row hx
        obtain ⟨cur', hcu'⟩ := ty9
        rw [hcu] at hcu'
        simp at hcu'
      refine ⟨(c 0).toNat - (q + 1), by omega, q + 1, a', c', upd rb q nw, upd L q l, by rw [wi (by omega)]; rfl, by omega, rfl, ⟨?_, ob9.kx k910 (by omega), so10, ?_, ?_, at10, fun i hi => ?_, fun i hi => ?_, hrbz, fun i j hi hj hij => ?_, by have := k9.sz; have := k910.sz; omega, N5.ns, ?_⟩, fun h => by omega⟩
      · exact own0 (own0 (N5.kp.tr k58) k9 fun x hx => by have := rowlt x hx; omega) k910 fun x hx => by omega
      · exact ownsRow_kx nr9 k910 fun x _ _ hx hy => by have := N5.ns x hx; omega
      · exact ownsRow_kx row9 k910 fun x _ _ hx hy => by have := rowlt9 x hx; omega
      · by_cases e : i = q
        · subst e; simp only [upd_same]; exact i7
        · simp only [upd_ne _ _ e]; exact N5.iv i (by omega)
      · by_cases e : i = q
        · subst e; simp only [upd_same]; exact g7
        · simp only [upd_ne _ _ e]; exact N5.g0 i (by omega)
      · by_cases e : i = q
        · subst e
          simp only [upd_same, upd_ne _ _ (Ne.symm hij)]
          have := old j (by omega); omega
        · by_cases e' : j = q
          · subst e'
            simp only [upd_same, upd_ne _ _ e]
            have := old i (by omega); omega
          · simp only [upd_ne _ _ e, upd_ne _ _ e']; exact N5.nj i j (by omega) (by omega) hij
      · rw [e10]; exact ty_st ty9
    · have hqk : (q : Int) = c 0 := by simp at hc; omega
      have hq' : q = (c 0).toNat := by omega
      obtain ⟨_, hh⟩ := ownsRow_own N5.row
      rcases hh with ⟨_, h00, _⟩ | ⟨g, cs, rfl, hgb, og, htk, _, _⟩
      · omega
      obtain ⟨_, hh⟩ := ownsRow_own N5.nr
      rcases hh with ⟨_, h00, _⟩ | ⟨ng, ds, rfl, _, ong, ntk, _, _⟩
      · omega
      have hng := N5.ns ng rfl
      have hcs : ∀ i, i < q → cs[i]? = some (ptr (rb i)) := fun i hi => by
        have : (cs.take (q * 1))[i]? = some (ptr (rb i)) := by rw [htk]; simp [hi]
        rw [List.getElem?_take] at this
        split at this
        · exact this
        · cases this
      have nb5 := nb3 ng rfl
      refine ⟨z, ⟨g, cp, ng, nc, c, q, rb⟩, L, rfl, N5.kp, ⟨?_, ⟨cs, og, hcs⟩, ⟨ds, ong, fun f i hi h1 h2 => ?_⟩, N5.at_, fun i hi => ?_, N5.nj, hqk, hm⟩, rfl, N5.iv, N5.g0, by omega, by dsimp only; omega, by dsimp only; omega, fun i hi => by have := N5.lo i hi; dsimp only; omega⟩
      · have : (Rz.mk g cp ng nc c q rb).N = N := by rw [← hNN, ← hq']; rfl
        rw [this]
        exact N5.so
      · dsimp only at hi h1 h2
        have hl := fstF_mono hm (i := i + 1) (k := q) (by omega) (by omega)
        have hlen := ndL_len hm (k := q) (by omega)
        rw [← hq'] at ntk
        have : (ds.take (N * 1))[f]? = some (.int .i64 (i : Int)) := by rw [ntk]; exact ndL_get hm (by omega) hi h1 h2
        rw [List.getElem?_take] at this
        split at this
        · exact this
        · cases this
      · have h1 := N5.lo i hi
        have hra := rat_row (N5.at_ i hi) N5.row (fun u hu => by obtain ⟨j, _, rfl⟩ := List.mem_map.1 hu; exact ⟨_, rfl⟩) (fun h => by intro e; have := congrArg List.length e; simp at this; omega) rfl (fun h => by omega)
        exact ⟨by dsimp only; omega, fun e => hra.1 e.symm, by dsimp only; omega⟩
  · rintro e w' ⟨v, rfl, y, R, L, rfl, hw⟩
    exact ⟨y, R, L, rfl, hw⟩
end Go.Proofs.Ytkmcmkimeibjdaa
namespace Go.Proofs.Ytkmcmkimeibjdaa
open Go Eng
set_option linter.unusedSimpArgs false
set_option linter.unusedVariables false
set_option maxRecDepth 100000
/-! ### the document's Blocks -/
def zsh (c : Nat → Int) (L : Nat → List Bk) : Nat → List (Nat × Nat)
  | 0 => []
  | k + 1 => zsh c L k ++ (bks (L k)).map fun y => ((fstF c k).toNat + y.1, y.2)
theorem zsh_len {c : Nat → Int} {L : Nat → List Bk} : ∀ {k : Nat}, (∀ i, i < k → (bks (L i)).length ≤ 128) → (zsh c L k).length ≤ 128 * k
  | 0, _ => by simp [zsh]
  | k + 1, h => by
    have := zsh_len (c := c) (k := k) fun i hi => h i (by omega)
    have := h k (by omega)
    simp only [zsh, List.length_append, List.length_map]
    omega
theorem row_add3 {w : World} {base : Nat} {v : Value} {n : Nat} {d : List (Nat × Nat)} {p o : Nat} {w1 : World} (row : w.ownsRow base 58 2 v n (tkC d)) (e : w1 = w.alloc (.cells #[.int .i64 (p : Int), .int .i64 (o : Int)] 58)) (hb : base ≤ w.heap.size) (hn : n ≤ 10000) :
    ∃ a l c w2, appIs Try.prog #[56, 56] 56 v (.slice (some ⟨w.heap.size, 0, none⟩) 1 1) (.slice a l c) w1 w2 ∧ l = n + 1 ∧ w2.ownsRow base 58 2 (.slice a l c) (n + 1) (tkC (d ++ [(p, o)])) ∧ Kept (fun b => v.ownBlock = some b) w w2 ∧ w.heap.size + 1 ≤ w2.heap.size := by
  have k1 : Kept none' w w1 := (Kept.refl _ _).al e
  have p1 := own_alloc (c := [.int .i64 (p : Int), .int .i64 (o : Int)]) e
  have hs : w1.heap.size = w.heap.size + 1 := by rw [e]; simp only [World.alloc, Array.size_push]
  obtain ⟨a, l, c, w2, happ, rfl, row2, k2⟩ := app_blk (ownsRow_kx row k1 fun _ _ _ _ => id) p1 (m := 1) (off := 0) (c := 1) (news := [Value.int .i64 (p : Int), .int .i64 (o : Int)]) rfl rfl (fun u hu => by simp at hu; rcases hu with rfl | rfl <;> rfl) (by omega) (by omega)
  refine ⟨a, _, c, w2, happ, rfl, ?_, (k1.mono fun _ _ h => h.elim).trans k2 fun _ _ h => h, by have := k2.sz; omega⟩
  have : tkC (d ++ [(p, o)]) = tkC d ++ [Value.int .i64 (p : Int), .int .i64 (o : Int)] := by simp [tkC]
  rw [this]; exact row2
section
variable {w w' : World} {y z : Nat} {R : Rz} {L : Nat → List Bk} {T : Nat → List (Nat × Nat)}
theorem rblocks_spec (h : RZ w y R L T) (hv : ∀ i, i < R.k → Inv (R.n i) (L i)) : Calls Try.prog 60 #[ptr y] w fun r w' => ∃ a cp, r = .returned (.slice a (zsh R.c L R.k).length cp) ∧ Kept none' w w' ∧ w'.ownsRow w.heap.size 58 2 (.slice a (zsh R.c L R.k).length cp) (zsh R.c L R.k).length (tkC (zsh R.c L R.k)) := by
  refine (vc60 _ w (fun v w' => ∃ a cp, v = (.slice a (zsh R.c L R.k).length cp) ∧ Kept none' w w' ∧ w'.ownsRow w.heap.size 58 2 (.slice a (zsh R.c L R.k).length cp) (zsh R.c L R.k).length (tkC (zsh R.c L R.k))) ?_).mono ?_
  · unfold vcP60
    have h8 := h.k8
    have hlen : ∀ i, i < R.k → (bks (L i)).length ≤ 128 := fun i hi => by have := bks_le (hv i hi).tl; have := (hv i hi).n1; omega
    have hzl : ∀ q, q ≤ R.k → (zsh R.c L q).length ≤ 1024 := fun q hq => by
      have := zsh_len (c := R.c) (L := L) (k := q) fun i hi => hlen i (by omega)
      omega
    refine ⟨fun a l cp k w' M => ∃ q : Nat, k = (q : Int) ∧ q ≤ R.k ∧ M = R.k - q ∧ Kept none' w w' ∧ l = (zsh R.c L q).length ∧ w'.ownsRow w.heap.size 58 2 (.slice a l cp) l (tkC (zsh R.c L q)), ⟨R.k, 0, rfl, by omega, rfl, Kept.refl _ _, rfl, World.ownsRow_nil _ _ _ _⟩, ?_⟩
    rintro a _ cp _ w1 _ ⟨q, rfl, hq, rfl, k1, rfl, row1⟩
    have h1 := h.k' k1
    simp only [isP_some, Wif_true, gIf_true, pb_some, po_some, Nat.zero_add]
    refine ⟨_, _, _, h1.r94, Wif_intro (fun hc => ?_) (fun hc => ?_)⟩
    rotate_left
    · have : q = R.k := by simp at hc; omega
      subst this
      exact ⟨a, cp, rfl, k1, row1⟩
    have hqk : q < R.k := by simp at hc; omega
    have eB : inB (q : Int) R.k = true := inB_of (by omega) (by omega)
    have hfst := h.fst (i := q) (by omega)
    have hlq := hlen q hqk
    refine ⟨fun a l cp k w' M => ∃ p : Nat, k = (p : Int) ∧ p ≤ (bks (L q)).length ∧ M = (bks (L q)).length - p ∧ Kept none' w w' ∧ l = (zsh R.c L q).length + p ∧ w'.ownsRow w.heap.size 58 2 (.slice a l cp) l (tkC (zsh R.c L q ++ ((bks (L q)).take p).map fun y => ((fstF R.c q).toNat + y.1, y.2))),
      ⟨(bks (L q)).length, 0, rfl, by omega, rfl, k1, rfl, by simpa using row1⟩, ?_⟩
    rintro a _ cp _ w2 _ ⟨p, rfl, hp, rfl, k2, rfl, row2⟩
    have h2 := h.k' k2
    obtain ⟨fa, fc, ta, tc, oz, rF, rT⟩ := (h2.at_ q hqk).one
    refine ⟨_, _, _, h2.r94, ?_⟩
    simp only [isP_some, Wif_true, gIf_true, pb_some, po_some, Nat.zero_add, eB, Int.toNat_natCast, Nat.mul_one]
    refine ⟨_, h2.rg hqk, ?_⟩
    simp only [isP_some, Wif_true, gIf_true, pb_some, po_some, Nat.zero_add]
    refine ⟨fa, (bks (L q)).length, fc, by rw [oz.rd]; rfl, Wif_intro (fun hc2 => ?_) (fun hc2 => ?_)⟩
    · have hpl : p < (bks (L q)).length := by simp at hc2; omega
      refine ⟨_, _, _, h2.r94, ?_⟩
      simp only [isP_some, Wif_true, gIf_true, pb_some, po_some, Nat.zero_add, eB, Int.toNat_natCast, Nat.mul_one]
      refine ⟨_, h2.rg hqk, ?_⟩
      simp only [isP_some, Wif_true, gIf_true, pb_some, po_some, Nat.zero_add]
      refine ⟨fa, (bks (L q)).length, fc, by rw [oz.rd]; rfl, ?_⟩
      obtain ⟨g, rfl, _, _, _, q1, q2⟩ := row2_rd rF hpl
      obtain ⟨⟨yp, yo⟩, hy⟩ : ∃ y, (bks (L q))[p]? = some y := ⟨(bks (L q))[p], List.getElem?_eq_getElem hpl⟩
      obtain ⟨c1, c2⟩ := tkC_get _ p _ hy
      rw [c1] at q1
      rw [c2] at q2
      have hyn : yp < R.n q := by
        obtain ⟨x, hx, _, e⟩ := mem_bks.1 (List.mem_iff_getElem?.2 ⟨p, hy⟩)
        have hm := tile_mem (hv q hqk).tl hx
        have hpp := p2 x.o
        have e1 := congrArg Prod.fst e
        dsimp only at e1
        omega
      have hRn := h.fr hqk
      have eBp : inB (p : Int) (bks (L q)).length = true := inB_of (by omega) (by omega)
      simp only [isP_some, Wif_true, gIf_true, pb_some, po_some, Nat.zero_add, eBp, Int.toNat_natCast]
      refine ⟨_, _, ⟨q1, q2⟩, fun w3 e3 => ?_⟩
      have o3 := own_alloc (c := [.int .i64 0, .int .i64 0]) e3
      have k3 : Kept none' w2 w3 := (Kept.refl _ _).al e3
      refine ⟨⟨o3.wr (by simp), o3.wr (by simp)⟩, fun w4 e4 w5 e5 => ?_⟩
      have o4 : own w4 w2.heap.size [.int .i64 (yp : Int), .int .i64 (yo : Int)] := o3.s2 e4
      have k4 : Kept none' w2 w4 := own0 k3 ((Kept.refl (· = w2.heap.size) _).s2 e4 (.inl rfl)) fun x hx => by omega
      have k45 : Kept none' w4 w5 := (Kept.refl _ _).dr e5
      have o5 := o4.k k45
      have k25 := k4.tr k45
      have K5 := k2.tr k25
      refine ⟨_, by rw [o5.rd]; rfl, _, by rw [o5.rd]; rfl, (rfirst_spec (h.k' K5) hqk).mono ?_⟩
      rintro _ w6 ⟨rfl, k56⟩
      have o6 := o5.k k56
      have k26 := k25.tr k56
      have row6 := ownsRow_kx row2 k26 fun _ _ _ _ => id
      have s2 := k2.sz
      have s26 := k26.sz
      refine ⟨_, rfl, ⟨by rw [o6.rd]; rfl, trivial⟩, ⟨by rw [o6.rd]; rfl, trivial⟩, fun w7 e7 => ?_⟩
      rw [show IntKind.wrap .i64 (fstF R.c q + (yp : Int)) = (((fstF R.c q).toNat + yp : Nat) : Int) by rw [wi (by omega)]; omega] at e7
      have hzq := hzl q (by omega)
      obtain ⟨a', l', c', w8, happ, rfl, row8, k8, s8⟩ := row_add3 row6 e7 (by omega) (by omega)
      refine ⟨a', _, c', w8, happ, (bks (L q)).length - (p + 1), by omega, p + 1, by rw [wi (by omega)]; rfl, by omega, rfl, own0 (k2.tr k26) k8 fun x hx => (rowTy row6 hx).1, rfl, ?_⟩
      rw [take_snoc hy, List.map_append, ← List.append_assoc]
      exact row8
    · have hpe : p = (bks (L q)).length := by simp at hc2; omega
      subst hpe
      rw [List.take_length] at row2
      have e : zsh R.c L q ++ (bks (L q)).map (fun y => ((fstF R.c q).toNat + y.1, y.2)) = zsh R.c L (q + 1) := rfl
      rw [e] at row2
      have el : (zsh R.c L q).length + (bks (L q)).length = (zsh R.c L (q + 1)).length := by rw [← e]; simp
      rw [el] at row2
      exact ⟨R.k - (q + 1), by omega, q + 1, by rw [wi (by omega)]; rfl, by omega, rfl, k2, el, by rw [el]; exact row2⟩
  · rintro e w' ⟨v, rfl, a, cp, rfl, hw⟩
    exact ⟨a, cp, rfl, hw⟩
end
end Go.Proofs.Ytkmcmkimeibjdaa
