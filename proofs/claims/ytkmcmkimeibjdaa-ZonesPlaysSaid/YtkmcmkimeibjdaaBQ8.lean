/-
  A part of a proof that a law of this seat returns true at every input. Conditions: those in each theorem.
-/
import Derived.Test.YtkmcmkimeibjdaaBQ7
namespace Go.Proofs.Ytkmcmkimeibjdaa
open Go Eng
set_option linter.unusedSimpArgs false
set_option linter.unusedVariables false
set_option maxRecDepth 100000
/-! ### the document's Give -/
theorem fst_hit {p o : Int} {y : Nat × Nat} (h : hit p o y = true) : p = (y.1 : Int) ∧ o = (y.2 : Int) := by
  simpa [hit, Bool.and_eq_true, beq_iff_eq] using h
theorem odd_div {a o : Nat} (ha : a ≤ 1000000) (ho : o ≤ 10) : (Int.tmod (IntKind.wrap .i64 (Int.tdiv (a : Int) ((2 ^ o : Nat) : Int))) 2 == 1) = decide (a / 2 ^ o % 2 = 1) := by
  have hp := p2 o
  have hle := Nat.div_le_self a (2 ^ o)
  have e : Int.tdiv (a : Int) ((2 ^ o : Nat) : Int) = ((a / 2 ^ o : Nat) : Int) := by
    rw [Int.tdiv_eq_ediv_of_nonneg (by omega)]; rfl
  rw [e]
  clear e
  have hw : IntKind.wrap .i64 ((a / 2 ^ o : Nat) : Int) = ((a / 2 ^ o : Nat) : Int) := by
    generalize a / 2 ^ o = q at *
    exact wi ⟨by omega, by omega⟩
  rw [hw]
  rw [Int.tmod_eq_emod_of_nonneg (Int.natCast_nonneg _)]
  rw [show ((a / 2 ^ o : Nat) : Int) % 2 = ((a / 2 ^ o % 2 : Nat) : Int) from rfl]
  generalize a / 2 ^ o % 2 = r
  by_cases h : r = 1
  · subst h; rfl
  · have h1 : ((r : Int) == 1) = false := by simp; omega
    rw [h1]; simp [h]
section
variable {w : World} {z n N : Nat} {L : List Bk} {T : List (Nat × Nat)}
theorem rgive_spec (h : RAt w z N (bks L) T) (hi : Inv n L) (ht : Tks L T) (hT : T.length ≤ 800) (a order : Int) :
    Calls Try.prog 34 #[ptr z, .int .i64 a, .int .i64 order] w fun r w' => ∃ e L' T', r = .returned (.int .i64 e) ∧ Kept (· = z) w w' ∧ RAt w' z N (bks L') T' ∧ Inv n L' ∧ Tks L' T' ∧ T'.length ≤ T.length ∧ GiveR L a order e L' := by
  refine (vc34 (some ⟨z, 0, none⟩) a order w (fun v w' => ∃ e L' T', v = .int .i64 e ∧ Kept (· = z) w w' ∧ RAt w' z N (bks L') T' ∧ Inv n L' ∧ Tks L' T' ∧ T'.length ≤ T.length ∧ GiveR L a order e L') ?_).mono ?_
  · unfold vcP34
    have hz : z < w.heap.size := by obtain ⟨_, _, _, _, o, _⟩ := h.one; exact o.lt
    have hn128 := hi.n1.2
    intro w1 e1
    have o1 := own_alloc (c := [.int .i64 0, .int .i64 0]) e1
    have k1 : Kept none' w w1 := (Kept.refl _ _).al e1
    refine ⟨⟨o1.wr (by simp), o1.wr (by simp)⟩, fun w2 e2 w3 e3 => ?_⟩
    have o2 : own w2 w.heap.size [.int .i64 a, .int .i64 order] := o1.s2 e2
    have k2 : Kept none' w w2 := own0 k1 ((Kept.refl (· = w.heap.size) _).s2 e2 (.inl rfl)) fun x hx => by omega
    have k23 : Kept none' w2 w3 := (Kept.refl _ _).dr e3
    have k3 := k2.tr k23
    have o3 := o2.k k23
    have h3 := h.k k3
    obtain ⟨fa, fc, ta, tc, oz, rF, rT⟩ := h3.one
    simp only [isP_some, Wif_true, gIf_true, pb_some, po_some, Nat.zero_add]
    refine ⟨_, _, _, by rw [oz.rd]; rfl, a, order, ⟨by rw [o3.rd]; rfl, by rw [o3.rd]; rfl⟩, (drop_spec rT (by omega) a order).mono ?_⟩
    rintro _ w4 ⟨a4, l4, c4, rfl, k4, rfl, row4⟩
    refine ⟨_, _, _, _, rfl, Wif_intro (fun hc => ?_) (fun hc => ?_)⟩
    · have hno : (a, order) ∉ tk L := fun hm => by
        have := (tks_any ht).2 hm
        rw [this] at hc
        cases hc
      exact ⟨2, L, T, rfl, (k3.tr k4).mono fun _ _ h => h.elim, h3.k k4, hi, ht, Nat.le_refl _, .inl ⟨hno, rfl, rfl⟩⟩
    have hin : (a, order) ∈ tk L := (tks_any ht).1 (by simpa using hc)
    obtain ⟨⟨xp, xo, xg⟩, hx, gx, px, ox⟩ := mem_tk.1 hin
    dsimp only at gx px ox
    subst gx px ox
    obtain ⟨A, B, rfl⟩ := List.append_of_mem hx
    have hinT : (xp, xo) ∈ T := (ht.2 _ rfl).1 hx
    have m2 : Mid n A ⟨xp, xo, 2⟩ B := hi.mid rfl rfl
    have h4 := h3.k k4
    have o4 := o3.k k4
    obtain ⟨_, _, _, _, oz4, _, _⟩ := h4.one
    refine ⟨oz4.wr (by simp), fun w5 e5 => ?_⟩
    have h5 := h4.setT row4 e5
    have k45 : Kept (· = z) w4 w5 := (Kept.refl _ _).s1 e5 (.inl rfl)
    have o5 := o4.kx k45 (by omega)
    have K5 : Kept (· = z) w w5 := ((k3.tr k4).mono fun _ _ h => h.elim).trans k45 fun _ _ h => h
    have hoff0 : Off w z w.heap.size := by
      obtain ⟨fa, fc, ta, tc, oz0, r1, r2⟩ := h.one
      intro j v hv e
      rw [oz0.rd] at hv
      match j with
      | 0 => simp at hv; subst hv; cases e
      | 1 => simp at hv; subst hv; have := (r1.lt _ e).2; omega
      | 2 => simp at hv; subst hv; have := (r2.lt _ e).2; omega
      | j + 3 => simp at hv
    have hs3 := k3.sz
    have off5 : Off w5 z w.heap.size := (hoff0.k (k3.tr k4) hz id).set oz4 e5 fun hx => by have := (rowTy row4 hx).1; have := o3.lt; omega
    generalize hD : w.heap.size = D at *
    have hzD : z ≠ D := by omega
    have hbk : bks (A ++ ⟨xp, xo, 1⟩ :: B) = bks (A ++ B) := bks_any_hold A B xp xo 1 (by decide)
    rw [hbk] at h5
    generalize hTT : (T.filter fun y => !hit (xp : Int) (xo : Int) y) = T' at *
    have hT' : T'.length ≤ T.length := by rw [← hTT]; exact List.length_filter_le _ _
    refine ⟨fun w' M => ∃ (A' B' : List Bk) (kk aa : Nat), 10 - kk = M ∧ kk ≤ 10 ∧ Mid n A' ⟨aa, kk, 2⟩ B' ∧ RAt w' z N (bks (A' ++ B')) T' ∧ own w' D [.int .i64 (aa : Int), .int .i64 (kk : Int)] ∧ Off w' z D ∧ Kept (· = z) w w' ∧
        (∀ y : Bk, y.g = 1 → (y ∈ A' ++ B' ↔ y ∈ A ++ B)) ∧ fsum (A' ++ B') + 2 ^ kk = fsum (A ++ B) + 2 ^ xo,
      ⟨10 - xo, A, B, xo, xp, rfl, by have := m2.num; dsimp only at this; omega, m2, h5, o5, off5, K5, fun y _ => Iff.rfl, rfl⟩, ?_⟩
    rintro w6 _ ⟨A', B', kk, aa, rfl, hk10, m6, h6, o6, f6, K6, hset, hsum⟩
    have hnum := m6.num
    dsimp only at hnum
    have hFl : (bks (A' ++ B')).length ≤ 900 := by
      have := m6.tl
      have e : bks (A' ++ ⟨aa, kk, 2⟩ :: B') = bks (A' ++ B') := bks_any_hold A' B' aa kk 2 (by decide)
      have := bks_le m6.tl
      rw [e] at this
      omega
    have fin : ∀ u : World, RAt u z N (bks (A' ++ B')) T' → own u D [.int .i64 (aa : Int), .int .i64 (kk : Int)] → Kept (· = z) w u → (kk < 10 → ((bud aa kk : Nat) : Int) ∉ fr kk (A' ++ B')) →
        ∃ x x5, (rd u D 0 = some (.int .i64 x) ∧ rd u D 1 = some (.int .i64 x5)) ∧ Calls Try.prog 58 #[ptr z, .agg #[.int .i64 x, .int .i64 x5]] u fun e w' => e = .returned (.tuple #[]) ∧ (∃ e L' T', Value.int .i64 0 = .int .i64 e ∧ Kept (· = z) w w' ∧ RAt w' z N (bks L') T' ∧ Inv n L' ∧ Tks L' T' ∧ T'.length ≤ T.length ∧ GiveR (A ++ ⟨xp, xo, 1⟩ :: B) (xp : Int) (xo : Int) e L') := by
      intro u hR hO hK hb
      refine ⟨(aa : Int), (kk : Int), ⟨by rw [hO.rd]; rfl, by rw [hO.rd]; rfl⟩, (put_spec hR hFl aa kk).mono ?_⟩
      rintro _ u2 ⟨rfl, ku, hRu, _⟩
      have hfree : Inv n (A' ++ ⟨aa, kk, 0⟩ :: B') := m6.free hb
      rw [ins_bks hfree.tl] at hRu
      have hs : ∀ y : Bk, y.g = 1 → (y ∈ A' ++ ⟨aa, kk, 0⟩ :: B' ↔ y ∈ A ++ ⟨xp, xo, 1⟩ :: B ∧ y ≠ ⟨xp, xo, 1⟩) := fun y hy => by
        have hs := hset y hy
        have hsep := sep_ne hi.tl (k := xp) (Nat.le_refl _) (by have := p2 xo; dsimp only; omega)
        simp only [List.mem_append, List.mem_cons] at hs ⊢
        constructor
        · intro hm
          have hm' : y ∈ A ∨ y ∈ B := by
            rcases hm with h | rfl | h
            · exact hs.1 (.inl h)
            · cases hy
            · exact hs.1 (.inr h)
          refine ⟨by rcases hm' with h | h <;> simp [h], fun e => ?_⟩
          subst e
          rcases hm' with h | h
          · exact hsep.1 _ h rfl
          · exact hsep.2 _ h rfl
        · rintro ⟨hm, hne⟩
          have hm' : y ∈ A ∨ y ∈ B := by
            rcases hm with h | h | h
            · exact .inl h
            · exact absurd h hne
            · exact .inr h
          rcases hs.2 hm' with h | h
          · exact .inl h
          · exact .inr (.inr h)
      refine ⟨rfl, 0, _, T', rfl, hK.trans ku fun _ _ h => h, hRu, hfree, ?_, hT', .inr ⟨⟨xp, xo, 1⟩, hx, rfl, rfl, rfl, rfl, hs, ?_⟩⟩
      · rw [← hTT]; exact tks_drop ht hinT hs
      · simp only [fsum_app, fsum_cons] at hsum ⊢
        simp
        omega
    refine ⟨(kk : Int), by rw [o6.rd]; rfl, Wif_intro (fun hc6 => ?_) (fun hc6 => ?_)⟩
    rotate_left
    · exact fin w6 h6 o6 K6 fun hlt => by simp at hc6; omega
    have hk1 : kk < 10 := by simp at hc6; omega
    have hp := p2 kk
    have hpk := pow10 hk10
    have e2 : 2 ^ (kk + 1) = 2 ^ kk + 2 ^ kk := by rw [Nat.pow_succ]; omega
    refine ⟨(kk : Int), by rw [o6.rd]; rfl, Wif_yes (by rw [wu (by omega)]; simp) ?_⟩
    refine ⟨(aa : Int), by rw [o6.rd]; rfl, (kk : Int), by rw [o6.rd]; rfl, fun w7 e7 => ?_⟩
    have o7 := own_alloc (c := [.int .i64 0, .int .i64 0]) e7
    have k7 : Kept none' w6 w7 := (Kept.refl _ _).al e7
    rw [shlU hk10]
    refine ⟨⟨o7.wr (by simp), o7.wr (by simp)⟩, fun w8 e8 => ?_⟩
    have o8 : own w8 w6.heap.size [.int .i64 (IntKind.wrap .i64 ((aa : Int) + ((2 ^ kk : Nat) : Int))), .int .i64 (kk : Int)] := o7.s2 e8
    rw [show IntKind.wrap .i64 ((aa : Int) + ((2 ^ kk : Nat) : Int)) = ((aa + 2 ^ kk : Nat) : Int) by rw [wi (by omega)]; rfl] at o8
    have k8 : Kept none' w6 w8 := own0 k7 ((Kept.refl (· = w6.heap.size) _).s2 e8 (.inl rfl)) fun x hx => by omega
    have p8 := o6.k k8
    have h8 := h6.k k8
    have hz6 : z < w6.heap.size := by obtain ⟨_, _, _, _, o, _⟩ := h6.one; exact o.lt
    have hD6 := o6.lt
    have f8 := f6.k k8 hz6 id
    refine ⟨(aa : Int), by rw [p8.rd]; rfl, (aa : Int), by rw [p8.rd]; rfl, Wif_yes (by
      have : ((2 ^ kk : Nat) : Int) ≠ 0 := by omega
      simpa using this) ?_⟩
    rw [odd_div (by omega) hk10]
    have anyiff : ∀ b : Nat, ((bks (A' ++ B')).any (hit (b : Int) (kk : Int)) = true ↔ (b : Int) ∈ fr kk (A' ++ B')) := fun b => by
      rw [any_bks, mem_fr]
      constructor
      · rintro ⟨x, h1, h2, h3, h4⟩; exact ⟨x, h1, h2, by omega, h3⟩
      · rintro ⟨x, h1, h2, h3, h4⟩; exact ⟨x, h1, h2, h4, by omega⟩
    refine Wif_intro (fun hod => ?_) (fun hev => ?_)
    · have hod' : aa / 2 ^ kk % 2 = 1 := by simpa using hod
      have hle : 2 ^ kk ≤ aa := by
        refine Nat.le_of_not_lt fun hlt => ?_
        rw [Nat.div_eq_of_lt hlt] at hod'
        cases hod'
      have eb : bud aa kk = aa - 2 ^ kk := by unfold bud; rw [if_neg (by omega)]
      refine ⟨(aa : Int), by rw [p8.rd]; rfl, o8.wr (by simp), fun w9 e9 => ?_⟩
      rw [show IntKind.wrap .i64 ((aa : Int) - ((2 ^ kk : Nat) : Int)) = ((aa - 2 ^ kk : Nat) : Int) by rw [wi (by omega)]; omega] at e9
      have o9 : own w9 w6.heap.size [.int .i64 ((aa - 2 ^ kk : Nat) : Int), .int .i64 (kk : Int)] := o8.s1 e9
      have k9 : Kept none' w6 w9 := own0 k8 ((Kept.refl (· = w6.heap.size) _).s1 e9 (.inl rfl)) fun x hx => by omega
      refine ⟨((aa - 2 ^ kk : Nat) : Int), by rw [o9.rd]; rfl, fun w10 e10 => ?_⟩
      have k910 : Kept none' w9 w10 := (Kept.refl _ _).dr e10
      have k10 := k9.tr k910
      have o10 := o9.k k910
      have h10 := h6.k k10
      have p10 := o6.k k10
      obtain ⟨ga, gc, sa, sc, oz10, rF10, rT10⟩ := h10.one
      refine ⟨_, _, _, by rw [oz10.rd]; rfl, _, _, ⟨by rw [o10.rd]; rfl, by rw [o10.rd]; rfl⟩, (drop_spec rF10 hFl _ _).mono ?_⟩
      rintro _ w11 ⟨a11, l11, c11, rfl, k11, rfl, row11⟩
      have h11 := h10.k k11
      have p11 := p10.k k11
      have K11 : Kept (· = z) w w11 := (K6.tr k10).tr k11
      refine ⟨_, _, _, _, rfl, Wif_intro (fun hno => ?_) (fun hyes => ?_)⟩
      · refine fin w11 h11 p11 K11 fun _ hm => ?_
        rw [eb, ← anyiff] at hm
        rw [hm] at hno
        cases hno
      · have hm : ((bud aa kk : Nat) : Int) ∈ fr kk (A' ++ B') := by rw [eb, ← anyiff]; simpa using hyes
        rcases m6.one (g' := 2) hk1 hm with ⟨hev, _⟩ | ⟨_, A1, rfl, _, m7⟩
        · omega
        obtain ⟨_, _, _, _, oz11, _, _⟩ := h11.one
        have ef : (bks (A1 ++ [⟨aa - 2 ^ kk, kk, 0⟩] ++ B')).filter (fun y => !hit ((aa - 2 ^ kk : Nat) : Int) (kk : Int) y) = bks (A1 ++ B') := by
          have hb := m6.tl
          rw [List.append_assoc, List.singleton_append] at hb
          have := filt_bks hb
          rw [bks_app, bks_free rfl, bks_held (show (2 : Nat) ≠ 0 by decide)] at this
          rw [List.append_assoc, List.singleton_append, bks_app, bks_free rfl, this, bks_app, bks_app, bks_held (show (2 : Nat) ≠ 0 by decide)]
        rw [ef] at row11 ⊢
        refine ⟨oz11.wr (by simp), fun w12 e12 => ?_⟩
        have h12 := h11.setF row11 e12
        have k12 : Kept (· = z) w11 w12 := (Kept.refl _ _).s1 e12 (.inl rfl)
        have p12 := p11.kx k12 (fun e => hzD e.symm)
        have f12 : Off w12 z D := (f6.k (k10.tr k11) hz6 id).set oz11 e12 fun hx => by have := (rowTy row11 hx).1; have := p10.lt; omega
        refine ⟨(kk : Int), by rw [p12.rd]; rfl, ⟨p12.wr (by simp), p12.wr (by simp)⟩, fun w13 e13 => ?_⟩
        have k13 : Kept (· = D) w12 w13 := (Kept.refl (· = D) _).s2 e13 (.inl rfl)
        have p13 : own w13 D [.int .i64 ((aa - 2 ^ kk : Nat) : Int), .int .i64 ((kk + 1 : Nat) : Int)] := by
          have := p12.s2 e13
          rw [wi (by omega)] at this
          exact this
        have K13 : Kept (· = z) w w13 := (K11.trans k12 fun _ _ h => h).trans k13 fun x hl hx => by omega
        refine ⟨10 - (kk + 1), by omega, A1, B', kk + 1, aa - 2 ^ kk, rfl, by omega, m7, h12.off f12 hzD k13, p13, f12.k k13 (by obtain ⟨_, _, _, _, o, _⟩ := h12.one; exact o.lt) hzD, K13, fun y hy => ?_, ?_⟩
        · rw [← hset y hy]
          simp only [List.mem_append, List.mem_cons, List.not_mem_nil, or_false]
          constructor
          · rintro (h | h)
            · exact .inl (.inl h)
            · exact .inr h
          · rintro ((h | rfl) | h)
            · exact .inl h
            · cases hy
            · exact .inr h
        · simp only [fsum_app, fsum_cons, fsum] at hsum ⊢
          simp at hsum
          omega
    · have hev' : aa / 2 ^ kk % 2 = 0 := by simp at hev; omega
      have eb : bud aa kk = aa + 2 ^ kk := by unfold bud; rw [if_pos hev']
      intro w10 e10
      have k910 : Kept none' w8 w10 := (Kept.refl _ _).dr e10
      have k10 := k8.tr k910
      have o10 := o8.k k910
      have h10 := h6.k k10
      have p10 := o6.k k10
      obtain ⟨ga, gc, sa, sc, oz10, rF10, rT10⟩ := h10.one
      refine ⟨_, _, _, by rw [oz10.rd]; rfl, _, _, ⟨by rw [o10.rd]; rfl, by rw [o10.rd]; rfl⟩, (drop_spec rF10 hFl _ _).mono ?_⟩
      rintro _ w11 ⟨a11, l11, c11, rfl, k11, rfl, row11⟩
      have h11 := h10.k k11
      have p11 := p10.k k11
      have K11 : Kept (· = z) w w11 := (K6.tr k10).tr k11
      refine ⟨_, _, _, _, rfl, Wif_intro (fun hno => ?_) (fun hyes => ?_)⟩
      · refine fin w11 h11 p11 K11 fun _ hm => ?_
        rw [eb, ← anyiff] at hm
        rw [hm] at hno
        cases hno
      · have hm : ((bud aa kk : Nat) : Int) ∈ fr kk (A' ++ B') := by rw [eb, ← anyiff]; simpa using hyes
        rcases m6.one (g' := 2) hk1 hm with ⟨_, B1, rfl, m7⟩ | ⟨hod, _⟩
        rotate_left
        · omega
        obtain ⟨_, _, _, _, oz11, _, _⟩ := h11.one
        have ef : (bks (A' ++ ⟨aa + 2 ^ kk, kk, 0⟩ :: B1)).filter (fun y => !hit ((aa + 2 ^ kk : Nat) : Int) (kk : Int) y) = bks (A' ++ B1) := by
          have hb : Tile 0 ((A' ++ [⟨aa, kk, 2⟩]) ++ ⟨aa + 2 ^ kk, kk, 0⟩ :: B1) n := by
            rw [List.append_assoc]; exact m6.tl
          have := filt_bks hb
          rw [List.append_assoc, List.append_assoc, List.singleton_append, List.singleton_append, bks_any_hold A' _ aa kk 2 (by decide), bks_any_hold A' _ aa kk 2 (by decide)] at this
          exact this
        rw [ef] at row11 ⊢
        refine ⟨oz11.wr (by simp), fun w12 e12 => ?_⟩
        have h12 := h11.setF row11 e12
        have k12 : Kept (· = z) w11 w12 := (Kept.refl _ _).s1 e12 (.inl rfl)
        have p12 := p11.kx k12 (fun e => hzD e.symm)
        have f12 : Off w12 z D := (f6.k (k10.tr k11) hz6 id).set oz11 e12 fun hx => by have := (rowTy row11 hx).1; have := p10.lt; omega
        refine ⟨(kk : Int), by rw [p12.rd]; rfl, ⟨p12.wr (by simp), p12.wr (by simp)⟩, fun w13 e13 => ?_⟩
        have k13 : Kept (· = D) w12 w13 := (Kept.refl (· = D) _).s2 e13 (.inl rfl)
        have p13 : own w13 D [.int .i64 (aa : Int), .int .i64 ((kk + 1 : Nat) : Int)] := by
          have := p12.s2 e13
          rw [wi (by omega)] at this
          exact this
        have K13 : Kept (· = z) w w13 := (K11.trans k12 fun _ _ h => h).trans k13 fun x hl hx => by omega
        refine ⟨10 - (kk + 1), by omega, A', B1, kk + 1, aa, rfl, by omega, m7, h12.off f12 hzD k13, p13, f12.k k13 (by obtain ⟨_, _, _, _, o, _⟩ := h12.one; exact o.lt) hzD, K13, fun y hy => ?_, ?_⟩
        · rw [← hset y hy]
          simp only [List.mem_append, List.mem_cons]
          constructor
          · rintro (h | h)
            · exact .inl h
            · exact .inr (.inr h)
          · rintro (h | rfl | h)
            · exact .inl h
            · cases hy
            · exact .inr h
        · simp only [fsum_app, fsum_cons, fsum] at hsum ⊢
          simp at hsum
          omega
  · rintro e w' ⟨v, rfl, e, L', T', rfl, hw⟩
    exact ⟨e, L', T', rfl, hw⟩
end
end Go.Proofs.Ytkmcmkimeibjdaa
