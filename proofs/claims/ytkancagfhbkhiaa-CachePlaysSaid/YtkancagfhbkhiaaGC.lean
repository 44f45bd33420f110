/-
  A part of a proof that a law of this seat returns true at every input. Conditions: those in each theorem.
-/
import Derived.Test.YtkancagfhbkhiaaGB
import Derived.Test.YtkancagfhbkhiaaD8c
import Derived.Test.YtkancagfhbkhiaaV7
namespace Go.Proofs.Ytkancagfhbkhiaa
open Go Eng
set_option linter.unusedSimpArgs false
set_option linter.unusedVariables false
set_option maxRecDepth 10000
section
variable {w0 w w' : World} {C M Q z c pc oc tc : Nat} {L : List Slb} {D : List Dsl} {pa oa ta : Option Addr} {P : List Pr}
theorem J.kx {X : Nat → Prop} (h : J w0 w C M Q z c L D pa pc) (k : Kept X w w') (hx : ∀ b, X b → ¬ blk C M L b ∧ ¬ wbk Q D b ∧ ¬ rbk pa D b) (hg : ∀ b, X b → w0.heap.size ≤ b) : J w0 w' C M Q z c L D pa pc :=
  ⟨h.ci.kx k (fun b hb => (hx b hb).1) hg, h.da.kx k (fun b hb => (hx b hb).2), h.ge, h.ky, h.ap⟩
theorem app_bs {w w1 : World} {base : Nat} {da : Option Addr} {dl dc : Nat} {xs : List Value} {X n : Nat} (ho : w.ownsRow base 22 1 (.slice da dl dc) dl xs) (h63 : dl ≤ 1000) (hbase : base ≤ w.heap.size) (e : w1 = w.alloc (.cells #[slV X n] 22)) :
    ∃ a' c' w', appIs Try.prog #[83, 83] 83 (.slice da dl dc) (.slice (some ⟨w.heap.size, 0, none⟩) 1 1) (.slice a' (dl + 1) c') w1 w' ∧ w'.ownsRow base 22 1 (.slice a' (dl + 1) c') (dl + 1) (xs ++ [slV X n]) ∧ Kept (ob da dl dc) w1 w' ∧
      ∀ b, ob a' (dl + 1) c' b → ob da dl dc b ∨ w1.heap.size ≤ b := by
  have hh := info_bs
  cases hi : Try.prog.info? 22 with
  | none => rw [hi] at hh; cases hh
  | some i =>
    rw [hi] at hh
    simp at hh
    have k1 : Kept none' w w1 := (Kept.refl _ _).al e
    have ho1 := ownsRow_kx ho k1 (fun _ _ _ _ hx => hx)
    have h1 : ∀ u ∈ [slV X n], u.oneCell' = true := fun u hu => by simp at hu; subst hu; rfl
    obtain ⟨a', c', w', ha, row', k'⟩ := Eng.app (t := 83) (ty := 83) Try.underlying83 hi hh.1 hh.2.1 rfl (by decide) ho1 (one_src e) (by simp) h1 (by omega) (by omega) (by have := k1.sz; omega)
    exact ⟨a', c', w', ha, row', k', app_blk (t := 83) (ty := 83) Try.underlying83 hi hh.1 hh.2.1 ho1 (one_src e) (by simp) h1 (by omega) (by omega) ha⟩
theorem Lw.push (h : Lw w0 w C M Q z c L D pa pc oa oc ta tc P) (hP : P.length ≤ 1000) (p : Pr) (n1 : 0 < p.n) (n2 : p.n ≤ 256)
    (ok : live L D p ∨ dead w C M Q L D (fun b => ob oa P.length oc b ∨ ob ta P.length tc b) p) {w1 : World} (e1 : w1 = w.alloc (.cells #[slV p.X p.n] 22)) :
    ∃ a' c' w2, appIs Try.prog #[83, 83] 83 (.slice oa P.length oc) (.slice (some ⟨w.heap.size, 0, none⟩) 1 1) (.slice a' (P.length + 1) c') w1 w2 ∧
      ∀ w3, w3 = w2.alloc (.cells #[slV p.Y p.n] 22) → ∃ a'' c'' w4, appIs Try.prog #[83, 83] 83 (.slice ta P.length tc) (.slice (some ⟨w2.heap.size, 0, none⟩) 1 1) (.slice a'' (P.length + 1) c'') w3 w4 ∧
        Lw w0 w4 C M Q z c L D pa pc a' c' a'' c'' (P ++ [p]) := by
  have hw := h.j.ci.fr.sz
  have t1 : ∀ b, ob oa P.length oc b → w0.heap.size ≤ b ∧ b < w.heap.size := fun b hb => h.r1.lt b hb
  have t2 : ∀ b, ob ta P.length tc b → w0.heap.size ≤ b ∧ b < w.heap.size := fun b hb => h.r2.lt b hb
  have k1 : Kept none' w w1 := (Kept.refl _ _).al e1
  obtain ⟨a', c', w2, ha, row1, k2, bk1⟩ := app_bs h.r1 hP hw e1
  refine ⟨a', c', w2, ha, ?_⟩
  intro w3 e3
  have k3 : Kept none' w2 w3 := (Kept.refl _ _).al e3
  have h1 := h.k k1
  have j2 := h1.j.kx k2 (fun b hb => ⟨(h.a1 b hb).1, (h.a1 b hb).2.1, (h.a1 b hb).2.2.1⟩) (fun b hb => (t1 b hb).1)
  have r2 := ownsRow_kx h1.r2 k2 (fun b _ _ hb hx => (h.a1 b hx).2.2.2 hb)
  have z1 := k1.sz
  have z2 := k2.sz
  have z3 := k3.sz
  obtain ⟨a'', c'', w4, hb, row2, k4, bk2⟩ := app_bs r2 hP (by omega) e3
  refine ⟨a'', c'', w4, hb, ?_⟩
  have l1 : ∀ b, ob a' (P.length + 1) c' b → b < w2.heap.size := fun b hb => (row1.lt b hb).2
  have lb : ∀ b, blk C M L b → b < w.heap.size := fun b hb => h.j.ci.at'.lt hb
  have lw : ∀ b, wbk Q D b → b < w.heap.size := fun b hb => h.j.da.ltw hb
  have lr : ∀ b, rbk pa D b → b < w.heap.size := fun b hb => h.j.da.ltr hb
  have row1' := ownsRow_kx (ownsRow_kx row1 k3 (fun _ _ _ _ hx => hx)) k4 (fun b _ _ hb hx => by
    rcases bk1 b hb with hb | hb
    · exact (h.a1 b hb).2.2.2 hx
    · have := t2 b hx; omega)
  have j4 := (j2.k k3).kx k4 (fun b hb => h.a2 b hb) (fun b hb => (t2 b hb).1)
  have hlen : (P ++ [p]).length = P.length + 1 := by simp
  have okp : ∀ q : Pr, 0 < q.n → (live L D q ∨ dead w C M Q L D (fun b => ob oa P.length oc b ∨ ob ta P.length tc b) q) → live L D q ∨ dead w4 C M Q L D (fun b => ob a' (P.length + 1) c' b ∨ ob a'' (P.length + 1) c'' b) q := by
    intro q hq hld
    rcases hld with hl | hd
    · exact .inl hl
    · obtain ⟨g, u1, u2, u3⟩ := hd
      have lX : q.X < w.heap.size := Src.pos_lt u1 (by simp [byteL]; omega)
      have lY : q.Y < w.heap.size := Src.pos_lt u2 (by simp [byteL]; omega)
      obtain ⟨g, s1, s2, s3⟩ := (((dead.kx ⟨g, u1, u2, u3⟩ k1 (fun _ _ hx => hx)).kx k2 (fun b hb hx => (u3 b hb).2.2 (.inl hx))).kx k3 (fun _ _ hx => hx)).kx k4 (fun b hb hx => (u3 b hb).2.2 (.inr hx))
      refine .inr ⟨g, s1, s2, fun b hb => ⟨(s3 b hb).1, (s3 b hb).2.1, fun hx => ?_⟩⟩
      have lb : b < w.heap.size := by rcases hb with rfl | rfl <;> assumption
      rcases hx with hx | hx
      · rcases bk1 b hx with hx | hx
        · exact (s3 b hb).2.2 (.inl hx)
        · omega
      · rcases bk2 b hx with hx | hx
        · exact (s3 b hb).2.2 (.inr hx)
        · omega
  refine ⟨j4, ?_, ?_, fun b hb => ?_, fun b hb => ?_, fun q hq => ?_⟩
  · rw [hlen]; simpa [ownV] using row1'
  · rw [hlen]; simpa [thV] using row2
  · rw [hlen] at hb ⊢
    have hl1 := l1 b hb
    rcases bk1 b hb with hb | hb
    · obtain ⟨q1, q2, q3, q4⟩ := h.a1 b hb
      have := t1 b hb
      refine ⟨q1, q2, q3, fun hx => ?_⟩
      rcases bk2 b hx with hx | hx
      · exact q4 hx
      · omega
    · refine ⟨fun hx => ?_, fun hx => ?_, fun hx => ?_, fun hx => ?_⟩
      · have := lb b hx; omega
      · have := lw b hx; omega
      · have := lr b hx; omega
      · rcases bk2 b hx with hx | hx
        · have := t2 b hx; omega
        · omega
  · rw [hlen] at hb
    rcases bk2 b hb with hb | hb
    · exact h.a2 b hb
    · refine ⟨fun hx => ?_, fun hx => ?_, fun hx => ?_⟩
      · have := lb b hx; omega
      · have := lw b hx; omega
      · have := lr b hx; omega
  · rw [hlen]
    rcases List.mem_append.1 hq with hq | hq
    · obtain ⟨q1, q2, q3⟩ := h.pk q hq
      exact ⟨q1, q2, okp q q1 q3⟩
    · have : q = p := by simpa using hq
      subst this
      exact ⟨n1, n2, okp q n1 ok⟩
/-- at the end: the bytes of a pair are alike -/
theorem Lw.alike (h : Lw w0 w C M Q z c L D pa pc oa oc ta tc P) {p : Pr} (hp : p ∈ P) : ∃ g, Src w (some ⟨p.X, 0, none⟩) p.n p.n (byteL p.n g) ∧ Src w (some ⟨p.Y, 0, none⟩) p.n p.n (byteL p.n g) := by
  obtain ⟨n1, n2, hl | hd⟩ := h.pk p hp
  · obtain ⟨fr, hX, hY, hn⟩ := hl
    obtain ⟨e, he, hee⟩ := List.mem_map.1 hX
    obtain ⟨d, hd, hde⟩ := List.mem_map.1 hY
    injection hee with f1 f2
    injection hde with g1 g2
    have a := (h.j.ci.at'.sl e he).1
    have r := (h.j.da.sl d hd).1
    obtain ⟨i, hi, rfl⟩ := List.getElem_of_mem he
    obtain ⟨k, hk, rfl⟩ := List.getElem_of_mem hd
    have hlen := h.j.len
    obtain ⟨y1, y2, y3⟩ := h.j.at' hi (by omega)
    have : i = k := frD_uniq h.j.da.so (by omega) hk (by rw [← y1, f1, g1])
    subst this
    refine ⟨L[i].f, ?_, ?_⟩
    · rw [← f2, hn]
      obtain ⟨cs, o, hc, hr⟩ := a.by'
      exact Src.of_own o fun j u hj => by
        have hj2 : j < 256 := by have := (List.getElem?_eq_some_iff.1 hj).1; simpa [byteL] using this
        rw [Nat.zero_add, hr j hj2]
        simpa [byteL, hj2] using hj
    · rw [← g2, hn, y3]
      obtain ⟨cs, o, hc, hr⟩ := r.by'
      exact Src.of_own o fun j u hj => by
        have hj2 : j < 256 := by have := (List.getElem?_eq_some_iff.1 hj).1; simpa [byteL] using this
        rw [Nat.zero_add, hr j hj2]
        simpa [byteL, hj2] using hj
  · obtain ⟨g, s1, s2, _⟩ := hd
    exact ⟨g, s1, s2⟩
end
end Go.Proofs.Ytkancagfhbkhiaa
namespace Go.Proofs.Ytkancagfhbkhiaa
open Go Eng
set_option linter.unusedSimpArgs false
set_option linter.unusedVariables false
set_option maxRecDepth 10000
section
variable {w0 w w' : World} {C M Q z c pc oc tc : Nat} {L : List Slb} {D : List Dsl} {pa oa ta : Option Addr} {P : List Pr}
/-! ### steps in which no slab comes or goes -/
theorem frL_uniq (h : (L.map (·.fr)).Pairwise (· < ·)) {x e : Slb} (hx : x ∈ L) (he : e ∈ L) (hf : x.fr = e.fr) : x = e := by
  obtain ⟨L1, L2, rfl⟩ := List.append_of_mem he
  obtain ⟨f1, f2⟩ := frs_ne h
  rcases List.mem_append.1 hx with hx | hx
  · exact absurd hf (f1 x hx)
  · rcases List.mem_cons.1 hx with rfl | hx
    · rfl
    · exact absurd hf (f2 x hx)
theorem frD_uniq' (h : (D.map (·.fr)).Pairwise (· < ·)) {x e : Dsl} (hx : x ∈ D) (he : e ∈ D) (hf : x.fr = e.fr) : x = e := by
  obtain ⟨i, hi, rfl⟩ := List.getElem_of_mem hx
  obtain ⟨j, hj, rfl⟩ := List.getElem_of_mem he
  have := frD_uniq h hi hj hf
  subst this
  rfl
theorem Lw.upd (h : Lw w0 w C M Q z c L D pa pc oa oc ta tc P) {w1 w2 : World} {L' : List Slb} {D' : List Dsl} (k1 : Kept (blk C M L) w w1) (c1 : CIs w0 w1 C M z c L') (bl : ∀ b, blk C M L' b → blk C M L b) (ll : locL L' = locL L)
    (ds : DS w1 w2 Q z c pa pc D c pa pc D') (ky : L'.map keyL = D'.map keyD) (ld : locD D' = locD D) : Lw w0 w2 C M Q z c L' D' pa pc oa oc ta tc P := by
  have z1 := k1.sz
  have j' := h.j.both none' none' (k1.weak fun b hb => .inl (.inl hb)) c1 (fun b hb => .inl (bl b hb)) (fun b hb => hb.elim) (ds.k.weak fun b hb => .inl (.inl hb)) ds.da
    (fun b hb => by rcases ds.wb b hb with h | h; exact .inl h; exact .inr (.inr h)) ds.rb (fun b hb => hb.elim) ky
  refine h.go ((k1.weak fun b hb => .inl (.inl hb)).go ds.k fun b hb => .inl (.inr hb)) j' (fun b hb => .inl (bl b hb)) (fun b hb => by rcases ds.wb b hb with h | h; exact .inl h; exact .inr (by omega)) (fun b hb => by rcases ds.rb b hb with h | h; exact .inl h; exact .inr (by omega)) (fun p _ hl => .inl ?_)
  obtain ⟨fr, hX, hY, hn⟩ := hl
  exact ⟨fr, by rw [ll]; exact hX, by rw [ld]; exact hY, hn⟩
theorem Lw.set (h : Lw w0 w C M Q z c L D pa pc oa oc ta tc P) {e : Slb} (he : e ∈ L) {w1 w2 : World} {s : Sl} {f : Nat → Int} {D' : List Dsl} (k1 : Kept (blk C M L) w w1) (c1 : CIs w0 w1 C M z c (setL L (set1 e s f)))
    (ds : DS w1 w2 Q z c pa pc D c pa pc D') (ky : D'.map keyD = setK (D.map keyD) (e.fr, s, f)) (ld : locD D' = locD D) : Lw w0 w2 C M Q z c (setL L (set1 e s f)) D' pa pc oa oc ta tc P := by
  have hso := h.j.ci.at'.so
  refine h.upd k1 c1 (fun b hb => (blk_setL hso he).1 hb) (setL_loc L _ fun x hx hf => by rw [frL_uniq hso hx he hf]; rfl) ds ?_ ld
  rw [setL_key, ky, h.j.ky]
  rfl
theorem J.fst0 (h : J w0 w C M Q z c L D pa pc) {w1 : World} (k1 : Kept (blk C M L) w w1) : DAt w1 Q z c pa pc D := h.fst (S := none') (k1.weak fun b hb => .inl (.inl hb)) (fun b hb => hb.elim)
/-! ### Take -/
theorem Lw.take (h : Lw w0 w C M Q z c L D pa pc oa oc ta tc P) (hl : L.length ≤ 1000) : Calls Try.prog 41 #[ptr C] w fun r w1 => ∃ x y e : Int, r = .returned (.tuple #[.int .i64 x, .int .i64 y, .int .i64 e]) ∧
    Calls Try.prog 49 #[ptr Q] w1 fun r w2 => r = .returned (.tuple #[.int .i64 x, .int .i64 y, .int .i64 e]) ∧ ∃ L' D', L'.length = L.length ∧ Lw w0 w2 C M Q z c L' D' pa pc oa oc ta tc P := by
  have hlen := h.j.len
  have hpk := pick_key L
  rw [h.j.ky] at hpk
  refine (take_cis h.j.ci hl).mono ?_
  rintro _ w1 ⟨k1, ⟨hp, rfl, c1⟩ | ⟨e, k, l, hp, he, rfl, hch, c1⟩⟩
  · rw [hp] at hpk
    refine ⟨_, _, _, rfl, (dtake_spec (h.j.fst0 k1) (by omega)).mono ?_⟩
    rintro _ w2 ⟨v, rfl, ⟨_, rfl, rfl⟩ | ⟨k', i, l', hp', _⟩⟩
    · exact ⟨rfl, L, D, rfl, h.upd k1 c1 (fun b hb => hb) rfl ((h.j.fst0 k1).same (Kept.refl _ _)) h.j.ky rfl⟩
    · rw [hp'] at hpk; cases hpk
  · rw [hp] at hpk
    refine ⟨_, _, _, rfl, (dtake_spec (h.j.fst0 k1) (by omega)).mono ?_⟩
    rintro _ w2 ⟨v, rfl, ⟨hp', _⟩ | ⟨k', i, l', hp', hch', rfl, D', ds, ld, hk⟩⟩
    · rw [hp'] at hpk; cases hpk
    · rw [hp'] at hpk
      have : keyL e = k' := by simpa using hpk
      subst this
      dsimp only at hch' hk
      rw [hch] at hch'
      injection hch' with e1 e2
      subst e1 e2
      exact ⟨rfl, _, D', setL_len L _, h.set he k1 c1 ds hk ld⟩
/-! ### Give -/
theorem J.mem (h : J w0 w C M Q z c L D pa pc) {e : Slb} (he : e ∈ L) : ∃ d ∈ D, d.fr = e.fr ∧ d.s = e.s ∧ d.f = e.f := by
  obtain ⟨i, hi, rfl⟩ := List.getElem_of_mem he
  have hlen := h.len
  obtain ⟨y1, y2, y3⟩ := h.at' hi (by omega)
  exact ⟨D[i], List.getElem_mem _, y1.symm, y2.symm, y3.symm⟩
theorem J.none (h : J w0 w C M Q z c L D pa pc) {n : Int} (hn : ∀ e ∈ L, e.fr ≠ n) : ∀ d ∈ D, d.fr ≠ n := by
  intro d hd
  obtain ⟨i, hi, rfl⟩ := List.getElem_of_mem hd
  have hlen := h.len
  obtain ⟨y1, _⟩ := h.at' (by omega) hi
  rw [← y1]
  exact hn _ (List.getElem_mem _)
theorem Lw.give (h : Lw w0 w C M Q z c L D pa pc oa oc ta tc P) (hl : L.length ≤ 1000) (n i : Int) : Calls Try.prog 38 #[ptr C, .int .i64 n, .int .i64 i] w fun r w1 => ∃ x : Int, r = .returned (.int .i64 x) ∧ Kept (blk C M L) w w1 ∧
    Calls Try.prog 50 #[ptr Q, .int .i64 n, .int .i64 i] w1 fun r w2 => r = .returned (.int .i64 x) ∧ ∃ L' D', L'.length = L.length ∧ Lw w0 w2 C M Q z c L' D' pa pc oa oc ta tc P := by
  have hlen := h.j.len
  by_cases hn : ∀ e ∈ L, e.fr ≠ n
  · refine (cgive_out h.j.ci.at' hn i).mono ?_
    rintro _ _ ⟨rfl, rfl⟩
    refine ⟨_, rfl, Kept.refl _ _, (dgive_out h.j.da (by omega) (h.j.none hn) i).mono ?_⟩
    rintro _ _ ⟨rfl, rfl⟩
    exact ⟨rfl, L, D, rfl, h⟩
  · have ⟨e, he, hf⟩ : ∃ e ∈ L, e.fr = n := Classical.byContradiction fun hx => hn fun e he hf => hx ⟨e, he, hf⟩
    subst hf
    obtain ⟨d, hd, df, dS, dF⟩ := h.j.mem he
    refine (give_cis h.j.ci he i).mono ?_
    rintro _ w1 ⟨rfl, k1, c1⟩
    refine ⟨_, rfl, k1, ?_⟩
    have hdg := dgive_in (h.j.fst0 k1) (by omega) hd i
    rw [df, dS, dF] at hdg
    refine hdg.mono ?_
    rintro _ w2 ⟨rfl, D', ds, ld, hk⟩
    refine ⟨rfl, ?_⟩
    by_cases hg : giveOf e.s i = 0
    · rw [if_pos hg] at c1 hk
      exact ⟨_, D', setL_len L _, h.set he k1 c1 ds hk ld⟩
    · rw [if_neg hg] at c1 hk
      exact ⟨L, D', rfl, h.upd k1 c1 (fun b hb => hb) rfl ds (by rw [hk, h.j.ky]) ld⟩
/-! ### Mark, Clear -/
theorem CIs.one (h : CIs w0 w C M z c L) {e : Slb} (he : e ∈ L) {s : Sl} {f : Nat → Int} (k : Kept (two e.S e.B) w w') (a : At w' e.S e.B e.bc s f) (hz : s.size = e.s.size) : CIs w0 w' C M z c (setL L (set1 e s f)) ∧ Kept (blk C M L) w w' := by
  obtain ⟨L1, L2, rfl⟩ := List.append_of_mem he
  have a2 := h.at'.step k a hz
  refine h.set he k ?_
  rw [setL_split (e' := set1 e s f) h.at'.so rfl]
  exact a2
theorem Lw.mark (h : Lw w0 w C M Q z c L D pa pc oa oc ta tc P) {e : Slb} {d : Dsl} (he : e ∈ L) (hd : d ∈ D) (hf : d.fr = e.fr) (i t : Int) (h0 : 0 ≤ t) (h1 : t ≤ 18446744073709551615) : Calls Try.prog 25 #[ptr e.S, .int .i64 i, .int .u64 t] w fun r w1 => ∃ x : Int, r = .returned (.int .i64 x) ∧ Kept (blk C M L) w w1 ∧
    Calls Try.prog 32 #[ptr d.R, .int .i64 i, .int .u64 t] w1 fun r w2 => r = .returned (.int .i64 x) ∧ Kept (wbk Q D) w1 w2 ∧ ∃ L' D', L'.length = L.length ∧ Lw w0 w2 C M Q z c L' D' pa pc oa oc ta tc P := by
  obtain ⟨d', hd', df, dS, dF⟩ := h.j.mem he
  have : d' = d := frD_uniq' h.j.da.so hd' hd (by rw [df, hf])
  subst this
  refine (mark_spec (h.j.ci.at'.sl e he).1 i t h0 h1).mono ?_
  rintro _ w1 ⟨rfl, k1, a1⟩
  obtain ⟨c1, k1'⟩ := h.j.ci.one he k1 a1 (by split <;> rfl)
  have d1 := h.j.fst0 k1'
  have hr := rmark_spec (d1.sl _ hd).1 i t h0 h1
  refine ⟨_, rfl, k1', ?_⟩
  have hr2 := (d1.sl _ hd).1
  rw [dS] at hr
  refine hr.mono ?_
  rintro _ w2 ⟨rfl, k2, r2⟩
  obtain ⟨D', ds, hk, ld⟩ := d1.go hd k2 r2 (by rw [dS]; split <;> rfl) (fun hc => .inr ⟨by rw [dS]; intro hx; exact hc (by split <;> exact hx), rfl⟩)
  rw [df, dF] at hk
  exact ⟨rfl, ds.k, _, D', setL_len L _, h.set he k1' c1 ds hk ld⟩
theorem Lw.clear (h : Lw w0 w C M Q z c L D pa pc oa oc ta tc P) {e : Slb} {d : Dsl} (he : e ∈ L) (hd : d ∈ D) (hf : d.fr = e.fr) (i : Int) : Calls Try.prog 26 #[ptr e.S, .int .i64 i] w fun r w1 => ∃ x : Int, r = .returned (.int .i64 x) ∧ Kept (blk C M L) w w1 ∧
    Calls Try.prog 33 #[ptr d.R, .int .i64 i] w1 fun r w2 => r = .returned (.int .i64 x) ∧ Kept (wbk Q D) w1 w2 ∧ ∃ L' D', L'.length = L.length ∧ Lw w0 w2 C M Q z c L' D' pa pc oa oc ta tc P := by
  obtain ⟨d', hd', df, dS, dF⟩ := h.j.mem he
  have : d' = d := frD_uniq' h.j.da.so hd' hd (by rw [df, hf])
  subst this
  refine (clear_spec (h.j.ci.at'.sl e he).1 i).mono ?_
  rintro _ w1 ⟨rfl, k1, a1⟩
  obtain ⟨c1, k1'⟩ := h.j.ci.one he k1 a1 (by split <;> rfl)
  have d1 := h.j.fst0 k1'
  have hr := rclear_spec (d1.sl _ hd).1 i
  refine ⟨_, rfl, k1', ?_⟩
  rw [dS] at hr
  refine hr.mono ?_
  rintro _ w2 ⟨rfl, k2, r2⟩
  obtain ⟨D', ds, hk, ld⟩ := d1.go hd k2 r2 (by rw [dS]; split <;> rfl) (fun hc => .inr ⟨by rw [dS]; intro hx; exact hc (by split <;> exact hx), rfl⟩)
  rw [df, dF] at hk
  exact ⟨rfl, ds.k, _, D', setL_len L _, h.set he k1' c1 ds hk ld⟩
end
end Go.Proofs.Ytkancagfhbkhiaa
namespace Go.Proofs.Ytkancagfhbkhiaa
open Go Eng
set_option linter.unusedSimpArgs false
set_option linter.unusedVariables false
set_option maxRecDepth 10000
section
variable {w0 w w' : World} {C M Q z c pc oc tc : Nat} {L : List Slb} {D : List Dsl} {pa oa ta : Option Addr} {P : List Pr}
/-! ### Drop -/
theorem CAt.apart (h : CAt w C M z c L) {x e : Slb} (hx : x ∈ L) (he : e ∈ L) (hf : x.fr ≠ e.fr) : apart (x.S, x.B) (e.S, e.B) := by
  obtain ⟨L1, L2, rfl⟩ := List.append_of_mem he
  have hap := h.ap
  unfold skel at hap
  rw [List.map_append, List.map_cons, List.pairwise_append, List.pairwise_cons] at hap
  obtain ⟨_, ⟨q2, _⟩, q3⟩ := hap
  rcases List.mem_append.1 hx with hx | hx
  · exact q3 _ (List.mem_map.2 ⟨x, hx, rfl⟩) _ (by simp)
  · rcases List.mem_cons.1 hx with rfl | hx
    · exact absurd rfl hf
    · exact apart_symm (q2 _ (List.mem_map.2 ⟨x, hx, rfl⟩))
theorem DAt.apart (h : DAt w Q z c pa pc D) {x e : Dsl} (hx : x ∈ D) (he : e ∈ D) (hf : x.fr ≠ e.fr) : apart (x.R, x.B) (e.R, e.B) := by
  obtain ⟨L1, L2, rfl⟩ := List.append_of_mem he
  have hap := h.ap
  unfold skelD at hap
  rw [List.map_append, List.map_cons, List.pairwise_append, List.pairwise_cons] at hap
  obtain ⟨_, ⟨q2, _⟩, q3⟩ := hap
  rcases List.mem_append.1 hx with hx | hx
  · exact q3 _ (List.mem_map.2 ⟨x, hx, rfl⟩) _ (by simp)
  · rcases List.mem_cons.1 hx with rfl | hx
    · exact absurd rfl hf
    · exact apart_symm (q2 _ (List.mem_map.2 ⟨x, hx, rfl⟩))
theorem dropK_L {L1 L2 : List Slb} {e : Slb} (h : ((L1 ++ e :: L2).map (·.fr)).Pairwise (· < ·)) : (L1 ++ L2).map keyL = dropK ((L1 ++ e :: L2).map keyL) e.fr := by
  obtain ⟨t1, t2⟩ := frs_ne h
  unfold dropK
  simp only [List.map_append, List.map_cons, List.filter_append, List.filter_cons]
  rw [if_neg (by simp), List.filter_eq_self.2 (by intro x hx; obtain ⟨y, hy, rfl⟩ := List.mem_map.1 hx; simpa using t1 y hy), List.filter_eq_self.2 (by intro x hx; obtain ⟨y, hy, rfl⟩ := List.mem_map.1 hx; simpa using t2 y hy)]
theorem bytes_src {B n m : Nat} {f : Nat → Int} (h : Eng.bytes w B f) (hn : n ≤ 256) : Src w (some ⟨B, 0, none⟩) n m (byteL n f) := by
  obtain ⟨cs, o, hc, hr⟩ := h
  exact Src.of_own o fun j u hj => by
    have hj2 : j < n := by have := (List.getElem?_eq_some_iff.1 hj).1; simpa [byteL] using this
    rw [Nat.zero_add, hr j (by omega)]
    simpa [byteL, hj2] using hj
theorem Lw.drop (h : Lw w0 w C M Q z c L D pa pc oa oc ta tc P) (hl : L.length ≤ 1000) (n : Int) : Calls Try.prog 42 #[ptr C, .int .i64 n] w fun r w1 => ∃ x : Int, r = .returned (.int .i64 x) ∧ Kept (blk C M L) w w1 ∧
    Calls Try.prog 51 #[ptr Q, .int .i64 n] w1 fun r w2 => r = .returned (.int .i64 x) ∧ ∃ L' D' pa' pc', L'.length ≤ L.length ∧ Lw w0 w2 C M Q z c L' D' pa' pc' oa oc ta tc P := by
  have hlen := h.j.len
  by_cases hn : ∀ e ∈ L, e.fr ≠ n
  · refine (cdrop_out h.j.ci.at' hn).mono ?_
    rintro _ _ ⟨rfl, rfl⟩
    refine ⟨_, rfl, Kept.refl _ _, (ddrop_spec h.j.da (by omega) n).mono ?_⟩
    rintro _ w2 ⟨v, rfl, ⟨_, rfl, rfl⟩ | ⟨d, hd, hf, _⟩⟩
    · exact ⟨rfl, L, D, pa, pc, Nat.le_refl _, h⟩
    · exact absurd hf (h.j.none hn d hd)
  · have ⟨e, he, hf⟩ : ∃ e ∈ L, e.fr = n := Classical.byContradiction fun hx => hn fun e he hf => hx ⟨e, he, hf⟩
    subst hf
    obtain ⟨d, hd, df, dS, dF⟩ := h.j.mem he
    by_cases hx : e.s.ch.length = e.s.count
    · have e0 := he
      obtain ⟨L1, L2, hL⟩ := List.append_of_mem he
      have hat := h.j.ci.at'
      rw [hL] at hat
      have hso := hat.so
      refine (cdrop_ok hat hx).mono ?_
      rintro _ w1 ⟨rfl, k1, a1⟩
      have kb1 : Kept (blk C M L) w w1 := k1.weak fun b hb => .inl (.inr (.inl hb))
      have d1 := h.j.fst0 kb1
      refine ⟨_, rfl, kb1, (ddrop_spec d1 (by omega) e.fr).mono ?_⟩
      rintro _ w2 ⟨v, rfl, ⟨hno, _⟩ | ⟨d', hd', hf', ⟨hne, _⟩ | ⟨hc, rfl, D', pa', pc', ds, ky, ld, kQ, sub⟩⟩⟩
      · exact absurd df (hno d hd)
      · have : d' = d := frD_uniq' h.j.da.so hd' hd (by rw [hf', df])
        subst this
        rw [dS] at hne
        exact absurd hx hne
      · refine ⟨rfl, L1 ++ L2, D', pa', pc', by rw [hL]; simp, ?_⟩
        have sub1 : ∀ x ∈ L1 ++ L2, x ∈ L ∧ x.fr ≠ e.fr := fun x hx => by
          obtain ⟨f1, f2⟩ := frs_ne hso
          rw [hL]
          rcases List.mem_append.1 hx with hx | hx
          · exact ⟨by simp [hx], f1 x hx⟩
          · exact ⟨by simp [hx], f2 x hx⟩
        have bl : ∀ b, blk C M (L1 ++ L2) b → blk C M L b := fun b hb => by
          rcases hb with hb | hb | ⟨x, hx, hb⟩
          · exact .inl hb
          · exact .inr (.inl hb)
          · exact .inr (.inr ⟨x, (sub1 x hx).1, hb⟩)
        have wb : ∀ b, wbk Q D' b → wbk Q D b := fun b hb => by
          rcases hb with hb | ⟨x, hx, hb⟩
          · exact .inl hb
          · exact .inr ⟨x, (sub x hx).1, hb⟩
        have hgM : ∀ b, b = M → blk C M L b := fun b hb => .inr (.inl hb)
        have c1 : CIs w0 w1 C M z c (L1 ++ L2) := ⟨a1, h.j.ci.fr.go k1 fun b hb => .inr (h.j.ci.ge b (hgM b hb)), fun b hb => h.j.ci.ge b (bl b hb)⟩
        have z1 := k1.sz
        have ky' : (L1 ++ L2).map keyL = D'.map keyD := by rw [dropK_L hso, ← hL, ky, h.j.ky]
        have j' := h.j.both none' none' (kb1.weak fun b hb => .inl (.inl hb)) c1 (fun b hb => .inl (bl b hb)) (fun b hb => hb.elim) (ds.k.weak fun b hb => .inl (.inl hb)) ds.da
          (fun b hb => .inl (wb b hb)) ds.rb (fun b hb => hb.elim) ky'
        refine h.go ((kb1.weak fun b hb => .inl (.inl hb)).go ds.k fun b hb => .inl (.inr hb)) j' (fun b hb => .inl (bl b hb)) (fun b hb => .inl (wb b hb)) (fun b hb => by rcases ds.rb b hb with h | h; exact .inl h; exact .inr (by omega)) (fun p _ hl => ?_)
        obtain ⟨fr, hX, hY, hn⟩ := hl
        by_cases hfr : fr = e.fr
        · right
          intro hlt
          subst hfr
          obtain ⟨e1, he1, hee⟩ := List.mem_map.1 hX
          obtain ⟨d2, hd2, hde⟩ := List.mem_map.1 hY
          injection hee with f1 f2
          injection hde with g1 g2
          have : e1 = e := frL_uniq h.j.ci.at'.so he1 e0 f1
          subst this
          have : d2 = d := frD_uniq' h.j.da.so hd2 hd (by rw [g1, df])
          subst this
          have bX : blk C M L p.X := .inr (.inr ⟨e1, e0, .inr f2.symm⟩)
          have bY : wbk Q D p.Y := .inr ⟨d2, hd, .inr g2.symm⟩
          have nC := h.j.ci.at'.nC e1 e0
          have hX2 : Eng.bytes w2 p.X e1.f := by
            rw [← f2]
            exact ((h.j.ci.at'.sl e1 e0).1.by'.kx k1 nC.2.2.2).kx kQ (fun hx => (h.j.ap _ (.inr (.inr ⟨e1, e0, .inr rfl⟩))).1 (.inl hx))
          have hY2 : Eng.bytes w2 p.Y e1.f := by
            rw [← g2, ← dF]
            exact ((h.j.da.sl d2 hd).1.by'.kx k1 (fun hx => (h.j.ap M (.inr (.inl rfl))).1 (.inr ⟨d2, hd, .inr hx.symm⟩))).kx kQ (h.j.da.nQ d2 hd).2
          refine ⟨e1.f, bytes_src hX2 (by omega), bytes_src hY2 (by omega), fun b hb => ⟨fun hx => ?_, fun hx => ?_, id⟩⟩
          · rcases hb with rfl | rfl
            · rcases hx with hx | hx | ⟨x, hx', hx⟩
              · exact nC.2.1 (f2.trans hx)
              · exact nC.2.2.2 (f2.trans hx)
              · obtain ⟨xL, xf⟩ := sub1 x hx'
                have ap := h.j.ci.at'.apart xL e0 xf
                rcases hx with hx | hx
                · exact ap.2.1 (hx.symm.trans f2.symm)
                · exact ap.2.2.2 (hx.symm.trans f2.symm)
            · exact (h.j.ap _ (bl _ hx)).1 bY
          · rcases hb with rfl | rfl
            · exact (h.j.ap _ bX).1 (wb _ hx)
            · rcases hx with hx | ⟨x, hx', hx⟩
              · exact (h.j.da.nQ d2 hd).2 (g2.trans hx)
              · obtain ⟨xL, xf⟩ := sub x hx'
                have ap := h.j.da.apart xL hd (by rw [df]; exact xf)
                rcases hx with hx | hx
                · exact ap.2.1 (hx.symm.trans g2.symm)
                · exact ap.2.2.2 (hx.symm.trans g2.symm)
        · left
          refine ⟨fr, ?_, by rw [ld]; exact List.mem_filter.2 ⟨hY, by simpa using hfr⟩, hn⟩
          obtain ⟨e1, he1, hee⟩ := List.mem_map.1 hX
          injection hee with f1 f2
          refine List.mem_map.2 ⟨e1, ?_, by rw [f1, f2]⟩
          rw [hL] at he1
          rcases List.mem_append.1 he1 with h1 | h1
          · simp [h1]
          · rcases List.mem_cons.1 h1 with rfl | h1
            · exact absurd f1.symm hfr
            · simp [h1]
    · refine (cdrop_no h.j.ci.at' he hx).mono ?_
      rintro _ _ ⟨rfl, rfl⟩
      refine ⟨_, rfl, Kept.refl _ _, (ddrop_spec h.j.da (by omega) e.fr).mono ?_⟩
      rintro _ w2 ⟨v, rfl, ⟨hno, _⟩ | ⟨d', hd', hf', ⟨hne, rfl, k2⟩ | ⟨hc, _⟩⟩⟩
      · exact absurd df (hno d hd)
      · exact ⟨rfl, L, D, pa, pc, Nat.le_refl _, h.k k2⟩
      · have : d' = d := frD_uniq' h.j.da.so hd' hd (by rw [hf', df])
        subst this
        rw [dS] at hc
        exact absurd hc hx
/-! ### Add -/
theorem Lw.add (h : Lw w0 w C M Q z c L D pa pc oa oc ta tc P) (hl : L.length ≤ 1000) (fr : Int) (f64 : fr ≤ 9223372036854775807) {wb : World} {X Y n : Nat} {v : Int} (kb : Kept none' w wb) (hX : w.heap.size ≤ X) (hY : w.heap.size ≤ Y) (hXY : X ≠ Y) (hn : n = 255 ∨ n = 256)
    (oX : own wb X (byteR n v)) (oY : own wb Y (byteR n v)) : Calls Try.prog 37 #[ptr C, .int .i64 fr, slV X n] wb fun r w1 => ∃ x : Int, r = .returned (.int .i64 x) ∧ Kept (fun b => blk C M L b ∨ b = X) wb w1 ∧
    Calls Try.prog 48 #[ptr Q, .int .i64 fr, slV Y n] w1 fun r w2 => r = .returned (.int .i64 x) ∧ ∃ c' L' D' pa' pc', L'.length ≤ L.length + 1 ∧ Lw w0 w2 C M Q z c' L' D' pa' pc' oa oc ta tc P ∧
      (live L' D' ⟨X, Y, n⟩ ∨ dead w2 C M Q L' D' (fun b => ob oa P.length oc b ∨ ob ta P.length tc b) ⟨X, Y, n⟩) := by
  have hlen := h.j.len
  have hb := h.k kb
  have lb : ∀ b, blk C M L b → b < w.heap.size := fun b hb => h.j.ci.at'.lt hb
  have lw : ∀ b, wbk Q D b → b < w.heap.size := fun b hb => h.j.da.ltw hb
  have lr : ∀ b, rbk pa D b → b < w.heap.size := fun b hb => h.j.da.ltr hb
  have t1 : ∀ b, ob oa P.length oc b → b < w.heap.size := fun b hb => (h.r1.lt b hb).2
  have t2 : ∀ b, ob ta P.length tc b → b < w.heap.size := fun b hb => (h.r2.lt b hb).2
  have src : ∀ {wz : World} {B : Nat}, own wz B (byteR n v) → Src wz (some ⟨B, 0, none⟩) n n (byteL n fun _ => v) := fun o => Src.of_own o fun j u hj => by
    have hj2 : j < n := by have := (List.getElem?_eq_some_iff.1 hj).1; simpa [byteL] using this
    have : u = .int .u8 v := by simpa [byteL, hj2] using hj.symm
    rw [Nat.zero_add, this]
    simp [byteR, hj2]
  have isdead : dead wb C M Q L D (fun b => ob oa P.length oc b ∨ ob ta P.length tc b) ⟨X, Y, n⟩ :=
    ⟨fun _ => v, src oX, src oY, fun b hb => by
      have hbw : w.heap.size ≤ b := by rcases hb with rfl | rfl <;> assumption
      refine ⟨fun hx => ?_, fun hx => ?_, fun hx => ?_⟩
      · have := lb b hx; omega
      · have := lw b hx; omega
      · rcases hx with hx | hx
        · have := t1 b hx; omega
        · have := t2 b hx; omega⟩
  by_cases hbad : fr < 0 ∨ n ≠ 256
  · refine (cadd_bad hb.j.ci.at' fr _ n n hbad).mono ?_
    rintro _ _ ⟨rfl, rfl⟩
    refine ⟨_, rfl, Kept.refl _ _, (dadd_bad hb.j.da fr _ n n hbad).mono ?_⟩
    rintro _ _ ⟨rfl, rfl⟩
    exact ⟨rfl, c, L, D, pa, pc, by omega, hb, .inr isdead⟩
  · have hn256 : n = 256 := by omega
    have hfr : 0 ≤ fr := by omega
    subst hn256
    clear hn hbad
    by_cases hno : ∀ e ∈ L, e.fr ≠ fr
    · have bX : Eng.bytes wb X (fun _ => v) := ⟨_, oX, by rw [byteR, List.length_replicate]; exact Nat.le_refl _, fun i hi => by rw [byteR, List.getElem?_replicate, if_pos hi]⟩
      have bY : Eng.bytes wb Y (fun _ => v) := ⟨_, oY, by rw [byteR, List.length_replicate]; exact Nat.le_refl _, fun i hi => by rw [byteR, List.getElem?_replicate, if_pos hi]⟩
      have nX : ¬ blk C M L X := fun hx => by have := lb X hx; omega
      have nY : ¬ blk C M L Y := fun hx => by have := lb Y hx; omega
      refine (cadd_ok hb.j.ci.at' fr hfr f64 hno bX (Nat.le_refl _) nX).mono ?_
      rintro _ w1 ⟨rfl, k1, S, f, hS, a1, hf⟩
      have zb := kb.sz
      have z1 := k1.sz
      have hlX : X < wb.heap.size := oX.lt
      have hlY : Y < wb.heap.size := oY.lt
      have kb1 : Kept (fun b => blk C M L b ∨ b = X) wb w1 := k1.weak fun b hb => by
        rcases hb with hb | hb | hb
        · exact .inl (.inr hb)
        · exact .inl (.inl (.inl hb))
        · exact .inl (.inl (.inr (.inl hb)))
      have nXw : ∀ b, b = X → ¬ wbk Q D b ∧ ¬ rbk pa D b := fun b hb => by
        subst hb
        exact ⟨fun hx => by have := lw _ hx; omega, fun hx => by have := lr _ hx; omega⟩
      have d1 := hb.j.fst kb1 nXw
      have hYC : ¬ (Y = X ∨ Y = C ∨ Y = M) := by
        rintro (h | h | h)
        · exact hXY h.symm
        · exact nY (.inl h)
        · exact nY (.inr (.inl h))
      have bY1 := bY.kx k1 hYC
      refine ⟨_, rfl, kb1, (dadd_ok d1 (by omega) h.j.ci.at'.zc fr hfr (h.j.none hno) bY1 (Nat.le_refl _) ⟨fun hx => by have := lw _ hx; omega, fun hx => by have := lr _ hx; omega⟩).mono ?_⟩
      rintro _ w2 ⟨rfl, k2, D', pa', pc', f', d2, wb2, rb2, ky, ld, gd, hf'⟩
      refine ⟨rfl, nextCol z c, insL ⟨fr, S, X, 256, newSl z c, f⟩ L, D', pa', pc', by rw [insL_len]; omega, ?_⟩
      have ga : Good (newSl z c) f := (a1.sl _ (insL_mem.2 (.inl rfl))).1.good
      have hff : f = f' := new_same ga gd hf hf'
      subst hff
      have w0w := h.j.ci.fr.sz
      have bl : ∀ b, blk C M (insL ⟨fr, S, X, 256, newSl z c, f⟩ L) b → blk C M L b ∨ b = X ∨ wb.heap.size ≤ b := fun b hb => by
        rcases hb with hb | hb | ⟨x, hx, hb⟩
        · exact .inl (.inl hb)
        · exact .inl (.inr (.inl hb))
        · rcases insL_mem.1 hx with rfl | hx
          · rcases hb with hb | hb
            · right; right
              have : b = S := hb
              omega
            · exact .inr (.inl hb)
          · exact .inl (.inr (.inr ⟨x, hx, hb⟩))
      have c1 : CIs w0 w1 C M z (nextCol z c) (insL ⟨fr, S, X, 256, newSl z c, f⟩ L) := ⟨a1, hb.j.ci.fr.go kb1 fun b hb' => .inr (by
        rcases hb' with hb' | hb'
        · exact h.j.ci.ge b hb'
        · omega), fun b hb' => by
        rcases bl b hb' with hb' | hb' | hb'
        · exact h.j.ci.ge b hb'
        · omega
        · omega⟩
      have ky' : (insL ⟨fr, S, X, 256, newSl z c, f⟩ L).map keyL = D'.map keyD := by rw [insL_key, ky, h.j.ky]
      have kq : Kept (fun b => wbk Q D b ∨ b = Y) w1 w2 := k2.weak fun b hb => by
        rcases hb with hb | hb
        · exact .inl (.inr hb)
        · exact .inl (.inl (.inl hb))
      have j' := hb.j.both (· = X) (· = Y) kb1 c1 bl (fun b hb' => ⟨(nXw b hb').1, (nXw b hb').2, fun hx => hXY (hb'.symm.trans hx)⟩) kq d2 wb2 rb2 (fun b hb' => ⟨by rw [hb']; exact nY, by omega, by omega⟩) ky'
      have liv : ∀ p : Pr, live L D p → live (insL ⟨fr, S, X, 256, newSl z c, f⟩ L) D' p := fun p hl => by
        obtain ⟨g, hX', hY', hn⟩ := hl
        obtain ⟨e1, he1, hee⟩ := List.mem_map.1 hX'
        exact ⟨g, List.mem_map.2 ⟨e1, insL_mem.2 (.inr he1), hee⟩, (ld _).2 (.inr hY'), hn⟩
      refine ⟨h.go ?_ j' (fun b hb' => ?_) (fun b hb' => ?_) (fun b hb' => ?_) (fun p _ hl => .inl (liv p hl)), .inl ⟨fr, List.mem_map.2 ⟨_, insL_mem.2 (.inl rfl), rfl⟩, (ld _).2 (.inl rfl), rfl⟩⟩
      · refine ((kb.weak fun b hb => hb.elim).go kb1 fun b hb' => ?_).go kq fun b hb' => ?_
        · rcases hb' with hb' | hb'
          · exact .inl (.inl hb')
          · exact .inr (by omega)
        · rcases hb' with hb' | hb'
          · exact .inl (.inr hb')
          · exact .inr (by omega)
      · rcases bl b hb' with hb' | hb' | hb'
        · exact .inl hb'
        · exact .inr (by omega)
        · exact .inr (by omega)
      · rcases wb2 b hb' with hb' | hb' | hb'
        · exact .inl hb'
        · exact .inr (by omega)
        · exact .inr (by omega)
      · rcases rb2 b hb' with hb' | hb'
        · exact .inl hb'
        · exact .inr (by omega)
    · have ⟨e, he, hf⟩ : ∃ e ∈ L, e.fr = fr := Classical.byContradiction fun hx => hno fun e he hf => hx ⟨e, he, hf⟩
      subst hf
      obtain ⟨d, hd, df, dS, dF⟩ := h.j.mem he
      refine (cadd_twice hb.j.ci.at' he _ _).mono ?_
      rintro _ _ ⟨rfl, rfl⟩
      have ht := dadd_twice hb.j.da (by omega) hd (by rw [df]; exact hfr) (some ⟨Y, 0, none⟩) 256
      rw [df] at ht
      refine ⟨_, rfl, Kept.refl _ _, ht.mono ?_⟩
      rintro _ _ ⟨rfl, rfl⟩
      exact ⟨rfl, c, L, D, pa, pc, by omega, hb, .inr isdead⟩
end
end Go.Proofs.Ytkancagfhbkhiaa
namespace Go.Proofs.Ytkancagfhbkhiaa
open Go Eng
set_option linter.unusedSimpArgs false
set_option linter.unusedVariables false
set_option maxRecDepth 10000
section
variable {w0 w w' : World} {C M Q z c pc oc tc : Nat} {L : List Slb} {D : List Dsl} {pa oa ta : Option Addr} {P : List Pr}
theorem Lw.tail (h : Lw w0 w C M Q z c L D pa pc oa oc ta tc P) (hl : L.length ≤ 1000) {Y Z : World → Prop} (hZ : ∀ w', Lw w0 w' C M Q z c L D pa pc oa oc ta tc P → Z w') :
    Calls Try.prog 53 #[ptr C, ptr Q] w fun e w' => ∃ b : Bool, e = .returned (.bool b) ∧ Wif (!b) (Y w') (Z w') := by
  refine (csame_spec h.j hl).mono ?_
  rintro _ w1 ⟨rfl, k1⟩
  exact ⟨_, rfl, Wif_no rfl (hZ _ (h.k k1))⟩
/-- what stands between the rounds -/
def St (w0 : World) (C M Q z : Nat) (w : World) (oa : Option Addr) (ol oc : Nat) (ta : Option Addr) (tl tc : Nat) (q : Nat) : Prop :=
  ∃ (c : Nat) (L : List Slb) (D : List Dsl) (pa : Option Addr) (pc : Nat) (P : List Pr), Lw w0 w C M Q z c L D pa pc oa oc ta tc P ∧ ol = P.length ∧ tl = P.length ∧ P.length ≤ q ∧ L.length ≤ q
theorem u64_range (x : Int) : 0 ≤ IntKind.wrap .u64 x ∧ IntKind.wrap .u64 x ≤ 18446744073709551615 := by
  rw [IntKind.wrap_u64]
  omega
end
theorem cplays_law (size : Int) (l : Option Addr) (lL lC : Nat) (w : World) (hl : 0 < lL → isP l = true) (ho : ∀ i, i < lL → ∃ k f j b s, Op5 w l i k f j b s) :
    Calls Try.prog 14 #[.int .i64 size, .slice l lL lC] w fun e w' => e = .returned (.bool true) ∧ Kept none' w w' := by
  refine (vc14 size l lL lC w (fun v w' => v = .bool true ∧ Kept none' w w') ?_).mono ?_
  · unfold vcP14
    refine Wif_intro (fun h => fin_cknown (Kept.refl _ _)) (fun h => ?_)
    have hl150 : lL ≤ 150 := by simp at h; omega
    clear h
    by_cases hm : mayBe size 0
    · obtain ⟨z, c0, rfl, hc0, h8, h128, hc⟩ := mayBe_nat hm
      refine (new_cis (Kept.refl _ w) z hm).mono ?_
      rintro _ w1 ⟨C, M, rfl, k1, c1, _, _⟩
      refine ⟨_, _, rfl, (dnew_ok z hm w1).mono ?_⟩
      rintro _ w2 ⟨rfl, k2, d2⟩
      refine ⟨_, _, rfl, Wif_no rfl (Wif_no rfl ?_)⟩
      have start : ∃ Q, w1.heap.size = Q ∧ Lw w w2 C M Q z 0 [] [] none 0 none 0 none 0 [] := by
        refine ⟨_, rfl, ⟨c1.k k2, d2, fun b hb => ?_, rfl, fun b hb => ⟨fun hx => ?_, fun hx => ?_⟩⟩, World.ownsRow_nil (base := w.heap.size) (e := 22) (size := 1) w2, World.ownsRow_nil (base := w.heap.size) (e := 22) (size := 1) w2, fun b hb => ?_, fun b hb => ?_, fun p hp => ?_⟩
        · rcases hb with rfl | ⟨d, hd, _⟩
          · exact k1.sz
          · cases hd
        · have := c1.at'.lt hb
          rcases hx with hx | ⟨d, hd, _⟩
          · omega
          · cases hd
        · rcases hx with ⟨hx, _⟩ | ⟨d, hd, _⟩
          · exact hx rfl
          · cases hd
        · cases hb
        · cases hb
        · cases hp
      obtain ⟨Q, hQ, start⟩ := start
      rw [hQ]
      clear c1 d2 k1 k2 hQ
      refine ⟨fun b a l1 c a1 l2 c1 n w' m => ∃ q : Nat, n = q ∧ q ≤ lL ∧ m = lL - q ∧ St w C M Q z w' a l1 c a1 l2 c1 q, ⟨lL, 0, rfl, by omega, rfl, 0, [], [], none, 0, [], start, rfl, rfl, by simp, by simp⟩, ?_⟩
      rintro b oa ol oc ta tl tc n w8 m ⟨q, rfl, hq, rfl, c, L, D, pa, pc, P, h8, rfl, rfl, hPq, hLq⟩
      clear start
      have hwn : IntKind.wrap .i64 ((q : Int) + 1) = ((q + 1 : Nat) : Int) := by rw [wi (by omega)]; rfl
      refine Wif_intro (fun hlt => ?_) (fun hlt => ?_)
      · have hlt : q < lL := by simpa using hlt
        obtain ⟨ok, of', oj, ob', os, op⟩ := ho q hlt
        rw [hwn]
        -- what the next round asks for
        have next : ∀ {w' : World} {c' : Nat} {L' : List Slb} {D' : List Dsl} {pa' : Option Addr} {pc' : Nat}, L'.length ≤ q + 1 → Lw w w' C M Q z c' L' D' pa' pc' oa oc ta tc P →
            ∃ m, Nat.succ m ≤ lL - q ∧ ∃ q' : Nat, ((q + 1 : Nat) : Int) = q' ∧ q' ≤ lL ∧ m = lL - q' ∧ St w C M Q z w' oa P.length oc ta P.length tc q' :=
          fun hL hw => ⟨lL - (q + 1), by omega, q + 1, rfl, by omega, rfl, _, _, _, _, _, P, hw, rfl, rfl, by omega, hL⟩
        refine Wif_yes (hl (by omega)) (Wif_yes (inB_of (by omega) (by omega)) ⟨ok, of', oj, ob', os, ⟨?_, ?_, ?_, ?_, ?_⟩, ?_⟩)
        · rw [Int.toNat_natCast]; exact h8.j.ci.fr.rd_some op.r0 id
        · rw [Int.toNat_natCast]; exact h8.j.ci.fr.rd_some op.r1 id
        · rw [Int.toNat_natCast]; exact h8.j.ci.fr.rd_some op.r2 id
        · rw [Int.toNat_natCast]; exact h8.j.ci.fr.rd_some op.r3 id
        · rw [Int.toNat_natCast]; exact h8.j.ci.fr.rd_some op.r4 id
        intro x8 e8
        have p8 := own_alloc (c := [.int .i64 0, .int .i64 0, .int .i64 0, .int .u8 0, .bool false]) e8
        have k8 := (Kept.refl none' w8).al (c := #[.int .i64 0, .int .i64 0, .int .i64 0, .int .u8 0, .bool false]) e8
        refine ⟨⟨p8.wr (by simp), p8.wr (by simp), p8.wr (by simp), p8.wr (by simp), p8.wr (by simp)⟩, ?_⟩
        intro w9 e9
        generalize hx1 : Eng.st x8 w8.heap.size 0 (Value.int .i64 ok) = x1 at e9
        generalize hx2 : Eng.st x1 w8.heap.size 1 (Value.int .i64 of') = x2 at e9
        generalize hx3 : Eng.st x2 w8.heap.size 2 (Value.int .i64 oj) = x3 at e9
        generalize hx4 : Eng.st x3 w8.heap.size 3 (Value.int .u8 ob') = x4 at e9
        have p9 := ((((p8.s1 hx1.symm).s1 hx2.symm).s1 hx3.symm).s1 hx4.symm).s1 e9
        have k9 := ((((k8.s1 hx1.symm (.inr (Nat.le_refl _))).s1 hx2.symm (.inr (Nat.le_refl _))).s1 hx3.symm (.inr (Nat.le_refl _))).s1 hx4.symm (.inr (Nat.le_refl _))).s1 e9 (.inr (Nat.le_refl _))
        have hbO : ¬ blk C M L w8.heap.size := fun hx => Nat.lt_irrefl _ (h8.j.ci.at'.lt hx)
        have hwO : ¬ wbk Q D w8.heap.size := fun hx => Nat.lt_irrefl _ (h8.j.da.ltw hx)
        have h9 := h8.k k9
        simp at p9
        clear hx1 hx2 hx3 hx4 e9 e8 p8 k8 k9 h8
        generalize w8.heap.size = O at *
        have r0 : rd w9 O 0 = some (.int .i64 ok) := by rw [p9.rd]; rfl
        have hL1 : L.length ≤ 1000 := by omega
        have hlen := h9.j.len
        refine ⟨ok, r0, Wif_intro (fun c0 => ?_) (fun c0 => Wif_intro (fun c1 => ?_) (fun c1 => Wif_intro (fun c2' => ?_) (fun c2' => Wif_intro (fun c3 => ?_) (fun c3 => Wif_intro (fun c4 => Wif_yes c4 ?ga) (fun c4 => Wif_intro (fun c5 => ?gb) (fun c5 => ?_))))))⟩
        · -- Add
          intro w10 e10
          have k10 : Kept none' w9 w10 := (Kept.refl _ _).dr e10
          have h10 := h9.k k10
          have p10 := p9.dr e10
          have q0 : rd w10 O 0 = some (.int .i64 ok) := by rw [p10.rd]; rfl
          have q1 : rd w10 O 1 = some (.int .i64 of') := by rw [p10.rd]; rfl
          have q2 : rd w10 O 2 = some (.int .i64 oj) := by rw [p10.rd]; rfl
          have q3 : rd w10 O 3 = some (.int .u8 ob') := by rw [p10.rd]; rfl
          have q4 : rd w10 O 4 = some (.bool os) := by rw [p10.rd]; rfl
          refine ⟨_, _, _, _, _, ⟨q0, q1, q2, q3, q4⟩, _, _, _, _, _, ⟨q0, q1, q2, q3, q4⟩, (bytes_spec ok of' oj ob' os).mono ?_⟩
          rintro _ w11 ⟨X, n, rfl, hn, k11, hX, oX⟩
          refine ⟨_, _, _, rfl, ⟨⟨k11.rd_some q0 id, k11.rd_some q1 id, k11.rd_some q2 id, k11.rd_some q3 id, k11.rd_some q4 id⟩, trivial⟩, (bytes_spec ok of' oj ob' os).mono ?_⟩
          rintro _ w12 ⟨Y, n', rfl, hn', k12, hY, oY⟩
          have hnn : n' = n := by rw [hn, hn']
          subst hnn
          have hnv : n' = 255 ∨ n' = 256 := by cases os <;> simp at hn <;> omega
          refine ⟨_, _, _, rfl, ?_⟩
          intro w13 e13
          have k13 : Kept none' w12 w13 := (Kept.refl _ _).dr e13
          have k1013 := (k11.tr k12).tr k13
          have s1 : rd w13 O 1 = some (.int .i64 of') := k1013.rd_some q1 id
          have hXl := oX.lt
          have hYl := oY.lt
          have z11 := k11.sz
          have hOlt : O < w10.heap.size := p10.lt
          refine ⟨_, s1, _, s1, (h10.add hL1 of' op.f64.2 k1013 hX (by omega) (by omega) hnv ((oX.k k12).k k13) (oY.k k13)).mono ?_⟩
          rintro _ w14 ⟨x, rfl, k14, hc⟩
          refine ⟨_, rfl, ⟨k14.rd_some s1 (by
            rintro (hx | hx)
            · exact hbO hx
            · omega), trivial⟩, hc.mono ?_⟩
          rintro _ w15 ⟨rfl, c', L', D', pa', pc', hL', h15, okp⟩
          refine ⟨_, rfl, Wif_no (by simp) ?_⟩
          intro w16 e16
          obtain ⟨a', cc', w17, ha, rest⟩ := h15.push (by omega) ⟨X, Y, n'⟩ (by show 0 < n'; omega) (by show n' ≤ 256; omega) okp e16
          refine ⟨a', _, cc', w17, ha, ?_⟩
          intro w18 e18
          obtain ⟨a'', cc'', w19, hb, h19⟩ := rest w18 e18
          refine ⟨a'', _, cc'', w19, hb, h19.tail (by omega) fun w' hw' => ⟨lL - (q + 1), by omega, q + 1, rfl, by omega, rfl, _, _, _, _, _, _, hw', by simp, by simp, by simp; omega, by omega⟩⟩
        · -- Take
          refine (h9.take hL1).mono ?_
          rintro _ w10 ⟨x, y, e, rfl, hc⟩
          refine ⟨_, _, _, rfl, hc.mono ?_⟩
          rintro _ w11 ⟨rfl, L', D', hL', h11⟩
          exact ⟨_, _, _, rfl, Wif_no (by simp) (h11.tail (by omega) fun w' hw' => next (by omega) hw')⟩
        · -- Give
          intro w10 e10
          have k10 : Kept none' w9 w10 := (Kept.refl _ _).dr e10
          have h10 := h9.k k10
          have p10 := p9.dr e10
          have q1 : rd w10 O 1 = some (.int .i64 of') := by rw [p10.rd]; rfl
          have q2 : rd w10 O 2 = some (.int .i64 oj) := by rw [p10.rd]; rfl
          refine ⟨_, q1, _, q2, _, q1, _, q2, (h10.give hL1 of' oj).mono ?_⟩
          rintro _ w11 ⟨x, rfl, k11, hc⟩
          refine ⟨_, rfl, ⟨k11.rd_some q2 hbO, trivial⟩, ⟨k11.rd_some q1 hbO, trivial⟩, hc.mono ?_⟩
          rintro _ w12 ⟨rfl, L', D', hL', h12⟩
          exact ⟨_, rfl, Wif_no (by simp) (h12.tail (by omega) fun w' hw' => next (by omega) hw')⟩
        · -- Drop
          intro w10 e10
          have k10 : Kept none' w9 w10 := (Kept.refl _ _).dr e10
          have h10 := h9.k k10
          have p10 := p9.dr e10
          have q1 : rd w10 O 1 = some (.int .i64 of') := by rw [p10.rd]; rfl
          refine ⟨_, q1, _, q1, (h10.drop hL1 of').mono ?_⟩
          rintro _ w11 ⟨x, rfl, k11, hc⟩
          refine ⟨_, rfl, ⟨k11.rd_some q1 hbO, trivial⟩, hc.mono ?_⟩
          rintro _ w12 ⟨rfl, L', D', pa', pc', hL', h12⟩
          exact ⟨_, rfl, Wif_no (by simp) (h12.tail (by omega) fun w' hw' => next (by omega) hw')⟩
        case' ga => have hk : ok = 4 ∨ ok = 5 := by simp at c4; omega
        case' gb => have hk : ok = 4 ∨ ok = 5 := by simp at c5; omega
        rotate_right
        · exact h9.tail (by omega) fun w' hw' => next (by omega) hw'
        all_goals
          have r1 : rd w9 O 1 = some (.int .i64 of') := by rw [p9.rd]; rfl
          refine ⟨_, r1, ?_⟩
          by_cases hn : ∀ e ∈ L, e.fr ≠ of'
          · refine (slab_out h9.j.ci.at' hn).mono ?_
            rintro _ _ ⟨rfl, rfl⟩
            rename_i w9
            refine ⟨_, _, rfl, _, r1, (find_out h9.j.da (by omega) (h9.j.none hn)).mono ?_⟩
            rintro _ _ ⟨rfl, rfl⟩
            rename_i w9
            refine ⟨_, rfl, Wif_no rfl ?_⟩
            intro w10 e10
            have k10 : Kept none' w9 w10 := (Kept.refl _ _).dr e10
            have h10 := h9.k k10
            refine ⟨0, fun hx => (by cases hx), 0, fun hx => (by cases hx.1), 0, fun hx => (by cases hx.1), 0, fun hx => (by cases hx.1), 0, fun hx => (by cases hx.1), Wif_no rfl ⟨fun hx => (by cases hx.1), fun hx => (by cases hx.1), h10.tail (by omega) fun w' hw' => next (by omega) hw'⟩⟩
          · have ⟨e, he, hf⟩ : ∃ e ∈ L, e.fr = of' := Classical.byContradiction fun hx => hn fun e he hf => hx ⟨e, he, hf⟩
            subst hf
            obtain ⟨d, hd, df, dS, dF⟩ := h9.j.mem he
            have hfi := find_in h9.j.da (by omega) hd
            rw [df] at hfi
            refine (slab_in h9.j.ci.at' he).mono ?_
            rintro _ _ ⟨rfl, rfl⟩
            rename_i w9
            refine ⟨_, _, rfl, _, r1, hfi.mono ?_⟩
            rintro _ _ ⟨rfl, rfl⟩
            rename_i w9
            refine ⟨_, rfl, Wif_no rfl ?_⟩
            intro w10 e10
            have k10 : Kept none' w9 w10 := (Kept.refl _ _).dr e10
            have h10 := h9.k k10
            have p10 := p9.dr e10
            have q0 : rd w10 O 0 = some (.int .i64 ok) := by rw [p10.rd]; rfl
            have q2 : rd w10 O 2 = some (.int .i64 oj) := by rw [p10.rd]; rfl
            refine ⟨_, fun _ => q0, _, fun _ => q2, _, fun _ => q2, _, fun _ => q2, _, fun _ => q2, Wif_yes rfl (Wif_intro (fun k4 => ?_) (fun k4 => ?_))⟩
            · have k4' : ok = 4 := by simpa using k4
              have ur := u64_range oj
              refine (h10.mark he hd df oj _ ur.1 ur.2).mono ?_
              rintro _ w11 ⟨x, rfl, k11, hc⟩
              have p11 := p10.kx k11 hbO
              have q2' : rd w11 O 2 = some (.int .i64 oj) := by rw [p11.rd]; rfl
              refine ⟨_, rfl, fun _ => ⟨q2', trivial⟩, fun _ => ⟨q2', trivial⟩, hc.mono ?_⟩
              rintro _ w12 ⟨rfl, k12, L', D', hL', h12⟩
              have p12 := p11.kx k12 hwO
              have q0' : rd w12 O 0 = some (.int .i64 ok) := by rw [p12.rd]; rfl
              have q2'' : rd w12 O 2 = some (.int .i64 oj) := by rw [p12.rd]; rfl
              refine ⟨_, rfl, _, fun _ => q0', _, fun _ => q2'', _, fun _ => q2'', Wif_no (by simp) (Wif_no (by rw [k4']; rfl) ⟨fun _ => ⟨q2'', trivial⟩, h12.tail (by omega) fun w' hw' => next (by omega) hw'⟩)⟩
            · have k5' : ok = 5 := by
                rcases hk with hk | hk
                · rw [hk] at k4; cases k4
                · exact hk
              refine ⟨fun _ => ⟨q2, trivial⟩, fun _ => ⟨q2, trivial⟩, _, q0, _, fun _ => q2, _, fun _ => q2, Wif_yes (by rw [k5']; rfl) ?_⟩
              refine (h10.clear he hd df oj).mono ?_
              rintro _ w11 ⟨x, rfl, k11, hc⟩
              have p11 := p10.kx k11 hbO
              have q2' : rd w11 O 2 = some (.int .i64 oj) := by rw [p11.rd]; rfl
              refine ⟨_, rfl, fun _ => ⟨q2', trivial⟩, hc.mono ?_⟩
              rintro _ w12 ⟨rfl, k12, L', D', hL', h12⟩
              exact ⟨_, rfl, Wif_no (by simp) (h12.tail (by omega) fun w' hw' => next (by omega) hw')⟩
      · -- all calls are done
        refine ⟨fun b n w' m => ∃ k : Nat, n = k ∧ k ≤ P.length ∧ m = P.length - k ∧ Lw w w' C M Q z c L D pa pc oa oc ta tc P, ⟨P.length, 0, rfl, by omega, rfl, h8⟩, ?_⟩
        rintro b n w9 m ⟨k, rfl, hk, rfl, h9⟩
        refine Wif_intro (fun hlt => ?_) (fun _ => fin_cknown h9.j.ci.fr)
        have hlt : k < P.length := by simpa using hlt
        intro w10 e10
        have k10 : Kept none' w9 w10 := (Kept.refl _ _).dr e10
        have h10 := h9.k k10
        have s1 := Src.of_row h10.r1
        have s2 := Src.of_row h10.r2
        have g1 : (ownV P)[k]? = some (slV P[k].X P[k].n) := by simp [ownV, hlt]
        have g2 : (thV P)[k]? = some (slV P[k].Y P[k].n) := by simp [thV, hlt]
        have hin : inB (k : Int) P.length = true := inB_of (by omega) (by omega)
        obtain ⟨g, u1, u2⟩ := h10.alike (List.getElem_mem hlt)
        have v1 := cnvS_src Try.underlying22 Try.underlying5 Try.underlying9 (f := g) u1
        have v2 := cnvS_src Try.underlying22 Try.underlying5 Try.underlying9 (f := g) u2
        refine Wif_yes (s1.isp (by simp [ownV]; omega)) (Wif_yes hin ⟨_, _, _, by rw [Int.toNat_natCast, Nat.mul_one]; exact s1.rd g1, _, v1, Wif_yes (s2.isp (by simp [thV]; omega)) (Wif_yes hin ⟨_, _, _, by rw [Int.toNat_natCast, Nat.mul_one]; exact s2.rd g2, _, v2, Wif_no (by simp) ⟨P.length - (k + 1), by omega, k + 1, by rw [wi (by omega)]; rfl, by omega, rfl, h10⟩⟩)⟩)
    · refine (cnew_no size hm w).mono ?_
      rintro _ w1 ⟨rfl, k1⟩
      refine ⟨_, _, rfl, (dnew_no size hm w1).mono ?_⟩
      rintro _ w2 ⟨rfl, rfl⟩
      exact ⟨_, _, rfl, Wif_no rfl (Wif_yes rfl (Wif_yes rfl (fin_cknown k1)))⟩
  · rintro e w' ⟨v, rfl, rfl, h⟩
    exact ⟨rfl, h⟩
end Go.Proofs.Ytkancagfhbkhiaa
