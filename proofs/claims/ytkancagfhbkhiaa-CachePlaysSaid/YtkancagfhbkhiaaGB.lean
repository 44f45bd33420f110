/-
  A part of a proof that a law of this seat returns true at every input. Conditions: those in each theorem.
-/
import Derived.Test.YtkancagfhbkhiaaGA
import Derived.Test.YtkancagfhbkhiaaD6c
import Derived.Test.YtkancagfhbkhiaaK6
namespace Go.Proofs.Ytkancagfhbkhiaa
open Go Eng
set_option linter.unusedSimpArgs false
set_option linter.unusedVariables false
set_option maxRecDepth 10000

/-! ### Add -/
def insK (k : Key) : List Key → List Key
  | [] => [k]
  | x :: l => if x.1 < k.1 then x :: insK k l else k :: x :: l
theorem insL_key (e : Slb) : ∀ L : List Slb, (insL e L).map keyL = insK (keyL e) (L.map keyL)
  | [] => rfl
  | x :: L => by
    simp only [insL, insK, List.map_cons]
    by_cases h : x.fr < e.fr
    · rw [if_pos h, if_pos h, List.map_cons, insL_key e L]
    · rw [if_neg h, if_neg h, List.map_cons, List.map_cons]
theorem insK_mid (x : Dsl) : ∀ (D1 D2 : List Dsl), (∀ d ∈ D1, d.fr < x.fr) → (∀ d l, D2 = d :: l → ¬ d.fr < x.fr) → (D1 ++ x :: D2).map keyD = insK (keyD x) ((D1 ++ D2).map keyD)
  | [], [], _, _ => rfl
  | [], d :: D2, _, h => by
    simp only [List.nil_append, List.map_cons, insK]
    rw [if_neg (h d D2 rfl)]
  | y :: D1, D2, h1, h2 => by
    have hy := h1 y (List.mem_cons_self ..)
    have ih := insK_mid x D1 D2 (fun d hd => h1 d (List.mem_cons_of_mem _ hd)) h2
    simp only [List.cons_append, List.map_cons, insK]
    rw [if_pos hy, ih]
theorem mayBe_8 {z c : Nat} (h : mayBe z c) : mayBe z ((c : Int) + 8) ↔ c + 8 ≤ 256 % z := by
  obtain ⟨m1, m2, m3, m4, m5, m6⟩ := h
  have hmod : ((256 % z : Nat) : Int) = 256 % (z : Int) := Int.natCast_emod 256 z
  unfold mayBe
  omega
section
variable {w w' : World} {Q z c pc : Nat} {pa : Option Addr} {D D1 D2 : List Dsl}
theorem DAt.col (h : DAt w Q z c pa pc D) {c' : Nat} (e : w' = st w Q 1 (.int .i64 c')) : DAt w' Q z c' pa pc D := by
  have kQ : Kept (· = Q) w w' := (Kept.refl _ _).s1 e (.inl rfl)
  refine ⟨?_, ?_, h.plc, fun d hd => ⟨(h.sl d hd).1.kx kQ (h.nQ d hd).1 (h.nQ d hd).2 (fun hx => ?_), (h.sl d hd).2⟩, h.so, h.ap, h.nQ, h.rw'⟩
  · have := h.q.s1 e
    simpa using this
  · by_cases hD : D = []
    · subst hD
      exact ⟨h.pl.nil, fun hl => absurd hl (by simp [plD])⟩
    · exact h.pl.kx kQ fun b _ hb hpb => h.rw' _ (.inl ⟨hD, rfl⟩) (.inl (hpb.trans hb))
  · by_cases hc : d.s.ch = []
    · exact hc
    · exact absurd (.inl hx) (h.rw' _ (.inr ⟨d, hd, hc, rfl⟩))
theorem dadd_bad (h : DAt w Q z c pa pc D) (fr : Int) (b : Option Addr) (bl bc : Nat) (hb : fr < 0 ∨ bl ≠ 256) : Calls Try.prog 48 #[ptr Q, .int .i64 fr, .slice b bl bc] w fun r w' => r = .returned (.int .i64 2) ∧ w' = w := by
  refine (vc48 _ _ _ _ _ w (fun v w' => v = .int .i64 2 ∧ w' = w) ?_).mono ?_
  · unfold vcP48
    refine Wif_yes ?_ ⟨rfl, rfl⟩
    simp only [Bool.or_eq_true, decide_eq_true_eq, bne_iff_ne]
    omega
  · rintro e w' ⟨v, rfl, rfl, hw⟩
    exact ⟨rfl, hw⟩
theorem dadd_twice {d : Dsl} (h : DAt w Q z c pa pc D) (hl : D.length ≤ 1000) (hd : d ∈ D) (h0 : 0 ≤ d.fr) (b : Option Addr) (bc : Nat) : Calls Try.prog 48 #[ptr Q, .int .i64 d.fr, .slice b 256 bc] w fun r w' => r = .returned (.int .i64 8) ∧ w' = w := by
  refine (vc48 _ _ _ _ _ w (fun v w' => v = .int .i64 8 ∧ w' = w) ?_).mono ?_
  · unfold vcP48
    refine Wif_no (by simp; omega) ((find_in h hl hd).mono ?_)
    rintro _ _ ⟨rfl, rfl⟩
    exact ⟨_, rfl, Wif_yes rfl ⟨rfl, rfl⟩⟩
  · rintro e w' ⟨v, rfl, rfl, hw⟩
    exact ⟨rfl, hw⟩
def AddD (w w' : World) (Q z c : Nat) (pa : Option Addr) (pc : Nat) (D : List Dsl) (fr : Int) (B : Nat) (f0 : Nat → Int) : Prop :=
  Kept (fun b => b = B ∨ b = Q) w w' ∧ ∃ D' pa' pc' f, DAt w' Q z (nextCol z c) pa' pc' D' ∧ (∀ b, wbk Q D' b → wbk Q D b ∨ b = B ∨ w.heap.size ≤ b) ∧ (∀ b, rbk pa' D' b → rbk pa D b ∨ w.heap.size ≤ b) ∧
    D'.map keyD = insK (fr, newSl z c, f) (D.map keyD) ∧ (∀ x, x ∈ locD D' ↔ x = (fr, B) ∨ x ∈ locD D) ∧ Good (newSl z c) f ∧ ∀ j, (∀ i, i < (256 - c) / z → j ≠ c + i * z) → f j = f0 j
theorem dadd_ok (h : DAt w Q z c pa pc D) (hl : D.length ≤ 1000) (hm : mayBe z c) (fr : Int) (h0 : 0 ≤ fr) (hn : ∀ d ∈ D, d.fr ≠ fr) {B bc : Nat} {f0 : Nat → Int} (hb : Eng.bytes w B f0) (hbc : 256 ≤ bc) (hB : ¬ wbk Q D B ∧ ¬ rbk pa D B) :
    Calls Try.prog 48 #[ptr Q, .int .i64 fr, .slice (some ⟨B, 0, none⟩) 256 bc] w fun r w' => r = .returned (.int .i64 0) ∧ AddD w w' Q z c pa pc D fr B f0 := by
  refine (vc48 _ _ _ _ _ w (fun v w' => v = .int .i64 0 ∧ AddD w w' Q z c pa pc D fr B f0) ?_).mono ?_
  · unfold vcP48
    simp only [isP_some, Wif_true, gIf_true, pb_some, po_some, Nat.zero_add]
    refine Wif_no (by simp; omega) ((find_out h hl hn).mono ?_)
    rintro _ _ ⟨rfl, rfl⟩
    rename_i w0
    refine ⟨_, rfl, Wif_no rfl ?_⟩
    intro w1 e1
    have k1 : Kept none' w0 w1 := (Kept.refl _ _).dr e1
    have h1 := h.k k1
    have hz1 : w1.heap.size = w0.heap.size := by rw [e1]; rfl
    refine ⟨_, h1.r0, _, h1.r1, (rnew_ok (w := w1) z c (hb.k k1) hbc hm).mono ?_⟩
    rintro _ w2 ⟨rfl, k2, a, lc, f, r2, hpa, hf⟩
    rw [hz1] at r2 hpa ⊢
    generalize hR : w0.heap.size = R at *
    have hBR : B < R := by rw [← hR]; exact hb.lt
    have hlw : ∀ b, wbk Q D b → b < R := fun b hb => by rw [← hR]; exact h.ltw hb
    have hlr : ∀ b, rbk pa D b → b < R := fun b hb => by rw [← hR]; exact h.ltr hb
    have hBQ : B ≠ Q := fun e => hB.1 (.inl e)
    have hQR : Q < R := hlw Q (.inl rfl)
    have h2 := h1.kx k2 (fun b hb => by rw [hb]; exact hB)
    have hwi : IntKind.wrap .i64 ((c : Int) + 8) = ((c + 8 : Nat) : Int) := by
      have := hm.2.2.2.2.2
      have h7 : (256 : Int) % z < z := Int.emod_lt_of_pos _ (by have := hm.1; omega)
      have := hm.2.1
      rw [wi (by omega)]; rfl
    have k02 : Kept (fun b => b = B ∨ b = Q) w0 w2 := (k1.weak fun b hb => hb.elim).go k2 fun b hb => .inl (.inl hb)
    refine ⟨_, _, rfl, Wif_no rfl ⟨_, h2.r1, h2.q.wr (by simp), ?_⟩⟩
    intro w3 e3
    rw [hwi] at e3
    have h3 := h2.col e3
    have k03 := k02.s1 e3 (.inl (.inr rfl))
    have r3 : RAt w3 R B bc a lc (newSl z c) f := r2.kx ((Kept.refl (· = Q) w2).s1 e3 (.inl rfl)) (by omega) hBQ (fun hx => by omega)
    intro w4 e4
    have k34 : Kept none' w3 w4 := (Kept.refl _ _).dr e4
    have h4 := h3.k k34
    have r4 := r3.k k34
    have k04 := k03.tr k34
    refine ⟨_, h4.r0, _, h4.r1, (may_spec _ _ w4).mono ?_⟩
    rintro _ w5 ⟨rfl, rfl⟩
    -- what is left, at the world wm
    have main : ∀ wm : World, DAt wm Q z (nextCol z c) pa pc D → RAt wm R B bc a lc (newSl z c) f → Kept (fun b => b = B ∨ b = Q) w0 wm → ∀ (w6 : World) (D1 D2 : List Dsl) (base n cp : Nat) (a' : Option Addr),
        D = D1 ++ D2 → (∀ d ∈ D1, d.fr < fr) → (∀ d l, D2 = d :: l → ¬ d.fr < fr) → Row2 wm w6 base (D1 ++ [⟨fr, R, B, bc, a, lc, newSl z c, f⟩] ++ D2) a' n cp →
        wr w6 Q 2 ∧ ∀ w7, w7 = st w6 Q 2 (.slice a' n cp) → True ∧ AddD w0 w7 Q z c pa pc D fr B f0 := by
      intro wm hm' rm km w6 D1 D2 base n cp a' hD hlt hge R6
      have h6 := hm'.k R6.k
      refine ⟨h6.q.wr (by simp), fun w7 e7 => ⟨trivial, ?_⟩⟩
      rw [List.append_assoc, List.singleton_append] at R6
      have hx : ∀ x, x ∈ D1 ++ (⟨fr, R, B, bc, a, lc, newSl z c, f⟩ : Dsl) :: D2 ↔ x = ⟨fr, R, B, bc, a, lc, newSl z c, f⟩ ∨ x ∈ D := fun x => by
        rw [hD, List.mem_append, List.mem_cons, List.mem_append]
        constructor
        · rintro (h | h | h)
          · exact .inr (.inl h)
          · exact .inl h
          · exact .inr (.inr h)
        · rintro (h | h | h)
          · exact .inr (.inl h)
          · exact .inl h
          · exact .inr (.inr h)
      have hwb : ∀ b, wbk Q (D1 ++ (⟨fr, R, B, bc, a, lc, newSl z c, f⟩ : Dsl) :: D2) b → wbk Q D b ∨ b = B ∨ b = R := fun b hb => by
        rcases hb with hb | ⟨x, hx', hb⟩
        · exact .inl (.inl hb)
        · rcases (hx x).1 hx' with rfl | hx'
          · exact .inr hb.symm
          · exact .inl (.inr ⟨x, hx', hb⟩)
      have hRwm : R < wm.heap.size := rm.so.lt
      have hb0 := R6.b0
      have hkm := km.sz
      have hpaw : ∀ b, wbk Q (D1 ++ (⟨fr, R, B, bc, a, lc, newSl z c, f⟩ : Dsl) :: D2) b → b < wm.heap.size := fun b hb => by
        rcases hwb b hb with hb | rfl | rfl
        · have := hlw b hb; omega
        · omega
        · omega
      have hso := h.so
      have hap := h.ap
      rw [hD] at hso hap
      have hapx : ∀ d ∈ D, apart (d.R, d.B) (R, B) := fun d hd => by
        have q1 := hlw d.R (.inr ⟨d, hd, .inl rfl⟩)
        have q2 := hlw d.B (.inr ⟨d, hd, .inr rfl⟩)
        refine ⟨by show d.R ≠ R; omega, fun e => hB.1 (.inr ⟨d, hd, .inl e.symm⟩), by show d.B ≠ R; omega, fun e => hB.1 (.inr ⟨d, hd, .inr e.symm⟩)⟩
      obtain ⟨h7, hr7⟩ := DAt.list h6.q R6 e7 (fun d hd => by
          rcases (hx d).1 hd with rfl | hd
          · exact ⟨rm.k R6.k, rfl⟩
          · exact h6.sl d hd) (by
          rw [List.map_append, List.map_cons, List.pairwise_append, List.pairwise_cons]
          rw [List.map_append, List.pairwise_append] at hso
          obtain ⟨s1, s2, s3⟩ := hso
          have hfr2 : ∀ x ∈ D2, fr < x.fr := by
            intro x hx2
            cases hD2 : D2 with
            | nil => rw [hD2] at hx2; cases hx2
            | cons d l =>
              have g1 := hge d l hD2
              have g2 : d.fr ≠ fr := hn d (by rw [hD, hD2]; simp)
              rw [hD2] at hx2 s2
              rw [List.map_cons, List.pairwise_cons] at s2
              rcases List.mem_cons.1 hx2 with rfl | hx2
              · omega
              · have := s2.1 _ (List.mem_map.2 ⟨x, hx2, rfl⟩); omega
          refine ⟨s1, ⟨fun x hx2 => ?_, s2⟩, fun x hx1 y hy => ?_⟩
          · obtain ⟨y, hy, rfl⟩ := List.mem_map.1 hx2
            exact hfr2 y hy
          · rcases List.mem_cons.1 hy with rfl | hy
            · obtain ⟨y, hy, rfl⟩ := List.mem_map.1 hx1
              exact hlt y hy
            · exact s3 x hx1 y hy) (by
          unfold skelD at hap ⊢
          rw [List.map_append, List.map_cons, List.pairwise_append, List.pairwise_cons]
          rw [List.map_append, List.pairwise_append] at hap
          obtain ⟨s1, s2, s3⟩ := hap
          refine ⟨s1, ⟨fun x hx2 => ?_, s2⟩, fun x hx1 y hy => ?_⟩
          · obtain ⟨y, hy, rfl⟩ := List.mem_map.1 hx2
            exact apart_symm (hapx y (by rw [hD]; simp [hy]))
          · rcases List.mem_cons.1 hy with rfl | hy
            · obtain ⟨y, hy, rfl⟩ := List.mem_map.1 hx1
              exact hapx y (by rw [hD]; simp [hy])
            · exact s3 x hx1 y hy) (fun d hd => by
          rcases (hx d).1 hd with rfl | hd
          · exact ⟨by show R ≠ Q; omega, hBQ⟩
          · exact h.nQ d hd) (fun b hb => by have := hpaw b hb; omega) (fun d hd hc hw => by
          rcases (hx d).1 hd with rfl | hd
          · have hw' := hwb _ hw
            have hpa' : R ≤ pb a := hpa
            rcases hw' with hw' | hw' | hw'
            · have := hlw _ hw'; have : R ≤ pb a := hpa; dsimp only at *; omega
            · dsimp only at hw'; omega
            · exact hc (rm.nR hw')
          · rcases hwb _ hw with hw | hw | hw
            · exact h.rw' _ (.inr ⟨d, hd, hc, rfl⟩) hw
            · exact hB.2 (hw ▸ .inr ⟨d, hd, hc, rfl⟩)
            · have := hlr _ (.inr ⟨d, hd, hc, rfl⟩); omega)
      refine ⟨(km.tr R6.k).s1 e7 (.inl (.inr rfl)), _, a', cp, f, h7, fun b hb => ?_, fun b hb => ?_, ?_, fun x => ?_, rm.good, hf⟩
      · rcases hwb b hb with hb | hb | hb
        · exact .inl hb
        · exact .inr (.inl hb)
        · exact .inr (.inr (by omega))
      · rcases hr7 b hb with hb | ⟨d, hd, hc, rfl⟩
        · exact .inr (by omega)
        · rcases (hx d).1 hd with rfl | hd
          · exact .inr (by dsimp only; omega)
          · exact .inl (.inr ⟨d, hd, hc, rfl⟩)
      · rw [insK_mid ⟨fr, R, B, bc, a, lc, newSl z c, f⟩ D1 D2 hlt hge, ← hD]
      · unfold locD
        simp only [List.mem_map]
        constructor
        · rintro ⟨d, hd, rfl⟩
          rcases (hx d).1 hd with rfl | hd
          · exact .inl rfl
          · exact .inr ⟨d, hd, rfl⟩
        · rintro (rfl | ⟨d, hd, rfl⟩)
          · exact ⟨_, (hx _).2 (.inl rfl), rfl⟩
          · exact ⟨d, (hx d).2 (.inr hd), rfl⟩
    refine ⟨_, rfl, Wif_intro (fun hmay => ?ga) (fun hmay => ?gb)⟩
    case' ga =>
      have hnc : nextCol z c = 0 := by
        unfold nextCol
        have : ¬ mayBe z ((c : Int) + 8) := by simpa using hmay
        rw [mayBe_8 hm] at this
        rw [if_neg this]
      refine ⟨h4.q.wr (by simp), ?_⟩
      intro wm em
      have hm' : DAt wm Q z (nextCol z c) pa pc D := by rw [hnc]; exact h4.col em
      have rm : RAt wm R B bc a lc (newSl z c) f := r4.kx ((Kept.refl (· = Q) w5).s1 em (.inl rfl)) (by omega) hBQ (fun hx => by omega)
      have km := k04.s1 em (.inl (.inr rfl))
      have fin := main wm hm' rm km
    case' gb =>
      have hnc : nextCol z c = c + 8 := by
        unfold nextCol
        have : mayBe z ((c : Int) + 8) := by simpa using hmay
        rw [mayBe_8 hm] at this
        rw [if_pos this]
      have hm' : DAt w5 Q z (nextCol z c) pa pc D := by rw [hnc]; exact h4
      have rm := r4
      have km := k04
      have fin := main w5 hm' rm k04
      obtain ⟨wm, hwm⟩ : ∃ wm, wm = w5 := ⟨_, rfl⟩
      subst hwm
    all_goals
      clear main h4 r4 k04 k34 h3 k03 r3 e3 h2 k02 k2 r2 h1 k1 e1 hmay
      refine ⟨fun k w' m => w' = wm ∧ ∃ q : Nat, k = q ∧ q ≤ D.length ∧ m = D.length - q ∧ ∀ j (hj : j < D.length), j < q → D[j].fr < fr, ⟨D.length, rfl, 0, rfl, by omega, rfl, fun j _ hj => by omega⟩, ?_⟩
      rintro k w' m ⟨hww, q, rfl, hq, rfl, hlt⟩
      rw [hww]
      clear hww
      have hin : q < D.length → inB (q : Int) D.length = true := fun _ => inB_of (by omega) (by omega)
      refine ⟨_, _, _, hm'.r2, _, _, _, fun _ => hm'.r2, gIf_intro (fun hc => hm'.isp (by simp at hc; omega)) (gIf_intro (fun hc => hin (by simpa using hc)) ⟨(D[q]?.map (·.fr)).getD 0, fun hc => ?_, Wif_intro (fun hc => ?_) (fun hc => ?_)⟩)⟩
      · have hc : q < D.length := by simpa using hc
        rw [Int.toNat_natCast, List.getElem?_eq_getElem hc]
        exact hm'.rf hc
      · simp only [Bool.and_eq_true, decide_eq_true_eq] at hc
        obtain ⟨hc1, hc2⟩ := hc
        have hc1 : q < D.length := by omega
        rw [List.getElem?_eq_getElem hc1] at hc2
        refine ⟨D.length - (q + 1), by omega, rfl, q + 1, by rw [wi (by omega)]; rfl, by omega, rfl, fun j hj hjq => ?_⟩
        by_cases hjq' : j = q
        · subst hjq'; exact hc2
        · exact hlt j hj (by omega)
      · have hD : D = D.take q ++ D.drop q := (List.take_append_drop q D).symm
        have hD1 : (D.take q).length = q := by rw [List.length_take]; omega
        have hD2 : D.length - q = (D.drop q).length := by rw [List.length_drop]
        have hlt1 : ∀ d ∈ D.take q, d.fr < fr := fun d hd => by
          obtain ⟨j, hj, rfl⟩ := List.getElem_of_mem hd
          rw [List.getElem_take]
          exact hlt j (by omega) (by omega)
        have hge : ∀ d l, D.drop q = d :: l → ¬ d.fr < fr := fun d l he hlt => by
          have hq' : q < D.length := by
            have := congrArg List.length he
            rw [List.length_drop] at this
            simp at this
            omega
          rw [← List.getElem_cons_drop hq'] at he
          have hdd : D[q] = d := by injection he
          rw [List.getElem?_eq_getElem hq'] at hc
          simp only [Bool.and_eq_false_iff, decide_eq_false_iff_not] at hc
          rcases hc with hc | hc
          · omega
          · exact hc (by rw [← hdd] at hlt; exact hlt)
        generalize D.take q = D1 at *
        generalize D.drop q = D2 at *
        clear hlt hc hin
        intro wd ed
        have kd : Kept none' wm wd := (Kept.refl _ _).dr ed
        have hd' := hm'.k kd
        have hplc := h.plc
        have sA : ∀ w', Kept none' wm w' → Src w' pa q pc (plD D1) := fun w' k => by
          have := Src.short (hm'.k k).pl (k := q) (by omega) (q * 2)
          have ht := plD_take D1 D2
          rw [hD1, ← hD] at ht
          rw [ht] at this
          exact this
        have sB : ∀ w', Kept none' wm w' → Src w' (offA pa pc q 2) (D.length - q) (pc - q) (plD D2) := fun w' k => by
          have := (hm'.k k).pl.part q 2 (D.length - q) (by omega) hplc (by omega)
          rw [List.take_of_length_le (by rw [List.length_drop, plD_len]; omega)] at this
          have ht := plD_drop D1 D2
          rw [hD1, ← hD] at ht
          rw [ht] at this
          exact this
        have q2 : ∀ w', Kept none' wm w' → rd w' Q 2 = some (.slice pa D.length pc) := fun w' k => (hm'.k k).r2
        have sX : ∀ {wa wb : World} {X : Nat}, own wa X [.int .i64 fr, ptr R] → Kept none' wa wb → Src wb (some ⟨X, 0, none⟩) 1 1 (plD [(⟨fr, R, B, bc, a, lc, newSl z c, f⟩ : Dsl)]) := fun o k => (Src.of_own (off := 0) o (fun j u hj => by rw [Nat.zero_add]; exact hj)).k k
        rw [Int.toNat_natCast]
        refine ⟨_, _, _, hd'.r2, Wif_yes (okSl_of (by omega) (by omega) (by omega)) ⟨_, _, _, hd'.r2, Wif_yes (okSl_of (by omega) (by omega) (by omega)) ⟨?_, ?_⟩⟩⟩
        · intro wa ea
          have Ra := Row2.new kd ea
          refine ⟨⟨q2 _ Ra.k, trivial⟩, ⟨q2 _ Ra.k, trivial⟩, ?_, ?_⟩
          · obtain ⟨a1, c1, wb, hab, Rb, _⟩ := Ra.app (sA _ Ra.k) hD1.symm (by omega)
            refine ⟨a1, _, c1, wb, hab, ⟨q2 _ Rb.k, trivial⟩, ?_⟩
            intro wc ec
            have kc : Kept none' wb wc := (Kept.refl _ _).al ec
            have oc := own_alloc (c := [.int .i64 fr, ptr R]) ec
            have Rc := Rb.kk kc
            obtain ⟨a2, c2, wd', hcd, Rd, _⟩ := Rc.app (sX oc (Kept.refl _ _)) rfl (by omega)
            refine ⟨⟨q2 _ Rc.k, trivial⟩, a2, _, c2, wd', hcd, ⟨q2 _ Rd.k, trivial⟩, ?_⟩
            obtain ⟨a3, c3, we, hde, Re, _⟩ := Rd.app (sB _ Rd.k) hD2 (by omega)
            exact ⟨a3, _, c3, we, hde, fin we D1 D2 _ _ _ _ hD hlt1 hge Re⟩
          · intro wc ec
            have kc : Kept none' wa wc := (Kept.refl _ _).al ec
            have oc := own_alloc (c := [.int .i64 fr, ptr R]) ec
            have Rc := Ra.kk kc
            obtain ⟨a1, c1, wb, hab, Rb, kb⟩ := Rc.app (sA _ Rc.k) hD1.symm (by omega)
            have ob := oc.kx kb (fun hx => by
              have : wd.heap.size = wa.heap.size := by simpa [Value.ownBlock] using hx
              have := Ra.b1
              have h2 : wa.heap.size = wd.heap.size + 1 := by rw [ea]; simp only [World.alloc, Array.size_push]
              omega)
            refine ⟨⟨q2 _ Rc.k, trivial⟩, ⟨q2 _ Rc.k, trivial⟩, a1, _, c1, wb, hab, ⟨q2 _ Rb.k, trivial⟩, ?_⟩
            obtain ⟨a2, c2, wd', hcd, Rd, _⟩ := Rb.app (sX ob (Kept.refl _ _)) rfl (by omega)
            refine ⟨a2, _, c2, wd', hcd, ⟨q2 _ Rd.k, trivial⟩, ?_⟩
            obtain ⟨a3, c3, we, hde, Re, _⟩ := Rd.app (sB _ Rd.k) hD2 (by omega)
            exact ⟨a3, _, c3, we, hde, fin we D1 D2 _ _ _ _ hD hlt1 hge Re⟩
        · intro wc ec
          have kc : Kept none' wd wc := (Kept.refl _ _).al ec
          have oc := own_alloc (c := [.int .i64 fr, ptr R]) ec
          have kmc := kd.tr kc
          refine ⟨⟨q2 _ kmc, trivial⟩, ⟨q2 _ kmc, trivial⟩, ?_⟩
          intro wa ea
          have Ra := Row2.new (Kept.refl none' wc) ea
          have kma := kmc.tr Ra.k
          refine ⟨⟨q2 _ kma, trivial⟩, ⟨q2 _ kma, trivial⟩, ?_⟩
          obtain ⟨a1, c1, wb, hab, Rb, _⟩ := Ra.app (sA _ kma) hD1.symm (by omega)
          have kmb := kmc.tr Rb.k
          refine ⟨a1, _, c1, wb, hab, ⟨q2 _ kmb, trivial⟩, ?_⟩
          obtain ⟨a2, c2, wd', hcd, Rd, _⟩ := Rb.app (sX oc Rb.k) rfl (by omega)
          have kmd := kmc.tr Rd.k
          refine ⟨a2, _, c2, wd', hcd, ⟨q2 _ kmd, trivial⟩, ?_⟩
          obtain ⟨a3, c3, we, hde, Re, _⟩ := Rd.app (sB _ kmd) hD2 (by omega)
          exact ⟨a3, _, c3, we, hde, fin we D1 D2 _ _ _ _ hD hlt1 hge (Re.from kmc)⟩
  · rintro e w' ⟨v, rfl, rfl, hw⟩
    exact ⟨rfl, hw⟩
end
end Go.Proofs.Ytkancagfhbkhiaa
namespace Go.Proofs.Ytkancagfhbkhiaa
open Go Eng
set_option linter.unusedSimpArgs false
set_option linter.unusedVariables false
set_option maxRecDepth 10000

abbrev i64s (xs : List Int) : List Value := xs.map (Value.int .i64)
theorem row_at {w : World} {base e size n l c : Nat} {a : Option Addr} {xs : List Value} (h : w.ownsRow base e size (.slice a l c) n xs) (hl : 0 < l) : base ≤ pb a ∧ pb a < w.heap.size := by
  obtain ⟨h1, h2⟩ := ownsRow_own h
  rcases h2 with ⟨_, h0, _⟩ | ⟨g, cs, rfl, hb, ho, _⟩
  · omega
  · exact ⟨hb, ho.lt⟩
/-! ### alike -/
theorem alike_spec {w : World} {base l ca cb : Nat} {a b : Option Addr} {xs : List Int} (ha : w.ownsRow base 3 1 (.slice a l ca) l (i64s xs)) (hb : Src w b l cb (i64s xs)) (hne : 0 < l → pb a ≠ pb b) (hl : l ≤ 1000) :
    Calls Try.prog 67 #[.slice a l ca, .slice b l cb] w fun r w' => r = .returned (.bool true) ∧ Kept (fun x => 0 < l ∧ x = pb a) w w' := by
  refine (vc67 _ _ _ _ _ _ w (fun v w' => v = .bool true ∧ Kept (fun x => 0 < l ∧ x = pb a) w w') ?_).mono ?_
  · unfold vcP67
    refine Wif_no (by simp) ?_
    have hxl : xs.length = l := by have := ha.1; simpa using this
    refine ⟨fun _ k w' m => ∃ q : Nat, k = q ∧ q ≤ l ∧ m = l - q ∧ Kept (fun x => 0 < l ∧ x = pb a) w w' ∧ (0 < l → ∃ g cs, a = some ⟨g, 0, none⟩ ∧ own w' g cs ∧ l ≤ cs.length ∧ ∀ j, q ≤ j → j < l → cs[j]? = (i64s xs)[j]?), ⟨l, 0, rfl, by omega, rfl, Kept.refl _ _, fun hl0 => ?_⟩, ?_⟩
    · rcases (ownsRow_own ha).2 with ⟨_, h0, _⟩ | ⟨g, cs, rfl, _, ho, htk, hn, hcs⟩
      · omega
      · refine ⟨g, cs, rfl, ho, by omega, fun j _ hj => ?_⟩
        rw [← htk, List.getElem?_take, if_pos (by omega)]
    · rintro _ k w1 m ⟨q, rfl, hq, rfl, k1, hc⟩
      refine Wif_intro (fun hlt => ?_) (fun hlt => ⟨rfl, k1⟩)
      have hlt : q < l := by simpa using hlt
      obtain ⟨g, cs, rfl, ho, hcl, hcs⟩ := hc (by omega)
      intro w2 e2
      have k12 : Kept none' w1 w2 := (Kept.refl _ _).dr e2
      have ho2 := ho.k k12
      have k2 := k1.tr k12
      have hin : inB (q : Int) l = true := inB_of (by omega) (by omega)
      have hv : (i64s xs)[q]? = some (.int .i64 (xs[q]'(by omega))) := by simp [hxl, hlt]
      have hb2 : rd w2 (pb b) (po b + q) = some (.int .i64 (xs[q]'(by omega))) := k2.rd_some (hb.rd hv) (fun hx => hne (by omega) hx.2.symm)
      refine Wif_yes rfl (Wif_yes hin ⟨xs[q]'(by omega), ?_, Wif_yes (hb.isp (by simp; omega)) (Wif_yes hin ⟨xs[q]'(by omega), ?_, Wif_no (by simp) (Wif_yes rfl (Wif_yes hin ⟨?_, ?_⟩))⟩)⟩)
      · rw [Int.toNat_natCast, Nat.mul_one]
        simp only [pb_some, po_some, Nat.zero_add]
        rw [ho2.rd, hcs q (Nat.le_refl _) hlt, hv]
      · rw [Int.toNat_natCast, Nat.mul_one]
        exact hb2
      · rw [Int.toNat_natCast, Nat.mul_one]
        simp only [pb_some, po_some, Nat.zero_add]
        exact ho2.wr (by omega)
      · intro w3 e3
        rw [Int.toNat_natCast, Nat.mul_one] at e3
        simp only [pb_some, po_some, Nat.zero_add] at e3
        refine ⟨l - (q + 1), by omega, q + 1, by rw [wi (by omega)]; rfl, by omega, rfl, k2.s1 e3 (.inl ⟨by omega, rfl⟩), fun _ => ⟨g, _, rfl, ho2.s1 e3, by simpa using hcl, fun j hj hjl => ?_⟩⟩
        rw [List.getElem?_set_ne (by omega)]
        exact hcs j (by omega) hjl
  · rintro e w' ⟨v, rfl, rfl, hw⟩
    exact ⟨rfl, hw⟩
/-! ### both stand alike -/
structure J (w0 w : World) (C M Q z c : Nat) (L : List Slb) (D : List Dsl) (pa : Option Addr) (pc : Nat) : Prop where
  ci : CIs w0 w C M z c L
  da : DAt w Q z c pa pc D
  ge : ∀ b, wbk Q D b → w0.heap.size ≤ b
  ky : L.map keyL = D.map keyD
  ap : ∀ b, blk C M L b → ¬ wbk Q D b ∧ ¬ rbk pa D b
section
variable {w0 w w' : World} {C M Q z c pc : Nat} {L : List Slb} {D : List Dsl} {pa : Option Addr}
theorem J.k (h : J w0 w C M Q z c L D pa pc) (k : Kept none' w w') : J w0 w' C M Q z c L D pa pc := ⟨h.ci.k k, h.da.k k, h.ge, h.ky, h.ap⟩
theorem J.len (h : J w0 w C M Q z c L D pa pc) : L.length = D.length := by have := congrArg List.length h.ky; simpa using this
theorem J.at' (h : J w0 w C M Q z c L D pa pc) {q : Nat} (h1 : q < L.length) (h2 : q < D.length) : L[q].fr = D[q].fr ∧ L[q].s = D[q].s ∧ L[q].f = D[q].f := by
  have := congrArg (fun l => l[q]?) h.ky
  simp [h1, h2] at this
  exact this
theorem J.frs (h : J w0 w C M Q z c L D pa pc) : L.map (·.fr) = D.map (·.fr) := by
  have := congrArg (fun l => l.map (·.1)) h.ky
  simpa [List.map_map, Function.comp_def] using this
theorem csame_spec (h : J w0 w C M Q z c L D pa pc) (hl : L.length ≤ 1000) : Calls Try.prog 53 #[ptr C, ptr Q] w fun r w' => r = .returned (.bool true) ∧ Kept none' w w' := by
  refine (vc53 _ _ w (fun v w' => v = .bool true ∧ Kept none' w w') ?_).mono ?_
  · unfold vcP53
    simp only [isP_some, Wif_true, gIf_true, pb_some, po_some, Nat.zero_add]
    have hlen := h.len
    intro w1 e1
    have k1 : Kept none' w w1 := (Kept.refl _ _).dr e1
    have h1 := h.k k1
    refine ⟨_, h1.da.r0, (csize_spec h1.ci.at').mono ?_⟩
    rintro _ _ ⟨rfl, rfl⟩
    rename_i w1
    refine ⟨_, rfl, ⟨h1.da.r0, trivial⟩, Wif_no (by simp) ((frames_spec h1.ci.at' hl).mono ?_)⟩
    rintro _ w2 ⟨a2, c2, rfl, row2, k2⟩
    refine ⟨_, _, _, rfl, ?_⟩
    have h2 := h1.k k2
    refine (dframes_spec h2.da (by omega) false).mono ?_
    rintro _ w3 ⟨a3, l3, c3, rfl, k3, row3⟩
    refine ⟨_, _, _, rfl, ?_⟩
    have h3 := h2.k k3
    have hx3 : ((D.filter fun d => !false || decide (d.s.ch.length = d.s.count)).map fun d => Value.int .i64 d.fr) = i64s (L.map (·.fr)) := by
      have hfs : (D.filter fun d => !false || decide (d.s.ch.length = d.s.count)) = D := List.filter_eq_self.2 (fun x _ => rfl)
      rw [hfs, h.frs, i64s, List.map_map]
      rfl
    rw [hx3] at row3
    have hl3 : l3 = L.length := by have := row3.1; simpa using this.symm
    subst hl3
    have row2' := ownsRow_kx row2 k3 (fun _ _ _ _ hx => hx)
    have hf2 : frL L = i64s (L.map (·.fr)) := by simp [frL, i64s]
    rw [hf2] at row2'
    refine (alike_spec row2' (Src.of_row row3) (fun hl0 => by have := row_at row2 hl0; have := row_at row3 hl0; omega) hl).mono ?_
    rintro _ w4 ⟨rfl, k4⟩
    refine ⟨_, rfl, Wif_no rfl ?_⟩
    have k4' : Kept none' w1 w4 := (k2.tr k3).go k4 (fun b hb => .inr (by have := row_at row2 hb.1; omega))
    have h4 := h1.k k4'
    refine (cempty_spec h4.ci.at' hl).mono ?_
    rintro _ w5 ⟨a5, c5, rfl, row5, k5⟩
    refine ⟨_, _, _, rfl, ?_⟩
    have h5 := h4.k k5
    refine (dframes_spec h5.da (by omega) true).mono ?_
    rintro _ w6 ⟨a6, l6, c6, rfl, k6, row6⟩
    refine ⟨_, _, _, rfl, ?_⟩
    have hx6 : ((D.filter fun d => !true || decide (d.s.ch.length = d.s.count)).map fun d => Value.int .i64 d.fr) = i64s ((L.filter isEmp).map (·.fr)) := by
      have e1 : (D.filter fun d => !true || decide (d.s.ch.length = d.s.count)).map keyD = (D.map keyD).filter empK := by
        rw [List.filter_map]; rfl
      have e2 : (L.filter isEmp).map keyL = (L.map keyL).filter empK := by
        rw [List.filter_map]; rfl
      have e3 := congrArg (fun l => i64s (l.map (·.1))) (e1.trans ((congrArg (List.filter empK) h.ky).symm.trans e2.symm))
      simpa [List.map_map, Function.comp_def] using e3
    rw [hx6] at row6
    have hl6 : l6 = (L.filter isEmp).length := by have := row6.1; simpa using this.symm
    subst hl6
    have row5' := ownsRow_kx row5 k6 (fun _ _ _ _ hx => hx)
    have hf5 : frL (L.filter isEmp) = i64s ((L.filter isEmp).map (·.fr)) := by simp [frL, i64s]
    rw [hf5] at row5'
    have hle : (L.filter isEmp).length ≤ L.length := List.length_filter_le _ _
    refine (alike_spec row5' (Src.of_row row6) (fun hl0 => by have := row_at row5 hl0; have := row_at row6 hl0; omega) (by omega)).mono ?_
    rintro _ w7 ⟨rfl, k7⟩
    refine ⟨_, rfl, Wif_no rfl ?_⟩
    have k7' : Kept none' w1 w7 := k4'.tr ((k5.tr k6).go k7 (fun b hb => .inr (by have := row_at row5 hb.1; omega)))
    have h7 := h1.k k7'
    have kw7 := k1.tr k7'
    clear row6 row5 row5' row2 row2' row3 k7 k6 k5 k4 k3 k2 hx6 hx3 h2 h3 h4 h5 k4' hf2 hf5
    refine ⟨_, _, _, h7.da.r2, ?_⟩
    refine ⟨fun _ k w' m => ∃ q : Nat, k = q ∧ q ≤ D.length ∧ m = D.length - q ∧ Kept none' w7 w', ⟨D.length, 0, rfl, by omega, rfl, Kept.refl _ _⟩, ?_⟩
    rintro _ k w8 m ⟨q, rfl, hq, rfl, k8⟩
    have h8 := h7.k k8
    refine Wif_intro (fun hlt => ?_) (fun _ => ⟨trivial, kw7.tr k8⟩)
    have hlt : q < D.length := by simpa using hlt
    have hltL : q < L.length := by omega
    have hin : inB (q : Int) D.length = true := inB_of (by omega) (by omega)
    obtain ⟨y1, y2, y3⟩ := h.at' hltL hlt
    have heL := List.getElem_mem hltL
    have hdD := List.getElem_mem hlt
    refine ⟨_, _, _, h8.da.r2, Wif_yes (h8.da.isp (by omega)) (Wif_yes hin ⟨_, by rw [Int.toNat_natCast]; exact h8.da.rf hlt, ?_⟩)⟩
    rw [← y1]
    refine (slab_in h8.ci.at' heL).mono ?_
    rintro _ _ ⟨rfl, rfl⟩
    rename_i w8
    refine ⟨_, _, rfl, _, _, _, h8.da.r2, Wif_yes (h8.da.isp (by omega)) (Wif_yes hin ⟨_, by rw [Int.toNat_natCast]; exact h8.da.rp hlt, ?_⟩)⟩
    intro w9 e9
    have k89 : Kept none' w8 w9 := (Kept.refl _ _).dr e9
    have h9 := h8.k k89
    have r := (h9.da.sl _ hdD).1
    have p := (h9.ci.at'.sl _ heL).1
    rw [y2, y3] at p
    simp only [pb_some, po_some, Nat.zero_add]
    refine gIf_intro (fun _ => rfl) ⟨_, fun _ => r.r1, Wif_no rfl ((size_spec p).mono ?_)⟩
    rintro _ _ ⟨rfl, rfl⟩
    refine ⟨_, rfl, fun _ => ⟨r.r1, trivial⟩, gIf_intro (fun _ => rfl) ⟨_, fun _ => r.r2, Wif_no (by simp) ((colour_spec p).mono ?_)⟩⟩
    rintro _ _ ⟨rfl, rfl⟩
    refine ⟨_, rfl, fun _ => ⟨r.r2, trivial⟩, gIf_intro (fun _ => rfl) ⟨_, _, _, fun _ => r.r4, Wif_no (by simp) ((free_spec p).mono ?_)⟩⟩
    rintro _ _ ⟨rfl, rfl⟩
    rename_i w9
    refine ⟨_, rfl, fun _ => ⟨r.r4, trivial⟩, gIf_intro (fun _ => rfl) ⟨_, _, _, fun _ => r.r4, Wif_no (by simp) ((chain_spec p).mono ?_)⟩⟩
    rintro _ w10 ⟨a10, c10, rfl, row10, k10⟩
    have h10 := h9.k k10
    have r10 := (h10.da.sl _ hdD).1
    have h32 := r10.good.count32
    have hcl := r10.good.chlen
    have hxs : ∀ l : List Nat, (l.map fun x : Nat => Value.int .i64 (x : Int)) = i64s (l.map fun x : Nat => (x : Int)) := fun l => by simp [i64s]
    rw [hxs] at row10
    have hs := r10.ch
    rw [show ints D[q].s.ch = i64s (D[q].s.ch.map fun x : Nat => (x : Int)) from hxs _] at hs
    refine ⟨_, _, _, rfl, fun _ => ⟨r10.r4, trivial⟩, (alike_spec row10 hs (fun hl0 => ?_) (by omega)).mono ?_⟩
    · have h1 := row_at row10 hl0
      have h2 := h9.da.ltr (.inr ⟨_, hdD, fun e => by rw [e] at hl0; exact absurd hl0 (by simp), rfl⟩)
      omega
    rintro _ w11 ⟨rfl, k11⟩
    refine ⟨_, rfl, Wif_no rfl ⟨D.length - (q + 1), by omega, q + 1, by rw [wi (by omega)]; rfl, by omega, rfl, (k8.tr k89).tr (k10.go k11 (fun b hb => .inr (by have := row_at row10 hb.1; omega)))⟩⟩
  · rintro e w' ⟨v, rfl, rfl, hw⟩
    exact ⟨rfl, hw⟩
end
end Go.Proofs.Ytkancagfhbkhiaa
namespace Go.Proofs.Ytkancagfhbkhiaa
open Go Eng
set_option linter.unusedSimpArgs false
set_option linter.unusedVariables false
set_option maxRecDepth 10000

/-! ### bytes -/
abbrev byteR (n : Nat) (v : Int) : List Value := List.replicate n (.int .u8 v)
theorem bytes_spec {w : World} (o0 o1 o2 o3 : Int) (o4 : Bool) : Calls Try.prog 47 #[.agg #[.int .i64 o0, .int .i64 o1, .int .i64 o2, .int .u8 o3, .bool o4]] w fun r w' => ∃ X n, r = .returned (.slice (some ⟨X, 0, none⟩) n n) ∧
    n = (if o4 then 255 else 256) ∧ Kept none' w w' ∧ w.heap.size ≤ X ∧ own w' X (byteR n o3) := by
  refine (vc47 o0 o1 o2 o3 o4 w (fun v w' => ∃ X n, v = .slice (some ⟨X, 0, none⟩) n n ∧ n = (if o4 then 255 else 256) ∧ Kept none' w w' ∧ w.heap.size ≤ X ∧ own w' X (byteR n o3)) ?_).mono ?_
  · unfold vcP47
    intro w1 e1
    have o1' := own_alloc (c := [.int .i64 o0, .int .i64 o1, .int .i64 o2, .int .u8 o3, .bool o4]) e1
    have k1 := (Kept.refl none' w).al (c := #[.int .i64 o0, .int .i64 o1, .int .i64 o2, .int .u8 o3, .bool o4]) e1
    refine ⟨o4, by rw [o1'.rd]; rfl, ?_⟩
    have loop : ∀ N : Nat, N ≤ 256 → N = (if o4 then 255 else 256) → ∀ w2 : World, w2 = w1.alloc (.cells ((List.replicate N (Value.int .u8 0))).toArray 5) →
        ∃ I : Int → World → Nat → Prop, (∃ n, I 0 w2 n) ∧ ∀ (n : Int) (w3 : World) (m : Nat), I n w3 m →
          (∃ q : Nat, n = q ∧ q ≤ N ∧ m = N - q ∧ Kept none' w w3 ∧ own w3 w.heap.size [.int .i64 o0, .int .i64 o1, .int .i64 o2, .int .u8 o3, .bool o4] ∧ own w3 w1.heap.size (byteR q o3 ++ byteR (N - q) 0)) ∧
          ∀ q : Nat, q < N → Kept none' w w3 → own w3 w.heap.size [.int .i64 o0, .int .i64 o1, .int .i64 o2, .int .u8 o3, .bool o4] → own w3 w1.heap.size (byteR q o3 ++ byteR (N - q) 0) →
            ∀ w4, w4 = st w3 w1.heap.size (0 + q * 1) (.int .u8 o3) → I ((q + 1 : Nat) : Int) w4 (N - (q + 1)) := by
      intro N hN hN' w2 e2
      have ox2 := own_alloc e2
      have k2 := k1.al e2
      refine ⟨fun n w3 m => ∃ q : Nat, n = q ∧ q ≤ N ∧ m = N - q ∧ Kept none' w w3 ∧ own w3 w.heap.size [.int .i64 o0, .int .i64 o1, .int .i64 o2, .int .u8 o3, .bool o4] ∧ own w3 w1.heap.size (byteR q o3 ++ byteR (N - q) 0), ⟨N, 0, rfl, by omega, rfl, k2, o1'.al e2, by simpa using ox2⟩, ?_⟩
      intro n w3 m h
      refine ⟨h, fun q hq k3 oo ox w4 e4 => ⟨q + 1, rfl, by omega, rfl, k3.s1 e4 (.inr k1.sz), oo.n1 e4 (by have := o1'.lt; omega), ?_⟩⟩
      have := ox.s1 e4
      rw [Nat.zero_add, Nat.mul_one, List.set_append_right _ _ (by simp), List.length_replicate, Nat.sub_self, show N - q = (N - (q + 1)) + 1 by omega, byteR, byteR, List.replicate_succ, List.set_cons_zero] at this
      rw [byteR, List.replicate_succ', List.append_assoc, List.singleton_append]
      exact this
    cases o4
    · refine Wif_no rfl ?_
      intro w2 e2
      obtain ⟨I, h0, hI⟩ := loop 256 (by omega) rfl w2 e2
      refine ⟨I, h0, fun n w3 m hi => ?_⟩
      obtain ⟨⟨q, rfl, hq, rfl, k3, oo, ox⟩, nx⟩ := hI n w3 m hi
      refine Wif_intro (fun hlt => ?_) (fun hlt => ?_)
      · have hlt : q < 256 := by simp at hlt; omega
        refine ⟨o3, by rw [oo.rd]; rfl, Wif_yes (inB_of (by omega) (by omega)) ⟨by rw [Int.toNat_natCast]; exact ox.wr (by simp; omega), fun w4 e4 => ⟨256 - (q + 1), by omega, ?_⟩⟩⟩
        rw [Int.toNat_natCast] at e4
        rw [wi (by omega)]
        exact nx q hlt k3 oo ox w4 e4
      · have hlt : q = 256 := by simp at hlt; omega
        subst hlt
        exact ⟨_, _, rfl, rfl, k3, k1.sz, by simpa using ox⟩
    · refine Wif_yes rfl ?_
      intro w2 e2
      obtain ⟨I, h0, hI⟩ := loop 255 (by omega) rfl w2 e2
      refine ⟨I, h0, fun n w3 m hi => ?_⟩
      obtain ⟨⟨q, rfl, hq, rfl, k3, oo, ox⟩, nx⟩ := hI n w3 m hi
      refine Wif_intro (fun hlt => ?_) (fun hlt => ?_)
      · have hlt : q < 255 := by simp at hlt; omega
        refine ⟨o3, by rw [oo.rd]; rfl, Wif_yes (inB_of (by omega) (by omega)) ⟨by rw [Int.toNat_natCast]; exact ox.wr (by simp; omega), fun w4 e4 => ⟨255 - (q + 1), by omega, ?_⟩⟩⟩
        rw [Int.toNat_natCast] at e4
        rw [wi (by omega)]
        exact nx q hlt k3 oo ox w4 e4
      · have hlt : q = 255 := by simp at hlt; omega
        subst hlt
        exact ⟨_, _, rfl, rfl, k3, k1.sz, by simpa using ox⟩
  · rintro e w' ⟨v, rfl, X, n, rfl, hw⟩
    exact ⟨X, n, rfl, hw⟩
/-! ### New -/
theorem dnew_no (size : Int) (hm : ¬ mayBe size 0) (w : World) : Calls Try.prog 46 #[.int .i64 size] w fun r w' => r = .returned (.tuple #[.pointer none, .int .i64 2]) ∧ w' = w := by
  refine (vc46 size w (fun v w' => v = .tuple #[.pointer none, .int .i64 2] ∧ w' = w) ?_).mono ?_
  · unfold vcP46
    refine (may_spec _ _ w).mono ?_
    rintro _ _ ⟨rfl, rfl⟩
    exact ⟨_, rfl, Wif_yes (by simpa using hm) ⟨rfl, rfl⟩⟩
  · rintro e w' ⟨v, rfl, rfl, hw⟩
    exact ⟨rfl, hw⟩
theorem dnew_ok (z : Nat) (hm : mayBe z 0) (w : World) : Calls Try.prog 46 #[.int .i64 z] w fun r w' => r = .returned (.tuple #[ptr w.heap.size, .int .i64 0]) ∧ Kept none' w w' ∧ DAt w' w.heap.size z 0 none 0 [] := by
  refine (vc46 z w (fun v w' => v = .tuple #[ptr w.heap.size, .int .i64 0] ∧ Kept none' w w' ∧ DAt w' w.heap.size z 0 none 0 []) ?_).mono ?_
  · unfold vcP46
    refine (may_spec _ _ w).mono ?_
    rintro _ _ ⟨rfl, rfl⟩
    refine ⟨_, rfl, Wif_no (by simpa using hm) ?_⟩
    intro w1 e1
    refine ⟨rfl, (Kept.refl _ _).al e1, own_alloc (c := [.int .i64 z, .int .i64 0, .slice none 0 0]) e1, Src.nil', Nat.le_refl _, fun d hd => (by cases hd), List.Pairwise.nil, List.Pairwise.nil, fun d hd => (by cases hd), fun b hb => ?_⟩
    rcases hb with ⟨h, _⟩ | ⟨d, hd, _⟩
    · exact absurd rfl h
    · cases hd
  · rintro e w' ⟨v, rfl, rfl, hw⟩
    exact ⟨rfl, hw⟩
/-! ### both go a step -/
section
variable {w0 w w' : World} {C M Q z c pc : Nat} {L : List Slb} {D : List Dsl} {pa : Option Addr}
/-- the document still stands when the program has gone -/
theorem J.fst (h : J w0 w C M Q z c L D pa pc) {S : Nat → Prop} {w1 : World} (k1 : Kept (fun b => blk C M L b ∨ S b) w w1) (hS : ∀ b, S b → ¬ wbk Q D b ∧ ¬ rbk pa D b) : DAt w1 Q z c pa pc D := h.da.kx k1 fun b hb => by
  rcases hb with hb | hb
  · exact h.ap b hb
  · exact hS b hb
theorem J.both (h : J w0 w C M Q z c L D pa pc) (S T : Nat → Prop) {w1 w2 : World} {c' pc' : Nat} {pa' : Option Addr} {L' : List Slb} {D' : List Dsl}
    (k1 : Kept (fun b => blk C M L b ∨ S b) w w1) (c1 : CIs w0 w1 C M z c' L') (bl : ∀ b, blk C M L' b → blk C M L b ∨ S b ∨ w.heap.size ≤ b) (hS : ∀ b, S b → ¬ wbk Q D b ∧ ¬ rbk pa D b ∧ ¬ T b)
    (k2 : Kept (fun b => wbk Q D b ∨ T b) w1 w2) (d2 : DAt w2 Q z c' pa' pc' D') (wb : ∀ b, wbk Q D' b → wbk Q D b ∨ T b ∨ w1.heap.size ≤ b) (rb : ∀ b, rbk pa' D' b → rbk pa D b ∨ w1.heap.size ≤ b)
    (hT : ∀ b, T b → ¬ blk C M L b ∧ b < w.heap.size ∧ w0.heap.size ≤ b) (ky : L'.map keyL = D'.map keyD) : J w0 w2 C M Q z c' L' D' pa' pc' := by
  have hlt : ∀ b, blk C M L' b → b < w1.heap.size := fun b hb => c1.at'.lt hb
  have hnX : ∀ b, wbk Q D b ∨ T b → ¬ blk C M L' b := fun b hb hx => by
    rcases bl b hx with h1 | h1 | h1
    · rcases hb with hb | hb
      · exact (h.ap b h1).1 hb
      · exact (hT b hb).1 h1
    · rcases hb with hb | hb
      · exact (hS b h1).1 hb
      · exact (hS b h1).2.2 hb
    · rcases hb with hb | hb
      · have := h.da.ltw hb; omega
      · have := (hT b hb).2.1; omega
  have hge : ∀ b, wbk Q D b ∨ T b → w0.heap.size ≤ b := fun b hb => by
    rcases hb with hb | hb
    · exact h.ge b hb
    · exact (hT b hb).2.2
  have hz := c1.fr.sz
  refine ⟨c1.kx k2 hnX hge, d2, fun b hb => ?_, ky, fun b hb => ⟨fun hx => ?_, fun hx => ?_⟩⟩
  · rcases wb b hb with hb | hb | hb
    · exact h.ge b hb
    · exact (hT b hb).2.2
    · omega
  · rcases wb b hx with hx | hx | hx
    · exact hnX b (.inl hx) hb
    · exact hnX b (.inr hx) hb
    · have := hlt b hb; omega
  · rcases rb b hx with hx | hx
    · rcases bl b hb with h1 | h1 | h1
      · exact (h.ap b h1).2 hx
      · exact (hS b h1).2.1 hx
      · have := h.da.ltr hx; omega
    · have := hlt b hb; omega
end
end Go.Proofs.Ytkancagfhbkhiaa
namespace Go.Eng
open Go.RowKit
/-- append's row is the old one, or a new one -/
theorem app_blk {P : Program} {base : Nat} {t ty e : TypeId} {i : TypeInfo} {z : Value} {size : Nat} (ht : P.underlying t = some (.slice e)) (hi : P.info? e = some i) (hz : i.zero = some z)
    (hsize : i.size = size) {w w' : World} {da a' : Option Addr} {dl dc n' c' : Nat} {xs : List Value} (ho : w.ownsRow base e size (.slice da dl dc) dl xs) {a : Option Addr} {l c : Nat} {news : List Value} (hs : Src w a l c news) (hl : news.length = l * size)
    (h1 : ∀ u ∈ news, u.oneCell' = true) (h63 : dl + l ≤ 1000000) (hby : i.bytes ≤ 1000000) (h : appIs P #[t, t] ty (.slice da dl dc) (.slice a l c) (.slice a' n' c') w w') :
    ∀ b, (Value.slice a' n' c').ownBlock = some b → (Value.slice da dl dc).ownBlock = some b ∨ w.heap.size ≤ b := by
  subst hsize
  intro b hb
  have hr := h.run
  have hmul : (dl + l) * i.bytes ≤ 1000000 * 1000000 := Nat.mul_le_mul h63 hby
  cases a with
  | none =>
    obtain ⟨rfl, rfl⟩ := hs.nil rfl
    rw [run_append_owned_none w base t ty e i i.size ht hi _ _ _ ho] at hr
    cases hr
    exact .inl hb
  | some x =>
    have hnews : ∀ j u, news[j]? = some u → w.cell? (x.add j) = some u := by
      intro j u hj
      obtain ⟨X, off, e, hr2⟩ := hs.ptr (by have := (List.getElem?_eq_some_iff.1 hj).1; omega)
      cases e
      rw [addr_add]
      exact hr2 j u hj
    rcases ho.2 with ⟨hv, h0⟩ | ⟨g, cap, cur, hv, hbg, hg, hnc, hcm, hcs, htake⟩
    · cases hv
      by_cases hm : l = 0
      · subst hm
        have hn : news = [] := List.eq_nil_of_length_eq_zero (by simpa using hl)
        subst hn
        have : (Builtin.append_ #[t, t] ty #[Value.slice none 0 0, .slice (some x) 0 c]).run P w = .ok (.slice none 0 0) w := by
          simp [Builtin.append_, run_underlying ht, sizeOf, typeInfo, hi, Builtin.lenOf, Builtin.firstCells, loadCells, loadCellsFrom]
        rw [this] at hr
        cases hr
        cases hb
      · rw [run_append_nil (P := P) w t ty e i z ht hi hz x l c news hl hnews (by omega) (by omega) (by simp only [Nat.zero_add] at hmul; omega)] at hr
        cases hr
        simp [Value.ownBlock] at hb
        exact .inr (by omega)
    · cases hv
      by_cases hroom : dl + l ≤ dc
      · have hfit : dl * i.size + news.length ≤ cur.size := by rw [hl, hcs, ← Nat.add_mul]; exact Nat.mul_le_mul_right _ hroom
        rw [run_append_room (P := P) w t ty e i ht hi g dl dc cur hg x l c news hl hnews h1 hroom hfit] at hr
        cases hr
        exact .inl hb
      · have holds : ∀ j u, xs[j]? = some u → w.cell? ((⟨g, 0, none⟩ : Addr).add j) = some u := ho.cells (g := g) rfl
        rw [run_append_grow (P := P) w t ty e i z ht hi hz ⟨g, 0, none⟩ dl dc xs ho.1 holds x l c news hl hnews (by omega) (by omega) (growslice_fits (by omega) (by omega))] at hr
        cases hr
        simp [Value.ownBlock] at hb
        exact .inr (by omega)
end Go.Eng
namespace Go.Proofs.Ytkancagfhbkhiaa
open Go Eng
set_option linter.unusedSimpArgs false
set_option linter.unusedVariables false
set_option maxRecDepth 10000
theorem info_bs : (Try.prog.info? 22).map (fun i => (i.zero, i.size, i.bytes)) = some (some (.slice none 0 0), 1, 24) := by kernel_rfl
/-! ### the law's rows -/
structure Pr where
  X : Nat
  Y : Nat
  n : Nat
abbrev slV (X n : Nat) : Value := .slice (some ⟨X, 0, none⟩) n n
abbrev ob (a : Option Addr) (l c b : Nat) : Prop := (Value.slice a l c).ownBlock = some b
abbrev ownV (P : List Pr) : List Value := P.map fun p => slV p.X p.n
abbrev thV (P : List Pr) : List Value := P.map fun p => slV p.Y p.n
def live (L : List Slb) (D : List Dsl) (p : Pr) : Prop := ∃ fr, (fr, p.X) ∈ locL L ∧ (fr, p.Y) ∈ locD D ∧ p.n = 256
def dead (w : World) (C M Q : Nat) (L : List Slb) (D : List Dsl) (O : Nat → Prop) (p : Pr) : Prop :=
  ∃ g, Src w (some ⟨p.X, 0, none⟩) p.n p.n (byteL p.n g) ∧ Src w (some ⟨p.Y, 0, none⟩) p.n p.n (byteL p.n g) ∧ ∀ b, (b = p.X ∨ b = p.Y) → ¬ blk C M L b ∧ ¬ wbk Q D b ∧ ¬ O b
structure Lw (w0 w : World) (C M Q z c : Nat) (L : List Slb) (D : List Dsl) (pa : Option Addr) (pc : Nat) (oa : Option Addr) (oc : Nat) (ta : Option Addr) (tc : Nat) (P : List Pr) : Prop where
  j : J w0 w C M Q z c L D pa pc
  r1 : w.ownsRow w0.heap.size 22 1 (.slice oa P.length oc) P.length (ownV P)
  r2 : w.ownsRow w0.heap.size 22 1 (.slice ta P.length tc) P.length (thV P)
  a1 : ∀ b, ob oa P.length oc b → ¬ blk C M L b ∧ ¬ wbk Q D b ∧ ¬ rbk pa D b ∧ ¬ ob ta P.length tc b
  a2 : ∀ b, ob ta P.length tc b → ¬ blk C M L b ∧ ¬ wbk Q D b ∧ ¬ rbk pa D b
  pk : ∀ p ∈ P, 0 < p.n ∧ p.n ≤ 256 ∧ (live L D p ∨ dead w C M Q L D (fun b => ob oa P.length oc b ∨ ob ta P.length tc b) p)
section
variable {w0 w w' : World} {C M Q z c pc oc tc : Nat} {L : List Slb} {D : List Dsl} {pa oa ta : Option Addr} {P : List Pr}
theorem Src.pos_lt {a : Option Addr} {l c : Nat} {xs : List Value} (h : Src w a l c xs) (hx : 0 < xs.length) : pb a < w.heap.size := by
  obtain ⟨X, off, rfl, hr⟩ := h.ptr hx
  exact rd_lt (hr 0 _ (List.getElem?_eq_getElem hx))
theorem dead.kx {X : Nat → Prop} {O : Nat → Prop} {p : Pr} (h : dead w C M Q L D O p) (k : Kept X w w') (hx : ∀ b, (b = p.X ∨ b = p.Y) → ¬ X b) : dead w' C M Q L D O p := by
  obtain ⟨g, h1, h2, h3⟩ := h
  exact ⟨g, h1.kx k fun b _ hb e => hx b (.inl e.symm) hb, h2.kx k fun b _ hb e => hx b (.inr e.symm) hb, h3⟩
theorem Lw.go (h : Lw w0 w C M Q z c L D pa pc oa oc ta tc P) {w2 : World} {c' pc' : Nat} {pa' : Option Addr} {L' : List Slb} {D' : List Dsl} (k : Kept (fun b => blk C M L b ∨ wbk Q D b) w w2)
    (j' : J w0 w2 C M Q z c' L' D' pa' pc') (bl : ∀ b, blk C M L' b → blk C M L b ∨ w.heap.size ≤ b) (wb : ∀ b, wbk Q D' b → wbk Q D b ∨ w.heap.size ≤ b) (rb : ∀ b, rbk pa' D' b → rbk pa D b ∨ w.heap.size ≤ b)
    (pk : ∀ p ∈ P, live L D p → live L' D' p ∨ ((p.X < w.heap.size ∧ p.Y < w.heap.size) → dead w2 C M Q L' D' (fun _ => False) p)) : Lw w0 w2 C M Q z c' L' D' pa' pc' oa oc ta tc P := by
  have t1 : ∀ b, ob oa P.length oc b → b < w.heap.size := fun b hb => (h.r1.lt b hb).2
  have t2 : ∀ b, ob ta P.length tc b → b < w.heap.size := fun b hb => (h.r2.lt b hb).2
  refine ⟨j', ownsRow_kx h.r1 k (fun b _ _ hb hx => ?_), ownsRow_kx h.r2 k (fun b _ _ hb hx => ?_), fun b hb => ?_, fun b hb => ?_, fun p hp => ?_⟩
  · have := h.a1 b hb
    rcases hx with hx | hx
    · exact this.1 hx
    · exact this.2.1 hx
  · have := h.a2 b hb
    rcases hx with hx | hx
    · exact this.1 hx
    · exact this.2.1 hx
  · obtain ⟨q1, q2, q3, q4⟩ := h.a1 b hb
    have := t1 b hb
    refine ⟨fun hx => ?_, fun hx => ?_, fun hx => ?_, q4⟩
    · rcases bl b hx with hx | hx
      · exact q1 hx
      · omega
    · rcases wb b hx with hx | hx
      · exact q2 hx
      · omega
    · rcases rb b hx with hx | hx
      · exact q3 hx
      · omega
  · obtain ⟨q1, q2, q3⟩ := h.a2 b hb
    have := t2 b hb
    refine ⟨fun hx => ?_, fun hx => ?_, fun hx => ?_⟩
    · rcases bl b hx with hx | hx
      · exact q1 hx
      · omega
    · rcases wb b hx with hx | hx
      · exact q2 hx
      · omega
    · rcases rb b hx with hx | hx
      · exact q3 hx
      · omega
  · obtain ⟨n1, n2, hld⟩ := h.pk p hp
    refine ⟨n1, n2, ?_⟩
    rcases hld with hl | hd
    · have hl' := hl
      obtain ⟨fr, hX, hY, hn⟩ := hl'
      obtain ⟨e, he, hee⟩ := List.mem_map.1 hX
      obtain ⟨d, hd, hde⟩ := List.mem_map.1 hY
      injection hee with f1 f2
      injection hde with g1 g2
      have bX : blk C M L p.X := .inr (.inr ⟨e, he, .inr f2.symm⟩)
      have bY : wbk Q D p.Y := .inr ⟨d, hd, .inr g2.symm⟩
      have lX : p.X < w.heap.size := h.j.ci.at'.lt bX
      have lY : p.Y < w.heap.size := h.j.da.ltw bY
      rcases pk p hp hl with hl | hd'
      · exact .inl hl
      · obtain ⟨g, s1, s2, s3⟩ := hd' ⟨lX, lY⟩
        refine .inr ⟨g, s1, s2, fun b hb => ⟨(s3 b hb).1, (s3 b hb).2.1, fun ho => ?_⟩⟩
        rcases hb with rfl | rfl
        · rcases ho with ho | ho
          · exact (h.a1 _ ho).1 bX
          · exact (h.a2 _ ho).1 bX
        · rcases ho with ho | ho
          · exact (h.a1 _ ho).2.1 bY
          · exact (h.a2 _ ho).2.1 bY
    · have hd2 := hd.kx k (fun b hb hx => by
        obtain ⟨g, s1, s2, s3⟩ := hd
        rcases hx with hx | hx
        · exact (s3 b hb).1 hx
        · exact (s3 b hb).2.1 hx)
      obtain ⟨g, s1, s2, s3⟩ := hd2
      obtain ⟨g0, u1, u2, _⟩ := hd
      have lX : p.X < w.heap.size := Src.pos_lt u1 (by simp [byteL]; omega)
      have lY : p.Y < w.heap.size := Src.pos_lt u2 (by simp [byteL]; omega)
      refine .inr ⟨g, s1, s2, fun b hb => ?_⟩
      obtain ⟨q1, q2, q3⟩ := s3 b hb
      have lb : b < w.heap.size := by rcases hb with rfl | rfl <;> assumption
      refine ⟨fun hx => ?_, fun hx => ?_, q3⟩
      · rcases bl b hx with hx | hx
        · exact q1 hx
        · omega
      · rcases wb b hx with hx | hx
        · exact q2 hx
        · omega
theorem Lw.k (h : Lw w0 w C M Q z c L D pa pc oa oc ta tc P) (k : Kept none' w w') : Lw w0 w' C M Q z c L D pa pc oa oc ta tc P :=
  h.go (k.weak fun b hb => hb.elim) (h.j.k k) (fun b hb => .inl hb) (fun b hb => .inl hb) (fun b hb => .inl hb) (fun p _ hl => .inl hl)
end
end Go.Proofs.Ytkancagfhbkhiaa
