/-
  A part of a proof that a law of this seat returns true at every input. Conditions: those in each theorem.
-/
import Derived.Test.YtkancagfhbkhiaaD9c
import Derived.Test.YtkancagfhbkhiaaR4
namespace Go.Proofs.Ytkancagfhbkhiaa
open Go Eng
set_option linter.unusedSimpArgs false
set_option linter.unusedVariables false
set_option maxRecDepth 10000

theorem eraseIdx_app {O : List (Int × Int)} {q : Nat} (h : q < O.length) : O = O.take q ++ O[q] :: O.drop (q + 1) := by
  rw [List.getElem_cons_drop, List.take_append_drop]
theorem sumO_ins (e : Slb) (L : List Slb) : sumO (insL e L) = outv e + sumO L := by
  unfold sumO
  induction L with
  | nil => rfl
  | cons x l ih =>
    unfold insL
    split
    · rw [List.map_cons, List.sum_cons, ih, List.map_cons, List.sum_cons]; omega
    · rw [List.map_cons, List.sum_cons]
/-- the end: all is given back, all slabs are dropped -/
theorem keeps_drop {w0 w : World} {C M z c : Nat} {L : List Slb} {a : Option Addr} {cp : Nat} {base : Nat} (h : CIs w0 w C M z c L) (hl : L.length ≤ 20) (he : ∀ e ∈ L, isEmp e = true) (row : w.ownsRow base 3 1 (.slice a L.length cp) L.length (frL L)) (hb : ∀ b, blk C M L b → b < base)
    {b0 : Bool} {Y Z : World → Prop} (hZ : ∀ w', CIs w0 w' C M z c [] → Z w') :
    ∃ I : Bool → Int → World → Nat → Prop, (∃ n, I b0 0 w n) ∧ ∀ (b : Bool) (n : Int) (w1 : World) (m : Nat), I b n w1 m →
      Wif (decide (n < (L.length : Int))) (Wif (isP a) (Wif (inB n L.length) (∃ x : Int, rd w1 (pb a) (po a + Int.toNat n * 1) = some (.int .i64 x) ∧
        Calls Try.prog 42 #[ptr C, .int .i64 x] w1 fun r w2 => ∃ n9 : Int, r = .returned (.int .i64 n9) ∧ Wif (n9 != 0) (Y w2) (∃ m', Nat.succ m' ≤ m ∧ I b (IntKind.wrap .i64 (n + 1)) w2 m')) False) False) (Z w1) := by
  have src := Src.of_row row
  refine ⟨fun b n w' m => ∃ q : Nat, n = q ∧ q ≤ L.length ∧ m = L.length - q ∧ CIs w0 w' C M z c (L.drop q) ∧ Kept (· < base) w w', ⟨L.length, 0, rfl, by omega, rfl, by simpa using h, Kept.refl _ _⟩, ?_⟩
  rintro b n w1 m ⟨q, rfl, hq, rfl, h1, k1⟩
  refine Wif_intro (fun hlt => ?_) (fun hge => ?_)
  · simp only [decide_eq_true_eq] at hlt
    have hq' : q < L.length := by omega
    have s1 : Src w1 a L.length cp (frL L) := src.kx k1 fun b _ hX e => by
      rcases (ownsRow_own row).2 with ⟨_, h0, _⟩ | ⟨g, cs, rfl, hg, _⟩
      · omega
      · have : g = b := e
        omega
    refine Wif_yes (s1.isp (by simp [frL]; omega)) (Wif_yes (inB_of (by omega) (by omega)) ⟨_, by rw [Int.toNat_natCast, Nat.mul_one]; exact s1.rd (frL_get hq'), ?_⟩)
    rw [List.drop_eq_getElem_cons hq'] at h1
    have hx : (L[q]).s.ch.length = (L[q]).s.count := by simpa [isEmp] using he _ (List.getElem_mem hq')
    refine (drop_cis (L1 := []) h1 hx).mono ?_
    rintro _ w2 ⟨rfl, k2, h2⟩
    refine ⟨_, rfl, Wif_no rfl ⟨L.length - (q + 1), by omega, q + 1, by rw [wi (by omega)]; rfl, by omega, rfl, h2, k1.go k2 fun b hb2 => ?_⟩⟩
    left
    refine hb b ?_
    rcases hb2 with h | h | ⟨x, hx, h⟩
    · exact .inl h
    · exact .inr (.inl h)
    · refine .inr (.inr ⟨x, ?_, h⟩)
      have : x ∈ L.drop q := by rw [List.drop_eq_getElem_cons hq']; exact hx
      exact List.mem_of_mem_drop this
  · simp only [decide_eq_false_iff_not] at hge
    have : q = L.length := by omega
    subst this
    rw [List.drop_length] at h1
    exact hZ _ h1
theorem keeps_law (size n : Int) (l : Option Addr) (lL lC : Nat) (w : World) {fi : Nat → Int} (hl : IntsAt w l lL fi) :
    Calls Try.prog 12 #[.int .i64 size, .int .i64 n, .slice l lL lC] w fun e w' => e = .returned (.bool true) ∧ Kept none' w w' := by
  refine (vc12 size n l lL lC w (fun v w' => v = .bool true ∧ Kept none' w w') ?_).mono ?_
  · unfold vcP12
    by_cases hm : mayBe size 0
    · obtain ⟨z, c0, rfl, hc0, h8, h128, _⟩ := mayBe_nat hm
      refine (new_cis (Kept.refl _ w) z hm).mono ?_
      rintro _ w1 ⟨C, M, rfl, k1, h1, _, _⟩
      refine ⟨_, _, rfl, Wif_intro (fun _ => fin_cknown h1.fr) (fun hn => ?_)⟩
      simp at hn
      obtain ⟨⟨hn0, hn20⟩, hl200⟩ := hn
      obtain ⟨N, rfl⟩ := Int.eq_ofNat_of_zero_le hn0
      have hdiv : 256 / z ≤ 32 := by
        calc 256 / z ≤ 256 / 8 := Nat.div_le_div_left h8 (by omega)
          _ = 32 := rfl
      have hd : IntKind.wrap .i64 (Int.tdiv 256 (z : Int)) = ((256 / z : Nat) : Int) := by
        have : Int.tdiv 256 (z : Int) = ((256 / z : Nat) : Int) := by
          rw [Int.tdiv_eq_ediv_of_nonneg (by omega)]
          exact (Int.natCast_ediv 256 z).symm
        rw [this]
        generalize 256 / z = q at *
        exact wi (by omega)
      have hnd : IntKind.wrap .i64 ((N : Int) * IntKind.wrap .i64 (Int.tdiv 256 (z : Int))) = ((N * (256 / z) : Nat) : Int) := by
        rw [hd, ← Int.natCast_mul]
        have : N * (256 / z) ≤ 20 * 32 := Nat.mul_le_mul (by omega) hdiv
        generalize N * (256 / z) = q at *
        exact wi (by omega)
      rw [hnd]
      clear hnd hd
      refine ⟨fun b n w' m => ∃ (k c : Nat) (L : List Slb), n = k ∧ k ≤ N ∧ m = N - k ∧ Kp w w' C M z c k L [] ∧ ∀ e ∈ L, e.fr < 3 * k, ⟨_, 0, 0, [], rfl, by omega, rfl, ⟨h1, by simp, fun p => ⟨fun h => (by cases h), fun ⟨e, he, _⟩ => (by cases he)⟩, List.nodup_nil, rfl, by simp, rfl⟩, by simp⟩, ?_⟩
      rintro b n w2 m ⟨k, c, L, rfl, hk, rfl, K2, hlt⟩
      have h2 := K2.ci
      refine Wif_intro (fun hkn => ?_) (fun hge => ?_)
      · simp only [decide_eq_true_eq] at hkn
        have hk' : k < N := by omega
        intro w3 e3
        have hfr : IntKind.wrap .i64 (3 * (k : Int)) = ((3 * k : Nat) : Int) := by
          rw [wi (x := 3 * (k : Int)) (by omega)]; omega
        rw [hfr]
        have hzc := h2.at'.zc
        refine (add_cis h2 _ (by omega) (by omega) (fun e he => by have := hlt e he; omega) e3).mono ?_
        rintro _ w4 ⟨rfl, _, S, f, h4⟩
        refine ⟨_, rfl, Wif_no rfl ⟨N - (k + 1), by omega, k + 1, nextCol z c, insL ⟨((3 * k : Nat) : Int), S, w2.heap.size, 256, newSl z c, f⟩ L, by rw [wi (by omega)]; rfl, by omega, rfl, ⟨h4, fun e he => ?_, fun p => ⟨fun h => (by cases h), fun ⟨e, he, q, _, ho⟩ => ?_⟩, List.nodup_nil, ?_, fun e he => ?_, by rw [insL_len, K2.len]⟩, fun e he => ?_⟩⟩
        · rcases insL_mem.1 he with rfl | he
          · intro i; rfl
          · exact K2.nt e he
        · rcases insL_mem.1 he with rfl | he
          · cases ho
          · exact (K2.mem (e.fr, (q : Int))).2 ⟨e, he, q, rfl, ho⟩ |> fun h => by cases h
        · rw [sumO_ins, ← K2.cnt]
          simp [outv, newSl]
        · rcases insL_mem.1 he with rfl | he
          · show (newSl z c).count = _
            have hmc := hzc
            obtain ⟨m1, m2, m3, m4, m5, m6⟩ := hmc
            have hmod : ((256 % z : Nat) : Int) = 256 % (z : Int) := Int.natCast_emod 256 z
            exact count_all h8 (by rw [← hmod] at m6; omega)
          · exact K2.col e he
        · rcases insL_mem.1 he with rfl | he
          · show ((3 * k : Nat) : Int) < _
            omega
          · have := hlt e he; omega
      · simp only [decide_eq_false_iff_not] at hge
        have hkN : k = N := by omega
        subst hkN
        have hbb : ∀ b, blk C M L b → b < w2.heap.size := fun b hb => h2.at'.lt hb
        have hgb : w.heap.size ≤ w2.heap.size := h2.fr.sz
        have hge2 : w2.heap.size ≤ w2.heap.size := Nat.le_refl _
        generalize hbase : w2.heap.size = base at hbb hgb hge2
        refine ⟨fun b a l1 cp n w' m => ∃ (q : Nat) (L' : List Slb) (O : List (Int × Int)), n = q ∧ q ≤ lL ∧ m = lL - q ∧ Kp w w' C M z c k L' O ∧ (∀ b, blk C M L' b ↔ blk C M L b) ∧ l1 = O.length ∧ O.length ≤ q ∧ w'.ownsRow base 74 2 (.slice a l1 cp) l1 (flat O) ∧ base ≤ w'.heap.size,
          ⟨lL, 0, L, [], rfl, by omega, by omega, K2, fun _ => Iff.rfl, rfl, by simp, World.ownsRow_nil _ _ _ _, by omega⟩, ?_⟩
        clear hlt K2 h2 hge hge2
        rintro b a l1 cp n w4 m ⟨i, L4, O, rfl, hi, rfl, K4, hblk, rfl, hOq, row4, hb4⟩
        have h4 := K4.ci
        have hlen4 : L4.length ≤ 20 := by rw [K4.len]; omega
        have hbb4 : ∀ b, blk C M L4 b → b < base := fun b hb => hbb b ((hblk b).1 hb)
        have src4 := Src.of_row row4
        -- the row stays where the cache alone turns
        have rowk : ∀ {w5 w6 : World} {X : Nat → Prop}, (∀ b, X b → b < base) → Kept X w5 w6 → w5.ownsRow base 74 2 (.slice a O.length cp) O.length (flat O) → w6.ownsRow base 74 2 (.slice a O.length cp) O.length (flat O) :=
          fun hX k r => ownsRow_kx r k fun g hg _ _ hx => by have := hX g hx; omega
        refine Wif_intro (fun hlp => ?_) (fun hlp => ?_)
        · simp at hlp
          have hwn : IntKind.wrap .i64 ((i : Int) + 1) = ((i + 1 : Nat) : Int) := by rw [wi (by omega)]; rfl
          rw [hwn]
          clear hwn
          have hx : ∀ w', Kept none' w w' → rd w' (pb l) (po l + Int.toNat (i : Int) * 1) = some (.int .i64 (fi i)) := fun w' k => by
            rw [Int.toNat_natCast, Nat.mul_one]
            exact k.rd_some (hl.rd i hlp) id
          refine Wif_yes (hl.isp (by omega)) (Wif_yes (inB_of (by omega) (by omega)) ⟨_, hx _ h4.fr, Wif_intro (fun hcase => ?_) (fun hcase => ?_)⟩)
          · refine (take_cis h4 (by omega)).mono ?_
            rintro _ w5 ⟨k5, ⟨hp, rfl, h5⟩ | ⟨e, k', l', hp, he, rfl, hch, h5⟩⟩
            · have hfull : ∀ e ∈ L4, e.s.ch = [] ∧ e.s.count = 256 / z := by
                intro e he
                have hpn : L4.find? isPart = none ∧ L4.find? isEmp = none := by
                  unfold pick at hp
                  cases h1 : L4.find? isPart with
                  | none => rw [h1] at hp; exact ⟨rfl, by simpa using hp⟩
                  | some x => rw [h1] at hp; simp at hp
                have n1 := List.find?_eq_none.1 hpn.1 e he
                have n2 := List.find?_eq_none.1 hpn.2 e he
                have hbd := outv_nonneg (h4.at'.sl e he).1
                refine ⟨List.eq_nil_of_length_eq_zero ?_, K4.col e he⟩
                simp [isPart] at n1
                simp [isEmp] at n2
                refine Decidable.byContradiction fun hne => ?_
                have h3 := n1 (by omega)
                omega
              have hcnt : O.length = k * (256 / z) := by
                have h1 := K4.cnt
                rw [sumO_full hfull, K4.len] at h1
                exact Int.ofNat_inj.1 h1
              refine ⟨_, _, _, rfl, Wif_yes rfl (gIf_intro (fun _ => by simp; omega) (Wif_no (by rw [hcnt]; simp) ?_))⟩
              exact ⟨lL - (i + 1), by omega, i + 1, L4, O, rfl, by omega, rfl, ⟨h5, K4.nt, K4.mem, K4.nd, K4.cnt, K4.col, K4.len⟩, hblk, rfl, by omega, rowk hbb4 k5 row4, by have := k5.sz; omega⟩
            · obtain ⟨K5, hnot⟩ := K4.take he hch h5
              have row5 := rowk hbb4 k5 row4
              have z5 := k5.sz
              refine ⟨_, _, _, rfl, Wif_no rfl ?_⟩
              refine ⟨fun b n w' m => ∃ q : Nat, n = q ∧ q ≤ O.length ∧ m = O.length - q ∧ Kept none' w5 w', ⟨_, 0, rfl, by omega, rfl, Kept.refl _ _⟩, ?_⟩
              rintro b' n w6 m ⟨q, rfl, hq, rfl, k6⟩
              refine Wif_intro (fun hlt => ?_) (fun hge3 => ?_)
              · simp only [decide_eq_true_eq] at hlt
                have hq' : q < O.length := by omega
                have s6 := (Src.of_row row5).k k6
                obtain ⟨g1, g2⟩ := flat_get hq'
                have hpl : 0 < (flat O).length := by rw [flat_len]; omega
                refine Wif_yes (s6.isp hpl) (Wif_yes (inB_of (by omega) (by omega)) ⟨_, _, ⟨by rw [Int.toNat_natCast]; exact s6.rd g1, by rw [Int.toNat_natCast, Nat.add_assoc]; exact s6.rd g2⟩, Wif_no ?_ ⟨O.length - (q + 1), by omega, q + 1, by rw [wi (by omega)]; rfl, by omega, rfl, k6⟩⟩)
                simp only [Bool.and_true, Bool.and_eq_false_imp, beq_iff_eq, beq_eq_false_iff_ne]
                intro hx1 hx2
                refine hnot ?_
                have : O[q] = (e.fr, (k' : Int)) := Prod.ext hx1 hx2
                rw [← this]
                exact List.getElem_mem hq'
              · intro w7 e7
                have k7 : Kept none' w6 w7 := (Kept.refl _ _).al (c := #[.int .i64 e.fr, .int .i64 (k' : Int)]) e7
                have o7 : own w7 w6.heap.size [.int .i64 e.fr, .int .i64 (k' : Int)] := own_alloc e7
                have row7 : w7.ownsRow base 74 2 (.slice a O.length cp) O.length (flat O) := rowk (X := none') (fun _ h => h.elim) (k6.tr k7) row5
                have s7 : Src w7 (some ⟨w6.heap.size, 0, none⟩) 1 1 (flat [(e.fr, (k' : Int))]) := Src.of_own o7 fun j u hj => by rw [Nat.zero_add]; exact hj
                have z7 := k7.sz
                have z6 := k6.sz
                obtain ⟨a8, c8, w8, ha, row8, k8⟩ := app_pairs row7 s7 rfl (by omega) (by omega)
                have hX : ∀ b, (Value.slice a O.length cp).ownBlock = some b → base ≤ b := fun b hb => (row7.lt b hb).1
                rw [← flat_app] at row8
                have hbs : ∀ b, blk C M (setL L4 (set1 e (took e.s k' l') (blanked e.f (e.s.colour + k' * e.s.size) e.s.size))) b ↔ blk C M L4 b := fun b => blk_setL h4.at'.so he
                have K7 := (K5.k k6).k k7
                have K8 : Kp w w8 C M z c k (setL L4 (set1 e (took e.s k' l') (blanked e.f (e.s.colour + k' * e.s.size) e.s.size))) (O ++ [(e.fr, (k' : Int))]) :=
                  ⟨K7.ci.kx k8 (fun b hb hbk => by have := hX b hb; have := hbb4 b ((hbs b).1 hbk); omega) (fun b hb => by have := hX b hb; omega), K7.nt, K7.mem, K7.nd, K7.cnt, K7.col, K7.len⟩
                have hl8 : O.length + 1 = (O ++ [(e.fr, (k' : Int))]).length := by simp
                rw [hl8] at row8 ha
                refine ⟨a8, _, c8, w8, ha, lL - (i + 1), by omega, i + 1, _, _, rfl, by omega, rfl, K8, fun b => (hbs b).trans (hblk b), rfl, by simp; omega, row8, by have := k8.sz; omega⟩
          · -- one is given back, twice
            simp only [Bool.or_eq_false_iff, bne_eq_false_iff_eq, beq_eq_false_iff_ne] at hcase
            have hOpos : 0 < O.length := by
              refine Nat.pos_of_ne_zero fun h0 => hcase.2 ?_
              rw [h0]; rfl
            refine Wif_yes (hl.isp (by omega)) (Wif_yes (inB_of (by omega) (by omega)) ⟨_, hx _ h4.fr, ?_⟩)
            obtain ⟨q, hqO, hq⟩ : ∃ q : Nat, q < O.length ∧ IntKind.wrap .i64 (Int.tmod (IntKind.wrap .u64 (fi i)) (IntKind.wrap .u64 (O.length : Int))) = (q : Int) := by
              have hu : 0 ≤ IntKind.wrap .u64 (fi i) := by
                simp only [IntKind.wrap, IntKind.bits, IntKind.signed, Bool.false_and, Bool.false_eq_true, if_false]
                omega
              rw [wu (x := (O.length : Int)) (by omega), Int.tmod_eq_emod_of_nonneg hu]
              have h1 := Int.emod_nonneg (IntKind.wrap .u64 (fi i)) (show (O.length : Int) ≠ 0 by omega)
              have h2 := Int.emod_lt_of_pos (IntKind.wrap .u64 (fi i)) (show (0 : Int) < O.length by omega)
              generalize IntKind.wrap .u64 (fi i) % (O.length : Int) = r at *
              obtain ⟨q, rfl⟩ := Int.eq_ofNat_of_zero_le h1
              exact ⟨q, by omega, wi (by omega)⟩
            rw [hq]
            have hq1 : IntKind.wrap .i64 ((q : Int) + 1) = ((q + 1 : Nat) : Int) := by rw [wi (by omega)]; rfl
            rw [hq1]
            clear hq hq1
            refine Wif_yes (by rw [wu (by omega)]; simp only [bne_iff_ne, ne_eq]; omega) ?_
            intro w5 e5
            have k5 : Kept none' w4 w5 := (Kept.refl _ _).dr e5
            have K5 := K4.k k5
            have row5 := rowk (X := none') (fun _ h => h.elim) k5 row4
            have s5 := Src.of_row row5
            obtain ⟨g1, g2⟩ := flat_get hqO
            have hpl : 0 < (flat O).length := by rw [flat_len]; omega
            have hr1 : ∀ w', w'.ownsRow base 74 2 (.slice a O.length cp) O.length (flat O) → rd w' (pb a) (po a + Int.toNat (q : Int) * 2) = some (.int .i64 (O[q]).1) ∧ rd w' (pb a) (po a + Int.toNat (q : Int) * 2 + 1) = some (.int .i64 (O[q]).2) := fun w' r => by
              have s := Src.of_row r
              exact ⟨by rw [Int.toNat_natCast]; exact s.rd g1, by rw [Int.toNat_natCast, Nat.add_assoc]; exact s.rd g2⟩
            refine Wif_yes (s5.isp hpl) (Wif_yes (inB_of (by omega) (by omega)) ⟨_, (hr1 _ row5).1, Wif_yes (s5.isp hpl) (Wif_yes (inB_of (by omega) (by omega)) ⟨_, (hr1 _ row5).2, ?_⟩)⟩)
            obtain ⟨e, he, k', hpe, hkc, hko, hkt, hg⟩ := K5.may (List.getElem_mem hqO)
            rw [hpe]
            dsimp only
            refine (give_cis K5.ci he k').mono ?_
            rintro _ w6 ⟨rfl, k6, h6⟩
            rw [if_pos hg, Int.toNat_natCast] at h6
            have row6 := rowk hbb4 k6 row5
            have hbs : ∀ b, blk C M (setL L4 (set1 e (gave e.s k') (upd e.f (e.s.colour + k' * e.s.size) (Ytkancagfhbkhiaa.fst e.s.ch)))) b ↔ blk C M L4 b := fun b => blk_setL K5.ci.at'.so he
            have hsp := eraseIdx_app hqO
            rw [hpe] at hsp
            have K6 := K5.give he hko h6 hsp
            have s6 := Src.of_row row6
            rw [hg]
            obtain ⟨r1, r2⟩ := hr1 _ row6
            rw [hpe] at r1 r2
            refine ⟨_, rfl, gIf_intro (fun _ => s6.isp hpl) (gIf_intro (fun _ => inB_of (by omega) (by omega)) ⟨_, fun _ => r1, gIf_intro (fun _ => s6.isp hpl) (gIf_intro (fun _ => inB_of (by omega) (by omega)) ⟨_, fun _ => r2, Wif_no rfl ?_⟩)⟩)⟩
            have hin6 : set1 e (gave e.s k') (upd e.f (e.s.colour + k' * e.s.size) (Ytkancagfhbkhiaa.fst e.s.ch)) ∈ setL L4 (set1 e (gave e.s k') (upd e.f (e.s.colour + k' * e.s.size) (Ytkancagfhbkhiaa.fst e.s.ch))) := List.mem_map.2 ⟨e, he, if_pos rfl⟩
            have hg2 : giveOf (set1 e (gave e.s k') (upd e.f (e.s.colour + k' * e.s.size) (Ytkancagfhbkhiaa.fst e.s.ch))).s k' = 8 := by
              show giveOf (gave e.s k') k' = 8
              unfold giveOf
              have h1 : ((gave e.s k').count : Int) = e.s.count := rfl
              rw [h1, if_pos (by omega), Int.toNat_natCast]
              have : (gave e.s k').out k' = false := upd_same _ _ _
              rw [this]
              rfl
            refine (give_cis K6.ci hin6 k').mono ?_
            rintro _ w7 ⟨rfl, k7, h7⟩
            rw [hg2] at h7 ⊢
            rw [if_neg (by decide)] at h7
            have row7 := rowk (fun b hb => hbb4 b ((hbs b).1 hb)) k7 row6
            have K7 : Kp w w7 C M z c k _ (O.take q ++ O.drop (q + 1)) := ⟨h7, K6.nt, K6.mem, K6.nd, K6.cnt, K6.col, K6.len⟩
            refine ⟨_, rfl, Wif_no rfl ?_⟩
            intro w8 e8
            have k8 : Kept none' w7 w8 := (Kept.refl _ _).dr e8
            have hrl := row_len row7
            refine Wif_yes (okSl_of (by omega) (by omega) (by omega)) (Wif_yes (okSl_of (by omega) (by omega) (by omega)) ?_)
            intro w9 e9
            have k9 : Kept none' w8 w9 := (Kept.refl _ _).al (c := #[]) e9
            have z9 : base ≤ w8.heap.size := by
              have := k5.sz; have := k6.sz; have := k7.sz; have := k8.sz
              omega
            have row9 : w9.ownsRow w8.heap.size 74 2 (.slice (some ⟨w8.heap.size, 0, none⟩) 0 0) 0 [] := by
              rw [e9]
              exact World.ownsRow_made (base := w8.heap.size) (e := 74) (size := 2) w8 #[] 0 (Nat.le_refl _) (by decide) rfl
            have rowO9 := rowk (X := none') (fun _ h => h.elim) (k8.tr k9) row7
            have sO9 := Src.of_row rowO9
            have sA : Src w9 a q cp (flat (O.take q)) := by
              rw [← flat_take]
              exact srcPre sO9 (by omega)
            obtain ⟨a10, c10, w10, ha10, row10, k10⟩ := app_pairs row9 sA (by simp; omega) (by omega) k9.sz
            rw [Nat.zero_add] at ha10 row10
            rw [List.nil_append] at row10
            have hX10 : ∀ b, (Value.slice (some ⟨w8.heap.size, 0, none⟩) 0 0).ownBlock = some b → b = w8.heap.size := fun b hb => (ownBlock_slice hb).symm
            have hOlt : ∀ g, (Value.slice a O.length cp).ownBlock = some g → g < w8.heap.size := fun g hg => by
              have := (row7.lt g hg).2
              rw [e8]; exact this
            have rowO10 := ownsRow_kx rowO9 k10 fun g _ _ hg hx => by have := hX10 g hx; have := hOlt g hg; omega
            have sB : Src w10 (offA a cp (q + 1) 2) (O.length - (q + 1)) (cp - (q + 1)) (flat (O.drop (q + 1))) := by
              have := (Src.of_row rowO10).part (q + 1) 2 (O.length - (q + 1)) (by omega) hrl.2 (by omega)
              rw [flat_drop, flat_take] at this
              rw [List.take_of_length_le (by simp)] at this
              exact this
            have z10 : w8.heap.size ≤ w10.heap.size := by have := k9.sz; have := k10.sz; omega
            obtain ⟨a11, c11, w11, ha11, row11, k11⟩ := app_pairs row10 sB (by simp) (by omega) z10
            have hX11 : ∀ b, (Value.slice a10 q c10).ownBlock = some b → w8.heap.size ≤ b := fun b hb => (row10.lt b hb).1
            rw [← flat_app] at row11
            have hll : q + (O.length - (q + 1)) = (O.take q ++ O.drop (q + 1)).length := by simp; omega
            rw [hll] at ha11 row11
            simp only [Int.toNat_natCast]
            refine ⟨a10, q, c10, w10, ha10, a11, _, c11, w11, ha11, lL - (i + 1), by omega, i + 1, _, _, rfl, by omega, rfl, ?_, fun b => (hbs b).trans (hblk b), rfl, by simp; omega, ?_, by have := k11.sz; omega⟩
            · have K9 := (K7.k k8).k k9
              have hc10 := K9.ci.kx k10 (fun b hb hbk => by have := hX10 b hb; have := hbb4 b ((hbs b).1 hbk); omega) (fun b hb => by have := hX10 b hb; omega)
              have hc11 := hc10.kx k11 (fun b hb hbk => by have := hX11 b hb; have := hbb4 b ((hbs b).1 hbk); omega) (fun b hb => by have := hX11 b hb; omega)
              exact ⟨hc11, K9.nt, K9.mem, K9.nd, K9.cnt, K9.col, K9.len⟩
            · refine ⟨row11.1, ?_⟩
              rcases row11.2 with hn | ⟨g, cap, cur, hv, hb, rest⟩
              · exact .inl hn
              · exact .inr ⟨g, cap, cur, hv, by omega, rest⟩
        · -- all are given back
          refine ⟨fun b n w' m => ∃ (q : Nat) (L' : List Slb), n = q ∧ q ≤ O.length ∧ m = O.length - q ∧ Kp w w' C M z c k L' (O.drop q) ∧ (∀ b, blk C M L' b ↔ blk C M L b) ∧ w'.ownsRow base 74 2 (.slice a O.length cp) O.length (flat O), ⟨_, 0, L4, rfl, by omega, rfl, by simpa using K4, hblk, row4⟩, ?_⟩
          rintro b n w5 m ⟨q, L5, rfl, hq, rfl, K5, hblk5, row5⟩
          have hbb5 : ∀ b, blk C M L5 b → b < base := fun b hb => hbb b ((hblk5 b).1 hb)
          refine Wif_intro (fun hlt => ?_) (fun hge3 => ?_)
          · simp only [decide_eq_true_eq] at hlt
            have hqO : q < O.length := by omega
            intro w6 e6
            have k6 : Kept none' w5 w6 := (Kept.refl _ _).dr e6
            have K6 := K5.k k6
            have row6 := rowk (X := none') (fun _ h => h.elim) k6 row5
            have s6 := Src.of_row row6
            obtain ⟨g1, g2⟩ := flat_get hqO
            have hpl : 0 < (flat O).length := by rw [flat_len]; omega
            refine Wif_yes (s6.isp hpl) (Wif_yes (inB_of (by omega) (by omega)) ⟨_, by rw [Int.toNat_natCast]; exact s6.rd g1, Wif_yes (s6.isp hpl) (Wif_yes (inB_of (by omega) (by omega)) ⟨_, by rw [Int.toNat_natCast, Nat.add_assoc]; exact s6.rd g2, ?_⟩)⟩)
            have hdq : O.drop q = O[q] :: O.drop (q + 1) := List.drop_eq_getElem_cons hqO
            rw [hdq] at K6
            obtain ⟨e, he, k', hpe, hkc, hko, hkt, hg⟩ := K6.may (List.mem_cons_self ..)
            rw [hpe] at K6 ⊢
            dsimp only
            refine (give_cis K6.ci he k').mono ?_
            rintro _ w7 ⟨rfl, k7, h7⟩
            rw [if_pos hg, Int.toNat_natCast] at h7
            rw [hg]
            have K7 := K6.give (A := []) he hko h7 rfl
            exact ⟨_, rfl, Wif_no rfl ⟨O.length - (q + 1), by omega, q + 1, _, by rw [wi (by omega)]; rfl, by omega, rfl, K7, fun b => (blk_setL K6.ci.at'.so he).trans (hblk5 b), rowk hbb5 k7 row6⟩⟩
          · simp only [decide_eq_false_iff_not] at hge3
            have : q = O.length := by omega
            subst this
            rw [List.drop_length] at K5
            have hlen5 : L5.length ≤ 20 := by rw [K5.len]; omega
            refine (cempty_spec K5.ci.at' (by omega)).mono ?_
            rintro _ w6 ⟨a6, cp6, rfl, row6, k6⟩
            rw [K5.all_empty] at row6 ⊢
            have h6 := K5.ci.k k6
            refine ⟨_, _, _, rfl, Wif_no (by rw [K5.len]; simp) ?_⟩
            refine keeps_drop h6 hlen5 (fun e he => ?_) row6 (fun b hb => K5.ci.at'.lt hb) fun w7 h7 => ?_
            · have := K5.all_empty
              rw [List.filter_eq_self] at this
              exact this e he
            · refine (take_cis h7 (by simp)).mono ?_
              rintro _ w8 ⟨k8, ⟨_, rfl, h8⟩ | ⟨e, _, _, hp, _⟩⟩
              · refine ⟨_, _, _, rfl, Wif_yes rfl ((frames_spec h8.at' (by simp)).mono ?_)⟩
                rintro _ w9 ⟨a9, cp9, rfl, row9, k9⟩
                exact ⟨_, _, _, rfl, Wif_yes rfl (fin_cknown (h8.fr.tr k9))⟩
              · cases hp
    · refine (cnew_no size hm w).mono ?_
      rintro _ w1 ⟨rfl, k1⟩
      exact ⟨_, _, rfl, Wif_yes rfl (fin_cknown k1)⟩
  · rintro e w' ⟨v, rfl, rfl, h⟩
    exact ⟨rfl, h⟩
end Go.Proofs.Ytkancagfhbkhiaa
