/-
  A part of a proof that a law of this seat returns true at every input. Conditions: those in each theorem.
-/
import Derived.Test.YtkancagfhbkhiaaD7c
namespace Go.Proofs.Ytkancagfhbkhiaa
open Go Eng
set_option linter.unusedSimpArgs false
set_option linter.unusedVariables false
set_option maxRecDepth 10000

/-- the fields of an operation, as it is handed in -/
structure Op5 (w : World) (a : Option Addr) (i : Nat) (k f j b : Int) (s : Bool) : Prop where
  r0 : rd w (pb a) (po a + i * 5) = some (.int .i64 k)
  r1 : rd w (pb a) (po a + i * 5 + 1) = some (.int .i64 f)
  r2 : rd w (pb a) (po a + i * 5 + 2) = some (.int .i64 j)
  r3 : rd w (pb a) (po a + i * 5 + 3) = some (.int .u8 b)
  r4 : rd w (pb a) (po a + i * 5 + 4) = some (.bool s)
  b8 : 0 ≤ b ∧ b ≤ 255
  f64 : -9223372036854775808 ≤ f ∧ f ≤ 9223372036854775807
  j64 : -9223372036854775808 ≤ j ∧ j ≤ 9223372036854775807
def firstOf (p : Slb → Bool) (L : List Slb) : Int := match L.find? p with
  | some e => e.fr
  | none => -1
theorem firstOf_cons {p : Slb → Bool} {L : List Slb} {k : Nat} (hk : k < L.length) : firstOf p (L.drop k) = if p (L[k]) = true then (L[k]).fr else firstOf p (L.drop (k + 1)) := by
  rw [List.drop_eq_getElem_cons hk]
  unfold firstOf
  rw [List.find?_cons]
  cases h : p L[k] with
  | true => simp
  | false => simp
/-- frames that may be: 5 i + 2 -/
theorem partial_law (size n : Int) (l : Option Addr) (lL lC : Nat) (w : World) (hl : 0 < lL → isP l = true) (ho : ∀ i, i < lL → ∃ k f j b s, Op5 w l i k f j b s) :
    Calls Try.prog 9 #[.int .i64 size, .int .i64 n, .slice l lL lC] w fun e w' => e = .returned (.bool true) ∧ Kept none' w w' := by
  refine (vc9 size n l lL lC w (fun v w' => v = .bool true ∧ Kept none' w w') ?_).mono ?_
  · unfold vcP9
    by_cases hm : mayBe size 0
    · obtain ⟨z, c0, rfl, hc0, h8, h128, _⟩ := mayBe_nat hm
      refine (new_cis (Kept.refl _ w) z hm).mono ?_
      rintro _ w1 ⟨C, M, rfl, k1, h1, _, _⟩
      refine ⟨_, _, rfl, Wif_intro (fun _ => fin_cknown h1.fr) (fun hn => ?_)⟩
      simp at hn
      obtain ⟨⟨hn0, hn12⟩, hl150⟩ := hn
      obtain ⟨N, rfl⟩ := Int.eq_ofNat_of_zero_le hn0
      refine ⟨fun b n w' m => ∃ (k c : Nat) (L : List Slb), n = k ∧ k ≤ N ∧ m = N - k ∧ CIs w w' C M z c L ∧ L.length = k ∧ ∀ e ∈ L, e.fr < 5 * k + 2, ⟨_, 0, 0, [], rfl, by omega, rfl, h1, rfl, by simp⟩, ?_⟩
      rintro b n w2 m ⟨k, c, L, rfl, hk, rfl, h2, hlen, hlt⟩
      refine Wif_intro (fun hkn => ?_) (fun hge => ?_)
      · simp only [decide_eq_true_eq] at hkn
        have hk' : k < N := by omega
        intro w3 e3
        have hfr : IntKind.wrap .i64 (IntKind.wrap .i64 (5 * (k : Int)) + 2) = ((5 * k + 2 : Nat) : Int) := by
          rw [wi (x := 5 * (k : Int)) (by omega), wi (by omega)]; omega
        rw [hfr]
        refine (add_cis h2 _ (by omega) (by omega) (fun e he => by have := hlt e he; omega) e3).mono ?_
        rintro _ w4 ⟨rfl, _, S, f, h4⟩
        refine ⟨_, rfl, Wif_no rfl ⟨N - (k + 1), by omega, k + 1, _, insL ⟨((5 * k + 2 : Nat) : Int), S, w2.heap.size, 256, newSl z c, f⟩ L, by rw [wi (by omega)]; rfl, by omega, rfl, h4, by rw [insL_len, hlen], fun e he => ?_⟩⟩
        rcases insL_mem.1 he with rfl | he
        · show ((5 * k + 2 : Nat) : Int) < _
          omega
        · have := hlt e he; omega
      · have hlen12 : L.length ≤ 12 := by omega
        clear hlt hge hlen hk h1
        refine ⟨fun b n w' m => ∃ (q : Nat) (L : List Slb), n = q ∧ q ≤ lL ∧ m = lL - q ∧ CIs w w' C M z c L ∧ L.length ≤ 12, ⟨lL, 0, L, rfl, by omega, by omega, h2, hlen12⟩, ?_⟩
        clear h2 hlen12
        clear L
        rintro b n w4 m ⟨i, L, rfl, hi, rfl, h4, hlen⟩
        refine Wif_intro (fun hlp => ?_) (fun _ => fin_cknown h4.fr)
        simp at hlp
        obtain ⟨ok, of', oj, ob, os, op⟩ := ho i hlp
        have hwn : IntKind.wrap .i64 ((i : Int) + 1) = ((i + 1 : Nat) : Int) := by rw [wi (by omega)]; rfl
        rw [hwn]
        clear hwn
        have next : ∀ w' (L : List Slb), CIs w w' C M z c L → L.length ≤ 12 → ∃ m, Nat.succ m ≤ lL - i ∧ ∃ (q : Nat) (L : List Slb), ((i + 1 : Nat) : Int) = q ∧ q ≤ lL ∧ m = lL - q ∧ CIs w w' C M z c L ∧ L.length ≤ 12 :=
          fun w' L h hlen => ⟨lL - (i + 1), by omega, i + 1, L, rfl, by omega, rfl, h, hlen⟩
        have hb : ∀ w', Kept none' w w' → rd w' (pb l) (po l + Int.toNat (i : Int) * 5) = some (.int .i64 ok) ∧ rd w' (pb l) (po l + Int.toNat (i : Int) * 5 + 1) = some (.int .i64 of') ∧ rd w' (pb l) (po l + Int.toNat (i : Int) * 5 + 2) = some (.int .i64 oj) := by
          intro w' k
          rw [Int.toNat_natCast]
          exact ⟨k.rd_some op.r0 id, k.rd_some op.r1 id, k.rd_some op.r2 id⟩
        refine Wif_yes (hl (by omega)) (Wif_yes (inB_of (by omega) (by omega)) ⟨ok, (hb _ h4.fr).1, Wif_intro (fun hk1 => ?_) (fun hk1 => ?_)⟩)
        · intro w5 e5
          have h5 := h4.k ((Kept.refl _ _).dr e5)
          refine Wif_yes (hl (by omega)) (Wif_yes (inB_of (by omega) (by omega)) ⟨_, (hb _ h5.fr).2.1, Wif_yes (hl (by omega)) (Wif_yes (inB_of (by omega) (by omega)) ⟨_, (hb _ h5.fr).2.2, ?_⟩)⟩)
          by_cases hfe : ∃ e ∈ L, e.fr = IntKind.wrap .i64 (IntKind.wrap .i64 (5 * IntKind.wrap .i64 (Int.tmod (IntKind.wrap .u64 of') 12)) + 2)
          · obtain ⟨e, he, hfr⟩ := hfe
            rw [← hfr]
            refine (give_cis h5 he oj).mono ?_
            rintro _ w6 ⟨rfl, k6, h6⟩
            by_cases hg : giveOf e.s oj = 0
            · rw [if_pos hg] at h6
              exact ⟨_, rfl, ⟨(hb _ h6.fr).2.1, trivial⟩, next _ _ h6 (by rw [setL_len]; exact hlen)⟩
            · rw [if_neg hg] at h6
              exact ⟨_, rfl, ⟨(hb _ h6.fr).2.1, trivial⟩, next _ _ h6 hlen⟩
          · refine (cgive_out h5.at' (fun e he hx => hfe ⟨e, he, hx⟩) oj).mono ?_
            rintro _ w6 ⟨rfl, rfl⟩
            exact ⟨_, rfl, ⟨(hb _ h5.fr).2.1, trivial⟩, next _ _ h5 hlen⟩
        · refine (frames_spec h4.at' (by omega)).mono ?_
          rintro _ w5 ⟨a, cp, rfl, row5, k5⟩
          have h5 := h4.k k5
          refine ⟨_, _, _, rfl, ?_⟩
          refine ⟨fun b p e n w' m => ∃ q : Nat, n = (q : Int) - 1 ∧ q ≤ L.length ∧ q = m ∧ Kept none' w5 w' ∧ p = firstOf isPart (L.drop q) ∧ e = firstOf isEmp (L.drop q), ⟨L.length, L.length, by rw [wi (by omega)], Nat.le_refl _, rfl, Kept.refl _ _, by rw [List.drop_length]; rfl, by rw [List.drop_length]; rfl⟩, ?_⟩
          rintro b p e n w6 m ⟨q, rfl, hq, rfl, k6, rfl, rfl⟩
          have h6 := h5.k k6
          have s6 := (Src.of_row row5).k k6
          refine Wif_intro (fun hq0 => ?_) (fun hq0 => ?_)
          · simp only [decide_eq_true_eq] at hq0
            obtain ⟨k, rfl⟩ : ∃ k, q = k + 1 := ⟨q - 1, by omega⟩
            have hk' : k < L.length := by omega
            have hkk : ((k + 1 : Nat) : Int) - 1 = (k : Int) := by omega
            rw [hkk]
            have hr : rd w6 (pb a) (po a + Int.toNat (k : Int) * 1) = some (.int .i64 (L[k]).fr) := by
              rw [Int.toNat_natCast, Nat.mul_one]; exact s6.rd (frL_get hk')
            have hisp := s6.isp (by simp [frL]; omega)
            have hmem : L[k] ∈ L := List.getElem_mem hk'
            have a6 := (h6.at'.sl _ hmem).1
            have hbk := outv_nonneg a6
            have hw1 : IntKind.wrap .i64 ((k : Int) - 1) = (k : Int) - 1 := wi (by omega)
            rw [hw1]
            refine Wif_yes hisp (Wif_yes (inB_of (by omega) (by omega)) ⟨_, hr, (slab_in h6.at' hmem).mono ?_⟩)
            rintro _ w7 ⟨rfl, rfl⟩
            refine ⟨_, _, rfl, Wif_no rfl ((free_spec a6).mono ?_)⟩
            rintro _ w7 ⟨rfl, rfl⟩
            refine ⟨_, rfl, (count_spec a6).mono ?_⟩
            rintro _ w7 ⟨rfl, rfl⟩
            have hP := firstOf_cons (p := isPart) hk'
            have hE := firstOf_cons (p := isEmp) hk'
            refine ⟨_, rfl, Wif_intro (fun heq => ?_) (fun hne => ?_)⟩
            · simp at heq
              refine Wif_yes hisp (Wif_yes (inB_of (by omega) (by omega)) ⟨_, hr, k, by omega, k, rfl, by omega, rfl, k6, ?_, ?_⟩)
              · rw [hP, if_neg]
                simp [isPart]; omega
              · rw [hE, if_pos]
                simp [isEmp]; omega
            · simp at hne
              refine (free_spec a6).mono ?_
              rintro _ w7 ⟨rfl, rfl⟩
              refine ⟨_, rfl, Wif_intro (fun hgt => ?_) (fun hle => ?_)⟩
              · simp at hgt
                refine Wif_yes hisp (Wif_yes (inB_of (by omega) (by omega)) ⟨_, hr, k, by omega, k, rfl, by omega, rfl, k6, ?_, ?_⟩)
                · rw [hP, if_pos]
                  simp only [isPart, Bool.and_eq_true, decide_eq_true_eq]
                  have : (L[k]).s.ch.length ≠ 0 := fun h => by
                    have := List.eq_nil_of_length_eq_zero h
                    simp [this] at hgt
                  omega
                · rw [hE, if_neg]
                  simp [isEmp]; omega
              · simp at hle
                refine ⟨k, by omega, k, rfl, by omega, rfl, k6, ?_, ?_⟩
                · rw [hP, if_neg]
                  simp [isPart, hle]
                · rw [hE, if_neg]
                  simp [isEmp]; omega
          · simp only [decide_eq_false_iff_not] at hq0
            have : q = 0 := by omega
            subst this
            rw [List.drop_zero]
            have hp1 : ∀ e, L.find? isPart = some e → 0 ≤ e.fr := fun e h => h6.at'.nn e (List.mem_of_find?_eq_some h)
            have hp2 : ∀ e, L.find? isEmp = some e → 0 ≤ e.fr := fun e h => h6.at'.nn e (List.mem_of_find?_eq_some h)
            cases h1 : L.find? isPart with
            | none =>
              have e1 : firstOf isPart L = -1 := by unfold firstOf; rw [h1]
              rw [e1]
              refine Wif_yes rfl ((take_cis h6 (by omega)).mono ?_)
              rintro _ w7 ⟨k7, ⟨hp, rfl, h7⟩ | ⟨e, kk, ll, hp, he, rfl, hch, h7⟩⟩
              · have h2 : L.find? isEmp = none := by
                  unfold pick at hp
                  rw [h1] at hp
                  simpa using hp
                have e2 : firstOf isEmp L = -1 := by unfold firstOf; rw [h2]
                rw [e2]
                exact ⟨_, _, _, rfl, Wif_no rfl (next _ _ h7 hlen)⟩
              · have h2 : L.find? isEmp = some e := by
                  unfold pick at hp
                  rw [h1] at hp
                  simpa using hp
                have e2 : firstOf isEmp L = e.fr := by unfold firstOf; rw [h2]
                have := hp2 e h2
                rw [e2]
                exact ⟨_, _, _, rfl, Wif_no (by simp; omega) (next _ _ h7 (by rw [setL_len]; exact hlen))⟩
            | some e1' =>
              have e1 : firstOf isPart L = e1'.fr := by unfold firstOf; rw [h1]
              have := hp1 e1' h1
              rw [e1]
              refine Wif_no (by simp; omega) ((take_cis h6 (by omega)).mono ?_)
              rintro _ w7 ⟨k7, ⟨hp, rfl, h7⟩ | ⟨e, kk, ll, hp, he, rfl, hch, h7⟩⟩
              · unfold pick at hp
                rw [h1] at hp
                simp at hp
              · have : e = e1' := by
                  unfold pick at hp
                  rw [h1] at hp
                  simpa using hp.symm
                subst this
                exact ⟨_, _, _, rfl, Wif_no (by simp; omega) (next _ _ h7 (by rw [setL_len]; exact hlen))⟩
    · refine (cnew_no size hm w).mono ?_
      rintro _ w1 ⟨rfl, k1⟩
      exact ⟨_, _, rfl, Wif_yes rfl (fin_cknown k1)⟩
  · rintro e w' ⟨v, rfl, rfl, h⟩
    exact ⟨rfl, h⟩
end Go.Proofs.Ytkancagfhbkhiaa
