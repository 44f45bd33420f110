/-
  A part of a proof that a law of this seat returns true at every input. Conditions: those in each theorem.
-/
import Derived.Test.YtkmcmkimeibjdaaBL8
namespace Go.Proofs.Ytkmcmkimeibjdaa
open Go Eng
set_option linter.unusedSimpArgs false
set_option linter.unusedVariables false
set_option maxRecDepth 100000
/-! ### BuddyMost -/
structure BOp (w : World) (a : Option Addr) (i : Nat) (k p o : Int) (h : Bool) : Prop where
  r0 : rd w (pb a) (po a + i * 4) = some (.int .i64 k)
  r1 : rd w (pb a) (po a + i * 4 + 1) = some (.int .i64 p)
  r2 : rd w (pb a) (po a + i * 4 + 2) = some (.int .i64 o)
  r3 : rd w (pb a) (po a + i * 4 + 3) = some (.bool h)
theorem BOp.k {w w' : World} {a : Option Addr} {i : Nat} {k p o : Int} {h : Bool} (x : BOp w a i k p o h) (q : Kept none' w w') : BOp w' a i k p o h :=
  ⟨q.rd_some x.r0 id, q.rd_some x.r1 id, q.rd_some x.r2 id, q.rd_some x.r3 id⟩
theorem tile_over {l : List Bk} {a b : Nat} (h : Tile a l b) {x y : Bk} (hx : x ∈ l) (hy : y ∈ l) (h1 : x.p ≤ y.p) (h2 : y.p < x.p + 2 ^ x.o) : x = y := by
  obtain ⟨A, B, rfl⟩ := List.append_of_mem hx
  obtain ⟨hA, hB⟩ := sep_ne h h1 h2
  simp only [List.mem_append, List.mem_cons] at hy
  rcases hy with hy | hy | hy
  · exact absurd rfl (hA y hy)
  · exact hy.symm
  · exact absurd rfl (hB y hy)
/-- taken, and given back: as before -/
theorem take_give {n : Nat} {l l1 l2 : List Bk} {o : Nat} {high : Bool} {a e e2 : Int} (hi : Inv n l) (h1 : Inv n l1) (h2 : Inv n l2) (ht : TakeR l o high a e l1) (he : e = 0) (hg : GiveR l1 a o e2 l2) : e2 = 0 ∧ l2 = l := by
  rcases ht with ⟨_, _, h, _⟩ | ⟨_, _, _, _, _, h, _⟩ | ⟨o', x, r, a1, a2, a3, a4, a5, a6, a7, a8, a9, a10, a11⟩
  · omega
  · omega
  have : o = o' := by omega
  subst this a7
  have hxo : 2 ^ o ≤ 2 ^ x.o := Nat.pow_le_pow_right (by omega) a2
  have hp := p2 o
  have hnot : (⟨r, o, 1⟩ : Bk) ∉ l := fun hm => by
    have := tile_over hi.tl a3 hm (by dsimp only; cases high <;> simp at a8 <;> omega) (by dsimp only; cases high <;> simp at a8 <;> omega)
    rw [this] at a4
    cases a4
  have hin : (⟨r, o, 1⟩ : Bk) ∈ l1 := (a10 ⟨r, o, 1⟩ rfl).2 (.inr rfl)
  rcases hg with ⟨h, _⟩ | ⟨y, b1, b2, b3, b4, b5, b6, b7⟩
  · exact absurd (mem_tk.2 ⟨_, hin, rfl, rfl, rfl⟩) h
  · have hy : (⟨r, o, 1⟩ : Bk) = y := tile_start h1.tl hin b1 (by dsimp only; omega)
    subst hy
    refine ⟨b5, h2.same hi fun z hz => ?_⟩
    rw [b6 z hz, a10 z hz]
    constructor
    · rintro ⟨h | h, hn⟩
      · exact h
      · exact absurd h hn
    · intro h
      exact ⟨.inl h, fun e => hnot (e ▸ h)⟩
theorem fsum_128 {n : Nat} {l : List Bk} (h : Inv n l) : fsum l ≤ 128 := by
  have := fsum_le h.tl; have := h.n1; omega
theorem buddyMost_law (n : Int) (l : Option Addr) (lL lC : Nat) (W : World) (hp : 0 < lL → isP l = true) (hx : ∀ i, i < lL → ∃ k p o h, BOp W l i k p o h) :
    Calls Try.prog 3 #[.int .i64 n, .slice l lL lC] W fun r w' => r = .returned (.bool true) ∧ Kept none' W w' := by
  refine (vc3 n l lL lC W (fun v w' => v = .bool true ∧ Kept none' W w') ?_).mono ?_
  · unfold vcP3
    refine (new_spec W n).mono ?_
    have hknown : ∀ w1, Kept none' W w1 → Calls Try.prog 14 #[] w1 fun (e : Ending) (w' : World) => ∃ (b : Bool), e = Ending.returned (Value.bool b) ∧ (Value.bool b = .bool true ∧ Kept none' W w') := fun w1 k1 => by
      refine (known_spec w1).mono ?_
      rintro _ w2 ⟨rfl, k2⟩
      exact ⟨_, rfl, rfl, k1.tr k2⟩
    rintro _ w1 (⟨_, rfl, rfl⟩ | ⟨N, b, m, t, L, rfl, rfl, k1, h1, i1, g1, fr1⟩)
    · exact ⟨_, _, rfl, Wif_yes rfl (hknown _ (Kept.refl _ _))⟩
    refine ⟨_, _, rfl, Wif_intro (fun _ => hknown _ k1) (fun hc => ?_)⟩
    simp at hc
    refine ⟨fun k w' M => ∃ (q : Nat) (L : List Bk), k = q ∧ q ≤ lL ∧ M = lL - q ∧ Kept none' W w' ∧ BAt w' b m t (stOf N L) ∧ Inv N L, ⟨lL, 0, L, rfl, by omega, rfl, k1, h1, i1⟩, ?_⟩
    rintro _ w2 _ ⟨q, L, rfl, hq, rfl, k2, h2, i2⟩
    refine Wif_intro (fun hc2 => ?_) (fun hc2 => ?_)
    · simp only [decide_eq_true_eq] at hc2
      obtain ⟨k, p, o, hh, hop⟩ := hx q (by omega)
      have hop2 := hop.k k2
      have hP := hp (by omega)
      have eP : ∀ {x y : Prop}, Wif (isP l) x y = x := by intro x y; rw [hP]; rfl
      have eB : ∀ {x y : Prop}, Wif (inB (q : Int) lL) x y = x := by intro x y; rw [inB_of (by omega) (by omega)]; rfl
      simp only [eP, eB, Int.toNat_natCast]
      have ew : IntKind.wrap .i64 ((q : Int) + 1) = ((q + 1 : Nat) : Int) := by rw [wi (by omega)]; rfl
      rw [ew]
      refine ⟨_, hop2.r0, Wif_intro (fun _ => ?_) (fun _ => Wif_intro (fun _ => ?_) (fun _ => ?_))⟩
      · intro w3 e3
        have k23 : Kept none' w2 w3 := (Kept.refl _ _).dr e3
        have hop3 := hop2.k k23
        refine ⟨_, hop3.r2, _, hop3.r3, (take_spec (h2.k k23) i2 o hh).mono ?_⟩
        rintro _ w4 ⟨a, e, L', rfl, k4, h4, i4, _⟩
        exact ⟨_, _, rfl, lL - (q + 1), by omega, q + 1, L', rfl, by omega, rfl, own0 (k2.tr k23) k4 fr1, h4, i4⟩
      · intro w3 e3
        have k23 : Kept none' w2 w3 := (Kept.refl _ _).dr e3
        have hop3 := hop2.k k23
        refine ⟨_, hop3.r1, _, hop3.r2, (give_spec (h2.k k23) i2 p o).mono ?_⟩
        rintro _ w4 ⟨e, L', rfl, k4, h4, i4, _⟩
        exact ⟨_, rfl, lL - (q + 1), by omega, q + 1, L', rfl, by omega, rfl, own0 (k2.tr k23) k4 fr1, h4, i4⟩
      · exact ⟨lL - (q + 1), by omega, q + 1, L, rfl, by omega, rfl, k2, h2, i2⟩
    refine (most_sp h2 i2).mono ?_
    rintro _ _ ⟨rfl, rfl⟩
    refine ⟨_, rfl, ?_⟩
    have hms := most_st (n := N) (l := L) fun x hx => (tile_mem i2.tl hx).2.2.2
    have hf := fsum_128 i2
    refine ⟨fun _ k w' M => ∃ q : Nat, k = q ∧ q ≤ 11 ∧ M = 11 - q ∧ Kept none' W w' ∧ BAt w' b m t (stOf N L), ⟨11, 0, rfl, by omega, rfl, k2, h2⟩, ?_⟩
    rintro _ _ w3 _ ⟨o, rfl, ho, rfl, k3, h3⟩
    refine Wif_intro (fun hc3 => ?_) (fun hc3 => ?_)
    · simp only [decide_eq_true_eq] at hc3
      refine ⟨fun _ k w' M => ∃ q : Nat, k = q ∧ q ≤ 2 ∧ M = 2 - q ∧ Kept none' W w' ∧ BAt w' b m t (stOf N L), ⟨2, 0, rfl, by omega, rfl, k3, h3⟩, ?_⟩
      rintro _ _ w4 _ ⟨q2, rfl, hq2, rfl, k4, h4⟩
      refine Wif_intro (fun hc4 => ?_) (fun hc4 => ?_)
      · simp only [decide_eq_true_eq] at hc4
        have hbool : ∃ x : Bool, [Value.bool false, Value.bool true][Int.toNat (q2 : Int) * 1]? = some (Value.bool x) := by
          have : q2 = 0 ∨ q2 = 1 := by omega
          rcases this with rfl | rfl
          · exact ⟨false, rfl⟩
          · exact ⟨true, rfl⟩
        obtain ⟨x, hxb⟩ := hbool
        have next : ∀ w', Kept none' W w' → BAt w' b m t (stOf N L) → ∃ (mm : Nat), Nat.succ mm ≤ 2 - q2 ∧ ∃ q : Nat, IntKind.wrap .i64 ((q2 : Int) + 1) = q ∧ q ≤ 2 ∧ mm = 2 - q ∧ Kept none' W w' ∧ BAt w' b m t (stOf N L) := fun w' k h =>
          ⟨2 - (q2 + 1), by omega, q2 + 1, by rw [wi (by omega)]; rfl, by omega, rfl, k, h⟩
        refine Wif_yes (inB_of (by omega) (by omega)) ⟨x, hxb, (copy_spec h4).mono ?_⟩
        rintro _ w5 ⟨b', m', t', rfl, k5, h5, fr5⟩
        refine ⟨_, rfl, Wif_no rfl ((take_spec h5 i2 (o : Int) x).mono ?_)⟩
        rintro _ w6 ⟨a, e, L', rfl, k6, h6, i6, r6⟩
        have K6 : Kept none' w4 w6 := own0 k5 k6 fr5
        refine ⟨_, _, rfl, ?_⟩
        have r6' := r6
        rcases r6 with ⟨h, _⟩ | ⟨o', a1, a2, a3, a4, rfl, a6⟩ | ⟨o', y, r, a1, a2, a3, a4, a5, a6, a7, a8, rfl, a10, a11⟩
        · omega
        · have hno : ¬ ((o : Int) ≤ mostOf (stOf N L) 11) := by
            rw [hms o]
            rintro ⟨z, z1, z2, z3⟩
            have := a3 z z1 z2
            omega
          refine Wif_no (by simp; omega) ?_
          intro w7 e7
          have k67 : Kept none' w4 w7 := K6.dr e7
          exact gIf_intro (fun _ => by simp) (Wif_no rfl (next _ (k4.tr k67) (h4.k k67)))
        · have hyes : (o : Int) ≤ mostOf (stOf N L) 11 := by
            rw [hms o]
            exact ⟨y, a3, a4, by omega⟩
          refine Wif_no (by simp; omega) ?_
          intro w7 e7
          have k67 : Kept none' w4 w7 := K6.dr e7
          have h7 := h6.k ((Kept.refl _ _).dr e7)
          refine gIf_intro (fun _ => by simp) (Wif_yes rfl ((free_st h7 i6).mono ?_))
          rintro _ _ ⟨rfl, rfl⟩
          refine ⟨_, rfl, (free_st (h4.k k67) i2).mono ?_⟩
          rintro _ _ ⟨rfl, rfl⟩
          have hpo := pow10 (o := o) (by omega)
          have : o' = o := by omega
          subst this
          refine ⟨_, rfl, Wif_no ?_ ((give_spec h7 i6 a (o' : Int)).mono ?_)⟩
          · have hp0 := p2 o'
            rw [shl1 (by omega), wi (by omega), bne_eq_false_iff_eq]
            omega
          rintro _ w8 ⟨e, L'', rfl, k8, h8, i8, r8⟩
          obtain ⟨rfl, rfl⟩ := take_give i2 i6 i8 r6' rfl r8
          have k48 : Kept none' w4 w8 := own0 k67 k8 fun z hz => by have := fr5 z hz; omega
          refine ⟨_, rfl, Wif_no rfl ((most_sp h8 i8).mono ?_)⟩
          rintro _ _ ⟨rfl, rfl⟩
          refine ⟨_, rfl, Wif_no (by simp) ((free_st h8 i8).mono ?_)⟩
          rintro _ _ ⟨rfl, rfl⟩
          refine ⟨_, rfl, (free_st (h4.k k48) i8).mono ?_⟩
          rintro _ _ ⟨rfl, rfl⟩
          exact ⟨_, rfl, Wif_no (by simp) (next _ (k4.tr k48) (h4.k k48))⟩
      · exact ⟨11 - (o + 1), by omega, o + 1, by rw [wi (by omega)]; rfl, by omega, rfl, k4, h4⟩
    · exact hknown _ k3
  · rintro e w' ⟨v, rfl, rfl, hw⟩
    exact ⟨rfl, hw⟩
end Go.Proofs.Ytkmcmkimeibjdaa
