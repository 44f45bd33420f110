/-
  A part of a proof that a law of this seat returns true at every input. Conditions: those in each theorem.
-/
import Derived.Test.YtkmcmkimeibjdaaBL7
import Derived.Test.YtkmcmkimeibjdaaBV1
namespace Go.Proofs.Ytkmcmkimeibjdaa
open Go Eng
set_option linter.unusedSimpArgs false
set_option linter.unusedVariables false
set_option maxRecDepth 100000
/-! ### BuddyMost -/
structure BOp (w : World) (a : Option Addr) (i : Nat) (k p o : Int) (h : Bool) : Prop where
  r0 : rd w (pb a) (po a + i * 4) = some (.int .i64 k)
  r1 : rd w (pb a) (po a + i * 4 + 1) = some (.int .i64 p)
  r2 : rd w (pb a) (po a + i * 4 + 2) = some (.int .i64 o)
  r3 : rd w (pb a) (po a + i * 4 + 3) = some (.bool h)
theorem BOp.k {w w' : World} {a : Option Addr} {i : Nat} {k p o : Int} {h : Bool} (x : BOp w a i k p o h) (q : Kept none' w w') : BOp w' a i k p o h :=
  ⟨q.rd_some x.r0 id, q.rd_some x.r1 id, q.rd_some x.r2 id, q.rd_some x.r3 id⟩
theorem tile_over {l : List Bk} {a b : Nat} (h : Tile a l b) {x y : Bk} (hx : x ∈ l) (hy : y ∈ l) (h1 : x.p ≤ y.p) (h2 : y.p < x.p + 2 ^ x.o) : x = y := by
  obtain ⟨A, B, rfl⟩ := List.append_of_mem hx
  obtain ⟨hA, hB⟩ := sep_ne h h1 h2
  simp only [List.mem_append, List.mem_cons] at hy
  rcases hy with hy | hy | hy
  · exact absurd rfl (hA y hy)
  · exact hy.symm
  · exact absurd rfl (hB y hy)
/-- taken, and given back: as before -/
theorem take_give {n : Nat} {l l1 l2 : List Bk} {o : Nat} {high : Bool} {a e e2 : Int} (hi : Inv n l) (h1 : Inv n l1) (h2 : Inv n l2) (ht : TakeR l o high a e l1) (he : e = 0) (hg : GiveR l1 a o e2 l2) : e2 = 0 ∧ l2 = l := by
  rcases ht with ⟨_, _, h, _⟩ | ⟨_, _, _, _, _, h, _⟩ | ⟨o', x, r, a1, a2, a3, a4, a5, a6, a7, a8, a9, a10, a11⟩
  · omega
  · omega
  have : o = o' := by omega
  subst this a7
  have hxo : 2 ^ o ≤ 2 ^ x.o := Nat.pow_le_pow_right (by omega) a2
  have hp := p2 o
  have hnot : (⟨r, o, 1⟩ : Bk) ∉ l := fun hm => by
    have := tile_over hi.tl a3 hm (by dsimp only; cases high <;> simp at a8 <;> omega) (by dsimp only; cases high <;> simp at a8 <;> omega)
    rw [this] at a4
    cases a4
  have hin : (⟨r, o, 1⟩ : Bk) ∈ l1 := (a10 ⟨r, o, 1⟩ rfl).2 (.inr rfl)
  rcases hg with ⟨h, _⟩ | ⟨y, b1, b2, b3, b4, b5, b6, b7⟩
  · exact absurd (mem_tk.2 ⟨_, hin, rfl, rfl, rfl⟩) h
  · have hy : (⟨r, o, 1⟩ : Bk) = y := tile_start h1.tl hin b1 (by dsimp only; omega)
    subst hy
    refine ⟨b5, h2.same hi fun z hz => ?_⟩
    rw [b6 z hz, a10 z hz]
    constructor
    · rintro ⟨h | h, hn⟩
      · exact h
      · exact absurd h hn
    · intro h
      exact ⟨.inl h, fun e => hnot (e ▸ h)⟩
theorem fsum_128 {n : Nat} {l : List Bk} (h : Inv n l) : fsum l ≤ 128 := by
  have := fsum_le h.tl; have := h.n1; omega
theorem buddyMost_law (n : Int) (l : Option Addr) (lL lC : Nat) (W : World) (hp : 0 < lL → isP l = true) (hx : ∀ i, i < lL → ∃ k p o h, BOp W l i k p o h) :
    Calls Try.prog 3 #[.int .i64 n, .slice l lL lC] W fun r w' => r = .returned (.bool true) ∧ Kept none' W w' := by
  refine (vc3 n l lL lC W (fun v w' => v = .bool true ∧ Kept none' W w') ?_).mono ?_
  · unfold vcP3
    refine (new_spec W n).mono ?_
    have hknown : ∀ w1, Kept none' W w1 → Calls Try.prog 14 #[] w1 fun (e : Ending) (w' : World) => ∃ (b : Bool), e = Ending.returned (Value.bool b) ∧ (Value.bool b = .bool true ∧ Kept none' W w') := fun w1 k1 => by
      refine (known_spec w1).mono ?_
      rintro _ w2 ⟨rfl, k2⟩
      exact ⟨_, rfl, rfl, k1.tr k2⟩
    rintro _ w1 (⟨_, rfl, rfl⟩ | ⟨N, b, m, t, L, rfl, rfl, k1, h1, i1, g1, fr1⟩)
    · exact ⟨_, _, rfl, Wif_yes rfl (hknown _ (Kept.refl _ _))⟩
    refine ⟨_, _, rfl, Wif_intro (fun _ => hknown _ k1) (fun hc => ?_)⟩
    simp at hc
    refine ⟨fun k w' M => ∃ (q : Nat) (L : List Bk), k = q ∧ q ≤ lL ∧ M = lL - q ∧ Kept none' W w' ∧ BAt w' b m t (stOf N L) ∧ Inv N L, ⟨lL, 0, L, rfl, by omega, rfl, k1, h1, i1⟩, ?_⟩
    rintro _ w2 _ ⟨q, L, rfl, hq, rfl, k2, h2, i2⟩
    refine Wif_intro (fun hc2 => ?_) (fun hc2 => ?_)
    · simp only [decide_eq_true_eq] at hc2
      obtain ⟨k, p, o, hh, hop⟩ := hx q (by omega)
      have hop2 := hop.k k2
      have hP := hp (by omega)
      have eP : ∀ {x y : Prop}, Wif (isP l) x y = x := by intro x y; rw [hP]; rfl
      have eB : ∀ {x y : Prop}, Wif (inB (q : Int) lL) x y = x := by intro x y; rw [inB_of (by omega) (by omega)]; rfl
      simp only [eP, eB, Int.toNat_natCast]
      have ew : IntKind.wrap .i64 ((q : Int) + 1) = ((q + 1 : Nat) : Int) := by rw [wi (by omega)]; rfl
      rw [ew]
      refine ⟨_, hop2.r0, Wif_intro (fun _ => ?_) (fun _ => Wif_intro (fun _ => ?_) (fun _ => ?_))⟩
      · intro w3 e3
        have k23 : Kept none' w2 w3 := (Kept.refl _ _).dr e3
        have hop3 := hop2.k k23
        refine ⟨_, hop3.r2, _, hop3.r3, (take_spec (h2.k k23) i2 o hh).mono ?_⟩
        rintro _ w4 ⟨a, e, L', rfl, k4, h4, i4, _⟩
        exact ⟨_, _, rfl, lL - (q + 1), by omega, q + 1, L', rfl, by omega, rfl, own0 (k2.tr k23) k4 fr1, h4, i4⟩
      · intro w3 e3
        have k23 : Kept none' w2 w3 := (Kept.refl _ _).dr e3
        have hop3 := hop2.k k23
        refine ⟨_, hop3.r1, _, hop3.r2, (give_spec (h2.k k23) i2 p o).mono ?_⟩
        rintro _ w4 ⟨e, L', rfl, k4, h4, i4, _⟩
        exact ⟨_, rfl, lL - (q + 1), by omega, q + 1, L', rfl, by omega, rfl, own0 (k2.tr k23) k4 fr1, h4, i4⟩
      · exact ⟨lL - (q + 1), by omega, q + 1, L, rfl, by omega, rfl, k2, h2, i2⟩
    refine (most_sp h2 i2).mono ?_
    rintro _ _ ⟨rfl, rfl⟩
    refine ⟨_, rfl, ?_⟩
    have hms := most_st (n := N) (l := L) fun x hx => (tile_mem i2.tl hx).2.2.2
    have hf := fsum_128 i2
    refine ⟨fun _ k w' M => ∃ q : Nat, k = q ∧ q ≤ 11 ∧ M = 11 - q ∧ Kept none' W w' ∧ BAt w' b m t (stOf N L), ⟨11, 0, rfl, by omega, rfl, k2, h2⟩, ?_⟩
    rintro _ _ w3 _ ⟨o, rfl, ho, rfl, k3, h3⟩
    refine Wif_intro (fun hc3 => ?_) (fun hc3 => ?_)
    · simp only [decide_eq_true_eq] at hc3
      refine ⟨fun _ k w' M => ∃ q : Nat, k = q ∧ q ≤ 2 ∧ M = 2 - q ∧ Kept none' W w' ∧ BAt w' b m t (stOf N L), ⟨2, 0, rfl, by omega, rfl, k3, h3⟩, ?_⟩
      rintro _ _ w4 _ ⟨q2, rfl, hq2, rfl, k4, h4⟩
      refine Wif_intro (fun hc4 => ?_) (fun hc4 => ?_)
      · simp only [decide_eq_true_eq] at hc4
        have hbool : ∃ x : Bool, [Value.bool false, Value.bool true][Int.toNat (q2 : Int) * 1]? = some (Value.bool x) := by
          have : q2 = 0 ∨ q2 = 1 := by omega
          rcases this with rfl | rfl
          · exact ⟨false, rfl⟩
          · exact ⟨true, rfl⟩
        obtain ⟨x, hxb⟩ := hbool
        have next : ∀ w', Kept none' W w' → BAt w' b m t (stOf N L) → ∃ (mm : Nat), Nat.succ mm ≤ 2 - q2 ∧ ∃ q : Nat, IntKind.wrap .i64 ((q2 : Int) + 1) = q ∧ q ≤ 2 ∧ mm = 2 - q ∧ Kept none' W w' ∧ BAt w' b m t (stOf N L) := fun w' k h =>
          ⟨2 - (q2 + 1), by omega, q2 + 1, by rw [wi (by omega)]; rfl, by omega, rfl, k, h⟩
        refine Wif_yes (inB_of (by omega) (by omega)) ⟨x, hxb, (copy_spec h4).mono ?_⟩
        rintro _ w5 ⟨b', m', t', rfl, k5, h5, fr5⟩
        refine ⟨_, rfl, Wif_no rfl ((take_spec h5 i2 (o : Int) x).mono ?_)⟩
        rintro _ w6 ⟨a, e, L', rfl, k6, h6, i6, r6⟩
        have K6 : Kept none' w4 w6 := own0 k5 k6 fr5
        refine ⟨_, _, rfl, ?_⟩
        have r6' := r6
        rcases r6 with ⟨h, _⟩ | ⟨o', a1, a2, a3, a4, rfl, a6⟩ | ⟨o', y, r, a1, a2, a3, a4, a5, a6, a7, a8, rfl, a10, a11⟩
        · omega
        · have hno : ¬ ((o : Int) ≤ mostOf (stOf N L) 11) := by
            rw [hms o]
            rintro ⟨z, z1, z2, z3⟩
            have := a3 z z1 z2
            omega
          refine Wif_no (by simp; omega) ?_
          intro w7 e7
          have k67 : Kept none' w4 w7 := K6.dr e7
          exact gIf_intro (fun _ => by simp) (Wif_no rfl (next _ (k4.tr k67) (h4.k k67)))
        · have hyes : (o : Int) ≤ mostOf (stOf N L) 11 := by
            rw [hms o]
            exact ⟨y, a3, a4, by omega⟩
          refine Wif_no (by simp; omega) ?_
          intro w7 e7
          have k67 : Kept none' w4 w7 := K6.dr e7
          have h7 := h6.k ((Kept.refl _ _).dr e7)
          refine gIf_intro (fun _ => by simp) (Wif_yes rfl ((free_st h7 i6).mono ?_))
          rintro _ _ ⟨rfl, rfl⟩
          refine ⟨_, rfl, (free_st (h4.k k67) i2).mono ?_⟩
          rintro _ _ ⟨rfl, rfl⟩
          have hpo := pow10 (o := o) (by omega)
          have : o' = o := by omega
          subst this
          refine ⟨_, rfl, Wif_no ?_ ((give_spec h7 i6 a (o' : Int)).mono ?_)⟩
          · have hp0 := p2 o'
            rw [shl1 (by omega), wi (by omega), bne_eq_false_iff_eq]
            omega
          rintro _ w8 ⟨e, L'', rfl, k8, h8, i8, r8⟩
          obtain ⟨rfl, rfl⟩ := take_give i2 i6 i8 r6' rfl r8
          have k48 : Kept none' w4 w8 := own0 k67 k8 fun z hz => by have := fr5 z hz; omega
          refine ⟨_, rfl, Wif_no rfl ((most_sp h8 i8).mono ?_)⟩
          rintro _ _ ⟨rfl, rfl⟩
          refine ⟨_, rfl, Wif_no (by simp) ((free_st h8 i8).mono ?_)⟩
          rintro _ _ ⟨rfl, rfl⟩
          refine ⟨_, rfl, (free_st (h4.k k48) i8).mono ?_⟩
          rintro _ _ ⟨rfl, rfl⟩
          exact ⟨_, rfl, Wif_no (by simp) (next _ (k4.tr k48) (h4.k k48))⟩
      · exact ⟨11 - (o + 1), by omega, o + 1, by rw [wi (by omega)]; rfl, by omega, rfl, k4, h4⟩
    · exact hknown _ k3
  · rintro e w' ⟨v, rfl, rfl, hw⟩
    exact ⟨rfl, hw⟩
end Go.Proofs.Ytkmcmkimeibjdaa
set_option linter.unusedVariables false
set_option maxRecDepth 100000
namespace Go.Proofs.Ytkmcmkimeibjdaa
open Go Go.Eng
/- (*byre/buddy.Buddy).Blocks$1 -/
def vcP54 (l0 : Nat) (c1_0 : Option Addr) (w : World) (K : Value → World → Prop) : Prop :=
 Wif (isP c1_0)
 (∃ (x : Option Addr),
 rd w (pb c1_0) (po c1_0) = some (Value.pointer x) ∧
 gIf (isP x) ((!Option.isNone x) = true)
 (∃ (x_1 : Option Nat),
 ((!Option.isNone x) = true → rd w (pb x) (po x + 12) = some (Value.map x_1)) ∧
 Wif (!(!Option.isNone x && !Option.isNone x_1)) (K (Value.tuple #[]) w)
 (Wif (isP c1_0)
 (∃ (x : Option Addr),
 rd w (pb c1_0) (po c1_0) = some (Value.pointer x) ∧
 Wif (isP x)
 (∃ (x_2 : Option Nat),
 ∃ (x_3 : Option Nat),
 ∃ (x_4 : Option Nat),
 ∃ (x_5 : Option Nat),
 ∃ (x_6 : Option Nat),
 ∃ (x_7 : Option Nat),
 ∃ (x_8 : Option Nat),
 ∃ (x_9 : Option Nat),
 ∃ (x_10 : Option Nat),
 ∃ (x_11 : Option Nat),
 ∃ (x_12 : Option Nat),
 rdAll w (pb x) (po x + 1)
 [Value.map x_2, Value.map x_3, Value.map x_4, Value.map x_5, Value.map x_6, Value.map x_7, Value.map x_8, Value.map x_9, Value.map x_10,
 Value.map x_11, Value.map x_12] ∧
 ∃ (I : Option Addr → Nat → Nat → Int → World → Nat → Prop),
 (∃ (n : Nat), I none 0 0 0 w n) ∧
 ∀ (a : Option Addr) (l c : Nat) (n : Int) (w' : World) (n_1 : Nat),
 I a l c n w' n_1 →
 Wif (decide (n < 11))
 (Wif (inB n 11)
 (∃ (x : Option Nat),
 [Value.map x_2, Value.map x_3, Value.map x_4, Value.map x_5, Value.map x_6, Value.map x_7, Value.map x_8, Value.map x_9, Value.map x_10,
 Value.map x_11, Value.map x_12][Int.toNat n * 1]? =
 some (Value.map x) ∧
 ∃ (p : Option Addr),
 ∃ (w'_1 : World),
 rngIs Proofs.Try.prog 75 (Value.map x) (Value.pointer p) w' w'_1 ∧
 ∃ (I_1 : Option Addr → Nat → Nat → World → Nat → Prop),
 (∃ (n : Nat), I_1 a l c w'_1 n) ∧
 ∀ (a : Option Addr) (l c : Nat) (w' : World) (n_2 : Nat),
 I_1 a l c w' n_2 →
 (∃ (w'_2 : World),
 nxtIs Proofs.Try.prog (Value.pointer p) false 0 (Value.tuple #[Value.bool false]) w' w'_2 ∧
 ∃ (m : Nat), Nat.succ m ≤ n_1 ∧ I a l c (IntKind.wrap IntKind.i64 (n + 1)) w'_2 m) ∨
 ∃ (k : Value),
 ∃ (v : Value),
 ∃ (w'_2 : World),
 nxtIs Proofs.Try.prog (Value.pointer p) false 0 (Value.tuple #[Value.bool true, k, v]) w' w'_2 ∧
 ∃ (x : Int),
 ∃ (x_13 : Value),
 entIs Proofs.Try.prog (Value.pointer p) (Value.tuple #[Value.int IntKind.i64 x, x_13]) w'_2 ∧
 ∀ (w' : World),
 w' = World.alloc w'_2 (Obj.cells #[Value.int IntKind.i64 x, Value.int IntKind.i64 n] 58) →
 ∃ (a_1 : Option Addr),
 ∃ (l_1 : Nat),
 ∃ (c_1 : Nat),
 ∃ (w'_3 : World),
 appIs Proofs.Try.prog #[56, 56] 56 (Value.slice a l c)
 (Value.slice (some (Addr.mk (Array.size (World.heap w'_2)) 0 none)) 1 1)
 (Value.slice a_1 l_1 c_1) w' w'_3 ∧
 ∃ (m : Nat), Nat.succ m ≤ n_2 ∧ I_1 a_1 l_1 c_1 w'_3 m)
 False)
 (Calls Proofs.Try.prog 55 #[Value.slice a l c, Value.func (Fn.func 56) #[] #[]] w' fun (e : Ending) (w' : World) =>
 e = Ending.returned (Value.tuple #[]) ∧
 ∃ (I : Int → World → Nat → Prop),
 (∃ (n : Nat), I 0 w' n) ∧
 ∀ (n : Int) (w' : World) (n_2 : Nat),
 I n w' n_2 →
 Wif (decide (n < (↑l : Int)))
 (Wif (isP a)
 (Wif (inB n l)
 (∃ (x : Int),
 ∃ (x_13 : Int),
 (rd w' (pb a) (po a + Int.toNat n * 2) = some (Value.int IntKind.i64 x) ∧
 rd w' (pb a) (po a + Int.toNat n * 2 + 1) = some (Value.int IntKind.i64 x_13)) ∧
 ∀ (w'_1 : World),
 w'_1 = World.alloc w' (Obj.cells #[Value.int IntKind.i64 0, Value.int IntKind.i64 0] 58) →
 (wr w'_1 (Array.size (World.heap w')) 0 ∧ wr w'_1 (Array.size (World.heap w')) 1) ∧
 ∀ (w'_2 : World),
 w'_2 =
 st (st w'_1 (Array.size (World.heap w')) 0 (Value.int IntKind.i64 x)) (Array.size (World.heap w')) 1
 (Value.int IntKind.i64 x_13) →
 ∃ (x : Int),
 ∃ (x_14 : Int),
 (rd w'_2 (Array.size (World.heap w')) 0 = some (Value.int IntKind.i64 x) ∧
 rd w'_2 (Array.size (World.heap w')) 1 = some (Value.int IntKind.i64 x_14)) ∧
 YieldIs Proofs.Try.prog l0 [Value.agg #[Value.int IntKind.i64 x, Value.int IntKind.i64 x_14]] w'_2
 fun (r : Ending) (w' : World) =>
 ∃ (b : Bool),
 r = Ending.returned (Value.bool b) ∧
 Wif (!b) (K (Value.tuple #[]) w')
 (∃ (m : Nat), Nat.succ m ≤ n_2 ∧ I (IntKind.wrap IntKind.i64 (n + 1)) w' m))
 False)
 False)
 (K (Value.tuple #[]) w')))
 False)
 False)))
 False
theorem vcE54 (l0 : Nat) (c1_0 : Option
 Addr) (w : World) (K : Value → World → Prop) : vcP54 l0 c1_0 w K = Eng.wBody Go.Proofs.Try.prog (Eng.handOf Go.Proofs.Try.prog [44] 2) [1000041] Go.Proofs.Try.f54 (Eng.bodyOf Go.Proofs.Try.f54) [Value.func
 (Fn.yield l0) #[] #[],
 Value.pointer c1_0] w K := by kernel_rfl
theorem vc54 (l0 : Nat) (c1_0 : Option Addr) (w : World) (K : Value → World → Prop) (h : vcP54 l0 c1_0 w K) :
 Calls Go.Proofs.Try.prog 54 #[Value.func (Fn.yield l0) #[] #[], Value.pointer c1_0] w (fun e w' => ∃ v, e = .returned v ∧ K v w') :=
 Eng.vc_of [44] 2 [1000041] Go.Proofs.Try.mixes Go.Proofs.Try.func54 (by kernel_rfl) (by kernel_rfl) (vcE54 l0 c1_0 w K) h

-- 3601 ms
/- (*byre/buddy.Buddy).Blocks$1$1 -/
def vcP56 (x0 : Int) (x1 : Int) (y0 : Int) (y1 : Int) (w : World) (K : Value → World → Prop) : Prop :=
 ∀ (w' : World),
 w' = World.alloc w (Obj.cells #[Value.int IntKind.i64 x0, Value.int IntKind.i64 x1] 58) →
 ∀ (w'_1 : World),
 w'_1 = World.alloc w' (Obj.cells #[Value.int IntKind.i64 y0, Value.int IntKind.i64 y1] 58) →
 ∃ (x : Int),
 rd w'_1 (Array.size (World.heap w)) 0 = some (Value.int IntKind.i64 x) ∧
 ∃ (x_1 : Int), rd w'_1 (Array.size (World.heap w')) 0 = some (Value.int IntKind.i64 x_1) ∧ K (Value.int IntKind.i64 (IntKind.wrap IntKind.i64 (x - x_1))) w'_1
theorem vcE56 (x0 : Int) (x1 : Int) (y0 : Int) (y1 : Int) (w : World) (K : Value → World → Prop) : vcP56 x0 x1 y0 y1 w K = Eng.wBody Go.Proofs.Try.prog (Eng.handOf Go.Proofs.Try.prog [44] 2) [] Go.Proofs.Try.f56 (Eng.bodyOf Go.Proofs.Try.f56) [Value.agg
 #[Value.int IntKind.i64 x0, Value.int IntKind.i64 x1],
 Value.agg #[Value.int IntKind.i64 y0, Value.int IntKind.i64 y1]] w K := by kernel_rfl
theorem vc56 (x0 : Int) (x1 : Int) (y0 : Int) (y1 : Int) (w : World) (K : Value → World → Prop) (h : vcP56 x0 x1 y0 y1 w K) :
 Calls Go.Proofs.Try.prog 56 #[Value.agg #[Value.int IntKind.i64 x0, Value.int IntKind.i64 x1],
 Value.agg #[Value.int IntKind.i64 y0, Value.int IntKind.i64 y1]] w (fun e w' => ∃ v, e = .returned v ∧ K v w') :=
 Eng.vc_of [44] 2 [] Go.Proofs.Try.mixes Go.Proofs.Try.func56 (by kernel_rfl) (by kernel_rfl) (vcE56 x0 x1 y0 y1 w K) h

-- 140 ms
/- (*byre/buddy.Buddy).Frames -/
def vcP35 (b : Option Addr) (w : World) (K : Value → World → Prop) : Prop :=
 gIf (isP b) ((!Option.isNone b) = true)
 (∃ (x : Option Nat),
 ((!Option.isNone b) = true → rd w (pb b) (po b + 12) = some (Value.map x)) ∧
 Wif (!(!Option.isNone b && !Option.isNone x)) (K (Value.int IntKind.i64 0) w)
 (Wif (isP b) (∃ (x : Int), rd w (pb b) (po b) = some (Value.int IntKind.i64 x) ∧ K (Value.int IntKind.i64 x) w) False))
theorem vcE35 (b : Option
 Addr) (w : World) (K : Value → World → Prop) : vcP35 b w K = Eng.wBody Go.Proofs.Try.prog (Eng.handOf Go.Proofs.Try.prog [44] 2) [] Go.Proofs.Try.f35 (Eng.bodyOf Go.Proofs.Try.f35) [Value.pointer
 b] w K := by kernel_rfl
theorem vc35 (b : Option Addr) (w : World) (K : Value → World → Prop) (h : vcP35 b w K) :
 Calls Go.Proofs.Try.prog 35 #[Value.pointer b] w (fun e w' => ∃ v, e = .returned v ∧ K v w') :=
 Eng.vc_of [44] 2 [] Go.Proofs.Try.mixes Go.Proofs.Try.func35 (by kernel_rfl) (by kernel_rfl) (vcE35 b w K) h

-- 228 ms
/- (*byre/buddy.Buddy).Taken -/
def vcP30 (b : Option Addr) (at' : Int) (w : World) (K : Value → World → Prop) : Prop :=
 gIf (isP b) ((!Option.isNone b) = true)
 (∃ (x : Option Nat),
 ((!Option.isNone b) = true → rd w (pb b) (po b + 12) = some (Value.map x)) ∧
 Wif (!(!Option.isNone b && !Option.isNone x)) (K (Value.tuple #[Value.int IntKind.i64 0, Value.bool false]) w)
 (Wif (isP b)
 (∃ (x : Option Nat),
 rd w (pb b) (po b + 12) = some (Value.map x) ∧
 ∃ (x_1 : Int),
 ∃ (x_2 : Bool),
 lookIs Proofs.Try.prog 49 (Value.map x) (Value.int IntKind.i64 at') true (Value.tuple #[Value.int IntKind.i64 x_1, Value.bool x_2]) w ∧
 K (Value.tuple #[Value.int IntKind.i64 x_1, Value.bool x_2]) w)
 False))
theorem vcE30 (b : Option
 Addr) (at' : Int) (w : World) (K : Value → World → Prop) : vcP30 b at' w K = Eng.wBody Go.Proofs.Try.prog (Eng.handOf Go.Proofs.Try.prog [44] 2) [] Go.Proofs.Try.f30 (Eng.bodyOf Go.Proofs.Try.f30) [Value.pointer
 b,
 Value.int IntKind.i64 at'] w K := by kernel_rfl
theorem vc30 (b : Option Addr) (at' : Int) (w : World) (K : Value → World → Prop) (h : vcP30 b at' w K) :
 Calls Go.Proofs.Try.prog 30 #[Value.pointer b, Value.int IntKind.i64 at'] w (fun e w' => ∃ v, e = .returned v ∧ K v w') :=
 Eng.vc_of [44] 2 [] Go.Proofs.Try.mixes Go.Proofs.Try.func30 (by kernel_rfl) (by kernel_rfl) (vcE30 b at' w K) h

-- 371 ms
/- (*byre/buddy.Buddy).Blocks -/
def vcP27 (b : Option Addr) (w : World) (K : Value → World → Prop) : Prop :=
 ∀ (w' : World), w' = World.alloc w (Obj.cells #[Value.pointer b] 23) → K (Value.func (Fn.func 54) #[] #[Value.pointer (some (Addr.mk (Array.size (World.heap w)) 0 none))]) w'
theorem vcE27 (b : Option
 Addr) (w : World) (K : Value → World → Prop) : vcP27 b w K = Eng.wBody Go.Proofs.Try.prog (Eng.handOf Go.Proofs.Try.prog [44] 2) [] Go.Proofs.Try.f27 (Eng.bodyOf Go.Proofs.Try.f27) [Value.pointer
 b] w K := by kernel_rfl
theorem vc27 (b : Option Addr) (w : World) (K : Value → World → Prop) (h : vcP27 b w K) :
 Calls Go.Proofs.Try.prog 27 #[Value.pointer b] w (fun e w' => ∃ v, e = .returned v ∧ K v w') :=
 Eng.vc_of [44] 2 [] Go.Proofs.Try.mixes Go.Proofs.Try.func27 (by kernel_rfl) (by kernel_rfl) (vcE27 b w K) h

-- 25 ms
/- byre/byrelaw06.BuddyNone -/
def vcP10 (x0 : Int) (x1 : Int) (x2 : Int) (x3 : Bool) (w : World) (K : Value → World → Prop) : Prop :=
 ∀ (w' : World),
 w' = World.alloc w (Obj.cells #[Value.int IntKind.i64 x0, Value.int IntKind.i64 x1, Value.int IntKind.i64 x2, Value.bool x3] 29) →
 ∀ (w'_1 : World),
 w'_1 = World.alloc w' (Obj.cells #[Value.bool false] 4) →
 ∀ (w'_2 : World),
 w'_2 = World.alloc w'_1 (Obj.cells (List.toArray ([Value.int IntKind.i64 0] ++ List.replicate 12 (Value.map none))) 78) →
 ∀ (w'_3 : World),
 w'_3 = World.alloc w'_2 (Obj.cells #[Value.pointer none, Value.pointer (some (Addr.mk (Array.size (World.heap w'_1)) 0 none))] 23) →
 ∃ (I : Int → List Nat → World → Nat → Prop),
 (∃ (n : Nat), I 0 [] w'_3 n) ∧
 ∀ (n : Int) (ds' : List Nat) (w'_4 : World) (n_1 : Nat),
 I n ds' w'_4 n_1 →
 Wif (decide (n < 2))
 (Wif (inB n 2)
 (∃ (x : Option Addr),
 rd w'_4 (Array.size (World.heap w'_2)) (0 + Int.toNat n * 1) = some (Value.pointer x) ∧
 ∃ (x_1 : Int),
 rd w'_4 (Array.size (World.heap w)) 2 = some (Value.int IntKind.i64 x_1) ∧
 ∃ (x_2 : Bool),
 rd w'_4 (Array.size (World.heap w)) 3 = some (Value.bool x_2) ∧
 Calls Proofs.Try.prog 15 #[Value.pointer x, Value.int IntKind.i64 x_1, Value.bool x_2] w'_4 fun (e : Ending) (w'_5 : World) =>
 ∃ (n_2 : Int),
 ∃ (n_3 : Int),
 e = Ending.returned (Value.tuple #[Value.int IntKind.i64 n_2, Value.int IntKind.i64 n_3]) ∧
 ∃ (x_3 : Int),
 rd w'_5 (Array.size (World.heap w)) 1 = some (Value.int IntKind.i64 x_3) ∧
 Calls Proofs.Try.prog 30 #[Value.pointer x, Value.int IntKind.i64 x_3] w'_5 fun (e : Ending) (w'_6 : World) =>
 ∃ (n_4 : Int),
 ∃ (b : Bool),
 e = Ending.returned (Value.tuple #[Value.int IntKind.i64 n_4, Value.bool b]) ∧
 ∀ (w'_7 : World),
 w'_7 = World.alloc w'_6 (Obj.cells #[Value.pointer x] 23) →
 ∀ (w'_8 : World),
 w'_8 = World.alloc w'_7 (Obj.cells #[Value.pointer x] 23) →
 ∃ (xss : List (List Value)),
 ∃ (R : Nat → Prop),
 ∃ (I_1 : (Nat → Prop) → Nat → World → Prop),
 ∃ (X : Nat → (Nat → Prop) → World → Prop),
 (GivesV Proofs.Try.prog 54 [Value.pointer (some (Addr.mk (Array.size (World.heap w'_7)) 0 none))] xss R w'_8 ∧
 (∀ (xs : List Value), List.Mem xs xss → List.length xs = 1 ∧ ∃ (v : Value), xs = [v]) ∧
 ∀ (b : Nat), R b → Nat.succ b ≤ Array.size (World.heap w'_8)) ∧
 (∀ (w1 : World),
 Kept none' w'_8 w1 →
 Array.size (World.heap w1) = Array.size (World.heap w'_8) + 2 → I_1 (fun (x : Nat) => False) 0 w1) ∧
 (∀ (Y : Nat → Prop) (i : Nat) (W W' : World),
 I_1 Y i W →
 (∀ (b : Nat), Y b → Array.size (World.heap w'_8) + 2 ≤ b) →
 Kept (recsY (Array.size (World.heap w'_8)) Y) W W' →
 I_1 (fun (b : Nat) => Y b ∨ Array.size (World.heap W) ≤ b ∧ Nat.succ b ≤ Array.size (World.heap W')) i W') ∧
 (∀ (k : Nat) (Y : Nat → Prop) (W W' : World),
 X k Y W →
 (∀ (b : Nat), Y b → Array.size (World.heap w'_8) + 2 ≤ b) →
 Kept (recsY (Array.size (World.heap w'_8)) Y) W W' →
 X k (fun (b : Nat) => Y b ∨ Array.size (World.heap W) ≤ b ∧ Nat.succ b ≤ Array.size (World.heap W')) W') ∧
 (∀ (Y : Nat → Prop) (i : Nat) (W : World),
 I_1 Y i W →
 (∀ (b : Nat), Y b → Array.size (World.heap w'_8) + 2 ≤ b) →
 Array.size (World.heap w'_8) + 2 ≤ Array.size (World.heap W) →
 ∀ (v : Value),
 xss[i]? = some [v] →
 RecKept (Array.size (World.heap w'_8)) W W ∧
 ∀ (w2 : World),
 Kept (fun (b : Nat) => b = Array.size (World.heap w'_8) + 1) W w2 →
 Array.size (World.heap w2) = Array.size (World.heap W) →
 wr w2 (Array.size (World.heap w')) 0 ∧
 ∀ (w'_9 : World),
 w'_9 = st w2 (Array.size (World.heap w')) 0 (Value.bool false) →
 RecKept (Array.size (World.heap w'_8)) w2 w'_9 ∧
 KeptY (fun (b : Nat) => Y b ∨ R b) W w'_9 ∧ X 0 Y w'_9) ∧
 (∀ (Y : Nat → Prop) (W : World),
 I_1 Y (List.length xss) W →
 DefAt (Array.size (World.heap w'_8)) W →
 ∃ (x_4 : Int),
 ((n_3 != 1 || b) = false → rd W (Array.size (World.heap w)) 1 = some (Value.int IntKind.i64 x_4)) ∧
 ∃ (x_5 : Int),
 ((n_3 != 1 || b) = false →
 rd W (Array.size (World.heap w)) 2 = some (Value.int IntKind.i64 x_5)) ∧
 Wif (n_3 != 1 || b)
 (wr W (Array.size (World.heap w')) 0 ∧
 ∀ (w'_9 : World),
 w'_9 = st W (Array.size (World.heap w')) 0 (Value.bool false) →
 DefsAt (Array.size (World.heap w'_8) :: ds') w'_9 ∧
 ∀ (w2 : World),
 Kept (fun (b : Nat) => List.Mem b (Array.size (World.heap w'_8) :: ds')) w'_9 w2 →
 Array.size (World.heap w2) = Array.size (World.heap w'_9) →
 ∃ (x : Bool),
 rd w2 (Array.size (World.heap w')) 0 = some (Value.bool x) ∧
 K (Value.bool x) w2)
 (Calls Proofs.Try.prog 16
 #[Value.pointer x, Value.int IntKind.i64 x_4, Value.int IntKind.i64 x_5] W
 fun (e : Ending) (w'_9 : World) =>
 ∃ (n_5 : Int),
 e = Ending.returned (Value.int IntKind.i64 n_5) ∧
 Wif (n_5 != 1)
 (wr w'_9 (Array.size (World.heap w')) 0 ∧
 ∀ (w'_10 : World),
 w'_10 = st w'_9 (Array.size (World.heap w')) 0 (Value.bool false) →
 DefsAt (Array.size (World.heap w'_8) :: ds') w'_10 ∧
 ∀ (w2 : World),
 Kept (fun (b : Nat) => List.Mem b (Array.size (World.heap w'_8) :: ds'))
 w'_10 w2 →
 Array.size (World.heap w2) = Array.size (World.heap w'_10) →
 ∃ (x : Bool),
 rd w2 (Array.size (World.heap w')) 0 = some (Value.bool x) ∧
 K (Value.bool x) w2)
 (Calls Proofs.Try.prog 35 #[Value.pointer x] w'_9 fun (e : Ending) (w'_10 : World) =>
 ∃ (n_6 : Int),
 e = Ending.returned (Value.int IntKind.i64 n_6) ∧
 Calls Proofs.Try.prog 19 #[Value.pointer x] w'_10
 fun (e : Ending) (w'_11 : World) =>
 ∃ (n_7 : Int),
 e = Ending.returned (Value.int IntKind.i64 n_7) ∧
 Wif (IntKind.wrap IntKind.i64 (n_6 + n_7) != 0)
 (wr w'_11 (Array.size (World.heap w')) 0 ∧
 ∀ (w'_12 : World),
 w'_12 = st w'_11 (Array.size (World.heap w')) 0 (Value.bool false) →
 DefsAt (Array.size (World.heap w'_8) :: ds') w'_12 ∧
 ∀ (w2 : World),
 Kept
 (fun (b : Nat) =>
 List.Mem b (Array.size (World.heap w'_8) :: ds'))
 w'_12 w2 →
 Array.size (World.heap w2) = Array.size (World.heap w'_12) →
 ∃ (x : Bool),
 rd w2 (Array.size (World.heap w')) 0 =
 some (Value.bool x) ∧
 K (Value.bool x) w2)
 (Calls Proofs.Try.prog 17 #[Value.pointer x] w'_11
 fun (e : Ending) (w'_12 : World) =>
 ∃ (n_8 : Int),
 e = Ending.returned (Value.int IntKind.i64 n_8) ∧
 Wif (n_8 != -1)
 (wr w'_12 (Array.size (World.heap w')) 0 ∧
 ∀ (w'_13 : World),
 w'_13 =
 st w'_12 (Array.size (World.heap w')) 0
 (Value.bool false) →
 DefsAt (Array.size (World.heap w'_8) :: ds') w'_13 ∧
 ∀ (w2 : World),
 Kept
 (fun (b : Nat) =>
 List.Mem b
 (Array.size (World.heap w'_8) :: ds'))
 w'_13 w2 →
 Array.size (World.heap w2) =
 Array.size (World.heap w'_13) →
 ∃ (x : Bool),
 rd w2 (Array.size (World.heap w')) 0 =
 some (Value.bool x) ∧
 K (Value.bool x) w2)
 (Calls Proofs.Try.prog 18 #[Value.pointer x] w'_12
 fun (e : Ending) (w'_13 : World) =>
 ∃ (p : Option Addr),
 e = Ending.returned (Value.pointer p) ∧
 Wif (!Option.isNone p)
 (wr w'_13 (Array.size (World.heap w')) 0 ∧
 ∀ (w'_14 : World),
 w'_14 =
 st w'_13 (Array.size (World.heap w')) 0
 (Value.bool false) →
 DefsAt (Array.size (World.heap w'_8) :: ds')
 w'_14 ∧
 ∀ (w2 : World),
 Kept
 (fun (b : Nat) =>
 List.Mem b
 (Array.size (World.heap w'_8) :: ds'))
 w'_14 w2 →
 Array.size (World.heap w2) =
 Array.size (World.heap w'_14) →
 ∃ (x : Bool),
 rd w2 (Array.size (World.heap w')) 0 =
 some (Value.bool x) ∧
 K (Value.bool x) w2)
 (∃ (m : Nat),
 Nat.succ m ≤ n_1 ∧
 I (IntKind.wrap IntKind.i64 (n + 1))
 (Array.size (World.heap w'_8) :: ds') w'_13
 m)))))) ∧
 (∀ (Y : Nat → Prop) (W : World),
 X 0 Y W →
 DefAt (Array.size (World.heap w'_8)) W →
 DefsAt (Array.size (World.heap w'_8) :: ds') W ∧
 ∀ (w2 : World),
 Kept (fun (b : Nat) => List.Mem b (Array.size (World.heap w'_8) :: ds')) W w2 →
 Array.size (World.heap w2) = Array.size (World.heap W) →
 ∃ (x : Bool),
 rd w2 (Array.size (World.heap w')) 0 = some (Value.bool x) ∧ K (Value.bool x) w2) ∧
 True)
 False)
 (Calls Proofs.Try.prog 14 #[] w'_4 fun (e : Ending) (w'_5 : World) =>
 ∃ (b : Bool),
 e = Ending.returned (Value.bool b) ∧
 wr w'_5 (Array.size (World.heap w')) 0 ∧
 ∀ (w'_6 : World),
 w'_6 = st w'_5 (Array.size (World.heap w')) 0 (Value.bool b) →
 DefsAt ds' w'_6 ∧
 ∀ (w2 : World),
 Kept (fun (b : Nat) => List.Mem b ds') w'_6 w2 →
 Array.size (World.heap w2) = Array.size (World.heap w'_6) →
 ∃ (x : Bool), rd w2 (Array.size (World.heap w')) 0 = some (Value.bool x) ∧ K (Value.bool x) w2)
theorem vcE10 (x0 : Int) (x1 : Int) (x2 : Int) (x3 : Bool) (w : World) (K : Value → World → Prop) : vcP10 x0 x1 x2 x3 w K = Eng.wBody Go.Proofs.Try.prog (Eng.handOf Go.Proofs.Try.prog [44,
 27] 1) [] Go.Proofs.Try.f10 (Eng.bodyOf Go.Proofs.Try.f10) [Value.agg #[Value.int IntKind.i64 x0, Value.int IntKind.i64 x1, Value.int IntKind.i64 x2, Value.bool x3]] w K := by kernel_rfl
theorem vc10 (x0 : Int) (x1 : Int) (x2 : Int) (x3 : Bool) (w : World) (K : Value → World → Prop) (h : vcP10 x0 x1 x2 x3 w K) :
 Calls Go.Proofs.Try.prog 10 #[Value.agg #[Value.int IntKind.i64 x0, Value.int IntKind.i64 x1, Value.int IntKind.i64 x2, Value.bool x3]] w (fun e w' => ∃ v, e = .returned v ∧ K v w') :=
 Eng.vc_of [44, 27] 1 [] Go.Proofs.Try.mixes Go.Proofs.Try.func10 (by kernel_rfl) (by kernel_rfl) (vcE10 x0 x1 x2 x3 w K) h

-- 20184 ms

end Go.Proofs.Ytkmcmkimeibjdaa
