/-
  Printed by a program of this claim's author: the conditions of the seat's functions, each with the kernel's word that it is the engine's. Conditions: none.
-/
import Derived.Test.YtennnajgcpoepaaV1
import Derived.Test.YtennnajgcpoepaaEngU
namespace Go.Proofs.Ytennnajgcpoepaa
open Go Eng
set_option linter.unusedSimpArgs false
set_option linter.unusedVariables false

/-! ### the plain law: bits and sums -/
theorem or_nat (a b k : Nat) (hb : b < 2 ^ k) : (a * 2 ^ k) ||| b = a * 2 ^ k + b := by
  have := Nat.shiftLeft_add_eq_or_of_lt hb a
  rw [Nat.shiftLeft_eq] at this
  exact this.symm
theorem bv_nat {x : Int} (h0 : 0 ≤ x) (h1 : x < 18446744073709551616) : (BitVec.ofInt 64 x).toNat = x.toNat := by
  rw [BitVec.toNat_ofInt]
  have : ((2 ^ 64 : Nat) : Int) = 18446744073709551616 := by decide
  rw [this, Int.emod_eq_of_lt h0 h1]
theorem or_cast (m n M k : Nat) (hM : M = 2 ^ k) (hn : n < M) (hm : ((m * M + n : Nat) : Int) ≤ 18446744073709551615) :
    bitsI .or .u64 ((m * M : Nat) : Int) (n : Int) = ((m * M + n : Nat) : Int) := by
  have hx : (BitVec.ofInt 64 ((m * M : Nat) : Int) ||| BitVec.ofInt 64 (n : Int)).toNat = m * M + n := by
    rw [BitVec.toNat_or, bv_nat (by omega) (by omega), bv_nat (by omega) (by omega)]
    simp only [Int.toNat_natCast]
    subst hM
    exact or_nat m n k hn
  show IntKind.wrap .u64 _ = _
  have hx' : (BitVec.ofInt (IntKind.bits .u64) ((m * M : Nat) : Int) ||| BitVec.ofInt (IntKind.bits .u64) (n : Int)).toNat = m * M + n := hx
  rw [hx', wu ⟨by omega, hm⟩]
theorem or_int (a b : Int) (M k : Nat) (hM : M = 2 ^ k) (ha : 0 ≤ a) (hb : 0 ≤ b) (hk : b < M) (hm : a * M + b ≤ 18446744073709551615) :
    bitsI .or .u64 (a * M) b = a * M + b := by
  obtain ⟨m, rfl⟩ := Int.eq_ofNat_of_zero_le ha
  obtain ⟨n, rfl⟩ := Int.eq_ofNat_of_zero_le hb
  have e : ((m : Int) * (M : Int)) = ((m * M : Nat) : Int) := by rw [Int.natCast_mul]
  rw [e] at hm ⊢
  have := or_cast m n M k hM (by omega) (by rw [Int.natCast_add]; exact hm)
  rw [this, Int.natCast_add]

/-- bad arguments -/
def bad (t o0 o1 : Int) : Bool := decide (t < 1) || decide (t > 1099511627776) || decide (o0 < 0) || decide (o0 ≥ 1024) || decide (o1 < 0) || decide (o1 ≥ 32)
def mk (t o0 o1 : Int) : Int × Int := if bad t o0 o1 then (0, 2) else (t * 32768 + o0 * 32 + o1, 0)

theorem make_spec (t o0 o1 : Int) (w : World) : Calls Try.prog 7 #[.int .u64 t, .agg #[.int .i64 o0, .int .i64 o1]] w fun e w' =>
    e = .returned (.tuple #[.int .u64 (mk t o0 o1).1, .int .i64 (mk t o0 o1).2]) ∧ Kept none' w w' := by
  refine (vc7 t o0 o1 w (fun v w' => v = (.tuple #[.int .u64 (mk t o0 o1).1, .int .i64 (mk t o0 o1).2]) ∧ Kept none' w w') ?_).mono ?_
  · unfold vcP7
    simp
    refine ⟨o0, fun _ _ => rfl, o0, fun _ _ _ => rfl, o1, fun _ _ _ _ => rfl, o1, fun _ _ _ _ _ => rfl, ?_⟩
    refine Wif_intro (fun h => ?_) (fun h => ?_)
    · have hb : bad t o0 o1 = true := by simpa [bad] using h
      simp [mk, hb]
      exact (Kept.refl _ _).alloc _ _
    · have hb : bad t o0 o1 = false := by simpa [bad] using h
      simp at h
      have e1 := or_int t (o0 * 32) 32768 15 rfl (by omega) (by omega) (by omega) (by omega)
      have e2 := or_int (t * 1024 + o0) o1 32 5 rfl (by omega) (by omega) (by omega) (by omega)
      simp [mk, hb]
      refine ⟨?_, ((Kept.refl _ _).alloc _ _).drew⟩
      have f0 : IntKind.wrap .u64 o0 = o0 := wu (by omega)
      have f1 : IntKind.wrap .u64 o1 = o1 := wu (by omega)
      rw [f0, f1, wu (x := t * 32768) (by omega), wu (x := o0 * 32) (by omega), f1]
      simp at e1 e2
      rw [e1, show t * 32768 + o0 * 32 = (t * 1024 + o0) * 32 by omega, e2]
  · rintro e w' ⟨v, rfl, rfl, h⟩
    exact ⟨rfl, h⟩
theorem and_int (a : Int) (M k : Nat) (hM : M = 2 ^ k) (hM1 : (M : Int) ≤ 18446744073709551615) (ha : 0 ≤ a) (ha1 : a ≤ 18446744073709551615) :
    bitsI .and .u64 a ((M : Int) - 1) = a % M := by
  obtain ⟨m, rfl⟩ := Int.eq_ofNat_of_zero_le ha
  have hpos : 0 < M := by rw [hM]; exact Nat.two_pow_pos k
  have e : ((M : Int) - 1) = ((M - 1 : Nat) : Int) := by omega
  rw [e]
  have hx : (BitVec.ofInt 64 (m : Int) &&& BitVec.ofInt 64 ((M - 1 : Nat) : Int)).toNat = m % M := by
    rw [BitVec.toNat_and, bv_nat (by omega) (by omega), bv_nat (by omega) (by omega)]
    simp only [Int.toNat_natCast]
    subst hM
    exact Nat.and_two_pow_sub_one_eq_mod m k
  show IntKind.wrap .u64 _ = _
  have hx' : (BitVec.ofInt (IntKind.bits .u64) (m : Int) &&& BitVec.ofInt (IntKind.bits .u64) ((M - 1 : Nat) : Int)).toNat = m % M := hx
  have hlt : m % M ≤ m := Nat.mod_le m M
  rw [hx', wu ⟨by omega, by omega⟩, Int.natCast_emod]

def fld (f h : Int) : Int := if f = 0 then h % 32 else if f = 1 then h / 32 % 1024 else h / 32768
theorem of_spec (f h : Int) (w : World) (hf : f = 0 ∨ f = 1 ∨ f = 2) (h0 : 0 ≤ h) (h1 : h ≤ 18446744073709551615) :
    Calls Try.prog 13 #[.int .i64 f, .int .u64 h] w fun e w' => e = .returned (.int .u64 (fld f h)) ∧ Kept none' w w' := by
  refine (vc13 f h w (fun v w' => v = (.int .u64 (fld f h)) ∧ Kept none' w w') ?_).mono ?_
  · unfold vcP13
    rcases hf with rfl | rfl | rfl
    · simp [inB, fld]
      refine ⟨?_, Kept.refl _ _⟩
      have := and_int h 32 5 rfl (by omega) h0 h1
      rw [wu (x := 32) (by omega), wu (by omega)]
      exact this
    · simp [inB, fld]
      refine ⟨?_, Kept.refl _ _⟩
      have := and_int (h / 32) 1024 10 rfl (by omega) (by omega) (by omega)
      rw [wu (x := 1024) (by omega), wu (by omega), Int.fdiv_eq_ediv_of_nonneg _ (by omega)]
      exact this
    · simp [inB, fld]
      refine ⟨?_, Kept.refl _ _⟩
      have := and_int (h / 32768) 562949953421312 49 rfl (by omega) (by omega) (by omega)
      rw [wu (x := 562949953421312) (by omega), wu (by omega), Int.fdiv_eq_ediv_of_nonneg _ (by omega)]
      refine Eq.trans this ?_
      show h / 32768 % 562949953421312 = h / 32768
      omega
  · rintro e w' ⟨v, rfl, rfl, h⟩
    exact ⟨rfl, h⟩

/-- what a number is the handle of -/
def bt (h : Int) : Bool := decide (h / 32768 < 1) || decide (h / 32768 > 1099511627776)
def rdH (h : Int) : Int × Int × Int × Int := if bt h then (0, 0, 0, 120) else (h / 32768, h / 32 % 1024, h % 32, 0)
theorem read_spec (h : Int) (w : World) (h0 : 0 ≤ h) (h1 : h ≤ 18446744073709551615) :
    Calls Try.prog 9 #[.int .u64 h] w fun e w' => e = .returned (.tuple #[.int .u64 (rdH h).1, .agg #[.int .i64 (rdH h).2.1, .int .i64 (rdH h).2.2.1], .int .i64 (rdH h).2.2.2]) ∧ Kept none' w w' := by
  refine (vc9 h w (fun v w' => v = (.tuple #[.int .u64 (rdH h).1, .agg #[.int .i64 (rdH h).2.1, .int .i64 (rdH h).2.2.1], .int .i64 (rdH h).2.2.2]) ∧ Kept none' w w') ?_).mono ?_
  · unfold vcP9
    intro w1 e1
    have o1 : own w1 w.heap.size [.int .i64 0, .int .i64 0] := e1 ▸ own_new _ _ _
    have k1 : Kept none' w w1 := e1 ▸ (Kept.refl _ _).alloc _ _
    clear e1
    refine (of_spec 2 h _ (by omega) h0 h1).mono ?_
    rintro _ w2 ⟨rfl, k2⟩
    refine ⟨_, rfl, (of_spec 1 h _ (by omega) h0 h1).mono ?_⟩
    rintro _ w3 ⟨rfl, k3⟩
    refine ⟨_, rfl, (of_spec 0 h _ (by omega) h0 h1).mono ?_⟩
    rintro _ w4 ⟨rfl, k4⟩
    refine ⟨_, rfl, ?_⟩
    have o4 := ((o1.kept k2 id).kept k3 id).kept k4 id
    have k5 : Kept none' w w4 := ((k1.trans k2 (fun _ _ h => h)).trans k3 (fun _ _ h => h)).trans k4 (fun _ _ h => h)
    clear k1 k2 k3 k4 o1
    intro w5 e5
    have o5 : own w5 _ _ := e5 ▸ o4.alloc _
    have p5 : own w5 _ _ := e5 ▸ own_new w4 _ _
    have k6 : Kept none' w w5 := e5 ▸ k5.alloc _ _
    have hne : w4.heap.size ≠ w.heap.size := Ne.symm o4.ne_new
    have hle : w.heap.size ≤ w4.heap.size := k5.sz
    clear e5 o4 k5
    generalize w4.heap.size = b4 at *
    have w50 := o5.wrs
    have w51 := p5.wrs
    refine ⟨⟨p5.wr (by simp), p5.wr (by simp)⟩, ?_⟩
    intro w6 e6
    subst e6
    refine Wif_intro (fun hb => ?_) (fun hb => ?_)
    · refine ⟨⟨wr_st_of (wr_st_of (o5.wr (by simp))), wr_st_of (wr_st_of (o5.wr (by simp)))⟩, ?_⟩
      intro w7 e7
      subst e7
      have hb' : bt h = true := by simpa [bt, fld] using hb
      simp [rd_st, o5.rd, p5.rd, hne, Ne.symm hne, rdH, hb']
      exact ⟨_, _, ⟨rfl, rfl⟩, ⟨rfl, rfl⟩, (((k6.st (.inr hle)).st (.inr hle)).st (.inr (Nat.le_refl _))).st (.inr (Nat.le_refl _))⟩
    · intro w7 e7
      subst e7
      have hb' : bt h = false := by simpa [bt, fld] using hb
      have g1 : IntKind.wrap .i64 (fld 1 h) = h / 32 % 1024 := wi (by simp [fld]; omega)
      have g2 : IntKind.wrap .i64 (fld 0 h) = h % 32 := wi (by simp [fld]; omega)
      rw [g1, g2]
      refine ⟨_, _, ⟨by simp [rd_st, o5.rd, p5.rd, hne, Ne.symm hne]; rfl, by simp [rd_st, o5.rd, p5.rd, hne, Ne.symm hne]; rfl⟩, ⟨?_, ?_⟩, ?_⟩
      · rw [wr_drew]; exact wr_st_of (wr_st_of (w50 0 (by simp)))
      · rw [wr_drew]; exact wr_st_of (wr_st_of (w50 1 (by simp)))
      intro w8 e8
      subst e8
      simp [rd_st, o5.rd, p5.rd, hne, Ne.symm hne, rdH, hb', fld]
      exact ⟨_, _, ⟨rfl, rfl⟩, ⟨rfl, rfl⟩, ((((k6.st (.inr hle)).st (.inr hle)).drew).st (.inr (Nat.le_refl _))).st (.inr (Nat.le_refl _))⟩
  · rintro e w' ⟨v, rfl, rfl, h⟩
    exact ⟨rfl, h⟩

theorem mkR_spec (t o0 o1 : Int) (w : World) : Calls Try.prog 8 #[.int .u64 t, .agg #[.int .i64 o0, .int .i64 o1]] w fun e w' =>
    e = .returned (.tuple #[.int .u64 (mk t o0 o1).1, .int .i64 (mk t o0 o1).2]) ∧ Kept none' w w' := by
  refine (vc8 t o0 o1 w (fun v w' => v = (.tuple #[.int .u64 (mk t o0 o1).1, .int .i64 (mk t o0 o1).2]) ∧ Kept none' w w') ?_).mono ?_
  · unfold vcP8
    rintro _ rfl
    simp
    refine ⟨o0, fun _ _ => rfl, o0, fun _ _ _ => rfl, o1, fun _ _ _ _ => rfl, o1, fun _ _ _ _ _ => rfl, ?_⟩
    refine Wif_intro (fun h => ?_) (fun h => ?_)
    · have hb : bad t o0 o1 = true := by simp [bad] at h ⊢; omega
      simp [mk, hb]
      exact (Kept.refl _ _).alloc _ _
    · have hb : bad t o0 o1 = false := by simp [bad] at h ⊢; omega
      simp at h
      simp [mk, hb]
      refine ⟨?_, (Kept.refl _ _).alloc _ _⟩
      have f0 : IntKind.wrap .u64 o0 = o0 := wu (by omega)
      have f1 : IntKind.wrap .u64 o1 = o1 := wu (by omega)
      rw [f0, f1, wu (x := t * 32768) (by omega), wu (x := o0 * 32) (by omega), wu (x := t * 32768 + o0 * 32) (by omega), wu (by omega)]
  · rintro e w' ⟨v, rfl, rfl, h⟩
    exact ⟨rfl, h⟩

theorem readR_spec (h : Int) (w : World) (h0 : 0 ≤ h) (h1 : h ≤ 18446744073709551615) :
    Calls Try.prog 10 #[.int .u64 h] w fun e w' => e = .returned (.tuple #[.int .u64 (rdH h).1, .agg #[.int .i64 (rdH h).2.1, .int .i64 (rdH h).2.2.1], .int .i64 (rdH h).2.2.2]) ∧ Kept none' w w' := by
  refine (vc10 h w (fun v w' => v = (.tuple #[.int .u64 (rdH h).1, .agg #[.int .i64 (rdH h).2.1, .int .i64 (rdH h).2.2.1], .int .i64 (rdH h).2.2.2]) ∧ Kept none' w w') ?_).mono ?_
  · unfold vcP10
    intro w1 e1
    have o1 := own_alloc e1
    have k1 := (Kept.refl none' w).al e1
    clear e1
    intro w2 e2
    have p2 := own_alloc e2
    have o2 := o1.al e2
    have k2 := k1.al e2
    have hne : w.heap.size ≠ w1.heap.size := o1.ne_new
    have hle : w.heap.size ≤ w1.heap.size := k1.sz
    clear e2 o1 k1
    generalize w1.heap.size = b at *
    have g0 : IntKind.wrap .u64 (Int.tdiv h 32768) = h / 32768 := by rw [Int.tdiv_eq_ediv_of_nonneg h0]; exact wu (by omega)
    have g1 : IntKind.wrap .i64 (IntKind.wrap .u64 (Int.tdiv (Int.tmod h 32768) 32)) = h / 32 % 1024 := by
      rw [Int.tmod_eq_emod_of_nonneg h0, Int.tdiv_eq_ediv_of_nonneg (by omega), wu (by omega), wi (by omega)]; omega
    have g2 : IntKind.wrap .i64 (Int.tmod h 32) = h % 32 := by rw [Int.tmod_eq_emod_of_nonneg h0, wi (by omega)]
    rw [g0, g1, g2]
    refine ⟨⟨p2.wr (by simp), p2.wr (by simp)⟩, ?_⟩
    intro w3 e3
    have p3 := p2.s2 e3
    have o3 := o2.n2 e3 hne
    have k3 := k2.s2 e3 (.inr hle)
    clear e3 p2 o2 k2
    simp at p3
    refine ⟨h / 32 % 1024, h % 32, by simp [p3.rd], ?_⟩
    refine (mkR_spec _ _ _ _).mono ?_
    rintro _ w4 ⟨rfl, k⟩
    have p4 := p3.k k
    have o4 := o3.k k
    have k4 := k3.tr k
    clear k p3 o3 k3
    refine ⟨_, _, rfl, ?_⟩
    refine Wif_intro (fun hb => ?_) (fun hb => ?_)
    · have hb' : bt h = true := by
        by_cases hx : bad (h / 32768) (h / 32 % 1024) (h % 32) = true
        · simp [bad] at hx; simp [bt]; omega
        · simp [mk, hx] at hb
      refine ⟨⟨o4.wr (by simp), o4.wr (by simp)⟩, ?_⟩
      intro w5 e5
      have o5 := o4.s2 e5
      have k5 := k4.s2 e5 (.inr (Nat.le_refl _))
      simp at o5
      refine ⟨0, 0, by simp [o5.rd], by simp [rdH, hb'], k5⟩
    · have hb' : bt h = false := by
        by_cases hx : bad (h / 32768) (h / 32 % 1024) (h % 32) = true
        · simp [mk, hx] at hb
        · simp [bad] at hx; simp [bt]; omega
      intro w5 e5
      have p5 := p4.dr e5
      have o5 := o4.dr e5
      have k5 := k4.dr e5
      clear e5 p4 o4 k4
      refine ⟨h / 32 % 1024, h % 32, by simp [p5.rd], ⟨o5.wr (by simp), o5.wr (by simp)⟩, ?_⟩
      intro w6 e6
      have o6 := o5.s2 e6
      have k6 := k5.s2 e6 (.inr (Nat.le_refl _))
      simp at o6
      refine ⟨h / 32 % 1024, h % 32, by simp [o6.rd], by simp [rdH, hb'], k6⟩
  · rintro e w' ⟨v, rfl, rfl, h⟩
    exact ⟨rfl, h⟩
theorem known_spec (w : World) : Calls Try.prog 11 #[] w fun e w' => e = .returned (.bool true) ∧ Kept none' w w' := by
  refine (vc11 w (fun v w' => v = .bool true ∧ Kept none' w w') ?_).mono ?_
  · unfold vcP11
    refine (make_spec _ _ _ _).mono ?_
    rintro _ w1 ⟨rfl, k1⟩
    refine ⟨_, _, rfl, ?_⟩
    refine (read_spec _ _ (by omega) (by omega)).mono ?_
    rintro _ w2 ⟨rfl, k2⟩
    refine ⟨_, _, _, _, rfl, ?_⟩
    intro w3 e3
    have p3 := own_alloc e3
    have k3 := (k1.tr k2).al e3
    have hle : w.heap.size ≤ w2.heap.size := (k1.tr k2).sz
    generalize w2.heap.size = b at *
    refine ⟨⟨p3.wr (by simp), p3.wr (by simp)⟩, ?_⟩
    intro w4 e4
    have p4 := p3.s2 e4
    have k4 := k3.s2 e4 (.inr hle)
    refine (read_spec _ _ (by omega) (by omega)).mono ?_
    rintro _ w5 ⟨rfl, k⟩
    refine ⟨_, _, _, _, rfl, ?_⟩
    have p5 := p4.k k
    have k5 := k4.tr k
    simp at p5
    clear e3 e4 p3 p4 k k4 k3
    intro w6 e6
    have p6 := p5.al e6
    have q6 := own_alloc e6
    have k6 := k5.al e6
    have hle2 : w.heap.size ≤ w5.heap.size := k5.sz
    have hne : b ≠ w5.heap.size := p5.ne_new
    generalize w5.heap.size = c at *
    refine ⟨⟨q6.wr (by simp), q6.wr (by simp)⟩, ?_⟩
    intro w7 e7
    have p7 := p6.n2 e7 hne
    have k7 := k6.s2 e7 (.inr hle2)
    have r1 : rdH 98369 = (3, 2, 1, 0) := by decide
    have r2 : mk 3 2 1 = (98369, 0) := by decide
    have r3 : rdH 32767 = (0, 0, 0, 120) := by decide
    rw [r1] at p7
    refine ⟨2, 1, fun _ => by simp [p7.rd], ?_, k7⟩
    rw [r1, r2, r3]
    rfl
  · rintro e w' ⟨v, rfl, rfl, h⟩
    exact ⟨rfl, h⟩
/-- the last call of each law -/
theorem fin_known {w0 w : World} (k : Kept none' w0 w) : Calls Try.prog 11 #[] w fun e w' => ∃ b : Bool, e = .returned (.bool b) ∧ (Value.bool b = .bool true ∧ Kept none' w0 w') := by
  refine (known_spec w).mono ?_
  rintro _ w' ⟨rfl, k'⟩
  exact ⟨true, rfl, rfl, k.tr k'⟩

theorem makes_law (t o0 o1 h : Int) (w : World) (h0 : 0 ≤ h) (h1 : h ≤ 18446744073709551615) :
    Calls Try.prog 3 #[.int .u64 t, .agg #[.int .i64 o0, .int .i64 o1], .int .u64 h] w fun e w' => e = .returned (.bool true) ∧ Kept none' w w' := by
  refine (vc3 t o0 o1 h w (fun v w' => v = .bool true ∧ Kept none' w w') ?_).mono ?_
  · unfold vcP3
    intro w1 e1
    have o := own_alloc e1
    have k := (Kept.refl none' w).al e1
    clear e1
    refine ⟨o0, o1, by simp [o.rd], (make_spec _ _ _ _).mono ?_⟩
    rintro _ w2 ⟨rfl, kc⟩
    replace o := o.k kc
    replace k := k.tr kc
    clear kc
    refine ⟨_, _, rfl, o0, o1, by simp [o.rd], (mkR_spec _ _ _ _).mono ?_⟩
    rintro _ w3 ⟨rfl, kc⟩
    replace k := k.tr kc
    clear kc o
    refine ⟨_, _, rfl, (read_spec _ _ h0 h1).mono ?_⟩
    rintro _ w4 ⟨rfl, kc⟩
    replace k := k.tr kc
    clear kc
    refine ⟨_, _, _, _, rfl, ?_⟩
    intro w5 e5
    have p := own_alloc e5
    have hle : w.heap.size ≤ w4.heap.size := k.sz
    replace k := k.al e5
    clear e5
    generalize w4.heap.size = b at *
    refine ⟨⟨p.wr (by simp), p.wr (by simp)⟩, ?_⟩
    intro w6 e6
    replace p := p.s2 e6
    replace k := k.s2 e6 (.inr hle)
    clear e6
    refine (readR_spec _ _ h0 h1).mono ?_
    rintro _ w7 ⟨rfl, kc⟩
    replace p := p.k kc
    replace k := k.tr kc
    clear kc
    refine ⟨_, _, _, _, rfl, ?_⟩
    intro w8 e8
    have q := own_alloc e8
    have hne : b ≠ w7.heap.size := p.ne_new
    replace p := p.al e8
    have hle2 : w.heap.size ≤ w7.heap.size := k.sz
    replace k := k.al e8
    clear e8
    generalize w7.heap.size = c at *
    refine ⟨⟨q.wr (by simp), q.wr (by simp)⟩, ?_⟩
    intro w9 e9
    replace q := q.s2 e9
    replace p := p.n2 e9 hne
    replace k := k.s2 e9 (.inr hle2)
    simp at p q
    refine ⟨_, _, fun _ => ⟨by rw [p.rd]; rfl, by rw [p.rd]; rfl⟩, _, _, fun _ => ⟨by rw [q.rd]; rfl, by rw [q.rd]; rfl⟩, ?_⟩
    exact Wif_yes (by simp) (fin_known k)
  · rintro e w' ⟨v, rfl, rfl, h⟩
    exact ⟨rfl, h⟩

theorem mk_ok {t o0 o1 : Int} (h : bad t o0 o1 = false) : mk t o0 o1 = (t * 32768 + o0 * 32 + o1, 0) := by simp [mk, h]
theorem mk_no {t o0 o1 : Int} (h : bad t o0 o1 = true) : mk t o0 o1 = (0, 2) := by simp [mk, h]
theorem rdH_mk {t o0 o1 : Int} (h : bad t o0 o1 = false) : rdH (t * 32768 + o0 * 32 + o1) = (t, o0, o1, 0) := by
  simp [bad] at h
  have e1 : (t * 32768 + o0 * 32 + o1) / 32768 = t := by omega
  have e2 : (t * 32768 + o0 * 32 + o1) / 32 % 1024 = o0 := by omega
  have e3 : (t * 32768 + o0 * 32 + o1) % 32 = o1 := by omega
  have hb : bt (t * 32768 + o0 * 32 + o1) = false := by simp [bt, e1]; omega
  simp [rdH, hb, e1, e2, e3]
theorem mk_rdH {h : Int} (hb : bt h = false) : mk (h / 32768) (h / 32 % 1024) (h % 32) = (h, 0) := by
  have hbb : bad (h / 32768) (h / 32 % 1024) (h % 32) = false := by simp [bt] at hb; simp [bad]; omega
  rw [mk_ok hbb]
  simp
  omega

/-- the second half of HandlesBack: what is read makes it again -/
theorem back2 {w0 w : World} (k : Kept none' w0 w) (h : Int) (h0 : 0 ≤ h) (h1 : h ≤ 18446744073709551615) :
    Calls Try.prog 9 #[Value.int IntKind.u64 h] w fun (e : Ending) (w' : World) =>
      ∃ (n : Int), ∃ (n_2 : Int), ∃ (n_3 : Int), ∃ (n_4 : Int),
        e = Ending.returned (Value.tuple #[Value.int IntKind.u64 n, Value.agg #[Value.int IntKind.i64 n_2, Value.int IntKind.i64 n_3], Value.int IntKind.i64 n_4]) ∧
          ∀ (w'_1 : World), w'_1 = World.alloc w' (Obj.cells #[Value.int IntKind.i64 0, Value.int IntKind.i64 0] 24) →
            (wr w'_1 (Array.size (World.heap w')) 0 ∧ wr w'_1 (Array.size (World.heap w')) 1) ∧
              ∀ (w'_2 : World), w'_2 = st (st w'_1 (Array.size (World.heap w')) 0 (Value.int IntKind.i64 n_2)) (Array.size (World.heap w')) 1 (Value.int IntKind.i64 n_3) →
                Wif (n_4 == 0)
                  (∃ (x : Int), ∃ (x_2 : Int),
                    (rd w'_2 (Array.size (World.heap w')) 0 = some (Value.int IntKind.i64 x) ∧ rd w'_2 (Array.size (World.heap w')) 1 = some (Value.int IntKind.i64 x_2)) ∧
                      Calls Try.prog 7 #[Value.int IntKind.u64 n, Value.agg #[Value.int IntKind.i64 x, Value.int IntKind.i64 x_2]] w'_2 fun (e : Ending) (w' : World) =>
                        ∃ (n : Int), ∃ (n_5 : Int), e = Ending.returned (Value.tuple #[Value.int IntKind.u64 n, Value.int IntKind.i64 n_5]) ∧
                            Wif (n_5 == 0 && n == h)
                              (Calls Try.prog 11 #[] w' fun (e : Ending) (w' : World) => ∃ (b : Bool), e = Ending.returned (Value.bool b) ∧ (Value.bool b = .bool true ∧ Kept none' w0 w'))
                              (Value.bool false = .bool true ∧ Kept none' w0 w'))
                  (∃ (x : Int), ∃ (x_2 : Int),
                    ((n_4 == 120 && n == 0) = true → rd w'_2 (Array.size (World.heap w')) 0 = some (Value.int IntKind.i64 x) ∧ rd w'_2 (Array.size (World.heap w')) 1 = some (Value.int IntKind.i64 x_2)) ∧
                      Wif (n_4 == 120 && n == 0 && (x == 0 && (x_2 == 0 && true)))
                        (Calls Try.prog 11 #[] w'_2 fun (e : Ending) (w' : World) => ∃ (b : Bool), e = Ending.returned (Value.bool b) ∧ (Value.bool b = .bool true ∧ Kept none' w0 w'))
                        (Value.bool false = .bool true ∧ Kept none' w0 w'_2)) := by
  refine (read_spec _ _ h0 h1).mono ?_
  rintro _ w4 ⟨rfl, kc⟩
  replace k := k.tr kc
  clear kc
  refine ⟨_, _, _, _, rfl, ?_⟩
  intro w5 e5
  have p := own_alloc e5
  have hle : w0.heap.size ≤ w4.heap.size := k.sz
  replace k := k.al e5
  clear e5
  generalize w4.heap.size = b at *
  refine ⟨⟨p.wr (by simp), p.wr (by simp)⟩, ?_⟩
  intro w6 e6
  replace p := p.s2 e6
  replace k := k.s2 e6 (.inr hle)
  clear e6
  simp at p
  cases hb : bt h with
  | true =>
    have hr : rdH h = (0, 0, 0, 120) := by simp [rdH, hb]
    rw [hr] at p ⊢
    refine Wif_no (by simp) ⟨0, 0, fun _ => by simp [p.rd], Wif_yes (by simp) (fin_known k)⟩
  | false =>
    have hr : rdH h = (h / 32768, h / 32 % 1024, h % 32, 0) := by simp [rdH, hb]
    rw [hr] at p ⊢
    refine Wif_yes (by simp) ⟨_, _, ⟨by rw [p.rd]; rfl, by rw [p.rd]; rfl⟩, (make_spec _ _ _ _).mono ?_⟩
    rintro _ w7 ⟨rfl, kc⟩
    have hm := mk_rdH hb
    refine ⟨_, _, rfl, Wif_yes ?_ (fin_known (k.tr kc))⟩
    simp [hm]

theorem back_law (t o0 o1 h : Int) (w : World) (h0 : 0 ≤ h) (h1 : h ≤ 18446744073709551615) :
    Calls Try.prog 4 #[.int .u64 t, .agg #[.int .i64 o0, .int .i64 o1], .int .u64 h] w fun e w' => e = .returned (.bool true) ∧ Kept none' w w' := by
  refine (vc4 t o0 o1 h w (fun v w' => v = .bool true ∧ Kept none' w w') ?_).mono ?_
  · unfold vcP4
    intro w1 e1
    have o := own_alloc e1
    have k := (Kept.refl none' w).al e1
    clear e1
    refine ⟨o0, o1, by simp [o.rd], (make_spec _ _ _ _).mono ?_⟩
    rintro _ w2 ⟨rfl, kc⟩
    replace o := o.k kc
    replace k := k.tr kc
    clear kc
    refine ⟨_, _, rfl, ?_⟩
    cases hb : bad t o0 o1 with
    | true =>
      rw [mk_no hb]
      exact Wif_no (by simp) (back2 k h h0 h1)
    | false =>
      rw [mk_ok hb]
      have hr := rdH_mk hb
      simp [bad] at hb
      refine Wif_yes (by simp) ((read_spec _ _ (by simp; omega) (by simp; omega)).mono ?_)
      rintro _ w3 ⟨rfl, kc⟩
      replace o := o.k kc
      replace k := k.tr kc
      clear kc
      rw [hr]
      refine ⟨_, _, _, _, rfl, ?_⟩
      intro w4 e4
      have p := own_alloc e4
      have hne : w.heap.size ≠ w3.heap.size := o.ne_new
      replace o := o.al e4
      have hle : w.heap.size ≤ w3.heap.size := k.sz
      replace k := k.al e4
      clear e4
      generalize w3.heap.size = b at *
      refine ⟨⟨p.wr (by simp), p.wr (by simp)⟩, ?_⟩
      intro w5 e5
      replace p := p.s2 e5
      replace o := o.n2 e5 hne
      replace k := k.s2 e5 (.inr hle)
      clear e5
      simp at p
      refine ⟨_, _, fun _ => ⟨by rw [p.rd]; rfl, by rw [p.rd]; rfl⟩, _, _, fun _ => ⟨by rw [o.rd]; rfl, by rw [o.rd]; rfl⟩, ?_⟩
      refine Wif_no ?_ (back2 k h h0 h1)
      simp
      omega
  · rintro e w' ⟨v, rfl, rfl, h⟩
    exact ⟨rfl, h⟩

theorem rise_law (a b o0 o1 p0 p1 : Int) (w : World) :
    Calls Try.prog 5 #[.int .u64 a, .int .u64 b, .agg #[.int .i64 o0, .int .i64 o1], .agg #[.int .i64 p0, .int .i64 p1]] w fun e w' => e = .returned (.bool true) ∧ Kept none' w w' := by
  refine (vc5 a b o0 o1 p0 p1 w (fun v w' => v = .bool true ∧ Kept none' w w') ?_).mono ?_
  · unfold vcP5
    intro w1 e1
    have o := own_alloc e1
    have k := (Kept.refl none' w).al e1
    clear e1
    intro w2 e2
    have p := own_alloc e2
    replace o := o.al e2
    replace k := k.al e2
    clear e2
    generalize w1.heap.size = c at *
    refine ⟨o0, o1, by simp [o.rd], (make_spec _ _ _ _).mono ?_⟩
    rintro _ w3 ⟨rfl, kc⟩
    replace o := o.k kc
    replace p := p.k kc
    replace k := k.tr kc
    clear kc
    refine ⟨_, _, rfl, p0, p1, by simp [p.rd], (make_spec _ _ _ _).mono ?_⟩
    rintro _ w4 ⟨rfl, kc⟩
    replace o := o.k kc
    replace p := p.k kc
    replace k := k.tr kc
    clear kc
    refine ⟨_, _, rfl, ?_⟩
    cases hb : bad a o0 o1 with
    | true => rw [mk_no hb]; exact Wif_yes (by simp) (fin_known k)
    | false =>
      cases hc : bad b p0 p1 with
      | true => rw [mk_no hc]; exact Wif_yes (by simp) (fin_known k)
      | false =>
        rw [mk_ok hb, mk_ok hc]
        simp [bad] at hb hc
        refine Wif_no (by simp) ?_
        refine Wif_intro (fun h => Wif_yes ?_ (fin_known k)) (fun h => ?_)
        · simp at h ⊢; omega
        refine Wif_intro (fun h' => Wif_yes ?_ (fin_known k)) (fun h' => ?_)
        · simp at h' ⊢; omega
        have hab : a = b := by simp at h h'; omega
        subst hab
        refine ⟨_, _, ⟨by rw [o.rd]; rfl, by rw [o.rd]; rfl⟩, _, _, ⟨by rw [p.rd]; rfl, by rw [p.rd]; rfl⟩, Wif_yes ?_ (fin_known k)⟩
        rw [beq_iff_eq, Bool.eq_iff_iff]
        simp
        omega
  · rintro e w' ⟨v, rfl, rfl, h⟩
    exact ⟨rfl, h⟩

theorem next_law (t o0 o1 : Int) (w : World) :
    Calls Try.prog 6 #[.int .u64 t, .agg #[.int .i64 o0, .int .i64 o1]] w fun e w' => e = .returned (.bool true) ∧ Kept none' w w' := by
  refine (vc6 t o0 o1 w (fun v w' => v = .bool true ∧ Kept none' w w') ?_).mono ?_
  · unfold vcP6
    intro w1 e1
    have o := own_alloc e1
    have k := (Kept.refl none' w).al e1
    clear e1
    refine ⟨o0, o1, by simp [o.rd], (make_spec _ _ _ _).mono ?_⟩
    rintro _ w3 ⟨rfl, kc⟩
    replace o := o.k kc
    replace k := k.tr kc
    clear kc
    refine ⟨_, _, rfl, o0, o1, by simp [o.rd], (make_spec _ _ _ _).mono ?_⟩
    rintro _ w4 ⟨rfl, kc⟩
    replace o := o.k kc
    replace k := k.tr kc
    clear kc
    refine ⟨_, _, rfl, o0, by simp [o.rd], o1, by simp [o.rd], (make_spec _ _ _ _).mono ?_⟩
    rintro _ w5 ⟨rfl, kc⟩
    replace o := o.k kc
    replace k := k.tr kc
    clear kc
    refine ⟨_, _, rfl, o0, by simp [o.rd], o1, by simp [o.rd], (make_spec _ _ _ _).mono ?_⟩
    rintro _ w6 ⟨rfl, kc⟩
    replace k := k.tr kc
    clear kc o
    refine ⟨_, _, rfl, ?_⟩
    cases hb : bad t o0 o1 with
    | true => rw [mk_no hb]; exact Wif_yes (by simp) (fin_known k)
    | false =>
      rw [mk_ok hb]
      simp [bad] at hb
      rw [wu (x := t + 1) (by omega), wi (x := o1 + 1) (by omega), wi (x := o0 + 1) (by omega)]
      refine Wif_no (by simp) (Wif_yes ?_ (fin_known k))
      have h1 : ((mk (t + 1) o0 o1).2 != 0 || IntKind.wrap .u64 ((mk (t + 1) o0 o1).1 - (t * 32768 + o0 * 32 + o1)) == 32768) = true := by
        cases hc : bad (t + 1) o0 o1 with
        | true => rw [mk_no hc]; simp
        | false =>
          rw [mk_ok hc, show (t + 1) * 32768 + o0 * 32 + o1 - (t * 32768 + o0 * 32 + o1) = 32768 by omega, wu (by omega)]
          simp
      have h2 : ((mk t o0 (o1 + 1)).2 != 0 || IntKind.wrap .u64 ((mk t o0 (o1 + 1)).1 - (t * 32768 + o0 * 32 + o1)) == 1) = true := by
        cases hc : bad t o0 (o1 + 1) with
        | true => rw [mk_no hc]; simp
        | false =>
          rw [mk_ok hc, show t * 32768 + o0 * 32 + (o1 + 1) - (t * 32768 + o0 * 32 + o1) = 1 by omega, wu (by omega)]
          simp
      have h3 : ((mk t (o0 + 1) o1).2 != 0 || IntKind.wrap .u64 ((mk t (o0 + 1) o1).1 - (t * 32768 + o0 * 32 + o1)) == 32) = true := by
        cases hc : bad t (o0 + 1) o1 with
        | true => rw [mk_no hc]; simp
        | false =>
          rw [mk_ok hc, show t * 32768 + (o0 + 1) * 32 + o1 - (t * 32768 + o0 * 32 + o1) = 32 by omega, wu (by omega)]
          simp
      rw [h1, h2, h3]
      rfl
  · rintro e w' ⟨v, rfl, rfl, h⟩
    exact ⟨rfl, h⟩

end Go.Proofs.Ytennnajgcpoepaa
