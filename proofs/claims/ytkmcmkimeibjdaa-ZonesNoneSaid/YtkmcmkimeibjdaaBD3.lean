/-
  A part of a proof that a law of this seat returns true at every input. Conditions: those in each theorem.
-/
import Derived.Test.YtkmcmkimeibjdaaBD1
namespace Go.Proofs.Ytkmcmkimeibjdaa
open Go Eng
set_option linter.unusedSimpArgs false
set_option linter.unusedVariables false
set_option maxRecDepth 100000
def freeOf (s : Bst) : Nat → Nat
  | 0 => 0
  | o + 1 => freeOf s o + (s.F o).length * 2 ^ o
theorem freeOf_le {s : Bst} (hs : Small s) : ∀ k, k ≤ 11 → freeOf s k ≤ k * 1024000000
  | 0, _ => Nat.zero_le _
  | o + 1, h => by
    have ih := freeOf_le hs o (by omega)
    have h1 := hs o (by omega)
    have h2 : 2 ^ o ≤ 2 ^ 10 := Nat.pow_le_pow_right (by omega) (by omega)
    have h3 : (s.F o).length * 2 ^ o ≤ 1000000 * 2 ^ 10 := Nat.mul_le_mul h1 h2
    unfold freeOf
    omega
theorem shl_small {x o : Nat} (hx : x ≤ 1000000) (ho : o < 11) : IntKind.wrap .i64 ((x : Int) * 2 ^ min (Int.toNat (o : Int)) 64) = ((x * 2 ^ o : Nat) : Int) := by
  have h2 : 2 ^ o ≤ 2 ^ 10 := Nat.pow_le_pow_right (by omega) (by omega)
  have h3 : x * 2 ^ o ≤ 1000000 * 2 ^ 10 := Nat.mul_le_mul hx h2
  rw [Int.toNat_natCast, Nat.min_eq_left (by omega), show ((x : Int) * 2 ^ o) = ((x * 2 ^ o : Nat) : Int) by simp]
  rw [wi (by omega)]
section
variable {w w' : World} {b t : Nat} {m : Nat → Nat} {s : Bst}
theorem free_spec (h : BAt w b m t s) (hs : Small s) : Calls Try.prog 19 #[ptr b] w fun r w' => r = .returned (.int .i64 (freeOf s 11)) ∧ w' = w := by
  refine (vc19 _ w (fun v w' => v = .int .i64 (freeOf s 11) ∧ w' = w) ?_).mono ?_
  · unfold vcP19
    simp only [isP_some, Wif_true, gIf_true, pb_some, po_some, Nat.zero_add]
    refine ⟨_, fun _ => h.r12, Wif_no rfl ?_⟩
    refine ⟨_, _, _, _, _, _, _, _, _, _, _, ⟨h.rm (o := 0) (by omega), h.rm (o := 1) (by omega), h.rm (o := 2) (by omega), h.rm (o := 3) (by omega), h.rm (o := 4) (by omega), h.rm (o := 5) (by omega), h.rm (o := 6) (by omega), h.rm (o := 7) (by omega), h.rm (o := 8) (by omega), h.rm (o := 9) (by omega), h.rm (o := 10) (by omega)⟩, ?_⟩
    refine ⟨fun a k w' n => w' = w ∧ ∃ q : Nat, k = q ∧ q ≤ 11 ∧ n = 11 - q ∧ a = (freeOf s q : Nat), ⟨11, rfl, 0, rfl, by omega, rfl, rfl⟩, ?_⟩
    rintro _ k w1 n ⟨rfl, q, rfl, hq, rfl, rfl⟩
    refine Wif_intro (fun hc => ?_) (fun hc => ?_)
    · have hq0 : q < 11 := by simp at hc; omega
      refine Wif_yes (inB_of (by omega) (by omega)) ⟨some (m q), ?_, _, h.len hs hq0, Wif_yes (by simp) ⟨11 - (q + 1), by omega, rfl, q + 1, by rw [wi (by omega)]; rfl, by omega, rfl, ?_⟩⟩
      · rw [Int.toNat_natCast, Nat.mul_one]
        match q, hq0 with
        | 0, _ | 1, _ | 2, _ | 3, _ | 4, _ | 5, _ | 6, _ | 7, _ | 8, _ | 9, _ | 10, _ => rfl
      · have h1 := freeOf_le hs (q + 1) (by omega)
        rw [shl_small (hs q hq0) hq0]
        have e1 : freeOf s (q + 1) = freeOf s q + (s.F q).length * 2 ^ q := rfl
        rw [e1] at h1 ⊢
        rw [wi (by omega)]
        omega
    · have hq0 : q = 11 := by simp at hc; omega
      subst hq0
      exact ⟨rfl, rfl⟩
  · rintro e w' ⟨v, rfl, rfl, hw⟩
    exact ⟨rfl, hw⟩
end
end Go.Proofs.Ytkmcmkimeibjdaa
namespace Go.Proofs.Ytkmcmkimeibjdaa
open Go Eng
theorem ofInt_nat (x : Nat) : BitVec.ofInt 64 (x : Int) = BitVec.ofNat 64 x := by simp
theorem xor_nat {x y : Nat} (hx : x < 2 ^ 62) (hy : y < 2 ^ 62) : bitsI .xor .i64 x y = ((x ^^^ y : Nat) : Int) := by
  have h : x ^^^ y < 2 ^ 62 := Nat.xor_lt_two_pow hx hy
  show IntKind.wrap .i64 ((BitVec.ofInt 64 (x : Int) ^^^ BitVec.ofInt 64 (y : Int)).toNat : Int) = _
  rw [ofInt_nat, ofInt_nat, BitVec.toNat_xor, BitVec.toNat_ofNat, BitVec.toNat_ofNat, Nat.mod_eq_of_lt (by omega), Nat.mod_eq_of_lt (by omega), wi (by omega)]
theorem and_nat {x y : Nat} (hx : x < 2 ^ 62) (hy : y < 2 ^ 62) : bitsI .and .i64 x y = ((x &&& y : Nat) : Int) := by
  have h : x &&& y < 2 ^ 62 := Nat.and_lt_two_pow _ hy
  show IntKind.wrap .i64 ((BitVec.ofInt 64 (x : Int) &&& BitVec.ofInt 64 (y : Int)).toNat : Int) = _
  rw [ofInt_nat, ofInt_nat, BitVec.toNat_and, BitVec.toNat_ofNat, BitVec.toNat_ofNat, Nat.mod_eq_of_lt (by omega), Nat.mod_eq_of_lt (by omega), wi (by omega)]
theorem xor_one (q : Nat) : q ^^^ 1 = if q % 2 = 0 then q + 1 else q - 1 := by
  apply Nat.eq_of_testBit_eq
  intro i
  cases i with
  | zero =>
    rw [Nat.testBit_xor]
    simp only [Nat.testBit_zero]
    split <;> rename_i h
    · rw [show (q + 1) % 2 = 1 by omega, h]; rfl
    · rw [show (q - 1) % 2 = 0 by omega, show q % 2 = 1 by omega]; rfl
  | succ i =>
    rw [Nat.testBit_xor, Nat.testBit_succ, Nat.testBit_succ, Nat.testBit_succ]
    split
    · rw [show (q + 1) / 2 = q / 2 by omega]; simp
    · rw [show (q - 1) / 2 = q / 2 by omega]; simp
theorem xor_pow (q o : Nat) : (q * 2 ^ o) ^^^ 2 ^ o = (if q % 2 = 0 then q + 1 else q - 1) * 2 ^ o := by
  have h := Nat.shiftLeft_xor_distrib (a := q) (b := 1) (i := o)
  rw [Nat.shiftLeft_eq, Nat.shiftLeft_eq, Nat.shiftLeft_eq, Nat.one_mul, xor_one] at h
  exact h.symm
theorem bv_andNot (a b : BitVec 64) : a &&& ~~~b = a ^^^ (a &&& b) := by
  ext i hi
  simp only [BitVec.getElem_and, BitVec.getElem_not, BitVec.getElem_xor]
  cases a[i] <;> cases b[i] <;> rfl
theorem andNot_nat {x y : Nat} (hx : x < 2 ^ 62) (hy : y < 2 ^ 62) : bitsI .andNot .i64 x y = ((x ^^^ (x &&& y) : Nat) : Int) := by
  have h1 : x &&& y < 2 ^ 62 := Nat.and_lt_two_pow _ hy
  have h : x ^^^ (x &&& y) < 2 ^ 62 := Nat.xor_lt_two_pow hx h1
  show IntKind.wrap .i64 ((BitVec.ofInt 64 (x : Int) &&& ~~~BitVec.ofInt 64 (y : Int)).toNat : Int) = _
  rw [bv_andNot, ofInt_nat, ofInt_nat, BitVec.toNat_xor, BitVec.toNat_and, BitVec.toNat_ofNat, BitVec.toNat_ofNat, Nat.mod_eq_of_lt (by omega), Nat.mod_eq_of_lt (by omega), wi (by omega)]
theorem and_pow (q o : Nat) : (q * 2 ^ o) &&& 2 ^ o = (q % 2) * 2 ^ o := by
  have h := Nat.shiftLeft_and_distrib (a := q) (b := 1) (i := o)
  rw [Nat.shiftLeft_eq, Nat.shiftLeft_eq, Nat.shiftLeft_eq, Nat.one_mul, Nat.and_one_is_mod] at h
  exact h.symm
theorem andNot_pow (q o : Nat) : (q * 2 ^ o) ^^^ ((q * 2 ^ o) &&& 2 ^ o) = (q - q % 2) * 2 ^ o := by
  rw [and_pow]
  by_cases h : q % 2 = 0
  · rw [h, Nat.zero_mul, Nat.xor_zero, Nat.sub_zero]
  · have h1 : q % 2 = 1 := by omega
    rw [h1, Nat.one_mul, xor_pow, if_neg h]
end Go.Proofs.Ytkmcmkimeibjdaa
namespace Go.Proofs.Ytkmcmkimeibjdaa
open Go Eng
set_option linter.unusedSimpArgs false
set_option linter.unusedVariables false
set_option maxRecDepth 100000
/-! ### a struct whose maps are laid one by one -/
def brawN (n : Int) (m : Nat → Nat) (t k : Nat) : List Value := .int .i64 n :: ((List.range 11).map fun o => if o < k then Value.map (some (m o)) else .map none) ++ [.map (some t)]
theorem brawN_0 (n : Int) (m : Nat → Nat) (t : Nat) : brawN n m t 0 = [Value.int .i64 n] ++ (List.replicate 11 (.map none) ++ [.map (some t)]) := rfl
theorem brawN_11 (n : Int) (m : Nat → Nat) (t : Nat) : brawN n m t 11 = braw n m t := by
  unfold brawN braw
  congr 2
theorem brawN_len (n : Int) (m : Nat → Nat) (t k : Nat) : (brawN n m t k).length = 13 := by simp [brawN]
theorem brawN_set (n : Int) (m : Nat → Nat) (t : Nat) {k : Nat} (hk : k < 11) (x : Nat) : (brawN n m t k).set (1 + k) (.map (some x)) = brawN n (upd m k x) t (k + 1) := by
  apply List.ext_getElem?
  intro i
  rw [List.getElem?_set, brawN_len]
  unfold brawN
  cases i with
  | zero => simp
  | succ j =>
    simp only [List.cons_append, List.getElem?_cons_succ]
    by_cases hj : j < 11
    · rw [List.getElem?_append_left (by simpa using hj), List.getElem?_append_left (by simpa using hj)]
      simp only [List.getElem?_map, List.getElem?_range hj, Option.map_some]
      by_cases hjk : j = k
      · subst hjk
        rw [if_pos (by omega), if_pos (by omega), if_pos (by omega), upd_same]
      · rw [if_neg (by omega)]
        by_cases hlt : j < k
        · rw [if_pos hlt, if_pos (by omega), upd_ne _ _ hjk]
        · rw [if_neg hlt, if_neg (by omega)]
    · rw [if_neg (by omega), List.getElem?_append_right (by simp; omega), List.getElem?_append_right (by simp; omega)]
      simp
end Go.Proofs.Ytkmcmkimeibjdaa
