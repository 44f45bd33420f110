/-
  A part of a proof that a law of this seat returns true at every input. Conditions: those in each theorem.
-/
import Derived.Test.YtkmcmkimeibjdaaBD3
set_option linter.unusedVariables false
set_option linter.unusedSimpArgs false
namespace Go.Proofs.Ytkmcmkimeibjdaa
open Go Eng
theorem ofInt_nat (x : Nat) : BitVec.ofInt 64 (x : Int) = BitVec.ofNat 64 x := by simp
theorem xor_nat {x y : Nat} (hx : x < 2 ^ 62) (hy : y < 2 ^ 62) : bitsI .xor .i64 x y = ((x ^^^ y : Nat) : Int) := by
  have h : x ^^^ y < 2 ^ 62 := Nat.xor_lt_two_pow hx hy
  show IntKind.wrap .i64 ((BitVec.ofInt 64 (x : Int) ^^^ BitVec.ofInt 64 (y : Int)).toNat : Int) = _
  rw [ofInt_nat, ofInt_nat, BitVec.toNat_xor, BitVec.toNat_ofNat, BitVec.toNat_ofNat, Nat.mod_eq_of_lt (by omega), Nat.mod_eq_of_lt (by omega), wi (by omega)]
theorem and_nat {x y : Nat} (hx : x < 2 ^ 62) (hy : y < 2 ^ 62) : bitsI .and .i64 x y = ((x &&& y : Nat) : Int) := by
  have h : x &&& y < 2 ^ 62 := Nat.and_lt_two_pow _ hy
  show IntKind.wrap .i64 ((BitVec.ofInt 64 (x : Int) &&& BitVec.ofInt 64 (y : Int)).toNat : Int) = _
  rw [ofInt_nat, ofInt_nat, BitVec.toNat_and, BitVec.toNat_ofNat, BitVec.toNat_ofNat, Nat.mod_eq_of_lt (by omega), Nat.mod_eq_of_lt (by omega), wi (by omega)]
theorem xor_one (q : Nat) : q ^^^ 1 = if q % 2 = 0 then q + 1 else q - 1 := by
  apply Nat.eq_of_testBit_eq
  intro i
  cases i with
  | zero =>
    rw [Nat.testBit_xor]
    simp only [Nat.testBit_zero]
    split <;> rename_i h
    · rw [show (q + 1) % 2 = 1 by omega, h]; rfl
    · rw [show (q - 1) % 2 = 0 by omega, show q % 2 = 1 by omega]; rfl
  | succ i =>
    rw [Nat.testBit_xor, Nat.testBit_succ, Nat.testBit_succ, Nat.testBit_succ]
    split
    · rw [show (q + 1) / 2 = q / 2 by omega]; simp
    · rw [show (q - 1) / 2 = q / 2 by omega]; simp
theorem xor_pow (q o : Nat) : (q * 2 ^ o) ^^^ 2 ^ o = (if q % 2 = 0 then q + 1 else q - 1) * 2 ^ o := by
  have h := Nat.shiftLeft_xor_distrib (a := q) (b := 1) (i := o)
  rw [Nat.shiftLeft_eq, Nat.shiftLeft_eq, Nat.shiftLeft_eq, Nat.one_mul, xor_one] at h
  exact h.symm
theorem bv_andNot (a b : BitVec 64) : a &&& ~~~b = a ^^^ (a &&& b) := by
  ext i hi
  simp only [BitVec.getElem_and, BitVec.getElem_not, BitVec.getElem_xor]
  cases a[i] <;> cases b[i] <;> rfl
theorem andNot_nat {x y : Nat} (hx : x < 2 ^ 62) (hy : y < 2 ^ 62) : bitsI .andNot .i64 x y = ((x ^^^ (x &&& y) : Nat) : Int) := by
  have h1 : x &&& y < 2 ^ 62 := Nat.and_lt_two_pow _ hy
  have h : x ^^^ (x &&& y) < 2 ^ 62 := Nat.xor_lt_two_pow hx h1
  show IntKind.wrap .i64 ((BitVec.ofInt 64 (x : Int) &&& ~~~BitVec.ofInt 64 (y : Int)).toNat : Int) = _
  rw [bv_andNot, ofInt_nat, ofInt_nat, BitVec.toNat_xor, BitVec.toNat_and, BitVec.toNat_ofNat, BitVec.toNat_ofNat, Nat.mod_eq_of_lt (by omega), Nat.mod_eq_of_lt (by omega), wi (by omega)]
theorem and_pow (q o : Nat) : (q * 2 ^ o) &&& 2 ^ o = (q % 2) * 2 ^ o := by
  have h := Nat.shiftLeft_and_distrib (a := q) (b := 1) (i := o)
  rw [Nat.shiftLeft_eq, Nat.shiftLeft_eq, Nat.shiftLeft_eq, Nat.one_mul, Nat.and_one_is_mod] at h
  exact h.symm
theorem andNot_pow (q o : Nat) : (q * 2 ^ o) ^^^ ((q * 2 ^ o) &&& 2 ^ o) = (q - q % 2) * 2 ^ o := by
  rw [and_pow]
  by_cases h : q % 2 = 0
  · rw [h, Nat.zero_mul, Nat.xor_zero, Nat.sub_zero]
  · have h1 : q % 2 = 1 := by omega
    rw [h1, Nat.one_mul, xor_pow, if_neg h]
end Go.Proofs.Ytkmcmkimeibjdaa
