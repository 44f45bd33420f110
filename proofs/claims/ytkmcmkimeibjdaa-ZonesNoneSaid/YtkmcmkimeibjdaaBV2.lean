/-
  A part of a proof that a law of this seat returns true at every input. Conditions: those in each theorem.
-/
import Derived.Test.YtkmcmkimeibjdaaBV1
set_option linter.unusedSimpArgs false
set_option linter.unusedVariables false
set_option maxRecDepth 100000
namespace Go.Proofs.Ytkmcmkimeibjdaa
open Go Go.Eng
/- byre/byrelaw06.known -/
def vcP14 (w : World) (K : Value → World → Prop) : Prop :=
 Calls Proofs.Try.prog 13 #[Value.int IntKind.i64 8] w fun (e : Ending) (w' : World) =>
 ∃ (p : Option Addr),
 ∃ (n : Int),
 e = Ending.returned (Value.tuple #[Value.pointer p, Value.int IntKind.i64 n]) ∧
 Wif (Option.isNone p || n != 0) (K (Value.bool false) w')
 (Calls Proofs.Try.prog 15 #[Value.pointer p, Value.int IntKind.i64 0, Value.bool false] w' fun (e : Ending) (w' : World) =>
 ∃ (n : Int),
 ∃ (n_1 : Int),
 e = Ending.returned (Value.tuple #[Value.int IntKind.i64 n, Value.int IntKind.i64 n_1]) ∧
 Calls Proofs.Try.prog 15 #[Value.pointer p, Value.int IntKind.i64 2, Value.bool false] w' fun (e : Ending) (w' : World) =>
 ∃ (n_2 : Int),
 ∃ (n_3 : Int),
 e = Ending.returned (Value.tuple #[Value.int IntKind.i64 n_2, Value.int IntKind.i64 n_3]) ∧
 Wif (n == 0 && n_1 == 0 && n_2 == 4 && n_3 == 0)
 (Calls Proofs.Try.prog 19 #[Value.pointer p] w' fun (e : Ending) (w' : World) =>
 ∃ (n : Int),
 e = Ending.returned (Value.int IntKind.i64 n) ∧
 Wif (n == 3)
 (Calls Proofs.Try.prog 16 #[Value.pointer p, Value.int IntKind.i64 0, Value.int IntKind.i64 0] w' fun (e : Ending) (w' : World) =>
 ∃ (n : Int),
 e = Ending.returned (Value.int IntKind.i64 n) ∧
 Wif (n == 0)
 (Calls Proofs.Try.prog 16 #[Value.pointer p, Value.int IntKind.i64 4, Value.int IntKind.i64 2] w' fun (e : Ending) (w' : World) =>
 ∃ (n : Int),
 e = Ending.returned (Value.int IntKind.i64 n) ∧
 Wif (n == 0)
 (Calls Proofs.Try.prog 17 #[Value.pointer p] w' fun (e : Ending) (w' : World) =>
 ∃ (n : Int), e = Ending.returned (Value.int IntKind.i64 n) ∧ K (Value.bool (n == 3)) w')
 (K (Value.bool false) w'))
 (K (Value.bool false) w'))
 (K (Value.bool false) w'))
 (K (Value.bool false) w'))
theorem vcE14 (w : World) (K : Value → World → Prop) : vcP14  w K = Eng.wBody Go.Proofs.Try.prog (Eng.handOf Go.Proofs.Try.prog [44] 1) [] Go.Proofs.Try.f14 (Eng.bodyOf Go.Proofs.Try.f14) [] w K := by kernel_rfl
theorem vc14 (w : World) (K : Value → World → Prop) (h : vcP14  w K) :
 Calls Go.Proofs.Try.prog 14 #[] w (fun e w' => ∃ v, e = .returned v ∧ K v w') :=
 Eng.vc_of [44] 1 [] Go.Proofs.Try.mixes Go.Proofs.Try.func14 (by kernel_rfl) (by kernel_rfl) (vcE14  w K) h

-- 4868 ms
/- byre/byrelaw06.BuddyMost -/
def vcP3 (n : Int) (l : Option Addr) (lL : Nat) (lC : Nat) (w : World) (K : Value → World → Prop) : Prop :=
 Calls Proofs.Try.prog 13 #[Value.int IntKind.i64 n] w fun (e : Ending) (w' : World) =>
 ∃ (p : Option Addr),
 ∃ (n : Int),
 e = Ending.returned (Value.tuple #[Value.pointer p, Value.int IntKind.i64 n]) ∧
 Wif (n != 0 || Option.isNone p || decide ((↑lL : Int) > 200))
 (Calls Proofs.Try.prog 14 #[] w' fun (e : Ending) (w' : World) => ∃ (b : Bool), e = Ending.returned (Value.bool b) ∧ K (Value.bool b) w')
 (∃ (I : Int → World → Nat → Prop),
 (∃ (n : Nat), I 0 w' n) ∧
 ∀ (n : Int) (w' : World) (n_1 : Nat),
 I n w' n_1 →
 Wif (decide (n < (↑lL : Int)))
 (Wif (isP l)
 (Wif (inB n lL)
 (∃ (x : Int),
 rd w' (pb l) (po l + Int.toNat n * 4) = some (Value.int IntKind.i64 x) ∧
 Wif (x == 1)
 (∀ (w1 : World),
 w1 = World.drew w' →
 Wif (isP l)
 (Wif (inB n lL)
 (∃ (x : Int),
 rd w1 (pb l) (po l + Int.toNat n * 4 + 2) = some (Value.int IntKind.i64 x) ∧
 Wif (isP l)
 (Wif (inB n lL)
 (∃ (x_1 : Bool),
 rd w1 (pb l) (po l + Int.toNat n * 4 + 3) = some (Value.bool x_1) ∧
 Calls Proofs.Try.prog 15 #[Value.pointer p, Value.int IntKind.i64 x, Value.bool x_1] w1 fun (e : Ending) (w' : World) =>
 ∃ (n_2 : Int),
 ∃ (n_3 : Int),
 e = Ending.returned (Value.tuple #[Value.int IntKind.i64 n_2, Value.int IntKind.i64 n_3]) ∧
 ∃ (m : Nat), Nat.succ m ≤ n_1 ∧ I (IntKind.wrap IntKind.i64 (n + 1)) w' m)
 False)
 False)
 False)
 False)
 (Wif (x == 2)
 (∀ (w1 : World),
 w1 = World.drew w' →
 Wif (isP l)
 (Wif (inB n lL)
 (∃ (x : Int),
 rd w1 (pb l) (po l + Int.toNat n * 4 + 1) = some (Value.int IntKind.i64 x) ∧
 Wif (isP l)
 (Wif (inB n lL)
 (∃ (x_1 : Int),
 rd w1 (pb l) (po l + Int.toNat n * 4 + 2) = some (Value.int IntKind.i64 x_1) ∧
 Calls Proofs.Try.prog 16 #[Value.pointer p, Value.int IntKind.i64 x, Value.int IntKind.i64 x_1] w1 fun (e : Ending) (w' : World) =>
 ∃ (n_2 : Int), e = Ending.returned (Value.int IntKind.i64 n_2) ∧ ∃ (m : Nat), Nat.succ m ≤ n_1 ∧ I (IntKind.wrap IntKind.i64 (n + 1)) w' m)
 False)
 False)
 False)
 False)
 (∃ (m : Nat), Nat.succ m ≤ n_1 ∧ I (IntKind.wrap IntKind.i64 (n + 1)) w' m)))
 False)
 False)
 (Calls Proofs.Try.prog 17 #[Value.pointer p] w' fun (e : Ending) (w' : World) =>
 ∃ (n : Int),
 e = Ending.returned (Value.int IntKind.i64 n) ∧
 ∃ (I : Bool → Int → World → Nat → Prop),
 (∃ (n : Nat), I false 0 w' n) ∧
 ∀ (b : Bool) (n_2 : Int) (w' : World) (n_3 : Nat),
 I b n_2 w' n_3 →
 Wif (decide (n_2 < 11))
 (∃ (I_1 : Bool → Int → World → Nat → Prop),
 (∃ (n : Nat), I_1 b 0 w' n) ∧
 ∀ (b : Bool) (n_4 : Int) (w' : World) (n_5 : Nat),
 I_1 b n_4 w' n_5 →
 Wif (decide (n_4 < 2))
 (Wif (inB n_4 2)
 (∃ (x : Bool),
 [Value.bool false, Value.bool true][Int.toNat n_4 * 1]? = some (Value.bool x) ∧
 Calls Proofs.Try.prog 18 #[Value.pointer p] w' fun (e : Ending) (w' : World) =>
 ∃ (p_1 : Option Addr),
 e = Ending.returned (Value.pointer p_1) ∧
 Wif (Option.isNone p_1) (K (Value.bool false) w')
 (Calls Proofs.Try.prog 15 #[Value.pointer p_1, Value.int IntKind.i64 n_2, Value.bool x] w' fun (e : Ending) (w' : World) =>
 ∃ (n_6 : Int),
 ∃ (n_7 : Int),
 e = Ending.returned (Value.tuple #[Value.int IntKind.i64 n_6, Value.int IntKind.i64 n_7]) ∧
 Wif (!(n_7 == 0) == decide (n_2 ≤ n) || n_7 != 0 && n_7 != 6) (K (Value.bool false) w')
 (∀ (w1 : World),
 w1 = World.drew w' →
 gIf (decide (0 ≤ n_2)) ((n_7 == 0) = true)
 (Wif (n_7 == 0)
 (Calls Proofs.Try.prog 19 #[Value.pointer p_1] w1 fun (e : Ending) (w' : World) =>
 ∃ (n_8 : Int),
 e = Ending.returned (Value.int IntKind.i64 n_8) ∧
 Calls Proofs.Try.prog 19 #[Value.pointer p] w' fun (e : Ending) (w' : World) =>
 ∃ (n_9 : Int),
 e = Ending.returned (Value.int IntKind.i64 n_9) ∧
 Wif (n_8 != IntKind.wrap IntKind.i64 (n_9 - IntKind.wrap IntKind.i64 (1 * 2 ^ min (Int.toNat n_2) 64)))
 (K (Value.bool false) w')
 (Calls Proofs.Try.prog 16 #[Value.pointer p_1, Value.int IntKind.i64 n_6, Value.int IntKind.i64 n_2] w'
 fun (e : Ending) (w' : World) =>
 ∃ (n_10 : Int),
 e = Ending.returned (Value.int IntKind.i64 n_10) ∧
 Wif (n_10 != 0) (K (Value.bool false) w')
 (Calls Proofs.Try.prog 17 #[Value.pointer p_1] w' fun (e : Ending) (w' : World) =>
 ∃ (n_11 : Int),
 e = Ending.returned (Value.int IntKind.i64 n_11) ∧
 Wif (n_11 != n) (K (Value.bool false) w')
 (Calls Proofs.Try.prog 19 #[Value.pointer p_1] w' fun (e : Ending) (w' : World) =>
 ∃ (n : Int),
 e = Ending.returned (Value.int IntKind.i64 n) ∧
 Calls Proofs.Try.prog 19 #[Value.pointer p] w' fun (e : Ending) (w' : World) =>
 ∃ (n_12 : Int),
 e = Ending.returned (Value.int IntKind.i64 n_12) ∧
 Wif (n != n_12) (K (Value.bool false) w')
 (∃ (m : Nat),
 Nat.succ m ≤ n_5 ∧ I_1 b (IntKind.wrap IntKind.i64 (n_4 + 1)) w' m)))))
 (∃ (m : Nat), Nat.succ m ≤ n_5 ∧ I_1 b (IntKind.wrap IntKind.i64 (n_4 + 1)) w1 m)))))
 False)
 (∃ (m : Nat), Nat.succ m ≤ n_3 ∧ I b (IntKind.wrap IntKind.i64 (n_2 + 1)) w' m))
 (Calls Proofs.Try.prog 14 #[] w' fun (e : Ending) (w' : World) => ∃ (b : Bool), e = Ending.returned (Value.bool b) ∧ K (Value.bool b) w')))
theorem vcE3 (n : Int) (l : Option
 Addr) (lL : Nat) (lC : Nat) (w : World) (K : Value → World → Prop) : vcP3 n l lL lC w K = Eng.wBody Go.Proofs.Try.prog (Eng.handOf Go.Proofs.Try.prog [44] 1) [] Go.Proofs.Try.f3 (Eng.bodyOf Go.Proofs.Try.f3) [Value.int
 IntKind.i64 n,
 Value.slice l lL lC] w K := by kernel_rfl
theorem vc3 (n : Int) (l : Option Addr) (lL : Nat) (lC : Nat) (w : World) (K : Value → World → Prop) (h : vcP3 n l lL lC w K) :
 Calls Go.Proofs.Try.prog 3 #[Value.int IntKind.i64 n, Value.slice l lL lC] w (fun e w' => ∃ v, e = .returned v ∧ K v w') :=
 Eng.vc_of [44] 1 [] Go.Proofs.Try.mixes Go.Proofs.Try.func3 (by kernel_rfl) (by kernel_rfl) (vcE3 n l lL lC w K) h

-- 64937 ms

end Go.Proofs.Ytkmcmkimeibjdaa
