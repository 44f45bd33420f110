/-
  A part of a proof that a law of this seat returns true at every input. Conditions: those in each theorem.
-/
import Derived.Test.YtkmcmkimeibjdaaBV4
set_option linter.unusedSimpArgs false
set_option linter.unusedVariables false
set_option maxRecDepth 100000
namespace Go.Proofs.Ytkmcmkimeibjdaa
open Go Go.Eng
/- byre/byreref06.New -/
def vcP31 (n : Int) (w : World) (K : Value → World → Prop) : Prop :=
 ∀ (w' : World),
 w' = World.alloc w (Obj.cells #[Value.int IntKind.i64 n, Value.slice none 0 0, Value.slice none 0 0] 74) →
 ∃ (I : Int → World → Nat → Prop),
 (∃ (n : Nat), I 0 w' n) ∧
 ∀ (n_1 : Int) (w' : World) (n_2 : Nat),
 I n_1 w' n_2 →
 Wif (decide (n_1 < n))
 (∃ (I_1 : Int → Int → World → Nat → Prop),
 (∃ (n : Nat), I_1 0 0 w' n) ∧
 ∀ (n_3 n_4 : Int) (w' : World) (n_5 : Nat),
 I_1 n_3 n_4 w' n_5 →
 Wif (decide (n_4 ≤ 10))
 (Wif (decide (0 ≤ IntKind.wrap IntKind.u64 n_4))
 (Wif (IntKind.wrap IntKind.i64 (1 * 2 ^ min (Int.toNat (IntKind.wrap IntKind.u64 n_4)) 64) != 0)
 (Wif
 (Int.tmod n_1 (IntKind.wrap IntKind.i64 (1 * 2 ^ min (Int.toNat (IntKind.wrap IntKind.u64 n_4)) 64)) == 0 &&
 decide (IntKind.wrap IntKind.i64 (n_1 + IntKind.wrap IntKind.i64 (1 * 2 ^ min (Int.toNat (IntKind.wrap IntKind.u64 n_4)) 64)) ≤ n))
 (∃ (m : Nat), Nat.succ m ≤ n_5 ∧ I_1 n_4 (IntKind.wrap IntKind.i64 (n_4 + 1)) w' m) (∃ (m : Nat), Nat.succ m ≤ n_5 ∧ I_1 n_3 (IntKind.wrap IntKind.i64 (n_4 + 1)) w' m))
 False)
 False)
 (∃ (x : Option Addr),
 ∃ (x_1 : Nat),
 ∃ (x_2 : Nat),
 rd w' (Array.size (World.heap w)) 1 = some (Value.slice x x_1 x_2) ∧
 ∀ (w'_1 : World),
 w'_1 = World.alloc w' (Obj.cells #[Value.int IntKind.i64 n_1, Value.int IntKind.i64 n_3] 58) →
 ∃ (a : Option Addr),
 ∃ (l : Nat),
 ∃ (c : Nat),
 ∃ (w'_2 : World),
 appIs Proofs.Try.prog #[56, 56] 56 (Value.slice x x_1 x_2) (Value.slice (some (Addr.mk (Array.size (World.heap w')) 0 none)) 1 1) (Value.slice a l c) w'_1
 w'_2 ∧
 wr w'_2 (Array.size (World.heap w)) 1 ∧
 ∀ (w' : World),
 w' = st w'_2 (Array.size (World.heap w)) 1 (Value.slice a l c) →
 Wif (decide (0 ≤ IntKind.wrap IntKind.u64 n_3))
 (∃ (m : Nat),
 Nat.succ m ≤ n_2 ∧
 I (IntKind.wrap IntKind.i64 (n_1 + IntKind.wrap IntKind.i64 (1 * 2 ^ min (Int.toNat (IntKind.wrap IntKind.u64 n_3)) 64))) w' m)
 False))
 (K (Value.pointer (some (Addr.mk (Array.size (World.heap w)) 0 none))) w')
theorem vcE31 (n : Int) (w : World) (K : Value → World → Prop) : vcP31 n w K = Eng.wBody Go.Proofs.Try.prog (Eng.handOf Go.Proofs.Try.prog [44,
 27] 1) [] Go.Proofs.Try.f31 (Eng.bodyOf Go.Proofs.Try.f31) [Value.int IntKind.i64 n] w K := by kernel_rfl
theorem vc31 (n : Int) (w : World) (K : Value → World → Prop) (h : vcP31 n w K) :
 Calls Go.Proofs.Try.prog 31 #[Value.int IntKind.i64 n] w (fun e w' => ∃ v, e = .returned v ∧ K v w') :=
 Eng.vc_of [44, 27] 1 [] Go.Proofs.Try.mixes Go.Proofs.Try.func31 (by kernel_rfl) (by kernel_rfl) (vcE31 n w K) h

-- 2719 ms
/- (*byre/byreref06.Buddy).Take -/
def vcP33 (b : Option Addr) (order : Int) (high : Bool) (w : World) (K : Value → World → Prop) : Prop :=
 Wif (decide (order < 0) || decide (order > 10)) (K (Value.tuple #[Value.int IntKind.i64 0, Value.int IntKind.i64 2]) w)
 (∃ (I : Int → Int → World → Nat → Prop),
 (∃ (n : Nat), I (-1) 0 w n) ∧
 ∀ (n n_1 : Int) (w' : World) (n_2 : Nat),
 I n n_1 w' n_2 →
 Wif (isP b)
 (∃ (x : Option Addr),
 ∃ (x_1 : Nat),
 ∃ (x_2 : Nat),
 rd w' (pb b) (po b + 1) = some (Value.slice x x_1 x_2) ∧
 Wif (decide (n_1 < (↑x_1 : Int)))
 (Wif (isP b)
 (∃ (x : Option Addr),
 ∃ (x_3 : Nat),
 ∃ (x_4 : Nat),
 rd w' (pb b) (po b + 1) = some (Value.slice x x_3 x_4) ∧
 Wif (isP x)
 (Wif (inB n_1 x_3)
 (∃ (x_5 : Int),
 ∃ (x_6 : Int),
 (rd w' (pb x) (po x + Int.toNat n_1 * 2) = some (Value.int IntKind.i64 x_5) ∧
 rd w' (pb x) (po x + Int.toNat n_1 * 2 + 1) = some (Value.int IntKind.i64 x_6)) ∧
 ∀ (w'_1 : World),
 w'_1 = World.alloc w' (Obj.cells #[Value.int IntKind.i64 0, Value.int IntKind.i64 0] 58) →
 (wr w'_1 (Array.size (World.heap w')) 0 ∧ wr w'_1 (Array.size (World.heap w')) 1) ∧
 ∀ (w'_2 : World),
 w'_2 = st (st w'_1 (Array.size (World.heap w')) 0 (Value.int IntKind.i64 x_5)) (Array.size (World.heap w')) 1 (Value.int IntKind.i64 x_6) →
 ∃ (x : Int),
 rd w'_2 (Array.size (World.heap w')) 1 = some (Value.int IntKind.i64 x) ∧
 Wif (decide (x < order)) (∃ (m : Nat), Nat.succ m ≤ n_2 ∧ I n (IntKind.wrap IntKind.i64 (n_1 + 1)) w'_2 m)
 (∀ (w1 : World),
 w1 = World.drew w'_2 →
 ∃ (x : Int),
 (decide (n < 0) = false → rd w1 (Array.size (World.heap w')) 1 = some (Value.int IntKind.i64 x)) ∧
 gIf (isP b) (decide (n < 0) = false)
 (∃ (x_7 : Option Addr),
 ∃ (x_8 : Nat),
 ∃ (x_9 : Nat),
 (decide (n < 0) = false → rd w1 (pb b) (po b + 1) = some (Value.slice x_7 x_8 x_9)) ∧
 gIf (isP x_7) (decide (n < 0) = false)
 (gIf (inB n x_8) (decide (n < 0) = false)
 (∃ (x_10 : Int),
 (decide (n < 0) = false → rd w1 (pb x_7) (po x_7 + Int.toNat n * 2 + 1) = some (Value.int IntKind.i64 x_10)) ∧
 ∃ (x_11 : Int),
 ((decide (n < 0) || decide (x < x_10)) = false ∧ high = true →
 rd w1 (Array.size (World.heap w')) 1 = some (Value.int IntKind.i64 x_11)) ∧
 gIf (isP b) ((decide (n < 0) || decide (x < x_10)) = false ∧ high = true)
 (∃ (x_12 : Option Addr),
 ∃ (x_13 : Nat),
 ∃ (x_14 : Nat),
 ((decide (n < 0) || decide (x < x_10)) = false ∧ high = true →
 rd w1 (pb b) (po b + 1) = some (Value.slice x_12 x_13 x_14)) ∧
 gIf (isP x_12) ((decide (n < 0) || decide (x < x_10)) = false ∧ high = true)
 (gIf (inB n x_13) ((decide (n < 0) || decide (x < x_10)) = false ∧ high = true)
 (∃ (x_15 : Int),
 ((decide (n < 0) || decide (x < x_10)) = false ∧ high = true →
 rd w1 (pb x_12) (po x_12 + Int.toNat n * 2 + 1) = some (Value.int IntKind.i64 x_15)) ∧
 Wif (decide (n < 0) || decide (x < x_10) || high && x_11 == x_15)
 (∃ (m : Nat), Nat.succ m ≤ n_2 ∧ I n_1 (IntKind.wrap IntKind.i64 (n_1 + 1)) w1 m)
 (∃ (m : Nat), Nat.succ m ≤ n_2 ∧ I n (IntKind.wrap IntKind.i64 (n_1 + 1)) w1 m)))))))))
 False)
 False)
 False)
 (Wif (decide (n < 0)) (K (Value.tuple #[Value.int IntKind.i64 0, Value.int IntKind.i64 6]) w')
 (Wif (isP b)
 (∃ (x : Option Addr),
 ∃ (x_3 : Nat),
 ∃ (x_4 : Nat),
 rd w' (pb b) (po b + 1) = some (Value.slice x x_3 x_4) ∧
 Wif (isP x)
 (Wif (inB n x_3)
 (∃ (x_5 : Int),
 ∃ (x_6 : Int),
 (rd w' (pb x) (po x + Int.toNat n * 2) = some (Value.int IntKind.i64 x_5) ∧ rd w' (pb x) (po x + Int.toNat n * 2 + 1) = some (Value.int IntKind.i64 x_6)) ∧
 ∀ (w'_1 : World),
 w'_1 = World.alloc w' (Obj.cells #[Value.int IntKind.i64 0, Value.int IntKind.i64 0] 58) →
 (wr w'_1 (Array.size (World.heap w')) 0 ∧ wr w'_1 (Array.size (World.heap w')) 1) ∧
 ∀ (w'_2 : World),
 w'_2 = st (st w'_1 (Array.size (World.heap w')) 0 (Value.int IntKind.i64 x_5)) (Array.size (World.heap w')) 1 (Value.int IntKind.i64 x_6) →
 ∀ (w1 : World),
 w1 = World.drew w'_2 →
 Wif (isP b)
 (∃ (x : Option Addr),
 ∃ (x_7 : Nat),
 ∃ (x_8 : Nat),
 rd w1 (pb b) (po b + 1) = some (Value.slice x x_7 x_8) ∧
 ∃ (x_9 : Int),
 ∃ (x_10 : Int),
 (rd w1 (Array.size (World.heap w')) 0 = some (Value.int IntKind.i64 x_9) ∧
 rd w1 (Array.size (World.heap w')) 1 = some (Value.int IntKind.i64 x_10)) ∧
 Calls Proofs.Try.prog 57 #[Value.slice x x_7 x_8, Value.agg #[Value.int IntKind.i64 x_9, Value.int IntKind.i64 x_10]] w1
 fun (e : Ending) (w'_3 : World) =>
 ∃ (a : Option Addr),
 ∃ (l : Nat),
 ∃ (c : Nat),
 ∃ (b_1 : Bool),
 e = Ending.returned (Value.tuple #[Value.slice a l c, Value.bool b_1]) ∧
 Wif (isP b)
 (wr w'_3 (pb b) (po b + 1) ∧
 ∀ (w'_4 : World),
 w'_4 = st w'_3 (pb b) (po b + 1) (Value.slice a l c) →
 ∃ (I : World → Nat → Prop),
 (∃ (n : Nat), I w'_4 n) ∧
 ∀ (w'_5 : World) (n : Nat),
 I w'_5 n →
 ∃ (x : Int),
 rd w'_5 (Array.size (World.heap w')) 1 = some (Value.int IntKind.i64 x) ∧
 Wif (decide (x > order))
 (∃ (x : Int),
 rd w'_5 (Array.size (World.heap w')) 1 = some (Value.int IntKind.i64 x) ∧
 wr w'_5 (Array.size (World.heap w')) 1 ∧
 ∀ (w'_6 : World),
 w'_6 =
 st w'_5 (Array.size (World.heap w')) 1
 (Value.int IntKind.i64 (IntKind.wrap IntKind.i64 (x - 1))) →
 ∃ (x : Int),
 rd w'_6 (Array.size (World.heap w')) 0 = some (Value.int IntKind.i64 x) ∧
 ∃ (x_11 : Int),
 rd w'_6 (Array.size (World.heap w')) 1 =
 some (Value.int IntKind.i64 x_11) ∧
 Wif (decide (0 ≤ IntKind.wrap IntKind.u64 x_11))
 (∃ (x_12 : Int),
 rd w'_6 (Array.size (World.heap w')) 1 =
 some (Value.int IntKind.i64 x_12) ∧
 ∀ (w'_7 : World),
 w'_7 =
 World.alloc w'_6
 (Obj.cells
 #[Value.int IntKind.i64 0, Value.int IntKind.i64 0]
 58) →
 (wr w'_7 (Array.size (World.heap w'_6)) 0 ∧
 wr w'_7 (Array.size (World.heap w'_6)) 1) ∧
 ∀ (w'_8 : World),
 w'_8 =
 st
 (st w'_7 (Array.size (World.heap w'_6)) 0
 (Value.int IntKind.i64
 (IntKind.wrap IntKind.i64
 (x +
 IntKind.wrap IntKind.i64
 (1 *
 2 ^
 min
 (Int.toNat
 (IntKind.wrap IntKind.u64 x_11))
 64)))))
 (Array.size (World.heap w'_6)) 1
 (Value.int IntKind.i64 x_12) →
 Wif high
 (∃ (x : Int),
 ∃ (x_13 : Int),
 (rd w'_8 (Array.size (World.heap w')) 0 =
 some (Value.int IntKind.i64 x) ∧
 rd w'_8 (Array.size (World.heap w')) 1 =
 some (Value.int IntKind.i64 x_13)) ∧
 Calls Proofs.Try.prog 58
 #[Value.pointer b,
 Value.agg
 #[Value.int IntKind.i64 x,
 Value.int IntKind.i64 x_13]]
 w'_8 fun (e : Ending) (w'_9 : World) =>
 e = Ending.returned (Value.tuple #[]) ∧
 ∃ (x : Int),
 ∃ (x_14 : Int),
 (rd w'_9 (Array.size (World.heap w'_6))
 0 =
 some (Value.int IntKind.i64 x) ∧
 rd w'_9
 (Array.size (World.heap w'_6))
 1 =
 some
 (Value.int IntKind.i64 x_14)) ∧
 (wr w'_9 (Array.size (World.heap w'))
 0 ∧
 wr w'_9
 (Array.size (World.heap w'))
 1) ∧
 ∀ (w'_10 : World),
 w'_10 =
 st
 (st w'_9
 (Array.size
 (World.heap w'))
 0
 (Value.int IntKind.i64 x))
 (Array.size (World.heap w'))
 1
 (Value.int IntKind.i64
 x_14) →
 ∃ (m : Nat),
 Nat.succ m ≤ n ∧ I w'_10 m)
 (∃ (x : Int),
 ∃ (x_13 : Int),
 (rd w'_8 (Array.size (World.heap w'_6)) 0 =
 some (Value.int IntKind.i64 x) ∧
 rd w'_8 (Array.size (World.heap w'_6)) 1 =
 some (Value.int IntKind.i64 x_13)) ∧
 Calls Proofs.Try.prog 58
 #[Value.pointer b,
 Value.agg
 #[Value.int IntKind.i64 x,
 Value.int IntKind.i64 x_13]]
 w'_8 fun (e : Ending) (w' : World) =>
 e = Ending.returned (Value.tuple #[]) ∧
 ∃ (m : Nat), Nat.succ m ≤ n ∧ I w' m))
 False)
 (∀ (w1 : World),
 w1 = World.drew w'_5 →
 Wif (isP b)
 (∃ (x : Option Addr),
 ∃ (x_11 : Nat),
 ∃ (x_12 : Nat),
 rd w1 (pb b) (po b + 2) = some (Value.slice x x_11 x_12) ∧
 ∃ (x_13 : Int),
 ∃ (x_14 : Int),
 (rd w1 (Array.size (World.heap w')) 0 =
 some (Value.int IntKind.i64 x_13) ∧
 rd w1 (Array.size (World.heap w')) 1 =
 some (Value.int IntKind.i64 x_14)) ∧
 (∀ (w'_6 : World),
 w'_6 = World.alloc w1 (Obj.cells #[] 58) →
 ((rd w'_6 (Array.size (World.heap w')) 0 =
 some (Value.int IntKind.i64 x_13) ∧
 rd w'_6 (Array.size (World.heap w')) 1 =
 some (Value.int IntKind.i64 x_14)) ∧
 True) ∧
 (rd w'_6 (pb b) (po b + 2) = some (Value.slice x x_11 x_12) ∧
 True) ∧
 (∃ (a : Option Addr),
 ∃ (l : Nat),
 ∃ (c : Nat),
 ∃ (w'_7 : World),
 appIs Proofs.Try.prog #[56, 56] 56
 (Value.slice
 (some
 (Addr.mk (Array.size (World.heap w1)) 0
 none))
 0 0)
 (Value.slice x x_11 x_12) (Value.slice a l c)
 w'_6 w'_7 ∧
 ((rd w'_7 (Array.size (World.heap w')) 0 =
 some (Value.int IntKind.i64 x_13) ∧
 rd w'_7 (Array.size (World.heap w')) 1 =
 some (Value.int IntKind.i64 x_14)) ∧
 True) ∧
 ∀ (w'_8 : World),
 w'_8 =
 World.alloc w'_7
 (Obj.cells
 #[Value.int IntKind.i64 x_13,
 Value.int IntKind.i64 x_14]
 58) →
 ∃ (a_1 : Option Addr),
 ∃ (l_1 : Nat),
 ∃ (c_1 : Nat),
 ∃ (w'_9 : World),
 appIs Proofs.Try.prog #[56, 56] 56
 (Value.slice a l c)
 (Value.slice
 (some
 (Addr.mk
 (Array.size
 (World.heap w'_7))
 0 none))
 1 1)
 (Value.slice a_1 l_1 c_1) w'_8
 w'_9 ∧
 Wif (isP b)
 (wr w'_9 (pb b) (po b + 2) ∧
 ∀ (w'_10 : World),
 w'_10 =
 st w'_9 (pb b)
 (po b + 2)
 (Value.slice a_1 l_1
 c_1) →
 ∃ (x : Int),
 rd w'_10
 (Array.size
 (World.heap
 w'))
 0 =
 some
 (Value.int
 IntKind.i64
 x) ∧
 K
 (Value.tuple
 #[Value.int
 IntKind.i64
 x,
 Value.int
 IntKind.i64
 0])
 w'_10)
 False) ∧
 ∀ (w'_7 : World),
 w'_7 =
 World.alloc w'_6
 (Obj.cells
 #[Value.int IntKind.i64 x_13,
 Value.int IntKind.i64 x_14]
 58) →
 (rd w'_7 (pb b) (po b + 2) =
 some (Value.slice x x_11 x_12) ∧
 True) ∧
 ∃ (a : Option Addr),
 ∃ (l : Nat),
 ∃ (c : Nat),
 ∃ (w'_8 : World),
 appIs Proofs.Try.prog #[56, 56] 56
 (Value.slice
 (some
 (Addr.mk
 (Array.size (World.heap w1)) 0
 none))
 0 0)
 (Value.slice x x_11 x_12)
 (Value.slice a l c) w'_7 w'_8 ∧
 ∃ (a_1 : Option Addr),
 ∃ (l_1 : Nat),
 ∃ (c_1 : Nat),
 ∃ (w'_9 : World),
 appIs Proofs.Try.prog #[56, 56] 56
 (Value.slice a l c)
 (Value.slice
 (some
 (Addr.mk
 (Array.size
 (World.heap w'_6))
 0 none))
 1 1)
 (Value.slice a_1 l_1 c_1) w'_8
 w'_9 ∧
 Wif (isP b)
 (wr w'_9 (pb b) (po b + 2) ∧
 ∀ (w'_10 : World),
 w'_10 =
 st w'_9 (pb b)
 (po b + 2)
 (Value.slice a_1 l_1
 c_1) →
 ∃ (x : Int),
 rd w'_10
 (Array.size
 (World.heap
 w'))
 0 =
 some
 (Value.int
 IntKind.i64
 x) ∧
 K
 (Value.tuple
 #[Value.int
 IntKind.i64
 x,
 Value.int
 IntKind.i64
 0])
 w'_10)
 False) ∧
 ∀ (w'_6 : World),
 w'_6 =
 World.alloc w1
 (Obj.cells
 #[Value.int IntKind.i64 x_13, Value.int IntKind.i64 x_14]
 58) →
 (rd w'_6 (pb b) (po b + 2) = some (Value.slice x x_11 x_12) ∧
 True) ∧
 ∀ (w'_7 : World),
 w'_7 = World.alloc w'_6 (Obj.cells #[] 58) →
 (rd w'_7 (pb b) (po b + 2) =
 some (Value.slice x x_11 x_12) ∧
 True) ∧
 ∃ (a : Option Addr),
 ∃ (l : Nat),
 ∃ (c : Nat),
 ∃ (w'_8 : World),
 appIs Proofs.Try.prog #[56, 56] 56
 (Value.slice
 (some
 (Addr.mk (Array.size (World.heap w'_6))
 0 none))
 0 0)
 (Value.slice x x_11 x_12)
 (Value.slice a l c) w'_7 w'_8 ∧
 ∃ (a_1 : Option Addr),
 ∃ (l_1 : Nat),
 ∃ (c_1 : Nat),
 ∃ (w'_9 : World),
 appIs Proofs.Try.prog #[56, 56] 56
 (Value.slice a l c)
 (Value.slice
 (some
 (Addr.mk
 (Array.size (World.heap w1))
 0 none))
 1 1)
 (Value.slice a_1 l_1 c_1) w'_8
 w'_9 ∧
 Wif (isP b)
 (wr w'_9 (pb b) (po b + 2) ∧
 ∀ (w'_10 : World),
 w'_10 =
 st w'_9 (pb b) (po b + 2)
 (Value.slice a_1 l_1
 c_1) →
 ∃ (x : Int),
 rd w'_10
 (Array.size
 (World.heap w'))
 0 =
 some
 (Value.int
 IntKind.i64 x) ∧
 K
 (Value.tuple
 #[Value.int
 IntKind.i64 x,
 Value.int
 IntKind.i64 0])
 w'_10)
 False)
 False))
 False)
 False)
 False)
 False)
 False)))
 False)
theorem vcE33 (b : Option
 Addr) (order : Int) (high : Bool) (w : World) (K : Value → World → Prop) : vcP33 b order high w K = Eng.wBody Go.Proofs.Try.prog (Eng.handOf Go.Proofs.Try.prog [44,
 27] 1) [] Go.Proofs.Try.f33 (Eng.bodyOf Go.Proofs.Try.f33) [Value.pointer b, Value.int IntKind.i64 order, Value.bool high] w K := by kernel_rfl
theorem vc33 (b : Option Addr) (order : Int) (high : Bool) (w : World) (K : Value → World → Prop) (h : vcP33 b order high w K) :
 Calls Go.Proofs.Try.prog 33 #[Value.pointer b, Value.int IntKind.i64 order, Value.bool high] w (fun e w' => ∃ v, e = .returned v ∧ K v w') :=
 Eng.vc_of [44, 27] 1 [] Go.Proofs.Try.mixes Go.Proofs.Try.func33 (by kernel_rfl) (by kernel_rfl) (vcE33 b order high w K) h

-- 50938 ms
/- (*byre/byreref06.Buddy).Give -/
def vcP34 (b : Option Addr) (at' : Int) (order : Int) (w : World) (K : Value → World → Prop) : Prop :=
 ∀ (w' : World),
 w' = World.alloc w (Obj.cells #[Value.int IntKind.i64 0, Value.int IntKind.i64 0] 58) →
 (wr w' (Array.size (World.heap w)) 0 ∧ wr w' (Array.size (World.heap w)) 1) ∧
 ∀ (w'_1 : World),
 w'_1 = st (st w' (Array.size (World.heap w)) 0 (Value.int IntKind.i64 at')) (Array.size (World.heap w)) 1 (Value.int IntKind.i64 order) →
 ∀ (w1 : World),
 w1 = World.drew w'_1 →
 Wif (isP b)
 (∃ (x : Option Addr),
 ∃ (x_1 : Nat),
 ∃ (x_2 : Nat),
 rd w1 (pb b) (po b + 2) = some (Value.slice x x_1 x_2) ∧
 ∃ (x_3 : Int),
 ∃ (x_4 : Int),
 (rd w1 (Array.size (World.heap w)) 0 = some (Value.int IntKind.i64 x_3) ∧ rd w1 (Array.size (World.heap w)) 1 = some (Value.int IntKind.i64 x_4)) ∧
 Calls Proofs.Try.prog 57 #[Value.slice x x_1 x_2, Value.agg #[Value.int IntKind.i64 x_3, Value.int IntKind.i64 x_4]] w1 fun (e : Ending) (w' : World) =>
 ∃ (a : Option Addr),
 ∃ (l : Nat),
 ∃ (c : Nat),
 ∃ (b_1 : Bool),
 e = Ending.returned (Value.tuple #[Value.slice a l c, Value.bool b_1]) ∧
 Wif (!b_1) (K (Value.int IntKind.i64 2) w')
 (Wif (isP b)
 (wr w' (pb b) (po b + 2) ∧
 ∀ (w'_2 : World),
 w'_2 = st w' (pb b) (po b + 2) (Value.slice a l c) →
 ∃ (I : World → Nat → Prop),
 (∃ (n : Nat), I w'_2 n) ∧
 ∀ (w' : World) (n : Nat),
 I w' n →
 ∃ (x : Int),
 rd w' (Array.size (World.heap w)) 1 = some (Value.int IntKind.i64 x) ∧
 Wif (decide (x < 10))
 (∃ (x : Int),
 rd w' (Array.size (World.heap w)) 1 = some (Value.int IntKind.i64 x) ∧
 Wif (decide (0 ≤ IntKind.wrap IntKind.u64 x))
 (∃ (x_5 : Int),
 rd w' (Array.size (World.heap w)) 0 = some (Value.int IntKind.i64 x_5) ∧
 ∃ (x_6 : Int),
 rd w' (Array.size (World.heap w)) 1 = some (Value.int IntKind.i64 x_6) ∧
 ∀ (w'_3 : World),
 w'_3 = World.alloc w' (Obj.cells #[Value.int IntKind.i64 0, Value.int IntKind.i64 0] 58) →
 (wr w'_3 (Array.size (World.heap w')) 0 ∧ wr w'_3 (Array.size (World.heap w')) 1) ∧
 ∀ (w'_4 : World),
 w'_4 =
 st
 (st w'_3 (Array.size (World.heap w')) 0
 (Value.int IntKind.i64
 (IntKind.wrap IntKind.i64
 (x_5 + IntKind.wrap IntKind.i64 (1 * 2 ^ min (Int.toNat (IntKind.wrap IntKind.u64 x)) 64)))))
 (Array.size (World.heap w')) 1 (Value.int IntKind.i64 x_6) →
 ∃ (x_7 : Int),
 rd w'_4 (Array.size (World.heap w)) 0 = some (Value.int IntKind.i64 x_7) ∧
 ∃ (x_8 : Int),
 rd w'_4 (Array.size (World.heap w)) 0 = some (Value.int IntKind.i64 x_8) ∧
 Wif (IntKind.wrap IntKind.i64 (1 * 2 ^ min (Int.toNat (IntKind.wrap IntKind.u64 x)) 64) != 0)
 (Wif
 (Int.tmod
 (IntKind.wrap IntKind.i64
 (Int.tdiv x_8
 (IntKind.wrap IntKind.i64 (1 * 2 ^ min (Int.toNat (IntKind.wrap IntKind.u64 x)) 64))))
 2 ==
 1)
 (∃ (x_9 : Int),
 rd w'_4 (Array.size (World.heap w)) 0 = some (Value.int IntKind.i64 x_9) ∧
 wr w'_4 (Array.size (World.heap w')) 0 ∧
 ∀ (w'_5 : World),
 w'_5 =
 st w'_4 (Array.size (World.heap w')) 0
 (Value.int IntKind.i64
 (IntKind.wrap IntKind.i64
 (x_9 -
 IntKind.wrap IntKind.i64
 (1 * 2 ^ min (Int.toNat (IntKind.wrap IntKind.u64 x)) 64)))) →
 ∃ (x : Int),
 rd w'_5 (Array.size (World.heap w')) 0 = some (Value.int IntKind.i64 x) ∧
 ∀ (w1 : World),
 w1 = World.drew w'_5 →
 Wif (isP b)
 (∃ (x_10 : Option Addr),
 ∃ (x_11 : Nat),
 ∃ (x_12 : Nat),
 rd w1 (pb b) (po b + 1) = some (Value.slice x_10 x_11 x_12) ∧
 ∃ (x_13 : Int),
 ∃ (x_14 : Int),
 (rd w1 (Array.size (World.heap w')) 0 =
 some (Value.int IntKind.i64 x_13) ∧
 rd w1 (Array.size (World.heap w')) 1 =
 some (Value.int IntKind.i64 x_14)) ∧
 Calls Proofs.Try.prog 57
 #[Value.slice x_10 x_11 x_12,
 Value.agg
 #[Value.int IntKind.i64 x_13,
 Value.int IntKind.i64 x_14]]
 w1 fun (e : Ending) (w' : World) =>
 ∃ (a : Option Addr),
 ∃ (l : Nat),
 ∃ (c : Nat),
 ∃ (b_2 : Bool),
 e =
 Ending.returned
 (Value.tuple
 #[Value.slice a l c, Value.bool b_2]) ∧
 Wif (!b_2)
 (∃ (x : Int),
 ∃ (x_15 : Int),
 (rd w' (Array.size (World.heap w)) 0 =
 some (Value.int IntKind.i64 x) ∧
 rd w' (Array.size (World.heap w)) 1 =
 some (Value.int IntKind.i64 x_15)) ∧
 Calls Proofs.Try.prog 58
 #[Value.pointer b,
 Value.agg
 #[Value.int IntKind.i64 x,
 Value.int IntKind.i64 x_15]]
 w' fun (e : Ending) (w' : World) =>
 e = Ending.returned (Value.tuple #[]) ∧
 K (Value.int IntKind.i64 0) w')
 (Wif (isP b)
 (wr w' (pb b) (po b + 1) ∧
 ∀ (w'_6 : World),
 w'_6 =
 st w' (pb b) (po b + 1)
 (Value.slice a l c) →
 ∃ (x_15 : Int),
 rd w'_6 (Array.size (World.heap w))
 1 =
 some
 (Value.int IntKind.i64 x_15) ∧
 (wr w'_6 (Array.size (World.heap w))
 0 ∧
 wr w'_6
 (Array.size (World.heap w))
 1) ∧
 ∀ (w' : World),
 w' =
 st
 (st w'_6
 (Array.size
 (World.heap w))
 0
 (Value.int IntKind.i64
 x))
 (Array.size
 (World.heap w))
 1
 (Value.int IntKind.i64
 (IntKind.wrap
 IntKind.i64
 (x_15 + 1))) →
 ∃ (m : Nat),
 Nat.succ m ≤ n ∧ I w' m)
 False))
 False)
 (∀ (w1 : World),
 w1 = World.drew w'_4 →
 Wif (isP b)
 (∃ (x : Option Addr),
 ∃ (x_9 : Nat),
 ∃ (x_10 : Nat),
 rd w1 (pb b) (po b + 1) = some (Value.slice x x_9 x_10) ∧
 ∃ (x_11 : Int),
 ∃ (x_12 : Int),
 (rd w1 (Array.size (World.heap w')) 0 = some (Value.int IntKind.i64 x_11) ∧
 rd w1 (Array.size (World.heap w')) 1 =
 some (Value.int IntKind.i64 x_12)) ∧
 Calls Proofs.Try.prog 57
 #[Value.slice x x_9 x_10,
 Value.agg #[Value.int IntKind.i64 x_11, Value.int IntKind.i64 x_12]]
 w1 fun (e : Ending) (w' : World) =>
 ∃ (a : Option Addr),
 ∃ (l : Nat),
 ∃ (c : Nat),
 ∃ (b_2 : Bool),
 e =
 Ending.returned
 (Value.tuple #[Value.slice a l c, Value.bool b_2]) ∧
 Wif (!b_2)
 (∃ (x : Int),
 ∃ (x_13 : Int),
 (rd w' (Array.size (World.heap w)) 0 =
 some (Value.int IntKind.i64 x) ∧
 rd w' (Array.size (World.heap w)) 1 =
 some (Value.int IntKind.i64 x_13)) ∧
 Calls Proofs.Try.prog 58
 #[Value.pointer b,
 Value.agg
 #[Value.int IntKind.i64 x,
 Value.int IntKind.i64 x_13]]
 w' fun (e : Ending) (w' : World) =>
 e = Ending.returned (Value.tuple #[]) ∧
 K (Value.int IntKind.i64 0) w')
 (Wif (isP b)
 (wr w' (pb b) (po b + 1) ∧
 ∀ (w'_5 : World),
 w'_5 = st w' (pb b) (po b + 1) (Value.slice a l c) →
 ∃ (x : Int),
 rd w'_5 (Array.size (World.heap w)) 1 =
 some (Value.int IntKind.i64 x) ∧
 (wr w'_5 (Array.size (World.heap w)) 0 ∧
 wr w'_5 (Array.size (World.heap w)) 1) ∧
 ∀ (w' : World),
 w' =
 st
 (st w'_5 (Array.size (World.heap w)) 0
 (Value.int IntKind.i64 x_7))
 (Array.size (World.heap w)) 1
 (Value.int IntKind.i64
 (IntKind.wrap IntKind.i64 (x + 1))) →
 ∃ (m : Nat), Nat.succ m ≤ n ∧ I w' m)
 False))
 False))
 False)
 False)
 (∃ (x : Int),
 ∃ (x_5 : Int),
 (rd w' (Array.size (World.heap w)) 0 = some (Value.int IntKind.i64 x) ∧
 rd w' (Array.size (World.heap w)) 1 = some (Value.int IntKind.i64 x_5)) ∧
 Calls Proofs.Try.prog 58 #[Value.pointer b, Value.agg #[Value.int IntKind.i64 x, Value.int IntKind.i64 x_5]] w'
 fun (e : Ending) (w' : World) => e = Ending.returned (Value.tuple #[]) ∧ K (Value.int IntKind.i64 0) w'))
 False))
 False
theorem vcE34 (b : Option
 Addr) (at' : Int) (order : Int) (w : World) (K : Value → World → Prop) : vcP34 b at' order w K = Eng.wBody Go.Proofs.Try.prog (Eng.handOf Go.Proofs.Try.prog [44,
 27] 1) [] Go.Proofs.Try.f34 (Eng.bodyOf Go.Proofs.Try.f34) [Value.pointer b, Value.int IntKind.i64 at', Value.int IntKind.i64 order] w K := by kernel_rfl
theorem vc34 (b : Option Addr) (at' : Int) (order : Int) (w : World) (K : Value → World → Prop) (h : vcP34 b at' order w K) :
 Calls Go.Proofs.Try.prog 34 #[Value.pointer b, Value.int IntKind.i64 at', Value.int IntKind.i64 order] w (fun e w' => ∃ v, e = .returned v ∧ K v w') :=
 Eng.vc_of [44, 27] 1 [] Go.Proofs.Try.mixes Go.Proofs.Try.func34 (by kernel_rfl) (by kernel_rfl) (vcE34 b at' order w K) h

-- 21572 ms
/- byre/byreref06.drop -/
def vcP57 (l : Option Addr) (lL : Nat) (lC : Nat) (x0 : Int) (x1 : Int) (w : World) (K : Value → World → Prop) : Prop :=
 ∀ (w' : World),
 w' = World.alloc w (Obj.cells #[Value.int IntKind.i64 x0, Value.int IntKind.i64 x1] 58) →
 ∃ (I : Option Addr → Nat → Nat → Bool → Int → World → Nat → Prop),
 (∃ (n : Nat), I none 0 0 false 0 w' n) ∧
 ∀ (a : Option Addr) (l_1 c : Nat) (b : Bool) (n : Int) (w' : World) (n_1 : Nat),
 I a l_1 c b n w' n_1 →
 Wif (decide (n < (↑lL : Int)))
 (∀ (w1 : World),
 w1 = World.drew w' →
 Wif (isP l)
 (Wif (inB n lL)
 (∃ (x : Int),
 ∃ (x_1 : Int),
 (rd w1 (pb l) (po l + Int.toNat n * 2) = some (Value.int IntKind.i64 x) ∧ rd w1 (pb l) (po l + Int.toNat n * 2 + 1) = some (Value.int IntKind.i64 x_1)) ∧
 ∃ (x_2 : Int),
 ∃ (x_3 : Int),
 (rd w1 (Array.size (World.heap w)) 0 = some (Value.int IntKind.i64 x_2) ∧ rd w1 (Array.size (World.heap w)) 1 = some (Value.int IntKind.i64 x_3)) ∧
 Wif (x == x_2 && (x_1 == x_3 && true)) (∃ (m : Nat), Nat.succ m ≤ n_1 ∧ I a l_1 c true (IntKind.wrap IntKind.i64 (n + 1)) w1 m)
 (Wif (isP l)
 (Wif (inB n lL)
 (∃ (x : Int),
 ∃ (x_4 : Int),
 (rd w1 (pb l) (po l + Int.toNat n * 2) = some (Value.int IntKind.i64 x) ∧ rd w1 (pb l) (po l + Int.toNat n * 2 + 1) = some (Value.int IntKind.i64 x_4)) ∧
 ∀ (w' : World),
 w' = World.alloc w1 (Obj.cells #[Value.int IntKind.i64 x, Value.int IntKind.i64 x_4] 58) →
 ∃ (a_1 : Option Addr),
 ∃ (l : Nat),
 ∃ (c_1 : Nat),
 ∃ (w'_1 : World),
 appIs Proofs.Try.prog #[56, 56] 56 (Value.slice a l_1 c) (Value.slice (some (Addr.mk (Array.size (World.heap w1)) 0 none)) 1 1)
 (Value.slice a_1 l c_1) w' w'_1 ∧
 ∃ (m : Nat), Nat.succ m ≤ n_1 ∧ I a_1 l c_1 b (IntKind.wrap IntKind.i64 (n + 1)) w'_1 m)
 False)
 False))
 False)
 False)
 (K (Value.tuple #[Value.slice a l_1 c, Value.bool b]) w')
theorem vcE57 (l : Option
 Addr) (lL : Nat) (lC : Nat) (x0 : Int) (x1 : Int) (w : World) (K : Value → World → Prop) : vcP57 l lL lC x0 x1 w K = Eng.wBody Go.Proofs.Try.prog (Eng.handOf Go.Proofs.Try.prog [44,
 27] 1) [] Go.Proofs.Try.f57 (Eng.bodyOf Go.Proofs.Try.f57) [Value.slice l lL lC, Value.agg #[Value.int IntKind.i64 x0, Value.int IntKind.i64 x1]] w K := by kernel_rfl
theorem vc57 (l : Option Addr) (lL : Nat) (lC : Nat) (x0 : Int) (x1 : Int) (w : World) (K : Value → World → Prop) (h : vcP57 l lL lC x0 x1 w K) :
 Calls Go.Proofs.Try.prog 57 #[Value.slice l lL lC, Value.agg #[Value.int IntKind.i64 x0, Value.int IntKind.i64 x1]] w (fun e w' => ∃ v, e = .returned v ∧ K v w') :=
 Eng.vc_of [44, 27] 1 [] Go.Proofs.Try.mixes Go.Proofs.Try.func57 (by kernel_rfl) (by kernel_rfl) (vcE57 l lL lC x0 x1 w K) h

-- 1793 ms
/- (*byre/byreref06.Buddy).put -/
def vcP58 (b : Option Addr) (x0 : Int) (x1 : Int) (w : World) (K : Value → World → Prop) : Prop :=
 ∀ (w' : World),
 w' = World.alloc w (Obj.cells #[Value.int IntKind.i64 x0, Value.int IntKind.i64 x1] 58) →
 ∃ (I : Option Addr → Nat → Nat → Bool → Int → World → Nat → Prop),
 (∃ (n : Nat), I none 0 0 false 0 w' n) ∧
 ∀ (a : Option Addr) (l c : Nat) (b_1 : Bool) (n : Int) (w' : World) (n_1 : Nat),
 I a l c b_1 n w' n_1 →
 Wif (isP b)
 (∃ (x : Option Addr),
 ∃ (x_1 : Nat),
 ∃ (x_2 : Nat),
 rd w' (pb b) (po b + 1) = some (Value.slice x x_1 x_2) ∧
 Wif (decide (n < (↑x_1 : Int)))
 (∀ (w1 : World),
 w1 = World.drew w' →
 gIf (isP b) ((!b_1) = true)
 (∃ (x : Option Addr),
 ∃ (x_3 : Nat),
 ∃ (x_4 : Nat),
 ((!b_1) = true → rd w1 (pb b) (po b + 1) = some (Value.slice x x_3 x_4)) ∧
 gIf (isP x) ((!b_1) = true)
 (gIf (inB n x_3) ((!b_1) = true)
 (∃ (x_5 : Int),
 ((!b_1) = true → rd w1 (pb x) (po x + Int.toNat n * 2) = some (Value.int IntKind.i64 x_5)) ∧
 ∃ (x : Int),
 ((!b_1) = true → rd w1 (Array.size (World.heap w)) 0 = some (Value.int IntKind.i64 x)) ∧
 Wif (!b_1 && decide (x_5 > x))
 (∃ (x : Int),
 ∃ (x_6 : Int),
 (rd w1 (Array.size (World.heap w)) 0 = some (Value.int IntKind.i64 x) ∧
 rd w1 (Array.size (World.heap w)) 1 = some (Value.int IntKind.i64 x_6)) ∧
 ∀ (w' : World),
 w' = World.alloc w1 (Obj.cells #[Value.int IntKind.i64 x, Value.int IntKind.i64 x_6] 58) →
 ∃ (a_1 : Option Addr),
 ∃ (l_1 : Nat),
 ∃ (c_1 : Nat),
 ∃ (w'_1 : World),
 appIs Proofs.Try.prog #[56, 56] 56 (Value.slice a l c) (Value.slice (some (Addr.mk (Array.size (World.heap w1)) 0 none)) 1 1)
 (Value.slice a_1 l_1 c_1) w' w'_1 ∧
 Wif (isP b)
 (∃ (x : Option Addr),
 ∃ (x_7 : Nat),
 ∃ (x_8 : Nat),
 rd w'_1 (pb b) (po b + 1) = some (Value.slice x x_7 x_8) ∧
 Wif (isP x)
 (Wif (inB n x_7)
 (∃ (x_9 : Int),
 ∃ (x_10 : Int),
 (rd w'_1 (pb x) (po x + Int.toNat n * 2) = some (Value.int IntKind.i64 x_9) ∧
 rd w'_1 (pb x) (po x + Int.toNat n * 2 + 1) = some (Value.int IntKind.i64 x_10)) ∧
 ∀ (w' : World),
 w' = World.alloc w'_1 (Obj.cells #[Value.int IntKind.i64 x_9, Value.int IntKind.i64 x_10] 58) →
 ∃ (a : Option Addr),
 ∃ (l : Nat),
 ∃ (c : Nat),
 ∃ (w'_2 : World),
 appIs Proofs.Try.prog #[56, 56] 56 (Value.slice a_1 l_1 c_1)
 (Value.slice (some (Addr.mk (Array.size (World.heap w'_1)) 0 none)) 1 1)
 (Value.slice a l c) w' w'_2 ∧
 ∃ (m : Nat), Nat.succ m ≤ n_1 ∧ I a l c true (IntKind.wrap IntKind.i64 (n + 1)) w'_2 m)
 False)
 False)
 False)
 (Wif (isP b)
 (∃ (x : Option Addr),
 ∃ (x_6 : Nat),
 ∃ (x_7 : Nat),
 rd w1 (pb b) (po b + 1) = some (Value.slice x x_6 x_7) ∧
 Wif (isP x)
 (Wif (inB n x_6)
 (∃ (x_8 : Int),
 ∃ (x_9 : Int),
 (rd w1 (pb x) (po x + Int.toNat n * 2) = some (Value.int IntKind.i64 x_8) ∧
 rd w1 (pb x) (po x + Int.toNat n * 2 + 1) = some (Value.int IntKind.i64 x_9)) ∧
 ∀ (w' : World),
 w' = World.alloc w1 (Obj.cells #[Value.int IntKind.i64 x_8, Value.int IntKind.i64 x_9] 58) →
 ∃ (a_1 : Option Addr),
 ∃ (l_1 : Nat),
 ∃ (c_1 : Nat),
 ∃ (w'_1 : World),
 appIs Proofs.Try.prog #[56, 56] 56 (Value.slice a l c)
 (Value.slice (some (Addr.mk (Array.size (World.heap w1)) 0 none)) 1 1) (Value.slice a_1 l_1 c_1) w' w'_1 ∧
 ∃ (m : Nat), Nat.succ m ≤ n_1 ∧ I a_1 l_1 c_1 b_1 (IntKind.wrap IntKind.i64 (n + 1)) w'_1 m)
 False)
 False)
 False)))))
 (Wif (!b_1)
 (∃ (x : Int),
 ∃ (x_3 : Int),
 (rd w' (Array.size (World.heap w)) 0 = some (Value.int IntKind.i64 x) ∧ rd w' (Array.size (World.heap w)) 1 = some (Value.int IntKind.i64 x_3)) ∧
 ∀ (w'_1 : World),
 w'_1 = World.alloc w' (Obj.cells #[Value.int IntKind.i64 x, Value.int IntKind.i64 x_3] 58) →
 ∃ (a_1 : Option Addr),
 ∃ (l_1 : Nat),
 ∃ (c_1 : Nat),
 ∃ (w'_2 : World),
 appIs Proofs.Try.prog #[56, 56] 56 (Value.slice a l c) (Value.slice (some (Addr.mk (Array.size (World.heap w')) 0 none)) 1 1) (Value.slice a_1 l_1 c_1)
 w'_1 w'_2 ∧
 Wif (isP b) (wr w'_2 (pb b) (po b + 1) ∧ ∀ (w' : World), w' = st w'_2 (pb b) (po b + 1) (Value.slice a_1 l_1 c_1) → K (Value.tuple #[]) w') False)
 (Wif (isP b) (wr w' (pb b) (po b + 1) ∧ ∀ (w'_1 : World), w'_1 = st w' (pb b) (po b + 1) (Value.slice a l c) → K (Value.tuple #[]) w'_1) False)))
 False
theorem vcE58 (b : Option
 Addr) (x0 : Int) (x1 : Int) (w : World) (K : Value → World → Prop) : vcP58 b x0 x1 w K = Eng.wBody Go.Proofs.Try.prog (Eng.handOf Go.Proofs.Try.prog [44,
 27] 1) [] Go.Proofs.Try.f58 (Eng.bodyOf Go.Proofs.Try.f58) [Value.pointer b, Value.agg #[Value.int IntKind.i64 x0, Value.int IntKind.i64 x1]] w K := by kernel_rfl
theorem vc58 (b : Option Addr) (x0 : Int) (x1 : Int) (w : World) (K : Value → World → Prop) (h : vcP58 b x0 x1 w K) :
 Calls Go.Proofs.Try.prog 58 #[Value.pointer b, Value.agg #[Value.int IntKind.i64 x0, Value.int IntKind.i64 x1]] w (fun e w' => ∃ v, e = .returned v ∧ K v w') :=
 Eng.vc_of [44, 27] 1 [] Go.Proofs.Try.mixes Go.Proofs.Try.func58 (by kernel_rfl) (by kernel_rfl) (vcE58 b x0 x1 w K) h

-- 7850 ms
/- byre/byrelaw06.same -/
def vcP32 (b : Option Addr) (w' : Option Addr) (w : World) (K : Value → World → Prop) : Prop :=
 ∀ (w'_1 : World),
 w'_1 = World.alloc w (Obj.cells #[Value.pointer w'] 70) →
 ∀ (w' : World),
 w' = World.alloc w'_1 (Obj.cells #[Value.bool false] 4) →
 ∀ (w'_2 : World),
 w'_2 = World.alloc w' (Obj.cells #[Value.int IntKind.i64 0] 3) →
 ∀ (w'_3 : World),
 w'_3 = World.alloc w'_2 (Obj.cells #[Value.int IntKind.i64 0] 3) →
 ∀ (w'_4 : World),
 w'_4 = World.alloc w'_3 (Obj.cells #[Value.int IntKind.i64 0] 3) →
 wr w'_4 (Array.size (World.heap w')) 0 ∧
 ∀ (w'_5 : World),
 w'_5 = st w'_4 (Array.size (World.heap w')) 0 (Value.int IntKind.i64 0) →
 wr w'_5 (Array.size (World.heap w'_2)) 0 ∧
 ∀ (w'_6 : World),
 w'_6 = st w'_5 (Array.size (World.heap w'_2)) 0 (Value.int IntKind.i64 (-1)) →
 wr w'_6 (Array.size (World.heap w'_3)) 0 ∧
 ∀ (w'_7 : World),
 w'_7 = st w'_6 (Array.size (World.heap w'_3)) 0 (Value.int IntKind.i64 0) →
 ∀ (w'_8 : World),
 w'_8 = World.alloc w'_7 (Obj.cells #[Value.pointer b] 23) →
 ∀ (w'_9 : World),
 w'_9 = World.alloc w'_8 (Obj.cells #[Value.pointer b] 23) →
 ∃ (xss : List (List Value)),
 ∃ (R : Nat → Prop),
 ∃ (I : (Nat → Prop) → Nat → World → Prop),
 ∃ (X : Nat → (Nat → Prop) → World → Prop),
 (GivesV Proofs.Try.prog 54 [Value.pointer (some (Addr.mk (Array.size (World.heap w'_8)) 0 none))] xss R w'_9 ∧
 (∀ (xs : List Value),
 List.Mem xs xss →
 List.length xs = 1 ∧ ∃ (n : Int), ∃ (n_1 : Int), xs = [Value.agg #[Value.int IntKind.i64 n, Value.int IntKind.i64 n_1]]) ∧
 ∀ (b : Nat), R b → Nat.succ b ≤ Array.size (World.heap w'_9)) ∧
 (∀ (w1 : World), Kept none' w'_9 w1 → Array.size (World.heap w1) = Array.size (World.heap w'_9) + 2 → I (fun (x : Nat) => False) 0 w1) ∧
 (∀ (Y : Nat → Prop) (i : Nat) (W W' : World),
 I Y i W →
 (∀ (b : Nat), Y b → Array.size (World.heap w'_9) + 2 ≤ b) →
 Kept (recsY (Array.size (World.heap w'_9)) Y) W W' →
 I (fun (b : Nat) => Y b ∨ Array.size (World.heap W) ≤ b ∧ Nat.succ b ≤ Array.size (World.heap W')) i W') ∧
 (∀ (k : Nat) (Y : Nat → Prop) (W W' : World),
 X k Y W →
 (∀ (b : Nat), Y b → Array.size (World.heap w'_9) + 2 ≤ b) →
 Kept (recsY (Array.size (World.heap w'_9)) Y) W W' →
 X k (fun (b : Nat) => Y b ∨ Array.size (World.heap W) ≤ b ∧ Nat.succ b ≤ Array.size (World.heap W')) W') ∧
 (∀ (Y : Nat → Prop) (i : Nat) (W : World),
 I Y i W →
 (∀ (b : Nat), Y b → Array.size (World.heap w'_9) + 2 ≤ b) →
 Array.size (World.heap w'_9) + 2 ≤ Array.size (World.heap W) →
 ∀ (n n_1 : Int),
 xss[i]? = some [Value.agg #[Value.int IntKind.i64 n, Value.int IntKind.i64 n_1]] →
 ∀ (w'_10 : World),
 w'_10 = World.alloc W (Obj.cells #[Value.int IntKind.i64 0, Value.int IntKind.i64 0] 58) →
 (wr w'_10 (Array.size (World.heap W)) 0 ∧ wr w'_10 (Array.size (World.heap W)) 1) ∧
 ∀ (w'_11 : World),
 w'_11 =
 st (st w'_10 (Array.size (World.heap W)) 0 (Value.int IntKind.i64 n)) (Array.size (World.heap W)) 1
 (Value.int IntKind.i64 n_1) →
 RecKept (Array.size (World.heap w'_9)) W w'_11 ∧
 ∀ (w2 : World),
 Kept (fun (b : Nat) => b = Array.size (World.heap w'_9) + 1) w'_11 w2 →
 Array.size (World.heap w2) = Array.size (World.heap w'_11) →
 ∀ (w1 : World),
 w1 = World.drew w2 →
 ∃ (x : Int),
 rd w1 (Array.size (World.heap w')) 0 = some (Value.int IntKind.i64 x) ∧
 ∃ (x_1 : Option Addr),
 rd w1 (Array.size (World.heap w)) 0 = some (Value.pointer x_1) ∧
 Wif (isP x_1)
 (∃ (x_2 : Option Addr),
 ∃ (x_3 : Nat),
 ∃ (x_4 : Nat),
 rd w1 (pb x_1) (po x_1 + 1) = some (Value.slice x_2 x_3 x_4) ∧
 ∃ (x_5 : Int),
 ∃ (x_6 : Int),
 (decide (x ≥ (↑x_3 : Int)) = false →
 rd w1 (Array.size (World.heap W)) 0 = some (Value.int IntKind.i64 x_5) ∧
 rd w1 (Array.size (World.heap W)) 1 =
 some (Value.int IntKind.i64 x_6)) ∧
 ∃ (x_7 : Option Addr),
 (decide (x ≥ (↑x_3 : Int)) = false →
 rd w1 (Array.size (World.heap w)) 0 = some (Value.pointer x_7)) ∧
 gIf (isP x_7) (decide (x ≥ (↑x_3 : Int)) = false)
 (∃ (x_8 : Option Addr),
 ∃ (x_9 : Nat),
 ∃ (x_10 : Nat),
 (decide (x ≥ (↑x_3 : Int)) = false →
 rd w1 (pb x_7) (po x_7 + 1) =
 some (Value.slice x_8 x_9 x_10)) ∧
 ∃ (x_11 : Int),
 (decide (x ≥ (↑x_3 : Int)) = false →
 rd w1 (Array.size (World.heap w')) 0 =
 some (Value.int IntKind.i64 x_11)) ∧
 gIf (isP x_8) (decide (x ≥ (↑x_3 : Int)) = false)
 (gIf (inB x_11 x_9) (decide (x ≥ (↑x_3 : Int)) = false)
 (∃ (x_12 : Int),
 ∃ (x_13 : Int),
 (decide (x ≥ (↑x_3 : Int)) = false →
 rd w1 (pb x_8) (po x_8 + Int.toNat x_11 * 2) =
 some (Value.int IntKind.i64 x_12) ∧
 rd w1 (pb x_8)
 (po x_8 + Int.toNat x_11 * 2 + 1) =
 some (Value.int IntKind.i64 x_13)) ∧
 Wif
 (decide (x ≥ (↑x_3 : Int)) ||
 !(x_5 == x_12 && (x_6 == x_13 && true)))
 (wr w1 (Array.size (World.heap w'_1)) 0 ∧
 ∀ (w' : World),
 w' =
 st w1 (Array.size (World.heap w'_1)) 0
 (Value.bool false) →
 RecKept (Array.size (World.heap w'_9))
 w2 w' ∧
 KeptY (fun (b : Nat) => Y b ∨ R b) W
 w' ∧
 X 0 Y w')
 (∃ (x : Int),
 rd w1 (Array.size (World.heap w')) 0 =
 some (Value.int IntKind.i64 x) ∧
 wr w1 (Array.size (World.heap w')) 0 ∧
 ∀ (w'_12 : World),
 w'_12 =
 st w1 (Array.size (World.heap w'))
 0
 (Value.int IntKind.i64
 (IntKind.wrap IntKind.i64
 (x + 1))) →
 ∃ (x : Int),
 rd w'_12
 (Array.size
 (World.heap w'_2))
 0 =
 some
 (Value.int IntKind.i64 x) ∧
 ∃ (x_14 : Int),
 rd w'_12
 (Array.size
 (World.heap W))
 1 =
 some
 (Value.int IntKind.i64
 x_14) ∧
 wr w'_12
 (Array.size
 (World.heap w'_2))
 0 ∧
 ∀ (w' : World),
 w' =
 st w'_12
 (Array.size
 (World.heap
 w'_2))
 0
 (Value.int
 IntKind.i64
 (if
 x_14 >
 x then
 x_14
 else x)) →
 ∀ (w1 : World),
 w1 = World.drew w' →
 ∃ (x : Int),
 rd w1
 (Array.size
 (World.heap
 w'_3))
 0 =
 some
 (Value.int
 IntKind.i64
 x) ∧
 ∃ (x_15 :
 Int),
 rd w1
 (Array.size
 (World.heap
 W))
 1 =
 some
 (Value.int
 IntKind.i64
 x_15) ∧
 Wif
 (decide
 (0 ≤
 x_15))
 (wr w1
 (Array.size
 (World.heap
 w'_3))
 0 ∧
 ∀
 (w' :
 World),
 w' =
 st
 w1
 (Array.size
 (World.heap
 w'_3))
 0
 (Value.int
 IntKind.i64
 (IntKind.wrap
 IntKind.i64
 (x +
 IntKind.wrap
 IntKind.i64
 (1 *
 2 ^
 min
 (Int.toNat
 x_15)
 64)))) →
 RecKept
 (Array.size
 (World.heap
 w'_9))
 w2
 w' ∧
 KeptY
 (fun
 (b :
 Nat) =>
 Y
 b ∨
 R
 b)
 W
 w' ∧
 I
 Y
 (i +
 1)
 w')
 False)))))
 False) ∧
 (∀ (Y : Nat → Prop) (W : World),
 I Y (List.length xss) W →
 DefAt (Array.size (World.heap w'_9)) W →
 ∀ (w'_10 : World),
 w'_10 = World.alloc W (Obj.cells #[Value.pointer b] 23) →
 ∀ (w'_11 : World),
 w'_11 = World.alloc w'_10 (Obj.cells #[Value.pointer b] 23) →
 ∃ (xss : List (List Value)),
 ∃ (R : Nat → Prop),
 ∃ (I : (Nat → Prop) → Nat → World → Prop),
 ∃ (X : Nat → (Nat → Prop) → World → Prop),
 (GivesV Proofs.Try.prog 54 [Value.pointer (some (Addr.mk (Array.size (World.heap w'_10)) 0 none))] xss R
 w'_11 ∧
 (∀ (xs : List Value), List.Mem xs xss → List.length xs = 1 ∧ ∃ (v : Value), xs = [v]) ∧
 ∀ (b : Nat), R b → Nat.succ b ≤ Array.size (World.heap w'_11)) ∧
 (∀ (w1 : World),
 Kept none' w'_11 w1 →
 Array.size (World.heap w1) = Array.size (World.heap w'_11) + 2 → I (fun (x : Nat) => False) 0 w1) ∧
 (∀ (Y : Nat → Prop) (i : Nat) (W W' : World),
 I Y i W →
 (∀ (b : Nat), Y b → Array.size (World.heap w'_11) + 2 ≤ b) →
 Kept (recsY (Array.size (World.heap w'_11)) Y) W W' →
 I
 (fun (b : Nat) =>
 Y b ∨ Array.size (World.heap W) ≤ b ∧ Nat.succ b ≤ Array.size (World.heap W'))
 i W') ∧
 (∀ (k : Nat) (Y : Nat → Prop) (W W' : World),
 X k Y W →
 (∀ (b : Nat), Y b → Array.size (World.heap w'_11) + 2 ≤ b) →
 Kept (recsY (Array.size (World.heap w'_11)) Y) W W' →
 X k
 (fun (b : Nat) =>
 Y b ∨ Array.size (World.heap W) ≤ b ∧ Nat.succ b ≤ Array.size (World.heap W'))
 W') ∧
 (∀ (Y : Nat → Prop) (i : Nat) (W : World),
 I Y i W →
 (∀ (b : Nat), Y b → Array.size (World.heap w'_11) + 2 ≤ b) →
 Array.size (World.heap w'_11) + 2 ≤ Array.size (World.heap W) →
 ∀ (v : Value),
 xss[i]? = some [v] →
 RecKept (Array.size (World.heap w'_11)) W W ∧
 ∀ (w2 : World),
 Kept (fun (b : Nat) => b = Array.size (World.heap w'_11) + 1) W w2 →
 Array.size (World.heap w2) = Array.size (World.heap W) →
 RecKept (Array.size (World.heap w'_11)) w2 w2 ∧
 KeptY (fun (b : Nat) => Y b ∨ R b) W w2 ∧ X 3 Y w2) ∧
 (∀ (Y : Nat → Prop) (W : World),
 I Y (List.length xss) W →
 DefAt (Array.size (World.heap w'_11)) W →
 ∀ (w1 : World),
 w1 = World.drew W →
 ∃ (x : Int),
 rd w1 (Array.size (World.heap w')) 0 = some (Value.int IntKind.i64 x) ∧
 ∃ (x_1 : Option Addr),
 rd w1 (Array.size (World.heap w)) 0 = some (Value.pointer x_1) ∧
 Wif (isP x_1)
 (∃ (x_2 : Option Addr),
 ∃ (x_3 : Nat),
 ∃ (x_4 : Nat),
 rd w1 (pb x_1) (po x_1 + 1) = some (Value.slice x_2 x_3 x_4) ∧
 ∃ (x_5 : Int),
 ((x == (↑x_3 : Int)) = true →
 rd w1 (Array.size (World.heap w'_2)) 0 =
 some (Value.int IntKind.i64 x_5)) ∧
 Wif (x == (↑x_3 : Int))
 (Calls Proofs.Try.prog 17 #[Value.pointer b] w1
 fun (e : Ending) (w' : World) =>
 ∃ (n : Int),
 e = Ending.returned (Value.int IntKind.i64 n) ∧
 ((x == (↑x_3 : Int)) = true →
 rd w' (Array.size (World.heap w'_2)) 0 =
 some (Value.int IntKind.i64 x_5) ∧
 True) ∧
 (rd w' (Array.size (World.heap w)) 0 =
 some (Value.pointer x_1) ∧
 True) ∧
 ∃ (x : Int),
 ((n == x_5) = true →
 rd w' (Array.size (World.heap w'_3)) 0 =
 some (Value.int IntKind.i64 x)) ∧
 Wif (n == x_5)
 (Calls Proofs.Try.prog 19 #[Value.pointer b] w'
 fun (e : Ending) (w' : World) =>
 ∃ (n_1 : Int),
 e =
 Ending.returned
 (Value.int IntKind.i64 n_1) ∧
 ((n == x_5) = true →
 rd w' (Array.size (World.heap w'_3))
 0 =
 some (Value.int IntKind.i64 x) ∧
 True) ∧
 (rd w' (Array.size (World.heap w)) 0 =
 some (Value.pointer x_1) ∧
 True) ∧
 ∃ (x_6 : Option Addr),
 ((n_1 == x) = true →
 rd w'
 (Array.size (World.heap w))
 0 =
 some (Value.pointer x_6)) ∧
 gIf (isP x_6) ((n_1 == x) = true)
 (∃ (x_7 : Int),
 ((n_1 == x) = true →
 rd w' (pb x_6) (po x_6) =
 some
 (Value.int IntKind.i64
 x_7)) ∧
 Wif (n_1 == x)
 (Calls Proofs.Try.prog 35
 #[Value.pointer b] w'
 fun (e : Ending)
 (w' : World) =>
 ∃ (n : Int),
 e =
 Ending.returned
 (Value.int
 IntKind.i64
 n) ∧
 ((n_1 == x) = true →
 rd w' (pb x_6)
 (po x_6) =
 some
 (Value.int
 IntKind.i64
 x_7) ∧
 True) ∧
 ((n_1 == x) =
 true →
 rd w'
 (Array.size
 (World.heap
 w))
 0 =
 some
 (Value.pointer
 x_6) ∧
 True) ∧
 (rd w'
 (Array.size
 (World.heap
 w))
 0 =
 some
 (Value.pointer
 x_1) ∧
 True) ∧
 wr w'
 (Array.size
 (World.heap
 w'_1))
 0 ∧
 ∀
 (w'_12 :
 World),
 w'_12 =
 st w'
 (Array.size
 (World.heap
 w'_1))
 0
 (Value.bool
 (n ==
 x_7)) →
 DefsAt
 [Array.size
 (World.heap
 w'_11),
 Array.size
 (World.heap
 w'_9)]
 w'_12 ∧
 ∀
 (w2 :
 World),
 Kept
 (fun
 (b :
 Nat) =>
 List.Mem
 b
 [Array.size
 (World.heap
 w'_11),
 Array.size
 (World.heap
 w'_9)])
 w'_12
 w2 →
 Array.size
 (World.heap
 w2) =
 Array.size
 (World.heap
 w'_12) →
 ∃
 (x
 :
 Bool),
 rd
 w2
 (Array.size
 (World.heap
 w'_1))
 0 =
 some
 (Value.bool
 x) ∧
 K
 (Value.bool
 x)
 w2)
 (((n_1 == x) = true →
 rd w' (pb x_6)
 (po x_6) =
 some
 (Value.int
 IntKind.i64
 x_7) ∧
 True) ∧
 ((n_1 == x) = true →
 rd w'
 (Array.size
 (World.heap
 w))
 0 =
 some
 (Value.pointer
 x_6) ∧
 True) ∧
 (rd w'
 (Array.size
 (World.heap
 w))
 0 =
 some
 (Value.pointer
 x_1) ∧
 True) ∧
 wr w'
 (Array.size
 (World.heap
 w'_1))
 0 ∧
 ∀ (w'_12 : World),
 w'_12 =
 st w'
 (Array.size
 (World.heap
 w'_1))
 0
 (Value.bool
 false) →
 DefsAt
 [Array.size
 (World.heap
 w'_11),
 Array.size
 (World.heap
 w'_9)]
 w'_12 ∧
 ∀
 (w2 :
 World),
 Kept
 (fun
 (b :
 Nat) =>
 List.Mem
 b
 [Array.size
 (World.heap
 w'_11),
 Array.size
 (World.heap
 w'_9)])
 w'_12
 w2 →
 Array.size
 (World.heap
 w2) =
 Array.size
 (World.heap
 w'_12) →
 ∃ (x :
 Bool),
 rd
 w2
 (Array.size
 (World.heap
 w'_1))
 0 =
 some
 (Value.bool
 x) ∧
 K
 (Value.bool
 x)
 w2)))
 (((n == x_5) = true →
 rd w' (Array.size (World.heap w'_3)) 0 =
 some (Value.int IntKind.i64 x) ∧
 True) ∧
 (rd w' (Array.size (World.heap w)) 0 =
 some (Value.pointer x_1) ∧
 True) ∧
 (rd w' (Array.size (World.heap w)) 0 =
 some (Value.pointer x_1) ∧
 True) ∧
 wr w' (Array.size (World.heap w'_1)) 0 ∧
 ∀ (w'_12 : World),
 w'_12 =
 st w'
 (Array.size (World.heap w'_1)) 0
 (Value.bool false) →
 DefsAt
 [Array.size (World.heap w'_11),
 Array.size (World.heap w'_9)]
 w'_12 ∧
 ∀ (w2 : World),
 Kept
 (fun (b : Nat) =>
 List.Mem b
 [Array.size
 (World.heap w'_11),
 Array.size
 (World.heap w'_9)])
 w'_12 w2 →
 Array.size (World.heap w2) =
 Array.size
 (World.heap w'_12) →
 ∃ (x : Bool),
 rd w2
 (Array.size
 (World.heap w'_1))
 0 =
 some (Value.bool x) ∧
 K (Value.bool x) w2))
 (((x == (↑x_3 : Int)) = true →
 rd w1 (Array.size (World.heap w'_2)) 0 =
 some (Value.int IntKind.i64 x_5) ∧
 True) ∧
 (rd w1 (Array.size (World.heap w)) 0 =
 some (Value.pointer x_1) ∧
 True) ∧
 (rd w1 (Array.size (World.heap w)) 0 =
 some (Value.pointer x_1) ∧
 True) ∧
 (rd w1 (Array.size (World.heap w)) 0 =
 some (Value.pointer x_1) ∧
 True) ∧
 wr w1 (Array.size (World.heap w'_1)) 0 ∧
 ∀ (w' : World),
 w' =
 st w1 (Array.size (World.heap w'_1)) 0
 (Value.bool false) →
 DefsAt
 [Array.size (World.heap w'_11),
 Array.size (World.heap w'_9)]
 w' ∧
 ∀ (w2 : World),
 Kept
 (fun (b : Nat) =>
 List.Mem b
 [Array.size (World.heap w'_11),
 Array.size (World.heap w'_9)])
 w' w2 →
 Array.size (World.heap w2) =
 Array.size (World.heap w') →
 ∃ (x : Bool),
 rd w2 (Array.size (World.heap w'_1)) 0 =
 some (Value.bool x) ∧
 K (Value.bool x) w2))
 False) ∧
 (∀ (Y : Nat → Prop) (W : World),
 X 0 Y W →
 DefAt (Array.size (World.heap w'_11)) W →
 DefsAt [Array.size (World.heap w'_11), Array.size (World.heap w'_9)] W ∧
 ∀ (w2 : World),
 Kept
 (fun (b : Nat) =>
 List.Mem b [Array.size (World.heap w'_11), Array.size (World.heap w'_9)])
 W w2 →
 Array.size (World.heap w2) = Array.size (World.heap W) →
 ∃ (x : Bool),
 rd w2 (Array.size (World.heap w'_1)) 0 = some (Value.bool x) ∧
 K (Value.bool x) w2) ∧
 ∀ (Y : Nat → Prop) (W : World),
 X 3 Y W →
 DefAt (Array.size (World.heap w'_11)) W →
 ∀ (w1 : World),
 w1 = World.drew W →
 ∃ (x : Int),
 rd w1 (Array.size (World.heap w')) 0 = some (Value.int IntKind.i64 x) ∧
 ∃ (x_1 : Option Addr),
 rd w1 (Array.size (World.heap w)) 0 = some (Value.pointer x_1) ∧
 Wif (isP x_1)
 (∃ (x_2 : Option Addr),
 ∃ (x_3 : Nat),
 ∃ (x_4 : Nat),
 rd w1 (pb x_1) (po x_1 + 1) = some (Value.slice x_2 x_3 x_4) ∧
 ∃ (x_5 : Int),
 ((x == (↑x_3 : Int)) = true →
 rd w1 (Array.size (World.heap w'_2)) 0 =
 some (Value.int IntKind.i64 x_5)) ∧
 Wif (x == (↑x_3 : Int))
 (Calls Proofs.Try.prog 17 #[Value.pointer b] w1
 fun (e : Ending) (w' : World) =>
 ∃ (n : Int),
 e = Ending.returned (Value.int IntKind.i64 n) ∧
 ((x == (↑x_3 : Int)) = true →
 rd w' (Array.size (World.heap w'_2)) 0 =
 some (Value.int IntKind.i64 x_5) ∧
 True) ∧
 (rd w' (Array.size (World.heap w)) 0 =
 some (Value.pointer x_1) ∧
 True) ∧
 ∃ (x : Int),
 ((n == x_5) = true →
 rd w' (Array.size (World.heap w'_3)) 0 =
 some (Value.int IntKind.i64 x)) ∧
 Wif (n == x_5)
 (Calls Proofs.Try.prog 19 #[Value.pointer b]
 w' fun (e : Ending) (w' : World) =>
 ∃ (n_1 : Int),
 e =
 Ending.returned
 (Value.int IntKind.i64 n_1) ∧
 ((n == x_5) = true →
 rd w' (Array.size (World.heap w'_3))
 0 =
 some (Value.int IntKind.i64 x) ∧
 True) ∧
 (rd w' (Array.size (World.heap w)) 0 =
 some (Value.pointer x_1) ∧
 True) ∧
 ∃ (x_6 : Option Addr),
 ((n_1 == x) = true →
 rd w'
 (Array.size
 (World.heap w))
 0 =
 some (Value.pointer x_6)) ∧
 gIf (isP x_6)
 ((n_1 == x) = true)
 (∃ (x_7 : Int),
 ((n_1 == x) = true →
 rd w' (pb x_6)
 (po x_6) =
 some
 (Value.int
 IntKind.i64
 x_7)) ∧
 Wif (n_1 == x)
 (Calls Proofs.Try.prog
 35 #[Value.pointer b]
 w'
 fun (e : Ending)
 (w' : World) =>
 ∃ (n : Int),
 e =
 Ending.returned
 (Value.int
 IntKind.i64
 n) ∧
 ((n_1 == x) =
 true →
 rd w' (pb x_6)
 (po
 x_6) =
 some
 (Value.int
 IntKind.i64
 x_7) ∧
 True) ∧
 ((n_1 == x) =
 true →
 rd w'
 (Array.size
 (World.heap
 w))
 0 =
 some
 (Value.pointer
 x_6) ∧
 True) ∧
 (rd w'
 (Array.size
 (World.heap
 w))
 0 =
 some
 (Value.pointer
 x_1) ∧
 True) ∧
 wr w'
 (Array.size
 (World.heap
 w'_1))
 0 ∧
 ∀
 (w'_12 :
 World),
 w'_12 =
 st
 w'
 (Array.size
 (World.heap
 w'_1))
 0
 (Value.bool
 (n ==
 x_7)) →
 DefsAt
 [Array.size
 (World.heap
 w'_11),
 Array.size
 (World.heap
 w'_9)]
 w'_12 ∧
 ∀
 (w2 :
 World),
 Kept
 (fun
 (b :
 Nat) =>
 List.Mem
 b
 [Array.size
 (World.heap
 w'_11),
 Array.size
 (World.heap
 w'_9)])
 w'_12
 w2 →
 Array.size
 (World.heap
 w2) =
 Array.size
 (World.heap
 w'_12) →
 ∃
 (x
 :
 Bool),
 rd
 w2
 (Array.size
 (World.heap
 w'_1))
 0 =
 some
 (Value.bool
 x) ∧
 K
 (Value.bool
 x)
 w2)
 (((n_1 == x) = true →
 rd w' (pb x_6)
 (po x_6) =
 some
 (Value.int
 IntKind.i64
 x_7) ∧
 True) ∧
 ((n_1 == x) = true →
 rd w'
 (Array.size
 (World.heap
 w))
 0 =
 some
 (Value.pointer
 x_6) ∧
 True) ∧
 (rd w'
 (Array.size
 (World.heap
 w))
 0 =
 some
 (Value.pointer
 x_1) ∧
 True) ∧
 wr w'
 (Array.size
 (World.heap
 w'_1))
 0 ∧
 ∀
 (w'_12 :
 World),
 w'_12 =
 st w'
 (Array.size
 (World.heap
 w'_1))
 0
 (Value.bool
 false) →
 DefsAt
 [Array.size
 (World.heap
 w'_11),
 Array.size
 (World.heap
 w'_9)]
 w'_12 ∧
 ∀
 (w2 :
 World),
 Kept
 (fun
 (b :
 Nat) =>
 List.Mem
 b
 [Array.size
 (World.heap
 w'_11),
 Array.size
 (World.heap
 w'_9)])
 w'_12
 w2 →
 Array.size
 (World.heap
 w2) =
 Array.size
 (World.heap
 w'_12) →
 ∃ (x
 :
 Bool),
 rd
 w2
 (Array.size
 (World.heap
 w'_1))
 0 =
 some
 (Value.bool
 x) ∧
 K
 (Value.bool
 x)
 w2)))
 (((n == x_5) = true →
 rd w' (Array.size (World.heap w'_3)) 0 =
 some (Value.int IntKind.i64 x) ∧
 True) ∧
 (rd w' (Array.size (World.heap w)) 0 =
 some (Value.pointer x_1) ∧
 True) ∧
 (rd w' (Array.size (World.heap w)) 0 =
 some (Value.pointer x_1) ∧
 True) ∧
 wr w' (Array.size (World.heap w'_1)) 0 ∧
 ∀ (w'_12 : World),
 w'_12 =
 st w'
 (Array.size (World.heap w'_1))
 0 (Value.bool false) →
 DefsAt
 [Array.size
 (World.heap w'_11),
 Array.size
 (World.heap w'_9)]
 w'_12 ∧
 ∀ (w2 : World),
 Kept
 (fun (b : Nat) =>
 List.Mem b
 [Array.size
 (World.heap
 w'_11),
 Array.size
 (World.heap
 w'_9)])
 w'_12 w2 →
 Array.size (World.heap w2) =
 Array.size
 (World.heap w'_12) →
 ∃ (x : Bool),
 rd w2
 (Array.size
 (World.heap
 w'_1))
 0 =
 some
 (Value.bool x) ∧
 K (Value.bool x) w2))
 (((x == (↑x_3 : Int)) = true →
 rd w1 (Array.size (World.heap w'_2)) 0 =
 some (Value.int IntKind.i64 x_5) ∧
 True) ∧
 (rd w1 (Array.size (World.heap w)) 0 =
 some (Value.pointer x_1) ∧
 True) ∧
 (rd w1 (Array.size (World.heap w)) 0 =
 some (Value.pointer x_1) ∧
 True) ∧
 (rd w1 (Array.size (World.heap w)) 0 =
 some (Value.pointer x_1) ∧
 True) ∧
 wr w1 (Array.size (World.heap w'_1)) 0 ∧
 ∀ (w' : World),
 w' =
 st w1 (Array.size (World.heap w'_1)) 0
 (Value.bool false) →
 DefsAt
 [Array.size (World.heap w'_11),
 Array.size (World.heap w'_9)]
 w' ∧
 ∀ (w2 : World),
 Kept
 (fun (b : Nat) =>
 List.Mem b
 [Array.size (World.heap w'_11),
 Array.size (World.heap w'_9)])
 w' w2 →
 Array.size (World.heap w2) =
 Array.size (World.heap w') →
 ∃ (x : Bool),
 rd w2 (Array.size (World.heap w'_1))
 0 =
 some (Value.bool x) ∧
 K (Value.bool x) w2))
 False) ∧
 (∀ (Y : Nat → Prop) (W : World),
 X 0 Y W →
 DefAt (Array.size (World.heap w'_9)) W →
 DefsAt [Array.size (World.heap w'_9)] W ∧
 ∀ (w2 : World),
 Kept (fun (b : Nat) => List.Mem b [Array.size (World.heap w'_9)]) W w2 →
 Array.size (World.heap w2) = Array.size (World.heap W) →
 ∃ (x : Bool), rd w2 (Array.size (World.heap w'_1)) 0 = some (Value.bool x) ∧ K (Value.bool x) w2) ∧
 True
theorem vcE32 (b : Option
 Addr) (w' : Option
 Addr) (w : World) (K : Value → World → Prop) : vcP32 b w' w K = Eng.wBody Go.Proofs.Try.prog (Eng.handOf Go.Proofs.Try.prog [44,
 27] 1) [] Go.Proofs.Try.f32 (Eng.bodyOf Go.Proofs.Try.f32) [Value.pointer b, Value.pointer w'] w K := by kernel_rfl
theorem vc32 (b : Option Addr) (w' : Option Addr) (w : World) (K : Value → World → Prop) (h : vcP32 b w' w K) :
 Calls Go.Proofs.Try.prog 32 #[Value.pointer b, Value.pointer w'] w (fun e w' => ∃ v, e = .returned v ∧ K v w') :=
 Eng.vc_of [44, 27] 1 [] Go.Proofs.Try.mixes Go.Proofs.Try.func32 (by kernel_rfl) (by kernel_rfl) (vcE32 b w' w K) h

-- 54857 ms

/- byre/byrelaw06.BuddyPlays -/
def vcP9 (n : Int) (l : Option Addr) (lL : Nat) (lC : Nat) (w : World) (K : Value → World → Prop) : Prop :=
 Calls Proofs.Try.prog 13 #[Value.int IntKind.i64 n] w fun (e : Ending) (w' : World) =>
 ∃ (p : Option Addr),
 ∃ (n_1 : Int),
 e = Ending.returned (Value.tuple #[Value.pointer p, Value.int IntKind.i64 n_1]) ∧
 Wif (decide (n < 1) || decide (n > 128))
 (Wif (Option.isNone p && n_1 == 2) (Calls Proofs.Try.prog 14 #[] w' fun (e : Ending) (w' : World) => ∃ (b : Bool), e = Ending.returned (Value.bool b) ∧ K (Value.bool b) w')
 (K (Value.bool false) w'))
 (Wif (decide ((↑lL : Int) > 200)) (Calls Proofs.Try.prog 14 #[] w' fun (e : Ending) (w' : World) => ∃ (b : Bool), e = Ending.returned (Value.bool b) ∧ K (Value.bool b) w')
 (Calls Proofs.Try.prog 31 #[Value.int IntKind.i64 n] w' fun (e : Ending) (w' : World) =>
 ∃ (p_1 : Option Addr),
 e = Ending.returned (Value.pointer p_1) ∧
 Wif (Option.isNone p || n_1 != 0) (K (Value.bool false) w')
 (Calls Proofs.Try.prog 32 #[Value.pointer p, Value.pointer p_1] w' fun (e : Ending) (w' : World) =>
 ∃ (b : Bool),
 e = Ending.returned (Value.bool b) ∧
 Wif (!b) (K (Value.bool false) w')
 (∃ (I : Bool → Option Addr → Int → World → Nat → Prop),
 (∃ (n : Nat), I false p 0 w' n) ∧
 ∀ (b : Bool) (p : Option Addr) (n : Int) (w' : World) (n_2 : Nat),
 I b p n w' n_2 →
 Wif (decide (n < (↑lL : Int)))
 (Wif (isP l)
 (Wif (inB n lL)
 (∃ (x : Int),
 ∃ (x_1 : Int),
 ∃ (x_2 : Int),
 ∃ (x_3 : Bool),
 (rd w' (pb l) (po l + Int.toNat n * 4) = some (Value.int IntKind.i64 x) ∧
 rd w' (pb l) (po l + Int.toNat n * 4 + 1) = some (Value.int IntKind.i64 x_1) ∧
 rd w' (pb l) (po l + Int.toNat n * 4 + 2) = some (Value.int IntKind.i64 x_2) ∧
 rd w' (pb l) (po l + Int.toNat n * 4 + 3) = some (Value.bool x_3)) ∧
 ∀ (w'_1 : World),
 w'_1 = World.alloc w' (Obj.cells #[Value.int IntKind.i64 0, Value.int IntKind.i64 0, Value.int IntKind.i64 0, Value.bool false] 29) →
 (wr w'_1 (Array.size (World.heap w')) 0 ∧
 wr w'_1 (Array.size (World.heap w')) 1 ∧ wr w'_1 (Array.size (World.heap w')) 2 ∧ wr w'_1 (Array.size (World.heap w')) 3) ∧
 ∀ (w'_2 : World),
 w'_2 =
 st
 (st
 (st (st w'_1 (Array.size (World.heap w')) 0 (Value.int IntKind.i64 x)) (Array.size (World.heap w')) 1 (Value.int IntKind.i64 x_1))
 (Array.size (World.heap w')) 2 (Value.int IntKind.i64 x_2))
 (Array.size (World.heap w')) 3 (Value.bool x_3) →
 ∃ (x : Int),
 rd w'_2 (Array.size (World.heap w')) 0 = some (Value.int IntKind.i64 x) ∧
 Wif (x == 1)
 (∃ (x : Int),
 rd w'_2 (Array.size (World.heap w')) 2 = some (Value.int IntKind.i64 x) ∧
 ∃ (x_4 : Bool),
 rd w'_2 (Array.size (World.heap w')) 3 = some (Value.bool x_4) ∧
 Calls Proofs.Try.prog 15 #[Value.pointer p, Value.int IntKind.i64 x, Value.bool x_4] w'_2
 fun (e : Ending) (w'_3 : World) =>
 ∃ (n_3 : Int),
 ∃ (n_4 : Int),
 e = Ending.returned (Value.tuple #[Value.int IntKind.i64 n_3, Value.int IntKind.i64 n_4]) ∧
 ∃ (x : Int),
 rd w'_3 (Array.size (World.heap w')) 2 = some (Value.int IntKind.i64 x) ∧
 ∃ (x_5 : Bool),
 rd w'_3 (Array.size (World.heap w')) 3 = some (Value.bool x_5) ∧
 Calls Proofs.Try.prog 33 #[Value.pointer p_1, Value.int IntKind.i64 x, Value.bool x_5] w'_3
 fun (e : Ending) (w' : World) =>
 ∃ (n_5 : Int),
 ∃ (n_6 : Int),
 e = Ending.returned (Value.tuple #[Value.int IntKind.i64 n_5, Value.int IntKind.i64 n_6]) ∧
 Wif (!(n_3 == n_5 && n_4 == n_6)) (K (Value.bool false) w')
 (Calls Proofs.Try.prog 32 #[Value.pointer p, Value.pointer p_1] w'
 fun (e : Ending) (w' : World) =>
 ∃ (b_1 : Bool),
 e = Ending.returned (Value.bool b_1) ∧
 Wif (!b_1) (K (Value.bool false) w')
 (∃ (m : Nat), Nat.succ m ≤ n_2 ∧ I b p (IntKind.wrap IntKind.i64 (n + 1)) w' m)))
 (Wif (x == 2)
 (∀ (w1 : World),
 w1 = World.drew w'_2 →
 ∃ (x : Int),
 rd w1 (Array.size (World.heap w')) 1 = some (Value.int IntKind.i64 x) ∧
 ∃ (x_4 : Int),
 rd w1 (Array.size (World.heap w')) 2 = some (Value.int IntKind.i64 x_4) ∧
 ∃ (x_5 : Int),
 rd w1 (Array.size (World.heap w')) 1 = some (Value.int IntKind.i64 x_5) ∧
 ∃ (x_6 : Int),
 rd w1 (Array.size (World.heap w')) 2 = some (Value.int IntKind.i64 x_6) ∧
 Calls Proofs.Try.prog 16 #[Value.pointer p, Value.int IntKind.i64 x, Value.int IntKind.i64 x_4] w1
 fun (e : Ending) (w'_3 : World) =>
 ∃ (n_3 : Int),
 e = Ending.returned (Value.int IntKind.i64 n_3) ∧
 (rd w'_3 (Array.size (World.heap w')) 2 = some (Value.int IntKind.i64 x_6) ∧ True) ∧
 (rd w'_3 (Array.size (World.heap w')) 1 = some (Value.int IntKind.i64 x_5) ∧ True) ∧
 Calls Proofs.Try.prog 34
 #[Value.pointer p_1, Value.int IntKind.i64 x_5, Value.int IntKind.i64 x_6] w'_3
 fun (e : Ending) (w' : World) =>
 ∃ (n_4 : Int),
 e = Ending.returned (Value.int IntKind.i64 n_4) ∧
 Wif (!n_3 == n_4) (K (Value.bool false) w')
 (Calls Proofs.Try.prog 32 #[Value.pointer p, Value.pointer p_1] w'
 fun (e : Ending) (w' : World) =>
 ∃ (b_1 : Bool),
 e = Ending.returned (Value.bool b_1) ∧
 Wif (!b_1) (K (Value.bool false) w')
 (∃ (m : Nat), Nat.succ m ≤ n_2 ∧ I b p (IntKind.wrap IntKind.i64 (n + 1)) w' m)))
 (Wif (x == 3)
 (∃ (x : Int),
 rd w'_2 (Array.size (World.heap w')) 1 = some (Value.int IntKind.i64 x) ∧
 Calls Proofs.Try.prog 30 #[Value.pointer p, Value.int IntKind.i64 x] w'_2 fun (e : Ending) (w'_3 : World) =>
 ∃ (n_3 : Int),
 ∃ (b_1 : Bool),
 e = Ending.returned (Value.tuple #[Value.int IntKind.i64 n_3, Value.bool b_1]) ∧
 Wif (isP p_1)
 (∃ (x : Option Addr),
 ∃ (x_4 : Nat),
 ∃ (x_5 : Nat),
 rd w'_3 (pb p_1) (po p_1 + 2) = some (Value.slice x x_4 x_5) ∧
 ∃ (I_1 : Int → Bool → Int → World → Nat → Prop),
 (∃ (n : Nat), I_1 0 false 0 w'_3 n) ∧
 ∀ (n_4 : Int) (b_2 : Bool) (n_5 : Int) (w'_4 : World) (n_6 : Nat),
 I_1 n_4 b_2 n_5 w'_4 n_6 →
 Wif (decide (n_5 < (↑x_4 : Int)))
 (∀ (w1 : World),
 w1 = World.drew w'_4 →
 Wif (isP p_1)
 (∃ (x : Option Addr),
 ∃ (x_6 : Nat),
 ∃ (x_7 : Nat),
 rd w1 (pb p_1) (po p_1 + 2) = some (Value.slice x x_6 x_7) ∧
 Wif (isP x)
 (Wif (inB n_5 x_6)
 (∃ (x_8 : Int),
 rd w1 (pb x) (po x + Int.toNat n_5 * 2) =
 some (Value.int IntKind.i64 x_8) ∧
 ∃ (x : Int),
 rd w1 (Array.size (World.heap w')) 1 =
 some (Value.int IntKind.i64 x) ∧
 Wif (x_8 == x)
 (Wif (isP p_1)
 (∃ (x : Option Addr),
 ∃ (x_9 : Nat),
 ∃ (x_10 : Nat),
 rd w1 (pb p_1) (po p_1 + 2) =
 some (Value.slice x x_9 x_10) ∧
 Wif (isP x)
 (Wif (inB n_5 x_9)
 (∃ (x_11 : Int),
 rd w1 (pb x) (po x + Int.toNat n_5 * 2 + 1) =
 some (Value.int IntKind.i64 x_11) ∧
 ∃ (m : Nat),
 Nat.succ m ≤ n_6 ∧
 I_1 x_11 true
 (IntKind.wrap IntKind.i64 (n_5 + 1)) w1 m)
 False)
 False)
 False)
 (∃ (m : Nat),
 Nat.succ m ≤ n_6 ∧
 I_1 n_4 b_2 (IntKind.wrap IntKind.i64 (n_5 + 1)) w1 m))
 False)
 False)
 False)
 (Wif (!(n_3 == n_4 && b_1 == b_2)) (K (Value.bool false) w'_4)
 (Calls Proofs.Try.prog 32 #[Value.pointer p, Value.pointer p_1] w'_4
 fun (e : Ending) (w' : World) =>
 ∃ (b_3 : Bool),
 e = Ending.returned (Value.bool b_3) ∧
 Wif (!b_3) (K (Value.bool false) w')
 (∃ (m : Nat), Nat.succ m ≤ n_2 ∧ I b p (IntKind.wrap IntKind.i64 (n + 1)) w' m))))
 False)
 (Wif (x == 4)
 (Calls Proofs.Try.prog 18 #[Value.pointer p] w'_2 fun (e : Ending) (w'_3 : World) =>
 ∃ (p_2 : Option Addr),
 e = Ending.returned (Value.pointer p_2) ∧
 ∃ (x : Bool),
 rd w'_3 (Array.size (World.heap w')) 3 = some (Value.bool x) ∧
 Calls Proofs.Try.prog 15 #[Value.pointer p, Value.int IntKind.i64 0, Value.bool x] w'_3
 fun (e : Ending) (w'_4 : World) =>
 ∃ (n_3 : Int),
 ∃ (n_4 : Int),
 e = Ending.returned (Value.tuple #[Value.int IntKind.i64 n_3, Value.int IntKind.i64 n_4]) ∧
 ∃ (x : Int),
 rd w'_4 (Array.size (World.heap w')) 1 = some (Value.int IntKind.i64 x) ∧
 ∃ (x_4 : Int),
 rd w'_4 (Array.size (World.heap w')) 2 = some (Value.int IntKind.i64 x_4) ∧
 Calls Proofs.Try.prog 16 #[Value.pointer p, Value.int IntKind.i64 x, Value.int IntKind.i64 x_4]
 w'_4 fun (e : Ending) (w' : World) =>
 ∃ (n_5 : Int),
 e = Ending.returned (Value.int IntKind.i64 n_5) ∧
 Wif (Option.isNone p_2) (K (Value.bool false) w')
 (Calls Proofs.Try.prog 32 #[Value.pointer p_2, Value.pointer p_1] w'
 fun (e : Ending) (w' : World) =>
 ∃ (b_1 : Bool),
 e = Ending.returned (Value.bool b_1) ∧
 Wif (!b_1) (K (Value.bool false) w')
 (∃ (m : Nat),
 Nat.succ m ≤ n_2 ∧ I b p_2 (IntKind.wrap IntKind.i64 (n + 1)) w' m)))
 (Calls Proofs.Try.prog 32 #[Value.pointer p, Value.pointer p_1] w'_2 fun (e : Ending) (w' : World) =>
 ∃ (b_1 : Bool),
 e = Ending.returned (Value.bool b_1) ∧
 Wif (!b_1) (K (Value.bool false) w')
 (∃ (m : Nat), Nat.succ m ≤ n_2 ∧ I b p (IntKind.wrap IntKind.i64 (n + 1)) w' m))))))
 False)
 False)
 (Calls Proofs.Try.prog 14 #[] w' fun (e : Ending) (w' : World) => ∃ (b : Bool), e = Ending.returned (Value.bool b) ∧ K (Value.bool b) w')))))
theorem vcE9 (n : Int) (l : Option
 Addr) (lL : Nat) (lC : Nat) (w : World) (K : Value → World → Prop) : vcP9 n l lL lC w K = Eng.wBody Go.Proofs.Try.prog (Eng.handOf Go.Proofs.Try.prog [44,
 27] 1) [] Go.Proofs.Try.f9 (Eng.bodyOf Go.Proofs.Try.f9) [Value.int IntKind.i64 n, Value.slice l lL lC] w K := by kernel_rfl
theorem vc9 (n : Int) (l : Option Addr) (lL : Nat) (lC : Nat) (w : World) (K : Value → World → Prop) (h : vcP9 n l lL lC w K) :
 Calls Go.Proofs.Try.prog 9 #[Value.int IntKind.i64 n, Value.slice l lL lC] w (fun e w' => ∃ v, e = .returned v ∧ K v w') :=
 Eng.vc_of [44, 27] 1 [] Go.Proofs.Try.mixes Go.Proofs.Try.func9 (by kernel_rfl) (by kernel_rfl) (vcE9 n l lL lC w K) h

-- 126077 ms

end Go.Proofs.Ytkmcmkimeibjdaa
