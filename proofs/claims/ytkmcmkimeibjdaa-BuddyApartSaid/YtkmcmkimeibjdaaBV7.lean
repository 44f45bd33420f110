/-
  A part of a proof that a law of this seat returns true at every input. Conditions: those in each theorem.
-/
import Derived.Test.YtkmcmkimeibjdaaBV5
set_option linter.unusedSimpArgs false
set_option linter.unusedVariables false
set_option maxRecDepth 100000
namespace Go.Proofs.Ytkmcmkimeibjdaa
open Go Go.Eng
/- byre/byrelaw06.BuddyApart -/
def vcP8 (n : Int) (l : Option Addr) (lL : Nat) (lC : Nat) (w : World) (K : Value → World → Prop) : Prop :=
 ∀ (w' : World),
 w' = World.alloc w (Obj.cells #[Value.int IntKind.i64 n] 3) →
 ∀ (w'_1 : World),
 w'_1 = World.alloc w' (Obj.cells #[Value.bool false] 4) →
 ∃ (x : Int),
 rd w'_1 (Array.size (World.heap w)) 0 = some (Value.int IntKind.i64 x) ∧
 Calls Proofs.Try.prog 13 #[Value.int IntKind.i64 x] w'_1 fun (e : Ending) (w'_2 : World) =>
 ∃ (p : Option Addr),
 ∃ (n : Int),
 e = Ending.returned (Value.tuple #[Value.pointer p, Value.int IntKind.i64 n]) ∧
 Wif (n != 0 || Option.isNone p || decide ((↑lL : Int) > 200))
 (Calls Proofs.Try.prog 14 #[] w'_2 fun (e : Ending) (w'_3 : World) =>
 ∃ (b : Bool),
 e = Ending.returned (Value.bool b) ∧
 wr w'_3 (Array.size (World.heap w')) 0 ∧
 ∀ (w'_4 : World),
 w'_4 = st w'_3 (Array.size (World.heap w')) 0 (Value.bool b) →
 DefsAt [] w'_4 ∧
 ∀ (w2 : World),
 Kept (fun (b : Nat) => List.Mem b []) w'_4 w2 →
 Array.size (World.heap w2) = Array.size (World.heap w'_4) → ∃ (x : Bool), rd w2 (Array.size (World.heap w')) 0 = some (Value.bool x) ∧ K (Value.bool x) w2)
 (∃ (I : Int → List Nat → World → Nat → Prop),
 (∃ (n : Nat), I 0 [] w'_2 n) ∧
 ∀ (n : Int) (ds' : List Nat) (w'_3 : World) (n_1 : Nat),
 I n ds' w'_3 n_1 →
 Wif (decide (n < (↑lL : Int)))
 (Wif (isP l)
 (Wif (inB n lL)
 (∃ (x : Int),
 rd w'_3 (pb l) (po l + Int.toNat n * 4) = some (Value.int IntKind.i64 x) ∧
 ∃ (I_1 : World → Prop),
 Wif (x == 1)
 (∀ (w1 : World),
 w1 = World.drew w'_3 →
 Wif (isP l)
 (Wif (inB n lL)
 (∃ (x : Int),
 rd w1 (pb l) (po l + Int.toNat n * 4 + 2) = some (Value.int IntKind.i64 x) ∧
 Wif (isP l)
 (Wif (inB n lL)
 (∃ (x_1 : Bool),
 rd w1 (pb l) (po l + Int.toNat n * 4 + 3) = some (Value.bool x_1) ∧
 Calls Proofs.Try.prog 15 #[Value.pointer p, Value.int IntKind.i64 x, Value.bool x_1] w1 fun (e : Ending) (w' : World) =>
 ∃ (n : Int), ∃ (n_2 : Int), e = Ending.returned (Value.tuple #[Value.int IntKind.i64 n, Value.int IntKind.i64 n_2]) ∧ I_1 w')
 False)
 False)
 False)
 False)
 (Wif (x == 2)
 (∀ (w1 : World),
 w1 = World.drew w'_3 →
 Wif (isP l)
 (Wif (inB n lL)
 (∃ (x : Int),
 rd w1 (pb l) (po l + Int.toNat n * 4 + 1) = some (Value.int IntKind.i64 x) ∧
 Wif (isP l)
 (Wif (inB n lL)
 (∃ (x_1 : Int),
 rd w1 (pb l) (po l + Int.toNat n * 4 + 2) = some (Value.int IntKind.i64 x_1) ∧
 Calls Proofs.Try.prog 16 #[Value.pointer p, Value.int IntKind.i64 x, Value.int IntKind.i64 x_1] w1
 fun (e : Ending) (w' : World) => ∃ (n : Int), e = Ending.returned (Value.int IntKind.i64 n) ∧ I_1 w')
 False)
 False)
 False)
 False)
 (I_1 w'_3)) ∧
 ∀ (w'_4 : World),
 I_1 w'_4 →
 ∀ (w'_5 : World),
 w'_5 = World.alloc w'_4 (Obj.cells (List.toArray (List.replicate 128 (Value.int IntKind.i64 0))) 65) →
 ∀ (w'_6 : World),
 w'_6 = World.alloc w'_5 (Obj.cells #[Value.nilFunc] 66) →
 wr w'_6 (Array.size (World.heap w'_5)) 0 ∧
 ∀ (w'_7 : World),
 w'_7 =
 st w'_6 (Array.size (World.heap w'_5)) 0
 (Value.func (Fn.func 29) #[]
 #[Value.pointer (some (Addr.mk (Array.size (World.heap w)) 0 none)),
 Value.pointer (some (Addr.mk (Array.size (World.heap w'_4)) 0 none))]) →
 ∀ (w'_8 : World),
 w'_8 = World.alloc w'_7 (Obj.map #[] 0) →
 ∀ (w'_9 : World),
 w'_9 = World.alloc w'_8 (Obj.cells #[Value.map none] 67) →
 wr w'_9 (Array.size (World.heap w'_8)) 0 ∧
 ∀ (w'_10 : World),
 w'_10 = st w'_9 (Array.size (World.heap w'_8)) 0 (Value.map (some (Array.size (World.heap w'_7)))) →
 ∀ (w'_11 : World),
 w'_11 = World.alloc w'_10 (Obj.cells #[Value.pointer p] 23) →
 ∀ (w'_12 : World),
 w'_12 = World.alloc w'_11 (Obj.cells #[Value.pointer p] 23) →
 ∃ (xss : List (List Value)),
 ∃ (R : Nat → Prop),
 ∃ (I_2 : (Nat → Prop) → Nat → World → Prop),
 ∃ (X : Nat → World → Prop),
 (GivesV Proofs.Try.prog 54 [Value.pointer (some (Addr.mk (Array.size (World.heap w'_11)) 0 none))] xss R
 w'_12 ∧
 (∀ (xs : List Value),
 List.Mem xs xss →
 List.length xs = 1 ∧
 ∃ (n : Int),
 ∃ (n_2 : Int), xs = [Value.agg #[Value.int IntKind.i64 n, Value.int IntKind.i64 n_2]]) ∧
 ∀ (b : Nat), R b → Nat.succ b ≤ Array.size (World.heap w'_12)) ∧
 (∀ (w1 : World),
 Kept none' w'_12 w1 →
 Array.size (World.heap w1) = Array.size (World.heap w'_12) + 2 →
 I_2 (fun (x : Nat) => False) 0 w1) ∧
 (∀ (Y : Nat → Prop) (i : Nat) (W W' : World),
 I_2 Y i W →
 Kept (recs (Array.size (World.heap w'_12))) W W' →
 I_2
 (fun (b : Nat) =>
 Y b ∨ Array.size (World.heap W) ≤ b ∧ Nat.succ b ≤ Array.size (World.heap W'))
 i W') ∧
 (∀ (k : Nat) (W W' : World), X k W → Kept (recs (Array.size (World.heap w'_12))) W W' → X k W') ∧
 (∀ (Y : Nat → Prop) (i : Nat) (W : World),
 I_2 Y i W →
 (∀ (b : Nat), Y b → Array.size (World.heap w'_12) + 2 ≤ b) →
 Array.size (World.heap w'_12) + 2 ≤ Array.size (World.heap W) →
 ∀ (n n_2 : Int),
 xss[i]? = some [Value.agg #[Value.int IntKind.i64 n, Value.int IntKind.i64 n_2]] →
 ∀ (w'_13 : World),
 w'_13 =
 World.alloc W
 (Obj.cells #[Value.int IntKind.i64 0, Value.int IntKind.i64 0] 58) →
 (wr w'_13 (Array.size (World.heap W)) 0 ∧
 wr w'_13 (Array.size (World.heap W)) 1) ∧
 ∀ (w'_14 : World),
 w'_14 =
 st (st w'_13 (Array.size (World.heap W)) 0 (Value.int IntKind.i64 n))
 (Array.size (World.heap W)) 1 (Value.int IntKind.i64 n_2) →
 RecKept (Array.size (World.heap w'_12)) W w'_14 ∧
 ∀ (w2 : World),
 Kept (fun (b : Nat) => b = Array.size (World.heap w'_12) + 1) w'_14
 w2 →
 Array.size (World.heap w2) = Array.size (World.heap w'_14) →
 ∀ (w1 : World),
 w1 = World.drew w2 →
 ∃ (x : Value),
 rd w1 (Array.size (World.heap w'_5)) 0 = some x ∧
 ∃ (x_1 : Int),
 ∃ (x_2 : Int),
 (rd w1 (Array.size (World.heap W)) 0 =
 some (Value.int IntKind.i64 x_1) ∧
 rd w1 (Array.size (World.heap W)) 1 =
 some (Value.int IntKind.i64 x_2)) ∧
 CallsV Proofs.Try.prog x
 [Value.agg
 #[Value.int IntKind.i64 x_1,
 Value.int IntKind.i64 x_2]]
 w1 fun (e : Ending) (w'_15 : World) =>
 ∃ (b : Bool),
 e = Ending.returned (Value.bool b) ∧
 ∃ (x : Option Nat),
 ((!b) = false →
 rd w'_15 (Array.size (World.heap w'_8))
 0 =
 some (Value.map x)) ∧
 ∃ (x_3 : Int),
 ((!b) = false →
 rd w'_15 (Array.size (World.heap W))
 0 =
 some
 (Value.int IntKind.i64 x_3)) ∧
 ∃ (x_4 : Int),
 ((!b) = false →
 rd w'_15
 (Array.size (World.heap W))
 1 =
 some
 (Value.int IntKind.i64
 x_4)) ∧
 gIf (decide (0 ≤ x_4))
 ((!b) = false)
 (∃ (x_5 : Int),
 ((!b) = false →
 rd w'_15
 (Array.size
 (World.heap W))
 1 =
 some
 (Value.int IntKind.i64
 x_5)) ∧
 ∃ (x_6 : Int),
 ((!b) = false →
 lookIs Proofs.Try.prog
 67 (Value.map x)
 (Value.agg
 #[Value.int
 IntKind.i64
 (bitsI
 BinOp.xor
 IntKind.i64
 x_3
 (IntKind.wrap
 IntKind.i64
 (1 *
 2 ^
 min
 (Int.toNat
 x_4)
 64))),
 Value.int
 IntKind.i64
 x_5])
 false
 (Value.int
 IntKind.i64 x_6)
 w'_15) ∧
 ∃ (x : Int),
 ((!b) = false ∧
 (x_6 == 1) =
 true →
 rd w'_15
 (Array.size
 (World.heap
 W))
 1 =
 some
 (Value.int
 IntKind.i64
 x)) ∧
 Wif
 (!b ||
 x_6 == 1 &&
 decide
 (x < 10))
 (wr w'_15
 (Array.size
 (World.heap
 w'))
 0 ∧
 ∀
 (w'_16 :
 World),
 w'_16 =
 st w'_15
 (Array.size
 (World.heap
 w'))
 0
 (Value.bool
 false) →
 RecKept
 (Array.size
 (World.heap
 w'_12))
 w2
 w'_16 ∧
 X 0 w'_16)
 (∃ (x :
 Option Nat),
 rd w'_15
 (Array.size
 (World.heap
 w'_8))
 0 =
 some
 (Value.map
 x) ∧
 ∃ (x_7 : Int),
 ∃ (x_8 :
 Int),
 (rd w'_15
 (Array.size
 (World.heap
 W))
 0 =
 some
 (Value.int
 IntKind.i64
 x_7) ∧
 rd
 w'_15
 (Array.size
 (World.heap
 W))
 1 =
 some
 (Value.int
 IntKind.i64
 x_8)) ∧
 ∃ (w' :
 World),
 updIs
 Proofs.Try.prog
 67
 (Value.map
 x)
 (Value.agg
 #[Value.int
 IntKind.i64
 x_7,
 Value.int
 IntKind.i64
 x_8])
 (Value.int
 IntKind.i64
 1)
 w'_15
 w' ∧
 RecKept
 (Array.size
 (World.heap
 w'_12))
 w2
 w' ∧
 KeptY
 (fun
 (b :
 Nat) =>
 Y
 b ∨
 R
 b)
 W
 w' ∧
 I_2
 Y
 (i +
 1)
 w'))) ∧
 (∀ (Y : Nat → Prop) (W : World),
 I_2 Y (List.length xss) W →
 DefAt (Array.size (World.heap w'_12)) W →
 ∃ (x : Int),
 rd W (Array.size (World.heap w)) 0 = some (Value.int IntKind.i64 x) ∧
 ∃ (I_3 : Int → World → Nat → Prop),
 (∃ (n : Nat), I_3 0 W n) ∧
 ∀ (n_2 : Int) (w'_13 : World) (n_3 : Nat),
 I_3 n_2 w'_13 n_3 →
 Wif (decide (n_2 < x))
 (Calls Proofs.Try.prog 30 #[Value.pointer p, Value.int IntKind.i64 n_2]
 w'_13 fun (e : Ending) (w'_14 : World) =>
 ∃ (n : Int),
 ∃ (b : Bool),
 e =
 Ending.returned
 (Value.tuple #[Value.int IntKind.i64 n, Value.bool b]) ∧
 ∃ (x : Value),
 (b = true →
 rd w'_14 (Array.size (World.heap w'_5)) 0 = some x) ∧
 Wif b
 (CallsV Proofs.Try.prog x
 [Value.agg
 #[Value.int IntKind.i64 n_2, Value.int IntKind.i64 n]]
 w'_14 fun (e : Ending) (w'_15 : World) =>
 ∃ (b : Bool),
 e = Ending.returned (Value.bool b) ∧
 Wif (!b)
 (wr w'_15 (Array.size (World.heap w')) 0 ∧
 ∀ (w'_16 : World),
 w'_16 =
 st w'_15 (Array.size (World.heap w')) 0
 (Value.bool false) →
 DefsAt (Array.size (World.heap w'_12) :: ds')
 w'_16 ∧
 ∀ (w2 : World),
 Kept
 (fun (b : Nat) =>
 List.Mem b
 (Array.size (World.heap w'_12) ::
 ds'))
 w'_16 w2 →
 Array.size (World.heap w2) =
 Array.size (World.heap w'_16) →
 ∃ (x : Bool),
 rd w2 (Array.size (World.heap w'))
 0 =
 some (Value.bool x) ∧
 K (Value.bool x) w2)
 (∃ (m : Nat),
 Nat.succ m ≤ n_3 ∧
 I_3 (IntKind.wrap IntKind.i64 (n_2 + 1)) w'_15
 m))
 (∃ (m : Nat),
 Nat.succ m ≤ n_3 ∧
 I_3 (IntKind.wrap IntKind.i64 (n_2 + 1)) w'_14 m))
 (∃ (x : Int),
 rd w'_13 (Array.size (World.heap w)) 0 =
 some (Value.int IntKind.i64 x) ∧
 ∃ (I_4 : Int → World → Nat → Prop),
 (∃ (n : Nat), I_4 0 w'_13 n) ∧
 ∀ (n_4 : Int) (w'_14 : World) (n_5 : Nat),
 I_4 n_4 w'_14 n_5 →
 Wif (decide (n_4 < x))
 (Wif (inB n_4 128)
 (∃ (x : Int),
 rd w'_14 (Array.size (World.heap w'_4))
 (0 + Int.toNat n_4 * 1) =
 some (Value.int IntKind.i64 x) ∧
 Wif (x != 1)
 (wr w'_14 (Array.size (World.heap w')) 0 ∧
 ∀ (w'_15 : World),
 w'_15 =
 st w'_14 (Array.size (World.heap w')) 0
 (Value.bool false) →
 DefsAt (Array.size (World.heap w'_12) :: ds')
 w'_15 ∧
 ∀ (w2 : World),
 Kept
 (fun (b : Nat) =>
 List.Mem b
 (Array.size (World.heap w'_12) ::
 ds'))
 w'_15 w2 →
 Array.size (World.heap w2) =
 Array.size (World.heap w'_15) →
 ∃ (x : Bool),
 rd w2 (Array.size (World.heap w'))
 0 =
 some (Value.bool x) ∧
 K (Value.bool x) w2)
 (∃ (m : Nat),
 Nat.succ m ≤ n_5 ∧
 I_4 (IntKind.wrap IntKind.i64 (n_4 + 1)) w'_14
 m))
 False)
 (∃ (m : Nat),
 Nat.succ m ≤ n_1 ∧
 I (IntKind.wrap IntKind.i64 (n + 1))
 (Array.size (World.heap w'_12) :: ds') w'_14 m))) ∧
 (∀ (W : World),
 X 0 W →
 DefAt (Array.size (World.heap w'_12)) W →
 DefsAt (Array.size (World.heap w'_12) :: ds') W ∧
 ∀ (w2 : World),
 Kept (fun (b : Nat) => List.Mem b (Array.size (World.heap w'_12) :: ds')) W w2 →
 Array.size (World.heap w2) = Array.size (World.heap W) →
 ∃ (x : Bool),
 rd w2 (Array.size (World.heap w')) 0 = some (Value.bool x) ∧
 K (Value.bool x) w2) ∧
 True)
 False)
 False)
 (Calls Proofs.Try.prog 14 #[] w'_3 fun (e : Ending) (w'_4 : World) =>
 ∃ (b : Bool),
 e = Ending.returned (Value.bool b) ∧
 wr w'_4 (Array.size (World.heap w')) 0 ∧
 ∀ (w'_5 : World),
 w'_5 = st w'_4 (Array.size (World.heap w')) 0 (Value.bool b) →
 DefsAt ds' w'_5 ∧
 ∀ (w2 : World),
 Kept (fun (b : Nat) => List.Mem b ds') w'_5 w2 →
 Array.size (World.heap w2) = Array.size (World.heap w'_5) →
 ∃ (x : Bool), rd w2 (Array.size (World.heap w')) 0 = some (Value.bool x) ∧ K (Value.bool x) w2))
theorem vcE8 (n : Int) (l : Option
 Addr) (lL : Nat) (lC : Nat) (w : World) (K : Value → World → Prop) : vcP8 n l lL lC w K = Eng.wBody Go.Proofs.Try.prog (Eng.handOf Go.Proofs.Try.prog [44,
 27] 1) [9, 2000079, 2000116] Go.Proofs.Try.f8 (Eng.bodyOf Go.Proofs.Try.f8) [Value.int IntKind.i64 n, Value.slice l lL lC] w K := by kernel_rfl
theorem vc8 (n : Int) (l : Option Addr) (lL : Nat) (lC : Nat) (w : World) (K : Value → World → Prop) (h : vcP8 n l lL lC w K) :
 Calls Go.Proofs.Try.prog 8 #[Value.int IntKind.i64 n, Value.slice l lL lC] w (fun e w' => ∃ v, e = .returned v ∧ K v w') :=
 Eng.vc_of [44, 27] 1 [9, 2000079, 2000116] Go.Proofs.Try.mixes Go.Proofs.Try.func8 (by kernel_rfl) (by kernel_rfl) (vcE8 n l lL lC w K) h

-- 63296 ms
/- byre/byrelaw06.BuddyApart$1 -/
def vcP29 (x0 : Int) (x1 : Int) (c1_0 : Option Addr) (c1_1 : Option Addr) (w : World) (K : Value → World → Prop) : Prop :=
 ∀ (w' : World),
 w' = World.alloc w (Obj.cells #[Value.int IntKind.i64 x0, Value.int IntKind.i64 x1] 58) →
 ∀ (w1 : World),
 w1 = World.drew w' →
 ∃ (x : Int),
 rd w1 (Array.size (World.heap w)) 0 = some (Value.int IntKind.i64 x) ∧
 ∃ (x_1 : Int),
 (decide (x < 0) = false → rd w1 (Array.size (World.heap w)) 1 = some (Value.int IntKind.i64 x_1)) ∧
 ∃ (x_2 : Int),
 ((decide (x < 0) || decide (x_1 < 0)) = false → rd w1 (Array.size (World.heap w)) 1 = some (Value.int IntKind.i64 x_2)) ∧
 ∃ (x_3 : Int),
 ((decide (x < 0) || decide (x_1 < 0) || decide (x_2 > 10)) = false → rd w1 (Array.size (World.heap w)) 0 = some (Value.int IntKind.i64 x_3)) ∧
 ∃ (x_4 : Int),
 ((decide (x < 0) || decide (x_1 < 0) || decide (x_2 > 10)) = false → rd w1 (Array.size (World.heap w)) 1 = some (Value.int IntKind.i64 x_4)) ∧
 gIf (decide (0 ≤ x_4)) ((decide (x < 0) || decide (x_1 < 0) || decide (x_2 > 10)) = false)
 (gIf (IntKind.wrap IntKind.i64 (1 * 2 ^ min (Int.toNat x_4) 64) != 0) ((decide (x < 0) || decide (x_1 < 0) || decide (x_2 > 10)) = false)
 (∃ (x_5 : Int),
 ((decide (x < 0) || decide (x_1 < 0) || decide (x_2 > 10) || Int.tmod x_3 (IntKind.wrap IntKind.i64 (1 * 2 ^ min (Int.toNat x_4) 64)) != 0) = false →
 rd w1 (Array.size (World.heap w)) 0 = some (Value.int IntKind.i64 x_5)) ∧
 ∃ (x_6 : Int),
 ((decide (x < 0) || decide (x_1 < 0) || decide (x_2 > 10) || Int.tmod x_3 (IntKind.wrap IntKind.i64 (1 * 2 ^ min (Int.toNat x_4) 64)) != 0) = false →
 rd w1 (Array.size (World.heap w)) 1 = some (Value.int IntKind.i64 x_6)) ∧
 gIf (decide (0 ≤ x_6))
 ((decide (x < 0) || decide (x_1 < 0) || decide (x_2 > 10) || Int.tmod x_3 (IntKind.wrap IntKind.i64 (1 * 2 ^ min (Int.toNat x_4) 64)) != 0) = false)
 (gIf (isP c1_0)
 ((decide (x < 0) || decide (x_1 < 0) || decide (x_2 > 10) || Int.tmod x_3 (IntKind.wrap IntKind.i64 (1 * 2 ^ min (Int.toNat x_4) 64)) != 0) = false)
 (∃ (x_7 : Int),
 ((decide (x < 0) || decide (x_1 < 0) || decide (x_2 > 10) || Int.tmod x_3 (IntKind.wrap IntKind.i64 (1 * 2 ^ min (Int.toNat x_4) 64)) != 0) = false →
 rd w1 (pb c1_0) (po c1_0) = some (Value.int IntKind.i64 x_7)) ∧
 Wif
 (decide (x < 0) || decide (x_1 < 0) || decide (x_2 > 10) || Int.tmod x_3 (IntKind.wrap IntKind.i64 (1 * 2 ^ min (Int.toNat x_4) 64)) != 0 ||
 decide (IntKind.wrap IntKind.i64 (x_5 + IntKind.wrap IntKind.i64 (1 * 2 ^ min (Int.toNat x_6) 64)) > x_7))
 (K (Value.bool false) w1)
 (∃ (x : Int),
 rd w1 (Array.size (World.heap w)) 0 = some (Value.int IntKind.i64 x) ∧
 ∃ (I : Int → World → Nat → Prop),
 (∃ (n : Nat), I x w1 n) ∧
 ∀ (n : Int) (w' : World) (n_1 : Nat),
 I n w' n_1 →
 ∀ (w1 : World),
 w1 = World.drew w' →
 ∃ (x : Int),
 rd w1 (Array.size (World.heap w)) 0 = some (Value.int IntKind.i64 x) ∧
 ∃ (x_8 : Int),
 rd w1 (Array.size (World.heap w)) 1 = some (Value.int IntKind.i64 x_8) ∧
 Wif (decide (0 ≤ x_8))
 (Wif (decide (n < IntKind.wrap IntKind.i64 (x + IntKind.wrap IntKind.i64 (1 * 2 ^ min (Int.toNat x_8) 64))))
 (Wif (isP c1_1)
 (Wif (inB n 128)
 (∃ (x : Int),
 rd w1 (pb c1_1) (po c1_1 + Int.toNat n * 1) = some (Value.int IntKind.i64 x) ∧
 Wif (isP c1_1)
 (Wif (inB n 128)
 (wr w1 (pb c1_1) (po c1_1 + Int.toNat n * 1) ∧
 ∀ (w' : World),
 w' =
 st w1 (pb c1_1) (po c1_1 + Int.toNat n * 1)
 (Value.int IntKind.i64 (IntKind.wrap IntKind.i64 (x + 1))) →
 ∃ (m : Nat), Nat.succ m ≤ n_1 ∧ I (IntKind.wrap IntKind.i64 (n + 1)) w' m)
 False)
 False)
 False)
 False)
 (K (Value.bool true) w1))
 False)))))
theorem vcE29 (x0 : Int) (x1 : Int) (c1_0 : Option
 Addr) (c1_1 : Option
 Addr) (w : World) (K : Value → World → Prop) : vcP29 x0 x1 c1_0 c1_1 w K = Eng.wBody Go.Proofs.Try.prog (Eng.handOf Go.Proofs.Try.prog [44,
 27] 1) [] Go.Proofs.Try.f29 (Eng.bodyOf Go.Proofs.Try.f29) [Value.agg #[Value.int IntKind.i64 x0, Value.int IntKind.i64 x1], Value.pointer c1_0, Value.pointer c1_1] w K := by kernel_rfl
theorem vc29 (x0 : Int) (x1 : Int) (c1_0 : Option Addr) (c1_1 : Option Addr) (w : World) (K : Value → World → Prop) (h : vcP29 x0 x1 c1_0 c1_1 w K) :
 Calls Go.Proofs.Try.prog 29 #[Value.agg #[Value.int IntKind.i64 x0, Value.int IntKind.i64 x1], Value.pointer c1_0, Value.pointer c1_1] w (fun e w' => ∃ v, e = .returned v ∧ K v w') :=
 Eng.vc_of [44, 27] 1 [] Go.Proofs.Try.mixes Go.Proofs.Try.func29 (by kernel_rfl) (by kernel_rfl) (vcE29 x0 x1 c1_0 c1_1 w K) h

-- 9727 ms

end Go.Proofs.Ytkmcmkimeibjdaa
