/-
  A part of a proof that a law of this seat returns true at every input. Conditions: those in each theorem.
-/
import Derived.Test.YtkmcmkimeibjdaaBV4
set_option linter.unusedSimpArgs false
set_option linter.unusedVariables false
set_option maxRecDepth 100000
namespace Go.Proofs.Ytkmcmkimeibjdaa
open Go Go.Eng
/- byre/byrelaw06.BuddyBack -/
def vcP6 (n : Int) (orders : Option Addr) (ordersL : Nat) (ordersC : Nat) (high : Bool) (next : Option Addr) (nextL : Nat) (nextC : Nat) (w : World) (K : Value → World → Prop) : Prop :=
 Calls Proofs.Try.prog 13 #[Value.int IntKind.i64 n] w fun (e : Ending) (w' : World) =>
 ∃ (p : Option Addr),
 ∃ (n_1 : Int),
 e = Ending.returned (Value.tuple #[Value.pointer p, Value.int IntKind.i64 n_1]) ∧
 Calls Proofs.Try.prog 13 #[Value.int IntKind.i64 n] w' fun (e : Ending) (w' : World) =>
 ∃ (p_1 : Option Addr),
 ∃ (n_2 : Int),
 e = Ending.returned (Value.tuple #[Value.pointer p_1, Value.int IntKind.i64 n_2]) ∧
 Wif (n_1 != 0 || n_2 != 0 || Option.isNone p || Option.isNone p_1 || decide ((↑ordersL : Int) > 100))
 (Calls Proofs.Try.prog 14 #[] w' fun (e : Ending) (w' : World) =>
 ∃ (b : Bool),
 e = Ending.returned (Value.bool b) ∧
 DefsAt [] w' ∧ ∀ (w2 : World), Kept (fun (b : Nat) => List.Mem b []) w' w2 → Array.size (World.heap w2) = Array.size (World.heap w') → K (Value.bool b) w2)
 (∃ (I : Option Addr → Nat → Nat → Int → World → Nat → Prop),
 (∃ (n : Nat), I none 0 0 0 w' n) ∧
 ∀ (a : Option Addr) (l c : Nat) (n_3 : Int) (w' : World) (n_4 : Nat),
 I a l c n_3 w' n_4 →
 Wif (decide (n_3 < (↑ordersL : Int)))
 (Wif (isP orders)
 (Wif (inB n_3 ordersL)
 (∃ (x : Int),
 rd w' (pb orders) (po orders + Int.toNat n_3 * 1) = some (Value.int IntKind.i64 x) ∧
 Calls Proofs.Try.prog 15 #[Value.pointer p, Value.int IntKind.i64 x, Value.bool !high == (Int.tmod n_3 3 == 0)] w' fun (e : Ending) (w' : World) =>
 ∃ (n : Int),
 ∃ (n_5 : Int),
 e = Ending.returned (Value.tuple #[Value.int IntKind.i64 n, Value.int IntKind.i64 n_5]) ∧
 Wif (n_5 == 0)
 (Wif (isP orders)
 (Wif (inB n_3 ordersL)
 (∃ (x : Int),
 rd w' (pb orders) (po orders + Int.toNat n_3 * 1) = some (Value.int IntKind.i64 x) ∧
 ∀ (w'_1 : World),
 w'_1 = World.alloc w' (Obj.cells #[Value.int IntKind.i64 n, Value.int IntKind.i64 x] 58) →
 ∃ (a_1 : Option Addr),
 ∃ (l_1 : Nat),
 ∃ (c_1 : Nat),
 ∃ (w'_2 : World),
 appIs Proofs.Try.prog #[56, 56] 56 (Value.slice a l c) (Value.slice (some (Addr.mk (Array.size (World.heap w')) 0 none)) 1 1)
 (Value.slice a_1 l_1 c_1) w'_1 w'_2 ∧
 ∃ (m : Nat), Nat.succ m ≤ n_4 ∧ I a_1 l_1 c_1 (IntKind.wrap IntKind.i64 (n_3 + 1)) w'_2 m)
 False)
 False)
 (∃ (m : Nat), Nat.succ m ≤ n_4 ∧ I a l c (IntKind.wrap IntKind.i64 (n_3 + 1)) w' m))
 False)
 False)
 (∃ (I : Bool → Option Addr → Nat → Nat → Int → World → Nat → Prop),
 (∃ (n : Nat), I false a l c 0 w' n) ∧
 ∀ (b : Bool) (a : Option Addr) (l c : Nat) (n_5 : Int) (w' : World) (n_6 : Nat),
 I b a l c n_5 w' n_6 →
 Wif (decide ((↑l : Int) > 0))
 (Wif (decide (n_5 < (↑nextL : Int)))
 (Wif (isP next)
 (Wif (inB n_5 nextL)
 (∃ (x : Int),
 rd w' (pb next) (po next + Int.toNat n_5 * 1) = some (Value.int IntKind.i64 x) ∧
 Wif (IntKind.wrap IntKind.u64 (↑l : Int) != 0)
 (∀ (w1 : World),
 w1 = World.drew w' →
 Wif (isP a)
 (Wif (inB (IntKind.wrap IntKind.i64 (Int.tmod (IntKind.wrap IntKind.u64 x) (IntKind.wrap IntKind.u64 (↑l : Int)))) l)
 (∃ (x_1 : Int),
 rd w1 (pb a)
 (po a + Int.toNat (IntKind.wrap IntKind.i64 (Int.tmod (IntKind.wrap IntKind.u64 x) (IntKind.wrap IntKind.u64 (↑l : Int)))) * 2) =
 some (Value.int IntKind.i64 x_1) ∧
 Wif (isP a)
 (Wif (inB (IntKind.wrap IntKind.i64 (Int.tmod (IntKind.wrap IntKind.u64 x) (IntKind.wrap IntKind.u64 (↑l : Int)))) l)
 (∃ (x_2 : Int),
 rd w1 (pb a)
 (po a +
 Int.toNat (IntKind.wrap IntKind.i64 (Int.tmod (IntKind.wrap IntKind.u64 x) (IntKind.wrap IntKind.u64 (↑l : Int)))) * 2 +
 1) =
 some (Value.int IntKind.i64 x_2) ∧
 Calls Proofs.Try.prog 16 #[Value.pointer p, Value.int IntKind.i64 x_1, Value.int IntKind.i64 x_2] w1
 fun (e : Ending) (w' : World) =>
 ∃ (n : Int),
 e = Ending.returned (Value.int IntKind.i64 n) ∧
 gIf (isP a) ((n != 0) = false)
 (gIf (inB (IntKind.wrap IntKind.i64 (Int.tmod (IntKind.wrap IntKind.u64 x) (IntKind.wrap IntKind.u64 (↑l : Int)))) l)
 ((n != 0) = false)
 (∃ (x_3 : Int),
 ((n != 0) = false →
 rd w' (pb a)
 (po a +
 Int.toNat
 (IntKind.wrap IntKind.i64
 (Int.tmod (IntKind.wrap IntKind.u64 x) (IntKind.wrap IntKind.u64 (↑l : Int)))) *
 2) =
 some (Value.int IntKind.i64 x_3)) ∧
 gIf (isP a) ((n != 0) = false)
 (gIf
 (inB (IntKind.wrap IntKind.i64 (Int.tmod (IntKind.wrap IntKind.u64 x) (IntKind.wrap IntKind.u64 (↑l : Int))))
 l)
 ((n != 0) = false)
 (∃ (x_4 : Int),
 ((n != 0) = false →
 rd w' (pb a)
 (po a +
 Int.toNat
 (IntKind.wrap IntKind.i64
 (Int.tmod (IntKind.wrap IntKind.u64 x) (IntKind.wrap IntKind.u64 (↑l : Int)))) *
 2 +
 1) =
 some (Value.int IntKind.i64 x_4)) ∧
 Wif (n != 0)
 (DefsAt [] w' ∧
 ∀ (w2 : World),
 Kept (fun (b : Nat) => List.Mem b []) w' w2 →
 Array.size (World.heap w2) = Array.size (World.heap w') → K (Value.bool false) w2)
 (Calls Proofs.Try.prog 16 #[Value.pointer p, Value.int IntKind.i64 x_3, Value.int IntKind.i64 x_4] w'
 fun (e : Ending) (w' : World) =>
 ∃ (n : Int),
 e = Ending.returned (Value.int IntKind.i64 n) ∧
 Wif (n != 2)
 (DefsAt [] w' ∧
 ∀ (w2 : World),
 Kept (fun (b : Nat) => List.Mem b []) w' w2 →
 Array.size (World.heap w2) = Array.size (World.heap w') → K (Value.bool false) w2)
 (∀ (w1 : World),
 w1 = World.drew w' →
 Wif
 (okSl 0
 (IntKind.wrap IntKind.i64
 (Int.tmod (IntKind.wrap IntKind.u64 x) (IntKind.wrap IntKind.u64 (↑l : Int))))
 (↑c : Int))
 (Wif
 (okSl
 (IntKind.wrap IntKind.i64
 (IntKind.wrap IntKind.i64
 (Int.tmod (IntKind.wrap IntKind.u64 x) (IntKind.wrap IntKind.u64 (↑l : Int))) +
 1))
 (↑l : Int) (↑c : Int))
 (∀ (w' : World),
 w' = World.alloc w1 (Obj.cells #[] 58) →
 ∃ (a_1 : Option Addr),
 ∃ (l_1 : Nat),
 ∃ (c_1 : Nat),
 ∃ (w'_1 : World),
 appIs Proofs.Try.prog #[56, 56] 56
 (Value.slice (some (Addr.mk (Array.size (World.heap w1)) 0 none)) 0 0)
 (Value.slice a
 (Int.toNat
 (IntKind.wrap IntKind.i64
 (Int.tmod (IntKind.wrap IntKind.u64 x)
 (IntKind.wrap IntKind.u64 (↑l : Int)))))
 c)
 (Value.slice a_1 l_1 c_1) w' w'_1 ∧
 ∃ (a_2 : Option Addr),
 ∃ (l_2 : Nat),
 ∃ (c_2 : Nat),
 ∃ (w' : World),
 appIs Proofs.Try.prog #[56, 56] 56 (Value.slice a_1 l_1 c_1)
 (Value.slice
 (offA a c
 (Int.toNat
 (IntKind.wrap IntKind.i64
 (IntKind.wrap IntKind.i64
 (Int.tmod (IntKind.wrap IntKind.u64 x)
 (IntKind.wrap IntKind.u64 (↑l : Int))) +
 1)))
 2)
 (l -
 Int.toNat
 (IntKind.wrap IntKind.i64
 (IntKind.wrap IntKind.i64
 (Int.tmod (IntKind.wrap IntKind.u64 x)
 (IntKind.wrap IntKind.u64 (↑l : Int))) +
 1)))
 (c -
 Int.toNat
 (IntKind.wrap IntKind.i64
 (IntKind.wrap IntKind.i64
 (Int.tmod (IntKind.wrap IntKind.u64 x)
 (IntKind.wrap IntKind.u64 (↑l : Int))) +
 1))))
 (Value.slice a_2 l_2 c_2) w'_1 w' ∧
 ∃ (m : Nat),
 Nat.succ m ≤ n_6 ∧
 I b a_2 l_2 c_2 (IntKind.wrap IntKind.i64 (n_5 + 1)) w' m)
 False)
 False)))))))
 False)
 False)
 False)
 False)
 False)
 False)
 False)
 (∀ (w1 : World),
 w1 = World.drew w' →
 Wif (isP a)
 (Wif (inB 0 l)
 (∃ (x : Int),
 rd w1 (pb a) (po a) = some (Value.int IntKind.i64 x) ∧
 Wif (isP a)
 (Wif (inB 0 l)
 (∃ (x_1 : Int),
 rd w1 (pb a) (po a + 1) = some (Value.int IntKind.i64 x_1) ∧
 Calls Proofs.Try.prog 16 #[Value.pointer p, Value.int IntKind.i64 x, Value.int IntKind.i64 x_1] w1 fun (e : Ending) (w' : World) =>
 ∃ (n : Int),
 e = Ending.returned (Value.int IntKind.i64 n) ∧
 gIf (isP a) ((n != 0) = false)
 (gIf (inB 0 l) ((n != 0) = false)
 (∃ (x : Int),
 ((n != 0) = false → rd w' (pb a) (po a) = some (Value.int IntKind.i64 x)) ∧
 gIf (isP a) ((n != 0) = false)
 (gIf (inB 0 l) ((n != 0) = false)
 (∃ (x_2 : Int),
 ((n != 0) = false → rd w' (pb a) (po a + 1) = some (Value.int IntKind.i64 x_2)) ∧
 Wif (n != 0)
 (DefsAt [] w' ∧
 ∀ (w2 : World),
 Kept (fun (b : Nat) => List.Mem b []) w' w2 →
 Array.size (World.heap w2) = Array.size (World.heap w') → K (Value.bool false) w2)
 (Calls Proofs.Try.prog 16 #[Value.pointer p, Value.int IntKind.i64 x, Value.int IntKind.i64 x_2] w'
 fun (e : Ending) (w' : World) =>
 ∃ (n : Int),
 e = Ending.returned (Value.int IntKind.i64 n) ∧
 Wif (n != 2)
 (DefsAt [] w' ∧
 ∀ (w2 : World),
 Kept (fun (b : Nat) => List.Mem b []) w' w2 →
 Array.size (World.heap w2) = Array.size (World.heap w') → K (Value.bool false) w2)
 (∀ (w1 : World),
 w1 = World.drew w' →
 Wif (okSl 1 (↑l : Int) (↑c : Int))
 (∀ (w' : World),
 w' = World.alloc w1 (Obj.cells #[] 58) →
 ∃ (a_1 : Option Addr),
 ∃ (l_1 : Nat),
 ∃ (c_1 : Nat),
 ∃ (w'_1 : World),
 appIs Proofs.Try.prog #[56, 56] 56
 (Value.slice (some (Addr.mk (Array.size (World.heap w1)) 0 none)) 0 0)
 (Value.slice a 0 c) (Value.slice a_1 l_1 c_1) w' w'_1 ∧
 ∃ (a_2 : Option Addr),
 ∃ (l_2 : Nat),
 ∃ (c_2 : Nat),
 ∃ (w' : World),
 appIs Proofs.Try.prog #[56, 56] 56 (Value.slice a_1 l_1 c_1)
 (Value.slice (offA a c 1 2) (l - 1) (c - 1)) (Value.slice a_2 l_2 c_2)
 w'_1 w' ∧
 ∃ (m : Nat),
 Nat.succ m ≤ n_6 ∧
 I b a_2 l_2 c_2 (IntKind.wrap IntKind.i64 (n_5 + 1)) w' m)
 False)))))))
 False)
 False)
 False)
 False))
 (∀ (w'_1 : World),
 w'_1 = World.alloc w' (Obj.cells #[Value.slice none 0 0] 56) →
 ∀ (w'_2 : World),
 w'_2 = World.alloc w'_1 (Obj.cells #[Value.slice none 0 0] 56) →
 ∀ (w'_3 : World),
 w'_3 = World.alloc w'_2 (Obj.cells #[Value.pointer p] 23) →
 ∀ (w'_4 : World),
 w'_4 = World.alloc w'_3 (Obj.cells #[Value.pointer p] 23) →
 ∃ (xss : List (List Value)),
 ∃ (R : Nat → Prop),
 ∃ (I : (Nat → Prop) → Nat → World → Prop),
 ∃ (X : Nat → (Nat → Prop) → World → Prop),
 (GivesV Proofs.Try.prog 54 [Value.pointer (some (Addr.mk (Array.size (World.heap w'_3)) 0 none))] xss R w'_4 ∧
 (∀ (xs : List Value),
 List.Mem xs xss →
 List.length xs = 1 ∧ ∃ (n : Int), ∃ (n_7 : Int), xs = [Value.agg #[Value.int IntKind.i64 n, Value.int IntKind.i64 n_7]]) ∧
 ∀ (b : Nat), R b → Nat.succ b ≤ Array.size (World.heap w'_4)) ∧
 (∀ (w1 : World),
 Kept none' w'_4 w1 → Array.size (World.heap w1) = Array.size (World.heap w'_4) + 2 → I (fun (x : Nat) => False) 0 w1) ∧
 (∀ (Y : Nat → Prop) (i : Nat) (W W' : World),
 I Y i W →
 (∀ (b : Nat), Y b → Array.size (World.heap w'_4) + 2 ≤ b) →
 Kept (recsY (Array.size (World.heap w'_4)) Y) W W' →
 I (fun (b : Nat) => Y b ∨ Array.size (World.heap W) ≤ b ∧ Nat.succ b ≤ Array.size (World.heap W')) i W') ∧
 (∀ (k : Nat) (Y : Nat → Prop) (W W' : World),
 X k Y W →
 (∀ (b : Nat), Y b → Array.size (World.heap w'_4) + 2 ≤ b) →
 Kept (recsY (Array.size (World.heap w'_4)) Y) W W' →
 X k (fun (b : Nat) => Y b ∨ Array.size (World.heap W) ≤ b ∧ Nat.succ b ≤ Array.size (World.heap W')) W') ∧
 (∀ (Y : Nat → Prop) (i : Nat) (W : World),
 I Y i W →
 (∀ (b : Nat), Y b → Array.size (World.heap w'_4) + 2 ≤ b) →
 Array.size (World.heap w'_4) + 2 ≤ Array.size (World.heap W) →
 ∀ (n n_7 : Int),
 xss[i]? = some [Value.agg #[Value.int IntKind.i64 n, Value.int IntKind.i64 n_7]] →
 ∀ (w'_5 : World),
 w'_5 = World.alloc W (Obj.cells #[Value.int IntKind.i64 0, Value.int IntKind.i64 0] 58) →
 (wr w'_5 (Array.size (World.heap W)) 0 ∧ wr w'_5 (Array.size (World.heap W)) 1) ∧
 ∀ (w'_6 : World),
 w'_6 =
 st (st w'_5 (Array.size (World.heap W)) 0 (Value.int IntKind.i64 n)) (Array.size (World.heap W)) 1
 (Value.int IntKind.i64 n_7) →
 RecKept (Array.size (World.heap w'_4)) W w'_6 ∧
 ∀ (w2 : World),
 Kept (fun (b : Nat) => b = Array.size (World.heap w'_4) + 1) w'_6 w2 →
 Array.size (World.heap w2) = Array.size (World.heap w'_6) →
 ∃ (x : Option Addr),
 ∃ (x_1 : Nat),
 ∃ (x_2 : Nat),
 rd w2 (Array.size (World.heap w')) 0 = some (Value.slice x x_1 x_2) ∧
 ∃ (x_3 : Int),
 ∃ (x_4 : Int),
 (rd w2 (Array.size (World.heap W)) 0 = some (Value.int IntKind.i64 x_3) ∧
 rd w2 (Array.size (World.heap W)) 1 = some (Value.int IntKind.i64 x_4)) ∧
 ∀ (w'_7 : World),
 w'_7 =
 World.alloc w2
 (Obj.cells #[Value.int IntKind.i64 x_3, Value.int IntKind.i64 x_4] 58) →
 ∃ (a : Option Addr),
 ∃ (l : Nat),
 ∃ (c : Nat),
 ∃ (w'_8 : World),
 appIs Proofs.Try.prog #[56, 56] 56 (Value.slice x x_1 x_2)
 (Value.slice (some (Addr.mk (Array.size (World.heap w2)) 0 none))
 1 1)
 (Value.slice a l c) w'_7 w'_8 ∧
 wr w'_8 (Array.size (World.heap w')) 0 ∧
 ∀ (w'_9 : World),
 w'_9 =
 st w'_8 (Array.size (World.heap w')) 0 (Value.slice a l c) →
 RecKept (Array.size (World.heap w'_4)) w2 w'_9 ∧
 KeptY (fun (b : Nat) => Y b ∨ R b) W w'_9 ∧
 I Y (i + 1) w'_9) ∧
 (∀ (Y : Nat → Prop) (W : World),
 I Y (List.length xss) W →
 DefAt (Array.size (World.heap w'_4)) W →
 ∀ (w'_5 : World),
 w'_5 = World.alloc W (Obj.cells #[Value.pointer p_1] 23) →
 ∀ (w'_6 : World),
 w'_6 = World.alloc w'_5 (Obj.cells #[Value.pointer p_1] 23) →
 ∃ (xss : List (List Value)),
 ∃ (R : Nat → Prop),
 ∃ (I : (Nat → Prop) → Nat → World → Prop),
 ∃ (X : Nat → (Nat → Prop) → World → Prop),
 (GivesV Proofs.Try.prog 54 [Value.pointer (some (Addr.mk (Array.size (World.heap w'_5)) 0 none))] xss
 R w'_6 ∧
 (∀ (xs : List Value),
 List.Mem xs xss →
 List.length xs = 1 ∧
 ∃ (n : Int),
 ∃ (n_7 : Int), xs = [Value.agg #[Value.int IntKind.i64 n, Value.int IntKind.i64 n_7]]) ∧
 ∀ (b : Nat), R b → Nat.succ b ≤ Array.size (World.heap w'_6)) ∧
 (∀ (w1 : World),
 Kept none' w'_6 w1 →
 Array.size (World.heap w1) = Array.size (World.heap w'_6) + 2 →
 I (fun (x : Nat) => False) 0 w1) ∧
 (∀ (Y : Nat → Prop) (i : Nat) (W W' : World),
 I Y i W →
 (∀ (b : Nat), Y b → Array.size (World.heap w'_6) + 2 ≤ b) →
 Kept (recsY (Array.size (World.heap w'_6)) Y) W W' →
 I
 (fun (b : Nat) =>
 Y b ∨ Array.size (World.heap W) ≤ b ∧ Nat.succ b ≤ Array.size (World.heap W'))
 i W') ∧
 (∀ (k : Nat) (Y : Nat → Prop) (W W' : World),
 X k Y W →
 (∀ (b : Nat), Y b → Array.size (World.heap w'_6) + 2 ≤ b) →
 Kept (recsY (Array.size (World.heap w'_6)) Y) W W' →
 X k
 (fun (b : Nat) =>
 Y b ∨ Array.size (World.heap W) ≤ b ∧ Nat.succ b ≤ Array.size (World.heap W'))
 W') ∧
 (∀ (Y : Nat → Prop) (i : Nat) (W : World),
 I Y i W →
 (∀ (b : Nat), Y b → Array.size (World.heap w'_6) + 2 ≤ b) →
 Array.size (World.heap w'_6) + 2 ≤ Array.size (World.heap W) →
 ∀ (n n_7 : Int),
 xss[i]? = some [Value.agg #[Value.int IntKind.i64 n, Value.int IntKind.i64 n_7]] →
 ∀ (w' : World),
 w' =
 World.alloc W
 (Obj.cells #[Value.int IntKind.i64 0, Value.int IntKind.i64 0] 58) →
 (wr w' (Array.size (World.heap W)) 0 ∧
 wr w' (Array.size (World.heap W)) 1) ∧
 ∀ (w'_7 : World),
 w'_7 =
 st (st w' (Array.size (World.heap W)) 0 (Value.int IntKind.i64 n))
 (Array.size (World.heap W)) 1 (Value.int IntKind.i64 n_7) →
 RecKept (Array.size (World.heap w'_6)) W w'_7 ∧
 ∀ (w2 : World),
 Kept (fun (b : Nat) => b = Array.size (World.heap w'_6) + 1) w'_7
 w2 →
 Array.size (World.heap w2) = Array.size (World.heap w'_7) →
 ∃ (x : Option Addr),
 ∃ (x_1 : Nat),
 ∃ (x_2 : Nat),
 rd w2 (Array.size (World.heap w'_1)) 0 =
 some (Value.slice x x_1 x_2) ∧
 ∃ (x_3 : Int),
 ∃ (x_4 : Int),
 (rd w2 (Array.size (World.heap W)) 0 =
 some (Value.int IntKind.i64 x_3) ∧
 rd w2 (Array.size (World.heap W)) 1 =
 some (Value.int IntKind.i64 x_4)) ∧
 ∀ (w' : World),
 w' =
 World.alloc w2
 (Obj.cells
 #[Value.int IntKind.i64 x_3,
 Value.int IntKind.i64 x_4]
 58) →
 ∃ (a : Option Addr),
 ∃ (l : Nat),
 ∃ (c : Nat),
 ∃ (w'_8 : World),
 appIs Proofs.Try.prog #[56, 56] 56
 (Value.slice x x_1 x_2)
 (Value.slice
 (some
 (Addr.mk
 (Array.size
 (World.heap w2))
 0 none))
 1 1)
 (Value.slice a l c) w' w'_8 ∧
 wr w'_8
 (Array.size (World.heap w'_1))
 0 ∧
 ∀ (w' : World),
 w' =
 st w'_8
 (Array.size
 (World.heap w'_1))
 0 (Value.slice a l c) →
 RecKept
 (Array.size
 (World.heap w'_6))
 w2 w' ∧
 KeptY
 (fun (b : Nat) =>
 Y b ∨ R b)
 W w' ∧
 I Y (i + 1) w') ∧
 (∀ (Y : Nat → Prop) (W : World),
 I Y (List.length xss) W →
 DefAt (Array.size (World.heap w'_6)) W →
 ∃ (x : Option Addr),
 ∃ (x_1 : Nat),
 ∃ (x_2 : Nat),
 rd W (Array.size (World.heap w')) 0 = some (Value.slice x x_1 x_2) ∧
 ∃ (x : Option Addr),
 ∃ (x_3 : Nat),
 ∃ (x_4 : Nat),
 rd W (Array.size (World.heap w'_1)) 0 = some (Value.slice x x_3 x_4) ∧
 Wif ((↑x_1 : Int) != (↑x_3 : Int))
 (DefsAt
 [Array.size (World.heap w'_6), Array.size (World.heap w'_4)]
 W ∧
 ∀ (w2 : World),
 Kept
 (fun (b : Nat) =>
 List.Mem b
 [Array.size (World.heap w'_6),
 Array.size (World.heap w'_4)])
 W w2 →
 Array.size (World.heap w2) = Array.size (World.heap W) →
 K (Value.bool false) w2)
 (Calls Proofs.Try.prog 19 #[Value.pointer p] W
 fun (e : Ending) (w'_7 : World) =>
 ∃ (n_7 : Int),
 e = Ending.returned (Value.int IntKind.i64 n_7) ∧
 Wif (n_7 != n)
 (DefsAt
 [Array.size (World.heap w'_6),
 Array.size (World.heap w'_4)]
 w'_7 ∧
 ∀ (w2 : World),
 Kept
 (fun (b : Nat) =>
 List.Mem b
 [Array.size (World.heap w'_6),
 Array.size (World.heap w'_4)])
 w'_7 w2 →
 Array.size (World.heap w2) =
 Array.size (World.heap w'_7) →
 K (Value.bool false) w2)
 (∃ (x : Option Addr),
 ∃ (x_5 : Nat),
 ∃ (x_6 : Nat),
 rd w'_7 (Array.size (World.heap w')) 0 =
 some (Value.slice x x_5 x_6) ∧
 ∃ (I : Bool → Int → World → Nat → Prop),
 (∃ (n : Nat), I b 0 w'_7 n) ∧
 ∀ (b : Bool) (n : Int) (w'_8 : World)
 (n_8 : Nat),
 I b n w'_8 n_8 →
 Wif (decide (n < (↑x_5 : Int)))
 (∀ (w1 : World),
 w1 = World.drew w'_8 →
 ∃ (x : Option Addr),
 ∃ (x_7 : Nat),
 ∃ (x_8 : Nat),
 rd w1
 (Array.size
 (World.heap w'))
 0 =
 some
 (Value.slice x x_7
 x_8) ∧
 Wif (isP x)
 (Wif (inB n x_7)
 (∃ (x_9 : Int),
 ∃ (x_10 : Int),
 (rd w1 (pb x)
 (po x +
 Int.toNat
 n *
 2) =
 some
 (Value.int
 IntKind.i64
 x_9) ∧
 rd w1 (pb x)
 (po x +
 Int.toNat
 n *
 2 +
 1) =
 some
 (Value.int
 IntKind.i64
 x_10)) ∧
 ∃ (x :
 Option Addr),
 ∃ (x_11 : Nat),
 ∃ (x_12 :
 Nat),
 rd w1
 (Array.size
 (World.heap
 w'_1))
 0 =
 some
 (Value.slice
 x
 x_11
 x_12) ∧
 Wif
 (isP x)
 (Wif
 (inB n
 x_11)
 (∃
 (x_13
 :
 Int),
 ∃
 (x_14
 :
 Int),
 (rd
 w1
 (pb
 x)
 (po
 x +
 Int.toNat
 n *
 2) =
 some
 (Value.int
 IntKind.i64
 x_13) ∧
 rd
 w1
 (pb
 x)
 (po
 x +
 Int.toNat
 n *
 2 +
 1) =
 some
 (Value.int
 IntKind.i64
 x_14)) ∧
 Wif
 (!(x_9 ==
 x_13 &&
 (x_10 ==
 x_14 &&
 true)))
 (DefsAt
 [Array.size
 (World.heap
 w'_6),
 Array.size
 (World.heap
 w'_4)]
 w1 ∧
 ∀
 (w2 :
 World),
 Kept
 (fun
 (b :
 Nat) =>
 List.Mem
 b
 [Array.size
 (World.heap
 w'_6),
 Array.size
 (World.heap
 w'_4)])
 w1
 w2 →
 Array.size
 (World.heap
 w2) =
 Array.size
 (World.heap
 w1) →
 K
 (Value.bool
 false)
 w2)
 (∃
 (m
 :
 Nat),
 Nat.succ
 m ≤
 n_8 ∧
 I
 b
 (IntKind.wrap
 IntKind.i64
 (n +
 1))
 w1
 m))
 False)
 False)
 False)
 False)
 (Calls Proofs.Try.prog 14 #[] w'_8
 fun (e : Ending) (w' : World) =>
 ∃ (b : Bool),
 e = Ending.returned (Value.bool b) ∧
 DefsAt
 [Array.size (World.heap w'_6),
 Array.size
 (World.heap w'_4)]
 w' ∧
 ∀ (w2 : World),
 Kept
 (fun (b : Nat) =>
 List.Mem b
 [Array.size
 (World.heap w'_6),
 Array.size
 (World.heap
 w'_4)])
 w' w2 →
 Array.size (World.heap w2) =
 Array.size
 (World.heap w') →
 K (Value.bool b) w2)))) ∧
 (∀ (Y : Nat → Prop) (W : World),
 X 0 Y W →
 DefAt (Array.size (World.heap w'_6)) W →
 DefsAt [Array.size (World.heap w'_6), Array.size (World.heap w'_4)] W ∧
 ∀ (w2 : World),
 Kept
 (fun (b : Nat) =>
 List.Mem b [Array.size (World.heap w'_6), Array.size (World.heap w'_4)])
 W w2 →
 Array.size (World.heap w2) = Array.size (World.heap W) →
 K (Value.bool b) w2) ∧
 True) ∧
 (∀ (Y : Nat → Prop) (W : World),
 X 0 Y W →
 DefAt (Array.size (World.heap w'_4)) W →
 DefsAt [Array.size (World.heap w'_4)] W ∧
 ∀ (w2 : World),
 Kept (fun (b : Nat) => List.Mem b [Array.size (World.heap w'_4)]) W w2 →
 Array.size (World.heap w2) = Array.size (World.heap W) → K (Value.bool b) w2) ∧
 True)))
theorem vcE6 (n : Int) (orders : Option
 Addr) (ordersL : Nat) (ordersC : Nat) (high : Bool) (next : Option
 Addr) (nextL : Nat) (nextC : Nat) (w : World) (K : Value → World → Prop) : vcP6 n orders ordersL ordersC high next nextL nextC w K = Eng.wBody Go.Proofs.Try.prog (Eng.handOf Go.Proofs.Try.prog [44,
 27] 1) [] Go.Proofs.Try.f6 (Eng.bodyOf Go.Proofs.Try.f6) [Value.int IntKind.i64 n, Value.slice orders ordersL ordersC, Value.bool high, Value.slice next nextL nextC] w K := by kernel_rfl
theorem vc6 (n : Int) (orders : Option
 Addr) (ordersL : Nat) (ordersC : Nat) (high : Bool) (next : Option
 Addr) (nextL : Nat) (nextC : Nat) (w : World) (K : Value → World → Prop) (h : vcP6 n orders ordersL ordersC high next nextL nextC w K) :
 Calls Go.Proofs.Try.prog 6 #[Value.int IntKind.i64 n, Value.slice orders ordersL ordersC, Value.bool high, Value.slice next nextL nextC] w (fun e w' => ∃ v, e = .returned v ∧ K v w') :=
 Eng.vc_of [44, 27] 1 [] Go.Proofs.Try.mixes Go.Proofs.Try.func6 (by kernel_rfl) (by kernel_rfl) (vcE6 n orders ordersL ordersC high next nextL nextC w K) h

-- 181859 ms

end Go.Proofs.Ytkmcmkimeibjdaa
