/-
  A part of a proof that a law of this seat returns true at every input. Conditions: those in each theorem.
-/
import Derived.Test.YtkmcmkimeibjdaaZV6
set_option linter.unusedSimpArgs false
set_option linter.unusedVariables false
set_option maxRecDepth 100000
namespace Go.Proofs.Ytkmcmkimeibjdaa
open Go Go.Eng
/- byre/byrelaw07.same -/
def vcP38 (z : Option Addr) (w' : Option Addr) (w : World) (K : Value → World → Prop) : Prop :=
 ∀ (w'_1 : World),
 w'_1 = World.alloc w (Obj.cells #[Value.bool false] 4) →
 Calls Proofs.Try.prog 60 #[Value.pointer w'] w'_1 fun (e : Ending) (w'_2 : World) =>
 ∃ (a : Option Addr),
 ∃ (l : Nat),
 ∃ (c : Nat),
 e = Ending.returned (Value.slice a l c) ∧
 ∀ (w'_3 : World),
 w'_3 = World.alloc w'_2 (Obj.cells #[Value.slice none 0 0] 56) →
 wr w'_3 (Array.size (World.heap w'_2)) 0 ∧
 ∀ (w'_4 : World),
 w'_4 = st w'_3 (Array.size (World.heap w'_2)) 0 (Value.slice a l c) →
 ∀ (w'_5 : World),
 w'_5 = World.alloc w'_4 (Obj.cells #[Value.int IntKind.i64 0] 3) →
 wr w'_5 (Array.size (World.heap w'_4)) 0 ∧
 ∀ (w'_6 : World),
 w'_6 = st w'_5 (Array.size (World.heap w'_4)) 0 (Value.int IntKind.i64 0) →
 ∀ (w'_7 : World),
 w'_7 = World.alloc w'_6 (Obj.cells #[Value.pointer z] 43) →
 ∀ (w'_8 : World),
 w'_8 = World.alloc w'_7 (Obj.cells #[Value.pointer z] 43) →
 ∃ (xss : List (List Value)),
 ∃ (R : Nat → Prop),
 ∃ (I : (Nat → Prop) → Nat → World → Prop),
 ∃ (X : Nat → (Nat → Prop) → World → Prop),
 (GivesV Proofs.Try.prog 64 [Value.pointer (some (Addr.mk (Array.size (World.heap w'_7)) 0 none))] xss R w'_8 ∧
 (∀ (xs : List Value),
 List.Mem xs xss → List.length xs = 1 ∧ ∃ (n : Int), ∃ (n_1 : Int), xs = [Value.agg #[Value.int IntKind.i64 n, Value.int IntKind.i64 n_1]]) ∧
 ∀ (b : Nat), R b → Nat.succ b ≤ Array.size (World.heap w'_8)) ∧
 (∀ (w1 : World), Kept none' w'_8 w1 → Array.size (World.heap w1) = Array.size (World.heap w'_8) + 2 → I (fun (x : Nat) => False) 0 w1) ∧
 (∀ (Y : Nat → Prop) (i : Nat) (W W' : World),
 I Y i W →
 (∀ (b : Nat), Y b → Array.size (World.heap w'_8) + 2 ≤ b) →
 Kept (recsY (Array.size (World.heap w'_8)) Y) W W' →
 I (fun (b : Nat) => Y b ∨ Array.size (World.heap W) ≤ b ∧ Nat.succ b ≤ Array.size (World.heap W')) i W') ∧
 (∀ (k : Nat) (Y : Nat → Prop) (W W' : World),
 X k Y W →
 (∀ (b : Nat), Y b → Array.size (World.heap w'_8) + 2 ≤ b) →
 Kept (recsY (Array.size (World.heap w'_8)) Y) W W' →
 X k (fun (b : Nat) => Y b ∨ Array.size (World.heap W) ≤ b ∧ Nat.succ b ≤ Array.size (World.heap W')) W') ∧
 (∀ (Y : Nat → Prop) (i : Nat) (W : World),
 I Y i W →
 (∀ (b : Nat), Y b → Array.size (World.heap w'_8) + 2 ≤ b) →
 Array.size (World.heap w'_8) + 2 ≤ Array.size (World.heap W) →
 ∀ (n n_1 : Int),
 xss[i]? = some [Value.agg #[Value.int IntKind.i64 n, Value.int IntKind.i64 n_1]] →
 ∀ (w' : World),
 w' = World.alloc W (Obj.cells #[Value.int IntKind.i64 0, Value.int IntKind.i64 0] 58) →
 (wr w' (Array.size (World.heap W)) 0 ∧ wr w' (Array.size (World.heap W)) 1) ∧
 ∀ (w'_9 : World),
 w'_9 =
 st (st w' (Array.size (World.heap W)) 0 (Value.int IntKind.i64 n)) (Array.size (World.heap W)) 1
 (Value.int IntKind.i64 n_1) →
 RecKept (Array.size (World.heap w'_8)) W w'_9 ∧
 ∀ (w2 : World),
 Kept (fun (b : Nat) => b = Array.size (World.heap w'_8) + 1) w'_9 w2 →
 Array.size (World.heap w2) = Array.size (World.heap w'_9) →
 ∀ (w1 : World),
 w1 = World.drew w2 →
 ∃ (x : Int),
 rd w1 (Array.size (World.heap w'_4)) 0 = some (Value.int IntKind.i64 x) ∧
 ∃ (x_1 : Option Addr),
 ∃ (x_2 : Nat),
 ∃ (x_3 : Nat),
 rd w1 (Array.size (World.heap w'_2)) 0 = some (Value.slice x_1 x_2 x_3) ∧
 ∃ (x_4 : Int),
 ∃ (x_5 : Int),
 (decide (x ≥ (↑x_2 : Int)) = false →
 rd w1 (Array.size (World.heap W)) 0 = some (Value.int IntKind.i64 x_4) ∧
 rd w1 (Array.size (World.heap W)) 1 = some (Value.int IntKind.i64 x_5)) ∧
 ∃ (x_6 : Option Addr),
 ∃ (x_7 : Nat),
 ∃ (x_8 : Nat),
 (decide (x ≥ (↑x_2 : Int)) = false →
 rd w1 (Array.size (World.heap w'_2)) 0 = some (Value.slice x_6 x_7 x_8)) ∧
 ∃ (x_9 : Int),
 (decide (x ≥ (↑x_2 : Int)) = false →
 rd w1 (Array.size (World.heap w'_4)) 0 =
 some (Value.int IntKind.i64 x_9)) ∧
 gIf (isP x_6) (decide (x ≥ (↑x_2 : Int)) = false)
 (gIf (inB x_9 x_7) (decide (x ≥ (↑x_2 : Int)) = false)
 (∃ (x_10 : Int),
 ∃ (x_11 : Int),
 (decide (x ≥ (↑x_2 : Int)) = false →
 rd w1 (pb x_6) (po x_6 + Int.toNat x_9 * 2) =
 some (Value.int IntKind.i64 x_10) ∧
 rd w1 (pb x_6) (po x_6 + Int.toNat x_9 * 2 + 1) =
 some (Value.int IntKind.i64 x_11)) ∧
 Wif
 (decide (x ≥ (↑x_2 : Int)) ||
 !(x_4 == x_10 && (x_5 == x_11 && true)))
 (wr w1 (Array.size (World.heap w)) 0 ∧
 ∀ (w' : World),
 w' =
 st w1 (Array.size (World.heap w)) 0
 (Value.bool false) →
 RecKept (Array.size (World.heap w'_8)) w2 w' ∧
 KeptY (fun (b : Nat) => Y b ∨ R b) W w' ∧ X 0 Y w')
 (∃ (x : Int),
 rd w1 (Array.size (World.heap w'_4)) 0 =
 some (Value.int IntKind.i64 x) ∧
 wr w1 (Array.size (World.heap w'_4)) 0 ∧
 ∀ (w' : World),
 w' =
 st w1 (Array.size (World.heap w'_4)) 0
 (Value.int IntKind.i64
 (IntKind.wrap IntKind.i64 (x + 1))) →
 RecKept (Array.size (World.heap w'_8)) w2 w' ∧
 KeptY (fun (b : Nat) => Y b ∨ R b) W w' ∧
 I Y (i + 1) w')))) ∧
 (∀ (Y : Nat → Prop) (W : World),
 I Y (List.length xss) W →
 DefAt (Array.size (World.heap w'_8)) W →
 ∀ (w'_9 : World),
 w'_9 = World.alloc W (Obj.cells #[Value.pointer z] 43) →
 ∀ (w'_10 : World),
 w'_10 = World.alloc w'_9 (Obj.cells #[Value.pointer z] 43) →
 ∃ (xss : List (List Value)),
 ∃ (R : Nat → Prop),
 ∃ (I : (Nat → Prop) → Nat → World → Prop),
 ∃ (X : Nat → (Nat → Prop) → World → Prop),
 (GivesV Proofs.Try.prog 64 [Value.pointer (some (Addr.mk (Array.size (World.heap w'_9)) 0 none))] xss R w'_10 ∧
 (∀ (xs : List Value), List.Mem xs xss → List.length xs = 1 ∧ ∃ (v : Value), xs = [v]) ∧
 ∀ (b : Nat), R b → Nat.succ b ≤ Array.size (World.heap w'_10)) ∧
 (∀ (w1 : World),
 Kept none' w'_10 w1 →
 Array.size (World.heap w1) = Array.size (World.heap w'_10) + 2 → I (fun (x : Nat) => False) 0 w1) ∧
 (∀ (Y : Nat → Prop) (i : Nat) (W W' : World),
 I Y i W →
 (∀ (b : Nat), Y b → Array.size (World.heap w'_10) + 2 ≤ b) →
 Kept (recsY (Array.size (World.heap w'_10)) Y) W W' →
 I (fun (b : Nat) => Y b ∨ Array.size (World.heap W) ≤ b ∧ Nat.succ b ≤ Array.size (World.heap W')) i
 W') ∧
 (∀ (k : Nat) (Y : Nat → Prop) (W W' : World),
 X k Y W →
 (∀ (b : Nat), Y b → Array.size (World.heap w'_10) + 2 ≤ b) →
 Kept (recsY (Array.size (World.heap w'_10)) Y) W W' →
 X k
 (fun (b : Nat) => Y b ∨ Array.size (World.heap W) ≤ b ∧ Nat.succ b ≤ Array.size (World.heap W'))
 W') ∧
 (∀ (Y : Nat → Prop) (i : Nat) (W : World),
 I Y i W →
 (∀ (b : Nat), Y b → Array.size (World.heap w'_10) + 2 ≤ b) →
 Array.size (World.heap w'_10) + 2 ≤ Array.size (World.heap W) →
 ∀ (v : Value),
 xss[i]? = some [v] →
 RecKept (Array.size (World.heap w'_10)) W W ∧
 ∀ (w2 : World),
 Kept (fun (b : Nat) => b = Array.size (World.heap w'_10) + 1) W w2 →
 Array.size (World.heap w2) = Array.size (World.heap W) →
 RecKept (Array.size (World.heap w'_10)) w2 w2 ∧
 KeptY (fun (b : Nat) => Y b ∨ R b) W w2 ∧ X 3 Y w2) ∧
 (∀ (Y : Nat → Prop) (W : World),
 I Y (List.length xss) W →
 DefAt (Array.size (World.heap w'_10)) W →
 ∃ (I : Int → World → Nat → Prop),
 (∃ (n : Nat), I (-1) W n) ∧
 ∀ (n : Int) (w'_11 : World) (n_1 : Nat),
 I n w'_11 n_1 →
 Wif (isP w')
 (∃ (x : Option Addr),
 ∃ (x_1 : Nat),
 ∃ (x_2 : Nat),
 rd w'_11 (pb w') (po w' + 94) = some (Value.slice x x_1 x_2) ∧
 Wif (decide (n ≤ (↑x_1 : Int)))
 (Calls Proofs.Try.prog 23 #[Value.pointer z, Value.int IntKind.i64 n] w'_11
 fun (e : Ending) (w'_12 : World) =>
 ∃ (n_2 : Int),
 e = Ending.returned (Value.int IntKind.i64 n_2) ∧
 Calls Proofs.Try.prog 61 #[Value.pointer w', Value.int IntKind.i64 n]
 w'_12 fun (e : Ending) (w'_13 : World) =>
 ∃ (n_3 : Int),
 e = Ending.returned (Value.int IntKind.i64 n_3) ∧
 Wif (n_2 != n_3)
 (wr w'_13 (Array.size (World.heap w)) 0 ∧
 ∀ (w' : World),
 w' =
 st w'_13 (Array.size (World.heap w)) 0
 (Value.bool false) →
 DefsAt
 [Array.size (World.heap w'_10),
 Array.size (World.heap w'_8)]
 w' ∧
 ∀ (w2 : World),
 Kept
 (fun (b : Nat) =>
 List.Mem b
 [Array.size (World.heap w'_10),
 Array.size (World.heap w'_8)])
 w' w2 →
 Array.size (World.heap w2) =
 Array.size (World.heap w') →
 ∃ (x : Bool),
 rd w2 (Array.size (World.heap w)) 0 =
 some (Value.bool x) ∧
 K (Value.bool x) w2)
 (Calls Proofs.Try.prog 25
 #[Value.pointer z, Value.int IntKind.i64 n] w'_13
 fun (e : Ending) (w'_14 : World) =>
 ∃ (n_4 : Int),
 e = Ending.returned (Value.int IntKind.i64 n_4) ∧
 Calls Proofs.Try.prog 62
 #[Value.pointer w', Value.int IntKind.i64 n] w'_14
 fun (e : Ending) (w' : World) =>
 ∃ (n_5 : Int),
 e = Ending.returned (Value.int IntKind.i64 n_5) ∧
 Wif (n_4 != n_5)
 (wr w' (Array.size (World.heap w)) 0 ∧
 ∀ (w'_15 : World),
 w'_15 =
 st w' (Array.size (World.heap w)) 0
 (Value.bool false) →
 DefsAt
 [Array.size (World.heap w'_10),
 Array.size (World.heap w'_8)]
 w'_15 ∧
 ∀ (w2 : World),
 Kept
 (fun (b : Nat) =>
 List.Mem b
 [Array.size
 (World.heap w'_10),
 Array.size
 (World.heap w'_8)])
 w'_15 w2 →
 Array.size (World.heap w2) =
 Array.size (World.heap w'_15) →
 ∃ (x : Bool),
 rd w2
 (Array.size
 (World.heap w))
 0 =
 some (Value.bool x) ∧
 K (Value.bool x) w2)
 (∃ (m : Nat),
 Nat.succ m ≤ n_1 ∧
 I (IntKind.wrap IntKind.i64 (n + 1)) w' m)))
 (∃ (x : Int),
 rd w'_11 (Array.size (World.heap w'_4)) 0 =
 some (Value.int IntKind.i64 x) ∧
 ∃ (x_3 : Option Addr),
 ∃ (x_4 : Nat),
 ∃ (x_5 : Nat),
 rd w'_11 (Array.size (World.heap w'_2)) 0 =
 some (Value.slice x_3 x_4 x_5) ∧
 wr w'_11 (Array.size (World.heap w)) 0 ∧
 ∀ (w' : World),
 w' =
 st w'_11 (Array.size (World.heap w)) 0
 (Value.bool (x == (↑x_4 : Int))) →
 DefsAt
 [Array.size (World.heap w'_10),
 Array.size (World.heap w'_8)]
 w' ∧
 ∀ (w2 : World),
 Kept
 (fun (b : Nat) =>
 List.Mem b
 [Array.size (World.heap w'_10),
 Array.size (World.heap w'_8)])
 w' w2 →
 Array.size (World.heap w2) =
 Array.size (World.heap w') →
 ∃ (x : Bool),
 rd w2 (Array.size (World.heap w)) 0 =
 some (Value.bool x) ∧
 K (Value.bool x) w2))
 False) ∧
 (∀ (Y : Nat → Prop) (W : World),
 X 0 Y W →
 DefAt (Array.size (World.heap w'_10)) W →
 DefsAt [Array.size (World.heap w'_10), Array.size (World.heap w'_8)] W ∧
 ∀ (w2 : World),
 Kept
 (fun (b : Nat) =>
 List.Mem b [Array.size (World.heap w'_10), Array.size (World.heap w'_8)])
 W w2 →
 Array.size (World.heap w2) = Array.size (World.heap W) →
 ∃ (x : Bool),
 rd w2 (Array.size (World.heap w)) 0 = some (Value.bool x) ∧ K (Value.bool x) w2) ∧
 ∀ (Y : Nat → Prop) (W : World),
 X 3 Y W →
 DefAt (Array.size (World.heap w'_10)) W →
 ∃ (I : Int → World → Nat → Prop),
 (∃ (n : Nat), I (-1) W n) ∧
 ∀ (n : Int) (w'_11 : World) (n_1 : Nat),
 I n w'_11 n_1 →
 Wif (isP w')
 (∃ (x : Option Addr),
 ∃ (x_1 : Nat),
 ∃ (x_2 : Nat),
 rd w'_11 (pb w') (po w' + 94) = some (Value.slice x x_1 x_2) ∧
 Wif (decide (n ≤ (↑x_1 : Int)))
 (Calls Proofs.Try.prog 23 #[Value.pointer z, Value.int IntKind.i64 n]
 w'_11 fun (e : Ending) (w'_12 : World) =>
 ∃ (n_2 : Int),
 e = Ending.returned (Value.int IntKind.i64 n_2) ∧
 Calls Proofs.Try.prog 61
 #[Value.pointer w', Value.int IntKind.i64 n] w'_12
 fun (e : Ending) (w'_13 : World) =>
 ∃ (n_3 : Int),
 e = Ending.returned (Value.int IntKind.i64 n_3) ∧
 Wif (n_2 != n_3)
 (wr w'_13 (Array.size (World.heap w)) 0 ∧
 ∀ (w' : World),
 w' =
 st w'_13 (Array.size (World.heap w)) 0
 (Value.bool false) →
 DefsAt
 [Array.size (World.heap w'_10),
 Array.size (World.heap w'_8)]
 w' ∧
 ∀ (w2 : World),
 Kept
 (fun (b : Nat) =>
 List.Mem b
 [Array.size (World.heap w'_10),
 Array.size (World.heap w'_8)])
 w' w2 →
 Array.size (World.heap w2) =
 Array.size (World.heap w') →
 ∃ (x : Bool),
 rd w2 (Array.size (World.heap w)) 0 =
 some (Value.bool x) ∧
 K (Value.bool x) w2)
 (Calls Proofs.Try.prog 25
 #[Value.pointer z, Value.int IntKind.i64 n] w'_13
 fun (e : Ending) (w'_14 : World) =>
 ∃ (n_4 : Int),
 e = Ending.returned (Value.int IntKind.i64 n_4) ∧
 Calls Proofs.Try.prog 62
 #[Value.pointer w', Value.int IntKind.i64 n] w'_14
 fun (e : Ending) (w' : World) =>
 ∃ (n_5 : Int),
 e = Ending.returned (Value.int IntKind.i64 n_5) ∧
 Wif (n_4 != n_5)
 (wr w' (Array.size (World.heap w)) 0 ∧
 ∀ (w'_15 : World),
 w'_15 =
 st w' (Array.size (World.heap w)) 0
 (Value.bool false) →
 DefsAt
 [Array.size (World.heap w'_10),
 Array.size (World.heap w'_8)]
 w'_15 ∧
 ∀ (w2 : World),
 Kept
 (fun (b : Nat) =>
 List.Mem b
 [Array.size
 (World.heap w'_10),
 Array.size
 (World.heap w'_8)])
 w'_15 w2 →
 Array.size (World.heap w2) =
 Array.size
 (World.heap w'_15) →
 ∃ (x : Bool),
 rd w2
 (Array.size
 (World.heap w))
 0 =
 some (Value.bool x) ∧
 K (Value.bool x) w2)
 (∃ (m : Nat),
 Nat.succ m ≤ n_1 ∧
 I (IntKind.wrap IntKind.i64 (n + 1)) w'
 m)))
 (∃ (x : Int),
 rd w'_11 (Array.size (World.heap w'_4)) 0 =
 some (Value.int IntKind.i64 x) ∧
 ∃ (x_3 : Option Addr),
 ∃ (x_4 : Nat),
 ∃ (x_5 : Nat),
 rd w'_11 (Array.size (World.heap w'_2)) 0 =
 some (Value.slice x_3 x_4 x_5) ∧
 wr w'_11 (Array.size (World.heap w)) 0 ∧
 ∀ (w' : World),
 w' =
 st w'_11 (Array.size (World.heap w)) 0
 (Value.bool (x == (↑x_4 : Int))) →
 DefsAt
 [Array.size (World.heap w'_10),
 Array.size (World.heap w'_8)]
 w' ∧
 ∀ (w2 : World),
 Kept
 (fun (b : Nat) =>
 List.Mem b
 [Array.size (World.heap w'_10),
 Array.size (World.heap w'_8)])
 w' w2 →
 Array.size (World.heap w2) =
 Array.size (World.heap w') →
 ∃ (x : Bool),
 rd w2 (Array.size (World.heap w)) 0 =
 some (Value.bool x) ∧
 K (Value.bool x) w2))
 False) ∧
 (∀ (Y : Nat → Prop) (W : World),
 X 0 Y W →
 DefAt (Array.size (World.heap w'_8)) W →
 DefsAt [Array.size (World.heap w'_8)] W ∧
 ∀ (w2 : World),
 Kept (fun (b : Nat) => List.Mem b [Array.size (World.heap w'_8)]) W w2 →
 Array.size (World.heap w2) = Array.size (World.heap W) →
 ∃ (x : Bool), rd w2 (Array.size (World.heap w)) 0 = some (Value.bool x) ∧ K (Value.bool x) w2) ∧
 True
theorem vcE38 (z : Option
 Addr) (w' : Option
 Addr) (w : World) (K : Value → World → Prop) : vcP38 z w' w K = Eng.wBody Go.Proofs.Try.prog (Eng.handOf Go.Proofs.Try.prog [44,
 27,
 43,
 50,
 51] 2) [] Go.Proofs.Try.f38 (Eng.bodyOf Go.Proofs.Try.f38) [Value.pointer z, Value.pointer w'] w K := by kernel_rfl
theorem vc38 (z : Option Addr) (w' : Option Addr) (w : World) (K : Value → World → Prop) (h : vcP38 z w' w K) :
 Calls Go.Proofs.Try.prog 38 #[Value.pointer z, Value.pointer w'] w (fun e w' => ∃ v, e = .returned v ∧ K v w') :=
 Eng.vc_of [44, 27, 43, 50, 51] 2 [] Go.Proofs.Try.mixes Go.Proofs.Try.func38 (by kernel_rfl) (by kernel_rfl) (vcE38 z w' w K) h

-- 12401 ms
/- byre/byrelaw07.ZonesPlays -/
def vcP11 (c0 : Nat → Int) (l : Option Addr) (lL : Nat) (lC : Nat) (w : World) (K : Value → World → Prop) : Prop :=
 ∀ (w' : World),
 w' = World.alloc w (Obj.cells (List.toArray (runI IntKind.i64 c0 0 94)) 41) →
 ∃ (x : Nat → Int),
 rdAll w' (Array.size (World.heap w)) 0 (runI IntKind.i64 x 0 94) ∧
 Calls Proofs.Try.prog 20 #[Value.agg (List.toArray (runI IntKind.i64 x 0 94))] w' fun (e : Ending) (w' : World) =>
 ∃ (p : Option Addr),
 ∃ (n : Int),
 e = Ending.returned (Value.tuple #[Value.pointer p, Value.int IntKind.i64 n]) ∧
 ∃ (x : Nat → Int),
 rdAll w' (Array.size (World.heap w)) 0 (runI IntKind.i64 x 0 94) ∧
 Calls Proofs.Try.prog 36 #[Value.agg (List.toArray (runI IntKind.i64 x 0 94))] w' fun (e : Ending) (w' : World) =>
 ∃ (b : Bool),
 e = Ending.returned (Value.bool b) ∧
 Wif (!b)
 (Wif (Option.isNone p && n == 2) (Calls Proofs.Try.prog 21 #[] w' fun (e : Ending) (w' : World) => ∃ (b : Bool), e = Ending.returned (Value.bool b) ∧ K (Value.bool b) w')
 (K (Value.bool false) w'))
 (Wif (decide ((↑lL : Int) > 150))
 (Calls Proofs.Try.prog 21 #[] w' fun (e : Ending) (w' : World) => ∃ (b : Bool), e = Ending.returned (Value.bool b) ∧ K (Value.bool b) w')
 (∃ (x : Nat → Int),
 rdAll w' (Array.size (World.heap w)) 0 (runI IntKind.i64 x 0 94) ∧
 Calls Proofs.Try.prog 37 #[Value.agg (List.toArray (runI IntKind.i64 x 0 94))] w' fun (e : Ending) (w' : World) =>
 ∃ (p_1 : Option Addr),
 e = Ending.returned (Value.pointer p_1) ∧
 Wif (Option.isNone p || n != 0) (K (Value.bool false) w')
 (Calls Proofs.Try.prog 38 #[Value.pointer p, Value.pointer p_1] w' fun (e : Ending) (w' : World) =>
 ∃ (b : Bool),
 e = Ending.returned (Value.bool b) ∧
 Wif (!b) (K (Value.bool false) w')
 (∃ (I : Bool → Option Addr → Int → World → Nat → Prop),
 (∃ (n : Nat), I false p 0 w' n) ∧
 ∀ (b : Bool) (p : Option Addr) (n : Int) (w' : World) (n_1 : Nat),
 I b p n w' n_1 →
 Wif (decide (n < (↑lL : Int)))
 (Wif (isP l)
 (Wif (inB n lL)
 (∃ (x : Int),
 ∃ (x_1 : Int),
 ∃ (x_2 : Int),
 ∃ (x_3 : Int),
 ∃ (x_4 : Option Addr),
 ∃ (x_5 : Nat),
 ∃ (x_6 : Nat),
 ∃ (x_7 : Bool),
 (rd w' (pb l) (po l + Int.toNat n * 6) = some (Value.int IntKind.i64 x) ∧
 rd w' (pb l) (po l + Int.toNat n * 6 + 1) = some (Value.int IntKind.i64 x_1) ∧
 rd w' (pb l) (po l + Int.toNat n * 6 + 2) = some (Value.int IntKind.i64 x_2) ∧
 rd w' (pb l) (po l + Int.toNat n * 6 + 3) = some (Value.int IntKind.i64 x_3) ∧
 rd w' (pb l) (po l + Int.toNat n * 6 + 4) = some (Value.slice x_4 x_5 x_6) ∧
 rd w' (pb l) (po l + Int.toNat n * 6 + 5) = some (Value.bool x_7)) ∧
 ∀ (w'_1 : World),
 w'_1 =
 World.alloc w'
 (Obj.cells
 #[Value.int IntKind.i64 0, Value.int IntKind.i64 0, Value.int IntKind.i64 0, Value.int IntKind.i64 0,
 Value.slice none 0 0, Value.bool false]
 87) →
 (wr w'_1 (Array.size (World.heap w')) 0 ∧
 wr w'_1 (Array.size (World.heap w')) 1 ∧
 wr w'_1 (Array.size (World.heap w')) 2 ∧
 wr w'_1 (Array.size (World.heap w')) 3 ∧
 wr w'_1 (Array.size (World.heap w')) 4 ∧ wr w'_1 (Array.size (World.heap w')) 5) ∧
 ∀ (w'_2 : World),
 w'_2 =
 st
 (st
 (st
 (st
 (st (st w'_1 (Array.size (World.heap w')) 0 (Value.int IntKind.i64 x))
 (Array.size (World.heap w')) 1 (Value.int IntKind.i64 x_1))
 (Array.size (World.heap w')) 2 (Value.int IntKind.i64 x_2))
 (Array.size (World.heap w')) 3 (Value.int IntKind.i64 x_3))
 (Array.size (World.heap w')) 4 (Value.slice x_4 x_5 x_6))
 (Array.size (World.heap w')) 5 (Value.bool x_7) →
 ∃ (x : Option Addr),
 ∃ (x_8 : Nat),
 ∃ (x_9 : Nat),
 rd w'_2 (Array.size (World.heap w')) 4 = some (Value.slice x x_8 x_9) ∧
 Wif (decide ((↑x_8 : Int) > 50))
 (∃ (m : Nat), Nat.succ m ≤ n_1 ∧ I b p (IntKind.wrap IntKind.i64 (n + 1)) w'_2 m)
 (∃ (x : Int),
 rd w'_2 (Array.size (World.heap w')) 0 = some (Value.int IntKind.i64 x) ∧
 Wif (x == 1)
 (∀ (w1 : World),
 w1 = World.drew w'_2 →
 ∃ (x : Option Addr),
 ∃ (x_10 : Nat),
 ∃ (x_11 : Nat),
 rd w1 (Array.size (World.heap w')) 4 = some (Value.slice x x_10 x_11) ∧
 ∃ (x_12 : Int),
 rd w1 (Array.size (World.heap w')) 3 = some (Value.int IntKind.i64 x_12) ∧
 ∃ (x_13 : Bool),
 rd w1 (Array.size (World.heap w')) 5 = some (Value.bool x_13) ∧
 ∀ (w'_3 : World),
 w'_3 = World.alloc w1 (Obj.cells #[] 3) →
 (rd w'_3 (Array.size (World.heap w')) 5 = some (Value.bool x_13) ∧
 True) ∧
 (rd w'_3 (Array.size (World.heap w')) 3 =
 some (Value.int IntKind.i64 x_12) ∧
 True) ∧
 (rd w'_3 (Array.size (World.heap w')) 4 =
 some (Value.slice x x_10 x_11) ∧
 True) ∧
 ∃ (a : Option Addr),
 ∃ (l : Nat),
 ∃ (c : Nat),
 ∃ (w'_4 : World),
 appIs Proofs.Try.prog #[42, 42] 42
 (Value.slice
 (some
 (Addr.mk (Array.size (World.heap w1)) 0
 none))
 0 0)
 (Value.slice x x_10 x_11) (Value.slice a l c)
 w'_3 w'_4 ∧
 (rd w'_4 (Array.size (World.heap w')) 5 =
 some (Value.bool x_13) ∧
 True) ∧
 (rd w'_4 (Array.size (World.heap w')) 3 =
 some (Value.int IntKind.i64 x_12) ∧
 True) ∧
 Calls Proofs.Try.prog 22
 #[Value.pointer p, Value.slice a l c,
 Value.int IntKind.i64 x_12,
 Value.bool x_13]
 w'_4 fun (e : Ending) (w'_5 : World) =>
 ∃ (n_2 : Int),
 ∃ (n_3 : Int),
 e =
 Ending.returned
 (Value.tuple
 #[Value.int IntKind.i64 n_2,
 Value.int IntKind.i64 n_3]) ∧
 ∃ (x : Option Addr),
 ∃ (x_14 : Nat),
 ∃ (x_15 : Nat),
 rd w'_5
 (Array.size
 (World.heap w'))
 4 =
 some
 (Value.slice x x_14
 x_15) ∧
 ∃ (x_16 : Int),
 rd w'_5
 (Array.size
 (World.heap w'))
 3 =
 some
 (Value.int IntKind.i64
 x_16) ∧
 ∃ (x_17 : Bool),
 rd w'_5
 (Array.size
 (World.heap w'))
 5 =
 some
 (Value.bool
 x_17) ∧
 Calls Proofs.Try.prog
 39
 #[Value.pointer p_1,
 Value.slice x x_14
 x_15,
 Value.int
 IntKind.i64
 x_16,
 Value.bool x_17]
 w'_5
 fun (e : Ending)
 (w' : World) =>
 ∃ (n_4 : Int),
 ∃ (n_5 : Int),
 e =
 Ending.returned
 (Value.tuple
 #[Value.int
 IntKind.i64
 n_4,
 Value.int
 IntKind.i64
 n_5]) ∧
 Wif
 (!(n_2 ==
 n_4 &&
 n_3 ==
 n_5))
 (K
 (Value.bool
 false)
 w')
 (Calls
 Proofs.Try.prog
 38
 #[Value.pointer
 p,
 Value.pointer
 p_1]
 w'
 fun
 (e :
 Ending)
 (w' :
 World) =>
 ∃ (b_1 :
 Bool),
 e =
 Ending.returned
 (Value.bool
 b_1) ∧
 Wif
 (!b_1)
 (K
 (Value.bool
 false)
 w')
 (∃
 (m
 :
 Nat),
 Nat.succ
 m ≤
 n_1 ∧
 I
 b
 p
 (IntKind.wrap
 IntKind.i64
 (n +
 1))
 w'
 m)))
 (∃ (x : Int),
 rd w'_2 (Array.size (World.heap w')) 0 = some (Value.int IntKind.i64 x) ∧
 Wif (x == 2)
 (∃ (x : Int),
 rd w'_2 (Array.size (World.heap w')) 1 = some (Value.int IntKind.i64 x) ∧
 ∃ (x_10 : Int),
 rd w'_2 (Array.size (World.heap w')) 2 = some (Value.int IntKind.i64 x_10) ∧
 ∃ (x_11 : Bool),
 rd w'_2 (Array.size (World.heap w')) 5 = some (Value.bool x_11) ∧
 Calls Proofs.Try.prog 26
 #[Value.pointer p, Value.int IntKind.i64 x,
 Value.int IntKind.i64 x_10, Value.bool x_11]
 w'_2 fun (e : Ending) (w'_3 : World) =>
 ∃ (n_2 : Int),
 ∃ (n_3 : Int),
 e =
 Ending.returned
 (Value.tuple
 #[Value.int IntKind.i64 n_2, Value.int IntKind.i64 n_3]) ∧
 ∃ (x : Int),
 rd w'_3 (Array.size (World.heap w')) 1 =
 some (Value.int IntKind.i64 x) ∧
 ∃ (x_12 : Int),
 rd w'_3 (Array.size (World.heap w')) 2 =
 some (Value.int IntKind.i64 x_12) ∧
 ∃ (x_13 : Bool),
 rd w'_3 (Array.size (World.heap w')) 5 =
 some (Value.bool x_13) ∧
 Calls Proofs.Try.prog 40
 #[Value.pointer p_1, Value.int IntKind.i64 x,
 Value.int IntKind.i64 x_12, Value.bool x_13]
 w'_3 fun (e : Ending) (w' : World) =>
 ∃ (n_4 : Int),
 ∃ (n_5 : Int),
 e =
 Ending.returned
 (Value.tuple
 #[Value.int IntKind.i64 n_4,
 Value.int IntKind.i64 n_5]) ∧
 Wif (!(n_2 == n_4 && n_3 == n_5))
 (K (Value.bool false) w')
 (Calls Proofs.Try.prog 38
 #[Value.pointer p, Value.pointer p_1] w'
 fun (e : Ending) (w' : World) =>
 ∃ (b_1 : Bool),
 e = Ending.returned (Value.bool b_1) ∧
 Wif (!b_1) (K (Value.bool false) w')
 (∃ (m : Nat),
 Nat.succ m ≤ n_1 ∧
 I b p
 (IntKind.wrap IntKind.i64
 (n + 1))
 w' m)))
 (∃ (x : Int),
 rd w'_2 (Array.size (World.heap w')) 0 = some (Value.int IntKind.i64 x) ∧
 Wif (x == 3)
 (∀ (w1 : World),
 w1 = World.drew w'_2 →
 ∃ (x : Int),
 rd w1 (Array.size (World.heap w')) 1 = some (Value.int IntKind.i64 x) ∧
 ∃ (x_10 : Int),
 rd w1 (Array.size (World.heap w')) 2 =
 some (Value.int IntKind.i64 x_10) ∧
 ∃ (x_11 : Int),
 rd w1 (Array.size (World.heap w')) 1 =
 some (Value.int IntKind.i64 x_11) ∧
 ∃ (x_12 : Int),
 rd w1 (Array.size (World.heap w')) 2 =
 some (Value.int IntKind.i64 x_12) ∧
 Calls Proofs.Try.prog 24
 #[Value.pointer p, Value.int IntKind.i64 x,
 Value.int IntKind.i64 x_10]
 w1 fun (e : Ending) (w'_3 : World) =>
 ∃ (n_2 : Int),
 e = Ending.returned (Value.int IntKind.i64 n_2) ∧
 (rd w'_3 (Array.size (World.heap w')) 2 =
 some (Value.int IntKind.i64 x_12) ∧
 True) ∧
 (rd w'_3 (Array.size (World.heap w')) 1 =
 some (Value.int IntKind.i64 x_11) ∧
 True) ∧
 Calls Proofs.Try.prog 41
 #[Value.pointer p_1,
 Value.int IntKind.i64 x_11,
 Value.int IntKind.i64 x_12]
 w'_3 fun (e : Ending) (w' : World) =>
 ∃ (n_3 : Int),
 e =
 Ending.returned
 (Value.int IntKind.i64 n_3) ∧
 Wif (!n_2 == n_3)
 (K (Value.bool false) w')
 (Calls Proofs.Try.prog 38
 #[Value.pointer p, Value.pointer p_1]
 w' fun (e : Ending) (w' : World) =>
 ∃ (b_1 : Bool),
 e =
 Ending.returned
 (Value.bool b_1) ∧
 Wif (!b_1)
 (K (Value.bool false) w')
 (∃ (m : Nat),
 Nat.succ m ≤ n_1 ∧
 I b p
 (IntKind.wrap IntKind.i64
 (n + 1))
 w' m)))
 (∃ (x : Int),
 rd w'_2 (Array.size (World.heap w')) 0 = some (Value.int IntKind.i64 x) ∧
 Wif (x == 4)
 (Calls Proofs.Try.prog 42 #[Value.pointer p] w'_2
 fun (e : Ending) (w'_3 : World) =>
 ∃ (p_2 : Option Addr),
 e = Ending.returned (Value.pointer p_2) ∧
 Calls Proofs.Try.prog 26
 #[Value.pointer p, Value.int IntKind.i64 0,
 Value.int IntKind.i64 0, Value.bool true]
 w'_3 fun (e : Ending) (w'_4 : World) =>
 ∃ (n_2 : Int),
 ∃ (n_3 : Int),
 e =
 Ending.returned
 (Value.tuple
 #[Value.int IntKind.i64 n_2,
 Value.int IntKind.i64 n_3]) ∧
 ∃ (x : Int),
 rd w'_4 (Array.size (World.heap w')) 1 =
 some (Value.int IntKind.i64 x) ∧
 ∃ (x_10 : Int),
 rd w'_4 (Array.size (World.heap w')) 2 =
 some (Value.int IntKind.i64 x_10) ∧
 Calls Proofs.Try.prog 24
 #[Value.pointer p, Value.int IntKind.i64 x,
 Value.int IntKind.i64 x_10]
 w'_4 fun (e : Ending) (w' : World) =>
 ∃ (n_4 : Int),
 e =
 Ending.returned
 (Value.int IntKind.i64 n_4) ∧
 Wif (Option.isNone p_2)
 (K (Value.bool false) w')
 (Calls Proofs.Try.prog 38
 #[Value.pointer p_2, Value.pointer p_1]
 w' fun (e : Ending) (w' : World) =>
 ∃ (b_1 : Bool),
 e = Ending.returned (Value.bool b_1) ∧
 Wif (!b_1) (K (Value.bool false) w')
 (∃ (m : Nat),
 Nat.succ m ≤ n_1 ∧
 I b p_2
 (IntKind.wrap IntKind.i64
 (n + 1))
 w' m)))
 (Calls Proofs.Try.prog 38 #[Value.pointer p, Value.pointer p_1] w'_2
 fun (e : Ending) (w' : World) =>
 ∃ (b_1 : Bool),
 e = Ending.returned (Value.bool b_1) ∧
 Wif (!b_1) (K (Value.bool false) w')
 (∃ (m : Nat),
 Nat.succ m ≤ n_1 ∧
 I b p (IntKind.wrap IntKind.i64 (n + 1)) w' m)))))))
 False)
 False)
 (Calls Proofs.Try.prog 21 #[] w' fun (e : Ending) (w' : World) =>
 ∃ (b : Bool), e = Ending.returned (Value.bool b) ∧ K (Value.bool b) w')))))
theorem vcE11 (c0 : Nat →
 Int) (l : Option
 Addr) (lL : Nat) (lC : Nat) (w : World) (K : Value → World → Prop) : vcP11 c0 l lL lC w K = Eng.wBody Go.Proofs.Try.prog (Eng.handOf Go.Proofs.Try.prog [44,
 27,
 43,
 50,
 51] 2) [] Go.Proofs.Try.f11 (Eng.bodyOf Go.Proofs.Try.f11) [Value.agg (List.toArray (runI IntKind.i64 c0 0 94)), Value.slice l lL lC] w K := by kernel_rfl
theorem vc11 (c0 : Nat → Int) (l : Option Addr) (lL : Nat) (lC : Nat) (w : World) (K : Value → World → Prop) (h : vcP11 c0 l lL lC w K) :
 Calls Go.Proofs.Try.prog 11 #[Value.agg (List.toArray (runI IntKind.i64 c0 0 94)), Value.slice l lL lC] w (fun e w' => ∃ v, e = .returned v ∧ K v w') :=
 Eng.vc_of [44, 27, 43, 50, 51] 2 [] Go.Proofs.Try.mixes Go.Proofs.Try.func11 (by kernel_rfl) (by kernel_rfl) (vcE11 c0 l lL lC w K) h

-- 137719 ms

end Go.Proofs.Ytkmcmkimeibjdaa
