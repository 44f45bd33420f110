/-
  A part of a proof that a law of this seat returns true at every input. Conditions: those in each theorem.
-/
import Derived.Test.YtkmcmkimeibjdaaZV2
import Derived.Test.YtkmcmkimeibjdaaEngR
set_option linter.unusedSimpArgs false
set_option linter.unusedVariables false
set_option maxRecDepth 100000
namespace Go.Proofs.Ytkmcmkimeibjdaa
open Go Go.Eng
/- (*byre/zones.Zones).Blocks$1 -/
def vcP64 (l0 : Nat) (c1_0 : Option Addr) (w : World) (K : Value → World → Prop) : Prop :=
 ∀ (w' : World),
 w' = World.alloc w (Obj.cells #[Value.func (Fn.yield l0) #[] #[]] 66) →
 Wif (isP c1_0)
 (∃ (x : Option Addr),
 rd w' (pb c1_0) (po c1_0) = some (Value.pointer x) ∧
 gIf (isP x) ((!Option.isNone x) = true)
 (∃ (x_1 : Option Addr),
 ∃ (x_2 : Nat),
 ∃ (x_3 : Nat),
 ((!Option.isNone x) = true → rd w' (pb x) (po x + 94) = some (Value.slice x_1 x_2 x_3)) ∧
 Wif (!(!Option.isNone x && !Option.isNone x_1))
 (DefsAt [] w' ∧ ∀ (w2 : World), Kept (fun (b : Nat) => List.Mem b []) w' w2 → Array.size (World.heap w2) = Array.size (World.heap w') → K (Value.tuple #[]) w2)
 (∀ (w'_1 : World),
 w'_1 = World.alloc w' (Obj.cells #[Value.int IntKind.i64 0] 3) →
 wr w'_1 (Array.size (World.heap w')) 0 ∧
 ∀ (w'_2 : World),
 w'_2 = st w'_1 (Array.size (World.heap w')) 0 (Value.int IntKind.i64 0) →
 Wif (isP c1_0)
 (∃ (x : Option Addr),
 rd w'_2 (pb c1_0) (po c1_0) = some (Value.pointer x) ∧
 Wif (isP x)
 (∃ (x_4 : Option Addr),
 ∃ (x_5 : Nat),
 ∃ (x_6 : Nat),
 rd w'_2 (pb x) (po x + 94) = some (Value.slice x_4 x_5 x_6) ∧
 ∃ (I : Int → List Nat → World → Nat → Prop),
 (∃ (n : Nat), I 0 [] w'_2 n) ∧
 ∀ (n : Int) (ds' : List Nat) (w'_3 : World) (n_1 : Nat),
 I n ds' w'_3 n_1 →
 Wif (decide (n < (↑x_5 : Int)))
 (Wif (isP x_4)
 (Wif (inB n x_5)
 (∃ (x : Option Addr),
 rd w'_3 (pb x_4) (po x_4 + Int.toNat n * 1) = some (Value.pointer x) ∧
 ∀ (w'_4 : World),
 w'_4 = World.alloc w'_3 (Obj.cells #[Value.pointer x] 23) →
 ∃ (xss : List (List Value)),
 ∃ (R : Nat → Prop),
 ∃ (I_1 : (Nat → Prop) → Nat → World → Prop),
 ∃ (X : Nat → (Nat → Prop) → World → Prop),
 (GivesV Proofs.Try.prog 54 [Value.pointer (some (Addr.mk (Array.size (World.heap w'_3)) 0 none))] xss R w'_4 ∧
 (∀ (xs : List Value),
 List.Mem xs xss →
 List.length xs = 1 ∧
 ∃ (n : Int), ∃ (n_2 : Int), xs = [Value.agg #[Value.int IntKind.i64 n, Value.int IntKind.i64 n_2]]) ∧
 ∀ (b : Nat), R b → Nat.succ b ≤ Array.size (World.heap w'_4)) ∧
 (∀ (w1 : World),
 Kept none' w'_4 w1 →
 Array.size (World.heap w1) = Array.size (World.heap w'_4) + 2 → I_1 (fun (x : Nat) => False) 0 w1) ∧
 (∀ (Y : Nat → Prop) (i : Nat) (W W' : World),
 I_1 Y i W →
 (∀ (b : Nat), Y b → Array.size (World.heap w'_4) + 2 ≤ b) →
 Kept (recsY (Array.size (World.heap w'_4)) Y) W W' →
 I_1 (fun (b : Nat) => Y b ∨ Array.size (World.heap W) ≤ b ∧ Nat.succ b ≤ Array.size (World.heap W')) i
 W') ∧
 (∀ (k : Nat) (Y : Nat → Prop) (W W' : World),
 X k Y W →
 (∀ (b : Nat), Y b → Array.size (World.heap w'_4) + 2 ≤ b) →
 Kept (recsY (Array.size (World.heap w'_4)) Y) W W' →
 X k (fun (b : Nat) => Y b ∨ Array.size (World.heap W) ≤ b ∧ Nat.succ b ≤ Array.size (World.heap W'))
 W') ∧
 (∀ (Y : Nat → Prop) (i : Nat) (W : World),
 I_1 Y i W →
 (∀ (b : Nat), Y b → Array.size (World.heap w'_4) + 2 ≤ b) →
 Array.size (World.heap w'_4) + 2 ≤ Array.size (World.heap W) →
 ∀ (n n_2 : Int),
 xss[i]? = some [Value.agg #[Value.int IntKind.i64 n, Value.int IntKind.i64 n_2]] →
 ∀ (w'_5 : World),
 w'_5 = World.alloc W (Obj.cells #[Value.int IntKind.i64 0, Value.int IntKind.i64 0] 58) →
 (wr w'_5 (Array.size (World.heap W)) 0 ∧ wr w'_5 (Array.size (World.heap W)) 1) ∧
 ∀ (w'_6 : World),
 w'_6 =
 st (st w'_5 (Array.size (World.heap W)) 0 (Value.int IntKind.i64 n))
 (Array.size (World.heap W)) 1 (Value.int IntKind.i64 n_2) →
 RecKept (Array.size (World.heap w'_4)) W w'_6 ∧
 ∀ (w2 : World),
 Kept (fun (b : Nat) => b = Array.size (World.heap w'_4) + 1) w'_6 w2 →
 Array.size (World.heap w2) = Array.size (World.heap w'_6) →
 ∃ (x : Int),
 rd w2 (Array.size (World.heap W)) 0 = some (Value.int IntKind.i64 x) ∧
 ∃ (x_7 : Int),
 rd w2 (Array.size (World.heap w')) 0 = some (Value.int IntKind.i64 x_7) ∧
 wr w2 (Array.size (World.heap W)) 0 ∧
 ∀ (w' : World),
 w' =
 st w2 (Array.size (World.heap W)) 0
 (Value.int IntKind.i64 (IntKind.wrap IntKind.i64 (x + x_7))) →
 ∃ (x : Value),
 rd w' (Array.size (World.heap w)) 0 = some x ∧
 ∃ (x_8 : Int),
 ∃ (x_9 : Int),
 (rd w' (Array.size (World.heap W)) 0 =
 some (Value.int IntKind.i64 x_8) ∧
 rd w' (Array.size (World.heap W)) 1 =
 some (Value.int IntKind.i64 x_9)) ∧
 ∃ (l : Nat),
 x = Value.func (Fn.yield l) #[] #[] ∧
 YieldIs Proofs.Try.prog l
 [Value.agg
 #[Value.int IntKind.i64 x_8,
 Value.int IntKind.i64 x_9]]
 w' fun (r : Ending) (w' : World) =>
 ∃ (b : Bool),
 r = Ending.returned (Value.bool b) ∧
 Wif (!b)
 (RecKept (Array.size (World.heap w'_4)) w2
 w' ∧
 KeptY (fun (b : Nat) => Y b ∨ R b) W w' ∧
 X 1 Y w')
 (RecKept (Array.size (World.heap w'_4)) w2
 w' ∧
 KeptY (fun (b : Nat) => Y b ∨ R b) W w' ∧
 I_1 Y (i + 1) w')) ∧
 (∀ (Y : Nat → Prop) (W : World),
 I_1 Y (List.length xss) W →
 DefAt (Array.size (World.heap w'_4)) W →
 ∀ (w1 : World),
 w1 = World.drew W →
 ∃ (x : Int),
 rd w1 (Array.size (World.heap w')) 0 = some (Value.int IntKind.i64 x) ∧
 Wif (isP c1_0)
 (∃ (x_7 : Option Addr),
 rd w1 (pb c1_0) (po c1_0) = some (Value.pointer x_7) ∧
 Wif (isP x_7)
 (Wif (inB n 8)
 (∃ (x_8 : Int),
 rd w1 (pb x_7) (po x_7 + 18 + Int.toNat n * 1) =
 some (Value.int IntKind.i64 x_8) ∧
 wr w1 (Array.size (World.heap w')) 0 ∧
 ∀ (w'_5 : World),
 w'_5 =
 st w1 (Array.size (World.heap w')) 0
 (Value.int IntKind.i64 (IntKind.wrap IntKind.i64 (x + x_8))) →
 ∃ (m : Nat),
 Nat.succ m ≤ n_1 ∧
 I (IntKind.wrap IntKind.i64 (n + 1))
 (Array.size (World.heap w'_4) :: ds') w'_5 m)
 False)
 False)
 False) ∧
 (∀ (Y : Nat → Prop) (W : World),
 X 0 Y W →
 DefAt (Array.size (World.heap w'_4)) W →
 DefsAt (Array.size (World.heap w'_4) :: ds') W ∧
 ∀ (w2 : World),
 Kept (fun (b : Nat) => List.Mem b (Array.size (World.heap w'_4) :: ds')) W w2 →
 Array.size (World.heap w2) = Array.size (World.heap W) → K (Value.tuple #[]) w2) ∧
 ∀ (Y : Nat → Prop) (W : World),
 X 1 Y W →
 DefAt (Array.size (World.heap w'_4)) W →
 DefsAt (Array.size (World.heap w'_4) :: ds') W ∧
 ∀ (w2 : World),
 Kept (fun (b : Nat) => List.Mem b (Array.size (World.heap w'_4) :: ds')) W w2 →
 Array.size (World.heap w2) = Array.size (World.heap W) → K (Value.tuple #[]) w2)
 False)
 False)
 (DefsAt ds' w'_3 ∧
 ∀ (w2 : World),
 Kept (fun (b : Nat) => List.Mem b ds') w'_3 w2 → Array.size (World.heap w2) = Array.size (World.heap w'_3) → K (Value.tuple #[]) w2))
 False)
 False)))
 False
theorem vcE64 (l0 : Nat) (c1_0 : Option
 Addr) (w : World) (K : Value → World → Prop) : vcP64 l0 c1_0 w K = Eng.wBody Go.Proofs.Try.prog (Eng.handOf Go.Proofs.Try.prog [44,
 27,
 50,
 51] 2) [3000028] Go.Proofs.Try.f64 (Eng.bodyOf Go.Proofs.Try.f64) [Value.func (Fn.yield l0) #[] #[], Value.pointer c1_0] w K := by kernel_rfl
theorem vc64 (l0 : Nat) (c1_0 : Option Addr) (w : World) (K : Value → World → Prop) (h : vcP64 l0 c1_0 w K) :
 Calls Go.Proofs.Try.prog 64 #[Value.func (Fn.yield l0) #[] #[], Value.pointer c1_0] w (fun e w' => ∃ v, e = .returned v ∧ K v w') :=
 Eng.vc_of [44, 27, 50, 51] 2 [3000028] Go.Proofs.Try.mixes Go.Proofs.Try.func64 (by kernel_rfl) (by kernel_rfl) (vcE64 l0 c1_0 w K) h

-- 3332 ms
/- byre/byrelaw07.ZonesNone -/
def vcP12 (x0 : Int) (x1 : Int) (x2 : Int) (x3 : Int) (x4 : Option Addr) (x4L : Nat) (x4C : Nat) (x5 : Bool) (w : World) (K : Value → World → Prop) : Prop :=
 ∀ (w' : World),
 w' = World.alloc w (Obj.cells #[Value.int IntKind.i64 x0, Value.int IntKind.i64 x1, Value.int IntKind.i64 x2, Value.int IntKind.i64 x3, Value.slice x4 x4L x4C, Value.bool x5] 87) →
 ∀ (w'_1 : World),
 w'_1 = World.alloc w' (Obj.cells #[Value.bool false] 4) →
 ∃ (x : Option Addr),
 ∃ (x_1 : Nat),
 ∃ (x_2 : Nat),
 rd w'_1 (Array.size (World.heap w)) 4 = some (Value.slice x x_1 x_2) ∧
 Wif (decide ((↑x_1 : Int) > 50))
 (Calls Proofs.Try.prog 21 #[] w'_1 fun (e : Ending) (w'_2 : World) =>
 ∃ (b : Bool),
 e = Ending.returned (Value.bool b) ∧
 wr w'_2 (Array.size (World.heap w')) 0 ∧
 ∀ (w'_3 : World),
 w'_3 = st w'_2 (Array.size (World.heap w')) 0 (Value.bool b) →
 DefsAt [] w'_3 ∧
 ∀ (w2 : World),
 Kept (fun (b : Nat) => List.Mem b []) w'_3 w2 →
 Array.size (World.heap w2) = Array.size (World.heap w'_3) → ∃ (x : Bool), rd w2 (Array.size (World.heap w')) 0 = some (Value.bool x) ∧ K (Value.bool x) w2)
 (∀ (w'_2 : World),
 w'_2 = World.alloc w'_1 (Obj.cells (List.toArray (List.replicate 94 (Value.int IntKind.i64 0) ++ [Value.slice none 0 0])) 91) →
 ∀ (w'_3 : World),
 w'_3 = World.alloc w'_2 (Obj.cells #[Value.pointer none, Value.pointer (some (Addr.mk (Array.size (World.heap w'_1)) 0 none))] 43) →
 ∃ (I : Int → List Nat → World → Nat → Prop),
 (∃ (n : Nat), I 0 [] w'_3 n) ∧
 ∀ (n : Int) (ds' : List Nat) (w'_4 : World) (n_1 : Nat),
 I n ds' w'_4 n_1 →
 Wif (decide (n < 2))
 (Wif (inB n 2)
 (∃ (x : Option Addr),
 rd w'_4 (Array.size (World.heap w'_2)) (0 + Int.toNat n * 1) = some (Value.pointer x) ∧
 ∃ (x_3 : Option Addr),
 ∃ (x_4 : Nat),
 ∃ (x_5 : Nat),
 rd w'_4 (Array.size (World.heap w)) 4 = some (Value.slice x_3 x_4 x_5) ∧
 ∃ (x_6 : Int),
 rd w'_4 (Array.size (World.heap w)) 3 = some (Value.int IntKind.i64 x_6) ∧
 ∃ (x_7 : Bool),
 rd w'_4 (Array.size (World.heap w)) 5 = some (Value.bool x_7) ∧
 Calls Proofs.Try.prog 22 #[Value.pointer x, Value.slice x_3 x_4 x_5, Value.int IntKind.i64 x_6, Value.bool x_7] w'_4
 fun (e : Ending) (w'_5 : World) =>
 ∃ (n_2 : Int),
 ∃ (n_3 : Int),
 e = Ending.returned (Value.tuple #[Value.int IntKind.i64 n_2, Value.int IntKind.i64 n_3]) ∧
 ∃ (x_8 : Int),
 rd w'_5 (Array.size (World.heap w)) 1 = some (Value.int IntKind.i64 x_8) ∧
 ∃ (x_9 : Int),
 rd w'_5 (Array.size (World.heap w)) 2 = some (Value.int IntKind.i64 x_9) ∧
 ∃ (x_10 : Bool),
 rd w'_5 (Array.size (World.heap w)) 5 = some (Value.bool x_10) ∧
 Calls Proofs.Try.prog 26 #[Value.pointer x, Value.int IntKind.i64 x_8, Value.int IntKind.i64 x_9, Value.bool x_10] w'_5
 fun (e : Ending) (w'_6 : World) =>
 ∃ (n_4 : Int),
 ∃ (n_5 : Int),
 e = Ending.returned (Value.tuple #[Value.int IntKind.i64 n_4, Value.int IntKind.i64 n_5]) ∧
 ∀ (w'_7 : World),
 w'_7 = World.alloc w'_6 (Obj.cells #[Value.pointer x] 43) →
 ∀ (w'_8 : World),
 w'_8 = World.alloc w'_7 (Obj.cells #[Value.pointer x] 43) →
 ∃ (xss : List (List Value)),
 ∃ (R : Nat → Prop),
 ∃ (I_1 : (Nat → Prop) → Nat → World → Prop),
 ∃ (X : Nat → (Nat → Prop) → World → Prop),
 (GivesV Proofs.Try.prog 64
 [Value.pointer (some (Addr.mk (Array.size (World.heap w'_7)) 0 none))] xss R w'_8 ∧
 (∀ (xs : List Value), List.Mem xs xss → List.length xs = 1 ∧ ∃ (v : Value), xs = [v]) ∧
 ∀ (b : Nat), R b → Nat.succ b ≤ Array.size (World.heap w'_8)) ∧
 (∀ (w1 : World),
 Kept none' w'_8 w1 →
 Array.size (World.heap w1) = Array.size (World.heap w'_8) + 2 →
 I_1 (fun (x : Nat) => False) 0 w1) ∧
 (∀ (Y : Nat → Prop) (i : Nat) (W W' : World),
 I_1 Y i W →
 (∀ (b : Nat), Y b → Array.size (World.heap w'_8) + 2 ≤ b) →
 Kept (recsY (Array.size (World.heap w'_8)) Y) W W' →
 I_1
 (fun (b : Nat) =>
 Y b ∨ Array.size (World.heap W) ≤ b ∧ Nat.succ b ≤ Array.size (World.heap W'))
 i W') ∧
 (∀ (k : Nat) (Y : Nat → Prop) (W W' : World),
 X k Y W →
 (∀ (b : Nat), Y b → Array.size (World.heap w'_8) + 2 ≤ b) →
 Kept (recsY (Array.size (World.heap w'_8)) Y) W W' →
 X k
 (fun (b : Nat) =>
 Y b ∨
 Array.size (World.heap W) ≤ b ∧ Nat.succ b ≤ Array.size (World.heap W'))
 W') ∧
 (∀ (Y : Nat → Prop) (i : Nat) (W : World),
 I_1 Y i W →
 (∀ (b : Nat), Y b → Array.size (World.heap w'_8) + 2 ≤ b) →
 Array.size (World.heap w'_8) + 2 ≤ Array.size (World.heap W) →
 ∀ (v : Value),
 xss[i]? = some [v] →
 RecKept (Array.size (World.heap w'_8)) W W ∧
 ∀ (w2 : World),
 Kept (fun (b : Nat) => b = Array.size (World.heap w'_8) + 1) W w2 →
 Array.size (World.heap w2) = Array.size (World.heap W) →
 wr w2 (Array.size (World.heap w')) 0 ∧
 ∀ (w'_9 : World),
 w'_9 =
 st w2 (Array.size (World.heap w')) 0 (Value.bool false) →
 RecKept (Array.size (World.heap w'_8)) w2 w'_9 ∧
 KeptY (fun (b : Nat) => Y b ∨ R b) W w'_9 ∧ X 0 Y w'_9) ∧
 (∀ (Y : Nat → Prop) (W : World),
 I_1 Y (List.length xss) W →
 DefAt (Array.size (World.heap w'_8)) W →
 ∃ (x_11 : Int),
 ((n_3 != 1 || n_5 != 1) = false →
 rd W (Array.size (World.heap w)) 1 =
 some (Value.int IntKind.i64 x_11)) ∧
 ∃ (x_12 : Int),
 ((n_3 != 1 || n_5 != 1) = false →
 rd W (Array.size (World.heap w)) 2 =
 some (Value.int IntKind.i64 x_12)) ∧
 Wif (n_3 != 1 || n_5 != 1)
 (wr W (Array.size (World.heap w')) 0 ∧
 ∀ (w'_9 : World),
 w'_9 = st W (Array.size (World.heap w')) 0 (Value.bool false) →
 DefsAt (Array.size (World.heap w'_8) :: ds') w'_9 ∧
 ∀ (w2 : World),
 Kept
 (fun (b : Nat) =>
 List.Mem b (Array.size (World.heap w'_8) :: ds'))
 w'_9 w2 →
 Array.size (World.heap w2) =
 Array.size (World.heap w'_9) →
 ∃ (x : Bool),
 rd w2 (Array.size (World.heap w')) 0 =
 some (Value.bool x) ∧
 K (Value.bool x) w2)
 (Calls Proofs.Try.prog 24
 #[Value.pointer x, Value.int IntKind.i64 x_11,
 Value.int IntKind.i64 x_12]
 W fun (e : Ending) (w'_9 : World) =>
 ∃ (n_6 : Int),
 e = Ending.returned (Value.int IntKind.i64 n_6) ∧
 ∃ (x_13 : Int),
 ((n_6 != 1) = false →
 rd w'_9 (Array.size (World.heap w)) 1 =
 some (Value.int IntKind.i64 x_13)) ∧
 Wif (n_6 != 1)
 (wr w'_9 (Array.size (World.heap w')) 0 ∧
 ∀ (w'_10 : World),
 w'_10 =
 st w'_9 (Array.size (World.heap w')) 0
 (Value.bool false) →
 DefsAt (Array.size (World.heap w'_8) :: ds')
 w'_10 ∧
 ∀ (w2 : World),
 Kept
 (fun (b : Nat) =>
 List.Mem b
 (Array.size (World.heap w'_8) :: ds'))
 w'_10 w2 →
 Array.size (World.heap w2) =
 Array.size (World.heap w'_10) →
 ∃ (x : Bool),
 rd w2 (Array.size (World.heap w')) 0 =
 some (Value.bool x) ∧
 K (Value.bool x) w2)
 (Calls Proofs.Try.prog 23
 #[Value.pointer x, Value.int IntKind.i64 x_13] w'_9
 fun (e : Ending) (w'_10 : World) =>
 ∃ (n_7 : Int),
 e = Ending.returned (Value.int IntKind.i64 n_7) ∧
 ∃ (x_14 : Int),
 ((n_7 != 0) = false →
 rd w'_10 (Array.size (World.heap w)) 1 =
 some (Value.int IntKind.i64 x_14)) ∧
 Wif (n_7 != 0)
 (wr w'_10 (Array.size (World.heap w')) 0 ∧
 ∀ (w'_11 : World),
 w'_11 =
 st w'_10
 (Array.size (World.heap w')) 0
 (Value.bool false) →
 DefsAt
 (Array.size (World.heap w'_8) ::
 ds')
 w'_11 ∧
 ∀ (w2 : World),
 Kept
 (fun (b : Nat) =>
 List.Mem b
 (Array.size
 (World.heap w'_8) ::
 ds'))
 w'_11 w2 →
 Array.size (World.heap w2) =
 Array.size
 (World.heap w'_11) →
 ∃ (x : Bool),
 rd w2
 (Array.size
 (World.heap w'))
 0 =
 some (Value.bool x) ∧
 K (Value.bool x) w2)
 (Calls Proofs.Try.prog 25
 #[Value.pointer x,
 Value.int IntKind.i64 x_14]
 w'_10 fun (e : Ending) (w'_11 : World) =>
 ∃ (n_8 : Int),
 e =
 Ending.returned
 (Value.int IntKind.i64 n_8) ∧
 Wif (n_8 != 0)
 (wr w'_11
 (Array.size (World.heap w')) 0 ∧
 ∀ (w'_12 : World),
 w'_12 =
 st w'_11
 (Array.size
 (World.heap w'))
 0 (Value.bool false) →
 DefsAt
 (Array.size
 (World.heap w'_8) ::
 ds')
 w'_12 ∧
 ∀ (w2 : World),
 Kept
 (fun (b : Nat) =>
 List.Mem b
 (Array.size
 (World.heap
 w'_8) ::
 ds'))
 w'_12 w2 →
 Array.size
 (World.heap w2) =
 Array.size
 (World.heap
 w'_12) →
 ∃ (x : Bool),
 rd w2
 (Array.size
 (World.heap
 w'))
 0 =
 some
 (Value.bool
 x) ∧
 K (Value.bool x)
 w2)
 (Calls Proofs.Try.prog 42
 #[Value.pointer x] w'_11
 fun (e : Ending)
 (w'_12 : World) =>
 ∃ (p : Option Addr),
 e =
 Ending.returned
 (Value.pointer p) ∧
 Wif (!Option.isNone p)
 (wr w'_12
 (Array.size
 (World.heap w'))
 0 ∧
 ∀ (w'_13 : World),
 w'_13 =
 st w'_12
 (Array.size
 (World.heap w'))
 0
 (Value.bool
 false) →
 DefsAt
 (Array.size
 (World.heap
 w'_8) ::
 ds')
 w'_13 ∧
 ∀ (w2 : World),
 Kept
 (fun
 (b :
 Nat) =>
 List.Mem b
 (Array.size
 (World.heap
 w'_8) ::
 ds'))
 w'_13 w2 →
 Array.size
 (World.heap
 w2) =
 Array.size
 (World.heap
 w'_13) →
 ∃ (x : Bool),
 rd w2
 (Array.size
 (World.heap
 w'))
 0 =
 some
 (Value.bool
 x) ∧
 K
 (Value.bool
 x)
 w2)
 (∃ (m : Nat),
 Nat.succ m ≤ n_1 ∧
 I
 (IntKind.wrap
 IntKind.i64 (n + 1))
 (Array.size
 (World.heap
 w'_8) ::
 ds')
 w'_12 m)))))) ∧
 (∀ (Y : Nat → Prop) (W : World),
 X 0 Y W →
 DefAt (Array.size (World.heap w'_8)) W →
 DefsAt (Array.size (World.heap w'_8) :: ds') W ∧
 ∀ (w2 : World),
 Kept (fun (b : Nat) => List.Mem b (Array.size (World.heap w'_8) :: ds'))
 W w2 →
 Array.size (World.heap w2) = Array.size (World.heap W) →
 ∃ (x : Bool),
 rd w2 (Array.size (World.heap w')) 0 = some (Value.bool x) ∧
 K (Value.bool x) w2) ∧
 True)
 False)
 (Calls Proofs.Try.prog 21 #[] w'_4 fun (e : Ending) (w'_5 : World) =>
 ∃ (b : Bool),
 e = Ending.returned (Value.bool b) ∧
 wr w'_5 (Array.size (World.heap w')) 0 ∧
 ∀ (w'_6 : World),
 w'_6 = st w'_5 (Array.size (World.heap w')) 0 (Value.bool b) →
 DefsAt ds' w'_6 ∧
 ∀ (w2 : World),
 Kept (fun (b : Nat) => List.Mem b ds') w'_6 w2 →
 Array.size (World.heap w2) = Array.size (World.heap w'_6) →
 ∃ (x : Bool), rd w2 (Array.size (World.heap w')) 0 = some (Value.bool x) ∧ K (Value.bool x) w2))
theorem vcE12 (x0 : Int) (x1 : Int) (x2 : Int) (x3 : Int) (x4 : Option
 Addr) (x4L : Nat) (x4C : Nat) (x5 : Bool) (w : World) (K : Value → World → Prop) : vcP12 x0 x1 x2 x3 x4 x4L x4C x5 w K = Eng.wBody Go.Proofs.Try.prog (Eng.handOf Go.Proofs.Try.prog [44,
 27,
 43,
 50,
 51] 2) [] Go.Proofs.Try.f12 (Eng.bodyOf Go.Proofs.Try.f12) [Value.agg
 #[Value.int IntKind.i64 x0, Value.int IntKind.i64 x1, Value.int IntKind.i64 x2, Value.int IntKind.i64 x3, Value.slice x4 x4L x4C, Value.bool x5]] w K := by kernel_rfl
theorem vc12 (x0 : Int) (x1 : Int) (x2 : Int) (x3 : Int) (x4 : Option Addr) (x4L : Nat) (x4C : Nat) (x5 : Bool) (w : World) (K : Value → World → Prop) (h : vcP12 x0 x1 x2 x3 x4 x4L x4C x5 w K) :
 Calls Go.Proofs.Try.prog 12 #[Value.agg
 #[Value.int IntKind.i64 x0, Value.int IntKind.i64 x1, Value.int IntKind.i64 x2, Value.int IntKind.i64 x3, Value.slice x4 x4L x4C, Value.bool x5]] w (fun e w' => ∃ v, e = .returned v ∧ K v w') :=
 Eng.vc_of [44, 27, 43, 50, 51] 2 [] Go.Proofs.Try.mixes Go.Proofs.Try.func12 (by kernel_rfl) (by kernel_rfl) (vcE12 x0 x1 x2 x3 x4 x4L x4C x5 w K) h

-- 27911 ms
/- (*byre/zones.Zones).Copy -/
def vcP42 (z : Option Addr) (w : World) (K : Value → World → Prop) : Prop :=
 gIf (isP z) ((!Option.isNone z) = true)
 (∃ (x : Option Addr),
 ∃ (x_1 : Nat),
 ∃ (x_2 : Nat),
 ((!Option.isNone z) = true → rd w (pb z) (po z + 94) = some (Value.slice x x_1 x_2)) ∧
 Wif (!(!Option.isNone z && !Option.isNone x)) (K (Value.pointer none) w)
 (Wif (isP z)
 (∃ (x : Nat → Int),
 rdAll w (pb z) (po z) (runI IntKind.i64 x 0 94) ∧
 ∀ (w' : World),
 w' = World.alloc w (Obj.cells (List.toArray (runI IntKind.i64 x 0 94 ++ [Value.slice none 0 0])) 91) →
 Wif (isP z)
 (∃ (x : Option Addr),
 ∃ (x_3 : Nat),
 ∃ (x_4 : Nat),
 rd w' (pb z) (po z + 94) = some (Value.slice x x_3 x_4) ∧
 ∃ (I : Int → World → Nat → Prop),
 (∃ (n : Nat), I 0 w' n) ∧
 ∀ (n : Int) (w' : World) (n_1 : Nat),
 I n w' n_1 →
 Wif (decide (n < (↑x_3 : Int)))
 (Wif (isP x)
 (Wif (inB n x_3)
 (∃ (x_5 : Option Addr),
 rd w' (pb x) (po x + Int.toNat n * 1) = some (Value.pointer x_5) ∧
 ∀ (w1 : World),
 w1 = World.drew w' →
 ∃ (x : Option Addr),
 ∃ (x_6 : Nat),
 ∃ (x_7 : Nat),
 rd w1 (Array.size (World.heap w)) 94 = some (Value.slice x x_6 x_7) ∧
 Calls Proofs.Try.prog 18 #[Value.pointer x_5] w1 fun (e : Ending) (w' : World) =>
 ∃ (p : Option Addr),
 e = Ending.returned (Value.pointer p) ∧
 (rd w' (Array.size (World.heap w)) 94 = some (Value.slice x x_6 x_7) ∧ True) ∧
 ∀ (w'_1 : World),
 w'_1 = World.alloc w' (Obj.cells #[Value.pointer p] 23) →
 (rd w'_1 (Array.size (World.heap w)) 94 = some (Value.slice x x_6 x_7) ∧ True) ∧
 ∃ (a : Option Addr),
 ∃ (l : Nat),
 ∃ (c : Nat),
 ∃ (w'_2 : World),
 appIs Proofs.Try.prog #[79, 79] 79 (Value.slice x x_6 x_7)
 (Value.slice (some (Addr.mk (Array.size (World.heap w')) 0 none)) 1 1) (Value.slice a l c) w'_1 w'_2 ∧
 wr w'_2 (Array.size (World.heap w)) 94 ∧
 ∀ (w' : World),
 w' = st w'_2 (Array.size (World.heap w)) 94 (Value.slice a l c) →
 ∃ (m : Nat), Nat.succ m ≤ n_1 ∧ I (IntKind.wrap IntKind.i64 (n + 1)) w' m)
 False)
 False)
 (K (Value.pointer (some (Addr.mk (Array.size (World.heap w)) 0 none))) w'))
 False)
 False))
theorem vcE42 (z : Option
 Addr) (w : World) (K : Value → World → Prop) : vcP42 z w K = Eng.wBody Go.Proofs.Try.prog (Eng.handOf Go.Proofs.Try.prog [44,
 27,
 43,
 50,
 51] 2) [] Go.Proofs.Try.f42 (Eng.bodyOf Go.Proofs.Try.f42) [Value.pointer z] w K := by kernel_rfl
theorem vc42 (z : Option Addr) (w : World) (K : Value → World → Prop) (h : vcP42 z w K) :
 Calls Go.Proofs.Try.prog 42 #[Value.pointer z] w (fun e w' => ∃ v, e = .returned v ∧ K v w') :=
 Eng.vc_of [44, 27, 43, 50, 51] 2 [] Go.Proofs.Try.mixes Go.Proofs.Try.func42 (by kernel_rfl) (by kernel_rfl) (vcE42 z w K) h

-- 7533 ms

end Go.Proofs.Ytkmcmkimeibjdaa
