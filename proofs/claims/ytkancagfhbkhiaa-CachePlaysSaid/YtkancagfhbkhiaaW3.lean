/-
  A part of a proof that a law of this seat returns true at every input. Conditions: those in each theorem.
-/
import Derived.Test.YtkancagfhbkhiaaW1
import Derived.Test.YtkancagfhbkhiaaV3
set_option linter.unusedSimpArgs false
set_option linter.unusedVariables false
set_option maxRecDepth 100000
namespace Go.Proofs.Ytkancagfhbkhiaa
open Go Go.Eng
/- byre/byreref09.New -/
def vcP46 (size : Int) (w : World) (K : Value → World → Prop) : Prop :=
 Calls Proofs.Try.prog 43 #[Value.int IntKind.i64 size, Value.int IntKind.i64 0] w fun (e : Ending) (w' : World) =>
 ∃ (b : Bool),
 e = Ending.returned (Value.bool b) ∧
 Wif (!b) (K (Value.tuple #[Value.pointer none, Value.int IntKind.i64 2]) w')
 (∀ (w'_1 : World),
 w'_1 = World.alloc w' (Obj.cells #[Value.int IntKind.i64 size, Value.int IntKind.i64 0, Value.slice none 0 0] 101) →
 K (Value.tuple #[Value.pointer (some (Addr.mk (Array.size (World.heap w')) 0 none)), Value.int IntKind.i64 0]) w'_1)
theorem vcE46 (size : Int) (w : World) (K : Value → World → Prop) : vcP46 size w K = Eng.wBody Go.Proofs.Try.prog (Eng.handOf Go.Proofs.Try.prog [] 1) [] Go.Proofs.Try.f46 (Eng.bodyOf Go.Proofs.Try.f46) [Value.int
 IntKind.i64 size] w K := by kernel_rfl
theorem vc46 (size : Int) (w : World) (K : Value → World → Prop) (h : vcP46 size w K) :
 Calls Go.Proofs.Try.prog 46 #[Value.int IntKind.i64 size] w (fun e w' => ∃ v, e = .returned v ∧ K v w') :=
 Eng.vc_of [] 1 [] Go.Proofs.Try.mixes Go.Proofs.Try.func46 (by kernel_rfl) (by kernel_rfl) (vcE46 size w K) h

-- 98 ms
/- byre/byrelaw09.bytes -/
def vcP47 (o0 : Int) (o1 : Int) (o2 : Int) (o3 : Int) (o4 : Bool) (w : World) (K : Value → World → Prop) : Prop :=
 ∀ (w' : World),
 w' = World.alloc w (Obj.cells #[Value.int IntKind.i64 o0, Value.int IntKind.i64 o1, Value.int IntKind.i64 o2, Value.int IntKind.u8 o3, Value.bool o4] 66) →
 ∃ (x : Bool),
 rd w' (Array.size (World.heap w)) 4 = some (Value.bool x) ∧
 Wif x
 (∀ (w'_1 : World),
 w'_1 = World.alloc w' (Obj.cells (List.toArray (List.replicate 255 (Value.int IntKind.u8 0))) 5) →
 ∃ (I : Int → World → Nat → Prop),
 (∃ (n : Nat), I 0 w'_1 n) ∧
 ∀ (n : Int) (w'_2 : World) (n_1 : Nat),
 I n w'_2 n_1 →
 Wif (decide (n < 255))
 (∃ (x : Int),
 rd w'_2 (Array.size (World.heap w)) 3 = some (Value.int IntKind.u8 x) ∧
 Wif (inB n 255)
 (wr w'_2 (Array.size (World.heap w')) (0 + Int.toNat n * 1) ∧
 ∀ (w'_3 : World),
 w'_3 = st w'_2 (Array.size (World.heap w')) (0 + Int.toNat n * 1) (Value.int IntKind.u8 x) →
 ∃ (m : Nat), Nat.succ m ≤ n_1 ∧ I (IntKind.wrap IntKind.i64 (n + 1)) w'_3 m)
 False)
 (K (Value.slice (some (Addr.mk (Array.size (World.heap w')) 0 none)) 255 255) w'_2))
 (∀ (w'_1 : World),
 w'_1 = World.alloc w' (Obj.cells (List.toArray (List.replicate 256 (Value.int IntKind.u8 0))) 5) →
 ∃ (I : Int → World → Nat → Prop),
 (∃ (n : Nat), I 0 w'_1 n) ∧
 ∀ (n : Int) (w'_2 : World) (n_1 : Nat),
 I n w'_2 n_1 →
 Wif (decide (n < 256))
 (∃ (x : Int),
 rd w'_2 (Array.size (World.heap w)) 3 = some (Value.int IntKind.u8 x) ∧
 Wif (inB n 256)
 (wr w'_2 (Array.size (World.heap w')) (0 + Int.toNat n * 1) ∧
 ∀ (w'_3 : World),
 w'_3 = st w'_2 (Array.size (World.heap w')) (0 + Int.toNat n * 1) (Value.int IntKind.u8 x) →
 ∃ (m : Nat), Nat.succ m ≤ n_1 ∧ I (IntKind.wrap IntKind.i64 (n + 1)) w'_3 m)
 False)
 (K (Value.slice (some (Addr.mk (Array.size (World.heap w')) 0 none)) 256 256) w'_2))
theorem vcE47 (o0 : Int) (o1 : Int) (o2 : Int) (o3 : Int) (o4 : Bool) (w : World) (K : Value → World → Prop) : vcP47 o0 o1 o2 o3 o4 w K = Eng.wBody Go.Proofs.Try.prog (Eng.handOf Go.Proofs.Try.prog [] 1) [] Go.Proofs.Try.f47 (Eng.bodyOf Go.Proofs.Try.f47) [Value.agg
 #[Value.int IntKind.i64 o0, Value.int IntKind.i64 o1, Value.int IntKind.i64 o2, Value.int IntKind.u8 o3, Value.bool o4]] w K := by kernel_rfl
theorem vc47 (o0 : Int) (o1 : Int) (o2 : Int) (o3 : Int) (o4 : Bool) (w : World) (K : Value → World → Prop) (h : vcP47 o0 o1 o2 o3 o4 w K) :
 Calls Go.Proofs.Try.prog 47 #[Value.agg
 #[Value.int IntKind.i64 o0, Value.int IntKind.i64 o1, Value.int IntKind.i64 o2, Value.int IntKind.u8 o3, Value.bool o4]] w (fun e w' => ∃ v, e = .returned v ∧ K v w') :=
 Eng.vc_of [] 1 [] Go.Proofs.Try.mixes Go.Proofs.Try.func47 (by kernel_rfl) (by kernel_rfl) (vcE47 o0 o1 o2 o3 o4 w K) h

-- 1178 ms
/- (*byre/byreref09.Cache).Add -/
def vcP48 (c : Option Addr) (frame : Int) (b : Option Addr) (bL : Nat) (bC : Nat) (w : World) (K : Value → World → Prop) : Prop :=
 Wif (decide (frame < 0) || (↑bL : Int) != 256) (K (Value.int IntKind.i64 2) w)
 (Calls Proofs.Try.prog 52 #[Value.pointer c, Value.int IntKind.i64 frame] w fun (e : Ending) (w' : World) =>
 ∃ (p : Option Addr),
 e = Ending.returned (Value.pointer p) ∧
 Wif (!Option.isNone p) (K (Value.int IntKind.i64 8) w')
 (∀ (w1 : World),
 w1 = World.drew w' →
 Wif (isP c)
 (∃ (x : Int),
 rd w1 (pb c) (po c) = some (Value.int IntKind.i64 x) ∧
 Wif (isP c)
 (∃ (x_1 : Int),
 rd w1 (pb c) (po c + 1) = some (Value.int IntKind.i64 x_1) ∧
 Calls Proofs.Try.prog 28 #[Value.slice b bL bC, Value.int IntKind.i64 x, Value.int IntKind.i64 x_1] w1 fun (e : Ending) (w' : World) =>
 ∃ (p : Option Addr),
 ∃ (n : Int),
 e = Ending.returned (Value.tuple #[Value.pointer p, Value.int IntKind.i64 n]) ∧
 Wif (n != 0) (K (Value.int IntKind.i64 n) w')
 (Wif (isP c)
 (∃ (x : Int),
 rd w' (pb c) (po c + 1) = some (Value.int IntKind.i64 x) ∧
 Wif (isP c)
 (wr w' (pb c) (po c + 1) ∧
 ∀ (w'_1 : World),
 w'_1 = st w' (pb c) (po c + 1) (Value.int IntKind.i64 (IntKind.wrap IntKind.i64 (x + 8))) →
 ∀ (w1 : World),
 w1 = World.drew w'_1 →
 Wif (isP c)
 (∃ (x : Int),
 rd w1 (pb c) (po c) = some (Value.int IntKind.i64 x) ∧
 Wif (isP c)
 (∃ (x_2 : Int),
 rd w1 (pb c) (po c + 1) = some (Value.int IntKind.i64 x_2) ∧
 Calls Proofs.Try.prog 43 #[Value.int IntKind.i64 x, Value.int IntKind.i64 x_2] w1 fun (e : Ending) (w' : World) =>
 ∃ (b : Bool),
 e = Ending.returned (Value.bool b) ∧
 Wif (!b)
 (Wif (isP c)
 (wr w' (pb c) (po c + 1) ∧
 ∀ (w'_2 : World),
 w'_2 = st w' (pb c) (po c + 1) (Value.int IntKind.i64 0) →
 ∃ (I : Int → World → Nat → Prop),
 (∃ (n : Nat), I 0 w'_2 n) ∧
 ∀ (n : Int) (w' : World) (n_1 : Nat),
 I n w' n_1 →
 Wif (isP c)
 (∃ (x : Option Addr),
 ∃ (x_3 : Nat),
 ∃ (x_4 : Nat),
 rd w' (pb c) (po c + 2) = some (Value.slice x x_3 x_4) ∧
 gIf (isP c) (decide (n < (↑x_3 : Int)) = true)
 (∃ (x : Option Addr),
 ∃ (x_5 : Nat),
 ∃ (x_6 : Nat),
 (decide (n < (↑x_3 : Int)) = true →
 rd w' (pb c) (po c + 2) = some (Value.slice x x_5 x_6)) ∧
 gIf (isP x) (decide (n < (↑x_3 : Int)) = true)
 (gIf (inB n x_5) (decide (n < (↑x_3 : Int)) = true)
 (∃ (x_7 : Int),
 (decide (n < (↑x_3 : Int)) = true →
 rd w' (pb x) (po x + Int.toNat n * 2) = some (Value.int IntKind.i64 x_7)) ∧
 Wif (decide (n < (↑x_3 : Int)) && decide (x_7 < frame))
 (∃ (m : Nat), Nat.succ m ≤ n_1 ∧ I (IntKind.wrap IntKind.i64 (n + 1)) w' m)
 (∀ (w1 : World),
 w1 = World.drew w' →
 Wif (isP c)
 (∃ (x : Option Addr),
 ∃ (x_8 : Nat),
 ∃ (x_9 : Nat),
 rd w1 (pb c) (po c + 2) = some (Value.slice x x_8 x_9) ∧
 Wif (okSl 0 n (↑x_9 : Int))
 (Wif (isP c)
 (∃ (x_10 : Option Addr),
 ∃ (x_11 : Nat),
 ∃ (x_12 : Nat),
 rd w1 (pb c) (po c + 2) =
 some (Value.slice x_10 x_11 x_12) ∧
 Wif (okSl n (↑x_11 : Int) (↑x_12 : Int))
 ((∀ (w' : World),
 w' = World.alloc w1 (Obj.cells #[] 103) →
 (rd w' (pb c) (po c + 2) =
 some (Value.slice x_10 x_11 x_12) ∧
 True) ∧
 (rd w' (pb c) (po c + 2) =
 some (Value.slice x x_8 x_9) ∧
 True) ∧
 (∃ (a : Option Addr),
 ∃ (l : Nat),
 ∃ (c_1 : Nat),
 ∃ (w'_3 : World),
 appIs Proofs.Try.prog
 #[99, 99] 99
 (Value.slice
 (some
 (Addr.mk
 (Array.size
 (World.heap w1))
 0 none))
 0 0)
 (Value.slice x
 (Int.toNat n) x_9)
 (Value.slice a l c_1) w'
 w'_3 ∧
 (rd w'_3 (pb c) (po c + 2) =
 some
 (Value.slice x_10
 x_11 x_12) ∧
 True) ∧
 ∀ (w' : World),
 w' =
 World.alloc w'_3
 (Obj.cells
 #[Value.int
 IntKind.i64
 frame,
 Value.pointer
 p]
 103) →
 (rd w' (pb c)
 (po c + 2) =
 some
 (Value.slice
 x_10 x_11
 x_12) ∧
 True) ∧
 ∃ (a_1 :
 Option Addr),
 ∃ (l_1 : Nat),
 ∃ (c_2 : Nat),
 ∃ (w'_4 :
 World),
 appIs
 Proofs.Try.prog
 #[99,
 99]
 99
 (Value.slice
 a l
 c_1)
 (Value.slice
 (some
 (Addr.mk
 (Array.size
 (World.heap
 w'_3))
 0
 none))
 1 1)
 (Value.slice
 a_1
 l_1
 c_2)
 w'
 w'_4 ∧
 (rd w'_4
 (pb
 c)
 (po
 c +
 2) =
 some
 (Value.slice
 x_10
 x_11
 x_12) ∧
 True) ∧
 ∃ (a :
 Option
 Addr),
 ∃ (l :
 Nat),
 ∃
 (c_3
 :
 Nat),
 ∃
 (w'
 :
 World),
 appIs
 Proofs.Try.prog
 #[99,
 99]
 99
 (Value.slice
 a_1
 l_1
 c_2)
 (Value.slice
 (offA
 x_10
 x_12
 (Int.toNat
 n)
 2)
 (x_11 -
 Int.toNat
 n)
 (x_12 -
 Int.toNat
 n))
 (Value.slice
 a
 l
 c_3)
 w'_4
 w' ∧
 Wif
 (isP
 c)
 (wr
 w'
 (pb
 c)
 (po
 c +
 2) ∧
 ∀
 (w'_5 :
 World),
 w'_5 =
 st
 w'
 (pb
 c)
 (po
 c +
 2)
 (Value.slice
 a
 l
 c_3) →
 K
 (Value.int
 IntKind.i64
 0)
 w'_5)
 False) ∧
 ∀ (w'_3 : World),
 w'_3 =
 World.alloc w'
 (Obj.cells
 #[Value.int IntKind.i64
 frame,
 Value.pointer p]
 103) →
 (rd w'_3 (pb c) (po c + 2) =
 some
 (Value.slice x_10 x_11
 x_12) ∧
 True) ∧
 (rd w'_3 (pb c) (po c + 2) =
 some
 (Value.slice x x_8
 x_9) ∧
 True) ∧
 ∃ (a : Option Addr),
 ∃ (l : Nat),
 ∃ (c_1 : Nat),
 ∃ (w'_4 : World),
 appIs Proofs.Try.prog
 #[99, 99] 99
 (Value.slice
 (some
 (Addr.mk
 (Array.size
 (World.heap
 w1))
 0 none))
 0 0)
 (Value.slice x
 (Int.toNat n)
 x_9)
 (Value.slice a l
 c_1)
 w'_3 w'_4 ∧
 (rd w'_4 (pb c)
 (po c + 2) =
 some
 (Value.slice
 x_10 x_11
 x_12) ∧
 True) ∧
 ∃ (a_1 :
 Option Addr),
 ∃ (l_1 : Nat),
 ∃ (c_2 : Nat),
 ∃ (w'_5 :
 World),
 appIs
 Proofs.Try.prog
 #[99,
 99]
 99
 (Value.slice
 a l
 c_1)
 (Value.slice
 (some
 (Addr.mk
 (Array.size
 (World.heap
 w'))
 0
 none))
 1 1)
 (Value.slice
 a_1
 l_1
 c_2)
 w'_4
 w'_5 ∧
 (rd w'_5
 (pb
 c)
 (po
 c +
 2) =
 some
 (Value.slice
 x_10
 x_11
 x_12) ∧
 True) ∧
 ∃ (a :
 Option
 Addr),
 ∃ (l
 :
 Nat),
 ∃
 (c_3
 :
 Nat),
 ∃
 (w'
 :
 World),
 appIs
 Proofs.Try.prog
 #[99,
 99]
 99
 (Value.slice
 a_1
 l_1
 c_2)
 (Value.slice
 (offA
 x_10
 x_12
 (Int.toNat
 n)
 2)
 (x_11 -
 Int.toNat
 n)
 (x_12 -
 Int.toNat
 n))
 (Value.slice
 a
 l
 c_3)
 w'_5
 w' ∧
 Wif
 (isP
 c)
 (wr
 w'
 (pb
 c)
 (po
 c +
 2) ∧
 ∀
 (w'_6 :
 World),
 w'_6 =
 st
 w'
 (pb
 c)
 (po
 c +
 2)
 (Value.slice
 a
 l
 c_3) →
 K
 (Value.int
 IntKind.i64
 0)
 w'_6)
 False) ∧
 ∀ (w' : World),
 w' =
 World.alloc w1
 (Obj.cells
 #[Value.int IntKind.i64 frame,
 Value.pointer p]
 103) →
 (rd w' (pb c) (po c + 2) =
 some (Value.slice x_10 x_11 x_12) ∧
 True) ∧
 (rd w' (pb c) (po c + 2) =
 some (Value.slice x x_8 x_9) ∧
 True) ∧
 ∀ (w'_3 : World),
 w'_3 =
 World.alloc w'
 (Obj.cells #[] 103) →
 (rd w'_3 (pb c) (po c + 2) =
 some
 (Value.slice x_10 x_11
 x_12) ∧
 True) ∧
 (rd w'_3 (pb c) (po c + 2) =
 some
 (Value.slice x x_8 x_9) ∧
 True) ∧
 ∃ (a : Option Addr),
 ∃ (l : Nat),
 ∃ (c_1 : Nat),
 ∃ (w'_4 : World),
 appIs Proofs.Try.prog
 #[99, 99] 99
 (Value.slice
 (some
 (Addr.mk
 (Array.size
 (World.heap
 w'))
 0 none))
 0 0)
 (Value.slice x
 (Int.toNat n) x_9)
 (Value.slice a l
 c_1)
 w'_3 w'_4 ∧
 (rd w'_4 (pb c)
 (po c + 2) =
 some
 (Value.slice
 x_10 x_11
 x_12) ∧
 True) ∧
 ∃ (a_1 :
 Option Addr),
 ∃ (l_1 : Nat),
 ∃ (c_2 : Nat),
 ∃ (w' :
 World),
 appIs
 Proofs.Try.prog
 #[99,
 99]
 99
 (Value.slice
 a l
 c_1)
 (Value.slice
 (some
 (Addr.mk
 (Array.size
 (World.heap
 w1))
 0
 none))
 1 1)
 (Value.slice
 a_1
 l_1
 c_2)
 w'_4
 w' ∧
 (rd w'
 (pb
 c)
 (po
 c +
 2) =
 some
 (Value.slice
 x_10
 x_11
 x_12) ∧
 True) ∧
 ∃ (a :
 Option
 Addr),
 ∃ (l :
 Nat),
 ∃
 (c_3
 :
 Nat),
 ∃
 (w'_5
 :
 World),
 appIs
 Proofs.Try.prog
 #[99,
 99]
 99
 (Value.slice
 a_1
 l_1
 c_2)
 (Value.slice
 (offA
 x_10
 x_12
 (Int.toNat
 n)
 2)
 (x_11 -
 Int.toNat
 n)
 (x_12 -
 Int.toNat
 n))
 (Value.slice
 a
 l
 c_3)
 w'
 w'_5 ∧
 Wif
 (isP
 c)
 (wr
 w'_5
 (pb
 c)
 (po
 c +
 2) ∧
 ∀
 (w' :
 World),
 w' =
 st
 w'_5
 (pb
 c)
 (po
 c +
 2)
 (Value.slice
 a
 l
 c_3) →
 K
 (Value.int
 IntKind.i64
 0)
 w')
 False)
 False)
 False)
 False)
 False)))))
 False)
 False)
 (∃ (I : Int → World → Nat → Prop),
 (∃ (n : Nat), I 0 w' n) ∧
 ∀ (n : Int) (w' : World) (n_1 : Nat),
 I n w' n_1 →
 Wif (isP c)
 (∃ (x : Option Addr),
 ∃ (x_3 : Nat),
 ∃ (x_4 : Nat),
 rd w' (pb c) (po c + 2) = some (Value.slice x x_3 x_4) ∧
 gIf (isP c) (decide (n < (↑x_3 : Int)) = true)
 (∃ (x : Option Addr),
 ∃ (x_5 : Nat),
 ∃ (x_6 : Nat),
 (decide (n < (↑x_3 : Int)) = true → rd w' (pb c) (po c + 2) = some (Value.slice x x_5 x_6)) ∧
 gIf (isP x) (decide (n < (↑x_3 : Int)) = true)
 (gIf (inB n x_5) (decide (n < (↑x_3 : Int)) = true)
 (∃ (x_7 : Int),
 (decide (n < (↑x_3 : Int)) = true →
 rd w' (pb x) (po x + Int.toNat n * 2) = some (Value.int IntKind.i64 x_7)) ∧
 Wif (decide (n < (↑x_3 : Int)) && decide (x_7 < frame))
 (∃ (m : Nat), Nat.succ m ≤ n_1 ∧ I (IntKind.wrap IntKind.i64 (n + 1)) w' m)
 (∀ (w1 : World),
 w1 = World.drew w' →
 Wif (isP c)
 (∃ (x : Option Addr),
 ∃ (x_8 : Nat),
 ∃ (x_9 : Nat),
 rd w1 (pb c) (po c + 2) = some (Value.slice x x_8 x_9) ∧
 Wif (okSl 0 n (↑x_9 : Int))
 (Wif (isP c)
 (∃ (x_10 : Option Addr),
 ∃ (x_11 : Nat),
 ∃ (x_12 : Nat),
 rd w1 (pb c) (po c + 2) = some (Value.slice x_10 x_11 x_12) ∧
 Wif (okSl n (↑x_11 : Int) (↑x_12 : Int))
 ((∀ (w' : World),
 w' = World.alloc w1 (Obj.cells #[] 103) →
 (rd w' (pb c) (po c + 2) =
 some (Value.slice x_10 x_11 x_12) ∧
 True) ∧
 (rd w' (pb c) (po c + 2) =
 some (Value.slice x x_8 x_9) ∧
 True) ∧
 (∃ (a : Option Addr),
 ∃ (l : Nat),
 ∃ (c_1 : Nat),
 ∃ (w'_2 : World),
 appIs Proofs.Try.prog #[99, 99] 99
 (Value.slice
 (some
 (Addr.mk
 (Array.size (World.heap w1))
 0 none))
 0 0)
 (Value.slice x (Int.toNat n) x_9)
 (Value.slice a l c_1) w' w'_2 ∧
 (rd w'_2 (pb c) (po c + 2) =
 some
 (Value.slice x_10 x_11
 x_12) ∧
 True) ∧
 ∀ (w' : World),
 w' =
 World.alloc w'_2
 (Obj.cells
 #[Value.int IntKind.i64
 frame,
 Value.pointer p]
 103) →
 (rd w' (pb c) (po c + 2) =
 some
 (Value.slice x_10 x_11
 x_12) ∧
 True) ∧
 ∃ (a_1 : Option Addr),
 ∃ (l_1 : Nat),
 ∃ (c_2 : Nat),
 ∃ (w'_3 : World),
 appIs
 Proofs.Try.prog
 #[99, 99] 99
 (Value.slice a l
 c_1)
 (Value.slice
 (some
 (Addr.mk
 (Array.size
 (World.heap
 w'_2))
 0 none))
 1 1)
 (Value.slice a_1
 l_1 c_2)
 w' w'_3 ∧
 (rd w'_3 (pb c)
 (po c +
 2) =
 some
 (Value.slice
 x_10
 x_11
 x_12) ∧
 True) ∧
 ∃ (a :
 Option Addr),
 ∃ (l : Nat),
 ∃ (c_3 :
 Nat),
 ∃ (w' :
 World),
 appIs
 Proofs.Try.prog
 #[99,
 99]
 99
 (Value.slice
 a_1
 l_1
 c_2)
 (Value.slice
 (offA
 x_10
 x_12
 (Int.toNat
 n)
 2)
 (x_11 -
 Int.toNat
 n)
 (x_12 -
 Int.toNat
 n))
 (Value.slice
 a
 l
 c_3)
 w'_3
 w' ∧
 Wif
 (isP
 c)
 (wr
 w'
 (pb
 c)
 (po
 c +
 2) ∧
 ∀
 (w'_4 :
 World),
 w'_4 =
 st
 w'
 (pb
 c)
 (po
 c +
 2)
 (Value.slice
 a
 l
 c_3) →
 K
 (Value.int
 IntKind.i64
 0)
 w'_4)
 False) ∧
 ∀ (w'_2 : World),
 w'_2 =
 World.alloc w'
 (Obj.cells
 #[Value.int IntKind.i64 frame,
 Value.pointer p]
 103) →
 (rd w'_2 (pb c) (po c + 2) =
 some (Value.slice x_10 x_11 x_12) ∧
 True) ∧
 (rd w'_2 (pb c) (po c + 2) =
 some (Value.slice x x_8 x_9) ∧
 True) ∧
 ∃ (a : Option Addr),
 ∃ (l : Nat),
 ∃ (c_1 : Nat),
 ∃ (w'_3 : World),
 appIs Proofs.Try.prog
 #[99, 99] 99
 (Value.slice
 (some
 (Addr.mk
 (Array.size
 (World.heap w1))
 0 none))
 0 0)
 (Value.slice x
 (Int.toNat n) x_9)
 (Value.slice a l c_1) w'_2
 w'_3 ∧
 (rd w'_3 (pb c) (po c + 2) =
 some
 (Value.slice x_10
 x_11 x_12) ∧
 True) ∧
 ∃ (a_1 : Option Addr),
 ∃ (l_1 : Nat),
 ∃ (c_2 : Nat),
 ∃ (w'_4 : World),
 appIs
 Proofs.Try.prog
 #[99, 99] 99
 (Value.slice a
 l c_1)
 (Value.slice
 (some
 (Addr.mk
 (Array.size
 (World.heap
 w'))
 0 none))
 1 1)
 (Value.slice
 a_1 l_1 c_2)
 w'_3 w'_4 ∧
 (rd w'_4 (pb c)
 (po c +
 2) =
 some
 (Value.slice
 x_10
 x_11
 x_12) ∧
 True) ∧
 ∃ (a :
 Option
 Addr),
 ∃ (l : Nat),
 ∃ (c_3 :
 Nat),
 ∃ (w' :
 World),
 appIs
 Proofs.Try.prog
 #[99,
 99]
 99
 (Value.slice
 a_1
 l_1
 c_2)
 (Value.slice
 (offA
 x_10
 x_12
 (Int.toNat
 n)
 2)
 (x_11 -
 Int.toNat
 n)
 (x_12 -
 Int.toNat
 n))
 (Value.slice
 a
 l
 c_3)
 w'_4
 w' ∧
 Wif
 (isP
 c)
 (wr
 w'
 (pb
 c)
 (po
 c +
 2) ∧
 ∀
 (w'_5 :
 World),
 w'_5 =
 st
 w'
 (pb
 c)
 (po
 c +
 2)
 (Value.slice
 a
 l
 c_3) →
 K
 (Value.int
 IntKind.i64
 0)
 w'_5)
 False) ∧
 ∀ (w' : World),
 w' =
 World.alloc w1
 (Obj.cells
 #[Value.int IntKind.i64 frame,
 Value.pointer p]
 103) →
 (rd w' (pb c) (po c + 2) =
 some (Value.slice x_10 x_11 x_12) ∧
 True) ∧
 (rd w' (pb c) (po c + 2) =
 some (Value.slice x x_8 x_9) ∧
 True) ∧
 ∀ (w'_2 : World),
 w'_2 = World.alloc w' (Obj.cells #[] 103) →
 (rd w'_2 (pb c) (po c + 2) =
 some (Value.slice x_10 x_11 x_12) ∧
 True) ∧
 (rd w'_2 (pb c) (po c + 2) =
 some (Value.slice x x_8 x_9) ∧
 True) ∧
 ∃ (a : Option Addr),
 ∃ (l : Nat),
 ∃ (c_1 : Nat),
 ∃ (w'_3 : World),
 appIs Proofs.Try.prog #[99, 99]
 99
 (Value.slice
 (some
 (Addr.mk
 (Array.size
 (World.heap w'))
 0 none))
 0 0)
 (Value.slice x (Int.toNat n)
 x_9)
 (Value.slice a l c_1) w'_2
 w'_3 ∧
 (rd w'_3 (pb c) (po c + 2) =
 some
 (Value.slice x_10 x_11
 x_12) ∧
 True) ∧
 ∃ (a_1 : Option Addr),
 ∃ (l_1 : Nat),
 ∃ (c_2 : Nat),
 ∃ (w' : World),
 appIs
 Proofs.Try.prog
 #[99, 99] 99
 (Value.slice a l
 c_1)
 (Value.slice
 (some
 (Addr.mk
 (Array.size
 (World.heap
 w1))
 0 none))
 1 1)
 (Value.slice a_1
 l_1 c_2)
 w'_3 w' ∧
 (rd w' (pb c)
 (po c +
 2) =
 some
 (Value.slice
 x_10
 x_11
 x_12) ∧
 True) ∧
 ∃ (a :
 Option Addr),
 ∃ (l : Nat),
 ∃ (c_3 :
 Nat),
 ∃ (w'_4 :
 World),
 appIs
 Proofs.Try.prog
 #[99,
 99]
 99
 (Value.slice
 a_1
 l_1
 c_2)
 (Value.slice
 (offA
 x_10
 x_12
 (Int.toNat
 n)
 2)
 (x_11 -
 Int.toNat
 n)
 (x_12 -
 Int.toNat
 n))
 (Value.slice
 a
 l
 c_3)
 w'
 w'_4 ∧
 Wif
 (isP
 c)
 (wr
 w'_4
 (pb
 c)
 (po
 c +
 2) ∧
 ∀
 (w' :
 World),
 w' =
 st
 w'_4
 (pb
 c)
 (po
 c +
 2)
 (Value.slice
 a
 l
 c_3) →
 K
 (Value.int
 IntKind.i64
 0)
 w')
 False)
 False)
 False)
 False)
 False)))))
 False))
 False)
 False)
 False)
 False))
 False)
 False))
theorem vcE48 (c : Option
 Addr) (frame : Int) (b : Option
 Addr) (bL : Nat) (bC : Nat) (w : World) (K : Value → World → Prop) : vcP48 c frame b bL bC w K = Eng.wBody Go.Proofs.Try.prog (Eng.handOf Go.Proofs.Try.prog [] 1) [] Go.Proofs.Try.f48 (Eng.bodyOf Go.Proofs.Try.f48) [Value.pointer
 c,
 Value.int IntKind.i64 frame, Value.slice b bL bC] w K := by kernel_rfl
theorem vc48 (c : Option Addr) (frame : Int) (b : Option Addr) (bL : Nat) (bC : Nat) (w : World) (K : Value → World → Prop) (h : vcP48 c frame b bL bC w K) :
 Calls Go.Proofs.Try.prog 48 #[Value.pointer c, Value.int IntKind.i64 frame, Value.slice b bL bC] w (fun e w' => ∃ v, e = .returned v ∧ K v w') :=
 Eng.vc_of [] 1 [] Go.Proofs.Try.mixes Go.Proofs.Try.func48 (by kernel_rfl) (by kernel_rfl) (vcE48 c frame b bL bC w K) h

-- 87106 ms
/- (*byre/byreref09.Cache).Take -/
def vcP49 (c : Option Addr) (w : World) (K : Value → World → Prop) : Prop :=
 ∃ (I : Int → Int → Int → Int → World → Nat → Prop),
 (∃ (n : Nat), I 0 0 0 0 w n) ∧
 ∀ (n n_1 n_2 n_3 : Int) (w' : World) (n_4 : Nat),
 I n n_1 n_2 n_3 w' n_4 →
 Wif (decide (n_3 < 2))
 (∃ (I_1 : Int → Int → Int → Int → World → Nat → Prop),
 (∃ (n_5 : Nat), I_1 n n_1 n_2 0 w' n_5) ∧
 ∀ (n n_5 n_6 n_7 : Int) (w' : World) (n_8 : Nat),
 I_1 n n_5 n_6 n_7 w' n_8 →
 Wif (isP c)
 (∃ (x : Option Addr),
 ∃ (x_1 : Nat),
 ∃ (x_2 : Nat),
 rd w' (pb c) (po c + 2) = some (Value.slice x x_1 x_2) ∧
 Wif (decide (n_7 < (↑x_1 : Int)))
 (Wif (isP c)
 (∃ (x : Option Addr),
 ∃ (x_3 : Nat),
 ∃ (x_4 : Nat),
 rd w' (pb c) (po c + 2) = some (Value.slice x x_3 x_4) ∧
 Wif (isP x)
 (Wif (inB n_7 x_3)
 (∃ (x_5 : Option Addr),
 rd w' (pb x) (po x + Int.toNat n_7 * 2 + 1) = some (Value.pointer x_5) ∧
 Wif (isP x_5)
 (∃ (x : Option Addr),
 ∃ (x_6 : Nat),
 ∃ (x_7 : Nat),
 rd w' (pb x_5) (po x_5 + 4) = some (Value.slice x x_6 x_7) ∧
 gIf (isP c) (decide ((↑x_6 : Int) > 0) = true)
 (∃ (x : Option Addr),
 ∃ (x_8 : Nat),
 ∃ (x_9 : Nat),
 (decide ((↑x_6 : Int) > 0) = true → rd w' (pb c) (po c + 2) = some (Value.slice x x_8 x_9)) ∧
 gIf (isP x) (decide ((↑x_6 : Int) > 0) = true)
 (gIf (inB n_7 x_8) (decide ((↑x_6 : Int) > 0) = true)
 (∃ (x_10 : Option Addr),
 (decide ((↑x_6 : Int) > 0) = true → rd w' (pb x) (po x + Int.toNat n_7 * 2 + 1) = some (Value.pointer x_10)) ∧
 gIf (isP x_10) (decide ((↑x_6 : Int) > 0) = true)
 (∃ (x : Int),
 (decide ((↑x_6 : Int) > 0) = true → rd w' (pb x_10) (po x_10 + 3) = some (Value.int IntKind.i64 x)) ∧
 Wif (n_3 == 0 && !(decide ((↑x_6 : Int) > 0) && decide ((↑x_6 : Int) < x)) || n_3 == 1 && (↑x_6 : Int) == 0)
 (∃ (m : Nat), Nat.succ m ≤ n_8 ∧ I_1 n n_5 n_6 (IntKind.wrap IntKind.i64 (n_7 + 1)) w' m)
 (Wif (isP c)
 (∃ (x : Option Addr),
 ∃ (x_11 : Nat),
 ∃ (x_12 : Nat),
 rd w' (pb c) (po c + 2) = some (Value.slice x x_11 x_12) ∧
 Wif (isP x)
 (Wif (inB n_7 x_11)
 (∃ (x_13 : Option Addr),
 rd w' (pb x) (po x + Int.toNat n_7 * 2 + 1) = some (Value.pointer x_13) ∧
 Calls Proofs.Try.prog 30 #[Value.pointer x_13] w' fun (e : Ending) (w' : World) =>
 ∃ (n : Int),
 ∃ (n_9 : Int),
 e = Ending.returned (Value.tuple #[Value.int IntKind.i64 n, Value.int IntKind.i64 n_9]) ∧
 Wif (isP c)
 (∃ (x : Option Addr),
 ∃ (x_14 : Nat),
 ∃ (x_15 : Nat),
 rd w' (pb c) (po c + 2) = some (Value.slice x x_14 x_15) ∧
 Wif (isP x)
 (Wif (inB n_7 x_14)
 (∃ (x_16 : Int),
 rd w' (pb x) (po x + Int.toNat n_7 * 2) =
 some (Value.int IntKind.i64 x_16) ∧
 K
 (Value.tuple
 #[Value.int IntKind.i64 x_16, Value.int IntKind.i64 n,
 Value.int IntKind.i64 n_9])
 w')
 False)
 False)
 False)
 False)
 False)
 False))))))
 False)
 False)
 False)
 False)
 (∃ (m : Nat), Nat.succ m ≤ n_4 ∧ I n n_5 n_6 (IntKind.wrap IntKind.i64 (n_3 + 1)) w' m))
 False)
 (K (Value.tuple #[Value.int IntKind.i64 0, Value.int IntKind.i64 0, Value.int IntKind.i64 7]) w')
theorem vcE49 (c : Option
 Addr) (w : World) (K : Value → World → Prop) : vcP49 c w K = Eng.wBody Go.Proofs.Try.prog (Eng.handOf Go.Proofs.Try.prog [] 1) [] Go.Proofs.Try.f49 (Eng.bodyOf Go.Proofs.Try.f49) [Value.pointer
 c] w K := by kernel_rfl
theorem vc49 (c : Option Addr) (w : World) (K : Value → World → Prop) (h : vcP49 c w K) :
 Calls Go.Proofs.Try.prog 49 #[Value.pointer c] w (fun e w' => ∃ v, e = .returned v ∧ K v w') :=
 Eng.vc_of [] 1 [] Go.Proofs.Try.mixes Go.Proofs.Try.func49 (by kernel_rfl) (by kernel_rfl) (vcE49 c w K) h

-- 15841 ms
/- (*byre/byreref09.Cache).Give -/
def vcP50 (c : Option Addr) (frame : Int) (i : Int) (w : World) (K : Value → World → Prop) : Prop :=
 Calls Proofs.Try.prog 52 #[Value.pointer c, Value.int IntKind.i64 frame] w fun (e : Ending) (w' : World) =>
 ∃ (p : Option Addr),
 e = Ending.returned (Value.pointer p) ∧
 Wif (Option.isNone p) (K (Value.int IntKind.i64 7) w')
 (Calls Proofs.Try.prog 31 #[Value.pointer p, Value.int IntKind.i64 i] w' fun (e : Ending) (w' : World) =>
 ∃ (n : Int), e = Ending.returned (Value.int IntKind.i64 n) ∧ K (Value.int IntKind.i64 n) w')
theorem vcE50 (c : Option
 Addr) (frame : Int) (i : Int) (w : World) (K : Value → World → Prop) : vcP50 c frame i w K = Eng.wBody Go.Proofs.Try.prog (Eng.handOf Go.Proofs.Try.prog [] 1) [] Go.Proofs.Try.f50 (Eng.bodyOf Go.Proofs.Try.f50) [Value.pointer
 c,
 Value.int IntKind.i64 frame, Value.int IntKind.i64 i] w K := by kernel_rfl
theorem vc50 (c : Option Addr) (frame : Int) (i : Int) (w : World) (K : Value → World → Prop) (h : vcP50 c frame i w K) :
 Calls Go.Proofs.Try.prog 50 #[Value.pointer c, Value.int IntKind.i64 frame, Value.int IntKind.i64 i] w (fun e w' => ∃ v, e = .returned v ∧ K v w') :=
 Eng.vc_of [] 1 [] Go.Proofs.Try.mixes Go.Proofs.Try.func50 (by kernel_rfl) (by kernel_rfl) (vcE50 c frame i w K) h

-- 288 ms
/- (*byre/byreref09.Cache).Drop -/
def vcP51 (c : Option Addr) (frame : Int) (w : World) (K : Value → World → Prop) : Prop :=
 ∃ (I : Int → Int → World → Nat → Prop),
 (∃ (n : Nat), I 0 0 w n) ∧
 ∀ (n n_1 : Int) (w' : World) (n_2 : Nat),
 I n n_1 w' n_2 →
 Wif (isP c)
 (∃ (x : Option Addr),
 ∃ (x_1 : Nat),
 ∃ (x_2 : Nat),
 rd w' (pb c) (po c + 2) = some (Value.slice x x_1 x_2) ∧
 Wif (decide (n_1 < (↑x_1 : Int)))
 (Wif (isP c)
 (∃ (x : Option Addr),
 ∃ (x_3 : Nat),
 ∃ (x_4 : Nat),
 rd w' (pb c) (po c + 2) = some (Value.slice x x_3 x_4) ∧
 Wif (isP x)
 (Wif (inB n_1 x_3)
 (∃ (x_5 : Int),
 rd w' (pb x) (po x + Int.toNat n_1 * 2) = some (Value.int IntKind.i64 x_5) ∧
 Wif (x_5 != frame) (∃ (m : Nat), Nat.succ m ≤ n_2 ∧ I n (IntKind.wrap IntKind.i64 (n_1 + 1)) w' m)
 (∀ (w1 : World),
 w1 = World.drew w' →
 Wif (isP c)
 (∃ (x : Option Addr),
 ∃ (x_6 : Nat),
 ∃ (x_7 : Nat),
 rd w1 (pb c) (po c + 2) = some (Value.slice x x_6 x_7) ∧
 Wif (isP x)
 (Wif (inB n_1 x_6)
 (∃ (x_8 : Option Addr),
 rd w1 (pb x) (po x + Int.toNat n_1 * 2 + 1) = some (Value.pointer x_8) ∧
 Wif (isP x_8)
 (∃ (x : Option Addr),
 ∃ (x_9 : Nat),
 ∃ (x_10 : Nat),
 rd w1 (pb x_8) (po x_8 + 4) = some (Value.slice x x_9 x_10) ∧
 Wif (isP c)
 (∃ (x : Option Addr),
 ∃ (x_11 : Nat),
 ∃ (x_12 : Nat),
 rd w1 (pb c) (po c + 2) = some (Value.slice x x_11 x_12) ∧
 Wif (isP x)
 (Wif (inB n_1 x_11)
 (∃ (x_13 : Option Addr),
 rd w1 (pb x) (po x + Int.toNat n_1 * 2 + 1) = some (Value.pointer x_13) ∧
 Wif (isP x_13)
 (∃ (x : Int),
 rd w1 (pb x_13) (po x_13 + 3) = some (Value.int IntKind.i64 x) ∧
 Wif (decide ((↑x_9 : Int) < x)) (K (Value.int IntKind.i64 80) w1)
 (∀ (w1_1 : World),
 w1_1 = World.drew w1 →
 Wif (isP c)
 (∃ (x : Option Addr),
 ∃ (x_14 : Nat),
 ∃ (x_15 : Nat),
 rd w1_1 (pb c) (po c + 2) = some (Value.slice x x_14 x_15) ∧
 Wif (okSl 0 n_1 (↑x_15 : Int))
 (Wif (isP c)
 (∃ (x_16 : Option Addr),
 ∃ (x_17 : Nat),
 ∃ (x_18 : Nat),
 rd w1_1 (pb c) (po c + 2) = some (Value.slice x_16 x_17 x_18) ∧
 Wif
 (okSl (IntKind.wrap IntKind.i64 (n_1 + 1)) (↑x_17 : Int) (↑x_18 : Int))
 (∀ (w' : World),
 w' = World.alloc w1_1 (Obj.cells #[] 103) →
 (rd w' (pb c) (po c + 2) = some (Value.slice x_16 x_17 x_18) ∧
 True) ∧
 (rd w' (pb c) (po c + 2) = some (Value.slice x x_14 x_15) ∧
 True) ∧
 ∃ (a : Option Addr),
 ∃ (l : Nat),
 ∃ (c_1 : Nat),
 ∃ (w'_1 : World),
 appIs Proofs.Try.prog #[99, 99] 99
 (Value.slice
 (some
 (Addr.mk (Array.size (World.heap w1_1)) 0 none))
 0 0)
 (Value.slice x (Int.toNat n_1) x_15)
 (Value.slice a l c_1) w' w'_1 ∧
 (rd w'_1 (pb c) (po c + 2) =
 some (Value.slice x_16 x_17 x_18) ∧
 True) ∧
 ∃ (a_1 : Option Addr),
 ∃ (l_1 : Nat),
 ∃ (c_2 : Nat),
 ∃ (w' : World),
 appIs Proofs.Try.prog #[99, 99] 99
 (Value.slice a l c_1)
 (Value.slice
 (offA x_16 x_18
 (Int.toNat
 (IntKind.wrap IntKind.i64
 (n_1 + 1)))
 2)
 (x_17 -
 Int.toNat
 (IntKind.wrap IntKind.i64
 (n_1 + 1)))
 (x_18 -
 Int.toNat
 (IntKind.wrap IntKind.i64
 (n_1 + 1))))
 (Value.slice a_1 l_1 c_2) w'_1 w' ∧
 Wif (isP c)
 (wr w' (pb c) (po c + 2) ∧
 ∀ (w'_2 : World),
 w'_2 =
 st w' (pb c) (po c + 2)
 (Value.slice a_1 l_1 c_2) →
 K (Value.int IntKind.i64 0) w'_2)
 False)
 False)
 False)
 False)
 False))
 False)
 False)
 False)
 False)
 False)
 False)
 False)
 False))
 False)
 False)
 False)
 (K (Value.int IntKind.i64 7) w'))
 False
theorem vcE51 (c : Option
 Addr) (frame : Int) (w : World) (K : Value → World → Prop) : vcP51 c frame w K = Eng.wBody Go.Proofs.Try.prog (Eng.handOf Go.Proofs.Try.prog [] 1) [] Go.Proofs.Try.f51 (Eng.bodyOf Go.Proofs.Try.f51) [Value.pointer
 c,
 Value.int IntKind.i64 frame] w K := by kernel_rfl
theorem vc51 (c : Option Addr) (frame : Int) (w : World) (K : Value → World → Prop) (h : vcP51 c frame w K) :
 Calls Go.Proofs.Try.prog 51 #[Value.pointer c, Value.int IntKind.i64 frame] w (fun e w' => ∃ v, e = .returned v ∧ K v w') :=
 Eng.vc_of [] 1 [] Go.Proofs.Try.mixes Go.Proofs.Try.func51 (by kernel_rfl) (by kernel_rfl) (vcE51 c frame w K) h

-- 13321 ms
/- (*byre/byreref09.Cache).Find -/
def vcP52 (c : Option Addr) (frame : Int) (w : World) (K : Value → World → Prop) : Prop :=
 ∃ (I : Option Addr → Int → World → Nat → Prop),
 (∃ (n : Nat), I none 0 w n) ∧
 ∀ (p : Option Addr) (n : Int) (w' : World) (n_1 : Nat),
 I p n w' n_1 →
 Wif (isP c)
 (∃ (x : Option Addr),
 ∃ (x_1 : Nat),
 ∃ (x_2 : Nat),
 rd w' (pb c) (po c + 2) = some (Value.slice x x_1 x_2) ∧
 Wif (decide (n < (↑x_1 : Int)))
 (Wif (isP c)
 (∃ (x : Option Addr),
 ∃ (x_3 : Nat),
 ∃ (x_4 : Nat),
 rd w' (pb c) (po c + 2) = some (Value.slice x x_3 x_4) ∧
 Wif (isP x)
 (Wif (inB n x_3)
 (∃ (x_5 : Int),
 rd w' (pb x) (po x + Int.toNat n * 2) = some (Value.int IntKind.i64 x_5) ∧
 Wif (x_5 == frame)
 (Wif (isP c)
 (∃ (x : Option Addr),
 ∃ (x_6 : Nat),
 ∃ (x_7 : Nat),
 rd w' (pb c) (po c + 2) = some (Value.slice x x_6 x_7) ∧
 Wif (isP x)
 (Wif (inB n x_6) (∃ (x_8 : Option Addr), rd w' (pb x) (po x + Int.toNat n * 2 + 1) = some (Value.pointer x_8) ∧ K (Value.pointer x_8) w') False)
 False)
 False)
 (∃ (m : Nat), Nat.succ m ≤ n_1 ∧ I p (IntKind.wrap IntKind.i64 (n + 1)) w' m))
 False)
 False)
 False)
 (K (Value.pointer none) w'))
 False
theorem vcE52 (c : Option
 Addr) (frame : Int) (w : World) (K : Value → World → Prop) : vcP52 c frame w K = Eng.wBody Go.Proofs.Try.prog (Eng.handOf Go.Proofs.Try.prog [] 1) [] Go.Proofs.Try.f52 (Eng.bodyOf Go.Proofs.Try.f52) [Value.pointer
 c,
 Value.int IntKind.i64 frame] w K := by kernel_rfl
theorem vc52 (c : Option Addr) (frame : Int) (w : World) (K : Value → World → Prop) (h : vcP52 c frame w K) :
 Calls Go.Proofs.Try.prog 52 #[Value.pointer c, Value.int IntKind.i64 frame] w (fun e w' => ∃ v, e = .returned v ∧ K v w') :=
 Eng.vc_of [] 1 [] Go.Proofs.Try.mixes Go.Proofs.Try.func52 (by kernel_rfl) (by kernel_rfl) (vcE52 c frame w K) h

-- 1632 ms
/- (*byre/byreref09.Cache).Frames -/
def vcP68 (c : Option Addr) (empty : Bool) (w : World) (K : Value → World → Prop) : Prop :=
 ∃ (I : Option Addr → Nat → Nat → Int → World → Nat → Prop),
 (∃ (n : Nat), I none 0 0 0 w n) ∧
 ∀ (a : Option Addr) (l c_1 : Nat) (n : Int) (w' : World) (n_1 : Nat),
 I a l c_1 n w' n_1 →
 Wif (isP c)
 (∃ (x : Option Addr),
 ∃ (x_1 : Nat),
 ∃ (x_2 : Nat),
 rd w' (pb c) (po c + 2) = some (Value.slice x x_1 x_2) ∧
 Wif (decide (n < (↑x_1 : Int)))
 (∀ (w1 : World),
 w1 = World.drew w' →
 gIf (isP c) ((!empty) = false)
 (∃ (x : Option Addr),
 ∃ (x_3 : Nat),
 ∃ (x_4 : Nat),
 ((!empty) = false → rd w1 (pb c) (po c + 2) = some (Value.slice x x_3 x_4)) ∧
 gIf (isP x) ((!empty) = false)
 (gIf (inB n x_3) ((!empty) = false)
 (∃ (x_5 : Option Addr),
 ((!empty) = false → rd w1 (pb x) (po x + Int.toNat n * 2 + 1) = some (Value.pointer x_5)) ∧
 gIf (isP x_5) ((!empty) = false)
 (∃ (x : Option Addr),
 ∃ (x_6 : Nat),
 ∃ (x_7 : Nat),
 ((!empty) = false → rd w1 (pb x_5) (po x_5 + 4) = some (Value.slice x x_6 x_7)) ∧
 gIf (isP c) ((!empty) = false)
 (∃ (x : Option Addr),
 ∃ (x_8 : Nat),
 ∃ (x_9 : Nat),
 ((!empty) = false → rd w1 (pb c) (po c + 2) = some (Value.slice x x_8 x_9)) ∧
 gIf (isP x) ((!empty) = false)
 (gIf (inB n x_8) ((!empty) = false)
 (∃ (x_10 : Option Addr),
 ((!empty) = false → rd w1 (pb x) (po x + Int.toNat n * 2 + 1) = some (Value.pointer x_10)) ∧
 gIf (isP x_10) ((!empty) = false)
 (∃ (x : Int),
 ((!empty) = false → rd w1 (pb x_10) (po x_10 + 3) = some (Value.int IntKind.i64 x)) ∧
 Wif (!empty || (↑x_6 : Int) == x)
 (Wif (isP c)
 (∃ (x : Option Addr),
 ∃ (x_11 : Nat),
 ∃ (x_12 : Nat),
 rd w1 (pb c) (po c + 2) = some (Value.slice x x_11 x_12) ∧
 Wif (isP x)
 (Wif (inB n x_11)
 (∃ (x_13 : Int),
 rd w1 (pb x) (po x + Int.toNat n * 2) = some (Value.int IntKind.i64 x_13) ∧
 ∀ (w' : World),
 w' = World.alloc w1 (Obj.cells #[Value.int IntKind.i64 x_13] 3) →
 ∃ (a_1 : Option Addr),
 ∃ (l_1 : Nat),
 ∃ (c : Nat),
 ∃ (w'_1 : World),
 appIs Proofs.Try.prog #[33, 33] 33 (Value.slice a l c_1)
 (Value.slice (some (Addr.mk (Array.size (World.heap w1)) 0 none)) 1 1)
 (Value.slice a_1 l_1 c) w' w'_1 ∧
 ∃ (m : Nat), Nat.succ m ≤ n_1 ∧ I a_1 l_1 c (IntKind.wrap IntKind.i64 (n + 1)) w'_1 m)
 False)
 False)
 False)
 (∃ (m : Nat), Nat.succ m ≤ n_1 ∧ I a l c_1 (IntKind.wrap IntKind.i64 (n + 1)) w1 m))))))))))
 (K (Value.slice a l c_1) w'))
 False
theorem vcE68 (c : Option
 Addr) (empty : Bool) (w : World) (K : Value → World → Prop) : vcP68 c empty w K = Eng.wBody Go.Proofs.Try.prog (Eng.handOf Go.Proofs.Try.prog [] 1) [] Go.Proofs.Try.f68 (Eng.bodyOf Go.Proofs.Try.f68) [Value.pointer
 c,
 Value.bool empty] w K := by kernel_rfl
theorem vc68 (c : Option Addr) (empty : Bool) (w : World) (K : Value → World → Prop) (h : vcP68 c empty w K) :
 Calls Go.Proofs.Try.prog 68 #[Value.pointer c, Value.bool empty] w (fun e w' => ∃ v, e = .returned v ∧ K v w') :=
 Eng.vc_of [] 1 [] Go.Proofs.Try.mixes Go.Proofs.Try.func68 (by kernel_rfl) (by kernel_rfl) (vcE68 c empty w K) h

-- 10738 ms
/- byre/byrelaw09.alike -/
def vcP67 (a : Option Addr) (aL : Nat) (aC : Nat) (b : Option Addr) (bL : Nat) (bC : Nat) (w : World) (K : Value → World → Prop) : Prop :=
 Wif ((↑aL : Int) != (↑bL : Int)) (K (Value.bool false) w)
 (∃ (I : Bool → Int → World → Nat → Prop),
 (∃ (n : Nat), I false 0 w n) ∧
 ∀ (b_1 : Bool) (n : Int) (w' : World) (n_1 : Nat),
 I b_1 n w' n_1 →
 Wif (decide (n < (↑aL : Int)))
 (∀ (w1 : World),
 w1 = World.drew w' →
 Wif (isP a)
 (Wif (inB n aL)
 (∃ (x : Int),
 rd w1 (pb a) (po a + Int.toNat n * 1) = some (Value.int IntKind.i64 x) ∧
 Wif (isP b)
 (Wif (inB n bL)
 (∃ (x_1 : Int),
 rd w1 (pb b) (po b + Int.toNat n * 1) = some (Value.int IntKind.i64 x_1) ∧
 Wif (x != x_1) (K (Value.bool false) w1)
 (Wif (isP a)
 (Wif (inB n aL)
 (wr w1 (pb a) (po a + Int.toNat n * 1) ∧
 ∀ (w' : World),
 w' = st w1 (pb a) (po a + Int.toNat n * 1) (Value.int IntKind.i64 99) → ∃ (m : Nat), Nat.succ m ≤ n_1 ∧ I b_1 (IntKind.wrap IntKind.i64 (n + 1)) w' m)
 False)
 False))
 False)
 False)
 False)
 False)
 (K (Value.bool true) w'))
theorem vcE67 (a : Option
 Addr) (aL : Nat) (aC : Nat) (b : Option
 Addr) (bL : Nat) (bC : Nat) (w : World) (K : Value → World → Prop) : vcP67 a aL aC b bL bC w K = Eng.wBody Go.Proofs.Try.prog (Eng.handOf Go.Proofs.Try.prog [] 1) [] Go.Proofs.Try.f67 (Eng.bodyOf Go.Proofs.Try.f67) [Value.slice
 a aL aC,
 Value.slice b bL bC] w K := by kernel_rfl
theorem vc67 (a : Option Addr) (aL : Nat) (aC : Nat) (b : Option Addr) (bL : Nat) (bC : Nat) (w : World) (K : Value → World → Prop) (h : vcP67 a aL aC b bL bC w K) :
 Calls Go.Proofs.Try.prog 67 #[Value.slice a aL aC, Value.slice b bL bC] w (fun e w' => ∃ v, e = .returned v ∧ K v w') :=
 Eng.vc_of [] 1 [] Go.Proofs.Try.mixes Go.Proofs.Try.func67 (by kernel_rfl) (by kernel_rfl) (vcE67 a aL aC b bL bC w K) h

-- 1532 ms
/- byre/byrelaw09.same -/
def vcP53 (c : Option Addr) (w' : Option Addr) (w : World) (K : Value → World → Prop) : Prop :=
 ∀ (w1 : World),
 w1 = World.drew w →
 Wif (isP w')
 (∃ (x : Int),
 rd w1 (pb w') (po w') = some (Value.int IntKind.i64 x) ∧
 Calls Proofs.Try.prog 45 #[Value.pointer c] w1 fun (e : Ending) (w'_1 : World) =>
 ∃ (n : Int),
 e = Ending.returned (Value.int IntKind.i64 n) ∧
 (rd w'_1 (pb w') (po w') = some (Value.int IntKind.i64 x) ∧ True) ∧
 Wif (n != x) (K (Value.bool false) w'_1)
 (Calls Proofs.Try.prog 39 #[Value.pointer c] w'_1 fun (e : Ending) (w'_2 : World) =>
 ∃ (a : Option Addr),
 ∃ (l : Nat),
 ∃ (c_1 : Nat),
 e = Ending.returned (Value.slice a l c_1) ∧
 Calls Proofs.Try.prog 68 #[Value.pointer w', Value.bool false] w'_2 fun (e : Ending) (w'_3 : World) =>
 ∃ (a_1 : Option Addr),
 ∃ (l_1 : Nat),
 ∃ (c_2 : Nat),
 e = Ending.returned (Value.slice a_1 l_1 c_2) ∧
 Calls Proofs.Try.prog 67 #[Value.slice a l c_1, Value.slice a_1 l_1 c_2] w'_3 fun (e : Ending) (w'_4 : World) =>
 ∃ (b : Bool),
 e = Ending.returned (Value.bool b) ∧
 Wif (!b) (K (Value.bool false) w'_4)
 (Calls Proofs.Try.prog 44 #[Value.pointer c] w'_4 fun (e : Ending) (w'_5 : World) =>
 ∃ (a : Option Addr),
 ∃ (l : Nat),
 ∃ (c_3 : Nat),
 e = Ending.returned (Value.slice a l c_3) ∧
 Calls Proofs.Try.prog 68 #[Value.pointer w', Value.bool true] w'_5 fun (e : Ending) (w'_6 : World) =>
 ∃ (a_2 : Option Addr),
 ∃ (l_2 : Nat),
 ∃ (c_4 : Nat),
 e = Ending.returned (Value.slice a_2 l_2 c_4) ∧
 Calls Proofs.Try.prog 67 #[Value.slice a l c_3, Value.slice a_2 l_2 c_4] w'_6 fun (e : Ending) (w'_7 : World) =>
 ∃ (b : Bool),
 e = Ending.returned (Value.bool b) ∧
 Wif (!b) (K (Value.bool false) w'_7)
 (Wif (isP w')
 (∃ (x : Option Addr),
 ∃ (x_1 : Nat),
 ∃ (x_2 : Nat),
 rd w'_7 (pb w') (po w' + 2) = some (Value.slice x x_1 x_2) ∧
 ∃ (I : Bool → Int → World → Nat → Prop),
 (∃ (n : Nat), I false 0 w'_7 n) ∧
 ∀ (b : Bool) (n : Int) (w'_8 : World) (n_1 : Nat),
 I b n w'_8 n_1 →
 Wif (decide (n < (↑x_1 : Int)))
 (Wif (isP w')
 (∃ (x : Option Addr),
 ∃ (x_3 : Nat),
 ∃ (x_4 : Nat),
 rd w'_8 (pb w') (po w' + 2) = some (Value.slice x x_3 x_4) ∧
 Wif (isP x)
 (Wif (inB n x_3)
 (∃ (x_5 : Int),
 rd w'_8 (pb x) (po x + Int.toNat n * 2) = some (Value.int IntKind.i64 x_5) ∧
 Calls Proofs.Try.prog 40 #[Value.pointer c, Value.int IntKind.i64 x_5] w'_8
 fun (e : Ending) (w'_9 : World) =>
 ∃ (p : Option Addr),
 ∃ (n_2 : Int),
 e =
 Ending.returned
 (Value.tuple #[Value.pointer p, Value.int IntKind.i64 n_2]) ∧
 Wif (isP w')
 (∃ (x : Option Addr),
 ∃ (x_6 : Nat),
 ∃ (x_7 : Nat),
 rd w'_9 (pb w') (po w' + 2) = some (Value.slice x x_6 x_7) ∧
 Wif (isP x)
 (Wif (inB n x_6)
 (∃ (x_8 : Option Addr),
 rd w'_9 (pb x) (po x + Int.toNat n * 2 + 1) =
 some (Value.pointer x_8) ∧
 ∀ (w1 : World),
 w1 = World.drew w'_9 →
 gIf (isP x_8) ((n_2 != 0 || Option.isNone p) = false)
 (∃ (x : Int),
 ((n_2 != 0 || Option.isNone p) = false →
 rd w1 (pb x_8) (po x_8 + 1) =
 some (Value.int IntKind.i64 x)) ∧
 Wif (n_2 != 0 || Option.isNone p)
 (((n_2 != 0 || Option.isNone p) = false →
 rd w1 (pb x_8) (po x_8 + 1) =
 some (Value.int IntKind.i64 x) ∧
 True) ∧
 K (Value.bool false) w1)
 (Calls Proofs.Try.prog 23 #[Value.pointer p]
 w1 fun (e : Ending) (w' : World) =>
 ∃ (n_3 : Int),
 e =
 Ending.returned
 (Value.int IntKind.i64 n_3) ∧
 ((n_2 != 0 || Option.isNone p) = false →
 rd w' (pb x_8) (po x_8 + 1) =
 some (Value.int IntKind.i64 x) ∧
 True) ∧
 gIf (isP x_8) ((n_3 != x) = false)
 (∃ (x_9 : Int),
 ((n_3 != x) = false →
 rd w' (pb x_8) (po x_8 + 2) =
 some
 (Value.int IntKind.i64
 x_9)) ∧
 Wif (n_3 != x)
 (((n_3 != x) = false →
 rd w' (pb x_8)
 (po x_8 + 2) =
 some
 (Value.int
 IntKind.i64 x_9) ∧
 True) ∧
 K (Value.bool false) w')
 (Calls Proofs.Try.prog 24
 #[Value.pointer p] w'
 fun (e : Ending)
 (w' : World) =>
 ∃ (n_4 : Int),
 e =
 Ending.returned
 (Value.int
 IntKind.i64 n_4) ∧
 ((n_3 != x) = false →
 rd w' (pb x_8)
 (po x_8 + 2) =
 some
 (Value.int
 IntKind.i64
 x_9) ∧
 True) ∧
 gIf (isP x_8)
 ((n_4 != x_9) =
 false)
 (∃ (x :
 Option Addr),
 ∃ (x_10 : Nat),
 ∃ (x_11 : Nat),
 ((n_4 !=
 x_9) =
 false →
 rd w'
 (pb
 x_8)
 (po
 x_8 +
 4) =
 some
 (Value.slice
 x
 x_10
 x_11)) ∧
 Wif
 (n_4 !=
 x_9)
 (((n_4 !=
 x_9) =
 false →
 rd w'
 (pb
 x_8)
 (po
 x_8 +
 4) =
 some
 (Value.slice
 x
 x_10
 x_11) ∧
 True) ∧
 K
 (Value.bool
 false)
 w')
 (Calls
 Proofs.Try.prog
 18
 #[Value.pointer
 p]
 w'
 fun
 (e :
 Ending)
 (w' :
 World) =>
 ∃ (n_5 :
 Int),
 e =
 Ending.returned
 (Value.int
 IntKind.i64
 n_5) ∧
 ((n_4 !=
 x_9) =
 false →
 rd
 w'
 (pb
 x_8)
 (po
 x_8 +
 4) =
 some
 (Value.slice
 x
 x_10
 x_11) ∧
 True) ∧
 gIf
 (isP
 x_8)
 ((n_5 !=
 (↑x_10 :
 Int)) =
 false)
 (∃
 (x
 :
 Option
 Addr),
 ∃
 (x_12
 :
 Nat),
 ∃
 (x_13
 :
 Nat),
 ((n_5 !=
 (↑x_10 :
 Int)) =
 false →
 rd
 w'
 (pb
 x_8)
 (po
 x_8 +
 4) =
 some
 (Value.slice
 x
 x_12
 x_13)) ∧
 Wif
 (n_5 !=
 (↑x_10 :
 Int))
 (((n_5 !=
 (↑x_10 :
 Int)) =
 false →
 rd
 w'
 (pb
 x_8)
 (po
 x_8 +
 4) =
 some
 (Value.slice
 x
 x_12
 x_13) ∧
 True) ∧
 K
 (Value.bool
 false)
 w')
 (Calls
 Proofs.Try.prog
 22
 #[Value.pointer
 p]
 w'
 fun
 (e :
 Ending)
 (w' :
 World) =>
 ∃
 (a
 :
 Option
 Addr),
 ∃
 (l
 :
 Nat),
 ∃
 (c
 :
 Nat),
 e =
 Ending.returned
 (Value.slice
 a
 l
 c) ∧
 ((n_5 !=
 (↑x_10 :
 Int)) =
 false →
 rd
 w'
 (pb
 x_8)
 (po
 x_8 +
 4) =
 some
 (Value.slice
 x
 x_12
 x_13) ∧
 True) ∧
 Calls
 Proofs.Try.prog
 67
 #[Value.slice
 a
 l
 c,
 Value.slice
 x
 x_12
 x_13]
 w'
 fun
 (e :
 Ending)
 (w' :
 World) =>
 ∃
 (b_1
 :
 Bool),
 e =
 Ending.returned
 (Value.bool
 b_1) ∧
 Wif
 (!b_1)
 (K
 (Value.bool
 false)
 w')
 (∃
 (m
 :
 Nat),
 Nat.succ
 m ≤
 n_1 ∧
 I
 b
 (IntKind.wrap
 IntKind.i64
 (n +
 1))
 w'
 m))))))))))
 False)
 False)
 False)
 False)
 False)
 False)
 (K (Value.bool true) w'_8))
 False))))
 False
theorem vcE53 (c : Option
 Addr) (w' : Option
 Addr) (w : World) (K : Value → World → Prop) : vcP53 c w' w K = Eng.wBody Go.Proofs.Try.prog (Eng.handOf Go.Proofs.Try.prog [] 1) [] Go.Proofs.Try.f53 (Eng.bodyOf Go.Proofs.Try.f53) [Value.pointer
 c,
 Value.pointer w'] w K := by kernel_rfl
theorem vc53 (c : Option Addr) (w' : Option Addr) (w : World) (K : Value → World → Prop) (h : vcP53 c w' w K) :
 Calls Go.Proofs.Try.prog 53 #[Value.pointer c, Value.pointer w'] w (fun e w' => ∃ v, e = .returned v ∧ K v w') :=
 Eng.vc_of [] 1 [] Go.Proofs.Try.mixes Go.Proofs.Try.func53 (by kernel_rfl) (by kernel_rfl) (vcE53 c w' w K) h

-- 79935 ms

end Go.Proofs.Ytkancagfhbkhiaa
