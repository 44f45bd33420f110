/-
  A part of a proof that a law of this seat returns true at every input. Conditions: those in each theorem.
-/
import Derived.Test.YtkancagfhbkhiaaW3
set_option linter.unusedSimpArgs false
set_option linter.unusedVariables false
set_option maxRecDepth 100000
namespace Go.Proofs.Ytkancagfhbkhiaa
open Go Go.Eng
/- byre/byrelaw09.CachePlays -/
def vcP14 (size : Int) (l : Option Addr) (lL : Nat) (lC : Nat) (w : World) (K : Value → World → Prop) : Prop :=
 Wif (decide ((↑lL : Int) > 150)) (Calls Proofs.Try.prog 36 #[] w fun (e : Ending) (w' : World) => ∃ (b : Bool), e = Ending.returned (Value.bool b) ∧ K (Value.bool b) w')
 (Calls Proofs.Try.prog 35 #[Value.int IntKind.i64 size] w fun (e : Ending) (w' : World) =>
 ∃ (p : Option Addr),
 ∃ (n : Int),
 e = Ending.returned (Value.tuple #[Value.pointer p, Value.int IntKind.i64 n]) ∧
 Calls Proofs.Try.prog 46 #[Value.int IntKind.i64 size] w' fun (e : Ending) (w' : World) =>
 ∃ (p_1 : Option Addr),
 ∃ (n_1 : Int),
 e = Ending.returned (Value.tuple #[Value.pointer p_1, Value.int IntKind.i64 n_1]) ∧
 Wif (n != n_1) (K (Value.bool false) w')
 (Wif (n_1 != 0)
 (Wif (Option.isNone p) (Calls Proofs.Try.prog 36 #[] w' fun (e : Ending) (w' : World) => ∃ (b : Bool), e = Ending.returned (Value.bool b) ∧ K (Value.bool b) w')
 (K (Value.bool false) w'))
 (∃ (I : Bool → Option Addr → Nat → Nat → Option Addr → Nat → Nat → Int → World → Nat → Prop),
 (∃ (n : Nat), I false none 0 0 none 0 0 0 w' n) ∧
 ∀ (b : Bool) (a : Option Addr) (l_1 c : Nat) (a_1 : Option Addr) (l_2 c_1 : Nat) (n : Int) (w' : World) (n_2 : Nat),
 I b a l_1 c a_1 l_2 c_1 n w' n_2 →
 Wif (decide (n < (↑lL : Int)))
 (Wif (isP l)
 (Wif (inB n lL)
 (∃ (x : Int),
 ∃ (x_1 : Int),
 ∃ (x_2 : Int),
 ∃ (x_3 : Int),
 ∃ (x_4 : Bool),
 (rd w' (pb l) (po l + Int.toNat n * 5) = some (Value.int IntKind.i64 x) ∧
 rd w' (pb l) (po l + Int.toNat n * 5 + 1) = some (Value.int IntKind.i64 x_1) ∧
 rd w' (pb l) (po l + Int.toNat n * 5 + 2) = some (Value.int IntKind.i64 x_2) ∧
 rd w' (pb l) (po l + Int.toNat n * 5 + 3) = some (Value.int IntKind.u8 x_3) ∧
 rd w' (pb l) (po l + Int.toNat n * 5 + 4) = some (Value.bool x_4)) ∧
 ∀ (w'_1 : World),
 w'_1 =
 World.alloc w'
 (Obj.cells #[Value.int IntKind.i64 0, Value.int IntKind.i64 0, Value.int IntKind.i64 0, Value.int IntKind.u8 0, Value.bool false] 66) →
 (wr w'_1 (Array.size (World.heap w')) 0 ∧
 wr w'_1 (Array.size (World.heap w')) 1 ∧
 wr w'_1 (Array.size (World.heap w')) 2 ∧ wr w'_1 (Array.size (World.heap w')) 3 ∧ wr w'_1 (Array.size (World.heap w')) 4) ∧
 ∀ (w'_2 : World),
 w'_2 =
 st
 (st
 (st (st (st w'_1 (Array.size (World.heap w')) 0 (Value.int IntKind.i64 x)) (Array.size (World.heap w')) 1 (Value.int IntKind.i64 x_1))
 (Array.size (World.heap w')) 2 (Value.int IntKind.i64 x_2))
 (Array.size (World.heap w')) 3 (Value.int IntKind.u8 x_3))
 (Array.size (World.heap w')) 4 (Value.bool x_4) →
 ∃ (x : Int),
 rd w'_2 (Array.size (World.heap w')) 0 = some (Value.int IntKind.i64 x) ∧
 Wif (x == 0)
 (∀ (w1 : World),
 w1 = World.drew w'_2 →
 ∃ (x : Int),
 ∃ (x_5 : Int),
 ∃ (x_6 : Int),
 ∃ (x_7 : Int),
 ∃ (x_8 : Bool),
 (rd w1 (Array.size (World.heap w')) 0 = some (Value.int IntKind.i64 x) ∧
 rd w1 (Array.size (World.heap w')) 1 = some (Value.int IntKind.i64 x_5) ∧
 rd w1 (Array.size (World.heap w')) 2 = some (Value.int IntKind.i64 x_6) ∧
 rd w1 (Array.size (World.heap w')) 3 = some (Value.int IntKind.u8 x_7) ∧
 rd w1 (Array.size (World.heap w')) 4 = some (Value.bool x_8)) ∧
 ∃ (x_9 : Int),
 ∃ (x_10 : Int),
 ∃ (x_11 : Int),
 ∃ (x_12 : Int),
 ∃ (x_13 : Bool),
 (rd w1 (Array.size (World.heap w')) 0 = some (Value.int IntKind.i64 x_9) ∧
 rd w1 (Array.size (World.heap w')) 1 = some (Value.int IntKind.i64 x_10) ∧
 rd w1 (Array.size (World.heap w')) 2 = some (Value.int IntKind.i64 x_11) ∧
 rd w1 (Array.size (World.heap w')) 3 = some (Value.int IntKind.u8 x_12) ∧
 rd w1 (Array.size (World.heap w')) 4 = some (Value.bool x_13)) ∧
 Calls Proofs.Try.prog 47
 #[Value.agg
 #[Value.int IntKind.i64 x, Value.int IntKind.i64 x_5, Value.int IntKind.i64 x_6,
 Value.int IntKind.u8 x_7, Value.bool x_8]]
 w1 fun (e : Ending) (w'_3 : World) =>
 ∃ (a_2 : Option Addr),
 ∃ (l : Nat),
 ∃ (c_2 : Nat),
 e = Ending.returned (Value.slice a_2 l c_2) ∧
 ((rd w'_3 (Array.size (World.heap w')) 0 = some (Value.int IntKind.i64 x_9) ∧
 rd w'_3 (Array.size (World.heap w')) 1 = some (Value.int IntKind.i64 x_10) ∧
 rd w'_3 (Array.size (World.heap w')) 2 = some (Value.int IntKind.i64 x_11) ∧
 rd w'_3 (Array.size (World.heap w')) 3 = some (Value.int IntKind.u8 x_12) ∧
 rd w'_3 (Array.size (World.heap w')) 4 = some (Value.bool x_13)) ∧
 True) ∧
 Calls Proofs.Try.prog 47
 #[Value.agg
 #[Value.int IntKind.i64 x_9, Value.int IntKind.i64 x_10, Value.int IntKind.i64 x_11,
 Value.int IntKind.u8 x_12, Value.bool x_13]]
 w'_3 fun (e : Ending) (w'_4 : World) =>
 ∃ (a_3 : Option Addr),
 ∃ (l_3 : Nat),
 ∃ (c_3 : Nat),
 e = Ending.returned (Value.slice a_3 l_3 c_3) ∧
 ∀ (w1 : World),
 w1 = World.drew w'_4 →
 ∃ (x : Int),
 rd w1 (Array.size (World.heap w')) 1 = some (Value.int IntKind.i64 x) ∧
 ∃ (x_14 : Int),
 rd w1 (Array.size (World.heap w')) 1 = some (Value.int IntKind.i64 x_14) ∧
 Calls Proofs.Try.prog 37
 #[Value.pointer p, Value.int IntKind.i64 x, Value.slice a_2 l c_2] w1
 fun (e : Ending) (w'_5 : World) =>
 ∃ (n_3 : Int),
 e = Ending.returned (Value.int IntKind.i64 n_3) ∧
 (rd w'_5 (Array.size (World.heap w')) 1 =
 some (Value.int IntKind.i64 x_14) ∧
 True) ∧
 Calls Proofs.Try.prog 48
 #[Value.pointer p_1, Value.int IntKind.i64 x_14,
 Value.slice a_3 l_3 c_3]
 w'_5 fun (e : Ending) (w' : World) =>
 ∃ (n_4 : Int),
 e = Ending.returned (Value.int IntKind.i64 n_4) ∧
 Wif (n_3 != n_4) (K (Value.bool false) w')
 (∀ (w'_6 : World),
 w'_6 =
 World.alloc w'
 (Obj.cells #[Value.slice a_2 l c_2] 22) →
 ∃ (a_4 : Option Addr),
 ∃ (l : Nat),
 ∃ (c_4 : Nat),
 ∃ (w'_7 : World),
 appIs Proofs.Try.prog #[83, 83] 83
 (Value.slice a l_1 c)
 (Value.slice
 (some
 (Addr.mk
 (Array.size (World.heap w')) 0
 none))
 1 1)
 (Value.slice a_4 l c_4) w'_6 w'_7 ∧
 ∀ (w' : World),
 w' =
 World.alloc w'_7
 (Obj.cells
 #[Value.slice a_3 l_3 c_3] 22) →
 ∃ (a : Option Addr),
 ∃ (l_4 : Nat),
 ∃ (c : Nat),
 ∃ (w'_8 : World),
 appIs Proofs.Try.prog
 #[83, 83] 83
 (Value.slice a_1 l_2 c_1)
 (Value.slice
 (some
 (Addr.mk
 (Array.size
 (World.heap w'_7))
 0 none))
 1 1)
 (Value.slice a l_4 c) w'
 w'_8 ∧
 Calls Proofs.Try.prog 53
 #[Value.pointer p,
 Value.pointer p_1]
 w'_8
 fun (e : Ending)
 (w' : World) =>
 ∃ (b_1 : Bool),
 e =
 Ending.returned
 (Value.bool b_1) ∧
 Wif (!b_1)
 (K
 (Value.bool false)
 w')
 (∃ (m : Nat),
 Nat.succ m ≤ n_2 ∧
 I b a_4 l c_4 a
 l_4 c
 (IntKind.wrap
 IntKind.i64
 (n + 1))
 w' m)))
 (Wif (x == 1)
 (Calls Proofs.Try.prog 41 #[Value.pointer p] w'_2 fun (e : Ending) (w' : World) =>
 ∃ (n_3 : Int),
 ∃ (n_4 : Int),
 ∃ (n_5 : Int),
 e = Ending.returned (Value.tuple #[Value.int IntKind.i64 n_3, Value.int IntKind.i64 n_4, Value.int IntKind.i64 n_5]) ∧
 Calls Proofs.Try.prog 49 #[Value.pointer p_1] w' fun (e : Ending) (w' : World) =>
 ∃ (n_6 : Int),
 ∃ (n_7 : Int),
 ∃ (n_8 : Int),
 e =
 Ending.returned
 (Value.tuple #[Value.int IntKind.i64 n_6, Value.int IntKind.i64 n_7, Value.int IntKind.i64 n_8]) ∧
 Wif (n_3 != n_6 || n_4 != n_7 || n_5 != n_8) (K (Value.bool false) w')
 (Calls Proofs.Try.prog 53 #[Value.pointer p, Value.pointer p_1] w' fun (e : Ending) (w' : World) =>
 ∃ (b_1 : Bool),
 e = Ending.returned (Value.bool b_1) ∧
 Wif (!b_1) (K (Value.bool false) w')
 (∃ (m : Nat), Nat.succ m ≤ n_2 ∧ I b a l_1 c a_1 l_2 c_1 (IntKind.wrap IntKind.i64 (n + 1)) w' m)))
 (Wif (x == 2)
 (∀ (w1 : World),
 w1 = World.drew w'_2 →
 ∃ (x : Int),
 rd w1 (Array.size (World.heap w')) 1 = some (Value.int IntKind.i64 x) ∧
 ∃ (x_5 : Int),
 rd w1 (Array.size (World.heap w')) 2 = some (Value.int IntKind.i64 x_5) ∧
 ∃ (x_6 : Int),
 rd w1 (Array.size (World.heap w')) 1 = some (Value.int IntKind.i64 x_6) ∧
 ∃ (x_7 : Int),
 rd w1 (Array.size (World.heap w')) 2 = some (Value.int IntKind.i64 x_7) ∧
 Calls Proofs.Try.prog 38 #[Value.pointer p, Value.int IntKind.i64 x, Value.int IntKind.i64 x_5] w1
 fun (e : Ending) (w'_3 : World) =>
 ∃ (n_3 : Int),
 e = Ending.returned (Value.int IntKind.i64 n_3) ∧
 (rd w'_3 (Array.size (World.heap w')) 2 = some (Value.int IntKind.i64 x_7) ∧ True) ∧
 (rd w'_3 (Array.size (World.heap w')) 1 = some (Value.int IntKind.i64 x_6) ∧ True) ∧
 Calls Proofs.Try.prog 50 #[Value.pointer p_1, Value.int IntKind.i64 x_6, Value.int IntKind.i64 x_7]
 w'_3 fun (e : Ending) (w' : World) =>
 ∃ (n_4 : Int),
 e = Ending.returned (Value.int IntKind.i64 n_4) ∧
 Wif (n_3 != n_4) (K (Value.bool false) w')
 (Calls Proofs.Try.prog 53 #[Value.pointer p, Value.pointer p_1] w'
 fun (e : Ending) (w' : World) =>
 ∃ (b_1 : Bool),
 e = Ending.returned (Value.bool b_1) ∧
 Wif (!b_1) (K (Value.bool false) w')
 (∃ (m : Nat),
 Nat.succ m ≤ n_2 ∧
 I b a l_1 c a_1 l_2 c_1 (IntKind.wrap IntKind.i64 (n + 1)) w' m)))
 (Wif (x == 3)
 (∀ (w1 : World),
 w1 = World.drew w'_2 →
 ∃ (x : Int),
 rd w1 (Array.size (World.heap w')) 1 = some (Value.int IntKind.i64 x) ∧
 ∃ (x_5 : Int),
 rd w1 (Array.size (World.heap w')) 1 = some (Value.int IntKind.i64 x_5) ∧
 Calls Proofs.Try.prog 42 #[Value.pointer p, Value.int IntKind.i64 x] w1 fun (e : Ending) (w'_3 : World) =>
 ∃ (n_3 : Int),
 e = Ending.returned (Value.int IntKind.i64 n_3) ∧
 (rd w'_3 (Array.size (World.heap w')) 1 = some (Value.int IntKind.i64 x_5) ∧ True) ∧
 Calls Proofs.Try.prog 51 #[Value.pointer p_1, Value.int IntKind.i64 x_5] w'_3
 fun (e : Ending) (w' : World) =>
 ∃ (n_4 : Int),
 e = Ending.returned (Value.int IntKind.i64 n_4) ∧
 Wif (n_3 != n_4) (K (Value.bool false) w')
 (Calls Proofs.Try.prog 53 #[Value.pointer p, Value.pointer p_1] w' fun (e : Ending) (w' : World) =>
 ∃ (b_1 : Bool),
 e = Ending.returned (Value.bool b_1) ∧
 Wif (!b_1) (K (Value.bool false) w')
 (∃ (m : Nat),
 Nat.succ m ≤ n_2 ∧ I b a l_1 c a_1 l_2 c_1 (IntKind.wrap IntKind.i64 (n + 1)) w' m)))
 (Wif (x == 4)
 (Wif (x == 4)
 (∃ (x : Int),
 rd w'_2 (Array.size (World.heap w')) 1 = some (Value.int IntKind.i64 x) ∧
 Calls Proofs.Try.prog 40 #[Value.pointer p, Value.int IntKind.i64 x] w'_2 fun (e : Ending) (w'_3 : World) =>
 ∃ (p_2 : Option Addr),
 ∃ (n_3 : Int),
 e = Ending.returned (Value.tuple #[Value.pointer p_2, Value.int IntKind.i64 n_3]) ∧
 ∃ (x : Int),
 rd w'_3 (Array.size (World.heap w')) 1 = some (Value.int IntKind.i64 x) ∧
 Calls Proofs.Try.prog 52 #[Value.pointer p_1, Value.int IntKind.i64 x] w'_3
 fun (e : Ending) (w'_4 : World) =>
 ∃ (p_3 : Option Addr),
 e = Ending.returned (Value.pointer p_3) ∧
 Wif (!(n_3 == 0) == !Option.isNone p_3 || n_3 != 0 && n_3 != 7) (K (Value.bool false) w'_4)
 (∀ (w1 : World),
 w1 = World.drew w'_4 →
 ∃ (x : Int),
 ((!Option.isNone p_3) = true →
 rd w1 (Array.size (World.heap w')) 0 = some (Value.int IntKind.i64 x)) ∧
 ∃ (x_5 : Int),
 ((!Option.isNone p_3) = true ∧ (x == 4) = true →
 rd w1 (Array.size (World.heap w')) 2 = some (Value.int IntKind.i64 x_5)) ∧
 ∃ (x_6 : Int),
 ((!Option.isNone p_3) = true ∧ (x == 4) = true →
 rd w1 (Array.size (World.heap w')) 2 = some (Value.int IntKind.i64 x_6)) ∧
 ∃ (x_7 : Int),
 ((!Option.isNone p_3) = true ∧ (x == 4) = true →
 rd w1 (Array.size (World.heap w')) 2 = some (Value.int IntKind.i64 x_7)) ∧
 ∃ (x_8 : Int),
 ((!Option.isNone p_3) = true ∧ (x == 4) = true →
 rd w1 (Array.size (World.heap w')) 2 = some (Value.int IntKind.i64 x_8)) ∧
 Wif (!Option.isNone p_3)
 (Wif (x == 4)
 (Calls Proofs.Try.prog 25
 #[Value.pointer p_2, Value.int IntKind.i64 x_5,
 Value.int IntKind.u64 (IntKind.wrap IntKind.u64 x_6)]
 w1 fun (e : Ending) (w'_5 : World) =>
 ∃ (n_4 : Int),
 e = Ending.returned (Value.int IntKind.i64 n_4) ∧
 ((!Option.isNone p_3) = true ∧ (x == 4) = true →
 rd w'_5 (Array.size (World.heap w')) 2 =
 some (Value.int IntKind.i64 x_8) ∧
 True) ∧
 ((!Option.isNone p_3) = true ∧ (x == 4) = true →
 rd w'_5 (Array.size (World.heap w')) 2 =
 some (Value.int IntKind.i64 x_7) ∧
 True) ∧
 Calls Proofs.Try.prog 32
 #[Value.pointer p_3, Value.int IntKind.i64 x_7,
 Value.int IntKind.u64 (IntKind.wrap IntKind.u64 x_8)]
 w'_5 fun (e : Ending) (w'_6 : World) =>
 ∃ (n_5 : Int),
 e = Ending.returned (Value.int IntKind.i64 n_5) ∧
 ∃ (x : Int),
 ((n_4 != n_5) = false →
 rd w'_6 (Array.size (World.heap w')) 0 =
 some (Value.int IntKind.i64 x)) ∧
 ∃ (x_9 : Int),
 ((n_4 != n_5) = false ∧ (x == 5) = true →
 rd w'_6 (Array.size (World.heap w')) 2 =
 some (Value.int IntKind.i64 x_9)) ∧
 ∃ (x_10 : Int),
 ((n_4 != n_5) = false ∧ (x == 5) = true →
 rd w'_6 (Array.size (World.heap w')) 2 =
 some (Value.int IntKind.i64 x_10)) ∧
 Wif (n_4 != n_5)
 (((n_4 != n_5) = false ∧ (x == 5) = true →
 rd w'_6 (Array.size (World.heap w'))
 2 =
 some
 (Value.int IntKind.i64 x_10) ∧
 True) ∧
 K (Value.bool false) w'_6)
 (Wif (x == 5)
 (Calls Proofs.Try.prog 26
 #[Value.pointer p_2,
 Value.int IntKind.i64 x_9]
 w'_6
 fun (e : Ending) (w'_7 : World) =>
 ∃ (n_6 : Int),
 e =
 Ending.returned
 (Value.int IntKind.i64 n_6) ∧
 ((n_4 != n_5) = false ∧
 (x == 5) = true →
 rd w'_7
 (Array.size
 (World.heap w'))
 2 =
 some
 (Value.int IntKind.i64
 x_10) ∧
 True) ∧
 Calls Proofs.Try.prog 33
 #[Value.pointer p_3,
 Value.int IntKind.i64 x_10]
 w'_7
 fun (e : Ending)
 (w' : World) =>
 ∃ (n_7 : Int),
 e =
 Ending.returned
 (Value.int IntKind.i64
 n_7) ∧
 Wif (n_6 != n_7)
 (K (Value.bool false)
 w')
 (Calls Proofs.Try.prog
 53
 #[Value.pointer p,
 Value.pointer p_1]
 w'
 fun (e : Ending)
 (w' : World) =>
 ∃ (b_1 : Bool),
 e =
 Ending.returned
 (Value.bool
 b_1) ∧
 Wif (!b_1)
 (K
 (Value.bool
 false)
 w')
 (∃ (m : Nat),
 Nat.succ m ≤
 n_2 ∧
 I b a l_1 c
 a_1 l_2
 c_1
 (IntKind.wrap
 IntKind.i64
 (n + 1))
 w' m)))
 (((n_4 != n_5) = false ∧
 (x == 5) = true →
 rd w'_6 (Array.size (World.heap w'))
 2 =
 some
 (Value.int IntKind.i64 x_10) ∧
 True) ∧
 Calls Proofs.Try.prog 53
 #[Value.pointer p,
 Value.pointer p_1]
 w'_6
 fun (e : Ending) (w' : World) =>
 ∃ (b_1 : Bool),
 e =
 Ending.returned
 (Value.bool b_1) ∧
 Wif (!b_1)
 (K (Value.bool false) w')
 (∃ (m : Nat),
 Nat.succ m ≤ n_2 ∧
 I b a l_1 c a_1 l_2 c_1
 (IntKind.wrap
 IntKind.i64 (n + 1))
 w' m))))
 (((!Option.isNone p_3) = true ∧ (x == 4) = true →
 rd w1 (Array.size (World.heap w')) 2 =
 some (Value.int IntKind.i64 x_8) ∧
 True) ∧
 ((!Option.isNone p_3) = true ∧ (x == 4) = true →
 rd w1 (Array.size (World.heap w')) 2 =
 some (Value.int IntKind.i64 x_7) ∧
 True) ∧
 ∃ (x : Int),
 rd w1 (Array.size (World.heap w')) 0 =
 some (Value.int IntKind.i64 x) ∧
 ∃ (x_9 : Int),
 ((x == 5) = true →
 rd w1 (Array.size (World.heap w')) 2 =
 some (Value.int IntKind.i64 x_9)) ∧
 ∃ (x_10 : Int),
 ((x == 5) = true →
 rd w1 (Array.size (World.heap w')) 2 =
 some (Value.int IntKind.i64 x_10)) ∧
 Wif (x == 5)
 (Calls Proofs.Try.prog 26
 #[Value.pointer p_2, Value.int IntKind.i64 x_9] w1
 fun (e : Ending) (w'_5 : World) =>
 ∃ (n_4 : Int),
 e = Ending.returned (Value.int IntKind.i64 n_4) ∧
 ((x == 5) = true →
 rd w'_5 (Array.size (World.heap w')) 2 =
 some (Value.int IntKind.i64 x_10) ∧
 True) ∧
 Calls Proofs.Try.prog 33
 #[Value.pointer p_3,
 Value.int IntKind.i64 x_10]
 w'_5 fun (e : Ending) (w' : World) =>
 ∃ (n_5 : Int),
 e =
 Ending.returned
 (Value.int IntKind.i64 n_5) ∧
 Wif (n_4 != n_5)
 (K (Value.bool false) w')
 (Calls Proofs.Try.prog 53
 #[Value.pointer p,
 Value.pointer p_1]
 w' fun (e : Ending) (w' : World) =>
 ∃ (b_1 : Bool),
 e =
 Ending.returned
 (Value.bool b_1) ∧
 Wif (!b_1)
 (K (Value.bool false) w')
 (∃ (m : Nat),
 Nat.succ m ≤ n_2 ∧
 I b a l_1 c a_1 l_2 c_1
 (IntKind.wrap
 IntKind.i64 (n + 1))
 w' m)))
 (((x == 5) = true →
 rd w1 (Array.size (World.heap w')) 2 =
 some (Value.int IntKind.i64 x_10) ∧
 True) ∧
 Calls Proofs.Try.prog 53
 #[Value.pointer p, Value.pointer p_1] w1
 fun (e : Ending) (w' : World) =>
 ∃ (b_1 : Bool),
 e = Ending.returned (Value.bool b_1) ∧
 Wif (!b_1) (K (Value.bool false) w')
 (∃ (m : Nat),
 Nat.succ m ≤ n_2 ∧
 I b a l_1 c a_1 l_2 c_1
 (IntKind.wrap IntKind.i64 (n + 1)) w'
 m))))
 (((!Option.isNone p_3) = true ∧ (x == 4) = true →
 rd w1 (Array.size (World.heap w')) 2 =
 some (Value.int IntKind.i64 x_8) ∧
 True) ∧
 ((!Option.isNone p_3) = true ∧ (x == 4) = true →
 rd w1 (Array.size (World.heap w')) 2 =
 some (Value.int IntKind.i64 x_7) ∧
 True) ∧
 Calls Proofs.Try.prog 53 #[Value.pointer p, Value.pointer p_1] w1
 fun (e : Ending) (w' : World) =>
 ∃ (b_1 : Bool),
 e = Ending.returned (Value.bool b_1) ∧
 Wif (!b_1) (K (Value.bool false) w')
 (∃ (m : Nat),
 Nat.succ m ≤ n_2 ∧
 I b a l_1 c a_1 l_2 c_1 (IntKind.wrap IntKind.i64 (n + 1))
 w' m))))
 (Calls Proofs.Try.prog 53 #[Value.pointer p, Value.pointer p_1] w'_2 fun (e : Ending) (w' : World) =>
 ∃ (b_1 : Bool),
 e = Ending.returned (Value.bool b_1) ∧
 Wif (!b_1) (K (Value.bool false) w')
 (∃ (m : Nat), Nat.succ m ≤ n_2 ∧ I b a l_1 c a_1 l_2 c_1 (IntKind.wrap IntKind.i64 (n + 1)) w' m)))
 (Wif (x == 5)
 (∃ (x : Int),
 rd w'_2 (Array.size (World.heap w')) 1 = some (Value.int IntKind.i64 x) ∧
 Calls Proofs.Try.prog 40 #[Value.pointer p, Value.int IntKind.i64 x] w'_2 fun (e : Ending) (w'_3 : World) =>
 ∃ (p_2 : Option Addr),
 ∃ (n_3 : Int),
 e = Ending.returned (Value.tuple #[Value.pointer p_2, Value.int IntKind.i64 n_3]) ∧
 ∃ (x : Int),
 rd w'_3 (Array.size (World.heap w')) 1 = some (Value.int IntKind.i64 x) ∧
 Calls Proofs.Try.prog 52 #[Value.pointer p_1, Value.int IntKind.i64 x] w'_3
 fun (e : Ending) (w'_4 : World) =>
 ∃ (p_3 : Option Addr),
 e = Ending.returned (Value.pointer p_3) ∧
 Wif (!(n_3 == 0) == !Option.isNone p_3 || n_3 != 0 && n_3 != 7) (K (Value.bool false) w'_4)
 (∀ (w1 : World),
 w1 = World.drew w'_4 →
 ∃ (x : Int),
 ((!Option.isNone p_3) = true →
 rd w1 (Array.size (World.heap w')) 0 = some (Value.int IntKind.i64 x)) ∧
 ∃ (x_5 : Int),
 ((!Option.isNone p_3) = true ∧ (x == 4) = true →
 rd w1 (Array.size (World.heap w')) 2 = some (Value.int IntKind.i64 x_5)) ∧
 ∃ (x_6 : Int),
 ((!Option.isNone p_3) = true ∧ (x == 4) = true →
 rd w1 (Array.size (World.heap w')) 2 = some (Value.int IntKind.i64 x_6)) ∧
 ∃ (x_7 : Int),
 ((!Option.isNone p_3) = true ∧ (x == 4) = true →
 rd w1 (Array.size (World.heap w')) 2 = some (Value.int IntKind.i64 x_7)) ∧
 ∃ (x_8 : Int),
 ((!Option.isNone p_3) = true ∧ (x == 4) = true →
 rd w1 (Array.size (World.heap w')) 2 = some (Value.int IntKind.i64 x_8)) ∧
 Wif (!Option.isNone p_3)
 (Wif (x == 4)
 (Calls Proofs.Try.prog 25
 #[Value.pointer p_2, Value.int IntKind.i64 x_5,
 Value.int IntKind.u64 (IntKind.wrap IntKind.u64 x_6)]
 w1 fun (e : Ending) (w'_5 : World) =>
 ∃ (n_4 : Int),
 e = Ending.returned (Value.int IntKind.i64 n_4) ∧
 ((!Option.isNone p_3) = true ∧ (x == 4) = true →
 rd w'_5 (Array.size (World.heap w')) 2 =
 some (Value.int IntKind.i64 x_8) ∧
 True) ∧
 ((!Option.isNone p_3) = true ∧ (x == 4) = true →
 rd w'_5 (Array.size (World.heap w')) 2 =
 some (Value.int IntKind.i64 x_7) ∧
 True) ∧
 Calls Proofs.Try.prog 32
 #[Value.pointer p_3, Value.int IntKind.i64 x_7,
 Value.int IntKind.u64 (IntKind.wrap IntKind.u64 x_8)]
 w'_5 fun (e : Ending) (w'_6 : World) =>
 ∃ (n_5 : Int),
 e = Ending.returned (Value.int IntKind.i64 n_5) ∧
 ∃ (x : Int),
 ((n_4 != n_5) = false →
 rd w'_6 (Array.size (World.heap w')) 0 =
 some (Value.int IntKind.i64 x)) ∧
 ∃ (x_9 : Int),
 ((n_4 != n_5) = false ∧ (x == 5) = true →
 rd w'_6 (Array.size (World.heap w')) 2 =
 some (Value.int IntKind.i64 x_9)) ∧
 ∃ (x_10 : Int),
 ((n_4 != n_5) = false ∧ (x == 5) = true →
 rd w'_6 (Array.size (World.heap w')) 2 =
 some (Value.int IntKind.i64 x_10)) ∧
 Wif (n_4 != n_5)
 (((n_4 != n_5) = false ∧ (x == 5) = true →
 rd w'_6 (Array.size (World.heap w'))
 2 =
 some
 (Value.int IntKind.i64 x_10) ∧
 True) ∧
 K (Value.bool false) w'_6)
 (Wif (x == 5)
 (Calls Proofs.Try.prog 26
 #[Value.pointer p_2,
 Value.int IntKind.i64 x_9]
 w'_6
 fun (e : Ending) (w'_7 : World) =>
 ∃ (n_6 : Int),
 e =
 Ending.returned
 (Value.int IntKind.i64 n_6) ∧
 ((n_4 != n_5) = false ∧
 (x == 5) = true →
 rd w'_7
 (Array.size
 (World.heap w'))
 2 =
 some
 (Value.int IntKind.i64
 x_10) ∧
 True) ∧
 Calls Proofs.Try.prog 33
 #[Value.pointer p_3,
 Value.int IntKind.i64 x_10]
 w'_7
 fun (e : Ending)
 (w' : World) =>
 ∃ (n_7 : Int),
 e =
 Ending.returned
 (Value.int IntKind.i64
 n_7) ∧
 Wif (n_6 != n_7)
 (K (Value.bool false)
 w')
 (Calls Proofs.Try.prog
 53
 #[Value.pointer p,
 Value.pointer p_1]
 w'
 fun (e : Ending)
 (w' : World) =>
 ∃ (b_1 : Bool),
 e =
 Ending.returned
 (Value.bool
 b_1) ∧
 Wif (!b_1)
 (K
 (Value.bool
 false)
 w')
 (∃ (m : Nat),
 Nat.succ m ≤
 n_2 ∧
 I b a l_1 c
 a_1 l_2
 c_1
 (IntKind.wrap
 IntKind.i64
 (n + 1))
 w' m)))
 (((n_4 != n_5) = false ∧
 (x == 5) = true →
 rd w'_6 (Array.size (World.heap w'))
 2 =
 some
 (Value.int IntKind.i64 x_10) ∧
 True) ∧
 Calls Proofs.Try.prog 53
 #[Value.pointer p,
 Value.pointer p_1]
 w'_6
 fun (e : Ending) (w' : World) =>
 ∃ (b_1 : Bool),
 e =
 Ending.returned
 (Value.bool b_1) ∧
 Wif (!b_1)
 (K (Value.bool false) w')
 (∃ (m : Nat),
 Nat.succ m ≤ n_2 ∧
 I b a l_1 c a_1 l_2 c_1
 (IntKind.wrap
 IntKind.i64 (n + 1))
 w' m))))
 (((!Option.isNone p_3) = true ∧ (x == 4) = true →
 rd w1 (Array.size (World.heap w')) 2 =
 some (Value.int IntKind.i64 x_8) ∧
 True) ∧
 ((!Option.isNone p_3) = true ∧ (x == 4) = true →
 rd w1 (Array.size (World.heap w')) 2 =
 some (Value.int IntKind.i64 x_7) ∧
 True) ∧
 ∃ (x : Int),
 rd w1 (Array.size (World.heap w')) 0 =
 some (Value.int IntKind.i64 x) ∧
 ∃ (x_9 : Int),
 ((x == 5) = true →
 rd w1 (Array.size (World.heap w')) 2 =
 some (Value.int IntKind.i64 x_9)) ∧
 ∃ (x_10 : Int),
 ((x == 5) = true →
 rd w1 (Array.size (World.heap w')) 2 =
 some (Value.int IntKind.i64 x_10)) ∧
 Wif (x == 5)
 (Calls Proofs.Try.prog 26
 #[Value.pointer p_2, Value.int IntKind.i64 x_9] w1
 fun (e : Ending) (w'_5 : World) =>
 ∃ (n_4 : Int),
 e = Ending.returned (Value.int IntKind.i64 n_4) ∧
 ((x == 5) = true →
 rd w'_5 (Array.size (World.heap w')) 2 =
 some (Value.int IntKind.i64 x_10) ∧
 True) ∧
 Calls Proofs.Try.prog 33
 #[Value.pointer p_3,
 Value.int IntKind.i64 x_10]
 w'_5 fun (e : Ending) (w' : World) =>
 ∃ (n_5 : Int),
 e =
 Ending.returned
 (Value.int IntKind.i64 n_5) ∧
 Wif (n_4 != n_5)
 (K (Value.bool false) w')
 (Calls Proofs.Try.prog 53
 #[Value.pointer p,
 Value.pointer p_1]
 w' fun (e : Ending) (w' : World) =>
 ∃ (b_1 : Bool),
 e =
 Ending.returned
 (Value.bool b_1) ∧
 Wif (!b_1)
 (K (Value.bool false) w')
 (∃ (m : Nat),
 Nat.succ m ≤ n_2 ∧
 I b a l_1 c a_1 l_2 c_1
 (IntKind.wrap
 IntKind.i64 (n + 1))
 w' m)))
 (((x == 5) = true →
 rd w1 (Array.size (World.heap w')) 2 =
 some (Value.int IntKind.i64 x_10) ∧
 True) ∧
 Calls Proofs.Try.prog 53
 #[Value.pointer p, Value.pointer p_1] w1
 fun (e : Ending) (w' : World) =>
 ∃ (b_1 : Bool),
 e = Ending.returned (Value.bool b_1) ∧
 Wif (!b_1) (K (Value.bool false) w')
 (∃ (m : Nat),
 Nat.succ m ≤ n_2 ∧
 I b a l_1 c a_1 l_2 c_1
 (IntKind.wrap IntKind.i64 (n + 1)) w'
 m))))
 (((!Option.isNone p_3) = true ∧ (x == 4) = true →
 rd w1 (Array.size (World.heap w')) 2 =
 some (Value.int IntKind.i64 x_8) ∧
 True) ∧
 ((!Option.isNone p_3) = true ∧ (x == 4) = true →
 rd w1 (Array.size (World.heap w')) 2 =
 some (Value.int IntKind.i64 x_7) ∧
 True) ∧
 Calls Proofs.Try.prog 53 #[Value.pointer p, Value.pointer p_1] w1
 fun (e : Ending) (w' : World) =>
 ∃ (b_1 : Bool),
 e = Ending.returned (Value.bool b_1) ∧
 Wif (!b_1) (K (Value.bool false) w')
 (∃ (m : Nat),
 Nat.succ m ≤ n_2 ∧
 I b a l_1 c a_1 l_2 c_1 (IntKind.wrap IntKind.i64 (n + 1))
 w' m))))
 (Calls Proofs.Try.prog 53 #[Value.pointer p, Value.pointer p_1] w'_2 fun (e : Ending) (w' : World) =>
 ∃ (b_1 : Bool),
 e = Ending.returned (Value.bool b_1) ∧
 Wif (!b_1) (K (Value.bool false) w')
 (∃ (m : Nat), Nat.succ m ≤ n_2 ∧ I b a l_1 c a_1 l_2 c_1 (IntKind.wrap IntKind.i64 (n + 1)) w' m))))))))
 False)
 False)
 (∃ (I : Bool → Int → World → Nat → Prop),
 (∃ (n : Nat), I b 0 w' n) ∧
 ∀ (b : Bool) (n : Int) (w' : World) (n_3 : Nat),
 I b n w' n_3 →
 Wif (decide (n < (↑l_1 : Int)))
 (∀ (w1 : World),
 w1 = World.drew w' →
 Wif (isP a)
 (Wif (inB n l_1)
 (∃ (x : Option Addr),
 ∃ (x_1 : Nat),
 ∃ (x_2 : Nat),
 rd w1 (pb a) (po a + Int.toNat n * 1) = some (Value.slice x x_1 x_2) ∧
 ∃ (x_3 : ByteArray),
 cnvS Proofs.Try.prog 22 9 (Value.slice x x_1 x_2) x_3 w1 ∧
 Wif (isP a_1)
 (Wif (inB n l_2)
 (∃ (x : Option Addr),
 ∃ (x_4 : Nat),
 ∃ (x_5 : Nat),
 rd w1 (pb a_1) (po a_1 + Int.toNat n * 1) = some (Value.slice x x_4 x_5) ∧
 ∃ (x_6 : ByteArray),
 cnvS Proofs.Try.prog 22 9 (Value.slice x x_4 x_5) x_6 w1 ∧
 Wif (!ByteArray.toList x_3 == ByteArray.toList x_6) (K (Value.bool false) w1)
 (∃ (m : Nat), Nat.succ m ≤ n_3 ∧ I b (IntKind.wrap IntKind.i64 (n + 1)) w1 m))
 False)
 False)
 False)
 False)
 (Calls Proofs.Try.prog 36 #[] w' fun (e : Ending) (w' : World) => ∃ (b : Bool), e = Ending.returned (Value.bool b) ∧ K (Value.bool b) w')))))
theorem vcE14 (size : Int) (l : Option
 Addr) (lL : Nat) (lC : Nat) (w : World) (K : Value → World → Prop) : vcP14 size l lL lC w K = Eng.wBody Go.Proofs.Try.prog (Eng.handOf Go.Proofs.Try.prog [] 1) [] Go.Proofs.Try.f14 (Eng.bodyOf Go.Proofs.Try.f14) [Value.int
 IntKind.i64 size,
 Value.slice l lL lC] w K := by kernel_rfl
theorem vc14 (size : Int) (l : Option Addr) (lL : Nat) (lC : Nat) (w : World) (K : Value → World → Prop) (h : vcP14 size l lL lC w K) :
 Calls Go.Proofs.Try.prog 14 #[Value.int IntKind.i64 size, Value.slice l lL lC] w (fun e w' => ∃ v, e = .returned v ∧ K v w') :=
 Eng.vc_of [] 1 [] Go.Proofs.Try.mixes Go.Proofs.Try.func14 (by kernel_rfl) (by kernel_rfl) (vcE14 size l lL lC w K) h

-- 672296 ms

end Go.Proofs.Ytkancagfhbkhiaa
