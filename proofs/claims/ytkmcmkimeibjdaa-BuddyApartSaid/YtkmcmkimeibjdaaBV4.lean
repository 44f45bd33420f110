/-
  A part of a proof that a law of this seat returns true at every input. Conditions: those in each theorem.
-/
import Derived.Test.YtkmcmkimeibjdaaBV3
set_option linter.unusedSimpArgs false
set_option linter.unusedVariables false
set_option maxRecDepth 100000
namespace Go.Proofs.Ytkmcmkimeibjdaa
open Go Go.Eng
/- byre/byrelaw06.BuddyPowers$1 -/
def vcP28 (c0_0 : Option Addr) (w : World) (K : Value → World → Prop) : Prop :=
 ∀ (w' : World),
 w' = World.alloc w (Obj.cells #[Value.int IntKind.i64 0] 3) →
 Wif (isP c0_0)
 (∃ (x : Option Addr),
 rd w' (pb c0_0) (po c0_0) = some (Value.pointer x) ∧
 ∀ (w'_1 : World),
 w'_1 = World.alloc w' (Obj.cells #[Value.pointer x] 23) →
 Wif (isP c0_0)
 (∃ (x : Option Addr),
 rd w'_1 (pb c0_0) (po c0_0) = some (Value.pointer x) ∧
 ∀ (w' : World),
 w' = World.alloc w'_1 (Obj.cells #[Value.pointer x] 23) →
 ∃ (xss : List (List Value)),
 ∃ (R : Nat → Prop),
 ∃ (I : (Nat → Prop) → Nat → World → Prop),
 ∃ (X : Nat → World → Prop),
 (GivesV Proofs.Try.prog 54 [Value.pointer (some (Addr.mk (Array.size (World.heap w'_1)) 0 none))] xss R w' ∧
 (∀ (xs : List Value), List.Mem xs xss → List.length xs = 1 ∧ ∃ (v : Value), xs = [v]) ∧ ∀ (b : Nat), R b → Nat.succ b ≤ Array.size (World.heap w')) ∧
 (∀ (w1 : World), Kept none' w' w1 → Array.size (World.heap w1) = Array.size (World.heap w') + 2 → I (fun (x : Nat) => False) 0 w1) ∧
 (∀ (Y : Nat → Prop) (i : Nat) (W W' : World),
 I Y i W →
 Kept (recs (Array.size (World.heap w'))) W W' → I (fun (b : Nat) => Y b ∨ Array.size (World.heap W) ≤ b ∧ Nat.succ b ≤ Array.size (World.heap W')) i W') ∧
 (∀ (k : Nat) (W W' : World), X k W → Kept (recs (Array.size (World.heap w'))) W W' → X k W') ∧
 (∀ (Y : Nat → Prop) (i : Nat) (W : World),
 I Y i W →
 (∀ (b : Nat), Y b → Array.size (World.heap w') + 2 ≤ b) →
 Array.size (World.heap w') + 2 ≤ Array.size (World.heap W) →
 ∀ (v : Value),
 xss[i]? = some [v] →
 RecKept (Array.size (World.heap w')) W W ∧
 ∀ (w2 : World),
 Kept (fun (b : Nat) => b = Array.size (World.heap w') + 1) W w2 →
 Array.size (World.heap w2) = Array.size (World.heap W) →
 ∃ (x : Int),
 rd w2 (Array.size (World.heap w)) 0 = some (Value.int IntKind.i64 x) ∧
 wr w2 (Array.size (World.heap w)) 0 ∧
 ∀ (w'_2 : World),
 w'_2 = st w2 (Array.size (World.heap w)) 0 (Value.int IntKind.i64 (IntKind.wrap IntKind.i64 (x + 1))) →
 RecKept (Array.size (World.heap w')) w2 w'_2 ∧ KeptY (fun (b : Nat) => Y b ∨ R b) W w'_2 ∧ I Y (i + 1) w'_2) ∧
 (∀ (Y : Nat → Prop) (W : World),
 I Y (List.length xss) W →
 DefAt (Array.size (World.heap w')) W →
 ∃ (x : Int),
 rd W (Array.size (World.heap w)) 0 = some (Value.int IntKind.i64 x) ∧
 wr W (Array.size (World.heap w)) 0 ∧
 ∀ (w'_2 : World),
 w'_2 = st W (Array.size (World.heap w)) 0 (Value.int IntKind.i64 x) →
 DefsAt [Array.size (World.heap w')] w'_2 ∧
 ∀ (w2 : World),
 Kept (fun (b : Nat) => List.Mem b [Array.size (World.heap w')]) w'_2 w2 →
 Array.size (World.heap w2) = Array.size (World.heap w'_2) →
 ∃ (x : Int), rd w2 (Array.size (World.heap w)) 0 = some (Value.int IntKind.i64 x) ∧ K (Value.int IntKind.i64 x) w2) ∧
 (∀ (W : World),
 X 0 W →
 DefAt (Array.size (World.heap w')) W →
 DefsAt [Array.size (World.heap w')] W ∧
 ∀ (w2 : World),
 Kept (fun (b : Nat) => List.Mem b [Array.size (World.heap w')]) W w2 →
 Array.size (World.heap w2) = Array.size (World.heap W) →
 ∃ (x : Int), rd w2 (Array.size (World.heap w)) 0 = some (Value.int IntKind.i64 x) ∧ K (Value.int IntKind.i64 x) w2) ∧
 True)
 False)
 False
theorem vcE28 (c0_0 : Option
 Addr) (w : World) (K : Value → World → Prop) : vcP28 c0_0 w K = Eng.wBody Go.Proofs.Try.prog (Eng.handOf Go.Proofs.Try.prog [44,
 27] 1) [] Go.Proofs.Try.f28 (Eng.bodyOf Go.Proofs.Try.f28) [Value.pointer c0_0] w K := by kernel_rfl
theorem vc28 (c0_0 : Option Addr) (w : World) (K : Value → World → Prop) (h : vcP28 c0_0 w K) :
 Calls Go.Proofs.Try.prog 28 #[Value.pointer c0_0] w (fun e w' => ∃ v, e = .returned v ∧ K v w') :=
 Eng.vc_of [44, 27] 1 [] Go.Proofs.Try.mixes Go.Proofs.Try.func28 (by kernel_rfl) (by kernel_rfl) (vcE28 c0_0 w K) h

-- 514 ms
/- byre/byrelaw06.BuddyPowers -/
def vcP7 (n : Int) (orders : Option Addr) (ordersL : Nat) (ordersC : Nat) (w : World) (K : Value → World → Prop) : Prop :=
 Calls Proofs.Try.prog 13 #[Value.int IntKind.i64 n] w fun (e : Ending) (w' : World) =>
 ∃ (p : Option Addr),
 ∃ (n_1 : Int),
 e = Ending.returned (Value.tuple #[Value.pointer p, Value.int IntKind.i64 n_1]) ∧
 ∀ (w'_1 : World),
 w'_1 = World.alloc w' (Obj.cells #[Value.pointer none] 23) →
 wr w'_1 (Array.size (World.heap w')) 0 ∧
 ∀ (w'_2 : World),
 w'_2 = st w'_1 (Array.size (World.heap w')) 0 (Value.pointer p) →
 ∃ (x : Option Addr),
 ((n_1 != 0) = false → rd w'_2 (Array.size (World.heap w')) 0 = some (Value.pointer x)) ∧
 Wif (n_1 != 0 || Option.isNone x || decide ((↑ordersL : Int) > 100))
 (Calls Proofs.Try.prog 14 #[] w'_2 fun (e : Ending) (w' : World) => ∃ (b : Bool), e = Ending.returned (Value.bool b) ∧ K (Value.bool b) w')
 (∃ (I : Int → Int → World → Nat → Prop),
 (∃ (n_2 : Nat), I 0 n w'_2 n_2) ∧
 ∀ (n n_2 : Int) (w'_3 : World) (n_3 : Nat),
 I n n_2 w'_3 n_3 →
 Wif (decide (n_2 > 0)) (∃ (m : Nat), Nat.succ m ≤ n_3 ∧ I (IntKind.wrap IntKind.i64 (n + Int.tmod n_2 2)) (IntKind.wrap IntKind.i64 (Int.tdiv n_2 2)) w'_3 m)
 (Calls Proofs.Try.prog 28 #[Value.pointer (some (Addr.mk (Array.size (World.heap w')) 0 none))] w'_3 fun (e : Ending) (w'_4 : World) =>
 ∃ (n_4 : Int),
 e = Ending.returned (Value.int IntKind.i64 n_4) ∧
 Wif (n_4 != n) (K (Value.bool false) w'_4)
 (∃ (I : Option Addr → Nat → Nat → Int → World → Nat → Prop),
 (∃ (n : Nat), I none 0 0 0 w'_4 n) ∧
 ∀ (a : Option Addr) (l c : Nat) (n_5 : Int) (w'_5 : World) (n_6 : Nat),
 I a l c n_5 w'_5 n_6 →
 Wif (decide (n_5 < (↑ordersL : Int)))
 (∀ (w1 : World),
 w1 = World.drew w'_5 →
 ∃ (x : Option Addr),
 rd w1 (Array.size (World.heap w')) 0 = some (Value.pointer x) ∧
 Wif (isP orders)
 (Wif (inB n_5 ordersL)
 (∃ (x_1 : Int),
 rd w1 (pb orders) (po orders + Int.toNat n_5 * 1) = some (Value.int IntKind.i64 x_1) ∧
 Calls Proofs.Try.prog 15 #[Value.pointer x, Value.int IntKind.i64 x_1, Value.bool (Int.tmod n_5 2 == 0)] w1
 fun (e : Ending) (w' : World) =>
 ∃ (n : Int),
 ∃ (n_7 : Int),
 e = Ending.returned (Value.tuple #[Value.int IntKind.i64 n, Value.int IntKind.i64 n_7]) ∧
 Wif (n_7 == 0)
 (Wif (isP orders)
 (Wif (inB n_5 ordersL)
 (∃ (x : Int),
 rd w' (pb orders) (po orders + Int.toNat n_5 * 1) = some (Value.int IntKind.i64 x) ∧
 ∀ (w'_6 : World),
 w'_6 = World.alloc w' (Obj.cells #[Value.int IntKind.i64 n, Value.int IntKind.i64 x] 58) →
 ∃ (a_1 : Option Addr),
 ∃ (l_1 : Nat),
 ∃ (c_1 : Nat),
 ∃ (w'_7 : World),
 appIs Proofs.Try.prog #[56, 56] 56 (Value.slice a l c)
 (Value.slice (some (Addr.mk (Array.size (World.heap w')) 0 none)) 1 1) (Value.slice a_1 l_1 c_1)
 w'_6 w'_7 ∧
 ∃ (m : Nat), Nat.succ m ≤ n_6 ∧ I a_1 l_1 c_1 (IntKind.wrap IntKind.i64 (n_5 + 1)) w'_7 m)
 False)
 False)
 (∃ (m : Nat), Nat.succ m ≤ n_6 ∧ I a l c (IntKind.wrap IntKind.i64 (n_5 + 1)) w' m))
 False)
 False)
 (∃ (I : Bool → Int → World → Nat → Prop),
 (∃ (n : Nat), I false 0 w'_5 n) ∧
 ∀ (b : Bool) (n_7 : Int) (w'_6 : World) (n_8 : Nat),
 I b n_7 w'_6 n_8 →
 Wif (decide (n_7 < (↑l : Int)))
 (∀ (w1 : World),
 w1 = World.drew w'_6 →
 ∃ (x : Option Addr),
 rd w1 (Array.size (World.heap w')) 0 = some (Value.pointer x) ∧
 Wif (isP a)
 (Wif (inB n_7 l)
 (∃ (x_1 : Int),
 rd w1 (pb a) (po a + Int.toNat n_7 * 2) = some (Value.int IntKind.i64 x_1) ∧
 Wif (isP a)
 (Wif (inB n_7 l)
 (∃ (x_2 : Int),
 rd w1 (pb a) (po a + Int.toNat n_7 * 2 + 1) = some (Value.int IntKind.i64 x_2) ∧
 Calls Proofs.Try.prog 16 #[Value.pointer x, Value.int IntKind.i64 x_1, Value.int IntKind.i64 x_2] w1
 fun (e : Ending) (w' : World) =>
 ∃ (n : Int),
 e = Ending.returned (Value.int IntKind.i64 n) ∧
 Wif (n != 0) (K (Value.bool false) w')
 (∃ (m : Nat), Nat.succ m ≤ n_8 ∧ I b (IntKind.wrap IntKind.i64 (n_7 + 1)) w' m))
 False)
 False)
 False)
 False)
 (Calls Proofs.Try.prog 28 #[Value.pointer (some (Addr.mk (Array.size (World.heap w')) 0 none))] w'_6 fun (e : Ending) (w' : World) =>
 ∃ (n_9 : Int),
 e = Ending.returned (Value.int IntKind.i64 n_9) ∧
 Wif (n_9 == n)
 (Calls Proofs.Try.prog 14 #[] w' fun (e : Ending) (w' : World) =>
 ∃ (b : Bool), e = Ending.returned (Value.bool b) ∧ K (Value.bool b) w')
 (K (Value.bool false) w'))))))
theorem vcE7 (n : Int) (orders : Option
 Addr) (ordersL : Nat) (ordersC : Nat) (w : World) (K : Value → World → Prop) : vcP7 n orders ordersL ordersC w K = Eng.wBody Go.Proofs.Try.prog (Eng.handOf Go.Proofs.Try.prog [44,
 27] 1) [] Go.Proofs.Try.f7 (Eng.bodyOf Go.Proofs.Try.f7) [Value.int IntKind.i64 n, Value.slice orders ordersL ordersC] w K := by kernel_rfl
theorem vc7 (n : Int) (orders : Option Addr) (ordersL : Nat) (ordersC : Nat) (w : World) (K : Value → World → Prop) (h : vcP7 n orders ordersL ordersC w K) :
 Calls Go.Proofs.Try.prog 7 #[Value.int IntKind.i64 n, Value.slice orders ordersL ordersC] w (fun e w' => ∃ v, e = .returned v ∧ K v w') :=
 Eng.vc_of [44, 27] 1 [] Go.Proofs.Try.mixes Go.Proofs.Try.func7 (by kernel_rfl) (by kernel_rfl) (vcE7 n orders ordersL ordersC w K) h

-- 31498 ms

end Go.Proofs.Ytkmcmkimeibjdaa
