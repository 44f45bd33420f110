/-
  A part of a proof that a law of this seat returns true at every input. Conditions: those in each theorem.
-/
import Derived.Test.YtkmcmkimeibjdaaBR1
set_option linter.unusedSimpArgs false
set_option linter.unusedVariables false
set_option maxRecDepth 100000
namespace Go.Proofs.Ytkmcmkimeibjdaa
open Go Go.Eng
/- byre/byrelaw07.two -/
def vcP49 (w : World) (K : Value → World → Prop) : Prop :=
 ∀ (w' : World),
 w' = World.alloc w (Obj.cells (List.toArray (List.replicate 94 (Value.int IntKind.i64 0))) 41) →
 ∀ (w'_1 : World),
 w'_1 = World.alloc w' (Obj.cells (List.toArray (List.replicate 94 (Value.int IntKind.i64 0))) 41) →
 wrAll w'_1 (Array.size (World.heap w')) 0
 ([Value.int IntKind.i64 2, Value.int IntKind.i64 1] ++ (List.replicate 89 (Value.int IntKind.i64 0) ++ [Value.int IntKind.i64 1, Value.int IntKind.i64 2, Value.int IntKind.i64 3])) ∧
 ∀ (w'_2 : World),
 w'_2 =
 stAll w'_1 (Array.size (World.heap w')) 0
 ([Value.int IntKind.i64 2, Value.int IntKind.i64 1] ++
 (List.replicate 89 (Value.int IntKind.i64 0) ++ [Value.int IntKind.i64 1, Value.int IntKind.i64 2, Value.int IntKind.i64 3])) →
 wr w'_2 (Array.size (World.heap w')) 18 ∧
 ∀ (w'_3 : World),
 w'_3 = st w'_2 (Array.size (World.heap w')) 18 (Value.int IntKind.i64 4) →
 wr w'_3 (Array.size (World.heap w')) 19 ∧
 ∀ (w'_4 : World),
 w'_4 = st w'_3 (Array.size (World.heap w')) 19 (Value.int IntKind.i64 4) →
 wr w'_4 (Array.size (World.heap w')) 27 ∧
 ∀ (w'_5 : World),
 w'_5 = st w'_4 (Array.size (World.heap w')) 27 (Value.int IntKind.i64 10) →
 wr w'_5 (Array.size (World.heap w')) 34 ∧
 ∀ (w'_6 : World),
 w'_6 = st w'_5 (Array.size (World.heap w')) 34 (Value.int IntKind.i64 10) →
 ∃ (x : Nat → Int),
 rdAll w'_6 (Array.size (World.heap w')) 0 (runI IntKind.i64 x 0 94) ∧
 wrAll w'_6 (Array.size (World.heap w)) 0 (runI IntKind.i64 x 0 94) ∧
 ∀ (w' : World),
 w' = stAll w'_6 (Array.size (World.heap w)) 0 (runI IntKind.i64 x 0 94) →
 ∃ (x : Nat → Int), rdAll w' (Array.size (World.heap w)) 0 (runI IntKind.i64 x 0 94) ∧ K (Value.agg (List.toArray (runI IntKind.i64 x 0 94))) w'
theorem vcE49 (w : World) (K : Value → World → Prop) : vcP49  w K = Eng.wBody Go.Proofs.Try.prog (Eng.handOf Go.Proofs.Try.prog [44,
 50,
 51,
 68] 2) [] Go.Proofs.Try.f49 (Eng.bodyOf Go.Proofs.Try.f49) [] w K := by kernel_rfl
theorem vc49 (w : World) (K : Value → World → Prop) (h : vcP49  w K) :
 Calls Go.Proofs.Try.prog 49 #[] w (fun e w' => ∃ v, e = .returned v ∧ K v w') :=
 Eng.vc_of [44, 50, 51, 68] 2 [] Go.Proofs.Try.mixes Go.Proofs.Try.func49 (by kernel_rfl) (by kernel_rfl) (vcE49  w K) h

-- 971 ms
/- byre/zones.New -/
def vcP20 (c0 : Nat → Int) (w : World) (K : Value → World → Prop) : Prop :=
 ∀ (w' : World),
 w' = World.alloc w (Obj.cells (List.toArray (runI IntKind.i64 c0 0 94)) 41) →
 ∃ (x : Nat → Int),
 rdAll w' (Array.size (World.heap w)) 0 (runI IntKind.i64 x 0 94) ∧
 Calls Proofs.Try.prog 48 #[Value.agg (List.toArray (runI IntKind.i64 x 0 94))] w' fun (e : Ending) (w' : World) =>
 ∃ (b : Bool),
 e = Ending.returned (Value.bool b) ∧
 Wif (!b) (K (Value.tuple #[Value.pointer none, Value.int IntKind.i64 2]) w')
 (∃ (x : Nat → Int),
 rdAll w' (Array.size (World.heap w)) 0 (runI IntKind.i64 x 0 94) ∧
 ∀ (w'_1 : World),
 w'_1 = World.alloc w' (Obj.cells (List.toArray (runI IntKind.i64 x 0 94 ++ [Value.slice none 0 0])) 91) →
 ∃ (x : Int),
 rd w'_1 (Array.size (World.heap w)) 0 = some (Value.int IntKind.i64 x) ∧
 Wif (okSl 0 x 8)
 (∃ (I : Int → World → Nat → Prop),
 (∃ (n : Nat), I 0 w'_1 n) ∧
 ∀ (n : Int) (w'_2 : World) (n_1 : Nat),
 I n w'_2 n_1 →
 Wif (decide (n < (↑(Int.toNat x) : Int)))
 (Wif (inB n (Int.toNat x))
 (∃ (x : Int),
 rd w'_2 (Array.size (World.heap w)) (18 + Int.toNat n * 1) = some (Value.int IntKind.i64 x) ∧
 Calls Proofs.Try.prog 13 #[Value.int IntKind.i64 x] w'_2 fun (e : Ending) (w'_3 : World) =>
 ∃ (p : Option Addr),
 ∃ (n_2 : Int),
 e = Ending.returned (Value.tuple #[Value.pointer p, Value.int IntKind.i64 n_2]) ∧
 ∃ (x : Option Addr),
 ∃ (x_1 : Nat),
 ∃ (x_2 : Nat),
 rd w'_3 (Array.size (World.heap w')) 94 = some (Value.slice x x_1 x_2) ∧
 ∀ (w'_4 : World),
 w'_4 = World.alloc w'_3 (Obj.cells #[Value.pointer p] 23) →
 ∃ (a : Option Addr),
 ∃ (l : Nat),
 ∃ (c : Nat),
 ∃ (w'_5 : World),
 appIs Proofs.Try.prog #[79, 79] 79 (Value.slice x x_1 x_2)
 (Value.slice (some (Addr.mk (Array.size (World.heap w'_3)) 0 none)) 1 1) (Value.slice a l c) w'_4 w'_5 ∧
 wr w'_5 (Array.size (World.heap w')) 94 ∧
 ∀ (w'_6 : World),
 w'_6 = st w'_5 (Array.size (World.heap w')) 94 (Value.slice a l c) →
 ∃ (m : Nat), Nat.succ m ≤ n_1 ∧ I (IntKind.wrap IntKind.i64 (n + 1)) w'_6 m)
 False)
 (K (Value.tuple #[Value.pointer (some (Addr.mk (Array.size (World.heap w')) 0 none)), Value.int IntKind.i64 0]) w'_2))
 False)
theorem vcE20 (c0 : Nat →
 Int) (w : World) (K : Value → World → Prop) : vcP20 c0 w K = Eng.wBody Go.Proofs.Try.prog (Eng.handOf Go.Proofs.Try.prog [44,
 50,
 51,
 68] 2) [] Go.Proofs.Try.f20 (Eng.bodyOf Go.Proofs.Try.f20) [Value.agg (List.toArray (runI IntKind.i64 c0 0 94))] w K := by kernel_rfl
theorem vc20 (c0 : Nat → Int) (w : World) (K : Value → World → Prop) (h : vcP20 c0 w K) :
 Calls Go.Proofs.Try.prog 20 #[Value.agg (List.toArray (runI IntKind.i64 c0 0 94))] w (fun e w' => ∃ v, e = .returned v ∧ K v w') :=
 Eng.vc_of [44, 50, 51, 68] 2 [] Go.Proofs.Try.mixes Go.Proofs.Try.func20 (by kernel_rfl) (by kernel_rfl) (vcE20 c0 w K) h

-- 7685 ms
/- (*byre/zones.Zones).Take -/
def vcP22 (z : Option Addr) (nodes : Option Addr) (nodesL : Nat) (nodesC : Nat) (floor : Int) (high : Bool) (w : World) (K : Value → World → Prop) : Prop :=
 gIf (isP z) ((!Option.isNone z) = true)
 (∃ (x : Option Addr),
 ∃ (x_1 : Nat),
 ∃ (x_2 : Nat),
 ((!Option.isNone z) = true → rd w (pb z) (po z + 94) = some (Value.slice x x_1 x_2)) ∧
 Wif (!(!Option.isNone z && !Option.isNone x)) (K (Value.tuple #[Value.int IntKind.i64 0, Value.int IntKind.i64 1]) w)
 (∃ (I : Int → Int → Int → World → Nat → Prop),
 (∃ (n : Nat), I 0 0 0 w n) ∧
 ∀ (n n_1 n_2 : Int) (w' : World) (n_3 : Nat),
 I n n_1 n_2 w' n_3 →
 Wif (decide (n_2 < (↑nodesL : Int)))
 (Wif (isP nodes)
 (Wif (inB n_2 nodesL)
 (∃ (x : Int),
 rd w' (pb nodes) (po nodes + Int.toNat n_2 * 1) = some (Value.int IntKind.i64 x) ∧
 gIf (isP z) ((!Option.isNone z) = true)
 (∃ (x_3 : Option Addr),
 ∃ (x_4 : Nat),
 ∃ (x_5 : Nat),
 ((!Option.isNone z) = true → rd w' (pb z) (po z + 94) = some (Value.slice x_3 x_4 x_5)) ∧
 gIf (isP z) ((!Option.isNone z && !Option.isNone x_3 && decide (x ≥ 0)) = true)
 (∃ (x_6 : Option Addr),
 ∃ (x_7 : Nat),
 ∃ (x_8 : Nat),
 ((!Option.isNone z && !Option.isNone x_3 && decide (x ≥ 0)) = true → rd w' (pb z) (po z + 94) = some (Value.slice x_6 x_7 x_8)) ∧
 Wif (!(!Option.isNone z && !Option.isNone x_3 && decide (x ≥ 0) && decide (x < (↑x_7 : Int))))
 (K (Value.tuple #[Value.int IntKind.i64 0, Value.int IntKind.i64 2]) w')
 (∃ (m : Nat), Nat.succ m ≤ n_3 ∧ I n n_1 (IntKind.wrap IntKind.i64 (n_2 + 1)) w' m))))
 False)
 False)
 (Wif (decide (floor < 0)) (K (Value.tuple #[Value.int IntKind.i64 0, Value.int IntKind.i64 2]) w')
 (∃ (I : Int → Int → Int → World → Nat → Prop),
 (∃ (n_4 : Nat), I n n_1 0 w' n_4) ∧
 ∀ (n n_4 n_5 : Int) (w' : World) (n_6 : Nat),
 I n n_4 n_5 w' n_6 →
 Wif (decide (n_5 < (↑nodesL : Int)))
 (Wif (isP nodes)
 (Wif (inB n_5 nodesL)
 (∃ (x : Int),
 rd w' (pb nodes) (po nodes + Int.toNat n_5 * 1) = some (Value.int IntKind.i64 x) ∧
 Calls Proofs.Try.prog 23 #[Value.pointer z, Value.int IntKind.i64 x] w' fun (e : Ending) (w' : World) =>
 ∃ (n_7 : Int),
 e = Ending.returned (Value.int IntKind.i64 n_7) ∧
 Wif (decide (n_7 > floor))
 (Calls Proofs.Try.prog 26 #[Value.pointer z, Value.int IntKind.i64 x, Value.int IntKind.i64 0, Value.bool high] w' fun (e : Ending) (w' : World) =>
 ∃ (n : Int),
 ∃ (n_8 : Int),
 e = Ending.returned (Value.tuple #[Value.int IntKind.i64 n, Value.int IntKind.i64 n_8]) ∧
 K (Value.tuple #[Value.int IntKind.i64 n, Value.int IntKind.i64 n_8]) w')
 (∃ (m : Nat), Nat.succ m ≤ n_6 ∧ I n n_4 (IntKind.wrap IntKind.i64 (n_5 + 1)) w' m))
 False)
 False)
 (K (Value.tuple #[Value.int IntKind.i64 0, Value.int IntKind.i64 6]) w')))))
theorem vcE22 (z : Option
 Addr) (nodes : Option
 Addr) (nodesL : Nat) (nodesC : Nat) (floor : Int) (high : Bool) (w : World) (K : Value → World → Prop) : vcP22 z nodes nodesL nodesC floor high w K = Eng.wBody Go.Proofs.Try.prog (Eng.handOf Go.Proofs.Try.prog [44,
 50,
 51,
 68] 2) [] Go.Proofs.Try.f22 (Eng.bodyOf Go.Proofs.Try.f22) [Value.pointer z, Value.slice nodes nodesL nodesC, Value.int IntKind.i64 floor, Value.bool high] w K := by kernel_rfl
theorem vc22 (z : Option Addr) (nodes : Option Addr) (nodesL : Nat) (nodesC : Nat) (floor : Int) (high : Bool) (w : World) (K : Value → World → Prop) (h : vcP22 z nodes nodesL nodesC floor high w K) :
 Calls Go.Proofs.Try.prog 22 #[Value.pointer z, Value.slice nodes nodesL nodesC, Value.int IntKind.i64 floor, Value.bool high] w (fun e w' => ∃ v, e = .returned v ∧ K v w') :=
 Eng.vc_of [44, 50, 51, 68] 2 [] Go.Proofs.Try.mixes Go.Proofs.Try.func22 (by kernel_rfl) (by kernel_rfl) (vcE22 z nodes nodesL nodesC floor high w K) h

-- 5153 ms
/- (*byre/zones.Zones).Free -/
def vcP23 (z : Option Addr) (node : Int) (w : World) (K : Value → World → Prop) : Prop :=
 gIf (isP z) ((!Option.isNone z) = true)
 (∃ (x : Option Addr),
 ∃ (x_1 : Nat),
 ∃ (x_2 : Nat),
 ((!Option.isNone z) = true → rd w (pb z) (po z + 94) = some (Value.slice x x_1 x_2)) ∧
 gIf (isP z) ((!Option.isNone z && !Option.isNone x && decide (node ≥ 0)) = true)
 (∃ (x_3 : Option Addr),
 ∃ (x_4 : Nat),
 ∃ (x_5 : Nat),
 ((!Option.isNone z && !Option.isNone x && decide (node ≥ 0)) = true → rd w (pb z) (po z + 94) = some (Value.slice x_3 x_4 x_5)) ∧
 Wif (!(!Option.isNone z && !Option.isNone x && decide (node ≥ 0) && decide (node < (↑x_4 : Int)))) (K (Value.int IntKind.i64 0) w)
 (Wif (isP z)
 (∃ (x : Option Addr),
 ∃ (x_6 : Nat),
 ∃ (x_7 : Nat),
 rd w (pb z) (po z + 94) = some (Value.slice x x_6 x_7) ∧
 Wif (isP x)
 (Wif (inB node x_6)
 (∃ (x_8 : Option Addr),
 rd w (pb x) (po x + Int.toNat node * 1) = some (Value.pointer x_8) ∧
 Calls Proofs.Try.prog 19 #[Value.pointer x_8] w fun (e : Ending) (w' : World) =>
 ∃ (n : Int), e = Ending.returned (Value.int IntKind.i64 n) ∧ K (Value.int IntKind.i64 n) w')
 False)
 False)
 False)))
theorem vcE23 (z : Option
 Addr) (node : Int) (w : World) (K : Value → World → Prop) : vcP23 z node w K = Eng.wBody Go.Proofs.Try.prog (Eng.handOf Go.Proofs.Try.prog [44,
 50,
 51,
 68] 2) [] Go.Proofs.Try.f23 (Eng.bodyOf Go.Proofs.Try.f23) [Value.pointer z, Value.int IntKind.i64 node] w K := by kernel_rfl
theorem vc23 (z : Option Addr) (node : Int) (w : World) (K : Value → World → Prop) (h : vcP23 z node w K) :
 Calls Go.Proofs.Try.prog 23 #[Value.pointer z, Value.int IntKind.i64 node] w (fun e w' => ∃ v, e = .returned v ∧ K v w') :=
 Eng.vc_of [44, 50, 51, 68] 2 [] Go.Proofs.Try.mixes Go.Proofs.Try.func23 (by kernel_rfl) (by kernel_rfl) (vcE23 z node w K) h

-- 1177 ms
/- (*byre/zones.Zones).Give -/
def vcP24 (z : Option Addr) (frame : Int) (order : Int) (w : World) (K : Value → World → Prop) : Prop :=
 gIf (isP z) ((!Option.isNone z) = true)
 (∃ (x : Option Addr),
 ∃ (x_1 : Nat),
 ∃ (x_2 : Nat),
 ((!Option.isNone z) = true → rd w (pb z) (po z + 94) = some (Value.slice x x_1 x_2)) ∧
 Wif (!(!Option.isNone z && !Option.isNone x)) (K (Value.int IntKind.i64 1) w)
 (Wif (isP z)
 (∃ (x : Nat → Int),
 rdAll w (pb z) (po z) (runI IntKind.i64 x 0 94) ∧
 Calls Proofs.Try.prog 52 #[Value.agg (List.toArray (runI IntKind.i64 x 0 94)), Value.int IntKind.i64 frame] w fun (e : Ending) (w' : World) =>
 ∃ (n : Int),
 ∃ (n_1 : Int),
 e = Ending.returned (Value.tuple #[Value.int IntKind.i64 n, Value.int IntKind.i64 n_1]) ∧
 Wif (n_1 != 0) (K (Value.int IntKind.i64 n_1) w')
 (Wif (isP z)
 (∃ (x : Nat → Int),
 rdAll w' (pb z) (po z) (runI IntKind.i64 x 0 94) ∧
 Calls Proofs.Try.prog 53 #[Value.agg (List.toArray (runI IntKind.i64 x 0 94)), Value.int IntKind.i64 n] w' fun (e : Ending) (w' : World) =>
 ∃ (n_2 : Int),
 ∃ (n_3 : Int),
 e = Ending.returned (Value.tuple #[Value.int IntKind.i64 n_2, Value.int IntKind.i64 n_3]) ∧
 Wif (isP z)
 (∃ (x : Option Addr),
 ∃ (x_3 : Nat),
 ∃ (x_4 : Nat),
 rd w' (pb z) (po z + 94) = some (Value.slice x x_3 x_4) ∧
 Wif (isP x)
 (Wif (inB n x_3)
 (∃ (x_5 : Option Addr),
 rd w' (pb x) (po x + Int.toNat n * 1) = some (Value.pointer x_5) ∧
 Calls Proofs.Try.prog 16 #[Value.pointer x_5, Value.int IntKind.i64 (IntKind.wrap IntKind.i64 (frame - n_2)), Value.int IntKind.i64 order]
 w' fun (e : Ending) (w' : World) => ∃ (n : Int), e = Ending.returned (Value.int IntKind.i64 n) ∧ K (Value.int IntKind.i64 n) w')
 False)
 False)
 False)
 False))
 False))
theorem vcE24 (z : Option
 Addr) (frame : Int) (order : Int) (w : World) (K : Value → World → Prop) : vcP24 z frame order w K = Eng.wBody Go.Proofs.Try.prog (Eng.handOf Go.Proofs.Try.prog [44,
 50,
 51,
 68] 2) [] Go.Proofs.Try.f24 (Eng.bodyOf Go.Proofs.Try.f24) [Value.pointer z, Value.int IntKind.i64 frame, Value.int IntKind.i64 order] w K := by kernel_rfl
theorem vc24 (z : Option Addr) (frame : Int) (order : Int) (w : World) (K : Value → World → Prop) (h : vcP24 z frame order w K) :
 Calls Go.Proofs.Try.prog 24 #[Value.pointer z, Value.int IntKind.i64 frame, Value.int IntKind.i64 order] w (fun e w' => ∃ v, e = .returned v ∧ K v w') :=
 Eng.vc_of [44, 50, 51, 68] 2 [] Go.Proofs.Try.mixes Go.Proofs.Try.func24 (by kernel_rfl) (by kernel_rfl) (vcE24 z frame order w K) h

-- 3003 ms
/- (*byre/zones.Zones).State -/
def vcP25 (z : Option Addr) (node : Int) (w : World) (K : Value → World → Prop) : Prop :=
 Calls Proofs.Try.prog 23 #[Value.pointer z, Value.int IntKind.i64 node] w fun (e : Ending) (w' : World) =>
 ∃ (n : Int),
 e = Ending.returned (Value.int IntKind.i64 n) ∧
 gIf (isP z) ((!Option.isNone z) = true)
 (∃ (x : Option Addr),
 ∃ (x_1 : Nat),
 ∃ (x_2 : Nat),
 ((!Option.isNone z) = true → rd w' (pb z) (po z + 94) = some (Value.slice x x_1 x_2)) ∧
 gIf (isP z) ((!Option.isNone z && !Option.isNone x && decide (node ≥ 0)) = true)
 (∃ (x_3 : Option Addr),
 ∃ (x_4 : Nat),
 ∃ (x_5 : Nat),
 ((!Option.isNone z && !Option.isNone x && decide (node ≥ 0)) = true → rd w' (pb z) (po z + 94) = some (Value.slice x_3 x_4 x_5)) ∧
 gIf (isP z) ((!(!Option.isNone z && !Option.isNone x && decide (node ≥ 0) && decide (node < (↑x_4 : Int)))) = false)
 (∃ (x_6 : Int),
 ((!(!Option.isNone z && !Option.isNone x && decide (node ≥ 0) && decide (node < (↑x_4 : Int)))) = false → rd w' (pb z) (po z + 91) = some (Value.int IntKind.i64 x_6)) ∧
 Wif (!(!Option.isNone z && !Option.isNone x && decide (node ≥ 0) && decide (node < (↑x_4 : Int))) || decide (n ≤ x_6)) (K (Value.int IntKind.i64 0) w')
 (Wif (isP z)
 (∃ (x : Int),
 rd w' (pb z) (po z + 92) = some (Value.int IntKind.i64 x) ∧
 Wif (decide (n ≤ x)) (K (Value.int IntKind.i64 1) w')
 (Wif (isP z)
 (∃ (x : Int),
 rd w' (pb z) (po z + 93) = some (Value.int IntKind.i64 x) ∧ Wif (decide (n ≤ x)) (K (Value.int IntKind.i64 2) w') (K (Value.int IntKind.i64 3) w'))
 False))
 False))))
theorem vcE25 (z : Option
 Addr) (node : Int) (w : World) (K : Value → World → Prop) : vcP25 z node w K = Eng.wBody Go.Proofs.Try.prog (Eng.handOf Go.Proofs.Try.prog [44,
 50,
 51,
 68] 2) [] Go.Proofs.Try.f25 (Eng.bodyOf Go.Proofs.Try.f25) [Value.pointer z, Value.int IntKind.i64 node] w K := by kernel_rfl
theorem vc25 (z : Option Addr) (node : Int) (w : World) (K : Value → World → Prop) (h : vcP25 z node w K) :
 Calls Go.Proofs.Try.prog 25 #[Value.pointer z, Value.int IntKind.i64 node] w (fun e w' => ∃ v, e = .returned v ∧ K v w') :=
 Eng.vc_of [44, 50, 51, 68] 2 [] Go.Proofs.Try.mixes Go.Proofs.Try.func25 (by kernel_rfl) (by kernel_rfl) (vcE25 z node w K) h

-- 2626 ms
/- (*byre/zones.Zones).TakeOf -/
def vcP26 (z : Option Addr) (node : Int) (order : Int) (high : Bool) (w : World) (K : Value → World → Prop) : Prop :=
 gIf (isP z) ((!Option.isNone z) = true)
 (∃ (x : Option Addr),
 ∃ (x_1 : Nat),
 ∃ (x_2 : Nat),
 ((!Option.isNone z) = true → rd w (pb z) (po z + 94) = some (Value.slice x x_1 x_2)) ∧
 Wif (!(!Option.isNone z && !Option.isNone x)) (K (Value.tuple #[Value.int IntKind.i64 0, Value.int IntKind.i64 1]) w)
 (gIf (isP z) ((!Option.isNone z) = true)
 (∃ (x : Option Addr),
 ∃ (x_3 : Nat),
 ∃ (x_4 : Nat),
 ((!Option.isNone z) = true → rd w (pb z) (po z + 94) = some (Value.slice x x_3 x_4)) ∧
 gIf (isP z) ((!Option.isNone z && !Option.isNone x && decide (node ≥ 0)) = true)
 (∃ (x_5 : Option Addr),
 ∃ (x_6 : Nat),
 ∃ (x_7 : Nat),
 ((!Option.isNone z && !Option.isNone x && decide (node ≥ 0)) = true → rd w (pb z) (po z + 94) = some (Value.slice x_5 x_6 x_7)) ∧
 Wif (!(!Option.isNone z && !Option.isNone x && decide (node ≥ 0) && decide (node < (↑x_6 : Int))))
 (K (Value.tuple #[Value.int IntKind.i64 0, Value.int IntKind.i64 7]) w)
 (Wif (isP z)
 (∃ (x : Option Addr),
 ∃ (x_8 : Nat),
 ∃ (x_9 : Nat),
 rd w (pb z) (po z + 94) = some (Value.slice x x_8 x_9) ∧
 Wif (isP x)
 (Wif (inB node x_8)
 (∃ (x_10 : Option Addr),
 rd w (pb x) (po x + Int.toNat node * 1) = some (Value.pointer x_10) ∧
 Calls Proofs.Try.prog 15 #[Value.pointer x_10, Value.int IntKind.i64 order, Value.bool high] w fun (e : Ending) (w' : World) =>
 ∃ (n : Int),
 ∃ (n_1 : Int),
 e = Ending.returned (Value.tuple #[Value.int IntKind.i64 n, Value.int IntKind.i64 n_1]) ∧
 Wif (n_1 != 0) (K (Value.tuple #[Value.int IntKind.i64 0, Value.int IntKind.i64 n_1]) w')
 (Wif (isP z)
 (∃ (x : Nat → Int),
 rdAll w' (pb z) (po z) (runI IntKind.i64 x 0 94) ∧
 Calls Proofs.Try.prog 53 #[Value.agg (List.toArray (runI IntKind.i64 x 0 94)), Value.int IntKind.i64 node] w'
 fun (e : Ending) (w' : World) =>
 ∃ (n_2 : Int),
 ∃ (n_3 : Int),
 e = Ending.returned (Value.tuple #[Value.int IntKind.i64 n_2, Value.int IntKind.i64 n_3]) ∧
 K (Value.tuple #[Value.int IntKind.i64 (IntKind.wrap IntKind.i64 (n_2 + n)), Value.int IntKind.i64 0]) w')
 False))
 False)
 False)
 False)))))
theorem vcE26 (z : Option
 Addr) (node : Int) (order : Int) (high : Bool) (w : World) (K : Value → World → Prop) : vcP26 z node order high w K = Eng.wBody Go.Proofs.Try.prog (Eng.handOf Go.Proofs.Try.prog [44,
 50,
 51,
 68] 2) [] Go.Proofs.Try.f26 (Eng.bodyOf Go.Proofs.Try.f26) [Value.pointer z, Value.int IntKind.i64 node, Value.int IntKind.i64 order, Value.bool high] w K := by kernel_rfl
theorem vc26 (z : Option Addr) (node : Int) (order : Int) (high : Bool) (w : World) (K : Value → World → Prop) (h : vcP26 z node order high w K) :
 Calls Go.Proofs.Try.prog 26 #[Value.pointer z, Value.int IntKind.i64 node, Value.int IntKind.i64 order, Value.bool high] w (fun e w' => ∃ v, e = .returned v ∧ K v w') :=
 Eng.vc_of [44, 50, 51, 68] 2 [] Go.Proofs.Try.mixes Go.Proofs.Try.func26 (by kernel_rfl) (by kernel_rfl) (vcE26 z node order high w K) h

-- 3465 ms
/- byre/byrelaw07.known -/
def vcP21 (w : World) (K : Value → World → Prop) : Prop :=
 Calls Proofs.Try.prog 49 #[] w fun (e : Ending) (w' : World) =>
 ∃ (f : Nat → Int),
 e = Ending.returned (Value.agg (List.toArray (runI IntKind.i64 f 0 94))) ∧
 Calls Proofs.Try.prog 20 #[Value.agg (List.toArray (runI IntKind.i64 f 0 94))] w' fun (e : Ending) (w' : World) =>
 ∃ (p : Option Addr),
 ∃ (n : Int),
 e = Ending.returned (Value.tuple #[Value.pointer p, Value.int IntKind.i64 n]) ∧
 Wif (Option.isNone p || n != 0) (K (Value.bool false) w')
 (∃ (I : Bool → Int → World → Nat → Prop),
 (∃ (n : Nat), I false 0 w' n) ∧
 ∀ (b : Bool) (n : Int) (w' : World) (n_1 : Nat),
 I b n w' n_1 →
 Wif (decide (n < 4))
 (Wif (inB n 4)
 (∃ (x : Int),
 [Value.int IntKind.i64 4, Value.int IntKind.i64 5, Value.int IntKind.i64 6, Value.int IntKind.i64 0][Int.toNat n * 1]? = some (Value.int IntKind.i64 x) ∧
 ∀ (w'_1 : World),
 w'_1 = World.alloc w' (Obj.cells #[Value.int IntKind.i64 1, Value.int IntKind.i64 0] 3) →
 Calls Proofs.Try.prog 22 #[Value.pointer p, Value.slice (some (Addr.mk (Array.size (World.heap w')) 0 none)) 2 2, Value.int IntKind.i64 1, Value.bool false] w'_1
 fun (e : Ending) (w' : World) =>
 ∃ (n_2 : Int),
 ∃ (n_3 : Int),
 e = Ending.returned (Value.tuple #[Value.int IntKind.i64 n_2, Value.int IntKind.i64 n_3]) ∧
 Wif (n_2 != x || n_3 != 0) (K (Value.bool false) w') (∃ (m : Nat), Nat.succ m ≤ n_1 ∧ I b (IntKind.wrap IntKind.i64 (n + 1)) w' m))
 False)
 (Calls Proofs.Try.prog 25 #[Value.pointer p, Value.int IntKind.i64 1] w' fun (e : Ending) (w' : World) =>
 ∃ (n : Int),
 e = Ending.returned (Value.int IntKind.i64 n) ∧
 Wif (n == 0)
 (Calls Proofs.Try.prog 25 #[Value.pointer p, Value.int IntKind.i64 0] w' fun (e : Ending) (w' : World) =>
 ∃ (n : Int),
 e = Ending.returned (Value.int IntKind.i64 n) ∧
 Wif (n == 2)
 (Calls Proofs.Try.prog 24 #[Value.pointer p, Value.int IntKind.i64 4, Value.int IntKind.i64 0] w' fun (e : Ending) (w' : World) =>
 ∃ (n : Int),
 e = Ending.returned (Value.int IntKind.i64 n) ∧
 Wif (n == 0)
 (Calls Proofs.Try.prog 23 #[Value.pointer p, Value.int IntKind.i64 1] w' fun (e : Ending) (w' : World) =>
 ∃ (n : Int), e = Ending.returned (Value.int IntKind.i64 n) ∧ K (Value.bool (n == 2)) w')
 (K (Value.bool false) w'))
 (K (Value.bool false) w'))
 (K (Value.bool false) w')))
theorem vcE21 (w : World) (K : Value → World → Prop) : vcP21  w K = Eng.wBody Go.Proofs.Try.prog (Eng.handOf Go.Proofs.Try.prog [44,
 50,
 51,
 68] 2) [] Go.Proofs.Try.f21 (Eng.bodyOf Go.Proofs.Try.f21) [] w K := by kernel_rfl
theorem vc21 (w : World) (K : Value → World → Prop) (h : vcP21  w K) :
 Calls Go.Proofs.Try.prog 21 #[] w (fun e w' => ∃ v, e = .returned v ∧ K v w') :=
 Eng.vc_of [44, 50, 51, 68] 2 [] Go.Proofs.Try.mixes Go.Proofs.Try.func21 (by kernel_rfl) (by kernel_rfl) (vcE21  w K) h

-- 5410 ms

end Go.Proofs.Ytkmcmkimeibjdaa
