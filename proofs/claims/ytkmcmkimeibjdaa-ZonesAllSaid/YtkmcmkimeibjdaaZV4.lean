/-
  A part of a proof that a law of this seat returns true at every input. Conditions: those in each theorem.
-/
import Derived.Test.YtkmcmkimeibjdaaZV3
set_option linter.unusedSimpArgs false
set_option linter.unusedVariables false
set_option maxRecDepth 100000
namespace Go.Proofs.Ytkmcmkimeibjdaa
open Go Go.Eng
/- byre/byrelaw07.ZonesAll -/
def vcP4 (c0 : Nat → Int) (nodes : Option Addr) (nodesL : Nat) (nodesC : Nat) (floor : Int) (high : Bool) (w : World) (K : Value → World → Prop) : Prop :=
 ∀ (w' : World),
 w' = World.alloc w (Obj.cells (List.toArray (runI IntKind.i64 c0 0 94)) 41) →
 ∃ (x : Nat → Int),
 rdAll w' (Array.size (World.heap w)) 0 (runI IntKind.i64 x 0 94) ∧
 Calls Proofs.Try.prog 20 #[Value.agg (List.toArray (runI IntKind.i64 x 0 94))] w' fun (e : Ending) (w' : World) =>
 ∃ (p : Option Addr),
 ∃ (n : Int),
 e = Ending.returned (Value.tuple #[Value.pointer p, Value.int IntKind.i64 n]) ∧
 Wif (n != 0 || Option.isNone p || decide ((↑nodesL : Int) > 8) || decide (floor < 0) || decide (floor > 200))
 (Calls Proofs.Try.prog 21 #[] w' fun (e : Ending) (w' : World) => ∃ (b : Bool), e = Ending.returned (Value.bool b) ∧ K (Value.bool b) w')
 (∀ (w'_1 : World),
 w'_1 = World.alloc w' (Obj.cells (List.toArray (List.replicate 8 (Value.bool false))) 46) →
 ∃ (I : Bool → Int → World → Nat → Prop),
 (∃ (n : Nat), I false 0 w'_1 n) ∧
 ∀ (b : Bool) (n : Int) (w'_2 : World) (n_1 : Nat),
 I b n w'_2 n_1 →
 Wif (decide (n < (↑nodesL : Int)))
 (∀ (w1 : World),
 w1 = World.drew w'_2 →
 Wif (isP nodes)
 (Wif (inB n nodesL)
 (∃ (x : Int),
 rd w1 (pb nodes) (po nodes + Int.toNat n * 1) = some (Value.int IntKind.i64 x) ∧
 gIf (isP nodes) (decide (x < 0) = false)
 (gIf (inB n nodesL) (decide (x < 0) = false)
 (∃ (x_1 : Int),
 (decide (x < 0) = false → rd w1 (pb nodes) (po nodes + Int.toNat n * 1) = some (Value.int IntKind.i64 x_1)) ∧
 ∃ (x_2 : Int),
 (decide (x < 0) = false → rd w1 (Array.size (World.heap w)) 0 = some (Value.int IntKind.i64 x_2)) ∧
 Wif (decide (x < 0) || decide (x_1 ≥ x_2))
 (Calls Proofs.Try.prog 22 #[Value.pointer p, Value.slice nodes nodesL nodesC, Value.int IntKind.i64 floor, Value.bool high] w1
 fun (e : Ending) (w' : World) =>
 ∃ (n : Int),
 ∃ (n_2 : Int),
 e = Ending.returned (Value.tuple #[Value.int IntKind.i64 n, Value.int IntKind.i64 n_2]) ∧
 Wif (n_2 == 2)
 (Calls Proofs.Try.prog 21 #[] w' fun (e : Ending) (w' : World) =>
 ∃ (b : Bool), e = Ending.returned (Value.bool b) ∧ K (Value.bool b) w')
 (K (Value.bool false) w'))
 (Wif (isP nodes)
 (Wif (inB n nodesL)
 (∃ (x : Int),
 rd w1 (pb nodes) (po nodes + Int.toNat n * 1) = some (Value.int IntKind.i64 x) ∧
 Wif (inB x 8)
 (wr w1 (Array.size (World.heap w')) (0 + Int.toNat x * 1) ∧
 ∀ (w'_3 : World),
 w'_3 = st w1 (Array.size (World.heap w')) (0 + Int.toNat x * 1) (Value.bool true) →
 ∃ (m : Nat), Nat.succ m ≤ n_1 ∧ I b (IntKind.wrap IntKind.i64 (n + 1)) w'_3 m)
 False)
 False)
 False))))
 False)
 False)
 (∃ (x : Int),
 rd w'_2 (Array.size (World.heap w)) 0 = some (Value.int IntKind.i64 x) ∧
 ∃ (I : Int → Int → Int → World → Nat → Prop),
 (∃ (n : Nat), I 0 0 0 w'_2 n) ∧
 ∀ (n n_2 n_3 : Int) (w'_3 : World) (n_4 : Nat),
 I n n_2 n_3 w'_3 n_4 →
 Wif (decide (n_3 < x))
 (Calls Proofs.Try.prog 23 #[Value.pointer p, Value.int IntKind.i64 n_3] w'_3 fun (e : Ending) (w'_4 : World) =>
 ∃ (n_5 : Int),
 e = Ending.returned (Value.int IntKind.i64 n_5) ∧
 Wif (inB n_3 8)
 (∃ (x : Bool),
 rd w'_4 (Array.size (World.heap w')) (0 + Int.toNat n_3 * 1) = some (Value.bool x) ∧
 Wif x
 (Calls Proofs.Try.prog 23 #[Value.pointer p, Value.int IntKind.i64 n_3] w'_4 fun (e : Ending) (w' : World) =>
 ∃ (n_6 : Int),
 e = Ending.returned (Value.int IntKind.i64 n_6) ∧
 ∃ (m : Nat),
 Nat.succ m ≤ n_4 ∧
 I (IntKind.wrap IntKind.i64 (n + n_5))
 (IntKind.wrap IntKind.i64
 (n_2 + if IntKind.wrap IntKind.i64 (n_6 - floor) > 0 then IntKind.wrap IntKind.i64 (n_6 - floor) else 0))
 (IntKind.wrap IntKind.i64 (n_3 + 1)) w' m)
 (∃ (m : Nat), Nat.succ m ≤ n_4 ∧ I (IntKind.wrap IntKind.i64 (n + n_5)) n_2 (IntKind.wrap IntKind.i64 (n_3 + 1)) w'_4 m))
 False)
 (∀ (w' : World),
 w' = World.alloc w'_3 (Obj.map #[] 0) →
 ∃ (I : Bool → Int → World → Nat → Prop),
 (∃ (n : Nat), I b 0 w' n) ∧
 ∀ (b : Bool) (n_5 : Int) (w' : World) (n_6 : Nat),
 I b n_5 w' n_6 →
 Wif (decide (n_5 < n_2))
 (Calls Proofs.Try.prog 22 #[Value.pointer p, Value.slice nodes nodesL nodesC, Value.int IntKind.i64 floor, Value.bool high] w'
 fun (e : Ending) (w' : World) =>
 ∃ (n : Int),
 ∃ (n_7 : Int),
 e = Ending.returned (Value.tuple #[Value.int IntKind.i64 n, Value.int IntKind.i64 n_7]) ∧
 ∃ (x : Int),
 ((n_7 != 0) = false →
 lookIs Proofs.Try.prog 49 (Value.map (some (Array.size (World.heap w'_3)))) (Value.int IntKind.i64 n) false
 (Value.int IntKind.i64 x) w') ∧
 Wif (n_7 != 0 || x == 1) (K (Value.bool false) w')
 (∃ (w'_4 : World),
 updIs Proofs.Try.prog 49 (Value.map (some (Array.size (World.heap w'_3)))) (Value.int IntKind.i64 n)
 (Value.int IntKind.i64 1) w' w'_4 ∧
 ∃ (m : Nat), Nat.succ m ≤ n_6 ∧ I b (IntKind.wrap IntKind.i64 (n_5 + 1)) w'_4 m))
 (Calls Proofs.Try.prog 22 #[Value.pointer p, Value.slice nodes nodesL nodesC, Value.int IntKind.i64 floor, Value.bool high] w'
 fun (e : Ending) (w' : World) =>
 ∃ (n_7 : Int),
 ∃ (n_8 : Int),
 e = Ending.returned (Value.tuple #[Value.int IntKind.i64 n_7, Value.int IntKind.i64 n_8]) ∧
 Wif (n_8 != 6) (K (Value.bool false) w')
 (∃ (x : Int),
 rd w' (Array.size (World.heap w)) 0 = some (Value.int IntKind.i64 x) ∧
 ∃ (I : Int → Int → World → Nat → Prop),
 (∃ (n : Nat), I 0 0 w' n) ∧
 ∀ (n_9 n_10 : Int) (w' : World) (n_11 : Nat),
 I n_9 n_10 w' n_11 →
 Wif (decide (n_10 < x))
 (Calls Proofs.Try.prog 23 #[Value.pointer p, Value.int IntKind.i64 n_10] w' fun (e : Ending) (w' : World) =>
 ∃ (n : Int),
 e = Ending.returned (Value.int IntKind.i64 n) ∧
 ∃ (m : Nat),
 Nat.succ m ≤ n_11 ∧ I (IntKind.wrap IntKind.i64 (n_9 + n)) (IntKind.wrap IntKind.i64 (n_10 + 1)) w' m)
 (Wif (IntKind.wrap IntKind.i64 (n_9 + n_2) != n) (K (Value.bool false) w')
 (∃ (p_1 : Option Addr),
 ∃ (w'_4 : World),
 rngIs Proofs.Try.prog 49 (Value.map (some (Array.size (World.heap w'_3)))) (Value.pointer p_1) w' w'_4 ∧
 ∃ (I : Bool → World → Nat → Prop),
 (∃ (n : Nat), I b w'_4 n) ∧
 ∀ (b : Bool) (w' : World) (n : Nat),
 I b w' n →
 (∃ (w'_5 : World),
 nxtIs Proofs.Try.prog (Value.pointer p_1) false 0 (Value.tuple #[Value.bool false]) w' w'_5 ∧
 ∃ (x : Int),
 rd w'_5 (Array.size (World.heap w)) 0 = some (Value.int IntKind.i64 x) ∧
 ∃ (I : Bool → Int → World → Nat → Prop),
 (∃ (n : Nat), I b 0 w'_5 n) ∧
 ∀ (b : Bool) (n : Int) (w' : World) (n_12 : Nat),
 I b n w' n_12 →
 Wif (decide (n < x))
 (∀ (w1 : World),
 w1 = World.drew w' →
 Wif (inB n 8)
 (∃ (x : Int),
 rd w1 (Array.size (World.heap w)) (18 + Int.toNat n * 1) =
 some (Value.int IntKind.i64 x) ∧
 Calls Proofs.Try.prog 23 #[Value.pointer p, Value.int IntKind.i64 n]
 w1 fun (e : Ending) (w' : World) =>
 ∃ (n_13 : Int),
 e = Ending.returned (Value.int IntKind.i64 n_13) ∧
 (rd w' (Array.size (World.heap w)) (18 + Int.toNat n * 1) =
 some (Value.int IntKind.i64 x) ∧
 True) ∧
 Wif (n_13 != x) (K (Value.bool false) w')
 (∃ (m : Nat),
 Nat.succ m ≤ n_12 ∧
 I b (IntKind.wrap IntKind.i64 (n + 1)) w' m))
 False)
 (Calls Proofs.Try.prog 21 #[] w' fun (e : Ending) (w' : World) =>
 ∃ (b : Bool), e = Ending.returned (Value.bool b) ∧ K (Value.bool b) w')) ∨
 ∃ (k : Value),
 ∃ (v : Value),
 ∃ (w'_5 : World),
 nxtIs Proofs.Try.prog (Value.pointer p_1) false 0 (Value.tuple #[Value.bool true, k, v])
 w' w'_5 ∧
 ∃ (x : Int),
 ∃ (x_1 : Value),
 entIs Proofs.Try.prog (Value.pointer p_1)
 (Value.tuple #[Value.int IntKind.i64 x, x_1]) w'_5 ∧
 Calls Proofs.Try.prog 24
 #[Value.pointer p, Value.int IntKind.i64 x, Value.int IntKind.i64 0] w'_5
 fun (e : Ending) (w' : World) =>
 ∃ (n_12 : Int),
 e = Ending.returned (Value.int IntKind.i64 n_12) ∧
 Wif (n_12 != 0) (K (Value.bool false) w')
 (∃ (m : Nat), Nat.succ m ≤ n ∧ I b w' m))))))))
theorem vcE4 (c0 : Nat →
 Int) (nodes : Option
 Addr) (nodesL : Nat) (nodesC : Nat) (floor : Int) (high : Bool) (w : World) (K : Value → World → Prop) : vcP4 c0 nodes nodesL nodesC floor high w K = Eng.wBody Go.Proofs.Try.prog (Eng.handOf Go.Proofs.Try.prog [44,
 50,
 51,
 68] 2) [] Go.Proofs.Try.f4 (Eng.bodyOf Go.Proofs.Try.f4) [Value.agg (List.toArray (runI IntKind.i64 c0 0 94)), Value.slice nodes nodesL nodesC, Value.int IntKind.i64 floor,
 Value.bool high] w K := by kernel_rfl
theorem vc4 (c0 : Nat → Int) (nodes : Option Addr) (nodesL : Nat) (nodesC : Nat) (floor : Int) (high : Bool) (w : World) (K : Value → World → Prop) (h : vcP4 c0 nodes nodesL nodesC floor high w K) :
 Calls Go.Proofs.Try.prog 4 #[Value.agg (List.toArray (runI IntKind.i64 c0 0 94)), Value.slice nodes nodesL nodesC, Value.int IntKind.i64 floor,
 Value.bool high] w (fun e w' => ∃ v, e = .returned v ∧ K v w') :=
 Eng.vc_of [44, 50, 51, 68] 2 [] Go.Proofs.Try.mixes Go.Proofs.Try.func4 (by kernel_rfl) (by kernel_rfl) (vcE4 c0 nodes nodesL nodesC floor high w K) h

-- 144896 ms

end Go.Proofs.Ytkmcmkimeibjdaa
