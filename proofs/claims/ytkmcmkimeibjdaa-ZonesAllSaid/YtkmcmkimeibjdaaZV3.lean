/-
  A part of a proof that a law of this seat returns true at every input. Conditions: those in each theorem.
-/
import Derived.Test.YtkmcmkimeibjdaaZV2
set_option linter.unusedSimpArgs false
set_option linter.unusedVariables false
set_option maxRecDepth 100000
namespace Go.Proofs.Ytkmcmkimeibjdaa
open Go Go.Eng
/- byre/byrelaw07.ZonesStates -/
def vcP5 (c0 : Nat → Int) (node : Int) (w : World) (K : Value → World → Prop) : Prop :=
 ∀ (w' : World),
 w' = World.alloc w (Obj.cells (List.toArray (runI IntKind.i64 c0 0 94)) 41) →
 ∃ (x : Nat → Int),
 rdAll w' (Array.size (World.heap w)) 0 (runI IntKind.i64 x 0 94) ∧
 Calls Proofs.Try.prog 20 #[Value.agg (List.toArray (runI IntKind.i64 x 0 94))] w' fun (e : Ending) (w' : World) =>
 ∃ (p : Option Addr),
 ∃ (n : Int),
 e = Ending.returned (Value.tuple #[Value.pointer p, Value.int IntKind.i64 n]) ∧
 ∃ (x : Int),
 ((n != 0 || Option.isNone p || decide (node < 0)) = false → rd w' (Array.size (World.heap w)) 0 = some (Value.int IntKind.i64 x)) ∧
 Wif (n != 0 || Option.isNone p || decide (node < 0) || decide (node ≥ x))
 (Calls Proofs.Try.prog 21 #[] w' fun (e : Ending) (w' : World) => ∃ (b : Bool), e = Ending.returned (Value.bool b) ∧ K (Value.bool b) w')
 (Calls Proofs.Try.prog 25 #[Value.pointer p, Value.int IntKind.i64 node] w' fun (e : Ending) (w' : World) =>
 ∃ (n : Int),
 e = Ending.returned (Value.int IntKind.i64 n) ∧
 ∀ (w'_1 : World),
 w'_1 = World.alloc w' (Obj.cells #[Value.int IntKind.i64 n] 51) →
 Wif (inB node 8)
 (∃ (x : Int),
 rd w'_1 (Array.size (World.heap w)) (18 + Int.toNat node * 1) = some (Value.int IntKind.i64 x) ∧
 ∃ (I : Bool → Option Addr → Nat → Nat → Option Addr → Nat → Nat → Int → World → Nat → Prop),
 (∃ (n : Nat), I false (some (Addr.mk (Array.size (World.heap w')) 0 none)) 1 1 none 0 0 0 w'_1 n) ∧
 ∀ (b : Bool) (a : Option Addr) (l c : Nat) (a_1 : Option Addr) (l_1 c_1 : Nat) (n : Int) (w' : World) (n_1 : Nat),
 I b a l c a_1 l_1 c_1 n w' n_1 →
 Wif (decide (n < x))
 (Calls Proofs.Try.prog 26 #[Value.pointer p, Value.int IntKind.i64 node, Value.int IntKind.i64 0, Value.bool false] w'
 fun (e : Ending) (w' : World) =>
 ∃ (n_2 : Int),
 ∃ (n_3 : Int),
 e = Ending.returned (Value.tuple #[Value.int IntKind.i64 n_2, Value.int IntKind.i64 n_3]) ∧
 ∀ (w1 : World),
 w1 = World.drew w' →
 gIf (isP a) ((n_3 != 0) = false)
 (gIf (inB (IntKind.wrap IntKind.i64 ((↑l : Int) - 1)) l) ((n_3 != 0) = false)
 (∃ (x : Int),
 ((n_3 != 0) = false →
 rd w1 (pb a) (po a + Int.toNat (IntKind.wrap IntKind.i64 ((↑l : Int) - 1)) * 1) = some (Value.int IntKind.i64 x)) ∧
 Wif (n_3 != 0)
 (((n_3 != 0) = false →
 rd w1 (pb a) (po a + Int.toNat (IntKind.wrap IntKind.i64 ((↑l : Int) - 1)) * 1) = some (Value.int IntKind.i64 x) ∧ True) ∧
 K (Value.bool false) w1)
 (Calls Proofs.Try.prog 25 #[Value.pointer p, Value.int IntKind.i64 node] w1 fun (e : Ending) (w' : World) =>
 ∃ (n_4 : Int),
 e = Ending.returned (Value.int IntKind.i64 n_4) ∧
 ((n_3 != 0) = false →
 rd w' (pb a) (po a + Int.toNat (IntKind.wrap IntKind.i64 ((↑l : Int) - 1)) * 1) = some (Value.int IntKind.i64 x) ∧
 True) ∧
 Wif (decide (n_4 > x)) (K (Value.bool false) w')
 (∀ (w'_2 : World),
 w'_2 = World.alloc w' (Obj.cells #[Value.int IntKind.i64 n_2] 3) →
 ∃ (a_2 : Option Addr),
 ∃ (l_2 : Nat),
 ∃ (c_2 : Nat),
 ∃ (w'_3 : World),
 appIs Proofs.Try.prog #[42, 42] 42 (Value.slice a_1 l_1 c_1)
 (Value.slice (some (Addr.mk (Array.size (World.heap w')) 0 none)) 1 1) (Value.slice a_2 l_2 c_2) w'_2
 w'_3 ∧
 Calls Proofs.Try.prog 25 #[Value.pointer p, Value.int IntKind.i64 node] w'_3
 fun (e : Ending) (w' : World) =>
 ∃ (n_5 : Int),
 e = Ending.returned (Value.int IntKind.i64 n_5) ∧
 ∀ (w'_4 : World),
 w'_4 = World.alloc w' (Obj.cells #[Value.int IntKind.i64 n_5] 51) →
 ∃ (a_3 : Option Addr),
 ∃ (l_3 : Nat),
 ∃ (c_3 : Nat),
 ∃ (w'_5 : World),
 appIs Proofs.Try.prog #[53, 53] 53 (Value.slice a l c)
 (Value.slice (some (Addr.mk (Array.size (World.heap w')) 0 none)) 1 1)
 (Value.slice a_3 l_3 c_3) w'_4 w'_5 ∧
 ∃ (m : Nat),
 Nat.succ m ≤ n_1 ∧
 I b a_3 l_3 c_3 a_2 l_2 c_2 (IntKind.wrap IntKind.i64 (n + 1)) w'_5 m)))))
 (Calls Proofs.Try.prog 25 #[Value.pointer p, Value.int IntKind.i64 node] w' fun (e : Ending) (w' : World) =>
 ∃ (n : Int),
 e = Ending.returned (Value.int IntKind.i64 n) ∧
 Wif (n != 0) (K (Value.bool false) w')
 (∃ (I : Bool → Int → World → Nat → Prop),
 (∃ (n : Nat), I b (IntKind.wrap IntKind.i64 ((↑l_1 : Int) - 1)) w' n) ∧
 ∀ (b : Bool) (n : Int) (w' : World) (n_2 : Nat),
 I b n w' n_2 →
 Wif (decide (n ≥ 0))
 (∀ (w1 : World),
 w1 = World.drew w' →
 Wif (isP a_1)
 (Wif (inB n l_1)
 (∃ (x : Int),
 rd w1 (pb a_1) (po a_1 + Int.toNat n * 1) = some (Value.int IntKind.i64 x) ∧
 Calls Proofs.Try.prog 24 #[Value.pointer p, Value.int IntKind.i64 x, Value.int IntKind.i64 0] w1
 fun (e : Ending) (w' : World) =>
 ∃ (n_3 : Int),
 e = Ending.returned (Value.int IntKind.i64 n_3) ∧
 gIf (isP a) ((n_3 != 0) = false)
 (gIf (inB n l) ((n_3 != 0) = false)
 (∃ (x : Int),
 ((n_3 != 0) = false → rd w' (pb a) (po a + Int.toNat n * 1) = some (Value.int IntKind.i64 x)) ∧
 Wif (n_3 != 0)
 (((n_3 != 0) = false → rd w' (pb a) (po a + Int.toNat n * 1) = some (Value.int IntKind.i64 x) ∧ True) ∧
 K (Value.bool false) w')
 (Calls Proofs.Try.prog 25 #[Value.pointer p, Value.int IntKind.i64 node] w'
 fun (e : Ending) (w' : World) =>
 ∃ (n_4 : Int),
 e = Ending.returned (Value.int IntKind.i64 n_4) ∧
 ((n_3 != 0) = false →
 rd w' (pb a) (po a + Int.toNat n * 1) = some (Value.int IntKind.i64 x) ∧ True) ∧
 Wif (n_4 != x) (K (Value.bool false) w')
 (∃ (m : Nat), Nat.succ m ≤ n_2 ∧ I b (IntKind.wrap IntKind.i64 (n - 1)) w' m)))))
 False)
 False)
 (Calls Proofs.Try.prog 21 #[] w' fun (e : Ending) (w' : World) =>
 ∃ (b : Bool), e = Ending.returned (Value.bool b) ∧ K (Value.bool b) w'))))
 False)
theorem vcE5 (c0 : Nat →
 Int) (node : Int) (w : World) (K : Value → World → Prop) : vcP5 c0 node w K = Eng.wBody Go.Proofs.Try.prog (Eng.handOf Go.Proofs.Try.prog [44,
 50,
 51,
 68] 2) [] Go.Proofs.Try.f5 (Eng.bodyOf Go.Proofs.Try.f5) [Value.agg (List.toArray (runI IntKind.i64 c0 0 94)), Value.int IntKind.i64 node] w K := by kernel_rfl
theorem vc5 (c0 : Nat → Int) (node : Int) (w : World) (K : Value → World → Prop) (h : vcP5 c0 node w K) :
 Calls Go.Proofs.Try.prog 5 #[Value.agg (List.toArray (runI IntKind.i64 c0 0 94)), Value.int IntKind.i64 node] w (fun e w' => ∃ v, e = .returned v ∧ K v w') :=
 Eng.vc_of [44, 50, 51, 68] 2 [] Go.Proofs.Try.mixes Go.Proofs.Try.func5 (by kernel_rfl) (by kernel_rfl) (vcE5 c0 node w K) h

-- 36601 ms

end Go.Proofs.Ytkmcmkimeibjdaa
