/-
  A part of a proof that a law of this seat returns true at every input. Conditions: those in each theorem.
-/
import Derived.Test.YtkmcmkimeibjdaaZV2
import Derived.Test.YtkmcmkimeibjdaaEngR
set_option linter.unusedSimpArgs false
set_option linter.unusedVariables false
set_option maxRecDepth 100000
namespace Go.Proofs.Ytkmcmkimeibjdaa
open Go Go.Eng
/- byre/byreref02.May -/
def vcP36 (c0 : Nat → Int) (w : World) (K : Value → World → Prop) : Prop :=
 ∀ (w' : World),
 w' = World.alloc w (Obj.cells (List.toArray (runI IntKind.i64 c0 0 94)) 41) →
 ∃ (x : Int),
 rd w' (Array.size (World.heap w)) 0 = some (Value.int IntKind.i64 x) ∧
 ∃ (x_1 : Int),
 (decide (x < 1) = false → rd w' (Array.size (World.heap w)) 0 = some (Value.int IntKind.i64 x_1)) ∧
 ∃ (x_2 : Int),
 ((decide (x < 1) || decide (x_1 > 8)) = false → rd w' (Array.size (World.heap w)) 1 = some (Value.int IntKind.i64 x_2)) ∧
 ∃ (x_3 : Int),
 ((decide (x < 1) || decide (x_1 > 8) || decide (x_2 < 1)) = false → rd w' (Array.size (World.heap w)) 1 = some (Value.int IntKind.i64 x_3)) ∧
 ∃ (x_4 : Int),
 ((decide (x < 1) || decide (x_1 > 8) || decide (x_2 < 1) || decide (x_3 > 16)) = false → rd w' (Array.size (World.heap w)) 90 = some (Value.int IntKind.i64 x_4)) ∧
 ∃ (x_5 : Int),
 ((decide (x < 1) || decide (x_1 > 8) || decide (x_2 < 1) || decide (x_3 > 16) || decide (x_4 < 0)) = false →
 rd w' (Array.size (World.heap w)) 90 = some (Value.int IntKind.i64 x_5)) ∧
 Wif (decide (x < 1) || decide (x_1 > 8) || decide (x_2 < 1) || decide (x_3 > 16) || decide (x_4 < 0) || decide (x_5 > 1024)) (K (Value.bool false) w')
 (∃ (I : Bool → Int → World → Nat → Prop),
 (∃ (n : Nat), I false 0 w' n) ∧
 ∀ (b : Bool) (n : Int) (w' : World) (n_1 : Nat),
 I b n w' n_1 →
 Wif (decide (n < 16))
 (∀ (w1 : World),
 w1 = World.drew w' →
 ∃ (x : Int),
 rd w1 (Array.size (World.heap w)) 1 = some (Value.int IntKind.i64 x) ∧
 gIf (inB n 16) (decide (n < x) = true)
 (∃ (x_6 : Int),
 (decide (n < x) = true → rd w1 (Array.size (World.heap w)) (2 + Int.toNat n * 1) = some (Value.int IntKind.i64 x_6)) ∧
 gIf (inB n 16) (decide (n < x) = true ∧ decide (x_6 < 0) = false)
 (∃ (x_7 : Int),
 (decide (n < x) = true ∧ decide (x_6 < 0) = false →
 rd w1 (Array.size (World.heap w)) (2 + Int.toNat n * 1) = some (Value.int IntKind.i64 x_7)) ∧
 ∃ (x_8 : Int),
 (decide (n < x) = true ∧ decide (x_6 < 0) = false → rd w1 (Array.size (World.heap w)) 0 = some (Value.int IntKind.i64 x_8)) ∧
 ∃ (x_9 : Int),
 ((decide (n < x) && (decide (x_6 < 0) || decide (x_7 ≥ x_8))) = false →
 rd w1 (Array.size (World.heap w)) 1 = some (Value.int IntKind.i64 x_9)) ∧
 gIf (inB n 16) ((decide (n < x) && (decide (x_6 < 0) || decide (x_7 ≥ x_8))) = false ∧ decide (n ≥ x_9) = true)
 (∃ (x_10 : Int),
 ((decide (n < x) && (decide (x_6 < 0) || decide (x_7 ≥ x_8))) = false ∧ decide (n ≥ x_9) = true →
 rd w1 (Array.size (World.heap w)) (2 + Int.toNat n * 1) = some (Value.int IntKind.i64 x_10)) ∧
 Wif (decide (n < x) && (decide (x_6 < 0) || decide (x_7 ≥ x_8)) || decide (n ≥ x_9) && x_10 != 0) (K (Value.bool false) w1)
 (∃ (m : Nat), Nat.succ m ≤ n_1 ∧ I b (IntKind.wrap IntKind.i64 (n + 1)) w1 m)))))
 (∃ (I : Bool → Int → World → Nat → Prop),
 (∃ (n : Nat), I b 0 w' n) ∧
 ∀ (b : Bool) (n : Int) (w' : World) (n_2 : Nat),
 I b n w' n_2 →
 Wif (decide (n < 8))
 (∃ (x : Int),
 rd w' (Array.size (World.heap w)) 0 = some (Value.int IntKind.i64 x) ∧
 ∀ (w1 : World),
 w1 = World.drew w' →
 gIf (inB n 8) (decide (n < x) = true)
 (∃ (x_6 : Int),
 (decide (n < x) = true → rd w1 (Array.size (World.heap w)) (18 + Int.toNat n * 1) = some (Value.int IntKind.i64 x_6)) ∧
 gIf (inB n 8) (decide (n < x) = true ∧ decide (x_6 < 4) = false)
 (∃ (x_7 : Int),
 (decide (n < x) = true ∧ decide (x_6 < 4) = false →
 rd w1 (Array.size (World.heap w)) (18 + Int.toNat n * 1) = some (Value.int IntKind.i64 x_7)) ∧
 gIf (inB n 8) (decide (n < x) = true ∧ (decide (x_6 < 4) || decide (x_7 > 128)) = false)
 (∃ (x_8 : Int),
 (decide (n < x) = true ∧ (decide (x_6 < 4) || decide (x_7 > 128)) = false →
 rd w1 (Array.size (World.heap w)) (18 + Int.toNat n * 1) = some (Value.int IntKind.i64 x_8)) ∧
 ∃ (x_9 : Int),
 (decide (n < x) = true ∧ (decide (x_6 < 4) || decide (x_7 > 128)) = false →
 rd w1 (Array.size (World.heap w)) 93 = some (Value.int IntKind.i64 x_9)) ∧
 gIf (inB n 8)
 ((decide (n < x) && (decide (x_6 < 4) || decide (x_7 > 128) || decide (x_8 < x_9))) = false ∧
 (!decide (n < x)) = true)
 (∃ (x_10 : Int),
 ((decide (n < x) && (decide (x_6 < 4) || decide (x_7 > 128) || decide (x_8 < x_9))) = false ∧
 (!decide (n < x)) = true →
 rd w1 (Array.size (World.heap w)) (18 + Int.toNat n * 1) = some (Value.int IntKind.i64 x_10)) ∧
 Wif
 (decide (n < x) && (decide (x_6 < 4) || decide (x_7 > 128) || decide (x_8 < x_9)) ||
 !decide (n < x) && x_10 != 0)
 (K (Value.bool false) w1)
 (∃ (I_1 : Bool → Int → World → Nat → Prop),
 (∃ (n : Nat), I_1 b 0 w1 n) ∧
 ∀ (b : Bool) (n_3 : Int) (w' : World) (n_4 : Nat),
 I_1 b n_3 w' n_4 →
 Wif (decide (n_3 < 8))
 (Wif (inB n 8)
 (Wif (inB n_3 8)
 (∃ (x_11 : Int),
 rd w' (Array.size (World.heap w)) (26 + Int.toNat n * 8 + Int.toNat n_3 * 1) =
 some (Value.int IntKind.i64 x_11) ∧
 ∃ (x_12 : Int),
 ((!decide (n < x)) = false →
 rd w' (Array.size (World.heap w)) 0 = some (Value.int IntKind.i64 x_12)) ∧
 Wif ((!decide (n < x) || decide (n_3 ≥ x_12) || n == n_3) && x_11 != 0)
 (K (Value.bool false) w')
 (∃ (x_13 : Int),
 (decide (n < x) = true →
 rd w' (Array.size (World.heap w)) 0 = some (Value.int IntKind.i64 x_13)) ∧
 gIf (inB n_3 8)
 ((decide (n < x) && decide (n_3 < x_13) && n != n_3) = true ∧
 (decide (x_11 < 1) || decide (x_11 > 255)) = false)
 (gIf (inB n 8)
 ((decide (n < x) && decide (n_3 < x_13) && n != n_3) = true ∧
 (decide (x_11 < 1) || decide (x_11 > 255)) = false)
 (∃ (x_14 : Int),
 ((decide (n < x) && decide (n_3 < x_13) && n != n_3) = true ∧
 (decide (x_11 < 1) || decide (x_11 > 255)) = false →
 rd w' (Array.size (World.heap w))
 (26 + Int.toNat n_3 * 8 + Int.toNat n * 1) =
 some (Value.int IntKind.i64 x_14)) ∧
 Wif
 (decide (n < x) && decide (n_3 < x_13) && n != n_3 &&
 (decide (x_11 < 1) || decide (x_11 > 255) || x_11 != x_14))
 (K (Value.bool false) w')
 (∃ (m : Nat),
 Nat.succ m ≤ n_4 ∧
 I_1 b (IntKind.wrap IntKind.i64 (n_3 + 1)) w' m)))))
 False)
 False)
 (∃ (m : Nat), Nat.succ m ≤ n_2 ∧ I b (IntKind.wrap IntKind.i64 (n + 1)) w' m)))))))
 (∃ (x : Int),
 rd w' (Array.size (World.heap w)) 91 = some (Value.int IntKind.i64 x) ∧
 ∃ (x_6 : Int),
 (decide (x ≥ 0) = true → rd w' (Array.size (World.heap w)) 92 = some (Value.int IntKind.i64 x_6)) ∧
 ∃ (x_7 : Int),
 (decide (x ≥ 0) = true → rd w' (Array.size (World.heap w)) 91 = some (Value.int IntKind.i64 x_7)) ∧
 ∃ (x_8 : Int),
 ((decide (x ≥ 0) && decide (x_6 ≥ x_7)) = true → rd w' (Array.size (World.heap w)) 93 = some (Value.int IntKind.i64 x_8)) ∧
 ∃ (x_9 : Int),
 ((decide (x ≥ 0) && decide (x_6 ≥ x_7)) = true → rd w' (Array.size (World.heap w)) 92 = some (Value.int IntKind.i64 x_9)) ∧
 K (Value.bool (decide (x ≥ 0) && decide (x_6 ≥ x_7) && decide (x_8 ≥ x_9))) w')))
theorem vcE36 (c0 : Nat →
 Int) (w : World) (K : Value → World → Prop) : vcP36 c0 w K = Eng.wBody Go.Proofs.Try.prog (Eng.handOf Go.Proofs.Try.prog [44,
 27,
 43,
 50,
 51] 2) [] Go.Proofs.Try.f36 (Eng.bodyOf Go.Proofs.Try.f36) [Value.agg (List.toArray (runI IntKind.i64 c0 0 94))] w K := by kernel_rfl
theorem vc36 (c0 : Nat → Int) (w : World) (K : Value → World → Prop) (h : vcP36 c0 w K) :
 Calls Go.Proofs.Try.prog 36 #[Value.agg (List.toArray (runI IntKind.i64 c0 0 94))] w (fun e w' => ∃ v, e = .returned v ∧ K v w') :=
 Eng.vc_of [44, 27, 43, 50, 51] 2 [] Go.Proofs.Try.mixes Go.Proofs.Try.func36 (by kernel_rfl) (by kernel_rfl) (vcE36 c0 w K) h

-- 126400 ms
/- byre/byreref07.New -/
def vcP37 (c0 : Nat → Int) (w : World) (K : Value → World → Prop) : Prop :=
 ∀ (w' : World),
 w' = World.alloc w (Obj.cells (List.toArray (runI IntKind.i64 c0 0 94)) 41) →
 ∀ (w1 : World),
 w1 = World.drew w' →
 ∃ (x : Nat → Int),
 rdAll w1 (Array.size (World.heap w)) 0 (runI IntKind.i64 x 0 94) ∧
 ∃ (x_1 : Nat → Int),
 rdAll w1 (Array.size (World.heap w)) 0 (runI IntKind.i64 x_1 0 94) ∧
 Calls Proofs.Try.prog 59 #[Value.agg (List.toArray (runI IntKind.i64 x_1 0 94))] w1 fun (e : Ending) (w' : World) =>
 ∃ (a : Option Addr),
 ∃ (l : Nat),
 ∃ (c : Nat),
 e = Ending.returned (Value.slice a l c) ∧
 (rdAll w' (Array.size (World.heap w)) 0 (runI IntKind.i64 x 0 94) ∧ True) ∧
 ∀ (w'_1 : World),
 w'_1 = World.alloc w' (Obj.cells (List.toArray (runI IntKind.i64 x 0 94 ++ [Value.slice none 0 0, Value.slice a l c])) 110) →
 ∃ (I : Int → World → Nat → Prop),
 (∃ (n : Nat), I 0 w'_1 n) ∧
 ∀ (n : Int) (w'_2 : World) (n_1 : Nat),
 I n w'_2 n_1 →
 ∃ (x : Int),
 rd w'_2 (Array.size (World.heap w)) 0 = some (Value.int IntKind.i64 x) ∧
 Wif (decide (n < x))
 (∀ (w1 : World),
 w1 = World.drew w'_2 →
 ∃ (x : Option Addr),
 ∃ (x_2 : Nat),
 ∃ (x_3 : Nat),
 rd w1 (Array.size (World.heap w')) 94 = some (Value.slice x x_2 x_3) ∧
 Wif (inB n 8)
 (∃ (x_4 : Int),
 rd w1 (Array.size (World.heap w)) (18 + Int.toNat n * 1) = some (Value.int IntKind.i64 x_4) ∧
 Calls Proofs.Try.prog 31 #[Value.int IntKind.i64 x_4] w1 fun (e : Ending) (w'_3 : World) =>
 ∃ (p : Option Addr),
 e = Ending.returned (Value.pointer p) ∧
 (rd w'_3 (Array.size (World.heap w')) 94 = some (Value.slice x x_2 x_3) ∧ True) ∧
 ∀ (w'_4 : World),
 w'_4 = World.alloc w'_3 (Obj.cells #[Value.pointer p] 70) →
 (rd w'_4 (Array.size (World.heap w')) 94 = some (Value.slice x x_2 x_3) ∧ True) ∧
 ∃ (a : Option Addr),
 ∃ (l : Nat),
 ∃ (c : Nat),
 ∃ (w'_5 : World),
 appIs Proofs.Try.prog #[108, 108] 108 (Value.slice x x_2 x_3)
 (Value.slice (some (Addr.mk (Array.size (World.heap w'_3)) 0 none)) 1 1) (Value.slice a l c) w'_4 w'_5 ∧
 wr w'_5 (Array.size (World.heap w')) 94 ∧
 ∀ (w'_6 : World),
 w'_6 = st w'_5 (Array.size (World.heap w')) 94 (Value.slice a l c) →
 ∃ (m : Nat), Nat.succ m ≤ n_1 ∧ I (IntKind.wrap IntKind.i64 (n + 1)) w'_6 m)
 False)
 (K (Value.pointer (some (Addr.mk (Array.size (World.heap w')) 0 none))) w'_2)
theorem vcE37 (c0 : Nat →
 Int) (w : World) (K : Value → World → Prop) : vcP37 c0 w K = Eng.wBody Go.Proofs.Try.prog (Eng.handOf Go.Proofs.Try.prog [44,
 27,
 43,
 50,
 51] 2) [] Go.Proofs.Try.f37 (Eng.bodyOf Go.Proofs.Try.f37) [Value.agg (List.toArray (runI IntKind.i64 c0 0 94))] w K := by kernel_rfl
theorem vc37 (c0 : Nat → Int) (w : World) (K : Value → World → Prop) (h : vcP37 c0 w K) :
 Calls Go.Proofs.Try.prog 37 #[Value.agg (List.toArray (runI IntKind.i64 c0 0 94))] w (fun e w' => ∃ v, e = .returned v ∧ K v w') :=
 Eng.vc_of [44, 27, 43, 50, 51] 2 [] Go.Proofs.Try.mixes Go.Proofs.Try.func37 (by kernel_rfl) (by kernel_rfl) (vcE37 c0 w K) h

-- 8051 ms
/- byre/byreref02.Frames -/
def vcP59 (c0 : Nat → Int) (w : World) (K : Value → World → Prop) : Prop :=
 ∀ (w' : World),
 w' = World.alloc w (Obj.cells (List.toArray (runI IntKind.i64 c0 0 94)) 41) →
 ∃ (I : Option Addr → Nat → Nat → Int → World → Nat → Prop),
 (∃ (n : Nat), I none 0 0 0 w' n) ∧
 ∀ (a : Option Addr) (l c : Nat) (n : Int) (w' : World) (n_1 : Nat),
 I a l c n w' n_1 →
 ∃ (x : Nat → Int),
 rdAll w' (Array.size (World.heap w)) 0 (runI IntKind.i64 x 0 94) ∧
 Calls Proofs.Try.prog 36 #[Value.agg (List.toArray (runI IntKind.i64 x 0 94))] w' fun (e : Ending) (w' : World) =>
 ∃ (b : Bool),
 e = Ending.returned (Value.bool b) ∧
 ∃ (x : Int),
 (b = true → rd w' (Array.size (World.heap w)) 0 = some (Value.int IntKind.i64 x)) ∧
 Wif (b && decide (n < x))
 (∃ (I_1 : Option Addr → Nat → Nat → Int → World → Nat → Prop),
 (∃ (n : Nat), I_1 a l c 0 w' n) ∧
 ∀ (a : Option Addr) (l c : Nat) (n_2 : Int) (w' : World) (n_3 : Nat),
 I_1 a l c n_2 w' n_3 →
 Wif (inB n 8)
 (∃ (x : Int),
 rd w' (Array.size (World.heap w)) (18 + Int.toNat n * 1) = some (Value.int IntKind.i64 x) ∧
 Wif (decide (n_2 < x))
 (∀ (w'_1 : World),
 w'_1 = World.alloc w' (Obj.cells #[Value.int IntKind.i64 n] 3) →
 ∃ (a_1 : Option Addr),
 ∃ (l_1 : Nat),
 ∃ (c_1 : Nat),
 ∃ (w'_2 : World),
 appIs Proofs.Try.prog #[42, 42] 42 (Value.slice a l c) (Value.slice (some (Addr.mk (Array.size (World.heap w')) 0 none)) 1 1)
 (Value.slice a_1 l_1 c_1) w'_1 w'_2 ∧
 ∃ (m : Nat), Nat.succ m ≤ n_3 ∧ I_1 a_1 l_1 c_1 (IntKind.wrap IntKind.i64 (n_2 + 1)) w'_2 m)
 (∃ (m : Nat), Nat.succ m ≤ n_1 ∧ I a l c (IntKind.wrap IntKind.i64 (n + 1)) w' m))
 False)
 (K (Value.slice a l c) w')
theorem vcE59 (c0 : Nat →
 Int) (w : World) (K : Value → World → Prop) : vcP59 c0 w K = Eng.wBody Go.Proofs.Try.prog (Eng.handOf Go.Proofs.Try.prog [44,
 27,
 43,
 50,
 51] 2) [] Go.Proofs.Try.f59 (Eng.bodyOf Go.Proofs.Try.f59) [Value.agg (List.toArray (runI IntKind.i64 c0 0 94))] w K := by kernel_rfl
theorem vc59 (c0 : Nat → Int) (w : World) (K : Value → World → Prop) (h : vcP59 c0 w K) :
 Calls Go.Proofs.Try.prog 59 #[Value.agg (List.toArray (runI IntKind.i64 c0 0 94))] w (fun e w' => ∃ v, e = .returned v ∧ K v w') :=
 Eng.vc_of [44, 27, 43, 50, 51] 2 [] Go.Proofs.Try.mixes Go.Proofs.Try.func59 (by kernel_rfl) (by kernel_rfl) (vcE59 c0 w K) h

-- 1784 ms
/- (*byre/byreref07.Zones).Blocks -/
def vcP60 (z : Option Addr) (w : World) (K : Value → World → Prop) : Prop :=
 ∃ (I : Option Addr → Nat → Nat → Int → World → Nat → Prop),
 (∃ (n : Nat), I none 0 0 0 w n) ∧
 ∀ (a : Option Addr) (l c : Nat) (n : Int) (w' : World) (n_1 : Nat),
 I a l c n w' n_1 →
 Wif (isP z)
 (∃ (x : Option Addr),
 ∃ (x_1 : Nat),
 ∃ (x_2 : Nat),
 rd w' (pb z) (po z + 94) = some (Value.slice x x_1 x_2) ∧
 Wif (decide (n < (↑x_1 : Int)))
 (∃ (I_1 : Option Addr → Nat → Nat → Int → World → Nat → Prop),
 (∃ (n : Nat), I_1 a l c 0 w' n) ∧
 ∀ (a : Option Addr) (l c : Nat) (n_2 : Int) (w' : World) (n_3 : Nat),
 I_1 a l c n_2 w' n_3 →
 Wif (isP z)
 (∃ (x : Option Addr),
 ∃ (x_3 : Nat),
 ∃ (x_4 : Nat),
 rd w' (pb z) (po z + 94) = some (Value.slice x x_3 x_4) ∧
 Wif (isP x)
 (Wif (inB n x_3)
 (∃ (x_5 : Option Addr),
 rd w' (pb x) (po x + Int.toNat n * 1) = some (Value.pointer x_5) ∧
 Wif (isP x_5)
 (∃ (x : Option Addr),
 ∃ (x_6 : Nat),
 ∃ (x_7 : Nat),
 rd w' (pb x_5) (po x_5 + 1) = some (Value.slice x x_6 x_7) ∧
 Wif (decide (n_2 < (↑x_6 : Int)))
 (Wif (isP z)
 (∃ (x : Option Addr),
 ∃ (x_8 : Nat),
 ∃ (x_9 : Nat),
 rd w' (pb z) (po z + 94) = some (Value.slice x x_8 x_9) ∧
 Wif (isP x)
 (Wif (inB n x_8)
 (∃ (x_10 : Option Addr),
 rd w' (pb x) (po x + Int.toNat n * 1) = some (Value.pointer x_10) ∧
 Wif (isP x_10)
 (∃ (x : Option Addr),
 ∃ (x_11 : Nat),
 ∃ (x_12 : Nat),
 rd w' (pb x_10) (po x_10 + 1) = some (Value.slice x x_11 x_12) ∧
 Wif (isP x)
 (Wif (inB n_2 x_11)
 (∃ (x_13 : Int),
 ∃ (x_14 : Int),
 (rd w' (pb x) (po x + Int.toNat n_2 * 2) = some (Value.int IntKind.i64 x_13) ∧
 rd w' (pb x) (po x + Int.toNat n_2 * 2 + 1) = some (Value.int IntKind.i64 x_14)) ∧
 ∀ (w'_1 : World),
 w'_1 = World.alloc w' (Obj.cells #[Value.int IntKind.i64 0, Value.int IntKind.i64 0] 58) →
 (wr w'_1 (Array.size (World.heap w')) 0 ∧ wr w'_1 (Array.size (World.heap w')) 1) ∧
 ∀ (w'_2 : World),
 w'_2 =
 st (st w'_1 (Array.size (World.heap w')) 0 (Value.int IntKind.i64 x_13))
 (Array.size (World.heap w')) 1 (Value.int IntKind.i64 x_14) →
 ∀ (w1 : World),
 w1 = World.drew w'_2 →
 ∃ (x : Int),
 rd w1 (Array.size (World.heap w')) 0 = some (Value.int IntKind.i64 x) ∧
 ∃ (x_15 : Int),
 rd w1 (Array.size (World.heap w')) 1 = some (Value.int IntKind.i64 x_15) ∧
 Calls Proofs.Try.prog 63 #[Value.pointer z, Value.int IntKind.i64 n] w1
 fun (e : Ending) (w'_3 : World) =>
 ∃ (n : Int),
 e = Ending.returned (Value.int IntKind.i64 n) ∧
 (rd w'_3 (Array.size (World.heap w')) 1 =
 some (Value.int IntKind.i64 x_15) ∧
 True) ∧
 (rd w'_3 (Array.size (World.heap w')) 0 =
 some (Value.int IntKind.i64 x) ∧
 True) ∧
 ∀ (w' : World),
 w' =
 World.alloc w'_3
 (Obj.cells
 #[Value.int IntKind.i64 (IntKind.wrap IntKind.i64 (n + x)),
 Value.int IntKind.i64 x_15]
 58) →
 ∃ (a_1 : Option Addr),
 ∃ (l_1 : Nat),
 ∃ (c_1 : Nat),
 ∃ (w'_4 : World),
 appIs Proofs.Try.prog #[56, 56] 56 (Value.slice a l c)
 (Value.slice
 (some
 (Addr.mk (Array.size (World.heap w'_3)) 0 none))
 1 1)
 (Value.slice a_1 l_1 c_1) w' w'_4 ∧
 ∃ (m : Nat),
 Nat.succ m ≤ n_3 ∧
 I_1 a_1 l_1 c_1 (IntKind.wrap IntKind.i64 (n_2 + 1))
 w'_4 m)
 False)
 False)
 False)
 False)
 False)
 False)
 (∃ (m : Nat), Nat.succ m ≤ n_1 ∧ I a l c (IntKind.wrap IntKind.i64 (n + 1)) w' m))
 False)
 False)
 False)
 False)
 (K (Value.slice a l c) w'))
 False
theorem vcE60 (z : Option
 Addr) (w : World) (K : Value → World → Prop) : vcP60 z w K = Eng.wBody Go.Proofs.Try.prog (Eng.handOf Go.Proofs.Try.prog [44,
 27,
 43,
 50,
 51] 2) [] Go.Proofs.Try.f60 (Eng.bodyOf Go.Proofs.Try.f60) [Value.pointer z] w K := by kernel_rfl
theorem vc60 (z : Option Addr) (w : World) (K : Value → World → Prop) (h : vcP60 z w K) :
 Calls Go.Proofs.Try.prog 60 #[Value.pointer z] w (fun e w' => ∃ v, e = .returned v ∧ K v w') :=
 Eng.vc_of [44, 27, 43, 50, 51] 2 [] Go.Proofs.Try.mixes Go.Proofs.Try.func60 (by kernel_rfl) (by kernel_rfl) (vcE60 z w K) h

-- 7917 ms
/- (*byre/byreref07.Zones).Free -/
def vcP61 (z : Option Addr) (node : Int) (w : World) (K : Value → World → Prop) : Prop :=
 gIf (isP z) (decide (node < 0) = false)
 (∃ (x : Option Addr),
 ∃ (x_1 : Nat),
 ∃ (x_2 : Nat),
 (decide (node < 0) = false → rd w (pb z) (po z + 94) = some (Value.slice x x_1 x_2)) ∧
 Wif (decide (node < 0) || decide (node ≥ (↑x_1 : Int))) (K (Value.int IntKind.i64 0) w)
 (∃ (I : Int → Int → World → Nat → Prop),
 (∃ (n : Nat), I 0 0 w n) ∧
 ∀ (n n_1 : Int) (w' : World) (n_2 : Nat),
 I n n_1 w' n_2 →
 Wif (isP z)
 (∃ (x : Option Addr),
 ∃ (x_3 : Nat),
 ∃ (x_4 : Nat),
 rd w' (pb z) (po z + 94) = some (Value.slice x x_3 x_4) ∧
 Wif (isP x)
 (Wif (inB node x_3)
 (∃ (x_5 : Option Addr),
 rd w' (pb x) (po x + Int.toNat node * 1) = some (Value.pointer x_5) ∧
 Wif (isP x_5)
 (∃ (x : Option Addr),
 ∃ (x_6 : Nat),
 ∃ (x_7 : Nat),
 rd w' (pb x_5) (po x_5 + 1) = some (Value.slice x x_6 x_7) ∧
 Wif (decide (n_1 < (↑x_6 : Int)))
 (Wif (isP z)
 (∃ (x : Option Addr),
 ∃ (x_8 : Nat),
 ∃ (x_9 : Nat),
 rd w' (pb z) (po z + 94) = some (Value.slice x x_8 x_9) ∧
 Wif (isP x)
 (Wif (inB node x_8)
 (∃ (x_10 : Option Addr),
 rd w' (pb x) (po x + Int.toNat node * 1) = some (Value.pointer x_10) ∧
 Wif (isP x_10)
 (∃ (x : Option Addr),
 ∃ (x_11 : Nat),
 ∃ (x_12 : Nat),
 rd w' (pb x_10) (po x_10 + 1) = some (Value.slice x x_11 x_12) ∧
 Wif (isP x)
 (Wif (inB n_1 x_11)
 (∃ (x_13 : Int),
 rd w' (pb x) (po x + Int.toNat n_1 * 2 + 1) = some (Value.int IntKind.i64 x_13) ∧
 Wif (decide (0 ≤ IntKind.wrap IntKind.u64 x_13))
 (∃ (m : Nat),
 Nat.succ m ≤ n_2 ∧
 I
 (IntKind.wrap IntKind.i64
 (n + IntKind.wrap IntKind.i64 (1 * 2 ^ min (Int.toNat (IntKind.wrap IntKind.u64 x_13)) 64)))
 (IntKind.wrap IntKind.i64 (n_1 + 1)) w' m)
 False)
 False)
 False)
 False)
 False)
 False)
 False)
 (K (Value.int IntKind.i64 n) w'))
 False)
 False)
 False)
 False))
theorem vcE61 (z : Option
 Addr) (node : Int) (w : World) (K : Value → World → Prop) : vcP61 z node w K = Eng.wBody Go.Proofs.Try.prog (Eng.handOf Go.Proofs.Try.prog [44,
 27,
 43,
 50,
 51] 2) [] Go.Proofs.Try.f61 (Eng.bodyOf Go.Proofs.Try.f61) [Value.pointer z, Value.int IntKind.i64 node] w K := by kernel_rfl
theorem vc61 (z : Option Addr) (node : Int) (w : World) (K : Value → World → Prop) (h : vcP61 z node w K) :
 Calls Go.Proofs.Try.prog 61 #[Value.pointer z, Value.int IntKind.i64 node] w (fun e w' => ∃ v, e = .returned v ∧ K v w') :=
 Eng.vc_of [44, 27, 43, 50, 51] 2 [] Go.Proofs.Try.mixes Go.Proofs.Try.func61 (by kernel_rfl) (by kernel_rfl) (vcE61 z node w K) h

-- 4934 ms
/- (*byre/byreref07.Zones).State -/
def vcP62 (z : Option Addr) (node : Int) (w : World) (K : Value → World → Prop) : Prop :=
 Calls Proofs.Try.prog 61 #[Value.pointer z, Value.int IntKind.i64 node] w fun (e : Ending) (w' : World) =>
 ∃ (n : Int),
 e = Ending.returned (Value.int IntKind.i64 n) ∧
 gIf (isP z) (decide (node < 0) = false)
 (∃ (x : Option Addr),
 ∃ (x_1 : Nat),
 ∃ (x_2 : Nat),
 (decide (node < 0) = false → rd w' (pb z) (po z + 94) = some (Value.slice x x_1 x_2)) ∧
 gIf (isP z) ((decide (node < 0) || decide (node ≥ (↑x_1 : Int))) = false)
 (∃ (x : Int),
 ((decide (node < 0) || decide (node ≥ (↑x_1 : Int))) = false → rd w' (pb z) (po z + 91) = some (Value.int IntKind.i64 x)) ∧
 Wif (decide (node < 0) || decide (node ≥ (↑x_1 : Int)) || decide (n ≤ x)) (K (Value.int IntKind.i64 0) w')
 (Wif (isP z)
 (∃ (x : Int),
 rd w' (pb z) (po z + 92) = some (Value.int IntKind.i64 x) ∧
 Wif (decide (n ≤ x)) (K (Value.int IntKind.i64 1) w')
 (Wif (isP z)
 (∃ (x : Int), rd w' (pb z) (po z + 93) = some (Value.int IntKind.i64 x) ∧ Wif (decide (n ≤ x)) (K (Value.int IntKind.i64 2) w') (K (Value.int IntKind.i64 3) w'))
 False))
 False)))
theorem vcE62 (z : Option
 Addr) (node : Int) (w : World) (K : Value → World → Prop) : vcP62 z node w K = Eng.wBody Go.Proofs.Try.prog (Eng.handOf Go.Proofs.Try.prog [44,
 27,
 43,
 50,
 51] 2) [] Go.Proofs.Try.f62 (Eng.bodyOf Go.Proofs.Try.f62) [Value.pointer z, Value.int IntKind.i64 node] w K := by kernel_rfl
theorem vc62 (z : Option Addr) (node : Int) (w : World) (K : Value → World → Prop) (h : vcP62 z node w K) :
 Calls Go.Proofs.Try.prog 62 #[Value.pointer z, Value.int IntKind.i64 node] w (fun e w' => ∃ v, e = .returned v ∧ K v w') :=
 Eng.vc_of [44, 27, 43, 50, 51] 2 [] Go.Proofs.Try.mixes Go.Proofs.Try.func62 (by kernel_rfl) (by kernel_rfl) (vcE62 z node w K) h

-- 2381 ms
/- (*byre/byreref07.Zones).first -/
def vcP63 (z : Option Addr) (node : Int) (w : World) (K : Value → World → Prop) : Prop :=
 ∃ (I : Int → World → Nat → Prop),
 (∃ (n : Nat), I 0 w n) ∧
 ∀ (n : Int) (w' : World) (n_1 : Nat),
 I n w' n_1 →
 Wif (isP z)
 (∃ (x : Option Addr),
 ∃ (x_1 : Nat),
 ∃ (x_2 : Nat),
 rd w' (pb z) (po z + 95) = some (Value.slice x x_1 x_2) ∧
 gIf (isP z) (decide (n < (↑x_1 : Int)) = true)
 (∃ (x : Option Addr),
 ∃ (x_3 : Nat),
 ∃ (x_4 : Nat),
 (decide (n < (↑x_1 : Int)) = true → rd w' (pb z) (po z + 95) = some (Value.slice x x_3 x_4)) ∧
 gIf (isP x) (decide (n < (↑x_1 : Int)) = true)
 (gIf (inB n x_3) (decide (n < (↑x_1 : Int)) = true)
 (∃ (x_5 : Int),
 (decide (n < (↑x_1 : Int)) = true → rd w' (pb x) (po x + Int.toNat n * 1) = some (Value.int IntKind.i64 x_5)) ∧
 Wif (decide (n < (↑x_1 : Int)) && decide (x_5 < node)) (∃ (m : Nat), Nat.succ m ≤ n_1 ∧ I (IntKind.wrap IntKind.i64 (n + 1)) w' m)
 (K (Value.int IntKind.i64 n) w')))))
 False
theorem vcE63 (z : Option
 Addr) (node : Int) (w : World) (K : Value → World → Prop) : vcP63 z node w K = Eng.wBody Go.Proofs.Try.prog (Eng.handOf Go.Proofs.Try.prog [44,
 27,
 43,
 50,
 51] 2) [] Go.Proofs.Try.f63 (Eng.bodyOf Go.Proofs.Try.f63) [Value.pointer z, Value.int IntKind.i64 node] w K := by kernel_rfl
theorem vc63 (z : Option Addr) (node : Int) (w : World) (K : Value → World → Prop) (h : vcP63 z node w K) :
 Calls Go.Proofs.Try.prog 63 #[Value.pointer z, Value.int IntKind.i64 node] w (fun e w' => ∃ v, e = .returned v ∧ K v w') :=
 Eng.vc_of [44, 27, 43, 50, 51] 2 [] Go.Proofs.Try.mixes Go.Proofs.Try.func63 (by kernel_rfl) (by kernel_rfl) (vcE63 z node w K) h

-- 1087 ms
/- (*byre/byreref07.Zones).TakeOf -/
def vcP40 (z : Option Addr) (node : Int) (order : Int) (high : Bool) (w : World) (K : Value → World → Prop) : Prop :=
 gIf (isP z) (decide (node < 0) = false)
 (∃ (x : Option Addr),
 ∃ (x_1 : Nat),
 ∃ (x_2 : Nat),
 (decide (node < 0) = false → rd w (pb z) (po z + 94) = some (Value.slice x x_1 x_2)) ∧
 Wif (decide (node < 0) || decide (node ≥ (↑x_1 : Int))) (K (Value.tuple #[Value.int IntKind.i64 0, Value.int IntKind.i64 7]) w)
 (Wif (isP z)
 (∃ (x : Option Addr),
 ∃ (x_3 : Nat),
 ∃ (x_4 : Nat),
 rd w (pb z) (po z + 94) = some (Value.slice x x_3 x_4) ∧
 Wif (isP x)
 (Wif (inB node x_3)
 (∃ (x_5 : Option Addr),
 rd w (pb x) (po x + Int.toNat node * 1) = some (Value.pointer x_5) ∧
 Calls Proofs.Try.prog 33 #[Value.pointer x_5, Value.int IntKind.i64 order, Value.bool high] w fun (e : Ending) (w' : World) =>
 ∃ (n : Int),
 ∃ (n_1 : Int),
 e = Ending.returned (Value.tuple #[Value.int IntKind.i64 n, Value.int IntKind.i64 n_1]) ∧
 Wif (n_1 != 0) (K (Value.tuple #[Value.int IntKind.i64 0, Value.int IntKind.i64 n_1]) w')
 (Calls Proofs.Try.prog 63 #[Value.pointer z, Value.int IntKind.i64 node] w' fun (e : Ending) (w' : World) =>
 ∃ (n_2 : Int),
 e = Ending.returned (Value.int IntKind.i64 n_2) ∧
 K (Value.tuple #[Value.int IntKind.i64 (IntKind.wrap IntKind.i64 (n_2 + n)), Value.int IntKind.i64 0]) w'))
 False)
 False)
 False))
theorem vcE40 (z : Option
 Addr) (node : Int) (order : Int) (high : Bool) (w : World) (K : Value → World → Prop) : vcP40 z node order high w K = Eng.wBody Go.Proofs.Try.prog (Eng.handOf Go.Proofs.Try.prog [44,
 27,
 43,
 50,
 51] 2) [] Go.Proofs.Try.f40 (Eng.bodyOf Go.Proofs.Try.f40) [Value.pointer z, Value.int IntKind.i64 node, Value.int IntKind.i64 order, Value.bool high] w K := by kernel_rfl
theorem vc40 (z : Option Addr) (node : Int) (order : Int) (high : Bool) (w : World) (K : Value → World → Prop) (h : vcP40 z node order high w K) :
 Calls Go.Proofs.Try.prog 40 #[Value.pointer z, Value.int IntKind.i64 node, Value.int IntKind.i64 order, Value.bool high] w (fun e w' => ∃ v, e = .returned v ∧ K v w') :=
 Eng.vc_of [44, 27, 43, 50, 51] 2 [] Go.Proofs.Try.mixes Go.Proofs.Try.func40 (by kernel_rfl) (by kernel_rfl) (vcE40 z node order high w K) h

-- 1930 ms
/- (*byre/byreref07.Zones).Take -/
def vcP39 (z : Option Addr) (nodes : Option Addr) (nodesL : Nat) (nodesC : Nat) (floor : Int) (high : Bool) (w : World) (K : Value → World → Prop) : Prop :=
 ∃ (I : Int → Int → Int → World → Nat → Prop),
 (∃ (n : Nat), I 0 0 0 w n) ∧
 ∀ (n n_1 n_2 : Int) (w' : World) (n_3 : Nat),
 I n n_1 n_2 w' n_3 →
 Wif (decide (n_2 < (↑nodesL : Int)))
 (∀ (w1 : World),
 w1 = World.drew w' →
 Wif (isP nodes)
 (Wif (inB n_2 nodesL)
 (∃ (x : Int),
 rd w1 (pb nodes) (po nodes + Int.toNat n_2 * 1) = some (Value.int IntKind.i64 x) ∧
 gIf (isP nodes) (decide (x < 0) = false)
 (gIf (inB n_2 nodesL) (decide (x < 0) = false)
 (∃ (x_1 : Int),
 (decide (x < 0) = false → rd w1 (pb nodes) (po nodes + Int.toNat n_2 * 1) = some (Value.int IntKind.i64 x_1)) ∧
 gIf (isP z) (decide (x < 0) = false)
 (∃ (x_2 : Option Addr),
 ∃ (x_3 : Nat),
 ∃ (x_4 : Nat),
 (decide (x < 0) = false → rd w1 (pb z) (po z + 94) = some (Value.slice x_2 x_3 x_4)) ∧
 Wif (decide (x < 0) || decide (x_1 ≥ (↑x_3 : Int))) (K (Value.tuple #[Value.int IntKind.i64 0, Value.int IntKind.i64 2]) w1)
 (∃ (m : Nat), Nat.succ m ≤ n_3 ∧ I n n_1 (IntKind.wrap IntKind.i64 (n_2 + 1)) w1 m)))))
 False)
 False)
 (Wif (decide (floor < 0)) (K (Value.tuple #[Value.int IntKind.i64 0, Value.int IntKind.i64 2]) w')
 (∃ (I : Int → Int → Int → World → Nat → Prop),
 (∃ (n_4 : Nat), I n n_1 0 w' n_4) ∧
 ∀ (n n_4 n_5 : Int) (w' : World) (n_6 : Nat),
 I n n_4 n_5 w' n_6 →
 Wif (decide (n_5 < (↑nodesL : Int)))
 (Wif (isP nodes)
 (Wif (inB n_5 nodesL)
 (∃ (x : Int),
 rd w' (pb nodes) (po nodes + Int.toNat n_5 * 1) = some (Value.int IntKind.i64 x) ∧
 Calls Proofs.Try.prog 61 #[Value.pointer z, Value.int IntKind.i64 x] w' fun (e : Ending) (w' : World) =>
 ∃ (n_7 : Int),
 e = Ending.returned (Value.int IntKind.i64 n_7) ∧
 Wif (decide (n_7 > floor))
 (Wif (isP nodes)
 (Wif (inB n_5 nodesL)
 (∃ (x : Int),
 rd w' (pb nodes) (po nodes + Int.toNat n_5 * 1) = some (Value.int IntKind.i64 x) ∧
 Calls Proofs.Try.prog 40 #[Value.pointer z, Value.int IntKind.i64 x, Value.int IntKind.i64 0, Value.bool high] w' fun (e : Ending) (w' : World) =>
 ∃ (n : Int),
 ∃ (n_8 : Int),
 e = Ending.returned (Value.tuple #[Value.int IntKind.i64 n, Value.int IntKind.i64 n_8]) ∧
 K (Value.tuple #[Value.int IntKind.i64 n, Value.int IntKind.i64 n_8]) w')
 False)
 False)
 (∃ (m : Nat), Nat.succ m ≤ n_6 ∧ I n n_4 (IntKind.wrap IntKind.i64 (n_5 + 1)) w' m))
 False)
 False)
 (K (Value.tuple #[Value.int IntKind.i64 0, Value.int IntKind.i64 6]) w')))
theorem vcE39 (z : Option
 Addr) (nodes : Option
 Addr) (nodesL : Nat) (nodesC : Nat) (floor : Int) (high : Bool) (w : World) (K : Value → World → Prop) : vcP39 z nodes nodesL nodesC floor high w K = Eng.wBody Go.Proofs.Try.prog (Eng.handOf Go.Proofs.Try.prog [44,
 27,
 43,
 50,
 51] 2) [] Go.Proofs.Try.f39 (Eng.bodyOf Go.Proofs.Try.f39) [Value.pointer z, Value.slice nodes nodesL nodesC, Value.int IntKind.i64 floor, Value.bool high] w K := by kernel_rfl
theorem vc39 (z : Option Addr) (nodes : Option Addr) (nodesL : Nat) (nodesC : Nat) (floor : Int) (high : Bool) (w : World) (K : Value → World → Prop) (h : vcP39 z nodes nodesL nodesC floor high w K) :
 Calls Go.Proofs.Try.prog 39 #[Value.pointer z, Value.slice nodes nodesL nodesC, Value.int IntKind.i64 floor, Value.bool high] w (fun e w' => ∃ v, e = .returned v ∧ K v w') :=
 Eng.vc_of [44, 27, 43, 50, 51] 2 [] Go.Proofs.Try.mixes Go.Proofs.Try.func39 (by kernel_rfl) (by kernel_rfl) (vcE39 z nodes nodesL nodesC floor high w K) h

-- 6593 ms
/- (*byre/byreref07.Zones).Give -/
def vcP41 (z : Option Addr) (frame : Int) (order : Int) (w : World) (K : Value → World → Prop) : Prop :=
 gIf (isP z) (decide (frame < 0) = false)
 (∃ (x : Option Addr),
 ∃ (x_1 : Nat),
 ∃ (x_2 : Nat),
 (decide (frame < 0) = false → rd w (pb z) (po z + 95) = some (Value.slice x x_1 x_2)) ∧
 Wif (decide (frame < 0) || decide (frame ≥ (↑x_1 : Int))) (K (Value.int IntKind.i64 7) w)
 (Wif (isP z)
 (∃ (x : Option Addr),
 ∃ (x_3 : Nat),
 ∃ (x_4 : Nat),
 rd w (pb z) (po z + 95) = some (Value.slice x x_3 x_4) ∧
 Wif (isP x)
 (Wif (inB frame x_3)
 (∃ (x_5 : Int),
 rd w (pb x) (po x + Int.toNat frame * 1) = some (Value.int IntKind.i64 x_5) ∧
 ∀ (w1 : World),
 w1 = World.drew w →
 Wif (isP z)
 (∃ (x : Option Addr),
 ∃ (x_6 : Nat),
 ∃ (x_7 : Nat),
 rd w1 (pb z) (po z + 94) = some (Value.slice x x_6 x_7) ∧
 Wif (isP x)
 (Wif (inB x_5 x_6)
 (∃ (x_8 : Option Addr),
 rd w1 (pb x) (po x + Int.toNat x_5 * 1) = some (Value.pointer x_8) ∧
 Calls Proofs.Try.prog 63 #[Value.pointer z, Value.int IntKind.i64 x_5] w1 fun (e : Ending) (w' : World) =>
 ∃ (n : Int),
 e = Ending.returned (Value.int IntKind.i64 n) ∧
 (rd w' (pb x) (po x + Int.toNat x_5 * 1) = some (Value.pointer x_8) ∧ True) ∧
 (rd w' (pb z) (po z + 94) = some (Value.slice x x_6 x_7) ∧ True) ∧
 Calls Proofs.Try.prog 34 #[Value.pointer x_8, Value.int IntKind.i64 (IntKind.wrap IntKind.i64 (frame - n)), Value.int IntKind.i64 order]
 w' fun (e : Ending) (w' : World) => ∃ (n : Int), e = Ending.returned (Value.int IntKind.i64 n) ∧ K (Value.int IntKind.i64 n) w')
 False)
 False)
 False)
 False)
 False)
 False))
theorem vcE41 (z : Option
 Addr) (frame : Int) (order : Int) (w : World) (K : Value → World → Prop) : vcP41 z frame order w K = Eng.wBody Go.Proofs.Try.prog (Eng.handOf Go.Proofs.Try.prog [44,
 27,
 43,
 50,
 51] 2) [] Go.Proofs.Try.f41 (Eng.bodyOf Go.Proofs.Try.f41) [Value.pointer z, Value.int IntKind.i64 frame, Value.int IntKind.i64 order] w K := by kernel_rfl
theorem vc41 (z : Option Addr) (frame : Int) (order : Int) (w : World) (K : Value → World → Prop) (h : vcP41 z frame order w K) :
 Calls Go.Proofs.Try.prog 41 #[Value.pointer z, Value.int IntKind.i64 frame, Value.int IntKind.i64 order] w (fun e w' => ∃ v, e = .returned v ∧ K v w') :=
 Eng.vc_of [44, 27, 43, 50, 51] 2 [] Go.Proofs.Try.mixes Go.Proofs.Try.func41 (by kernel_rfl) (by kernel_rfl) (vcE41 z frame order w K) h

-- 2899 ms

end Go.Proofs.Ytkmcmkimeibjdaa
