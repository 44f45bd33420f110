/-
  A part of a proof that a law of this seat returns true at every input. Conditions: those in each theorem.
-/
import Derived.Test.YtkmcmkimeibjdaaBR1
import Derived.Test.YtkmcmkimeibjdaaBS1
set_option linter.unusedVariables false
set_option maxRecDepth 100000
namespace Go.Proofs.Ytkmcmkimeibjdaa
open Go Go.Eng
/- (*byre/buddy.Buddy).ready -/
def vcP44 (b : Option Addr) (w : World) (K : Value → World → Prop) : Prop :=
 gIf (isP b) ((!Option.isNone b) = true) (∃ (x : Option Nat), ((!Option.isNone b) = true → rd w (pb b) (po b + 12) = some (Value.map x)) ∧ K (Value.bool (!Option.isNone b && !Option.isNone x)) w)
theorem vcE44 (b : Option
 Addr) (w : World) (K : Value → World → Prop) : vcP44 b w K = Eng.wBody Go.Proofs.Try.prog (Eng.handOf Go.Proofs.Try.prog [44] 1) [] Go.Proofs.Try.f44 (Eng.bodyOf Go.Proofs.Try.f44) [Value.pointer
 b] w K := by kernel_rfl
theorem vc44 (b : Option Addr) (w : World) (K : Value → World → Prop) (h : vcP44 b w K) :
 Calls Go.Proofs.Try.prog 44 #[Value.pointer b] w (fun e w' => ∃ v, e = .returned v ∧ K v w') :=
 Eng.vc_of [44] 1 [] Go.Proofs.Try.mixes Go.Proofs.Try.func44 (by kernel_rfl) (by kernel_rfl) (vcE44 b w K) h

-- 225 ms
/- (*byre/buddy.Buddy).Most -/
def vcP17 (b : Option Addr) (w : World) (K : Value → World → Prop) : Prop :=
 ∃ (I : Int → Int → World → Nat → Prop),
 (∃ (n : Nat), I 0 10 w n) ∧
 ∀ (n n_1 : Int) (w' : World) (n_2 : Nat),
 I n n_1 w' n_2 →
 gIf (isP b) ((!Option.isNone b) = true)
 (∃ (x : Option Nat),
 ((!Option.isNone b) = true → rd w' (pb b) (po b + 12) = some (Value.map x)) ∧
 Wif (!Option.isNone b && !Option.isNone x && decide (n_1 ≥ 0))
 (Wif (isP b)
 (Wif (inB n_1 11)
 (∃ (x : Option Nat),
 rd w' (pb b) (po b + 1 + Int.toNat n_1 * 1) = some (Value.map x) ∧
 ∃ (x_1 : Int),
 lenIs Proofs.Try.prog #[75] 3 (Value.map x) x_1 w' ∧
 Wif (decide (x_1 > 0)) (K (Value.int IntKind.i64 n_1) w') (∃ (m : Nat), Nat.succ m ≤ n_2 ∧ I n (IntKind.wrap IntKind.i64 (n_1 - 1)) w' m))
 False)
 False)
 (K (Value.int IntKind.i64 (-1)) w'))
theorem vcE17 (b : Option
 Addr) (w : World) (K : Value → World → Prop) : vcP17 b w K = Eng.wBody Go.Proofs.Try.prog (Eng.handOf Go.Proofs.Try.prog [44] 1) [] Go.Proofs.Try.f17 (Eng.bodyOf Go.Proofs.Try.f17) [Value.pointer
 b] w K := by kernel_rfl
theorem vc17 (b : Option Addr) (w : World) (K : Value → World → Prop) (h : vcP17 b w K) :
 Calls Go.Proofs.Try.prog 17 #[Value.pointer b] w (fun e w' => ∃ v, e = .returned v ∧ K v w') :=
 Eng.vc_of [44] 1 [] Go.Proofs.Try.mixes Go.Proofs.Try.func17 (by kernel_rfl) (by kernel_rfl) (vcE17 b w K) h

-- 492 ms
/- (*byre/buddy.Buddy).Free -/
def vcP19 (b : Option Addr) (w : World) (K : Value → World → Prop) : Prop :=
 gIf (isP b) ((!Option.isNone b) = true)
 (∃ (x : Option Nat),
 ((!Option.isNone b) = true → rd w (pb b) (po b + 12) = some (Value.map x)) ∧
 Wif (!(!Option.isNone b && !Option.isNone x)) (K (Value.int IntKind.i64 0) w)
 (Wif (isP b)
 (∃ (x : Option Nat),
 ∃ (x_1 : Option Nat),
 ∃ (x_2 : Option Nat),
 ∃ (x_3 : Option Nat),
 ∃ (x_4 : Option Nat),
 ∃ (x_5 : Option Nat),
 ∃ (x_6 : Option Nat),
 ∃ (x_7 : Option Nat),
 ∃ (x_8 : Option Nat),
 ∃ (x_9 : Option Nat),
 ∃ (x_10 : Option Nat),
 (rd w (pb b) (po b + 1) = some (Value.map x) ∧
 rd w (pb b) (po b + 2) = some (Value.map x_1) ∧
 rd w (pb b) (po b + 3) = some (Value.map x_2) ∧
 rd w (pb b) (po b + 4) = some (Value.map x_3) ∧
 rd w (pb b) (po b + 5) = some (Value.map x_4) ∧
 rd w (pb b) (po b + 6) = some (Value.map x_5) ∧
 rd w (pb b) (po b + 7) = some (Value.map x_6) ∧
 rd w (pb b) (po b + 8) = some (Value.map x_7) ∧
 rd w (pb b) (po b + 9) = some (Value.map x_8) ∧ rd w (pb b) (po b + 10) = some (Value.map x_9) ∧ rd w (pb b) (po b + 11) = some (Value.map x_10)) ∧
 ∃ (I : Int → Int → World → Nat → Prop),
 (∃ (n : Nat), I 0 0 w n) ∧
 ∀ (n n_1 : Int) (w' : World) (n_2 : Nat),
 I n n_1 w' n_2 →
 Wif (decide (n_1 < 11))
 (Wif (inB n_1 11)
 (∃ (x_11 : Option Nat),
 [Value.map x, Value.map x_1, Value.map x_2, Value.map x_3, Value.map x_4, Value.map x_5, Value.map x_6, Value.map x_7, Value.map x_8, Value.map x_9,
 Value.map x_10][Int.toNat n_1 * 1]? =
 some (Value.map x_11) ∧
 ∃ (x : Int),
 lenIs Proofs.Try.prog #[75] 3 (Value.map x_11) x w' ∧
 Wif (decide (0 ≤ n_1))
 (∃ (m : Nat),
 Nat.succ m ≤ n_2 ∧
 I (IntKind.wrap IntKind.i64 (n + IntKind.wrap IntKind.i64 (x * 2 ^ min (Int.toNat n_1) 64))) (IntKind.wrap IntKind.i64 (n_1 + 1)) w' m)
 False)
 False)
 (K (Value.int IntKind.i64 n) w'))
 False))
theorem vcE19 (b : Option
 Addr) (w : World) (K : Value → World → Prop) : vcP19 b w K = Eng.wBody Go.Proofs.Try.prog (Eng.handOf Go.Proofs.Try.prog [44] 1) [] Go.Proofs.Try.f19 (Eng.bodyOf Go.Proofs.Try.f19) [Value.pointer
 b] w K := by kernel_rfl
theorem vc19 (b : Option Addr) (w : World) (K : Value → World → Prop) (h : vcP19 b w K) :
 Calls Go.Proofs.Try.prog 19 #[Value.pointer b] w (fun e w' => ∃ v, e = .returned v ∧ K v w') :=
 Eng.vc_of [44] 1 [] Go.Proofs.Try.mixes Go.Proofs.Try.func19 (by kernel_rfl) (by kernel_rfl) (vcE19 b w K) h

-- 626 ms
/- (*byre/buddy.Buddy).pick -/
def vcP45 (b : Option Addr) (o : Int) (high : Bool) (w : World) (K : Value → World → Prop) : Prop :=
 Wif (isP b)
 (Wif (inB o 11)
 (∃ (x : Option Nat),
 rd w (pb b) (po b + 1 + Int.toNat o * 1) = some (Value.map x) ∧
 Calls Proofs.Try.prog 66 #[Value.map x] w fun (e : Ending) (w' : World) =>
 ∃ (v : Value),
 e = Ending.returned v ∧
 Calls Proofs.Try.prog 65 #[v] w' fun (e : Ending) (w' : World) =>
 ∃ (a : Option Addr),
 ∃ (l : Nat),
 ∃ (c : Nat),
 e = Ending.returned (Value.slice a l c) ∧
 Wif high
 (Wif (isP a)
 (Wif (inB (IntKind.wrap IntKind.i64 ((↑l : Int) - 1)) l)
 (∃ (x : Int), rd w' (pb a) (po a + Int.toNat (IntKind.wrap IntKind.i64 ((↑l : Int) - 1)) * 1) = some (Value.int IntKind.i64 x) ∧ K (Value.int IntKind.i64 x) w') False)
 False)
 (Wif (isP a) (Wif (inB 0 l) (∃ (x : Int), rd w' (pb a) (po a) = some (Value.int IntKind.i64 x) ∧ K (Value.int IntKind.i64 x) w') False) False))
 False)
 False
theorem vcE45 (b : Option
 Addr) (o : Int) (high : Bool) (w : World) (K : Value → World → Prop) : vcP45 b o high w K = Eng.wBody Go.Proofs.Try.prog (Eng.handOf Go.Proofs.Try.prog [44] 1) [] Go.Proofs.Try.f45 (Eng.bodyOf Go.Proofs.Try.f45) [Value.pointer
 b,
 Value.int IntKind.i64 o, Value.bool high] w K := by kernel_rfl
theorem vc45 (b : Option Addr) (o : Int) (high : Bool) (w : World) (K : Value → World → Prop) (h : vcP45 b o high w K) :
 Calls Go.Proofs.Try.prog 45 #[Value.pointer b, Value.int IntKind.i64 o, Value.bool high] w (fun e w' => ∃ v, e = .returned v ∧ K v w') :=
 Eng.vc_of [44] 1 [] Go.Proofs.Try.mixes Go.Proofs.Try.func45 (by kernel_rfl) (by kernel_rfl) (vcE45 b o high w K) h

-- 616 ms
/- byre/buddy.New -/
def vcP13 (frames : Int) (w : World) (K : Value → World → Prop) : Prop :=
 Wif (decide (frames < 1) || decide (frames > 128)) (K (Value.tuple #[Value.pointer none, Value.int IntKind.i64 2]) w)
 (∀ (w' : World),
 w' = World.alloc w (Obj.map #[] 0) →
 ∀ (w'_1 : World),
 w'_1 = World.alloc w' (Obj.cells (List.toArray ([Value.int IntKind.i64 frames] ++ (List.replicate 11 (Value.map none) ++ [Value.map (some (Array.size (World.heap w)))]))) 78) →
 ∃ (I : Int → World → Nat → Prop),
 (∃ (n : Nat), I 0 w'_1 n) ∧
 ∀ (n : Int) (w'_2 : World) (n_1 : Nat),
 I n w'_2 n_1 →
 Wif (decide (n < 11))
 (∀ (w'_3 : World),
 w'_3 = World.alloc w'_2 (Obj.map #[] 0) →
 Wif (inB n 11)
 (wr w'_3 (Array.size (World.heap w')) (1 + Int.toNat n * 1) ∧
 ∀ (w'_4 : World),
 w'_4 = st w'_3 (Array.size (World.heap w')) (1 + Int.toNat n * 1) (Value.map (some (Array.size (World.heap w'_2)))) →
 ∃ (m : Nat), Nat.succ m ≤ n_1 ∧ I (IntKind.wrap IntKind.i64 (n + 1)) w'_4 m)
 False)
 (∃ (I : Int → World → Nat → Prop),
 (∃ (n : Nat), I 0 w'_2 n) ∧
 ∀ (n : Int) (w'_3 : World) (n_2 : Nat),
 I n w'_3 n_2 →
 Wif (decide (n < frames))
 (∃ (I_1 : Int → World → Nat → Prop),
 (∃ (n : Nat), I_1 0 w'_3 n) ∧
 ∀ (n_3 : Int) (w'_4 : World) (n_4 : Nat),
 I_1 n_3 w'_4 n_4 →
 gIf (decide (0 ≤ IntKind.wrap IntKind.i64 (n_3 + 1))) (decide (n_3 < 10) = true)
 (gIf (decide (0 ≤ IntKind.wrap IntKind.i64 (n_3 + 1)))
 ((decide (n_3 < 10) &&
 bitsI BinOp.and IntKind.i64 n
 (IntKind.wrap IntKind.i64 (IntKind.wrap IntKind.i64 (1 * 2 ^ min (Int.toNat (IntKind.wrap IntKind.i64 (n_3 + 1))) 64) - 1)) ==
 0) =
 true)
 (Wif
 (decide (n_3 < 10) &&
 bitsI BinOp.and IntKind.i64 n
 (IntKind.wrap IntKind.i64 (IntKind.wrap IntKind.i64 (1 * 2 ^ min (Int.toNat (IntKind.wrap IntKind.i64 (n_3 + 1))) 64) - 1)) ==
 0 &&
 decide (IntKind.wrap IntKind.i64 (n + IntKind.wrap IntKind.i64 (1 * 2 ^ min (Int.toNat (IntKind.wrap IntKind.i64 (n_3 + 1))) 64)) ≤ frames))
 (∃ (m : Nat), Nat.succ m ≤ n_4 ∧ I_1 (IntKind.wrap IntKind.i64 (n_3 + 1)) w'_4 m)
 (Wif (inB n_3 11)
 (∃ (x : Option Nat),
 rd w'_4 (Array.size (World.heap w')) (1 + Int.toNat n_3 * 1) = some (Value.map x) ∧
 ∃ (w' : World),
 updIs Proofs.Try.prog 75 (Value.map x) (Value.int IntKind.i64 n) (Value.bool true) w'_4 w' ∧
 Wif (decide (0 ≤ n_3))
 (∃ (m : Nat), Nat.succ m ≤ n_2 ∧ I (IntKind.wrap IntKind.i64 (n + IntKind.wrap IntKind.i64 (1 * 2 ^ min (Int.toNat n_3) 64))) w' m) False)
 False))))
 (K (Value.tuple #[Value.pointer (some (Addr.mk (Array.size (World.heap w')) 0 none)), Value.int IntKind.i64 0]) w'_3)))
theorem vcE13 (frames : Int) (w : World) (K : Value → World → Prop) : vcP13 frames w K = Eng.wBody Go.Proofs.Try.prog (Eng.handOf Go.Proofs.Try.prog [44] 1) [] Go.Proofs.Try.f13 (Eng.bodyOf Go.Proofs.Try.f13) [Value.int
 IntKind.i64 frames] w K := by kernel_rfl
theorem vc13 (frames : Int) (w : World) (K : Value → World → Prop) (h : vcP13 frames w K) :
 Calls Go.Proofs.Try.prog 13 #[Value.int IntKind.i64 frames] w (fun e w' => ∃ v, e = .returned v ∧ K v w') :=
 Eng.vc_of [44] 1 [] Go.Proofs.Try.mixes Go.Proofs.Try.func13 (by kernel_rfl) (by kernel_rfl) (vcE13 frames w K) h

-- 6300 ms
/- (*byre/buddy.Buddy).Take -/
def vcP15 (b : Option Addr) (order : Int) (high : Bool) (w : World) (K : Value → World → Prop) : Prop :=
 gIf (isP b) ((!Option.isNone b) = true)
 (∃ (x : Option Nat),
 ((!Option.isNone b) = true → rd w (pb b) (po b + 12) = some (Value.map x)) ∧
 Wif (!(!Option.isNone b && !Option.isNone x)) (K (Value.tuple #[Value.int IntKind.i64 0, Value.int IntKind.i64 1]) w)
 (Wif (decide (order < 0) || decide (order > 10)) (K (Value.tuple #[Value.int IntKind.i64 0, Value.int IntKind.i64 2]) w)
 (∃ (I : Int → World → Nat → Prop),
 (∃ (n : Nat), I order w n) ∧
 ∀ (n : Int) (w' : World) (n_1 : Nat),
 I n w' n_1 →
 gIf (isP b) (decide (n ≤ 10) = true)
 (gIf (inB n 11) (decide (n ≤ 10) = true)
 (∃ (x : Option Nat),
 (decide (n ≤ 10) = true → rd w' (pb b) (po b + 1 + Int.toNat n * 1) = some (Value.map x)) ∧
 ∃ (x_1 : Int),
 (decide (n ≤ 10) = true → lenIs Proofs.Try.prog #[75] 3 (Value.map x) x_1 w') ∧
 Wif (decide (n ≤ 10) && x_1 == 0) (∃ (m : Nat), Nat.succ m ≤ n_1 ∧ I (IntKind.wrap IntKind.i64 (n + 1)) w' m)
 (Wif (decide (n > 10)) (K (Value.tuple #[Value.int IntKind.i64 0, Value.int IntKind.i64 6]) w')
 (Calls Proofs.Try.prog 45 #[Value.pointer b, Value.int IntKind.i64 n, Value.bool high] w' fun (e : Ending) (w' : World) =>
 ∃ (n_2 : Int),
 e = Ending.returned (Value.int IntKind.i64 n_2) ∧
 Wif (isP b)
 (Wif (inB n 11)
 (∃ (x : Option Nat),
 rd w' (pb b) (po b + 1 + Int.toNat n * 1) = some (Value.map x) ∧
 ∃ (w'_1 : World),
 delIs Proofs.Try.prog #[75, 3] 0 (Value.map x) (Value.int IntKind.i64 n_2) w' w'_1 ∧
 ∃ (I : Int → Int → World → Nat → Prop),
 (∃ (n_3 : Nat), I n n_2 w'_1 n_3) ∧
 ∀ (n n_3 : Int) (w' : World) (n_4 : Nat),
 I n n_3 w' n_4 →
 Wif (decide (n > order))
 (Wif high
 (Wif (isP b)
 (Wif (inB (IntKind.wrap IntKind.i64 (n - 1)) 11)
 (∃ (x : Option Nat),
 rd w' (pb b) (po b + 1 + Int.toNat (IntKind.wrap IntKind.i64 (n - 1)) * 1) = some (Value.map x) ∧
 ∃ (w'_2 : World),
 updIs Proofs.Try.prog 75 (Value.map x) (Value.int IntKind.i64 n_3) (Value.bool true) w' w'_2 ∧
 Wif (decide (0 ≤ IntKind.wrap IntKind.i64 (n - 1)))
 (∃ (m : Nat),
 Nat.succ m ≤ n_4 ∧
 I (IntKind.wrap IntKind.i64 (n - 1))
 (IntKind.wrap IntKind.i64
 (n_3 + IntKind.wrap IntKind.i64 (1 * 2 ^ min (Int.toNat (IntKind.wrap IntKind.i64 (n - 1))) 64)))
 w'_2 m)
 False)
 False)
 False)
 (∀ (w1 : World),
 w1 = World.drew w' →
 Wif (isP b)
 (Wif (inB (IntKind.wrap IntKind.i64 (n - 1)) 11)
 (∃ (x : Option Nat),
 rd w1 (pb b) (po b + 1 + Int.toNat (IntKind.wrap IntKind.i64 (n - 1)) * 1) = some (Value.map x) ∧
 Wif (decide (0 ≤ IntKind.wrap IntKind.i64 (n - 1)))
 (∃ (w' : World),
 updIs Proofs.Try.prog 75 (Value.map x)
 (Value.int IntKind.i64
 (IntKind.wrap IntKind.i64
 (n_3 + IntKind.wrap IntKind.i64 (1 * 2 ^ min (Int.toNat (IntKind.wrap IntKind.i64 (n - 1))) 64))))
 (Value.bool true) w1 w' ∧
 ∃ (m : Nat), Nat.succ m ≤ n_4 ∧ I (IntKind.wrap IntKind.i64 (n - 1)) n_3 w' m)
 False)
 False)
 False))
 (Wif (isP b)
 (∃ (x : Option Nat),
 rd w' (pb b) (po b + 12) = some (Value.map x) ∧
 ∃ (w'_2 : World),
 updIs Proofs.Try.prog 49 (Value.map x) (Value.int IntKind.i64 n_3) (Value.int IntKind.i64 order) w' w'_2 ∧
 K (Value.tuple #[Value.int IntKind.i64 n_3, Value.int IntKind.i64 0]) w'_2)
 False))
 False)
 False)))))))
theorem vcE15 (b : Option
 Addr) (order : Int) (high : Bool) (w : World) (K : Value → World → Prop) : vcP15 b order high w K = Eng.wBody Go.Proofs.Try.prog (Eng.handOf Go.Proofs.Try.prog [44] 1) [] Go.Proofs.Try.f15 (Eng.bodyOf Go.Proofs.Try.f15) [Value.pointer
 b,
 Value.int IntKind.i64 order, Value.bool high] w K := by kernel_rfl
theorem vc15 (b : Option Addr) (order : Int) (high : Bool) (w : World) (K : Value → World → Prop) (h : vcP15 b order high w K) :
 Calls Go.Proofs.Try.prog 15 #[Value.pointer b, Value.int IntKind.i64 order, Value.bool high] w (fun e w' => ∃ v, e = .returned v ∧ K v w') :=
 Eng.vc_of [44] 1 [] Go.Proofs.Try.mixes Go.Proofs.Try.func15 (by kernel_rfl) (by kernel_rfl) (vcE15 b order high w K) h

-- 12853 ms
/- (*byre/buddy.Buddy).Give -/
def vcP16 (b : Option Addr) (at' : Int) (order : Int) (w : World) (K : Value → World → Prop) : Prop :=
 gIf (isP b) ((!Option.isNone b) = true)
 (∃ (x : Option Nat),
 ((!Option.isNone b) = true → rd w (pb b) (po b + 12) = some (Value.map x)) ∧
 Wif (!(!Option.isNone b && !Option.isNone x)) (K (Value.int IntKind.i64 1) w)
 (Wif (isP b)
 (∃ (x : Option Nat),
 rd w (pb b) (po b + 12) = some (Value.map x) ∧
 ∃ (x_1 : Int),
 ∃ (x_2 : Bool),
 lookIs Proofs.Try.prog 49 (Value.map x) (Value.int IntKind.i64 at') true (Value.tuple #[Value.int IntKind.i64 x_1, Value.bool x_2]) w ∧
 Wif (!x_2 || x_1 != order) (K (Value.int IntKind.i64 2) w)
 (Wif (isP b)
 (∃ (x : Option Nat),
 rd w (pb b) (po b + 12) = some (Value.map x) ∧
 ∃ (w' : World),
 delIs Proofs.Try.prog #[49, 3] 0 (Value.map x) (Value.int IntKind.i64 at') w w' ∧
 ∃ (I : Int → Int → World → Nat → Prop),
 (∃ (n : Nat), I at' order w' n) ∧
 ∀ (n n_1 : Int) (w' : World) (n_2 : Nat),
 I n n_1 w' n_2 →
 ∀ (w1 : World),
 w1 = World.drew w' →
 gIf (isP b) (decide (n_1 < 10) = true)
 (gIf (inB n_1 11) (decide (n_1 < 10) = true)
 (∃ (x : Option Nat),
 (decide (n_1 < 10) = true → rd w1 (pb b) (po b + 1 + Int.toNat n_1 * 1) = some (Value.map x)) ∧
 gIf (decide (0 ≤ n_1)) (decide (n_1 < 10) = true)
 (∃ (x_3 : Bool),
 (decide (n_1 < 10) = true →
 lookIs Proofs.Try.prog 75 (Value.map x)
 (Value.int IntKind.i64 (bitsI BinOp.xor IntKind.i64 n (IntKind.wrap IntKind.i64 (1 * 2 ^ min (Int.toNat n_1) 64)))) false
 (Value.bool x_3) w1) ∧
 Wif (decide (n_1 < 10) && x_3)
 (∀ (w1_1 : World),
 w1_1 = World.drew w1 →
 Wif (isP b)
 (Wif (inB n_1 11)
 (∃ (x : Option Nat),
 rd w1_1 (pb b) (po b + 1 + Int.toNat n_1 * 1) = some (Value.map x) ∧
 Wif (decide (0 ≤ n_1))
 (∃ (w' : World),
 delIs Proofs.Try.prog #[75, 3] 0 (Value.map x)
 (Value.int IntKind.i64 (bitsI BinOp.xor IntKind.i64 n (IntKind.wrap IntKind.i64 (1 * 2 ^ min (Int.toNat n_1) 64))))
 w1_1 w' ∧
 Wif (decide (0 ≤ n_1))
 (∃ (m : Nat),
 Nat.succ m ≤ n_2 ∧
 I (bitsI BinOp.andNot IntKind.i64 n (IntKind.wrap IntKind.i64 (1 * 2 ^ min (Int.toNat n_1) 64)))
 (IntKind.wrap IntKind.i64 (n_1 + 1)) w' m)
 False)
 False)
 False)
 False)
 (Wif (isP b)
 (Wif (inB n_1 11)
 (∃ (x : Option Nat),
 rd w1 (pb b) (po b + 1 + Int.toNat n_1 * 1) = some (Value.map x) ∧
 ∃ (w' : World),
 updIs Proofs.Try.prog 75 (Value.map x) (Value.int IntKind.i64 n) (Value.bool true) w1 w' ∧ K (Value.int IntKind.i64 0) w')
 False)
 False)))))
 False))
 False))
theorem vcE16 (b : Option
 Addr) (at' : Int) (order : Int) (w : World) (K : Value → World → Prop) : vcP16 b at' order w K = Eng.wBody Go.Proofs.Try.prog (Eng.handOf Go.Proofs.Try.prog [44] 1) [] Go.Proofs.Try.f16 (Eng.bodyOf Go.Proofs.Try.f16) [Value.pointer
 b,
 Value.int IntKind.i64 at', Value.int IntKind.i64 order] w K := by kernel_rfl
theorem vc16 (b : Option Addr) (at' : Int) (order : Int) (w : World) (K : Value → World → Prop) (h : vcP16 b at' order w K) :
 Calls Go.Proofs.Try.prog 16 #[Value.pointer b, Value.int IntKind.i64 at', Value.int IntKind.i64 order] w (fun e w' => ∃ v, e = .returned v ∧ K v w') :=
 Eng.vc_of [44] 1 [] Go.Proofs.Try.mixes Go.Proofs.Try.func16 (by kernel_rfl) (by kernel_rfl) (vcE16 b at' order w K) h

-- 7432 ms
/- (*byre/buddy.Buddy).Copy -/
def vcP18 (b : Option Addr) (w : World) (K : Value → World → Prop) : Prop :=
 gIf (isP b) ((!Option.isNone b) = true)
 (∃ (x : Option Nat),
 ((!Option.isNone b) = true → rd w (pb b) (po b + 12) = some (Value.map x)) ∧
 Wif (!(!Option.isNone b && !Option.isNone x)) (K (Value.pointer none) w)
 (∀ (w1 : World),
 w1 = World.drew w →
 Wif (isP b)
 (∃ (x : Int),
 rd w1 (pb b) (po b) = some (Value.int IntKind.i64 x) ∧
 Wif (isP b)
 (∃ (x_1 : Option Nat),
 rd w1 (pb b) (po b + 12) = some (Value.map x_1) ∧
 Calls Proofs.Try.prog 46 #[Value.map x_1] w1 fun (e : Ending) (w' : World) =>
 ∃ (r : Option Nat),
 e = Ending.returned (Value.map r) ∧
 (rd w' (pb b) (po b) = some (Value.int IntKind.i64 x) ∧ True) ∧
 ∀ (w'_1 : World),
 w'_1 = World.alloc w' (Obj.cells (List.toArray ([Value.int IntKind.i64 x] ++ (List.replicate 11 (Value.map none) ++ [Value.map r]))) 78) →
 ∃ (I : Int → World → Nat → Prop),
 (∃ (n : Nat), I 0 w'_1 n) ∧
 ∀ (n : Int) (w'_2 : World) (n_1 : Nat),
 I n w'_2 n_1 →
 Wif (decide (n < 11))
 (∀ (w1 : World),
 w1 = World.drew w'_2 →
 Wif (isP b)
 (Wif (inB n 11)
 (∃ (x : Option Nat),
 rd w1 (pb b) (po b + 1 + Int.toNat n * 1) = some (Value.map x) ∧
 Calls Proofs.Try.prog 47 #[Value.map x] w1 fun (e : Ending) (w'_3 : World) =>
 ∃ (r : Option Nat),
 e = Ending.returned (Value.map r) ∧
 Wif (inB n 11)
 (wr w'_3 (Array.size (World.heap w')) (1 + Int.toNat n * 1) ∧
 ∀ (w'_4 : World),
 w'_4 = st w'_3 (Array.size (World.heap w')) (1 + Int.toNat n * 1) (Value.map r) →
 ∃ (m : Nat), Nat.succ m ≤ n_1 ∧ I (IntKind.wrap IntKind.i64 (n + 1)) w'_4 m)
 False)
 False)
 False)
 (K (Value.pointer (some (Addr.mk (Array.size (World.heap w')) 0 none))) w'_2))
 False)
 False))
theorem vcE18 (b : Option
 Addr) (w : World) (K : Value → World → Prop) : vcP18 b w K = Eng.wBody Go.Proofs.Try.prog (Eng.handOf Go.Proofs.Try.prog [44] 1) [] Go.Proofs.Try.f18 (Eng.bodyOf Go.Proofs.Try.f18) [Value.pointer
 b] w K := by kernel_rfl
theorem vc18 (b : Option Addr) (w : World) (K : Value → World → Prop) (h : vcP18 b w K) :
 Calls Go.Proofs.Try.prog 18 #[Value.pointer b] w (fun e w' => ∃ v, e = .returned v ∧ K v w') :=
 Eng.vc_of [44] 1 [] Go.Proofs.Try.mixes Go.Proofs.Try.func18 (by kernel_rfl) (by kernel_rfl) (vcE18 b w K) h

-- 2758 ms

end Go.Proofs.Ytkmcmkimeibjdaa
set_option linter.unusedVariables false
set_option maxRecDepth 100000
namespace Go.Proofs.Ytkmcmkimeibjdaa
open Go Go.Eng
/- byre/byrelaw06.known -/
def vcP14 (w : World) (K : Value → World → Prop) : Prop :=
 Calls Proofs.Try.prog 13 #[Value.int IntKind.i64 8] w fun (e : Ending) (w' : World) =>
 ∃ (p : Option Addr),
 ∃ (n : Int),
 e = Ending.returned (Value.tuple #[Value.pointer p, Value.int IntKind.i64 n]) ∧
 Wif (Option.isNone p || n != 0) (K (Value.bool false) w')
 (Calls Proofs.Try.prog 15 #[Value.pointer p, Value.int IntKind.i64 0, Value.bool false] w' fun (e : Ending) (w' : World) =>
 ∃ (n : Int),
 ∃ (n_1 : Int),
 e = Ending.returned (Value.tuple #[Value.int IntKind.i64 n, Value.int IntKind.i64 n_1]) ∧
 Calls Proofs.Try.prog 15 #[Value.pointer p, Value.int IntKind.i64 2, Value.bool false] w' fun (e : Ending) (w' : World) =>
 ∃ (n_2 : Int),
 ∃ (n_3 : Int),
 e = Ending.returned (Value.tuple #[Value.int IntKind.i64 n_2, Value.int IntKind.i64 n_3]) ∧
 Wif (n == 0 && n_1 == 0 && n_2 == 4 && n_3 == 0)
 (Calls Proofs.Try.prog 19 #[Value.pointer p] w' fun (e : Ending) (w' : World) =>
 ∃ (n : Int),
 e = Ending.returned (Value.int IntKind.i64 n) ∧
 Wif (n == 3)
 (Calls Proofs.Try.prog 16 #[Value.pointer p, Value.int IntKind.i64 0, Value.int IntKind.i64 0] w' fun (e : Ending) (w' : World) =>
 ∃ (n : Int),
 e = Ending.returned (Value.int IntKind.i64 n) ∧
 Wif (n == 0)
 (Calls Proofs.Try.prog 16 #[Value.pointer p, Value.int IntKind.i64 4, Value.int IntKind.i64 2] w' fun (e : Ending) (w' : World) =>
 ∃ (n : Int),
 e = Ending.returned (Value.int IntKind.i64 n) ∧
 Wif (n == 0)
 (Calls Proofs.Try.prog 17 #[Value.pointer p] w' fun (e : Ending) (w' : World) =>
 ∃ (n : Int), e = Ending.returned (Value.int IntKind.i64 n) ∧ K (Value.bool (n == 3)) w')
 (K (Value.bool false) w'))
 (K (Value.bool false) w'))
 (K (Value.bool false) w'))
 (K (Value.bool false) w'))
theorem vcE14 (w : World) (K : Value → World → Prop) : vcP14  w K = Eng.wBody Go.Proofs.Try.prog (Eng.handOf Go.Proofs.Try.prog [44] 1) [] Go.Proofs.Try.f14 (Eng.bodyOf Go.Proofs.Try.f14) [] w K := by kernel_rfl
theorem vc14 (w : World) (K : Value → World → Prop) (h : vcP14  w K) :
 Calls Go.Proofs.Try.prog 14 #[] w (fun e w' => ∃ v, e = .returned v ∧ K v w') :=
 Eng.vc_of [44] 1 [] Go.Proofs.Try.mixes Go.Proofs.Try.func14 (by kernel_rfl) (by kernel_rfl) (vcE14  w K) h

-- 4868 ms
/- byre/byrelaw06.BuddyMost -/
def vcP3 (n : Int) (l : Option Addr) (lL : Nat) (lC : Nat) (w : World) (K : Value → World → Prop) : Prop :=
 Calls Proofs.Try.prog 13 #[Value.int IntKind.i64 n] w fun (e : Ending) (w' : World) =>
 ∃ (p : Option Addr),
 ∃ (n : Int),
 e = Ending.returned (Value.tuple #[Value.pointer p, Value.int IntKind.i64 n]) ∧
 Wif (n != 0 || Option.isNone p || decide ((↑lL : Int) > 200))
 (Calls Proofs.Try.prog 14 #[] w' fun (e : Ending) (w' : World) => ∃ (b : Bool), e = Ending.returned (Value.bool b) ∧ K (Value.bool b) w')
 (∃ (I : Int → World → Nat → Prop),
 (∃ (n : Nat), I 0 w' n) ∧
 ∀ (n : Int) (w' : World) (n_1 : Nat),
 I n w' n_1 →
 Wif (decide (n < (↑lL : Int)))
 (Wif (isP l)
 (Wif (inB n lL)
 (∃ (x : Int),
 rd w' (pb l) (po l + Int.toNat n * 4) = some (Value.int IntKind.i64 x) ∧
 Wif (x == 1)
 (∀ (w1 : World),
 w1 = World.drew w' →
 Wif (isP l)
 (Wif (inB n lL)
 (∃ (x : Int),
 rd w1 (pb l) (po l + Int.toNat n * 4 + 2) = some (Value.int IntKind.i64 x) ∧
 Wif (isP l)
 (Wif (inB n lL)
 (∃ (x_1 : Bool),
 rd w1 (pb l) (po l + Int.toNat n * 4 + 3) = some (Value.bool x_1) ∧
 Calls Proofs.Try.prog 15 #[Value.pointer p, Value.int IntKind.i64 x, Value.bool x_1] w1 fun (e : Ending) (w' : World) =>
 ∃ (n_2 : Int),
 ∃ (n_3 : Int),
 e = Ending.returned (Value.tuple #[Value.int IntKind.i64 n_2, Value.int IntKind.i64 n_3]) ∧
 ∃ (m : Nat), Nat.succ m ≤ n_1 ∧ I (IntKind.wrap IntKind.i64 (n + 1)) w' m)
 False)
 False)
 False)
 False)
 (Wif (x == 2)
 (∀ (w1 : World),
 w1 = World.drew w' →
 Wif (isP l)
 (Wif (inB n lL)
 (∃ (x : Int),
 rd w1 (pb l) (po l + Int.toNat n * 4 + 1) = some (Value.int IntKind.i64 x) ∧
 Wif (isP l)
 (Wif (inB n lL)
 (∃ (x_1 : Int),
 rd w1 (pb l) (po l + Int.toNat n * 4 + 2) = some (Value.int IntKind.i64 x_1) ∧
 Calls Proofs.Try.prog 16 #[Value.pointer p, Value.int IntKind.i64 x, Value.int IntKind.i64 x_1] w1 fun (e : Ending) (w' : World) =>
 ∃ (n_2 : Int), e = Ending.returned (Value.int IntKind.i64 n_2) ∧ ∃ (m : Nat), Nat.succ m ≤ n_1 ∧ I (IntKind.wrap IntKind.i64 (n + 1)) w' m)
 False)
 False)
 False)
 False)
 (∃ (m : Nat), Nat.succ m ≤ n_1 ∧ I (IntKind.wrap IntKind.i64 (n + 1)) w' m)))
 False)
 False)
 (Calls Proofs.Try.prog 17 #[Value.pointer p] w' fun (e : Ending) (w' : World) =>
 ∃ (n : Int),
 e = Ending.returned (Value.int IntKind.i64 n) ∧
 ∃ (I : Bool → Int → World → Nat → Prop),
 (∃ (n : Nat), I false 0 w' n) ∧
 ∀ (b : Bool) (n_2 : Int) (w' : World) (n_3 : Nat),
 I b n_2 w' n_3 →
 Wif (decide (n_2 < 11))
 (∃ (I_1 : Bool → Int → World → Nat → Prop),
 (∃ (n : Nat), I_1 b 0 w' n) ∧
 ∀ (b : Bool) (n_4 : Int) (w' : World) (n_5 : Nat),
 I_1 b n_4 w' n_5 →
 Wif (decide (n_4 < 2))
 (Wif (inB n_4 2)
 (∃ (x : Bool),
 [Value.bool false, Value.bool true][Int.toNat n_4 * 1]? = some (Value.bool x) ∧
 Calls Proofs.Try.prog 18 #[Value.pointer p] w' fun (e : Ending) (w' : World) =>
 ∃ (p_1 : Option Addr),
 e = Ending.returned (Value.pointer p_1) ∧
 Wif (Option.isNone p_1) (K (Value.bool false) w')
 (Calls Proofs.Try.prog 15 #[Value.pointer p_1, Value.int IntKind.i64 n_2, Value.bool x] w' fun (e : Ending) (w' : World) =>
 ∃ (n_6 : Int),
 ∃ (n_7 : Int),
 e = Ending.returned (Value.tuple #[Value.int IntKind.i64 n_6, Value.int IntKind.i64 n_7]) ∧
 Wif (!(n_7 == 0) == decide (n_2 ≤ n) || n_7 != 0 && n_7 != 6) (K (Value.bool false) w')
 (∀ (w1 : World),
 w1 = World.drew w' →
 gIf (decide (0 ≤ n_2)) ((n_7 == 0) = true)
 (Wif (n_7 == 0)
 (Calls Proofs.Try.prog 19 #[Value.pointer p_1] w1 fun (e : Ending) (w' : World) =>
 ∃ (n_8 : Int),
 e = Ending.returned (Value.int IntKind.i64 n_8) ∧
 Calls Proofs.Try.prog 19 #[Value.pointer p] w' fun (e : Ending) (w' : World) =>
 ∃ (n_9 : Int),
 e = Ending.returned (Value.int IntKind.i64 n_9) ∧
 Wif (n_8 != IntKind.wrap IntKind.i64 (n_9 - IntKind.wrap IntKind.i64 (1 * 2 ^ min (Int.toNat n_2) 64)))
 (K (Value.bool false) w')
 (Calls Proofs.Try.prog 16 #[Value.pointer p_1, Value.int IntKind.i64 n_6, Value.int IntKind.i64 n_2] w'
 fun (e : Ending) (w' : World) =>
 ∃ (n_10 : Int),
 e = Ending.returned (Value.int IntKind.i64 n_10) ∧
 Wif (n_10 != 0) (K (Value.bool false) w')
 (Calls Proofs.Try.prog 17 #[Value.pointer p_1] w' fun (e : Ending) (w' : World) =>
 ∃ (n_11 : Int),
 e = Ending.returned (Value.int IntKind.i64 n_11) ∧
 Wif (n_11 != n) (K (Value.bool false) w')
 (Calls Proofs.Try.prog 19 #[Value.pointer p_1] w' fun (e : Ending) (w' : World) =>
 ∃ (n : Int),
 e = Ending.returned (Value.int IntKind.i64 n) ∧
 Calls Proofs.Try.prog 19 #[Value.pointer p] w' fun (e : Ending) (w' : World) =>
 ∃ (n_12 : Int),
 e = Ending.returned (Value.int IntKind.i64 n_12) ∧
 Wif (n != n_12) (K (Value.bool false) w')
 (∃ (m : Nat),
 Nat.succ m ≤ n_5 ∧ I_1 b (IntKind.wrap IntKind.i64 (n_4 + 1)) w' m)))))
 (∃ (m : Nat), Nat.succ m ≤ n_5 ∧ I_1 b (IntKind.wrap IntKind.i64 (n_4 + 1)) w1 m)))))
 False)
 (∃ (m : Nat), Nat.succ m ≤ n_3 ∧ I b (IntKind.wrap IntKind.i64 (n_2 + 1)) w' m))
 (Calls Proofs.Try.prog 14 #[] w' fun (e : Ending) (w' : World) => ∃ (b : Bool), e = Ending.returned (Value.bool b) ∧ K (Value.bool b) w')))
theorem vcE3 (n : Int) (l : Option
 Addr) (lL : Nat) (lC : Nat) (w : World) (K : Value → World → Prop) : vcP3 n l lL lC w K = Eng.wBody Go.Proofs.Try.prog (Eng.handOf Go.Proofs.Try.prog [44] 1) [] Go.Proofs.Try.f3 (Eng.bodyOf Go.Proofs.Try.f3) [Value.int
 IntKind.i64 n,
 Value.slice l lL lC] w K := by kernel_rfl
theorem vc3 (n : Int) (l : Option Addr) (lL : Nat) (lC : Nat) (w : World) (K : Value → World → Prop) (h : vcP3 n l lL lC w K) :
 Calls Go.Proofs.Try.prog 3 #[Value.int IntKind.i64 n, Value.slice l lL lC] w (fun e w' => ∃ v, e = .returned v ∧ K v w') :=
 Eng.vc_of [44] 1 [] Go.Proofs.Try.mixes Go.Proofs.Try.func3 (by kernel_rfl) (by kernel_rfl) (vcE3 n l lL lC w K) h

-- 64937 ms

end Go.Proofs.Ytkmcmkimeibjdaa
namespace Go.Proofs.Ytkmcmkimeibjdaa
open Go Eng
set_option linter.unusedSimpArgs false
set_option linter.unusedVariables false
set_option maxRecDepth 100000

/-! ### a buddy -/
abbrev ptr (b : Nat) : Value := .pointer (some ⟨b, 0, none⟩)
structure Bst where
  n : Int
  F : Nat → List Int
  T : List (Int × Int)
abbrev ent1 (l : List Int) : List (Int × Value) := l.map fun a => (a, Value.bool true)
abbrev entT (l : List (Int × Int)) : List (Int × Value) := l.map fun p => (p.1, Value.int .i64 p.2)
def braw (n : Int) (m : Nat → Nat) (t : Nat) : List Value := .int .i64 n :: ((List.range 11).map fun o => Value.map (some (m o))) ++ [.map (some t)]
theorem braw_len (n : Int) (m : Nat → Nat) (t : Nat) : (braw n m t).length = 13 := by simp [braw]
theorem braw_0 (n : Int) (m : Nat → Nat) (t : Nat) : (braw n m t)[0]? = some (.int .i64 n) := rfl
theorem braw_12 (n : Int) (m : Nat → Nat) (t : Nat) : (braw n m t)[12]? = some (.map (some t)) := rfl
theorem braw_m (n : Int) (m : Nat → Nat) (t : Nat) {o : Nat} (h : o < 11) : (braw n m t)[1 + o]? = some (.map (some (m o))) := by
  rw [Nat.add_comm]
  simp only [braw, List.cons_append, List.getElem?_cons_succ]
  rw [List.getElem?_append_left (by simpa using h)]
  simp [h]
structure BAt (w : World) (b : Nat) (m : Nat → Nat) (t : Nat) (s : Bst) : Prop where
  so : own w b (braw s.n m t)
  mf : ∀ o, o < 11 → MapIs w (m o) (ent1 (s.F o))
  mt : MapIs w t (entT s.T)
  dm : ∀ o o', o < 11 → o' < 11 → o ≠ o' → m o ≠ m o'
  dt : ∀ o, o < 11 → m o ≠ t ∧ m o ≠ b
  db : t ≠ b
/-- the blocks of it -/
def bblk (b : Nat) (m : Nat → Nat) (t : Nat) (x : Nat) : Prop := x = b ∨ x = t ∨ ∃ o, o < 11 ∧ x = m o
section
variable {w w' : World} {b t : Nat} {m : Nat → Nat} {s : Bst}
theorem BAt.kx {X : Nat → Prop} (h : BAt w b m t s) (k : Kept X w w') (hx : ∀ x, X x → ¬ bblk b m t x) : BAt w' b m t s :=
  ⟨h.so.kx k fun e => hx _ e (.inl rfl), fun o ho => (h.mf o ho).kx k fun e => hx _ e (.inr (.inr ⟨o, ho, rfl⟩)), h.mt.kx k fun e => hx _ e (.inr (.inl rfl)), h.dm, h.dt, h.db⟩
theorem BAt.k (h : BAt w b m t s) (k : Kept none' w w') : BAt w' b m t s := h.kx k fun _ e => e.elim
theorem BAt.lt (h : BAt w b m t s) {x : Nat} (hx : bblk b m t x) : x < w.heap.size := by
  rcases hx with rfl | rfl | ⟨o, ho, rfl⟩
  · exact h.so.lt
  · exact h.mt.lt
  · exact (h.mf o ho).lt
theorem BAt.r0 (h : BAt w b m t s) : rd w b 0 = some (.int .i64 s.n) := (h.so.rd 0).trans (braw_0 ..)
theorem BAt.r12 (h : BAt w b m t s) : rd w b 12 = some (.map (some t)) := (h.so.rd 12).trans (braw_12 ..)
theorem BAt.rm (h : BAt w b m t s) {o : Nat} (ho : o < 11) : rd w b (1 + o) = some (.map (some (m o))) := (h.so.rd _).trans (braw_m _ _ _ ho)
end
end Go.Proofs.Ytkmcmkimeibjdaa
namespace Go.Proofs.Ytkmcmkimeibjdaa
open Go Eng
set_option linter.unusedSimpArgs false
set_option linter.unusedVariables false
set_option maxRecDepth 100000
/-- no list is longer than a node has frames -/
def Small (s : Bst) : Prop := ∀ o, o < 11 → (s.F o).length ≤ 1000000
def mostOf (s : Bst) : Nat → Int
  | 0 => -1
  | o + 1 => if 0 < (s.F o).length then o else mostOf s o
section
variable {w w' : World} {b t : Nat} {m : Nat → Nat} {s : Bst}
theorem BAt.len (h : BAt w b m t s) (hs : Small s) {o : Nat} (ho : o < 11) {ty : TypeId} : lenIs Try.prog #[75] ty (.map (some (m o))) (s.F o).length w := by
  have := len_map Try.underlying75 Try.underlying3 (h.mf o ho) (by simpa using hs o ho) (ty := ty)
  simpa using this
theorem most_spec (h : BAt w b m t s) (hs : Small s) : Calls Try.prog 17 #[ptr b] w fun r w' => r = .returned (.int .i64 (mostOf s 11)) ∧ w' = w := by
  refine (vc17 _ w (fun v w' => v = .int .i64 (mostOf s 11) ∧ w' = w) ?_).mono ?_
  · unfold vcP17
    simp only [isP_some, Wif_true, gIf_true, pb_some, po_some, Nat.zero_add]
    refine ⟨fun _ k w' n => w' = w ∧ ∃ q : Nat, k = (q : Int) - 1 ∧ q ≤ 11 ∧ q = n ∧ mostOf s 11 = mostOf s q, ⟨11, rfl, 11, rfl, by omega, rfl, rfl⟩, ?_⟩
    rintro _ k w1 n ⟨rfl, q, rfl, hq, rfl, hm⟩
    refine ⟨_, fun _ => h.r12, Wif_intro (fun hc => ?_) (fun hc => ?_)⟩
    · have hq0 : 0 < q := by simp at hc; omega
      obtain ⟨o, rfl⟩ : ∃ o, q = o + 1 := ⟨q - 1, by omega⟩
      have e1 : (((o + 1 : Nat) : Int) - 1) = (o : Int) := by omega
      rw [e1]
      refine Wif_yes (inB_of (by omega) (by omega)) ⟨_, by rw [Int.toNat_natCast, Nat.mul_one]; exact h.rm (by omega), _, h.len hs (by omega), Wif_intro (fun hp => ?_) (fun hp => ?_)⟩
      · refine ⟨?_, rfl⟩
        rw [hm]
        unfold mostOf
        rw [if_pos (by simpa using hp)]
      · refine ⟨o, Nat.le_refl _, rfl, o, by rw [wi (by omega)], by omega, rfl, ?_⟩
        rw [hm]
        conv => lhs; unfold mostOf
        rw [if_neg (by simpa using hp)]
    · have hq0 : q = 0 := by simp at hc; omega
      subst hq0
      exact ⟨by rw [hm]; rfl, rfl⟩
  · rintro e w' ⟨v, rfl, rfl, hw⟩
    exact ⟨rfl, hw⟩
end
end Go.Proofs.Ytkmcmkimeibjdaa
