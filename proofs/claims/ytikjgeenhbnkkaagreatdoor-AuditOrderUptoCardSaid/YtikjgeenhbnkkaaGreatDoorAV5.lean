/-
  A part of a proof that a law of this seat returns true at every input. Conditions: those in each theorem.
-/
import Derived.Test.YtikjgeenhbnkkaaGreatDoorAV4
import Derived.Test.YtikjgeenhbnkkaaGreatDoorAV6
set_option linter.unusedVariables false
set_option maxRecDepth 100000
namespace Go.Proofs.YtikjgeenhbnkkaaGreatDoor
open Go Go.Eng
open Go.Value (slice)
/- (*byre/audit.looker).frames -/
def vcP20 (k : Option Addr) (w : World) (K : Value → World → Prop) : Prop := Wif (isP k) (∃ (x : Option Addr) (x_1 x_2 : Nat), rd w (pb k) (po k + 107) = some (.slice x x_1 x_2) ∧ ∃ (I : Option Addr → Nat → Nat → Int → World → Nat → Prop), (∃ (n : Nat), I none 0 0 0 w n) ∧ ∀ (a : Option Addr) (l c : Nat) (n : Int) (w' : World) (n_1 : Nat), I a l c n w' n_1 → Wif (decide (n < (↑x_1 : Int))) (Wif (isP x) (Wif (inB n x_1) (∃ (x_3 : Option Addr) (x_4 x_5 : Nat), rd w' (pb x) (po x + Int.toNat n * 1) = some (.slice x_3 x_4 x_5) ∧ Wif ((↑x_4 : Int) != 1) (∀ (w'_1 : World), w'_1 = World.alloc w' (Obj.cells #[Value.int .i64 n] 3) → ∃ (a_1 : Option Addr) (l_1 c_1 : Nat) (w'_2 : World), appIs Tryz.prog #[31, 31] 31 (slice a l c) (slice (some (Addr.mk w'.heap.size 0 none)) 1 1) (slice a_1 l_1 c_1) w'_1 w'_2 ∧ ∃ (m : Nat), Nat.succ m ≤ n_1 ∧ I a_1 l_1 c_1 (IntKind.wrap .i64 (n + 1)) w'_2 m) (∃ (m : Nat), Nat.succ m ≤ n_1 ∧ I a l c (IntKind.wrap .i64 (n + 1)) w' m)) False) False) (K (slice a l c) w')) False
theorem vcE20 (k : Option Addr) (w : World) (K : Value → World → Prop) : vcP20 k w K = Eng.wBody Tryz.prog (Eng.handOf Tryz.prog [] 2) [] Tryz.f20 (Eng.bodyOf Tryz.f20) [Value.pointer k] w K := by kernel_rfl
theorem vc20 (k : Option Addr) (w : World) (K : Value → World → Prop) (h : vcP20 k w K) : Calls Tryz.prog 20 #[Value.pointer k] w (fun e w' => ∃ v, e = .returned v ∧ K v w') := Eng.vc_of [] 2 [] Tryz.mixes Tryz.func20 (by kernel_rfl) (by kernel_rfl) (vcE20 k w K) h
/- (*byre/audit.looker).roles -/
def vcP21 (k : Option Addr) (w : World) (K : Value → World → Prop) : Prop := Wif (isP k) (∃ (x : Option Addr) (x_1 x_2 : Nat), rd w (pb k) (po k + 107) = some (.slice x x_1 x_2) ∧ ∃ (I : Option Addr → Nat → Nat → Int → World → Nat → Prop), (∃ (n : Nat), I none 0 0 0 w n) ∧ ∀ (a : Option Addr) (l c : Nat) (n : Int) (w' : World) (n_1 : Nat), I a l c n w' n_1 → Wif (decide (n < (↑x_1 : Int))) (Wif (isP x) (Wif (inB n x_1) (∃ (x_3 : Option Addr) (x_4 x_5 : Nat), rd w' (pb x) (po x + Int.toNat n * 1) = some (.slice x_3 x_4 x_5) ∧ gIf (isP x_3) (((↑x_4 : Int) == 1) = true) (gIf (inB 0 x_4) (((↑x_4 : Int) == 1) = true) (∃ (x : Int), (((↑x_4 : Int) == 1) = true → rd w' (pb x_3) (po x_3) = some (.int .i64 x)) ∧ Wif ((↑x_4 : Int) == 1) (Calls Tryz.prog 57 #[Value.pointer k, Value.int .i64 n, Value.int .i64 x] w' fun (e : Ending) (w' : World) => ∃ (b : Bool), e = Ending.returned (Value.bool b) ∧ Wif (!b) (∀ (w'_1 : World), w'_1 = World.alloc w' (Obj.cells #[Value.int .i64 n] 3) → ∃ (a_1 : Option Addr) (l_1 c_1 : Nat) (w'_2 : World), appIs Tryz.prog #[31, 31] 31 (slice a l c) (slice (some (Addr.mk w'.heap.size 0 none)) 1 1) (slice a_1 l_1 c_1) w'_1 w'_2 ∧ ∃ (m : Nat), Nat.succ m ≤ n_1 ∧ I a_1 l_1 c_1 (IntKind.wrap .i64 (n + 1)) w'_2 m) (∃ (m : Nat), Nat.succ m ≤ n_1 ∧ I a l c (IntKind.wrap .i64 (n + 1)) w' m)) (∃ (m : Nat), Nat.succ m ≤ n_1 ∧ I a l c (IntKind.wrap .i64 (n + 1)) w' m)))) False) False) (K (slice a l c) w')) False
theorem vcE21 (k : Option Addr) (w : World) (K : Value → World → Prop) : vcP21 k w K = Eng.wBody Tryz.prog (Eng.handOf Tryz.prog [] 2) [] Tryz.f21 (Eng.bodyOf Tryz.f21) [Value.pointer k] w K := by kernel_rfl
theorem vc21 (k : Option Addr) (w : World) (K : Value → World → Prop) (h : vcP21 k w K) : Calls Tryz.prog 21 #[Value.pointer k] w (fun e w' => ∃ v, e = .returned v ∧ K v w') := Eng.vc_of [] 2 [] Tryz.mixes Tryz.func21 (by kernel_rfl) (by kernel_rfl) (vcE21 k w K) h
/- (*byre/audit.looker).locks -/
def vcP27 (k : Option Addr) (w : World) (K : Value → World → Prop) : Prop := Wif (isP k) (∃ (x : Option Addr) (x_1 x_2 : Nat), rd w (pb k) (po k + 106) = some (.slice x x_1 x_2) ∧ ∃ (I : Option Addr → Nat → Nat → Int → World → Nat → Prop), (∃ (n : Nat), I none 0 0 0 w n) ∧ ∀ (a : Option Addr) (l c : Nat) (n : Int) (w' : World) (n_1 : Nat), I a l c n w' n_1 → Wif (decide (n < (↑x_1 : Int))) (Wif (isP x) (Wif (inB n x_1) (∃ (x_3 : Int), rd w' (pb x) (po x + Int.toNat n * 1) = some (.int .i64 x_3) ∧ gIf (isP k) (decide (x_3 < -1) = false) (∃ (x : Int), (decide (x_3 < -1) = false → rd w' (pb k) (po k + 1) = some (.int .i64 x)) ∧ Wif (decide (x_3 < -1) || decide (x_3 ≥ x)) (∀ (w'_1 : World), w'_1 = World.alloc w' (Obj.cells #[Value.int .i64 n] 3) → ∃ (a_1 : Option Addr) (l_1 c_1 : Nat) (w'_2 : World), appIs Tryz.prog #[31, 31] 31 (slice a l c) (slice (some (Addr.mk w'.heap.size 0 none)) 1 1) (slice a_1 l_1 c_1) w'_1 w'_2 ∧ ∃ (m : Nat), Nat.succ m ≤ n_1 ∧ I a_1 l_1 c_1 (IntKind.wrap .i64 (n + 1)) w'_2 m) (∃ (m : Nat), Nat.succ m ≤ n_1 ∧ I a l c (IntKind.wrap .i64 (n + 1)) w' m))) False) False) (K (slice a l c) w')) False
theorem vcE27 (k : Option Addr) (w : World) (K : Value → World → Prop) : vcP27 k w K = Eng.wBody Tryz.prog (Eng.handOf Tryz.prog [] 2) [] Tryz.f27 (Eng.bodyOf Tryz.f27) [Value.pointer k] w K := by kernel_rfl
theorem vc27 (k : Option Addr) (w : World) (K : Value → World → Prop) (h : vcP27 k w K) : Calls Tryz.prog 27 #[Value.pointer k] w (fun e w' => ∃ v, e = .returned v ∧ K v w') := Eng.vc_of [] 2 [] Tryz.mixes Tryz.func27 (by kernel_rfl) (by kernel_rfl) (vcE27 k w K) h
/- byre/audit.just -/
def vcP107 (l : Option Addr) (lL : Nat) (lC : Nat) (o0 : Int) (o1 : Int) (o2 : Int) (w : World) (K : Value → World → Prop) : Prop := ∀ (w' : World), w' = World.alloc w (Obj.cells #[Value.int .i64 o0, Value.int .i64 o1, Value.int .i64 o2] 63) → ∃ (I : Int → Int → World → Nat → Prop), (∃ (n : Nat), I 0 0 w' n) ∧ ∀ (n n_1 : Int) (w' : World) (n_2 : Nat), I n n_1 w' n_2 → Wif (decide (n_1 < (↑lL : Int))) (Wif (isP l) (Wif (inB n_1 lL) (∃ (x x_1 x_2 : Int), (rd w' (pb l) (po l + Int.toNat n_1 * 3) = some (.int .i64 x) ∧ rd w' (pb l) (po l + Int.toNat n_1 * 3 + 1) = some (.int .i64 x_1) ∧ rd w' (pb l) (po l + Int.toNat n_1 * 3 + 2) = some (.int .i64 x_2)) ∧ ∀ (w'_1 : World), w'_1 = World.alloc w' (Obj.cells #[Value.int .i64 0, Value.int .i64 0, Value.int .i64 0] 63) → (wr w'_1 w'.heap.size 0 ∧ wr w'_1 w'.heap.size 1 ∧ wr w'_1 w'.heap.size 2) ∧ ∀ (w'_2 : World), w'_2 = st (st (st w'_1 w'.heap.size 0 (Value.int .i64 x)) w'.heap.size 1 (Value.int .i64 x_1)) w'.heap.size 2 (Value.int .i64 x_2) → ∃ (x : Int), rd w'_2 w'.heap.size 0 = some (.int .i64 x) ∧ ∃ (x_3 : Int), rd w'_2 w.heap.size 0 = some (.int .i64 x_3) ∧ Wif (x == x_3) (∃ (m : Nat), Nat.succ m ≤ n_2 ∧ I (IntKind.wrap .i64 (n + 1)) (IntKind.wrap .i64 (n_1 + 1)) w'_2 m) (∃ (m : Nat), Nat.succ m ≤ n_2 ∧ I n (IntKind.wrap .i64 (n_1 + 1)) w'_2 m)) False) False) (∃ (x x_1 x_2 : Int), ((n == 1) = true → rd w' w.heap.size 0 = some (.int .i64 x) ∧ rd w' w.heap.size 1 = some (.int .i64 x_1) ∧ rd w' w.heap.size 2 = some (.int .i64 x_2)) ∧ Wif (n == 1) (Calls Tryz.prog 140 #[slice l lL lC, Value.agg #[Value.int .i64 x, Value.int .i64 x_1, Value.int .i64 x_2]] w' fun (e : Ending) (w' : World) => ∃ (b : Bool), e = Ending.returned (Value.bool b) ∧ K (Value.bool b) w') (K (Value.bool false) w'))
theorem vcE107 (l : Option Addr) (lL : Nat) (lC : Nat) (o0 : Int) (o1 : Int) (o2 : Int) (w : World) (K : Value → World → Prop) : vcP107 l lL lC o0 o1 o2 w K = Eng.wBody Tryz.prog (Eng.handOf Tryz.prog [] 2) [] Tryz.f107 (Eng.bodyOf Tryz.f107) [slice l lL lC, Value.agg #[Value.int .i64 o0, Value.int .i64 o1, Value.int .i64 o2]] w K := by kernel_rfl
theorem vc107 (l : Option Addr) (lL : Nat) (lC : Nat) (o0 : Int) (o1 : Int) (o2 : Int) (w : World) (K : Value → World → Prop) (h : vcP107 l lL lC o0 o1 o2 w K) : Calls Tryz.prog 107 #[slice l lL lC, Value.agg #[Value.int .i64 o0, Value.int .i64 o1, Value.int .i64 o2]] w (fun e w' => ∃ v, e = .returned v ∧ K v w') := Eng.vc_of [] 2 [] Tryz.mixes Tryz.func107 (by kernel_rfl) (by kernel_rfl) (vcE107 l lL lC o0 o1 o2 w K) h
/- (*byre/audit.looker).entries$1 -/
def vcP59 (m0 : Int) (m1 : Int) (m2 : Int) (c1_0 : Option Addr) (c1_1 : Option Addr) (w : World) (K : Value → World → Prop) : Prop := ∀ (w' : World), w' = World.alloc w (Obj.cells #[Value.int .i64 m0, Value.int .u8 m1, Value.int .i64 m2] 52) → Wif (isP c1_0) (∃ (x : Option Addr), rd w' (pb c1_0) (po c1_0) = some (.pointer x) ∧ Wif (isP c1_1) (∃ (x_1 x_2 : Int) (x_3 : Option Addr) (x_4 x_5 : Nat) (x_6 : Option Addr) (x_7 x_8 : Nat) (x_9 : Option Addr) (x_10 x_11 : Nat) (x_12 : Option Addr) (x_13 x_14 : Nat), (rd w' (pb c1_1) (po c1_1) = some (.int .i64 x_1) ∧ rd w' (pb c1_1) (po c1_1 + 1) = some (.int .i64 x_2) ∧ rd w' (pb c1_1) (po c1_1 + 2) = some (.slice x_3 x_4 x_5) ∧ rd w' (pb c1_1) (po c1_1 + 3) = some (.slice x_6 x_7 x_8) ∧ rd w' (pb c1_1) (po c1_1 + 4) = some (.slice x_9 x_10 x_11) ∧ rd w' (pb c1_1) (po c1_1 + 5) = some (.slice x_12 x_13 x_14)) ∧ ∃ (x_15 x_16 x_17 : Int), (rd w' w.heap.size 0 = some (.int .i64 x_15) ∧ rd w' w.heap.size 1 = some (.int .u8 x_16) ∧ rd w' w.heap.size 2 = some (.int .i64 x_17)) ∧ Calls Tryz.prog 60 #[Value.pointer x, Value.agg #[Value.int .i64 x_1, Value.int .i64 x_2, slice x_3 x_4 x_5, slice x_6 x_7 x_8, slice x_9 x_10 x_11, slice x_12 x_13 x_14], Value.agg #[Value.int .i64 x_15, Value.int .u8 x_16, Value.int .i64 x_17]] w' fun (e : Ending) (w' : World) => ∃ (b : Bool), e = Ending.returned (Value.bool b) ∧ K (Value.bool !b) w') False) False
theorem vcE59 (m0 : Int) (m1 : Int) (m2 : Int) (c1_0 : Option Addr) (c1_1 : Option Addr) (w : World) (K : Value → World → Prop) : vcP59 m0 m1 m2 c1_0 c1_1 w K = Eng.wBody Tryz.prog (Eng.handOf Tryz.prog [] 2) [] Tryz.f59 (Eng.bodyOf Tryz.f59) [Value.agg #[Value.int .i64 m0, Value.int .u8 m1, Value.int .i64 m2], Value.pointer c1_0, Value.pointer c1_1] w K := by kernel_rfl
theorem vc59 (m0 : Int) (m1 : Int) (m2 : Int) (c1_0 : Option Addr) (c1_1 : Option Addr) (w : World) (K : Value → World → Prop) (h : vcP59 m0 m1 m2 c1_0 c1_1 w K) : Calls Tryz.prog 59 #[Value.agg #[Value.int .i64 m0, Value.int .u8 m1, Value.int .i64 m2], Value.pointer c1_0, Value.pointer c1_1] w (fun e w' => ∃ v, e = .returned v ∧ K v w') := Eng.vc_of [] 2 [] Tryz.mixes Tryz.func59 (by kernel_rfl) (by kernel_rfl) (vcE59 m0 m1 m2 c1_0 c1_1 w K) h
/- (*byre/audit.looker).slots$1 -/
def vcP66 (s : Int) (c1_0 : Option Addr) (c1_1 : Option Addr) (w : World) (K : Value → World → Prop) : Prop := Wif (isP c1_0) (∃ (x : Option Nat), rd w (pb c1_0) (po c1_0) = some (.map x) ∧ ∃ (x_1 : Int), lookIs Tryz.prog 99 (Value.map x) (Value.int .i64 s) false (Value.int .i64 x_1) w ∧ gIf (isP c1_1) ((x_1 == 1) = true) (∃ (x : Option Nat), ((x_1 == 1) = true → rd w (pb c1_1) (po c1_1) = some (.map x)) ∧ ∃ (x_2 : Int), ((x_1 == 1) = true → lookIs Tryz.prog 99 (Value.map x) (Value.int .i64 s) false (Value.int .i64 x_2) w) ∧ K (Value.bool (x_1 == 1 && x_2 == 1)) w)) False
theorem vcE66 (s : Int) (c1_0 : Option Addr) (c1_1 : Option Addr) (w : World) (K : Value → World → Prop) : vcP66 s c1_0 c1_1 w K = Eng.wBody Tryz.prog (Eng.handOf Tryz.prog [] 2) [] Tryz.f66 (Eng.bodyOf Tryz.f66) [Value.int .i64 s, Value.pointer c1_0, Value.pointer c1_1] w K := by kernel_rfl
theorem vc66 (s : Int) (c1_0 : Option Addr) (c1_1 : Option Addr) (w : World) (K : Value → World → Prop) (h : vcP66 s c1_0 c1_1 w K) : Calls Tryz.prog 66 #[Value.int .i64 s, Value.pointer c1_0, Value.pointer c1_1] w (fun e w' => ∃ v, e = .returned v ∧ K v w') := Eng.vc_of [] 2 [] Tryz.mixes Tryz.func66 (by kernel_rfl) (by kernel_rfl) (vcE66 s c1_0 c1_1 w K) h
/- (*byre/audit.looker).pins$1 -/
def vcP72 (m0 : Int) (m1 : Int) (m2 : Int) (c1_0 : Option Addr) (w : World) (K : Value → World → Prop) : Prop := ∀ (w' : World), w' = World.alloc w (Obj.cells #[Value.int .i64 m0, Value.int .u8 m1, Value.int .i64 m2] 52) → ∃ (x : Int), rd w' w.heap.size 0 = some (.int .i64 x) ∧ Wif (isP c1_0) (∃ (x_1 : Int), rd w' (pb c1_0) (po c1_0) = some (.int .i64 x_1) ∧ ∃ (x_2 : Int), ((x == x_1) = true → rd w' w.heap.size 1 = some (.int .u8 x_2)) ∧ K (Value.bool (x == x_1 && x_2 == 1)) w') False
theorem vcE72 (m0 : Int) (m1 : Int) (m2 : Int) (c1_0 : Option Addr) (w : World) (K : Value → World → Prop) : vcP72 m0 m1 m2 c1_0 w K = Eng.wBody Tryz.prog (Eng.handOf Tryz.prog [] 2) [] Tryz.f72 (Eng.bodyOf Tryz.f72) [Value.agg #[Value.int .i64 m0, Value.int .u8 m1, Value.int .i64 m2], Value.pointer c1_0] w K := by kernel_rfl
theorem vc72 (m0 : Int) (m1 : Int) (m2 : Int) (c1_0 : Option Addr) (w : World) (K : Value → World → Prop) (h : vcP72 m0 m1 m2 c1_0 w K) : Calls Tryz.prog 72 #[Value.agg #[Value.int .i64 m0, Value.int .u8 m1, Value.int .i64 m2], Value.pointer c1_0] w (fun e w' => ∃ v, e = .returned v ∧ K v w') := Eng.vc_of [] 2 [] Tryz.mixes Tryz.func72 (by kernel_rfl) (by kernel_rfl) (vcE72 m0 m1 m2 c1_0 w K) h
/- (*byre/audit.looker).marked -/
def vcP57 (k : Option Addr) (f : Int) (t : Int) (w : World) (K : Value → World → Prop) : Prop := Wif (isP k) (∃ (x : Option Addr) (x_1 x_2 : Nat), rd w (pb k) (po k + 94) = some (.slice x x_1 x_2) ∧ Wif (isP x) (Wif (inB f x_1) (∃ (x_3 x_4 x_5 x_6 x_7 : Int), (rd w (pb x) (po x + Int.toNat f * 5) = some (.int .u8 x_3) ∧ rd w (pb x) (po x + Int.toNat f * 5 + 1) = some (.int .i64 x_4) ∧ rd w (pb x) (po x + Int.toNat f * 5 + 2) = some (.int .i64 x_5) ∧ rd w (pb x) (po x + Int.toNat f * 5 + 3) = some (.int .i64 x_6) ∧ rd w (pb x) (po x + Int.toNat f * 5 + 4) = some (.int .i64 x_7)) ∧ ∀ (w' : World), w' = World.alloc w (Obj.cells #[Value.int .u8 0, Value.int .i64 0, Value.int .i64 0, Value.int .i64 0, Value.int .i64 0] 61) → (wr w' w.heap.size 0 ∧ wr w' w.heap.size 1 ∧ wr w' w.heap.size 2 ∧ wr w' w.heap.size 3 ∧ wr w' w.heap.size 4) ∧ ∀ (w'_1 : World), w'_1 = st (st (st (st (st w' w.heap.size 0 (Value.int .u8 x_3)) w.heap.size 1 (Value.int .i64 x_4)) w.heap.size 2 (Value.int .i64 x_5)) w.heap.size 3 (Value.int .i64 x_6)) w.heap.size 4 (Value.int .i64 x_7) → Wif (t == 0) (∃ (x : Int), rd w'_1 w.heap.size 0 = some (.int .u8 x) ∧ K (Value.bool (x == 1)) w'_1) (Wif (t == 1) (∃ (x : Int), rd w'_1 w.heap.size 0 = some (.int .u8 x) ∧ K (Value.bool (x != 1)) w'_1) (Wif (t == 2) (∃ (x : Int), rd w'_1 w.heap.size 0 = some (.int .u8 x) ∧ K (Value.bool (x == 3)) w'_1) (Wif (t == 3) (Wif (isP k) (∃ (x : Option Nat), rd w'_1 (pb k) (po k + 108) = some (.map x) ∧ ∃ (x_8 x_9 x_10 : Int), lookIs Tryz.prog 86 (Value.map x) (Value.int .i64 f) false (Value.agg #[Value.int .i64 x_8, Value.int .i64 x_9, Value.int .i64 x_10]) w'_1 ∧ ∀ (w' : World), w' = World.alloc w'_1 (Obj.cells #[Value.int .i64 0, Value.int .i64 0, Value.int .i64 0] 63) → (wr w' w'_1.heap.size 0 ∧ wr w' w'_1.heap.size 1 ∧ wr w' w'_1.heap.size 2) ∧ ∀ (w'_2 : World), w'_2 = st (st (st w' w'_1.heap.size 0 (Value.int .i64 x_8)) w'_1.heap.size 1 (Value.int .i64 x_9)) w'_1.heap.size 2 (Value.int .i64 x_10) → ∃ (x : Int), rd w'_2 w.heap.size 0 = some (.int .u8 x) ∧ ∃ (x_11 : Int), ((x == 4) = true → rd w'_2 w.heap.size 2 = some (.int .i64 x_11)) ∧ ∃ (x_12 : Int), ((x == 4) = true → rd w'_2 w'_1.heap.size 1 = some (.int .i64 x_12)) ∧ ∃ (x_13 : Int), ((x == 4 && x_11 == x_12) = true → rd w'_2 w.heap.size 3 = some (.int .i64 x_13)) ∧ ∃ (x_14 : Int), ((x == 4 && x_11 == x_12) = true → rd w'_2 w'_1.heap.size 2 = some (.int .i64 x_14)) ∧ K (Value.bool (x == 4 && x_11 == x_12 && x_13 == x_14)) w'_2) False) (∀ (w1 : World), w1 = World.drew w'_1 → ∃ (x : Int), rd w1 w.heap.size 0 = some (.int .u8 x) ∧ ∃ (x_8 : Int), ((x == 2) = true → rd w1 w.heap.size 2 = some (.int .i64 x_8)) ∧ gIf (isP k) ((x == 2) = true) (∃ (x_9 : Option Nat), ((x == 2) = true → rd w1 (pb k) (po k + 109) = some (.map x_9)) ∧ ∃ (x_10 x_11 x_12 x_13 x_14 : Int) (x_15 : Option Addr) (x_16 x_17 : Nat) (x_18 : Option Addr) (x_19 x_20 : Nat), ((x == 2) = true → lookIs Tryz.prog 87 (Value.map x_9) (Value.int .i64 f) false (Value.agg #[Value.int .i64 x_10, Value.int .i64 x_11, Value.int .i64 x_12, Value.int .i64 x_13, Value.int .i64 x_14, slice x_15 x_16 x_17, slice x_18 x_19 x_20]) w1) ∧ K (Value.bool (x == 2 && x_8 == x_11)) w1)))))) False) False) False
theorem vcE57 (k : Option Addr) (f : Int) (t : Int) (w : World) (K : Value → World → Prop) : vcP57 k f t w K = Eng.wBody Tryz.prog (Eng.handOf Tryz.prog [] 2) [] Tryz.f57 (Eng.bodyOf Tryz.f57) [Value.pointer k, Value.int .i64 f, Value.int .i64 t] w K := by kernel_rfl
theorem vc57 (k : Option Addr) (f : Int) (t : Int) (w : World) (K : Value → World → Prop) (h : vcP57 k f t w K) : Calls Tryz.prog 57 #[Value.pointer k, Value.int .i64 f, Value.int .i64 t] w (fun e w' => ∃ v, e = .returned v ∧ K v w') := Eng.vc_of [] 2 [] Tryz.mixes Tryz.func57 (by kernel_rfl) (by kernel_rfl) (vcE57 k f t w K) h
end Go.Proofs.YtikjgeenhbnkkaaGreatDoor
set_option linter.unusedSimpArgs false
set_option linter.unusedVariables false
set_option maxRecDepth 100000
namespace Go.Proofs.YtikjgeenhbnkkaaGreatDoor
open Go Eng
theorem app_one {t e : TypeId} {z : Value} (ht : Tryz.prog.underlying t = some (.slice e)) (h : (Tryz.prog.info? e).map (fun i => (i.zero, i.size, i.bytes)) = some (some z, 1, 8)) (hz : z.cells.size = 1)
    {w : World} {base : Nat} {v : Value} {n : Nat} {xs : List Value} (ho : w.ownsRow base e 1 v n xs) {X m c off : Nat} {ys news : List Value} (hx : own w X ys) (hys : (ys.drop off).take m = news) (hl : news.length = m)
    (h1 : ∀ u ∈ news, u.oneCell' = true) (h63 : n + m ≤ 1000000) (hbase : base ≤ w.heap.size) :
    ∃ a l c' w', appIs Tryz.prog #[t, t] t v (.slice (some ⟨X, off, none⟩) m c) (.slice a l c') w w' ∧ l = n + m ∧ w'.ownsRow base e 1 (.slice a l c') (n + m) (xs ++ news) ∧ Kept (fun b => v.ownBlock = some b) w w' := by
  cases hi : Tryz.prog.info? e with
  | none => rw [hi] at h; cases h
  | some i =>
    rw [hi] at h
    simp at h
    exact app_own (P := Tryz.prog) (t := t) (ty := t) (e := e) (i := i) (z := z) (size := 1) ht hi h.1 h.2.1 hz (by decide) ho hx (by simpa using hys) (by simpa using hl) h1 h63 (by omega) hbase
theorem info_int : (Tryz.prog.info? 3).map (fun i => (i.zero, i.size, i.bytes)) = some (some (.int .i64 0), 1, 8) := by kernel_rfl

theorem own0 {X : Nat → Prop} {w w1 w2 : World} (k : Kept none' w w1) (k2 : Kept X w1 w2) (hx : ∀ x, X x → w.heap.size ≤ x) : Kept none' w w2 :=
  k.trans k2 fun x hl h => absurd (hx x h) (by omega)
def RowI (w : World) (base : Nat) (a : Option Addr) (l c : Nat) (xs : List Int) : Prop := l = xs.length ∧ w.ownsRow base 3 1 (.slice a l c) l (xs.map vi)
theorem RowI.nil' {w : World} {base : Nat} : RowI w base none 0 0 [] := ⟨rfl, World.ownsRow_nil _ _ _ _⟩
theorem RowI.k {w w' : World} {base : Nat} {a : Option Addr} {l c : Nat} {xs : List Int} (h : RowI w base a l c xs) (k : Kept none' w w') : RowI w' base a l c xs := ⟨h.1, ownsRow_kx h.2 k fun _ _ _ _ => id⟩
theorem RowI.add {w0 w w1 : World} {base : Nat} {a : Option Addr} {l c : Nat} {xs : List Int} {n : Int} (h : RowI w base a l c xs) (k : Kept none' w0 w) (hb : base = w0.heap.size) (e : w1 = w.alloc (.cells #[.int .i64 n] 3)) (hl : xs.length ≤ 10000) :
    ∃ a' l' c' w', appIs Tryz.prog #[31, 31] 31 (.slice a l c) (.slice (some ⟨w.heap.size, 0, none⟩) 1 1) (.slice a' l' c') w1 w' ∧ RowI w' base a' l' c' (xs ++ [n]) ∧ Kept none' w0 w' := by
  subst hb
  have k1 : Kept none' w w1 := (Kept.refl _ _).al e
  have o1 := own_alloc (c := [vi n]) e
  have h1 := h.k k1
  have s0 := k.sz
  have s1 := k1.sz
  have hlen := h.1
  obtain ⟨a', l', c', w', happ, rfl, row, k2⟩ := app_one (t := 31) (e := 3) Tryz.underlying31 info_int rfl h1.2 o1 (m := 1) (off := 0) (c := 1) (news := [vi n]) rfl rfl (fun u hu => by simp at hu; subst hu; rfl) (by omega) (by omega)
  refine ⟨a', _, c', w', happ, ⟨by simp [hlen], by rw [List.map_append]; exact row⟩, own0 (k.tr k1) k2 fun x hx => ?_⟩
  exact (h1.2.lt x hx).1
structure PicAt (w : World) (k : Nat) (S : PicS) (c : Nat → Int) : Prop where
  cf : ∀ i, i < 94 → rd w k i = some (vi (c i))
  sl : ∀ i, i < 13 → rd w k (94 + i) = some (S.v i)
theorem PicAt.k {w w' : World} {k : Nat} {S : PicS} {c : Nat → Int} (h : PicAt w k S c) (kk : Kept none' w w') : PicAt w' k S c :=
  ⟨fun i hi => kk.rd_some (h.cf i hi) id, fun i hi => kk.rd_some (h.sl i hi) id⟩
abbrev Looks (w : World) (P : Int → Prop) : Ending → World → Prop := fun r w' => ∃ (a : Option Addr) (l c : Nat) (xs : List Int), r = .returned (.slice a l c) ∧ Kept none' w w' ∧ RowI w' w.heap.size a l c xs ∧ xs.length ≤ 10000000 ∧ ∀ n, n ∈ xs ↔ P n
def LockF (x : Pic) (n : Int) : Prop := ∃ (i : Nat) (h : Int), n = i ∧ x.holders[i]? = some h ∧ (h < -1 ∨ h ≥ x.c 1)
theorem locks_spec {w : World} {k : Nat} {S : PicS} {x : Pic} (hp : PicAt w k S x.c) (P : PicR w S x) (hl : x.holders.length ≤ 1000) : Calls Tryz.prog 27 #[pt k] w (Looks w (LockF x)) := by
  refine (vc27 (some ⟨k, 0, none⟩) w (fun v w' => ∃ (a : Option Addr) (l c : Nat) (xs : List Int), v = .slice a l c ∧ Kept none' w w' ∧ RowI w' w.heap.size a l c xs ∧ xs.length ≤ 10000000 ∧ ∀ n, n ∈ xs ↔ LockF x n) ?_).mono ?_
  · unfold vcP27
    have hlen := P.holders.len
    refine Wif_yes rfl ⟨S.a 12, S.l 12, S.c 12, hp.sl 12 (by decide), fun a l c n w' M => ∃ (q : Nat) (xs : List Int), n = (q : Int) ∧ q ≤ x.holders.length ∧ M = x.holders.length - q ∧ Kept none' w w' ∧ RowI w' w.heap.size a l c xs ∧ xs.length ≤ q ∧ ∀ n, n ∈ xs ↔ ∃ (i : Nat) (h : Int), n = i ∧ i < q ∧ x.holders[i]? = some h ∧ (h < -1 ∨ h ≥ x.c 1), ⟨x.holders.length, 0, [], rfl, by omega, rfl, Kept.refl _ _, RowI.nil', Nat.le_refl _, fun n => by simp⟩, ?_⟩
    rintro a l c _ wl _ ⟨q, xs, rfl, hq, rfl, kl, row, hxl, hxs⟩
    have hs := P.holders.k RInt.stab kl
    refine Wif_intro (fun hc => ?_) (fun hc => ?_)
    · have hql : q < x.holders.length := by simp at hc; omega
      obtain ⟨h, hh⟩ : ∃ h, x.holders[q]? = some h := ⟨x.holders[q], List.getElem?_eq_getElem hql⟩
      obtain ⟨cs, _, hR, hr⟩ := hs.el q h hh
      obtain rfl : cs = [vi h] := hR
      have hstep : ∀ n : Int, (∃ (i : Nat) (g : Int), n = i ∧ i < q + 1 ∧ x.holders[i]? = some g ∧ (g < -1 ∨ g ≥ x.c 1)) ↔ (∃ (i : Nat) (g : Int), n = i ∧ i < q ∧ x.holders[i]? = some g ∧ (g < -1 ∨ g ≥ x.c 1)) ∨ (n = q ∧ (h < -1 ∨ h ≥ x.c 1)) := by
        intro n
        constructor
        · rintro ⟨i, g, rfl, hi, hg, hP⟩
          rcases Nat.lt_succ_iff_lt_or_eq.1 hi with hlt | rfl
          · exact .inl ⟨i, g, rfl, hlt, hg, hP⟩
          · rw [hh] at hg
            cases hg
            exact .inr ⟨rfl, hP⟩
        · rintro (⟨i, g, rfl, hi, hg, hP⟩ | ⟨rfl, hP⟩)
          · exact ⟨i, g, rfl, by omega, hg, hP⟩
          · exact ⟨q, h, rfl, by omega, hh, hP⟩
      refine Wif_yes (hs.isp (by omega)) (Wif_yes (inB_of (by omega) (by omega)) ⟨h, ?_, ?_⟩)
      · rw [Int.toNat_natCast]
        exact hr 0 _ rfl
      · refine gIf_intro (fun _ => rfl) ⟨x.c 1, fun _ => (hp.k kl).cf 1 (by decide), Wif_intro (fun hb => ?_) (fun hb => ?_)⟩
        · intro w1 e1
          have hb' : h < -1 ∨ h ≥ x.c 1 := by simpa using hb
          obtain ⟨a', l', c', w2, happ, row2, k2⟩ := row.add kl rfl e1 (by omega)
          refine ⟨a', l', c', w2, happ, x.holders.length - (q + 1), by omega, q + 1, xs ++ [(q : Int)], by rw [wi (by omega)]; rfl, by omega, rfl, k2, row2, by simp; omega, fun n => ?_⟩
          rw [hstep n, ← hxs n, List.mem_append, List.mem_singleton]
          exact ⟨fun g => g.imp id fun g => ⟨g, hb'⟩, fun g => g.imp id fun g => g.1⟩
        · have hb' : ¬ (h < -1 ∨ h ≥ x.c 1) := by
            intro g
            have : (decide (h < -1) || decide (h ≥ x.c 1)) = true := by simpa using g
            rw [this] at hb
            cases hb
          refine ⟨x.holders.length - (q + 1), by omega, q + 1, xs, by rw [wi (by omega)]; rfl, by omega, rfl, kl, row, by omega, fun n => ?_⟩
          rw [hstep n, ← hxs n]
          exact ⟨.inl, fun g => g.resolve_right fun g => hb' g.2⟩
    · have hql : q = x.holders.length := by simp at hc; omega
      subst hql
      refine ⟨a, l, c, xs, rfl, kl, row, by omega, fun n => (hxs n).trans ⟨?_, ?_⟩⟩
      · rintro ⟨i, g, e, _, hg, hP⟩
        exact ⟨i, g, e, hg, hP⟩
      · rintro ⟨i, g, e, hg, hP⟩
        exact ⟨i, g, e, (List.getElem?_eq_some_iff.1 hg).1, hg, hP⟩
  · rintro e w' ⟨v, rfl, a, l, c, xs, rfl, hw⟩
    exact ⟨a, l, c, xs, rfl, hw⟩
end Go.Proofs.YtikjgeenhbnkkaaGreatDoor
set_option linter.unusedSimpArgs false
set_option linter.unusedVariables false
set_option maxRecDepth 100000
namespace Go.Proofs.YtikjgeenhbnkkaaGreatDoor
open Go Eng
def FrameF (T : List (List Int)) (n : Int) : Prop := ∃ (i : Nat) (h : List Int), n = i ∧ T[i]? = some h ∧ h.length ≠ 1
theorem frames_spec {w : World} {k : Nat} {T : List (List Int)} {ta : Option Addr} {tl tc : Nat} (hk : rd w k 107 = some (.slice ta tl tc)) (P : SlR (RL RInt 1) 1 w ta tl tc T) (hl : T.length ≤ 10000) : Calls Tryz.prog 20 #[pt k] w (Looks w (FrameF T)) := by
  refine (vc20 (some ⟨k, 0, none⟩) w (fun v w' => ∃ (a : Option Addr) (l c : Nat) (xs : List Int), v = .slice a l c ∧ Kept none' w w' ∧ RowI w' w.heap.size a l c xs ∧ xs.length ≤ 10000000 ∧ ∀ n, n ∈ xs ↔ FrameF T n) ?_).mono ?_
  · unfold vcP20
    have hlen := P.len
    refine Wif_yes rfl ⟨ta, tl, tc, hk, fun a l c n w' M => ∃ (q : Nat) (xs : List Int), n = (q : Int) ∧ q ≤ T.length ∧ M = T.length - q ∧ Kept none' w w' ∧ RowI w' w.heap.size a l c xs ∧ xs.length ≤ q ∧ ∀ n, n ∈ xs ↔ ∃ (i : Nat) (h : List Int), n = i ∧ i < q ∧ T[i]? = some h ∧ h.length ≠ 1, ⟨T.length, 0, [], rfl, by omega, rfl, Kept.refl _ _, RowI.nil', Nat.le_refl _, fun n => by simp⟩, ?_⟩
    rintro a l c _ wl _ ⟨q, xs, rfl, hq, rfl, kl, row, hxl, hxs⟩
    have hs := P.k (RL.stab RInt.stab) kl
    refine Wif_intro (fun hc => ?_) (fun hc => ?_)
    · have hql : q < T.length := by simp at hc; omega
      obtain ⟨h, hh⟩ : ∃ h, T[q]? = some h := ⟨T[q], List.getElem?_eq_getElem hql⟩
      obtain ⟨cs, _, hR, hr⟩ := hs.el q h hh
      obtain ⟨ha, hn, hcc, rfl, hrow⟩ := hR
      have hhl := hrow.len
      have hstep : ∀ n : Int, (∃ (i : Nat) (g : List Int), n = i ∧ i < q + 1 ∧ T[i]? = some g ∧ g.length ≠ 1) ↔ (∃ (i : Nat) (g : List Int), n = i ∧ i < q ∧ T[i]? = some g ∧ g.length ≠ 1) ∨ (n = q ∧ h.length ≠ 1) := by
        intro n
        constructor
        · rintro ⟨i, g, rfl, hi, hg, hP⟩
          rcases Nat.lt_succ_iff_lt_or_eq.1 hi with hlt | rfl
          · exact .inl ⟨i, g, rfl, hlt, hg, hP⟩
          · rw [hh] at hg
            cases hg
            exact .inr ⟨rfl, hP⟩
        · rintro (⟨i, g, rfl, hi, hg, hP⟩ | ⟨rfl, hP⟩)
          · exact ⟨i, g, rfl, by omega, hg, hP⟩
          · exact ⟨q, h, rfl, by omega, hh, hP⟩
      refine Wif_yes (hs.isp (by omega)) (Wif_yes (inB_of (by omega) (by omega)) ⟨ha, hn, hcc, ?_, ?_⟩)
      · rw [Int.toNat_natCast]
        exact hr 0 _ rfl
      · refine Wif_intro (fun hb => ?_) (fun hb => ?_)
        · intro w1 e1
          have hb' : h.length ≠ 1 := by
            intro g
            rw [hhl, g] at hb
            exact absurd hb (by decide)
          obtain ⟨a', l', c', w2, happ, row2, k2⟩ := row.add kl rfl e1 (by omega)
          refine ⟨a', l', c', w2, happ, T.length - (q + 1), by omega, q + 1, xs ++ [(q : Int)], by rw [wi (by omega)]; rfl, by omega, rfl, k2, row2, by simp; omega, fun n => ?_⟩
          rw [hstep n, ← hxs n, List.mem_append, List.mem_singleton]
          exact ⟨fun g => g.imp id fun g => ⟨g, hb'⟩, fun g => g.imp id fun g => g.1⟩
        · have hb' : ¬ h.length ≠ 1 := by
            intro g
            simp at hb
            omega
          refine ⟨T.length - (q + 1), by omega, q + 1, xs, by rw [wi (by omega)]; rfl, by omega, rfl, kl, row, by omega, fun n => ?_⟩
          rw [hstep n, ← hxs n]
          exact ⟨.inl, fun g => g.resolve_right fun g => hb' g.2⟩
    · have hql : q = T.length := by simp at hc; omega
      subst hql
      refine ⟨a, l, c, xs, rfl, kl, row, by omega, fun n => (hxs n).trans ⟨?_, ?_⟩⟩
      · rintro ⟨i, g, e, _, hg, hP⟩
        exact ⟨i, g, e, hg, hP⟩
      · rintro ⟨i, g, e, hg, hP⟩
        exact ⟨i, g, e, (List.getElem?_eq_some_iff.1 hg).1, hg, hP⟩
  · rintro e w' ⟨v, rfl, a, l, c, xs, rfl, hw⟩
    exact ⟨a, l, c, xs, rfl, hw⟩
end Go.Proofs.YtikjgeenhbnkkaaGreatDoor
set_option linter.unusedVariables false
set_option maxRecDepth 100000
namespace Go.Proofs.YtikjgeenhbnkkaaGreatDoor
open Go Go.Eng
open Go.Value (slice)
/- (*byre/audit.looker).count$1 -/
def vcP56 (f : Int) (t : Int) (c2_0 : Option Addr) (w : World) (K : Value → World → Prop) : Prop := ∀ (w1 : World), w1 = World.drew w → Wif (isP c2_0) (∃ (x : Option Addr), rd w1 (pb c2_0) (po c2_0) = some (.pointer x) ∧ Wif (isP x) (∃ (x_1 : Option Addr) (x_2 x_3 : Nat), rd w1 (pb x) (po x + 107) = some (.slice x_1 x_2 x_3) ∧ Wif (isP c2_0) (∃ (x_4 : Option Addr), rd w1 (pb c2_0) (po c2_0) = some (.pointer x_4) ∧ Wif (isP x_4) (∃ (x_5 : Option Addr) (x_6 x_7 : Nat), rd w1 (pb x_4) (po x_4 + 107) = some (.slice x_5 x_6 x_7) ∧ Wif (isP x_5) (Wif (inB f x_6) (∃ (x_8 : Option Addr) (x_9 x_10 : Nat), rd w1 (pb x_5) (po x_5 + Int.toNat f * 1) = some (.slice x_8 x_9 x_10) ∧ ∀ (w' : World), w' = World.alloc w1 (Obj.cells #[Value.int .i64 t] 123) → (rd w' (pb x_5) (po x_5 + Int.toNat f * 1) = some (.slice x_8 x_9 x_10) ∧ True) ∧ (rd w' (pb x_4) (po x_4 + 107) = some (.slice x_5 x_6 x_7) ∧ True) ∧ (rd w' (pb c2_0) (po c2_0) = some (.pointer x_4) ∧ True) ∧ (rd w' (pb x) (po x + 107) = some (.slice x_1 x_2 x_3) ∧ True) ∧ (rd w' (pb c2_0) (po c2_0) = some (.pointer x) ∧ True) ∧ ∃ (a : Option Addr) (l c : Nat) (w'_1 : World), appIs Tryz.prog #[124, 124] 124 (slice x_8 x_9 x_10) (slice (some (Addr.mk w1.heap.size 0 none)) 1 1) (slice a l c) w' w'_1 ∧ (rd w'_1 (pb c2_0) (po c2_0) = some (.pointer x_4) ∧ True) ∧ (rd w'_1 (pb x) (po x + 107) = some (.slice x_1 x_2 x_3) ∧ True) ∧ (rd w'_1 (pb c2_0) (po c2_0) = some (.pointer x) ∧ True) ∧ Wif (isP x_1) (Wif (inB f x_2) (wr w'_1 (pb x_1) (po x_1 + Int.toNat f * 1) ∧ ∀ (w' : World), w' = st w'_1 (pb x_1) (po x_1 + Int.toNat f * 1) (slice a l c) → K (Value.tuple #[]) w') False) False) False) False) False) False) False) False
theorem vcE56 (f : Int) (t : Int) (c2_0 : Option Addr) (w : World) (K : Value → World → Prop) : vcP56 f t c2_0 w K = Eng.wBody Tryz.prog (Eng.handOf Tryz.prog [] 2) [] Tryz.f56 (Eng.bodyOf Tryz.f56) [Value.int .i64 f, Value.int .i64 t, Value.pointer c2_0] w K := by kernel_rfl
theorem vc56 (f : Int) (t : Int) (c2_0 : Option Addr) (w : World) (K : Value → World → Prop) (h : vcP56 f t c2_0 w K) : Calls Tryz.prog 56 #[Value.int .i64 f, Value.int .i64 t, Value.pointer c2_0] w (fun e w' => ∃ v, e = .returned v ∧ K v w') := Eng.vc_of [] 2 [] Tryz.mixes Tryz.func56 (by kernel_rfl) (by kernel_rfl) (vcE56 f t c2_0 w K) h
/- (*byre/audit.looker).right$1 -/
def vcP106 (r0 : Int) (r1 : Int) (r2 : Int) (c1_0 : Option Addr) (w : World) (K : Value → World → Prop) : Prop := ∀ (w' : World), w' = World.alloc w (Obj.cells #[Value.int .i64 r0, Value.int .i64 r1, Value.int .u8 r2] 79) → Wif (isP c1_0) (∃ (x : Int), rd w' (pb c1_0) (po c1_0) = some (.int .i64 x) ∧ ∃ (x_1 : Int), rd w' w.heap.size 0 = some (.int .i64 x_1) ∧ ∃ (x_2 : Int), (decide (x ≥ x_1) = true → rd w' w.heap.size 1 = some (.int .i64 x_2)) ∧ gIf (isP c1_0) ((decide (x ≥ x_1) && decide (x_2 > 0)) = true) (∃ (x_3 : Int), ((decide (x ≥ x_1) && decide (x_2 > 0)) = true → rd w' (pb c1_0) (po c1_0) = some (.int .i64 x_3)) ∧ ∃ (x_4 : Int), ((decide (x ≥ x_1) && decide (x_2 > 0)) = true → rd w' w.heap.size 0 = some (.int .i64 x_4)) ∧ ∃ (x_5 : Int), ((decide (x ≥ x_1) && decide (x_2 > 0)) = true → rd w' w.heap.size 1 = some (.int .i64 x_5)) ∧ K (Value.bool (decide (x ≥ x_1) && decide (x_2 > 0) && decide (IntKind.wrap .u64 (IntKind.wrap .u64 x_3 - IntKind.wrap .u64 x_4) < IntKind.wrap .u64 x_5))) w')) False
theorem vcE106 (r0 : Int) (r1 : Int) (r2 : Int) (c1_0 : Option Addr) (w : World) (K : Value → World → Prop) : vcP106 r0 r1 r2 c1_0 w K = Eng.wBody Tryz.prog (Eng.handOf Tryz.prog [] 2) [] Tryz.f106 (Eng.bodyOf Tryz.f106) [Value.agg #[Value.int .i64 r0, Value.int .i64 r1, Value.int .u8 r2], Value.pointer c1_0] w K := by kernel_rfl
theorem vc106 (r0 : Int) (r1 : Int) (r2 : Int) (c1_0 : Option Addr) (w : World) (K : Value → World → Prop) (h : vcP106 r0 r1 r2 c1_0 w K) : Calls Tryz.prog 106 #[Value.agg #[Value.int .i64 r0, Value.int .i64 r1, Value.int .u8 r2], Value.pointer c1_0] w (fun e w' => ∃ v, e = .returned v ∧ K v w') := Eng.vc_of [] 2 [] Tryz.mixes Tryz.func106 (by kernel_rfl) (by kernel_rfl) (vcE106 r0 r1 r2 c1_0 w K) h
end Go.Proofs.YtikjgeenhbnkkaaGreatDoor
set_option linter.unusedSimpArgs false
set_option linter.unusedVariables false
set_option maxRecDepth 100000
namespace Go.Proofs.YtikjgeenhbnkkaaGreatDoor
open Go Eng
theorem c72_spec {w : World} {b : Nat} {n : Int} (hb : rd w b 0 = some (vi n)) (m : Mapped) : Calls Tryz.prog 72 #[.agg #[vi m.page, .int .u8 m.kind, vi m.n], pt b] w (Tells w (m.page = n ∧ m.kind = 1)) := by
  refine (vc72 m.page m.kind m.n (some ⟨b, 0, none⟩) w (TellsV w (m.page = n ∧ m.kind = 1)) ?_).mono fun e w' => tells_of
  unfold vcP72
  intro w1 e1
  have o1 := own_alloc (c := [vi m.page, .int .u8 m.kind, vi m.n]) e1
  have k1 : Kept none' w w1 := (Kept.refl _ _).al e1
  exact ⟨m.page, by rw [o1.rd]; rfl, Wif_yes rfl ⟨n, k1.rd_some hb id, m.kind, fun _ => by rw [o1.rd]; rfl, _, rfl, k1, by simp⟩⟩
def InRun (page : Int) (r : Run) : Prop := (page ≥ r.page ∧ r.count > 0) ∧ IntKind.wrap .u64 (IntKind.wrap .u64 page - IntKind.wrap .u64 r.page) < IntKind.wrap .u64 r.count
theorem c106_spec {w : World} {b : Nat} {p : Int} (hb : rd w b 0 = some (vi p)) (r : Run) : Calls Tryz.prog 106 #[.agg #[vi r.page, vi r.count, .int .u8 r.rights], pt b] w (Tells w (InRun p r)) := by
  refine (vc106 r.page r.count r.rights (some ⟨b, 0, none⟩) w (TellsV w (InRun p r)) ?_).mono fun e w' => tells_of
  unfold vcP106
  intro w1 e1
  have o1 := own_alloc (c := [vi r.page, vi r.count, .int .u8 r.rights]) e1
  have k1 : Kept none' w w1 := (Kept.refl _ _).al e1
  have r0 : rd w1 w.heap.size 0 = some (vi r.page) := by rw [o1.rd]; rfl
  have r1 : rd w1 w.heap.size 1 = some (vi r.count) := by rw [o1.rd]; rfl
  have rb := k1.rd_some hb id
  refine Wif_yes rfl ⟨p, rb, r.page, r0, r.count, fun _ => r1, gIf_intro (fun _ => rfl) ⟨p, fun _ => rb, r.page, fun _ => r0, r.count, fun _ => r1, _, rfl, k1, ?_⟩⟩
  unfold InRun
  simp only [Bool.and_eq_true, decide_eq_true_eq]
end Go.Proofs.YtikjgeenhbnkkaaGreatDoor
