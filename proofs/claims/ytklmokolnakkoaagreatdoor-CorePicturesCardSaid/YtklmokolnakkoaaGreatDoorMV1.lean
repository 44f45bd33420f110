/-
  A part of a proof that a law of this seat returns true at every input. Conditions: those in each theorem.
-/
import Derived.Test.YtklmokolnakkoaaGreatDoorB0
import Derived.Test.YtklmokolnakkoaaGreatDoorX9
set_option linter.unusedVariables false
set_option maxRecDepth 100000
namespace Go.Proofs.YtklmokolnakkoaaGreatDoor
open Go Go.Eng
open Go.Value (slice pointer)
/- (*byre/frames.Memory).Word -/
def vcP196 (m : OA) (frame i : Int) (w : World) (K : KV) : Prop := Wif (decide (i < 0) || decide (i > 31)) (gIf (isP m) ((!Option.isNone m) = true) (∃ (x : OA) (x_1 x_2 : Nat), ((!Option.isNone m) = true → rd w (pb m) (po m + 95) = some (.slice x x_1 x_2)) ∧ Wif (!(!Option.isNone m && !Option.isNone x)) (K (.tuple #[Value.int .u64 0, vi 1]) w) (gIf (isP m) (decide (frame < 0) = false) (∃ (x : OA) (x_3 x_4 : Nat), (decide (frame < 0) = false → rd w (pb m) (po m + 95) = some (.slice x x_3 x_4)) ∧ Wif (decide (frame < 0) || decide (frame ≥ (↑x_3 : Int))) (K (.tuple #[Value.int .u64 0, vi 7]) w) (K (.tuple #[Value.int .u64 0, vi 2]) w))))) (gIf (isP m) ((!Option.isNone m) = true) (∃ (x : OA) (x_1 x_2 : Nat), ((!Option.isNone m) = true → rd w (pb m) (po m + 95) = some (.slice x x_1 x_2)) ∧ Wif (!(!Option.isNone m && !Option.isNone x)) (K (.tuple #[Value.int .u64 0, vi 1]) w) (gIf (isP m) (decide (frame < 0) = false) (∃ (x : OA) (x_3 x_4 : Nat), (decide (frame < 0) = false → rd w (pb m) (po m + 95) = some (.slice x x_3 x_4)) ∧ Wif (decide (frame < 0) || decide (frame ≥ (↑x_3 : Int))) (K (.tuple #[Value.int .u64 0, vi 7]) w) (Wif (decide (IntKind.wrap .i64 (8 * i) < 0) || false || false || decide (IntKind.wrap .i64 (8 * i) > 248)) (K (.tuple #[Value.int .u64 0, vi 2]) w) (Wif (isP m) (∃ (x : OA) (x_5 x_6 : Nat), rd w (pb m) (po m + 94) = some (.slice x x_5 x_6) ∧ Wif (okSl (IntKind.wrap .i64 (frame * 256)) (IntKind.wrap .i64 (IntKind.wrap .i64 (frame + 1) * 256)) (IntKind.wrap .i64 (IntKind.wrap .i64 (frame + 1) * 256))) (Wif (okSl 0 (IntKind.wrap .i64 (IntKind.wrap .i64 (frame + 1) * 256)) (↑x_6 : Int)) (Wif (okSl (IntKind.wrap .i64 (8 * i)) (IntKind.wrap .i64 (IntKind.wrap .i64 (8 * i) + 8)) (↑(Int.toNat (IntKind.wrap .i64 (IntKind.wrap .i64 (frame + 1) * 256)) - Int.toNat (IntKind.wrap .i64 (frame * 256))) : Int)) (∃ (I : Int → Int → World → Nat → Prop), (∃ (n : Nat), I 0 0 w n) ∧ ∀ (n n_1 : Int) (w' : World) (n_2 : Nat), I n n_1 w' n_2 → Wif (decide (n_1 < (↑(Int.toNat (IntKind.wrap .i64 (IntKind.wrap .i64 (8 * i) + 8)) - Int.toNat (IntKind.wrap .i64 (8 * i))) : Int))) (Wif (isP (offA (offA x (Int.toNat (IntKind.wrap .i64 (IntKind.wrap .i64 (frame + 1) * 256))) (Int.toNat (IntKind.wrap .i64 (frame * 256))) 1) (Int.toNat (IntKind.wrap .i64 (IntKind.wrap .i64 (frame + 1) * 256)) - Int.toNat (IntKind.wrap .i64 (frame * 256))) (Int.toNat (IntKind.wrap .i64 (8 * i))) 1)) (Wif (inB n_1 (Int.toNat (IntKind.wrap .i64 (IntKind.wrap .i64 (8 * i) + 8)) - Int.toNat (IntKind.wrap .i64 (8 * i)))) (∃ (x_7 : Int), rd w' (pb (offA (offA x (Int.toNat (IntKind.wrap .i64 (IntKind.wrap .i64 (frame + 1) * 256))) (Int.toNat (IntKind.wrap .i64 (frame * 256))) 1) (Int.toNat (IntKind.wrap .i64 (IntKind.wrap .i64 (frame + 1) * 256)) - Int.toNat (IntKind.wrap .i64 (frame * 256))) (Int.toNat (IntKind.wrap .i64 (8 * i))) 1)) (po (offA (offA x (Int.toNat (IntKind.wrap .i64 (IntKind.wrap .i64 (frame + 1) * 256))) (Int.toNat (IntKind.wrap .i64 (frame * 256))) 1) (Int.toNat (IntKind.wrap .i64 (IntKind.wrap .i64 (frame + 1) * 256)) - Int.toNat (IntKind.wrap .i64 (frame * 256))) (Int.toNat (IntKind.wrap .i64 (8 * i))) 1) + Int.toNat n_1 * 1) = some (.int .u8 x_7) ∧ Wif (decide (0 ≤ IntKind.wrap .i64 (8 * n_1))) (∃ m, Nat.succ m ≤ n_2 ∧ I (bitsI BinOp.or IntKind.u64 n (IntKind.wrap .u64 (IntKind.wrap .u64 x_7 * 2 ^ min (Int.toNat (IntKind.wrap .i64 (8 * n_1))) 64))) (IntKind.wrap .i64 (n_1 + 1)) w' m) False) False) False) (K (.tuple #[Value.int .u64 n, vi 0]) w')) False) False) False) False))))))
theorem vc196 (m : OA) (frame i : Int) (w : World) (K : KV) (h : vcP196 m frame i w K) : Calls Tryz.prog 196 #[pointer m, vi frame, vi i] w (fun e w' => ∃ v, e = .returned v ∧ K v w') := Eng.vc_of [167, 120, 130, 61, 133, 143, 134, 91, 103, 113, 98, 99, 169, 190, 216, 161, 197, 164, 162] 3 [] Tryz.mixes Tryz.func196 (by kernel_rfl) (by kernel_rfl) (by kernel_rfl) h
/- (*byre/frames.Memory).SetWord -/
def vcP150 (m : OA) (frame i w' : Int) (w : World) (K : KV) : Prop := Wif (decide (i < 0) || decide (i > 31)) (gIf (isP m) ((!Option.isNone m) = true) (∃ (x : OA) (x_1 x_2 : Nat), ((!Option.isNone m) = true → rd w (pb m) (po m + 95) = some (.slice x x_1 x_2)) ∧ Wif (!(!Option.isNone m && !Option.isNone x)) (∃ (I : Int → World → Nat → Prop), (∃ (n : Nat), I 0 w n) ∧ ∀ (n : Int) (w' : World) (n_1 : Nat), I n w' n_1 → Wif (decide (n < 0)) (Wif (decide (0 ≤ IntKind.wrap .i64 (8 * n))) False False) (K (vi 1) w')) (gIf (isP m) (decide (frame < 0) = false) (∃ (x : OA) (x_3 x_4 : Nat), (decide (frame < 0) = false → rd w (pb m) (po m + 95) = some (.slice x x_3 x_4)) ∧ Wif (decide (frame < 0) || decide (frame ≥ (↑x_3 : Int))) (∃ (I : Int → World → Nat → Prop), (∃ (n : Nat), I 0 w n) ∧ ∀ (n : Int) (w' : World) (n_1 : Nat), I n w' n_1 → Wif (decide (n < 0)) (Wif (decide (0 ≤ IntKind.wrap .i64 (8 * n))) False False) (K (vi 7) w')) (∃ (I : Int → World → Nat → Prop), (∃ (n : Nat), I 0 w n) ∧ ∀ (n : Int) (w' : World) (n_1 : Nat), I n w' n_1 → Wif (decide (n < 0)) (Wif (decide (0 ≤ IntKind.wrap .i64 (8 * n))) False False) (K (vi 2) w')))))) (gIf (isP m) ((!Option.isNone m) = true) (∃ (x : OA) (x_1 x_2 : Nat), ((!Option.isNone m) = true → rd w (pb m) (po m + 95) = some (.slice x x_1 x_2)) ∧ Wif (!(!Option.isNone m && !Option.isNone x)) (∃ (I : Int → World → Nat → Prop), (∃ (n : Nat), I 0 w n) ∧ ∀ (n : Int) (w' : World) (n_1 : Nat), I n w' n_1 → Wif (decide (n < 0)) (Wif (decide (0 ≤ IntKind.wrap .i64 (8 * n))) False False) (K (vi 1) w')) (gIf (isP m) (decide (frame < 0) = false) (∃ (x : OA) (x_3 x_4 : Nat), (decide (frame < 0) = false → rd w (pb m) (po m + 95) = some (.slice x x_3 x_4)) ∧ Wif (decide (frame < 0) || decide (frame ≥ (↑x_3 : Int))) (∃ (I : Int → World → Nat → Prop), (∃ (n : Nat), I 0 w n) ∧ ∀ (n : Int) (w' : World) (n_1 : Nat), I n w' n_1 → Wif (decide (n < 0)) (Wif (decide (0 ≤ IntKind.wrap .i64 (8 * n))) False False) (K (vi 7) w')) (Wif (decide (IntKind.wrap .i64 (8 * i) < 0) || false || false || decide (IntKind.wrap .i64 (8 * i) > 248)) (∃ (I : Int → World → Nat → Prop), (∃ (n : Nat), I 0 w n) ∧ ∀ (n : Int) (w' : World) (n_1 : Nat), I n w' n_1 → Wif (decide (n < 0)) (Wif (decide (0 ≤ IntKind.wrap .i64 (8 * n))) False False) (K (vi 2) w')) (Wif (isP m) (∃ (x : OA) (x_5 x_6 : Nat), rd w (pb m) (po m + 94) = some (.slice x x_5 x_6) ∧ Wif (okSl (IntKind.wrap .i64 (frame * 256)) (IntKind.wrap .i64 (IntKind.wrap .i64 (frame + 1) * 256)) (IntKind.wrap .i64 (IntKind.wrap .i64 (frame + 1) * 256))) (Wif (okSl 0 (IntKind.wrap .i64 (IntKind.wrap .i64 (frame + 1) * 256)) (↑x_6 : Int)) (Wif (okSl (IntKind.wrap .i64 (8 * i)) (IntKind.wrap .i64 (IntKind.wrap .i64 (8 * i) + 8)) (↑(Int.toNat (IntKind.wrap .i64 (IntKind.wrap .i64 (frame + 1) * 256)) - Int.toNat (IntKind.wrap .i64 (frame * 256))) : Int)) (∃ (I : Int → World → Nat → Prop), (∃ (n : Nat), I 0 w n) ∧ ∀ (n : Int) (w'_1 : World) (n_1 : Nat), I n w'_1 n_1 → Wif (decide (n < (↑(Int.toNat (IntKind.wrap .i64 (IntKind.wrap .i64 (8 * i) + 8)) - Int.toNat (IntKind.wrap .i64 (8 * i))) : Int))) (Wif (decide (0 ≤ IntKind.wrap .i64 (8 * n))) (Wif (isP (offA (offA x (Int.toNat (IntKind.wrap .i64 (IntKind.wrap .i64 (frame + 1) * 256))) (Int.toNat (IntKind.wrap .i64 (frame * 256))) 1) (Int.toNat (IntKind.wrap .i64 (IntKind.wrap .i64 (frame + 1) * 256)) - Int.toNat (IntKind.wrap .i64 (frame * 256))) (Int.toNat (IntKind.wrap .i64 (8 * i))) 1)) (Wif (inB n (Int.toNat (IntKind.wrap .i64 (IntKind.wrap .i64 (8 * i) + 8)) - Int.toNat (IntKind.wrap .i64 (8 * i)))) (wr w'_1 (pb (offA (offA x (Int.toNat (IntKind.wrap .i64 (IntKind.wrap .i64 (frame + 1) * 256))) (Int.toNat (IntKind.wrap .i64 (frame * 256))) 1) (Int.toNat (IntKind.wrap .i64 (IntKind.wrap .i64 (frame + 1) * 256)) - Int.toNat (IntKind.wrap .i64 (frame * 256))) (Int.toNat (IntKind.wrap .i64 (8 * i))) 1)) (po (offA (offA x (Int.toNat (IntKind.wrap .i64 (IntKind.wrap .i64 (frame + 1) * 256))) (Int.toNat (IntKind.wrap .i64 (frame * 256))) 1) (Int.toNat (IntKind.wrap .i64 (IntKind.wrap .i64 (frame + 1) * 256)) - Int.toNat (IntKind.wrap .i64 (frame * 256))) (Int.toNat (IntKind.wrap .i64 (8 * i))) 1) + Int.toNat n * 1) ∧ ∀ w'_2, w'_2 = st w'_1 (pb (offA (offA x (Int.toNat (IntKind.wrap .i64 (IntKind.wrap .i64 (frame + 1) * 256))) (Int.toNat (IntKind.wrap .i64 (frame * 256))) 1) (Int.toNat (IntKind.wrap .i64 (IntKind.wrap .i64 (frame + 1) * 256)) - Int.toNat (IntKind.wrap .i64 (frame * 256))) (Int.toNat (IntKind.wrap .i64 (8 * i))) 1)) (po (offA (offA x (Int.toNat (IntKind.wrap .i64 (IntKind.wrap .i64 (frame + 1) * 256))) (Int.toNat (IntKind.wrap .i64 (frame * 256))) 1) (Int.toNat (IntKind.wrap .i64 (IntKind.wrap .i64 (frame + 1) * 256)) - Int.toNat (IntKind.wrap .i64 (frame * 256))) (Int.toNat (IntKind.wrap .i64 (8 * i))) 1) + Int.toNat n * 1) (Value.int .u8 (IntKind.wrap .u8 (Int.fdiv w' (2 ^ min (Int.toNat (IntKind.wrap .i64 (8 * n))) 64)))) → ∃ m, Nat.succ m ≤ n_1 ∧ I (IntKind.wrap .i64 (n + 1)) w'_2 m) False) False) False) (K (vi 0) w'_1)) False) False) False) False))))))
theorem vc150 (m : OA) (frame i w' : Int) (w : World) (K : KV) (h : vcP150 m frame i w' w K) : Calls Tryz.prog 150 #[pointer m, vi frame, vi i, Value.int .u64 w'] w (fun e w' => ∃ v, e = .returned v ∧ K v w') := Eng.vc_of [167, 120, 130, 61, 133, 143, 134, 91, 103, 113, 98, 99, 169, 190, 216, 161, 197, 164, 162] 3 [] Tryz.mixes Tryz.func150 (by kernel_rfl) (by kernel_rfl) (by kernel_rfl) h
/- (*byre/frames.Memory).SetMark -/
def vcP95 (m : OA) (frame x0 x1 x2 x3 x4 : Int) (w : World) (K : KV) : Prop := ∀ w', w' = w.alloc (.cells #[Value.int .u8 x0, vi x1, vi x2, vi x3, vi x4] 85) → gIf (isP m) ((!Option.isNone m) = true) (∃ (x : OA) (x_1 x_2 : Nat), ((!Option.isNone m) = true → rd w' (pb m) (po m + 95) = some (.slice x x_1 x_2)) ∧ Wif (!(!Option.isNone m && !Option.isNone x)) (K (vi 1) w') (gIf (isP m) (decide (frame < 0) = false) (∃ (x : OA) (x_3 x_4 : Nat), (decide (frame < 0) = false → rd w' (pb m) (po m + 95) = some (.slice x x_3 x_4)) ∧ Wif (decide (frame < 0) || decide (frame ≥ (↑x_3 : Int))) (K (vi 7) w') (∃ (x x_5 x_6 x_7 x_8 : Int), (rd w' w.heap.size 0 = some (.int .u8 x) ∧ rd w' w.heap.size 1 = some (.int .i64 x_5) ∧ rd w' w.heap.size 2 = some (.int .i64 x_6) ∧ rd w' w.heap.size 3 = some (.int .i64 x_7) ∧ rd w' w.heap.size 4 = some (.int .i64 x_8)) ∧ Calls Tryz.prog 146 #[Value.agg #[Value.int .u8 x, vi x_5, vi x_6, vi x_7, vi x_8]] w' fun e w' => ∃ (b : Bool), e = .returned (.bool b) ∧ Wif (!b) (K (vi 2) w') (∀ w1, w1 = w'.drew → Wif (isP m) (∃ (x : OA) (x_9 x_10 : Nat), rd w1 (pb m) (po m + 95) = some (.slice x x_9 x_10) ∧ ∃ (x_11 x_12 x_13 x_14 x_15 : Int), (rd w1 w.heap.size 0 = some (.int .u8 x_11) ∧ rd w1 w.heap.size 1 = some (.int .i64 x_12) ∧ rd w1 w.heap.size 2 = some (.int .i64 x_13) ∧ rd w1 w.heap.size 3 = some (.int .i64 x_14) ∧ rd w1 w.heap.size 4 = some (.int .i64 x_15)) ∧ Wif (isP x) (Wif (inB frame x_9) ((wr w1 (pb x) (po x + Int.toNat frame * 5) ∧ wr w1 (pb x) (po x + Int.toNat frame * 5 + 1) ∧ wr w1 (pb x) (po x + Int.toNat frame * 5 + 2) ∧ wr w1 (pb x) (po x + Int.toNat frame * 5 + 3) ∧ wr w1 (pb x) (po x + Int.toNat frame * 5 + 4)) ∧ ∀ w', w' = st (st (st (st (st w1 (pb x) (po x + Int.toNat frame * 5) (Value.int .u8 x_11)) (pb x) (po x + Int.toNat frame * 5 + 1) (vi x_12)) (pb x) (po x + Int.toNat frame * 5 + 2) (vi x_13)) (pb x) (po x + Int.toNat frame * 5 + 3) (vi x_14)) (pb x) (po x + Int.toNat frame * 5 + 4) (vi x_15) → K (vi 0) w') False) False) False)))))
theorem vc95 (m : OA) (frame x0 x1 x2 x3 x4 : Int) (w : World) (K : KV) (h : vcP95 m frame x0 x1 x2 x3 x4 w K) : Calls Tryz.prog 95 #[pointer m, vi frame, Value.agg #[Value.int .u8 x0, vi x1, vi x2, vi x3, vi x4]] w (fun e w' => ∃ v, e = .returned v ∧ K v w') := Eng.vc_of [167, 120, 130, 61, 133, 143, 134, 91, 103, 113, 98, 99, 169, 190, 216] 2 [] Tryz.mixes Tryz.func95 (by kernel_rfl) (by kernel_rfl) (by kernel_rfl) h
/- byre/table.Word -/
def vcP149 (x0 x1 : Int) (w : World) (K : KV) : Prop := ∀ w', w' = w.alloc (.cells #[Value.int .u8 x0, vi x1] 94) → ∃ (x : Int), rd w' w.heap.size 0 = some (.int .u8 x) ∧ Wif (x == 0) (∃ (x : Int), rd w' w.heap.size 1 = some (.int .i64 x) ∧ Wif (x != 0) (K (.tuple #[Value.int .u64 0, vi 2]) w') (∃ (x : Int), rd w' w.heap.size 1 = some (.int .i64 x) ∧ ∃ (x_1 : Int), (decide (x ≥ 0) = true → rd w' w.heap.size 1 = some (.int .i64 x_1)) ∧ Wif (decide (x ≥ 0) && decide (x_1 ≤ 65535)) (∃ (x : Int), rd w' w.heap.size 0 = some (.int .u8 x) ∧ ∃ (x_2 : Int), rd w' w.heap.size 1 = some (.int .i64 x_2) ∧ K (.tuple #[Value.int .u64 (bitsI BinOp.or IntKind.u64 (IntKind.wrap .u64 x) (IntKind.wrap .u64 (IntKind.wrap .u64 x_2 * 4))), vi 0]) w') (K (.tuple #[Value.int .u64 0, vi 2]) w'))) (Wif (x == 1) (Wif (x == 1) (∃ (x : Int), rd w' w.heap.size 1 = some (.int .i64 x) ∧ ∃ (x_1 : Int), (decide (x ≥ 0) = true → rd w' w.heap.size 1 = some (.int .i64 x_1)) ∧ Wif (decide (x ≥ 0) && decide (x_1 ≤ 65535)) (∃ (x : Int), rd w' w.heap.size 0 = some (.int .u8 x) ∧ ∃ (x_2 : Int), rd w' w.heap.size 1 = some (.int .i64 x_2) ∧ K (.tuple #[Value.int .u64 (bitsI BinOp.or IntKind.u64 (IntKind.wrap .u64 x) (IntKind.wrap .u64 (IntKind.wrap .u64 x_2 * 4))), vi 0]) w') (K (.tuple #[Value.int .u64 0, vi 2]) w')) (K (.tuple #[Value.int .u64 0, vi 2]) w')) (Wif (x == 2) (Wif (x == 2) (∃ (x : Int), rd w' w.heap.size 1 = some (.int .i64 x) ∧ ∃ (x_1 : Int), (decide (x ≥ 0) = true → rd w' w.heap.size 1 = some (.int .i64 x_1)) ∧ Wif (decide (x ≥ 0) && decide (x_1 ≤ 65535)) (∃ (x : Int), rd w' w.heap.size 0 = some (.int .u8 x) ∧ ∃ (x_2 : Int), rd w' w.heap.size 1 = some (.int .i64 x_2) ∧ K (.tuple #[Value.int .u64 (bitsI BinOp.or IntKind.u64 (IntKind.wrap .u64 x) (IntKind.wrap .u64 (IntKind.wrap .u64 x_2 * 4))), vi 0]) w') (K (.tuple #[Value.int .u64 0, vi 2]) w')) (K (.tuple #[Value.int .u64 0, vi 2]) w')) (Wif (x == 3) (∃ (x : Int), rd w' w.heap.size 1 = some (.int .i64 x) ∧ ∃ (x_1 : Int), (decide (x ≥ 0) = true → rd w' w.heap.size 1 = some (.int .i64 x_1)) ∧ Wif (decide (x ≥ 0) && decide (x_1 ≤ 65535)) (∃ (x : Int), rd w' w.heap.size 0 = some (.int .u8 x) ∧ ∃ (x_2 : Int), rd w' w.heap.size 1 = some (.int .i64 x_2) ∧ K (.tuple #[Value.int .u64 (bitsI BinOp.or IntKind.u64 (IntKind.wrap .u64 x) (IntKind.wrap .u64 (IntKind.wrap .u64 x_2 * 4))), vi 0]) w') (K (.tuple #[Value.int .u64 0, vi 2]) w')) (K (.tuple #[Value.int .u64 0, vi 2]) w'))))
theorem vc149 (x0 x1 : Int) (w : World) (K : KV) (h : vcP149 x0 x1 w K) : Calls Tryz.prog 149 #[Value.agg #[Value.int .u8 x0, vi x1]] w (fun e w' => ∃ v, e = .returned v ∧ K v w') := Eng.vc_of [167, 120, 130, 61, 133, 143, 134, 91, 103, 113, 98, 99, 169, 190, 216] 2 [] Tryz.mixes Tryz.func149 (by kernel_rfl) (by kernel_rfl) (by kernel_rfl) h
/- byre/table.read -/
def vcP161 (m : OA) (frame i : Int) (w : World) (K : KV) : Prop := ∀ w', w' = w.alloc (.cells #[Value.int .u8 0, vi 0] 94) → Calls Tryz.prog 196 #[pointer m, vi frame, vi i] w' fun e w' => ∃ (n n_1 : Int), e = .returned (.tuple #[Value.int .u64 n, vi n_1]) ∧ Wif (n_1 != 0) ((wr w' w.heap.size 0 ∧ wr w' w.heap.size 1) ∧ ∀ w'_1, w'_1 = st (st w' w.heap.size 0 (Value.int .u8 0)) w.heap.size 1 (vi 0) → ∃ (x x_1 : Int), (rd w'_1 w.heap.size 0 = some (.int .u8 x) ∧ rd w'_1 w.heap.size 1 = some (.int .i64 x_1)) ∧ K (.tuple #[Value.agg #[Value.int .u8 x, vi x_1], vi n_1]) w'_1) (∀ w'_1, w'_1 = w'.alloc (.cells #[Value.int .u8 0, vi 0] 94) → Wif (decide (Int.fdiv n 4 > 65535) || n != 0 && bitsI BinOp.and IntKind.u64 n 3 == 0) ((wr w'_1 w'.heap.size 0 ∧ wr w'_1 w'.heap.size 1) ∧ ∀ w'_2, w'_2 = st (st w'_1 w'.heap.size 0 (Value.int .u8 0)) w'.heap.size 1 (vi 0) → ∃ (x x_1 : Int), (rd w'_2 w'.heap.size 0 = some (.int .u8 x) ∧ rd w'_2 w'.heap.size 1 = some (.int .i64 x_1)) ∧ (wr w'_2 w.heap.size 0 ∧ wr w'_2 w.heap.size 1) ∧ ∀ w', w' = st (st w'_2 w.heap.size 0 (Value.int .u8 x)) w.heap.size 1 (vi x_1) → ∃ (x x_2 : Int), (rd w' w.heap.size 0 = some (.int .u8 x) ∧ rd w' w.heap.size 1 = some (.int .i64 x_2)) ∧ K (.tuple #[Value.agg #[Value.int .u8 x, vi x_2], vi 5]) w') ((wr w'_1 w'.heap.size 0 ∧ wr w'_1 w'.heap.size 1) ∧ ∀ w'_2, w'_2 = st (st w'_1 w'.heap.size 0 (Value.int .u8 (IntKind.wrap .u8 (bitsI BinOp.and IntKind.u64 n 3)))) w'.heap.size 1 (vi (IntKind.wrap .i64 (Int.fdiv n 4))) → ∃ (x x_1 : Int), (rd w'_2 w'.heap.size 0 = some (.int .u8 x) ∧ rd w'_2 w'.heap.size 1 = some (.int .i64 x_1)) ∧ (wr w'_2 w.heap.size 0 ∧ wr w'_2 w.heap.size 1) ∧ ∀ w', w' = st (st w'_2 w.heap.size 0 (Value.int .u8 x)) w.heap.size 1 (vi x_1) → ∃ (x x_2 : Int), (rd w' w.heap.size 0 = some (.int .u8 x) ∧ rd w' w.heap.size 1 = some (.int .i64 x_2)) ∧ K (.tuple #[Value.agg #[Value.int .u8 x, vi x_2], vi 0]) w'))
theorem vc161 (m : OA) (frame i : Int) (w : World) (K : KV) (h : vcP161 m frame i w K) : Calls Tryz.prog 161 #[pointer m, vi frame, vi i] w (fun e w' => ∃ v, e = .returned v ∧ K v w') := Eng.vc_of [167, 120, 130, 61, 133, 143, 134, 91, 103, 113, 98, 99, 169, 190, 216, 197, 162] 3 [] Tryz.mixes Tryz.func161 (by kernel_rfl) (by kernel_rfl) (by kernel_rfl) h
/- byre/table.lacks -/
def vcP164 (m : OA) (root page : Int) (w : World) (K : KV) : Prop := Calls Tryz.prog 196 #[pointer m, vi root, vi (IntKind.wrap .i64 (Int.tdiv page 32))] w fun e w' => ∃ (n n_1 : Int), e = .returned (.tuple #[Value.int .u64 n, vi n_1]) ∧ K (.bool (n_1 == 0 && n == 0)) w'
theorem vc164 (m : OA) (root page : Int) (w : World) (K : KV) (h : vcP164 m root page w K) : Calls Tryz.prog 164 #[pointer m, vi root, vi page] w (fun e w' => ∃ v, e = .returned v ∧ K v w') := Eng.vc_of [167, 120, 130, 61, 133, 143, 134, 91, 103, 113, 98, 99, 169, 190, 216, 197, 162] 3 [] Tryz.mixes Tryz.func164 (by kernel_rfl) (by kernel_rfl) (by kernel_rfl) h
/- byre/table.Leaf -/
def vcP105 (m : OA) (root page : Int) (w : World) (K : KV) : Prop := Wif (decide (page < 0) || decide (page ≥ 1024)) (K (.tuple #[vi 0, vi 2]) w) (Calls Tryz.prog 161 #[pointer m, vi root, vi (IntKind.wrap .i64 (Int.tdiv page 32))] w fun e w' => ∃ (n n_1 n_2 : Int), e = .returned (.tuple #[Value.agg #[Value.int .u8 n, vi n_1], vi n_2]) ∧ ∀ w'_1, w'_1 = w'.alloc (.cells #[Value.int .u8 0, vi 0] 94) → (wr w'_1 w'.heap.size 0 ∧ wr w'_1 w'.heap.size 1) ∧ ∀ w'_2, w'_2 = st (st w'_1 w'.heap.size 0 (Value.int .u8 n)) w'.heap.size 1 (vi n_1) → Wif (n_2 != 0) (K (.tuple #[vi 0, vi n_2]) w'_2) (∃ (x : Int), rd w'_2 w'.heap.size 0 = some (.int .u8 x) ∧ Wif (x == 0) (K (.tuple #[vi 0, vi 7]) w'_2) (∃ (x : Int), rd w'_2 w'.heap.size 0 = some (.int .u8 x) ∧ Wif (x != 1) (K (.tuple #[vi 0, vi 5]) w'_2) (∃ (x : Int), rd w'_2 w'.heap.size 1 = some (.int .i64 x) ∧ K (.tuple #[vi x, vi 0]) w'_2))))
theorem vc105 (m : OA) (root page : Int) (w : World) (K : KV) (h : vcP105 m root page w K) : Calls Tryz.prog 105 #[pointer m, vi root, vi page] w (fun e w' => ∃ v, e = .returned v ∧ K v w') := Eng.vc_of [167, 120, 130, 61, 133, 143, 134, 91, 103, 113, 98, 99, 169, 190, 216, 197, 162] 3 [] Tryz.mixes Tryz.func105 (by kernel_rfl) (by kernel_rfl) (by kernel_rfl) h
/- byre/table.Get -/
def vcP110 (m : OA) (root page : Int) (w : World) (K : KV) : Prop := ∀ w', w' = w.alloc (.cells #[Value.int .u8 0, vi 0] 94) → Calls Tryz.prog 105 #[pointer m, vi root, vi page] w' fun e w' => ∃ (n n_1 : Int), e = .returned (.tuple #[vi n, vi n_1]) ∧ Wif (n_1 == 7) (Calls Tryz.prog 164 #[pointer m, vi root, vi page] w' fun e w' => ∃ (b : Bool), e = .returned (.bool b) ∧ Wif b ((wr w' w.heap.size 0 ∧ wr w' w.heap.size 1) ∧ ∀ w'_1, w'_1 = st (st w' w.heap.size 0 (Value.int .u8 0)) w.heap.size 1 (vi 0) → ∃ (x x_1 : Int), (rd w'_1 w.heap.size 0 = some (.int .u8 x) ∧ rd w'_1 w.heap.size 1 = some (.int .i64 x_1)) ∧ K (.tuple #[Value.agg #[Value.int .u8 x, vi x_1], vi 0]) w'_1) (Wif (n_1 != 0) ((wr w' w.heap.size 0 ∧ wr w' w.heap.size 1) ∧ ∀ w'_1, w'_1 = st (st w' w.heap.size 0 (Value.int .u8 0)) w.heap.size 1 (vi 0) → ∃ (x x_1 : Int), (rd w'_1 w.heap.size 0 = some (.int .u8 x) ∧ rd w'_1 w.heap.size 1 = some (.int .i64 x_1)) ∧ K (.tuple #[Value.agg #[Value.int .u8 x, vi x_1], vi n_1]) w'_1) (Calls Tryz.prog 161 #[pointer m, vi n, vi (Int.tmod page 32)] w' fun e w' => ∃ (n n_2 n_3 : Int), e = .returned (.tuple #[Value.agg #[Value.int .u8 n, vi n_2], vi n_3]) ∧ (wr w' w.heap.size 0 ∧ wr w' w.heap.size 1) ∧ ∀ w'_1, w'_1 = st (st w' w.heap.size 0 (Value.int .u8 n)) w.heap.size 1 (vi n_2) → ∃ (x x_1 : Int), (rd w'_1 w.heap.size 0 = some (.int .u8 x) ∧ rd w'_1 w.heap.size 1 = some (.int .i64 x_1)) ∧ K (.tuple #[Value.agg #[Value.int .u8 x, vi x_1], vi n_3]) w'_1))) (Wif (n_1 != 0) ((wr w' w.heap.size 0 ∧ wr w' w.heap.size 1) ∧ ∀ w'_1, w'_1 = st (st w' w.heap.size 0 (Value.int .u8 0)) w.heap.size 1 (vi 0) → ∃ (x x_1 : Int), (rd w'_1 w.heap.size 0 = some (.int .u8 x) ∧ rd w'_1 w.heap.size 1 = some (.int .i64 x_1)) ∧ K (.tuple #[Value.agg #[Value.int .u8 x, vi x_1], vi n_1]) w'_1) (Calls Tryz.prog 161 #[pointer m, vi n, vi (Int.tmod page 32)] w' fun e w' => ∃ (n n_2 n_3 : Int), e = .returned (.tuple #[Value.agg #[Value.int .u8 n, vi n_2], vi n_3]) ∧ (wr w' w.heap.size 0 ∧ wr w' w.heap.size 1) ∧ ∀ w'_1, w'_1 = st (st w' w.heap.size 0 (Value.int .u8 n)) w.heap.size 1 (vi n_2) → ∃ (x x_1 : Int), (rd w'_1 w.heap.size 0 = some (.int .u8 x) ∧ rd w'_1 w.heap.size 1 = some (.int .i64 x_1)) ∧ K (.tuple #[Value.agg #[Value.int .u8 x, vi x_1], vi n_3]) w'_1))
theorem vc110 (m : OA) (root page : Int) (w : World) (K : KV) (h : vcP110 m root page w K) : Calls Tryz.prog 110 #[pointer m, vi root, vi page] w (fun e w' => ∃ v, e = .returned v ∧ K v w') := Eng.vc_of [167, 120, 130, 61, 133, 143, 134, 91, 103, 113, 98, 99, 169, 190, 216, 197, 162] 3 [] Tryz.mixes Tryz.func110 (by kernel_rfl) (by kernel_rfl) (by kernel_rfl) h
/- byre/table.Set -/
def vcP107 (m : OA) (root page x0 x1 : Int) (w : World) (K : KV) : Prop := ∀ w', w' = w.alloc (.cells #[Value.int .u8 x0, vi x1] 94) → ∃ (x x_1 : Int), (rd w' w.heap.size 0 = some (.int .u8 x) ∧ rd w' w.heap.size 1 = some (.int .i64 x_1)) ∧ Calls Tryz.prog 149 #[Value.agg #[Value.int .u8 x, vi x_1]] w' fun e w' => ∃ (n n_1 : Int), e = .returned (.tuple #[Value.int .u64 n, vi n_1]) ∧ Wif (decide (page < 0) || decide (page ≥ 1024) || n_1 != 0) (K (vi 2) w') (Calls Tryz.prog 105 #[pointer m, vi root, vi page] w' fun e w' => ∃ (n_2 n_3 : Int), e = .returned (.tuple #[vi n_2, vi n_3]) ∧ Wif (n_3 != 0) (K (vi n_3) w') (Calls Tryz.prog 150 #[pointer m, vi n_2, vi (Int.tmod page 32), Value.int .u64 n] w' fun e w' => ∃ (n : Int), e = Ending.returned (vi n) ∧ K (vi n) w'))
theorem vc107 (m : OA) (root page x0 x1 : Int) (w : World) (K : KV) (h : vcP107 m root page x0 x1 w K) : Calls Tryz.prog 107 #[pointer m, vi root, vi page, Value.agg #[Value.int .u8 x0, vi x1]] w (fun e w' => ∃ v, e = .returned v ∧ K v w') := Eng.vc_of [167, 120, 130, 61, 133, 143, 134, 91, 103, 113, 98, 99, 169, 190, 216, 161, 197, 164, 162] 3 [] Tryz.mixes Tryz.func107 (by kernel_rfl) (by kernel_rfl) (by kernel_rfl) h
/- byre/table.SetLeaf -/
def vcP97 (m : OA) (root page leaf : Int) (w : World) (K : KV) : Prop := Wif (decide (page < 0) || decide (page ≥ 1024) || decide (leaf < -1) || decide (leaf > 65535)) (K (vi 2) w) (∀ w', w' = w.alloc (.cells #[Value.int .u8 0, vi 0] 94) → (wr w' w.heap.size 0 ∧ wr w' w.heap.size 1) ∧ ∀ w'_1, w'_1 = st (st w' w.heap.size 0 (Value.int .u8 1)) w.heap.size 1 (vi leaf) → Wif (decide (leaf < 0)) ((wr w'_1 w.heap.size 0 ∧ wr w'_1 w.heap.size 1) ∧ ∀ w', w' = st (st w'_1 w.heap.size 0 (Value.int .u8 0)) w.heap.size 1 (vi 0) → ∃ (x x_1 : Int), (rd w' w.heap.size 0 = some (.int .u8 x) ∧ rd w' w.heap.size 1 = some (.int .i64 x_1)) ∧ Calls Tryz.prog 149 #[Value.agg #[Value.int .u8 x, vi x_1]] w' fun e w' => ∃ (n n_1 : Int), e = .returned (.tuple #[Value.int .u64 n, vi n_1]) ∧ Calls Tryz.prog 150 #[pointer m, vi root, vi (IntKind.wrap .i64 (Int.tdiv page 32)), Value.int .u64 n] w' fun e w' => ∃ (n : Int), e = Ending.returned (vi n) ∧ K (vi n) w') (∃ (x x_1 : Int), (rd w'_1 w.heap.size 0 = some (.int .u8 x) ∧ rd w'_1 w.heap.size 1 = some (.int .i64 x_1)) ∧ Calls Tryz.prog 149 #[Value.agg #[Value.int .u8 x, vi x_1]] w'_1 fun e w' => ∃ (n n_1 : Int), e = .returned (.tuple #[Value.int .u64 n, vi n_1]) ∧ Calls Tryz.prog 150 #[pointer m, vi root, vi (IntKind.wrap .i64 (Int.tdiv page 32)), Value.int .u64 n] w' fun e w' => ∃ (n : Int), e = Ending.returned (vi n) ∧ K (vi n) w'))
theorem vc97 (m : OA) (root page leaf : Int) (w : World) (K : KV) (h : vcP97 m root page leaf w K) : Calls Tryz.prog 97 #[pointer m, vi root, vi page, vi leaf] w (fun e w' => ∃ v, e = .returned v ∧ K v w') := Eng.vc_of [167, 120, 130, 61, 133, 143, 134, 91, 103, 113, 98, 99, 169, 190, 216] 2 [] Tryz.mixes Tryz.func97 (by kernel_rfl) (by kernel_rfl) (by kernel_rfl) h
end Go.Proofs.YtklmokolnakkoaaGreatDoor
set_option linter.unusedSimpArgs false
set_option linter.unusedVariables false
set_option maxRecDepth 100000
namespace Go.Proofs.YtklmokolnakkoaaGreatDoor
open Go Go.Eng
def ByR (by' : Nat → Int) : Prop := ∀ i, 0 ≤ by' i ∧ by' i ≤ 255
def wordK (by' : Nat → Int) (o : Nat) : Nat → Int
  | 0 => 0
  | k + 1 => wordK by' o k + by' (o + k) * 2 ^ (8 * k)
theorem pow8 (k : Nat) : (2 : Int) ^ (8 * (k + 1)) = 256 * 2 ^ (8 * k) := by
  rw [show 8 * (k + 1) = 8 * k + 8 by omega, Int.pow_add]
  omega
theorem wordK_lt {by' : Nat → Int} (h : ByR by') (o : Nat) : ∀ k, 0 ≤ wordK by' o k ∧ wordK by' o k < 2 ^ (8 * k)
  | 0 => by simp [wordK]
  | k + 1 => by
    have ih := wordK_lt h o k
    have hb := h (o + k)
    have hp : (0 : Int) < 2 ^ (8 * k) := Int.pow_pos (by decide)
    have h1 : 0 ≤ by' (o + k) * 2 ^ (8 * k) := Int.mul_nonneg hb.1 (by omega)
    have h2 : by' (o + k) * 2 ^ (8 * k) ≤ 255 * 2 ^ (8 * k) := Int.mul_le_mul_of_nonneg_right hb.2 (by omega)
    rw [pow8]
    unfold wordK
    omega
theorem or_word {a x : Int} {k : Nat} (hk : k < 8) (ha : 0 ≤ a ∧ a < 2 ^ (8 * k)) (hx : 0 ≤ x ∧ x ≤ 255) :
    bitsI .or .u64 a (IntKind.wrap .u64 (IntKind.wrap .u64 x * 2 ^ min (Int.toNat (IntKind.wrap .i64 (8 * (k : Int)))) 64)) = a + x * 2 ^ (8 * k) := by
  obtain ⟨m, rfl⟩ := Int.eq_ofNat_of_zero_le ha.1
  obtain ⟨y, rfl⟩ := Int.eq_ofNat_of_zero_le hx.1
  have e1 : min (Int.toNat (IntKind.wrap .i64 (8 * (k : Int)))) 64 = 8 * k := by rw [wi (by omega)]; omega
  have hp : (2 : Nat) ^ (8 * k) ≤ 2 ^ 56 := Nat.pow_le_pow_right (by decide) (by omega)
  have hy : y * 2 ^ (8 * k) ≤ 255 * 2 ^ (8 * k) := Nat.mul_le_mul_right _ (by omega)
  have hm : m < 2 ^ (8 * k) := by
    have := ha.2
    have e : ((2 ^ (8 * k) : Nat) : Int) = 2 ^ (8 * k) := by simp
    omega
  have e2 : (y : Int) * 2 ^ (8 * k) = ((y * 2 ^ (8 * k) : Nat) : Int) := by simp
  rw [e1, wu (x := (y : Int)) (by omega), e2, wu (x := ((y * 2 ^ (8 * k) : Nat) : Int)) (by omega)]
  generalize hq : y * 2 ^ (8 * k) = q at *
  have h3 : (BitVec.ofInt 64 (m : Int) ||| BitVec.ofInt 64 (q : Int)).toNat = m + q := by
    rw [BitVec.toNat_or, BitVec.toNat_ofInt, BitVec.toNat_ofInt, show ((m : Int) % ((2 ^ 64 : Nat) : Int)).toNat = m by omega, show ((q : Int) % ((2 ^ 64 : Nat) : Int)).toNat = q by omega, ← hq, Nat.mul_comm y, Nat.or_comm, ← Nat.two_pow_add_eq_or_of_lt hm]
    omega
  show IntKind.wrap .u64 ((BitVec.ofInt 64 (m : Int) ||| BitVec.ofInt 64 (q : Int)).toNat : Int) = _
  rw [h3, wu (by omega)]
  omega
def byteOf (x : Int) (k : Nat) : Int := IntKind.wrap .u8 (Int.fdiv x (2 ^ (8 * k)))
theorem w8 (y : Int) : IntKind.wrap .u8 y = y % 256 := by
  simp only [IntKind.wrap, IntKind.bits, IntKind.signed, Bool.false_and, Bool.false_eq_true, if_false]
  rfl
theorem byteOf_r (x : Int) (k : Nat) : 0 ≤ byteOf x k ∧ byteOf x k ≤ 255 := by unfold byteOf; rw [w8]; omega
def setB (by' : Nat → Int) (o : Nat) (x : Int) : Nat → Nat → Int
  | 0 => by'
  | k + 1 => upd (setB by' o x k) (o + k) (byteOf x k)
theorem setB_out {by' : Nat → Int} {o : Nat} {x : Int} : ∀ {k j : Nat}, (j < o ∨ o + k ≤ j) → setB by' o x k j = by' j
  | 0, _, _ => rfl
  | k + 1, j, h => by
    show upd _ _ _ _ = _
    rw [upd_ne _ _ (by omega)]
    exact setB_out (by omega)
theorem setB_r {by' : Nat → Int} (h : ByR by') {o : Nat} {x : Int} : ∀ k, ByR (setB by' o x k)
  | 0 => h
  | k + 1 => fun j => by
    show 0 ≤ upd _ _ _ j ∧ upd _ _ _ j ≤ 255
    by_cases e : j = o + k
    · subst e; rw [upd_same]; exact byteOf_r x k
    · rw [upd_ne _ _ e]; exact setB_r h k j
theorem wordK_ext {f g : Nat → Int} {o : Nat} : ∀ {k : Nat}, (∀ j, j < k → f (o + j) = g (o + j)) → wordK f o k = wordK g o k
  | 0, _ => rfl
  | k + 1, h => by unfold wordK; rw [wordK_ext fun j hj => h j (by omega), h k (by omega)]
theorem wordK_set {by' : Nat → Int} {o : Nat} {x : Int} (hx : 0 ≤ x) : ∀ k, wordK (setB by' o x k) o k = x % 2 ^ (8 * k)
  | 0 => by simp [wordK]
  | k + 1 => by
    have ih := wordK_set (by' := by') (o := o) hx k
    show wordK (upd (setB by' o x k) (o + k) (byteOf x k)) o k + upd (setB by' o x k) (o + k) (byteOf x k) (o + k) * 2 ^ (8 * k) = _
    rw [upd_same, wordK_ext (g := setB by' o x k) fun j hj => upd_ne _ _ (by omega), ih]
    unfold byteOf
    rw [w8, Int.fdiv_eq_ediv_of_nonneg _ (Int.le_of_lt (Int.pow_pos (by decide)))]
    obtain ⟨y, rfl⟩ := Int.eq_ofNat_of_zero_le hx
    have h2 : ∀ j : Nat, (2 : Int) ^ j = ((2 ^ j : Nat) : Int) := fun j => by simp
    rw [h2, h2]
    have h1 := Nat.mod_mul (a := 2 ^ (8 * k)) (b := 256) (x := y)
    rw [show 2 ^ (8 * k) * 256 = 2 ^ (8 * (k + 1)) by rw [show 8 * (k + 1) = 8 * k + 8 by omega, Nat.pow_add]] at h1
    have h3 := congrArg (Nat.cast : Nat → Int) h1
    push_cast at h3 ⊢
    rw [h3, Int.mul_comm (2 ^ (8 * k)) _]
theorem wordK_setB {by' : Nat → Int} {o : Nat} {x : Int} (hx : 0 ≤ x ∧ x ≤ 18446744073709551615) : wordK (setB by' o x 8) o 8 = x := by
  rw [wordK_set hx.1]
  exact Int.emod_eq_of_lt hx.1 (by have : (2 : Int) ^ (8 * 8) = 18446744073709551616 := by decide
                                   omega)
def wdE (n : Nat) (frame i : Int) : Int := if frame < 0 ∨ frame ≥ n then 7 else if i < 0 ∨ i > 31 then 2 else 0
def wdO (frame i : Int) : Nat := frame.toNat * 256 + i.toNat * 8
def wdF (by' : Nat → Int) (n : Nat) (frame i : Int) : Int := if wdE n frame i = 0 then wordK by' (wdO frame i) 8 else 0
def wdS (by' : Nat → Int) (n : Nat) (frame i x : Int) : Nat → Int := if wdE n frame i = 0 then setB by' (wdO frame i) x 8 else by'
theorem wdE_ok {n : Nat} {frame i : Int} (h : wdE n frame i = 0) : 0 ≤ frame ∧ frame < n ∧ 0 ≤ i ∧ i ≤ 31 := by
  unfold wdE at h
  split at h
  · cases h
  · split at h
    · cases h
    · omega
theorem wdE_of {n : Nat} {frame i : Int} (h1 : 0 ≤ frame) (h2 : frame < n) (h3 : 0 ≤ i) (h4 : i ≤ 31) : wdE n frame i = 0 := by
  unfold wdE
  rw [if_neg (by omega), if_neg (by omega)]
theorem wdF_r {by' : Nat → Int} (h : ByR by') (n : Nat) (frame i : Int) : 0 ≤ wdF by' n frame i ∧ wdF by' n frame i ≤ 18446744073709551615 := by
  unfold wdF
  split
  · have := wordK_lt h (wdO frame i) 8
    have e : (2 : Int) ^ (8 * 8) = 18446744073709551616 := by decide
    omega
  · omega
theorem wdS_r {by' : Nat → Int} (h : ByR by') (n : Nat) (frame i x : Int) : ByR (wdS by' n frame i x) := by
  unfold wdS
  split
  · exact setB_r h 8
  · exact h
theorem wdF_set {by' : Nat → Int} {n : Nat} {f1 i1 x f2 i2 : Int} (hx : 0 ≤ x ∧ x ≤ 18446744073709551615) (h1 : wdE n f1 i1 = 0) (h2 : wdE n f2 i2 = 0) : wdF (wdS by' n f1 i1 x) n f2 i2 = if f2 = f1 ∧ i2 = i1 then x else wdF by' n f2 i2 := by
  have g1 := wdE_ok h1
  have g2 := wdE_ok h2
  unfold wdF wdS
  rw [if_pos h1, if_pos h2, if_pos h2]
  split
  · rename_i e
    rw [e.1, e.2]
    exact wordK_setB hx
  · rename_i e
    refine wordK_ext fun j hj => setB_out ?_
    unfold wdO
    by_cases h3 : f2.toNat < f1.toNat
    · omega
    · by_cases h4 : f1.toNat < f2.toNat
      · omega
      · have : f2 = f1 := by omega
        have h5 : i2 ≠ i1 := fun e2 => e ⟨this, e2⟩
        have : f1.toNat = f2.toNat := by omega
        rw [this]
        rcases Int.lt_or_gt_of_ne h5 with h6 | h6 <;> omega
section
variable {w : World} {m bb mb : Nat} {c : Nat → Int} {n : Nat} {by' : Nat → Int} {mk : Nat → Mark}
theorem offA2 {bb c1 c2 o1 o2 : Nat} (h1 : c1 ≠ o1) (h2 : c2 ≠ o2) : offA (offA (some ⟨bb, 0, none⟩) c1 o1 1) c2 o2 1 = some ⟨bb, o1 + o2, none⟩ := by
  unfold offA
  rw [if_neg h1, if_neg h2, Option.map_some, Option.map_some, addr_add, addr_add]
  simp
theorem word_spec (h : MemAt w m bb mb c n by' mk) (hb : ByR by') (hn : n ≤ 1024) (frame i : Int) :
    Calls Tryz.prog 196 #[ptr m, vi frame, vi i] w fun e w' => e = .returned (.tuple #[.int .u64 (wdF by' n frame i), vi (wdE n frame i)]) ∧ w' = w := by
  refine (vc196 _ frame i w (fun v w' => v = .tuple #[.int .u64 (wdF by' n frame i), vi (wdE n frame i)] ∧ w' = w) ?_).mono ?_
  rotate_left
  · rintro e w' ⟨v, rfl, rfl, h⟩
    exact ⟨rfl, h⟩
  have h95 : rd w m (0 + 95) = some (.slice (some ⟨mb, 0, none⟩) n n) := by rw [Nat.zero_add]; exact h.r95
  have h94 : rd w m (0 + 94) = some (.slice (some ⟨bb, 0, none⟩) (n * 256) (n * 256)) := by rw [Nat.zero_add]; exact h.r94
  unfold vcP196
  by_cases hf : frame < 0 ∨ frame ≥ n
  · have e7 : wdE n frame i = 7 := by unfold wdE; rw [if_pos hf]
    have e0 : wdF by' n frame i = 0 := by unfold wdF; rw [e7]; rfl
    rw [e7, e0]
    have hc : (decide (frame < 0) || decide (frame ≥ (n : Int))) = true := by simpa using hf
    exact Wif_intro (fun _ => gIf_intro (fun _ => rfl) ⟨_, _, _, fun _ => h95, Wif_no rfl (gIf_intro (fun _ => rfl) ⟨_, _, _, fun _ => h95, Wif_yes hc ⟨rfl, rfl⟩⟩)⟩)
      (fun _ => gIf_intro (fun _ => rfl) ⟨_, _, _, fun _ => h95, Wif_no rfl (gIf_intro (fun _ => rfl) ⟨_, _, _, fun _ => h95, Wif_yes hc ⟨rfl, rfl⟩⟩)⟩)
  have hc : (decide (frame < 0) || decide (frame ≥ (n : Int))) = false := by simp; omega
  by_cases hi : i < 0 ∨ i > 31
  · have e2 : wdE n frame i = 2 := by unfold wdE; rw [if_neg hf, if_pos hi]
    have e0 : wdF by' n frame i = 0 := by unfold wdF; rw [e2]; rfl
    rw [e2, e0]
    exact Wif_yes (by simpa using hi) (gIf_intro (fun _ => rfl) ⟨_, _, _, fun _ => h95, Wif_no rfl (gIf_intro (fun _ => rfl) ⟨_, _, _, fun _ => h95, Wif_no hc ⟨rfl, rfl⟩⟩)⟩)
  have e0 : wdE n frame i = 0 := wdE_of (by omega) (by omega) (by omega) (by omega)
  have eF : wdF by' n frame i = wordK by' (wdO frame i) 8 := by unfold wdF; rw [if_pos e0]
  rw [e0, eF]
  obtain ⟨f, rfl⟩ : ∃ f : Nat, frame = f := ⟨frame.toNat, by omega⟩
  obtain ⟨j, rfl⟩ : ∃ j : Nat, i = j := ⟨i.toNat, by omega⟩
  refine Wif_no (by simp; omega) (gIf_intro (fun _ => rfl) ⟨_, _, _, fun _ => h95, Wif_no rfl (gIf_intro (fun _ => rfl) ⟨_, _, _, fun _ => h95, Wif_no hc ?_⟩)⟩)
  rw [wi (x := 8 * (j : Int)) (by omega), wi (x := (f : Int) + 1) (by omega), wi (x := (f : Int) * 256) (by omega), wi (x := ((f : Int) + 1) * 256) (by omega), wi (x := 8 * (j : Int) + 8) (by omega)]
  refine Wif_no (by simp; omega) (Wif_yes rfl ⟨_, _, _, h94, Wif_yes (okSl_of (by omega) (by omega) (by omega)) (Wif_yes (okSl_of (by omega) (by omega) (by omega)) (Wif_yes (okSl_of (by omega) (by omega) (by omega)) ?_))⟩)
  rw [show Int.toNat ((f : Int) * 256) = f * 256 by omega, show Int.toNat (((f : Int) + 1) * 256) = f * 256 + 256 by omega, show Int.toNat (8 * (j : Int)) = j * 8 by omega, show Int.toNat (8 * (j : Int) + 8) = j * 8 + 8 by omega, show j * 8 + 8 - j * 8 = 8 by omega, show f * 256 + 256 - f * 256 = 256 by omega, offA2 (by omega) (by omega)]
  have eo : wdO (f : Int) (j : Int) = f * 256 + j * 8 := rfl
  refine ⟨fun a q W N => ∃ k : Nat, q = k ∧ k ≤ 8 ∧ N = 8 - k ∧ W = w ∧ a = wordK by' (f * 256 + j * 8) k, ⟨8, 0, rfl, by omega, rfl, rfl, rfl⟩, ?_⟩
  rintro _ _ w1 _ ⟨k, rfl, hk, rfl, hw, rfl⟩
  rw [hw]
  refine Wif_intro (fun hq => ?_) (fun hq => ?_)
  · have hk8 : k < 8 := by simp at hq; omega
    refine Wif_yes rfl (Wif_yes (inB_of (by omega) (by omega)) ⟨by' (f * 256 + j * 8 + k), ?_, Wif_yes (by rw [wi (by omega)]; simp; omega) ⟨8 - (k + 1), by omega, k + 1, by rw [wi (by omega)]; rfl, hk8, rfl, rfl, ?_⟩⟩)
    · rw [Int.toNat_natCast, Nat.mul_one]
      show rd w bb (f * 256 + j * 8 + k) = _
      rw [h.bs.rd, runI_get _ _ _ _ _ (by omega), Nat.zero_add]
    · rw [or_word hk8 (wordK_lt hb _ k) (hb _)]
      rfl
  · have : k = 8 := by simp at hq; omega
    subst this
    exact ⟨rfl, rfl⟩
theorem setWord_spec (h : MemAt w m bb mb c n by' mk) (hn : n ≤ 1024) (frame i x : Int) :
    Calls Tryz.prog 150 #[ptr m, vi frame, vi i, .int .u64 x] w fun e w' => e = .returned (vi (wdE n frame i)) ∧ Kept (· = bb) w w' ∧ MemAt w' m bb mb c n (wdS by' n frame i x) mk := by
  refine (vc150 _ frame i x w (fun v w' => v = vi (wdE n frame i) ∧ Kept (· = bb) w w' ∧ MemAt w' m bb mb c n (wdS by' n frame i x) mk) ?_).mono ?_
  rotate_left
  · rintro e w' ⟨v, rfl, rfl, h⟩
    exact ⟨rfl, h⟩
  have h95 : rd w m (0 + 95) = some (.slice (some ⟨mb, 0, none⟩) n n) := by rw [Nat.zero_add]; exact h.r95
  have h94 : rd w m (0 + 94) = some (.slice (some ⟨bb, 0, none⟩) (n * 256) (n * 256)) := by rw [Nat.zero_add]; exact h.r94
  have nul : ∀ {e : Int} {w2 : Int → Prop} {G : Int → World → Nat → Prop}, wdE n frame i = e → wdE n frame i ≠ 0 → ∃ (I : Int → World → Nat → Prop), (∃ (n : Nat), I 0 w n) ∧ ∀ (q : Int) (w' : World) (n_1 : Nat), I q w' n_1 → Wif (decide (q < 0)) (Wif (decide (0 ≤ IntKind.wrap .i64 (8 * q))) False False) ((fun v w' => v = vi (wdE n frame i) ∧ Kept (· = bb) w w' ∧ MemAt w' m bb mb c n (wdS by' n frame i x) mk) (vi e) w') := by
    rintro e _ _ rfl he
    refine ⟨fun q W _ => q = 0 ∧ W = w, ⟨0, rfl, rfl⟩, ?_⟩
    rintro _ w1 _ ⟨rfl, hw⟩
    rw [hw]
    exact Wif_no rfl ⟨rfl, Kept.refl _ _, by unfold wdS; rw [if_neg he]; exact h⟩
  unfold vcP150
  by_cases hf : frame < 0 ∨ frame ≥ n
  · have e7 : wdE n frame i = 7 := by unfold wdE; rw [if_pos hf]
    have hc : (decide (frame < 0) || decide (frame ≥ (n : Int))) = true := by simpa using hf
    have := nul (w2 := fun _ => True) (G := fun _ _ _ => True) e7 (by rw [e7]; decide)
    exact Wif_intro (fun _ => gIf_intro (fun _ => rfl) ⟨_, _, _, fun _ => h95, Wif_no rfl (gIf_intro (fun _ => rfl) ⟨_, _, _, fun _ => h95, Wif_yes hc this⟩)⟩)
      (fun _ => gIf_intro (fun _ => rfl) ⟨_, _, _, fun _ => h95, Wif_no rfl (gIf_intro (fun _ => rfl) ⟨_, _, _, fun _ => h95, Wif_yes hc this⟩)⟩)
  have hc : (decide (frame < 0) || decide (frame ≥ (n : Int))) = false := by simp; omega
  by_cases hi : i < 0 ∨ i > 31
  · have e2 : wdE n frame i = 2 := by unfold wdE; rw [if_neg hf, if_pos hi]
    have := nul (w2 := fun _ => True) (G := fun _ _ _ => True) e2 (by rw [e2]; decide)
    exact Wif_yes (by simpa using hi) (gIf_intro (fun _ => rfl) ⟨_, _, _, fun _ => h95, Wif_no rfl (gIf_intro (fun _ => rfl) ⟨_, _, _, fun _ => h95, Wif_no hc this⟩)⟩)
  clear nul
  have e0 : wdE n frame i = 0 := wdE_of (by omega) (by omega) (by omega) (by omega)
  have eF : wdS by' n frame i x = setB by' (wdO frame i) x 8 := by unfold wdS; rw [if_pos e0]
  rw [e0, eF]
  obtain ⟨f, rfl⟩ : ∃ f : Nat, frame = f := ⟨frame.toNat, by omega⟩
  obtain ⟨j, rfl⟩ : ∃ j : Nat, i = j := ⟨i.toNat, by omega⟩
  refine Wif_no (by simp; omega) (gIf_intro (fun _ => rfl) ⟨_, _, _, fun _ => h95, Wif_no rfl (gIf_intro (fun _ => rfl) ⟨_, _, _, fun _ => h95, Wif_no hc ?_⟩)⟩)
  rw [wi (x := 8 * (j : Int)) (by omega), wi (x := (f : Int) + 1) (by omega), wi (x := (f : Int) * 256) (by omega), wi (x := ((f : Int) + 1) * 256) (by omega), wi (x := 8 * (j : Int) + 8) (by omega)]
  refine Wif_no (by simp; omega) (Wif_yes rfl ⟨_, _, _, h94, Wif_yes (okSl_of (by omega) (by omega) (by omega)) (Wif_yes (okSl_of (by omega) (by omega) (by omega)) (Wif_yes (okSl_of (by omega) (by omega) (by omega)) ?_))⟩)
  rw [show Int.toNat ((f : Int) * 256) = f * 256 by omega, show Int.toNat (((f : Int) + 1) * 256) = f * 256 + 256 by omega, show Int.toNat (8 * (j : Int)) = j * 8 by omega, show Int.toNat (8 * (j : Int) + 8) = j * 8 + 8 by omega, show j * 8 + 8 - j * 8 = 8 by omega, show f * 256 + 256 - f * 256 = 256 by omega, offA2 (by omega) (by omega)]
  have eo : wdO (f : Int) (j : Int) = f * 256 + j * 8 := rfl
  rw [eo]
  refine ⟨fun q W N => ∃ k : Nat, q = k ∧ k ≤ 8 ∧ N = 8 - k ∧ Kept (· = bb) w W ∧ own W bb (runI .u8 (setB by' (f * 256 + j * 8) x k) 0 (n * 256)), ⟨8, 0, rfl, by omega, rfl, Kept.refl _ _, h.bs⟩, ?_⟩
  rintro _ w1 _ ⟨k, rfl, hk, rfl, k1, o1⟩
  refine Wif_intro (fun hq => ?_) (fun hq => ?_)
  · have hk8 : k < 8 := by simp at hq; omega
    refine Wif_yes (by rw [wi (by omega)]; simp; omega) (Wif_yes rfl (Wif_yes (inB_of (by omega) (by omega)) ⟨?_, fun w2 e2 => ⟨8 - (k + 1), by omega, k + 1, by rw [wi (by omega)]; rfl, hk8, rfl, ?_, ?_⟩⟩))
    · rw [Int.toNat_natCast, Nat.mul_one]
      exact o1.wr (by rw [runI_len]; show f * 256 + j * 8 + k < _; omega)
    · exact k1.trans ((Kept.refl (· = bb) _).s1 e2 (.inl rfl)) fun _ _ e => e
    · rw [Int.toNat_natCast, Nat.mul_one] at e2
      have o2 := o1.s1 e2
      rw [show po (some (⟨bb, f * 256 + j * 8, none⟩ : Addr)) + k = f * 256 + j * 8 + k from rfl, runI_set (by omega)] at o2
      rw [wi (by omega), show Int.toNat (8 * (k : Int)) = 8 * k by omega, Nat.min_eq_left (by omega)] at o2
      exact o2
  · have : k = 8 := by simp at hq; omega
    subst this
    exact ⟨rfl, k1, ⟨h.so.kx k1 h.ne.1, o1, h.ms.kx k1 (Ne.symm h.ne.2.2), h.ne⟩⟩
end
end Go.Proofs.YtklmokolnakkoaaGreatDoor
