/-
  A part of a proof that a law of this seat returns true at every input. Conditions: those in each theorem.
-/
import Derived.Test.YtklmokolnakkoaaGreatDoorB0
import Derived.Test.YtklmokolnakkoaaGreatDoorY7
import Derived.Test.YtklmokolnakkoaaGreatDoorMV5
import Derived.Test.YtklmokolnakkoaaGreatDoorN3
set_option linter.unusedVariables false
set_option maxRecDepth 100000
namespace Go.Proofs.YtklmokolnakkoaaGreatDoor
open Go Go.Eng
open Go.Value (slice pointer)
/- byre/byrelaw21.CorePictures -/
def vcP6 (c0 : Nat → Int) (l : OA) (lL lC : Nat) (w : World) (K : KV) : Prop := ∀ w', w' = w.alloc (.cells (List.toArray (runI .i64 c0 0 94)) 31) → ∃ (x : Nat → Int), rdAll w' w.heap.size 0 (runI .i64 x 0 94) ∧ Calls Tryz.prog 12 #[Value.agg (List.toArray (runI .i64 x 0 94))] w' fun e w' => ∃ (b : Bool), e = .returned (.bool b) ∧ Wif (!b || decide ((↑lL : Int) > 50)) (Calls Tryz.prog 10 #[] w' fun e w' => ∃ (b : Bool), e = .returned (.bool b) ∧ K (.bool b) w') (∃ (x : Nat → Int), rdAll w' w.heap.size 0 (runI .i64 x 0 94) ∧ Calls Tryz.prog 22 #[Value.agg (List.toArray (runI .i64 x 0 94))] w' fun e w' => ∃ (p : OA) (b : Bool), e = .returned (.tuple #[pointer p, Value.bool b]) ∧ Wif (!b) (K (.bool false) w') (∃ (I : Int → World → Nat → Prop), (∃ (n : Nat), I 0 w' n) ∧ ∀ (n : Int) (w' : World) (n_1 : Nat), I n w' n_1 → Wif (decide (n < (↑lL : Int))) (Wif (isP l) (Wif (inB n lL) (∃ (x x_1 x_2 : Int), (rd w' (pb l) (po l + Int.toNat n * 3) = some (.int .i64 x) ∧ rd w' (pb l) (po l + Int.toNat n * 3 + 1) = some (.int .i64 x_1) ∧ rd w' (pb l) (po l + Int.toNat n * 3 + 2) = some (.int .i64 x_2)) ∧ ∀ w'_1, w'_1 = w'.alloc (.cells #[vi 0, vi 0, vi 0] 78) → (wr w'_1 w'.heap.size 0 ∧ wr w'_1 w'.heap.size 1 ∧ wr w'_1 w'.heap.size 2) ∧ ∀ w'_2, w'_2 = st (st (st w'_1 w'.heap.size 0 (vi x)) w'.heap.size 1 (vi x_1)) w'.heap.size 2 (vi x_2) → ∀ w1, w1 = w'_2.drew → Wif (isP p) (∃ (x : OA), rd w1 (pb p) (po p + 95) = some (.pointer x) ∧ ∃ (x_3 : Int), rd w1 w'.heap.size 1 = some (.int .i64 x_3) ∧ Calls Tryz.prog 24 #[pointer p, vi 0, vi 1, vi (if 0 > x_3 then 0 else x_3)] w1 fun (e : Ending) (w'_3 : World) => ∃ (a : OA) (l c : Nat), e = .returned (slice a l c) ∧ (rd w'_3 (pb p) (po p + 95) = some (.pointer x) ∧ True) ∧ Calls Tryz.prog 23 #[pointer x, slice a l c, vi 0, Value.bool true] w'_3 fun (e : Ending) (w'_4 : World) => ∃ (n_2 n_3 : Int), e = .returned (.tuple #[vi n_2, vi n_3]) ∧ ∃ (x : Int), ((n_3 == 0) = true → rd w'_4 w'.heap.size 1 = some (.int .i64 x)) ∧ Wif (n_3 == 0) (Calls Tryz.prog 25 #[pointer p, vi 1, vi x, vi n_2] w'_4 fun e w' => ∃ (n_4 : Int), e = Ending.returned (vi n_4) ∧ Wif (n_4 != 0) (Calls Tryz.prog 26 #[pointer p, vi n_2] w' fun e w' => ∃ (n_5 : Int), e = Ending.returned (vi n_5) ∧ ∃ m, Nat.succ m ≤ n_1 ∧ I (IntKind.wrap .i64 (n + 1)) w' m) (∃ m, Nat.succ m ≤ n_1 ∧ I (IntKind.wrap .i64 (n + 1)) w' m)) (∃ m, Nat.succ m ≤ n_1 ∧ I (IntKind.wrap .i64 (n + 1)) w'_4 m)) False) False) False) (Calls Tryz.prog 19 #[pointer p] w' fun e w' => ∃ (f : Nat → Int) (a : OA) (l c : Nat) (a_1 : OA) (l_1 c_1 : Nat) (a_2 : OA) (l_2 c_2 : Nat) (a_3 : OA) (l_3 c_3 : Nat) (a_4 : OA) (l_4 c_4 : Nat) (a_5 : OA) (l_5 c_5 : Nat) (a_6 : OA) (l_6 c_6 : Nat) (a_7 : OA) (l_7 c_7 : Nat) (a_8 : OA) (l_8 c_8 : Nat) (a_9 : OA) (l_9 c_9 : Nat) (a_10 : OA) (l_10 c_10 : Nat) (a_11 : OA) (l_11 c_11 : Nat) (a_12 : OA) (l_12 c_12 : Nat), e = .returned (.agg (List.toArray (runI .i64 f 0 94 ++ [slice a l c, slice a_1 l_1 c_1, slice a_2 l_2 c_2, slice a_3 l_3 c_3, slice a_4 l_4 c_4, slice a_5 l_5 c_5, slice a_6 l_6 c_6, slice a_7 l_7 c_7, slice a_8 l_8 c_8, slice a_9 l_9 c_9, slice a_10 l_10 c_10, slice a_11 l_11 c_11, slice a_12 l_12 c_12]))) ∧ ∀ w'_1, w'_1 = w'.alloc (.cells (List.toArray (List.replicate 94 (vi 0) ++ List.replicate 13 (slice none 0 0))) 68) → wrAll w'_1 w'.heap.size 0 (runI .i64 f 0 94 ++ [slice a l c, slice a_1 l_1 c_1, slice a_2 l_2 c_2, slice a_3 l_3 c_3, slice a_4 l_4 c_4, slice a_5 l_5 c_5, slice a_6 l_6 c_6, slice a_7 l_7 c_7, slice a_8 l_8 c_8, slice a_9 l_9 c_9, slice a_10 l_10 c_10, slice a_11 l_11 c_11, slice a_12 l_12 c_12]) ∧ ∀ w'_2, w'_2 = stAll w'_1 w'.heap.size 0 (runI .i64 f 0 94 ++ [slice a l c, slice a_1 l_1 c_1, slice a_2 l_2 c_2, slice a_3 l_3 c_3, slice a_4 l_4 c_4, slice a_5 l_5 c_5, slice a_6 l_6 c_6, slice a_7 l_7 c_7, slice a_8 l_8 c_8, slice a_9 l_9 c_9, slice a_10 l_10 c_10, slice a_11 l_11 c_11, slice a_12 l_12 c_12]) → ∃ (x : OA) (x_1 x_2 : Nat), rd w'_2 w'.heap.size 94 = some (.slice x x_1 x_2) ∧ ∃ (I : Int → World → Nat → Prop), (∃ (n : Nat), I 0 w'_2 n) ∧ ∀ (n : Int) (w'_3 : World) (n_2 : Nat), I n w'_3 n_2 → Wif (decide (n < (↑x_1 : Int))) (∃ (x : OA) (x_3 x_4 : Nat), rd w'_3 w'.heap.size 94 = some (.slice x x_3 x_4) ∧ Wif (isP x) (Wif (inB n x_3) ((wr w'_3 (pb x) (po x + Int.toNat n * 5) ∧ wr w'_3 (pb x) (po x + Int.toNat n * 5 + 1) ∧ wr w'_3 (pb x) (po x + Int.toNat n * 5 + 2) ∧ wr w'_3 (pb x) (po x + Int.toNat n * 5 + 3) ∧ wr w'_3 (pb x) (po x + Int.toNat n * 5 + 4)) ∧ ∀ w', w' = st (st (st (st (st w'_3 (pb x) (po x + Int.toNat n * 5) (Value.int .u8 0)) (pb x) (po x + Int.toNat n * 5 + 1) (vi 0)) (pb x) (po x + Int.toNat n * 5 + 2) (vi 0)) (pb x) (po x + Int.toNat n * 5 + 3) (vi 0)) (pb x) (po x + Int.toNat n * 5 + 4) (vi 0) → ∃ m, Nat.succ m ≤ n_2 ∧ I (IntKind.wrap .i64 (n + 1)) w' m) False) False) (∃ (x : OA) (x_3 x_4 : Nat), rd w'_3 w'.heap.size 95 = some (.slice x x_3 x_4) ∧ ∃ (I : Int → World → Nat → Prop), (∃ (n : Nat), I 0 w'_3 n) ∧ ∀ (n : Int) (w'_4 : World) (n_3 : Nat), I n w'_4 n_3 → Wif (decide (n < (↑x_3 : Int))) (∃ (x : OA) (x_5 x_6 : Nat), rd w'_4 w'.heap.size 95 = some (.slice x x_5 x_6) ∧ Wif (isP x) (Wif (inB n x_5) (∃ (x_7 : Int), rd w'_4 (pb x) (po x + Int.toNat n * 2) = some (.int .i64 x_7) ∧ Wif (isP x) (Wif (inB n x_5) (wr w'_4 (pb x) (po x + Int.toNat n * 2) ∧ ∀ w', w' = st w'_4 (pb x) (po x + Int.toNat n * 2) (vi (IntKind.wrap .i64 (x_7 + 1))) → ∃ m, Nat.succ m ≤ n_3 ∧ I (IntKind.wrap .i64 (n + 1)) w' m) False) False) False) False) (∃ (x : OA) (x_5 x_6 : Nat), rd w'_4 w'.heap.size 99 = some (.slice x x_5 x_6) ∧ ∃ (I : Int → World → Nat → Prop), (∃ (n : Nat), I 0 w'_4 n) ∧ ∀ (n : Int) (w'_5 : World) (n_4 : Nat), I n w'_5 n_4 → Wif (decide (n < (↑x_5 : Int))) (∃ (x : OA) (x_7 x_8 : Nat), rd w'_5 w'.heap.size 99 = some (.slice x x_7 x_8) ∧ Wif (isP x) (Wif (inB n x_7) (∃ (x_9 : Int), rd w'_5 (pb x) (po x + Int.toNat n * 6 + 1) = some (.int .i64 x_9) ∧ Wif (isP x) (Wif (inB n x_7) (wr w'_5 (pb x) (po x + Int.toNat n * 6 + 1) ∧ ∀ w'_6, w'_6 = st w'_5 (pb x) (po x + Int.toNat n * 6 + 1) (vi (IntKind.wrap .i64 (x_9 + 1))) → ∃ (x : OA) (x_10 x_11 : Nat), rd w'_6 w'.heap.size 99 = some (.slice x x_10 x_11) ∧ Wif (isP x) (Wif (inB n x_10) (∃ (x_12 : OA) (x_13 x_14 : Nat), rd w'_6 (pb x) (po x + Int.toNat n * 6 + 3) = some (.slice x_12 x_13 x_14) ∧ ∃ (I_1 : Int → World → Nat → Prop), (∃ (n : Nat), I_1 0 w'_6 n) ∧ ∀ (n_5 : Int) (w'_7 : World) (n_6 : Nat), I_1 n_5 w'_7 n_6 → Wif (decide (n_5 < (↑x_13 : Int))) (∃ (x : OA) (x_15 x_16 : Nat), rd w'_7 w'.heap.size 99 = some (.slice x x_15 x_16) ∧ Wif (isP x) (Wif (inB n x_15) (∃ (x_17 : OA) (x_18 x_19 : Nat), rd w'_7 (pb x) (po x + Int.toNat n * 6 + 3) = some (.slice x_17 x_18 x_19) ∧ Wif (isP x_17) (Wif (inB n_5 x_18) (∃ (x : Int), rd w'_7 (pb x_17) (po x_17 + Int.toNat n_5 * 3 + 2) = some (.int .i64 x) ∧ Wif (isP x_17) (Wif (inB n_5 x_18) (wr w'_7 (pb x_17) (po x_17 + Int.toNat n_5 * 3 + 2) ∧ ∀ w', w' = st w'_7 (pb x_17) (po x_17 + Int.toNat n_5 * 3 + 2) (vi (IntKind.wrap .i64 (x + 1))) → ∃ m, Nat.succ m ≤ n_6 ∧ I_1 (IntKind.wrap .i64 (n_5 + 1)) w' m) False) False) False) False) False) False) (∃ m, Nat.succ m ≤ n_4 ∧ I (IntKind.wrap .i64 (n + 1)) w'_7 m)) False) False) False) False) False) False) (∃ (x : OA) (x_7 x_8 : Nat), rd w'_5 w'.heap.size 101 = some (.slice x x_7 x_8) ∧ ∃ (I : Int → World → Nat → Prop), (∃ (n : Nat), I 0 w'_5 n) ∧ ∀ (n : Int) (w'_6 : World) (n_5 : Nat), I n w'_6 n_5 → Wif (decide (n < (↑x_7 : Int))) (∃ (x : OA) (x_9 x_10 : Nat), rd w'_6 w'.heap.size 101 = some (.slice x x_9 x_10) ∧ Wif (isP x) (Wif (inB n x_9) (∃ (x_11 : OA) (x_12 x_13 : Nat), rd w'_6 (pb x) (po x + Int.toNat n * 1) = some (.slice x_11 x_12 x_13) ∧ ∃ (I_1 : Int → World → Nat → Prop), (∃ (n : Nat), I_1 0 w'_6 n) ∧ ∀ (n_6 : Int) (w'_7 : World) (n_7 : Nat), I_1 n_6 w'_7 n_7 → Wif (decide (n_6 < (↑x_12 : Int))) (∃ (x : OA) (x_14 x_15 : Nat), rd w'_7 w'.heap.size 101 = some (.slice x x_14 x_15) ∧ Wif (isP x) (Wif (inB n x_14) (∃ (x_16 : OA) (x_17 x_18 : Nat), rd w'_7 (pb x) (po x + Int.toNat n * 1) = some (.slice x_16 x_17 x_18) ∧ Wif (isP x_16) (Wif (inB n_6 x_17) (∃ (x : Int), rd w'_7 (pb x_16) (po x_16 + Int.toNat n_6 * 1) = some (.int .i64 x) ∧ Wif (isP x_16) (Wif (inB n_6 x_17) (wr w'_7 (pb x_16) (po x_16 + Int.toNat n_6 * 1) ∧ ∀ w', w' = st w'_7 (pb x_16) (po x_16 + Int.toNat n_6 * 1) (vi (IntKind.wrap .i64 (x + 1))) → ∃ m, Nat.succ m ≤ n_7 ∧ I_1 (IntKind.wrap .i64 (n_6 + 1)) w' m) False) False) False) False) False) False) (∃ m, Nat.succ m ≤ n_5 ∧ I (IntKind.wrap .i64 (n + 1)) w'_7 m)) False) False) (∃ (x : OA) (x_9 x_10 : Nat), rd w'_6 w'.heap.size 100 = some (.slice x x_9 x_10) ∧ ∃ (I : Int → World → Nat → Prop), (∃ (n : Nat), I 0 w'_6 n) ∧ ∀ (n : Int) (w'_7 : World) (n_6 : Nat), I n w'_7 n_6 → Wif (decide (n < (↑x_9 : Int))) (∃ (x : OA) (x_11 x_12 : Nat), rd w'_7 w'.heap.size 100 = some (.slice x x_11 x_12) ∧ Wif (isP x) (Wif (inB n x_11) (∃ (x_13 : Int), rd w'_7 (pb x) (po x + Int.toNat n * 3 + 2) = some (.int .i64 x_13) ∧ Wif (isP x) (Wif (inB n x_11) (wr w'_7 (pb x) (po x + Int.toNat n * 3 + 2) ∧ ∀ w', w' = st w'_7 (pb x) (po x + Int.toNat n * 3 + 2) (vi (IntKind.wrap .i64 (x_13 + 1))) → ∃ m, Nat.succ m ≤ n_6 ∧ I (IntKind.wrap .i64 (n + 1)) w' m) False) False) False) False) (∃ (x : OA) (x_11 x_12 : Nat), rd w'_7 w'.heap.size 106 = some (.slice x x_11 x_12) ∧ ∃ (I : Int → World → Nat → Prop), (∃ (n : Nat), I 0 w'_7 n) ∧ ∀ (n : Int) (w'_8 : World) (n_7 : Nat), I n w'_8 n_7 → Wif (decide (n < (↑x_11 : Int))) (∃ (x : OA) (x_13 x_14 : Nat), rd w'_8 w'.heap.size 106 = some (.slice x x_13 x_14) ∧ Wif (isP x) (Wif (inB n x_13) (wr w'_8 (pb x) (po x + Int.toNat n * 1) ∧ ∀ w', w' = st w'_8 (pb x) (po x + Int.toNat n * 1) (vi 0) → ∃ m, Nat.succ m ≤ n_7 ∧ I (IntKind.wrap .i64 (n + 1)) w' m) False) False) (∃ (x : OA) (x_13 x_14 : Nat), rd w'_8 w'.heap.size 98 = some (.slice x x_13 x_14) ∧ ∃ (I : Int → World → Nat → Prop), (∃ (n : Nat), I 0 w'_8 n) ∧ ∀ (n : Int) (w'_9 : World) (n_8 : Nat), I n w'_9 n_8 → Wif (decide (n < (↑x_13 : Int))) (∃ (x : OA) (x_15 x_16 : Nat), rd w'_9 w'.heap.size 98 = some (.slice x x_15 x_16) ∧ Wif (isP x) (Wif (inB n x_15) (wr w'_9 (pb x) (po x + Int.toNat n * 1) ∧ ∀ w', w' = st w'_9 (pb x) (po x + Int.toNat n * 1) (vi 3) → ∃ m, Nat.succ m ≤ n_8 ∧ I (IntKind.wrap .i64 (n + 1)) w' m) False) False) (Calls Tryz.prog 27 #[pointer p] w'_9 fun e w' => ∃ (b : Bool), e = .returned (.bool b) ∧ Wif b (Calls Tryz.prog 19 #[pointer p] w' fun e w' => ∃ (f : Nat → Int) (a : OA) (l c : Nat) (a_13 : OA) (l_13 c_13 : Nat) (a_14 : OA) (l_14 c_14 : Nat) (a_15 : OA) (l_15 c_15 : Nat) (a_16 : OA) (l_16 c_16 : Nat) (a_17 : OA) (l_17 c_17 : Nat) (a_18 : OA) (l_18 c_18 : Nat) (a_19 : OA) (l_19 c_19 : Nat) (a_20 : OA) (l_20 c_20 : Nat) (a_21 : OA) (l_21 c_21 : Nat) (a_22 : OA) (l_22 c_22 : Nat) (a_23 : OA) (l_23 c_23 : Nat) (a_24 : OA) (l_24 c_24 : Nat), e = .returned (.agg (List.toArray (runI .i64 f 0 94 ++ [slice a l c, slice a_13 l_13 c_13, slice a_14 l_14 c_14, slice a_15 l_15 c_15, slice a_16 l_16 c_16, slice a_17 l_17 c_17, slice a_18 l_18 c_18, slice a_19 l_19 c_19, slice a_20 l_20 c_20, slice a_21 l_21 c_21, slice a_22 l_22 c_22, slice a_23 l_23 c_23, slice a_24 l_24 c_24]))) ∧ Wif (isP a_24) (Wif (inB 0 l_24) (∃ (x : Int), rd w' (pb a_24) (po a_24) = some (.int .i64 x) ∧ Wif (x == -1) (Calls Tryz.prog 19 #[pointer p] w' fun e w' => ∃ (f : Nat → Int) (a : OA) (l c : Nat) (a_25 : OA) (l_25 c_25 : Nat) (a_26 : OA) (l_26 c_26 : Nat) (a_27 : OA) (l_27 c_27 : Nat) (a_28 : OA) (l_28 c_28 : Nat) (a_29 : OA) (l_29 c_29 : Nat) (a_30 : OA) (l_30 c_30 : Nat) (a_31 : OA) (l_31 c_31 : Nat) (a_32 : OA) (l_32 c_32 : Nat) (a_33 : OA) (l_33 c_33 : Nat) (a_34 : OA) (l_34 c_34 : Nat) (a_35 : OA) (l_35 c_35 : Nat) (a_36 : OA) (l_36 c_36 : Nat), e = .returned (.agg (List.toArray (runI .i64 f 0 94 ++ [slice a l c, slice a_25 l_25 c_25, slice a_26 l_26 c_26, slice a_27 l_27 c_27, slice a_28 l_28 c_28, slice a_29 l_29 c_29, slice a_30 l_30 c_30, slice a_31 l_31 c_31, slice a_32 l_32 c_32, slice a_33 l_33 c_33, slice a_34 l_34 c_34, slice a_35 l_35 c_35, slice a_36 l_36 c_36]))) ∧ Wif (isP a_28) (Wif (inB 0 l_28) (∃ (x : Int), rd w' (pb a_28) (po a_28) = some (.int .i64 x) ∧ Wif (x == -1) (Calls Tryz.prog 10 #[] w' fun e w' => ∃ (b : Bool), e = .returned (.bool b) ∧ K (.bool b) w') (K (.bool false) w')) False) False) (K (.bool false) w')) False) False) (K (.bool false) w')))))))))))
theorem vc6 (c0 : Nat → Int) (l : OA) (lL lC : Nat) (w : World) (K : KV) (h : vcP6 c0 l lL lC w K) : Calls Tryz.prog 6 #[Value.agg (List.toArray (runI .i64 c0 0 94)), slice l lL lC] w (fun e w' => ∃ v, e = .returned v ∧ K v w') := Eng.vc_of [167, 120, 130, 61, 133, 143, 134, 91, 103, 113, 98, 99, 169] 2 [] Tryz.mixes Tryz.func6 (by kernel_rfl) (by kernel_rfl) (by kernel_rfl) h
end Go.Proofs.YtklmokolnakkoaaGreatDoor
set_option linter.unusedSimpArgs false
set_option linter.unusedVariables false
set_option maxRecDepth 100000
namespace Go.Proofs.YtklmokolnakkoaaGreatDoor
open Go Go.Eng
def SmI (B : Nat) (W0 : World) (l : Nat) (n : Int) (W : World) (N : Nat) : Prop := ∃ q : Nat, n = q ∧ q ≤ l ∧ N = l - q ∧ Sm B W0 W
theorem SmI.z {B l : Nat} {W0 W : World} (h : Sm B W0 W) : ∃ N, SmI B W0 l 0 W N := ⟨l, 0, rfl, Nat.zero_le _, rfl, h⟩
theorem SmI.s {B l q : Nat} {W0 W : World} (h : Sm B W0 W) (hq : q < l) (hl : l ≤ maxLen) : ∃ m, Nat.succ m ≤ l - q ∧ SmI B W0 l (IntKind.wrap .i64 ((q : Int) + 1)) W m := by
  unfold maxLen at hl
  exact ⟨l - (q + 1), by omega, q + 1, by rw [wi (by omega)]; rfl, hq, rfl, h⟩
structure MJ (w : World) (k bq : Nat) (c : Nat → Int) (rt lf : Nat) (x1 x2 x3 : Int) (S : Mach) (fp : Prt → Nat → Prop) (pg : Nat → Option Nat) (hd : Option Nat) (cnt : Nat) (W : World) : Prop where
  kp : Kept none' w W
  C : CoreAt W k S fp
  L : LSt S rt lf pg hd cnt
  hc : S.c = c
  lo : ∀ p x, fp p x → w.heap.size ≤ x
  nb : ∀ p, ¬ fp p bq
  o : own W bq [vi x1, vi x2, vi x3]
def LInvJ (w : World) (k : Nat) (c : Nat → Int) (rt lf lL : Nat) (n : Int) (W : World) (N : Nat) : Prop :=
  ∃ q : Nat, n = q ∧ q ≤ lL ∧ N = lL - q ∧ ∃ S fp pg cnt, Kept none' w W ∧ CoreAt W k S fp ∧ LSt S rt lf pg none cnt ∧ S.c = c ∧ ∀ p x, fp p x → w.heap.size ≤ x
section
variable {w : World} {k bq : Nat} {c : Nat → Int} {rt lf : Nat} {x1 x2 x3 : Int} {S : Mach} {fp : Prt → Nat → Prop} {pg : Nat → Option Nat} {hd : Option Nat} {cnt : Nat} {W W' : World}
theorem MJ.kept (h : MJ w k bq c rt lf x1 x2 x3 S fp pg hd cnt W) (kk : Kept none' W W') : MJ w k bq c rt lf x1 x2 x3 S fp pg hd cnt W' :=
  ⟨h.kp.tr kk, h.C.k kk, h.L, h.hc, h.lo, h.nb, h.o.k kk⟩
theorem MJ.step {S' : Mach} {pg' : Nat → Option Nat} {hd' : Option Nat} {cnt' : Nat} (h : MJ w k bq c rt lf x1 x2 x3 S fp pg hd cnt W) (T : Step W W' k S' fp) (hc : S'.c = S.c) (L' : LSt S' rt lf pg' hd' cnt') :
    ∃ fp', MJ w k bq c rt lf x1 x2 x3 S' fp' pg' hd' cnt' W' := by
  obtain ⟨fp', C', f'⟩ := T.ex
  have hs := h.kp.sz
  have hbl := h.o.lt
  refine ⟨fp', own0 h.kp T.kp fun x ⟨p, hp⟩ => h.lo p x hp, C', L', hc.trans h.hc, fun p x hx => ?_, fun p hp => ?_, h.o.kx T.kp fun ⟨p, hp⟩ => h.nb p hp⟩
  · rcases f' p x hx with h1 | h1
    · exact h.lo p x h1
    · have := h1.1; omega
  · rcases f' p bq hp with h1 | h1
    · exact h.nb p h1
    · have := h1.1; omega
theorem MJ.inv {q lL : Nat} (h : MJ w k bq c rt lf x1 x2 x3 S fp pg none cnt W) (hq : q < lL) (hl : lL ≤ 100) :
    ∃ N, Nat.succ N ≤ lL - q ∧ LInvJ w k c rt lf lL (IntKind.wrap .i64 ((q : Int) + 1)) W N :=
  ⟨lL - (q + 1), by omega, q + 1, by rw [wi (by omega)]; rfl, hq, rfl, S, fp, pg, cnt, h.kp, h.C, h.L, h.hc, h.lo⟩
theorem LSt.picture (h : CoreAt w k S fp) (L : LSt S rt lf pg none cnt) : Calls Tryz.prog 19 #[ptr k] w fun e w' => ∃ PS : PicS, e = .returned (picV PS S.c) ∧ Kept none' w w' ∧ At (rng w w') (fun W => PicR W PS (picOf S (procOf S))) w' := by
  have hs := h.sizes
  exact picture_spec h (procC_of h L.by') (fun i _ => by rw [L.held]; exact Nat.zero_le _) (fun i hi => by have := L.ring_len hi; have := L.cnt32; omega) (by rw [L.fli, List.length_replicate]; omega)
end
set_option maxHeartbeats 8000000 in
theorem corePictures_walk {w : World} (hz : SizR w) (hw : 0 < w.heap.size) (c : Nat → Int) {l : Option Addr} {lL lC : Nat} (hx : (0 < lL → isP l = true) ∧ ∀ q : Nat, q < lL → ∃ x1 x2 x3 : Int, XOp w l q x1 x2 x3 ∧ (-9223372036854775808 ≤ x2 ∧ x2 ≤ 9223372036854775807) ∧ (-9223372036854775808 ≤ x3 ∧ x3 ≤ 9223372036854775807)) :
    Calls Tryz.prog 6 #[cfgV c, .slice l lL lC] w fun e w' => e = .returned (.bool true) ∧ Kept none' w w' := by
  refine (vc6 c l lL lC w (fun v w' => v = .bool true ∧ Kept none' w w') ?_).mono ?_
  rotate_left
  · rintro e w' ⟨v, rfl, rfl, h⟩
    exact ⟨rfl, h⟩
  unfold vcP6
  intro w1 e1
  have o1 := own_alloc e1
  have k1 : Kept none' w w1 := (Kept.refl _ _).al e1
  have hs1 : w.heap.size < w1.heap.size := o1.lt
  clear e1
  generalize hb0 : w.heap.size = b0 at *
  refine ⟨c, o1.rIall, (rmay_spec c w1).mono ?_⟩
  rintro _ w2 ⟨b, rfl, hb, k12⟩
  have k2 := k1.tr k12
  refine ⟨_, rfl, Wif_intro (fun _ => known_k hz (by omega) k2) (fun hlen => ?_)⟩
  have hl2 : lL ≤ 100 := by simp at hlen; omega
  have hm : MayP c := hb.1 (by cases b with
    | true => rfl
    | false => simp at hlen)
  clear hlen
  refine ⟨c, (o1.k k12).rIall, (begun_spec (hz.k k2) (by have := k2.sz; omega) hm).mono ?_⟩
  rintro _ w3 ⟨k23, k, S, fp, rt, lf, rfl, C3, hc, L3, hfp⟩
  have k3 := k2.tr k23
  have hs2 := k2.sz
  have hfp' : ∀ p x, fp p x → w.heap.size ≤ x := fun p x hp => by have := hfp p x hp; omega
  refine ⟨_, _, rfl, Wif_no rfl ⟨LInvJ w k c rt lf lL, ⟨lL, 0, rfl, Nat.zero_le _, rfl, S, fp, _, 0, k3, C3, L3, hc, hfp'⟩, ?_⟩⟩
  clear C3 L3 k3 k23 hfp' hfp hc
  rintro _ w6 _ ⟨q, rfl, hq, rfl, S, fp, pg, cnt, k6, C6, L6, hc6, lo6⟩
  refine Wif_intro (fun hcq => ?_) (fun hcq => ?_)
  · -- one more
    have hql : q < lL := by simp at hcq; omega
    clear hcq
    obtain ⟨x1, x2, x3, X, hr2, hr3⟩ := hx.2 q hql
    refine Wif_yes (hx.1 (by omega)) (Wif_yes (inB_of (by omega) (by omega)) ⟨x1, x2, x3, ?_, fun w7 e7 => ?_⟩)
    · rw [Int.toNat_natCast]
      exact ⟨k6.rd_some X.r0 id, k6.rd_some X.r1 id, k6.rd_some X.r2 id⟩
    have o7 : own w7 w6.heap.size [vi 0, vi 0, vi 0] := own_alloc e7
    have k7 : Kept none' w6 w7 := (Kept.refl _ _).al e7
    refine ⟨⟨o7.wr (by decide), o7.wr (by decide), o7.wr (by decide)⟩, fun w8 e8 w9 e9 => ?_⟩
    obtain ⟨o8, k8'⟩ := st3' o7 rfl e8
    have k8 : Kept none' w6 w8 := own0 k7 k8' fun x e => Nat.le_of_eq e.symm
    clear e7 e8 k7 k8' o7 X
    have hbf : ∀ p, ¬ fp p w6.heap.size := fun p h => by have := (C6.lt p _ h).2; omega
    generalize hbq : w6.heap.size = bq at *
    have M8 : MJ w k bq c rt lf x1 x2 x3 S fp pg none cnt w8 := ⟨k6.tr k8, C6.k k8, L6, hc6, lo6, hbf, o8⟩
    clear o8 k8 hbf C6 L6 hc6 lo6 k6 hbq
    have M9 := M8.kept ((Kept.refl _ _).dr e9)
    clear e9 M8
    have r1 : ∀ {W : World} {S : Mach} {fp : Prt → Nat → Prop} {pg : Nat → Option Nat} {hd : Option Nat} {cnt : Nat}, MJ w k bq c rt lf x1 x2 x3 S fp pg hd cnt W → rd W bq 1 = some (vi x2) := fun M => by rw [M.o.rd]; rfl
    obtain ⟨b, hbs⟩ := M9.L.sp
    refine Wif_yes rfl ⟨some ⟨S.pz, 0, none⟩, ?_, x2, r1 M9, (nodes_spec M9.C (b := b) (by rw [hbs]; rfl) (by split <;> omega)).mono ?_⟩
    · exact M9.C.rtW (Kept.refl _ _) (j := 1) rfl
    rintro _ w10 ⟨a, la, ca, xs, rfl, k10, R, hlx⟩
    have M10 := M9.kept k10
    clear M9 k10
    refine ⟨a, la, ca, rfl, ⟨M10.C.rtW (Kept.refl _ _) (j := 1) rfl, trivial⟩, (take_law M10.C M10.L R hlx).mono ?_⟩
    rintro _ w11 (⟨er, h0, rfl, T⟩ | ⟨f, i, S11, rfl, T, hc, hz', hi, g1, g2, L11⟩)
    · obtain ⟨fp', M11⟩ := M10.step T rfl M10.L
      exact ⟨_, _, rfl, x2, fun _ => r1 M11, Wif_no (by simpa using h0) (M11.inv hql hl2)⟩
    obtain ⟨fp11, M11⟩ := M10.step T hc L11
    clear T M10 R
    refine ⟨_, _, rfl, x2, fun _ => r1 M11, Wif_yes rfl ((map_law M11.C L11 hi g1 g2 x2).mono ?_)⟩
    rintro _ w12 (⟨er, h0, rfl, hno, T⟩ | ⟨p, S12, hp2, hp, hn, rfl, hc12, hz12, T, L12⟩)
    · obtain ⟨fp12, M12⟩ := M11.step T rfl L11
      refine ⟨er, rfl, Wif_yes (by simpa using h0) ((release_law M12.C M12.L hi g1 g2).mono ?_)⟩
      rintro _ w13 ⟨S13, rfl, hc13, hz13, T13, L13, _⟩
      obtain ⟨fp13, M13⟩ := M12.step T13 hc13 L13
      exact ⟨_, rfl, M13.inv hql hl2⟩
    · obtain ⟨fp12, M12⟩ := M11.step T hc12 L12
      exact ⟨0, rfl, Wif_no rfl (M12.inv hql hl2)⟩
  -- the picture
  clear hcq
  have hs6 := k6.sz
  refine (LSt.picture C6 L6).mono ?_
  rintro _ w7 ⟨PS, rfl, k7, A7⟩
  refine ⟨_, _, _, _, _, _, _, _, _, _, _, _, _, _, _, _, _, _, _, _, _, _, _, _, _, _, _, _, _, _, _, _, _, _, _, _, _, _, _, _, rfl, fun w8 e8 => ?_⟩
  have o8 := own_alloc e8
  have k8 : Kept none' w7 w8 := (Kept.refl _ _).al e8
  refine ⟨o8.wrAll 0 (by simp [runI_len]), fun w9 e9 => ?_⟩
  obtain ⟨o9, k9'⟩ := stAll_whole o8 e9 (by simp [runI_len])
  have k9 : Kept none' w7 w9 := own0 k8 k9' fun x e => Nat.le_of_eq e.symm
  have H9 := shp_of (A7.k k9)
  have K9 : Kept none' w6 w9 := k7.tr k9
  clear e8 e9 k8 k9' o8 A7
  generalize hB : w6.heap.size = B at *
  generalize w7.heap.size = br at *
  have rb : ∀ {W : World}, Sm B w9 W → ∀ {j : Nat} {a : Option Addr} {l c : Nat}, (sl13 PS)[j]? = some (.slice a l c) → rd W br (94 + j) = some (.slice a l c) := fun kk j a l c hv => kk.sl _ _ _ _ _ (by
    rw [o9.rd, List.getElem?_append_right (by rw [runI_len]; omega), runI_len, Nat.add_sub_cancel_left]; exact hv)
  have done : ∀ {W : World}, Sm B w9 W → Kept none' w W ∧ CoreAt W k S fp := fun kk => by
    have C9 := C6.k K9
    exact ⟨own0 (k6.tr K9) kk.kp fun x h => by omega, C9.kx kk.kp fun x p h1 h2 => by have := (C6.lt p x h2).2; omega⟩
  clear K9 o9 k9 k7
  -- marks
  refine ⟨_, _, _, rb Sm.refl (j := 0) rfl, SmI B w9 (PS.l 0), SmI.z Sm.refl, ?_⟩
  rintro _ w10 _ ⟨q, rfl, hq, rfl, k10⟩
  refine Wif_intro (fun hc => ?_) (fun hn => ?_)
  · have hql : q < PS.l 0 := by simp at hc; omega
    have H := (H9.sm k10).marks
    obtain ⟨h1, h2, h3, h4, h5⟩ := H.2.2 q hql
    refine ⟨_, _, _, rb k10 (j := 0) rfl, Wif_yes (H.1 (by omega)) (Wif_yes (inB_of (by omega) (by omega)) ?_)⟩
    simp only [Int.toNat_natCast]
    refine ⟨⟨h1.2.1, h2.2.1, h3.2.1, h4.2.1, h5.2.1⟩, fun w11 e11 => SmI.s ?_ hql H.2.1⟩
    have s1 := Sm.stu (x := 0) h1 rfl
    have s2 := s1.tr (Sm.st (x := 0) (s1.il _ _ h2) rfl)
    have s3 := s2.tr (Sm.st (x := 0) (s2.il _ _ h3) rfl)
    have s4 := s3.tr (Sm.st (x := 0) (s3.il _ _ h4) rfl)
    exact k10.tr (s4.tr (Sm.st (x := 0) (s4.il _ _ h5) e11))
  -- free blocks
  clear hn hq q
  refine ⟨_, _, _, rb k10 (j := 1) rfl, SmI B w9 (PS.l 1), SmI.z k10, ?_⟩
  clear k10 w10
  rintro _ w10 _ ⟨q, rfl, hq, rfl, k10⟩
  refine Wif_intro (fun hc => ?_) (fun hn => ?_)
  · have hql : q < PS.l 1 := by simp at hc; omega
    have H := (H9.sm k10).free
    have h1 := H.2.2 q hql
    obtain ⟨_, h1w, x, h1r⟩ := h1
    refine ⟨_, _, _, rb k10 (j := 1) rfl, Wif_yes (H.1 (by omega)) (Wif_yes (inB_of (by omega) (by omega)) ?_)⟩
    simp only [Int.toNat_natCast]
    exact ⟨x, h1r, Wif_yes (H.1 (by omega)) (Wif_yes (inB_of (by omega) (by omega)) ⟨h1w, fun w11 e11 => SmI.s (k10.tr (Sm.st (H.2.2 q hql) e11)) hql H.2.1⟩)⟩
  -- processes
  clear hn hq q
  refine ⟨_, _, _, rb k10 (j := 5) rfl, SmI B w9 (PS.l 5), SmI.z k10, ?_⟩
  clear k10 w10
  rintro _ w10 _ ⟨q, rfl, hq, rfl, k10⟩
  refine Wif_intro (fun hc => ?_) (fun hn => ?_)
  · have hql : q < PS.l 5 := by simp at hc; omega
    have H := (H9.sm k10).procs
    obtain ⟨h1, a, la, ca, hsl, HP⟩ := H.2.2 q hql
    obtain ⟨_, h1w, x, h1r⟩ := h1
    refine ⟨_, _, _, rb k10 (j := 5) rfl, Wif_yes (H.1 (by omega)) (Wif_yes (inB_of (by omega) (by omega)) ?_)⟩
    simp only [Int.toNat_natCast]
    refine ⟨x, h1r, Wif_yes (H.1 (by omega)) (Wif_yes (inB_of (by omega) (by omega)) ⟨h1w, fun w11 e11 => ?_⟩)⟩
    have s1 : Sm B w10 w11 := Sm.st (H.2.2 q hql).1 e11
    have k11 := k10.tr s1
    refine ⟨_, _, _, rb k11 (j := 5) rfl, Wif_yes (H.1 (by omega)) (Wif_yes (inB_of (by omega) (by omega)) ⟨a, la, ca, s1.sl _ _ _ _ _ hsl, SmI B w10 la, SmI.z s1, ?_⟩)⟩
    rintro _ w12 _ ⟨r, rfl, hr, rfl, s2⟩
    refine Wif_intro (fun hc => ?_) (fun _ => ?_)
    · have hrl : r < la := by simp at hc; omega
      have HP2 : SW (fun W b o => IL B W b (o + 2)) 3 w12 a la := HP.to fun b o h => s2.il _ _ h
      have h2 := HP2.2.2 r hrl
      obtain ⟨_, h2w, y, h2r⟩ := h2
      refine ⟨_, _, _, rb (k10.tr s2) (j := 5) rfl, Wif_yes (H.1 (by omega)) (Wif_yes (inB_of (by omega) (by omega)) ⟨a, la, ca, s2.sl _ _ _ _ _ hsl, Wif_yes (HP2.1 (by omega)) (Wif_yes (inB_of (by omega) (by omega)) ?_)⟩)⟩
      simp only [Int.toNat_natCast]
      exact ⟨y, h2r, Wif_yes (HP2.1 (by omega)) (Wif_yes (inB_of (by omega) (by omega)) ⟨h2w, fun w13 e13 => SmI.s (s2.tr (Sm.st (HP2.2.2 r hrl) e13)) hrl HP.2.1⟩)⟩
    · exact SmI.s (k10.tr s2) hql H.2.1
  -- clocks
  clear hn hq q
  refine ⟨_, _, _, rb k10 (j := 7) rfl, SmI B w9 (PS.l 7), SmI.z k10, ?_⟩
  clear k10 w10
  rintro _ w10 _ ⟨q, rfl, hq, rfl, k10⟩
  refine Wif_intro (fun hc => ?_) (fun hn => ?_)
  · have hql : q < PS.l 7 := by simp at hc; omega
    have H := (H9.sm k10).clocks
    obtain ⟨a, la, ca, hsl, HP⟩ := H.2.2 q hql
    refine ⟨_, _, _, rb k10 (j := 7) rfl, Wif_yes (H.1 (by omega)) (Wif_yes (inB_of (by omega) (by omega)) ?_)⟩
    simp only [Int.toNat_natCast]
    refine ⟨a, la, ca, hsl, SmI B w10 la, SmI.z Sm.refl, ?_⟩
    rintro _ w12 _ ⟨r, rfl, hr, rfl, s2⟩
    refine Wif_intro (fun hc => ?_) (fun _ => ?_)
    · have hrl : r < la := by simp at hc; omega
      have HP2 : SW (IL B) 1 w12 a la := HP.to s2.il
      have h2 := HP2.2.2 r hrl
      obtain ⟨_, h2w, y, h2r⟩ := h2
      refine ⟨_, _, _, rb (k10.tr s2) (j := 7) rfl, Wif_yes (H.1 (by omega)) (Wif_yes (inB_of (by omega) (by omega)) ⟨a, la, ca, s2.sl _ _ _ _ _ hsl, Wif_yes (HP2.1 (by omega)) (Wif_yes (inB_of (by omega) (by omega)) ?_)⟩)⟩
      simp only [Int.toNat_natCast]
      exact ⟨y, h2r, Wif_yes (HP2.1 (by omega)) (Wif_yes (inB_of (by omega) (by omega)) ⟨h2w, fun w13 e13 => SmI.s (s2.tr (Sm.st (HP2.2.2 r hrl) e13)) hrl HP.2.1⟩)⟩
    · exact SmI.s (k10.tr s2) hql H.2.1
  -- frames
  clear hn hq q
  refine ⟨_, _, _, rb k10 (j := 6) rfl, SmI B w9 (PS.l 6), SmI.z k10, ?_⟩
  clear k10 w10
  rintro _ w10 _ ⟨q, rfl, hq, rfl, k10⟩
  refine Wif_intro (fun hc => ?_) (fun hn => ?_)
  · have hql : q < PS.l 6 := by simp at hc; omega
    have H := (H9.sm k10).frames
    have h1 := H.2.2 q hql
    obtain ⟨_, h1w, x, h1r⟩ := h1
    refine ⟨_, _, _, rb k10 (j := 6) rfl, Wif_yes (H.1 (by omega)) (Wif_yes (inB_of (by omega) (by omega)) ?_)⟩
    simp only [Int.toNat_natCast]
    exact ⟨x, h1r, Wif_yes (H.1 (by omega)) (Wif_yes (inB_of (by omega) (by omega)) ⟨h1w, fun w11 e11 => SmI.s (k10.tr (Sm.st (H.2.2 q hql) e11)) hql H.2.1⟩)⟩
  -- holders
  clear hn hq q
  refine ⟨_, _, _, rb k10 (j := 12) rfl, SmI B w9 (PS.l 12), SmI.z k10, ?_⟩
  clear k10 w10
  rintro _ w10 _ ⟨q, rfl, hq, rfl, k10⟩
  refine Wif_intro (fun hc => ?_) (fun hn => ?_)
  · have hql : q < PS.l 12 := by simp at hc; omega
    have H := (H9.sm k10).hold
    have h1 := H.2.2 q hql
    refine ⟨_, _, _, rb k10 (j := 12) rfl, Wif_yes (H.1 (by omega)) (Wif_yes (inB_of (by omega) (by omega)) ?_)⟩
    simp only [Int.toNat_natCast]
    exact ⟨h1.2.1, fun w11 e11 => SmI.s (k10.tr (Sm.st h1 e11)) hql H.2.1⟩
  -- what flies
  clear hn hq q
  refine ⟨_, _, _, rb k10 (j := 4) rfl, SmI B w9 (PS.l 4), SmI.z k10, ?_⟩
  clear k10 w10
  rintro _ w10 _ ⟨q, rfl, hq, rfl, k10⟩
  refine Wif_intro (fun hc => ?_) (fun hn => ?_)
  · have hql : q < PS.l 4 := by simp at hc; omega
    have H := (H9.sm k10).fli
    have h1 := H.2.2 q hql
    refine ⟨_, _, _, rb k10 (j := 4) rfl, Wif_yes (H.1 (by omega)) (Wif_yes (inB_of (by omega) (by omega)) ?_)⟩
    simp only [Int.toNat_natCast]
    exact ⟨h1.2.1, fun w11 e11 => SmI.s (k10.tr (Sm.st h1 e11)) hql H.2.1⟩
  -- the machine is what it was
  clear hn hq q
  obtain ⟨K10, C10⟩ := done k10
  clear k10 rb H9 done C6
  have hs := C10.sizes
  refine (even_spec C10 L6).mono ?_
  rintro _ w11 ⟨rfl, k11⟩
  have C11 := C10.k k11
  refine ⟨_, rfl, Wif_yes rfl ((LSt.picture C11 L6).mono ?_)⟩
  rintro _ w12 ⟨P2, rfl, k12', A12⟩
  have P12 := A12.now.holders
  have hh : (picOf S (procOf S)).holders[0]? = some (-1) := by
    show ((List.range (9 + S.nodes)).map fun i => IntKind.wrap .i64 (S.lh i - 1))[0]? = _
    rw [L6.lh, List.getElem?_map, List.getElem?_range (by omega)]
    rfl
  have hl12 : 0 < P2.l 12 := by rw [P12.len]; exact (List.getElem?_eq_some_iff.1 hh).1
  refine ⟨_, _, _, _, _, _, _, _, _, _, _, _, _, _, _, _, _, _, _, _, _, _, _, _, _, _, _, _, _, _, _, _, _, _, _, _, _, _, _, _, rfl, Wif_yes (P12.isp hl12) (Wif_yes (inB_of (by omega) (by omega)) ⟨-1, ?_, Wif_yes rfl ((LSt.picture (C11.k k12') L6).mono ?_)⟩)⟩
  · have := P12.int hh
    simpa using this
  rintro _ w13 ⟨P3, rfl, k13, A13⟩
  have P13 := A13.now.flight
  have hf : (picOf S (procOf S)).flight[0]? = some (-1) := by
    show S.fli[0]? = _
    rw [L6.fli, List.getElem?_replicate, if_pos (by omega)]
  have hl13 : 0 < P3.l 4 := by rw [P13.len]; exact (List.getElem?_eq_some_iff.1 hf).1
  refine ⟨_, _, _, _, _, _, _, _, _, _, _, _, _, _, _, _, _, _, _, _, _, _, _, _, _, _, _, _, _, _, _, _, _, _, _, _, _, _, _, _, rfl, Wif_yes (P13.isp hl13) (Wif_yes (inB_of (by omega) (by omega)) ⟨-1, ?_, Wif_yes rfl (known_k hz (by omega) (((K10.tr k11).tr k12').tr k13))⟩)⟩
  have := P13.int hf
  simpa using this
end Go.Proofs.YtklmokolnakkoaaGreatDoor
