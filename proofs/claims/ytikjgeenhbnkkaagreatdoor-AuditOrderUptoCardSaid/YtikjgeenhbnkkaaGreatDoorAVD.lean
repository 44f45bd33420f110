/-
  A part of a proof that a law of this seat returns true at every input. Conditions: those in each theorem.
-/
import Derived.Test.YtikjgeenhbnkkaaGreatDoorA0
import Derived.Test.YtikjgeenhbnkkaaGreatDoorAG5
import Derived.Test.YtikjgeenhbnkkaaGreatDoorEngT
set_option linter.unusedVariables false
set_option maxRecDepth 100000
namespace Go.Proofs.YtikjgeenhbnkkaaGreatDoor
open Go Go.Eng
open Go.Value (slice)
/- (*byre/audit.looker).objects -/
def vcP25 (k : Option Addr) (w : World) (K : Value → World → Prop) : Prop := ∀ (w' : World), w' = World.alloc w (Obj.map #[] 0) → Wif (isP k) (∃ (x : Option Addr) (x_1 x_2 : Nat), rd w' (pb k) (po k + 103) = some (.slice x x_1 x_2) ∧ ∃ (I : Int → World → Nat → Prop), (∃ (n : Nat), I 0 w' n) ∧ ∀ (n : Int) (w' : World) (n_1 : Nat), I n w' n_1 → Wif (decide (n < (↑x_1 : Int))) (Wif (isP x) (Wif (inB n x_1) (∃ (x_3 x_4 x_5 x_6 x_7 : Int) (x_8 : Option Addr) (x_9 x_10 : Nat) (x_11 : Option Addr) (x_12 x_13 : Nat), (rd w' (pb x) (po x + Int.toNat n * 7) = some (.int .i64 x_3) ∧ rd w' (pb x) (po x + Int.toNat n * 7 + 1) = some (.int .i64 x_4) ∧ rd w' (pb x) (po x + Int.toNat n * 7 + 2) = some (.int .i64 x_5) ∧ rd w' (pb x) (po x + Int.toNat n * 7 + 3) = some (.int .i64 x_6) ∧ rd w' (pb x) (po x + Int.toNat n * 7 + 4) = some (.int .i64 x_7) ∧ rd w' (pb x) (po x + Int.toNat n * 7 + 5) = some (.slice x_8 x_9 x_10) ∧ rd w' (pb x) (po x + Int.toNat n * 7 + 6) = some (.slice x_11 x_12 x_13)) ∧ ∀ (w'_1 : World), w'_1 = World.alloc w' (Obj.cells #[Value.int .i64 0, Value.int .i64 0, Value.int .i64 0, Value.int .i64 0, Value.int .i64 0, slice none 0 0, slice none 0 0] 55) → (wr w'_1 w'.heap.size 0 ∧ wr w'_1 w'.heap.size 1 ∧ wr w'_1 w'.heap.size 2 ∧ wr w'_1 w'.heap.size 3 ∧ wr w'_1 w'.heap.size 4 ∧ wr w'_1 w'.heap.size 5 ∧ wr w'_1 w'.heap.size 6) ∧ ∀ (w'_2 : World), w'_2 = st (st (st (st (st (st (st w'_1 w'.heap.size 0 (Value.int .i64 x_3)) w'.heap.size 1 (Value.int .i64 x_4)) w'.heap.size 2 (Value.int .i64 x_5)) w'.heap.size 3 (Value.int .i64 x_6)) w'.heap.size 4 (Value.int .i64 x_7)) w'.heap.size 5 (slice x_8 x_9 x_10)) w'.heap.size 6 (slice x_11 x_12 x_13) → ∃ (x : Option Addr) (x_14 x_15 : Nat), rd w'_2 w'.heap.size 5 = some (.slice x x_14 x_15) ∧ ∃ (I_1 : Int → World → Nat → Prop), (∃ (n : Nat), I_1 0 w'_2 n) ∧ ∀ (n_2 : Int) (w'_3 : World) (n_3 : Nat), I_1 n_2 w'_3 n_3 → Wif (decide (n_2 < (↑x_14 : Int))) (Wif (isP x) (Wif (inB n_2 x_14) (∃ (x_16 : Int), rd w'_3 (pb x) (po x + Int.toNat n_2 * 1) = some (.int .i64 x_16) ∧ ∀ (w1 : World), w1 = World.drew w'_3 → ∃ (x : Int), rd w1 w'.heap.size 2 = some (.int .i64 x) ∧ ∃ (x_17 : Int), lookIs Tryz.prog 146 (Value.map (some w.heap.size)) (Value.agg #[Value.int .i64 x, Value.int .i64 x_16]) false (Value.int .i64 x_17) w1 ∧ ∃ (z : Value) (n : Int) (w' : World), menIs Tryz.prog 146 (Value.map (some w.heap.size)) (Value.agg #[Value.int .i64 x, Value.int .i64 x_16]) (Value.tuple #[z, Value.int .i64 n]) w1 w' ∧ (lookIs Tryz.prog 146 (Value.map (some w.heap.size)) (Value.agg #[Value.int .i64 x, Value.int .i64 x_16]) false (Value.int .i64 x_17) w' ∧ True) ∧ ∃ (w'_4 : World), estIs Tryz.prog 146 (Value.map (some w.heap.size)) (Value.int .i64 n) (Value.int .i64 (IntKind.wrap .i64 (x_17 + 1))) w' w'_4 ∧ ∃ (m : Nat), Nat.succ m ≤ n_3 ∧ I_1 (IntKind.wrap .i64 (n_2 + 1)) w'_4 m) False) False) (∃ (x : Option Addr) (x_16 x_17 : Nat), rd w'_3 w'.heap.size 6 = some (.slice x x_16 x_17) ∧ ∃ (I_2 : Int → World → Nat → Prop), (∃ (n : Nat), I_2 0 w'_3 n) ∧ ∀ (n_4 : Int) (w'_4 : World) (n_5 : Nat), I_2 n_4 w'_4 n_5 → Wif (decide (n_4 < (↑x_16 : Int))) (Wif (isP x) (Wif (inB n_4 x_16) (∃ (x_18 x_19 : Int), (rd w'_4 (pb x) (po x + Int.toNat n_4 * 2) = some (.int .i64 x_18) ∧ rd w'_4 (pb x) (po x + Int.toNat n_4 * 2 + 1) = some (.int .u64 x_19)) ∧ ∀ (w'_5 : World), w'_5 = World.alloc w'_4 (Obj.cells #[Value.int .i64 0, Value.int .u64 0] 71) → (wr w'_5 w'_4.heap.size 0 ∧ wr w'_5 w'_4.heap.size 1) ∧ ∀ (w'_6 : World), w'_6 = st (st w'_5 w'_4.heap.size 0 (Value.int .i64 x_18)) w'_4.heap.size 1 (Value.int .u64 x_19) → ∀ (w1 : World), w1 = World.drew w'_6 → ∃ (x : Int), rd w1 w'.heap.size 2 = some (.int .i64 x) ∧ ∃ (x_20 : Int), rd w1 w'_4.heap.size 0 = some (.int .i64 x_20) ∧ ∃ (x_21 : Int), lookIs Tryz.prog 146 (Value.map (some w.heap.size)) (Value.agg #[Value.int .i64 x, Value.int .i64 x_20]) false (Value.int .i64 x_21) w1 ∧ ∃ (z : Value) (n : Int) (w' : World), menIs Tryz.prog 146 (Value.map (some w.heap.size)) (Value.agg #[Value.int .i64 x, Value.int .i64 x_20]) (Value.tuple #[z, Value.int .i64 n]) w1 w' ∧ (lookIs Tryz.prog 146 (Value.map (some w.heap.size)) (Value.agg #[Value.int .i64 x, Value.int .i64 x_20]) false (Value.int .i64 x_21) w' ∧ True) ∧ ∃ (w'_7 : World), estIs Tryz.prog 146 (Value.map (some w.heap.size)) (Value.int .i64 n) (Value.int .i64 (IntKind.wrap .i64 (x_21 + 1))) w' w'_7 ∧ ∃ (m : Nat), Nat.succ m ≤ n_5 ∧ I_2 (IntKind.wrap .i64 (n_4 + 1)) w'_7 m) False) False) (∃ (m : Nat), Nat.succ m ≤ n_1 ∧ I (IntKind.wrap .i64 (n + 1)) w'_4 m))) False) False) (Wif (isP k) (∃ (x : Option Addr) (x_3 x_4 : Nat), rd w' (pb k) (po k + 97) = some (.slice x x_3 x_4) ∧ ∃ (I : Int → World → Nat → Prop), (∃ (n : Nat), I 0 w' n) ∧ ∀ (n : Int) (w' : World) (n_2 : Nat), I n w' n_2 → Wif (decide (n < (↑x_3 : Int))) (Wif (isP x) (Wif (inB n x_3) (∃ (x_5 : Option Addr) (x_6 x_7 : Nat), rd w' (pb x) (po x + Int.toNat n * 1) = some (.slice x_5 x_6 x_7) ∧ ∃ (I_1 : Int → World → Nat → Prop), (∃ (n : Nat), I_1 0 w' n) ∧ ∀ (n_3 : Int) (w' : World) (n_4 : Nat), I_1 n_3 w' n_4 → Wif (decide (n_3 < (↑x_6 : Int))) (Wif (isP x_5) (Wif (inB n_3 x_6) (∃ (x x_8 : Int), (rd w' (pb x_5) (po x_5 + Int.toNat n_3 * 2) = some (.int .i64 x) ∧ rd w' (pb x_5) (po x_5 + Int.toNat n_3 * 2 + 1) = some (.int .i64 x_8)) ∧ ∀ (w'_1 : World), w'_1 = World.alloc w' (Obj.cells #[Value.int .i64 0, Value.int .i64 0] 113) → (wr w'_1 w'.heap.size 0 ∧ wr w'_1 w'.heap.size 1) ∧ ∀ (w'_2 : World), w'_2 = st (st w'_1 w'.heap.size 0 (Value.int .i64 x)) w'.heap.size 1 (Value.int .i64 x_8) → ∀ (w1 : World), w1 = World.drew w'_2 → ∃ (x x_9 : Int), (rd w1 w'.heap.size 0 = some (.int .i64 x) ∧ rd w1 w'.heap.size 1 = some (.int .i64 x_9)) ∧ ∃ (x_10 : Int), lookIs Tryz.prog 146 (Value.map (some w.heap.size)) (Value.agg #[Value.int .i64 x, Value.int .i64 x_9]) false (Value.int .i64 x_10) w1 ∧ ∃ (z : Value) (n : Int) (w' : World), menIs Tryz.prog 146 (Value.map (some w.heap.size)) (Value.agg #[Value.int .i64 x, Value.int .i64 x_9]) (Value.tuple #[z, Value.int .i64 n]) w1 w' ∧ (lookIs Tryz.prog 146 (Value.map (some w.heap.size)) (Value.agg #[Value.int .i64 x, Value.int .i64 x_9]) false (Value.int .i64 x_10) w' ∧ True) ∧ ∃ (w'_3 : World), estIs Tryz.prog 146 (Value.map (some w.heap.size)) (Value.int .i64 n) (Value.int .i64 (IntKind.wrap .i64 (x_10 + 1))) w' w'_3 ∧ ∃ (m : Nat), Nat.succ m ≤ n_4 ∧ I_1 (IntKind.wrap .i64 (n_3 + 1)) w'_3 m) False) False) (∃ (m : Nat), Nat.succ m ≤ n_2 ∧ I (IntKind.wrap .i64 (n + 1)) w' m)) False) False) (∀ (w1 : World), w1 = World.drew w' → Wif (isP k) (∃ (x : Option Addr) (x_5 x_6 : Nat), rd w1 (pb k) (po k + 104) = some (.slice x x_5 x_6) ∧ Wif (isP k) (∃ (x_7 : Option Addr) (x_8 x_9 : Nat), rd w1 (pb k) (po k + 105) = some (.slice x_7 x_8 x_9) ∧ ∀ (w' : World), w' = World.alloc w1 (Obj.cells #[slice x x_5 x_6, slice x_7 x_8 x_9] 35) → Calls Tryz.prog 71 #[slice (some (Addr.mk w1.heap.size 0 none)) 2 2] w' fun (e : Ending) (w' : World) => ∃ (a : Option Addr) (l c : Nat), e = Ending.returned (slice a l c) ∧ ∃ (I : Option Addr → Nat → Nat → Int → World → Nat → Prop), (∃ (n : Nat), I none 0 0 0 w' n) ∧ ∀ (a_1 : Option Addr) (l_1 c : Nat) (n : Int) (w' : World) (n_3 : Nat), I a_1 l_1 c n w' n_3 → Wif (decide (n < (↑l : Int))) (Wif (isP a) (Wif (inB n l) (∃ (x : Option Addr) (x_10 x_11 : Nat), rd w' (pb a) (po a + Int.toNat n * 1) = some (.slice x x_10 x_11) ∧ ∃ (I_1 : Option Addr → Nat → Nat → Int → World → Nat → Prop), (∃ (n : Nat), I_1 a_1 l_1 c 0 w' n) ∧ ∀ (a : Option Addr) (l c : Nat) (n_4 : Int) (w' : World) (n_5 : Nat), I_1 a l c n_4 w' n_5 → Wif (decide (n_4 < (↑x_10 : Int))) (Wif (isP x) (Wif (inB n_4 x_10) (∃ (x_12 : Option Addr) (x_13 x_14 : Nat), rd w' (pb x) (po x + Int.toNat n_4 * 1) = some (.slice x_12 x_13 x_14) ∧ ∃ (I : Option Addr → Nat → Nat → Int → World → Nat → Prop), (∃ (n : Nat), I a l c 0 w' n) ∧ ∀ (a : Option Addr) (l c : Nat) (n : Int) (w' : World) (n_6 : Nat), I a l c n w' n_6 → Wif (decide (n < (↑x_13 : Int))) (Wif (isP x_12) (Wif (inB n x_13) (∃ (x x_15 : Int), (rd w' (pb x_12) (po x_12 + Int.toNat n * 2) = some (.int .i64 x) ∧ rd w' (pb x_12) (po x_12 + Int.toNat n * 2 + 1) = some (.int .i64 x_15)) ∧ ∀ (w'_1 : World), w'_1 = World.alloc w' (Obj.cells #[Value.int .i64 0, Value.int .i64 0] 113) → (wr w'_1 w'.heap.size 0 ∧ wr w'_1 w'.heap.size 1) ∧ ∀ (w'_2 : World), w'_2 = st (st w'_1 w'.heap.size 0 (Value.int .i64 x)) w'.heap.size 1 (Value.int .i64 x_15) → ∀ (w1 : World), w1 = World.drew w'_2 → ∃ (x x_16 : Int), (rd w1 w'.heap.size 0 = some (.int .i64 x) ∧ rd w1 w'.heap.size 1 = some (.int .i64 x_16)) ∧ ∃ (x_17 : Int), lookIs Tryz.prog 146 (Value.map (some w.heap.size)) (Value.agg #[Value.int .i64 x, Value.int .i64 x_16]) false (Value.int .i64 x_17) w1 ∧ ∃ (z : Value) (n_7 : Int) (w'_3 : World), menIs Tryz.prog 146 (Value.map (some w.heap.size)) (Value.agg #[Value.int .i64 x, Value.int .i64 x_16]) (Value.tuple #[z, Value.int .i64 n_7]) w1 w'_3 ∧ (lookIs Tryz.prog 146 (Value.map (some w.heap.size)) (Value.agg #[Value.int .i64 x, Value.int .i64 x_16]) false (Value.int .i64 x_17) w'_3 ∧ True) ∧ ∃ (w'_4 : World), estIs Tryz.prog 146 (Value.map (some w.heap.size)) (Value.int .i64 n_7) (Value.int .i64 (IntKind.wrap .i64 (x_17 + 1))) w'_3 w'_4 ∧ ∀ (w1 : World), w1 = World.drew w'_4 → Wif (isP k) (∃ (x : Option Nat), rd w1 (pb k) (po k + 109) = some (.map x) ∧ ∃ (x_18 : Int), rd w1 w'.heap.size 0 = some (.int .i64 x_18) ∧ ∃ (x_19 x_20 x_21 x_22 x_23 : Int) (x_24 : Option Addr) (x_25 x_26 : Nat) (x_27 : Option Addr) (x_28 x_29 : Nat), lookIs Tryz.prog 87 (Value.map x) (Value.int .i64 x_18) false (Value.agg #[Value.int .i64 x_19, Value.int .i64 x_20, Value.int .i64 x_21, Value.int .i64 x_22, Value.int .i64 x_23, slice x_24 x_25 x_26, slice x_27 x_28 x_29]) w1 ∧ Wif (x_20 != n_4) (∃ (x : Int), rd w1 w'.heap.size 0 = some (.int .i64 x) ∧ ∀ (w' : World), w' = World.alloc w1 (Obj.cells #[Value.int .i64 x] 3) → ∃ (a_2 : Option Addr) (l_2 c_1 : Nat) (w'_5 : World), appIs Tryz.prog #[31, 31] 31 (slice a l c) (slice (some (Addr.mk w1.heap.size 0 none)) 1 1) (slice a_2 l_2 c_1) w' w'_5 ∧ ∃ (m : Nat), Nat.succ m ≤ n_6 ∧ I a_2 l_2 c_1 (IntKind.wrap .i64 (n + 1)) w'_5 m) (∃ (m : Nat), Nat.succ m ≤ n_6 ∧ I a l c (IntKind.wrap .i64 (n + 1)) w1 m)) False) False) False) (∃ (m : Nat), Nat.succ m ≤ n_5 ∧ I_1 a l c (IntKind.wrap .i64 (n_4 + 1)) w' m)) False) False) (∃ (m : Nat), Nat.succ m ≤ n_3 ∧ I a l c (IntKind.wrap .i64 (n + 1)) w' m)) False) False) (Wif (isP k) (∃ (x : Option Addr) (x_10 x_11 : Nat), rd w' (pb k) (po k + 103) = some (.slice x x_10 x_11) ∧ ∃ (I : Option Addr → Nat → Nat → Int → World → Nat → Prop), (∃ (n : Nat), I a_1 l_1 c 0 w' n) ∧ ∀ (a : Option Addr) (l c : Nat) (n : Int) (w' : World) (n_4 : Nat), I a l c n w' n_4 → Wif (decide (n < (↑x_10 : Int))) (Wif (isP x) (Wif (inB n x_10) (∃ (x_12 x_13 x_14 x_15 x_16 : Int) (x_17 : Option Addr) (x_18 x_19 : Nat) (x_20 : Option Addr) (x_21 x_22 : Nat), (rd w' (pb x) (po x + Int.toNat n * 7) = some (.int .i64 x_12) ∧ rd w' (pb x) (po x + Int.toNat n * 7 + 1) = some (.int .i64 x_13) ∧ rd w' (pb x) (po x + Int.toNat n * 7 + 2) = some (.int .i64 x_14) ∧ rd w' (pb x) (po x + Int.toNat n * 7 + 3) = some (.int .i64 x_15) ∧ rd w' (pb x) (po x + Int.toNat n * 7 + 4) = some (.int .i64 x_16) ∧ rd w' (pb x) (po x + Int.toNat n * 7 + 5) = some (.slice x_17 x_18 x_19) ∧ rd w' (pb x) (po x + Int.toNat n * 7 + 6) = some (.slice x_20 x_21 x_22)) ∧ ∀ (w'_1 : World), w'_1 = World.alloc w' (Obj.cells #[Value.int .i64 0, Value.int .i64 0, Value.int .i64 0, Value.int .i64 0, Value.int .i64 0, slice none 0 0, slice none 0 0] 55) → (wr w'_1 w'.heap.size 0 ∧ wr w'_1 w'.heap.size 1 ∧ wr w'_1 w'.heap.size 2 ∧ wr w'_1 w'.heap.size 3 ∧ wr w'_1 w'.heap.size 4 ∧ wr w'_1 w'.heap.size 5 ∧ wr w'_1 w'.heap.size 6) ∧ ∀ (w'_2 : World), w'_2 = st (st (st (st (st (st (st w'_1 w'.heap.size 0 (Value.int .i64 x_12)) w'.heap.size 1 (Value.int .i64 x_13)) w'.heap.size 2 (Value.int .i64 x_14)) w'.heap.size 3 (Value.int .i64 x_15)) w'.heap.size 4 (Value.int .i64 x_16)) w'.heap.size 5 (slice x_17 x_18 x_19)) w'.heap.size 6 (slice x_20 x_21 x_22) → ∃ (x : Int), rd w'_2 w'.heap.size 4 = some (.int .i64 x) ∧ ∃ (I_1 : Option Addr → Nat → Nat → Int → World → Nat → Prop), (∃ (n : Nat), I_1 a l c 0 w'_2 n) ∧ ∀ (a : Option Addr) (l c : Nat) (n_5 : Int) (w'_3 : World) (n_6 : Nat), I_1 a l c n_5 w'_3 n_6 → Wif (decide (n_5 < x)) (∃ (x : Int), rd w'_3 w'.heap.size 2 = some (.int .i64 x) ∧ ∃ (x_23 : Int), lookIs Tryz.prog 146 (Value.map (some w.heap.size)) (Value.agg #[Value.int .i64 x, Value.int .i64 n_5]) false (Value.int .i64 x_23) w'_3 ∧ Wif (x_23 != 1) (∃ (x : Int), rd w'_3 w'.heap.size 2 = some (.int .i64 x) ∧ ∀ (w' : World), w' = World.alloc w'_3 (Obj.cells #[Value.int .i64 x] 3) → ∃ (a_2 : Option Addr) (l_2 c_1 : Nat) (w'_4 : World), appIs Tryz.prog #[31, 31] 31 (slice a l c) (slice (some (Addr.mk w'_3.heap.size 0 none)) 1 1) (slice a_2 l_2 c_1) w' w'_4 ∧ ∃ (m : Nat), Nat.succ m ≤ n_6 ∧ I_1 a_2 l_2 c_1 (IntKind.wrap .i64 (n_5 + 1)) w'_4 m) (∃ (m : Nat), Nat.succ m ≤ n_6 ∧ I_1 a l c (IntKind.wrap .i64 (n_5 + 1)) w'_3 m)) (∃ (m : Nat), Nat.succ m ≤ n_4 ∧ I a l c (IntKind.wrap .i64 (n + 1)) w'_3 m)) False) False) (K (slice a l c) w')) False)) False) False)) False)) False
theorem vcE25 (k : Option Addr) (w : World) (K : Value → World → Prop) : vcP25 k w K = Eng.wBody Tryz.prog (Eng.handOf Tryz.prog [] 1) [] Tryz.f25 (Eng.bodyOf Tryz.f25) [Value.pointer k] w K := by kernel_rfl
theorem vc25 (k : Option Addr) (w : World) (K : Value → World → Prop) (h : vcP25 k w K) : Calls Tryz.prog 25 #[Value.pointer k] w (fun e w' => ∃ v, e = .returned v ∧ K v w') := Eng.vc_of [] 1 [] Tryz.mixes Tryz.func25 (by kernel_rfl) (by kernel_rfl) (vcE25 k w K) h
end Go.Proofs.YtikjgeenhbnkkaaGreatDoor
set_option linter.unusedVariables false
set_option maxRecDepth 100000
namespace Go.Proofs.YtikjgeenhbnkkaaGreatDoor
open Go Go.Eng
open Go.Value (slice)
/- slices.Concat[[][][]byre/api.Object,[][]byre/api.Object] -/
def vcP71 (slices : Option Addr) (slicesL : Nat) (slicesC : Nat) (w : World) (K : Value → World → Prop) : Prop := ∃ (I : Int → Int → World → Nat → Prop), (∃ (n : Nat), I 0 0 w n) ∧ ∀ (n n_1 : Int) (w' : World) (n_2 : Nat), I n n_1 w' n_2 → Wif (decide (n_1 < (↑slicesL : Int))) (Wif (isP slices) (Wif (inB n_1 slicesL) (∃ (x : Option Addr) (x_1 x_2 : Nat), rd w' (pb slices) (po slices + Int.toNat n_1 * 1) = some (.slice x x_1 x_2) ∧ Wif (decide (IntKind.wrap .i64 (n + (↑x_1 : Int)) < 0)) False (∃ (m : Nat), Nat.succ m ≤ n_2 ∧ I (IntKind.wrap .i64 (n + (↑x_1 : Int))) (IntKind.wrap .i64 (n_1 + 1)) w' m)) False) False) (Calls Tryz.prog 114 #[slice none 0 0, Value.int .i64 n] w' fun (e : Ending) (w' : World) => ∃ (a : Option Addr) (l c : Nat), e = Ending.returned (slice a l c) ∧ ∃ (I : Option Addr → Nat → Nat → Int → World → Nat → Prop), (∃ (n : Nat), I a l c 0 w' n) ∧ ∀ (a : Option Addr) (l c : Nat) (n : Int) (w' : World) (n_3 : Nat), I a l c n w' n_3 → Wif (decide (n < (↑slicesL : Int))) (Wif (isP slices) (Wif (inB n slicesL) (∃ (x : Option Addr) (x_1 x_2 : Nat), rd w' (pb slices) (po slices + Int.toNat n * 1) = some (.slice x x_1 x_2) ∧ ∃ (a_1 : Option Addr) (l_1 c_1 : Nat) (w'_1 : World), appIs Tryz.prog #[35, 35] 35 (slice a l c) (slice x x_1 x_2) (slice a_1 l_1 c_1) w' w'_1 ∧ ∃ (m : Nat), Nat.succ m ≤ n_3 ∧ I a_1 l_1 c_1 (IntKind.wrap .i64 (n + 1)) w'_1 m) False) False) (K (slice a l c) w'))
theorem vcE71 (slices : Option Addr) (slicesL : Nat) (slicesC : Nat) (w : World) (K : Value → World → Prop) : vcP71 slices slicesL slicesC w K = Eng.wBody Tryz.prog (Eng.handOf Tryz.prog [] 1) [] Tryz.f71 (Eng.bodyOf Tryz.f71) [slice slices slicesL slicesC] w K := by kernel_rfl
theorem vc71 (slices : Option Addr) (slicesL : Nat) (slicesC : Nat) (w : World) (K : Value → World → Prop) (h : vcP71 slices slicesL slicesC w K) : Calls Tryz.prog 71 #[slice slices slicesL slicesC] w (fun e w' => ∃ v, e = .returned v ∧ K v w') := Eng.vc_of [] 1 [] Tryz.mixes Tryz.func71 (by kernel_rfl) (by kernel_rfl) (vcE71 slices slicesL slicesC w K) h
/- slices.Grow[[][][]byre/api.Object,[][]byre/api.Object] -/
def vcP114 (s : Option Addr) (sL : Nat) (sC : Nat) (n : Int) (w : World) (K : Value → World → Prop) : Prop := Wif (decide (n < 0)) False (Wif (decide (IntKind.wrap .i64 (n - IntKind.wrap .i64 ((↑sC : Int) - (↑sL : Int))) > 0)) (Wif (okSl 0 (↑sC : Int) (↑sC : Int)) (∃ (a : Option Addr) (l c : Nat) (w' : World), appIs Tryz.prog #[35, 3] 35 (slice s (Int.toNat (↑sC : Int)) sC) (Value.int .i64 (IntKind.wrap .i64 (n - IntKind.wrap .i64 ((↑sC : Int) - (↑sL : Int))))) (slice a l c) w w' ∧ Wif (okSl 0 (↑sL : Int) (↑c : Int)) (K (slice a (Int.toNat (↑sL : Int)) c) w') False) False) (K (slice s sL sC) w))
theorem vcE114 (s : Option Addr) (sL : Nat) (sC : Nat) (n : Int) (w : World) (K : Value → World → Prop) : vcP114 s sL sC n w K = Eng.wBody Tryz.prog (Eng.handOf Tryz.prog [] 1) [] Tryz.f114 (Eng.bodyOf Tryz.f114) [slice s sL sC, Value.int .i64 n] w K := by kernel_rfl
theorem vc114 (s : Option Addr) (sL : Nat) (sC : Nat) (n : Int) (w : World) (K : Value → World → Prop) (h : vcP114 s sL sC n w K) : Calls Tryz.prog 114 #[slice s sL sC, Value.int .i64 n] w (fun e w' => ∃ v, e = .returned v ∧ K v w') := Eng.vc_of [] 1 [] Tryz.mixes Tryz.func114 (by kernel_rfl) (by kernel_rfl) (vcE114 s sL sC n w K) h
end Go.Proofs.YtikjgeenhbnkkaaGreatDoor
set_option linter.unusedSimpArgs false
set_option linter.unusedVariables false
set_option maxRecDepth 100000
namespace Go.Proofs.YtikjgeenhbnkkaaGreatDoor
open Go Eng MapKept Go.Shelf
def encOb (x : Int × Int) : Value := .agg #[vi x.1, vi x.2]
theorem chk113 (e : Bool) (a : Int × Int) (w : World) : (Instr.checkKey e 10000 113 (encOb a)).run Tryz.prog w = .ok () w := by
  show (Instr.checkKey e (9998 + 1 + 1) 113 (.agg #[.int .i64 a.1, .int .i64 a.2])).run Tryz.prog w = .ok () w
  unfold Instr.checkKey
  simp only [Sem.run_bind, run_underlying Tryz.underlying113, Result.andThen_ok]
  have p0 : (part 3 #[Value.int .i64 a.1, .int .i64 a.2] 0).run Tryz.prog w = .ok (.int .i64 a.1) w := run_partV Tryz.underlying3 (by kernel_rfl)
  have p1 : (part 3 #[Value.int .i64 a.1, .int .i64 a.2] 1).run Tryz.prog w = .ok (.int .i64 a.2) w := run_partV Tryz.underlying3 (by kernel_rfl)
  have c0 : ∀ x : Int, (Instr.checkKey e (9998 + 1) 3 (.int .i64 x)).run Tryz.prog w = .ok () w := fun x => MapKept.run_checkKey (d := .int .i64) Tryz.underlying3 (by simp [IsKey]) e 9998
  simp [p0, p1, c0, Result.andThen]
theorem keyOb : KeyOk Tryz.prog 113 encOb := by
  refine ⟨?_, chk113, ⟨_, Tryz.underlying113, fun a b => .inl rfl⟩, ?_, ?_⟩
  · rintro ⟨a, b⟩ ⟨c, d⟩ h
    simp [encOb] at h
    exact Prod.ext h.1 h.2
  · rintro ⟨a, b⟩ ⟨c, d⟩ w
    have h : eqT Tryz.prog 10000 113 (encOb (a, b)) (encOb (c, d)) = some (a == c && (b == d && true)) := by kernel_rfl
    have := eqT_run (P := Tryz.prog) 10000 113 _ _ _ w h
    have e : (a == c && (b == d && true)) = decide ((a, b) = (c, d)) := by
      simp only [Prod.mk.injEq, Bool.and_true]
      by_cases h1 : a = c <;> by_cases h2 : b = d <;> simp [h1, h2]
    rw [e] at this
    exact this
  · rintro ⟨a, b⟩
    show Instr.sameBits (9998 + 1 + 1) (.agg #[.int .i64 a, .int .i64 b]) (.agg #[.int .i64 a, .int .i64 b]) = true
    simp [Instr.sameBits]
def cnO (L : List (Int × Int)) (k : Int × Int) : Nat := (L.filter fun y => decide (y = k)).length
theorem cnO_snoc (L : List (Int × Int)) (k j : Int × Int) : cnO (L ++ [k]) j = if j = k then cnO L j + 1 else cnO L j := by
  unfold cnO
  rw [List.filter_append, List.length_append]
  by_cases h : j = k
  · subst h; simp
  · have : ¬ k = j := fun e => h e.symm
    simp [h, this]
theorem cnO_le (L : List (Int × Int)) (k : Int × Int) : cnO L k ≤ L.length := List.length_filter_le _ _
structure CG (w : World) (b : Nat) (L : List (Int × Int)) : Prop where
  ex : ∃ M, MapG encOb w b M ∧ ∀ k, (M.lookup k).getD (vi 0) = vi (cnO L k : Nat)
theorem CG.kx {X : Nat → Prop} {w w' : World} {b : Nat} {L : List (Int × Int)} (h : CG w b L) (k : Kept X w w') (hx : ¬ X b) : CG w' b L := by
  obtain ⟨M, h1, h2⟩ := h.ex
  exact ⟨M, h1.kx k hx, h2⟩
theorem CG.k {w w' : World} {b : Nat} {L : List (Int × Int)} (h : CG w b L) (k : Kept none' w w') : CG w' b L := h.kx k id
theorem CG.look {w : World} {b : Nat} {L : List (Int × Int)} (h : CG w b L) (k : Int × Int) : lookIs Tryz.prog 146 (.map (some b)) (encOb k) false (vi (cnO L k : Nat)) w := by
  obtain ⟨M, h1, h2⟩ := h.ex
  have := lookG1 (P := Tryz.prog) (mt := 146) (vt := 3) (kt := 113) Tryz.underlying146 keyOb h1 k (z := vi 0) (Tryz.zeroValue3 w)
  rw [lookup_beq, h2 k] at this
  exact this
theorem CG.inc {w : World} {b : Nat} {L : List (Int × Int)} (h : CG w b L) (k : Int × Int) (hl : L.length ≤ 1000000000) :
    ∃ (z : Value) (n : Int) (w1 : World), menIs Tryz.prog 146 (.map (some b)) (encOb k) (.tuple #[z, .int .i64 n]) w w1 ∧ lookIs Tryz.prog 146 (.map (some b)) (encOb k) false (vi (cnO L k : Nat)) w1 ∧
      ∃ w2, estIs Tryz.prog 146 (.map (some b)) (.int .i64 n) (vi (IntKind.wrap .i64 ((cnO L k : Nat) + 1))) w1 w2 ∧ CG w2 b (L ++ [k]) ∧ Kept (· = b) w w2 := by
  obtain ⟨M, h1, h2⟩ := h.ex
  have hle := cnO_le L k
  obtain ⟨z, n, w1, hmen, k1, ⟨m1, hm1, hm1l⟩, hall⟩ := entG (P := Tryz.prog) (mt := 146) (vt := 3) (kt := 113) Tryz.underlying146 keyOb h1 k (z := vi 0) Tryz.zeroValue3
  obtain ⟨w2, m2, hest, hm2, hlk, k2⟩ := hall (vi (IntKind.wrap .i64 ((cnO L k : Nat) + 1)))
  have hL : CG w1 b L := ⟨m1, hm1, fun j => by have := hm1l j; simp only [lookup_beq] at this; rw [this, h2 j]⟩
  refine ⟨z, n, w1, hmen, hL.look k, w2, hest, ⟨m2, hm2, fun j => ?_⟩, k1.trans k2 fun _ _ h => h⟩
  have := hlk j
  simp only [lookup_beq] at this
  rw [this, cnO_snoc]
  split
  · rename_i e
    subst e
    rw [wi (by omega)]
    rfl
  · exact h2 j
theorem info_objs : (Tryz.prog.info? 30).map (fun i => (i.zero, i.size, i.bytes)) = some (some (.slice none 0 0), 1, 24) := by kernel_rfl
theorem grow_nil30 {w : World} {n : Int} (h0 : 0 ≤ n) (hn : n ≤ 1000000000) : Calls Tryz.prog 114 #[.slice none 0 0, vi n] w fun e w' => ∃ (a : Option Addr) (c : Nat), e = .returned (.slice a 0 c) ∧ w'.ownsRow w.heap.size 30 1 (.slice a 0 c) 0 [] ∧ Kept none' w w' := by
  obtain ⟨k, rfl⟩ : ∃ k : Nat, n = k := ⟨n.toNat, by omega⟩
  rcases Nat.eq_zero_or_pos k with rfl | hk
  · refine (Any8.slices_Grow_room Tryz.growO none 0 0 0 w (by omega) (by omega) (by omega) (by omega)).mono ?_
    rintro e w' ⟨rfl, rfl⟩
    exact ⟨none, 0, rfl, World.ownsRow_nil _ _ _ _, Kept.refl _ _⟩
  · have hinfo := info_objs
    cases hi : Tryz.prog.info? 30 with
    | none => rw [hi] at hinfo; cases hinfo
    | some i0 =>
    rw [hi] at hinfo
    simp at hinfo
    have hmx : 0 + k ≤ maxLen := by unfold maxLen; omega
    have hG := grownCap_ge w (0 + k) 0 30
    have hG2 := grownCap_le_maxLen w (0 + k) 0 30 hmx
    refine (Any8.slices_Grow_grow Tryz.growO i0 (.slice none 0 0) hi hinfo.1 (by rw [hinfo.2.1]; decide) none 0 0 k [] w (by omega) (by omega) (by rw [hinfo.2.2]; omega) (by omega) (by simp) (fun _ => rfl) (fun a h => (by cases h))).mono ?_
    change ∀ (e : Ending) (w' : World), _ ∧ w' = w.drew.alloc (Obj.cells _ 30) → _
    rintro e w' ⟨rfl, rfl⟩
    have hz : ∀ m, (Builtin.zeroCells #[Value.slice none 0 0] m).size = m := fun m => by simp [Builtin.zeroCells]
    refine ⟨_, _, rfl, ⟨rfl, .inr ⟨w.heap.size, grownCap w (0 + k) 0 30, _, rfl, Nat.le_refl _, World.alloc_heap_new w.drew _, Nat.zero_le _, hG2, ?_, by simp⟩⟩, ((Kept.refl none' w).drew).alloc _ _⟩
    have h1 := hz (0 + k - 0)
    have h2 := hz (grownCap w (0 + k) 0 30 - (0 + k))
    show (#[] ++ Builtin.zeroCells #[Value.slice none 0 0] (0 + k - 0) ++ Builtin.zeroCells #[Value.slice none 0 0] (grownCap w (0 + k) 0 30 - (0 + k))).size = _
    rw [Array.size_append, Array.size_append, h1, h2]
    show 0 + _ + _ = _
    omega
theorem sl_src {α : Type} {R : Rd α} {w : World} {a : Option Addr} {l c : Nat} {xs : List α} (h : SlR R 1 w a l c xs) :
    ∃ vs : List Value, vs.length = xs.length ∧ Eng.Src w a l c vs ∧ ∀ (i : Nat) (x : α), xs[i]? = some x → ∃ u, vs[i]? = some u ∧ R w [u] x := by
  have key : ∀ n, n ≤ xs.length → ∃ vs : List Value, vs.length = n ∧ (∀ (i : Nat) (x : α), i < n → xs[i]? = some x → ∃ u, vs[i]? = some u ∧ R w [u] x ∧ rd w (pb a) (po a + i) = some u) := by
    intro n
    induction n with
    | zero => intro _; exact ⟨[], rfl, fun i x hi => by omega⟩
    | succ n ih =>
      intro hn
      obtain ⟨vs, h1, h2⟩ := ih (by omega)
      obtain ⟨cs, hcs, hR, hr⟩ := h.el n xs[n] (List.getElem?_eq_getElem (by omega))
      match cs, hcs with
      | [u], _ =>
        refine ⟨vs ++ [u], by simp [h1], fun i x hi hx => ?_⟩
        by_cases hin : i = n
        · subst hin
          rw [List.getElem?_eq_getElem (by omega)] at hx
          cases hx
          exact ⟨u, by rw [List.getElem?_append_right (by omega), h1, Nat.sub_self]; rfl, hR, by simpa using hr 0 u rfl⟩
        · obtain ⟨v, g1, g2⟩ := h2 i x (by omega) hx
          exact ⟨v, by rw [List.getElem?_append_left (by omega)]; exact g1, g2⟩
  obtain ⟨vs, h1, h2⟩ := key xs.length (Nat.le_refl _)
  have hlen := h.len
  refine ⟨vs, h1, ⟨fun hn => ?_, fun h0 => ?_⟩, fun i x hx => ?_⟩
  · have hc := h.nil hn
    have := h.lc
    exact ⟨by omega, hc⟩
  · have hp := h.isp (by omega)
    have := isP_spec hp
    refine ⟨pb a, po a, this, fun j u hj => ?_⟩
    have hjl := (List.getElem?_eq_some_iff.1 hj).1
    obtain ⟨v, g1, g2, g3⟩ := h2 j xs[j] (by omega) (List.getElem?_eq_getElem (by omega))
    rw [hj] at g1
    cases g1
    exact g3
  · have hil := (List.getElem?_eq_some_iff.1 hx).1
    obtain ⟨u, g1, g2, g3⟩ := h2 i x hil hx
    exact ⟨u, g1, g2⟩
theorem sl_rows {α : Type} {R : Rd α} (hs : Stab R) {w0 w : World} {base e : Nat} {a : Option Addr} {l c : Nat} {vs : List Value} {xs : List α} (row : w.ownsRow base e 1 (.slice a l c) l vs) (hl : l = xs.length)
    (hv : ∀ (i : Nat) (x : α), xs[i]? = some x → ∃ u, vs[i]? = some u ∧ R w [u] x) : SlR R 1 w a l c xs := by
  rcases row.2 with ⟨h0, h1⟩ | ⟨g, cap, cur, h0, hb, hgg, hnc, hm, hsz, htk⟩
  · cases h0
    have : xs = [] := List.length_eq_zero_iff.1 (by omega)
    subst this
    exact SlR.nil'
  · cases h0
    refine ⟨hl, fun _ => rfl, fun h => (by cases h), hnc, hm, fun i x hx => ?_⟩
    obtain ⟨u, h1, h2⟩ := hv i x hx
    refine ⟨[u], rfl, h2, fun j v hj => ?_⟩
    cases j with
    | succ j => simp at hj
    | zero =>
      simp at hj
      subst hj
      have hi := (List.getElem?_eq_some_iff.1 hx).1
      have h3 : (cur.toList.take (l * 1))[i]? = vs[i]? := by rw [htk]
      rw [List.getElem?_take_of_lt (by omega)] at h3
      have h4 : rd w g i = cur[i]? := by rw [rd_def, hgg]
      show rd w g (0 + i * 1 + 0) = _
      rw [Nat.zero_add, Nat.mul_one, Nat.add_zero, h4, ← Array.getElem?_toList, h3, h1]
def RObjs : Rd (List (List (Int × Int))) := RL (RL RPair 2) 1
theorem RObjs.stab : Stab RObjs := RL.stab (RL.stab RPair.stab)
theorem concat_objs {w : World} {B : Nat} {a1 a2 : Option Addr} {l1 c1 l2 c2 : Nat} {xs ys : List (List (List (Int × Int)))} (h1 : SlR RObjs 1 w a1 l1 c1 xs) (h2 : SlR RObjs 1 w a2 l2 c2 ys) (hB : own w B [.slice a1 l1 c1, .slice a2 l2 c2]) (hl : xs.length + ys.length ≤ 1000000) :
    Calls Tryz.prog 71 #[.slice (some ⟨B, 0, none⟩) 2 2] w fun e w' => ∃ (a : Option Addr) (l c : Nat), e = .returned (.slice a l c) ∧ SlR RObjs 1 w' a l c (xs ++ ys) ∧ Kept none' w w' := by
  have hlx := h1.len
  have hly := h2.len
  obtain ⟨vs, hvl, hvs, hvr⟩ := sl_src h1
  obtain ⟨us, hul, hus, hur⟩ := sl_src h2
  have hinfo := info_objs
  cases hi : Tryz.prog.info? 30 with
  | none => rw [hi] at hinfo; cases hinfo
  | some i0 =>
  rw [hi] at hinfo
  simp at hinfo
  have h1c : ∀ {α : Type} {R : Rd α} {zs : List (List α)} {ws : List Value}, ws.length = zs.length → (∀ (i : Nat) (x : List α), zs[i]? = some x → ∃ u, ws[i]? = some u ∧ RL R 1 w [u] x) → ∀ u ∈ ws, u.oneCell' = true := by
    intro α R zs ws hl hr u hu
    obtain ⟨j, hj⟩ := List.mem_iff_getElem?.1 hu
    have hjl := (List.getElem?_eq_some_iff.1 hj).1
    obtain ⟨v, g1, a, l, c, g2, _⟩ := hr j zs[j] (List.getElem?_eq_getElem (by omega))
    rw [hj] at g1
    cases g1
    cases g2
    rfl
  refine (vc71 (some ⟨B, 0, none⟩) 2 2 w (fun v w' => ∃ (a : Option Addr) (l c : Nat), v = .slice a l c ∧ SlR RObjs 1 w' a l c (xs ++ ys) ∧ Kept none' w w') ?_).mono ?_
  · unfold vcP71
    have r0 : ∀ w', Kept none' w w' → rd w' B (0 + (0 : Int).toNat * 1) = some (.slice a1 l1 c1) := fun w' k => ((hB.k k).rd _).trans rfl
    have r1 : ∀ w', Kept none' w w' → rd w' B (0 + (1 : Int).toNat * 1) = some (.slice a2 l2 c2) := fun w' k => ((hB.k k).rd _).trans rfl
    refine ⟨fun n i w' M => w' = w ∧ ((n = 0 ∧ i = 0 ∧ M = 2) ∨ (n = (l1 : Int) ∧ i = 1 ∧ M = 1) ∨ (n = (l1 : Int) + l2 ∧ i = 2 ∧ M = 0)), ⟨2, rfl, .inl ⟨rfl, rfl, rfl⟩⟩, ?_⟩
    rintro n i w1 M ⟨rfl, ⟨rfl, rfl, rfl⟩ | ⟨rfl, rfl, rfl⟩ | ⟨rfl, rfl, rfl⟩⟩
    · refine Wif_yes rfl (Wif_yes rfl (Wif_yes rfl ⟨a1, l1, c1, r0 _ (Kept.refl _ _), ?_⟩))
      rw [wi (by omega)]
      exact Wif_no (by simp <;> omega) ⟨1, by omega, rfl, .inr (.inl ⟨by omega, rfl, rfl⟩)⟩
    · refine Wif_yes rfl (Wif_yes rfl (Wif_yes rfl ⟨a2, l2, c2, r1 _ (Kept.refl _ _), ?_⟩))
      rw [wi (by omega)]
      exact Wif_no (by simp; omega) ⟨0, by omega, rfl, .inr (.inr ⟨rfl, rfl, rfl⟩)⟩
    refine Wif_no rfl ((grow_nil30 (n := (l1 : Int) + l2) (by omega) (by omega)).mono ?_)
    rintro _ w2 ⟨a, c, rfl, row, k2⟩
    refine ⟨a, 0, c, rfl, fun a l c i w' M => ∃ zs, ((zs = [] ∧ i = 0 ∧ M = 2) ∨ (zs = vs ∧ i = 1 ∧ M = 1) ∨ (zs = vs ++ us ∧ i = 2 ∧ M = 0)) ∧ l = zs.length ∧ w'.ownsRow w1.heap.size 30 1 (.slice a l c) l zs ∧ Kept none' w1 w', ⟨2, [], .inl ⟨rfl, rfl, rfl⟩, rfl, row, k2⟩, ?_⟩
    rintro a l c i w3 M ⟨zs, hz, hlz, row3, k3⟩
    have hs3 := k3.sz
    have hown : ∀ b, (Value.slice a l c).ownBlock = some b → w1.heap.size ≤ b := fun b hb => (row3.lt b hb).1
    rcases hz with ⟨rfl, rfl, rfl⟩ | ⟨rfl, rfl, rfl⟩ | ⟨rfl, rfl, rfl⟩
    · refine Wif_yes rfl (Wif_yes rfl (Wif_yes rfl ⟨a1, l1, c1, r0 _ k3, ?_⟩))
      simp at hlz
      subst hlz
      obtain ⟨a', c', w4, happ, row4, k4⟩ := Eng.app (P := Tryz.prog) (t := 35) (ty := 35) (e := 30) (i := i0) (z := .slice none 0 0) (size := 1) Tryz.underlying35 hi hinfo.1 hinfo.2.1 rfl (by decide) row3 (hvs.k k3) (by omega) (h1c hvl hvr) (by omega) (by omega) hs3
      exact ⟨a', _, c', w4, happ, 1, by omega, vs, .inr (.inl ⟨rfl, rfl, rfl⟩), by omega, by simpa using row4, own0 k3 k4 hown⟩
    · refine Wif_yes rfl (Wif_yes rfl (Wif_yes rfl ⟨a2, l2, c2, r1 _ k3, ?_⟩))
      obtain ⟨a', c', w4, happ, row4, k4⟩ := Eng.app (P := Tryz.prog) (t := 35) (ty := 35) (e := 30) (i := i0) (z := .slice none 0 0) (size := 1) Tryz.underlying35 hi hinfo.1 hinfo.2.1 rfl (by decide) row3 (hus.k k3) (by omega) (h1c hul hur) (by omega) (by omega) hs3
      exact ⟨a', _, c', w4, happ, 0, by omega, _, .inr (.inr ⟨rfl, rfl, rfl⟩), by simp; omega, row4, own0 k3 k4 hown⟩
    · refine Wif_no rfl ⟨a, l, c, rfl, sl_rows (w0 := w1) RObjs.stab row3 (by rw [hlz, List.length_append, List.length_append]; omega) fun i x hx => ?_, k3⟩
      rcases Nat.lt_or_ge i xs.length with hlt | hge
      · rw [List.getElem?_append_left hlt] at hx
        obtain ⟨u, g1, g2⟩ := hvr i x hx
        exact ⟨u, by rw [List.getElem?_append_left (by omega)]; exact g1, RObjs.stab _ _ _ _ g2 k3⟩
      · rw [List.getElem?_append_right hge] at hx
        obtain ⟨u, g1, g2⟩ := hur _ x hx
        exact ⟨u, by rw [List.getElem?_append_right (by omega), hvl]; exact g1, RObjs.stab _ _ _ _ g2 k3⟩
  · rintro e w' ⟨v, rfl, a, l, c, rfl, hw⟩
    exact ⟨a, l, c, rfl, hw⟩
end Go.Proofs.YtikjgeenhbnkkaaGreatDoor
