/-
  A part of a proof that a law of this seat returns true at every input. Conditions: those in each theorem.
-/
import Derived.Test.YtklmokolnakkoaaGreatDoorB0
import Derived.Test.YtklmokolnakkoaaGreatDoorEngQ
set_option linter.unusedVariables false
set_option maxRecDepth 100000
namespace Go.Proofs.YtklmokolnakkoaaGreatDoor
open Go Go.Eng
open Go.Value (slice)
/- byre/config.within -/
def vcP113 (n : Int) (least : Int) (most : Int) (w : World) (K : Value → World → Prop) : Prop := K (Value.bool (decide (n ≥ least) && decide (n ≤ most))) w
theorem vcE113 (n : Int) (least : Int) (most : Int) (w : World) (K : Value → World → Prop) : vcP113 n least most w K = Eng.wBody Tryz.prog (Eng.handOf Tryz.prog [113] 1) [] Tryz.f113 (Eng.bodyOf Tryz.f113) [Value.int .i64 n, Value.int .i64 least, Value.int .i64 most] w K := by kernel_rfl
theorem vc113 (n : Int) (least : Int) (most : Int) (w : World) (K : Value → World → Prop) (h : vcP113 n least most w K) : Calls Tryz.prog 113 #[Value.int .i64 n, Value.int .i64 least, Value.int .i64 most] w (fun e w' => ∃ v, e = .returned v ∧ K v w') := Eng.vc_of [113] 1 [] Tryz.mixes Tryz.func113 (by kernel_rfl) (by kernel_rfl) (vcE113 n least most w K) h
/- byre/config.bare -/
def vcP114 (c0 : Nat → Int) (w : World) (K : Value → World → Prop) : Prop := ∀ (w' : World), w' = World.alloc w (Obj.cells (List.toArray (runI .i64 c0 0 94)) 31) → ∀ (w'_1 : World), w'_1 = World.alloc w' (Obj.cells (List.toArray (List.replicate 94 (Value.int .i64 0))) 31) → ∃ (x : Int), rd w'_1 w.heap.size 1 = some (.int .i64 x) ∧ Wif (okSl x 16 16) (∃ (w'_2 : World), clrIs Tryz.prog #[51] 0 (slice (offA (some (Addr.mk w.heap.size 2 none)) 16 (Int.toNat x) 1) (16 - Int.toNat x) (16 - Int.toNat x)) w'_1 w'_2 ∧ ∃ (x : Int), rd w'_2 w.heap.size 0 = some (.int .i64 x) ∧ Wif (okSl x 8 8) (∃ (w'_3 : World), clrIs Tryz.prog #[51] 0 (slice (offA (some (Addr.mk w.heap.size 18 none)) 8 (Int.toNat x) 1) (8 - Int.toNat x) (8 - Int.toNat x)) w'_2 w'_3 ∧ ∃ (I : Int → World → Nat → Prop), (∃ (n : Nat), I 0 w'_3 n) ∧ ∀ (n : Int) (w'_4 : World) (n_1 : Nat), I n w'_4 n_1 → Wif (decide (n < 8)) (∀ (w1 : World), w1 = World.drew w'_4 → Wif (inB n 8) (∃ (x : Int), rd w1 w.heap.size 0 = some (.int .i64 x) ∧ Wif (okSl x 8 8) (∃ (w' : World), clrIs Tryz.prog #[51] 0 (slice (offA (some (Addr.mk w.heap.size (26 + Int.toNat n * 8) none)) 8 (Int.toNat x) 1) (8 - Int.toNat x) (8 - Int.toNat x)) w1 w' ∧ ∃ (m : Nat), Nat.succ m ≤ n_1 ∧ I (IntKind.wrap .i64 (n + 1)) w' m) False) False) (∃ (x : Int), rd w'_4 w.heap.size 0 = some (.int .i64 x) ∧ Wif (okSl x 8 8) (∃ (w'_5 : World), clrIs Tryz.prog #[281] 0 (slice (offA (some (Addr.mk w.heap.size 26 none)) 8 (Int.toNat x) 8) (8 - Int.toNat x) (8 - Int.toNat x)) w'_4 w'_5 ∧ ∃ (x : Nat → Int), rdAll w'_5 w.heap.size 0 (runI .i64 x 0 94) ∧ wrAll w'_5 w'.heap.size 0 (runI .i64 x 0 94) ∧ ∀ (w'_6 : World), w'_6 = stAll w'_5 w'.heap.size 0 (runI .i64 x 0 94) → ∃ (x : Nat → Int), rdAll w'_6 w'.heap.size 0 (runI .i64 x 0 94) ∧ K (Value.agg (List.toArray (runI .i64 x 0 94))) w'_6) False)) False) False
theorem vcE114 (c0 : Nat → Int) (w : World) (K : Value → World → Prop) : vcP114 c0 w K = Eng.wBody Tryz.prog (Eng.handOf Tryz.prog [113] 1) [] Tryz.f114 (Eng.bodyOf Tryz.f114) [Value.agg (List.toArray (runI .i64 c0 0 94))] w K := by kernel_rfl
theorem vc114 (c0 : Nat → Int) (w : World) (K : Value → World → Prop) (h : vcP114 c0 w K) : Calls Tryz.prog 114 #[Value.agg (List.toArray (runI .i64 c0 0 94))] w (fun e w' => ∃ v, e = .returned v ∧ K v w') := Eng.vc_of [113] 1 [] Tryz.mixes Tryz.func114 (by kernel_rfl) (by kernel_rfl) (vcE114 c0 w K) h
/- byre/config.near -/
def vcP115 (c0 : Nat → Int) (w : World) (K : Value → World → Prop) : Prop := ∀ (w' : World), w' = World.alloc w (Obj.cells (List.toArray (runI .i64 c0 0 94)) 31) → ∃ (x : Int), rd w' w.heap.size 0 = some (.int .i64 x) ∧ ∃ (I : Bool → Int → World → Nat → Prop), (∃ (n : Nat), I false 0 w' n) ∧ ∀ (b : Bool) (n : Int) (w' : World) (n_1 : Nat), I b n w' n_1 → Wif (decide (n < x)) (∃ (x : Int), rd w' w.heap.size 0 = some (.int .i64 x) ∧ ∃ (I_1 : Bool → Int → World → Nat → Prop), (∃ (n : Nat), I_1 b 0 w' n) ∧ ∀ (b : Bool) (n_2 : Int) (w' : World) (n_3 : Nat), I_1 b n_2 w' n_3 → Wif (decide (n_2 < x)) (Wif (inB n 8) (Wif (inB n_2 8) (∃ (x : Int), rd w' w.heap.size (26 + Int.toNat n * 8 + Int.toNat n_2 * 1) = some (.int .i64 x) ∧ Wif (!(x == 0) == (n == n_2)) (K (Value.bool false) w') (gIf (inB n_2 8) ((!(decide (x ≥ 0) && decide (x ≤ 255))) = false) (gIf (inB n 8) ((!(decide (x ≥ 0) && decide (x ≤ 255))) = false) (∃ (x_1 : Int), ((!(decide (x ≥ 0) && decide (x ≤ 255))) = false → rd w' w.heap.size (26 + Int.toNat n_2 * 8 + Int.toNat n * 1) = some (.int .i64 x_1)) ∧ Wif (!(decide (x ≥ 0) && decide (x ≤ 255)) || x != x_1) (K (Value.bool false) w') (∃ (m : Nat), Nat.succ m ≤ n_3 ∧ I_1 b (IntKind.wrap .i64 (n_2 + 1)) w' m))))) False) False) (∃ (m : Nat), Nat.succ m ≤ n_1 ∧ I b (IntKind.wrap .i64 (n + 1)) w' m)) (K (Value.bool true) w')
theorem vcE115 (c0 : Nat → Int) (w : World) (K : Value → World → Prop) : vcP115 c0 w K = Eng.wBody Tryz.prog (Eng.handOf Tryz.prog [113] 1) [] Tryz.f115 (Eng.bodyOf Tryz.f115) [Value.agg (List.toArray (runI .i64 c0 0 94))] w K := by kernel_rfl
theorem vc115 (c0 : Nat → Int) (w : World) (K : Value → World → Prop) (h : vcP115 c0 w K) : Calls Tryz.prog 115 #[Value.agg (List.toArray (runI .i64 c0 0 94))] w (fun e w' => ∃ v, e = .returned v ∧ K v w') := Eng.vc_of [113] 1 [] Tryz.mixes Tryz.func115 (by kernel_rfl) (by kernel_rfl) (vcE115 c0 w K) h
/- byre/config.May -/
def vcP32 (c0 : Nat → Int) (w : World) (K : Value → World → Prop) : Prop := ∀ (w' : World), w' = World.alloc w (Obj.cells (List.toArray (runI .i64 c0 0 94)) 31) → ∀ (w1 : World), w1 = World.drew w' → ∃ (x : Int), rd w1 w.heap.size 0 = some (.int .i64 x) ∧ ∃ (x_1 : Int), ((!(decide (x ≥ 1) && decide (x ≤ 8))) = false → rd w1 w.heap.size 1 = some (.int .i64 x_1)) ∧ Wif (!(decide (x ≥ 1) && decide (x ≤ 8))) (K (Value.bool false) w1) (∃ (x : Int), ((!(decide (x_1 ≥ 1) && decide (x_1 ≤ 16))) = false → rd w1 w.heap.size 90 = some (.int .i64 x)) ∧ Wif (!(decide (x_1 ≥ 1) && decide (x_1 ≤ 16))) (K (Value.bool false) w1) (∃ (x_2 : Nat → Int), ((!(decide (x ≥ 0) && decide (x ≤ 1024))) = false → rdAll w1 w.heap.size 0 (runI .i64 x_2 0 94)) ∧ ∃ (x_3 : Nat → Int), ((!(decide (x ≥ 0) && decide (x ≤ 1024))) = false → rdAll w1 w.heap.size 0 (runI .i64 x_3 0 94)) ∧ Wif (!(decide (x ≥ 0) && decide (x ≤ 1024))) (((!(decide (x ≥ 0) && decide (x ≤ 1024))) = false → rdAll w1 w.heap.size 0 (runI .i64 x_2 0 94) ∧ True) ∧ K (Value.bool false) w1) (Calls Tryz.prog 114 #[Value.agg (List.toArray (runI .i64 x_3 0 94))] w1 fun (e : Ending) (w' : World) => ∃ (f : Nat → Int), e = Ending.returned (Value.agg (List.toArray (runI .i64 f 0 94))) ∧ ((!(decide (x ≥ 0) && decide (x ≤ 1024))) = false → rdAll w' w.heap.size 0 (runI .i64 x_2 0 94) ∧ True) ∧ Wif (!(x_2 0 == f 0 && (x_2 1 == f 1 && (x_2 2 == f 2 && (x_2 3 == f 3 && (x_2 4 == f 4 && (x_2 5 == f 5 && (x_2 6 == f 6 && (x_2 7 == f 7 && (x_2 8 == f 8 && (x_2 9 == f 9 && (x_2 10 == f 10 && (x_2 11 == f 11 && (x_2 12 == f 12 && (x_2 13 == f 13 && (x_2 14 == f 14 && (x_2 15 == f 15 && (x_2 16 == f 16 && (x_2 17 == f 17 && true))))))))))))))) && (x_2 18 == f 18 && (x_2 19 == f 19 && (x_2 20 == f 20 && (x_2 21 == f 21 && (x_2 22 == f 22 && (x_2 23 == f 23 && (x_2 24 == f 24 && (x_2 25 == f 25 && true))))))) && (x_2 26 == f 26 && (x_2 27 == f 27 && (x_2 28 == f 28 && (x_2 29 == f 29 && (x_2 30 == f 30 && (x_2 31 == f 31 && (x_2 32 == f 32 && (x_2 33 == f 33 && true))))))) && (x_2 34 == f 34 && (x_2 35 == f 35 && (x_2 36 == f 36 && (x_2 37 == f 37 && (x_2 38 == f 38 && (x_2 39 == f 39 && (x_2 40 == f 40 && (x_2 41 == f 41 && true))))))) && (x_2 42 == f 42 && (x_2 43 == f 43 && (x_2 44 == f 44 && (x_2 45 == f 45 && (x_2 46 == f 46 && (x_2 47 == f 47 && (x_2 48 == f 48 && (x_2 49 == f 49 && true))))))) && (x_2 50 == f 50 && (x_2 51 == f 51 && (x_2 52 == f 52 && (x_2 53 == f 53 && (x_2 54 == f 54 && (x_2 55 == f 55 && (x_2 56 == f 56 && (x_2 57 == f 57 && true))))))) && (x_2 58 == f 58 && (x_2 59 == f 59 && (x_2 60 == f 60 && (x_2 61 == f 61 && (x_2 62 == f 62 && (x_2 63 == f 63 && (x_2 64 == f 64 && (x_2 65 == f 65 && true))))))) && (x_2 66 == f 66 && (x_2 67 == f 67 && (x_2 68 == f 68 && (x_2 69 == f 69 && (x_2 70 == f 70 && (x_2 71 == f 71 && (x_2 72 == f 72 && (x_2 73 == f 73 && true))))))) && (x_2 74 == f 74 && (x_2 75 == f 75 && (x_2 76 == f 76 && (x_2 77 == f 77 && (x_2 78 == f 78 && (x_2 79 == f 79 && (x_2 80 == f 80 && (x_2 81 == f 81 && true))))))) && (x_2 82 == f 82 && (x_2 83 == f 83 && (x_2 84 == f 84 && (x_2 85 == f 85 && (x_2 86 == f 86 && (x_2 87 == f 87 && (x_2 88 == f 88 && (x_2 89 == f 89 && true))))))) && true))))))) && (x_2 90 == f 90 && (x_2 91 == f 91 && (x_2 92 == f 92 && (x_2 93 == f 93 && true)))))))))) (K (Value.bool false) w') (∃ (x : Int), rd w' w.heap.size 1 = some (.int .i64 x) ∧ Wif (okSl 0 x 16) (∃ (I : Bool → Int → World → Nat → Prop), (∃ (n : Nat), I false 0 w' n) ∧ ∀ (b : Bool) (n : Int) (w' : World) (n_1 : Nat), I b n w' n_1 → Wif (decide (n < (↑(Int.toNat x) : Int))) (Wif (inB n (Int.toNat x)) (∃ (x : Int), rd w' w.heap.size (2 + Int.toNat n * 1) = some (.int .i64 x) ∧ ∃ (x_4 : Int), rd w' w.heap.size 0 = some (.int .i64 x_4) ∧ Wif (!(decide (x ≥ 0) && decide (x ≤ IntKind.wrap .i64 (x_4 - 1)))) (K (Value.bool false) w') (∃ (m : Nat), Nat.succ m ≤ n_1 ∧ I b (IntKind.wrap .i64 (n + 1)) w' m)) False) (∃ (x : Int), rd w' w.heap.size 0 = some (.int .i64 x) ∧ Wif (okSl 0 x 8) (∃ (I : Bool → Int → World → Nat → Prop), (∃ (n : Nat), I b 0 w' n) ∧ ∀ (b : Bool) (n : Int) (w' : World) (n_2 : Nat), I b n w' n_2 → Wif (decide (n < (↑(Int.toNat x) : Int))) (Wif (inB n (Int.toNat x)) (∃ (x : Int), rd w' w.heap.size (18 + Int.toNat n * 1) = some (.int .i64 x) ∧ ∃ (x_4 : Int), ((!(decide (x ≥ 4) && decide (x ≤ 128))) = false → rd w' w.heap.size 93 = some (.int .i64 x_4)) ∧ Wif (!(decide (x ≥ 4) && decide (x ≤ 128)) || decide (x_4 > x)) (K (Value.bool false) w') (∃ (m : Nat), Nat.succ m ≤ n_2 ∧ I b (IntKind.wrap .i64 (n + 1)) w' m)) False) (∃ (x : Nat → Int), rdAll w' w.heap.size 0 (runI .i64 x 0 94) ∧ Calls Tryz.prog 115 #[Value.agg (List.toArray (runI .i64 x 0 94))] w' fun (e : Ending) (w' : World) => ∃ (b : Bool), e = Ending.returned (Value.bool b) ∧ ∃ (x : Int), (b = true → rd w' w.heap.size 91 = some (.int .i64 x)) ∧ ∃ (x_4 : Int), ((b && decide (0 ≤ x)) = true → rd w' w.heap.size 91 = some (.int .i64 x_4)) ∧ ∃ (x_5 : Int), ((b && decide (0 ≤ x)) = true → rd w' w.heap.size 92 = some (.int .i64 x_5)) ∧ ∃ (x_6 : Int), ((b && decide (0 ≤ x) && decide (x_4 ≤ x_5)) = true → rd w' w.heap.size 92 = some (.int .i64 x_6)) ∧ ∃ (x_7 : Int), ((b && decide (0 ≤ x) && decide (x_4 ≤ x_5)) = true → rd w' w.heap.size 93 = some (.int .i64 x_7)) ∧ K (Value.bool (b && decide (0 ≤ x) && decide (x_4 ≤ x_5) && decide (x_6 ≤ x_7))) w')) False)) False))))
theorem vcE32 (c0 : Nat → Int) (w : World) (K : Value → World → Prop) : vcP32 c0 w K = Eng.wBody Tryz.prog (Eng.handOf Tryz.prog [113] 1) [] Tryz.f32 (Eng.bodyOf Tryz.f32) [Value.agg (List.toArray (runI .i64 c0 0 94))] w K := by kernel_rfl
theorem vc32 (c0 : Nat → Int) (w : World) (K : Value → World → Prop) (h : vcP32 c0 w K) : Calls Tryz.prog 32 #[Value.agg (List.toArray (runI .i64 c0 0 94))] w (fun e w' => ∃ v, e = .returned v ∧ K v w') := Eng.vc_of [113] 1 [] Tryz.mixes Tryz.func32 (by kernel_rfl) (by kernel_rfl) (vcE32 c0 w K) h
/- byre/config.Node -/
def vcP160 (c0 : Nat → Int) (frame : Int) (w : World) (K : Value → World → Prop) : Prop := ∀ (w' : World), w' = World.alloc w (Obj.cells (List.toArray (runI .i64 c0 0 94)) 31) → ∃ (x : Nat → Int), rdAll w' w.heap.size 0 (runI .i64 x 0 94) ∧ Calls Tryz.prog 32 #[Value.agg (List.toArray (runI .i64 x 0 94))] w' fun (e : Ending) (w' : World) => ∃ (b : Bool), e = Ending.returned (Value.bool b) ∧ Wif (!b) (K (Value.tuple #[Value.int .i64 0, Value.int .i64 2]) w') (∃ (I : Int → Int → Int → Int → World → Nat → Prop), (∃ (n : Nat), I frame 0 0 0 w' n) ∧ ∀ (n n_1 n_2 n_3 : Int) (w' : World) (n_4 : Nat), I n n_1 n_2 n_3 w' n_4 → ∃ (x : Int), (decide (n ≥ 0) = true → rd w' w.heap.size 0 = some (.int .i64 x)) ∧ Wif (decide (n ≥ 0) && decide (n_3 < x)) (Wif (inB n_3 8) (∃ (x : Int), rd w' w.heap.size (18 + Int.toNat n_3 * 1) = some (.int .i64 x) ∧ Wif (decide (n < x)) (K (Value.tuple #[Value.int .i64 n_3, Value.int .i64 0]) w') (Wif (inB n_3 8) (∃ (x : Int), rd w' w.heap.size (18 + Int.toNat n_3 * 1) = some (.int .i64 x) ∧ ∃ (m : Nat), Nat.succ m ≤ n_4 ∧ I (IntKind.wrap .i64 (n - x)) n_1 n_2 (IntKind.wrap .i64 (n_3 + 1)) w' m) False)) False) (K (Value.tuple #[Value.int .i64 0, Value.int .i64 7]) w'))
theorem vcE160 (c0 : Nat → Int) (frame : Int) (w : World) (K : Value → World → Prop) : vcP160 c0 frame w K = Eng.wBody Tryz.prog (Eng.handOf Tryz.prog [113] 1) [] Tryz.f160 (Eng.bodyOf Tryz.f160) [Value.agg (List.toArray (runI .i64 c0 0 94)), Value.int .i64 frame] w K := by kernel_rfl
theorem vc160 (c0 : Nat → Int) (frame : Int) (w : World) (K : Value → World → Prop) (h : vcP160 c0 frame w K) : Calls Tryz.prog 160 #[Value.agg (List.toArray (runI .i64 c0 0 94)), Value.int .i64 frame] w (fun e w' => ∃ v, e = .returned v ∧ K v w') := Eng.vc_of [113] 1 [] Tryz.mixes Tryz.func160 (by kernel_rfl) (by kernel_rfl) (vcE160 c0 frame w K) h
/- byre/config.First -/
def vcP145 (c0 : Nat → Int) (node : Int) (w : World) (K : Value → World → Prop) : Prop := ∀ (w' : World), w' = World.alloc w (Obj.cells (List.toArray (runI .i64 c0 0 94)) 31) → ∃ (x : Nat → Int), rdAll w' w.heap.size 0 (runI .i64 x 0 94) ∧ Calls Tryz.prog 32 #[Value.agg (List.toArray (runI .i64 x 0 94))] w' fun (e : Ending) (w' : World) => ∃ (b : Bool), e = Ending.returned (Value.bool b) ∧ Wif (!b) (K (Value.tuple #[Value.int .i64 0, Value.int .i64 2]) w') (∃ (x : Int), rd w' w.heap.size 0 = some (.int .i64 x) ∧ Wif (!(decide (node ≥ 0) && decide (node ≤ IntKind.wrap .i64 (x - 1)))) (K (Value.tuple #[Value.int .i64 0, Value.int .i64 7]) w') (Wif (okSl 0 node 8) (∃ (I : Int → Int → World → Nat → Prop), (∃ (n : Nat), I 0 0 w' n) ∧ ∀ (n n_1 : Int) (w' : World) (n_2 : Nat), I n n_1 w' n_2 → Wif (decide (n_1 < (↑(Int.toNat node) : Int))) (Wif (inB n_1 (Int.toNat node)) (∃ (x : Int), rd w' w.heap.size (18 + Int.toNat n_1 * 1) = some (.int .i64 x) ∧ ∃ (m : Nat), Nat.succ m ≤ n_2 ∧ I (IntKind.wrap .i64 (n + x)) (IntKind.wrap .i64 (n_1 + 1)) w' m) False) (K (Value.tuple #[Value.int .i64 n, Value.int .i64 0]) w')) False))
theorem vcE145 (c0 : Nat → Int) (node : Int) (w : World) (K : Value → World → Prop) : vcP145 c0 node w K = Eng.wBody Tryz.prog (Eng.handOf Tryz.prog [113] 1) [] Tryz.f145 (Eng.bodyOf Tryz.f145) [Value.agg (List.toArray (runI .i64 c0 0 94)), Value.int .i64 node] w K := by kernel_rfl
theorem vc145 (c0 : Nat → Int) (node : Int) (w : World) (K : Value → World → Prop) (h : vcP145 c0 node w K) : Calls Tryz.prog 145 #[Value.agg (List.toArray (runI .i64 c0 0 94)), Value.int .i64 node] w (fun e w' => ∃ v, e = .returned v ∧ K v w') := Eng.vc_of [113] 1 [] Tryz.mixes Tryz.func145 (by kernel_rfl) (by kernel_rfl) (vcE145 c0 node w K) h
end Go.Proofs.YtklmokolnakkoaaGreatDoor
namespace Go.Proofs.YtklmokolnakkoaaGreatDoor
open Go Eng
set_option linter.unusedSimpArgs false
set_option linter.unusedVariables false
set_option maxRecDepth 100000
abbrev cfg (c : Nat → Int) : List Value := runI .i64 c 0 94
abbrev cfgV (c : Nat → Int) : Value := .agg (cfg c).toArray
def clrF (f : Nat → Int) (o n : Nat) : Nat → Int := fun i => if o ≤ i ∧ i < o + n then 0 else f i
section
variable {w w' : World} {b : Nat} {f : Nat → Int}
theorem clr_cfg {t e : TypeId} {z : Value} {s : Nat} (ht : Tryz.prog.underlying t = some (.slice e)) (hv : ∀ w, (zeroValue e).run Tryz.prog w = .ok z w) (hz : z.cells = (List.replicate s (.int .i64 0)).toArray)
    (h : own w b (cfg f)) (o k cap : Nat) (hk : k ≤ cap) (hn : o + cap * s ≤ 94) {ty : TypeId} :
    ∃ w', clrIs Tryz.prog #[t] ty (.slice (offA (some ⟨b, o, none⟩) cap k s) (cap - k) (cap - k)) w w' ∧ own w' b (cfg (clrF f (o + k * s) ((cap - k) * s))) ∧ Kept (· = b) w w' := by
  have hks : k * s + (cap - k) * s = cap * s := by rw [← Nat.add_mul]; congr 1; omega
  have hoff : ∃ o', offA (some ⟨b, o, none⟩) cap k s = some ⟨b, o', none⟩ ∧ (o' = o + k * s ∨ k = cap) ∧ o' + (cap - k) * s ≤ 94 := by
    unfold offA
    by_cases e : cap = k
    · rw [if_pos e]; exact ⟨o, rfl, .inr e.symm, by subst e; simp; omega⟩
    · rw [if_neg e]
      refine ⟨o + k * s, ?_, .inl rfl, by omega⟩
      simp [Addr.add]
  obtain ⟨o', e1, e2, e3⟩ := hoff
  rw [e1]
  obtain ⟨w', hc, ho, hkp⟩ := clrN_own (ty := ty) ht hv hz rfl h o' (cap - k) (cap - k) (by rw [runI_len]; exact e3)
  refine ⟨w', hc, ?_, hkp⟩
  have : (cfg f).take o' ++ List.replicate ((cap - k) * s) (Value.int .i64 0) ++ (cfg f).drop (o' + (cap - k) * s) = cfg (clrF f (o + k * s) ((cap - k) * s)) := by
    refine runI_of (by simp [runI_len]; omega) fun j hj => ?_
    have hl : ((cfg f).take o').length = o' := by simp [runI_len]; omega
    by_cases h1 : j < o'
    · rw [List.append_assoc, List.getElem?_append_left (by omega), List.getElem?_take, if_pos h1, runI_get _ _ _ _ _ hj, Nat.zero_add]
      unfold clrF
      rw [if_neg]
      rcases e2 with rfl | rfl
      · omega
      · rw [Nat.sub_self]; omega
    · by_cases h2 : j < o' + (cap - k) * s
      · rw [List.getElem?_append_left (by simp [runI_len]; omega), List.getElem?_append_right (by omega), List.getElem?_replicate, if_pos (by omega)]
        unfold clrF
        rw [if_pos]
        rcases e2 with rfl | rfl
        · omega
        · rw [Nat.sub_self] at h2; omega
      · rw [List.getElem?_append_right (by simp [runI_len]; omega), List.getElem?_drop]
        rw [show o' + (cap - k) * s + (j - (List.take o' (cfg f) ++ List.replicate ((cap - k) * s) (Value.int .i64 0)).length) = j by simp [runI_len]; omega, runI_get _ _ _ _ _ hj, Nat.zero_add]
        unfold clrF
        rw [if_neg]
        rcases e2 with rfl | rfl
        · omega
        · rw [Nat.sub_self]; omega
  rw [this] at ho
  exact ho
end
def bareF (c : Nat → Int) (i : Nat) : Int :=
  if (2 + (c 1).toNat ≤ i ∧ i < 18) ∨ (18 + (c 0).toNat ≤ i ∧ i < 26) ∨ (26 ≤ i ∧ i < 90 ∧ ((c 0).toNat ≤ (i - 26) % 8 ∨ (c 0).toNat ≤ (i - 26) / 8)) then 0 else c i
def rowsF (c g : Nat → Int) (q : Nat) (i : Nat) : Int := if 26 ≤ i ∧ i < 26 + 8 * q ∧ (c 0).toNat ≤ (i - 26) % 8 then 0 else g i
theorem zero3' (w : World) : (zeroValue 3).run Tryz.prog w = .ok (.int .i64 0) w := Tryz.zeroValue3 w
theorem zero38 (w : World) : (zeroValue 28).run Tryz.prog w = .ok (.agg (List.replicate 8 (Value.int .i64 0)).toArray) w := Tryz.zeroValue28 w
theorem bare_spec (c : Nat → Int) (w : World) (h0 : 0 ≤ c 0 ∧ c 0 ≤ 8) (h1 : 0 ≤ c 1 ∧ c 1 ≤ 16) :
    Calls Tryz.prog 114 #[cfgV c] w fun r w' => r = .returned (cfgV (bareF c)) ∧ Kept none' w w' := by
  refine (vc114 c w (fun v w' => v = cfgV (bareF c) ∧ Kept none' w w') ?_).mono ?_
  · unfold vcP114
    intro w1 e1 w2 e2
    have o1 := own_alloc e1
    have k1 : Kept none' w w1 := (Kept.refl _ _).al e1
    have o2 := o1.al e2
    have p2 := own_alloc e2
    have k2 : Kept none' w w2 := k1.al e2
    have z1 : w1.heap.size = w.heap.size + 1 := by rw [e1]; simp only [World.alloc, Array.size_push]
    have z2 : w2.heap.size = w.heap.size + 2 := by rw [e2]; simp only [World.alloc, Array.size_push]; omega
    clear e1 e2
    generalize hb : w.heap.size = b at *
    generalize hb2 : w1.heap.size = b2 at *
    have kb : ∀ {X : Nat → Prop} {wa wb : World}, Kept none' w wa → Kept (· = b) wa wb → Kept none' w wb := fun ka k => ka.trans k fun x hx e => by omega
    refine ⟨_, o2.rI (j := 1) (by omega), Wif_yes (okSl_of h1.1 h1.2 (Int.le_refl _)) ?_⟩
    obtain ⟨w3, c3, o3, k3⟩ := clr_cfg (t := 51) (e := 3) (s := 1) (z := .int .i64 0) (ty := 0) Tryz.underlying51 zero3' rfl o2 2 (c 1).toNat 16 (by omega) (by omega)
    refine ⟨w3, c3, ?_⟩
    have K3 := kb (X := none') k2 k3
    have p3 := p2.kx k3 (by omega)
    have e0 : clrF c (2 + (c 1).toNat * 1) ((16 - (c 1).toNat) * 1) 0 = c 0 := by unfold clrF; rw [if_neg (by omega)]
    generalize hf1 : clrF c (2 + (c 1).toNat * 1) ((16 - (c 1).toNat) * 1) = f1 at *
    refine ⟨c 0, by rw [o3.rI (j := 0) (by omega), e0], Wif_yes (okSl_of h0.1 h0.2 (Int.le_refl _)) ?_⟩
    obtain ⟨w4, c4, o4, k4⟩ := clr_cfg (t := 51) (e := 3) (s := 1) (z := .int .i64 0) (ty := 0) Tryz.underlying51 zero3' rfl o3 18 (c 0).toNat 8 (by omega) (by omega)
    refine ⟨w4, c4, ?_⟩
    have K4 := kb (X := none') K3 k4
    have p4 := p3.kx k4 (by omega)
    have e0' : clrF f1 (18 + (c 0).toNat * 1) ((8 - (c 0).toNat) * 1) 0 = c 0 := by unfold clrF; rw [if_neg (by omega), e0]
    generalize hf2 : clrF f1 (18 + (c 0).toNat * 1) ((8 - (c 0).toNat) * 1) = f2 at *
    refine ⟨fun k w' N => ∃ q : Nat, k = q ∧ q ≤ 8 ∧ N = 8 - q ∧ Kept none' w w' ∧ own w' b (cfg (rowsF c f2 q)) ∧ own w' b2 (List.replicate 94 (Value.int .i64 0)), ⟨8, 0, rfl, by omega, rfl, K4, ?_, p4⟩, ?_⟩
    · have : cfg (rowsF c f2 0) = cfg f2 := runI_ext fun j hj => by unfold rowsF; rw [if_neg (by omega)]
      rw [this]; exact o4
    rintro _ w5 _ ⟨q, rfl, hq, rfl, K5, o5, p5⟩
    have er : rowsF c f2 q 0 = c 0 := by unfold rowsF; rw [if_neg (by omega), e0']
    refine Wif_intro (fun hc => ?_) (fun hc => ?_)
    · simp only [decide_eq_true_eq] at hc
      intro w6 e6
      have K6 := K5.dr e6
      have o6 := o5.dr e6
      have p6 := p5.dr e6
      refine Wif_yes (inB_of (by omega) (by omega)) ⟨c 0, by rw [o6.rI (j := 0) (by omega), er], Wif_yes (okSl_of h0.1 h0.2 (Int.le_refl _)) ?_⟩
      obtain ⟨w7, c7, o7, k7⟩ := clr_cfg (t := 51) (e := 3) (s := 1) (z := .int .i64 0) (ty := 0) Tryz.underlying51 zero3' rfl o6 (26 + q * 8) (c 0).toNat 8 (by omega) (by omega)
      refine ⟨w7, by rw [Int.toNat_natCast]; exact c7, 8 - (q + 1), by omega, q + 1, by rw [wi (by omega)]; rfl, by omega, rfl, kb (X := none') K6 k7, ?_, p6.kx k7 (by omega)⟩
      have : cfg (clrF (rowsF c f2 q) (26 + q * 8 + (c 0).toNat * 1) ((8 - (c 0).toNat) * 1)) = cfg (rowsF c f2 (q + 1)) := runI_ext fun j hj => by
        simp only [clrF, rowsF, Nat.zero_add]
        by_cases h2 : 26 ≤ j ∧ j < 26 + 8 * q ∧ (c 0).toNat ≤ (j - 26) % 8
        · rw [if_neg (by omega), if_pos h2, if_pos (by omega)]
        · by_cases h3 : 26 + q * 8 + (c 0).toNat * 1 ≤ j ∧ j < 26 + q * 8 + (c 0).toNat * 1 + (8 - (c 0).toNat) * 1
          · rw [if_pos h3, if_pos (by omega)]
          · rw [if_neg h3, if_neg h2, if_neg (by omega)]
      rw [← this]; exact o7
    · have hq8 : q = 8 := by simp at hc; omega
      subst hq8
      refine ⟨c 0, by rw [o5.rI (j := 0) (by omega), er], Wif_yes (okSl_of h0.1 h0.2 (Int.le_refl _)) ?_⟩
      obtain ⟨w6, c6, o6, k6⟩ := clr_cfg (t := 281) (e := 28) (s := 8) (ty := 0) Tryz.underlying281 zero38 rfl o5 26 (c 0).toNat 8 (by omega) (by omega)
      have K6 := kb (X := none') K5 k6
      have p6 := p5.kx k6 (by omega)
      have hcf : cfg (clrF (rowsF c f2 8) (26 + (c 0).toNat * 8) ((8 - (c 0).toNat) * 8)) = cfg (bareF c) := runI_ext fun j hj => by
        rw [← hf2, ← hf1]
        simp only [clrF, rowsF, bareF, Nat.zero_add]
        by_cases h2 : (2 + (c 1).toNat ≤ j ∧ j < 18) ∨ (18 + (c 0).toNat ≤ j ∧ j < 26) ∨ (26 ≤ j ∧ j < 90 ∧ ((c 0).toNat ≤ (j - 26) % 8 ∨ (c 0).toNat ≤ (j - 26) / 8))
        · rw [if_pos h2]
          split
          · rfl
          split
          · rfl
          split
          · rfl
          split
          · rfl
          omega
        · rw [if_neg h2, if_neg (by omega), if_neg (by omega), if_neg (by omega), if_neg (by omega)]
      rw [hcf] at o6
      refine ⟨w6, c6, bareF c, o6.rIall, p6.wrAll 0 (by rw [runI_len]; simp), ?_⟩
      intro w7 e7
      obtain ⟨o7, k7⟩ := stAll_whole p6 e7 (by rw [runI_len]; simp)
      exact ⟨bareF c, o7.rIall, rfl, K6.trans k7 fun x hx e => by omega⟩
  · rintro e w' ⟨v, rfl, rfl, hw⟩
    exact ⟨rfl, hw⟩
end Go.Proofs.YtklmokolnakkoaaGreatDoor
