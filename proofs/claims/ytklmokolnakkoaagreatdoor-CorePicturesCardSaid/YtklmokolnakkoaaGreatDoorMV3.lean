/-
  A part of a proof that a law of this seat returns true at every input. Conditions: those in each theorem.
-/
import Derived.Test.YtklmokolnakkoaaGreatDoorB0
import Derived.Shelf.Small.Bits
import Derived.Test.YtklmokolnakkoaaGreatDoorProg
import Derived.KernelRfl
import Derived.Test.YtklmokolnakkoaaGreatDoorZ1
set_option linter.unusedVariables false
set_option maxRecDepth 100000
namespace Go.Proofs.YtklmokolnakkoaaGreatDoor
open Go Go.Eng
open Go.Value (slice pointer)
/- byre/policy.Order -/
def vcP101 (c0 : Nat → Int) (p0 p1 «local» page : Int) (w : World) (K : KV) : Prop := ∀ w', w' = w.alloc (.cells (List.toArray (runI .i64 c0 0 94)) 31) → ∀ w'_1, w'_1 = w'.alloc (.cells #[Value.int .u8 p0, Value.int .u8 p1] 192) → ∃ (x : Nat → Int), rdAll w'_1 w.heap.size 0 (runI .i64 x 0 94) ∧ ∃ (x_1 x_2 : Int), (rd w'_1 w'.heap.size 0 = some (.int .u8 x_1) ∧ rd w'_1 w'.heap.size 1 = some (.int .u8 x_2)) ∧ Calls Tryz.prog 152 #[Value.agg (List.toArray (runI .i64 x 0 94)), Value.agg #[Value.int .u8 x_1, Value.int .u8 x_2]] w'_1 fun (e : Ending) (w'_2 : World) => ∃ (b : Bool), e = .returned (.bool b) ∧ Wif (!b || decide (page < 0)) (K (.tuple #[slice none 0 0, vi 2]) w'_2) (∃ (x : Nat → Int), rdAll w'_2 w.heap.size 0 (runI .i64 x 0 94) ∧ Calls Tryz.prog 153 #[Value.agg (List.toArray (runI .i64 x 0 94)), vi «local»] w'_2 fun (e : Ending) (w'_3 : World) => ∃ (a : OA) (l c : Nat) (n : Int), e = .returned (.tuple #[slice a l c, vi n]) ∧ Wif (n != 0) (K (.tuple #[slice none 0 0, vi n]) w'_3) (∀ w'_4, w'_4 = w'_3.alloc (.cells #[Value.nilFunc] 26) → wr w'_4 w'_3.heap.size 0 ∧ ∀ w'_5, w'_5 = st w'_4 w'_3.heap.size 0 (Value.func (Fn.func 154) #[] #[pointer (some (Addr.mk w'.heap.size 0 none))]) → ∃ (x : Int), rd w'_5 w'.heap.size 0 = some (.int .u8 x) ∧ Wif (x == 1) (∀ w1, w1 = w'_5.drew → ∃ (x : Nat → Int), rdAll w1 w.heap.size 0 (runI .i64 x 0 94) ∧ ∃ (x_3 : Int), rd w1 w'.heap.size 1 = some (.int .u8 x_3) ∧ Calls Tryz.prog 156 #[Value.int .u8 x_3] w1 fun e w' => ∃ (n : Int), e = Ending.returned (vi n) ∧ (rdAll w' w.heap.size 0 (runI .i64 x 0 94) ∧ True) ∧ Calls Tryz.prog 153 #[Value.agg (List.toArray (runI .i64 x 0 94)), vi n] w' fun e w' => ∃ (a : OA) (l c : Nat) (n : Int), e = .returned (.tuple #[slice a l c, vi n]) ∧ K (.tuple #[slice a l c, vi n]) w') (Wif (x == 2) (Calls Tryz.prog 157 #[slice a l c, Value.func (Fn.func 158) #[] #[pointer (some (Addr.mk w'_3.heap.size 0 none))]] w'_5 fun e w' => ∃ (a : OA) (l c : Nat), e = .returned (slice a l c) ∧ K (.tuple #[slice a l c, vi 0]) w') (Wif (x == 3) (∀ w1, w1 = w'_5.drew → ∃ (x : Int), rd w1 w'.heap.size 1 = some (.int .u8 x) ∧ ∃ (x_3 : Value), rd w1 w'_3.heap.size 0 = some x_3 ∧ Calls Tryz.prog 159 #[Value.int .u8 x, vi page] w1 fun e w' => ∃ (a_1 : OA) (l_1 c_1 : Nat), e = .returned (slice a_1 l_1 c_1) ∧ (rd w' w'_3.heap.size 0 = some x_3 ∧ True) ∧ Calls Tryz.prog 157 #[slice a l c, x_3] w' fun e w' => ∃ (a : OA) (l c : Nat), e = .returned (slice a l c) ∧ ∃ (a_2 : OA) (l_2 c_2 : Nat) (w'_6 : World), appIs Tryz.prog #[51, 51] 51 (slice a_1 l_1 c_1) (slice a l c) (slice a_2 l_2 c_2) w' w'_6 ∧ K (.tuple #[slice a_2 l_2 c_2, vi 0]) w'_6) (K (.tuple #[slice a l c, vi 0]) w'_5)))))
theorem vc101 (c0 : Nat → Int) (p0 p1 «local» page : Int) (w : World) (K : KV) (h : vcP101 c0 p0 p1 «local» page w K) : Calls Tryz.prog 101 #[Value.agg (List.toArray (runI .i64 c0 0 94)), Value.agg #[Value.int .u8 p0, Value.int .u8 p1], vi «local», vi page] w (fun e w' => ∃ v, e = .returned v ∧ K v w') := Eng.vc_of [167, 120, 130, 61, 133, 143, 134, 91, 103, 113, 98, 99, 169, 190, 216, 197, 162, 189] 3 [] Tryz.mixes Tryz.func101 (by kernel_rfl) (by kernel_rfl) (by kernel_rfl) h
/- byre/policy.May -/
def vcP152 (c0 : Nat → Int) (p0 p1 : Int) (w : World) (K : KV) : Prop := ∀ w', w' = w.alloc (.cells (List.toArray (runI .i64 c0 0 94)) 31) → ∀ w'_1, w'_1 = w'.alloc (.cells #[Value.int .u8 p0, Value.int .u8 p1] 192) → ∀ w1, w1 = w'_1.drew → ∃ (x : Nat → Int), rdAll w1 w.heap.size 0 (runI .i64 x 0 94) ∧ Calls Tryz.prog 32 #[Value.agg (List.toArray (runI .i64 x 0 94))] w1 fun (e : Ending) (w'_2 : World) => ∃ (b : Bool), e = .returned (.bool b) ∧ ∃ (x : Int), ((!b) = false → rd w'_2 w'.heap.size 1 = some (.int .u8 x)) ∧ ∃ (x_1 : Int), ((!b) = false → rd w'_2 w.heap.size 0 = some (.int .i64 x_1)) ∧ Wif (!b) (((!b) = false → rd w'_2 w.heap.size 0 = some (.int .i64 x_1) ∧ True) ∧ K (.bool false) w'_2) (Calls Tryz.prog 191 #[Value.int .u8 x] w'_2 fun (e : Ending) (w'_3 : World) => ∃ (n : Int), e = Ending.returned (vi n) ∧ ((!b) = false → rd w'_3 w.heap.size 0 = some (.int .i64 x_1) ∧ True) ∧ Wif (decide (n > x_1)) (K (.bool false) w'_3) (∃ (x : Int), rd w'_3 w'.heap.size 1 = some (.int .u8 x) ∧ Calls Tryz.prog 192 #[Value.int .u8 x] w'_3 fun (e : Ending) (w'_4 : World) => ∃ (n : Int), e = Ending.returned (vi n) ∧ ∃ (x : Int), rd w'_4 w'.heap.size 0 = some (.int .u8 x) ∧ Wif (x == 0) (K (.bool (n == 0)) w'_4) (Wif (x == 1) (K (.bool (n == 1)) w'_4) (Wif (x == 2) (Wif (x == 2) (K (.bool (decide (n > 0))) w'_4) (K (.bool false) w'_4)) (Wif (x == 3) (K (.bool (decide (n > 0))) w'_4) (K (.bool false) w'_4))))))
theorem vc152 (c0 : Nat → Int) (p0 p1 : Int) (w : World) (K : KV) (h : vcP152 c0 p0 p1 w K) : Calls Tryz.prog 152 #[Value.agg (List.toArray (runI .i64 c0 0 94)), Value.agg #[Value.int .u8 p0, Value.int .u8 p1]] w (fun e w' => ∃ v, e = .returned v ∧ K v w') := Eng.vc_of [167, 120, 130, 61, 133, 143, 134, 91, 103, 113, 98, 99, 169, 190, 216, 197, 162, 189] 3 [] Tryz.mixes Tryz.func152 (by kernel_rfl) (by kernel_rfl) (by kernel_rfl) h
/- byre/config.Order -/
def vcP153 (c0 : Nat → Int) (node : Int) (w : World) (K : KV) : Prop := ∀ w', w' = w.alloc (.cells (List.toArray (runI .i64 c0 0 94)) 31) → ∀ w'_1, w'_1 = w'.alloc (.cells #[vi node] 3) → ∃ (x : Nat → Int), rdAll w'_1 w.heap.size 0 (runI .i64 x 0 94) ∧ ∃ (x_1 : Int), rd w'_1 w'.heap.size 0 = some (.int .i64 x_1) ∧ Calls Tryz.prog 145 #[Value.agg (List.toArray (runI .i64 x 0 94)), vi x_1] w'_1 fun (e : Ending) (w'_2 : World) => ∃ (n n_1 : Int), e = .returned (.tuple #[vi n, vi n_1]) ∧ Wif (n_1 != 0) (K (.tuple #[slice none 0 0, vi n_1]) w'_2) (∃ (x : Int), rd w'_2 w.heap.size 0 = some (.int .i64 x) ∧ ∃ (I : OA → Nat → Nat → Int → World → Nat → Prop), (∃ (n : Nat), I none 0 0 0 w'_2 n) ∧ ∀ (a : OA) (l c : Nat) (n : Int) (w'_3 : World) (n_2 : Nat), I a l c n w'_3 n_2 → Wif (decide (n < x)) (∀ w', w' = w'_3.alloc (.cells #[vi n] 3) → ∃ (a_1 : OA) (l_1 c_1 : Nat) (w'_4 : World), appIs Tryz.prog #[51, 51] 51 (slice a l c) (slice (some (Addr.mk w'_3.heap.size 0 none)) 1 1) (slice a_1 l_1 c_1) w' w'_4 ∧ ∃ m, Nat.succ m ≤ n_2 ∧ I a_1 l_1 c_1 (IntKind.wrap .i64 (n + 1)) w'_4 m) (Calls Tryz.prog 193 #[slice a l c, Value.func (Fn.func 194) #[] #[pointer (some (Addr.mk w.heap.size 0 none)), pointer (some (Addr.mk w'.heap.size 0 none))]] w'_3 fun e w' => e = .returned (.tuple #[]) ∧ K (.tuple #[slice a l c, vi 0]) w'))
theorem vc153 (c0 : Nat → Int) (node : Int) (w : World) (K : KV) (h : vcP153 c0 node w K) : Calls Tryz.prog 153 #[Value.agg (List.toArray (runI .i64 c0 0 94)), vi node] w (fun e w' => ∃ v, e = .returned v ∧ K v w') := Eng.vc_of [167, 120, 130, 61, 133, 143, 134, 91, 103, 113, 98, 99, 169, 190, 216, 197, 162, 189] 3 [] Tryz.mixes Tryz.func153 (by kernel_rfl) (by kernel_rfl) (by kernel_rfl) h
/- slices.SortStableFunc[[]int,int] -/
def vcP193 (x : OA) (xL xC : Nat) (cmp : Value) (w : World) (K : KV) : Prop := Calls Tryz.prog 217 #[slice x xL xC, vi (↑xL : Int), cmp] w fun e w' => e = .returned (.tuple #[]) ∧ K (.tuple #[]) w'
theorem vc193 (x : OA) (xL xC : Nat) (cmp : Value) (w : World) (K : KV) (h : vcP193 x xL xC cmp w K) : Calls Tryz.prog 193 #[slice x xL xC, cmp] w (fun e w' => ∃ v, e = .returned v ∧ K v w') := Eng.vc_of [167, 120, 130, 61, 133, 143, 134, 91, 103, 113, 98, 99, 169, 190, 216, 197, 162, 189] 3 [] Tryz.mixes Tryz.func193 (by kernel_rfl) (by kernel_rfl) (by kernel_rfl) h
/- byre/config.Order$1 -/
def vcP194 (a b : Int) (c2_0 c2_1 : OA) (w : World) (K : KV) : Prop := ∀ w1, w1 = w.drew → Wif (isP c2_1) (∃ (x : Int), rd w1 (pb c2_1) (po c2_1) = some (.int .i64 x) ∧ Wif (isP c2_0) (Wif (inB x 8) (Wif (inB a 8) (∃ (x_1 : Int), rd w1 (pb c2_0) (po c2_0 + 26 + Int.toNat x * 8 + Int.toNat a * 1) = some (.int .i64 x_1) ∧ Wif (isP c2_1) (∃ (x : Int), rd w1 (pb c2_1) (po c2_1) = some (.int .i64 x) ∧ Wif (isP c2_0) (Wif (inB x 8) (Wif (inB b 8) (∃ (x_2 : Int), rd w1 (pb c2_0) (po c2_0 + 26 + Int.toNat x * 8 + Int.toNat b * 1) = some (.int .i64 x_2) ∧ K (vi (IntKind.wrap .i64 (x_1 - x_2))) w1) False) False) False) False) False) False) False) False
theorem vc194 (a b : Int) (c2_0 c2_1 : OA) (w : World) (K : KV) (h : vcP194 a b c2_0 c2_1 w K) : Calls Tryz.prog 194 #[vi a, vi b, pointer c2_0, pointer c2_1] w (fun e w' => ∃ v, e = .returned v ∧ K v w') := Eng.vc_of [167, 120, 130, 61, 133, 143, 134, 91, 103, 113, 98, 99, 169, 190, 216, 197, 162, 189] 3 [] Tryz.mixes Tryz.func194 (by kernel_rfl) (by kernel_rfl) (by kernel_rfl) h
/- slices.stableCmpFunc[int] -/
def vcP217 (data : OA) (dataL dataC : Nat) (n : Int) (cmp : Value) (w : World) (K : KV) : Prop := ∃ (I : Int → Int → World → Nat → Prop), (∃ (n : Nat), I 0 20 w n) ∧ ∀ (n_1 n_2 : Int) (w' : World) (n_3 : Nat), I n_1 n_2 w' n_3 → Wif (decide (n_2 ≤ n)) (Calls Tryz.prog 235 #[slice data dataL dataC, vi n_1, vi n_2, cmp] w' fun e w' => e = .returned (.tuple #[]) ∧ ∃ m, Nat.succ m ≤ n_3 ∧ I n_2 (IntKind.wrap .i64 (n_2 + 20)) w' m) (Calls Tryz.prog 235 #[slice data dataL dataC, vi n_1, vi n, cmp] w' fun e w' => e = .returned (.tuple #[]) ∧ ∃ (I : Int → Int → Int → World → Nat → Prop), (∃ (n : Nat), I 20 n_1 n_2 w' n) ∧ ∀ (n_4 n_5 n_6 : Int) (w' : World) (n_7 : Nat), I n_4 n_5 n_6 w' n_7 → Wif (decide (n_4 < n)) (∃ (I_1 : Int → Int → World → Nat → Prop), (∃ (n : Nat), I_1 0 (IntKind.wrap .i64 (2 * n_4)) w' n) ∧ ∀ (n_8 n_9 : Int) (w' : World) (n_10 : Nat), I_1 n_8 n_9 w' n_10 → Wif (decide (n_9 ≤ n)) (Calls Tryz.prog 236 #[slice data dataL dataC, vi n_8, vi (IntKind.wrap .i64 (n_8 + n_4)), vi n_9, cmp] w' fun e w' => e = .returned (.tuple #[]) ∧ ∃ m, Nat.succ m ≤ n_10 ∧ I_1 n_9 (IntKind.wrap .i64 (n_9 + IntKind.wrap .i64 (2 * n_4))) w' m) (Wif (decide (IntKind.wrap .i64 (n_8 + n_4) < n)) (Calls Tryz.prog 236 #[slice data dataL dataC, vi n_8, vi (IntKind.wrap .i64 (n_8 + n_4)), vi n, cmp] w' fun e w' => e = .returned (.tuple #[]) ∧ ∃ m, Nat.succ m ≤ n_7 ∧ I (IntKind.wrap .i64 (n_4 * 2)) n_8 n_9 w' m) (∃ m, Nat.succ m ≤ n_7 ∧ I (IntKind.wrap .i64 (n_4 * 2)) n_8 n_9 w' m))) (K (.tuple #[]) w'))
theorem vc217 (data : OA) (dataL dataC : Nat) (n : Int) (cmp : Value) (w : World) (K : KV) (h : vcP217 data dataL dataC n cmp w K) : Calls Tryz.prog 217 #[slice data dataL dataC, vi n, cmp] w (fun e w' => ∃ v, e = .returned v ∧ K v w') := Eng.vc_of [167, 120, 130, 61, 133, 143, 134, 91, 103, 113, 98, 99, 169, 190, 216, 197, 162, 189] 3 [] Tryz.mixes Tryz.func217 (by kernel_rfl) (by kernel_rfl) (by kernel_rfl) h
/- slices.insertionSortCmpFunc[int] -/
def vcP235 (data : OA) (dataL dataC : Nat) (a b : Int) (cmp : Value) (w : World) (K : KV) : Prop := ∃ (I : Int → World → Nat → Prop), (∃ (n : Nat), I (IntKind.wrap .i64 (a + 1)) w n) ∧ ∀ (n : Int) (w' : World) (n_1 : Nat), I n w' n_1 → Wif (decide (n < b)) (∃ (I_1 : Int → World → Nat → Prop), (∃ (n_2 : Nat), I_1 n w' n_2) ∧ ∀ (n_2 : Int) (w' : World) (n_3 : Nat), I_1 n_2 w' n_3 → ∀ w1, w1 = w'.drew → gIf (isP data) (decide (n_2 > a) = true) (gIf (inB n_2 dataL) (decide (n_2 > a) = true) (∃ (x : Int), (decide (n_2 > a) = true → rd w1 (pb data) (po data + Int.toNat n_2 * 1) = some (.int .i64 x)) ∧ gIf (isP data) (decide (n_2 > a) = true) (gIf (inB (IntKind.wrap .i64 (n_2 - 1)) dataL) (decide (n_2 > a) = true) (∃ (x_1 : Int), (decide (n_2 > a) = true → rd w1 (pb data) (po data + Int.toNat (IntKind.wrap .i64 (n_2 - 1)) * 1) = some (.int .i64 x_1)) ∧ Wif (decide (n_2 > a)) (CallsV Tryz.prog cmp [vi x, vi x_1] w1 fun e w' => ∃ (n_4 : Int), e = Ending.returned (vi n_4) ∧ Wif (decide (n_4 < 0)) (∀ w1, w1 = w'.drew → Wif (isP data) (Wif (inB (IntKind.wrap .i64 (n_2 - 1)) dataL) (∃ (x : Int), rd w1 (pb data) (po data + Int.toNat (IntKind.wrap .i64 (n_2 - 1)) * 1) = some (.int .i64 x) ∧ Wif (isP data) (Wif (inB n_2 dataL) (∃ (x_2 : Int), rd w1 (pb data) (po data + Int.toNat n_2 * 1) = some (.int .i64 x_2) ∧ Wif (isP data) (Wif (inB n_2 dataL) (wr w1 (pb data) (po data + Int.toNat n_2 * 1) ∧ ∀ w', w' = st w1 (pb data) (po data + Int.toNat n_2 * 1) (vi x) → Wif (isP data) (Wif (inB (IntKind.wrap .i64 (n_2 - 1)) dataL) (wr w' (pb data) (po data + Int.toNat (IntKind.wrap .i64 (n_2 - 1)) * 1) ∧ ∀ w'_1, w'_1 = st w' (pb data) (po data + Int.toNat (IntKind.wrap .i64 (n_2 - 1)) * 1) (vi x_2) → ∃ m, Nat.succ m ≤ n_3 ∧ I_1 (IntKind.wrap .i64 (n_2 - 1)) w'_1 m) False) False) False) False) False) False) False) False) (∃ m, Nat.succ m ≤ n_1 ∧ I (IntKind.wrap .i64 (n + 1)) w' m)) (∃ m, Nat.succ m ≤ n_1 ∧ I (IntKind.wrap .i64 (n + 1)) w1 m)))))) (K (.tuple #[]) w')
theorem vc235 (data : OA) (dataL dataC : Nat) (a b : Int) (cmp : Value) (w : World) (K : KV) (h : vcP235 data dataL dataC a b cmp w K) : Calls Tryz.prog 235 #[slice data dataL dataC, vi a, vi b, cmp] w (fun e w' => ∃ v, e = .returned v ∧ K v w') := Eng.vc_of [167, 120, 130, 61, 133, 143, 134, 91, 103, 113, 98, 99, 169, 190, 216, 197, 162, 189] 3 [2000022] Tryz.mixes Tryz.func235 (by kernel_rfl) (by kernel_rfl) (by kernel_rfl) h
end Go.Proofs.YtklmokolnakkoaaGreatDoor
namespace Go.Proofs
open Go.Shelf
theorem Tryz.mixes' : Tryz.prog.follows .mixedOrders = true := by kernel_rfl
def Tryz.len8_ren : Go.Shelf.Ren := ⟨fun | 126 => 191 | n => n, fun n => n, fun | n => n⟩
theorem Tryz.len8 : Go.Proofs.Lays.n126 Tryz.prog Tryz.len8_ren := {
  mixed := Tryz.mixes'
  f126 := Tryz.func191.trans (congrArg some (by kernel_rfl))
  t3 := Tryz.underlying3
  a3 := Tryz.isAgg3
  z3 := Tryz.sizeOf3
  v3 := Tryz.zeroValue3
  t5 := Tryz.underlying5
  a5 := Tryz.isAgg5
  z5 := Tryz.sizeOf5
  v5 := Tryz.zeroValue5
  t9 := Tryz.underlying9
  a9 := Tryz.isAgg9
  z9 := Tryz.sizeOf9
  v9 := Tryz.zeroValue9 }
def Tryz.pop8_ren : Go.Shelf.Ren := ⟨fun | 135 => 192 | n => n, fun n => n, fun | n => n⟩
theorem Tryz.pop8 : Go.Proofs.Lays.n135 Tryz.prog Tryz.pop8_ren := {
  mixed := Tryz.mixes'
  f135 := Tryz.func192.trans (congrArg some (by kernel_rfl))
  t3 := Tryz.underlying3
  a3 := Tryz.isAgg3
  z3 := Tryz.sizeOf3
  v3 := Tryz.zeroValue3
  t5 := Tryz.underlying5
  a5 := Tryz.isAgg5
  z5 := Tryz.sizeOf5
  v5 := Tryz.zeroValue5
  t9 := Tryz.underlying9
  a9 := Tryz.isAgg9
  z9 := Tryz.sizeOf9
  v9 := Tryz.zeroValue9 }
end Go.Proofs
set_option linter.unusedSimpArgs false
set_option linter.unusedVariables false
set_option maxRecDepth 100000
namespace Go.Proofs.YtklmokolnakkoaaGreatDoor
open Go Go.Eng Go.Shelf
abbrev blk (a : Option Addr) (l c : Nat) (x : Nat) : Prop := (Value.slice a l c).ownBlock = some x
theorem RowI.put {w w' : World} {base : Nat} {a : Option Addr} {l c : Nat} {xs : List Int} (h : RowI w base a l c xs) {j : Nat} (hj : j < xs.length) {v : Int} (e : w' = st w (pb a) (po a + j) (vi v)) : RowI w' base a l c (xs.set j v) ∧ Kept (blk a l c) w w' ∧ wr w (pb a) (po a + j) := by
  obtain ⟨hl, h⟩ := h
  rcases ownsRow_own h with ⟨_, hh⟩
  rcases h.2 with ⟨_, h0⟩ | ⟨g, cap, cur, hv, hb, hg, hnc, hm, hsz, htk⟩
  · omega
  · cases hv
    have e : w' = w.setCell ⟨g, j, none⟩ (vi v) := by
      rw [e]
      show st w g (0 + j) (vi v) = _
      rw [Nat.zero_add]
      rfl
    obtain ⟨h1, h2⟩ := h.stored j (vi v)
    rw [← e] at h1 h2
    refine ⟨⟨by rw [List.length_set]; exact hl, by rw [List.map_set]; exact h1⟩, (Kept.grownBy h2).mono fun b _ h => by simpa [blk, Value.ownBlock] using h, ?_⟩
    show wr w g (0 + j)
    rw [Nat.zero_add]
    refine ⟨⟨cur[j]'(by omega), ?_⟩, by simp [World.frozen?, hg]⟩
    rw [rd_def, hg]
    simp
theorem callsV_mono {P : Program} {v : Value} {vs : List Value} {w : World} {R R' : Ending → World → Prop} (h : CallsV P v vs w R) (hR : ∀ e w', R e w' → R' e w') : CallsV P v vs w R' := by
  obtain ⟨f, a, c, h1, h2, h3⟩ := h
  exact CallsV.mk f a c h1 h2 (h3.mono hR)
theorem mem_set' {xs : List Int} {j : Nat} {v x : Int} (h : x ∈ xs.set j v) : x ∈ xs ∨ x = v := List.mem_or_eq_of_mem_set h
theorem ins_spec {n : Int} {w : World} {base : Nat} {a : Option Addr} {l c : Nat} {xs : List Int} {cmp : Value} (h : RowI w base a l c xs) (hl : xs.length ≤ 1000) (hr : ∀ x ∈ xs, 0 ≤ x ∧ x < n)
    (hc : ∀ (W : World) (x y : Int), Kept (blk a l c) w W → (0 ≤ x ∧ x < n) → (0 ≤ y ∧ y < n) → CallsV Tryz.prog cmp [vi x, vi y] W fun e w' => ∃ m : Int, e = .returned (vi m) ∧ Kept none' W w') :
    Calls Tryz.prog 235 #[.slice a l c, vi 0, vi l, cmp] w fun e w' => e = .returned (.tuple #[]) ∧ Kept (blk a l c) w w' ∧ ∃ xs', xs'.length = xs.length ∧ (∀ x ∈ xs', 0 ≤ x ∧ x < n) ∧ RowI w' base a l c xs' := by
  refine (vc235 a l c 0 l cmp w (fun v w' => v = .tuple #[] ∧ Kept (blk a l c) w w' ∧ ∃ xs', xs'.length = xs.length ∧ (∀ x ∈ xs', 0 ≤ x ∧ x < n) ∧ RowI w' base a l c xs') ?_).mono ?_
  rotate_left
  · rintro e w' ⟨v, rfl, rfl, h⟩
    exact ⟨rfl, h⟩
  have hlen := h.1
  unfold vcP235
  refine ⟨fun k W N => ∃ q : Nat, k = q ∧ 1 ≤ q ∧ N = l - q ∧ Kept (blk a l c) w W ∧ ∃ xs', xs'.length = xs.length ∧ (∀ x ∈ xs', 0 ≤ x ∧ x < n) ∧ RowI W base a l c xs', ⟨l - 1, 1, rfl, Nat.le_refl _, rfl, Kept.refl _ _, xs, rfl, hr, h⟩, ?_⟩
  rintro _ w1 _ ⟨q, rfl, hq, rfl, k1, ys, hy, hyr, R1⟩
  refine Wif_intro (fun hc1 => ?_) (fun hc1 => ⟨rfl, k1, ys, hy, hyr, R1⟩)
  have hql : q < l := by simp at hc1; omega
  refine ⟨fun k W N => ∃ j : Nat, k = j ∧ j ≤ q ∧ j = N ∧ Kept (blk a l c) w W ∧ ∃ xs', xs'.length = xs.length ∧ (∀ x ∈ xs', 0 ≤ x ∧ x < n) ∧ RowI W base a l c xs', ⟨q, q, rfl, Nat.le_refl _, rfl, k1, ys, hy, hyr, R1⟩, ?_⟩
  clear R1 hyr hy k1 ys
  rintro _ w2 _ ⟨j, rfl, hj, rfl, k2, ys, hy, hyr, R2⟩
  intro w3 e3
  have d3 : Kept none' w2 w3 := (Kept.refl _ _).dr e3
  have k3 : Kept (blk a l c) w w3 := k2.trans d3 fun _ _ e => e.elim
  have R3 := R2.k d3
  clear e3
  by_cases hj0 : j = 0
  · subst hj0
    exact gIf_intro (fun e => by simp at e) (gIf_intro (fun e => by simp at e) ⟨0, (fun e => by simp at e), gIf_intro (fun e => by simp at e) (gIf_intro (fun e => by simp at e) ⟨0, (fun e => by simp at e), Wif_no (by simp) ⟨l - (q + 1), by omega, q + 1, by rw [wi (by omega)]; rfl, by omega, rfl, k3, ys, hy, hyr, R3⟩⟩)⟩)
  obtain ⟨x, hx⟩ : ∃ x, ys[j]? = some x := ⟨_, List.getElem?_eq_getElem (by omega)⟩
  obtain ⟨y, hyj⟩ : ∃ y, ys[j - 1]? = some y := ⟨_, List.getElem?_eq_getElem (by omega)⟩
  have hp := (R3.rd hx).1
  have rx : ∀ {W : World}, RowI W base a l c ys → rd W (pb a) (po a + Int.toNat (j : Int) * 1) = some (vi x) := fun R => (R.rd hx).2
  have ry : ∀ {W : World}, RowI W base a l c ys → rd W (pb a) (po a + Int.toNat ((j - 1 : Nat) : Int) * 1) = some (vi y) := fun R => (R.rd hyj).2
  have ew : IntKind.wrap .i64 ((j : Int) - 1) = ((j - 1 : Nat) : Int) := by rw [wi (by omega)]; omega
  rw [ew]
  refine gIf_intro (fun _ => hp) (gIf_intro (fun _ => inB_of (by omega) (by omega)) ⟨x, (fun _ => rx R3), gIf_intro (fun _ => hp) (gIf_intro (fun _ => inB_of (by omega) (by omega)) ⟨y, (fun _ => ry R3), Wif_yes (by simp; omega) (callsV_mono (hc w3 x y k3 (hyr x (List.mem_of_getElem? hx)) (hyr y (List.mem_of_getElem? hyj))) ?_)⟩)⟩)
  rintro _ w4 ⟨m, rfl, k4⟩
  have R4 := R3.k k4
  have K4 : Kept (blk a l c) w w4 := k3.trans k4 fun _ _ e => e.elim
  refine ⟨m, rfl, Wif_intro (fun hm => ?_) (fun hm => ⟨l - (q + 1), by omega, q + 1, by rw [wi (by omega)]; rfl, by omega, rfl, K4, ys, hy, hyr, R4⟩)⟩
  intro w5 e5
  have d5 : Kept none' w4 w5 := (Kept.refl _ _).dr e5
  have R5 := R4.k d5
  clear e5
  refine Wif_yes hp (Wif_yes (inB_of (by omega) (by omega)) ⟨y, ry R5, Wif_yes hp (Wif_yes (inB_of (by omega) (by omega)) ⟨x, rx R5, Wif_yes hp (Wif_yes (inB_of (by omega) (by omega)) ⟨?_, fun w6 e6 => ?_⟩)⟩)⟩)
  · rw [Int.toNat_natCast, Nat.mul_one]
    exact (R5.put (j := j) (v := y) (by omega) rfl).2.2
  rw [Int.toNat_natCast, Nat.mul_one] at e6
  obtain ⟨R6, k6, _⟩ := R5.put (by omega) e6
  refine Wif_yes hp (Wif_yes (inB_of (by omega) (by omega)) ⟨?_, fun w7 e7 => ?_⟩)
  · rw [Int.toNat_natCast, Nat.mul_one]
    exact (R6.put (j := j - 1) (v := x) (by rw [List.length_set]; omega) rfl).2.2
  rw [Int.toNat_natCast, Nat.mul_one] at e7
  obtain ⟨R7, k7, _⟩ := R6.put (by rw [List.length_set]; omega) e7
  refine ⟨j - 1, by omega, j - 1, rfl, by omega, rfl, ((K4.trans d5 fun _ _ e => e.elim).trans k6 fun _ _ e => e).trans k7 fun _ _ e => e, _, by rw [List.length_set, List.length_set]; exact hy, fun z hz => ?_, R7⟩
  rcases mem_set' hz with hz | rfl
  · rcases mem_set' hz with hz | rfl
    · exact hyr z hz
    · exact hyr z (List.mem_of_getElem? hyj)
  · exact hyr z (List.mem_of_getElem? hx)
theorem stable_spec {n : Int} {w : World} {base : Nat} {a : Option Addr} {l c : Nat} {xs : List Int} {cmp : Value} (h : RowI w base a l c xs) (hl : xs.length ≤ 8) (hr : ∀ x ∈ xs, 0 ≤ x ∧ x < n)
    (hc : ∀ (W : World) (x y : Int), Kept (blk a l c) w W → (0 ≤ x ∧ x < n) → (0 ≤ y ∧ y < n) → CallsV Tryz.prog cmp [vi x, vi y] W fun e w' => ∃ m : Int, e = .returned (vi m) ∧ Kept none' W w') :
    Calls Tryz.prog 193 #[.slice a l c, cmp] w fun e w' => e = .returned (.tuple #[]) ∧ Kept (blk a l c) w w' ∧ ∃ xs', xs'.length = xs.length ∧ (∀ x ∈ xs', 0 ≤ x ∧ x < n) ∧ RowI w' base a l c xs' := by
  have hlen := h.1
  refine (vc193 a l c cmp w (fun v w' => v = .tuple #[] ∧ Kept (blk a l c) w w' ∧ ∃ xs', xs'.length = xs.length ∧ (∀ x ∈ xs', 0 ≤ x ∧ x < n) ∧ RowI w' base a l c xs') ?_).mono ?_
  rotate_left
  · rintro e w' ⟨v, rfl, rfl, h⟩
    exact ⟨rfl, h⟩
  unfold vcP193
  refine (vc217 a l c l cmp w (fun v w' => v = .tuple #[] ∧ Kept (blk a l c) w w' ∧ ∃ xs', xs'.length = xs.length ∧ (∀ x ∈ xs', 0 ≤ x ∧ x < n) ∧ RowI w' base a l c xs') ?_).mono ?_
  · unfold vcP217
    refine ⟨fun x y W _ => x = 0 ∧ y = 20 ∧ W = w, ⟨0, rfl, rfl, rfl⟩, ?_⟩
    rintro _ _ w1 _ ⟨rfl, rfl, hw⟩
    rw [hw]
    refine Wif_no (by simp; omega) ((ins_spec h (by omega) hr hc).mono ?_)
    rintro _ w2 ⟨rfl, hk⟩
    refine ⟨rfl, fun x _ _ W _ => x = 20 ∧ W = w2, ⟨0, rfl, rfl⟩, ?_⟩
    rintro _ _ _ w3 _ ⟨rfl, hw⟩
    rw [hw]
    exact Wif_no (by simp; omega) ⟨rfl, hk⟩
  · rintro e w' ⟨v, rfl, rfl, h⟩
    exact ⟨rfl, rfl, h⟩
theorem order_cmp {c : Nat → Int} (hm : MayP c) {W : World} {b1 b2 : Nat} {nd : Int} (h1 : own W b1 (cfg c)) (h2 : own W b2 [vi nd]) (hn : 0 ≤ nd ∧ nd < c 0) {x y : Int} (hx : 0 ≤ x ∧ x < c 0) (hy : 0 ≤ y ∧ y < c 0) :
    CallsV Tryz.prog (.func (.func 194) #[] #[ptr b1, ptr b2]) [vi x, vi y] W fun e w' => ∃ m : Int, e = .returned (vi m) ∧ Kept none' W w' := by
  refine CallsV.mk _ #[] #[_, _] rfl (by kernel_rfl) ?_
  have h8 := hm.1
  refine (vc194 x y (some ⟨b1, 0, none⟩) (some ⟨b2, 0, none⟩) W (fun v w' => ∃ m : Int, v = vi m ∧ Kept none' W w') ?_).mono ?_
  · unfold vcP194
    intro w1 e1
    have k1 : Kept none' W w1 := (Kept.refl _ _).dr e1
    have r2 : rd w1 b2 0 = some (vi nd) := by rw [(h2.k k1).rd]; rfl
    obtain ⟨q, rfl⟩ : ∃ q : Nat, nd = q := ⟨nd.toNat, by omega⟩
    have rc : ∀ z : Int, 0 ≤ z ∧ z < c 0 → ∃ v : Int, rd w1 b1 (0 + 26 + Int.toNat (q : Int) * 8 + Int.toNat z * 1) = some (vi v) := fun z hz => by
      obtain ⟨t, rfl⟩ : ∃ t : Nat, z = t := ⟨z.toNat, by omega⟩
      exact ⟨_, (h1.k k1).rI (by omega)⟩
    obtain ⟨v1, r1⟩ := rc x hx
    obtain ⟨v2, r3⟩ := rc y hy
    exact Wif_yes rfl ⟨_, r2, Wif_yes rfl (Wif_yes (inB_of (by omega) (by omega)) (Wif_yes (inB_of (by omega) (by omega)) ⟨_, r1, Wif_yes rfl ⟨_, r2, Wif_yes rfl (Wif_yes (inB_of (by omega) (by omega)) (Wif_yes (inB_of (by omega) (by omega)) ⟨_, r3, _, rfl, k1⟩))⟩⟩))⟩
  · rintro e w' ⟨v, rfl, m, rfl, h⟩
    exact ⟨m, rfl, h⟩
theorem order_spec (c : Nat → Int) (hm : MayP c) (w : World) (i : Nat) (hi : (i : Int) < c 0) :
    Calls Tryz.prog 153 #[cfgV c, vi i] w fun e w' => ∃ a l cp xs, e = .returned (.tuple #[.slice a l cp, vi 0]) ∧ Kept none' w w' ∧ RowI w' w.heap.size a l cp xs ∧ xs.length ≤ 8 := by
  refine (vc153 c i w (fun v w' => ∃ a l cp xs, v = (.tuple #[.slice a l cp, vi 0]) ∧ Kept none' w w' ∧ RowI w' w.heap.size a l cp xs ∧ xs.length ≤ 8) ?_).mono ?_
  rotate_left
  · rintro e w' ⟨v, rfl, a, l, cp, xs, rfl, h⟩
    exact ⟨a, l, cp, xs, rfl, h⟩
  have h8 := hm.1
  unfold vcP153
  intro w1 e1 w2 e2
  have o1 := own_alloc e1
  have p1 := o1.al e2
  have o2 : own w2 w1.heap.size [vi i] := own_alloc e2
  have K2 : Kept none' w w2 := ((Kept.refl _ _).al e1).al e2
  have hs1 := o1.lt
  have hs2 := o2.lt
  clear e1 e2 o1
  generalize hb0 : w.heap.size = b0 at *
  generalize hb1 : w1.heap.size = b1 at *
  refine ⟨c, p1.rIall, _, by rw [o2.rd]; rfl, (first_spec c hm w2 i hi).mono ?_⟩
  rintro _ w3 ⟨rfl, k3⟩
  have p3 := p1.k k3
  have o3 := o2.k k3
  have hs3 := k3.sz
  refine ⟨_, _, rfl, Wif_no rfl ⟨c 0, p3.rI (by omega), ?_⟩⟩
  obtain ⟨n, hn⟩ : ∃ n : Nat, c 0 = n := ⟨(c 0).toNat, by omega⟩
  refine ⟨fun a l cp q W N => ∃ j : Nat, q = j ∧ j ≤ n ∧ N = n - j ∧ Kept none' w3 W ∧ RowI W w3.heap.size a l cp ((List.range j).map fun t : Nat => (t : Int)), ⟨n, 0, rfl, Nat.zero_le _, rfl, Kept.refl _ _, RowI.nil'⟩, ?_⟩
  rintro a l cp _ w4 _ ⟨j, rfl, hj, rfl, k4, R4⟩
  refine Wif_intro (fun hc => ?_) (fun hc => ?_)
  · have hjn : j < n := by simp at hc; omega
    intro w5 e5
    have x5 := own_alloc (c := [vi (j : Int)]) e5
    have k5 : Kept none' w4 w5 := (Kept.refl _ _).al e5
    obtain ⟨a', l', c', w6, happ, R6, k6⟩ := (R4.k k5).app (a2 := some ⟨w4.heap.size, 0, none⟩) (l2 := 1) (c2 := 1) (ys := [(j : Int)]) (Eng.Src.of_own (off := 0) x5 fun t u h => by simpa using h) rfl (by have := k4.sz; have := k5.sz; omega) (by simp; omega)
    refine ⟨a', l', c', w6, happ, n - (j + 1), by omega, j + 1, by rw [wi (by omega)]; rfl, hjn, rfl, own0 (k4.tr k5) k6 fun x e => (R4.lt e).1, ?_⟩
    rw [List.range_succ, List.map_append]
    exact R6
  · have : j = n := by simp at hc; omega
    subst this
    have hlt : ∀ x, blk a l cp x → w3.heap.size ≤ x := fun x e => (R4.lt e).1
    refine (stable_spec (n := c 0) R4 (by simp; omega) (fun x hx => ?_) fun W x y hk hx hy => ?_).mono ?_
    · simp at hx
      omega
    · have k : Kept none' w3 W := own0 k4 hk hlt
      exact order_cmp hm (p3.k k) (o3.k k) (by omega) hx hy
    · rintro _ w5 ⟨rfl, k5, ys, hy, _, R5⟩
      exact ⟨rfl, a, l, cp, ys, rfl, (K2.tr k3).tr (own0 k4 k5 hlt), R5.weak (by omega), by rw [hy]; simp; omega⟩
theorem pmay_spec (c : Nat → Int) (hm : MayP c) (w : World) : Calls Tryz.prog 152 #[cfgV c, .agg #[.int .u8 0, .int .u8 0]] w fun e w' => e = .returned (.bool true) ∧ Kept none' w w' := by
  refine (vc152 c 0 0 w (fun v w' => v = .bool true ∧ Kept none' w w') ?_).mono ?_
  rotate_left
  · rintro e w' ⟨v, rfl, rfl, h⟩
    exact ⟨rfl, h⟩
  have h8 := hm.1
  unfold vcP152
  intro w1 e1 w2 e2 w3 e3
  have p2 := (own_alloc e1).al e2
  have o2 : own w2 w1.heap.size [.int .u8 0, .int .u8 0] := own_alloc e2
  have K3 : Kept none' w w3 := (((Kept.refl _ _).al e1).al e2).dr e3
  have p3 := p2.dr e3
  have o3 := o2.dr e3
  refine ⟨c, p3.rIall, (may_spec c w3).mono ?_⟩
  rintro _ w4 ⟨b, rfl, hb, k4⟩
  have : b = true := hb.2 hm
  subst this
  obtain ⟨r0, r1⟩ := rd2 (o3.k k4)
  have rc := (p3.k k4).rI (j := 0) (by omega)
  refine ⟨true, rfl, 0, (fun _ => r1), c 0, (fun _ => rc), Wif_no rfl ((Any.bits_Len8 (ρ := Tryz.len8_ren) Tryz.len8 0 w4 (by omega) (by omega)).mono ?_)⟩
  rintro _ wx ⟨rfl, hx⟩
  rw [hx]
  clear hx
  refine ⟨_, rfl, (fun _ => ⟨rc, trivial⟩), Wif_no (by have : ((Lib.bitLen (Int.toNat 0) : Nat) : Int) = 0 := by decide
                                                       rw [this]; simp; omega) ⟨0, r1, (Any.bits_OnesCount8 (ρ := Tryz.pop8_ren) Tryz.pop8 0 w4 (by omega) (by omega)).mono ?_⟩⟩
  rintro _ wx ⟨rfl, hx⟩
  rw [hx]
  refine ⟨_, rfl, 0, r0, Wif_yes rfl ⟨?_, K3.tr k4⟩⟩
  have : ((Lib.onesCount (Int.toNat 0) : Nat) : Int) = 0 := by decide
  rw [this]
  rfl
theorem porder_spec (c : Nat → Int) (hm : MayP c) (w : World) (i : Nat) (hi : (i : Int) < c 0) {page : Int} (hp : 0 ≤ page) :
    Calls Tryz.prog 101 #[cfgV c, .agg #[.int .u8 0, .int .u8 0], vi i, vi page] w fun e w' => ∃ a l cp xs, e = .returned (.tuple #[.slice a l cp, vi 0]) ∧ Kept none' w w' ∧ RowI w' w.heap.size a l cp xs ∧ xs.length ≤ 8 := by
  refine (vc101 c 0 0 i page w (fun v w' => ∃ a l cp xs, v = (.tuple #[.slice a l cp, vi 0]) ∧ Kept none' w w' ∧ RowI w' w.heap.size a l cp xs ∧ xs.length ≤ 8) ?_).mono ?_
  rotate_left
  · rintro e w' ⟨v, rfl, a, l, cp, xs, rfl, h⟩
    exact ⟨a, l, cp, xs, rfl, h⟩
  unfold vcP101
  intro w1 e1 w2 e2
  have p2 := (own_alloc e1).al e2
  have o2 : own w2 w1.heap.size [.int .u8 0, .int .u8 0] := own_alloc e2
  have K2 : Kept none' w w2 := ((Kept.refl _ _).al e1).al e2
  clear e1 e2
  generalize hb1 : w1.heap.size = b1 at *
  refine ⟨c, p2.rIall, 0, 0, rd2 o2, (pmay_spec c hm w2).mono ?_⟩
  rintro _ w3 ⟨rfl, k3⟩
  have p3 := p2.k k3
  have o3 := o2.k k3
  refine ⟨true, rfl, Wif_no (by simp; omega) ⟨c, p3.rIall, (order_spec c hm w3 i hi).mono ?_⟩⟩
  rintro _ w4 ⟨a, l, cp, xs, rfl, k4, R4, hx⟩
  refine ⟨a, l, cp, 0, rfl, Wif_no rfl fun w5 e5 => ?_⟩
  have x5 := own_alloc (c := [Value.nilFunc]) e5
  have k5 : Kept none' w4 w5 := (Kept.refl _ _).al e5
  refine ⟨x5.wr (by decide), fun w6 e6 => ?_⟩
  have k6 : Kept none' w4 w6 := own0 k5 ((Kept.refl (· = w4.heap.size) _).s1 e6 (.inl rfl)) fun x e => by omega
  have o6 := (o3.k k4).k k6
  have hs := (K2.tr k3).sz
  exact ⟨0, (rd2 o6).1, Wif_no rfl (Wif_no rfl (Wif_no rfl ⟨a, l, cp, xs, rfl, ((K2.tr k3).tr k4).tr k6, (R4.k k6).weak hs, hx⟩))⟩
theorem policy_spec {w : World} {k b : Nat} {S : Mach} {fp : Prt → Nat → Prop} (h : CoreAt w k S fp) (hb : S.sp 1 = some b) (page : Int) : Calls Tryz.prog 102 #[ptr k, vi 1, vi page] w fun e w' => e = .returned (.agg #[.int .u8 0, .int .u8 0]) ∧ Kept none' w w' := by
  refine (vc102 _ 1 page w (fun v w' => v = .agg #[.int .u8 0, .int .u8 0] ∧ Kept none' w w') ?_).mono ?_
  rotate_left
  · rintro e w' ⟨v, rfl, rfl, h⟩
    exact ⟨rfl, h⟩
  unfold vcP102
  intro w1 e1
  have o1 : own w1 w.heap.size [.int .u8 0, .int .u8 0] := own_alloc e1
  have k1 : Kept none' w w1 := (Kept.refl _ _).al e1
  have C1 := h.k k1
  have r1 : rd w1 k (0 + 105 + Int.toNat 1 * 1) = some (ptr b) := by
    have := C1.rt (j := 12) (v := spV (S.sp 1)) rfl
    rw [hb] at this
    exact this
  have SP : SpaceAt w1 (fp (.space 1)) b (S.root 1) := C1.at' (.space 1) b hb
  obtain ⟨ab, pb', wb, mb, a1, _, _, _, M, _⟩ := SP.ex
  refine gIf_intro (fun _ => rfl) (gIf_intro (fun _ => rfl) ⟨_, (fun _ => r1), Wif_no rfl (Wif_yes rfl (Wif_yes rfl ⟨_, r1, Wif_yes rfl ⟨some mb, by show rd w1 b (0 + 5) = _; rw [a1.rd]; rfl, 0, 0, false, ?_, fun w2 e2 => ?_⟩⟩))⟩)
  · have := look2 (P := Tryz.prog) (mt := 197) (vt := 192) (kt := 3) Tryz.underlying197 Tryz.underlying3 M page (Tryz.zeroValue192 w1)
    exact this
  have o2 : own w2 w1.heap.size [.int .u8 0, .int .u8 0] := own_alloc e2
  have k2 : Kept none' w1 w2 := (Kept.refl _ _).al e2
  refine ⟨wr2 o2, fun w3 e3 => ?_⟩
  have k3 : Kept none' w1 w3 := own0 k2 (st2w o2 e3).2 fun x e => by omega
  have a3 := a1.k k3
  have o3 := o1.k k3
  refine Wif_no rfl (Wif_yes rfl ⟨0, 0, ⟨by show rd w3 b (0 + 3) = _; rw [a3.rd]; rfl, by show rd w3 b (0 + 4) = _; rw [a3.rd]; rfl⟩, wr2 o3, fun w4 e4 => ?_⟩)
  obtain ⟨o4, k4⟩ := st2w o3 e4
  exact ⟨0, 0, rd2 o4, rfl, own0 (k1.tr k3) k4 fun x e => by omega⟩
theorem nodes_spec {w : World} {k b : Nat} {S : Mach} {fp : Prt → Nat → Prop} (h : CoreAt w k S fp) (hb : S.sp 1 = some b) {page : Int} (hp : 0 ≤ page) :
    Calls Tryz.prog 24 #[ptr k, vi 0, vi 1, vi page] w fun e w' => ∃ a l cp xs, e = .returned (.slice a l cp) ∧ Kept none' w w' ∧ RowI w' w.heap.size a l cp xs ∧ xs.length ≤ 8 := by
  refine (vc24 _ 0 1 page w (fun v w' => ∃ a l cp xs, v = (.slice a l cp) ∧ Kept none' w w' ∧ RowI w' w.heap.size a l cp xs ∧ xs.length ≤ 8) ?_).mono ?_
  rotate_left
  · rintro e w' ⟨v, rfl, a, l, cp, xs, rfl, h⟩
    exact ⟨a, l, cp, xs, rfl, h⟩
  have hm := h.my
  have h1 := hm.2.1
  have hh := hm.2.2.2.2.1 0 (by omega)
  obtain ⟨i, hi⟩ : ∃ i : Nat, S.c 2 = i := ⟨(S.c 2).toNat, by have := hh.1; simp at this; omega⟩
  have hin : (i : Int) < S.c 0 := by have := hh.2; simp at this; omega
  unfold vcP24
  refine Wif_no rfl (gIf_intro (fun _ => rfl) ⟨S.c 1, (fun _ => by show rd w k (0 + 1) = _; exact h.rc (by omega)), Wif_yes (by simp; omega) (Wif_yes rfl (Wif_yes rfl ⟨S.c 2, by show rd w k (0 + 2 + 0 * 1) = _; exact h.rc (by omega), fun w1 e1 => ?_⟩))⟩)
  have k1 : Kept none' w w1 := (Kept.refl _ _).dr e1
  have C1 := h.k k1
  refine Wif_yes rfl ⟨S.c, C1.rcfg, (policy_spec C1 hb page).mono ?_⟩
  rintro _ w2 ⟨rfl, k2⟩
  refine ⟨0, 0, rfl, ⟨(C1.k k2).rcfg, trivial⟩, ?_⟩
  rw [hi]
  refine (porder_spec S.c hm w2 i hin hp).mono ?_
  rintro _ w3 ⟨a, l, cp, xs, rfl, k3, R, hx⟩
  exact ⟨a, l, cp, 0, rfl, a, l, cp, xs, rfl, (k1.tr k2).tr k3, R.weak (k1.tr k2).sz, hx⟩
end Go.Proofs.YtklmokolnakkoaaGreatDoor
