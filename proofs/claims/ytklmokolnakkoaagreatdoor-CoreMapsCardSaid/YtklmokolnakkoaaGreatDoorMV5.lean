/-
  A part of a proof that a law of this seat returns true at every input. Conditions: those in each theorem.
-/
import Derived.Test.YtklmokolnakkoaaGreatDoorB0
import Derived.Test.YtklmokolnakkoaaGreatDoorMV7
set_option linter.unusedVariables false
set_option maxRecDepth 100000
namespace Go.Proofs.YtklmokolnakkoaaGreatDoor
open Go Go.Eng
open Go.Value (slice pointer)
/- byre/byrelaw21.even -/
def vcP27 (k : OA) (w : World) (K : KV) : Prop := Calls Tryz.prog 19 #[pointer k] w fun e w' => ∃ (f : Nat → Int) (a : OA) (l c : Nat) (a_1 : OA) (l_1 c_1 : Nat) (a_2 : OA) (l_2 c_2 : Nat) (a_3 : OA) (l_3 c_3 : Nat) (a_4 : OA) (l_4 c_4 : Nat) (a_5 : OA) (l_5 c_5 : Nat) (a_6 : OA) (l_6 c_6 : Nat) (a_7 : OA) (l_7 c_7 : Nat) (a_8 : OA) (l_8 c_8 : Nat) (a_9 : OA) (l_9 c_9 : Nat) (a_10 : OA) (l_10 c_10 : Nat) (a_11 : OA) (l_11 c_11 : Nat) (a_12 : OA) (l_12 c_12 : Nat), e = .returned (.agg (List.toArray (runI .i64 f 0 94 ++ [slice a l c, slice a_1 l_1 c_1, slice a_2 l_2 c_2, slice a_3 l_3 c_3, slice a_4 l_4 c_4, slice a_5 l_5 c_5, slice a_6 l_6 c_6, slice a_7 l_7 c_7, slice a_8 l_8 c_8, slice a_9 l_9 c_9, slice a_10 l_10 c_10, slice a_11 l_11 c_11, slice a_12 l_12 c_12]))) ∧ ∀ w'_1, w'_1 = w'.alloc (.cells (List.toArray (List.replicate 94 (vi 0) ++ List.replicate 13 (slice none 0 0))) 68) → wrAll w'_1 w'.heap.size 0 (runI .i64 f 0 94 ++ [slice a l c, slice a_1 l_1 c_1, slice a_2 l_2 c_2, slice a_3 l_3 c_3, slice a_4 l_4 c_4, slice a_5 l_5 c_5, slice a_6 l_6 c_6, slice a_7 l_7 c_7, slice a_8 l_8 c_8, slice a_9 l_9 c_9, slice a_10 l_10 c_10, slice a_11 l_11 c_11, slice a_12 l_12 c_12]) ∧ ∀ w'_2, w'_2 = stAll w'_1 w'.heap.size 0 (runI .i64 f 0 94 ++ [slice a l c, slice a_1 l_1 c_1, slice a_2 l_2 c_2, slice a_3 l_3 c_3, slice a_4 l_4 c_4, slice a_5 l_5 c_5, slice a_6 l_6 c_6, slice a_7 l_7 c_7, slice a_8 l_8 c_8, slice a_9 l_9 c_9, slice a_10 l_10 c_10, slice a_11 l_11 c_11, slice a_12 l_12 c_12]) → ∃ (x : OA) (x_1 x_2 : Nat), rd w'_2 w'.heap.size 99 = some (.slice x x_1 x_2) ∧ Wif ((↑x_1 : Int) != 1) (K (.bool false) w'_2) (∀ w'_3, w'_3 = w'_2.alloc (.map #[] 0) → ∃ (x : OA) (x_3 x_4 : Nat), rd w'_3 w'.heap.size 99 = some (.slice x x_3 x_4) ∧ Wif (isP x) (Wif (inB 0 x_3) (∃ (x_5 : OA) (x_6 x_7 : Nat), rd w'_3 (pb x) (po x + 3) = some (.slice x_5 x_6 x_7) ∧ ∃ (I : Bool → Int → World → Nat → Prop), (∃ (n : Nat), I false 0 w'_3 n) ∧ ∀ (b : Bool) (n : Int) (w'_4 : World) (n_1 : Nat), I b n w'_4 n_1 → Wif (decide (n < (↑x_6 : Int))) (Wif (isP x_5) (Wif (inB n x_6) (∃ (x x_8 x_9 : Int), (rd w'_4 (pb x_5) (po x_5 + Int.toNat n * 3) = some (.int .i64 x) ∧ rd w'_4 (pb x_5) (po x_5 + Int.toNat n * 3 + 1) = some (.int .u8 x_8) ∧ rd w'_4 (pb x_5) (po x_5 + Int.toNat n * 3 + 2) = some (.int .i64 x_9)) ∧ ∀ w'_5, w'_5 = w'_4.alloc (.cells #[vi 0, Value.int .u8 0, vi 0] 96) → (wr w'_5 w'_4.heap.size 0 ∧ wr w'_5 w'_4.heap.size 1 ∧ wr w'_5 w'_4.heap.size 2) ∧ ∀ w'_6, w'_6 = st (st (st w'_5 w'_4.heap.size 0 (vi x)) w'_4.heap.size 1 (Value.int .u8 x_8)) w'_4.heap.size 2 (vi x_9) → ∀ w1, w1 = w'_6.drew → ∃ (x : Int), rd w1 w'_4.heap.size 1 = some (.int .u8 x) ∧ ∃ (x_10 : Int), ((x != 1) = false → rd w1 w'_4.heap.size 2 = some (.int .i64 x_10)) ∧ ∃ (x_11 : Int), ((x != 1 || decide (x_10 < 0)) = false → rd w1 w'_4.heap.size 2 = some (.int .i64 x_11)) ∧ ∃ (x_12 : OA) (x_13 x_14 : Nat), ((x != 1 || decide (x_10 < 0)) = false → rd w1 w'.heap.size 94 = some (.slice x_12 x_13 x_14)) ∧ ∃ (x_15 : OA) (x_16 x_17 : Nat), ((x != 1 || decide (x_10 < 0) || decide (x_11 ≥ (↑x_13 : Int))) = false → rd w1 w'.heap.size 94 = some (.slice x_15 x_16 x_17)) ∧ ∃ (x_18 : Int), ((x != 1 || decide (x_10 < 0) || decide (x_11 ≥ (↑x_13 : Int))) = false → rd w1 w'_4.heap.size 2 = some (.int .i64 x_18)) ∧ gIf (isP x_15) ((x != 1 || decide (x_10 < 0) || decide (x_11 ≥ (↑x_13 : Int))) = false) (gIf (inB x_18 x_16) ((x != 1 || decide (x_10 < 0) || decide (x_11 ≥ (↑x_13 : Int))) = false) (∃ (x_19 x_20 x_21 x_22 x_23 : Int), ((x != 1 || decide (x_10 < 0) || decide (x_11 ≥ (↑x_13 : Int))) = false → rd w1 (pb x_15) (po x_15 + Int.toNat x_18 * 5) = some (.int .u8 x_19) ∧ rd w1 (pb x_15) (po x_15 + Int.toNat x_18 * 5 + 1) = some (.int .i64 x_20) ∧ rd w1 (pb x_15) (po x_15 + Int.toNat x_18 * 5 + 2) = some (.int .i64 x_21) ∧ rd w1 (pb x_15) (po x_15 + Int.toNat x_18 * 5 + 3) = some (.int .i64 x_22) ∧ rd w1 (pb x_15) (po x_15 + Int.toNat x_18 * 5 + 4) = some (.int .i64 x_23)) ∧ ∃ (x_24 : Int), ((x != 1 || decide (x_10 < 0) || decide (x_11 ≥ (↑x_13 : Int))) = false → rd w1 w'_4.heap.size 0 = some (.int .i64 x_24)) ∧ Wif (x != 1 || decide (x_10 < 0) || decide (x_11 ≥ (↑x_13 : Int)) || !(x_19 == 4 && (x_20 == 0 && (x_21 == 1 && (x_22 == x_24 && (x_23 == 0 && true)))))) (K (.bool false) w1) (∃ (x : Int), rd w1 w'_4.heap.size 2 = some (.int .i64 x) ∧ ∃ (x_25 : Int), rd w1 w'_4.heap.size 0 = some (.int .i64 x_25) ∧ ∃ (w' : World), updIs Tryz.prog 101 (Value.map (some w'_2.heap.size)) (vi x) (vi x_25) w1 w' ∧ ∃ m, Nat.succ m ≤ n_1 ∧ I b (IntKind.wrap .i64 (n + 1)) w' m)))) False) False) (∃ (x : OA) (x_8 x_9 : Nat), rd w'_4 w'.heap.size 100 = some (.slice x x_8 x_9) ∧ ∃ (I : Bool → Int → World → Nat → Prop), (∃ (n : Nat), I b 0 w'_4 n) ∧ ∀ (b : Bool) (n : Int) (w'_5 : World) (n_2 : Nat), I b n w'_5 n_2 → Wif (decide (n < (↑x_8 : Int))) (Wif (isP x) (Wif (inB n x_8) (∃ (x_10 x_11 x_12 : Int), (rd w'_5 (pb x) (po x + Int.toNat n * 3) = some (.int .i64 x_10) ∧ rd w'_5 (pb x) (po x + Int.toNat n * 3 + 1) = some (.int .i64 x_11) ∧ rd w'_5 (pb x) (po x + Int.toNat n * 3 + 2) = some (.int .i64 x_12)) ∧ ∀ w', w' = w'_5.alloc (.cells #[vi 0, vi 0, vi 0] 98) → (wr w' w'_5.heap.size 0 ∧ wr w' w'_5.heap.size 1 ∧ wr w' w'_5.heap.size 2) ∧ ∀ w'_6, w'_6 = st (st (st w' w'_5.heap.size 0 (vi x_10)) w'_5.heap.size 1 (vi x_11)) w'_5.heap.size 2 (vi x_12) → ∃ (x : Int), rd w'_6 w'_5.heap.size 0 = some (.int .i64 x) ∧ ∃ (x_13 : Int) (x_14 : Bool), lookIs Tryz.prog 101 (Value.map (some w'_2.heap.size)) (vi x) true (Value.tuple #[vi x_13, Value.bool x_14]) w'_6 ∧ ∃ (x : Int), ((!x_14) = false → rd w'_6 w'_5.heap.size 2 = some (.int .i64 x)) ∧ ∃ (x_15 : Int), ((!x_14 || x_13 != x) = false → rd w'_6 w'_5.heap.size 1 = some (.int .i64 x_15)) ∧ Wif (!x_14 || x_13 != x || x_15 != 1) (K (.bool false) w'_6) (∃ m, Nat.succ m ≤ n_2 ∧ I b (IntKind.wrap .i64 (n + 1)) w'_6 m)) False) False) (∃ (x : OA) (x_10 x_11 : Nat), rd w'_5 w'.heap.size 101 = some (.slice x x_10 x_11) ∧ ∃ (I : Bool → Int → Int → World → Nat → Prop), (∃ (n : Nat), I b 0 0 w'_5 n) ∧ ∀ (b : Bool) (n n_3 : Int) (w'_6 : World) (n_4 : Nat), I b n n_3 w'_6 n_4 → Wif (decide (n_3 < (↑x_10 : Int))) (Wif (isP x) (Wif (inB n_3 x_10) (∃ (x_12 : OA) (x_13 x_14 : Nat), rd w'_6 (pb x) (po x + Int.toNat n_3 * 1) = some (.slice x_12 x_13 x_14) ∧ ∃ (I_1 : Bool → Int → Int → World → Nat → Prop), (∃ (n_5 : Nat), I_1 b n 0 w'_6 n_5) ∧ ∀ (b : Bool) (n n_5 : Int) (w' : World) (n_6 : Nat), I_1 b n n_5 w' n_6 → Wif (decide (n_5 < (↑x_13 : Int))) (Wif (isP x_12) (Wif (inB n_5 x_13) (∃ (x : Int), rd w' (pb x_12) (po x_12 + Int.toNat n_5 * 1) = some (.int .i64 x) ∧ ∃ (x_15 : Int) (x_16 : Bool), lookIs Tryz.prog 101 (Value.map (some w'_2.heap.size)) (vi x) true (Value.tuple #[vi x_15, Value.bool x_16]) w' ∧ Wif (!x_16) (K (.bool false) w') (Calls Tryz.prog 104 #[pointer k, vi x] w' fun e w' => ∃ (n_7 : Int), e = Ending.returned (vi n_7) ∧ Wif (n_7 != n_3) (K (.bool false) w') (∃ m, Nat.succ m ≤ n_6 ∧ I_1 b (IntKind.wrap .i64 (n + 1)) (IntKind.wrap .i64 (n_5 + 1)) w' m))) False) False) (∃ m, Nat.succ m ≤ n_4 ∧ I b n (IntKind.wrap .i64 (n_3 + 1)) w' m)) False) False) (∃ (x : OA) (x_12 x_13 : Nat), rd w'_6 w'.heap.size 95 = some (.slice x x_12 x_13) ∧ ∃ (I : Bool → Int → Int → World → Nat → Prop), (∃ (n : Nat), I b 0 0 w'_6 n) ∧ ∀ (b : Bool) (n_5 n_6 : Int) (w'_7 : World) (n_7 : Nat), I b n_5 n_6 w'_7 n_7 → Wif (decide (n_6 < (↑x_12 : Int))) (Wif (isP x) (Wif (inB n_6 x_12) (∃ (x_14 x_15 : Int), (rd w'_7 (pb x) (po x + Int.toNat n_6 * 2) = some (.int .i64 x_14) ∧ rd w'_7 (pb x) (po x + Int.toNat n_6 * 2 + 1) = some (.int .i64 x_15)) ∧ ∀ w'_8, w'_8 = w'_7.alloc (.cells #[vi 0, vi 0] 87) → (wr w'_8 w'_7.heap.size 0 ∧ wr w'_8 w'_7.heap.size 1) ∧ ∀ w'_9, w'_9 = st (st w'_8 w'_7.heap.size 0 (vi x_14)) w'_7.heap.size 1 (vi x_15) → ∃ (x : Int), rd w'_9 w'_7.heap.size 0 = some (.int .i64 x) ∧ ∃ (I_1 : Bool → Int → Int → World → Nat → Prop), (∃ (n : Nat), I_1 b n_5 x w'_9 n) ∧ ∀ (b : Bool) (n n_8 : Int) (w'_10 : World) (n_9 : Nat), I_1 b n n_8 w'_10 n_9 → ∀ w1, w1 = w'_10.drew → ∃ (x : Int), rd w1 w'_7.heap.size 0 = some (.int .i64 x) ∧ ∃ (x_16 : Int), rd w1 w'_7.heap.size 1 = some (.int .i64 x_16) ∧ Wif (decide (0 ≤ x_16)) (∃ (x_17 : OA) (x_18 x_19 : Nat), (decide (n_8 < IntKind.wrap .i64 (x + IntKind.wrap .i64 (1 * 2 ^ min (Int.toNat x_16) 64))) = true → rd w1 w'.heap.size 94 = some (.slice x_17 x_18 x_19)) ∧ Wif (decide (n_8 < IntKind.wrap .i64 (x + IntKind.wrap .i64 (1 * 2 ^ min (Int.toNat x_16) 64))) && decide (n_8 < (↑x_18 : Int))) (∃ (x : OA) (x_20 x_21 : Nat), rd w1 w'.heap.size 94 = some (.slice x x_20 x_21) ∧ Wif (isP x) (Wif (inB n_8 x_20) (∃ (x_22 : Int), rd w1 (pb x) (po x + Int.toNat n_8 * 5) = some (.int .u8 x_22) ∧ Wif (x_22 != 1) (K (.bool false) w1) (∃ m, Nat.succ m ≤ n_9 ∧ I_1 b (IntKind.wrap .i64 (n + 1)) (IntKind.wrap .i64 (n_8 + 1)) w1 m)) False) False) (∃ m, Nat.succ m ≤ n_7 ∧ I b n (IntKind.wrap .i64 (n_6 + 1)) w1 m)) False) False) False) (∃ (x : Int), lenIs Tryz.prog #[101] 3 (Value.map (some w'_2.heap.size)) x w'_7 ∧ ∃ (x_14 : OA) (x_15 x_16 : Nat), ((n == x) = true → rd w'_7 w'.heap.size 100 = some (.slice x_14 x_15 x_16)) ∧ ∃ (x_17 : OA) (x_18 x_19 : Nat), ((n == x && (↑x_15 : Int) == n) = true → rd w'_7 w'.heap.size 94 = some (.slice x_17 x_18 x_19)) ∧ K (.bool (n == x && (↑x_15 : Int) == n && IntKind.wrap .i64 (IntKind.wrap .i64 (n_5 + n) + 2) == (↑x_18 : Int))) w'_7))))) False) False)
theorem vc27 (k : OA) (w : World) (K : KV) (h : vcP27 k w K) : Calls Tryz.prog 27 #[pointer k] w (fun e w' => ∃ v, e = .returned v ∧ K v w') := Eng.vc_of [167, 120, 130, 61, 133, 143, 134, 91, 103, 113, 98, 99, 169, 190, 216, 197, 162] 3 [] Tryz.mixes Tryz.func27 (by kernel_rfl) (by kernel_rfl) (by kernel_rfl) h
end Go.Proofs.YtklmokolnakkoaaGreatDoor
set_option linter.unusedSimpArgs false
set_option linter.unusedVariables false
set_option maxRecDepth 100000
namespace Go.Proofs.YtklmokolnakkoaaGreatDoor
open Go Go.Eng
theorem range_get' {α : Type} {n i : Nat} {f : Nat → α} (hi : i < n) : ((List.range n).map f)[i]? = some (f i) := by rw [List.getElem?_map, List.getElem?_range hi]; rfl
theorem st3' {w w' : World} {b : Nat} {cs : List Value} {v0 v1 v2 : Value} (h : own w b cs) (hl : cs.length = 3) (e : w' = st (st (st w b 0 v0) b 1 v1) b 2 v2) : own w' b [v0, v1, v2] ∧ Kept (· = b) w w' := by
  subst e
  match cs, hl with
  | [a, c, d], _ => exact ⟨h.st_same.st_same.st_same, (((Kept.refl (· = b) w).st (.inl rfl)).st (.inl rfl)).st (.inl rfl)⟩
theorem shlE2 {o : Nat} (ho : o ≤ 10) : IntKind.wrap .i64 (1 * 2 ^ min (Int.toNat (o : Int)) 64) = ((2 ^ o : Nat) : Int) := shl1 ho
set_option maxHeartbeats 4000000 in
theorem even_spec {w : World} {k : Nat} {S : Mach} {fp : Prt → Nat → Prop} {rt lf cnt : Nat} {pg : Nat → Option Nat} (h : CoreAt w k S fp) (L : LSt S rt lf pg none cnt) :
    Calls Tryz.prog 27 #[ptr k] w fun e w' => e = .returned (.bool true) ∧ Kept none' w w' := by
  refine (vc27 _ w (fun v w' => v = .bool true ∧ Kept none' w w') ?_).mono ?_
  rotate_left
  · rintro e w' ⟨v, rfl, rfl, h⟩
    exact ⟨rfl, h⟩
  have hs := h.sizes
  have hn := h.n4
  have hcnt := L.cnt32
  unfold vcP27
  refine (picture_spec h (procC_of h L.by') (fun i _ => by rw [L.held]; exact Nat.zero_le _) (fun i hi => by have := L.ring_len hi; omega) (by rw [L.fli, List.length_replicate]; omega)).mono ?_
  rintro _ w5 ⟨PS, rfl, k5, A5⟩
  refine ⟨_, _, _, _, _, _, _, _, _, _, _, _, _, _, _, _, _, _, _, _, _, _, _, _, _, _, _, _, _, _, _, _, _, _, _, _, _, _, _, _, rfl, fun w6 e6 => ?_⟩
  have o6 := own_alloc e6
  have k6 : Kept none' w5 w6 := (Kept.refl _ _).al e6
  refine ⟨o6.wrAll 0 (by simp [runI_len]), fun w7 e7 => ?_⟩
  obtain ⟨o7, k7'⟩ := stAll_whole o6 e7 (by simp [runI_len])
  have k7 : Kept none' w5 w7 := own0 k6 k7' fun x e => Nat.le_of_eq e.symm
  have P7 := (A5.now).k k7
  have K7 : Kept none' w w7 := k5.tr k7
  have C7 := h.k K7
  clear e6 e7 k6 k7' o6 A5
  generalize w5.heap.size = br at *
  have rb : ∀ {W : World}, Kept none' w7 W → ∀ {j : Nat} {v : Value}, (sl13 PS)[j]? = some v → rd W br (94 + j) = some v := fun kk j v hv => by
    rw [(o7.k kk).rd, List.getElem?_append_right (by rw [runI_len]; omega), runI_len, Nat.add_sub_cancel_left]; exact hv
  have kr := Kept.refl none' w7
  have ep : (picOf S (procOf S)).procs = [procOf S 1] := L.procs
  have eo : (picOf S (procOf S)).frames = owns S.n S.rof := rfl
  have ec : (picOf S (procOf S)).clocks = (List.range S.nodes).map fun i => sortI (S.ring i) := rfl
  have ef : (picOf S (procOf S)).free = (zsh S.Z.c S.L S.Z.k).map intP := rfl
  have em : (picOf S (procOf S)).marks = (List.range S.n).map S.mks := rfl
  have l5 : PS.l 5 = 1 := by rw [P7.procs.len, ep]; rfl
  have l6 : PS.l 6 = cnt := by rw [P7.frames.len, eo, L.cr]
  have l7 : PS.l 7 = S.nodes := by rw [P7.clocks.len, ec, List.length_map, List.length_range]
  have l0 : PS.l 0 = S.n := by rw [P7.marks.len, em, List.length_map, List.length_range]
  refine ⟨_, _, _, rb kr (j := 5) rfl, Wif_no (by rw [l5]; rfl) fun w8 e8 => ?_⟩
  have m8 : MapIs w8 w7.heap.size [] := map_new e8
  have k8 : Kept none' w7 w8 := e8 ▸ (Kept.refl _ _).allocMap _ _
  have hm := m8.lt
  clear e8
  generalize hmm : w7.heap.size = m at *
  obtain ⟨cs, _, hR, hel⟩ := P7.procs.el 0 (procOf S 1) (by rw [ep]; rfl)
  obtain ⟨a1, p1, c1, a2, p2', c2, a3, p3, c3, a4, p4, c4, rfl, _, SP, _, _⟩ := hR
  have SP7 : SlR RMapped 3 w7 a2 p2' c2 (mapL pg 32) := by have := SP; rw [show (procOf S 1).pages = mapL pg 32 from L.pages h] at this; exact this
  have lp : p2' = (mapL pg 32).length := SP7.len
  have hM := L.cntM
  refine ⟨_, _, _, rb k8 (j := 5) rfl, Wif_yes ((P7.k k8).procs.isp (by omega)) (Wif_yes (inB_of (by omega) (by omega)) ⟨a2, p2', c2, k8.rd_some (hel 3 _ rfl) id, ?_⟩)⟩
  refine ⟨fun _ n W N => ∃ q : Nat, n = q ∧ q ≤ (mapL pg 32).length ∧ N = (mapL pg 32).length - q ∧ Kept (· = m) w8 W ∧ MapIs W m (atL ((mapL pg 32).take q)), ⟨_, 0, rfl, Nat.zero_le _, rfl, Kept.refl _ _, m8⟩, ?_⟩
  rintro _ _ w9 _ ⟨q, rfl, hq, rfl, k9, m9⟩
  have K9 : Kept none' w7 w9 := own0 k8 k9 fun x e => by omega
  refine Wif_intro (fun hc => ?_) (fun hc => ?_)
  · have hql : q < (mapL pg 32).length := by simp [lp] at hc; omega
    obtain ⟨x, hx⟩ : ∃ x, (mapL pg 32)[q]? = some x := ⟨_, List.getElem?_eq_getElem hql⟩
    have hnone := L.at_none hx
    obtain ⟨j, f, hj, hpj, rfl⟩ := mapL_mem (List.mem_of_getElem? hx)
    have hf := (L.pgo j f hpj).2.1
    obtain ⟨cs, _, hR, hr⟩ := SP7.el q _ hx
    obtain rfl : cs = [vi (j : Int), .int .u8 1, vi (f : Int)] := hR
    refine Wif_yes (SP7.isp (by omega)) (Wif_yes (inB_of (by omega) (by omega)) ⟨(j : Int), 1, (f : Int), ?_, fun w10 e10 => ?_⟩)
    · rw [Int.toNat_natCast]
      exact ⟨K9.rd_some (hr 0 _ rfl) id, K9.rd_some (hr 1 _ rfl) id, K9.rd_some (hr 2 _ rfl) id⟩
    have o10 : own w10 w9.heap.size [vi 0, .int .u8 0, vi 0] := own_alloc e10
    have k10 : Kept none' w9 w10 := (Kept.refl _ _).al e10
    refine ⟨⟨o10.wr (by show 0 < 3; decide), o10.wr (by show 1 < 3; decide), o10.wr (by show 2 < 3; decide)⟩, fun w11 e11 w12 e12 => ?_⟩
    obtain ⟨o11, k11'⟩ := st3' o10 rfl e11
    have o12 := o11.dr e12
    have k12 : Kept none' w9 w12 := (own0 k10 k11' fun x e => by omega).dr e12
    have K12 := K9.tr k12
    have r0 : rd w12 w9.heap.size 0 = some (vi (j : Int)) := by rw [o12.rd]; rfl
    have r1 : rd w12 w9.heap.size 1 = some (.int .u8 1) := by rw [o12.rd]; rfl
    have r2 : rd w12 w9.heap.size 2 = some (vi (f : Int)) := by rw [o12.rd]; rfl
    have P12 := P7.k K12
    obtain ⟨cs, _, hR, hr'⟩ := P12.marks.el f (pageM j) (by rw [em, ← L.mk2 j f hpj]; exact range_get' hf)
    obtain rfl : cs = [.int .u8 4, vi 0, vi 1, vi (j : Int), vi 0] := hR
    refine ⟨1, r1, (f : Int), (fun _ => r2), (f : Int), (fun _ => r2), _, _, _, (fun _ => rb K12 (j := 0) rfl), _, _, _, (fun _ => rb K12 (j := 0) rfl), (f : Int), (fun _ => r2), gIf_intro (fun _ => P12.marks.isp (by omega)) (gIf_intro (fun _ => inB_of (by omega) (by omega)) ⟨4, 0, 1, (j : Int), 0, (fun _ => ?_), (j : Int), (fun _ => r0), Wif_no ?_ ⟨(f : Int), r2, (j : Int), r0, ?_⟩⟩)⟩
    · rw [Int.toNat_natCast]
      exact ⟨hr' 0 _ rfl, hr' 1 _ rfl, hr' 2 _ rfl, hr' 3 _ rfl, hr' 4 _ rfl⟩
    · rw [l0]; simp; omega
    · obtain ⟨w13, hu, m13, k13⟩ := upd_new (mt := 101) (vt := 3) (kt := 3) Tryz.underlying101 Tryz.underlying3 (m9.k k12) (f : Int) (vi (j : Int)) (by omega) hnone
      refine ⟨w13, hu, (mapL pg 32).length - (q + 1), by omega, q + 1, by rw [wi (by omega)]; rfl, hql, rfl, (k9.trans k12 fun _ _ e => e.elim).trans k13 fun _ _ e => e, ?_⟩
      have : atL ((mapL pg 32).take (q + 1)) = atL ((mapL pg 32).take q) ++ [((f : Int), vi (j : Int))] := by
        unfold atL
        rw [List.take_add_one, hx, List.map_append]
        rfl
      rw [this]
      exact m13
  have hqe : q = (mapL pg 32).length := by simp [lp] at hc; omega
  subst hqe
  rw [List.take_length] at m9
  clear hc hq
  -- whose frames are
  have look : ∀ {W : World} {j f : Nat}, Kept none' w9 W → pg j = some f → lookIs Tryz.prog 101 (.map (some m)) (vi f) true (.tuple #[vi j, .bool true]) W := fun {W j f} kk hj => by
    have := look2 (P := Tryz.prog) (mt := 101) (vt := 3) (kt := 3) Tryz.underlying101 Tryz.underlying3 (m9.k kk) (f : Int) (Tryz.zeroValue3 W)
    rw [L.at_some m9 hj] at this
    exact this
  have kr9 := Kept.refl none' w9
  refine ⟨_, _, _, rb K9 (j := 6) rfl, fun _ n W N => ∃ q : Nat, n = q ∧ q ≤ cnt ∧ N = cnt - q ∧ Kept none' w9 W, ⟨cnt, 0, rfl, Nat.zero_le _, rfl, kr9⟩, ?_⟩
  rintro _ _ w10 _ ⟨q, rfl, hq, rfl, k10⟩
  have K10 := K9.tr k10
  refine Wif_intro (fun hc => ?_) (fun hc => ?_)
  · have hqc : q < cnt := by simp [l6] at hc; omega
    have P10 := P7.k K10
    obtain ⟨x, hx⟩ : ∃ x, (owns S.n S.rof)[q]? = some x := ⟨_, List.getElem?_eq_getElem (by rw [L.cr]; exact hqc)⟩
    obtain ⟨j, f, hj, rfl⟩ := L.own_mem (List.mem_of_getElem? hx)
    obtain ⟨cs, _, hR, hr⟩ := P10.frames.el q _ (by rw [eo]; exact hx)
    obtain rfl : cs = [vi (f : Int), vi 1, vi (j : Int)] := hR
    refine Wif_yes (P10.frames.isp (by omega)) (Wif_yes (inB_of (by omega) (by omega)) ⟨(f : Int), 1, (j : Int), by rw [Int.toNat_natCast]; exact ⟨hr 0 _ rfl, hr 1 _ rfl, hr 2 _ rfl⟩, fun w11 e11 => ?_⟩)
    have o11 : own w11 w10.heap.size [vi 0, vi 0, vi 0] := own_alloc e11
    have k11 : Kept none' w10 w11 := (Kept.refl _ _).al e11
    refine ⟨⟨o11.wr (by show 0 < 3; decide), o11.wr (by show 1 < 3; decide), o11.wr (by show 2 < 3; decide)⟩, fun w12 e12 => ?_⟩
    obtain ⟨o12, k12'⟩ := st3' o11 rfl e12
    have k12 : Kept none' w10 w12 := own0 k11 k12' fun x e => by omega
    have r0 : rd w12 w10.heap.size 0 = some (vi (f : Int)) := by rw [o12.rd]; rfl
    have r1 : rd w12 w10.heap.size 1 = some (vi 1) := by rw [o12.rd]; rfl
    have r2 : rd w12 w10.heap.size 2 = some (vi (j : Int)) := by rw [o12.rd]; rfl
    exact ⟨_, r0, (j : Int), true, look (k10.tr k12) hj, (j : Int), (fun _ => r2), 1, (fun _ => r1), Wif_no (by simp) ⟨cnt - (q + 1), by omega, q + 1, by rw [wi (by omega)]; rfl, hqc, rfl, k10.tr k12⟩⟩
  clear hc hq q
  -- clocks
  have hcc := L.cc
  refine ⟨_, _, _, rb K10 (j := 7) rfl, fun _ n t W N => ∃ q : Nat, t = q ∧ q ≤ S.nodes ∧ N = S.nodes - q ∧ Kept none' w9 W ∧ n = ((sumN q fun i => (S.ring i).length : Nat) : Int), ⟨S.nodes, 0, rfl, Nat.zero_le _, rfl, k10, rfl⟩, ?_⟩
  rintro _ _ _ w11 _ ⟨q, rfl, hq, rfl, k11, rfl⟩
  have K11 := K9.tr k11
  refine Wif_intro (fun hc => ?_) (fun hc => ?_)
  · have hqn : q < S.nodes := by simp [l7] at hc; omega
    have P11 := P7.k K11
    obtain ⟨b, lb, cb, SL, hrb⟩ := P11.clocks.sl (i := q) (x := sortI (S.ring q)) (by rw [ec]; exact range_get' hqn)
    have hlb : lb = (S.ring q).length := by rw [SL.len, sortI_len]
    have hrl := L.ring_len hqn
    have hsucc := sumN_succ q fun i => (S.ring i).length
    have hle : sumN (q + 1) (fun i => (S.ring i).length) ≤ 1000 := by
      have h32 : ∀ t, t ≤ S.nodes → sumN t (fun i => (S.ring i).length) ≤ 32 * t := fun t ht => by
        induction t with
        | zero => exact Nat.le_refl _
        | succ t ih =>
          have := ih (by omega)
          have := L.ring_len (i := t) (by omega)
          rw [sumN_succ]
          omega
      have := h32 (q + 1) (by omega)
      omega
    refine Wif_yes (P11.clocks.isp (by omega)) (Wif_yes (inB_of (by omega) (by omega)) ⟨b, lb, cb, hrb, fun _ n t W N => ∃ j : Nat, t = j ∧ j ≤ lb ∧ N = lb - j ∧ Kept none' w9 W ∧ n = ((sumN q (fun i => (S.ring i).length) + j : Nat) : Int) ∧ Kept none' w11 W, ⟨lb, 0, rfl, Nat.zero_le _, rfl, k11, rfl, Kept.refl _ _⟩, ?_⟩)
    rintro _ _ _ w12 _ ⟨j, rfl, hj, rfl, k12, rfl, k112⟩
    have K12 := K9.tr k12
    refine Wif_intro (fun hc2 => ?_) (fun hc2 => ?_)
    · have hjl : j < lb := by simp at hc2; omega
      have SL2 := SL.k RInt.stab k112
      obtain ⟨x, hx⟩ : ∃ x, (sortI (S.ring q))[j]? = some x := ⟨_, List.getElem?_eq_getElem (by rw [sortI_len]; omega)⟩
      obtain ⟨pj, f, hpj, rfl, g1, g2⟩ := (L.ckm q hqn x).1 (sortI_mem.1 (List.mem_of_getElem? hx))
      have hf := (L.pgo pj f hpj).2.1
      refine Wif_yes (SL2.isp (by omega)) (Wif_yes (inB_of (by omega) (by omega)) ⟨_, SL2.int hx, (pj : Int), true, look k12 hpj, Wif_no rfl ((core_node (C7.k K12) f (by omega)).mono ?_)⟩)
      rintro _ w13 ⟨k13, ⟨i', hi', q1, q2, rfl⟩ | ⟨q1, rfl⟩⟩
      · have : i' = q := node_uniq h.my hi' hqn q1 q2 g1 g2
        subst this
        exact ⟨_, rfl, Wif_no (by simp) ⟨lb - (j + 1), by omega, j + 1, by rw [wi (by omega)]; rfl, hjl, rfl, k12.tr k13, by rw [wi (by omega)]; omega, k112.tr k13⟩⟩
      · exfalso
        have := fst_le h.my (i := q + 1) (j := S.nodes) (by omega) (Nat.le_refl _)
        omega
    · have : j = lb := by simp at hc2; omega
      subst this
      exact ⟨S.nodes - (q + 1), by omega, q + 1, by rw [wi (by omega)]; rfl, hqn, rfl, k12, by rw [hsucc]; omega⟩
  have hqe : q = S.nodes := by simp [l7] at hc; omega
  subst hqe
  clear hc hq
  have hcc' : sumN S.nodes (fun i => (S.ring i).length) = cnt := hcc
  rw [hcc']
  -- free blocks
  have lF : PS.l 1 = (zsh S.Z.c S.L S.Z.k).length := by rw [P7.free.len, ef, List.length_map]
  have hsum := zsh_sumN (c := S.Z.c) (L := S.L) S.Z.k
  obtain ⟨_, _, hzk⟩ := h.zn
  have hcf := L.cf
  rw [hzk] at hsum lF
  simp at hcf
  have hlen : (zsh S.Z.c S.L S.nodes).length ≤ 1024 := by
    have : ∀ l : List (Nat × Nat), l.length ≤ (l.map fun y => 2 ^ y.2).sum := fun l => by
      induction l with
      | nil => exact Nat.le_refl _
      | cons y l ih =>
        have := p2 y.2
        simp only [List.length_cons, List.map_cons, List.sum_cons]
        omega
    have := this (zsh S.Z.c S.L S.nodes)
    omega
  refine ⟨_, _, _, rb K11 (j := 1) rfl, fun _ n t W N => ∃ q : Nat, t = q ∧ q ≤ (zsh S.Z.c S.L S.nodes).length ∧ N = (zsh S.Z.c S.L S.nodes).length - q ∧ Kept none' w9 W ∧ n = ((((zsh S.Z.c S.L S.nodes).take q).map fun y => 2 ^ y.2).sum : Nat), ⟨_, 0, rfl, Nat.zero_le _, rfl, k11, by simp⟩, ?_⟩
  rintro _ _ _ w12 _ ⟨q, rfl, hq, rfl, k12, rfl⟩
  have K12 := K9.tr k12
  have P12 := P7.k K12
  refine Wif_intro (fun hc => ?_) (fun hc => ?_)
  · have hqz : q < (zsh S.Z.c S.L S.nodes).length := by simp [lF] at hc; omega
    obtain ⟨y, hy⟩ : ∃ y, (zsh S.Z.c S.L S.nodes)[q]? = some y := ⟨_, List.getElem?_eq_getElem hqz⟩
    obtain ⟨g1, g2, g3⟩ := L.free_mk h (y := y) (by rw [hzk]; exact List.mem_of_getElem? hy)
    obtain ⟨cs, _, hR, hr⟩ := P12.free.el q (intP y) (by rw [ef, hzk, List.getElem?_map, hy]; rfl)
    obtain rfl : cs = [vi (y.1 : Int), vi (y.2 : Int)] := hR
    have htk : (((zsh S.Z.c S.L S.nodes).take (q + 1)).map fun y => 2 ^ y.2).sum = (((zsh S.Z.c S.L S.nodes).take q).map fun y => 2 ^ y.2).sum + 2 ^ y.2 := by
      rw [List.take_add_one, hy, List.map_append, List.sum_append]
      simp
    have hpre : (((zsh S.Z.c S.L S.nodes).take (q + 1)).map fun y => 2 ^ y.2).sum ≤ S.n := by
      have : ((zsh S.Z.c S.L S.nodes).map fun y => 2 ^ y.2).sum = (((zsh S.Z.c S.L S.nodes).take (q + 1)).map fun y => 2 ^ y.2).sum + (((zsh S.Z.c S.L S.nodes).drop (q + 1)).map fun y => 2 ^ y.2).sum := by
        rw [← List.sum_append, ← List.map_append, List.take_append_drop]
      omega
    refine Wif_yes (P12.free.isp (by omega)) (Wif_yes (inB_of (by omega) (by omega)) ⟨(y.1 : Int), (y.2 : Int), by rw [Int.toNat_natCast]; exact ⟨hr 0 _ rfl, hr 1 _ rfl⟩, fun w13 e13 => ?_⟩)
    have o13 : own w13 w12.heap.size [vi 0, vi 0] := own_alloc e13
    have k13 : Kept none' w12 w13 := (Kept.refl _ _).al e13
    refine ⟨wr2 o13, fun w14 e14 => ?_⟩
    obtain ⟨o14, k14'⟩ := st2w o13 e14
    have k14 : Kept none' w12 w14 := own0 k13 k14' fun x e => by omega
    refine ⟨_, (rd2 o14).1, fun _ n t W N => ∃ j : Nat, t = ((y.1 + j : Nat) : Int) ∧ j ≤ 2 ^ y.2 ∧ N = 2 ^ y.2 - j ∧ Kept none' w14 W ∧ n = (((((zsh S.Z.c S.L S.nodes).take q).map fun y => 2 ^ y.2).sum + j : Nat) : Int), ⟨2 ^ y.2, 0, rfl, Nat.zero_le _, rfl, Kept.refl _ _, rfl⟩, ?_⟩
    rintro _ _ _ w15 _ ⟨j, rfl, hj, rfl, k15, rfl⟩
    intro w16 e16
    have k16 : Kept none' w14 w16 := k15.dr e16
    have K16 := K12.tr (k14.tr k16)
    have o16 := o14.k k16
    have P16 := P7.k K16
    have hsh := shlE2 g1
    have h10 : 2 ^ y.2 ≤ 1024 := pow10 g1
    refine ⟨_, (rd2 o16).1, _, (rd2 o16).2, Wif_yes (by simp) ⟨_, _, _, (fun _ => rb K16 (j := 0) rfl), ?_⟩⟩
    rw [hsh, wi (x := (y.1 : Int) + ((2 ^ y.2 : Nat) : Int)) (by omega)]
    refine Wif_intro (fun hc2 => ?_) (fun hc2 => ?_)
    · have hjl : j < 2 ^ y.2 := by
        rw [Bool.and_eq_true, decide_eq_true_eq] at hc2
        have h9 := hc2.1
        generalize 2 ^ y.2 = T at *
        omega
      obtain ⟨cs, _, hR, hr'⟩ := P16.marks.el (y.1 + j) mark0 (by rw [em, ← g3 (y.1 + j) (by omega) (by omega)]; exact range_get' (by omega))
      obtain rfl : cs = [.int .u8 1, vi 0, vi 0, vi 0, vi 0] := hR
      exact ⟨_, _, _, rb K16 (j := 0) rfl, Wif_yes (P16.marks.isp (by omega)) (Wif_yes (inB_of (by omega) (by omega)) ⟨1, by rw [Int.toNat_natCast]; exact hr' 0 _ rfl, Wif_no rfl ⟨2 ^ y.2 - (j + 1), by omega, j + 1, by rw [wi (by omega)]; omega, hjl, rfl, k16, by rw [wi (by omega)]; omega⟩⟩)⟩
    · have hje : j = 2 ^ y.2 := by
        rw [l0] at hc2
        by_cases e : j = 2 ^ y.2
        · exact e
        · exfalso
          rw [show (decide (((y.1 + j : Nat) : Int) < (y.1 : Int) + ((2 ^ y.2 : Nat) : Int)) && decide (((y.1 + j : Nat) : Int) < ((S.n : Nat) : Int))) = true by
            rw [Bool.and_eq_true, decide_eq_true_eq, decide_eq_true_eq]; omega] at hc2
          cases hc2
      exact ⟨(zsh S.Z.c S.L S.nodes).length - (q + 1), by omega, q + 1, by rw [wi (by omega)]; rfl, hqz, rfl, k12.tr (k14.tr k16), by rw [htk, hje]⟩
  · have hqe : q = (zsh S.Z.c S.L S.nodes).length := by simp [lF] at hc; omega
    subst hqe
    rw [List.take_length, hsum]
    have hlm := len_map (P := Tryz.prog) (mt := 101) Tryz.underlying101 Tryz.underlying3 (m9.k k12) (by unfold atL; rw [List.length_map, hM]; omega) (ty := 3)
    have hal : (atL (mapL pg 32)).length = cnt := by unfold atL; rw [List.length_map, hM]
    rw [hal] at hlm
    refine ⟨(cnt : Int), hlm, _, _, _, (fun _ => rb K12 (j := 6) rfl), _, _, _, (fun _ => rb K12 (j := 0) rfl), ?_, K7.tr K12⟩
    rw [l6, l0, wi (x := ((sumN S.nodes fun i => fsum (S.L i) : Nat) : Int) + (cnt : Int)) (by omega), wi (by omega)]
    congr 1
    simp
    omega
end Go.Proofs.YtklmokolnakkoaaGreatDoor
set_option linter.unusedSimpArgs false
set_option linter.unusedVariables false
set_option maxRecDepth 100000
namespace Go.Proofs.YtklmokolnakkoaaGreatDoor
open Go Go.Eng
def LInv (w : World) (k m : Nat) (c : Nat → Int) (rt lf lL : Nat) (b : Bool) (n : Int) (W : World) (N : Nat) : Prop :=
  b = false ∧ ∃ q : Nat, n = q ∧ q ≤ lL ∧ N = lL - q ∧ ∃ S fp pg cnt, Kept none' w W ∧ CoreAt W k S fp ∧ LSt S rt lf pg none cnt ∧ S.c = c ∧ (∀ p x, fp p x → w.heap.size ≤ x) ∧ (∀ p, ¬ fp p m) ∧ OnP W m pg ∧ w.heap.size ≤ m
theorem to_iff {pg : Nat → Option Nat} {x : Int} : (decide (x ≥ 0) && decide (x < 32) && onI pg x == 0) = true ↔ ∃ p : Nat, x = p ∧ p < 32 ∧ pg p = none := by
  constructor
  · intro h
    simp at h
    refine ⟨x.toNat, by omega, by omega, ?_⟩
    cases e : pg x.toNat with
    | none => rfl
    | some f =>
      have := onI_some e
      rw [show ((x.toNat : Nat) : Int) = x by omega] at this
      omega
  · rintro ⟨p, rfl, hp, hn⟩
    have : onI pg p = 0 := onI_none fun p' e => by obtain rfl : p = p' := by omega
                                                   exact hn
    simp [this]
    omega
theorem to_no {pg : Nat → Option Nat} {x : Int} (h : ¬ ∃ p : Nat, x = p ∧ p < 32 ∧ pg p = none) : (decide (x ≥ 0) && decide (x < 32) && onI pg x == 0) = false := by
  cases e : (decide (x ≥ 0) && decide (x < 32) && onI pg x == 0) with
  | false => rfl
  | true => exact absurd (to_iff.1 e) h
theorem MI.inv {w : World} {k m bq : Nat} {c : Nat → Int} {rt lf : Nat} {x1 x2 x3 : Int} {S : Mach} {fp : Prt → Nat → Prop} {pg : Nat → Option Nat} {cnt : Nat} {W : World} {q lL : Nat} (h : MI w k m bq c rt lf x1 x2 x3 S fp pg none cnt pg W) (hq : q < lL) (hl : lL ≤ 100) :
    ∃ N, Nat.succ N ≤ lL - q ∧ LInv w k m c rt lf lL false (IntKind.wrap .i64 ((q : Int) + 1)) W N :=
  ⟨lL - (q + 1), by omega, rfl, q + 1, by rw [wi (by omega)]; rfl, hq, rfl, S, fp, pg, cnt, h.kp, h.C, h.L, h.hc, h.lo, h.nm, h.on, h.hm⟩
theorem MI.even {w : World} {k m bq : Nat} {c : Nat → Int} {rt lf : Nat} {x1 x2 x3 : Int} {S : Mach} {fp : Prt → Nat → Prop} {pg : Nat → Option Nat} {cnt : Nat} {W : World} {q lL : Nat} (h : MI w k m bq c rt lf x1 x2 x3 S fp pg none cnt pg W) (hq : q < lL) (hl : lL ≤ 100) (X : World → Prop) :
    Calls Tryz.prog 27 #[ptr k] W fun e w' => ∃ b : Bool, e = .returned (.bool b) ∧ Wif (!b) (X w') (∃ N, Nat.succ N ≤ lL - q ∧ LInv w k m c rt lf lL false (IntKind.wrap .i64 ((q : Int) + 1)) w' N) := by
  refine (even_spec h.C h.L).mono ?_
  rintro _ w' ⟨rfl, kk⟩
  exact ⟨_, rfl, Wif_no rfl ((h.kept kk).inv hq hl)⟩
section
variable {w W : World} {k m bq : Nat} {c : Nat → Int} {rt lf : Nat} {x1 x2 x3 : Int} {S : Mach} {fp : Prt → Nat → Prop} {pg on : Nat → Option Nat} {cnt f i : Nat}
theorem MI.rel (h : MI w k m bq c rt lf x1 x2 x3 S fp pg (some f) cnt on W) (hi : i < S.nodes) (h1 : fstF S.c i ≤ f) (h2 : (f : Int) < fstF S.c (i + 1)) :
    Calls Tryz.prog 26 #[ptr k, vi f] W fun e w' => e = .returned (vi 0) ∧ ∃ S' fp', MI w k m bq c rt lf x1 x2 x3 S' fp' pg none cnt on w' ∧
      Calls Tryz.prog 26 #[ptr k, vi f] w' fun e w2 => e = .returned (vi 2) ∧ ∃ fp2, MI w k m bq c rt lf x1 x2 x3 S' fp2 pg none cnt on w2 := by
  refine (release_law h.C h.L hi h1 h2).mono ?_
  rintro _ w' ⟨S', rfl, hc, hz, T, L', hno⟩
  obtain ⟨fp', M'⟩ := h.step T hc L'
  have en : S'.nodes = S.nodes := by unfold Mach.nodes; rw [hc]
  have hiS : i < S'.nodes := by rw [en]; exact hi
  have hf := M'.C.fst hiS
  have hn := M'.C.n4
  refine ⟨rfl, S', fp', M', (release_spec M'.C (fr := f) (by have := (h.L.hdr f rfl).1; have := h.C.n4; omega)).mono ?_⟩
  rintro e w2 (⟨j, l', hj, q1, q2, rfl, G, T2⟩ | ⟨j, hj, q1, q2, rfl, hno2, T2⟩ | ⟨q1, rfl, T2⟩)
  · exfalso
    have : j = i := node_uniq M'.C.my (f := (f : Int)) hj hiS q1 q2 (by rw [hc]; exact h1) (by rw [hc]; exact h2)
    subst this
    rw [hc] at G
    rcases G with ⟨g1, g2, _⟩ | ⟨x, g1, g2, g3, g4, g5, g6⟩
    · cases g2
    · exact hno (List.mem_map.2 ⟨x, List.mem_filter.2 ⟨g1, by simpa using g2⟩, by rw [g3, g4]⟩)
  · exact ⟨rfl, M'.step T2 rfl L'⟩
  · exfalso
    have := fst_le M'.C.my (i := i + 1) (j := S'.nodes) (by omega) (Nat.le_refl _)
    rw [hc] at this q1
    omega
end
end Go.Proofs.YtklmokolnakkoaaGreatDoor
set_option linter.unusedSimpArgs false
set_option linter.unusedVariables false
set_option maxRecDepth 100000
namespace Go.Proofs.YtklmokolnakkoaaGreatDoor
open Go Go.Eng
set_option maxHeartbeats 4000000 in
theorem coreMaps_walk {w : World} (hz : SizR w) (hw : 0 < w.heap.size) (c : Nat → Int) {l : Option Addr} {lL lC : Nat} (hx : (0 < lL → isP l = true) ∧ ∀ q : Nat, q < lL → ∃ x1 x2 x3 : Int, XOp w l q x1 x2 x3 ∧ (-9223372036854775808 ≤ x2 ∧ x2 ≤ 9223372036854775807) ∧ (-9223372036854775808 ≤ x3 ∧ x3 ≤ 9223372036854775807)) :
    Calls Tryz.prog 7 #[cfgV c, .slice l lL lC] w fun e w' => e = .returned (.bool true) ∧ Kept none' w w' := by
  refine (vc7 c l lL lC w (fun v w' => v = .bool true ∧ Kept none' w w') ?_).mono ?_
  rotate_left
  · rintro e w' ⟨v, rfl, rfl, h⟩
    exact ⟨rfl, h⟩
  unfold vcP7
  intro w1 e1
  have o1 := own_alloc e1
  have k1 : Kept none' w w1 := (Kept.refl _ _).al e1
  have hs1 : w.heap.size < w1.heap.size := o1.lt
  clear e1
  generalize hb0 : w.heap.size = b0 at *
  refine ⟨c, o1.rIall, (rmay_spec c w1).mono ?_⟩
  rintro _ w2 ⟨b, rfl, hb, k12⟩
  have k2 := k1.tr k12
  refine ⟨_, rfl, Wif_intro (fun _ => known_k hz (by omega) k2) (fun hlen => ?_)⟩
  have hl2 : lL ≤ 100 := by simp at hlen; omega
  have hm : MayP c := hb.1 (by cases b with
    | true => rfl
    | false => simp at hlen)
  clear hlen
  refine ⟨c, (o1.k k12).rIall, (begun_spec (hz.k k2) (by have := k2.sz; omega) hm).mono ?_⟩
  rintro _ w3 ⟨k23, k, S, fp, rt, lf, rfl, C3, hc, L3, hfp⟩
  have k3 := k2.tr k23
  refine ⟨_, _, rfl, Wif_no rfl ((even_spec C3 L3).mono ?_)⟩
  rintro _ w4 ⟨rfl, k34⟩
  have k4 := k3.tr k34
  have C4 := C3.k k34
  have hs2 := k2.sz
  have hs4 := k4.sz
  refine ⟨_, rfl, Wif_no rfl fun w5 e5 => ?_⟩
  have k45 : Kept none' w4 w5 := e5 ▸ (Kept.refl none' w4).allocMap #[] 0
  have m5 : MapIs w5 w4.heap.size [] := map_new e5
  have C5 := C4.k k45
  have k5 := k4.tr k45
  have hml : w4.heap.size < w5.heap.size := m5.lt
  have hnm : ∀ p, ¬ fp p w4.heap.size := fun p hp => by have := (C4.lt p _ hp).2; omega
  have hwm : w.heap.size ≤ w4.heap.size := by omega
  have hfp' : ∀ p x, fp p x → w.heap.size ≤ x := fun p x hp => by have := hfp p x hp; omega
  clear e5
  generalize hmm : w4.heap.size = m at *
  have on5 : OnP w5 m (fun _ => none) := ⟨[], m5, fun x => by
    rw [onI_none (fun _ _ => rfl)]; rfl⟩
  refine ⟨LInv w k m c rt lf lL, ⟨lL, rfl, 0, rfl, Nat.zero_le _, rfl, S, fp, _, 0, k5, C5, L3, hc, hfp', hnm, on5, hwm⟩, ?_⟩
  clear on5 m5 C5 C4 C3 L3 k5 k45 k34 k4 k3 k23 hnm hfp' hfp hml hc
  rintro _ _ w6 _ ⟨rfl, q, rfl, hq, rfl, S, fp, pg, cnt, k6, C6, L6, hc6, lo6, nm6, on6, hm6⟩
  refine Wif_intro (fun hcq => ?_) (fun hcq => ?_)
  · -- one more
    have hql : q < lL := by simp at hcq; omega
    clear hcq
    obtain ⟨x1, x2, x3, X, hr2, hr3⟩ := hx.2 q hql
    refine Wif_yes (hx.1 (by omega)) (Wif_yes (inB_of (by omega) (by omega)) ⟨x1, x2, x3, ?_, fun w7 e7 => ?_⟩)
    · rw [Int.toNat_natCast]
      exact ⟨k6.rd_some X.r0 id, k6.rd_some X.r1 id, k6.rd_some X.r2 id⟩
    have o7 : own w7 w6.heap.size [vi 0, vi 0, vi 0] := own_alloc e7
    have k7 : Kept none' w6 w7 := (Kept.refl _ _).al e7
    refine ⟨⟨o7.wr (by decide), o7.wr (by decide), o7.wr (by decide)⟩, fun w8 e8 => ?_⟩
    obtain ⟨o8, k8'⟩ := st3' o7 rfl e8
    have k8 : Kept none' w6 w8 := own0 k7 k8' fun x e => Nat.le_of_eq e.symm
    clear e7 e8 k7 k8' o7 X
    have hbm : w6.heap.size ≠ m := fun e => by have := on6.lt; omega
    have hbf : ∀ p, ¬ fp p w6.heap.size := fun p h => by have := (C6.lt p _ h).2; omega
    generalize hbq : w6.heap.size = bq at *
    have M8 : MI w k m bq c rt lf x1 x2 x3 S fp pg none cnt pg w8 := ⟨k6.tr k8, C6.k k8, L6, hc6, lo6, nm6, hbf, o8, on6.kx k8 id, hm6, hbm⟩
    clear o8 k8 hbf C6 L6 hc6 lo6 nm6 on6 k6 hbq
    refine ⟨x2, M8.r.2.1, x2, fun _ => M8.r.2.1, x1, M8.r.1, Wif_intro (fun h1 => ?_) (fun _ => Wif_intro (fun h2 => ?_) (fun _ => Wif_intro (fun h3 => ?_) (fun _ => M8.even hql hl2 _)))⟩
    · -- Map
      clear h1
      intro w9 e9
      have M9 := M8.kept ((Kept.refl _ _).dr e9)
      clear e9 M8
      obtain ⟨b, hbs⟩ := M9.L.sp
      refine Wif_yes rfl ⟨some ⟨S.pz, 0, none⟩, ?_, x2, M9.r.2.1, (nodes_spec M9.C (b := b) (by rw [hbs]; rfl) (by split <;> omega)).mono ?_⟩
      · exact M9.C.rtW (Kept.refl _ _) (j := 1) rfl
      rintro _ w10 ⟨a, la, ca, xs, rfl, k10, R, hlx⟩
      have M10 := M9.kept k10
      clear M9 k10
      refine ⟨a, la, ca, rfl, ⟨M10.C.rtW (Kept.refl _ _) (j := 1) rfl, trivial⟩, (take_law M10.C M10.L R hlx).mono ?_⟩
      rintro _ w11 (⟨er, h0, rfl, T⟩ | ⟨f, i, S11, rfl, T, hc, hz', hi, g1, g2, L11⟩)
      · obtain ⟨fp', M11⟩ := M10.step T rfl M10.L
        exact ⟨_, _, rfl, Wif_yes (by simpa using h0) (M11.inv hql hl2)⟩
      obtain ⟨fp11, M11⟩ := M10.step T hc L11
      clear T M10 R
      refine ⟨_, _, rfl, Wif_no rfl ⟨x2, M11.r.2.1, (map_law M11.C L11 hi g1 g2 x2).mono ?_⟩⟩
      rintro _ w12 (⟨er, h0, rfl, hno, T⟩ | ⟨p, S12, hp2, hp, hn, rfl, hc12, hz12, T, L12⟩)
      · obtain ⟨fp12, M12⟩ := M11.step T rfl L11
        have he : (er == 0) = false := by simpa using h0
        refine ⟨er, rfl, x2, fun _ => M12.r.2.1, onI pg x2, fun _ => M12.on.look x2, Wif_no (by rw [he, to_no hno]; rfl) (Wif_no he ((M12.rel hi g1 g2).mono ?_))⟩
        rintro _ w13 ⟨rfl, S13, fp13, M13, H⟩
        refine ⟨_, rfl, Wif_no rfl (H.mono ?_)⟩
        rintro _ w14 ⟨rfl, fp14, M14⟩
        exact ⟨_, rfl, Wif_no rfl (M14.even hql hl2 _)⟩
      · obtain ⟨fp12, M12⟩ := M11.step T hc12 L12
        have ht := to_iff.2 ⟨p, hp2, hp, hn⟩
        obtain ⟨w13, hu, M13⟩ := M12.upd (on' := upd pg p (some f)) (x := x2) hr2 (v := 1) fun y => by rw [onI_upd, hp2]; rfl
        exact ⟨0, rfl, x2, fun _ => M12.r.2.1, onI pg x2, fun _ => M12.on.look x2, Wif_no (by rw [ht]; rfl) (Wif_yes rfl ⟨x2, M12.r.2.1, w13, hu, M13.even hql hl2 _⟩)⟩
    · -- Unmap
      clear h2
      refine ⟨x2, M8.r.2.1, (unmap_law M8.C M8.L x2).mono ?_⟩
      rintro _ w9 (⟨p, f, i, S9, rfl, hpg, rfl, hc, hz', hi, g1, g2, T, L9⟩ | ⟨hno, rfl, T⟩)
      · obtain ⟨fp9, M9⟩ := M8.step T hc L9
        clear T M8
        have h1 := onI_some hpg
        refine ⟨_, _, rfl, p, M9.r.2.1, _, M9.on.look p, Wif_no (by rw [h1]; rfl) (Wif_yes rfl ((M9.rel hi g1 g2).mono ?_))⟩
        rintro _ w10 ⟨rfl, S10, fp10, M10, _⟩
        obtain ⟨w11, hu, M11⟩ := M10.upd (on' := upd pg p none) (x := (p : Int)) hr2 (v := 0) fun y => by rw [onI_upd]; rfl
        exact ⟨_, rfl, Wif_no rfl ⟨p, M10.r.2.1, w11, hu, M11.even hql hl2 _⟩⟩
      · obtain ⟨fp9, M9⟩ := M8.step T rfl M8.L
        have h1 := onI_none hno
        obtain ⟨w11, hu, M11⟩ := M9.upd (on' := pg) (x := x2) hr2 (v := 0) fun y => by
          by_cases e : y = x2
          · rw [if_pos e, e, h1]
          · rw [if_neg e]
        exact ⟨_, _, rfl, x2, M9.r.2.1, _, M9.on.look x2, Wif_no (by rw [h1]; rfl) (Wif_no rfl ⟨x2, M9.r.2.1, w11, hu, M11.even hql hl2 _⟩)⟩
    · -- Unmap, Map
      clear h3
      refine ⟨x2, M8.r.2.1, (unmap_law M8.C M8.L x2).mono ?_⟩
      rintro _ w9 (⟨p, f, i, S9, rfl, hpg, rfl, hc, hz', hi, g1, g2, T, L9⟩ | ⟨hno, rfl, T⟩)
      rotate_left
      · obtain ⟨fp9, M9⟩ := M8.step T rfl M8.L
        have h1 := onI_none hno
        exact ⟨_, _, rfl, x2, M9.r.2.1, _, M9.on.look x2, Wif_no (by rw [h1]; rfl) (Wif_yes rfl (M9.inv hql hl2))⟩
      obtain ⟨fp9, M9⟩ := M8.step T hc L9
      clear T M8
      have h1 := onI_some hpg
      obtain ⟨w10, hu, M10⟩ := M9.upd (on' := upd pg p none) (x := (p : Int)) hr2 (v := 0) fun y => by rw [onI_upd]; rfl
      refine ⟨_, _, rfl, p, M9.r.2.1, _, M9.on.look p, Wif_no (by rw [h1]; rfl) (Wif_no rfl ⟨p, M9.r.2.1, w10, hu, x3, M10.r.2.2, x3, fun _ => M10.r.2.2, x3, fun _ => M10.r.2.2, _, fun _ => M10.on.look x3, x3, M10.r.2.2, (map_law M10.C L9 hi g1 g2 x3).mono ?_⟩)⟩
      clear M9 hu
      rintro _ w11 (⟨er, h0, rfl, hno, T⟩ | ⟨p', S12, hp2, hp, hn, rfl, hc12, hz12, T, L12⟩)
      · obtain ⟨fp12, M12⟩ := M10.step T rfl L9
        have he : (er == 0) = false := by simpa using h0
        have ht := to_no hno
        refine ⟨er, rfl, Wif_no (by rw [he, ht]; rfl) (Wif_yes (by rw [ht]; rfl) ((M12.rel hi g1 g2).mono ?_))⟩
        rintro _ w13 ⟨rfl, S13, fp13, M13, _⟩
        exact ⟨_, rfl, Wif_no rfl (Wif_no ht (M13.even hql hl2 _))⟩
      · obtain ⟨fp12, M12⟩ := M10.step T hc12 L12
        have ht := to_iff.2 ⟨p', hp2, hp, hn⟩
        obtain ⟨w13, hu, M13⟩ := M12.upd (on' := upd (upd pg p none) p' (some f)) (x := x3) hr3 (v := 1) fun y => by rw [onI_upd, hp2]; rfl
        exact ⟨0, rfl, Wif_no (by rw [ht]; rfl) (Wif_no (by rw [ht]; rfl) (Wif_yes ht ⟨x3, M12.r.2.2, w13, hu, M13.even hql hl2 _⟩))⟩
  · -- the end
    obtain ⟨b, hbs⟩ := L6.sp
    have h2 : S.sp 2 = none := by rw [hbs]; rfl
    refine (unmap2 C6 h2).mono ?_
    rintro _ w7 ⟨rfl, k7⟩
    refine ⟨_, _, rfl, (unmapN w7).mono ?_⟩
    rintro _ w8 ⟨rfl, k8⟩
    have K8 := k7.tr k8
    refine ⟨_, _, rfl, Wif_yes rfl ((map2 (C6.k K8) h2).mono ?_)⟩
    rintro _ w9 ⟨rfl, k9⟩
    have K9 := K8.tr k9
    refine ⟨_, rfl, Wif_yes rfl ((mapNeg (C6.k K9) (b := b) (by rw [hbs]; rfl)).mono ?_)⟩
    rintro _ w10 ⟨rfl, k10⟩
    have K10 := K9.tr k10
    refine ⟨_, rfl, Wif_yes rfl ((mapN w10).mono ?_)⟩
    rintro _ w11 ⟨rfl, k11⟩
    refine ⟨_, rfl, Wif_yes rfl ((releaseN w11).mono ?_)⟩
    rintro _ w12 ⟨rfl, k12⟩
    exact ⟨_, rfl, Wif_yes rfl (known_k hz (by omega) (k6.tr ((K10.tr k11).tr k12)))⟩
end Go.Proofs.YtklmokolnakkoaaGreatDoor
