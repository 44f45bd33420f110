/-
  A part of a proof that a law of this seat returns true at every input. Conditions: those in each theorem.
-/
import Derived.Test.YtklmokolnakkoaaGreatDoorB0
import Derived.Test.YtklmokolnakkoaaGreatDoorN3
import Derived.Test.YtklmokolnakkoaaGreatDoorZ1
import Derived.Test.YtklmokolnakkoaaGreatDoorX5
set_option linter.unusedVariables false
set_option maxRecDepth 100000
namespace Go.Proofs.YtklmokolnakkoaaGreatDoor
open Go Go.Eng
open Go.Value (slice pointer)
/- byre/byrelaw21.even -/
def vcP27 (k : OA) (w : World) (K : KV) : Prop := Calls Tryz.prog 19 #[pointer k] w fun e w' => ∃ (f : Nat → Int) (a : OA) (l c : Nat) (a_1 : OA) (l_1 c_1 : Nat) (a_2 : OA) (l_2 c_2 : Nat) (a_3 : OA) (l_3 c_3 : Nat) (a_4 : OA) (l_4 c_4 : Nat) (a_5 : OA) (l_5 c_5 : Nat) (a_6 : OA) (l_6 c_6 : Nat) (a_7 : OA) (l_7 c_7 : Nat) (a_8 : OA) (l_8 c_8 : Nat) (a_9 : OA) (l_9 c_9 : Nat) (a_10 : OA) (l_10 c_10 : Nat) (a_11 : OA) (l_11 c_11 : Nat) (a_12 : OA) (l_12 c_12 : Nat), e = .returned (.agg (List.toArray (runI .i64 f 0 94 ++ [slice a l c, slice a_1 l_1 c_1, slice a_2 l_2 c_2, slice a_3 l_3 c_3, slice a_4 l_4 c_4, slice a_5 l_5 c_5, slice a_6 l_6 c_6, slice a_7 l_7 c_7, slice a_8 l_8 c_8, slice a_9 l_9 c_9, slice a_10 l_10 c_10, slice a_11 l_11 c_11, slice a_12 l_12 c_12]))) ∧ ∀ w'_1, w'_1 = w'.alloc (.cells (List.toArray (List.replicate 94 (vi 0) ++ List.replicate 13 (slice none 0 0))) 68) → wrAll w'_1 w'.heap.size 0 (runI .i64 f 0 94 ++ [slice a l c, slice a_1 l_1 c_1, slice a_2 l_2 c_2, slice a_3 l_3 c_3, slice a_4 l_4 c_4, slice a_5 l_5 c_5, slice a_6 l_6 c_6, slice a_7 l_7 c_7, slice a_8 l_8 c_8, slice a_9 l_9 c_9, slice a_10 l_10 c_10, slice a_11 l_11 c_11, slice a_12 l_12 c_12]) ∧ ∀ w'_2, w'_2 = stAll w'_1 w'.heap.size 0 (runI .i64 f 0 94 ++ [slice a l c, slice a_1 l_1 c_1, slice a_2 l_2 c_2, slice a_3 l_3 c_3, slice a_4 l_4 c_4, slice a_5 l_5 c_5, slice a_6 l_6 c_6, slice a_7 l_7 c_7, slice a_8 l_8 c_8, slice a_9 l_9 c_9, slice a_10 l_10 c_10, slice a_11 l_11 c_11, slice a_12 l_12 c_12]) → ∃ (x : OA) (x_1 x_2 : Nat), rd w'_2 w'.heap.size 99 = some (.slice x x_1 x_2) ∧ Wif ((↑x_1 : Int) != 1) (K (.bool false) w'_2) (∀ w'_3, w'_3 = w'_2.alloc (.map #[] 0) → ∃ (x : OA) (x_3 x_4 : Nat), rd w'_3 w'.heap.size 99 = some (.slice x x_3 x_4) ∧ Wif (isP x) (Wif (inB 0 x_3) (∃ (x_5 : OA) (x_6 x_7 : Nat), rd w'_3 (pb x) (po x + 3) = some (.slice x_5 x_6 x_7) ∧ ∃ (I : Bool → Int → World → Nat → Prop), (∃ (n : Nat), I false 0 w'_3 n) ∧ ∀ (b : Bool) (n : Int) (w'_4 : World) (n_1 : Nat), I b n w'_4 n_1 → Wif (decide (n < (↑x_6 : Int))) (Wif (isP x_5) (Wif (inB n x_6) (∃ (x x_8 x_9 : Int), (rd w'_4 (pb x_5) (po x_5 + Int.toNat n * 3) = some (.int .i64 x) ∧ rd w'_4 (pb x_5) (po x_5 + Int.toNat n * 3 + 1) = some (.int .u8 x_8) ∧ rd w'_4 (pb x_5) (po x_5 + Int.toNat n * 3 + 2) = some (.int .i64 x_9)) ∧ ∀ w'_5, w'_5 = w'_4.alloc (.cells #[vi 0, Value.int .u8 0, vi 0] 96) → (wr w'_5 w'_4.heap.size 0 ∧ wr w'_5 w'_4.heap.size 1 ∧ wr w'_5 w'_4.heap.size 2) ∧ ∀ w'_6, w'_6 = st (st (st w'_5 w'_4.heap.size 0 (vi x)) w'_4.heap.size 1 (Value.int .u8 x_8)) w'_4.heap.size 2 (vi x_9) → ∀ w1, w1 = w'_6.drew → ∃ (x : Int), rd w1 w'_4.heap.size 1 = some (.int .u8 x) ∧ ∃ (x_10 : Int), ((x != 1) = false → rd w1 w'_4.heap.size 2 = some (.int .i64 x_10)) ∧ ∃ (x_11 : Int), ((x != 1 || decide (x_10 < 0)) = false → rd w1 w'_4.heap.size 2 = some (.int .i64 x_11)) ∧ ∃ (x_12 : OA) (x_13 x_14 : Nat), ((x != 1 || decide (x_10 < 0)) = false → rd w1 w'.heap.size 94 = some (.slice x_12 x_13 x_14)) ∧ ∃ (x_15 : OA) (x_16 x_17 : Nat), ((x != 1 || decide (x_10 < 0) || decide (x_11 ≥ (↑x_13 : Int))) = false → rd w1 w'.heap.size 94 = some (.slice x_15 x_16 x_17)) ∧ ∃ (x_18 : Int), ((x != 1 || decide (x_10 < 0) || decide (x_11 ≥ (↑x_13 : Int))) = false → rd w1 w'_4.heap.size 2 = some (.int .i64 x_18)) ∧ gIf (isP x_15) ((x != 1 || decide (x_10 < 0) || decide (x_11 ≥ (↑x_13 : Int))) = false) (gIf (inB x_18 x_16) ((x != 1 || decide (x_10 < 0) || decide (x_11 ≥ (↑x_13 : Int))) = false) (∃ (x_19 x_20 x_21 x_22 x_23 : Int), ((x != 1 || decide (x_10 < 0) || decide (x_11 ≥ (↑x_13 : Int))) = false → rd w1 (pb x_15) (po x_15 + Int.toNat x_18 * 5) = some (.int .u8 x_19) ∧ rd w1 (pb x_15) (po x_15 + Int.toNat x_18 * 5 + 1) = some (.int .i64 x_20) ∧ rd w1 (pb x_15) (po x_15 + Int.toNat x_18 * 5 + 2) = some (.int .i64 x_21) ∧ rd w1 (pb x_15) (po x_15 + Int.toNat x_18 * 5 + 3) = some (.int .i64 x_22) ∧ rd w1 (pb x_15) (po x_15 + Int.toNat x_18 * 5 + 4) = some (.int .i64 x_23)) ∧ ∃ (x_24 : Int), ((x != 1 || decide (x_10 < 0) || decide (x_11 ≥ (↑x_13 : Int))) = false → rd w1 w'_4.heap.size 0 = some (.int .i64 x_24)) ∧ Wif (x != 1 || decide (x_10 < 0) || decide (x_11 ≥ (↑x_13 : Int)) || !(x_19 == 4 && (x_20 == 0 && (x_21 == 1 && (x_22 == x_24 && (x_23 == 0 && true)))))) (K (.bool false) w1) (∃ (x : Int), rd w1 w'_4.heap.size 2 = some (.int .i64 x) ∧ ∃ (x_25 : Int), rd w1 w'_4.heap.size 0 = some (.int .i64 x_25) ∧ ∃ (w' : World), updIs Tryz.prog 101 (Value.map (some w'_2.heap.size)) (vi x) (vi x_25) w1 w' ∧ ∃ m, Nat.succ m ≤ n_1 ∧ I b (IntKind.wrap .i64 (n + 1)) w' m)))) False) False) (∃ (x : OA) (x_8 x_9 : Nat), rd w'_4 w'.heap.size 100 = some (.slice x x_8 x_9) ∧ ∃ (I : Bool → Int → World → Nat → Prop), (∃ (n : Nat), I b 0 w'_4 n) ∧ ∀ (b : Bool) (n : Int) (w'_5 : World) (n_2 : Nat), I b n w'_5 n_2 → Wif (decide (n < (↑x_8 : Int))) (Wif (isP x) (Wif (inB n x_8) (∃ (x_10 x_11 x_12 : Int), (rd w'_5 (pb x) (po x + Int.toNat n * 3) = some (.int .i64 x_10) ∧ rd w'_5 (pb x) (po x + Int.toNat n * 3 + 1) = some (.int .i64 x_11) ∧ rd w'_5 (pb x) (po x + Int.toNat n * 3 + 2) = some (.int .i64 x_12)) ∧ ∀ w', w' = w'_5.alloc (.cells #[vi 0, vi 0, vi 0] 98) → (wr w' w'_5.heap.size 0 ∧ wr w' w'_5.heap.size 1 ∧ wr w' w'_5.heap.size 2) ∧ ∀ w'_6, w'_6 = st (st (st w' w'_5.heap.size 0 (vi x_10)) w'_5.heap.size 1 (vi x_11)) w'_5.heap.size 2 (vi x_12) → ∃ (x : Int), rd w'_6 w'_5.heap.size 0 = some (.int .i64 x) ∧ ∃ (x_13 : Int) (x_14 : Bool), lookIs Tryz.prog 101 (Value.map (some w'_2.heap.size)) (vi x) true (Value.tuple #[vi x_13, Value.bool x_14]) w'_6 ∧ ∃ (x : Int), ((!x_14) = false → rd w'_6 w'_5.heap.size 2 = some (.int .i64 x)) ∧ ∃ (x_15 : Int), ((!x_14 || x_13 != x) = false → rd w'_6 w'_5.heap.size 1 = some (.int .i64 x_15)) ∧ Wif (!x_14 || x_13 != x || x_15 != 1) (K (.bool false) w'_6) (∃ m, Nat.succ m ≤ n_2 ∧ I b (IntKind.wrap .i64 (n + 1)) w'_6 m)) False) False) (∃ (x : OA) (x_10 x_11 : Nat), rd w'_5 w'.heap.size 101 = some (.slice x x_10 x_11) ∧ ∃ (I : Bool → Int → Int → World → Nat → Prop), (∃ (n : Nat), I b 0 0 w'_5 n) ∧ ∀ (b : Bool) (n n_3 : Int) (w'_6 : World) (n_4 : Nat), I b n n_3 w'_6 n_4 → Wif (decide (n_3 < (↑x_10 : Int))) (Wif (isP x) (Wif (inB n_3 x_10) (∃ (x_12 : OA) (x_13 x_14 : Nat), rd w'_6 (pb x) (po x + Int.toNat n_3 * 1) = some (.slice x_12 x_13 x_14) ∧ ∃ (I_1 : Bool → Int → Int → World → Nat → Prop), (∃ (n_5 : Nat), I_1 b n 0 w'_6 n_5) ∧ ∀ (b : Bool) (n n_5 : Int) (w' : World) (n_6 : Nat), I_1 b n n_5 w' n_6 → Wif (decide (n_5 < (↑x_13 : Int))) (Wif (isP x_12) (Wif (inB n_5 x_13) (∃ (x : Int), rd w' (pb x_12) (po x_12 + Int.toNat n_5 * 1) = some (.int .i64 x) ∧ ∃ (x_15 : Int) (x_16 : Bool), lookIs Tryz.prog 101 (Value.map (some w'_2.heap.size)) (vi x) true (Value.tuple #[vi x_15, Value.bool x_16]) w' ∧ Wif (!x_16) (K (.bool false) w') (Calls Tryz.prog 104 #[pointer k, vi x] w' fun e w' => ∃ (n_7 : Int), e = Ending.returned (vi n_7) ∧ Wif (n_7 != n_3) (K (.bool false) w') (∃ m, Nat.succ m ≤ n_6 ∧ I_1 b (IntKind.wrap .i64 (n + 1)) (IntKind.wrap .i64 (n_5 + 1)) w' m))) False) False) (∃ m, Nat.succ m ≤ n_4 ∧ I b n (IntKind.wrap .i64 (n_3 + 1)) w' m)) False) False) (∃ (x : OA) (x_12 x_13 : Nat), rd w'_6 w'.heap.size 95 = some (.slice x x_12 x_13) ∧ ∃ (I : Bool → Int → Int → World → Nat → Prop), (∃ (n : Nat), I b 0 0 w'_6 n) ∧ ∀ (b : Bool) (n_5 n_6 : Int) (w'_7 : World) (n_7 : Nat), I b n_5 n_6 w'_7 n_7 → Wif (decide (n_6 < (↑x_12 : Int))) (Wif (isP x) (Wif (inB n_6 x_12) (∃ (x_14 x_15 : Int), (rd w'_7 (pb x) (po x + Int.toNat n_6 * 2) = some (.int .i64 x_14) ∧ rd w'_7 (pb x) (po x + Int.toNat n_6 * 2 + 1) = some (.int .i64 x_15)) ∧ ∀ w'_8, w'_8 = w'_7.alloc (.cells #[vi 0, vi 0] 87) → (wr w'_8 w'_7.heap.size 0 ∧ wr w'_8 w'_7.heap.size 1) ∧ ∀ w'_9, w'_9 = st (st w'_8 w'_7.heap.size 0 (vi x_14)) w'_7.heap.size 1 (vi x_15) → ∃ (x : Int), rd w'_9 w'_7.heap.size 0 = some (.int .i64 x) ∧ ∃ (I_1 : Bool → Int → Int → World → Nat → Prop), (∃ (n : Nat), I_1 b n_5 x w'_9 n) ∧ ∀ (b : Bool) (n n_8 : Int) (w'_10 : World) (n_9 : Nat), I_1 b n n_8 w'_10 n_9 → ∀ w1, w1 = w'_10.drew → ∃ (x : Int), rd w1 w'_7.heap.size 0 = some (.int .i64 x) ∧ ∃ (x_16 : Int), rd w1 w'_7.heap.size 1 = some (.int .i64 x_16) ∧ Wif (decide (0 ≤ x_16)) (∃ (x_17 : OA) (x_18 x_19 : Nat), (decide (n_8 < IntKind.wrap .i64 (x + IntKind.wrap .i64 (1 * 2 ^ min (Int.toNat x_16) 64))) = true → rd w1 w'.heap.size 94 = some (.slice x_17 x_18 x_19)) ∧ Wif (decide (n_8 < IntKind.wrap .i64 (x + IntKind.wrap .i64 (1 * 2 ^ min (Int.toNat x_16) 64))) && decide (n_8 < (↑x_18 : Int))) (∃ (x : OA) (x_20 x_21 : Nat), rd w1 w'.heap.size 94 = some (.slice x x_20 x_21) ∧ Wif (isP x) (Wif (inB n_8 x_20) (∃ (x_22 : Int), rd w1 (pb x) (po x + Int.toNat n_8 * 5) = some (.int .u8 x_22) ∧ Wif (x_22 != 1) (K (.bool false) w1) (∃ m, Nat.succ m ≤ n_9 ∧ I_1 b (IntKind.wrap .i64 (n + 1)) (IntKind.wrap .i64 (n_8 + 1)) w1 m)) False) False) (∃ m, Nat.succ m ≤ n_7 ∧ I b n (IntKind.wrap .i64 (n_6 + 1)) w1 m)) False) False) False) (∃ (x : Int), lenIs Tryz.prog #[101] 3 (Value.map (some w'_2.heap.size)) x w'_7 ∧ ∃ (x_14 : OA) (x_15 x_16 : Nat), ((n == x) = true → rd w'_7 w'.heap.size 100 = some (.slice x_14 x_15 x_16)) ∧ ∃ (x_17 : OA) (x_18 x_19 : Nat), ((n == x && (↑x_15 : Int) == n) = true → rd w'_7 w'.heap.size 94 = some (.slice x_17 x_18 x_19)) ∧ K (.bool (n == x && (↑x_15 : Int) == n && IntKind.wrap .i64 (IntKind.wrap .i64 (n_5 + n) + 2) == (↑x_18 : Int))) w'_7))))) False) False)
theorem vc27 (k : OA) (w : World) (K : KV) (h : vcP27 k w K) : Calls Tryz.prog 27 #[pointer k] w (fun e w' => ∃ v, e = .returned v ∧ K v w') := Eng.vc_of [167, 120, 130, 61, 133, 143, 134, 91, 103, 113, 98, 99, 169, 190, 216, 197, 162] 3 [] Tryz.mixes Tryz.func27 (by kernel_rfl) (by kernel_rfl) (by kernel_rfl) h
end Go.Proofs.YtklmokolnakkoaaGreatDoor
set_option linter.unusedSimpArgs false
set_option linter.unusedVariables false
set_option maxRecDepth 100000
namespace Go.Proofs.YtklmokolnakkoaaGreatDoor
open Go Go.Eng
theorem range_get' {α : Type} {n i : Nat} {f : Nat → α} (hi : i < n) : ((List.range n).map f)[i]? = some (f i) := by rw [List.getElem?_map, List.getElem?_range hi]; rfl
theorem st3' {w w' : World} {b : Nat} {cs : List Value} {v0 v1 v2 : Value} (h : own w b cs) (hl : cs.length = 3) (e : w' = st (st (st w b 0 v0) b 1 v1) b 2 v2) : own w' b [v0, v1, v2] ∧ Kept (· = b) w w' := by
  subst e
  match cs, hl with
  | [a, c, d], _ => exact ⟨h.st_same.st_same.st_same, (((Kept.refl (· = b) w).st (.inl rfl)).st (.inl rfl)).st (.inl rfl)⟩
theorem shlE2 {o : Nat} (ho : o ≤ 10) : IntKind.wrap .i64 (1 * 2 ^ min (Int.toNat (o : Int)) 64) = ((2 ^ o : Nat) : Int) := shl1 ho
set_option maxHeartbeats 4000000 in
theorem even_spec {w : World} {k : Nat} {S : Mach} {fp : Prt → Nat → Prop} {rt lf cnt : Nat} {pg : Nat → Option Nat} (h : CoreAt w k S fp) (L : LSt S rt lf pg none cnt) :
    Calls Tryz.prog 27 #[ptr k] w fun e w' => e = .returned (.bool true) ∧ Kept none' w w' := by
  refine (vc27 _ w (fun v w' => v = .bool true ∧ Kept none' w w') ?_).mono ?_
  rotate_left
  · rintro e w' ⟨v, rfl, rfl, h⟩
    exact ⟨rfl, h⟩
  have hs := h.sizes
  have hn := h.n4
  have hcnt := L.cnt32
  unfold vcP27
  refine (picture_spec h (procC_of h L.by') (fun i _ => by rw [L.held]; exact Nat.zero_le _) (fun i hi => by have := L.ring_len hi; omega) (by rw [L.fli, List.length_replicate]; omega)).mono ?_
  rintro _ w5 ⟨PS, rfl, k5, A5⟩
  refine ⟨_, _, _, _, _, _, _, _, _, _, _, _, _, _, _, _, _, _, _, _, _, _, _, _, _, _, _, _, _, _, _, _, _, _, _, _, _, _, _, _, rfl, fun w6 e6 => ?_⟩
  have o6 := own_alloc e6
  have k6 : Kept none' w5 w6 := (Kept.refl _ _).al e6
  refine ⟨o6.wrAll 0 (by simp [runI_len]), fun w7 e7 => ?_⟩
  obtain ⟨o7, k7'⟩ := stAll_whole o6 e7 (by simp [runI_len])
  have k7 : Kept none' w5 w7 := own0 k6 k7' fun x e => Nat.le_of_eq e.symm
  have P7 := (A5.now).k k7
  have K7 : Kept none' w w7 := k5.tr k7
  have C7 := h.k K7
  clear e6 e7 k6 k7' o6 A5
  generalize w5.heap.size = br at *
  have rb : ∀ {W : World}, Kept none' w7 W → ∀ {j : Nat} {v : Value}, (sl13 PS)[j]? = some v → rd W br (94 + j) = some v := fun kk j v hv => by
    rw [(o7.k kk).rd, List.getElem?_append_right (by rw [runI_len]; omega), runI_len, Nat.add_sub_cancel_left]; exact hv
  have kr := Kept.refl none' w7
  have ep : (picOf S (procOf S)).procs = [procOf S 1] := L.procs
  have eo : (picOf S (procOf S)).frames = owns S.n S.rof := rfl
  have ec : (picOf S (procOf S)).clocks = (List.range S.nodes).map fun i => sortI (S.ring i) := rfl
  have ef : (picOf S (procOf S)).free = (zsh S.Z.c S.L S.Z.k).map intP := rfl
  have em : (picOf S (procOf S)).marks = (List.range S.n).map S.mks := rfl
  have l5 : PS.l 5 = 1 := by rw [P7.procs.len, ep]; rfl
  have l6 : PS.l 6 = cnt := by rw [P7.frames.len, eo, L.cr]
  have l7 : PS.l 7 = S.nodes := by rw [P7.clocks.len, ec, List.length_map, List.length_range]
  have l0 : PS.l 0 = S.n := by rw [P7.marks.len, em, List.length_map, List.length_range]
  refine ⟨_, _, _, rb kr (j := 5) rfl, Wif_no (by rw [l5]; rfl) fun w8 e8 => ?_⟩
  have m8 : MapIs w8 w7.heap.size [] := map_new e8
  have k8 : Kept none' w7 w8 := e8 ▸ (Kept.refl _ _).allocMap _ _
  have hm := m8.lt
  clear e8
  generalize hmm : w7.heap.size = m at *
  obtain ⟨cs, _, hR, hel⟩ := P7.procs.el 0 (procOf S 1) (by rw [ep]; rfl)
  obtain ⟨a1, p1, c1, a2, p2', c2, a3, p3, c3, a4, p4, c4, rfl, _, SP, _, _⟩ := hR
  have SP7 : SlR RMapped 3 w7 a2 p2' c2 (mapL pg 32) := by have := SP; rw [show (procOf S 1).pages = mapL pg 32 from L.pages h] at this; exact this
  have lp : p2' = (mapL pg 32).length := SP7.len
  have hM := L.cntM
  refine ⟨_, _, _, rb k8 (j := 5) rfl, Wif_yes ((P7.k k8).procs.isp (by omega)) (Wif_yes (inB_of (by omega) (by omega)) ⟨a2, p2', c2, k8.rd_some (hel 3 _ rfl) id, ?_⟩)⟩
  refine ⟨fun _ n W N => ∃ q : Nat, n = q ∧ q ≤ (mapL pg 32).length ∧ N = (mapL pg 32).length - q ∧ Kept (· = m) w8 W ∧ MapIs W m (atL ((mapL pg 32).take q)), ⟨_, 0, rfl, Nat.zero_le _, rfl, Kept.refl _ _, m8⟩, ?_⟩
  rintro _ _ w9 _ ⟨q, rfl, hq, rfl, k9, m9⟩
  have K9 : Kept none' w7 w9 := own0 k8 k9 fun x e => by omega
  refine Wif_intro (fun hc => ?_) (fun hc => ?_)
  · have hql : q < (mapL pg 32).length := by simp [lp] at hc; omega
    obtain ⟨x, hx⟩ : ∃ x, (mapL pg 32)[q]? = some x := ⟨_, List.getElem?_eq_getElem hql⟩
    have hnone := L.at_none hx
    obtain ⟨j, f, hj, hpj, rfl⟩ := mapL_mem (List.mem_of_getElem? hx)
    have hf := (L.pgo j f hpj).2.1
    obtain ⟨cs, _, hR, hr⟩ := SP7.el q _ hx
    obtain rfl : cs = [vi (j : Int), .int .u8 1, vi (f : Int)] := hR
    refine Wif_yes (SP7.isp (by omega)) (Wif_yes (inB_of (by omega) (by omega)) ⟨(j : Int), 1, (f : Int), ?_, fun w10 e10 => ?_⟩)
    · rw [Int.toNat_natCast]
      exact ⟨K9.rd_some (hr 0 _ rfl) id, K9.rd_some (hr 1 _ rfl) id, K9.rd_some (hr 2 _ rfl) id⟩
    have o10 : own w10 w9.heap.size [vi 0, .int .u8 0, vi 0] := own_alloc e10
    have k10 : Kept none' w9 w10 := (Kept.refl _ _).al e10
    refine ⟨⟨o10.wr (by show 0 < 3; decide), o10.wr (by show 1 < 3; decide), o10.wr (by show 2 < 3; decide)⟩, fun w11 e11 w12 e12 => ?_⟩
    obtain ⟨o11, k11'⟩ := st3' o10 rfl e11
    have o12 := o11.dr e12
    have k12 : Kept none' w9 w12 := (own0 k10 k11' fun x e => by omega).dr e12
    have K12 := K9.tr k12
    have r0 : rd w12 w9.heap.size 0 = some (vi (j : Int)) := by rw [o12.rd]; rfl
    have r1 : rd w12 w9.heap.size 1 = some (.int .u8 1) := by rw [o12.rd]; rfl
    have r2 : rd w12 w9.heap.size 2 = some (vi (f : Int)) := by rw [o12.rd]; rfl
    have P12 := P7.k K12
    obtain ⟨cs, _, hR, hr'⟩ := P12.marks.el f (pageM j) (by rw [em, ← L.mk2 j f hpj]; exact range_get' hf)
    obtain rfl : cs = [.int .u8 4, vi 0, vi 1, vi (j : Int), vi 0] := hR
    refine ⟨1, r1, (f : Int), (fun _ => r2), (f : Int), (fun _ => r2), _, _, _, (fun _ => rb K12 (j := 0) rfl), _, _, _, (fun _ => rb K12 (j := 0) rfl), (f : Int), (fun _ => r2), gIf_intro (fun _ => P12.marks.isp (by omega)) (gIf_intro (fun _ => inB_of (by omega) (by omega)) ⟨4, 0, 1, (j : Int), 0, (fun _ => ?_), (j : Int), (fun _ => r0), Wif_no ?_ ⟨(f : Int), r2, (j : Int), r0, ?_⟩⟩)⟩
    · rw [Int.toNat_natCast]
      exact ⟨hr' 0 _ rfl, hr' 1 _ rfl, hr' 2 _ rfl, hr' 3 _ rfl, hr' 4 _ rfl⟩
    · rw [l0]; simp; omega
    · obtain ⟨w13, hu, m13, k13⟩ := upd_new (mt := 101) (vt := 3) (kt := 3) Tryz.underlying101 Tryz.underlying3 (m9.k k12) (f : Int) (vi (j : Int)) (by omega) hnone
      refine ⟨w13, hu, (mapL pg 32).length - (q + 1), by omega, q + 1, by rw [wi (by omega)]; rfl, hql, rfl, (k9.trans k12 fun _ _ e => e.elim).trans k13 fun _ _ e => e, ?_⟩
      have : atL ((mapL pg 32).take (q + 1)) = atL ((mapL pg 32).take q) ++ [((f : Int), vi (j : Int))] := by
        unfold atL
        rw [List.take_add_one, hx, List.map_append]
        rfl
      rw [this]
      exact m13
  have hqe : q = (mapL pg 32).length := by simp [lp] at hc; omega
  subst hqe
  rw [List.take_length] at m9
  clear hc hq
  -- whose frames are
  have look : ∀ {W : World} {j f : Nat}, Kept none' w9 W → pg j = some f → lookIs Tryz.prog 101 (.map (some m)) (vi f) true (.tuple #[vi j, .bool true]) W := fun {W j f} kk hj => by
    have := look2 (P := Tryz.prog) (mt := 101) (vt := 3) (kt := 3) Tryz.underlying101 Tryz.underlying3 (m9.k kk) (f : Int) (Tryz.zeroValue3 W)
    rw [L.at_some m9 hj] at this
    exact this
  have kr9 := Kept.refl none' w9
  refine ⟨_, _, _, rb K9 (j := 6) rfl, fun _ n W N => ∃ q : Nat, n = q ∧ q ≤ cnt ∧ N = cnt - q ∧ Kept none' w9 W, ⟨cnt, 0, rfl, Nat.zero_le _, rfl, kr9⟩, ?_⟩
  rintro _ _ w10 _ ⟨q, rfl, hq, rfl, k10⟩
  have K10 := K9.tr k10
  refine Wif_intro (fun hc => ?_) (fun hc => ?_)
  · have hqc : q < cnt := by simp [l6] at hc; omega
    have P10 := P7.k K10
    obtain ⟨x, hx⟩ : ∃ x, (owns S.n S.rof)[q]? = some x := ⟨_, List.getElem?_eq_getElem (by rw [L.cr]; exact hqc)⟩
    obtain ⟨j, f, hj, rfl⟩ := L.own_mem (List.mem_of_getElem? hx)
    obtain ⟨cs, _, hR, hr⟩ := P10.frames.el q _ (by rw [eo]; exact hx)
    obtain rfl : cs = [vi (f : Int), vi 1, vi (j : Int)] := hR
    refine Wif_yes (P10.frames.isp (by omega)) (Wif_yes (inB_of (by omega) (by omega)) ⟨(f : Int), 1, (j : Int), by rw [Int.toNat_natCast]; exact ⟨hr 0 _ rfl, hr 1 _ rfl, hr 2 _ rfl⟩, fun w11 e11 => ?_⟩)
    have o11 : own w11 w10.heap.size [vi 0, vi 0, vi 0] := own_alloc e11
    have k11 : Kept none' w10 w11 := (Kept.refl _ _).al e11
    refine ⟨⟨o11.wr (by show 0 < 3; decide), o11.wr (by show 1 < 3; decide), o11.wr (by show 2 < 3; decide)⟩, fun w12 e12 => ?_⟩
    obtain ⟨o12, k12'⟩ := st3' o11 rfl e12
    have k12 : Kept none' w10 w12 := own0 k11 k12' fun x e => by omega
    have r0 : rd w12 w10.heap.size 0 = some (vi (f : Int)) := by rw [o12.rd]; rfl
    have r1 : rd w12 w10.heap.size 1 = some (vi 1) := by rw [o12.rd]; rfl
    have r2 : rd w12 w10.heap.size 2 = some (vi (j : Int)) := by rw [o12.rd]; rfl
    exact ⟨_, r0, (j : Int), true, look (k10.tr k12) hj, (j : Int), (fun _ => r2), 1, (fun _ => r1), Wif_no (by simp) ⟨cnt - (q + 1), by omega, q + 1, by rw [wi (by omega)]; rfl, hqc, rfl, k10.tr k12⟩⟩
  clear hc hq q
  -- clocks
  have hcc := L.cc
  refine ⟨_, _, _, rb K10 (j := 7) rfl, fun _ n t W N => ∃ q : Nat, t = q ∧ q ≤ S.nodes ∧ N = S.nodes - q ∧ Kept none' w9 W ∧ n = ((sumN q fun i => (S.ring i).length : Nat) : Int), ⟨S.nodes, 0, rfl, Nat.zero_le _, rfl, k10, rfl⟩, ?_⟩
  rintro _ _ _ w11 _ ⟨q, rfl, hq, rfl, k11, rfl⟩
  have K11 := K9.tr k11
  refine Wif_intro (fun hc => ?_) (fun hc => ?_)
  · have hqn : q < S.nodes := by simp [l7] at hc; omega
    have P11 := P7.k K11
    obtain ⟨b, lb, cb, SL, hrb⟩ := P11.clocks.sl (i := q) (x := sortI (S.ring q)) (by rw [ec]; exact range_get' hqn)
    have hlb : lb = (S.ring q).length := by rw [SL.len, sortI_len]
    have hrl := L.ring_len hqn
    have hsucc := sumN_succ q fun i => (S.ring i).length
    have hle : sumN (q + 1) (fun i => (S.ring i).length) ≤ 1000 := by
      have h32 : ∀ t, t ≤ S.nodes → sumN t (fun i => (S.ring i).length) ≤ 32 * t := fun t ht => by
        induction t with
        | zero => exact Nat.le_refl _
        | succ t ih =>
          have := ih (by omega)
          have := L.ring_len (i := t) (by omega)
          rw [sumN_succ]
          omega
      have := h32 (q + 1) (by omega)
      omega
    refine Wif_yes (P11.clocks.isp (by omega)) (Wif_yes (inB_of (by omega) (by omega)) ⟨b, lb, cb, hrb, fun _ n t W N => ∃ j : Nat, t = j ∧ j ≤ lb ∧ N = lb - j ∧ Kept none' w9 W ∧ n = ((sumN q (fun i => (S.ring i).length) + j : Nat) : Int) ∧ Kept none' w11 W, ⟨lb, 0, rfl, Nat.zero_le _, rfl, k11, rfl, Kept.refl _ _⟩, ?_⟩)
    rintro _ _ _ w12 _ ⟨j, rfl, hj, rfl, k12, rfl, k112⟩
    have K12 := K9.tr k12
    refine Wif_intro (fun hc2 => ?_) (fun hc2 => ?_)
    · have hjl : j < lb := by simp at hc2; omega
      have SL2 := SL.k RInt.stab k112
      obtain ⟨x, hx⟩ : ∃ x, (sortI (S.ring q))[j]? = some x := ⟨_, List.getElem?_eq_getElem (by rw [sortI_len]; omega)⟩
      obtain ⟨pj, f, hpj, rfl, g1, g2⟩ := (L.ckm q hqn x).1 (sortI_mem.1 (List.mem_of_getElem? hx))
      have hf := (L.pgo pj f hpj).2.1
      refine Wif_yes (SL2.isp (by omega)) (Wif_yes (inB_of (by omega) (by omega)) ⟨_, SL2.int hx, (pj : Int), true, look k12 hpj, Wif_no rfl ((core_node (C7.k K12) f (by omega)).mono ?_)⟩)
      rintro _ w13 ⟨k13, ⟨i', hi', q1, q2, rfl⟩ | ⟨q1, rfl⟩⟩
      · have : i' = q := node_uniq h.my hi' hqn q1 q2 g1 g2
        subst this
        exact ⟨_, rfl, Wif_no (by simp) ⟨lb - (j + 1), by omega, j + 1, by rw [wi (by omega)]; rfl, hjl, rfl, k12.tr k13, by rw [wi (by omega)]; omega, k112.tr k13⟩⟩
      · exfalso
        have := fst_le h.my (i := q + 1) (j := S.nodes) (by omega) (Nat.le_refl _)
        omega
    · have : j = lb := by simp at hc2; omega
      subst this
      exact ⟨S.nodes - (q + 1), by omega, q + 1, by rw [wi (by omega)]; rfl, hqn, rfl, k12, by rw [hsucc]; omega⟩
  have hqe : q = S.nodes := by simp [l7] at hc; omega
  subst hqe
  clear hc hq
  have hcc' : sumN S.nodes (fun i => (S.ring i).length) = cnt := hcc
  rw [hcc']
  -- free blocks
  have lF : PS.l 1 = (zsh S.Z.c S.L S.Z.k).length := by rw [P7.free.len, ef, List.length_map]
  have hsum := zsh_sumN (c := S.Z.c) (L := S.L) S.Z.k
  obtain ⟨_, _, hzk⟩ := h.zn
  have hcf := L.cf
  rw [hzk] at hsum lF
  simp at hcf
  have hlen : (zsh S.Z.c S.L S.nodes).length ≤ 1024 := by
    have : ∀ l : List (Nat × Nat), l.length ≤ (l.map fun y => 2 ^ y.2).sum := fun l => by
      induction l with
      | nil => exact Nat.le_refl _
      | cons y l ih =>
        have := p2 y.2
        simp only [List.length_cons, List.map_cons, List.sum_cons]
        omega
    have := this (zsh S.Z.c S.L S.nodes)
    omega
  refine ⟨_, _, _, rb K11 (j := 1) rfl, fun _ n t W N => ∃ q : Nat, t = q ∧ q ≤ (zsh S.Z.c S.L S.nodes).length ∧ N = (zsh S.Z.c S.L S.nodes).length - q ∧ Kept none' w9 W ∧ n = ((((zsh S.Z.c S.L S.nodes).take q).map fun y => 2 ^ y.2).sum : Nat), ⟨_, 0, rfl, Nat.zero_le _, rfl, k11, by simp⟩, ?_⟩
  rintro _ _ _ w12 _ ⟨q, rfl, hq, rfl, k12, rfl⟩
  have K12 := K9.tr k12
  have P12 := P7.k K12
  refine Wif_intro (fun hc => ?_) (fun hc => ?_)
  · have hqz : q < (zsh S.Z.c S.L S.nodes).length := by simp [lF] at hc; omega
    obtain ⟨y, hy⟩ : ∃ y, (zsh S.Z.c S.L S.nodes)[q]? = some y := ⟨_, List.getElem?_eq_getElem hqz⟩
    obtain ⟨g1, g2, g3⟩ := L.free_mk h (y := y) (by rw [hzk]; exact List.mem_of_getElem? hy)
    obtain ⟨cs, _, hR, hr⟩ := P12.free.el q (intP y) (by rw [ef, hzk, List.getElem?_map, hy]; rfl)
    obtain rfl : cs = [vi (y.1 : Int), vi (y.2 : Int)] := hR
    have htk : (((zsh S.Z.c S.L S.nodes).take (q + 1)).map fun y => 2 ^ y.2).sum = (((zsh S.Z.c S.L S.nodes).take q).map fun y => 2 ^ y.2).sum + 2 ^ y.2 := by
      rw [List.take_add_one, hy, List.map_append, List.sum_append]
      simp
    have hpre : (((zsh S.Z.c S.L S.nodes).take (q + 1)).map fun y => 2 ^ y.2).sum ≤ S.n := by
      have : ((zsh S.Z.c S.L S.nodes).map fun y => 2 ^ y.2).sum = (((zsh S.Z.c S.L S.nodes).take (q + 1)).map fun y => 2 ^ y.2).sum + (((zsh S.Z.c S.L S.nodes).drop (q + 1)).map fun y => 2 ^ y.2).sum := by
        rw [← List.sum_append, ← List.map_append, List.take_append_drop]
      omega
    refine Wif_yes (P12.free.isp (by omega)) (Wif_yes (inB_of (by omega) (by omega)) ⟨(y.1 : Int), (y.2 : Int), by rw [Int.toNat_natCast]; exact ⟨hr 0 _ rfl, hr 1 _ rfl⟩, fun w13 e13 => ?_⟩)
    have o13 : own w13 w12.heap.size [vi 0, vi 0] := own_alloc e13
    have k13 : Kept none' w12 w13 := (Kept.refl _ _).al e13
    refine ⟨wr2 o13, fun w14 e14 => ?_⟩
    obtain ⟨o14, k14'⟩ := st2w o13 e14
    have k14 : Kept none' w12 w14 := own0 k13 k14' fun x e => by omega
    refine ⟨_, (rd2 o14).1, fun _ n t W N => ∃ j : Nat, t = ((y.1 + j : Nat) : Int) ∧ j ≤ 2 ^ y.2 ∧ N = 2 ^ y.2 - j ∧ Kept none' w14 W ∧ n = (((((zsh S.Z.c S.L S.nodes).take q).map fun y => 2 ^ y.2).sum + j : Nat) : Int), ⟨2 ^ y.2, 0, rfl, Nat.zero_le _, rfl, Kept.refl _ _, rfl⟩, ?_⟩
    rintro _ _ _ w15 _ ⟨j, rfl, hj, rfl, k15, rfl⟩
    intro w16 e16
    have k16 : Kept none' w14 w16 := k15.dr e16
    have K16 := K12.tr (k14.tr k16)
    have o16 := o14.k k16
    have P16 := P7.k K16
    have hsh := shlE2 g1
    have h10 : 2 ^ y.2 ≤ 1024 := pow10 g1
    refine ⟨_, (rd2 o16).1, _, (rd2 o16).2, Wif_yes (by simp) ⟨_, _, _, (fun _ => rb K16 (j := 0) rfl), ?_⟩⟩
    rw [hsh, wi (x := (y.1 : Int) + ((2 ^ y.2 : Nat) : Int)) (by omega)]
    refine Wif_intro (fun hc2 => ?_) (fun hc2 => ?_)
    · have hjl : j < 2 ^ y.2 := by
        rw [Bool.and_eq_true, decide_eq_true_eq] at hc2
        have h9 := hc2.1
        generalize 2 ^ y.2 = T at *
        omega
      obtain ⟨cs, _, hR, hr'⟩ := P16.marks.el (y.1 + j) mark0 (by rw [em, ← g3 (y.1 + j) (by omega) (by omega)]; exact range_get' (by omega))
      obtain rfl : cs = [.int .u8 1, vi 0, vi 0, vi 0, vi 0] := hR
      exact ⟨_, _, _, rb K16 (j := 0) rfl, Wif_yes (P16.marks.isp (by omega)) (Wif_yes (inB_of (by omega) (by omega)) ⟨1, by rw [Int.toNat_natCast]; exact hr' 0 _ rfl, Wif_no rfl ⟨2 ^ y.2 - (j + 1), by omega, j + 1, by rw [wi (by omega)]; omega, hjl, rfl, k16, by rw [wi (by omega)]; omega⟩⟩)⟩
    · have hje : j = 2 ^ y.2 := by
        rw [l0] at hc2
        by_cases e : j = 2 ^ y.2
        · exact e
        · exfalso
          rw [show (decide (((y.1 + j : Nat) : Int) < (y.1 : Int) + ((2 ^ y.2 : Nat) : Int)) && decide (((y.1 + j : Nat) : Int) < ((S.n : Nat) : Int))) = true by
            rw [Bool.and_eq_true, decide_eq_true_eq, decide_eq_true_eq]; omega] at hc2
          cases hc2
      exact ⟨(zsh S.Z.c S.L S.nodes).length - (q + 1), by omega, q + 1, by rw [wi (by omega)]; rfl, hqz, rfl, k12.tr (k14.tr k16), by rw [htk, hje]⟩
  · have hqe : q = (zsh S.Z.c S.L S.nodes).length := by simp [lF] at hc; omega
    subst hqe
    rw [List.take_length, hsum]
    have hlm := len_map (P := Tryz.prog) (mt := 101) Tryz.underlying101 Tryz.underlying3 (m9.k k12) (by unfold atL; rw [List.length_map, hM]; omega) (ty := 3)
    have hal : (atL (mapL pg 32)).length = cnt := by unfold atL; rw [List.length_map, hM]
    rw [hal] at hlm
    refine ⟨(cnt : Int), hlm, _, _, _, (fun _ => rb K12 (j := 6) rfl), _, _, _, (fun _ => rb K12 (j := 0) rfl), ?_, K7.tr K12⟩
    rw [l6, l0, wi (x := ((sumN S.nodes fun i => fsum (S.L i) : Nat) : Int) + (cnt : Int)) (by omega), wi (by omega)]
    congr 1
    simp
    omega
end Go.Proofs.YtklmokolnakkoaaGreatDoor
set_option linter.unusedSimpArgs false
set_option linter.unusedVariables false
set_option maxRecDepth 100000
namespace Go.Proofs.YtklmokolnakkoaaGreatDoor
open Go Go.Eng
section
variable {w : World} {k : Nat} {S : Mach} {fp : Prt → Nat → Prop} {rt lf cnt : Nat} {pg : Nat → Option Nat}
theorem take_law (h : CoreAt w k S fp) (L : LSt S rt lf pg none cnt) {base : Nat} {a : Option Addr} {l c : Nat} {xs : List Int} (R : RowI w base a l c xs) (hl : xs.length ≤ 8) :
    Calls Tryz.prog 23 #[ptr S.pz, .slice a l c, vi 0, .bool true] w fun e w' => (∃ er : Int, er ≠ 0 ∧ e = .returned (.tuple #[vi 0, vi er]) ∧ Step w w' k S fp) ∨
      ∃ (f i : Nat) (S' : Mach), e = .returned (.tuple #[vi f, vi 0]) ∧ Step w w' k S' fp ∧ S'.c = S.c ∧ S'.pz = S.pz ∧ i < S'.nodes ∧ fstF S'.c i ≤ f ∧ (f : Int) < fstF S'.c (i + 1) ∧ LSt S' rt lf pg (some f) cnt := by
  obtain ⟨Z, hc, hk⟩ := h.zn
  have hlen := R.1
  have hnf : ∀ i, i < l → rd w (pb a) (po a + i) = some (vi (xs.getD i 0)) := fun i hi => by
    have hx : xs[i]? = some (xs.getD i 0) := by rw [List.getD_eq_getElem?_getD, List.getElem?_eq_getElem (by omega)]; rfl
    have := (R.rd hx).2
    rw [Int.toNat_natCast, Nat.mul_one] at this
    exact this
  refine (ztake_spec Z (nf := fun i => xs.getD i 0) (by omega) (fun h0 => (R.rd (i := 0) (x := xs.getD 0 0) (by rw [List.getD_eq_getElem?_getD, List.getElem?_eq_getElem (by omega)]; rfl)).1) hnf 0 true).mono ?_
  rintro e w' ⟨v, rfl, ⟨_, rfl, hw⟩ | ⟨_, _, _, rfl, hw⟩ | ⟨_, _, j, i, hj, hij, hi, _, _, a', l', rfl, kk, Z', T⟩⟩
  · exact .inl ⟨2, by decide, rfl, h.step0 (hw ▸ Kept.refl _ _)⟩
  · exact .inl ⟨6, by decide, rfl, h.step0 (hw ▸ Kept.refl _ _)⟩
  · have hi' : i < S.nodes := by omega
    obtain ⟨f, e1, g1, g2, _, _, L'⟩ := L.take h hi' T
    refine .inr ⟨f, i, S.setL (upd S.L i l'), ?_, core_zstep h hi kk Z', rfl, rfl, hi', g1, g2, L'⟩
    rw [hc, e1]
theorem map_law (h : CoreAt w k S fp) {f i : Nat} (L : LSt S rt lf pg (some f) cnt) (hi : i < S.nodes) (h1 : fstF S.c i ≤ f) (h2 : (f : Int) < fstF S.c (i + 1)) (page : Int) :
    Calls Tryz.prog 25 #[ptr k, vi 1, vi page, vi f] w fun e w' => (∃ er : Int, er ≠ 0 ∧ e = .returned (vi er) ∧ (¬ ∃ p : Nat, page = p ∧ p < 32 ∧ pg p = none) ∧ Step w w' k S fp) ∨
      ∃ (p : Nat) (S' : Mach), page = p ∧ p < 32 ∧ pg p = none ∧ e = .returned (vi 0) ∧ S'.c = S.c ∧ S'.pz = S.pz ∧ Step w w' k S' fp ∧ LSt S' rt lf (upd pg p (some f)) none (cnt + 1) := by
  obtain ⟨hfn, hfr, hfl⟩ := L.hdr f rfl
  obtain ⟨b, hb⟩ := L.sp
  have hnj : ∀ j, pg j ≠ some f := fun j e => (L.pgo j f e).2.2.2.2 rfl
  have hrof : (S.rof f).1 = 0 := by
    by_cases e : (S.rof f).1 = 0
    · exact e
    · obtain ⟨j, hj⟩ := L.rof2 f hfn e
      exact absurd hj (hnj j)
  have hle : ∀ {t : Nat}, t ≤ S.nodes → sumN t (fun i => (S.ring i).length) ≤ sumN S.nodes fun i => (S.ring i).length := fun {t} ht => by
    have : ∀ d, sumN t (fun i => (S.ring i).length) ≤ sumN (t + d) fun i => (S.ring i).length := fun d => by
      induction d with
      | zero => exact Nat.le_refl _
      | succ d ih => rw [show t + (d + 1) = (t + d) + 1 by omega, sumN_succ]; omega
    have := this (S.nodes - t)
    rw [show t + (S.nodes - t) = S.nodes by omega] at this
    exact this
  have hrl : (S.ring i).length ≤ 100000 := by
    have h3 := sumN_succ i fun i => (S.ring i).length
    have h4 := hle (t := i + 1) (by omega)
    have h5 := L.cc
    have h6 : cnt ≤ 32 := by
      rw [← L.cp]
      exact Nat.le_trans (List.length_filter_le _ _) (by simp)
    omega
  refine (map_spec h (b := b) (by rw [hb]; rfl) L.by' (fun kk v e => by obtain ⟨j, g, _, _, rfl⟩ := L.rat1 kk v e; exact ⟨_, rfl⟩) hfn hi h1 h2 (L.ck i hi) (fun _ hm => by
    obtain ⟨j, g, hj, hg, _⟩ := (L.ckm i hi _).1 hm
    have : f = g := by omega
    subst this
    exact hnj j hj) hrl page).mono ?_
  rintro e w' (⟨g1, rfl, T⟩ | ⟨g1, g2, rfl, T⟩ | ⟨g1, g2, g3, rfl, T⟩ | ⟨g1, g2, g3, g4, rfl, T⟩ | ⟨g1, g2, g3, g4, rfl, T⟩)
  · exact .inl ⟨2, by decide, rfl, (fun ⟨p, e, hp, _⟩ => by omega), T⟩
  · refine .inl ⟨7, by decide, rfl, (fun ⟨p, e, hp, _⟩ => ?_), T⟩
    exact g2 (L.lfE0 h (page := page) (by omega)).1
  · exact absurd hrof g3
  · refine .inl ⟨8, by decide, rfl, (fun ⟨p, e, hp, hn⟩ => ?_), T⟩
    obtain ⟨v, hv⟩ := Option.isSome_iff_exists.1 g4
    obtain ⟨j, g, hkk, hj, _⟩ := L.rat1 _ _ hv
    have : page = (j : Int) := congrArg Prod.snd hkk
    have : j = p := by omega
    subst this
    rw [hn] at hj
    cases hj
  · have hp32 : page < 32 := by
      rcases Int.lt_or_le page 32 with h3 | h3
      · exact h3
      · have := (L.lfE7 h (page := page) (by omega)).1
        omega
    obtain ⟨p, rfl⟩ : ∃ p : Nat, page = p := ⟨page.toNat, by omega⟩
    have hpn : pg p = none := by
      cases e : pg p with
      | none => rfl
      | some g =>
        have := L.rat2 p g e
        rw [g4] at this
        cases this
    exact .inr ⟨p, S.mapped i (p : Int) f, rfl, by omega, hpn, rfl, rfl, rfl, T, L.map h hi h1 h2 (by omega) hpn⟩
theorem release_law (h : CoreAt w k S fp) {f i : Nat} (L : LSt S rt lf pg (some f) cnt) (hi : i < S.nodes) (h1 : fstF S.c i ≤ f) (h2 : (f : Int) < fstF S.c (i + 1)) :
    Calls Tryz.prog 26 #[ptr k, vi f] w fun e w' => ∃ S' : Mach, e = .returned (vi 0) ∧ S'.c = S.c ∧ S'.pz = S.pz ∧ Step w w' k S' fp ∧ LSt S' rt lf pg none cnt ∧ ((f : Int) - fstF S.c i, (0 : Int)) ∉ tk (S'.L i) := by
  have hf := h.fst hi
  have hn := h.n4
  obtain ⟨hm, hg⟩ := L.give h hi h1 h2
  refine (release_spec h (fr := f) (by omega)).mono ?_
  rintro e w' (⟨j, l', hj, q1, q2, rfl, G, T⟩ | ⟨j, hj, q1, q2, rfl, hno, _⟩ | ⟨q1, _⟩)
  · have : j = i := node_uniq h.my (f := (f : Int)) hj hi q1 q2 h1 h2
    subst this
    obtain ⟨L', hno⟩ := hg l' G
    exact ⟨(S.setL (upd S.L j l')).setMk (smS S.mks S.n f mark0), rfl, rfl, rfl, T, L', by show _ ∉ tk (upd S.L j l' j); rw [upd_same]; exact hno⟩
  · have : j = i := node_uniq h.my (f := (f : Int)) hj hi q1 q2 h1 h2
    subst this
    exact absurd hm hno
  · have := fst_le h.my (i := i + 1) (j := S.nodes) (by omega) (Nat.le_refl _)
    omega
end
end Go.Proofs.YtklmokolnakkoaaGreatDoor
set_option linter.unusedSimpArgs false
set_option linter.unusedVariables false
set_option maxRecDepth 100000
namespace Go.Proofs.YtklmokolnakkoaaGreatDoor
open Go Go.Eng
abbrev WantA (n g : Nat) (f : Nat → List Int) (G : Nat → Prop) (W : World) : Prop := RowA (fun j => IntsA (f j)) n (.slice (some ⟨g, 0, none⟩) n n) G W
section
variable {W : World} {n g i : Nat} {f : Nat → List Int} {G : Nat → Prop}
end
structure HI (w1 : World) (k : Nat) (S : Mach) (g q : Nat) (f : Nat → List Int) (W : World) : Prop where
  kp : Kept none' w1 W
  ex : ∃ fp G, CoreAt W k (setHeld S f) fp ∧ WantA S.cpus g f G W ∧ (∀ p x, fp p x → w1.heap.size ≤ x ∧ ¬ G x) ∧ ∀ x, G x → w1.heap.size ≤ x
  len : ∀ i, (f i).length ≤ q
structure XOp (w : World) (l : Option Addr) (q : Nat) (x1 x2 x3 : Int) : Prop where
  r0 : rd w (pb l) (po l + q * 3) = some (vi x1)
  r1 : rd w (pb l) (po l + q * 3 + 1) = some (vi x2)
  r2 : rd w (pb l) (po l + q * 3 + 2) = some (vi x3)
end Go.Proofs.YtklmokolnakkoaaGreatDoor
namespace Go.Proofs.YtklmokolnakkoaaGreatDoor
open Go Go.ChangeShapes Go.WideShapes Go.ChangeAt Go.RowKit Go.Eng
set_option linter.unusedSimpArgs false
set_option linter.unusedVariables false
set_option maxRecDepth 100000
section
variable {H : Type} {enc : TypeId × Value → H}
end
end Go.Proofs.YtklmokolnakkoaaGreatDoor
set_option linter.unusedSimpArgs false
set_option linter.unusedVariables false
set_option maxRecDepth 100000
namespace Go.Proofs.YtklmokolnakkoaaGreatDoor
open Go Go.ChangeShapes Go.WideShapes Go.ChangeAt Go.RowKit Go.Eng
section
variable {H : Type} {enc : TypeId × Value → H}
theorem cells_78 : Tryz.prog.cellsOf 78 = 3 := by kernel_rfl
theorem open_ops {W : World} {base : Nat} {v : Value} {d : DataW H} {p : List MemPlace} (hv : Value.okWide Tryz.prog W .any base 74 v) (h : DataW.Trod enc Tryz.prog W 0 (fun _ => true) true 74 v d p) :
    ∃ a l c, v = .slice a l c ∧ (0 < l → isP a = true) ∧ ∀ q : Nat, q < l → ∃ x1 x2 x3 : Int, XOp W a q x1 x2 x3 ∧ (-9223372036854775808 ≤ x2 ∧ x2 ≤ 9223372036854775807) ∧ (-9223372036854775808 ≤ x3 ∧ x3 ≤ 9223372036854775807) := by
  obtain ⟨a0, l0, c0, rfl⟩ := okWide_slice Tryz.underlying74 hv
  obtain ⟨fuel, hf⟩ := h
  obtain ⟨a, l, c, e, _, _, hp, _, hx⟩ := open_row Tryz.underlying74 hf (by rw [cells_78]; decide)
  simp [Value.cells] at e
  obtain ⟨rfl, rfl, rfl⟩ := e
  refine ⟨_, _, _, rfl, hp, fun q hq => ?_⟩
  obtain ⟨cs, n, x, hlen, hcell, htr⟩ := hx q hq
  obtain ⟨xs, k, _, _, _, hxl, hfs⟩ := DataW.trod_struct Tryz.underlying78 htr
  rw [cells_78] at hcell hlen
  match xs, hxl, cs, hlen with
  | [y0, y1, y2], _, [v0, v1, v2], _ =>
    have g0 := hfs 0 _ rfl
    have g1 := hfs 1 _ rfl
    have g2 := hfs 2 _ rfl
    simp [cells_3] at g0 g1 g2
    obtain ⟨k0, e0, _, w0⟩ := DataW.trod_int Tryz.underlying3 g0
    obtain ⟨k1, e1, _, w1⟩ := DataW.trod_int Tryz.underlying3 g1
    obtain ⟨k2, e2, _, w2⟩ := DataW.trod_int Tryz.underlying3 g2
    simp at e0 e1 e2
    subst e0 e1 e2
    exact ⟨k0, k1, k2, ⟨hcell 0 (by omega), hcell 1 (by omega), hcell 2 (by omega)⟩, wf_i64 w1, wf_i64 w2⟩
end
end Go.Proofs.YtklmokolnakkoaaGreatDoor
