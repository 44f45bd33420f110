/-
  A part of a proof that a law of this seat returns true at every input. Conditions: those in each theorem.
-/
import Derived.Test.YtklmokolnakkoaaGreatDoorB0
import Derived.Test.YtklmokolnakkoaaGreatDoorEngQ
set_option linter.unusedVariables false
set_option maxRecDepth 100000
namespace Go.Proofs.YtklmokolnakkoaaGreatDoor
open Go Go.Eng
open Go.Value (slice pointer)
/- byre/config.within -/
/- byre/config.bare -/
def vcP114 (c0 : Nat → Int) (w : World) (K : KV) : Prop := ∀ w', w' = w.alloc (.cells (List.toArray (runI .i64 c0 0 94)) 31) → ∀ w'_1, w'_1 = w'.alloc (.cells (List.toArray (List.replicate 94 (vi 0))) 31) → ∃ (x : Int), rd w'_1 w.heap.size 1 = some (.int .i64 x) ∧ Wif (okSl x 16 16) (∃ (w'_2 : World), clrIs Tryz.prog #[51] 0 (slice (offA (some (Addr.mk w.heap.size 2 none)) 16 (Int.toNat x) 1) (16 - Int.toNat x) (16 - Int.toNat x)) w'_1 w'_2 ∧ ∃ (x : Int), rd w'_2 w.heap.size 0 = some (.int .i64 x) ∧ Wif (okSl x 8 8) (∃ (w'_3 : World), clrIs Tryz.prog #[51] 0 (slice (offA (some (Addr.mk w.heap.size 18 none)) 8 (Int.toNat x) 1) (8 - Int.toNat x) (8 - Int.toNat x)) w'_2 w'_3 ∧ ∃ (I : Int → World → Nat → Prop), (∃ (n : Nat), I 0 w'_3 n) ∧ ∀ (n : Int) (w'_4 : World) (n_1 : Nat), I n w'_4 n_1 → Wif (decide (n < 8)) (∀ w1, w1 = w'_4.drew → Wif (inB n 8) (∃ (x : Int), rd w1 w.heap.size 0 = some (.int .i64 x) ∧ Wif (okSl x 8 8) (∃ (w' : World), clrIs Tryz.prog #[51] 0 (slice (offA (some (Addr.mk w.heap.size (26 + Int.toNat n * 8) none)) 8 (Int.toNat x) 1) (8 - Int.toNat x) (8 - Int.toNat x)) w1 w' ∧ ∃ m, Nat.succ m ≤ n_1 ∧ I (IntKind.wrap .i64 (n + 1)) w' m) False) False) (∃ (x : Int), rd w'_4 w.heap.size 0 = some (.int .i64 x) ∧ Wif (okSl x 8 8) (∃ (w'_5 : World), clrIs Tryz.prog #[281] 0 (slice (offA (some (Addr.mk w.heap.size 26 none)) 8 (Int.toNat x) 8) (8 - Int.toNat x) (8 - Int.toNat x)) w'_4 w'_5 ∧ ∃ (x : Nat → Int), rdAll w'_5 w.heap.size 0 (runI .i64 x 0 94) ∧ wrAll w'_5 w'.heap.size 0 (runI .i64 x 0 94) ∧ ∀ w'_6, w'_6 = stAll w'_5 w'.heap.size 0 (runI .i64 x 0 94) → ∃ (x : Nat → Int), rdAll w'_6 w'.heap.size 0 (runI .i64 x 0 94) ∧ K (.agg (List.toArray (runI .i64 x 0 94))) w'_6) False)) False) False
theorem vc114 (c0 : Nat → Int) (w : World) (K : KV) (h : vcP114 c0 w K) : Calls Tryz.prog 114 #[Value.agg (List.toArray (runI .i64 c0 0 94))] w (fun e w' => ∃ v, e = .returned v ∧ K v w') := Eng.vc_of [113] 1 [] Tryz.mixes Tryz.func114 (by kernel_rfl) (by kernel_rfl) (by kernel_rfl) h
/- byre/config.near -/
def vcP115 (c0 : Nat → Int) (w : World) (K : KV) : Prop := ∀ w', w' = w.alloc (.cells (List.toArray (runI .i64 c0 0 94)) 31) → ∃ (x : Int), rd w' w.heap.size 0 = some (.int .i64 x) ∧ ∃ (I : Bool → Int → World → Nat → Prop), (∃ (n : Nat), I false 0 w' n) ∧ ∀ (b : Bool) (n : Int) (w' : World) (n_1 : Nat), I b n w' n_1 → Wif (decide (n < x)) (∃ (x : Int), rd w' w.heap.size 0 = some (.int .i64 x) ∧ ∃ (I_1 : Bool → Int → World → Nat → Prop), (∃ (n : Nat), I_1 b 0 w' n) ∧ ∀ (b : Bool) (n_2 : Int) (w' : World) (n_3 : Nat), I_1 b n_2 w' n_3 → Wif (decide (n_2 < x)) (Wif (inB n 8) (Wif (inB n_2 8) (∃ (x : Int), rd w' w.heap.size (26 + Int.toNat n * 8 + Int.toNat n_2 * 1) = some (.int .i64 x) ∧ Wif (!(x == 0) == (n == n_2)) (K (.bool false) w') (gIf (inB n_2 8) ((!(decide (x ≥ 0) && decide (x ≤ 255))) = false) (gIf (inB n 8) ((!(decide (x ≥ 0) && decide (x ≤ 255))) = false) (∃ (x_1 : Int), ((!(decide (x ≥ 0) && decide (x ≤ 255))) = false → rd w' w.heap.size (26 + Int.toNat n_2 * 8 + Int.toNat n * 1) = some (.int .i64 x_1)) ∧ Wif (!(decide (x ≥ 0) && decide (x ≤ 255)) || x != x_1) (K (.bool false) w') (∃ m, Nat.succ m ≤ n_3 ∧ I_1 b (IntKind.wrap .i64 (n_2 + 1)) w' m))))) False) False) (∃ m, Nat.succ m ≤ n_1 ∧ I b (IntKind.wrap .i64 (n + 1)) w' m)) (K (.bool true) w')
theorem vc115 (c0 : Nat → Int) (w : World) (K : KV) (h : vcP115 c0 w K) : Calls Tryz.prog 115 #[Value.agg (List.toArray (runI .i64 c0 0 94))] w (fun e w' => ∃ v, e = .returned v ∧ K v w') := Eng.vc_of [113] 1 [] Tryz.mixes Tryz.func115 (by kernel_rfl) (by kernel_rfl) (by kernel_rfl) h
/- byre/config.May -/
def vcP32 (c0 : Nat → Int) (w : World) (K : KV) : Prop := ∀ w', w' = w.alloc (.cells (List.toArray (runI .i64 c0 0 94)) 31) → ∀ w1, w1 = w'.drew → ∃ (x : Int), rd w1 w.heap.size 0 = some (.int .i64 x) ∧ ∃ (x_1 : Int), ((!(decide (x ≥ 1) && decide (x ≤ 8))) = false → rd w1 w.heap.size 1 = some (.int .i64 x_1)) ∧ Wif (!(decide (x ≥ 1) && decide (x ≤ 8))) (K (.bool false) w1) (∃ (x : Int), ((!(decide (x_1 ≥ 1) && decide (x_1 ≤ 16))) = false → rd w1 w.heap.size 90 = some (.int .i64 x)) ∧ Wif (!(decide (x_1 ≥ 1) && decide (x_1 ≤ 16))) (K (.bool false) w1) (∃ (x_2 : Nat → Int), ((!(decide (x ≥ 0) && decide (x ≤ 1024))) = false → rdAll w1 w.heap.size 0 (runI .i64 x_2 0 94)) ∧ ∃ (x_3 : Nat → Int), ((!(decide (x ≥ 0) && decide (x ≤ 1024))) = false → rdAll w1 w.heap.size 0 (runI .i64 x_3 0 94)) ∧ Wif (!(decide (x ≥ 0) && decide (x ≤ 1024))) (((!(decide (x ≥ 0) && decide (x ≤ 1024))) = false → rdAll w1 w.heap.size 0 (runI .i64 x_2 0 94) ∧ True) ∧ K (.bool false) w1) (Calls Tryz.prog 114 #[Value.agg (List.toArray (runI .i64 x_3 0 94))] w1 fun e w' => ∃ (f : Nat → Int), e = .returned (.agg (List.toArray (runI .i64 f 0 94))) ∧ ((!(decide (x ≥ 0) && decide (x ≤ 1024))) = false → rdAll w' w.heap.size 0 (runI .i64 x_2 0 94) ∧ True) ∧ Wif (!(x_2 0 == f 0 && (x_2 1 == f 1 && (x_2 2 == f 2 && (x_2 3 == f 3 && (x_2 4 == f 4 && (x_2 5 == f 5 && (x_2 6 == f 6 && (x_2 7 == f 7 && (x_2 8 == f 8 && (x_2 9 == f 9 && (x_2 10 == f 10 && (x_2 11 == f 11 && (x_2 12 == f 12 && (x_2 13 == f 13 && (x_2 14 == f 14 && (x_2 15 == f 15 && (x_2 16 == f 16 && (x_2 17 == f 17 && true))))))))))))))) && (x_2 18 == f 18 && (x_2 19 == f 19 && (x_2 20 == f 20 && (x_2 21 == f 21 && (x_2 22 == f 22 && (x_2 23 == f 23 && (x_2 24 == f 24 && (x_2 25 == f 25 && true))))))) && (x_2 26 == f 26 && (x_2 27 == f 27 && (x_2 28 == f 28 && (x_2 29 == f 29 && (x_2 30 == f 30 && (x_2 31 == f 31 && (x_2 32 == f 32 && (x_2 33 == f 33 && true))))))) && (x_2 34 == f 34 && (x_2 35 == f 35 && (x_2 36 == f 36 && (x_2 37 == f 37 && (x_2 38 == f 38 && (x_2 39 == f 39 && (x_2 40 == f 40 && (x_2 41 == f 41 && true))))))) && (x_2 42 == f 42 && (x_2 43 == f 43 && (x_2 44 == f 44 && (x_2 45 == f 45 && (x_2 46 == f 46 && (x_2 47 == f 47 && (x_2 48 == f 48 && (x_2 49 == f 49 && true))))))) && (x_2 50 == f 50 && (x_2 51 == f 51 && (x_2 52 == f 52 && (x_2 53 == f 53 && (x_2 54 == f 54 && (x_2 55 == f 55 && (x_2 56 == f 56 && (x_2 57 == f 57 && true))))))) && (x_2 58 == f 58 && (x_2 59 == f 59 && (x_2 60 == f 60 && (x_2 61 == f 61 && (x_2 62 == f 62 && (x_2 63 == f 63 && (x_2 64 == f 64 && (x_2 65 == f 65 && true))))))) && (x_2 66 == f 66 && (x_2 67 == f 67 && (x_2 68 == f 68 && (x_2 69 == f 69 && (x_2 70 == f 70 && (x_2 71 == f 71 && (x_2 72 == f 72 && (x_2 73 == f 73 && true))))))) && (x_2 74 == f 74 && (x_2 75 == f 75 && (x_2 76 == f 76 && (x_2 77 == f 77 && (x_2 78 == f 78 && (x_2 79 == f 79 && (x_2 80 == f 80 && (x_2 81 == f 81 && true))))))) && (x_2 82 == f 82 && (x_2 83 == f 83 && (x_2 84 == f 84 && (x_2 85 == f 85 && (x_2 86 == f 86 && (x_2 87 == f 87 && (x_2 88 == f 88 && (x_2 89 == f 89 && true))))))) && true))))))) && (x_2 90 == f 90 && (x_2 91 == f 91 && (x_2 92 == f 92 && (x_2 93 == f 93 && true)))))))))) (K (.bool false) w') (∃ (x : Int), rd w' w.heap.size 1 = some (.int .i64 x) ∧ Wif (okSl 0 x 16) (∃ (I : Bool → Int → World → Nat → Prop), (∃ (n : Nat), I false 0 w' n) ∧ ∀ (b : Bool) (n : Int) (w' : World) (n_1 : Nat), I b n w' n_1 → Wif (decide (n < (↑(Int.toNat x) : Int))) (Wif (inB n (Int.toNat x)) (∃ (x : Int), rd w' w.heap.size (2 + Int.toNat n * 1) = some (.int .i64 x) ∧ ∃ (x_4 : Int), rd w' w.heap.size 0 = some (.int .i64 x_4) ∧ Wif (!(decide (x ≥ 0) && decide (x ≤ IntKind.wrap .i64 (x_4 - 1)))) (K (.bool false) w') (∃ m, Nat.succ m ≤ n_1 ∧ I b (IntKind.wrap .i64 (n + 1)) w' m)) False) (∃ (x : Int), rd w' w.heap.size 0 = some (.int .i64 x) ∧ Wif (okSl 0 x 8) (∃ (I : Bool → Int → World → Nat → Prop), (∃ (n : Nat), I b 0 w' n) ∧ ∀ (b : Bool) (n : Int) (w' : World) (n_2 : Nat), I b n w' n_2 → Wif (decide (n < (↑(Int.toNat x) : Int))) (Wif (inB n (Int.toNat x)) (∃ (x : Int), rd w' w.heap.size (18 + Int.toNat n * 1) = some (.int .i64 x) ∧ ∃ (x_4 : Int), ((!(decide (x ≥ 4) && decide (x ≤ 128))) = false → rd w' w.heap.size 93 = some (.int .i64 x_4)) ∧ Wif (!(decide (x ≥ 4) && decide (x ≤ 128)) || decide (x_4 > x)) (K (.bool false) w') (∃ m, Nat.succ m ≤ n_2 ∧ I b (IntKind.wrap .i64 (n + 1)) w' m)) False) (∃ (x : Nat → Int), rdAll w' w.heap.size 0 (runI .i64 x 0 94) ∧ Calls Tryz.prog 115 #[Value.agg (List.toArray (runI .i64 x 0 94))] w' fun e w' => ∃ (b : Bool), e = .returned (.bool b) ∧ ∃ (x : Int), (b = true → rd w' w.heap.size 91 = some (.int .i64 x)) ∧ ∃ (x_4 : Int), ((b && decide (0 ≤ x)) = true → rd w' w.heap.size 91 = some (.int .i64 x_4)) ∧ ∃ (x_5 : Int), ((b && decide (0 ≤ x)) = true → rd w' w.heap.size 92 = some (.int .i64 x_5)) ∧ ∃ (x_6 : Int), ((b && decide (0 ≤ x) && decide (x_4 ≤ x_5)) = true → rd w' w.heap.size 92 = some (.int .i64 x_6)) ∧ ∃ (x_7 : Int), ((b && decide (0 ≤ x) && decide (x_4 ≤ x_5)) = true → rd w' w.heap.size 93 = some (.int .i64 x_7)) ∧ K (.bool (b && decide (0 ≤ x) && decide (x_4 ≤ x_5) && decide (x_6 ≤ x_7))) w')) False)) False))))
theorem vc32 (c0 : Nat → Int) (w : World) (K : KV) (h : vcP32 c0 w K) : Calls Tryz.prog 32 #[Value.agg (List.toArray (runI .i64 c0 0 94))] w (fun e w' => ∃ v, e = .returned v ∧ K v w') := Eng.vc_of [113] 1 [] Tryz.mixes Tryz.func32 (by kernel_rfl) (by kernel_rfl) (by kernel_rfl) h
/- byre/config.Node -/
def vcP160 (c0 : Nat → Int) (frame : Int) (w : World) (K : KV) : Prop := ∀ w', w' = w.alloc (.cells (List.toArray (runI .i64 c0 0 94)) 31) → ∃ (x : Nat → Int), rdAll w' w.heap.size 0 (runI .i64 x 0 94) ∧ Calls Tryz.prog 32 #[Value.agg (List.toArray (runI .i64 x 0 94))] w' fun e w' => ∃ (b : Bool), e = .returned (.bool b) ∧ Wif (!b) (K (.tuple #[vi 0, vi 2]) w') (∃ (I : Int → Int → Int → Int → World → Nat → Prop), (∃ (n : Nat), I frame 0 0 0 w' n) ∧ ∀ (n n_1 n_2 n_3 : Int) (w' : World) (n_4 : Nat), I n n_1 n_2 n_3 w' n_4 → ∃ (x : Int), (decide (n ≥ 0) = true → rd w' w.heap.size 0 = some (.int .i64 x)) ∧ Wif (decide (n ≥ 0) && decide (n_3 < x)) (Wif (inB n_3 8) (∃ (x : Int), rd w' w.heap.size (18 + Int.toNat n_3 * 1) = some (.int .i64 x) ∧ Wif (decide (n < x)) (K (.tuple #[vi n_3, vi 0]) w') (Wif (inB n_3 8) (∃ (x : Int), rd w' w.heap.size (18 + Int.toNat n_3 * 1) = some (.int .i64 x) ∧ ∃ m, Nat.succ m ≤ n_4 ∧ I (IntKind.wrap .i64 (n - x)) n_1 n_2 (IntKind.wrap .i64 (n_3 + 1)) w' m) False)) False) (K (.tuple #[vi 0, vi 7]) w'))
theorem vc160 (c0 : Nat → Int) (frame : Int) (w : World) (K : KV) (h : vcP160 c0 frame w K) : Calls Tryz.prog 160 #[Value.agg (List.toArray (runI .i64 c0 0 94)), vi frame] w (fun e w' => ∃ v, e = .returned v ∧ K v w') := Eng.vc_of [113] 1 [] Tryz.mixes Tryz.func160 (by kernel_rfl) (by kernel_rfl) (by kernel_rfl) h
/- byre/config.First -/
def vcP145 (c0 : Nat → Int) (node : Int) (w : World) (K : KV) : Prop := ∀ w', w' = w.alloc (.cells (List.toArray (runI .i64 c0 0 94)) 31) → ∃ (x : Nat → Int), rdAll w' w.heap.size 0 (runI .i64 x 0 94) ∧ Calls Tryz.prog 32 #[Value.agg (List.toArray (runI .i64 x 0 94))] w' fun e w' => ∃ (b : Bool), e = .returned (.bool b) ∧ Wif (!b) (K (.tuple #[vi 0, vi 2]) w') (∃ (x : Int), rd w' w.heap.size 0 = some (.int .i64 x) ∧ Wif (!(decide (node ≥ 0) && decide (node ≤ IntKind.wrap .i64 (x - 1)))) (K (.tuple #[vi 0, vi 7]) w') (Wif (okSl 0 node 8) (∃ (I : Int → Int → World → Nat → Prop), (∃ (n : Nat), I 0 0 w' n) ∧ ∀ (n n_1 : Int) (w' : World) (n_2 : Nat), I n n_1 w' n_2 → Wif (decide (n_1 < (↑(Int.toNat node) : Int))) (Wif (inB n_1 (Int.toNat node)) (∃ (x : Int), rd w' w.heap.size (18 + Int.toNat n_1 * 1) = some (.int .i64 x) ∧ ∃ m, Nat.succ m ≤ n_2 ∧ I (IntKind.wrap .i64 (n + x)) (IntKind.wrap .i64 (n_1 + 1)) w' m) False) (K (.tuple #[vi n, vi 0]) w')) False))
theorem vc145 (c0 : Nat → Int) (node : Int) (w : World) (K : KV) (h : vcP145 c0 node w K) : Calls Tryz.prog 145 #[Value.agg (List.toArray (runI .i64 c0 0 94)), vi node] w (fun e w' => ∃ v, e = .returned v ∧ K v w') := Eng.vc_of [113] 1 [] Tryz.mixes Tryz.func145 (by kernel_rfl) (by kernel_rfl) (by kernel_rfl) h
set_option linter.unusedSimpArgs false
set_option linter.unusedVariables false
set_option maxRecDepth 100000
abbrev cfg (c : Nat → Int) : List Value := runI .i64 c 0 94
abbrev cfgV (c : Nat → Int) : Value := .agg (cfg c).toArray
def clrF (f : Nat → Int) (o n : Nat) : Nat → Int := fun i => if o ≤ i ∧ i < o + n then 0 else f i
section
variable {w w' : World} {b : Nat} {f : Nat → Int}
theorem clr_cfg {t e : TypeId} {z : Value} {s : Nat} (ht : Tryz.prog.underlying t = some (.slice e)) (hv : ∀ w, (zeroValue e).run Tryz.prog w = .ok z w) (hz : z.cells = (List.replicate s (.int .i64 0)).toArray)
    (h : own w b (cfg f)) (o k cap : Nat) (hk : k ≤ cap) (hn : o + cap * s ≤ 94) {ty : TypeId} :
    ∃ w', clrIs Tryz.prog #[t] ty (.slice (offA (some ⟨b, o, none⟩) cap k s) (cap - k) (cap - k)) w w' ∧ own w' b (cfg (clrF f (o + k * s) ((cap - k) * s))) ∧ Kept (· = b) w w' := by
  have hks : k * s + (cap - k) * s = cap * s := by rw [← Nat.add_mul]; congr 1; omega
  have hoff : ∃ o', offA (some ⟨b, o, none⟩) cap k s = some ⟨b, o', none⟩ ∧ (o' = o + k * s ∨ k = cap) ∧ o' + (cap - k) * s ≤ 94 := by
    unfold offA
    by_cases e : cap = k
    · rw [if_pos e]; exact ⟨o, rfl, .inr e.symm, by subst e; simp; omega⟩
    · rw [if_neg e]
      refine ⟨o + k * s, ?_, .inl rfl, by omega⟩
      simp [Addr.add]
  obtain ⟨o', e1, e2, e3⟩ := hoff
  rw [e1]
  obtain ⟨w', hc, ho, hkp⟩ := clrN_own (ty := ty) ht hv hz rfl h o' (cap - k) (cap - k) (by rw [runI_len]; exact e3)
  refine ⟨w', hc, ?_, hkp⟩
  have : (cfg f).take o' ++ List.replicate ((cap - k) * s) (Value.int .i64 0) ++ (cfg f).drop (o' + (cap - k) * s) = cfg (clrF f (o + k * s) ((cap - k) * s)) := by
    refine runI_of (by simp [runI_len]; omega) fun j hj => ?_
    have hl : ((cfg f).take o').length = o' := by simp [runI_len]; omega
    by_cases h1 : j < o'
    · rw [List.append_assoc, List.getElem?_append_left (by omega), List.getElem?_take, if_pos h1, runI_get _ _ _ _ _ hj, Nat.zero_add]
      unfold clrF
      rw [if_neg]
      rcases e2 with rfl | rfl
      · omega
      · rw [Nat.sub_self]; omega
    · by_cases h2 : j < o' + (cap - k) * s
      · rw [List.getElem?_append_left (by simp [runI_len]; omega), List.getElem?_append_right (by omega), List.getElem?_replicate, if_pos (by omega)]
        unfold clrF
        rw [if_pos]
        rcases e2 with rfl | rfl
        · omega
        · rw [Nat.sub_self] at h2; omega
      · rw [List.getElem?_append_right (by simp [runI_len]; omega), List.getElem?_drop]
        rw [show o' + (cap - k) * s + (j - (List.take o' (cfg f) ++ List.replicate ((cap - k) * s) (Value.int .i64 0)).length) = j by simp [runI_len]; omega, runI_get _ _ _ _ _ hj, Nat.zero_add]
        unfold clrF
        rw [if_neg]
        rcases e2 with rfl | rfl
        · omega
        · rw [Nat.sub_self]; omega
  rw [this] at ho
  exact ho
end
def bareF (c : Nat → Int) (i : Nat) : Int :=
  if (2 + (c 1).toNat ≤ i ∧ i < 18) ∨ (18 + (c 0).toNat ≤ i ∧ i < 26) ∨ (26 ≤ i ∧ i < 90 ∧ ((c 0).toNat ≤ (i - 26) % 8 ∨ (c 0).toNat ≤ (i - 26) / 8)) then 0 else c i
def rowsF (c g : Nat → Int) (q : Nat) (i : Nat) : Int := if 26 ≤ i ∧ i < 26 + 8 * q ∧ (c 0).toNat ≤ (i - 26) % 8 then 0 else g i
theorem zero3' (w : World) : (zeroValue 3).run Tryz.prog w = .ok (.int .i64 0) w := Tryz.zeroValue3 w
theorem zero38 (w : World) : (zeroValue 28).run Tryz.prog w = .ok (.agg (List.replicate 8 (Value.int .i64 0)).toArray) w := Tryz.zeroValue28 w
theorem bare_spec (c : Nat → Int) (w : World) (h0 : 0 ≤ c 0 ∧ c 0 ≤ 8) (h1 : 0 ≤ c 1 ∧ c 1 ≤ 16) :
    Calls Tryz.prog 114 #[cfgV c] w fun r w' => r = .returned (cfgV (bareF c)) ∧ Kept none' w w' := by
  refine (vc114 c w (fun v w' => v = cfgV (bareF c) ∧ Kept none' w w') ?_).mono ?_
  · unfold vcP114
    intro w1 e1 w2 e2
    have o1 := own_alloc e1
    have k1 : Kept none' w w1 := (Kept.refl _ _).al e1
    have o2 := o1.al e2
    have p2 := own_alloc e2
    have k2 : Kept none' w w2 := k1.al e2
    have z1 : w1.heap.size = w.heap.size + 1 := by rw [e1]; simp only [World.alloc, Array.size_push]
    have z2 : w2.heap.size = w.heap.size + 2 := by rw [e2]; simp only [World.alloc, Array.size_push]; omega
    clear e1 e2
    generalize hb : w.heap.size = b at *
    generalize hb2 : w1.heap.size = b2 at *
    have kb : ∀ {X : Nat → Prop} {wa wb : World}, Kept none' w wa → Kept (· = b) wa wb → Kept none' w wb := fun ka k => ka.trans k fun x hx e => by omega
    refine ⟨_, o2.rI (j := 1) (by omega), Wif_yes (okSl_of h1.1 h1.2 (Int.le_refl _)) ?_⟩
    obtain ⟨w3, c3, o3, k3⟩ := clr_cfg (t := 51) (e := 3) (s := 1) (z := .int .i64 0) (ty := 0) Tryz.underlying51 zero3' rfl o2 2 (c 1).toNat 16 (by omega) (by omega)
    refine ⟨w3, c3, ?_⟩
    have K3 := kb (X := none') k2 k3
    have p3 := p2.kx k3 (by omega)
    have e0 : clrF c (2 + (c 1).toNat * 1) ((16 - (c 1).toNat) * 1) 0 = c 0 := by unfold clrF; rw [if_neg (by omega)]
    generalize hf1 : clrF c (2 + (c 1).toNat * 1) ((16 - (c 1).toNat) * 1) = f1 at *
    refine ⟨c 0, by rw [o3.rI (j := 0) (by omega), e0], Wif_yes (okSl_of h0.1 h0.2 (Int.le_refl _)) ?_⟩
    obtain ⟨w4, c4, o4, k4⟩ := clr_cfg (t := 51) (e := 3) (s := 1) (z := .int .i64 0) (ty := 0) Tryz.underlying51 zero3' rfl o3 18 (c 0).toNat 8 (by omega) (by omega)
    refine ⟨w4, c4, ?_⟩
    have K4 := kb (X := none') K3 k4
    have p4 := p3.kx k4 (by omega)
    have e0' : clrF f1 (18 + (c 0).toNat * 1) ((8 - (c 0).toNat) * 1) 0 = c 0 := by unfold clrF; rw [if_neg (by omega), e0]
    generalize hf2 : clrF f1 (18 + (c 0).toNat * 1) ((8 - (c 0).toNat) * 1) = f2 at *
    refine ⟨fun k w' N => ∃ q : Nat, k = q ∧ q ≤ 8 ∧ N = 8 - q ∧ Kept none' w w' ∧ own w' b (cfg (rowsF c f2 q)) ∧ own w' b2 (List.replicate 94 (Value.int .i64 0)), ⟨8, 0, rfl, by omega, rfl, K4, ?_, p4⟩, ?_⟩
    · have : cfg (rowsF c f2 0) = cfg f2 := runI_ext fun j hj => by unfold rowsF; rw [if_neg (by omega)]
      rw [this]; exact o4
    rintro _ w5 _ ⟨q, rfl, hq, rfl, K5, o5, p5⟩
    have er : rowsF c f2 q 0 = c 0 := by unfold rowsF; rw [if_neg (by omega), e0']
    refine Wif_intro (fun hc => ?_) (fun hc => ?_)
    · simp only [decide_eq_true_eq] at hc
      intro w6 e6
      have K6 := K5.dr e6
      have o6 := o5.dr e6
      have p6 := p5.dr e6
      refine Wif_yes (inB_of (by omega) (by omega)) ⟨c 0, by rw [o6.rI (j := 0) (by omega), er], Wif_yes (okSl_of h0.1 h0.2 (Int.le_refl _)) ?_⟩
      obtain ⟨w7, c7, o7, k7⟩ := clr_cfg (t := 51) (e := 3) (s := 1) (z := .int .i64 0) (ty := 0) Tryz.underlying51 zero3' rfl o6 (26 + q * 8) (c 0).toNat 8 (by omega) (by omega)
      refine ⟨w7, by rw [Int.toNat_natCast]; exact c7, 8 - (q + 1), by omega, q + 1, by rw [wi (by omega)]; rfl, by omega, rfl, kb (X := none') K6 k7, ?_, p6.kx k7 (by omega)⟩
      have : cfg (clrF (rowsF c f2 q) (26 + q * 8 + (c 0).toNat * 1) ((8 - (c 0).toNat) * 1)) = cfg (rowsF c f2 (q + 1)) := runI_ext fun j hj => by
        simp only [clrF, rowsF, Nat.zero_add]
        by_cases h2 : 26 ≤ j ∧ j < 26 + 8 * q ∧ (c 0).toNat ≤ (j - 26) % 8
        · rw [if_neg (by omega), if_pos h2, if_pos (by omega)]
        · by_cases h3 : 26 + q * 8 + (c 0).toNat * 1 ≤ j ∧ j < 26 + q * 8 + (c 0).toNat * 1 + (8 - (c 0).toNat) * 1
          · rw [if_pos h3, if_pos (by omega)]
          · rw [if_neg h3, if_neg h2, if_neg (by omega)]
      rw [← this]; exact o7
    · have hq8 : q = 8 := by simp at hc; omega
      subst hq8
      refine ⟨c 0, by rw [o5.rI (j := 0) (by omega), er], Wif_yes (okSl_of h0.1 h0.2 (Int.le_refl _)) ?_⟩
      obtain ⟨w6, c6, o6, k6⟩ := clr_cfg (t := 281) (e := 28) (s := 8) (ty := 0) Tryz.underlying281 zero38 rfl o5 26 (c 0).toNat 8 (by omega) (by omega)
      have K6 := kb (X := none') K5 k6
      have p6 := p5.kx k6 (by omega)
      have hcf : cfg (clrF (rowsF c f2 8) (26 + (c 0).toNat * 8) ((8 - (c 0).toNat) * 8)) = cfg (bareF c) := runI_ext fun j hj => by
        rw [← hf2, ← hf1]
        simp only [clrF, rowsF, bareF, Nat.zero_add]
        by_cases h2 : (2 + (c 1).toNat ≤ j ∧ j < 18) ∨ (18 + (c 0).toNat ≤ j ∧ j < 26) ∨ (26 ≤ j ∧ j < 90 ∧ ((c 0).toNat ≤ (j - 26) % 8 ∨ (c 0).toNat ≤ (j - 26) / 8))
        · rw [if_pos h2]
          split
          · rfl
          split
          · rfl
          split
          · rfl
          split
          · rfl
          omega
        · rw [if_neg h2, if_neg (by omega), if_neg (by omega), if_neg (by omega), if_neg (by omega)]
      rw [hcf] at o6
      refine ⟨w6, c6, bareF c, o6.rIall, p6.wrAll 0 (by rw [runI_len]; simp), ?_⟩
      intro w7 e7
      obtain ⟨o7, k7⟩ := stAll_whole p6 e7 (by rw [runI_len]; simp)
      exact ⟨bareF c, o7.rIall, rfl, K6.trans k7 fun x hx e => by omega⟩
  · rintro e w' ⟨v, rfl, rfl, hw⟩
    exact ⟨rfl, hw⟩
set_option linter.unusedSimpArgs false
set_option linter.unusedVariables false
set_option maxRecDepth 100000
def seg (P : Nat → Bool) : Nat → Nat → Bool
  | _, 0 => true
  | i, n + 1 => P i && seg P (i + 1) n
theorem seg_iff {P : Nat → Bool} : ∀ {i n : Nat}, seg P i n = true ↔ ∀ j, j < n → P (i + j) = true
  | i, 0 => ⟨fun _ j h => absurd h (Nat.not_lt_zero _), fun _ => rfl⟩
  | i, n + 1 => by
    simp only [seg, Bool.and_eq_true]
    rw [seg_iff]
    constructor
    · rintro ⟨h0, h⟩ j hj
      cases j with
      | zero => exact h0
      | succ j => rw [show i + (j + 1) = i + 1 + j by omega]; exact h j (by omega)
    · intro h
      exact ⟨h 0 (by omega), fun j hj => by rw [show i + 1 + j = i + (j + 1) by omega]; exact h (j + 1) (by omega)⟩
def chain94 (P : Nat → Bool) : Bool := P 0 && (P 1 && (P 2 && (P 3 && (P 4 && (P 5 && (P 6 && (P 7 && (P 8 && (P 9 && (P 10 && (P 11 && (P 12 && (P 13 && (P 14 && (P 15 && (P 16 && (P 17 && true))))))))))))))) && (P 18 && (P 19 && (P 20 && (P 21 && (P 22 && (P 23 && (P 24 && (P 25 && true))))))) && (P 26 && (P 27 && (P 28 && (P 29 && (P 30 && (P 31 && (P 32 && (P 33 && true))))))) && (P 34 && (P 35 && (P 36 && (P 37 && (P 38 && (P 39 && (P 40 && (P 41 && true))))))) && (P 42 && (P 43 && (P 44 && (P 45 && (P 46 && (P 47 && (P 48 && (P 49 && true))))))) && (P 50 && (P 51 && (P 52 && (P 53 && (P 54 && (P 55 && (P 56 && (P 57 && true))))))) && (P 58 && (P 59 && (P 60 && (P 61 && (P 62 && (P 63 && (P 64 && (P 65 && true))))))) && (P 66 && (P 67 && (P 68 && (P 69 && (P 70 && (P 71 && (P 72 && (P 73 && true))))))) && (P 74 && (P 75 && (P 76 && (P 77 && (P 78 && (P 79 && (P 80 && (P 81 && true))))))) && (P 82 && (P 83 && (P 84 && (P 85 && (P 86 && (P 87 && (P 88 && (P 89 && true))))))) && true))))))) && (P 90 && (P 91 && (P 92 && (P 93 && true))))))))
theorem chain94_eq (P : Nat → Bool) : chain94 P = (P 0 && (P 1 && (seg P 2 16 && (seg P 18 8 && ((seg P 26 8 && (seg P 34 8 && (seg P 42 8 && (seg P 50 8 && (seg P 58 8 && (seg P 66 8 && (seg P 74 8 && (seg P 82 8 && true)))))))) && seg P 90 4))))) := rfl
theorem chain94_iff (P : Nat → Bool) : chain94 P = true ↔ ∀ i, i < 94 → P i = true := by
  rw [chain94_eq]
  simp only [Bool.and_eq_true, seg_iff]
  constructor
  · rintro ⟨h0, h1, h2, h3, ⟨h4, h5, h6, h7, h8, h9, h10, h11, -⟩, h12⟩ i hi
    have go : ∀ o n, (∀ j, j < n → P (o + j) = true) → o ≤ i → i < o + n → P i = true := fun o n h ho hn => by
      have := h (i - o) (by omega)
      rw [show o + (i - o) = i by omega] at this
      exact this
    by_cases e0 : i = 0
    · subst e0; exact h0
    by_cases e1 : i = 1
    · subst e1; exact h1
    by_cases e2 : i < 18
    · exact go _ _ h2 (by omega) (by omega)
    by_cases e3 : i < 26
    · exact go _ _ h3 (by omega) (by omega)
    by_cases e4 : i < 34
    · exact go _ _ h4 (by omega) (by omega)
    by_cases e5 : i < 42
    · exact go _ _ h5 (by omega) (by omega)
    by_cases e6 : i < 50
    · exact go _ _ h6 (by omega) (by omega)
    by_cases e7 : i < 58
    · exact go _ _ h7 (by omega) (by omega)
    by_cases e8 : i < 66
    · exact go _ _ h8 (by omega) (by omega)
    by_cases e9 : i < 74
    · exact go _ _ h9 (by omega) (by omega)
    by_cases e10 : i < 82
    · exact go _ _ h10 (by omega) (by omega)
    by_cases e11 : i < 90
    · exact go _ _ h11 (by omega) (by omega)
    · exact go _ _ h12 (by omega) (by omega)
  · intro h
    exact ⟨h 0 (by omega), h 1 (by omega), fun j hj => h _ (by omega), fun j hj => h _ (by omega), ⟨fun j hj => h _ (by omega), fun j hj => h _ (by omega), fun j hj => h _ (by omega), fun j hj => h _ (by omega), fun j hj => h _ (by omega), fun j hj => h _ (by omega), fun j hj => h _ (by omega), fun j hj => h _ (by omega), trivial⟩, fun j hj => h _ (by omega)⟩
def dst (c : Nat → Int) (i k : Nat) : Int := c (26 + i * 8 + k)
def nearO (c : Nat → Int) (i k : Nat) : Prop := (dst c i k = 0 ↔ i = k) ∧ (0 ≤ dst c i k ∧ dst c i k ≤ 255) ∧ dst c i k = dst c k i
def NearP (c : Nat → Int) : Prop := ∀ i k : Nat, i < (c 0).toNat → k < (c 0).toNat → nearO c i k
theorem near_spec (c : Nat → Int) (w : World) (h0 : 0 ≤ c 0 ∧ c 0 ≤ 8) : Calls Tryz.prog 115 #[cfgV c] w fun r w' => ∃ b, r = .returned (.bool b) ∧ (b = true ↔ NearP c) ∧ Kept none' w w' := by
  refine (vc115 c w (fun v w' => ∃ b, v = .bool b ∧ (b = true ↔ NearP c) ∧ Kept none' w w') ?_).mono ?_
  · unfold vcP115
    intro w1 e1
    have o1 := own_alloc e1
    have k1 : Kept none' w w1 := (Kept.refl _ _).al e1
    generalize hb : w.heap.size = b at *
    have no : ∀ w', ¬ NearP c → Kept none' w w' → ∃ b, Value.bool false = .bool b ∧ (b = true ↔ NearP c) ∧ Kept none' w w' := fun w' h k => ⟨false, rfl, by simpa using h, k⟩
    refine ⟨c 0, o1.rI (j := 0) (by omega), ?_⟩
    refine ⟨fun _ k w' N => ∃ q : Nat, k = q ∧ q ≤ (c 0).toNat ∧ N = (c 0).toNat - q ∧ Kept none' w w' ∧ own w' b (cfg c) ∧ ∀ i, i < q → ∀ k, k < (c 0).toNat → nearO c i k, ⟨(c 0).toNat, 0, rfl, by omega, rfl, k1, o1, fun i hi => by omega⟩, ?_⟩
    rintro _ _ w2 _ ⟨q, rfl, hq, rfl, k2, o2, a2⟩
    refine Wif_intro (fun hc => ?_) (fun hc => ?_)
    · simp only [decide_eq_true_eq] at hc
      refine ⟨c 0, o2.rI (j := 0) (by omega), ?_⟩
      refine ⟨fun _ k w' N => ∃ q2 : Nat, k = q2 ∧ q2 ≤ (c 0).toNat ∧ N = (c 0).toNat - q2 ∧ Kept none' w w' ∧ own w' b (cfg c) ∧ ∀ k, k < q2 → nearO c q k, ⟨(c 0).toNat, 0, rfl, by omega, rfl, k2, o2, fun i hi => by omega⟩, ?_⟩
      rintro _ _ w3 _ ⟨q2, rfl, hq2, rfl, k3, o3, a3⟩
      refine Wif_intro (fun hc2 => ?_) (fun hc2 => ?_)
      · simp only [decide_eq_true_eq] at hc2
        have eB : ∀ {x y : Prop}, Wif (inB (q : Int) 8) x y = x := by intro x y; rw [inB_of (by omega) (by omega)]; rfl
        have eB2 : ∀ {x y : Prop}, Wif (inB (q2 : Int) 8) x y = x := by intro x y; rw [inB_of (by omega) (by omega)]; rfl
        simp only [eB, eB2, Int.toNat_natCast]
        refine ⟨dst c q q2, by rw [Nat.mul_one]; exact o3.rI (by omega), Wif_intro (fun h => ?_) (fun h => ?_)⟩
        · refine no _ (fun hn => ?_) k3
          have := (hn q q2 (by omega) (by omega)).1
          by_cases e : dst c q q2 = 0
          · have e' := this.1 e
            subst e'
            simp [e] at h
          · have e' : (q : Int) ≠ (q2 : Int) := fun x => e (this.2 (by omega))
            rw [show (dst c q q2 == 0) = false by simpa using e, show ((q : Int) == (q2 : Int)) = false by simpa using e'] at h
            cases h
        refine gIf_intro (fun _ => inB_of (by omega) (by omega)) (gIf_intro (fun _ => inB_of (by omega) (by omega)) ?_)
        refine ⟨dst c q2 q, fun _ => by rw [Nat.mul_one]; exact o3.rI (by omega), Wif_intro (fun h2 => ?_) (fun h2 => ?_)⟩
        · refine no _ (fun hn => ?_) k3
          obtain ⟨_, h5, h6⟩ := hn q q2 (by omega) (by omega)
          rw [← h6, decide_eq_true (show dst c q q2 ≥ 0 from h5.1), decide_eq_true h5.2] at h2
          simp at h2
        · refine ⟨(c 0).toNat - (q2 + 1), by omega, q2 + 1, by rw [wi (by omega)]; rfl, by omega, rfl, k3, o3, fun k hk => ?_⟩
          rcases Nat.lt_or_ge k q2 with hlt | hge
          · exact a3 k hlt
          · have : k = q2 := by omega
            subst this
            simp at h2
            refine ⟨?_, by omega, h2.2⟩
            have hb : ((dst c q k == 0) == ((q : Int) == (k : Int))) = true := by
              rw [← Bool.not_eq_false']; exact h
            by_cases e : dst c q k = 0
            · rw [show (dst c q k == 0) = true by simpa using e] at hb
              have : (q : Int) = (k : Int) := by simpa using hb
              exact ⟨fun _ => by omega, fun _ => e⟩
            · rw [show (dst c q k == 0) = false by simpa using e] at hb
              have : (q : Int) ≠ (k : Int) := by simpa using hb
              exact ⟨fun h' => absurd h' e, fun h' => absurd (congrArg Nat.cast h') this⟩
      · simp at hc2
        refine ⟨(c 0).toNat - (q + 1), by omega, q + 1, by rw [wi (by omega)]; rfl, by omega, rfl, k3, o3, fun i hi k hk => ?_⟩
        rcases Nat.lt_or_ge i q with hlt | hge
        · exact a2 i hlt k hk
        · have : i = q := by omega
          subst this
          exact a3 k (by omega)
    · simp at hc
      exact ⟨true, rfl, by simp; exact fun i k hi hk => a2 i (by omega) k hk, k2⟩
  · rintro e w' ⟨v, rfl, b, rfl, hw⟩
    exact ⟨b, rfl, hw⟩
def MayP (c : Nat → Int) : Prop :=
  (1 ≤ c 0 ∧ c 0 ≤ 8) ∧ (1 ≤ c 1 ∧ c 1 ≤ 16) ∧ (0 ≤ c 90 ∧ c 90 ≤ 1024) ∧ (∀ i, i < 94 → c i = bareF c i) ∧ (∀ i, i < (c 1).toNat → 0 ≤ c (2 + i) ∧ c (2 + i) ≤ c 0 - 1) ∧
  (∀ i, i < (c 0).toNat → (4 ≤ c (18 + i) ∧ c (18 + i) ≤ 128) ∧ c 93 ≤ c (18 + i)) ∧ NearP c ∧ 0 ≤ c 91 ∧ c 91 ≤ c 92 ∧ c 92 ≤ c 93
theorem may_spec (c : Nat → Int) (w : World) : Calls Tryz.prog 32 #[cfgV c] w fun r w' => ∃ b, r = .returned (.bool b) ∧ (b = true ↔ MayP c) ∧ Kept none' w w' := by
  refine (vc32 c w (fun v w' => ∃ b, v = .bool b ∧ (b = true ↔ MayP c) ∧ Kept none' w w') ?_).mono ?_
  · unfold vcP32
    intro w1 e1
    have o1 := own_alloc e1
    have k1 : Kept none' w w1 := (Kept.refl _ _).al e1
    generalize hb : w.heap.size = b at *
    intro w2 e2
    have o2 := o1.dr e2
    have k2 := k1.dr e2
    have no : ∀ w', ¬ MayP c → Kept none' w w' → ∃ b, Value.bool false = .bool b ∧ (b = true ↔ MayP c) ∧ Kept none' w w' := fun w' h k => ⟨false, rfl, by simpa using h, k⟩
    refine ⟨c 0, o2.rI (by omega), c 1, fun _ => o2.rI (by omega), Wif_intro (fun h => ?_) (fun h => ?_)⟩
    · refine no _ (fun hm => ?_) k2
      have := hm.1
      simp at h; omega
    have h0 : 1 ≤ c 0 ∧ c 0 ≤ 8 := by simpa using h
    refine ⟨c 90, fun _ => o2.rI (by omega), Wif_intro (fun h => ?_) (fun h => ?_)⟩
    · refine no _ (fun hm => ?_) k2
      have := hm.2.1
      simp at h; omega
    have h1 : 1 ≤ c 1 ∧ c 1 ≤ 16 := by simpa using h
    refine ⟨c, fun _ => o2.rIall, c, fun _ => o2.rIall, Wif_intro (fun h => ?_) (fun h => ?_)⟩
    · refine ⟨fun _ => ⟨o2.rIall, trivial⟩, no _ (fun hm => ?_) k2⟩
      have := hm.2.2.1
      simp at h; omega
    have h2 : 0 ≤ c 90 ∧ c 90 ≤ 1024 := by simpa using h
    refine (bare_spec c w2 (by omega) (by omega)).mono ?_
    rintro _ w3 ⟨rfl, k3⟩
    have o3 := o2.k k3
    have K3 := k2.tr k3
    refine ⟨bareF c, rfl, fun _ => ⟨o3.rIall, trivial⟩, Wif_intro (fun h => ?_) (fun h => ?_)⟩
    · refine no _ (fun hm => ?_) K3
      have h' : (!(chain94 fun i => c i == bareF c i)) = true := h
      rw [(chain94_iff _).2 fun i hi => by simpa using hm.2.2.2.1 i hi] at h'
      cases h'
    have h3 : ∀ i, i < 94 → c i = bareF c i := by
      have h' : (!(chain94 fun i => c i == bareF c i)) = false := h
      rw [Bool.not_eq_false'] at h'
      intro i hi
      simpa using (chain94_iff _).1 h' i hi
    clear h
    refine ⟨c 1, o3.rI (by omega), Wif_yes (okSl_of (by omega) (by omega) (by omega)) ?_⟩
    refine ⟨fun _ k w' N => ∃ q : Nat, k = q ∧ q ≤ (c 1).toNat ∧ N = (c 1).toNat - q ∧ Kept none' w w' ∧ own w' b (cfg c) ∧ ∀ i, i < q → 0 ≤ c (2 + i) ∧ c (2 + i) ≤ c 0 - 1, ⟨(c 1).toNat, 0, rfl, by omega, rfl, K3, o3, fun i hi => by omega⟩, ?_⟩
    rintro _ _ w4 _ ⟨q, rfl, hq, rfl, k4, o4, a4⟩
    refine Wif_intro (fun hc => ?_) (fun hc => ?_)
    · simp only [decide_eq_true_eq] at hc
      refine Wif_yes (inB_of (by omega) (by omega)) ⟨c (2 + q), by rw [Int.toNat_natCast, Nat.mul_one]; exact o4.rI (by omega), c 0, o4.rI (by omega), Wif_intro (fun h => ?_) (fun h => ?_)⟩
      · refine no _ (fun hm => ?_) k4
        have := hm.2.2.2.2.1 q (by omega)
        rw [wi (by omega)] at h
        simp at h; omega
      · rw [wi (by omega)] at h
        refine ⟨(c 1).toNat - (q + 1), by omega, q + 1, by rw [wi (by omega)]; rfl, by omega, rfl, k4, o4, fun i hi => ?_⟩
        rcases Nat.lt_or_ge i q with hlt | hge
        · exact a4 i hlt
        · have : i = q := by omega
          subst this
          simpa using h
    have hqe : q = (c 1).toNat := by simp at hc; omega
    subst hqe
    refine ⟨c 0, o4.rI (by omega), Wif_yes (okSl_of (by omega) (by omega) (by omega)) ?_⟩
    refine ⟨fun _ k w' N => ∃ q : Nat, k = q ∧ q ≤ (c 0).toNat ∧ N = (c 0).toNat - q ∧ Kept none' w w' ∧ own w' b (cfg c) ∧ ∀ i, i < q → (4 ≤ c (18 + i) ∧ c (18 + i) ≤ 128) ∧ c 93 ≤ c (18 + i), ⟨(c 0).toNat, 0, rfl, by omega, rfl, k4, o4, fun i hi => by omega⟩, ?_⟩
    rintro _ _ w5 _ ⟨q, rfl, hq, rfl, k5, o5, a5⟩
    refine Wif_intro (fun hc => ?_) (fun hc => ?_)
    · simp only [decide_eq_true_eq] at hc
      refine Wif_yes (inB_of (by omega) (by omega)) ⟨c (18 + q), by rw [Int.toNat_natCast, Nat.mul_one]; exact o5.rI (by omega), c 93, fun _ => o5.rI (by omega), Wif_intro (fun h => ?_) (fun h => ?_)⟩
      · refine no _ (fun hm => ?_) k5
        have := hm.2.2.2.2.2.1 q (by omega)
        simp at h; omega
      · refine ⟨(c 0).toNat - (q + 1), by omega, q + 1, by rw [wi (by omega)]; rfl, by omega, rfl, k5, o5, fun i hi => ?_⟩
        rcases Nat.lt_or_ge i q with hlt | hge
        · exact a5 i hlt
        · have : i = q := by omega
          subst this
          simp at h; omega
    have hqe : q = (c 0).toNat := by simp at hc; omega
    subst hqe
    refine ⟨c, o5.rIall, (near_spec c w5 (by omega)).mono ?_⟩
    rintro _ w6 ⟨nb, rfl, hnb, k6⟩
    have o6 := o5.k k6
    refine ⟨nb, rfl, c 91, fun _ => o6.rI (by omega), c 91, fun _ => o6.rI (by omega), c 92, fun _ => o6.rI (by omega), c 92, fun _ => o6.rI (by omega), c 93, fun _ => o6.rI (by omega), _, rfl, ?_, k5.tr k6⟩
    simp only [Bool.and_eq_true, decide_eq_true_eq, hnb]
    constructor
    · rintro ⟨⟨⟨g1, g2⟩, g3⟩, g4⟩
      exact ⟨h0, h1, h2, h3, a4, a5, g1, g2, g3, g4⟩
    · rintro ⟨_, _, _, _, _, _, g1, g2, g3, g4⟩
      exact ⟨⟨⟨g1, g2⟩, g3⟩, g4⟩
  · rintro e w' ⟨v, rfl, b, rfl, hw⟩
    exact ⟨b, rfl, hw⟩
set_option linter.unusedSimpArgs false
set_option linter.unusedVariables false
set_option maxRecDepth 100000
def fstF (c : Nat → Int) : Nat → Int
  | 0 => 0
  | k + 1 => fstF c k + c (18 + k)
theorem MayP.fr {c : Nat → Int} (h : MayP c) {i : Nat} (hi : (i : Int) < c 0) : 4 ≤ c (18 + i) ∧ c (18 + i) ≤ 128 := (h.2.2.2.2.2.1 i (by omega)).1
theorem MayP.fst {c : Nat → Int} (h : MayP c) : ∀ {k : Nat}, (k : Int) ≤ c 0 → 0 ≤ fstF c k ∧ fstF c k ≤ 128 * k
  | 0, _ => by simp [fstF]
  | k + 1, hk => by
    have := h.fst (k := k) (by omega)
    have := h.fr (i := k) (by omega)
    unfold fstF
    omega
theorem fstF_mono {c : Nat → Int} (h : MayP c) : ∀ {i k : Nat}, i ≤ k → (k : Int) ≤ c 0 → fstF c i ≤ fstF c k
  | i, 0, hi, _ => by have : i = 0 := by omega
                      subst this; exact Int.le_refl _
  | i, k + 1, hi, hk => by
    rcases Nat.lt_or_ge i (k + 1) with hlt | hge
    · have := fstF_mono h (i := i) (k := k) (by omega) (by omega)
      have := h.fr (i := k) (by omega)
      have e : fstF c (k + 1) = fstF c k + c (18 + k) := rfl
      omega
    · have : i = k + 1 := by omega
      subst this; exact Int.le_refl _
theorem first_spec (c : Nat → Int) (hm : MayP c) (w : World) (i : Nat) (hi : (i : Int) < c 0) : Calls Tryz.prog 145 #[cfgV c, .int .i64 (i : Int)] w fun r w' => r = .returned (.tuple #[.int .i64 (fstF c i), .int .i64 0]) ∧ Kept none' w w' := by
  refine (vc145 c i w (fun v w' => v = .tuple #[.int .i64 (fstF c i), .int .i64 0] ∧ Kept none' w w') ?_).mono ?_
  · have h0 := hm.1
    unfold vcP145
    intro w1 e1
    have o1 := own_alloc e1
    have k1 : Kept none' w w1 := (Kept.refl _ _).al e1
    generalize hb : w.heap.size = b at *
    refine ⟨c, o1.rIall, (may_spec c w1).mono ?_⟩
    rintro _ w2 ⟨mb, rfl, hmb, k2⟩
    have : mb = true := hmb.2 hm
    subst this
    have o2 := o1.k k2
    refine ⟨_, rfl, Wif_no rfl ⟨c 0, o2.rI (by omega), Wif_no ?_ (Wif_yes (okSl_of (by omega) (by omega) (by omega)) ?_)⟩⟩
    · rw [wi (by omega), decide_eq_true (show (i : Int) ≥ 0 by omega), decide_eq_true (show (i : Int) ≤ c 0 - 1 by omega)]; rfl
    refine ⟨fun s k w' N => ∃ q : Nat, k = q ∧ q ≤ i ∧ N = i - q ∧ Kept none' w w' ∧ own w' b (cfg c) ∧ s = fstF c q, ⟨i, 0, rfl, by omega, rfl, k1.tr k2, o2, rfl⟩, ?_⟩
    rintro _ _ w3 _ ⟨q, rfl, hq, rfl, k3, o3, rfl⟩
    refine Wif_intro (fun hc => ?_) (fun hc => ?_)
    · simp only [decide_eq_true_eq] at hc
      have f1 := hm.fst (k := q + 1) (by omega)
      refine Wif_yes (inB_of (by omega) (by omega)) ⟨c (18 + q), by rw [Int.toNat_natCast, Nat.mul_one]; exact o3.rI (by omega), i - (q + 1), by omega, q + 1, by rw [wi (by omega)]; rfl, by omega, rfl, k3, o3, ?_⟩
      have e : fstF c (q + 1) = fstF c q + c (18 + q) := rfl
      rw [← e, wi (by omega)]
    · have : q = i := by simp at hc; omega
      subst this
      exact ⟨rfl, k3⟩
  · rintro e w' ⟨v, rfl, rfl, hw⟩
    exact ⟨rfl, hw⟩
theorem node_spec (c : Nat → Int) (hm : MayP c) (w : World) (fr : Int) (hfr : fr ≤ 9223372036854775807) : Calls Tryz.prog 160 #[cfgV c, .int .i64 fr] w fun r w' => Kept none' w w' ∧
    ((∃ i : Nat, (i : Int) < c 0 ∧ fstF c i ≤ fr ∧ fr < fstF c (i + 1) ∧ r = .returned (.tuple #[.int .i64 (i : Int), .int .i64 0])) ∨ ((fr < 0 ∨ fstF c (c 0).toNat ≤ fr) ∧ r = .returned (.tuple #[.int .i64 0, .int .i64 7]))) := by
  refine (vc160 c fr w (fun v w' => Kept none' w w' ∧ ((∃ i : Nat, (i : Int) < c 0 ∧ fstF c i ≤ fr ∧ fr < fstF c (i + 1) ∧ v = (.tuple #[.int .i64 (i : Int), .int .i64 0])) ∨ ((fr < 0 ∨ fstF c (c 0).toNat ≤ fr) ∧ v = (.tuple #[.int .i64 0, .int .i64 7])))) ?_).mono ?_
  · have h0 := hm.1
    unfold vcP160
    intro w1 e1
    have o1 := own_alloc e1
    have k1 : Kept none' w w1 := (Kept.refl _ _).al e1
    generalize hb : w.heap.size = b at *
    refine ⟨c, o1.rIall, (may_spec c w1).mono ?_⟩
    rintro _ w2 ⟨mb, rfl, hmb, k2⟩
    have : mb = true := hmb.2 hm
    subst this
    have o2 := o1.k k2
    refine ⟨_, rfl, Wif_no rfl ?_⟩
    refine ⟨fun s _ _ k w' N => ∃ q : Nat, k = q ∧ (q : Int) ≤ c 0 ∧ N = (c 0).toNat - q ∧ Kept none' w w' ∧ own w' b (cfg c) ∧ s = fr - fstF c q ∧ (q = 0 ∨ 0 ≤ s), ⟨(c 0).toNat, 0, rfl, by omega, by omega, k1.tr k2, o2, by simp [fstF], .inl rfl⟩, ?_⟩
    rintro _ _ _ _ w3 _ ⟨q, rfl, hq, rfl, k3, o3, rfl, hs⟩
    have f0 := hm.fst (k := q) (by omega)
    refine ⟨c 0, fun _ => o3.rI (by omega), Wif_intro (fun hc => ?_) (fun hc => ?_)⟩
    · simp only [Bool.and_eq_true, decide_eq_true_eq] at hc
      have f1 := hm.fst (k := q + 1) (by omega)
      have f2 := hm.fr (i := q) (by omega)
      have e : fstF c (q + 1) = fstF c q + c (18 + q) := rfl
      have hrd : rd w3 b (18 + Int.toNat (q : Int) * 1) = some (.int .i64 (c (18 + q))) := by rw [Int.toNat_natCast, Nat.mul_one]; exact o3.rI (by omega)
      refine Wif_yes (inB_of (by omega) (by omega)) ⟨c (18 + q), hrd, Wif_intro (fun h => ?_) (fun h => ?_)⟩
      · simp only [decide_eq_true_eq] at h
        exact ⟨k3, .inl ⟨q, hc.2, by omega, by omega, rfl⟩⟩
      · simp only [decide_eq_false_iff_not] at h
        refine Wif_yes (inB_of (by omega) (by omega)) ⟨c (18 + q), hrd, (c 0).toNat - (q + 1), by omega, q + 1, by rw [wi (by omega)]; rfl, by omega, rfl, k3, o3, ?_, .inr ?_⟩
        · rw [wi (by omega)]; omega
        · rw [wi (by omega)]; omega
    · refine ⟨k3, .inr ⟨?_, rfl⟩⟩
      rcases hs with rfl | hs
      · simp [fstF] at hc
        rcases Int.lt_or_le fr 0 with h | h
        · exact .inl h
        · have := hc h
          omega
      · right
        rw [decide_eq_true (show fr - fstF c q ≥ 0 from hs)] at hc
        simp at hc
        have : q = (c 0).toNat := by omega
        subst this
        omega
  · rintro e w' ⟨v, rfl, hk, hw⟩
    refine ⟨hk, ?_⟩
    rcases hw with ⟨i, h1, h2, h3, rfl⟩ | ⟨h1, rfl⟩
    · exact .inl ⟨i, h1, h2, h3, rfl⟩
    · exact .inr ⟨h1, rfl⟩
end Go.Proofs.YtklmokolnakkoaaGreatDoor
