/-
  A part of a proof that a law of this seat returns true at every input. Conditions: those in each theorem.
-/
import Derived.Test.YtkmcmkimeibjdaaBL9
import Derived.Test.YtkmcmkimeibjdaaBN1
set_option linter.unusedVariables false
set_option maxRecDepth 100000
namespace Go.Proofs.Ytkmcmkimeibjdaa
open Go Go.Eng
/- byre/byrelaw06.BuddyPowers$1 -/
def vcP28 (c0_0 : Option Addr) (w : World) (K : Value → World → Prop) : Prop :=
 ∀ (w' : World),
 w' = World.alloc w (Obj.cells #[Value.int IntKind.i64 0] 3) →
 Wif (isP c0_0)
 (∃ (x : Option Addr),
 rd w' (pb c0_0) (po c0_0) = some (Value.pointer x) ∧
 ∀ (w'_1 : World),
 w'_1 = World.alloc w' (Obj.cells #[Value.pointer x] 23) →
 Wif (isP c0_0)
 (∃ (x : Option Addr),
 rd w'_1 (pb c0_0) (po c0_0) = some (Value.pointer x) ∧
 ∀ (w' : World),
 w' = World.alloc w'_1 (Obj.cells #[Value.pointer x] 23) →
 ∃ (xss : List (List Value)),
 ∃ (R : Nat → Prop),
 ∃ (I : (Nat → Prop) → Nat → World → Prop),
 ∃ (X : Nat → (Nat → Prop) → World → Prop),
 (GivesV Proofs.Try.prog 54 [Value.pointer (some (Addr.mk (Array.size (World.heap w'_1)) 0 none))] xss R w' ∧
 (∀ (xs : List Value), List.Mem xs xss → List.length xs = 1 ∧ ∃ (v : Value), xs = [v]) ∧ ∀ (b : Nat), R b → Nat.succ b ≤ Array.size (World.heap w')) ∧
 (∀ (w1 : World), Kept none' w' w1 → Array.size (World.heap w1) = Array.size (World.heap w') + 2 → I (fun (x : Nat) => False) 0 w1) ∧
 (∀ (Y : Nat → Prop) (i : Nat) (W W' : World),
 I Y i W →
 (∀ (b : Nat), Y b → Array.size (World.heap w') + 2 ≤ b) →
 Kept (recsY (Array.size (World.heap w')) Y) W W' →
 I (fun (b : Nat) => Y b ∨ Array.size (World.heap W) ≤ b ∧ Nat.succ b ≤ Array.size (World.heap W')) i W') ∧
 (∀ (k : Nat) (Y : Nat → Prop) (W W' : World),
 X k Y W →
 (∀ (b : Nat), Y b → Array.size (World.heap w') + 2 ≤ b) →
 Kept (recsY (Array.size (World.heap w')) Y) W W' →
 X k (fun (b : Nat) => Y b ∨ Array.size (World.heap W) ≤ b ∧ Nat.succ b ≤ Array.size (World.heap W')) W') ∧
 (∀ (Y : Nat → Prop) (i : Nat) (W : World),
 I Y i W →
 (∀ (b : Nat), Y b → Array.size (World.heap w') + 2 ≤ b) →
 Array.size (World.heap w') + 2 ≤ Array.size (World.heap W) →
 ∀ (v : Value),
 xss[i]? = some [v] →
 RecKept (Array.size (World.heap w')) W W ∧
 ∀ (w2 : World),
 Kept (fun (b : Nat) => b = Array.size (World.heap w') + 1) W w2 →
 Array.size (World.heap w2) = Array.size (World.heap W) →
 ∃ (x : Int),
 rd w2 (Array.size (World.heap w)) 0 = some (Value.int IntKind.i64 x) ∧
 wr w2 (Array.size (World.heap w)) 0 ∧
 ∀ (w'_2 : World),
 w'_2 = st w2 (Array.size (World.heap w)) 0 (Value.int IntKind.i64 (IntKind.wrap IntKind.i64 (x + 1))) →
 RecKept (Array.size (World.heap w')) w2 w'_2 ∧ KeptY (fun (b : Nat) => Y b ∨ R b) W w'_2 ∧ I Y (i + 1) w'_2) ∧
 (∀ (Y : Nat → Prop) (W : World),
 I Y (List.length xss) W →
 DefAt (Array.size (World.heap w')) W →
 ∃ (x : Int),
 rd W (Array.size (World.heap w)) 0 = some (Value.int IntKind.i64 x) ∧
 wr W (Array.size (World.heap w)) 0 ∧
 ∀ (w'_2 : World),
 w'_2 = st W (Array.size (World.heap w)) 0 (Value.int IntKind.i64 x) →
 DefsAt [Array.size (World.heap w')] w'_2 ∧
 ∀ (w2 : World),
 Kept (fun (b : Nat) => List.Mem b [Array.size (World.heap w')]) w'_2 w2 →
 Array.size (World.heap w2) = Array.size (World.heap w'_2) →
 ∃ (x : Int), rd w2 (Array.size (World.heap w)) 0 = some (Value.int IntKind.i64 x) ∧ K (Value.int IntKind.i64 x) w2) ∧
 (∀ (Y : Nat → Prop) (W : World),
 X 0 Y W →
 DefAt (Array.size (World.heap w')) W →
 DefsAt [Array.size (World.heap w')] W ∧
 ∀ (w2 : World),
 Kept (fun (b : Nat) => List.Mem b [Array.size (World.heap w')]) W w2 →
 Array.size (World.heap w2) = Array.size (World.heap W) →
 ∃ (x : Int), rd w2 (Array.size (World.heap w)) 0 = some (Value.int IntKind.i64 x) ∧ K (Value.int IntKind.i64 x) w2) ∧
 True)
 False)
 False
theorem vcE28 (c0_0 : Option
 Addr) (w : World) (K : Value → World → Prop) : vcP28 c0_0 w K = Eng.wBody Go.Proofs.Try.prog (Eng.handOf Go.Proofs.Try.prog [44,
 27] 1) [] Go.Proofs.Try.f28 (Eng.bodyOf Go.Proofs.Try.f28) [Value.pointer c0_0] w K := by kernel_rfl
theorem vc28 (c0_0 : Option Addr) (w : World) (K : Value → World → Prop) (h : vcP28 c0_0 w K) :
 Calls Go.Proofs.Try.prog 28 #[Value.pointer c0_0] w (fun e w' => ∃ v, e = .returned v ∧ K v w') :=
 Eng.vc_of [44, 27] 1 [] Go.Proofs.Try.mixes Go.Proofs.Try.func28 (by kernel_rfl) (by kernel_rfl) (vcE28 c0_0 w K) h

-- 580 ms

/- byre/byrelaw06.BuddyPowers -/
def vcP7 (n : Int) (orders : Option Addr) (ordersL : Nat) (ordersC : Nat) (w : World) (K : Value → World → Prop) : Prop :=
 Calls Proofs.Try.prog 13 #[Value.int IntKind.i64 n] w fun (e : Ending) (w' : World) =>
 ∃ (p : Option Addr),
 ∃ (n_1 : Int),
 e = Ending.returned (Value.tuple #[Value.pointer p, Value.int IntKind.i64 n_1]) ∧
 ∀ (w'_1 : World),
 w'_1 = World.alloc w' (Obj.cells #[Value.pointer none] 23) →
 wr w'_1 (Array.size (World.heap w')) 0 ∧
 ∀ (w'_2 : World),
 w'_2 = st w'_1 (Array.size (World.heap w')) 0 (Value.pointer p) →
 ∃ (x : Option Addr),
 ((n_1 != 0) = false → rd w'_2 (Array.size (World.heap w')) 0 = some (Value.pointer x)) ∧
 Wif (n_1 != 0 || Option.isNone x || decide ((↑ordersL : Int) > 100))
 (Calls Proofs.Try.prog 14 #[] w'_2 fun (e : Ending) (w' : World) => ∃ (b : Bool), e = Ending.returned (Value.bool b) ∧ K (Value.bool b) w')
 (∃ (I : Int → Int → World → Nat → Prop),
 (∃ (n_2 : Nat), I 0 n w'_2 n_2) ∧
 ∀ (n n_2 : Int) (w'_3 : World) (n_3 : Nat),
 I n n_2 w'_3 n_3 →
 Wif (decide (n_2 > 0)) (∃ (m : Nat), Nat.succ m ≤ n_3 ∧ I (IntKind.wrap IntKind.i64 (n + Int.tmod n_2 2)) (IntKind.wrap IntKind.i64 (Int.tdiv n_2 2)) w'_3 m)
 (Calls Proofs.Try.prog 28 #[Value.pointer (some (Addr.mk (Array.size (World.heap w')) 0 none))] w'_3 fun (e : Ending) (w'_4 : World) =>
 ∃ (n_4 : Int),
 e = Ending.returned (Value.int IntKind.i64 n_4) ∧
 Wif (n_4 != n) (K (Value.bool false) w'_4)
 (∃ (I : Option Addr → Nat → Nat → Int → World → Nat → Prop),
 (∃ (n : Nat), I none 0 0 0 w'_4 n) ∧
 ∀ (a : Option Addr) (l c : Nat) (n_5 : Int) (w'_5 : World) (n_6 : Nat),
 I a l c n_5 w'_5 n_6 →
 Wif (decide (n_5 < (↑ordersL : Int)))
 (∀ (w1 : World),
 w1 = World.drew w'_5 →
 ∃ (x : Option Addr),
 rd w1 (Array.size (World.heap w')) 0 = some (Value.pointer x) ∧
 Wif (isP orders)
 (Wif (inB n_5 ordersL)
 (∃ (x_1 : Int),
 rd w1 (pb orders) (po orders + Int.toNat n_5 * 1) = some (Value.int IntKind.i64 x_1) ∧
 Calls Proofs.Try.prog 15 #[Value.pointer x, Value.int IntKind.i64 x_1, Value.bool (Int.tmod n_5 2 == 0)] w1
 fun (e : Ending) (w' : World) =>
 ∃ (n : Int),
 ∃ (n_7 : Int),
 e = Ending.returned (Value.tuple #[Value.int IntKind.i64 n, Value.int IntKind.i64 n_7]) ∧
 Wif (n_7 == 0)
 (Wif (isP orders)
 (Wif (inB n_5 ordersL)
 (∃ (x : Int),
 rd w' (pb orders) (po orders + Int.toNat n_5 * 1) = some (Value.int IntKind.i64 x) ∧
 ∀ (w'_6 : World),
 w'_6 = World.alloc w' (Obj.cells #[Value.int IntKind.i64 n, Value.int IntKind.i64 x] 58) →
 ∃ (a_1 : Option Addr),
 ∃ (l_1 : Nat),
 ∃ (c_1 : Nat),
 ∃ (w'_7 : World),
 appIs Proofs.Try.prog #[56, 56] 56 (Value.slice a l c)
 (Value.slice (some (Addr.mk (Array.size (World.heap w')) 0 none)) 1 1) (Value.slice a_1 l_1 c_1)
 w'_6 w'_7 ∧
 ∃ (m : Nat), Nat.succ m ≤ n_6 ∧ I a_1 l_1 c_1 (IntKind.wrap IntKind.i64 (n_5 + 1)) w'_7 m)
 False)
 False)
 (∃ (m : Nat), Nat.succ m ≤ n_6 ∧ I a l c (IntKind.wrap IntKind.i64 (n_5 + 1)) w' m))
 False)
 False)
 (∃ (I : Bool → Int → World → Nat → Prop),
 (∃ (n : Nat), I false 0 w'_5 n) ∧
 ∀ (b : Bool) (n_7 : Int) (w'_6 : World) (n_8 : Nat),
 I b n_7 w'_6 n_8 →
 Wif (decide (n_7 < (↑l : Int)))
 (∀ (w1 : World),
 w1 = World.drew w'_6 →
 ∃ (x : Option Addr),
 rd w1 (Array.size (World.heap w')) 0 = some (Value.pointer x) ∧
 Wif (isP a)
 (Wif (inB n_7 l)
 (∃ (x_1 : Int),
 rd w1 (pb a) (po a + Int.toNat n_7 * 2) = some (Value.int IntKind.i64 x_1) ∧
 Wif (isP a)
 (Wif (inB n_7 l)
 (∃ (x_2 : Int),
 rd w1 (pb a) (po a + Int.toNat n_7 * 2 + 1) = some (Value.int IntKind.i64 x_2) ∧
 Calls Proofs.Try.prog 16 #[Value.pointer x, Value.int IntKind.i64 x_1, Value.int IntKind.i64 x_2] w1
 fun (e : Ending) (w' : World) =>
 ∃ (n : Int),
 e = Ending.returned (Value.int IntKind.i64 n) ∧
 Wif (n != 0) (K (Value.bool false) w')
 (∃ (m : Nat), Nat.succ m ≤ n_8 ∧ I b (IntKind.wrap IntKind.i64 (n_7 + 1)) w' m))
 False)
 False)
 False)
 False)
 (Calls Proofs.Try.prog 28 #[Value.pointer (some (Addr.mk (Array.size (World.heap w')) 0 none))] w'_6 fun (e : Ending) (w' : World) =>
 ∃ (n_9 : Int),
 e = Ending.returned (Value.int IntKind.i64 n_9) ∧
 Wif (n_9 == n)
 (Calls Proofs.Try.prog 14 #[] w' fun (e : Ending) (w' : World) =>
 ∃ (b : Bool), e = Ending.returned (Value.bool b) ∧ K (Value.bool b) w')
 (K (Value.bool false) w'))))))
theorem vcE7 (n : Int) (orders : Option
 Addr) (ordersL : Nat) (ordersC : Nat) (w : World) (K : Value → World → Prop) : vcP7 n orders ordersL ordersC w K = Eng.wBody Go.Proofs.Try.prog (Eng.handOf Go.Proofs.Try.prog [44,
 27] 1) [] Go.Proofs.Try.f7 (Eng.bodyOf Go.Proofs.Try.f7) [Value.int IntKind.i64 n, Value.slice orders ordersL ordersC] w K := by kernel_rfl
theorem vc7 (n : Int) (orders : Option Addr) (ordersL : Nat) (ordersC : Nat) (w : World) (K : Value → World → Prop) (h : vcP7 n orders ordersL ordersC w K) :
 Calls Go.Proofs.Try.prog 7 #[Value.int IntKind.i64 n, Value.slice orders ordersL ordersC] w (fun e w' => ∃ v, e = .returned v ∧ K v w') :=
 Eng.vc_of [44, 27] 1 [] Go.Proofs.Try.mixes Go.Proofs.Try.func7 (by kernel_rfl) (by kernel_rfl) (vcE7 n orders ordersL ordersC w K) h

-- 31498 ms

end Go.Proofs.Ytkmcmkimeibjdaa
namespace Go.Proofs.Ytkmcmkimeibjdaa
open Go Eng
set_option linter.unusedSimpArgs false
set_option linter.unusedVariables false
set_option maxRecDepth 100000
/-! ### how many free blocks a whole node has -/
def cnt (n : Nat) : Nat → Nat
  | 0 => 0
  | k + 1 => cnt n k + if n.testBit k then 1 else 0
def bl (n : Nat) : Nat → Nat → List Bk
  | 0, _ => []
  | k + 1, a => if n.testBit k then ⟨a, k, 0⟩ :: bl n k (a + 2 ^ k) else bl n k a
theorem bl_len (n : Nat) : ∀ k a, (bl n k a).length = cnt n k
  | 0, _ => rfl
  | k + 1, a => by
    unfold bl cnt
    split
    · rw [List.length_cons, bl_len n k]
    · rw [bl_len n k]; rfl
theorem bl_mem (n : Nat) : ∀ k a, ∀ x ∈ bl n k a, x.g = 0 ∧ x.o < k
  | 0, _, x, h => by cases h
  | k + 1, a, x, h => by
    unfold bl at h
    split at h
    · rcases List.mem_cons.1 h with rfl | h
      · exact ⟨rfl, by dsimp only; omega⟩
      · have := bl_mem n k _ x h; exact ⟨this.1, by omega⟩
    · have := bl_mem n k _ x h; exact ⟨this.1, by omega⟩
theorem bl_pw (n : Nat) : ∀ k a, (bl n k a).Pairwise fun x y => y.o < x.o
  | 0, _ => List.Pairwise.nil
  | k + 1, a => by
    unfold bl
    split
    · exact List.Pairwise.cons (fun y hy => (bl_mem n k _ y hy).2) (bl_pw n k _)
    · exact bl_pw n k _
theorem mod_bit (n k : Nat) : n % 2 ^ (k + 1) = (if n.testBit k then 2 ^ k else 0) + n % 2 ^ k := by
  rw [Nat.pow_succ, Nat.mod_mul, Nat.testBit_eq_decide_div_mod_eq]
  rcases Nat.mod_two_eq_zero_or_one (n / 2 ^ k) with h | h <;> simp [h] <;> omega
theorem bl_tile (n : Nat) : ∀ k a, k ≤ 11 → a % 2 ^ k = 0 → Tile a (bl n k a) (a + n % 2 ^ k)
  | 0, a, _, _ => by simp [bl, Tile, Nat.mod_one]
  | k + 1, a, hk, h => by
    have h1 : a % 2 ^ k = 0 := mod_le h (by omega)
    unfold bl
    rw [mod_bit]
    split
    · refine ⟨rfl, h1, by dsimp only; omega, ?_⟩
      have := bl_tile n k (a + 2 ^ k) (by omega) (mod_add h1 (Nat.mod_self _))
      rw [Nat.add_assoc] at this
      exact this
    · have := bl_tile n k a (by omega) h1
      rw [Nat.zero_add]; exact this
theorem bl_inv {n : Nat} (hn : 1 ≤ n ∧ n ≤ 128) : Inv n (bl n 8 0) := by
  refine ⟨hn, ?_, fun x hx y hy gx gy eo lt ep em => ?_, fun x hx => .inl (bl_mem n 8 0 x hx).1⟩
  · have := bl_tile n 8 0 (by omega) (by simp)
    rw [Nat.mod_eq_of_lt (by omega), Nat.zero_add] at this
    exact this
  · have hp := bl_pw n 8 0
    have : x = y := by
      obtain ⟨i, hi, rfl⟩ := List.mem_iff_getElem.1 hx
      obtain ⟨j, hj, rfl⟩ := List.mem_iff_getElem.1 hy
      rcases Nat.lt_trichotomy i j with h | h | h
      · have := List.pairwise_iff_getElem.1 hp i j hi hj h; omega
      · subst h; rfl
      · have := List.pairwise_iff_getElem.1 hp j i hj hi h; omega
    subst this
    have := p2 x.o
    omega
theorem whole_cnt {n : Nat} {l : List Bk} (h : Inv n l) (hg : ∀ x ∈ l, x.g = 0) : (frB l).length = cnt n 8 := by
  have := h.zero (bl_inv h.n1) hg fun x hx => (bl_mem n 8 0 x hx).1
  rw [this]
  have : frB (bl n 8 0) = bl n 8 0 := List.filter_eq_self.2 fun x hx => by simp [(bl_mem n 8 0 x hx).1]
  rw [this, bl_len]
theorem cnt_half (n : Nat) : ∀ k, cnt n (k + 1) = n % 2 + cnt (n / 2) k
  | 0 => by
    simp only [cnt, Nat.testBit_zero]
    rcases Nat.mod_two_eq_zero_or_one n with h | h <;> simp [h]
  | k + 1 => by
    have ih := cnt_half n k
    have e1 : cnt n (k + 1 + 1) = cnt n (k + 1) + if n.testBit (k + 1) then 1 else 0 := rfl
    have e2 : cnt (n / 2) (k + 1) = cnt (n / 2) k + if (n / 2).testBit k then 1 else 0 := rfl
    rw [e1, e2, ih, Nat.testBit_succ]
    omega
theorem cnt_step {k : Nat} (hk : k ≤ 128) : cnt k 8 = k % 2 + cnt (k / 2) 8 := by
  rw [cnt_half k 7]
  have e2 : cnt (k / 2) 8 = cnt (k / 2) 7 + if (k / 2).testBit 7 then 1 else 0 := rfl
  rw [e2, Nat.testBit_lt_two_pow (show k / 2 < 2 ^ 7 by omega)]
  simp
theorem cnt_le (n : Nat) : ∀ k, cnt n k ≤ k
  | 0 => Nat.le_refl _
  | k + 1 => by
    have := cnt_le n k
    unfold cnt
    split <;> omega
theorem frB_len (l : List Bk) : (frB l).length ≤ l.length := List.length_filter_le _ _
/-! ### count -/
theorem recKept_refl (B : Nat) (w : World) : RecKept B w w := ⟨Nat.le_refl _, rfl, rfl⟩
theorem recKept_of {B : Nat} {X : Nat → Prop} {w w' : World} (k : Kept X w w') (hB : B + 1 < w.heap.size) (h1 : ¬ X B) (h2 : ¬ X (B + 1)) : RecKept B w w' := ⟨k.sz, k.blk B (by omega) h1, k.blk (B + 1) hB h2⟩
theorem keptY_of {Y X : Nat → Prop} {w w' : World} (k : Kept X w w') (h : ∀ b, Y b → b < w.heap.size ∧ ¬ X b) : KeptY Y w w' := ⟨k.sz, fun b hb => k.blk b (h b hb).1 (h b hb).2⟩
section
variable {w w' : World} {b cb t : Nat} {m : Nat → Nat} {n : Nat} {L : List Bk}
theorem count_spec (hs : SortSays L) (h : BAt w b m t (stOf n L)) (hi : Inv n L) (hc : rd w cb 0 = some (ptr b)) : Calls Try.prog 28 #[.pointer (some ⟨cb, 0, none⟩)] w fun r w' => r = .returned (.int .i64 ((frB L).length : Nat)) ∧ Kept none' w w' := by
  refine (vc28 _ w (fun v w' => v = .int .i64 ((frB L).length : Nat) ∧ Kept none' w w') ?_).mono ?_
  · have hlen : (frB L).length ≤ 128 := by have := frB_len L; have := tile_le hi.tl; have := hi.n1; omega
    unfold vcP28
    intro w1 e1
    have o1 := own_alloc (c := [.int .i64 0]) e1
    have k1 : Kept none' w w1 := (Kept.refl _ _).al e1
    have s1 : w1.heap.size = w.heap.size + 1 := by rw [e1]; simp only [World.alloc, Array.size_push]
    simp only [isP_some, Wif_true, pb_some, po_some]
    refine ⟨_, k1.rd_some hc id, ?_⟩
    intro w2 e2
    have k2 : Kept none' w w2 := k1.al e2
    have o2 := o1.al e2
    refine ⟨_, k2.rd_some hc id, ?_⟩
    intro w3 e3
    have k3 : Kept none' w w3 := k2.al e3
    have o3 := o2.al e3
    have c3 := own_alloc (c := [ptr b]) e3
    have s2 : w2.heap.size = w.heap.size + 2 := by rw [e2]; simp only [World.alloc, Array.size_push]; omega
    have s3 : w3.heap.size = w.heap.size + 3 := by rw [e3]; simp only [World.alloc, Array.size_push]; omega
    have h3 := h.k k3
    generalize hkb : w.heap.size = kb at *
    generalize hB : w3.heap.size = B at *
    have hown : ∀ {W W' : World} {X : Nat → Prop}, Kept (· = kb) w3 W → Kept X W W' → (∀ x, X x → x = kb ∨ B ≤ x) → Kept (· = kb) w3 W' := fun ha hb' hx => ha.trans hb' fun x hl hh => by rcases hx x hh with h | h; exact h; omega
    refine ⟨(frB L).map fun x => [blkV x], fun _ => False, fun Y i W => Kept (· = kb) w3 W ∧ own W kb [.int .i64 (i : Int)] ∧ ∀ x, Y x → x < W.heap.size, fun _ _ _ => False, ⟨blocks_gives hs h3 hi (by rw [c3.rd]; rfl), fun xs hx => ?_, fun b h => h.elim⟩, fun w4 k4 _ => ⟨k4.mono fun _ _ h => h.elim, o3.k k4, fun x h => h.elim⟩, ?_, fun _ _ _ _ h => h.elim, ?_, ?_, fun _ _ h => h.elim, trivial⟩
    · obtain ⟨x, _, rfl⟩ := List.mem_map.1 hx
      exact ⟨rfl, _, rfl⟩
    · rintro Y i W W' ⟨g1, g2, g3⟩ hY k'
      refine ⟨hown g1 k' fun x hx => .inr (by rcases hx with rfl | rfl | h; omega; omega; have := hY x h; omega), g2.kx k' (fun hx => by rcases hx with h | h | h; omega; omega; have := hY _ h; omega), fun x hx => ?_⟩
      have := k'.sz
      rcases hx with hx | hx
      · have := g3 x hx; omega
      · exact hx.2
    · rintro Y i W ⟨g1, g2, g3⟩ hY hsz v hv
      refine ⟨recKept_refl _ _, fun w4 k4 hs4 => ?_⟩
      have g2' := g2.kx k4 (by omega)
      refine ⟨(i : Int), by rw [g2'.rd]; rfl, g2'.wr (by simp), ?_⟩
      intro w5 e5
      have k45 : Kept (· = kb) w4 w5 := (Kept.refl _ _).s1 e5 (.inl rfl)
      have hil : i < (frB L).length := by
        have := List.getElem?_eq_some_iff.1 hv
        simpa using this.1
      have g5 := g2'.s1 e5
      rw [wi (by omega)] at g5
      have kW5 : Kept (fun x => x = kb ∨ x = B + 1) W w5 := (k4.mono fun x _ h => .inr h).trans k45 fun x _ h => .inl h
      refine ⟨recKept_of k45 (by omega) (by omega) (by omega), keptY_of kW5 fun x hx => ?_, hown (hown g1 k4 fun x h => .inr (by omega)) k45 fun x h => .inl h, g5, fun x hx => ?_⟩
      · rcases hx with hx | hx
        · have := hY x hx; have := g3 x hx; omega
        · exact hx.elim
      · have := g3 x hx; have := kW5.sz; omega
    · rintro Y W ⟨g1, g2, g3⟩ hd
      rw [List.length_map] at g2
      refine ⟨_, by rw [g2.rd]; rfl, g2.wr (by simp), ?_⟩
      intro w4 e4
      have g4 := g2.s1 e4
      have k4 : Kept (· = kb) W w4 := (Kept.refl _ _).s1 e4 (.inl rfl)
      have d4 := hd.k k4 (by omega)
      have hne : ∀ x ∈ [B], x ≠ kb := fun x hx => by
        have : x = B := by simpa using hx
        omega
      have hge : ∀ x ∈ [B], B ≤ x := fun x hx => by
        have : x = B := by simpa using hx
        omega
      refine ⟨⟨by simp, fun D hD => by simp at hD; subst hD; exact d4.at_⟩, fun w5 k5 _ => ⟨_, by rw [(g4.kx k5 (fun h => hne kb h rfl)).rd]; rfl, rfl, ?_⟩⟩
      have hK : Kept (· = kb) w3 w5 := hown (hown g1 k4 fun x h => .inl h) k5 fun x h => .inr (hge x h)
      exact own0 k3 hK fun x h => by omega
  · rintro e w' ⟨v, rfl, rfl, hw⟩
    exact ⟨rfl, hw⟩
end
end Go.Proofs.Ytkmcmkimeibjdaa
