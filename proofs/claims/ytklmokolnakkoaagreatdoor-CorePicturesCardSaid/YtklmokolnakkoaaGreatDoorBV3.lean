/-
  A part of a proof that a law of this seat returns true at every input. Conditions: those in each theorem.
-/
import Derived.Test.YtklmokolnakkoaaGreatDoorZV2
import Derived.Test.YtklmokolnakkoaaGreatDoorBS2
import Derived.Test.YtklmokolnakkoaaGreatDoorEngQ
import Derived.Shelf.SlSortCmp.InsertionK
import Derived.Sort.OwnSortedInts
import Derived.Test.YtklmokolnakkoaaGreatDoorProg
import Derived.Shelf.SlSortCmp.NoneTotal
import Derived.Test.YtklmokolnakkoaaGreatDoorZC4
set_option linter.unusedVariables false
set_option maxRecDepth 100000
namespace Go.Proofs.YtklmokolnakkoaaGreatDoor
open Go Go.Eng
open Go.Value (slice pointer)
/- (*byre/buddy.Buddy).Blocks$1 -/
def vcP168 (l0 : Nat) (c1_0 : OA) (w : World) (K : KV) : Prop := Wif (isP c1_0) (∃ (x : OA), rd w (pb c1_0) (po c1_0) = some (.pointer x) ∧ gIf (isP x) ((!Option.isNone x) = true) (∃ (x_1 : Option Nat), ((!Option.isNone x) = true → rd w (pb x) (po x + 12) = some (.map x_1)) ∧ Wif (!(!Option.isNone x && !Option.isNone x_1)) (K (.tuple #[]) w) (Wif (isP c1_0) (∃ (x : OA), rd w (pb c1_0) (po c1_0) = some (.pointer x) ∧ Wif (isP x) (∃ (x_2 x_3 x_4 x_5 x_6 x_7 x_8 x_9 x_10 x_11 x_12 : Option Nat), rdAll w (pb x) (po x + 1) [Value.map x_2, Value.map x_3, Value.map x_4, Value.map x_5, Value.map x_6, Value.map x_7, Value.map x_8, Value.map x_9, Value.map x_10, Value.map x_11, Value.map x_12] ∧ ∃ (I : OA → Nat → Nat → Int → World → Nat → Prop), (∃ (n : Nat), I none 0 0 0 w n) ∧ ∀ (a : OA) (l c : Nat) (n : Int) (w' : World) (n_1 : Nat), I a l c n w' n_1 → Wif (decide (n < 11)) (Wif (inB n 11) (∃ (x : Option Nat), [Value.map x_2, Value.map x_3, Value.map x_4, Value.map x_5, Value.map x_6, Value.map x_7, Value.map x_8, Value.map x_9, Value.map x_10, Value.map x_11, Value.map x_12][Int.toNat n * 1]? = some (.map x) ∧ ∃ (p : OA) (w'_1 : World), rngIs Tryz.prog 284 (Value.map x) (pointer p) w' w'_1 ∧ ∃ (I_1 : OA → Nat → Nat → World → Nat → Prop), (∃ (n : Nat), I_1 a l c w'_1 n) ∧ ∀ (a : OA) (l c : Nat) (w' : World) (n_2 : Nat), I_1 a l c w' n_2 → (∃ (w'_2 : World), nxtIs Tryz.prog (pointer p) false 0 (Value.tuple #[Value.bool false]) w' w'_2 ∧ ∃ m, Nat.succ m ≤ n_1 ∧ I a l c (IntKind.wrap .i64 (n + 1)) w'_2 m) ∨ ∃ (k v : Value) (w'_2 : World), nxtIs Tryz.prog (pointer p) false 0 (Value.tuple #[Value.bool true, k, v]) w' w'_2 ∧ ∃ (x : Int) (x_13 : Value), entIs Tryz.prog (pointer p) (Value.tuple #[vi x, x_13]) w'_2 ∧ ∀ w', w' = w'_2.alloc (.cells #[vi x, vi n] 87) → ∃ (a_1 : OA) (l_1 c_1 : Nat) (w'_3 : World), appIs Tryz.prog #[62, 62] 62 (slice a l c) (slice (some (Addr.mk w'_2.heap.size 0 none)) 1 1) (slice a_1 l_1 c_1) w' w'_3 ∧ ∃ m, Nat.succ m ≤ n_2 ∧ I_1 a_1 l_1 c_1 w'_3 m) False) (Calls Tryz.prog 170 #[slice a l c, Value.func (Fn.func 171) #[] #[]] w' fun e w' => e = .returned (.tuple #[]) ∧ ∃ (I : Int → World → Nat → Prop), (∃ (n : Nat), I 0 w' n) ∧ ∀ (n : Int) (w' : World) (n_2 : Nat), I n w' n_2 → Wif (decide (n < (↑l : Int))) (Wif (isP a) (Wif (inB n l) (∃ (x x_13 : Int), (rd w' (pb a) (po a + Int.toNat n * 2) = some (.int .i64 x) ∧ rd w' (pb a) (po a + Int.toNat n * 2 + 1) = some (.int .i64 x_13)) ∧ ∀ w'_1, w'_1 = w'.alloc (.cells #[vi 0, vi 0] 87) → (wr w'_1 w'.heap.size 0 ∧ wr w'_1 w'.heap.size 1) ∧ ∀ w'_2, w'_2 = st (st w'_1 w'.heap.size 0 (vi x)) w'.heap.size 1 (vi x_13) → ∃ (x x_14 : Int), (rd w'_2 w'.heap.size 0 = some (.int .i64 x) ∧ rd w'_2 w'.heap.size 1 = some (.int .i64 x_14)) ∧ YieldIs Tryz.prog l0 [Value.agg #[vi x, vi x_14]] w'_2 fun (r : Ending) (w' : World) => ∃ (b : Bool), r = Ending.returned (Value.bool b) ∧ Wif (!b) (K (.tuple #[]) w') (∃ m, Nat.succ m ≤ n_2 ∧ I (IntKind.wrap .i64 (n + 1)) w' m)) False) False) (K (.tuple #[]) w'))) False) False))) False
theorem vc168 (l0 : Nat) (c1_0 : OA) (w : World) (K : KV) (h : vcP168 l0 c1_0 w K) : Calls Tryz.prog 168 #[Value.func (Fn.yield l0) #[] #[], pointer c1_0] w (fun e w' => ∃ v, e = .returned v ∧ K v w') := Eng.vc_of [169] 2 [1000041] Tryz.mixes Tryz.func168 (by kernel_rfl) (by kernel_rfl) (by kernel_rfl) h
/- (*byre/buddy.Buddy).Blocks$1$1 -/
def vcP171 (x0 x1 y0 y1 : Int) (w : World) (K : KV) : Prop := ∀ w', w' = w.alloc (.cells #[vi x0, vi x1] 87) → ∀ w'_1, w'_1 = w'.alloc (.cells #[vi y0, vi y1] 87) → ∃ (x : Int), rd w'_1 w.heap.size 0 = some (.int .i64 x) ∧ ∃ (x_1 : Int), rd w'_1 w'.heap.size 0 = some (.int .i64 x_1) ∧ K (vi (IntKind.wrap .i64 (x - x_1))) w'_1
theorem vc171 (x0 x1 y0 y1 : Int) (w : World) (K : KV) (h : vcP171 x0 x1 y0 y1 w K) : Calls Tryz.prog 171 #[Value.agg #[vi x0, vi x1], Value.agg #[vi y0, vi y1]] w (fun e w' => ∃ v, e = .returned v ∧ K v w') := Eng.vc_of [169] 2 [] Tryz.mixes Tryz.func171 (by kernel_rfl) (by kernel_rfl) (by kernel_rfl) h
set_option linter.unusedSimpArgs false
set_option linter.unusedVariables false
set_option maxRecDepth 100000
def frB (l : List Bk) : List Bk := l.filter fun x => x.g == 0
def blkV (x : Bk) : Value := .agg #[.int .i64 (x.p : Int), .int .i64 (x.o : Int)]
theorem mem_frB {l : List Bk} {x : Bk} : x ∈ frB l ↔ x ∈ l ∧ x.g = 0 := by
  unfold frB
  rw [List.mem_filter]
  simp
def ordAt (l : List Bk) (a : Nat) : Nat := ((l.find? fun x => x.g == 0 && x.p == a).map (·.o)).getD 0
theorem ordAt_of {l : List Bk} {n : Nat} (h : Tile 0 l n) {x : Bk} (hx : x ∈ l) (hg : x.g = 0) : ordAt l x.p = x.o := by
  unfold ordAt
  cases hf : l.find? fun y => y.g == 0 && y.p == x.p with
  | none =>
    have := List.find?_eq_none.1 hf x hx
    simp [hg] at this
  | some y =>
    have h1 := List.mem_of_find?_eq_some hf
    have h2 := List.find?_some hf
    simp only [Bool.and_eq_true, beq_iff_eq] at h2
    have : y = x := tile_start h h1 hx h2.2
    rw [this]; rfl
theorem frB_sorted {l : List Bk} {n : Nat} (h : Tile 0 l n) : ((frB l).map (·.p)).Pairwise (fun a b => a < b) := by
  rw [List.pairwise_map]
  refine ((tile_pw h).filter _).imp ?_
  intro x y hxy
  have := p2 x.o
  omega
set_option linter.unusedSimpArgs false
set_option linter.unusedVariables false
set_option maxRecDepth 100000
def rowCells (l : List Bk) (d : List Nat) : List Value := d.flatMap fun (a : Nat) => [.int .i64 (a : Int), .int .i64 (ordAt l a : Nat)]
theorem rowCells_app (l : List Bk) (d d' : List Nat) : rowCells l (d ++ d') = rowCells l d ++ rowCells l d' := by simp [rowCells]
theorem rowCells_len (l : List Bk) : ∀ d : List Nat, (rowCells l d).length = d.length * 2
  | [] => rfl
  | a :: d => by
    have := rowCells_len l d
    simp only [rowCells, List.flatMap_cons, List.length_append, List.length_cons, List.length_nil] at this ⊢
    omega
theorem rowCells_get (l : List Bk) : ∀ (d : List Nat) (i : Nat) (a : Nat), d[i]? = some a → (rowCells l d)[i * 2]? = some (.int .i64 (a : Int)) ∧ (rowCells l d)[i * 2 + 1]? = some (.int .i64 (ordAt l a : Nat))
  | [], i, a, h => by simp at h
  | x :: d, 0, a, h => by
    simp at h
    subst h
    exact ⟨rfl, rfl⟩
  | x :: d, i + 1, a, h => by
    have := rowCells_get l d i a (by simpa using h)
    have e : rowCells l (x :: d) = [.int .i64 (x : Int), .int .i64 (ordAt l x : Nat)] ++ rowCells l d := rfl
    rw [e]
    constructor
    · rw [List.getElem?_append_right (by simp; omega), show (i + 1) * 2 - [Value.int .i64 (x : Int), .int .i64 (ordAt l x : Nat)].length = i * 2 by simp; omega]
      exact this.1
    · rw [List.getElem?_append_right (by simp; omega), show (i + 1) * 2 + 1 - [Value.int .i64 (x : Int), .int .i64 (ordAt l x : Nat)].length = i * 2 + 1 by simp; omega]
      exact this.2
def frN (q : Nat) (l : List Bk) : List Nat := (l.filter fun x => x.g == 0 && x.o == q).map (·.p)
def plc (q : Nat) (l : List Bk) : List Nat := (l.filter fun x => x.g == 0 && decide (x.o < q)).map (·.p)
theorem fr_frN (q : Nat) (l : List Bk) : fr q l = (frN q l).map fun (a : Nat) => (a : Int) := by simp [fr, frN, Function.comp_def]
theorem plc_len (q : Nat) (l : List Bk) : (plc q l).length ≤ l.length := by
  unfold plc; rw [List.length_map]; exact List.length_filter_le _ _
theorem plc_zero (l : List Bk) : plc 0 l = [] := by
  unfold plc
  rw [List.filter_eq_nil_iff.2 (by intro x _; simp)]; rfl
theorem plc_succ (q : Nat) : ∀ l : List Bk, (plc (q + 1) l).Perm (plc q l ++ frN q l)
  | [] => List.Perm.refl _
  | x :: l => by
    have ih := plc_succ q l
    unfold plc frN at *
    by_cases hg : x.g = 0
    · rcases Nat.lt_trichotomy x.o q with h | h | h
      · rw [List.filter_cons_of_pos (by simp [hg]; omega), List.filter_cons_of_pos (by simp [hg]; omega), List.filter_cons_of_neg (by simp [hg]; omega)]
        simp only [List.map_cons, List.cons_append]
        exact ih.cons _
      · rw [List.filter_cons_of_pos (by simp [hg]; omega), List.filter_cons_of_neg (by simp [hg]; omega), List.filter_cons_of_pos (by simp [hg]; omega)]
        simp only [List.map_cons]
        exact (ih.cons _).trans List.perm_middle.symm
      · rw [List.filter_cons_of_neg (by simp [hg]; omega), List.filter_cons_of_neg (by simp [hg]; omega), List.filter_cons_of_neg (by simp [hg]; omega)]
        exact ih
    · rw [List.filter_cons_of_neg (by simp [hg]), List.filter_cons_of_neg (by simp [hg]), List.filter_cons_of_neg (by simp [hg])]
      exact ih
theorem plc_all {l : List Bk} (h : ∀ x ∈ l, x.o ≤ 10) : plc 11 l = (frB l).map (·.p) := by
  unfold plc frB
  congr 1
  apply List.filter_congr
  intro x hx
  have := h x hx
  simp; omega
theorem info_blk : (Tryz.prog.info? 87).map (fun i => (i.zero, i.size, i.bytes)) = some (some (.agg #[.int .i64 0, .int .i64 0]), 2, 16) := by kernel_rfl
theorem app_blk {w : World} {base : Nat} {v : Value} {n : Nat} {xs : List Value} (ho : w.ownsRow base 87 2 v n xs) {X m c off : Nat} {ys news : List Value} (hx : own w X ys) (hys : (ys.drop off).take (m * 2) = news) (hl : news.length = m * 2)
    (h1 : ∀ u ∈ news, u.oneCell' = true) (h63 : n + m ≤ 1000000) (hbase : base ≤ w.heap.size) :
    ∃ a l c' w', appIs Tryz.prog #[62, 62] 62 v (.slice (some ⟨X, off, none⟩) m c) (.slice a l c') w w' ∧ l = n + m ∧ w'.ownsRow base 87 2 (.slice a l c') (n + m) (xs ++ news) ∧ Kept (fun b => v.ownBlock = some b) w w' := by
  have h := info_blk
  cases hi : Tryz.prog.info? 87 with
  | none => rw [hi] at h; cases h
  | some i =>
    rw [hi] at h
    simp at h
    exact app_own (P := Tryz.prog) (t := 62) (ty := 62) (e := 87) (i := i) (z := .agg #[.int .i64 0, .int .i64 0]) (size := 2) Tryz.underlying62 hi h.1 h.2.1 rfl (by decide) ho hx hys hl h1 h63 (by omega) hbase
def SortSays (l : List Bk) : Prop := ∀ (w : World) (a : Option Addr) (n c base : Nat) (d : List Nat), w.ownsRow base 87 2 (.slice a n c) n (rowCells l d) → (∀ x ∈ d, x < 128) → d.Nodup → d.length ≤ 128 →
  Calls Tryz.prog 170 #[.slice a n c, .func (.func 171) #[] #[]] w fun e w' => e = .returned (.tuple #[]) ∧ w'.ownsRow base 87 2 (.slice a n c) n (rowCells l (d.mergeSort fun x y => decide (x ≤ y))) ∧ Kept (fun b => (Value.slice a n c).ownBlock = some b) w w'
theorem sorted_perm_eq {d e : List Nat} (hp : d.Perm e) (he : e.Pairwise (fun a b => a < b)) : (d.mergeSort fun x y => decide (x ≤ y)) = e := by
  have h1 : (d.mergeSort fun x y => decide (x ≤ y)).Pairwise (fun x y => x ≤ y) := by
    have := List.pairwise_mergeSort (le := fun (x y : Nat) => decide (x ≤ y)) (by intro a b c h1 h2; simp at *; omega) (by intro a b; simp; omega) d
    exact this.imp fun h => by simpa using h
  have h2 : (d.mergeSort fun x y => decide (x ≤ y)).Perm e := (List.mergeSort_perm d _).trans hp
  exact h2.eq_of_pairwise (le := fun x y => x ≤ y) (fun a b _ _ h1 h2 => by omega) h1 (he.imp fun h => by omega)
set_option linter.unusedSimpArgs false
set_option linter.unusedVariables false
set_option maxRecDepth 100000
theorem _root_.Go.Eng.Kept.toY {Y : Nat → Prop} {w w' : World} (k : Kept none' w w') : Kept Y w w' := k.mono fun _ _ h => h.elim
theorem rowTy {w : World} {base e size n g : Nat} {v : Value} {xs : List Value} (h : w.ownsRow base e size v n xs) (hg : v.ownBlock = some g) : base ≤ g ∧ ∃ cur, w.heap[g]? = some (.cells cur e (0, 0)) := by
  rcases h.2 with ⟨rfl, _⟩ | ⟨g', cap, cur, rfl, hb, hgg, _⟩
  · simp [Value.ownBlock] at hg
  · simp [Value.ownBlock] at hg
    subst hg
    exact ⟨hb, cur, hgg⟩
section
variable {w w' : World} {b c t : Nat} {m : Nat → Nat} {n : Nat} {L : List Bk}
theorem row2_rd {w : World} {base e l c n : Nat} {a : Option Addr} {xs : List Value} (h : w.ownsRow base e 2 (.slice a l c) n xs) {i : Nat} (hi : i < n) :
    ∃ g, a = some ⟨g, 0, none⟩ ∧ l = n ∧ base ≤ g ∧ g < w.heap.size ∧ rd w g (i * 2) = xs[i * 2]? ∧ rd w g (i * 2 + 1) = xs[i * 2 + 1]? := by
  obtain ⟨hl, hh⟩ := ownsRow_own h
  rcases hh with ⟨_, h0, _⟩ | ⟨g, cs, rfl, hg, og, htk, _, _⟩
  · omega
  · refine ⟨g, rfl, hl, hg, og.lt, ?_, ?_⟩
    · rw [og.rd, ← htk, List.getElem?_take, if_pos (by omega)]
    · rw [og.rd, ← htk, List.getElem?_take, if_pos (by omega)]
theorem KeptY.own {Y : Nat → Prop} {g : Nat} {cs : List Value} (k : KeptY Y w w') (hy : Y g) (h : own w g cs) : own w' g cs := by
  obtain ⟨ty, h⟩ := h
  exact ⟨ty, (k.blk g hy).trans h⟩
theorem blocks_gives (hs : SortSays L) (h : BAt w b m t (stOf n L)) (hi : Inv n L) (hc : rd w c 0 = some (ptr b)) :
    GivesV Tryz.prog 168 [.pointer (some ⟨c, 0, none⟩)] ((frB L).map fun x => [blkV x]) (fun _ => False) w := by
  refine ⟨fun l J Jx W hk hab habx hY h0 => ?_⟩
  refine (vc168 l (some ⟨c, 0, none⟩) W (fun v w' => (∃ Y, J Y ((frB L).map fun x => [blkV x]).length w') ∨ ∃ Y, Jx Y w') ?_).mono ?_
  rotate_left
  · rintro e w' ⟨v, rfl, hw⟩
    exact ⟨⟨v, rfl⟩, hw⟩
  have hW := h.k hk
  have hn128 := hi.n1.2
  have h10 : ∀ x ∈ L, x.o ≤ 10 := fun x hx => (tile_mem hi.tl hx).2.2.2
  have hLl := tile_le hi.tl
  have hpl : ∀ q, (plc q L).length ≤ 128 := fun q => by have := plc_len q L; omega
  unfold vcP168
  simp only [isP_some, Wif_true, gIf_true, pb_some, po_some, Nat.zero_add]
  refine ⟨_, hk.rd_some hc id, ?_⟩
  simp only [isP_some, Wif_true, gIf_true, pb_some, po_some, Nat.zero_add]
  refine ⟨_, fun _ => hW.r12, Wif_no rfl ⟨_, hk.rd_some hc id, ?_⟩⟩
  simp only [isP_some, Wif_true, gIf_true, pb_some, po_some, Nat.zero_add]
  refine ⟨some (m 0), some (m 1), some (m 2), some (m 3), some (m 4), some (m 5), some (m 6), some (m 7), some (m 8), some (m 9), some (m 10), hW.so.rdAll 1 (fun j hj => ?_), ?_⟩
  · simp at hj
    have : j = 0 ∨ j = 1 ∨ j = 2 ∨ j = 3 ∨ j = 4 ∨ j = 5 ∨ j = 6 ∨ j = 7 ∨ j = 8 ∨ j = 9 ∨ j = 10 := by omega
    rcases this with rfl | rfl | rfl | rfl | rfl | rfl | rfl | rfl | rfl | rfl | rfl <;> rfl
  have hbase0 : ∀ o, o < 11 → m o < W.heap.size := fun o ho => (hW.mf o ho).lt
  refine ⟨fun a l' c' k w' N => ∃ (q : Nat) (d : List Nat), k = q ∧ q ≤ 11 ∧ N = 11 - q ∧ Kept none' W w' ∧ l' = d.length ∧ w'.ownsRow W.heap.size 87 2 (.slice a l' c') d.length (rowCells L d) ∧ d.Perm (plc q L),
    ⟨11, 0, [], rfl, by omega, rfl, Kept.refl _ _, rfl, World.ownsRow_nil _ _ _ _, by rw [plc_zero]⟩, ?_⟩
  rintro a _ c' _ w1 _ ⟨q, d, rfl, hq, rfl, k1, rfl, row1, hp1⟩
  have hdl : d.length ≤ 128 := by rw [hp1.length_eq]; exact hpl q
  refine Wif_intro (fun hc2 => ?_) (fun hc2 => ?_)
  · simp only [decide_eq_true_eq] at hc2
    have hq11 : q < 11 := by omega
    refine Wif_yes (inB_of (by omega) (by omega)) ⟨some (m q), ?_, ?_⟩
    · rw [Int.toNat_natCast, Nat.mul_one]
      match q, hq11 with
      | 0, _ | 1, _ | 2, _ | 3, _ | 4, _ | 5, _ | 6, _ | 7, _ | 8, _ | 9, _ | 10, _ => rfl
    have mq1 : MapIs w1 (m q) (ent1 (fr q L)) := (hW.mf q hq11).k k1
    obtain ⟨w2, hrng, k2, I2⟩ := range_map (P := Tryz.prog) Tryz.underlying284 mq1
    refine ⟨_, w2, hrng, ?_⟩
    have row2 := ownsRow_kx row1 k2 (fun _ _ _ _ => id)
    have hr0 := I2.lt.1
    have hs01 := k1.sz
    have hs12 := k2.sz
    generalize hrE : w1.heap.size = r at *
    refine ⟨fun a l' c' w' N => ∃ (R : List (Int × Value)) (d : List Nat), R.length = N ∧ Kept none' W w' ∧ IterAt w' r (m q) (ent1 (fr q L)) R ∧ l' = d.length ∧ w'.ownsRow W.heap.size 87 2 (.slice a l' c') d.length (rowCells L d) ∧ (∀ g, (Value.slice a l' c').ownBlock = some g → g ≠ r) ∧
        (d.map (fun (a : Nat) => (a : Int)) ++ R.map (·.1)).Perm ((plc (q + 1) L).map fun (a : Nat) => (a : Int)) ∧ ∀ p ∈ R, ∃ x ∈ L, x.g = 0 ∧ x.o = q ∧ p.1 = (x.p : Int),
      ⟨_, ent1 (fr q L), d, rfl, k1.tr k2, I2, rfl, row2, fun g hg e => ?_, ?_, fun p hp => ?_⟩, ?_⟩
    · obtain ⟨_, cur, hcu⟩ := rowTy row1 hg
      have := (Array.getElem?_eq_some_iff.1 hcu).1
      omega
    · have e1 : (ent1 (fr q L)).map (·.1) = (frN q L).map fun (a : Nat) => (a : Int) := by rw [← fr_frN]; simp [ent1, Function.comp_def]
      rw [e1, ← List.map_append]
      exact ((hp1.append_right _).trans (plc_succ q L).symm).map _
    · obtain ⟨k, hk', rfl⟩ := List.mem_map.1 hp
      obtain ⟨x, h1, h2, h3, h4⟩ := mem_fr.1 hk'
      exact ⟨x, h1, h2, h3, h4.symm⟩
    rintro a _ c' w3 _ ⟨R, d, rfl, k3, I3, rfl, row3, hsep, hperm, hR⟩
    have hdl : d.length ≤ 128 := by
      have e1 := hperm.length_eq
      simp only [List.length_append, List.length_map] at e1
      have := hpl (q + 1)
      omega
    rcases next_map (P := Tryz.prog) (ty := 0) I3 with ⟨rfl, hnx⟩ | ⟨⟨f, v⟩, R', w4, hRp, hnx, k4, I4, hent⟩
    · left
      refine ⟨w3, hnx, 11 - (q + 1), by omega, q + 1, d, by rw [wi (by omega)]; rfl, by omega, rfl, k3, rfl, row3, ?_⟩
      simp only [List.map_nil, List.append_nil] at hperm
      -- the places themselves
      have : (d.map (fun (a : Nat) => (a : Int))).map Int.toNat = d := by rw [List.map_map]; simp [Function.comp_def]
      have h2 : ((plc (q + 1) L).map (fun (a : Nat) => (a : Int))).map Int.toNat = plc (q + 1) L := by rw [List.map_map]; simp [Function.comp_def]
      have h3 := hperm.map Int.toNat
      rw [this, h2] at h3
      exact h3
    · right
      obtain ⟨x, hx1, hx2, hx3, hx4⟩ := hR (f, v) (hRp.mem_iff.2 (by simp))
      dsimp only at hx4
      subst hx4
      have row4 := ownsRow_kx row3 k4 (fun g _ _ hg e => hsep g hg e)
      have k34 : Kept none' W w4 := own0 k3 k4 fun b e => by omega
      refine ⟨_, _, w4, hnx, (x.p : Int), v, hent, ?_⟩
      intro w5 e5
      have k45 : Kept none' w4 w5 := (Kept.refl _ _).al e5
      have p5 := own_alloc (c := [Value.int .i64 (x.p : Int), .int .i64 (q : Int)]) e5
      have row5 := ownsRow_kx row4 k45 (fun _ _ _ _ => id)
      have hcell : rowCells L [x.p] = [Value.int .i64 (x.p : Int), .int .i64 (q : Int)] := by
        simp only [rowCells, List.flatMap_cons, List.flatMap_nil, List.append_nil]
        rw [ordAt_of hi.tl hx1 hx2, hx3]
      have hs3 := k3.sz
      have hs4 := k4.sz
      have hs5 := k45.sz
      obtain ⟨a', l', c'', w6, happ, rfl, row6, k6⟩ := app_blk row5 p5 (m := 1) (off := 0) (c := 1) (news := [Value.int .i64 (x.p : Int), .int .i64 (q : Int)]) rfl rfl (fun u hu => by simp at hu; rcases hu with rfl | rfl <;> rfl) (by omega) (by omega)
      refine ⟨a', _, c'', w6, happ, R'.length, by rw [hRp.length_eq]; simp, R', d ++ [x.p], rfl, own0 (k34.tr k45) k6 fun g hg => ?_, ?_, by simp, ?_, fun g hg => ?_, ?_, fun p hp => hR p (hRp.mem_iff.2 (List.mem_cons_of_mem _ hp))⟩
      · exact (rowTy row5 hg).1
      · exact (I4.k k45).kx k6 (fun e => hsep r e rfl) (fun e => by have := (rowTy row5 e).1; have := hbase0 q hq11; omega)
      · have : rowCells L (d ++ [x.p]) = rowCells L d ++ [Value.int .i64 (x.p : Int), .int .i64 (q : Int)] := by rw [rowCells_app, hcell]
        rw [this]
        have e1 : (d ++ [x.p]).length = d.length + 1 := by simp
        rw [e1]; exact row6
      · intro e
        subst e
        obtain ⟨_, cur, hcu⟩ := rowTy row6 hg
        obtain ⟨es, clk, since, seen, c0, _, hit, _⟩ := ((I4.k k45).kx k6 (fun e => hsep g e rfl) (fun e => by have := (rowTy row5 e).1; have := hbase0 q hq11; omega)).ex
        rw [hcu] at hit
        cases hit
      · refine List.Perm.trans ?_ hperm
        rw [List.map_append, List.append_assoc]
        refine List.Perm.append_left _ ?_
        exact (hRp.map (·.1)).symm
  · have hq11 : q = 11 := by simp at hc2; omega
    subst hq11
    have hplE := plc_all h10
    rw [hplE] at hp1
    have hstr := frB_sorted hi.tl
    have hnd : d.Nodup := hp1.nodup_iff.2 (hstr.imp fun h => by omega)
    refine (hs w1 a d.length c' W.heap.size d row1 (fun x hx => ?_) hnd hdl).mono ?_
    · obtain ⟨y, hy, rfl⟩ := List.mem_map.1 (hp1.mem_iff.1 hx)
      have := (tile_mem hi.tl (mem_frB.1 hy).1)
      have := p2 y.o
      omega
    rintro _ w2 ⟨rfl, row2, k2⟩
    rw [sorted_perm_eq hp1 hstr] at row2
    have K2 : Kept none' W w2 := own0 k1 k2 fun g hg => (rowTy row1 hg).1
    refine ⟨rfl, ?_⟩
    have hlen : d.length = (frB L).length := by rw [hp1.length_eq, List.length_map]
    have hJ2 := hab _ _ _ _ h0 K2.toY
    refine ⟨fun k w' N => ∃ (q : Nat) (Y : Nat → Prop), k = q ∧ q ≤ d.length ∧ N = d.length - q ∧ J Y q w' ∧ (∀ g, (Value.slice a d.length c').ownBlock = some g → Y g) ∧ w'.ownsRow W.heap.size 87 2 (.slice a d.length c') d.length (rowCells L ((frB L).map (·.p))),
      ⟨d.length, 0, _, rfl, by omega, rfl, hJ2, fun g hg => ?_, row2⟩, ?_⟩
    · obtain ⟨h1, cur, hcu⟩ := rowTy row2 hg
      exact .inr ⟨h1, (Array.getElem?_eq_some_iff.1 hcu).1⟩
    rintro _ w3 _ ⟨q, Y, rfl, hq, rfl, hJ3, hYg, row3⟩
    refine Wif_intro (fun hc3 => ?_) (fun hc3 => ?_)
    · simp only [decide_eq_true_eq] at hc3
      have hqd : q < d.length := by omega
      obtain ⟨g, rfl, _, hgb, hgs, r0, r1⟩ := row2_rd row3 hqd
      have hxq : q < (frB L).length := by omega
      obtain ⟨x, hx⟩ : ∃ x, (frB L)[q]? = some x := ⟨_, List.getElem?_eq_getElem hxq⟩
      have hxL := mem_frB.1 (List.mem_of_getElem? hx)
      have hget := rowCells_get L ((frB L).map (·.p)) q x.p (by simp [hx])
      rw [hget.1] at r0
      rw [hget.2, ordAt_of hi.tl hxL.1 hxL.2] at r1
      simp only [isP_some, Wif_true, pb_some, po_some, Nat.zero_add, Int.toNat_natCast]
      refine Wif_yes (inB_of (by omega) (by omega)) ⟨(x.p : Int), (x.o : Int), ⟨r0, r1⟩, ?_⟩
      intro w4 e4
      have k34 : Kept none' w3 w4 := (Kept.refl _ _).al e4
      have o4 := own_alloc (c := [Value.int .i64 0, .int .i64 0]) e4
      have hJ4 := hab _ _ _ _ hJ3 k34.toY
      have s34 : w4.heap.size = w3.heap.size + 1 := by rw [e4]; simp only [World.alloc, Array.size_push]
      refine ⟨⟨o4.wr (by simp), o4.wr (by simp)⟩, ?_⟩
      intro w5 e5
      have o5 := o4.s2 e5
      have k45 : Kept (· = w3.heap.size) w4 w5 := (Kept.refl _ _).s2 e5 (.inl rfl)
      have k35 : Kept none' w3 w5 := k34.trans k45 fun b hb e => by omega
      have hJ5 := hab _ _ _ _ hJ3 k35.toY
      have row5 := ownsRow_kx row3 k35 (fun _ _ _ _ => id)
      refine ⟨(x.p : Int), (x.o : Int), ⟨by rw [o5.rd]; rfl, by rw [o5.rd]; rfl⟩, ?_⟩
      have hy := hY _ q [blkV x] w5 (by simp [hx]) hJ5
      obtain ⟨fn, tm, asg', bo, hrun, hR⟩ := hy.run
      refine ⟨fn, tm, asg', bo, hrun, hR.mono ?_⟩
      rintro en w6 ⟨k6, ⟨rfl, hJ6⟩ | ⟨rfl, hx6⟩⟩
      · refine ⟨true, rfl, Wif_no rfl ⟨d.length - (q + 1), by omega, q + 1, _, by rw [wi (by omega)]; rfl, by omega, rfl, hJ6, fun g' hg' => .inl (hYg g' hg'), ?_⟩⟩
        -- the row has been kept
        have hYg0 := hYg g (by simp [Value.ownBlock])
        rcases row5 with ⟨hl5, ⟨hv, h00⟩ | ⟨g', cap, cur, hv, hb', hgg, hrest⟩⟩
        · cases hv
        · simp only [Value.slice.injEq, Option.some.injEq, Addr.mk.injEq] at hv
          obtain ⟨⟨rfl, _⟩, _, rfl⟩ := hv
          exact ⟨hl5, .inr ⟨g, _, cur, rfl, hb', (k6.blk g (.inl (.inl hYg0))).trans hgg, hrest⟩⟩
      · exact ⟨false, rfl, Wif_yes rfl (.inr ⟨_, hx6⟩)⟩
    · have : q = d.length := by simp at hc3; omega
      subst this
      refine .inl ⟨Y, ?_⟩
      rw [List.length_map, ← hlen]
      exact hJ3
end
end Go.Proofs.YtklmokolnakkoaaGreatDoor
namespace Go.Proofs.YtklmokolnakkoaaGreatDoor
open Go Eng Go.Sort
set_option linter.unusedSimpArgs false
set_option linter.unusedVariables false
set_option maxRecDepth 100000
def encB (L : List Bk) (a : Fin 128) : List Value := [.int .i64 (a.1 : Int), .int .i64 (ordAt L a.1 : Nat)]
theorem holds_blk {w : World} {g : Nat} {cur : Array Value} {e : TypeId} {F : Array Value} (hb : w.heap[g]? = some (.cells cur e (0, 0))) (ht : cur.toList.take F.size = F.toList) : Holds id w g 0 F := by
  intro j hj
  refine ⟨?_, by simp [World.frozen?, hb]⟩
  have h1 : (cur.toList.take F.size)[j]? = F.toList[j]? := by rw [ht]
  rw [List.getElem?_take_of_lt hj] at h1
  simp only [World.cell?, hb, Nat.zero_add]
  simp only [Option.isSome_none, Bool.false_eq_true, if_false]
  rw [← Array.getElem?_toList, h1]
  simp [hj]
theorem heap_sortedV {w : World} {g n : Nat} {os : Array Obj} {cur : Array Value} {e : TypeId} {fr : Nat × Nat} (d : Array Value) (hb : w.heap[g]? = some (.cells cur e fr)) :
    (grow (putRow id (Sort.ahead w n) g 0 d) os).heap[g]? = some (.cells (putCells id 0 d cur) e fr) := by
  have hg : g < w.heap.size := (Array.getElem?_eq_some_iff.1 hb).1
  rw [heap_grow_old _ _ (by simpa using hg)]
  simp [putRow, mapBlock, Sort.ahead, Array.getElem?_modify, hb, onCells]
theorem grownBy_sortedV {w : World} {g n : Nat} {os : Array Obj} (d : Array Value) : w.grownBy (grow (putRow id (Sort.ahead w n) g 0 d) os) (some g) := by
  refine ⟨rfl, rfl, rfl, by simp, fun k hk hne => ?_⟩
  rw [heap_grow_old _ _ (by simpa using hk)]
  have : g ≠ k := fun e => hne (by rw [e])
  simp [putRow, mapBlock, Sort.ahead, Array.getElem?_modify, this]
theorem take_putCellsV (cur : Array Value) (F : Array Value) (h : F.size ≤ cur.size) : (putCells id 0 F cur).toList.take F.size = F.toList := by
  apply List.ext_getElem?
  intro j
  by_cases hj : j < F.size
  · rw [List.getElem?_take_of_lt hj, Array.getElem?_toList]
    simp [putCells, hj, show j < cur.size by omega]
  · rw [List.getElem?_take_eq_none (by omega), List.getElem?_eq_none (by simp; omega)]
theorem flat_row (L : List Bk) (d : List (Fin 128)) : (flatK (encB L) 2 d.toArray).toList = rowCells L (d.map (·.val)) := by
  have hlen := rowCells_len L (d.map (·.val))
  rw [List.length_map] at hlen
  apply List.ext_getElem?
  intro t
  by_cases ht : t < d.length * 2
  · have h1 : (flatK (encB L) 2 d.toArray).toList[t]? = some ((encB L d.toArray[t / 2]!)[t % 2]!) := by
      have := get_flatK (encB L) 2 d.toArray t (by simpa using ht)
      rw [Array.getElem?_toList, Array.getElem?_eq_getElem (by simpa using ht), ← this, getElem!_pos _ t (by simpa using ht)]
    rw [h1]
    have hi : t / 2 < d.length := by omega
    have hd : (d.map (·.val))[t / 2]? = some (d[t / 2]).val := by simp [hi]
    have hd2 : d.toArray[t / 2]! = d[t / 2] := by simp [hi]
    obtain ⟨c1, c2⟩ := rowCells_get L _ _ _ hd
    rw [hd2]
    rcases Nat.mod_two_eq_zero_or_one t with h | h
    · have e : t = t / 2 * 2 := by omega
      rw [h]
      conv => rhs; rw [e, c1]
      rfl
    · have e : t = t / 2 * 2 + 1 := by omega
      rw [h]
      conv => rhs; rw [e, c2]
      rfl
  · rw [List.getElem?_eq_none (by simp; omega), List.getElem?_eq_none (by omega)]
theorem row_after {w : World} {base n c : Nat} {L : List Bk} {d d' : List (Fin 128)} {m : Nat} {os : Array Obj} {g : Nat} (h : w.ownsRow base 87 2 (.slice (some ⟨g, 0, none⟩) n c) n (rowCells L (d.map (·.val)))) (hl : d'.length = d.length) (hn : n = d.length) :
    (sortWorldK (encB L) 2 w g 0 m d'.toArray os).ownsRow base 87 2 (.slice (some ⟨g, 0, none⟩) n c) n (rowCells L (d'.map (·.val))) ∧ Kept (fun b => g = b) w (sortWorldK (encB L) 2 w g 0 m d'.toArray os) := by
  rcases h.2 with ⟨h0, _⟩ | ⟨g', cap, cur, hv, hb, hgg, hnc, hm, hsz, htk⟩
  · cases h0
  cases hv
  have hF : (flatK (encB L) 2 d'.toArray).size = n * 2 := by simp [hl, hn]
  constructor
  · refine ⟨by rw [rowCells_len, List.length_map]; omega, .inr ⟨g, c, _, rfl, hb, heap_sortedV _ hgg, hnc, hm, by simp [putCells, hsz], ?_⟩⟩
    rw [← flat_row, ← hF]
    exact take_putCellsV _ _ (by rw [hF, hsz]; omega)
  · have := Kept.grownBy (grownBy_sortedV (w := w) (g := g) (n := m) (os := os) (flatK (encB L) 2 d'.toArray))
    exact this.mono fun b _ h => by simpa using h
theorem cmp_lays (L : List Bk) (blk off size : Nat) (w : World) : CmpLays Tryz.prog 171 #[] (encB L) 2 (fun x y : Fin 128 => (x.1 : Int) - (y.1 : Int)) blk off size w := fun m os dk _ x y => by
  have H : ∀ W : World, Calls Tryz.prog 171 #[.agg #[.int .i64 (x.1 : Int), .int .i64 (ordAt L x.1 : Nat)], .agg #[.int .i64 (y.1 : Int), .int .i64 (ordAt L y.1 : Nat)]] W fun e w' => e = .returned (.int .i64 ((x.1 : Int) - (y.1 : Int))) ∧ ∃ q os', w' = grow (W.drewN q) os' := fun W => by
    refine (vc171 _ _ _ _ W (fun v w' => v = .int .i64 ((x.1 : Int) - (y.1 : Int)) ∧ ∃ q os', w' = grow (W.drewN q) os') ?_).mono ?_
    · unfold vcP171
      intro w1 e1 w2 e2
      have o1 := own_alloc (c := [.int .i64 (x.1 : Int), .int .i64 (ordAt L x.1 : Nat)]) e1
      have o2 := own_alloc (c := [.int .i64 (y.1 : Int), .int .i64 (ordAt L y.1 : Nat)]) e2
      refine ⟨_, by rw [(o1.al e2).rd]; rfl, _, by rw [o2.rd]; rfl, ?_, 0, #[.cells #[.int .i64 (x.1 : Int), .int .i64 (ordAt L x.1 : Nat)] 87, .cells #[.int .i64 (y.1 : Int), .int .i64 (ordAt L y.1 : Nat)] 87], ?_⟩
      · have := x.2; have := y.2
        rw [wi (by omega)]
      · rw [e2, e1, alloc_eq_grow, alloc_eq_grow, grow_grow]; rfl
    · rintro e w' ⟨v, rfl, rfl, h⟩
      exact ⟨rfl, h⟩
  exact H _
theorem ltB : ltOf (fun x y : Fin 128 => (x.1 : Int) - (y.1 : Int)) = fun x y => decide (x.1 < y.1) := by
  funext x y
  unfold ltOf
  exact decide_eq_decide.2 (by dsimp only; omega)
theorem swoB : SWO (ltOf fun x y : Fin 128 => (x.1 : Int) - (y.1 : Int)) := by
  rw [ltB]
  exact ⟨fun x => by simp, fun x y z h1 h2 => by simp at *; omega, fun x y z h1 h2 => by simp at *; omega⟩
theorem totB : ∀ x y : Fin 128, ltOf (fun x y : Fin 128 => (x.1 : Int) - (y.1 : Int)) x y = false → ltOf (fun x y : Fin 128 => (x.1 : Int) - (y.1 : Int)) y x = false → x = y := by
  rw [ltB]
  intro x y h1 h2
  simp at h1 h2
  exact Fin.ext (by omega)
theorem merge_map (d : List (Fin 128)) : (d.mergeSort fun x y => !(ltOf (fun x y : Fin 128 => (x.1 : Int) - (y.1 : Int))) y x).map (·.val) = (d.map (·.val)).mergeSort fun x y => decide (x ≤ y) := by
  rw [List.map_mergeSort (s := fun x y => decide (x ≤ y))]
  intro a _ b _
  rw [ltB]
  show (!decide (b.1 < a.1)) = decide (a.1 ≤ b.1)
  rw [← decide_not]
  exact decide_eq_decide.2 (by omega)
end Go.Proofs.YtklmokolnakkoaaGreatDoor
/-
  DERIVED: THE SHELF's CONTRACTS AT THIS DUMP, IN PLAIN WORDS (tools/lay-plain.mjs out of 'S4.lean', which tools/lay-shelf.mjs wrote): THE SAME DECLARATIONS UNDER THE SAME NAMES: 'import', 'namespace', 'open', 'def', 'theorem' AND NOTHING ELSE: no command of the shelf's: FOR A HAND-IN. Each laying: the table of numbers ('.._ren') and one theorem, a field a fact of the dump's own or the kernel's comparison; each contract: ONE APPLICATION.
-/
namespace Go.Proofs
open Go.Shelf
def Tryz.sortFA_ren : Go.Shelf.Ren := ⟨fun | 6 => 170 | 15 => 182 | 14 => 200 | 28 => 213 | 29 => 214 | 20 => 219 | 21 => 220 | 22 => 221 | 23 => 222 | 24 => 223 | 25 => 224 | 26 => 225 | 27 => 226 | 46 => 237 | 47 => 229 | 48 => 230 | 49 => 238 | 50 => 239 | 57 => 242 | n => n, fun | 22 => 62 | 24 => 87 | 25 => 294 | 3 => 3 | 39 => 150 | 0 => 0 | 53 => 322 | 55 => 134 | 4 => 4 | 46 => 333 | 45 => 332 | 50 => 202 | 5 => 5 | 9 => 9 | 66 => 349 | 70 => 353 | 76 => 360 | 77 => 308 | n => n, fun | n => n⟩
theorem Tryz.sortFA : Go.Proofs.SlLaysF0.n6 Tryz.prog Tryz.sortFA_ren := {
  mixed := by kernel_rfl
  f6 := ⟨Tryz.f170.name, by decide, Tryz.func170.trans (congrArg some (by kernel_rfl))⟩
  f14 := ⟨Tryz.f200.name, by decide, Tryz.func200.trans (congrArg some (by kernel_rfl))⟩
  f15 := Tryz.func182.trans (congrArg some (by kernel_rfl))
  f20 := ⟨Tryz.f219.name, by decide, Tryz.func219.trans (congrArg some (by kernel_rfl))⟩
  f21 := ⟨Tryz.f220.name, by decide, Tryz.func220.trans (congrArg some (by kernel_rfl))⟩
  f22 := ⟨Tryz.f221.name, by decide, Tryz.func221.trans (congrArg some (by kernel_rfl))⟩
  f23 := ⟨Tryz.f222.name, by decide, Tryz.func222.trans (congrArg some (by kernel_rfl))⟩
  f24 := ⟨Tryz.f223.name, by decide, Tryz.func223.trans (congrArg some (by kernel_rfl))⟩
  f25 := ⟨Tryz.f224.name, by decide, Tryz.func224.trans (congrArg some (by kernel_rfl))⟩
  f26 := ⟨Tryz.f225.name, by decide, Tryz.func225.trans (congrArg some (by kernel_rfl))⟩
  f27 := ⟨Tryz.f226.name, by decide, Tryz.func226.trans (congrArg some (by kernel_rfl))⟩
  f28 := Tryz.func213.trans (congrArg some (by kernel_rfl))
  f29 := Tryz.func214.trans (congrArg some (by kernel_rfl))
  f46 := ⟨Tryz.f237.name, by decide, Tryz.func237.trans (congrArg some (by kernel_rfl))⟩
  f47 := Tryz.func229.trans (congrArg some (by kernel_rfl))
  f48 := Tryz.func230.trans (congrArg some (by kernel_rfl))
  f49 := ⟨Tryz.f238.name, by decide, Tryz.func238.trans (congrArg some (by kernel_rfl))⟩
  f50 := ⟨Tryz.f239.name, by decide, Tryz.func239.trans (congrArg some (by kernel_rfl))⟩
  f57 := ⟨Tryz.f242.name, by decide, Tryz.func242.trans (congrArg some (by kernel_rfl))⟩
  t0 := Tryz.underlying0
  a0 := Tryz.isAgg0
  z0 := Tryz.sizeOf0
  v0 := Tryz.zeroValue0
  t3 := Tryz.underlying3
  a3 := Tryz.isAgg3
  z3 := Tryz.sizeOf3
  v3 := Tryz.zeroValue3
  t4 := Tryz.underlying4
  a4 := Tryz.isAgg4
  z4 := Tryz.sizeOf4
  v4 := Tryz.zeroValue4
  t5 := Tryz.underlying5
  a5 := Tryz.isAgg5
  z5 := Tryz.sizeOf5
  v5 := Tryz.zeroValue5
  t9 := Tryz.underlying9
  a9 := Tryz.isAgg9
  z9 := Tryz.sizeOf9
  v9 := Tryz.zeroValue9
  t22 := Tryz.underlying62
  a22 := Tryz.isAgg62
  z22 := Tryz.sizeOf62
  v22 := Tryz.zeroValue62
  t25 := Tryz.underlying294
  a25 := Tryz.isAgg294
  z25 := Tryz.sizeOf294
  v25 := Tryz.zeroValue294
  t39 := Tryz.underlying150
  a39 := Tryz.isAgg150
  z39 := Tryz.sizeOf150
  v39 := Tryz.zeroValue150
  t45 := Tryz.underlying332
  a45 := Tryz.isAgg332
  z45 := Tryz.sizeOf332
  v45 := Tryz.zeroValue332
  t46 := Tryz.underlying333
  a46 := Tryz.isAgg333
  z46 := Tryz.sizeOf333
  v46 := Tryz.zeroValue333
  t50 := Tryz.underlying202
  a50 := Tryz.isAgg202
  z50 := Tryz.sizeOf202
  v50 := Tryz.zeroValue202
  t53 := Tryz.underlying322
  a53 := Tryz.isAgg322
  z53 := Tryz.sizeOf322
  v53 := Tryz.zeroValue322
  t55 := Tryz.underlying134
  a55 := Tryz.isAgg134
  z55 := Tryz.sizeOf134
  v55 := Tryz.zeroValue134
  t66 := Tryz.underlying349
  a66 := Tryz.isAgg349
  z66 := Tryz.sizeOf349
  v66 := Tryz.zeroValue349
  t70 := Tryz.underlying353
  a70 := Tryz.isAgg353
  z70 := Tryz.sizeOf353
  v70 := Tryz.zeroValue353
  t76 := Tryz.underlying360
  a76 := Tryz.isAgg360
  z76 := Tryz.sizeOf360
  v76 := Tryz.zeroValue360
  t77 := Tryz.underlying308
  a77 := Tryz.isAgg308
  z77 := Tryz.sizeOf308
  v77 := Tryz.zeroValue308 }
end Go.Proofs
namespace Go.Proofs.YtklmokolnakkoaaGreatDoor
open Go Eng Go.Sort
set_option linter.unusedSimpArgs false
set_option linter.unusedVariables false
set_option maxRecDepth 100000
theorem enters171 : ∀ args w, (callFunc 171 args).run Tryz.prog w = .ok (.enter 171 args) w := enters_of Tryz.func171 (by kernel_rfl) rfl
theorem sort_says (L : List Bk) : SortSays L := fun w a n c base d h hd hn hl => by
  have hlen := h.1
  rw [rowCells_len] at hlen
  have hnd : n = d.length := by omega
  obtain ⟨d', rfl⟩ : ∃ d' : List (Fin 128), d = d'.map (·.val) := ⟨d.pmap (fun x hx => ⟨x, hx⟩) hd, by simp [List.map_pmap]⟩
  rw [List.length_map] at hnd hl
  rcases h.2 with ⟨h0, h1⟩ | ⟨g, cap, cur, hv, hb, hgg, hnc, hm, hsz, htk⟩
  · have hd0 : d' = [] := List.length_eq_zero_iff.1 (by omega)
    subst hd0
    cases h0
    refine (AnyF.slices_SortFunc_none (ρ := Tryz.sortFA_ren) Tryz.sortFA none 0 (.func (.func 171) #[] #[]) w).mono ?_
    rintro e w' ⟨rfl, rfl⟩
    exact ⟨rfl, by simpa using h, Kept.refl _ _⟩
  · cases hv
    have hglt : g < w.heap.size := (Array.getElem?_eq_some_iff.1 hgg).1
    have hH : HoldsK (encB L) 2 w g 0 d'.toArray := by
      refine holds_blk hgg ?_
      rw [flat_row, ← htk]
      simp [hnd]
    have hcon := AnyQ.slices_SortFunc_total (ρ := Tryz.sortFA_ren) Tryz.sortFA 2 Tryz.isAgg87 Tryz.sizeOf87 (encB L) (fun _ => rfl) (fun x v hv => by simp [encB] at hv; rcases hv with rfl | rfl <;> rfl) (fun x y => (x.1 : Int) - (y.1 : Int)) swoB 171 #[] g 0 c d'.toArray w enters171 (cmp_lays L g 0 _ w) hH hglt (by simp; omega) totB
    have hs : d'.toArray.size = n := by simp [hnd]
    rw [hs] at hcon
    refine hcon.mono ?_
    rintro e w' ⟨rfl, m, os, rfl⟩
    have := row_after (m := m) (os := os) (d' := (d'.mergeSort fun x y => !(ltOf (fun x y : Fin 128 => (x.1 : Int) - (y.1 : Int))) y x)) h (List.length_mergeSort _) hnd
    rw [merge_map] at this
    exact ⟨rfl, this.1, this.2.mono fun b _ hb => by simp [Value.ownBlock, hb]⟩
set_option linter.unusedSimpArgs false
set_option linter.unusedVariables false
set_option maxRecDepth 100000
theorem recKept_of {B : Nat} {X : Nat → Prop} {w w' : World} (k : Kept X w w') (hB : B + 1 < w.heap.size) (h1 : ¬ X B) (h2 : ¬ X (B + 1)) : RecKept B w w' := ⟨k.sz, k.blk B (by omega) h1, k.blk (B + 1) hB h2⟩
theorem keptY_of {Y X : Nat → Prop} {w w' : World} (k : Kept X w w') (h : ∀ b, Y b → b < w.heap.size ∧ ¬ X b) : KeptY Y w w' := ⟨k.sz, fun b hb => k.blk b (h b hb).1 (h b hb).2⟩
def bks (L : List Bk) : List (Nat × Nat) := (frB L).map fun x => (x.p, x.o)
theorem bks_len (L : List Bk) : (bks L).length = (frB L).length := by simp [bks]
theorem bks_free {x : Bk} (h : x.g = 0) (B : List Bk) : bks (x :: B) = (x.p, x.o) :: bks B := by simp [bks, frB, h]
theorem bks_held {x : Bk} (h : x.g ≠ 0) (B : List Bk) : bks (x :: B) = bks B := by simp [bks, frB, h]
theorem bks_le {L : List Bk} {n : Nat} (h : Tile 0 L n) : (bks L).length ≤ n := by
  have := tile_le h
  have h2 : (frB L).length ≤ L.length := List.length_filter_le _ _
  have := bks_len L; omega
def zsh (c : Nat → Int) (L : Nat → List Bk) : Nat → List (Nat × Nat)
  | 0 => []
  | k + 1 => zsh c L k ++ (bks (L k)).map fun y => ((fstF c k).toNat + y.1, y.2)
theorem zsh_len {c : Nat → Int} {L : Nat → List Bk} : ∀ {k : Nat}, (∀ i, i < k → (bks (L i)).length ≤ 128) → (zsh c L k).length ≤ 128 * k
  | 0, _ => by simp [zsh]
  | k + 1, h => by
    have := zsh_len (c := c) (k := k) fun i hi => h i (by omega)
    have := h k (by omega)
    simp only [zsh, List.length_append, List.length_map]
    omega
open Go.Value (slice pointer)
/- (*byre/zones.Zones).Blocks$1 -/
def vcP122 (l0 : Nat) (c1_0 : OA) (w : World) (K : KV) : Prop := ∀ w', w' = w.alloc (.cells #[Value.func (Fn.yield l0) #[] #[]] 235) → Wif (isP c1_0) (∃ (x : OA), rd w' (pb c1_0) (po c1_0) = some (.pointer x) ∧ gIf (isP x) ((!Option.isNone x) = true) (∃ (x_1 : OA) (x_2 x_3 : Nat), ((!Option.isNone x) = true → rd w' (pb x) (po x + 94) = some (.slice x_1 x_2 x_3)) ∧ Wif (!(!Option.isNone x && !Option.isNone x_1)) (DefsAt [] w' ∧ ∀ (w2 : World), Kept (fun (b : Nat) => List.Mem b []) w' w2 → Array.size (World.heap w2) = Array.size (World.heap w') → K (.tuple #[]) w2) (∀ w'_1, w'_1 = w'.alloc (.cells #[vi 0] 3) → wr w'_1 w'.heap.size 0 ∧ ∀ w'_2, w'_2 = st w'_1 w'.heap.size 0 (vi 0) → Wif (isP c1_0) (∃ (x : OA), rd w'_2 (pb c1_0) (po c1_0) = some (.pointer x) ∧ Wif (isP x) (∃ (x_4 : OA) (x_5 x_6 : Nat), rd w'_2 (pb x) (po x + 94) = some (.slice x_4 x_5 x_6) ∧ ∃ (I : Int → List Nat → World → Nat → Prop), (∃ (n : Nat), I 0 [] w'_2 n) ∧ ∀ (n : Int) (ds' : List Nat) (w'_3 : World) (n_1 : Nat), I n ds' w'_3 n_1 → Wif (decide (n < (↑x_5 : Int))) (Wif (isP x_4) (Wif (inB n x_5) (∃ (x : OA), rd w'_3 (pb x_4) (po x_4 + Int.toNat n * 1) = some (.pointer x) ∧ ∀ w'_4, w'_4 = w'_3.alloc (.cells #[pointer x] 212) → ∃ (xss : List (List Value)), ∃ (R : Nat → Prop), ∃ (I_1 : (Nat → Prop) → Nat → World → Prop), ∃ (X : Nat → (Nat → Prop) → World → Prop), (GivesV Tryz.prog 168 [pointer (some (Addr.mk w'_3.heap.size 0 none))] xss R w'_4 ∧ (∀ (xs : List Value), List.Mem xs xss → List.length xs = 1 ∧ ∃ (n n_2 : Int), xs = [Value.agg #[vi n, vi n_2]]) ∧ ∀ (b : Nat), R b → Nat.succ b ≤ Array.size (World.heap w'_4)) ∧ (∀ (w1 : World), Kept none' w'_4 w1 → Array.size (World.heap w1) = Array.size (World.heap w'_4) + 2 → I_1 (fun (x : Nat) => False) 0 w1) ∧ (∀ (Y : Nat → Prop) (i : Nat) (W W' : World), I_1 Y i W → (∀ (b : Nat), Y b → Array.size (World.heap w'_4) + 2 ≤ b) → Kept (recsY w'_4.heap.size Y) W W' → I_1 (fun (b : Nat) => Y b ∨ Array.size (World.heap W) ≤ b ∧ Nat.succ b ≤ Array.size (World.heap W')) i W') ∧ (∀ (k : Nat) (Y : Nat → Prop) (W W' : World), X k Y W → (∀ (b : Nat), Y b → Array.size (World.heap w'_4) + 2 ≤ b) → Kept (recsY w'_4.heap.size Y) W W' → X k (fun (b : Nat) => Y b ∨ Array.size (World.heap W) ≤ b ∧ Nat.succ b ≤ Array.size (World.heap W')) W') ∧ (∀ (Y : Nat → Prop) (i : Nat) (W : World), I_1 Y i W → (∀ (b : Nat), Y b → Array.size (World.heap w'_4) + 2 ≤ b) → Array.size (World.heap w'_4) + 2 ≤ Array.size (World.heap W) → ∀ (n n_2 : Int), xss[i]? = some [Value.agg #[vi n, vi n_2]] → ∀ w'_5, w'_5 = W.alloc (.cells #[vi 0, vi 0] 87) → (wr w'_5 W.heap.size 0 ∧ wr w'_5 W.heap.size 1) ∧ ∀ w'_6, w'_6 = st (st w'_5 W.heap.size 0 (vi n)) W.heap.size 1 (vi n_2) → RecKept w'_4.heap.size W w'_6 ∧ ∀ (w2 : World), Kept (fun (b : Nat) => b = Array.size (World.heap w'_4) + 1) w'_6 w2 → Array.size (World.heap w2) = Array.size (World.heap w'_6) → ∃ (x : Int), rd w2 W.heap.size 0 = some (.int .i64 x) ∧ ∃ (x_7 : Int), rd w2 w'.heap.size 0 = some (.int .i64 x_7) ∧ wr w2 W.heap.size 0 ∧ ∀ w', w' = st w2 W.heap.size 0 (vi (IntKind.wrap .i64 (x + x_7))) → ∃ (x : Value), rd w' w.heap.size 0 = some x ∧ ∃ (x_8 x_9 : Int), (rd w' W.heap.size 0 = some (.int .i64 x_8) ∧ rd w' W.heap.size 1 = some (.int .i64 x_9)) ∧ ∃ (l : Nat), x = Value.func (Fn.yield l) #[] #[] ∧ YieldIs Tryz.prog l [Value.agg #[vi x_8, vi x_9]] w' fun (r : Ending) (w' : World) => ∃ (b : Bool), r = Ending.returned (Value.bool b) ∧ Wif (!b) (RecKept w'_4.heap.size w2 w' ∧ KeptY (fun (b : Nat) => Y b ∨ R b) W w' ∧ X 1 Y w') (RecKept w'_4.heap.size w2 w' ∧ KeptY (fun (b : Nat) => Y b ∨ R b) W w' ∧ I_1 Y (i + 1) w')) ∧ (∀ (Y : Nat → Prop) (W : World), I_1 Y (List.length xss) W → DefAt w'_4.heap.size W → ∀ w1, w1 = W.drew → ∃ (x : Int), rd w1 w'.heap.size 0 = some (.int .i64 x) ∧ Wif (isP c1_0) (∃ (x_7 : OA), rd w1 (pb c1_0) (po c1_0) = some (.pointer x_7) ∧ Wif (isP x_7) (Wif (inB n 8) (∃ (x_8 : Int), rd w1 (pb x_7) (po x_7 + 18 + Int.toNat n * 1) = some (.int .i64 x_8) ∧ wr w1 w'.heap.size 0 ∧ ∀ w'_5, w'_5 = st w1 w'.heap.size 0 (vi (IntKind.wrap .i64 (x + x_8))) → ∃ m, Nat.succ m ≤ n_1 ∧ I (IntKind.wrap .i64 (n + 1)) (Array.size (World.heap w'_4) :: ds') w'_5 m) False) False) False) ∧ (∀ (Y : Nat → Prop) (W : World), X 0 Y W → DefAt w'_4.heap.size W → DefsAt (Array.size (World.heap w'_4) :: ds') W ∧ ∀ (w2 : World), Kept (fun (b : Nat) => List.Mem b (Array.size (World.heap w'_4) :: ds')) W w2 → Array.size (World.heap w2) = Array.size (World.heap W) → K (.tuple #[]) w2) ∧ ∀ (Y : Nat → Prop) (W : World), X 1 Y W → DefAt w'_4.heap.size W → DefsAt (Array.size (World.heap w'_4) :: ds') W ∧ ∀ (w2 : World), Kept (fun (b : Nat) => List.Mem b (Array.size (World.heap w'_4) :: ds')) W w2 → Array.size (World.heap w2) = Array.size (World.heap W) → K (.tuple #[]) w2) False) False) (DefsAt ds' w'_3 ∧ ∀ (w2 : World), Kept (fun (b : Nat) => List.Mem b ds') w'_3 w2 → Array.size (World.heap w2) = Array.size (World.heap w'_3) → K (.tuple #[]) w2)) False) False))) False
theorem vc122 (l0 : Nat) (c1_0 : OA) (w : World) (K : KV) (h : vcP122 l0 c1_0 w K) : Calls Tryz.prog 122 #[Value.func (Fn.yield l0) #[] #[], pointer c1_0] w (fun e w' => ∃ v, e = .returned v ∧ K v w') := Eng.vc_of [169, 123, 98, 99] 2 [3000028] Tryz.mixes Tryz.func122 (by kernel_rfl) (by kernel_rfl) (by kernel_rfl) h
end Go.Proofs.YtklmokolnakkoaaGreatDoor
