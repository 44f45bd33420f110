/-
  A part of a proof that a law of this seat returns true at every input. Conditions: those in each theorem.
-/
import Derived.Test.YtklmokolnakkoaaGreatDoorZV2
import Derived.Test.YtklmokolnakkoaaGreatDoorBL6
import Derived.Test.YtklmokolnakkoaaGreatDoorEngQ
set_option linter.unusedVariables false
set_option maxRecDepth 100000
namespace Go.Proofs.YtklmokolnakkoaaGreatDoor
open Go Go.Eng
open Go.Value (slice)
/- (*byre/buddy.Buddy).Blocks$1 -/
def vcP168 (l0 : Nat) (c1_0 : Option Addr) (w : World) (K : Value → World → Prop) : Prop := Wif (isP c1_0) (∃ (x : Option Addr), rd w (pb c1_0) (po c1_0) = some (.pointer x) ∧ gIf (isP x) ((!Option.isNone x) = true) (∃ (x_1 : Option Nat), ((!Option.isNone x) = true → rd w (pb x) (po x + 12) = some (.map x_1)) ∧ Wif (!(!Option.isNone x && !Option.isNone x_1)) (K (Value.tuple #[]) w) (Wif (isP c1_0) (∃ (x : Option Addr), rd w (pb c1_0) (po c1_0) = some (.pointer x) ∧ Wif (isP x) (∃ (x_2 x_3 x_4 x_5 x_6 x_7 x_8 x_9 x_10 x_11 x_12 : Option Nat), rdAll w (pb x) (po x + 1) [Value.map x_2, Value.map x_3, Value.map x_4, Value.map x_5, Value.map x_6, Value.map x_7, Value.map x_8, Value.map x_9, Value.map x_10, Value.map x_11, Value.map x_12] ∧ ∃ (I : Option Addr → Nat → Nat → Int → World → Nat → Prop), (∃ (n : Nat), I none 0 0 0 w n) ∧ ∀ (a : Option Addr) (l c : Nat) (n : Int) (w' : World) (n_1 : Nat), I a l c n w' n_1 → Wif (decide (n < 11)) (Wif (inB n 11) (∃ (x : Option Nat), [Value.map x_2, Value.map x_3, Value.map x_4, Value.map x_5, Value.map x_6, Value.map x_7, Value.map x_8, Value.map x_9, Value.map x_10, Value.map x_11, Value.map x_12][Int.toNat n * 1]? = some (.map x) ∧ ∃ (p : Option Addr) (w'_1 : World), rngIs Tryz.prog 284 (Value.map x) (Value.pointer p) w' w'_1 ∧ ∃ (I_1 : Option Addr → Nat → Nat → World → Nat → Prop), (∃ (n : Nat), I_1 a l c w'_1 n) ∧ ∀ (a : Option Addr) (l c : Nat) (w' : World) (n_2 : Nat), I_1 a l c w' n_2 → (∃ (w'_2 : World), nxtIs Tryz.prog (Value.pointer p) false 0 (Value.tuple #[Value.bool false]) w' w'_2 ∧ ∃ (m : Nat), Nat.succ m ≤ n_1 ∧ I a l c (IntKind.wrap .i64 (n + 1)) w'_2 m) ∨ ∃ (k v : Value) (w'_2 : World), nxtIs Tryz.prog (Value.pointer p) false 0 (Value.tuple #[Value.bool true, k, v]) w' w'_2 ∧ ∃ (x : Int) (x_13 : Value), entIs Tryz.prog (Value.pointer p) (Value.tuple #[Value.int .i64 x, x_13]) w'_2 ∧ ∀ (w' : World), w' = World.alloc w'_2 (Obj.cells #[Value.int .i64 x, Value.int .i64 n] 87) → ∃ (a_1 : Option Addr) (l_1 c_1 : Nat) (w'_3 : World), appIs Tryz.prog #[62, 62] 62 (slice a l c) (slice (some (Addr.mk w'_2.heap.size 0 none)) 1 1) (slice a_1 l_1 c_1) w' w'_3 ∧ ∃ (m : Nat), Nat.succ m ≤ n_2 ∧ I_1 a_1 l_1 c_1 w'_3 m) False) (Calls Tryz.prog 170 #[slice a l c, Value.func (Fn.func 171) #[] #[]] w' fun (e : Ending) (w' : World) => e = Ending.returned (Value.tuple #[]) ∧ ∃ (I : Int → World → Nat → Prop), (∃ (n : Nat), I 0 w' n) ∧ ∀ (n : Int) (w' : World) (n_2 : Nat), I n w' n_2 → Wif (decide (n < (↑l : Int))) (Wif (isP a) (Wif (inB n l) (∃ (x x_13 : Int), (rd w' (pb a) (po a + Int.toNat n * 2) = some (.int .i64 x) ∧ rd w' (pb a) (po a + Int.toNat n * 2 + 1) = some (.int .i64 x_13)) ∧ ∀ (w'_1 : World), w'_1 = World.alloc w' (Obj.cells #[Value.int .i64 0, Value.int .i64 0] 87) → (wr w'_1 w'.heap.size 0 ∧ wr w'_1 w'.heap.size 1) ∧ ∀ (w'_2 : World), w'_2 = st (st w'_1 w'.heap.size 0 (Value.int .i64 x)) w'.heap.size 1 (Value.int .i64 x_13) → ∃ (x x_14 : Int), (rd w'_2 w'.heap.size 0 = some (.int .i64 x) ∧ rd w'_2 w'.heap.size 1 = some (.int .i64 x_14)) ∧ YieldIs Tryz.prog l0 [Value.agg #[Value.int .i64 x, Value.int .i64 x_14]] w'_2 fun (r : Ending) (w' : World) => ∃ (b : Bool), r = Ending.returned (Value.bool b) ∧ Wif (!b) (K (Value.tuple #[]) w') (∃ (m : Nat), Nat.succ m ≤ n_2 ∧ I (IntKind.wrap .i64 (n + 1)) w' m)) False) False) (K (Value.tuple #[]) w'))) False) False))) False
theorem vcE168 (l0 : Nat) (c1_0 : Option Addr) (w : World) (K : Value → World → Prop) : vcP168 l0 c1_0 w K = Eng.wBody Tryz.prog (Eng.handOf Tryz.prog [169] 2) [1000041] Tryz.f168 (Eng.bodyOf Tryz.f168) [Value.func (Fn.yield l0) #[] #[], Value.pointer c1_0] w K := by kernel_rfl
theorem vc168 (l0 : Nat) (c1_0 : Option Addr) (w : World) (K : Value → World → Prop) (h : vcP168 l0 c1_0 w K) : Calls Tryz.prog 168 #[Value.func (Fn.yield l0) #[] #[], Value.pointer c1_0] w (fun e w' => ∃ v, e = .returned v ∧ K v w') := Eng.vc_of [169] 2 [1000041] Tryz.mixes Tryz.func168 (by kernel_rfl) (by kernel_rfl) (vcE168 l0 c1_0 w K) h
/- (*byre/buddy.Buddy).Blocks$1$1 -/
def vcP171 (x0 : Int) (x1 : Int) (y0 : Int) (y1 : Int) (w : World) (K : Value → World → Prop) : Prop := ∀ (w' : World), w' = World.alloc w (Obj.cells #[Value.int .i64 x0, Value.int .i64 x1] 87) → ∀ (w'_1 : World), w'_1 = World.alloc w' (Obj.cells #[Value.int .i64 y0, Value.int .i64 y1] 87) → ∃ (x : Int), rd w'_1 w.heap.size 0 = some (.int .i64 x) ∧ ∃ (x_1 : Int), rd w'_1 w'.heap.size 0 = some (.int .i64 x_1) ∧ K (Value.int .i64 (IntKind.wrap .i64 (x - x_1))) w'_1
theorem vcE171 (x0 : Int) (x1 : Int) (y0 : Int) (y1 : Int) (w : World) (K : Value → World → Prop) : vcP171 x0 x1 y0 y1 w K = Eng.wBody Tryz.prog (Eng.handOf Tryz.prog [169] 2) [] Tryz.f171 (Eng.bodyOf Tryz.f171) [Value.agg #[Value.int .i64 x0, Value.int .i64 x1], Value.agg #[Value.int .i64 y0, Value.int .i64 y1]] w K := by kernel_rfl
theorem vc171 (x0 : Int) (x1 : Int) (y0 : Int) (y1 : Int) (w : World) (K : Value → World → Prop) (h : vcP171 x0 x1 y0 y1 w K) : Calls Tryz.prog 171 #[Value.agg #[Value.int .i64 x0, Value.int .i64 x1], Value.agg #[Value.int .i64 y0, Value.int .i64 y1]] w (fun e w' => ∃ v, e = .returned v ∧ K v w') := Eng.vc_of [169] 2 [] Tryz.mixes Tryz.func171 (by kernel_rfl) (by kernel_rfl) (vcE171 x0 x1 y0 y1 w K) h
end Go.Proofs.YtklmokolnakkoaaGreatDoor
namespace Go.Proofs.YtklmokolnakkoaaGreatDoor
open Go Eng
set_option linter.unusedSimpArgs false
set_option linter.unusedVariables false
set_option maxRecDepth 100000
def frB (l : List Bk) : List Bk := l.filter fun x => x.g == 0
def blkV (x : Bk) : Value := .agg #[.int .i64 (x.p : Int), .int .i64 (x.o : Int)]
theorem mem_frB {l : List Bk} {x : Bk} : x ∈ frB l ↔ x ∈ l ∧ x.g = 0 := by
  unfold frB
  rw [List.mem_filter]
  simp
def ordAt (l : List Bk) (a : Nat) : Nat := ((l.find? fun x => x.g == 0 && x.p == a).map (·.o)).getD 0
theorem ordAt_of {l : List Bk} {n : Nat} (h : Tile 0 l n) {x : Bk} (hx : x ∈ l) (hg : x.g = 0) : ordAt l x.p = x.o := by
  unfold ordAt
  cases hf : l.find? fun y => y.g == 0 && y.p == x.p with
  | none =>
    have := List.find?_eq_none.1 hf x hx
    simp [hg] at this
  | some y =>
    have h1 := List.mem_of_find?_eq_some hf
    have h2 := List.find?_some hf
    simp only [Bool.and_eq_true, beq_iff_eq] at h2
    have : y = x := tile_start h h1 hx h2.2
    rw [this]; rfl
theorem frB_sorted {l : List Bk} {n : Nat} (h : Tile 0 l n) : ((frB l).map (·.p)).Pairwise (fun a b => a < b) := by
  rw [List.pairwise_map]
  refine ((tile_pw h).filter _).imp ?_
  intro x y hxy
  have := p2 x.o
  omega
theorem frB_pairs {l : List Bk} {n : Nat} (h : Tile 0 l n) : (frB l).map blkV = ((frB l).map (·.p)).map fun (a : Nat) => Value.agg #[.int .i64 (a : Int), .int .i64 (ordAt l a : Nat)] := by
  rw [List.map_map]
  apply List.map_congr_left
  intro x hx
  obtain ⟨h1, h2⟩ := mem_frB.1 hx
  simp only [Function.comp_apply, blkV, ordAt_of h h1 h2]
end Go.Proofs.YtklmokolnakkoaaGreatDoor
namespace Go.Proofs.YtklmokolnakkoaaGreatDoor
open Go Eng
set_option linter.unusedSimpArgs false
set_option linter.unusedVariables false
set_option maxRecDepth 100000
def rowCells (l : List Bk) (d : List Nat) : List Value := d.flatMap fun (a : Nat) => [.int .i64 (a : Int), .int .i64 (ordAt l a : Nat)]
theorem rowCells_app (l : List Bk) (d d' : List Nat) : rowCells l (d ++ d') = rowCells l d ++ rowCells l d' := by simp [rowCells]
theorem rowCells_len (l : List Bk) : ∀ d : List Nat, (rowCells l d).length = d.length * 2
  | [] => rfl
  | a :: d => by
    have := rowCells_len l d
    simp only [rowCells, List.flatMap_cons, List.length_append, List.length_cons, List.length_nil] at this ⊢
    omega
theorem rowCells_get (l : List Bk) : ∀ (d : List Nat) (i : Nat) (a : Nat), d[i]? = some a → (rowCells l d)[i * 2]? = some (.int .i64 (a : Int)) ∧ (rowCells l d)[i * 2 + 1]? = some (.int .i64 (ordAt l a : Nat))
  | [], i, a, h => by simp at h
  | x :: d, 0, a, h => by
    simp at h
    subst h
    exact ⟨rfl, rfl⟩
  | x :: d, i + 1, a, h => by
    have := rowCells_get l d i a (by simpa using h)
    have e : rowCells l (x :: d) = [.int .i64 (x : Int), .int .i64 (ordAt l x : Nat)] ++ rowCells l d := rfl
    rw [e]
    constructor
    · rw [List.getElem?_append_right (by simp; omega), show (i + 1) * 2 - [Value.int .i64 (x : Int), .int .i64 (ordAt l x : Nat)].length = i * 2 by simp; omega]
      exact this.1
    · rw [List.getElem?_append_right (by simp; omega), show (i + 1) * 2 + 1 - [Value.int .i64 (x : Int), .int .i64 (ordAt l x : Nat)].length = i * 2 + 1 by simp; omega]
      exact this.2
def frN (q : Nat) (l : List Bk) : List Nat := (l.filter fun x => x.g == 0 && x.o == q).map (·.p)
def plc (q : Nat) (l : List Bk) : List Nat := (l.filter fun x => x.g == 0 && decide (x.o < q)).map (·.p)
theorem fr_frN (q : Nat) (l : List Bk) : fr q l = (frN q l).map fun (a : Nat) => (a : Int) := by simp [fr, frN, Function.comp_def]
theorem mem_plc {q : Nat} {l : List Bk} {a : Nat} : a ∈ plc q l ↔ ∃ x ∈ l, x.g = 0 ∧ x.o < q ∧ x.p = a := by
  unfold plc
  simp only [List.mem_map, List.mem_filter, Bool.and_eq_true, beq_iff_eq, decide_eq_true_eq]
  constructor
  · rintro ⟨x, ⟨h1, h2, h3⟩, h4⟩; exact ⟨x, h1, h2, h3, h4⟩
  · rintro ⟨x, h1, h2, h3, h4⟩; exact ⟨x, ⟨h1, h2, h3⟩, h4⟩
theorem plc_len (q : Nat) (l : List Bk) : (plc q l).length ≤ l.length := by
  unfold plc; rw [List.length_map]; exact List.length_filter_le _ _
theorem plc_zero (l : List Bk) : plc 0 l = [] := by
  unfold plc
  rw [List.filter_eq_nil_iff.2 (by intro x _; simp)]; rfl
theorem plc_succ (q : Nat) : ∀ l : List Bk, (plc (q + 1) l).Perm (plc q l ++ frN q l)
  | [] => List.Perm.refl _
  | x :: l => by
    have ih := plc_succ q l
    unfold plc frN at *
    by_cases hg : x.g = 0
    · rcases Nat.lt_trichotomy x.o q with h | h | h
      · rw [List.filter_cons_of_pos (by simp [hg]; omega), List.filter_cons_of_pos (by simp [hg]; omega), List.filter_cons_of_neg (by simp [hg]; omega)]
        simp only [List.map_cons, List.cons_append]
        exact ih.cons _
      · rw [List.filter_cons_of_pos (by simp [hg]; omega), List.filter_cons_of_neg (by simp [hg]; omega), List.filter_cons_of_pos (by simp [hg]; omega)]
        simp only [List.map_cons]
        exact (ih.cons _).trans List.perm_middle.symm
      · rw [List.filter_cons_of_neg (by simp [hg]; omega), List.filter_cons_of_neg (by simp [hg]; omega), List.filter_cons_of_neg (by simp [hg]; omega)]
        exact ih
    · rw [List.filter_cons_of_neg (by simp [hg]), List.filter_cons_of_neg (by simp [hg]), List.filter_cons_of_neg (by simp [hg])]
      exact ih
theorem plc_all {l : List Bk} (h : ∀ x ∈ l, x.o ≤ 10) : plc 11 l = (frB l).map (·.p) := by
  unfold plc frB
  congr 1
  apply List.filter_congr
  intro x hx
  have := h x hx
  simp; omega
theorem info_blk : (Tryz.prog.info? 87).map (fun i => (i.zero, i.size, i.bytes)) = some (some (.agg #[.int .i64 0, .int .i64 0]), 2, 16) := by kernel_rfl
theorem app_blk {w : World} {base : Nat} {v : Value} {n : Nat} {xs : List Value} (ho : w.ownsRow base 87 2 v n xs) {X m c off : Nat} {ys news : List Value} (hx : own w X ys) (hys : (ys.drop off).take (m * 2) = news) (hl : news.length = m * 2)
    (h1 : ∀ u ∈ news, u.oneCell' = true) (h63 : n + m ≤ 1000000) (hbase : base ≤ w.heap.size) :
    ∃ a l c' w', appIs Tryz.prog #[62, 62] 62 v (.slice (some ⟨X, off, none⟩) m c) (.slice a l c') w w' ∧ l = n + m ∧ w'.ownsRow base 87 2 (.slice a l c') (n + m) (xs ++ news) ∧ Kept (fun b => v.ownBlock = some b) w w' := by
  have h := info_blk
  cases hi : Tryz.prog.info? 87 with
  | none => rw [hi] at h; cases h
  | some i =>
    rw [hi] at h
    simp at h
    exact app_own (P := Tryz.prog) (t := 62) (ty := 62) (e := 87) (i := i) (z := .agg #[.int .i64 0, .int .i64 0]) (size := 2) Tryz.underlying62 hi h.1 h.2.1 rfl (by decide) ho hx hys hl h1 h63 (by omega) hbase
def SortSays (l : List Bk) : Prop := ∀ (w : World) (a : Option Addr) (n c base : Nat) (d : List Nat), w.ownsRow base 87 2 (.slice a n c) n (rowCells l d) → (∀ x ∈ d, x < 128) → d.Nodup → d.length ≤ 128 →
  Calls Tryz.prog 170 #[.slice a n c, .func (.func 171) #[] #[]] w fun e w' => e = .returned (.tuple #[]) ∧ w'.ownsRow base 87 2 (.slice a n c) n (rowCells l (d.mergeSort fun x y => decide (x ≤ y))) ∧ Kept (fun b => (Value.slice a n c).ownBlock = some b) w w'
theorem sorted_perm_eq {d e : List Nat} (hp : d.Perm e) (he : e.Pairwise (fun a b => a < b)) : (d.mergeSort fun x y => decide (x ≤ y)) = e := by
  have h1 : (d.mergeSort fun x y => decide (x ≤ y)).Pairwise (fun x y => x ≤ y) := by
    have := List.pairwise_mergeSort (le := fun (x y : Nat) => decide (x ≤ y)) (by intro a b c h1 h2; simp at *; omega) (by intro a b; simp; omega) d
    exact this.imp fun h => by simpa using h
  have h2 : (d.mergeSort fun x y => decide (x ≤ y)).Perm e := (List.mergeSort_perm d _).trans hp
  exact h2.eq_of_pairwise (le := fun x y => x ≤ y) (fun a b _ _ h1 h2 => by omega) h1 (he.imp fun h => by omega)
end Go.Proofs.YtklmokolnakkoaaGreatDoor
namespace Go.Proofs.YtklmokolnakkoaaGreatDoor
open Go Eng
set_option linter.unusedSimpArgs false
set_option linter.unusedVariables false
set_option maxRecDepth 100000
theorem _root_.Go.Eng.Kept.toY {Y : Nat → Prop} {w w' : World} (k : Kept none' w w') : Kept Y w w' := k.mono fun _ _ h => h.elim
theorem rowTy {w : World} {base e size n g : Nat} {v : Value} {xs : List Value} (h : w.ownsRow base e size v n xs) (hg : v.ownBlock = some g) : base ≤ g ∧ ∃ cur, w.heap[g]? = some (.cells cur e (0, 0)) := by
  rcases h.2 with ⟨rfl, _⟩ | ⟨g', cap, cur, rfl, hb, hgg, _⟩
  · simp [Value.ownBlock] at hg
  · simp [Value.ownBlock] at hg
    subst hg
    exact ⟨hb, cur, hgg⟩
section
variable {w w' : World} {b c t : Nat} {m : Nat → Nat} {n : Nat} {L : List Bk}
theorem row2_rd {w : World} {base e l c n : Nat} {a : Option Addr} {xs : List Value} (h : w.ownsRow base e 2 (.slice a l c) n xs) {i : Nat} (hi : i < n) :
    ∃ g, a = some ⟨g, 0, none⟩ ∧ l = n ∧ base ≤ g ∧ g < w.heap.size ∧ rd w g (i * 2) = xs[i * 2]? ∧ rd w g (i * 2 + 1) = xs[i * 2 + 1]? := by
  obtain ⟨hl, hh⟩ := ownsRow_own h
  rcases hh with ⟨_, h0, _⟩ | ⟨g, cs, rfl, hg, og, htk, _, _⟩
  · omega
  · refine ⟨g, rfl, hl, hg, og.lt, ?_, ?_⟩
    · rw [og.rd, ← htk, List.getElem?_take, if_pos (by omega)]
    · rw [og.rd, ← htk, List.getElem?_take, if_pos (by omega)]
theorem KeptY.own {Y : Nat → Prop} {g : Nat} {cs : List Value} (k : KeptY Y w w') (hy : Y g) (h : own w g cs) : own w' g cs := by
  obtain ⟨ty, h⟩ := h
  exact ⟨ty, (k.blk g hy).trans h⟩
theorem blocks_gives (hs : SortSays L) (h : BAt w b m t (stOf n L)) (hi : Inv n L) (hc : rd w c 0 = some (ptr b)) :
    GivesV Tryz.prog 168 [.pointer (some ⟨c, 0, none⟩)] ((frB L).map fun x => [blkV x]) (fun _ => False) w := by
  refine ⟨fun l J Jx W hk hab habx hY h0 => ?_⟩
  refine (vc168 l (some ⟨c, 0, none⟩) W (fun v w' => (∃ Y, J Y ((frB L).map fun x => [blkV x]).length w') ∨ ∃ Y, Jx Y w') ?_).mono ?_
  rotate_left
  · rintro e w' ⟨v, rfl, hw⟩
    exact ⟨⟨v, rfl⟩, hw⟩
  have hW := h.k hk
  have hn128 := hi.n1.2
  have h10 : ∀ x ∈ L, x.o ≤ 10 := fun x hx => (tile_mem hi.tl hx).2.2.2
  have hLl := tile_le hi.tl
  have hpl : ∀ q, (plc q L).length ≤ 128 := fun q => by have := plc_len q L; omega
  unfold vcP168
  simp only [isP_some, Wif_true, gIf_true, pb_some, po_some, Nat.zero_add]
  refine ⟨_, hk.rd_some hc id, ?_⟩
  simp only [isP_some, Wif_true, gIf_true, pb_some, po_some, Nat.zero_add]
  refine ⟨_, fun _ => hW.r12, Wif_no rfl ⟨_, hk.rd_some hc id, ?_⟩⟩
  simp only [isP_some, Wif_true, gIf_true, pb_some, po_some, Nat.zero_add]
  refine ⟨some (m 0), some (m 1), some (m 2), some (m 3), some (m 4), some (m 5), some (m 6), some (m 7), some (m 8), some (m 9), some (m 10), hW.so.rdAll 1 (fun j hj => ?_), ?_⟩
  · simp at hj
    have : j = 0 ∨ j = 1 ∨ j = 2 ∨ j = 3 ∨ j = 4 ∨ j = 5 ∨ j = 6 ∨ j = 7 ∨ j = 8 ∨ j = 9 ∨ j = 10 := by omega
    rcases this with rfl | rfl | rfl | rfl | rfl | rfl | rfl | rfl | rfl | rfl | rfl <;> rfl
  have hbase0 : ∀ o, o < 11 → m o < W.heap.size := fun o ho => (hW.mf o ho).lt
  refine ⟨fun a l' c' k w' N => ∃ (q : Nat) (d : List Nat), k = q ∧ q ≤ 11 ∧ N = 11 - q ∧ Kept none' W w' ∧ l' = d.length ∧ w'.ownsRow W.heap.size 87 2 (.slice a l' c') d.length (rowCells L d) ∧ d.Perm (plc q L),
    ⟨11, 0, [], rfl, by omega, rfl, Kept.refl _ _, rfl, World.ownsRow_nil _ _ _ _, by rw [plc_zero]⟩, ?_⟩
  rintro a _ c' _ w1 _ ⟨q, d, rfl, hq, rfl, k1, rfl, row1, hp1⟩
  have hdl : d.length ≤ 128 := by rw [hp1.length_eq]; exact hpl q
  refine Wif_intro (fun hc2 => ?_) (fun hc2 => ?_)
  · simp only [decide_eq_true_eq] at hc2
    have hq11 : q < 11 := by omega
    refine Wif_yes (inB_of (by omega) (by omega)) ⟨some (m q), ?_, ?_⟩
    · rw [Int.toNat_natCast, Nat.mul_one]
      match q, hq11 with
      | 0, _ | 1, _ | 2, _ | 3, _ | 4, _ | 5, _ | 6, _ | 7, _ | 8, _ | 9, _ | 10, _ => rfl
    have mq1 : MapIs w1 (m q) (ent1 (fr q L)) := (hW.mf q hq11).k k1
    obtain ⟨w2, hrng, k2, I2⟩ := range_map (P := Tryz.prog) Tryz.underlying284 mq1
    refine ⟨_, w2, hrng, ?_⟩
    have row2 := ownsRow_kx row1 k2 (fun _ _ _ _ => id)
    have hr0 := I2.lt.1
    have hs01 := k1.sz
    have hs12 := k2.sz
    generalize hrE : w1.heap.size = r at *
    refine ⟨fun a l' c' w' N => ∃ (R : List (Int × Value)) (d : List Nat), R.length = N ∧ Kept none' W w' ∧ IterAt w' r (m q) (ent1 (fr q L)) R ∧ l' = d.length ∧ w'.ownsRow W.heap.size 87 2 (.slice a l' c') d.length (rowCells L d) ∧ (∀ g, (Value.slice a l' c').ownBlock = some g → g ≠ r) ∧
        (d.map (fun (a : Nat) => (a : Int)) ++ R.map (·.1)).Perm ((plc (q + 1) L).map fun (a : Nat) => (a : Int)) ∧ ∀ p ∈ R, ∃ x ∈ L, x.g = 0 ∧ x.o = q ∧ p.1 = (x.p : Int),
      ⟨_, ent1 (fr q L), d, rfl, k1.tr k2, I2, rfl, row2, fun g hg e => ?_, ?_, fun p hp => ?_⟩, ?_⟩
    · obtain ⟨_, cur, hcu⟩ := rowTy row1 hg
      have := (Array.getElem?_eq_some_iff.1 hcu).1
      omega
    · have e1 : (ent1 (fr q L)).map (·.1) = (frN q L).map fun (a : Nat) => (a : Int) := by rw [← fr_frN]; simp [ent1, Function.comp_def]
      rw [e1, ← List.map_append]
      exact ((hp1.append_right _).trans (plc_succ q L).symm).map _
    · obtain ⟨k, hk', rfl⟩ := List.mem_map.1 hp
      obtain ⟨x, h1, h2, h3, h4⟩ := mem_fr.1 hk'
      exact ⟨x, h1, h2, h3, h4.symm⟩
    rintro a _ c' w3 _ ⟨R, d, rfl, k3, I3, rfl, row3, hsep, hperm, hR⟩
    have hdl : d.length ≤ 128 := by
      have e1 := hperm.length_eq
      simp only [List.length_append, List.length_map] at e1
      have := hpl (q + 1)
      omega
    rcases next_map (P := Tryz.prog) (ty := 0) I3 with ⟨rfl, hnx⟩ | ⟨⟨f, v⟩, R', w4, hRp, hnx, k4, I4, hent⟩
    · left
      refine ⟨w3, hnx, 11 - (q + 1), by omega, q + 1, d, by rw [wi (by omega)]; rfl, by omega, rfl, k3, rfl, row3, ?_⟩
      simp only [List.map_nil, List.append_nil] at hperm
      -- the places themselves
      have : (d.map (fun (a : Nat) => (a : Int))).map Int.toNat = d := by rw [List.map_map]; simp [Function.comp_def]
      have h2 : ((plc (q + 1) L).map (fun (a : Nat) => (a : Int))).map Int.toNat = plc (q + 1) L := by rw [List.map_map]; simp [Function.comp_def]
      have h3 := hperm.map Int.toNat
      rw [this, h2] at h3
      exact h3
    · right
      obtain ⟨x, hx1, hx2, hx3, hx4⟩ := hR (f, v) (hRp.mem_iff.2 (by simp))
      dsimp only at hx4
      subst hx4
      have row4 := ownsRow_kx row3 k4 (fun g _ _ hg e => hsep g hg e)
      have k34 : Kept none' W w4 := own0 k3 k4 fun b e => by omega
      refine ⟨_, _, w4, hnx, (x.p : Int), v, hent, ?_⟩
      intro w5 e5
      have k45 : Kept none' w4 w5 := (Kept.refl _ _).al e5
      have p5 := own_alloc (c := [Value.int .i64 (x.p : Int), .int .i64 (q : Int)]) e5
      have row5 := ownsRow_kx row4 k45 (fun _ _ _ _ => id)
      have hcell : rowCells L [x.p] = [Value.int .i64 (x.p : Int), .int .i64 (q : Int)] := by
        simp only [rowCells, List.flatMap_cons, List.flatMap_nil, List.append_nil]
        rw [ordAt_of hi.tl hx1 hx2, hx3]
      have hs3 := k3.sz
      have hs4 := k4.sz
      have hs5 := k45.sz
      obtain ⟨a', l', c'', w6, happ, rfl, row6, k6⟩ := app_blk row5 p5 (m := 1) (off := 0) (c := 1) (news := [Value.int .i64 (x.p : Int), .int .i64 (q : Int)]) rfl rfl (fun u hu => by simp at hu; rcases hu with rfl | rfl <;> rfl) (by omega) (by omega)
      refine ⟨a', _, c'', w6, happ, R'.length, by rw [hRp.length_eq]; simp, R', d ++ [x.p], rfl, own0 (k34.tr k45) k6 fun g hg => ?_, ?_, by simp, ?_, fun g hg => ?_, ?_, fun p hp => hR p (hRp.mem_iff.2 (List.mem_cons_of_mem _ hp))⟩
      · exact (rowTy row5 hg).1
      · exact (I4.k k45).kx k6 (fun e => hsep r e rfl) (fun e => by have := (rowTy row5 e).1; have := hbase0 q hq11; omega)
      · have : rowCells L (d ++ [x.p]) = rowCells L d ++ [Value.int .i64 (x.p : Int), .int .i64 (q : Int)] := by rw [rowCells_app, hcell]
        rw [this]
        have e1 : (d ++ [x.p]).length = d.length + 1 := by simp
        rw [e1]; exact row6
      · intro e
        subst e
        obtain ⟨_, cur, hcu⟩ := rowTy row6 hg
        obtain ⟨es, clk, since, seen, c0, _, hit, _⟩ := ((I4.k k45).kx k6 (fun e => hsep g e rfl) (fun e => by have := (rowTy row5 e).1; have := hbase0 q hq11; omega)).ex
        rw [hcu] at hit
        cases hit
      · refine List.Perm.trans ?_ hperm
        rw [List.map_append, List.append_assoc]
        refine List.Perm.append_left _ ?_
        exact (hRp.map (·.1)).symm
  · have hq11 : q = 11 := by simp at hc2; omega
    subst hq11
    have hplE := plc_all h10
    rw [hplE] at hp1
    have hstr := frB_sorted hi.tl
    have hnd : d.Nodup := hp1.nodup_iff.2 (hstr.imp fun h => by omega)
    refine (hs w1 a d.length c' W.heap.size d row1 (fun x hx => ?_) hnd hdl).mono ?_
    · obtain ⟨y, hy, rfl⟩ := List.mem_map.1 (hp1.mem_iff.1 hx)
      have := (tile_mem hi.tl (mem_frB.1 hy).1)
      have := p2 y.o
      omega
    rintro _ w2 ⟨rfl, row2, k2⟩
    rw [sorted_perm_eq hp1 hstr] at row2
    have K2 : Kept none' W w2 := own0 k1 k2 fun g hg => (rowTy row1 hg).1
    refine ⟨rfl, ?_⟩
    have hlen : d.length = (frB L).length := by rw [hp1.length_eq, List.length_map]
    have hJ2 := hab _ _ _ _ h0 K2.toY
    refine ⟨fun k w' N => ∃ (q : Nat) (Y : Nat → Prop), k = q ∧ q ≤ d.length ∧ N = d.length - q ∧ J Y q w' ∧ (∀ g, (Value.slice a d.length c').ownBlock = some g → Y g) ∧ w'.ownsRow W.heap.size 87 2 (.slice a d.length c') d.length (rowCells L ((frB L).map (·.p))),
      ⟨d.length, 0, _, rfl, by omega, rfl, hJ2, fun g hg => ?_, row2⟩, ?_⟩
    · obtain ⟨h1, cur, hcu⟩ := rowTy row2 hg
      exact .inr ⟨h1, (Array.getElem?_eq_some_iff.1 hcu).1⟩
    rintro _ w3 _ ⟨q, Y, rfl, hq, rfl, hJ3, hYg, row3⟩
    refine Wif_intro (fun hc3 => ?_) (fun hc3 => ?_)
    · simp only [decide_eq_true_eq] at hc3
      have hqd : q < d.length := by omega
      obtain ⟨g, rfl, _, hgb, hgs, r0, r1⟩ := row2_rd row3 hqd
      have hxq : q < (frB L).length := by omega
      obtain ⟨x, hx⟩ : ∃ x, (frB L)[q]? = some x := ⟨_, List.getElem?_eq_getElem hxq⟩
      have hxL := mem_frB.1 (List.mem_of_getElem? hx)
      have hget := rowCells_get L ((frB L).map (·.p)) q x.p (by simp [hx])
      rw [hget.1] at r0
      rw [hget.2, ordAt_of hi.tl hxL.1 hxL.2] at r1
      simp only [isP_some, Wif_true, pb_some, po_some, Nat.zero_add, Int.toNat_natCast]
      refine Wif_yes (inB_of (by omega) (by omega)) ⟨(x.p : Int), (x.o : Int), ⟨r0, r1⟩, ?_⟩
      intro w4 e4
      have k34 : Kept none' w3 w4 := (Kept.refl _ _).al e4
      have o4 := own_alloc (c := [Value.int .i64 0, .int .i64 0]) e4
      have hJ4 := hab _ _ _ _ hJ3 k34.toY
      have s34 : w4.heap.size = w3.heap.size + 1 := by rw [e4]; simp only [World.alloc, Array.size_push]
      refine ⟨⟨o4.wr (by simp), o4.wr (by simp)⟩, ?_⟩
      intro w5 e5
      have o5 := o4.s2 e5
      have k45 : Kept (· = w3.heap.size) w4 w5 := (Kept.refl _ _).s2 e5 (.inl rfl)
      have k35 : Kept none' w3 w5 := k34.trans k45 fun b hb e => by omega
      have hJ5 := hab _ _ _ _ hJ3 k35.toY
      have row5 := ownsRow_kx row3 k35 (fun _ _ _ _ => id)
      refine ⟨(x.p : Int), (x.o : Int), ⟨by rw [o5.rd]; rfl, by rw [o5.rd]; rfl⟩, ?_⟩
      have hy := hY _ q [blkV x] w5 (by simp [hx]) hJ5
      obtain ⟨fn, tm, asg', bo, hrun, hR⟩ := hy.run
      refine ⟨fn, tm, asg', bo, hrun, hR.mono ?_⟩
      rintro en w6 ⟨k6, ⟨rfl, hJ6⟩ | ⟨rfl, hx6⟩⟩
      · refine ⟨true, rfl, Wif_no rfl ⟨d.length - (q + 1), by omega, q + 1, _, by rw [wi (by omega)]; rfl, by omega, rfl, hJ6, fun g' hg' => .inl (hYg g' hg'), ?_⟩⟩
        -- the row has been kept
        have hYg0 := hYg g (by simp [Value.ownBlock])
        rcases row5 with ⟨hl5, ⟨hv, h00⟩ | ⟨g', cap, cur, hv, hb', hgg, hrest⟩⟩
        · cases hv
        · simp only [Value.slice.injEq, Option.some.injEq, Addr.mk.injEq] at hv
          obtain ⟨⟨rfl, _⟩, _, rfl⟩ := hv
          exact ⟨hl5, .inr ⟨g, _, cur, rfl, hb', (k6.blk g (.inl (.inl hYg0))).trans hgg, hrest⟩⟩
      · exact ⟨false, rfl, Wif_yes rfl (.inr ⟨_, hx6⟩)⟩
    · have : q = d.length := by simp at hc3; omega
      subst this
      refine .inl ⟨Y, ?_⟩
      rw [List.length_map, ← hlen]
      exact hJ3
end
end Go.Proofs.YtklmokolnakkoaaGreatDoor
