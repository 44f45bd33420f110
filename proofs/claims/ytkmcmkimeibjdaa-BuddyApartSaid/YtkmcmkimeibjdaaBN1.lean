/-
  A part of a proof that a law of this seat returns true at every input. Conditions: those in each theorem.
-/
import Derived.Test.YtkmcmkimeibjdaaBL9
import Derived.Test.YtkmcmkimeibjdaaBV3
import Derived.Test.YtkmcmkimeibjdaaEngQ
namespace Go.Proofs.Ytkmcmkimeibjdaa
open Go Eng
set_option linter.unusedSimpArgs false
set_option linter.unusedVariables false
set_option maxRecDepth 100000
/-! ### a node that is not there, or was not made -/
/-- no node: none, or one that was not made -/
def NoB (w : World) (x : Option Addr) : Prop := x = none ∨ ∃ b, x = some ⟨b, 0, none⟩ ∧ rd w b 12 = some (.map none)
theorem NoB.k {w w' : World} {x : Option Addr} (h : NoB w x) (k : Kept none' w w') : NoB w' x := by
  rcases h with rfl | ⟨b, rfl, h⟩
  · exact .inl rfl
  · exact .inr ⟨b, rfl, k.rd_some h id⟩
section
variable {w : World} {x : Option Addr}
theorem NoB.go (h : NoB w x) {f : Option Nat → Prop} (hf : f none) : gIf (isP x) ((!Option.isNone x) = true) (∃ (y : Option Nat), ((!Option.isNone x) = true → rd w (pb x) (po x + 12) = some (.map y)) ∧ f y) := by
  refine gIf_intro (fun hc => ?_) ⟨none, fun hc => ?_, hf⟩
  · rcases h with rfl | ⟨b, rfl, h⟩
    · simp at hc
    · rfl
  · rcases h with rfl | ⟨b, rfl, h⟩
    · simp at hc
    · simpa [po, pb] using h
theorem none_take (h : NoB w x) (o : Int) (hi : Bool) : Calls Try.prog 15 #[.pointer x, .int .i64 o, .bool hi] w fun r w' => r = .returned (.tuple #[.int .i64 0, .int .i64 1]) ∧ w' = w := by
  refine (vc15 _ _ _ w (fun v w' => v = .tuple #[.int .i64 0, .int .i64 1] ∧ w' = w) ?_).mono ?_
  · exact h.go (Wif_yes (by simp) ⟨rfl, rfl⟩)
  · rintro e w' ⟨v, rfl, rfl, hw⟩
    exact ⟨rfl, hw⟩
theorem none_taken (h : NoB w x) (a : Int) : Calls Try.prog 30 #[.pointer x, .int .i64 a] w fun r w' => r = .returned (.tuple #[.int .i64 0, .bool false]) ∧ w' = w := by
  refine (vc30 _ _ w (fun v w' => v = .tuple #[.int .i64 0, .bool false] ∧ w' = w) ?_).mono ?_
  · exact h.go (Wif_yes (by simp) ⟨rfl, rfl⟩)
  · rintro e w' ⟨v, rfl, rfl, hw⟩
    exact ⟨rfl, hw⟩
theorem none_give (h : NoB w x) (a o : Int) : Calls Try.prog 16 #[.pointer x, .int .i64 a, .int .i64 o] w fun r w' => r = .returned (.int .i64 1) ∧ w' = w := by
  refine (vc16 _ _ _ w (fun v w' => v = .int .i64 1 ∧ w' = w) ?_).mono ?_
  · exact h.go (Wif_yes (by simp) ⟨rfl, rfl⟩)
  · rintro e w' ⟨v, rfl, rfl, hw⟩
    exact ⟨rfl, hw⟩
theorem none_frames (h : NoB w x) : Calls Try.prog 35 #[.pointer x] w fun r w' => r = .returned (.int .i64 0) ∧ w' = w := by
  refine (vc35 _ w (fun v w' => v = .int .i64 0 ∧ w' = w) ?_).mono ?_
  · exact h.go (Wif_yes (by simp) ⟨rfl, rfl⟩)
  · rintro e w' ⟨v, rfl, rfl, hw⟩
    exact ⟨rfl, hw⟩
theorem none_free (h : NoB w x) : Calls Try.prog 19 #[.pointer x] w fun r w' => r = .returned (.int .i64 0) ∧ w' = w := by
  refine (vc19 _ w (fun v w' => v = .int .i64 0 ∧ w' = w) ?_).mono ?_
  · exact h.go (Wif_yes (by simp) ⟨rfl, rfl⟩)
  · rintro e w' ⟨v, rfl, rfl, hw⟩
    exact ⟨rfl, hw⟩
theorem none_copy (h : NoB w x) : Calls Try.prog 18 #[.pointer x] w fun r w' => r = .returned (.pointer none) ∧ w' = w := by
  refine (vc18 _ w (fun v w' => v = .pointer none ∧ w' = w) ?_).mono ?_
  · exact h.go (Wif_yes (by simp) ⟨rfl, rfl⟩)
  · rintro e w' ⟨v, rfl, rfl, hw⟩
    exact ⟨rfl, hw⟩
theorem none_most (h : NoB w x) : Calls Try.prog 17 #[.pointer x] w fun r w' => r = .returned (.int .i64 (-1)) ∧ w' = w := by
  refine (vc17 _ w (fun v w' => v = .int .i64 (-1) ∧ w' = w) ?_).mono ?_
  · unfold vcP17
    refine ⟨fun _ k w' _ => w' = w, ⟨0, rfl⟩, ?_⟩
    rintro _ k _ _ rfl
    exact h.go (Wif_no (by simp) ⟨rfl, rfl⟩)
  · rintro e w' ⟨v, rfl, rfl, hw⟩
    exact ⟨rfl, hw⟩
/-- such a node's blocks: none -/
theorem none_gives {c : Nat} (h : NoB w x) (hc : rd w c 0 = some (.pointer x)) : GivesV Try.prog 54 [.pointer (some ⟨c, 0, none⟩)] [] (fun _ => False) w := by
  refine ⟨fun l J Jx W hk _ _ _ h0 => ?_⟩
  refine (vc54 l (some ⟨c, 0, none⟩) W (fun v w' => w' = W) ?_).mono ?_
  · unfold vcP54
    simp only [isP_some, Wif_true, pb_some, po_some]
    exact ⟨x, hk.rd_some hc id, (h.k hk).go (Wif_yes (by simp) trivial)⟩
  · rintro e w' ⟨v, rfl, rfl⟩
    exact ⟨⟨v, rfl⟩, .inl ⟨_, h0⟩⟩
end
theorem none_law (x0 x1 x2 : Int) (x3 : Bool) (W : World) : Calls Try.prog 10 #[.agg #[.int .i64 x0, .int .i64 x1, .int .i64 x2, .bool x3]] W fun r w' => r = .returned (.bool true) ∧ Kept none' W w' := by
  refine (vc10 x0 x1 x2 x3 W (fun v w' => v = .bool true ∧ Kept none' W w') ?_).mono ?_
  · unfold vcP10
    intro w1 e1 w2 e2 w3 e3 w4 e4
    have o1 := own_alloc (c := [.int .i64 x0, .int .i64 x1, .int .i64 x2, .bool x3]) e1
    have o2 := own_alloc (c := [.bool false]) e2
    have o3 := own_alloc (c := [Value.int .i64 0] ++ List.replicate 12 (Value.map none)) e3
    have o4 := own_alloc (c := [Value.pointer none, .pointer (some ⟨w2.heap.size, 0, none⟩)]) e4
    have k4 : Kept none' W w4 := ((((Kept.refl _ _).al e1).al e2).al e3).al e4
    have p4 := ((o1.al e2).al e3).al e4
    have r4 := (o2.al e3).al e4
    have z4 := o3.al e4
    have s1 : w1.heap.size = W.heap.size + 1 := by rw [e1]; simp only [World.alloc, Array.size_push]
    have s2 : w2.heap.size = W.heap.size + 2 := by rw [e2]; simp only [World.alloc, Array.size_push]; omega
    have s3 : w3.heap.size = W.heap.size + 3 := by rw [e3]; simp only [World.alloc, Array.size_push]; omega
    have s4 : w4.heap.size = W.heap.size + 4 := by rw [e4]; simp only [World.alloc, Array.size_push]; omega
    clear e1 e2 e3 e4
    generalize hb1 : W.heap.size = p at *
    generalize hb2 : w1.heap.size = r at *
    generalize hb3 : w2.heap.size = z at *
    generalize hb4 : w3.heap.size = la at *
    refine ⟨fun n ds w' N => ∃ q : Nat, n = q ∧ q ≤ 2 ∧ N = 2 - q ∧ Kept none' w4 w' ∧ DefsAt ds w' ∧ ∀ D ∈ ds, w4.heap.size ≤ D, ⟨2, 0, rfl, by omega, rfl, Kept.refl _ _, ⟨List.nodup_nil, fun D hD => by cases hD⟩, fun D hD => by cases hD⟩, ?_⟩
    rintro _ ds w5 _ ⟨q, rfl, hq, rfl, k5, hds, hdl⟩
    refine Wif_intro (fun hc => ?_) (fun hc => ?_)
    · simp only [decide_eq_true_eq] at hc
      have hx : ∃ x, rd w5 la (0 + Int.toNat (q : Int) * 1) = some (.pointer x) ∧ NoB w5 x := by
        have : q = 0 ∨ q = 1 := by omega
        rcases this with rfl | rfl
        · exact ⟨none, k5.rd_some (by rw [o4.rd]; rfl) id, .inl rfl⟩
        · exact ⟨some ⟨z, 0, none⟩, k5.rd_some (by rw [o4.rd]; rfl) id, .inr ⟨z, rfl, k5.rd_some (by rw [z4.rd]; rfl) id⟩⟩
      obtain ⟨x, hx1, hx2⟩ := hx
      have rp : ∀ {w'}, Kept none' w4 w' → rd w' p 1 = some (.int .i64 x1) ∧ rd w' p 2 = some (.int .i64 x2) ∧ rd w' p 3 = some (.bool x3) := fun k => ⟨k.rd_some (by rw [p4.rd]; rfl) id, k.rd_some (by rw [p4.rd]; rfl) id, k.rd_some (by rw [p4.rd]; rfl) id⟩
      refine Wif_yes (inB_of (by omega) (by omega)) ⟨x, hx1, x2, (rp k5).2.1, x3, (rp k5).2.2, (none_take hx2 x2 x3).mono ?_⟩
      rintro _ _ ⟨rfl, rfl⟩
      refine ⟨_, _, rfl, x1, (rp k5).1, (none_taken hx2 x1).mono ?_⟩
      rintro _ _ ⟨rfl, rfl⟩
      rename_i w5
      refine ⟨_, _, rfl, ?_⟩
      intro w7 e7 w8 e8
      have k7 : Kept none' w5 w7 := (Kept.refl _ _).al e7
      have c8 := own_alloc (c := [.pointer x]) e8
      have k8 : Kept none' w5 w8 := k7.al e8
      have hx8 := hx2.k k8
      have sz8 := k8.sz
      generalize hc0 : w7.heap.size = c0 at *
      refine ⟨[], fun _ => False, fun _ _ W' => Kept none' w8 W', fun _ _ => False, ⟨none_gives hx8 (by rw [c8.rd]; rfl), fun xs h => (by cases h), fun b h => h.elim⟩, fun w9 k _ => k, fun Y i W1 W2 k k' => own0 k k' fun b hb => by rcases hb with rfl | rfl <;> omega, fun _ _ _ h => h.elim, ?_, ?_, fun _ h => h.elim, trivial⟩
      · intro Y i W1 _ _ _ v hv
        simp at hv
      intro Y w9 k9 hd9
      have k59 := k8.tr k9
      have K9 := k5.tr k59
      have hx9 := hx8.k k9
      have hB : w8.heap.size ∉ ds := fun hm => by have := defs_lt hds hm; omega
      have hds9 : DefsAt (w8.heap.size :: ds) w9 := ⟨List.nodup_cons.2 ⟨hB, hds.nd⟩, fun D hD => by
        rcases List.mem_cons.1 hD with rfl | hD
        · exact hd9.at_
        · exact (hds.k k59 fun _ _ => id).all D hD⟩
      refine ⟨x1, fun _ => (rp K9).1, x2, fun _ => (rp K9).2.1, Wif_no rfl ((none_give hx9 x1 x2).mono ?_)⟩
      rintro _ _ ⟨rfl, rfl⟩
      refine ⟨_, rfl, Wif_no rfl ((none_frames hx9).mono ?_)⟩
      rintro _ _ ⟨rfl, rfl⟩
      refine ⟨_, rfl, (none_free hx9).mono ?_⟩
      rintro _ _ ⟨rfl, rfl⟩
      refine ⟨_, rfl, Wif_no rfl ((none_most hx9).mono ?_)⟩
      rintro _ _ ⟨rfl, rfl⟩
      refine ⟨_, rfl, Wif_no rfl ((none_copy hx9).mono ?_)⟩
      rintro _ _ ⟨rfl, rfl⟩
      exact ⟨_, rfl, Wif_no rfl ⟨2 - (q + 1), by omega, q + 1, by rw [wi (by omega)]; rfl, by omega, rfl, K9, hds9, fun D hD => by
        rcases List.mem_cons.1 hD with rfl | hD
        · have := k5.sz; omega
        · exact hdl D hD⟩⟩
    · refine (known_spec w5).mono ?_
      rintro _ w6 ⟨rfl, k6⟩
      have K6 := k5.tr k6
      have r6 := r4.k K6
      refine ⟨true, rfl, r6.wr (by simp), ?_⟩
      intro w7 e7
      have r7 := r6.s1 e7
      have k67 : Kept (· = r) w6 w7 := (Kept.refl _ _).s1 e7 (.inl rfl)
      have hr : r < w4.heap.size := r4.lt
      have d7 := (hds.k k6 fun _ _ => id).k k67 fun D hD e => by have := hdl D hD; omega
      refine ⟨d7, fun w8 k8 hs8 => ⟨true, ?_, rfl, ?_⟩⟩
      · rw [(r7.kx k8 fun h => by have := hdl r h; omega).rd]; rfl
      · exact own0 (own0 (k4.tr K6) k67 fun b e => by omega) k8 fun b hb => by have := hdl b hb; omega
  · rintro e w' ⟨v, rfl, rfl, hw⟩
    exact ⟨rfl, hw⟩
end Go.Proofs.Ytkmcmkimeibjdaa
namespace Go.Proofs.Ytkmcmkimeibjdaa
open Go Eng
set_option linter.unusedSimpArgs false
set_option linter.unusedVariables false
set_option maxRecDepth 100000
/-! ### the free blocks, by their places -/
def frB (l : List Bk) : List Bk := l.filter fun x => x.g == 0
def blkV (x : Bk) : Value := .agg #[.int .i64 (x.p : Int), .int .i64 (x.o : Int)]
theorem mem_frB {l : List Bk} {x : Bk} : x ∈ frB l ↔ x ∈ l ∧ x.g = 0 := by
  unfold frB
  rw [List.mem_filter]
  simp
/-- what order the free block at a place has -/
def ordAt (l : List Bk) (a : Nat) : Nat := ((l.find? fun x => x.g == 0 && x.p == a).map (·.o)).getD 0
theorem ordAt_of {l : List Bk} {n : Nat} (h : Tile 0 l n) {x : Bk} (hx : x ∈ l) (hg : x.g = 0) : ordAt l x.p = x.o := by
  unfold ordAt
  cases hf : l.find? fun y => y.g == 0 && y.p == x.p with
  | none =>
    have := List.find?_eq_none.1 hf x hx
    simp [hg] at this
  | some y =>
    have h1 := List.mem_of_find?_eq_some hf
    have h2 := List.find?_some hf
    simp only [Bool.and_eq_true, beq_iff_eq] at h2
    have : y = x := tile_start h h1 hx h2.2
    rw [this]; rfl
theorem frB_sorted {l : List Bk} {n : Nat} (h : Tile 0 l n) : ((frB l).map (·.p)).Pairwise (fun a b => a < b) := by
  rw [List.pairwise_map]
  refine ((tile_pw h).filter _).imp ?_
  intro x y hxy
  have := p2 x.o
  omega
theorem frB_pairs {l : List Bk} {n : Nat} (h : Tile 0 l n) : (frB l).map blkV = ((frB l).map (·.p)).map fun (a : Nat) => Value.agg #[.int .i64 (a : Int), .int .i64 (ordAt l a : Nat)] := by
  rw [List.map_map]
  apply List.map_congr_left
  intro x hx
  obtain ⟨h1, h2⟩ := mem_frB.1 hx
  simp only [Function.comp_apply, blkV, ordAt_of h h1 h2]
end Go.Proofs.Ytkmcmkimeibjdaa
namespace Go.Proofs.Ytkmcmkimeibjdaa
open Go Eng
set_option linter.unusedSimpArgs false
set_option linter.unusedVariables false
set_option maxRecDepth 100000
/-! ### Blocks: what its iterator tells -/
def rowCells (l : List Bk) (d : List Nat) : List Value := d.flatMap fun (a : Nat) => [.int .i64 (a : Int), .int .i64 (ordAt l a : Nat)]
theorem rowCells_app (l : List Bk) (d d' : List Nat) : rowCells l (d ++ d') = rowCells l d ++ rowCells l d' := by simp [rowCells]
theorem rowCells_len (l : List Bk) : ∀ d : List Nat, (rowCells l d).length = d.length * 2
  | [] => rfl
  | a :: d => by
    have := rowCells_len l d
    simp only [rowCells, List.flatMap_cons, List.length_append, List.length_cons, List.length_nil] at this ⊢
    omega
theorem rowCells_get (l : List Bk) : ∀ (d : List Nat) (i : Nat) (a : Nat), d[i]? = some a → (rowCells l d)[i * 2]? = some (.int .i64 (a : Int)) ∧ (rowCells l d)[i * 2 + 1]? = some (.int .i64 (ordAt l a : Nat))
  | [], i, a, h => by simp at h
  | x :: d, 0, a, h => by
    simp at h
    subst h
    exact ⟨rfl, rfl⟩
  | x :: d, i + 1, a, h => by
    have := rowCells_get l d i a (by simpa using h)
    have e : rowCells l (x :: d) = [.int .i64 (x : Int), .int .i64 (ordAt l x : Nat)] ++ rowCells l d := rfl
    rw [e]
    constructor
    · rw [List.getElem?_append_right (by simp; omega), show (i + 1) * 2 - [Value.int .i64 (x : Int), .int .i64 (ordAt l x : Nat)].length = i * 2 by simp; omega]
      exact this.1
    · rw [List.getElem?_append_right (by simp; omega), show (i + 1) * 2 + 1 - [Value.int .i64 (x : Int), .int .i64 (ordAt l x : Nat)].length = i * 2 + 1 by simp; omega]
      exact this.2
def frN (q : Nat) (l : List Bk) : List Nat := (l.filter fun x => x.g == 0 && x.o == q).map (·.p)
def plc (q : Nat) (l : List Bk) : List Nat := (l.filter fun x => x.g == 0 && decide (x.o < q)).map (·.p)
theorem fr_frN (q : Nat) (l : List Bk) : fr q l = (frN q l).map fun (a : Nat) => (a : Int) := by simp [fr, frN, Function.comp_def]
theorem mem_plc {q : Nat} {l : List Bk} {a : Nat} : a ∈ plc q l ↔ ∃ x ∈ l, x.g = 0 ∧ x.o < q ∧ x.p = a := by
  unfold plc
  simp only [List.mem_map, List.mem_filter, Bool.and_eq_true, beq_iff_eq, decide_eq_true_eq]
  constructor
  · rintro ⟨x, ⟨h1, h2, h3⟩, h4⟩; exact ⟨x, h1, h2, h3, h4⟩
  · rintro ⟨x, h1, h2, h3, h4⟩; exact ⟨x, ⟨h1, h2, h3⟩, h4⟩
theorem plc_len (q : Nat) (l : List Bk) : (plc q l).length ≤ l.length := by
  unfold plc; rw [List.length_map]; exact List.length_filter_le _ _
theorem plc_zero (l : List Bk) : plc 0 l = [] := by
  unfold plc
  rw [List.filter_eq_nil_iff.2 (by intro x _; simp)]; rfl
theorem plc_succ (q : Nat) : ∀ l : List Bk, (plc (q + 1) l).Perm (plc q l ++ frN q l)
  | [] => List.Perm.refl _
  | x :: l => by
    have ih := plc_succ q l
    unfold plc frN at *
    by_cases hg : x.g = 0
    · rcases Nat.lt_trichotomy x.o q with h | h | h
      · rw [List.filter_cons_of_pos (by simp [hg]; omega), List.filter_cons_of_pos (by simp [hg]; omega), List.filter_cons_of_neg (by simp [hg]; omega)]
        simp only [List.map_cons, List.cons_append]
        exact ih.cons _
      · rw [List.filter_cons_of_pos (by simp [hg]; omega), List.filter_cons_of_neg (by simp [hg]; omega), List.filter_cons_of_pos (by simp [hg]; omega)]
        simp only [List.map_cons]
        exact (ih.cons _).trans List.perm_middle.symm
      · rw [List.filter_cons_of_neg (by simp [hg]; omega), List.filter_cons_of_neg (by simp [hg]; omega), List.filter_cons_of_neg (by simp [hg]; omega)]
        exact ih
    · rw [List.filter_cons_of_neg (by simp [hg]), List.filter_cons_of_neg (by simp [hg]), List.filter_cons_of_neg (by simp [hg])]
      exact ih
theorem plc_all {l : List Bk} (h : ∀ x ∈ l, x.o ≤ 10) : plc 11 l = (frB l).map (·.p) := by
  unfold plc frB
  congr 1
  apply List.filter_congr
  intro x hx
  have := h x hx
  simp; omega
theorem info_blk : (Try.prog.info? 58).map (fun i => (i.zero, i.size, i.bytes)) = some (some (.agg #[.int .i64 0, .int .i64 0]), 2, 16) := by kernel_rfl
theorem app_blk {w : World} {base : Nat} {v : Value} {n : Nat} {xs : List Value} (ho : w.ownsRow base 58 2 v n xs) {X m c off : Nat} {ys news : List Value} (hx : own w X ys) (hys : (ys.drop off).take (m * 2) = news) (hl : news.length = m * 2)
    (h1 : ∀ u ∈ news, u.oneCell' = true) (h63 : n + m ≤ 1000000) (hbase : base ≤ w.heap.size) :
    ∃ a l c' w', appIs Try.prog #[56, 56] 56 v (.slice (some ⟨X, off, none⟩) m c) (.slice a l c') w w' ∧ l = n + m ∧ w'.ownsRow base 58 2 (.slice a l c') (n + m) (xs ++ news) ∧ Kept (fun b => v.ownBlock = some b) w w' := by
  have h := info_blk
  cases hi : Try.prog.info? 58 with
  | none => rw [hi] at h; cases h
  | some i =>
    rw [hi] at h
    simp at h
    exact app_own (P := Try.prog) (t := 56) (ty := 56) (e := 58) (i := i) (z := .agg #[.int .i64 0, .int .i64 0]) (size := 2) Try.underlying56 hi h.1 h.2.1 rfl (by decide) ho hx hys hl h1 h63 (by omega) hbase
/-- what is asked of the sort -/
def SortSays (l : List Bk) : Prop := ∀ (w : World) (a : Option Addr) (n c base : Nat) (d : List Nat), w.ownsRow base 58 2 (.slice a n c) n (rowCells l d) → (∀ x ∈ d, x < 128) → d.Nodup → d.length ≤ 128 →
  Calls Try.prog 55 #[.slice a n c, .func (.func 56) #[] #[]] w fun e w' => e = .returned (.tuple #[]) ∧ w'.ownsRow base 58 2 (.slice a n c) n (rowCells l (d.mergeSort fun x y => decide (x ≤ y))) ∧ Kept (fun b => (Value.slice a n c).ownBlock = some b) w w'
theorem sorted_perm_eq {d e : List Nat} (hp : d.Perm e) (he : e.Pairwise (fun a b => a < b)) : (d.mergeSort fun x y => decide (x ≤ y)) = e := by
  have h1 : (d.mergeSort fun x y => decide (x ≤ y)).Pairwise (fun x y => x ≤ y) := by
    have := List.pairwise_mergeSort (le := fun (x y : Nat) => decide (x ≤ y)) (by intro a b c h1 h2; simp at *; omega) (by intro a b; simp; omega) d
    exact this.imp fun h => by simpa using h
  have h2 : (d.mergeSort fun x y => decide (x ≤ y)).Perm e := (List.mergeSort_perm d _).trans hp
  exact h2.eq_of_pairwise (le := fun x y => x ≤ y) (fun a b _ _ h1 h2 => by omega) h1 (he.imp fun h => by omega)
end Go.Proofs.Ytkmcmkimeibjdaa
