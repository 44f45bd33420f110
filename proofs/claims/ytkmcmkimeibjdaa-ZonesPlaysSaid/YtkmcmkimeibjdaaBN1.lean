/-
  A part of a proof that a law of this seat returns true at every input. Conditions: those in each theorem.
-/
import Derived.Test.YtkmcmkimeibjdaaBL9
import Derived.Test.YtkmcmkimeibjdaaEngQ
namespace Go.Proofs.Ytkmcmkimeibjdaa
open Go Eng
set_option linter.unusedSimpArgs false
set_option linter.unusedVariables false
set_option maxRecDepth 100000
/-! ### a node that is not there, or was not made -/
/-- no node: none, or one that was not made -/
def NoB (w : World) (x : Option Addr) : Prop := x = none ∨ ∃ b, x = some ⟨b, 0, none⟩ ∧ rd w b 12 = some (.map none)
theorem NoB.k {w w' : World} {x : Option Addr} (h : NoB w x) (k : Kept none' w w') : NoB w' x := by
  rcases h with rfl | ⟨b, rfl, h⟩
  · exact .inl rfl
  · exact .inr ⟨b, rfl, k.rd_some h id⟩
section
variable {w : World} {x : Option Addr}
theorem NoB.go (h : NoB w x) {f : Option Nat → Prop} (hf : f none) : gIf (isP x) ((!Option.isNone x) = true) (∃ (y : Option Nat), ((!Option.isNone x) = true → rd w (pb x) (po x + 12) = some (.map y)) ∧ f y) := by
  refine gIf_intro (fun hc => ?_) ⟨none, fun hc => ?_, hf⟩
  · rcases h with rfl | ⟨b, rfl, h⟩
    · simp at hc
    · rfl
  · rcases h with rfl | ⟨b, rfl, h⟩
    · simp at hc
    · simpa [po, pb] using h
theorem none_take (h : NoB w x) (o : Int) (hi : Bool) : Calls Try.prog 15 #[.pointer x, .int .i64 o, .bool hi] w fun r w' => r = .returned (.tuple #[.int .i64 0, .int .i64 1]) ∧ w' = w := by
  refine (vc15 _ _ _ w (fun v w' => v = .tuple #[.int .i64 0, .int .i64 1] ∧ w' = w) ?_).mono ?_
  · exact h.go (Wif_yes (by simp) ⟨rfl, rfl⟩)
  · rintro e w' ⟨v, rfl, rfl, hw⟩
    exact ⟨rfl, hw⟩
theorem none_taken (h : NoB w x) (a : Int) : Calls Try.prog 30 #[.pointer x, .int .i64 a] w fun r w' => r = .returned (.tuple #[.int .i64 0, .bool false]) ∧ w' = w := by
  refine (vc30 _ _ w (fun v w' => v = .tuple #[.int .i64 0, .bool false] ∧ w' = w) ?_).mono ?_
  · exact h.go (Wif_yes (by simp) ⟨rfl, rfl⟩)
  · rintro e w' ⟨v, rfl, rfl, hw⟩
    exact ⟨rfl, hw⟩
theorem none_give (h : NoB w x) (a o : Int) : Calls Try.prog 16 #[.pointer x, .int .i64 a, .int .i64 o] w fun r w' => r = .returned (.int .i64 1) ∧ w' = w := by
  refine (vc16 _ _ _ w (fun v w' => v = .int .i64 1 ∧ w' = w) ?_).mono ?_
  · exact h.go (Wif_yes (by simp) ⟨rfl, rfl⟩)
  · rintro e w' ⟨v, rfl, rfl, hw⟩
    exact ⟨rfl, hw⟩
theorem none_frames (h : NoB w x) : Calls Try.prog 35 #[.pointer x] w fun r w' => r = .returned (.int .i64 0) ∧ w' = w := by
  refine (vc35 _ w (fun v w' => v = .int .i64 0 ∧ w' = w) ?_).mono ?_
  · exact h.go (Wif_yes (by simp) ⟨rfl, rfl⟩)
  · rintro e w' ⟨v, rfl, rfl, hw⟩
    exact ⟨rfl, hw⟩
theorem none_free (h : NoB w x) : Calls Try.prog 19 #[.pointer x] w fun r w' => r = .returned (.int .i64 0) ∧ w' = w := by
  refine (vc19 _ w (fun v w' => v = .int .i64 0 ∧ w' = w) ?_).mono ?_
  · exact h.go (Wif_yes (by simp) ⟨rfl, rfl⟩)
  · rintro e w' ⟨v, rfl, rfl, hw⟩
    exact ⟨rfl, hw⟩
theorem none_copy (h : NoB w x) : Calls Try.prog 18 #[.pointer x] w fun r w' => r = .returned (.pointer none) ∧ w' = w := by
  refine (vc18 _ w (fun v w' => v = .pointer none ∧ w' = w) ?_).mono ?_
  · exact h.go (Wif_yes (by simp) ⟨rfl, rfl⟩)
  · rintro e w' ⟨v, rfl, rfl, hw⟩
    exact ⟨rfl, hw⟩
theorem none_most (h : NoB w x) : Calls Try.prog 17 #[.pointer x] w fun r w' => r = .returned (.int .i64 (-1)) ∧ w' = w := by
  refine (vc17 _ w (fun v w' => v = .int .i64 (-1) ∧ w' = w) ?_).mono ?_
  · unfold vcP17
    refine ⟨fun _ k w' _ => w' = w, ⟨0, rfl⟩, ?_⟩
    rintro _ k _ _ rfl
    exact h.go (Wif_no (by simp) ⟨rfl, rfl⟩)
  · rintro e w' ⟨v, rfl, rfl, hw⟩
    exact ⟨rfl, hw⟩
/-- such a node's blocks: none -/
theorem none_gives {c : Nat} (h : NoB w x) (hc : rd w c 0 = some (.pointer x)) : GivesV Try.prog 54 [.pointer (some ⟨c, 0, none⟩)] [] (fun _ => False) w := by
  refine ⟨fun l J Jx W hk _ _ _ h0 => ?_⟩
  refine (vc54 l (some ⟨c, 0, none⟩) W (fun v w' => w' = W) ?_).mono ?_
  · unfold vcP54
    simp only [isP_some, Wif_true, pb_some, po_some]
    exact ⟨x, hk.rd_some hc id, (h.k hk).go (Wif_yes (by simp) trivial)⟩
  · rintro e w' ⟨v, rfl, rfl⟩
    exact ⟨⟨v, rfl⟩, .inl ⟨_, h0⟩⟩
end
theorem none_law (x0 x1 x2 : Int) (x3 : Bool) (W : World) : Calls Try.prog 10 #[.agg #[.int .i64 x0, .int .i64 x1, .int .i64 x2, .bool x3]] W fun r w' => r = .returned (.bool true) ∧ Kept none' W w' := by
  refine (vc10 x0 x1 x2 x3 W (fun v w' => v = .bool true ∧ Kept none' W w') ?_).mono ?_
  · unfold vcP10
    intro w1 e1 w2 e2 w3 e3 w4 e4
    have o1 := own_alloc (c := [.int .i64 x0, .int .i64 x1, .int .i64 x2, .bool x3]) e1
    have o2 := own_alloc (c := [.bool false]) e2
    have o3 := own_alloc (c := [Value.int .i64 0] ++ List.replicate 12 (Value.map none)) e3
    have o4 := own_alloc (c := [Value.pointer none, .pointer (some ⟨w2.heap.size, 0, none⟩)]) e4
    have k4 : Kept none' W w4 := ((((Kept.refl _ _).al e1).al e2).al e3).al e4
    have p4 := ((o1.al e2).al e3).al e4
    have r4 := (o2.al e3).al e4
    have z4 := o3.al e4
    have s1 : w1.heap.size = W.heap.size + 1 := by rw [e1]; simp only [World.alloc, Array.size_push]
    have s2 : w2.heap.size = W.heap.size + 2 := by rw [e2]; simp only [World.alloc, Array.size_push]; omega
    have s3 : w3.heap.size = W.heap.size + 3 := by rw [e3]; simp only [World.alloc, Array.size_push]; omega
    have s4 : w4.heap.size = W.heap.size + 4 := by rw [e4]; simp only [World.alloc, Array.size_push]; omega
    clear e1 e2 e3 e4
    generalize hb1 : W.heap.size = p at *
    generalize hb2 : w1.heap.size = r at *
    generalize hb3 : w2.heap.size = z at *
    generalize hb4 : w3.heap.size = la at *
    refine ⟨fun n ds w' N => ∃ q : Nat, n = q ∧ q ≤ 2 ∧ N = 2 - q ∧ Kept none' w4 w' ∧ DefsAt ds w' ∧ ∀ D ∈ ds, w4.heap.size ≤ D, ⟨2, 0, rfl, by omega, rfl, Kept.refl _ _, ⟨List.nodup_nil, fun D hD => by cases hD⟩, fun D hD => by cases hD⟩, ?_⟩
    rintro _ ds w5 _ ⟨q, rfl, hq, rfl, k5, hds, hdl⟩
    refine Wif_intro (fun hc => ?_) (fun hc => ?_)
    · simp only [decide_eq_true_eq] at hc
      have hx : ∃ x, rd w5 la (0 + Int.toNat (q : Int) * 1) = some (.pointer x) ∧ NoB w5 x := by
        have : q = 0 ∨ q = 1 := by omega
        rcases this with rfl | rfl
        · exact ⟨none, k5.rd_some (by rw [o4.rd]; rfl) id, .inl rfl⟩
        · exact ⟨some ⟨z, 0, none⟩, k5.rd_some (by rw [o4.rd]; rfl) id, .inr ⟨z, rfl, k5.rd_some (by rw [z4.rd]; rfl) id⟩⟩
      obtain ⟨x, hx1, hx2⟩ := hx
      have rp : ∀ {w'}, Kept none' w4 w' → rd w' p 1 = some (.int .i64 x1) ∧ rd w' p 2 = some (.int .i64 x2) ∧ rd w' p 3 = some (.bool x3) := fun k => ⟨k.rd_some (by rw [p4.rd]; rfl) id, k.rd_some (by rw [p4.rd]; rfl) id, k.rd_some (by rw [p4.rd]; rfl) id⟩
      refine Wif_yes (inB_of (by omega) (by omega)) ⟨x, hx1, x2, (rp k5).2.1, x3, (rp k5).2.2, (none_take hx2 x2 x3).mono ?_⟩
      rintro _ _ ⟨rfl, rfl⟩
      refine ⟨_, _, rfl, x1, (rp k5).1, (none_taken hx2 x1).mono ?_⟩
      rintro _ _ ⟨rfl, rfl⟩
      rename_i w5
      refine ⟨_, _, rfl, ?_⟩
      intro w7 e7 w8 e8
      have k7 : Kept none' w5 w7 := (Kept.refl _ _).al e7
      have c8 := own_alloc (c := [.pointer x]) e8
      have k8 : Kept none' w5 w8 := k7.al e8
      have hx8 := hx2.k k8
      have sz8 := k8.sz
      generalize hc0 : w7.heap.size = c0 at *
      refine ⟨[], fun _ => False, fun _ _ W' => Kept none' w8 W', fun _ _ _ => False, ⟨none_gives hx8 (by rw [c8.rd]; rfl), fun xs h => (by cases h), fun b h => h.elim⟩, fun w9 k _ => k, fun Y i W1 W2 k hY k' => own0 k k' fun b hb => (by rcases hb with rfl | rfl | hb; omega; omega; have := hY b hb; omega), fun _ _ _ _ h => h.elim, ?_, ?_, fun _ _ h => h.elim, trivial⟩
      · intro Y i W1 _ _ _ v hv
        simp at hv
      intro Y w9 k9 hd9
      have k59 := k8.tr k9
      have K9 := k5.tr k59
      have hx9 := hx8.k k9
      have hB : w8.heap.size ∉ ds := fun hm => by have := defs_lt hds hm; omega
      have hds9 : DefsAt (w8.heap.size :: ds) w9 := ⟨List.nodup_cons.2 ⟨hB, hds.nd⟩, fun D hD => by
        rcases List.mem_cons.1 hD with rfl | hD
        · exact hd9.at_
        · exact (hds.k k59 fun _ _ => id).all D hD⟩
      refine ⟨x1, fun _ => (rp K9).1, x2, fun _ => (rp K9).2.1, Wif_no rfl ((none_give hx9 x1 x2).mono ?_)⟩
      rintro _ _ ⟨rfl, rfl⟩
      refine ⟨_, rfl, Wif_no rfl ((none_frames hx9).mono ?_)⟩
      rintro _ _ ⟨rfl, rfl⟩
      refine ⟨_, rfl, (none_free hx9).mono ?_⟩
      rintro _ _ ⟨rfl, rfl⟩
      refine ⟨_, rfl, Wif_no rfl ((none_most hx9).mono ?_)⟩
      rintro _ _ ⟨rfl, rfl⟩
      refine ⟨_, rfl, Wif_no rfl ((none_copy hx9).mono ?_)⟩
      rintro _ _ ⟨rfl, rfl⟩
      exact ⟨_, rfl, Wif_no rfl ⟨2 - (q + 1), by omega, q + 1, by rw [wi (by omega)]; rfl, by omega, rfl, K9, hds9, fun D hD => by
        rcases List.mem_cons.1 hD with rfl | hD
        · have := k5.sz; omega
        · exact hdl D hD⟩⟩
    · refine (known_spec w5).mono ?_
      rintro _ w6 ⟨rfl, k6⟩
      have K6 := k5.tr k6
      have r6 := r4.k K6
      refine ⟨true, rfl, r6.wr (by simp), ?_⟩
      intro w7 e7
      have r7 := r6.s1 e7
      have k67 : Kept (· = r) w6 w7 := (Kept.refl _ _).s1 e7 (.inl rfl)
      have hr : r < w4.heap.size := r4.lt
      have d7 := (hds.k k6 fun _ _ => id).k k67 fun D hD e => by have := hdl D hD; omega
      refine ⟨d7, fun w8 k8 hs8 => ⟨true, ?_, rfl, ?_⟩⟩
      · rw [(r7.kx k8 fun h => by have := hdl r h; omega).rd]; rfl
      · exact own0 (own0 (k4.tr K6) k67 fun b e => by omega) k8 fun b hb => by have := hdl b hb; omega
  · rintro e w' ⟨v, rfl, rfl, hw⟩
    exact ⟨rfl, hw⟩
end Go.Proofs.Ytkmcmkimeibjdaa
namespace Go.Proofs.Ytkmcmkimeibjdaa
open Go Eng
set_option linter.unusedSimpArgs false
set_option linter.unusedVariables false
set_option maxRecDepth 100000
/-! ### the free blocks, by their places -/
def frB (l : List Bk) : List Bk := l.filter fun x => x.g == 0
def blkV (x : Bk) : Value := .agg #[.int .i64 (x.p : Int), .int .i64 (x.o : Int)]
theorem mem_frB {l : List Bk} {x : Bk} : x ∈ frB l ↔ x ∈ l ∧ x.g = 0 := by
  unfold frB
  rw [List.mem_filter]
  simp
/-- what order the free block at a place has -/
def ordAt (l : List Bk) (a : Nat) : Nat := ((l.find? fun x => x.g == 0 && x.p == a).map (·.o)).getD 0
theorem ordAt_of {l : List Bk} {n : Nat} (h : Tile 0 l n) {x : Bk} (hx : x ∈ l) (hg : x.g = 0) : ordAt l x.p = x.o := by
  unfold ordAt
  cases hf : l.find? fun y => y.g == 0 && y.p == x.p with
  | none =>
    have := List.find?_eq_none.1 hf x hx
    simp [hg] at this
  | some y =>
    have h1 := List.mem_of_find?_eq_some hf
    have h2 := List.find?_some hf
    simp only [Bool.and_eq_true, beq_iff_eq] at h2
    have : y = x := tile_start h h1 hx h2.2
    rw [this]; rfl
theorem frB_sorted {l : List Bk} {n : Nat} (h : Tile 0 l n) : ((frB l).map (·.p)).Pairwise (fun a b => a < b) := by
  rw [List.pairwise_map]
  refine ((tile_pw h).filter _).imp ?_
  intro x y hxy
  have := p2 x.o
  omega
theorem frB_pairs {l : List Bk} {n : Nat} (h : Tile 0 l n) : (frB l).map blkV = ((frB l).map (·.p)).map fun (a : Nat) => Value.agg #[.int .i64 (a : Int), .int .i64 (ordAt l a : Nat)] := by
  rw [List.map_map]
  apply List.map_congr_left
  intro x hx
  obtain ⟨h1, h2⟩ := mem_frB.1 hx
  simp only [Function.comp_apply, blkV, ordAt_of h h1 h2]
end Go.Proofs.Ytkmcmkimeibjdaa
namespace Go.Proofs.Ytkmcmkimeibjdaa
open Go Eng
set_option linter.unusedSimpArgs false
set_option linter.unusedVariables false
set_option maxRecDepth 100000
/-! ### Blocks: what its iterator tells -/
def rowCells (l : List Bk) (d : List Nat) : List Value := d.flatMap fun (a : Nat) => [.int .i64 (a : Int), .int .i64 (ordAt l a : Nat)]
theorem rowCells_app (l : List Bk) (d d' : List Nat) : rowCells l (d ++ d') = rowCells l d ++ rowCells l d' := by simp [rowCells]
theorem rowCells_len (l : List Bk) : ∀ d : List Nat, (rowCells l d).length = d.length * 2
  | [] => rfl
  | a :: d => by
    have := rowCells_len l d
    simp only [rowCells, List.flatMap_cons, List.length_append, List.length_cons, List.length_nil] at this ⊢
    omega
theorem rowCells_get (l : List Bk) : ∀ (d : List Nat) (i : Nat) (a : Nat), d[i]? = some a → (rowCells l d)[i * 2]? = some (.int .i64 (a : Int)) ∧ (rowCells l d)[i * 2 + 1]? = some (.int .i64 (ordAt l a : Nat))
  | [], i, a, h => by simp at h
  | x :: d, 0, a, h => by
    simp at h
    subst h
    exact ⟨rfl, rfl⟩
  | x :: d, i + 1, a, h => by
    have := rowCells_get l d i a (by simpa using h)
    have e : rowCells l (x :: d) = [.int .i64 (x : Int), .int .i64 (ordAt l x : Nat)] ++ rowCells l d := rfl
    rw [e]
    constructor
    · rw [List.getElem?_append_right (by simp; omega), show (i + 1) * 2 - [Value.int .i64 (x : Int), .int .i64 (ordAt l x : Nat)].length = i * 2 by simp; omega]
      exact this.1
    · rw [List.getElem?_append_right (by simp; omega), show (i + 1) * 2 + 1 - [Value.int .i64 (x : Int), .int .i64 (ordAt l x : Nat)].length = i * 2 + 1 by simp; omega]
      exact this.2
def frN (q : Nat) (l : List Bk) : List Nat := (l.filter fun x => x.g == 0 && x.o == q).map (·.p)
def plc (q : Nat) (l : List Bk) : List Nat := (l.filter fun x => x.g == 0 && decide (x.o < q)).map (·.p)
theorem fr_frN (q : Nat) (l : List Bk) : fr q l = (frN q l).map fun (a : Nat) => (a : Int) := by simp [fr, frN, Function.comp_def]
theorem mem_plc {q : Nat} {l : List Bk} {a : Nat} : a ∈ plc q l ↔ ∃ x ∈ l, x.g = 0 ∧ x.o < q ∧ x.p = a := by
  unfold plc
  simp only [List.mem_map, List.mem_filter, Bool.and_eq_true, beq_iff_eq, decide_eq_true_eq]
  constructor
  · rintro ⟨x, ⟨h1, h2, h3⟩, h4⟩; exact ⟨x, h1, h2, h3, h4⟩
  · rintro ⟨x, h1, h2, h3, h4⟩; exact ⟨x, ⟨h1, h2, h3⟩, h4⟩
theorem plc_len (q : Nat) (l : List Bk) : (plc q l).length ≤ l.length := by
  unfold plc; rw [List.length_map]; exact List.length_filter_le _ _
theorem plc_zero (l : List Bk) : plc 0 l = [] := by
  unfold plc
  rw [List.filter_eq_nil_iff.2 (by intro x _; simp)]; rfl
theorem plc_succ (q : Nat) : ∀ l : List Bk, (plc (q + 1) l).Perm (plc q l ++ frN q l)
  | [] => List.Perm.refl _
  | x :: l => by
    have ih := plc_succ q l
    unfold plc frN at *
    by_cases hg : x.g = 0
    · rcases Nat.lt_trichotomy x.o q with h | h | h
      · rw [List.filter_cons_of_pos (by simp [hg]; omega), List.filter_cons_of_pos (by simp [hg]; omega), List.filter_cons_of_neg (by simp [hg]; omega)]
        simp only [List.map_cons, List.cons_append]
        exact ih.cons _
      · rw [List.filter_cons_of_pos (by simp [hg]; omega), List.filter_cons_of_neg (by simp [hg]; omega), List.filter_cons_of_pos (by simp [hg]; omega)]
        simp only [List.map_cons]
        exact (ih.cons _).trans List.perm_middle.symm
      · rw [List.filter_cons_of_neg (by simp [hg]; omega), List.filter_cons_of_neg (by simp [hg]; omega), List.filter_cons_of_neg (by simp [hg]; omega)]
        exact ih
    · rw [List.filter_cons_of_neg (by simp [hg]), List.filter_cons_of_neg (by simp [hg]), List.filter_cons_of_neg (by simp [hg])]
      exact ih
theorem plc_all {l : List Bk} (h : ∀ x ∈ l, x.o ≤ 10) : plc 11 l = (frB l).map (·.p) := by
  unfold plc frB
  congr 1
  apply List.filter_congr
  intro x hx
  have := h x hx
  simp; omega
theorem info_blk : (Try.prog.info? 58).map (fun i => (i.zero, i.size, i.bytes)) = some (some (.agg #[.int .i64 0, .int .i64 0]), 2, 16) := by kernel_rfl
theorem app_blk {w : World} {base : Nat} {v : Value} {n : Nat} {xs : List Value} (ho : w.ownsRow base 58 2 v n xs) {X m c off : Nat} {ys news : List Value} (hx : own w X ys) (hys : (ys.drop off).take (m * 2) = news) (hl : news.length = m * 2)
    (h1 : ∀ u ∈ news, u.oneCell' = true) (h63 : n + m ≤ 1000000) (hbase : base ≤ w.heap.size) :
    ∃ a l c' w', appIs Try.prog #[56, 56] 56 v (.slice (some ⟨X, off, none⟩) m c) (.slice a l c') w w' ∧ l = n + m ∧ w'.ownsRow base 58 2 (.slice a l c') (n + m) (xs ++ news) ∧ Kept (fun b => v.ownBlock = some b) w w' := by
  have h := info_blk
  cases hi : Try.prog.info? 58 with
  | none => rw [hi] at h; cases h
  | some i =>
    rw [hi] at h
    simp at h
    exact app_own (P := Try.prog) (t := 56) (ty := 56) (e := 58) (i := i) (z := .agg #[.int .i64 0, .int .i64 0]) (size := 2) Try.underlying56 hi h.1 h.2.1 rfl (by decide) ho hx hys hl h1 h63 (by omega) hbase
/-- what is asked of the sort -/
def SortSays (l : List Bk) : Prop := ∀ (w : World) (a : Option Addr) (n c base : Nat) (d : List Nat), w.ownsRow base 58 2 (.slice a n c) n (rowCells l d) → (∀ x ∈ d, x < 128) → d.Nodup → d.length ≤ 128 →
  Calls Try.prog 55 #[.slice a n c, .func (.func 56) #[] #[]] w fun e w' => e = .returned (.tuple #[]) ∧ w'.ownsRow base 58 2 (.slice a n c) n (rowCells l (d.mergeSort fun x y => decide (x ≤ y))) ∧ Kept (fun b => (Value.slice a n c).ownBlock = some b) w w'
theorem sorted_perm_eq {d e : List Nat} (hp : d.Perm e) (he : e.Pairwise (fun a b => a < b)) : (d.mergeSort fun x y => decide (x ≤ y)) = e := by
  have h1 : (d.mergeSort fun x y => decide (x ≤ y)).Pairwise (fun x y => x ≤ y) := by
    have := List.pairwise_mergeSort (le := fun (x y : Nat) => decide (x ≤ y)) (by intro a b c h1 h2; simp at *; omega) (by intro a b; simp; omega) d
    exact this.imp fun h => by simpa using h
  have h2 : (d.mergeSort fun x y => decide (x ≤ y)).Perm e := (List.mergeSort_perm d _).trans hp
  exact h2.eq_of_pairwise (le := fun x y => x ≤ y) (fun a b _ _ h1 h2 => by omega) h1 (he.imp fun h => by omega)
end Go.Proofs.Ytkmcmkimeibjdaa
namespace Go.Proofs.Ytkmcmkimeibjdaa
open Go Eng
set_option linter.unusedSimpArgs false
set_option linter.unusedVariables false
set_option maxRecDepth 100000
/-- the block that a row owns holds cells of its type -/
theorem _root_.Go.Eng.Kept.toY {Y : Nat → Prop} {w w' : World} (k : Kept none' w w') : Kept Y w w' := k.mono fun _ _ h => h.elim
theorem rowTy {w : World} {base e size n g : Nat} {v : Value} {xs : List Value} (h : w.ownsRow base e size v n xs) (hg : v.ownBlock = some g) : base ≤ g ∧ ∃ cur, w.heap[g]? = some (.cells cur e (0, 0)) := by
  rcases h.2 with ⟨rfl, _⟩ | ⟨g', cap, cur, rfl, hb, hgg, _⟩
  · simp [Value.ownBlock] at hg
  · simp [Value.ownBlock] at hg
    subst hg
    exact ⟨hb, cur, hgg⟩
section
variable {w w' : World} {b c t : Nat} {m : Nat → Nat} {n : Nat} {L : List Bk}
theorem row2_rd {w : World} {base e l c n : Nat} {a : Option Addr} {xs : List Value} (h : w.ownsRow base e 2 (.slice a l c) n xs) {i : Nat} (hi : i < n) :
    ∃ g, a = some ⟨g, 0, none⟩ ∧ l = n ∧ base ≤ g ∧ g < w.heap.size ∧ rd w g (i * 2) = xs[i * 2]? ∧ rd w g (i * 2 + 1) = xs[i * 2 + 1]? := by
  obtain ⟨hl, hh⟩ := ownsRow_own h
  rcases hh with ⟨_, h0, _⟩ | ⟨g, cs, rfl, hg, og, htk, _, _⟩
  · omega
  · refine ⟨g, rfl, hl, hg, og.lt, ?_, ?_⟩
    · rw [og.rd, ← htk, List.getElem?_take, if_pos (by omega)]
    · rw [og.rd, ← htk, List.getElem?_take, if_pos (by omega)]
theorem KeptY.own {Y : Nat → Prop} {g : Nat} {cs : List Value} (k : KeptY Y w w') (hy : Y g) (h : own w g cs) : own w' g cs := by
  obtain ⟨ty, h⟩ := h
  exact ⟨ty, (k.blk g hy).trans h⟩
theorem blocks_gives (hs : SortSays L) (h : BAt w b m t (stOf n L)) (hi : Inv n L) (hc : rd w c 0 = some (ptr b)) :
    GivesV Try.prog 54 [.pointer (some ⟨c, 0, none⟩)] ((frB L).map fun x => [blkV x]) (fun _ => False) w := by
  refine ⟨fun l J Jx W hk hab habx hY h0 => ?_⟩
  refine (vc54 l (some ⟨c, 0, none⟩) W (fun v w' => (∃ Y, J Y ((frB L).map fun x => [blkV x]).length w') ∨ ∃ Y, Jx Y w') ?_).mono ?_
  rotate_left
  · rintro e w' ⟨v, rfl, hw⟩
    exact ⟨⟨v, rfl⟩, hw⟩
  have hW := h.k hk
  have hn128 := hi.n1.2
  have h10 : ∀ x ∈ L, x.o ≤ 10 := fun x hx => (tile_mem hi.tl hx).2.2.2
  have hLl := tile_le hi.tl
  have hpl : ∀ q, (plc q L).length ≤ 128 := fun q => by have := plc_len q L; omega
  unfold vcP54
  simp only [isP_some, Wif_true, gIf_true, pb_some, po_some, Nat.zero_add]
  refine ⟨_, hk.rd_some hc id, ?_⟩
  simp only [isP_some, Wif_true, gIf_true, pb_some, po_some, Nat.zero_add]
  refine ⟨_, fun _ => hW.r12, Wif_no rfl ⟨_, hk.rd_some hc id, ?_⟩⟩
  simp only [isP_some, Wif_true, gIf_true, pb_some, po_some, Nat.zero_add]
  refine ⟨some (m 0), some (m 1), some (m 2), some (m 3), some (m 4), some (m 5), some (m 6), some (m 7), some (m 8), some (m 9), some (m 10), hW.so.rdAll 1 (fun j hj => ?_), ?_⟩
  · simp at hj
    have : j = 0 ∨ j = 1 ∨ j = 2 ∨ j = 3 ∨ j = 4 ∨ j = 5 ∨ j = 6 ∨ j = 7 ∨ j = 8 ∨ j = 9 ∨ j = 10 := by omega
    rcases this with rfl | rfl | rfl | rfl | rfl | rfl | rfl | rfl | rfl | rfl | rfl <;> rfl
  have hbase0 : ∀ o, o < 11 → m o < W.heap.size := fun o ho => (hW.mf o ho).lt
  refine ⟨fun a l' c' k w' N => ∃ (q : Nat) (d : List Nat), k = q ∧ q ≤ 11 ∧ N = 11 - q ∧ Kept none' W w' ∧ l' = d.length ∧ w'.ownsRow W.heap.size 58 2 (.slice a l' c') d.length (rowCells L d) ∧ d.Perm (plc q L),
    ⟨11, 0, [], rfl, by omega, rfl, Kept.refl _ _, rfl, World.ownsRow_nil _ _ _ _, by rw [plc_zero]⟩, ?_⟩
  rintro a _ c' _ w1 _ ⟨q, d, rfl, hq, rfl, k1, rfl, row1, hp1⟩
  have hdl : d.length ≤ 128 := by rw [hp1.length_eq]; exact hpl q
  refine Wif_intro (fun hc2 => ?_) (fun hc2 => ?_)
  · simp only [decide_eq_true_eq] at hc2
    have hq11 : q < 11 := by omega
    refine Wif_yes (inB_of (by omega) (by omega)) ⟨some (m q), ?_, ?_⟩
    · rw [Int.toNat_natCast, Nat.mul_one]
      match q, hq11 with
      | 0, _ | 1, _ | 2, _ | 3, _ | 4, _ | 5, _ | 6, _ | 7, _ | 8, _ | 9, _ | 10, _ => rfl
    have mq1 : MapIs w1 (m q) (ent1 (fr q L)) := (hW.mf q hq11).k k1
    obtain ⟨w2, hrng, k2, I2⟩ := range_map (P := Try.prog) Try.underlying75 mq1
    refine ⟨_, w2, hrng, ?_⟩
    have row2 := ownsRow_kx row1 k2 (fun _ _ _ _ => id)
    have hr0 := I2.lt.1
    have hs01 := k1.sz
    have hs12 := k2.sz
    generalize hrE : w1.heap.size = r at *
    refine ⟨fun a l' c' w' N => ∃ (R : List (Int × Value)) (d : List Nat), R.length = N ∧ Kept none' W w' ∧ IterAt w' r (m q) (ent1 (fr q L)) R ∧ l' = d.length ∧ w'.ownsRow W.heap.size 58 2 (.slice a l' c') d.length (rowCells L d) ∧ (∀ g, (Value.slice a l' c').ownBlock = some g → g ≠ r) ∧
        (d.map (fun (a : Nat) => (a : Int)) ++ R.map (·.1)).Perm ((plc (q + 1) L).map fun (a : Nat) => (a : Int)) ∧ ∀ p ∈ R, ∃ x ∈ L, x.g = 0 ∧ x.o = q ∧ p.1 = (x.p : Int),
      ⟨_, ent1 (fr q L), d, rfl, k1.tr k2, I2, rfl, row2, fun g hg e => ?_, ?_, fun p hp => ?_⟩, ?_⟩
    · obtain ⟨_, cur, hcu⟩ := rowTy row1 hg
      have := (Array.getElem?_eq_some_iff.1 hcu).1
      omega
    · have e1 : (ent1 (fr q L)).map (·.1) = (frN q L).map fun (a : Nat) => (a : Int) := by rw [← fr_frN]; simp [ent1, Function.comp_def]
      rw [e1, ← List.map_append]
      exact ((hp1.append_right _).trans (plc_succ q L).symm).map _
    · obtain ⟨k, hk', rfl⟩ := List.mem_map.1 hp
      obtain ⟨x, h1, h2, h3, h4⟩ := mem_fr.1 hk'
      exact ⟨x, h1, h2, h3, h4.symm⟩
    rintro a _ c' w3 _ ⟨R, d, rfl, k3, I3, rfl, row3, hsep, hperm, hR⟩
    have hdl : d.length ≤ 128 := by
      have e1 := hperm.length_eq
      simp only [List.length_append, List.length_map] at e1
      have := hpl (q + 1)
      omega
    rcases next_map (P := Try.prog) (ty := 0) I3 with ⟨rfl, hnx⟩ | ⟨⟨f, v⟩, R', w4, hRp, hnx, k4, I4, hent⟩
    · left
      refine ⟨w3, hnx, 11 - (q + 1), by omega, q + 1, d, by rw [wi (by omega)]; rfl, by omega, rfl, k3, rfl, row3, ?_⟩
      simp only [List.map_nil, List.append_nil] at hperm
      -- the places themselves
      have : (d.map (fun (a : Nat) => (a : Int))).map Int.toNat = d := by rw [List.map_map]; simp [Function.comp_def]
      have h2 : ((plc (q + 1) L).map (fun (a : Nat) => (a : Int))).map Int.toNat = plc (q + 1) L := by rw [List.map_map]; simp [Function.comp_def]
      have h3 := hperm.map Int.toNat
      rw [this, h2] at h3
      exact h3
    · right
      obtain ⟨x, hx1, hx2, hx3, hx4⟩ := hR (f, v) (hRp.mem_iff.2 (by simp))
      dsimp only at hx4
      subst hx4
      have row4 := ownsRow_kx row3 k4 (fun g _ _ hg e => hsep g hg e)
      have k34 : Kept none' W w4 := own0 k3 k4 fun b e => by omega
      refine ⟨_, _, w4, hnx, (x.p : Int), v, hent, ?_⟩
      intro w5 e5
      have k45 : Kept none' w4 w5 := (Kept.refl _ _).al e5
      have p5 := own_alloc (c := [Value.int .i64 (x.p : Int), .int .i64 (q : Int)]) e5
      have row5 := ownsRow_kx row4 k45 (fun _ _ _ _ => id)
      have hcell : rowCells L [x.p] = [Value.int .i64 (x.p : Int), .int .i64 (q : Int)] := by
        simp only [rowCells, List.flatMap_cons, List.flatMap_nil, List.append_nil]
        rw [ordAt_of hi.tl hx1 hx2, hx3]
      have hs3 := k3.sz
      have hs4 := k4.sz
      have hs5 := k45.sz
      obtain ⟨a', l', c'', w6, happ, rfl, row6, k6⟩ := app_blk row5 p5 (m := 1) (off := 0) (c := 1) (news := [Value.int .i64 (x.p : Int), .int .i64 (q : Int)]) rfl rfl (fun u hu => by simp at hu; rcases hu with rfl | rfl <;> rfl) (by omega) (by omega)
      refine ⟨a', _, c'', w6, happ, R'.length, by rw [hRp.length_eq]; simp, R', d ++ [x.p], rfl, own0 (k34.tr k45) k6 fun g hg => ?_, ?_, by simp, ?_, fun g hg => ?_, ?_, fun p hp => hR p (hRp.mem_iff.2 (List.mem_cons_of_mem _ hp))⟩
      · exact (rowTy row5 hg).1
      · exact (I4.k k45).kx k6 (fun e => hsep r e rfl) (fun e => by have := (rowTy row5 e).1; have := hbase0 q hq11; omega)
      · have : rowCells L (d ++ [x.p]) = rowCells L d ++ [Value.int .i64 (x.p : Int), .int .i64 (q : Int)] := by rw [rowCells_app, hcell]
        rw [this]
        have e1 : (d ++ [x.p]).length = d.length + 1 := by simp
        rw [e1]; exact row6
      · intro e
        subst e
        obtain ⟨_, cur, hcu⟩ := rowTy row6 hg
        obtain ⟨es, clk, since, seen, c0, _, hit, _⟩ := ((I4.k k45).kx k6 (fun e => hsep g e rfl) (fun e => by have := (rowTy row5 e).1; have := hbase0 q hq11; omega)).ex
        rw [hcu] at hit
        cases hit
      · refine List.Perm.trans ?_ hperm
        rw [List.map_append, List.append_assoc]
        refine List.Perm.append_left _ ?_
        exact (hRp.map (·.1)).symm
  · have hq11 : q = 11 := by simp at hc2; omega
    subst hq11
    have hplE := plc_all h10
    rw [hplE] at hp1
    have hstr := frB_sorted hi.tl
    have hnd : d.Nodup := hp1.nodup_iff.2 (hstr.imp fun h => by omega)
    refine (hs w1 a d.length c' W.heap.size d row1 (fun x hx => ?_) hnd hdl).mono ?_
    · obtain ⟨y, hy, rfl⟩ := List.mem_map.1 (hp1.mem_iff.1 hx)
      have := (tile_mem hi.tl (mem_frB.1 hy).1)
      have := p2 y.o
      omega
    rintro _ w2 ⟨rfl, row2, k2⟩
    rw [sorted_perm_eq hp1 hstr] at row2
    have K2 : Kept none' W w2 := own0 k1 k2 fun g hg => (rowTy row1 hg).1
    refine ⟨rfl, ?_⟩
    have hlen : d.length = (frB L).length := by rw [hp1.length_eq, List.length_map]
    have hJ2 := hab _ _ _ _ h0 K2.toY
    refine ⟨fun k w' N => ∃ (q : Nat) (Y : Nat → Prop), k = q ∧ q ≤ d.length ∧ N = d.length - q ∧ J Y q w' ∧ (∀ g, (Value.slice a d.length c').ownBlock = some g → Y g) ∧ w'.ownsRow W.heap.size 58 2 (.slice a d.length c') d.length (rowCells L ((frB L).map (·.p))),
      ⟨d.length, 0, _, rfl, by omega, rfl, hJ2, fun g hg => ?_, row2⟩, ?_⟩
    · obtain ⟨h1, cur, hcu⟩ := rowTy row2 hg
      exact .inr ⟨h1, (Array.getElem?_eq_some_iff.1 hcu).1⟩
    rintro _ w3 _ ⟨q, Y, rfl, hq, rfl, hJ3, hYg, row3⟩
    refine Wif_intro (fun hc3 => ?_) (fun hc3 => ?_)
    · simp only [decide_eq_true_eq] at hc3
      have hqd : q < d.length := by omega
      obtain ⟨g, rfl, _, hgb, hgs, r0, r1⟩ := row2_rd row3 hqd
      have hxq : q < (frB L).length := by omega
      obtain ⟨x, hx⟩ : ∃ x, (frB L)[q]? = some x := ⟨_, List.getElem?_eq_getElem hxq⟩
      have hxL := mem_frB.1 (List.mem_of_getElem? hx)
      have hget := rowCells_get L ((frB L).map (·.p)) q x.p (by simp [hx])
      rw [hget.1] at r0
      rw [hget.2, ordAt_of hi.tl hxL.1 hxL.2] at r1
      simp only [isP_some, Wif_true, pb_some, po_some, Nat.zero_add, Int.toNat_natCast]
      refine Wif_yes (inB_of (by omega) (by omega)) ⟨(x.p : Int), (x.o : Int), ⟨r0, r1⟩, ?_⟩
      intro w4 e4
      have k34 : Kept none' w3 w4 := (Kept.refl _ _).al e4
      have o4 := own_alloc (c := [Value.int .i64 0, .int .i64 0]) e4
      have hJ4 := hab _ _ _ _ hJ3 k34.toY
      have s34 : w4.heap.size = w3.heap.size + 1 := by rw [e4]; simp only [World.alloc, Array.size_push]
      refine ⟨⟨o4.wr (by simp), o4.wr (by simp)⟩, ?_⟩
      intro w5 e5
      have o5 := o4.s2 e5
      have k45 : Kept (· = w3.heap.size) w4 w5 := (Kept.refl _ _).s2 e5 (.inl rfl)
      have k35 : Kept none' w3 w5 := k34.trans k45 fun b hb e => by omega
      have hJ5 := hab _ _ _ _ hJ3 k35.toY
      have row5 := ownsRow_kx row3 k35 (fun _ _ _ _ => id)
      refine ⟨(x.p : Int), (x.o : Int), ⟨by rw [o5.rd]; rfl, by rw [o5.rd]; rfl⟩, ?_⟩
      have hy := hY _ q [blkV x] w5 (by simp [hx]) hJ5
      obtain ⟨fn, tm, asg', bo, hrun, hR⟩ := hy.run
      refine ⟨fn, tm, asg', bo, hrun, hR.mono ?_⟩
      rintro en w6 ⟨k6, ⟨rfl, hJ6⟩ | ⟨rfl, hx6⟩⟩
      · refine ⟨true, rfl, Wif_no rfl ⟨d.length - (q + 1), by omega, q + 1, _, by rw [wi (by omega)]; rfl, by omega, rfl, hJ6, fun g' hg' => .inl (hYg g' hg'), ?_⟩⟩
        -- the row has been kept
        have hYg0 := hYg g (by simp [Value.ownBlock])
        rcases row5 with ⟨hl5, ⟨hv, h00⟩ | ⟨g', cap, cur, hv, hb', hgg, hrest⟩⟩
        · cases hv
        · simp only [Value.slice.injEq, Option.some.injEq, Addr.mk.injEq] at hv
          obtain ⟨⟨rfl, _⟩, _, rfl⟩ := hv
          exact ⟨hl5, .inr ⟨g, _, cur, rfl, hb', (k6.blk g (.inl (.inl hYg0))).trans hgg, hrest⟩⟩
      · exact ⟨false, rfl, Wif_yes rfl (.inr ⟨_, hx6⟩)⟩
    · have : q = d.length := by simp at hc3; omega
      subst this
      refine .inl ⟨Y, ?_⟩
      rw [List.length_map, ← hlen]
      exact hJ3
end
end Go.Proofs.Ytkmcmkimeibjdaa
