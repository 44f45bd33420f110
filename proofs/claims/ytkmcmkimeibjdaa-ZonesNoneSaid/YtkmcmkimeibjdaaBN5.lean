/-
  A part of a proof that a law of this seat returns true at every input. Conditions: those in each theorem.
-/
import Derived.Test.YtkmcmkimeibjdaaBN4
import Derived.Shelf.SlSortCmp.InsertionK
import Derived.Sort.OwnSortedInts
namespace Go.Proofs.Ytkmcmkimeibjdaa
open Go Eng Go.Sort
set_option linter.unusedSimpArgs false
set_option linter.unusedVariables false
set_option maxRecDepth 100000
/-! ### the sort's row -/
def encB (L : List Bk) (a : Fin 128) : List Value := [.int .i64 (a.1 : Int), .int .i64 (ordAt L a.1 : Nat)]
theorem holds_blk {w : World} {g : Nat} {cur : Array Value} {e : TypeId} {F : Array Value} (hb : w.heap[g]? = some (.cells cur e (0, 0))) (ht : cur.toList.take F.size = F.toList) : Holds id w g 0 F := by
  intro j hj
  refine ⟨?_, by simp [World.frozen?, hb]⟩
  have h1 : (cur.toList.take F.size)[j]? = F.toList[j]? := by rw [ht]
  rw [List.getElem?_take_of_lt hj] at h1
  simp only [World.cell?, hb, Nat.zero_add]
  simp only [Option.isSome_none, Bool.false_eq_true, if_false]
  rw [← Array.getElem?_toList, h1]
  simp [hj]
theorem heap_sortedV {w : World} {g n : Nat} {os : Array Obj} {cur : Array Value} {e : TypeId} {fr : Nat × Nat} (d : Array Value) (hb : w.heap[g]? = some (.cells cur e fr)) :
    (grow (putRow id (Sort.ahead w n) g 0 d) os).heap[g]? = some (.cells (putCells id 0 d cur) e fr) := by
  have hg : g < w.heap.size := (Array.getElem?_eq_some_iff.1 hb).1
  rw [heap_grow_old _ _ (by simpa using hg)]
  simp [putRow, mapBlock, Sort.ahead, Array.getElem?_modify, hb, onCells]
theorem grownBy_sortedV {w : World} {g n : Nat} {os : Array Obj} (d : Array Value) : w.grownBy (grow (putRow id (Sort.ahead w n) g 0 d) os) (some g) := by
  refine ⟨rfl, rfl, rfl, by simp, fun k hk hne => ?_⟩
  rw [heap_grow_old _ _ (by simpa using hk)]
  have : g ≠ k := fun e => hne (by rw [e])
  simp [putRow, mapBlock, Sort.ahead, Array.getElem?_modify, this]
theorem take_putCellsV (cur : Array Value) (F : Array Value) (h : F.size ≤ cur.size) : (putCells id 0 F cur).toList.take F.size = F.toList := by
  apply List.ext_getElem?
  intro j
  by_cases hj : j < F.size
  · rw [List.getElem?_take_of_lt hj, Array.getElem?_toList]
    simp [putCells, hj, show j < cur.size by omega]
  · rw [List.getElem?_take_eq_none (by omega), List.getElem?_eq_none (by simp; omega)]
theorem flat_row (L : List Bk) (d : List (Fin 128)) : (flatK (encB L) 2 d.toArray).toList = rowCells L (d.map (·.val)) := by
  have hlen := rowCells_len L (d.map (·.val))
  rw [List.length_map] at hlen
  apply List.ext_getElem?
  intro t
  by_cases ht : t < d.length * 2
  · have h1 : (flatK (encB L) 2 d.toArray).toList[t]? = some ((encB L d.toArray[t / 2]!)[t % 2]!) := by
      have := get_flatK (encB L) 2 d.toArray t (by simpa using ht)
      rw [Array.getElem?_toList, Array.getElem?_eq_getElem (by simpa using ht), ← this, getElem!_pos _ t (by simpa using ht)]
    rw [h1]
    have hi : t / 2 < d.length := by omega
    have hd : (d.map (·.val))[t / 2]? = some (d[t / 2]).val := by simp [hi]
    have hd2 : d.toArray[t / 2]! = d[t / 2] := by simp [hi]
    obtain ⟨c1, c2⟩ := rowCells_get L _ _ _ hd
    rw [hd2]
    rcases Nat.mod_two_eq_zero_or_one t with h | h
    · have e : t = t / 2 * 2 := by omega
      rw [h]
      conv => rhs; rw [e, c1]
      rfl
    · have e : t = t / 2 * 2 + 1 := by omega
      rw [h]
      conv => rhs; rw [e, c2]
      rfl
  · rw [List.getElem?_eq_none (by simp; omega), List.getElem?_eq_none (by omega)]
/-- what the sort leaves -/
theorem row_after {w : World} {base n c : Nat} {L : List Bk} {d d' : List (Fin 128)} {m : Nat} {os : Array Obj} {g : Nat} (h : w.ownsRow base 58 2 (.slice (some ⟨g, 0, none⟩) n c) n (rowCells L (d.map (·.val)))) (hl : d'.length = d.length) (hn : n = d.length) :
    (sortWorldK (encB L) 2 w g 0 m d'.toArray os).ownsRow base 58 2 (.slice (some ⟨g, 0, none⟩) n c) n (rowCells L (d'.map (·.val))) ∧ Kept (fun b => g = b) w (sortWorldK (encB L) 2 w g 0 m d'.toArray os) := by
  rcases h.2 with ⟨h0, _⟩ | ⟨g', cap, cur, hv, hb, hgg, hnc, hm, hsz, htk⟩
  · cases h0
  cases hv
  have hF : (flatK (encB L) 2 d'.toArray).size = n * 2 := by simp [hl, hn]
  constructor
  · refine ⟨by rw [rowCells_len, List.length_map]; omega, .inr ⟨g, c, _, rfl, hb, heap_sortedV _ hgg, hnc, hm, by simp [putCells, hsz], ?_⟩⟩
    rw [← flat_row, ← hF]
    exact take_putCellsV _ _ (by rw [hF, hsz]; omega)
  · have := Kept.grownBy (grownBy_sortedV (w := w) (g := g) (n := m) (os := os) (flatK (encB L) 2 d'.toArray))
    exact this.mono fun b _ h => by simpa using h
theorem cmp_lays (L : List Bk) (blk off size : Nat) (w : World) : CmpLays Try.prog 56 #[] (encB L) 2 (fun x y : Fin 128 => (x.1 : Int) - (y.1 : Int)) blk off size w := fun m os dk _ x y => by
  have H : ∀ W : World, Calls Try.prog 56 #[.agg #[.int .i64 (x.1 : Int), .int .i64 (ordAt L x.1 : Nat)], .agg #[.int .i64 (y.1 : Int), .int .i64 (ordAt L y.1 : Nat)]] W fun e w' => e = .returned (.int .i64 ((x.1 : Int) - (y.1 : Int))) ∧ ∃ q os', w' = grow (W.drewN q) os' := fun W => by
    refine (vc56 _ _ _ _ W (fun v w' => v = .int .i64 ((x.1 : Int) - (y.1 : Int)) ∧ ∃ q os', w' = grow (W.drewN q) os') ?_).mono ?_
    · unfold vcP56
      intro w1 e1 w2 e2
      have o1 := own_alloc (c := [.int .i64 (x.1 : Int), .int .i64 (ordAt L x.1 : Nat)]) e1
      have o2 := own_alloc (c := [.int .i64 (y.1 : Int), .int .i64 (ordAt L y.1 : Nat)]) e2
      refine ⟨_, by rw [(o1.al e2).rd]; rfl, _, by rw [o2.rd]; rfl, ?_, 0, #[.cells #[.int .i64 (x.1 : Int), .int .i64 (ordAt L x.1 : Nat)] 58, .cells #[.int .i64 (y.1 : Int), .int .i64 (ordAt L y.1 : Nat)] 58], ?_⟩
      · have := x.2; have := y.2
        rw [wi (by omega)]
      · rw [e2, e1, alloc_eq_grow, alloc_eq_grow, grow_grow]; rfl
    · rintro e w' ⟨v, rfl, rfl, h⟩
      exact ⟨rfl, h⟩
  exact H _
theorem ltB : ltOf (fun x y : Fin 128 => (x.1 : Int) - (y.1 : Int)) = fun x y => decide (x.1 < y.1) := by
  funext x y
  unfold ltOf
  exact decide_eq_decide.2 (by dsimp only; omega)
theorem swoB : SWO (ltOf fun x y : Fin 128 => (x.1 : Int) - (y.1 : Int)) := by
  rw [ltB]
  exact ⟨fun x => by simp, fun x y z h1 h2 => by simp at *; omega, fun x y z h1 h2 => by simp at *; omega⟩
theorem totB : ∀ x y : Fin 128, ltOf (fun x y : Fin 128 => (x.1 : Int) - (y.1 : Int)) x y = false → ltOf (fun x y : Fin 128 => (x.1 : Int) - (y.1 : Int)) y x = false → x = y := by
  rw [ltB]
  intro x y h1 h2
  simp at h1 h2
  exact Fin.ext (by omega)
theorem merge_map (d : List (Fin 128)) : (d.mergeSort fun x y => !(ltOf (fun x y : Fin 128 => (x.1 : Int) - (y.1 : Int))) y x).map (·.val) = (d.map (·.val)).mergeSort fun x y => decide (x ≤ y) := by
  rw [List.map_mergeSort (s := fun x y => decide (x ≤ y))]
  intro a _ b _
  rw [ltB]
  show (!decide (b.1 < a.1)) = decide (a.1 ≤ b.1)
  rw [← decide_not]
  exact decide_eq_decide.2 (by omega)
end Go.Proofs.Ytkmcmkimeibjdaa
