/-
  A part of a proof that a law of this seat returns true at every input. Conditions: those in each theorem.
-/
import Derived.Test.YtklmokolnakkoaaGreatDoorBV3
import Derived.Shelf.SlSortCmp.InsertionK
import Derived.Sort.OwnSortedInts
import Derived.Test.YtklmokolnakkoaaGreatDoorProg
import Derived.Shelf.SlSortCmp.NoneTotal
import Derived.Test.YtklmokolnakkoaaGreatDoorZC6
import Derived.Test.YtklmokolnakkoaaGreatDoorZV2
namespace Go.Proofs.YtklmokolnakkoaaGreatDoor
open Go Eng Go.Sort
set_option linter.unusedSimpArgs false
set_option linter.unusedVariables false
set_option maxRecDepth 100000
def encB (L : List Bk) (a : Fin 128) : List Value := [.int .i64 (a.1 : Int), .int .i64 (ordAt L a.1 : Nat)]
theorem holds_blk {w : World} {g : Nat} {cur : Array Value} {e : TypeId} {F : Array Value} (hb : w.heap[g]? = some (.cells cur e (0, 0))) (ht : cur.toList.take F.size = F.toList) : Holds id w g 0 F := by
  intro j hj
  refine ⟨?_, by simp [World.frozen?, hb]⟩
  have h1 : (cur.toList.take F.size)[j]? = F.toList[j]? := by rw [ht]
  rw [List.getElem?_take_of_lt hj] at h1
  simp only [World.cell?, hb, Nat.zero_add]
  simp only [Option.isSome_none, Bool.false_eq_true, if_false]
  rw [← Array.getElem?_toList, h1]
  simp [hj]
theorem heap_sortedV {w : World} {g n : Nat} {os : Array Obj} {cur : Array Value} {e : TypeId} {fr : Nat × Nat} (d : Array Value) (hb : w.heap[g]? = some (.cells cur e fr)) :
    (grow (putRow id (Sort.ahead w n) g 0 d) os).heap[g]? = some (.cells (putCells id 0 d cur) e fr) := by
  have hg : g < w.heap.size := (Array.getElem?_eq_some_iff.1 hb).1
  rw [heap_grow_old _ _ (by simpa using hg)]
  simp [putRow, mapBlock, Sort.ahead, Array.getElem?_modify, hb, onCells]
theorem grownBy_sortedV {w : World} {g n : Nat} {os : Array Obj} (d : Array Value) : w.grownBy (grow (putRow id (Sort.ahead w n) g 0 d) os) (some g) := by
  refine ⟨rfl, rfl, rfl, by simp, fun k hk hne => ?_⟩
  rw [heap_grow_old _ _ (by simpa using hk)]
  have : g ≠ k := fun e => hne (by rw [e])
  simp [putRow, mapBlock, Sort.ahead, Array.getElem?_modify, this]
theorem take_putCellsV (cur : Array Value) (F : Array Value) (h : F.size ≤ cur.size) : (putCells id 0 F cur).toList.take F.size = F.toList := by
  apply List.ext_getElem?
  intro j
  by_cases hj : j < F.size
  · rw [List.getElem?_take_of_lt hj, Array.getElem?_toList]
    simp [putCells, hj, show j < cur.size by omega]
  · rw [List.getElem?_take_eq_none (by omega), List.getElem?_eq_none (by simp; omega)]
theorem flat_row (L : List Bk) (d : List (Fin 128)) : (flatK (encB L) 2 d.toArray).toList = rowCells L (d.map (·.val)) := by
  have hlen := rowCells_len L (d.map (·.val))
  rw [List.length_map] at hlen
  apply List.ext_getElem?
  intro t
  by_cases ht : t < d.length * 2
  · have h1 : (flatK (encB L) 2 d.toArray).toList[t]? = some ((encB L d.toArray[t / 2]!)[t % 2]!) := by
      have := get_flatK (encB L) 2 d.toArray t (by simpa using ht)
      rw [Array.getElem?_toList, Array.getElem?_eq_getElem (by simpa using ht), ← this, getElem!_pos _ t (by simpa using ht)]
    rw [h1]
    have hi : t / 2 < d.length := by omega
    have hd : (d.map (·.val))[t / 2]? = some (d[t / 2]).val := by simp [hi]
    have hd2 : d.toArray[t / 2]! = d[t / 2] := by simp [hi]
    obtain ⟨c1, c2⟩ := rowCells_get L _ _ _ hd
    rw [hd2]
    rcases Nat.mod_two_eq_zero_or_one t with h | h
    · have e : t = t / 2 * 2 := by omega
      rw [h]
      conv => rhs; rw [e, c1]
      rfl
    · have e : t = t / 2 * 2 + 1 := by omega
      rw [h]
      conv => rhs; rw [e, c2]
      rfl
  · rw [List.getElem?_eq_none (by simp; omega), List.getElem?_eq_none (by omega)]
theorem row_after {w : World} {base n c : Nat} {L : List Bk} {d d' : List (Fin 128)} {m : Nat} {os : Array Obj} {g : Nat} (h : w.ownsRow base 87 2 (.slice (some ⟨g, 0, none⟩) n c) n (rowCells L (d.map (·.val)))) (hl : d'.length = d.length) (hn : n = d.length) :
    (sortWorldK (encB L) 2 w g 0 m d'.toArray os).ownsRow base 87 2 (.slice (some ⟨g, 0, none⟩) n c) n (rowCells L (d'.map (·.val))) ∧ Kept (fun b => g = b) w (sortWorldK (encB L) 2 w g 0 m d'.toArray os) := by
  rcases h.2 with ⟨h0, _⟩ | ⟨g', cap, cur, hv, hb, hgg, hnc, hm, hsz, htk⟩
  · cases h0
  cases hv
  have hF : (flatK (encB L) 2 d'.toArray).size = n * 2 := by simp [hl, hn]
  constructor
  · refine ⟨by rw [rowCells_len, List.length_map]; omega, .inr ⟨g, c, _, rfl, hb, heap_sortedV _ hgg, hnc, hm, by simp [putCells, hsz], ?_⟩⟩
    rw [← flat_row, ← hF]
    exact take_putCellsV _ _ (by rw [hF, hsz]; omega)
  · have := Kept.grownBy (grownBy_sortedV (w := w) (g := g) (n := m) (os := os) (flatK (encB L) 2 d'.toArray))
    exact this.mono fun b _ h => by simpa using h
theorem cmp_lays (L : List Bk) (blk off size : Nat) (w : World) : CmpLays Tryz.prog 171 #[] (encB L) 2 (fun x y : Fin 128 => (x.1 : Int) - (y.1 : Int)) blk off size w := fun m os dk _ x y => by
  have H : ∀ W : World, Calls Tryz.prog 171 #[.agg #[.int .i64 (x.1 : Int), .int .i64 (ordAt L x.1 : Nat)], .agg #[.int .i64 (y.1 : Int), .int .i64 (ordAt L y.1 : Nat)]] W fun e w' => e = .returned (.int .i64 ((x.1 : Int) - (y.1 : Int))) ∧ ∃ q os', w' = grow (W.drewN q) os' := fun W => by
    refine (vc171 _ _ _ _ W (fun v w' => v = .int .i64 ((x.1 : Int) - (y.1 : Int)) ∧ ∃ q os', w' = grow (W.drewN q) os') ?_).mono ?_
    · unfold vcP171
      intro w1 e1 w2 e2
      have o1 := own_alloc (c := [.int .i64 (x.1 : Int), .int .i64 (ordAt L x.1 : Nat)]) e1
      have o2 := own_alloc (c := [.int .i64 (y.1 : Int), .int .i64 (ordAt L y.1 : Nat)]) e2
      refine ⟨_, by rw [(o1.al e2).rd]; rfl, _, by rw [o2.rd]; rfl, ?_, 0, #[.cells #[.int .i64 (x.1 : Int), .int .i64 (ordAt L x.1 : Nat)] 87, .cells #[.int .i64 (y.1 : Int), .int .i64 (ordAt L y.1 : Nat)] 87], ?_⟩
      · have := x.2; have := y.2
        rw [wi (by omega)]
      · rw [e2, e1, alloc_eq_grow, alloc_eq_grow, grow_grow]; rfl
    · rintro e w' ⟨v, rfl, rfl, h⟩
      exact ⟨rfl, h⟩
  exact H _
theorem ltB : ltOf (fun x y : Fin 128 => (x.1 : Int) - (y.1 : Int)) = fun x y => decide (x.1 < y.1) := by
  funext x y
  unfold ltOf
  exact decide_eq_decide.2 (by dsimp only; omega)
theorem swoB : SWO (ltOf fun x y : Fin 128 => (x.1 : Int) - (y.1 : Int)) := by
  rw [ltB]
  exact ⟨fun x => by simp, fun x y z h1 h2 => by simp at *; omega, fun x y z h1 h2 => by simp at *; omega⟩
theorem totB : ∀ x y : Fin 128, ltOf (fun x y : Fin 128 => (x.1 : Int) - (y.1 : Int)) x y = false → ltOf (fun x y : Fin 128 => (x.1 : Int) - (y.1 : Int)) y x = false → x = y := by
  rw [ltB]
  intro x y h1 h2
  simp at h1 h2
  exact Fin.ext (by omega)
theorem merge_map (d : List (Fin 128)) : (d.mergeSort fun x y => !(ltOf (fun x y : Fin 128 => (x.1 : Int) - (y.1 : Int))) y x).map (·.val) = (d.map (·.val)).mergeSort fun x y => decide (x ≤ y) := by
  rw [List.map_mergeSort (s := fun x y => decide (x ≤ y))]
  intro a _ b _
  rw [ltB]
  show (!decide (b.1 < a.1)) = decide (a.1 ≤ b.1)
  rw [← decide_not]
  exact decide_eq_decide.2 (by omega)
end Go.Proofs.YtklmokolnakkoaaGreatDoor
/-
  DERIVED: THE SHELF's CONTRACTS AT THIS DUMP, IN PLAIN WORDS (tools/lay-plain.mjs out of 'S4.lean', which tools/lay-shelf.mjs wrote): THE SAME DECLARATIONS UNDER THE SAME NAMES: 'import', 'namespace', 'open', 'def', 'theorem' AND NOTHING ELSE: no command of the shelf's: FOR A HAND-IN. Each laying: the table of numbers ('.._ren') and one theorem, a field a fact of the dump's own or the kernel's comparison; each contract: ONE APPLICATION.
-/
namespace Go.Proofs
open Go.Shelf
def Tryz.sortFA_ren : Go.Shelf.Ren := ⟨fun | 6 => 170 | 15 => 182 | 14 => 200 | 28 => 213 | 29 => 214 | 20 => 219 | 21 => 220 | 22 => 221 | 23 => 222 | 24 => 223 | 25 => 224 | 26 => 225 | 27 => 226 | 46 => 237 | 47 => 229 | 48 => 230 | 49 => 238 | 50 => 239 | 57 => 242 | n => n, fun | 22 => 62 | 24 => 87 | 25 => 294 | 3 => 3 | 39 => 150 | 0 => 0 | 53 => 322 | 55 => 134 | 4 => 4 | 46 => 333 | 45 => 332 | 50 => 202 | 5 => 5 | 9 => 9 | 66 => 349 | 70 => 353 | 76 => 360 | 77 => 308 | n => n, fun | n => n⟩
theorem Tryz.sortFA : Go.Proofs.SlLaysF0.n6 Tryz.prog Tryz.sortFA_ren := {
  mixed := by kernel_rfl
  f6 := ⟨Tryz.f170.name, by decide, Tryz.func170.trans (congrArg some (by kernel_rfl))⟩
  f14 := ⟨Tryz.f200.name, by decide, Tryz.func200.trans (congrArg some (by kernel_rfl))⟩
  f15 := Tryz.func182.trans (congrArg some (by kernel_rfl))
  f20 := ⟨Tryz.f219.name, by decide, Tryz.func219.trans (congrArg some (by kernel_rfl))⟩
  f21 := ⟨Tryz.f220.name, by decide, Tryz.func220.trans (congrArg some (by kernel_rfl))⟩
  f22 := ⟨Tryz.f221.name, by decide, Tryz.func221.trans (congrArg some (by kernel_rfl))⟩
  f23 := ⟨Tryz.f222.name, by decide, Tryz.func222.trans (congrArg some (by kernel_rfl))⟩
  f24 := ⟨Tryz.f223.name, by decide, Tryz.func223.trans (congrArg some (by kernel_rfl))⟩
  f25 := ⟨Tryz.f224.name, by decide, Tryz.func224.trans (congrArg some (by kernel_rfl))⟩
  f26 := ⟨Tryz.f225.name, by decide, Tryz.func225.trans (congrArg some (by kernel_rfl))⟩
  f27 := ⟨Tryz.f226.name, by decide, Tryz.func226.trans (congrArg some (by kernel_rfl))⟩
  f28 := Tryz.func213.trans (congrArg some (by kernel_rfl))
  f29 := Tryz.func214.trans (congrArg some (by kernel_rfl))
  f46 := ⟨Tryz.f237.name, by decide, Tryz.func237.trans (congrArg some (by kernel_rfl))⟩
  f47 := Tryz.func229.trans (congrArg some (by kernel_rfl))
  f48 := Tryz.func230.trans (congrArg some (by kernel_rfl))
  f49 := ⟨Tryz.f238.name, by decide, Tryz.func238.trans (congrArg some (by kernel_rfl))⟩
  f50 := ⟨Tryz.f239.name, by decide, Tryz.func239.trans (congrArg some (by kernel_rfl))⟩
  f57 := ⟨Tryz.f242.name, by decide, Tryz.func242.trans (congrArg some (by kernel_rfl))⟩
  t0 := Tryz.underlying0
  a0 := Tryz.isAgg0
  z0 := Tryz.sizeOf0
  v0 := Tryz.zeroValue0
  t3 := Tryz.underlying3
  a3 := Tryz.isAgg3
  z3 := Tryz.sizeOf3
  v3 := Tryz.zeroValue3
  t4 := Tryz.underlying4
  a4 := Tryz.isAgg4
  z4 := Tryz.sizeOf4
  v4 := Tryz.zeroValue4
  t5 := Tryz.underlying5
  a5 := Tryz.isAgg5
  z5 := Tryz.sizeOf5
  v5 := Tryz.zeroValue5
  t9 := Tryz.underlying9
  a9 := Tryz.isAgg9
  z9 := Tryz.sizeOf9
  v9 := Tryz.zeroValue9
  t22 := Tryz.underlying62
  a22 := Tryz.isAgg62
  z22 := Tryz.sizeOf62
  v22 := Tryz.zeroValue62
  t25 := Tryz.underlying294
  a25 := Tryz.isAgg294
  z25 := Tryz.sizeOf294
  v25 := Tryz.zeroValue294
  t39 := Tryz.underlying150
  a39 := Tryz.isAgg150
  z39 := Tryz.sizeOf150
  v39 := Tryz.zeroValue150
  t45 := Tryz.underlying332
  a45 := Tryz.isAgg332
  z45 := Tryz.sizeOf332
  v45 := Tryz.zeroValue332
  t46 := Tryz.underlying333
  a46 := Tryz.isAgg333
  z46 := Tryz.sizeOf333
  v46 := Tryz.zeroValue333
  t50 := Tryz.underlying202
  a50 := Tryz.isAgg202
  z50 := Tryz.sizeOf202
  v50 := Tryz.zeroValue202
  t53 := Tryz.underlying322
  a53 := Tryz.isAgg322
  z53 := Tryz.sizeOf322
  v53 := Tryz.zeroValue322
  t55 := Tryz.underlying134
  a55 := Tryz.isAgg134
  z55 := Tryz.sizeOf134
  v55 := Tryz.zeroValue134
  t66 := Tryz.underlying349
  a66 := Tryz.isAgg349
  z66 := Tryz.sizeOf349
  v66 := Tryz.zeroValue349
  t70 := Tryz.underlying353
  a70 := Tryz.isAgg353
  z70 := Tryz.sizeOf353
  v70 := Tryz.zeroValue353
  t76 := Tryz.underlying360
  a76 := Tryz.isAgg360
  z76 := Tryz.sizeOf360
  v76 := Tryz.zeroValue360
  t77 := Tryz.underlying308
  a77 := Tryz.isAgg308
  z77 := Tryz.sizeOf308
  v77 := Tryz.zeroValue308 }
end Go.Proofs
namespace Go.Proofs.YtklmokolnakkoaaGreatDoor
open Go Eng Go.Sort
set_option linter.unusedSimpArgs false
set_option linter.unusedVariables false
set_option maxRecDepth 100000
theorem enters171 : ∀ args w, (callFunc 171 args).run Tryz.prog w = .ok (.enter 171 args) w := enters_of Tryz.func171 (by kernel_rfl) rfl
theorem sort_says (L : List Bk) : SortSays L := fun w a n c base d h hd hn hl => by
  have hlen := h.1
  rw [rowCells_len] at hlen
  have hnd : n = d.length := by omega
  obtain ⟨d', rfl⟩ : ∃ d' : List (Fin 128), d = d'.map (·.val) := ⟨d.pmap (fun x hx => ⟨x, hx⟩) hd, by simp [List.map_pmap]⟩
  rw [List.length_map] at hnd hl
  rcases h.2 with ⟨h0, h1⟩ | ⟨g, cap, cur, hv, hb, hgg, hnc, hm, hsz, htk⟩
  · have hd0 : d' = [] := List.length_eq_zero_iff.1 (by omega)
    subst hd0
    cases h0
    refine (AnyF.slices_SortFunc_none (ρ := Tryz.sortFA_ren) Tryz.sortFA none 0 (.func (.func 171) #[] #[]) w).mono ?_
    rintro e w' ⟨rfl, rfl⟩
    exact ⟨rfl, by simpa using h, Kept.refl _ _⟩
  · cases hv
    have hglt : g < w.heap.size := (Array.getElem?_eq_some_iff.1 hgg).1
    have hH : HoldsK (encB L) 2 w g 0 d'.toArray := by
      refine holds_blk hgg ?_
      rw [flat_row, ← htk]
      simp [hnd]
    have hcon := AnyQ.slices_SortFunc_total (ρ := Tryz.sortFA_ren) Tryz.sortFA 2 Tryz.isAgg87 Tryz.sizeOf87 (encB L) (fun _ => rfl) (fun x v hv => by simp [encB] at hv; rcases hv with rfl | rfl <;> rfl) (fun x y => (x.1 : Int) - (y.1 : Int)) swoB 171 #[] g 0 c d'.toArray w enters171 (cmp_lays L g 0 _ w) hH hglt (by simp; omega) totB
    have hs : d'.toArray.size = n := by simp [hnd]
    rw [hs] at hcon
    refine hcon.mono ?_
    rintro e w' ⟨rfl, m, os, rfl⟩
    have := row_after (m := m) (os := os) (d' := (d'.mergeSort fun x y => !(ltOf (fun x y : Fin 128 => (x.1 : Int) - (y.1 : Int))) y x)) h (List.length_mergeSort _) hnd
    rw [merge_map] at this
    exact ⟨rfl, this.1, this.2.mono fun b _ hb => by simp [Value.ownBlock, hb]⟩
end Go.Proofs.YtklmokolnakkoaaGreatDoor
namespace Go.Proofs.YtklmokolnakkoaaGreatDoor
open Go Eng
set_option linter.unusedSimpArgs false
set_option linter.unusedVariables false
set_option maxRecDepth 100000
theorem recKept_refl (B : Nat) (w : World) : RecKept B w w := ⟨Nat.le_refl _, rfl, rfl⟩
theorem recKept_of {B : Nat} {X : Nat → Prop} {w w' : World} (k : Kept X w w') (hB : B + 1 < w.heap.size) (h1 : ¬ X B) (h2 : ¬ X (B + 1)) : RecKept B w w' := ⟨k.sz, k.blk B (by omega) h1, k.blk (B + 1) hB h2⟩
theorem keptY_of {Y X : Nat → Prop} {w w' : World} (k : Kept X w w') (h : ∀ b, Y b → b < w.heap.size ∧ ¬ X b) : KeptY Y w w' := ⟨k.sz, fun b hb => k.blk b (h b hb).1 (h b hb).2⟩
def bks (L : List Bk) : List (Nat × Nat) := (frB L).map fun x => (x.p, x.o)
theorem bks_len (L : List Bk) : (bks L).length = (frB L).length := by simp [bks]
theorem bks_app (A B : List Bk) : bks (A ++ B) = bks A ++ bks B := by simp [bks, frB]
theorem bks_free {x : Bk} (h : x.g = 0) (B : List Bk) : bks (x :: B) = (x.p, x.o) :: bks B := by simp [bks, frB, h]
theorem bks_held {x : Bk} (h : x.g ≠ 0) (B : List Bk) : bks (x :: B) = bks B := by simp [bks, frB, h]
theorem bks_le {L : List Bk} {n : Nat} (h : Tile 0 L n) : (bks L).length ≤ n := by
  have := tile_le h
  have h2 : (frB L).length ≤ L.length := List.length_filter_le _ _
  have := bks_len L; omega
def zsh (c : Nat → Int) (L : Nat → List Bk) : Nat → List (Nat × Nat)
  | 0 => []
  | k + 1 => zsh c L k ++ (bks (L k)).map fun y => ((fstF c k).toNat + y.1, y.2)
theorem zsh_len {c : Nat → Int} {L : Nat → List Bk} : ∀ {k : Nat}, (∀ i, i < k → (bks (L i)).length ≤ 128) → (zsh c L k).length ≤ 128 * k
  | 0, _ => by simp [zsh]
  | k + 1, h => by
    have := zsh_len (c := c) (k := k) fun i hi => h i (by omega)
    have := h k (by omega)
    simp only [zsh, List.length_append, List.length_map]
    omega
end Go.Proofs.YtklmokolnakkoaaGreatDoor
set_option linter.unusedVariables false
set_option maxRecDepth 100000
namespace Go.Proofs.YtklmokolnakkoaaGreatDoor
open Go Go.Eng
/- (*byre/zones.Zones).Blocks$1 -/
def vcP122 (l0 : Nat) (c1_0 : Option Addr) (w : World) (K : Value → World → Prop) : Prop := ∀ (w' : World), w' = World.alloc w (Obj.cells #[Value.func (Fn.yield l0) #[] #[]] 235) → Wif (isP c1_0) (∃ (x : Option Addr), rd w' (pb c1_0) (po c1_0) = some (.pointer x) ∧ gIf (isP x) ((!Option.isNone x) = true) (∃ (x_1 : Option Addr) (x_2 x_3 : Nat), ((!Option.isNone x) = true → rd w' (pb x) (po x + 94) = some (.slice x_1 x_2 x_3)) ∧ Wif (!(!Option.isNone x && !Option.isNone x_1)) (DefsAt [] w' ∧ ∀ (w2 : World), Kept (fun (b : Nat) => List.Mem b []) w' w2 → Array.size (World.heap w2) = Array.size (World.heap w') → K (Value.tuple #[]) w2) (∀ (w'_1 : World), w'_1 = World.alloc w' (Obj.cells #[Value.int .i64 0] 3) → wr w'_1 w'.heap.size 0 ∧ ∀ (w'_2 : World), w'_2 = st w'_1 w'.heap.size 0 (Value.int .i64 0) → Wif (isP c1_0) (∃ (x : Option Addr), rd w'_2 (pb c1_0) (po c1_0) = some (.pointer x) ∧ Wif (isP x) (∃ (x_4 : Option Addr) (x_5 x_6 : Nat), rd w'_2 (pb x) (po x + 94) = some (.slice x_4 x_5 x_6) ∧ ∃ (I : Int → List Nat → World → Nat → Prop), (∃ (n : Nat), I 0 [] w'_2 n) ∧ ∀ (n : Int) (ds' : List Nat) (w'_3 : World) (n_1 : Nat), I n ds' w'_3 n_1 → Wif (decide (n < (↑x_5 : Int))) (Wif (isP x_4) (Wif (inB n x_5) (∃ (x : Option Addr), rd w'_3 (pb x_4) (po x_4 + Int.toNat n * 1) = some (.pointer x) ∧ ∀ (w'_4 : World), w'_4 = World.alloc w'_3 (Obj.cells #[Value.pointer x] 212) → ∃ (xss : List (List Value)), ∃ (R : Nat → Prop), ∃ (I_1 : (Nat → Prop) → Nat → World → Prop), ∃ (X : Nat → (Nat → Prop) → World → Prop), (GivesV Tryz.prog 168 [Value.pointer (some (Addr.mk w'_3.heap.size 0 none))] xss R w'_4 ∧ (∀ (xs : List Value), List.Mem xs xss → List.length xs = 1 ∧ ∃ (n n_2 : Int), xs = [Value.agg #[Value.int .i64 n, Value.int .i64 n_2]]) ∧ ∀ (b : Nat), R b → Nat.succ b ≤ Array.size (World.heap w'_4)) ∧ (∀ (w1 : World), Kept none' w'_4 w1 → Array.size (World.heap w1) = Array.size (World.heap w'_4) + 2 → I_1 (fun (x : Nat) => False) 0 w1) ∧ (∀ (Y : Nat → Prop) (i : Nat) (W W' : World), I_1 Y i W → (∀ (b : Nat), Y b → Array.size (World.heap w'_4) + 2 ≤ b) → Kept (recsY w'_4.heap.size Y) W W' → I_1 (fun (b : Nat) => Y b ∨ Array.size (World.heap W) ≤ b ∧ Nat.succ b ≤ Array.size (World.heap W')) i W') ∧ (∀ (k : Nat) (Y : Nat → Prop) (W W' : World), X k Y W → (∀ (b : Nat), Y b → Array.size (World.heap w'_4) + 2 ≤ b) → Kept (recsY w'_4.heap.size Y) W W' → X k (fun (b : Nat) => Y b ∨ Array.size (World.heap W) ≤ b ∧ Nat.succ b ≤ Array.size (World.heap W')) W') ∧ (∀ (Y : Nat → Prop) (i : Nat) (W : World), I_1 Y i W → (∀ (b : Nat), Y b → Array.size (World.heap w'_4) + 2 ≤ b) → Array.size (World.heap w'_4) + 2 ≤ Array.size (World.heap W) → ∀ (n n_2 : Int), xss[i]? = some [Value.agg #[Value.int .i64 n, Value.int .i64 n_2]] → ∀ (w'_5 : World), w'_5 = World.alloc W (Obj.cells #[Value.int .i64 0, Value.int .i64 0] 87) → (wr w'_5 W.heap.size 0 ∧ wr w'_5 W.heap.size 1) ∧ ∀ (w'_6 : World), w'_6 = st (st w'_5 W.heap.size 0 (Value.int .i64 n)) W.heap.size 1 (Value.int .i64 n_2) → RecKept w'_4.heap.size W w'_6 ∧ ∀ (w2 : World), Kept (fun (b : Nat) => b = Array.size (World.heap w'_4) + 1) w'_6 w2 → Array.size (World.heap w2) = Array.size (World.heap w'_6) → ∃ (x : Int), rd w2 W.heap.size 0 = some (.int .i64 x) ∧ ∃ (x_7 : Int), rd w2 w'.heap.size 0 = some (.int .i64 x_7) ∧ wr w2 W.heap.size 0 ∧ ∀ (w' : World), w' = st w2 W.heap.size 0 (Value.int .i64 (IntKind.wrap .i64 (x + x_7))) → ∃ (x : Value), rd w' w.heap.size 0 = some x ∧ ∃ (x_8 x_9 : Int), (rd w' W.heap.size 0 = some (.int .i64 x_8) ∧ rd w' W.heap.size 1 = some (.int .i64 x_9)) ∧ ∃ (l : Nat), x = Value.func (Fn.yield l) #[] #[] ∧ YieldIs Tryz.prog l [Value.agg #[Value.int .i64 x_8, Value.int .i64 x_9]] w' fun (r : Ending) (w' : World) => ∃ (b : Bool), r = Ending.returned (Value.bool b) ∧ Wif (!b) (RecKept w'_4.heap.size w2 w' ∧ KeptY (fun (b : Nat) => Y b ∨ R b) W w' ∧ X 1 Y w') (RecKept w'_4.heap.size w2 w' ∧ KeptY (fun (b : Nat) => Y b ∨ R b) W w' ∧ I_1 Y (i + 1) w')) ∧ (∀ (Y : Nat → Prop) (W : World), I_1 Y (List.length xss) W → DefAt w'_4.heap.size W → ∀ (w1 : World), w1 = World.drew W → ∃ (x : Int), rd w1 w'.heap.size 0 = some (.int .i64 x) ∧ Wif (isP c1_0) (∃ (x_7 : Option Addr), rd w1 (pb c1_0) (po c1_0) = some (.pointer x_7) ∧ Wif (isP x_7) (Wif (inB n 8) (∃ (x_8 : Int), rd w1 (pb x_7) (po x_7 + 18 + Int.toNat n * 1) = some (.int .i64 x_8) ∧ wr w1 w'.heap.size 0 ∧ ∀ (w'_5 : World), w'_5 = st w1 w'.heap.size 0 (Value.int .i64 (IntKind.wrap .i64 (x + x_8))) → ∃ (m : Nat), Nat.succ m ≤ n_1 ∧ I (IntKind.wrap .i64 (n + 1)) (Array.size (World.heap w'_4) :: ds') w'_5 m) False) False) False) ∧ (∀ (Y : Nat → Prop) (W : World), X 0 Y W → DefAt w'_4.heap.size W → DefsAt (Array.size (World.heap w'_4) :: ds') W ∧ ∀ (w2 : World), Kept (fun (b : Nat) => List.Mem b (Array.size (World.heap w'_4) :: ds')) W w2 → Array.size (World.heap w2) = Array.size (World.heap W) → K (Value.tuple #[]) w2) ∧ ∀ (Y : Nat → Prop) (W : World), X 1 Y W → DefAt w'_4.heap.size W → DefsAt (Array.size (World.heap w'_4) :: ds') W ∧ ∀ (w2 : World), Kept (fun (b : Nat) => List.Mem b (Array.size (World.heap w'_4) :: ds')) W w2 → Array.size (World.heap w2) = Array.size (World.heap W) → K (Value.tuple #[]) w2) False) False) (DefsAt ds' w'_3 ∧ ∀ (w2 : World), Kept (fun (b : Nat) => List.Mem b ds') w'_3 w2 → Array.size (World.heap w2) = Array.size (World.heap w'_3) → K (Value.tuple #[]) w2)) False) False))) False
theorem vcE122 (l0 : Nat) (c1_0 : Option Addr) (w : World) (K : Value → World → Prop) : vcP122 l0 c1_0 w K = Eng.wBody Tryz.prog (Eng.handOf Tryz.prog [169, 123, 98, 99] 2) [3000028] Tryz.f122 (Eng.bodyOf Tryz.f122) [Value.func (Fn.yield l0) #[] #[], Value.pointer c1_0] w K := by kernel_rfl
theorem vc122 (l0 : Nat) (c1_0 : Option Addr) (w : World) (K : Value → World → Prop) (h : vcP122 l0 c1_0 w K) : Calls Tryz.prog 122 #[Value.func (Fn.yield l0) #[] #[], Value.pointer c1_0] w (fun e w' => ∃ v, e = .returned v ∧ K v w') := Eng.vc_of [169, 123, 98, 99] 2 [3000028] Tryz.mixes Tryz.func122 (by kernel_rfl) (by kernel_rfl) (vcE122 l0 c1_0 w K) h
end Go.Proofs.YtklmokolnakkoaaGreatDoor
