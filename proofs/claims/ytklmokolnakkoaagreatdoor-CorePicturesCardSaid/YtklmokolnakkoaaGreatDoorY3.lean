/-
  A part of a proof that a law of this seat returns true at every input. Conditions: those in each theorem.
-/
import Derived.Test.YtklmokolnakkoaaGreatDoorX9
import Derived.Test.YtklmokolnakkoaaGreatDoorZR6
set_option linter.unusedSimpArgs false
set_option linter.unusedVariables false
set_option maxRecDepth 100000
namespace Go.Proofs.YtklmokolnakkoaaGreatDoor
open Go Go.Eng
theorem keptX {X : Nat → Prop} {w w1 w2 : World} {kx : Nat} (k : Kept (· = kx) w w1) (k2 : Kept X w1 w2) (h : ∀ x, X x → x = kx ∨ w.heap.size ≤ x) : Kept (· = kx) w w2 :=
  k.trans k2 fun x hl hx => by rcases h x hx with h | h; exact h; omega
structure SeqI {α : Type} (kx B : Nat) (w4 : World) (T s : Nat) (f : α → List Value) (xs : List α) (Y : Nat → Prop) (i : Nat) (W : World) : Prop where
  kp : Kept (· = kx) w4 W
  le : i ≤ xs.length
  ex : ∃ (a : Option Addr) (cc : Nat), own W kx [.slice a i cc] ∧ W.ownsRow (B + 2) T s (.slice a i cc) i ((xs.take i).flatMap f) ∧ ∀ x, Y x → x < W.heap.size ∧ (Value.slice a i cc).ownBlock ≠ some x
section
variable {α : Type} {kx B : Nat} {w4 : World} {T s : Nat} {f : α → List Value} {xs : List α} {Y : Nat → Prop} {i : Nat} {W : World}
theorem SeqI.ab {W' : World} (h : SeqI kx B w4 T s f xs Y i W) (hk : kx < B) (hB : B = w4.heap.size) (hY : ∀ b, Y b → B + 2 ≤ b) (k' : Kept (recsY B Y) W W') : SeqI kx B w4 T s f xs (fun b => Y b ∨ (W.heap.size ≤ b ∧ b < W'.heap.size)) i W' := by
  obtain ⟨a, cc, g2, g3, g4⟩ := h.ex
  have hsz := k'.sz
  have h1 := h.kp.sz
  refine ⟨h.kp.trans k' fun x hx hh => ?_, h.le, a, cc, g2.kx k' (fun hx => by rcases hx with h | h | h; omega; omega; have := hY _ h; omega), ownsRow_kx g3 k' fun x hx _ hb hh => (by rcases hh with h | h | h; omega; omega; exact (g4 x h).2 hb), fun x hx => ?_⟩
  · rcases hh with rfl | rfl | h3
    · omega
    · omega
    · have := hY x h3
      omega
  · rcases hx with hx | hx
    · have := g4 x hx; exact ⟨by omega, this.2⟩
    · refine ⟨hx.2, fun e => ?_⟩
      have := (g3.lt x e).2
      omega
theorem SeqI.step {S : Nat} (hT : ElT Tryz.prog S T s) {R Z : Nat → Prop} {p : α} {w7 : World} (h : SeqI kx B w4 T s f xs Y i W) (hk : kx < B) (hB : B = w4.heap.size) (hY : ∀ b, Y b → B + 2 ≤ b) (hsz : B + 2 ≤ W.heap.size) (hl : xs.length ≤ 100000) (hR : ∀ b, R b → b < B ∧ b ≠ kx)
    (hp : xs[i]? = some p) (hs : ∀ x, (f x).length = s) (h1 : ∀ u ∈ f p, u.oneCell' = true) (k7 : Kept Z W w7) (hZ : ∀ b, Z b → b = B + 1 ∨ W.heap.size ≤ b) :
    ∃ (a : Option Addr) (cc : Nat), rd w7 kx 0 = some (.slice a i cc) ∧ ∀ w8, w8 = w7.alloc (.cells (f p).toArray T) → ∃ (a' : Option Addr) (l' c' : Nat) (w9 : World), appIs Tryz.prog #[S, S] S (.slice a i cc) (.slice (some ⟨w7.heap.size, 0, none⟩) 1 1) (.slice a' l' c') w8 w9 ∧ wr w9 kx 0 ∧
      ∀ w10, w10 = st w9 kx 0 (.slice a' l' c') → RecKept B w7 w10 ∧ KeptY (fun b => Y b ∨ R b) W w10 ∧ SeqI kx B w4 T s f xs Y (i + 1) w10 := by
  obtain ⟨a, cc, g2, g3, g4⟩ := h.ex
  have hil := (List.getElem?_eq_some_iff.1 hp).1
  have hW7 := k7.sz
  have hg := g2.lt
  have kW7 : Kept (· = B + 1) W w7 := k7.mono fun b hb hz => (hZ b hz).resolve_right (by omega)
  refine ⟨a, cc, by rw [(g2.kx kW7 (by omega)).rd]; rfl, fun w8 e8 => ?_⟩
  have k8 : Kept none' w7 w8 := (Kept.refl _ _).al e8
  have row7 := ownsRow_kx g3 kW7 fun x hx _ _ hh => by omega
  have row8 := ownsRow_kx row7 k8 fun _ _ _ _ => id
  have hs8 := k8.sz
  obtain ⟨t0, z, hi, hz, hsz0, hzs, hby⟩ := hT.ex
  obtain ⟨a', l', c', w9, happ, rfl, row9, k9, hon⟩ := app_any (P := Tryz.prog) (t := S) (e := T) (i := t0) (z := z) (size := s) hT.sl hi hz hsz0 hzs hT.pos row8 (own_alloc e8) (m := 1) (off := 0) (c := 1) (news := f p) (by rw [List.drop_zero, Nat.one_mul, List.take_of_length_le (Nat.le_of_eq (hs p))]) (by rw [hs, Nat.one_mul]) h1 (by omega) hby (by omega)
  have g9 := ((g2.kx kW7 (by omega)).k k8).kx k9 fun e => by have := (row8.lt _ e).1; omega
  refine ⟨a', _, c', w9, happ, g9.wr (by simp), fun w10 e10 => ?_⟩
  have k10 : Kept (· = kx) w9 w10 := (Kept.refl _ _).s1 e10 (.inl rfl)
  have g10 := g9.s1 e10
  have K710 : Kept (fun x => x = kx ∨ (Value.slice a i cc).ownBlock = some x) w7 w10 := ((k8.mono fun _ _ h => h.elim).trans k9 fun x _ h => .inr h).trans k10 fun x _ h => .inl h
  have KW10 : Kept (fun x => x = B + 1 ∨ x = kx ∨ (Value.slice a i cc).ownBlock = some x) W w10 := (kW7.mono fun _ _ h => .inl h).trans K710 fun x _ h => .inr h
  have hl10 := KW10.sz
  have hgB := h.kp.sz
  refine ⟨recKept_of K710 (by omega) (fun h => ?_) (fun h => ?_), keptY_of KW10 fun y hy => ?_, ?_, hil, a', c', g10, ?_, fun y hy => ?_⟩
  · rcases h with h | h
    · omega
    · have := (row7.lt _ h).1; omega
  · rcases h with h | h
    · omega
    · have := (row7.lt _ h).1; omega
  · rcases hy with hy | hy
    · have h1 := hY y hy
      have h2 := g4 y hy
      refine ⟨h2.1, fun hh => ?_⟩
      rcases hh with h | h | h
      · have h5 := h2.1; have : y = B + 1 := h; omega
      · omega
      · exact h2.2 h
    · have h1 := hR y hy
      refine ⟨by omega, fun hh => ?_⟩
      rcases hh with h | h | h
      · omega
      · omega
      · have := (g3.lt _ h).1; omega
  · refine keptX h.kp KW10 fun y hy => ?_
    rcases hy with h | h | h
    · right; omega
    · exact .inl h
    · right; have := (g3.lt _ h).1; omega
  · have e1 : (xs.take (i + 1)).flatMap f = (xs.take i).flatMap f ++ f p := by
      rw [List.take_add_one, hp, List.flatMap_append]
      simp
    rw [e1]
    exact ownsRow_kx row9 k10 fun y hy _ _ h => by omega
  · have h1 := hY y hy
    have h2 := g4 y hy
    refine ⟨by omega, fun e => ?_⟩
    rcases hon with h3 | h3
    · rw [h3] at e; exact h2.2 e
    · have := h3 y e; omega
theorem SeqI.fin {w : World} (h : SeqI kx B w4 T s f xs Y xs.length W) (hk : kx < B) (hB : B = w4.heap.size) (k4 : Kept none' w w4) (hx : kx = w.heap.size) {w2 : World} (k2 : Kept (fun b => b ∈ [B]) W w2) :
    ∃ (a : Option Addr) (cc : Nat), rd W kx 0 = some (.slice a xs.length cc) ∧ w2.ownsRow w.heap.size T s (.slice a xs.length cc) xs.length (xs.flatMap f) ∧ Kept none' w w2 := by
  obtain ⟨a, cc, g2, g3, g4⟩ := h.ex
  rw [List.take_length] at g3
  refine ⟨a, cc, by rw [g2.rd]; rfl, ?_, ?_⟩
  · have := ownsRow_kx g3 k2 fun x hx _ _ h => by simp at h; omega
    exact ownsRow_base_a this (by omega)
  · exact own0 (own0 k4 h.kp fun x e => by omega) k2 fun x e => by simp at e; have := k4.sz; omega
end
theorem oneV {x : Int} : ∀ u ∈ [vi x], u.oneCell' = true := fun u hu => by simp at hu; subst hu; rfl
theorem appI_ok {w : World} {c : Nat} {xs : List Int} {R : Nat → Prop} (hg : ∀ w', Kept none' w w' → GivesV Tryz.prog 132 [ptr c] (xs.map fun x => [vi x]) R w') (hR : ∀ b, R b → b < w.heap.size) (hl : xs.length ≤ 100000) :
    Calls Tryz.prog 172 #[.slice none 0 0, .func (.func 132) #[] #[ptr c]] w fun e w' => ∃ (a : Option Addr) (l c : Nat), e = .returned (.slice a l c) ∧ RowI w' w.heap.size a l c xs ∧ Kept none' w w' := by
  refine (vc172 none 0 0 (some ⟨c, 0, none⟩) w (fun v w' => ∃ (a : Option Addr) (l c : Nat), v = .slice a l c ∧ RowI w' w.heap.size a l c xs ∧ Kept none' w w') ?_).mono ?_
  rotate_left
  · rintro e w' ⟨v, rfl, a, l, c, rfl, hw⟩
    exact ⟨a, l, c, rfl, hw⟩
  unfold vcP172
  intro w4 e4
  have hx := own_alloc (c := [.slice none 0 0]) e4
  have k4 : Kept none' w w4 := (Kept.refl _ _).al e4
  have hs4 : w4.heap.size = w.heap.size + 1 := by rw [e4]; simp only [World.alloc, Array.size_push]
  have hR' : ∀ b, R b → b < w4.heap.size ∧ b ≠ w.heap.size := fun b hb => by have := hR b hb; omega
  have eT : ElT Tryz.prog 51 3 1 := elT59
  refine ⟨xs.map fun x => [vi x], R, SeqI w.heap.size w4.heap.size w4 3 1 (fun x => [vi x]) xs, fun _ _ _ => False, ⟨hg w4 k4, fun ys hx => ?_, fun b h => (hR' b h).1⟩, fun w1 k1 _ => ?_, fun Y i W W' h hY k' => h.ab (by omega) rfl hY k', fun _ _ _ _ h => h.elim, fun Y i W h hY hsz p hv => ?_, fun Y W h hd => ?_, fun _ _ h => h.elim, trivial⟩
  · obtain ⟨x, _, rfl⟩ := List.mem_map.1 hx
    exact ⟨rfl, x, rfl⟩
  · exact ⟨k1.mono fun _ _ h => h.elim, Nat.zero_le _, none, 0, hx.k k1, World.ownsRow_nil _ _ _ _, fun x h => h.elim⟩
  · have hx : xs[i]? = some p := by
      rw [List.getElem?_map] at hv
      cases hh : xs[i]? with
      | none => rw [hh] at hv; cases hv
      | some x => rw [hh] at hv; simp at hv; rw [hv]
    refine ⟨recKept_of (Kept.refl none' W) (by omega) id id, fun w7 k7 hs7 => ?_⟩
    obtain ⟨a, cc, h1, h2⟩ := h.step eT (by omega) rfl hY hsz hl hR' hx (fun _ => rfl) oneV k7 fun b hb => .inl hb
    exact ⟨a, i, cc, h1, fun w8 e8 => h2 w8 e8⟩
  · rw [List.length_map] at h
    have hd' : DefsAt [w4.heap.size] W := ⟨by simp, fun D hD => by simp at hD; subst hD; exact hd.at_⟩
    obtain ⟨a, cc, hr, _⟩ := h.fin (w2 := W) (by omega) rfl k4 rfl ((Kept.refl (fun _ => False) W).mono fun _ _ e => e.elim)
    refine ⟨a, _, cc, hr, hd', fun w2 k2 hs2 => ?_⟩
    obtain ⟨a2, cc2, hr2, row, kk⟩ := h.fin (w2 := w2) (by omega) rfl k4 rfl k2
    rw [hr] at hr2
    cases hr2
    exact ⟨a, _, cc, rfl, ⟨rfl, by rw [map_flat]; exact row⟩, kk⟩
def blkC (x : Nat × Nat) : List Value := [vi x.1, vi x.2]
theorem elBlk : ElT Tryz.prog 62 87 2 := elT (z := .agg #[.int .i64 0, .int .i64 0]) Tryz.underlying62 (by kernel_rfl) rfl (by decide)
theorem appB_ok {w : World} {c z : Nat} {Z : Zs} {L : Nat → List Bk} (h : ZAt w z Z L) (hc : rd w c 0 = some (ptr z)) (hl : (zsh Z.c L Z.k).length ≤ 100000) :
    Calls Tryz.prog 121 #[.slice none 0 0, .func (.func 122) #[] #[ptr c]] w fun e w' => ∃ (a : Option Addr) (l c : Nat), e = .returned (.slice a l c) ∧ l = (zsh Z.c L Z.k).length ∧ w'.ownsRow w.heap.size 87 2 (.slice a l c) l ((zsh Z.c L Z.k).flatMap blkC) ∧ Kept none' w w' := by
  refine (vc121 none 0 0 (some ⟨c, 0, none⟩) w (fun v w' => ∃ (a : Option Addr) (l c : Nat), v = .slice a l c ∧ l = (zsh Z.c L Z.k).length ∧ w'.ownsRow w.heap.size 87 2 (.slice a l c) l ((zsh Z.c L Z.k).flatMap blkC) ∧ Kept none' w w') ?_).mono ?_
  rotate_left
  · rintro e w' ⟨v, rfl, a, l, c, rfl, hw⟩
    exact ⟨a, l, c, rfl, hw⟩
  unfold vcP121
  intro w4 e4
  have hx := own_alloc (c := [.slice none 0 0]) e4
  have k4 : Kept none' w w4 := (Kept.refl _ _).al e4
  have hs4 : w4.heap.size = w.heap.size + 1 := by rw [e4]; simp only [World.alloc, Array.size_push]
  have hcl := rd_lt hc
  have hR' : ∀ b, (b = c ∨ Z.all z b) → b < w4.heap.size ∧ b ≠ w.heap.size := fun b hb => by
    rcases hb with rfl | hb
    · omega
    · have := h.lt hb; omega
  have hg := zblocks_gives (h.k k4) (k4.rd_some hc id) (by omega)
  have e0 : zxs Z L = (zsh Z.c L Z.k).map fun y => [Value.agg #[.int .i64 (y.1 : Int), .int .i64 (y.2 : Int)]] := rfl
  rw [e0] at hg
  generalize zsh Z.c L Z.k = xs at *
  refine ⟨_, _, SeqI w.heap.size w4.heap.size w4 87 2 blkC xs, fun _ _ _ => False, ⟨hg, fun ys hx => ?_, fun b h => (hR' b h).1⟩, fun w1 k1 _ => ?_, fun Y i W W' h hY k' => h.ab (by omega) rfl hY k', fun _ _ _ _ h => h.elim, fun Y i W h hY hsz p q hv w5 e5 => ?_, fun Y W h hd => ?_, fun _ _ h => h.elim, trivial⟩
  · obtain ⟨x, _, rfl⟩ := List.mem_map.1 hx
    exact ⟨rfl, _, _, rfl⟩
  · exact ⟨k1.mono fun _ _ h => h.elim, Nat.zero_le _, none, 0, hx.k k1, World.ownsRow_nil _ _ _ _, fun x h => h.elim⟩
  · obtain ⟨y, hx, rfl, rfl⟩ : ∃ y : Nat × Nat, xs[i]? = some y ∧ p = (y.1 : Int) ∧ q = (y.2 : Int) := by
      rw [List.getElem?_map] at hv
      cases hh : xs[i]? with
      | none => rw [hh] at hv; cases hv
      | some x => rw [hh] at hv; simp at hv; exact ⟨x, rfl, hv.1.symm, hv.2.symm⟩
    have o5 := own_alloc (c := [Value.int IntKind.i64 0, Value.int IntKind.i64 0]) e5
    have k5 : Kept none' W w5 := (Kept.refl _ _).al e5
    have h5 := k5.sz
    refine ⟨⟨o5.wr (by simp), o5.wr (by simp)⟩, fun w6 e6 => ?_⟩
    obtain ⟨o6, k6⟩ := st2 o5 rfl e6
    have K6 : Kept none' W w6 := own0 k5 k6 fun x e => Nat.le_of_eq e.symm
    refine ⟨recKept_of K6 (by omega) id id, fun w7 k7 hs7 => ?_⟩
    have o7 := o6.kx k7 (by omega)
    obtain ⟨a, cc, h1, h2⟩ := h.step (Z := fun b => b = w4.heap.size + 1) elBlk (by omega) rfl hY hsz hl hR' hx (fun _ => rfl) (fun u hu => by simp [blkC] at hu; rcases hu with rfl | rfl <;> rfl) ((K6.mono fun _ _ e => e.elim).trans k7 fun _ _ e => e) fun b hb => .inl hb
    exact ⟨a, i, cc, h1, _, _, ⟨by rw [o7.rd]; rfl, by rw [o7.rd]; rfl⟩, fun w8 e8 => h2 w8 e8⟩
  · rw [List.length_map] at h
    have hd' : DefsAt [w4.heap.size] W := ⟨by simp, fun D hD => by simp at hD; subst hD; exact hd.at_⟩
    obtain ⟨a, cc, hr, _⟩ := h.fin (w2 := W) (by omega) rfl k4 rfl ((Kept.refl (fun _ => False) W).mono fun _ _ e => e.elim)
    refine ⟨a, _, cc, hr, hd', fun w2 k2 hs2 => ?_⟩
    obtain ⟨a2, cc2, hr2, row, kk⟩ := h.fin (w2 := w2) (by omega) rfl k4 rfl k2
    rw [hr] at hr2
    cases hr2
    exact ⟨a, _, cc, rfl, rfl, row, kk⟩
open Go.RowKit Go.Maps Go.Sort Go.Shelf
theorem heap_sortI {w : World} {g n : Nat} {os : Array Obj} {cur : Array Value} {e : TypeId} {fr : Nat × Nat} (d : Array Int) (hb : w.heap[g]? = some (.cells cur e fr)) :
    (grow (putRow (Value.int .i64) (Sort.ahead w n) g 0 d) os).heap[g]? = some (.cells (putCells (Value.int .i64) 0 d cur) e fr) := by
  have hg : g < w.heap.size := (Array.getElem?_eq_some_iff.1 hb).1
  rw [heap_grow_old _ _ (by simpa using hg)]
  simp [putRow, mapBlock, Sort.ahead, Array.getElem?_modify, hb, onCells]
theorem grownBy_sortI {w : World} {g n : Nat} {os : Array Obj} (d : Array Int) : w.grownBy (grow (putRow (Value.int .i64) (Sort.ahead w n) g 0 d) os) (some g) := by
  refine ⟨rfl, rfl, rfl, by simp, fun k hk hne => ?_⟩
  rw [heap_grow_old _ _ (by simpa using hk)]
  have : g ≠ k := fun e => hne (by rw [e])
  simp [putRow, mapBlock, Sort.ahead, Array.getElem?_modify, this]
theorem take_putI (cur : Array Value) (F : Array Int) (h : F.size ≤ cur.size) : (putCells (Value.int .i64) 0 F cur).toList.take F.size = F.toList.map (Value.int .i64) := by
  apply List.ext_getElem?
  intro j
  by_cases hj : j < F.size
  · rw [List.getElem?_take_of_lt hj, Array.getElem?_toList]
    simp [putCells, hj, show j < cur.size by omega]
  · rw [List.getElem?_take_eq_none (by omega), List.getElem?_eq_none (by simp; omega)]
def sortI (xs : List Int) : List Int := xs.mergeSort fun x y => decide (x ≤ y)
theorem sort_row {w : World} {base : Nat} {a : Option Addr} {l c : Nat} {xs : List Int} (h : RowI w base a l c xs) (hl : xs.length ≤ 1000000000) :
    Calls Tryz.prog 131 #[.slice a l c] w fun e w' => e = .returned (.tuple #[]) ∧ RowI w' base a l c (sortI xs) ∧ Kept (fun b => (Value.slice a l c).ownBlock = some b) w w' := by
  obtain ⟨rfl, h⟩ := h
  rcases h.2 with ⟨h0, h1⟩ | ⟨g, cap, cur, hv, hb, hgg, hnc, hm, hsz, htk⟩
  · have hx0 : xs = [] := List.length_eq_zero_iff.1 h1
    subst hx0
    cases h0
    refine (AnyM.slices_Sort_int_none (ρ := Tryz.sortA_ren) Tryz.sortA none 0 w).mono ?_
    rintro e w' ⟨rfl, rfl⟩
    have e0 : sortI [] = [] := by simp [sortI]
    rw [e0]
    exact ⟨rfl, RowI.nil', Kept.refl _ _⟩
  · cases hv
    have hglt : g < w.heap.size := (Array.getElem?_eq_some_iff.1 hgg).1
    have hH : Holds (Value.int .i64) w g 0 xs.toArray := by
      intro j hj
      have hj' : j < xs.length := by simpa using hj
      refine ⟨?_, by simp [World.frozen?, hgg]⟩
      have h1 : (cur.toList.take (xs.length * 1))[j]? = (xs.map vi)[j]? := by rw [htk]
      rw [List.getElem?_take_of_lt (by omega)] at h1
      simp only [World.cell?, hgg, Nat.zero_add]
      simp only [Option.isSome_none, Bool.false_eq_true, if_false]
      rw [← Array.getElem?_toList, h1]
      simp [hj']
    refine (AnyM.slices_Sort_int (ρ := Tryz.sortA_ren) Tryz.sortA g 0 c xs w hH hglt (by omega)).mono ?_
    rintro e w' ⟨rfl, m, os, rfl⟩
    have hF : (sortI xs).toArray.size = xs.length := by simp [sortI]
    have hF' : (sortI xs).length = xs.length := by simp [sortI]
    refine ⟨rfl, ⟨hF'.symm, by simpa using hF', .inr ⟨g, c, _, rfl, hb, heap_sortI _ hgg, hnc, hm, by simpa [putCells] using hsz, ?_⟩⟩, (Kept.grownBy (grownBy_sortI _)).mono fun b _ h => by simpa [Value.ownBlock] using h⟩
    have := take_putI cur (sortI xs).toArray (by rw [hF]; omega)
    rw [hF] at this
    rw [Nat.mul_one]
    exact this
theorem sortI_len (xs : List Int) : (sortI xs).length = xs.length := by simp [sortI]
theorem clock_gives {w : World} {c cb : Nat} {ring : List Int} {of : List (Int × Value)} {H : Nat → Prop} (h : ClockAt ring of (ptr cb) H w) (hc : rd w c 0 = some (ptr cb)) (hl : ring.length ≤ 100000) :
    GivesV Tryz.prog 132 [ptr c] (ring.map fun x => [vi x]) (fun _ => False) w := by
  refine ⟨fun y J Jx W hk hab habx hY h0 => ?_⟩
  refine (vc132 y (some ⟨c, 0, none⟩) W (fun v w' => (∃ Y, J Y (ring.map fun x => [vi x]).length w') ∨ ∃ Y, Jx Y w') ?_).mono ?_
  rotate_left
  · rintro e w' ⟨v, rfl, hw⟩
    exact ⟨⟨v, rfl⟩, hw⟩
  obtain ⟨b, a, l, cp, m, hb, o, R, M, _⟩ := (ClockAt.stb.kx _ _ _ _ _ h hk fun _ e _ => e.elim).ex
  cases hb
  have hcW := hk.rd_some hc id
  have r1 : rd W cb (0 + 1) = some (.map (some m)) := by rw [o.rd]; rfl
  have r0 : rd W cb 0 = some (.slice a l cp) := by rw [o.rd]; rfl
  unfold vcP132
  refine Wif_yes rfl ⟨_, hcW, ⟨_, fun _ => r1, Wif_no rfl (Wif_yes rfl ⟨_, hcW, Wif_yes rfl ⟨_, _, _, r0, (clone_ints R (by omega)).mono ?_⟩⟩)⟩⟩
  rintro _ w1 ⟨a', c', rfl, k1, R1⟩
  have S1 : SlR RInt 1 w1 a' ring.length c' ring := R1.at.now
  refine ⟨_, _, _, rfl, fun k w' N => ∃ (q : Nat) (Y : Nat → Prop), k = q ∧ q ≤ ring.length ∧ N = ring.length - q ∧ J Y q w' ∧ (0 < ring.length → Y (pb a') ∧ w'.heap[pb a']? = w1.heap[pb a']?),
    ⟨ring.length, 0, _, rfl, by omega, rfl, hab _ _ _ _ h0 (k1.mono fun _ _ e => e.elim), fun h0 => ⟨.inr ?_, rfl⟩⟩, ?_⟩
  · obtain ⟨row, hh⟩ := R1
    rcases hh.2 with ⟨h2, h1⟩ | ⟨g, cap, cur, h2, hb, hgg, _⟩
    · omega
    · cases h2
      exact ⟨hb, (Array.getElem?_eq_some_iff.1 hgg).1⟩
  rintro _ w3 _ ⟨q, Y, rfl, hq, rfl, hJ3, hkb⟩
  refine Wif_intro (fun hc3 => ?_) (fun hc3 => ?_)
  · have hqd : q < ring.length := by simp at hc3; omega
    obtain ⟨x, hx⟩ : ∃ x, ring[q]? = some x := ⟨ring[q], List.getElem?_eq_getElem hqd⟩
    obtain ⟨cs, _, hR, hr⟩ := S1.el q x hx
    obtain rfl : cs = [vi x] := hR
    refine Wif_yes (S1.isp (by omega)) (Wif_yes (inB_of (by omega) (by omega)) ⟨x, ?_, ?_⟩)
    · rw [Int.toNat_natCast, rd_def, (hkb (by omega)).2, ← rd_def]
      exact hr 0 _ rfl
    have hy := hY _ q [vi x] w3 (by simp [hx]) hJ3
    obtain ⟨fn, tm, asg', bo, hrun, hR⟩ := hy.run
    refine ⟨fn, tm, asg', bo, hrun, hR.mono ?_⟩
    rintro en w6 ⟨k6, ⟨rfl, hJ6⟩ | ⟨rfl, hx6⟩⟩
    · exact ⟨true, rfl, Wif_no rfl ⟨ring.length - (q + 1), by omega, q + 1, _, by rw [wi (by omega)]; rfl, by omega, rfl, hJ6, fun h0 => ⟨(hkb h0).1, (k6.blk _ (.inl (hkb h0).1)).trans (hkb h0).2⟩⟩⟩
    · exact ⟨false, rfl, Wif_yes rfl (.inr ⟨_, hx6⟩)⟩
  · have : q = ring.length := by simp at hc3; omega
    subst this
    refine .inl ⟨Y, ?_⟩
    rw [List.length_map]
    exact hJ3
theorem sorted_clock {w : World} {c cb : Nat} {ring : List Int} {of : List (Int × Value)} {H : Nat → Prop} (h : ClockAt ring of (ptr cb) H w) (hc : rd w c 0 = some (ptr cb)) (hl : ring.length ≤ 100000) :
    Calls Tryz.prog 76 #[.func (.func 132) #[] #[ptr c]] w fun e w' => ∃ (a : Option Addr) (l c : Nat), e = .returned (.slice a l c) ∧ RowI w' w.heap.size a l c (sortI ring) ∧ Kept none' w w' := by
  refine (vc76 _ w (fun v w' => ∃ (a : Option Addr) (l c : Nat), v = .slice a l c ∧ RowI w' w.heap.size a l c (sortI ring) ∧ Kept none' w w') ?_).mono ?_
  rotate_left
  · rintro e w' ⟨v, rfl, a, l, c, rfl, hw⟩
    exact ⟨a, l, c, rfl, hw⟩
  unfold vcP76
  refine (appI_ok (R := fun _ => False) (fun w' k => clock_gives (ClockAt.stb.kx _ _ _ _ _ h k fun _ e _ => e.elim) (k.rd_some hc id) hl) (fun _ e => e.elim) hl).mono ?_
  rintro _ w1 ⟨a1, l1, c1, rfl, row, k1⟩
  refine ⟨a1, l1, c1, rfl, (sort_row row (by omega)).mono ?_⟩
  rintro _ w2 ⟨rfl, row2, k2⟩
  exact ⟨rfl, a1, l1, c1, rfl, row2, own0 k1 k2 fun b hb => (row.lt hb).1⟩
theorem clocks_pic {w : World} {k kb : Nat} {S : Mach} {fp : Prt → Nat → Prop} (h : CoreAt w k S fp) (hk : rd w kb 0 = some (ptr k)) (hl : ∀ i, i < S.nodes → (S.ring i).length ≤ 100000) :
    Calls Tryz.prog 67 #[vi (S.c 0), .func (.func 75) #[] #[ptr kb]] w fun e w' => ∃ a l c, e = .returned (.slice a l c) ∧ Kept none' w w' ∧ At (rng w w') (fun W => SlR (RL RInt 1) 1 W a l c ((List.range S.nodes).map fun i => sortI (S.ring i))) w' := by
  have hs := h.sizes
  rw [← hs.1.2.2]
  refine (sev67 (n := S.nodes) (w0 := w) (by omega) (makes_row (A := fun j => ToldA (RL RInt 1) (sortI (S.ring j))) (fun _ _ => ToldA.stb) fun i w1 hi k1 => CallsV.mk _ #[] #[_] rfl (by kernel_rfl) ?_) jrow0).mono ?_
  · have C1 := h.k k1
    have hh : RowA (fun i => ClockAt (S.ring i) (S.cof i)) S.nodes S.vck (fp .clocks) w1 := C1.at' .clocks
    obtain ⟨g, cp, u, H, hv, hr, hA, _, _⟩ := hh.one (B := fun i => ClockAt (S.ring i) (S.cof i)) (w' := w1) (fun _ _ => ClockAt.stb) hi fun _ _ => rfl
    obtain ⟨cb, _, _, _, _, rfl, _⟩ := hA.ex
    refine (vc75 i (some ⟨kb, 0, none⟩) w1 (fun v w' => ∃ a' l' c', v = (.slice a' l' c') ∧ Kept none' w1 w' ∧ RowI w' w1.heap.size a' l' c' (sortI (S.ring i))) ?_).mono ?_
    · unfold vcP75
      refine Wif_yes rfl ⟨_, k1.rd_some hk id, Wif_yes rfl ⟨some ⟨g, 0, none⟩, S.nodes, cp, ?_, Wif_yes rfl (Wif_yes (inB_of (by omega) (by omega)) ⟨some ⟨cb, 0, none⟩, ?_, (vc77 (some ⟨cb, 0, none⟩) w1 (fun v w' => v = .func (.func 132) #[] #[ptr w1.heap.size] ∧ w' = w1.alloc (.cells #[ptr cb] 114)) ?_).mono ?_⟩)⟩⟩
      · have := C1.rt (j := 6) (v := S.vck) rfl
        rw [hv] at this
        show rd w1 k (0 + 100) = _
        rw [Nat.zero_add]
        exact this
      · rw [Int.toNat_natCast, Nat.mul_one]
        show rd w1 g (0 + i) = _
        rw [Nat.zero_add]
        exact hr
      · unfold vcP77
        rintro w2 rfl
        exact ⟨rfl, rfl⟩
      · rintro _ w2 ⟨v, rfl, rfl, e2⟩
        have k2 : Kept none' w1 w2 := (Kept.refl _ _).al e2
        have o2 := own_alloc (c := [ptr cb]) e2
        refine ⟨_, rfl, (sorted_clock (ClockAt.stb.kx _ _ _ _ _ hA k2 fun _ e _ => e.elim) (by rw [o2.rd]; rfl) (hl i hi)).mono ?_⟩
        rintro _ w3 ⟨a', l', c', rfl, R2, k3⟩
        exact ⟨a', l', c', rfl, a', l', c', rfl, k2.tr k3, R2.weak k2.sz⟩
    · rintro e w' ⟨v, rfl, a', l', c', rfl, k2, R2⟩
      exact ⟨_, _, ⟨_, _, _, rfl, rfl⟩, rfl, k2, R2.at.imp fun W hW => ⟨a', _, c', rfl, hW⟩, fun x hx => (R2.lt hx).1⟩
  · rintro e w' ⟨a, c, F, vs, rfl, kk, row, hj, hF, _⟩
    exact ⟨a, _, c, rfl, kk, pics_row row hj hF⟩
open Go.Shelf
abbrev nilS : Value := .slice none 0 0
theorem concat_nilsC {w : World} {X m cp : Nat} {cs : List Value} (hm : m ≤ 2) (ho : own w X cs) (hc : ∀ j, j < m → cs[j]? = some nilS) :
    Calls Tryz.prog 141 #[.slice (some ⟨X, 0, none⟩) m cp] w fun e w' => ∃ (a : Option Addr) (c : Nat), e = .returned (.slice a 0 c) ∧ w'.ownsRow w.heap.size 165 2 (.slice a 0 c) 0 [] ∧ Kept none' w w' := by
  refine (vc141 (some ⟨X, 0, none⟩) m cp w (fun v w' => ∃ (a : Option Addr) (c : Nat), v = (.slice a 0 c) ∧ w'.ownsRow w.heap.size 165 2 (.slice a 0 c) 0 [] ∧ Kept none' w w') ?_).mono ?_
  rotate_left
  · rintro e w' ⟨v, rfl, a, c, rfl, h⟩
    exact ⟨a, c, rfl, h⟩
  unfold vcP141
  have hrd : ∀ {w' : World}, Kept none' w w' → ∀ q, q < m → rd w' X (0 + Int.toNat (q : Int) * 1) = some nilS := fun k q hq => by
    rw [Int.toNat_natCast, Nat.mul_one, Nat.zero_add, (ho.k k).rd, hc q hq]
  refine ⟨fun n k w' N => ∃ q : Nat, n = 0 ∧ k = q ∧ q ≤ m ∧ N = m - q ∧ w' = w, ⟨m, 0, rfl, rfl, Nat.zero_le _, rfl, rfl⟩, ?_⟩
  rintro _ _ w1 _ ⟨q, rfl, rfl, hq, rfl, rfl⟩
  refine Wif_intro (fun hc1 => ?_) (fun hc1 => ?_)
  · have hqm : q < m := by simp at hc1; omega
    refine Wif_yes rfl (Wif_yes (inB_of (by omega) (by omega)) ⟨none, 0, 0, hrd (Kept.refl _ _) q hqm, Wif_no (by decide) ⟨m - (q + 1), by omega, q + 1, rfl, by rw [wi (by omega)]; rfl, by omega, rfl, rfl⟩⟩)
  refine (Any8.slices_Grow_room Tryz.growO none 0 0 0 w1 (by omega) (by omega) (by omega) (by omega)).mono ?_
  rintro e wx ⟨rfl, hx⟩
  rw [hx]
  clear hx
  refine ⟨none, 0, 0, rfl, fun a l c k w' N => ∃ q : Nat, l = 0 ∧ k = q ∧ q ≤ m ∧ N = m - q ∧ w'.ownsRow w1.heap.size 165 2 (.slice a 0 c) 0 [] ∧ Kept none' w1 w', ⟨m, 0, rfl, rfl, Nat.zero_le _, rfl, World.ownsRow_nil _ _ _ _, Kept.refl _ _⟩, ?_⟩
  rintro a _ c _ w2 _ ⟨q, rfl, rfl, hq, rfl, row2, k2⟩
  refine Wif_intro (fun hc2 => ?_) (fun hc2 => ⟨a, c, rfl, row2, k2⟩)
  have hqm : q < m := by simp at hc2; omega
  refine Wif_yes rfl (Wif_yes (inB_of (by omega) (by omega)) ⟨none, 0, 0, hrd k2 q hqm, ?_⟩)
  obtain ⟨i, z, hi, hz, hsz, hzs, hby⟩ := (elT (S := 147) (T := 165) (z := .agg #[.int .i64 0, .int .i64 0]) (s := 2) Tryz.underlying147 (by kernel_rfl) rfl (by decide)).ex
  obtain ⟨a', c', w3, happ, row, k3⟩ := Eng.app (P := Tryz.prog) (t := 147) (ty := 147) (e := 165) (i := i) (z := z) (size := 2) Tryz.underlying147 hi hz hsz hzs (by decide) row2 (Eng.Src.nil' (w := w2)) rfl (fun u hu => by simp at hu) (by omega) (by omega) k2.sz
  exact ⟨a', 0, c', w3, happ, m - (q + 1), by omega, q + 1, rfl, by rw [wi (by omega)]; rfl, by omega, rfl, by simpa using row, own0 k2 k3 fun x e => (row2.lt x e).1⟩
theorem concat_nils {w : World} {X m : Nat} {cs : List Value} (hm : m ≤ 2) (ho : own w X cs) (hc : ∀ j, j < m → cs[j]? = some nilS) :
    Calls Tryz.prog 141 #[.slice (some ⟨X, 0, none⟩) m m] w fun e w' => ∃ (a : Option Addr) (c : Nat), e = .returned (.slice a 0 c) ∧ w'.ownsRow w.heap.size 165 2 (.slice a 0 c) 0 [] ∧ Kept none' w w' := concat_nilsC hm ho hc
theorem row_told {w : World} {base : Nat} {a : Option Addr} {c : Nat} (row : w.ownsRow base 165 2 (.slice a 0 c) 0 []) : At (fun x => (Value.slice a 0 c).ownBlock = some x) (fun W => RL RPair 2 W [.slice a 0 c] []) w :=
  (at_flat (f := fun x : Int × Int => [vi x.1, vi x.2]) (fun _ => rfl) (xs := []) row rfl).imp fun W hW => ⟨a, 0, c, rfl, hW⟩
theorem magAll_nil {w : World} {u : Value} {H : Nat → Prop} (h : Bin0 u H w) : Calls Tryz.prog 84 #[u] w fun e w' => ∃ (a : Option Addr) (c : Nat), e = .returned (.slice a 0 c) ∧ w'.ownsRow w.heap.size 165 2 (.slice a 0 c) 0 [] ∧ Kept none' w w' := by
  obtain ⟨b, rfl, o, _⟩ := h.ex
  refine (vc84 (some ⟨b, 0, none⟩) w (fun v w' => ∃ (a : Option Addr) (c : Nat), v = (.slice a 0 c) ∧ w'.ownsRow w.heap.size 165 2 (.slice a 0 c) 0 [] ∧ Kept none' w w') ?_).mono ?_
  rotate_left
  · rintro e w' ⟨v, rfl, a, c, rfl, h⟩
    exact ⟨a, c, rfl, h⟩
  unfold vcP84
  refine Wif_no rfl fun w1 e1 => ?_
  have o1 := o.dr e1
  have k1 : Kept none' w w1 := (Kept.refl _ _).dr e1
  have s1 : w1.heap.size = w.heap.size := by rw [e1]; rfl
  refine Wif_yes rfl ⟨none, 0, 0, by show rd w1 b (0 + 2) = _; rw [o1.rd]; rfl, Wif_yes rfl ⟨none, 0, 0, by show rd w1 b (0 + 1) = _; rw [o1.rd]; rfl, fun w2 e2 => ?_⟩⟩
  have o2 := own_alloc (c := [nilS, nilS]) e2
  have k2 : Kept none' w1 w2 := (Kept.refl _ _).al e2
  refine (concat_nils (m := 2) (by omega) o2 fun j hj => by match j, hj with | 0, _ | 1, _ => rfl).mono ?_
  rintro _ w3 ⟨a, c, rfl, row, k3⟩
  exact ⟨a, 0, c, rfl, a, c, rfl, ownsRow_base_a row (by have := k1.sz; have := k2.sz; omega), (k1.tr k2).tr k3⟩
theorem clone_nil (w : World) : Calls Tryz.prog 142 #[nilS] w fun e w' => e = .returned nilS ∧ w' = w := by
  refine (vc142 none 0 0 w (fun v w' => v = nilS ∧ w' = w) ?_).mono ?_
  · unfold vcP142
    exact Wif_yes rfl ⟨rfl, rfl⟩
  · rintro e w' ⟨v, rfl, rfl, rfl⟩
    exact ⟨rfl, rfl⟩
theorem depAll_nil {w : World} {u : Value} {H : Nat → Prop} (h : Bin0 u H w) : Calls Tryz.prog 87 #[u] w fun e w' => ∃ (a : Option Addr) (c : Nat), e = .returned (.slice a 0 c) ∧ w'.ownsRow w.heap.size 165 2 (.slice a 0 c) 0 [] ∧ Kept none' w w' := by
  obtain ⟨b, rfl, o, _⟩ := h.ex
  refine (vc87 (some ⟨b, 0, none⟩) w (fun v w' => ∃ (a : Option Addr) (c : Nat), v = (.slice a 0 c) ∧ w'.ownsRow w.heap.size 165 2 (.slice a 0 c) 0 [] ∧ Kept none' w w') ?_).mono ?_
  rotate_left
  · rintro e w' ⟨v, rfl, a, c, rfl, h⟩
    exact ⟨a, c, rfl, h⟩
  unfold vcP87
  refine Wif_no rfl fun w1 e1 => ?_
  have o1 := o.dr e1
  have k1 : Kept none' w w1 := (Kept.refl _ _).dr e1
  have r1 : ∀ {w' : World}, Kept none' w1 w' → rd w' b (0 + 1) = some nilS := fun k => by rw [(o1.k k).rd]; rfl
  have r2 : ∀ {w' : World}, Kept none' w1 w' → rd w' b (0 + 2) = some nilS := fun k => by rw [(o1.k k).rd]; rfl
  have fin : ∀ {X : Nat} {w2 : World}, Kept none' w1 w2 → own w2 X [nilS] → ∃ (a1 : Option Addr) (l1 c1 : Nat) (w3 : World), appIs Tryz.prog #[50, 50] 50 nilS (.slice (some ⟨X, 0, none⟩) 1 1) (.slice a1 l1 c1) w2 w3 ∧
      Calls Tryz.prog 141 #[.slice a1 l1 c1] w3 fun e w' => ∃ (a : Option Addr) (l c : Nat), e = .returned (.slice a l c) ∧ ∃ (a' : Option Addr) (c' : Nat), (Value.slice a l c) = (.slice a' 0 c') ∧ w'.ownsRow w.heap.size 165 2 (.slice a' 0 c') 0 [] ∧ Kept none' w w' := by
    intro X w2 k2 ox
    obtain ⟨i, z, hi, hz, hsz, hzs, hby⟩ := elT70.ex
    obtain ⟨a1, l1, c1, w3, happ, rfl, row, k3, _⟩ := app_any (P := Tryz.prog) (t := 50) (e := 147) (i := i) (z := z) (size := 1) Tryz.underlying50 hi hz hsz hzs (by decide) (World.ownsRow_nil w2 w2.heap.size 147 1) ox (m := 1) (off := 0) (c := 1) (news := [nilS]) rfl rfl (fun u hu => by simp at hu; subst hu; rfl) (by omega) hby (Nat.le_refl _)
    have k3' : Kept none' w2 w3 := k3.mono fun x _ e => by simp [Value.ownBlock] at e
    obtain ⟨_, hh⟩ := ownsRow_own row
    rcases hh with ⟨_, h0, _⟩ | ⟨g, cs, rfl, hgb, og, htk, hnc, hcl⟩
    · omega
    refine ⟨_, _, _, w3, happ, ?_⟩
    have hc0 : cs[0]? = some nilS := by
      have : (cs.take ((0 + 1) * 1))[0]? = some nilS := by rw [htk]; rfl
      rw [List.getElem?_take] at this
      split at this
      · exact this
      · cases this
    have hgen : Calls Tryz.prog 141 #[.slice (some ⟨g, 0, none⟩) 1 c1] w3 fun e w' => ∃ (a : Option Addr) (c : Nat), e = .returned (.slice a 0 c) ∧ w'.ownsRow w3.heap.size 165 2 (.slice a 0 c) 0 [] ∧ Kept none' w3 w' := concat_nilsC (by omega) og fun j hj => by
      match j, hj with
      | 0, _ => exact hc0
    refine hgen.mono ?_
    rintro _ w4 ⟨a, c, rfl, row4, k4⟩
    exact ⟨a, 0, c, rfl, a, c, rfl, ownsRow_base_a row4 (by have := k1.sz; have := k2.sz; have := k3'.sz; omega), ((k1.tr k2).tr k3').tr k4⟩
  refine Wif_yes rfl ⟨none, 0, 0, r1 (Kept.refl _ _), Wif_yes rfl ⟨none, 0, 0, r2 (Kept.refl _ _), (clone_nil w1).mono ?_, fun w2 e2 => ⟨⟨r1 ((Kept.refl _ _).al e2), trivial⟩, (clone_nil w2).mono ?_⟩⟩⟩
  · rintro _ _ ⟨rfl, rfl⟩
    refine ⟨none, 0, 0, rfl, ⟨r2 (Kept.refl _ _), trivial⟩, fun w2 e2 => fin ((Kept.refl _ _).al e2) (own_alloc e2)⟩
  · rintro _ w3 ⟨rfl, e3⟩
    rw [e3]
    exact ⟨none, 0, 0, rfl, fin ((Kept.refl _ _).al e2) (own_alloc e2)⟩
section
variable {w : World} {k kb : Nat} {S : Mach} {fp : Prt → Nat → Prop}
theorem mags_pic (h : CoreAt w k S fp) (hk : rd w kb 0 = some (ptr k)) :
    Calls Tryz.prog 81 #[vi (S.c 1), .func (.func 82) #[] #[ptr kb]] w fun e w' => ∃ a l c, e = .returned (.slice a l c) ∧ Kept none' w w' ∧ At (rng w w') (fun W => SlR (RL (RL RPair 2) 1) 1 W a l c ((List.range S.cpus).map fun _ => (List.range 8).map fun _ => [])) w' := by
  have hs := h.sizes
  rw [← hs.2.1.2.2]
  refine (sev81 (n := S.cpus) (w0 := w) (by omega) (makes_row (A := fun j => ToldA (RL (RL RPair 2) 1) ((List.range 8).map fun _ => [])) (fun _ _ => ToldA.stb) fun i w1 hi k1 => CallsV.mk _ #[] #[_] rfl (by kernel_rfl) ?_) jrow0).mono ?_
  · refine (vc82 i (some ⟨kb, 0, none⟩) w1 (fun v w' => ∃ a l c, v = (.slice a l c) ∧ Kept none' w1 w' ∧ ∃ H : Nat → Prop, At H (fun W => RL (RL RPair 2) 1 W [.slice a l c] ((List.range 8).map fun _ => [])) w' ∧ ∀ x, H x → w1.heap.size ≤ x) ?_).mono ?_
    · unfold vcP82
      intro w2 e2
      have o2 := own_alloc (c := [vi i]) e2
      have k2 : Kept none' w1 w2 := (Kept.refl _ _).al e2
      refine (sev70 (n := 8) (w0 := w2) (by omega) (makes_row (A := fun j => ToldA (RL RPair 2) []) (fun _ _ => ToldA.stb) fun j w3 hj k3 => CallsV.mk _ #[] #[_, _] rfl (by kernel_rfl) ?_) jrow0).mono ?_
      · have C3 := h.k ((k1.tr k2).tr k3)
        have hh : RowA (fun i => RowA (fun _ => Bin0) 8) S.cpus S.vma (fp .mags) w3 := C3.at' .mags
        obtain ⟨g, cp, u, H, hv, hr, hA, _, _⟩ := hh.one (B := fun i => RowA (fun _ => Bin0) 8) (w' := w3) (fun _ _ => RowA.stb fun _ _ => Bin0.stb) hi fun _ _ => rfl
        obtain ⟨g2, cp2, u2, H2, rfl, hr2, hB, _, _⟩ := hA.one (B := fun i => Bin0) (w' := w3) (fun _ _ => Bin0.stb) hj fun _ _ => rfl
        obtain ⟨b, rfl, _⟩ := hB.ex
        refine (vc83 j (some ⟨kb, 0, none⟩) (some ⟨w1.heap.size, 0, none⟩) w3 (fun v w' => ∃ (a : Option Addr) (c : Nat), v = (.slice a 0 c) ∧ w'.ownsRow w3.heap.size 165 2 (.slice a 0 c) 0 [] ∧ Kept none' w3 w') ?_).mono ?_
        · unfold vcP83
          intro w4 e4
          have k4 : Kept none' w3 w4 := (Kept.refl _ _).dr e4
          have s4 : w4.heap.size = w3.heap.size := by rw [e4]; rfl
          have hk4 : rd w4 kb 0 = some (ptr k) := (((k1.tr k2).tr k3).tr k4).rd_some hk id
          refine Wif_yes rfl ⟨_, hk4, Wif_yes rfl ⟨some ⟨g, 0, none⟩, S.cpus, cp, ?_, Wif_yes rfl ⟨(i : Int), ?_, Wif_yes rfl (Wif_yes (inB_of (by omega) (by omega)) ⟨some ⟨g2, 0, none⟩, 8, cp2, ?_, Wif_yes rfl (Wif_yes (inB_of (by omega) (by omega)) ⟨some ⟨b, 0, none⟩, ?_, (magAll_nil (Bin0.stb.kx _ _ _ _ _ hB k4 fun _ e _ => e.elim)).mono ?_⟩)⟩)⟩⟩⟩
          · have := (C3.k k4).rt (j := 9) (v := S.vma) rfl
            rw [hv] at this
            show rd w4 k (0 + 103) = _
            rw [Nat.zero_add]
            exact this
          · show rd w4 w1.heap.size 0 = _
            rw [((o2.k k3).k k4).rd]
            rfl
          · rw [Int.toNat_natCast, Nat.mul_one]
            show rd w4 g (0 + i) = _
            rw [Nat.zero_add]
            exact k4.rd_some hr id
          · rw [Int.toNat_natCast, Nat.mul_one]
            show rd w4 g2 (0 + j) = _
            rw [Nat.zero_add]
            exact k4.rd_some hr2 id
          · rintro _ w5 ⟨a, c, rfl, row, k5⟩
            exact ⟨a, 0, c, rfl, ⟨k5.rd_some hk4 id, trivial⟩, a, c, rfl, ownsRow_base_a row (by omega), k4.tr k5⟩
        · rintro e w' ⟨v, rfl, a, c, rfl, row, k5⟩
          exact ⟨_, _, ⟨_, _, _, rfl, rfl⟩, rfl, k5, row_told row, fun x hx => (row.lt x hx).1⟩
      · rintro e w' ⟨a, c, F, vs, rfl, kk, row, hj, hF, _⟩
        have h2 := k2.sz
        exact ⟨a, 8, c, rfl, a, 8, c, rfl, k2.tr kk, rng w2 w', (pics_row row hj hF).imp fun W hW => ⟨a, 8, c, rfl, hW⟩, fun x hx => by have := hx.1; omega⟩
    · rintro e w' ⟨v, rfl, a, l, c, rfl, kk, H, hA, hx⟩
      exact ⟨_, H, ⟨_, _, _, rfl, rfl⟩, rfl, kk, hA, hx⟩
  · rintro e w' ⟨a, c, F, vs, rfl, kk, row, hj, hF, _⟩
    exact ⟨a, _, c, rfl, kk, pics_row row hj hF⟩
end
section
variable {w : World} {k kb : Nat} {S : Mach} {fp : Prt → Nat → Prop}
theorem depots_pic (h : CoreAt w k S fp) (hk : rd w kb 0 = some (ptr k)) :
    Calls Tryz.prog 81 #[vi (S.c 0), .func (.func 85) #[] #[ptr kb]] w fun e w' => ∃ a l c, e = .returned (.slice a l c) ∧ Kept none' w w' ∧ At (rng w w') (fun W => SlR (RL (RL RPair 2) 1) 1 W a l c ((List.range S.nodes).map fun _ => (List.range 8).map fun _ => [])) w' := by
  have hs := h.sizes
  rw [← hs.1.2.2]
  refine (sev81 (n := S.nodes) (w0 := w) (by omega) (makes_row (A := fun j => ToldA (RL (RL RPair 2) 1) ((List.range 8).map fun _ => [])) (fun _ _ => ToldA.stb) fun i w1 hi k1 => CallsV.mk _ #[] #[_] rfl (by kernel_rfl) ?_) jrow0).mono ?_
  · refine (vc85 i (some ⟨kb, 0, none⟩) w1 (fun v w' => ∃ a l c, v = (.slice a l c) ∧ Kept none' w1 w' ∧ ∃ H : Nat → Prop, At H (fun W => RL (RL RPair 2) 1 W [.slice a l c] ((List.range 8).map fun _ => [])) w' ∧ ∀ x, H x → w1.heap.size ≤ x) ?_).mono ?_
    · unfold vcP85
      intro w2 e2
      have o2 := own_alloc (c := [vi i]) e2
      have k2 : Kept none' w1 w2 := (Kept.refl _ _).al e2
      refine (sev70 (n := 8) (w0 := w2) (by omega) (makes_row (A := fun j => ToldA (RL RPair 2) []) (fun _ _ => ToldA.stb) fun j w3 hj k3 => CallsV.mk _ #[] #[_, _] rfl (by kernel_rfl) ?_) jrow0).mono ?_
      · have C3 := h.k ((k1.tr k2).tr k3)
        have hh : RowA (fun i => RowA (fun _ => Bin0) 8) S.nodes S.vde (fp .depots) w3 := C3.at' .depots
        obtain ⟨g, cp, u, H, hv, hr, hA, _, _⟩ := hh.one (B := fun i => RowA (fun _ => Bin0) 8) (w' := w3) (fun _ _ => RowA.stb fun _ _ => Bin0.stb) hi fun _ _ => rfl
        obtain ⟨g2, cp2, u2, H2, rfl, hr2, hB, _, _⟩ := hA.one (B := fun i => Bin0) (w' := w3) (fun _ _ => Bin0.stb) hj fun _ _ => rfl
        obtain ⟨b, rfl, _⟩ := hB.ex
        refine (vc86 j (some ⟨kb, 0, none⟩) (some ⟨w1.heap.size, 0, none⟩) w3 (fun v w' => ∃ (a : Option Addr) (c : Nat), v = (.slice a 0 c) ∧ w'.ownsRow w3.heap.size 165 2 (.slice a 0 c) 0 [] ∧ Kept none' w3 w') ?_).mono ?_
        · unfold vcP86
          intro w4 e4
          have k4 : Kept none' w3 w4 := (Kept.refl _ _).dr e4
          have s4 : w4.heap.size = w3.heap.size := by rw [e4]; rfl
          have hk4 : rd w4 kb 0 = some (ptr k) := (((k1.tr k2).tr k3).tr k4).rd_some hk id
          refine Wif_yes rfl ⟨_, hk4, Wif_yes rfl ⟨some ⟨g, 0, none⟩, S.nodes, cp, ?_, Wif_yes rfl ⟨(i : Int), ?_, Wif_yes rfl (Wif_yes (inB_of (by omega) (by omega)) ⟨some ⟨g2, 0, none⟩, 8, cp2, ?_, Wif_yes rfl (Wif_yes (inB_of (by omega) (by omega)) ⟨some ⟨b, 0, none⟩, ?_, (depAll_nil (Bin0.stb.kx _ _ _ _ _ hB k4 fun _ e _ => e.elim)).mono ?_⟩)⟩)⟩⟩⟩
          · have := (C3.k k4).rt (j := 8) (v := S.vde) rfl
            rw [hv] at this
            show rd w4 k (0 + 102) = _
            rw [Nat.zero_add]
            exact this
          · show rd w4 w1.heap.size 0 = _
            rw [((o2.k k3).k k4).rd]
            rfl
          · rw [Int.toNat_natCast, Nat.mul_one]
            show rd w4 g (0 + i) = _
            rw [Nat.zero_add]
            exact k4.rd_some hr id
          · rw [Int.toNat_natCast, Nat.mul_one]
            show rd w4 g2 (0 + j) = _
            rw [Nat.zero_add]
            exact k4.rd_some hr2 id
          · rintro _ w5 ⟨a, c, rfl, row, k5⟩
            exact ⟨a, 0, c, rfl, ⟨k5.rd_some hk4 id, trivial⟩, a, c, rfl, ownsRow_base_a row (by omega), k4.tr k5⟩
        · rintro e w' ⟨v, rfl, a, c, rfl, row, k5⟩
          exact ⟨_, _, ⟨_, _, _, rfl, rfl⟩, rfl, k5, row_told row, fun x hx => (row.lt x hx).1⟩
      · rintro e w' ⟨a, c, F, vs, rfl, kk, row, hj, hF, _⟩
        have h2 := k2.sz
        exact ⟨a, 8, c, rfl, a, 8, c, rfl, k2.tr kk, rng w2 w', (pics_row row hj hF).imp fun W hW => ⟨a, 8, c, rfl, hW⟩, fun x hx => by have := hx.1; omega⟩
    · rintro e w' ⟨v, rfl, a, l, c, rfl, kk, H, hA, hx⟩
      exact ⟨_, H, ⟨_, _, _, rfl, rfl⟩, rfl, kk, hA, hx⟩
  · rintro e w' ⟨a, c, F, vs, rfl, kk, row, hj, hF, _⟩
    exact ⟨a, _, c, rfl, kk, pics_row row hj hF⟩
end
open Go.RowKit Go.Maps Go.Sort Go.Shelf
def intP (x : Nat × Nat) : Int × Int := (x.1, x.2)
theorem blocks_pic {w : World} {z : Nat} {Z : Zs} {L : Nat → List Bk} (h : ZAt w z Z L) :
    Calls Tryz.prog 66 #[ptr z] w fun e w1 => ∃ v, e = .returned v ∧ Calls Tryz.prog 65 #[v] w1 fun e w' => ∃ a l c, e = .returned (.slice a l c) ∧ Kept none' w w' ∧ At (rng w w') (fun W => SlR RPair 2 W a l c ((zsh Z.c L Z.k).map intP)) w' := by
  have hl : (zsh Z.c L Z.k).length ≤ 100000 := by
    have h8 := h.k8
    have := zsh_len (c := Z.c) (L := L) (k := Z.k) fun i hi => by
      have h1 := bks_le (h.iv i hi).tl
      have := (n_int h hi).2.2
      omega
    omega
  refine (vc66 (some ⟨z, 0, none⟩) w (fun v w' => v = .func (.func 122) #[] #[ptr w.heap.size] ∧ w' = w.alloc (.cells #[ptr z] 37)) ?_).mono ?_
  · unfold vcP66
    rintro w1 rfl
    exact ⟨rfl, rfl⟩
  rintro e w1 ⟨v, rfl, rfl, e1⟩
  have k1 : Kept none' w w1 := (Kept.refl _ _).al e1
  have o1 := own_alloc (c := [ptr z]) e1
  refine ⟨_, rfl, (vc65 _ w1 (fun v w' => ∃ a l c, v = (.slice a l c) ∧ Kept none' w w' ∧ At (rng w w') (fun W => SlR RPair 2 W a l c ((zsh Z.c L Z.k).map intP)) w') ?_).mono ?_⟩
  · unfold vcP65
    refine (appB_ok (h.k k1) (by rw [o1.rd]; rfl) hl).mono ?_
    rintro _ w2 ⟨a, l, c, rfl, hl2, row, k2⟩
    have e2 : (zsh Z.c L Z.k).flatMap blkC = ((zsh Z.c L Z.k).map intP).flatMap fun x => [vi x.1, vi x.2] := by rw [List.flatMap_map]; rfl
    rw [e2] at row
    refine ⟨a, l, c, rfl, a, l, c, rfl, k1.tr k2, (at_flat (f := fun x : Int × Int => [vi x.1, vi x.2]) (fun _ => rfl) row (by rw [List.length_map]; exact hl2)).mono (fun x hx => ?_) fun x hx => hx.2⟩
    have := row.lt x hx
    have := k1.sz
    exact ⟨by omega, by omega⟩
  · rintro e w' ⟨v, rfl, a, l, c, rfl, h⟩
    exact ⟨a, l, c, rfl, h⟩
theorem keysS_call (mb : Option Nat) (w : World) : Calls Tryz.prog 135 #[.map mb] w fun e w' => e = .returned (.func (.func 183) #[] #[.pointer (some ⟨w.heap.size, 0, none⟩)]) ∧ w' = w.alloc (.cells #[.map mb] 144) := by
  refine (callsIn_wide (n := 6)).1 ?_
  exact AnyZI.keys_in Tryz.keysA Fence.wide 6 trivial rfl mb w
theorem sortedS_call {w w1 : World} {b : Nat} {m : List (Int × Value)} (h : MapIs w b m) (hs : m.length ≤ 1000000) (e : w1 = w.alloc (.cells #[.map (some b)] 144)) :
    Calls Tryz.prog 76 #[.func (.func 183) #[] #[.pointer (some ⟨w.heap.size, 0, none⟩)]] w1 fun e w' => ∃ (a : Option Addr) (c : Nat) (ks : List Int), e = .returned (.slice a ks.length c) ∧ ks = (m.map (·.1)).mergeSort (fun x y => decide (x ≤ y)) ∧
      w'.ownsRow w.heap.size 3 1 (.slice a ks.length c) ks.length (ks.map (Value.int .i64)) ∧ Kept none' w w' := by
  subst e
  obtain ⟨D, hown, hperm, hsz⟩ := map_owns (P := Tryz.prog) (kt := 3) Tryz.underlying3 h (by unfold maxLen; omega)
  have hbl := h.lt
  have hseq : SeqGives Fence.wide 3 Tryz.prog 183 #[.pointer (some ⟨w.heap.size, 0, none⟩)] encZ (fun ss => ss.Perm (intKeys D)) (Maps.size D) (w.alloc (.cells #[.map (some b)] 144)) :=
    AnyZI.keys_gives (ρ := Tryz.keysA_ren) { Tryz.keysA with } Fence.wide _ trivial rfl (by omega) w.heap.size b m.length D _ (by simp) (by simp) (by
      obtain ⟨es, clock, hb, Ft, hs, hD⟩ := hown
      exact ⟨es, clock, (Below.heap_alloc _ _ b hbl).trans hb, Ft, hs, hD⟩)
  have cS := AnyZI.sorted_in Tryz.sortedA Fence.wide 6 trivial trivial trivial trivial rfl (by omega) (sortsA _) (enters_of Tryz.func131 (by kernel_rfl) rfl) 183 #[.pointer (some ⟨w.heap.size, 0, none⟩)] trivial (enters_of Tryz.func183 (by kernel_rfl) rfl) _ _ (by rw [hsz]; unfold maxLen; omega) (by rw [hsz]; omega) _ hseq
  change CallsIn _ _ Tryz.prog 76 _ _ _ at cS
  refine ((callsIn_wide (n := 6)).1 cS).mono ?_
  rintro e w' ⟨v, ss, rfl, hS, hrow, hnil, hb⟩
  have hks : ss.mergeSort (fun x y => decide (x ≤ y)) = (m.map (·.1)).mergeSort (fun x y => decide (x ≤ y)) := mergeSort_of_perm_i (hS.trans hperm)
  have hlen : ss.length = ((m.map (·.1)).mergeSort (fun x y => decide (x ≤ y))).length := by rw [← hks, List.length_mergeSort]
  rw [hks, hlen] at hrow
  have hv : ∃ a c, v = .slice a ((m.map (·.1)).mergeSort (fun x y => decide (x ≤ y))).length c := by
    rcases hrow.2 with ⟨rfl, h0⟩ | ⟨g, cap, cur, rfl, _⟩
    · exact ⟨none, 0, by rw [h0]⟩
    · exact ⟨_, _, rfl⟩
  obtain ⟨a, c, rfl⟩ := hv
  refine ⟨a, c, _, rfl, rfl, ownsRow_base_a hrow (by simp), ?_⟩
  have k1 : Kept none' w (w.alloc (.cells #[.map (some b)] 144)) := (Kept.refl _ _).alloc _ _
  exact k1.trans (X := none') (Y := none') ⟨hb.os, hb.tape, hb.output, hb.size, fun i hi _ => hb.block i hi⟩ (fun _ _ h => h)
theorem frames0 {w : World} {size : Int} {u : Value} {H : Nat → Prop} (h : Cache0 size u H w) : Calls Tryz.prog 79 #[u] w fun e w' => ∃ a c, e = .returned (.slice a 0 c) ∧ Kept none' w w' := by
  obtain ⟨b, m, rfl, o, M, _⟩ := h.ex
  refine (vc79 (some ⟨b, 0, none⟩) w (fun v w' => ∃ a c, v = (.slice a 0 c) ∧ Kept none' w w') ?_).mono ?_
  · unfold vcP79
    have h2 : rd w b (0 + 2) = some (.map (some m)) := by rw [o.rd]; rfl
    refine ⟨_, fun _ => h2, Wif_no rfl (Wif_yes rfl ⟨_, h2, (keysS_call (some m) w).mono ?_⟩)⟩
    rintro _ w1 ⟨rfl, e1⟩
    refine ⟨_, rfl, (sortedS_call M (by simp) e1).mono ?_⟩
    rintro _ w2 ⟨a, c, ks, rfl, hks, _, k2⟩
    have : ks.length = 0 := by rw [hks]; simp
    rw [this]
    exact ⟨a, 0, c, rfl, a, c, rfl, k2⟩
  · rintro e w' ⟨v, rfl, a, c, rfl, h⟩
    exact ⟨a, c, rfl, h⟩
end Go.Proofs.YtklmokolnakkoaaGreatDoor
