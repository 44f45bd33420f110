/-
  A part of a proof that a law of this seat returns true at every input. Conditions: those in each theorem.
-/
import Derived.Test.YtklmokolnakkoaaGreatDoorBD1
import Derived.Shelf.SlIterI.Nil
import Derived.Shelf.SlIterI.Collect
import Derived.Shelf.SortM.Plain
import Derived.Shelf.SortM.SortNone
import Derived.Shelf.Spec.SlicesGrow
import Derived.Test.YtklmokolnakkoaaGreatDoorProg
namespace Go.Proofs.YtklmokolnakkoaaGreatDoor
open Go Eng
set_option linter.unusedSimpArgs false
set_option linter.unusedVariables false
set_option maxRecDepth 100000
def stOf (n : Nat) (l : List Bk) : Bst := ⟨n, fun o => fr o l, tk l⟩
theorem fr_cons (j : Nat) (x : Bk) (l : List Bk) : fr j (x :: l) = (if x.g = 0 ∧ x.o = j then [(x.p : Int)] else []) ++ fr j l := by
  by_cases h : x.g = 0 ∧ x.o = j
  · rw [fr_yes _ h.1 h.2, if_pos h]; rfl
  · rw [fr_no _ h, if_neg h]; rfl
theorem tk_cons (x : Bk) (l : List Bk) : tk (x :: l) = (if x.g = 1 then [((x.p : Int), (x.o : Int))] else []) ++ tk l := by
  by_cases h : x.g = 1
  · rw [tk_yes _ h, if_pos h]; rfl
  · rw [tk_no _ h, if_neg h]; rfl
theorem fr_len (j : Nat) (l : List Bk) : (fr j l).length ≤ l.length := by
  unfold fr; rw [List.length_map]; exact List.length_filter_le _ _
theorem small_st {n : Nat} {l : List Bk} (h : Tile 0 l n) (hn : n ≤ 128) : Small (stOf n l) := fun o _ => by
  have := tile_le h; have := fr_len o l; show (fr o l).length ≤ _; omega
theorem freeOf_cons (n : Nat) (x : Bk) (l : List Bk) : ∀ k, freeOf (stOf n (x :: l)) k = freeOf (stOf n l) k + if x.g = 0 ∧ x.o < k then 2 ^ x.o else 0
  | 0 => by simp [freeOf]
  | k + 1 => by
    have ih := freeOf_cons n x l k
    have e1 : freeOf (stOf n (x :: l)) (k + 1) = freeOf (stOf n (x :: l)) k + (fr k (x :: l)).length * 2 ^ k := rfl
    have e2 : freeOf (stOf n l) (k + 1) = freeOf (stOf n l) k + (fr k l).length * 2 ^ k := rfl
    rw [e1, e2, ih, fr_cons]
    by_cases h : x.g = 0 ∧ x.o = k
    · rw [if_pos h, if_neg (by omega), if_pos (by omega), h.2]
      simp only [List.length_append, List.length_cons, List.length_nil, Nat.add_mul]
      omega
    · rw [if_neg h]
      by_cases h2 : x.g = 0 ∧ x.o < k
      · rw [if_pos h2, if_pos (by omega)]; simp only [List.nil_append]; omega
      · rw [if_neg h2, if_neg (by omega)]; simp
theorem freeOf_nil (n : Nat) : ∀ k, freeOf (stOf n []) k = 0
  | 0 => rfl
  | k + 1 => by
    have e2 : freeOf (stOf n []) (k + 1) = freeOf (stOf n []) k + 0 * 2 ^ k := rfl
    rw [e2, freeOf_nil n k]; simp
theorem fsum_cons (x : Bk) (l : List Bk) : fsum (x :: l) = (if x.g = 0 then 2 ^ x.o else 0) + fsum l := rfl
theorem freeOf_st (n : Nat) : ∀ l : List Bk, (∀ x ∈ l, x.o ≤ 10) → freeOf (stOf n l) 11 = fsum l
  | [], _ => freeOf_nil n 11
  | x :: l, h => by
    rw [freeOf_cons, freeOf_st n l fun y hy => h y (List.mem_cons_of_mem _ hy)]
    have := h x (by simp)
    rw [fsum_cons]
    by_cases g : x.g = 0
    · rw [if_pos ⟨g, by omega⟩, if_pos g]; omega
    · rw [if_neg (fun e => g e.1), if_neg g]; omega
theorem fr_pos {j : Nat} {l : List Bk} : 0 < (fr j l).length ↔ ∃ x ∈ l, x.g = 0 ∧ x.o = j := by
  rw [List.length_pos_iff_exists_mem]
  constructor
  · rintro ⟨k, hk⟩
    obtain ⟨x, h1, h2, h3, _⟩ := mem_fr.1 hk
    exact ⟨x, h1, h2, h3⟩
  · rintro ⟨x, h1, h2, h3⟩
    exact ⟨_, mem_fr.2 ⟨x, h1, h2, h3, rfl⟩⟩
theorem not_fr {A B : List Bk} {x : Bk} {n k : Nat} (h : Tile 0 (A ++ x :: B) n) (hg : x.g ≠ 0) (h1 : x.p ≤ k) (h2 : k < x.p + 2 ^ x.o) (o : Nat) : (k : Int) ∉ fr o (A ++ x :: B) := by
  obtain ⟨hA, hB⟩ := sep_ne h h1 h2
  intro hm
  obtain ⟨y, hy, gy, _, e⟩ := mem_fr.1 hm
  simp only [List.mem_append, List.mem_cons] at hy
  rcases hy with hy | rfl | hy
  · exact hA y hy (by omega)
  · exact hg gy
  · exact hB y hy (by omega)
theorem not_tk {A B : List Bk} {x : Bk} {n k : Nat} (h : Tile 0 (A ++ x :: B) n) (hg : x.g ≠ 1) (h1 : x.p ≤ k) (h2 : k < x.p + 2 ^ x.o) (j : Int) : ((k : Int), j) ∉ tk (A ++ x :: B) := by
  obtain ⟨hA, hB⟩ := sep_ne h h1 h2
  intro hm
  obtain ⟨y, hy, gy, e, _⟩ := mem_tk.1 hm
  simp only [List.mem_append, List.mem_cons] at hy
  rcases hy with hy | rfl | hy
  · exact hA y hy (by omega)
  · exact hg gy
  · exact hB y hy (by omega)
section
variable {w w' : World} {b t : Nat} {m : Nat → Nat} {n : Nat} {l l' : List Bk}
theorem BAt.newF (h : BAt w b m t (stOf n l)) {o : Nat} (ho : o < 11) (k : Kept (· = m o) w w') {q : List Int} (hm : MapIs w' (m o) (ent1 q)) (hp : q.Perm (fr o l')) (hq : ∀ j, j < 11 → j ≠ o → fr j l' = fr j l) (ht : tk l' = tk l) : BAt w' b m t (stOf n l') := by
  refine ⟨h.so.kx k (Ne.symm (h.dt o ho).2), fun j hj => ?_, ?_, h.dm, h.dt, h.db⟩
  · by_cases e : j = o
    · subst e
      exact hm.perm (hp.map _)
    · have := (h.mf j hj).kx k (fun e' => e (by have := h.dm j o hj ho; exact Classical.byContradiction fun hne => this hne e'))
      show MapIs w' (m j) (ent1 (fr j l'))
      rw [hq j hj e]; exact this
  · show MapIs w' t (entT (tk l'))
    rw [ht]
    exact h.mt.kx k (Ne.symm (h.dt o ho).1)
theorem BAt.ins (h : BAt w b m t (stOf n l)) {o : Nat} (ho : o < 11) {a : Nat} (ha : (a : Int) ∉ fr o l) (hr : a ≤ 1000000) (hp : (fr o l').Perm ((a : Int) :: fr o l)) (hq : ∀ j, j < 11 → j ≠ o → fr j l' = fr j l) (ht : tk l' = tk l) :
    ∃ w', updIs Tryz.prog 284 (.map (some (m o))) (.int .i64 (a : Int)) (.bool true) w w' ∧ Kept (· = m o) w w' ∧ BAt w' b m t (stOf n l') := by
  obtain ⟨w', hu, hm, hk⟩ := upd_new (mt := 284) (vt := 4) (kt := 3) Tryz.underlying284 Tryz.underlying3 (h.mf o ho) (a : Int) (.bool true) (by omega) (lookup_none_of fun v hv => ha (by
    obtain ⟨x, hx, e⟩ := List.mem_map.1 hv
    cases e
    exact hx))
  refine ⟨w', hu, hk, h.newF ho hk (q := fr o l ++ [(a : Int)]) (by
    have e : ent1 (fr o l ++ [(a : Int)]) = ent1 ((stOf n l).F o) ++ [((a : Int), Value.bool true)] := by simp [ent1, stOf]
    rw [e]; exact hm) ?_ hq ht⟩
  exact (List.perm_append_comm.trans hp.symm)
theorem BAt.del (h : BAt w b m t (stOf n l)) {o : Nat} (ho : o < 11) {a : Nat} (hp : (fr o l).Perm ((a : Int) :: fr o l')) (ha : (a : Int) ∉ fr o l') (hq : ∀ j, j < 11 → j ≠ o → fr j l' = fr j l) (ht : tk l' = tk l) :
    ∃ w', delIs Tryz.prog #[284, 3] 0 (.map (some (m o))) (.int .i64 (a : Int)) w w' ∧ Kept (· = m o) w w' ∧ BAt w' b m t (stOf n l') := by
  obtain ⟨w', hu, hm, hk⟩ := del1 (mt := 284) (vt := 4) (kt := 3) Tryz.underlying284 Tryz.underlying3 (h.mf o ho) (a : Int) (ty := 0)
  refine ⟨w', hu, hk, h.newF ho hk (q := (fr o l).filter (fun k => k != (a : Int))) (by
    have e : ent1 ((fr o l).filter (fun k => k != (a : Int))) = (ent1 ((stOf n l).F o)).filter fun p => p.1 != (a : Int) := by
      simp only [ent1, stOf, List.filter_map]
      rfl
    rw [e]; exact hm) ?_ hq ht⟩
  refine (hp.filter _).trans ?_
  rw [List.filter_cons_of_neg (by simp), List.filter_eq_self.2]
  intro x hx
  simp only [bne_iff_ne, ne_eq]
  intro e
  exact ha (e ▸ hx)
theorem BAt.newT (h : BAt w b m t (stOf n l)) (k : Kept (· = t) w w') {q : List (Int × Int)} (hm : MapIs w' t (entT q)) (hp : q.Perm (tk l')) (hq : ∀ j, j < 11 → fr j l' = fr j l) : BAt w' b m t (stOf n l') := by
  refine ⟨h.so.kx k (Ne.symm h.db), fun j hj => ?_, hm.perm (hp.map _), h.dm, h.dt, h.db⟩
  show MapIs w' (m j) (ent1 (fr j l'))
  rw [hq j hj]
  exact (h.mf j hj).kx k (h.dt j hj).1
theorem BAt.insT (h : BAt w b m t (stOf n l)) {a o : Nat} (ha : ∀ j, ((a : Int), j) ∉ tk l) (hr : a ≤ 1000000) (hp : (tk l').Perm (((a : Int), (o : Int)) :: tk l)) (hq : ∀ j, j < 11 → fr j l' = fr j l) :
    ∃ w', updIs Tryz.prog 101 (.map (some t)) (.int .i64 (a : Int)) (.int .i64 (o : Int)) w w' ∧ Kept (· = t) w w' ∧ BAt w' b m t (stOf n l') := by
  obtain ⟨w', hu, hm, hk⟩ := upd_new (mt := 101) (vt := 3) (kt := 3) Tryz.underlying101 Tryz.underlying3 h.mt (a : Int) (.int .i64 (o : Int)) (by omega) (lookup_none_of fun v hv => by
    obtain ⟨⟨x, y⟩, hx, e⟩ := List.mem_map.1 hv
    cases e
    exact ha _ hx)
  refine ⟨w', hu, hk, h.newT hk (q := tk l ++ [((a : Int), (o : Int))]) (by
    have e : entT (tk l ++ [((a : Int), (o : Int))]) = entT ((stOf n l).T) ++ [((a : Int), Value.int .i64 (o : Int))] := by simp [entT, stOf]
    rw [e]; exact hm) (List.perm_append_comm.trans hp.symm) hq⟩
theorem BAt.delT (h : BAt w b m t (stOf n l)) {a o : Nat} (hp : (tk l).Perm (((a : Int), (o : Int)) :: tk l')) (ha : ∀ j, ((a : Int), j) ∉ tk l') (hq : ∀ j, j < 11 → fr j l' = fr j l) :
    ∃ w', delIs Tryz.prog #[101, 3] 0 (.map (some t)) (.int .i64 (a : Int)) w w' ∧ Kept (· = t) w w' ∧ BAt w' b m t (stOf n l') := by
  obtain ⟨w', hu, hm, hk⟩ := del1 (mt := 101) (vt := 3) (kt := 3) Tryz.underlying101 Tryz.underlying3 h.mt (a : Int) (ty := 0)
  refine ⟨w', hu, hk, h.newT hk (q := (tk l).filter (fun k => k.1 != (a : Int))) (by
    have e : entT ((tk l).filter (fun k => k.1 != (a : Int))) = (entT ((stOf n l).T)).filter fun p => p.1 != (a : Int) := by
      simp only [entT, stOf, List.filter_map]
      rfl
    rw [e]; exact hm) ?_ hq⟩
  refine (hp.filter _).trans ?_
  rw [List.filter_cons_of_neg (by simp), List.filter_eq_self.2]
  rintro ⟨x, y⟩ hx
  simp only [bne_iff_ne, ne_eq]
  intro e
  exact ha y (e ▸ hx)
variable {A B : List Bk} {a o : Nat}
theorem BAt.hold (h : BAt w b m t (stOf n (A ++ ⟨a, o, 0⟩ :: B))) (ht : Tile 0 (A ++ ⟨a, o, 0⟩ :: B) n) : ∃ w', delIs Tryz.prog #[284, 3] 0 (.map (some (m o))) (.int .i64 (a : Int)) w w' ∧ Kept (· = m o) w w' ∧ BAt w' b m t (stOf n (A ++ ⟨a, o, 2⟩ :: B)) := by
  have h10 := (tile_mem ht (x := ⟨a, o, 0⟩) (by simp)).2.2.2
  dsimp only at h10
  refine h.del (by omega) (by simp only [fr_app, fr_cons]; simp) ?_ (fun j _ hj => by simp only [fr_app, fr_cons]; simp [Ne.symm hj]) (by simp [tk_app, tk_cons])
  obtain ⟨h1, h2, h3, h4⟩ := tile_mid ht
  exact not_fr (n := n) (x := ⟨a, o, 2⟩) (tile_mid' h1 h2 h3 h4) (by simp) (Nat.le_refl _) (by have := p2 o; dsimp only; omega) o
theorem BAt.lo (h : BAt w b m t (stOf n (A ++ ⟨a, o + 1, 2⟩ :: B))) (ht : Tile 0 (A ++ ⟨a, o + 1, 2⟩ :: B) n) (hn : n ≤ 128) : ∃ w', updIs Tryz.prog 284 (.map (some (m o))) (.int .i64 ((a + 2 ^ o : Nat) : Int)) (.bool true) w w' ∧ Kept (· = m o) w w' ∧ BAt w' b m t (stOf n (A ++ ⟨a, o, 2⟩ :: ⟨a + 2 ^ o, o, 0⟩ :: B)) := by
  have h10 := tile_mem ht (x := ⟨a, o + 1, 2⟩) (by simp)
  dsimp only at h10
  have e2 : 2 ^ (o + 1) = 2 ^ o + 2 ^ o := by rw [Nat.pow_succ]; omega
  have := p2 o
  refine h.ins (by omega) (not_fr ht (by simp) (by dsimp only; omega) (by dsimp only; omega) o) (by omega) (by simp only [fr_app, fr_cons]; simp) (fun j _ hj => by simp only [fr_app, fr_cons]; simp [Ne.symm hj]) (by simp [tk_app, tk_cons])
theorem BAt.hi (h : BAt w b m t (stOf n (A ++ ⟨a, o + 1, 2⟩ :: B))) (ht : Tile 0 (A ++ ⟨a, o + 1, 2⟩ :: B) n) (hn : n ≤ 128) : ∃ w', updIs Tryz.prog 284 (.map (some (m o))) (.int .i64 (a : Int)) (.bool true) w w' ∧ Kept (· = m o) w w' ∧ BAt w' b m t (stOf n ((A ++ [⟨a, o, 0⟩]) ++ ⟨a + 2 ^ o, o, 2⟩ :: B)) := by
  have h10 := tile_mem ht (x := ⟨a, o + 1, 2⟩) (by simp)
  dsimp only at h10
  have e2 : 2 ^ (o + 1) = 2 ^ o + 2 ^ o := by rw [Nat.pow_succ]; omega
  have := p2 o
  refine h.ins (by omega) (not_fr ht (by simp) (by dsimp only; omega) (by dsimp only; omega) o) (by omega) (by simp only [fr_app, fr_cons]; simp) (fun j _ hj => by simp only [fr_app, fr_cons]; simp [Ne.symm hj]) (by simp [tk_app, tk_cons])
theorem BAt.take (h : BAt w b m t (stOf n (A ++ ⟨a, o, 2⟩ :: B))) (ht : Tile 0 (A ++ ⟨a, o, 2⟩ :: B) n) (hn : n ≤ 128) : ∃ w', updIs Tryz.prog 101 (.map (some t)) (.int .i64 (a : Int)) (.int .i64 (o : Int)) w w' ∧ Kept (· = t) w w' ∧ BAt w' b m t (stOf n (A ++ ⟨a, o, 1⟩ :: B)) := by
  have h10 := tile_mem ht (x := ⟨a, o, 2⟩) (by simp)
  dsimp only at h10
  have := p2 o
  refine h.insT (not_tk ht (by simp) (by dsimp only; omega) (by dsimp only; omega)) (by omega) (by simp only [tk_app, tk_cons]; simp) (fun j _ => by simp only [fr_app, fr_cons]; simp)
theorem BAt.give (h : BAt w b m t (stOf n (A ++ ⟨a, o, 1⟩ :: B))) (ht : Tile 0 (A ++ ⟨a, o, 1⟩ :: B) n) : ∃ w', delIs Tryz.prog #[101, 3] 0 (.map (some t)) (.int .i64 (a : Int)) w w' ∧ Kept (· = t) w w' ∧ BAt w' b m t (stOf n (A ++ ⟨a, o, 2⟩ :: B)) := by
  have := p2 o
  obtain ⟨h1, h2, h3, h4⟩ := tile_mid ht
  refine h.delT (o := o) (by simp only [tk_app, tk_cons]; simp) ?_ (fun j _ => by simp only [fr_app, fr_cons]; simp)
  exact not_tk (n := n) (x := ⟨a, o, 2⟩) (tile_mid' h1 h2 h3 h4) (by simp) (Nat.le_refl _) (by have := p2 o; dsimp only; omega)
theorem BAt.oneL (h : BAt w b m t (stOf n (A ++ ⟨a, o, 2⟩ :: ⟨a + 2 ^ o, o, 0⟩ :: B))) (ho : o < 10) (ht : Tile 0 (A ++ ⟨a, o + 1, 2⟩ :: B) n) : ∃ w', delIs Tryz.prog #[284, 3] 0 (.map (some (m o))) (.int .i64 ((a + 2 ^ o : Nat) : Int)) w w' ∧ Kept (· = m o) w w' ∧ BAt w' b m t (stOf n (A ++ ⟨a, o + 1, 2⟩ :: B)) := by
  have e2 : 2 ^ (o + 1) = 2 ^ o + 2 ^ o := by rw [Nat.pow_succ]; omega
  have := p2 o
  exact h.del (by omega) (by simp only [fr_app, fr_cons]; simp) (not_fr ht (by simp) (by dsimp only; omega) (by dsimp only; omega) o) (fun j _ hj => by simp only [fr_app, fr_cons]; simp [Ne.symm hj]) (by simp [tk_app, tk_cons])
theorem BAt.oneU (h : BAt w b m t (stOf n ((A ++ [⟨a - 2 ^ o, o, 0⟩]) ++ ⟨a, o, 2⟩ :: B))) (ho : o < 10) (ht : Tile 0 (A ++ ⟨a - 2 ^ o, o + 1, 2⟩ :: B) n) : ∃ w', delIs Tryz.prog #[284, 3] 0 (.map (some (m o))) (.int .i64 ((a - 2 ^ o : Nat) : Int)) w w' ∧ Kept (· = m o) w w' ∧ BAt w' b m t (stOf n (A ++ ⟨a - 2 ^ o, o + 1, 2⟩ :: B)) := by
  have e2 : 2 ^ (o + 1) = 2 ^ o + 2 ^ o := by rw [Nat.pow_succ]; omega
  have := p2 o
  exact h.del (by omega) (by simp only [fr_app, fr_cons]; simp) (not_fr ht (by simp) (by dsimp only; omega) (by dsimp only; omega) o) (fun j _ hj => by simp only [fr_app, fr_cons]; simp [Ne.symm hj]) (by simp [tk_app, tk_cons])
theorem BAt.free (h : BAt w b m t (stOf n (A ++ ⟨a, o, 2⟩ :: B))) (ht : Tile 0 (A ++ ⟨a, o, 2⟩ :: B) n) (hn : n ≤ 128) : ∃ w', updIs Tryz.prog 284 (.map (some (m o))) (.int .i64 (a : Int)) (.bool true) w w' ∧ Kept (· = m o) w w' ∧ BAt w' b m t (stOf n (A ++ ⟨a, o, 0⟩ :: B)) := by
  have h10 := tile_mem ht (x := ⟨a, o, 2⟩) (by simp)
  dsimp only at h10
  have := p2 o
  exact h.ins (by omega) (not_fr ht (by simp) (by dsimp only; omega) (by dsimp only; omega) o) (by omega) (by simp only [fr_app, fr_cons]; simp) (fun j _ hj => by simp only [fr_app, fr_cons]; simp [Ne.symm hj]) (by simp [tk_app, tk_cons])
end
end Go.Proofs.YtklmokolnakkoaaGreatDoor
/-
  DERIVED: THE SHELF's CONTRACTS AT THIS DUMP, IN PLAIN WORDS (tools/lay-plain.mjs out of 'S1.lean', which tools/lay-shelf.mjs wrote): THE SAME DECLARATIONS UNDER THE SAME NAMES: 'import', 'namespace', 'open', 'def', 'theorem' AND NOTHING ELSE: no command of the shelf's: FOR A HAND-IN. Each laying: the table of numbers ('.._ren') and one theorem, a field a fact of the dump's own or the kernel's comparison; each contract: ONE APPLICATION.
-/
namespace Go.Proofs
open Go.Shelf
def Tryz.keysB_ren : Go.Shelf.Ren := ⟨fun | 7 => 215 | 10 => 234 | n => n, fun | 23 => 284 | 26 => 3 | 3 => 4 | 28 => 172 | 0 => 0 | 27 => 171 | 33 => 26 | 4 => 4 | n => n, fun | n => n⟩
theorem Tryz.keysB : Go.Proofs.SlLaysZI.n7 Tryz.prog Tryz.keysB_ren := {
  mixed := by kernel_rfl
  f7 := ⟨Tryz.f215.name, by decide, Tryz.func215.trans (congrArg some (by kernel_rfl))⟩
  f10 := ⟨Tryz.f234.name, by decide, Tryz.func234.trans (congrArg some (by kernel_rfl))⟩
  t0 := Tryz.underlying0
  a0 := Tryz.isAgg0
  z0 := Tryz.sizeOf0
  v0 := Tryz.zeroValue0
  t4 := Tryz.underlying4
  a4 := Tryz.isAgg4
  z4 := Tryz.sizeOf4
  v4 := Tryz.zeroValue4
  t23 := Tryz.underlying284
  a23 := Tryz.isAgg284
  z23 := Tryz.sizeOf284
  v23 := Tryz.zeroValue284
  t26 := Tryz.underlying3
  a26 := Tryz.isAgg3
  z26 := Tryz.sizeOf3
  v26 := Tryz.zeroValue3
  t27 := Tryz.underlying171
  a27 := Tryz.isAgg171
  z27 := Tryz.sizeOf171
  v27 := Tryz.zeroValue171
  t28 := Tryz.underlying172
  a28 := Tryz.isAgg172
  z28 := Tryz.sizeOf172
  v28 := Tryz.zeroValue172
  t33 := Tryz.underlying26
  a33 := Tryz.isAgg26
  z33 := Tryz.sizeOf26
  v33 := Tryz.zeroValue26 }
def Tryz.keysA_ren : Go.Shelf.Ren := ⟨fun | 7 => 135 | 10 => 183 | n => n, fun | 23 => 144 | 26 => 3 | 3 => 228 | 28 => 172 | 0 => 0 | 27 => 171 | 33 => 26 | 4 => 4 | n => n, fun | n => n⟩
theorem Tryz.keysA : Go.Proofs.SlLaysZI.n7 Tryz.prog Tryz.keysA_ren := {
  mixed := by kernel_rfl
  f7 := ⟨Tryz.f135.name, by decide, Tryz.func135.trans (congrArg some (by kernel_rfl))⟩
  f10 := ⟨Tryz.f183.name, by decide, Tryz.func183.trans (congrArg some (by kernel_rfl))⟩
  t0 := Tryz.underlying0
  a0 := Tryz.isAgg0
  z0 := Tryz.sizeOf0
  v0 := Tryz.zeroValue0
  t4 := Tryz.underlying4
  a4 := Tryz.isAgg4
  z4 := Tryz.sizeOf4
  v4 := Tryz.zeroValue4
  t23 := Tryz.underlying144
  a23 := Tryz.isAgg144
  z23 := Tryz.sizeOf144
  v23 := Tryz.zeroValue144
  t26 := Tryz.underlying3
  a26 := Tryz.isAgg3
  z26 := Tryz.sizeOf3
  v26 := Tryz.zeroValue3
  t27 := Tryz.underlying171
  a27 := Tryz.isAgg171
  z27 := Tryz.sizeOf171
  v27 := Tryz.zeroValue171
  t28 := Tryz.underlying172
  a28 := Tryz.isAgg172
  z28 := Tryz.sizeOf172
  v28 := Tryz.zeroValue172
  t33 := Tryz.underlying26
  a33 := Tryz.isAgg26
  z33 := Tryz.sizeOf26
  v33 := Tryz.zeroValue26 }
def Tryz.sortedA_ren : Go.Shelf.Ren := ⟨fun | 6 => 76 | 8 => 124 | 9 => 131 | 11 => 172 | 13 => 182 | 12 => 181 | 23 => 213 | 24 => 214 | 14 => 204 | 15 => 205 | 16 => 206 | 17 => 207 | 18 => 208 | 19 => 209 | 20 => 210 | 21 => 211 | 22 => 212 | 25 => 228 | 26 => 229 | 27 => 230 | 28 => 231 | 29 => 232 | 30 => 233 | 31 => 240 | n => n, fun | 26 => 3 | 28 => 172 | 24 => 51 | 0 => 0 | 3 => 3 | 37 => 150 | 48 => 322 | 50 => 134 | 4 => 4 | 40 => 333 | 39 => 332 | 45 => 202 | 5 => 5 | 9 => 9 | 51 => 349 | 55 => 353 | 57 => 360 | 58 => 308 | 33 => 26 | n => n, fun | n => n⟩
theorem Tryz.sortedA : Go.Proofs.SlLaysZI.n6 Tryz.prog Tryz.sortedA_ren := {
  mixed := by kernel_rfl
  f6 := ⟨Tryz.f76.name, by decide, Tryz.func76.trans (congrArg some (by kernel_rfl))⟩
  f8 := ⟨Tryz.f124.name, by decide, Tryz.func124.trans (congrArg some (by kernel_rfl))⟩
  f11 := ⟨Tryz.f172.name, by decide, Tryz.func172.trans (congrArg some (by kernel_rfl))⟩
  t0 := Tryz.underlying0
  a0 := Tryz.isAgg0
  z0 := Tryz.sizeOf0
  v0 := Tryz.zeroValue0
  t24 := Tryz.underlying51
  a24 := Tryz.isAgg51
  z24 := Tryz.sizeOf51
  v24 := Tryz.zeroValue51
  t26 := Tryz.underlying3
  a26 := Tryz.isAgg3
  z26 := Tryz.sizeOf3
  v26 := Tryz.zeroValue3
  t28 := Tryz.underlying172
  a28 := Tryz.isAgg172
  z28 := Tryz.sizeOf172
  v28 := Tryz.zeroValue172
  i26 := by kernel_rfl }
def Tryz.sortA_ren : Go.Shelf.Ren := ⟨fun | 5 => 131 | 8 => 182 | 7 => 181 | 19 => 213 | 20 => 214 | 10 => 204 | 11 => 205 | 12 => 206 | 13 => 207 | 14 => 208 | 15 => 209 | 16 => 210 | 17 => 211 | 18 => 212 | 30 => 228 | 31 => 229 | 32 => 230 | 33 => 231 | 34 => 232 | 35 => 233 | 40 => 240 | n => n, fun | 23 => 51 | 25 => 3 | 3 => 3 | 32 => 150 | 22 => 51 | 0 => 0 | 44 => 322 | 46 => 134 | 4 => 4 | 36 => 333 | 35 => 332 | 41 => 202 | 5 => 5 | 9 => 9 | 53 => 349 | 57 => 353 | 63 => 360 | 64 => 308 | n => n, fun | n => n⟩
theorem Tryz.sortA : Go.Proofs.SlLaysM.n5 Tryz.prog Tryz.sortA_ren := {
  mixed := by kernel_rfl
  f5 := ⟨Tryz.f131.name, by decide, Tryz.func131.trans (congrArg some (by kernel_rfl))⟩
  f7 := ⟨Tryz.f181.name, by decide, Tryz.func181.trans (congrArg some (by kernel_rfl))⟩
  f8 := Tryz.func182.trans (congrArg some (by kernel_rfl))
  f10 := ⟨Tryz.f204.name, by decide, Tryz.func204.trans (congrArg some (by kernel_rfl))⟩
  f11 := ⟨Tryz.f205.name, by decide, Tryz.func205.trans (congrArg some (by kernel_rfl))⟩
  f12 := ⟨Tryz.f206.name, by decide, Tryz.func206.trans (congrArg some (by kernel_rfl))⟩
  f13 := ⟨Tryz.f207.name, by decide, Tryz.func207.trans (congrArg some (by kernel_rfl))⟩
  f14 := ⟨Tryz.f208.name, by decide, Tryz.func208.trans (congrArg some (by kernel_rfl))⟩
  f15 := ⟨Tryz.f209.name, by decide, Tryz.func209.trans (congrArg some (by kernel_rfl))⟩
  f16 := ⟨Tryz.f210.name, by decide, Tryz.func210.trans (congrArg some (by kernel_rfl))⟩
  f17 := ⟨Tryz.f211.name, by decide, Tryz.func211.trans (congrArg some (by kernel_rfl))⟩
  f18 := ⟨Tryz.f212.name, by decide, Tryz.func212.trans (congrArg some (by kernel_rfl))⟩
  f19 := Tryz.func213.trans (congrArg some (by kernel_rfl))
  f20 := Tryz.func214.trans (congrArg some (by kernel_rfl))
  f30 := ⟨Tryz.f228.name, by decide, Tryz.func228.trans (congrArg some (by kernel_rfl))⟩
  f31 := Tryz.func229.trans (congrArg some (by kernel_rfl))
  f32 := Tryz.func230.trans (congrArg some (by kernel_rfl))
  f33 := ⟨Tryz.f231.name, by decide, Tryz.func231.trans (congrArg some (by kernel_rfl))⟩
  f34 := ⟨Tryz.f232.name, by decide, Tryz.func232.trans (congrArg some (by kernel_rfl))⟩
  f35 := ⟨Tryz.f233.name, by decide, Tryz.func233.trans (congrArg some (by kernel_rfl))⟩
  f40 := ⟨Tryz.f240.name, by decide, Tryz.func240.trans (congrArg some (by kernel_rfl))⟩
  t0 := Tryz.underlying0
  a0 := Tryz.isAgg0
  z0 := Tryz.sizeOf0
  v0 := Tryz.zeroValue0
  t3 := Tryz.underlying3
  a3 := Tryz.isAgg3
  z3 := Tryz.sizeOf3
  v3 := Tryz.zeroValue3
  t4 := Tryz.underlying4
  a4 := Tryz.isAgg4
  z4 := Tryz.sizeOf4
  v4 := Tryz.zeroValue4
  t5 := Tryz.underlying5
  a5 := Tryz.isAgg5
  z5 := Tryz.sizeOf5
  v5 := Tryz.zeroValue5
  t9 := Tryz.underlying9
  a9 := Tryz.isAgg9
  z9 := Tryz.sizeOf9
  v9 := Tryz.zeroValue9
  t22 := Tryz.underlying51
  a22 := Tryz.isAgg51
  z22 := Tryz.sizeOf51
  v22 := Tryz.zeroValue51
  t23 := Tryz.underlying51
  a23 := Tryz.isAgg51
  z23 := Tryz.sizeOf51
  v23 := Tryz.zeroValue51
  t25 := Tryz.underlying3
  a25 := Tryz.isAgg3
  z25 := Tryz.sizeOf3
  v25 := Tryz.zeroValue3
  t32 := Tryz.underlying150
  a32 := Tryz.isAgg150
  z32 := Tryz.sizeOf150
  v32 := Tryz.zeroValue150
  t35 := Tryz.underlying332
  a35 := Tryz.isAgg332
  z35 := Tryz.sizeOf332
  v35 := Tryz.zeroValue332
  t36 := Tryz.underlying333
  a36 := Tryz.isAgg333
  z36 := Tryz.sizeOf333
  v36 := Tryz.zeroValue333
  t41 := Tryz.underlying202
  a41 := Tryz.isAgg202
  z41 := Tryz.sizeOf202
  v41 := Tryz.zeroValue202
  t44 := Tryz.underlying322
  a44 := Tryz.isAgg322
  z44 := Tryz.sizeOf322
  v44 := Tryz.zeroValue322
  t46 := Tryz.underlying134
  a46 := Tryz.isAgg134
  z46 := Tryz.sizeOf134
  v46 := Tryz.zeroValue134
  t53 := Tryz.underlying349
  a53 := Tryz.isAgg349
  z53 := Tryz.sizeOf349
  v53 := Tryz.zeroValue349
  t57 := Tryz.underlying353
  a57 := Tryz.isAgg353
  z57 := Tryz.sizeOf353
  v57 := Tryz.zeroValue353
  t63 := Tryz.underlying360
  a63 := Tryz.isAgg360
  z63 := Tryz.sizeOf360
  v63 := Tryz.zeroValue360
  t64 := Tryz.underlying308
  a64 := Tryz.isAgg308
  z64 := Tryz.sizeOf308
  v64 := Tryz.zeroValue308 }
def Tryz.growO_ren : Go.Shelf.Ren := ⟨fun | 4 => 187 | n => n, fun | 22 => 147 | 25 => 165 | 3 => 3 | 4 => 4 | 9 => 9 | 20 => 20 | 0 => 0 | 2 => 3 | n => n, fun | n => n⟩
theorem Tryz.growO : Go.Proofs.Lays8.n4 Tryz.prog Tryz.growO_ren := {
  mixed := by kernel_rfl
  f4 := ⟨Tryz.f187.name, by decide, Tryz.func187.trans (congrArg some (by kernel_rfl))⟩
  t0 := Tryz.underlying0
  a0 := Tryz.isAgg0
  z0 := Tryz.sizeOf0
  v0 := Tryz.zeroValue0
  t3 := Tryz.underlying3
  a3 := Tryz.isAgg3
  z3 := Tryz.sizeOf3
  v3 := Tryz.zeroValue3
  t4 := Tryz.underlying4
  a4 := Tryz.isAgg4
  z4 := Tryz.sizeOf4
  v4 := Tryz.zeroValue4
  t9 := Tryz.underlying9
  a9 := Tryz.isAgg9
  z9 := Tryz.sizeOf9
  v9 := Tryz.zeroValue9
  t20 := Tryz.underlying20
  a20 := Tryz.isAgg20
  z20 := Tryz.sizeOf20
  v20 := Tryz.zeroValue20
  t22 := Tryz.underlying147
  a22 := Tryz.isAgg147
  z22 := Tryz.sizeOf147
  v22 := Tryz.zeroValue147 }
end Go.Proofs
