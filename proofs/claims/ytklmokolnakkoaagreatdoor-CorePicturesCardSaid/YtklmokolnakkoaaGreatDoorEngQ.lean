/-
  Part Q of an engine: runs of numbers at a block, ranges over maps. Proved: what these read and leave. Conditions: those in each theorem.
-/
import Derived.Test.YtklmokolnakkoaaGreatDoorEngP
import Derived.Maps.RangeRun
namespace Go.Eng
open Go.MapKept Go.ChangeMaps
set_option linter.unusedSimpArgs false
set_option linter.unusedVariables false

section
variable {w w' : World} {b : Nat} {cs vs : List Value}
theorem rdAll_of (b : Nat) : ∀ (vs : List Value) (o : Nat), (∀ j, j < vs.length → rd w b (o + j) = vs[j]?) → rdAll w b o vs
  | [], _, _ => trivial
  | [v], o, h => h 0 (by simp)
  | v :: v' :: vs, o, h => ⟨h 0 (by simp), rdAll_of b (v' :: vs) (o + 1) fun j hj => by
      have := h (j + 1) (by simp at hj ⊢; omega)
      rw [Nat.add_assoc, Nat.add_comm 1 j]
      simpa using this⟩
theorem wrAll_of (b : Nat) : ∀ (vs : List Value) (o : Nat), (∀ j, j < vs.length → wr w b (o + j)) → wrAll w b o vs
  | [], _, _ => trivial
  | [v], o, h => h 0 (by simp)
  | v :: v' :: vs, o, h => ⟨h 0 (by simp), wrAll_of b (v' :: vs) (o + 1) fun j hj => by
      have := h (j + 1) (by simp at hj ⊢; omega)
      rw [Nat.add_assoc, Nat.add_comm 1 j]
      exact this⟩
theorem own.rdAll (h : own w b cs) (o : Nat) (hl : ∀ j, j < vs.length → cs[o + j]? = vs[j]?) : rdAll w b o vs :=
  rdAll_of b vs o fun j hj => (h.rd _).trans (hl j hj)
theorem own.wrAll (h : own w b cs) (o : Nat) (hl : o + vs.length ≤ cs.length) : wrAll w b o vs :=
  wrAll_of b vs o fun j hj => h.wr (by omega)
theorem stAll_own (b : Nat) : ∀ (vs : List Value) (o : Nat) (w : World) (cs : List Value), own w b cs → own (stAll w b o vs) b (vs.zipIdx o |>.foldl (fun c p => c.set p.2 p.1) cs)
  | [], _, _, _, h => h
  | [v], o, w, cs, h => h.st_same
  | v :: v' :: vs, o, w, cs, h => stAll_own b (v' :: vs) (o + 1) (st w b o v) (cs.set o v) h.st_same
theorem stAll_kept (b : Nat) : ∀ (vs : List Value) (o : Nat) (w : World), Kept (· = b) w (stAll w b o vs)
  | [], _, w => Kept.refl _ _
  | [v], o, w => (Kept.refl _ _).st (.inl rfl)
  | v :: v' :: vs, o, w => ((Kept.refl _ w).st (X := (· = b)) (b := b) (o := o) (v := v) (.inl rfl)).trans (stAll_kept b (v' :: vs) (o + 1) (st w b o v)) fun _ _ h => h
theorem setFold_get : ∀ (vs : List Value) (o : Nat) (cs : List Value) (j : Nat), o + vs.length ≤ cs.length →
    (vs.zipIdx o |>.foldl (fun c p => c.set p.2 p.1) cs)[j]? = if o ≤ j ∧ j < o + vs.length then vs[j - o]? else cs[j]?
  | [], o, cs, j, _ => by rw [if_neg (by simp only [List.length_nil]; omega)]; rfl
  | v :: vs, o, cs, j, h => by
    simp only [List.length_cons] at h
    rw [List.zipIdx_cons, List.foldl_cons, setFold_get vs (o + 1) (cs.set o v) j (by simp; omega)]
    by_cases h1 : o + 1 ≤ j ∧ j < o + 1 + vs.length
    · rw [if_pos h1, if_pos (by simp; omega), show j - o = j - (o + 1) + 1 by omega, List.getElem?_cons_succ]
    · rw [if_neg h1]
      by_cases h2 : j = o
      · subst h2
        rw [if_pos (by simp), Nat.sub_self, List.getElem?_set_self (by omega)]
        rfl
      · rw [if_neg (by simp; omega), List.getElem?_set_ne (Ne.symm h2)]
theorem stAll_whole (h : own w b cs) (e : w' = stAll w b 0 vs) (hl : vs.length = cs.length) : own w' b vs ∧ Kept (· = b) w w' := by
  subst e
  refine ⟨?_, stAll_kept b vs 0 w⟩
  have := stAll_own b vs 0 w cs h
  have he : (vs.zipIdx 0 |>.foldl (fun c p => c.set p.2 p.1) cs) = vs := by
    apply List.ext_getElem?
    intro j
    rw [setFold_get vs 0 cs j (by omega)]
    split
    · simp
    · rw [List.getElem?_eq_none (by omega), List.getElem?_eq_none (by omega)]
  rw [he] at this
  exact this
theorem runI_ext {kd : IntKind} {f g : Nat → Int} : ∀ {i n : Nat}, (∀ j, j < n → f (i + j) = g (i + j)) → runI kd f i n = runI kd g i n
  | _, 0, _ => rfl
  | i, n + 1, h => by
    have h0 : f i = g i := h 0 (by omega)
    have h1 : runI kd f (i + 1) n = runI kd g (i + 1) n := runI_ext (i := i + 1) (n := n) fun j hj => by
      have := h (j + 1) (by omega)
      rw [show i + 1 + j = i + (j + 1) by omega]
      exact this
    simp only [runI]
    rw [h0, h1]
theorem runI_of {kd : IntKind} {f : Nat → Int} {n : Nat} {l : List Value} (hl : l.length = n) (h : ∀ j, j < n → l[j]? = some (.int kd (f j))) : l = runI kd f 0 n := by
  apply List.ext_getElem?
  intro j
  by_cases hj : j < n
  · rw [h j hj, runI_get _ _ _ _ _ hj, Nat.zero_add]
  · rw [List.getElem?_eq_none (by omega), List.getElem?_eq_none (by rw [runI_len]; omega)]
theorem own.run (h : own w b cs) (o : Nat) {kd : IntKind} {f : Nat → Int} {n : Nat} (hl : ∀ j, j < n → cs[o + j]? = some (.int kd (f j))) : Eng.rdAll w b o (runI kd f 0 n) :=
  h.rdAll o fun j hj => by rw [runI_len] at hj; rw [hl j hj, runI_get _ _ _ _ _ hj, Nat.zero_add]
theorem own.rI {kd : IntKind} {f : Nat → Int} {n : Nat} (h : own w b (runI kd f 0 n)) {j : Nat} (hj : j < n) : Eng.rd w b j = some (.int kd (f j)) := by
  rw [h.rd, runI_get _ _ _ _ _ hj, Nat.zero_add]
theorem own.rIall {kd : IntKind} {f : Nat → Int} {n : Nat} (h : own w b (runI kd f 0 n)) : Eng.rdAll w b 0 (runI kd f 0 n) := h.run 0 fun j hj => by rw [Nat.zero_add, runI_get _ _ _ _ _ hj, Nat.zero_add]
end
theorem DefAt.k {B : Nat} {X : Nat → Prop} {w w' : World} (h : DefAt B w) (k : Kept X w w') (hx : ¬ X B) : DefAt B w' := ⟨(k.blk B (Array.getElem?_eq_some_iff.1 h.at_).1 hx).trans h.at_⟩
theorem clrN_own {P : Program} {t e ty : TypeId} {z u : Value} {s : Nat} (ht : P.underlying t = some (.slice e)) (hv : ∀ w, (zeroValue e).run P w = .ok z w) (hz : z.cells = (List.replicate s u).toArray) (h1 : u.oneCell' = true)
    {w : World} {B : Nat} {cs : List Value} (h : own w B cs) (o n c : Nat) (hn : o + n * s ≤ cs.length) :
    ∃ w', clrIs P #[t] ty (.slice (some ⟨B, o, none⟩) n c) w w' ∧ own w' B (cs.take o ++ List.replicate (n * s) u ++ cs.drop (o + n * s)) ∧ Kept (· = B) w w' := by
  cases n with
  | zero =>
    refine ⟨w, ⟨by simp [Builtin.clear_, run_underlying ht]⟩, ?_, Kept.refl _ _⟩
    simpa using h
  | succ m =>
    have hzc : (Builtin.zeroCells z.cells (m + 1)).toList = List.replicate ((m + 1) * s) u := by
      rw [hz]
      simp only [Builtin.zeroCells, List.size_toArray, List.length_replicate]
      apply List.ext_getElem
      · simp
      · intro i h1 h2
        have hs : 0 < s := by
          rcases Nat.eq_zero_or_pos s with h | h
          · subst h; simp at h2
          · exact h
        have hlt := Nat.mod_lt i hs
        simp [hlt]
    obtain ⟨et, hB⟩ := h
    have hst := run_storeCells_at P B o et (List.replicate ((m + 1) * s) u) 0 cs.toArray w hB (by simpa using hn) (by intro v hv'; rw [List.eq_of_mem_replicate hv']; exact h1)
    simp only [Nat.add_zero, List.length_replicate] at hst
    refine ⟨_, ⟨?_⟩, setRow_own ⟨et, hB⟩, setRow_kept _ _ _⟩
    simp [Builtin.clear_, run_underlying ht, hv, hzc, hst]

structure IterAt (w : World) (r b : Nat) (m R : List (Int × Value)) : Prop where
  ex : ∃ es clock since seen c0, w.heap[b]? = some (.map es clock) ∧ w.heap[r]? = some (.mapIter (some b) since seen c0) ∧ Stamped es clock ∧ (es.toList.map enE).Perm (m.map enK) ∧ (∀ x ∈ es.toList, x.born < since) ∧
    since ≤ c0 ∧ since ≤ clock ∧ ((leftOf es seen).toList.map enE).Perm (R.map enK)
section
variable {w w' : World} {r b : Nat} {m R : List (Int × Value)}
theorem IterAt.lt (h : IterAt w r b m R) : r < w.heap.size ∧ b < w.heap.size := by
  obtain ⟨es, clock, since, seen, c0, h1, h2, _⟩ := h.ex
  exact ⟨(Array.getElem?_eq_some_iff.1 h2).1, (Array.getElem?_eq_some_iff.1 h1).1⟩
theorem IterAt.kx {X : Nat → Prop} (h : IterAt w r b m R) (k : Kept X w w') (hr : ¬ X r) (hb : ¬ X b) : IterAt w' r b m R := by
  have hl := h.lt
  obtain ⟨es, clock, since, seen, c0, h1, h2, rest⟩ := h.ex
  exact ⟨es, clock, since, seen, c0, (k.blk b hl.2 hb).trans h1, (k.blk r hl.1 hr).trans h2, rest⟩
theorem IterAt.k (h : IterAt w r b m R) (k : Kept none' w w') : IterAt w' r b m R := h.kx k id id
theorem range_map {P : Program} {t kt e : TypeId} (ht : P.underlying t = some (.map kt e)) (h : MapIs w b m) :
    ∃ w', rngIs P t (.map (some b)) (.pointer (some ⟨w.heap.size, 0, none⟩)) w w' ∧ Kept none' w w' ∧ IterAt w' w.heap.size b m m := by
  have hl := h.lt
  obtain ⟨es, c, h1, h2, h3⟩ := h.ex
  have hk : Kept none' w (w.alloc (.mapIter (some b) c #[] c)) := by
    refine ⟨rfl, rfl, rfl, by simp, fun b' hb hn => ?_⟩
    simp only [World.alloc, Array.getElem?_push]
    rw [if_neg (by omega)]
  refine ⟨_, ⟨run_range_map w t kt e b es c ht h1⟩, hk, ⟨es, c, c, #[], c, (hk.blk b hl id).trans h1, (heap_alloc w _).1, h2, h3, h2.1, Nat.le_refl _, Nat.le_refl _, ?_⟩⟩
  have : leftOf es #[] = es := by simp [leftOf]
  rw [this]; exact h3
theorem next_map {P : Program} {ty : TypeId} (h : IterAt w r b m R) :
    (R = [] ∧ nxtIs P (.pointer (some ⟨r, 0, none⟩)) false ty (.tuple #[.bool false]) w w) ∨
    ∃ p R' w', R.Perm (p :: R') ∧ nxtIs P (.pointer (some ⟨r, 0, none⟩)) false ty (.tuple #[.bool true, .int .i64 p.1, p.2]) w w' ∧ Kept (· = r) w w' ∧ IterAt w' r b m R' ∧
      entIs P (.pointer (some ⟨r, 0, none⟩)) (.tuple #[.int .i64 p.1, p.2]) w' := by
  have hl := h.lt
  obtain ⟨es, clock, since, seen, c0, h1, h2, h3, h4, h5, h6, h7, h8⟩ := h.ex
  have hrb : r ≠ b := fun e => by rw [e, h1] at h2; cases h2
  rcases run_next_at (P := P) w ty r b since c0 seen es clock h2 h1 h5 h6 with ⟨h0, hrun⟩ | ⟨e, he, w1, hw1, hrun⟩
  · left
    refine ⟨?_, ⟨hrun⟩⟩
    have : (R.map enK).length = 0 := by rw [← h8.length_eq]; simpa using h0
    simpa using this
  · right
    have hme := mem_left he
    obtain ⟨_, hnd, _⟩ := (stamped_iff es clock).1 h3
    -- what is left then
    have hperm : (leftOf es seen).toList.Perm (e :: (leftOf es (seen.push e.born)).toList) := by
      have key : ∀ l : List MapEntry, (l.map (·.born)).Nodup → e ∈ l → (l.filter fun x => !seen.contains x.born).Perm (e :: l.filter fun x => !(seen.push e.born).contains x.born) := by
        intro l
        induction l with
        | nil => intro _ h; cases h
        | cons x l ih =>
          intro hn hm
          simp only [List.map_cons, List.nodup_cons] at hn
          by_cases hx : x = e
          · subst hx
            rw [List.filter_cons_of_pos (by rw [hme.2]; rfl), List.filter_cons_of_neg (by rw [contains_push]; simp)]
            refine List.Perm.cons _ (List.Perm.of_eq ?_)
            apply List.filter_congr
            intro y hy
            rw [contains_push]
            have : (y.born == x.born) = false := by
              simp only [beq_eq_false_iff_ne, ne_eq]
              intro e'
              exact hn.1 (List.mem_map.2 ⟨y, hy, e'⟩)
            rw [this, Bool.or_false]
          · have hm' : e ∈ l := by rcases List.mem_cons.1 hm with h | h; exact absurd h.symm hx; exact h
            have hb : (x.born == e.born) = false := by
              simp only [beq_eq_false_iff_ne, ne_eq]
              intro e'
              exact hn.1 (List.mem_map.2 ⟨e, hm', e'.symm⟩)
            by_cases hs : seen.contains x.born = true
            · rw [List.filter_cons_of_neg (by rw [hs]; simp), List.filter_cons_of_neg (by rw [contains_push, hs]; simp)]
              exact ih hn.2 hm'
            · have hs' : seen.contains x.born = false := by simpa using hs
              rw [List.filter_cons_of_pos (by rw [hs']; rfl), List.filter_cons_of_pos (by rw [contains_push, hs', hb]; rfl)]
              exact ((ih hn.2 hm').cons x).trans (List.Perm.swap ..)
      have := key es.toList hnd hme.1
      unfold leftOf
      rw [Array.toList_filter, Array.toList_filter]
      exact this
    have hem : enE e ∈ R.map enK := h8.mem_iff.1 (List.mem_map.2 ⟨e, he, rfl⟩)
    obtain ⟨p, hp, hpe⟩ := List.mem_map.1 hem
    have hk : e.key = .int .i64 p.1 := (congrArg Prod.fst hpe).symm
    have hv : e.val = p.2 := (congrArg Prod.snd hpe).symm
    obtain ⟨A, B, rfl⟩ := List.append_of_mem hp
    have hpR : (A ++ p :: B).Perm (p :: (A ++ B)) := List.perm_middle
    have hK : Kept (· = r) w (setBlock w1 r (.mapIter (some b) since (seen.push e.born) clock)) := by
      have hz : w1.heap = w.heap ∧ w1.os = w.os ∧ w1.tape = w.tape ∧ w1.output = w.output := by rcases hw1 with rfl | rfl <;> exact ⟨rfl, rfl, rfl, rfl⟩
      refine ⟨hz.2.1, hz.2.2.1, hz.2.2.2, by simp [setBlock, hz.1], fun b' hb hn => ?_⟩
      simp only [setBlock, hz.1]
      rw [Array.getElem?_setIfInBounds_ne (fun e => hn e.symm)]
    have hr2 : (setBlock w1 r (.mapIter (some b) since (seen.push e.born) clock)).heap[r]? = some (.mapIter (some b) since (seen.push e.born) clock) := by
      have hz : w1.heap = w.heap := by rcases hw1 with rfl | rfl <;> rfl
      simp [setBlock, hz, hl.1]
    have hb2 := (hK.blk b hl.2 (Ne.symm hrb)).trans h1
    refine ⟨p, A ++ B, _, hpR, ⟨by rw [← hk, ← hv]; exact hrun⟩, hK, ⟨es, clock, since, seen.push e.born, clock, hb2, hr2, h3, h4, h5, h7, h7, ?_⟩, ⟨?_⟩⟩
    · have e1 : ((leftOf es seen).toList.map enE).Perm (enE e :: (leftOf es (seen.push e.born)).toList.map enE) := hperm.map _
      have e2 : ((A ++ p :: B).map enK).Perm (enE e :: (A ++ B).map enK) := by
        rw [← hpe]; exact hpR.map enK
      exact (List.perm_cons (enE e)).1 (e1.symm.trans (h8.trans e2))
    · rw [← hk, ← hv]
      exact run_entry_at _ r b since seen es clock e hr2 hb2 hme.1 hnd
end
end Go.Eng
