/-
  Part P of an engine: maps whose keys are numbers. Proved: what a look, a laying and a deleting do. Conditions: those in each theorem.
-/
import Derived.Test.YtklmokolnakkoaaGreatDoorEngN
import Derived.MapKept
namespace Go.Eng
open Go.MapKept
set_option linter.unusedSimpArgs false
set_option linter.unusedVariables false

abbrev enK (p : Int × Value) : Value × Value := (.int .i64 p.1, p.2)
abbrev enE (e : MapEntry) : Value × Value := (e.key, e.val)
structure MapIs (w : World) (b : Nat) (m : List (Int × Value)) : Prop where
  ex : ∃ es clock, w.heap[b]? = some (.map es clock) ∧ Stamped es clock ∧ (es.toList.map enE).Perm (m.map enK)
  nd : (m.map (·.1)).Nodup
  rg : ∀ p ∈ m, -9223372036854775808 ≤ p.1 ∧ p.1 ≤ 9223372036854775807
theorem lookup_of_mem {m : List (Int × Value)} (h : (m.map (·.1)).Nodup) {k : Int} {v : Value} (hm : (k, v) ∈ m) : m.lookup k = some v := by
  induction m with
  | nil => cases hm
  | cons p m ih =>
    obtain ⟨k', v'⟩ := p
    simp only [List.map_cons, List.nodup_cons] at h
    rw [List.lookup_cons]
    rcases List.mem_cons.1 hm with e | hm
    · cases e; simp
    · have : k ≠ k' := fun e => h.1 (List.mem_map.2 ⟨(k, v), hm, e⟩)
      rw [show (k == k') = false by simpa using this]
      exact ih h.2 hm
theorem lookup_none_of {m : List (Int × Value)} {k : Int} (h : ∀ v, (k, v) ∉ m) : m.lookup k = none := by
  induction m with
  | nil => rfl
  | cons p m ih =>
    obtain ⟨k', v'⟩ := p
    rw [List.lookup_cons]
    have : k ≠ k' := fun e => h v' (by subst e; exact List.mem_cons_self ..)
    rw [show (k == k') = false by simpa using this]
    exact ih fun v hv => h v (List.mem_cons_of_mem _ hv)
theorem mem_of_lookup {m : List (Int × Value)} {k : Int} {v : Value} (h : m.lookup k = some v) : (k, v) ∈ m := by
  induction m with
  | nil => cases h
  | cons p m ih =>
    obtain ⟨k', v'⟩ := p
    rw [List.lookup_cons] at h
    by_cases e : k = k'
    · subst e
      simp at h
      subst h
      exact List.mem_cons_self ..
    · rw [show (k == k') = false by simpa using e] at h
      exact List.mem_cons_of_mem _ (ih h)
section
variable {w w' : World} {b : Nat} {m : List (Int × Value)}
theorem MapIs.perm {m' : List (Int × Value)} (h : MapIs w b m) (p : m.Perm m') : MapIs w b m' := by
  obtain ⟨es, c, h1, h2, h3⟩ := h.ex
  exact ⟨⟨es, c, h1, h2, h3.trans (p.map _)⟩, (p.map _).nodup_iff.1 h.nd, fun q hq => h.rg q (p.mem_iff.2 hq)⟩
theorem MapIs.lt (h : MapIs w b m) : b < w.heap.size := by
  obtain ⟨es, c, h1, _⟩ := h.ex
  exact (Array.getElem?_eq_some_iff.1 h1).1
theorem MapIs.kx {X : Nat → Prop} (h : MapIs w b m) (k : Kept X w w') (hx : ¬ X b) : MapIs w' b m := by
  have hl := h.lt
  obtain ⟨es, c, h1, h2⟩ := h.ex
  exact ⟨⟨es, c, (k.blk b hl hx).trans h1, h2⟩, h.nd, h.rg⟩
theorem MapIs.k (h : MapIs w b m) (k : Kept none' w w') : MapIs w' b m := h.kx k id
theorem MapIs.al {x : Obj} (h : MapIs w b m) (e : w' = w.alloc x) : MapIs w' b m := by
  have hl := h.lt
  obtain ⟨es, c, h1, h2⟩ := h.ex
  refine ⟨⟨es, c, ?_, h2⟩, h.nd, h.rg⟩
  rw [e]
  simp only [World.alloc, Array.getElem?_push]
  rw [if_neg (by omega)]; exact h1
theorem map_new (e : w' = w.alloc (.map #[] 0)) : MapIs w' w.heap.size [] :=
  ⟨⟨#[], 0, by rw [e]; exact (heap_alloc w _).1, ⟨by simp, by simp, by simp⟩, List.Perm.refl _⟩, List.nodup_nil, fun p hp => by cases hp⟩
theorem MapIs.keysI {es : Array MapEntry} (hp : (es.toList.map enE).Perm (m.map enK)) : ∀ x ∈ es.toList, IsKey (.int .i64) x.key := fun x hx => by
  have : enE x ∈ m.map enK := hp.mem_iff.1 (List.mem_map.2 ⟨x, hx, rfl⟩)
  obtain ⟨q, _, hq⟩ := List.mem_map.1 this
  have : x.key = .int .i64 q.1 := (congrArg Prod.fst hq).symm
  rw [this]
  simp [IsKey]
theorem MapIs.find (h : MapIs w b m) (k : Int) : ∃ es c, w.heap[b]? = some (.map es c) ∧ Stamped es c ∧ (es.toList.map enE).Perm (m.map enK) ∧
    ((Instr.findNow (.int .i64) (.int .i64 k) es.toList 0 = some none ∧ m.lookup k = none ∧ ∀ x ∈ es.toList, x.key ≠ .int .i64 k) ∨
     ∃ (j : Nat) (e : MapEntry), Instr.findNow (.int .i64) (.int .i64 k) es.toList 0 = some (some (j, e.val)) ∧ es[j]? = some e ∧ e.key = .int .i64 k ∧ m.lookup k = some e.val) := by
  obtain ⟨es, c, h1, h2, h3⟩ := h.ex
  refine ⟨es, c, h1, h2, h3, ?_⟩
  rcases findNow_spec (d := .int .i64) (k := .int .i64 k) (by simp [IsKey]) es.toList 0 (MapIs.keysI h3) with ⟨f1, f2⟩ | ⟨j, e, f1, f2, f3⟩
  · refine .inl ⟨f1, lookup_none_of fun v hv => ?_, f2⟩
    have : enK (k, v) ∈ es.toList.map enE := h3.mem_iff.2 (List.mem_map.2 ⟨_, hv, rfl⟩)
    obtain ⟨x, hx, hxe⟩ := List.mem_map.1 this
    exact f2 x hx (congrArg Prod.fst hxe)
  · refine .inr ⟨j, e, by simpa using f1, by simpa using f2, f3, lookup_of_mem h.nd ?_⟩
    have hm : e ∈ es.toList := List.mem_of_getElem? f2
    have : enE e ∈ m.map enK := h3.mem_iff.1 (List.mem_map.2 ⟨e, hm, rfl⟩)
    obtain ⟨⟨k', v'⟩, hq, hqe⟩ := List.mem_map.1 this
    simp only [enK, enE, f3, Prod.mk.injEq, Value.int.injEq, true_and] at hqe
    obtain ⟨rfl, rfl⟩ := hqe
    exact hq
end
theorem setMap_kept {w : World} {b : Nat} {es es' : Array MapEntry} {c c' : Nat} (h : w.heap[b]? = some (.map es c)) : Kept (· = b) w { w with heap := w.heap.setIfInBounds b (.map es' c') } := by
  refine ⟨rfl, rfl, rfl, by simp, fun b' hb hn => ?_⟩
  exact (heap_set h).2 b' hn
section
variable {P : Program} {mt kt vt : TypeId} (hm : P.underlying mt = some (.map kt vt)) (hk : P.underlying kt = some (.int .i64))
variable {w : World} {b : Nat} {m : List (Int × Value)}
include hm hk
theorem look1 (h : MapIs w b m) (k : Int) {z : Value} (hz : (zeroValue vt).run P w = .ok z w) : lookIs P mt (.map (some b)) (.int .i64 k) false ((m.lookup k).getD z) w := by
  obtain ⟨es, c, h1, h2, h3, hf⟩ := h.find k
  rcases hf with ⟨f1, f2, _⟩ | ⟨j, e, f1, _, _, f2⟩
  · exact ⟨by simp [Instr.lookup, run_underlying hm, MapKept.run_getObj_map h1, MapKept.run_checkKey (d := .int .i64) (k := .int .i64 k) hk (by simp [IsKey]), MapKept.run_findKey hk f1, hz, f2, Result.andThen]⟩
  · exact ⟨by simp [Instr.lookup, run_underlying hm, MapKept.run_getObj_map h1, MapKept.run_checkKey (d := .int .i64) (k := .int .i64 k) hk (by simp [IsKey]), MapKept.run_findKey hk f1, f2, Result.andThen]⟩
theorem look2 (h : MapIs w b m) (k : Int) {z : Value} (hz : (zeroValue vt).run P w = .ok z w) : lookIs P mt (.map (some b)) (.int .i64 k) true (.tuple #[(m.lookup k).getD z, .bool (m.lookup k).isSome]) w := by
  obtain ⟨es, c, h1, h2, h3, hf⟩ := h.find k
  rcases hf with ⟨f1, f2, _⟩ | ⟨j, e, f1, _, _, f2⟩
  · exact ⟨by simp [Instr.lookup, run_underlying hm, MapKept.run_getObj_map h1, MapKept.run_checkKey (d := .int .i64) (k := .int .i64 k) hk (by simp [IsKey]), MapKept.run_findKey hk f1, hz, f2, Result.andThen]⟩
  · exact ⟨by simp [Instr.lookup, run_underlying hm, MapKept.run_getObj_map h1, MapKept.run_checkKey (d := .int .i64) (k := .int .i64 k) hk (by simp [IsKey]), MapKept.run_findKey hk f1, f2, Result.andThen]⟩
theorem upd_new (h : MapIs w b m) (k : Int) (x : Value) (hr : -9223372036854775808 ≤ k ∧ k ≤ 9223372036854775807) (hin : m.lookup k = none) :
    ∃ w', updIs P mt (.map (some b)) (.int .i64 k) x w w' ∧ MapIs w' b (m ++ [(k, x)]) ∧ Kept (· = b) w w' := by
  obtain ⟨es, c, h1, h2, h3, hf⟩ := h.find k
  rcases hf with ⟨f1, f2, f3⟩ | ⟨j, e, f1, hj, hke, f2⟩
  · refine ⟨_, ⟨by simp [Instr.mapUpdate, run_underlying hm, MapKept.run_getObj_map h1, MapKept.run_checkKey (d := .int .i64) (k := .int .i64 k) hk (by simp [IsKey]), MapKept.run_findKey hk f1, MapKept.run_setObj_map _ h1, Result.andThen] <;> rfl⟩, ⟨⟨_, _, (heap_set h1).1, stamped_push h2 f3, ?_⟩, ?_, ?_⟩, setMap_kept h1⟩
    · rw [Array.toList_push, List.map_append, List.map_append]
      exact h3.append (List.Perm.refl _)
    · rw [List.map_append, List.nodup_append]
      refine ⟨h.nd, by simp, ?_⟩
      intro a ha c hc
      simp at hc
      subst hc
      intro e
      subst e
      obtain ⟨q, hq, rfl⟩ := List.mem_map.1 ha
      have := lookup_of_mem h.nd (k := q.1) (v := q.2) hq
      rw [hin] at this
      cases this
    · intro p hp
      rcases List.mem_append.1 hp with hp | hp
      · exact h.rg p hp
      · simp at hp; subst hp; exact hr
  · rw [f2] at hin; cases hin
theorem del1 (h : MapIs w b m) (k : Int) {ty : TypeId} : ∃ w', delIs P #[mt, kt] ty (.map (some b)) (.int .i64 k) w w' ∧ MapIs w' b (m.filter fun p => p.1 != k) ∧ Kept (· = b) w w' := by
  classical
  obtain ⟨es, c, h1, h2, h3, hf⟩ := h.find k
  have hnd : ((m.filter fun p => p.1 != k).map (·.1)).Nodup := List.Nodup.sublist ((List.filter_sublist (l := m)).map (·.1)) h.nd
  have hrg : ∀ p ∈ m.filter fun p => p.1 != k, -9223372036854775808 ≤ p.1 ∧ p.1 ≤ 9223372036854775807 := fun p hp => h.rg p (List.mem_filter.1 hp).1
  rcases hf with ⟨f1, f2, f3⟩ | ⟨j, e, f1, hj, hke, f2⟩
  · refine ⟨_, ⟨by simp [Builtin.delete_, run_underlying hm, MapKept.run_getObj_map h1, MapKept.run_checkKey (d := .int .i64) (k := .int .i64 k) hk (by simp [IsKey]), MapKept.run_findKey hk f1, MapKept.run_setObj_map _ h1, Result.andThen] <;> rfl⟩, ⟨⟨_, _, (heap_set h1).1, h2, ?_⟩, hnd, hrg⟩, setMap_kept h1⟩
    have : (m.filter fun p => p.1 != k) = m := by
      rw [List.filter_eq_self]
      intro p hp
      simp only [bne_iff_ne, ne_eq]
      intro e
      have := lookup_of_mem h.nd (k := p.1) (v := p.2) hp
      rw [e, f2] at this
      cases this
    rw [this]; exact h3
  · refine ⟨_, ⟨by simp [Builtin.delete_, run_underlying hm, MapKept.run_getObj_map h1, MapKept.run_checkKey (d := .int .i64) (k := .int .i64 k) hk (by simp [IsKey]), MapKept.run_findKey hk f1, MapKept.run_setObj_map _ h1, Result.andThen] <;> rfl⟩, ⟨⟨_, _, (heap_set h1).1, stamped_erase h2 _, ?_⟩, hnd, hrg⟩, setMap_kept h1⟩
    have hjl : j < es.toList.length := by have := (Array.getElem?_eq_some_iff.1 hj).1; simpa using this
    have e2 : es.toList[j] = e := by have := (Array.getElem?_eq_some_iff.1 hj).2; simpa using this
    have hE : (es.eraseIdxIfInBounds j).toList = es.toList.eraseIdx j := by
      unfold Array.eraseIdxIfInBounds
      rw [dif_pos (by simpa using hjl)]
      simp
    have hp := ((stamped_iff es c).1 h2).2.2
    have hF : es.toList.eraseIdx j = es.toList.filter fun x => decide (x.key ≠ .int .i64 k) := by
      rw [List.eraseIdx_eq_take_drop_succ]
      have hsplit : es.toList = es.toList.take j ++ e :: es.toList.drop (j + 1) := by
        rw [← e2]
        rw [List.getElem_cons_drop]
        exact (List.take_append_drop j es.toList).symm
      have hp' := hp
      rw [hsplit, List.pairwise_append] at hp'
      obtain ⟨_, q2, q3⟩ := hp'
      have q4 := (List.pairwise_cons.1 q2).1
      have t1 : (es.toList.take j).filter (fun x => decide (x.key ≠ .int .i64 k)) = es.toList.take j := by
        rw [List.filter_eq_self]
        intro x hx
        simp only [decide_eq_true_eq]
        have := q3 x hx e (List.mem_cons_self ..)
        rw [hke] at this; exact this
      have t2 : (es.toList.drop (j + 1)).filter (fun x => decide (x.key ≠ .int .i64 k)) = es.toList.drop (j + 1) := by
        rw [List.filter_eq_self]
        intro x hx
        simp only [decide_eq_true_eq]
        have := q4 x hx
        rw [hke] at this; exact Ne.symm this
      conv => rhs; rw [hsplit]
      rw [List.filter_append, List.filter_cons, t1, t2, if_neg (by simp [hke])]
    rw [hE, hF]
    have hG : (es.toList.filter fun x => decide (x.key ≠ .int .i64 k)).map enE = (es.toList.map enE).filter fun q => decide (q.1 ≠ .int .i64 k) := by
      rw [List.filter_map]
      rfl
    rw [hG]
    refine (h3.filter _).trans (List.Perm.of_eq ?_)
    rw [List.filter_map]
    congr 1
    refine List.filter_congr fun p _ => ?_
    simp [enK, Function.comp]
    by_cases hpk : p.1 = k <;> simp [hpk]
end
end Go.Eng
