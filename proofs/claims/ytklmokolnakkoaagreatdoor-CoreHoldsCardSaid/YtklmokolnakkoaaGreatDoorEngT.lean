/-
  A part of a proof that a law of this seat returns true at every input. Conditions: those in each theorem.
-/
import Derived.Test.YtklmokolnakkoaaGreatDoorEngR
import Derived.WideKeyEntry
namespace Go.Eng
open Go.MapKept
set_option linter.unusedSimpArgs false
set_option linter.unusedVariables false
section
variable {P : Program} {mt kt vt : TypeId} {κ : Type} [DecidableEq κ] {enc : κ → Value} (hm : P.underlying mt = some (.map kt vt)) (K : KeyOk P kt enc)
variable {w : World} {b : Nat} {m : List (κ × Value)}
theorem lookG_map (m : List (κ × Value)) (k : κ) (x : Value) (j : κ) (h : (m.lookup k).isSome = true) : (m.map fun p => if p.1 = k then (k, x) else p).lookup j = if j = k then some x else m.lookup j := by
  have e : ∀ (m : List (κ × Value)), j ≠ k → (m.map fun p => if p.1 = k then (k, x) else p).lookup j = m.lookup j := by
    intro m hj
    induction m with
    | nil => rfl
    | cons q m ih =>
      obtain ⟨c, d⟩ := q
      rw [List.map_cons]
      by_cases hc : c = k
      · subst hc
        simp only [if_true]
        have : (j == c) = false := by simpa using hj
        rw [List.lookup_cons, List.lookup_cons, this]
        exact ih
      · rw [if_neg hc, List.lookup_cons, List.lookup_cons, ih]
  by_cases hj : j = k
  · subst hj
    rw [if_pos rfl]
    induction m with
    | nil => cases h
    | cons p m ih =>
      obtain ⟨a, u⟩ := p
      rw [List.map_cons]
      by_cases hak : a = j
      · subst hak; simp
      · rw [if_neg hak]
        have h0 : (j == a) = false := by simpa using fun e => hak e.symm
        have h' : (m.lookup j).isSome = true := by
          rw [List.lookup_cons, h0] at h
          exact h
        rw [List.lookup_cons, h0]
        exact ih h'
  · rw [if_neg hj, e m hj]
include K hm
theorem updG_any (h : MapG enc w b m) (k : κ) (x : Value) : ∃ w' m', updIs P mt (.map (some b)) (enc k) x w w' ∧ MapG enc w' b m' ∧ (∀ j, m'.lookup j = if j = k then some x else m.lookup j) ∧ Kept (· = b) w w' := by
  cases hl : m.lookup k with
  | none =>
    obtain ⟨w', h1, h2, h3⟩ := updG_new hm K h k x hl
    refine ⟨w', _, h1, h2, fun j => ?_, h3⟩
    rw [List.lookup_append]
    by_cases hj : j = k
    · subst hj
      rw [hl]
      simp
    · rw [if_neg hj]
      cases m.lookup j with
      | some v => rfl
      | none =>
        have : (j == k) = false := by simpa using hj
        simp [List.lookup_cons, this]
  | some v =>
    obtain ⟨w', h1, h2, h3⟩ := updG_old hm K h k x (by rw [hl]; rfl)
    exact ⟨w', _, h1, h2, fun j => lookG_map m k x j (by rw [hl]; rfl), h3⟩
theorem entG (h : MapG enc w b m) (k : κ) {z : Value} (hz : ∀ u : World, (zeroValue vt).run P u = .ok z u) :
    ∃ v n w1, menIs P mt (.map (some b)) (enc k) (.tuple #[v, .int .i64 n]) w w1 ∧ Kept (· = b) w w1 ∧ (∃ m1, MapG enc w1 b m1 ∧ ∀ j, (m1.lookup j).getD z = (m.lookup j).getD z) ∧
      ∀ x, ∃ w2 m2, estIs P mt (.map (some b)) (.int .i64 n) x w1 w2 ∧ MapG enc w2 b m2 ∧ (∀ j, m2.lookup j = if j = k then some x else m.lookup j) ∧ Kept (· = b) w1 w2 := by
  classical
  have content : ∀ {u u' : World} {mm : List (κ × Value)}, u.heap[b]? = u'.heap[b]? → MapG enc u b mm → MapG enc u' b mm := by
    intro u u' mm he hM
    obtain ⟨es, c, g1, g2, g3⟩ := hM.ex
    exact ⟨⟨es, c, by rw [← he]; exact g1, g2, g3⟩, hM.nd⟩
  obtain ⟨es, c, h1, h2, h3, hf⟩ := h.find K k
  obtain ⟨s1, s2, _⟩ := h2
  have h2 : Stamped es c := ⟨s1, s2, ‹_›⟩
  rcases hf with ⟨f1, f2, f3⟩ | ⟨j, e0, f1, hj, hke, f2⟩
  · -- a new entry
    have hmen : (Instr.mapEntry mt (.map (some b)) (enc k)).run P w = .ok (.tuple #[z, .int .i64 (c : Int)]) { w with heap := w.heap.setIfInBounds b (.map (es.push ⟨enc k, z, c⟩) (c + 1)) } := by
      simp [Instr.mapEntry, run_underlying hm, MapKept.run_getObj_map h1, K.chk, f1, hz, MapKept.run_setObj_map _ h1, Result.andThen, goInt]
    obtain ⟨w', hu, hM', hk'⟩ := updG_new hm K h k z f2
    have hupd : (Instr.mapUpdate mt (.map (some b)) (enc k) z).run P w = .ok () { w with heap := w.heap.setIfInBounds b (.map (es.push ⟨enc k, z, c⟩) (c + 1)) } := by
      simp [Instr.mapUpdate, run_underlying hm, MapKept.run_getObj_map h1, K.chk, f1, MapKept.run_setObj_map _ h1, Result.andThen]
    have hw' : w' = { w with heap := w.heap.setIfInBounds b (.map (es.push ⟨enc k, z, c⟩) (c + 1)) } := by
      have := hu.run.symm.trans hupd
      cases this; rfl
    rw [← hw'] at hmen
    have hb1 : w'.heap[b]? = some (.map (es.push ⟨enc k, z, c⟩) (c + 1)) := by rw [hw']; exact (heap_set h1).1
    refine ⟨z, c, w', ⟨hmen⟩, hk', ⟨_, hM', fun i => ?_⟩, fun x => ?_⟩
    · rw [List.lookup_append]
      by_cases hi : i = k
      · subst hi; rw [f2]; simp
      · have : (i == k) = false := by simpa using hi
        cases m.lookup i <;> simp [List.lookup_cons, this]
    · have hidx : (es.push ⟨enc k, z, c⟩).findIdx? (fun e => ((e.born : Nat) : Int) == ((c : Nat) : Int)) = some es.size := by
        rw [Go.WideElems.findIdx_arr]
        exact Go.WideElems.findIdx_born (l := (es.push ⟨enc k, z, c⟩).toList) (j := es.size) (e0 := ⟨enc k, z, c⟩) (by
          simp only [Array.toList_push, List.map_append, List.map_cons, List.map_nil]
          refine List.nodup_append.2 ⟨s2, by simp, fun a ha d hd e1 => ?_⟩
          simp only [List.mem_singleton] at hd
          obtain ⟨y, hy, rfl⟩ := List.mem_map.1 ha
          have := s1 y hy
          omega) (by simp)
      have hmod : (es.push ⟨enc k, z, c⟩).modify es.size (fun e => { e with val := x }) = es.push ⟨enc k, x, c⟩ := by
        apply Array.ext'
        rw [Array.toList_modify, Array.toList_push, Array.toList_push, ← Array.length_toList, Go.WideElems.modify_last]
      have hest : (Instr.entryStore mt (.map (some b)) (.int .i64 (c : Int)) x).run P w' = .ok () { w' with heap := w'.heap.setIfInBounds b (.map (es.push ⟨enc k, x, c⟩) (c + 1)) } := by
        simp [Instr.entryStore, MapKept.run_getObj_map hb1, asInt, asIntOf, hidx, hmod, MapKept.run_setObj_map _ hb1, Result.andThen]
      obtain ⟨w2, hu2, hM2, hk2⟩ := updG_new hm K h k x f2
      have hupd2 : (Instr.mapUpdate mt (.map (some b)) (enc k) x).run P w = .ok () { w with heap := w.heap.setIfInBounds b (.map (es.push ⟨enc k, x, c⟩) (c + 1)) } := by
        simp [Instr.mapUpdate, run_underlying hm, MapKept.run_getObj_map h1, K.chk, f1, MapKept.run_setObj_map _ h1, Result.andThen]
      have hw2 : w2 = { w with heap := w.heap.setIfInBounds b (.map (es.push ⟨enc k, x, c⟩) (c + 1)) } := by
        have := hu2.run.symm.trans hupd2
        cases this; rfl
      refine ⟨_, _, ⟨hest⟩, content ?_ hM2, fun i => ?_, setMap_kept hb1⟩
      · rw [hw2, (heap_set h1).1, (heap_set hb1).1]
      · rw [List.lookup_append]
        by_cases hi : i = k
        · subst hi; rw [f2]; simp
        · have : (i == k) = false := by simpa using hi
          rw [if_neg hi]
          cases m.lookup i <;> simp [List.lookup_cons, this]
  · have h2' : es.toList[j]? = some e0 := by simpa using hj
    have hsame : es.modify j (fun e => { e with key := enc k }) = es := by
      apply Array.ext'
      rw [Array.toList_modify, Go.ChangeMaps.modify_eq_set _ _ _ _ h2']
      have : ({ e0 with key := enc k } : MapEntry) = e0 := by rw [← hke]
      rw [this]
      exact Go.WideElems.set_self _ _ _ h2'
    have hset : ({ w with heap := w.heap.setIfInBounds b (.map es c) } : World) = w := by
      have : w.heap.setIfInBounds b (.map es c) = w.heap := by
        apply Array.ext_getElem?
        intro i
        rw [Array.getElem?_setIfInBounds]
        split
        · rename_i hbi
          subst hbi
          split
          · exact h1.symm
          · rename_i hlt
            exact absurd (Array.getElem?_eq_some_iff.1 h1).1 hlt
        · rfl
      rw [this]
    have hmen : (Instr.mapEntry mt (.map (some b)) (enc k)).run P w = .ok (.tuple #[e0.val, .int .i64 (e0.born : Int)]) w := by
      simp [Instr.mapEntry, run_underlying hm, MapKept.run_getObj_map h1, K.chk, f1, hj, hke, keyStays_gen K, hsame, MapKept.run_setObj_map _ h1, Result.andThen, goInt, hset]
    refine ⟨e0.val, e0.born, w, ⟨hmen⟩, Kept.refl _ _, ⟨m, h, fun _ => rfl⟩, fun x => ?_⟩
    have hidx : es.findIdx? (fun e => ((e.born : Nat) : Int) == ((e0.born : Nat) : Int)) = some j := by
      rw [Go.WideElems.findIdx_arr]
      exact Go.WideElems.findIdx_born s2 h2'
    have hmod : es.modify j (fun e => { e with val := x }) = es.modify j (fun e' => { e' with key := enc k, val := x }) := by
      apply Array.ext'
      rw [Array.toList_modify, Array.toList_modify, Go.ChangeMaps.modify_eq_set _ _ _ _ h2', Go.ChangeMaps.modify_eq_set _ _ _ _ h2', ← hke]
    have hest : (Instr.entryStore mt (.map (some b)) (.int .i64 (e0.born : Int)) x).run P w = .ok () { w with heap := w.heap.setIfInBounds b (.map (es.modify j (fun e' => { e' with key := enc k, val := x })) c) } := by
      simp [Instr.entryStore, MapKept.run_getObj_map h1, asInt, asIntOf, hidx, hmod, MapKept.run_setObj_map _ h1, Result.andThen]
    obtain ⟨w2, hu2, hM2, hk2⟩ := updG_old hm K h k x (by rw [f2]; rfl)
    have hupd2 : (Instr.mapUpdate mt (.map (some b)) (enc k) x).run P w = .ok () { w with heap := w.heap.setIfInBounds b (.map (es.modify j (fun e' => { e' with key := enc k, val := x })) c) } := by
      simp [Instr.mapUpdate, run_underlying hm, MapKept.run_getObj_map h1, K.chk, f1, hj, hke, keyStays_gen K, MapKept.run_setObj_map _ h1, Result.andThen]
    have hw2 : w2 = { w with heap := w.heap.setIfInBounds b (.map (es.modify j (fun e' => { e' with key := enc k, val := x })) c) } := by
      have := hu2.run.symm.trans hupd2
      cases this; rfl
    exact ⟨_, _, ⟨hest⟩, hw2 ▸ hM2, fun i => lookG_map m k x i (by rw [f2]; rfl), hw2 ▸ hk2⟩
end
end Go.Eng
