/-
  Part R of an engine: maps whose keys are of any one kind. Proved: what a look, a laying and a deleting do. Conditions: those in each theorem.
-/
import Derived.Test.YtklmokolnakkoaaGreatDoorEngQ
namespace Go.Eng
open Go.MapKept
set_option linter.unusedSimpArgs false
set_option linter.unusedVariables false

structure KeyOk (P : Program) (kt : TypeId) {κ : Type} [DecidableEq κ] (enc : κ → Value) : Prop where
  inj : ∀ a b, enc a = enc b → a = b
  chk : ∀ (e : Bool) (a : κ) (w : World), (Instr.checkKey e 10000 kt (enc a)).run P w = .ok () w
  und : ∃ d, P.underlying kt = some d ∧ ∀ a b, Instr.sameNow d (enc a) (enc b) = none ∨ Instr.sameNow d (enc a) (enc b) = some (decide (a = b))
  eq : ∀ (a b : κ) (w : World), (Op.equal kt (enc a) (enc b)).run P w = .ok (decide (a = b)) w
  same : ∀ a, Instr.sameBits 10000 (enc a) (enc a) = true
section
variable {P : Program} {kt : TypeId} {κ : Type} [DecidableEq κ] {enc : κ → Value} (K : KeyOk P kt enc)
include K
theorem findNow_gen {d : TypeDesc} (hd : ∀ a b, Instr.sameNow d (enc a) (enc b) = none ∨ Instr.sameNow d (enc a) (enc b) = some (decide (a = b))) (a : κ) : ∀ (l : List MapEntry) (i : Nat), (∀ x ∈ l, ∃ q, x.key = enc q) →
    Instr.findNow d (enc a) l i = none ∨ (Instr.findNow d (enc a) l i = some none ∧ ∀ x ∈ l, x.key ≠ enc a) ∨ ∃ j e, Instr.findNow d (enc a) l i = some (some (i + j, e.val)) ∧ l[j]? = some e ∧ e.key = enc a
  | [], i, _ => .inr (.inl ⟨rfl, by simp⟩)
  | e :: es, i, h => by
    obtain ⟨q, hq⟩ := h e (.head _)
    unfold Instr.findNow
    rw [hq]
    rcases hd a q with h0 | h0
    · rw [h0]; exact .inl rfl
    · rw [h0]
      by_cases haq : a = q
      · subst haq
        simp only [decide_true]
        exact .inr (.inr ⟨0, e, rfl, rfl, hq⟩)
      · simp only [haq, decide_false]
        rcases findNow_gen hd a es (i + 1) (fun x hx => h x (.tail _ hx)) with h1 | ⟨h1, h2⟩ | ⟨j, e', h1, h2, h3⟩
        · exact .inl h1
        · refine .inr (.inl ⟨h1, fun x hx => ?_⟩)
          rcases List.mem_cons.1 hx with rfl | hx
          · rw [hq]; exact fun hh => haq (K.inj _ _ hh).symm
          · exact h2 x hx
        · exact .inr (.inr ⟨j + 1, e', by rw [h1]; simp only [Option.some.injEq, Prod.mk.injEq, and_true]; omega, h2, h3⟩)
theorem findAsking_gen (w : World) (a : κ) : ∀ (l : List MapEntry) (i : Nat), (∀ x ∈ l, ∃ q, x.key = enc q) →
    ((Instr.findAsking kt (enc a) l i).run P w = .ok none w ∧ ∀ x ∈ l, x.key ≠ enc a) ∨ ∃ j e, (Instr.findAsking kt (enc a) l i).run P w = .ok (some (i + j, e.val)) w ∧ l[j]? = some e ∧ e.key = enc a
  | [], i, _ => .inl ⟨by simp [Instr.findAsking], by simp⟩
  | e :: es, i, h => by
    obtain ⟨q, hq⟩ := h e (.head _)
    unfold Instr.findAsking
    rw [hq]
    simp only [Sem.run_bind, K.eq, Result.andThen_ok]
    by_cases haq : a = q
    · subst haq
      refine .inr ⟨0, e, ?_, rfl, hq⟩
      simp
    · have e0 : decide (a = q) = false := by simp [haq]
      rw [e0]
      rcases findAsking_gen w a es (i + 1) (fun x hx => h x (.tail _ hx)) with ⟨h1, h2⟩ | ⟨j, e', h1, h2, h3⟩
      · refine .inl ⟨by simpa using h1, fun x hx => ?_⟩
        rcases List.mem_cons.1 hx with rfl | hx
        · rw [hq]; exact fun hh => haq (K.inj _ _ hh).symm
        · exact h2 x hx
      · exact .inr ⟨j + 1, e', by
          simp only [Bool.false_eq_true, if_false]
          rw [h1]
          simp only [Result.ok.injEq, Option.some.injEq, Prod.mk.injEq, and_true]; omega, h2, h3⟩
theorem findKey_gen (w : World) (a : κ) (l : List MapEntry) (h : ∀ x ∈ l, ∃ q, x.key = enc q) :
    ((Instr.findKey kt (enc a) l).run P w = .ok none w ∧ ∀ x ∈ l, x.key ≠ enc a) ∨ ∃ j e, (Instr.findKey kt (enc a) l).run P w = .ok (some (j, e.val)) w ∧ l[j]? = some e ∧ e.key = enc a := by
  obtain ⟨d, hd, hs⟩ := K.und
  rcases findNow_gen K hs a l 0 h with h1 | ⟨h1, h2⟩ | ⟨j, e, h1, h2, h3⟩
  · rcases findAsking_gen K w a l 0 h with ⟨g1, g2⟩ | ⟨j, e, g1, g2, g3⟩
    · exact .inl ⟨by simp only [Instr.findKey, Sem.run_bind, run_underlying hd, Result.andThen_ok, h1]; exact g1, g2⟩
    · refine .inr ⟨j, e, ?_, g2, g3⟩
      simp only [Instr.findKey, Sem.run_bind, run_underlying hd, Result.andThen_ok, h1]
      rw [g1, Nat.zero_add]
  · exact .inl ⟨by simp [Instr.findKey, run_underlying hd, Result.andThen, h1], h2⟩
  · refine .inr ⟨j, e, ?_, h2, h3⟩
    rw [Nat.zero_add] at h1
    simp [Instr.findKey, run_underlying hd, Result.andThen, h1]
end
theorem lookup_beq {κ : Type} [DecidableEq κ] [B : BEq κ] [LawfulBEq κ] (m : List (κ × Value)) (k : κ) : @List.lookup κ Value instBEqOfDecidableEq k m = @List.lookup κ Value B k m := by
  induction m with
  | nil => rfl
  | cons p m ih =>
    obtain ⟨k', v⟩ := p
    rw [@List.lookup_cons _ _ _ _ _ instBEqOfDecidableEq, @List.lookup_cons _ _ _ _ _ B, ih]
    have : (@BEq.beq κ instBEqOfDecidableEq k k') = (@BEq.beq κ B k k') := by
      by_cases h : k = k'
      · subst h
        have h1 : (@BEq.beq κ B k k) = true := by simp
        have h2 : (@BEq.beq κ instBEqOfDecidableEq k k) = true := decide_eq_true rfl
        rw [h1, h2]
      · have h1 : (@BEq.beq κ B k k') = false := by simpa using h
        have h2 : (@BEq.beq κ instBEqOfDecidableEq k k') = false := decide_eq_false h
        rw [h1, h2]
    rw [this]
section
variable {κ : Type} {enc : κ → Value}
abbrev enG (enc : κ → Value) (p : κ × Value) : Value × Value := (enc p.1, p.2)
structure MapG (enc : κ → Value) (w : World) (b : Nat) (m : List (κ × Value)) : Prop where
  ex : ∃ es clock, w.heap[b]? = some (.map es clock) ∧ Stamped es clock ∧ (es.toList.map enE).Perm (m.map (enG enc))
  nd : (m.map (·.1)).Nodup
section
variable {w w' : World} {b : Nat} {m : List (κ × Value)}
theorem MapG.lt (h : MapG enc w b m) : b < w.heap.size := by
  obtain ⟨es, c, h1, _⟩ := h.ex
  exact (Array.getElem?_eq_some_iff.1 h1).1
theorem MapG.kx {X : Nat → Prop} (h : MapG enc w b m) (k : Kept X w w') (hx : ¬ X b) : MapG enc w' b m := by
  have hl := h.lt
  obtain ⟨es, c, h1, h2⟩ := h.ex
  exact ⟨⟨es, c, (k.blk b hl hx).trans h1, h2⟩, h.nd⟩
theorem MapG.k (h : MapG enc w b m) (k : Kept none' w w') : MapG enc w' b m := h.kx k id
theorem mapG_new (e : w' = w.alloc (.map #[] 0)) : MapG enc w' w.heap.size [] :=
  ⟨⟨#[], 0, by rw [e]; exact (heap_alloc w _).1, ⟨by simp, by simp, by simp⟩, List.Perm.refl _⟩, List.nodup_nil⟩
theorem MapG.keysI {es : Array MapEntry} (hp : (es.toList.map enE).Perm (m.map (enG enc))) : ∀ x ∈ es.toList, ∃ q, x.key = enc q := fun x hx => by
  have : enE x ∈ m.map (enG enc) := hp.mem_iff.1 (List.mem_map.2 ⟨x, hx, rfl⟩)
  obtain ⟨q, _, hq⟩ := List.mem_map.1 this
  exact ⟨q.1, (congrArg Prod.fst hq).symm⟩
end
end
section
variable {κ : Type} [DecidableEq κ] {enc : κ → Value}
theorem lookG_of_mem {m : List (κ × Value)} (h : (m.map (·.1)).Nodup) {k : κ} {v : Value} (hm : (k, v) ∈ m) : m.lookup k = some v := by
  induction m with
  | nil => cases hm
  | cons p m ih =>
    obtain ⟨k', v'⟩ := p
    simp only [List.map_cons, List.nodup_cons] at h
    rw [List.lookup_cons]
    rcases List.mem_cons.1 hm with e | hm
    · cases e; simp
    · have : k ≠ k' := fun e => h.1 (List.mem_map.2 ⟨(k, v), hm, e⟩)
      rw [show (k == k') = false by simpa using this]
      exact ih h.2 hm
theorem lookG_none_of {m : List (κ × Value)} {k : κ} (h : ∀ v, (k, v) ∉ m) : m.lookup k = none := by
  induction m with
  | nil => rfl
  | cons p m ih =>
    obtain ⟨k', v'⟩ := p
    rw [List.lookup_cons]
    have : k ≠ k' := fun e => h v' (by subst e; exact List.mem_cons_self ..)
    rw [show (k == k') = false by simpa using this]
    exact ih fun v hv => h v (List.mem_cons_of_mem _ hv)
section
variable {P : Program} {mt kt vt : TypeId} (hm : P.underlying mt = some (.map kt vt)) (K : KeyOk P kt enc)
variable {w : World} {b : Nat} {m : List (κ × Value)}
include K
theorem MapG.find (h : MapG enc w b m) (k : κ) : ∃ es c, w.heap[b]? = some (.map es c) ∧ Stamped es c ∧ (es.toList.map enE).Perm (m.map (enG enc)) ∧
    (((Instr.findKey kt (enc k) es.toList).run P w = .ok none w ∧ m.lookup k = none ∧ ∀ x ∈ es.toList, x.key ≠ enc k) ∨
     ∃ (j : Nat) (e : MapEntry), (Instr.findKey kt (enc k) es.toList).run P w = .ok (some (j, e.val)) w ∧ es[j]? = some e ∧ e.key = enc k ∧ m.lookup k = some e.val) := by
  obtain ⟨es, c, h1, h2, h3⟩ := h.ex
  refine ⟨es, c, h1, h2, h3, ?_⟩
  rcases findKey_gen K w k es.toList (MapG.keysI h3) with ⟨f1, f2⟩ | ⟨j, e, f1, f2, f3⟩
  · refine .inl ⟨f1, lookG_none_of fun v hv => ?_, f2⟩
    have : enG enc (k, v) ∈ es.toList.map enE := h3.mem_iff.2 (List.mem_map.2 ⟨_, hv, rfl⟩)
    obtain ⟨x, hx, hxe⟩ := List.mem_map.1 this
    exact f2 x hx (congrArg Prod.fst hxe)
  · refine .inr ⟨j, e, f1, by simpa using f2, f3, lookG_of_mem h.nd ?_⟩
    have hm : e ∈ es.toList := List.mem_of_getElem? f2
    have : enE e ∈ m.map (enG enc) := h3.mem_iff.1 (List.mem_map.2 ⟨e, hm, rfl⟩)
    obtain ⟨⟨k', v'⟩, hq, hqe⟩ := List.mem_map.1 this
    simp only [enG, enE, f3, Prod.mk.injEq] at hqe
    obtain ⟨q1, rfl⟩ := hqe
    have := K.inj _ _ q1
    subst this
    exact hq
include hm
theorem lookG2 (h : MapG enc w b m) (k : κ) {z : Value} (hz : (zeroValue vt).run P w = .ok z w) : lookIs P mt (.map (some b)) (enc k) true (.tuple #[(m.lookup k).getD z, .bool (m.lookup k).isSome]) w := by
  obtain ⟨es, c, h1, h2, h3, hf⟩ := h.find K k
  rcases hf with ⟨f1, f2, _⟩ | ⟨j, e, f1, _, _, f2⟩
  · exact ⟨by simp [Instr.lookup, run_underlying hm, MapKept.run_getObj_map h1, K.chk, f1, hz, f2, Result.andThen]⟩
  · exact ⟨by simp [Instr.lookup, run_underlying hm, MapKept.run_getObj_map h1, K.chk, f1, f2, Result.andThen]⟩
theorem updG_new (h : MapG enc w b m) (k : κ) (x : Value) (hin : m.lookup k = none) :
    ∃ w', updIs P mt (.map (some b)) (enc k) x w w' ∧ MapG enc w' b (m ++ [(k, x)]) ∧ Kept (· = b) w w' := by
  obtain ⟨es, c, h1, h2, h3, hf⟩ := h.find K k
  rcases hf with ⟨f1, f2, f3⟩ | ⟨j, e, f1, hj, hke, f2⟩
  · refine ⟨_, ⟨by simp [Instr.mapUpdate, run_underlying hm, MapKept.run_getObj_map h1, K.chk, f1, MapKept.run_setObj_map _ h1, Result.andThen] <;> rfl⟩, ⟨⟨_, _, (heap_set h1).1, stamped_push h2 f3, ?_⟩, ?_⟩, setMap_kept h1⟩
    · rw [Array.toList_push, List.map_append, List.map_append]
      exact h3.append (List.Perm.refl _)
    · rw [List.map_append, List.nodup_append]
      refine ⟨h.nd, by simp, ?_⟩
      intro a ha c hc
      simp at hc
      subst hc
      intro e
      subst e
      obtain ⟨q, hq, rfl⟩ := List.mem_map.1 ha
      have := lookG_of_mem h.nd (k := q.1) (v := q.2) hq
      rw [hin] at this
      cases this
  · rw [f2] at hin; cases hin
end
end
end Go.Eng
