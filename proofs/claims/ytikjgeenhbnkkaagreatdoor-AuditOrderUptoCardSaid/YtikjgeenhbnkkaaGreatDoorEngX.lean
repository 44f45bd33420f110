/-
  A part of a proof that a law of this seat returns true at every input. Conditions: those in each theorem.
-/
import Derived.Test.YtikjgeenhbnkkaaGreatDoorEngR
namespace Go.Eng
set_option linter.unusedSimpArgs false
set_option linter.unusedVariables false
def regOf : Code → Nat → Option (Array Oper)
  | .region id ops _, n => if id == n then some ops else none
  | .seq a b, n => (match regOf a n with | some x => some x | none => regOf b n)
  | .cond _ a b, n => (match regOf a n with | some x => some x | none => regOf b n)
  | .block _ b, n => regOf b n
  | .loop b, n => regOf b n
  | .scope b, n => regOf b n
  | _, _ => none
def regOps (f : Func) (id : Nat) : List Oper :=
  match f.body with
  | some c => (match regOf c id with | some ops => ops.toList | none => [])
  | none => []
def hasDep (ops : Array Oper) (i k : Nat) : Bool :=
  match ops[i]? with
  | some o => o.after.any fun e => Region.binds .any e && e.on == k
  | none => false
theorem hasDep_spec {ops : Array Oper} {i k : Nat} (h : hasDep ops i k = true) : ∃ o, ops[i]? = some o ∧ ∃ e ∈ o.after, Region.binds .any e = true ∧ e.on = k := by
  unfold hasDep at h
  split at h
  · rename_i o ho
    refine ⟨o, ho, ?_⟩
    rw [Array.any_eq_true] at h
    obtain ⟨j, hj, he⟩ := h
    simp only [Bool.and_eq_true, beq_iff_eq] at he
    exact ⟨o.after[j], Array.getElem_mem hj, he.1, he.2⟩
  · cases h
theorem Closed.dep {ops : Array Oper} {listed : Array Bool} (hc : Closed ops listed) {i k : Nat} (hi : listed.getD i false = true) (hd : hasDep ops i k = true) : listed.getD k false = true := by
  obtain ⟨o, ho, e, he, hb, rfl⟩ := hasDep_spec hd
  exact hc i o ho hi e he hb
theorem ready_dep {ops : Array Oper} {listed : Array Bool} {i k : Nat} (hi : i ∈ Region.ready .any ops listed) (hd : hasDep ops i k = true) : listed.getD k false = true := by
  obtain ⟨o, ho, e, he, hb, rfl⟩ := hasDep_spec hd
  obtain ⟨_, o', ho', hall⟩ := mem_ready.1 hi
  rw [ho] at ho'
  cases ho'
  exact hall e he hb
theorem ready_un {ops : Array Oper} {listed : Array Bool} {i : Nat} (hi : i ∈ Region.ready .any ops listed) : listed.getD i false = false ∧ i < listed.size := by
  have h0 := (mem_ready.1 hi).1
  rcases Nat.lt_or_ge i listed.size with h' | h'
  · simp [h'] at h0 ⊢; exact h0
  · simp [Array.getElem?_eq_none h'] at h0
def unl (listed : Array Bool) : Nat := (listed.toList.filter (!·)).length
theorem unl_list : ∀ (L : List Bool) (i : Nat), L[i]? = some false → ((L.set i true).filter (!·)).length + 1 = (L.filter (!·)).length
  | [], i, h => by simp at h
  | a :: L, 0, h => by simp at h; subst h; simp
  | a :: L, i + 1, h => by
    have := unl_list L i (by simpa using h)
    cases a
    · rw [List.set_cons_succ, List.filter_cons_of_pos (by rfl), List.filter_cons_of_pos (by rfl), List.length_cons, List.length_cons]
      omega
    · rw [List.set_cons_succ, List.filter_cons_of_neg (by simp), List.filter_cons_of_neg (by simp)]
      exact this
theorem unl_set {listed : Array Bool} {i : Nat} (hi : i < listed.size) (h : listed.getD i false = false) : unl (listed.setIfInBounds i true) + 1 = unl listed := by
  unfold unl
  have e : (listed.setIfInBounds i true).toList = listed.toList.set i true := by simp
  rw [e]
  have h' : listed.toList[i]? = some false := by
    have : listed[i]? = some false := by
      simp [hi] at h ⊢; exact h
    simpa using this
  exact unl_list _ _ h'
theorem wpAny_inv {P : Program} {ops : Array Oper} {Q : Exit → Act → World → Prop} (Inv : Array Bool → Act → World → Prop)
    (hstep : ∀ listed a w i, Inv listed a w → i ∈ Region.ready .any ops listed → wpOp P ops Q i (fun a' w' => Inv (listed.setIfInBounds i true) a' w') a w)
    (hfin : ∀ listed a w, Inv listed a w → Region.ready .any ops listed = [] → Q .normal a w) :
    ∀ (fuel : Nat) (listed : Array Bool) (a : Act) (w : World), unl listed ≤ fuel → Inv listed a w → wpAny P .any ops Q fuel listed a w
  | 0, listed, a, w, hu, h => by
    have hr : Region.ready .any ops listed = [] := by
      cases hR : Region.ready .any ops listed with
      | nil => rfl
      | cons i r =>
        have hi : i ∈ Region.ready .any ops listed := by rw [hR]; simp
        obtain ⟨h1, h2⟩ := ready_un hi
        have := unl_set h2 h1
        omega
    exact ⟨hr, hfin _ _ _ h hr⟩
  | fuel + 1, listed, a, w, hu, h => by
    refine ⟨hfin _ _ _ h, fun i hi => ?_⟩
    obtain ⟨h1, h2⟩ := ready_un hi
    have := unl_set h2 h1
    exact wpOp_mono (fun a' w' h' => wpAny_inv Inv hstep hfin fuel _ a' w' (by omega) h') (hstep listed a w i h hi)
def envOf (n : Nat) (L : List (Nat × Value)) : Env := (List.range n).map fun t => (L.lookup t).map fun v => ⟨none, v, none⟩
theorem envOf_agree {n : Nat} {L : List (Nat × Value)} {a : Act} (hn : a.tmps.size = n) (h : ∀ p ∈ L, a.tmps[p.1]? = some p.2) : Agree (envOf n L) a := by
  have key : ∀ (t : Nat) (m : Ent), (envOf n L)[t]? = some (some m) → ∃ v, m = ⟨none, v, none⟩ ∧ a.tmps[t]? = some v := by
    intro t m hm
    unfold envOf at hm
    rw [List.getElem?_map] at hm
    cases hr : (List.range n)[t]? with
    | none => rw [hr] at hm; cases hm
    | some t' =>
      have ht : t' = t := by
        have := List.getElem?_eq_some_iff.1 hr
        obtain ⟨h1, h2⟩ := this
        simp at h2
        exact h2.symm
      subst ht
      rw [hr] at hm
      simp only [Option.map_some, Option.some.injEq] at hm
      cases hl : L.lookup t' with
      | none => rw [hl] at hm; cases hm
      | some v =>
        rw [hl] at hm
        simp only [Option.map_some, Option.some.injEq] at hm
        refine ⟨v, hm.symm, ?_⟩
        have : (t', v) ∈ L := by
          clear h hm hn hr
          induction L with
          | nil => cases hl
          | cons q L ih =>
            obtain ⟨c, d⟩ := q
            rw [List.lookup_cons] at hl
            by_cases e : t' = c
            · subst e; simp at hl; subst hl; simp
            · rw [show (t' == c) = false by simpa using e] at hl
              exact List.mem_cons_of_mem _ (ih hl)
        exact h _ this
  refine ⟨by simp [envOf, hn], fun t m hm => ?_, fun t m b hm hb => ?_⟩
  · obtain ⟨v, rfl, hv⟩ := key t m hm
    exact hv
  · obtain ⟨v, rfl, hv⟩ := key t m hm
    cases hb
theorem wpOp_loud {P : Program} {H : Hand} (hH : HSound P H) {ops : Array Oper} {i : Nat} {o : Oper} (hi : ops[i]? = some o) (hg : o.guard = none) {e : Env} {a : Act} (hag : Agree e a) {w : World} {K' : Value → World → Prop} (h : eOp P H (rdO [] e) o w K') {K : Act → World → Prop} {Q : Exit → Act → World → Prop} (hK : ∀ v w', K' v w' → K (a.put o.dst v) w') :
    wpOp P ops Q i K a w := by
  unfold wpOp
  rw [hi]
  dsimp only
  rw [if_pos (by simp [Region.wanted, hg])]
  exact .inl (eOp_sound hH (rdO_sound hag (by simp)) h hK)
theorem wpOp_run {P : Program} {ops : Array Oper} {i : Nat} {o : Oper} (hi : ops[i]? = some o) (hg : o.guard = none) {a : Act} {w : World} {v : Value} (hr : (execOp a.eval o).run P w = .ok (.value v) w) {K : Act → World → Prop} {Q : Exit → Act → World → Prop} (hK : K (a.put o.dst v) w) :
    wpOp P ops Q i K a w := by
  unfold wpOp
  rw [hi]
  dsimp only
  rw [if_pos (by simp [Region.wanted, hg])]
  refine .inl ?_
  unfold Oper.wp
  rw [hr]
  exact hK
theorem wpOp_den {P : Program} {ops : Array Oper} {i : Nat} {o : Oper} (hi : ops[i]? = some o) (hg : o.guard = none) {e : Env} {a : Act} (hag : Agree e a) {w : World} {τ : Nat → Option TypeId} {N : Value → Prop} (h : (qOp P τ (rdO [] e) o).den w (fun v _ => N v) (fun _ => True))
    {K : Act → World → Prop} {Q : Exit → Act → World → Prop} (hK : ∀ v, N v → K (a.put o.dst v) w) : wpOp P ops Q i K a w := by
  obtain ⟨v, c', hs, hc, c'', hn, _⟩ := QRes.den_spec h
  exact wpOp_run hi hg (qOp_sound (rdO_sound hag (by simp)) hs hc) (hK v hn)
end Go.Eng
