/-
  Part F of an engine: frames and environments. Proved: an environment that agrees with a frame goes on agreeing. Conditions: none beyond each theorem's own.
-/
import Derived.Test.YtklmokolnakkoaaGreatDoorEngE
set_option linter.unusedVariables false
set_option linter.unusedSimpArgs false
namespace Go.Eng

structure Ent where
  need : Option (Nat × Bool)
  val : Value
  /-- what it is, where that has been settled -/
  fix : Option Bool
abbrev Env := List (Option Ent)

def HoldsB (ts : Array Value) (p : Nat × Bool) : Prop := ts[p.1]? = some (.bool p.2)
def EntOk (ts : Array Value) (t : Nat) (n : Ent) : Prop :=
  match n.need with
  | none => ts[t]? = some n.val
  | some p => (HoldsB ts p → ts[t]? = some n.val) ∧ (¬ HoldsB ts p → ts[t]? = some undef)
structure Agree (e : Env) (a : Act) : Prop where
  len : e.length = a.tmps.size
  ent : ∀ t n, e[t]? = some (some n) → EntOk a.tmps t n
  fx : ∀ t n b, e[t]? = some (some n) → n.fix = some b → HoldsB a.tmps (t, b)

def getE (e : Env) (t : Nat) : Option Ent :=
  match e[t]? with
  | some (some n) => some n
  | _ => none
def dropOn (d : Nat) : Option Ent → Option Ent
  | some ⟨some (s, b), v, k⟩ => (match s == d with | true => none | false => some ⟨some (s, b), v, k⟩)
  | x => x
def putE (e : Env) (d : Option Tmp) (n : Ent) : Env :=
  match d with
  | none => e
  | some d =>
    match n.need with
    | none => (e.map (dropOn d)).set d (some n)
    | some (s, _) =>
      match s == d with
      | true => (e.map (dropOn d)).set d none
      | false => (e.map (dropOn d)).set d (some n)

theorem getE_some {e : Env} {t : Nat} {n : Ent} (h : getE e t = some n) : e[t]? = some (some n) := by
  unfold getE at h
  split at h
  · rename_i m hm; simp at h; subst h; exact hm
  · simp at h
theorem dropOn_some {d : Nat} {x : Option Ent} {n : Ent} (h : dropOn d x = some n) : x = some n ∧ ∀ p, n.need = some p → p.1 ≠ d := by
  unfold dropOn at h
  split at h
  · rename_i s b v k
    split at h
    · simp at h
    · rename_i hs
      simp at h; subst h
      refine ⟨rfl, fun p hp => ?_⟩
      simp at hp; subst hp
      simpa using hs
  · rename_i hn
    subst h
    refine ⟨rfl, fun p hp => ?_⟩
    obtain ⟨nd, v, k⟩ := n
    simp at hp; subst hp
    obtain ⟨s, b⟩ := p
    exact absurd rfl (hn s b v k)

theorem HoldsB_put {a : Act} {d : Nat} {v : Value} {p : Nat × Bool} (h : p.1 ≠ d) : HoldsB (a.put (some d) v).tmps p ↔ HoldsB a.tmps p := by
  simp [HoldsB, Act.put, Array.getElem?_setIfInBounds_ne (Ne.symm h)]
theorem EntOk_put_other {a : Act} {d t : Nat} {v : Value} {n : Ent} (h : EntOk a.tmps t n) (ht : t ≠ d) (hn : ∀ p, n.need = some p → p.1 ≠ d) : EntOk (a.put (some d) v).tmps t n := by
  unfold EntOk at *
  have hg : (a.put (some d) v).tmps[t]? = a.tmps[t]? := by simp [Act.put, Array.getElem?_setIfInBounds_ne (Ne.symm ht)]
  split
  · rename_i h0; rw [h0] at h; rw [hg]; exact h
  · rename_i p h0
    rw [h0] at h
    rw [hg, HoldsB_put (hn p h0)]
    exact h
theorem Agree.put {e : Env} {a : Act} (h : Agree e a) (d : Option Tmp) (n : Ent) {v : Value}
    (hv : match n.need with
      | none => v = n.val
      | some p => (HoldsB a.tmps p → v = n.val) ∧ (¬ HoldsB a.tmps p → v = undef)) (hfn : n.fix = none := by rfl) : Agree (putE e d n) (a.put d v) := by
  cases d with
  | none => exact h
  | some d =>
    have hlen : ∀ x : Option Ent, ((e.map (dropOn d)).set d x).length = (a.put (some d) v).tmps.size := by
      intro x; simp [Act.put, h.len]
    have hoth : ∀ (x : Option Ent) t m, ((e.map (dropOn d)).set d x)[t]? = some (some m) → t ≠ d → EntOk (a.put (some d) v).tmps t m := by
      intro x t m hm ht
      rw [List.getElem?_set_ne (Ne.symm ht), List.getElem?_map] at hm
      cases hx : e[t]? with
      | none => simp [hx] at hm
      | some y =>
        simp only [hx, Option.map_some, Option.some.injEq] at hm
        obtain ⟨rfl, hn⟩ := dropOn_some hm
        exact EntOk_put_other (h.ent t m hx) ht hn
    have hself : ∀ t m (x : Option Ent), ((e.map (dropOn d)).set d x)[t]? = some (some m) → t = d → x = some m ∧ d < a.tmps.size := by
      intro t m x hm ht
      subst ht
      rw [List.getElem?_set_self'] at hm
      cases hx : (e.map (dropOn t))[t]? with
      | none => simp [hx] at hm
      | some y =>
        simp [hx] at hm
        refine ⟨hm, ?_⟩
        have := (List.getElem?_eq_some_iff.1 hx).1
        simpa [h.len] using this
    have hfx : ∀ (x : Option Ent), (x = none ∨ x = some n) → ∀ t m b, ((e.map (dropOn d)).set d x)[t]? = some (some m) → m.fix = some b → HoldsB (a.put (some d) v).tmps (t, b) := by
      intro x hx t m b hm hb
      by_cases ht : t = d
      · obtain ⟨h1, _⟩ := hself t m _ hm ht
        subst h1
        rcases hx with hx | hx
        · cases hx
        · cases hx; rw [hfn] at hb; cases hb
      · rw [HoldsB_put (p := (t, b)) ht]
        rw [List.getElem?_set_ne (Ne.symm ht), List.getElem?_map] at hm
        cases hy : e[t]? with
        | none => simp [hy] at hm
        | some y =>
          simp only [hy, Option.map_some, Option.some.injEq] at hm
          obtain ⟨rfl, _⟩ := dropOn_some hm
          exact h.fx t m b hy hb
    unfold putE
    dsimp only
    cases hneed : n.need with
    | none =>
      rw [hneed] at hv
      refine ⟨hlen _, fun t m hm => ?_, hfx _ (.inr rfl)⟩
      by_cases ht : t = d
      · obtain ⟨hx, hlt⟩ := hself t m _ hm ht
        simp at hx; subst hx; subst ht
        simp only [EntOk, hneed, Act.put]
        rw [hv]; simp [hlt]
      · exact hoth _ t m hm ht
    | some p =>
      obtain ⟨s, b⟩ := p
      rw [hneed] at hv
      dsimp only
      split
      · refine ⟨hlen _, fun t m hm => ?_, hfx _ (.inl rfl)⟩
        by_cases ht : t = d
        · obtain ⟨hx, hlt⟩ := hself t m _ hm ht
          simp at hx
        · exact hoth _ t m hm ht
      · rename_i hs
        have hs : s ≠ d := by simpa using hs
        refine ⟨hlen _, fun t m hm => ?_, hfx _ (.inr rfl)⟩
        by_cases ht : t = d
        · obtain ⟨hx, hlt⟩ := hself t m _ hm ht
          simp at hx; subst hx; subst ht
          simp only [EntOk, hneed]
          have hH : HoldsB (a.put (some t) v).tmps (s, b) ↔ HoldsB a.tmps (s, b) := HoldsB_put hs
          have hg : (a.put (some t) v).tmps[t]? = some v := by simp [Act.put, hlt]
          rw [hH, hg]
          exact ⟨fun x => by rw [hv.1 x], fun x => by rw [hv.2 x]⟩
        · exact hoth _ t m hm ht

def implied (e : Env) : Nat → Nat × Bool → List (Nat × Bool)
  | 0, p => [p]
  | n + 1, p =>
    p :: (match getE e p.1 with
      | some ⟨some q, _, _⟩ => implied e n q
      | _ => [])
def memB (p : Nat × Bool) : List (Nat × Bool) → Bool
  | [] => false
  | (s, b) :: r => (s == p.1 && b == p.2) || memB p r
theorem memB_spec {p : Nat × Bool} : ∀ {l : List (Nat × Bool)}, memB p l = true → p ∈ l := by
  intro l
  induction l with
  | nil => intro h; simp [memB] at h
  | cons q r ih =>
    obtain ⟨s, b⟩ := q
    intro h
    simp only [memB, Bool.or_eq_true, Bool.and_eq_true, beq_iff_eq] at h
    rcases h with ⟨h1, h2⟩ | h
    · subst h1; subst h2; exact List.mem_cons_self
    · exact List.mem_cons_of_mem _ (ih h)
def rdO (cx : List (Nat × Bool)) (e : Env) : Operand → Option Value
  | .tmp t =>
    (match getE e t with
     | some ⟨none, v, _⟩ => some v
     | some ⟨some q, v, _⟩ => (match memB q cx with | true => some v | false => none)
     | none => none)
  | .const v => some v
  | .global g => some (.pointer (some ⟨g, 0, none⟩))
  | .func f => some (.func (.func f) #[] #[])
theorem implied_holds {e : Env} {a : Act} (h : Agree e a) : ∀ (n : Nat) (p : Nat × Bool), HoldsB a.tmps p → ∀ q ∈ implied e n p, HoldsB a.tmps q := by
  intro n
  induction n with
  | zero => intro p hp q hq; simp [implied] at hq; subst hq; exact hp
  | succ n ih =>
    intro p hp q hq
    unfold implied at hq
    rcases List.mem_cons.1 hq with rfl | hq
    · exact hp
    · split at hq
      · rename_i r v kk hr
        have he := h.ent _ _ (getE_some hr)
        simp only [EntOk] at he
        have hr' : HoldsB a.tmps r := by
          refine Classical.byContradiction fun hn => ?_
          have h1 := he.2 hn
          unfold HoldsB at hp
          rw [h1] at hp
          simp [undef] at hp
        exact ih r hr' q hq
      · simp at hq
theorem rdO_sound {e : Env} {a : Act} {cx : List (Nat × Bool)} (h : Agree e a) (hcx : ∀ p ∈ cx, HoldsB a.tmps p) : ∀ x u, rdO cx e x = some u → a.eval x = u := by
  intro x u hx
  cases x with
  | tmp t =>
    simp only [rdO] at hx
    split at hx
    · rename_i v kk hv
      simp at hx; subst hx
      have := h.ent _ _ (getE_some hv)
      simp only [EntOk] at this
      simp [Act.eval, this]
    · rename_i q v kk hv
      split at hx
      · rename_i hm
        simp at hx; subst hx
        have := h.ent _ _ (getE_some hv)
        simp only [EntOk] at this
        simp [Act.eval, this.1 (hcx _ (memB_spec hm))]
      · simp at hx
    · simp at hx
  | const v => simp [rdO] at hx; subst hx; rfl
  | global g => simp [rdO] at hx; subst hx; rfl
  | func f => simp [rdO] at hx; subst hx; rfl

def condF (e : Env) : Nat → Nat × Bool → Prop
  | 0, _ => True
  | n + 1, p =>
    match getE e p.1 with
    | some ⟨none, .bool b, _⟩ => b = p.2
    | some ⟨some q, .bool b, _⟩ => condF e n q ∧ b = p.2
    | _ => True
theorem condF_of {e : Env} {a : Act} (h : Agree e a) : ∀ (n : Nat) (p : Nat × Bool), HoldsB a.tmps p → condF e n p := by
  intro n
  induction n with
  | zero => intro p _; trivial
  | succ n ih =>
    intro p hp
    unfold condF
    split
    · rename_i b kk hb
      have := h.ent _ _ (getE_some hb)
      simp only [EntOk] at this
      unfold HoldsB at hp
      rw [this] at hp
      simpa using hp
    · rename_i q b kk hb
      have hq : HoldsB a.tmps q := implied_holds h 1 p hp q (by simp [implied, hb])
      have := h.ent _ _ (getE_some hb)
      simp only [EntOk] at this
      have := this.1 hq
      unfold HoldsB at hp
      rw [this] at hp
      exact ⟨ih q hq, by simpa using hp⟩
    · trivial

def settle1 (s : Nat) (b : Bool) : Option Ent → Option Ent
  | some ⟨some (s', b'), v, k⟩ =>
    (match s' == s with
     | true => (match b' == b with | true => some ⟨none, v, k⟩ | false => some ⟨none, undef, k⟩)
     | false => some ⟨some (s', b'), v, k⟩)
  | x => x
def settleE (e : Env) (s : Nat) (b : Bool) : Env := (e.map (settle1 s b)).set s (some ⟨none, .bool b, some b⟩)
theorem Agree.settle {e : Env} {a : Act} (h : Agree e a) {s : Nat} {b : Bool} (hs : HoldsB a.tmps (s, b)) : Agree (settleE e s b) a := by
  have hfx : ∀ t n c, (settleE e s b)[t]? = some (some n) → n.fix = some c → HoldsB a.tmps (t, c) := by
    intro t n c hn hc
    unfold settleE at hn
    by_cases ht : s = t
    · subst ht
      rw [List.getElem?_set_self'] at hn
      cases hx : (e.map (settle1 s b))[s]? with
      | none => simp [hx] at hn
      | some y => simp [hx] at hn; subst hn; cases hc; exact hs
    · rw [List.getElem?_set_ne ht, List.getElem?_map] at hn
      cases hx : e[t]? with
      | none => simp [hx] at hn
      | some y =>
        simp only [hx, Option.map_some, Option.some.injEq] at hn
        unfold settle1 at hn
        split at hn
        · rename_i s' b' v k
          split at hn
          · split at hn
            · simp at hn; subst hn; exact h.fx t _ c hx hc
            · simp at hn; subst hn; exact h.fx t _ c hx hc
          · simp at hn; subst hn; exact h.fx t _ c hx hc
        · subst hn; exact h.fx t _ c hx hc
  refine ⟨by simp [settleE, h.len], fun t n hn => ?_, hfx⟩
  unfold settleE at hn
  by_cases ht : s = t
  · subst ht
    rw [List.getElem?_set_self'] at hn
    cases hx : (e.map (settle1 s b))[s]? with
    | none => simp [hx] at hn
    | some y => simp [hx] at hn; subst hn; exact hs
  · rw [List.getElem?_set_ne ht, List.getElem?_map] at hn
    cases hx : e[t]? with
    | none => simp [hx] at hn
    | some y =>
      simp only [hx, Option.map_some, Option.some.injEq] at hn
      unfold settle1 at hn
      split at hn
      · rename_i s' b' v k
        have he := h.ent _ _ hx
        simp only [EntOk] at he
        split at hn
        · rename_i hs'
          have hs' : s' = s := by simpa using hs'
          subst hs'
          split at hn
          · rename_i hb; have hb : b' = b := by simpa using hb
            subst hb
            simp at hn; subst hn
            exact he.1 hs
          · rename_i hb; have hb : b' ≠ b := by simpa using hb
            simp at hn; subst hn
            refine he.2 fun hh => hb ?_
            unfold HoldsB at hh hs
            rw [hs] at hh
            simpa using hh.symm
        · simp at hn; subst hn; simpa only [EntOk] using he
      · subst hn; exact h.ent _ _ hx

def splitE (yes no : Env → Prop) : Nat → Env → Nat × Bool → Prop
  | 0, _, _ => False
  | n + 1, e, p =>
    match getE e p.1 with
    | some ⟨none, .bool b, _⟩ =>
      (match p.2 with
       | true => Wif b (yes (settleE e p.1 true)) (no (settleE e p.1 false))
       | false => Wif b (no (settleE e p.1 true)) (yes (settleE e p.1 false)))
    | some ⟨none, .tuple _, _⟩ => no e
    | some ⟨some q, _, _⟩ => splitE (fun e' => splitE yes no n e' p) no n e q
    | _ => False
theorem splitE_elim {yes no : Env → Prop} {a : Act} : ∀ (n : Nat) (e : Env) (p : Nat × Bool), Agree e a → splitE yes no n e p →
    (HoldsB a.tmps p ∧ ∃ e', Agree e' a ∧ yes e') ∨ (¬ HoldsB a.tmps p ∧ ∃ e', Agree e' a ∧ no e') := by
  intro n
  induction n generalizing yes no with
  | zero => intro e p _ h; exact h.elim
  | succ n ih =>
    intro e p ha h
    obtain ⟨s, want⟩ := p
    unfold splitE at h
    split at h
    · rename_i b kk hb
      have he := ha.ent _ _ (getE_some hb)
      simp only [EntOk] at he
      have hs : HoldsB a.tmps (s, b) := he
      dsimp only at h
      have hno : ∀ x y : Bool, x ≠ y → HoldsB a.tmps (s, x) → ¬ HoldsB a.tmps (s, y) := by
        intro x y hxy h1 h2
        unfold HoldsB at h1 h2
        rw [h1] at h2
        simp at h2
        exact hxy h2
      split at h
      · rcases Wif_elim h with ⟨rfl, h⟩ | ⟨rfl, h⟩
        · exact .inl ⟨hs, _, ha.settle hs, h⟩
        · exact .inr ⟨hno _ _ (by simp) hs, _, ha.settle hs, h⟩
      · rcases Wif_elim h with ⟨rfl, h⟩ | ⟨rfl, h⟩
        · exact .inr ⟨hno _ _ (by simp) hs, _, ha.settle hs, h⟩
        · exact .inl ⟨hs, _, ha.settle hs, h⟩
    · rename_i vs kk hb
      have he := ha.ent _ _ (getE_some hb)
      simp only [EntOk] at he
      refine .inr ⟨fun hh => ?_, e, ha, h⟩
      unfold HoldsB at hh
      rw [he] at hh
      simp at hh
    · rename_i q v kk hb
      rcases ih e q ha h with ⟨hq, e', ha', h⟩ | ⟨hq, e', ha', h⟩
      · exact ih e' (s, want) ha' h
      · refine .inr ⟨fun hh => hq ?_, e', ha', h⟩
        exact implied_holds ha 1 (s, want) hh q (by simp [implied, hb])
    · exact h.elim

def fixO (e : Env) : Operand → Option Bool
  | .tmp t => (match getE e t with | some ⟨_, _, k⟩ => k | none => none)
  | .const (.bool b) => some b
  | _ => none
theorem fixO_sound {e : Env} {a : Act} (h : Agree e a) {x : Operand} {b : Bool} (hx : fixO e x = some b) : a.eval x = .bool b := by
  cases x with
  | tmp t =>
    simp only [fixO] at hx
    split at hx
    · rename_i nd v k hk
      have := h.fx t _ b (getE_some hk) hx
      unfold HoldsB at this
      simp [Act.eval, this]
    · cases hx
  | const v =>
    cases v <;> simp [fixO] at hx
    subst hx; rfl
  | global g => simp [fixO] at hx
  | func f => simp [fixO] at hx
def gkn (e : Env) : Nat → Nat × Bool → Option Bool
  | 0, _ => none
  | n + 1, p =>
    match getE e p.1 with
    | some ⟨nd, _, some b⟩ => some (b == p.2)
    | some ⟨some q, _, none⟩ => (match gkn e n q with | some false => some false | _ => none)
    | some ⟨none, .tuple _, none⟩ => some false
    | _ => none
theorem gkn_sound {e : Env} {a : Act} (h : Agree e a) : ∀ (n : Nat) (p : Nat × Bool) (r : Bool), gkn e n p = some r → (HoldsB a.tmps p ↔ r = true) := by
  intro n
  induction n with
  | zero => intro p r hr; simp [gkn] at hr
  | succ n ih =>
    intro p r hr
    unfold gkn at hr
    split at hr
    · rename_i nd v b hb
      have := h.fx _ _ b (getE_some hb) rfl
      simp at hr
      subst hr
      unfold HoldsB at this ⊢
      rw [this]
      simp
    · rename_i q v hq
      split at hr
      · rename_i hf
        simp at hr
        subst hr
        have hn : ¬ HoldsB a.tmps q := fun hh => by simpa using (ih _ _ hf).1 hh
        constructor
        · intro hp
          exact absurd (implied_holds h 1 p hp q (by simp [implied, hq])) hn
        · intro hh; cases hh
      · cases hr
    · rename_i vs hq
      simp at hr
      subst hr
      have he := h.ent _ _ (getE_some hq)
      simp only [EntOk] at he
      constructor
      · intro hh
        unfold HoldsB at hh
        rw [he] at hh
        simp at hh
      · intro hh; cases hh
    · cases hr
def fixE (e : Env) (d : Option Tmp) (k : Option Bool) : Env :=
  match d, k with
  | some d, some b => (match e[d]? with | some (some n) => e.set d (some ⟨n.need, n.val, some b⟩) | _ => e)
  | _, _ => e
theorem Agree.fixE {e : Env} {a : Act} (h : Agree e a) {d : Option Tmp} {k : Option Bool} (hk : ∀ t b, d = some t → k = some b → t < a.tmps.size → HoldsB a.tmps (t, b)) : Agree (Eng.fixE e d k) a := by
  unfold Eng.fixE
  split
  · rename_i d b
    split
    · rename_i n hn
      have hd : d < a.tmps.size := by rw [← h.len]; exact (List.getElem?_eq_some_iff.1 hn).1
      refine ⟨by simp [h.len], fun t m hm => ?_, fun t m c hm hc => ?_⟩
      · by_cases ht : d = t
        · subst ht
          rw [List.getElem?_set_self'] at hm
          simp [hn] at hm
          subst hm
          have := h.ent _ _ hn
          unfold EntOk at this ⊢
          exact this
        · rw [List.getElem?_set_ne ht] at hm
          exact h.ent _ _ hm
      · by_cases ht : d = t
        · subst ht
          rw [List.getElem?_set_self'] at hm
          simp [hn] at hm
          subst hm
          cases hc
          exact hk d b rfl rfl hd
        · rw [List.getElem?_set_ne ht] at hm
          exact h.fx _ _ _ hm hc
    · exact h
  · exact h
end Go.Eng
