/-
  Part I of an engine. Proved: a region of operations, its order drawn or not, by its condition. Conditions: none beyond each theorem's own.
-/
import Derived.Test.YtklmokolnakkoaaGreatDoorEngH
import Derived.OrdersHeld
import Derived.RangeFuncSeq
import Derived.RangeFuncLeaves
import Derived.TacticsIn
import Derived.OrdersIn
set_option linter.unusedVariables false
set_option linter.unusedSimpArgs false
namespace Go.Eng

structure AgK (S : List Nat) (a0 : Act) (D : List Deferred) (e : Env) (a : Act) : Prop where
  ag : Agree e a
  size : a.tmps.size = a0.tmps.size
  defs : a.defers = D
  keep : ∀ t, t ∉ S → a.tmps[t]? = a0.tmps[t]?
theorem AgK.put {S : List Nat} {a0 : Act} {D : List Deferred} {e e' : Env} {a : Act} (h : AgK S a0 D e a) {d : Option Tmp} {v : Value} (hd : ∀ t, d = some t → t ∈ S) (h' : Agree e' (a.put d v)) : AgK S a0 D e' (a.put d v) := by
  refine ⟨h', by rw [← h.size]; cases d <;> simp [Act.put], by rw [← h.defs]; cases d <;> rfl, fun t ht => ?_⟩
  rw [← h.keep t ht]
  cases d with
  | none => rfl
  | some d =>
    have : d ≠ t := fun hx => ht (hx ▸ hd d rfl)
    simp [Act.put, Array.getElem?_setIfInBounds_ne this]

def FR (r : Option Nat) : Fence := { Fence.wide with round := r }
@[simp] theorem FR_round (r : Option Nat) : (FR r).round = r := rfl
theorem FR_none : FR none = Fence.wide := rfl
theorem FR_fn (r : Option Nat) (f : FuncId) : (FR r).fn f := trivial
theorem callsIn_FR {r : Option Nat} {n : Nat} {P : Program} {f : FuncId} {args : Array Value} {w : World} {R : Ending → World → Prop} : CallsIn (FR r) n P f args w R ↔ Calls P f args w R :=
  ⟨fun h => (callsIn_wide (n := n)).1 h, fun h => (callsIn_wide (n := n)).2 h⟩
theorem rowsIn_FR {r : Option Nat} {n : Nat} {P : Program} {row : String} {args : Array Value} {w : World} {R : Value → World → Prop} (h : Rows P row args w R) : RowsIn (FR r) n P row args w R := fun c cs _ => by
  obtain ⟨v, w', hr, hs⟩ := h c cs
  exact ⟨v, w', hr, stepsIn_wide.2 hs⟩
def notDefer : Op → Bool
  | .defer _ => false
  | _ => true
theorem notDefer_ne {o : Op} (h : notDefer o = true) : ∀ c, o ≠ .defer c := fun c e => by subst e; cases h
theorem op_in {r : Option Nat} {n : Nat} {P : Program} {o : Oper} {a : Act} {w : World} {K : Act → World → Prop} {Q : Exit → Act → World → Prop} (hd : notDefer o.op = true) (h : o.wp P a w K Q) : o.wpIn (FR r) n P a w K Q := by
  refine ⟨fun f _ => FR_fn r f, ?_⟩
  rw [FR_round, Oper.semAt_eq r a.eval o (notDefer_ne hd)]
  unfold Oper.wp at h
  generalize (execOp a.eval o).run P w = x at h ⊢
  unfold Oper.upon at h
  unfold Oper.uponIn
  split at h <;> first | exact h | skip
  · exact ⟨fun hh => (by cases hh), callsIn_FR.2 h⟩
  · exact ⟨fun hh => (by cases hh), rowsIn_FR h⟩
  · exact h.elim

theorem any_in {r : Option Nat} {n : Nat} {P : Program} {md : Region.Mode} {ops : Array Oper} {Q : Exit → Act → World → Prop} (hq : ¬ LetsOut Q) (hd : ∀ o ∈ ops.toList, notDefer o.op = true) :
    ∀ (fuel : Nat) (listed : Array Bool) (a : Act) (w : World), wpAny P md ops Q fuel listed a w → wpAnyIn (FR r) n P md ops Q fuel listed a w
  | 0, _, _, _, h => h
  | fuel + 1, listed, a, w, h => by
    refine ⟨h.1, fun i hi => ?_⟩
    have h2 := h.2 i hi
    unfold wpOp at h2
    unfold wpOpIn
    cases ho : ops[i]? with
    | none =>
      rw [ho] at h2
      exact any_in hq hd fuel _ _ _ h2
    | some o =>
      rw [ho] at h2
      dsimp only at h2 ⊢
      have hm : o ∈ ops.toList := by
        obtain ⟨hlt, e⟩ := Array.getElem?_eq_some_iff.1 ho
        rw [← e]; simp
      split
      · rename_i hw
        rw [if_pos hw] at h2
        rcases h2 with h2 | ⟨_, h2⟩
        · exact op_in (hd o hm) (Oper.wp_mono (fun a w hh => any_in hq hd fuel _ a w hh) h2)
        · exact absurd h2 hq
      · rename_i hw
        rw [if_neg hw] at h2
        exact ⟨fun f _ => FR_fn r f, any_in hq hd fuel _ _ _ h2⟩

def opqC (ys : List Nat) (o : Oper) : Bool :=
  match o.op with
  | .call { callee := .value (.tmp t), .. } => ys.any (· == t + 1000000)
  | _ => false
def eOpO (P : Program) (H : Hand) (ys : List Nat) (ρ : Operand → Option Value) (o : Oper) (w : World) (K : Value → World → Prop) : Prop :=
  match opqC ys o with
  | true =>
    (match o.op with
     | .call { callee := .value x, args := args, .. } =>
       (match ρ x, valsO ρ args.toList with
        | some v, some vs => CallsV P v vs w fun e w' => retE P (resT P o.type) fun u => e = .returned u ∧ K u w'
        | _, _ => False)
     | _ => False)
  | false => eOp P H ρ o w K
theorem eOpO_sound {P : Program} {w : World} {H : Hand} (hH : HSound P H) {ys : List Nat} {ρ : Operand → Option Value} {a : Act} (hρ : ∀ x u, ρ x = some u → a.eval x = u) {o : Oper} {K : Value → World → Prop}
    (h : eOpO P H ys ρ o w K) {next : Act → World → Prop} {Q : Exit → Act → World → Prop} (hK : ∀ v w', K v w' → next (a.put o.dst v) w') : o.wp P a w next Q := by
  unfold eOpO at h
  split at h
  · split at h
    · rename_i x args ts ho
      split at h
      · rename_i v vs hx hvs
        have h1 : args.map a.eval = vs.toArray := by rw [← valsO_spec hρ hvs, ← Array.toList_map]
        obtain ⟨f, p, c, rfl, hcb, h⟩ := h
        unfold Oper.wp
        simp only [execOp, ho, resolve, hρ _ _ hx, Deferred.ofValue, Sem.run_bind, Sem.run_pure, Result.andThen_ok, invoke, h1, callFunc_enter hcb]
        rw [Oper.upon_enter]
        refine h.mono fun e w' he => ?_
        obtain ⟨v, rfl, hk⟩ := retE_elim he
        exact hK _ _ hk
      · exact h.elim
    · exact h.elim
  · exact eOp_sound hH hρ h hK
def wLoudO (P : Program) (H : Hand) (ys : List Nat) (e : Env) (o : Oper) (g : Option (Nat × Bool)) (w : World) (next : Env → World → Prop) : Prop :=
  match g with
  | none => eOpO P H ys (rdO [] e) o w fun v w' => next (putE e o.dst ⟨none, v, none⟩) w'
  | some p => splitE (fun e' => eOpO P H ys (rdO [] e') o w fun v w' => next (putE e' o.dst ⟨none, v, none⟩) w') (fun e' => next (putE e' o.dst ⟨none, undef, none⟩) w) 8 e p
theorem wLoudO_sound {P : Program} {H : Hand} (hH : HSound P H) {ys : List Nat} {ops : List Oper} {e : Env} {a : Act} {o : Oper} {g : Option (Nat × Bool)} {w : World} {next : Env → World → Prop}
    (h : Agree e a) (hg : guardS ops o = some g) (hw : wLoudO P H ys e o g w next) {K : Act → World → Prop} {Q : Exit → Act → World → Prop}
    (hK : ∀ e' v w', next e' w' → Agree e' (a.put o.dst v) → K (a.put o.dst v) w') :
    (Region.wanted o (yielded ops.toArray a.tmps) = true ∧ o.wp P a w K Q) ∨ (Region.wanted o (yielded ops.toArray a.tmps) = false ∧ K (a.put o.dst undef) w) := by
  have hwi := wanted_iff hg a
  unfold wLoudO at hw
  split at hw
  · exact .inl ⟨hwi.2 trivial, eOpO_sound hH (rdO_sound h (by simp)) hw fun v w' hn => hK _ _ _ hn (h.put _ _ rfl)⟩
  · rename_i p
    rcases splitE_elim 8 e p h hw with ⟨hp, e', he', hx⟩ | ⟨hp, e', he', hx⟩
    · exact .inl ⟨hwi.2 hp, eOpO_sound hH (rdO_sound he' (by simp)) hx fun v w' hn => hK _ _ _ hn (he'.put _ _ rfl)⟩
    · refine .inr ⟨?_, hK _ _ _ hx (he'.put _ _ rfl)⟩
      cases hy : Region.wanted o (yielded ops.toArray a.tmps) with
      | false => rfl
      | true => exact absurd (hwi.1 hy) hp

structure YieldIs (P : Program) (l : Nat) (args : List Value) (w : World) (R : Ending → World → Prop) : Prop where
  run : YieldAt Fence.wide 0 P l args.toArray w R
def yieldC (ys : List Nat) (ρ : Operand → Option Value) (o : Oper) : Option (Nat × List Value) :=
  match o.op with
  | .call { callee := .value (.tmp t), args := args, .. } =>
    (match ys.any (· == t) with
     | true => (match ρ (.tmp t), valsO ρ args.toList with
       | some (.func (.yield l) f c), some vs => (match f.toList, c.toList with | [], [] => some (l, vs) | _, _ => none)
       | _, _ => none)
     | false => none)
  | _ => none
def yieldV (ys : List Nat) (ρ : Operand → Option Value) (o : Oper) : Option (Value × List Value) :=
  match o.op with
  | .call { callee := .value (.tmp t), args := args, .. } =>
    (match ys.any (· == t + 2000000) with
     | true => (match ρ (.tmp t), valsO ρ args.toList with
       | some v, some vs => some (v, vs)
       | _, _ => none)
     | false => none)
  | _ => none
def hintY (ys : List Nat) (o : Oper) : Bool :=
  match o.op with
  | .call { callee := .value (.tmp t), .. } => ys.any (· == t)
  | _ => false
def eOpY (P : Program) (H : Hand) (ys : List Nat) (e : Env) (o : Oper) (w : World) (next : Env → World → Prop) : Prop :=
  match yieldC ys (rdO [] e) o with
  | some (l, vs) => YieldIs P l vs w fun r w' => ∃ b : Bool, r = .returned (.bool b) ∧ next (putE e o.dst ⟨none, .bool b, none⟩) w'
  | none => eOpO P H ys (rdO [] e) o w fun v w' => next (putE e o.dst ⟨none, v, none⟩) w'
def wLoudY (P : Program) (H : Hand) (ys : List Nat) (e : Env) (o : Oper) (g : Option (Nat × Bool)) (w : World) (next : Env → World → Prop) : Prop :=
  match g, yieldC ys (rdO [] e) o with
  | none, some (l, vs) => YieldIs P l vs w fun r w' => ∃ b : Bool, r = .returned (.bool b) ∧ next (putE e o.dst ⟨none, .bool b, none⟩) w'
  | g, _ => (match g, yieldV ys (rdO [] e) o with
    | none, some (v, vs) => ∃ l : Nat, v = .func (.yield l) #[] #[] ∧ YieldIs P l vs w fun r w' => ∃ b : Bool, r = .returned (.bool b) ∧ next (putE e o.dst ⟨none, .bool b, none⟩) w'
    | g, _ => (match g, hintY ys o with
      | some p, true => splitE (fun e' => eOpY P H ys e' o w next) (fun e' => next (putE e' o.dst ⟨none, undef, none⟩) w) 8 e p
      | g, _ => wLoudO P H ys e o g w next))
def wOpsY (P : Program) (H : Hand) (ys : List Nat) (ops : List Oper) (QN : Env → World → Prop) : List Oper → Env → World → Prop
  | [], e, w => QN e w
  | o :: rest, e, w =>
    match guardS ops o with
    | none => False
    | some g =>
      match quietB P o.op with
      | true => wQuiet P (extTy ops o.dst) e o g w fun e' _ => wOpsY P H ys ops QN rest e' w
      | false => wLoudY P H ys e o g w fun e' w' => wOpsY P H ys ops QN rest e' w'
theorem yield_run {P : Program} {o : Oper} {a : Act} {w : World} {t : Tmp} {args : Array Operand} {ts : Array TypeId} {l : Nat} {fn : FuncId} {tmps : Array Value} {assign body : Code} {vs : List Value}
    (ho : o.op = .call { callee := .value (.tmp t), args := args, argTypes := ts }) (ht : a.eval (.tmp t) = .func (.yield l) #[] #[]) (hv : args.map a.eval = vs.toArray)
    (hy : (Instr.yield l vs.toArray).run P w = .ok (.round l fn tmps assign body) w) : (execOp a.eval o).run P w = .ok (.round l fn tmps assign body) w := by
  simp only [execOp, ho, resolve, Sem.run_bind, Sem.run_pure, Result.andThen_ok, hv, ht]
  simp [Deferred.ofValue, invoke, hy, go_sem]
theorem wOpsY_sound {P : Program} {H : Hand} (hH : HSound P H) {ys : List Nat} {ops : List Oper} {QN : Env → World → Prop} {Q : Exit → Act → World → Prop} {S : List Nat} {a0 : Act} {D : List Deferred} {r : Option Nat} {n : Nat}
    (hQ : ∀ e a w, AgK S a0 D e a → QN e w → Q .normal a w) (hdef : ∀ o ∈ ops, notDefer o.op = true) : ∀ (l : List Oper), (∀ o ∈ l, o ∈ ops) → (∀ o ∈ l, ∀ t, o.dst = some t → t ∈ S) → ∀ (e : Env) (a : Act) (w : World),
      AgK S a0 D e a → wOpsY P H ys ops QN l e w → wpListIn (FR r) n P ops.toArray Q l a w := by
  intro l
  induction l with
  | nil => intro _ _ e a w h hw; exact hQ _ _ _ h hw
  | cons o rest ih =>
    intro hin hS e a w h hw
    have ih' := ih (fun o' ho' => hin o' (List.mem_cons_of_mem _ ho')) (fun o' ho' => hS o' (List.mem_cons_of_mem _ ho'))
    have hd := hS o List.mem_cons_self
    have hnd := hdef o (hin o List.mem_cons_self)
    unfold wOpsY at hw
    split at hw
    · exact hw.elim
    · rename_i g hg
      split at hw
      · obtain ⟨v, e', c, hn, hSc, hag, hr⟩ := wQuiet_sound h.ag hg hw
        have hnx := ih' e' (a.put o.dst v) w (h.put hd hag) hn
        unfold wpListIn
        rcases hr with ⟨hwt, hrun⟩ | ⟨hwt, rfl⟩
        · rw [if_pos hwt]
          refine op_in hnd ?_
          unfold Oper.wp
          rw [hrun w hSc]
          exact hnx
        · rw [if_neg (by simp [hwt])]
          exact ⟨fun f _ => FR_fn r f, hnx⟩
      · have key : ∀ (t : Tmp) (args : Array Operand) (ts : Array TypeId) (ll : Nat) (vs : List Value), o.op = .call { callee := .value (.tmp t), args := args, argTypes := ts } → Region.wanted o (yielded ops.toArray a.tmps) = true →
            a.eval (.tmp t) = .func (.yield ll) #[] #[] → args.map a.eval = vs.toArray → ∀ e : Env, Agree e a →
            (YieldIs P ll vs w fun r w' => ∃ b : Bool, r = .returned (.bool b) ∧ wOpsY P H ys ops QN rest (putE e o.dst ⟨none, .bool b, none⟩) w') → wpListIn (FR r) n P ops.toArray Q (o :: rest) a w := by
          intro t args ts ll vs hop hwt hf h1 e hea hyl
          clear hw
          unfold wpListIn
          rw [if_pos hwt]
          obtain ⟨fn, tmps, assign, body, hy, hR⟩ := hyl.run
          have hrun := yield_run (a := a) hop hf h1 hy
          refine ⟨fun f _ => FR_fn r f, ?_⟩
          rw [FR_round, Oper.semAt_eq r a.eval o (notDefer_ne hnd), hrun, Oper.uponIn_round]
          refine ⟨fun hh => (by cases hh), hR.1, fun cc cs _ => ?_⟩
          obtain ⟨en, w', hRe, hs⟩ := hR.2 cc cs (room_wide _)
          refine ⟨en, w', ?_, hs⟩
          obtain ⟨b, rfl, hnx⟩ := hRe
          exact ih' _ _ w' (h.put hd (hea.put o.dst ⟨none, .bool b, none⟩ rfl)) hnx
        have hρ : ∀ x u, rdO [] e x = some u → a.eval x = u := fun x u hx => rdO_sound h.ag (by simp) _ _ hx
        unfold wLoudY at hw
        split at hw
        · rename_i ll vs hyc
          unfold yieldC at hyc
          split at hyc
          · rename_i t args ts hop
            split at hyc
            · split at hyc
              · rename_i l' f c vs' hf hvs
                split at hyc
                · rename_i hf0 hc0
                  simp only [Option.some.injEq, Prod.mk.injEq] at hyc
                  obtain ⟨rfl, rfl⟩ := hyc
                  have hf1 : f = #[] := by cases f; simp_all
                  have hc1 : c = #[] := by cases c; simp_all
                  subst hf1 hc1
                  exact key t args ts _ _ hop ((wanted_iff hg a).2 trivial) (hρ _ _ hf) (by rw [← valsO_spec hρ hvs, ← Array.toList_map]) e h.ag hw
                · cases hyc
              · cases hyc
            · cases hyc
          · cases hyc
        · split at hw
          · rename_i v vs hyv hno
            obtain ⟨ll, hv, hw⟩ := hw
            unfold yieldV at hyv
            split at hyv
            · rename_i t args ts hop
              split at hyv
              · split at hyv
                · rename_i v' vs' hf hvs
                  simp only [Option.some.injEq, Prod.mk.injEq] at hyv
                  obtain ⟨rfl, rfl⟩ := hyv
                  exact key t args ts _ _ hop ((wanted_iff hg a).2 trivial) (by rw [hρ _ _ hf, hv]) (by rw [← valsO_spec hρ hvs, ← Array.toList_map]) e h.ag hw
                · cases hyv
              · cases hyv
            · cases hyv
          · split at hw
            · rename_i p _ _ _
              rcases splitE_elim 8 e p h.ag hw with ⟨hp, e', he', hx⟩ | ⟨hp, e', he', hx⟩
              · have hwt : Region.wanted o (yielded ops.toArray a.tmps) = true := (wanted_iff hg a).2 hp
                have hρ' : ∀ x u, rdO [] e' x = some u → a.eval x = u := fun x u hx => rdO_sound he' (by simp) _ _ hx
                unfold eOpY at hx
                split at hx
                · rename_i ll vs hyc
                  unfold yieldC at hyc
                  split at hyc
                  · rename_i t args ts hop
                    split at hyc
                    · split at hyc
                      · rename_i l' f c vs' hf hvs
                        split at hyc
                        · rename_i hf0 hc0
                          simp only [Option.some.injEq, Prod.mk.injEq] at hyc
                          obtain ⟨rfl, rfl⟩ := hyc
                          have hf1 : f = #[] := by cases f; simp_all
                          have hc1 : c = #[] := by cases c; simp_all
                          subst hf1 hc1
                          exact key t args ts _ _ hop hwt (hρ' _ _ hf) (by rw [← valsO_spec hρ' hvs, ← Array.toList_map]) e' he' hx
                        · cases hyc
                      · cases hyc
                    · cases hyc
                  · cases hyc
                · unfold wpListIn
                  rw [if_pos hwt]
                  exact op_in hnd (eOpO_sound hH hρ' hx fun v w' hn => ih' _ _ w' (h.put hd (he'.put _ _ rfl)) hn)
              · have hwt : Region.wanted o (yielded ops.toArray a.tmps) = false := by
                  cases hy : Region.wanted o (yielded ops.toArray a.tmps) with
                  | false => rfl
                  | true => exact absurd ((wanted_iff hg a).1 hy) hp
                unfold wpListIn
                rw [if_neg (by simp [hwt])]
                exact ⟨fun f _ => FR_fn r f, ih' _ _ w (h.put hd (he'.put _ _ rfl)) hx⟩
            · rcases wLoudO_sound hH h.ag hg hw (K := wpListIn (FR r) n P ops.toArray Q rest) (Q := Q) (fun e' v w' hn hag => ih' e' _ w' (h.put hd hag) hn) with ⟨hwt, hx⟩ | ⟨hwt, hx⟩
              · unfold wpListIn
                rw [if_pos hwt]; exact op_in hnd hx
              · unfold wpListIn
                rw [if_neg (by simp [hwt])]; exact ⟨fun f _ => FR_fn r f, hx⟩

section
variable {P : Program} {ops : Array Oper} {L : List Nat} {Q : Exit → Act → World → Prop}
def depN (ops : Array Oper) : Nat → Nat → Nat → Bool
  | 0, _, _ => false
  | n + 1, k, i => match ops[i]? with
    | none => false
    | some o => o.after.toList.any fun e => Region.binds .any e && (e.on == k || depN ops n k e.on)
def depB (ops : Array Oper) (k i : Nat) : Bool := depN ops 5 k i
def Closed (ops : Array Oper) (listed : Array Bool) : Prop :=
  ∀ j oj, ops[j]? = some oj → listed.getD j false = true → ∀ e ∈ oj.after, Region.binds .any e = true → listed.getD e.on false = true
theorem depN_closed {ops : Array Oper} {listed : Array Bool} (hc : Closed ops listed) {k : Nat} : ∀ (n j : Nat), listed.getD j false = true → depN ops n k j = true → listed.getD k false = true := by
  intro n
  induction n with
  | zero => intro j _ h; simp [depN] at h
  | succ n ih =>
    intro j hj h
    unfold depN at h
    cases ho : ops[j]? with
    | none => simp [ho] at h
    | some o =>
      rw [ho] at h
      dsimp only at h
      rw [List.any_eq_true] at h
      obtain ⟨e, he, h⟩ := h
      simp only [Bool.and_eq_true, Bool.or_eq_true, beq_iff_eq] at h
      have hl := hc j o ho hj e (by simpa using he) h.1
      rcases h.2 with rfl | h2
      · exact hl
      · exact ih _ hl h2
def dischB (ops : Array Oper) (L : List Nat) (listed : Array Bool) (k : Nat) : Bool := L.any fun i => listed.getD i false && depB ops k i
def PendOk (ops : Array Oper) (L : List Nat) (listed : Array Bool) (w : World) : List (Nat × (World → Prop)) → Prop
  | [] => True
  | (k, c) :: r => match dischB ops L listed k with
    | true => PendOk ops L listed w r
    | false => c w ∧ PendOk ops L listed w r
theorem getD_set_keep {listed : Array Bool} {i m : Nat} (h : listed.getD m false = true) : (listed.setIfInBounds i true).getD m false = true := by
  have hm : m < listed.size := by
    rcases Nat.lt_or_ge m listed.size with h' | h'
    · exact h'
    · simp [Array.getElem?_eq_none h'] at h
  by_cases him : i = m
  · subst him; simp [hm]
  · simpa [Array.getElem?_setIfInBounds_ne him] using h
theorem getD_set_cases {listed : Array Bool} {i m : Nat} (h : (listed.setIfInBounds i true).getD m false = true) : m = i ∨ listed.getD m false = true := by
  by_cases him : i = m
  · exact .inl him.symm
  · right; simpa [Array.getElem?_setIfInBounds_ne him] using h
theorem dischB_set {ops : Array Oper} {L : List Nat} {listed : Array Bool} {i k : Nat} (h : dischB ops L listed k = true) : dischB ops L (listed.setIfInBounds i true) k = true := by
  unfold dischB at *
  rw [List.any_eq_true] at *
  obtain ⟨m, hm, h⟩ := h
  simp only [Bool.and_eq_true] at h
  exact ⟨m, hm, by simp only [Bool.and_eq_true]; exact ⟨getD_set_keep h.1, h.2⟩⟩
theorem PendOk_set {ops : Array Oper} {L : List Nat} {listed : Array Bool} {i : Nat} {w : World} : ∀ {pend : List (Nat × (World → Prop))}, PendOk ops L listed w pend → PendOk ops L (listed.setIfInBounds i true) w pend := by
  intro pend
  induction pend with
  | nil => intro h; exact h
  | cons p r ih =>
    obtain ⟨k, c⟩ := p
    intro h
    rw [PendOk] at h
    rw [PendOk]
    cases hd : dischB ops L listed k with
    | true =>
      rw [hd] at h
      rw [dischB_set hd]
      exact ih h
    | false =>
      rw [hd] at h
      split
      · exact ih h.2
      · exact ⟨h.1, ih h.2⟩
theorem PendOk_unset {ops : Array Oper} {L : List Nat} {listed : Array Bool} {i : Nat} {w : World} (hi : L.contains i = false) : ∀ {pend : List (Nat × (World → Prop))}, PendOk ops L (listed.setIfInBounds i true) w pend → PendOk ops L listed w pend := by
  intro pend
  have hde : ∀ k, dischB ops L (listed.setIfInBounds i true) k = true → dischB ops L listed k = true := by
    intro k h
    unfold dischB at *
    rw [List.any_eq_true] at *
    obtain ⟨m, hm, h⟩ := h
    simp only [Bool.and_eq_true] at h
    rcases getD_set_cases h.1 with rfl | h1
    · simp at hi; exact absurd hm hi
    · exact ⟨m, hm, by simp only [Bool.and_eq_true]; exact ⟨h1, h.2⟩⟩
  induction pend with
  | nil => intro h; exact h
  | cons p r ih =>
    obtain ⟨k, c⟩ := p
    intro h
    rw [PendOk] at h
    rw [PendOk]
    cases hd : dischB ops L (listed.setIfInBounds i true) k with
    | true =>
      rw [hd] at h
      rw [hde k hd]
      exact ih h
    | false =>
      rw [hd] at h
      split
      · exact ih h.2
      · exact ⟨h.1, ih h.2⟩
def wpAnyP (P : Program) (ops : Array Oper) (L : List Nat) (Q : Exit → Act → World → Prop) (pend : List (Nat × (World → Prop))) : Nat → Array Bool → Act → World → Prop
  | 0, listed, a, w => Region.ready .any ops listed = [] ∧ Q .normal a w
  | fuel + 1, listed, a, w =>
    (Region.ready .any ops listed = [] → Q .normal a w) ∧
    ∀ i ∈ Region.ready .any ops listed, wpOp P ops Q i (fun a' w' => PendOk ops L (listed.setIfInBounds i true) w' pend ∧ wpAnyP P ops L Q pend fuel (listed.setIfInBounds i true) a' w') a w
theorem wpAny_of_pend {pend : List (Nat × (World → Prop))} : ∀ (fuel : Nat) (listed : Array Bool) (a : Act) (w : World), wpAnyP P ops L Q pend fuel listed a w → wpAny P .any ops Q fuel listed a w
  | 0, _, _, _, h => h
  | fuel + 1, _, _, _, h => ⟨h.1, fun i hi => wpOp_mono (fun a' w' h' => wpAny_of_pend fuel _ a' w' h'.2) (h.2 i hi)⟩
theorem PendOk_tail {listed : Array Bool} {w : World} {p : Nat × (World → Prop)} {pend : List (Nat × (World → Prop))} (h : PendOk ops L listed w (p :: pend)) : PendOk ops L listed w pend := by
  obtain ⟨k, c⟩ := p
  unfold PendOk at h
  split at h
  · exact h
  · exact h.2
theorem wpAnyP_less {p : Nat × (World → Prop)} {pend : List (Nat × (World → Prop))} : ∀ (fuel : Nat) (listed : Array Bool) (a : Act) (w : World), wpAnyP P ops L Q (p :: pend) fuel listed a w → wpAnyP P ops L Q pend fuel listed a w
  | 0, _, _, _, h => h
  | fuel + 1, _, _, _, h => ⟨h.1, fun i hi => wpOp_mono (fun _ _ h' => ⟨PendOk_tail h'.1, wpAnyP_less fuel _ _ _ h'.2⟩) (h.2 i hi)⟩
theorem Closed.set {listed : Array Bool} (hc : Closed ops listed) {j : Nat} (hj : j ∈ Region.ready .any ops listed) : Closed ops (listed.setIfInBounds j true) := by
  intro i oi hi hl e he hb
  obtain ⟨_, oj, hoj, hall⟩ := mem_ready.1 hj
  rcases getD_set_cases hl with rfl | hl
  · rw [hoj] at hi
    cases hi
    exact getD_set_keep (hall e he hb)
  · exact getD_set_keep (hc i oi hi hl e he hb)
theorem unlisted_of_ready {listed : Array Bool} {i : Nat} (hi : i ∈ Region.ready .any ops listed) : listed.getD i false = false := by
  have h0 := (mem_ready.1 hi).1
  rcases Nat.lt_or_ge i listed.size with h' | h'
  · simp [h'] at h0 ⊢; exact h0
  · simp [Array.getElem?_eq_none h'] at h0
theorem depB_not {listed : Array Bool} (hc : Closed ops listed) {k j : Nat} (hk : listed.getD k false = false) (hj : listed.getD j false = true) : depB ops k j = false := by
  cases h : depB ops k j with
  | false => rfl
  | true =>
    have := depN_closed hc _ _ hj h
    rw [hk] at this
    cases this
theorem wpAnyP_take {pend : List (Nat × (World → Prop))} {i : Nat} {oi : Oper} {v : Value} {S : World → Prop} (hi : ops[i]? = some oi) (hsel : ∀ (j : Nat) (o : Oper) cs b, ops[j]? = some o → o.op ≠ .select cs b)
    (hQ : ∀ c a w, Q (.panic c) (a.put oi.dst v) w → Q (.panic c) a w) (hiL : L.contains i = false) :
    ∀ (fuel : Nat) (listed : Array Bool) (a : Act) (w : World),
      (∀ j oj, ops[j]? = some oj → j ≠ i → listed.getD j true = false → (∀ e ∈ oj.after, Region.binds .any e = true → e.on ≠ i) → oi.apart ops oj = true) →
      i ∈ Region.ready .any ops listed → YieldsIf P ops S oi v a → S w → PendOk ops L listed w pend → Closed ops listed →
      wpAnyP P ops L Q ((i, S) :: pend) fuel (listed.setIfInBounds i true) (a.put oi.dst v) w → wpAnyP P ops L Q pend (fuel + 1) listed a w := by
  intro fuel
  induction fuel with
  | zero =>
    intro listed a w _ hr hy hS hp _ H
    refine ⟨fun h => (by rw [h] at hr; cases hr), fun j hj => ?_⟩
    by_cases hji : j = i
    · subst hji; exact hy.wpOp hi hS ⟨PendOk_set hp, H⟩
    · have := ready_mono hj hji
      rw [H.1] at this
      cases this
  | succ fuel ih =>
    intro listed a w hfree hr hy hS hp hfr H
    refine ⟨fun h => (by rw [h] at hr; cases hr), fun j hj => ?_⟩
    by_cases hji : j = i
    · subst hji; exact hy.wpOp hi hS ⟨PendOk_set hp, wpAnyP_less _ _ _ _ H⟩
    · have h1 := H.2 j (ready_mono hj hji)
      obtain ⟨hjun, oj, hoj, hall⟩ := mem_ready.1 hj
      have hnot : ∀ e ∈ oj.after, Region.binds .any e = true → e.on ≠ i := fun e he hb heq => by
        have h1 := hall e he hb
        have h0 := (mem_ready.1 hr).1
        rw [heq] at h1
        rcases Nat.lt_or_ge i listed.size with h' | h'
        · simp [h'] at h0 h1; rw [h0] at h1; cases h1
        · simp [Array.getElem?_eq_none h'] at h1
      have h2 := wpOp_putIf hoj (hfree j oj hoj hji hjun hnot) (fun cs b => hsel i oi cs b hi) (fun cs b => hsel j oj cs b hoj) hQ hy h1
      have hfree' : ∀ k ok, ops[k]? = some ok → k ≠ i → (listed.setIfInBounds j true).getD k true = false →
          (∀ e ∈ ok.after, Region.binds .any e = true → e.on ≠ i) → oi.apart ops ok = true := fun k ok hk hki hun hno => by
        refine hfree k ok hk hki ?_ hno
        by_cases hjk : j = k
        · subst hjk; exact hjun
        · rw [getD_set_ne true hjk] at hun; exact hun
      have hfr' : Closed ops (listed.setIfInBounds j true) := hfr.set hj
      have hui : (listed.setIfInBounds j true).getD i false = false := by
        cases hx : (listed.setIfInBounds j true).getD i false with
        | false => rfl
        | true =>
          rcases getD_set_cases hx with h | h
          · exact absurd h.symm hji
          · rw [unlisted_of_ready hr] at h; cases h
      have hlj : (listed.setIfInBounds j true).getD j false = true := by
        have h0 := (mem_ready.1 hj).1
        rcases Nat.lt_or_ge j listed.size with h' | h'
        · simp [h']
        · simp [Array.getElem?_eq_none h'] at h0
      refine wpOp_mono (fun a' w' h3 => ?_) h2
      obtain ⟨hy', hpk, H'⟩ := h3
      have hnd : dischB ops L ((listed.setIfInBounds i true).setIfInBounds j true) i = false := by
        unfold dischB
        rw [List.any_eq_false]
        intro m hmL
        simp only [Bool.and_eq_true, not_and, Bool.not_eq_true]
        intro hm
        rcases getD_set_cases hm with rfl | hm
        · exact depB_not hfr' hui hlj
        · rcases getD_set_cases hm with rfl | hm
          · simp at hiL; exact absurd hmL hiL
          · exact depB_not hfr' hui (getD_set_keep hm)
      have hS' : S w' := by
        rw [PendOk, hnd] at hpk
        exact hpk.1
      have hcomm : (listed.setIfInBounds i true).setIfInBounds j true = (listed.setIfInBounds j true).setIfInBounds i true := Array.setIfInBounds_comm _ _ (Ne.symm hji)
      have hpt : PendOk ops L (listed.setIfInBounds j true) w' pend := by
        have := PendOk_tail hpk
        rw [hcomm] at this
        exact PendOk_unset hiL this
      refine ⟨hpt, ih (listed.setIfInBounds j true) a' w' hfree' (ready_mono hr (Ne.symm hji)) hy' hS' hpt hfr' ?_⟩
      rw [← hcomm]
      exact H'

theorem wpAnyP_triv {k : Nat} {pend : List (Nat × (World → Prop))} : ∀ (fuel : Nat) (listed : Array Bool) (a : Act) (w : World), wpAnyP P ops L Q pend fuel listed a w → wpAnyP P ops L Q ((k, fun _ => True) :: pend) fuel listed a w
  | 0, _, _, _, h => h
  | fuel + 1, _, _, _, h => ⟨h.1, fun i hi => wpOp_mono (fun _ _ h' => ⟨by rw [PendOk]; split; exact h'.1; exact ⟨trivial, h'.1⟩, wpAnyP_triv fuel _ _ _ h'.2⟩) (h.2 i hi)⟩
end

def loudL (P : Program) (ops : List Oper) : List Nat := (List.range ops.length).filter fun i => match ops[i]? with | some o => !quietB P o.op | none => true
def PendAnd (ops : Array Oper) (L : List Nat) (listed : Array Bool) (w : World) (X : Prop) : List (Nat × (World → Prop)) → Prop
  | [] => X
  | (k, c) :: r => match dischB ops L listed k with
    | true => PendAnd ops L listed w X r
    | false => c w ∧ PendAnd ops L listed w X r
theorem PendAnd_elim {ops : Array Oper} {L : List Nat} {listed : Array Bool} {w : World} {X : Prop} : ∀ {pend : List (Nat × (World → Prop))}, PendAnd ops L listed w X pend → PendOk ops L listed w pend ∧ X := by
  intro pend
  induction pend with
  | nil => intro h; exact ⟨trivial, h⟩
  | cons p r ih =>
    obtain ⟨k, c⟩ := p
    intro h
    rw [PendAnd] at h
    rw [PendOk]
    split at h
    · exact ih h
    · exact ⟨⟨h.1, (ih h.2).1⟩, (ih h.2).2⟩
def findQ (ops : Array Oper) (L : List Nat) (listed : Array Bool) : List Nat → Option Nat
  | [] => none
  | j :: r =>
    match !L.contains j && (Region.free .any ops listed j && !dischB ops L listed j) with
    | true => some j
    | false => findQ ops L listed r
def eachP (f : Nat → Prop) : List Nat → Prop
  | [] => True
  | [j] => f j
  | j :: j' :: r => f j ∧ eachP f (j' :: r)
theorem eachP_mem {f : Nat → Prop} : ∀ {l : List Nat}, eachP f l → ∀ j ∈ l, f j := by
  intro l
  induction l with
  | nil => intro _ j hj; simp at hj
  | cons x r ih =>
    intro h j hj
    cases r with
    | nil => simp at hj; subst hj; exact h
    | cons y s =>
      rcases List.mem_cons.1 hj with rfl | hj
      · exact h.1
      · exact ih h.2 j hj
theorem findQ_spec {ops : Array Oper} {L : List Nat} {listed : Array Bool} {j : Nat} : ∀ {l : List Nat}, findQ ops L listed l = some j →
    j ∈ l ∧ L.contains j = false ∧ Region.free .any ops listed j = true ∧ dischB ops L listed j = false := by
  intro l
  induction l with
  | nil => intro h; simp [findQ] at h
  | cons x r ih =>
    intro h
    unfold findQ at h
    split at h
    · rename_i hb
      simp at h; subst h
      simp only [Bool.and_eq_true, Bool.not_eq_true'] at hb
      exact ⟨List.mem_cons_self, hb.1, hb.2.1, hb.2.2⟩
    · obtain ⟨h1, h2⟩ := ih h
      exact ⟨List.mem_cons_of_mem _ h1, h2⟩
def addP (j : Nat) (c : Option (World → Prop)) (pend : List (Nat × (World → Prop))) : List (Nat × (World → Prop)) :=
  match c with
  | none => pend
  | some c => (j, c) :: pend
def wDraw (P : Program) (H : Hand) (ys : List Nat) (ops : List Oper) (L : List Nat) (QN : Env → World → Prop) : Nat → List (Nat × (World → Prop)) → Array Bool → Env → World → Prop
  | 0, _, listed, e, w => (match Region.ready .any ops.toArray listed with | [] => QN e w | _ :: _ => False)
  | fuel + 1, pend, listed, e, w =>
    match Region.ready .any ops.toArray listed with
    | [] => QN e w
    | i :: r =>
      match findQ ops.toArray L listed (i :: r) with
      | some j =>
        (match ops[j]? with
         | none => False
         | some o => (match guardS ops o with
           | none => False
           | some g => wQuiet P (extTy ops o.dst) e o g w fun e' c => wDraw P H ys ops L QN fuel (addP j c pend) (listed.setIfInBounds j true) e' w))
      | none => eachP (fun j =>
        match ops[j]? with
        | none => False
        | some o => (match guardS ops o with
          | none => False
          | some g => wLoudO P H ys e o g w fun e' w' => PendAnd ops.toArray L (listed.setIfInBounds j true) w' (wDraw P H ys ops L QN fuel pend (listed.setIfInBounds j true) e' w') pend)) (i :: r)

theorem wDraw_sound {P : Program} {H : Hand} (hH : HSound P H) {ys : List Nat} {ops : List Oper} {L : List Nat} {QN : Env → World → Prop} {Q : Exit → Act → World → Prop} {S : List Nat} {a0 : Act} {D : List Deferred}
    (hQ : ∀ e a w, AgK S a0 D e a → QN e w → Q .normal a w) (hQp : ∀ c a w, ¬ Q (.panic c) a w) (hS : ∀ o ∈ ops, ∀ t, o.dst = some t → t ∈ S)
    (hsel : Region.noSelect ops.toArray = true) :
    ∀ (fuel : Nat) (pend : List (Nat × (World → Prop))) (listed : Array Bool) (e : Env) (a : Act) (w : World),
      AgK S a0 D e a → Closed ops.toArray listed → PendOk ops.toArray L listed w pend → wDraw P H ys ops L QN fuel pend listed e w → wpAnyP P ops.toArray L Q pend fuel listed a w := by
  intro fuel
  induction fuel with
  | zero =>
    intro pend listed e a w hag _ _ h
    unfold wDraw at h
    split at h
    · rename_i hr; exact ⟨hr, hQ _ _ _ hag h⟩
    · exact h.elim
  | succ fuel ih =>
    intro pend listed e a w hag hcl hp h
    unfold wDraw at h
    split at h
    · rename_i hr
      exact ⟨fun _ => hQ _ _ _ hag h, by rw [hr]; simp⟩
    · rename_i i r hr
      split at h
      · rename_i j hj
        obtain ⟨hjm, hjL, hjf, hjd⟩ := findQ_spec hj
        split at h
        · exact h.elim
        · rename_i o ho
          have ho' : ops.toArray[j]? = some o := by simpa using ho
          have hoS := hS o (List.mem_of_getElem? ho)
          split at h
          · exact h.elim
          · rename_i g hg
            obtain ⟨v, e', c, hn, hSc, hag', hrun⟩ := wQuiet_sound hag.ag hg h
            have hy : YieldsIf P ops.toArray (SOf c) o v a := hrun
            have hcl' : Closed ops.toArray (listed.setIfInBounds j true) := hcl.set (by rw [hr]; exact hjm)
            refine wpAnyP_take ho' (Region.noSelect_spec hsel) (fun c a w hx => absurd hx (hQp _ _ _)) hjL fuel listed a w (fun k ok hk hkj hun hno => Region.free_spec ho' hjf k ok hk hkj hun hno)
              (by rw [hr]; exact hjm) hy hSc hp hcl ?_
            have hagk := hag.put hoS hag'
            cases c with
            | none => exact wpAnyP_triv _ _ _ _ (ih pend _ e' _ w hagk hcl' (PendOk_set hp) hn)
            | some c =>
              refine ih _ _ e' _ w hagk hcl' ?_ hn
              show PendOk ops.toArray L _ w ((j, c) :: pend)
              rw [PendOk]
              split
              · exact PendOk_set hp
              · exact ⟨hSc, PendOk_set hp⟩
      · refine ⟨fun h0 => (by rw [h0] at hr; cases hr), fun j hj => ?_⟩
        rw [hr] at hj
        have h := eachP_mem h j hj
        split at h
        · exact h.elim
        · rename_i o ho
          have ho' : ops.toArray[j]? = some o := by simpa using ho
          have hoS := hS o (List.mem_of_getElem? ho)
          split at h
          · exact h.elim
          · rename_i g hg
            have hnext : ∀ e' v w', PendAnd ops.toArray L (listed.setIfInBounds j true) w' (wDraw P H ys ops L QN fuel pend (listed.setIfInBounds j true) e' w') pend → Agree e' (a.put o.dst v) →
                PendOk ops.toArray L (listed.setIfInBounds j true) w' pend ∧ wpAnyP P ops.toArray L Q pend fuel (listed.setIfInBounds j true) (a.put o.dst v) w' := by
              intro e' v w' hx hag'
              obtain ⟨h1, h2⟩ := PendAnd_elim hx
              exact ⟨h1, ih _ _ e' _ w' (hag.put hoS hag') (hcl.set (by rw [hr]; exact hj)) h1 h2⟩
            unfold wpOp
            rw [ho']
            dsimp only
            rcases wLoudO_sound hH hag.ag hg h (K := fun a' w' => PendOk ops.toArray L (listed.setIfInBounds j true) w' pend ∧ wpAnyP P ops.toArray L Q pend fuel (listed.setIfInBounds j true) a' w') (Q := Q) hnext with ⟨hwt, hx⟩ | ⟨hwt, hx⟩
            · rw [if_pos hwt]; exact .inl hx
            · rw [if_neg (by simp [hwt])]; exact hx
end Go.Eng
