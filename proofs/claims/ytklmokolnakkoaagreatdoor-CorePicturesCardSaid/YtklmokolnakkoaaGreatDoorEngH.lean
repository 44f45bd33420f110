/-
  Part H of an engine. Proved: one operation in a frame, by its condition. Conditions: none beyond each theorem's own.
-/
import Derived.Test.YtklmokolnakkoaaGreatDoorEngG
set_option linter.unusedVariables false
set_option linter.unusedSimpArgs false
namespace Go.Eng

def pickV0 (e : Env) (cx : List (Nat × Bool)) (c x y : Operand) : Option Value :=
  match c with
  | .tmp s =>
    (match rdO cx e (.tmp s) with
     | some (.bool bc) =>
       (match rdO (implied e 8 (s, true) ++ cx) e x, rdO (implied e 8 (s, false) ++ cx) e y with
        | some (.bool p), some (.bool q) =>
          (match x, y with
           | .const (.bool true), _ => some (.bool (bc || q))
           | _, .const (.bool false) => some (.bool (bc && p))
           | _, _ => some (.bool (cond bc p q)))
        | some u, some v => (match bc with | true => some u | false => some v)
        | some u, none => (match bc with | true => some u | false => none)
        | none, some v => (match bc with | true => none | false => some v)
        | none, none => none)
     | _ => none)
  | _ => none
def pickV (e : Env) (cx : List (Nat × Bool)) (c x y : Operand) : Option Value :=
  match fixO e c with
  | some true => rdO cx e x
  | some false => rdO cx e y
  | none => pickV0 e cx c x y
theorem pickV0_sound {e : Env} {a : Act} {cx : List (Nat × Bool)} (h : Agree e a) (hcx : ∀ p ∈ cx, HoldsB a.tmps p) {c x y : Operand} {v : Value} (hv : pickV0 e cx c x y = some v) :
    ∃ bc, a.eval c = .bool bc ∧ v = (if bc then a.eval x else a.eval y) := by
  unfold pickV0 at hv
  split at hv
  · rename_i s
    split at hv
    · rename_i bc hbc
      have hc := rdO_sound h hcx _ _ hbc
      have hs : HoldsB a.tmps (s, bc) := by
        simp only [Act.eval] at hc
        unfold HoldsB
        rw [Array.getD_eq_getD_getElem?] at hc
        cases hx : a.tmps[s]? with
        | none => rw [hx] at hc; simp [undef] at hc
        | some u => rw [hx] at hc; simp at hc; simp [hc]
      refine ⟨bc, hc, ?_⟩
      have hx : bc = true → ∀ u, rdO (implied e 8 (s, true) ++ cx) e x = some u → a.eval x = u := by
        intro hb u hu
        subst hb
        refine rdO_sound h (fun p hp => ?_) _ _ hu
        rcases List.mem_append.1 hp with hp | hp
        · exact implied_holds h _ _ hs _ hp
        · exact hcx _ hp
      have hy : bc = false → ∀ u, rdO (implied e 8 (s, false) ++ cx) e y = some u → a.eval y = u := by
        intro hb u hu
        subst hb
        refine rdO_sound h (fun p hp => ?_) _ _ hu
        rcases List.mem_append.1 hp with hp | hp
        · exact implied_holds h _ _ hs _ hp
        · exact hcx _ hp
      split at hv
      · rename_i p q hp hq
        split at hv
        · simp at hv; subst hv
          cases bc
          · simp [hy rfl _ hq]
          · simp [Act.eval]
        · simp at hv; subst hv
          cases bc
          · simp [Act.eval]
          · simp [hx rfl _ hp]
        · simp at hv; subst hv
          cases bc
          · simp [hy rfl _ hq]
          · simp [hx rfl _ hp]
      · rename_i u v' _ hu hv'
        cases bc
        · simp at hv; subst hv; simp [hy rfl _ hv']
        · simp at hv; subst hv; simp [hx rfl _ hu]
      · rename_i u hu hn
        cases bc
        · simp at hv
        · simp at hv; subst hv; simp [hx rfl _ hu]
      · rename_i v' hn hv'
        cases bc
        · simp at hv; subst hv; simp [hy rfl _ hv']
        · simp at hv
      · simp at hv
    · simp at hv
  · simp at hv

theorem pickV_sound {e : Env} {a : Act} {cx : List (Nat × Bool)} (h : Agree e a) (hcx : ∀ p ∈ cx, HoldsB a.tmps p) {c x y : Operand} {v : Value} (hv : pickV e cx c x y = some v) :
    ∃ bc, a.eval c = .bool bc ∧ v = (if bc then a.eval x else a.eval y) := by
  unfold pickV at hv
  split at hv
  · rename_i hb
    exact ⟨true, fixO_sound h hb, by rw [if_pos rfl]; exact (rdO_sound h hcx _ _ hv).symm⟩
  · rename_i hb
    exact ⟨false, fixO_sound h hb, by rw [if_neg (by simp)]; exact (rdO_sound h hcx _ _ hv).symm⟩
  · exact pickV0_sound h hcx hv

def QRes.noR : QRes → Bool
  | .fail => true
  | .ret _ => true
  | .chk _ r => r.noR
  | .rdc _ _ => false
  | .ex _ => false
theorem QRes.noR_spec {r : QRes} {c : World → Prop} {v : Value} (h : Spec r c v) (hn : r.noR = true) : ∀ w, c w := by
  induction h with
  | ret v => intro w; trivial
  | chk _ ih => exact ih hn
  | rdc _ _ => simp [QRes.noR] at hn
  | ex _ _ _ => simp [QRes.noR] at hn

def opF (e : Env) (o : Oper) : Option Bool :=
  match o.op with
  | .move x => fixO e x
  | .assign x => fixO e x
  | .unOp .not _ x => (fixO e x).map not
  | _ => none
def pickF (e : Env) (c x y : Operand) : Option Bool :=
  match fixO e c with
  | some true => fixO e x
  | some false => fixO e y
  | none => none
def wQuiet0 (P : Program) (τ : Nat → Option TypeId) (e : Env) (o : Oper) (g : Option (Nat × Bool)) (w : World) (next : Env → Option (World → Prop) → Prop) : Prop :=
  match o.op with
  | .pick c x y =>
    (match g with
     | none => (match pickV e [] c x y with | some v => next (fixE (putE e o.dst ⟨none, v, none⟩) o.dst (pickF e c x y)) none | none => False)
     | some p => (match pickV e (implied e 8 p) c x y with | some v => next (putE e o.dst ⟨some p, v, none⟩) none | none => (condF e 8 p → False) ∧ next (putE e o.dst ⟨some p, undef, none⟩) none))
  | _ =>
    match g with
    | none =>
      (match (qOp P τ (rdO [] e) o).noR with
       | true => (qOp P τ (rdO [] e) o).den w (fun v _ => next (fixE (putE e o.dst ⟨none, v, none⟩) o.dst (opF e o)) none) (fun _ => True)
       | false => (qOp P τ (rdO [] e) o).den w (fun v c => next (fixE (putE e o.dst ⟨none, v, none⟩) o.dst (opF e o)) (some c)) (fun _ => True))
    | some p =>
      (match (qOp P τ (rdO (implied e 8 p) e) o).noR with
       | true => (qOp P τ (rdO (implied e 8 p) e) o).denIf (condF e 8 p) w (fun v _ => next (putE e o.dst ⟨some p, v, none⟩) none) (fun _ => True)
       | false => (qOp P τ (rdO (implied e 8 p) e) o).denIf (condF e 8 p) w (fun v c => next (putE e o.dst ⟨some p, v, none⟩) (some fun w' => condF e 8 p → c w')) (fun _ => True))
def wQuiet (P : Program) (τ : Nat → Option TypeId) (e : Env) (o : Oper) (g : Option (Nat × Bool)) (w : World) (next : Env → Option (World → Prop) → Prop) : Prop :=
  match g with
  | none => wQuiet0 P τ e o none w next
  | some p => match gkn e 8 p with
    | some true => wQuiet0 P τ e o none w next
    | some false => next (putE e o.dst ⟨none, undef, none⟩) none
    | none => wQuiet0 P τ e o (some p) w next
def quietB (P : Program) (op : Op) : Bool :=
  match op with
  | .pick _ _ _ => true
  | op => quiet P op
def guardS (ops : List Oper) (o : Oper) : Option (Option (Nat × Bool)) :=
  match o.guard with
  | none => some none
  | some (j, want) =>
    match ops[j]? with
    | some oj => (match oj.dst with | some s => some (some (s, want)) | none => none)
    | none => none
def SOf : Option (World → Prop) → World → Prop
  | none, _ => True
  | some c, w => c w

theorem wanted_iff {ops : List Oper} {o : Oper} {g : Option (Nat × Bool)} (hg : guardS ops o = some g) (a : Act) :
    Region.wanted o (yielded ops.toArray a.tmps) = true ↔ (match g with | none => True | some p => HoldsB a.tmps p) := by
  unfold guardS at hg
  split at hg
  · rename_i h0; simp at hg; subst hg; simp [Region.wanted, h0]
  · rename_i j want h0
    split at hg
    · rename_i oj hj
      split at hg
      · rename_i s hs
        simp at hg; subst hg
        have hj' : ops.toArray[j]? = some oj := by simpa using hj
        simp only [Region.wanted, h0, yielded, hj', hs, Option.bind_some, HoldsB]
        split
        · rename_i b hb; rw [hb]; simp
        · rename_i hnb
          constructor
          · intro h; simp at h
          · intro h; exact absurd h (hnb _)
      · simp at hg
    · simp at hg

theorem opF_sound {P : Program} {e : Env} {a : Act} (h : Agree e a) {o : Oper} {v : Value} {w : World} {b : Bool} (hr : (execOp a.eval o).run P w = .ok (.value v) w) (hb : opF e o = some b) : v = .bool b := by
  unfold opF at hb
  split at hb
  · rename_i x ho
    have := fixO_sound h hb
    simp [execOp, ho, this] at hr
    exact hr.symm
  · rename_i x ho
    have := fixO_sound h hb
    simp [execOp, ho, this] at hr
    exact hr.symm
  · rename_i t x ho
    cases hx : fixO e x with
    | none => rw [hx] at hb; cases hb
    | some c =>
      rw [hx] at hb
      simp at hb
      have := fixO_sound h hx
      simp [execOp, ho, this, Op.unary] at hr
      rw [← hr, hb]; simp
  · cases hb
theorem put_opF {P : Program} {e : Env} {a : Act} (h : Agree e a) {o : Oper} {v : Value} {w : World} (hr : (execOp a.eval o).run P w = .ok (.value v) w) : Agree (fixE (putE e o.dst ⟨none, v, none⟩) o.dst (opF e o)) (a.put o.dst v) := by
  refine (h.put _ ⟨none, v, none⟩ rfl).fixE fun t b ht hb hlt => ?_
  have h3 := opF_sound h hr hb
  unfold HoldsB
  rw [ht] at hlt ⊢
  simp only [Act.put] at hlt ⊢
  have hlt' : t < a.tmps.size := by simpa using hlt
  simp [hlt', h3]
theorem wQuiet0_sound {P : Program} {τ : Nat → Option TypeId} {ops : List Oper} {e : Env} {a : Act} {o : Oper} {g : Option (Nat × Bool)} {w : World} {next : Env → Option (World → Prop) → Prop}
    (h : Agree e a) (hwi : Region.wanted o (yielded ops.toArray a.tmps) = true ↔ (match g with | none => True | some p => HoldsB a.tmps p)) (hw : wQuiet0 P τ e o g w next) :
    ∃ v e' c, next e' c ∧ SOf c w ∧ Agree e' (a.put o.dst v) ∧
      ((Region.wanted o (yielded ops.toArray a.tmps) = true ∧ ∀ w', SOf c w' → (execOp a.eval o).run P w' = .ok (.value v) w') ∨
       (Region.wanted o (yielded ops.toArray a.tmps) = false ∧ v = undef)) := by
  have hH : ∀ p, HoldsB a.tmps p → ∀ q ∈ implied e 8 p, HoldsB a.tmps q := fun p hp => implied_holds h 8 p hp
  unfold wQuiet0 at hw
  split at hw
  · rename_i c x y ho
    have hrun : ∀ v w', (∃ bc, a.eval c = .bool bc ∧ v = (if bc then a.eval x else a.eval y)) → (execOp a.eval o).run P w' = .ok (.value v) w' := by
      rintro v w' ⟨bc, h1, rfl⟩
      simp only [execOp, ho, h1, asBool, Sem.run_bind, Sem.run_pure, Result.andThen_ok]
    split at hw
    · split at hw
      · rename_i v hv
        have hp := pickV_sound h (by simp) hv
        refine ⟨v, _, none, hw, trivial, (h.put _ ⟨none, v, none⟩ rfl).fixE fun t b ht hb hlt => ?_, .inl ⟨hwi.2 trivial, fun w' _ => hrun v w' hp⟩⟩
        obtain ⟨bc, h1, h2⟩ := hp
        have h3 : v = .bool b := by
          unfold pickF at hb
          split at hb
          · rename_i hc
            have := fixO_sound h hc
            rw [this] at h1
            cases h1
            rw [h2, if_pos rfl]
            exact fixO_sound h hb
          · rename_i hc
            have := fixO_sound h hc
            rw [this] at h1
            cases h1
            rw [h2, if_neg (by simp)]
            exact fixO_sound h hb
          · cases hb
        unfold HoldsB
        rw [ht] at hlt ⊢
        simp only [Act.put] at hlt ⊢
        have hlt' : t < a.tmps.size := by simpa using hlt
        simp [hlt', h3]
      · exact hw.elim
    · rename_i p
      split at hw
      · rename_i v hv
        by_cases hp : HoldsB a.tmps p
        · have hpk := pickV_sound h (hH p hp) hv
          exact ⟨v, _, none, hw, trivial, h.put _ ⟨some p, v, none⟩ ⟨fun _ => rfl, fun hn => absurd hp hn⟩, .inl ⟨hwi.2 hp, fun w' _ => hrun v w' hpk⟩⟩
        · refine ⟨undef, _, none, hw, trivial, h.put _ ⟨some p, v, none⟩ ⟨fun hx => absurd hx hp, fun _ => rfl⟩, .inr ⟨?_, rfl⟩⟩
          cases hx : Region.wanted o (yielded ops.toArray a.tmps) with
          | false => rfl
          | true => exact absurd (hwi.1 hx) hp
      · have hp : ¬ HoldsB a.tmps p := fun hp => hw.1 (condF_of h 8 p hp)
        refine ⟨undef, _, none, hw.2, trivial, h.put _ ⟨some p, undef, none⟩ ⟨fun hx => absurd hx hp, fun _ => rfl⟩, .inr ⟨?_, rfl⟩⟩
        cases hx : Region.wanted o (yielded ops.toArray a.tmps) with
        | false => rfl
        | true => exact absurd (hwi.1 hx) hp
  · split at hw
    · have hρ := rdO_sound h (cx := []) (by simp)
      split at hw
      · rename_i hn
        obtain ⟨v, c', hs, hc, c'', hnx, _⟩ := QRes.den_spec hw
        exact ⟨v, _, none, hnx, trivial, put_opF h (qOp_sound (w := w) hρ hs (QRes.noR_spec hs hn w)), .inl ⟨hwi.2 trivial, fun w' _ => qOp_sound hρ hs (QRes.noR_spec hs hn w')⟩⟩
      · obtain ⟨v, c', hs, hc, c'', hnx, hcc⟩ := QRes.den_spec hw
        exact ⟨v, _, some c'', hnx, (hcc w).1 ⟨hc, trivial⟩, put_opF h (qOp_sound (w := w) hρ hs hc), .inl ⟨hwi.2 trivial, fun w' hw' => qOp_sound hρ hs ((hcc w').2 hw').1⟩⟩
    · rename_i p
      split at hw
      · rename_i hn
        obtain ⟨v, c'', hnx, hs⟩ := QRes.denIf_spec hw
        by_cases hp : HoldsB a.tmps p
        · have hρ := rdO_sound h (hH p hp)
          obtain ⟨c', hs, hc, hcc⟩ := hs (condF_of h 8 p hp)
          exact ⟨v, _, none, hnx, trivial, h.put _ ⟨some p, v, none⟩ ⟨fun _ => rfl, fun hn => absurd hp hn⟩, .inl ⟨hwi.2 hp, fun w' _ => qOp_sound hρ hs (QRes.noR_spec hs hn w')⟩⟩
        · refine ⟨undef, _, none, hnx, trivial, h.put _ ⟨some p, v, none⟩ ⟨fun hx => absurd hx hp, fun _ => rfl⟩, .inr ⟨?_, rfl⟩⟩
          cases hx : Region.wanted o (yielded ops.toArray a.tmps) with
          | false => rfl
          | true => exact absurd (hwi.1 hx) hp
      · obtain ⟨v, c'', hnx, hs⟩ := QRes.denIf_spec hw
        by_cases hp : HoldsB a.tmps p
        · have hρ := rdO_sound h (hH p hp)
          have hC := condF_of h 8 p hp
          obtain ⟨c', hs, hc, hcc⟩ := hs hC
          refine ⟨v, _, _, hnx, fun _ => (hcc w).1 ⟨hc, trivial⟩, h.put _ ⟨some p, v, none⟩ ⟨fun _ => rfl, fun hn => absurd hp hn⟩, .inl ⟨hwi.2 hp, fun w' hw' => ?_⟩⟩
          exact qOp_sound hρ hs ((hcc w').2 (hw' hC)).1
        · by_cases hC : condF e 8 p
          · obtain ⟨c', hs, hc, hcc⟩ := hs hC
            refine ⟨undef, _, _, hnx, fun _ => (hcc w).1 ⟨hc, trivial⟩, h.put _ ⟨some p, v, none⟩ ⟨fun hx => absurd hx hp, fun _ => rfl⟩, .inr ⟨?_, rfl⟩⟩
            cases hx : Region.wanted o (yielded ops.toArray a.tmps) with
            | false => rfl
            | true => exact absurd (hwi.1 hx) hp
          · refine ⟨undef, _, _, hnx, fun hx => absurd hx hC, h.put _ ⟨some p, v, none⟩ ⟨fun hx => absurd hx hp, fun _ => rfl⟩, .inr ⟨?_, rfl⟩⟩
            cases hx : Region.wanted o (yielded ops.toArray a.tmps) with
            | false => rfl
            | true => exact absurd (hwi.1 hx) hp

theorem wQuiet_sound {P : Program} {τ : Nat → Option TypeId} {ops : List Oper} {e : Env} {a : Act} {o : Oper} {g : Option (Nat × Bool)} {w : World} {next : Env → Option (World → Prop) → Prop}
    (h : Agree e a) (hg : guardS ops o = some g) (hw : wQuiet P τ e o g w next) :
    ∃ v e' c, next e' c ∧ SOf c w ∧ Agree e' (a.put o.dst v) ∧
      ((Region.wanted o (yielded ops.toArray a.tmps) = true ∧ ∀ w', SOf c w' → (execOp a.eval o).run P w' = .ok (.value v) w') ∨
       (Region.wanted o (yielded ops.toArray a.tmps) = false ∧ v = undef)) := by
  have hwi := wanted_iff hg a
  unfold wQuiet at hw
  split at hw
  · exact wQuiet0_sound h (g := none) hwi hw
  · rename_i p
    split at hw
    · rename_i hk
      have := (gkn_sound h _ _ _ hk).2 rfl
      exact wQuiet0_sound h (g := none) ⟨fun _ => trivial, fun _ => hwi.2 this⟩ hw
    · rename_i hk
      have hn : ¬ HoldsB a.tmps p := fun hh => by simpa using (gkn_sound h _ _ _ hk).1 hh
      refine ⟨undef, _, none, hw, trivial, h.put _ _ rfl, .inr ⟨?_, rfl⟩⟩
      cases hx : Region.wanted o (yielded ops.toArray a.tmps) with
      | false => rfl
      | true => exact absurd (hwi.1 hx) hn
    · exact wQuiet0_sound h (g := some p) hwi hw

end Go.Eng
