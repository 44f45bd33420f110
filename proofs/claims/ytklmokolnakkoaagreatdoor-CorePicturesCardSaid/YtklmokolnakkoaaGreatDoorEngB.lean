/-
  Part B of an engine: equality of values. Proved: what a comparison of typed values answers. Conditions: none beyond each theorem's own.
-/
import Derived.Test.YtklmokolnakkoaaGreatDoorEngA
set_option linter.unusedVariables false
set_option linter.unusedSimpArgs false
namespace Go.Eng

def szT (P : Program) (t : TypeId) : Nat := ((P.info? t).map (·.size)).getD 0
def hasT (P : Program) (t : TypeId) : Bool := (P.info? t).isSome
def partV (P : Program) (t : TypeId) (cs : List Value) (off : Nat) : Option Value :=
  match P.info? t with
  | none => none
  | some i =>
    match aggT P t with
    | true => some (.agg ((cs.drop off).take i.size).toArray)
    | false => cs[off]?

def eqFs (f : TypeId → Value → Value → Option Bool) (P : Program) (xs ys : List Value) : List Field → Option Bool
  | [] => some true
  | fd :: fs =>
    match fd.name == "_" with
    | true => eqFs f P xs ys fs
    | false =>
      match partV P fd.type xs fd.offset, partV P fd.type ys fd.offset with
      | some a, some b =>
        (match f fd.type a b, eqFs f P xs ys fs with
         | some r, some s => some (r && s)
         | _, _ => none)
      | _, _ => none
def eqAr (f : Value → Value → Option Bool) (P : Program) (e : TypeId) (xs ys : List Value) (n : Nat) : Nat → Nat → Option Bool
  | _, 0 => some true
  | i, k + 1 =>
    match partV P e xs (i * n), partV P e ys (i * n) with
    | some a, some b =>
      (match f a b, eqAr f P e xs ys n (i + 1) k with
       | some r, some s => some (r && s)
       | _, _ => none)
    | _, _ => none
def eqT (P : Program) : Nat → TypeId → Value → Value → Option Bool
  | 0, _, _, _ => none
  | d + 1, t, x, y =>
    match P.underlying t, x, y with
    | some .bool, .bool a, .bool b => some (a == b)
    | some (.int _), .int k a, .int k' b => (match decide (k = k') with | true => some (a == b) | false => none)
    | some .string, .string a, .string b => some (a.toList == b.toList)
    | some (.struct fs), .agg xs, .agg ys =>
      (match P.stoodInHeld t with
       | true => none
       | false => eqFs (eqT P d) P xs.toList ys.toList fs.toList)
    | some (.array len e), .agg xs, .agg ys =>
      (match P.info? e with
       | none => none
       | some i => eqAr (eqT P d e) P e xs.toList ys.toList i.size 0 len)
    | _, _, _ => none

section
variable {P : Program} {w : World}
theorem run_isAgg {t : TypeId} {d : TypeDesc} (h : P.underlying t = some d) : (isAgg t).run P w = .ok (aggT P t) w := by
  simp only [isAgg, Sem.run_bind, run_underlying h, Result.andThen_ok, aggT, h]
  cases d <;> rfl
theorem run_sizeOf' {t : TypeId} {i : TypeInfo} (h : P.info? t = some i) : (sizeOf t).run P w = .ok i.size w := by
  simp [sizeOf, typeInfo, h]
theorem run_partV {t : TypeId} {d : TypeDesc} (hu : P.underlying t = some d) {cs : Array Value} {off : Nat} {v : Value} (h : partV P t cs.toList off = some v) :
    (part t cs off).run P w = .ok v w := by
  unfold partV at h
  cases hi : P.info? t with
  | none => simp [hi] at h
  | some i =>
    rw [hi] at h
    simp only [part, Sem.run_bind, run_isAgg hu, Result.andThen_ok]
    cases ha : aggT P t with
    | true =>
      simp only [ha] at h
      simp only [if_true, Sem.run_bind, run_sizeOf' hi, Result.andThen_ok, Sem.run_pure]
      cases h
      congr 2
      apply Array.ext'
      simp [List.take_drop, Array.toList_extract]
    | false =>
      simp only [ha] at h
      simp only [Bool.false_eq_true, if_false]
      simp at h
      rw [h]
      rfl
theorem eqFs_run {d : Nat} {xs ys : Array Value} (hf : ∀ t x y r w, eqT P d t x y = some r → (Op.equalIn d t x y).run P w = .ok r w)
    (hu : ∀ t x y r, eqT P d t x y = some r → (P.underlying t).isSome = true) :
    ∀ (fs : List Field) (r : Bool) (w : World), eqFs (eqT P d) P xs.toList ys.toList fs = some r → (Op.eqFields d xs ys fs).run P w = .ok r w := by
  intro fs
  induction fs with
  | nil => intro r w h; simp [eqFs] at h; subst h; simp [Op.eqFields]
  | cons f fs ih =>
    intro r w h
    unfold eqFs at h
    unfold Op.eqFields
    cases hn : f.name == "_" with
    | true =>
      rw [hn] at h
      have hn' : f.name = "_" := by simpa using hn
      simp only [hn', ne_eq, not_true_eq_false, if_false]
      exact ih _ _ h
    | false =>
      rw [hn] at h
      have hn' : f.name ≠ "_" := by simpa using hn
      rw [if_pos hn']
      cases ha : partV P f.type xs.toList f.offset with
      | none => simp [ha] at h
      | some a =>
        cases hb : partV P f.type ys.toList f.offset with
        | none => simp [ha, hb] at h
        | some b =>
          simp only [ha, hb] at h
          cases h1 : eqT P d f.type a b with
          | none => simp [h1] at h
          | some r1 =>
            cases h2 : eqFs (eqT P d) P xs.toList ys.toList fs with
            | none => simp [h1, h2] at h
            | some r2 =>
              simp only [h1, h2] at h
              obtain ⟨du, hdu⟩ := Option.isSome_iff_exists.1 (hu _ _ _ _ h1)
              simp only [Sem.run_bind, run_partV hdu ha, run_partV hdu hb, Result.andThen_ok, hf _ _ _ _ _ h1]
              cases r1
              · simp at h; subst h; simp
              · simp at h; subst h; simpa using ih _ _ h2
theorem eqAr_run {d : Nat} {e : TypeId} {n : Nat} {xs ys : Array Value} (hf : ∀ x y r w, eqT P d e x y = some r → (Op.equalIn d e x y).run P w = .ok r w)
    (hu : ∀ t x y r, eqT P d t x y = some r → (P.underlying t).isSome = true) :
    ∀ (k i : Nat) (r : Bool) (w : World), eqAr (eqT P d e) P e xs.toList ys.toList n i k = some r →
      (forIn (List.range' i k) ((none, ()) : Option Bool × Unit) fun i _ => do
        let __do_lift ← part e xs (i * n)
        let __do_lift_1 ← part e ys (i * n)
        let __do_lift ← Op.equalIn d e __do_lift __do_lift_1
        if (!__do_lift) = true then pure (ForInStep.done (some false, ())) else pure (ForInStep.yield (none, ()))).run P w = .ok (if r then (none, ()) else (some false, ())) w := by
  intro k
  induction k with
  | zero => intro i r w h; simp [eqAr] at h; subst h; simp
  | succ k ih =>
    intro i r w h
    unfold eqAr at h
    cases ha : partV P e xs.toList (i * n) with
    | none => simp [ha] at h
    | some a =>
      cases hb : partV P e ys.toList (i * n) with
      | none => simp [ha, hb] at h
      | some b =>
        simp only [ha, hb] at h
        cases h1 : eqT P d e a b with
        | none => simp [h1] at h
        | some r1 =>
          cases h2 : eqAr (eqT P d e) P e xs.toList ys.toList n (i + 1) k with
          | none => simp [h1, h2] at h
          | some r2 =>
            simp only [h1, h2] at h
            obtain ⟨du, hdu⟩ := Option.isSome_iff_exists.1 (hu _ _ _ _ h1)
            rw [List.range'_succ, List.forIn_cons]
            simp only [Sem.run_bind, run_partV hdu ha, run_partV hdu hb, Result.andThen_ok, hf _ _ _ _ h1]
            cases r1
            · simp at h; subst h; simp
            · simp at h; subst h
              simp only [Bool.not_true, Bool.false_eq_true, if_false, Sem.run_pure, Result.andThen_ok]
              exact ih _ _ _ h2
theorem eqT_some {d : Nat} {t : TypeId} {x y : Value} {r : Bool} (h : eqT P d t x y = some r) : (P.underlying t).isSome = true := by
  cases d with
  | zero => simp [eqT] at h
  | succ d =>
    unfold eqT at h
    cases hu : P.underlying t with
    | none => simp [hu] at h
    | some d => rfl
theorem eqT_run : ∀ (d : Nat) (t : TypeId) (x y : Value) (r : Bool) (w : World), eqT P d t x y = some r → (Op.equalIn d t x y).run P w = .ok r w := by
  intro d
  induction d with
  | zero => intro t x y r w h; simp [eqT] at h
  | succ d ih =>
    intro t x y r w h
    unfold eqT at h
    split at h
    · rename_i hu; simp at h; subst h; simp [Op.equalIn, run_underlying hu]
    · rename_i hu
      split at h
      · rename_i hk; have hk := of_decide_eq_true hk; subst hk; simp at h; subst h; simp [Op.equalIn, run_underlying hu]
      · simp at h
    · rename_i hu; simp at h; subst h; exact run_equalIn_string w d t _ _ hu
    · rename_i fs xs ys hu
      split at h
      · simp at h
      · rename_i hs
        have hfs : P.fieldsOf t = fs := by simp [Program.fieldsOf, hu]
        rw [run_equalIn_struct w d t xs ys (by rw [hfs]; exact hu) hs, hfs]
        exact eqFs_run (fun t x y r w h => ih t x y r w h) (fun t x y r h => eqT_some h) _ _ _ h
    · rename_i len e xs ys hu
      split at h
      · simp at h
      · rename_i i hi
        have := eqAr_run (fun x y r w h => ih e x y r w h) (fun t x y r h => eqT_some h) len 0 r w h
        simp only [Op.equalIn, Sem.run_bind, run_underlying hu, Result.andThen_ok, run_sizeOf' hi]
        rw [Std.Legacy.Range.forIn_eq_forIn_range']
        simp only [Std.Legacy.Range.size, Nat.sub_zero, Nat.add_sub_cancel, Nat.div_one]
        rw [this]
        cases r <;> rfl
    · simp at h
end
end Go.Eng
