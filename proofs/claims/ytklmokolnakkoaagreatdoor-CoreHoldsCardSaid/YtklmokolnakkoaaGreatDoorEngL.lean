/-
  Part L of an engine. Proved: a law whose walk returns true and lays new blocks alone has its row's step. Conditions: those in the theorem.
-/
import Derived.Test.YtklmokolnakkoaaGreatDoorEngU
import Derived.ProofKit
import Derived.OpenShut
import Derived.Carry
set_option linter.unusedVariables false
set_option linter.unusedSimpArgs false
namespace Go.Eng
open Go.ChangeShapes Go.WideShapes Go.ChangeAt Go.RowKit

section
variable {H : Type} {enc : TypeId × Value → H} {P : Program}
theorem trodAll_stays (hl : laidOutB P = true) {W W' : World} (hb : Below W.heap.size W W') :
    ∀ (ts : List TypeId) (vs : List Value) (ds : List (DataW H)) (ps : List MemPlace), (∀ t ∈ ts, P.readableRec t = true ∧ t < P.types.size) →
    DataW.TrodAll enc P W 0 (fun _ => true) true ts vs ds ps → (∀ x ∈ ps, x.block < W.heap.size) →
    DataW.TrodAll enc P W' 0 (fun b => decide (b < W.heap.size)) true ts vs ds ps := by
  intro ts
  induction ts with
  | nil =>
    intro vs ds ps _ h _
    obtain ⟨rfl, rfl, rfl⟩ := trodAll_nil h
    exact trodAll_mk0
  | cons t ts ih =>
    intro vs ds ps hr h hlt
    obtain ⟨v, vs', d, ds', p, q, rfl, rfl, rfl, h0, h1⟩ := trodAll_cons h
    have r0 := hr t (List.mem_cons_self ..)
    exact trodAll_cons_mk (Below.trod hl r0.1 r0.2 h0 hb fun x hx => hlt x (List.mem_append_left _ hx))
      (ih vs' ds' q (fun t ht => hr t (List.mem_cons_of_mem _ ht)) h1 fun x hx => hlt x (List.mem_append_right _ hx))
end
def parsOk (P : Program) (f : Func) : Bool := f.params.toList.all fun t => P.readableRec t && decide (t < P.types.size)

theorem lift_true {C : Checked} (own : ownKnob C.prog.godebug = none) (hl : laidOutB C.prog = true) {k : FuncId} {f : Func} (hf : C.prog.funcs[k]? = some f) (noInit : C.prog.inits.idxOf? k = none)
    {bt : TypeId} (hbt : C.prog.underlying bt = some .bool) (hres : f.resultTypes = #[bt]) (hpar : parsOk C.prog f = true)
    {s : ChangeSpec} (hvars : s.vars = []) {dom : List PathCond}
    (hfn : ∀ (H : Type) (ds : List (DataW H)), ds.length = f.params.size → s.fn H ds = { results := [.lit (.bool true)], args := ds })
    (walk : ∀ (H : Type) (enc : TypeId × Value → H) (W : World) (base : Nat) (args : Array Value) (ds : List (DataW H)) (p : List MemPlace),
      (∀ (j : Nat) t v, f.params[j]? = some t → args[j]? = some v → Value.okWide C.prog W .any base t v) →
      DataW.TrodAll enc C.prog W 0 (fun _ => true) true f.params.toList args.toList ds p →
      (∀ x ∈ p, x.block < W.heap.size) → (∀ b off, MemPlace.cell b off ∈ p → W.frozen? ⟨b, off, none⟩ = false) →
      Calls C.prog k args W fun e W' => e = .returned (.bool true) ∧ Kept none' W W')
    (os : Os) (started : os.Started) (H : Type) (enc : TypeId × Value → H)
    (wit : ∃ (w : World) (tape : Tape) (i : Input), w.os = os ∧ (w.forCall tape i).Shaped C.prog ∧ i.vars = [] ∧ Input.okWide C.prog (w.forCall tape i) .any w.heap.size k i ∧
      s.pre6 enc C.prog f dom false (w.forCall tape i).memory i.args ∧ ({} : Assume).holds C.prog (lone (Frame.enter C.prog k i.args .normal) [] (w.forCall tape i))) :
    ReturnsInHanded {} C os k .any (s.pre6 enc C.prog f dom false) (s.post enc C.prog f false true false false) := by
  refine returnsInHanded_of_change own started noInit hf wit ?_
  intro W base args ds gs before hval hW _ _
  have hW' := hW
  obtain ⟨p, q, hA, hV, rfl, hfz, hnd⟩ := hW
  have hlt : ∀ x ∈ p ++ q, x.block < W.heap.size := fun x hx => by simpa using hW'.lt x hx
  rw [hvars] at hV
  obtain ⟨rfl, rfl⟩ := trodVars_none hV
  simp only [List.append_nil] at hlt
  refine (walk H enc W base args ds p hval hA hlt ?_).mono fun e W' ⟨he, hg⟩ => ?_
  · intro b off hx
    exact hfz b off (by simpa using hx)
  subst he
  have hlen : ds.length = f.params.size := by
    have : ∀ (ts : List TypeId) (vs : List Value) (ds : List (DataW H)) (ps : List MemPlace), DataW.TrodAll enc C.prog W 0 (fun _ => true) true ts vs ds ps → ds.length = ts.length := by
      intro ts
      induction ts with
      | nil => intro vs ds ps h; obtain ⟨_, rfl, _⟩ := trodAll_nil h; rfl
      | cons t ts ih =>
        intro vs ds ps h
        obtain ⟨v, vs', d, ds', p, q, rfl, rfl, rfl, h0, h1⟩ := trodAll_cons h
        simp [ih _ _ _ h1]
    rw [this _ _ _ _ hA]; simp
  have hs : s.fn H (ds ++ []) = { results := [.lit (.bool true)], args := ds } := by rw [List.append_nil]; exact hfn H ds hlen
  refine ⟨_, rfl, ds, [], p ++ [], [], p, [], hW', ?_, ?_, ?_, hg.keptBut _, fun h => by cases h⟩
  · rw [hs, hres]
    exact trodAll_mk1 (shut_bool hbt _)
  · rw [hs]
    refine trodAll_stays hl hg.below _ _ _ _ (fun t ht => ?_) hA hlt
    have := List.all_eq_true.1 hpar t ht
    simpa using this
  · rw [hs, hvars]
    rfl
end Go.Eng
