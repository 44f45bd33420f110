/-
  Part L of an engine. Proved: a law whose walk returns true and lays new blocks alone has its row's step. Conditions: those in the theorem.
-/
import Derived.Test.YtklmokolnakkoaaGreatDoorEngU
import Derived.ProofKit
import Derived.OpenShut
import Derived.Carry
set_option linter.unusedVariables false
set_option linter.unusedSimpArgs false
namespace Go.Eng
open Go.ChangeShapes Go.WideShapes Go.ChangeAt Go.RowKit

section
variable {H : Type} {enc : TypeId × Value → H} {P : Program}
theorem trodAll_stays (hl : laidOutB P = true) {W W' : World} (hb : Below W.heap.size W W') :
    ∀ (ts : List TypeId) (vs : List Value) (ds : List (DataW H)) (ps : List MemPlace), (∀ t ∈ ts, P.readableRec t = true ∧ t < P.types.size) →
    DataW.TrodAll enc P W 0 (fun _ => true) true ts vs ds ps → (∀ x ∈ ps, x.block < W.heap.size) →
    DataW.TrodAll enc P W' 0 (fun b => decide (b < W.heap.size)) true ts vs ds ps := by
  intro ts
  induction ts with
  | nil =>
    intro vs ds ps _ h _
    obtain ⟨rfl, rfl, rfl⟩ := trodAll_nil h
    exact trodAll_mk0
  | cons t ts ih =>
    intro vs ds ps hr h hlt
    obtain ⟨v, vs', d, ds', p, q, rfl, rfl, rfl, h0, h1⟩ := trodAll_cons h
    have r0 := hr t (List.mem_cons_self ..)
    exact trodAll_cons_mk (Below.trod hl r0.1 r0.2 h0 hb fun x hx => hlt x (List.mem_append_left _ hx))
      (ih vs' ds' q (fun t ht => hr t (List.mem_cons_of_mem _ ht)) h1 fun x hx => hlt x (List.mem_append_right _ hx))
end
def parsOk (P : Program) (f : Func) : Bool := f.params.toList.all fun t => P.readableRec t && decide (t < P.types.size)

end Go.Eng
