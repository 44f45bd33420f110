/-
  A part of a proof that a law of this seat returns true at every input. Conditions: those in each theorem.
-/
import Derived.Test.YtklmokolnakkoaaGreatDoorX5
import Derived.Test.YtklmokolnakkoaaGreatDoorY9
namespace Go.Proofs.YtklmokolnakkoaaGreatDoor
open Go Go.ChangeShapes Go.WideShapes Go.ChangeAt Go.RowKit Go.Eng
set_option linter.unusedSimpArgs false
set_option linter.unusedVariables false
set_option maxRecDepth 100000
theorem coreClass_reads (os : Os) {H : Type} (enc : TypeId × Value → H) : ∃ places, DataW.whole enc Tryz.prog ((laidWorld os).forCall (fun _ _ => 0) ⟨#[], #[.int .i64 0], []⟩).memory Tryz.f3.params.toList Rows.coreClassSpec.vars false (#[.int .i64 0] : Array Value).toList 8 = some ([zi], [], places) :=
  ⟨[], by kernel_rfl⟩
theorem coreClass_lifted (os : Os) (started : os.Started) (H : Type) (enc : TypeId × Value → H) (F : Stop.Interp) :
    ReturnsInHanded {} Tryz.checked os 3 .any ((OpenSpec.ofChange Rows.coreClassSpec).preRow enc Tryz.prog Tryz.f3 Rows.coreClassRow.domain false Rows.coreClassRow.laid) (((OpenSpec.ofChange Rows.coreClassSpec).at F).post enc Tryz.prog Tryz.f3 false true false false) := by
  obtain ⟨places, hx⟩ := coreClass_reads os enc
  refine lift_row Tryz.func3 (by kernel_rfl) (bt := 4) Tryz.underlying4 (by kernel_rfl) (by kernel_rfl) rfl
    (fun H ds h => by match ds, h with | [d1], _ => rfl) ?_ os started H enc F
    (witness_row_at (enc := enc) (C := Tryz.checked) false (laidWorld os) #[.int .i64 0] rfl (by kernel_rfl) (by kernel_rfl) (by kernel_rfl)
      (OpenSpec.preRow_of_cond 8 hx (by kernel_rfl) (fun k hk => by cases hk) (by kernel_rfl) (laid_met os _)))
  intro H enc W base args ds p hval0 hA0 hz
  have hval : ∀ (j : Nat) t v, Tryz.f3.params[j]? = some t → args[j]? = some v → Value.okWide Tryz.prog W .any base t v := hval0
  have hA : DataW.TrodAll enc Tryz.prog W 0 (fun _ => true) true Tryz.f3.params.toList args.toList ds p := hA0
  rw [Tryz.params3] at hA hval
  obtain ⟨v0, vs0, d0, ds0, p0, q0, hargs, rfl, rfl, h0, r0⟩ := trodAll_cons hA
  obtain ⟨rfl, rfl, rfl⟩ := trodAll_nil r0
  obtain rfl : args = #[v0] := by cases args; simp_all
  clear hA0 hval0 hargs
  obtain ⟨a, rfl, _, _⟩ := open_i64 (hval 0 3 v0 rfl rfl) h0
  exact coreClass_walk hz hz.pos a
theorem coreClass_row : Rows.CoreClassSaid :=
  OpenClaim.holds_of_cond 3 Tryz.f3 rfl rfl rfl rfl rfl rfl rfl ⟨rfl, rfl, rfl, rfl, rfl⟩ rfl rfl rfl rfl rfl (by kernel_rfl) Tryz.func3 (by kernel_rfl)
    (of_decide_eq_true (by kernel_rfl)) (by unfold Func.isWrapper; first | (rw [if_pos (by decide +kernel)]; kernel_rfl) | (rw [if_neg (by decide +kernel)]; exact ⟨rfl, rfl⟩))
    (fun os started H enc _ F => by rw [OpenClaim.pre_eq_preRow]; exact coreClass_lifted os started H enc F)
theorem coreClass_plain (f : FuncId) (fn : Func) (hf : Tryz.pinned.checked.prog.funcNamed "byre/byrelaw21.CoreClass" = some f) (hfn : Tryz.pinned.checked.prog.funcs[f]? = some fn) :
    false = Tryz.pinned.checked.prog.looks [] ∧ ∀ (j : Nat) t, fn.params[j]? = some t → Tryz.pinned.checked.prog.wantsStandIn t = false := by
  obtain rfl : f = 3 := Option.some.inj ((show Tryz.prog.funcNamed "byre/byrelaw21.CoreClass" = some 3 by kernel_rfl).symm.trans hf) |>.symm
  obtain rfl : fn = Tryz.f3 := (Option.some.inj (Tryz.func3.symm.trans hfn)).symm
  refine ⟨by kernel_rfl, fun j t ht => ?_⟩
  rw [Tryz.params3] at ht
  have hm : t ∈ [3] := by simpa using Array.mem_of_getElem? ht
  have hall : ([3].all fun u => !Tryz.prog.wantsStandIn u) = true := by kernel_rfl
  exact (show Tryz.prog.wantsStandIn t = false by simpa using List.all_eq_true.1 hall t hm)
theorem coreClass_proved : Rows.CoreClassCardSaid :=
  Claim7.holds_tied_plain_at .later [] _ _ _ _ coreClass_row (fun _ h => by cases h) (by kernel_rfl) (fun _ h => by cases h) coreClass_row_tie rfl ⟨rfl, rfl⟩ (by kernel_rfl) rfl coreClass_plain (by kernel_rfl)
#print axioms coreClass_proved
end Go.Proofs.YtklmokolnakkoaaGreatDoor
