/-
  A part of a proof that a law of this seat returns true at every input. Conditions: those in each theorem.
-/
import Derived.Test.YtklmokolnakkoaaGreatDoorX5
import Derived.Test.YtklmokolnakkoaaGreatDoorY9
namespace Go.Proofs.YtklmokolnakkoaaGreatDoor
open Go Go.ChangeShapes Go.WideShapes Go.ChangeAt Go.RowKit Go.Eng
set_option linter.unusedSimpArgs false
set_option linter.unusedVariables false
set_option maxRecDepth 100000
theorem coreNew_reads (os : Os) {H : Type} (enc : TypeId × Value → H) : ∃ places, DataW.whole enc Tryz.prog ((laidWorld os).forCall (fun _ _ => 0) ⟨#[], #[zeroCfg], []⟩).memory Tryz.f4.params.toList Rows.coreNewSpec.vars false (#[zeroCfg] : Array Value).toList 8 = some ([zeroCfgD], [], places) :=
  ⟨[], by kernel_rfl⟩
theorem coreNew_lifted (os : Os) (started : os.Started) (H : Type) (enc : TypeId × Value → H) (F : Stop.Interp) :
    ReturnsInHanded {} Tryz.checked os 4 .any ((OpenSpec.ofChange Rows.coreNewSpec).preRow enc Tryz.prog Tryz.f4 Rows.coreNewRow.domain false Rows.coreNewRow.laid) (((OpenSpec.ofChange Rows.coreNewSpec).at F).post enc Tryz.prog Tryz.f4 false true false false) := by
  obtain ⟨places, hx⟩ := coreNew_reads os enc
  refine lift_row Tryz.func4 (by kernel_rfl) (bt := 4) Tryz.underlying4 (by kernel_rfl) (by kernel_rfl) rfl
    (fun H ds h => by match ds, h with | [d1], _ => rfl) ?_ os started H enc F
    (witness_row_at (enc := enc) (C := Tryz.checked) false (laidWorld os) #[zeroCfg] rfl (by kernel_rfl) (by kernel_rfl) (by kernel_rfl)
      (OpenSpec.preRow_of_cond 8 hx (by kernel_rfl) (fun k hk => by cases hk) (by kernel_rfl) (laid_met os _)))
  intro H enc W base args ds p hval0 hA0 hz
  have hval : ∀ (j : Nat) t v, Tryz.f4.params[j]? = some t → args[j]? = some v → Value.okWide Tryz.prog W .any base t v := hval0
  have hA : DataW.TrodAll enc Tryz.prog W 0 (fun _ => true) true Tryz.f4.params.toList args.toList ds p := hA0
  rw [Tryz.params4] at hA hval
  obtain ⟨v0, vs0, d0, ds0, p0, q0, hargs, rfl, rfl, h0, r0⟩ := trodAll_cons hA
  obtain ⟨rfl, rfl, rfl⟩ := trodAll_nil r0
  obtain rfl : args = #[v0] := by cases args; simp_all
  clear hA0 hval0 hargs
  obtain ⟨c, rfl, _⟩ := open_cfg (hval 0 31 v0 rfl rfl) h0
  exact coreNew_walk hz hz.pos c
theorem coreNew_row : Rows.CoreNewSaid :=
  OpenClaim.holds_of_cond 4 Tryz.f4 rfl rfl rfl rfl rfl rfl rfl ⟨rfl, rfl, rfl, rfl, rfl⟩ rfl rfl rfl rfl rfl (by kernel_rfl) Tryz.func4 (by kernel_rfl)
    (of_decide_eq_true (by kernel_rfl)) (by unfold Func.isWrapper; first | (rw [if_pos (by decide +kernel)]; kernel_rfl) | (rw [if_neg (by decide +kernel)]; exact ⟨rfl, rfl⟩))
    (fun os started H enc _ F => by rw [OpenClaim.pre_eq_preRow]; exact coreNew_lifted os started H enc F)
theorem coreNew_plain (f : FuncId) (fn : Func) (hf : Tryz.pinned.checked.prog.funcNamed "byre/byrelaw21.CoreNew" = some f) (hfn : Tryz.pinned.checked.prog.funcs[f]? = some fn) :
    false = Tryz.pinned.checked.prog.looks [] ∧ ∀ (j : Nat) t, fn.params[j]? = some t → Tryz.pinned.checked.prog.wantsStandIn t = false := by
  obtain rfl : f = 4 := Option.some.inj ((show Tryz.prog.funcNamed "byre/byrelaw21.CoreNew" = some 4 by kernel_rfl).symm.trans hf) |>.symm
  obtain rfl : fn = Tryz.f4 := (Option.some.inj (Tryz.func4.symm.trans hfn)).symm
  refine ⟨by kernel_rfl, fun j t ht => ?_⟩
  rw [Tryz.params4] at ht
  have hm : t ∈ [31] := by simpa using Array.mem_of_getElem? ht
  have hall : ([31].all fun u => !Tryz.prog.wantsStandIn u) = true := by kernel_rfl
  exact (show Tryz.prog.wantsStandIn t = false by simpa using List.all_eq_true.1 hall t hm)
theorem coreNew_proved : Rows.CoreNewCardSaid :=
  Claim7.holds_tied_plain_at .later [] _ _ _ _ coreNew_row (fun _ h => by cases h) (by kernel_rfl) (fun _ h => by cases h) coreNew_row_tie rfl ⟨rfl, rfl⟩ (by kernel_rfl) rfl coreNew_plain (by kernel_rfl)
#print axioms coreNew_proved
end Go.Proofs.YtklmokolnakkoaaGreatDoor
