/-
  A part of a proof that a law of this seat returns true at every input. Conditions: those in each theorem.
-/
import Derived.Test.YtikjgeenhbnkkaaGreatDoorBR8
import Derived.Test.YtikjgeenhbnkkaaGreatDoorBD9
namespace Go.Proofs.YtikjgeenhbnkkaaGreatDoor
open Go Go.ChangeShapes Go.WideShapes Go.ChangeAt Go.RowKit Go.Eng
set_option linter.unusedSimpArgs false
set_option linter.unusedVariables false
set_option maxRecDepth 100000
theorem auditOrder_reads (os : Os) {H : Type} (enc : TypeId × Value → H) : ∃ places, DataW.whole enc Tryz.prog ((laidWorld os).forCall (fun _ _ => 0) ⟨#[], #[zeroPic], []⟩).memory Tryz.f5.params.toList Rows.auditOrderSpec.vars false (#[zeroPic] : Array Value).toList 8 = some ([zeroPicD], [], places) :=
  ⟨[], by kernel_rfl⟩
theorem auditOrder_lifted (os : Os) (started : os.Started) (H : Type) (enc : TypeId × Value → H) (F : Stop.Interp) :
    ReturnsInHanded {} Tryz.checked os 5 .any ((Rows.OpenSpec.upto Rows.auditOrderSpec).preRow enc Tryz.prog Tryz.f5 Rows.auditOrderUptoRow.domain false Rows.auditOrderUptoRow.laid) (((Rows.OpenSpec.upto Rows.auditOrderSpec).at F).post enc Tryz.prog Tryz.f5 false true false false) := by
  obtain ⟨places, hx⟩ := auditOrder_reads os enc
  refine lift_row Tryz.func5 (by kernel_rfl) (bt := 4) Tryz.underlying4 (by kernel_rfl) (by kernel_rfl) rfl
    (fun H ds h => by match ds, h with | [d1], _ => rfl) ?_ os started H enc F
    (witness_row_at (enc := enc) (C := Tryz.checked) false (laidWorld os) #[zeroPic] rfl (by kernel_rfl) (by kernel_rfl) (by kernel_rfl)
      (OpenSpec.preRow_of_cond 8 hx (by kernel_rfl) (fun k hk => by cases hk; kernel_rfl) (by kernel_rfl) (laid_met os _)))
  intro H enc W base args ds p hval0 hA0 hz hbulk
  have hval : ∀ (j : Nat) t v, Tryz.f5.params[j]? = some t → args[j]? = some v → Value.okWide Tryz.prog W .any base t v := hval0
  have hA : DataW.TrodAll enc Tryz.prog W 0 (fun _ => true) true Tryz.f5.params.toList args.toList ds p := hA0
  rw [Tryz.params5] at hA hval
  obtain ⟨v0, vs0, d0, ds0, p0, q0, hargs, rfl, rfl, h0, r0⟩ := trodAll_cons hA
  obtain ⟨rfl, rfl, rfl⟩ := trodAll_nil r0
  obtain rfl : args = #[v0] := by cases args; simp_all
  clear hA0 hval0 hargs
  simp only [Rows.uptoBulkAll] at hbulk
  obtain ⟨S, x, rfl, P, pw, hb⟩ := open_pic (hval 0 37 v0 rfl rfl) h0
  exact order_walk P hz pw.slabs (by omega)
theorem auditOrder_upto : Rows.AuditOrderUptoSaid :=
  OpenClaim.holds_of_cond 5 Tryz.f5 rfl rfl rfl rfl rfl rfl rfl ⟨rfl, rfl, rfl, rfl, rfl⟩ rfl rfl rfl rfl rfl (by kernel_rfl) Tryz.func5 (by kernel_rfl)
    (of_decide_eq_true (by kernel_rfl)) (by unfold Func.isWrapper; first | (rw [if_pos (by decide +kernel)]; kernel_rfl) | (rw [if_neg (by decide +kernel)]; exact ⟨rfl, rfl⟩))
    (fun os started H enc _ F => by rw [OpenClaim.pre_eq_preRow]; exact auditOrder_lifted os started H enc F)
theorem auditOrder_plain (f : FuncId) (fn : Func) (hf : Tryz.pinned.checked.prog.funcNamed "byre/byrelaw28.AuditOrder" = some f) (hfn : Tryz.pinned.checked.prog.funcs[f]? = some fn) :
    false = Tryz.pinned.checked.prog.looks [] ∧ ∀ (j : Nat) t, fn.params[j]? = some t → Tryz.pinned.checked.prog.wantsStandIn t = false := by
  obtain rfl : f = 5 := Option.some.inj ((show Tryz.prog.funcNamed "byre/byrelaw28.AuditOrder" = some 5 by kernel_rfl).symm.trans hf) |>.symm
  obtain rfl : fn = Tryz.f5 := (Option.some.inj (Tryz.func5.symm.trans hfn)).symm
  refine ⟨by kernel_rfl, fun j t ht => ?_⟩
  rw [Tryz.params5] at ht
  have ht := Array.mem_of_getElem? ht
  simp at ht
  rcases ht with rfl
  · exact (show Tryz.prog.wantsStandIn 37 = false by kernel_rfl)
theorem auditOrder_proved : Rows.AuditOrderUptoCardSaid :=
  Claim7.holds_tied_plain_at .later [] _ _ _ _ auditOrder_upto (fun _ h => by cases h) (by kernel_rfl) (fun _ h => by cases h) auditOrderUpto_row_tie rfl ⟨rfl, rfl⟩ (by kernel_rfl) rfl auditOrder_plain (by kernel_rfl)
#print axioms auditOrder_proved
end Go.Proofs.YtikjgeenhbnkkaaGreatDoor
