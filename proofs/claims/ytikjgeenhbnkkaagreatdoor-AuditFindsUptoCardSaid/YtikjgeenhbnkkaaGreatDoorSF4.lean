/-
  A part of a proof that a law of this seat returns true at every input. Conditions: those in each theorem.
-/
import Derived.Test.YtikjgeenhbnkkaaGreatDoorBR8
import Derived.Test.YtikjgeenhbnkkaaGreatDoorBC9
namespace Go.Proofs.YtikjgeenhbnkkaaGreatDoor
open Go Go.ChangeShapes Go.WideShapes Go.ChangeAt Go.RowKit Go.Eng
set_option linter.unusedSimpArgs false
set_option linter.unusedVariables false
set_option maxRecDepth 100000
theorem auditFinds_reads (os : Os) {H : Type} (enc : TypeId × Value → H) : ∃ places, DataW.whole enc Tryz.prog ((laidWorld os).forCall (fun _ _ => 0) ⟨#[], #[zeroPic, .int .i64 0, .int .i64 0], []⟩).memory Tryz.f4.params.toList Rows.auditFindsSpec.vars false (#[zeroPic, .int .i64 0, .int .i64 0] : Array Value).toList 8 = some ([zeroPicD, zi, zi], [], places) :=
  ⟨[], by kernel_rfl⟩
theorem auditFinds_lifted (os : Os) (started : os.Started) (H : Type) (enc : TypeId × Value → H) (F : Stop.Interp) :
    ReturnsInHanded {} Tryz.checked os 4 .any ((Rows.OpenSpec.upto Rows.auditFindsSpec).preRow enc Tryz.prog Tryz.f4 Rows.auditFindsUptoRow.domain false Rows.auditFindsUptoRow.laid) (((Rows.OpenSpec.upto Rows.auditFindsSpec).at F).post enc Tryz.prog Tryz.f4 false true false false) := by
  obtain ⟨places, hx⟩ := auditFinds_reads os enc
  refine lift_row Tryz.func4 (by kernel_rfl) (bt := 4) Tryz.underlying4 (by kernel_rfl) (by kernel_rfl) rfl
    (fun H ds h => by match ds, h with | [d1, d2, d3], _ => rfl) ?_ os started H enc F
    (witness_row_at (enc := enc) (C := Tryz.checked) false (laidWorld os) #[zeroPic, .int .i64 0, .int .i64 0] rfl (by kernel_rfl) (by kernel_rfl) (by kernel_rfl)
      (OpenSpec.preRow_of_cond 8 hx (by kernel_rfl) (fun k hk => by cases hk; kernel_rfl) (by kernel_rfl) (laid_met os _)))
  intro H enc W base args ds p hval0 hA0 hz hbulk
  have hval : ∀ (j : Nat) t v, Tryz.f4.params[j]? = some t → args[j]? = some v → Value.okWide Tryz.prog W .any base t v := hval0
  have hA : DataW.TrodAll enc Tryz.prog W 0 (fun _ => true) true Tryz.f4.params.toList args.toList ds p := hA0
  rw [Tryz.params4] at hA hval
  obtain ⟨v0, vs0, d0, ds0, p0, q0, hargs, rfl, rfl, h0, r0⟩ := trodAll_cons hA
  obtain ⟨v1, vs1, d1, ds1, p1, q1, rfl, rfl, rfl, h1, r1⟩ := trodAll_cons r0
  obtain ⟨v2, vs2, d2, ds2, p2, q2, rfl, rfl, rfl, h2, r2⟩ := trodAll_cons r1
  obtain ⟨rfl, rfl, rfl⟩ := trodAll_nil r2
  obtain rfl : args = #[v0, v1, v2] := by cases args; simp_all
  clear hA0 hval0 hargs
  simp only [Rows.uptoBulkAll] at hbulk
  obtain ⟨S, x, rfl, P, pw, hb⟩ := open_pic (hval 0 37 v0 rfl rfl) h0
  obtain ⟨what, rfl, hwh⟩ := open_i64 (hval 1 3 v1 rfl rfl) h1
  obtain ⟨n, rfl, hnn⟩ := open_i64 (hval 2 3 v2 rfl rfl) h2
  exact finds_walk P pw.marks hz what n pw.slabs (by omega)
theorem auditFinds_upto : Rows.AuditFindsUptoSaid :=
  OpenClaim.holds_of_cond 4 Tryz.f4 rfl rfl rfl rfl rfl rfl rfl ⟨rfl, rfl, rfl, rfl, rfl⟩ rfl rfl rfl rfl rfl (by kernel_rfl) Tryz.func4 (by kernel_rfl)
    (of_decide_eq_true (by kernel_rfl)) (by unfold Func.isWrapper; first | (rw [if_pos (by decide +kernel)]; kernel_rfl) | (rw [if_neg (by decide +kernel)]; exact ⟨rfl, rfl⟩))
    (fun os started H enc _ F => by rw [OpenClaim.pre_eq_preRow]; exact auditFinds_lifted os started H enc F)
theorem auditFinds_plain (f : FuncId) (fn : Func) (hf : Tryz.pinned.checked.prog.funcNamed "byre/byrelaw28.AuditFinds" = some f) (hfn : Tryz.pinned.checked.prog.funcs[f]? = some fn) :
    false = Tryz.pinned.checked.prog.looks [] ∧ ∀ (j : Nat) t, fn.params[j]? = some t → Tryz.pinned.checked.prog.wantsStandIn t = false := by
  obtain rfl : f = 4 := Option.some.inj ((show Tryz.prog.funcNamed "byre/byrelaw28.AuditFinds" = some 4 by kernel_rfl).symm.trans hf) |>.symm
  obtain rfl : fn = Tryz.f4 := (Option.some.inj (Tryz.func4.symm.trans hfn)).symm
  refine ⟨by kernel_rfl, fun j t ht => ?_⟩
  rw [Tryz.params4] at ht
  have ht := Array.mem_of_getElem? ht
  simp at ht
  rcases ht with rfl | rfl
  · exact (show Tryz.prog.wantsStandIn 37 = false by kernel_rfl)
  · exact (show Tryz.prog.wantsStandIn 3 = false by kernel_rfl)
/-- THE STATEMENT -/
theorem auditFinds_proved : Rows.AuditFindsUptoCardSaid :=
  Claim7.holds_tied_plain_at .later [] _ _ _ _ auditFinds_upto (fun _ h => by cases h) (by kernel_rfl) (fun _ h => by cases h) auditFindsUpto_row_tie rfl ⟨rfl, rfl⟩ (by kernel_rfl) rfl auditFinds_plain (by kernel_rfl)
#print axioms auditFinds_proved
end Go.Proofs.YtikjgeenhbnkkaaGreatDoor
