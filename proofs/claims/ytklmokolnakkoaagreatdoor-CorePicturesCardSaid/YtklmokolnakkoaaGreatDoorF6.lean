/-
  A part of a proof that a law of this seat returns true at every input. Conditions: those in each theorem.
-/
import Derived.Test.YtklmokolnakkoaaGreatDoorX5
import Derived.Test.YtklmokolnakkoaaGreatDoorMV8
import Derived.Test.YtklmokolnakkoaaGreatDoorMV5
namespace Go.Proofs.YtklmokolnakkoaaGreatDoor
open Go Go.ChangeShapes Go.WideShapes Go.ChangeAt Go.RowKit Go.Eng
set_option linter.unusedSimpArgs false
set_option linter.unusedVariables false
set_option maxRecDepth 100000
theorem corePictures_reads (os : Os) {H : Type} (enc : TypeId × Value → H) : ∃ places, DataW.whole enc Tryz.prog ((laidWorld os).forCall (fun _ _ => 0) ⟨#[], #[zeroCfg, .slice none 0 0], []⟩).memory Tryz.f6.params.toList Rows.corePicturesSpec.vars false (#[zeroCfg, .slice none 0 0] : Array Value).toList 8 = some ([zeroCfgD, .nil], [], places) :=
  ⟨[], by kernel_rfl⟩
theorem corePictures_lifted (os : Os) (started : os.Started) (H : Type) (enc : TypeId × Value → H) (F : Stop.Interp) :
    ReturnsInHanded {} Tryz.checked os 6 .any ((OpenSpec.ofChange Rows.corePicturesSpec).preRow enc Tryz.prog Tryz.f6 Rows.corePicturesRow.domain false Rows.corePicturesRow.laid) (((OpenSpec.ofChange Rows.corePicturesSpec).at F).post enc Tryz.prog Tryz.f6 false true false false) := by
  obtain ⟨places, hx⟩ := corePictures_reads os enc
  refine lift_row Tryz.func6 (by kernel_rfl) (bt := 4) Tryz.underlying4 (by kernel_rfl) (by kernel_rfl) rfl
    (fun H ds h => by match ds, h with | [d1, d2], _ => rfl) ?_ os started H enc F
    (witness_row_at (enc := enc) (C := Tryz.checked) false (laidWorld os) #[zeroCfg, .slice none 0 0] rfl (by kernel_rfl) (by kernel_rfl) (by kernel_rfl)
      (OpenSpec.preRow_of_cond 8 hx (by kernel_rfl) (fun k hk => by cases hk) (by kernel_rfl) (laid_met os _)))
  intro H enc W base args ds p hval0 hA0 hz
  have hval : ∀ (j : Nat) t v, Tryz.f6.params[j]? = some t → args[j]? = some v → Value.okWide Tryz.prog W .any base t v := hval0
  have hA : DataW.TrodAll enc Tryz.prog W 0 (fun _ => true) true Tryz.f6.params.toList args.toList ds p := hA0
  rw [Tryz.params6] at hA hval
  obtain ⟨v0, vs0, d0, ds0, p0, q0, hargs, rfl, rfl, h0, r0⟩ := trodAll_cons hA
  obtain ⟨v1, vs1, d1, ds1, p1, q1, rfl, rfl, rfl, h1, r1⟩ := trodAll_cons r0
  obtain ⟨rfl, rfl, rfl⟩ := trodAll_nil r1
  obtain rfl : args = #[v0, v1] := by cases args; simp_all
  clear hA0 hval0 hargs
  obtain ⟨c, rfl, _⟩ := open_cfg (hval 0 31 v0 rfl rfl) h0
  obtain ⟨a, l, cp, rfl, hx⟩ := open_ops (hval 1 74 v1 rfl rfl) h1
  exact corePictures_walk hz hz.pos c hx
theorem corePictures_row : Rows.CorePicturesSaid :=
  OpenClaim.holds_of_cond 6 Tryz.f6 rfl rfl rfl rfl rfl rfl rfl ⟨rfl, rfl, rfl, rfl, rfl⟩ rfl rfl rfl rfl rfl (by kernel_rfl) Tryz.func6 (by kernel_rfl)
    (of_decide_eq_true (by kernel_rfl)) (by unfold Func.isWrapper; first | (rw [if_pos (by decide +kernel)]; kernel_rfl) | (rw [if_neg (by decide +kernel)]; exact ⟨rfl, rfl⟩))
    (fun os started H enc _ F => by rw [OpenClaim.pre_eq_preRow]; exact corePictures_lifted os started H enc F)
theorem corePictures_plain (f : FuncId) (fn : Func) (hf : Tryz.pinned.checked.prog.funcNamed "byre/byrelaw21.CorePictures" = some f) (hfn : Tryz.pinned.checked.prog.funcs[f]? = some fn) :
    false = Tryz.pinned.checked.prog.looks [] ∧ ∀ (j : Nat) t, fn.params[j]? = some t → Tryz.pinned.checked.prog.wantsStandIn t = false := by
  obtain rfl : f = 6 := Option.some.inj ((show Tryz.prog.funcNamed "byre/byrelaw21.CorePictures" = some 6 by kernel_rfl).symm.trans hf) |>.symm
  obtain rfl : fn = Tryz.f6 := (Option.some.inj (Tryz.func6.symm.trans hfn)).symm
  refine ⟨by kernel_rfl, fun j t ht => ?_⟩
  rw [Tryz.params6] at ht
  have hm : t ∈ [31, 74] := by simpa using Array.mem_of_getElem? ht
  have hall : ([31, 74].all fun u => !Tryz.prog.wantsStandIn u) = true := by kernel_rfl
  exact (show Tryz.prog.wantsStandIn t = false by simpa using List.all_eq_true.1 hall t hm)
theorem corePictures_proved : Rows.CorePicturesCardSaid :=
  Claim7.holds_tied_plain_at .later [] _ _ _ _ corePictures_row (fun _ h => by cases h) (by kernel_rfl) (fun _ h => by cases h) corePictures_row_tie rfl ⟨rfl, rfl⟩ (by kernel_rfl) rfl corePictures_plain (by kernel_rfl)
#print axioms corePictures_proved
end Go.Proofs.YtklmokolnakkoaaGreatDoor
