/- Part of a proof that a law returns true. Conditions: those in each theorem. -/
import Derived.Test.YtdgbechegbmpcaaGreatDoorX5
set_option linter.unusedSimpArgs false
set_option linter.unusedVariables false
set_option maxRecDepth 100000
namespace Go.Proofs.YtdgbechegbmpcaaGreatDoor
open Go Go.ChangeShapes Go.WideShapes Go.ChangeAt Go.RowKit Go.Eng
theorem A2g:(Rows.supplyMinRow.inPlace==Tryz.prog.inPlace 3)=true:=by kernel_rfl
theorem A2f:(Rows.supplyMinRow.unfollowed==Tryz.prog.unfollowed 3)=true:=by kernel_rfl
theorem A2e:(Rows.supplyMinRow.recurses==Tryz.prog.recurses 3)=true:=by kernel_rfl
theorem A2d:(Rows.supplyMinRow.named==Tryz.prog.varsNamed 3)=true:=by kernel_rfl
theorem OM:joinedFacts Tryz.prog 3 Tryz.f3 (OpenSpec.ofChange Rows.supplyMinSpec).bare Rows.supplyMinRow=true:=by
 unfold joinedFacts;rw [A2g,A2f,A2e,A2d]
 kernel_rfl
theorem RF(f:FuncId)(fn:Func)(hf:Tryz.pinned.checked.prog.funcNamed "byre/byrelaw23.SupplyMin" = some f)(hfn:Tryz.pinned.checked.prog.funcs[f]? = some fn) :
 false=Tryz.pinned.checked.prog.looks []/\∀(j:Nat) t,fn.params[j]? = some t->Tryz.pinned.checked.prog.wantsStandIn t=false:=by
 obtain rfl:f=3:=Option.some.inj ((show Tryz.prog.funcNamed "byre/byrelaw23.SupplyMin" = some 3 by kernel_rfl).symm.trans hf) |>.symm
 obtain rfl:fn=Tryz.f3:=(Option.some.inj (Tryz.func3.symm.trans hfn)).symm;refine⟨by kernel_rfl,λj t ht=>?_⟩;rw [Tryz.params3] at ht;have hm:t∈[29,30,31]:=by simpa using Array.mem_of_getElem? ht
 have hall:([29,30,31].all λu=>!Tryz.prog.wantsStandIn u)=true:=by kernel_rfl
 exact(show Tryz.prog.wantsStandIn t=false by simpa using List.all_eq_true.1 hall t hm)
