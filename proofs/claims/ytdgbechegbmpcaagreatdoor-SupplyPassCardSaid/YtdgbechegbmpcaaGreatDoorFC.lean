/- Part of a proof that a law returns true. Conditions: those in each theorem. -/
import Derived.Test.YtdgbechegbmpcaaGreatDoorX5
set_option linter.unusedSimpArgs false
set_option linter.unusedVariables false
set_option maxRecDepth 100000
namespace Go.Proofs.YtdgbechegbmpcaaGreatDoor
open Go Go.ChangeShapes Go.WideShapes Go.ChangeAt Go.RowKit Go.Eng
theorem supplyPass_c1:(Rows.supplyPassRow.inPlace==Tryz.prog.inPlace 7)=true:=by kernel_rfl
theorem supplyPass_c2:(Rows.supplyPassRow.unfollowed==Tryz.prog.unfollowed 7)=true:=by kernel_rfl
theorem supplyPass_c3:(Rows.supplyPassRow.recurses==Tryz.prog.recurses 7)=true:=by kernel_rfl
theorem supplyPass_c4:(Rows.supplyPassRow.named==Tryz.prog.varsNamed 7)=true:=by kernel_rfl
theorem QK:joinedFacts Tryz.prog 7 Tryz.f7 (OpenSpec.ofChange Rows.supplyPassSpec).bare Rows.supplyPassRow=true:=by
 unfold joinedFacts;rw [supplyPass_c1,supplyPass_c2,supplyPass_c3,supplyPass_c4]
 kernel_rfl
theorem QO(f:FuncId)(fn:Func)(hf:Tryz.pinned.checked.prog.funcNamed "byre/byrelaw23.SupplyPass" = some f)(hfn:Tryz.pinned.checked.prog.funcs[f]? = some fn) :
 false=Tryz.pinned.checked.prog.looks []/\∀(j:Nat) t,fn.params[j]? = some t->Tryz.pinned.checked.prog.wantsStandIn t=false:=by
 obtain rfl:f=7:=Option.some.inj ((show Tryz.prog.funcNamed "byre/byrelaw23.SupplyPass" = some 7 by kernel_rfl).symm.trans hf) |>.symm
 obtain rfl:fn=Tryz.f7:=(Option.some.inj (Tryz.func7.symm.trans hfn)).symm;refine⟨by kernel_rfl,fun j t ht=>?_⟩;rw [Tryz.params7] at ht;have hm:t∈[29,3,3]:=by simpa using Array.mem_of_getElem? ht
 have hall:([29,3,3].all fun u=>!Tryz.prog.wantsStandIn u)=true:=by kernel_rfl
 exact(show Tryz.prog.wantsStandIn t=false by simpa using List.all_eq_true.1 hall t hm)
end Go.Proofs.YtdgbechegbmpcaaGreatDoor
