/- Part of a proof that a law returns true. Conditions: those in each theorem. -/
import Derived.Test.YtdgbechegbmpcaaGreatDoorX5
set_option linter.unusedSimpArgs false
set_option linter.unusedVariables false
set_option maxRecDepth 100000
namespace Go.Proofs.YtdgbechegbmpcaaGreatDoor
open Go Go.ChangeShapes Go.WideShapes Go.ChangeAt Go.RowKit Go.Eng
theorem supplyAlone_c1:(Rows.supplyAloneRow.inPlace==Tryz.prog.inPlace 4)=true:=by kernel_rfl
theorem supplyAlone_c2:(Rows.supplyAloneRow.unfollowed==Tryz.prog.unfollowed 4)=true:=by kernel_rfl
theorem supplyAlone_c3:(Rows.supplyAloneRow.recurses==Tryz.prog.recurses 4)=true:=by kernel_rfl
theorem supplyAlone_c4:(Rows.supplyAloneRow.named==Tryz.prog.varsNamed 4)=true:=by kernel_rfl
theorem QJ:joinedFacts Tryz.prog 4 Tryz.f4 (OpenSpec.ofChange Rows.supplyAloneSpec).bare Rows.supplyAloneRow=true:=by
 unfold joinedFacts;rw [supplyAlone_c1,supplyAlone_c2,supplyAlone_c3,supplyAlone_c4]
 kernel_rfl
theorem QL(f:FuncId)(fn:Func)(hf:Tryz.pinned.checked.prog.funcNamed "byre/byrelaw23.SupplyAlone" = some f)(hfn:Tryz.pinned.checked.prog.funcs[f]? = some fn) :
 false=Tryz.pinned.checked.prog.looks []/\∀(j:Nat) t,fn.params[j]? = some t->Tryz.pinned.checked.prog.wantsStandIn t=false:=by
 obtain rfl:f=4:=Option.some.inj ((show Tryz.prog.funcNamed "byre/byrelaw23.SupplyAlone" = some 4 by kernel_rfl).symm.trans hf) |>.symm
 obtain rfl:fn=Tryz.f4:=(Option.some.inj (Tryz.func4.symm.trans hfn)).symm;refine⟨by kernel_rfl,fun j t ht=>?_⟩;rw [Tryz.params4] at ht;have hm:t∈[29,3,3]:=by simpa using Array.mem_of_getElem? ht
 have hall:([29,3,3].all fun u=>!Tryz.prog.wantsStandIn u)=true:=by kernel_rfl
 exact(show Tryz.prog.wantsStandIn t=false by simpa using List.all_eq_true.1 hall t hm)
end Go.Proofs.YtdgbechegbmpcaaGreatDoor
