/- Part of a proof that a law returns true. Conditions: those in each theorem. -/
import Derived.Test.YtdgbechegbmpcaaGreatDoorX5
set_option linter.unusedSimpArgs false
set_option linter.unusedVariables false
set_option maxRecDepth 100000
namespace Go.Proofs.YtdgbechegbmpcaaGreatDoor
open Go Go.ChangeShapes Go.WideShapes Go.ChangeAt Go.RowKit Go.Eng
theorem supplySwapd_c1:(Rows.supplySwapdRow.inPlace==Tryz.prog.inPlace 5)=true:=by kernel_rfl
theorem supplySwapd_c2:(Rows.supplySwapdRow.unfollowed==Tryz.prog.unfollowed 5)=true:=by kernel_rfl
theorem supplySwapd_c3:(Rows.supplySwapdRow.recurses==Tryz.prog.recurses 5)=true:=by kernel_rfl
theorem supplySwapd_c4:(Rows.supplySwapdRow.named==Tryz.prog.varsNamed 5)=true:=by kernel_rfl
theorem MK:joinedFacts Tryz.prog 5 Tryz.f5 (OpenSpec.ofChange Rows.supplySwapdSpec).bare Rows.supplySwapdRow=true:=by
 unfold joinedFacts;rw [supplySwapd_c1,supplySwapd_c2,supplySwapd_c3,supplySwapd_c4]
 kernel_rfl
theorem QK(f:FuncId)(fn:Func)(hf:Tryz.pinned.checked.prog.funcNamed "byre/byrelaw23.SupplySwapd" = some f)(hfn:Tryz.pinned.checked.prog.funcs[f]? = some fn) :
 false=Tryz.pinned.checked.prog.looks []/\∀(j:Nat) t,fn.params[j]? = some t->Tryz.pinned.checked.prog.wantsStandIn t=false:=by
 obtain rfl:f=5:=Option.some.inj ((show Tryz.prog.funcNamed "byre/byrelaw23.SupplySwapd" = some 5 by kernel_rfl).symm.trans hf) |>.symm
 obtain rfl:fn=Tryz.f5:=(Option.some.inj (Tryz.func5.symm.trans hfn)).symm;refine⟨by kernel_rfl,fun j t ht=>?_⟩;rw [Tryz.params5] at ht;have hm:t∈[29,3]:=by simpa using Array.mem_of_getElem? ht
 have hall:([29,3].all fun u=>!Tryz.prog.wantsStandIn u)=true:=by kernel_rfl
 exact(show Tryz.prog.wantsStandIn t=false by simpa using List.all_eq_true.1 hall t hm)
end Go.Proofs.YtdgbechegbmpcaaGreatDoor
