/- Part of a proof that a law returns true. Conditions: those in each theorem. -/
import Derived.Test.YtdgbechegbmpcaaGreatDoorX5
import Derived.Test.YtdgbechegbmpcaaGreatDoorSV10
set_option linter.unusedSimpArgs false
set_option linter.unusedVariables false
set_option maxRecDepth 100000
namespace Go.Proofs.YtdgbechegbmpcaaGreatDoor
open Go Go.ChangeShapes Go.WideShapes Go.ChangeAt Go.RowKit Go.Eng
theorem NY(os:Os){H:Type}(enc:TypeId×Value->H):∃places,DataW.whole enc Tryz.prog ((laidWorld os).forCall (fun _ _=>0) ⟨#[],#[zeroCase,.int .i64 0],[]⟩).memory Tryz.f6.params.toList Rows.supplyBackSpec.vars false (#[zeroCase,.int .i64 0]:Array Value).toList 8=some ([zeroCaseD,zi],[],places):=
 ⟨[],by kernel_rfl⟩
theorem ML(os:Os)(started:os.Started)(H:Type)(enc:TypeId×Value->H)(F:Stop.Interp) :
 ReturnsInHanded {} Tryz.checked os 6 .any ((OpenSpec.ofChange Rows.supplyBackSpec).preRow enc Tryz.prog Tryz.f6 Rows.supplyBackRow.domain false Rows.supplyBackRow.laid) (((OpenSpec.ofChange Rows.supplyBackSpec).at F).post enc Tryz.prog Tryz.f6 false true false false):=by
 obtain⟨places,hx⟩:=NY os enc
 refine lift_row Tryz.func6 (by kernel_rfl) (bt:=4) Tryz.underlying4 (by kernel_rfl) (by kernel_rfl) rfl
  (fun H ds h=>by match ds,h with|[d1,d2],_=>rfl) ?_ os started H enc F
  (witness_row_at (enc:=enc) (C:=Tryz.checked) false (laidWorld os) #[zeroCase,.int .i64 0] rfl (by kernel_rfl) (by kernel_rfl) (by kernel_rfl)
   (OpenSpec.preRow_of_cond 8 hx (by kernel_rfl) (fun k hk=>by cases hk) (by kernel_rfl) (laid_met os _)))
 intro H enc W base args ds p hval0 hA0 hz TR
 have hval:∀(j:Nat) t v,Tryz.f6.params[j]? = some t->args[j]? = some v->Value.okWide Tryz.prog W .any base t v:=hval0
 have hA:DataW.TrodAll enc Tryz.prog W 0 (fun _=>true) true Tryz.f6.params.toList args.toList ds p:=hA0
 rw [Tryz.params6] at hA hval
 obtain⟨v0,vs0,d0,ds0,p0,q0,hargs,rfl,rfl,h0,r0⟩:=trodAll_cons hA
 obtain⟨v1,vs1,d1,ds1,p1,q1,rfl,rfl,rfl,h1,r1⟩:=trodAll_cons r0
 obtain⟨rfl,rfl,rfl⟩:=trodAll_nil r1
 obtain rfl:args=#[v0,v1]:=by cases args;simp_all
 clear hA0 hval0 hargs
 obtain⟨x0,pa,pl,pc,ia,il,ic,x96,pf,nf,rfl,PG,PN⟩:=open_case (hval 0 29 v0 rfl rfl) h0
 obtain⟨page,rfl,_,_⟩:=open_i64 (hval 1 3 v1 rfl rfl) h1
 exact PV hz TR page PG PN
theorem supplyBack_c1:(Rows.supplyBackRow.inPlace==Tryz.prog.inPlace 6)=true:=by kernel_rfl
theorem supplyBack_c2:(Rows.supplyBackRow.unfollowed==Tryz.prog.unfollowed 6)=true:=by kernel_rfl
theorem supplyBack_c3:(Rows.supplyBackRow.recurses==Tryz.prog.recurses 6)=true:=by kernel_rfl
theorem supplyBack_c4:(Rows.supplyBackRow.named==Tryz.prog.varsNamed 6)=true:=by kernel_rfl
theorem MM:joinedFacts Tryz.prog 6 Tryz.f6 (OpenSpec.ofChange Rows.supplyBackSpec).bare Rows.supplyBackRow=true:=by
 unfold joinedFacts
 rw [supplyBack_c1,supplyBack_c2,supplyBack_c3,supplyBack_c4]
 kernel_rfl
theorem supplyBack_row:Rows.SupplyBackSaid:=
 OpenClaim.holds_of_cond 6 Tryz.f6 rfl rfl rfl rfl rfl rfl rfl ⟨rfl,rfl,rfl,rfl,rfl⟩ rfl rfl rfl rfl rfl (by kernel_rfl) Tryz.func6 MM
  (of_decide_eq_true (by kernel_rfl)) (by unfold Func.isWrapper;first|(rw [if_pos (by decide +kernel)];kernel_rfl)|(rw [if_neg (by decide +kernel)];exact⟨rfl,rfl⟩))
  (fun os started H enc _ F=>by rw [OpenClaim.pre_eq_preRow];exact ML os started H enc F)
theorem NZ(f:FuncId)(fn:Func)(hf:Tryz.pinned.checked.prog.funcNamed "byre/byrelaw23.SupplyBack" = some f)(hfn:Tryz.pinned.checked.prog.funcs[f]? = some fn) :
 false=Tryz.pinned.checked.prog.looks []/\∀(j:Nat) t,fn.params[j]? = some t->Tryz.pinned.checked.prog.wantsStandIn t=false:=by
 obtain rfl:f=6:=Option.some.inj ((show Tryz.prog.funcNamed "byre/byrelaw23.SupplyBack" = some 6 by kernel_rfl).symm.trans hf) |>.symm
 obtain rfl:fn=Tryz.f6:=(Option.some.inj (Tryz.func6.symm.trans hfn)).symm
 refine⟨by kernel_rfl,fun j t ht=>?_⟩
 rw [Tryz.params6] at ht
 have hm:t∈[29,3]:=by simpa using Array.mem_of_getElem? ht
 have hall:([29,3].all fun u=>!Tryz.prog.wantsStandIn u)=true:=by kernel_rfl
 exact(show Tryz.prog.wantsStandIn t=false by simpa using List.all_eq_true.1 hall t hm)
theorem supplyBack_proved:Rows.SupplyBackCardSaid:=
 Claim7.holds_tied_plain_at .later [] _ _ _ _ supplyBack_row (fun _ h=>by cases h) (by kernel_rfl) (fun _ h=>by cases h) supplyBack_row_tie rfl ⟨rfl,rfl⟩ (by kernel_rfl) rfl NZ (by kernel_rfl)
#print axioms supplyBack_proved
end Go.Proofs.YtdgbechegbmpcaaGreatDoor
