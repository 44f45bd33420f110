/- Part of a proof that a law returns true. Conditions: those in each theorem. -/
import Derived.Test.YtdgbechegbmpcaaGreatDoorFB
import Derived.Test.YtdgbechegbmpcaaGreatDoorX5
import Derived.Test.YtdgbechegbmpcaaGreatDoorQ52
import Derived.Test.YtdgbechegbmpcaaGreatDoorSV10
set_option linter.unusedSimpArgs false
set_option linter.unusedVariables false
set_option maxRecDepth 100000
namespace Go.Proofs.YtdgbechegbmpcaaGreatDoor
open Go Go.ChangeShapes Go.WideShapes Go.ChangeAt Go.RowKit Go.Eng
theorem QJ(os:Os){H:Type}(enc:TypeId×Value->H):∃places,DataW.whole enc Tryz.prog ((laidWorld os).forCall (fun _ _=>0) ⟨#[],#[zeroCase,.int .i64 0],[]⟩).memory Tryz.f5.params.toList Rows.supplySwapdSpec.vars false (#[zeroCase,.int .i64 0]:Array Value).toList 8=some ([zeroCaseD,zi],[],places):=
 ⟨[],by kernel_rfl⟩
theorem LG(os:Os)(started:os.Started)(H:Type)(enc:TypeId×Value->H)(F:Stop.Interp) :
 ReturnsInHanded {} Tryz.checked os 5 .any ((OpenSpec.ofChange Rows.supplySwapdSpec).preRow enc Tryz.prog Tryz.f5 Rows.supplySwapdRow.domain false Rows.supplySwapdRow.laid) (((OpenSpec.ofChange Rows.supplySwapdSpec).at F).post enc Tryz.prog Tryz.f5 false true false false):=by
 obtain⟨places,hx⟩:=QJ os enc;refine lift_row Tryz.func5 (by kernel_rfl) (bt:=4) Tryz.underlying4 (by kernel_rfl) (by kernel_rfl) rfl
  (fun H ds h=>by match ds,h with|[d1,d2],_=>rfl) ?_ os started H enc F
  (witness_row_at (enc:=enc) (C:=Tryz.checked) false (laidWorld os) #[zeroCase,.int .i64 0] rfl (by kernel_rfl) (by kernel_rfl) (by kernel_rfl)
   (OpenSpec.preRow_of_cond 8 hx (by kernel_rfl) (fun k hk=>by cases hk) (by kernel_rfl) (laid_met os _)))
 intro H enc W base args ds p hval0 hA0 hz TR;have hval:∀(j:Nat) t v,Tryz.f5.params[j]? = some t->args[j]? = some v->Value.okWide Tryz.prog W .any base t v:=hval0;have hA:DataW.TrodAll enc Tryz.prog W 0 (fun _=>true) true Tryz.f5.params.toList args.toList ds p:=hA0;rw [Tryz.params5] at hA hval;obtain⟨v0,vs0,d0,ds0,p0,q0,hargs,rfl,rfl,h0,r0⟩:=trodAll_cons hA;obtain⟨v1,vs1,d1,ds1,p1,q1,rfl,rfl,rfl,h1,r1⟩:=trodAll_cons r0;obtain⟨rfl,rfl,rfl⟩:=trodAll_nil r1;obtain rfl:args=#[v0,v1]:=by cases args;simp_all
 clear hA0 hval0 hargs;obtain⟨x0,pa,pl,pc,ia,il,ic,x96,pf,nf,rfl,PG,PN⟩:=open_case (hval 0 29 v0 rfl rfl) h0;obtain⟨node,rfl,_,_⟩:=open_i64 (hval 1 3 v1 rfl rfl) h1;exact QO hz TR node PG PN
theorem QP:Rows.SupplySwapdSaid:=
 OpenClaim.holds_of_cond 5 Tryz.f5 rfl rfl rfl rfl rfl rfl rfl ⟨rfl,rfl,rfl,rfl,rfl⟩ rfl rfl rfl rfl rfl (by kernel_rfl) Tryz.func5 MK
  (of_decide_eq_true (by kernel_rfl)) (by unfold Func.isWrapper;first|(rw [if_pos (by decide +kernel)];kernel_rfl)|(rw [if_neg (by decide +kernel)];exact⟨rfl,rfl⟩))
  (fun os started H enc _ F=>by rw [OpenClaim.pre_eq_preRow];exact LG os started H enc F)
theorem supplySwapd_proved:Rows.SupplySwapdCardSaid:=
 Claim7.holds_tied_plain_at .later [] _ _ _ _ QP (fun _ h=>by cases h) (by kernel_rfl) (fun _ h=>by cases h) supplySwapd_row_tie rfl ⟨rfl,rfl⟩ (by kernel_rfl) rfl QK (by kernel_rfl)
#print axioms supplySwapd_proved
end Go.Proofs.YtdgbechegbmpcaaGreatDoor
