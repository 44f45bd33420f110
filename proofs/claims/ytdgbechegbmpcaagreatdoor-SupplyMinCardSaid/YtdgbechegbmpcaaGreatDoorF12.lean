/- Part of a proof that a law returns true. Conditions: those in each theorem. -/
import Derived.Test.YtdgbechegbmpcaaGreatDoorFA
import Derived.Test.YtdgbechegbmpcaaGreatDoorT17
set_option linter.unusedSimpArgs false
set_option linter.unusedVariables false
set_option maxRecDepth 100000
namespace Go.Proofs.YtdgbechegbmpcaaGreatDoor
open Go Go.ChangeShapes Go.WideShapes Go.ChangeAt Go.RowKit Go.Eng
theorem RE(os:Os){H:Type}(enc:TypeId×Value->H):∃places,DataW.whole enc Tryz.prog ((laidWorld os).forCall (λ_ _=>0) ⟨#[],#[A01,.slice none 0 0,.slice none 0 0],[]⟩).memory Tryz.f3.params.toList Rows.supplyMinSpec.vars false (#[A01,.slice none 0 0,.slice none 0 0]:Array Value).toList 8=some ([A9q,.nil,.nil],[],places):=
 ⟨[],by kernel_rfl⟩
theorem OL(os:Os)(started:os.Started)(H:Type)(enc:TypeId×Value->H)(F:Stop.Interp) :
 ReturnsInHanded {} Tryz.checked os 3 .any ((OpenSpec.ofChange Rows.supplyMinSpec).preRow enc Tryz.prog Tryz.f3 Rows.supplyMinRow.domain false Rows.supplyMinRow.laid) (((OpenSpec.ofChange Rows.supplyMinSpec).at F).post enc Tryz.prog Tryz.f3 false true false false):=by
 obtain⟨places,hx⟩:=RE os enc;refine B5a Tryz.func3 (by kernel_rfl) (bt:=4) Tryz.underlying4 (by kernel_rfl) (by kernel_rfl) rfl
  (λH ds h=>by match ds,h with|[d1,d2,d3],_=>rfl) ?_ os started H enc F
  (witness_row_at (enc:=enc) (C:=Tryz.checked) false (laidWorld os) #[A01,.slice none 0 0,.slice none 0 0] rfl (by kernel_rfl) (by kernel_rfl) (by kernel_rfl)
   (OpenSpec.preRow_of_cond 8 hx (by kernel_rfl) (λk hk=>by cases hk) (by kernel_rfl) (B5e os _)))
 intro H enc W base args ds p hval0 hA0 hz TR;have hval:∀(j:Nat) t v,Tryz.f3.params[j]? = some t->args[j]? = some v->Value.okWide Tryz.prog W .any base t v:=hval0;have hA:DataW.TrodAll enc Tryz.prog W 0 (λ_=>true) true Tryz.f3.params.toList args.toList ds p:=hA0;rw [Tryz.params3] at hA hval;obtain⟨v0,vs0,d0,ds0,p0,q0,hargs,rfl,rfl,h0,r0⟩:=trodAll_cons hA;obtain⟨v1,vs1,d1,ds1,p1,q1,rfl,rfl,rfl,h1,r1⟩:=trodAll_cons r0;obtain⟨v2,vs2,d2,ds2,p2,q2,rfl,rfl,rfl,h2,r2⟩:=trodAll_cons r1;obtain⟨rfl,rfl,rfl⟩:=trodAll_nil r2;obtain rfl:args=#[v0,v1,v2]:=by cases args;simp_all
 clear hA0 hval0 hargs;obtain⟨x0,pa,pl,pc,ia,il,ic,x96,pf,nf,rfl,PG,PN⟩:=B08 (hval 0 29 v0 rfl rfl) h0;obtain⟨wa,wl,wc,ra,rl,rc,ws,rfl,WA⟩:=A8f (hval 1 30 v1 rfl rfl) h1;obtain⟨ka,kl,kc,rfl,PK⟩:=A8g (hval 2 31 v2 rfl rfl) h2;exact A0b hz TR PG PN WA PK
theorem A07:Rows.SupplyMinSaid:=
 OpenClaim.holds_of_cond 3 Tryz.f3 rfl rfl rfl rfl rfl rfl rfl ⟨rfl,rfl,rfl,rfl,rfl⟩ rfl rfl rfl rfl rfl (by kernel_rfl) Tryz.func3 OM
  (of_decide_eq_true (by kernel_rfl)) (by unfold Func.isWrapper;first|(rw [if_pos (by decide +kernel)];kernel_rfl)|(rw [if_neg (by decide +kernel)];exact⟨rfl,rfl⟩))
  (λos started H enc _ F=>by rw [OpenClaim.pre_eq_preRow];exact OL os started H enc F)
theorem supplyMin_proved:Rows.SupplyMinCardSaid:=
 Claim7.holds_tied_plain_at .later [] _ _ _ _ A07 (λ_ h=>by cases h) (by kernel_rfl) (λ_ h=>by cases h) supplyMin_row_tie rfl ⟨rfl,rfl⟩ (by kernel_rfl) rfl RF (by kernel_rfl)
#print axioms supplyMin_proved
