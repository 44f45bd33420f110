/- Part of a proof that a law returns true. Conditions: those in each theorem. -/
import Derived.Test.YtdgbechegbmpcaaGreatDoorSV10
import Derived.Test.YtdgbechegbmpcaaGreatDoorQ31
import Derived.Test.YtdgbechegbmpcaaGreatDoorQ21
import Derived.Test.YtdgbechegbmpcaaGreatDoorB0
set_option linter.unusedSimpArgs false
set_option linter.unusedVariables false
set_option maxRecDepth 100000
namespace Go.Proofs.YtdgbechegbmpcaaGreatDoor
open Go Go.Eng Go.Proofs.Tryz
section
variable {k N:Nat}{Q:Fin}{S:AL}{fp:Prt->Nat->Prop}{FR:NP}{W:WD}{V:Wv}{gt:Nat->Value}{nn la ca:Nat->Int}{cpu bw bc br:Nat}{rest:Value}
end
theorem pageR(nx:Int):0<=IntKind.wrap .i64 (Int.tmod (IntKind.wrap .u64 nx) 32):=by
 have h1:0<=IntKind.wrap .u64 nx:=by
  simp only [IntKind.wrap,IntKind.bits,IntKind.signed,Bool.false_and,Bool.false_eq_true,if_false];exact Int.emod_nonneg _ (by decide)
 have h2:0<=Int.tmod (IntKind.wrap .u64 nx) 32:=Int.tmod_nonneg _ h1;have h3:Int.tmod (IntKind.wrap .u64 nx) 32<32:=Int.tmod_lt_of_pos _ (by decide);rw [wi (by omega)];exact h2
section
variable {k N:Nat}{S:AL}{fp:Prt->Nat->Prop}{FR:NP}{W:WD}{V:Wv}{gt:Nat->Value}{nn la ca:Nat->Int}{cpu:Nat}
set_option maxHeartbeats 4000000 in
end
inductive AlR (xs:List Nat) (least:Int):(Nat->Nat)->(Nat->Nat)->Nat->Int->Nat->Prop
 | hit {fr can:Nat->Nat}{sl i:Nat}{xs1 xs2:List Nat}:xs=xs1++i::xs2->(∀t∈xs1,(fr t:Int)<=least)->least<(fr i:Int)->AlR xs least fr can sl i 0
 | no {fr can:Nat->Nat}{sl:Nat}:(∀t∈xs,(fr t:Int)<=least)->(sl=0\/∀t∈xs,can t=0)->AlR xs least fr can sl (-1) 0
 | step {fr can fr' can':Nat->Nat}{sl i g:Nat}{r:Int}{xs1 xs2:List Nat}:(∀t∈xs,(fr t:Int)<=least)->xs=xs1++i::xs2->(∀t∈xs1,can t=0)->0<can i->(∀t∈xs,fr' t=fr t+if t=i then 1 else 0)->(∀t∈xs,can' t+(if t=i then 1 else 0)=can t)->
  AlR xs least fr' can' sl r g->AlR xs least fr can (sl+1) r (g+1)
theorem first_uniq{xs xs1 ys1 xs2 ys2:List Nat}{i j:Nat}{P:NP}(e:xs=xs1++i::xs2)(e':xs=ys1++j::ys2)(h1:∀t∈xs1,¬P t)(h2:P i)(h1':∀t∈ys1,¬P t)(h2':P j):i=j:=by
 subst e;rcases List.append_eq_append_iff.1 e' with⟨a,rfl,h⟩|⟨a,rfl,h⟩
 ·cases a with
  | nil=>simp at h;exact h.1
  | cons y a=>simp at h;obtain⟨rfl,_⟩:=h;exact absurd h2 (h1' _ (by simp))
 ·cases a with
  | nil=>simp at h;exact h.1.symm
  | cons y a=>simp at h;obtain⟨rfl,_⟩:=h;exact absurd h2' (h1 _ (by simp))
theorem AlR.uniq{xs:List Nat}{least:Int}{fr can:Nat->Nat}{sl g:Nat}{r:Int}(h:AlR xs least fr can sl r g):∀{fr2 can2:Nat->Nat}{r2:Int}{g2:Nat},(∀t∈xs,fr2 t=fr t)->(∀t∈xs,can2 t=can t)->AlR xs least fr2 can2 sl r2 g2->r2=r/\g2=g:=by
 induction h with
 | @hit fr can sl i xs1 xs2 e h1 h2=>
  intro fr2 can2 r2 g2 ef ec k
  cases k with
  | @hit _ _ _ j ys1 ys2 e' k1 k2=>
   have hj:=ef j (by rw [e'];simp);have:=first_uniq (P:=fun t=>least<(fr t:Int)) e e' (fun t ht=>by have:=h1 t ht;omega) h2 (fun t ht=>by have:=k1 t ht;rw [ef t (by rw [e'];simp [ht])] at this;omega) (by show least<_;omega);exact⟨by rw [this],rfl⟩
  | no k1 _=>
   have:=k1 i (by rw [e];simp);rw [ef i (by rw [e];simp)] at this;omega
  | step k1 _ _ _ _ _ _=>
   have:=k1 i (by rw [e];simp);rw [ef i (by rw [e];simp)] at this;omega
 | @no fr can sl h1 h2=>
  intro fr2 can2 r2 g2 ef ec k
  cases k with
  | @hit _ _ _ j ys1 ys2 e' k1 k2=>
   have:=h1 j (by rw [e'];simp);rw [ef j (by rw [e'];simp)] at k2;omega
  | no=>exact⟨rfl,rfl⟩
  | @step _ _ _ _ _ j _ _ ys1 ys2 k1 e' k3 k4=>
   rcases h2 with h2|h2
   ·omega
   ·have:=h2 j (by rw [e'];simp);rw [ec j (by rw [e'];simp)] at k4;omega
 | @step fr can fr' can' sl i g r xs1 xs2 h1 e h3 h4 h5 h6 h7 ih=>
  intro fr2 can2 r2 g2 ef ec k
  cases k with
  | @hit _ _ _ j ys1 ys2 e' k1 k2=>
   have:=h1 j (by rw [e'];simp);rw [ef j (by rw [e'];simp)] at k2;omega
  | no k1 k2=>
   rcases k2 with k2|k2
   ·omega
   ·have:=k2 i (by rw [e];simp);rw [ec i (by rw [e];simp)] at this;omega
  | @step _ _ fr3 can3 _ j g3 _ ys1 ys2 k1 e' k3 k4 k5 k6 k7=>
   have hij:i=j:=first_uniq (P:=fun t=>0<can t) e e' (fun t ht=>by have:=h3 t ht;omega) h4 (fun t ht=>by have:=k3 t ht;rw [ec t (by rw [e'];simp [ht])] at this;omega) (by show 0<_;rw [<- ec j (by rw [e'];simp)];exact k4);subst hij;obtain⟨a,b⟩:=ih (fr2:=fr3) (can2:=can3) (fun t ht=>by rw [k5 t ht,h5 t ht,ef t ht]) (fun t ht=>by have a:=k6 t ht;have b:=h6 t ht;have c:=ec t ht;omega) k7;exact⟨a,by rw [b]⟩
structure AlS(W0 W:WD)(bf bc:Nat)(fr can:Nat->Nat):Prop where
 f:own W bf (AK .i64 (fun i=>(fr i:Int)) 0 8)
 c:own W bc (AK .i64 (fun i=>(can i:Int)) 0 8)
 k:Kept (fun y=>y=bf\/y=bc) W0 W
 ne:bf≠bc
section
variable {W0 W W':WD}{bf bc x v:Nat}{fr can:Nat->Nat}
theorem idx0(x:Nat):0+Int.toNat (x:Int)*1=x:=by omega
theorem AlS.rf(h:AlS W0 W bf bc fr can)(hx:x<8):rd W bf (0+Int.toNat (x:Int)*1)=some (vi (fr x))/\wr W bf (0+Int.toNat (x:Int)*1):=by
 rw [idx0];exact⟨by rw [h.f.rd,AT _ _ _ _ _ hx,za],h.f.wr (by rw [AI];exact hx)⟩
theorem AlS.rc(h:AlS W0 W bf bc fr can)(hx:x<8):rd W bc (0+Int.toNat (x:Int)*1)=some (vi (can x))/\wr W bc (0+Int.toNat (x:Int)*1):=by
 rw [idx0];exact⟨by rw [h.c.rd,AT _ _ _ _ _ hx,za],h.c.wr (by rw [AI];exact hx)⟩
theorem run_upd{fr:Nat->Nat}(hx:x<8):(AK .i64 (fun i=>(fr i:Int)) 0 8).set x (vi (v:Nat))=AK .i64 (fun i=>((upd fr x v i:Nat):Int)) 0 8:=by
 rw [GS hx];congr 1;funext i;by_cases e:i=x
 ·subst e;rw [upd_same,upd_same]
 ·rw [AH _ _ e,AH _ _ e]
theorem AlS.pf(h:AlS W0 W bf bc fr can)(hx:x<8)(e:W'=st W bf (0+Int.toNat (x:Int)*1) (vi (v:Nat))):AlS W0 W' bf bc (upd fr x v) can:=by
 rw [idx0] at e;have kk:Kept (·=bf) W W':=kr.s1 e (.inl rfl);have o:=h.f.s1 e;rw [run_upd hx] at o;exact⟨o,h.c.kx kk (Ne.symm h.ne),h.k.trans kk fun y _ e=>.inl e,h.ne⟩
theorem AlS.pc(h:AlS W0 W bf bc fr can)(hx:x<8)(e:W'=st W bc (0+Int.toNat (x:Int)*1) (vi (v:Nat))):AlS W0 W' bf bc fr (upd can x v):=by
 rw [idx0] at e;have kk:Kept (·=bc) W W':=kr.s1 e (.inl rfl);have o:=h.c.s1 e;rw [run_upd hx] at o;exact⟨h.f.kx kk h.ne,o,h.k.trans kk fun y _ e=>.inr e,h.ne⟩
end
structure AlI(xs:List Nat)(least:Int)(fr0 can0:Nat->Nat)(sl0:Nat)(fr can:Nat->Nat)(sl gone:Nat):Prop where
 J:∀r g,AlR xs least fr can sl r g->AlR xs least fr0 can0 sl0 r (gone+g)
 s:gone+sl=sl0
 bf:∀t,fr t<=100000+gone
 bc:∀t,can t<=100000
theorem al_inner{W0 W:WD}{bf bc x sl gone:Nat}{least:Int}{xs xs1 xs2:List Nat}{fr can fr0 can0:Nat->Nat}{sl0:Nat}{K1:Int->WD->Prop}{R:Int->Int->WD->Prop}
 (hx:x<8) (e:xs=xs1++x::xs2) (nd:xs.Nodup) (h100:sl0<=100000) (S:AlS W0 W bf bc fr can) (h1:∀t∈xs,(fr t:Int)<=least) (h2:sl=0\/∀t∈xs1,can t=0) (J:AlI xs least fr0 can0 sl0 fr can sl gone)
 (H1:∀(W':WD) (fr' can':Nat->Nat) (gone':Nat),AlS W0 W' bf bc fr' can'->AlR xs least fr0 can0 sl0 x gone'->K1 gone' W')
 (H2:∀(W':WD) (fr' can':Nat->Nat) (sl' gone':Nat),AlS W0 W' bf bc fr' can'->(∀t∈xs,(fr' t:Int)<=least)->(sl'=0\/∀t∈xs1++[x],can' t=0)->AlI xs least fr0 can0 sl0 fr' can' sl' gone'->R sl' gone' W') :
 ∃(I_1:Int->Int->WD->Nat->Prop),(∃n9,I_1 sl gone W n9)/\∀(n n_9:Int) (w4:WD) (n_10:Nat),I_1 n n_9 w4 n_10->
  Wif (inB x 8) (∃(x_1:Int),rd w4 bc (0+Int.toNat x*1)=some (vi x_1)/\gIf (inB x 8) ((decide (x_1>0)&&decide (n>0))=true) (∃(x_2:Int),((decide (x_1>0)&&decide (n>0))=true->rd w4 bf (0+Int.toNat x*1)=some (vi x_2))/\
   Wif (decide (x_1>0)&&decide (n>0)&&decide (x_2<=least)) (Wif (inB x 8) (∃(x_3:Int),rd w4 bc (0+Int.toNat x*1)=some (vi x_3)/\Wif (inB x 8) (wr w4 bc (0+Int.toNat x*1)/\∀(w5:WD),w5=st w4 bc (0+Int.toNat x*1) (vi (IntKind.wrap .i64 (x_3-1)))->
    Wif (inB x 8) (∃(x_4:Int),rd w5 bf (0+Int.toNat x*1)=some (vi x_4)/\Wif (inB x 8) (wr w5 bf (0+Int.toNat x*1)/\∀(w':WD),w'=st w5 bf (0+Int.toNat x*1) (vi (IntKind.wrap .i64 (x_4+1)))->∃(m:Nat),Nat.succ m<=n_10/\I_1 (IntKind.wrap .i64 (n-1)) (IntKind.wrap .i64 (n_9+1)) w' m) False) False) False) False)
   (Wif (inB x 8) (∃(x_3:Int),rd w4 bf (0+Int.toNat x*1)=some (vi x_3)/\Wif (decide (x_3>least)) (K1 n_9 w4) (R n n_9 w4)) False))) False:=by
 have hxm:x∈xs:=by rw [e];simp
 have hx1:x∉xs1:=by
  rw [e] at nd;have:=(List.nodup_append.1 nd).2.2;exact fun h=>this x h x (by simp) rfl
 refine⟨fun n g W' m=>∃(fr' can':Nat->Nat) (sl' gone':Nat),n=sl'/\g=gone'/\m=can' x/\AlS W0 W' bf bc fr' can'/\(∀t∈xs,t≠x->(fr' t:Int)<=least)/\(sl'=0\/∀t∈xs1,can' t=0)/\AlI xs least fr0 can0 sl0 fr' can' sl' gone',
  ⟨_,fr,can,sl,gone,rfl,rfl,rfl,S,fun t ht _=>h1 t ht,h2,J⟩,?_⟩
 rintro _ _ W1 _ ⟨fr1,can1,sl1,g1,rfl,rfl,rfl,S1,f1,c1,J1x⟩;have hin:inB (x:Int) 8=true:=DL;have hb1:=J1x.bf x;have hb2:=J1x.bc x;have hs:=J1x.s;refine AA hin ⟨_,(S1.rc hx).1,AF (fun _=>hin) ⟨_,fun _=>(S1.rf hx).1,AE (fun hc=>?_) (fun hc=>?_)⟩⟩
 ·simp only [Bool.and_eq_true,decide_eq_true_eq] at hc;obtain⟨⟨hc1,hc2⟩,hc3⟩:=hc;have ea:IntKind.wrap .i64 ((can1 x:Int)-1)=((can1 x-1:Nat):Int):=by rw [wi (by omega)];omega
  have eb:IntKind.wrap .i64 ((fr1 x:Int)+1)=((fr1 x+1:Nat):Int):=by rw [wi (by omega)];omega
  have ec:IntKind.wrap .i64 ((sl1:Int)-1)=((sl1-1:Nat):Int):=by rw [wi (by omega)];omega
  have ed:IntKind.wrap .i64 ((g1:Int)+1)=((g1+1:Nat):Int):=by rw [wi (by omega)];omega
  refine AA hin ⟨_,(S1.rc hx).1,AA hin ⟨(S1.rc hx).2,fun W2 e2=>?_⟩⟩;rw [ea] at e2;have S2:=S1.pc hx e2;refine AA hin ⟨_,(S2.rf hx).1,AA hin ⟨(S2.rf hx).2,fun W3 e3=>?_⟩⟩;rw [eb] at e3;have S3:=S2.pf hx e3;have hall:∀t∈xs,(fr1 t:Int)<=least:=fun t ht=>by
   by_cases e:t=x
   ·subst e;exact hc3
   ·exact f1 t ht e
  refine⟨can1 x-1,by omega,_,_,sl1-1,g1+1,ec,ed,(upd_same _ _ _).symm,S3,fun t ht hne=>?_,.inr fun t ht=>?_,?_,by omega,fun t=>?_,fun t=>?_⟩
  ·rw [AH _ _ hne];exact f1 t ht hne
  ·rw [AH _ _ (show t≠x from fun e=>hx1 (e▸ht))];exact(c1.resolve_left (by omega)) t ht
  ·intro r g hr
   have:AlR xs least fr1 can1 (sl1-1+1) r (g+1):=AlR.step hall e (c1.resolve_left (by omega)) (by omega) (fun t ht=>by
    by_cases e:t=x
    ·subst e;rw [upd_same,if_pos rfl]
    ·rw [AH _ _ e,if_neg e,Nat.add_zero]) (fun t ht=>by
    by_cases e:t=x
    ·subst e;rw [upd_same,if_pos rfl];omega
    ·rw [AH _ _ e,if_neg e,Nat.add_zero]) hr
   rw [show sl1-1+1=sl1 by omega] at this;have:=J1x.J _ _ this;rw [show g1+1+g=g1+(g+1) by omega];exact this
  ·by_cases e:t=x
   ·subst e;rw [upd_same];omega
   ·rw [AH _ _ e];have:=J1x.bf t;omega
  ·by_cases e:t=x
   ·subst e;rw [upd_same];omega
   ·rw [AH _ _ e];exact J1x.bc t
 ·refine AA hin ⟨_,(S1.rf hx).1,AE (fun h=>?_) (fun h=>?_)⟩
  ·have h:least<(fr1 x:Int):=by simpa using h
   refine H1 W1 fr1 can1 g1 S1 ?_;have:=J1x.J _ _ (AlR.hit (sl:=sl1) (can:=can1) e (fun t ht=>f1 t (by rw [e];simp [ht]) fun e=>hx1 (e▸ht)) h);exact this
  ·have h:(fr1 x:Int)<=least:=by simpa using h
   refine H2 W1 fr1 can1 sl1 g1 S1 (fun t ht=>?_) ?_ J1x
   ·by_cases e:t=x
    ·subst e;exact h
    ·exact f1 t ht e
   ·rcases c1 with c1|c1
    ·exact .inl c1
    ·by_cases h0:sl1=0
     ·exact .inl h0
     ·refine .inr fun t ht=>?_;rcases List.mem_append.1 ht with ht|ht
      ·exact c1 t ht
      ·have:t=x:=by simpa using ht
       subst this;have hcc:¬((0<can1 t/\0<sl1)/\(fr1 t:Int)<=least):=by simpa using hc
       by_cases e:can1 t=0
       ·exact e
       ·exact absurd ⟨⟨by omega,by omega⟩,h⟩ hcc
theorem alone_spec {w:WD}{a:OA}{c:Nat}{xs:List Nat}{fr0 can0:Nat->Nat}{least:Int}{sl0:Nat} (PN:CL w a xs.length (fun i=>((xs.getD i 0:Nat):Int))) (hc:xs.length<=c) (nd:xs.Nodup) (h8:∀x∈xs,x<8) (hlen:xs.length<=8) (h100:sl0<=100000) (hf:∀t,fr0 t<=100000) (hcn:∀t,can0 t<=100000) :
    Calls prog 19 #[.slice a xs.length c,.agg (AK .i64 (fun i=>(fr0 i:Int)) 0 8).toArray,.agg (AK .i64 (fun i=>(can0 i:Int)) 0 8).toArray,vi least,vi sl0] w fun e w'=>∃(r:Int) (g:Nat),e=.returned (.tuple #[vi r,vi g])/\Kept AB w w'/\AlR xs least fr0 can0 sl0 r g:=by
  refine(vc19 a xs.length c _ _ least sl0 w (fun v w'=>∃(r:Int) (g:Nat),v=.tuple #[vi r,vi g]/\Kept AB w w'/\AlR xs least fr0 can0 sl0 r g) ?_).mono ?_
  rotate_left
  · rintro e w' ⟨v,rfl,r,g,rfl,h⟩
    exact⟨r,g,rfl,h⟩
  unfold Q;intro w1 e1 w2 e2;have o1:own w1 w.heap.size (AK .i64 (fun i=>(fr0 i:Int)) 0 8):=AD e1;have k1:=kal e1;have o2:own w2 w1.heap.size (AK .i64 (fun i=>(can0 i:Int)) 0 8):=AD e2;have k2:=kal e2;have s1:=o1.lt;have s2:=k1.sz;have S2:AlS w2 w2 w.heap.size w1.heap.size fr0 can0:=⟨o1.k k2,o2,Kept.refl _ _,by omega⟩;have far:∀{W:WD}{fr can:Nat->Nat},AlS w2 W w.heap.size w1.heap.size fr can->Kept AB w W:=fun S=>BD (k1.tr k2) S.k fun y e=>by omega
  have P2:∀{W:WD}{fr can:Nat->Nat},AlS w2 W w.heap.size w1.heap.size fr can->CL W a xs.length (fun i=>((xs.getD i 0:Nat):Int)):=fun S=>PN.k (far S);have rx:∀{W:WD}{fr can:Nat->Nat}{q:Nat},AlS w2 W w.heap.size w1.heap.size fr can->q<xs.length->isP a=true/\rd W (pb a) (po a+Int.toNat (q:Int)*1)=some (vi ((xs.getD q 0:Nat):Int)):=fun {W fr can q} S hq=>⟨((P2 S).p (by omega)).1,by rw [tnc,mo];exact(P2 S).at' q hq⟩;have hmem:∀{q:Nat},q<xs.length->xs.getD q 0∈xs/\xs=xs.take q++xs.getD q 0::xs.drop (q+1):=fun {q} hq=>by
    rw [List.getD_eq_getElem?_getD,geg hq];refine⟨List.getElem_mem hq,?_⟩
    show xs=xs.take q++xs[q]::xs.drop (q+1)
    rw [<- List.drop_eq_getElem_cons hq,List.take_append_drop]
  refine⟨fun _ _ n W m=>∃q:Nat,n=q/\q<=xs.length/\m=xs.length-q/\w2=W/\∀t∈xs.take q,(fr0 t:Int)<=least,⟨_,0,rfl,Nat.zero_le _,rfl,rfl,fun t ht=>by simp at ht⟩,?_⟩;rintro n n1 _ W _ ⟨q,rfl,hq,rfl,rfl,hl⟩;refine AE (fun hc'=>?_) (fun hc'=>?_)
  · have hq' : q<xs.length := by have : (q : Int)<(xs.length : Int) :=(by simpa using hc');omega
    obtain⟨hm,hs⟩:=hmem hq';have h8':=h8 _ hm;generalize hy:xs.getD q 0=y at *;have hin:inB (y:Int) 8=true:=DL;have hqi:inB (q:Int) xs.length=true:=DL;have r:=rx S2 hq';rw [hy] at r;refine AA r.1 (AA hqi ⟨_,r.2,AA hin ⟨_,(S2.rf h8').1,AE (fun h=>?_) (fun h=>?_)⟩⟩)
    · have h:least<(fr0 y:Int):=by simpa using h
      exact AA r.1 (AA hqi ⟨_,r.2,y,0,rfl,far S2,AlR.hit hs hl h⟩)
    · have h:(fr0 y:Int)<=least:=by simpa using h
      refine⟨xs.length-(q+1),by omega,q+1,by rw [wi (by omega)];omega,by omega,rfl,rfl,fun t ht=>?_⟩;rw [List.take_add_one,List.mem_append] at ht;rcases ht with ht|ht
      · exact hl t ht
      · rw [geg hq'] at ht
        rw [List.getD_eq_getElem?_getD,geg hq'] at hy;have hy:xs[q]=y:=hy;have:t=y:=by rw [<- hy];simpa using ht
        rw [this];exact h
  · have hq' : q = xs.length := by have : ¬ ((q : Int)<(xs.length : Int)) :=(by simpa using hc');omega
    subst hq';rw [List.take_length] at hl;clear hc';have J0x:AlI xs least fr0 can0 sl0 fr0 can0 sl0 0:=⟨fun r g h=>by rw [za];exact h,za _,fun t=>by have:=hf t;omega,hcn⟩;refine⟨fun n _ _ g j W m=>∃(q sl gone:Nat) (fr can:Nat->Nat),n=sl/\g=gone/\j=q/\q<=xs.length/\m=xs.length-q/\AlS w2 W w.heap.size w1.heap.size fr can/\(∀t∈xs,(fr t:Int)<=least)/\(sl=0\/∀t∈xs.take q,can t=0)/\AlI xs least fr0 can0 sl0 fr can sl gone,
      ⟨_,0,sl0,0,fr0,can0,rfl,rfl,rfl,Nat.zero_le _,rfl,S2,hl,.inr fun t ht=>by simp at ht,J0x⟩,?_⟩
    rintro _ n4 n5 _ _ W3 _ ⟨q,sl,gone,fr,can,rfl,rfl,rfl,hq,rfl,S3,f3,c3,J3x⟩;refine AE (fun hc'=>?_) (fun hc'=>?_)
    · have hq' : q<xs.length := by have : (q : Int)<(xs.length : Int) :=(by simpa using hc');omega
      obtain⟨hm,hs⟩:=hmem hq';have h8':=h8 _ hm;have r:=rx S3 hq';have PN3:=P2 S3;have hnx:∀i,i<q->((xs.getD i 0:Nat):Int)≠((xs.getD q 0:Nat):Int):=fun i hi e=>by
        rw [List.getD_eq_getElem?_getD,List.getD_eq_getElem?_getD,geg hq',geg (by omega)] at e;have e2:xs[i]=xs[q]:=by
          have e':((xs[i]:Nat):Int)=((xs[q]:Nat):Int):=e;omega
        exact(List.pairwise_iff_getElem.1 (List.nodup_iff_pairwise_ne.1 nd)) i q _ _ hi e2
      have htk:xs.take (q+1)=xs.take q++[xs.getD q 0]:=by
        rw [List.take_add_one,geg hq',List.getD_eq_getElem?_getD,geg hq']
        rfl
      generalize hy:xs.getD q 0=y at *;have hqi:inB (q:Int) xs.length=true:=DL;have inner:∀{W4:WD},AlS w2 W4 w.heap.size w1.heap.size fr can->_:=fun {W4} S4=>al_inner (K1:=fun g W=>∃(r:Int) (g':Nat),Value.tuple #[vi (y:Int),vi g]=.tuple #[vi r,vi g']/\Kept AB w W/\AlR xs least fr0 can0 sl0 r g')
        (R:=fun n g W=>∃(m:Nat),Nat.succ m<=xs.length-q/\∃(q' sl gone:Nat) (fr can:Nat->Nat),n=sl/\g=gone/\(IntKind.wrap .i64 ((q:Int)+1))=(q':Nat)/\q'<=xs.length/\m=xs.length-q'/\AlS w2 W w.heap.size w1.heap.size fr can/\(∀t∈xs,(fr t:Int)<=least)/\(sl=0\/∀t∈xs.take q',can t=0)/\AlI xs least fr0 can0 sl0 fr can sl gone)
        h8' hs nd h100 S4 f3 c3 J3x (fun W' fr' can' gone' S' h=>⟨y,gone',rfl,far S',h⟩) fun W' fr' can' sl' gone' S' h1 h2 J'=>⟨xs.length-(q+1),by omega,q+1,sl',gone',fr',can',rfl,rfl,by rw [wi (by omega)];omega,by omega,rfl,S',h1,by rw [htk];exact h2,J'⟩
      refine AA r.1 (AA hqi ⟨_,r.2,AF (fun _=>BI (by omega) (by omega) (by omega)) (AE (fun h0=>?_) (fun h0=>?_))⟩)
      · have PQx:CL W3 a q (fun i=>((xs.getD i 0:Nat):Int)):=⟨fun h=>PN3.p (by omega),fun i hi=>PN3.at' i (by omega)⟩
        have hh:=nums_has (c:=c) PQx (by omega) (y:Int);rw [show decide (∃i,i<q/\((xs.getD i 0:Nat):Int)=(y:Int))=false from decide_eq_false fun⟨i,hi,e⟩=>hnx i hi e] at hh;rw [tnc];refine hh.mono ?_;rintro _ W4 ⟨rfl,rfl⟩;exact⟨false,rfl,AG rfl (inner S3)⟩
      · exact inner S3
    · have hq' : q = xs.length := by have : ¬ ((q : Int)<(xs.length : Int)) :=(by simpa using hc');omega
      subst hq';rw [List.take_length] at c3;refine⟨-1,gone,rfl,far S3,?_⟩;have:=J3x.J _ _ (AlR.no f3 c3);exact this
def goB(c:Nat->Int)(pg:Nat->Pg)(pin:Nat->Bool)(i j:Nat):Bool:=match pg j with
 | .fr f=>!pin j&&decide (AN c i<=(f:Int))&&decide ((f:Int)<AN c (i+1))
 | _=>false
def QP(c:Nat->Int)(pg:Nat->Pg)(pin:Nat->Bool)(i:Nat):Nat:=((List.range 32).filter fun j=>goB c pg pin i j).length
section
variable {S S':AL}{pg pg':Nat->Pg}{pin:Nat->Bool}{i:Nat}
theorem B5{c:Nat->Int}{j:Nat}:goB c pg pin i j=true↔∃f,pg j=.fr f/\pin j=false/\AN c i<=f/\(f:Int)<AN c (i+1):=by
 unfold goB
 cases h:pg j with
 | no=>exact⟨(fun e=>by cases e),fun⟨f,e,_⟩=>by cases e⟩
 | sl s=>exact⟨(fun e=>by cases e),fun⟨f,e,_⟩=>by cases e⟩
 | fr g=>
  simp only [Bool.and_eq_true,Bool.not_eq_true',decide_eq_true_eq];exact⟨fun⟨⟨a,b⟩,c⟩=>⟨g,rfl,a,b,c⟩,fun⟨f,e,a,b,c⟩=>by cases e;exact⟨⟨a,b⟩,c⟩⟩
theorem canN_0(hp:∀p f,pg p=.fr f->p<32):QP S.c pg pin i=0↔NoGo S pg pin i:=by
 unfold QP;rw [List.length_eq_zero_iff,List.filter_eq_nil_iff];constructor
 ·intro h p f h1 h2 h3
  cases e:pin p with
  | true=>rfl
  | false=>exact absurd (B5.2 ⟨f,h1,e,h2,h3⟩) (h p (List.mem_range.2 (hp p f h1)))
 ·intro h j hj e;obtain⟨f,h1,h2,h3,h4⟩:=B5.1 e;have:=h j f h1 h3 h4;rw [h2] at this
  cases this
theorem canN_gone{p f s n t:Nat}(my:CW S.c)(hp:pg p=.fr f)(hp32:p<32)(hpin:pin p=false)(hi:i<(S.c 0).toNat)(ht:t<(S.c 0).toNat)(h1:AN S.c i<=f)(h2:(f:Int)<AN S.c (i+1)):QP S.c (upd pg p (.sl s)) pin t+(if t=i then 1 else 0)=QP S.c pg pin t:=by
 have hc:=OL (q:=fun j=>goB S.c pg pin t j) (q':=fun j=>goB S.c (upd pg p (.sl s)) pin t j) (p:=p) (n:=32) (fun j hj=>by show goB _ (upd pg p _) _ _ _=_;unfold goB;rw [AH _ _ hj]) hp32;have q2:goB S.c (upd pg p (.sl s)) pin t p=false:=by unfold goB;rw [upd_same]
 have q1:goB S.c pg pin t p=decide (t=i):=by
  by_cases e:t=i
  ·subst e;rw [decide_eq_true rfl];exact B5.2 ⟨f,hp,hpin,h1,h2⟩
  ·rw [decide_eq_false e]
   cases e2:goB S.c pg pin t p with
   | false=>rfl
   | true=>
    obtain⟨g,a,_,b,c⟩:=B5.1 e2;rw [hp] at a
    cases a
    exact absurd (CH my (f:=(f:Int)) ht hi b c h1 h2) e
 simp only [q1,q2,Bool.false_eq_true,if_false,Nat.add_zero,decide_eq_true_eq] at hc;unfold QP;omega
end
theorem JB.al{Z:Fx}{xs:List Nat}{S S':AL}{pg pg':Nat->Pg}{cnt cnt':Nat}(h:JB Z xs S pg cnt S' pg' cnt'):CW S.c->(∀x∈xs,x<(S.c 0).toNat)->(∀p f,pg p=.fr f->p<32)->
 (∀p f,pg' p=.fr f->p<32)/\∃g,cnt'+g=cnt/\∀sl r g',AlR xs (S.c 91) (fun t=>AX (S'.L t)) (QP S.c pg' Z.pin) sl r g'->AlR xs (S.c 91) (fun t=>AX (S.L t)) (QP S.c pg Z.pin) (sl+g) r (g'+g):=by
 induction h with
 | refl=>intro my hx hp;exact⟨hp,0,rfl,fun sl r g' h=>h⟩
 | turn T _ ih=>
  obtain⟨r,o,rfl⟩:=T;exact ih
 | @step S S1 S2 pg pg2 cnt cnt2 i p f s xs1 xs2 h1 e h3 h4 h5 h6 h7 h8 h9 h10 W _ ih=>
  intro my hx hp;have hp':∀p' f',upd pg p (.sl s) p'=.fr f'->p'<32:=fun p' f' e=>by
   by_cases e2:p'=p
   ·subst e2;rw [upd_same] at e;cases e
   ·rw [AH _ _ e2] at e;exact hp p' f' e
  have ec:=W.c;rw [ec] at ih;obtain⟨a,g,hg,ih⟩:=ih my hx hp';have hi:i<(S.c 0).toNat:=hx i (by rw [e];simp);refine⟨a,g+1,by omega,fun sl r g' hr=>?_⟩;have hgo:QP S.c pg Z.pin i≠0:=fun e0=>by
   have:=(canN_0 (S:=S) hp).1 e0 p f h4 h6 h7;rw [h5] at this
   cases this
  refine AlR.step h1 e (fun t ht=>(canN_0 hp).2 (h3 t ht)) (by omega) (fun t ht=>?_) (fun t ht=>?_) (ih sl r g' hr)
  ·exact W.L t (hx t ht)
  ·exact canN_gone (n:=0) my h4 (hp p f h4) h5 hi (hx t ht) h6 h7
theorem owns_full{n:Nat}{of:Nat->Int×Int}(h:∀s,s<n->(of s).1≠0):(owns n of).length=n:=by
 unfold owns;rw [lmp,List.filter_eq_self.2 fun s hs=>by simpa using h s (List.mem_range.1 hs),List.length_range]
theorem owns_lt{n s:Nat}{of:Nat->Int×Int}(hs:s<n)(h:(of s).1=0):(owns n of).length<n:=by
 have:((List.range n).filter fun i=>(of i).1 != 0).length<(List.range n).length:=List.length_filter_lt_length_iff_exists.2 ⟨s,List.mem_range.2 hs,by simp [h]⟩;unfold owns;rw [lmp];rw [List.length_range] at this;exact this
section
variable {w:WD}{k:Nat}{S S':AL}{fp:Prt->Nat->Prop}{pg pg':Nat->Pg}{cnt cnt':Nat}{xs:List Nat}{Z:Fx}{la:Nat->Int}{cpu:Nat}{hd:Option Nat}
theorem QSt.noslot{rt lf hc tot:Nat}{pin:Nat->Bool}{A:List Nat}(L:QSt S rt lf pg pin A hc hd cnt tot):tot<=S.AP+cnt/\(HC S↔S.AP+cnt=tot):=by
 have h:=L.cu;have hle:(owns S.AP S.sof).length<=S.AP:=owns_len _ _;refine⟨by omega,fun hn=>?_,fun e s hs e0=>?_⟩
 ·have:(owns S.AP S.sof).length=S.AP:=owns_full fun s hs=>by
   rcases L.so s hs with h|⟨j,hj⟩
   ·exact absurd h (hn s hs)
   ·rw [(L.pgs j s hj).2.2];show(1:Int)≠0;decide
  omega
 ·have:(owns S.AP S.sof).length<S.AP:=owns_lt hs (by rw [e0]);omega
theorem had_alone{rt lf hc:Nat}{A:List Nat}{pin:Nat->Bool}(C:AJ w k S fp)(hx:∀x∈xs,x<S.nodes)(L:Z.St S pg cnt)(L':QSt S' rt lf pg' pin A hc hd cnt' Z.tot)(H:Had Z xs S pg cnt S' pg' cnt' la cpu hd) :
 ∃g,cnt'+g=cnt/\AlR xs (S.c 91) (fun t=>AX (S.L t)) (QP S.c pg Z.pin) (S.AP+cnt-Z.tot) (la cpu) g:=by
 have hp:∀p f,pg p=.fr f->p<32:=fun p f e=>(L.pgo p f e).1;obtain⟨h1,h2⟩:=L'.noslot;rcases H with⟨_,hla,G,hf,hor⟩|⟨f,i,S1,l',xs1,xs2,_,hla,G,e,hf,hi,rfl⟩
 ·have ec:=G.c;obtain⟨hp',g,hg,hA⟩:=G.al C.my hx hp;have es:S'.AP=S.AP:=by unfold AL.AP;rw [ec]
  rw [ec] at hf;refine⟨g,hg,?_⟩;rw [hla];have:=hA (S'.AP+cnt'-Z.tot) (-1) 0 (AlR.no hf ?_)
  ·rw [za,es,show S.AP+cnt'-Z.tot+g=S.AP+cnt-Z.tot by omega] at this;exact this
  ·rcases hor with hor|hor
   ·left;have:=h2.1 hor;omega
   ·exact .inr fun t ht=>by rw [<- ec];exact(canN_0 hp').2 (hor t ht)
 ·have ec:=G.c;obtain⟨hp',g,hg,hA⟩:=G.al C.my hx hp;have es:(S1.taken cpu i f l' 4).AP=S.AP:=by show S1.AP=_;unfold AL.AP;rw [ec]
  rw [ec] at hf hi;refine⟨g,hg,?_⟩;rw [hla];have:=hA (S.AP+cnt'-Z.tot) i 0 (AlR.hit e hf hi);rw [za,show S.AP+cnt'-Z.tot+g=S.AP+cnt-Z.tot by omega] at this;exact this
end
section
variable {w w' W:WD}{k:Nat}{S:AL}{fp:Prt->Nat->Prop}{FR:NP}
def rndV(bl bk bn be bc br:Nat):Value:=.func (.func 189) #[] #[ptr bl,ptr bk,ptr bn,ptr be,ptr bc,ptr br]
structure SwB(W:WD)(FR:NP)(k cpu node bl bk bn be bc br bd:Nat)(left:Nat):Prop where
 l:own W bl [vi left]
 k:rd W bk 0=some (ptr k)
 n:rd W bn 0=some (vi node)
 e:rd W be 0=some (.func (.func 114) #[] #[ptr bd])
 c:rd W bc 0=some (vi cpu)
 r:rd W br 0=some (rndV bl bk bn be bc br)
 d:own W bd [.bool false]
 inF:FR bl/\FR bk/\FR bn/\FR be/\FR bc/\FR br/\FR bd
 ne:bk≠bl/\bn≠bl/\be≠bl/\bc≠bl/\br≠bl/\bd≠bl
variable {cpu node bl bk bn be bc br bd left:Nat}
structure SwR(S0:AL)(pg0:Nat->Pg)(node:Nat)(S:AL)(pg:Nat->Pg):Prop where
 c:S.c=S0.c
 pgs:∀p f,pg0 p=.fr f->pg p=.fr f\/((∃s,pg p=.sl s)/\AN S0.c node<=f/\(f:Int)<AN S0.c (node+1))
 no:∀j,pg j=.no↔pg0 j=.no
variable {Q:Fin}{Z:Fx}{S0:AL}{pg0 pg:Nat->Pg}{cnt:Nat}{FR0:NP}{W0:WD}
end
section
variable {k N:Nat}{S:AL}{fp:Prt->Nat->Prop}{FR:NP}{W:WD}{V:Wv}{gt:Nat->Value}{nn la ca:Nat->Int}{cpu:Nat}
set_option maxHeartbeats 8000000 in
end
def B4(S:AL)(pg:Nat->Pg)(pin:Nat->Bool)(pf:Nat->Int)(q t:Nat):Nat:=if t<S.nodes then((List.range 32).filter fun j:Nat=>decide (∃i,i<q/\pf i=(j:Int))&&goB S.c pg pin t j).length else 0
section
variable {S:AL}{pg:Nat->Pg}{pin:Nat->Bool}{pf:Nat->Int}{q t p f i pl:Nat}
theorem canQ_le:B4 S pg pin pf q t<=32:=by
 unfold B4;split
 ·exact Nat.le_trans (List.length_filter_le _ _) (by simp)
 ·omega
theorem canQ_0:B4 S pg pin pf 0=fun _=>0:=by
 funext t;unfold B4;split
 ·rw [List.length_eq_zero_iff,List.filter_eq_nil_iff];intro j _ h;rw [Bool.and_eq_true,decide_eq_true_eq] at h;obtain⟨⟨i,hi,_⟩,_⟩:=h;omega
 ·rfl
theorem canQ_end(hg:∀j f,pg j=.fr f->∃i,i<pl/\pf i=(j:Int))(ht:t<S.nodes):B4 S pg pin pf pl t=QP S.c pg pin t:=by
 unfold B4 QP;rw [if_pos ht];congr 1;refine List.filter_congr fun j _=>?_
 cases e:goB S.c pg pin t j with
 | false=>simp
 | true=>
  obtain⟨f,h,_⟩:=B5.1 e;simp [hg j f h]
theorem done_ne{j:Nat}(hp:pf q=(p:Int))(hj:j≠p):decide (∃i,i<q+1/\pf i=(j:Int))=decide (∃i,i<q/\pf i=(j:Int)):=by
 rw [decide_eq_decide];constructor
 ·rintro ⟨i,hi,e⟩;refine⟨i,?_,e⟩;by_cases h:i=q
  ·subst h;rw [hp] at e;omega
  ·omega
 ·rintro ⟨i,hi,e⟩;exact⟨i,by omega,e⟩
theorem canQ_pin(hp:pf q=(p:Int))(hpin:pin p=true):B4 S pg pin pf (q+1)=B4 S pg pin pf q:=by
 funext t;unfold B4;split
 ·congr 1;refine List.filter_congr fun j _=>?_;by_cases e:j=p
  ·subst e;have:goB S.c pg pin t j=false:=by
    cases h:goB S.c pg pin t j with
    | false=>rfl
    | true=>
     obtain⟨_,_,h2,_⟩:=B5.1 h;rw [hpin] at h2
     cases h2
   rw [this,Bool.and_false,Bool.and_false]
  ·rw [done_ne hp e]
 ·rfl
theorem canQ_add(my:CW S.c)(hp:pf q=(p:Int))(hp32:p<32)(hinj:∀i,i<q->pf i≠(p:Int))(hpg:pg p=.fr f)(hpin:pin p=false)(hi:i<S.nodes)(h1:AN S.c i<=f)(h2:(f:Int)<AN S.c (i+1)):B4 S pg pin pf (q+1)=upd (B4 S pg pin pf q) i (B4 S pg pin pf q i+1):=by
 funext t;have hc:=OL (q:=fun j:Nat=>decide (∃i,i<q/\pf i=(j:Int))&&goB S.c pg pin t j) (q':=fun j:Nat=>decide (∃i,i<q+1/\pf i=(j:Int))&&goB S.c pg pin t j) (p:=p) (n:=32) (fun j hj=>by show(decide _&&_)=(decide _&&_);rw [done_ne hp hj]) hp32;have a1:decide (∃i,i<q/\pf i=(p:Int))=false:=decide_eq_false fun⟨i,hi,e⟩=>hinj i hi e;have a2:decide (∃i,i<q+1/\pf i=(p:Int))=true:=decide_eq_true ⟨q,by omega,hp⟩;simp only [a1,a2,Bool.false_and,Bool.true_and,Bool.false_eq_true,if_false,Nat.add_zero] at hc;by_cases ht:t<S.nodes
 ·have a3:goB S.c pg pin t p=decide (t=i):=by
   by_cases e:t=i
   ·subst e;rw [decide_eq_true rfl];exact B5.2 ⟨f,hpg,hpin,h1,h2⟩
   ·rw [decide_eq_false e]
    cases e2:goB S.c pg pin t p with
    | false=>rfl
    | true=>
     obtain⟨g,a,_,b,c⟩:=B5.1 e2;rw [hpg] at a
     cases a
     exact absurd (CH my (f:=(f:Int)) ht hi b c h1 h2) e
  rw [a3] at hc;by_cases e:t=i
  ·subst e;rw [upd_same];unfold B4;rw [if_pos ht,if_pos ht];simp only [decide_true,if_true] at hc;exact hc
  ·rw [AH _ _ e];unfold B4;rw [if_pos ht,if_pos ht];simp only [e,decide_false,Bool.false_eq_true,if_false,Nat.add_zero] at hc;exact hc
 ·rw [AH _ _ (by omega)];unfold B4;rw [if_neg ht,if_neg ht]
end
def D3(S:AL)(q t:Nat):Nat:=if t<q then AX (S.L t) else 0
theorem freeQ_add{S:AL}{q:Nat}:upd (D3 S q) q (AX (S.L q))=D3 S (q+1):=by
 funext t;unfold D3;by_cases e:t=q
 ·subst e;rw [upd_same,if_pos (by omega)]
 ·rw [AH _ _ e];by_cases h:t<q
  ·rw [if_pos h,if_pos (by omega)]
  ·rw [if_neg h,if_neg (by omega)]
theorem freeQ_le{w:WD}{k:Nat}{S:AL}{fp:Prt->Nat->Prop}(h:AJ w k S fp){q:Nat}(hq:q<=S.nodes)(t:Nat):D3 S q t<=128:=by
 unfold D3;split
 ·have ht:=h.HF (i:=t) (by omega);have hf:=h.fst (i:=t) (by omega);have key:∀(l:List Bk) (a b:Nat),CQ a l b->a+AX l<=b:=fun l=>by
   induction l with
   | nil=>intro a b h;have:a=b:=h;simp [AX];omega
   | cons x l ih2=>
    intro a b h;have:=ih2 _ _ h.2.2.2;have:=p2 x.o;rw [D8];split <;> omega
  have:=key _ _ _ ht;omega
 ·omega
end Go.Proofs.YtdgbechegbmpcaaGreatDoor
namespace Go.Proofs.YtdgbechegbmpcaaGreatDoor
open Go Go.Eng Go.Proofs.Tryz
open Go.Value (bool func)
open Option (isNone)
open Go.IntKind (wrap)
theorem vc4(x0:Nat->Int)(x94:OA)(x94L x94C:Nat)(x95:OA)(x95L x95C:Nat)(x96:Nat->Int)(cpu page:Int)(w:WD)(K:KV)(h:Q (AW w (List.toArray (AK .i64 x0 0 94++([sl x94 x94L x94C,sl x95 x95L x95C]++AK .i64 x96 0 8))) 29 fun w'=>∃(x:Nat->Int) (a3:OA) (a4 a5:Nat) (a6:OA) (a7 a8:Nat) (a9:Nat->Int),AS w' w.heap.size 0 (AK .i64 x 0 94++([sl a3 a4 a5,sl a6 a7 a8]++AK .i64 a9 0 8))/\CB 8 #[Value.agg (List.toArray (AK .i64 x 0 94++([sl a3 a4 a5,sl a6 a7 a8]++AK .i64 a9 0 8)))] w' fun b w'=>∃(x:Int),((!b||decide (cpu<0))=false->rd w' w.heap.size 1=some (.int .i64 x))/\Wif (!b||decide (cpu<0)||decide (cpu>=x)) (CB 9 #[] w' fun b w'=>K (.bool b) w') (∃(x:Nat->Int) (b0:OA) (b1 S:Nat) (T:OA) (U V:Nat) (X:Nat->Int),AS w' w.heap.size 0 (AK .i64 x 0 94++([sl b0 b1 S,sl T U V]++AK .i64 X 0 8))/\Calls prog 10 #[Value.agg (List.toArray (AK .i64 x 0 94++([sl b0 b1 S,sl T U V]++AK .i64 X 0 8)))] w' fun e w'=>∃(p:OA) (b b2:Bool),e=rT (.tuple #[pt p,bool b,bool b2])/\Wif (!b2) (K (.bool false) w') (Wif (!b) (CB 9 #[] w' fun b w'=>K (.bool b) w') (AW w' (List.toArray (List.replicate 8 (vi 0))) 23 fun D=>AW D (List.toArray (List.replicate 8 (vi 0))) 23 fun Y=>RI Y w.heap.size 0 fun x=>∃(I:Int->WD->Nat->Prop),(∃(n:Nat),I 0 Y n)/\∀(n:Int) (u:WD) (b3:Nat),I n u b3->Wif (decide (n<x)) (Wp p (Rp u p 0 fun x=>Wp x (Rp u x 95 fun G=>Calls prog 11 #[pt G,vi n] u fun(e:Ending) (y:WD)=>∃(E:Int),e=rT (vi E)/\Wn n 8 (Sw y w'.heap.size (0+Int.toNat n*1) (vi E) fun f=>Lt b3 fun m=>I (wrap .i64 (n+1)) f m)))) (RS u w.heap.size 94 fun x G c1=>∃(I:Int->WD->Nat->Prop),(∃(n:Nat),I 0 u n)/\∀(n:Int) (y:WD) (E:Nat),I n y E->Wif (decide (n<(↑G:Int))) (Wp x (Wn n G (Ri y x (Int.toNat n*1) fun t=>∃(Z:OA->Int->WD->Prop),(Dr y fun d=>Wp p (Rp d p 0 fun x=>Wp x (Rp d x 94 fun i=>Wp p (Ri d p 106 fun k=>(Calls prog 16 #[pt i,vi k,vi t] d fun e w'=>∃(n q h:Int),e=rT (.tuple #[Value.agg #[vu n,vi q],vi h])/\AW w' #[vu 0,vi 0] 69 fun f=>(wr f w'.heap.size 0/\wr f w'.heap.size 1)/\St (st f w'.heap.size 0 (vu n)) w'.heap.size 1 (vi q) fun P=>Z (aD w'.heap.size) h P)/\AW d #[vu 0,vi 0] 69 fun w'=>Rt w' (pb p) (po p+106) (.int .i64 k)<|Rt w' (pb x) (po x+94) (.pointer i)<|Rt w' (pb p) (po p) (.pointer x)<|Calls prog 16 #[pt i,vi k,vi t] w' fun e w'=>∃(n q h:Int),e=rT (.tuple #[Value.agg #[vu n,vi q],vi h])/\(wr w' d.heap.size 0/\wr w' d.heap.size 1)/\St (st w' d.heap.size 0 (vu n)) d.heap.size 1 (vi q) fun f=>Z (aD d.heap.size) h f))))/\∀(g:OA) (q:Int) (w':WD),Z g q w'->∃(x:OA) (i k:Nat),((q==0)=true->rd w' w.heap.size 95=some (.slice x i k))/\Wif (q==0) (CB 17 #[sl x i k,vi t] w' fun b w'=>Wif (!b) (Dr w' fun d=>Wp p (Rp d p 0 fun x=>Wp g (Ri d g 1 fun H=>CI 18 #[pt x,vi H] d fun h w'=>Wn (if 0>h then 0 else h) 8 (RI w' D.heap.size (0+Int.toNat (if 0>h then 0 else h)*1) fun x=>Wn (if 0>h then 0 else h) 8 (Sw w' D.heap.size (0+Int.toNat (if 0>h then 0 else h)*1) (vi (wrap .i64 (x+1))) fun f=>Lt E fun m=>I (wrap .i64 (n+1)) f m))))) (Lt E fun m=>I (wrap .i64 (n+1)) w' m)) (Lt E fun m=>I (wrap .i64 (n+1)) w' m)))) (Dr y fun d=>Wp p (Rp d p 0 fun x=>∃(t:Nat->Int),AS d w'.heap.size 0 (AK .i64 t 0 8)/\∃(i:Nat->Int),AS d D.heap.size 0 (AK .i64 i 0 8)/\RI d w.heap.size 91 fun k=>RI d w.heap.size 90 fun H=>Calls prog 20 #[pt x,vi cpu,vi 1,vi (wrap .i64 (Int.tmod (wrap .u64 page) 32))] d fun(e:Ending) (f:WD)=>∃(a:OA) (l c:Nat),e=rT (sl a l c)/\(rd f w.heap.size 90=some (.int .i64 H)/\True)/\(rd f w.heap.size 91=some (.int .i64 k)/\True)/\(AS f D.heap.size 0 (AK .i64 i 0 8)/\True)/\(AS f w'.heap.size 0 (AK .i64 t 0 8)/\True)/\CJ 19 #[sl a l c,Value.agg (List.toArray (AK .i64 t 0 8)),Value.agg (List.toArray (AK .i64 i 0 8)),vi k,vi H] f fun n q w'=>AW w' #[vi 1,vi page] 78 fun P=>CB 12 #[pt p,vi cpu,sl (aD w'.heap.size) 1 1] P fun b w'=>Wif (!b) (K (.bool false) w') (CB 21 #[pt p,vi cpu,vi 36000] w' fun b w'=>Wif (!b) (K (.bool false) w') (Wp p (Rs w' p 111 fun x b4 c2=>Wp x (Wn cpu b4 (Ri w' x (Int.toNat cpu*1) fun j=>gIf (isP p) ((j != n)=false) (∃(x:OA) (a0 b5:Nat),((j != n)=false->rd w' (pb p) (po p+110)=some (.slice x a0 b5))/\gIf (isP x) ((j != n)=false) (gIf (inB cpu a0) ((j != n)=false) (∃(z:Int),((j != n)=false->rd w' (pb x) (po x+Int.toNat cpu*1)=some (.int .i64 z))/\gIf (isP p) ((j != n||!(z==1)==decide (n<0))=false) (∃(x:OA),((j != n||!(z==1)==decide (n<0))=false->rd w' (pb p) (po p)=some (.pointer x))/\gIf (isP x) ((j != n||!(z==1)==decide (n<0))=false) (∃(a1:OA),((j != n||!(z==1)==decide (n<0))=false->rd w' (pb x) (po x+99)=some (.pointer a1))/\Wif (j != n||!(z==1)==decide (n<0)) (K (.bool false) w') (CI 22 #[pt a1] w' fun h w'=>Wif (h != q) (K (.bool false) w') (Wif (decide (n>=0)) (Dr w' fun d=>Wp p (Rp d p 0 fun x=>Wp x (Rp d x 94 fun b6=>Wp p (Rs d p 109 fun x b7 c3=>Wp x (Wn cpu b7 (Rs d x (Int.toNat cpu*1) fun Q b8 c4=>Wp Q (Wn 0 b8 (Ri d Q 0 fun x=>Calls prog 23 #[pt b6,vi x,vi 0,vi 256] d fun e w'=>∃(a:OA) (l c:Nat) (n:Int),e=rT (.tuple #[sl a l c,vi n])/\∃(I:OA->Int->WD->Prop),(Dr w' fun d=>Wp p (Rp d p 0 fun x=>Wp x (Rp d x 94 fun A=>Wp p (Rs d p 109 fun o F J=>Wp o (Wn cpu F (Rs d o (Int.toNat cpu*1) fun B a2 b9=>Wp B (Wn 0 a2 (Ri d B 0 fun R=>(Calls prog 24 #[pt A,vi R] d fun e w'=>∃(n s C L M O:Int),e=rT (.tuple #[Value.agg #[vu n,vi s,vi C,vi L,vi M],vi O])/\AW w' #[vu 0,vi 0,vi 0,vi 0,vi 0] 86 fun r=>(wr r w'.heap.size 0/\wr r w'.heap.size 1/\wr r w'.heap.size 2/\wr r w'.heap.size 3/\wr r w'.heap.size 4)/\St (st (st (st (st r w'.heap.size 0 (vu n)) w'.heap.size 1 (vi s)) w'.heap.size 2 (vi C)) w'.heap.size 3 (vi L)) w'.heap.size 4 (vi M) fun c0=>I (aD w'.heap.size) O c0)/\AW d #[vu 0,vi 0,vi 0,vi 0,vi 0] 86 fun w'=>Rt w' (pb B) (po B) (.int .i64 R)<|Rt w' (pb o) (po o+Int.toNat cpu*1) (.slice B a2 b9)<|Rt w' (pb p) (po p+109) (.slice o F J)<|Rt w' (pb x) (po x+94) (.pointer A)<|Rt w' (pb p) (po p) (.pointer x)<|Calls prog 24 #[pt A,vi R] w' fun e w'=>∃(n s C L M O:Int),e=rT (.tuple #[Value.agg #[vu n,vi s,vi C,vi L,vi M],vi O])/\(wr w' d.heap.size 0/\wr w' d.heap.size 1/\wr w' d.heap.size 2/\wr w' d.heap.size 3/\wr w' d.heap.size 4)/\St (st (st (st (st w' d.heap.size 0 (vu n)) d.heap.size 1 (vi s)) d.heap.size 2 (vi C)) d.heap.size 3 (vi L)) d.heap.size 4 (vi M) fun r=>I (aD d.heap.size) O r))))))))/\∀(g:OA) (s:Int) (w':WD),I g s w'->gIf (isP g) ((n != 0||s != 0)=false) (∃(x A o F J:Int),((n != 0||s != 0)=false->rd w' (pb g) (po g)=some (.int .u8 x)/\rd w' (pb g) (po g+1)=some (.int .i64 A)/\rd w' (pb g) (po g+2)=some (.int .i64 o)/\rd w' (pb g) (po g+3)=some (.int .i64 F)/\rd w' (pb g) (po g+4)=some (.int .i64 J))/\Wif (n != 0||s != 0||!(x==4&&(A==0&&(o==0&&(F==0&&(J==0&&true)))))) (K (.bool false) w') (∃(I:Bool->Int->WD->Nat->Prop),(∃(n:Nat),I false 0 w' n)/\∀(b:Bool) (n:Int) (w':WD) (C:Nat),I b n w' C->Wif (decide (n<(↑l:Int))) (Wp a (Wn n l (Re w' a (Int.toNat n*1) fun x=>Wif (x != 0) (K (.bool false) w') (Lt C fun m=>I b (wrap .i64 (n+1)) w' m)))) (CB 15 #[pt p] w' fun b w'=>Wif b (CB 25 #[pt p] w' fun b w'=>Wif b (CB 9 #[] w' fun b w'=>K (.bool b) w') (K (.bool false) w')) (K (.bool false) w')))))))))))) (CB 15 #[pt p] w' fun b w'=>Wif b (CB 25 #[pt p] w' fun b w'=>Wif b (CB 9 #[] w' fun b w'=>K (.bool b) w') (K (.bool false) w')) (K (.bool false) w')))))))))))))))))))))):Ret 4 #[Value.agg (List.toArray (AK .i64 x0 0 94++sl x94 x94L x94C::sl x95 x95L x95C::AK .i64 x96 0 8)),vi cpu,vi page] w K:=vcA L7 2 [4000017,101700151,101700160,4000028,102800211,102800220] func4 h
end Go.Proofs.YtdgbechegbmpcaaGreatDoor
namespace Go.Proofs.YtdgbechegbmpcaaGreatDoor
open Go Go.Eng Go.Proofs.Tryz
theorem rep8:List.replicate 8 (vi 0)=AK .i64 (fun i=>((((fun _=>0):Nat->Nat) i:Nat):Int)) 0 8:=rfl
def RAl(Z:Fx)(S0:AL)(pg0:Nat->Pg)(c0 cpu:Nat):FinR:=fun S pg gt nn la _ cnt hd=>((hd=none/\nn cpu=1)\/(nn cpu=0/\∃f a cp,hd=some f/\gt cpu=.slice a 1 cp))/\Had Z (CD S0.c cpu) S0 pg0 c0 S pg cnt la cpu hd
theorem core_mark{w:WD}{k:Nat}{S:AL}{fp:Prt->Nat->Prop}(h:AJ w k S fp){f:Nat}(hf:f<S.n):Calls prog 24 #[ptr S.pm,vi f] w fun e w'=>e=.returned (.tuple #[.agg (F8 (S.mks f)).toArray,vi 0])/\Kept AB w w':=by
 obtain⟨bb,mb,M,_⟩:=h.mem;exact mark_spec M hf
theorem Nds.nums{w:WD}{FR:NP}{a:OA}{l c:Nat}{xs:List Nat}(h:Nds w FR a l c xs):CL w a xs.length (fun i=>((xs.getD i 0:Nat):Int)):=by
 have hl:=h.len;have key:0<xs.length->∃b o,a=some ⟨b,o,none⟩/\∀i x,xs[i]? = some x->rd w b (o+i)=some (vi (x:Nat)):=fun hp=>by
  obtain⟨b,o,e,_,hr⟩:=h.el (by omega);exact⟨b,o,e,hr⟩
 refine⟨fun hp=>?_,fun i hi=>?_⟩
 ·obtain⟨b,o,rfl,hr⟩:=key hp;exact⟨rfl,KO (hr 0 _ (geg hp))⟩
 ·obtain⟨b,o,rfl,hr⟩:=key (by omega);rw [List.getD_eq_getElem?_getD,geg hi];exact hr i _ (geg hi)
set_option maxHeartbeats 16000000 in
theorem QO{w:WD}(hz:F4 w)(TR:GF w){x0:Nat->Int}{pa:OA}{pl pc:Nat}{ia:OA}{il ic:Nat}{x96 pf nf:Nat->Int}(cpu page:Int)(PG:CL w pa pl pf)(PN:CL w ia il nf) :
 Calls prog 4 #[.agg (AK .i64 x0 0 94++([Value.slice pa pl pc,Value.slice ia il ic]++AK .i64 x96 0 8)).toArray,vi cpu,vi page] w fun e w'=>e=.returned (.bool true)/\Kept AB w w':=by
 refine(vc4 x0 pa pl pc ia il ic x96 cpu page w (fun v w'=>v=.bool true/\Kept AB w w') ?_).mono ?_
 rotate_left
 ·rintro e w' ⟨v,rfl,rfl,h⟩;exact⟨rfl,h⟩
 unfold Q;intro w1 e1;have o1:=AD e1;have k1:=kal e1;have l1:=o1.lt;have rall:∀{W:WD},Kept AB w1 W->AS W w.heap.size 0 (AK .i64 x0 0 94++([Value.slice pa pl pc,Value.slice ia il ic]++AK .i64 x96 0 8)):=fun kk=>(o1.k kk).AS 0 fun j hj=>by rw [za]
 have rx:∀{W:WD}{j:Nat},Kept AB w1 W->j<94->rd W w.heap.size j=some (vi (x0 j)):=fun kk hj=>by rw [(o1.k kk).rd,gal (by rw [AI];exact hj),AT _ _ _ _ _ hj,za]
 have known:=fun {W:WD} (kk:Kept AB w W)=>known_spec (hz.k kk) (TR.k kk);refine⟨x0,pa,pl,pc,ia,il,ic,x96,rall kr,(small_spec (PG.k k1) (PN.k k1)).mono ?_⟩;rintro _ w2 ⟨b,rfl,k2,hO⟩;have k12:=k1.tr k2;refine⟨b,rfl,x0 1,(fun _=>rx k2 (by decide)),AE (fun hb=>(known k12).mono ?_) (fun hb=>?_)⟩
 ·rintro _ w3 ⟨rfl,k3⟩;exact⟨true,rfl,rfl,k12.tr k3⟩
 simp only [Bool.or_eq_false_iff,Bool.not_eq_false',decide_eq_false_iff_not] at hb;obtain⟨⟨hb0,hcp0⟩,hcp1⟩:=hb;obtain⟨c,rfl⟩:∃c:Nat,cpu=(c:Int):=⟨cpu.toNat,by omega⟩;have O:=hO hb0;have hz2:=hz.k k12;refine⟨x0,pa,pl,pc,ia,il,ic,x96,rall k2,(begun_spec hz2 (KO (hz2 0 (by decide))) O).mono ?_⟩;rintro _ w3 ⟨v,rfl,k3,⟨_,p,rfl⟩|⟨k,β,S,fp,FR,rt,lf,pg,pin,ta,tl,tc,A,rfl,Bg⟩⟩
 ·have k13:=k12.tr k3;refine⟨p,false,true,rfl,AG rfl (AA rfl ((known k13).mono ?_))⟩;rintro _ w6 ⟨rfl,k6⟩;exact⟨true,rfl,rfl,k13.tr k6⟩
 have k13:=k12.tr k3;have s23:=k3.sz;have s12:=k2.sz;refine⟨some ⟨β 23,0,none⟩,true,true,rfl,AG rfl (AG rfl fun w4 e4 w5 e5=>?_)⟩;have o4:own w4 w3.heap.size (AK .i64 (fun i=>((((fun _=>0):Nat->Nat) i:Nat):Int)) 0 8):=rep8▸AD e4;have k4:=kal e4;have o5:own w5 w4.heap.size (AK .i64 (fun i=>((((fun _=>0):Nat->Nat) i:Nat):Int)) 0 8):=rep8▸AD e5;have k5:=kal e5;have l4:=o4.lt;have l5:=o5.lt;have s34:=k4.sz;have C3:=Bg.L.G.X.C;have hs:=C3.BO;have hn4:=C3.n4;have hmy:=C3.my;have hc0:S.c=x0:=Bg.c;have hnod:x0 0=(S.nodes:Nat):=by rw [<- hc0];exact hs.1.2.2.symm
 have hcs:c<S.AO:=by have h1:=hs.2.1.2.2;rw [hc0] at h1;omega
 have S5:AlS w5 w5 w3.heap.size w4.heap.size (D3 S 0) (B4 S pg pin pf 0):=by
  rw [canQ_0];exact⟨o4.k k5,o5,Kept.refl _ _,by omega⟩
 have far:∀{W:WD}{fr can:Nat->Nat},AlS w5 W w3.heap.size w4.heap.size fr can->Kept AB w3 W:=fun S=>BD (k4.tr k5) S.k fun y e=>by omega
 have rb:∀{W:WD},Kept AB w3 W->rd W (β 23) 0=some (ptr k):=fun kk=>kk.rd_some (by rw [Bg.L.R.so.rd];rfl) id;have r106:∀{W:WD},Kept AB w3 W->rd W (β 23) (0+106)=some (vi (rt:Nat)):=fun kk=>kk.rd_some (by rw [za,Bg.L.R.so.rd];rfl) id;have L0:=Bg.Q 0;have L0h:=Bg.Q;have hc91:S.c 91=x0 91:=by rw [hc0]
 have hpl:=O.lp;refine⟨x0 0,rx ((k2.tr k3).tr (k4.tr k5)) (by decide),?_⟩;rw [hnod];refine⟨fun n W m=>∃q:Nat,n=q/\q<=S.nodes/\m=S.nodes-q/\AlS w5 W w3.heap.size w4.heap.size (D3 S q) (B4 S pg pin pf 0),⟨_,0,rfl,Nat.zero_le _,rfl,S5⟩,?_⟩;rintro _ W1 _ ⟨q,rfl,hq,rfl,S6⟩;have K6:=far S6;refine AE (fun hc=>?_) (fun hc=>?_)
 ·have hqn:q<S.nodes:=by simp at hc;omega
  refine AA rfl ⟨_,rb K6,AA rfl ⟨_,(C3.k K6).rtW kr (j:=1) rfl,(core_free (C3.k K6) hqn).mono ?_⟩⟩;rintro _ wx ⟨rfl,hwx⟩;rw [hwx];refine⟨_,rfl,Wi ⟨(S6.rf (by omega)).2,fun W2 E2=>?_⟩⟩;have S7:=S6.pf (by omega) E2;rw [freeQ_add] at S7;exact⟨S.nodes-(q+1),by omega,q+1,wzz,hqn,rfl,S7⟩
 have hqe:q=S.nodes:=by simp at hc;omega
 subst hqe;clear hc hq;have rb94:∀{W:WD},Kept AB w3 W->rd W w.heap.size 94=some (.slice pa pl pc)/\rd W w.heap.size 95=some (.slice ia il ic):=fun kk=>by
  have o:=o1.k ((k2.tr k3).tr kk);constructor
  ·rw [o.rd,gar (by rw [AI];omega),AI];rfl
  ·rw [o.rd,gar (by rw [AI];omega),AI];rfl
 refine⟨pa,pl,pc,(rb94 K6).1,fun n W m=>∃q:Nat,n=q/\q<=pl/\m=pl-q/\AlS w5 W w3.heap.size w4.heap.size (D3 S S.nodes) (B4 S pg pin pf q),⟨_,0,rfl,Nat.zero_le _,rfl,S6⟩,?_⟩;rintro _ W3 _ ⟨q,rfl,hq,rfl,S8⟩;have K8:=far S8;refine AE (fun hc=>?_) (fun hc=>?_)
 ·have hqp:q<pl:=by simp at hc;omega
  obtain⟨g1',g2'⟩:=O.rg q hqp;obtain⟨p,hp⟩:∃p:Nat,pf q=p:=⟨(pf q).toNat,by omega⟩;have hp32:p<32:=by omega
  obtain⟨f,hpg⟩:=(Bg.pg1 p).2 ⟨q,hqp,hp⟩;obtain⟨g1,g2,g3⟩:=L0.get C3 hp32;rw [L0.root,hpg] at g2 g3;rw [L0.root] at g1;have PGW:=PG.k (k13.tr K8);refine AA (PGW.p (by omega)).1 (Wi ⟨(p:Int),by rw [tnc,mo,<- hp];exact PGW.at' q hqp,fun p1 n3 W=>∃Y,p1=some ⟨Y,0,none⟩/\n3=0/\own W Y [.int .u8 1,vi (f:Nat)]/\Kept AB W3 W,fun W4 E4=>?_,?_⟩)
  ·have j1:=kdr E4;have K9:=K8.tr j1;have C9:=C3.k K9;refine AA rfl ⟨_,rb K9,AA rfl ⟨_,C9.rtW kr (j:=0) rfl,AA rfl ⟨(rt:Int),r106 K9,?_,fun W5 E5x=>?_⟩⟩⟩
   ·refine(NO C9 L0.by' rt p).mono ?_;rintro _ W5 ⟨rfl,j2⟩;refine⟨_,_,_,rfl,fun W6 E6x=>?_⟩;have o3:=AD E6x;have k3':=kal E6x;refine⟨⟨o3.wr (by decide),o3.wr (by decide)⟩,fun W7 E7x=>?_⟩;have o7:=o3.s2 E7x;have k7':Kept (·=W5.heap.size) W6 W7:=by rw [E7x];exact((Kept.refl (·=W5.heap.size) W6).st (.inl rfl)).st (.inl rfl)
    rw [g2,g3] at o7;exact⟨_,rfl,g1,o7,(j1.tr j2).tr (BD k3' k7' fun x e=>Nat.le_of_eq e.symm)⟩
   ·have o3:=AD E5x;have k3':=kal E5x;have K10:=K9.tr k3';have C10:=C3.k K10;refine⟨⟨r106 K10,trivial⟩,⟨C10.rtW kr (j:=0) rfl,trivial⟩,⟨rb K10,trivial⟩,(NO C10 L0.by' rt p).mono ?_⟩;rintro _ W6 ⟨rfl,j2⟩;have o3':=o3.k j2;refine⟨_,_,_,rfl,⟨o3'.wr (by decide),o3'.wr (by decide)⟩,fun W7 E7x=>?_⟩;have o7:=o3'.s2 E7x;have k7':Kept (·=W4.heap.size) W6 W7:=by rw [E7x];exact((Kept.refl (·=W4.heap.size) W6).st (.inl rfl)).st (.inl rfl)
    rw [g2,g3] at o7;exact⟨_,rfl,g1,o7,j1.tr (BD (k3'.tr j2) k7' fun x e=>Nat.le_of_eq e.symm)⟩
  ·rintro _ _ W5 ⟨Y,rfl,rfl,oY,j5⟩;have K11:=K8.tr j5;have S9:AlS w5 W5 w3.heap.size w4.heap.size (D3 S S.nodes) (B4 S pg pin pf q):=⟨S8.f.k j5,S8.c.k j5,S8.k.trans j5 fun _ _ e=>e.elim,S8.ne⟩;refine⟨ia,il,ic,(fun _=>(rb94 K11).2),AA rfl ((nums_has (PN.k (k13.tr K11)) (by have:=O.ln;omega) (p:Int)).mono ?_)⟩;rintro _ wx ⟨rfl,hwx⟩;rw [hwx];have hpn:=Bg.pn p;refine⟨_,rfl,AE (fun h=>?_) (fun h=>?_)⟩
   ·have hni:¬∃i,i<il/\nf i=(p:Int):=by simpa using h
    have hpf:pin p=false:=by
     cases e:pin p with
     | false=>rfl
     | true=>exact absurd (hpn.1 e).2 hni
    obtain⟨i,hi,h1,h2⟩:=frame_node C3 (L0.pgo p f hpg).2.1;intro W6 E6x;have j6:=kdr E6x;have K12:=K11.tr j6;refine AA rfl ⟨_,rb K12,AA rfl ⟨(f:Nat),by show rd W6 Y (0+1)=_;rw [za,(oY.k j6).rd];rfl,(JQ (C3.k K12) hi h1 h2).mono ?_⟩⟩;rintro _ W7 ⟨rfl,j7⟩;have j57:=j6.tr j7;have S10:AlS w5 W7 w3.heap.size w4.heap.size (D3 S S.nodes) (B4 S pg pin pf q):=⟨S9.f.k j57,S9.c.k j57,S9.k.trans j57 fun _ _ e=>e.elim,S9.ne⟩;have hif:(if (0:Int)>(i:Int) then(0:Int) else(i:Int))=(i:Int):=if_neg (by omega);refine⟨_,rfl,?_⟩;dsimp only;rw [hif];have hin:inB (i:Int) 8=true:=DL;refine AA hin ⟨_,(S10.rc (by omega)).1,AA hin ⟨(S10.rc (by omega)).2,fun W8 E8x=>?_⟩⟩;have hle:B4 S pg pin pf q i<=32:=canQ_le;rw [show IntKind.wrap .i64 (((B4 S pg pin pf q i:Nat):Int)+1)=((B4 S pg pin pf q i+1:Nat):Int) by rw [wi (by omega)];omega] at E8x;have S11:=S10.pc (by omega) E8x;rw [<- canQ_add hmy hp hp32 (fun j hj e=>by have:=O.inj j q (by omega) hqp (by omega);omega) hpg hpf hi h1 h2] at S11;exact⟨pl-(q+1),by omega,q+1,wzz,hqp,rfl,S11⟩
   ·have hni:∃i,i<il/\nf i=(p:Int):=by simpa using h
    have hpt:pin p=true:=hpn.2 ⟨⟨q,hqp,hp⟩,hni⟩;rw [<- canQ_pin hp hpt] at S9;exact⟨pl-(q+1),by omega,q+1,wzz,hqp,rfl,S9⟩
 have hqe:q=pl:=by simp at hc;omega
 subst hqe;clear hc hq;have hcan:∀t,t<S.nodes->B4 S pg pin pf q t=QP S.c pg pin t:=fun t ht=>canQ_end (fun j f e=>(Bg.pg1 j).1 ⟨f,e⟩) ht;have hslot:((S.AP:Nat):Int)=x0 90:=by rw [<- hc0];exact hs.2.2.2
 have hnd:=GM hmy c;obtain⟨sb,hsb⟩:=L0.sp1;have rfree:∀{W:WD}{fr can:Nat->Nat},AlS w5 W w3.heap.size w4.heap.size fr can->AS W w3.heap.size 0 (AK .i64 (fun i=>(fr i:Int)) 0 8)/\AS W w4.heap.size 0 (AK .i64 (fun i=>(can i:Int)) 0 8):=fun S=>⟨S.f.AS 0 fun j hj=>by rw [za],S.c.AS 0 fun j hj=>by rw [za]⟩;intro W4 E4;have j4:=kdr E4;have K9:=K8.tr j4;have S9:AlS w5 W4 w3.heap.size w4.heap.size (D3 S S.nodes) (B4 S pg pin pf q):=⟨S8.f.k j4,S8.c.k j4,S8.k.trans j4 fun _ _ e=>e.elim,S8.ne⟩;have rq:∀{W:WD}{j:Nat},Kept AB w3 W->j<94->rd W w.heap.size j=some (vi (x0 j)):=fun kk hj=>rx ((k2.tr k3).tr kk) hj;refine AA rfl ⟨_,rb K9,_,(rfree S9).1,_,(rfree S9).2,x0 91,rq K9 (by decide),x0 90,rq K9 (by decide),(nodes_spec (C3.k K9) hsb (pageR page) (cpu:=c) hcs).mono ?_⟩;rintro _ W5 ⟨a,l,cc,rfl,j5,Rn⟩;rw [<- hnd.1] at Rn;have Nd:=Rn.nds (FR:=fun _=>True) fun _ _ _=>trivial;have K10:=K9.tr j5;have S10:AlS w5 W5 w3.heap.size w4.heap.size (D3 S S.nodes) (B4 S pg pin pf q):=⟨S9.f.k j5,S9.c.k j5,S9.k.trans j5 fun _ _ e=>e.elim,S9.ne⟩;have hll:=Nd.len;have hnl:=hnd.2.2.2;have hnl8:(CD S.c c).length<=8:=by rw [hnl];have:=hmy.1;omega
 have h8:∀x∈CD S.c c,x<8:=fun x hx=>by have:=hnd.2.1 x hx;have:=hmy.1;omega
 have hA:=alone_spec (c:=cc) (fr0:=D3 S S.nodes) (can0:=B4 S pg pin pf q) (least:=x0 91) (sl0:=S.AP) Nd.nums (by have:=Nd.lc;omega) hnd.2.2.1 h8 hnl8 (by omega) (fun t=>by have:=freeQ_le C3 (nlr S.nodes) t;omega) (fun t=>by have:B4 S pg pin pf q t<=32:=canQ_le;omega);rw [hslot,<- hll] at hA;refine⟨a,l,cc,rfl,⟨rq K10 (by decide),trivial⟩,⟨rq K10 (by decide),trivial⟩,⟨(rfree S10).2,trivial⟩,⟨(rfree S10).1,trivial⟩,hA.mono ?_⟩;rintro _ W6 ⟨r,g,rfl,j6,hAl⟩;have K11:=K10.tr j6;refine⟨r,g,rfl,fun w6 e6=>?_⟩;have o6:=AD e6;have k6:=kal e6;have kk:Kept AB w3 w6:=K11.tr k6;have hab:w3.heap.size<=W6.heap.size:=K11.sz;have D0:=Bg.rdy kk (ab:=W6.heap.size) hab o6.lt;have hr:rd w6 W6.heap.size 0=some (vi 1)/\rd w6 W6.heap.size (0+1)=some (vi page):=⟨by rw [o6.rd];rfl,by rw [o6.rd];rfl⟩
 have hP:=prog_oneG (cpu:=c) (c:=1) (ab:=W6.heap.size) (ao:=0) (nx:=page) (Z:=⟨rt,lf,pin,A,c,none,q⟩) (FR0:=ER FR β W6.heap.size) (R:=RAl ⟨rt,lf,pin,A,c,none,q⟩ S pg q c) D0.X rfl rfl (D0.L c) D0.wa rfl (by rw [D0.n];exact hcs) hcs (nlr _) hr (fun _=>Iff.rfl) (fun x h=>D0.rows x (.inr h)) (D0.rows _ (.inl rfl)) fun S' pg' gt' nn' la' cnt' hd h hH=>⟨by
  rcases h with⟨a1,a2,_⟩|⟨a1,a2⟩
  ·exact .inl ⟨a1,a2⟩
  ·exact .inr ⟨by rw [a1],a2⟩,hH⟩
 have hbd:1+bdP (CD S.c c).length (q+1)<=36000:=by
  have:=bdP_le hnl8 (q+1) (by omega);omega
 rw [D0.c] at hP;refine(drive_spec D0 (by rw [D0.n];exact hcs) hP).mono ?_;rintro _ w7 ⟨rfl,k7,H⟩;refine⟨true,rfl,AG rfl ((H 36000 (by rw [<- hc0];exact hbd) (by decide)).mono ?_)⟩;rintro _ w8 ⟨rfl,S',fp',G,gt,nn,la,ca,pg',cnt,hd,D⟩;have hX:=fun x h=>Bg.w.outhi (ab:=W6.heap.size) (x:=x) h;have hXl:=fun x h=>Bg.w.outlo (ab:=W6.heap.size) (x:=x) hab h;have rk8:∀{W:WD},Kept AB w8 W->rd W (β 23) 0=some (ptr k):=fun kq=>kq.rd_some D.wa.rd0 id;obtain⟨hR,hH⟩:=D.r;obtain⟨g',hg',hAl'⟩:=had_alone C3 hnd.2.1 (L0h c) D.L hH;have hsl:S.AP+q-q=S.AP:=by omega
 have hAl':AlR (CD S.c c) (S.c 91) (fun t=>AX (S.L t)) (QP S.c pg pin) (S.AP+q-q) (la c) g':=hAl';have hg':cnt+g'=q:=hg';rw [hsl,hc91] at hAl';obtain⟨hla,hgg⟩:=hAl.uniq (fun t ht=>by have:=hnd.2.1 t ht;unfold D3;rw [if_pos (show t<S.nodes from this)]) (fun t ht=>(hcan t (hnd.2.1 t ht)).symm) hAl';have hcu:(owns S'.AP S'.sof).length+cnt=q:=D.L.cu;have hBn:c<(wvB (⟨k,w2.heap.size,S.AO,x0,pa,q,pc,ia,il,ic,x96⟩:BP) β rt lf ta tl tc).n:=hcs;have hin:inB (c:Int) S.AO=true:=DL;have wa8:=D.wa;have h16:=wa8.n16;have rla:rd w8 ((wvB (⟨k,w2.heap.size,S.AO,x0,pa,q,pc,ia,il,ic,x96⟩:BP) β rt lf ta tl tc).lb) (0+Int.toNat (c:Int)*1)=some (vi (la c)):=by rw [idx0];exact(wa8.rdL hBn).1
 have rnn:rd w8 ((wvB (⟨k,w2.heap.size,S.AO,x0,pa,q,pc,ia,il,ic,x96⟩:BP) β rt lf ta tl tc).nb) (0+Int.toNat (c:Int)*1)=some (vi (nn c)):=by rw [idx0];exact(wa8.rdN hBn).1
 have C8:=D.X.C;have t1:(la c != r)=false:=by rw [hla];simp
 have t2:((nn c==1)==decide (r<0))=true:=by
  rcases hR with⟨h1,h2⟩|⟨h2,f,_,_,h1,_⟩
  ·rcases hH with⟨_,h3,_⟩|⟨f,_,_,_,_,_,h3,_⟩
   ·rw [h2,decide_eq_true (by omega)];rfl
   ·rw [h1] at h3;cases h3
  ·rcases hH with⟨h3,_⟩|⟨f,i,_,_,_,_,_,h3,_⟩
   ·rw [h1] at h3;cases h3
   ·rw [h2,decide_eq_false (by omega)];rfl
 have t12:(la c != r||!((nn c==1)==decide (r<0)))=false:=by rw [t1,t2];rfl
 refine⟨true,rfl,AG rfl (AA rfl ⟨_,_,_,wa8.rdR (j:=2) rfl,AA rfl (AA hin ⟨_,rla,AF (fun _=>rfl) ⟨_,_,_,(fun _=>wa8.rdR (j:=1) rfl),AF (fun _=>rfl) (AF (fun _=>hin) ⟨_,(fun _=>rnn),AF (fun _=>rfl) ⟨_,(fun _=>rk8 kr),AF (fun _=>rfl) ⟨_,(fun _=>C8.rtW kr (j:=5) rfl),AG t12 ((core_used C8).mono ?_)⟩⟩⟩)⟩⟩)⟩)⟩;rintro _ w9 ⟨rfl,k9⟩;refine⟨_,rfl,AG (by rw [show(((owns S'.AP S'.sof).length:Nat):Int)=(g:Int) by omega];simp) ?_⟩;have f10:=fun {W3:WD} (kq:Kept AB w8 W3)=>fineW Bg.w kk (ab:=W6.heap.size) hab (O.pg.k (k3.tr kk)) (fun hl=>(O.pg.p hl).2) (O.pn.k (k3.tr kk)) (fun hl=>(O.pn.p hl).2) O.lp O.ln O.rg (TR.k ((k12.tr k3).tr kk)) (TR.k k12).lt D kq;have farW:∀{W:WD},Kept AB w8 W->Kept AB w W:=fun kq=>(BD (k12.tr (k3.tr kk)) D.kp fun x h=>by have:=hXl _ h;have:=k12.sz;omega).tr kq;have fin:∀{W:WD},Kept AB w8 W->Calls prog 15 #[ptr (β 23)] W fun e w'=>∃b:Bool,e=.returned (.bool b)/\Wif b (Calls prog 25 #[ptr (β 23)] w' fun e w'=>∃b:Bool,e=.returned (.bool b)/\Wif b (Calls prog 9 #[] w' fun e w'=>∃b:Bool,e=.returned (.bool b)/\(Value.bool b=.bool true/\Kept AB w w')) (Value.bool false=.bool true/\Kept AB w w')) (Value.bool false=.bool true/\Kept AB w w'):=by
  intro W kq;refine(f10 kq).1.mono ?_;rintro _ Wa ⟨rfl,q1⟩;refine⟨true,rfl,AA rfl ((f10 (kq.tr q1)).2.mono ?_)⟩;rintro _ Wb ⟨rfl,q2⟩;refine⟨true,rfl,AA rfl ((known (farW ((kq.tr q1).tr q2))).mono ?_)⟩;rintro _ Wc ⟨rfl,q3⟩;exact⟨true,rfl,rfl,(farW ((kq.tr q1).tr q2)).tr q3⟩
 refine AE (fun hr0=>?_) (fun _=>fin k9);have hr0:0<=r:=by simpa using hr0
 rcases hH with⟨_,h3,_⟩|⟨f,i,S1,l',xs1,xs2,hhd,h3,_,_,_,_,hS⟩
 ·omega
 obtain⟨gb,go,cp,hgt,hgr⟩:=D.hg f hhd;have hfn:f<S'.n:=(D.L.hdr f hhd).1;have hmk:S'.mks f=NI 4:=D.L.mkh f hhd;have hby:∀j,j<256->S'.by' (f*256+j)=0:=fun j hj=>by
  rw [hS]
  show D4 S1.by' (f*256) 256 (f*256+j)=0
  unfold D4;rw [if_pos (by omega)]
 have rg:∀{W:WD},Kept AB w8 W->rd W ((wvB (⟨k,w2.heap.size,S.AO,x0,pa,q,pc,ia,il,ic,x96⟩:BP) β rt lf ta tl tc).gb) (0+Int.toNat (c:Int)*1)=some (.slice (some ⟨gb,go,none⟩) 1 cp):=fun kq=>by rw [idx0,<- hgt];exact((D.wa.k kq).rdG hBn).1
 have r109:=fun {W:WD} (kq:Kept AB w8 W)=>(D.wa.k kq).rdR (j:=0) rfl;intro w10 e10;have k10:=k9.dr e10;refine AA rfl ⟨_,rk8 k10,AA rfl ⟨_,(C8.k k10).rtW kr (j:=0) rfl,AA rfl ⟨_,_,_,r109 k10,AA rfl (AA hin ⟨_,_,_,rg k10,AA rfl (AA rfl ⟨(f:Nat),k10.rd_some hgr id,(core_read (C8.k k10) hfn).mono ?_⟩)⟩)⟩⟩⟩;rintro _ w11 ⟨ba,bc,rfl,j11,BBx⟩;have k11:=k10.tr j11;refine⟨ba,256,bc,0,rfl,fun p1 n5 W=>∃Y,p1=some ⟨Y,0,none⟩/\n5=0/\own W Y [.int .u8 4,vi 0,vi 0,vi 0,vi 0]/\Kept AB w11 W,fun w12 e12=>?_,?_⟩
 ·have k12':=k11.dr e12;have j12:=kdr e12;refine AA rfl ⟨_,rk8 k12',AA rfl ⟨_,(C8.k k12').rtW kr (j:=0) rfl,AA rfl ⟨_,_,_,r109 k12',AA rfl (AA hin ⟨_,_,_,rg k12',AA rfl (AA rfl ⟨(f:Nat),k12'.rd_some hgr id,?_,fun w13 e13=>?_⟩)⟩)⟩⟩⟩
  ·refine(core_mark (C8.k k12') hfn).mono ?_;rintro _ w13 ⟨rfl,j13⟩;refine⟨4,0,0,0,0,0,by rw [hmk];rfl,fun w14 e14=>?_⟩;have o14:=AD e14;have j14:=kal e14;refine⟨⟨o14.wr (by decide),o14.wr (by decide),o14.wr (by decide),o14.wr (by decide),o14.wr (by decide)⟩,fun w15 e15=>?_⟩;have o15:=(o14.s2 (w1:=st (st w14 w13.heap.size 0 (.int .u8 4)) w13.heap.size 1 (vi 0)) rfl);have o16:=(o15.s2 (w1:=st (st (st (st w14 w13.heap.size 0 (.int .u8 4)) w13.heap.size 1 (vi 0)) w13.heap.size 2 (vi 0)) w13.heap.size 3 (vi 0)) rfl);have o17:=o16.s1 e15;have q15:Kept (·=w13.heap.size) w14 w15:=by rw [e15];exact(((((Kept.refl (·=w13.heap.size) w14).st (.inl rfl)).st (.inl rfl)).st (.inl rfl)).st (.inl rfl)).st (.inl rfl)
   exact⟨_,rfl,rfl,o17,(j12.tr j13).tr (BD j14 q15 fun x e=>Nat.le_of_eq e.symm)⟩
  ·have o13:=AD e13;have j13:=kal e13;have k13':=k12'.tr j13;refine⟨⟨k13'.rd_some hgr id,trivial⟩,⟨rg k13',trivial⟩,⟨r109 k13',trivial⟩,⟨(C8.k k13').rtW kr (j:=0) rfl,trivial⟩,⟨rk8 k13',trivial⟩,(core_mark (C8.k k13') hfn).mono ?_⟩;rintro _ w14 ⟨rfl,j14⟩;have o14:=o13.k j14;refine⟨4,0,0,0,0,0,by rw [hmk];rfl,⟨o14.wr (by decide),o14.wr (by decide),o14.wr (by decide),o14.wr (by decide),o14.wr (by decide)⟩,fun w15 e15=>?_⟩;have o15:=(o14.s2 (w1:=st (st w14 w12.heap.size 0 (.int .u8 4)) w12.heap.size 1 (vi 0)) rfl);have o16:=(o15.s2 (w1:=st (st (st (st w14 w12.heap.size 0 (.int .u8 4)) w12.heap.size 1 (vi 0)) w12.heap.size 2 (vi 0)) w12.heap.size 3 (vi 0)) rfl);have o17:=o16.s1 e15;have q15:Kept (·=w12.heap.size) w14 w15:=by rw [e15];exact(((((Kept.refl (·=w12.heap.size) w14).st (.inl rfl)).st (.inl rfl)).st (.inl rfl)).st (.inl rfl)).st (.inl rfl)
   exact⟨_,rfl,rfl,o17,j12.tr (BD (j13.tr j14) q15 fun x e=>Nat.le_of_eq e.symm)⟩
 ·rintro _ _ w12 ⟨Y,rfl,rfl,oY,j12⟩;have k12':=k11.tr j12;refine AF (fun _=>rfl) ⟨4,0,0,0,0,(fun _=>⟨by rw [show rd w12 (pb (some ⟨Y,0,none⟩)) (po (some ⟨Y,0,none⟩))=rd w12 Y 0 from rfl,oY.rd];rfl,by show rd w12 Y (0+1)=_;rw [oY.rd];rfl,by show rd w12 Y (0+2)=_;rw [oY.rd];rfl,by show rd w12 Y (0+3)=_;rw [oY.rd];rfl,by show rd w12 Y (0+4)=_;rw [oY.rd];rfl⟩),AG rfl ⟨fun b n W m=>∃j:Nat,n=j/\j<=256/\m=256-j/\W=w12,⟨256,0,rfl,by decide,rfl,rfl⟩,?_⟩⟩;rintro _ _ W _ ⟨j,rfl,hj,rfl,hW⟩;rw [hW];refine AE (fun hc=>?_) (fun _=>fin k12');have hjl:j<256:=by simp at hc;omega
  have hb:=(BBx.k j12).at' j hjl;rw [hby j hjl] at hb;exact AA (BBx.p (by decide)) (Wi ⟨0,by rw [tnc,mo];exact hb,AG rfl ⟨256-(j+1),by omega,j+1,wzz,hjl,rfl,rfl⟩⟩)
end Go.Proofs.YtdgbechegbmpcaaGreatDoor
