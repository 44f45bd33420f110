/- Part of a proof that a law returns true. Conditions: those in each theorem. -/
import Derived.Test.YtdgbechegbmpcaaGreatDoorSV10
import Derived.Test.YtdgbechegbmpcaaGreatDoorQ31
import Derived.Test.YtdgbechegbmpcaaGreatDoorQ21
import Derived.Test.YtdgbechegbmpcaaGreatDoorB0
set_option linter.unusedSimpArgs false
set_option linter.unusedVariables false
set_option maxRecDepth 100000
namespace Go.Proofs.YtdgbechegbmpcaaGreatDoor
open Go Go.Eng Go.Proofs.Tryz
section
variable {k N:Nat}{Q:Fin}{S:AL}{fp:Prt->Nat->Prop}{FR:NP}{W:WD}{V:Wv}{gt:Nat->Value}{nn la ca:Nat->Int}{cpu bw bc br:Nat}{rest:Value}
end
section
variable {k N:Nat}{S:AL}{fp:Prt->Nat->Prop}{FR:NP}{W:WD}{V:Wv}{gt:Nat->Value}{nn la ca:Nat->Int}{cpu:Nat}
set_option maxHeartbeats 4000000 in
end
inductive AlR (xs:List Nat) (least:Int):(Nat->Nat)->(Nat->Nat)->Nat->Int->Nat->Prop
 | hit {fr can:Nat->Nat}{sl i:Nat}{xs1 xs2:List Nat}:xs=xs1++i::xs2->(∀t∈xs1,(fr t:Int)<=least)->least<(fr i:Int)->AlR xs least fr can sl i 0
 | no {fr can:Nat->Nat}{sl:Nat}:(∀t∈xs,(fr t:Int)<=least)->(sl=0\/∀t∈xs,can t=0)->AlR xs least fr can sl (-1) 0
 | step {fr can fr' can':Nat->Nat}{sl i g:Nat}{r:Int}{xs1 xs2:List Nat}:(∀t∈xs,(fr t:Int)<=least)->xs=xs1++i::xs2->(∀t∈xs1,can t=0)->0<can i->(∀t∈xs,fr' t=fr t+if t=i then 1 else 0)->(∀t∈xs,can' t+(if t=i then 1 else 0)=can t)->
  AlR xs least fr' can' sl r g->AlR xs least fr can (sl+1) r (g+1)
structure AlS(W0 W:WD)(bf bc:Nat)(fr can:Nat->Nat):Prop where
 f:own W bf (AK .i64 (fun i=>(fr i:Int)) 0 8)
 c:own W bc (AK .i64 (fun i=>(can i:Int)) 0 8)
 k:Kept (fun y=>y=bf\/y=bc) W0 W
 ne:bf≠bc
section
variable {W0 W W':WD}{bf bc x v:Nat}{fr can:Nat->Nat}
end
structure AlI(xs:List Nat)(least:Int)(fr0 can0:Nat->Nat)(sl0:Nat)(fr can:Nat->Nat)(sl gone:Nat):Prop where
 J:∀r g,AlR xs least fr can sl r g->AlR xs least fr0 can0 sl0 r (gone+g)
 s:gone+sl=sl0
 bf:∀t,fr t<=100000+gone
 bc:∀t,can t<=100000
def goB(c:Nat->Int)(pg:Nat->Pg)(pin:Nat->Bool)(i j:Nat):Bool:=match pg j with
 | .fr f=>!pin j&&decide (AN c i<=(f:Int))&&decide ((f:Int)<AN c (i+1))
 | _=>false
def QQ(c:Nat->Int)(pg:Nat->Pg)(pin:Nat->Bool)(i:Nat):Nat:=((List.range 32).filter fun j=>goB c pg pin i j).length
section
variable {S S':AL}{pg pg':Nat->Pg}{pin:Nat->Bool}{i:Nat}
theorem QL{c:Nat->Int}{j:Nat}:goB c pg pin i j=true↔∃f,pg j=.fr f/\pin j=false/\AN c i<=f/\(f:Int)<AN c (i+1):=by
 unfold goB
 cases h:pg j with
 | no=>exact⟨(fun e=>by cases e),fun⟨f,e,_⟩=>by cases e⟩
 | sl s=>exact⟨(fun e=>by cases e),fun⟨f,e,_⟩=>by cases e⟩
 | fr g=>
  simp only [Bool.and_eq_true,Bool.not_eq_true',decide_eq_true_eq];exact⟨fun⟨⟨a,b⟩,c⟩=>⟨g,rfl,a,b,c⟩,fun⟨f,e,a,b,c⟩=>by cases e;exact⟨⟨a,b⟩,c⟩⟩
theorem canN_gone{p f s n t:Nat}(my:CW S.c)(hp:pg p=.fr f)(hp32:p<32)(hpin:pin p=false)(hi:i<(S.c 0).toNat)(ht:t<(S.c 0).toNat)(h1:AN S.c i<=f)(h2:(f:Int)<AN S.c (i+1)):QQ S.c (upd pg p (.sl s)) pin t+(if t=i then 1 else 0)=QQ S.c pg pin t:=by
 have hc:=OL (q:=fun j=>goB S.c pg pin t j) (q':=fun j=>goB S.c (upd pg p (.sl s)) pin t j) (p:=p) (n:=32) (fun j hj=>by show goB _ (upd pg p _) _ _ _=_;unfold goB;rw [AH _ _ hj]) hp32;have q2:goB S.c (upd pg p (.sl s)) pin t p=false:=by unfold goB;rw [upd_same]
 have q1:goB S.c pg pin t p=decide (t=i):=by
  by_cases e:t=i
  ·subst e;rw [decide_eq_true rfl];exact QL.2 ⟨f,hp,hpin,h1,h2⟩
  ·rw [decide_eq_false e]
   cases e2:goB S.c pg pin t p with
   | false=>rfl
   | true=>
    obtain⟨g,a,_,b,c⟩:=QL.1 e2;rw [hp] at a
    cases a
    exact absurd (CH my (f:=(f:Int)) ht hi b c h1 h2) e
 simp only [q1,q2,Bool.false_eq_true,if_false,Nat.add_zero,decide_eq_true_eq] at hc;unfold QQ;omega
end
theorem owns_full{n:Nat}{of:Nat->Int×Int}(h:∀s,s<n->(of s).1≠0):(owns n of).length=n:=by
 unfold owns;rw [lmp,List.filter_eq_self.2 fun s hs=>by simpa using h s (List.mem_range.1 hs),List.length_range]
theorem owns_lt{n s:Nat}{of:Nat->Int×Int}(hs:s<n)(h:(of s).1=0):(owns n of).length<n:=by
 have:((List.range n).filter fun i=>(of i).1 != 0).length<(List.range n).length:=List.length_filter_lt_length_iff_exists.2 ⟨s,List.mem_range.2 hs,by simp [h]⟩;unfold owns;rw [lmp];rw [List.length_range] at this;exact this
section
variable {w:WD}{k:Nat}{S S':AL}{fp:Prt->Nat->Prop}{pg pg':Nat->Pg}{cnt cnt':Nat}{xs:List Nat}{Z:Fx}{la:Nat->Int}{cpu:Nat}{hd:Option Nat}
theorem QSt.noslot{rt lf hc tot:Nat}{pin:Nat->Bool}{A:List Nat}(L:QSt S rt lf pg pin A hc hd cnt tot):tot<=S.AP+cnt/\(HC S↔S.AP+cnt=tot):=by
 have h:=L.cu;have hle:(owns S.AP S.sof).length<=S.AP:=owns_len _ _;refine⟨by omega,fun hn=>?_,fun e s hs e0=>?_⟩
 ·have:(owns S.AP S.sof).length=S.AP:=owns_full fun s hs=>by
   rcases L.so s hs with h|⟨j,hj⟩
   ·exact absurd h (hn s hs)
   ·rw [(L.pgs j s hj).2.2];show(1:Int)≠0;decide
  omega
 ·have:(owns S.AP S.sof).length<S.AP:=owns_lt hs (by rw [e0]);omega
end
def thenF(M:Nat)(after:Value)(Q:Fin):Fin:=⟨fun F W=>Ends M after F W Q,Q.C⟩
theorem behind_spec{Q:Fin}{M:Nat}(hq:Q.St){after:Value}(ha:isF after=true):∀(N:Nat) {s:Value}{F:NP}{w:WD},Ends N s F w (thenF M after Q)->(∀x,F x->x<w.heap.size)->
 Calls prog 115 #[s,after] w (Nx (N+M) Q F w):=by
 intro N
 induction N using Nat.strongRecOn with
 | ind N ih=>
 intro s F w E hF;have hs:=E.ok;refine Calls.ret (vc115 s after w _ ?_);apply qI;rw [show Value.cells s=[s].toArray from EV hs,show Value.cells after=[after].toArray from EV (GY ha)];intro w1 e1 w2 e2;have B:=((Bx.nil w).al e1).al e2;have s1:w.heap.size<=w1.heap.size:=((Kept.refl AB w).al e1).sz;refine⟨s,B.rd (b:=w.heap.size) (by simp),AA hs (AE (fun h=>?_) (fun h=>?_))⟩
 ·have hn:isF s=false:=by simpa using h
  have E':Ends M after F w Q:=E.nil hn;refine⟨after,B.rd (b:=w1.heap.size) (by simp),after,F,rfl,GY ha,B.k.none,fun x hx=>.inl hx,?_⟩;exact(Ends.env hq E' B.k.none).le (by omega)
 ·have hn:isF s=true:=by simpa using h
  cases N with
  | zero=>rw [E.1] at hn;cases hn
  | succ N=>
   rcases E with⟨e,_⟩|⟨_,E⟩
   ·rw [e] at hn;cases hn
   refine⟨_,fun x=>F x\/rng w w2 x,rfl,rfl,B.k.none,fun x hx=>hx,?_⟩;rw [show N+1+M=(N+M)+1 by omega];refine Ends.step rfl fun W kW=>?_;refine AM.mk 191 #[] _ rfl (by kernel_rfl) (Calls.ret (vc191 false (some ⟨w.heap.size,0,none⟩) (some ⟨w1.heap.size,0,none⟩) W _ ?_));apply qI;intro x1 d1;have j1:=kdr d1;have kW1:Kept (fun y=>¬(F y\/rng w w2 y)) w2 x1:=kW.trans j1 fun _ _ e=>e.elim;have kF:Kept (fun x=>¬F x) w x1:=(B.k.none).trans (kW1.mono fun x _ hn hf=>hn (.inl hf)) fun _ _ h=>h;refine AA rfl ⟨s,B.rr kW1 (by simp),AA rfl ⟨after,B.rr kW1 (by simp),AQ (E x1 kF) ?_⟩⟩;rintro e x2 ⟨v',F',rfl,hok,kk,hF',E'⟩;have ra:rd x2 w1.heap.size 0=some after:=kk.rd_some (B.rr kW1 (by simp)) fun e=>by have:=hF _ e.1;omega
   have sz:=kF.sz;have sz2:=kk.sz;refine⟨v',rfl,⟨ra,trivial⟩,(ih N (by omega) E' (fun x hx=>(hF' x hx).elim (fun h=>by have:=hF x h;omega) fun h=>h.2)).mono fun e w' hN=>?_⟩;have k2:Kept (fun x=>(F x\/rng w w2 x)/\¬Q.C x) W x2:=(j1.none).trans (kk.mono fun x _ h=>⟨.inl h.1,h.2⟩) fun _ _ h=>h;refine(Nx.pre k2 (fun x hx=>?_) hN).out;rcases hF' x hx with h|h
   ·exact .inl (.inl h)
   ·exact .inr ⟨by have:=h.1;have:=j1.sz;omega,h.2⟩
section
variable {w w' W:WD}{k:Nat}{S:AL}{fp:Prt->Nat->Prop}{FR:NP}
theorem state_spec(h:AJ w k S fp){i:Nat}(hi:i<S.nodes):Calls prog 26 #[ptr S.pz,vi i] w fun e w'=>∃n:Int,e=.returned (vi n)/\w'=w/\(n=3↔S.c 93<(AX (S.L i):Int)):=by
 obtain⟨Z,hc,hk⟩:=h.zn;have hm:S.c 91<=S.c 92/\S.c 92<=S.c 93:=h.my.2.2.2.2.2.2.2.2;refine(vc26 (some ⟨S.pz,0,none⟩) i w (fun v w'=>∃n:Int,v=vi n/\w'=w/\(n=3↔S.c 93<(AX (S.L i):Int))) ?_).mono ?_
 ·apply qI;refine(core_free h hi).mono ?_;rintro _ wx ⟨rfl,hwx⟩;rw [hwx];refine⟨_,rfl,?_⟩;have r:=fun {j:Nat} (hj:j<94)=>Z.r hj;rw [hc] at r;refine AF (fun _=>rfl) ⟨_,_,_,(fun _=>by show rd w S.pz (0+94)=_;rw [za];exact Z.r94),AF (fun _=>rfl) ⟨_,_,_,(fun _=>by show rd w S.pz (0+94)=_;rw [za];exact Z.r94),AF (fun _=>rfl) ⟨_,(fun _=>by show rd w S.pz (0+91)=_;rw [za];exact r (by decide)),AE (fun h1=>?_) (fun h1=>?_)⟩⟩⟩
  ·refine⟨0,rfl,rfl,?_⟩;have:(AX (S.L i):Int)<=S.c 91:=by
    have e:(decide ((i:Int)>=0)&&decide ((i:Int)<(S.Z.k:Int)))=true:=by simp;omega
    simpa [show(i:Int)<(S.Z.k:Int) by omega] using h1
   omega
  ·refine AA rfl ⟨_,by show rd w S.pz (0+92)=_;rw [za];exact r (by decide),AE (fun h2=>?_) (fun h2=>?_)⟩
   ·have h2:(AX (S.L i):Int)<=S.c 92:=by simpa using h2
    exact⟨1,rfl,rfl,by omega⟩
   ·refine AA rfl ⟨_,by show rd w S.pz (0+93)=_;rw [za];exact r (by decide),AE (fun h3=>?_) (fun h3=>?_)⟩
    ·have h3:(AX (S.L i):Int)<=S.c 93:=by simpa using h3
     exact⟨2,rfl,rfl,by omega⟩
    ·have h3:S.c 93<(AX (S.L i):Int):=by simpa using h3
     exact⟨3,rfl,rfl,by omega⟩
 ·rintro e w' ⟨v,rfl,n,rfl,h⟩;exact⟨n,rfl,h⟩
def rndV(bl bk bn be bc br:Nat):Value:=.func (.func 189) #[] #[ptr bl,ptr bk,ptr bn,ptr be,ptr bc,ptr br]
structure SwB(W:WD)(FR:NP)(k cpu node bl bk bn be bc br bd:Nat)(left:Nat):Prop where
 l:own W bl [vi left]
 k:rd W bk 0=some (ptr k)
 n:rd W bn 0=some (vi node)
 e:rd W be 0=some (.func (.func 114) #[] #[ptr bd])
 c:rd W bc 0=some (vi cpu)
 r:rd W br 0=some (rndV bl bk bn be bc br)
 d:own W bd [.bool false]
 inF:FR bl/\FR bk/\FR bn/\FR be/\FR bc/\FR br/\FR bd
 ne:bk≠bl/\bn≠bl/\be≠bl/\bc≠bl/\br≠bl/\bd≠bl
variable {cpu node bl bk bn be bc br bd left:Nat}
theorem SwB.to(B:SwB w FR k cpu node bl bk bn be bc br bd left){G:NP}(kk:Kept (fun x=>¬FR x) w w')(hG:∀x,FR x->G x):SwB w' G k cpu node bl bk bn be bc br bd left:=by
 obtain⟨f1,f2,f3,f4,f5,f6,f7⟩:=B.inF;exact⟨B.l.kx kk fun h=>h f1,kk.rd_some B.k fun h=>h f2,kk.rd_some B.n fun h=>h f3,kk.rd_some B.e fun h=>h f4,kk.rd_some B.c fun h=>h f5,kk.rd_some B.r fun h=>h f6,B.d.kx kk fun h=>h f7,⟨hG _ f1,hG _ f2,hG _ f3,hG _ f4,hG _ f5,hG _ f6,hG _ f7⟩,B.ne⟩
theorem SwB.put(B:SwB w FR k cpu node bl bk bn be bc br bd left){n:Nat}(e:w'=st w bl 0 (vi (n:Nat))):SwB w' FR k cpu node bl bk bn be bc br bd n/\Kept (·=bl) w w':=by
 have kk:Kept (·=bl) w w':=kr.s1 e (.inl rfl);obtain⟨n1,n2,n3,n4,n5,n6⟩:=B.ne;exact⟨⟨B.l.s1 e,kk.rd_some B.k n1,kk.rd_some B.n n2,kk.rd_some B.e n3,kk.rd_some B.c n4,kk.rd_some B.r n5,B.d.kx kk n6,B.inF,B.ne⟩,kk⟩
structure SwR(S0:AL)(pg0:Nat->Pg)(node:Nat)(S:AL)(pg:Nat->Pg):Prop where
 c:S.c=S0.c
 pgs:∀p f,pg0 p=.fr f->pg p=.fr f\/((∃s,pg p=.sl s)/\AN S0.c node<=f/\(f:Int)<AN S0.c (node+1))
 no:∀j,pg j=.no↔pg0 j=.no
abbrev SwDone(Z:Fx)(node:Nat)(S:AL)(pg:Nat->Pg):Prop:=S.c 93<(AX (S.L node):Int)\/HC S\/NoGo S pg Z.pin node
def SwFin(k:Nat)(Q:Fin)(Z:Fx)(node bl bd:Nat)(S0:AL)(pg0:Nat->Pg)(FR0:NP)(W0:WD):Prop:=
 ∀(W':WD) (S:AL) (fp:Prt->Nat->Prop) (G:NP) (pg:Nat->Pg) (cnt:Nat),(∀x,FR0 x->G x)->Ctx k S fp G W'->Z.St S pg cnt->rd W' bd 0=some (.bool true)->SwR S0 pg0 node S pg->SwDone Z node S pg->Kept (fun x=>¬FR0 x\/x=bl\/x=bd) W0 W'->Q.q (Fo fp G) W'
variable {Q:Fin}{Z:Fx}{S0:AL}{pg0 pg:Nat->Pg}{cnt:Nat}{FR0:NP}{W0:WD}
theorem end_spec(HFx:SwFin k Q Z node bl bd S0 pg0 FR0 W0)(h0:∀x,FR0 x->FR x)(hCd:¬Q.C bd)(X:Ctx k S fp FR W)(kW:Kept AB W w)(L:Z.St S pg cnt)(B:SwB w FR k cpu node bl bk bn be bc br bd left)(R:SwR S0 pg0 node S pg)(hd:SwDone Z node S pg)(kp:Kept (fun x=>¬FR0 x\/x=bl\/x=bd) W0 w)(n:Nat) :
 AM prog (.func (.func 114) #[] #[ptr bd]) [] w fun e w'=>e=.returned (.tuple #[])/\Nx n Q (Fo fp FR) W (.returned .nilFunc) w':=by
 refine AM.mk 114 #[] _ rfl (by kernel_rfl) ((vc114 (some ⟨bd,0,none⟩) w (fun v w'=>v=.tuple #[]/\Nx n Q (Fo fp FR) W (.returned .nilFunc) w') ?_).mono ?_)
 ·apply qI;refine AA rfl ⟨B.d.wr Nat.zero_lt_one,fun w2 e2=>⟨rfl,?_⟩⟩;have e2:w2=st w bd 0 (.bool true):=e2;have k2:Kept (·=bd) w w2:=kr.s1 e2 (.inl rfl);have o2:=B.d.s1 e2;have f7:=B.inF.2.2.2.2.2.2;have X2:Ctx k S fp FR w2:=(X.kept kW).DY (k2.mono fun x _ e=>e▸f7);refine⟨.nilFunc,Fo fp FR,rfl,rfl,(kW.none).trans (k2.mono fun x _ e=>⟨.inr (e▸f7),e▸hCd⟩) fun _ _ h=>h,fun x hx=>.inl hx,?_⟩;have hq:Q.q (Fo fp FR) w2:=HFx w2 S fp FR pg cnt h0 X2 L (by rw [o2.rd];rfl) R hd (kp.trans k2 fun x _ e=>.inr (.inr e))
  cases n with
  | zero=>exact⟨rfl,hq⟩
  | succ n=>exact .inl ⟨rfl,hq⟩
 ·rintro e w' ⟨v,rfl,rfl,h⟩;exact⟨rfl,h⟩
theorem round_end0(HFx:SwFin k Q Z node bl bd S0 pg0 FR0 W0)(h0:∀x,FR0 x->FR x)(hCd:¬Q.C bd)(X:Ctx k S fp FR W)(L:Z.St S pg cnt)(B:SwB W FR k cpu node bl bk bn be bc br bd 0)(R:SwR S0 pg0 node S pg)(hd:SwDone Z node S pg)(kp:Kept (fun x=>¬FR0 x\/x=bl\/x=bd) W0 W)(n:Nat) :
 Ends (n+1) (rndV bl bk bn be bc br) (Fo fp FR) W Q:=by
 refine Ends.step rfl fun W1 kW=>?_;have X1:=X.env (G:=Fo fp FR) (fun _ h=>h) kW;have kF:Kept (fun x=>¬FR x) W W1:=kW.mono fun x _ hn hf=>hn (.inr hf);have B1:=B.to kF fun _ h=>h;have kp1:=kp.trans kF fun x _ hn=>.inl fun h=>hn (h0 x h);refine AM.mk 189 #[] _ rfl (by kernel_rfl) (Calls.ret (vc189 false (some ⟨bl,0,none⟩) (some ⟨bk,0,none⟩) (some ⟨bn,0,none⟩) (some ⟨be,0,none⟩) (some ⟨bc,0,none⟩) (some ⟨br,0,none⟩) W1 _ ?_));apply qI;intro w1 e1;have k1:=kdr e1;have B2:=B1.to k1.none fun _ h=>h;have C1:=X1.C.k k1;refine AA rfl ⟨0,by show rd w1 bl 0=_;rw [B2.l.rd];rfl,AF (fun _=>rfl) ⟨_,fun _=>B2.k,AF (fun _=>rfl) ⟨some ⟨S.pz,0,none⟩,(fun h=>by cases h),AF (fun _=>rfl) ⟨_,fun _=>B2.n,AA rfl (AA rfl ⟨_,B2.e,?_⟩)⟩⟩⟩⟩;exact AQ (end_spec HFx h0 hCd X1 k1 L B2 R hd (kp1.trans k1 fun _ _ e=>e.elim) n) fun e w' h=>⟨h.1,h.2⟩
set_option maxHeartbeats 4000000 in
theorem round_ends(HFx:SwFin k Q Z node bl bd S0 pg0 FR0 W0)(hC0:∀x,Q.C x->FR0 x)(hCd:¬Q.C bd)(hCl:¬Q.C bl):∀(m:Nat) {W:WD}{S:AL}{fp:Prt->Nat->Prop}{FR:NP}{pg:Nat->Pg}{cnt left:Nat},QQ S.c pg Z.pin node=m->m<left->left<=1000->node<S.nodes->cpu<S.AO->(∀x,FR0 x->FR x)->Ctx k S fp FR W->Z.St S pg cnt->SwB W FR k cpu node bl bk bn be bc br bd left->SwR S0 pg0 node S pg->Kept (fun x=>¬FR0 x\/x=bl\/x=bd) W0 W->
 Ends ((m+1)*1000+2) (rndV bl bk bn be bc br) (Fo fp FR) W Q:=by
 intro m
 induction m using Nat.strongRecOn with
 | ind m ih=>
 intro W S fp FR pg cnt left hm hlt hle hnd hcp h0 X L B R kp;have hC:∀x,Q.C x->FR x:=fun x h=>h0 x (hC0 x h);refine Ends.step (N:=(m+1)*1000+1) rfl fun W1 kW=>?_;have X1:=X.env (G:=Fo fp FR) (fun _ h=>h) kW;have kF:Kept (fun x=>¬FR x) W W1:=kW.mono fun x _ hn hf=>hn (.inr hf);have B1:=B.to kF fun _ h=>h;have kp1:=kp.trans kF fun x _ hn=>.inl fun h=>hn (h0 x h);refine AM.mk 189 #[] _ rfl (by kernel_rfl) (Calls.ret (vc189 false (some ⟨bl,0,none⟩) (some ⟨bk,0,none⟩) (some ⟨bn,0,none⟩) (some ⟨be,0,none⟩) (some ⟨bc,0,none⟩) (some ⟨br,0,none⟩) W1 _ ?_));apply qI;intro w1 e1;have k1:=kdr e1;have B2:=B1.to k1.none fun _ h=>h;have C1:=X1.C.k k1;have kp2:=kp1.trans k1 fun _ _ e=>e.elim;have rl:rd w1 bl 0=some (vi left):=by rw [B2.l.rd];rfl
 refine AA rfl ⟨left,rl,AF (fun _=>rfl) ⟨_,fun _=>B2.k,AF (fun _=>rfl) ⟨_,fun _=>by have:=C1.rtW kr (j:=1) rfl;exact this,AF (fun _=>rfl) ⟨_,fun _=>B2.n,AG (by simp;omega) ?_⟩⟩⟩⟩;refine(state_spec C1 hnd).mono ?_;rintro _ wx ⟨n,rfl,hwx,hn⟩;rw [hwx];refine⟨n,rfl,AE (fun h3=>?_) (fun h3=>?_)⟩
 ·have h3:n=3:=by simpa using h3
  exact AA rfl ⟨_,B2.e,AQ (end_spec HFx h0 hCd X1 k1 L B2 R (.inl (hn.1 h3)) kp2 _) fun e w' h=>⟨h.1,h.2⟩⟩
 refine AA rfl ⟨left,rl,AA rfl ⟨B2.l.wr Nat.zero_lt_one,fun w2 e2=>?_⟩⟩;have el:IntKind.wrap .i64 ((left:Int)-1)=((left-1:Nat):Int):=by rw [wi (by omega)];omega
 rw [el] at e2;obtain⟨B3,k2⟩:=B2.put e2;refine AA rfl ⟨_,B3.k,AA rfl ⟨cpu,B3.c,AA rfl ⟨node,B3.n,fun w3 e3=>?_⟩⟩⟩;have o3:=AD e3;have k3:=kal e3;have kL:Kept (·=bl) W1 w3:=((k1.none).trans k2 fun _ _ h=>h).trans k3 fun _ _ e=>e.elim;have X3:Ctx k S fp (fun x=>FR x\/rng W1 w3 x) w3:=X1.fresh (kL.mono fun x _ e=>e▸B.inF.1);have hG:∀x,FR x->(FR x\/rng W1 w3 x):=fun x h=>.inl h;have sz2:W1.heap.size<=w2.heap.size:=by have:=k1.sz;have:=k2.sz;omega
 have R3:Nds w3 (fun x=>FR x\/rng W1 w3 x) (some ⟨w2.heap.size,0,none⟩) 1 1 [node]:=⟨rfl,nlr _,by decide,fun _=>⟨w2.heap.size,0,rfl,.inr ⟨sz2,o3.lt⟩,fun i x hx=>by
  cases i with
  | zero=>cases hx;rw [o3.rd];rfl
  | succ i=>cases hx⟩⟩
 have B4:=B3.to k3.none hG;have kp3:Kept (fun x=>¬FR0 x\/x=bl\/x=bd) W0 w3:=kp1.trans kL fun x _ e=>.inr (.inl e);have h32:=L.O5 hnd;refine(pass_spec (N:=m*1000+2) (Q:=Q) (th:=.func (.func 190) #[] #[ptr bl,ptr br]) (Z:=Z) (ln:=fun i=>(S.ring i).length) rfl [node] (fun x h=>.inl (hC x h)) X3 L hcp R3 (fun x hx=>by simp at hx;rw [hx];exact hnd) (fun _ _=>rfl) ⟨fun S' T LS hor y3 fp3 Y3 N3=>?_,fun S' xs1 i xs2 p f s a1 a2 a3 a4 a5 a6 a7 a8 a9 b1 b2 y3 fp3 Y3 N3=>?_⟩).mono fun e w' hN=>(Nx.pre (kL.mono fun x _ e=>⟨.inr (e▸B.inF.1),e▸hCl⟩) (fun y hy=>?_) (hN.le ?_)).out
 ·have B5:=B4.to N3.kp fun _ h=>h;have kp5:=kp3.trans N3.kp fun x _ hn=>.inl fun h=>hn (hG x (h0 x h));obtain⟨r,o,rfl⟩:=T;refine AM.mk 190 #[] _ rfl (by kernel_rfl) (Calls.ret (vc190 0 (some ⟨bl,0,none⟩) (some ⟨br,0,none⟩) y3 _ ?_));apply qI;refine AA rfl (AA rfl ⟨B5.l.wr Nat.zero_lt_one,fun y4 e4=>?_⟩);obtain⟨B6,k4⟩:=B5.put (n:=0) e4;refine AA rfl ⟨_,B6.r,?_⟩;have X6:=Y3.DY (k4.mono fun x _ e=>e▸B5.inF.1);have hd:SwDone Z node ({S with ring:=r,cof:=o}:AL) pg:=by
   rcases hor with hor|hor
   ·exact .inr (.inl hor)
   ·exact .inr (.inr (hor node (by simp)))
  exact⟨_,_,rfl,rfl,k4.mono fun x _ e=>⟨.inr (e▸B5.inF.1),e▸hCl⟩,fun x hx=>.inl hx,round_end0 HFx (fun x h=>hG x (h0 x h)) hCd X6 LS B6 ⟨R.c,R.pgs,R.no⟩ hd (kp5.trans k4 fun x _ e=>.inr (.inl e)) (m*1000+1)⟩
 ·have B5:=B4.to N3.kp fun _ h=>h;have kp5:=kp3.trans N3.kp fun x _ hn=>.inl fun h=>hn (hG x (h0 x h));obtain rfl:i=node:=by
   cases xs1 with
   | nil=>simp at a1;exact a1.1.symm
   | cons y ys=>simp at a1
  have ec:S'.c=S.c:=b2.c;have hgo:=canN_gone (pg:=pg) (pin:=Z.pin) (s:=s) (n:=0) X1.C.my a3 (L.pgo p f a3).1 a4 hnd hnd a5 a6;rw [if_pos rfl] at hgo;refine AM.mk 190 #[] _ rfl (by kernel_rfl) (Calls.ret (vc190 1 (some ⟨bl,0,none⟩) (some ⟨br,0,none⟩) y3 _ ?_));apply qI;refine AG rfl (AA rfl ⟨_,B5.r,⟨_,_,rfl,rfl,Kept.refl _ _,fun x hx=>.inl hx,?_⟩⟩);have:=ih (m-1) (by omega) (left:=left-1) (by rw [ec];omega) (by omega) (by omega) (by show i<(S'.c 0).toNat;rw [ec];exact hnd) (by show cpu<(S'.c 1).toNat;rw [ec];exact hcp) (fun x h=>hG x (h0 x h)) Y3 b1 B5 ⟨ec.trans R.c,fun p' f' e=>?_,fun j=>?_⟩ kp5
  ·rw [show m-1+1=m by omega] at this;exact this
  ·rcases R.pgs p' f' e with h|⟨⟨s',h⟩,h2⟩
   ·by_cases e2:p'=p
    ·subst e2;rw [a3] at h
     cases h
     exact .inr ⟨⟨s,upd_same _ _ _⟩,by rw [<- R.c];exact a5,by rw [<- R.c];exact a6⟩
    ·left;rw [AH _ _ e2];exact h
   ·by_cases e2:p'=p
    ·subst e2;rw [a3] at h;cases h
    ·right;rw [AH _ _ e2];exact⟨⟨s',h⟩,h2⟩
  ·rw [<- R.no j];by_cases e:j=p
   ·subst e;rw [upd_same,a3];exact⟨(fun e=>by cases e),fun e=>by cases e⟩
   ·rw [AH _ _ e]
 ·rcases hy with h|h|h
  ·exact .inl (.inl h)
  ·exact .inl (.inr h)
  ·exact .inr h
 ·show m*1000+2+(2+30*(S.ring node).length+1)<=_
  omega
end
theorem pig:∀(n:Nat) (l:List Nat),l.Nodup->(∀x∈l,x<n)->l.length<=n
 | 0,l,_,h=>by
  cases l with
  | nil=>exact nlr _
  | cons x l=>exact absurd (h x (by simp)) (nlz _)
 | n+1,l,nd,h=>by
  have ih:=pig n (l.erase n) (nd.sublist List.erase_sublist) fun x hx=>by
   have h1:=h x (List.mem_of_mem_erase hx);have h2:x≠n:=fun e=>by
    subst e;exact(List.Nodup.not_mem_erase nd) hx
   omega
  rw [List.length_erase] at ih;split at ih <;> omega
section
variable {k N:Nat}{S:AL}{fp:Prt->Nat->Prop}{FR:NP}{W:WD}{V:Wv}{gt:Nat->Value}{nn la ca:Nat->Int}{cpu:Nat}
theorem QSt.can_le{rt lf hc cnt tot:Nat}{pg:Nat->Pg}{pin:Nat->Bool}{A:List Nat}{hd:Option Nat}(L:QSt S rt lf pg pin A hc hd cnt tot)(i:Nat):QQ S.c pg pin i<=32/\(QQ S.c pg pin i:Int)<=max 0 (AN S.c (i+1)-AN S.c i):=by
 have h1:QQ S.c pg pin i<=32:=by
  unfold QQ;exact Nat.le_trans (List.length_filter_le _ _) (by simp)
 refine⟨h1,?_⟩;have nd:((List.range 32).filter fun j=>goB S.c pg pin i j).Nodup:=List.nodup_range.sublist List.filter_sublist;have hn:=pig (max 0 (AN S.c (i+1)-AN S.c i)).toNat (((List.range 32).filter fun j=>goB S.c pg pin i j).map fun j=>match pg j with|.fr f=>((f:Int)-AN S.c i).toNat|_=>0) ?_ ?_
 ·rw [lmp] at hn;unfold QQ;omega
 ·rw [List.nodup_iff_pairwise_ne,List.pairwise_map];refine(List.nodup_iff_pairwise_ne.1 nd).imp_of_mem fun {a b} ha hb hab e=>?_;obtain⟨f,f1,_,f2,f3⟩:=QL.1 (List.mem_filter.1 ha).2;obtain⟨g,g1,_,g2,g3⟩:=QL.1 (List.mem_filter.1 hb).2;rw [f1,g1] at e;have e:((f:Int)-AN S.c i).toNat=((g:Int)-AN S.c i).toNat:=e;have:f=g:=by omega
  subst this;exact hab (L.inj a b f f1 g1)
 ·intro x hx;obtain⟨a,ha,rfl⟩:=List.mem_map.1 hx;obtain⟨f,f1,_,f2,f3⟩:=QL.1 (List.mem_filter.1 ha).2;rw [f1]
  show((f:Int)-AN S.c i).toNat<_
  omega
def RSw(Z:Fx)(S0:AL)(pg0:Nat->Pg)(node:Nat):FinR:=fun S pg _ _ _ _ _ hd=>hd=none/\SwR S0 pg0 node S pg/\SwDone Z node S pg
theorem wrapU{n:Nat}(h:n<1000000):IntKind.wrap .u64 (n:Int)=n:=by
 simp only [IntKind.wrap,IntKind.bits,IntKind.signed,Bool.false_and,Bool.false_eq_true,if_false];exact Int.emod_eq_of_lt (by omega) (by omega)
set_option maxHeartbeats 8000000 in
theorem prog_swapd{c ab ao node:Nat}{Z:Fx}{pg:Nat->Pg}{cnt:Nat}{FR0:NP}(X:Ctx k S fp FR W)(hZ:Z.hd=none)(hZc:Z.hc=cpu)(L:Z.St S pg cnt)(A:WAt W V gt nn la ca)(hk:V.k=k)(hc:cpu<V.n)(hcs:cpu<S.AO)(hl:1<=c)(hnd:node<S.nodes)(hmid:V.mid[0]? = some (vi (S.nodes:Nat)))(hrd:rd W ab ao=some (vi 3)/\rd W ab (ao+1)=some (vi node))(h0:∀x,FR0 x↔FR x)(hR0:∀x,V.rows x->FR x)(hFb:FR V.b) :
 Calls prog 43 #[ptr V.b,vi cpu,.slice (some ⟨ab,ao,none⟩) 1 c] W fun e w'=>∃v,e=.returned v/\Nx 33003 (PZ k S.c Z.rt Z.lf Z.pin Z.A Z.tot V cpu pg FR0 (RSw Z S pg node)) (Fo fp FR) W (.returned v) w':=by
 generalize hQ:PZ k S.c Z.rt Z.lf Z.pin Z.A Z.tot V cpu pg FR0 (RSw Z S pg node)=Q;have hC:∀x,Q.C x->FR x:=by subst hQ;exact fun x h=>(h0 x).1 h.1
 have hR:∀x,V.rows x->FR x/\¬Q.C x:=by subst hQ;exact fun x h=>⟨hR0 x h,fun e=>e.2 h⟩
 have hqS:Q.St:=by subst hQ;exact PZ.st fun x hx=>(h0 x).2 (hx.elim (fun e=>e▸hFb) (hR0 x))
 have hn:=A.n16;have hm:=X.C.my;have hsz:=X.C.BO;refine Calls.ret (vc43 _ cpu (some ⟨ab,ao,none⟩) 1 c W _ ?_);apply qI;intro w1 e1 w2 e2 w3 e3;have B3:=(((Bx.nil W).al e1).al e2).al e3;refine⟨_,_,_,B3.rd (b:=w2.heap.size) (v:=.slice (some ⟨ab,ao,none⟩) 1 c) (by simp),AG rfl ⟨_,_,_,B3.rd (b:=w2.heap.size) (v:=.slice (some ⟨ab,ao,none⟩) 1 c) (by simp),AA rfl (AA (by decide) ⟨3,node,⟨B3.k.rd_some hrd.1 id,B3.k.rd_some hrd.2 id⟩,fun w4 e4 w5 e5=>?_⟩)⟩⟩;have o4:=AD e4;have k4:=kal e4;have o5:=AD e5;have k5:=kal e5;have x5:=o4.k k5;have s4:=o4.lt;have sW:=B3.k.sz;refine⟨wr2 x5,fun w6 e6=>?_⟩;obtain⟨x6,q6⟩:=IY x5 e6;have o6:own w6 w4.heap.size [.nilFunc]:=o5.kx q6 (by omega);refine⟨o6.wr (by decide),fun w7 e7=>?_⟩;generalize hrest:Value.func (Fn.func 105) #[] #[Value.pointer (some (Addr.mk W.heap.size 0 none)),Value.pointer (some (Addr.mk w1.heap.size 0 none)),Value.pointer (some (Addr.mk w2.heap.size 0 none))]=rest at *;have o7:own w7 w4.heap.size [rest]:=o6.s1 e7;have q7:Kept (·=w4.heap.size) w6 w7:=kr.s1 e7 (.inl rfl);have x7:=x6.kx q7 (by omega);have K37:Kept AB w3 w7:=BD (BD (k4.tr k5) q6 fun y e=>by omega) q7 fun y e=>by omega
 have B7:=(B3.kk K37).add o7 (by omega);refine⟨node,by rw [x7.rd];rfl,fun w8 e8=>⟨Bx.wr0 e8,fun w9 e9 w10 e10=>⟨Bx.wr0 e10,fun w11 e11=>?_⟩⟩⟩;have B9:=(B7.al2 e8 e9).2;have B11:=(B9.al2 e10 e11).2;have k79:Kept AB w7 w9:=by
  have o8:=AD e8;exact BD (kr.al e8) (e9▸(Kept.refl (·=w7.heap.size) w8).st (.inl rfl)) fun y e=>by omega
 have k911:Kept AB w9 w11:=by
  have o8:=AD e10;exact BD (kr.al e10) (e11▸(Kept.refl (·=w9.heap.size) w10).st (.inl rfl)) fun y e=>by omega
 have x11:=(x7.k k79).k k911;refine⟨3,by rw [x11.rd];rfl,AG rfl (AG rfl (AA rfl fun w12 e12=>⟨Bx.wr0 e12,fun w13 e13 w14 e14=>?_⟩))⟩;have B14:=((B11.al2 e12 e13).2).dr e14;have k1114:Kept AB w11 w14:=by
  have o8:=AD e12;exact(BD (kr.al e12) (e13▸(Kept.refl (·=w11.heap.size) w12).st (.inl rfl)) fun y e=>by omega).dr e14
 have x14:=x11.k k1114;have A14:=A.k B14.k;have hr2:rd w14 V.b (0+2)=some (vi (S.nodes:Nat)):=by
  rw [za,A14.so.rd,gal (by simp [A.ml]),gar (by simp)];exact hmid
 have hp:IntKind.wrap .i64 (Int.tmod (IntKind.wrap .u64 (node:Int)) (IntKind.wrap .u64 ((S.nodes:Nat):Int)))=(node:Int):=by
  rw [wrapU (by omega),wrapU (by omega),Int.tmod_eq_emod_of_nonneg (by omega),Int.emod_eq_of_lt (by omega) (by omega),wi (by omega)]
 have bW:∀{W':WD},Kept AB w14 W'->rd W' W.heap.size 0=some (ptr V.b):=fun kk=>kk.rd_some (B14.rd (by simp)) id;refine⟨_,bW kr,AA rfl ⟨_,A14.rd0,cpu,B14.rd (b:=w1.heap.size) (by simp),node,by rw [x14.rd];rfl,_,bW kr,AA rfl ⟨_,hr2,AA (by rw [wrapU (by omega)];simp;omega) ?_⟩⟩⟩;rw [hp,hk];refine vc113 (some ⟨k,0,none⟩) cpu node (.func (.func 114) #[] #[ptr w11.heap.size]) w14 _ ?_;apply qI;rw [show Value.cells (Value.func (Fn.func 114) #[] #[ptr w11.heap.size])=[Value.func (Fn.func 114) #[] #[ptr w11.heap.size]].toArray from rfl];intro y1 d1 y2 d2 y3 d3 y4 d4 y5 d5;have D5x:=((((B14.al d1).al d2).al d3).al d4).dr d5;have C5:=X.C.k D5x.k;have hin:inB (node:Int) 8=true:=DL;have hk0:=X.C.k0;have eo:0+18+Int.toNat (node:Int)*1=18+node:=by omega
 have hF:=hm.2.2.2.2.2.1 node hnd;refine⟨_,D5x.rd (b:=w14.heap.size) (v:=ptr k) (by simp),node,D5x.rd (b:=y2.heap.size) (by simp),AA rfl (AA hin ⟨S.c (18+node),by show rd y5 k (0+18+Int.toNat (node:Int)*1)=_;rw [eo];exact C5.rc (by omega),fun y6 d6=>?_⟩)⟩;have k56:=kal d6;refine⟨⟨by show rd y6 k (0+18+Int.toNat (node:Int)*1)=_;rw [eo];exact(C5.k k56).rc (by omega),trivial⟩,⟨k56.rd_some (D5x.rd (b:=y2.heap.size) (by simp)) id,trivial⟩,⟨k56.rd_some (D5x.rd (b:=w14.heap.size) (v:=ptr k) (by simp)) id,trivial⟩,Bx.wr0 d6,fun y7 d7 y8 d8=>⟨Bx.wr0 d8,fun y9 d9=>?_⟩⟩;have e2F:IntKind.wrap .i64 (2*S.c (18+node))=((2*(S.c (18+node)).toNat:Nat):Int):=by rw [wi (by omega)];omega
 rw [e2F] at d7;have hnF:((2*(S.c (18+node)).toNat:Nat):Int)=2*S.c (18+node):=by omega
 generalize 2*(S.c (18+node)).toNat=nF at *;have D7x:=(D5x.al2 d6 d7).2;have D9x:=(D7x.al2 d8 d9).2;have k59:Kept AB y5 y9:=by
  have o8:=AD d6;have o9:=AD d8;have a:Kept AB y5 y7:=BD k56 (d7▸(Kept.refl (·=y5.heap.size) y6).st (.inl rfl)) fun y e=>by omega
  exact a.tr (BD (kr.al d8) (d9▸(Kept.refl (·=y7.heap.size) y8).st (.inl rfl)) fun y e=>by omega)
 have k145:Kept AB w14 y5:=(((((Kept.refl AB w14).al d1).al d2).al d3).al d4).dr d5;have k149:=k145.tr k59;refine⟨_,D9x.rd (b:=y7.heap.size) (v:=rndV y5.heap.size w14.heap.size y2.heap.size y3.heap.size y1.heap.size y7.heap.size) (by simp [rndV]),⟨bW k149,trivial⟩,?_⟩;have X9:=X.more D9x.k;have lt9:∀{b:Nat}{v:Value},(b,v)∈_->rng W y9 b:=fun {b v} hm=>⟨(D9x.o b v hm).2,(D9x.o b v hm).1.lt⟩;have z1:w14.heap.size<y1.heap.size:=(D9x.k.sz |> fun _=>by have o:own y1 w14.heap.size [ptr k]:=AD d1;exact o.lt);have z2:y1.heap.size<y2.heap.size:=by have o:own y2 y1.heap.size [vi cpu]:=AD d2;exact o.lt
 have z3:y2.heap.size<y3.heap.size:=by have o:own y3 y2.heap.size [vi node]:=AD d3;exact o.lt
 have z4:y3.heap.size<y4.heap.size:=by have o:own y4 y3.heap.size [Value.func (Fn.func 114) #[] #[ptr w11.heap.size]]:=AD d4;exact o.lt
 have z5:y4.heap.size<=y5.heap.size:=((Kept.refl AB y4).dr d5).sz;have z6:y5.heap.size<y6.heap.size:=by have o:own y6 y5.heap.size [vi 0]:=AD d6;exact o.lt
 have z7:y6.heap.size<=y7.heap.size:=(d7▸(Kept.refl (·=y5.heap.size) y6).st (.inl rfl):Kept (·=y5.heap.size) y6 y7).sz;have z11:w11.heap.size<w14.heap.size:=by
  have o:=AD e12;have:=o.lt;have a:=(e13▸(Kept.refl (·=w11.heap.size) w12).st (.inl rfl):Kept (·=w11.heap.size) w12 w13).sz;have b:=((Kept.refl AB w13).dr e14).sz;omega
 have zz:w2.heap.size<w3.heap.size/\w1.heap.size<w2.heap.size/\W.heap.size<w1.heap.size:=by
  have o:=AD e3;have o':=AD e2;have o'':=AD e1;exact⟨o.lt,o'.lt,o''.lt⟩
 have z4':w4.heap.size<w11.heap.size:=by
  have:=o7.lt;have:=k79.sz;have:=k911.sz;omega
 have z9:y7.heap.size<y9.heap.size:=(D9x.o y7.heap.size (rndV y5.heap.size w14.heap.size y2.heap.size y3.heap.size y1.heap.size y7.heap.size) (by simp [rndV])).1.lt;have hW14:W.heap.size<=w11.heap.size:=by omega
 have BSx:SwB y9 (fun x=>FR x\/rng W y9 x) k cpu node y5.heap.size w14.heap.size y2.heap.size y3.heap.size y1.heap.size y7.heap.size w11.heap.size nF:=
  ⟨(D9x.o y5.heap.size (vi nF) (by simp)).1,D9x.rd (by simp),D9x.rd (by simp),D9x.rd (by simp),D9x.rd (by simp),D9x.rd (by simp [rndV]),(D9x.o w11.heap.size (.bool false) (by simp)).1,
   ⟨.inr ⟨by omega,by omega⟩,.inr ⟨by omega,by omega⟩,.inr ⟨by omega,by omega⟩,.inr ⟨by omega,by omega⟩,.inr ⟨by omega,by omega⟩,.inr ⟨by omega,by omega⟩,.inr ⟨by omega,by omega⟩⟩,by omega,by omega,by omega,by omega,by omega,by omega⟩
 have inF:∀x,x=V.b\/V.rows x->FR x:=fun x h=>h.elim (fun e=>e▸hFb) fun h=>(hR x h).1;generalize hafter:Value.func (Fn.func 112) #[] #[Value.pointer (some (Addr.mk w11.heap.size 0 none)),Value.pointer (some (Addr.mk w4.heap.size 0 none))]=after;have HFx:SwFin k (thenF 1 after Q) Z node y5.heap.size w11.heap.size S pg (fun x=>FR x\/rng W y9 x) y9:=by
  intro W' S' fp' G pg' cnt' hG X' L' hd' hSR hSD kp;refine Ends.step (N:=0) (by rw [<- hafter];rfl) fun W1 kW=>?_;have kG:Kept (fun x=>¬(FR x\/rng W y9 x)\/x=y5.heap.size\/x=w11.heap.size) y9 W1:=kp.trans kW fun x _ hn=>.inl fun h=>hn (.inr (hG x h));have rb:∀{b:Nat}{v:Value},(b,v)∈_->b≠y5.heap.size->b≠w11.heap.size->rd W1 b 0=some v:=fun {b v} hm h1 h2=>kG.rd_some (D9x.rd hm) fun h=>h.elim (fun h=>h (.inr (lt9 hm))) fun h=>h.elim h1 h2;have hdn:rd W1 w11.heap.size 0=some (.bool true):=kW.rd_some hd' fun hn=>hn (.inr (hG _ BSx.inF.2.2.2.2.2.2));rw [<- hafter];refine AM.mk 112 #[] _ rfl (by kernel_rfl) (Calls.ret (vc112 false (some ⟨w11.heap.size,0,none⟩) (some ⟨w4.heap.size,0,none⟩) W1 _ ?_));apply qI;refine AA rfl ⟨true,hdn,AG rfl (AA rfl ⟨rest,rb (b:=w4.heap.size) (by simp) (by omega) (by omega),?_⟩)⟩;have hr0:AM prog rest [] W1 fun e w'=>e=.returned .nilFunc/\Kept AB W1 w':=by
   rw [<- hrest];exact rest_nil (V:=V) (cpu:=cpu) (a:=some ⟨ab,ao,none⟩) (c:=c) hl (rb (b:=W.heap.size) (by simp) (by omega) (by omega)) (rb (b:=w1.heap.size) (by simp) (by omega) (by omega)) (rb (b:=w2.heap.size) (by simp) (by omega) (by omega))
  refine AQ hr0 ?_;rintro _ w' ⟨rfl,j⟩;have XW:=X'.env (G:=Fo fp' G) (fun _ h=>h) kW;have L'':QSt S' Z.rt Z.lf pg' Z.pin Z.A cpu none cnt' Z.tot:=by rw [<- hZ,<- hZc];exact L'
  have AW:WAt w' V gt nn la ca:=((A.k D9x.k).kx kG fun x hx h=>hx.elim (fun hn=>hn (.inl (inF x h))) fun e=>by
   have:=A.lt x h;rcases e with e|e <;> omega).k j
  refine⟨_,rfl,Nx.fin j ?_ (fun x h=>.inl h) 0⟩;subst hQ;exact⟨S',fp',G,gt,nn,la,ca,pg',cnt',none,rfl,fun x h=>hG x (.inl ((h0 x).1 h)),XW.kept j,hSR.c,L'',AW,hSR.no,(fun f e=>by cases e),rfl,hSR,hSD⟩
 obtain⟨hc1,hc2⟩:=L.can_le node;have hst:AN S.c (node+1)=AN S.c node+S.c (18+node):=rfl;have E:=round_ends (cpu:=cpu) (bk:=w14.heap.size) (bn:=y2.heap.size) (be:=y3.heap.size) (bc:=y1.heap.size) (br:=y7.heap.size) HFx (fun x h=>.inl (hC x h)) (fun h=>by have:=X.lt _ (hC _ h);omega) (fun h=>by have:=X.lt _ (hC _ h);omega) (QQ S.c pg Z.pin node) rfl (by omega) (by omega) hnd hcs (fun _ h=>h) X9 L BSx ⟨rfl,fun p f e=>.inl e,fun _=>Iff.rfl⟩ kr;refine(behind_spec hqS (by rw [<- hafter];rfl) _ E (fun x hx=>hx.elim (fun⟨p,hp⟩=>(X9.C.lt p x hp).2) fun h=>X9.lt x h)).mono fun e w' hN=>?_;have hle:(QQ S.c pg Z.pin node+1)*1000+2+1<=33003:=by
  have:=Nat.mul_le_mul_right 1000 (show QQ S.c pg Z.pin node+1<=33 by omega);omega
 obtain⟨v,rfl,h⟩:=(Nx.pre (F:=Fo fp FR) (D9x.k.none) (fun y hy=>by
  rcases hy with h|h|h
  ·exact .inl (.inl h)
  ·exact .inl (.inr h)
  ·exact .inr h) (hN.le hle)).out
 exact⟨v,rfl,v,rfl,h⟩
end
section
variable {S:AL}{pg:Nat->Pg}{pin:Nat->Bool}{pf:Nat->Int}{q t p f i pl:Nat}
end
end Go.Proofs.YtdgbechegbmpcaaGreatDoor
namespace Go.Proofs.YtdgbechegbmpcaaGreatDoor
open Go Go.Eng Go.Proofs.Tryz
open Go.Value (bool func)
open Option (isNone)
open Go.IntKind (wrap)
theorem vc5(x0:Nat->Int)(x94:OA)(x94L x94C:Nat)(x95:OA)(x95L x95C:Nat)(x96:Nat->Int)(node:Int)(w:WD)(K:KV)(h:Q (AW w (List.toArray (AK .i64 x0 0 94++([sl x94 x94L x94C,sl x95 x95L x95C]++AK .i64 x96 0 8))) 29 fun w'=>∃(x:Nat->Int) (P:OA) (Q R:Nat) (S:OA) (T U:Nat) (V:Nat->Int),AS w' w.heap.size 0 (AK .i64 x 0 94++([sl P Q R,sl S T U]++AK .i64 V 0 8))/\CB 8 #[Value.agg (List.toArray (AK .i64 x 0 94++([sl P Q R,sl S T U]++AK .i64 V 0 8)))] w' fun b w'=>∃(x:Int),((!b||decide (node<0))=false->rd w' w.heap.size 0=some (.int .i64 x))/\Wif (!b||decide (node<0)||decide (node>=x)) (CB 9 #[] w' fun b w'=>K (.bool b) w') (∃(x:Nat->Int) (X:OA) (Y C:Nat) (D:OA) (E F:Nat) (G:Nat->Int),AS w' w.heap.size 0 (AK .i64 x 0 94++([sl X Y C,sl D E F]++AK .i64 G 0 8))/\Calls prog 10 #[Value.agg (List.toArray (AK .i64 x 0 94++([sl X Y C,sl D E F]++AK .i64 G 0 8)))] w' fun e w'=>∃(p:OA) (b Z:Bool),e=rT (.tuple #[pt p,bool b,bool Z])/\Wif (!Z) (K (.bool false) w') (Wif (!b) (CB 9 #[] w' fun b w'=>K (.bool b) w') (∀B,B=w'.alloc (.map #[] 0)->RS B w.heap.size 94 fun x H a4=>∃(I:Bool->Int->WD->Nat->Prop),(∃(n:Nat),I false 0 B n)/\∀(b:Bool) (n:Int) (y:WD) (a0:Nat),I b n y a0->Wif (decide (n<(↑H:Int))) (Wp x (Wn n H (Ri y x (Int.toNat n*1) fun o=>∃(z:OA->Int->WD->Prop),(Dr y fun a=>Wp p (Rp a p 0 fun x=>Wp x (Rp a x 94 fun q=>Wp p (Ri a p 106 fun d=>(Calls prog 16 #[pt q,vi d,vi o] a fun e w'=>∃(n h c:Int),e=rT (.tuple #[Value.agg #[vu n,vi h],vi c])/\AW w' #[vu 0,vi 0] 69 fun f=>(wr f w'.heap.size 0/\wr f w'.heap.size 1)/\St (st f w'.heap.size 0 (vu n)) w'.heap.size 1 (vi h) fun r=>z (aD w'.heap.size) c r)/\AW a #[vu 0,vi 0] 69 fun w'=>Rt w' (pb p) (po p+106) (.int .i64 d)<|Rt w' (pb x) (po x+94) (.pointer q)<|Rt w' (pb p) (po p) (.pointer x)<|Calls prog 16 #[pt q,vi d,vi o] w' fun e w'=>∃(n h c:Int),e=rT (.tuple #[Value.agg #[vu n,vi h],vi c])/\(wr w' a.heap.size 0/\wr w' a.heap.size 1)/\St (st w' a.heap.size 0 (vu n)) a.heap.size 1 (vi h) fun f=>z (aD a.heap.size) c f))))/\∀(i:OA) (h:Int) (f:WD),z i h f->Wif (h != 0) (K (.bool false) f) (Dr f fun a=>Wp p (Rp a p 0 fun x=>Wp i (Ri a i 1 fun q=>Calls prog 18 #[pt x,vi q] a fun(e:Ending) (r:WD)=>∃(c:Int),e=rT (vi c)/\∃(s:WD),EA prog 90 (Value.map (some w'.heap.size)) (vi o) (vi c) r s/\Lt a0 fun m=>I b (wrap .i64 (n+1)) s m)))))) (AW y #[vi 3,vi node] 78 fun f=>Calls prog 12 #[pt p,vi 0,sl (aD y.heap.size) 1 1] f fun(e:Ending) (r:WD)=>∃(a1:Bool),e=rT (.bool a1)/\Wif (!a1) (K (.bool false) r) (Calls prog 21 #[pt p,vi 0,vi 72000] r fun(e:Ending) (s:WD)=>∃(a2:Bool),e=rT (.bool a2)/\Wif (!a2) (K (.bool false) s) (RS s w.heap.size 94 fun x o q=>∃(I:Bool->Bool->Int->WD->Nat->Prop),(∃(n:Nat),I b false 0 s n)/\∀(b l:Bool) (n:Int) (j:WD) (h:Nat),I b l n j h->Wif (decide (n<(↑o:Int))) (Wp x (Wn n o (Ri j x (Int.toNat n*1) fun d=>∃(z:OA->Int->WD->Prop),(Dr j fun a=>Wp p (Rp a p 0 fun x=>Wp x (Rp a x 94 fun t=>Wp p (Ri a p 106 fun k=>(Calls prog 16 #[pt t,vi k,vi d] a fun e w'=>∃(n c A:Int),e=rT (.tuple #[Value.agg #[vu n,vi c],vi A])/\AW w' #[vu 0,vi 0] 69 fun g=>(wr g w'.heap.size 0/\wr g w'.heap.size 1)/\St (st g w'.heap.size 0 (vu n)) w'.heap.size 1 (vi c) fun a3=>z (aD w'.heap.size) A a3)/\AW a #[vu 0,vi 0] 69 fun w'=>Rt w' (pb p) (po p+106) (.int .i64 k)<|Rt w' (pb x) (po x+94) (.pointer t)<|Rt w' (pb p) (po p) (.pointer x)<|Calls prog 16 #[pt t,vi k,vi d] w' fun e w'=>∃(n c A:Int),e=rT (.tuple #[Value.agg #[vu n,vi c],vi A])/\(wr w' a.heap.size 0/\wr w' a.heap.size 1)/\St (st w' a.heap.size 0 (vu n)) a.heap.size 1 (vi c) fun g=>z (aD a.heap.size) A g))))/\∀(i:OA) (c:Int) (g:WD),z i c g->gIf (isP i) ((c != 0)=false) (∃(x:Int),((c != 0)=false->rd g (pb i) (po i)=some (.int .u8 x))/\∃(t:Int),((c != 0)=false/\(x != 1)=true->E5 prog 90 (Value.map (some w'.heap.size)) (vi d) false (vi t) g)/\Wif (c != 0||x != 1&&t != node) (K (.bool false) g) (Dr g fun a=>Wp i (Re a i 0 fun x=>∃(k:Int),((x==1)=true->E5 prog 90 (Value.map (some w'.heap.size)) (vi d) false (vi k) a)/\∃(J:OA) (L M:Nat),((x==1&&k==node)=true->rd a w.heap.size 95=some (.slice J L M))/\Wif (x==1&&k==node) (CB 17 #[sl J L M,vi d] a fun u w'=>gIf (isP p) ((!u)=true) (∃(x:OA),((!u)=true->rd w' (pb p) (po p)=some (.pointer x))/\gIf (isP x) ((!u)=true) (∃(O:OA),((!u)=true->rd w' (pb x) (po x+99)=some (.pointer O))/\∃(x:Int),((!u)=true->rd w' w.heap.size 90=some (.int .i64 x))/\Wif (!u) (CI 22 #[pt O] w' fun A w'=>((!u)=true->rd w' w.heap.size 90=some (.int .i64 x)/\True)/\Wif (decide (A<x)) (Lt h fun m=>I b true (wrap .i64 (n+1)) w' m) (Lt h fun m=>I b l (wrap .i64 (n+1)) w' m)) (((!u)=true->rd w' w.heap.size 90=some (.int .i64 x)/\True)/\Lt h fun m=>I b l (wrap .i64 (n+1)) w' m)))) (Lt h fun m=>I b l (wrap .i64 (n+1)) a m))))))) (gIf (isP p) (l=true) (∃(x:OA),(l=true->rd j (pb p) (po p)=some (.pointer x))/\gIf (isP x) (l=true) (∃(d:OA),(l=true->rd j (pb x) (po x+95)=some (.pointer d))/\Wif l (CI 26 #[pt d,vi node] j fun n w'=>Wif (n != 3) (K (.bool false) w') (CB 15 #[pt p] w' fun b w'=>Wif b (CB 25 #[pt p] w' fun b w'=>Wif b (CB 9 #[] w' fun b w'=>K (.bool b) w') (K (.bool false) w')) (K (.bool false) w'))) (CB 15 #[pt p] j fun b w'=>Wif b (CB 25 #[pt p] w' fun b w'=>Wif b (CB 9 #[] w' fun b w'=>K (.bool b) w') (K (.bool false) w')) (K (.bool false) w'))))))))))))):Ret 5 #[Value.agg (List.toArray (AK .i64 x0 0 94++sl x94 x94L x94C::sl x95 x95L x95C::AK .i64 x96 0 8)),vi node] w K:=vcA L7 2 [4000012,101200111,101200120,4000023,102300161,102300170] func5 h
end Go.Proofs.YtdgbechegbmpcaaGreatDoor
namespace Go.Proofs.YtdgbechegbmpcaaGreatDoor
open Go Go.Eng Go.Proofs.Tryz
def whM(pf:Nat->Int)(nd:Nat->Nat)(q:Nat):List (Int×Value):=(List.range q).map fun i=>(pf i,vi (nd i:Nat))
theorem whM_succ(pf:Nat->Int)(nd:Nat->Nat)(q:Nat):whM pf nd (q+1)=whM pf nd q++[(pf q,vi (nd q:Nat))]:=by
 unfold whM;rw [List.range_succ,FU]
 rfl
theorem whM_none{pf:Nat->Int}{nd:Nat->Nat}{q:Nat}(h:∀i,i<q->pf i≠pf q):(whM pf nd q).lookup (pf q)=none:=F9 fun v hv=>by
 obtain⟨i,hi,e⟩:=List.mem_map.1 hv;exact h i (List.mem_range.1 hi) (congrArg Prod.fst e)
theorem SwB0{W:WD}{Y:Nat}{a b:Int}(o:own W Y [.int .u8 a,vi b]):rd W Y 0=some (.int .u8 a)/\rd W Y (0+1)=some (vi b):=⟨by rw [o.rd];rfl,by rw [o.rd];rfl⟩
set_option maxHeartbeats 16000000 in
theorem QO{w:WD}(hz:F4 w)(TR:GF w){x0:Nat->Int}{pa:OA}{pl pc:Nat}{ia:OA}{il ic:Nat}{x96 pf nf:Nat->Int}(node:Int)(PG:CL w pa pl pf)(PN:CL w ia il nf) :
 Calls prog 5 #[.agg (AK .i64 x0 0 94++([Value.slice pa pl pc,Value.slice ia il ic]++AK .i64 x96 0 8)).toArray,vi node] w fun e w'=>e=.returned (.bool true)/\Kept AB w w':=by
 refine(vc5 x0 pa pl pc ia il ic x96 node w (fun v w'=>v=.bool true/\Kept AB w w') ?_).mono ?_
 rotate_left
 ·rintro e w' ⟨v,rfl,rfl,h⟩;exact⟨rfl,h⟩
 unfold Q;intro w1 e1;have o1:=AD e1;have k1:=kal e1;have l1:=o1.lt;have rall:∀{W:WD},Kept AB w1 W->AS W w.heap.size 0 (AK .i64 x0 0 94++([Value.slice pa pl pc,Value.slice ia il ic]++AK .i64 x96 0 8)):=fun kk=>(o1.k kk).AS 0 fun j hj=>by rw [za]
 have rx:∀{W:WD}{j:Nat},Kept AB w1 W->j<94->rd W w.heap.size j=some (vi (x0 j)):=fun kk hj=>by rw [(o1.k kk).rd,gal (by rw [AI];exact hj),AT _ _ _ _ _ hj,za]
 have known:=fun {W:WD} (kk:Kept AB w W)=>known_spec (hz.k kk) (TR.k kk);refine⟨x0,pa,pl,pc,ia,il,ic,x96,rall kr,(small_spec (PG.k k1) (PN.k k1)).mono ?_⟩;rintro _ w2 ⟨b,rfl,k2,hO⟩;have k12:=k1.tr k2;refine⟨b,rfl,x0 0,(fun _=>rx k2 (by decide)),AE (fun hb=>(known k12).mono ?_) (fun hb=>?_)⟩
 ·rintro _ w3 ⟨rfl,k3⟩;exact⟨true,rfl,rfl,k12.tr k3⟩
 simp only [Bool.or_eq_false_iff,Bool.not_eq_false',decide_eq_false_iff_not] at hb;obtain⟨⟨hb0,hcp0⟩,hcp1⟩:=hb;obtain⟨u,rfl⟩:∃u:Nat,node=(u:Int):=⟨node.toNat,by omega⟩;have O:=hO hb0;have hz2:=hz.k k12;refine⟨x0,pa,pl,pc,ia,il,ic,x96,rall k2,(begun_spec hz2 (KO (hz2 0 (by decide))) O).mono ?_⟩;rintro _ w3 ⟨v,rfl,k3,⟨_,p,rfl⟩|⟨k,β,S,fp,FR,rt,lf,pg,pin,ta,tl,tc,A,rfl,Bg⟩⟩
 ·have k13:=k12.tr k3;refine⟨p,false,true,rfl,AG rfl (AA rfl ((known k13).mono ?_))⟩;rintro _ w6 ⟨rfl,k6⟩;exact⟨true,rfl,rfl,k13.tr k6⟩
 have k13:=k12.tr k3;have s23:=k3.sz;have s12:=k2.sz;refine⟨some ⟨β 23,0,none⟩,true,true,rfl,AG rfl (AG rfl fun w4 e4=>?_)⟩;have m4:BE w4 w3.heap.size []:=J5 e4;have k4:Kept AB w3 w4:=e4▸kr.allocMap _ _;have l4:=m4.lt;have C3:=Bg.L.G.X.C;have hs:=C3.BO;have hn4:=C3.n4;have hmy:=C3.my;have hc0:S.c=x0:=Bg.c;have hnod:x0 0=(S.nodes:Nat):=by rw [<- hc0];exact hs.1.2.2.symm
 have hun:u<S.nodes:=by omega
 have far:∀{W:WD},Kept (·=w3.heap.size) w4 W->Kept AB w3 W:=fun S=>BD k4 S fun y e=>by omega
 have rb:∀{W:WD},Kept AB w3 W->rd W (β 23) 0=some (ptr k):=fun kk=>kk.rd_some (by rw [Bg.L.R.so.rd];rfl) id;have r106:∀{W:WD},Kept AB w3 W->rd W (β 23) (0+106)=some (vi (rt:Nat)):=fun kk=>kk.rd_some (by rw [za,Bg.L.R.so.rd];rfl) id;have L0:=Bg.Q 0;have hpl:=O.lp;have rb94:∀{W:WD},Kept AB w3 W->rd W w.heap.size 94=some (.slice pa pl pc)/\rd W w.heap.size 95=some (.slice ia il ic):=fun kk=>by
  have o:=o1.k ((k2.tr k3).tr kk);constructor
  ·rw [o.rd,gar (by rw [AI];omega),AI];rfl
  ·rw [o.rd,gar (by rw [AI];omega),AI];rfl
 obtain⟨nd,hnd⟩:∃nd:Nat->Nat,∀i,i<pl->∃f,pg (pf i).toNat=.fr f/\nd i<S.nodes/\AN S.c (nd i)<=f/\(f:Int)<AN S.c (nd i+1):=by
  have key:∀i,i<pl->∃n f,pg (pf i).toNat=.fr f/\n<S.nodes/\AN S.c n<=f/\(f:Int)<AN S.c (n+1):=fun i hi=>by
   have hr:=O.rg i hi;obtain⟨f,hf⟩:=(Bg.pg1 (pf i).toNat).2 ⟨i,hi,by show pf i=_;omega⟩;obtain⟨n,h1,h2,h3⟩:=frame_node C3 (L0.pgo _ f hf).2.1;exact⟨n,f,hf,h1,h2,h3⟩
  exact⟨fun i=>if h:i<pl then(key i h).choose else 0,fun i hi=>by simp only [hi,dif_pos];exact(key i hi).choose_spec⟩
 refine⟨pa,pl,pc,(rb94 k4).1,fun bb n W m=>∃q:Nat,bb=false/\n=q/\q<=pl/\m=pl-q/\BE W w3.heap.size (whM pf nd q)/\Kept (·=w3.heap.size) w4 W,⟨_,0,rfl,rfl,Nat.zero_le _,rfl,m4,Kept.refl _ _⟩,?_⟩;rintro _ _ W3 _ ⟨q,rfl,rfl,hq,rfl,M3,T3⟩;have K8:=far T3;refine AE (fun hc=>?_) (fun hc=>?_)
 ·have hqp:q<pl:=by simp at hc;omega
  obtain⟨g1',g2'⟩:=O.rg q hqp;obtain⟨p,hp⟩:∃p:Nat,pf q=p:=⟨(pf q).toNat,by omega⟩;have hp32:p<32:=by omega
  obtain⟨f,hpg,hi,h1,h2⟩:=hnd q hqp;rw [hp,tnc] at hpg;obtain⟨g1,g2,g3⟩:=L0.get C3 hp32;rw [L0.root,hpg] at g2 g3;rw [L0.root] at g1;have PGW:=PG.k (k13.tr K8);refine AA (PGW.p (by omega)).1 (Wi ⟨(p:Int),by rw [tnc,mo,<- hp];exact PGW.at' q hqp,fun p1 n3 W=>∃Y,p1=some ⟨Y,0,none⟩/\n3=0/\own W Y [.int .u8 1,vi (f:Nat)]/\Kept AB W3 W,fun W4 E4=>?_,?_⟩)
  ·have j1:=kdr E4;have K9:=K8.tr j1;have C9:=C3.k K9;refine AA rfl ⟨_,rb K9,AA rfl ⟨_,C9.rtW kr (j:=0) rfl,AA rfl ⟨(rt:Int),r106 K9,?_,fun W5 E5x=>?_⟩⟩⟩
   ·refine(NO C9 L0.by' rt p).mono ?_;rintro _ W5 ⟨rfl,j2⟩;refine⟨_,_,_,rfl,fun W6 E6x=>?_⟩;have o3:=AD E6x;have k3':=kal E6x;refine⟨⟨o3.wr (by decide),o3.wr (by decide)⟩,fun W7 E7x=>?_⟩;have o7:=o3.s2 E7x;have k7':Kept (·=W5.heap.size) W6 W7:=by rw [E7x];exact((Kept.refl (·=W5.heap.size) W6).st (.inl rfl)).st (.inl rfl)
    rw [g2,g3] at o7;exact⟨_,rfl,g1,o7,(j1.tr j2).tr (BD k3' k7' fun x e=>Nat.le_of_eq e.symm)⟩
   ·have o3:=AD E5x;have k3':=kal E5x;have K10:=K9.tr k3';have C10:=C3.k K10;refine⟨⟨r106 K10,trivial⟩,⟨C10.rtW kr (j:=0) rfl,trivial⟩,⟨rb K10,trivial⟩,(NO C10 L0.by' rt p).mono ?_⟩;rintro _ W6 ⟨rfl,j2⟩;have o3':=o3.k j2;refine⟨_,_,_,rfl,⟨o3'.wr (by decide),o3'.wr (by decide)⟩,fun W7 E7x=>?_⟩;have o7:=o3'.s2 E7x;have k7':Kept (·=W4.heap.size) W6 W7:=by rw [E7x];exact((Kept.refl (·=W4.heap.size) W6).st (.inl rfl)).st (.inl rfl)
    rw [g2,g3] at o7;exact⟨_,rfl,g1,o7,j1.tr (BD (k3'.tr j2) k7' fun x e=>Nat.le_of_eq e.symm)⟩
  ·rintro _ _ W5 ⟨Y,rfl,rfl,oY,j5⟩;refine AG rfl fun W6 E6x=>?_;have j6:=kdr E6x;have K12:=(K8.tr j5).tr j6;refine AA rfl ⟨_,rb K12,AA rfl ⟨(f:Nat),(SwB0 (oY.k j6)).2,(JQ (C3.k K12) hi h1 h2).mono ?_⟩⟩;rintro _ W7 ⟨rfl,j7⟩;have j57:=(j5.tr j6).tr j7;have hno:=whM_none (pf:=pf) (nd:=nd) (q:=q) fun i hi' e=>by have:=O.inj i q (by omega) hqp e;omega
   obtain⟨W8,hu,M8,k8⟩:=MG (P:=prog) (mt:=90) (kt:=3) underlying90 underlying3 (M3.k j57) (pf q) (vi (nd q:Nat)) (by omega) hno;rw [<- whM_succ] at M8;rw [hp] at hu;exact⟨_,rfl,W8,hu,pl-(q+1),by omega,q+1,rfl,wzz,hqp,rfl,M8,(T3.trans j57 fun _ _ e=>e.elim).trans k8 fun _ _ e=>e⟩
 have hqe:q=pl:=by simp at hc;omega
 subst hqe;clear hc hq;intro w6 e6;have o6:=AD e6;have k6:=kal e6;have kk:Kept AB w3 w6:=K8.tr k6;have hab:w3.heap.size<=W3.heap.size:=K8.sz;have hmb:w3.heap.size<W3.heap.size:=M3.lt;have D0:=Bg.rdy kk (ab:=W3.heap.size) hab o6.lt;have hsc:=D0.X.C.BO;have hr:rd w6 W3.heap.size 0=some (vi 3)/\rd w6 W3.heap.size (0+1)=some (vi (u:Nat)):=⟨by rw [o6.rd];rfl,by rw [o6.rd];rfl⟩;have hmid:(wvB (⟨k,w2.heap.size,S.AO,x0,pa,q,pc,ia,il,ic,x96⟩:BP) β rt lf ta tl tc).mid[0]? = some (vi (S.nodes:Nat)):=by rw [<- hnod];exact midB_x0 (i:=0) (by decide)
 have hP:=prog_swapd (cpu:=0) (c:=1) (ab:=W3.heap.size) (ao:=0) (node:=u) (Z:=⟨rt,lf,pin,A,0,none,q⟩) (FR0:=ER FR β W3.heap.size) D0.X rfl rfl (D0.L 0) D0.wa rfl (by rw [D0.n];omega) (by omega) (nlr _) hun hmid hr (fun _=>Iff.rfl) (fun x h=>D0.rows x (.inr h)) (D0.rows _ (.inl rfl));rw [D0.c] at hP;refine(drive_spec D0 (by rw [D0.n];omega) hP).mono ?_;rintro _ w7 ⟨rfl,k7,H⟩;refine⟨true,rfl,AG rfl ((H 72000 (by decide) (by decide)).mono ?_)⟩;rintro _ w8 ⟨rfl,S',fp',G,gt,nn,la,ca,pg',cnt,hd,D⟩;have hX:=fun x h=>Bg.w.outhi (ab:=W3.heap.size) (x:=x) h;have hXl:=fun x h=>Bg.w.outlo (ab:=W3.heap.size) (x:=x) hab h;have M9:∀{W:WD},Kept AB w8 W->BE W w3.heap.size (whM pf nd q):=fun kq=>((M3.k k6).kx D.kp fun e=>by rcases hX _ e with h|h <;> omega).k kq;have k38:∀{b o:Nat}{v:Value}{W:WD},b<w2.heap.size->rd w3 b o=some v->Kept AB w8 W->rd W b o=some v:=fun hb h kq=>kq.rd_some (D.kp.rd_some (kk.rd_some h id) fun e=>by have:=hXl _ e;omega) id;have rk8:∀{W:WD},Kept AB w8 W->rd W (β 23) 0=some (ptr k):=fun kq=>kq.rd_some D.wa.rd0 id;have r106':∀{W:WD},Kept AB w8 W->rd W (β 23) (0+106)=some (vi (rt:Nat)):=fun kq=>by
  have:=NW D.wa (MV (i:=10) rfl);exact kq.rd_some (by rw [za];exact this) id
 have rc94:∀{W:WD},Kept AB w8 W->rd W w.heap.size 94=some (.slice pa q pc)/\rd W w.heap.size 95=some (.slice ia il ic)/\rd W w.heap.size 90=some (vi (x0 90)):=fun kq=>⟨k38 (by omega) (rb94 kr).1 kq,k38 (by omega) (rb94 kr).2 kq,k38 (by omega) (rx (k2.tr k3) (by decide)) kq⟩;obtain⟨rfl,hR,hDn⟩:=D.r;have C8:=D.X.C;have hDc:S'.c=x0:=D.c;have L8:QSt S' rt lf pg' pin A 0 none cnt q:=D.L;have hcu:(owns S'.AP S'.sof).length+cnt=q:=L8.cu;have hsl:((S'.AP:Nat):Int)=x0 90:=by rw [<- hDc];exact C8.BO.2.2.2
 have hn':S'.nodes=S.nodes:=by unfold AL.nodes;rw [D.c,hc0]
 have PG8:∀{W:WD},Kept AB w8 W->CL W pa q pf:=fun kq=>(((O.pg.k (k3.tr kk))).kx D.kp fun hl e=>by have:=hXl _ e;have:=(O.pg.p hl).2;omega).k kq;have PN8:∀{W:WD},Kept AB w8 W->CL W ia il nf:=fun kq=>(((O.pn.k (k3.tr kk))).kx D.kp fun hl e=>by have:=hXl _ e;have:=(O.pn.p hl).2;omega).k kq;have f10:=fun {W3':WD} (kq:Kept AB w8 W3')=>fineW Bg.w kk (ab:=W3.heap.size) hab (O.pg.k (k3.tr kk)) (fun hl=>(O.pg.p hl).2) (O.pn.k (k3.tr kk)) (fun hl=>(O.pn.p hl).2) O.lp O.ln O.rg (TR.k ((k12.tr k3).tr kk)) (TR.k k12).lt D kq;have farW:∀{W:WD},Kept AB w8 W->Kept AB w W:=fun kq=>(BD (k12.tr (k3.tr kk)) D.kp fun x h=>by have:=hXl _ h;have:=k12.sz;omega).tr kq;have fin:∀{W:WD},Kept AB w8 W->Calls prog 15 #[ptr (β 23)] W fun e w'=>∃b:Bool,e=.returned (.bool b)/\Wif b (Calls prog 25 #[ptr (β 23)] w' fun e w'=>∃b:Bool,e=.returned (.bool b)/\Wif b (Calls prog 9 #[] w' fun e w'=>∃b:Bool,e=.returned (.bool b)/\(Value.bool b=.bool true/\Kept AB w w')) (Value.bool false=.bool true/\Kept AB w w')) (Value.bool false=.bool true/\Kept AB w w'):=by
  intro W kq;refine(f10 kq).1.mono ?_;rintro _ Wa ⟨rfl,q1⟩;refine⟨true,rfl,AA rfl ((f10 (kq.tr q1)).2.mono ?_)⟩;rintro _ Wb ⟨rfl,q2⟩;refine⟨true,rfl,AA rfl ((known (farW ((kq.tr q1).tr q2))).mono ?_)⟩;rintro _ Wc ⟨rfl,q3⟩;exact⟨true,rfl,rfl,(farW ((kq.tr q1).tr q2)).tr q3⟩
 refine⟨true,rfl,AG rfl ⟨pa,q,pc,(rc94 kr).1,fun bb b2 n W m=>∃j:Nat,n=j/\j<=q/\m=q-j/\Kept AB w8 W/\(b2=true->S'.c 93<(AX (S'.L u):Int)),⟨_,0,rfl,Nat.zero_le _,rfl,Kept.refl _ _,(fun h=>by cases h)⟩,?_⟩⟩;rintro bb b2 _ W5 _ ⟨j,rfl,hj,rfl,k9,hb2⟩;refine AE (fun hc=>?_) (fun hc=>?_)
 ·have hjq:j<q:=by simp at hc;omega
  obtain⟨g1',g2'⟩:=O.rg j hjq;obtain⟨p,hp⟩:∃p:Nat,pf j=p:=⟨(pf j).toNat,by omega⟩;have hp32:p<32:=by omega
  obtain⟨f,hpg,hi,h1,h2⟩:=hnd j hjq;rw [hp,tnc] at hpg;obtain⟨g1,g2,g3⟩:=L8.get C8 hp32;rw [L8.root] at g1 g2 g3;have PGW:=PG8 k9;have hlk:(whM pf nd q).lookup (p:Int)=some (vi (nd j:Nat)):=lookup_of_mem (M9 k9).nd (by rw [<- hp];exact List.mem_map.2 ⟨j,List.mem_range.2 hjq,rfl⟩);refine AA (PGW.p (by omega)).1 (Wi ⟨(p:Int),by rw [tnc,mo,<- hp];exact PGW.at' j hjq,fun p1 n3 W=>∃Y,p1=some ⟨Y,0,none⟩/\n3=0/\own W Y [.int .u8 (kindP (pg' p)),vi (numP (pg' p))]/\Kept AB W5 W,fun W6 E6x=>?_,?_⟩)
  ·have j1:=kdr E6x;have K9:=k9.tr j1;have C9:=C8.k K9;refine AA rfl ⟨_,rk8 K9,AA rfl ⟨_,C9.rtW kr (j:=0) rfl,AA rfl ⟨(rt:Int),r106' K9,?_,fun W7 E7x=>?_⟩⟩⟩
   ·refine(NO C9 L8.by' rt p).mono ?_;rintro _ W7 ⟨rfl,j2⟩;refine⟨_,_,_,rfl,fun W8 E8x=>?_⟩;have o3:=AD E8x;have k3':=kal E8x;refine⟨⟨o3.wr (by decide),o3.wr (by decide)⟩,fun W9 E9x=>?_⟩;have o7:=o3.s2 E9x;have k7':Kept (·=W7.heap.size) W8 W9:=by rw [E9x];exact((Kept.refl (·=W7.heap.size) W8).st (.inl rfl)).st (.inl rfl)
    rw [g2,g3] at o7;exact⟨_,rfl,g1,o7,(j1.tr j2).tr (BD k3' k7' fun x e=>Nat.le_of_eq e.symm)⟩
   ·have o3:=AD E7x;have k3':=kal E7x;have K10:=K9.tr k3';have C10:=C8.k K10;refine⟨⟨r106' K10,trivial⟩,⟨C10.rtW kr (j:=0) rfl,trivial⟩,⟨rk8 K10,trivial⟩,(NO C10 L8.by' rt p).mono ?_⟩;rintro _ W8 ⟨rfl,j2⟩;have o3':=o3.k j2;refine⟨_,_,_,rfl,⟨o3'.wr (by decide),o3'.wr (by decide)⟩,fun W9 E9x=>?_⟩;have o7:=o3'.s2 E9x;have k7':Kept (·=W6.heap.size) W8 W9:=by rw [E9x];exact((Kept.refl (·=W6.heap.size) W8).st (.inl rfl)).st (.inl rfl)
    rw [g2,g3] at o7;exact⟨_,rfl,g1,o7,j1.tr (BD (k3'.tr j2) k7' fun x e=>Nat.le_of_eq e.symm)⟩
  ·rintro _ _ W7 ⟨Y,rfl,rfl,oY,j5⟩;have K7:=k9.tr j5;have hY:=SwB0 oY;have lkv:∀{W:WD},Kept AB w8 W->E5 prog 90 (.map (some w3.heap.size)) (vi (p:Nat)) false (vi (nd j:Nat)) W:=fun {W} kq=>by
    have lk:=look1 (P:=prog) (mt:=90) (vt:=3) (kt:=3) underlying90 underlying3 (M9 kq) (p:Int) (Tryz.zeroValue3 W);rw [hlk] at lk;exact lk
   have hpgs:=hR.pgs p f hpg;have hkind:(kindP (pg' p)=1/\pg' p=.fr f)\/(kindP (pg' p)=2/\nd j=u):=by
    rcases hpgs with h|⟨⟨s,h⟩,h3,h4⟩
    ·exact .inl ⟨by rw [h];rfl,h⟩
    ·exact .inr ⟨by rw [h];rfl,CH hmy (f:=(f:Int)) (by unfold AL.nodes at hi;exact hi) (by unfold AL.nodes at hun;exact hun) h1 h2 h3 h4⟩
   have hno:((0:Int)!=0||kindP (pg' p)!=1&&((nd j:Nat):Int)!=(u:Int))=false:=by
    rcases hkind with⟨h,_⟩|⟨h,h'⟩
    ·rw [h];rfl
    ·rw [h,h'];simp
   have nx:∀{W:WD} (kq:Kept AB w8 W) (c':Bool),(c'=true->S'.c 93<(AX (S'.L u):Int))->∃m,Nat.succ m<=q-j/\∃j':Nat,IntKind.wrap .i64 ((j:Int)+1)=j'/\j'<=q/\m=q-j'/\Kept AB w8 W/\(c'=true->S'.c 93<(AX (S'.L u):Int)):=fun kq c' hc'=>⟨q-(j+1),by omega,j+1,wzz,hjq,rfl,kq,hc'⟩;refine AF (fun _=>rfl) ⟨_,(fun _=>hY.1),_,(fun _=>lkv K7),AG hno fun W8 E8x=>?_⟩;have K8':=K7.dr E8x;refine AA rfl ⟨_,((Kept.refl AB W7).dr E8x).rd_some hY.1 id,_,(fun _=>lkv K8'),ia,il,ic,(fun _=>(rc94 K8').2.1),AE (fun hk=>?_) (fun hk=>nx K8' _ hb2)⟩;simp only [Bool.and_eq_true,beq_iff_eq] at hk;obtain⟨hk1,hk2⟩:=hk;have hndu:nd j=u:=by omega
   have hpf:pg' p=.fr f:=by
    rcases hkind with⟨_,h⟩|⟨h,_⟩
    ·exact h
    ·omega
   refine(nums_has (PN8 K8') (by have:=O.ln;omega) (p:Int)).mono ?_;rintro _ wx ⟨rfl,hwx⟩;rw [hwx];have hpn:=Bg.pn p;refine⟨_,rfl,AF (fun _=>rfl) ⟨_,(fun _=>rk8 K8'),AF (fun _=>rfl) ⟨_,(fun _=>(C8.k K8').rtW kr (j:=5) rfl),x0 90,(fun _=>(rc94 K8').2.2),AE (fun h=>?_) (fun h=>?_)⟩⟩⟩
   ·have hni:¬∃i,i<il/\nf i=(p:Int):=by simpa using h
    have hpf0:pin p=false:=by
     cases e:pin p with
     | false=>rfl
     | true=>exact absurd (hpn.1 e).2 hni
    refine(core_used (C8.k K8')).mono ?_;rintro _ W9 ⟨rfl,j9⟩;have K9:=K8'.tr j9;refine⟨_,rfl,(fun _=>⟨(rc94 K9).2.2,trivial⟩),AE (fun hlt=>nx K9 true fun _=>?_) (fun _=>nx K9 _ hb2)⟩;have hlt:(((owns S'.AP S'.sof).length:Nat):Int)<x0 90:=by simpa using hlt
    rcases hDn with h'|h'|h'
    ·exact h'
    ·have:=(L8.noslot).2.1 h';omega
    ·have:=h' p f hpf (by rw [hDc,<- hc0,<- hndu];exact h1) (by rw [hDc,<- hc0,<- hndu];exact h2);have:pin p=true:=this;rw [hpf0] at this
     cases this
   ·exact⟨(fun _=>⟨(rc94 K8').2.2,trivial⟩),nx K8' _ hb2⟩
 ·refine AF (fun _=>rfl) ⟨_,(fun _=>rk8 k9),AF (fun _=>rfl) ⟨_,(fun _=>(C8.k k9).rtW kr (j:=1) rfl),AE (fun hb=>?_) (fun _=>fin k9)⟩⟩;have hw:=hb2 hb;refine(state_spec (C8.k k9) (i:=u) (by omega)).mono ?_;rintro _ wx ⟨n,rfl,hwx,hn⟩;rw [hwx];have hn3:n=3:=hn.2 hw;exact⟨n,rfl,AG (by rw [hn3];rfl) (fin k9)⟩
end Go.Proofs.YtdgbechegbmpcaaGreatDoor
