/- Part of a proof that a law returns true. Conditions: those in each theorem. -/
import Derived.Test.YtdgbechegbmpcaaGreatDoorSV7
import Derived.Test.YtdgbechegbmpcaaGreatDoorB0
import Derived.Test.YtdgbechegbmpcaaGreatDoorQ2
import Derived.Test.YtdgbechegbmpcaaGreatDoorQ12
set_option linter.unusedSimpArgs false
set_option linter.unusedVariables false
set_option maxRecDepth 100000
namespace Go.Proofs.YtdgbechegbmpcaaGreatDoor
open Go Go.Eng Go.Proofs.Tryz
theorem AL.lh0{S:AL}(h:S.lh=fun _=>0):({S with lh:=fun _=>0}:AL)=S:=by
 cases S
 simp only at h;subst h;rfl
section
variable {k N:Nat}{Q:Fin}{cpu:Nat}{th:Value}{Z:Fx}{ln:Nat->Nat}
set_option maxHeartbeats 4000000 in
theorem pass_spec(ht:isF th=true):∀(xs:List Nat) {w:WD}{S:AL}{fp:Prt->Nat->Prop}{FR:NP}{a:OA}{l c:Nat}{pg:Nat->Pg}{cnt:Nat},(∀x,Q.C x->FR x)->Ctx k S fp FR w->Z.St S pg cnt->cpu<S.AO->Nds w FR a l c xs->(∀x∈xs,x<S.nodes)->(∀i,i<S.nodes->(S.ring i).length=ln i)->IU k N Q Z th xs S pg cnt FR w fp->
 Calls prog 123 #[ptr k,vi cpu,.slice a l c,th] w (Nx (N+IG ln xs) Q (Fo fp FR) w):=by
 have hto:=GY ht;intro xs
 induction xs with
 | nil=>
  intro w S fp FR a l c pg cnt hC X L hcp R hx hln H;obtain rfl:l=0:=R.len;refine Calls.ret (vc123 _ cpu a 0 c th w _ ?_);apply qI;rw [show Value.cells th=[th].toArray from EV hto];intro w1 e1 w2 e2 w3 e3 w4 e4;have B:=((((Bx.nil w).al e1).al e2).al e3).al e4;refine⟨_,_,_,B.rd (b:=w2.heap.size) (v:=.slice a 0 c) (by simp),AA rfl (IS (N:=N) X B.k rfl fun W X1 k1 L1=>?_)⟩;refine AM.mk 197 #[] _ rfl (by kernel_rfl) (Calls.ret (vc197 false (some ⟨w3.heap.size,0,none⟩) W _ ?_));apply qI;have hG:∀y,FR y->(FR y\/rng w w4 y):=fun y h=>.inl h;exact AA rfl ⟨th,B.rr k1 (b:=w3.heap.size) (by simp),AQ (H.1 S (FC.refl S) L (.inr fun i hi=>by cases hi) W fp (X1.less hG) L1) fun e w' hN=>(hN.wk hG (nlr _)).out⟩
 | cons x xs ih=>
  intro w S fp FR a l c pg cnt hC X L hcp R hx hln H;obtain⟨r1,r2,r3,r4,r5⟩:=R.fst;have hxn:=hx x mcs;have hsz:=X.C.BO;refine Calls.ret (vc123 _ cpu a l c th w _ ?_);apply qI;rw [show Value.cells th=[th].toArray from EV hto];intro w1 e1 w2 e2 w3 e3 w4 e4;have B:=((((Bx.nil w).al e1).al e2).al e3).al e4;refine⟨_,_,_,B.rd (b:=w2.heap.size) (v:=.slice a l c) (by simp),AG (by simp;omega) ⟨a,l,c,B.rd (b:=w2.heap.size) (by simp),AA r1 (Wi ⟨x,B.k.rd_some r5 id,fun w6 e6=>⟨Bx.wr0 e6,fun w7 e7 w8 e8=>?_⟩⟩)⟩⟩;have e9:IntKind.wrap .i64 (9+((x:Nat):Int))=((9+x:Nat):Int):=by rw [wi (by omega)];omega
  rw [e9] at e7;have B8:=((B.al2 e6 e7).2).dr e8;refine⟨_,B8.rd (b:=w.heap.size) (v:=ptr k) (by simp),AA rfl ⟨_,by have:=X.C.rtW B8.k (j:=3) rfl;exact this,cpu,B8.rd (b:=w1.heap.size) (by simp),((9+x:Nat):Int),B8.rd (b:=w4.heap.size) (by simp),?_⟩⟩;refine(IJ (N:=N+IG ln xs+30*ln x) (Q:=Q) hC X B8.k (who:=cpu) (i:=9+x) (by omega) (by omega) (by rw [L.lh]) (fun j _ _=>by rw [L.lh];show(0:Int)≠_;omega) rfl fun W fp1 X1 k1 L1=>?_).mono fun e w' ⟨v,hv,hN⟩=>⟨v,hv,hN.le (by show _<=N+(2+30*ln x+IG ln xs);omega)⟩;have rr:=fun {b:Nat}{v:Value}{W':WD} (kk:Kept (fun y=>¬(FR y\/rng w w8 y)) W W') (hm:(b,v)∈_)=>B8.rr (Kept.oo k1 kk) hm;have hG:∀y,FR y->(FR y\/rng w w8 y):=fun y h=>.inl h;have hCG:∀y,Q.C y->(FR y\/rng w w8 y):=fun y h=>.inl (hC y h);have R1:Nds W FR a l c (x::xs):=(R.to B8.k.none fun _ h=>h).to (k1.mono fun y _ hn hf=>hn (.inl hf)) fun _ h=>h;refine AM.mk 198 #[] _ rfl (by kernel_rfl) (Calls.ret (vc198 false (some ⟨w.heap.size,0,none⟩) (some ⟨w2.heap.size,0,none⟩) (some ⟨w1.heap.size,0,none⟩) (some ⟨w4.heap.size,0,none⟩) (some ⟨w3.heap.size,0,none⟩) W _ ?_));apply qI;intro x1 d1;have M1:=X1.mv0 (kr.dr d1);have m1:=M1.L.kp;obtain⟨g,cp,u,Hh,hv,hu,hA⟩:=core_clkAt M1.X.C (i:=x) hxn;obtain⟨cb,_,_,_,_,rfl,_⟩:=hA.ex;have hv2:S.vck=.slice (some ⟨g,0,none⟩) S.nodes cp:=hv;have hckr:∀{W':WD}{S':AL}{fp':Prt->Nat->Prop},AJ W' k S' fp'->S'.vck=S.vck->rd W' k (0+100)=some (.slice (some ⟨g,0,none⟩) S.nodes cp):=fun C e=>by
   have:=C.rtW kr (j:=6) rfl;rw [e] at this;rw [<- hv2];exact this
  refine AA rfl ⟨_,rr m1 (b:=w.heap.size) (v:=ptr k) (by simp),AA rfl ⟨a,l,c,rr m1 (b:=w2.heap.size) (by simp),AA r1 (Wi ⟨x,R1.fst2 m1 hG,AA rfl ⟨_,rr m1 (b:=w.heap.size) (v:=ptr k) (by simp),AA rfl ⟨_,_,_,hckr M1.X.C rfl,AA rfl ⟨a,l,c,rr m1 (b:=w2.heap.size) (by simp),AA r1 (Wi ⟨x,R1.fst2 m1 hG,AA rfl (Wi ⟨some ⟨cb,0,none⟩,by rw [tnc,mo];show rd x1 g (0+x)=_;rw [za];exact hu,(reap_spec M1.X.C (i:=x) hxn).mono ?_⟩)⟩)⟩⟩⟩⟩)⟩⟩;rintro _ x2 ⟨rfl,d2⟩;have M2:=M1.tr (M1.X.mv0 d2);have m2:=M2.L.kp;have A2:=AV.stb.kx _ _ _ _ AB hA d2 fun _ e=>e.elim;refine⟨0,rfl,⟨by rw [tnc,mo];show rd x2 g (0+x)=_;rw [za];exact d2.rd_some hu id,trivial⟩,⟨R1.fst2 m2 hG,trivial⟩,⟨rr m2 (b:=w2.heap.size) (v:=.slice a l c) (by simp),trivial⟩,⟨hckr M2.X.C rfl,trivial⟩,⟨rr m2 (b:=w.heap.size) (v:=ptr k) (by simp),trivial⟩,(clen_spec A2).mono ?_⟩;rintro _ wx ⟨rfl,hwx⟩;rw [hwx];refine⟨_,rfl,⟨rr m2 (b:=w.heap.size) (v:=ptr k) (by simp),trivial⟩,AA rfl ⟨_,rr m2 (b:=w.heap.size) (v:=ptr k) (by simp),AA rfl ⟨cpu,rr m2 (b:=w1.heap.size) (by simp),AA rfl ⟨((9+x:Nat):Int),rr m2 (b:=w4.heap.size) (by simp),fun x3 d3=>?_⟩⟩⟩⟩;have o3:=AD d3;have M3:=M2.tr (M2.X.mv0 (kr.al d3));have nb:∀q,¬fp1 q x2.heap.size:=fun q hq=>by have:=(M2.X.C.lt q _ hq).2;omega
  have hun:unl (upd S.lh (9+x) ((cpu:Int)+1)) [9+x] 0=fun _=>0:=by
   funext j;unfold unl;rw [L.lh];by_cases e:j=9+x
   ·rw [if_pos (by simp [e])]
   ·rw [if_neg (by simpa using e),AH _ _ e]
  refine(JZ M3.X (xs:=[9+x]) (who:=cpu) (n:=1) o3 nb rfl (by simp) (by omega) (by simp) (fun y hy=>?_) (f0:=fun _=>0) hun).mono ?_
  ·simp at hy;subst hy;exact⟨by show 9+x<9+S.nodes;omega,by show upd S.lh (9+x) _ (9+x)=_;rw [upd_same]⟩
  rintro _ x4 ⟨rfl,fp4,M34⟩;have M4:=M3.tr M34;have m4:=M4.L.kp;have eS:({S with lh:=fun _=>0}:AL)=S:=AL.lh0 L.lh;have X4:Ctx k S fp4 (fun y=>FR y\/rng w w8 y) x4:=by
   have:=M4.X;rw [<- eS];exact this
  have L4:=L1.trans (M4.L.less hG);have hring:(S.ring x).length=ln x:=hln x hxn;have h32:=L.O5 hxn;have e3:IntKind.wrap .i64 (3*(((S.ring x).length:Nat):Int))=((3*ln x:Nat):Int):=by rw [wi (by omega)];omega
  refine⟨rfl,AG rfl (AA rfl ⟨_,rr m4 (b:=w.heap.size) (v:=ptr k) (by simp),AA rfl ⟨cpu,rr m4 (b:=w1.heap.size) (by simp),AA rfl ⟨a,l,c,rr m4 (b:=w2.heap.size) (by simp),AA rfl ⟨th,rr m4 (b:=w3.heap.size) (by simp),?_⟩⟩⟩⟩)⟩;have e3':IntKind.wrap .i64 (3*((((S.DX (upd S.lh (9+x) ((cpu:Int)+1))).ring x).length:Nat):Int))=((3*ln x:Nat):Int):=e3;rw [e3'];have R4:Nds x4 FR a l c (x::xs):=R1.to (m4.mono fun y _ hn hf=>hn (.inl hf)) fun _ h=>h;refine(vict_spec (N:=N) ht (fun h1 h2 h3 h4 h5 h6 h7 h8=>ih h1 h2 h3 h4 h5 h6 h7 h8) (3*ln x) hC (X4.less hG) L hcp R4 hx hln (nlr _) (fun hns p f h1 h2 h3 h4=>?_) (H.later L4)).mono fun e w' hN=>M4.out X1 hCG hG (by omega) hN;obtain⟨m,hm,hlt⟩:=(L.ck x hxn).mu ((L.ckm x hxn (f:Nat)).2 ⟨p,f,h1,rfl,h2,h3⟩);exact⟨m,hm,by omega⟩
end
def sumL(ln:Nat->Nat):List Nat->Nat
 | []=>0
 | x::xs=>ln x+sumL ln xs
theorem passN_eq(ln:Nat->Nat)(xs:List Nat):IG ln xs=1+2*xs.length+30*sumL ln xs:=by
 induction xs with
 | nil=>rfl
 | cons x xs ih=>show 2+30*ln x+IG ln xs=1+2*(xs.length+1)+30*(ln x+sumL ln xs);rw [ih];omega
theorem sumL_le{ln:Nat->Nat}:∀{n:Nat}{xs:List Nat},xs.Nodup->(∀x∈xs,x<n)->sumL ln xs<=DT n ln
 | 0,xs,_,h=>by
  cases xs with
  | nil=>exact Nat.zero_le _
  | cons x xs=>exact absurd (h x mcs) (nlz _)
 | n+1,xs,nd,h=>by
  rw [D7];by_cases hn:n∈xs
  ·have key:∀(ys:List Nat),ys.Nodup->n∈ys->sumL ln ys=ln n+sumL ln (ys.filter fun y=>y != n):=by
    intro ys
    induction ys with
    | nil=>intro _ h;cases h
    | cons y ys ih=>
     intro nd hm;have nd2:=List.nodup_cons.1 nd;by_cases e:y=n
     ·subst e;have:ys.filter (fun z=>z != y)=ys:=List.filter_eq_self.2 fun z hz=>by
       have:z≠y:=fun e=>nd2.1 (e▸hz);simpa using this
      rw [List.filter_cons,if_neg (by simp),this]
      rfl
     ·rw [List.filter_cons,if_pos (by simpa using e)];have:=ih nd2.2 ((List.mem_cons.1 hm).resolve_left (Ne.symm e))
      show ln y+sumL ln ys=ln n+(ln y+_)
      omega
   rw [key xs nd hn];have:=sumL_le (ln:=ln) (n:=n) (xs:=xs.filter fun y=>y != n) (nd.sublist (List.filter_sublist)) fun x hx=>by
    obtain⟨h1,h2⟩:=List.mem_filter.1 hx;have:=h x h1;have:x≠n:=by simpa using h2
    omega
   omega
  ·have:=sumL_le (ln:=ln) (n:=n) (xs:=xs) nd fun x hx=>by
    have:=h x hx;have:x≠n:=fun e=>hn (e▸hx);omega
   omega
theorem QSt.IG{S:AL}{rt lf hc cnt tot:Nat}{pg:Nat->Pg}{pin:Nat->Bool}{A:List Nat}{hd:Option Nat}(L:QSt S rt lf pg pin A hc hd cnt tot){xs:List Nat}(nd:xs.Nodup)(h:∀x∈xs,x<S.nodes):YtdgbechegbmpcaaGreatDoor.IG (fun i=>(S.ring i).length) xs<=1+2*xs.length+30*cnt:=by
 rw [passN_eq];have h1:=sumL_le (ln:=fun i=>(S.ring i).length) nd h;have h2:=L.cc;omega
def bdP(m:Nat):Nat->Nat
 | 0=>0
 | c+1=>bdP m c+(4*m+8+30*c)
inductive JB (Z:Fx) (xs:List Nat):AL->(Nat->Pg)->Nat->AL->(Nat->Pg)->Nat->Prop
 | refl (S:AL) (pg:Nat->Pg) (cnt:Nat):JB Z xs S pg cnt S pg cnt
 | turn {S S1 S2:AL}{pg pg2:Nat->Pg}{cnt cnt2:Nat}:FC S S1->JB Z xs S1 pg cnt S2 pg2 cnt2->JB Z xs S pg cnt S2 pg2 cnt2
 | step {S S1 S2:AL}{pg pg2:Nat->Pg}{cnt cnt2 i p f s:Nat}{xs1 xs2:List Nat}:(∀x∈xs,(AX (S.L x):Int)<=S.c 91)->xs=xs1++i::xs2->(∀t∈xs1,NoGo S pg Z.pin t)->pg p=.fr f->Z.pin p=false->AN S.c i<=f->(f:Int)<AN S.c (i+1)->s<S.AP->S.sof s=(0,0)->1<=cnt->
  Went S S1 i->JB Z xs S1 (upd pg p (.sl s)) (cnt-1) S2 pg2 cnt2->JB Z xs S pg cnt S2 pg2 cnt2
theorem JB.c{Z:Fx}{xs:List Nat}{S S':AL}{pg pg':Nat->Pg}{cnt cnt':Nat}(h:JB Z xs S pg cnt S' pg' cnt'):S'.c=S.c:=by
 induction h with
 | refl=>rfl
 | turn T _ ih=>obtain⟨r,o,rfl⟩:=T;exact ih
 | step _ _ _ _ _ _ _ _ _ _ W _ ih=>rw [ih,W.c]
section
variable {k N:Nat}{Q:Fin}{cpu:Nat}{th nv:Value}{Z:Fx}{xs:List Nat}
def FrameK(k N:Nat)(Q:Fin)(cpu:Nat)(Z:Fx)(th:Value)(xs:List Nat)(S:AL)(pg:Nat->Pg)(cnt:Nat)(FR:NP)(w:WD)(fp:Prt->Nat->Prop):Prop:=
 (∀S' pg' cnt',JB Z xs S pg cnt S' pg' cnt'->(∀x∈xs,(AX (S'.L x):Int)<=S'.c 91)->(HC S'\/∀i∈xs,NoGo S' pg' Z.pin i)->Z.St S' pg' cnt'->∀w2 fp2,Ctx k S' fp2 FR w2->Ltr w fp FR w2 fp2->AM prog th [vi (-1),vi 6] w2 (Nx N Q (Fo fp2 FR) w2))/\
 (∀S' pg' cnt' xs1 i xs2 (f:Nat) l',JB Z xs S pg cnt S' pg' cnt'->xs=xs1++i::xs2->(∀x∈xs1,(AX (S'.L x):Int)<=S'.c 91)->S'.c 91<(AX (S'.L i):Int)->AN S'.c i<=f->(f:Int)<AN S'.c (i+1)->ES (S'.L i) 0 true ((f:Int)-AN S'.c i) 0 l'->Z.St S' pg' cnt'->(∃wC fpC,AJ wC k S' fpC)->
  ∀w2 fp2,Ctx k (S'.taken cpu i f l' 4) fp2 FR w2->Ltr w fp FR w2 fp2->AM prog th [vi f,vi 0] w2 (Nx N Q (Fo fp2 FR) w2))
theorem FrameK.later{S:AL}{pg:Nat->Pg}{cnt:Nat}{FR:NP}{w w1:WD}{fp fp1:Prt->Nat->Prop}(h:FrameK k N Q cpu Z th xs S pg cnt FR w fp)(L:Ltr w fp FR w1 fp1):FrameK k N Q cpu Z th xs S pg cnt FR w1 fp1:=
 ⟨fun S' pg' cnt' a b c d w2 fp2 X2 L2=>h.1 S' pg' cnt' a b c d w2 fp2 X2 (L.trans L2),fun S' pg' cnt' xs1 i xs2 f l' a1 a2 a3 a4 a5 a6 a7 a8 a9 w2 fp2 X2 L2=>h.2 S' pg' cnt' xs1 i xs2 f l' a1 a2 a3 a4 a5 a6 a7 a8 a9 w2 fp2 X2 (L.trans L2)⟩
def NodesV(k:Nat)(nv:Value)(xs:List Nat)(c:Nat->Int)(FR:NP)(w:WD)(fp:Prt->Nat->Prop):Prop:=
 ∀W S' fp' b,Ctx k S' fp' FR W->Ltr w fp FR W fp'->S'.c=c->S'.sp 1=some b->AM prog nv [] W fun e w'=>∃a l cp,e=.returned (.slice a l cp)/\Kept AB W w'/\BK w' W.heap.size a l cp (xs.map fun x:Nat=>(x:Int))
theorem NodesV.later{c:Nat->Int}{FR:NP}{w w1:WD}{fp fp1:Prt->Nat->Prop}(h:NodesV k nv xs c FR w fp)(L:Ltr w fp FR w1 fp1):NodesV k nv xs c FR w1 fp1:=
 fun W S' fp' b X L2 hc hb=>h W S' fp' b X (L.trans L2) hc hb
theorem BK.nds{w:WD}{base:Nat}{a:OA}{l c:Nat}{FR:NP}(h:BK w base a l c (xs.map fun x:Nat=>(x:Int)))(hf:∀b,base<=b->b<w.heap.size->FR b):Nds w FR a l c xs:=by
 have hlen:l=xs.length:=by rw [h.1];simp
 have hc:l<=c/\c<=maxLen:=by
  rcases h.2.2 with⟨h0,h1⟩|⟨g,cap,cur,hv,_,_,hnc,hm,_⟩
  ·simp only [Value.slice.injEq] at h0;obtain⟨_,h2,h3⟩:=h0;rw [h2,h3];exact⟨nlr _,Nat.zero_le _⟩
  ·simp only [Value.slice.injEq] at hv;obtain⟨_,_,h3⟩:=hv;rw [h3];exact⟨hnc,hm⟩
 refine⟨hlen,hc.1,hc.2,fun hp=>?_⟩;obtain⟨g,o,rfl,hr⟩:=h.o.at' (by simp;omega);have hlt:=h.lt (x:=g) rfl;refine⟨g,o,rfl,hf g hlt.1 hlt.2,fun i x hx=>hr i x ?_⟩;rw [gmp,hx];rfl
set_option maxHeartbeats 4000000 in
theorem frame_spec(ht:isF th=true)(hnv:isF nv=true)(h8:xs.length<=8)(nd:xs.Nodup)(hZ:Z.hd=none)(hcZ:Z.hc=cpu):∀(cnt:Nat) {w:WD}{S:AL}{fp:Prt->Nat->Prop}{FR:NP}{pg:Nat->Pg},(∀x,Q.C x->FR x)->Ctx k S fp FR w->Z.St S pg cnt->cpu<S.AO->(∀x∈xs,x<S.nodes)->NodesV k nv xs S.c FR w fp->FrameK k N Q cpu Z th xs S pg cnt FR w fp->
 Calls prog 107 #[ptr k,vi cpu,nv,.int .u8 4,.bool true,th] w (Nx (N+bdP xs.length (cnt+1)) Q (Fo fp FR) w):=by
 have hto:=GY ht;have hno:=GY hnv;intro cnt
 induction cnt using Nat.strongRecOn with
 | ind cnt ih=>
 intro w S fp FR pg hC X L hcp hx HN H;have hb:bdP xs.length (cnt+1)=bdP xs.length cnt+(4*xs.length+8+30*cnt):=rfl;refine Calls.ret (vc107 _ cpu nv 4 true th w _ ?_);apply qI;rw [show Value.cells nv=[nv].toArray from EV hno,show Value.cells th=[th].toArray from EV hto];intro w1 e1 w2 e2 w3 e3 w4 e4 w5 e5 w6 e6;have B:=((((((Bx.nil w).al e1).al e2).al e3).al e4).al e5).al e6;refine(IS (N:=N+bdP xs.length cnt+4*xs.length+30*cnt+3) X B.k rfl fun W X1 k1 L1=>?_).le (by omega);have rr:=fun {b:Nat}{v:Value}{W':WD} (kk:Kept (fun y=>¬(FR y\/rng w w6 y)) W W') (hm:(b,v)∈_)=>B.rr (Kept.oo k1 kk) hm;have hG:∀y,FR y->(FR y\/rng w w6 y):=fun y h=>.inl h;have hCG:∀y,Q.C y->(FR y\/rng w w6 y):=fun y h=>.inl (hC y h);obtain⟨sb,hsb⟩:=L.sp1;have k0:Kept (fun y=>¬(FR y\/rng w w6 y)) W W:=Kept.refl _ _;refine AM.mk 181 #[] _ rfl (by kernel_rfl) (Calls.ret (vc181 false (some ⟨w2.heap.size,0,none⟩) (some ⟨w.heap.size,0,none⟩) (some ⟨w1.heap.size,0,none⟩) (some ⟨w3.heap.size,0,none⟩) (some ⟨w4.heap.size,0,none⟩) (some ⟨w5.heap.size,0,none⟩) W _ ?_));unfold vcP181;refine AA rfl ⟨nv,rr k0 (b:=w2.heap.size) (by simp),AQ (HN W S fp sb (X1.less hG) L1 rfl hsb) ?_⟩;rintro _ x1 ⟨a,l,cp,rfl,d1,R1⟩;refine⟨a,l,cp,rfl,fun x2 d2=>⟨Bx.wr0 d2,fun x3 d3=>?_⟩⟩;have B2:=(((Bx.nil W).kk d1).al2 d2 d3).2;have k13:Kept AB x1 x3:=by
  have o2:=AD d2;exact BD (kr.al d2) (d3▸(Kept.refl (·=x1.heap.size) x2).st (.inl rfl)) fun y e=>by omega
 have kW3:=B2.k;have k03:Kept (fun y=>¬(FR y\/rng w w6 y)) W x3:=kW3.none;refine AA rfl ⟨_,rr k03 (b:=w.heap.size) (v:=ptr k) (by simp),AA rfl ⟨cpu,rr k03 (b:=w1.heap.size) (by simp),a,l,cp,B2.rd (b:=x1.heap.size) (by simp),AA rfl ⟨4,rr k03 (b:=w3.heap.size) (by simp),AA rfl ⟨true,rr k03 (b:=w4.heap.size) (by simp),?_⟩⟩⟩⟩;have X3:=X1.more kW3;have hG3:∀y,FR y->((FR y\/rng w w6 y)\/rng W x3 y):=fun y h=>.inl (.inl h);have hC3:∀y,Q.C y->((FR y\/rng w w6 y)\/rng W x3 y):=fun y h=>.inl (hCG y h);have R3:Nds x3 (fun y=>(FR y\/rng w w6 y)\/rng W x3 y) a l cp xs:=(R1.k k13).nds fun b h1 h2=>.inr ⟨h1,h2⟩;have L3:Ltr w fp FR x3 fp:=L1.trans ⟨kW3.none,fun _ _ h=>.inl h⟩;have rr2:∀{b:Nat}{v:Value}{W':WD},Kept (fun y=>¬((FR y\/rng w w6 y)\/rng W x3 y)) x3 W'->(b,v)∈_->rd W' b 0=some v:=fun {b v W'} kk hm=>rr (b:=b) (v:=v) (k03.oo (kk.mono fun y _ hn hf=>hn (.inl hf))) hm;have rr3:∀{W':WD},Kept (fun y=>¬((FR y\/rng w w6 y)\/rng W x3 y)) x3 W'->rd W' x1.heap.size 0=some (.slice a l cp):=fun {W'} kk=>by
  obtain⟨o,hb⟩:=B2.o x1.heap.size (.slice a l cp) (by simp);rw [(o.kx kk fun hn=>hn (.inr ⟨hb,o.lt⟩)).rd];rfl
 refine(stry_spec (N:=N+bdP xs.length cnt+(1+2*xs.length+30*cnt)) (Q:=Q) (role:=4) (by decide) rfl xs hC3 X3 L.lh hcp L.held1 R3 hx (fun hf y2 fp2 Y2 N2=>?_) (fun xs1 xs2 i f l' e hf hg g2 g3 g4 y2 fp2 Y2 N2=>?_)).mono fun e w' hN=>(Nx.pre kW3.none (fun y hy=>?_) (hN.le (by omega))).out
 ·have q2:=N2.kp;refine AM.mk 182 #[] _ rfl (by kernel_rfl) (Calls.ret (vc182 (-1) 6 (some ⟨w5.heap.size,0,none⟩) (some ⟨w.heap.size,0,none⟩) (some ⟨w1.heap.size,0,none⟩) (some ⟨x1.heap.size,0,none⟩) (some ⟨w2.heap.size,0,none⟩) (some ⟨w3.heap.size,0,none⟩) (some ⟨w4.heap.size,0,none⟩) y2 _ ?_));unfold vcP182;refine AG rfl (AA rfl ⟨_,rr2 q2 (b:=w.heap.size) (v:=ptr k) (by simp),AA rfl ⟨cpu,rr2 q2 (b:=w1.heap.size) (by simp),AA rfl ⟨a,l,cp,rr3 q2,?_⟩⟩⟩);have hP:=L.IG nd hx;refine(pass_spec (N:=N+bdP xs.length cnt) (Q:=Q) (ln:=fun i=>(S.ring i).length) rfl xs hC3 Y2 L hcp (R3.to q2 fun _ h=>h) hx (fun _ _=>rfl) ⟨fun S' T LS hor y3 fp3 Y3 N3=>?_,fun S' xs1 i xs2 p f s a1 a2 a3 a4 a5 a6 a7 a8 a9 b1 b2 y3 fp3 Y3 N3=>?_⟩).mono fun e w' hN=>(hN.le (by omega)).out
  ·have q3:=q2.oo N3.kp;refine AM.mk 183 #[] _ rfl (by kernel_rfl) (Calls.ret (vc183 0 (some ⟨w5.heap.size,0,none⟩) (some ⟨w.heap.size,0,none⟩) (some ⟨w1.heap.size,0,none⟩) (some ⟨w2.heap.size,0,none⟩) (some ⟨w3.heap.size,0,none⟩) (some ⟨w4.heap.size,0,none⟩) y3 _ ?_));apply qI;have T':=T;obtain⟨r,o,rfl⟩:=T;exact AA rfl (AA rfl ⟨th,rr2 q3 (b:=w5.heap.size) (by simp),AQ (H.1 _ pg cnt (JB.turn T' (JB.refl _ _ _)) hf hor LS y3 fp3 (Y3.less hG3) ((L3.trans (N2.less hG3)).trans (N3.less hG3))) fun e w' hN=>(hN.wk hG3 (by omega)).out⟩)
  ·have q3:=q2.oo N3.kp;refine AM.mk 183 #[] _ rfl (by kernel_rfl) (Calls.ret (vc183 1 (some ⟨w5.heap.size,0,none⟩) (some ⟨w.heap.size,0,none⟩) (some ⟨w1.heap.size,0,none⟩) (some ⟨w2.heap.size,0,none⟩) (some ⟨w3.heap.size,0,none⟩) (some ⟨w4.heap.size,0,none⟩) y3 _ ?_));apply qI;have LL:=(L3.trans (N2.less hG3)).trans (N3.less hG3);refine AG rfl (AA rfl ⟨_,rr2 q3 (b:=w.heap.size) (v:=ptr k) (by simp),AA rfl ⟨cpu,rr2 q3 (b:=w1.heap.size) (by simp),AA rfl ⟨nv,rr2 q3 (b:=w2.heap.size) (by simp),AA rfl ⟨4,rr2 q3 (b:=w3.heap.size) (by simp),AA rfl ⟨true,rr2 q3 (b:=w4.heap.size) (by simp),AA rfl ⟨th,rr2 q3 (b:=w5.heap.size) (by simp),?_⟩⟩⟩⟩⟩⟩);have ec:S'.c=S.c:=b2.c;refine(ih (cnt-1) (by omega) hC (Y3.less hG3) b1 (by show cpu<(S'.c 1).toNat;rw [ec];exact hcp) (fun x h=>by show x<(S'.c 0).toNat;rw [ec];exact hx x h) (by rw [ec];exact HN.later LL) ?_).mono fun e w' hN=>(hN.wk hG3 (by rw [show cnt-1+1=cnt by omega];exact nlr _)).out;have HL:=H.later LL;exact⟨fun S2 pg2 cnt2 c1=>HL.1 S2 pg2 cnt2 (JB.step hf a1 a2 a3 a4 a5 a6 a7 a8 a9 b2 c1),fun S2 pg2 cnt2 ys1 t ys2 g m' c1=>HL.2 S2 pg2 cnt2 ys1 t ys2 g m' (JB.step hf a1 a2 a3 a4 a5 a6 a7 a8 a9 b2 c1)⟩
 ·have q2:=N2.kp;refine AM.mk 182 #[] _ rfl (by kernel_rfl) (Calls.ret (vc182 f 0 (some ⟨w5.heap.size,0,none⟩) (some ⟨w.heap.size,0,none⟩) (some ⟨w1.heap.size,0,none⟩) (some ⟨x1.heap.size,0,none⟩) (some ⟨w2.heap.size,0,none⟩) (some ⟨w3.heap.size,0,none⟩) (some ⟨w4.heap.size,0,none⟩) y2 _ ?_));unfold vcP182;exact AA rfl (AA rfl ⟨th,rr2 q2 (b:=w5.heap.size) (by simp),AQ (H.2 S pg cnt xs1 i xs2 f l' (JB.refl _ _ _) e hf hg g2 g3 g4 L ⟨_,_,X3.C⟩ y2 fp2 (Y2.less hG3) (L3.trans (N2.less hG3))) fun e w' hN=>(hN.wk hG3 (by omega)).out⟩)
 ·rcases hy with h|h|h
  ·exact .inl (.inl h)
  ·exact .inl (.inr h)
  ·exact .inr h
end
end Go.Proofs.YtdgbechegbmpcaaGreatDoor
namespace Go.Proofs.YtdgbechegbmpcaaGreatDoor
open Go Go.Eng Go.Proofs.Tryz
open Go.Value (bool func)
open Option (isNone)
open Go.IntKind (wrap)
theorem vc43(w':OA)(cpu:Int)(l:OA)(lL lC:Nat)(w:WD)(K:KV)(h:Q (AW w #[pt w'] 34 fun c=>AW c #[vi cpu] 3 fun w'=>AW w' #[sl l lL lC] 59 fun a=>RS a w'.heap.size 0 fun x u z=>Wif ((↑u:Int)==0) (K Value.nilFunc a) (RS a w'.heap.size 0 fun x y A=>Wp x (Wn 0 y (∃(q r:Int),(rd a (pb x) (po x)=some (.int .i64 q)/\rd a (pb x) (po x+1)=some (.int .i64 r))/\AW a #[vi 0,vi 0] 78 fun d=>AW d #[Value.nilFunc] 216 fun i=>(wr i a.heap.size 0/\wr i a.heap.size 1)/\St (st i a.heap.size 0 (vi q)) a.heap.size 1 (vi r) fun s=>Sw s d.heap.size 0 (func (.func 105) #[] #[bp w,bp c,bp w']) fun f=>RI f a.heap.size 1 fun x=>AW f #[vi 0] 3 fun w'=>Sw w' f.heap.size 0 (vi (wrap .i64 (Int.tmod (wrap .u64 x) 32))) fun h=>AW h #[Value.nilFunc] 217 fun w'=>Sw w' h.heap.size 0 (func (.func 106) #[] #[bp w,bp c,bp d]) fun b=>RI b a.heap.size 0 fun x=>Wif (x==1) (Dr b fun g=>RP g w.heap.size 0 fun x=>Wp x (Rp g x 0 fun k=>RI g c.heap.size 0 fun x=>RV g h.heap.size 0 fun o=>Ret 107 #[pt k,vi x,func (.func 108) #[] #[bp w,bp c,bp f],vu 4,bool true,o] g K)) (Wif (x==2) (K (.func (.func 109) #[] #[bp w,bp c,bp d]) b) (Wif (x==3) (AW b #[bool false] 4 fun w'=>Sw w' b.heap.size 0 (bool false) fun t=>Dr t fun g=>RP g w.heap.size 0 fun x=>Wp x (Rp g x 0 fun k=>RI g c.heap.size 0 fun x=>RI g a.heap.size 1 fun o=>RP g w.heap.size 0 fun j=>Wp j (Ri g j 2 fun p=>Wif (wrap .u64 p != 0) (Calls prog 113 #[pt k,vi x,vi (wrap .i64 (Int.tmod (wrap .u64 o) (wrap .u64 p))),func (.func 114) #[] #[bp b]] g fun e w'=>∃(v:Value),e=rT v/\(rd w' w.heap.size 0=some (.pointer j)/\True)/\Ret 115 #[v,func (.func 112) #[] #[bp b,bp d]] w' K) False))) (Wif (x==4) (K (.func (.func 116) #[] #[bp w,bp f,bp c,bp d]) b) (Wif (x==5) (K (.func (.func 120) #[] #[bp w,bp c,bp f,bp h]) b) (Wif (x==6) (K (.func (.func 122) #[] #[bp w,bp c,bp f,bp d]) b) (K (.func (.func 125) #[] #[bp d]) b))))))))))):Ret 43 #[pt w',vi cpu,sl l lL lC] w K:=vcA L7 2 [] func43 h
theorem vc105(a b c:OA)(w:WD)(K:KV)(h:Q (Dr w fun f=>Wp a (Rp f a 0 fun x=>Wp b (Ri f b 0 fun h=>Wp c (Rs f c 0 fun i g d=>Wif (CN 1 (↑g:Int) (↑d:Int)) (Ret 43 #[pt x,vi h,sl (BJ i d 1 2) (g-1) (d-1)] f K) False))))):Ret 105 #[pt a,pt b,pt c] w K:=vcA L7 2 [] func105 h
theorem vc106(f e':Int)(b d i:OA)(w:WD)(K:KV)(h:Q (Dr w fun g=>Wp b (Rp g b 0 fun x=>Wp x (Rs g x 111 fun y L M=>Wp d (Ri g d 0 fun x=>Wp y (Wn x L (Sw g (pb y) (po y+Int.toNat x*1) (vi (-1)) fun w'=>Wif (e' != 0) (Dr w' fun g=>Wp b (Rp g b 0 fun x=>Wp x (Rs g x 110 fun h o z=>Wp d (Ri g d 0 fun x=>Wp h (Wn x o (Ri g h (Int.toNat x*1) fun p=>Wp h (Wn x o (Sw g (pb h) (po h+Int.toNat x*1) (vi (wrap .i64 (p+1))) fun w'=>Wp i (Rv w' i 0 fun x=>AM prog x [] w' fun e w'=>∃(v:Value),e=rT v/\K v w'))))))))) (Dr w' fun g=>Wp b (Rp g b 0 fun x=>Wp x (Rs g x 109 fun h o z=>Wp d (Ri g d 0 fun p=>Wp b (Rp g b 0 fun k=>Wp k (Rs g k 109 fun q A G=>Wp d (Ri g d 0 fun r=>Wp q (Wn r A (Rs g q (Int.toNat r*1) fun B C D=>AW g #[vi f] 3 fun w'=>Rt w' (pb q) (po q+Int.toNat r*1) (.slice B C D)<|Rt w' (pb d) (po d) (.int .i64 r)<|Rt w' (pb k) (po k+109) (.slice q A G)<|Rt w' (pb b) (po b) (.pointer k)<|Rt w' (pb d) (po d) (.int .i64 p)<|Rt w' (pb x) (po x+109) (.slice h o z)<|Rt w' (pb b) (po b) (.pointer x)<|∃(a:OA) (l c:Nat) (j:WD),BF prog #[27,27] 27 (sl B C D) (sl (aD g.heap.size) 1 1) (sl a l c) w' j/\(rd j (pb b) (po b)=some (.pointer k)/\True)/\(rd j (pb d) (po d)=some (.int .i64 p)/\True)/\(rd j (pb x) (po x+109)=some (.slice h o z)/\True)/\(rd j (pb b) (po b)=some (.pointer x)/\True)/\Wp h (Wn p o (Sw j (pb h) (po h+Int.toNat p*1) (sl a l c) fun w'=>Dr w' fun g=>Wp b (Rp g b 0 fun x=>Wp x (Rs g x 111 fun s E H=>Wp d (Ri g d 0 fun t=>Wp b (Rp g b 0 fun u=>Wp u (Rp g u 0 fun J=>CI 18 #[pt J,vi f] g fun n w'=>Rt w' (pb d) (po d) (.int .i64 t)<|Rt w' (pb x) (po x+111) (.slice s E H)<|Rt w' (pb b) (po b) (.pointer x)<|Wp s (Wn t E (Sw w' (pb s) (po s+Int.toNat t*1) (vi n) fun F=>Wp i (Rv F i 0 fun x=>AM prog x [] F fun e w'=>∃(v:Value),e=rT v/\K v w')))))))))))))))))))))))))):Ret 106 #[vi f,vi e',pt b,pt d,pt i] w K:=vcA L7 2 [2000025,2000055] func106 h
theorem vc108(b d f:OA)(w:WD)(K:KV)(h:Q (Dr w fun g=>Wp b (Rp g b 0 fun x=>Wp x (Rp g x 0 fun h=>Wp d (Ri g d 0 fun x=>Wp f (Ri g f 0 fun i=>CS 20 #[pt h,vi x,vi 1,vi i] g fun a l c w'=>K (sl a l c) w')))))):Ret 108 #[pt b,pt d,pt f] w K:=vcA L7 2 [] func108 h
theorem vc112(x0:Bool)(a b:OA)(w:WD)(K:KV)(h:Q (Wp a (Rb w a 0 fun x=>Wif (!x) (K Value.nilFunc w) (Wp b (Rv w b 0 fun x=>AM prog x [] w fun e w'=>∃(v:Value),e=rT v/\K v w'))))):Ret 112 #[bool x0,pt a,pt b] w K:=vcA L7 2 [2000007] func112 h
abbrev Wt(p:OA)(X:Prop):Prop:=Wif (isP p&&true) X False
theorem vc114(a:OA)(w:WD)(K:KV)(h:Q (Wt a (Sw w (pb a) (po a) (bool true) fun w'=>K (.tuple #[]) w'))):Ret 114 #[pt a] w K:=vcA L7 2 [] func114 h
theorem vc115(s after:Value)(w:WD)(K:KV)(h:Q (AW w (Value.cells s) 123 fun w'=>AW w' (Value.cells after) 123 fun a=>RV a w.heap.size 0 fun x=>Wif (okF x) (Wif (!isF x) (RV a w'.heap.size 0 fun x=>K x a) (K (.func (.func 191) #[] #[bp w,bp w']) a)) False)):Ret 115 #[s,after] w K:=vcA L7 2 [] func115 h
theorem vc191(fail:Bool)(b a:OA)(w:WD)(K:KV)(h:Q (Dr w fun d=>Wp b (Rv d b 0 fun x=>Wp a (Rv d a 0 fun c=>AM prog x [bool fail] d fun e w'=>∃(v:Value),e=rT v/\(rd w' (pb a) (po a)=some c/\True)/\Ret 115 #[v,c] w' K)))):Ret 191 #[bool fail,pt b,pt a] w K:=vcA L7 2 [2000005] func191 h
theorem vc12(w':OA)(cpu:Int)(l:OA)(lL lC:Nat)(w:WD)(K:KV)(h:Q (Calls prog 43 #[pt w',vi cpu,sl l lL lC] w fun(e:Ending) (a:WD)=>∃(v:Value),e=rT v/\Wif (okF v) (gIf (isP w') ((!isF v)=false) (∃(x:OA),((!isF v)=false->rd a (pb w') (po w'+1)=some (.pointer x))/\Wif (!isF v) (K (.bool true) a) (CI 44 #[pt x,vi cpu,v] a fun n w'=>K (.bool (n==0)) w'))) False)):Ret 12 #[pt w',vi cpu,sl l lL lC] w K:=vcA L7 2 [] func12 h
theorem vc21(w':OA)(cpu most:Int)(w:WD)(K:KV)(h:Q (∃(I:Int->WD->Nat->Prop),(∃(n:Nat),I 0 w n)/\∀(n:Int) (a:WD) (d:Nat),I n a d->gIf (isP w') (decide (n<most)=true) (∃(x:OA),(decide (n<most)=true->rd a (pb w') (po w'+1)=some (.pointer x))/\Wif (decide (n<most)) (Calls prog 13 #[pt x,vi cpu] a fun(e:Ending) (c:WD)=>∃(b:Bool),e=rT (.bool b)/\Wif b (Wp w' (Rp c w' 1 fun x=>Calls prog 14 #[pt x,vi cpu,bool false] c fun e w'=>∃(b:Bool) (f:Int),e=rT (.tuple #[bool b,vi f])/\Lt d fun m=>I (wrap .i64 (n+1)) w' m)) (Wp w' (Rp c w' 1 fun x=>CB 13 #[pt x,vi cpu] c fun b w'=>K (.bool !b) w'))) (Wp w' (Rp a w' 1 fun x=>CB 13 #[pt x,vi cpu] a fun b w'=>K (.bool !b) w'))))):Ret 21 #[pt w',vi cpu,vi most] w K:=vcA L7 2 [] func21 h
theorem vc48(f n:Int)(a:OA)(w:WD)(K:KV)(h:Q (gIf (isP a) (decide (f>=0)=true) (∃(x:OA) (d g:Nat),(decide (f>=0)=true->rd w (pb a) (po a)=some (.slice x d g))/\Wif (decide (f>=0)&&decide (f<(↑d:Int))) (Dr w fun c=>Wp a (Rs c a 0 fun x h k=>Wp a (Rs c a 0 fun b i l=>Wp b (Wn f i (Ri c b (Int.toNat f*1) fun j=>Wp x (Wn f h (Sw c (pb x) (po x+Int.toNat f*1) (vi (wrap .i64 (wrap .i64 (j*10)+n))) fun w'=>K (.tuple #[]) w'))))))) (K (.tuple #[]) w)))):Ret 48 #[vi f,vi n,pt a] w K:=vcA L7 2 [] func48 h
def vcP9(w:WD)(K:KV):Prop:=AW w #[vi 0] 3 fun w'=>Calls prog 30 #[sl (aD w.heap.size) 1 1] w' fun e w'=>∃(f:Nat->Int) (a:OA) (l c:Nat) (g:OA) (h c_1:Nat) (i:Nat->Int),e=rT (.agg (List.toArray (AK .i64 f 0 94++([sl a l c,sl g h c_1]++AK .i64 i 0 8))))/\Calls prog 10 #[Value.agg (List.toArray (AK .i64 f 0 94++([sl a l c,sl g h c_1]++AK .i64 i 0 8)))] w' fun e w'=>∃(p:OA) (b j:Bool),e=rT (.tuple #[pt p,bool b,bool j])/\AW w' #[vi 0,vi 1] 3 fun A=>Calls prog 30 #[sl (aD w'.heap.size) 2 2] A fun e w'=>∃(f:Nat->Int) (a:OA) (l c:Nat) (k:OA) (o c_2:Nat) (q:Nat->Int),e=rT (.agg (List.toArray (AK .i64 f 0 94++([sl a l c,sl k o c_2]++AK .i64 q 0 8))))/\Calls prog 10 #[Value.agg (List.toArray (AK .i64 f 0 94++([sl a l c,sl k o c_2]++AK .i64 q 0 8)))] w' fun e w'=>∃(d:OA) (r s:Bool),e=rT (.tuple #[pt d,bool r,bool s])/\Wif (!b||!j||!r||!s) (K (.bool false) w') (AW w' #[vi 1,vi 0] 78 fun B=>CB 12 #[pt p,vi 0,sl (aD w'.heap.size) 1 1] B fun b w'=>Wif b (CB 21 #[pt p,vi 0,vi 200] w' fun b w'=>gIf (isP p) (b=true) (∃(x:OA) (t D:Nat),(b=true->rd w' (pb p) (po p+109)=some (.slice x t D))/\gIf (isP x) (b=true) (gIf (inB 0 t) (b=true) (∃(E:OA) (u F:Nat),(b=true->rd w' (pb x) (po x)=some (.slice E u F))/\Wif (b&&(↑u:Int)==1) (CB 15 #[pt p] w' fun b w'=>Wif b (CB 25 #[pt p] w' fun b w'=>Wif b (AW w' #[vi 1,vi 0] 78 fun C=>CB 12 #[pt d,vi 0,sl (aD w'.heap.size) 1 1] C fun b w'=>Wif b (CB 21 #[pt d,vi 0,vi 200] w' fun b w'=>gIf (isP d) (b=true) (∃(x:OA) (y G:Nat),(b=true->rd w' (pb d) (po d+110)=some (.slice x y G))/\gIf (isP x) (b=true) (gIf (inB 0 y) (b=true) (∃(z:Int),(b=true->rd w' (pb x) (po x)=some (.int .i64 z))/\Wif (b&&z==1) (CB 15 #[pt d] w' fun b w'=>K (.bool b) w') (K (.bool false) w'))))) (K (.bool false) w')) (K (.bool false) w')) (K (.bool false) w')) (K (.bool false) w'))))) (K (.bool false) w'))
theorem vc9(w:WD)(K:KV)(h:vcP9  w K):Ret 9 #[] w K:=vcA L7 2 [] func9 h
theorem vc30(pins:OA)(KP pinsC:Nat)(w:WD)(K:KV)(h:Q (AW w (List.toArray (List.replicate 94 (vi 0)++([sl none 0 0,sl none 0 0]++List.replicate 8 (vi 0)))) 29 fun w'=>AW w' (List.toArray (List.replicate 94 (vi 0))) 26 fun c=>DF c w'.heap.size 0 ([vi 1,vi 1]++(List.replicate 88 (vi 0)++[vi 2,vi 0,vi 0,vi 0]))/\∀d,d=F0 c w'.heap.size 0 ([vi 1,vi 1]++(List.replicate 88 (vi 0)++[vi 2,vi 0,vi 0,vi 0]))->Sw d w'.heap.size 18 (vi 4) fun a=>∃(x:Nat->Int),AS a w'.heap.size 0 (AK .i64 x 0 94)/\AW a #[vi 0,vi 1] 3 fun w'=>DF w' w.heap.size 0 (AK .i64 x 0 94++([sl (aD a.heap.size) 2 2,sl pins KP pinsC]++List.replicate 8 (vi 0)))/\∀b,b=F0 w' w.heap.size 0 (AK .i64 x 0 94++([sl (aD a.heap.size) 2 2,sl pins KP pinsC]++List.replicate 8 (vi 0)))->∃(x:Nat->Int) (f:OA) (g h:Nat) (i:OA) (j k:Nat) (l:Nat->Int),AS b w.heap.size 0 (AK .i64 x 0 94++([sl f g h,sl i j k]++AK .i64 l 0 8))/\K (.agg (List.toArray (AK .i64 x 0 94++([sl f g h,sl i j k]++AK .i64 l 0 8)))) b)):Ret 30 #[sl pins KP pinsC] w K:=vcA L7 2 [] func30 h
end Go.Proofs.YtdgbechegbmpcaaGreatDoor
namespace Go.Proofs.YtdgbechegbmpcaaGreatDoor
open Go Go.Eng Go.Proofs.Tryz
structure TabAt(w:WD)(t sb n:Nat)(f:Nat->Value×Int):Prop where
 so:own w t [.slice (some ⟨sb,0,none⟩) n n]
 fs:own w sb (CU n fun i=>[(f i).1,vi (f i).2])
 ne:t≠sb
section
variable {w:WD}{t sb n:Nat}{f:Nat->Value×Int}
theorem TabAt.kx(h:TabAt w t sb n f){X:NP}{w':WD}(k:Kept X w w')(h1:¬X t)(h2:¬X sb):TabAt w' t sb n f:=⟨h.so.kx k h1,h.fs.kx k h2,h.ne⟩
theorem TabAt.get(h:TabAt w t sb n f){i:Nat}(hi:i<n):rd w sb (i*2)=some (f i).1/\rd w sb (i*2+1)=some (vi (f i).2)/\wr w sb (i*2)/\wr w sb (i*2+1):=by
 have g:∀j,j<2->rd w sb (i*2+j)=[(f i).1,vi (f i).2][j]? := fun j hj=>by
  rw [h.fs.rd];exact EC (s:=2) (f:=fun i=>[(f i).1,vi (f i).2]) (fun _ _=>rfl) hi hj
 have hlen:(CU n fun i=>[(f i).1,vi (f i).2]).length=n*2:=DI (fun _ _=>rfl);exact⟨g 0 (by omega),g 1 (by omega),h.fs.wr (by rw [hlen];omega),h.fs.wr (by rw [hlen];omega)⟩
theorem TabAt.put0(h:TabAt w t sb n f){i:Nat}(hi:i<n){v:Value}{w':WD}(e:w'=st w sb (i*2) v):TabAt w' t sb n (upd f i (v,(f i).2))/\Kept (·=sb) w w':=by
 have k2:Kept (·=sb) w w':=e▸kr.st (.inl rfl);have o2:=h.fs.s1 (o:=i*2+0) e;rw [EB (s:=2) (fun _ _=>rfl) hi (by omega)] at o2;refine⟨⟨h.so.kx k2 h.ne,?_,h.ne⟩,k2⟩;have:(upd (fun i=>[(f i).1,vi (f i).2]) i (List.set [(f i).1,vi (f i).2] 0 v))=fun j=>[(upd f i (v,(f i).2) j).1,vi (upd f i (v,(f i).2) j).2]:=by
  funext j;by_cases e:j=i
  ·subst e;rw [upd_same,upd_same];rfl
  ·rw [AH _ _ e,AH _ _ e]
 rw [this] at o2;exact o2
theorem TabAt.put1(h:TabAt w t sb n f){i:Nat}(hi:i<n){v:Int}{w':WD}(e:w'=st w sb (i*2+1) (vi v)):TabAt w' t sb n (upd f i ((f i).1,v))/\Kept (·=sb) w w':=by
 have k2:Kept (·=sb) w w':=e▸kr.st (.inl rfl);have o2:=h.fs.s1 (o:=i*2+1) e;rw [EB (s:=2) (fun _ _=>rfl) hi (by omega)] at o2;refine⟨⟨h.so.kx k2 h.ne,?_,h.ne⟩,k2⟩;have:(upd (fun i=>[(f i).1,vi (f i).2]) i (List.set [(f i).1,vi (f i).2] 1 (vi v)))=fun j=>[(upd f i ((f i).1,v) j).1,vi (upd f i ((f i).1,v) j).2]:=by
  funext j;by_cases e:j=i
  ·subst e;rw [upd_same,upd_same];rfl
  ·rw [AH _ _ e,AH _ _ e]
 rw [this] at o2;exact o2
theorem cpus_spec(h:TabAt w t sb n f):Calls prog 126 #[ptr t] w fun e w'=>e=.returned (vi n)/\w'=w:=by
 refine Calls.ret (vc126 _ w _ ?_);apply qI;exact AG rfl (AA rfl ⟨_,_,_,by show rd w t 0=_;rw [h.so.rd];rfl,rfl,rfl⟩)
theorem tat_spec(h:TabAt w t sb n f){i:Nat}(hi:i<n):Calls prog 45 #[ptr t,vi i] w fun e w'=>e=.returned (.pointer (some ⟨sb,i*2,none⟩))/\w'=w:=by
 refine Calls.ret (vc45 _ i w _ ?_);apply qI;refine AG (by simp) ((cpus_spec h).mono ?_);rintro _ wx ⟨rfl,hwx⟩;rw [hwx];refine⟨_,rfl,AG (by simp;omega) (AA rfl ⟨_,_,_,by show rd w t 0=_;rw [h.so.rd];rfl,AA rfl (Wi ⟨?_,rfl⟩)⟩)⟩
 show Ending.returned (.pointer (some ⟨sb,0+Int.toNat (i:Int)*2,none⟩))=_
 rw [tnc,za]
theorem busy_spec(h:TabAt w t sb n f){i:Nat}(hi:i<n)(ho:okF (f i).1=true):Calls prog 13 #[ptr t,vi i] w fun e w'=>e=.returned (.bool (isF (f i).1))/\w'=w:=by
 refine Calls.ret (vc13 _ i w _ ?_);apply qI;refine(tat_spec h hi).mono ?_;rintro _ wx ⟨rfl,hwx⟩;rw [hwx];exact⟨_,rfl,AF (fun _=>rfl) ⟨(f i).1,fun _=>(h.get hi).1,AF (fun _=>ho) ⟨rfl,rfl⟩⟩⟩
theorem ready_spec(h:TabAt w t sb n f):Calls prog 46 #[ptr t] w fun e w'=>e=.returned (.bool true)/\w'=w:=by
 refine Calls.ret (vc46 _ w _ ?_);apply qI;exact AF (fun _=>rfl) ⟨_,_,_,fun _=>by show rd w t 0=_;rw [h.so.rd];rfl,rfl,rfl⟩
theorem run1_spec(h:TabAt w t sb n f){i:Nat}(hi:i<n){N:Nat}{F:NP}{Q:Fin}(hf:isF (f i).1=true)(E:Ends (N+1) (f i).1 F w Q)(h1:¬F t)(h2:¬F sb) :
 Calls prog 14 #[ptr t,vi i,.bool false] w fun e w'=>∃(b:Bool) (v':Value) (d:Int) (F':NP) (w2:WD),e=.returned (.tuple #[.bool b,vi 0])/\TabAt w' t sb n (upd f i (v',d))/\Kept (fun x=>(F x/\¬Q.C x)\/x=sb) w w'/\
  (∀x,F' x->F x\/rng w w' x)/\Kept (·=sb) w2 w'/\Ends N v' F' w2 Q:=by
 refine Calls.ret (vc14 _ i false w _ ?_);apply qI;have ho:=GY hf;refine(tat_spec h hi).mono ?_;rintro _ wx ⟨rfl,hwx⟩;rw [hwx];refine⟨_,rfl,(ready_spec h).mono ?_⟩;rintro _ wy ⟨rfl,hwy⟩;rw [hwy];obtain⟨g0,g1,g2,g3⟩:=h.get hi;refine⟨_,rfl,AG rfl (AG rfl (AA rfl ⟨_,g0,AA ho (AG (by rw [hf];rfl) (AA rfl ⟨_,g1,AA rfl ⟨g3,fun w1 e1=>?_⟩⟩))⟩))⟩;obtain⟨T1,k1⟩:=h.put1 hi e1;have gg:=(T1.get hi).1;rw [upd_same] at gg;refine AA rfl ⟨_,gg,?_⟩;rcases E with⟨e,_⟩|⟨_,E⟩
 ·rw [e] at hf;cases hf
 refine AQ (E w1 (k1.mono fun x _ e hx=>h2 (e▸hx))) ?_;rintro _ w2 ⟨v',F',rfl,o',k2,hF,E'⟩;have T2:=T1.kx k2 (fun hx=>h1 hx.1) (fun hx=>h2 hx.1);refine⟨v',rfl,AA rfl (AA o' ⟨(T2.get hi).2.2.1,fun w3 e3=>?_⟩)⟩;obtain⟨T3,k3⟩:=T2.put0 hi e3;have g3':=(T3.get hi).1;rw [upd_same] at g3';refine AA rfl ⟨v',g3',AA o' ⟨_,v',IntKind.wrap .i64 ((f i).2+1),F',w2,rfl,?_,?_,?_,k3,E'⟩⟩
 ·have:upd (upd f i ((f i).1,IntKind.wrap .i64 ((f i).2+1))) i (v',(upd f i ((f i).1,IntKind.wrap .i64 ((f i).2+1)) i).2)=upd f i (v',IntKind.wrap .i64 ((f i).2+1)):=by
   funext j;by_cases e:j=i
   ·subst e;rw [upd_same,upd_same,upd_same]
   ·rw [AH _ _ e,AH _ _ e,AH _ _ e]
  rw [this] at T3;exact T3
 ·exact((k1.mono fun x _ e=>Or.inr e).trans (k2.mono fun x _ e=>Or.inl e) fun _ _ e=>e).trans (k3.mono fun x _ e=>Or.inr e) fun _ _ e=>e
 ·intro x hx;have s1:=k1.sz;have s3:=k3.sz;rcases hF x hx with h|h
  ·exact .inl h
  ·exact .inr ⟨by have:=h.1;omega,by have:=h.2;omega⟩
end
def Fin.St(Q:Fin):Prop:=∀F w w',Q.q F w->Kept (fun x=>¬F x) w w'->Q.q F w'
theorem Ends.env{N:Nat}{v:Value}{F:NP}{w w':WD}{Q:Fin}(hq:Q.St)(E:Ends N v F w Q)(k:Kept (fun x=>¬F x) w w'):Ends N v F w' Q:=by
 cases N with
 | zero=>exact⟨E.1,hq _ _ _ E.2 k⟩
 | succ N=>
  rcases E with⟨h1,h2⟩|⟨h1,h2⟩
  ·exact .inl ⟨h1,hq _ _ _ h2 k⟩
  ·exact .inr ⟨h1,fun w1 k1=>h2 w1 (k.trans k1 fun _ _ e=>e)⟩
theorem Ends.nil{N:Nat}{v:Value}{F:NP}{w:WD}{Q:Fin}(E:Ends N v F w Q)(h:isF v=false):Q.q F w:=by
 cases N with
 | zero=>exact E.2
 | succ N=>
  rcases E with h1|h1
  ·exact h1.2
  ·rw [h1.1] at h;cases h
section
variable {w:WD}{t sb n:Nat}{f:Nat->Value×Int}
theorem run_spec(h:TabAt w t sb n f){i:Nat}(hi:i<n){M most:Nat}{F:NP}{Q:Fin}(hq:Q.St)(E:Ends M (f i).1 F w Q)(h1:¬F t)(h2:¬F sb)(hm:M<=most)(hmo:most<=1000000)
 {wb:Nat} (hw:rd w wb 1=some (ptr t)) (hC:F wb->Q.C wb) (hs:wb≠sb) :
 Calls prog 21 #[ptr wb,vi i,vi most] w fun e w'=>e=.returned (.bool true)/\∃F' f',Q.q F' w'/\TabAt w' t sb n f'/\isF (f' i).1=false/\(∀x,F' x->F x\/w.heap.size<=x)/\Kept (fun x=>(F x/\¬Q.C x)\/x=sb) w w':=by
 refine Calls.ret (vc21 _ i most w _ ?_);apply qI;have ht:t<w.heap.size:=h.so.lt;have hsb:sb<w.heap.size:=h.fs.lt;have hrw:∀{W:WD},Kept (fun x=>(F x/\¬Q.C x)\/x=sb) w W->rd W wb 1=some (ptr t):=fun kk=>kk.rd_some hw fun hx=>hx.elim (fun e=>e.2 (hC e.1)) fun e=>hs e;refine⟨fun j W N=>∃(q:Nat) (F':NP) (f':Nat->Value×Int),j=q/\q<=most/\N=most-q/\TabAt W t sb n f'/\Ends (M-q) (f' i).1 F' W Q/\(∀x,F' x->F x\/w.heap.size<=x)/\Kept (fun x=>(F x/\¬Q.C x)\/x=sb) w W,
  ⟨most,0,F,f,rfl,Nat.zero_le _,rfl,h,E,fun _ hx=>.inl hx,Kept.refl _ _⟩,?_⟩
 rintro _ W _ ⟨q,F',f',rfl,hqm,rfl,T,E',hF,kk⟩;have n1:¬F' t:=fun hx=>(hF t hx).elim h1 fun e=>by omega
 have n2:¬F' sb:=fun hx=>(hF sb hx).elim h2 fun e=>by omega
 have fin:∀(hx:isF (f' i).1=false),Calls prog 13 #[ptr t,vi i] W fun e w'=>∃b:Bool,e=.returned (.bool b)/\(.returned (.bool !b)=Ending.returned (.bool true)/\∃F' f',Q.q F' w'/\TabAt w' t sb n f'/\isF (f' i).1=false/\(∀x,F' x->F x\/w.heap.size<=x)/\Kept (fun x=>(F x/\¬Q.C x)\/x=sb) w w'):=fun hx=>by
  refine(busy_spec T hi E'.ok).mono ?_;rintro _ w2 ⟨rfl,hw2⟩;rw [hw2];exact⟨_,rfl,by rw [hx];rfl,F',f',E'.nil hx,T,hx,hF,kk⟩
 refine AF (fun _=>rfl) ⟨some ⟨t,0,none⟩,fun _=>by show rd W wb (0+1)=_;exact hrw kk,AE (fun hc=>?_) (fun hc=>?_)⟩
 ·have hql:q<most:=by simp at hc;omega
  refine(busy_spec T hi E'.ok).mono ?_;rintro _ w2 ⟨rfl,hw2⟩;rw [hw2];refine⟨_,rfl,AE (fun hb=>?_) (fun hb=>?_)⟩
  ·refine AA rfl ⟨some ⟨t,0,none⟩,by show rd W wb (0+1)=_;exact hrw kk,?_⟩;have hpos:1<=M-q:=by
    rcases Nat.eq_zero_or_pos (M-q) with e|e
    ·rw [e] at E';rw [E'.1] at hb
     cases hb
    ·exact e
   have E2:Ends ((M-q-1)+1) (f' i).1 F' W Q:=by rw [Nat.sub_add_cancel hpos];exact E'
   refine(run1_spec T hi hb E2 n1 n2).mono ?_;rintro _ w3 ⟨b,v',d,F2,w4,rfl,T3,k3,hF2,k4,E3⟩;have s1:=kk.sz;have n3:¬F2 sb:=fun hx=>(hF2 sb hx).elim n2 fun e=>by have:=e.1;omega
   refine⟨_,_,rfl,most-(q+1),by omega,q+1,F2,upd f' i (v',d),wzz,hql,rfl,T3,?_,fun x hx=>?_,?_⟩
   ·rw [upd_same,show M-(q+1)=M-q-1 by omega];exact E3.env hq (k4.mono fun x _ e hx=>n3 (e▸hx))
   ·rcases hF2 x hx with h5|h5
    ·exact hF x h5
    ·exact .inr (by have:=h5.1;omega)
   ·refine kk.trans k3 fun x hx e=>?_;rcases e with⟨e1,e2⟩|e
    ·rcases hF x e1 with h5|h5
     ·exact .inl ⟨h5,e2⟩
     ·omega
    ·exact .inr e
  ·exact AA rfl ⟨some ⟨t,0,none⟩,by show rd W wb (0+1)=_;exact hrw kk,fin hb⟩
 ·have hqe:q=most:=by simp at hc;omega
  have hz:isF (f' i).1=false:=by
   have:M-q=0:=by omega
   rw [this] at E';rw [E'.1];rfl
  exact AA rfl ⟨some ⟨t,0,none⟩,by show rd W wb (0+1)=_;exact hrw kk,fin hz⟩
end
structure Wv where
 b:Nat
 k:Nat
 t:Nat
 mid:List Value
 gb:Nat
 nb:Nat
 lb:Nat
 cb:Nat
 n:Nat
def Wv.rows(V:Wv)(x:Nat):Prop:=x=V.gb\/x=V.nb\/x=V.lb\/x=V.cb
structure WAt(w:WD)(V:Wv)(gt:Nat->Value)(nn la ca:Nat->Int):Prop where
 so:own w V.b ([ptr V.k,ptr V.t]++V.mid++[.slice (some ⟨V.gb,0,none⟩) V.n V.n,.slice (some ⟨V.nb,0,none⟩) V.n V.n,.slice (some ⟨V.lb,0,none⟩) V.n V.n,.slice (some ⟨V.cb,0,none⟩) V.n V.n])
 ml:V.mid.length=107
 n16:V.n<=16
 gt:own w V.gb ((List.range V.n).map gt)
 nn:own w V.nb (AK .i64 nn 0 V.n)
 la:own w V.lb (AK .i64 la 0 V.n)
 ca:own w V.cb (AK .i64 ca 0 V.n)
 ne:V.gb≠V.nb/\V.gb≠V.lb/\V.gb≠V.cb/\V.nb≠V.lb/\V.nb≠V.cb/\V.lb≠V.cb
 nw:¬V.rows V.b
section
variable {w w':WD}{V:Wv}{gt:Nat->Value}{nn la ca:Nat->Int}
theorem WAt.kx(h:WAt w V gt nn la ca){X:NP}(k:Kept X w w')(hx:∀x,X x->x=V.b\/V.rows x->False):WAt w' V gt nn la ca:=
 ⟨h.so.kx k fun e=>hx _ e (.inl rfl),h.ml,h.n16,h.gt.kx k fun e=>hx _ e (.inr (.inl rfl)),h.nn.kx k fun e=>hx _ e (.inr (.inr (.inl rfl))),h.la.kx k fun e=>hx _ e (.inr (.inr (.inr (.inl rfl)))),h.ca.kx k fun e=>hx _ e (.inr (.inr (.inr (.inr rfl)))),h.ne,h.nw⟩
theorem WAt.k(h:WAt w V gt nn la ca)(k:Kept AB w w'):WAt w' V gt nn la ca:=h.kx k fun _ e=>e.elim
theorem WAt.lt(h:WAt w V gt nn la ca):∀x,x=V.b\/V.rows x->x<w.heap.size:=by
 rintro x (rfl|rfl|rfl|rfl|rfl)
 ·exact h.so.lt
 ·exact h.gt.lt
 ·exact h.nn.lt
 ·exact h.la.lt
 ·exact h.ca.lt
theorem WAt.rd0(h:WAt w V gt nn la ca):rd w V.b 0=some (ptr V.k):=by rw [h.so.rd];rfl
theorem WAt.rd1(h:WAt w V gt nn la ca):rd w V.b (0+1)=some (ptr V.t):=by rw [h.so.rd];rfl
theorem WAt.rdR(h:WAt w V gt nn la ca){j:Nat}{v:Value}(hv:[Value.slice (some ⟨V.gb,0,none⟩) V.n V.n,.slice (some ⟨V.nb,0,none⟩) V.n V.n,.slice (some ⟨V.lb,0,none⟩) V.n V.n,.slice (some ⟨V.cb,0,none⟩) V.n V.n][j]? = some v):rd w V.b (0+(109+j))=some v:=by
 rw [za,h.so.rd,gar (by simp [h.ml]),lap,h.ml]
 show _[109+j-(2+107)]? = _
 rw [show 109+j-(2+107)=j by omega];exact hv
theorem WAt.rdG(h:WAt w V gt nn la ca){i:Nat}(hi:i<V.n):rd w V.gb i=some (gt i)/\wr w V.gb i:=by
 refine⟨?_,h.gt.wr (by simpa using hi)⟩;rw [h.gt.rd,gmp,List.getElem?_range hi];rfl
theorem WAt.rdN(h:WAt w V gt nn la ca){i:Nat}(hi:i<V.n):rd w V.nb i=some (vi (nn i))/\wr w V.nb i:=by
 refine⟨?_,h.nn.wr (by rw [AI];exact hi)⟩;rw [h.nn.rd,AT _ _ _ _ _ hi,za]
theorem WAt.rdL(h:WAt w V gt nn la ca){i:Nat}(hi:i<V.n):rd w V.lb i=some (vi (la i))/\wr w V.lb i:=by
 refine⟨?_,h.la.wr (by rw [AI];exact hi)⟩;rw [h.la.rd,AT _ _ _ _ _ hi,za]
theorem WAt.putL(h:WAt w V gt nn la ca){i:Nat}(hi:i<V.n){v:Int}(e:w'=st w V.lb i (vi v)):WAt w' V gt nn (upd la i v) ca/\Kept V.rows w w':=by
 have kk:Kept (·=V.lb) w w':=kr.s1 e (.inl rfl);have o:=h.la.s1 e;rw [GS hi] at o;obtain⟨n1,n2,n3,n4,n5,n6⟩:=h.ne;exact⟨⟨h.so.kx kk fun e=>h.nw (.inr (.inr (.inl e))),h.ml,h.n16,h.gt.kx kk n2,h.nn.kx kk n4,o,h.ca.kx kk (Ne.symm n6),h.ne,h.nw⟩,kk.mono fun x _ e=>.inr (.inr (.inl e))⟩
theorem WAt.putN(h:WAt w V gt nn la ca){i:Nat}(hi:i<V.n){v:Int}(e:w'=st w V.nb i (vi v)):WAt w' V gt (upd nn i v) la ca/\Kept V.rows w w':=by
 have kk:Kept (·=V.nb) w w':=kr.s1 e (.inl rfl);have o:=h.nn.s1 e;rw [GS hi] at o;obtain⟨n1,n2,n3,n4,n5,n6⟩:=h.ne;exact⟨⟨h.so.kx kk fun e=>h.nw (.inr (.inl e)),h.ml,h.n16,h.gt.kx kk n1,o,h.la.kx kk (Ne.symm n4),h.ca.kx kk (Ne.symm n5),h.ne,h.nw⟩,kk.mono fun x _ e=>.inr (.inl e)⟩
theorem WAt.putG(h:WAt w V gt nn la ca){i:Nat}(hi:i<V.n){v:Value}(e:w'=st w V.gb i v):WAt w' V (upd gt i v) nn la ca/\Kept V.rows w w':=by
 have kk:Kept (·=V.gb) w w':=kr.s1 e (.inl rfl);have o:=h.gt.s1 e;have e2:((List.range V.n).map gt).set i v=(List.range V.n).map (upd gt i v):=by
  refine List.ext_getElem? fun j=>?_;rw [List.getElem?_set];by_cases hj:i=j
  ·subst hj;rw [if_pos rfl,if_pos (by simpa using hi),gmp,List.getElem?_range hi];simp
  ·rw [if_neg hj,gmp,gmp];by_cases hj2:j<V.n
   ·rw [List.getElem?_range hj2];simp [AH _ _ (Ne.symm hj)]
   ·rw [gen (by simp;omega)];rfl
 rw [e2] at o;obtain⟨n1,n2,n3,n4,n5,n6⟩:=h.ne;exact⟨⟨h.so.kx kk fun e=>h.nw (.inl e),h.ml,h.n16,o,h.nn.kx kk (Ne.symm n1),h.la.kx kk (Ne.symm n2),h.ca.kx kk (Ne.symm n3),h.ne,h.nw⟩,kk.mono fun x _ e=>.inl e⟩
end
theorem Ctx.DY{k:Nat}{S:AL}{fp:Prt->Nat->Prop}{FR:NP}{w w':WD}(X:Ctx k S fp FR w)(kk:Kept FR w w'):Ctx k S fp FR w':=
 ⟨X.C.kx kk fun x q e hq=>X.dj q x hq e,fun x hx=>nll (X.lt x hx) kk.sz,X.dj⟩
section
variable {k N:Nat}{Q:Fin}{S:AL}{fp:Prt->Nat->Prop}{FR:NP}{W:WD}{V:Wv}{gt:Nat->Value}{nn la ca:Nat->Int}{cpu bw bc br:Nat}{rest:Value}
theorem mine_out{W2 w':WD}{fp2:Prt->Nat->Prop}{e:Ending}(hR:∀x,V.rows x->FR x/\¬Q.C x)(kk:Kept V.rows W W2)(hN:Nx N Q (Fo fp (fun x=>FR x\/rng W W2 x)) W2 e w'):∃v,e=.returned v/\Nx N Q (Fo fp FR) W (.returned v) w':=
 (Nx.pre (kk.mono fun x _ h=>⟨.inr (hR x h).1,(hR x h).2⟩) (fun y hy=>by
  rcases hy with h|h|h
  ·exact .inl (.inl h)
  ·exact .inl (.inr h)
  ·exact .inr h) hN).out
theorem had_none(X:Ctx k S fp FR W)(A:WAt W V gt nn la ca)(hk:V.k=k)(hc:cpu<V.n)(hnn:nn cpu=0)(hR:∀x,V.rows x->FR x/\¬Q.C x)(hbx:∀W',Kept V.rows W W'->rd W' bw 0=some (ptr V.b)/\rd W' bc 0=some (vi cpu)/\rd W' br 0=some rest)
 (H:∀W',Kept V.rows W W'->Ctx k S fp (fun x=>FR x\/rng W W' x) W'->WAt W' V gt (upd nn cpu 1) (upd la cpu (-1)) ca->AM prog rest [] W' (Nx N Q (Fo fp (fun x=>FR x\/rng W W' x)) W')) :
 AM prog (.func (.func 106) #[] #[ptr bw,ptr bc,ptr br]) [vi (-1),vi 6] W (Nx N Q (Fo fp FR) W):=by
 refine AM.mk 106 #[] _ rfl (by kernel_rfl) (Calls.ret (vc106 (-1) 6 (some ⟨bw,0,none⟩) (some ⟨bc,0,none⟩) (some ⟨br,0,none⟩) W _ ?_));have hn:=A.n16;apply qI;intro w1 e1;have k1:=kdr e1;have A1:=A.k k1;obtain⟨b1,b2,b3⟩:=hbx w1 k1.none;refine AA rfl ⟨_,b1,AA rfl ⟨_,_,_,A1.rdR (j:=2) rfl,AA rfl ⟨cpu,b2,AA rfl (Wi ⟨by rw [tnc,mo];show wr w1 V.lb (0+cpu);rw [za];exact(A1.rdL hc).2,fun w2 e2=>?_⟩)⟩⟩⟩;have e2:w2=st w1 V.lb cpu (vi (-1)):=by
  have e2:w2=st w1 V.lb (0+Int.toNat (cpu:Int)*1) (vi (-1)):=e2;rw [tnc,mo,za] at e2;exact e2
 obtain⟨A2,q2⟩:=A1.putL hc e2;have k2:Kept V.rows W w2:=(k1.none).trans q2 fun _ _ e=>e;refine AA rfl fun w3 e3=>?_;have q3:=kdr e3;have k3:Kept V.rows W w3:=k2.trans q3 fun _ _ e=>e.elim;have A3:=A2.k q3;obtain⟨c1,c2,c3⟩:=hbx w3 k3;refine AA rfl ⟨_,c1,AA rfl ⟨_,_,_,A3.rdR (j:=1) rfl,AA rfl ⟨cpu,c2,AA rfl (Wi ⟨nn cpu,by rw [tnc,mo];show rd w3 V.nb (0+cpu)=_;rw [za];exact(A3.rdN hc).1,AA rfl (Wi ⟨by rw [tnc,mo];show wr w3 V.nb (0+cpu);rw [za];exact(A3.rdN hc).2,fun w4 e4=>?_⟩)⟩)⟩⟩⟩;have e4:w4=st w3 V.nb cpu (vi 1):=by
  have e4:w4=st w3 V.nb (0+Int.toNat (cpu:Int)*1) (vi (IntKind.wrap .i64 (nn cpu+1))):=e4;rw [tnc,mo,za,hnn] at e4;exact e4
 obtain⟨A4,q4⟩:=A3.putN hc e4;have k4:Kept V.rows W w4:=k3.trans q4 fun _ _ e=>e;obtain⟨d1,d2,d3⟩:=hbx w4 k4;have X4:Ctx k S fp (fun x=>FR x\/rng W w4 x) w4:=by
  have X':=X.DY (k4.mono fun x _ h=>(hR x h).1);exact⟨X'.C,fun x hx=>hx.elim (X'.lt x) fun h=>h.2,fun p x hp hr=>hr.elim (X.dj p x hp) fun h=>by have:=(X.C.lt p x hp).2;have:=h.1;omega⟩
 exact AA rfl ⟨rest,d3,AQ (H w4 k4 X4 A4) fun e w' hN=>mine_out (fp2:=fp) hR k4 hN⟩
end
section
variable {k N:Nat}{Q:Fin}{S:AL}{fp:Prt->Nat->Prop}{FR:NP}{W:WD}{V:Wv}{gt:Nat->Value}{nn la ca:Nat->Int}{cpu bw bc br:Nat}{rest:Value}
theorem Ctx.fresh{w4:WD}(X:Ctx k S fp FR W)(kk:Kept FR W w4):Ctx k S fp (fun x=>FR x\/rng W w4 x) w4:=by
 have X':=X.DY kk;exact⟨X'.C,fun x hx=>hx.elim (X'.lt x) fun h=>h.2,fun p x hp hr=>hr.elim (X.dj p x hp) fun h=>by have:=(X.C.lt p x hp).2;have:=h.1;omega⟩
set_option maxHeartbeats 2000000 in
theorem had_some{f i:Nat}(X:Ctx k S fp FR W)(A:WAt W V gt nn la ca)(hk:V.k=k)(hc:cpu<V.n)(hg0:gt cpu=.slice none 0 0)(hi:i<S.nodes)(hf1:AN S.c i<=f)(hf2:(f:Int)<AN S.c (i+1))(hR:∀x,V.rows x->FR x/\¬Q.C x)(hbx:∀W',Kept V.rows W W'->rd W' bw 0=some (ptr V.b)/\rd W' bc 0=some (vi cpu)/\rd W' br 0=some rest)
 (H:∀W' a cp,Kept V.rows W W'->Ctx k S fp (fun x=>FR x\/rng W W' x) W'->WAt W' V (upd gt cpu (.slice a 1 cp)) nn (upd la cpu (i:Nat)) ca->BK W' W.heap.size a 1 cp [(f:Int)]->AM prog rest [] W' (Nx N Q (Fo fp (fun x=>FR x\/rng W W' x)) W')) :
 AM prog (.func (.func 106) #[] #[ptr bw,ptr bc,ptr br]) [vi f,vi 0] W (Nx N Q (Fo fp FR) W):=by
 refine AM.mk 106 #[] _ rfl (by kernel_rfl) (Calls.ret (vc106 f 0 (some ⟨bw,0,none⟩) (some ⟨bc,0,none⟩) (some ⟨br,0,none⟩) W _ ?_));have hn:=A.n16;have eo:∀b:Nat,(0+Int.toNat (cpu:Int)*1)=cpu:=fun _=>by rw [tnc,mo,za]
 apply qI;intro w1 e1;have k1:=kdr e1;have A1:=A.k k1;obtain⟨b1,b2,b3⟩:=hbx w1 k1.none;refine AA rfl ⟨_,b1,AA rfl ⟨_,_,_,A1.rdR (j:=2) rfl,AA rfl ⟨cpu,b2,AA rfl (Wi ⟨by show wr w1 V.lb (0+Int.toNat (cpu:Int)*1);rw [eo 0];exact(A1.rdL hc).2,fun w2 e2=>?_⟩)⟩⟩⟩;have e2:w2=st w1 V.lb cpu (vi (-1)):=by
  have e2:w2=st w1 V.lb (0+Int.toNat (cpu:Int)*1) (vi (-1)):=e2;rw [eo 0] at e2;exact e2
 obtain⟨A2,q2⟩:=A1.putL hc e2;have k2:Kept V.rows W w2:=(k1.none).trans q2 fun _ _ e=>e;refine AG rfl fun w3 e3=>?_;have q3:=kdr e3;have k3:Kept V.rows W w3:=k2.trans q3 fun _ _ e=>e.elim;have A3:=A2.k q3;have rg:∀{W':WD}{gt':Nat->Value}{nn' la' ca':Nat->Int},WAt W' V gt' nn' la' ca'->rd W' V.gb (0+Int.toNat (cpu:Int)*1)=some (gt' cpu):=fun A=>by rw [eo 0];exact(A.rdG hc).1
 obtain⟨c1,c2,c3⟩:=hbx w3 k3;have rg3:=rg A3;rw [hg0] at rg3;refine AA rfl ⟨_,c1,AA rfl ⟨_,_,_,A3.rdR (j:=0) rfl,AA rfl ⟨cpu,c2,AA rfl ⟨_,c1,AA rfl ⟨_,_,_,A3.rdR (j:=0) rfl,AA rfl ⟨cpu,c2,AA rfl (Wi ⟨none,0,0,rg3,fun w4 e4=>?_⟩)⟩⟩⟩⟩⟩⟩;have o4:=AD e4;have q4:=kal e4;have k4:Kept V.rows W w4:=k3.trans q4 fun _ _ e=>e.elim;have A4:=A3.k q4;have rg4:=rg A4;rw [hg0] at rg4;obtain⟨d1,d2,d3⟩:=hbx w4 k4;have hs4:=k4.sz;obtain⟨a,l,cp,w5,happ,R5,q5'⟩:=BK.app (base:=w4.heap.size) (BK.MT (w:=w4)) (a2:=some ⟨w3.heap.size,0,none⟩) (l2:=1) (c2:=1) (ys:=[(f:Int)]) (Eng.Src.of_own (off:=0) o4 fun t u h=>by simpa using h) rfl (nlr _) (by simp);have q5:Kept AB w4 w5:=q5'.mono fun b _ e=>by cases e
 have k5:Kept V.rows W w5:=k4.trans q5 fun _ _ e=>e.elim;have A5:=A4.k q5;obtain⟨f1,f2,f3⟩:=hbx w5 k5;obtain rfl:l=1:=R5.1;refine⟨⟨rg4,trivial⟩,⟨d2,trivial⟩,⟨A4.rdR (j:=0) rfl,trivial⟩,⟨d1,trivial⟩,⟨d2,trivial⟩,⟨A4.rdR (j:=0) rfl,trivial⟩,⟨d1,trivial⟩,a,1,cp,w5,happ,⟨f1,trivial⟩,⟨f2,trivial⟩,⟨A5.rdR (j:=0) rfl,trivial⟩,⟨f1,trivial⟩,AA rfl (Wi ⟨by show wr w5 V.gb (0+Int.toNat (cpu:Int)*1);rw [eo 0];exact(A5.rdG hc).2,fun w6 e6=>?_⟩)⟩;have e6:w6=st w5 V.gb cpu (.slice a 1 cp):=by
  have e6:w6=st w5 V.gb (0+Int.toNat (cpu:Int)*1) (.slice a 1 cp):=e6;rw [eo 0] at e6;exact e6
 obtain⟨A6,q6⟩:=A5.putG hc e6;have k6:Kept V.rows W w6:=k5.trans q6 fun _ _ e=>e;have hrow:∀x,V.rows x->(Value.slice a 1 cp).ownBlock=some x->False:=fun x h1 h2=>by
  have:=(R5.lt h2).1;have:=A.lt x (.inr h1);omega
 have R6:=R5.kx q6 hrow;intro w7 e7;have q7:=kdr e7;have k7:Kept V.rows W w7:=k6.trans q7 fun _ _ e=>e.elim;have A7:=A6.k q7;have R7:=R6.k q7;obtain⟨g1,g2,g3⟩:=hbx w7 k7;have X7:=X.DY (k7.mono fun x _ h=>(hR x h).1);have rk7:rd w7 V.b 0=some (ptr k):=by rw [A7.rd0,hk]
 refine AA rfl ⟨_,g1,AA rfl ⟨_,_,_,A7.rdR (j:=2) rfl,AA rfl ⟨cpu,g2,AA rfl ⟨_,g1,AA rfl ⟨_,rk7,(JQ X7.C hi hf1 hf2).mono ?_⟩⟩⟩⟩⟩;rintro _ w8 ⟨rfl,q8⟩;have k8:Kept V.rows W w8:=k7.trans q8 fun _ _ e=>e.elim;have A8:=A7.k q8;have R8:=R7.k q8;obtain⟨h1,h2,h3⟩:=hbx w8 k8;refine⟨_,rfl,⟨h2,trivial⟩,⟨A8.rdR (j:=2) rfl,trivial⟩,⟨h1,trivial⟩,AA rfl (Wi ⟨by show wr w8 V.lb (0+Int.toNat (cpu:Int)*1);rw [eo 0];exact(A8.rdL hc).2,fun w9 e9=>?_⟩)⟩;have e9:w9=st w8 V.lb cpu (vi (i:Nat)):=by
  have e9:w9=st w8 V.lb (0+Int.toNat (cpu:Int)*1) (vi (i:Nat)):=e9;rw [eo 0] at e9;exact e9
 obtain⟨A9,q9⟩:=A8.putL hc e9;have k9:Kept V.rows W w9:=k8.trans q9 fun _ _ e=>e;have R9:=R8.kx q9 hrow;obtain⟨_,_,h3⟩:=hbx w9 k9;have eu:upd (upd la cpu (-1)) cpu ((i:Nat):Int)=upd la cpu ((i:Nat):Int):=QB _ _ _ _;rw [eu] at A9;refine AA rfl ⟨rest,h3,AQ (H w9 a cp k9 (X.fresh (k9.mono fun x _ h=>(hR x h).1)) A9 (R9.weak (by omega))) fun e w' hN=>mine_out (fp2:=fp) hR k9 hN⟩
end
theorem Bx.add{w0 w:WD}{l:List (Nat×Value)}{b:Nat}{v:Value}(h:Bx w0 w l)(o:own w b [v])(hb:w0.heap.size<=b):Bx w0 w ((b,v)::l):=
 ⟨h.k,fun c u hm=>by
  rcases List.mem_cons.1 hm with e|hm
  ·cases e;exact⟨o,hb⟩
  ·exact h.o c u hm⟩
section
variable {k N:Nat}{Q:Fin}{S:AL}{fp:Prt->Nat->Prop}{FR:NP}{W:WD}{V:Wv}{gt:Nat->Value}{nn la ca:Nat->Int}{cpu:Nat}
theorem prog_nil{a:OA}{c:Nat}(w:WD):Calls prog 43 #[ptr V.b,vi cpu,.slice a 0 c] w fun e w'=>e=.returned .nilFunc/\Kept AB w w':=by
 refine Calls.ret (vc43 _ cpu a 0 c w _ ?_);apply qI;intro w1 e1 w2 e2 w3 e3;have B:=(((Bx.nil w).al e1).al e2).al e3;exact⟨a,0,c,B.rd (b:=w2.heap.size) (by simp),AA rfl ⟨rfl,B.k⟩⟩
theorem rest_nil{bw bc bl:Nat}{a:OA}{c:Nat}(hc:1<=c)(h1:rd W bw 0=some (ptr V.b))(h2:rd W bc 0=some (vi cpu))(h3:rd W bl 0=some (.slice a 1 c)) :
 AM prog (.func (.func 105) #[] #[ptr bw,ptr bc,ptr bl]) [] W fun e w'=>e=.returned .nilFunc/\Kept AB W w':=by
 refine AM.mk 105 #[] _ rfl (by kernel_rfl) (Calls.ret (vc105 (some ⟨bw,0,none⟩) (some ⟨bc,0,none⟩) (some ⟨bl,0,none⟩) W _ ?_));apply qI;intro w1 e1;have k1:=kdr e1;refine AA rfl ⟨_,k1.rd_some h1 id,AA rfl ⟨cpu,k1.rd_some h2 id,AA rfl ⟨a,1,c,k1.rd_some h3 id,AA (BI (by decide) (by decide) (by omega)) ((prog_nil (V:=V) w1).mono ?_)⟩⟩⟩;rintro _ w2 ⟨rfl,k2⟩;exact⟨_,rfl,rfl,k1.tr k2⟩
theorem Nx.fin{w':WD}{G:NP}(kk:Kept AB W w')(hq:Q.q (Fo fp G) w')(hG:∀x,G x->FR x\/rng W w' x)(n:Nat):Nx n Q (Fo fp FR) W (.returned .nilFunc) w':=by
 refine⟨.nilFunc,Fo fp G,rfl,rfl,kk.none,fun x hx=>?_,?_⟩
 ·rcases hx with h|h
  ·exact .inl (.inl h)
  ·exact(hG x h).imp .inr id
 ·cases n with
  | zero=>exact⟨rfl,hq⟩
  | succ n=>exact .inl ⟨rfl,hq⟩
set_option maxHeartbeats 4000000 in
end
def CD(c:Nat->Int)(cpu:Nat):List Nat:=(CE c (c (2+cpu)).toNat).map Int.toNat
theorem GM{c:Nat->Int}(hm:CW c)(cpu:Nat):(CD c cpu).map (fun x:Nat=>(x:Int))=CE c (c (2+cpu)).toNat/\(∀x∈CD c cpu,x<(c 0).toNat)/\(CD c cpu).Nodup/\(CD c cpu).length=(c 0).toNat:=by
 obtain⟨⟨h1,h2⟩,h3⟩:=nodesL_ok hm (c (2+cpu)).toNat;unfold CD;generalize CE c (c (2+cpu)).toNat=l at *;refine⟨?_,fun x hx=>?_,?_,by rw [lmp,h3]⟩
 ·rw [List.map_map];refine(List.map_congr_left fun x hx=>?_).trans (List.map_id _);have:=(h1 x hx).1
  show((x.toNat:Nat):Int)=x
  omega
 ·obtain⟨y,hy,rfl⟩:=List.mem_map.1 hx;have:=h1 y hy;omega
 ·rw [List.nodup_iff_pairwise_ne,List.pairwise_map,List.pairwise_iff_getElem];intro i j hi hj hij e;have a1:=h1 _ (List.getElem_mem hi);have a2:=h1 _ (List.getElem_mem hj);have e2:l[i]=l[j]:=by omega
  have:=h2 i j l[i] (geg hi) (by rw [geg hj,e2]);omega
theorem JB.no{Z:Fx}{xs:List Nat}{S S':AL}{pg pg':Nat->Pg}{cnt cnt':Nat}(h:JB Z xs S pg cnt S' pg' cnt')(j:Nat):pg' j=.no↔pg j=.no:=by
 induction h with
 | refl=>exact Iff.rfl
 | turn T _ ih=>exact ih
 | @step S S1 S2 pg pg2 cnt cnt2 i p f s xs1 xs2 _ _ _ hp _ _ _ _ _ _ W _ ih=>
  rw [ih];by_cases e:j=p
  ·subst e;rw [upd_same,hp];exact⟨(fun e=>by cases e),fun e=>by cases e⟩
  ·rw [AH _ _ e]
def AskR(S:AL)(pin:Nat->Bool)(pg:Nat->Pg)(xs:List Nat)(V:Wv)(gt:Nat->Value)(nn nn0:Nat->Int)(cpu:Nat)(hd:Option Nat)(G:NP)(W:WD):Prop:=
 (hd=none/\gt cpu=.slice none 0 0/\nn cpu=1/\(∀x∈xs,(AX (S.L x):Int)<=S.c 91)/\(HC S\/∀i∈xs,NoGo S pg pin i))\/
 (nn=nn0/\∃f g o cp,hd=some f/\gt cpu=.slice (some ⟨g,o,none⟩) 1 cp/\G g/\¬V.rows g/\rd W g o=some (vi (f:Nat))/\1<=cp)
theorem AskR.k{S:AL}{pin:Nat->Bool}{pg:Nat->Pg}{xs:List Nat}{V:Wv}{gt:Nat->Value}{nn nn0:Nat->Int}{cpu:Nat}{hd:Option Nat}{G:NP}{W W':WD}(h:AskR S pin pg xs V gt nn nn0 cpu hd G W)(kk:Kept AB W W'):AskR S pin pg xs V gt nn nn0 cpu hd G W':=
 h.imp id fun⟨h0,f,g,o,cp,h1,h2,h3,h4,h5,h6⟩=>⟨h0,f,g,o,cp,h1,h2,h3,h4,kk.rd_some h5 id,h6⟩
def Had(Z:Fx)(xs:List Nat)(S:AL)(pg:Nat->Pg)(cnt:Nat)(S':AL)(pg':Nat->Pg)(cnt':Nat)(la:Nat->Int)(cpu:Nat)(hd:Option Nat):Prop:=
 (hd=none/\la cpu=-1/\JB Z xs S pg cnt S' pg' cnt'/\(∀x∈xs,(AX (S'.L x):Int)<=S'.c 91)/\(HC S'\/∀i∈xs,NoGo S' pg' Z.pin i))\/
 (∃(f i:Nat) (S1:AL) (l':List Bk) (xs1 xs2:List Nat),hd=some f/\la cpu=(i:Nat)/\JB Z xs S pg cnt S1 pg' cnt'/\xs=xs1++i::xs2/\(∀x∈xs1,(AX (S1.L x):Int)<=S1.c 91)/\S1.c 91<(AX (S1.L i):Int)/\S'=S1.taken cpu i f l' 4)
section
variable {k N:Nat}{Q:Fin}{S:AL}{fp:Prt->Nat->Prop}{FR:NP}{W:WD}{V:Wv}{gt:Nat->Value}{nn la ca:Nat->Int}{cpu:Nat}
theorem nodes_v{bw bc bp:Nat}{page:Int}(hp:0<=page)(hm:CW S.c)(hc:cpu<S.AO)(hk:V.k=k)(hA:∀W' fp',Ltr W fp FR W' fp'->rd W' bw 0=some (ptr V.b)/\rd W' bc 0=some (vi cpu)/\rd W' bp 0=some (vi page)/\rd W' V.b 0=some (ptr V.k)) :
 NodesV k (.func (.func 108) #[] #[ptr bw,ptr bc,ptr bp]) (CD S.c cpu) S.c FR W fp:=by
 intro W1 S' fp' b X L ec hb;obtain⟨r1,r2,r3,r4⟩:=hA W1 fp' L;refine AM.mk 108 #[] _ rfl (by kernel_rfl) (Calls.ret (vc108 (some ⟨bw,0,none⟩) (some ⟨bc,0,none⟩) (some ⟨bp,0,none⟩) W1 _ ?_));apply qI;intro w1 e1;have k1:=kdr e1;refine AA rfl ⟨_,k1.rd_some r1 id,AA rfl ⟨_,k1.rd_some r4 id,AA rfl ⟨cpu,k1.rd_some r2 id,AA rfl ⟨page,k1.rd_some r3 id,?_⟩⟩⟩⟩;rw [hk];refine(nodes_spec (X.C.k k1) hb hp (cpu:=cpu) (by show cpu<(S'.c 1).toNat;rw [ec];exact hc)).mono ?_;rintro _ w2 ⟨a,l,cp,rfl,k2,R⟩;rw [ec] at R;refine⟨a,l,cp,rfl,a,l,cp,rfl,k1.tr k2,?_⟩;rw [(GM hm cpu).1];exact R.weak k1.sz
set_option maxHeartbeats 4000000 in
theorem prog_ask{M l c ab ao:Nat}{Z:Fx}{pg:Nat->Pg}{cnt:Nat}{nx:Int}(X:Ctx k S fp FR W)(hC:∀x,Q.C x->FR x)(hZ:Z.hd=none)(hZc:Z.hc=cpu)(L:Z.St S pg cnt)(A:WAt W V gt nn la ca)(hk:V.k=k)(hc:cpu<V.n)(hcs:cpu<S.AO)(hl1:1<=l)(hl:l<=c)(hrd:rd W ab ao=some (vi 1)/\rd W ab (ao+1)=some (vi nx))
 (hgt:gt cpu=.slice none 0 0) (hnn:nn cpu=0) (hR:∀x,V.rows x->FR x/\¬Q.C x) (hFb:FR V.b)
 (H:∀W' S' fp' gt' nn' la' pg' cnt' hd G,(∀x,FR x->G x)->Kept (fun x=>¬FR x\/V.rows x) W W'->QSt S' Z.rt Z.lf pg' Z.pin Z.A cpu hd cnt' Z.tot->S'.c=S.c->Ctx k S' fp' G W'->WAt W' V gt' nn' la' ca->(∀j,pg' j=.no↔pg j=.no)->AskR S' Z.pin pg' (CD S.c cpu) V gt' nn' nn cpu hd G W'->Had Z (CD S.c cpu) S pg cnt S' pg' cnt' la' cpu hd->
  Calls prog 43 #[ptr V.b,vi cpu,.slice (BJ (some ⟨ab,ao,none⟩) c 1 2) (l-1) (c-1)] W' fun e w'=>∃v,e=.returned v/\Nx M Q (Fo fp' G) W' (.returned v) w') :
 Calls prog 43 #[ptr V.b,vi cpu,.slice (some ⟨ab,ao,none⟩) l c] W fun e w'=>∃v,e=.returned v/\Nx (M+bdP (CD S.c cpu).length (cnt+1)) Q (Fo fp FR) W (.returned v) w':=by
 have hn:=A.n16;have hm:=X.C.my;refine Calls.ret (vc43 _ cpu (some ⟨ab,ao,none⟩) l c W _ ?_);apply qI;intro w1 e1 w2 e2 w3 e3;have B3:=(((Bx.nil W).al e1).al e2).al e3;refine⟨_,_,_,B3.rd (b:=w2.heap.size) (v:=.slice (some ⟨ab,ao,none⟩) l c) (by simp),AG (by simp;omega) ⟨_,_,_,B3.rd (b:=w2.heap.size) (v:=.slice (some ⟨ab,ao,none⟩) l c) (by simp),AA rfl (Wi ⟨1,nx,⟨B3.k.rd_some hrd.1 id,B3.k.rd_some hrd.2 id⟩,fun w4 e4 w5 e5=>?_⟩)⟩⟩;have o4:=AD e4;have k4:=kal e4;have o5:=AD e5;have k5:=kal e5;have x5:=o4.k k5;have s4:=o4.lt;have sW:=B3.k.sz;refine⟨wr2 x5,fun w6 e6=>?_⟩;obtain⟨x6,q6⟩:=IY x5 e6;have o6:own w6 w4.heap.size [.nilFunc]:=o5.kx q6 (by omega);refine⟨o6.wr (by decide),fun w7 e7=>?_⟩;generalize hrest:Value.func (Fn.func 105) #[] #[Value.pointer (some (Addr.mk W.heap.size 0 none)),Value.pointer (some (Addr.mk w1.heap.size 0 none)),Value.pointer (some (Addr.mk w2.heap.size 0 none))]=rest at *;have o7:own w7 w4.heap.size [rest]:=o6.s1 e7;have q7:Kept (·=w4.heap.size) w6 w7:=kr.s1 e7 (.inl rfl);have x7:=x6.kx q7 (by omega);have K37:Kept AB w3 w7:=BD (BD (k4.tr k5) q6 fun y e=>by omega) q7 fun y e=>by omega
 have B7:=(B3.kk K37).add o7 (by omega);refine⟨nx,by rw [x7.rd];rfl,fun w8 e8=>⟨Bx.wr0 e8,fun w9 e9 w10 e10=>⟨Bx.wr0 e10,fun w11 e11=>?_⟩⟩⟩;have B9:=(B7.al2 e8 e9).2;have B11:=(B9.al2 e10 e11).2;have k79:Kept AB w7 w9:=by
  have o8:=AD e8;exact BD (kr.al e8) (e9▸(Kept.refl (·=w7.heap.size) w8).st (.inl rfl)) fun y e=>by omega
 have k911:Kept AB w9 w11:=by
  have o8:=AD e10;exact BD (kr.al e10) (e11▸(Kept.refl (·=w9.heap.size) w10).st (.inl rfl)) fun y e=>by omega
 have x11:=(x7.k k79).k k911;generalize hpage:IntKind.wrap .i64 (Int.tmod (IntKind.wrap .u64 nx) 32)=page at *;have hp0:0<=page:=by
  have h1:0<=IntKind.wrap .u64 nx:=by
   simp only [IntKind.wrap,IntKind.bits,IntKind.signed,Bool.false_and,Bool.false_eq_true,if_false];exact Int.emod_nonneg _ (by decide)
  have h2:0<=Int.tmod (IntKind.wrap .u64 nx) 32:=Int.tmod_nonneg _ h1;have h3:Int.tmod (IntKind.wrap .u64 nx) 32<32:=Int.tmod_lt_of_pos _ (by decide);rw [<- hpage,wi (by omega)];exact h2
 refine⟨1,by rw [x11.rd];rfl,AA rfl fun w12 e12=>?_⟩;have B:=B11.dr e12;have X12:=X.more B.k;have hG:∀y,FR y->(FR y\/rng W w12 y):=fun y h=>.inl h;have hC1:∀x,Q.C x->(FR x\/rng W w12 x):=fun x h=>.inl (hC x h);have hR1:∀x,V.rows x->(FR x\/rng W w12 x)/\¬Q.C x:=fun x h=>⟨.inl (hR x h).1,(hR x h).2⟩;have rowlt:∀x,V.rows x->x<W.heap.size:=fun x h=>A.lt x (.inr h);have inF:∀x,x=V.b\/V.rows x->FR x:=fun x h=>h.elim (fun e=>e▸hFb) fun h=>(hR x h).1;have A12:=A.k B.k;have rk12:rd w12 V.b 0=some (ptr k):=by rw [A12.rd0,hk]
 have rrx:∀{W':WD}{b:Nat}{v:Value},Kept (fun x=>¬(FR x\/rng W w12 x)\/V.rows x) w12 W'->(b,v)∈_->rd W' b 0=some v:=fun {W' b v} kk hm=>by
  obtain⟨o,hb⟩:=B.o b v hm;have hlt:=o.lt;rw [(o.kx kk fun h=>h.elim (fun hn=>hn (.inr ⟨hb,hlt⟩)) fun h=>by have:=rowlt _ h;omega).rd];rfl
 have hnd:=GM hm cpu;have hnl:(CD S.c cpu).length<=8:=by rw [hnd.2.2.2];have:=hm.1;omega
 refine⟨_,B.rd (b:=W.heap.size) (v:=ptr V.b) (by simp),AA rfl ⟨_,rk12,cpu,B.rd (b:=w1.heap.size) (by simp),_,B.rd (b:=w9.heap.size) (v:=.func (.func 106) #[] #[ptr W.heap.size,ptr w1.heap.size,ptr w4.heap.size]) (by simp),?_⟩⟩;have after:∀(W':WD) (S':AL) (fp':Prt->Nat->Prop) (gt':Nat->Value) (nn' la':Nat->Int) (pg':Nat->Pg) (cnt':Nat) (hd:Option Nat) (G:NP),(∀y,(FR y\/rng W w12 y)->G y)->Kept (fun x=>¬(FR x\/rng W w12 x)\/V.rows x) w12 W'->QSt S' Z.rt Z.lf pg' Z.pin Z.A cpu hd cnt' Z.tot->S'.c=S.c->Ctx k S' fp' G W'->WAt W' V gt' nn' la' ca->(∀j,pg' j=.no↔pg j=.no)->AskR S' Z.pin pg' (CD S.c cpu) V gt' nn' nn cpu hd G W'->Had Z (CD S.c cpu) S pg cnt S' pg' cnt' la' cpu hd->
  AM prog rest [] W' (Nx M Q (Fo fp' G) W'):=by
  intro W' S' fp' gt' nn' la' pg' cnt' hd G hGG kk L' ec X' A' hpg hg' hH;rw [<- hrest];refine AM.mk 105 #[] _ rfl (by kernel_rfl) (Calls.ret (vc105 (some ⟨W.heap.size,0,none⟩) (some ⟨w1.heap.size,0,none⟩) (some ⟨w2.heap.size,0,none⟩) W' _ ?_));apply qI;intro y1 d1;have j1:=kdr d1;have M1:=X'.mv0 j1;refine AA rfl ⟨_,j1.rd_some (rrx kk (b:=W.heap.size) (v:=ptr V.b) (by simp)) id,AA rfl ⟨cpu,j1.rd_some (rrx kk (b:=w1.heap.size) (by simp)) id,AA rfl ⟨_,_,_,j1.rd_some (rrx kk (b:=w2.heap.size) (v:=.slice (some ⟨ab,ao,none⟩) l c) (by simp)) id,AA BI ?_⟩⟩⟩;have kW:Kept (fun x=>¬FR x\/V.rows x) W y1:=(B.k.none.trans kk fun x hx h=>h.imp (fun hn hf=>hn (.inl hf)) id).trans j1.none fun _ _ e=>e;refine(H y1 S' fp' gt' nn' la' pg' cnt' hd G (fun x h=>hGG x (.inl h)) kW L' ec M1.X (A'.k j1) hpg (hg'.k j1) hH).mono ?_
  ·rintro e w' ⟨v,rfl,hN⟩;exact M1.out X' (fun z h=>hGG z (hC1 z h)) (fun _ h=>h) (nlr _) hN
 refine(frame_spec (N:=M) (Q:=Q) (Z:=Z) (th:=.func (.func 106) #[] #[ptr W.heap.size,ptr w1.heap.size,ptr w4.heap.size]) (nv:=.func (.func 108) #[] #[ptr W.heap.size,ptr w1.heap.size,ptr w7.heap.size]) (xs:=CD S.c cpu) rfl rfl hnl hnd.2.2.1 hZ hZc cnt hC1 X12 L hcs hnd.2.1 (nodes_v hp0 hm hcs hk fun W' fp' L'=>?_) ⟨fun S' pg' cnt' g h1 h2 L' y fp2 Y N2=>?_,fun S' pg' cnt' xs1 i xs2 f l' g a1 a2 a3 a4 a5 a6 L' C' y fp2 Y N2=>?_⟩).mono ?_
 ·have kk:Kept (fun x=>¬(FR x\/rng W w12 x)\/V.rows x) w12 W':=L'.kp.mono fun x _ h=>.inl h;exact⟨rrx kk (by simp),rrx kk (by simp),rrx kk (by simp),(A12.kx L'.kp fun x hn h=>hn (.inl (inF x h))).rd0⟩
 ·have kk:Kept (fun x=>¬(FR x\/rng W w12 x)\/V.rows x) w12 y:=N2.kp.mono fun x _ h=>.inl h;have AY:=A12.kx N2.kp fun x hn h=>hn (.inl (inF x h));refine had_none (rest:=rest) Y AY hk hc hnn hR1 (fun W' kw=>?_) fun W' kw XW AW=>?_
  ·have k2:=kk.trans kw fun x _ h=>.inr h;exact⟨rrx k2 (by simp),rrx k2 (by simp),rrx k2 (by simp)⟩
  ·have k2:=kk.trans kw fun x _ h=>.inr h;have L'':QSt S' Z.rt Z.lf pg' Z.pin Z.A cpu none cnt' Z.tot:=by rw [<- hZ,<- hZc];exact L'
   exact after W' S' fp2 gt _ _ pg' cnt' none _ (fun y h=>.inl h) k2 L'' g.c XW AW (fun j=>g.no j) (.inl ⟨rfl,hgt,upd_same _ _ _,h1,h2⟩) (.inl ⟨rfl,upd_same _ _ _,g,h1,h2⟩)
 ·have kk:Kept (fun x=>¬(FR x\/rng W w12 x)\/V.rows x) w12 y:=N2.kp.mono fun x _ h=>.inl h;have AY:=A12.kx N2.kp fun x hn h=>hn (.inl (inF x h));have ec:=g.c;have hi:i<S'.nodes:=by
   show i<(S'.c 0).toNat
   rw [ec];exact hnd.2.1 i (by rw [a1];simp)
  have L'':QSt S' Z.rt Z.lf pg' Z.pin Z.A cpu none cnt' Z.tot:=by rw [<- hZ,<- hZc];exact L'
  obtain⟨wC,fpC,C'⟩:=C';have LT:=L''.taken C' hi a4 a6;refine had_some (rest:=rest) (f:=f) (i:=i) Y AY hk hc hgt hi a4 a5 hR1 (fun W' kw=>?_) fun W' a cp kw XW AW RW=>?_
  ·have k2:=kk.trans kw fun x _ h=>.inr h;exact⟨rrx k2 (by simp),rrx k2 (by simp),rrx k2 (by simp)⟩
  ·have k2:=kk.trans kw fun x _ h=>.inr h;obtain⟨gb,o,rfl,hr⟩:=RW.o.at' (by simp);have hlt:=RW.lt (x:=gb) rfl;refine after W' _ fp2 _ _ _ pg' cnt' (some f) _ (fun y h=>.inl h) k2 LT ec XW AW (fun j=>g.no j) (.inr ⟨rfl,f,gb,o,cp,rfl,upd_same _ _ _,.inr ⟨hlt.1,hlt.2⟩,fun h=>?_,hr 0 _ rfl,?_⟩) (.inr ⟨f,i,S',l',xs1,xs2,rfl,upd_same _ _ _,g,a1,a2,a3,rfl⟩)
   ·have:=AY.lt gb (.inr h);omega
   ·rcases (BZ RW.2).2 with⟨h0,_⟩|⟨_,_,_,_,_,_,h4,_⟩
    ·cases h0
    ·exact h4
 ·intro e w' hN;obtain⟨v,rfl,hN'⟩:=(Nx.pre (F:=Fo fp FR) B.k.none (fun y hy=>by
   rcases hy with h|h|h
   ·exact .inl (.inl h)
   ·exact .inl (.inr h)
   ·exact .inr h) hN).out
  exact⟨v,rfl,v,rfl,hN'⟩
end
theorem newSpace_spec(root:Int)(w:WD):Calls prog 35 #[vi root] w fun e w'=>∃b,e=.returned (ptr b)/\Kept AB w w'/\EX w' (rng w w') b root 0:=by
 refine(vc35 root w (fun v w'=>∃b,v=ptr b/\Kept AB w w'/\EX w' (rng w w') b root 0) ?_).mono ?_
 rotate_left
 ·rintro e w' ⟨v,rfl,b,rfl,h⟩;exact⟨b,rfl,h⟩
 unfold Q;refine(vc94 w (fun v w'=>v=ptr w.heap.size/\w'=w.alloc (.cells #[.slice none 0 0] 305)) (by unfold vcP94;exact fun w1 e1=>⟨rfl,e1⟩)).mono ?_;rintro _ w1 ⟨v,rfl,rfl,e1⟩;have o1:=AD e1;have k1:=kal e1;refine⟨_,rfl,?_⟩;refine(vc95 1024 w1 (fun v w'=>∃pb' wb,v=ptr pb'/\Kept AB w1 w'/\own w' pb' [.slice (some ⟨wb,0,none⟩) 16 16,vi 1024]/\own w' wb (List.replicate 16 (.int .u64 0))/\w1.heap.size<=pb'/\w1.heap.size<=wb) ?_).mono ?_
 ·unfold Q;simp only [gt_iff_lt,show ¬((1024:Int)<0) by decide,show ¬((65536:Int)<1024) by decide,if_false];have e2:IntKind.wrap .i64 (Int.tdiv (IntKind.wrap .i64 (1024+63)) 64)=16:=by decide
  rw [e2];refine AA (by decide) fun w2 e3 w3 e4=>?_;have o2:own w2 w1.heap.size (List.replicate 16 (.int .u64 0)):=AD e3;have o3:=AD e4;have k2:=kal e3;exact⟨_,_,rfl,k2.al e4,o3,o2.al e4,k2.sz,nlr _⟩
 rintro _ w2 ⟨v,rfl,pb',wb,rfl,k2,p1,p2,hp1,hp2⟩;refine⟨_,rfl,fun w3 e3 w4 e4=>?_⟩;have m3:BE w3 w2.heap.size []:=J5 e3;have k3:Kept AB w2 w3:=e3▸kr.allocMap _ _;have o4:=AD e4;have k4:=kal e4;have s1:=k1.sz;have s2:=k2.sz;have s3:=k3.sz;have l1:=o1.lt;have l4:=o4.lt;have lm:=m3.lt;have lp:=p1.lt;have lw:=p2.lt;have s4:=k4.sz;have ka:Kept AB w2 w4:=k3.tr k4;refine⟨_,rfl,(k1.tr k2).tr ka,⟨by decide,w.heap.size,pb',wb,w2.heap.size,o4,(o1.k k2).k ka,p1.k ka,p2.k ka,m3.k k4,?_,?_,?_,?_,?_⟩⟩ <;> exact⟨by omega,by omega⟩
section
variable {w:WD}{k:Nat}{S:AL}{fp:Prt->Nat->Prop}
abbrev AL.FQ(S:AL)(b:Nat)(rt:Int):AL:={S with sp:=fun i=>if i=1 then some b else none,root:=upd S.root 1 rt,pins:=upd S.pins 1 0}
theorem core_space(h:AJ w k S fp)(hsp:S.sp=fun _=>none){w1 w2:WD}{b:Nat}{rt:Int}(k1:Kept AB w w1)(SP:EX w1 (rng w w1) b rt 0)(e:w2=st w1 k 106 (ptr b)):Step w w2 k (S.FQ b rt) fp:=by
 have hk:=h.at' .core;have hk0:k<w.heap.size:=h.k0;have k2:Kept (·=k) w1 w2:=kr.s1 e (.inl rfl);have K2:Kept (·=k) w w2:=(k1.mono fun _ _ e=>e.elim).trans k2 fun _ _ e=>e;have hs2:w2.heap.size=w1.heap.size:=by rw [e];simp
 refine⟨K2.mono fun x _ e=>⟨.core,e▸hk.2⟩,_,h.upd (fun p=>p=.core\/p=.space 1) (.space 1) K2 (fun x hx _=>⟨.core,.inl rfl,hx▸hk.2⟩) rfl (fun p F W hp hq=>?_) (.inr rfl) fun p hp=>?_,fun p x hx=>hx.imp id fun e=>e.2⟩
 ·cases p with
  | core=>exact absurd (.inl rfl) hp
  | space i=>
   intro b' hb';have hb':(if i=1 then some b else none)=some b':=hb';have:i≠1:=fun e=>hp (.inr (by rw [e]));rw [if_neg this] at hb'
   cases hb'
  | _=>exact hq
 ·rcases hp with rfl|rfl
  ·refine⟨?_,.inl hk.2⟩;have o1:=(hk.1.k k1);have o2:=KJ (i:=12) (v:=ptr b) o1 (show w2=st w1 k (94+12) (ptr b) from e);have:(IQ S).set 12 (ptr b)=IQ (S.FQ b rt):=by
    unfold IQ;rw [hsp]
    rfl
   rw [this] at o2;exact o2
  ·intro b' hb';have hb':(if 1=1 then some b else none)=some b':=hb';rw [if_pos rfl] at hb'
   cases hb'
   obtain⟨ab,pb',wb,mb,a1,a2,a3,a4,a5,f1,f2,f3,f4,f5⟩:=SP.ex;have ne:∀x,rng w w1 x->x≠k:=fun x hx e=>by have:=hx.1;omega
   have fr:∀x,rng w w1 x->fp (.space 1) x\/(Prt.space 1=Prt.space 1/\rng w w2 x):=fun x hx=>.inr ⟨rfl,hx.1,by have:=hx.2;omega⟩;have hrt:(S.FQ b rt).root 1=rt:=by show upd S.root 1 rt 1=rt;exact upd_same _ _ _
   have hpn:(S.FQ b rt).pins 1=0:=by show upd S.pins 1 0 1=0;exact upd_same _ _ _
   rw [hrt,hpn];exact⟨by decide,ab,pb',wb,mb,a1.kx k2 (ne _ f1),a2.kx k2 (ne _ f2),a3.kx k2 (ne _ f3),a4.kx k2 (ne _ f4),a5.kx k2 (ne _ f5),fr _ f1,fr _ f2,fr _ f3,fr _ f4,fr _ f5⟩
end
theorem fsumAll{l:List Bk}{a b:Nat}(h:CQ a l b)(hg:∀x∈l,x.g=0):a+AX l=b:=by
 induction l generalizing a with
 | nil=>simp [CQ] at h;simp [AX];omega
 | cons x l ih=>
  have h1:=ih h.2.2.2 fun y hy=>hg y (by simp [hy]);rw [D8,if_pos (hg x (by simp))];omega
theorem ownsNil(n:Nat):owns n (fun _=>(0,0))=[]:=by simp [owns]
theorem wordK_zero(o:Nat):∀k,FP (fun _=>0) o k=0
 | 0=>rfl
 | k+1=>by unfold FP;rw [wordK_zero o k,Int.zero_mul];rfl
theorem wdF_zero(n:Nat)(a b:Int):wdF (fun _=>0) n a b=0:=by
 unfold wdF;split
 ·exact wordK_zero _ _
 ·rfl
section
variable {w:WD}{k:Nat}{S:AL}{fp:Prt->Nat->Prop}
theorem fresh_sum(h:AJ w k S fp)(F:Fresh S):∀{q:Nat},q<=S.nodes->((DT q (fun i=>AX (S.L i)):Nat):Int)=AN S.c q
 | 0,_=>rfl
 | q+1,hq=>by
  obtain⟨_,_,hk⟩:=h.zn;have ih:=fresh_sum h F (q:=q) (by omega);have hf:=h.fst (i:=q) (by omega);have h1:=fsumAll (h.HF (i:=q) (by omega)) (F.L q (by omega));rw [D7];omega
theorem QSt.begun(h:AJ w k S fp)(F:Fresh S){l1 l2:List Bk}{r1 r2:Nat}{n0:Nat}(hn0:n0=(S.c 18).toNat)(ht1:CQ 0 l1 n0)(hr1:r1<n0)(hr2:r2<n0)(hm1:∀y:Bk,y.g=1->(y∈l1↔y∈S.L 0\/y=⟨r1,0,1⟩))(hs1:AX l1+1=AX (S.L 0))
 (hx2:∃x∈l1,x.g=0/\x.p<=r2/\r2<x.p+2^x.o) (hm2:∀y:Bk,y.g=1->(y∈l2↔y∈l1\/y=⟨r2,0,1⟩)) (hs2:AX l2+1=AX l1) (b hc:Nat) :
 QSt ((((((S.JH (upd S.L 0 l1)).JH (upd (upd S.L 0 l1) 0 l2)).GQ (smS S.mks S.n r1 CC)).GQ (smS (smS S.mks S.n r1 CC) S.n r2 CC)).FQ b r1).J9 (slS S.by' S.n r1 0 r2)) r1 r2 (fun _=>.no) (fun _=>false) [] hc none 0 0:=by
 have hs:=h.BO;have hn:=h.n4;have hf0:=h.fst (i:=0) (by omega);have e0:AN S.c 0=0:=rfl;have hn0':(n0:Int)<=S.n:=by
  have:S.c (18+0)=S.c 18:=rfl;omega
 obtain⟨_,_,hk⟩:=h.zn;have hne:r1≠r2:=fun e=>by
  obtain⟨x,hx,hg,h3,h4⟩:=hx2;have h5:(⟨r1,0,1⟩:Bk)∈l1:=(hm1 _ rfl).2 (.inr rfl);have:x=⟨r1,0,1⟩:=IE ht1 hx h5 (f:=r2) h3 h4 (by show r1<=r2;omega) (by show r2<r1+2^0;omega);subst this
  cases hg
 obtain⟨_,hsm1⟩:=J1 (mk:=S.mks) (n:=S.n) (f:=r1) (x:=CC) (by omega) (by decide);obtain⟨_,hsm2⟩:=J1 (mk:=smS S.mks S.n r1 CC) (n:=S.n) (f:=r2) (x:=CC) (by omega) (by decide);have hmk:smS (smS S.mks S.n r1 CC) S.n r2 CC=upd (upd S.mks r1 CC) r2 CC:=by rw [hsm2,hsm1]
 have hw:wdE S.n (r1:Int) 0=0:=DD;have hby:slS S.by' S.n r1 0 r2=wdS (fun _=>0) S.n r1 0 (1+4*(r2:Int)):=by
  have:slE S.n r1 0 r2=0:=by unfold slE;rw [if_neg (by omega)];exact hw
  unfold slS;rw [if_pos this,if_neg (by omega),F.by']
  rfl
 have hx:0<=1+4*(r2:Int)/\1+4*(r2:Int)<=18446744073709551615:=by omega
 have hL:upd (upd S.L 0 l1) 0 l2=upd S.L 0 l2:=QB _ _ _ _;have tk:∀y:Bk,y.g=1->(y∈l2↔y=⟨r1,0,1⟩\/y=⟨r2,0,1⟩):=fun y hg=>by
  rw [hm2 y hg,hm1 y hg];constructor
  ·rintro ((hy|hy)|hy)
   ·have:=F.L 0 (by omega) y hy;omega
   ·exact .inl hy
   ·exact .inr hy
  ·rintro (hy|hy)
   ·exact .inl (.inr hy)
   ·exact .inr hy
 exact {
  by':=by show ByR (slS S.by' S.n r1 0 r2);rw [hby];exact wdS_r (fun _=>⟨by decide,by decide⟩) _ _ _ _
  rl:=⟨by show r1<S.n;omega,by show r2<S.n;omega,hne⟩
  sp:=⟨b,rfl⟩
  root:=by show upd S.root 1 _ 1=_;exact upd_same _ _ _
  w0:=by
   show wdF (slS S.by' S.n r1 0 r2) S.n r1 0=_
   rw [hby,JT hx hw hw,if_pos ⟨rfl,rfl⟩]
  wz:=fun j h1 h2=>by
   show wdF (slS S.by' S.n r1 0 r2) S.n r1 j=0
   rw [hby,JT hx hw DD,if_neg (by omega),wdF_zero]
  wl:=fun j hj=>by
   show wdF (slS S.by' S.n r1 0 r2) S.n r2 j=0
   rw [hby,JT hx hw DD,if_neg (by omega),wdF_zero]
  pgo:=fun j f e=>by cases e
  pgs:=fun j f e=>by cases e
  inj:=fun j j' f e=>by cases e
  Ao:=fun f e=>by cases e
  And:=List.nodup_nil
  hdr:=fun f e=>by cases e
  rof1:=fun j f e=>by cases e
  rof2:=fun f _ e=>by
   have e:(S.rof f).1≠0:=e;rw [F.rof] at e;exact absurd rfl e
  rat1:=fun kk v e=>by
   have e:S.rat.lookup kk=some v:=e;rw [F.rat] at e
   cases e
  rat2:=fun j f e=>by cases e
  ck:=fun i hi=>by
   show FL (S.ring i) (S.cof i)
   rw [F.ring,F.cof];exact⟨(fun kk v e=>by cases e),(fun kk=>by simp),List.nodup_nil⟩
  ckm:=fun i hi x=>by
   show x∈S.ring i↔_
   rw [F.ring];simp
  mk1:=by
   show smS (smS S.mks S.n r1 CC) S.n r2 CC r1=CC/\smS (smS S.mks S.n r1 CC) S.n r2 CC r2=CC
   rw [hmk,upd_same,AH _ _ hne,upd_same];exact⟨rfl,rfl⟩
  mkA:=fun f e=>by cases e
  mk2:=fun j f e=>by cases e
  mkh:=fun f e=>by cases e
  mk3:=fun f hf hn=>by
   show smS (smS S.mks S.n r1 CC) S.n r2 CC f=CM
   rw [hmk,AH _ _ fun e=>hn (.inr (.inl e)),AH _ _ fun e=>hn (.inl e),F.mks]
  tk1:=fun i hi y hy hg=>by
   have hy:y∈upd (upd S.L 0 l1) 0 l2 i:=hy;rw [hL] at hy;by_cases e:i=0
   ·subst e;rw [upd_same] at hy;rcases (tk y hg).1 hy with rfl|rfl
    ·exact⟨rfl,.inl (by show(AN S.c 0).toNat+r1=r1;rw [e0];omega)⟩
    ·exact⟨rfl,.inr (.inl (by show(AN S.c 0).toNat+r2=r2;rw [e0];omega))⟩
   ·rw [AH _ _ e] at hy;have hi:i<S.nodes:=hi;have:=F.L i (by omega) y hy;omega
  tk2:=fun f hu=>by
   have go:∀r:Nat,(⟨r,0,1⟩:Bk)∈l2->∃i y,i<S.nodes/\y∈upd (upd S.L 0 l1) 0 l2 i/\y.g=1/\(AN S.c i).toNat+y.p=r:=fun r hr=>⟨0,⟨r,0,1⟩,by omega,by rw [upd_same];exact hr,rfl,by show(AN S.c 0).toNat+r=r;rw [e0];omega⟩;rcases hu with rfl|rfl|⟨j,e⟩|e|e
   ·exact go _ ((tk _ rfl).2 (.inl rfl))
   ·exact go _ ((tk _ rfl).2 (.inr rfl))
   ·cases e
   ·cases e
   ·cases e
  so:=fun s _=>.inl (by show S.sof s=_;rw [F.sof])
  byf:=fun j f e=>by cases e
  bys:=fun j f e=>by cases e
  pinE:=fun j _=>by show(upd S.pins 1 0 1).testBit j=false;rw [upd_same];simp
  pinF:=fun j e=>by cases e
  cp:=by simp [Pg.KH]
  cc:=by
   show DT S.nodes (fun i=>(S.ring i).length)=0
   rw [F.ring];have:∀q,DT q (fun _:Nat=>([]:List Int).length)=0:=fun q=>by
    induction q with
    | zero=>rfl
    | succ q ih=>rw [D7,ih];rfl
   exact this _
  cu:=by
   show(owns S.AP S.sof).length+0=0
   rw [F.sof,ownsNil]
   rfl
  cf:=by
   show DT S.nodes (fun i=>AX (upd (upd S.L 0 l1) 0 l2 i))+0+2+0+0=S.n
   rw [hL];have e:(fun j=>AX (upd S.L 0 l2 j))=upd (fun j=>AX (S.L j)) 0 (AX l2):=by
    funext j;by_cases e:j=0
    ·subst e;rw [upd_same,upd_same]
    ·rw [AH _ _ e,AH _ _ e]
   have h2:=JD (n:=S.nodes) (f:=fun j=>AX (S.L j)) (i:=0) (v:=AX l2) (by omega);have h3:=fresh_sum h F (q:=S.nodes) (nlr _);have h4:AN S.c S.nodes=S.n:=by have:=hn.1;unfold AL.nodes;omega
   rw [e];omega
  held:=by show S.held=_;rw [F.held];funext t;by_cases e:t=hc <;> simp [upd,e]
  fli:=F.fli
  lh:=F.lh}
end
end Go.Proofs.YtdgbechegbmpcaaGreatDoor
