/- Part of a proof that a law returns true. Conditions: those in each theorem. -/
import Derived.Test.YtdgbechegbmpcaaGreatDoorSV10
import Derived.Test.YtdgbechegbmpcaaGreatDoorQ31
import Derived.Test.YtdgbechegbmpcaaGreatDoorQ21
import Derived.Test.YtdgbechegbmpcaaGreatDoorB0
set_option linter.unusedSimpArgs false
set_option linter.unusedVariables false
set_option maxRecDepth 100000
namespace Go.Proofs.YtdgbechegbmpcaaGreatDoor
open Go Go.Eng Go.Proofs.Tryz
theorem WAt.putC{w w':WD}{V:Wv}{gt:Nat->Value}{nn la ca:Nat->Int}(h:WAt w V gt nn la ca){i:Nat}(hi:i<V.n){v:Int}(e:w'=st w V.cb i (vi v)):WAt w' V gt nn la (upd ca i v)/\Kept V.rows w w':=by
 have kk:Kept (·=V.cb) w w':=kr.s1 e (.inl rfl);have o:=h.ca.s1 e;rw [GS hi] at o;obtain⟨n1,n2,n3,n4,n5,n6⟩:=h.ne;exact⟨⟨h.so.kx kk fun e=>h.nw (.inr (.inr (.inr e))),h.ml,h.n16,h.gt.kx kk n3,h.nn.kx kk n5,h.la.kx kk n6,o,h.ne,h.nw⟩,kk.mono fun x _ e=>.inr (.inr (.inr e))⟩
section
variable {k N:Nat}{Q:Fin}{S:AL}{fp:Prt->Nat->Prop}{FR:NP}{W:WD}{V:Wv}{gt:Nat->Value}{nn la ca:Nat->Int}{cpu bw bc br:Nat}{rest:Value}
theorem came_spec{got:Int}(X:Ctx k S fp FR W)(A:WAt W V gt nn la ca)(hc:cpu<V.n)(hR:∀x,V.rows x->FR x/\¬Q.C x)(hbx:∀W',Kept V.rows W W'->rd W' bw 0=some (ptr V.b)/\rd W' bc 0=some (vi cpu)/\rd W' br 0=some rest)
 (H:∀W',Kept V.rows W W'->Ctx k S fp (fun x=>FR x\/rng W W' x) W'->WAt W' V gt nn la (upd ca cpu got)->AM prog rest [] W' (Nx N Q (Fo fp (fun x=>FR x\/rng W W' x)) W')) :
 AM prog (.func (.func 124) #[] #[ptr bw,ptr bc,ptr br]) [vi got] W (Nx N Q (Fo fp FR) W):=by
 refine AM.mk 124 #[] _ rfl (by kernel_rfl) (Calls.ret (vc124 got (some ⟨bw,0,none⟩) (some ⟨bc,0,none⟩) (some ⟨br,0,none⟩) W _ ?_));have hn:=A.n16;apply qI;intro w1 e1;have k1:=kdr e1;have A1:=A.k k1;obtain⟨b1,b2,b3⟩:=hbx w1 k1.none;refine AA rfl ⟨_,b1,AA rfl ⟨_,_,_,A1.rdR (j:=3) rfl,AA rfl ⟨cpu,b2,AA rfl (Wi ⟨by rw [tnc,mo];show wr w1 V.cb (0+cpu);rw [za];exact A1.ca.wr (by rw [AI];exact hc),fun w2 e2=>?_⟩)⟩⟩⟩;have e2:w2=st w1 V.cb cpu (vi got):=by
  have e2:w2=st w1 V.cb (0+Int.toNat (cpu:Int)*1) (vi got):=e2;rw [tnc,mo,za] at e2;exact e2
 obtain⟨A2,q2⟩:=A1.putC hc e2;have k2:Kept V.rows W w2:=(k1.none).trans q2 fun _ _ e=>e;obtain⟨d1,d2,d3⟩:=hbx w2 k2;exact AA rfl ⟨rest,d3,AQ (H w2 k2 (X.fresh (k2.mono fun x _ h=>(hR x h).1)) A2) fun e w' hN=>mine_out (fp2:=fp) hR k2 hN⟩
end
theorem pageR(nx:Int):0<=IntKind.wrap .i64 (Int.tmod (IntKind.wrap .u64 nx) 32):=by
 have h1:0<=IntKind.wrap .u64 nx:=by
  simp only [IntKind.wrap,IntKind.bits,IntKind.signed,Bool.false_and,Bool.false_eq_true,if_false];exact Int.emod_nonneg _ (by decide)
 have h2:0<=Int.tmod (IntKind.wrap .u64 nx) 32:=Int.tmod_nonneg _ h1;have h3:Int.tmod (IntKind.wrap .u64 nx) 32<32:=Int.tmod_lt_of_pos _ (by decide);rw [wi (by omega)];exact h2
def RPass(S0:AL)(pg0:Nat->Pg)(c0:Nat)(pin:Nat->Bool)(xs:List Nat)(cpu:Nat):FinR:=fun S _ _ _ _ ca cnt hd=>hd=none/\
 ((ca cpu=0/\cnt=c0/\FC S0 S/\(HC S0\/∀i∈xs,NoGo S0 pg0 pin i))\/
  ∃xs1 i xs2,ca cpu=1/\cnt+1=c0/\xs=xs1++i::xs2/\(∀t∈xs1,NoGo S0 pg0 pin t)/\¬NoGo S0 pg0 pin i/\¬HC S0/\Went S0 S i)
section
variable {k N:Nat}{S:AL}{fp:Prt->Nat->Prop}{FR:NP}{W:WD}{V:Wv}{gt:Nat->Value}{nn la ca:Nat->Int}{cpu:Nat}
set_option maxHeartbeats 4000000 in
theorem prog_pass{c ab ao:Nat}{Z:Fx}{pg:Nat->Pg}{cnt:Nat}{nx:Int}{FR0:NP}(X:Ctx k S fp FR W)(hZ:Z.hd=none)(hZc:Z.hc=cpu)(L:Z.St S pg cnt)(A:WAt W V gt nn la ca)(hk:V.k=k)(hc:cpu<V.n)(hcs:cpu<S.AO)(hl:1<=c)(hrd:rd W ab ao=some (vi 6)/\rd W ab (ao+1)=some (vi nx))(h0:∀x,FR0 x↔FR x)(hR0:∀x,V.rows x->FR x)(hFb:FR V.b) :
 Calls prog 43 #[ptr V.b,vi cpu,.slice (some ⟨ab,ao,none⟩) 1 c] W fun e w'=>∃v,e=.returned v/\Nx (2*(CD S.c cpu).length+30*cnt+3) (PZ k S.c Z.rt Z.lf Z.pin Z.A Z.tot V cpu pg FR0 (RPass S pg cnt Z.pin (CD S.c cpu) cpu)) (Fo fp FR) W (.returned v) w':=by
 generalize hQ:PZ k S.c Z.rt Z.lf Z.pin Z.A Z.tot V cpu pg FR0 (RPass S pg cnt Z.pin (CD S.c cpu) cpu)=Q;have hC:∀x,Q.C x->FR x:=by subst hQ;exact fun x h=>(h0 x).1 h.1
 have hR:∀x,V.rows x->FR x/\¬Q.C x:=by subst hQ;exact fun x h=>⟨hR0 x h,fun e=>e.2 h⟩
 have hn:=A.n16;have hm:=X.C.my;have hnd:=GM hm cpu;refine Calls.ret (vc43 _ cpu (some ⟨ab,ao,none⟩) 1 c W _ ?_);apply qI;intro w1 e1 w2 e2 w3 e3;have B3:=(((Bx.nil W).al e1).al e2).al e3;refine⟨_,_,_,B3.rd (b:=w2.heap.size) (v:=.slice (some ⟨ab,ao,none⟩) 1 c) (by simp),AG rfl ⟨_,_,_,B3.rd (b:=w2.heap.size) (v:=.slice (some ⟨ab,ao,none⟩) 1 c) (by simp),AA rfl (AA (by decide) ⟨6,nx,⟨B3.k.rd_some hrd.1 id,B3.k.rd_some hrd.2 id⟩,fun w4 e4 w5 e5=>?_⟩)⟩⟩;have o4:=AD e4;have k4:=kal e4;have o5:=AD e5;have k5:=kal e5;have x5:=o4.k k5;have s4:=o4.lt;have sW:=B3.k.sz;refine⟨wr2 x5,fun w6 e6=>?_⟩;obtain⟨x6,q6⟩:=IY x5 e6;have o6:own w6 w4.heap.size [.nilFunc]:=o5.kx q6 (by omega);refine⟨o6.wr (by decide),fun w7 e7=>?_⟩;generalize hrest:Value.func (Fn.func 105) #[] #[Value.pointer (some (Addr.mk W.heap.size 0 none)),Value.pointer (some (Addr.mk w1.heap.size 0 none)),Value.pointer (some (Addr.mk w2.heap.size 0 none))]=rest at *;have o7:own w7 w4.heap.size [rest]:=o6.s1 e7;have q7:Kept (·=w4.heap.size) w6 w7:=kr.s1 e7 (.inl rfl);have x7:=x6.kx q7 (by omega);have K37:Kept AB w3 w7:=BD (BD (k4.tr k5) q6 fun y e=>by omega) q7 fun y e=>by omega
 have B7:=(B3.kk K37).add o7 (by omega);refine⟨nx,by rw [x7.rd];rfl,fun w8 e8=>⟨Bx.wr0 e8,fun w9 e9 w10 e10=>⟨Bx.wr0 e10,fun w11 e11=>?_⟩⟩⟩;have B9:=(B7.al2 e8 e9).2;have B11:=(B9.al2 e10 e11).2;have k79:Kept AB w7 w9:=by
  have o8:=AD e8;exact BD (kr.al e8) (e9▸(Kept.refl (·=w7.heap.size) w8).st (.inl rfl)) fun y e=>by omega
 have k911:Kept AB w9 w11:=by
  have o8:=AD e10;exact BD (kr.al e10) (e11▸(Kept.refl (·=w9.heap.size) w10).st (.inl rfl)) fun y e=>by omega
 have x11:=(x7.k k79).k k911;have hp0:=pageR nx;generalize hpage:IntKind.wrap .i64 (Int.tmod (IntKind.wrap .u64 nx) 32)=page at *;refine⟨6,by rw [x11.rd];rfl,AG rfl (AG rfl (AG rfl (AG rfl (AG rfl (AA rfl ⟨_,rfl,IS (N:=2*(CD S.c cpu).length+30*cnt+2) X B11.k rfl fun W1 X1 k1 L1=>?_⟩)))))⟩;have kF:Kept (fun x=>¬FR x) W W1:=(B11.k.none).trans (k1.mono fun x _ hn hf=>hn (.inl hf)) fun _ _ h=>h;have inF:∀x,x=V.b\/V.rows x->FR x:=fun x h=>h.elim (fun e=>e▸hFb) fun h=>(hR x h).1;have A1:=A.kx kF fun x hn h=>hn (inF x h);have rowlt:∀x,V.rows x->x<W.heap.size:=fun x h=>A.lt x (.inr h);have rrx:∀{W':WD}{b:Nat}{v:Value},Kept (fun x=>¬(FR x\/rng W w11 x)\/V.rows x) W1 W'->(b,v)∈_->rd W' b 0=some v:=fun {W' b v} kk hm=>by
  obtain⟨o,hb⟩:=B11.o b v hm;have hlt:=o.lt;have o1:=o.kx k1 fun hn=>hn (.inr ⟨hb,hlt⟩);rw [(o1.kx kk fun h=>h.elim (fun hn=>hn (.inr ⟨hb,hlt⟩)) fun h=>by have:=rowlt _ h;omega).rd];rfl
 obtain⟨sb,hsb⟩:=L.sp1;refine AM.mk 122 #[] _ rfl (by kernel_rfl) (Calls.ret (vc122 false (some ⟨W.heap.size,0,none⟩) (some ⟨w1.heap.size,0,none⟩) (some ⟨w7.heap.size,0,none⟩) (some ⟨w4.heap.size,0,none⟩) W1 _ ?_));apply qI;intro y1 d1;have j1:=kdr d1;have rk:∀{W':WD},Kept AB W1 W'->rd W' V.b 0=some (ptr k):=fun kk=>by rw [(A1.k kk).rd0,hk]
 have b0:∀{W':WD},Kept AB W1 W'->rd W' W.heap.size 0=some (ptr V.b):=fun kk=>rrx kk.none (by simp);have b1:∀{W':WD},Kept AB W1 W'->rd W' w1.heap.size 0=some (vi cpu):=fun kk=>rrx kk.none (by simp);have b2:∀{W':WD},Kept AB W1 W'->rd W' w7.heap.size 0=some (vi page):=fun kk=>rrx kk.none (by simp);refine AA rfl ⟨_,b0 j1,AA rfl ⟨_,rk j1,AA rfl ⟨cpu,b1 j1,AA rfl ⟨_,b0 j1,AA rfl ⟨_,rk j1,AA rfl ⟨cpu,b1 j1,AA rfl ⟨page,b2 j1,?_⟩⟩⟩⟩⟩⟩⟩;refine(nodes_spec (X1.C.k j1) hsb hp0 (cpu:=cpu) hcs).mono ?_;rintro _ y2 ⟨a,l,cp,rfl,j2,R⟩;rw [<- hnd.1] at R;have j12:=j1.tr j2;have X2:=X1.more j12;have R2:Nds y2 (fun y=>(FR y\/rng W w11 y)\/rng W1 y2 y) a l cp (CD S.c cpu):=(R.weak j1.sz).nds fun b h1 h2=>.inr ⟨h1,h2⟩;refine⟨a,l,cp,rfl,⟨b1 j12,trivial⟩,⟨rk j12,trivial⟩,⟨b0 j12,trivial⟩,?_⟩;have hP:=L.IG hnd.2.2.1 hnd.2.1;have hC2:∀x,Q.C x->((FR x\/rng W w11 x)\/rng W1 y2 x):=fun x h=>.inl (.inl (hC x h));have hR2:∀x,V.rows x->((FR x\/rng W w11 x)\/rng W1 y2 x)/\¬Q.C x:=fun x h=>⟨.inl (.inl (hR x h).1),(hR x h).2⟩;have fin:∀(S':AL) (pg':Nat->Pg) (cnt':Nat) (got:Int) (y3:WD) (fp3:Prt->Nat->Prop),Ctx k S' fp3 (fun y=>(FR y\/rng W w11 y)\/rng W1 y2 y) y3->Ltr y2 fp (fun y=>(FR y\/rng W w11 y)\/rng W1 y2 y) y3 fp3->S'.c=S.c->Z.St S' pg' cnt'->(∀j,pg' j=.no↔pg j=.no)->(∀gt nn la ca,ca cpu=got->RPass S pg cnt Z.pin (CD S.c cpu) cpu S' pg' gt nn la ca cnt' none)->
  AM prog (.func (.func 124) #[] #[ptr W.heap.size,ptr w1.heap.size,ptr w4.heap.size]) [vi got] y3 (Nx 1 Q (Fo fp3 (fun y=>(FR y\/rng W w11 y)\/rng W1 y2 y)) y3):=by
  intro S' pg' cnt' got y3 fp3 Y3 N3 ec LS hpg hRP;have kk:Kept (fun x=>¬(FR x\/rng W w11 x)\/V.rows x) W1 y3:=(j12.none).trans (N3.kp.mono fun x _ hn=>.inl fun h=>hn (.inl h)) fun _ _ h=>h;have A3:=(A1.k j12).kx N3.kp fun x hn h=>hn (.inl (.inl (inF x h)));refine came_spec (rest:=rest) Y3 A3 hc hR2 (fun W' kw=>?_) fun W' kw XW AW=>?_
  ·have k2:=kk.trans kw fun x _ h=>.inr h;exact⟨rrx k2 (by simp),rrx k2 (by simp),rrx k2 (by simp)⟩
  ·have k2:=kk.trans kw fun x _ h=>.inr h;have hr0:AM prog rest [] W' fun e w'=>e=.returned .nilFunc/\Kept AB W' w':=by
    rw [<- hrest];exact rest_nil (V:=V) (cpu:=cpu) (a:=some ⟨ab,ao,none⟩) (c:=c) hl (rrx k2 (b:=W.heap.size) (by simp)) (rrx k2 (b:=w1.heap.size) (by simp)) (rrx k2 (b:=w2.heap.size) (by simp))
   refine AQ hr0 ?_;rintro _ w' ⟨rfl,j⟩;have L'':QSt S' Z.rt Z.lf pg' Z.pin Z.A cpu none cnt' Z.tot:=by rw [<- hZ,<- hZc];exact LS
   refine Nx.fin j ?_ (fun x h=>.inl h) 1;subst hQ;exact⟨S',fp3,_,gt,nn,la,_,pg',cnt',none,rfl,fun x h=>.inl (.inl (.inl ((h0 x).1 h))),XW.kept j,ec,L'',AW.k j,hpg,(fun f e=>by cases e),hRP _ _ _ _ (upd_same _ _ _)⟩
 refine(pass_spec (N:=1) (Q:=Q) (th:=.func (.func 124) #[] #[ptr W.heap.size,ptr w1.heap.size,ptr w4.heap.size]) (Z:=Z) (ln:=fun i=>(S.ring i).length) rfl (CD S.c cpu) hC2 X2 L hcs R2 hnd.2.1 (fun _ _=>rfl) ⟨fun S' T LS hor y3 fp3 Y3 N3=>?_,fun S' xs1 i xs2 p f s a1 a2 a3 a4 a5 a6 a7 a8 a9 b1 b2 y3 fp3 Y3 N3=>?_⟩).mono fun e w' hN=>(Nx.pre j12.none (fun y hy=>?_) (hN.le (by omega))).out
 ·have ec:S'.c=S.c:=by obtain⟨r,o,rfl⟩:=T;rfl
  exact fin S' pg cnt 0 y3 fp3 Y3 N3 ec LS (fun _=>Iff.rfl) fun _ _ _ ca h=>⟨rfl,.inl ⟨h,rfl,T,hor⟩⟩
 ·refine fin S' _ (cnt-1) 1 y3 fp3 Y3 N3 b2.c b1 (fun j=>?_) fun _ _ _ ca h=>⟨rfl,.inr ⟨xs1,i,xs2,h,by omega,a1,a2,fun hg=>?_,fun hs=>hs s a7 a8,b2⟩⟩
  ·by_cases e:j=p
   ·subst e;rw [upd_same,a3];exact⟨(fun e=>by cases e),fun e=>by cases e⟩
   ·rw [AH _ _ e]
  ·have:=hg p f a3 a5 a6;rw [a4] at this
   cases this
 ·rcases hy with h|h|h
  ·exact .inl (.inl h)
  ·exact .inl (.inr h)
  ·exact .inr h
end
inductive AlR (xs:List Nat) (least:Int):(Nat->Nat)->(Nat->Nat)->Nat->Int->Nat->Prop
 | hit {fr can:Nat->Nat}{sl i:Nat}{xs1 xs2:List Nat}:xs=xs1++i::xs2->(∀t∈xs1,(fr t:Int)<=least)->least<(fr i:Int)->AlR xs least fr can sl i 0
 | no {fr can:Nat->Nat}{sl:Nat}:(∀t∈xs,(fr t:Int)<=least)->(sl=0\/∀t∈xs,can t=0)->AlR xs least fr can sl (-1) 0
 | step {fr can fr' can':Nat->Nat}{sl i g:Nat}{r:Int}{xs1 xs2:List Nat}:(∀t∈xs,(fr t:Int)<=least)->xs=xs1++i::xs2->(∀t∈xs1,can t=0)->0<can i->(∀t∈xs,fr' t=fr t+if t=i then 1 else 0)->(∀t∈xs,can' t+(if t=i then 1 else 0)=can t)->
  AlR xs least fr' can' sl r g->AlR xs least fr can (sl+1) r (g+1)
theorem first_uniq{xs xs1 ys1 xs2 ys2:List Nat}{i j:Nat}{P:NP}(e:xs=xs1++i::xs2)(e':xs=ys1++j::ys2)(h1:∀t∈xs1,¬P t)(h2:P i)(h1':∀t∈ys1,¬P t)(h2':P j):i=j:=by
 subst e;rcases List.append_eq_append_iff.1 e' with⟨a,rfl,h⟩|⟨a,rfl,h⟩
 ·cases a with
  | nil=>simp at h;exact h.1
  | cons y a=>simp at h;obtain⟨rfl,_⟩:=h;exact absurd h2 (h1' _ (by simp))
 ·cases a with
  | nil=>simp at h;exact h.1.symm
  | cons y a=>simp at h;obtain⟨rfl,_⟩:=h;exact absurd h2' (h1 _ (by simp))
structure AlS(W0 W:WD)(bf bc:Nat)(fr can:Nat->Nat):Prop where
 f:own W bf (AK .i64 (fun i=>(fr i:Int)) 0 8)
 c:own W bc (AK .i64 (fun i=>(can i:Int)) 0 8)
 k:Kept (fun y=>y=bf\/y=bc) W0 W
 ne:bf≠bc
section
variable {W0 W W':WD}{bf bc x v:Nat}{fr can:Nat->Nat}
theorem idx0(x:Nat):0+Int.toNat (x:Int)*1=x:=by omega
theorem AlS.rf(h:AlS W0 W bf bc fr can)(hx:x<8):rd W bf (0+Int.toNat (x:Int)*1)=some (vi (fr x))/\wr W bf (0+Int.toNat (x:Int)*1):=by
 rw [idx0];exact⟨by rw [h.f.rd,AT _ _ _ _ _ hx,za],h.f.wr (by rw [AI];exact hx)⟩
theorem AlS.rc(h:AlS W0 W bf bc fr can)(hx:x<8):rd W bc (0+Int.toNat (x:Int)*1)=some (vi (can x))/\wr W bc (0+Int.toNat (x:Int)*1):=by
 rw [idx0];exact⟨by rw [h.c.rd,AT _ _ _ _ _ hx,za],h.c.wr (by rw [AI];exact hx)⟩
theorem run_upd{fr:Nat->Nat}(hx:x<8):(AK .i64 (fun i=>(fr i:Int)) 0 8).set x (vi (v:Nat))=AK .i64 (fun i=>((upd fr x v i:Nat):Int)) 0 8:=by
 rw [GS hx];congr 1;funext i;by_cases e:i=x
 ·subst e;rw [upd_same,upd_same]
 ·rw [AH _ _ e,AH _ _ e]
theorem AlS.pf(h:AlS W0 W bf bc fr can)(hx:x<8)(e:W'=st W bf (0+Int.toNat (x:Int)*1) (vi (v:Nat))):AlS W0 W' bf bc (upd fr x v) can:=by
 rw [idx0] at e;have kk:Kept (·=bf) W W':=kr.s1 e (.inl rfl);have o:=h.f.s1 e;rw [run_upd hx] at o;exact⟨o,h.c.kx kk (Ne.symm h.ne),h.k.trans kk fun y _ e=>.inl e,h.ne⟩
theorem AlS.pc(h:AlS W0 W bf bc fr can)(hx:x<8)(e:W'=st W bc (0+Int.toNat (x:Int)*1) (vi (v:Nat))):AlS W0 W' bf bc fr (upd can x v):=by
 rw [idx0] at e;have kk:Kept (·=bc) W W':=kr.s1 e (.inl rfl);have o:=h.c.s1 e;rw [run_upd hx] at o;exact⟨h.f.kx kk h.ne,o,h.k.trans kk fun y _ e=>.inr e,h.ne⟩
end
structure AlI(xs:List Nat)(least:Int)(fr0 can0:Nat->Nat)(sl0:Nat)(fr can:Nat->Nat)(sl gone:Nat):Prop where
 J:∀r g,AlR xs least fr can sl r g->AlR xs least fr0 can0 sl0 r (gone+g)
 s:gone+sl=sl0
 bf:∀t,fr t<=100000+gone
 bc:∀t,can t<=100000
def goB(c:Nat->Int)(pg:Nat->Pg)(pin:Nat->Bool)(i j:Nat):Bool:=match pg j with
 | .fr f=>!pin j&&decide (AN c i<=(f:Int))&&decide ((f:Int)<AN c (i+1))
 | _=>false
def LG(c:Nat->Int)(pg:Nat->Pg)(pin:Nat->Bool)(i:Nat):Nat:=((List.range 32).filter fun j=>goB c pg pin i j).length
section
variable {S S':AL}{pg pg':Nat->Pg}{pin:Nat->Bool}{i:Nat}
theorem D3{c:Nat->Int}{j:Nat}:goB c pg pin i j=true↔∃f,pg j=.fr f/\pin j=false/\AN c i<=f/\(f:Int)<AN c (i+1):=by
 unfold goB
 cases h:pg j with
 | no=>exact⟨(fun e=>by cases e),fun⟨f,e,_⟩=>by cases e⟩
 | sl s=>exact⟨(fun e=>by cases e),fun⟨f,e,_⟩=>by cases e⟩
 | fr g=>
  simp only [Bool.and_eq_true,Bool.not_eq_true',decide_eq_true_eq];exact⟨fun⟨⟨a,b⟩,c⟩=>⟨g,rfl,a,b,c⟩,fun⟨f,e,a,b,c⟩=>by cases e;exact⟨⟨a,b⟩,c⟩⟩
theorem canN_0(hp:∀p f,pg p=.fr f->p<32):LG S.c pg pin i=0↔NoGo S pg pin i:=by
 unfold LG;rw [List.length_eq_zero_iff,List.filter_eq_nil_iff];constructor
 ·intro h p f h1 h2 h3
  cases e:pin p with
  | true=>rfl
  | false=>exact absurd (D3.2 ⟨f,h1,e,h2,h3⟩) (h p (List.mem_range.2 (hp p f h1)))
 ·intro h j hj e;obtain⟨f,h1,h2,h3,h4⟩:=D3.1 e;have:=h j f h1 h3 h4;rw [h2] at this
  cases this
end
theorem owns_full{n:Nat}{of:Nat->Int×Int}(h:∀s,s<n->(of s).1≠0):(owns n of).length=n:=by
 unfold owns;rw [lmp,List.filter_eq_self.2 fun s hs=>by simpa using h s (List.mem_range.1 hs),List.length_range]
theorem owns_lt{n s:Nat}{of:Nat->Int×Int}(hs:s<n)(h:(of s).1=0):(owns n of).length<n:=by
 have:((List.range n).filter fun i=>(of i).1 != 0).length<(List.range n).length:=List.length_filter_lt_length_iff_exists.2 ⟨s,List.mem_range.2 hs,by simp [h]⟩;unfold owns;rw [lmp];rw [List.length_range] at this;exact this
section
variable {w:WD}{k:Nat}{S S':AL}{fp:Prt->Nat->Prop}{pg pg':Nat->Pg}{cnt cnt':Nat}{xs:List Nat}{Z:Fx}{la:Nat->Int}{cpu:Nat}{hd:Option Nat}
theorem QSt.noslot{rt lf hc tot:Nat}{pin:Nat->Bool}{A:List Nat}(L:QSt S rt lf pg pin A hc hd cnt tot):tot<=S.AP+cnt/\(HC S↔S.AP+cnt=tot):=by
 have h:=L.cu;have hle:(owns S.AP S.sof).length<=S.AP:=owns_len _ _;refine⟨by omega,fun hn=>?_,fun e s hs e0=>?_⟩
 ·have:(owns S.AP S.sof).length=S.AP:=owns_full fun s hs=>by
   rcases L.so s hs with h|⟨j,hj⟩
   ·exact absurd h (hn s hs)
   ·rw [(L.pgs j s hj).2.2];show(1:Int)≠0;decide
  omega
 ·have:(owns S.AP S.sof).length<S.AP:=owns_lt hs (by rw [e0]);omega
end
section
variable {w w' W:WD}{k:Nat}{S:AL}{fp:Prt->Nat->Prop}{FR:NP}
def rndV(bl bk bn be bc br:Nat):Value:=.func (.func 189) #[] #[ptr bl,ptr bk,ptr bn,ptr be,ptr bc,ptr br]
structure SwB(W:WD)(FR:NP)(k cpu node bl bk bn be bc br bd:Nat)(left:Nat):Prop where
 l:own W bl [vi left]
 k:rd W bk 0=some (ptr k)
 n:rd W bn 0=some (vi node)
 e:rd W be 0=some (.func (.func 114) #[] #[ptr bd])
 c:rd W bc 0=some (vi cpu)
 r:rd W br 0=some (rndV bl bk bn be bc br)
 d:own W bd [.bool false]
 inF:FR bl/\FR bk/\FR bn/\FR be/\FR bc/\FR br/\FR bd
 ne:bk≠bl/\bn≠bl/\be≠bl/\bc≠bl/\br≠bl/\bd≠bl
variable {cpu node bl bk bn be bc br bd left:Nat}
structure SwR(S0:AL)(pg0:Nat->Pg)(node:Nat)(S:AL)(pg:Nat->Pg):Prop where
 c:S.c=S0.c
 pgs:∀p f,pg0 p=.fr f->pg p=.fr f\/((∃s,pg p=.sl s)/\AN S0.c node<=f/\(f:Int)<AN S0.c (node+1))
 no:∀j,pg j=.no↔pg0 j=.no
variable {Q:Fin}{Z:Fx}{S0:AL}{pg0 pg:Nat->Pg}{cnt:Nat}{FR0:NP}{W0:WD}
end
section
variable {k N:Nat}{S:AL}{fp:Prt->Nat->Prop}{FR:NP}{W:WD}{V:Wv}{gt:Nat->Value}{nn la ca:Nat->Int}{cpu:Nat}
set_option maxHeartbeats 8000000 in
end
def B4(S:AL)(pg:Nat->Pg)(pin:Nat->Bool)(pf:Nat->Int)(q t:Nat):Nat:=if t<S.nodes then((List.range 32).filter fun j:Nat=>decide (∃i,i<q/\pf i=(j:Int))&&goB S.c pg pin t j).length else 0
section
variable {S:AL}{pg:Nat->Pg}{pin:Nat->Bool}{pf:Nat->Int}{q t p f i pl:Nat}
theorem canQ_le:B4 S pg pin pf q t<=32:=by
 unfold B4;split
 ·exact Nat.le_trans (List.length_filter_le _ _) (by simp)
 ·omega
theorem canQ_0:B4 S pg pin pf 0=fun _=>0:=by
 funext t;unfold B4;split
 ·rw [List.length_eq_zero_iff,List.filter_eq_nil_iff];intro j _ h;rw [Bool.and_eq_true,decide_eq_true_eq] at h;obtain⟨⟨i,hi,_⟩,_⟩:=h;omega
 ·rfl
theorem canQ_end(hg:∀j f,pg j=.fr f->∃i,i<pl/\pf i=(j:Int))(ht:t<S.nodes):B4 S pg pin pf pl t=LG S.c pg pin t:=by
 unfold B4 LG;rw [if_pos ht];congr 1;refine List.filter_congr fun j _=>?_
 cases e:goB S.c pg pin t j with
 | false=>simp
 | true=>
  obtain⟨f,h,_⟩:=D3.1 e;simp [hg j f h]
theorem done_ne{j:Nat}(hp:pf q=(p:Int))(hj:j≠p):decide (∃i,i<q+1/\pf i=(j:Int))=decide (∃i,i<q/\pf i=(j:Int)):=by
 rw [decide_eq_decide];constructor
 ·rintro ⟨i,hi,e⟩;refine⟨i,?_,e⟩;by_cases h:i=q
  ·subst h;rw [hp] at e;omega
  ·omega
 ·rintro ⟨i,hi,e⟩;exact⟨i,by omega,e⟩
theorem canQ_pin(hp:pf q=(p:Int))(hpin:pin p=true):B4 S pg pin pf (q+1)=B4 S pg pin pf q:=by
 funext t;unfold B4;split
 ·congr 1;refine List.filter_congr fun j _=>?_;by_cases e:j=p
  ·subst e;have:goB S.c pg pin t j=false:=by
    cases h:goB S.c pg pin t j with
    | false=>rfl
    | true=>
     obtain⟨_,_,h2,_⟩:=D3.1 h;rw [hpin] at h2
     cases h2
   rw [this,Bool.and_false,Bool.and_false]
  ·rw [done_ne hp e]
 ·rfl
theorem canQ_add(my:CW S.c)(hp:pf q=(p:Int))(hp32:p<32)(hinj:∀i,i<q->pf i≠(p:Int))(hpg:pg p=.fr f)(hpin:pin p=false)(hi:i<S.nodes)(h1:AN S.c i<=f)(h2:(f:Int)<AN S.c (i+1)):B4 S pg pin pf (q+1)=upd (B4 S pg pin pf q) i (B4 S pg pin pf q i+1):=by
 funext t;have hc:=OL (q:=fun j:Nat=>decide (∃i,i<q/\pf i=(j:Int))&&goB S.c pg pin t j) (q':=fun j:Nat=>decide (∃i,i<q+1/\pf i=(j:Int))&&goB S.c pg pin t j) (p:=p) (n:=32) (fun j hj=>by show(decide _&&_)=(decide _&&_);rw [done_ne hp hj]) hp32;have a1:decide (∃i,i<q/\pf i=(p:Int))=false:=decide_eq_false fun⟨i,hi,e⟩=>hinj i hi e;have a2:decide (∃i,i<q+1/\pf i=(p:Int))=true:=decide_eq_true ⟨q,by omega,hp⟩;simp only [a1,a2,Bool.false_and,Bool.true_and,Bool.false_eq_true,if_false,Nat.add_zero] at hc;by_cases ht:t<S.nodes
 ·have a3:goB S.c pg pin t p=decide (t=i):=by
   by_cases e:t=i
   ·subst e;rw [decide_eq_true rfl];exact D3.2 ⟨f,hpg,hpin,h1,h2⟩
   ·rw [decide_eq_false e]
    cases e2:goB S.c pg pin t p with
    | false=>rfl
    | true=>
     obtain⟨g,a,_,b,c⟩:=D3.1 e2;rw [hpg] at a
     cases a
     exact absurd (CH my (f:=(f:Int)) ht hi b c h1 h2) e
  rw [a3] at hc;by_cases e:t=i
  ·subst e;rw [upd_same];unfold B4;rw [if_pos ht,if_pos ht];simp only [decide_true,if_true] at hc;exact hc
  ·rw [AH _ _ e];unfold B4;rw [if_pos ht,if_pos ht];simp only [e,decide_false,Bool.false_eq_true,if_false,Nat.add_zero] at hc;exact hc
 ·rw [AH _ _ (by omega)];unfold B4;rw [if_neg ht,if_neg ht]
end
def B5(S:AL)(q t:Nat):Nat:=if t<q then AX (S.L t) else 0
theorem freeQ_add{S:AL}{q:Nat}:upd (B5 S q) q (AX (S.L q))=B5 S (q+1):=by
 funext t;unfold B5;by_cases e:t=q
 ·subst e;rw [upd_same,if_pos (by omega)]
 ·rw [AH _ _ e];by_cases h:t<q
  ·rw [if_pos h,if_pos (by omega)]
  ·rw [if_neg h,if_neg (by omega)]
theorem freeQ_le{w:WD}{k:Nat}{S:AL}{fp:Prt->Nat->Prop}(h:AJ w k S fp){q:Nat}(hq:q<=S.nodes)(t:Nat):B5 S q t<=128:=by
 unfold B5;split
 ·have ht:=h.HF (i:=t) (by omega);have hf:=h.fst (i:=t) (by omega);have key:∀(l:List Bk) (a b:Nat),CQ a l b->a+AX l<=b:=fun l=>by
   induction l with
   | nil=>intro a b h;have:a=b:=h;simp [AX];omega
   | cons x l ih2=>
    intro a b h;have:=ih2 _ _ h.2.2.2;have:=p2 x.o;rw [D8];split <;> omega
  have:=key _ _ _ ht;omega
 ·omega
def FirstP(P:NP)(xs:List Nat)(n:Int):Prop:=(n=-1/\∀t∈xs,¬P t)\/∃(xs1 xs2:List Nat) (i:Nat),n=i/\xs=xs1++i::xs2/\P i/\∀t∈xs1,¬P t
theorem FirstP.snoc{P:NP}{xs:List Nat}{n:Int}{x:Nat}(h:FirstP P xs n):(n<0->P x->FirstP P (xs++[x]) x)/\(¬(n<0/\P x)->FirstP P (xs++[x]) n):=by
 constructor
 ·intro hn hp;rcases h with⟨_,h⟩|⟨xs1,xs2,i,rfl,_⟩
  ·exact .inr ⟨xs,[],x,rfl,rfl,hp,h⟩
  ·omega
 ·intro hn;rcases h with⟨rfl,h⟩|⟨xs1,xs2,i,rfl,rfl,h2,h3⟩
  ·refine .inl ⟨rfl,fun t ht=>?_⟩;rcases List.mem_append.1 ht with ht|ht
   ·exact h t ht
   ·have:t=x:=by simpa using ht
    subst this;exact fun hp=>hn ⟨by decide,hp⟩
  ·exact .inr ⟨xs1,xs2++[x],i,rfl,by simp,h2,h3⟩
end Go.Proofs.YtdgbechegbmpcaaGreatDoor
namespace Go.Proofs.YtdgbechegbmpcaaGreatDoor
open Go Go.Eng Go.Proofs.Tryz
open Go.Value (bool func)
open Option (isNone)
open Go.IntKind (wrap)
theorem vc7(x0:Nat->Int)(x94:OA)(x94L x94C:Nat)(x95:OA)(x95L x95C:Nat)(x96:Nat->Int)(cpu page:Int)(w:WD)(K:KV)(h:Q (AW w (List.toArray (AK .i64 x0 0 94++([sl x94 x94L x94C,sl x95 x95L x95C]++AK .i64 x96 0 8))) 29 fun w'=>∃(x:Nat->Int) (a1:OA) (a2 a3:Nat) (a4:OA) (a5 a6:Nat) (a7:Nat->Int),AS w' w.heap.size 0 (AK .i64 x 0 94++([sl a1 a2 a3,sl a4 a5 a6]++AK .i64 a7 0 8))/\CB 8 #[Value.agg (List.toArray (AK .i64 x 0 94++([sl a1 a2 a3,sl a4 a5 a6]++AK .i64 a7 0 8)))] w' fun b w'=>∃(x:Int),((!b||decide (cpu<0))=false->rd w' w.heap.size 1=some (.int .i64 x))/\Wif (!b||decide (cpu<0)||decide (cpu>=x)) (CB 9 #[] w' fun b w'=>K (.bool b) w') (∃(x:Nat->Int) (a8:OA) (a9 Q:Nat) (R:OA) (S T:Nat) (U:Nat->Int),AS w' w.heap.size 0 (AK .i64 x 0 94++([sl a8 a9 Q,sl R S T]++AK .i64 U 0 8))/\Calls prog 10 #[Value.agg (List.toArray (AK .i64 x 0 94++([sl a8 a9 Q,sl R S T]++AK .i64 U 0 8)))] w' fun e w'=>∃(p:OA) (b b0:Bool),e=rT (.tuple #[pt p,bool b,bool b0])/\Wif (!b0) (K (.bool false) w') (Wif (!b) (CB 9 #[] w' fun b w'=>K (.bool b) w') (AW w' (List.toArray (List.replicate 8 (vi 0))) 23 fun G=>AW G (List.toArray (List.replicate 8 (vi 0))) 23 fun V=>RI V w.heap.size 0 fun x=>∃(I:Int->WD->Nat->Prop),(∃(n:Nat),I 0 V n)/\∀(n:Int) (D:WD) (b1:Nat),I n D b1->Wif (decide (n<x)) (Wp p (Rp D p 0 fun x=>Wp x (Rp D x 95 fun H=>Calls prog 11 #[pt H,vi n] D fun(e:Ending) (C:WD)=>∃(F:Int),e=rT (vi F)/\Wn n 8 (Sw C w'.heap.size (0+Int.toNat n*1) (vi F) fun u=>Lt b1 fun m=>I (wrap .i64 (n+1)) u m)))) (RS D w.heap.size 94 fun x H b5=>∃(I:Bool->Int->WD->Nat->Prop),(∃(n:Nat),I false 0 D n)/\∀(b:Bool) (n:Int) (C:WD) (F:Nat),I b n C F->Wif (decide (n<(↑H:Int))) (Wp x (Wn n H (Ri C x (Int.toNat n*1) fun f=>∃(X:OA->Int->WD->Prop),(Dr C fun h=>Wp p (Rp h p 0 fun x=>Wp x (Rp h x 94 fun i=>Wp p (Ri h p 106 fun d=>(Calls prog 16 #[pt i,vi d,vi f] h fun e w'=>∃(n y t:Int),e=rT (.tuple #[Value.agg #[vu n,vi y],vi t])/\AW w' #[vu 0,vi 0] 69 fun u=>(wr u w'.heap.size 0/\wr u w'.heap.size 1)/\St (st u w'.heap.size 0 (vu n)) w'.heap.size 1 (vi y) fun z=>X (aD w'.heap.size) t z)/\AW h #[vu 0,vi 0] 69 fun w'=>Rt w' (pb p) (po p+106) (.int .i64 d)<|Rt w' (pb x) (po x+94) (.pointer i)<|Rt w' (pb p) (po p) (.pointer x)<|Calls prog 16 #[pt i,vi d,vi f] w' fun e w'=>∃(n y t:Int),e=rT (.tuple #[Value.agg #[vu n,vi y],vi t])/\(wr w' h.heap.size 0/\wr w' h.heap.size 1)/\St (st w' h.heap.size 0 (vu n)) h.heap.size 1 (vi y) fun u=>X (aD h.heap.size) t u))))/\∀(O:OA) (y:Int) (w':WD),X O y w'->Wif (y != 0) (K (.bool false) w') (RS w' w.heap.size 95 fun x i d=>CB 17 #[sl x i d,vi f] w' fun P w'=>Wif (!P) (Dr w' fun h=>Wp p (Rp h p 0 fun x=>Wp O (Ri h O 1 fun k=>CI 18 #[pt x,vi k] h fun t w'=>Wn (if 0>t then 0 else t) 8 (RI w' G.heap.size (0+Int.toNat (if 0>t then 0 else t)*1) fun x=>Wn (if 0>t then 0 else t) 8 (Sw w' G.heap.size (0+Int.toNat (if 0>t then 0 else t)*1) (vi (wrap .i64 (x+1))) fun u=>Lt F fun m=>I b (wrap .i64 (n+1)) u m))))) (Lt F fun m=>I b (wrap .i64 (n+1)) w' m))))) (Wp p (Rp C p 0 fun x=>Calls prog 20 #[pt x,vi cpu,vi 1,vi (wrap .i64 (Int.tmod (wrap .u64 page) 32))] C fun(e:Ending) (u:WD)=>∃(a:OA) (l c:Nat),e=rT (sl a l c)/\∃(I:Int->Int->WD->Nat->Prop),(∃(n:Nat),I (-1) 0 u n)/\∀(n y:Int) (z:WD) (t:Nat),I n y z t->Wif (decide (y<(↑l:Int))) (Wp a (Wn y l (Ri z a (Int.toNat y*1) fun x=>gIf (inB x 8) (decide (n<0)=true) (∃(f:Int),(decide (n<0)=true->rd z G.heap.size (0+Int.toNat x*1)=some (.int .i64 f))/\∃(i:Int),((decide (n<0)&&decide (f>0))=true->rd z w.heap.size 90=some (.int .i64 i))/\Wif (decide (n<0)&&decide (f>0)&&decide (i>0)) (Lt t fun m=>I x (wrap .i64 (y+1)) z m) (Lt t fun m=>I n (wrap .i64 (y+1)) z m))))) (AW z #[vi 6,vi page] 78 fun b3=>Calls prog 12 #[pt p,vi cpu,sl (aD z.heap.size) 1 1] b3 fun(e:Ending) (Y:WD)=>∃(P:Bool),e=rT (.bool P)/\Wif (!P) (K (.bool false) Y) (Calls prog 21 #[pt p,vi cpu,vi 36000] Y fun(e:Ending) (M:WD)=>∃(b2:Bool),e=rT (.bool b2)/\Wif (!b2) (K (.bool false) M) (RI M w.heap.size 0 fun x=>∃(I:Bool->Int->WD->Nat->Prop),(∃(n:Nat),I b 0 M n)/\∀(b:Bool) (A:Int) (E:WD) (Z:Nat),I b A E Z->Wif (decide (A<x)) (Wif (A==n) (Dr E fun h=>Wp p (Rp h p 0 fun x=>Wp x (Rp h x 95 fun f=>Wn A 8 (RI h w'.heap.size (0+Int.toNat A*1) fun x=>Calls prog 11 #[pt f,vi A] h fun(e:Ending) (B:WD)=>∃(n:Int),e=rT (vi n)/\(rd B w'.heap.size (0+Int.toNat A*1)=some (.int .i64 x)/\True)/\Wif (n != wrap .i64 (x+1)) (K (.bool false) B) (Lt Z fun m=>I b (wrap .i64 (A+1)) B m))))) (Dr E fun h=>Wp p (Rp h p 0 fun x=>Wp x (Rp h x 95 fun f=>Wn A 8 (RI h w'.heap.size (0+Int.toNat A*1) fun x=>Calls prog 11 #[pt f,vi A] h fun(e:Ending) (B:WD)=>∃(n:Int),e=rT (vi n)/\(rd B w'.heap.size (0+Int.toNat A*1)=some (.int .i64 x)/\True)/\Wif (n != wrap .i64 (x+0)) (K (.bool false) B) (Lt Z fun m=>I b (wrap .i64 (A+1)) B m)))))) (Dr E fun h=>Wp p (Rs h p 112 fun x f i=>Wp x (Wn cpu f (Ri h x (Int.toNat cpu*1) fun d=>gIf (isP p) (((d==1)==decide (n>=0))=true) (∃(k:OA) (o r:Nat),(((d==1)==decide (n>=0))=true->rd h (pb p) (po p+112)=some (.slice k o r))/\gIf (isP k) (((d==1)==decide (n>=0))=true) (gIf (inB cpu o) (((d==1)==decide (n>=0))=true) (∃(g:Int),(((d==1)==decide (n>=0))=true->rd h (pb k) (po k+Int.toNat cpu*1)=some (.int .i64 g))/\gIf (isP p) (((d==1)==decide (n>=0)&&(g==0)==decide (n<0))=true) (∃(J:OA),(((d==1)==decide (n>=0)&&(g==0)==decide (n<0))=true->rd h (pb p) (po p)=some (.pointer J))/\gIf (isP J) (((d==1)==decide (n>=0)&&(g==0)==decide (n<0))=true) (∃(a0:OA),(((d==1)==decide (n>=0)&&(g==0)==decide (n<0))=true->rd h (pb J) (po J+99)=some (.pointer a0))/\gIf (isP p) (((d==1)==decide (n>=0)&&(g==0)==decide (n<0))=true) (∃(j:OA) (q s:Nat),(((d==1)==decide (n>=0)&&(g==0)==decide (n<0))=true->rd h (pb p) (po p+112)=some (.slice j q s))/\gIf (isP j) (((d==1)==decide (n>=0)&&(g==0)==decide (n<0))=true) (gIf (inB cpu q) (((d==1)==decide (n>=0)&&(g==0)==decide (n<0))=true) (∃(L:Int),(((d==1)==decide (n>=0)&&(g==0)==decide (n<0))=true->rd h (pb j) (po j+Int.toNat cpu*1)=some (.int .i64 L))/\Wif ((d==1)==decide (n>=0)&&(g==0)==decide (n<0)) (CI 22 #[pt a0] h fun b4 w'=>(((d==1)==decide (n>=0)&&(g==0)==decide (n<0))=true->rd w' (pb j) (po j+Int.toNat cpu*1)=some (.int .i64 L)/\True)/\(((d==1)==decide (n>=0)&&(g==0)==decide (n<0))=true->rd w' (pb p) (po p+112)=some (.slice j q s)/\True)/\(((d==1)==decide (n>=0))=true->rd w' (pb p) (po p+112)=some (.slice k o r)/\True)/\(rd w' (pb p) (po p+112)=some (.slice x f i)/\True)/\Wif (b4==L) (CB 15 #[pt p] w' fun b w'=>(((d==1)==decide (n>=0)&&(g==0)==decide (n<0))=true->rd w' (pb p) (po p+112)=some (.slice j q s)/\True)/\(((d==1)==decide (n>=0))=true->rd w' (pb p) (po p+112)=some (.slice k o r)/\True)/\(rd w' (pb p) (po p+112)=some (.slice x f i)/\True)/\Wif b (CB 25 #[pt p] w' fun b w'=>(((d==1)==decide (n>=0)&&(g==0)==decide (n<0))=true->rd w' (pb p) (po p+112)=some (.slice j q s)/\True)/\(((d==1)==decide (n>=0))=true->rd w' (pb p) (po p+112)=some (.slice k o r)/\True)/\(rd w' (pb p) (po p+112)=some (.slice x f i)/\True)/\Wif b (CB 9 #[] w' fun b w'=>(((d==1)==decide (n>=0)&&(g==0)==decide (n<0))=true->rd w' (pb p) (po p+112)=some (.slice j q s)/\True)/\(((d==1)==decide (n>=0))=true->rd w' (pb p) (po p+112)=some (.slice k o r)/\True)/\(rd w' (pb p) (po p+112)=some (.slice x f i)/\True)/\K (.bool b) w') ((((d==1)==decide (n>=0)&&(g==0)==decide (n<0))=true->rd w' (pb p) (po p+112)=some (.slice j q s)/\True)/\(((d==1)==decide (n>=0))=true->rd w' (pb p) (po p+112)=some (.slice k o r)/\True)/\(rd w' (pb p) (po p+112)=some (.slice x f i)/\True)/\K (.bool false) w')) ((((d==1)==decide (n>=0)&&(g==0)==decide (n<0))=true->rd w' (pb p) (po p+112)=some (.slice j q s)/\True)/\(((d==1)==decide (n>=0))=true->rd w' (pb p) (po p+112)=some (.slice k o r)/\True)/\(rd w' (pb p) (po p+112)=some (.slice x f i)/\True)/\(((d==1)==decide (n>=0)&&(g==0)==decide (n<0))=true->rd w' (pb p) (po p+112)=some (.slice j q s)/\True)/\(((d==1)==decide (n>=0))=true->rd w' (pb p) (po p+112)=some (.slice k o r)/\True)/\(rd w' (pb p) (po p+112)=some (.slice x f i)/\True)/\K (.bool false) w')) ((((d==1)==decide (n>=0)&&(g==0)==decide (n<0))=true->rd w' (pb p) (po p+112)=some (.slice j q s)/\True)/\(((d==1)==decide (n>=0))=true->rd w' (pb p) (po p+112)=some (.slice k o r)/\True)/\(rd w' (pb p) (po p+112)=some (.slice x f i)/\True)/\(((d==1)==decide (n>=0)&&(g==0)==decide (n<0))=true->rd w' (pb p) (po p+112)=some (.slice j q s)/\True)/\(((d==1)==decide (n>=0))=true->rd w' (pb p) (po p+112)=some (.slice k o r)/\True)/\(rd w' (pb p) (po p+112)=some (.slice x f i)/\True)/\(((d==1)==decide (n>=0)&&(g==0)==decide (n<0))=true->rd w' (pb p) (po p+112)=some (.slice j q s)/\True)/\(((d==1)==decide (n>=0))=true->rd w' (pb p) (po p+112)=some (.slice k o r)/\True)/\(rd w' (pb p) (po p+112)=some (.slice x f i)/\True)/\K (.bool false) w')) ((((d==1)==decide (n>=0)&&(g==0)==decide (n<0))=true->rd h (pb j) (po j+Int.toNat cpu*1)=some (.int .i64 L)/\True)/\(((d==1)==decide (n>=0)&&(g==0)==decide (n<0))=true->rd h (pb p) (po p+112)=some (.slice j q s)/\True)/\(((d==1)==decide (n>=0))=true->rd h (pb p) (po p+112)=some (.slice k o r)/\True)/\(rd h (pb p) (po p+112)=some (.slice x f i)/\True)/\(((d==1)==decide (n>=0)&&(g==0)==decide (n<0))=true->rd h (pb p) (po p+112)=some (.slice j q s)/\True)/\(((d==1)==decide (n>=0))=true->rd h (pb p) (po p+112)=some (.slice k o r)/\True)/\(rd h (pb p) (po p+112)=some (.slice x f i)/\True)/\(((d==1)==decide (n>=0)&&(g==0)==decide (n<0))=true->rd h (pb p) (po p+112)=some (.slice j q s)/\True)/\(((d==1)==decide (n>=0))=true->rd h (pb p) (po p+112)=some (.slice k o r)/\True)/\(rd h (pb p) (po p+112)=some (.slice x f i)/\True)/\(((d==1)==decide (n>=0)&&(g==0)==decide (n<0))=true->rd h (pb p) (po p+112)=some (.slice j q s)/\True)/\(((d==1)==decide (n>=0))=true->rd h (pb p) (po p+112)=some (.slice k o r)/\True)/\(rd h (pb p) (po p+112)=some (.slice x f i)/\True)/\K (.bool false) h)))))))))))))))))))))))):Ret 7 #[Value.agg (List.toArray (AK .i64 x0 0 94++sl x94 x94L x94C::sl x95 x95L x95C::AK .i64 x96 0 8)),vi cpu,vi page] w K:=vcA L7 2 [4000017,101700151,101700160] func7 h
end Go.Proofs.YtdgbechegbmpcaaGreatDoor
namespace Go.Proofs.YtdgbechegbmpcaaGreatDoor
open Go Go.Eng Go.Proofs.Tryz
theorem rep8:List.replicate 8 (vi 0)=AK .i64 (fun i=>((((fun _=>0):Nat->Nat) i:Nat):Int)) 0 8:=rfl
set_option maxHeartbeats 16000000 in
theorem QP{w:WD}(hz:F4 w)(TR:GF w){x0:Nat->Int}{pa:OA}{pl pc:Nat}{ia:OA}{il ic:Nat}{x96 pf nf:Nat->Int}(cpu page:Int)(PG:CL w pa pl pf)(PN:CL w ia il nf) :
 Calls prog 7 #[.agg (AK .i64 x0 0 94++([Value.slice pa pl pc,Value.slice ia il ic]++AK .i64 x96 0 8)).toArray,vi cpu,vi page] w fun e w'=>e=.returned (.bool true)/\Kept AB w w':=by
 refine(vc7 x0 pa pl pc ia il ic x96 cpu page w (fun v w'=>v=.bool true/\Kept AB w w') ?_).mono ?_
 rotate_left
 ·rintro e w' ⟨v,rfl,rfl,h⟩;exact⟨rfl,h⟩
 unfold Q;intro w1 e1;have o1:=AD e1;have k1:=kal e1;have l1:=o1.lt;have rall:∀{W:WD},Kept AB w1 W->AS W w.heap.size 0 (AK .i64 x0 0 94++([Value.slice pa pl pc,Value.slice ia il ic]++AK .i64 x96 0 8)):=fun kk=>(o1.k kk).AS 0 fun j hj=>by rw [za]
 have rx:∀{W:WD}{j:Nat},Kept AB w1 W->j<94->rd W w.heap.size j=some (vi (x0 j)):=fun kk hj=>by rw [(o1.k kk).rd,gal (by rw [AI];exact hj),AT _ _ _ _ _ hj,za]
 have known:=fun {W:WD} (kk:Kept AB w W)=>known_spec (hz.k kk) (TR.k kk);refine⟨x0,pa,pl,pc,ia,il,ic,x96,rall kr,(small_spec (PG.k k1) (PN.k k1)).mono ?_⟩;rintro _ w2 ⟨b,rfl,k2,hO⟩;have k12:=k1.tr k2;refine⟨b,rfl,x0 1,(fun _=>rx k2 (by decide)),AE (fun hb=>(known k12).mono ?_) (fun hb=>?_)⟩
 ·rintro _ w3 ⟨rfl,k3⟩;exact⟨true,rfl,rfl,k12.tr k3⟩
 simp only [Bool.or_eq_false_iff,Bool.not_eq_false',decide_eq_false_iff_not] at hb;obtain⟨⟨hb0,hcp0⟩,hcp1⟩:=hb;obtain⟨c,rfl⟩:∃c:Nat,cpu=(c:Int):=⟨cpu.toNat,by omega⟩;have O:=hO hb0;have hz2:=hz.k k12;refine⟨x0,pa,pl,pc,ia,il,ic,x96,rall k2,(begun_spec hz2 (KO (hz2 0 (by decide))) O).mono ?_⟩;rintro _ w3 ⟨v,rfl,k3,⟨_,p,rfl⟩|⟨k,β,S,fp,FR,rt,lf,pg,pin,ta,tl,tc,A,rfl,Bg⟩⟩
 ·have k13:=k12.tr k3;refine⟨p,false,true,rfl,AG rfl (AA rfl ((known k13).mono ?_))⟩;rintro _ w6 ⟨rfl,k6⟩;exact⟨true,rfl,rfl,k13.tr k6⟩
 have k13:=k12.tr k3;have s23:=k3.sz;have s12:=k2.sz;refine⟨some ⟨β 23,0,none⟩,true,true,rfl,AG rfl (AG rfl fun w4 e4 w5 e5=>?_)⟩;have o4:own w4 w3.heap.size (AK .i64 (fun i=>((((fun _=>0):Nat->Nat) i:Nat):Int)) 0 8):=rep8▸AD e4;have k4:=kal e4;have o5:own w5 w4.heap.size (AK .i64 (fun i=>((((fun _=>0):Nat->Nat) i:Nat):Int)) 0 8):=rep8▸AD e5;have k5:=kal e5;have l4:=o4.lt;have l5:=o5.lt;have s34:=k4.sz;have C3:=Bg.L.G.X.C;have hs:=C3.BO;have hn4:=C3.n4;have hmy:=C3.my;have hc0:S.c=x0:=Bg.c;have hnod:x0 0=(S.nodes:Nat):=by rw [<- hc0];exact hs.1.2.2.symm
 have hcs:c<S.AO:=by have h1:=hs.2.1.2.2;rw [hc0] at h1;omega
 have S5:AlS w5 w5 w3.heap.size w4.heap.size (B5 S 0) (B4 S pg pin pf 0):=by
  rw [canQ_0];exact⟨o4.k k5,o5,Kept.refl _ _,by omega⟩
 have far:∀{W:WD}{fr can:Nat->Nat},AlS w5 W w3.heap.size w4.heap.size fr can->Kept AB w3 W:=fun S=>BD (k4.tr k5) S.k fun y e=>by omega
 have rb:∀{W:WD},Kept AB w3 W->rd W (β 23) 0=some (ptr k):=fun kk=>kk.rd_some (by rw [Bg.L.R.so.rd];rfl) id;have r106:∀{W:WD},Kept AB w3 W->rd W (β 23) (0+106)=some (vi (rt:Nat)):=fun kk=>kk.rd_some (by rw [za,Bg.L.R.so.rd];rfl) id;have L0:=Bg.Q 0;have hpl:=O.lp;refine⟨x0 0,rx ((k2.tr k3).tr (k4.tr k5)) (by decide),?_⟩;rw [hnod];refine⟨fun n W m=>∃q:Nat,n=q/\q<=S.nodes/\m=S.nodes-q/\AlS w5 W w3.heap.size w4.heap.size (B5 S q) (B4 S pg pin pf 0),⟨_,0,rfl,Nat.zero_le _,rfl,S5⟩,?_⟩;rintro _ W1 _ ⟨q,rfl,hq,rfl,S6⟩;have K6:=far S6;refine AE (fun hc=>?_) (fun hc=>?_)
 ·have hqn:q<S.nodes:=by simp at hc;omega
  refine AA rfl ⟨_,rb K6,AA rfl ⟨_,(C3.k K6).rtW kr (j:=1) rfl,(core_free (C3.k K6) hqn).mono ?_⟩⟩;rintro _ wx ⟨rfl,hwx⟩;rw [hwx];refine⟨_,rfl,Wi ⟨(S6.rf (by omega)).2,fun W2 E2=>?_⟩⟩;have S7:=S6.pf (by omega) E2;rw [freeQ_add] at S7;exact⟨S.nodes-(q+1),by omega,q+1,wzz,hqn,rfl,S7⟩
 have hqe:q=S.nodes:=by simp at hc;omega
 subst hqe;clear hc hq;have rb94:∀{W:WD},Kept AB w3 W->rd W w.heap.size 94=some (.slice pa pl pc)/\rd W w.heap.size 95=some (.slice ia il ic):=fun kk=>by
  have o:=o1.k ((k2.tr k3).tr kk);constructor
  ·rw [o.rd,gar (by rw [AI];omega),AI];rfl
  ·rw [o.rd,gar (by rw [AI];omega),AI];rfl
 refine⟨pa,pl,pc,(rb94 K6).1,fun bb n W m=>∃q:Nat,bb=false/\n=q/\q<=pl/\m=pl-q/\AlS w5 W w3.heap.size w4.heap.size (B5 S S.nodes) (B4 S pg pin pf q),⟨_,0,rfl,rfl,Nat.zero_le _,rfl,S6⟩,?_⟩;rintro _ _ W3 _ ⟨q,rfl,rfl,hq,rfl,S8⟩;have K8:=far S8;refine AE (fun hc=>?_) (fun hc=>?_)
 ·have hqp:q<pl:=by simp at hc;omega
  obtain⟨g1',g2'⟩:=O.rg q hqp;obtain⟨p,hp⟩:∃p:Nat,pf q=p:=⟨(pf q).toNat,by omega⟩;have hp32:p<32:=by omega
  obtain⟨f,hpg⟩:=(Bg.pg1 p).2 ⟨q,hqp,hp⟩;obtain⟨g1,g2,g3⟩:=L0.get C3 hp32;rw [L0.root,hpg] at g2 g3;rw [L0.root] at g1;have PGW:=PG.k (k13.tr K8);refine AA (PGW.p (by omega)).1 (Wi ⟨(p:Int),by rw [tnc,mo,<- hp];exact PGW.at' q hqp,fun p1 n3 W=>∃Y,p1=some ⟨Y,0,none⟩/\n3=0/\own W Y [.int .u8 1,vi (f:Nat)]/\Kept AB W3 W,fun W4 E4=>?_,?_⟩)
  ·have j1:=kdr E4;have K9:=K8.tr j1;have C9:=C3.k K9;refine AA rfl ⟨_,rb K9,AA rfl ⟨_,C9.rtW kr (j:=0) rfl,AA rfl ⟨(rt:Int),r106 K9,?_,fun W5 E5x=>?_⟩⟩⟩
   ·refine(NO C9 L0.by' rt p).mono ?_;rintro _ W5 ⟨rfl,j2⟩;refine⟨_,_,_,rfl,fun W6 E6x=>?_⟩;have o3:=AD E6x;have k3':=kal E6x;refine⟨⟨o3.wr (by decide),o3.wr (by decide)⟩,fun W7 E7x=>?_⟩;have o7:=o3.s2 E7x;have k7':Kept (·=W5.heap.size) W6 W7:=by rw [E7x];exact((Kept.refl (·=W5.heap.size) W6).st (.inl rfl)).st (.inl rfl)
    rw [g2,g3] at o7;exact⟨_,rfl,g1,o7,(j1.tr j2).tr (BD k3' k7' fun x e=>Nat.le_of_eq e.symm)⟩
   ·have o3:=AD E5x;have k3':=kal E5x;have K10:=K9.tr k3';have C10:=C3.k K10;refine⟨⟨r106 K10,trivial⟩,⟨C10.rtW kr (j:=0) rfl,trivial⟩,⟨rb K10,trivial⟩,(NO C10 L0.by' rt p).mono ?_⟩;rintro _ W6 ⟨rfl,j2⟩;have o3':=o3.k j2;refine⟨_,_,_,rfl,⟨o3'.wr (by decide),o3'.wr (by decide)⟩,fun W7 E7x=>?_⟩;have o7:=o3'.s2 E7x;have k7':Kept (·=W4.heap.size) W6 W7:=by rw [E7x];exact((Kept.refl (·=W4.heap.size) W6).st (.inl rfl)).st (.inl rfl)
    rw [g2,g3] at o7;exact⟨_,rfl,g1,o7,j1.tr (BD (k3'.tr j2) k7' fun x e=>Nat.le_of_eq e.symm)⟩
  ·rintro _ _ W5 ⟨Y,rfl,rfl,oY,j5⟩;have K11:=K8.tr j5;have S9:AlS w5 W5 w3.heap.size w4.heap.size (B5 S S.nodes) (B4 S pg pin pf q):=⟨S8.f.k j5,S8.c.k j5,S8.k.trans j5 fun _ _ e=>e.elim,S8.ne⟩;refine AG rfl ⟨ia,il,ic,(rb94 K11).2,(nums_has (PN.k (k13.tr K11)) (by have:=O.ln;omega) (p:Int)).mono ?_⟩;rintro _ wx ⟨rfl,hwx⟩;rw [hwx];have hpn:=Bg.pn p;refine⟨_,rfl,AE (fun h=>?_) (fun h=>?_)⟩
   ·have hni:¬∃i,i<il/\nf i=(p:Int):=by simpa using h
    have hpf:pin p=false:=by
     cases e:pin p with
     | false=>rfl
     | true=>exact absurd (hpn.1 e).2 hni
    obtain⟨i,hi,h1,h2⟩:=frame_node C3 (L0.pgo p f hpg).2.1;intro W6 E6x;have j6:=kdr E6x;have K12:=K11.tr j6;refine AA rfl ⟨_,rb K12,AA rfl ⟨(f:Nat),by show rd W6 Y (0+1)=_;rw [za,(oY.k j6).rd];rfl,(JQ (C3.k K12) hi h1 h2).mono ?_⟩⟩;rintro _ W7 ⟨rfl,j7⟩;have j57:=j6.tr j7;have S10:AlS w5 W7 w3.heap.size w4.heap.size (B5 S S.nodes) (B4 S pg pin pf q):=⟨S9.f.k j57,S9.c.k j57,S9.k.trans j57 fun _ _ e=>e.elim,S9.ne⟩;have hif:(if (0:Int)>(i:Int) then(0:Int) else(i:Int))=(i:Int):=if_neg (by omega);refine⟨_,rfl,?_⟩;dsimp only;rw [hif];have hin:inB (i:Int) 8=true:=DL;refine AA hin ⟨_,(S10.rc (by omega)).1,AA hin ⟨(S10.rc (by omega)).2,fun W8 E8x=>?_⟩⟩;have hle:B4 S pg pin pf q i<=32:=canQ_le;rw [show IntKind.wrap .i64 (((B4 S pg pin pf q i:Nat):Int)+1)=((B4 S pg pin pf q i+1:Nat):Int) by rw [wi (by omega)];omega] at E8x;have S11:=S10.pc (by omega) E8x;rw [<- canQ_add hmy hp hp32 (fun j hj e=>by have:=O.inj j q (by omega) hqp (by omega);omega) hpg hpf hi h1 h2] at S11;exact⟨pl-(q+1),by omega,q+1,rfl,wzz,hqp,rfl,S11⟩
   ·have hni:∃i,i<il/\nf i=(p:Int):=by simpa using h
    have hpt:pin p=true:=hpn.2 ⟨⟨q,hqp,hp⟩,hni⟩;rw [<- canQ_pin hp hpt] at S9;exact⟨pl-(q+1),by omega,q+1,rfl,wzz,hqp,rfl,S9⟩
 have hqe:q=pl:=by simp at hc;omega
 subst hqe;clear hc hq;have hcan:∀t,t<S.nodes->B4 S pg pin pf q t=LG S.c pg pin t:=fun t ht=>canQ_end (fun j f e=>(Bg.pg1 j).1 ⟨f,e⟩) ht;have hslot:((S.AP:Nat):Int)=x0 90:=by rw [<- hc0];exact hs.2.2.2
 have hnd:=GM hmy c;obtain⟨sb,hsb⟩:=L0.sp1;refine AA rfl ⟨_,rb K8,(nodes_spec (C3.k K8) hsb (pageR page) (cpu:=c) hcs).mono ?_⟩;rintro _ W4 ⟨a,l,cc,rfl,j4,Rn⟩;rw [<- hnd.1] at Rn;have Nd:=Rn.nds (FR:=fun _=>True) fun _ _ _=>trivial;have K9:=K8.tr j4;have S9:AlS w5 W4 w3.heap.size w4.heap.size (B5 S S.nodes) (B4 S pg pin pf q):=⟨S8.f.k j4,S8.c.k j4,S8.k.trans j4 fun _ _ e=>e.elim,S8.ne⟩;have hll:=Nd.len;have hnl:=hnd.2.2.2;have hnl8:(CD S.c c).length<=8:=by rw [hnl];have:=hmy.1;omega
 generalize hxs:CD S.c c=xs at *;refine⟨a,l,cc,rfl,fun n j W m=>∃u:Nat,j=u/\u<=l/\m=l-u/\W4=W/\FirstP (fun t=>0<LG S.c pg pin t/\0<S.AP) (xs.take u) n,⟨_,0,rfl,Nat.zero_le _,rfl,rfl,.inl ⟨rfl,fun t ht=>by simp at ht⟩⟩,?_⟩;rintro n _ _ _ ⟨u,rfl,hu,rfl,rfl,hF⟩;refine AE (fun hc=>?_) (fun hc=>?_)
 ·have hul:u<l:=by simp at hc;omega
  obtain⟨b,o,rfl,_,hr⟩:=Nd.el (by omega);have hux:u<xs.length:=by omega
  have hx:=hr u xs[u] (geg hux);have hxn:xs[u]<S.nodes:=hnd.2.1 _ (List.getElem_mem hux);have htk:xs.take (u+1)=xs.take u++[xs[u]]:=by
   rw [List.take_add_one,geg hux];rfl
  have hF1:=hF.snoc (x:=xs[u]);rw [<- htk] at hF1;have ev:IntKind.wrap .i64 ((u:Int)+1)=((u+1:Nat):Int):=by rw [wi (by omega)];omega
  refine AA rfl (Wi ⟨_,by rw [tnc,mo];exact hx,AF (fun _=>DL (by omega) (by omega)) ⟨_,(fun _=>(S9.rc (by omega)).1),x0 90,(fun _=>rx (((k2.tr k3).tr K9)) (by decide)),AE (fun hd=>?_) (fun hd=>?_)⟩⟩)
  ·rw [hcan _ hxn,<- hslot] at hd;simp only [Bool.and_eq_true,decide_eq_true_eq] at hd;exact⟨l-(u+1),by omega,u+1,ev,hul,rfl,rfl,hF1.1 hd.1.1 ⟨by omega,by omega⟩⟩
  ·rw [hcan _ hxn,<- hslot] at hd;refine⟨l-(u+1),by omega,u+1,ev,hul,rfl,rfl,hF1.2 fun h=>?_⟩;have:(decide (n<0)&&decide (((LG S.c pg pin xs[u]:Nat):Int)>0)&&decide (((S.AP:Nat):Int)>0))=true:=by
    simp only [Bool.and_eq_true,decide_eq_true_eq];exact⟨⟨h.1,by have:=h.2.1;omega⟩,by have:=h.2.2;omega⟩
   rw [this] at hd
   cases hd
 have hue:u=xs.length:=by simp at hc;omega
 rw [hue,List.take_length] at hF;clear hc hu hue;intro w6 e6;have o6:=AD e6;have k6:=kal e6;have kk:Kept AB w3 w6:=K9.tr k6;have hab:w3.heap.size<=W4.heap.size:=K9.sz;have D0:=Bg.rdy kk (ab:=W4.heap.size) hab o6.lt;have hr:rd w6 W4.heap.size 0=some (vi 6)/\rd w6 W4.heap.size (0+1)=some (vi page):=⟨by rw [o6.rd];rfl,by rw [o6.rd];rfl⟩;have hP:=prog_pass (cpu:=c) (c:=1) (ab:=W4.heap.size) (ao:=0) (nx:=page) (Z:=⟨rt,lf,pin,A,c,none,q⟩) (FR0:=ER FR β W4.heap.size) D0.X rfl rfl (D0.L c) D0.wa rfl (by rw [D0.n];exact hcs) hcs (nlr _) hr (fun _=>Iff.rfl) (fun x h=>D0.rows x (.inr h)) (D0.rows _ (.inl rfl));rw [D0.c,<- hc0,hxs] at hP;rw [hc0] at hP;refine(drive_spec D0 (by rw [D0.n];exact hcs) hP).mono ?_;rintro _ w7 ⟨rfl,k7,H⟩;refine⟨true,rfl,AG rfl ((H 36000 (show 2*xs.length+30*q+3<=36000 by omega) (by decide)).mono ?_)⟩;rintro _ w8 ⟨rfl,S',fp',G,gt,nn,la,ca,pg',cnt,hd,D⟩;have hX:=fun x h=>Bg.w.outhi (ab:=W4.heap.size) (x:=x) h;have hXl:=fun x h=>Bg.w.outlo (ab:=W4.heap.size) (x:=x) hab h;have hab2:w4.heap.size<W4.heap.size:=S9.c.lt;have S12:∀{W:WD},Kept AB w8 W->own W w3.heap.size (AK .i64 (fun i=>((B5 S S.nodes i:Nat):Int)) 0 8):=fun kq=>((S9.f.k k6).kx D.kp fun e=>by rcases hX _ e with h|h <;> omega).k kq;have hn':S'.nodes=S.nodes:=by unfold AL.nodes;rw [D.c,hc0]
 have rcb:∀{W:WD}{j:Nat},Kept AB w8 W->j<94->rd W w.heap.size j=some (vi (x0 j)):=fun kq hj=>kq.rd_some (D.kp.rd_some (rx ((k2.tr k3).tr kk) hj) fun h=>by have:=hXl _ h;omega) id;have rk8:∀{W:WD},Kept AB w8 W->rd W (β 23) 0=some (ptr k):=fun kq=>kq.rd_some D.wa.rd0 id;obtain⟨rfl,hR⟩:=D.r;have hfr:∀t,t<S.nodes->AX (S'.L t)=AX (S.L t)+if (t:Int)=n then 1 else 0:=by
  intro t ht;rcases hR with⟨_,_,T,hor⟩|⟨xs1,i,xs2,_,_,hxe,hno,hgo,hns,Wt⟩
  ·obtain⟨r,o,rfl⟩:=T;have hnP:∀t∈xs,¬(0<LG S.c pg pin t/\0<S.AP):=fun t ht ⟨a1,a2⟩=>by
    rcases hor with h|h
    ·have h1:=((Bg.Q 0).noslot).2.1 h;have:S.AP+q=q:=h1;omega
    ·have:LG S.c pg pin t=0:=(canN_0 (fun p f e=>(L0.pgo p f e).1)).2 (h t ht);omega
   rcases hF with⟨rfl,_⟩|⟨ys1,ys2,i,_,he,h2,_⟩
   ·rw [if_neg (show ¬(t:Int)=-1 by omega)];rfl
   ·exact absurd h2 (hnP i (by rw [he];simp))
  ·have hPi:0<LG S.c pg pin i/\0<S.AP:=⟨by
    have:LG S.c pg pin i≠0:=fun e=>hgo ((canN_0 (fun p f e=>(L0.pgo p f e).1)).1 e);omega,by
    have:¬S.AP+q=q:=fun e=>hns (((Bg.Q 0).noslot).2.2 e);omega⟩
   have hnP:∀t∈xs1,¬(0<LG S.c pg pin t/\0<S.AP):=fun t ht ⟨a1,_⟩=>by
    have:LG S.c pg pin t=0:=(canN_0 (fun p f e=>(L0.pgo p f e).1)).2 (hno t ht);omega
   rcases hF with⟨_,h⟩|⟨ys1,ys2,j,rfl,he,h2,h3⟩
   ·exact absurd hPi (h i (by rw [hxe];simp))
   ·have hij:=first_uniq hxe he hnP hPi h3 h2;subst hij;have h4:=Wt.L t ht;by_cases e:t=i
    ·rw [if_pos e] at h4;rw [if_pos (by omega)];exact h4
    ·rw [if_neg e] at h4;rw [if_neg (by omega)];exact h4
 have hcame:(ca c=1/\0<=n/\cnt+1=q)\/(ca c=0/\n<0/\cnt=q):=by
  rcases hR with⟨h1,h2,T,hor⟩|⟨xs1,i,xs2,h1,h2,hxe,hno,hgo,hns,Wt⟩
  ·right;refine⟨h1,?_,h2⟩;rcases hF with⟨rfl,_⟩|⟨ys1,ys2,i,_,he,⟨a1,a2⟩,_⟩
   ·decide
   ·exfalso;rcases hor with h|h
    ·have h1:=((Bg.Q 0).noslot).2.1 h;have:S.AP+q=q:=h1;omega
    ·have:LG S.c pg pin i=0:=(canN_0 (fun p f e=>(L0.pgo p f e).1)).2 (h i (by rw [he];simp));omega
  ·left;refine⟨h1,?_,h2⟩;rcases hF with⟨_,h⟩|⟨ys1,ys2,j,rfl,_⟩
   ·exfalso;refine h i (by rw [hxe];simp) ⟨?_,?_⟩
    ·have:LG S.c pg pin i≠0:=fun e=>hgo ((canN_0 (fun p f e=>(L0.pgo p f e).1)).1 e);omega
    ·have:¬S.AP+q=q:=fun e=>hns (((Bg.Q 0).noslot).2.2 e);omega
   ·omega
 refine⟨true,rfl,AG rfl ⟨_,rcb kr (j:=0) (by decide),?_⟩⟩;rw [hnod];refine⟨fun bb t W m=>∃u:Nat,t=u/\u<=S.nodes/\m=S.nodes-u/\Kept AB w8 W,⟨_,0,rfl,Nat.zero_le _,rfl,Kept.refl _ _⟩,?_⟩;rintro bb _ W5 _ ⟨u,rfl,hu,rfl,k9⟩;refine AE (fun hc=>?_) (fun hc=>?_)
 ·have hun:u<S.nodes:=by simp at hc;omega
  have hlt:=freeQ_le C3 (nlr S.nodes) u;have hfu:=hfr u hun;have hq0:B5 S S.nodes u=AX (S.L u):=by unfold B5;rw [if_pos hun]
  have ev:IntKind.wrap .i64 ((u:Int)+1)=((u+1:Nat):Int):=by rw [wi (by omega)];omega
  have rf:∀{W:WD},Kept AB w8 W->rd W w3.heap.size (0+Int.toNat (u:Int)*1)=some (vi ((B5 S S.nodes u:Nat):Int)):=fun kq=>by rw [idx0,(S12 kq).rd,AT _ _ _ _ _ (by omega),za]
  have hin:inB (u:Int) 8=true:=DL;refine AE (fun he=>?_) (fun he=>?_)
  ·have he:(u:Int)=n:=by simpa using he
   intro W6 E6x;have j6:=kdr E6x;have K:=k9.tr j6;have C6:=D.X.C.k K;refine AA rfl ⟨_,rk8 K,AA rfl ⟨_,C6.rtW kr (j:=1) rfl,AA hin ⟨_,rf K,(core_free C6 (by omega)).mono ?_⟩⟩⟩;rintro _ wx ⟨rfl,hwx⟩;rw [hwx];rw [if_pos he] at hfu;refine⟨_,rfl,⟨rf K,trivial⟩,AG ?_ ⟨S.nodes-(u+1),by omega,u+1,ev,hun,rfl,K⟩⟩;rw [wi (by omega)];simp;omega
  ·have he:¬(u:Int)=n:=by simpa using he
   intro W6 E6x;have j6:=kdr E6x;have K:=k9.tr j6;have C6:=D.X.C.k K;refine AA rfl ⟨_,rk8 K,AA rfl ⟨_,C6.rtW kr (j:=1) rfl,AA hin ⟨_,rf K,(core_free C6 (by omega)).mono ?_⟩⟩⟩;rintro _ wx ⟨rfl,hwx⟩;rw [hwx];rw [if_neg he] at hfu;refine⟨_,rfl,⟨rf K,trivial⟩,AG ?_ ⟨S.nodes-(u+1),by omega,u+1,ev,hun,rfl,K⟩⟩;rw [wi (by omega)];simp;omega
 clear hc hu;intro w9 e9;have k9':=k9.dr e9;have wa9:=D.wa.k k9';have hBn:c<(wvB (⟨k,w2.heap.size,S.AO,x0,pa,q,pc,ia,il,ic,x96⟩:BP) β rt lf ta tl tc).n:=hcs;have h16:=wa9.n16;have rca:rd w9 ((wvB (⟨k,w2.heap.size,S.AO,x0,pa,q,pc,ia,il,ic,x96⟩:BP) β rt lf ta tl tc).cb) (0+Int.toNat (c:Int)*1)=some (vi (ca c)):=by
  rw [idx0,wa9.ca.rd,AT _ _ _ _ _ hBn,za]
 have r112:=fun {W:WD}{ca':Nat->Int} (A:WAt W (wvB (⟨k,w2.heap.size,S.AO,x0,pa,q,pc,ia,il,ic,x96⟩:BP) β rt lf ta tl tc) gt nn la ca')=>A.rdR (j:=3) rfl;have hin:inB (c:Int) S.AO=true:=DL;have C9:=D.X.C.k k9';have t1:((ca c==1)==decide (n>=0))=true:=by
  rcases hcame with⟨h1,h2,_⟩|⟨h1,h2,_⟩
  ·rw [h1,decide_eq_true h2];rfl
  ·rw [h1,decide_eq_false (by omega)];rfl
 have t2:((ca c==0)==decide (n<0))=true:=by
  rcases hcame with⟨h1,h2,_⟩|⟨h1,h2,_⟩
  ·rw [h1,decide_eq_false (by omega)];rfl
  ·rw [h1,decide_eq_true h2];rfl
 refine AA rfl ⟨_,_,_,r112 wa9,AA rfl (AA hin ⟨_,rca,AF (fun _=>rfl) ⟨_,_,_,(fun _=>r112 wa9),AF (fun _=>rfl) (AF (fun _=>hin) ⟨_,(fun _=>rca),AF (fun _=>rfl) ⟨_,(fun _=>rk8 k9'),AF (fun _=>rfl) ⟨_,(fun _=>C9.rtW kr (j:=5) rfl),AF (fun _=>rfl) ⟨_,_,_,(fun _=>r112 wa9),AF (fun _=>rfl) (AF (fun _=>hin) ⟨_,(fun _=>rca),AA (by rw [t1,t2];rfl) ((core_used C9).mono ?_)⟩)⟩⟩⟩⟩)⟩⟩)⟩;rintro _ w10 ⟨rfl,k10⟩;have k810:=k9'.tr k10;have wa10:=wa9.k k10;have hcu:(owns S'.AP S'.sof).length+cnt=q:=D.L.cu;refine⟨_,rfl,(fun _=>⟨k10.rd_some rca id,trivial⟩),(fun _=>⟨r112 wa10,trivial⟩),(fun _=>⟨r112 wa10,trivial⟩),⟨r112 wa10,trivial⟩,AA ?_ ?_⟩
 ·have:(((owns S'.AP S'.sof).length:Nat):Int)=ca c:=by
   rcases hcame with⟨h1,_,h3⟩|⟨h1,_,h3⟩ <;> rw [h1] <;> omega
  rw [this];simp
 have f10:=fun {W3:WD} (kq:Kept AB w8 W3)=>fineW Bg.w kk (ab:=W4.heap.size) hab (O.pg.k (k3.tr kk)) (fun hl=>(O.pg.p hl).2) (O.pn.k (k3.tr kk)) (fun hl=>(O.pn.p hl).2) O.lp O.ln O.rg (TR.k ((k12.tr k3).tr kk)) (TR.k k12).lt D kq;refine(f10 k810).1.mono ?_;rintro _ w11 ⟨rfl,k11⟩;have k811:=k810.tr k11;have wa11:=wa10.k k11;refine⟨true,rfl,(fun _=>⟨r112 wa11,trivial⟩),(fun _=>⟨r112 wa11,trivial⟩),⟨r112 wa11,trivial⟩,AA rfl ((f10 k811).2.mono ?_)⟩;rintro _ w12 ⟨rfl,k12'⟩;have k812:=k811.tr k12';have wa12:=wa11.k k12';have farW:Kept AB w w12:=(BD (k12.tr (k3.tr kk)) D.kp fun x h=>by have:=hXl _ h;have:=k12.sz;omega).tr k812;refine⟨true,rfl,(fun _=>⟨r112 wa12,trivial⟩),(fun _=>⟨r112 wa12,trivial⟩),⟨r112 wa12,trivial⟩,AA rfl ((known farW).mono ?_)⟩;rintro _ w13 ⟨rfl,k13'⟩;have wa13:=wa12.k k13';exact⟨true,rfl,(fun _=>⟨r112 wa13,trivial⟩),(fun _=>⟨r112 wa13,trivial⟩),⟨r112 wa13,trivial⟩,rfl,farW.tr k13'⟩
end Go.Proofs.YtdgbechegbmpcaaGreatDoor
