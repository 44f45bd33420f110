/- Part of a proof that a law returns true. Conditions: those in each theorem. -/
import Derived.Test.YtdgbechegbmpcaaGreatDoorSV1
import Derived.Test.YtdgbechegbmpcaaGreatDoorM7
import Derived.Test.YtdgbechegbmpcaaGreatDoorB0
set_option linter.unusedSimpArgs false
set_option linter.unusedVariables false
set_option maxRecDepth 100000
namespace Go.Proofs.YtdgbechegbmpcaaGreatDoor
open Go Go.Eng Go.Proofs.Tryz
abbrev AL.DX(S:AL)(f:Nat->Int):AL:={S with lh:=f}
section
variable {w w':WD}{k:Nat}{S:AL}{fp:Prt->Nat->Prop}
theorem core_lk(h:AJ w k S fp){f:Nat->Int}(kk:Kept (·=S.pl) w w')(L:BR w' S.pl (9+S.nodes) f):Step w w' k (S.DX f) fp:=by
 have hl:BR w S.pl (9+S.nodes) S.lh/\fp .locks S.pl:=h.at' .locks;exact h.FD .locks kk (fun x e=>e▸hl.2) rfl (fun p F w hp hq=>by cases p <;> first|exact hq|exact absurd rfl hp) ⟨L,.inl hl.2⟩
theorem core_lock(h:AJ w k S fp){who i:Nat}(hw:who<1000)(hi:i<9+S.nodes)(hr:∀j,i<=j->j<9+S.nodes->S.lh j≠who+1) :
 Calls prog 233 #[ptr S.pl,vi who,vi i] w fun e w'=>(S.lh i≠0/\e=.returned (.tuple #[.bool false,vi 0])/\Kept AB w w')\/
  (S.lh i=0/\e=.returned (.tuple #[.bool true,vi 0])/\Step w w' k (S.DX (upd S.lh i (who+1))) fp):=by
 have hl:BR w S.pl (9+S.nodes) S.lh/\fp .locks S.pl:=h.at' .locks;have hs:=h.BO.1;refine(ltry_spec hl.1 (by omega) hw hi hr).mono ?_;rintro e w' (h1|⟨h1,h2,h3,h4⟩)
 ·exact .inl h1
 ·exact .inr ⟨h1,h2,core_lk h h3 h4⟩
theorem core_unlock(h:AJ w k S fp){who i:Nat}(hw:who<1000)(hi:i<9+S.nodes)(hh:S.lh i=who+1) :
 Calls prog 238 #[ptr S.pl,vi who,vi i] w fun e w'=>e=.returned (vi 0)/\Step w w' k (S.DX (upd S.lh i 0)) fp:=by
 have hl:BR w S.pl (9+S.nodes) S.lh/\fp .locks S.pl:=h.at' .locks;have hs:=h.BO.1;refine(lfree_spec hl.1 (by omega) hw hi hh).mono ?_;rintro e w' ⟨h2,h3,h4⟩;exact⟨h2,core_lk h h3 h4⟩
def unl(f:Nat->Int)(xs:List Nat)(j:Nat):Nat->Int:=fun i=>if i∈xs.drop j then 0 else f i
theorem J2(h:AJ w k S fp){who b n:Nat}{xs:List Nat}(hb:own w b (xs.map fun x:Nat=>vi (x:Int)))(hfb:∀p,¬fp p b)(hn:n=xs.length)(hl:xs.length<=100)(hw:who<1000)(nd:xs.Nodup)(hx:∀x∈xs,x<9+S.nodes/\S.lh x=who+1) :
 Calls prog 188 #[ptr k,vi who,.slice (some ⟨b,0,none⟩) n n] w fun e w'=>e=.returned (.tuple #[])/\Step w w' k (S.DX (unl S.lh xs 0)) fp:=by
 subst hn;refine Calls.ret (vc188 _ who _ _ _ w _ ?_);unfold Q;have e0:S.DX (unl S.lh xs xs.length)=S:=by
  have:unl S.lh xs xs.length=S.lh:=by funext i;unfold unl;rw [List.drop_length];exact if_neg (by simp)
  show {S with lh:=_}=S
  rw [this]
 refine⟨fun n W N=>∃j:Nat,n=(j:Int)-1/\j<=xs.length/\N=j/\Step w W k (S.DX (unl S.lh xs j)) fp,⟨_,xs.length,by rw [wi (by omega)],nlr _,rfl,by rw [e0];exact h.JE kr⟩,?_⟩;rintro _ w1 j ⟨_,rfl,hj,rfl,T1⟩;obtain⟨fp1,C1,f1⟩:=T1.ex;refine AE (fun hc=>fun w2 e2=>?_) (fun hc=>?_)
 ·obtain⟨j,rfl⟩:∃i,j=i+1:=⟨j-1,by simp at hc;omega⟩;have k12:=kdr e2;have C2:=C1.k k12;have T2:=T1.tr f1 (C1.JE k12);have o2:own w2 b (xs.map fun x:Nat=>vi (x:Int)):=hb.kx T2.kp fun⟨p,hp⟩=>hfb p hp;have ej:((j+1:Nat):Int)-1=(j:Nat):=by omega
  obtain⟨x,hxj⟩:∃x,xs[j]? = some x:=⟨_,geg (by omega)⟩;obtain⟨g1,g2⟩:=hx x (mog hxj);have hno:x∉xs.drop (j+1):=fun hm=>by
   obtain⟨i,hi⟩:=List.mem_iff_getElem?.1 hm;rw [List.getElem?_drop] at hi;have h1:=(D5.1 hi).1;have:=(List.getElem?_inj (by omega) nd).1 (hi.trans hxj.symm);omega
  rw [ej];refine AA rfl ⟨_,by have:=C2.rtW kr (j:=3) rfl;exact this,AA rfl (Wi ⟨x,?_,(core_unlock C2 (who:=who) (i:=x) hw (by exact g1) ?_).mono ?_⟩)⟩
  ·show rd w2 b (0+_*1)=_
   rw [tnc,mo,za,o2.rd,gmp,hxj]
   rfl
  ·show unl S.lh xs (j+1) x=_
   unfold unl;rw [if_neg hno,g2]
  ·rintro _ w3 ⟨rfl,T3⟩;have T3':=T2.tr (fun p x hx=>(f1 p x hx).imp id fun e=>⟨e.1,by have:=k12.sz;have:=e.2;omega⟩) T3;refine⟨_,rfl,j,nlr _,j,by rw [wi (by omega)],by omega,rfl,?_⟩;have:upd (unl S.lh xs (j+1)) x 0=unl S.lh xs j:=by
    funext i;have hd:xs.drop j=x::xs.drop (j+1):=by
     have:=List.drop_eq_getElem_cons (i:=j) (l:=xs) (by omega);rw [this,(D5.1 hxj).2]
    unfold unl;by_cases e:i=x
    ·subst e;rw [upd_same,hd,if_pos mcs]
    ·rw [AH _ _ e,hd];by_cases e2:i∈xs.drop (j+1)
     ·rw [if_pos e2,if_pos (mcm _ e2)]
     ·rw [if_neg e2,if_neg fun e3=>(List.mem_cons.1 e3).elim e e2]
   rw [<- this];exact T3'
 ·have:j=0:=by simp at hc;omega
  subst this;exact⟨rfl,T1⟩
end
structure Fin where
 q:(NP)->WD->Prop
 C:NP
def Ends:Nat->Value->(NP)->WD->Fin->Prop
 | 0,v,F,w,Q=>v=.nilFunc/\Q.q F w
 | N+1,v,F,w,Q=>(v=.nilFunc/\Q.q F w)\/(isF v=true/\∀w1,Kept (fun x=>¬F x) w w1->AM prog v [.bool false] w1 fun e w2=>
  ∃(v':Value) (F':NP),e=.returned v'/\okF v'=true/\Kept (fun x=>F x/\¬Q.C x) w1 w2/\(∀x,F' x->F x\/rng w1 w2 x)/\Ends N v' F' w2 Q)
def Nx(N:Nat)(Q:Fin)(F:NP)(w:WD)(e:Ending)(w':WD):Prop:=
 ∃(v:Value) (F':NP),e=.returned v/\okF v=true/\Kept (fun x=>F x/\¬Q.C x) w w'/\(∀x,F' x->F x\/rng w w' x)/\Ends N v F' w' Q
theorem Ends.ok{N:Nat}{v:Value}{F:NP}{w:WD}{Q:Fin}(h:Ends N v F w Q):okF v=true:=by
 have:isF v=true->okF v=true:=by cases v <;> simp [isF,okF]
 cases N with
 | zero=>rw [h.1];rfl
 | succ N=>
  rcases h with h|h
  ·rw [h.1];rfl
  ·exact this h.1
theorem Ends.le{N M:Nat}(hN:N<=M){v:Value}{F:NP}{w:WD}{Q:Fin}(h:Ends N v F w Q):Ends M v F w Q:=by
 induction M generalizing N v F w with
 | zero=>rw [show N=0 by omega] at h;exact h
 | succ M ih=>
  cases N with
  | zero=>exact .inl h
  | succ N=>
   rcases h with h|⟨h1,h2⟩
   ·exact .inl h
   ·refine .inr ⟨h1,fun w1 k=>AQ (h2 w1 k) ?_⟩;rintro e w2 ⟨v',F',g1,g2,g3,g4,g5⟩;exact⟨v',F',g1,g2,g3,g4,ih (by omega) g5⟩
theorem Ends.step{N:Nat}{v:Value}{F:NP}{w:WD}{Q:Fin}(h:isF v=true)(hc:∀w1,Kept (fun x=>¬F x) w w1->AM prog v [.bool false] w1 (Nx N Q F w1)):Ends (N+1) v F w Q:=.inr ⟨h,hc⟩
theorem Nx.le{N M:Nat}(hN:N<=M){Q:Fin}{F:NP}{w w':WD}{e:Ending}(h:Nx N Q F w e w'):Nx M Q F w e w':=by
 obtain⟨v,F',g1,g2,g3,g4,g5⟩:=h;exact⟨v,F',g1,g2,g3,g4,g5.le hN⟩
theorem Nx.pre{N:Nat}{Q:Fin}{F F1:NP}{w w1 w':WD}{e:Ending}(k:Kept (fun x=>F x/\¬Q.C x) w w1)(hF:∀x,F1 x->F x\/rng w w1 x)(h:Nx N Q F1 w1 e w'):Nx N Q F w e w':=by
 obtain⟨v,F',g1,g2,g3,g4,g5⟩:=h;have s1:=k.sz;have s2:=g3.sz;refine⟨v,F',g1,g2,k.trans g3 fun x hx h1=>?_,fun x hx=>?_,g5⟩
 ·rcases hF x h1.1 with h|h
  ·exact⟨h,h1.2⟩
  ·have:=h.1;omega
 ·rcases g4 x hx with h|h
  ·rcases hF x h with h|h
   ·exact .inl h
   ·exact .inr ⟨h.1,by have:=h.2;omega⟩
  ·exact .inr ⟨by have:=h.1;omega,h.2⟩
def Fo(fp:Prt->Nat->Prop)(FR:NP):NP:=fun x=>(∃p,fp p x)\/FR x
structure Ctx(k:Nat)(S:AL)(fp:Prt->Nat->Prop)(FR:NP)(w:WD):Prop where
 C:AJ w k S fp
 lt:∀x,FR x->x<w.heap.size
 dj:∀p x,fp p x->¬FR x
structure Ltr(w:WD)(fp:Prt->Nat->Prop)(FR:NP)(w2:WD)(fp2:Prt->Nat->Prop):Prop where
 kp:Kept (fun x=>¬FR x) w w2
 fp:∀p x,fp2 p x->fp p x\/w.heap.size<=x
section
variable {w w' w1 w2:WD}{k:Nat}{S S':AL}{fp fp1 fp2:Prt->Nat->Prop}{FR:NP}
theorem Ltr.trans(h:Ltr w fp FR w1 fp1)(h2:Ltr w1 fp1 FR w2 fp2):Ltr w fp FR w2 fp2:=
 ⟨h.kp.trans h2.kp fun _ _ h=>h,fun p x hx=>by
  rcases h2.fp p x hx with h3|h3
  ·exact h.fp p x h3
  ·exact .inr (by have:=h.kp.sz;omega)⟩
theorem Ctx.kept(h:Ctx k S fp FR w)(kk:Kept AB w w'):Ctx k S fp FR w':=⟨h.C.k kk,fun x hx=>nll (h.lt x hx) kk.sz,h.dj⟩
theorem Ctx.env(h:Ctx k S fp FR w){G:NP}(hG:∀x,Fo fp FR x->G x)(kk:Kept (fun x=>¬G x) w w'):Ctx k S fp FR w':=
 ⟨h.C.kx kk fun x p h1 h2=>h1 (hG x (.inl ⟨p,h2⟩)),fun x hx=>nll (h.lt x hx) kk.sz,h.dj⟩
theorem Ctx.step(h:Ctx k S fp FR w)(T:Step w w' k S' fp):∃fp',Ctx k S' fp' FR w'/\Ltr w fp FR w' fp'/\Kept (fun x=>∃p,fp p x) w w'/\(∀x,Fo fp' FR x->Fo fp FR x\/rng w w' x):=by
 obtain⟨fp',C',f'⟩:=T.ex;refine⟨fp',⟨C',fun x hx=>nll (h.lt x hx) T.kp.sz,fun p x hp hr=>?_⟩,⟨T.kp.mono fun x _ ⟨p,hp⟩ hr=>h.dj p x hp hr,fun p x hp=>(f' p x hp).imp id fun e=>e.1⟩,T.kp,fun x hx=>?_⟩
 ·rcases f' p x hp with h1|h1
  ·exact h.dj p x h1 hr
  ·have:=h.lt x hr;have:=h1.1;omega
 ·rcases hx with⟨p,hp⟩|hr
  ·rcases f' p x hp with h1|h1
   ·exact .inl (.inl ⟨p,h1⟩)
   ·exact .inr h1
  ·exact .inl (.inr hr)
theorem Ctx.more(h:Ctx k S fp FR w)(kk:Kept AB w w'):Ctx k S fp (fun x=>FR x\/rng w w' x) w':=
 ⟨h.C.k kk,fun x hx=>hx.elim (fun e=>nll (h.lt x e) kk.sz) fun e=>e.2,fun p x hp hr=>hr.elim (h.dj p x hp) fun e=>by have:=(h.C.lt p x hp).2;have:=e.1;omega⟩
theorem Ctx.less{G:NP}(h:Ctx k S fp FR w)(hG:∀x,G x->FR x):Ctx k S fp G w:=⟨h.C,fun x hx=>h.lt x (hG x hx),fun p x hp hg=>h.dj p x hp (hG x hg)⟩
theorem Ltr.less{G:NP}(h:Ltr w fp FR w2 fp2)(hG:∀x,G x->FR x):Ltr w fp G w2 fp2:=⟨h.kp.mono fun x _ hn hg=>hn (hG x hg),h.fp⟩
theorem OE{N:Nat}{Q:Fin}(hC:∀x,Q.C x->FR x)(X:Ctx k S fp FR w){who i:Nat}(hw:who<1000)(hi:i<9+S.nodes)(hz:S.lh i=0)(hr:∀j,i<=j->j<9+S.nodes->S.lh j≠who+1){th:Value}(ht:okF th=true)
 (H:∀w2 fp2,Ctx k (S.DX (upd S.lh i (who+1))) fp2 FR w2->Ltr w fp FR w2 fp2->Ends N th (Fo fp2 FR) w2 Q) :
 Calls prog 184 #[ptr S.pl,vi who,vi i,th] w (Nx (N+1) Q (Fo fp FR) w):=by
 refine Calls.ret (vc184 _ who i th w _ ?_);apply qI;have ec:Value.cells th=[th].toArray:=EV ht;rw [ec];intro w1 e1 w2 e2 w3 e3 w4 e4 w5 e5;have o1:=AD e1;have o2:=AD e2;have o3:=AD e3;have o4:=AD e4;have o5:=AD e5;have k1:=kal e1;have k2:=kal e2;have k3:=kal e3;have k4:=kal e4;have k5:=kal e5;refine⟨o5.wr (by decide),fun w6 e6=>?_⟩;have o6:=o5.s1 e6;have k6:Kept (·=w4.heap.size) w5 w6:=e6▸kr.st (.inl rfl);generalize hv:Value.func (Fn.func 232) #[] #[Value.pointer (some (Addr.mk w.heap.size 0 none)),Value.pointer (some (Addr.mk w1.heap.size 0 none)),Value.pointer (some (Addr.mk w2.heap.size 0 none)),Value.pointer (some (Addr.mk w4.heap.size 0 none)),Value.pointer (some (Addr.mk w3.heap.size 0 none))]=v at *;have s1:=o1.lt;have s2:=o2.lt;have s3:=o3.lt;have s4:=o4.lt;have s5:=o5.lt;have z2:=k2.sz;have z3:=k3.sz;have z4:=k4.sz;have z5:=k5.sz;have z6:=k6.sz;have K5:Kept AB w w5:=(((k1.tr k2).tr k3).tr k4).tr k5;have K6:Kept AB w w6:=BD K5 k6 fun x e=>by omega
 refine⟨v,by rw [o6.rd];rfl,v,fun x=>Fo fp FR x\/rng w w6 x,rfl,by subst hv;rfl,K6.mono fun _ _ e=>e.elim,fun x hx=>hx,?_⟩;refine Ends.step (by subst hv;rfl) fun W kW=>?_;have XW:Ctx k S fp FR W:=(X.kept K6).env (fun x hx=>.inl hx) kW;have oo:∀{b:Nat}{cs:List Value},own w6 b cs->w.heap.size<=b->own W b cs:=fun o hb=>o.kx kW fun hn=>hn (.inr ⟨hb,o.lt⟩);have ne:∀{b:Nat}{cs:List Value},own w5 b cs->b<w4.heap.size->own w6 b cs:=fun o hb=>o.kx k6 fun e=>by omega
 have p1:own W w.heap.size [ptr S.pl]:=oo (ne ((((o1.k k2).k k3).k k4).k k5) (by omega)) (nlr _);have p2:own W w1.heap.size [vi who]:=oo (ne (((o2.k k3).k k4).k k5) (by omega)) (by omega);have p3:own W w2.heap.size [vi i]:=oo (ne ((o3.k k4).k k5) (by omega)) (by omega);have p4:own W w3.heap.size [th]:=oo (ne (o4.k k5) (by omega)) (by omega);refine AM.mk 232 #[] _ hv.symm (by kernel_rfl) ?_;refine Calls.ret (vc232 false (some ⟨w.heap.size,0,none⟩) (some ⟨w1.heap.size,0,none⟩) (some ⟨w2.heap.size,0,none⟩) (some ⟨w4.heap.size,0,none⟩) (some ⟨w3.heap.size,0,none⟩) W _ ?_);apply qI;refine AA rfl ⟨_,by show rd W w.heap.size 0=_;rw [p1.rd];rfl,AA rfl ⟨who,by show rd W w1.heap.size 0=_;rw [p2.rd];rfl,AA rfl ⟨i,by show rd W w2.heap.size 0=_;rw [p3.rd];rfl,(core_lock XW.C hw hi hr).mono ?_⟩⟩⟩;rintro _ W2 (⟨h1,_⟩|⟨_,rfl,T⟩)
 ·exact absurd hz h1
 obtain⟨fp2,X2,L2,kF,hF⟩:=XW.step T;have p4':own W2 w3.heap.size [th]:=p4.kx T.kp fun⟨p,hp⟩=>by have:=(X.C.lt p _ hp).2;omega
 refine⟨_,_,rfl,AG rfl (AG rfl (AA rfl ⟨th,by show rd W2 w3.heap.size 0=_;rw [p4'.rd];rfl,th,Fo fp2 FR,rfl,ht,kF.mono fun x _ ⟨p,hp⟩=>⟨.inl (.inl ⟨p,hp⟩),fun hc=>XW.dj p x hp (hC x hc)⟩,fun x hx=>(hF x hx).imp .inl id,?_⟩))⟩;have L1:Ltr w fp FR W fp:=⟨(K6.mono fun _ _ e=>e.elim).trans kW fun x _ hn hr=>hn (.inl (.inr hr)),fun p x hx=>.inl hx⟩;exact H W2 fp2 X2 (L1.trans L2)
end
end Go.Proofs.YtdgbechegbmpcaaGreatDoor
namespace Go.Proofs.YtdgbechegbmpcaaGreatDoor
open Go Go.Eng Go.Proofs.Tryz
open Go.Value (bool func)
open Option (isNone)
open Go.IntKind (wrap)
theorem vc26(z:OA)(node:Int)(w:WD)(K:KV)(h:Q (CI 11 #[pt z,vi node] w fun n w'=>gIf (isP z) ((!isNone z)=true) (∃(x:OA) (c d:Nat),((!isNone z)=true->rd w' (pb z) (po z+94)=some (.slice x c d))/\gIf (isP z) ((!isNone z&&!isNone x&&decide (node>=0))=true) (∃(f:OA) (a g:Nat),((!isNone z&&!isNone x&&decide (node>=0))=true->rd w' (pb z) (po z+94)=some (.slice f a g))/\gIf (isP z) ((!(!isNone z&&!isNone x&&decide (node>=0)&&decide (node<(↑a:Int))))=false) (∃(b:Int),((!(!isNone z&&!isNone x&&decide (node>=0)&&decide (node<(↑a:Int))))=false->rd w' (pb z) (po z+91)=some (.int .i64 b))/\Wif (!(!isNone z&&!isNone x&&decide (node>=0)&&decide (node<(↑a:Int)))||decide (n<=b)) (K (vi 0) w') (Wp z (Ri w' z 92 fun x=>Wif (decide (n<=x)) (K (vi 1) w') (Wp z (Ri w' z 93 fun x=>Wif (decide (n<=x)) (K (vi 2) w') (K (vi 3) w')))))))))):Ret 26 #[pt z,vi node] w K:=vcA L7 2 [] func26 h
theorem vc23(m:OA)(frame at' n:Int)(w:WD)(K:KV)(h:Q (gIf (isP m) ((!isNone m)=true) (∃(x:OA) (d f:Nat),((!isNone m)=true->rd w (pb m) (po m+95)=some (.slice x d f))/\Wif (!(!isNone m&&!isNone x)) (CS 57 #[sl none 0 0] w fun a l c w'=>K (.tuple #[sl a l c,vi 1]) w') (gIf (isP m) (decide (frame<0)=false) (∃(x:OA) (b g:Nat),(decide (frame<0)=false->rd w (pb m) (po m+95)=some (.slice x b g))/\Wif (decide (frame<0)||decide (frame>=(↑b:Int))) (CS 57 #[sl none 0 0] w fun a l c w'=>K (.tuple #[sl a l c,vi 7]) w') (Wif (decide (at'<0)||decide (n<0)||decide (n>256)||decide (at'>wrap .i64 (256-n))) (CS 57 #[sl none 0 0] w fun a l c w'=>K (.tuple #[sl a l c,vi 2]) w') (Wp m (Rs w m 94 fun x i h=>Wif (CN (wrap .i64 (frame*256)) (wrap .i64 (wrap .i64 (frame+1)*256)) (wrap .i64 (wrap .i64 (frame+1)*256))) (Wif (CN 0 (wrap .i64 (wrap .i64 (frame+1)*256)) (↑h:Int)) (Wif (CN at' (wrap .i64 (at'+n)) (↑(Int.toNat (wrap .i64 (wrap .i64 (frame+1)*256))-Int.toNat (wrap .i64 (frame*256))):Int)) (CS 57 #[sl (BJ (BJ x (Int.toNat (wrap .i64 (wrap .i64 (frame+1)*256))) (Int.toNat (wrap .i64 (frame*256))) 1) (Int.toNat (wrap .i64 (wrap .i64 (frame+1)*256))-Int.toNat (wrap .i64 (frame*256))) (Int.toNat at') 1) (Int.toNat (wrap .i64 (at'+n))-Int.toNat at') (Int.toNat (wrap .i64 (wrap .i64 (frame+1)*256))-Int.toNat (wrap .i64 (frame*256))-Int.toNat at')] w fun a l c w'=>K (.tuple #[sl a l c,vi 0]) w') False) False) False)))))))):Ret 23 #[pt m,vi frame,vi at',vi n] w K:=vcA L2 3 [] func23 h
theorem vc38(m:OA)(frame at':Int)(b:OA)(bL bC:Nat)(w:WD)(K:KV)(h:Q (gIf (isP m) ((!isNone m)=true) (∃(x:OA) (c d:Nat),((!isNone m)=true->rd w (pb m) (po m+95)=some (.slice x c d))/\Wif (!(!isNone m&&!isNone x)) (∃(n:Int) (w':WD),PM prog #[81,81] 3 (sl none 0 0) (sl b bL bC) (vi n) w w'/\K (vi 1) w') (gIf (isP m) (decide (frame<0)=false) (∃(x:OA) (a f:Nat),(decide (frame<0)=false->rd w (pb m) (po m+95)=some (.slice x a f))/\Wif (decide (frame<0)||decide (frame>=(↑a:Int))) (∃(n:Int) (w':WD),PM prog #[81,81] 3 (sl none 0 0) (sl b bL bC) (vi n) w w'/\K (vi 7) w') (Wif (decide (at'<0)||false||decide ((↑bL:Int)>256)||decide (at'>wrap .i64 (256-(↑bL:Int)))) (∃(n:Int) (w':WD),PM prog #[81,81] 3 (sl none 0 0) (sl b bL bC) (vi n) w w'/\K (vi 2) w') (Wp m (Rs w m 94 fun x h g=>Wif (CN (wrap .i64 (frame*256)) (wrap .i64 (wrap .i64 (frame+1)*256)) (wrap .i64 (wrap .i64 (frame+1)*256))) (Wif (CN 0 (wrap .i64 (wrap .i64 (frame+1)*256)) (↑g:Int)) (Wif (CN at' (wrap .i64 (at'+(↑bL:Int))) (↑(Int.toNat (wrap .i64 (wrap .i64 (frame+1)*256))-Int.toNat (wrap .i64 (frame*256))):Int)) (∃(n:Int) (w':WD),PM prog #[81,81] 3 (sl (BJ (BJ x (Int.toNat (wrap .i64 (wrap .i64 (frame+1)*256))) (Int.toNat (wrap .i64 (frame*256))) 1) (Int.toNat (wrap .i64 (wrap .i64 (frame+1)*256))-Int.toNat (wrap .i64 (frame*256))) (Int.toNat at') 1) (Int.toNat (wrap .i64 (at'+(↑bL:Int)))-Int.toNat at') (Int.toNat (wrap .i64 (wrap .i64 (frame+1)*256))-Int.toNat (wrap .i64 (frame*256))-Int.toNat at')) (sl b bL bC) (vi n) w w'/\K (vi 0) w') False) False) False)))))))):Ret 38 #[pt m,vi frame,vi at',sl b bL bC] w K:=vcA L2 3 [] func38 h
theorem vc240(m:OA)(frame:Int)(w:WD)(K:KV)(h:Q (gIf (isP m) ((!isNone m)=true) (∃(x:OA) (b c:Nat),((!isNone m)=true->rd w (pb m) (po m+95)=some (.slice x b c))/\Wif (!(!isNone m&&!isNone x)) (∃(w':WD),JA prog #[81] 0 (sl none 0 0) w w'/\K (vi 1) w') (gIf (isP m) (decide (frame<0)=false) (∃(x:OA) (a d:Nat),(decide (frame<0)=false->rd w (pb m) (po m+95)=some (.slice x a d))/\Wif (decide (frame<0)||decide (frame>=(↑a:Int))) (∃(w':WD),JA prog #[81] 0 (sl none 0 0) w w'/\K (vi 7) w') (Wp m (Rs w m 94 fun x g f=>Wif (CN (wrap .i64 (frame*256)) (wrap .i64 (wrap .i64 (frame+1)*256)) (wrap .i64 (wrap .i64 (frame+1)*256))) (Wif (CN 0 (wrap .i64 (wrap .i64 (frame+1)*256)) (↑f:Int)) (Wif (CN 0 256 (↑(Int.toNat (wrap .i64 (wrap .i64 (frame+1)*256))-Int.toNat (wrap .i64 (frame*256))):Int)) (∃(w':WD),JA prog #[81] 0 (sl (BJ (BJ x (Int.toNat (wrap .i64 (wrap .i64 (frame+1)*256))) (Int.toNat (wrap .i64 (frame*256))) 1) (Int.toNat (wrap .i64 (wrap .i64 (frame+1)*256))-Int.toNat (wrap .i64 (frame*256))) 0 1) 256 (Int.toNat (wrap .i64 (wrap .i64 (frame+1)*256))-Int.toNat (wrap .i64 (frame*256))-0)) w w'/\K (vi 0) w') False) False) False))))))):Ret 240 #[pt m,vi frame] w K:=vcA L2 3 [] func240 h
theorem vc295(m:OA)(frame:Int)(w:WD)(K:KV)(h:Q (gIf (isP m) ((!isNone m)=true) (∃(x:OA) (b c:Nat),((!isNone m)=true->rd w (pb m) (po m+95)=some (.slice x b c))/\Wif (!(!isNone m&&!isNone x)) (K (sl none 0 0) w) (gIf (isP m) (decide (frame<0)=false) (∃(x:OA) (a d:Nat),(decide (frame<0)=false->rd w (pb m) (po m+95)=some (.slice x a d))/\Wif (decide (frame<0)||decide (frame>=(↑a:Int))) (K (sl none 0 0) w) (Wp m (Rs w m 94 fun x g f=>Wif (CN (wrap .i64 (frame*256)) (wrap .i64 (wrap .i64 (frame+1)*256)) (wrap .i64 (wrap .i64 (frame+1)*256))) (Wif (CN 0 (wrap .i64 (wrap .i64 (frame+1)*256)) (↑f:Int)) (K (sl (BJ x (Int.toNat (wrap .i64 (wrap .i64 (frame+1)*256))) (Int.toNat (wrap .i64 (frame*256))) 1) (Int.toNat (wrap .i64 (wrap .i64 (frame+1)*256))-Int.toNat (wrap .i64 (frame*256))) (Int.toNat (wrap .i64 (wrap .i64 (frame+1)*256))-Int.toNat (wrap .i64 (frame*256)))) w) False) False))))))):Ret 295 #[pt m,vi frame] w K:=vcA L2 3 [] func295 h
theorem vc294(d:OA)(i:Int)(b:OA)(bL bC:Nat)(fail:Bool)(w:WD)(K:KV)(h:Q (Calls prog 168 #[pt d,vi i] w fun e w'=>∃(p:OA) (n:Int),e=rT (.tuple #[pt p,vi n])/\Wif (n != 0) (K (vi n) w') (Wif ((↑bL:Int)!=256) (K (vi 2) w') (Wif fail (K (vi 40) w') (Wif (decide (256<=bL)) (Wp b (∃(x:Nat->Int),AS w' (pb b) (po b) (AK .u8 x 0 256)/\Wp p (DF w' (pb p) (po p) (AK .u8 x 0 256)/\∀a,a=F0 w' (pb p) (po p) (AK .u8 x 0 256)->K (vi 0) a))) False))))):Ret 294 #[pt d,vi i,sl b bL bC,bool fail] w K:=vcA L2 3 [] func294 h
theorem vc59(d:OA)(i:Int)(fail:Bool)(w:WD)(K:KV)(h:Q (Calls prog 168 #[pt d,vi i] w fun e w'=>∃(p:OA) (n:Int),e=rT (.tuple #[pt p,vi n])/\Wif (n != 0) (K (.tuple #[sl none 0 0,vi n]) w') (Wif fail (K (.tuple #[sl none 0 0,vi 40]) w') (Wp p (∃(x:Nat->Int),AS w' (pb p) (po p) (AK .u8 x 0 256)/\AW w' (List.toArray (List.replicate 256 (vu 0))) 272 fun a=>DF a w'.heap.size 0 (AK .u8 x 0 256)/\∀b,b=F0 a w'.heap.size 0 (AK .u8 x 0 256)->K (.tuple #[sl (aD w'.heap.size) 256 256,vi 0]) b))))):Ret 59 #[pt d,vi i,bool fail] w K:=vcA L2 3 [] func59 h
theorem vc103(s:OA)(i:Int)(w:WD)(K:KV)(h:Q (CB 102 #[pt s,vi i] w fun b w'=>gIf (isP s) (b=true) (∃(x:OA) (a d:Nat),(b=true->rd w' (pb s) (po s)=some (.slice x a d))/\gIf (isP x) (b=true) (gIf (inB (wrap .i64 (Int.tdiv i 64)) a) (b=true) (∃(c:Int),(b=true->rd w' (pb x) (po x+Int.toNat (wrap .i64 (Int.tdiv i 64))*1)=some (.int .u64 c))/\gIf (decide (0<=Int.tmod i 64)) (b=true) (K (.bool (b&&BW BinOp.and IntKind.u64 (Int.fdiv c (2^min (Int.toNat (Int.tmod i 64)) 64)) 1==1)) w')))))):Ret 103 #[pt s,vi i] w K:=vcA L7 2 [] func103 h
theorem vc40(s:OA)(i:Int)(w:WD)(K:KV)(h:Q (Wif (isNone s) (K (vi 1) w) (CB 102 #[pt s,vi i] w fun b w'=>Wif (!b) (K (vi 2) w') (CB 103 #[pt s,vi i] w' fun b w'=>Wif b (K (vi 8) w') (Dr w' fun d=>Wp s (Rs d s 0 fun x a f=>Wp x (Wn (wrap .i64 (Int.tdiv i 64)) a (∃(c:Int),rd d (pb x) (po x+Int.toNat (wrap .i64 (Int.tdiv i 64))*1)=some (.int .u64 c)/\Wif (decide (0<=Int.tmod i 64)) (Wp x (Wn (wrap .i64 (Int.tdiv i 64)) a (Sw d (pb x) (po x+Int.toNat (wrap .i64 (Int.tdiv i 64))*1) (Value.int .u64 (BW BinOp.or IntKind.u64 c (wrap .u64 (1*2^min (Int.toNat (Int.tmod i 64)) 64)))) fun w'=>K (vi 0) w'))) False)))))))):Ret 40 #[pt s,vi i] w K:=vcA L7 2 [] func40 h
theorem vc272(s:OA)(pid page:Int)(w:WD)(K:KV)(h:Q (gIf (isP s) (isNone s=false) (∃(x:Bool),(isNone s=false->rd w (pb s) (po s+1)=some (.bool x))/\Wif (isNone s||!x) (K (.tuple #[vi 0,vi 1]) w) (Wif (decide (pid<1)||decide (pid>8)||decide (page<0)||decide (page>=1024)) (K (.tuple #[vi 0,vi 2]) w) (Wp s (Rs w s 0 fun x b c=>CI 293 #[sl x b c,Value.agg #[vi 0,vi 0]] w fun n w'=>Wif (decide (n<0)) (K (.tuple #[vi 0,vi 9]) w') (Wp s (Rs w' s 0 fun x d f=>Wp x (Wn n d ((wr w' (pb x) (po x+Int.toNat n*2)/\wr w' (pb x) (po x+Int.toNat n*2+1))/\St (st w' (pb x) (po x+Int.toNat n*2) (vi pid)) (pb x) (po x+Int.toNat n*2+1) (vi page) fun a=>K (.tuple #[vi n,vi 0]) a)))))))))):Ret 272 #[pt s,vi pid,vi page] w K:=vcA L7 2 [] func272 h
theorem vc22(s:OA)(w:WD)(K:KV)(h:Q (AW w #[vi 0] 3 fun w'=>AW w' #[pt s] 42 fun a=>∃(xss:List (List Value)),∃(R:NP),∃(I:(NP)->Nat->WD->Prop),∃(X:Nat->(NP)->WD->Prop),(DW prog 164 [ptr w'.heap.size] xss R a/\(∀(xs:List Value),List.Mem xs xss->List.length xs=1/\∃(v:Value),xs=[v])/\∀(b:Nat),R b->Nat.succ b<=a.heap.size)/\(∀(c:WD),Kept AB a c->c.heap.size=a.heap.size+2->I (fun(x:Nat)=>False) 0 c)/\(∀(Y:NP) (i:Nat) (W W':WD),I Y i W->(∀(b:Nat),Y b->a.heap.size+2<=b)->Kept (DJ a.heap.size Y) W W'->I (fun(b:Nat)=>Y b\/W.heap.size<=b/\Nat.succ b<=W'.heap.size) i W')/\(∀(k:Nat) (Y:NP) (W W':WD),X k Y W->(∀(b:Nat),Y b->a.heap.size+2<=b)->Kept (DJ a.heap.size Y) W W'->X k (fun(b:Nat)=>Y b\/W.heap.size<=b/\Nat.succ b<=W'.heap.size) W')/\(∀(Y:NP) (i:Nat) (W:WD),I Y i W->(∀(b:Nat),Y b->a.heap.size+2<=b)->a.heap.size+2<=W.heap.size->∀(v:Value),xss[i]? = some [v]->BN a.heap.size W W/\∀(w2:WD),Kept (fun(b:Nat)=>b=a.heap.size+1) W w2->w2.heap.size=W.heap.size->RI w2 w.heap.size 0 fun x=>Sw w2 w.heap.size 0 (vi (wrap .i64 (x+1))) fun w'=>BN a.heap.size w2 w'/\DA (fun(b:Nat)=>Y b\/R b) W w'/\I Y (i+1) w')/\(∀(Y:NP) (W:WD),I Y (List.length xss) W->DC a.heap.size W->RI W w.heap.size 0 fun x=>Sw W w.heap.size 0 (vi x) fun w'=>CG [a.heap.size] w'/\∀(w2:WD),Kept (fun(b:Nat)=>List.Mem b [a.heap.size]) w' w2->w2.heap.size=w'.heap.size->RI w2 w.heap.size 0 fun x=>K (vi x) w2)/\(∀(Y:NP) (W:WD),X 0 Y W->DC a.heap.size W->CG [a.heap.size] W/\∀(w2:WD),Kept (fun(b:Nat)=>List.Mem b [a.heap.size]) W w2->w2.heap.size=W.heap.size->RI w2 w.heap.size 0 fun x=>K (vi x) w2)/\True)):Ret 22 #[pt s] w K:=vcA L8 2 [] func22 h
theorem vc164(l0:Nat)(a:OA)(w:WD)(K:KV)(h:Q (Wp a (Rp w a 0 fun x=>Wif (isNone x) (∃(I:Int->WD->Nat->Prop),(∃(n:Nat),I 0 w n)/\∀(n:Int) (w':WD) (c:Nat),I n w' c->Wif (decide (n<0)) (Wp a (Rp w' a 0 fun x=>Wp x (Rs w' x 0 fun d f h=>Wp d (Wn n f (Ri w' d (Int.toNat n*2) fun x=>Wif (x != 0) (E8 prog l0 [vi n] w' fun(r:Ending) (w':WD)=>∃(b:Bool),r=rT (bool b)/\Wif (!b) (K (.tuple #[]) w') (Lt c fun m=>I (wrap .i64 (n+1)) w' m)) (Lt c fun m=>I (wrap .i64 (n+1)) w' m)))))) (K (.tuple #[]) w')) (Wp x (Rs w x 0 fun d f h=>∃(I:Int->WD->Nat->Prop),(∃(n:Nat),I 0 w n)/\∀(n:Int) (w':WD) (c:Nat),I n w' c->Wif (decide (n<(↑f:Int))) (Wp a (Rp w' a 0 fun x=>Wp x (Rs w' x 0 fun g i j=>Wp g (Wn n i (Ri w' g (Int.toNat n*2) fun x=>Wif (x != 0) (E8 prog l0 [vi n] w' fun(r:Ending) (w':WD)=>∃(b:Bool),r=rT (bool b)/\Wif (!b) (K (.tuple #[]) w') (Lt c fun m=>I (wrap .i64 (n+1)) w' m)) (Lt c fun m=>I (wrap .i64 (n+1)) w' m)))))) (K (.tuple #[]) w')))))):Ret 164 #[Value.func (Fn.yield l0) #[] #[],pt a] w K:=vcA L7 2 [1000019] func164 h
theorem vc200(c:OA)(w:WD)(K:KV)(h:Q (gIf (isP c) (isNone c=false) (∃(x:Option Nat),(isNone c=false->rd w (pb c) (po c+1)=some (.map x))/\Wif (isNone c||isNone x) (K (vi 0) w) (Wp c (Rs w c 0 fun x a b=>K (vi (↑a:Int)) w))))):Ret 200 #[pt c] w K:=vcA L7 2 [] func200 h
theorem vc245(c:OA)(w:WD)(K:KV)(h:Q (∃(I:Int->Bool->WD->Nat->Prop),(∃(n:Nat),I 0 false w n)/\∀(n:Int) (b:Bool) (w':WD) (j:Nat),I n b w' j->CI 200 #[pt c] w' fun t w'=>Wif (decide (t>0)) (Wp c (Rs w' c 0 fun x u z=>Wp x (Wn 0 u (Ri w' x 0 fun g=>Wp c (Rs w' c 0 fun x k h=>Wif (CN 1 (↑k:Int) (↑h:Int)) (AW w' #[vi g] 3 fun r=>∃(a:OA) (l c_1:Nat) (i:WD),BF prog #[27,27] 27 (sl (BJ x h 1 1) (k-1) (h-1)) (sl (aD w'.heap.size) 1 1) (sl a l c_1) r i/\Wp c (Sw i (pb c) (po c) (sl a l c_1) fun w'=>Wp c (∃(x:Option Nat),rd w' (pb c) (po c+1)=some (.map x)/\∃(o p:Bool),E5 prog 289 (Value.map x) (vi g) false (Value.agg #[bool o,bool p]) w'/\AW w' #[bool false,bool false] 311 fun f=>(wr f w'.heap.size 0/\wr f w'.heap.size 1)/\St (st f w'.heap.size 0 (bool o)) w'.heap.size 1 (bool p) fun d=>∃(x q:Bool),(rd d w'.heap.size 0=some (.bool x)/\rd d w'.heap.size 1=some (.bool q))/\Wif (x==false&&(q==false&&true)) (K (.tuple #[vi g,bool true]) d) (Dr d fun s=>Wp c (∃(x:Option Nat),rd s (pb c) (po c+1)=some (.map x)/\RB s w'.heap.size 1 fun y=>∃(w':WD),EA prog 289 (Value.map x) (vi g) (Value.agg #[bool y,bool false]) s w'/\Lt j fun m=>I n b w' m))))) False))))) (K (.tuple #[vi 0,bool false]) w'))):Ret 245 #[pt c] w K:=vcA L7 2 [] func245 h
theorem vc242(c:OA)(w:WD)(K:KV)(h:Q (AW w #[pt c] 180 fun w'=>RP w' w.heap.size 0 fun x=>CS 142 #[pt x] w' fun a l c w'=>CS 161 #[sl a l c,func (.func 274) #[] #[bp w]] w' fun a l c w'=>K (sl a l c) w')):Ret 242 #[pt c] w K:=vcA L7 2 [] func242 h
theorem vc199(k:OA)(node:Int)(w:WD)(K:KV)(h:Q (Wp k (Rs w k 101 fun x p r=>Wp x (Wn node p (Rs w x (Int.toNat node*1) fun g i s=>∃(I:Int->Int->WD->Nat->Prop),(∃(n:Nat),I 0 0 w n)/\∀(n d:Int) (w':WD) (j:Nat),I n d w' j->Wif (decide (d<(↑i:Int))) (Wp g (Wn d i (Rp w' g (Int.toNat d*1) fun x=>CS 242 #[pt x] w' fun a l c w'=>∃(f:Int->Int->WD->Nat->Prop),(∃(b:Nat),f n 0 w' b)/\∀(n b:Int) (w':WD) (h:Nat),f n b w' h->Wif (decide (b<(↑l:Int))) (Wp a (Wn b l (Ri w' a (Int.toNat b*1) fun o=>CI 243 #[pt x,vi o] w' fun q w'=>Wif (q==0) (CI 187 #[pt k,vi o] w' fun t w'=>Lt h fun m=>f (wrap .i64 (n+1)) (wrap .i64 (b+1)) w' m) (Lt h fun m=>f n (wrap .i64 (b+1)) w' m)))) (Lt j fun m=>I n (wrap .i64 (d+1)) w' m)))) (K (vi n) w')))))):Ret 199 #[pt k,vi node] w K:=vcA L7 2 [] func199 h
theorem vc17(l:OA)(lL lC:Nat)(n:Int)(w:WD)(K:KV)(h:Q (∃(I:Bool->Int->WD->Nat->Prop),(∃(n:Nat),I false 0 w n)/\∀(b:Bool) (a:Int) (w':WD) (c:Nat),I b a w' c->Wif (decide (a<(↑lL:Int))) (Wp l (Wn a lL (Ri w' l (Int.toNat a*1) fun x=>Wif (x==n) (K (.bool true) w') (Lt c fun m=>I b (wrap .i64 (a+1)) w' m)))) (K (.bool false) w'))):Ret 17 #[sl l lL lC,vi n] w K:=vcA L7 2 [] func17 h
theorem vc8(x0:Nat->Int)(x94:OA)(x94L x94C:Nat)(x95:OA)(x95L x95C:Nat)(x96:Nat->Int)(w:WD)(K:KV)(h:Q (AW w (List.toArray (AK .i64 x0 0 94++([sl x94 x94L x94C,sl x95 x95L x95C]++AK .i64 x96 0 8))) 29 fun w'=>∃(x:Nat->Int),AS w' w.heap.size 0 (AK .i64 x 0 94)/\CB 28 #[Value.agg (List.toArray (AK .i64 x 0 94))] w' fun b w'=>∃(x:Nat->Int),((!b)=false->AS w' w.heap.size 0 (AK .i64 x 0 94))/\Wif (!b) (K (.bool false) w') (CS 29 #[Value.agg (List.toArray (AK .i64 x 0 94))] w' fun a l c w'=>∃(x:OA) (i z:Nat),(decide ((↑l:Int)>60)=false->rd w' w.heap.size 94=some (.slice x i z))/\∃(x:OA) (p A:Nat),((decide ((↑l:Int)>60)||decide ((↑i:Int)>32))=false->rd w' w.heap.size 95=some (.slice x p A))/\Wif (decide ((↑l:Int)>60)||decide ((↑i:Int)>32)||decide ((↑p:Int)>64)) (K (.bool false) w') (AW w' (List.toArray (List.replicate 32 (bool false))) 96 fun r=>∃(I:Bool->Int->WD->Nat->Prop),(∃(n:Nat),I false 0 r n)/\∀(b:Bool) (n:Int) (d:WD) (q:Nat),I b n d q->RS d w.heap.size 94 fun x B E=>Wif (decide (n<(↑B:Int))) (RS d w.heap.size 94 fun x C F=>Wp x (Wn n C (Ri d x (Int.toNat n*1) fun f=>∃(x:OA) (j s:Nat),(decide (f<0)=false->rd d w.heap.size 94=some (.slice x j s))/\gIf (isP x) (decide (f<0)=false) (gIf (inB n j) (decide (f<0)=false) (∃(g:Int),(decide (f<0)=false->rd d (pb x) (po x+Int.toNat n*1)=some (.int .i64 g))/\∃(x:OA) (k t:Nat),((decide (f<0)||decide (g>31))=false->rd d w.heap.size 94=some (.slice x k t))/\gIf (isP x) ((decide (f<0)||decide (g>31))=false) (gIf (inB n k) ((decide (f<0)||decide (g>31))=false) (∃(h:Int),((decide (f<0)||decide (g>31))=false->rd d (pb x) (po x+Int.toNat n*1)=some (.int .i64 h))/\gIf (inB h 32) ((decide (f<0)||decide (g>31))=false) (∃(x:Bool),((decide (f<0)||decide (g>31))=false->rd d w'.heap.size (0+Int.toNat h*1)=some (.bool x))/\Wif (decide (f<0)||decide (g>31)||x) (K (.bool false) d) (RS d w.heap.size 94 fun x u D=>Wp x (Wn n u (Ri d x (Int.toNat n*1) fun o=>Wn o 32 (Sw d w'.heap.size (0+Int.toNat o*1) (bool true) fun y=>Lt q fun m=>I b (wrap .i64 (n+1)) y m)))))))))))) (K (.bool true) d))))):Ret 8 #[Value.agg (List.toArray (AK .i64 x0 0 94++sl x94 x94L x94C::sl x95 x95L x95C::AK .i64 x96 0 8))] w K:=vcA L7 2 [] func8 h
end Go.Proofs.YtdgbechegbmpcaaGreatDoor
namespace Go.Proofs.YtdgbechegbmpcaaGreatDoor
open Go Go.Eng Go.Proofs.Tryz
section
variable {w:WD}{m bb mb n:Nat}{c:Nat->Int}{by':Nat->Int}{mk:Nat->Mark}
theorem runI_blank{kd:IntKind}{f:Nat->Int}{o k N:Nat}(h:o+k<=N):(AK kd f 0 N).take o++List.replicate k (.int kd 0)++(AK kd f 0 N).drop (o+k)=AK kd (D4 f o k) 0 N:=by
 refine E6 (by simp [AI];omega) fun j hj=>?_;unfold D4;by_cases h1:j<o
 ·rw [if_neg (by omega),gal (by simp [AI];omega),gal (by simp [AI];omega),List.getElem?_take,if_pos h1,AT _ _ _ _ _ hj,za]
 ·by_cases h2:j<o+k
  ·rw [if_pos (by omega),gal (by simp [AI];omega),gar (by simp [AI];omega),List.getElem?_replicate,if_pos (by simp [AI];omega)]
  ·rw [if_neg (by omega),gar (by simp [AI];omega),List.getElem?_drop];have:o+k+(j-(List.take o (AK kd f 0 N)++List.replicate k (Value.int kd 0)).length)=j:=by simp [AI];omega
   rw [this,AT _ _ _ _ _ hj,za]
theorem clear_spec(h:BM w m bb mb c n by' mk)(hn:n<=1024){f:Nat}(hf:f<n) :
 Calls prog 240 #[ptr m,vi f] w fun e w'=>e=.returned (vi 0)/\Kept (·=bb) w w'/\BM w' m bb mb c n (D4 by' (f*256) 256) mk:=by
 refine Calls.ret (vc240 _ f w _ ?_);have h95:rd w m (0+95)=some (.slice (some ⟨mb,0,none⟩) n n):=by rw [za];exact h.r95
 have h94:rd w m (0+94)=some (.slice (some ⟨bb,0,none⟩) (n*256) (n*256)):=by rw [za];exact h.r94
 unfold Q;refine AF (fun _=>rfl) ⟨_,_,_,fun _=>h95,AG rfl (AF (fun _=>rfl) ⟨_,_,_,fun _=>h95,AG (by simp;omega) (AA rfl ⟨_,_,_,h94,?_⟩)⟩)⟩;rw [wi (x:=(f:Int)+1) (by omega),wi (x:=(f:Int)*256) (by omega),wi (x:=((f:Int)+1)*256) (by omega)];refine AA BI (AA BI (AA BI ?_));rw [show Int.toNat ((f:Int)*256)=f*256 by omega,show Int.toNat (((f:Int)+1)*256)=f*256+256 by omega];have eo:∀{d:Nat},d≠f*256->BJ (BJ (some ⟨bb,0,none⟩) d (f*256) 1) (f*256+256-f*256) 0 1=some ⟨bb,f*256,none⟩:=fun hd=>by
  rw [offA2 hd (by omega)];rfl
 rw [eo (by omega)];obtain⟨w',hc,ho,hk⟩:=clr_own (P:=prog) (t:=81) (e:=5) (ty:=0) underlying81 Tryz.zeroValue5 rfl rfl h.bs (f*256) 256 (f*256+256-f*256-0) (by rw [AI];omega);rw [runI_blank (by omega)] at ho;exact⟨w',hc,rfl,hk,⟨h.so.kx hk h.ne.1,ho,h.ms.kx hk fun e=>h.ne.2.2 e.symm,h.ne⟩⟩
end
section
variable {w w':WD}{k:Nat}{S:AL}{fp:Prt->Nat->Prop}
theorem core_clear(h:AJ w k S fp){f:Nat}(hf:f<S.n) :
 Calls prog 240 #[ptr S.pm,vi f] w fun e w'=>e=.returned (vi 0)/\Step w w' k (S.J9 (D4 S.by' (f*256) 256)) fp:=by
 obtain⟨bb,mb,M,f1,f2,f3⟩:=h.mem;refine(clear_spec M h.n4.2.2 hf).mono ?_;rintro e w' ⟨he,kk,M'⟩;exact⟨he,h.FD .mem kk (fun x e=>e▸f2) rfl (fun p F w hp hq=>by cases p <;> first|exact hq|exact absurd rfl hp) ⟨bb,mb,M',.inl f1,.inl f2,.inl f3⟩⟩
end
end Go.Proofs.YtdgbechegbmpcaaGreatDoor
namespace Go.Proofs.YtdgbechegbmpcaaGreatDoor
open Go Go.Eng Go.Proofs.Tryz
open Go.Value (bool func)
open Option (isNone)
open Go.IntKind (wrap)
theorem vc196(k:OA)(cpu node role:Int)(high:Bool)(w:WD)(K:KV)(h:Q (Dr w fun b=>Wp k (Rp b k 95 fun x=>Wp k (Ri b k 91 fun a=>CI 11 #[pt x,vi node] b fun n w'=>Rt w' (pb k) (po k+91) (.int .i64 a)<|Wif (decide (n<=a)) (K (.tuple #[vi 0,bool false]) w') (Wp k (Rp w' k 95 fun x=>CJ 33 #[pt x,vi node,vi 0,bool high] w' fun n c w'=>Wif (c != 0) (K (.tuple #[vi 0,bool false]) w') (Wp k (Rp w' k 94 fun x=>CI 240 #[pt x,vi n] w' fun d w'=>Wp k (Rp w' k 94 fun x=>CI 34 #[pt x,vi n,Value.agg #[vu role,vi 0,vi 0,vi 0,vi 0]] w' fun f w'=>C0 241 #[pt k,vi cpu,vi n] w' fun w'=>K (.tuple #[vi n,bool true]) w'))))))))):Ret 196 #[pt k,vi cpu,vi node,vu role,bool high] w K:=vcA L7 2 [] func196 h
theorem vc121(k:OA)(cpu:Int)(nodes:OA)(CE nodesC:Nat)(role:Int)(high:Bool)(then':Value)(w:WD)(K:KV)(h:Q (AW w #[pt k] 54 fun w'=>AW w' #[vi cpu] 3 fun b=>AW b #[sl nodes CE nodesC] 27 fun d=>AW d #[vu role] 84 fun f=>AW f #[bool high] 4 fun c=>AW c (Value.cells then') 217 fun a=>RS a b.heap.size 0 fun x j r=>Wif ((↑j:Int)==0) (K (.func (.func 194) #[] #[ptr c.heap.size]) a) (RS a b.heap.size 0 fun x l s=>Wp x (Wn 0 l (Ri a x 0 fun o=>AW a #[vi 0] 3 fun h=>Sw h a.heap.size 0 (vi (wrap .i64 (9+o))) fun i=>Dr i fun g=>RP g w.heap.size 0 fun x=>Wp x (Rp g x 97 fun p=>RI g w'.heap.size 0 fun x=>RI g a.heap.size 0 fun q=>Ret 184 #[pt p,vi x,vi q,func (.func 195) #[] #[ptr w.heap.size,ptr w'.heap.size,ptr b.heap.size,ptr d.heap.size,ptr f.heap.size,ptr a.heap.size,ptr c.heap.size]] g K)))))):Ret 121 #[pt k,vi cpu,sl nodes CE nodesC,vu role,bool high,then'] w K:=vcA L7 2 [] func121 h
theorem vc194(x0:Bool)(a:OA)(w:WD)(K:KV)(h:Q (Wp a (Rv w a 0 fun x=>AM prog x [vi (-1),vi 6] w fun e w'=>∃(v:Value),e=rT v/\K v w'))):Ret 194 #[bool x0,pt a] w K:=vcA L7 2 [2000004] func194 h
def vcP195(x0:Bool)(a c f g h j i:OA)(w:WD)(K:KV):Prop:=Dr w fun d=>Wp a (Rp d a 0 fun x=>Wp c (Ri d c 0 fun y=>Wp f (Rs d f 0 fun l z F=>Wp l (Wn 0 z (Ri d l 0 fun A=>Wp g (Re d g 0 fun B=>Wp h (Rb d h 0 fun C=>Calls prog 196 #[pt x,vi y,vi A,vu B,bool C] d fun e w'=>∃(n:Int) (b:Bool),e=rT (.tuple #[vi n,bool b])/\Wp a (Rp w' a 0 fun x=>Wp c (Ri w' c 0 fun D=>Wp j (Ri w' j 0 fun E=>AW w' #[vi E] 3 fun p=>C0 188 #[pt x,vi D,sl (aD w'.heap.size) 1 1] p fun w'=>Wif b (Wp i (Rv w' i 0 fun x=>AM prog x [vi n,vi 0] w' fun e w'=>∃(v:Value),e=rT v/\K v w')) (Dr w' fun d=>Wp a (Rp d a 0 fun x=>Wp c (Ri d c 0 fun q=>Wp f (Rs d f 0 fun r o k=>Wif (CN 1 (↑o:Int) (↑k:Int)) (Wp g (Re d g 0 fun s=>Wp h (Rb d h 0 fun t=>Wp i (Rv d i 0 fun u=>Ret 121 #[pt x,vi q,sl (BJ r k 1 1) (o-1) (k-1),vu s,bool t,u] d K)))) False))))))))))))))
theorem vc195(x0:Bool)(a b c d f g i:OA)(w:WD)(K:KV)(h:vcP195 x0 a b c d f g i w K):Ret 195 #[bool x0,pt a,pt b,pt c,pt d,pt f,pt g,pt i] w K:=vcA L7 2 [2000029] func195 h
theorem vc107(k:OA)(cpu:Int)(nodes:Value)(role:Int)(high:Bool)(then':Value)(w:WD)(K:KV)(h:Q (AW w #[pt k] 54 fun w'=>AW w' #[vi cpu] 3 fun a=>AW a (Value.cells nodes) 219 fun b=>AW b #[vu role] 84 fun c=>AW c #[bool high] 4 fun d=>AW d (Value.cells then') 217 fun f=>K (.func (.func 181) #[] #[bp a,bp w,bp w',bp b,bp c,bp d]) f)):Ret 107 #[pt k,vi cpu,nodes,vu role,bool high,then'] w K:=vcA L7 2 [] func107 h
def vcP181(x0:Bool)(d f g h i j:OA)(w:WD)(K:KV):Prop:=Wp d (Rv w d 0 fun x=>AM prog x [] w fun e w'=>∃(a:OA) (l c:Nat),e=rT (sl a l c)/\AW w' #[sl none 0 0] 27 fun k=>Sw k w'.heap.size 0 (sl a l c) fun b=>Wp f (Rp b f 0 fun x=>Wp g (Ri b g 0 fun o=>RS b w'.heap.size 0 fun p q r=>Wp h (Re b h 0 fun s=>Wp i (Rb b i 0 fun t=>Ret 121 #[pt x,vi o,sl p q r,vu s,bool t,func (.func 182) #[] #[pt j,pt f,pt g,bp w',pt d,pt h,pt i]] b K)))))
theorem vc181(x0:Bool)(a b c d f g:OA)(w:WD)(K:KV)(h:vcP181 x0 a b c d f g w K):Ret 181 #[bool x0,pt a,pt b,pt c,pt d,pt f,pt g] w K:=vcA L7 2 [2000010] func181 h
def vcP182(f e':Int)(a b c d g h i:OA)(w:WD)(K:KV):Prop:=Wif (e'==0) (Wp a (Rv w a 0 fun x=>AM prog x [vi f,vi e'] w fun e w'=>∃(v:Value),e=rT v/\K v w')) (Wp b (Rp w b 0 fun x=>Wp c (Ri w c 0 fun j=>Wp d (Rs w d 0 fun k l o=>Ret 123 #[pt x,vi j,sl k l o,func (.func 183) #[] #[pt a,pt b,pt c,pt g,pt h,pt i]] w K))))
theorem vc182(f e':Int)(a b c d g i j:OA)(w:WD)(K:KV)(h:vcP182 f e' a b c d g i j w K):Ret 182 #[vi f,vi e',pt a,pt b,pt c,pt d,pt g,pt i,pt j] w K:=vcA L7 2 [2000014] func182 h
theorem vc183(got:Int)(a b c d f g:OA)(w:WD)(K:KV)(h:Q (Wif (got==0) (Wp a (Rv w a 0 fun x=>AM prog x [vi (-1),vi 6] w fun e w'=>∃(v:Value),e=rT v/\K v w')) (Wp b (Rp w b 0 fun x=>Wp c (Ri w c 0 fun h=>Wp d (Rv w d 0 fun i=>Wp f (Re w f 0 fun j=>Wp g (Rb w g 0 fun k=>Wp a (Rv w a 0 fun l=>Ret 107 #[pt x,vi h,i,vu j,bool k,l] w K))))))))):Ret 183 #[vi got,pt a,pt b,pt c,pt d,pt f,pt g] w K:=vcA L7 2 [2000011] func183 h
theorem vc118(k:OA)(cpu frame:Int)(then':Value)(w:WD)(K:KV)(h:Q (AW w #[pt k] 54 fun w'=>AW w' #[vi cpu] 3 fun a=>AW a #[vi frame] 3 fun b=>AW b (Value.cells then') 122 fun c=>K (.func (.func 192) #[] #[bp w,bp a,bp b,bp w']) c)):Ret 118 #[pt k,vi cpu,vi frame,then'] w K:=vcA L7 2 [] func118 h
theorem vc192(x0:Bool)(a c d f:OA)(w:WD)(K:KV)(h:Q (Dr w fun g=>Wp a (Rp g a 0 fun x=>Wp x (Rp g x 98 fun k=>Wp c (Ri g c 0 fun x=>Calls prog 117 #[pt k,vi x] g fun e w'=>∃(n h:Int) (b:Bool),e=rT (.tuple #[vi n,vi h,bool b])/\Wif (!b) (Wp d (Rv w' d 0 fun x=>AM prog x [bool false] w' fun e w'=>∃(v:Value),e=rT v/\K v w')) (Wp a (Rp w' a 0 fun x=>Wp f (Ri w' f 0 fun l=>Wp c (Ri w' c 0 fun o=>Wp d (Rv w' d 0 fun i=>Wif (allF [i]) (AW w' #[pt x,vi l,vi o,vi n,vi h,vi (wrap .i64 (n-1)),vi 0,i] 316 fun j=>Dr j fun g=>Wp a (Rp g a 0 fun x=>Wp x (Rp g x 97 fun p=>Wp f (Ri g f 0 fun x=>RI g w'.heap.size 5 fun q=>Ret 184 #[pt p,vi x,vi q,func (.func 193) #[bp w'] #[]] g K)))) False)))))))))):Ret 192 #[bool x0,pt a,pt c,pt d,pt f] w K:=vcA L7 2 [2000023] func192 h
theorem vc193(g:OA)(x1:Bool)(w:WD)(K:KV)(h:Q (Dr w fun a=>Wp g (Rp a g 0 fun x=>Wp x (Rp a x 98 fun o=>Wp g (Ri a g 2 fun x=>Calls prog 117 #[pt o,vi x] a fun e w'=>∃(n h:Int) (b:Bool),e=rT (.tuple #[vi n,vi h,bool b])/\Dr w' fun a=>Wp g (Rp a g 0 fun x=>Wp g (Ri a g 3 fun k=>Wp x (Wn k 9 (RP a (pb x) (po x+105+Int.toNat k*1) fun f=>gIf (isP g) ((!b)=false) (∃(x:Int),((!b)=false->rd a (pb g) (po g+3)=some (.int .i64 x))/\gIf (isP g) ((!b||n != x)=false) (∃(i:Int),((!b||n != x)=false->rd a (pb g) (po g+4)=some (.int .i64 i))/\gIf (isP f) ((!b||n != x||h != i||isNone f)=false) (∃(l:OA),((!b||n != x||h != i||isNone f)=false->rd a (pb f) (po f+2)=some (.pointer l))/\Wif (!b||n != x||h != i||isNone f) (Dr a fun c=>Wp g (Rp c g 0 fun x=>Wp g (Ri c g 1 fun d=>Wp g (Ri c g 5 fun j=>AW c #[vi j] 3 fun w'=>Rt w' (pb g) (po g+1) (.int .i64 d)<|Rt w' (pb g) (po g) (.pointer x)<|C0 188 #[pt x,vi d,sl (aD c.heap.size) 1 1] w' fun w'=>Wp g (Rv w' g 7 fun x=>AM prog x [bool false] w' fun e w'=>∃(v:Value),e=rT v/\K v w'))))) (CB 103 #[pt l,vi h] a fun b w'=>Wif b (Dr w' fun a=>Wp g (Rp a g 0 fun x=>Wp g (Ri a g 1 fun d=>Wp g (Ri a g 5 fun j=>AW a #[vi j] 3 fun w'=>Rt w' (pb g) (po g+1) (.int .i64 d)<|Rt w' (pb g) (po g) (.pointer x)<|C0 188 #[pt x,vi d,sl (aD a.heap.size) 1 1] w' fun w'=>Wp g (Rv w' g 7 fun x=>AM prog x [bool false] w' fun e w'=>∃(v:Value),e=rT v/\K v w'))))) (Dr w' fun a=>Wp g (Rp a g 0 fun x=>Wp x (Rp a x 97 fun d=>Wp g (Ri a g 1 fun x=>Ret 184 #[pt d,vi x,vi 8,func (.func 239) #[pt g] #[]] a K))))))))))))))))):Ret 193 #[pt g,bool x1] w K:=vcA L7 2 [2000084] func193 h
theorem vc239(g:OA)(x1:Bool)(w:WD)(K:KV)(h:Q (Dr w fun a=>Wp g (Rp a g 0 fun x=>Wp x (Rp a x 99 fun h=>Wp g (Ri a g 3 fun x=>Wp g (Ri a g 4 fun i=>CJ 272 #[pt h,vi x,vi i] a fun n j w'=>Wif (j != 0) (Dr w' fun a=>Wp g (Rp a g 0 fun x=>Wp g (Ri a g 1 fun b=>Wp g (Ri a g 5 fun c=>AW a #[vi c,vi 8] 3 fun w'=>Rt w' (pb g) (po g+1) (.int .i64 b)<|Rt w' (pb g) (po g) (.pointer x)<|C0 188 #[pt x,vi b,sl (aD a.heap.size) 2 2] w' fun w'=>Wp g (Rv w' g 7 fun x=>AM prog x [bool false] w' fun e w'=>∃(v:Value),e=rT v/\K v w'))))) (Dr w' fun a=>Wp g (Rp a g 0 fun x=>Wp x (Rs a x 116 fun b c k=>Wp g (Ri a g 1 fun x=>Wp g (Sw a (pb g) (po g+6) (vi n) fun w'=>Wp b (Wn x c (Sw w' (pb b) (po b+Int.toNat x*1) (vi n) fun f=>Dr f fun a=>Wp g (Rp a g 0 fun x=>Wp g (Ri a g 1 fun d=>AW a #[vi 8] 3 fun w'=>Rt w' (pb g) (po g+1) (.int .i64 d)<|Rt w' (pb g) (po g) (.pointer x)<|C0 188 #[pt x,vi d,sl (aD a.heap.size) 1 1] w' fun w'=>K (.func (.func 273) #[pt g] #[]) w'))))))))))))))):Ret 239 #[pt g,bool x1] w K:=vcA L7 2 [2000045] func239 h
theorem vc273(g:OA)(fail:Bool)(w:WD)(K:KV)(h:Q (Dr w fun b=>Wp g (Rp b g 0 fun x=>Wp x (Rp b x 96 fun h=>Wp g (Ri b g 6 fun i=>Wp g (Rp b g 0 fun f=>Wp f (Rp b f 94 fun k=>Wp g (Ri b g 2 fun o=>CS 295 #[pt k,vi o] b fun a l c w'=>Rt w' (pb g) (po g+6) (.int .i64 i)<|Rt w' (pb x) (po x+96) (.pointer h)<|Rt w' (pb g) (po g) (.pointer x)<|CI 294 #[pt h,vi i,sl a l c,bool fail] w' fun n w'=>Wif (n != 0) (Dr w' fun b=>Wp g (Rp b g 0 fun x=>Wp x (Rp b x 97 fun d=>Wp g (Ri b g 1 fun x=>Ret 184 #[pt d,vi x,vi 8,func (.func 296) #[pt g] #[]] b K)))) (Dr w' fun b=>Wp g (Rp b g 0 fun x=>Wp x (Rp b x 97 fun d=>Wp g (Ri b g 1 fun j=>Wp g (Rp b g 0 fun p=>Wp g (Ri b g 2 fun q=>CI 18 #[pt p,vi q] b fun n w'=>Rt w' (pb g) (po g+1) (.int .i64 j)<|Rt w' (pb x) (po x+97) (.pointer d)<|Rt w' (pb g) (po g) (.pointer x)<|Ret 184 #[pt d,vi j,vi (wrap .i64 (9+n)),func (.func 297) #[pt g] #[]] w' K)))))))))))))):Ret 273 #[pt g,bool fail] w K:=vcA L7 2 [] func273 h
theorem vc297(g:OA)(x1:Bool)(w:WD)(K:KV)(h:Q (Dr w fun a=>Wp g (Rp a g 0 fun x=>Wp g (Ri a g 3 fun p=>Wp g (Ri a g 4 fun q=>CJ 316 #[pt x,vi p,vi q] a fun n z w'=>Dr w' fun a=>Wp g (Rp a g 0 fun x=>Wp x (Rp a x 94 fun r=>Wp g (Rp a g 0 fun x=>Wp g (Ri a g 3 fun d=>Wp x (Wn d 9 (RP a (pb x) (po x+105+Int.toNat d*1) fun f=>Wp f (Ri a f 1 fun s=>Wp g (Ri a g 4 fun t=>Wp g (Ri a g 6 fun u=>CI 100 #[pt r,vi s,vi t,Value.agg #[vu 2,vi u]] a fun n w'=>Rt w' (pb g) (po g+3) (.int .i64 d)<|Rt w' (pb g) (po g) (.pointer x)<|Dr w' fun a=>Wp g (Rp a g 0 fun x=>Wp x (Rs a x 116 fun h j y=>Wp g (Ri a g 1 fun x=>Wp h (Wn x j (Sw a (pb h) (po h+Int.toNat x*1) (vi (-1)) fun w'=>Dr w' fun a=>Wp g (Rp a g 0 fun x=>Wp g (Ri a g 2 fun k=>CI 187 #[pt x,vi k] a fun n w'=>Dr w' fun a=>Wp g (Rp a g 0 fun x=>Wp g (Ri a g 1 fun b=>Wp g (Ri a g 5 fun i=>Wp g (Rp a g 0 fun l=>Wp g (Ri a g 2 fun o=>CI 18 #[pt l,vi o] a fun n w'=>Rt w' (pb g) (po g+5) (.int .i64 i)<|Rt w' (pb g) (po g+1) (.int .i64 b)<|Rt w' (pb g) (po g) (.pointer x)<|AW w' #[vi i,vi (wrap .i64 (9+n))] 3 fun c=>Rt c (pb g) (po g+1) (.int .i64 b)<|Rt c (pb g) (po g) (.pointer x)<|C0 188 #[pt x,vi b,sl (aD w'.heap.size) 2 2] c fun w'=>Wp g (Rv w' g 7 fun x=>AM prog x [bool true] w' fun e w'=>∃(v:Value),e=rT v/\K v w'))))))))))))))))))))))))))):Ret 297 #[pt g,bool x1] w K:=vcA L7 2 [2000098] func297 h
theorem vc123(k:OA)(cpu:Int)(nodes:OA)(CE nodesC:Nat)(then':Value)(w:WD)(K:KV)(h:Q (AW w #[pt k] 54 fun w'=>AW w' #[vi cpu] 3 fun b=>AW b #[sl nodes CE nodesC] 27 fun c=>AW c (Value.cells then') 228 fun a=>RS a b.heap.size 0 fun x h p=>Wif ((↑h:Int)==0) (K (.func (.func 197) #[] #[bp c]) a) (RS a b.heap.size 0 fun x i q=>Wp x (Wn 0 i (Ri a x 0 fun j=>AW a #[vi 0] 3 fun f=>Sw f a.heap.size 0 (vi (wrap .i64 (9+j))) fun g=>Dr g fun d=>RP d w.heap.size 0 fun x=>Wp x (Rp d x 97 fun l=>RI d w'.heap.size 0 fun x=>RI d a.heap.size 0 fun o=>Ret 184 #[pt l,vi x,vi o,func (.func 198) #[] #[bp w,bp b,bp w',bp a,bp c]] d K)))))):Ret 123 #[pt k,vi cpu,sl nodes CE nodesC,then'] w K:=vcA L7 2 [] func123 h
theorem vc197(x0:Bool)(a:OA)(w:WD)(K:KV)(h:Q (Wp a (Rv w a 0 fun x=>AM prog x [vi 0] w fun e w'=>∃(v:Value),e=rT v/\K v w'))):Ret 197 #[bool x0,pt a] w K:=vcA L7 2 [2000004] func197 h
theorem vc198(x0:Bool)(a b c k d:OA)(w:WD)(K:KV)(h:Q (Dr w fun i=>Wp a (Rp i a 0 fun x=>Wp b (Rs i b 0 fun l D H=>Wp l (Wn 0 D (Ri i l 0 fun E=>Wp a (Rp i a 0 fun f=>Wp f (Rs i f 100 fun g q F=>Wp b (Rs i b 0 fun h o r=>Wp h (Wn 0 o (Ri i h 0 fun j=>Wp g (Wn j q (Rp i g (Int.toNat j*1) fun p=>CI 199 #[pt x,vi E] i fun n w'=>Rt w' (pb g) (po g+Int.toNat j*1) (.pointer p)<|Rt w' (pb h) (po h) (.int .i64 j)<|Rt w' (pb b) (po b) (.slice h o r)<|Rt w' (pb f) (po f+100) (.slice g q F)<|Rt w' (pb a) (po a) (.pointer f)<|CI 200 #[pt p] w' fun G w'=>Rt w' (pb a) (po a) (.pointer f)<|Wp a (Rp w' a 0 fun x=>Wp c (Ri w' c 0 fun s=>Wp k (Ri w' k 0 fun t=>AW w' #[vi t] 3 fun u=>C0 188 #[pt x,vi s,sl (aD w'.heap.size) 1 1] u fun w'=>Wif (decide (n>0)) (Wp d (Rv w' d 0 fun x=>AM prog x [vi n] w' fun e w'=>∃(v:Value),e=rT v/\K v w')) (Wp a (Rp w' a 0 fun x=>Wp c (Ri w' c 0 fun y=>Wp b (Rs w' b 0 fun z A B=>Wp d (Rv w' d 0 fun C=>Ret 201 #[pt x,vi y,sl z A B,vi (wrap .i64 (3*G)),C] w' K))))))))))))))))))))):Ret 198 #[bool x0,pt a,pt b,pt c,pt k,pt d] w K:=vcA L7 2 [2000033] func198 h
theorem vc201(k:OA)(cpu:Int)(nodes:OA)(CE nodesC:Nat)(left:Int)(then':Value)(w:WD)(K:KV)(h:Q (AW w #[pt k] 54 fun w'=>AW w' #[vi cpu] 3 fun c=>AW c #[sl nodes CE nodesC] 27 fun f=>AW f #[vi left] 3 fun g=>AW g (Value.cells then') 228 fun a=>RI a f.heap.size 0 fun x=>Wif (x==0) (Dr a fun b=>RP b w.heap.size 0 fun x=>RI b w'.heap.size 0 fun i=>RS b c.heap.size 0 fun l h d=>Wif (CN 1 (↑h:Int) (↑d:Int)) (RV b g.heap.size 0 fun j=>Ret 123 #[pt x,vi i,sl (BJ l d 1 1) (h-1) (d-1),j] b K) False) (RS a c.heap.size 0 fun x i l=>Wp x (Wn 0 i (Ri a x 0 fun h=>AW a #[vi 0] 3 fun o=>Sw o a.heap.size 0 (vi (wrap .i64 (9+h))) fun p=>Dr p fun b=>RP b w.heap.size 0 fun x=>Wp x (Rp b x 97 fun d=>RI b w'.heap.size 0 fun x=>RI b a.heap.size 0 fun j=>Ret 184 #[pt d,vi x,vi j,func (.func 244) #[] #[bp w,bp c,bp w',bp a,bp g,bp f]] b K)))))):Ret 201 #[pt k,vi cpu,sl nodes CE nodesC,vi left,then'] w K:=vcA L7 2 [] func201 h
def vcP244(x0:Bool)(a d c h g q:OA)(w:WD)(K:KV):Prop:=Dr w fun f=>Wp a (Rp f a 0 fun x=>Wp x (Rs f x 100 fun k y C=>Wp d (Rs f d 0 fun l z D=>Wp l (Wn 0 z (Ri f l 0 fun p=>Wp k (Wn p y (Rp f k (Int.toNat p*1) fun A=>Calls prog 245 #[pt A] f fun e w'=>∃(n:Int) (b:Bool),e=rT (.tuple #[vi n,bool b])/\(rd w' (pb a) (po a)=some (.pointer x)/\True)/\Wp a (Rp w' a 0 fun x=>Wp c (Ri w' c 0 fun B=>Wp h (Ri w' h 0 fun r=>AW w' #[vi r] 3 fun s=>C0 188 #[pt x,vi B,sl (aD w'.heap.size) 1 1] s fun w'=>Wif (!b) (Dr w' fun f=>Wp a (Rp f a 0 fun x=>Wp c (Ri f c 0 fun i=>Wp d (Rs f d 0 fun t o j=>Wif (CN 1 (↑o:Int) (↑j:Int)) (Wp g (Rv f g 0 fun u=>Ret 123 #[pt x,vi i,sl (BJ t j 1 1) (o-1) (j-1),u] f K)) False)))) (Wp a (Rp w' a 0 fun x=>Wp c (Ri w' c 0 fun i=>Ret 118 #[pt x,vi i,vi n,func (.func 246) #[] #[pt g,pt a,pt c,pt d,pt q]] w' K)))))))))))))
theorem vc244(x0:Bool)(a b c d f g:OA)(w:WD)(K:KV)(h:vcP244 x0 a b c d f g w K):Ret 244 #[bool x0,pt a,pt b,pt c,pt d,pt f,pt g] w K:=vcA L7 2 [] func244 h
theorem vc246(ok:Bool)(a b c d f:OA)(w:WD)(K:KV)(h:Q (Wif ok (Wp a (Rv w a 0 fun x=>AM prog x [vi 1] w fun e w'=>∃(v:Value),e=rT v/\K v w')) (Wp b (Rp w b 0 fun x=>Wp c (Ri w c 0 fun g=>Wp d (Rs w d 0 fun h i j=>Wp f (Ri w f 0 fun k=>Wp a (Rv w a 0 fun l=>Ret 201 #[pt x,vi g,sl h i j,vi (wrap .i64 (k-1)),l] w K)))))))):Ret 246 #[bool ok,pt a,pt b,pt c,pt d,pt f] w K:=vcA L7 2 [2000009] func246 h
abbrev Wq(p:OA)(X:Prop):Prop:=Wif (isP p&&true) X False
theorem vc113(k:OA)(cpu node:Int)(end':Value)(w:WD)(K:KV)(h:Q (AW w #[pt k] 54 fun w'=>AW w' #[vi cpu] 3 fun a=>AW a #[vi node] 3 fun g=>AW g (Value.cells end') 1 fun j=>Dr j fun f=>RP f w.heap.size 0 fun x=>RI f a.heap.size 0 fun d=>Wp x (Wn d 8 (RI f (pb x) (po x+18+Int.toNat d*1) fun i=>AW f #[vi 0] 3 fun b=>Rt b (pb x) (po x+18+Int.toNat d*1) (.int .i64 i)<|Rt b a.heap.size 0 (.int .i64 d)<|Rt b w.heap.size 0 (.pointer x)<|Sw b f.heap.size 0 (vi (wrap .i64 (2*i))) fun c=>AW c #[Value.nilFunc] 123 fun l=>Sw l c.heap.size 0 (func (.func 189) #[] #[bp f,bp w,bp a,bp g,bp w',bp c]) fun h=>RV h c.heap.size 0 fun x=>K x h)))):Ret 113 #[pt k,vi cpu,vi node,end'] w K:=vcA L7 2 [] func113 h
theorem vc189(x0:Bool)(a b c d g l:OA)(w:WD)(K:KV)(h:Q (Dr w fun h=>Wp a (Ri h a 0 fun x=>gIf (isP b) ((x==0)=false) (∃(i:OA),((x==0)=false->rd h (pb b) (po b)=some (.pointer i))/\gIf (isP i) ((x==0)=false) (∃(j:OA),((x==0)=false->rd h (pb i) (po i+95)=some (.pointer j))/\gIf (isP c) ((x==0)=false) (∃(k:Int),((x==0)=false->rd h (pb c) (po c)=some (.int .i64 k))/\Wif (x==0) (Wp d (Rv h d 0 fun x=>AM prog x [] h fun e w'=>e=rT (.tuple #[])/\K Value.nilFunc w')) (CI 26 #[pt j,vi k] h fun n w'=>Wif (n==3) (Wp d (Rv w' d 0 fun x=>AM prog x [] w' fun e w'=>e=rT (.tuple #[])/\K Value.nilFunc w')) (Wp a (Ri w' a 0 fun x=>Wq a (Sw w' (pb a) (po a) (vi (wrap .i64 (x-1))) fun f=>Wp b (Rp f b 0 fun x=>Wp g (Ri f g 0 fun o=>Wp c (Ri f c 0 fun p=>AW f #[vi p] 3 fun w'=>Ret 123 #[pt x,vi o,sl (aD f.heap.size) 1 1,func (.func 190) #[] #[pt a,pt l]] w' K))))))))))))):Ret 189 #[bool x0,pt a,pt b,pt c,pt d,pt g,pt l] w K:=vcA L7 2 [2000020] func189 h
theorem vc190(got:Int)(b a:OA)(w:WD)(K:KV)(h:Q (Wif (got==0) (Wq b (Sw w (pb b) (po b) (vi 0) fun w'=>Wp a (Rv w' a 0 fun x=>K x w'))) (Wp a (Rv w a 0 fun x=>K x w)))):Ret 190 #[vi got,pt b,pt a] w K:=vcA L7 2 [] func190 h
end Go.Proofs.YtdgbechegbmpcaaGreatDoor
namespace Go.Proofs.YtdgbechegbmpcaaGreatDoor
open Go Go.Eng Go.Proofs.Tryz
theorem IE{l:List Bk}{a b:Nat}(h:CQ a l b){x y:Bk}(hx:x∈l)(hy:y∈l){f:Nat}(h1:x.p<=f)(h2:f<x.p+2^x.o)(h3:y.p<=f)(h4:f<y.p+2^y.o):x=y:=by
 induction l generalizing a with
 | nil=>cases hx
 | cons z l ih=>
  have ht:=h.2.2.2;rcases List.mem_cons.1 hx with e1|hx'
  ·rcases List.mem_cons.1 hy with e2|hy'
   ·rw [e1,e2]
   ·have:=(BC ht hy').1;have:=h.1;subst e1;omega
  ·rcases List.mem_cons.1 hy with e2|hy'
   ·have:=(BC ht hx').1;have:=h.1;subst e2;omega
   ·exact ih ht hx' hy'
theorem fsum_free{l:List Bk}(h:0<AX l):∃x∈l,x.g=0:=by
 induction l with
 | nil=>exact absurd h (Nat.lt_irrefl _)
 | cons x l ih=>
  by_cases hx:x.g=0
  ·exact⟨x,mcs,hx⟩
  ·rw [D8,if_neg hx,za] at h;obtain⟨y,hy,hg⟩:=ih h;exact⟨y,mcm _ hy,hg⟩
theorem GI{l l':List Bk}{high:Bool}{a:Int}{n:Nat}(hT:CQ 0 l n)(h:ES l 0 high a 0 l'):∃r:Nat,a=r/\r<n/\(∃x∈l,x.g=0/\x.p<=r/\r<x.p+2^x.o)/\(∀y:Bk,y.g=1->(y∈l'↔y∈l\/y=⟨r,0,1⟩))/\AX l'+1=AX l:=by
 rcases h with⟨_,_,h,_⟩|⟨_,_,_,_,_,h,_⟩|⟨o,x,r,h0,h1,hx,hg,_,_,ha,hr,_,hm,hf⟩
 ·cases h
 ·cases h
 ·have:o=0:=by omega
  subst this;have hp:=BC hT hx;have h2:x.p<=r/\r<x.p+2^x.o:=by
   have:=p2 x.o;split at hr <;> omega
  exact⟨r,ha,by omega,⟨x,hx,hg,h2⟩,hm,by simpa using hf⟩
def CC:Mark:=⟨3,0,0,0,0⟩
def pageM(j:Nat):Mark:=⟨4,0,1,j,0⟩
def gfr(S:AL)(i:Nat)(y:Bk):Nat:=(AN S.c i).toNat+y.p
def usedF(rt lf:Nat)(pg:Nat->Option Nat)(hd:Option Nat)(f:Nat):Prop:=f=rt\/f=lf\/(∃j,pg j=some f)\/hd=some f
def DT(n:Nat)(f:Nat->Nat):Nat:=((List.range n).map f).sum
theorem D7(n:Nat)(f:Nat->Nat):DT (n+1) f=DT n f+f n:=by unfold DT;rw [List.range_succ,FU,List.sum_append];simp
theorem sumN_ext{n:Nat}{f g:Nat->Nat}(h:∀i,i<n->f i=g i):DT n f=DT n g:=by
 induction n with
 | zero=>rfl
 | succ n ih=>rw [D7,D7,ih fun i hi=>h i (by omega),h n (by omega)]
theorem JD{n:Nat}{f:Nat->Nat}{i v:Nat}(hi:i<n):DT n (upd f i v)+f i=DT n f+v:=by
 induction n with
 | zero=>omega
 | succ n ih=>
  rw [D7,D7];by_cases h:i=n
  ·subst h;rw [upd_same,sumN_ext (g:=f) fun j hj=>AH _ _ (by omega)];omega
  ·rw [AH _ _ (Ne.symm h)];have:=ih (by omega);omega
structure LSt(S:AL)(rt lf:Nat)(pg:Nat->Option Nat)(hd:Option Nat)(cnt:Nat):Prop where
 by':ByR S.by'
 rl:rt<S.n/\lf<S.n/\rt≠lf
 sp:∃b,S.sp=fun i=>if i=1 then some b else none
 root:S.root 1=rt
 w0:wdF S.by' S.n rt 0=1+4*(lf:Int)
 wz:∀j:Int,1<=j->j<=31->wdF S.by' S.n rt j=0
 wl:∀j:Nat,j<32->wdF S.by' S.n lf j=match pg j with|some f=>1+4*(f:Int)|none=>0
 pgo:∀j f,pg j=some f->j<32/\f<S.n/\f≠rt/\f≠lf/\hd≠some f
 inj:∀j j' f,pg j=some f->pg j'=some f->j=j'
 hdr:∀f,hd=some f->f<S.n/\f≠rt/\f≠lf
 rof1:∀j f,pg j=some f->S.rof f=(1,(j:Int))
 rof2:∀f,f<S.n->(S.rof f).1≠0->∃j,pg j=some f
 rat1:∀kk v,S.rat.lookup kk=some v->∃j f,kk=(1,((j:Nat):Int))/\pg j=some f/\v=vi f
 rat2:∀j f,pg j=some f->(S.rat.lookup (1,(j:Int))).isSome=true
 ck:∀i,i<S.nodes->FL (S.ring i) (S.cof i)
 ckm:∀i,i<S.nodes->∀x:Int,x∈S.ring i↔∃j f,pg j=some f/\x=(f:Nat)/\AN S.c i<=f/\(f:Int)<AN S.c (i+1)
 mk1:S.mks rt=CC/\S.mks lf=CC
 mk2:∀j f,pg j=some f->S.mks f=pageM j
 mk3:∀f,f<S.n->¬usedF rt lf pg hd f->S.mks f=CM
 tk1:∀i,i<S.nodes->∀y∈S.L i,y.g=1->y.o=0/\usedF rt lf pg hd (gfr S i y)
 tk2:∀f,usedF rt lf pg hd f->∃i y,i<S.nodes/\y∈S.L i/\y.g=1/\gfr S i y=f
 cp:((List.range 32).filter fun j=>(pg j).isSome).length=cnt
 cr:(owns S.n S.rof).length=cnt
 cc:DT S.nodes (fun i=>(S.ring i).length)=cnt
 cf:DT S.nodes (fun i=>AX (S.L i))+cnt+2+(if hd.isSome then 1 else 0)=S.n
 held:S.held=fun _=>[]
 fli:S.fli=List.replicate S.AO (-1)
 lh:S.lh=fun _=>0
section
variable {w:WD}{k:Nat}{S:AL}{fp:Prt->Nat->Prop}{rt lf cnt:Nat}{pg:Nat->Option Nat}
theorem AJ.HF(h:AJ w k S fp){i:Nat}(hi:i<S.nodes):CQ 0 (S.L i) (S.c (18+i)).toNat:=by
 obtain⟨Z,hc,hk⟩:=h.zn;have:=(Z.iv i (by omega)).tl;unfold Zs.n at this;rw [hc] at this;exact this
theorem AJ.fst(h:AJ w k S fp){i:Nat}(hi:i<S.nodes):0<=AN S.c i/\AN S.c (i+1)=AN S.c i+S.c (18+i)/\4<=S.c (18+i)/\S.c (18+i)<=128/\AN S.c (i+1)<=S.n:=by
 have hn:=h.n4;have hs:=h.BO.1.2.2;have h1:=IA h.my (i:=0) (j:=i) (by omega) (by unfold AL.nodes at hi;omega);have h2:=IA h.my (i:=i+1) (j:=(S.c 0).toNat) (by unfold AL.nodes at hi;omega) (nlr _);have h3:=(h.my.2.2.2.2.2.1 i (by unfold AL.nodes at hi;omega)).1;exact⟨h1,rfl,h3.1,h3.2,by omega⟩
end
section
variable {w:WD}{k:Nat}{S:AL}{fp:Prt->Nat->Prop}{rt lf cnt:Nat}{pg:Nat->Option Nat}{hd:Option Nat}
theorem J1{mk:Nat->Mark}{n f:Nat}{x:Mark}(hf:f<n)(hx:mayM x=true):smE n (f:Int) x=0/\smS mk n (f:Int) x=upd mk f x:=by
 have:smE n (f:Int) x=0:=by unfold smE;rw [if_neg (by omega),if_pos hx]
 refine⟨this,?_⟩;unfold smS;rw [if_pos this,tnc]
end
theorem owns_upd{of:Nat->Int×Int}{p:Nat}{v:Int×Int}(hv:v.1≠0):∀{n:Nat},(of p).1=0->(owns n (upd of p v)).length=(owns n of).length+(if p<n then 1 else 0)
 | 0,_=>by simp [owns]
 | n+1,h=>by
  have ih:=owns_upd hv (n:=n) h;rw [GK,GK,lap,lap,ih];by_cases e:n=p
  ·subst e;simp [upd_same,h,hv]
  ·have e2:upd of p v n=of n:=AH _ _ e;rw [e2];have:(if p<n+1 then 1 else 0)=(if p<n then 1 else 0):=by
    by_cases h1:p<n
    ·rw [if_pos h1,if_pos (by omega)]
    ·rw [if_neg h1,if_neg (by omega)]
   rw [this];omega
section
variable {w:WD}{k:Nat}{S:AL}{fp:Prt->Nat->Prop}{rt lf cnt:Nat}{pg:Nat->Option Nat}
theorem look_app{M:List ((Int×Int)×Value)}{a b:Int×Int}{v:Value}:(M++[(a,v)]).lookup b=match M.lookup b with|some x=>some x|none=>if b=a then some v else none:=by
 rw [List.lookup_append]
 cases M.lookup b with
 | some x=>rfl
 | none=>
  by_cases h:b=a
  ·subst h;simp
  ·have:(b==a)=false:=by simpa using h
   simp [List.lookup_cons,this,h]
theorem look_appI{M:List (Int×Value)}{a b:Int}{v:Value}:(M++[(a,v)]).lookup b=match M.lookup b with|some x=>some x|none=>if b=a then some v else none:=by
 rw [List.lookup_append]
 cases M.lookup b with
 | some x=>rfl
 | none=>
  by_cases h:b=a
  ·subst h;simp
  ·have:(b==a)=false:=by simpa using h
   simp [List.lookup_cons,this,h]
end
theorem takeR_e0{l l':List Bk}{high:Bool}{a e:Int}(hs:0<AX l)(T:ES l 0 high a e l'):e=0:=by
 rcases T with⟨h,_⟩|⟨o,h0,_,h,_⟩|⟨_,_,_,_,_,_,_,_,_,_,_,h,_⟩
 ·omega
 ·obtain⟨x,hx,hg⟩:=fsum_free hs;have:=h x hx hg;omega
 ·exact h
section
variable {w w':WD}{k:Nat}{S:AL}{fp:Prt->Nat->Prop}
theorem core_hold(h:AJ w k S fp){cpu:Nat}(hc:cpu<S.AO)(fr:Int)(hl:∀i,i<S.AO->(S.held i).length<=100000) :
 Calls prog 241 #[ptr k,vi cpu,vi fr] w fun e w'=>e=.returned (.tuple #[])/\Step w w' k (EU S (upd S.held cpu (S.held cpu++[fr]))) fp:=by
 refine(hold_spec h cpu fr hl).mono ?_;rintro e w' ⟨he,kk,fp',C',f'⟩;rw [if_pos (by omega),tnc] at C';exact⟨he,kk.mono fun x _ hx=>⟨_,hx⟩,fp',C',f'⟩
theorem core_free(h:AJ w k S fp){i:Nat}(hi:i<S.nodes):Calls prog 11 #[ptr S.pz,vi i] w fun e w'=>e=.returned (vi (AX (S.L i):Nat))/\w'=w:=by
 obtain⟨Z,hc,hk⟩:=h.zn;refine(zfree_spec Z i).mono ?_;rintro e w' ⟨he,hw⟩;rw [zfr_in (by omega)] at he;exact⟨he,hw⟩
def NI(role:Int):Mark:=⟨role,0,0,0,0⟩
def AL.taken(S:AL)(cpu i:Nat)(f:Nat)(l':List Bk)(role:Int):AL:=
 {S with L:=upd S.L i l',by':=D4 S.by' (f*256) 256,mks:=upd S.mks f (NI role),held:=upd S.held cpu (S.held cpu++[(f:Int)])}
theorem stake_spec(h:AJ w k S fp){cpu i:Nat}(hc:cpu<S.AO)(hi:i<S.nodes){role:Int}(hr:1<=role/\role<=5)(high:Bool)(hl:∀i,i<S.AO->(S.held i).length<=100000) :
 Calls prog 196 #[ptr k,vi cpu,vi i,.int .u8 role,.bool high] w fun e w'=>
  ((AX (S.L i):Int)<=S.c 91/\e=.returned (.tuple #[vi 0,.bool false])/\Kept AB w w')\/
  (S.c 91<(AX (S.L i):Int)/\∃(f:Nat) (l':List Bk),e=.returned (.tuple #[vi f,.bool true])/\AN S.c i<=f/\(f:Int)<AN S.c (i+1)/\ES (S.L i) 0 high ((f:Int)-AN S.c i) 0 l'/\Step w w' k (S.taken cpu i f l' role) fp):=by
 refine Calls.ret (vc196 _ cpu i role high w _ ?_);have hn:=h.n4;have hfi:=h.fst hi;have hm0:=h.my;unfold Q;intro w1 e1;have k1:=kdr e1;have C1:=h.k k1;have r91:∀{W:WD},Kept AB w W->rd W k (0+91)=some (vi (S.c 91)):=fun kk=>by
  obtain⟨o,_⟩:own _ k (cfg S.c++IQ S)/\_:=(h.k kk).at' .core;rw [za,o.rd,gal (by simp [cfg,AI])];unfold cfg;rw [AT _ _ _ _ _ (by omega),za]
 refine AA rfl ⟨_,by have:=C1.rtW kr (j:=1) rfl;exact this,AA rfl ⟨_,r91 k1,(core_free C1 hi).mono ?_⟩⟩;rintro _ w2 ⟨rfl,hw2⟩;rw [hw2];refine⟨_,rfl,⟨r91 k1,trivial⟩,AE (fun hc2=>.inl ⟨by simpa using hc2,rfl,k1⟩) (fun hc2=>?_)⟩;have hgt:S.c 91<(AX (S.L i):Int):=by simpa using hc2
 have hpos:0<AX (S.L i):=by have:=hm0.2.2.2.2.2.2.2.1;omega
 refine AA rfl ⟨_,by have:=C1.rtW kr (j:=1) rfl;exact this,(HU C1 hi 0 high).mono ?_⟩;rintro _ w3 ⟨a,er,l',rfl,T3,R⟩;obtain rfl:=takeR_e0 hpos R;obtain⟨r,rfl,hrn,_⟩:=GI (h.HF hi) R;have ef:AN S.c i+(r:Int)=(((AN S.c i).toNat+r:Nat):Int):=by omega
 generalize hf:(AN S.c i).toNat+r=f at *;have hfn:f<S.n:=by omega
 obtain⟨fp3,C3,f3⟩:=T3.ex;have T03:=(h.JE k1).tr (fun _ _=>.inl) T3;have f03:∀p x,fp3 p x->fp p x\/rng w w3 x:=fun p x hx=>(f3 p x hx).imp id fun e=>⟨by have:=k1.sz;have:=e.1;omega,e.2⟩;rw [if_pos rfl,ef];refine⟨_,_,rfl,AG rfl (AA rfl ⟨_,by have:=C3.rtW kr (j:=0) rfl;exact this,(core_clear C3 (f:=f) hfn).mono ?_⟩)⟩;rintro _ w4 ⟨rfl,T4⟩;obtain⟨fp4,C4,f4⟩:=T4.ex;have T04:=T03.tr f03 T4;have f04:∀p x,fp4 p x->fp p x\/rng w w4 x:=fun p x hx=>by
  have s3:=T03.kp.sz;have s4:=T4.kp.sz;rcases f4 p x hx with h1|h1
  ·exact(f03 p x h1).imp id fun e=>⟨e.1,by have:=e.2;omega⟩
  ·exact .inr ⟨by have:=h1.1;omega,h1.2⟩
 obtain⟨hse,hss⟩:=J1 (mk:=S.mks) (n:=S.n) (x:=NI role) hfn (by unfold mayM NI;simp;omega);refine⟨_,rfl,AA rfl ⟨_,by have:=C4.rtW kr (j:=0) rfl;exact this,(EJ C4 f (NI role)).mono ?_⟩⟩;rintro _ w5 ⟨rfl,T5⟩;obtain⟨fp5,C5,f5⟩:=T5.ex;have T05:=T04.tr f04 T5;have f05:∀p x,fp5 p x->fp p x\/rng w w5 x:=fun p x hx=>by
  have s3:=T04.kp.sz;have s4:=T5.kp.sz;rcases f5 p x hx with h1|h1
  ·exact(f04 p x h1).imp id fun e=>⟨e.1,by have:=e.2;omega⟩
  ·exact .inr ⟨by have:=h1.1;omega,h1.2⟩
 refine⟨_,rfl,(core_hold C5 (cpu:=cpu) hc f hl).mono ?_⟩;rintro _ w6 ⟨rfl,T6⟩;refine⟨rfl,.inr ⟨hgt,f,l',rfl,by omega,by omega,?_,?_⟩⟩
 ·rw [show(f:Int)-AN S.c i=(r:Nat) by omega];exact R
 ·have T06:=T05.tr f05 T6;have e:smS S.mks S.n f (NI role)=upd S.mks f (NI role):=hss;have:EU ((((S.JH (upd S.L i l')).J9 (D4 S.by' (f*256) 256))).GQ (smS S.mks S.n f (NI role))) (upd S.held cpu (S.held cpu++[(f:Int)]))=S.taken cpu i f l' role:=by rw [e];rfl
  rw [<- this];exact T06
end
structure Nds(w:WD)(FR:NP)(a:OA)(l c:Nat)(xs:List Nat):Prop where
 len:l=xs.length
 lc:l<=c
 mx:c<=maxLen
 el:0<l->∃b o,a=some ⟨b,o,none⟩/\FR b/\∀i x,xs[i]? = some x->rd w b (o+i)=some (vi (x:Nat))
theorem Nds.to{w w2:WD}{FR G:NP}{a:OA}{l c:Nat}{xs:List Nat}(h:Nds w FR a l c xs)(k:Kept (fun x=>¬FR x) w w2)(hG:∀x,FR x->G x):Nds w2 G a l c xs:=
 ⟨h.len,h.lc,h.mx,fun hl=>by
  obtain⟨b,o,e,hb,hr⟩:=h.el hl;exact⟨b,o,e,hG b hb,fun i x hx=>k.rd_some (hr i x hx) fun hn=>hn hb⟩⟩
theorem Nds.tail{w:WD}{FR:NP}{a:OA}{l c:Nat}{x:Nat}{xs:List Nat}(h:Nds w FR a l c (x::xs)):Nds w FR (BJ a c 1 1) (l-1) (c-1) xs:=by
 have hl:=h.len;have hc:=h.lc;have hm:=h.mx;rw [List.length_cons] at hl;refine⟨by omega,by omega,by omega,fun hp=>?_⟩;obtain⟨b,o,rfl,hb,hr⟩:=h.el (by omega);refine⟨b,o+1,?_,hb,fun i y hy=>?_⟩
 ·unfold BJ;rw [if_neg (by omega)]
  show some (Addr.add ⟨b,o,none⟩ 1)=_
  rw [Addr.add_lit]
 ·rw [Nat.add_assoc,Nat.add_comm 1 i];exact hr (i+1) y (by simpa using hy)
theorem GY{v:Value}(h:isF v=true):okF v=true:=by cases v <;> simp [isF] at h;rfl
structure Mv(k:Nat)(fp:Prt->Nat->Prop)(FR:NP)(w:WD)(S':AL)(fp':Prt->Nat->Prop)(w':WD):Prop where
 X:Ctx k S' fp' FR w'
 L:Ltr w fp FR w' fp'
 K:Kept (fun x=>∃p,fp p x) w w'
 F:∀x,Fo fp' FR x->Fo fp FR x\/rng w w' x
section
variable {k:Nat}{FR:NP}
theorem Ctx.mv{w w':WD}{S S':AL}{fp:Prt->Nat->Prop}(h:Ctx k S fp FR w)(T:Step w w' k S' fp):∃fp',Mv k fp FR w S' fp' w':=by
 obtain⟨fp',a,b,c,d⟩:=h.step T;exact⟨fp',a,b,c,d⟩
theorem Ctx.mv0{w w':WD}{S:AL}{fp:Prt->Nat->Prop}(h:Ctx k S fp FR w)(kk:Kept AB w w'):Mv k fp FR w S fp w':=
 ⟨h.kept kk,⟨kk.mono fun _ _ e=>e.elim,fun _ _ h=>.inl h⟩,kk.mono fun _ _ e=>e.elim,fun _ h=>.inl h⟩
theorem Mv.tr{w w1 w2:WD}{S1 S2:AL}{fp fp1 fp2:Prt->Nat->Prop}(h:Mv k fp FR w S1 fp1 w1)(h2:Mv k fp1 FR w1 S2 fp2 w2):Mv k fp FR w S2 fp2 w2:=by
 have s1:=h.K.sz;have s2:=h2.K.sz;refine⟨h2.X,h.L.trans h2.L,h.K.trans h2.K fun x hx ⟨p,hp⟩=>?_,fun x hx=>?_⟩
 ·rcases h.L.fp p x hp with h3|h3
  ·exact⟨p,h3⟩
  ·omega
 ·rcases h2.F x hx with h3|h3
  ·rcases h.F x h3 with h4|h4
   ·exact .inl h4
   ·exact .inr ⟨h4.1,by have:=h4.2;omega⟩
  ·exact .inr ⟨by have:=h3.1;omega,h3.2⟩
theorem Mv.kC{w w1:WD}{S1:AL}{S:AL}{fp fp1:Prt->Nat->Prop}{C:NP}(h:Mv k fp FR w S1 fp1 w1)(X:Ctx k S fp FR w)(hC:∀x,C x->FR x):Kept (fun x=>Fo fp FR x/\¬C x) w w1:=
 h.K.mono fun x _ ⟨p,hp⟩=>⟨.inl ⟨p,hp⟩,fun hc=>X.dj p x hp (hC x hc)⟩
theorem Nx.out{N:Nat}{Q:Fin}{F:NP}{w w':WD}{e:Ending}(h:Nx N Q F w e w'):∃v,e=.returned v/\Nx N Q F w (.returned v) w':=by
 obtain⟨v,F',rfl,h⟩:=h;exact⟨v,rfl,v,F',rfl,h⟩
set_option maxHeartbeats 2000000 in
theorem stry_spec{N:Nat}{Q:Fin}{cpu:Nat}{role:Int}(hr:1<=role/\role<=5){high:Bool}{th:Value}(ht:isF th=true):∀(xs:List Nat) {w:WD}{S:AL}{fp:Prt->Nat->Prop}{FR:NP}{a:OA}{l c:Nat}
 (hC:∀x,Q.C x->FR x) (X:Ctx k S fp FR w) (hz:S.lh=fun _=>0) (hc:cpu<S.AO) (hh:∀i,i<S.AO->(S.held i).length<=100000) (R:Nds w FR a l c xs) (hx:∀x∈xs,x<S.nodes)
 (H0:(∀x∈xs,(AX (S.L x):Int)<=S.c 91)->∀w2 fp2,Ctx k S fp2 FR w2->Ltr w fp FR w2 fp2->AM prog th [vi (-1),vi 6] w2 (Nx N Q (Fo fp2 FR) w2))
 (H1:∀(xs1 xs2:List Nat) (i f:Nat) (l':List Bk),xs=xs1++i::xs2->(∀x∈xs1,(AX (S.L x):Int)<=S.c 91)->S.c 91<(AX (S.L i):Int)->AN S.c i<=f->(f:Int)<AN S.c (i+1)->ES (S.L i) 0 high ((f:Int)-AN S.c i) 0 l'->
  ∀w2 fp2,Ctx k (S.taken cpu i f l' role) fp2 FR w2->Ltr w fp FR w2 fp2->AM prog th [vi f,vi 0] w2 (Nx N Q (Fo fp2 FR) w2)),
 Calls prog 121 #[ptr k,vi cpu,.slice a l c,.int .u8 role,.bool high,th] w (Nx (N+2*xs.length+1) Q (Fo fp FR) w):=by
 intro xs
 induction xs with
 | nil=>
  intro w S fp FR a l c hC X hz hc hh R hx H0 H1;obtain rfl:l=0:=R.len;refine Calls.ret (vc121 _ cpu a 0 c role high th w _ ?_);apply qI;rw [show Value.cells th=[th].toArray from EV (GY ht)];intro w1 e1 w2 e2 w3 e3 w4 e4 w5 e5 w6 e6;have o3:=AD e3;have o6:=AD e6;have k3:Kept AB w w3:=((kr.al e1).al e2).al e3;have k36:Kept AB w3 w6:=((kr.al e4).al e5).al e6;have k5:Kept AB w w5:=(k3.al e4).al e5;have K6:=k3.tr k36;refine⟨_,_,_,by rw [(o3.k k36).rd];rfl,AA rfl ⟨_,fun x=>Fo fp FR x\/rng w w6 x,rfl,rfl,K6.mono fun _ _ e=>e.elim,fun x hx=>hx,Ends.step rfl fun W kW=>?_⟩⟩;have XW:Ctx k S fp FR W:=(X.kept K6).env (fun x hx=>.inl hx) kW;have oW:own W w5.heap.size [th]:=o6.kx kW fun hn=>hn (.inr ⟨k5.sz,o6.lt⟩);refine AM.mk 194 #[] _ rfl (by kernel_rfl) (Calls.ret (vc194 false (some ⟨w5.heap.size,0,none⟩) W _ ?_));apply qI;refine AA rfl ⟨th,by show rd W w5.heap.size 0=_;rw [oW.rd];rfl,AQ (H0 (fun _ h=>by cases h) W fp XW ⟨(K6.mono fun _ _ e=>e.elim).trans kW fun x _ hn hf=>hn (.inl (.inr hf)),fun _ _ h=>.inl h⟩) ?_⟩;rintro e W2 hN;obtain⟨v,F',rfl,g2,g3,g4,g5⟩:=hN;exact⟨v,rfl,v,F',rfl,g2,g3.mono fun x _ hx=>⟨.inl hx.1,hx.2⟩,fun x hx=>(g4 x hx).imp .inl id,g5⟩
 | cons x xs ih=>
  intro w S fp FR a l c hC X hz hc hh R hx H0 H1;obtain⟨b,o,rfl,hb,hrd⟩:=R.el (by rw [R.len];simp);have hl:l=xs.length+1:=R.len;have hlc:=R.lc;have hmx:=R.mx;have hs:=X.C.BO;have hxn:=hx x mcs;refine Calls.ret (vc121 _ cpu _ l c role high th w _ ?_);apply qI;rw [show Value.cells th=[th].toArray from EV (GY ht)];intro w1 e1 w2 e2 w3 e3 w4 e4 w5 e5 w6 e6;have o1:=AD e1;have o2:=AD e2;have o3:=AD e3;have o4:=AD e4;have o5:=AD e5;have o6:=AD e6;have k1:=kal e1;have k2:=kal e2;have k3:=kal e3;have k4:=kal e4;have k5:=kal e5;have k6:=kal e6;have s1:=k1.sz;have s2:=k2.sz;have s3:=k3.sz;have s4:=k4.sz;have s5:=k5.sz;have s6:=k6.sz;have K6:Kept AB w w6:=((((k1.tr k2).tr k3).tr k4).tr k5).tr k6;have p1:own w6 w.heap.size [ptr k]:=((((o1.k k2).k k3).k k4).k k5).k k6;have p2:own w6 w1.heap.size [vi cpu]:=(((o2.k k3).k k4).k k5).k k6;have p3:own w6 w2.heap.size [.slice (some ⟨b,o,none⟩) l c]:=((o3.k k4).k k5).k k6;have p4:own w6 w3.heap.size [.int .u8 role]:=(o4.k k5).k k6;have p5:own w6 w4.heap.size [.bool high]:=o5.k k6;have r3:rd w6 w2.heap.size 0=some (.slice (some ⟨b,o,none⟩) l c):=by rw [p3.rd];rfl
  refine⟨_,_,_,r3,AG (by simp;omega) ⟨_,_,_,r3,AA rfl (Wi ⟨x,K6.rd_some (hrd 0 x rfl) id,fun w7 e7=>?_⟩)⟩⟩;have o7:=AD e7;have k7:=kal e7;refine⟨o7.wr (by decide),fun w8 e8 w9 e9=>?_⟩;have o8:own w8 w6.heap.size [vi (IntKind.wrap .i64 (9+x))]:=o7.s1 e8;have k78:Kept (·=w6.heap.size) w7 w8:=e8▸kr.st (.inl rfl);have k68:Kept AB w6 w8:=BD k7 k78 fun y e=>by omega
  have k69:Kept AB w6 w9:=k68.dr e9;have K9:Kept AB w w9:=K6.tr k69;have q7:own w9 w6.heap.size [vi ((9+x:Nat):Int)]:=by
   have:=o8.dr e9;rw [wi (by omega)] at this;exact this
  have q1:=p1.k k69;have q2:=p2.k k69;have q3:=p3.k k69;have q4:=p4.k k69;have q5:=p5.k k69;have q6:=o6.k k69;have z6:=p3.lt;have z9:=k69.sz;have z7:=q7.lt;clear e1 e2 e3 e4 e5 e6 e7 e8 e9 o1 o2 o3 o4 o5 o6 o7 o8 p1 p2 p3 p4 p5 r3 k78 k68;generalize w1.heap.size=b1 at *;generalize w2.heap.size=b2 at *;generalize w3.heap.size=b3 at *;generalize w4.heap.size=b4 at *;generalize w5.heap.size=b5 at *;generalize w6.heap.size=b6 at *;have X9:=X.more K9;have N9:∀y,(w.heap.size<=y/\y<w9.heap.size)->(FR y\/rng w w9 y):=fun y h=>.inr h;refine⟨some ⟨k,0,none⟩,by rw [q1.rd];rfl,AA rfl ⟨some ⟨S.pl,0,none⟩,by have:=X9.C.rtW kr (j:=3) rfl;exact this,cpu,by rw [q2.rd];rfl,((9+x:Nat):Int),by rw [q7.rd];rfl,?_⟩⟩;refine(OE (N:=N+2*xs.length+2) (Q:=Q) (fun y hy=>.inl (hC y hy)) X9 (who:=cpu) (i:=9+x) (by omega) (by omega) (by rw [hz]) (fun j _ _=>by rw [hz];show(0:Int)≠_;omega) rfl ?_).mono ?_
  rotate_left
  ·intro e w' hN;refine(Nx.pre (F:=Fo fp FR) (K9.mono fun _ _ e=>e.elim) (fun y hy=>?_) (hN.le (by simp;omega))).out;rcases hy with h|h|h
   ·exact .inl (.inl h)
   ·exact .inl (.inr h)
   ·exact .inr h
  intro w10 fp10 X10 L10;refine Ends.step rfl fun W kW=>?_;have XW:=X10.env (fun _ h=>h) kW;have cell:∀{y:Nat}{cs:List Value},own w9 y cs->w.heap.size<=y->own W y cs:=fun oy hy=>(oy.kx L10.kp fun hn=>hn (N9 _ ⟨hy,oy.lt⟩)).kx kW fun hn=>hn (.inr (N9 _ ⟨hy,oy.lt⟩));have c1:=cell q1 (nlr _);have c2:=cell q2 (by omega);have c3:=cell q3 (by omega);have c4:=cell q4 (by omega);have c5:=cell q5 (by omega);have c6:=cell q6 (by omega);have c7:=cell q7 (by omega);have LW:Ltr w fp FR W fp10:=by
   refine⟨((K9.mono (Y:=fun y=>¬FR y) fun _ _ e=>e.elim).trans (L10.kp.mono fun y _ hn hf=>hn (.inl hf)) fun _ _ h=>h).trans (kW.mono fun y _ hn hf=>hn (.inr (.inl hf))) fun _ _ h=>h,fun p y hp=>(L10.fp p y hp).imp id fun e=>by have:=K9.sz;omega⟩
  have RW:Nds W FR (some ⟨b,o,none⟩) l c (x::xs):=R.to LW.kp fun _ h=>h;have elh:unl (upd S.lh (9+x) ((cpu:Int)+1)) [9+x] 0=S.lh:=by
   funext j;unfold unl;rw [hz];by_cases e:j=9+x
   ·rw [if_pos (by simp [e])]
   ·rw [if_neg (by simpa using e),AH _ _ e]
  refine AM.mk 195 #[] _ rfl (by kernel_rfl) (Calls.ret (vc195 false (some ⟨w.heap.size,0,none⟩) (some ⟨b1,0,none⟩) (some ⟨b2,0,none⟩) (some ⟨b3,0,none⟩) (some ⟨b4,0,none⟩) (some ⟨b6,0,none⟩) (some ⟨b5,0,none⟩) W _ ?_));unfold vcP195;intro W1 eW1;have kW1:=kdr eW1;have M1:=XW.mv0 kW1;have rr:∀{y:Nat}{v:Value}{W':WD},own W y [v]->(FR y\/rng w w9 y)->Kept (fun z=>¬(FR z\/rng w w9 z)) W W'->rd W' y 0=some v:=fun oy hy kk=>by
   rw [(oy.kx kk fun hn=>hn hy).rd];rfl
  have i1:=N9 w.heap.size (by omega);have i2:=N9 b1 (by omega);have i3:=N9 b2 (by omega);have i4:=N9 b3 (by omega);have i5:=N9 b4 (by omega);have i6:=N9 b5 (by omega);have i7:=N9 b6 (by omega);have m1:=M1.L.kp;have first:∀{W':WD},Kept (fun z=>¬(FR z\/rng w w9 z)) W W'->rd W' b o=some (vi (x:Nat)):=fun kk=>by
   obtain⟨b',o',e,hb',h⟩:=RW.el (by omega)
   cases e
   exact kk.rd_some (h 0 x rfl) fun hn=>hn (.inl hb')
  refine AA rfl ⟨_,rr c1 i1 m1,AA rfl ⟨_,rr c2 i2 m1,AA rfl ⟨_,_,_,rr c3 i3 m1,AA rfl (Wi ⟨x,first m1,AA rfl ⟨_,rr c4 i4 m1,AA rfl ⟨_,rr c5 i5 m1,(stake_spec M1.X.C (cpu:=cpu) (i:=x) hc hxn hr high hh).mono ?_⟩⟩⟩)⟩⟩⟩;rintro _ W2 (⟨g1,rfl,k12⟩|⟨g1,f,l',rfl,g2,g3,g4,T2⟩)
  ·have M2:=M1.tr (M1.X.mv0 k12);have m2:=M2.L.kp;refine⟨_,_,rfl,AA rfl ⟨_,rr c1 i1 m2,AA rfl ⟨_,rr c2 i2 m2,AA rfl ⟨_,rr c7 i7 m2,fun W3 e3=>?_⟩⟩⟩⟩;have o3:=AD e3;have k23:=kal e3;have M3:=M2.tr (M2.X.mv0 k23)
   refine(J2 M3.X.C (who:=cpu) (b:=W2.heap.size) (n:=1) (xs:=[9+x]) o3 (fun p hp=>by have:=(M2.X.C.lt p _ hp).2;omega) rfl (by simp) (by omega) (by simp) (fun y hy=>by
    simp at hy;subst hy;exact⟨by show 9+x<9+S.nodes;omega,by show upd S.lh (9+x) _ (9+x)=_;rw [upd_same]⟩)).mono ?_
   rintro _ W4 ⟨rfl,T4⟩;have eS:(S.DX (upd S.lh (9+x) ((cpu:Int)+1))).DX (unl (S.DX (upd S.lh (9+x) ((cpu:Int)+1))).lh [9+x] 0)=S:=by
    show S.DX (unl (upd S.lh (9+x) ((cpu:Int)+1)) [9+x] 0)=S
    rw [elh]
   rw [eS] at T4;obtain⟨fp4,M34⟩:=M3.X.mv T4;have M4:=M3.tr M34;refine⟨rfl,AG rfl fun W5 e5=>?_⟩;have M5:=M4.tr (M4.X.mv0 (kr.dr e5));have m5:=M5.L.kp;refine AA rfl ⟨_,rr c1 i1 m5,AA rfl ⟨_,rr c2 i2 m5,AA rfl ⟨_,_,_,rr c3 i3 m5,AA BI (AA rfl ⟨_,rr c4 i4 m5,AA rfl ⟨_,rr c5 i5 m5,AA rfl ⟨_,rr c6 i6 m5,?_⟩⟩⟩)⟩⟩⟩;have L5:Ltr w fp FR W5 fp4:=LW.trans (M5.L.less fun _ h=>.inl h);have R5:=(R.to L5.kp fun _ h=>h).tail;refine(ih hC (M5.X.less fun _ h=>.inl h) hz hc hh R5 (fun y hy=>hx y (mcm _ hy)) (fun hf w2 fp2 X2 L2=>?_) (fun xs1 xs2 i f l' e hf hg g2 g3 g4 w2 fp2 X2 L2=>?_)).mono ?_
   ·exact H0 (fun y hy=>by
     rcases List.mem_cons.1 hy with rfl|hy
     ·exact g1
     ·exact hf y hy) w2 fp2 X2 (L5.trans L2)
   ·exact H1 (x::xs1) xs2 i f l' (by rw [e];rfl) (fun y hy=>by
     rcases List.mem_cons.1 hy with rfl|hy
     ·exact g1
     ·exact hf y hy) hg g2 g3 g4 w2 fp2 X2 (L5.trans L2)
   ·intro e w' hN;refine(Nx.pre (M5.kC XW fun z hz'=>.inl (hC z hz')) (fun y hy=>?_) hN).out;rcases hy with h|h
    ·exact M5.F y (.inl h)
    ·exact .inl (.inr (.inl h))
  ·obtain⟨fp2,M12⟩:=M1.X.mv T2;have M2:=M1.tr M12;have m2:=M2.L.kp;refine⟨_,_,rfl,AA rfl ⟨_,rr c1 i1 m2,AA rfl ⟨_,rr c2 i2 m2,AA rfl ⟨_,rr c7 i7 m2,fun W3 e3=>?_⟩⟩⟩⟩;have o3:=AD e3;have k23:=kal e3;have M3:=M2.tr (M2.X.mv0 k23)
   refine(J2 M3.X.C (who:=cpu) (b:=W2.heap.size) (n:=1) (xs:=[9+x]) o3 (fun p hp=>by have:=(M2.X.C.lt p _ hp).2;omega) rfl (by simp) (by omega) (by simp) (fun y hy=>by
    simp at hy;subst hy;exact⟨by show 9+x<9+S.nodes;omega,by show upd S.lh (9+x) _ (9+x)=_;rw [upd_same]⟩)).mono ?_
   rintro _ W4 ⟨rfl,T4⟩;have eS:((S.DX (upd S.lh (9+x) ((cpu:Int)+1))).taken cpu x f l' role).DX (unl ((S.DX (upd S.lh (9+x) ((cpu:Int)+1))).taken cpu x f l' role).lh [9+x] 0)=S.taken cpu x f l' role:=by
    show((S.DX (upd S.lh (9+x) ((cpu:Int)+1))).taken cpu x f l' role).DX (unl (upd S.lh (9+x) ((cpu:Int)+1)) [9+x] 0)=_
    rw [elh]
    rfl
   rw [eS] at T4;obtain⟨fp4,M34⟩:=M3.X.mv T4;have M4:=M3.tr M34;have m4:=M4.L.kp;refine⟨rfl,AA rfl (AA rfl ⟨_,rr c6 i6 m4,AQ (H1 [] xs x f l' rfl (fun y hy=>by cases hy) g1 g2 g3 g4 W4 fp4 (M4.X.less fun _ h=>.inl h) (LW.trans (M4.L.less fun _ h=>.inl h))) ?_⟩)⟩;intro e w' hN;refine(Nx.pre (M4.kC XW fun z hz'=>.inl (hC z hz')) (fun y hy=>?_) (hN.le (by omega))).out;rcases hy with h|h
   ·exact M4.F y (.inl h)
   ·exact .inl (.inr (.inl h))
end
end Go.Proofs.YtdgbechegbmpcaaGreatDoor
