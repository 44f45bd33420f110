/- Part of a proof that a law returns true. Conditions: those in each theorem. -/
import Derived.Test.YtdgbechegbmpcaaGreatDoorMV3
import Derived.Test.YtdgbechegbmpcaaGreatDoorXV4
set_option linter.unusedSimpArgs false
set_option linter.unusedVariables false
set_option maxRecDepth 100000
namespace Go.Proofs.YtdgbechegbmpcaaGreatDoor
open Go Go.Eng Go.Proofs.Tryz
def CZ(by':Nat->Int)(n:Nat)(root:Int)(q:Nat):List (Int×Int):=(List.range q).filterMap fun i:Nat=>if lfE by' n root ((i:Int)*32)=0 then some ((i:Int),lfN by' n root ((i:Int)*32)) else none
def D9(by':Nat->Int)(n:Nat)(root:Int)(q:Nat):List FK:=(List.range q).filterMap fun i:Nat=>if gtE by' n root (i:Int)=0/\gtK by' n root (i:Int)≠0 then some ⟨(i:Int),gtK by' n root (i:Int),gtN by' n root (i:Int)⟩ else none
theorem KU(by':Nat->Int)(n:Nat)(root:Int)(q:Nat):CZ by' n root (q+1)=CZ by' n root q++(if lfE by' n root ((q:Int)*32)=0 then [((q:Int),lfN by' n root ((q:Int)*32))] else []):=by
 unfold CZ;rw [List.range_succ,List.filterMap_append];congr 1;by_cases h:lfE by' n root ((q:Int)*32)=0 <;> simp [h]
theorem GB(by':Nat->Int)(n:Nat)(root:Int)(q:Nat):D9 by' n root (q+1)=D9 by' n root q++(if gtE by' n root (q:Int)=0/\gtK by' n root (q:Int)≠0 then [⟨(q:Int),gtK by' n root (q:Int),gtN by' n root (q:Int)⟩] else []):=by
 unfold D9;rw [List.range_succ,List.filterMap_append];congr 1;by_cases h:gtE by' n root (q:Int)=0/\gtK by' n root (q:Int)≠0
 ·simp only [if_pos h,List.filterMap_cons,List.filterMap_nil]
 ·simp only [if_neg h,List.filterMap_cons,List.filterMap_nil]
theorem leavesOf_len(by':Nat->Int)(n:Nat)(root:Int)(q:Nat):(CZ by' n root q).length<=q:=Nat.le_trans (List.length_filterMap_le _ _) (by simp)
theorem pagesOf_len(by':Nat->Int)(n:Nat)(root:Int)(q:Nat):(D9 by' n root q).length<=q:=Nat.le_trans (List.length_filterMap_le _ _) (by simp)
theorem NC(by':Nat->Int)(n:Nat)(root:Int)(q:Nat):∀{m:Nat},q<=m->∃r,CZ by' n root m=CZ by' n root q++r
 | 0,h=>⟨[],by rw [show q=0 by omega];simp⟩
 | m+1,h=>by
  by_cases e:q=m+1
  ·exact⟨[],by rw [e];simp⟩
  ·obtain⟨r,hr⟩:=NC by' n root q (m:=m) (by omega);exact⟨r++_,by rw [KU,hr,List.append_assoc]⟩
theorem P8(by':Nat->Int)(n:Nat)(root:Int)(q:Nat):∀{m:Nat},q<=m->∃r,D9 by' n root m=D9 by' n root q++r
 | 0,h=>⟨[],by rw [show q=0 by omega];simp⟩
 | m+1,h=>by
  by_cases e:q=m+1
  ·exact⟨[],by rw [e];simp⟩
  ·obtain⟨r,hr⟩:=P8 by' n root q (m:=m) (by omega);exact⟨r++_,by rw [GB,hr,List.append_assoc]⟩
theorem at_len{α:Type}{l l' r:List α}{x:α}(h:l'=(l++[x])++r):l'[l.length]? = some x:=by rw [h];simp
def memR(c1 c2 m bb mb:Nat)(x:Nat):Prop:=x=c1\/x=c2\/x=m\/x=bb\/x=mb
section
variable {w:WD}{m bb mb:Nat}{c:Nat->Int}{n:Nat}{by':Nat->Int}{mk:Nat->Mark}
theorem FJ{Y:NP}{W W':WD}{b:Nat}{cs:List Value}(k:DA Y W W')(hb:Y b)(o:own W b cs):own W' b cs:=by
 obtain⟨t,h⟩:=o;exact⟨t,(k.blk b hb).trans h⟩
theorem BM.kY{Y:NP}{W W':WD}(h:BM W m bb mb c n by' mk)(k:DA Y W W')(h1:Y m)(h2:Y bb)(h3:Y mb):BM W' m bb mb c n by' mk:=⟨FJ k h1 h.so,FJ k h2 h.bs,FJ k h3 h.ms,h.ne⟩
theorem leaves_gives(h:BM w m bb mb c n by' mk)(hb:ByR by')(hn:n<=1024){c1 c2:Nat}{root:Int}(o1:own w c1 [ptr m])(o2:own w c2 [vi root]) :
 DW prog 257 [ptr c1,ptr c2] ((CZ by' n root 32).map fun x=>[vi x.1,vi x.2]) (memR c1 c2 m bb mb) w:=by
 refine⟨fun y J Jx W hk hab habx hY h0=>?_⟩;refine(vc257 y (some ⟨c1,0,none⟩) (some ⟨c2,0,none⟩) W (fun v w'=>(∃Y,J Y ((CZ by' n root 32).map fun x=>[vi x.1,vi x.2]).length w')\/∃Y,Jx Y w') ?_).mono ?_
 rotate_left
 ·rintro e w' ⟨v,rfl,hw⟩;exact⟨⟨v,rfl⟩,hw⟩
 unfold Q;refine⟨fun q W' N=>∃(j:Nat) (Y:NP),q=j/\j<=32/\N=32-j/\J Y (CZ by' n root j).length W'/\BM W' m bb mb c n by' mk/\own W' c1 [ptr m]/\own W' c2 [vi root],⟨32,0,_,rfl,by omega,rfl,h0,h.k hk,o1.k hk,o2.k hk⟩,?_⟩;rintro _ w1 _ ⟨j,Y,rfl,hj,rfl,hJ,M,p1,p2⟩;refine AE (fun hc=>?_) (fun hc=>?_)
 ·have hj32:j<32:=by simp at hc;omega
  refine AA rfl ⟨_,by show rd w1 c1 0=_;rw [p1.rd];rfl,AA rfl ⟨_,by show rd w1 c2 0=_;rw [p2.rd];rfl,?_⟩⟩;rw [wi (x:=(j:Int)*32) (by omega)];refine(KB M hb hn root _).mono ?_;rintro _ w2 ⟨rfl,k2⟩;have M2:=M.k k2;have q1:=p1.k k2;have q2:=p2.k k2;have hJ2:=hab _ _ _ _ hJ (k2.mono fun _ _ e=>e.elim);have es:=KU by' n root j;refine⟨_,_,rfl,AE (fun he=>?_) (fun he=>?_)⟩
  ·have hz:lfE by' n root ((j:Int)*32)=0:=by simpa using he
   rw [if_pos hz] at es;obtain⟨r,hr⟩:=NC by' n root (j+1) (m:=32) (by omega);rw [es] at hr;have hy:=hY _ _ [vi (j:Int),vi (lfN by' n root ((j:Int)*32))] w2 (by rw [gmp,at_len hr];rfl) hJ2;obtain⟨fn,tm,asg',bo,hrun,hR⟩:=hy.run;refine⟨fn,tm,asg',bo,hrun,hR.mono ?_⟩;rintro en w6 ⟨k6,⟨rfl,hJ6⟩|⟨rfl,hx6⟩⟩
   ·refine⟨true,rfl,AG rfl ⟨32-(j+1),by omega,j+1,_,wzz,hj32,rfl,by rw [es,lap];exact hJ6,M2.kY k6 (.inr (.inr (.inr (.inl rfl)))) (.inr (.inr (.inr (.inr (.inl rfl))))) (.inr (.inr (.inr (.inr (.inr rfl))))),FJ k6 (.inr (.inl rfl)) q1,FJ k6 (.inr (.inr (.inl rfl))) q2⟩⟩
   ·exact⟨false,rfl,AA rfl (.inr ⟨_,hx6⟩)⟩
  ·have hz:lfE by' n root ((j:Int)*32)≠0:=by simpa using he
   rw [if_neg hz,List.append_nil] at es;exact⟨32-(j+1),by omega,j+1,_,wzz,hj32,rfl,by rw [es];exact hJ2,M2,q1,q2⟩
 ·have:j=32:=by simp at hc;omega
  subst this;exact .inl ⟨Y,by rw [lmp];exact hJ⟩
theorem pages_gives(h:BM w m bb mb c n by' mk)(hb:ByR by')(hn:n<=1024){c1 c2:Nat}{root:Int}(o1:own w c1 [ptr m])(o2:own w c2 [vi root]) :
 DW prog 258 [ptr c1,ptr c2] ((D9 by' n root 1024).map fun x=>[vi x.page,.agg #[.int .u8 x.kind,vi x.n]]) (memR c1 c2 m bb mb) w:=by
 refine⟨fun y J Jx W hk hab habx hY h0=>?_⟩;refine(vc258 y (some ⟨c1,0,none⟩) (some ⟨c2,0,none⟩) W (fun v w'=>(∃Y,J Y ((D9 by' n root 1024).map fun x=>[vi x.page,.agg #[.int .u8 x.kind,vi x.n]]).length w')\/∃Y,Jx Y w') ?_).mono ?_
 rotate_left
 ·rintro e w' ⟨v,rfl,hw⟩;exact⟨⟨v,rfl⟩,hw⟩
 unfold Q;refine⟨fun q W' N=>∃(j:Nat) (Y:NP),q=j/\j<=1024/\N=1024-j/\J Y (D9 by' n root j).length W'/\BM W' m bb mb c n by' mk/\own W' c1 [ptr m]/\own W' c2 [vi root],⟨1024,0,_,rfl,by omega,rfl,h0,h.k hk,o1.k hk,o2.k hk⟩,?_⟩;rintro _ w1 _ ⟨j,Y,rfl,hj,rfl,hJ,M,p1,p2⟩;refine AE (fun hc=>?_) (fun hc=>?_)
 ·have hj32:j<1024:=by simp at hc;omega
  refine AA rfl ⟨_,by show rd w1 c1 0=_;rw [p1.rd];rfl,AA rfl ⟨_,by show rd w1 c2 0=_;rw [p2.rd];rfl,(get_spec M hb hn root _).mono ?_⟩⟩;rintro _ w2 ⟨rfl,k2⟩;refine⟨_,_,_,rfl,fun w3 e3=>?_⟩;have x3:=AD e3;have k3:=kal e3;refine⟨wr2 x3,fun w4 e4=>?_⟩;obtain⟨x4,k4'⟩:=IY x3 e4;have k4:Kept AB w1 w4:=k2.tr (BD k3 k4' fun x e=>by omega);obtain⟨r0,r1⟩:=rd2 x4;have M2:=M.k k4;have q1:=p1.k k4;have q2:=p2.k k4;have hJ2:=hab _ _ _ _ hJ (k4.mono fun _ _ e=>e.elim);have es:=GB by' n root j;refine⟨_,(fun _=>r0),_,_,(fun _=>⟨r0,r1⟩),AE (fun he=>?_) (fun he=>?_)⟩
  ·have hz:gtE by' n root (j:Int)=0/\gtK by' n root (j:Int)≠0:=by simpa using he
   rw [if_pos hz] at es;obtain⟨r,hr⟩:=P8 by' n root (j+1) (m:=1024) (by omega);rw [es] at hr;have hy:=hY _ _ [vi (j:Int),.agg #[.int .u8 (gtK by' n root (j:Int)),vi (gtN by' n root (j:Int))]] w4 (by rw [gmp,at_len hr];rfl) hJ2;obtain⟨fn,tm,asg',bo,hrun,hR⟩:=hy.run;refine⟨fn,tm,asg',bo,hrun,hR.mono ?_⟩;rintro en w6 ⟨k6,⟨rfl,hJ6⟩|⟨rfl,hx6⟩⟩
   ·refine⟨true,rfl,AG rfl ⟨1024-(j+1),by omega,j+1,_,wzz,hj32,rfl,by rw [es,lap];exact hJ6,M2.kY k6 (.inr (.inr (.inr (.inl rfl)))) (.inr (.inr (.inr (.inr (.inl rfl))))) (.inr (.inr (.inr (.inr (.inr rfl))))),FJ k6 (.inr (.inl rfl)) q1,FJ k6 (.inr (.inr (.inl rfl))) q2⟩⟩
   ·exact⟨false,rfl,AA rfl (.inr ⟨_,hx6⟩)⟩
  ·have hz:¬(gtE by' n root (j:Int)=0/\gtK by' n root (j:Int)≠0):=fun hh=>by
    rw [show(gtE by' n root (j:Int)==0&&gtK by' n root (j:Int)!=0)=true by simpa using hh] at he
    cases he
   rw [if_neg hz,List.append_nil] at es;exact⟨1024-(j+1),by omega,j+1,_,wzz,hj32,rfl,by rw [es];exact hJ2,M2,q1,q2⟩
 ·have:j=1024:=by simp at hc;omega
  subst this;exact .inl ⟨Y,by rw [lmp];exact hJ⟩
end
structure SeqJ{α:Type}(kx B:Nat)(cs:List Value)(o:Nat)(w4:WD)(T s:Nat)(f:α->List Value)(xs:List α)(Y:NP)(i:Nat)(W:WD):Prop where
 kp:Kept (·=kx) w4 W
 le:i<=xs.length
 ex:∃(a:OA) (cc:Nat),own W kx (cs.set o (.slice a i cc))/\W.ownsRow (B+2) T s (.slice a i cc) i ((xs.take i).flatMap f)/\∀x,Y x->x<W.heap.size/\(Value.slice a i cc).ownBlock≠some x
section
variable {α:Type}{kx B:Nat}{cs:List Value}{o:Nat}{w4:WD}{T s:Nat}{f:α->List Value}{xs:List α}{Y:NP}{i:Nat}{W:WD}
theorem SeqJ.ab{W':WD}(h:SeqJ kx B cs o w4 T s f xs Y i W)(hk:kx<B)(hB:B=w4.heap.size)(hY:∀b,Y b->B+2<=b)(k':Kept (DJ B Y) W W'):SeqJ kx B cs o w4 T s f xs (fun b=>Y b\/(W.heap.size<=b/\b<W'.heap.size)) i W':=by
 obtain⟨a,cc,g2,g3,g4⟩:=h.ex;have hsz:=k'.sz;have h1:=h.kp.sz;refine⟨h.kp.trans k' fun x hx hh=>?_,h.le,a,cc,g2.kx k' (fun hx=>by rcases hx with h|h|h;omega;omega;have:=hY _ h;omega),AR g3 k' fun x hx _ hb hh=>(by rcases hh with h|h|h;omega;omega;exact(g4 x h).2 hb),fun x hx=>?_⟩
 ·rcases hh with rfl|rfl|h3
  ·omega
  ·omega
  ·have:=hY x h3;omega
 ·rcases hx with hx|hx
  ·have:=g4 x hx;exact⟨by omega,this.2⟩
  ·refine⟨hx.2,fun e=>?_⟩;have:=(g3.lt x e).2;omega
theorem SeqJ.step{S:Nat}(hT:ElT prog S T s)(ho:o<cs.length){R Z:NP}{p:α}{w7:WD}(h:SeqJ kx B cs o w4 T s f xs Y i W)(hk:kx<B)(hB:B=w4.heap.size)(hY:∀b,Y b->B+2<=b)(hsz:B+2<=W.heap.size)(hl:xs.length<=100000)(hR:∀b,R b->b<B/\b≠kx)
 (hp:xs[i]? = some p) (hs:∀x,(f x).length=s) (h1:∀u∈f p,u.oneCell'=true) (k7:Kept Z W w7) (hZ:∀b,Z b->b=B+1\/W.heap.size<=b) :
 ∃(a:OA) (cc:Nat),rd w7 kx o=some (.slice a i cc)/\∀w8,w8=w7.alloc (.cells (f p).toArray T)->∃(a':OA) (l' c':Nat) (w9:WD),BF prog #[S,S] S (.slice a i cc) (.slice (some ⟨w7.heap.size,0,none⟩) 1 1) (.slice a' l' c') w8 w9/\wr w9 kx o/\
  ∀w10,w10=st w9 kx o (.slice a' l' c')->BN B w7 w10/\DA (fun b=>Y b\/R b) W w10/\SeqJ kx B cs o w4 T s f xs Y (i+1) w10:=by
 obtain⟨a,cc,g2,g3,g4⟩:=h.ex;have hil:=(D5.1 hp).1;have hW7:=k7.sz;have hg:=g2.lt;have kW7:Kept (·=B+1) W w7:=k7.mono fun b hb hz=>(hZ b hz).resolve_right (by omega);refine⟨a,cc,by rw [(g2.kx kW7 (by omega)).rd,List.getElem?_set_self ho],fun w8 e8=>?_⟩;have k8:=kal e8;have row7:=AR g3 kW7 fun x hx _ _ hh=>by omega
 have row8:=AR row7 k8 fun _ _ _ _=>id;have hs8:=k8.sz;obtain⟨t0,z,hi,hz,hsz0,hzs,hby⟩:=hT.ex;obtain⟨a',l',c',w9,happ,rfl,row9,k9,hon⟩:=J8 (P:=prog) (t:=S) (e:=T) (i:=t0) (z:=z) (size:=s) hT.sl hi hz hsz0 hzs hT.pos row8 (AD e8) (m:=1) (off:=0) (c:=1) (news:=f p) (by rw [List.drop_zero,Nat.one_mul,List.take_of_length_le (Nat.le_of_eq (hs p))]) (by rw [hs,Nat.one_mul]) h1 (by omega) hby (by omega);have g9:=((g2.kx kW7 (by omega)).k k8).kx k9 fun e=>by have:=(row8.lt _ e).1;omega
 refine⟨a',_,c',w9,happ,g9.wr (by rw [List.length_set];exact ho),fun w10 e10=>?_⟩;have k10:Kept (·=kx) w9 w10:=kr.s1 e10 (.inl rfl);have g10:=g9.s1 e10;rw [List.set_set] at g10;have K710:Kept (fun x=>x=kx\/(Value.slice a i cc).ownBlock=some x) w7 w10:=((k8.mono fun _ _ h=>h.elim).trans k9 fun x _ h=>.inr h).trans k10 fun x _ h=>.inl h;have KW10:Kept (fun x=>x=B+1\/x=kx\/(Value.slice a i cc).ownBlock=some x) W w10:=(kW7.mono fun _ _ h=>.inl h).trans K710 fun x _ h=>.inr h;have hl10:=KW10.sz;have hgB:=h.kp.sz;refine⟨CY K710 (by omega) (fun h=>?_) (fun h=>?_),keptY_of KW10 fun y hy=>?_,?_,hil,a',c',g10,?_,fun y hy=>?_⟩
 ·rcases h with h|h
  ·omega
  ·have:=(row7.lt _ h).1;omega
 ·rcases h with h|h
  ·omega
  ·have:=(row7.lt _ h).1;omega
 ·rcases hy with hy|hy
  ·have h1:=hY y hy;have h2:=g4 y hy;refine⟨h2.1,fun hh=>?_⟩;rcases hh with h|h|h
   ·have h5:=h2.1;have:y=B+1:=h;omega
   ·omega
   ·exact h2.2 h
  ·have h1:=hR y hy;refine⟨by omega,fun hh=>?_⟩;rcases hh with h|h|h
   ·omega
   ·omega
   ·have:=(g3.lt _ h).1;omega
 ·refine keptX h.kp KW10 fun y hy=>?_;rcases hy with h|h|h
  ·right;omega
  ·exact .inl h
  ·right;have:=(g3.lt _ h).1;omega
 ·have e1:(xs.take (i+1)).flatMap f=(xs.take i).flatMap f++f p:=by
   rw [List.take_add_one,hp,List.flatMap_append];simp
  rw [e1];exact AR row9 k10 fun y hy _ _ h=>by omega
 ·have h1:=hY y hy;have h2:=g4 y hy;refine⟨by omega,fun e=>?_⟩;rcases hon with h3|h3
  ·rw [h3] at e;exact h2.2 e
  ·have:=h3 y e;omega
theorem SeqJ.fin(h:SeqJ kx B cs o w4 T s f xs Y xs.length W):∃(a:OA) (cc:Nat),own W kx (cs.set o (.slice a xs.length cc))/\W.ownsRow (B+2) T s (.slice a xs.length cc) xs.length (xs.flatMap f):=by
 obtain⟨a,cc,g2,g3,g4⟩:=h.ex;rw [List.take_length] at g3;exact⟨a,cc,g2,g3⟩
end
theorem elLeaf:ElT prog 143 332 2:=elT (z:=.agg #[.int .i64 0,.int .i64 0]) underlying143 (by kernel_rfl) rfl (by decide)
theorem elMapped:ElT prog 144 149 3:=elT (z:=.agg #[.int .i64 0,.int .u8 0,.int .i64 0]) underlying144 (by kernel_rfl) rfl (by decide)
def leafV(x:Int×Int):List Value:=[vi x.1,vi x.2]
def mapV(x:FK):List Value:=[vi x.page,.int .u8 x.kind,vi x.n]
theorem st6{w w':WD}{b:Nat}{cs:List Value}{v0 v1 v2 v3 v4 v5:Value}(h:own w b cs)(hl:cs.length=6)(e:w'=st (st (st (st (st (st w b 0 v0) b 1 v1) b 2 v2) b 3 v3) b 4 v4) b 5 v5):own w' b [v0,v1,v2,v3,v4,v5]/\Kept (·=b) w w':=by
 subst e
 match cs,hl with
 | [a,c,d,e,f,g],_=>exact⟨h.BL.BL.BL.BL.BL.BL,((((((Kept.refl (·=b) w).st (.inl rfl)).st (.inl rfl)).st (.inl rfl)).st (.inl rfl)).st (.inl rfl)).st (.inl rfl)⟩
theorem wr6{w:WD}{b:Nat}{cs:List Value}(h:own w b cs)(hl:cs.length=6):wr w b 0/\wr w b 1/\wr w b 2/\wr w b 3/\wr w b 4/\wr w b 5:=⟨h.wr (by omega),h.wr (by omega),h.wr (by omega),h.wr (by omega),h.wr (by omega),h.wr (by omega)⟩
theorem rd6{w:WD}{b:Nat}{v0 v1 v2 v3 v4 v5:Value}(h:own w b [v0,v1,v2,v3,v4,v5]):rd w b 0=some v0/\rd w b 1=some v1/\rd w b 2=some v2/\rd w b 3=some v3/\rd w b 4=some v4/\rd w b 5=some v5:=⟨by rw [h.rd];rfl,by rw [h.rd];rfl,by rw [h.rd];rfl,by rw [h.rd];rfl,by rw [h.rd];rfl,by rw [h.rd];rfl⟩
abbrev zero6:List Value:=[vi 0,vi 0,.slice none 0 0,.slice none 0 0,.slice none 0 0,.slice none 0 0]
def F7(S:AL)(i:Nat):OO:=⟨i,S.root i,CZ S.by' S.n (S.root i) 32,D9 S.by' S.n (S.root i) 1024,[],[]⟩
set_option maxHeartbeats 4000000 in
theorem process_spec{w:WD}{k b:Nat}{S:AL}{fp:Prt->Nat->Prop}(T:GF w)(h:AJ w k S fp){i:Nat}(hi:i<9)(hb:S.sp i=some b)(hby:ByR S.by') :
 Calls prog 137 #[ptr k,vi i,ptr b] w fun e w'=>∃(x y:Int) (a1:OA) (l1 c1:Nat) (a2:OA) (l2 c2:Nat) (a3:OA) (l3 c3:Nat) (a4:OA) (l4 c4:Nat),
  e=.returned (.agg #[vi x,vi y,.slice a1 l1 c1,.slice a2 l2 c2,.slice a3 l3 c3,.slice a4 l4 c4])/\Kept AB w w'/\At (rng w w') (fun W'=>NU W' [vi x,vi y,.slice a1 l1 c1,.slice a2 l2 c2,.slice a3 l3 c3,.slice a4 l4 c4] (F7 S i)) w':=by
 refine(vc137 _ i _ w (fun v w'=>∃(x y:Int) (a1:OA) (l1 c1:Nat) (a2:OA) (l2 c2:Nat) (a3:OA) (l3 c3:Nat) (a4:OA) (l4 c4:Nat),
  v=(.agg #[vi x,vi y,.slice a1 l1 c1,.slice a2 l2 c2,.slice a3 l3 c3,.slice a4 l4 c4])/\Kept AB w w'/\At (rng w w') (fun W'=>NU W' [vi x,vi y,.slice a1 l1 c1,.slice a2 l2 c2,.slice a3 l3 c3,.slice a4 l4 c4] (F7 S i)) w') ?_).mono ?_
 rotate_left
 ·rintro e w' ⟨v,rfl,x,y,a1,l1,c1,a2,l2,c2,a3,l3,c3,a4,l4,c4,rfl,hw⟩;exact⟨x,y,a1,l1,c1,a2,l2,c2,a3,l3,c3,a4,l4,c4,rfl,hw⟩
 unfold Q;intro w1 e1;have or1:own w1 w.heap.size zero6:=AD e1;have k1:=kal e1;have hs1:=or1.lt;clear e1;have SP0:EX w1 (fp (.space i)) b (S.root i) (S.pins i):=(h.k k1).at' (.space i) b hb;obtain⟨ab,pb',wb,mb',s1,s2,s3,s4,_,_⟩:=SP0.ex;obtain⟨bb,mb,M0,hm1,hm2,hm3⟩:=(h.k k1).at' .mem;have hl1:=h.lt _ _ hm1;have hl2:=h.lt _ _ hm2;have hl3:=h.lt _ _ hm3;have r0:∀{W:WD},Kept AB w1 W->rd W b 0=some (ptr ab):=fun kk=>by rw [(s1.k kk).rd];rfl
 have r1:∀{W:WD},Kept AB w1 W->rd W b (0+1)=some (vi (S.root i)):=fun kk=>by rw [(s1.k kk).rd];rfl
 have r2:∀{W:WD},Kept AB w1 W->rd W b (0+2)=some (ptr pb'):=fun kk=>by rw [(s1.k kk).rd];rfl
 have pins:∀{W:WD}{cb:Nat},Kept AB w1 W->own W cb [ptr pb']->Calls prog 205 #[.func (.func 251) #[] #[ptr cb]] W fun e w'=>∃a l c,e=.returned (.slice a l c)/\Kept AB W w'/\True:=fun kk o=>(pins_spec ((T.k k1).k kk) (by rw [o.rd];rfl) (s3.k kk) (s4.k kk) SP0.lt).mono fun _ _ ⟨a,l,c,e,k⟩=>⟨a,l,c,e,k,trivial⟩;have runs:∀{W:WD}{cb:Nat},Kept AB w1 W->own W cb [ptr ab]->Calls prog 207 #[.func (.func 255) #[] #[ptr cb]] W fun e w'=>∃a l c,e=.returned (.slice a l c)/\Kept AB W w'/\NoL a l c:=fun kk o=>runs_spec (by rw [o.rd];rfl) (s2.k kk);refine⟨fun p W=>∃(b1:Nat) (a:OA) (l c:Nat) (a':OA) (l' c':Nat),p=some ⟨b1,0,none⟩/\Kept AB w1 W/\own W b1 [vi i,vi (S.root i),.slice none 0 0,.slice none 0 0,.slice a l c,.slice a' l' c']/\w1.heap.size<=b1/\True/\NoL a' l' c',?_,?_⟩
 ·
  have fin:∀{W:WD}{bx:Nat}{a:OA}{l c:Nat}{a':OA}{l' c':Nat},own W bx zero6->Kept AB w1 W->w1.heap.size<=bx->True->NoL a' l' c'->
   (wr W bx 0/\wr W bx 1/\wr W bx 2/\wr W bx 3/\wr W bx 4/\wr W bx 5)/\∀w_3:WD,w_3=st (st (st (st (st (st W bx 0 (vi i)) bx 1 (vi (S.root i))) bx 2 (.slice none 0 0)) bx 3 (.slice none 0 0)) bx 4 (.slice a l c)) bx 5 (.slice a' l' c')->
    (fun(p:OA) (W:WD)=>∃(b1:Nat) (a:OA) (l c:Nat) (a':OA) (l' c':Nat),p=some ⟨b1,0,none⟩/\Kept AB w1 W/\own W b1 [vi i,vi (S.root i),.slice none 0 0,.slice none 0 0,.slice a l c,.slice a' l' c']/\w1.heap.size<=b1/\True/\NoL a' l' c') (some ⟨bx,0,none⟩) w_3:=fun o kk hx N1 N2=>by
   refine⟨wr6 o rfl,fun w3 e3=>?_⟩;obtain⟨o3,k3⟩:=st6 o rfl e3;exact⟨_,_,_,_,_,_,_,rfl,BD kk k3 fun x e=>by omega,o3,hx,N1,N2⟩
  intro w2 e2;have k2:=kdr e2;have hs2:=k2.sz;refine AA rfl ⟨_,r1 k2,AA rfl ⟨_,r2 k2,AA rfl ⟨_,r0 k2,fun w3 e3=>?_,fun w3 e3=>?_⟩⟩⟩
  ·have o3:=AD e3;have k3:Kept AB w1 w3:=k2.al e3;have hs3:=k3.sz;refine⟨⟨r0 k3,trivial⟩,⟨r1 k3,trivial⟩,(pins k3 o3).mono ?_,fun w4 e4=>?_⟩
   ·rintro _ w4 ⟨a,l,c,rfl,k34,N1⟩;have k4:=k3.tr k34;have hs4:=k4.sz;refine⟨a,l,c,rfl,⟨r0 k4,trivial⟩,⟨r1 k4,trivial⟩,fun w5 e5=>?_,fun w5 e5=>?_⟩
    ·have o5:=AD e5;have k5:Kept AB w1 w5:=k4.al e5;have hs5:=k5.sz;refine⟨⟨r1 k5,trivial⟩,(runs k5 o5).mono ?_,fun w6 e6=>?_⟩
     ·rintro _ w6 ⟨a',l',c',rfl,k56,N2⟩;have k6:=k5.tr k56;refine⟨a',l',c',rfl,⟨r1 k6,trivial⟩,fun w7 e7=>?_⟩;have o7:own w7 w6.heap.size zero6:=AD e7;have k7:Kept AB w1 w7:=k6.al e7;exact⟨⟨r1 k7,trivial⟩,fin o7 k7 k6.sz N1 N2⟩
     ·have o6:own w6 w5.heap.size zero6:=AD e6;have k6:Kept AB w1 w6:=k5.al e6;refine⟨⟨r1 k6,trivial⟩,(runs k6 (o5.al e6)).mono ?_⟩;rintro _ w7 ⟨a',l',c',rfl,k67,N2⟩;have k7:=k6.tr k67;exact⟨a',l',c',rfl,⟨r1 k7,trivial⟩,fin (o6.k k67) k7 k5.sz N1 N2⟩
    ·have o5:own w5 w4.heap.size zero6:=AD e5;have k5:Kept AB w1 w5:=k4.al e5;refine⟨⟨r0 k5,trivial⟩,⟨r1 k5,trivial⟩,fun w6 e6=>?_⟩;have o6:=AD e6;have k6:Kept AB w1 w6:=k5.al e6;refine⟨⟨r1 k6,trivial⟩,(runs k6 o6).mono ?_⟩;rintro _ w7 ⟨a',l',c',rfl,k67,N2⟩;have k7:=k6.tr k67;exact⟨a',l',c',rfl,⟨r1 k7,trivial⟩,fin ((o5.al e6).k k67) k7 k4.sz N1 N2⟩
   ·have o4:own w4 w3.heap.size zero6:=AD e4;have k4:Kept AB w1 w4:=k3.al e4;refine⟨⟨r0 k4,trivial⟩,⟨r1 k4,trivial⟩,(pins k4 (o3.al e4)).mono ?_⟩;rintro _ w5 ⟨a,l,c,rfl,k45,N1⟩;have k5:=k4.tr k45;refine⟨a,l,c,rfl,⟨r0 k5,trivial⟩,⟨r1 k5,trivial⟩,fun w6 e6=>?_⟩;have o6:=AD e6;have k6:Kept AB w1 w6:=k5.al e6;refine⟨⟨r1 k6,trivial⟩,(runs k6 o6).mono ?_⟩;rintro _ w7 ⟨a',l',c',rfl,k67,N2⟩;have k7:=k6.tr k67;exact⟨a',l',c',rfl,⟨r1 k7,trivial⟩,fin (((o4.k k45).al e6).k k67) k7 k3.sz N1 N2⟩
  ·have o3:own w3 w2.heap.size zero6:=AD e3;have k3:Kept AB w1 w3:=k2.al e3;refine⟨⟨r0 k3,trivial⟩,⟨r2 k3,trivial⟩,⟨r1 k3,trivial⟩,fun w4 e4=>?_⟩;have o4:=AD e4;have k4:Kept AB w1 w4:=k3.al e4;refine⟨⟨r0 k4,trivial⟩,⟨r1 k4,trivial⟩,(pins k4 o4).mono ?_⟩;rintro _ w5 ⟨a,l,c,rfl,k45,N1⟩;have k5:=k4.tr k45;refine⟨a,l,c,rfl,⟨r0 k5,trivial⟩,⟨r1 k5,trivial⟩,fun w6 e6=>?_⟩;have o6:=AD e6;have k6:Kept AB w1 w6:=k5.al e6;refine⟨⟨r1 k6,trivial⟩,(runs k6 o6).mono ?_⟩;rintro _ w7 ⟨a',l',c',rfl,k67,N2⟩;have k7:=k6.tr k67;exact⟨a',l',c',rfl,⟨r1 k7,trivial⟩,fin ((((o3.al e4).k k45).al e6).k k67) k7 hs2 N1 N2⟩
 rintro _ w2 ⟨b1,a,l,c,a',l',c',rfl,k2,ob,hb1,N1,N2⟩;intro w3 e3;have k3:Kept AB w1 w3:=k2.dr e3;have ob3:=ob.dr e3;have rk:∀{W:WD},Kept AB w1 W->rd W k (0+94)=some (ptr S.pm):=fun kk=>by rw [za];exact((h.k k1).k kk).rt (j:=0) rfl
 refine AA rfl ⟨_,rk k3,AA rfl ⟨_,r1 k3,fun w4 e4 w5 e5=>?_⟩⟩;have x4:=AD e4;have x4':=x4.al e5;have x5:=AD e5;have k5:Kept AB w1 w5:=(k3.al e4).al e5;have ob5:=(ob3.al e4).al e5;have hc1:=x4.lt;have hc2:=x5.lt;have hbl:=ob3.lt;have hs3:=k3.sz;clear e3 e4 e5 x4 ob ob3 k2;generalize w3.heap.size=c1 at *;generalize w4.heap.size=c2 at *;have hn:=h.n4;have hR:∀x,memR c1 c2 S.pm bb mb x->x<w5.heap.size/\x≠b1:=fun x hx=>by
  rcases hx with hx|hx|hx|hx|hx <;> omega
 have fl2:∀x:Int×Int,(leafV x).length=2:=fun _=>rfl;have fl3:∀x:FK,(mapV x).length=3:=fun _=>rfl;have hl32:=leavesOf_len S.by' S.n (S.root i) 32;have hl1024:=pagesOf_len S.by' S.n (S.root i) 1024;refine⟨(CZ S.by' S.n (S.root i) 32).map fun x=>[vi x.1,vi x.2],memR c1 c2 S.pm bb mb,SeqJ b1 w5.heap.size [vi i,vi (S.root i),.slice none 0 0,.slice none 0 0,.slice a l c,.slice a' l' c'] 2 w5 332 2 leafV (CZ S.by' S.n (S.root i) 32),fun _ _ _=>False,
  ⟨leaves_gives (M0.k k5) hby (by omega) x4' x5,fun ys hx=>?_,fun x hx=>(hR x hx).1⟩,fun W kW _=>?_,fun Y j W W' h hY k'=>h.ab (by omega) rfl hY k',fun _ _ _ _ h=>h.elim,fun Y j W h hY hsz n1 n2 hv=>?_,fun Y W h hd=>?_,fun _ _ h=>h.elim,trivial⟩
 ·obtain⟨x,_,rfl⟩:=List.mem_map.1 hx;exact⟨rfl,_,_,rfl⟩
 ·exact⟨kW.mono fun _ _ h=>h.elim,Nat.zero_le _,none,0,ob5.k kW,World.ownsRow_nil _ _ _ _,fun x h=>h.elim⟩
 ·have hx:(CZ S.by' S.n (S.root i) 32)[j]? = some (n1,n2):=by
   rw [gmp] at hv
   cases hh:(CZ S.by' S.n (S.root i) 32)[j]? with
   | none=>rw [hh] at hv;cases hv
   | some x=>
    rw [hh] at hv;simp at hv;rw [<- hv.1,<- hv.2]
  refine⟨CY (Kept.refl AB W) (by omega) id id,fun w7 k7 hs7=>?_⟩;obtain⟨a2,cc,h1,h2⟩:=h.step elLeaf (by show 2<6;decide) (by omega) rfl hY hsz (by omega) hR hx fl2 (fun u hu=>by simp [leafV] at hu;rcases hu with rfl|rfl <;> rfl) k7 fun b hb=>.inl hb;refine AA rfl ⟨a2,j,cc,h1,fun w8 e8=>?_⟩;obtain⟨a3,l3,c3,w9,p1,p2,p3⟩:=h2 w8 e8;exact⟨a3,l3,c3,w9,p1,AA rfl ⟨p2,p3⟩⟩
 ·rw [lmp] at h;obtain⟨a2,cc,oW,row⟩:=h.fin;have kW:Kept AB w1 W:=BD k5 h.kp fun x e=>by omega
  have hkp:=h.kp;clear h;intro w6 e6;have k6:Kept AB w1 w6:=kW.dr e6;have o6:=oW.dr e6;have row6:=AR row ((Kept.refl AB W).dr e6) fun _ _ _ _=>id;have hs6:w6.heap.size=W.heap.size:=by rw [e6];rfl
  have d6:DC w5.heap.size w6:=hd.k ((Kept.refl AB W).dr e6) id;refine AA rfl ⟨_,rk k6,AA rfl ⟨_,r1 k6,fun w7 e7 w8 e8=>?_⟩⟩;have y7:=AD e7;have y7':=y7.al e8;have y8:=AD e8;have k68:Kept AB w6 w8:=(kr.al e7).al e8;have k8:=k6.tr k68;have o8:=o6.k k68;have row8:=AR row6 k68 fun _ _ _ _=>id;have d8:DC w5.heap.size w8:=d6.k k68 id;have hd1:=y7.lt;have hd2:=y8.lt;have hsW:=hkp.sz;have hB1:w5.heap.size<w6.heap.size:=(F3.1 d6.at_).1;clear e6 e7 e8 y7 oW row hd;generalize w6.heap.size=c3 at *;generalize w7.heap.size=c4 at *;have hR2:∀x,memR c3 c4 S.pm bb mb x->x<w8.heap.size/\x≠b1:=fun x hx=>by
   rcases hx with hx|hx|hx|hx|hx <;> omega
  refine⟨(D9 S.by' S.n (S.root i) 1024).map fun x=>[vi x.page,.agg #[.int .u8 x.kind,vi x.n]],memR c3 c4 S.pm bb mb,SeqJ b1 w8.heap.size [vi i,vi (S.root i),.slice a2 (CZ S.by' S.n (S.root i) 32).length cc,.slice none 0 0,.slice a l c,.slice a' l' c'] 3 w8 149 3 mapV (D9 S.by' S.n (S.root i) 1024),fun _ _ _=>False,
   ⟨pages_gives (M0.k k8) hby (by omega) y7' y8,fun ys hx=>?_,fun x hx=>(hR2 x hx).1⟩,fun V kV _=>?_,fun Y j W W' h hY k'=>h.ab (by omega) rfl hY k',fun _ _ _ _ h=>h.elim,fun Y j V h hY hsz n1 n2 n3 hv=>?_,fun Y V h hd=>?_,fun _ _ h=>h.elim,trivial⟩
  ·obtain⟨x,_,rfl⟩:=List.mem_map.1 hx;exact⟨rfl,_,_,_,rfl⟩
  ·exact⟨kV.mono fun _ _ h=>h.elim,Nat.zero_le _,none,0,o8.k kV,World.ownsRow_nil _ _ _ _,fun x h=>h.elim⟩
  ·have hx:(D9 S.by' S.n (S.root i) 1024)[j]? = some ⟨n1,n2,n3⟩:=by
    rw [gmp] at hv
    cases hh:(D9 S.by' S.n (S.root i) 1024)[j]? with
    | none=>rw [hh] at hv;cases hv
    | some x=>
     rw [hh] at hv;simp at hv;rw [<- hv.1,<- hv.2.1,<- hv.2.2]
   intro v1 f1;have z1:=AD f1;have kv1:=kal f1;refine⟨wr2 z1,fun v2 f2=>?_⟩;obtain⟨z2,kv2'⟩:=IY z1 f2;have kv2:Kept AB V v2:=BD kv1 kv2' fun x e=>by omega
   have hz2:=z2.lt;refine⟨CY kv2 (by omega) id id,fun w7 k7 hs7=>?_⟩;have k7V:Kept (fun b=>b=w8.heap.size+1) V w7:=(kv2.mono fun _ _ e=>e.elim).trans k7 fun _ _ e=>e;have z7:=z2.kx k7 (by omega);obtain⟨a3,cc3,h1,h2⟩:=h.step elMapped (by show 3<6;decide) (by omega) rfl hY hsz (by omega) hR2 hx fl3 (fun u hu=>by simp [mapV] at hu;rcases hu with rfl|rfl|rfl <;> rfl) k7V fun b hb=>.inl hb;refine AA rfl ⟨a3,j,cc3,h1,n2,n3,rd2 z7,fun w9 e9=>?_⟩;obtain⟨a4,l4,c4,w10,p1,p2,p3⟩:=h2 w9 e9;exact⟨a4,l4,c4,w10,p1,AA rfl ⟨p2,p3⟩⟩
  ·rw [lmp] at h;obtain⟨a3,cc3,oV,rowP⟩:=h.fin;have hkV:=h.kp;have kV:Kept AB w1 V:=BD k8 hkV fun x e=>by omega
   have CU:=AR row8 hkV fun x hx _ _ e=>by omega
   have dB:DC w5.heap.size V:=d8.k hkV (by omega);clear h;have hB2:w8.heap.size<V.heap.size:=(F3.1 hd.at_).1;have orV:=or1.k kV;refine AA rfl ⟨_,_,_,_,_,_,_,_,_,_,_,_,_,_,rd6 oV,wr6 orV rfl,fun v1 f1=>?_⟩;obtain⟨or2,kr2⟩:=st6 orV rfl f1;have dV:DC w8.heap.size v1:=hd.k kr2 (by omega);have dB1:DC w5.heap.size v1:=dB.k kr2 (by omega);refine⟨⟨by simp;omega,fun D hD=>?_⟩,fun v2 kv2 hsv=>?_⟩
   ·simp at hD;rcases hD with rfl|rfl
    ·exact dV.at_
    ·exact dB1.at_
   ·have hmem:∀x:Nat,List.Mem x [w8.heap.size,w5.heap.size]->x=w8.heap.size\/x=w5.heap.size:=fun x hx=>by
     have:x∈[w8.heap.size,w5.heap.size]:=hx;simpa using this
    have or3:=or2.kx kv2 fun hx=>by rcases hmem _ hx with h|h <;> omega
    have rowP2:=AR (AR rowP kr2 fun x hx _ _ e=>by omega) kv2 fun x hx _ _ e=>by rcases hmem _ e with h|h <;> omega
    have rowL2:=AR (AR CU kr2 fun x hx _ _ e=>by omega) kv2 fun x hx _ hh e=>by
     have:=(row8.lt x hh).2;rcases hmem _ e with h|h <;> omega
    have Kf:Kept AB w v2:=BD (BD (k1.tr kV) kr2 fun x e=>by omega) kv2 fun x e=>by rcases hmem _ e with h|h <;> omega
    have hsz1:=kr2.sz;have hsz2:=kv2.sz;refine⟨_,_,_,_,_,_,_,_,_,_,_,_,_,_,rd6 or3,_,_,_,_,_,_,_,_,_,_,_,_,_,_,rfl,Kf,?_⟩;have A1:=HW (f:=leafV) fl2 rowL2 rfl;have A2:=HW (f:=mapV) fl3 rowP2 rfl;refine((A1.and A2).imp fun W' hW=>?_).mono (fun x hx=>?_) fun x hx=>hx.2
    ·exact⟨a2,_,cc,a3,_,cc3,a,l,c,a',l',c',rfl,hW.1,hW.2,N2.slR⟩
    ·rcases hx with hx|hx
     ·have:=(rowL2.lt x hx);exact⟨by omega,this.2⟩
     ·have:=(rowP2.lt x hx);exact⟨by omega,this.2⟩
theorem procC_of{w:WD}{k:Nat}{S:AL}{fp:Prt->Nat->Prop}(T:GF w)(h:AJ w k S fp)(hby:ByR S.by'):ProcC S (F7 S) k w:=fun i b W hi hb kk=>process_spec (T.k kk) (h.k kk) hi hb hby
abbrev AL.setRm(S:AL)(of:Nat->Int×Int)(at':List ((Int×Int)×Value)):AL:={S with rof:=of,rat:=at'}
abbrev AL.J9(S:AL)(b:Nat->Int):AL:={S with by':=b}
abbrev AL.GQ(S:AL)(m:Nat->Mark):AL:={S with mks:=m}
abbrev AL.GR(S:AL)(i:Nat)(r:List Int)(o:List (Int×Value)):AL:={S with ring:=upd S.ring i r,cof:=upd S.cof i o}
abbrev AL.JH(S:AL)(L:Nat->List Bk):AL:={S with L:=L}
structure Step(w w':WD)(k:Nat)(S':AL)(fp:Prt->Nat->Prop):Prop where
 kp:Kept (fun x=>∃p,fp p x) w w'
 ex:∃fp',AJ w' k S' fp'/\∀p x,fp' p x->fp p x\/rng w w' x
section
variable {w w':WD}{k:Nat}{S:AL}{fp:Prt->Nat->Prop}
theorem AJ.JE(h:AJ w k S fp)(kk:Kept AB w w'):Step w w' k S fp:=⟨kk.mono fun _ _ e=>e.elim,fp,h.k kk,fun _ _ h=>.inl h⟩
theorem AJ.FD{S':AL}{X:NP}(h:AJ w k S fp)(q:Prt)(kk:Kept X w w')(hX:∀x,X x->fp q x)(hc:S'.c=S.c)(hS:∀p F w,¬p=q->PAt S k p F w->PAt S' k p F w)(hq:PAt S' k q (fun x=>fp q x\/rng w w' x) w'):Step w w' k S' fp:=by
 refine⟨kk.mono fun x _ e=>⟨q,hX x e⟩,_,h.upd (·=q) q kk (fun x hx _=>⟨q,rfl,hX x hx⟩) hc hS rfl fun p hp=>?_,fun p x hx=>hx.imp id fun e=>e.2⟩;subst hp;have e:(fun x=>fp p x\/(p=p/\rng w w' x))=fun x=>fp p x\/rng w w' x:=by funext x;simp
 rw [e];exact hq
theorem Step.tr{w2:WD}{S1 S2:AL}{fp1:Prt->Nat->Prop}(h:Step w w' k S1 fp)(hf:∀p x,fp1 p x->fp p x\/rng w w' x)(h2:Step w' w2 k S2 fp1):Step w w2 k S2 fp:=by
 have s1:=h.kp.sz;have s2:=h2.kp.sz;obtain⟨fp2,C2,g2⟩:=h2.ex;refine⟨h.kp.trans h2.kp fun x hx e=>?_,fp2,C2,fun p x hx=>?_⟩
 ·obtain⟨p,hp⟩:=e;rcases hf p x hp with h|h
  ·exact⟨p,h⟩
  ·have:=h.1;omega
 ·rcases g2 p x hx with h|h
  ·rcases hf p x h with h|h
   ·exact .inl h
   ·exact .inr ⟨h.1,by have:=h.2;omega⟩
  ·exact .inr ⟨by have:=h.1;omega,h.2⟩
theorem AJ.mem(h:AJ w k S fp):∃bb mb,BM w S.pm bb mb S.c S.n S.by' S.mks/\fp .mem S.pm/\fp .mem bb/\fp .mem mb:=h.at' .mem
theorem core_set(h:AJ w k S fp)(hb:ByR S.by')(root page ek eN:Int) :
 Calls prog 100 #[ptr S.pm,vi root,vi page,.agg #[.int .u8 ek,vi eN]] w fun e w'=>e=.returned (vi (stE S.by' S.n root page ek eN))/\Step w w' k (S.J9 (stS S.by' S.n root page ek eN)) fp:=by
 obtain⟨bb,mb,M,f1,f2,f3⟩:=h.mem;refine(set_spec M hb h.n4.2.2 root page ek eN).mono ?_;rintro e w' ⟨he,kk,M'⟩;exact⟨he,h.FD .mem kk (fun x e=>e▸f2) rfl (fun p F w hp hq=>by cases p <;> first|exact hq|exact absurd rfl hp) ⟨bb,mb,M',.inl f1,.inl f2,.inl f3⟩⟩
theorem core_setLeaf(h:AJ w k S fp)(root page leaf:Int) :
 Calls prog 36 #[ptr S.pm,vi root,vi page,vi leaf] w fun e w'=>e=.returned (vi (slE S.n root page leaf))/\Step w w' k (S.J9 (slS S.by' S.n root page leaf)) fp:=by
 obtain⟨bb,mb,M,f1,f2,f3⟩:=h.mem;refine(setLeaf_spec M h.n4.2.2 root page leaf).mono ?_;rintro e w' ⟨he,kk,M'⟩;exact⟨he,h.FD .mem kk (fun x e=>e▸f2) rfl (fun p F w hp hq=>by cases p <;> first|exact hq|exact absurd rfl hp) ⟨bb,mb,M',.inl f1,.inl f2,.inl f3⟩⟩
theorem EJ(h:AJ w k S fp)(frame:Int)(x:Mark) :
 Calls prog 34 #[ptr S.pm,vi frame,.agg (F8 x).toArray] w fun e w'=>e=.returned (vi (smE S.n frame x))/\Step w w' k (S.GQ (smS S.mks S.n frame x)) fp:=by
 obtain⟨bb,mb,M,f1,f2,f3⟩:=h.mem;refine(setMark_spec M frame x).mono ?_;rintro e w' ⟨he,kk,M'⟩;exact⟨he,h.FD .mem kk (fun x e=>e▸f3) rfl (fun p F w hp hq=>by cases p <;> first|exact hq|exact absurd rfl hp) ⟨bb,mb,M',.inl f1,.inl f2,.inl f3⟩⟩
theorem core_leaf(h:AJ w k S fp)(hb:ByR S.by')(root page:Int):Calls prog 49 #[ptr S.pm,vi root,vi page] w fun e w'=>e=.returned (.tuple #[vi (lfN S.by' S.n root page),vi (lfE S.by' S.n root page)])/\Kept AB w w':=by
 obtain⟨bb,mb,M,_⟩:=h.mem;exact KB M hb h.n4.2.2 root page
theorem NO(h:AJ w k S fp)(hb:ByR S.by')(root page:Int):Calls prog 16 #[ptr S.pm,vi root,vi page] w fun e w'=>e=.returned (.tuple #[.agg #[.int .u8 (gtK S.by' S.n root page),vi (gtN S.by' S.n root page)],vi (gtE S.by' S.n root page)])/\Kept AB w w':=by
 obtain⟨bb,mb,M,_⟩:=h.mem;exact get_spec M hb h.n4.2.2 root page
theorem core_rset(h:AJ w k S fp){i:Nat}(hi:i<S.n){pid page:Int}(hp:1<=pid/\pid<=8)(hg:0<=page/\page<1024)(hv:∀k v,S.rat.lookup k=some v->∃x:Int,v=vi x) :
 Calls prog 99 #[ptr S.pr,vi i,vi pid,vi page] w fun e w'=>
  ((S.rof i).1≠0/\e=.returned (vi 80)/\Step w w' k S fp)\/((S.rof i).1=0/\(S.rat.lookup (pid,page)).isSome=true/\e=.returned (vi 8)/\Step w w' k S fp)\/
   ((S.rof i).1=0/\S.rat.lookup (pid,page)=none/\e=.returned (vi 0)/\Step w w' k (S.setRm (upd S.rof i (pid,page)) (S.rat++[((pid,page),vi i)])) fp):=by
 obtain⟨fb,mb,R,f1,f2,f3⟩:∃fb mb,DE w S.pr fb mb S.n S.rof S.rat/\fp .rmap S.pr/\fp .rmap fb/\fp .rmap mb:=h.at' .rmap;have hX:∀x,(x=fb\/x=mb)->fp .rmap x:=fun x e=>by rcases e with rfl|rfl <;> assumption
 refine(rset_spec R hi hp hg hv).mono ?_;rintro e w' ⟨kk,⟨h1,he,R'⟩|⟨h1,h2,he,R'⟩|⟨h1,h2,he,R'⟩⟩
 ·exact .inl ⟨h1,he,h.FD .rmap kk hX rfl (fun p F w hp hq=>hq) ⟨fb,mb,R',.inl f1,.inl f2,.inl f3⟩⟩
 ·exact .inr (.inl ⟨h1,h2,he,h.FD .rmap kk hX rfl (fun p F w hp hq=>hq) ⟨fb,mb,R',.inl f1,.inl f2,.inl f3⟩⟩)
 ·exact .inr (.inr ⟨h1,h2,he,h.FD .rmap kk hX rfl (fun p F w hp hq=>by cases p <;> first|exact hq|exact absurd rfl hp) ⟨fb,mb,R',.inl f1,.inl f2,.inl f3⟩⟩)
theorem core_rclear(h:AJ w k S fp){i:Nat}(hi:i<S.n)(hz:(S.rof i).1≠0) :
 Calls prog 322 #[ptr S.pr,vi i] w fun e w'=>e=.returned (vi 0)/\Step w w' k (S.setRm (upd S.rof i (0,0)) (S.rat.filter fun p=>p.1 != S.rof i)) fp:=by
 obtain⟨fb,mb,R,f1,f2,f3⟩:∃fb mb,DE w S.pr fb mb S.n S.rof S.rat/\fp .rmap S.pr/\fp .rmap fb/\fp .rmap mb:=h.at' .rmap;have hX:∀x,(x=fb\/x=mb)->fp .rmap x:=fun x e=>by rcases e with rfl|rfl <;> assumption
 refine(rclear_spec R hi hz).mono ?_;rintro e w' ⟨he,kk,R'⟩;exact⟨he,h.FD .rmap kk hX rfl (fun p F w hp hq=>by cases p <;> first|exact hq|exact absurd rfl hp) ⟨fb,mb,R',.inl f1,.inl f2,.inl f3⟩⟩
theorem OM(h:AJ w k S fp){i:Nat}(hi:i<S.n):Calls prog 117 #[ptr S.pr,vi i] w fun e w'=>e=.returned (.tuple #[vi (S.rof i).1,vi (S.rof i).2,.bool ((S.rof i).1 != 0)])/\Kept AB w w':=by
 obtain⟨fb,mb,R,f1,f2,f3⟩:∃fb mb,DE w S.pr fb mb S.n S.rof S.rat/\fp .rmap S.pr/\fp .rmap fb/\fp .rmap mb:=h.at' .rmap;exact rget_spec R hi
theorem core_clk(h:AJ w k S fp){i:Nat}(hi:i<S.nodes):∃(g cp cb:Nat),S.vck=.slice (some ⟨g,0,none⟩) S.nodes cp/\rd w g i=some (ptr cb)/\
 (∀{fr:Int},FL (S.ring i) (S.cof i)->0<=fr/\fr<=9223372036854775807->fr∉S.ring i->(S.ring i).length<=100000->
  Calls prog 101 #[ptr cb,vi fr] w fun e w'=>e=.returned (vi 0)/\Step w w' k (S.GR i (S.ring i++[fr]) (S.cof i++[(fr,mk2)])) fp)/\
 (∀{fr:Int}{j:Nat},FL (S.ring i) (S.cof i)->DB (S.ring i) fr j->(S.ring i).length<=100000->
  Calls prog 323 #[ptr cb,vi fr] w fun e w'=>e=.returned (vi 0)/\Step w w' k (S.GR i (del (S.ring i) j) ((S.cof i).filter fun p=>p.1 != fr)) fp):=by
 have R:BG (fun i=>AV (S.ring i) (S.cof i)) S.nodes S.vck (fp .clocks) w:=h.at' .clocks;obtain⟨g,cp,u,H,hv,hr,hA,hH,_⟩:=R.one (B:=fun i=>AV (S.ring i) (S.cof i)) (w':=w) (fun _ _=>AV.stb) hi fun _ _=>rfl;obtain⟨cb,_,_,_,_,rfl,_⟩:=hA.ex;refine⟨g,cp,cb,hv,hr,fun {fr} ok h1 h2 h3=>?_,fun {fr j} ok h1 h2=>?_⟩
 ·obtain⟨g2,cp2,u2,H2,hv2,hr2,hA2,hH2,hput⟩:=R.one (B:=fun j=>AV (upd S.ring i (S.ring i++[fr]) j) (upd S.cof i (S.cof i++[(fr,mk2)]) j)) (w':=w) (fun _ _=>AV.stb) hi fun j hj=>by rw [AH _ _ hj,AH _ _ hj]
  have:u2=ptr cb:=by rw [hv] at hv2;cases hv2;rw [hr] at hr2;exact(Option.some.inj hr2).symm
  subst this;refine(cadd_spec hA2 ok h1 h2 h3).mono ?_;rintro e w' ⟨he,kk,A'⟩;exact⟨he,h.FD .clocks kk (fun x hx=>(hH2 x hx).1) rfl (fun p F w hp hq=>by cases p <;> first|exact hq|exact absurd rfl hp) (hput w' kk (by rw [upd_same,upd_same];exact A'))⟩
 ·obtain⟨g2,cp2,u2,H2,hv2,hr2,hA2,hH2,hput⟩:=R.one (B:=fun t=>AV (upd S.ring i (del (S.ring i) j) t) (upd S.cof i ((S.cof i).filter fun p=>p.1 != fr) t)) (w':=w) (fun _ _=>AV.stb) hi fun t ht=>by rw [AH _ _ ht,AH _ _ ht]
  have:u2=ptr cb:=by rw [hv] at hv2;cases hv2;rw [hr] at hr2;exact(Option.some.inj hr2).symm
  subst this;refine(cremove_spec hA2 ok h1 h2).mono ?_;rintro e w' ⟨he,kk,A'⟩;exact⟨he,h.FD .clocks kk (fun x hx=>(hH2 x hx).1) rfl (fun p F w hp hq=>by cases p <;> first|exact hq|exact absurd rfl hp) (hput w' kk (by rw [upd_same,upd_same];exact A'))⟩
theorem zbl_all{z i:Nat}(hi:i<S.Z.k){x:Nat}(hx:S.Z.bl i x):S.Z.all z x:=.inr (.inr ⟨i,hi,hx⟩)
theorem LR(h:AJ w k S fp){i:Nat}(hi:i<S.Z.k){l':List Bk}(kk:Kept (S.Z.bl i) w w')(Z':ZAt w' S.pz S.Z (upd S.L i l')):Step w w' k (S.JH (upd S.L i l')) fp:=by
 obtain⟨Z,hZ,hc⟩:ZAt w S.pz S.Z S.L/\(∀x,S.Z.all S.pz x->fp .zones x)/\S.Z.c=S.c:=h.at' .zones;exact h.FD .zones kk (fun x hx=>hZ x (zbl_all hi hx)) rfl (fun p F w hp hq=>by cases p <;> first|exact hq|exact absurd rfl hp) ⟨Z',fun x hx=>.inl (hZ x hx),hc⟩
theorem AJ.zn(h:AJ w k S fp):ZAt w S.pz S.Z S.L/\S.Z.c=S.c/\S.Z.k=S.nodes:=by
 obtain⟨Z,hZ,hc⟩:ZAt w S.pz S.Z S.L/\(∀x,S.Z.all S.pz x->fp .zones x)/\S.Z.c=S.c:=h.at' .zones;have:=Z.kc;rw [hc] at this;have:=h.BO.1.2.2;exact⟨Z,hc,by omega⟩
theorem HU(h:AJ w k S fp){i:Nat}(hi:i<S.nodes)(order:Int)(high:Bool) :
 Calls prog 33 #[ptr S.pz,vi i,vi order,.bool high] w fun r w'=>∃a e l',r=.returned (.tuple #[vi (if e=0 then AN S.c i+a else 0),vi e])/\Step w w' k (S.JH (upd S.L i l')) fp/\ES (S.L i) order high a e l':=by
 obtain⟨Z,hc,hk⟩:=h.zn;refine(MB Z (by omega) order high).mono ?_;rintro r w' ⟨a,e,l',hr,kk,Z',T⟩;rw [hc] at hr;exact⟨a,e,l',hr,LR h (by omega) kk Z',T⟩
theorem core_give(h:AJ w k S fp)(fr order:Int)(hfr:-9223372036854775808<=fr/\fr<=9223372036854775807) :
 Calls prog 237 #[ptr S.pz,vi fr,vi order] w fun r w'=>
  (∃i e l',i<S.nodes/\AN S.c i<=fr/\fr<AN S.c (i+1)/\r=.returned (vi e)/\Step w w' k (S.JH (upd S.L i l')) fp/\HY (S.L i) (fr-AN S.c i) order e l')\/
  ((fr<0\/AN S.c S.nodes<=fr)/\r=.returned (vi 7)/\Step w w' k S fp):=by
 obtain⟨Z,hc,hk⟩:=h.zn;refine(zgive_spec Z fr order hfr).mono ?_;rintro r w' (⟨i,e,l',hi,h1,h2,hr,kk,Z',G⟩|⟨h1,hr,kk⟩)
 ·rw [hc] at h1 h2 G;exact .inl ⟨i,e,l',by omega,h1,h2,hr,LR h hi kk Z',G⟩
 ·rw [hc,hk] at h1;exact .inr ⟨h1,hr,h.JE kk⟩
theorem KE(h:AJ w k S fp)(fr:Int)(hfr:fr<=9223372036854775807):Calls prog 18 #[ptr k,vi fr] w fun e w'=>Kept AB w w'/\
 ((∃i:Nat,i<S.nodes/\AN S.c i<=fr/\fr<AN S.c (i+1)/\e=.returned (vi i))\/((fr<0\/AN S.c S.nodes<=fr)/\e=.returned (vi (-1)))):=by
 have hn:=h.BO.1.2.2;refine(vc18 _ fr w (fun v w'=>Kept AB w w'/\((∃i:Nat,i<S.nodes/\AN S.c i<=fr/\fr<AN S.c (i+1)/\v=vi i)\/((fr<0\/AN S.c S.nodes<=fr)/\v=vi (-1)))) ?_).mono ?_
 ·unfold Q;refine AG rfl (AA rfl ⟨S.c,h.rcfg,(node_spec S.c h.my w fr hfr).mono ?_⟩);rintro _ w1 ⟨k1,⟨i,hi,h1,h2,rfl⟩|⟨h1,rfl⟩⟩
  ·exact⟨_,_,rfl,AG rfl ⟨k1,.inl ⟨i,by omega,h1,h2,rfl⟩⟩⟩
  ·exact⟨_,_,rfl,AA rfl ⟨k1,.inr ⟨h1,rfl⟩⟩⟩
 ·rintro e w' ⟨v,rfl,hk,⟨i,h1,h2,h3,rfl⟩|⟨h1,rfl⟩⟩
  ·exact⟨hk,.inl ⟨i,h1,h2,h3,rfl⟩⟩
  ·exact⟨hk,.inr ⟨h1,rfl⟩⟩
end
theorem IA{c:Nat->Int}(hm:CW c){i j:Nat}(hij:i<=j)(hj:j<=(c 0).toNat):AN c i<=AN c j:=by
 induction j with
 | zero=>rw [show i=0 by omega];exact Int.le_refl _
 | succ j ih=>
  by_cases h:i=j+1
  ·rw [h];exact Int.le_refl _
  ·have h1:=ih (by omega) (by omega);have h2:AN c (j+1)=AN c j+c (18+j):=rfl;have h3:=(hm.2.2.2.2.2.1 j (by omega)).1.1;omega
section
variable {w w':WD}{k:Nat}{S:AL}{fp:Prt->Nat->Prop}
theorem AJ.rtW(h:AJ w k S fp){W:WD}(kk:Kept AB w W){j:Nat}{v:Value}(hj:(IQ S)[j]? = some v):rd W k (0+(94+j))=some v:=by rw [za];exact(h.k kk).rt hj
theorem CH{c:Nat->Int}(hm:CW c){i j:Nat}{f:Int}(hi:i<(c 0).toNat)(hj:j<(c 0).toNat)(h1:AN c i<=f)(h2:f<AN c (i+1))(h3:AN c j<=f)(h4:f<AN c (j+1)):i=j:=by
 rcases Nat.lt_trichotomy i j with h|h|h
 ·have:=IA hm (i:=i+1) (j:=j) (by omega) (by omega);omega
 ·exact h
 ·have:=IA hm (i:=j+1) (j:=i) (by omega) (by omega);omega
abbrev AL.mapped(S:AL)(i:Nat)(page:Int)(f:Nat):AL:=
 ((((S.setRm (upd S.rof f (1,page)) (S.rat++[((1,page),vi f)])).J9 (stS S.by' S.n (S.root 1) page 1 f)).GQ (smS S.mks S.n f ⟨4,0,1,page,0⟩)).GR i (S.ring i++[(f:Int)]) (S.cof i++[((f:Int),mk2)]))
set_option maxHeartbeats 2000000 in
theorem map_spec(h:AJ w k S fp){b:Nat}(hb:S.sp 1=some b)(hby:ByR S.by')(hv:∀kk v,S.rat.lookup kk=some v->∃x:Int,v=vi x){f i:Nat}(hf:f<S.n)(hi:i<S.nodes)(h1:AN S.c i<=f)(h2:(f:Int)<AN S.c (i+1))
 (ok:FL (S.ring i) (S.cof i)) (hno:(S.rof f).1=0->(f:Int)∉S.ring i) (hl:(S.ring i).length<=100000) (page:Int) :
 Calls prog 39 #[ptr k,vi 1,vi page,vi f] w fun e w'=>
  ((page<0\/page>=1024)/\e=.returned (vi 2)/\Step w w' k S fp)\/
  ((0<=page/\page<1024)/\lfE S.by' S.n (S.root 1) page≠0/\e=.returned (vi 7)/\Step w w' k S fp)\/
  ((0<=page/\page<1024)/\lfE S.by' S.n (S.root 1) page=0/\(S.rof f).1≠0/\e=.returned (vi 80)/\Step w w' k S fp)\/
  ((0<=page/\page<1024)/\lfE S.by' S.n (S.root 1) page=0/\(S.rof f).1=0/\(S.rat.lookup (1,page)).isSome=true/\e=.returned (vi 8)/\Step w w' k S fp)\/
  ((0<=page/\page<1024)/\lfE S.by' S.n (S.root 1) page=0/\(S.rof f).1=0/\S.rat.lookup (1,page)=none/\e=.returned (vi 0)/\Step w w' k (S.mapped i page f) fp):=by
 refine(vc39 _ 1 page f w (fun v w'=>((page<0\/page>=1024)/\v=(vi 2)/\Step w w' k S fp)\/
  ((0<=page/\page<1024)/\lfE S.by' S.n (S.root 1) page≠0/\v=(vi 7)/\Step w w' k S fp)\/
  ((0<=page/\page<1024)/\lfE S.by' S.n (S.root 1) page=0/\(S.rof f).1≠0/\v=(vi 80)/\Step w w' k S fp)\/
  ((0<=page/\page<1024)/\lfE S.by' S.n (S.root 1) page=0/\(S.rof f).1=0/\(S.rat.lookup (1,page)).isSome=true/\v=(vi 8)/\Step w w' k S fp)\/
  ((0<=page/\page<1024)/\lfE S.by' S.n (S.root 1) page=0/\(S.rof f).1=0/\S.rat.lookup (1,page)=none/\v=(vi 0)/\Step w w' k (S.mapped i page f) fp)) ?_).mono ?_
 rotate_left
 ·rintro e w' ⟨v,rfl,⟨g1,rfl,g2⟩|⟨g1,g2,rfl,g3⟩|⟨g1,g2,g3,rfl,g4⟩|⟨g1,g2,g3,g4,rfl,g5⟩|⟨g1,g2,g3,g4,rfl,g5⟩⟩
  ·exact .inl ⟨g1,rfl,g2⟩
  ·exact .inr (.inl ⟨g1,g2,rfl,g3⟩)
  ·exact .inr (.inr (.inl ⟨g1,g2,g3,rfl,g4⟩))
  ·exact .inr (.inr (.inr (.inl ⟨g1,g2,g3,g4,rfl,g5⟩)))
  ·exact .inr (.inr (.inr (.inr ⟨g1,g2,g3,g4,rfl,g5⟩)))
 have hn:=h.n4;have hs:=h.BO;have esp:∀{W:WD}{S':AL}{fp':Prt->Nat->Prop},AJ W k S' fp'->S'.sp 1=some b->rd W k (0+105+Int.toNat 1*1)=some (ptr b):=fun C e=>by
  have:=C.rt (j:=12) (v:=spV (_)) rfl;rw [e] at this;exact this
 have ert:∀{W:WD}{S':AL}{fp':Prt->Nat->Prop},AJ W k S' fp'->S'.sp 1=some b->rd W b (0+1)=some (vi (S'.root 1)):=fun {W S' fp'} C e=>by
  have SP:EX W (fp' (.space 1)) b (S'.root 1) (S'.pins 1):=C.at' (.space 1) b e;obtain⟨_,_,_,_,a1,_⟩:=SP.ex;rw [a1.rd];rfl
 unfold Q;refine AG rfl (AG rfl (AA rfl (AA rfl ⟨_,esp h hb,(KE h f (by omega)).mono ?_⟩)));rintro _ w1 ⟨k1,⟨i',hi',q1,q2,rfl⟩|⟨q1,rfl⟩⟩
 rotate_left
 ·exfalso;have:=IA h.my (i:=i+1) (j:=S.nodes) (by omega) (nlr _);omega
 have:i'=i:=CH h.my hi' hi q1 q2 h1 h2;subst this;have C1:=h.k k1;refine⟨_,rfl,AE (fun hc=>.inl ⟨by simp at hc;omega,rfl,h.JE k1⟩) (fun hc=>?_)⟩;have hp:0<=page/\page<1024:=by simp at hc;omega
 refine AG rfl fun w2 e2=>?_;have k2:Kept AB w w2:=k1.dr e2;have C2:=h.k k2;refine AA rfl ⟨_,by have:=h.rtW k2 (j:=0) rfl;exact this,AA rfl ⟨_,ert C2 hb,(core_leaf C2 hby _ page).mono ?_⟩⟩;rintro _ w3 ⟨rfl,k23⟩;have k3:=k2.tr k23;have C3:=h.k k3;refine⟨_,_,rfl,AE (fun hc=>.inr (.inl ⟨hp,by simpa using hc,rfl,h.JE k3⟩)) (fun hc=>?_)⟩;have hle:lfE S.by' S.n (S.root 1) page=0:=by simpa using hc
 refine AA rfl ⟨_,by have:=h.rtW k3 (j:=4) rfl;exact this,(core_rset C3 hf (pid:=1) (page:=page) (by omega) hp hv).mono ?_⟩;have S3:=h.JE k3;have id3:∀(p:Prt) (x:Nat),fp p x->fp p x\/rng w w3 x:=fun _ _=>.inl;rintro _ w4 (⟨g1,rfl,T4⟩|⟨g1,g2,rfl,T4⟩|⟨g1,g2,rfl,T4⟩)
 ·exact⟨_,rfl,AA rfl (.inr (.inr (.inl ⟨hp,hle,g1,rfl,S3.tr id3 T4⟩)))⟩
 ·exact⟨_,rfl,AA rfl (.inr (.inr (.inr (.inl ⟨hp,hle,g1,g2,rfl,S3.tr id3 T4⟩))))⟩
 have S4:=S3.tr id3 T4;obtain⟨fp4,C4,f4⟩:=S4.ex;refine⟨_,rfl,AG rfl fun w5 e5=>?_⟩;have k45:=kdr e5;have C5:=C4.k k45;have S5:=S4.tr f4 (C4.JE k45);have f5:∀p x,fp4 p x->fp p x\/rng w w5 x:=fun p x hx=>(f4 p x hx).imp id fun e=>⟨e.1,by have:=k45.sz;have:=e.2;omega⟩;refine AA rfl ⟨_,by have:=C4.rtW k45 (j:=0) rfl;exact this,AA rfl ⟨_,ert C5 hb,(core_set C5 hby _ page 1 f).mono ?_⟩⟩;rintro _ w6 ⟨rfl,T6⟩;have S6:=S5.tr f5 T6;obtain⟨fp6,C6,f6⟩:=S6.ex;refine⟨_,rfl,AA rfl ⟨_,by have:=C6.rtW kr (j:=0) rfl;exact this,(EJ C6 f ⟨4,0,1,page,0⟩).mono ?_⟩⟩;rintro _ w7 ⟨rfl,T7⟩;have S7:=S6.tr f6 T7;obtain⟨fp7,C7,f7⟩:=S7.ex;obtain⟨g,cp,cb,hvk,hrd,hadd,_⟩:=core_clk C7 (i:=i') hi;have r7:rd w7 k (0+100)=some (.slice (some ⟨g,0,none⟩) S.nodes cp):=by
  have:=C7.rtW kr (j:=6) rfl;rw [hvk] at this;exact this
 refine⟨_,rfl,AA rfl ⟨_,_,_,r7,AA rfl (Wi ⟨_,by rw [tnc,mo];show rd w7 g (0+i')=_;rw [za];exact hrd,(hadd ok (by omega) (hno g1) hl).mono ?_⟩)⟩⟩;rintro _ w8 ⟨rfl,T8⟩;exact⟨_,rfl,.inr (.inr (.inr (.inr ⟨hp,hle,g1,g2,rfl,S7.tr f7 T8⟩)))⟩
theorem MP(h:AJ w k S fp){fr:Int}(hfr:-9223372036854775808<=fr/\fr<=9223372036854775807):Calls prog 187 #[ptr k,vi fr] w fun e w'=>
 (∃i l',i<S.nodes/\AN S.c i<=fr/\fr<AN S.c (i+1)/\e=.returned (vi 0)/\HY (S.L i) (fr-AN S.c i) 0 0 l'/\Step w w' k ((S.JH (upd S.L i l')).GQ (smS S.mks S.n fr CM)) fp)\/
 (∃i,i<S.nodes/\AN S.c i<=fr/\fr<AN S.c (i+1)/\e=.returned (vi 2)/\(fr-AN S.c i,0)∉tk (S.L i)/\Step w w' k S fp)\/
 ((fr<0\/AN S.c S.nodes<=fr)/\e=.returned (vi 2)/\Step w w' k S fp):=by
 refine(vc187 _ fr w (fun v w'=>(∃i l',i<S.nodes/\AN S.c i<=fr/\fr<AN S.c (i+1)/\v=(vi 0)/\HY (S.L i) (fr-AN S.c i) 0 0 l'/\Step w w' k ((S.JH (upd S.L i l')).GQ (smS S.mks S.n fr CM)) fp)\/
  (∃i,i<S.nodes/\AN S.c i<=fr/\fr<AN S.c (i+1)/\v=(vi 2)/\(fr-AN S.c i,0)∉tk (S.L i)/\Step w w' k S fp)\/
  ((fr<0\/AN S.c S.nodes<=fr)/\v=(vi 2)/\Step w w' k S fp)) ?_).mono ?_
 rotate_left
 ·rintro e w' ⟨v,rfl,⟨i,l',g1,g2,g3,rfl,g4⟩|⟨i,g1,g2,g3,rfl,g4⟩|⟨g1,rfl,g2⟩⟩
  ·exact .inl ⟨i,l',g1,g2,g3,rfl,g4⟩
  ·exact .inr (.inl ⟨i,g1,g2,g3,rfl,g4⟩)
  ·exact .inr (.inr ⟨g1,rfl,g2⟩)
 unfold Q;refine AG rfl (AA rfl ⟨_,by have:=h.rtW kr (j:=1) rfl;exact this,(core_give h fr 0 hfr).mono ?_⟩);rintro _ w1 (⟨i,e,l',hi,h1,h2,rfl,T1,G⟩|⟨h1,rfl,T1⟩)
 ·rcases G with⟨g1,rfl,rfl⟩|⟨x,g1,g2,g3,g4,rfl,g5⟩
  ·refine⟨_,rfl,AA rfl (.inr (.inl ⟨i,hi,h1,h2,rfl,g1,?_⟩))⟩;have:upd S.L i (S.L i)=S.L:=by
    funext j;by_cases e:j=i
    ·subst e;rw [upd_same]
    ·rw [AH _ _ e]
   have e:S.JH (upd S.L i (S.L i))=S:=by rw [this]
   rw [e] at T1;exact T1
  ·obtain⟨fp1,C1,f1⟩:=T1.ex;refine⟨_,rfl,AG rfl (AA rfl ⟨_,by have:=C1.rtW kr (j:=0) rfl;exact this,(EJ C1 fr CM).mono ?_⟩)⟩;rintro _ w2 ⟨rfl,T2⟩;exact⟨_,rfl,.inl ⟨i,l',hi,h1,h2,rfl,.inr ⟨x,g1,g2,g3,g4,rfl,g5⟩,T1.tr f1 T2⟩⟩
 ·exact⟨_,rfl,AA rfl (.inr (.inr ⟨h1,rfl,T1⟩))⟩
end
end Go.Proofs.YtdgbechegbmpcaaGreatDoor
