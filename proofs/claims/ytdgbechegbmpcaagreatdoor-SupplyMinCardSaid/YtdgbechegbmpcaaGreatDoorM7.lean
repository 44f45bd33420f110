/- Part of a proof that a law returns true. Conditions: those in each theorem. -/
import Derived.Test.YtdgbechegbmpcaaGreatDoorBS5
set_option linter.unusedSimpArgs false
set_option linter.unusedVariables false
set_option maxRecDepth 100000
namespace Go.Proofs.YtdgbechegbmpcaaGreatDoor
open Go Go.Eng Go.Proofs.Tryz
open Go.Value (bool func slice agg int)
open Option (isNone)
open Go.IntKind (wrap)
open List (replicate range)
variable {Y:NP}{W W':WD}{b c1 c2 f i j who:Nat}{cs:List Value}{root:Int}{v0 v1 v2 v3 v4 v5:Value}{S:AR}{fp:Prt->Nat->Prop}{c:NI}
def D8(by':NI)(n:Nat)(root:Int)(q:Nat):List (Int×Int):=(range q).filterMap λi:Nat=>if lfE by' n root ((i:Int)*32)=0 then some ((i:Int),lfN by' n root ((i:Int)*32)) else none
def DF(by':NI)(n:Nat)(root:Int)(q:Nat):List FV:=(range q).filterMap λi:Nat=>if gtE by' n root (i:Int)=0/\gtK by' n root (i:Int)≠0 then some ⟨(i:Int),gtK by' n root (i:Int),gtN by' n root (i:Int)⟩ else none
theorem LS(by':NI)(n:Nat)(root:Int)(q:Nat):D8 by' n root (q+1)=D8 by' n root q++(if lfE by' n root ((q:Int)*32)=0 then [((q:Int),lfN by' n root ((q:Int)*32))] else []):=by
 unfold D8;rw [List.range_succ,List.filterMap_append];congr 1;by_cases h:lfE by' n root ((q:Int)*32)=0 <;> simp [h]
theorem GS(by':NI)(n:Nat)(root:Int)(q:Nat):DF by' n root (q+1)=DF by' n root q++(if gtE by' n root (q:Int)=0/\gtK by' n root (q:Int)≠0 then [⟨(q:Int),gtK by' n root (q:Int),gtN by' n root (q:Int)⟩] else []):=by
 unfold DF;rw [List.range_succ,List.filterMap_append];congr 1;by_cases h:gtE by' n root (q:Int)=0/\gtK by' n root (q:Int)≠0
 .simp only [if_pos h,List.filterMap_cons,List.filterMap_nil]
 .simp only [if_neg h,List.filterMap_cons,List.filterMap_nil]
theorem A3d(by':NI)(n:Nat)(root:Int)(q:Nat):(D8 by' n root q).length<=q:=Nat.le_trans (List.length_filterMap_le _ _) (by simp)
theorem A4u(by':NI)(n:Nat)(root:Int)(q:Nat):(DF by' n root q).length<=q:=Nat.le_trans (List.length_filterMap_le _ _) (by simp)
theorem NY(by':NI)(n:Nat)(root:Int)(q:Nat):∀{m:Nat},q<=m->∃r,D8 by' n root m=D8 by' n root q++r
 | 0,h=>⟨[],by rw [show q=0 by omega];simp⟩
 | m+1,h=>by
  by_cases e:q=m+1
  .exact⟨[],by rw [e];simp⟩
  .obtain⟨r,hr⟩:=NY by' n root q (m:=m) (by omega);exact⟨r++_,by rw [LS,hr,List.append_assoc]⟩
theorem QH(by':NI)(n:Nat)(root:Int)(q:Nat):∀{m:Nat},q<=m->∃r,DF by' n root m=DF by' n root q++r
 | 0,h=>⟨[],by rw [show q=0 by omega];simp⟩
 | m+1,h=>by
  by_cases e:q=m+1
  .exact⟨[],by rw [e];simp⟩
  .obtain⟨r,hr⟩:=QH by' n root q (m:=m) (by omega);exact⟨r++_,by rw [GS,hr,List.append_assoc]⟩
theorem B7d{α:Type}{l l' r:List α}{x:α}(h:l'=(l++[x])++r):l'[l.length]? = some x:=by rw [h];simp
def B91(c1 c2 m bb mb:Nat)(x:Nat):Prop:=x=c1\/x=c2\/x=m\/x=bb\/x=mb
section
variable {w:WD}{m bb mb:Nat}{c:NI}{n:Nat}{by':NI}{mk:Nat->Mark}
theorem FU(k:DL Y W W')(hb:Y b)(o:AX W b cs):AX W' b cs:=by
 obtain⟨t,h⟩:=o;exact⟨t,(k.blk b hb).trans h⟩
theorem BU.kY(h:BU W m bb mb c n by' mk)(k:DL Y W W')(h1:Y m)(h2:Y bb)(h3:Y mb):BU W' m bb mb c n by' mk:=⟨FU k h1 h.so,FU k h2 h.bs,FU k h3 h.ms,h.ne⟩
theorem A3c(h:BU w m bb mb c n by' mk)(hb:ByR by')(hn:n<=1024)(o1:AX w c1 [AP m])(o2:AX w c2 [vi root]) :
 EM prog 257 [AP c1,AP c2] ((D8 by' n root 32).map λx=>[vi x.1,vi x.2]) (B91 c1 c2 m bb mb) w:=by
 refine⟨λy J Jx W hk hab habx hY h0=>?_⟩;refine(vc257 y (some ⟨c1,0,none⟩) (some ⟨c2,0,none⟩) W (λv w'=>(∃Y,J Y ((D8 by' n root 32).map λx=>[vi x.1,vi x.2]).length w')\/∃Y,Jx Y w') ?_).AE ?_
 rotate_left
 .rintro e w' ⟨v,rfl,hw⟩;exact⟨⟨v,rfl⟩,hw⟩
 unfold Q;refine⟨λq W' N=>∃(j:Nat) (Y:NP),q=j/\j<=32/\N=32-j/\J Y (D8 by' n root j).length W'/\BU W' m bb mb c n by' mk/\AX W' c1 [AP m]/\AX W' c2 [vi root],⟨32,0,_,rfl,by omega,rfl,h0,h.k hk,o1.k hk,o2.k hk⟩,?_⟩;rintro _ w1 _ ⟨j,Y,rfl,hj,rfl,hJ,M,p1,p2⟩;refine AH (λhc=>?_) (λhc=>?_)
 .have hj32:j<32:=by simp at hc;omega
  refine AA rfl ⟨_,by show rd w1 c1 0=_;rw [p1.rd];rfl,AA rfl ⟨_,by show rd w1 c2 0=_;rw [p2.rd];rfl,?_⟩⟩;rw [wi (x:=(j:Int)*32) (by omega)];refine(KQ M hb hn root _).AE ?_;rintro _ w2 ⟨rfl,k2⟩;have M2:=M.k k2;have q1:=p1.k k2;have q2:=p2.k k2;have hJ2:=hab _ _ _ _ hJ (k2.AE λ_ _ e=>e.elim);have es:=LS by' n root j;refine⟨_,_,rfl,AH (λhe=>?_) (λhe=>?_)⟩
  .have hz:lfE by' n root ((j:Int)*32)=0:=by simpa using he
   rw [if_pos hz] at es;obtain⟨r,hr⟩:=NY by' n root (j+1) (m:=32) (by omega);rw [es] at hr;have hy:=hY _ _ [vi (j:Int),vi (lfN by' n root ((j:Int)*32))] w2 (by rw [gmp,B7d hr];rfl) hJ2;obtain⟨fn,tm,asg',bo,hrun,hR⟩:=hy.run;refine⟨fn,tm,asg',bo,hrun,hR.mono ?_⟩;rintro en w6 ⟨k6,⟨rfl,hJ6⟩|⟨rfl,hx6⟩⟩
   .refine⟨true,rfl,AL rfl ⟨32-(j+1),by omega,j+1,_,wzz,hj32,rfl,by rw [es,lap];exact hJ6,M2.kY k6 (.inr (.inr (.inr (.inl rfl)))) (.inr (.inr (.inr (.inr (.inl rfl))))) (.inr (.inr (.inr (.inr (.inr rfl))))),FU k6 (.inr (.inl rfl)) q1,FU k6 (.inr (.inr (.inl rfl))) q2⟩⟩
   .exact⟨false,rfl,AA rfl (.inr ⟨_,hx6⟩)⟩
  .have hz:lfE by' n root ((j:Int)*32)≠0:=by simpa using he
   rw [if_neg hz,List.append_nil] at es;exact⟨32-(j+1),by omega,j+1,_,wzz,hj32,rfl,by rw [es];exact hJ2,M2,q1,q2⟩
 .have:j=32:=by simp at hc;omega
  subst this;exact .inl ⟨Y,by rw [lmp];exact hJ⟩
theorem A4t(h:BU w m bb mb c n by' mk)(hb:ByR by')(hn:n<=1024)(o1:AX w c1 [AP m])(o2:AX w c2 [vi root]) :
 EM prog 258 [AP c1,AP c2] ((DF by' n root 1024).map λx=>[vi x.page,.agg #[.int .u8 x.kind,vi x.n]]) (B91 c1 c2 m bb mb) w:=by
 refine⟨λy J Jx W hk hab habx hY h0=>?_⟩;refine(vc258 y (some ⟨c1,0,none⟩) (some ⟨c2,0,none⟩) W (λv w'=>(∃Y,J Y ((DF by' n root 1024).map λx=>[vi x.page,.agg #[.int .u8 x.kind,vi x.n]]).length w')\/∃Y,Jx Y w') ?_).AE ?_
 rotate_left
 .rintro e w' ⟨v,rfl,hw⟩;exact⟨⟨v,rfl⟩,hw⟩
 unfold Q;refine⟨λq W' N=>∃(j:Nat) (Y:NP),q=j/\j<=1024/\N=1024-j/\J Y (DF by' n root j).length W'/\BU W' m bb mb c n by' mk/\AX W' c1 [AP m]/\AX W' c2 [vi root],⟨1024,0,_,rfl,by omega,rfl,h0,h.k hk,o1.k hk,o2.k hk⟩,?_⟩;rintro _ w1 _ ⟨j,Y,rfl,hj,rfl,hJ,M,p1,p2⟩;refine AH (λhc=>?_) (λhc=>?_)
 .have hj32:j<1024:=by simp at hc;omega
  refine AA rfl ⟨_,by show rd w1 c1 0=_;rw [p1.rd];rfl,AA rfl ⟨_,by show rd w1 c2 0=_;rw [p2.rd];rfl,(A6z M hb hn root _).AE ?_⟩⟩;rintro _ w2 ⟨rfl,k2⟩;refine⟨_,_,_,rfl,λw3 e3=>?_⟩;have x3:=AG e3;have k3:=kal e3;refine⟨wr2 x3,λw4 e4=>?_⟩;obtain⟨x4,k4'⟩:=JU x3 e4;have k4:AB AD w1 w4:=k2.tr (BO k3 k4' λx e=>by omega);obtain⟨r0,r1⟩:=rd2 x4;have M2:=M.k k4;have q1:=p1.k k4;have q2:=p2.k k4;have hJ2:=hab _ _ _ _ hJ (k4.AE λ_ _ e=>e.elim);have es:=GS by' n root j;refine⟨_,(λ_=>r0),_,_,(λ_=>⟨r0,r1⟩),AH (λhe=>?_) (λhe=>?_)⟩
  .have hz:gtE by' n root (j:Int)=0/\gtK by' n root (j:Int)≠0:=by simpa using he
   rw [if_pos hz] at es;obtain⟨r,hr⟩:=QH by' n root (j+1) (m:=1024) (by omega);rw [es] at hr;have hy:=hY _ _ [vi (j:Int),.agg #[.int .u8 (gtK by' n root (j:Int)),vi (gtN by' n root (j:Int))]] w4 (by rw [gmp,B7d hr];rfl) hJ2;obtain⟨fn,tm,asg',bo,hrun,hR⟩:=hy.run;refine⟨fn,tm,asg',bo,hrun,hR.mono ?_⟩;rintro en w6 ⟨k6,⟨rfl,hJ6⟩|⟨rfl,hx6⟩⟩
   .refine⟨true,rfl,AL rfl ⟨1024-(j+1),by omega,j+1,_,wzz,hj32,rfl,by rw [es,lap];exact hJ6,M2.kY k6 (.inr (.inr (.inr (.inl rfl)))) (.inr (.inr (.inr (.inr (.inl rfl))))) (.inr (.inr (.inr (.inr (.inr rfl))))),FU k6 (.inr (.inl rfl)) q1,FU k6 (.inr (.inr (.inl rfl))) q2⟩⟩
   .exact⟨false,rfl,AA rfl (.inr ⟨_,hx6⟩)⟩
  .have hz:¬(gtE by' n root (j:Int)=0/\gtK by' n root (j:Int)≠0):=λhh=>by
    rw [show(gtE by' n root (j:Int)==0&&gtK by' n root (j:Int)!=0)=true by simpa using hh] at he
    cases he
   rw [if_neg hz,List.append_nil] at es;exact⟨1024-(j+1),by omega,j+1,_,wzz,hj32,rfl,by rw [es];exact hJ2,M2,q1,q2⟩
 .have:j=1024:=by simp at hc;omega
  subst this;exact .inl ⟨Y,by rw [lmp];exact hJ⟩
end
structure B3x{α:Type}(kx B:Nat)(cs:List Value)(o:Nat)(w4:WD)(T s:Nat)(f:α->List Value)(xs:List α)(Y:NP)(i:Nat)(W:WD):Prop where
 kp:AB (·=kx) w4 W
 le:i<=xs.length
 ex:∃(a:OA) (cc:Nat),AX W kx (cs.set o (.slice a i cc))/\W.ownsRow (B+2) T s (.slice a i cc) i ((xs.take i).flatMap f)/\∀x,Y x->x<W.heap.size/\(slice a i cc).ownBlock≠some x
section
variable {α:Type}{kx B:Nat}{cs:List Value}{o:Nat}{w4:WD}{T s:Nat}{f:α->List Value}{xs:List α}{Y:NP}{i:Nat}{W:WD}
theorem B3x.ab(h:B3x kx B cs o w4 T s f xs Y i W)(hk:kx<B)(hB:B=w4.heap.size)(hY:∀b,Y b->B+2<=b)(k':AB (EB B Y) W W'):B3x kx B cs o w4 T s f xs (λb=>Y b\/(W.heap.size<=b/\b<W'.heap.size)) i W':=by
 obtain⟨a,cc,g2,g3,g4⟩:=h.ex;have hsz:=k'.sz;have h1:=h.kp.sz;refine⟨h.kp.trans k' λx hx hh=>?_,h.le,a,cc,g2.kx k' (λhx=>by rcases hx with h|h|h;omega;omega;have:=hY _ h;omega),BA g3 k' λx hx _ hb hh=>(by rcases hh with h|h|h;omega;omega;exact(g4 x h).2 hb),λx hx=>?_⟩
 .rcases hh with rfl|rfl|h3
  .omega
  .omega
  .have:=hY x h3;omega
 .rcases hx with hx|hx
  .have:=g4 x hx;exact⟨by omega,this.2⟩
  .refine⟨hx.2,λe=>?_⟩;have:=(g3.lt x e).2;omega
theorem B3x.step{S:Nat}(hT:ElT prog S T s)(ho:o<cs.length){R Z:NP}{p:α}{w7:WD}(h:B3x kx B cs o w4 T s f xs Y i W)(hk:kx<B)(hB:B=w4.heap.size)(hY:∀b,Y b->B+2<=b)(hsz:B+2<=W.heap.size)(hl:xs.length<=100000)(hR:∀b,R b->b<B/\b≠kx)
 (hp:xs[i]? = some p) (hs:∀x,(f x).length=s) (h1:∀u∈f p,u.oneCell'=true) (k7:AB Z W w7) (hZ:∀b,Z b->b=B+1\/W.heap.size<=b) :
 ∃(a:OA) (cc:Nat),rd w7 kx o=some (.slice a i cc)/\∀w8,w8=w7.alloc (.cells (f p).toArray T)->∃(a':OA) (l' c':Nat) (w9:WD),BL prog #[S,S] S (.slice a i cc) (.slice (some ⟨w7.heap.size,0,none⟩) 1 1) (.slice a' l' c') w8 w9/\wr w9 kx o/\
  ∀w10,w10=st w9 kx o (.slice a' l' c')->CA B w7 w10/\DL (λb=>Y b\/R b) W w10/\B3x kx B cs o w4 T s f xs Y (i+1) w10:=by
 obtain⟨a,cc,g2,g3,g4⟩:=h.ex;have hil:=(DC.1 hp).1;have hW7:=k7.sz;have hg:=g2.lt;have kW7:AB (·=B+1) W w7:=k7.AE λb hb hz=>(hZ b hz).resolve_right (by omega);refine⟨a,cc,by rw [(g2.kx kW7 (by omega)).rd,List.getElem?_set_self ho],λw8 e8=>?_⟩;have k8:=kal e8;have row7:=BA g3 kW7 λx hx _ _ hh=>by omega
 have row8:=BA row7 k8 λ_ _ _ _=>id;have hs8:=k8.sz;obtain⟨t0,z,hi,hz,hsz0,hzs,hby⟩:=hT.ex;obtain⟨a',l',c',w9,happ,rfl,row9,k9,hon⟩:=JP (P:=prog) (t:=S) (e:=T) (i:=t0) (z:=z) (size:=s) hT.sl hi hz hsz0 hzs hT.pos row8 (AG e8) (m:=1) (off:=0) (c:=1) (news:=f p) (by rw [List.drop_zero,Nat.one_mul,List.take_of_length_le (Nat.le_of_eq (hs p))]) (by rw [hs,Nat.one_mul]) h1 (by omega) hby (by omega);have g9:=((g2.kx kW7 (by omega)).k k8).kx k9 λe=>by have:=(row8.lt _ e).1;omega
 refine⟨a',_,c',w9,happ,g9.wr (by rw [List.length_set];exact ho),λw10 e10=>?_⟩;have k10:AB (·=kx) w9 w10:=kr.s1 e10 (.inl rfl);have g10:=g9.s1 e10;rw [List.set_set] at g10;have K710:AB (λx=>x=kx\/(slice a i cc).ownBlock=some x) w7 w10:=((k8.AE λ_ _ h=>h.elim).trans k9 λx _ h=>.inr h).trans k10 λx _ h=>.inl h;have KW10:AB (λx=>x=B+1\/x=kx\/(slice a i cc).ownBlock=some x) W w10:=(kW7.AE λ_ _ h=>.inl h).trans K710 λx _ h=>.inr h;have hl10:=KW10.sz;have hgB:=h.kp.sz;refine⟨DY K710 (by omega) (λh=>?_) (λh=>?_),A6n KW10 λy hy=>?_,?_,hil,a',c',g10,?_,λy hy=>?_⟩
 .rcases h with h|h
  .omega
  .have:=(row7.lt _ h).1;omega
 .rcases h with h|h
  .omega
  .have:=(row7.lt _ h).1;omega
 .rcases hy with hy|hy
  .have h1:=hY y hy;have h2:=g4 y hy;refine⟨h2.1,λhh=>?_⟩;rcases hh with h|h|h
   .have h5:=h2.1;have:y=B+1:=h;omega
   .omega
   .exact h2.2 h
  .have h1:=hR y hy;refine⟨by omega,λhh=>?_⟩;rcases hh with h|h|h
   .omega
   .omega
   .have:=(g3.lt _ h).1;omega
 .refine C1i h.kp KW10 λy hy=>?_;rcases hy with h|h|h
  .right;omega
  .exact .inl h
  .right;have:=(g3.lt _ h).1;omega
 .have e1:(xs.take (i+1)).flatMap f=(xs.take i).flatMap f++f p:=by
   rw [List.take_add_one,hp,List.flatMap_append];simp
  rw [e1];exact BA row9 k10 λy hy _ _ h=>by omega
 .have h1:=hY y hy;have h2:=g4 y hy;refine⟨by omega,λe=>?_⟩;rcases hon with h3|h3
  .rw [h3] at e;exact h2.2 e
  .have:=h3 y e;omega
theorem B3x.fin(h:B3x kx B cs o w4 T s f xs Y xs.length W):∃(a:OA) (cc:Nat),AX W kx (cs.set o (.slice a xs.length cc))/\W.ownsRow (B+2) T s (.slice a xs.length cc) xs.length (xs.flatMap f):=by
 obtain⟨a,cc,g2,g3,g4⟩:=h.ex;rw [List.take_length] at g3;exact⟨a,cc,g2,g3⟩
end
theorem C2c:ElT prog 143 332 2:=elT (z:=.agg #[.int .i64 0,.int .i64 0]) underlying143 (by kernel_rfl) rfl (by decide)
theorem B56:ElT prog 144 149 3:=elT (z:=.agg #[.int .i64 0,.int .u8 0,.int .i64 0]) underlying144 (by kernel_rfl) rfl (by decide)
def B5c(x:Int×Int):List Value:=[vi x.1,vi x.2]
def C3s(x:FV):List Value:=[vi x.page,.int .u8 x.kind,vi x.n]
theorem st6{w w':WD}(h:AX w b cs)(hl:cs.length=6)(e:w'=st (st (st (st (st (st w b 0 v0) b 1 v1) b 2 v2) b 3 v3) b 4 v4) b 5 v5):AX w' b [v0,v1,v2,v3,v4,v5]/\AB (·=b) w w':=by
 subst e
 match cs,hl with
 | [a,c,d,e,f,g],_=>exact⟨h.BT.BT.BT.BT.BT.BT,((((((AB.refl (·=b) w).st (.inl rfl)).st (.inl rfl)).st (.inl rfl)).st (.inl rfl)).st (.inl rfl)).st (.inl rfl)⟩
theorem wr6{w:WD}(h:AX w b cs)(hl:cs.length=6):wr w b 0/\wr w b 1/\wr w b 2/\wr w b 3/\wr w b 4/\wr w b 5:=⟨h.wr (by omega),h.wr (by omega),h.wr (by omega),h.wr (by omega),h.wr (by omega),h.wr (by omega)⟩
theorem rd6{w:WD}(h:AX w b [v0,v1,v2,v3,v4,v5]):rd w b 0=some v0/\rd w b 1=some v1/\rd w b 2=some v2/\rd w b 3=some v3/\rd w b 4=some v4/\rd w b 5=some v5:=⟨by rw [h.rd];rfl,by rw [h.rd];rfl,by rw [h.rd];rfl,by rw [h.rd];rfl,by rw [h.rd];rfl,by rw [h.rd];rfl⟩
abbrev A38:List Value:=[vi 0,vi 0,.slice none 0 0,.slice none 0 0,.slice none 0 0,.slice none 0 0]
def FH(S:AR)(i:Nat):PM:=⟨i,S.root i,D8 S.by' S.n (S.root i) 32,DF S.by' S.n (S.root i) 1024,[],[]⟩
set_option maxHeartbeats 4000000 in
theorem A2z{w:WD}{k:Nat}(T:GV w)(h:AO w k S fp)(hi:i<9)(hb:S.sp i=some b)(hby:ByR S.by') :
 Calls prog 137 #[AP k,vi i,AP b] w λe w'=>∃(x y:Int) (a1:OA) (l1 c1:Nat) (a2:OA) (l2 c2:Nat) (a3:OA) (l3 c3:Nat) (a4:OA) (l4 c4:Nat),
  e=.returned (.agg #[vi x,vi y,.slice a1 l1 c1,.slice a2 l2 c2,.slice a3 l3 c3,.slice a4 l4 c4])/\AB AD w w'/\At (rng w w') (λW'=>OG W' [vi x,vi y,.slice a1 l1 c1,.slice a2 l2 c2,.slice a3 l3 c3,.slice a4 l4 c4] (FH S i)) w':=by
 refine(vc137 _ i _ w (λv w'=>∃(x y:Int) (a1:OA) (l1 c1:Nat) (a2:OA) (l2 c2:Nat) (a3:OA) (l3 c3:Nat) (a4:OA) (l4 c4:Nat),
  v=(.agg #[vi x,vi y,.slice a1 l1 c1,.slice a2 l2 c2,.slice a3 l3 c3,.slice a4 l4 c4])/\AB AD w w'/\At (rng w w') (λW'=>OG W' [vi x,vi y,.slice a1 l1 c1,.slice a2 l2 c2,.slice a3 l3 c3,.slice a4 l4 c4] (FH S i)) w') ?_).AE ?_
 rotate_left
 .rintro e w' ⟨v,rfl,x,y,a1,l1,c1,a2,l2,c2,a3,l3,c3,a4,l4,c4,rfl,hw⟩;exact⟨x,y,a1,l1,c1,a2,l2,c2,a3,l3,c3,a4,l4,c4,rfl,hw⟩
 unfold Q;intro w1 e1;have or1:AX w1 w.heap.size A38:=AG e1;have k1:=kal e1;have hs1:=or1.lt;clear e1;have SP0:EX w1 (fp (.space i)) b (S.root i) (S.pins i):=(h.k k1).at' (.space i) b hb;obtain⟨ab,pb',wb,mb',s1,s2,s3,s4,_,_⟩:=SP0.ex;obtain⟨bb,mb,M0,hm1,hm2,hm3⟩:=(h.k k1).at' .mem;have hl1:=h.lt _ _ hm1;have hl2:=h.lt _ _ hm2;have hl3:=h.lt _ _ hm3;have r0:∀{W:WD},AB AD w1 W->rd W b 0=some (AP ab):=λkk=>by rw [(s1.k kk).rd];rfl
 have r1:∀{W:WD},AB AD w1 W->rd W b (0+1)=some (vi (S.root i)):=λkk=>by rw [(s1.k kk).rd];rfl
 have r2:∀{W:WD},AB AD w1 W->rd W b (0+2)=some (AP pb'):=λkk=>by rw [(s1.k kk).rd];rfl
 have pins:∀{W:WD}{cb:Nat},AB AD w1 W->AX W cb [AP pb']->Calls prog 205 #[.func (.func 251) #[] #[AP cb]] W λe w'=>∃a l c,e=.returned (.slice a l c)/\AB AD W w'/\True:=λkk o=>(B01 ((T.k k1).k kk) (by rw [o.rd];rfl) (s3.k kk) (s4.k kk) SP0.lt).AE λ_ _ ⟨a,l,c,e,k⟩=>⟨a,l,c,e,k,trivial⟩;have runs:∀{W:WD}{cb:Nat},AB AD w1 W->AX W cb [AP ab]->Calls prog 207 #[.func (.func 255) #[] #[AP cb]] W λe w'=>∃a l c,e=.returned (.slice a l c)/\AB AD W w'/\NoL a l c:=λkk o=>B0k (by rw [o.rd];rfl) (s2.k kk);refine⟨λp W=>∃(b1:Nat) (a:OA) (l c:Nat) (a':OA) (l' c':Nat),p=some ⟨b1,0,none⟩/\AB AD w1 W/\AX W b1 [vi i,vi (S.root i),.slice none 0 0,.slice none 0 0,.slice a l c,.slice a' l' c']/\w1.heap.size<=b1/\True/\NoL a' l' c',?_,?_⟩
 ·
  have fin:∀{W:WD}{bx:Nat}{a:OA}{l c:Nat}{a':OA}{l' c':Nat},AX W bx A38->AB AD w1 W->w1.heap.size<=bx->True->NoL a' l' c'->
   (wr W bx 0/\wr W bx 1/\wr W bx 2/\wr W bx 3/\wr W bx 4/\wr W bx 5)/\∀w_3:WD,w_3=st (st (st (st (st (st W bx 0 (vi i)) bx 1 (vi (S.root i))) bx 2 (.slice none 0 0)) bx 3 (.slice none 0 0)) bx 4 (.slice a l c)) bx 5 (.slice a' l' c')->
    (λ(p:OA) (W:WD)=>∃(b1:Nat) (a:OA) (l c:Nat) (a':OA) (l' c':Nat),p=some ⟨b1,0,none⟩/\AB AD w1 W/\AX W b1 [vi i,vi (S.root i),.slice none 0 0,.slice none 0 0,.slice a l c,.slice a' l' c']/\w1.heap.size<=b1/\True/\NoL a' l' c') (some ⟨bx,0,none⟩) w_3:=λo kk hx N1 N2=>by
   refine⟨wr6 o rfl,λw3 e3=>?_⟩;obtain⟨o3,k3⟩:=st6 o rfl e3;exact⟨_,_,_,_,_,_,_,rfl,BO kk k3 λx e=>by omega,o3,hx,N1,N2⟩
  intro w2 e2;have k2:=kdr e2;have hs2:=k2.sz;refine AA rfl ⟨_,r1 k2,AA rfl ⟨_,r2 k2,AA rfl ⟨_,r0 k2,λw3 e3=>?_,λw3 e3=>?_⟩⟩⟩
  .have o3:=AG e3;have k3:AB AD w1 w3:=k2.al e3;have hs3:=k3.sz;refine⟨⟨r0 k3,trivial⟩,⟨r1 k3,trivial⟩,(pins k3 o3).AE ?_,λw4 e4=>?_⟩
   .rintro _ w4 ⟨a,l,c,rfl,k34,N1⟩;have k4:=k3.tr k34;have hs4:=k4.sz;refine⟨a,l,c,rfl,⟨r0 k4,trivial⟩,⟨r1 k4,trivial⟩,λw5 e5=>?_,λw5 e5=>?_⟩
    .have o5:=AG e5;have k5:AB AD w1 w5:=k4.al e5;have hs5:=k5.sz;refine⟨⟨r1 k5,trivial⟩,(runs k5 o5).AE ?_,λw6 e6=>?_⟩
     .rintro _ w6 ⟨a',l',c',rfl,k56,N2⟩;have k6:=k5.tr k56;refine⟨a',l',c',rfl,⟨r1 k6,trivial⟩,λw7 e7=>?_⟩;have o7:AX w7 w6.heap.size A38:=AG e7;have k7:AB AD w1 w7:=k6.al e7;exact⟨⟨r1 k7,trivial⟩,fin o7 k7 k6.sz N1 N2⟩
     .have o6:AX w6 w5.heap.size A38:=AG e6;have k6:AB AD w1 w6:=k5.al e6;refine⟨⟨r1 k6,trivial⟩,(runs k6 (o5.al e6)).AE ?_⟩;rintro _ w7 ⟨a',l',c',rfl,k67,N2⟩;have k7:=k6.tr k67;exact⟨a',l',c',rfl,⟨r1 k7,trivial⟩,fin (o6.k k67) k7 k5.sz N1 N2⟩
    .have o5:AX w5 w4.heap.size A38:=AG e5;have k5:AB AD w1 w5:=k4.al e5;refine⟨⟨r0 k5,trivial⟩,⟨r1 k5,trivial⟩,λw6 e6=>?_⟩;have o6:=AG e6;have k6:AB AD w1 w6:=k5.al e6;refine⟨⟨r1 k6,trivial⟩,(runs k6 o6).AE ?_⟩;rintro _ w7 ⟨a',l',c',rfl,k67,N2⟩;have k7:=k6.tr k67;exact⟨a',l',c',rfl,⟨r1 k7,trivial⟩,fin ((o5.al e6).k k67) k7 k4.sz N1 N2⟩
   .have o4:AX w4 w3.heap.size A38:=AG e4;have k4:AB AD w1 w4:=k3.al e4;refine⟨⟨r0 k4,trivial⟩,⟨r1 k4,trivial⟩,(pins k4 (o3.al e4)).AE ?_⟩;rintro _ w5 ⟨a,l,c,rfl,k45,N1⟩;have k5:=k4.tr k45;refine⟨a,l,c,rfl,⟨r0 k5,trivial⟩,⟨r1 k5,trivial⟩,λw6 e6=>?_⟩;have o6:=AG e6;have k6:AB AD w1 w6:=k5.al e6;refine⟨⟨r1 k6,trivial⟩,(runs k6 o6).AE ?_⟩;rintro _ w7 ⟨a',l',c',rfl,k67,N2⟩;have k7:=k6.tr k67;exact⟨a',l',c',rfl,⟨r1 k7,trivial⟩,fin (((o4.k k45).al e6).k k67) k7 k3.sz N1 N2⟩
  .have o3:AX w3 w2.heap.size A38:=AG e3;have k3:AB AD w1 w3:=k2.al e3;refine⟨⟨r0 k3,trivial⟩,⟨r2 k3,trivial⟩,⟨r1 k3,trivial⟩,λw4 e4=>?_⟩;have o4:=AG e4;have k4:AB AD w1 w4:=k3.al e4;refine⟨⟨r0 k4,trivial⟩,⟨r1 k4,trivial⟩,(pins k4 o4).AE ?_⟩;rintro _ w5 ⟨a,l,c,rfl,k45,N1⟩;have k5:=k4.tr k45;refine⟨a,l,c,rfl,⟨r0 k5,trivial⟩,⟨r1 k5,trivial⟩,λw6 e6=>?_⟩;have o6:=AG e6;have k6:AB AD w1 w6:=k5.al e6;refine⟨⟨r1 k6,trivial⟩,(runs k6 o6).AE ?_⟩;rintro _ w7 ⟨a',l',c',rfl,k67,N2⟩;have k7:=k6.tr k67;exact⟨a',l',c',rfl,⟨r1 k7,trivial⟩,fin ((((o3.al e4).k k45).al e6).k k67) k7 hs2 N1 N2⟩
 rintro _ w2 ⟨b1,a,l,c,a',l',c',rfl,k2,ob,hb1,N1,N2⟩;intro w3 e3;have k3:AB AD w1 w3:=k2.dr e3;have ob3:=ob.dr e3;have rk:∀{W:WD},AB AD w1 W->rd W k (0+94)=some (AP S.pm):=λkk=>by rw [za];exact((h.k k1).k kk).rt (j:=0) rfl
 refine AA rfl ⟨_,rk k3,AA rfl ⟨_,r1 k3,λw4 e4 w5 e5=>?_⟩⟩;have x4:=AG e4;have x4':=x4.al e5;have x5:=AG e5;have k5:AB AD w1 w5:=(k3.al e4).al e5;have ob5:=(ob3.al e4).al e5;have hc1:=x4.lt;have hc2:=x5.lt;have hbl:=ob3.lt;have hs3:=k3.sz;clear e3 e4 e5 x4 ob ob3 k2;generalize w3.heap.size=c1 at *;generalize w4.heap.size=c2 at *;have hn:=h.n4;have hR:∀x,B91 c1 c2 S.pm bb mb x->x<w5.heap.size/\x≠b1:=λx hx=>by
  rcases hx with hx|hx|hx|hx|hx <;> omega
 have fl2:∀x:Int×Int,(B5c x).length=2:=λ_=>rfl;have fl3:∀x:FV,(C3s x).length=3:=λ_=>rfl;have hl32:=A3d S.by' S.n (S.root i) 32;have hl1024:=A4u S.by' S.n (S.root i) 1024;refine⟨(D8 S.by' S.n (S.root i) 32).map λx=>[vi x.1,vi x.2],B91 c1 c2 S.pm bb mb,B3x b1 w5.heap.size [vi i,vi (S.root i),.slice none 0 0,.slice none 0 0,.slice a l c,.slice a' l' c'] 2 w5 332 2 B5c (D8 S.by' S.n (S.root i) 32),λ_ _ _=>False,
  ⟨A3c (M0.k k5) hby (by omega) x4' x5,λys hx=>?_,λx hx=>(hR x hx).1⟩,λW kW _=>?_,λY j W W' h hY k'=>h.ab (by omega) rfl hY k',λ_ _ _ _ h=>h.elim,λY j W h hY hsz n1 n2 hv=>?_,λY W h hd=>?_,λ_ _ h=>h.elim,trivial⟩
 .obtain⟨x,_,rfl⟩:=List.mem_map.1 hx;exact⟨rfl,_,_,rfl⟩
 .exact⟨kW.AE λ_ _ h=>h.elim,Nat.zero_le _,none,0,ob5.k kW,World.ownsRow_nil _ _ _ _,λx h=>h.elim⟩
 .have hx:(D8 S.by' S.n (S.root i) 32)[j]? = some (n1,n2):=by
   rw [gmp] at hv
   cases hh:(D8 S.by' S.n (S.root i) 32)[j]? with
   | none=>rw [hh] at hv;cases hv
   | some x=>
    rw [hh] at hv;simp at hv;rw [<- hv.1,<- hv.2]
  refine⟨DY (AB.refl AD W) (by omega) id id,λw7 k7 hs7=>?_⟩;obtain⟨a2,cc,h1,h2⟩:=h.step C2c (by show 2<6;decide) (by omega) rfl hY hsz (by omega) hR hx fl2 (λu hu=>by simp [B5c] at hu;rcases hu with rfl|rfl <;> rfl) k7 λb hb=>.inl hb;refine AA rfl ⟨a2,j,cc,h1,λw8 e8=>?_⟩;obtain⟨a3,l3,c3,w9,p1,p2,p3⟩:=h2 w8 e8;exact⟨a3,l3,c3,w9,p1,AA rfl ⟨p2,p3⟩⟩
 .rw [lmp] at h;obtain⟨a2,cc,oW,row⟩:=h.fin;have kW:AB AD w1 W:=BO k5 h.kp λx e=>by omega
  have hkp:=h.kp;clear h;intro w6 e6;have k6:AB AD w1 w6:=kW.dr e6;have o6:=oW.dr e6;have row6:=BA row ((AB.refl AD W).dr e6) λ_ _ _ _=>id;have hs6:w6.heap.size=W.heap.size:=by rw [e6];rfl
  have d6:DV w5.heap.size w6:=hd.k ((AB.refl AD W).dr e6) id;refine AA rfl ⟨_,rk k6,AA rfl ⟨_,r1 k6,λw7 e7 w8 e8=>?_⟩⟩;have y7:=AG e7;have y7':=y7.al e8;have y8:=AG e8;have k68:AB AD w6 w8:=(kr.al e7).al e8;have k8:=k6.tr k68;have o8:=o6.k k68;have row8:=BA row6 k68 λ_ _ _ _=>id;have d8:DV w5.heap.size w8:=d6.k k68 id;have hd1:=y7.lt;have hd2:=y8.lt;have hsW:=hkp.sz;have hB1:w5.heap.size<w6.heap.size:=(FK.1 d6.at_).1;clear e6 e7 e8 y7 oW row hd;generalize w6.heap.size=c3 at *;generalize w7.heap.size=c4 at *;have hR2:∀x,B91 c3 c4 S.pm bb mb x->x<w8.heap.size/\x≠b1:=λx hx=>by
   rcases hx with hx|hx|hx|hx|hx <;> omega
  refine⟨(DF S.by' S.n (S.root i) 1024).map λx=>[vi x.page,.agg #[.int .u8 x.kind,vi x.n]],B91 c3 c4 S.pm bb mb,B3x b1 w8.heap.size [vi i,vi (S.root i),.slice a2 (D8 S.by' S.n (S.root i) 32).length cc,.slice none 0 0,.slice a l c,.slice a' l' c'] 3 w8 149 3 C3s (DF S.by' S.n (S.root i) 1024),λ_ _ _=>False,
   ⟨A4t (M0.k k8) hby (by omega) y7' y8,λys hx=>?_,λx hx=>(hR2 x hx).1⟩,λV kV _=>?_,λY j W W' h hY k'=>h.ab (by omega) rfl hY k',λ_ _ _ _ h=>h.elim,λY j V h hY hsz n1 n2 n3 hv=>?_,λY V h hd=>?_,λ_ _ h=>h.elim,trivial⟩
  .obtain⟨x,_,rfl⟩:=List.mem_map.1 hx;exact⟨rfl,_,_,_,rfl⟩
  .exact⟨kV.AE λ_ _ h=>h.elim,Nat.zero_le _,none,0,o8.k kV,World.ownsRow_nil _ _ _ _,λx h=>h.elim⟩
  .have hx:(DF S.by' S.n (S.root i) 1024)[j]? = some ⟨n1,n2,n3⟩:=by
    rw [gmp] at hv
    cases hh:(DF S.by' S.n (S.root i) 1024)[j]? with
    | none=>rw [hh] at hv;cases hv
    | some x=>
     rw [hh] at hv;simp at hv;rw [<- hv.1,<- hv.2.1,<- hv.2.2]
   intro v1 f1;have z1:=AG f1;have kv1:=kal f1;refine⟨wr2 z1,λv2 f2=>?_⟩;obtain⟨z2,kv2'⟩:=JU z1 f2;have kv2:AB AD V v2:=BO kv1 kv2' λx e=>by omega
   have hz2:=z2.lt;refine⟨DY kv2 (by omega) id id,λw7 k7 hs7=>?_⟩;have k7V:AB (λb=>b=w8.heap.size+1) V w7:=(kv2.AE λ_ _ e=>e.elim).trans k7 λ_ _ e=>e;have z7:=z2.kx k7 (by omega);obtain⟨a3,cc3,h1,h2⟩:=h.step B56 (by show 3<6;decide) (by omega) rfl hY hsz (by omega) hR2 hx fl3 (λu hu=>by simp [C3s] at hu;rcases hu with rfl|rfl|rfl <;> rfl) k7V λb hb=>.inl hb;refine AA rfl ⟨a3,j,cc3,h1,n2,n3,rd2 z7,λw9 e9=>?_⟩;obtain⟨a4,l4,c4,w10,p1,p2,p3⟩:=h2 w9 e9;exact⟨a4,l4,c4,w10,p1,AA rfl ⟨p2,p3⟩⟩
  .rw [lmp] at h;obtain⟨a3,cc3,oV,rowP⟩:=h.fin;have hkV:=h.kp;have kV:AB AD w1 V:=BO k8 hkV λx e=>by omega
   have D4:=BA row8 hkV λx hx _ _ e=>by omega
   have dB:DV w5.heap.size V:=d8.k hkV (by omega);clear h;have hB2:w8.heap.size<V.heap.size:=(FK.1 hd.at_).1;have orV:=or1.k kV;refine AA rfl ⟨_,_,_,_,_,_,_,_,_,_,_,_,_,_,rd6 oV,wr6 orV rfl,λv1 f1=>?_⟩;obtain⟨or2,kr2⟩:=st6 orV rfl f1;have dV:DV w8.heap.size v1:=hd.k kr2 (by omega);have dB1:DV w5.heap.size v1:=dB.k kr2 (by omega);refine⟨⟨by simp;omega,λD hD=>?_⟩,λv2 kv2 hsv=>?_⟩
   .simp at hD;rcases hD with rfl|rfl
    .exact dV.at_
    .exact dB1.at_
   .have hmem:∀x:Nat,List.Mem x [w8.heap.size,w5.heap.size]->x=w8.heap.size\/x=w5.heap.size:=λx hx=>by
     have:x∈[w8.heap.size,w5.heap.size]:=hx;simpa using this
    have or3:=or2.kx kv2 λhx=>by rcases hmem _ hx with h|h <;> omega
    have rowP2:=BA (BA rowP kr2 λx hx _ _ e=>by omega) kv2 λx hx _ _ e=>by rcases hmem _ e with h|h <;> omega
    have rowL2:=BA (BA D4 kr2 λx hx _ _ e=>by omega) kv2 λx hx _ hh e=>by
     have:=(row8.lt x hh).2;rcases hmem _ e with h|h <;> omega
    have Kf:AB AD w v2:=BO (BO (k1.tr kV) kr2 λx e=>by omega) kv2 λx e=>by rcases hmem _ e with h|h <;> omega
    have hsz1:=kr2.sz;have hsz2:=kv2.sz;refine⟨_,_,_,_,_,_,_,_,_,_,_,_,_,_,rd6 or3,_,_,_,_,_,_,_,_,_,_,_,_,_,_,rfl,Kf,?_⟩;have A1:=IL (f:=B5c) fl2 rowL2 rfl;have A2:=IL (f:=C3s) fl3 rowP2 rfl;refine((A1.and A2).imp λW' hW=>?_).AE (λx hx=>?_) λx hx=>hx.2
    .exact⟨a2,_,cc,a3,_,cc3,a,l,c,a',l',c',rfl,hW.1,hW.2,N2.slR⟩
    .rcases hx with hx|hx
     .have:=(rowL2.lt x hx);exact⟨by omega,this.2⟩
     .have:=(rowP2.lt x hx);exact⟨by omega,this.2⟩
theorem B4p{w:WD}{k:Nat}(T:GV w)(h:AO w k S fp)(hby:ByR S.by'):C3g S (FH S) k w:=λi b W hi hb kk=>A2z (T.k kk) (h.k kk) hi hb hby
abbrev AR.B4g(S:AR)(of:Nat->Int×Int)(at':List ((Int×Int)×Value)):AR:={S with rof:=of,rat:=at'}
abbrev AR.JQ(S:AR)(b:NI):AR:={S with by':=b}
abbrev AR.I8(S:AR)(m:Nat->Mark):AR:={S with mks:=m}
abbrev AR.Q0(S:AR)(i:Nat)(r:List Int)(o:List (Int×Value)):AR:={S with ring:=upd S.ring i r,cof:=upd S.cof i o}
abbrev AR.LA(S:AR)(L:Nat->List Bk):AR:={S with L:=L}
structure Step(w w':WD)(k:Nat)(S':AR)(fp:Prt->Nat->Prop):Prop where
 kp:AB (λx=>∃p,fp p x) w w'
 ex:∃fp',AO w' k S' fp'/\∀p x,fp' p x->fp p x\/rng w w' x
section
variable {w w':WD}{k:Nat}{S:AR}{fp:Prt->Nat->Prop}
theorem AO.JW(h:AO w k S fp)(kk:AB AD w w'):Step w w' k S fp:=⟨kk.AE λ_ _ e=>e.elim,fp,h.k kk,λ_ _ h=>.inl h⟩
theorem AO.FD{S':AR}{X:NP}(h:AO w k S fp)(q:Prt)(kk:AB X w w')(hX:∀x,X x->fp q x)(hc:S'.c=S.c)(hS:∀p F w,¬p=q->PAt S k p F w->PAt S' k p F w)(hq:PAt S' k q (λx=>fp q x\/rng w w' x) w'):Step w w' k S' fp:=by
 refine⟨kk.AE λx _ e=>⟨q,hX x e⟩,_,h.upd (·=q) q kk (λx hx _=>⟨q,rfl,hX x hx⟩) hc hS rfl λp hp=>?_,λp x hx=>hx.imp id λe=>e.2⟩;subst hp;have e:(λx=>fp p x\/(p=p/\rng w w' x))=λx=>fp p x\/rng w w' x:=by funext x;simp
 rw [e];exact hq
theorem Step.tr{w2:WD}{S1 S2:AR}{fp1:Prt->Nat->Prop}(h:Step w w' k S1 fp)(hf:∀p x,fp1 p x->fp p x\/rng w w' x)(h2:Step w' w2 k S2 fp1):Step w w2 k S2 fp:=by
 have s1:=h.kp.sz;have s2:=h2.kp.sz;obtain⟨fp2,C2,g2⟩:=h2.ex;refine⟨h.kp.trans h2.kp λx hx e=>?_,fp2,C2,λp x hx=>?_⟩
 .obtain⟨p,hp⟩:=e;rcases hf p x hp with h|h
  .exact⟨p,h⟩
  .have:=h.1;omega
 .rcases g2 p x hx with h|h
  .rcases hf p x h with h|h
   .exact .inl h
   .exact .inr ⟨h.1,by have:=h.2;omega⟩
  .exact .inr ⟨by have:=h.1;omega,h.2⟩
theorem AO.mem(h:AO w k S fp):∃bb mb,BU w S.pm bb mb S.c S.n S.by' S.mks/\fp .mem S.pm/\fp .mem bb/\fp .mem mb:=h.at' .mem
theorem A1w(h:AO w k S fp)(hb:ByR S.by')(root page ek eN:Int) :
 Calls prog 100 #[AP S.pm,vi root,vi page,.agg #[.int .u8 ek,vi eN]] w λe w'=>e=.returned (vi (stE S.by' S.n root page ek eN))/\Step w w' k (S.JQ (stS S.by' S.n root page ek eN)) fp:=by
 obtain⟨bb,mb,M,f1,f2,f3⟩:=h.mem;refine(B4f M hb h.n4.2.2 root page ek eN).AE ?_;rintro e w' ⟨he,kk,M'⟩;exact⟨he,h.FD .mem kk (λx e=>e▸f2) rfl (λp F w hp hq=>by cases p <;> first|exact hq|exact absurd rfl hp) ⟨bb,mb,M',.inl f1,.inl f2,.inl f3⟩⟩
theorem A3y(h:AO w k S fp)(root page leaf:Int) :
 Calls prog 36 #[AP S.pm,vi root,vi page,vi leaf] w λe w'=>e=.returned (vi (slE S.n root page leaf))/\Step w w' k (S.JQ (slS S.by' S.n root page leaf)) fp:=by
 obtain⟨bb,mb,M,f1,f2,f3⟩:=h.mem;refine(A2n M h.n4.2.2 root page leaf).AE ?_;rintro e w' ⟨he,kk,M'⟩;exact⟨he,h.FD .mem kk (λx e=>e▸f2) rfl (λp F w hp hq=>by cases p <;> first|exact hq|exact absurd rfl hp) ⟨bb,mb,M',.inl f1,.inl f2,.inl f3⟩⟩
theorem EP(h:AO w k S fp)(frame:Int)(x:Mark) :
 Calls prog 34 #[AP S.pm,vi frame,.agg (FI x).toArray] w λe w'=>e=.returned (vi (smE S.n frame x))/\Step w w' k (S.I8 (smS S.mks S.n frame x)) fp:=by
 obtain⟨bb,mb,M,f1,f2,f3⟩:=h.mem;refine(A2m M frame x).AE ?_;rintro e w' ⟨he,kk,M'⟩;exact⟨he,h.FD .mem kk (λx e=>e▸f3) rfl (λp F w hp hq=>by cases p <;> first|exact hq|exact absurd rfl hp) ⟨bb,mb,M',.inl f1,.inl f2,.inl f3⟩⟩
theorem B29(h:AO w k S fp)(hb:ByR S.by')(root page:Int):Calls prog 49 #[AP S.pm,vi root,vi page] w λe w'=>e=.returned (.tuple #[vi (lfN S.by' S.n root page),vi (lfE S.by' S.n root page)])/\AB AD w w':=by
 obtain⟨bb,mb,M,_⟩:=h.mem;exact KQ M hb h.n4.2.2 root page
theorem OB(h:AO w k S fp)(hb:ByR S.by')(root page:Int):Calls prog 16 #[AP S.pm,vi root,vi page] w λe w'=>e=.returned (.tuple #[.agg #[.int .u8 (gtK S.by' S.n root page),vi (gtN S.by' S.n root page)],vi (gtE S.by' S.n root page)])/\AB AD w w':=by
 obtain⟨bb,mb,M,_⟩:=h.mem;exact A6z M hb h.n4.2.2 root page
theorem B24(h:AO w k S fp)(hi:i<S.n){pid page:Int}(hp:1<=pid/\pid<=8)(hg:0<=page/\page<1024)(hv:∀k v,S.rat.lookup k=some v->∃x:Int,v=vi x) :
 Calls prog 99 #[AP S.pr,vi i,vi pid,vi page] w λe w'=>
  ((S.rof i).1≠0/\e=.returned (vi 80)/\Step w w' k S fp)\/((S.rof i).1=0/\(S.rat.lookup (pid,page)).isSome=true/\e=.returned (vi 8)/\Step w w' k S fp)\/
   ((S.rof i).1=0/\S.rat.lookup (pid,page)=none/\e=.returned (vi 0)/\Step w w' k (S.B4g (upd S.rof i (pid,page)) (S.rat++[((pid,page),vi i)])) fp):=by
 obtain⟨fb,mb,R,f1,f2,f3⟩:∃fb mb,DI w S.pr fb mb S.n S.rof S.rat/\fp .rmap S.pr/\fp .rmap fb/\fp .rmap mb:=h.at' .rmap;have hX:∀x,(x=fb\/x=mb)->fp .rmap x:=λx e=>by rcases e with rfl|rfl <;> assumption
 refine(B0m R hi hp hg hv).AE ?_;rintro e w' ⟨kk,⟨h1,he,R'⟩|⟨h1,h2,he,R'⟩|⟨h1,h2,he,R'⟩⟩
 .exact .inl ⟨h1,he,h.FD .rmap kk hX rfl (λp F w hp hq=>hq) ⟨fb,mb,R',.inl f1,.inl f2,.inl f3⟩⟩
 .exact .inr (.inl ⟨h1,h2,he,h.FD .rmap kk hX rfl (λp F w hp hq=>hq) ⟨fb,mb,R',.inl f1,.inl f2,.inl f3⟩⟩)
 .exact .inr (.inr ⟨h1,h2,he,h.FD .rmap kk hX rfl (λp F w hp hq=>by cases p <;> first|exact hq|exact absurd rfl hp) ⟨fb,mb,R',.inl f1,.inl f2,.inl f3⟩⟩)
theorem A5h(h:AO w k S fp)(hi:i<S.n)(hz:(S.rof i).1≠0) :
 Calls prog 322 #[AP S.pr,vi i] w λe w'=>e=.returned (vi 0)/\Step w w' k (S.B4g (upd S.rof i (0,0)) (S.rat.filter λp=>p.1 != S.rof i)) fp:=by
 obtain⟨fb,mb,R,f1,f2,f3⟩:∃fb mb,DI w S.pr fb mb S.n S.rof S.rat/\fp .rmap S.pr/\fp .rmap fb/\fp .rmap mb:=h.at' .rmap;have hX:∀x,(x=fb\/x=mb)->fp .rmap x:=λx e=>by rcases e with rfl|rfl <;> assumption
 refine(A4l R hi hz).AE ?_;rintro e w' ⟨he,kk,R'⟩;exact⟨he,h.FD .rmap kk hX rfl (λp F w hp hq=>by cases p <;> first|exact hq|exact absurd rfl hp) ⟨fb,mb,R',.inl f1,.inl f2,.inl f3⟩⟩
theorem KT(h:AO w k S fp)(hi:i<S.n):Calls prog 117 #[AP S.pr,vi i] w λe w'=>e=.returned (.tuple #[vi (S.rof i).1,vi (S.rof i).2,.bool ((S.rof i).1 != 0)])/\AB AD w w':=by
 obtain⟨fb,mb,R,f1,f2,f3⟩:∃fb mb,DI w S.pr fb mb S.n S.rof S.rat/\fp .rmap S.pr/\fp .rmap fb/\fp .rmap mb:=h.at' .rmap;exact A2s R hi
theorem A1x(h:AO w k S fp)(hi:i<S.AK):∃(g cp cb:Nat),S.vck=.slice (some ⟨g,0,none⟩) S.AK cp/\rd w g i=some (AP cb)/\
 (∀{fr:Int},FM (S.ring i) (S.cof i)->0<=fr/\fr<=9223372036854775807->fr∉S.ring i->(S.ring i).length<=100000->
  Calls prog 101 #[AP cb,vi fr] w λe w'=>e=.returned (vi 0)/\Step w w' k (S.Q0 i (S.ring i++[fr]) (S.cof i++[(fr,mk2)])) fp)/\
 (∀{fr:Int}{j:Nat},FM (S.ring i) (S.cof i)->DB (S.ring i) fr j->(S.ring i).length<=100000->
  Calls prog 323 #[AP cb,vi fr] w λe w'=>e=.returned (vi 0)/\Step w w' k (S.Q0 i (del (S.ring i) j) ((S.cof i).filter λp=>p.1 != fr)) fp):=by
 have R:BM (λi=>BE (S.ring i) (S.cof i)) S.AK S.vck (fp .clocks) w:=h.at' .clocks;obtain⟨g,cp,u,H,hv,hr,hA,hH,_⟩:=R.one (B:=λi=>BE (S.ring i) (S.cof i)) (λ_ _=>BE.stb) hi λ_ _=>rfl;obtain⟨cb,_,_,_,_,rfl,_⟩:=hA.ex;refine⟨g,cp,cb,hv,hr,λ{fr} ok h1 h2 h3=>?_,λ{fr j} ok h1 h2=>?_⟩
 .obtain⟨g2,cp2,u2,H2,hv2,hr2,hA2,hH2,hput⟩:=R.one (B:=λj=>BE (upd S.ring i (S.ring i++[fr]) j) (upd S.cof i (S.cof i++[(fr,mk2)]) j)) (λ_ _=>BE.stb) hi λj hj=>by rw [AI _ _ hj,AI _ _ hj]
  have:u2=AP cb:=by rw [hv] at hv2;cases hv2;rw [hr] at hr2;exact(Option.some.inj hr2).symm
  subst this;refine(B3i hA2 ok h1 h2 h3).AE ?_;rintro e w' ⟨he,kk,A'⟩;exact⟨he,h.FD .clocks kk (λx hx=>(hH2 x hx).1) rfl (λp F w hp hq=>by cases p <;> first|exact hq|exact absurd rfl hp) (hput w' kk (by rw [AF,AF];exact A'))⟩
 .obtain⟨g2,cp2,u2,H2,hv2,hr2,hA2,hH2,hput⟩:=R.one (B:=λt=>BE (upd S.ring i (del (S.ring i) j) t) (upd S.cof i ((S.cof i).filter λp=>p.1 != fr) t)) (λ_ _=>BE.stb) hi λt ht=>by rw [AI _ _ ht,AI _ _ ht]
  have:u2=AP cb:=by rw [hv] at hv2;cases hv2;rw [hr] at hr2;exact(Option.some.inj hr2).symm
  subst this;refine(A3w hA2 ok h1 h2).AE ?_;rintro e w' ⟨he,kk,A'⟩;exact⟨he,h.FD .clocks kk (λx hx=>(hH2 x hx).1) rfl (λp F w hp hq=>by cases p <;> first|exact hq|exact absurd rfl hp) (hput w' kk (by rw [AF,AF];exact A'))⟩
theorem B7k{z:Nat}(hi:i<S.Z.k){x:Nat}(hx:S.Z.bl i x):S.Z.all z x:=.inr (.inr ⟨i,hi,hx⟩)
theorem MP(h:AO w k S fp)(hi:i<S.Z.k){l':List Bk}(kk:AB (S.Z.bl i) w w')(Z':ZAt w' S.pz S.Z (upd S.L i l')):Step w w' k (S.LA (upd S.L i l')) fp:=by
 obtain⟨Z,hZ,hc⟩:ZAt w S.pz S.Z S.L/\(∀x,S.Z.all S.pz x->fp .zones x)/\S.Z.c=S.c:=h.at' .zones;exact h.FD .zones kk (λx hx=>hZ x (B7k hi hx)) rfl (λp F w hp hq=>by cases p <;> first|exact hq|exact absurd rfl hp) ⟨Z',λx hx=>.inl (hZ x hx),hc⟩
theorem AO.zn(h:AO w k S fp):ZAt w S.pz S.Z S.L/\S.Z.c=S.c/\S.Z.k=S.AK:=by
 obtain⟨Z,hZ,hc⟩:ZAt w S.pz S.Z S.L/\(∀x,S.Z.all S.pz x->fp .zones x)/\S.Z.c=S.c:=h.at' .zones;have:=Z.kc;rw [hc] at this;have:=h.BQ.1.2.2;exact⟨Z,hc,by omega⟩
theorem II(h:AO w k S fp)(hi:i<S.AK)(order:Int)(high:Bool) :
 Calls prog 33 #[AP S.pz,vi i,vi order,.bool high] w λr w'=>∃a e l',r=.returned (.tuple #[vi (if e=0 then AU S.c i+a else 0),vi e])/\Step w w' k (S.LA (upd S.L i l')) fp/\FL (S.L i) order high a e l':=by
 obtain⟨Z,hc,hk⟩:=h.zn;refine(MW Z (by omega) order high).AE ?_;rintro r w' ⟨a,e,l',hr,kk,Z',T⟩;rw [hc] at hr;exact⟨a,e,l',hr,MP h (by omega) kk Z',T⟩
theorem B3b(h:AO w k S fp)(fr order:Int)(hfr:-9223372036854775808<=fr/\fr<=9223372036854775807) :
 Calls prog 237 #[AP S.pz,vi fr,vi order] w λr w'=>
  (∃i e l',i<S.AK/\AU S.c i<=fr/\fr<AU S.c (i+1)/\r=.returned (vi e)/\Step w w' k (S.LA (upd S.L i l')) fp/\LV (S.L i) (fr-AU S.c i) order e l')\/
  ((fr<0\/AU S.c S.AK<=fr)/\r=.returned (vi 7)/\Step w w' k S fp):=by
 obtain⟨Z,hc,hk⟩:=h.zn;refine(A7p Z fr order hfr).AE ?_;rintro r w' (⟨i,e,l',hi,h1,h2,hr,kk,Z',G⟩|⟨h1,hr,kk⟩)
 .rw [hc] at h1 h2 G;exact .inl ⟨i,e,l',by omega,h1,h2,hr,MP h hi kk Z',G⟩
 .rw [hc,hk] at h1;exact .inr ⟨h1,hr,h.JW kk⟩
theorem PH(h:AO w k S fp)(fr:Int)(hfr:fr<=9223372036854775807):Calls prog 18 #[AP k,vi fr] w λe w'=>AB AD w w'/\
 ((∃i:Nat,i<S.AK/\AU S.c i<=fr/\fr<AU S.c (i+1)/\e=.returned (vi i))\/((fr<0\/AU S.c S.AK<=fr)/\e=.returned (vi (-1)))):=by
 have hn:=h.BQ.1.2.2;refine(vc18 _ fr w (λv w'=>AB AD w w'/\((∃i:Nat,i<S.AK/\AU S.c i<=fr/\fr<AU S.c (i+1)/\v=vi i)\/((fr<0\/AU S.c S.AK<=fr)/\v=vi (-1)))) ?_).AE ?_
 .unfold Q;refine AL rfl (AA rfl ⟨S.c,h.C3q,(A28 S.c h.my w fr hfr).AE ?_⟩);rintro _ w1 ⟨k1,⟨i,hi,h1,h2,rfl⟩|⟨h1,rfl⟩⟩
  .exact⟨_,_,rfl,AL rfl ⟨k1,.inl ⟨i,by omega,h1,h2,rfl⟩⟩⟩
  .exact⟨_,_,rfl,AA rfl ⟨k1,.inr ⟨h1,rfl⟩⟩⟩
 .rintro e w' ⟨v,rfl,hk,⟨i,h1,h2,h3,rfl⟩|⟨h1,rfl⟩⟩
  .exact⟨hk,.inl ⟨i,h1,h2,h3,rfl⟩⟩
  .exact⟨hk,.inr ⟨h1,rfl⟩⟩
end
theorem JN(hm:D6 c)(hij:i<=j)(hj:j<=(c 0).toNat):AU c i<=AU c j:=by
 induction j with
 | zero=>rw [show i=0 by omega];exact Int.le_refl _
 | succ j ih=>
  by_cases h:i=j+1
  .rw [h];exact Int.le_refl _
  .have h1:=ih (by omega) (by omega);have h2:AU c (j+1)=AU c j+c (18+j):=rfl;have h3:=(hm.2.2.2.2.2.1 j (by omega)).1.1;omega
section
variable {w w':WD}{k:Nat}{S:AR}{fp:Prt->Nat->Prop}
theorem AO.rtW(h:AO w k S fp)(kk:AB AD w W){v:Value}(hj:(GL S)[j]? = some v):rd W k (0+(94+j))=some v:=by rw [za];exact(h.k kk).rt hj
theorem CR(hm:D6 c){f:Int}(hi:i<(c 0).toNat)(hj:j<(c 0).toNat)(h1:AU c i<=f)(h2:f<AU c (i+1))(h3:AU c j<=f)(h4:f<AU c (j+1)):i=j:=by
 rcases Nat.lt_trichotomy i j with h|h|h
 .have:=JN hm (i:=i+1) (j:=j) (by omega) (by omega);omega
 .exact h
 .have:=JN hm (i:=j+1) (j:=i) (by omega) (by omega);omega
abbrev AR.mapped(S:AR)(i:Nat)(page:Int)(f:Nat):AR:=
 ((((S.B4g (upd S.rof f (1,page)) (S.rat++[((1,page),vi f)])).JQ (stS S.by' S.n (S.root 1) page 1 f)).I8 (smS S.mks S.n f ⟨4,0,1,page,0⟩)).Q0 i (S.ring i++[(f:Int)]) (S.cof i++[((f:Int),mk2)]))
set_option maxHeartbeats 2000000 in
theorem B47(h:AO w k S fp)(hb:S.sp 1=some b)(hby:ByR S.by')(hv:∀kk v,S.rat.lookup kk=some v->∃x:Int,v=vi x)(hf:f<S.n)(hi:i<S.AK)(h1:AU S.c i<=f)(h2:(f:Int)<AU S.c (i+1))
 (ok:FM (S.ring i) (S.cof i)) (hno:(S.rof f).1=0->(f:Int)∉S.ring i) (hl:(S.ring i).length<=100000) (page:Int) :
 Calls prog 39 #[AP k,vi 1,vi page,vi f] w λe w'=>
  ((page<0\/page>=1024)/\e=.returned (vi 2)/\Step w w' k S fp)\/
  ((0<=page/\page<1024)/\lfE S.by' S.n (S.root 1) page≠0/\e=.returned (vi 7)/\Step w w' k S fp)\/
  ((0<=page/\page<1024)/\lfE S.by' S.n (S.root 1) page=0/\(S.rof f).1≠0/\e=.returned (vi 80)/\Step w w' k S fp)\/
  ((0<=page/\page<1024)/\lfE S.by' S.n (S.root 1) page=0/\(S.rof f).1=0/\(S.rat.lookup (1,page)).isSome=true/\e=.returned (vi 8)/\Step w w' k S fp)\/
  ((0<=page/\page<1024)/\lfE S.by' S.n (S.root 1) page=0/\(S.rof f).1=0/\S.rat.lookup (1,page)=none/\e=.returned (vi 0)/\Step w w' k (S.mapped i page f) fp):=by
 refine(vc39 _ 1 page f w (λv w'=>((page<0\/page>=1024)/\v=(vi 2)/\Step w w' k S fp)\/
  ((0<=page/\page<1024)/\lfE S.by' S.n (S.root 1) page≠0/\v=(vi 7)/\Step w w' k S fp)\/
  ((0<=page/\page<1024)/\lfE S.by' S.n (S.root 1) page=0/\(S.rof f).1≠0/\v=(vi 80)/\Step w w' k S fp)\/
  ((0<=page/\page<1024)/\lfE S.by' S.n (S.root 1) page=0/\(S.rof f).1=0/\(S.rat.lookup (1,page)).isSome=true/\v=(vi 8)/\Step w w' k S fp)\/
  ((0<=page/\page<1024)/\lfE S.by' S.n (S.root 1) page=0/\(S.rof f).1=0/\S.rat.lookup (1,page)=none/\v=(vi 0)/\Step w w' k (S.mapped i page f) fp)) ?_).AE ?_
 rotate_left
 .rintro e w' ⟨v,rfl,⟨g1,rfl,g2⟩|⟨g1,g2,rfl,g3⟩|⟨g1,g2,g3,rfl,g4⟩|⟨g1,g2,g3,g4,rfl,g5⟩|⟨g1,g2,g3,g4,rfl,g5⟩⟩
  .exact .inl ⟨g1,rfl,g2⟩
  .exact .inr (.inl ⟨g1,g2,rfl,g3⟩)
  .exact .inr (.inr (.inl ⟨g1,g2,g3,rfl,g4⟩))
  .exact .inr (.inr (.inr (.inl ⟨g1,g2,g3,g4,rfl,g5⟩)))
  .exact .inr (.inr (.inr (.inr ⟨g1,g2,g3,g4,rfl,g5⟩)))
 have hn:=h.n4;have hs:=h.BQ;have esp:∀{W:WD}{S':AR}{fp':Prt->Nat->Prop},AO W k S' fp'->S'.sp 1=some b->rd W k (0+105+Int.toNat 1*1)=some (AP b):=λC e=>by
  have:=C.rt (j:=12) (v:=spV (_)) rfl;rw [e] at this;exact this
 have ert:∀{W:WD}{S':AR}{fp':Prt->Nat->Prop},AO W k S' fp'->S'.sp 1=some b->rd W b (0+1)=some (vi (S'.root 1)):=λ{W S' fp'} C e=>by
  have SP:EX W (fp' (.space 1)) b (S'.root 1) (S'.pins 1):=C.at' (.space 1) b e;obtain⟨_,_,_,_,a1,_⟩:=SP.ex;rw [a1.rd];rfl
 unfold Q;refine AL rfl (AL rfl (AA rfl (AA rfl ⟨_,esp h hb,(PH h f (by omega)).AE ?_⟩)));rintro _ w1 ⟨k1,⟨i',hi',q1,q2,rfl⟩|⟨q1,rfl⟩⟩
 rotate_left
 .exfalso;have:=JN h.my (i:=i+1) (j:=S.AK) (by omega) (nlr _);omega
 have:i'=i:=CR h.my hi' hi q1 q2 h1 h2;subst this;have C1:=h.k k1;refine⟨_,rfl,AH (λhc=>.inl ⟨by simp at hc;omega,rfl,h.JW k1⟩) (λhc=>?_)⟩;have hp:0<=page/\page<1024:=by simp at hc;omega
 refine AL rfl λw2 e2=>?_;have k2:AB AD w w2:=k1.dr e2;have C2:=h.k k2;refine AA rfl ⟨_,by have:=h.rtW k2 (j:=0) rfl;exact this,AA rfl ⟨_,ert C2 hb,(B29 C2 hby _ page).AE ?_⟩⟩;rintro _ w3 ⟨rfl,k23⟩;have k3:=k2.tr k23;have C3:=h.k k3;refine⟨_,_,rfl,AH (λhc=>.inr (.inl ⟨hp,by simpa using hc,rfl,h.JW k3⟩)) (λhc=>?_)⟩;have hle:lfE S.by' S.n (S.root 1) page=0:=by simpa using hc
 refine AA rfl ⟨_,by have:=h.rtW k3 (j:=4) rfl;exact this,(B24 C3 hf (pid:=1) (page:=page) (by omega) hp hv).AE ?_⟩;have S3:=h.JW k3;have id3:∀(p:Prt) (x:Nat),fp p x->fp p x\/rng w w3 x:=λ_ _=>.inl;rintro _ w4 (⟨g1,rfl,T4⟩|⟨g1,g2,rfl,T4⟩|⟨g1,g2,rfl,T4⟩)
 .exact⟨_,rfl,AA rfl (.inr (.inr (.inl ⟨hp,hle,g1,rfl,S3.tr id3 T4⟩)))⟩
 .exact⟨_,rfl,AA rfl (.inr (.inr (.inr (.inl ⟨hp,hle,g1,g2,rfl,S3.tr id3 T4⟩))))⟩
 have S4:=S3.tr id3 T4;obtain⟨fp4,C4,f4⟩:=S4.ex;refine⟨_,rfl,AL rfl λw5 e5=>?_⟩;have k45:=kdr e5;have C5:=C4.k k45;have S5:=S4.tr f4 (C4.JW k45);have f5:∀p x,fp4 p x->fp p x\/rng w w5 x:=λp x hx=>(f4 p x hx).imp id λe=>⟨e.1,by have:=k45.sz;have:=e.2;omega⟩;refine AA rfl ⟨_,by have:=C4.rtW k45 (j:=0) rfl;exact this,AA rfl ⟨_,ert C5 hb,(A1w C5 hby _ page 1 f).AE ?_⟩⟩;rintro _ w6 ⟨rfl,T6⟩;have S6:=S5.tr f5 T6;obtain⟨fp6,C6,f6⟩:=S6.ex;refine⟨_,rfl,AA rfl ⟨_,by have:=C6.rtW kr (j:=0) rfl;exact this,(EP C6 f ⟨4,0,1,page,0⟩).AE ?_⟩⟩;rintro _ w7 ⟨rfl,T7⟩;have S7:=S6.tr f6 T7;obtain⟨fp7,C7,f7⟩:=S7.ex;obtain⟨g,cp,cb,hvk,hrd,hadd,_⟩:=A1x C7 (i:=i') hi;have r7:rd w7 k (0+100)=some (.slice (some ⟨g,0,none⟩) S.AK cp):=by
  have:=C7.rtW kr (j:=6) rfl;rw [hvk] at this;exact this
 refine⟨_,rfl,AA rfl ⟨_,_,_,r7,AA rfl (Wi ⟨_,by rw [tnc,mo];show rd w7 g (0+i')=_;rw [za];exact hrd,(hadd ok (by omega) (hno g1) hl).AE ?_⟩)⟩⟩;rintro _ w8 ⟨rfl,T8⟩;exact⟨_,rfl,.inr (.inr (.inr (.inr ⟨hp,hle,g1,g2,rfl,S7.tr f7 T8⟩)))⟩
theorem NJ(h:AO w k S fp){fr:Int}(hfr:-9223372036854775808<=fr/\fr<=9223372036854775807):Calls prog 187 #[AP k,vi fr] w λe w'=>
 (∃i l',i<S.AK/\AU S.c i<=fr/\fr<AU S.c (i+1)/\e=.returned (vi 0)/\LV (S.L i) (fr-AU S.c i) 0 0 l'/\Step w w' k ((S.LA (upd S.L i l')).I8 (smS S.mks S.n fr CX)) fp)\/
 (∃i,i<S.AK/\AU S.c i<=fr/\fr<AU S.c (i+1)/\e=.returned (vi 2)/\(fr-AU S.c i,0)∉tk (S.L i)/\Step w w' k S fp)\/
 ((fr<0\/AU S.c S.AK<=fr)/\e=.returned (vi 2)/\Step w w' k S fp):=by
 refine(vc187 _ fr w (λv w'=>(∃i l',i<S.AK/\AU S.c i<=fr/\fr<AU S.c (i+1)/\v=(vi 0)/\LV (S.L i) (fr-AU S.c i) 0 0 l'/\Step w w' k ((S.LA (upd S.L i l')).I8 (smS S.mks S.n fr CX)) fp)\/
  (∃i,i<S.AK/\AU S.c i<=fr/\fr<AU S.c (i+1)/\v=(vi 2)/\(fr-AU S.c i,0)∉tk (S.L i)/\Step w w' k S fp)\/
  ((fr<0\/AU S.c S.AK<=fr)/\v=(vi 2)/\Step w w' k S fp)) ?_).AE ?_
 rotate_left
 .rintro e w' ⟨v,rfl,⟨i,l',g1,g2,g3,rfl,g4⟩|⟨i,g1,g2,g3,rfl,g4⟩|⟨g1,rfl,g2⟩⟩
  .exact .inl ⟨i,l',g1,g2,g3,rfl,g4⟩
  .exact .inr (.inl ⟨i,g1,g2,g3,rfl,g4⟩)
  .exact .inr (.inr ⟨g1,rfl,g2⟩)
 unfold Q;refine AL rfl (AA rfl ⟨_,by have:=h.rtW kr (j:=1) rfl;exact this,(B3b h fr 0 hfr).AE ?_⟩);rintro _ w1 (⟨i,e,l',hi,h1,h2,rfl,T1,G⟩|⟨h1,rfl,T1⟩)
 .rcases G with⟨g1,rfl,rfl⟩|⟨x,g1,g2,g3,g4,rfl,g5⟩
  .refine⟨_,rfl,AA rfl (.inr (.inl ⟨i,hi,h1,h2,rfl,g1,?_⟩))⟩;have:upd S.L i (S.L i)=S.L:=by
    funext j;by_cases e:j=i
    .subst e;rw [AF]
    .rw [AI _ _ e]
   have e:S.LA (upd S.L i (S.L i))=S:=by rw [this]
   rw [e] at T1;exact T1
  .obtain⟨fp1,C1,f1⟩:=T1.ex;refine⟨_,rfl,AL rfl (AA rfl ⟨_,by have:=C1.rtW kr (j:=0) rfl;exact this,(EP C1 fr CX).AE ?_⟩)⟩;rintro _ w2 ⟨rfl,T2⟩;exact⟨_,rfl,.inl ⟨i,l',hi,h1,h2,rfl,.inr ⟨x,g1,g2,g3,g4,rfl,g5⟩,T1.tr f1 T2⟩⟩
 .exact⟨_,rfl,AA rfl (.inr (.inr ⟨h1,rfl,T1⟩))⟩
end
abbrev AR.IB(S:AR)(f:NI):AR:={S with lh:=f}
section
variable {w w':WD}{k:Nat}{S:AR}{fp:Prt->Nat->Prop}
theorem B28(h:AO w k S fp){f:NI}(kk:AB (·=S.pl) w w')(L:BX w' S.pl (9+S.AK) f):Step w w' k (S.IB f) fp:=by
 have hl:BX w S.pl (9+S.AK) S.lh/\fp .locks S.pl:=h.at' .locks;exact h.FD .locks kk (λx e=>e▸hl.2) rfl (λp F w hp hq=>by cases p <;> first|exact hq|exact absurd rfl hp) ⟨L,.inl hl.2⟩
theorem B27(h:AO w k S fp)(hw:who<1000)(hi:i<9+S.AK)(hr:∀j,i<=j->j<9+S.AK->S.lh j≠who+1) :
 Calls prog 233 #[AP S.pl,vi who,vi i] w λe w'=>(S.lh i≠0/\e=.returned (.tuple #[.bool false,vi 0])/\AB AD w w')\/
  (S.lh i=0/\e=.returned (.tuple #[.bool true,vi 0])/\Step w w' k (S.IB (upd S.lh i (who+1))) fp):=by
 have hl:BX w S.pl (9+S.AK) S.lh/\fp .locks S.pl:=h.at' .locks;have hs:=h.BQ.1;refine(B1u hl.1 (by omega) hw hi hr).AE ?_;rintro e w' (h1|⟨h1,h2,h3,h4⟩)
 .exact .inl h1
 .exact .inr ⟨h1,h2,B28 h h3 h4⟩
theorem A5g(h:AO w k S fp)(hw:who<1000)(hi:i<9+S.AK)(hh:S.lh i=who+1) :
 Calls prog 238 #[AP S.pl,vi who,vi i] w λe w'=>e=.returned (vi 0)/\Step w w' k (S.IB (upd S.lh i 0)) fp:=by
 have hl:BX w S.pl (9+S.AK) S.lh/\fp .locks S.pl:=h.at' .locks;have hs:=h.BQ.1;refine(A8j hl.1 (by omega) hw hi hh).AE ?_;rintro e w' ⟨h2,h3,h4⟩;exact⟨h2,B28 h h3 h4⟩
def unl(f:NI)(xs:List Nat)(j:Nat):NI:=λi=>if i∈xs.drop j then 0 else f i
theorem A73(h:AO w k S fp){n:Nat}{xs:List Nat}(hb:AX w b (xs.map λx:Nat=>vi (x:Int)))(hfb:∀p,¬fp p b)(hn:n=xs.length)(hl:xs.length<=100)(hw:who<1000)(nd:xs.Nodup)(hx:∀x∈xs,x<9+S.AK/\S.lh x=who+1) :
 Calls prog 188 #[AP k,vi who,.slice (some ⟨b,0,none⟩) n n] w λe w'=>e=.returned (.tuple #[])/\Step w w' k (S.IB (unl S.lh xs 0)) fp:=by
 subst hn;refine Calls.ret (vc188 _ who _ _ _ w _ ?_);unfold Q;have e0:S.IB (unl S.lh xs xs.length)=S:=by
  have:unl S.lh xs xs.length=S.lh:=by funext i;unfold unl;rw [List.drop_length];exact if_neg (by simp)
  show {S with lh:=_}=S
  rw [this]
 refine⟨λn W N=>∃j:Nat,n=(j:Int)-1/\j<=xs.length/\N=j/\Step w W k (S.IB (unl S.lh xs j)) fp,⟨_,xs.length,by rw [wi (by omega)],nlr _,rfl,by rw [e0];exact h.JW kr⟩,?_⟩;rintro _ w1 j ⟨_,rfl,hj,rfl,T1⟩;obtain⟨fp1,C1,f1⟩:=T1.ex;refine AH (λhc=>λw2 e2=>?_) (λhc=>?_)
 .obtain⟨j,rfl⟩:∃i,j=i+1:=⟨j-1,by simp at hc;omega⟩;have k12:=kdr e2;have C2:=C1.k k12;have T2:=T1.tr f1 (C1.JW k12);have o2:AX w2 b (xs.map λx:Nat=>vi (x:Int)):=hb.kx T2.kp λ⟨p,hp⟩=>hfb p hp;have ej:((j+1:Nat):Int)-1=(j:Nat):=by omega
  obtain⟨x,hxj⟩:∃x,xs[j]? = some x:=⟨_,geg (by omega)⟩;obtain⟨g1,g2⟩:=hx x (mog hxj);have hno:x∉xs.drop (j+1):=λhm=>by
   obtain⟨i,hi⟩:=List.mem_iff_getElem?.1 hm;rw [List.getElem?_drop] at hi;have h1:=(DC.1 hi).1;have:=(List.getElem?_inj (by omega) nd).1 (hi.trans hxj.symm);omega
  rw [ej];refine AA rfl ⟨_,by have:=C2.rtW kr (j:=3) rfl;exact this,AA rfl (Wi ⟨x,?_,(A5g C2 (who:=who) (i:=x) hw (by exact g1) ?_).AE ?_⟩)⟩
  .show rd w2 b (0+_*1)=_
   rw [tnc,mo,za,o2.rd,gmp,hxj]
   rfl
  .show unl S.lh xs (j+1) x=_
   unfold unl;rw [if_neg hno,g2]
  .rintro _ w3 ⟨rfl,T3⟩;have T3':=T2.tr (λp x hx=>(f1 p x hx).imp id λe=>⟨e.1,by have:=k12.sz;have:=e.2;omega⟩) T3;refine⟨_,rfl,j,nlr _,j,by rw [wi (by omega)],by omega,rfl,?_⟩;have:upd (unl S.lh xs (j+1)) x 0=unl S.lh xs j:=by
    funext i;have hd:xs.drop j=x::xs.drop (j+1):=by
     have:=List.drop_eq_getElem_cons (i:=j) (l:=xs) (by omega);rw [this,(DC.1 hxj).2]
    unfold unl;by_cases e:i=x
    .subst e;rw [AF,hd,if_pos mcs]
    .rw [AI _ _ e,hd];by_cases e2:i∈xs.drop (j+1)
     .rw [if_pos e2,if_pos (mcm _ e2)]
     .rw [if_neg e2,if_neg λe3=>(List.mem_cons.1 e3).elim e e2]
   rw [<- this];exact T3'
 .have:j=0:=by simp at hc;omega
  subst this;exact⟨rfl,T1⟩
end
def Fo(fp:Prt->Nat->Prop)(FR:NP):NP:=λx=>(∃p,fp p x)\/FR x
structure Ctx(k:Nat)(S:AR)(fp:Prt->Nat->Prop)(FR:NP)(w:WD):Prop where
 C:AO w k S fp
 lt:∀x,FR x->x<w.heap.size
 dj:∀p x,fp p x->¬FR x
structure Ltr(w:WD)(fp:Prt->Nat->Prop)(FR:NP)(w2:WD)(fp2:Prt->Nat->Prop):Prop where
 kp:AB (λx=>¬FR x) w w2
 fp:∀p x,fp2 p x->fp p x\/w.heap.size<=x
section
variable {w w' w1 w2:WD}{k:Nat}{S S':AR}{fp fp1 fp2:Prt->Nat->Prop}{FR:NP}
theorem Ltr.trans(h:Ltr w fp FR w1 fp1)(h2:Ltr w1 fp1 FR w2 fp2):Ltr w fp FR w2 fp2:=
 ⟨h.kp.trans h2.kp λ_ _ h=>h,λp x hx=>by
  rcases h2.fp p x hx with h3|h3
  .exact h.fp p x h3
  .exact .inr (by have:=h.kp.sz;omega)⟩
theorem Ctx.kept(h:Ctx k S fp FR w)(kk:AB AD w w'):Ctx k S fp FR w':=⟨h.C.k kk,λx hx=>nll (h.lt x hx) kk.sz,h.dj⟩
theorem Ctx.step(h:Ctx k S fp FR w)(T:Step w w' k S' fp):∃fp',Ctx k S' fp' FR w'/\Ltr w fp FR w' fp'/\AB (λx=>∃p,fp p x) w w'/\(∀x,Fo fp' FR x->Fo fp FR x\/rng w w' x):=by
 obtain⟨fp',C',f'⟩:=T.ex;refine⟨fp',⟨C',λx hx=>nll (h.lt x hx) T.kp.sz,λp x hp hr=>?_⟩,⟨T.kp.AE λx _ ⟨p,hp⟩ hr=>h.dj p x hp hr,λp x hp=>(f' p x hp).imp id λe=>e.1⟩,T.kp,λx hx=>?_⟩
 .rcases f' p x hp with h1|h1
  .exact h.dj p x h1 hr
  .have:=h.lt x hr;have:=h1.1;omega
 .rcases hx with⟨p,hp⟩|hr
  .rcases f' p x hp with h1|h1
   .exact .inl (.inl ⟨p,h1⟩)
   .exact .inr h1
  .exact .inl (.inr hr)
theorem Ctx.more(h:Ctx k S fp FR w)(kk:AB AD w w'):Ctx k S fp (λx=>FR x\/rng w w' x) w':=
 ⟨h.C.k kk,λx hx=>hx.elim (λe=>nll (h.lt x e) kk.sz) λe=>e.2,λp x hp hr=>hr.elim (h.dj p x hp) λe=>by have:=(h.C.lt p x hp).2;have:=e.1;omega⟩
theorem Ctx.less{G:NP}(h:Ctx k S fp FR w)(hG:∀x,G x->FR x):Ctx k S fp G w:=⟨h.C,λx hx=>h.lt x (hG x hx),λp x hp hg=>h.dj p x hp (hG x hg)⟩
end
theorem vc23(m:OA)(frame at' n:Int)(w:WD)(K:KV)(h:Q (gIf (isP m) ((!isNone m)=true) (∃(x:OA) (d f:Nat),((!isNone m)=true->rd w (pb m) (po m+95)=some (.slice x d f))/\Wif (!(!isNone m&&!isNone x)) (CS 57 #[sl none 0 0] w λa l c w'=>K (.tuple #[sl a l c,vi 1]) w') (gIf (isP m) (decide (frame<0)=false) (∃(x:OA) (b g:Nat),(decide (frame<0)=false->rd w (pb m) (po m+95)=some (.slice x b g))/\Wif (decide (frame<0)||decide (frame>=(↑b:Int))) (CS 57 #[sl none 0 0] w λa l c w'=>K (.tuple #[sl a l c,vi 7]) w') (Wif (decide (at'<0)||decide (n<0)||decide (n>256)||decide (at'>wrap .i64 (256-n))) (CS 57 #[sl none 0 0] w λa l c w'=>K (.tuple #[sl a l c,vi 2]) w') (Wp m (Rs w m 94 λx i h=>Wif (CZ (wrap .i64 (frame*256)) (wrap .i64 (wrap .i64 (frame+1)*256)) (wrap .i64 (wrap .i64 (frame+1)*256))) (Wif (CZ 0 (wrap .i64 (wrap .i64 (frame+1)*256)) (↑h:Int)) (Wif (CZ at' (wrap .i64 (at'+n)) (↑(Int.toNat (wrap .i64 (wrap .i64 (frame+1)*256))-Int.toNat (wrap .i64 (frame*256))):Int)) (CS 57 #[sl (BS (BS x (Int.toNat (wrap .i64 (wrap .i64 (frame+1)*256))) (Int.toNat (wrap .i64 (frame*256))) 1) (Int.toNat (wrap .i64 (wrap .i64 (frame+1)*256))-Int.toNat (wrap .i64 (frame*256))) (at'.toNat) 1) (Int.toNat (wrap .i64 (at'+n))-at'.toNat) (Int.toNat (wrap .i64 (wrap .i64 (frame+1)*256))-Int.toNat (wrap .i64 (frame*256))-at'.toNat)] w λa l c w'=>K (.tuple #[sl a l c,vi 0]) w') False) False) False)))))))):Ret 23 #[pt m,vi frame,vi at',vi n] w K:=vcA L2 3 [] func23 h
theorem vc38(m:OA)(frame at':Int)(b:OA)(bL bC:Nat)(w:WD)(K:KV)(h:Q (gIf (isP m) ((!isNone m)=true) (∃(x:OA) (c d:Nat),((!isNone m)=true->rd w (pb m) (po m+95)=some (.slice x c d))/\Wif (!(!isNone m&&!isNone x)) (∃(n:Int) (w':WD),QX prog #[81,81] 3 (sl none 0 0) (sl b bL bC) (vi n) w w'/\K (vi 1) w') (gIf (isP m) (decide (frame<0)=false) (∃(x:OA) (a f:Nat),(decide (frame<0)=false->rd w (pb m) (po m+95)=some (.slice x a f))/\Wif (decide (frame<0)||decide (frame>=(↑a:Int))) (∃(n:Int) (w':WD),QX prog #[81,81] 3 (sl none 0 0) (sl b bL bC) (vi n) w w'/\K (vi 7) w') (Wif (decide (at'<0)||false||decide ((↑bL:Int)>256)||decide (at'>wrap .i64 (256-(↑bL:Int)))) (∃(n:Int) (w':WD),QX prog #[81,81] 3 (sl none 0 0) (sl b bL bC) (vi n) w w'/\K (vi 2) w') (Wp m (Rs w m 94 λx h g=>Wif (CZ (wrap .i64 (frame*256)) (wrap .i64 (wrap .i64 (frame+1)*256)) (wrap .i64 (wrap .i64 (frame+1)*256))) (Wif (CZ 0 (wrap .i64 (wrap .i64 (frame+1)*256)) (↑g:Int)) (Wif (CZ at' (wrap .i64 (at'+(↑bL:Int))) (↑(Int.toNat (wrap .i64 (wrap .i64 (frame+1)*256))-Int.toNat (wrap .i64 (frame*256))):Int)) (∃(n:Int) (w':WD),QX prog #[81,81] 3 (sl (BS (BS x (Int.toNat (wrap .i64 (wrap .i64 (frame+1)*256))) (Int.toNat (wrap .i64 (frame*256))) 1) (Int.toNat (wrap .i64 (wrap .i64 (frame+1)*256))-Int.toNat (wrap .i64 (frame*256))) (at'.toNat) 1) (Int.toNat (wrap .i64 (at'+(↑bL:Int)))-at'.toNat) (Int.toNat (wrap .i64 (wrap .i64 (frame+1)*256))-Int.toNat (wrap .i64 (frame*256))-at'.toNat)) (sl b bL bC) (vi n) w w'/\K (vi 0) w') False) False) False)))))))):Ret 38 #[pt m,vi frame,vi at',sl b bL bC] w K:=vcA L2 3 [] func38 h
theorem vc240(m:OA)(frame:Int)(w:WD)(K:KV)(h:Q (gIf (isP m) ((!isNone m)=true) (∃(x:OA) (b c:Nat),((!isNone m)=true->rd w (pb m) (po m+95)=some (.slice x b c))/\Wif (!(!isNone m&&!isNone x)) (∃(w':WD),JS prog #[81] 0 (sl none 0 0) w w'/\K (vi 1) w') (gIf (isP m) (decide (frame<0)=false) (∃(x:OA) (a d:Nat),(decide (frame<0)=false->rd w (pb m) (po m+95)=some (.slice x a d))/\Wif (decide (frame<0)||decide (frame>=(↑a:Int))) (∃(w':WD),JS prog #[81] 0 (sl none 0 0) w w'/\K (vi 7) w') (Wp m (Rs w m 94 λx g f=>Wif (CZ (wrap .i64 (frame*256)) (wrap .i64 (wrap .i64 (frame+1)*256)) (wrap .i64 (wrap .i64 (frame+1)*256))) (Wif (CZ 0 (wrap .i64 (wrap .i64 (frame+1)*256)) (↑f:Int)) (Wif (CZ 0 256 (↑(Int.toNat (wrap .i64 (wrap .i64 (frame+1)*256))-Int.toNat (wrap .i64 (frame*256))):Int)) (∃(w':WD),JS prog #[81] 0 (sl (BS (BS x (Int.toNat (wrap .i64 (wrap .i64 (frame+1)*256))) (Int.toNat (wrap .i64 (frame*256))) 1) (Int.toNat (wrap .i64 (wrap .i64 (frame+1)*256))-Int.toNat (wrap .i64 (frame*256))) 0 1) 256 (Int.toNat (wrap .i64 (wrap .i64 (frame+1)*256))-Int.toNat (wrap .i64 (frame*256))-0)) w w'/\K (vi 0) w') False) False) False))))))):Ret 240 #[pt m,vi frame] w K:=vcA L2 3 [] func240 h
theorem vc295(m:OA)(frame:Int)(w:WD)(K:KV)(h:Q (gIf (isP m) ((!isNone m)=true) (∃(x:OA) (b c:Nat),((!isNone m)=true->rd w (pb m) (po m+95)=some (.slice x b c))/\Wif (!(!isNone m&&!isNone x)) (K (sl none 0 0) w) (gIf (isP m) (decide (frame<0)=false) (∃(x:OA) (a d:Nat),(decide (frame<0)=false->rd w (pb m) (po m+95)=some (.slice x a d))/\Wif (decide (frame<0)||decide (frame>=(↑a:Int))) (K (sl none 0 0) w) (Wp m (Rs w m 94 λx g f=>Wif (CZ (wrap .i64 (frame*256)) (wrap .i64 (wrap .i64 (frame+1)*256)) (wrap .i64 (wrap .i64 (frame+1)*256))) (Wif (CZ 0 (wrap .i64 (wrap .i64 (frame+1)*256)) (↑f:Int)) (K (sl (BS x (Int.toNat (wrap .i64 (wrap .i64 (frame+1)*256))) (Int.toNat (wrap .i64 (frame*256))) 1) (Int.toNat (wrap .i64 (wrap .i64 (frame+1)*256))-Int.toNat (wrap .i64 (frame*256))) (Int.toNat (wrap .i64 (wrap .i64 (frame+1)*256))-Int.toNat (wrap .i64 (frame*256)))) w) False) False))))))):Ret 295 #[pt m,vi frame] w K:=vcA L2 3 [] func295 h
theorem vc294(d:OA)(i:Int)(b:OA)(bL bC:Nat)(fail:Bool)(w:WD)(K:KV)(h:Q (Calls prog 168 #[pt d,vi i] w λe w'=>∃(p:OA) (n:Int),e=rT (.tuple #[pt p,vi n])/\Wif (n != 0) (K (vi n) w') (Wif ((↑bL:Int)!=256) (K (vi 2) w') (Wif fail (K (vi 40) w') (Wif (decide (256<=bL)) (Wp b (∃(x:NI),BB w' (pb b) (po b) (AQ .u8 x 0 256)/\Wp p (DJ w' (pb p) (po p) (AQ .u8 x 0 256)/\∀a,a=F5 w' (pb p) (po p) (AQ .u8 x 0 256)->K (vi 0) a))) False))))):Ret 294 #[pt d,vi i,sl b bL bC,bool fail] w K:=vcA L2 3 [] func294 h
theorem vc59(d:OA)(i:Int)(fail:Bool)(w:WD)(K:KV)(h:Q (Calls prog 168 #[pt d,vi i] w λe w'=>∃(p:OA) (n:Int),e=rT (.tuple #[pt p,vi n])/\Wif (n != 0) (K (.tuple #[sl none 0 0,vi n]) w') (Wif fail (K (.tuple #[sl none 0 0,vi 40]) w') (Wp p (∃(x:NI),BB w' (pb p) (po p) (AQ .u8 x 0 256)/\AW w' (List.toArray (replicate 256 (vu 0))) 272 λa=>DJ a w'.heap.size 0 (AQ .u8 x 0 256)/\∀b,b=F5 a w'.heap.size 0 (AQ .u8 x 0 256)->K (.tuple #[sl (aD w'.heap.size) 256 256,vi 0]) b))))):Ret 59 #[pt d,vi i,bool fail] w K:=vcA L2 3 [] func59 h
theorem vc103(s:OA)(i:Int)(w:WD)(K:KV)(h:Q (CB 102 #[pt s,vi i] w λb w'=>gIf (isP s) (b=true) (∃(x:OA) (a d:Nat),(b=true->rd w' (pb s) (po s)=some (.slice x a d))/\gIf (isP x) (b=true) (gIf (inB (wrap .i64 (Int.tdiv i 64)) a) (b=true) (∃(c:Int),(b=true->rd w' (pb x) (po x+Int.toNat (wrap .i64 (Int.tdiv i 64))*1)=some (.int .u64 c))/\gIf (decide (0<=Int.tmod i 64)) (b=true) (K (.bool (b&&CD BinOp.and IntKind.u64 (Int.fdiv c (2^min (Int.toNat (Int.tmod i 64)) 64)) 1==1)) w')))))):Ret 103 #[pt s,vi i] w K:=vcA L7 2 [] func103 h
theorem vc40(s:OA)(i:Int)(w:WD)(K:KV)(h:Q (Wif (isNone s) (K (vi 1) w) (CB 102 #[pt s,vi i] w λb w'=>Wif (!b) (K (vi 2) w') (CB 103 #[pt s,vi i] w' λb w'=>Wif b (K (vi 8) w') (Dr w' λd=>Wp s (Rs d s 0 λx a f=>Wp x (Wn (wrap .i64 (Int.tdiv i 64)) a (∃(c:Int),rd d (pb x) (po x+Int.toNat (wrap .i64 (Int.tdiv i 64))*1)=some (.int .u64 c)/\Wif (decide (0<=Int.tmod i 64)) (Wp x (Wn (wrap .i64 (Int.tdiv i 64)) a (Sw d (pb x) (po x+Int.toNat (wrap .i64 (Int.tdiv i 64))*1) (int .u64 (CD BinOp.or IntKind.u64 c (wrap .u64 (1*2^min (Int.toNat (Int.tmod i 64)) 64)))) λw'=>K (vi 0) w'))) False)))))))):Ret 40 #[pt s,vi i] w K:=vcA L7 2 [] func40 h
theorem vc272(s:OA)(pid page:Int)(w:WD)(K:KV)(h:Q (gIf (isP s) (isNone s=false) (∃(x:Bool),(isNone s=false->rd w (pb s) (po s+1)=some (.bool x))/\Wif (isNone s||!x) (K (.tuple #[vi 0,vi 1]) w) (Wif (decide (pid<1)||decide (pid>8)||decide (page<0)||decide (page>=1024)) (K (.tuple #[vi 0,vi 2]) w) (Wp s (Rs w s 0 λx b c=>CI 293 #[sl x b c,agg #[vi 0,vi 0]] w λn w'=>Wif (decide (n<0)) (K (.tuple #[vi 0,vi 9]) w') (Wp s (Rs w' s 0 λx d f=>Wp x (Wn n d ((wr w' (pb x) (po x+n.toNat*2)/\wr w' (pb x) (po x+n.toNat*2+1))/\St (st w' (pb x) (po x+n.toNat*2) (vi pid)) (pb x) (po x+n.toNat*2+1) (vi page) λa=>K (.tuple #[vi n,vi 0]) a)))))))))):Ret 272 #[pt s,vi pid,vi page] w K:=vcA L7 2 [] func272 h
theorem vc200(c:OA)(w:WD)(K:KV)(h:Q (gIf (isP c) (isNone c=false) (∃(x:Option Nat),(isNone c=false->rd w (pb c) (po c+1)=some (.map x))/\Wif (isNone c||isNone x) (K (vi 0) w) (Wp c (Rs w c 0 λx a b=>K (vi (↑a:Int)) w))))):Ret 200 #[pt c] w K:=vcA L7 2 [] func200 h
theorem vc245(c:OA)(w:WD)(K:KV)(h:Q (∃(I:Int->Bool->WD->Nat->Prop),(∃(n:Nat),I 0 false w n)/\∀(n:Int) (b:Bool) (w':WD) (j:Nat),I n b w' j->CI 200 #[pt c] w' λt w'=>Wif (decide (t>0)) (Wp c (Rs w' c 0 λx u z=>Wp x (Wn 0 u (Ri w' x 0 λg=>Wp c (Rs w' c 0 λx k h=>Wif (CZ 1 (↑k:Int) (↑h:Int)) (AW w' #[vi g] 3 λr=>∃(a:OA) (l c_1:Nat) (i:WD),BL prog #[27,27] 27 (sl (BS x h 1 1) (k-1) (h-1)) (sl (aD w'.heap.size) 1 1) (sl a l c_1) r i/\Wp c (Sw i (pb c) (po c) (sl a l c_1) λw'=>Wp c (∃(x:Option Nat),rd w' (pb c) (po c+1)=some (.map x)/\∃(o p:Bool),EA prog 289 (Value.map x) (vi g) false (agg #[bool o,bool p]) w'/\AW w' #[bool false,bool false] 311 λf=>(wr f w'.heap.size 0/\wr f w'.heap.size 1)/\St (st f w'.heap.size 0 (bool o)) w'.heap.size 1 (bool p) λd=>∃(x q:Bool),(rd d w'.heap.size 0=some (.bool x)/\rd d w'.heap.size 1=some (.bool q))/\Wif (x==false&&(q==false&&true)) (K (.tuple #[vi g,bool true]) d) (Dr d λs=>Wp c (∃(x:Option Nat),rd s (pb c) (po c+1)=some (.map x)/\RB s w'.heap.size 1 λy=>∃(w':WD),EF prog 289 (Value.map x) (vi g) (agg #[bool y,bool false]) s w'/\Lt j λm=>I n b w' m))))) False))))) (K (.tuple #[vi 0,bool false]) w'))):Ret 245 #[pt c] w K:=vcA L7 2 [] func245 h
theorem vc242(c:OA)(w:WD)(K:KV)(h:Q (AW w #[pt c] 180 λw'=>RP w' w.heap.size 0 λx=>CS 142 #[pt x] w' λa l c w'=>CS 161 #[sl a l c,func (.func 274) #[] #[bp w]] w' λa l c w'=>K (sl a l c) w')):Ret 242 #[pt c] w K:=vcA L7 2 [] func242 h
theorem vc199(k:OA)(node:Int)(w:WD)(K:KV)(h:Q (Wp k (Rs w k 101 λx p r=>Wp x (Wn node p (Rs w x (node.toNat*1) λg i s=>∃(I:Int->Int->WD->Nat->Prop),(∃(n:Nat),I 0 0 w n)/\∀(n d:Int) (w':WD) (j:Nat),I n d w' j->Wif (decide (d<(↑i:Int))) (Wp g (Wn d i (Rp w' g (d.toNat*1) λx=>CS 242 #[pt x] w' λa l c w'=>∃(f:Int->Int->WD->Nat->Prop),(∃(b:Nat),f n 0 w' b)/\∀(n b:Int) (w':WD) (h:Nat),f n b w' h->Wif (decide (b<(↑l:Int))) (Wp a (Wn b l (Ri w' a (b.toNat*1) λo=>CI 243 #[pt x,vi o] w' λq w'=>Wif (q==0) (CI 187 #[pt k,vi o] w' λt w'=>Lt h λm=>f (wrap .i64 (n+1)) (wrap .i64 (b+1)) w' m) (Lt h λm=>f n (wrap .i64 (b+1)) w' m)))) (Lt j λm=>I n (wrap .i64 (d+1)) w' m)))) (K (vi n) w')))))):Ret 199 #[pt k,vi node] w K:=vcA L7 2 [] func199 h
theorem vc17(l:OA)(lL lC:Nat)(n:Int)(w:WD)(K:KV)(h:Q (∃(I:Bool->Int->WD->Nat->Prop),(∃(n:Nat),I false 0 w n)/\∀(b:Bool) (a:Int) (w':WD) (c:Nat),I b a w' c->Wif (decide (a<(↑lL:Int))) (Wp l (Wn a lL (Ri w' l (a.toNat*1) λx=>Wif (x==n) (K (.bool true) w') (Lt c λm=>I b (wrap .i64 (a+1)) w' m)))) (K (.bool false) w'))):Ret 17 #[sl l lL lC,vi n] w K:=vcA L7 2 [] func17 h
theorem vc8(x0:NI)(x94:OA)(x94L x94C:Nat)(x95:OA)(x95L x95C:Nat)(x96:NI)(w:WD)(K:KV)(h:Q (AW w (List.toArray (AQ .i64 x0 0 94++([sl x94 x94L x94C,sl x95 x95L x95C]++AQ .i64 x96 0 8))) 29 λw'=>∃(x:NI),BB w' w.heap.size 0 (AQ .i64 x 0 94)/\CB 28 #[agg (List.toArray (AQ .i64 x 0 94))] w' λb w'=>∃(x:NI),((!b)=false->BB w' w.heap.size 0 (AQ .i64 x 0 94))/\Wif (!b) (K (.bool false) w') (CS 29 #[agg (List.toArray (AQ .i64 x 0 94))] w' λa l c w'=>∃(x:OA) (i z:Nat),(decide ((↑l:Int)>60)=false->rd w' w.heap.size 94=some (.slice x i z))/\∃(x:OA) (p A:Nat),((decide ((↑l:Int)>60)||decide ((↑i:Int)>32))=false->rd w' w.heap.size 95=some (.slice x p A))/\Wif (decide ((↑l:Int)>60)||decide ((↑i:Int)>32)||decide ((↑p:Int)>64)) (K (.bool false) w') (AW w' (List.toArray (replicate 32 (bool false))) 96 λr=>∃(I:Bool->Int->WD->Nat->Prop),(∃(n:Nat),I false 0 r n)/\∀(b:Bool) (n:Int) (d:WD) (q:Nat),I b n d q->RS d w.heap.size 94 λx B E=>Wif (decide (n<(↑B:Int))) (RS d w.heap.size 94 λx C F=>Wp x (Wn n C (Ri d x (n.toNat*1) λf=>∃(x:OA) (j s:Nat),(decide (f<0)=false->rd d w.heap.size 94=some (.slice x j s))/\gIf (isP x) (decide (f<0)=false) (gIf (inB n j) (decide (f<0)=false) (∃(g:Int),(decide (f<0)=false->rd d (pb x) (po x+n.toNat*1)=some (.int .i64 g))/\∃(x:OA) (k t:Nat),((decide (f<0)||decide (g>31))=false->rd d w.heap.size 94=some (.slice x k t))/\gIf (isP x) ((decide (f<0)||decide (g>31))=false) (gIf (inB n k) ((decide (f<0)||decide (g>31))=false) (∃(h:Int),((decide (f<0)||decide (g>31))=false->rd d (pb x) (po x+n.toNat*1)=some (.int .i64 h))/\gIf (inB h 32) ((decide (f<0)||decide (g>31))=false) (∃(x:Bool),((decide (f<0)||decide (g>31))=false->rd d w'.heap.size (0+h.toNat*1)=some (.bool x))/\Wif (decide (f<0)||decide (g>31)||x) (K (.bool false) d) (RS d w.heap.size 94 λx u D=>Wp x (Wn n u (Ri d x (n.toNat*1) λo=>Wn o 32 (Sw d w'.heap.size (0+o.toNat*1) (bool true) λy=>Lt q λm=>I b (wrap .i64 (n+1)) y m)))))))))))) (K (.bool true) d))))):Ret 8 #[agg (List.toArray (AQ .i64 x0 0 94++sl x94 x94L x94C::sl x95 x95L x95C::AQ .i64 x96 0 8))] w K:=vcA L7 2 [] func8 h
section
variable {w:WD}{m bb mb n:Nat}{c:NI}{by':NI}{mk:Nat->Mark}
theorem A77{kd:IntKind}{f:NI}{o k N:Nat}(h:o+k<=N):(AQ kd f 0 N).take o++replicate k (.int kd 0)++(AQ kd f 0 N).drop (o+k)=AQ kd (DA f o k) 0 N:=by
 refine DX (by simp [AM];omega) λj hj=>?_;unfold DA;by_cases h1:j<o
 .rw [if_neg (by omega),gal (by simp [AM];omega),gal (by simp [AM];omega),List.getElem?_take,if_pos h1,AZ _ _ _ _ _ hj,za]
 .by_cases h2:j<o+k
  .rw [if_pos (by omega),gal (by simp [AM];omega),gar (by simp [AM];omega),List.getElem?_replicate,if_pos (by simp [AM];omega)]
  .rw [if_neg (by omega),gar (by simp [AM];omega),List.getElem?_drop];have:o+k+(j-(List.take o (AQ kd f 0 N)++replicate k (int kd 0)).length)=j:=by simp [AM];omega
   rw [this,AZ _ _ _ _ _ hj,za]
theorem A9c(h:BU w m bb mb c n by' mk)(hn:n<=1024)(hf:f<n) :
 Calls prog 240 #[AP m,vi f] w λe w'=>e=.returned (vi 0)/\AB (·=bb) w w'/\BU w' m bb mb c n (DA by' (f*256) 256) mk:=by
 refine Calls.ret (vc240 _ f w _ ?_);have h95:rd w m (0+95)=some (.slice (some ⟨mb,0,none⟩) n n):=by rw [za];exact h.r95
 have h94:rd w m (0+94)=some (.slice (some ⟨bb,0,none⟩) (n*256) (n*256)):=by rw [za];exact h.r94
 unfold Q;refine AJ (λ_=>rfl) ⟨_,_,_,λ_=>h95,AL rfl (AJ (λ_=>rfl) ⟨_,_,_,λ_=>h95,AL (by simp;omega) (AA rfl ⟨_,_,_,h94,?_⟩)⟩)⟩;rw [wi (x:=(f:Int)+1) (by omega),wi (x:=(f:Int)*256) (by omega),wi (x:=((f:Int)+1)*256) (by omega)];refine AA BR (AA BR (AA BR ?_));rw [show Int.toNat ((f:Int)*256)=f*256 by omega,show Int.toNat (((f:Int)+1)*256)=f*256+256 by omega];have eo:∀{d:Nat},d≠f*256->BS (BS (some ⟨bb,0,none⟩) d (f*256) 1) (f*256+256-f*256) 0 1=some ⟨bb,f*256,none⟩:=λhd=>by
  rw [B1c hd (by omega)];rfl
 rw [eo (by omega)];obtain⟨w',hc,ho,hk⟩:=B9d (P:=prog) (t:=81) (e:=5) (ty:=0) underlying81 zeroValue5 rfl rfl h.bs (f*256) 256 (f*256+256-f*256-0) (by rw [AM];omega);rw [A77 (by omega)] at ho;exact⟨w',hc,rfl,hk,⟨h.so.kx hk h.ne.1,ho,h.ms.kx hk λe=>h.ne.2.2 e.symm,h.ne⟩⟩
end
section
variable {w w':WD}{k:Nat}{S:AR}{fp:Prt->Nat->Prop}
theorem A87(h:AO w k S fp)(hf:f<S.n) :
 Calls prog 240 #[AP S.pm,vi f] w λe w'=>e=.returned (vi 0)/\Step w w' k (S.JQ (DA S.by' (f*256) 256)) fp:=by
 obtain⟨bb,mb,M,f1,f2,f3⟩:=h.mem;refine(A9c M h.n4.2.2 hf).AE ?_;rintro e w' ⟨he,kk,M'⟩;exact⟨he,h.FD .mem kk (λx e=>e▸f2) rfl (λp F w hp hq=>by cases p <;> first|exact hq|exact absurd rfl hp) ⟨bb,mb,M',.inl f1,.inl f2,.inl f3⟩⟩
