/- Part of a proof that a law returns true. Conditions: those in each theorem. -/
import Derived.Test.YtdgbechegbmpcaaGreatDoorQ38
set_option linter.unusedSimpArgs false
set_option linter.unusedVariables false
set_option maxRecDepth 100000
namespace Go.Proofs.YtdgbechegbmpcaaGreatDoor
open Go Go.Eng Go.Proofs.Tryz
open Go.Value (bool func slice agg int)
open Option (isNone)
open Go.IntKind (wrap)
open List (replicate range)
variable {pg:Nat->Pg}{i ic il kl l lf n0 tc tl wl:Nat}{X:NP}{ls rl β:Nat->Nat}{t:SqT}{ia ka ta wa:OA}{nf pf:NI}{W W' W1:WD}{B:BP}{S:AR}{fp:Prt->Nat->Prop}{pin:Nat->Bool}
theorem A1p(pg:Nat->Pg):∀q,(CO pg q).length=((range q).filter λj=>decide (pg j≠.no)).length
 | 0=>rfl
 | q+1=>by
  rw [H9,lap,A1p pg q,List.range_succ,List.filter_append,lap];congr 1
  cases h:pg q <;> simp [h]
theorem B1s{pg':Nat->Pg}(h:∀j,pg' j=.no↔pg j=.no)(q:Nat):(CO pg' q).length=(CO pg q).length:=by
 rw [A1p,A1p];have:(λj=>decide (pg' j≠.no))=λj=>decide (pg j≠.no):=by
  funext j;rw [decide_eq_decide];exact not_congr (h j)
 rw [this]
section
variable {w0 W W1 W2:WD}{n0 lo hi:Nat}{pf nf:NI}{B:BP}{β:Nat->Nat}{S:AR}{fp:Prt->Nat->Prop}{FR:NP}{rt lf:Nat}{pg:Nat->Pg}{pin:Nat->Bool}{ta:OA}{tl tc:Nat}{A:List Nat}{gt:Nat->Value}{nn la ca:NI}
def B45(B:BP)(rt lf:Nat)(ta:OA)(tl tc:Nat):List Value:=AQ .i64 B.x0 0 94++([slice B.pa B.pl B.pc,slice B.ia B.il B.ic]++(AQ .i64 B.x96 0 8++[vi rt,vi lf,.slice ta tl tc]))
def wvB(B:BP)(β:Nat->Nat)(rt lf:Nat)(ta:OA)(tl tc:Nat):Wv:=⟨β 23,B.kp,β 5,B45 B rt lf ta tl tc,β 9,β 13,β 17,β 21,B.n⟩
theorem DU.w{r:Nat}(h:DU W B β r l (.slice ta tl tc))(hn:B.n<=16)(dj:∀s∈KH,∀t∈KH,s≠t->β s≠β t):WAt W (wvB B β r l ta tl tc) (λ_=>.slice none 0 0) (λ_=>0) (λ_=>0) (λ_=>0):=by
 have d:∀s t,s∈KH->t∈KH->s≠t->β s≠β t:=λs t a b c=>dj s a t b c;refine⟨?_,by simp [wvB,B45,AM],hn,?_,J1▸h.n,J1▸h.a,J1▸h.c,⟨d _ _ (by decide) (by decide) (by decide),d _ _ (by decide) (by decide) (by decide),d _ _ (by decide) (by decide) (by decide),d _ _ (by decide) (by decide) (by decide),d _ _ (by decide) (by decide) (by decide),d _ _ (by decide) (by decide) (by decide)⟩,?_⟩
 .have:B.wr β r l (.slice ta tl tc)=[AP (wvB B β r l ta tl tc).k,AP (wvB B β r l ta tl tc).t]++(wvB B β r l ta tl tc).mid++[.slice (some ⟨β 9,0,none⟩) B.n B.n,.slice (some ⟨β 13,0,none⟩) B.n B.n,.slice (some ⟨β 17,0,none⟩) B.n B.n,.slice (some ⟨β 21,0,none⟩) B.n B.n]:=by
   simp [BP.wr,BP.pre,wvB,B45]
  have o:=h.so;rw [this] at o;exact o
 .have:(range B.n).map (λ_=>slice none 0 0)=replicate B.n nl:=by
   refine List.ext_getElem? λi=>?_;rw [gmp,List.getElem?_replicate];by_cases hi:i<B.n
   .rw [List.getElem?_range hi,if_pos hi];rfl
   .rw [if_neg hi,gen (by simpa using hi)];rfl
  show AX W (β 9) ((range B.n).map λ_=>_)
  rw [this];exact h.g
 .rintro (e|e|e|e)
  .exact d 23 9 (by decide) (by decide) (by decide) e
  .exact d 23 13 (by decide) (by decide) (by decide) e
  .exact d 23 17 (by decide) (by decide) (by decide) e
  .exact d 23 21 (by decide) (by decide) (by decide) e
theorem OI{r:Nat}(h:WAt W2 (wvB B β r l ta tl tc) gt nn la ca){v:Value}(hv:(B45 B r l ta tl tc)[i]? = some v):rd W2 (β 23) (2+i)=some v:=by
 have hi:=(DC.1 hv).1;have o:=h.so;have e:(wvB B β r l ta tl tc).mid=B45 B r l ta tl tc:=rfl;rw [e] at o;have:=o.rd (2+i);rw [gal (by simp;omega),gar (by simp),show 2+i-[AP (wvB B β r l ta tl tc).k,AP (wvB B β r l ta tl tc).t].length=i by simp,hv] at this;exact this
theorem B1k{r:Nat}(hi:i<94):(B45 B r l ta tl tc)[i]? = some (vi (B.x0 i)):=by
 unfold B45;rw [gal (by rw [AM];exact hi),AZ _ _ _ _ _ hi,za]
theorem NQ{r:Nat}{v:Value}(hv:([slice B.pa B.pl B.pc,slice B.ia B.il B.ic]++(AQ .i64 B.x96 0 8++[vi r,vi l,.slice ta tl tc]))[i]? = some v):(B45 B r l ta tl tc)[94+i]? = some v:=by
 unfold B45;rw [gar (by rw [AM];omega),AM,Nat.add_sub_cancel_left];exact hv
structure EY(n0:Nat)(pf nf:NI)(B:BP)(β:Nat->Nat)(S:AR)(fp:Prt->Nat->Prop)(FR:NP)(rt lf:Nat)(pg:Nat->Pg)(pin:Nat->Bool)(ta:OA)(tl tc:Nat)(A:List Nat)(W:WD):Prop where
 X:Ctx B.kp S fp FR W
 lo:∀x,Fo fp FR x->n0<=x
 R:DU W B β rt lf (.slice ta tl tc)
 E5:∀x,CW B β x->FR x
 row:DT W ta tl tc (A.map λx:Nat=>(x:Int))
 rowF:∀x,(slice ta tl tc).ownBlock=some x->FR x/\¬CW B β x
 Q:QSt S rt lf pg pin A h0 tk0 B.pl B.pl
 c:S.c=B.x0
 n:B.n=S.AS
 pg1:∀j,(∃f,pg j=.fr f)↔∃i,i<B.pl/\pf i=j
 pg2:∀j,pg j=.no\/∃f,pg j=.fr f
 pn:∀j,pin j=true↔(∃i,i<B.pl/\pf i=j)/\∃i,i<B.il/\nf i=j
 dj:∀s∈KH,∀t∈KH,s≠t->β s≠β t
theorem B6q.w(h:B6q w0 pf nf B β S fp FR rt lf pg pin ta tl tc A W):EY w0.heap.size pf nf B β S fp FR rt lf pg pin ta tl tc A W:=
 ⟨h.L.G.X,h.L.G.lo,h.L.R,h.L.E5,h.L.row,h.L.rowF,h.Q,h.c,h.n,h.pg1,h.pg2,h.pn,h.dj⟩
theorem EY.env(h:EY n0 pf nf B β S fp FR rt lf pg pin ta tl tc A W)(kk:AB X W W1)(hX:∀x,X x->¬Fo fp FR x):EY n0 pf nf B β S fp FR rt lf pg pin ta tl tc A W1:=
 {h with
  X:=⟨h.X.C.kx kk λx p h1 h2=>hX x h1 (.inl ⟨p,h2⟩),λx hx=>nll (h.X.lt x hx) kk.sz,h.X.dj⟩
  R:=h.R.kx kk λx hm e=>hX x e (.inr (h.E5 x hm))
  row:=h.row.kx kk λx e hx=>hX x e (.inr (h.rowF x hx).1)}
theorem EY.sup(Bg:EY n0 pf nf B β S fp FR rt lf pg pin ta tl tc A W):(CO pg 32).length=B.pl:=by
 have h0:pgS pg 32=[]:=by
  rw [List.eq_nil_iff_forall_not_mem];intro s hs;obtain⟨j,_,hj⟩:=A4s.1 hs;rcases Bg.pg2 j with e|⟨f,e⟩ <;> rw [e] at hj <;> cases hj
 rw [NU,h0,RY];exact Bg.Q.cp
def rbB(β:Nat->Nat)(ta:OA)(tl tc n0 lo hi:Nat)(x:Nat):Prop:=(x<n0\/(lo<=x/\x<hi))\/x=β 5\/x=β 25\/(slice ta tl tc).ownBlock=some x
abbrev ZB(B:BP)(β:Nat->Nat)(S:AR)(rt lf:Nat)(pg:Nat->Pg)(pin:Nat->Bool)(ta:OA)(tl tc:Nat)(A:List Nat)(n0 lo hi:Nat)(ls:Nat->Nat)(ro:WD->Prop)(me:Nat)(al:Prop)(Q:SqT->(NP)->WD->Prop):Cn:=
 ⟨B.kp,S.pl,wvB B β rt lf ta tl tc,B.x0,rt,lf,pg,pin,A,B.pl,ls,rbB β ta tl tc n0 lo hi,λx=>x<n0\/(lo<=x/\x<hi),ro,me,al,Q⟩
abbrev tB(S:AR)(pg:Nat->Pg):SqT:=⟨S,pg,h0,tk0,⟨λ_=>.slice none 0 0,λ_=>0,λ_=>0,λ_=>0⟩⟩
theorem EY.wvl(h:EY n0 pf nf B β S fp FR rt lf pg pin ta tl tc A W){x:Nat}(hx:x=(wvB B β rt lf ta tl tc).b\/(wvB B β rt lf ta tl tc).rows x):(n0<=x/\x<W.heap.size)/\¬rbB β ta tl tc n0 W.heap.size hi x:=by
 have d:∀s t,s∈KH->t∈KH->s≠t->β s≠β t:=λs t a b c=>h.dj s a t b c;have hm:CW B β x:=by
  rcases hx with rfl|rfl|rfl|rfl|rfl <;> simp [CW,wvB]
 have hl:n0<=x/\x<W.heap.size:=⟨h.lo x (.inr (h.E5 x hm)),h.X.lt x (h.E5 x hm)⟩;refine⟨hl,?_⟩;rintro ((e|e)|e|e|e)
 .omega
 .omega
 .rcases hx with rfl|rfl|rfl|rfl|rfl
  .exact d 23 5 (by decide) (by decide) (by decide) e
  .exact d 9 5 (by decide) (by decide) (by decide) e
  .exact d 13 5 (by decide) (by decide) (by decide) e
  .exact d 17 5 (by decide) (by decide) (by decide) e
  .exact d 21 5 (by decide) (by decide) (by decide) e
 .rcases hx with rfl|rfl|rfl|rfl|rfl
  .exact d 23 25 (by decide) (by decide) (by decide) e
  .exact d 9 25 (by decide) (by decide) (by decide) e
  .exact d 13 25 (by decide) (by decide) (by decide) e
  .exact d 17 25 (by decide) (by decide) (by decide) e
  .exact d 21 25 (by decide) (by decide) (by decide) e
 .exact(h.rowF x e).2 hm
theorem EY.pt(h:EY n0 pf nf B β S fp FR rt lf pg pin ta tl tc A W)(kk:AB AD W W1)(hn:n0<=W.heap.size){ro:WD->Prop}{me:Nat}{al:Prop}{Q:SqT->(NP)->WD->Prop}(hme:me<S.AS)(hls:∀n,(ls n:Int)<=B.x0 91)(hlf:∀n,n<S.AK->ls n<=BD (S.L n))(hro:ro W1)
 (hst:∀w w' X,ro w->AB X w w'->(∀x,X x->¬(x<n0\/(W.heap.size<=x/\x<W1.heap.size)))->ro w') :
 Pt (ZB B β S rt lf pg pin ta tl tc A n0 W.heap.size W1.heap.size ls ro me al Q) (tB S pg) (λ_=>False) (λ_=>False) W1/\TabAt W1 (β 5) (β 25) B.n (λ_=>(.nilFunc,0))/\A5r (ZB B β S rt lf pg pin ta tl tc A n0 W.heap.size W1.heap.size ls ro me al Q) (β 25):=by
 have C:=h.X.C;have hs:=C.BQ;have d:∀s t,s∈KH->t∈KH->s≠t->β s≠β t:=λs t a b c=>h.dj s a t b c;have hlt:=h.X.lt;have m5:=h.E5 (β 5) (by simp [CW]);have m25:=h.E5 (β 25) (by simp [CW]);have l25:=hlt _ m25;have g25:=h.lo _ (.inr m25);have sz:=kk.sz;have hcp:EU pg=B.pl:=h.Q.cp;have fr:∀x,(slice ta tl tc).ownBlock=some x\/x=β 5\/x=β 25->FR x:=λx hx=>by
  rcases hx with hx|rfl|rfl
  .exact(h.rowF x hx).1
  .exact m5
  .exact m25
 have hV:∀x,(x=(wvB B β rt lf ta tl tc).b\/(wvB B β rt lf ta tl tc).rows x)->FR x:=λx hx=>h.E5 x (by rcases hx with rfl|rfl|rfl|rfl|rfl <;> simp [CW,wvB]);refine⟨⟨⟨?_,h.c,rfl,hlf,λj=>Iff.rfl,λ_ _ _=>rfl⟩,⟨fp,C.k kk,λx hx=>?_,λp x hp hx=>?_⟩,(h.R.w (by rw [h.n];omega) h.dj).k kk,λ_ _ e=>e,λ_ e=>e,⟨rfl,?_,?_,hls,hst,λx hx=>.inl hx,λx hx=>(h.wvl hx).2,B1k (i:=0) (by decide)⟩,hro⟩,⟨h.R.t.k kk,h.R.ts.k kk,d 5 25 (by decide) (by decide) (by decide)⟩,.inr (.inl rfl),.inr (.inr (.inl rfl)),?_⟩
 .show QSt S rt lf pg pin A h0 tk0 (EU pg) B.pl
  rw [hcp];exact h.Q
 .rcases hx with hx|hx|(hx|hx)|hx|hx|hx
  .exact hx.elim
  .exact nll (hlt _ (hV x hx)) sz
  .omega
  .exact hx.2
  .exact nll (hlt _ (fr x (.inr (.inl hx)))) sz
  .exact nll (hlt _ (fr x (.inr (.inr hx)))) sz
  .exact nll (hlt _ (fr x (.inl hx))) sz
 .have p1:=h.lo x (.inl ⟨p,hp⟩);have p2:=(C.lt p x hp).2;rcases hx with hx|hx|(hx|hx)|hx|hx|hx
  .exact hx
  .exact h.X.dj p x hp (hV x hx)
  .omega
  .omega
  .exact h.X.dj p x hp (fr x (.inr (.inl hx)))
  .exact h.X.dj p x hp (fr x (.inr (.inr hx)))
  .exact h.X.dj p x hp (fr x (.inl hx))
 .show B.n=(B.x0 1).toNat
  have h1:=h.n;have h2:=hs.2.1.2.2;rw [h.c] at h2;omega
 .show me<B.n
  rw [h.n];exact hme
 .show ¬(β 25<n0\/(W.heap.size<=β 25/\β 25<W1.heap.size))
  omega
theorem EY.C1x(h:EY n0 pf nf B β S fp FR rt lf pg pin ta tl tc A W){ro:WD->Prop}{me:Nat}{al:Prop}{Q:SqT->(NP)->WD->Prop}{t':SqT}{G' F':NP}(kk:AB AD W W1)
 (P:Pt (ZB B β S rt lf pg pin ta tl tc A n0 W.heap.size W1.heap.size ls ro me al Q) t' G' F' W2)(k2:AB (λx=>¬rbB β ta tl tc n0 W.heap.size W1.heap.size x\/x=β 25) W1 W2)(TR:GV W1)(ht:tzB<n0)
 {W3:WD} (k3:AB AD W2 W3) :
 (Calls prog 15 #[AP (β 23)] W3 λe w'=>e=.returned (.bool true)/\AB AD W3 w')/\∀(PG:D3 W1 B.pa B.pl pf) (hPG:0<B.pl->pb B.pa<n0) (PN:D3 W1 B.ia B.il nf) (hPN:0<B.il->pb B.ia<n0) (hpl:B.pl<=32) (hil:B.il<=64) (hrg:∀i,i<B.pl->0<=pf i/\pf i<=31),Calls prog 25 #[AP (β 23)] W3 λe w'=>e=.returned (.bool true)/\AB AD W3 w':=by
 obtain⟨fp',X⟩:=P.X;have C3:AO W3 B.kp t'.S fp':=X.C.k k3;have A3:=P.wa.k k3;have m25:=h.E5 (β 25) (by simp [CW]);have g25:=h.lo _ (.inr m25);have lo:∀{x:Nat},x<n0->¬(¬rbB β ta tl tc n0 W.heap.size W1.heap.size x\/x=β 25):=λhx e=>e.elim (λe=>e (.inl (.inl hx))) λe=>by omega
 have hc:(t'.S.AS:Int)=B.x0 1:=by have:=C3.BQ.2.1.2.2;rw [P.inv.c] at this;exact this
 have RV:C3f W3 (β 23) B.kp t'.S.AS B.pa B.pl B.pc rt lf ta tl tc A:=⟨A3.rd0,by rw [hc];exact OI A3 (B1k (i:=1) (by decide)),OI A3 (NQ (i:=0) rfl),OI A3 (NQ (i:=10) rfl),OI A3 (NQ (i:=11) rfl),OI A3 (NQ (i:=12) rfl),(((h.row.k kk).kx k2 λx hX hx=>hX.elim (λe=>e (.inr (.inr (.inr hx)))) λe=>(h.rowF x hx).2 (by rw [e];simp [CW])).k k3)⟩;refine⟨A70 ((TR.kx k2 (lo ht)).k k3) C3 P.inv.q (by rw [B1s P.inv.no,h.sup]) RV,λPG hPG PN hPN hpl hil hrg=>?_⟩;refine B15 C3 P.inv.q RV.r0 RV.r96 (OI A3 (NQ (i:=1) rfl)) RV.r106 ((PG.kx k2 λhl=>lo (hPG hl)).k k3) ((PN.kx k2 λhl=>lo (hPN hl)).k k3) hpl hil hrg (λj hj e=>?_) λj hi hp=>?_
 .obtain⟨f,hf⟩:=(h.pg1 j).2 hj;have:pg j=.no:=(P.inv.no j).1 e;rw [hf] at this
  cases this
 .exact P.inv.q.pinF j ((h.pn j).2 ⟨hp,hi⟩)
end
def CG(i:Nat):Int:=if i=0 then 1 else if i=1 then 1 else if i=18 then 4 else if i=90 then 2 else 0
theorem A1t:D6 CG:=by
 refine⟨by decide,by decide,by decide,by decide,by decide,by decide,?_,by decide,by decide,by decide⟩;intro i k hi hk;have h1:i=0:=by have:i<1:=hi;omega
 have h2:k=0:=by have:k<1:=hk;omega
 subst h1 h2;exact⟨by decide,by decide,rfl⟩
theorem A8s{w:WD}(pa:OA)(l c:Nat):Calls prog 30 #[.slice pa l c] w λe w'=>∃(a:OA) (g:NI),e=.returned (.agg (AQ .i64 CG 0 94++([slice a 2 2,slice pa l c]++AQ .i64 g 0 8)).toArray)/\(∀i,i<8->g i=0)/\AB AD w w'/\w.heap.size<=pb a/\D3 w' a 2 (λi=>(i:Int)):=by
 refine(vc30 pa l c w (λv w'=>∃(a:OA) (g:NI),v=(.agg (AQ .i64 CG 0 94++([slice a 2 2,slice pa l c]++AQ .i64 g 0 8)).toArray)/\(∀i,i<8->g i=0)/\AB AD w w'/\w.heap.size<=pb a/\D3 w' a 2 (λi=>(i:Int))) ?_).AE ?_
 rotate_left
 .rintro e w' ⟨v,rfl,a,g,rfl,h⟩;exact⟨a,g,rfl,h⟩
 apply qI;intro w1 e1 w2 e2;have o1:=AG e1;have k1:=kal e1;have o2:=AG e2;have k2:=kal e2;have l1:=o1.lt;have l2:=o2.lt;refine⟨o2.DJ 0 (by simp),λw3 e3=>?_⟩;obtain⟨o3,k3⟩:=F4 o2 e3 (by simp);refine⟨o3.wr (by simp),λw4 e4=>?_⟩;have o4:=o3.s1 e4;have k4:AB (·=w1.heap.size) w3 w4:=kr.s1 e4 (.inl rfl);have ef:(([int .i64 1,int .i64 1]++(replicate 88 (int .i64 0)++[int .i64 2,int .i64 0,int .i64 0,int .i64 0])).set 18 (int .i64 4))=AQ .i64 CG 0 94:=by kernel_rfl
 rw [ef] at o4;have K4:AB AD w1 w4:=BO (BO k2 k3 λx e=>by omega) k4 λx e=>by omega
 refine⟨CG,o4.DW,λw5 e5=>?_⟩;have o5:=AG e5;have k5:=kal e5;have o15:=(o1.k K4).k k5;refine⟨o15.DJ 0 (by simp [AM]),λw6 e6=>?_⟩;obtain⟨o6,k6⟩:=F4 o15 e6 (by simp [AM]);have er:replicate 8 (int IntKind.i64 0)=AQ .i64 (λ_=>0) 0 8:=J1;rw [er] at o6;have K6:AB AD w w6:=BO (k1.tr (K4.tr k5)) k6 λx e=>by omega
 refine⟨CG,_,_,_,_,_,_,λ_=>0,o6.BB 0 (λj hj=>by rw [za]),_,_,rfl,λ_ _=>rfl,K6,(by have:=K4.sz;show w.heap.size<=w4.heap.size;omega),?_⟩;have hw4:=K4.sz;have o56:=o5.kx k6 (by omega);refine⟨λ_=>⟨rfl,o56.lt⟩,λi hi=>?_⟩
 show rd w6 w4.heap.size (0+i)=_
 rw [za,o56.rd]
 match i,hi with
 | 0,_=>rfl
 | 1,_=>rfl
section
variable {w W W1:WD}{k:Nat}{S:AR}{fp:Prt->Nat->Prop}{rt lf cnt:Nat}{pg:Nat->Pg}{pin:Nat->Bool}{hh:Nat->List Nat}{tk:Nat->Tk}{q tot:Nat}{A:List Nat}
theorem B7c(h:AO w k S fp)(hc:S.c=CG):S.n=4/\S.AK=1/\S.AY=2:=by
 have h1:=h.n4.1;have h2:=h.BQ.2.2.2;rw [hc] at h1 h2;have e1:AU CG (CG 0).toNat=4:=by decide
 have e2:CG 90=2:=by decide
 refine⟨by omega,?_,by omega⟩;unfold AR.AK;rw [hc];rfl
theorem PA(cpu:Nat):0∈D1 CG cpu:=by
 obtain⟨_,h2,_,h4⟩:=H8 A1t cpu;have e:(CG 0).toNat=1:=rfl;rw [e] at h2 h4
 cases hl:D1 CG cpu with
 | nil=>rw [hl] at h4;cases h4
 | cons x xs=>
  have:=h2 x (by rw [hl];simp);have:x=0:=by omega
  rw [this];simp
theorem A47(h:AO w k S fp)(hc:S.c=CG)(L:QSt S rt lf pg pin [] hh tk cnt tot):BD (S.L 0)+cnt+2+(hh 0).length=4:=by
 obtain⟨h1,h2,_⟩:=B7c h hc;have:=L.cf;have h3:S.AS=1:=by have:=h.BQ.2.1.2.2;rw [hc,show CG 1=1 from rfl] at this;omega
 rw [h1,h2,h3,show CY 1 (λi=>BD (S.L i))=0+BD (S.L 0) by rw [CQ];rfl,show CY 1 (λi=>(hh i).length)=0+(hh 0).length by rw [CQ];rfl] at this;simpa using this
theorem A42{g:NI}(h:C3j CG 2 g)(hg:∀i,i<8->g i=0):False:=by
 obtain⟨W,k,S,fp,rt,lf,pg,pin,A,q,C,hc,L,hq,hz,ha⟩:=h;obtain rfl:=ha λi hi=>Int.le_of_eq (hg i hi);have h1:=hz 0 (PA _);have h2:=A47 C hc L;simp at h2;omega
def QF(c:NI)(pin:Nat->Bool)(t:SqT)(F:NP)(w:WD):Prop:=(∀i,t.tk i=Tk.no)/\((t.hh 0=[]/\t.r.nn 0=1/\(∀x∈D1 c 0,(BD (t.S.L x):Int)<=c 91)/\(HV t.S\/∀i∈D1 c 0,∀p f,t.pg p=.fr f->AU c i<=f->(f:Int)<AU c (i+1)->pin p=true))\/∃f a cp,t.hh 0=[f]/\t.r.gt 0=.slice a 1 cp)
theorem B2n(h:AO w k t.S fp)(hc:t.S.c=CG)(L:QSt t.S rt lf t.pg pin [] t.hh t.tk cnt 2)(hp:t.pg 1≠.no)(hpin:pin 1=false)(ht:∀i,t.tk i=Tk.no)(h0:t.hh 0=[])(hmin:∀x∈D1 CG 0,(BD (t.S.L x):Int)<=CG 91)(hno:HV t.S\/∀i∈D1 CG 0,∀p f,t.pg p=.fr f->AU CG i<=f->(f:Int)<AU CG (i+1)->pin p=true):False:=by
 obtain⟨n1,n2,n3⟩:=B7c h hc;have h1:=hmin 0 (PA _);rw [show CG 91=0 from rfl] at h1;have h2:=A47 h hc L;rw [h0] at h2;simp at h2;have hcu:=L.cu;have hcu0:CY t.S.AS (λi=>(t.tk i).n)=0:=by
  have h3:t.S.AS=1:=by have:=h.BQ.2.1.2.2;rw [hc,show CG 1=1 from rfl] at this;omega
  rw [h3,CQ,ht 0];rfl
 have ho:(owns t.S.AY t.S.sof).length=0:=by omega
 have hof:∀s,s<t.S.AY->¬(t.S.sof s).1≠0:=λs hs e=>by
  have:(⟨(s:Int),(t.S.sof s).1,(t.S.sof s).2⟩:Own)∈owns t.S.AY t.S.sof:=by
   unfold owns;exact List.mem_map.2 ⟨s,List.mem_filter.2 ⟨List.mem_range.2 hs,by simpa using e⟩,rfl⟩
  rw [List.length_eq_zero_iff.1 ho] at this
  cases this
 have nosl:∀j s,t.pg j≠.sl s:=λj s e=>by
  obtain⟨_,h5,h6⟩:=L.pgs j s e;exact hof s h5 (by rw [h6];show(1:Int)≠0;decide)
 rcases hno with hn|hn
 .have:t.S.sof 0=(0,0):=(L.so 0 (by omega)).resolve_right λe=>e.elim (λ⟨j,e⟩=>nosl j 0 e) λ⟨i,e⟩=>by rw [ht i] at e;cases e
  exact hn 0 (by omega) this
 .cases e:t.pg 1 with
  | no=>exact hp e
  | sl s=>exact nosl 1 s e
  | fr f=>
   have hfn:=(L.pgo 1 f e).2.1;have:=hn 0 (PA _) 1 f e (by show(0:Int)<=_;omega) (by rw [show AU CG (0+1)=4 by decide];omega);rw [hpin] at this
   cases this
theorem B2m{f:Nat}(h:AO w k S fp)(hc:S.c=CG)(L:QSt S rt lf pg pin [] hh tk cnt 2)(hf:hh 0=[f])(h0:pin 0=true)(h1:pin 1=true):False:=by
 have h2:=A47 h hc L;rw [hf] at h2;simp at h2;have h3:=L.cp;have h4:=(show [0,1].Nodup by decide).length_le_of_subset (l₂:=(range 32).filter λj=>(pg j).KA) λj hj=>by
  have hfr:∀j,pin j=true->(pg j).KA=true:=λj hj=>by
   obtain⟨f,hf⟩:=L.pinF j hj;rw [hf];rfl
  simp at hj;rcases hj with rfl|rfl
  .exact List.mem_filter.2 ⟨by simp,hfr 0 h0⟩
  .exact List.mem_filter.2 ⟨by simp,hfr 1 h1⟩
 rw [h3] at h4;simp at h4;omega
end
def C6w(lo:Nat)(ia:OA)(w0 w':WD)(il:Nat)(nf:NI)(v:Value):Prop:=
 AB AD w0 w'/\∃B β S fp FR rt lf pg pin ta tl tc A,v=.tuple #[AP (β 23),.bool true,.bool true]/\B6q w0 (λi=>(i:Int)) nf B β S fp FR rt lf pg pin ta tl tc A w'/\B.x0=CG/\B.pl=2/\B.il=il/\B.ia=ia/\lo<=pb B.pa/\A=[]/\A37 w0 B.x0 B.pa B.pl B.ia B.il (λi=>(i:Int)) nf
theorem A0s{w:WD}(hz:F7 w)(PN:D3 w ia il nf)(hil:il<=2) :
 Calls prog 30 #[.slice ia il ic] w λe w1=>∃(a:OA) (g:NI),e=.returned (.agg (AQ .i64 CG 0 94++([slice a 2 2,slice ia il ic]++AQ .i64 g 0 8)).toArray)/\AB AD w w1/\
  Calls prog 10 #[.agg (AQ .i64 CG 0 94++([slice a 2 2,slice ia il ic]++AQ .i64 g 0 8)).toArray] w1 λe w'=>∃v,e=.returned v/\C6w w.heap.size ia w1 w' il nf v:=by
 refine(A8s ia il ic).AE ?_;rintro e w1 ⟨a,g,rfl,hg,k1,hlo,PG⟩;have O:A37 w1 CG a 2 ia il (λi=>(i:Int)) nf:=⟨A1t,by decide,by omega,PG,PN.k k1,λi hi=>by omega,λi j _ _ e=>by omega⟩;have hz1:=hz.k k1;have hpos:0<w1.heap.size:=J3 (hz1 0 (by decide));refine⟨a,g,rfl,k1,(A00 hz1 hpos (pc:=2) (ic:=ic) (x96:=g) O).AE ?_⟩;rintro e w' ⟨v,rfl,kk,⟨hl,_⟩|⟨k,β,S,fp,FR,rt,lf,pg,pin,ta,tl,tc,A,rfl,Bg⟩⟩
 .exact(A42 hl hg).elim
 .exact⟨_,rfl,kk,_,β,S,fp,FR,rt,lf,pg,pin,ta,tl,tc,A,rfl,Bg,rfl,rfl,rfl,rfl,hlo,Bg.a0 λi hi=>Int.le_of_eq (hg i hi),O⟩
theorem IN.kx{a:OA}{c:Nat}{ws:List (Int×Int)}(h:IN W a l c ws)(kk:AB X W W')(hx:0<l->¬X (pb a)):IN W' a l c ws:=
 ⟨h.len,h.lc,h.mx,λhl=>by
  obtain⟨b,o,rfl,H⟩:=h.el hl;exact⟨b,o,rfl,λi x hi=>⟨kk.AV (H i x hi).1 (hx hl),kk.AV (H i x hi).2 (hx hl)⟩⟩⟩
abbrev roF(ab:Nat)(W:WD):Prop:=IN W (some ⟨ab,0,none⟩) 1 1 [(1,0)]
theorem A61{FR:NP}{rt:Nat}{ab:Nat}(Bg:EY n0 (λi=>(i:Int)) nf B β S fp FR rt lf pg pin ta tl tc [] W)(hx:B.x0=CG)(hp:B.pl=2)(kk:AB AD W W1)(hn:n0<=W.heap.size)(h1:W.heap.size<=ab)(o:AX W1 ab [vi 1,vi 0]) :
 Calls prog 12 #[AP (β 23),vi (0:Nat),.slice (some ⟨ab,0,none⟩) 1 1] W1 λe w'=>e=.returned (.bool true)/\
  Calls prog 21 #[AP (β 23),vi (0:Nat),vi (200:Nat)] w' λe w''=>e=.returned (.bool true)/\∃t' G' F',Pt (ZB B β S rt lf pg pin ta tl tc [] n0 W.heap.size W1.heap.size (λ_=>0) (roF ab) 0 True (QF CG pin)) t' G' F' w''/\QF CG pin t' F' w''/\AB (λx=>¬rbB β ta tl tc n0 W.heap.size W1.heap.size x\/x=β 25) W1 w'':=by
 have hs:=Bg.X.C.BQ;have h91:CG 91=0:=rfl;have l1:=o.lt;obtain⟨P,T,hb⟩:=Bg.pt kk hn (ls:=λ_=>0) (ro:=roF ab) (me:=0) (al:=True) (Q:=QF CG pin) (by have:=hs.2.1;omega) (λ_=>by rw [hx,h91];decide) (λ_ _=>Nat.zero_le _)
  ⟨rfl,nlr _,by decide,λ_=>⟨ab,0,rfl,λi x hi=>by
   cases i with
   | zero=>cases hi;exact⟨by rw [o.rd];rfl,by rw [o.rd];rfl⟩
   | succ i=>cases hi⟩⟩
  λw w' X h k hX=>h.kx k λ_ e=>hX _ e (.inr ⟨h1,l1⟩)
 generalize hZ:ZB B β S rt lf pg pin ta tl tc [] n0 W.heap.size W1.heap.size (λ_=>0) (roF ab) 0 True (QF CG pin)=Z at P T hb ⊢;have hal:Z.al:=by rw [<- hZ];trivial
 have hm:Z.me=0:=by rw [<- hZ]
 have hV:Z.V=wvB B β rt lf ta tl tc:=by rw [<- hZ]
 have hcc:Z.c=CG:=by rw [<- hZ];exact hx
 have hQ:Z.Q=QF CG pin:=by rw [<- hZ]
 have hpn:Z.pin=pin:=by rw [<- hZ]
 have hr:Z.ro=roF ab:=by rw [<- hZ]
 have hrb:Z.rb=rbB β ta tl tc n0 W.heap.size W1.heap.size:=by rw [<- hZ]
 have hVb:Z.V.b=β 23:=by rw [hV];rfl
 have hVt:Z.V.t=β 5:=by rw [hV];rfl
 have hVn:Z.V.n=B.n:=by rw [hV];rfl
 have hcp:EU pg=2:=by rw [<- hp];exact Bg.Q.cp
 have hnl:(D1 Z.c Z.me).length=1:=by rw [hcc];exact(H8 A1t _).2.2.2
 have hNb:0+bdP (D1 Z.c Z.me).length (EU (tB S pg).pg+1)<=200:=by
  rw [hnl,show EU (tB S pg).pg=2 from hcp]
  decide
 rw [<- hVb];rw [<- hVt,<- hVn] at T;have hin:Z.me<Z.V.n:=P.ok.me;have hPr:Calls prog 43 #[AP Z.V.b,vi Z.me,.slice (some ⟨ab,0,none⟩) 1 1] W1 λe w1=>∃v,e=.returned v/\okF v=true/\(∃t G F,Pt Z t G F w1/\Safe Z 200 t v F w1)/\rd w1 Z.V.b 1=some (AP Z.V.t)/\AB (λx=>¬Z.rb x) W1 w1:=by
  refine(A2y (N:=0) (kd:=1) (nx:=0) (ws:=[]) (λ_=>rfl) P rfl ⟨none,0,rfl,DT.MG,λx hx=>by cases hx⟩ (λW hW=>by rw [hr] at hW;exact hW) λW2 t2 G2 F2 P2 _ h2 g2 ha=>?_).AE ?_
  .refine(A6b (Z:=Z) W2).AE ?_;rintro e w' ⟨rfl,k⟩;obtain⟨P3,o3⟩:=P2.more k;refine⟨_,rfl,_,t2,_,_,rfl,rfl,P3,o3,RunT.nil λt1 w9 hm1 _=>?_⟩;rw [hm1.2 hal,hQ];refine⟨λi=>?_,?_⟩
   .by_cases e:i=Z.me
    .rw [e];exact h2
    .exact P2.inv.al hal i e
   .rcases ha hal with⟨a1,a2,a3,a4⟩|⟨f,a1⟩
    .refine .inl ⟨by rw [hm] at a1;exact a1,by rw [hm] at a2;exact a2,by rw [hcc,hm] at a3;exact a3,a4.imp id λa4=>?_⟩;rw [hcc,hm] at a4;intro i hi p f hp h1 h2;have:=a4 i hi p f hp (by rw [hcc];exact h1) (by rw [hcc];exact h2);rw [hpn] at this;exact this
    .obtain⟨a,c,e,_,_⟩:=g2;rw [hm] at a1 e;have a1:t2.hh 0=[f]:=a1;rw [a1] at e;exact .inr ⟨f,a,c,a1,e⟩
  .rintro e w1 ⟨v,rfl,v',t',F',G',e',hok,P',mo,R⟩
   cases e'
   exact⟨v,rfl,hok,⟨t',G',F',P',R 200 λ_=>hNb⟩,(by have:=P'.wa.rd1;rwa [za] at this),mo.k.AE λx _ e hr=>e.elim (λe=>e.2 hr) λe=>e⟩
 have hs:∀x,x=β 25->Z.rb x/\¬Z.rl x:=λx e=>e▸⟨hb.2.1,hb.2.2⟩;have hPr:=B6v T hb hin rfl hPr λv w2 w3 ⟨t',G',F',A,B⟩ k=>⟨t',G',F',A.out k hs,B.env (k.AE λx _ e h=>A.gr x (.inr (hs x e).1) (A.fg x h))⟩;rw [hm] at hPr;refine hPr.AE ?_;rintro e w' ⟨rfl,f',v,T',ev,hok,⟨t',G',F',P',S'⟩,k'⟩;refine⟨rfl,?_⟩;have ev0:(f' Z.me).1=v:=by
  have:=congrFun ev 0;rw [AF] at this;rw [hm];exact this
 have H:=B0l hal hb (most:=200) (by decide) P' T' (by rw [ev0];exact S') (by rw [ev0];exact hok) (P.ok.rr _ (.inl rfl));rw [hm] at H;refine H.AE ?_;rintro e w'' ⟨rfl,t2,G2,F2,P2,q2,k2⟩;rw [hQ] at q2;rw [hrb] at k2 k';exact⟨rfl,t2,G2,F2,P2,q2,k'.trans k2 λ_ _ h=>h⟩
set_option maxHeartbeats 4000000 in
theorem A8n{w:WD}(hz:F7 w)(TR:GV w):Calls prog 9 #[] w λe w'=>e=.returned (.bool true)/\AB AD w w':=by
 refine(vc9 w (λv w'=>v=.bool true/\AB AD w w') ?_).AE ?_
 rotate_left
 .rintro e w' ⟨v,rfl,rfl,h⟩;exact⟨rfl,h⟩
 unfold vcP9;intro w1 e1;have o1:=AG e1;have k1:=kal e1;have PNa:D3 w1 (some ⟨w.heap.size,0,none⟩) 1 (λ_=>0):=⟨λ_=>⟨rfl,o1.lt⟩,λi hi=>by
  have:i=0:=by omega
  subst this
  show rd w1 w.heap.size (0+0)=_
  rw [o1.rd];rfl⟩
 refine(A0s (hz.k k1) (ic:=1) PNa (by decide)).AE ?_;rintro _ w2 ⟨a,g,rfl,k2,H1⟩;refine⟨_,_,_,_,_,_,_,_,rfl,H1.AE ?_⟩;rintro _ w3 ⟨v,rfl,k3,B,β,S,fp,FR,rt,lf,pg,pin,ta,tl,tc,A,rfl,Bg,hx,hpl,hil,hia,hlo,rfl,O⟩;refine⟨some ⟨β 23,0,none⟩,true,true,rfl,λw4 e4=>?_⟩;have o4:=AG e4;have k4:=kal e4;have K02:=k1.tr k2;have K04:=(K02.tr k3).tr k4;have l4:=o4.lt;have PNb:D3 w4 (some ⟨w3.heap.size,0,none⟩) 2 (λi=>(i:Int)):=⟨λ_=>⟨rfl,o4.lt⟩,λi hi=>by
  show rd w4 w3.heap.size (0+i)=_
  rw [za,o4.rd]
  match i,hi with
  | 0,_=>rfl
  | 1,_=>rfl⟩
 refine(A0s (hz.k K04) (ic:=2) PNb (by decide)).AE ?_;rintro _ w5 ⟨a',g',rfl,k5,H2⟩;refine⟨_,_,_,_,_,_,_,_,rfl,H2.AE ?_⟩;rintro _ w6 ⟨v,rfl,k6,B2,β2,S2,fp2,FR2,rt2,lf2,pg2,pin2,ta2,tl2,tc2,A2,rfl,Bg2,hx2,hpl2,hil2,hia2,hlo2,rfl,O2⟩;refine⟨some ⟨β2 23,0,none⟩,true,true,rfl,AL rfl λw7 e7=>?_⟩;have o7:=AG e7;have k7:=kal e7;have k36:=(k4.tr k5).tr k6;have kk:AB AD w3 w7:=k36.tr k7;have s36:=k36.sz;have s5:=k5.sz;have s6:=k6.sz;have s67:=k7.sz;have s23:=k3.sz;have K27:=k3.tr kk;have T2:=TR.k K02;have htz:=T2.lt;have sw3:=Bg.L.G.kp.sz;refine(A61 Bg.w hx hpl kk sw3 (by omega) o7).AE ?_;rintro _ w8 ⟨rfl,H3⟩;refine⟨true,rfl,AA rfl (H3.AE ?_)⟩;rintro _ w9 ⟨rfl,t',G',F',P,qf,kp⟩;have hn:0<B.n:=by have h1:=Bg.L.G.X.C.BQ.2.1;rw [Bg.n];omega
 have hn2:0<B2.n:=by have h1:=Bg2.L.G.X.C.BQ.2.1;rw [Bg2.n];omega
 have hgot:∃f a cp,t'.hh 0=[f]/\t'.r.gt 0=.slice a 1 cp:=by
  rcases qf.2 with⟨h0,_,hmin,hno⟩|h
  .exfalso;obtain⟨fp',X'⟩:=P.X;have L':=P.inv.q;rw [show (ZB B β S rt lf pg pin ta tl tc [] w2.heap.size w3.heap.size w7.heap.size (λ_=>0) (roF w6.heap.size) 0 True (QF CG pin)).tot=2 from hpl] at L';refine B2n X'.C (P.inv.c.trans hx) L' (λe=>?_) ?_ qf.1 h0 hmin hno
   .obtain⟨f,hf⟩:=(Bg.pg1 1).2 ⟨1,by omega,rfl⟩;have:pg 1=.no:=(P.inv.no 1).1 e;rw [hf] at this
    cases this
   .show pin 1=false
    cases e:pin 1 with
    | false=>rfl
    | true=>
     obtain⟨_,i,_,hi⟩:=(Bg.pn 1).1 e
     cases hi
  .exact h
 obtain⟨f,a3,cp3,hhd,hg0⟩:=hgot;have g25:=Bg.w.lo _ (.inr (Bg.w.E5 (β 25) (by simp [CW])));have l25:=Bg.w.X.lt _ (Bg.w.E5 (β 25) (by simp [CW]));have fa:=λ{W3:WD} (k3':AB AD w9 W3)=>Bg.w.C1x kk P kp (T2.k K27) htz k3';refine⟨true,rfl,AJ (λ_=>rfl) ⟨_,_,_,(λ_=>P.wa.rdR (j:=0) rfl),AJ (λ_=>rfl) (AJ (λ_=>DZ (by decide) (by show(0:Int)<(B.n:Int);omega)) ⟨a3,1,cp3,(λ_=>by rw [<- hg0];exact(P.wa.rdG (i:=0) hn).1),AA rfl ((fa (AB.refl AD w9)).1.AE ?_)⟩)⟩⟩;rintro _ w10 ⟨rfl,k10⟩;refine⟨true,rfl,AA rfl (((fa k10).2 (O.pg.k K27) (λhl=>(O.pg.p hl).2) (O.pn.k K27) (λhl=>(O.pn.p hl).2) O.lp O.ln O.rg).AE ?_)⟩;rintro _ w11 ⟨rfl,k11⟩;refine⟨true,rfl,AA rfl λw12 e12=>?_⟩;have o12:=AG e12;have k12:=kal e12;have k911:=k10.tr k11;have hlo:∀x,(¬rbB β ta tl tc w2.heap.size w3.heap.size w7.heap.size x\/x=β 25)->w2.heap.size<=x/\¬(w3.heap.size<=x/\x<w7.heap.size):=λx h=>by
  rcases h with h|rfl
  .exact⟨Nat.le_of_not_lt λe=>h (.inl (.inl e)),λe=>h (.inl (.inr e))⟩
  .exact⟨g25,λe=>by omega⟩
 have kX:=kp.trans k911 λ_ _ e=>e.elim;have kX6:=k7.none.trans kX λ_ _ e=>e;have BgB:=Bg2.w.env kX6 λx hx hf=>by
  have h1:=Bg2.L.G.lo x hf;refine(hlo x hx).2 ⟨by omega,?_⟩;rcases hf with⟨p,hp⟩|hf
  .have:=(Bg2.L.G.X.C.lt p x hp).2;omega
  .have:=Bg2.L.G.X.lt x hf;omega
 have T12:GV w12:=((T2.k K27).kx kX λe=>by have:=(hlo _ e).1;omega).k k12;have sw6:=Bg2.L.G.kp.sz;have sx:=kX6.sz;refine(A61 BgB hx2 hpl2 k12 (by omega) (nlr _) o12).AE ?_;rintro _ w13 ⟨rfl,H4⟩;refine⟨true,rfl,AA rfl (H4.AE ?_)⟩;rintro _ w14 ⟨rfl,t2,G2,F2,P2,qf2,kp2⟩;have hnn:t2.r.nn 0=1:=by
  rcases qf2.2 with⟨_,h,_⟩|⟨f,_,_,h,_⟩
  .exact h
  .exfalso;obtain⟨fp',X'⟩:=P2.X;have L':=P2.inv.q;rw [show (ZB B2 β2 S2 rt2 lf2 pg2 pin2 ta2 tl2 tc2 [] w5.heap.size w11.heap.size w12.heap.size (λ_=>0) (roF w11.heap.size) 0 True (QF CG pin2)).tot=2 from hpl2] at L';exact B2m X'.C (P2.inv.c.trans hx2) L' h ((Bg2.pn 0).2 ⟨⟨0,by omega,rfl⟩,0,by omega,rfl⟩) ((Bg2.pn 1).2 ⟨⟨1,by omega,rfl⟩,1,by omega,rfl⟩)
 have K5:=K04.tr k5;have s34:=k4.sz;have hz5:w2.heap.size<=w5.heap.size:=by omega
 refine⟨true,rfl,AJ (λ_=>rfl) ⟨_,_,_,(λ_=>P2.wa.rdR (j:=1) rfl),AJ (λ_=>rfl) (AJ (λ_=>DZ (by decide) (by show(0:Int)<(B2.n:Int);omega)) ⟨1,(λ_=>by rw [<- hnn];exact(P2.wa.rdN (i:=0) hn2).1),AA rfl ((BgB.C1x k12 P2 kp2 T12 (by omega) (AB.refl AD w14)).1.AE ?_)⟩)⟩⟩;rintro _ w15 ⟨rfl,k15⟩;refine⟨true,rfl,rfl,?_⟩;have e1':AB AD w w11:=BO ((K02.tr K27)) kX λx hx=>by have:=(hlo x hx).1;have:=K02.sz;omega
 have g252:=BgB.lo _ (.inr (BgB.E5 (β2 25) (by simp [CW])));have e2':AB AD w w14:=BO (e1'.tr k12) kp2 λx hx=>by
  have h5:=K5.sz;rcases hx with hx|rfl
  .exact Nat.le_of_not_lt λe=>hx (.inl (.inl (by omega)))
  .omega
 exact e2'.tr k15
theorem vc3(x0:NI)(x94:OA)(x94L x94C:Nat)(x95:OA)(x95L x95C:Nat)(x96:NI)(wants:OA)(wantsL wantsC:Nat)(picks:OA)(picksL picksC:Nat)(w:WD)(K:KV)(h:Q (AW w (List.toArray (AQ .i64 x0 0 94++([sl x94 x94L x94C,sl x95 x95L x95C]++AQ .i64 x96 0 8))) 29 λw'=>∃(x:NI) (J:OA) (L M:Nat) (O:OA) (P Q:Nat) (R:NI),BB w' w.heap.size 0 (AQ .i64 x 0 94++([sl J L M,sl O P Q]++AQ .i64 R 0 8))/\CB 8 #[agg (List.toArray (AQ .i64 x 0 94++([sl J L M,sl O P Q]++AQ .i64 R 0 8)))] w' λb w'=>∃(x:Int),((!b||decide ((↑picksL:Int)>300))=false->rd w' w.heap.size 1=some (.int .i64 x))/\Wif (!b||decide ((↑picksL:Int)>300)||decide ((↑wantsL:Int)>x)) (CB 9 #[] w' λb w'=>K (.bool b) w') (∃(x:NI) (S:OA) (T B:Nat) (C:OA) (D E:Nat) (F:NI),BB w' w.heap.size 0 (AQ .i64 x 0 94++([sl S T B,sl C D E]++AQ .i64 F 0 8))/\Calls prog 10 #[agg (List.toArray (AQ .i64 x 0 94++([sl S T B,sl C D E]++AQ .i64 F 0 8)))] w' λe w'=>∃(p:OA) (b U:Bool),e=rT (.tuple #[pt p,bool b,bool U])/\Wif (!U) (K (.bool false) w') (Wif (!b) (CB 9 #[] w' λb w'=>K (.bool b) w') (AW w' (List.toArray (replicate 8 (vi 0))) 23 λG=>RI G w.heap.size 0 λx=>∃(I:Int->WD->Nat->Prop),(∃(n:Nat),I 0 G n)/\∀(n:Int) (u:WD) (V:Nat),I n u V->Wif (decide (n<x)) (∃(g:OA->Int->WD->Prop),(Dr u λc=>RI c w.heap.size 91 λx=>Wp p (Rp c p 0 λd=>Wp d (Rp c d 95 λr=>Calls prog 11 #[pt r,vi n] c λ(e:Ending) (f:WD)=>∃(o:Int),e=rT (vi o)/\(rd f w.heap.size 91=some (.int .i64 x)/\True)/\Wn n 8 (Sw f w'.heap.size (0+n.toNat*1) (vi (if o<x then o else x)) λa=>g p n a))))/\∀(p:OA) (o:Int) (w':WD),g p o w'->Lt V λm=>I (wrap .i64 (n+1)) w' m) (∃(I:Bool->Int->WD->Nat->Prop),(∃(n:Nat),I false 0 u n)/\∀(b:Bool) (n:Int) (f:WD) (o:Nat),I b n f o->Wif (decide (n<(↑wantsL:Int))) (Wp wants (Wn n wantsL (Rs f wants (n.toNat*1) λx d r=>gIf (isP wants) (decide ((↑d:Int)>8)=false) (gIf (inB n wantsL) (decide ((↑d:Int)>8)=false) (∃(x:OA) (k s:Nat),(decide ((↑d:Int)>8)=false->rd f (pb wants) (po wants+n.toNat*1)=some (.slice x k s))/\Wif (decide ((↑d:Int)>8)) (Wp wants (Wn n wantsL (Rs f wants (n.toNat*1) λx q Y=>Wif (decide ((↑q:Int)>8)) (CB 9 #[] f λb w'=>K (.bool b) w') (K (.bool false) f)))) (CB 12 #[pt p,vi n,sl x k s] f λA w'=>Wif (!A) (Wp wants (Wn n wantsL (Rs w' wants (n.toNat*1) λx q Y=>Wif (decide ((↑q:Int)>8)) (CB 9 #[] w' λb w'=>K (.bool b) w') (K (.bool false) w')))) (Lt o λm=>I b (wrap .i64 (n+1)) w' m))))))) (∃(I:Bool->Int->WD->Nat->Prop),(∃(n:Nat),I b 0 f n)/\∀(b:Bool) (n:Int) (a:WD) (H:Nat),I b n a H->Wif (decide (n<(↑picksL:Int))) (Wp picks (Wn n picksL (∃(x:Int) (d:Bool),(rd a (pb picks) (po picks+n.toNat*2)=some (.int .i64 x)/\rd a (pb picks) (po picks+n.toNat*2+1)=some (.bool d))/\AW a #[vi 0,bool false] 62 λy=>(wr y a.heap.size 0/\wr y a.heap.size 1)/\St (st y a.heap.size 0 (vi x)) a.heap.size 1 (bool d) λZ=>Dr Z λc=>Wp p (Rp c p 1 λx=>RI c a.heap.size 0 λr=>Calls prog 13 #[pt x,vi r] c λ(e:Ending) (z:WD)=>∃(A:Bool),e=rT (.bool A)/\Wif A (Dr z λc=>Wp p (Rp c p 1 λx=>RI c a.heap.size 0 λk=>RB c a.heap.size 1 λs=>Calls prog 14 #[pt x,vi k,bool s] c λ(e:Ending) (l:WD)=>∃(a0:Bool) (j:Int),e=rT (.tuple #[bool a0,vi j])/\RI l w.heap.size 0 λx=>∃(g:Bool->Int->WD->Nat->Prop),(∃(n:Nat),g b 0 l n)/\∀(b:Bool) (h:Int) (i:WD) (X:Nat),g b h i X->Wif (decide (h<x)) (Dr i λc=>Wp p (Rp c p 0 λx=>Wp x (Rp c x 95 λq=>Wn h 8 (RI c w'.heap.size (0+h.toNat*1) λx=>Calls prog 11 #[pt q,vi h] c λ(e:Ending) (t:WD)=>∃(n:Int),e=rT (vi n)/\(rd t w'.heap.size (0+h.toNat*1)=some (.int .i64 x)/\True)/\Wif (decide (n<x)) (K (.bool false) t) (Lt X λm=>g b (wrap .i64 (h+1)) t m))))) (Lt H λm=>I b (wrap .i64 (n+1)) i m))) (RI z w.heap.size 0 λx=>∃(g:Bool->Int->WD->Nat->Prop),(∃(n:Nat),g b 0 z n)/\∀(b:Bool) (j:Int) (l:WD) (h:Nat),g b j l h->Wif (decide (j<x)) (Dr l λc=>Wp p (Rp c p 0 λx=>Wp x (Rp c x 95 λk=>Wn j 8 (RI c w'.heap.size (0+j.toNat*1) λx=>Calls prog 11 #[pt k,vi j] c λ(e:Ending) (i:WD)=>∃(n:Int),e=rT (vi n)/\(rd i w'.heap.size (0+j.toNat*1)=some (.int .i64 x)/\True)/\Wif (decide (n<x)) (K (.bool false) i) (Lt h λm=>g b (wrap .i64 (j+1)) i m))))) (Lt H λm=>I b (wrap .i64 (n+1)) l m)))))) (CB 15 #[pt p] a λb w'=>Wif b (CB 9 #[] w' λb w'=>K (.bool b) w') (K (.bool false) w'))))))))):Ret 3 #[agg (List.toArray (AQ .i64 x0 0 94++sl x94 x94L x94C::sl x95 x95L x95C::AQ .i64 x96 0 8)),sl wants wantsL wantsC,sl picks picksL picksC] w K:=vcA L7 2 [4000012,101200071,101200110] func3 h
structure MT(n0:Nat)(W:WD)(wa:OA)(wl:Nat)(ra:Nat->OA)(rl rc:Nat->Nat)(ws:Nat->List (Int×Int)):Prop where
 p:0<wl->isP wa=true/\pb wa<n0
 el:∀i,i<wl->rd W (pb wa) (po wa+i)=some (.slice (ra i) (rl i) (rc i))/\IN W (ra i) (rl i) (rc i) (ws i)/\(0<rl i->pb (ra i)<n0)
theorem MT.kx{ra:Nat->OA}{rc:Nat->Nat}{ws:Nat->List (Int×Int)}(h:MT n0 W wa wl ra rl rc ws)(kk:AB X W W')(hX:∀x,X x->n0<=x):MT n0 W' wa wl ra rl rc ws:=
 ⟨h.p,λi hi=>by
  obtain⟨a,b,c⟩:=h.el i hi
  exact⟨kk.AV a λe=>by have:=hX _ e;have:=(h.p (by omega)).2;omega,b.kx kk λhl e=>by have:=hX _ e;have:=c hl;omega,c⟩⟩
theorem MT.le{n1:Nat}{ra:Nat->OA}{rc:Nat->Nat}{ws:Nat->List (Int×Int)}(h:MT n0 W wa wl ra rl rc ws)(hn:n0<=n1):MT n1 W wa wl ra rl rc ws:=
 ⟨λhl=>⟨(h.p hl).1,by have:=(h.p hl).2;omega⟩,λi hi=>⟨(h.el i hi).1,(h.el i hi).2.1,λhl=>by have:=(h.el i hi).2.2 hl;omega⟩⟩
structure B9v(n0:Nat)(W:WD)(ka:OA)(kl:Nat):Prop where
 p:0<kl->isP ka=true/\pb ka<n0
 el:∀i,i<kl->∃(x:Int) (d:Bool),rd W (pb ka) (po ka+i*2)=some (vi x)/\rd W (pb ka) (po ka+i*2+1)=some (.bool d)
theorem B9v.kx(h:B9v n0 W ka kl)(kk:AB X W W')(hX:∀x,X x->n0<=x):B9v n0 W' ka kl:=
 ⟨h.p,λi hi=>by
  obtain⟨x,d,a,b⟩:=h.el i hi;have hn:¬X (pb ka):=λe=>by have:=hX _ e;have:=(h.p (by omega)).2;omega
  exact⟨x,d,kk.AV a hn,kk.AV b hn⟩⟩
def QT:SqT->(NP)->WD->Prop:=λ_ _ _=>True
theorem EY.all{FR:NP}{rt:Nat}{A:List Nat}(h:EY n0 pf nf B β S fp FR rt lf pg pin ta tl tc A W)(kk:AB AD W W1)(hn:n0<=W.heap.size){ro:WD->Prop}(hls:∀n,(ls n:Int)<=B.x0 91)(hlf:∀n,n<S.AK->ls n<=BD (S.L n))(hro:ro W1)
 (hst:∀w w' X,ro w->AB X w w'->(∀x,X x->¬(x<n0\/(W.heap.size<=x/\x<W1.heap.size)))->ro w') :
 All (ZB B β S rt lf pg pin ta tl tc A n0 W.heap.size W1.heap.size ls ro 0 False QT) 300 (λ_=>.nilFunc) (tB S pg) (λ_=>False) W1/\TabAt W1 (β 5) (β 25) B.n (λ_=>(.nilFunc,0))/\A5r (ZB B β S rt lf pg pin ta tl tc A n0 W.heap.size W1.heap.size ls ro 0 False QT) (β 25):=by
 have hs:=h.X.C.BQ;have H:=λi (hi:i<S.AS)=>h.pt kk hn (me:=i) (al:=False) (Q:=QT) hi hls hlf hro hst;obtain⟨_,T,hb⟩:=H 0 (by omega);refine⟨⟨id,λ_=>tB S pg,λ_ _=>False,λi hi=>?_,λ_ _ _ _ _ e=>e.elim⟩,T,hb⟩;have hi:i<S.AS:=by have h1:=h.n;have hi:i<B.n:=hi;omega
 exact⟨(H i hi).1,.inl ⟨rfl,λ_ _ _ _=>trivial⟩,E7.refl _ _,rfl⟩
theorem A3o{Z:Cn}{G F:NP}(P:Pt Z t G F W){cb lb:Nat}{p:OA}(hp:p=some ⟨Z.V.b,0,none⟩)(hcb:rd W cb 0=some (vi (t.S.AK:Nat)))(hlb:∀h,h<t.S.AK->rd W lb h=some (vi (Z.ls h:Nat))){E:WD->Prop}{C:Bool->WD->Prop}(hC:∀b i,AB AD W i->C b i)(b:Bool) :
 RI W cb 0 λx=>∃(g:Bool->Int->WD->Nat->Prop),(∃(n:Nat),g b 0 W n)/\∀(b:Bool) (h:Int) (i:WD) (X:Nat),g b h i X->Wif (decide (h<x)) (Dr i λc=>Wp p (RP c (pb p) (po p) λx=>Wp x (RP c (pb x) (po x+95) λq=>Wn h 8 (RI c lb (0+h.toNat*1) λx=>Calls prog 11 #[.pointer q,vi h] c λ(e:Ending) (t:WD)=>∃(n:Int),e=.returned (vi n)/\(rd t lb (0+h.toNat*1)=some (.int .i64 x)/\True)/\Wif (decide (n<x)) (E t) (Lt X λm=>g b (wrap .i64 (h+1)) t m))))) (C b i):=by
 subst hp;obtain⟨fp,X0⟩:=P.X;have hn8:=X0.C.BQ.1;refine⟨_,hcb,λ_ h i X=>∃q:Nat,h=q/\q<=t.S.AK/\X=t.S.AK-q/\AB AD W i,⟨t.S.AK,0,rfl,Nat.zero_le _,rfl,AB.refl _ _⟩,?_⟩;rintro b _ i _ ⟨q,rfl,hq,rfl,kk⟩;refine AH (λhlt=>?_) λ_=>hC b i kk;have hqn:q<t.S.AK:=by simpa using hlt
 intro c ec;have kc:AB AD W c:=kk.dr ec;have Cc:=X0.C.k kc;have e0:0+Int.toNat (q:Int)*1=q:=by simp
 rw [e0];have hl:rd c lb q=some (vi (Z.ls q:Nat)):=kc.AV (hlb q hqn) id;refine AA rfl ⟨some ⟨Z.k,0,none⟩,?_,AA rfl ⟨_,Cc.rtW kr (j:=1) rfl,Wi ⟨_,hl,(KU Cc hqn).AE ?_⟩⟩⟩
 .have:=(P.wa.k kc).rd0;rw [P.ok.k] at this;exact this
 rintro _ w6 ⟨rfl,hw6⟩;rw [hw6];refine⟨_,rfl,⟨hl,trivial⟩,AL (by have:=P.inv.ls q hqn;simp;omega) ⟨t.S.AK-(q+1),by omega,q+1,wzz,hqn,rfl,kc⟩⟩
def lsF(f:Nat->Nat)(q i:Nat):Int:=if i<q then f i else 0
theorem B8q{f:Nat->Nat}{q:Nat}(hq:q<8):(AQ .i64 (lsF f q) 0 8).set q (vi (f q:Nat))=AQ .i64 (lsF f (q+1)) 0 8:=by
 rw [FF hq];refine DX (by rw [AM]) λj hj=>?_;rw [AZ _ _ _ _ _ hj,za];by_cases e:j=q
 .subst e;rw [AF];unfold lsF;rw [if_pos (by omega)]
 .rw [AI _ _ e];unfold lsF;by_cases h:j<q
  .rw [if_pos h,if_pos (by omega)]
  .rw [if_neg h,if_neg (by omega)]
set_option maxHeartbeats 8000000 in
theorem A0b{w:WD}(hz:F7 w)(TR:GV w){x0:NI}{pa:OA}{pl pc:Nat}{x96:NI}(PG:D3 w pa pl pf)(PN:D3 w ia il nf){wc:Nat}{ra:Nat->OA}{rc:Nat->Nat}{ws:Nat->List (Int×Int)}(WA:MT w.heap.size w wa wl ra rl rc ws){kc:Nat}(PK:B9v w.heap.size w ka kl) :
 Calls prog 3 #[.agg (AQ .i64 x0 0 94++([slice pa pl pc,slice ia il ic]++AQ .i64 x96 0 8)).toArray,.slice wa wl wc,.slice ka kl kc] w λe w'=>e=.returned (.bool true)/\AB AD w w':=by
 refine(vc3 x0 pa pl pc ia il ic x96 wa wl wc ka kl kc w (λv w'=>v=.bool true/\AB AD w w') ?_).AE ?_
 rotate_left
 .rintro e w' ⟨v,rfl,rfl,h⟩;exact⟨rfl,h⟩
 apply qI;intro w1 e1;have o1:=AG e1;have k1:=kal e1;have l1:=o1.lt;have rall:∀{W:WD},AB AD w1 W->BB W w.heap.size 0 (AQ .i64 x0 0 94++([slice pa pl pc,slice ia il ic]++AQ .i64 x96 0 8)):=λkk=>(o1.k kk).BB 0 λj hj=>by rw [za]
 have known:=λ{W:WD} (kk:AB AD w W)=>A8n (hz.k kk) (TR.k kk);refine⟨x0,pa,pl,pc,ia,il,ic,x96,rall kr,(A71 (PG.k k1) (PN.k k1)).AE ?_⟩;rintro _ w2 ⟨b,rfl,k2,hO⟩;have k12:=k1.tr k2;refine⟨b,rfl,x0 1,(λ_=>by rw [(o1.k k2).rd];rfl),AH (λhb=>(known k12).AE ?_) (λhb=>?_)⟩
 .rintro _ w3 ⟨rfl,k3⟩;exact⟨true,rfl,rfl,k12.tr k3⟩
 have hb:(b=true/\(kl:Int)<=300)/\(wl:Int)<=x0 1:=by simpa using hb
 have O:=hO hb.1.1;have hz2:=hz.k k12;refine⟨x0,pa,pl,pc,ia,il,ic,x96,rall k2,(A00 hz2 (J3 (hz2 0 (by decide))) O).AE ?_⟩;rintro _ w3 ⟨v,rfl,k3,⟨_,p,rfl⟩|⟨k,β,S,fp,FR,rt,lf,pg,pin,ta,tl,tc,A,rfl,Bg⟩⟩
 .have k13:=k12.tr k3;refine⟨p,false,true,rfl,AL rfl (AA rfl ((known k13).AE ?_))⟩;rintro _ w6 ⟨rfl,k6⟩;exact⟨true,rfl,rfl,k13.tr k6⟩
 have k13:=k12.tr k3;have C3:=Bg.L.G.X.C;have hs:=C3.BQ;have hc0:S.c=x0:=Bg.c;have hnod:x0 0=(S.AK:Nat):=by rw [<- hc0];exact hs.1.2.2.symm
 have hcpu:x0 1=(S.AS:Nat):=by rw [<- hc0];exact hs.2.1.2.2.symm
 have h91:0<=x0 91:=O.my.2.2.2.2.2.2.2.1;have rcb:∀{W:WD},AB AD w1 W->rd W w.heap.size 0=some (vi (S.AK:Nat)):=λkk=>by rw [(o1.k kk).rd,<- hnod];rfl
 have rc91:∀{W:WD},AB AD w1 W->rd W w.heap.size 91=some (vi (x0 91)):=λkk=>by
  rw [(o1.k kk).rd]
  show (AQ .i64 x0 0 94++([slice pa pl pc,slice ia il ic]++AQ .i64 x96 0 8))[91]? = _
  rw [gal (by rw [AM];omega),AZ _ _ _ _ _ (by omega),za]
 refine⟨some ⟨β 23,0,none⟩,true,true,rfl,AL rfl (AL rfl λw4 e4=>?_)⟩;have o4:AX w4 w3.heap.size (replicate 8 (vi 0)):=AG e4;have k4:=kal e4;have K13:=k2.tr k3;have l23:=k3.sz;have rb3:rd w3 (β 23) 0=some (AP k):=by rw [Bg.L.R.so.rd];rfl
 refine⟨_,rcb (K13.tr k4),λn u V=>∃q:Nat,n=q/\q<=S.AK/\V=S.AK-q/\AB AD w3 u/\AX u w3.heap.size (AQ .i64 (lsF (λn=>min (x0 91).toNat (BD (S.L n))) q) 0 8),⟨S.AK,0,rfl,Nat.zero_le _,rfl,k4,J1▸o4⟩,?_⟩;rintro _ u _ ⟨q,rfl,hq,rfl,ku,ou⟩;refine AH (λhlt=>?_) (λhge=>?_)
 .have hqn:q<S.AK:=by simpa using hlt
  refine⟨λp n a=>AB AD w3 a/\AX a w3.heap.size (AQ .i64 (lsF (λn=>min (x0 91).toNat (BD (S.L n))) (q+1)) 0 8),λw5 e5=>?_,?_⟩
  .have k5:AB AD w3 w5:=ku.dr e5;have o5:=ou.dr e5;have C5:=C3.k k5;refine⟨_,rc91 (K13.tr k5),AA rfl ⟨some ⟨k,0,none⟩,k5.AV rb3 id,AA rfl ⟨_,C5.rtW kr (j:=1) rfl,(KU C5 hqn).AE ?_⟩⟩⟩;rintro _ w6 ⟨rfl,hw6⟩;rw [hw6];have e0:0+Int.toNat (q:Int)*1=q:=by simp
   rw [e0];refine⟨_,rfl,⟨rc91 (K13.tr k5),trivial⟩,Wi ⟨o5.wr (by rw [AM];omega),λw7 e7=>?_⟩⟩;have ev:vi (if ((BD (S.L q):Nat):Int)<x0 91 then ((BD (S.L q):Nat):Int) else x0 91)=vi ((min (x0 91).toNat (BD (S.L q)):Nat):Int):=by
    congr 1;split <;> omega
   rw [ev] at e7;have o7:=o5.s1 e7;rw [B8q (f:=λn=>min (x0 91).toNat (BD (S.L n))) (by omega)] at o7;exact⟨BO k5 (kr.s1 e7 (.inl rfl):AB (·=w3.heap.size) w5 w7) λx e=>by omega,o7⟩
  .rintro p n a ⟨ka,oa⟩;exact⟨S.AK-(q+1),by omega,q+1,wzz,hqn,rfl,ka,oa⟩
 obtain rfl:q=S.AK:=by simp at hge;omega
 have W2:MT w2.heap.size w2 wa wl ra rl rc ws:=(WA.kx k12 λ_ e=>e.elim).le k12.sz;have P2:B9v w.heap.size w2 ka kl:=PK.kx k12 λ_ e=>e.elim;have l02:=k12.sz;have Wu:MT w2.heap.size u wa wl ra rl rc ws:=W2.kx (k3.tr ku) λ_ e=>e.elim;obtain⟨HA,T,hb'⟩:=Bg.w.all (W1:=u) ku l23 (ls:=λn=>min (x0 91).toNat (BD (S.L n))) (ro:=λW=>MT w2.heap.size W wa wl ra rl rc ws) (λn=>by show _<=x0 91;omega) (λn _=>Nat.min_le_right _ _) Wu
  λw w' X h k hX=>h.kx k λx e=>Nat.le_of_not_lt λh2=>hX x e (.inl h2)
 have C1x:=λ{W2 W3:WD}{t':SqT}{G' F':NP}=>Bg.w.C1x (ls:=λn=>min (x0 91).toNat (BD (S.L n))) (ro:=λW=>MT w2.heap.size W wa wl ra rl rc ws) (me:=0) (al:=False) (Q:=QT) (t':=t') (G':=G') (F':=F') (W2:=W2) (W3:=W3) ku;have g25:=Bg.w.lo _ (.inr (Bg.w.E5 (β 25) (by simp [CW])));have l25:=Bg.w.X.lt _ (Bg.w.E5 (β 25) (by simp [CW]));have lu:=ou.lt;generalize hZ:ZB ⟨k,w2.heap.size,S.AS,x0,pa,pl,pc,ia,il,ic,x96⟩ β S rt lf pg pin ta tl tc A w2.heap.size w3.heap.size u.heap.size (λn=>min (x0 91).toNat (BD (S.L n))) (λW=>MT w2.heap.size W wa wl ra rl rc ws) 0 False QT=Z at HA hb';have hV:Z.V=wvB ⟨k,w2.heap.size,S.AS,x0,pa,pl,pc,ia,il,ic,x96⟩ β rt lf ta tl tc:=by rw [<- hZ]
 have hVb:Z.V.b=β 23:=by rw [hV];rfl
 have hVt:Z.V.t=β 5:=by rw [hV];rfl
 have hVn:Z.V.n=S.AS:=by rw [hV];rfl
 have hrb:Z.rb=rbB β ta tl tc w2.heap.size w3.heap.size u.heap.size:=by rw [<- hZ]
 have hr:Z.ro=λW=>MT w2.heap.size W wa wl ra rl rc ws:=by rw [<- hZ]
 have hQ:∀t F w,Z.Q t F w:=λt F w=>by rw [<- hZ];trivial
 have hls:Z.ls=λn=>min (x0 91).toNat (BD (S.L n)):=by rw [<- hZ]
 have hcc:Z.c=x0:=by rw [<- hZ]
 have hT:TabAt u Z.V.t (β 25) Z.V.n (λ_=>(.nilFunc,0)):=by rw [hVt,hVn];exact T
 have hX:∀x,(¬Z.rb x\/x=β 25)->w2.heap.size<=x/\¬(w3.heap.size<=x/\x<u.heap.size):=λx h=>by
  rw [hrb] at h;rcases h with h|rfl
  .exact⟨Nat.le_of_not_lt λe=>h (.inl (.inl e)),λe=>h (.inl (.inr e))⟩
  .exact⟨g25,λe=>by omega⟩
 have k0u:=k13.tr ku;have hK:∀{W:WD},AB (λx=>¬Z.rb x\/x=β 25) u W->AB AD w W:=λkk=>BO k0u kk λx hx=>by have:=(hX x hx).1;omega
 have rcb2:∀{W:WD},AB (λx=>¬Z.rb x\/x=β 25) u W->rd W w.heap.size 0=some (vi (S.AK:Nat)):=λkk=>kk.AV (rcb (K13.tr ku)) λe=>by have:=(hX _ e).1;have:=k2.sz;omega
 have rls:∀{W:WD},AB (λx=>¬Z.rb x\/x=β 25) u W->∀h,h<S.AK->rd W w3.heap.size h=some (vi (Z.ls h:Nat)):=λkk h hh=>kk.AV (by
  rw [ou.rd,AZ _ _ _ _ _ (by omega),za,hls];unfold lsF;rw [if_pos hh]) λe=>(hX _ e).2 ⟨nlr _,lu⟩
 have hn0:0<Z.V.n:=by rw [hVn];omega
 have hnd:∀{t:SqT}{G F:NP}{W:WD},Pt (Z.at 0) t G F W->t.S.AK=S.AK:=λP=>by
  have h1:=P.inv.c;have h1:_=Z.c:=h1;rw [hcc] at h1;have h2:=P.X.elim λ_ X=>X.C.BQ.1.2.2;rw [h1] at h2;omega
 refine⟨λ_ n f o=>∃(q:Nat) (f':Nat->Value×Int) (t:SqT) (G:NP),n=q/\q<=wl/\o=wl-q/\TabAt f Z.V.t (β 25) Z.V.n f'/\All Z 300 (λi=>(f' i).1) t G f/\(∀j,q<=j->(f' j).1=.nilFunc/\t.tk j=Tk.no/\t.hh j=[]/\t.r.gt j=.slice none 0 0)/\AB (λx=>¬Z.rb x\/x=β 25) u f,
  ⟨wl,0,_,_,_,rfl,Nat.zero_le _,rfl,hT,HA,λ_ _=>⟨rfl,rfl,rfl,rfl⟩,AB.refl _ _⟩,?_⟩
 rintro b _ f _ ⟨q,f',t,G,rfl,hq,rfl,T1,A1,h0,kk⟩;refine AH (λhlt=>?_) (λhge=>?_)
 .have hqw:q<wl:=by simpa using hlt
  have Wf:MT w2.heap.size f wa wl ra rl rc ws:=Wu.kx kk λx e=>(hX x e).1;obtain⟨r0,RQ,_⟩:=Wf.el q hqw;have hp:=(Wf.p (by omega)).1;have e0:po wa+Int.toNat (q:Int)*1=po wa+q:=by simp
  rw [<- e0] at r0;have hin:inB (q:Int) wl=true:=DZ;refine AA hp (AA hin ⟨_,_,_,r0,AJ (λ_=>hp) (AJ (λ_=>hin) ⟨_,_,_,(λ_=>r0),AH (λh8=>?_) (λh8=>?_)⟩)⟩)
  .refine AA hp (AA hin ⟨_,_,_,r0,AA h8 ((known (hK kk)).AE ?_)⟩);rintro _ w5 ⟨rfl,k5⟩;exact⟨true,rfl,rfl,(hK kk).tr k5⟩
  .obtain⟨a1,a2,a3,a4⟩:=h0 q (nlr _);have hst:=C0j A1 T1 hb' (i:=q) (by rw [hVn];omega) a1 a2 a4 a3 hQ (ws:=ws q) (a:=ra q) (l:=rl q) (c:=rc q) λW hW=>by
    rw [hr] at hW;exact(hW.el q hqw).2.1
   rw [hVb] at hst;refine hst.AE ?_;rintro _ w5 ⟨rfl,f2,t2,G2,T2,A2,k2',o2⟩;refine⟨true,rfl,AL rfl ⟨wl-(q+1),by omega,q+1,f2,t2,G2,wzz,hqw,rfl,T2,A2,λj hj=>?_,kk.trans k2' λ_ _ e=>e⟩⟩;obtain⟨b1,b2,b3,b4⟩:=o2 j (by omega);rw [b1,b2,b3,b4];exact h0 j (by omega)
 clear hge;refine⟨λ_ n a H=>∃(q:Nat) (f':Nat->Value×Int) (t:SqT) (G:NP),n=q/\q<=kl/\H=kl-q/\TabAt a Z.V.t (β 25) Z.V.n f'/\All Z (300-q) (λi=>(f' i).1) t G a/\AB (λx=>¬Z.rb x\/x=β 25) u a,
  ⟨kl,0,f',t,G,rfl,Nat.zero_le _,rfl,T1,A1,kk⟩,?_⟩
 clear T1 A1 h0 kk;rintro b _ a _ ⟨q,f2,t2,G2,rfl,hq,rfl,T2,A2,k2⟩;refine AH (λhlt=>?_) (λhge=>?_)
 .have hqk:q<kl:=by simpa using hlt
  have Pa:B9v w.heap.size a ka kl:=P2.kx (BO (k3.tr ku) k2 λx e=>(hX x e).1) λ_ e=>e.elim;obtain⟨x,d,r1,r2⟩:=Pa.el q hqk;have hp:=(Pa.p (by omega)).1;rw [tnc];refine AA hp (Wi ⟨x,d,⟨r1,r2⟩,λy ey=>?_⟩);have oy:=AG ey;have ky:=kal ey;refine⟨⟨oy.wr (by simp),oy.wr (by simp)⟩,λz ez=>?_⟩;have oz:AX z a.heap.size [vi x,.bool d]:=(oy.s1 rfl).s1 ez;have kz:AB AD a z:=BO ky (((AB.refl (·=a.heap.size) y).s1 rfl (.inl rfl)).s1 ez (.inl rfl)) λx e=>by omega
  intro c ec;have kc:AB AD a c:=kz.dr ec;have oc:=oz.dr ec;have Ac:=A2.k kc;have Tc:=T2.kx kc id id;obtain⟨Fc,Pc⟩:=Ac.pt hn0;have rt1:rd c (β 23) (0+1)=some (AP Z.V.t):=by rw [<- hVb];exact Pc.wa.rd1
  have kuc:AB (λx=>¬Z.rb x\/x=β 25) u c:=k2.trans kc λ_ _ e=>e.elim;refine AA rfl ⟨some ⟨Z.V.t,0,none⟩,rt1,x,(by rw [oc.rd];rfl),(B6f Tc (λi hi=>Ac.ok hi) x).AE ?_⟩;rintro _ w5 ⟨bz,rfl,hw5,hi⟩;rw [hw5];refine⟨bz,rfl,AH (λhbz=>?_) (λhbz=>?_)⟩
  .obtain⟨i,rfl,hin,hf⟩:=hi hbz;intro c2 ec2;have k2c:=kdr ec2;have A3:=Ac.k k2c;have T3:=Tc.kx k2c id id;have oc2:=oc.dr ec2;rw [show 300-q=(300-(q+1))+1 by omega] at A3;refine AA rfl ⟨some ⟨Z.V.t,0,none⟩,k2c.AV rt1 id,_,(by rw [oc2.rd];rfl),d,(by rw [oc2.rd];rfl),(run1 A3 T3 hb' hin hf d).AE ?_⟩;rintro _ l ⟨b',f3,t3,G3,rfl,T4,A4,k4'⟩;have kul:AB (λx=>¬Z.rb x\/x=β 25) u l:=(kuc.trans k2c λ_ _ e=>e.elim).trans k4' λ_ _ e=>e;obtain⟨Fl,Pl⟩:=A4.pt hn0;refine⟨b',0,rfl,A3o Pl (by rw [<- hVb]) (by rw [hnd Pl];exact rcb2 kul) (by rw [hnd Pl];exact rls kul) (λb i ki=>⟨kl-(q+1),by omega,q+1,f3,t3,G3,wzz,hqk,rfl,T4.kx ki id id,A4.k ki,kul.trans ki λ_ _ e=>e.elim⟩) b⟩
  .refine A3o Pc (by rw [<- hVb]) (by rw [hnd Pc];exact rcb2 kuc) (by rw [hnd Pc];exact rls kuc) (λb i ki=>?_) b;refine⟨kl-(q+1),by omega,q+1,f2,t2,G2,wzz,hqk,rfl,Tc.kx ki id id,?_,kuc.trans ki λ_ _ e=>e.elim⟩;have Ai:=Ac.k ki;rw [show 300-q=(300-(q+1))+1 by omega] at Ai;obtain⟨al,ts,Fs,H,dj⟩:=Ai;exact⟨al,ts,Fs,λi hi=>⟨(H i hi).1,Safe.le (Z:=Z.at i) al (H i hi).2.1,(H i hi).2.2⟩,dj⟩
 .obtain⟨Fa,Pa⟩:=A2.pt hn0;have kw:=hK k2;rw [<- hZ] at Pa;rw [hrb] at k2;have hf:=C1x (W3:=a) Pa k2 (TR.k k0u) (by have:=TR.lt;omega) kr;refine hf.1.AE ?_;rintro _ w5 ⟨rfl,k5⟩;refine⟨true,rfl,AA rfl ((known (kw.tr k5)).AE ?_)⟩;rintro _ w6 ⟨rfl,k6⟩;exact⟨true,rfl,rfl,(kw.tr k5).tr k6⟩
end Go.Proofs.YtdgbechegbmpcaaGreatDoor
namespace Go.Proofs.YtdgbechegbmpcaaGreatDoor
open Go Go.ChangeShapes Go.WideShapes Go.ChangeAt Go.RowKit Go.Eng
variable {W:WD}{base fuel:Nat}{cs vs:List Value}
section
variable {H:Type}{enc:TypeId×Value->H}
theorem B3e:Tryz.prog.cellsOf 29=104:=by kernel_rfl
theorem A30:Tryz.prog.cellsOf 26=94:=by kernel_rfl
theorem B3f:Tryz.prog.cellsOf 27=1:=by kernel_rfl
theorem A31:Tryz.prog.cellsOf 23=8:=by kernel_rfl
theorem A27{x:DataW H×List MemPlace}(h:DataW.trod enc Tryz.prog W 0 (λ_=>true) true fuel 27 vs=some x) :
 ∃a l c f,vs=[.slice a l c]/\D3 W a l f:=by
 obtain⟨a,l,c,e,_,_,hp,_,hx⟩:=NN Tryz.underlying27 h (by rw [E2];decide);have each:∀q,q<l->∃n:Int,rd W (pb a) (po a+q)=some (.int .i64 n):=λq hq=>by
  obtain⟨cs,n,x,hlen,hcell,htr⟩:=hx q hq;rw [E2] at hcell hlen;obtain⟨n,rfl,_,_⟩:=DataW.trod_int Tryz.underlying3 htr;have:=hcell 0 (by omega);rw [mo,Nat.add_zero] at this;exact⟨n,this⟩
 obtain⟨f,hf⟩:∃f:NI,∀q,q<l->rd W (pb a) (po a+q)=some (.int .i64 (f q)):=
  ⟨λq=>if h:q<l then(each q h).choose else 0,λq hq=>by simp only [hq,dif_pos];exact(each q hq).choose_spec⟩
 exact⟨a,l,c,f,e,λhl=>⟨hp hl,J3 (hf 0 hl)⟩,hf⟩
theorem C0k{A B C D:List Value}{a b c d:Nat}(hl:cs.length=a+b+c+d)(h0:(cs.drop 0).take a=A)(h1:(cs.drop a).take b=B)(h2:(cs.drop (a+b)).take c=C)(h3:(cs.drop (a+b+c)).take d=D):cs=A++(B++C++D):=by
 subst h0 h1 h2 h3;have e3:(cs.drop (a+b+c)).take d=cs.drop (a+b+c):=List.take_of_length_le (by rw [List.length_drop];omega);rw [e3,List.drop_zero,List.append_assoc];have t:∀n m:Nat,(cs.drop n).take m++cs.drop (n+m)=cs.drop n:=λn m=>by
  rw [<- List.drop_drop];exact List.take_append_drop m (cs.drop n)
 rw [t (a+b) c,t a b,List.take_append_drop]
theorem B08{v:Value}{d:DataW H}{p:List MemPlace}(hv:Value.okWide Tryz.prog W .any base 29 v)(h:DataW.Trod enc Tryz.prog W 0 (λ_=>true) true 29 v d p) :
 ∃(x0:NI) (pa:OA) (pl pc:Nat) (ia:OA) (il ic:Nat) (x96 pf nf:NI),v=.agg (AQ .i64 x0 0 94++([Value.slice pa pl pc,Value.slice ia il ic]++AQ .i64 x96 0 8)).toArray/\D3 W pa pl pf/\D3 W ia il nf:=by
 obtain⟨cs,rfl,hsz⟩:=okWide_struct Tryz.underlying29 hv;obtain⟨fuel,hf⟩:=h;obtain⟨xs,m,_,_,hl,hxl,hx⟩:=DataW.trod_struct Tryz.underlying29 hf;have hcs:(Value.agg cs).cells=cs:=rfl;rw [hcs,B3e] at hl;rw [hcs] at hx;have hxl':xs.length=4:=hxl;have g0:=hx 0 _ rfl;have g1:=hx 1 _ rfl;have g2:=hx 2 _ rfl;have g3:=hx 3 _ rfl;rw [geg (by omega)] at g0 g1 g2 g3;have g0:DataW.trod enc Tryz.prog W 0 (λ_=>true) true m 26 ((cs.toList.drop 0).take (Tryz.prog.cellsOf 26))=_:=g0;have g1:DataW.trod enc Tryz.prog W 0 (λ_=>true) true m 27 ((cs.toList.drop 94).take (Tryz.prog.cellsOf 27))=_:=g1;have g2:DataW.trod enc Tryz.prog W 0 (λ_=>true) true m 27 ((cs.toList.drop 95).take (Tryz.prog.cellsOf 27))=_:=g2;have g3:DataW.trod enc Tryz.prog W 0 (λ_=>true) true m 23 ((cs.toList.drop 96).take (Tryz.prog.cellsOf 23))=_:=g3;rw [A30] at g0;rw [B3f] at g1 g2;rw [A31] at g3;obtain⟨i0,l0⟩:=tr31 W _ _ _ g0;obtain⟨i3,l3⟩:=C35 W _ _ _ g3;rw [A30] at l0;rw [A31] at l3;obtain⟨a1,k1,c1,f1,e1,n1⟩:=A27 g1;obtain⟨a2,k2,c2,f2,e2,n2⟩:=A27 g2;have fn:∀{l:List Value}{n:Nat},Ints l->l.length=n->∃f:NI,l=AQ .i64 f 0 n:=λ{l n} hi hn=>by
  refine⟨λj=>if h:j<l.length then(hi j h).choose else 0,DX hn λj hj=>?_⟩;have hj:j<l.length:=by omega
  simp only [hj,dif_pos];exact(hi j hj).choose_spec.1
 obtain⟨x0,h0⟩:=fn i0 l0;obtain⟨x96,h3⟩:=fn i3 l3;refine⟨x0,a1,k1,c1,a2,k2,c2,x96,f1,f2,?_,n1,n2⟩;have e:cs.toList=AQ .i64 x0 0 94++([Value.slice a1 k1 c1,Value.slice a2 k2 c2]++AQ .i64 x96 0 8):=C0k (a:=94) (b:=1) (c:=1) (d:=8) hl h0 e1 e2 h3
 show Value.agg cs=_
 rw [<- e]
end
def A01:Value:=.agg (Array.replicate 94 (.int .i64 0)++#[.slice none 0 0,.slice none 0 0]++Array.replicate 8 (.int .i64 0))
def A9q{H:Type}:DataW H:=.agg [B3y,.nil,.nil,.agg (List.replicate 8 zi)]
section
variable {H:Type}{enc:TypeId×Value->H}{W:WD}
theorem B9f:Tryz.prog.cellsOf 4=1:=by kernel_rfl
theorem A7d:Tryz.prog.cellsOf 59=1:=by kernel_rfl
theorem A7c:Tryz.prog.cellsOf 62=2:=by kernel_rfl
theorem A7b:Tryz.prog.cellsOf 78=2:=by kernel_rfl
theorem tk1{k t o:Nat}{y:Option (DataW H×List MemPlace)}(hc:Tryz.prog.cellsOf t=1)(h:DataW.trod enc Tryz.prog W 0 (λ_=>true) true k t ((cs.drop o).take (Tryz.prog.cellsOf t))=y):DataW.trod enc Tryz.prog W 0 (λ_=>true) true k t ((cs.drop o).take 1)=y:=hc▸h
theorem B07{x:DataW H×List MemPlace}(h:DataW.trod enc Tryz.prog W 0 (λ_=>true) true fuel 59 vs=some x) :
 ∃a l c ws,vs=[.slice a l c]/\IN W a l c ws/\(0<l->pb a<W.heap.size):=by
 obtain⟨a,l,c,e,hl,hm,hp,_,hx⟩:=NN Tryz.underlying59 h (by rw [A7b];decide);have each:∀q,q<l->∃x:Int×Int,rd W (pb a) (po a+2*q)=some (vi x.1)/\rd W (pb a) (po a+2*q+1)=some (vi x.2):=λq hq=>by
  obtain⟨cs,n,x,hlen,hcell,htr⟩:=hx q hq;obtain⟨xs,k,_,_,_,hxl,hfs⟩:=DataW.trod_struct Tryz.underlying78 htr;rw [A7b] at hcell hlen
  match xs,hxl,cs,hlen with
  | [y0,y1],_,[v0,v1],_=>
   have g0:=tk1 E2 (hfs 0 _ rfl);have g1:=tk1 E2 (hfs 1 _ rfl);obtain⟨n0,e0,_⟩:=DataW.trod_int Tryz.underlying3 g0;obtain⟨n1,e1,_⟩:=DataW.trod_int Tryz.underlying3 g1;simp at e0 e1;subst e0 e1;have h0:=hcell 0 (by omega);have h1:=hcell 1 (by omega);rw [Nat.mul_comm q 2] at h0 h1;exact⟨(n0,n1),h0,h1⟩
 obtain⟨f,hf⟩:∃f:Nat->Int×Int,∀q,q<l->rd W (pb a) (po a+2*q)=some (vi (f q).1)/\rd W (pb a) (po a+2*q+1)=some (vi (f q).2):=
  ⟨λq=>if h:q<l then(each q h).choose else(0,0),λq hq=>by simp only [hq,dif_pos];exact(each q hq).choose_spec⟩
 refine⟨a,l,c,(List.range l).map f,e,⟨by simp,hl,hm,λh0=>⟨_,_,GB (hp h0),λi y hy=>?_⟩⟩,λh0=>J3 (hf 0 h0).1⟩;have hi:i<l:=by have:=(DC.1 hy).1;simpa using this
 rw [gmp,List.getElem?_range hi] at hy
 cases hy
 exact hf i hi
theorem A8f{v:Value}{d:DataW H}{p:List MemPlace}(hv:Value.okWide Tryz.prog W .any base 30 v)(h:DataW.Trod enc Tryz.prog W 0 (λ_=>true) true 30 v d p) :
 ∃wa wl wc ra rl rc ws,v=.slice wa wl wc/\MT W.heap.size W wa wl ra rl rc ws:=by
 obtain⟨a0,l0,c0,rfl⟩:=okWide_slice Tryz.underlying30 hv;obtain⟨fuel,hf⟩:=h;obtain⟨a,l,c,e,_,_,hp,_,hx⟩:=NN Tryz.underlying30 hf (by rw [A7d];decide);simp [Value.cells] at e;obtain⟨rfl,rfl,rfl⟩:=e;have each:∀q,q<l0->∃x:((OA×Nat×Nat)×List (Int×Int)),rd W (pb a0) (po a0+q)=some (.slice x.1.1 x.1.2.1 x.1.2.2)/\IN W x.1.1 x.1.2.1 x.1.2.2 x.2/\(0<x.1.2.1->pb x.1.1<W.heap.size):=λq hq=>by
  obtain⟨cs,n,x,hlen,hcell,htr⟩:=hx q hq;obtain⟨a,l,c,ws,rfl,R,hb⟩:=B07 htr;rw [A7d] at hcell;have:=hcell 0 (by omega);rw [mo,Nat.add_zero] at this;exact⟨((a,l,c),ws),this,R,hb⟩
 obtain⟨f,hf⟩:∃f:Nat->((OA×Nat×Nat)×List (Int×Int)),∀q,q<l0->rd W (pb a0) (po a0+q)=some (.slice (f q).1.1 (f q).1.2.1 (f q).1.2.2)/\IN W (f q).1.1 (f q).1.2.1 (f q).1.2.2 (f q).2/\(0<(f q).1.2.1->pb (f q).1.1<W.heap.size):=
  ⟨λq=>if h:q<l0 then(each q h).choose else((none,0,0),[]),λq hq=>by simp only [hq,dif_pos];exact(each q hq).choose_spec⟩
 exact⟨a0,l0,c0,λq=>(f q).1.1,λq=>(f q).1.2.1,λq=>(f q).1.2.2,λq=>(f q).2,rfl,λh0=>⟨hp h0,J3 (hf 0 h0).1⟩,hf⟩
theorem A8g{v:Value}{d:DataW H}{p:List MemPlace}(hv:Value.okWide Tryz.prog W .any base 31 v)(h:DataW.Trod enc Tryz.prog W 0 (λ_=>true) true 31 v d p) :
 ∃ka kl kc,v=.slice ka kl kc/\B9v W.heap.size W ka kl:=by
 obtain⟨a0,l0,c0,rfl⟩:=okWide_slice Tryz.underlying31 hv;obtain⟨fuel,hf⟩:=h;obtain⟨a,l,c,e,_,_,hp,_,hx⟩:=NN Tryz.underlying31 hf (by rw [A7c];decide);simp [Value.cells] at e;obtain⟨rfl,rfl,rfl⟩:=e;have each:∀q,q<l0->∃(x:Int) (d:Bool),rd W (pb a0) (po a0+q*2)=some (vi x)/\rd W (pb a0) (po a0+q*2+1)=some (.bool d):=λq hq=>by
  obtain⟨cs,n,x,hlen,hcell,htr⟩:=hx q hq;obtain⟨xs,k,_,_,_,hxl,hfs⟩:=DataW.trod_struct Tryz.underlying62 htr;rw [A7c] at hcell hlen
  match xs,hxl,cs,hlen with
  | [y0,y1],_,[v0,v1],_=>
   have g0:=tk1 E2 (hfs 0 _ rfl);have g1:=tk1 B9f (hfs 1 _ rfl);obtain⟨n0,e0,_⟩:=DataW.trod_int Tryz.underlying3 g0;obtain⟨n1,e1,_⟩:=DataW.trod_bool Tryz.underlying4 g1;simp at e0 e1;subst e0 e1;exact⟨n0,n1,hcell 0 (by omega),hcell 1 (by omega)⟩
 exact⟨a0,l0,c0,rfl,λh0=>⟨hp h0,by obtain⟨_,_,h,_⟩:=each 0 h0;exact J3 h⟩,each⟩
