/- Part of a proof that a law returns true. Conditions: those in each theorem. -/
import Derived.Test.YtdgbechegbmpcaaGreatDoorQ9
set_option linter.unusedSimpArgs false
set_option linter.unusedVariables false
set_option maxRecDepth 100000
namespace Go.Proofs.YtdgbechegbmpcaaGreatDoor
open Go Go.Eng Go.Proofs.Tryz
open Go.Value (bool func slice agg int)
open Option (isNone)
open Go.IntKind (wrap)
open List (replicate range)
variable {X:NP}{w' w2 w3:WD}{a:OA}{f i l lf p:Nat}{B:BP}{β:Nat->Nat}{tv:Value}{l' r':Int}{high:Bool}
structure D3(w:WD)(a:OA)(l:Nat)(f:NI):Prop where
 p:0<l->isP a=true/\pb a<w.heap.size
 at':∀i,i<l->rd w (pb a) (po a+i)=some (vi (f i))
theorem D3.kx{w:WD}{f:NI}(h:D3 w a l f)(k:AB X w w')(hx:0<l->¬X (pb a)):D3 w' a l f:=
 ⟨λhl=>⟨(h.p hl).1,nll (h.p hl).2 k.sz⟩,λi hi=>k.AV (h.at' i hi) (hx (by omega))⟩
theorem D3.k{w:WD}{f:NI}(h:D3 w a l f)(k:AB AD w w'):D3 w' a l f:=h.kx k λ_ e=>e
theorem A1i{w:WD}{c:Nat}{f:NI}(h:D3 w a l f)(hl:l<=1000)(n:Int):Calls prog 17 #[.slice a l c,vi n] w λe w'=>e=.returned (.bool (decide (∃i,i<l/\f i=n)))/\w'=w:=by
 refine(vc17 a l c n w (λv w'=>v=.bool (decide (∃i,i<l/\f i=n))/\w'=w) ?_).AE ?_
 rotate_left
 .rintro e w' ⟨v,rfl,rfl,h⟩;exact⟨rfl,h⟩
 unfold Q;refine⟨λ_ k W N=>∃q:Nat,k=q/\q<=l/\N=l-q/\W=w/\∀i,i<q->f i≠n,⟨l,0,rfl,by omega,rfl,rfl,λi hi=>absurd hi (nlz _)⟩,?_⟩;rintro _ _ W _ ⟨q,rfl,hq,rfl,rfl,hv⟩;refine AH (λhc=>?_) (λhc=>?_)
 .simp only [decide_eq_true_eq] at hc;have hql:q<l:=by omega
  refine AA (h.p (by omega)).1 (Wi ⟨f q,by rw [tnc,mo];exact h.at' q hql,AH (λhe=>?_) (λhe=>?_)⟩)
  .have he:f q=n:=by simpa using he
   refine⟨?_,rfl⟩;rw [decide_eq_true (⟨q,hql,he⟩:∃i,i<l/\f i=n)]
  .have he:f q≠n:=by simpa using he
   refine⟨l-(q+1),by omega,q+1,wzz,by omega,rfl,rfl,λi hi=>?_⟩;by_cases e:i=q
   .rw [e];exact he
   .exact hv i (by omega)
 .simp only [decide_eq_false_iff_not] at hc;have:q=l:=by omega
  subst this;refine⟨?_,rfl⟩;rw [decide_eq_false λ⟨i,hi,he⟩=>hv i hi he]
structure Stg(w0:WD)(k:Nat)(S:AR)(fp:Prt->Nat->Prop)(FR:NP)(w:WD):Prop where
 X:Ctx k S fp FR w
 kp:AB AD w0 w
 lo:∀x,Fo fp FR x->w0.heap.size<=x
section
variable {w0 w w':WD}{k:Nat}{S S':AR}{fp:Prt->Nat->Prop}{FR:NP}
theorem Stg.step(h:Stg w0 k S fp FR w)(T:Step w w' k S' fp):∃fp',Stg w0 k S' fp' FR w'/\AB (λx=>¬FR x) w w':=by
 obtain⟨fp',X',L,k1,k2⟩:=h.X.step T;refine⟨fp',⟨X',BO h.kp k1 λx ⟨p,hp⟩=>h.lo x (.inl ⟨p,hp⟩),λx hx=>?_⟩,L.kp⟩;rcases k2 x hx with h1|h1
 .exact h.lo x h1
 .have:=h.kp.sz;have:=h1.1;omega
theorem Stg.E5(h:Stg w0 k S fp FR w)(kk:AB FR w w'):Stg w0 k S fp FR w':=
 ⟨h.X.E5 kk,BO h.kp kk λx hx=>h.lo x (.inr hx),h.lo⟩
theorem Stg.quiet(h:Stg w0 k S fp FR w)(kk:AB AD w w'):Stg w0 k S fp FR w':=h.E5 (kk.AE λ_ _ e=>e.elim)
theorem Stg.more(h:Stg w0 k S fp FR w)(kk:AB FR w w'):Stg w0 k S fp (λx=>FR x\/rng w w' x) w':=
 ⟨h.X.fresh kk,BO h.kp kk λx hx=>h.lo x (.inr hx),λx hx=>by
  rcases hx with hx|hx|hx
  .exact h.lo x (.inl hx)
  .exact h.lo x (.inr hx)
  .have:=h.kp.sz;have:=hx.1;omega⟩
end
abbrev AR.B0g(S:AR)(x:Nat):AR:={S with pins:=upd S.pins 1 x}
section
variable {w w':WD}{k:Nat}{S:AR}{fp:Prt->Nat->Prop}
theorem B59(h:AO w k S fp){b:Nat}(hb:S.sp 1=some b)(hp:p<32) :
 ∃pb',rd w k 106=some (AP b)/\rd w b 2=some (AP pb')/\Calls prog 40 #[AP pb',vi p] w λe w'=>(∃n,e=.returned (vi n))/\Step w w' k (S.B0g (S.pins 1 ||| 2^p)) fp:=by
 have SP:EX w (fp (.space 1)) b (S.root 1) (S.pins 1):=h.at' (.space 1) b hb;obtain⟨ab,pb',wb,mb,a1,a2,a3,a4,a5,f1,f2,f3,f4,f5⟩:=SP.ex;have hx:=SP.lt;have hne:pb'≠wb:=λe=>by
  subst e;have:=a3.rd 0;rw [a4.rd] at this
  cases this
 refine⟨pb',?_,by rw [a1.rd];rfl,(B4m a3 a4 hx hp hne).AE ?_⟩
 .have:=h.rt (j:=12) (v:=spV (S.sp 1)) rfl;rw [hb] at this;exact this
 rintro e w' ⟨n,rfl,kk,o⟩;have hlt:S.pins 1 ||| 2^p<4294967296:=by
  have:2^p<2^32:=Nat.pow_lt_pow_right (by decide) hp;exact Nat.or_lt_two_pow (n:=32) hx this
 have n1:b≠wb:=λe=>by
  subst e;have:=a1.rd 0;rw [a4.rd] at this
  cases this
 have n2:ab≠wb:=λe=>by
  subst e;have:=a2.rd 0;rw [a4.rd] at this
  cases this
 refine⟨⟨n,rfl⟩,h.FD (.space 1) kk (λx e=>e▸f4) rfl (λq F w hq hp=>?_) ?_⟩
 .cases q with
  | space i=>
   intro b' hb';have:i≠1:=λe=>hq (by rw [e])
   show EX w F b' (S.root i) (upd S.pins 1 _ i)
   rw [AI _ _ this];exact hp b' hb'
  | _=>exact hp
 .intro b' hb';have:b'=b:=by have hb':S.sp 1=some b':=hb';rw [hb] at hb';exact(Option.some.inj hb').symm
  subst this
  show EX w' _ b' (S.root 1) (upd S.pins 1 _ 1)
  rw [AF];exact⟨hlt,ab,pb',wb,mb,a1.kx kk n1,a2.kx kk n2,a3.kx kk hne,o,a5.kx kk (λe=>by
   obtain⟨es,cl,h1,_⟩:=a5.ex;obtain⟨et,h2⟩:=a4;rw [e,h2] at h1
   cases h1),.inl f1,.inl f2,.inl f3,.inl f4,.inl f5⟩
theorem QSt.pinned{rt cnt tot:Nat}{pg:Nat->Pg}{pin:Nat->Bool}{A:List Nat}(L:QSt S rt lf pg pin A h0 tk0 cnt tot)(hp:p<32)(hf:∃f,pg p=.fr f):QSt (S.B0g (S.pins 1 ||| 2^p)) rt lf pg (upd pin p true) A h0 tk0 cnt tot:=
 {L with
  ok:=λ_=>⟨λ_ _ h=>(by cases h),λ_ h=>(by cases h)⟩
  pinE:=λj hj=>by
   show(upd S.pins 1 (S.pins 1 ||| 2^p) 1).testBit j=_
   rw [AF,Nat.testBit_or,Nat.testBit_two_pow,L.pinE j hj];by_cases e:p=j
   .subst e;rw [AF];simp
   .rw [AI _ _ (Ne.symm e)];simp [e]
  pinF:=λj e=>by
   by_cases e2:j=p
   .subst e2;exact hf
   .rw [AI _ _ e2] at e;exact L.pinF j e}
end
def BP.pre(B:BP)(β:Nat->Nat):List Value:=[AP B.kp,AP (β 5)]++(AQ .i64 B.x0 0 94++([slice B.pa B.pl B.pc,slice B.ia B.il B.ic]++AQ .i64 B.x96 0 8))
theorem BP.NL:(B.pre β).length=106:=by simp [BP.pre,AM]
def BP.wr(B:BP)(β:Nat->Nat)(r l:Int)(tv:Value):List Value:=B.pre β++[vi r,vi l,tv,sq (β 9) B.n,sq (β 13) B.n,sq (β 17) B.n,sq (β 21) B.n]
theorem BP.C0c{r l:Int}:(B.wr β r l tv).length=113:=by simp [BP.wr,BP.NL]
theorem BP.C32:B.wc β=B.wr β 0 0 nl:=by simp [BP.wc,BP.wr,BP.pre]
theorem BP.C0b{r l:Int}{v:Value}:(B.wr β r l tv).set (106+i) v=B.pre β++[vi r,vi l,tv,sq (β 9) B.n,sq (β 13) B.n,sq (β 17) B.n,sq (β 21) B.n].set i v:=by
 unfold BP.wr;rw [List.set_append_right _ _ (by rw [BP.NL];omega),BP.NL,Nat.add_sub_cancel_left]
def CW(B:BP)(β:Nat->Nat)(x:Nat):Prop:=x=B.cb\/x=β 5\/x=β 25\/x=β 9\/x=β 13\/x=β 17\/x=β 21\/x=β 23
structure DU(W:WD)(B:BP)(β:Nat->Nat)(r l:Int)(tv:Value):Prop where
 so:AX W (β 23) (B.wr β r l tv)
 t:AX W (β 5) [sq (β 25) B.n]
 ts:AX W (β 25) (D4 B.n λ_=>[.nilFunc,vi 0])
 g:AX W (β 9) (replicate B.n nl)
 n:AX W (β 13) (replicate B.n (vi 0))
 a:AX W (β 17) (replicate B.n (vi 0))
 c:AX W (β 21) (replicate B.n (vi 0))
 x:AX W B.cb B.xc
 ne:∀x,x=B.cb\/x=β 5\/x=β 25\/x=β 9\/x=β 13\/x=β 17\/x=β 21->x≠β 23
section
variable {W W':WD}{B:BP}{β:Nat->Nat}{r l:Int}{tv:Value}
theorem DU.kx(h:DU W B β r l tv)(kk:AB X W W')(hX:∀x,CW B β x->¬X x):DU W' B β r l tv:=
 ⟨h.so.kx kk (hX _ (by simp [CW])),h.t.kx kk (hX _ (by simp [CW])),h.ts.kx kk (hX _ (by simp [CW])),h.g.kx kk (hX _ (by simp [CW])),h.n.kx kk (hX _ (by simp [CW])),h.a.kx kk (hX _ (by simp [CW])),h.c.kx kk (hX _ (by simp [CW])),h.x.kx kk (hX _ (by simp [CW])),h.ne⟩
theorem DU.k(h:DU W B β r l tv)(kk:AB AD W W'):DU W' B β r l tv:=h.kx kk λ_ _ e=>e
theorem DU.set(h:DU W B β r l tv){tv' v:Value}(hi:[vi r,vi l,tv,sq (β 9) B.n,sq (β 13) B.n,sq (β 17) B.n,sq (β 21) B.n].set i v=[vi r',vi l',tv',sq (β 9) B.n,sq (β 13) B.n,sq (β 17) B.n,sq (β 21) B.n])(e:W'=st W (β 23) (106+i) v):DU W' B β r' l' tv'/\AB (·=β 23) W W':=by
 have kk:AB (·=β 23) W W':=kr.s1 e (.inl rfl);have o:=h.so.s1 e;rw [BP.C0b,hi] at o;have ne:=h.ne;exact⟨⟨o,h.t.kx kk (ne _ (by simp)),h.ts.kx kk (ne _ (by simp)),h.g.kx kk (ne _ (by simp)),h.n.kx kk (ne _ (by simp)),h.a.kx kk (ne _ (by simp)),h.c.kx kk (ne _ (by simp)),h.x.kx kk (ne _ (by simp)),ne⟩,kk⟩
theorem DU.wr(h:DU W B β r l tv)(hi:i<3):Eng.wr W (β 23) (106+i):=h.so.wr (by rw [BP.C0c];omega)
theorem DU.tail(h:DU W B β r l tv){v:Value}(hv:[vi r,vi l,tv,sq (β 9) B.n,sq (β 13) B.n,sq (β 17) B.n,sq (β 21) B.n][i]? = some v):rd W (β 23) (106+i)=some v:=by
 rw [h.so.rd];unfold BP.wr;rw [gar (by rw [BP.NL];omega),BP.NL,Nat.add_sub_cancel_left];exact hv
theorem DU.r1(h:DU W B β r l tv):rd W (β 23) 1=some (AP (β 5)):=by
 rw [h.so.rd];rfl
theorem DU.cx(h:DU W B β r l tv)(hi:i<94):rd W B.cb i=some (vi (B.x0 i)):=by
 rw [h.x.rd];unfold BP.xc;rw [gal (by rw [AM];exact hi),AZ _ _ _ _ _ hi,za]
theorem DU.cp(h:DU W B β r l tv):rd W B.cb 94=some (.slice B.pa B.pl B.pc):=by
 rw [h.x.rd];rfl
theorem DU.ci(h:DU W B β r l tv):rd W B.cb 95=some (.slice B.ia B.il B.ic):=by
 rw [h.x.rd];rfl
theorem DU.c9(h:DU W B β r l tv)(hi:i<8):rd W B.cb (96+i)=some (vi (B.x96 i)):=by
 rw [h.x.rd];unfold BP.xc;rw [gar (by rw [AM];omega),AM,show 96+i-94=2+i by omega,gar (by simp),show 2+i-[slice B.pa B.pl B.pc,slice B.ia B.il B.ic].length=i by simp,AZ _ _ _ _ _ hi,za]
end
structure Lay(w0:WD)(B:BP)(β:Nat->Nat)(S:AR)(fp:Prt->Nat->Prop)(FR:NP)(r l:Int)(ta:OA)(tl tc:Nat)(A:List Nat)(W:WD):Prop where
 G:Stg w0 B.kp S fp FR W
 R:DU W B β r l (.slice ta tl tc)
 E5:∀x,CW B β x->FR x
 row:DT W ta tl tc (A.map λx:Nat=>(x:Int))
 rowF:∀x,(slice ta tl tc).ownBlock=some x->FR x/\¬CW B β x
section
variable {w0 W W':WD}{B:BP}{β:Nat->Nat}{S S':AR}{fp:Prt->Nat->Prop}{FR:NP}{r l:Int}{ta:OA}{tl tc:Nat}{A:List Nat}
theorem Lay.step(h:Lay w0 B β S fp FR r l ta tl tc A W)(T:Step W W' B.kp S' fp):∃fp',Lay w0 B β S' fp' FR r l ta tl tc A W':=by
 obtain⟨fp',G',kk⟩:=h.G.step T;exact⟨fp',G',h.R.kx kk λx hx e=>e (h.E5 x hx),h.E5,h.row.kx kk λx e hx=>e (h.rowF x hx).1,h.rowF⟩
theorem Lay.quiet(h:Lay w0 B β S fp FR r l ta tl tc A W)(kk:AB AD W W'):Lay w0 B β S fp FR r l ta tl tc A W':=
 ⟨h.G.quiet kk,h.R.k kk,h.E5,h.row.k kk,h.rowF⟩
theorem Lay.set(h:Lay w0 B β S fp FR r l ta tl tc A W){v:Value}(hi:[vi r,vi l,slice ta tl tc,sq (β 9) B.n,sq (β 13) B.n,sq (β 17) B.n,sq (β 21) B.n].set i v=[vi r',vi l',slice ta tl tc,sq (β 9) B.n,sq (β 13) B.n,sq (β 17) B.n,sq (β 21) B.n])(e:W'=st W (β 23) (106+i) v):Lay w0 B β S fp FR r' l' ta tl tc A W':=by
 obtain⟨R',kk⟩:=h.R.set hi e;exact⟨h.G.E5 (kk.AE λx _ e=>e▸h.E5 _ (by simp [CW])),R',h.E5,h.row.kx kk λx e hx=>(h.rowF x hx).2 (by rw [e];simp [CW]),h.rowF⟩
theorem Lay.note(h:Lay w0 B β S fp FR r l ta tl tc A W){w1:WD}(e1:w1=W.alloc (.cells #[vi (f:Nat)] 3))(hl:A.length<=2000) :
 ∃a' l' c' w2,BL prog #[27,27] 27 (.slice ta tl tc) (.slice (some ⟨W.heap.size,0,none⟩) 1 1) (.slice a' l' c') w1 w2/\Eng.wr w2 (β 23) 108/\∀w3,w3=st w2 (β 23) 108 (.slice a' l' c')->∃FR',Lay w0 B β S fp FR' r l a' l' c' (A++[f]) w3:=by
 have k1:=kal e1;have L1:=h.quiet k1;have o1:AX w1 W.heap.size [vi (f:Nat)]:=AG (c:=[vi (f:Nat)]) e1;obtain⟨a',c',w2,happ,row2,k2,hb⟩:=L1.row.C3u o1 (by rw [lmp];omega);have G2:=L1.G.more (w':=w2) (k2.AE λx _ hx=>(h.rowF x hx).1);have R2:=L1.R.kx k2 λx hx e=>(h.rowF x e).2 hx;refine⟨a',tl+1,c',w2,happ,R2.wr (i:=2) (by decide),λw3 e3=>?_⟩;obtain⟨R3,k3⟩:=R2.set (i:=2) (r':=r) (l':=l) (tv':=.slice a' (tl+1) c') rfl e3;have hnew:∀x,(slice a' (tl+1) c').ownBlock=some x->(FR x\/rng w1 w2 x)/\¬CW B β x:=λx hx=>by
  rcases hb with hb|hb
  .rw [hb] at hx;exact⟨.inl (h.rowF x hx).1,(h.rowF x hx).2⟩
  .have h1:=hb x hx;refine⟨.inr ⟨h1,row2.lt hx⟩,λhm=>?_⟩;have:=L1.G.X.lt x (h.E5 x hm);omega
 refine⟨_,G2.E5 (k3.AE λx _ e=>.inl (e▸h.E5 _ (by simp [CW]))),R3,λx hx=>.inl (h.E5 x hx),?_,hnew⟩;rw [F6];exact row2.kx k3 λx e hx=>(hnew x hx).2 (by rw [e];simp [CW])
end
theorem vc10(x0:NI)(x94:OA)(x94L x94C:Nat)(x95:OA)(x95L x95C:Nat)(x96:NI)(w:WD)(K:KV)(h:Q (AW w (List.toArray (AQ .i64 x0 0 94++([sl x94 x94L x94C,sl x95 x95L x95C]++AQ .i64 x96 0 8))) 29 λw'=>∃(x:NI),BB w' w.heap.size 0 (AQ .i64 x 0 94)/\Calls prog 31 #[agg (List.toArray (AQ .i64 x 0 94))] w' λe w'=>∃(p:OA) (n:Int),e=rT (.tuple #[pt p,vi n])/\Wif (isNone p||n != 0) (K (.tuple #[pt none,bool false,bool false]) w') (∃(I:OA->WD->Prop),B3s prog (Eng.A59 f10 4) [34,35,36,37,38,39,40,41,42,43,44,45,46,47,48,49,50,51,52,53,54,55,56,57,7] [some (Ent.mk none (agg (List.toArray (AQ .i64 x0 0 94++([sl x94 x94L x94C,sl x95 x95L x95C]++AQ .i64 x96 0 8)))) none),some (Ent.mk none (AP w.heap.size) none),some (Ent.mk none (pt none) none),some (Ent.mk none (bool false) (some false)),some (Ent.mk none (bool false) (some false)),some (Ent.mk none (pt p) none),some (Ent.mk none (vi n) none),none,none,none,none,none,none,none,none,none,none,none,none,none,none,none,some (Ent.mk none (Value.tuple #[pt p,vi n]) none),some (Ent.mk none (AP w.heap.size) none),some (Ent.mk none (agg (List.toArray (AQ .i64 x 0 94))) none),some (Ent.mk none (Value.tuple #[pt p,vi n]) none),some (Ent.mk none (pt p) none),some (Ent.mk none (vi n) none),some (Ent.mk none (pt p) none),some (Ent.mk none (bool (isNone p)) none),some (Ent.mk none (bool (isNone p)) none),none,none,some (Ent.mk none (bool (isNone p||n != 0)) none),none,none,none,none,none,none,none,none,none,none,none,none,none,none,none,none,none,none,none,none,none,none,none,none,none,none,none,none,none,none,none,none,none,none,none,none,none,none,none,none,none,none,none,none,none,none,none,none,none,none,none,none,none,none,none,none,none,none,none,none,none,none,none,none,none,none,none,none,none,none,none,none,none,none,none,none,none,none,none,none,none,none,none,none,none,none,none,none,none,none,none,none,none,none,none,none,none,none,none,none,none,none,none,none,none,none,none,none,none,none,none,none,none,none,none,none,none,none,none,none,none,none,none,none,none,none,none,none,none,none,none,none,none,none,none,none,none,none,none,none,none,none,none,none,none,none,none,none,none,none,none,none,none,none,none,none,none,none,none,none,none,none,none,none,none,none,none,none,none,none,none,none,none,none,none,none,none,none,none,none,none,none,none,none,none,none,none,none,none,none,none,none,none,none,none,none,none,none,none,none,none,none,none,none,none,none,none,none,none,none,none,none,none,none,none,none,none,none,none,none,none,none,none,none,none,none,none] [(7,Shp.AP)] I w'/\∀(d:OA) (w':WD),I d w'->Wp p (Rp w' p 95 λx=>CJ 33 #[pt x,vi 0,vi 0,bool false] w' λn o w'=>Wp p (Rp w' p 95 λx=>CJ 33 #[pt x,vi 0,vi 0,bool false] w' λk q w'=>∃(I:Bool->WD->Prop),gIf (isP d) ((o != 0||q != 0)=false) (∃(x:OA),((o != 0||q != 0)=false->rd w' (pb d) (po d+1)=some (.pointer x))/\gIf (isP p) ((o != 0||q != 0||isNone x||n==k)=false) (∃(r:OA),((o != 0||q != 0||isNone x||n==k)=false->rd w' (pb p) (po p+94)=some (.pointer r))/\Wif (o != 0||q != 0||isNone x||n==k) (I true w') (CI 34 #[pt r,vi n,agg #[vu 3,vi 0,vi 0,vi 0,vi 0]] w' λn w'=>gIf (isP p) ((n != 0)=false) (∃(x:OA),((n != 0)=false->rd w' (pb p) (po p+94)=some (.pointer x))/\Wif (n != 0) (I true w') (CI 34 #[pt x,vi k,agg #[vu 3,vi 0,vi 0,vi 0,vi 0]] w' λn w'=>I (n != 0) w')))))/\∀(b:Bool) (w':WD),I b w'->Wif b (K (.tuple #[pt none,bool false,bool false]) w') (Wp d (Sw w' (pb d) (po d+106) (vi n) λG=>Wp d (Sw G (pb d) (po d+107) (vi k) λw'=>∃(I:WD->Prop),(Dr w' λA=>Wp p (CP 35 #[vi n] A λs w'=>Sw w' (pb p) (po p+106) (pt s) λi=>I i))/\∀(w':WD),I w'->Wp p (Rp w' p 106 λx=>gIf (isP p) (isNone x=false) (∃(r:OA),(isNone x=false->rd w' (pb p) (po p+94)=some (.pointer r))/\Wif (isNone x) (K (.tuple #[pt none,bool false,bool false]) w') (CI 36 #[pt r,vi n,vi 0,vi k] w' λn w'=>Wif (n != 0) (K (.tuple #[pt none,bool false,bool false]) w') (RI w' w.heap.size 0 λx=>∃(I:Int->WD->Nat->Prop),(∃(n:Nat),I 0 w' n)/\∀(n:Int) (w':WD) (B:Nat),I n w' B->Wif (decide (n<x)) (∃(j:Int->WD->Nat->Prop),(∃(n:Nat),j 0 w' n)/\∀(g:Int) (w':WD) (t:Nat),j g w' t->Wn n 8 (RI w' w.heap.size (96+n.toNat*1) λx=>Wif (decide (g<x)&&decide (g<128)) (Wp p (Rp w' p 95 λx=>CJ 33 #[pt x,vi n,vi 0,bool false] w' λy h w'=>Wif (h != 0) (Lt B λm=>I (wrap .i64 (n+1)) w' m) (Wp p (Rp w' p 94 λx=>CI 34 #[pt x,vi y,agg #[vu 3,vi 0,vi 0,vi 0,vi 0]] w' λn w'=>Wp d (Rs w' d 108 λx z D=>AW w' #[vi y] 3 λi=>∃(a:OA) (l c:Nat) (f:WD),BL prog #[27,27] 27 (sl x z D) (sl (aD w'.heap.size) 1 1) (sl a l c) i f/\Wp d (Sw f (pb d) (po d+108) (sl a l c) λw'=>Lt t λm=>j (wrap .i64 (g+1)) w' m)))))) (Lt B λm=>I (wrap .i64 (n+1)) w' m))) (RS w' w.heap.size 94 λx z D=>∃(I:OA->Bool->Bool->Int->WD->Nat->Prop),(∃(n:Nat),I none false false 0 w' n)/\∀(s:OA) (b C:Bool) (n:Int) (w':WD) (g:Nat),I s b C n w' g->Wif (decide (n<(↑z:Int))) (Wp x (Wn n z (Ri w' x (n.toNat*1) λu=>Dr w' λA=>Wp p (Rp A p 95 λx=>RI A w.heap.size 1 λE=>Wif (E != 0) (CS 20 #[pt p,vi (Int.tmod n E),vi 1,vi u] A λa l c w'=>Rt w' (pb p) (po p+95) (.pointer x)<|CJ 37 #[pt x,sl a l c,vi 0,bool true] w' λt y w'=>Wif (y != 0) (K (.tuple #[pt d,bool false,bool true]) w') (AW w' (List.toArray (replicate 256 (vu 0))) 5 λi=>∃(j:Int->WD->Nat->Prop),(∃(n:Nat),j 0 i n)/\∀(h:Int) (f:WD) (F:Nat),j h f F->Wif (decide (h<256)) (Wn h 256 (Sw f w'.heap.size (0+h.toNat*1) (vu (wrap .u8 (wrap .i64 (u+h)))) λH=>Lt F λm=>j (wrap .i64 (h+1)) H m)) (Wp p (Rp f p 94 λx=>CI 38 #[pt x,vi t,vi 0,sl (aD w'.heap.size) 256 256] f λJ w'=>Wif (J != 0) (K (.tuple #[pt none,bool false,bool false]) w') (CI 39 #[pt p,vi 1,vi u,vi t] w' λL w'=>Wif (L != 0) (K (.tuple #[pt none,bool false,bool false]) w') (RS w' w.heap.size 95 λx M O=>CB 17 #[sl x M O,vi u] w' λP w'=>Wif P (Wp p (Rp w' p 106 λx=>Wp x (Rp w' x 2 λQ=>CI 40 #[pt Q,vi u] w' λR w'=>Lt g λm=>I s b C (wrap .i64 (n+1)) w' m))) (Lt g λm=>I s b C (wrap .i64 (n+1)) w' m))))))) False)))) (K (.tuple #[pt d,bool true,bool true]) w')))))))))))))):Ret 10 #[agg (List.toArray (AQ .i64 x0 0 94++sl x94 x94L x94C::sl x95 x95L x95C::AQ .i64 x96 0 8))] w K:=vcA [] 1 [5000004,100400071,4000007,100701114,4000010] func10 h
structure A37(w:WD)(x0:NI)(pa:OA)(pl:Nat)(ia:OA)(il:Nat)(pf nf:NI):Prop where
 my:D6 x0
 lp:pl<=32
 ln:il<=64
 pg:D3 w pa pl pf
 pn:D3 w ia il nf
 rg:∀i,i<pl->0<=pf i/\pf i<=31
 inj:∀i j,i<pl->j<pl->pf i=pf j->i=j
section
variable {B:BP}{β:Nat->Nat}
def KH:List Nat:=[5,25,9,13,17,21,23]
theorem C3l.dj(F:C3l B w2 β w3):∀s∈KH,∀t∈KH,s≠t->β s≠β t:=by
 have t3:β 5≠β 25:=(F.f 5 (by decide)).1.2.2;have hb:∀s∈KH,B9z s<25/\s∈JC (B9z s):=by decide
 intro s hs t ht hne;by_cases e:B9z s=B9z t
 .have:∀s∈KH,∀t∈KH,s≠t->B9z s=B9z t->(s=5/\t=25)\/(s=25/\t=5):=by decide
  rcases this s hs t ht hne e with⟨rfl,rfl⟩|⟨rfl,rfl⟩
  .exact t3
  .exact Ne.symm t3
 .exact F.inj _ _ (hb s hs).1 (hb t ht).1 e s (hb s hs).2 t (hb t ht).2
end
structure B6q(w0:WD)(pf nf:NI)(B:BP)(β:Nat->Nat)(S:AR)(fp:Prt->Nat->Prop)(FR:NP)(rt lf:Nat)(pg:Nat->Pg)(pin:Nat->Bool)(ta:OA)(tl tc:Nat)(A:List Nat)(W:WD):Prop where
 L:Lay w0 B β S fp FR rt lf ta tl tc A W
 Q:QSt S rt lf pg pin A h0 tk0 B.pl B.pl
 c:S.c=B.x0
 n:B.n=S.AS
 pg1:∀j,(∃f,pg j=.fr f)↔∃i,i<B.pl/\pf i=j
 pg2:∀j,pg j=.no\/∃f,pg j=.fr f
 pn:∀j,pin j=true↔(∃i,i<B.pl/\pf i=j)/\∃i,i<B.il/\nf i=j
 dj:∀s∈KH,∀t∈KH,s≠t->β s≠β t
 a0:(∀i,i<8->B.x96 i<=0)->A=[]
theorem B38{l l':List Bk}{o:Int}{a e:Int}(T:FL l o high a e l')(he:e≠0):l'=l:=by
 rcases T with⟨_,_,_,h⟩|⟨_,_,_,_,_,_,h⟩|⟨_,_,_,_,_,_,_,_,_,_,_,h,_⟩
 .exact h
 .exact h
 .exact absurd h he
theorem B34{α:Type}(f:Nat->α)(i:Nat):upd f i (f i)=f:=by
 funext t;by_cases e:t=i
 .subst e;rw [AF]
 .rw [AI _ _ e]
theorem C1e{w:WD}{S:AR}{fp:Prt->Nat->Prop}(C:AO w2 B.kp S fp)(k2:AB AD w w2)(hcb:AX w2 B.cb B.xc)(hcl:w.heap.size<=B.cb)(hfp:∀p x,fp p x->B.cb<x)(F:C3l B w2 β w3) :
 Lay w B β S fp (CW B β) 0 0 none 0 0 [] w3:=by
 have f5:=F.f 5 (by decide);have f9:=F.f 9 (by decide);have f13:=F.f 13 (by decide);have f17:=F.f 17 (by decide);have f21:=F.f 21 (by decide);have f23:=F.f 23 (by decide);obtain⟨⟨t1,t2,t3⟩,t4⟩:=f5;have o23:AX w3 (β 23) (B.wr β 0 0 nl):=BP.C32▸f23.1;have o9:AX w3 (β 9) _:=f9.1;have o13:AX w3 (β 13) _:=f13.1;have o17:AX w3 (β 17) _:=f17.1;have o21:AX w3 (β 21) _:=f21.1;have g5:=t4 5 (by decide);have g25:=t4 25 (by decide);have g9:=f9.2 9 (by decide);have g13:=f13.2 13 (by decide);have g17:=f17.2 17 (by decide);have g21:=f21.2 21 (by decide);have g23:=f23.2 23 (by decide);have hc:=hcb.lt;have s2:=k2.sz;have I:∀i j,i<25->j<25->i≠j->∀s∈JC i,∀t∈JC j,β s≠β t:=F.inj;have i5:=I 5 23 (by decide) (by decide) (by decide) 5 (by decide) 23 (by decide);have i25:=I 5 23 (by decide) (by decide) (by decide) 25 (by decide) 23 (by decide);have i9:=I 9 23 (by decide) (by decide) (by decide) 9 (by decide) 23 (by decide);have i13:=I 13 23 (by decide) (by decide) (by decide) 13 (by decide) 23 (by decide);have i17:=I 17 23 (by decide) (by decide) (by decide) 17 (by decide) 23 (by decide);have i21:=I 21 23 (by decide) (by decide) (by decide) 21 (by decide) 23 (by decide);have hm:∀x,CW B β x->w.heap.size<=x/\x<w3.heap.size/\(x=B.cb\/w2.heap.size<=x):=by
  have s3:=F.kp.sz;rintro x (rfl|rfl|rfl|rfl|rfl|rfl|rfl|rfl)
  .exact⟨hcl,by omega,.inl rfl⟩
  .exact⟨by omega,t1.lt,.inr g5⟩
  .exact⟨by omega,t2.lt,.inr g25⟩
  .exact⟨by omega,o9.lt,.inr g9⟩
  .exact⟨by omega,o13.lt,.inr g13⟩
  .exact⟨by omega,o17.lt,.inr g17⟩
  .exact⟨by omega,o21.lt,.inr g21⟩
  .exact⟨by omega,o23.lt,.inr g23⟩
 refine⟨⟨⟨C.k F.kp,λx hx=>(hm x hx).2.1,λp x hp hx=>?_⟩,k2.tr F.kp,λx hx=>?_⟩,⟨o23,t1,t2,o9,o13,o17,o21,hcb.k F.kp,?_⟩,λ_ h=>h,DT.MG,λx hx=>by cases hx⟩
 .have h1:=hfp p x hp;have h2:=(C.lt p x hp).2;rcases (hm x hx).2.2 with h3|h3
  .omega
  .omega
 .rcases hx with⟨p,hp⟩|hx
  .have:=hfp p x hp;omega
  .exact(hm x hx).1
 .rintro x (rfl|rfl|rfl|rfl|rfl|rfl|rfl)
  .omega
  .exact i5
  .exact i25
  .exact i9
  .exact i13
  .exact i17
  .exact i21
theorem C1d{by'':NI}{n rt:Nat}{page:Int}(hn:n<=1024)(hr:rt<n)(hl:lf<n)(h0:wdF by'' n rt 0=1+4*(lf:Int))(hp:0<=page/\page<32):lfE by'' n rt page=0:=by
 have ht:Int.tdiv page 32=0:=by rw [Int.tdiv_eq_ediv_of_nonneg hp.1];omega
 have he:enE (1+4*(lf:Int))=0:=by unfold enE;rw [if_neg (by omega)]
 have hw:wdE n (rt:Int) 0=0:=DH;have hE:rdE by'' n (rt:Int) 0=0:=by unfold rdE;rw [if_neg (by omega),h0,he]
 have hK:rdK by'' n (rt:Int) 0=1:=by unfold rdK;rw [if_pos hE,h0];omega
 unfold lfE;rw [ht,if_neg (by omega),hE,if_neg (by omega),hK,if_neg (by omega),if_pos rfl]
section
variable {w:WD}{k:Nat}{S:AR}{fp:Prt->Nat->Prop}{rt lf cnt tot:Nat}{pg:Nat->Pg}{pin:Nat->Bool}{A:List Nat}
theorem QSt.may(L:QSt S rt lf pg pin A h0 tk0 cnt tot)(h:AO w k S fp){l':List Bk}(hi:i<S.AK)(h1:AU S.c i<=f)(T:FL (S.L i) 0 high ((f:Int)-AU S.c i) 0 l')(hp:p<32)(hpg:pg p=.no) :
 f<S.n/\ByR (wrB S.by' f (DK p))/\(∀kk v,S.rat.lookup kk=some v->∃x:Int,v=vi x)/\(f:Int)∉S.ring i/\lfE (wrB S.by' f (DK p)) S.n (S.root 1) p=0/\(S.rof f).1=0/\S.rat.lookup (1,(p:Int))=none:=by
 have hn:=h.n4;obtain⟨hnu,hfn,_,_⟩:=L.free h hi h1 T;obtain⟨hrt,hlf,_⟩:=L.rl;have hnj:∀j,pg j≠.fr f:=λj e=>hnu (.inr (.inr (.inl ⟨j,e⟩)));have hfr:f≠rt:=λe=>hnu (.inl e);refine⟨hfn,λo=>?_,λkk v e=>?_,λe=>?_,?_,?_,?_⟩
 .unfold wrB;split
  .unfold DK;omega
  .exact L.by' o
 .obtain⟨_,g,_,_,e3⟩:=L.rat1 _ _ e;exact⟨_,e3⟩
 .obtain⟨j,g,hj,hg,_⟩:=(L.ckm i hi _).1 e;have:f=g:=by omega
  subst this;exact hnj j hj
 .rw [L.root];exact C1d (by omega) hrt hlf (by rw [A9u (by omega)];exact L.w0) (by omega)
 .by_cases e:(S.rof f).1=0
  .exact e
  .obtain⟨j,hj⟩:=L.rof2 f hfn e;exact absurd hj (hnj j)
 .cases e:S.rat.lookup (1,(p:Int)) with
  | none=>rfl
  | some v=>
   obtain⟨j,g,e1,e2,_⟩:=L.rat1 _ _ e;simp at e1;have:p=j:=by omega
   subst this;rw [hpg] at e2
   cases e2
theorem QSt.Alen(L:QSt S rt lf pg pin A h0 tk0 cnt tot)(h:AO w k S fp):A.length<=2000:=by
 have:=L.cf;have:=h.n4;omega
end
def QU(p t:Nat)(i:Nat):Int:=if i<t then DK p i else 0
theorem B2u(p:Nat):AQ .u8 (QU p 256) 0 256=AQ .u8 (DK p) 0 256:=by
 refine DX (by rw [AM]) λj hj=>?_;rw [AZ _ _ _ _ _ hj,za];unfold QU;rw [if_pos hj]
theorem B2t{t:Nat}(ht:t<256):(AQ .u8 (QU p t) 0 256).set t (.int .u8 (DK p t))=AQ .u8 (QU p (t+1)) 0 256:=by
 rw [FF ht];refine DX (by rw [AM]) λj hj=>?_;rw [AZ _ _ _ _ _ hj,za];by_cases e:j=t
 .subst e;rw [AF];unfold QU;rw [if_pos (by omega)]
 .rw [AI _ _ e];unfold QU;by_cases h:j<t
  .rw [if_pos h,if_pos (by omega)]
  .rw [if_neg h,if_neg (by omega)]
theorem B85(p:Nat):replicate 256 (int .u8 0)=AQ .u8 (QU p 0) 0 256:=by
 refine DX (by simp) λj hj=>?_;rw [List.getElem?_replicate,if_pos hj]
 rfl
def C3j(x0:NI)(pl:Nat)(x96:NI):Prop:=
 ∃(W:WD) (k:Nat) (S:AR) (fp:Prt->Nat->Prop) (rt lf:Nat) (pg:Nat->Pg) (pin:Nat->Bool) (A:List Nat) (q:Nat),AO W k S fp/\S.c=x0/\QSt S rt lf pg pin A h0 tk0 q q/\q<pl/\(∀x∈D1 x0 (q%S.AS),BD (S.L x)=0)/\((∀i,i<8->x96 i<=0)->A=[])
def B7j(w:WD)(x0:NI)(pa:OA)(pl pc:Nat)(ia:OA)(il ic:Nat)(x96 pf nf:NI)(v:Value)(w':WD):Prop:=
 AB AD w w'/\((C3j x0 pl x96/\∃p,v=.tuple #[.pointer p,.bool false,.bool true])\/
  ∃k β S fp FR rt lf pg pin ta tl tc A,v=.tuple #[AP (β 23),.bool true,.bool true]/\B6q w pf nf ⟨k,w.heap.size,S.AS,x0,pa,pl,pc,ia,il,ic,x96⟩ β S fp FR rt lf pg pin ta tl tc A w')
set_option maxHeartbeats 4000000 in
theorem A00{w:WD}(hz:F7 w)(hw:0<w.heap.size){x0:NI}{pa:OA}{pl pc:Nat}{ia:OA}{il ic:Nat}{x96 pf nf:NI}(O:A37 w x0 pa pl ia il pf nf) :
 Calls prog 10 #[.agg (AQ .i64 x0 0 94++([slice pa pl pc,slice ia il ic]++AQ .i64 x96 0 8)).toArray] w λe w'=>∃v,e=.returned v/\B7j w x0 pa pl pc ia il ic x96 pf nf v w':=by
 refine vc10 x0 pa pl pc ia il ic x96 w (B7j w x0 pa pl pc ia il ic x96 pf nf) ?_;unfold Q;intro w1 e1;have o1:=AG e1;have k1:=kal e1;have hs1:=k1.sz;have hcb1:=o1.lt;refine⟨x0,o1.run 0 (λj hj=>by rw [za,gal (by rw [AM];exact hj),AZ _ _ _ _ _ hj,za]),(B6a x0 (hz.k k1) (by omega)).AE ?_⟩;rintro _ w2 ⟨k2,⟨hno,_⟩|⟨_,k,S,fp,rfl,C2,hc,F,hfp⟩⟩
 .exact absurd O.my hno
 have hs:=C2.BQ;have hf0:=C2.fst (i:=0) (by omega);have hfs:0<BD (S.L 0):=by
  obtain⟨_,_,hk⟩:=C2.zn;have:=A46 (C2.IQ (i:=0) (by omega)) (F.L 0 (by omega));omega
 have hr:∀{W:WD}{S':AR}{fp':Prt->Nat->Prop} (C:AO W k S' fp') {j:Nat}{v:Value},(GL S')[j]? = some v->rd W k (0+(94+j))=some v:=λC j v hv=>C.rtW kr hv;refine⟨_,_,rfl,AL rfl ?_⟩;have K2:AB AD w w2:=k1.tr k2;have o2:=o1.k k2;generalize hB:(⟨k,w.heap.size,S.AS,x0,pa,pl,pc,ia,il,ic,x96⟩:BP)=B;have hcb2:AX w2 B.cb B.xc:=by subst hB;exact o2
 refine⟨λp W=>∃β,p=some ⟨β 23,0,none⟩/\C3l B w2 β W,?_,?_⟩
 .subst hB;exact regB (B:=⟨k,w.heap.size,S.AS,x0,pa,pl,pc,ia,il,ic,x96⟩) (by show 1<=S.AS/\S.AS<=16;omega) hcb2 (by show x0 1=(S.AS:Int);rw [<- hc];exact hs.2.1.2.2.symm) rfl rfl rfl λβ w' h=>⟨β,rfl,h⟩
 rintro p3 w3 ⟨β,rfl,FB⟩;have L3:Lay w B β S fp (CW B β) 0 0 none 0 0 [] w3:=by
  subst hB;refine C1e (B:=⟨k,w.heap.size,S.AS,x0,pa,pl,pc,ia,il,ic,x96⟩) C2 K2 hcb2 (nlr _) (λp x hp=>?_) FB;have:=hfp p x hp
  show w.heap.size<x
  omega
 have hx:B.x0=x0/\B.n=S.AS/\B.pa=pa/\B.pl=pl/\B.ia=ia/\B.il=il/\B.x96=x96/\B.cb=w.heap.size/\B.pc=pc/\B.ic=ic:=by subst hB;exact⟨rfl,rfl,rfl,rfl,rfl,rfl,rfl,rfl,rfl,rfl⟩
 have hBk:B.kp=k:=by subst hB;rfl
 subst hBk;have C3:=L3.G.X.C;have hf0':AU S.c 0=0:=rfl;refine AA rfl ⟨_,hr C3 (j:=1) rfl,(II C3 (i:=0) (by omega) 0 false).AE ?_⟩;rintro _ w4 ⟨a1,e1',l1,rfl,T4,R1⟩;obtain rfl:=A06 hfs R1;obtain⟨r1,rfl,hr1,hx1,hm1,hsum1⟩:=GY (C2.IQ (i:=0) (by omega)) R1;obtain⟨fp4,L4⟩:=L3.step T4;have C4:=L4.G.X.C;have e3:(S.LA (upd S.L 0 l1)).L 0=l1:=by show upd S.L 0 l1 0=l1;exact AF _ _ _
 have ht1:D0 0 l1 (S.c (18+0)).toNat:=by have:=C4.IQ (i:=0) (by show 0<S.AK;omega);rw [e3] at this;exact this
 have hfs1:0<BD l1:=by
  have:=A46 (C2.IQ (i:=0) (by omega)) (F.L 0 (by obtain⟨_,_,hk⟩:=C2.zn;omega));omega
 have efst:AU S.c 0+(r1:Int)=r1:=by omega
 refine⟨(r1:Int),0,by rw [if_pos rfl,efst],AA rfl ⟨_,hr C4 (j:=1) rfl,(II C4 (i:=0) (by show 0<S.AK;omega) 0 false).AE ?_⟩⟩;rintro _ w5 ⟨a2,e2',l2,rfl,T5,R2⟩;rw [e3] at R2;obtain rfl:=A06 hfs1 R2;obtain⟨r2,rfl,hr2,hx2,hm2,hsum2⟩:=GY ht1 R2;obtain⟨fp5,L5⟩:=L4.step T5;have C5:=L5.G.X.C;have hne:r1≠r2:=λe=>by
  obtain⟨x,hx,hg,h3,h4⟩:=hx2;have h5:(⟨r1,0,1⟩:Bk)∈l1:=(hm1 _ rfl).2 (.inr rfl);have:x=⟨r1,0,1⟩:=J0 ht1 hx h5 (f:=r2) h3 h4 (by show r1<=r2;omega) (by show r2<r1+2^0;omega);subst this
  cases hg
 have efst2:AU S.c 0+(r2:Int)=r2:=by omega
 have hn1:r1<S.n:=by have:=hf0.2.1;omega
 have hn2:r2<S.n:=by have:=hf0.2.1;omega
 have g1:=JI (mk:=S.mks) (n:=S.n) (f:=r1) (x:=CK) hn1 (by decide);have g2:=JI (mk:=smS S.mks S.n r1 CK) (n:=S.n) (f:=r2) (x:=CK) hn2 (by decide);have z1:smE S.n (r1:Int) CK=0:=g1.1;have z2:smE S.n (r2:Int) CK=0:=g2.1;generalize hS5:(S.LA (upd S.L 0 l1)).LA (upd (S.LA (upd S.L 0 l1)).L 0 l2)=S5 at *;have hS5m:S5.mks=S.mks/\S5.n=S.n/\S5.c=S.c/\S5.sp=S.sp:=by subst hS5;exact⟨rfl,rfl,rfl,rfl⟩
 refine⟨(r2:Int),0,by rw [if_pos rfl];show Ending.returned (.tuple #[vi (AU S.c 0+(r2:Int)),vi 0])=_;rw [efst2],λb W=>b=false/\∃fp',Lay w B β ((S5.I8 (smS S.mks S.n r1 CK)).I8 (smS (smS S.mks S.n r1 CK) S.n r2 CK)) fp' (CW B β) 0 0 none 0 0 [] W,?_,?_⟩
 .have hne':((r1:Int)==(r2:Int))=false:=beq_eq_false_iff_ne.2 (by omega);refine AJ (λ_=>rfl) ⟨some ⟨β 5,0,none⟩,(λ_=>by show rd w5 (β 23) (0+1)=_;rw [za];exact L5.R.r1),AJ (λ_=>rfl) ⟨_,(λ_=>hr C5 (j:=0) rfl),AL (by rw [hne'];rfl) ((EP C5 r1 CK).AE ?_)⟩⟩;rintro _ w6 ⟨rfl,T6⟩;rw [hS5m.1,hS5m.2.1] at T6;obtain⟨fp6,L6⟩:=L5.step T6;have C6:=L6.G.X.C;refine⟨_,rfl,AJ (λ_=>rfl) ⟨_,(λ_=>hr C6 (j:=0) rfl),AL (by rw [hS5m.2.1,z1];rfl) ((EP C6 r2 CK).AE ?_)⟩⟩;rintro _ w7 ⟨rfl,T7⟩;have T7:Step w6 w7 B.kp ((S5.I8 (smS S.mks S.n r1 CK)).I8 (smS (smS S.mks S.n r1 CK) S5.n r2 CK)) fp6:=T7;rw [hS5m.2.1] at T7;obtain⟨fp7,L7⟩:=L6.step T7;exact⟨_,rfl,by show(smE S5.n (r2:Int) CK != 0)=false;rw [hS5m.2.1,z2];rfl,fp7,L7⟩
 rintro b7 w7 ⟨rfl,fp7,L7⟩;generalize hS7:(S5.I8 (smS S.mks S.n r1 CK)).I8 (smS (smS S.mks S.n r1 CK) S.n r2 CK)=S7 at *;have hS7s:S7.sp=S.sp:=by subst hS7;exact hS5m.2.2.2
 refine AL rfl (AA rfl ⟨by show Eng.wr w7 (β 23) (0+106);rw [za];exact L7.R.wr (i:=0) (by decide),λw8 e8=>?_⟩);have e8:w8=st w7 (β 23) (0+106) (vi r1):=e8;rw [za] at e8;have L8:=L7.set (i:=0) (r':=r1) (l':=0) (v:=vi r1) rfl e8;refine AA rfl ⟨by show Eng.wr w8 (β 23) (0+107);rw [za];exact L8.R.wr (i:=1) (by decide),λw9 e9=>?_⟩;have e9:w9=st w8 (β 23) (0+107) (vi r2):=e9;rw [za] at e9;have L9:=L8.set (i:=1) (r':=r1) (l':=r2) (v:=vi r2) rfl e9;refine⟨λW=>∃b fp',Lay w B β (S7.G6 b r1) fp' (CW B β) r1 r2 none 0 0 [] W,λw10 e10=>?_,?_⟩
 .have L10:=L9.quiet (kr.dr e10);have C10:=L10.G.X.C;refine AA rfl ((A1m r1 w10).AE ?_);rintro _ w11 ⟨b,rfl,k11,SP⟩;have C11:=C10.k k11;refine⟨_,rfl,C11.so.wr (by rw [lap,AM];show 0+106<94+23;omega),λw12 e12=>?_⟩
  have T12:=A85 C10 (by rw [hS7s];exact F.sp) k11 SP (show w12=st w11 B.kp 106 (AP b) from by
   have e12:w12=st w11 B.kp (0+106) (AP b):=e12;rw [za] at e12;exact e12)
  obtain⟨fp12,L12⟩:=L10.step T12;exact⟨b,fp12,L12⟩
 rintro w12 ⟨b,fp12,L12⟩;have C12:=L12.G.X.C;refine AA rfl ⟨_,hr C12 (j:=12) rfl,AJ (λ_=>rfl) ⟨_,(λ_=>hr C12 (j:=0) rfl),AL rfl ((A3y C12 r1 0 r2).AE ?_)⟩⟩;rintro _ w13 ⟨rfl,T13⟩;obtain⟨fp13,L13⟩:=L12.step T13;have hQ:QSt ((S7.G6 b r1).JQ (slS (S7.G6 b r1).by' (S7.G6 b r1).n r1 0 r2)) r1 r2 (λ_=>.no) (λ_=>false) [] h0 tk0 0 0:=by
  subst hS7 hS5;exact QSt.begun C2 F (n0:=(S.c 18).toNat) rfl ht1 hr1 hr2 hm1 hsum1 hx2 hm2 hsum2 b
 have hsl:slE (S7.G6 b r1).n (r1:Int) 0 (r2:Int)=0:=by
  have:(S7.G6 b r1).n=S.n:=by subst hS7;exact hS5m.2.1
  rw [this];unfold slE;rw [if_neg (by have:=C2.n4;omega)];exact DH (by omega) (by omega) (by decide) (by decide)
 have hSc:((S7.G6 b r1).JQ (slS (S7.G6 b r1).by' (S7.G6 b r1).n r1 0 r2)).c=x0:=by subst hS7;rw [<- hc];exact hS5m.2.2.1
 generalize (S7.G6 b r1).JQ (slS (S7.G6 b r1).by' (S7.G6 b r1).n r1 0 r2)=S13 at *;obtain⟨hx0,hxn,hxpa,hxpl,hxia,hxil,hx96,hxcb,hxpc,hxic⟩:=hx;have hnod:(S.AK:Int)=x0 0:=by rw [<- hc];exact hs.1.2.2
 have hcpu:(S.AS:Int)=x0 1:=by rw [<- hc];exact hs.2.1.2.2
 refine⟨_,rfl,AL (by rw [hsl];rfl) ⟨x0 0,by rw [<- hxcb,<- hx0];exact L13.R.cx (i:=0) (by decide),λn W N=>∃(q:Nat) (S':AR) (fp':Prt->Nat->Prop) (FR:NP) (A:List Nat) (ta:OA) (tl tc:Nat),n=q/\q<=S.AK/\N=S.AK-q/\Lay w B β S' fp' FR r1 r2 ta tl tc A W/\S'.c=x0/\((∀i,i<8->x96 i<=0)->A=[])/\QSt S' r1 r2 (λ_=>.no) (λ_=>false) A h0 tk0 0 0,⟨S.AK,0,S13,fp13,CW B β,[],none,0,0,rfl,by omega,rfl,L13,hSc,(λ_=>rfl),hQ⟩,?_⟩⟩;clear L13 hQ T13 hsl L12 T4 T5 C4 C5 L4 L5 L7 L8 L9 R1 R2;rintro _ W0 _ ⟨q,S1,fq,FR1,A1,ta1,tl1,tc1,rfl,hq,rfl,LL,hc1,HA1,HQ⟩;refine AH (λhcq=>?_) (λhcq=>?_)
 .simp only [decide_eq_true_eq] at hcq;have hq8:q<S.AK:=by omega
  refine⟨λn W N=>∃(t:Nat) (S':AR) (fp':Prt->Nat->Prop) (FR:NP) (A:List Nat) (ta:OA) (tl tc:Nat),n=t/\t<=128/\N=128-t/\Lay w B β S' fp' FR r1 r2 ta tl tc A W/\S'.c=x0/\((∀i,i<8->x96 i<=0)->A=[])/\QSt S' r1 r2 (λ_=>.no) (λ_=>false) A h0 tk0 0 0,⟨128,0,S1,fq,FR1,A1,ta1,tl1,tc1,rfl,by omega,rfl,LL,hc1,HA1,HQ⟩,?_⟩;rintro _ W1 _ ⟨t,S2,f2,FR2,A2,ta2,tl2,tc2,rfl,ht,rfl,LT,hc2,HA2,HT⟩;have CT:=LT.G.X.C;have hnn:S2.AK=S.AK:=by unfold AR.AK;rw [hc2,hc]
  have nxt:∀{W':WD}{S':AR}{fp':Prt->Nat->Prop}{FR:NP}{A:List Nat}{ta:OA}{tl tc:Nat},Lay w B β S' fp' FR r1 r2 ta tl tc A W'->S'.c=x0->((∀i,i<8->x96 i<=0)->A=[])->(QSt S' r1 r2 (λ_=>.no) (λ_=>false) A h0 tk0 0 0)->∃m,Nat.succ m<=S.AK-q/\∃(q':Nat) (S':AR) (fp':Prt->Nat->Prop) (FR:NP) (A:List Nat) (ta:OA) (tl tc:Nat),wrap .i64 ((q:Int)+1)=q'/\q'<=S.AK/\m=S.AK-q'/\Lay w B β S' fp' FR r1 r2 ta tl tc A W'/\S'.c=x0/\((∀i,i<8->x96 i<=0)->A=[])/\QSt S' r1 r2 (λ_=>.no) (λ_=>false) A h0 tk0 0 0:=
   λL h1 h2 h3=>⟨S.AK-(q+1),by omega,q+1,_,_,_,_,_,_,_,wzz,by omega,rfl,L,h1,h2,h3⟩
  refine Wi ⟨x96 q,by rw [tnc,mo,<- hxcb,<- hx96];exact LT.R.c9 (by omega),AH (λhct=>?_) (λhct=>nxt LT hc2 HA2 HT)⟩;have ht2:t<128:=by simp at hct;omega
  refine AA rfl ⟨_,hr CT (j:=1) rfl,(II CT (i:=q) (by omega) 0 false).AE ?_⟩;rintro _ W2 ⟨a,e,l',rfl,TT,RT⟩;by_cases he:e=0
  .subst he;obtain⟨r,rfl,hrn,_⟩:=GY (CT.IQ (i:=q) (by omega)) RT;have hfq:=CT.fst (i:=q) (by omega);obtain⟨f,hf⟩:∃f:Nat,AU S2.c q+(r:Int)=f:=⟨(AU S2.c q+r).toNat,by omega⟩;have RT':FL (S2.L q) 0 false ((f:Int)-AU S2.c q) 0 l':=by
    rw [show(f:Int)-AU S2.c q=r by omega];exact RT
   obtain⟨fp2',LT2⟩:=LT.step TT;have CT2:=LT2.G.X.C;refine⟨(f:Int),0,by rw [if_pos rfl,hf],AL rfl (AA rfl ⟨_,hr CT2 (j:=0) rfl,(EP CT2 f CK).AE ?_⟩)⟩;rintro _ W3 ⟨rfl,TT3⟩;obtain⟨fp3',LT3⟩:=LT2.step TT3;have HK:=HT.kept CT (by omega) (by omega) RT';refine⟨_,rfl,AA rfl ⟨_,_,_,by show rd W3 (β 23) (0+108)=_;rw [za];exact LT3.R.tail (i:=2) rfl,λW4 e4=>?_⟩⟩;obtain⟨a',la,ca,W5,happ,hwr,H5⟩:=LT3.note e4 (HT.Alen CT);refine⟨a',la,ca,W5,happ,AA rfl ⟨by show Eng.wr W5 (β 23) (0+108);rw [za];exact hwr,λW6 e6=>?_⟩⟩;have e6:W6=st W5 (β 23) (0+108) (.slice a' la ca):=e6;rw [za] at e6;obtain⟨FR3,LT6⟩:=H5 W6 e6;exact⟨128-(t+1),by omega,t+1,_,_,_,_,_,_,_,wzz,by omega,rfl,LT6,hc2,(λh=>by
    have:=h q (by omega);have h9:=hct;rw [Bool.and_eq_true,decide_eq_true_eq] at h9;have:=h9.1;exfalso;omega),HK⟩
  .obtain rfl:=B38 RT he;rw [B34] at TT;obtain⟨fp2',LT2⟩:=LT.step TT;exact⟨_,_,rfl,AA (by simp [he]) (nxt LT2 hc2 HA2 HT)⟩
 .clear hcq;have hpl:=O.lp;have hcp:=LL.R.cp;rw [hxcb,hxpa,hxpl,hxpc] at hcp;refine⟨pa,pl,pc,hcp,λ_ _ _ n W N=>∃(q:Nat) (S':AR) (fp':Prt->Nat->Prop) (FR:NP) (pg:Nat->Pg) (pin:Nat->Bool),n=q/\q<=pl/\N=pl-q/\Lay w B β S' fp' FR r1 r2 ta1 tl1 tc1 A1 W/\S'.c=x0/\(QSt S' r1 r2 pg pin A1 h0 tk0 q q)/\(∀j,(∃f,pg j=.fr f)↔∃i,i<q/\pf i=j)/\(∀j,pg j=.no\/∃f,pg j=.fr f)/\(∀j,pin j=true↔(∃i,i<q/\pf i=j)/\∃i,i<il/\nf i=j),
   ⟨pl,0,S1,fq,FR1,_,_,rfl,by omega,rfl,LL,hc1,HQ,λj=>⟨(λ⟨f,e⟩=>by cases e),λ⟨i,hi,_⟩=>absurd hi (nlz _)⟩,λ_=>.inl rfl,λj=>⟨(λe=>by cases e),λ⟨⟨i,hi,_⟩,_⟩=>absurd hi (nlz _)⟩⟩,?_⟩
  rintro _ _ _ _ W1 _ ⟨u,S2,f2,FR2,pg,pin,rfl,hu,rfl,LT,hc2,HT,P1,P2,P3⟩;have CT:=LT.G.X.C;refine AH (λhcu=>?_) (λhcu=>?_)
  .simp only [decide_eq_true_eq] at hcu;have hul:u<pl:=by omega
   obtain⟨g1',g2'⟩:=O.rg u hul;obtain⟨p,hp⟩:∃p:Nat,pf u=p:=⟨(pf u).toNat,by omega⟩;have hp32:p<32:=by omega
   have hpg:pg p=.no:=(P2 p).resolve_right λe=>by
    obtain⟨i,hi,he⟩:=(P1 p).1 e;have:=O.inj i u (by omega) hul (by rw [he,hp]);omega
   have hnn:S2.AK=S.AK:=by unfold AR.AK;rw [hc2,hc]
   have hcc:S2.AS=S.AS:=by unfold AR.AS;rw [hc2,hc]
   have PG:=O.pg.k LT.G.kp;refine AA (PG.p (by omega)).1 (Wi ⟨(p:Int),by rw [tnc,mo,<- hp];exact PG.at' u hul,λW2 e2=>?_⟩);have LT2:=LT.quiet (kr.dr e2);have C2':=LT2.G.X.C;have hc1v:rd W2 w.heap.size 1=some (vi (x0 1)):=by rw [<- hxcb,<- hx0];exact LT2.R.cx (i:=1) (by decide)
   obtain⟨b',hsp⟩:=HT.sp1;have htm:Int.tmod (u:Int) (x0 1)=((u%S.AS:Nat):Int):=by
    rw [<- hcpu,Int.tmod_eq_emod_of_nonneg (by omega)];omega
   have hcp1:u%S.AS<S2.AS:=by rw [hcc];exact Nat.mod_lt _ (by omega)
   refine AA rfl ⟨_,hr C2' (j:=1) rfl,x0 1,hc1v,AA (by simp;omega) ?_⟩;rw [htm];refine(A0l C2' hsp (page:=(p:Int)) (by omega) hcp1).AE ?_;rintro _ W3 ⟨na,nl',nc,rfl,k3,RN⟩;have LT3:=LT2.quiet k3;have C3':=LT3.G.X.C;obtain⟨n1,n2,_,n4⟩:=H8 CT.my (u%S.AS);rw [<- n1] at RN;refine⟨na,nl',nc,rfl,⟨hr C3' (j:=1) rfl,trivial⟩,(A83 C3' RN (λx hx=>n2 x hx) (by rw [n4];have:=hs.1;unfold AR.AK at hnn;omega)).AE ?_⟩;rintro _ W4 (⟨hz0,⟨er,her,rfl⟩,rfl⟩|⟨f,i,l',rfl,T4,hi,h1,h2,TR⟩)
   .exact⟨0,er,rfl,AA (by simpa using her) ⟨LT3.G.kp,.inl ⟨⟨_,B.kp,S2,_,r1,r2,pg,pin,A1,u,LT3.G.X.C,hc2,HT,hul,(by rw [hcc,<- hc2];exact hz0),HA1⟩,_,rfl⟩⟩⟩
   have QM:=HT.may CT hi h1 TR hp32 hpg;obtain⟨m1,m2,m3,m4,m5,m6,m7⟩:=QM;obtain⟨fp4,LT4⟩:=LT3.step T4;refine⟨(f:Int),0,rfl,AL rfl λW5 e5=>?_⟩;have k5:=kal e5;have o5:AX W5 W4.heap.size (replicate 256 (int .u8 0)):=AG e5;rw [B85 p] at o5;refine⟨λn W N=>∃t:Nat,n=t/\t<=256/\N=256-t/\AX W W4.heap.size (AQ .u8 (QU p t) 0 256)/\AB AD W4 W,⟨256,0,rfl,by omega,rfl,o5,k5⟩,?_⟩;rintro _ W6 _ ⟨t,rfl,ht,rfl,o6,k6⟩;refine AH (λhct=>?_) (λhct=>?_)
   .simp only [decide_eq_true_eq] at hct;have ht2:t<256:=by omega
    refine Wi ⟨by rw [tnc,mo,za];exact o6.wr (by rw [AM];exact ht2),λW7 e7=>?_⟩;have hbv:wrap .u8 (wrap .i64 ((p:Int)+t))=DK p t:=by
     rw [wi (by omega)]
     show((p:Int)+t)%256=_
     unfold DK;omega
    rw [tnc,mo,za,hbv] at e7;have o7:=o6.s1 e7;rw [B2t ht2] at o7;exact⟨256-(t+1),by omega,t+1,wzz,by omega,rfl,o7,BO k6 (kr.s1 e7 (.inl rfl):AB (·=W4.heap.size) W6 W7) λx e=>by omega⟩
   simp only [decide_eq_false_iff_not] at hct;have:t=256:=by omega
   subst this;rw [B2u] at o6;have LT6:=LT4.quiet k6;have C6':=LT6.G.X.C;refine AA rfl ⟨_,hr C6' (j:=0) rfl,(A84 C6' m1 o6).AE ?_⟩;rintro _ W7 ⟨rfl,T7⟩;obtain⟨fp7,LT7⟩:=LT6.step T7;have C7':=LT7.G.X.C;have HM:=HT.F6 CT hi h1 h2 TR hp32 hpg;refine⟨0,rfl,AL rfl ((B47 C7' (b:=b') hsp m2 m3 (f:=f) (i:=i) m1 hi h1 h2 (HT.ck i hi) (λ_=>m4) (by have:=HT.A2r hi;show(S2.ring i).length<=100000;omega) p).AE ?_)⟩;rintro _ W8 (⟨hbad,_⟩|⟨_,hbad,_⟩|⟨_,_,hbad,_⟩|⟨_,_,_,hbad,_⟩|⟨_,_,_,_,rfl,T8⟩)
   .omega
   .exact absurd m5 hbad
   .exact absurd m6 hbad
   .have hbad:(S2.rat.lookup (1,(p:Int))).isSome=true:=hbad;rw [m7] at hbad;cases hbad
   obtain⟨fp8,LT8⟩:=LT7.step T8;have C8':=LT8.G.X.C;have PN:=O.pn.k LT8.G.kp;have hci:=LT8.R.ci;rw [hxcb,hxia,hxil,hxic] at hci;refine⟨0,rfl,AL rfl ⟨ia,il,ic,hci,(A1i PN (by have:=O.ln;omega) (p:Int)).AE ?_⟩⟩;rintro _ wz ⟨rfl,hwz⟩;rw [hwz];have P1':∀j,(∃g,upd pg p (.fr f) j=.fr g)↔∃i,i<u+1/\pf i=j:=λj=>by
    by_cases e:j=p
    .subst e;exact⟨λ_=>⟨u,by omega,hp⟩,λ_=>⟨f,AF _ _ _⟩⟩
    .rw [AI _ _ e,P1 j];exact⟨λ⟨i,hi,he⟩=>⟨i,by omega,he⟩,λ⟨i,hi,he⟩=>⟨i,by
      have:i≠u:=λe2=>e (by rw [e2,hp] at he;omega);omega,he⟩⟩
   have P2':∀j,upd pg p (.fr f) j=.no\/∃g,upd pg p (.fr f) j=.fr g:=λj=>by
    by_cases e:j=p
    .subst e;exact .inr ⟨f,AF _ _ _⟩
    .rw [AI _ _ e];exact P2 j
   have more:∀j:Nat,(∃i,i<u+1/\pf i=j)↔(∃i,i<u/\pf i=j)\/j=p:=λj=>by
    constructor
    .rintro ⟨i,hi,he⟩;by_cases e2:i=u
     .right;rw [e2,hp] at he;omega
     .exact .inl ⟨i,by omega,he⟩
    .rintro (⟨i,hi,he⟩|rfl)
     .exact⟨i,by omega,he⟩
     .exact⟨u,by omega,hp⟩
   have npin:pin p=false:=by
    cases e:pin p with
    | false=>rfl
    | true=>
     obtain⟨i,hi,he⟩:=((P3 p).1 e).1;have:=O.inj i u (by omega) hul (by rw [he,hp]);omega
   refine⟨_,rfl,AH (λhb=>?_) (λhb=>?_)⟩
   .simp only [decide_eq_true_eq] at hb;obtain⟨pb',q1,q2,q3⟩:=B59 C8' (b:=b') hsp hp32;refine AA rfl ⟨some ⟨b',0,none⟩,by show rd W8 B.kp (0+106)=_;rw [za];exact q1,AA rfl ⟨_,by show rd W8 b' (0+2)=_;rw [za];exact q2,q3.AE ?_⟩⟩;rintro _ W9 ⟨⟨n,rfl⟩,T9⟩;obtain⟨fp9,LT9⟩:=LT8.step T9;refine⟨n,rfl,pl-(u+1),by omega,u+1,_,fp9,FR2,_,upd pin p true,wzz,by omega,rfl,LT9,hc2,HM.pinned hp32 ⟨f,AF _ _ _⟩,P1',P2',λj=>?_⟩;rw [more j];by_cases e:j=p
    .subst e;rw [AF];exact⟨λ_=>⟨.inr rfl,hb⟩,λ_=>rfl⟩
    .rw [AI _ _ e,P3 j];exact⟨λh=>⟨.inl h.1,h.2⟩,λh=>⟨h.1.resolve_right e,h.2⟩⟩
   .simp only [decide_eq_false_iff_not] at hb;refine⟨pl-(u+1),by omega,u+1,_,fp8,FR2,_,pin,wzz,by omega,rfl,LT8,hc2,HM,P1',P2',λj=>?_⟩;rw [more j];by_cases e:j=p
    .subst e;rw [npin];exact⟨(λh=>by cases h),λh=>absurd h.2 hb⟩
    .rw [P3 j];exact⟨λh=>⟨.inl h.1,h.2⟩,λh=>⟨h.1.resolve_right e,h.2⟩⟩
  .simp only [decide_eq_false_iff_not] at hcu;have:u=pl:=by omega
   subst this;refine⟨LT.G.kp,.inr ⟨B.kp,β,S2,f2,FR2,r1,r2,pg,pin,ta1,tl1,tc1,A1,rfl,?_⟩⟩;have hcc:S2.AS=S.AS:=by unfold AR.AS;rw [hc2,hc]
   have hBB:(⟨B.kp,w.heap.size,S2.AS,x0,pa,u,pc,ia,il,ic,x96⟩:BP)=B:=by rw [hcc];exact hB
   rw [hBB];refine⟨LT,?_,by rw [hc2,hx0],by rw [hxn,hcc],?_,P2,?_,FB.dj,by rw [hx96];exact HA1⟩
   .rw [hxpl];exact HT
   .rw [hxpl];exact P1
   .rw [hxpl,hxil];exact P3
theorem J1{n:Nat}:replicate n (vi 0)=AQ .i64 (λ_=>0) 0 n:=DX (by simp) λj hj=>by rw [List.getElem?_replicate,if_pos hj]
theorem PE:∀(n:Nat) (l:List Nat),(∀f,f<n->f∈l)->n<=l.length
 | 0,_,_=>Nat.zero_le _
 | n+1,l,h=>by
  have hm:=h n (by omega);have:=PE n (l.erase n) λf hf=>(List.mem_erase_of_ne (by omega)).2 (h f (by omega));rw [List.length_erase_of_mem hm] at this;have:=List.length_pos_of_mem hm;omega
theorem QY:∀(n:Nat) (l:List Nat),(∀f,f<n->f∈l)->l.length=n->l.Nodup
 | 0,l,_,hl=>by rw [List.length_eq_zero_iff.1 hl];exact List.nodup_nil
 | n+1,l,h,hl=>by
  have hm:=h n (by omega);have hl2:(l.erase n).length=n:=by rw [List.length_erase_of_mem hm,hl];rfl
  have hc:∀f,f<n->f∈l.erase n:=λf hf=>(List.mem_erase_of_ne (by omega)).2 (h f (by omega));have ih:=QY n (l.erase n) hc hl2;have hn:n∉l.erase n:=λe=>by
   have:=PE (n+1) (l.erase n) λf hf=>if e2:f=n then e2▸e else hc f (by omega)
   omega
  exact((List.perm_cons_erase hm).nodup_iff).2 (List.nodup_cons.2 ⟨hn,ih⟩)
def sd(L:List (Nat×Int))(f:Nat):Int:=match L.lookup f with|some v=>v|none=>0
theorem QK{L:List (Nat×Int)}(h:f∉L.map Prod.fst):L.lookup f=none:=by
 induction L with
 | nil=>rfl
 | cons x L ih=>
  rw [List.map_cons,List.mem_cons,not_or] at h;rw [List.lookup_cons,show(f==x.1)=false from beq_eq_false_iff_ne.2 h.1];exact ih h.2
theorem B70{L:List (Nat×Int)}(h:f∉L.map Prod.fst):sd L f=0:=by unfold sd;rw [QK h]
theorem C0r{L:List (Nat×Int)}{v:Int}(h:f∉L.map Prod.fst):sd (L++[(f,v)])=upd (sd L) f v:=by
 funext g;unfold sd;rw [List.lookup_append];by_cases e:g=f
 .subst e;rw [QK h,AF];simp
 .rw [AI _ _ e]
  cases L.lookup g with
  | some v=>rfl
  | none=>rw [List.lookup_cons,show(g==f)=false from beq_eq_false_iff_ne.2 e];rfl
theorem A40{L:List (Nat×Int)}(h:f∈L.map Prod.fst):∃v,L.lookup f=some v/\(f,v)∈L:=by
 induction L with
 | nil=>cases h
 | cons x L ih=>
  rw [List.lookup_cons];by_cases e:f=x.1
  .subst e;exact⟨x.2,by simp,by simp⟩
  .rw [show(f==x.1)=false from beq_eq_false_iff_ne.2 e];rw [List.map_cons,List.mem_cons] at h;obtain⟨v,h1,h2⟩:=ih (h.resolve_left e);exact⟨v,h1,mcm _ h2⟩
def J9(l:List (Nat×Nat)):List Nat:=l.flatMap λy=>List.range' y.1 (2^y.2)
def pgF(pg:Nat->Pg)(q:Nat):List Nat:=(range q).filterMap λj=>match pg j with|.fr f=>some f|_=>none
def pgS(pg:Nat->Pg)(q:Nat):List Nat:=(range q).filterMap λj=>match pg j with|.sl s=>some s|_=>none
def CO(pg:Nat->Pg)(q:Nat):List FV:=(range q).filterMap λj=>match pg j with|.no=>none|.fr f=>some ⟨(j:Int),1,(f:Int)⟩|.sl s=>some ⟨(j:Int),2,(s:Int)⟩
def HJ(hh:Nat->List Nat)(n:Nat):List Nat:=(List.range' 0 n).flatMap hh
theorem OZ{hh:Nat->List Nat}{n:Nat}:f∈HJ hh n↔∃i,i<n/\f∈hh i:=by
 unfold HJ;rw [List.mem_flatMap];constructor
 .rintro ⟨i,hi,h⟩;obtain⟨j,hj,rfl⟩:=List.mem_range'.1 hi;exact⟨_,by omega,h⟩
 .rintro ⟨i,hi,h⟩;exact⟨i,List.mem_range'.2 ⟨i,hi,by omega⟩,h⟩
theorem A3i(hh:Nat->List Nat):∀n,(HJ hh n).length=CY n λi=>(hh i).length
 | 0=>rfl
 | n+1=>by
  have ih:=A3i hh n;unfold HJ at ih ⊢;rw [List.range'_1_concat,List.flatMap_append,lap,ih,CQ];simp
def LK(Z:List (Nat×Nat))(hd:List Nat)(rt lf:Nat)(A:List Nat)(pg:Nat->Pg):List (Nat×Int):=
 (J9 Z).map (λf=>(f,1))++(hd.map (λf=>(f,2))++((rt,3)::(lf,3)::(A.map (λf=>(f,3))++(pgF pg 32).map λf=>(f,4))))
theorem A3r(l:List (Nat×Nat)):(J9 l).length=(l.map λy=>2^y.2).sum:=by
 induction l with
 | nil=>rfl
 | cons x l ih=>rw [show J9 (x::l)=List.range' x.1 (2^x.2)++J9 l from List.flatMap_cons,lap,List.length_range',ih];rfl
theorem RY(pg:Nat->Pg):∀q,(pgF pg q).length=((range q).filter λj=>(pg j).KA).length
 | 0=>rfl
 | q+1=>by
  have ih:=RY pg q;unfold pgF at ih ⊢;rw [List.range_succ,List.filterMap_append,lap,ih,List.filter_append,lap];congr 1
  cases h:pg q <;> simp [h,Pg.KA]
theorem H9(pg:Nat->Pg)(q:Nat):CO pg (q+1)=CO pg q++(match pg q with|.no=>[]|.fr f=>[⟨(q:Int),1,(f:Int)⟩]|.sl s=>[⟨(q:Int),2,(s:Int)⟩]):=by
 unfold CO;rw [List.range_succ,List.filterMap_append];congr 1
 cases h:pg q <;> simp [h]
theorem B6h(l:List Bk):((bks l).map λy=>2^y.2).sum=BD l:=by
 induction l with
 | nil=>rfl
 | cons x l ih=>
  rw [DR];by_cases h:x.g=0
  .rw [B6j h,if_pos h,List.map_cons,List.sum_cons,ih]
  .rw [B6i h,if_neg h,ih,za]
theorem A5s{c:NI}{L:Nat->List Bk}:∀q:Nat,((zsh c L q).map λy=>2^y.2).sum=CY q λi=>BD (L i)
 | 0=>rfl
 | q+1=>by
  have e0:zsh c L (q+1)=zsh c L q++(bks (L q)).map λy=>((AU c q).toNat+y.1,y.2):=rfl;have e2:(((bks (L q)).map λy=>((AU c q).toNat+y.1,y.2)).map λy:Nat×Nat=>2^y.2)=(bks (L q)).map λy=>2^y.2:=by rw [List.map_map];rfl
  rw [e0,F6,List.sum_append,e2,B6h,A5s q,CQ]
theorem B6r{c:NI}{L:Nat->List Bk}{i:Nat}{x:Bk}(hx:x∈L i)(hg:x.g=0):∀{q:Nat},i<q->((AU c i).toNat+x.p,x.o)∈zsh c L q
 | 0,h=>absurd h (nlz _)
 | q+1,h=>by
  have e0:zsh c L (q+1)=zsh c L q++(bks (L q)).map λy=>((AU c q).toNat+y.1,y.2):=rfl;rw [e0,List.mem_append];by_cases e:i=q
  .subst e;exact .inr (List.mem_map.2 ⟨(x.p,x.o),List.mem_map.2 ⟨x,RZ.2 ⟨hx,hg⟩,rfl⟩,rfl⟩)
  .exact .inl (B6r hx hg (by omega))
theorem A5t{c:NI}{L:Nat->List Bk}:∀{q:Nat}{y:Nat×Nat},y∈zsh c L q->∃i x,i<q/\x∈L i/\x.g=0/\y=((AU c i).toNat+x.p,x.o)
 | 0,y,h=>by simp [zsh] at h
 | q+1,y,h=>by
  have e0:zsh c L (q+1)=zsh c L q++(bks (L q)).map λy=>((AU c q).toNat+y.1,y.2):=rfl;rw [e0,List.mem_append] at h;rcases h with h|h
  .obtain⟨i,x,h1,h2⟩:=A5t h;exact⟨i,x,by omega,h2⟩
  .obtain⟨z,hz,rfl⟩:=List.mem_map.1 h;obtain⟨x,hx,rfl⟩:=List.mem_map.1 hz;obtain⟨h1,h2⟩:=RZ.1 hx;exact⟨q,x,by omega,h1,h2,rfl⟩
theorem A97:∀{l:List Bk}{a b f:Nat},D0 a l b->a<=f->f<b->∃x∈l,x.p<=f/\f<x.p+2^x.o
 | [],a,b,f,h,h1,h2=>by have:a=b:=h;omega
 | x::l,a,b,f,h,h1,h2=>by
  obtain⟨e1,_,_,e2⟩:=h;by_cases e:f<a+2^x.o
  .exact⟨x,mcs,by omega,by omega⟩
  .obtain⟨y,hy,h3⟩:=A97 e2 (by omega) h2;exact⟨y,mcm _ hy,h3⟩
section
variable {w:WD}{k:Nat}{S:AR}{fp:Prt->Nat->Prop}{rt lf cnt tot:Nat}{pg:Nat->Pg}{pin:Nat->Bool}{A:List Nat}{hh:Nat->List Nat}{tk:Nat->Tk}
theorem A8q(h:AO w k S fp)(hf:f<S.n):∃i,i<S.AK/\AU S.c i<=f/\(f:Int)<AU S.c (i+1):=by
 have key:∀q,q<=S.AK->(f:Int)<AU S.c q->∃i,i<q/\AU S.c i<=f/\(f:Int)<AU S.c (i+1):=λq=>by
  induction q with
  | zero=>intro _ h0;have:AU S.c 0=0:=rfl;omega
  | succ q ih=>
   intro hq h0;by_cases e:(f:Int)<AU S.c q
   .obtain⟨i,h1,h2⟩:=ih (by omega) e;exact⟨i,by omega,h2⟩
   .exact⟨q,by omega,by omega,h0⟩
 refine key S.AK (nlr _) ?_;have:=h.n4.1;unfold AR.AK;omega
theorem QSt.C4w(L:QSt S rt lf pg pin A hh tk cnt tot)(h:AO w k S fp)(hf:f<S.n)(hu:¬EE rt lf pg A hh f):f∈J9 (zsh S.Z.c S.L S.Z.k):=by
 obtain⟨_,hc,hk⟩:=h.zn;obtain⟨i,hi,h1,h2⟩:=A8q h hf;have hfi:=h.fst hi;obtain⟨x,hx,h3,h4⟩:=A97 (h.IQ hi) (f:=f-(AU S.c i).toNat) (Nat.zero_le _) (by omega);have hg:x.g=0:=by
  have hxt:=BI (h.IQ hi) hx;by_cases e:x.g=0
  .exact e
  .exfalso;have hg1:x.g=1:=by
    obtain⟨Z,_,hk'⟩:=h.zn;exact((Z.iv i (by omega)).g01 x hx).resolve_left e
   obtain⟨ho,hu'⟩:=L.tk1 i hi x hx hg1;rw [ho] at h4;have:gfr S i x=f:=by unfold gfr;omega
   exact hu (this▸hu')
 unfold J9;rw [List.mem_flatMap,hc,hk];exact⟨_,B6r hx hg hi,by rw [List.mem_range'];exact⟨f-((AU S.c i).toNat+x.p),by show _<2^x.o;omega,by show f=(AU S.c i).toNat+x.p+_;omega⟩⟩
theorem QSt.B84(L:QSt S rt lf pg pin A hh tk cnt tot)(h:AO w k S fp){y:Nat×Nat}(hy:y∈zsh S.Z.c S.L S.Z.k):y.2<=10/\y.1+2^y.2<=S.n/\∀f,y.1<=f->f<y.1+2^y.2->S.mks f=CX:=by
 obtain⟨_,hc,hk⟩:=h.zn;rw [hc] at hy;obtain⟨i,x,hi,hx,hg,rfl⟩:=A5t hy;have hi:i<S.AK:=by omega
 have hf:=h.fst hi;have hxt:=BI (h.IQ hi) hx;refine⟨hxt.2.2.2,by show(AU S.c i).toNat+x.p+2^x.o<=S.n;omega,λf h1 h2=>?_⟩;have h1:(AU S.c i).toNat+x.p<=f:=h1;have h2:f<(AU S.c i).toNat+x.p+2^x.o:=h2;refine L.mk3 f (by omega) λhu=>?_;obtain⟨j,z,hj,hz,hzg,he⟩:=L.tk2 f hu;have hzo:=(L.tk1 j hj z hz hzg).1;have hzt:=BI (h.IQ hj) hz;rw [hzo] at hzt;have hfj:=h.fst hj;unfold gfr at he;have:j=i:=CR h.my (f:=(f:Int)) (by unfold AR.AK at hj;exact hj) (by unfold AR.AK at hi;exact hi) (by omega) (by omega) (by omega) (by omega);subst this;have:x=z:=J0 (h.IQ hj) hx hz (f:=z.p) (by omega) (by omega) (nlr _) (by rw [hzo];omega);subst this;omega
theorem QSt.said(L:QSt S rt lf pg pin A hh tk cnt tot)(h:AO w k S fp):((LK (zsh S.Z.c S.L S.Z.k) (HJ hh S.AS) rt lf A pg).map Prod.fst).Nodup/\(∀f,f<S.n->f∈(LK (zsh S.Z.c S.L S.Z.k) (HJ hh S.AS) rt lf A pg).map Prod.fst)/\∀f,f∈(LK (zsh S.Z.c S.L S.Z.k) (HJ hh S.AS) rt lf A pg).map Prod.fst->f<S.n:=by
 have em:(LK (zsh S.Z.c S.L S.Z.k) (HJ hh S.AS) rt lf A pg).map Prod.fst=J9 (zsh S.Z.c S.L S.Z.k)++(HJ hh S.AS++(rt::lf::(A++pgF pg 32))):=by
  simp [LK,List.map_map,Function.comp_def]
 obtain⟨_,hc',hk⟩:=h.zn;have hcov:∀f,f<S.n->f∈(LK (zsh S.Z.c S.L S.Z.k) (HJ hh S.AS) rt lf A pg).map Prod.fst:=λf hf=>by
  rw [em];by_cases hu:EE rt lf pg A hh f
  .rw [List.mem_append];right;rcases hu with rfl|rfl|⟨j,e⟩|e|⟨i,e⟩
   .simp
   .simp
   .have:f∈pgF pg 32:=List.mem_filterMap.2 ⟨j,List.mem_range.2 (L.pgo j f e).1,by rw [e]⟩;simp [this]
   .simp [e]
   .have:f∈HJ hh S.AS:=OZ.2 ⟨i,Nat.lt_of_not_le λh=>(by rw [(L.hz i h).1] at e;cases e),e⟩;simp [this]
  .exact List.mem_append.2 (.inl (L.C4w h hf hu))
 have hlen:((LK (zsh S.Z.c S.L S.Z.k) (HJ hh S.AS) rt lf A pg).map Prod.fst).length=S.n:=by
  have hcf:=L.cf;have hcp:=L.cp;rw [<- RY] at hcp;have e1:=A3i hh S.AS;rw [em,lap,lap,A3r,A5s,hk,e1,List.length_cons,List.length_cons,lap,hcp];omega
 refine⟨QY _ _ hcov hlen,hcov,λf hf=>?_⟩;obtain⟨hrt,hlf,_⟩:=L.rl;rw [em] at hf;simp only [List.mem_append,List.mem_cons] at hf;rcases hf with hf|hf|rfl|rfl|hf|hf
 .obtain⟨y,hy,hfy⟩:=List.mem_flatMap.1 hf;obtain⟨_,h2,_⟩:=L.B84 h hy;obtain⟨i,hi,rfl⟩:=List.mem_range'.1 hfy;omega
 .obtain⟨i,_,hf⟩:=OZ.1 hf;exact(L.hdr i f hf).1
 .exact hrt
 .exact hlf
 .exact(L.Ao f hf).1
 .obtain⟨j,_,hj⟩:=List.mem_filterMap.1 hf
  cases e:pg j with
  | fr g=>rw [e] at hj;cases hj;exact(L.pgo j f e).2.1
  | no=>rw [e] at hj;cases hj
  | sl s=>rw [e] at hj;cases hj
