/- Part of a proof that a law returns true. Conditions: those in each theorem. -/
import Derived.Test.YtdgbechegbmpcaaGreatDoorQ28
import Derived.Test.YtdgbechegbmpcaaGreatDoorEngP
import Derived.Test.YtdgbechegbmpcaaGreatDoorB0
import Derived.Test.YtdgbechegbmpcaaGreatDoorSV7
set_option linter.unusedSimpArgs false
set_option linter.unusedVariables false
set_option maxRecDepth 100000
namespace Go.Proofs.YtdgbechegbmpcaaGreatDoor
open Go Go.Eng Go.Proofs.Tryz
structure CL(w:WD)(a:OA)(l:Nat)(f:Nat->Int):Prop where
 p:0<l->isP a=true/\pb a<w.heap.size
 at':∀i,i<l->rd w (pb a) (po a+i)=some (vi (f i))
theorem CL.kx{X:NP}{w w':WD}{a:OA}{l:Nat}{f:Nat->Int}(h:CL w a l f)(k:Kept X w w')(hx:0<l->¬X (pb a)):CL w' a l f:=
 ⟨fun hl=>⟨(h.p hl).1,nll (h.p hl).2 k.sz⟩,fun i hi=>k.rd_some (h.at' i hi) (hx (by omega))⟩
theorem CL.k{w w':WD}{a:OA}{l:Nat}{f:Nat->Int}(h:CL w a l f)(k:Kept AB w w'):CL w' a l f:=h.kx k fun _ e=>e
theorem nums_has{w:WD}{a:OA}{l c:Nat}{f:Nat->Int}(h:CL w a l f)(hl:l<=1000)(n:Int):Calls prog 17 #[.slice a l c,vi n] w fun e w'=>e=.returned (.bool (decide (∃i,i<l/\f i=n)))/\w'=w:=by
 refine(vc17 a l c n w (fun v w'=>v=.bool (decide (∃i,i<l/\f i=n))/\w'=w) ?_).mono ?_
 rotate_left
 ·rintro e w' ⟨v,rfl,rfl,h⟩;exact⟨rfl,h⟩
 unfold Q;refine⟨fun _ k W N=>∃q:Nat,k=q/\q<=l/\N=l-q/\W=w/\∀i,i<q->f i≠n,⟨l,0,rfl,by omega,rfl,rfl,fun i hi=>absurd hi (nlz _)⟩,?_⟩;rintro _ _ W _ ⟨q,rfl,hq,rfl,rfl,hv⟩;refine AE (fun hc=>?_) (fun hc=>?_)
 ·simp only [decide_eq_true_eq] at hc;have hql:q<l:=by omega
  refine AA (h.p (by omega)).1 (Wi ⟨f q,by rw [tnc,mo];exact h.at' q hql,AE (fun he=>?_) (fun he=>?_)⟩)
  ·have he:f q=n:=by simpa using he
   refine⟨?_,rfl⟩;rw [decide_eq_true (⟨q,hql,he⟩:∃i,i<l/\f i=n)]
  ·have he:f q≠n:=by simpa using he
   refine⟨l-(q+1),by omega,q+1,wzz,by omega,rfl,rfl,fun i hi=>?_⟩;by_cases e:i=q
   ·rw [e];exact he
   ·exact hv i (by omega)
 ·simp only [decide_eq_false_iff_not] at hc;have:q=l:=by omega
  subst this;refine⟨?_,rfl⟩;rw [decide_eq_false fun⟨i,hi,he⟩=>hv i hi he]
structure Stg(w0:WD)(k:Nat)(S:AL)(fp:Prt->Nat->Prop)(FR:NP)(w:WD):Prop where
 X:Ctx k S fp FR w
 kp:Kept AB w0 w
 lo:∀x,Fo fp FR x->w0.heap.size<=x
section
variable {w0 w w':WD}{k:Nat}{S S':AL}{fp:Prt->Nat->Prop}{FR:NP}
theorem Stg.step(h:Stg w0 k S fp FR w)(T:Step w w' k S' fp):∃fp',Stg w0 k S' fp' FR w'/\Kept (fun x=>¬FR x) w w':=by
 obtain⟨fp',X',L,k1,k2⟩:=h.X.step T;refine⟨fp',⟨X',BD h.kp k1 fun x ⟨p,hp⟩=>h.lo x (.inl ⟨p,hp⟩),fun x hx=>?_⟩,L.kp⟩;rcases k2 x hx with h1|h1
 ·exact h.lo x h1
 ·have:=h.kp.sz;have:=h1.1;omega
theorem Stg.DY(h:Stg w0 k S fp FR w)(kk:Kept FR w w'):Stg w0 k S fp FR w':=
 ⟨h.X.DY kk,BD h.kp kk fun x hx=>h.lo x (.inr hx),h.lo⟩
theorem Stg.quiet(h:Stg w0 k S fp FR w)(kk:Kept AB w w'):Stg w0 k S fp FR w':=h.DY (kk.mono fun _ _ e=>e.elim)
theorem Stg.more(h:Stg w0 k S fp FR w)(kk:Kept FR w w'):Stg w0 k S fp (fun x=>FR x\/rng w w' x) w':=
 ⟨h.X.fresh kk,BD h.kp kk fun x hx=>h.lo x (.inr hx),fun x hx=>by
  rcases hx with hx|hx|hx
  ·exact h.lo x (.inl hx)
  ·exact h.lo x (.inr hx)
  ·have:=h.kp.sz;have:=hx.1;omega⟩
end
abbrev AL.setPins(S:AL)(x:Nat):AL:={S with pins:=upd S.pins 1 x}
section
variable {w w':WD}{k:Nat}{S:AL}{fp:Prt->Nat->Prop}
theorem core_put(h:AJ w k S fp){b:Nat}(hb:S.sp 1=some b){p:Nat}(hp:p<32) :
 ∃pb',rd w k 106=some (ptr b)/\rd w b 2=some (ptr pb')/\Calls prog 40 #[ptr pb',vi p] w fun e w'=>(∃n,e=.returned (vi n))/\Step w w' k (S.setPins (S.pins 1 ||| 2^p)) fp:=by
 have SP:EX w (fp (.space 1)) b (S.root 1) (S.pins 1):=h.at' (.space 1) b hb;obtain⟨ab,pb',wb,mb,a1,a2,a3,a4,a5,f1,f2,f3,f4,f5⟩:=SP.ex;have hx:=SP.lt;have hne:pb'≠wb:=fun e=>by
  subst e;have:=a3.rd 0;rw [a4.rd] at this
  cases this
 refine⟨pb',?_,by rw [a1.rd];rfl,(put_spec a3 a4 hx hp hne).mono ?_⟩
 ·have:=h.rt (j:=12) (v:=spV (S.sp 1)) rfl;rw [hb] at this;exact this
 rintro e w' ⟨n,rfl,kk,o⟩;have hlt:S.pins 1 ||| 2^p<4294967296:=by
  have:2^p<2^32:=Nat.pow_lt_pow_right (by decide) hp;exact Nat.or_lt_two_pow (n:=32) hx this
 have n1:b≠wb:=fun e=>by
  subst e;have:=a1.rd 0;rw [a4.rd] at this
  cases this
 have n2:ab≠wb:=fun e=>by
  subst e;have:=a2.rd 0;rw [a4.rd] at this
  cases this
 refine⟨⟨n,rfl⟩,h.FD (.space 1) kk (fun x e=>e▸f4) rfl (fun q F w hq hp=>?_) ?_⟩
 ·cases q with
  | space i=>
   intro b' hb';have:i≠1:=fun e=>hq (by rw [e])
   show EX w F b' (S.root i) (upd S.pins 1 _ i)
   rw [AH _ _ this];exact hp b' hb'
  | _=>exact hp
 ·intro b' hb';have:b'=b:=by have hb':S.sp 1=some b':=hb';rw [hb] at hb';exact(Option.some.inj hb').symm
  subst this
  show EX w' _ b' (S.root 1) (upd S.pins 1 _ 1)
  rw [upd_same];exact⟨hlt,ab,pb',wb,mb,a1.kx kk n1,a2.kx kk n2,a3.kx kk hne,o,a5.kx kk (fun e=>by
   obtain⟨es,cl,h1,_⟩:=a5.ex;obtain⟨et,h2⟩:=a4;rw [e,h2] at h1
   cases h1),.inl f1,.inl f2,.inl f3,.inl f4,.inl f5⟩
theorem QSt.pinned{rt lf hc cnt tot:Nat}{pg:Nat->Pg}{pin:Nat->Bool}{A:List Nat}{hd:Option Nat}(L:QSt S rt lf pg pin A hc hd cnt tot){p:Nat}(hp:p<32)(hf:∃f,pg p=.fr f):QSt (S.setPins (S.pins 1 ||| 2^p)) rt lf pg (upd pin p true) A hc hd cnt tot:=
 {L with
  pinE:=fun j hj=>by
   show(upd S.pins 1 (S.pins 1 ||| 2^p) 1).testBit j=_
   rw [upd_same,Nat.testBit_or,Nat.testBit_two_pow,L.pinE j hj];by_cases e:p=j
   ·subst e;rw [upd_same];simp
   ·rw [AH _ _ (Ne.symm e)];simp [e]
  pinF:=fun j e=>by
   by_cases e2:j=p
   ·subst e2;exact hf
   ·rw [AH _ _ e2] at e;exact L.pinF j e}
end
def BP.pre(B:BP)(β:Nat->Nat):List Value:=[ptr B.kp,ptr (β 5)]++(AK .i64 B.x0 0 94++([Value.slice B.pa B.pl B.pc,Value.slice B.ia B.il B.ic]++AK .i64 B.x96 0 8))
theorem BP.MR{B:BP}{β:Nat->Nat}:(B.pre β).length=106:=by simp [BP.pre,AI]
def BP.wr(B:BP)(β:Nat->Nat)(r l:Int)(tv:Value):List Value:=B.pre β++[vi r,vi l,tv,sq (β 9) B.n,sq (β 13) B.n,sq (β 17) B.n,sq (β 21) B.n]
theorem BP.wr_len{B:BP}{β:Nat->Nat}{r l:Int}{tv:Value}:(B.wr β r l tv).length=113:=by simp [BP.wr,BP.MR]
theorem BP.wc_wr{B:BP}{β:Nat->Nat}:B.wc β=B.wr β 0 0 nl:=by simp [BP.wc,BP.wr,BP.pre]
theorem BP.wr_set{B:BP}{β:Nat->Nat}{r l:Int}{tv v:Value}{i:Nat}:(B.wr β r l tv).set (106+i) v=B.pre β++[vi r,vi l,tv,sq (β 9) B.n,sq (β 13) B.n,sq (β 17) B.n,sq (β 21) B.n].set i v:=by
 unfold BP.wr;rw [List.set_append_right _ _ (by rw [BP.MR];omega),BP.MR,Nat.add_sub_cancel_left]
def BT(B:BP)(β:Nat->Nat)(x:Nat):Prop:=x=B.cb\/x=β 5\/x=β 25\/x=β 9\/x=β 13\/x=β 17\/x=β 21\/x=β 23
structure DQ(W:WD)(B:BP)(β:Nat->Nat)(r l:Int)(tv:Value):Prop where
 so:own W (β 23) (B.wr β r l tv)
 t:own W (β 5) [sq (β 25) B.n]
 ts:own W (β 25) (CU B.n fun _=>[.nilFunc,vi 0])
 g:own W (β 9) (List.replicate B.n nl)
 n:own W (β 13) (List.replicate B.n (vi 0))
 a:own W (β 17) (List.replicate B.n (vi 0))
 c:own W (β 21) (List.replicate B.n (vi 0))
 x:own W B.cb B.xc
 ne:∀x,x=B.cb\/x=β 5\/x=β 25\/x=β 9\/x=β 13\/x=β 17\/x=β 21->x≠β 23
section
variable {W W':WD}{B:BP}{β:Nat->Nat}{r l:Int}{tv:Value}
theorem DQ.kx(h:DQ W B β r l tv){X:NP}(kk:Kept X W W')(hX:∀x,BT B β x->¬X x):DQ W' B β r l tv:=
 ⟨h.so.kx kk (hX _ (by simp [BT])),h.t.kx kk (hX _ (by simp [BT])),h.ts.kx kk (hX _ (by simp [BT])),h.g.kx kk (hX _ (by simp [BT])),h.n.kx kk (hX _ (by simp [BT])),h.a.kx kk (hX _ (by simp [BT])),h.c.kx kk (hX _ (by simp [BT])),h.x.kx kk (hX _ (by simp [BT])),h.ne⟩
theorem DQ.k(h:DQ W B β r l tv)(kk:Kept AB W W'):DQ W' B β r l tv:=h.kx kk fun _ _ e=>e
theorem DQ.set(h:DQ W B β r l tv){r' l':Int}{tv' v:Value}{i:Nat}(hi:[vi r,vi l,tv,sq (β 9) B.n,sq (β 13) B.n,sq (β 17) B.n,sq (β 21) B.n].set i v=[vi r',vi l',tv',sq (β 9) B.n,sq (β 13) B.n,sq (β 17) B.n,sq (β 21) B.n])(e:W'=st W (β 23) (106+i) v):DQ W' B β r' l' tv'/\Kept (·=β 23) W W':=by
 have kk:Kept (·=β 23) W W':=kr.s1 e (.inl rfl);have o:=h.so.s1 e;rw [BP.wr_set,hi] at o;have ne:=h.ne;exact⟨⟨o,h.t.kx kk (ne _ (by simp)),h.ts.kx kk (ne _ (by simp)),h.g.kx kk (ne _ (by simp)),h.n.kx kk (ne _ (by simp)),h.a.kx kk (ne _ (by simp)),h.c.kx kk (ne _ (by simp)),h.x.kx kk (ne _ (by simp)),ne⟩,kk⟩
theorem DQ.wr(h:DQ W B β r l tv){i:Nat}(hi:i<3):Eng.wr W (β 23) (106+i):=h.so.wr (by rw [BP.wr_len];omega)
theorem DQ.tail(h:DQ W B β r l tv){i:Nat}{v:Value}(hv:[vi r,vi l,tv,sq (β 9) B.n,sq (β 13) B.n,sq (β 17) B.n,sq (β 21) B.n][i]? = some v):rd W (β 23) (106+i)=some v:=by
 rw [h.so.rd];unfold BP.wr;rw [gar (by rw [BP.MR];omega),BP.MR,Nat.add_sub_cancel_left];exact hv
theorem DQ.r1(h:DQ W B β r l tv):rd W (β 23) 1=some (ptr (β 5)):=by
 rw [h.so.rd];rfl
theorem DQ.cx(h:DQ W B β r l tv){i:Nat}(hi:i<94):rd W B.cb i=some (vi (B.x0 i)):=by
 rw [h.x.rd];unfold BP.xc;rw [gal (by rw [AI];exact hi),AT _ _ _ _ _ hi,za]
theorem DQ.cp(h:DQ W B β r l tv):rd W B.cb 94=some (.slice B.pa B.pl B.pc):=by
 rw [h.x.rd];rfl
theorem DQ.ci(h:DQ W B β r l tv):rd W B.cb 95=some (.slice B.ia B.il B.ic):=by
 rw [h.x.rd];rfl
theorem DQ.c9(h:DQ W B β r l tv){i:Nat}(hi:i<8):rd W B.cb (96+i)=some (vi (B.x96 i)):=by
 rw [h.x.rd];unfold BP.xc;rw [gar (by rw [AI];omega),AI,show 96+i-94=2+i by omega,gar (by simp),show 2+i-[Value.slice B.pa B.pl B.pc,Value.slice B.ia B.il B.ic].length=i by simp,AT _ _ _ _ _ hi,za]
end
structure Lay(w0:WD)(B:BP)(β:Nat->Nat)(S:AL)(fp:Prt->Nat->Prop)(FR:NP)(r l:Int)(ta:OA)(tl tc:Nat)(A:List Nat)(W:WD):Prop where
 G:Stg w0 B.kp S fp FR W
 R:DQ W B β r l (.slice ta tl tc)
 DY:∀x,BT B β x->FR x
 row:EK W ta tl tc (A.map fun x:Nat=>(x:Int))
 rowF:∀x,(Value.slice ta tl tc).ownBlock=some x->FR x/\¬BT B β x
section
variable {w0 W W':WD}{B:BP}{β:Nat->Nat}{S S':AL}{fp:Prt->Nat->Prop}{FR:NP}{r l:Int}{ta:OA}{tl tc:Nat}{A:List Nat}
theorem Lay.step(h:Lay w0 B β S fp FR r l ta tl tc A W)(T:Step W W' B.kp S' fp):∃fp',Lay w0 B β S' fp' FR r l ta tl tc A W':=by
 obtain⟨fp',G',kk⟩:=h.G.step T;exact⟨fp',G',h.R.kx kk fun x hx e=>e (h.DY x hx),h.DY,h.row.kx kk fun x e hx=>e (h.rowF x hx).1,h.rowF⟩
theorem Lay.quiet(h:Lay w0 B β S fp FR r l ta tl tc A W)(kk:Kept AB W W'):Lay w0 B β S fp FR r l ta tl tc A W':=
 ⟨h.G.quiet kk,h.R.k kk,h.DY,h.row.k kk,h.rowF⟩
theorem Lay.set(h:Lay w0 B β S fp FR r l ta tl tc A W){r' l':Int}{v:Value}{i:Nat}(hi:[vi r,vi l,Value.slice ta tl tc,sq (β 9) B.n,sq (β 13) B.n,sq (β 17) B.n,sq (β 21) B.n].set i v=[vi r',vi l',Value.slice ta tl tc,sq (β 9) B.n,sq (β 13) B.n,sq (β 17) B.n,sq (β 21) B.n])(e:W'=st W (β 23) (106+i) v):Lay w0 B β S fp FR r' l' ta tl tc A W':=by
 obtain⟨R',kk⟩:=h.R.set hi e;exact⟨h.G.DY (kk.mono fun x _ e=>e▸h.DY _ (by simp [BT])),R',h.DY,h.row.kx kk fun x e hx=>(h.rowF x hx).2 (by rw [e];simp [BT]),h.rowF⟩
theorem Lay.note(h:Lay w0 B β S fp FR r l ta tl tc A W){f:Nat}{w1:WD}(e1:w1=W.alloc (.cells #[vi (f:Nat)] 3))(hl:A.length<=2000) :
 ∃a' l' c' w2,BF prog #[27,27] 27 (.slice ta tl tc) (.slice (some ⟨W.heap.size,0,none⟩) 1 1) (.slice a' l' c') w1 w2/\Eng.wr w2 (β 23) 108/\∀w3,w3=st w2 (β 23) 108 (.slice a' l' c')->∃FR',Lay w0 B β S fp FR' r l a' l' c' (A++[f]) w3:=by
 have k1:=kal e1;have L1:=h.quiet k1;have o1:own w1 W.heap.size [vi (f:Nat)]:=AD (c:=[vi (f:Nat)]) e1;obtain⟨a',c',w2,happ,row2,k2,hb⟩:=L1.row.app1 o1 (by rw [lmp];omega);have G2:=L1.G.more (w':=w2) (k2.mono fun x _ hx=>(h.rowF x hx).1);have R2:=L1.R.kx k2 fun x hx e=>(h.rowF x e).2 hx;refine⟨a',tl+1,c',w2,happ,R2.wr (i:=2) (by decide),fun w3 e3=>?_⟩;obtain⟨R3,k3⟩:=R2.set (i:=2) (r':=r) (l':=l) (tv':=.slice a' (tl+1) c') rfl e3;have hnew:∀x,(Value.slice a' (tl+1) c').ownBlock=some x->(FR x\/rng w1 w2 x)/\¬BT B β x:=fun x hx=>by
  rcases hb with hb|hb
  ·rw [hb] at hx;exact⟨.inl (h.rowF x hx).1,(h.rowF x hx).2⟩
  ·have h1:=hb x hx;refine⟨.inr ⟨h1,row2.lt hx⟩,fun hm=>?_⟩;have:=L1.G.X.lt x (h.DY x hm);omega
 refine⟨_,G2.DY (k3.mono fun x _ e=>.inl (e▸h.DY _ (by simp [BT]))),R3,fun x hx=>.inl (h.DY x hx),?_,hnew⟩;rw [FU];exact row2.kx k3 fun x e hx=>(hnew x hx).2 (by rw [e];simp [BT])
end
end Go.Proofs.YtdgbechegbmpcaaGreatDoor
namespace Go.Proofs.YtdgbechegbmpcaaGreatDoor
open Go Go.Eng Go.Proofs.Tryz
open Go.Value (bool func)
open Option (isNone)
open Go.IntKind (wrap)
theorem vc10(x0:Nat->Int)(x94:OA)(x94L x94C:Nat)(x95:OA)(x95L x95C:Nat)(x96:Nat->Int)(w:WD)(K:KV)(h:Q (AW w (List.toArray (AK .i64 x0 0 94++([sl x94 x94L x94C,sl x95 x95L x95C]++AK .i64 x96 0 8))) 29 fun w'=>∃(x:Nat->Int),AS w' w.heap.size 0 (AK .i64 x 0 94)/\Calls prog 31 #[Value.agg (List.toArray (AK .i64 x 0 94))] w' fun e w'=>∃(p:OA) (n:Int),e=rT (.tuple #[pt p,vi n])/\Wif (isNone p||n != 0) (K (.tuple #[pt none,bool false,bool false]) w') (∃(I:OA->WD->Prop),SemReg prog (Eng.regOps Tryz.f10 4) [34,35,36,37,38,39,40,41,42,43,44,45,46,47,48,49,50,51,52,53,54,55,56,57,7] [some (Ent.mk none (Value.agg (List.toArray (AK .i64 x0 0 94++([sl x94 x94L x94C,sl x95 x95L x95C]++AK .i64 x96 0 8)))) none),some (Ent.mk none (ptr w.heap.size) none),some (Ent.mk none (pt none) none),some (Ent.mk none (bool false) (some false)),some (Ent.mk none (bool false) (some false)),some (Ent.mk none (pt p) none),some (Ent.mk none (vi n) none),none,none,none,none,none,none,none,none,none,none,none,none,none,none,none,some (Ent.mk none (Value.tuple #[pt p,vi n]) none),some (Ent.mk none (ptr w.heap.size) none),some (Ent.mk none (Value.agg (List.toArray (AK .i64 x 0 94))) none),some (Ent.mk none (Value.tuple #[pt p,vi n]) none),some (Ent.mk none (pt p) none),some (Ent.mk none (vi n) none),some (Ent.mk none (pt p) none),some (Ent.mk none (bool (isNone p)) none),some (Ent.mk none (bool (isNone p)) none),none,none,some (Ent.mk none (bool (isNone p||n != 0)) none),none,none,none,none,none,none,none,none,none,none,none,none,none,none,none,none,none,none,none,none,none,none,none,none,none,none,none,none,none,none,none,none,none,none,none,none,none,none,none,none,none,none,none,none,none,none,none,none,none,none,none,none,none,none,none,none,none,none,none,none,none,none,none,none,none,none,none,none,none,none,none,none,none,none,none,none,none,none,none,none,none,none,none,none,none,none,none,none,none,none,none,none,none,none,none,none,none,none,none,none,none,none,none,none,none,none,none,none,none,none,none,none,none,none,none,none,none,none,none,none,none,none,none,none,none,none,none,none,none,none,none,none,none,none,none,none,none,none,none,none,none,none,none,none,none,none,none,none,none,none,none,none,none,none,none,none,none,none,none,none,none,none,none,none,none,none,none,none,none,none,none,none,none,none,none,none,none,none,none,none,none,none,none,none,none,none,none,none,none,none,none,none,none,none,none,none,none,none,none,none,none,none,none,none,none,none,none,none,none,none,none,none,none,none,none,none,none,none,none,none,none,none,none,none,none,none,none] [(7,Shp.ptr)] I w'/\∀(d:OA) (w':WD),I d w'->Wp p (Rp w' p 95 fun x=>CJ 33 #[pt x,vi 0,vi 0,bool false] w' fun n o w'=>Wp p (Rp w' p 95 fun x=>CJ 33 #[pt x,vi 0,vi 0,bool false] w' fun k q w'=>∃(I:Bool->WD->Prop),gIf (isP d) ((o != 0||q != 0)=false) (∃(x:OA),((o != 0||q != 0)=false->rd w' (pb d) (po d+1)=some (.pointer x))/\gIf (isP p) ((o != 0||q != 0||isNone x||n==k)=false) (∃(r:OA),((o != 0||q != 0||isNone x||n==k)=false->rd w' (pb p) (po p+94)=some (.pointer r))/\Wif (o != 0||q != 0||isNone x||n==k) (I true w') (CI 34 #[pt r,vi n,Value.agg #[vu 3,vi 0,vi 0,vi 0,vi 0]] w' fun n w'=>gIf (isP p) ((n != 0)=false) (∃(x:OA),((n != 0)=false->rd w' (pb p) (po p+94)=some (.pointer x))/\Wif (n != 0) (I true w') (CI 34 #[pt x,vi k,Value.agg #[vu 3,vi 0,vi 0,vi 0,vi 0]] w' fun n w'=>I (n != 0) w')))))/\∀(b:Bool) (w':WD),I b w'->Wif b (K (.tuple #[pt none,bool false,bool false]) w') (Wp d (Sw w' (pb d) (po d+106) (vi n) fun G=>Wp d (Sw G (pb d) (po d+107) (vi k) fun w'=>∃(I:WD->Prop),(Dr w' fun A=>Wp p (CP 35 #[vi n] A fun s w'=>Sw w' (pb p) (po p+106) (pt s) fun i=>I i))/\∀(w':WD),I w'->Wp p (Rp w' p 106 fun x=>gIf (isP p) (isNone x=false) (∃(r:OA),(isNone x=false->rd w' (pb p) (po p+94)=some (.pointer r))/\Wif (isNone x) (K (.tuple #[pt none,bool false,bool false]) w') (CI 36 #[pt r,vi n,vi 0,vi k] w' fun n w'=>Wif (n != 0) (K (.tuple #[pt none,bool false,bool false]) w') (RI w' w.heap.size 0 fun x=>∃(I:Int->WD->Nat->Prop),(∃(n:Nat),I 0 w' n)/\∀(n:Int) (w':WD) (B:Nat),I n w' B->Wif (decide (n<x)) (∃(j:Int->WD->Nat->Prop),(∃(n:Nat),j 0 w' n)/\∀(g:Int) (w':WD) (t:Nat),j g w' t->Wn n 8 (RI w' w.heap.size (96+Int.toNat n*1) fun x=>Wif (decide (g<x)&&decide (g<128)) (Wp p (Rp w' p 95 fun x=>CJ 33 #[pt x,vi n,vi 0,bool false] w' fun y h w'=>Wif (h != 0) (Lt B fun m=>I (wrap .i64 (n+1)) w' m) (Wp p (Rp w' p 94 fun x=>CI 34 #[pt x,vi y,Value.agg #[vu 3,vi 0,vi 0,vi 0,vi 0]] w' fun n w'=>Wp d (Rs w' d 108 fun x z D=>AW w' #[vi y] 3 fun i=>∃(a:OA) (l c:Nat) (f:WD),BF prog #[27,27] 27 (sl x z D) (sl (aD w'.heap.size) 1 1) (sl a l c) i f/\Wp d (Sw f (pb d) (po d+108) (sl a l c) fun w'=>Lt t fun m=>j (wrap .i64 (g+1)) w' m)))))) (Lt B fun m=>I (wrap .i64 (n+1)) w' m))) (RS w' w.heap.size 94 fun x z D=>∃(I:OA->Bool->Bool->Int->WD->Nat->Prop),(∃(n:Nat),I none false false 0 w' n)/\∀(s:OA) (b C:Bool) (n:Int) (w':WD) (g:Nat),I s b C n w' g->Wif (decide (n<(↑z:Int))) (Wp x (Wn n z (Ri w' x (Int.toNat n*1) fun u=>Dr w' fun A=>Wp p (Rp A p 95 fun x=>RI A w.heap.size 1 fun E=>Wif (E != 0) (CS 20 #[pt p,vi (Int.tmod n E),vi 1,vi u] A fun a l c w'=>Rt w' (pb p) (po p+95) (.pointer x)<|CJ 37 #[pt x,sl a l c,vi 0,bool true] w' fun t y w'=>Wif (y != 0) (K (.tuple #[pt d,bool false,bool true]) w') (AW w' (List.toArray (List.replicate 256 (vu 0))) 5 fun i=>∃(j:Int->WD->Nat->Prop),(∃(n:Nat),j 0 i n)/\∀(h:Int) (f:WD) (F:Nat),j h f F->Wif (decide (h<256)) (Wn h 256 (Sw f w'.heap.size (0+Int.toNat h*1) (vu (wrap .u8 (wrap .i64 (u+h)))) fun H=>Lt F fun m=>j (wrap .i64 (h+1)) H m)) (Wp p (Rp f p 94 fun x=>CI 38 #[pt x,vi t,vi 0,sl (aD w'.heap.size) 256 256] f fun J w'=>Wif (J != 0) (K (.tuple #[pt none,bool false,bool false]) w') (CI 39 #[pt p,vi 1,vi u,vi t] w' fun L w'=>Wif (L != 0) (K (.tuple #[pt none,bool false,bool false]) w') (RS w' w.heap.size 95 fun x M O=>CB 17 #[sl x M O,vi u] w' fun P w'=>Wif P (Wp p (Rp w' p 106 fun x=>Wp x (Rp w' x 2 fun Q=>CI 40 #[pt Q,vi u] w' fun R w'=>Lt g fun m=>I s b C (wrap .i64 (n+1)) w' m))) (Lt g fun m=>I s b C (wrap .i64 (n+1)) w' m))))))) False)))) (K (.tuple #[pt d,bool true,bool true]) w')))))))))))))):Ret 10 #[Value.agg (List.toArray (AK .i64 x0 0 94++sl x94 x94L x94C::sl x95 x95L x95C::AK .i64 x96 0 8))] w K:=vcA [] 1 [5000004,100400071,4000007,100701114,4000010] func10 h
end Go.Proofs.YtdgbechegbmpcaaGreatDoor
namespace Go.Proofs.YtdgbechegbmpcaaGreatDoor
open Go Go.Eng Go.Proofs.Tryz
structure CaseOk(w:WD)(x0:Nat->Int)(pa:OA)(pl:Nat)(ia:OA)(il:Nat)(pf nf:Nat->Int):Prop where
 my:CW x0
 lp:pl<=32
 ln:il<=64
 pg:CL w pa pl pf
 pn:CL w ia il nf
 rg:∀i,i<pl->0<=pf i/\pf i<=31
 inj:∀i j,i<pl->j<pl->pf i=pf j->i=j
section
variable {B:BP}{β:Nat->Nat}
def JS:List Nat:=[5,25,9,13,17,21,23]
theorem BFin.dj{w2 w3:WD}(F:BFin B w2 β w3):∀s∈JS,∀t∈JS,s≠t->β s≠β t:=by
 have t3:β 5≠β 25:=(F.f 5 (by decide)).1.2.2;have hb:∀s∈JS,ownB s<25/\s∈IT (ownB s):=by decide
 intro s hs t ht hne;by_cases e:ownB s=ownB t
 ·have:∀s∈JS,∀t∈JS,s≠t->ownB s=ownB t->(s=5/\t=25)\/(s=25/\t=5):=by decide
  rcases this s hs t ht hne e with⟨rfl,rfl⟩|⟨rfl,rfl⟩
  ·exact t3
  ·exact Ne.symm t3
 ·exact F.inj _ _ (hb s hs).1 (hb t ht).1 e s (hb s hs).2 t (hb t ht).2
end
structure Begun(w0:WD)(pf nf:Nat->Int)(B:BP)(β:Nat->Nat)(S:AL)(fp:Prt->Nat->Prop)(FR:NP)(rt lf:Nat)(pg:Nat->Pg)(pin:Nat->Bool)(ta:OA)(tl tc:Nat)(A:List Nat)(W:WD):Prop where
 L:Lay w0 B β S fp FR rt lf ta tl tc A W
 Q:∀hc,QSt S rt lf pg pin A hc none B.pl B.pl
 c:S.c=B.x0
 n:B.n=S.AO
 pg1:∀j,(∃f,pg j=.fr f)↔∃i,i<B.pl/\pf i=j
 pg2:∀j,pg j=.no\/∃f,pg j=.fr f
 pn:∀j,pin j=true↔(∃i,i<B.pl/\pf i=j)/\∃i,i<B.il/\nf i=j
 dj:∀s∈JS,∀t∈JS,s≠t->β s≠β t
 a0:(∀i,i<8->B.x96 i<=0)->A=[]
theorem takeR_ne{l l':List Bk}{o:Int}{high:Bool}{a e:Int}(T:ES l o high a e l')(he:e≠0):l'=l:=by
 rcases T with⟨_,_,_,h⟩|⟨_,_,_,_,_,_,h⟩|⟨_,_,_,_,_,_,_,_,_,_,_,h,_⟩
 ·exact h
 ·exact h
 ·exact absurd h he
theorem upd_self{α:Type}(f:Nat->α)(i:Nat):upd f i (f i)=f:=by
 funext t;by_cases e:t=i
 ·subst e;rw [upd_same]
 ·rw [AH _ _ e]
theorem lay_of{w w2 w3:WD}{B:BP}{β:Nat->Nat}{S:AL}{fp:Prt->Nat->Prop}(C:AJ w2 B.kp S fp)(k2:Kept AB w w2)(hcb:own w2 B.cb B.xc)(hcl:w.heap.size<=B.cb)(hfp:∀p x,fp p x->B.cb<x)(F:BFin B w2 β w3) :
 Lay w B β S fp (BT B β) 0 0 none 0 0 [] w3:=by
 have f5:=F.f 5 (by decide);have f9:=F.f 9 (by decide);have f13:=F.f 13 (by decide);have f17:=F.f 17 (by decide);have f21:=F.f 21 (by decide);have f23:=F.f 23 (by decide);obtain⟨⟨t1,t2,t3⟩,t4⟩:=f5;have o23:own w3 (β 23) (B.wr β 0 0 nl):=BP.wc_wr▸f23.1;have o9:own w3 (β 9) _:=f9.1;have o13:own w3 (β 13) _:=f13.1;have o17:own w3 (β 17) _:=f17.1;have o21:own w3 (β 21) _:=f21.1;have g5:=t4 5 (by decide);have g25:=t4 25 (by decide);have g9:=f9.2 9 (by decide);have g13:=f13.2 13 (by decide);have g17:=f17.2 17 (by decide);have g21:=f21.2 21 (by decide);have g23:=f23.2 23 (by decide);have hc:=hcb.lt;have s2:=k2.sz;have I:∀i j,i<25->j<25->i≠j->∀s∈IT i,∀t∈IT j,β s≠β t:=F.inj;have i5:=I 5 23 (by decide) (by decide) (by decide) 5 (by decide) 23 (by decide);have i25:=I 5 23 (by decide) (by decide) (by decide) 25 (by decide) 23 (by decide);have i9:=I 9 23 (by decide) (by decide) (by decide) 9 (by decide) 23 (by decide);have i13:=I 13 23 (by decide) (by decide) (by decide) 13 (by decide) 23 (by decide);have i17:=I 17 23 (by decide) (by decide) (by decide) 17 (by decide) 23 (by decide);have i21:=I 21 23 (by decide) (by decide) (by decide) 21 (by decide) 23 (by decide);have hm:∀x,BT B β x->w.heap.size<=x/\x<w3.heap.size/\(x=B.cb\/w2.heap.size<=x):=by
  have s3:=F.kp.sz;rintro x (rfl|rfl|rfl|rfl|rfl|rfl|rfl|rfl)
  ·exact⟨hcl,by omega,.inl rfl⟩
  ·exact⟨by omega,t1.lt,.inr g5⟩
  ·exact⟨by omega,t2.lt,.inr g25⟩
  ·exact⟨by omega,o9.lt,.inr g9⟩
  ·exact⟨by omega,o13.lt,.inr g13⟩
  ·exact⟨by omega,o17.lt,.inr g17⟩
  ·exact⟨by omega,o21.lt,.inr g21⟩
  ·exact⟨by omega,o23.lt,.inr g23⟩
 refine⟨⟨⟨C.k F.kp,fun x hx=>(hm x hx).2.1,fun p x hp hx=>?_⟩,k2.tr F.kp,fun x hx=>?_⟩,⟨o23,t1,t2,o9,o13,o17,o21,hcb.k F.kp,?_⟩,fun _ h=>h,EK.MT,fun x hx=>by cases hx⟩
 ·have h1:=hfp p x hp;have h2:=(C.lt p x hp).2;rcases (hm x hx).2.2 with h3|h3
  ·omega
  ·omega
 ·rcases hx with⟨p,hp⟩|hx
  ·have:=hfp p x hp;omega
  ·exact(hm x hx).1
 ·rintro x (rfl|rfl|rfl|rfl|rfl|rfl|rfl)
  ·omega
  ·exact i5
  ·exact i25
  ·exact i9
  ·exact i13
  ·exact i17
  ·exact i21
theorem lfE_of{by'':Nat->Int}{n rt lf:Nat}{page:Int}(hn:n<=1024)(hr:rt<n)(hl:lf<n)(h0:wdF by'' n rt 0=1+4*(lf:Int))(hp:0<=page/\page<32):lfE by'' n rt page=0:=by
 have ht:Int.tdiv page 32=0:=by rw [Int.tdiv_eq_ediv_of_nonneg hp.1];omega
 have he:enE (1+4*(lf:Int))=0:=by unfold enE;rw [if_neg (by omega)]
 have hw:wdE n (rt:Int) 0=0:=DD;have hE:rdE by'' n (rt:Int) 0=0:=by unfold rdE;rw [if_neg (by omega),h0,he]
 have hK:rdK by'' n (rt:Int) 0=1:=by unfold rdK;rw [if_pos hE,h0];omega
 unfold lfE;rw [ht,if_neg (by omega),hE,if_neg (by omega),hK,if_neg (by omega),if_pos rfl]
section
variable {w:WD}{k:Nat}{S:AL}{fp:Prt->Nat->Prop}{rt lf hc cnt tot:Nat}{pg:Nat->Pg}{pin:Nat->Bool}{A:List Nat}
theorem QSt.may(L:QSt S rt lf pg pin A hc none cnt tot)(h:AJ w k S fp){i f p:Nat}{high:Bool}{l':List Bk}(hi:i<S.nodes)(h1:AN S.c i<=f)(T:ES (S.L i) 0 high ((f:Int)-AN S.c i) 0 l')(hp:p<32)(hpg:pg p=.no) :
 f<S.n/\ByR (wrB S.by' f (DO p))/\(∀kk v,S.rat.lookup kk=some v->∃x:Int,v=vi x)/\(f:Int)∉S.ring i/\lfE (wrB S.by' f (DO p)) S.n (S.root 1) p=0/\(S.rof f).1=0/\S.rat.lookup (1,(p:Int))=none:=by
 have hn:=h.n4;obtain⟨hnu,hfn,_,_⟩:=L.free h hi h1 T;obtain⟨hrt,hlf,_⟩:=L.rl;have hnj:∀j,pg j≠.fr f:=fun j e=>hnu (.inr (.inr (.inl ⟨j,e⟩)));have hfr:f≠rt:=fun e=>hnu (.inl e);refine⟨hfn,fun o=>?_,fun kk v e=>?_,fun e=>?_,?_,?_,?_⟩
 ·unfold wrB;split
  ·unfold DO;omega
  ·exact L.by' o
 ·obtain⟨_,g,_,_,e3⟩:=L.rat1 _ _ e;exact⟨_,e3⟩
 ·obtain⟨j,g,hj,hg,_⟩:=(L.ckm i hi _).1 e;have:f=g:=by omega
  subst this;exact hnj j hj
 ·rw [L.root];exact lfE_of (by omega) hrt hlf (by rw [wdF_wrB (by omega)];exact L.w0) (by omega)
 ·by_cases e:(S.rof f).1=0
  ·exact e
  ·obtain⟨j,hj⟩:=L.rof2 f hfn e;exact absurd hj (hnj j)
 ·cases e:S.rat.lookup (1,(p:Int)) with
  | none=>rfl
  | some v=>
   obtain⟨j,g,e1,e2,_⟩:=L.rat1 _ _ e;simp at e1;have:p=j:=by omega
   subst this;rw [hpg] at e2
   cases e2
theorem QSt.Alen(L:QSt S rt lf pg pin A hc none cnt tot)(h:AJ w k S fp):A.length<=2000:=by
 have:=L.cf;have:=h.n4;omega
end
def PK(p t:Nat)(i:Nat):Int:=if i<t then DO p i else 0
theorem fillB_all(p:Nat):AK .u8 (PK p 256) 0 256=AK .u8 (DO p) 0 256:=by
 refine E6 (by rw [AI]) fun j hj=>?_;rw [AT _ _ _ _ _ hj,za];unfold PK;rw [if_pos hj]
theorem fillB_set{p t:Nat}(ht:t<256):(AK .u8 (PK p t) 0 256).set t (.int .u8 (DO p t))=AK .u8 (PK p (t+1)) 0 256:=by
 rw [GS ht];refine E6 (by rw [AI]) fun j hj=>?_;rw [AT _ _ _ _ _ hj,za];by_cases e:j=t
 ·subst e;rw [upd_same];unfold PK;rw [if_pos (by omega)]
 ·rw [AH _ _ e];unfold PK;by_cases h:j<t
  ·rw [if_pos h,if_pos (by omega)]
  ·rw [if_neg h,if_neg (by omega)]
theorem fillB_0(p:Nat):List.replicate 256 (Value.int .u8 0)=AK .u8 (PK p 0) 0 256:=by
 refine E6 (by simp) fun j hj=>?_;rw [List.getElem?_replicate,if_pos hj]
 rfl
def LackP(x0:Nat->Int)(pl:Nat)(x96:Nat->Int):Prop:=
 ∃(W:WD) (k:Nat) (S:AL) (fp:Prt->Nat->Prop) (rt lf:Nat) (pg:Nat->Pg) (pin:Nat->Bool) (A:List Nat) (q:Nat),AJ W k S fp/\S.c=x0/\QSt S rt lf pg pin A 0 none q q/\q<pl/\(∀x∈CD x0 (q%S.AO),AX (S.L x)=0)/\((∀i,i<8->x96 i<=0)->A=[])
def BegunK(w:WD)(x0:Nat->Int)(pa:OA)(pl pc:Nat)(ia:OA)(il ic:Nat)(x96 pf nf:Nat->Int)(v:Value)(w':WD):Prop:=
 Kept AB w w'/\((LackP x0 pl x96/\∃p,v=.tuple #[.pointer p,.bool false,.bool true])\/
  ∃k β S fp FR rt lf pg pin ta tl tc A,v=.tuple #[ptr (β 23),.bool true,.bool true]/\Begun w pf nf ⟨k,w.heap.size,S.AO,x0,pa,pl,pc,ia,il,ic,x96⟩ β S fp FR rt lf pg pin ta tl tc A w')
set_option maxHeartbeats 4000000 in
theorem begun_spec{w:WD}(hz:F4 w)(hw:0<w.heap.size){x0:Nat->Int}{pa:OA}{pl pc:Nat}{ia:OA}{il ic:Nat}{x96 pf nf:Nat->Int}(O:CaseOk w x0 pa pl ia il pf nf) :
 Calls prog 10 #[.agg (AK .i64 x0 0 94++([Value.slice pa pl pc,Value.slice ia il ic]++AK .i64 x96 0 8)).toArray] w fun e w'=>∃v,e=.returned v/\BegunK w x0 pa pl pc ia il ic x96 pf nf v w':=by
 refine vc10 x0 pa pl pc ia il ic x96 w (BegunK w x0 pa pl pc ia il ic x96 pf nf) ?_;unfold Q;intro w1 e1;have o1:=AD e1;have k1:=kal e1;have hs1:=k1.sz;have hcb1:=o1.lt;refine⟨x0,o1.run 0 (fun j hj=>by rw [za,gal (by rw [AI];exact hj),AT _ _ _ _ _ hj,za]),(core_new x0 (hz.k k1) (by omega)).mono ?_⟩;rintro _ w2 ⟨k2,⟨hno,_⟩|⟨_,k,S,fp,rfl,C2,hc,F,hfp⟩⟩
 ·exact absurd O.my hno
 have hs:=C2.BO;have hf0:=C2.fst (i:=0) (by omega);have hfs:0<AX (S.L 0):=by
  obtain⟨_,_,hk⟩:=C2.zn;have:=fsumAll (C2.HF (i:=0) (by omega)) (F.L 0 (by omega));omega
 have hr:∀{W:WD}{S':AL}{fp':Prt->Nat->Prop} (C:AJ W k S' fp') {j:Nat}{v:Value},(IQ S')[j]? = some v->rd W k (0+(94+j))=some v:=fun C j v hv=>C.rtW kr hv;refine⟨_,_,rfl,AG rfl ?_⟩;have K2:Kept AB w w2:=k1.tr k2;have o2:=o1.k k2;generalize hB:(⟨k,w.heap.size,S.AO,x0,pa,pl,pc,ia,il,ic,x96⟩:BP)=B;have hcb2:own w2 B.cb B.xc:=by subst hB;exact o2
 refine⟨fun p W=>∃β,p=some ⟨β 23,0,none⟩/\BFin B w2 β W,?_,?_⟩
 ·subst hB;exact regB (B:=⟨k,w.heap.size,S.AO,x0,pa,pl,pc,ia,il,ic,x96⟩) (by show 1<=S.AO/\S.AO<=16;omega) hcb2 (by show x0 1=(S.AO:Int);rw [<- hc];exact hs.2.1.2.2.symm) rfl rfl rfl fun β w' h=>⟨β,rfl,h⟩
 rintro p3 w3 ⟨β,rfl,FB⟩;have L3:Lay w B β S fp (BT B β) 0 0 none 0 0 [] w3:=by
  subst hB;refine lay_of (B:=⟨k,w.heap.size,S.AO,x0,pa,pl,pc,ia,il,ic,x96⟩) C2 K2 hcb2 (nlr _) (fun p x hp=>?_) FB;have:=hfp p x hp
  show w.heap.size<x
  omega
 have hx:B.x0=x0/\B.n=S.AO/\B.pa=pa/\B.pl=pl/\B.ia=ia/\B.il=il/\B.x96=x96/\B.cb=w.heap.size/\B.pc=pc/\B.ic=ic:=by subst hB;exact⟨rfl,rfl,rfl,rfl,rfl,rfl,rfl,rfl,rfl,rfl⟩
 have hBk:B.kp=k:=by subst hB;rfl
 subst hBk;have C3:=L3.G.X.C;have hf0':AN S.c 0=0:=rfl;refine AA rfl ⟨_,hr C3 (j:=1) rfl,(HU C3 (i:=0) (by omega) 0 false).mono ?_⟩;rintro _ w4 ⟨a1,e1',l1,rfl,T4,R1⟩;obtain rfl:=takeR_e0 hfs R1;obtain⟨r1,rfl,hr1,hx1,hm1,hsum1⟩:=GI (C2.HF (i:=0) (by omega)) R1;obtain⟨fp4,L4⟩:=L3.step T4;have C4:=L4.G.X.C;have e3:(S.JH (upd S.L 0 l1)).L 0=l1:=by show upd S.L 0 l1 0=l1;exact upd_same _ _ _
 have ht1:CQ 0 l1 (S.c (18+0)).toNat:=by have:=C4.HF (i:=0) (by show 0<S.nodes;omega);rw [e3] at this;exact this
 have hfs1:0<AX l1:=by
  have:=fsumAll (C2.HF (i:=0) (by omega)) (F.L 0 (by obtain⟨_,_,hk⟩:=C2.zn;omega));omega
 have efst:AN S.c 0+(r1:Int)=r1:=by omega
 refine⟨(r1:Int),0,by rw [if_pos rfl,efst],AA rfl ⟨_,hr C4 (j:=1) rfl,(HU C4 (i:=0) (by show 0<S.nodes;omega) 0 false).mono ?_⟩⟩;rintro _ w5 ⟨a2,e2',l2,rfl,T5,R2⟩;rw [e3] at R2;obtain rfl:=takeR_e0 hfs1 R2;obtain⟨r2,rfl,hr2,hx2,hm2,hsum2⟩:=GI ht1 R2;obtain⟨fp5,L5⟩:=L4.step T5;have C5:=L5.G.X.C;have hne:r1≠r2:=fun e=>by
  obtain⟨x,hx,hg,h3,h4⟩:=hx2;have h5:(⟨r1,0,1⟩:Bk)∈l1:=(hm1 _ rfl).2 (.inr rfl);have:x=⟨r1,0,1⟩:=IE ht1 hx h5 (f:=r2) h3 h4 (by show r1<=r2;omega) (by show r2<r1+2^0;omega);subst this
  cases hg
 have efst2:AN S.c 0+(r2:Int)=r2:=by omega
 have hn1:r1<S.n:=by have:=hf0.2.1;omega
 have hn2:r2<S.n:=by have:=hf0.2.1;omega
 have g1:=J1 (mk:=S.mks) (n:=S.n) (f:=r1) (x:=CC) hn1 (by decide);have g2:=J1 (mk:=smS S.mks S.n r1 CC) (n:=S.n) (f:=r2) (x:=CC) hn2 (by decide);have z1:smE S.n (r1:Int) CC=0:=g1.1;have z2:smE S.n (r2:Int) CC=0:=g2.1;generalize hS5:(S.JH (upd S.L 0 l1)).JH (upd (S.JH (upd S.L 0 l1)).L 0 l2)=S5 at *;have hS5m:S5.mks=S.mks/\S5.n=S.n/\S5.c=S.c/\S5.sp=S.sp:=by subst hS5;exact⟨rfl,rfl,rfl,rfl⟩
 refine⟨(r2:Int),0,by rw [if_pos rfl];show Ending.returned (.tuple #[vi (AN S.c 0+(r2:Int)),vi 0])=_;rw [efst2],fun b W=>b=false/\∃fp',Lay w B β ((S5.GQ (smS S.mks S.n r1 CC)).GQ (smS (smS S.mks S.n r1 CC) S.n r2 CC)) fp' (BT B β) 0 0 none 0 0 [] W,?_,?_⟩
 ·have hne':((r1:Int)==(r2:Int))=false:=beq_eq_false_iff_ne.2 (by omega);refine AF (fun _=>rfl) ⟨some ⟨β 5,0,none⟩,(fun _=>by show rd w5 (β 23) (0+1)=_;rw [za];exact L5.R.r1),AF (fun _=>rfl) ⟨_,(fun _=>hr C5 (j:=0) rfl),AG (by rw [hne'];rfl) ((EJ C5 r1 CC).mono ?_)⟩⟩;rintro _ w6 ⟨rfl,T6⟩;rw [hS5m.1,hS5m.2.1] at T6;obtain⟨fp6,L6⟩:=L5.step T6;have C6:=L6.G.X.C;refine⟨_,rfl,AF (fun _=>rfl) ⟨_,(fun _=>hr C6 (j:=0) rfl),AG (by rw [hS5m.2.1,z1];rfl) ((EJ C6 r2 CC).mono ?_)⟩⟩;rintro _ w7 ⟨rfl,T7⟩;have T7:Step w6 w7 B.kp ((S5.GQ (smS S.mks S.n r1 CC)).GQ (smS (smS S.mks S.n r1 CC) S5.n r2 CC)) fp6:=T7;rw [hS5m.2.1] at T7;obtain⟨fp7,L7⟩:=L6.step T7;exact⟨_,rfl,by show(smE S5.n (r2:Int) CC != 0)=false;rw [hS5m.2.1,z2];rfl,fp7,L7⟩
 rintro b7 w7 ⟨rfl,fp7,L7⟩;generalize hS7:(S5.GQ (smS S.mks S.n r1 CC)).GQ (smS (smS S.mks S.n r1 CC) S.n r2 CC)=S7 at *;have hS7s:S7.sp=S.sp:=by subst hS7;exact hS5m.2.2.2
 refine AG rfl (AA rfl ⟨by show Eng.wr w7 (β 23) (0+106);rw [za];exact L7.R.wr (i:=0) (by decide),fun w8 e8=>?_⟩);have e8:w8=st w7 (β 23) (0+106) (vi r1):=e8;rw [za] at e8;have L8:=L7.set (i:=0) (r':=r1) (l':=0) (v:=vi r1) rfl e8;refine AA rfl ⟨by show Eng.wr w8 (β 23) (0+107);rw [za];exact L8.R.wr (i:=1) (by decide),fun w9 e9=>?_⟩;have e9:w9=st w8 (β 23) (0+107) (vi r2):=e9;rw [za] at e9;have L9:=L8.set (i:=1) (r':=r1) (l':=r2) (v:=vi r2) rfl e9;refine⟨fun W=>∃b fp',Lay w B β (S7.FQ b r1) fp' (BT B β) r1 r2 none 0 0 [] W,fun w10 e10=>?_,?_⟩
 ·have L10:=L9.quiet (kr.dr e10);have C10:=L10.G.X.C;refine AA rfl ((newSpace_spec r1 w10).mono ?_);rintro _ w11 ⟨b,rfl,k11,SP⟩;have C11:=C10.k k11;refine⟨_,rfl,C11.so.wr (by rw [lap,AI];show 0+106<94+23;omega),fun w12 e12=>?_⟩
  have T12:=core_space C10 (by rw [hS7s];exact F.sp) k11 SP (show w12=st w11 B.kp 106 (ptr b) from by
   have e12:w12=st w11 B.kp (0+106) (ptr b):=e12;rw [za] at e12;exact e12)
  obtain⟨fp12,L12⟩:=L10.step T12;exact⟨b,fp12,L12⟩
 rintro w12 ⟨b,fp12,L12⟩;have C12:=L12.G.X.C;refine AA rfl ⟨_,hr C12 (j:=12) rfl,AF (fun _=>rfl) ⟨_,(fun _=>hr C12 (j:=0) rfl),AG rfl ((core_setLeaf C12 r1 0 r2).mono ?_)⟩⟩;rintro _ w13 ⟨rfl,T13⟩;obtain⟨fp13,L13⟩:=L12.step T13;have hQ:∀hc,QSt ((S7.FQ b r1).J9 (slS (S7.FQ b r1).by' (S7.FQ b r1).n r1 0 r2)) r1 r2 (fun _=>.no) (fun _=>false) [] hc none 0 0:=fun hc=>by
  subst hS7 hS5;exact QSt.begun C2 F (n0:=(S.c 18).toNat) rfl ht1 hr1 hr2 hm1 hsum1 hx2 hm2 hsum2 b hc
 have hsl:slE (S7.FQ b r1).n (r1:Int) 0 (r2:Int)=0:=by
  have:(S7.FQ b r1).n=S.n:=by subst hS7;exact hS5m.2.1
  rw [this];unfold slE;rw [if_neg (by have:=C2.n4;omega)];exact DD (by omega) (by omega) (by decide) (by decide)
 have hSc:((S7.FQ b r1).J9 (slS (S7.FQ b r1).by' (S7.FQ b r1).n r1 0 r2)).c=x0:=by subst hS7;rw [<- hc];exact hS5m.2.2.1
 generalize (S7.FQ b r1).J9 (slS (S7.FQ b r1).by' (S7.FQ b r1).n r1 0 r2)=S13 at *;obtain⟨hx0,hxn,hxpa,hxpl,hxia,hxil,hx96,hxcb,hxpc,hxic⟩:=hx;have hnod:(S.nodes:Int)=x0 0:=by rw [<- hc];exact hs.1.2.2
 have hcpu:(S.AO:Int)=x0 1:=by rw [<- hc];exact hs.2.1.2.2
 refine⟨_,rfl,AG (by rw [hsl];rfl) ⟨x0 0,by rw [<- hxcb,<- hx0];exact L13.R.cx (i:=0) (by decide),fun n W N=>∃(q:Nat) (S':AL) (fp':Prt->Nat->Prop) (FR:NP) (A:List Nat) (ta:OA) (tl tc:Nat),n=q/\q<=S.nodes/\N=S.nodes-q/\Lay w B β S' fp' FR r1 r2 ta tl tc A W/\S'.c=x0/\((∀i,i<8->x96 i<=0)->A=[])/\∀hc,QSt S' r1 r2 (fun _=>.no) (fun _=>false) A hc none 0 0,⟨S.nodes,0,S13,fp13,BT B β,[],none,0,0,rfl,by omega,rfl,L13,hSc,(fun _=>rfl),hQ⟩,?_⟩⟩;clear L13 hQ T13 hsl L12 T4 T5 C4 C5 L4 L5 L7 L8 L9 R1 R2;rintro _ W0 _ ⟨q,S1,fq,FR1,A1,ta1,tl1,tc1,rfl,hq,rfl,LL,hc1,HA1,HQ⟩;refine AE (fun hcq=>?_) (fun hcq=>?_)
 ·simp only [decide_eq_true_eq] at hcq;have hq8:q<S.nodes:=by omega
  refine⟨fun n W N=>∃(t:Nat) (S':AL) (fp':Prt->Nat->Prop) (FR:NP) (A:List Nat) (ta:OA) (tl tc:Nat),n=t/\t<=128/\N=128-t/\Lay w B β S' fp' FR r1 r2 ta tl tc A W/\S'.c=x0/\((∀i,i<8->x96 i<=0)->A=[])/\∀hc,QSt S' r1 r2 (fun _=>.no) (fun _=>false) A hc none 0 0,⟨128,0,S1,fq,FR1,A1,ta1,tl1,tc1,rfl,by omega,rfl,LL,hc1,HA1,HQ⟩,?_⟩;rintro _ W1 _ ⟨t,S2,f2,FR2,A2,ta2,tl2,tc2,rfl,ht,rfl,LT,hc2,HA2,HT⟩;have CT:=LT.G.X.C;have hnn:S2.nodes=S.nodes:=by unfold AL.nodes;rw [hc2,hc]
  have nxt:∀{W':WD}{S':AL}{fp':Prt->Nat->Prop}{FR:NP}{A:List Nat}{ta:OA}{tl tc:Nat},Lay w B β S' fp' FR r1 r2 ta tl tc A W'->S'.c=x0->((∀i,i<8->x96 i<=0)->A=[])->(∀hc,QSt S' r1 r2 (fun _=>.no) (fun _=>false) A hc none 0 0)->∃m,Nat.succ m<=S.nodes-q/\∃(q':Nat) (S':AL) (fp':Prt->Nat->Prop) (FR:NP) (A:List Nat) (ta:OA) (tl tc:Nat),IntKind.wrap .i64 ((q:Int)+1)=q'/\q'<=S.nodes/\m=S.nodes-q'/\Lay w B β S' fp' FR r1 r2 ta tl tc A W'/\S'.c=x0/\((∀i,i<8->x96 i<=0)->A=[])/\∀hc,QSt S' r1 r2 (fun _=>.no) (fun _=>false) A hc none 0 0:=
   fun L h1 h2 h3=>⟨S.nodes-(q+1),by omega,q+1,_,_,_,_,_,_,_,wzz,by omega,rfl,L,h1,h2,h3⟩
  refine Wi ⟨x96 q,by rw [tnc,mo,<- hxcb,<- hx96];exact LT.R.c9 (by omega),AE (fun hct=>?_) (fun hct=>nxt LT hc2 HA2 HT)⟩;have ht2:t<128:=by simp at hct;omega
  refine AA rfl ⟨_,hr CT (j:=1) rfl,(HU CT (i:=q) (by omega) 0 false).mono ?_⟩;rintro _ W2 ⟨a,e,l',rfl,TT,RT⟩;by_cases he:e=0
  ·subst he;obtain⟨r,rfl,hrn,_⟩:=GI (CT.HF (i:=q) (by omega)) RT;have hfq:=CT.fst (i:=q) (by omega);obtain⟨f,hf⟩:∃f:Nat,AN S2.c q+(r:Int)=f:=⟨(AN S2.c q+r).toNat,by omega⟩;have RT':ES (S2.L q) 0 false ((f:Int)-AN S2.c q) 0 l':=by
    rw [show(f:Int)-AN S2.c q=r by omega];exact RT
   obtain⟨fp2',LT2⟩:=LT.step TT;have CT2:=LT2.G.X.C;refine⟨(f:Int),0,by rw [if_pos rfl,hf],AG rfl (AA rfl ⟨_,hr CT2 (j:=0) rfl,(EJ CT2 f CC).mono ?_⟩)⟩;rintro _ W3 ⟨rfl,TT3⟩;obtain⟨fp3',LT3⟩:=LT2.step TT3;have HK:=fun hc=>(HT hc).kept CT (by omega) (by omega) RT';refine⟨_,rfl,AA rfl ⟨_,_,_,by show rd W3 (β 23) (0+108)=_;rw [za];exact LT3.R.tail (i:=2) rfl,fun W4 e4=>?_⟩⟩;obtain⟨a',la,ca,W5,happ,hwr,H5⟩:=LT3.note e4 ((HT 0).Alen CT);refine⟨a',la,ca,W5,happ,AA rfl ⟨by show Eng.wr W5 (β 23) (0+108);rw [za];exact hwr,fun W6 e6=>?_⟩⟩;have e6:W6=st W5 (β 23) (0+108) (.slice a' la ca):=e6;rw [za] at e6;obtain⟨FR3,LT6⟩:=H5 W6 e6;exact⟨128-(t+1),by omega,t+1,_,_,_,_,_,_,_,wzz,by omega,rfl,LT6,hc2,(fun h=>by
    have:=h q (by omega);have h9:=hct;rw [Bool.and_eq_true,decide_eq_true_eq] at h9;have:=h9.1;exfalso;omega),HK⟩
  ·obtain rfl:=takeR_ne RT he;rw [upd_self] at TT;obtain⟨fp2',LT2⟩:=LT.step TT;exact⟨_,_,rfl,AA (by simp [he]) (nxt LT2 hc2 HA2 HT)⟩
 ·clear hcq;have hpl:=O.lp;have hcp:=LL.R.cp;rw [hxcb,hxpa,hxpl,hxpc] at hcp;refine⟨pa,pl,pc,hcp,fun _ _ _ n W N=>∃(q:Nat) (S':AL) (fp':Prt->Nat->Prop) (FR:NP) (pg:Nat->Pg) (pin:Nat->Bool),n=q/\q<=pl/\N=pl-q/\Lay w B β S' fp' FR r1 r2 ta1 tl1 tc1 A1 W/\S'.c=x0/\(∀hc,QSt S' r1 r2 pg pin A1 hc none q q)/\(∀j,(∃f,pg j=.fr f)↔∃i,i<q/\pf i=j)/\(∀j,pg j=.no\/∃f,pg j=.fr f)/\(∀j,pin j=true↔(∃i,i<q/\pf i=j)/\∃i,i<il/\nf i=j),
   ⟨pl,0,S1,fq,FR1,_,_,rfl,by omega,rfl,LL,hc1,HQ,fun j=>⟨(fun⟨f,e⟩=>by cases e),fun⟨i,hi,_⟩=>absurd hi (nlz _)⟩,fun _=>.inl rfl,fun j=>⟨(fun e=>by cases e),fun⟨⟨i,hi,_⟩,_⟩=>absurd hi (nlz _)⟩⟩,?_⟩
  rintro _ _ _ _ W1 _ ⟨u,S2,f2,FR2,pg,pin,rfl,hu,rfl,LT,hc2,HT,P1,P2,P3⟩;have CT:=LT.G.X.C;refine AE (fun hcu=>?_) (fun hcu=>?_)
  ·simp only [decide_eq_true_eq] at hcu;have hul:u<pl:=by omega
   obtain⟨g1',g2'⟩:=O.rg u hul;obtain⟨p,hp⟩:∃p:Nat,pf u=p:=⟨(pf u).toNat,by omega⟩;have hp32:p<32:=by omega
   have hpg:pg p=.no:=(P2 p).resolve_right fun e=>by
    obtain⟨i,hi,he⟩:=(P1 p).1 e;have:=O.inj i u (by omega) hul (by rw [he,hp]);omega
   have hnn:S2.nodes=S.nodes:=by unfold AL.nodes;rw [hc2,hc]
   have hcc:S2.AO=S.AO:=by unfold AL.AO;rw [hc2,hc]
   have PG:=O.pg.k LT.G.kp;refine AA (PG.p (by omega)).1 (Wi ⟨(p:Int),by rw [tnc,mo,<- hp];exact PG.at' u hul,fun W2 e2=>?_⟩);have LT2:=LT.quiet (kr.dr e2);have C2':=LT2.G.X.C;have hc1v:rd W2 w.heap.size 1=some (vi (x0 1)):=by rw [<- hxcb,<- hx0];exact LT2.R.cx (i:=1) (by decide)
   obtain⟨b',hsp⟩:=(HT 0).sp1;have htm:Int.tmod (u:Int) (x0 1)=((u%S.AO:Nat):Int):=by
    rw [<- hcpu,Int.tmod_eq_emod_of_nonneg (by omega)];omega
   have hcp1:u%S.AO<S2.AO:=by rw [hcc];exact Nat.mod_lt _ (by omega)
   refine AA rfl ⟨_,hr C2' (j:=1) rfl,x0 1,hc1v,AA (by simp;omega) ?_⟩;rw [htm];refine(nodes_spec C2' hsp (page:=(p:Int)) (by omega) hcp1).mono ?_;rintro _ W3 ⟨na,nl',nc,rfl,k3,RN⟩;have LT3:=LT2.quiet k3;have C3':=LT3.G.X.C;obtain⟨n1,n2,_,n4⟩:=GM CT.my (u%S.AO);rw [<- n1] at RN;refine⟨na,nl',nc,rfl,⟨hr C3' (j:=1) rfl,trivial⟩,(core_ztake C3' RN (fun x hx=>n2 x hx) (by rw [n4];have:=hs.1;unfold AL.nodes at hnn;omega)).mono ?_⟩;rintro _ W4 (⟨hz0,⟨er,her,rfl⟩,rfl⟩|⟨f,i,l',rfl,T4,hi,h1,h2,TR⟩)
   ·exact⟨0,er,rfl,AA (by simpa using her) ⟨LT3.G.kp,.inl ⟨⟨_,B.kp,S2,_,r1,r2,pg,pin,A1,u,LT3.G.X.C,hc2,HT 0,hul,(by rw [hcc,<- hc2];exact hz0),HA1⟩,_,rfl⟩⟩⟩
   have QM:=fun hc=>(HT hc).may CT hi h1 TR hp32 hpg;obtain⟨m1,m2,m3,m4,m5,m6,m7⟩:=QM 0;obtain⟨fp4,LT4⟩:=LT3.step T4;refine⟨(f:Int),0,rfl,AG rfl fun W5 e5=>?_⟩;have k5:=kal e5;have o5:own W5 W4.heap.size (List.replicate 256 (Value.int .u8 0)):=AD e5;rw [fillB_0 p] at o5;refine⟨fun n W N=>∃t:Nat,n=t/\t<=256/\N=256-t/\own W W4.heap.size (AK .u8 (PK p t) 0 256)/\Kept AB W4 W,⟨256,0,rfl,by omega,rfl,o5,k5⟩,?_⟩;rintro _ W6 _ ⟨t,rfl,ht,rfl,o6,k6⟩;refine AE (fun hct=>?_) (fun hct=>?_)
   ·simp only [decide_eq_true_eq] at hct;have ht2:t<256:=by omega
    refine Wi ⟨by rw [tnc,mo,za];exact o6.wr (by rw [AI];exact ht2),fun W7 e7=>?_⟩;have hbv:IntKind.wrap .u8 (IntKind.wrap .i64 ((p:Int)+t))=DO p t:=by
     rw [wi (by omega)]
     show((p:Int)+t)%256=_
     unfold DO;omega
    rw [tnc,mo,za,hbv] at e7;have o7:=o6.s1 e7;rw [fillB_set ht2] at o7;exact⟨256-(t+1),by omega,t+1,wzz,by omega,rfl,o7,BD k6 (kr.s1 e7 (.inl rfl):Kept (·=W4.heap.size) W6 W7) fun x e=>by omega⟩
   simp only [decide_eq_false_iff_not] at hct;have:t=256:=by omega
   subst this;rw [fillB_all] at o6;have LT6:=LT4.quiet k6;have C6':=LT6.G.X.C;refine AA rfl ⟨_,hr C6' (j:=0) rfl,(core_write C6' m1 o6).mono ?_⟩;rintro _ W7 ⟨rfl,T7⟩;obtain⟨fp7,LT7⟩:=LT6.step T7;have C7':=LT7.G.X.C;have HM:=fun hc=>(HT hc).FU CT hi h1 h2 TR hp32 hpg;refine⟨0,rfl,AG rfl ((map_spec C7' (b:=b') hsp m2 m3 (f:=f) (i:=i) m1 hi h1 h2 ((HT 0).ck i hi) (fun _=>m4) (by have:=(HT 0).O5 hi;show(S2.ring i).length<=100000;omega) p).mono ?_)⟩;rintro _ W8 (⟨hbad,_⟩|⟨_,hbad,_⟩|⟨_,_,hbad,_⟩|⟨_,_,_,hbad,_⟩|⟨_,_,_,_,rfl,T8⟩)
   ·omega
   ·exact absurd m5 hbad
   ·exact absurd m6 hbad
   ·have hbad:(S2.rat.lookup (1,(p:Int))).isSome=true:=hbad;rw [m7] at hbad;cases hbad
   obtain⟨fp8,LT8⟩:=LT7.step T8;have C8':=LT8.G.X.C;have PN:=O.pn.k LT8.G.kp;have hci:=LT8.R.ci;rw [hxcb,hxia,hxil,hxic] at hci;refine⟨0,rfl,AG rfl ⟨ia,il,ic,hci,(nums_has PN (by have:=O.ln;omega) (p:Int)).mono ?_⟩⟩;rintro _ wz ⟨rfl,hwz⟩;rw [hwz];have P1':∀j,(∃g,upd pg p (.fr f) j=.fr g)↔∃i,i<u+1/\pf i=j:=fun j=>by
    by_cases e:j=p
    ·subst e;exact⟨fun _=>⟨u,by omega,hp⟩,fun _=>⟨f,upd_same _ _ _⟩⟩
    ·rw [AH _ _ e,P1 j];exact⟨fun⟨i,hi,he⟩=>⟨i,by omega,he⟩,fun⟨i,hi,he⟩=>⟨i,by
      have:i≠u:=fun e2=>e (by rw [e2,hp] at he;omega);omega,he⟩⟩
   have P2':∀j,upd pg p (.fr f) j=.no\/∃g,upd pg p (.fr f) j=.fr g:=fun j=>by
    by_cases e:j=p
    ·subst e;exact .inr ⟨f,upd_same _ _ _⟩
    ·rw [AH _ _ e];exact P2 j
   have more:∀j:Nat,(∃i,i<u+1/\pf i=j)↔(∃i,i<u/\pf i=j)\/j=p:=fun j=>by
    constructor
    ·rintro ⟨i,hi,he⟩;by_cases e2:i=u
     ·right;rw [e2,hp] at he;omega
     ·exact .inl ⟨i,by omega,he⟩
    ·rintro (⟨i,hi,he⟩|rfl)
     ·exact⟨i,by omega,he⟩
     ·exact⟨u,by omega,hp⟩
   have npin:pin p=false:=by
    cases e:pin p with
    | false=>rfl
    | true=>
     obtain⟨i,hi,he⟩:=((P3 p).1 e).1;have:=O.inj i u (by omega) hul (by rw [he,hp]);omega
   refine⟨_,rfl,AE (fun hb=>?_) (fun hb=>?_)⟩
   ·simp only [decide_eq_true_eq] at hb;obtain⟨pb',q1,q2,q3⟩:=core_put C8' (b:=b') hsp hp32;refine AA rfl ⟨some ⟨b',0,none⟩,by show rd W8 B.kp (0+106)=_;rw [za];exact q1,AA rfl ⟨_,by show rd W8 b' (0+2)=_;rw [za];exact q2,q3.mono ?_⟩⟩;rintro _ W9 ⟨⟨n,rfl⟩,T9⟩;obtain⟨fp9,LT9⟩:=LT8.step T9;refine⟨n,rfl,pl-(u+1),by omega,u+1,_,fp9,FR2,_,upd pin p true,wzz,by omega,rfl,LT9,hc2,fun hc=>(HM hc).pinned hp32 ⟨f,upd_same _ _ _⟩,P1',P2',fun j=>?_⟩;rw [more j];by_cases e:j=p
    ·subst e;rw [upd_same];exact⟨fun _=>⟨.inr rfl,hb⟩,fun _=>rfl⟩
    ·rw [AH _ _ e,P3 j];exact⟨fun h=>⟨.inl h.1,h.2⟩,fun h=>⟨h.1.resolve_right e,h.2⟩⟩
   ·simp only [decide_eq_false_iff_not] at hb;refine⟨pl-(u+1),by omega,u+1,_,fp8,FR2,_,pin,wzz,by omega,rfl,LT8,hc2,HM,P1',P2',fun j=>?_⟩;rw [more j];by_cases e:j=p
    ·subst e;rw [npin];exact⟨(fun h=>by cases h),fun h=>absurd h.2 hb⟩
    ·rw [P3 j];exact⟨fun h=>⟨.inl h.1,h.2⟩,fun h=>⟨h.1.resolve_right e,h.2⟩⟩
  ·simp only [decide_eq_false_iff_not] at hcu;have:u=pl:=by omega
   subst this;refine⟨LT.G.kp,.inr ⟨B.kp,β,S2,f2,FR2,r1,r2,pg,pin,ta1,tl1,tc1,A1,rfl,?_⟩⟩;have hcc:S2.AO=S.AO:=by unfold AL.AO;rw [hc2,hc]
   have hBB:(⟨B.kp,w.heap.size,S2.AO,x0,pa,u,pc,ia,il,ic,x96⟩:BP)=B:=by rw [hcc];exact hB
   rw [hBB];refine⟨LT,?_,by rw [hc2,hx0],by rw [hxn,hcc],?_,P2,?_,FB.dj,by rw [hx96];exact HA1⟩
   ·rw [hxpl];exact HT
   ·rw [hxpl];exact P1
   ·rw [hxpl,hxil];exact P3
abbrev FinR:=AL->(Nat->Pg)->(Nat->Value)->(Nat->Int)->(Nat->Int)->(Nat->Int)->Nat->Option Nat->Prop
def PZ(k:Nat)(c:Nat->Int)(rt lf:Nat)(pin:Nat->Bool)(A:List Nat)(tot:Nat)(V:Wv)(cpu:Nat)(pg0:Nat->Pg)(FR0:NP)(R:FinR):Fin where
 q F W:=∃S fp G gt nn la ca pg cnt hd,F=Fo fp G/\(∀x,FR0 x->G x)/\Ctx k S fp G W/\S.c=c/\QSt S rt lf pg pin A cpu hd cnt tot/\WAt W V gt nn la ca/\(∀j,pg j=.no↔pg0 j=.no)/\(∀f,hd=some f->∃g o cp,gt cpu=.slice (some ⟨g,o,none⟩) 1 cp/\G g/\rd W g o=some (vi (f:Nat)))/\R S pg gt nn la ca cnt hd
 C x:=FR0 x/\¬V.rows x
theorem PZ.st{k:Nat}{c:Nat->Int}{rt lf:Nat}{pin:Nat->Bool}{A:List Nat}{tot:Nat}{V:Wv}{cpu:Nat}{pg0:Nat->Pg}{FR0:NP}{R:FinR}(hV:∀x,x=V.b\/V.rows x->FR0 x):(PZ k c rt lf pin A tot V cpu pg0 FR0 R).St:=by
 rintro F W W' ⟨S,fp,G,gt,nn,la,ca,pg,cnt,hd,rfl,hG,X,hc,L,A',hp,hg,hR⟩ kk;exact⟨S,fp,G,gt,nn,la,ca,pg,cnt,hd,rfl,hG,X.env (G:=Fo fp G) (fun _ h=>h) kk,hc,L,A'.kx kk fun x h1 h2=>h1 (.inr (hG x (hV x h2))),hp,fun f e=>(hg f e).imp fun g ⟨o,cp,h1,h2,h3⟩=>⟨o,cp,h1,h2,kk.rd_some h3 fun hn=>hn (.inr h2)⟩,hR⟩
section
variable {w:WD}{t sb n:Nat}{f:Nat->Value×Int}
theorem Ends.nilF{N:Nat}{v:Value}{F:NP}{w:WD}{Q:Fin}(E:Ends N v F w Q)(h:isF v=false):v=.nilFunc:=by
 cases N with
 | zero=>exact E.1
 | succ N=>
  rcases E with h1|h1
  ·exact h1.1
  ·rw [h1.1] at h;cases h
theorem start_spec(h:TabAt w t sb n f){i:Nat}(hi:i<n)(hf0:(f i).1=.nilFunc){M:Nat}{F:NP}{Q:Fin}(hq:Q.St){b:Nat}{a:OA}{l c:Nat}(h1:¬F t)(h2:¬F sb)(hw:rd w b 1=some (ptr t))(hC:F b->Q.C b)(hs:b≠sb)
 (hP:Calls prog 43 #[ptr b,vi i,.slice a l c] w fun e w'=>∃v,e=.returned v/\Nx M Q F w (.returned v) w') :
 Calls prog 12 #[ptr b,vi i,.slice a l c] w fun e w'=>e=.returned (.bool true)/\∃F' f',Kept (fun x=>(F x/\¬Q.C x)\/x=sb) w w'/\TabAt w' t sb n f'/\Ends M (f' i).1 F' w' Q/\(∀x,F' x->F x\/w.heap.size<=x):=by
 refine Calls.ret (vc12 _ i a l c w _ ?_);apply qI;refine hP.mono ?_;rintro e w1 ⟨v,rfl,v',F',e',hok,kk,hF',E⟩
 cases e'
 have ht:t<w.heap.size:=h.so.lt;have hsb:sb<w.heap.size:=h.fs.lt;have T1:=h.kx kk (fun e=>h1 e.1) (fun e=>h2 e.1);have n2:¬F' sb:=fun e=>(hF' sb e).elim h2 fun e=>by have:=e.1;omega
 have hw1:rd w1 b 1=some (ptr t):=kk.rd_some hw fun e=>e.2 (hC e.1);have hF1:∀x,F' x->F x\/w.heap.size<=x:=fun x hx=>(hF' x hx).imp id fun e=>e.1;refine⟨v,rfl,AA hok (AF (fun _=>rfl) ⟨some ⟨t,0,none⟩,(fun _=>by show rd w1 b (0+1)=_;rw [za];exact hw1),AE (fun hn=>?_) (fun hn=>?_)⟩)⟩
 ·have hv:isF v=false:=by simpa using hn
  have:=E.nilF hv;subst this;exact⟨rfl,F',f,kk.mono fun x _ e=>.inl e,T1,by rw [hf0];exact E,hF1⟩
 ·have hv:isF v=true:=by simpa using hn
  refine Calls.ret (vc44 _ i v w1 _ ?_);apply qI;refine(tat_spec T1 hi).mono ?_;rintro _ wx ⟨rfl,hwx⟩;rw [hwx];refine⟨_,rfl,(ready_spec T1).mono ?_⟩;rintro _ wy ⟨rfl,hwy⟩;rw [hwy];obtain⟨r0,_,r2,_⟩:=T1.get hi;rw [hf0] at r0;refine⟨true,rfl,AG rfl (AF (fun _=>hok) (AG (by rw [hv];rfl) (AA rfl ⟨.nilFunc,r0,AA rfl (AG rfl (AA rfl (AA hok ⟨r2,fun w2 e2=>?_⟩)))⟩)))⟩;have e2:w2=st w1 sb (i*2) v:=e2;obtain⟨T2,k2⟩:=T1.put0 hi e2;refine⟨_,rfl,rfl,F',_,(kk.mono fun x _ e=>.inl e).trans k2 fun x _ e=>.inr e,T2,?_,hF1⟩;rw [upd_same];exact E.env hq (k2.mono fun x _ e hx=>n2 (e▸hx))
end
section
variable {k N:Nat}{S:AL}{fp:Prt->Nat->Prop}{FR:NP}{W:WD}{V:Wv}{la ca:Nat->Int}{cpu:Nat}
def ROne(c:Nat->Int)(pin:Nat->Bool)(cpu:Nat):FinR:=fun S pg gt nn _ _ _ hd=>
 (hd=none/\nn cpu=1/\(∀x∈CD c cpu,(AX (S.L x):Int)<=S.c 91)/\(HC S\/∀i∈CD c cpu,NoGo S pg pin i))\/∃f a cp,hd=some f/\gt cpu=.slice a 1 cp
theorem prog_oneG{c ab ao:Nat}{Z:Fx}{pg:Nat->Pg}{cnt:Nat}{nx:Int}{FR0:NP}{R:FinR}(X:Ctx k S fp FR W)(hZ:Z.hd=none)(hZc:Z.hc=cpu)(L:Z.St S pg cnt)(A:WAt W V (fun _=>.slice none 0 0) (fun _=>0) la ca)(hk:V.k=k)(hc:cpu<V.n)(hcs:cpu<S.AO)(hl:1<=c)(hrd:rd W ab ao=some (vi 1)/\rd W ab (ao+1)=some (vi nx))(h0:∀x,FR0 x↔FR x)(hR:∀x,V.rows x->FR x)(hFb:FR V.b)
 (HR:∀S' pg' gt' nn' la' cnt' hd,((hd=none/\nn' cpu=1/\(∀x∈CD S.c cpu,(AX (S'.L x):Int)<=S'.c 91)/\(HC S'\/∀i∈CD S.c cpu,NoGo S' pg' Z.pin i))\/(nn'=(fun _=>0)/\∃f a cp,hd=some f/\gt' cpu=.slice a 1 cp))->Had Z (CD S.c cpu) S pg cnt S' pg' cnt' la' cpu hd->R S' pg' gt' nn' la' ca cnt' hd) :
 Calls prog 43 #[ptr V.b,vi cpu,.slice (some ⟨ab,ao,none⟩) 1 c] W fun e w'=>∃v,e=.returned v/\Nx (1+bdP (CD S.c cpu).length (cnt+1)) (PZ k S.c Z.rt Z.lf Z.pin Z.A Z.tot V cpu pg FR0 R) (Fo fp FR) W (.returned v) w':=by
 refine prog_ask (Q:=PZ k S.c Z.rt Z.lf Z.pin Z.A Z.tot V cpu pg FR0 R) (M:=1) X (fun x h=>(h0 x).1 h.1) hZ hZc L A hk hc hcs (nlr _) hl hrd rfl rfl (fun x h=>⟨hR x h,fun e=>e.2 h⟩) hFb fun W' S' fp' gt' nn' la' pg' cnt' hd G hG kk L' ec X' A' hpg hA hH=>?_;refine(prog_nil (V:=V) W').mono ?_;rintro e w' ⟨rfl,k'⟩;have hq:(PZ k S.c Z.rt Z.lf Z.pin Z.A Z.tot V cpu pg FR0 R).q (Fo fp' G) w':=by
  refine⟨S',fp',G,gt',nn',la',ca,pg',cnt',hd,rfl,fun x h=>hG x ((h0 x).1 h),X'.kept k',ec,L',A'.k k',hpg,fun f e=>?_,HR _ _ _ _ _ _ _ ?_ hH⟩
  ·rcases hA with⟨a1,_⟩|⟨_,f',g,o,cp,a2,a3,a4,_,a5,_⟩
   ·rw [a1] at e;cases e
   ·rw [a2] at e;cases e;exact⟨g,o,cp,a3,a4,k'.rd_some a5 id⟩
  ·rcases hA with⟨a1,a2,a3,a4,a5⟩|⟨a1,f,g,o,cp,a2,a3,_⟩
   ·exact .inl ⟨a1,a3,a4,a5⟩
   ·exact .inr ⟨a1,f,_,cp,a2,a3⟩
 exact⟨_,rfl,Nx.fin k' hq (fun x h=>.inl h) 1⟩
theorem prog_one{c ab ao:Nat}{Z:Fx}{pg:Nat->Pg}{cnt:Nat}{nx:Int}{FR0:NP}(X:Ctx k S fp FR W)(hZ:Z.hd=none)(hZc:Z.hc=cpu)(L:Z.St S pg cnt)(A:WAt W V (fun _=>.slice none 0 0) (fun _=>0) la ca)(hk:V.k=k)(hc:cpu<V.n)(hcs:cpu<S.AO)(hl:1<=c)(hrd:rd W ab ao=some (vi 1)/\rd W ab (ao+1)=some (vi nx))(h0:∀x,FR0 x↔FR x)(hR:∀x,V.rows x->FR x)(hFb:FR V.b) :
 Calls prog 43 #[ptr V.b,vi cpu,.slice (some ⟨ab,ao,none⟩) 1 c] W fun e w'=>∃v,e=.returned v/\Nx (1+bdP (CD S.c cpu).length (cnt+1)) (PZ k S.c Z.rt Z.lf Z.pin Z.A Z.tot V cpu pg FR0 (ROne S.c Z.pin cpu)) (Fo fp FR) W (.returned v) w':=
 prog_oneG X hZ hZc L A hk hc hcs hl hrd h0 hR hFb fun S' pg' gt' nn' la' cnt' hd h _=>h.imp id fun h=>h.2
end
structure Rdy(W:WD)(V:Wv)(sb:Nat)(c:Nat->Int)(S:AL)(fp:Prt->Nat->Prop)(FR0:NP)(rt lf:Nat)(pg:Nat->Pg)(pin:Nat->Bool)(A:List Nat)(tot:Nat):Prop where
 X:Ctx V.k S fp FR0 W
 wa:WAt W V (fun _=>.slice none 0 0) (fun _=>0) (fun _=>0) (fun _=>0)
 T:TabAt W V.t sb V.n (fun _=>(.nilFunc,0))
 L:∀hc,QSt S rt lf pg pin A hc none tot tot
 c:S.c=c
 n:V.n=S.AO
 rows:∀x,x=V.b\/V.rows x->FR0 x
 t:¬Fo fp FR0 V.t
 sb:¬Fo fp FR0 sb
structure Out(W0 W:WD)(V:Wv)(sb:Nat)(c:Nat->Int)(fp:Prt->Nat->Prop)(FR0:NP)(rt lf:Nat)(pg:Nat->Pg)(pin:Nat->Bool)(A:List Nat)(tot:Nat)(cpu:Nat)(R:FinR)(S':AL)(fp':Prt->Nat->Prop)(G:NP)(gt:Nat->Value)(nn la ca:Nat->Int)(pg':Nat->Pg)(cnt:Nat)(hd:Option Nat):Prop where
 fr:∀x,FR0 x->G x
 X:Ctx V.k S' fp' G W
 c:S'.c=c
 L:QSt S' rt lf pg' pin A cpu hd cnt tot
 wa:WAt W V gt nn la ca
 no:∀j,pg' j=.no↔pg j=.no
 cp:cpu<S'.AO
 hg:∀f,hd=some f->∃g o cp,gt cpu=.slice (some ⟨g,o,none⟩) 1 cp/\rd W g o=some (vi (f:Nat))
 r:R S' pg' gt nn la ca cnt hd
 kp:Kept (fun x=>(Fo fp FR0 x/\¬(FR0 x/\¬V.rows x))\/x=sb) W0 W
theorem drive_spec{W:WD}{V:Wv}{sb:Nat}{c:Nat->Int}{S:AL}{fp:Prt->Nat->Prop}{FR0:NP}{rt lf:Nat}{pg:Nat->Pg}{pin:Nat->Bool}{A:List Nat}{tot M:Nat}{R:FinR}{cpu:Nat}{a:OA}{l cp:Nat}(D:Rdy W V sb c S fp FR0 rt lf pg pin A tot)(hcp:cpu<V.n)
 (hP:Calls prog 43 #[ptr V.b,vi cpu,.slice a l cp] W fun e w'=>∃v,e=.returned v/\Nx M (PZ V.k c rt lf pin A tot V cpu pg FR0 R) (Fo fp FR0) W (.returned v) w') :
 Calls prog 12 #[ptr V.b,vi cpu,.slice a l cp] W fun e w'=>e=.returned (.bool true)/\Kept (fun x=>(Fo fp FR0 x/\¬(FR0 x/\¬V.rows x))\/x=sb) W w'/\∀most:Nat,M<=most->most<=1000000->Calls prog 21 #[ptr V.b,vi cpu,vi most] w' fun e w''=>e=.returned (.bool true)/\
  ∃S' fp' G gt nn la ca pg' cnt hd,Out W w'' V sb c fp FR0 rt lf pg pin A tot cpu R S' fp' G gt nn la ca pg' cnt hd:=by
 have hc:=D.X.C.BO.2.1;have hVb:FR0 V.b:=D.rows _ (.inl rfl);have hq:=PZ.st (k:=V.k) (c:=c) (rt:=rt) (lf:=lf) (pin:=pin) (A:=A) (tot:=tot) (V:=V) (cpu:=cpu) (pg0:=pg) (FR0:=FR0) (R:=R) D.rows;have hCb:(PZ V.k c rt lf pin A tot V cpu pg FR0 R).C V.b:=⟨hVb,D.wa.nw⟩;have hbs:V.b≠sb:=fun e=>D.sb (.inr (e▸hVb));have htl:=D.T.so.lt;have hsl:=D.T.fs.lt;have w1:rd W V.b 1=some (ptr V.t):=by have:=D.wa.rd1;rwa [za] at this
 refine(start_spec D.T hcp rfl hq D.t D.sb w1 (fun _=>hCb) hbs hP).mono ?_;rintro e w' ⟨rfl,F',f',kk,T',E',hF'⟩;refine⟨rfl,kk,fun most hm hmo=>?_⟩;have n1:¬F' V.t:=fun e=>(hF' _ e).elim D.t fun e=>by omega
 have n2:¬F' sb:=fun e=>(hF' _ e).elim D.sb fun e=>by omega
 refine(run_spec T' hcp hq E' n1 n2 hm hmo (kk.rd_some w1 fun e=>e.elim (fun e=>e.2 hCb) hbs) (fun _=>hCb) hbs).mono ?_;rintro e w'' ⟨rfl,F'',f'',⟨S',fp',G,gt,nn,la,ca,pg',cnt,hd,rfl,hG,X',hc',L',A',hp,hg,hR⟩,T'',_,_,k2⟩;have hcpu:cpu<S'.AO:=by
  have h1:=D.n;have h2:S'.AO=S.AO:=by unfold AL.AO;rw [hc',D.c]
  omega
 refine⟨rfl,S',fp',G,gt,nn,la,ca,pg',cnt,hd,hG,X',hc',L',A',hp,hcpu,(fun f e=>(hg f e).imp fun g ⟨o,cp,h1,_,h3⟩=>⟨o,cp,h1,h3⟩),hR,kk.trans k2 fun x hx e=>?_⟩;rcases e with e|e
 ·rcases hF' x e.1 with h|h
  ·exact .inl ⟨h,e.2⟩
  ·omega
 ·exact .inr e
section
variable {w0 W:WD}{pf nf:Nat->Int}{B:BP}{β:Nat->Nat}{S:AL}{fp:Prt->Nat->Prop}{FR:NP}{rt lf:Nat}{pg:Nat->Pg}{pin:Nat->Bool}{ta:OA}{tl tc:Nat}{A:List Nat}
def midB(B:BP)(rt lf:Nat)(ta:OA)(tl tc:Nat):List Value:=AK .i64 B.x0 0 94++([Value.slice B.pa B.pl B.pc,Value.slice B.ia B.il B.ic]++(AK .i64 B.x96 0 8++[vi rt,vi lf,.slice ta tl tc]))
def wvB(B:BP)(β:Nat->Nat)(rt lf:Nat)(ta:OA)(tl tc:Nat):Wv:=⟨β 23,B.kp,β 5,midB B rt lf ta tl tc,β 9,β 13,β 17,β 21,B.n⟩
theorem JI{n:Nat}:List.replicate n (vi 0)=AK .i64 (fun _=>0) 0 n:=E6 (by simp) fun j hj=>by rw [List.getElem?_replicate,if_pos hj]
theorem DQ.w{r l:Nat}(h:DQ W B β r l (.slice ta tl tc))(hn:B.n<=16)(dj:∀s∈JS,∀t∈JS,s≠t->β s≠β t):WAt W (wvB B β r l ta tl tc) (fun _=>.slice none 0 0) (fun _=>0) (fun _=>0) (fun _=>0):=by
 have d:∀s t,s∈JS->t∈JS->s≠t->β s≠β t:=fun s t a b c=>dj s a t b c;refine⟨?_,by simp [wvB,midB,AI],hn,?_,JI▸h.n,JI▸h.a,JI▸h.c,⟨d _ _ (by decide) (by decide) (by decide),d _ _ (by decide) (by decide) (by decide),d _ _ (by decide) (by decide) (by decide),d _ _ (by decide) (by decide) (by decide),d _ _ (by decide) (by decide) (by decide),d _ _ (by decide) (by decide) (by decide)⟩,?_⟩
 ·have:B.wr β r l (.slice ta tl tc)=[ptr (wvB B β r l ta tl tc).k,ptr (wvB B β r l ta tl tc).t]++(wvB B β r l ta tl tc).mid++[.slice (some ⟨β 9,0,none⟩) B.n B.n,.slice (some ⟨β 13,0,none⟩) B.n B.n,.slice (some ⟨β 17,0,none⟩) B.n B.n,.slice (some ⟨β 21,0,none⟩) B.n B.n]:=by
   simp [BP.wr,BP.pre,wvB,midB]
  have o:=h.so;rw [this] at o;exact o
 ·have:(List.range B.n).map (fun _=>Value.slice none 0 0)=List.replicate B.n nl:=by
   refine List.ext_getElem? fun i=>?_;rw [gmp,List.getElem?_replicate];by_cases hi:i<B.n
   ·rw [List.getElem?_range hi,if_pos hi];rfl
   ·rw [if_neg hi,gen (by simpa using hi)];rfl
  show own W (β 9) ((List.range B.n).map fun _=>_)
  rw [this];exact h.g
 ·rintro (e|e|e|e)
  ·exact d 23 9 (by decide) (by decide) (by decide) e
  ·exact d 23 13 (by decide) (by decide) (by decide) e
  ·exact d 23 17 (by decide) (by decide) (by decide) e
  ·exact d 23 21 (by decide) (by decide) (by decide) e
def ER(FR:NP)(β:Nat->Nat)(ab:Nat)(x:Nat):Prop:=(FR x/\x≠β 5/\x≠β 25)\/x=ab
theorem Begun.rdy(h:Begun w0 pf nf B β S fp FR rt lf pg pin ta tl tc A W){W1:WD}(kk:Kept AB W W1){ab:Nat}(h1:W.heap.size<=ab)(h2:ab<W1.heap.size) :
 Rdy W1 (wvB B β rt lf ta tl tc) (β 25) B.x0 S fp (ER FR β ab) rt lf pg pin A B.pl:=by
 have C:=h.L.G.X.C;have hs:=C.BO;have dj:=h.dj;have d:∀s t,s∈JS->t∈JS->s≠t->β s≠β t:=fun s t a b c=>dj s a t b c;have hlt:=h.L.G.X.lt;have m5:=h.L.DY (β 5) (by simp [BT]);have m25:=h.L.DY (β 25) (by simp [BT]);have l5:=hlt _ m5;have l25:=hlt _ m25;refine⟨⟨C.k kk,fun x hx=>?_,fun p x hp hx=>?_⟩,(h.L.R.w (by rw [h.n];omega) dj).k kk,⟨h.L.R.t.k kk,h.L.R.ts.k kk,d 5 25 (by decide) (by decide) (by decide)⟩,h.Q,h.c,h.n,?_,?_,?_⟩
 ·rcases hx with hx|rfl
  ·exact nll (hlt x hx.1) kk.sz
  ·exact h2
 ·rcases hx with hx|rfl
  ·exact h.L.G.X.dj p x hp hx.1
  ·have:=(C.lt p x hp).2;omega
 ·rintro x (rfl|rfl|rfl|rfl|rfl)
  ·exact .inl ⟨h.L.DY _ (by simp [BT,wvB]),d 23 5 (by decide) (by decide) (by decide),d 23 25 (by decide) (by decide) (by decide)⟩
  ·exact .inl ⟨h.L.DY _ (by simp [BT,wvB]),d 9 5 (by decide) (by decide) (by decide),d 9 25 (by decide) (by decide) (by decide)⟩
  ·exact .inl ⟨h.L.DY _ (by simp [BT,wvB]),d 13 5 (by decide) (by decide) (by decide),d 13 25 (by decide) (by decide) (by decide)⟩
  ·exact .inl ⟨h.L.DY _ (by simp [BT,wvB]),d 17 5 (by decide) (by decide) (by decide),d 17 25 (by decide) (by decide) (by decide)⟩
  ·exact .inl ⟨h.L.DY _ (by simp [BT,wvB]),d 21 5 (by decide) (by decide) (by decide),d 21 25 (by decide) (by decide) (by decide)⟩
 ·rintro (⟨p,hp⟩|hx|hx)
  ·exact h.L.G.X.dj p _ hp m5
  ·exact hx.2.1 rfl
  ·have:β 5=ab:=hx;omega
 ·rintro (⟨p,hp⟩|hx|hx)
  ·exact h.L.G.X.dj p _ hp m25
  ·exact hx.2.2 rfl
  ·have:β 25=ab:=hx;omega
end
end Go.Proofs.YtdgbechegbmpcaaGreatDoor
