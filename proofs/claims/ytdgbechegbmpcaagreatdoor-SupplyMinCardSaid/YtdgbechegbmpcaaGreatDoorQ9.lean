/- Part of a proof that a law returns true. Conditions: those in each theorem. -/
import Derived.Test.YtdgbechegbmpcaaGreatDoorT8
set_option linter.unusedSimpArgs false
set_option linter.unusedVariables false
set_option maxRecDepth 100000
namespace Go.Proofs.YtdgbechegbmpcaaGreatDoor
open Go Go.Eng Go.Proofs.Tryz
open Go.Value (bool func slice agg int)
open Option (isNone)
open Go.IntKind (wrap)
open List (replicate range)
variable {X:NP}{w':WD}{Y b c f i j l m:Nat}{a:OA}{by' g:NI}{high:Bool}{l':List Bk}{β β':Nat->Nat}
structure TabAt(w:WD)(t sb n:Nat)(f:Nat->Value×Int):Prop where
 so:AX w t [.slice (some ⟨sb,0,none⟩) n n]
 fs:AX w sb (D4 n λi=>[(f i).1,vi (f i).2])
 ne:t≠sb
section
variable {w:WD}{t sb n:Nat}{f:Nat->Value×Int}
theorem TabAt.kx(h:TabAt w t sb n f)(k:AB X w w')(h1:¬X t)(h2:¬X sb):TabAt w' t sb n f:=⟨h.so.kx k h1,h.fs.kx k h2,h.ne⟩
theorem TabAt.get(h:TabAt w t sb n f)(hi:i<n):rd w sb (i*2)=some (f i).1/\rd w sb (i*2+1)=some (vi (f i).2)/\wr w sb (i*2)/\wr w sb (i*2+1):=by
 have g:∀j,j<2->rd w sb (i*2+j)=[(f i).1,vi (f i).2][j]? := λj hj=>by
  rw [h.fs.rd];exact ES (s:=2) (f:=λi=>[(f i).1,vi (f i).2]) (λ_ _=>rfl) hi hj
 have hlen:(D4 n λi=>[(f i).1,vi (f i).2]).length=n*2:=DE (λ_ _=>rfl);exact⟨g 0 (by omega),g 1 (by omega),h.fs.wr (by rw [hlen];omega),h.fs.wr (by rw [hlen];omega)⟩
theorem TabAt.C67(h:TabAt w t sb n f)(hi:i<n){v:Value}(e:w'=st w sb (i*2) v):TabAt w' t sb n (upd f i (v,(f i).2))/\AB (·=sb) w w':=by
 have k2:AB (·=sb) w w':=e▸kr.st (.inl rfl);have o2:=h.fs.s1 (o:=i*2+0) e;rw [DN (s:=2) (λ_ _=>rfl) hi (by omega)] at o2;refine⟨⟨h.so.kx k2 h.ne,?_,h.ne⟩,k2⟩;have:(upd (λi=>[(f i).1,vi (f i).2]) i (List.set [(f i).1,vi (f i).2] 0 v))=λj=>[(upd f i (v,(f i).2) j).1,vi (upd f i (v,(f i).2) j).2]:=by
  funext j;by_cases e:j=i
  .subst e;rw [AF,AF];rfl
  .rw [AI _ _ e,AI _ _ e]
 rw [this] at o2;exact o2
theorem TabAt.put1(h:TabAt w t sb n f)(hi:i<n){v:Int}(e:w'=st w sb (i*2+1) (vi v)):TabAt w' t sb n (upd f i ((f i).1,v))/\AB (·=sb) w w':=by
 have k2:AB (·=sb) w w':=e▸kr.st (.inl rfl);have o2:=h.fs.s1 (o:=i*2+1) e;rw [DN (s:=2) (λ_ _=>rfl) hi (by omega)] at o2;refine⟨⟨h.so.kx k2 h.ne,?_,h.ne⟩,k2⟩;have:(upd (λi=>[(f i).1,vi (f i).2]) i (List.set [(f i).1,vi (f i).2] 1 (vi v)))=λj=>[(upd f i ((f i).1,v) j).1,vi (upd f i ((f i).1,v) j).2]:=by
  funext j;by_cases e:j=i
  .subst e;rw [AF,AF];rfl
  .rw [AI _ _ e,AI _ _ e]
 rw [this] at o2;exact o2
theorem A3x(h:TabAt w t sb n f):Calls prog 126 #[AP t] w λe w'=>e=.returned (vi n)/\w'=w:=by
 refine Calls.ret (vc126 _ w _ ?_);unfold Q;exact AL rfl (AA rfl ⟨_,_,_,by show rd w t 0=_;rw [h.so.rd];rfl,rfl,rfl⟩)
theorem A05(h:TabAt w t sb n f)(hi:i<n):Calls prog 45 #[AP t,vi i] w λe w'=>e=.returned (.pointer (some ⟨sb,i*2,none⟩))/\w'=w:=by
 refine Calls.ret (vc45 _ i w _ ?_);unfold Q;refine AL (by simp) ((A3x h).AE ?_);rintro _ wx ⟨rfl,hwx⟩;rw [hwx];refine⟨_,rfl,AL (by simp;omega) (AA rfl ⟨_,_,_,by show rd w t 0=_;rw [h.so.rd];rfl,AA rfl (Wi ⟨?_,rfl⟩)⟩)⟩
 show Ending.returned (.pointer (some ⟨sb,0+Int.toNat (i:Int)*2,none⟩))=_
 rw [tnc,za]
theorem PJ(h:TabAt w t sb n f)(hi:i<n)(ho:okF (f i).1=true):Calls prog 13 #[AP t,vi i] w λe w'=>e=.returned (.bool (isF (f i).1))/\w'=w:=by
 refine Calls.ret (vc13 _ i w _ ?_);unfold Q;refine(A05 h hi).AE ?_;rintro _ wx ⟨rfl,hwx⟩;rw [hwx];exact⟨_,rfl,AJ (λ_=>rfl) ⟨(f i).1,λ_=>(h.get hi).1,AJ (λ_=>ho) ⟨rfl,rfl⟩⟩⟩
theorem A0k(h:TabAt w t sb n f):Calls prog 46 #[AP t] w λe w'=>e=.returned (.bool true)/\w'=w:=by
 refine Calls.ret (vc46 _ w _ ?_);unfold Q;exact AJ (λ_=>rfl) ⟨_,_,_,λ_=>by show rd w t 0=_;rw [h.so.rd];rfl,rfl,rfl⟩
end
abbrev Cn.at(Z:Cn)(i:Nat):Cn:={Z with me:=i}
section
variable {Z:Cn}{N n m i:Nat}{t t':SqT}{G G' F F':NP}{w w':WD}{v:Value}{vs:Nat->Value}{sb:Nat}{f:Nat->Value×Int}
theorem Safe.le(hal:¬Z.al):∀{n:Nat}{t:SqT}{v:Value}{F:NP}{w:WD},Safe Z (n+1) t v F w->Safe Z n t v F w
 | 0,_,_,_,_,_=>.inl hal
 | n+1,_,_,_,_,h=>by
  rcases h with h|⟨h1,h2⟩
  .exact .inl h
  .refine .inr ⟨h1,λW t1 G fl a b c d=>AT (h2 W t1 G fl a b c d) ?_⟩;rintro e W' ⟨v',t',F',G',g1,g2,g3,g4,g5⟩;exact⟨v',t',F',G',g1,g2,g3,g4,Safe.le hal g5⟩
theorem Safe.leN(hal:¬Z.al){t:SqT}{v:Value}{F:NP}{w:WD}:∀{n m:Nat},m<=n->Safe Z n t v F w->Safe Z m t v F w
 | 0,m,h,s=>by rw [Nat.le_zero.1 h];exact s
 | n+1,m,h,s=>by
  by_cases e:m=n+1
  .rw [e];exact s
  .exact Safe.leN hal (n:=n) (by omega) (Safe.le hal s)
theorem Pt.out(P:Pt Z t G F w)(kk:AB X w w')(hX:∀x,X x->Z.rb x/\¬Z.rl x):Pt Z t G F w':=by
 obtain⟨fp,X0⟩:=P.X;exact⟨P.inv,⟨fp,⟨X0.C.kx kk λx q h hq=>X0.dj q x hq (.inr (.inr (hX x h).1)),λx h=>nll (X0.lt x h) kk.sz,X0.dj⟩⟩,P.wa.kx kk λx h h2=>P.ok.rr x h2 (hX x h).1,P.gr,P.fg,P.ok,P.ok.ro _ _ _ P.ro kk λx h=>(hX x h).2⟩
theorem Pt.me(P:Pt (Z.at i) t G F w)(hal:¬Z.al)(hj:j<Z.V.n)(hF:∀x,F' x->G x):Pt (Z.at j) t G F' w:=
 ⟨⟨P.inv.q,P.inv.c,P.inv.pl,P.inv.ls,P.inv.no,λa=>absurd a hal⟩,P.X,P.wa,P.gr,hF,⟨P.ok.k,P.ok.n,hj,P.ok.ls,P.ok.ro,P.ok.rl,P.ok.rr,P.ok.nd⟩,P.ro⟩
structure All(Z:Cn)(n:Nat)(vs:Nat->Value)(t:SqT)(G:NP)(w:WD):Prop where
 al:¬Z.al
 ex:∃(ts:Nat->SqT) (Fs:Nat->Nat->Prop),(∀i,i<Z.V.n->Pt (Z.at i) t G (Fs i) w/\Safe (Z.at i) n (ts i) (vs i) (Fs i) w/\E7 (Z.at i) (ts i) t/\okF (vs i)=true)/\∀i j x,i<Z.V.n->j<Z.V.n->Fs i x->Fs j x->i=j
theorem All.out(h:All Z n vs t G w)(kk:AB X w w')(hX:∀x,X x->Z.rb x/\¬Z.rl x):All Z n vs t G w':=by
 obtain⟨al,ts,Fs,h,dj⟩:=h;refine⟨al,ts,Fs,λi hi=>?_,dj⟩;obtain⟨a,b,c,d⟩:=h i hi;exact⟨a.out kk hX,b.env (kk.AE λx _ h e=>a.gr x (.inr (hX x h).1) (a.fg x e)),c,d⟩
theorem All.k(h:All Z n vs t G w)(kk:AB AD w w'):All Z n vs t G w':=h.out kk λ_ e=>e.elim
theorem All.ok(h:All Z n vs t G w)(hi:i<Z.V.n):okF (vs i)=true:=by
 obtain⟨al,ts,Fs,h,dj⟩:=h;exact (h i hi).2.2.2
theorem All.pt(h:All Z n vs t G w)(hi:i<Z.V.n):∃F,Pt (Z.at i) t G F w:=by
 obtain⟨al,ts,Fs,h,dj⟩:=h;exact⟨_,(h i hi).1⟩
theorem All.go(al:¬Z.al){ts:Nat->SqT}{Fs:Nat->Nat->Prop}(h:∀i,i<Z.V.n->Pt (Z.at i) t G (Fs i) w/\Safe (Z.at i) n (ts i) (vs i) (Fs i) w/\E7 (Z.at i) (ts i) t/\okF (vs i)=true)(dj:∀i j x,i<Z.V.n->j<Z.V.n->Fs i x->Fs j x->i=j)(hi:i<Z.V.n)(hm:m<=n)(ho:okF v=true)(P':Pt (Z.at i) t' G' F' w')(mo:Mo (Z.at i) t G (Fs i) w t' G' F' w')(S':Safe (Z.at i) m t' v F' w'):All Z m (upd vs i v) t' G' w'/\AB (λx=>¬Z.rb x) w w':=by
 refine⟨⟨al,upd ts i t',upd Fs i F',λj hj=>?_,λa b x ha hb h1 h2=>?_⟩,mo.k.AE λx _ e hr=>e.elim (λe=>e.2 hr) λe=>(h i hi).1.gr x (.inr hr) ((h i hi).1.fg x e)⟩
 .by_cases e:j=i
  .subst e;rw [AF,AF,AF];exact⟨P',S',E7.refl _ _,ho⟩
  .rw [AI _ _ e,AI _ _ e,AI _ _ e];obtain⟨a,b,c,d⟩:=h j hj;obtain⟨o1,o2,o3⟩:=mo.o.1 j e;refine⟨P'.me al hj λx hx=>mo.g x (a.fg x hx),(Safe.leN (Z:=Z.at j) al hm b).env (mo.k.AE λx _ hx hf=>?_),⟨⟨o1.trans c.1.1,o2.trans c.1.2.1,o3.trans c.1.2.2.1,Nat.le_trans mo.o.2 c.1.2.2.2⟩,λh=>absurd h al⟩,d⟩;rcases hx with hx|hx
   .exact hx.1 (a.fg x hf)
   .exact e (dj j i x hj hi hf hx)
 .have key:∀j x,j<Z.V.n->j≠i->Fs j x->F' x->False:=λj x hj e h1 h2=>by
   rcases mo.f x h2 with h3|h3
   .exact e (dj j i x hj hi h1 h3)
   .have:=(h j hj).1.lt h1;have:=h3.1;omega
  by_cases ea:a=i
  .by_cases eb:b=i
   .rw [ea,eb]
   .rw [AI _ _ eb] at h2;rw [ea,AF] at h1;exact (key b x hb eb h2 h1).elim
  .rw [AI _ _ ea] at h1;by_cases eb:b=i
   .rw [eb,AF] at h2;exact (key a x ha ea h1 h2).elim
   .rw [AI _ _ eb] at h2;exact dj a b x ha hb h1 h2
theorem All.step(h:All Z (n+1) vs t G w)(hi:i<Z.V.n)(hv:isF (vs i)=true)(fl:Bool):AN prog (vs i) [.bool fl] w λe w'=>∃(v:Value) (t':SqT) (G':NP),e=.returned v/\okF v=true/\All Z n (upd vs i v) t' G' w'/\AB (λx=>¬Z.rb x) w w':=by
 obtain⟨al,ts,Fs,h,dj⟩:=h;obtain⟨a,b,c,d⟩:=h i hi;rcases b with⟨e,_⟩|⟨_,h2⟩
 .rw [e] at hv;cases hv
 refine AT (h2 w t G fl a c kr λx=>absurd x al) ?_;rintro e W' ⟨v',t',F',G',rfl,g2,g3,g4,g5⟩;obtain⟨A,k⟩:=All.go al h dj hi (Nat.le_succ n) g2 g3 g4 g5;exact⟨v',t',G',rfl,g2,A,k⟩
def A5r(Z:Cn)(sb:Nat):Prop:=Z.rb Z.V.t/\Z.rb sb/\¬Z.rl sb
theorem B6f(T:TabAt w Z.V.t sb Z.V.n f)(ho:∀i,i<Z.V.n->okF (f i).1=true)(c:Int):Calls prog 13 #[AP Z.V.t,vi c] w λe w'=>∃b:Bool,e=.returned (.bool b)/\w'=w/\(b=true->∃i:Nat,c=i/\i<Z.V.n/\isF (f i).1=true):=by
 by_cases hc:0<=c/\c<(Z.V.n:Int)
 .obtain⟨i,rfl⟩:∃i:Nat,c=i:=⟨c.toNat,by omega⟩;refine(PJ T (i:=i) (by omega) (ho i (by omega))).AE ?_;rintro _ _ ⟨rfl,rfl⟩;exact⟨_,rfl,rfl,λh=>⟨i,rfl,by omega,h⟩⟩
 have tat:Calls prog 45 #[AP Z.V.t,vi c] w λe w'=>e=.returned (.pointer none)/\w'=w:=by
  refine Calls.ret (vc45 _ c w _ ?_);unfold Q;refine AH (λ_=>⟨rfl,rfl⟩) λh=>(A3x T).AE ?_;rintro _ _ ⟨rfl,rfl⟩;have h:¬(c<0):=by simpa using h
  exact⟨_,rfl,AA (by simp;omega) ⟨rfl,rfl⟩⟩
 refine Calls.ret (vc13 _ c w _ ?_);unfold Q;refine tat.AE ?_;rintro _ wx ⟨rfl,hwx⟩;rw [hwx];refine⟨none,rfl,AJ (λh=>by cases h) ⟨.nilFunc,(λh=>by cases h),AJ (λh=>by cases h) ⟨false,rfl,rfl,λh=>by cases h⟩⟩⟩
theorem C0t{R:Value->WD->Prop}{fl:Bool}(T:TabAt w Z.V.t sb Z.V.n f)(hb:A5r Z sb)(hi:i<Z.V.n)(hf:isF (f i).1=true)(H:∀w1,AB (·=sb) w w1->AN prog (f i).1 [.bool fl] w1 λe w2=>∃v,e=.returned v/\okF v=true/\R v w2/\AB (λx=>¬Z.rb x) w1 w2)(hR:∀v w2 w3,R v w2->AB (·=sb) w2 w3->R v w3) :
 Calls prog 14 #[AP Z.V.t,vi i,.bool fl] w λe w'=>∃(b:Bool) (f':Nat->Value×Int) (v:Value),e=.returned (.tuple #[.bool b,vi 0])/\TabAt w' Z.V.t sb Z.V.n f'/\(λj=>(f' j).1)=upd (λj=>(f j).1) i v/\okF v=true/\R v w'/\AB (λx=>¬Z.rb x\/x=sb) w w':=by
 refine Calls.ret (vc14 _ i fl w _ ?_);unfold Q;have ho:=GF hf;refine(A05 T hi).AE ?_;rintro _ wx ⟨rfl,hwx⟩;rw [hwx];refine⟨_,rfl,(A0k T).AE ?_⟩;rintro _ wy ⟨rfl,hwy⟩;rw [hwy];obtain⟨g0,g1,g2,g3⟩:=T.get hi;refine⟨_,rfl,AL rfl (AL rfl (AA rfl ⟨_,g0,AA ho (AL (by rw [hf];rfl) (AA rfl ⟨_,g1,AA rfl ⟨g3,λw1 e1=>?_⟩⟩))⟩))⟩;obtain⟨T1,k1⟩:=T.put1 hi e1;have gg:=(T1.get hi).1;rw [AF] at gg;refine AA rfl ⟨_,gg,AT (H w1 k1) ?_⟩;rintro _ w2 ⟨v',rfl,o',A2,k2⟩;have T2:=T1.kx k2 (λe=>e hb.1) (λe=>e hb.2.1);refine⟨v',rfl,AA rfl (AA o' ⟨(T2.get hi).2.2.1,λw3 e3=>?_⟩)⟩;obtain⟨T3,k3⟩:=T2.C67 hi e3;have g3':=(T3.get hi).1;rw [AF] at g3';refine AA rfl ⟨v',g3',AA o' ⟨_,_,v',rfl,T3,?_,o',hR _ _ _ A2 k3,((k1.AE λx _ e=>.inr e).trans (k2.AE λx _ e=>.inl e) λ_ _ e=>e).trans (k3.AE λx _ e=>.inr e) λ_ _ e=>e⟩⟩;funext j;by_cases e:j=i
 .subst e;simp only [AF]
 .rw [AI _ _ e,AI _ _ e,AI _ _ e]
theorem run1(h:All Z (n+1) (λi=>(f i).1) t G w)(T:TabAt w Z.V.t sb Z.V.n f)(hb:A5r Z sb)(hi:i<Z.V.n)(hf:isF (f i).1=true)(fl:Bool) :
 Calls prog 14 #[AP Z.V.t,vi i,.bool fl] w λe w'=>∃(b:Bool) (f':Nat->Value×Int) (t':SqT) (G':NP),e=.returned (.tuple #[.bool b,vi 0])/\TabAt w' Z.V.t sb Z.V.n f'/\All Z n (λi=>(f' i).1) t' G' w'/\AB (λx=>¬Z.rb x\/x=sb) w w':=by
 have hs:∀x,x=sb->Z.rb x/\¬Z.rl x:=λx e=>e▸⟨hb.2.1,hb.2.2⟩;refine(C0t (R:=λv w'=>∃t' G',All Z n (upd (λi=>(f i).1) i v) t' G' w') T hb hi hf (λw1 k1=>AT ((h.out k1 hs).step hi hf fl) ?_) λv w2 w3 ⟨t',G',A⟩ k=>⟨t',G',A.out k hs⟩).AE ?_
 .rintro e w2 ⟨v,t',G',a,b,c,d⟩;exact⟨v,a,b,⟨t',G',c⟩,d⟩
 .rintro e w' ⟨b,f',v,a,T',e',_,⟨t',G',A⟩,k⟩;rw [<- e'] at A;exact⟨b,f',t',G',a,T',A,k⟩
theorem B6v{R:Value->WD->Prop}(T:TabAt w Z.V.t sb Z.V.n f)(hb:A5r Z sb)(hi:i<Z.V.n)(hnil:(f i).1=.nilFunc)(hP:Calls prog 43 #[AP Z.V.b,vi i,.slice a l c] w λe w1=>∃v,e=.returned v/\okF v=true/\R v w1/\rd w1 Z.V.b 1=some (AP Z.V.t)/\AB (λx=>¬Z.rb x) w w1)(hR:∀v w2 w3,R v w2->AB (·=sb) w2 w3->R v w3) :
 Calls prog 12 #[AP Z.V.b,vi i,.slice a l c] w λe w'=>e=.returned (.bool true)/\∃(f':Nat->Value×Int) (v:Value),TabAt w' Z.V.t sb Z.V.n f'/\(λj=>(f' j).1)=upd (λj=>(f j).1) i v/\okF v=true/\R v w'/\AB (λx=>¬Z.rb x\/x=sb) w w':=by
 refine Calls.ret (vc12 _ i a l c w _ ?_);unfold Q;refine hP.AE ?_;rintro e w1 ⟨v,rfl,hok,hRv,hw1,k1⟩;have T1:=T.kx k1 (λe=>e hb.1) (λe=>e hb.2.1);refine⟨v,rfl,AA hok (AJ (λ_=>rfl) ⟨some ⟨Z.V.t,0,none⟩,(λ_=>by show rd w1 Z.V.b (0+1)=_;rw [za];exact hw1),AH (λhn=>?_) (λhn=>?_)⟩)⟩
 .have hv:v=.nilFunc:=by
   have hn:isF v=false:=by simpa using hn
   cases v <;> simp [okF,isF] at hok hn ⊢
  subst hv;refine⟨rfl,f,_,T1,?_,rfl,hRv,k1.AE λx _ e=>.inl e⟩;funext j;by_cases e:j=i
  .subst e;rw [AF,hnil]
  .rw [AI _ _ e]
 .have hv:isF v=true:=by simpa using hn
  refine Calls.ret (vc44 _ i v w1 _ ?_);unfold Q;refine(A05 T1 hi).AE ?_;rintro _ wx ⟨rfl,hwx⟩;rw [hwx];refine⟨_,rfl,(A0k T1).AE ?_⟩;rintro _ wy ⟨rfl,hwy⟩;rw [hwy];obtain⟨r0,_,r2,_⟩:=T1.get hi;rw [hnil] at r0;refine⟨true,rfl,AL rfl (AJ (λ_=>hok) (AL (by rw [hv];rfl) (AA rfl ⟨.nilFunc,r0,AA rfl (AL rfl (AA rfl (AA hok ⟨r2,λw2 e2=>?_⟩)))⟩)))⟩;have e2:w2=st w1 sb (i*2) v:=e2;obtain⟨T2,k2⟩:=T1.C67 hi e2;refine⟨_,rfl,rfl,_,v,T2,?_,hok,hR _ _ _ hRv k2,(k1.AE λx _ e=>.inl e).trans (k2.AE λx _ e=>.inr e) λ_ _ e=>e⟩;funext j;by_cases e:j=i
  .subst e;rw [AF,AF]
  .rw [AI _ _ e,AI _ _ e]
theorem C0j(h:All Z n (λi=>(f i).1) t G w)(T:TabAt w Z.V.t sb Z.V.n f)(hb:A5r Z sb)(hi:i<Z.V.n)(hnil:(f i).1=.nilFunc)(h0:t.tk i=Tk.no)(hg:t.r.gt i=.slice none 0 0)(hh:t.hh i=[])(hQ:∀t F w,Z.Q t F w){ws:List (Int×Int)}(hr:∀W,Z.ro W->IN W a l c ws) :
 Calls prog 12 #[AP Z.V.b,vi i,.slice a l c] w λe w'=>e=.returned (.bool true)/\∃(f':Nat->Value×Int) (t':SqT) (G':NP),TabAt w' Z.V.t sb Z.V.n f'/\All Z n (λi=>(f' i).1) t' G' w'/\AB (λx=>¬Z.rb x\/x=sb) w w'/\∀j,j≠i->(f' j).1=(f j).1/\t'.tk j=t.tk j/\t'.hh j=t.hh j/\t'.r.gt j=t.r.gt j:=by
 have hs:∀x,x=sb->Z.rb x/\¬Z.rl x:=λx e=>e▸⟨hb.2.1,hb.2.2⟩;obtain⟨al,ts,Fs,H,dj⟩:=h;obtain⟨P,_,_,_⟩:=H i hi;refine(B6v (R:=λv w'=>∃t' G',All Z n (upd (λi=>(f i).1) i v) t' G' w'/\∀j,j≠i->t'.tk j=t.tk j/\t'.hh j=t.hh j/\t'.r.gt j=t.r.gt j) T hb hi hnil ((B4o (Z:=Z.at i) al hQ ws P h0 ⟨none,0,by rw [hg,hh];rfl,by rw [hh];exact DT.MG,λx hx=>by cases hx⟩ hr).AE ?_) λv w2 w3 ⟨t',G',A,o⟩ k=>⟨t',G',A.out k hs,o⟩).AE ?_
 .rintro e w1 ⟨v,rfl,v',t',F',G',e',hok,P',mo,R⟩
  cases e'
  obtain⟨A1,k1⟩:=All.go al H dj hi (nlr n) hok P' mo (R n λa=>absurd a al);exact⟨v,rfl,hok,⟨t',G',A1,mo.o.1⟩,(by have:=P'.wa.rd1;rwa [za] at this),k1⟩
 .rintro e w' ⟨a,f',v,T',e',_,⟨t',G',A,o⟩,k⟩;rw [<- e'] at A;refine⟨a,f',t',G',T',A,k,λj hj=>⟨?_,o j hj⟩⟩;have:=congrFun e' j
  rwa [AI _ _ hj] at this
theorem B0l(hal:Z.al)(hb:A5r Z sb){most:Nat}(hmo:most<=1000000)(P:Pt Z t G F w)(T:TabAt w Z.V.t sb Z.V.n f)(S:Safe Z most t (f Z.me).1 F w)(ho:okF (f Z.me).1=true)(hVb:¬Z.rb Z.V.b) :
 Calls prog 21 #[AP Z.V.b,vi Z.me,vi most] w λe w'=>e=.returned (.bool true)/\∃(t':SqT) (G' F':NP),Pt Z t' G' F' w'/\Z.Q t' F' w'/\AB (λx=>¬Z.rb x\/x=sb) w w':=by
 have hs:∀x,x=sb->Z.rb x/\¬Z.rl x:=λx e=>e▸⟨hb.2.1,hb.2.2⟩;have hi:=P.ok.me;refine Calls.ret (vc21 _ Z.me most w _ ?_);unfold Q;refine⟨λj W N=>∃(q:Nat) (f':Nat->Value×Int) (t':SqT) (G' F':NP),j=q/\q<=most/\N=most-q/\TabAt W Z.V.t sb Z.V.n f'/\okF (f' Z.me).1=true/\Pt Z t' G' F' W/\Safe Z (most-q) t' (f' Z.me).1 F' W/\AB (λx=>¬Z.rb x\/x=sb) w W,
  ⟨most,0,f,t,G,F,rfl,Nat.zero_le _,rfl,T,ho,P,S,AB.refl _ _⟩,?_⟩
 rintro _ W _ ⟨q,f',t',G',F',rfl,hqm,rfl,T',ho',P',S',kk⟩;have rb:rd W Z.V.b (0+1)=some (AP Z.V.t):=P'.wa.rd1;have fin:∀(hx:isF (f' Z.me).1=false),Calls prog 13 #[AP Z.V.t,vi Z.me] W λe w'=>∃b:Bool,e=.returned (.bool b)/\(.returned (.bool !b)=Ending.returned (.bool true)/\∃(t':SqT) (G' F':NP),Pt Z t' G' F' w'/\Z.Q t' F' w'/\AB (λx=>¬Z.rb x\/x=sb) w w'):=λhx=>by
  refine(PJ T' hi ho').AE ?_;rintro _ w2 ⟨rfl,hw2⟩;rw [hw2];refine⟨_,rfl,by rw [hx];rfl,t',G',F',P',?_,kk⟩;generalize most-q=m at S'
  cases m with
  | zero=>exact (S'.resolve_left λh=>h hal).2 t' W (E7.refl _ _) kr
  | succ m=>
   rcases S' with⟨_,h⟩|⟨h,_⟩
   .exact h t' W (E7.refl _ _) kr
   .rw [h] at hx;cases hx
 refine AJ (λ_=>rfl) ⟨some ⟨Z.V.t,0,none⟩,λ_=>rb,AH (λhc=>?_) (λhc=>?_)⟩
 .have hql:q<most:=by simp at hc;omega
  refine(PJ T' hi ho').AE ?_;rintro _ w2 ⟨rfl,hw2⟩;rw [hw2];refine⟨_,rfl,AH (λhbz=>?_) (λhbz=>?_)⟩
  .refine AA rfl ⟨some ⟨Z.V.t,0,none⟩,rb,?_⟩;rw [show most-q=(most-(q+1))+1 by omega] at S';rcases S' with⟨h,_⟩|⟨_,h2⟩
   .rw [h] at hbz;cases hbz
   refine(C0t (R:=λv w'=>∃t2 G2 F2,Pt Z t2 G2 F2 w'/\Safe Z (most-(q+1)) t2 v F2 w') (fl:=false) T' hb hi hbz (λw1 k1=>AT (h2 w1 t' G' false (P'.out k1 hs) (E7.refl _ _) (k1.AE λx _ e h=>P'.gr x (.inr (hs x e).1) (P'.fg x h)) λ_=>rfl) ?_) λv w2 w3 ⟨t2,G2,F2,A,B⟩ k=>⟨t2,G2,F2,A.out k hs,B.env (k.AE λx _ e h=>A.gr x (.inr (hs x e).1) (A.fg x h))⟩).AE ?_
   .rintro e w2 ⟨v,t2,F2,G2,a,b,c,d,e'⟩;exact⟨v,a,b,⟨t2,G2,F2,c,e'⟩,d.k.AE λx _ h hr=>h.elim (λh=>h.2 hr) λh=>P'.gr x (.inr hr) (P'.fg x h)⟩
   .rintro _ w3 ⟨b,f2,v,rfl,T2,e2,o2,⟨t2,G2,F2,A,B⟩,k3⟩;have ev:(f2 Z.me).1=v:=by
     have:=congrFun e2 Z.me
     rwa [AF] at this
    exact⟨_,_,rfl,most-(q+1),by omega,q+1,f2,t2,G2,F2,wzz,hql,rfl,T2,by rw [ev];exact o2,A,by rw [ev];exact B,kk.trans k3 λ_ _ h=>h⟩
  .exact AA rfl ⟨some ⟨Z.V.t,0,none⟩,rb,fin hbz⟩
 .have hqe:q=most:=by simp at hc;omega
  have hz:isF (f' Z.me).1=false:=by
   rw [show most-q=0 by omega] at S';rw [(S'.resolve_left λh=>h hal).1];rfl
  exact AA rfl ⟨some ⟨Z.V.t,0,none⟩,rb,fin hz⟩
end
theorem A1m(root:Int)(w:WD):Calls prog 35 #[vi root] w λe w'=>∃b,e=.returned (AP b)/\AB AD w w'/\EX w' (rng w w') b root 0:=by
 refine(vc35 root w (λv w'=>∃b,v=AP b/\AB AD w w'/\EX w' (rng w w') b root 0) ?_).AE ?_
 rotate_left
 .rintro e w' ⟨v,rfl,b,rfl,h⟩;exact⟨b,rfl,h⟩
 unfold Q;refine(vc94 w (λv w'=>v=AP w.heap.size/\w'=w.alloc (.cells #[.slice none 0 0] 305)) (by unfold vcP94;exactλw1 e1=>⟨rfl,e1⟩)).AE ?_;rintro _ w1 ⟨v,rfl,rfl,e1⟩;have o1:=AG e1;have k1:=kal e1;refine⟨_,rfl,?_⟩;refine(vc95 1024 w1 (λv w'=>∃pb' wb,v=AP pb'/\AB AD w1 w'/\AX w' pb' [.slice (some ⟨wb,0,none⟩) 16 16,vi 1024]/\AX w' wb (replicate 16 (.int .u64 0))/\w1.heap.size<=pb'/\w1.heap.size<=wb) ?_).AE ?_
 .unfold Q;simp only [gt_iff_lt,show ¬((1024:Int)<0) by decide,show ¬((65536:Int)<1024) by decide,if_false];have e2:wrap .i64 (Int.tdiv (wrap .i64 (1024+63)) 64)=16:=by decide
  rw [e2];refine AA (by decide) λw2 e3 w3 e4=>?_;have o2:AX w2 w1.heap.size (replicate 16 (.int .u64 0)):=AG e3;have o3:=AG e4;have k2:=kal e3;exact⟨_,_,rfl,k2.al e4,o3,o2.al e4,k2.sz,nlr _⟩
 rintro _ w2 ⟨v,rfl,pb',wb,rfl,k2,p1,p2,hp1,hp2⟩;refine⟨_,rfl,λw3 e3 w4 e4=>?_⟩;have m3:BJ w3 w2.heap.size []:=JL e3;have k3:AB AD w2 w3:=e3▸kr.allocMap _ _;have o4:=AG e4;have k4:=kal e4;have s1:=k1.sz;have s2:=k2.sz;have s3:=k3.sz;have l1:=o1.lt;have l4:=o4.lt;have lm:=m3.lt;have lp:=p1.lt;have lw:=p2.lt;have s4:=k4.sz;have ka:AB AD w2 w4:=k3.tr k4;refine⟨_,rfl,(k1.tr k2).tr ka,⟨by decide,w.heap.size,pb',wb,w2.heap.size,o4,(o1.k k2).k ka,p1.k ka,p2.k ka,m3.k k4,?_,?_,?_,?_,?_⟩⟩ <;> exact⟨by omega,by omega⟩
section
variable {w:WD}{k:Nat}{S:AR}{fp:Prt->Nat->Prop}
abbrev AR.G6(S:AR)(b:Nat)(rt:Int):AR:={S with sp:=λi=>if i=1 then some b else none,root:=upd S.root 1 rt,pins:=upd S.pins 1 0}
theorem A85(h:AO w k S fp)(hsp:S.sp=λ_=>none){w1 w2:WD}{rt:Int}(k1:AB AD w w1)(SP:EX w1 (rng w w1) b rt 0)(e:w2=st w1 k 106 (AP b)):Step w w2 k (S.G6 b rt) fp:=by
 have hk:=h.at' .core;have hk0:k<w.heap.size:=h.k0;have k2:AB (·=k) w1 w2:=kr.s1 e (.inl rfl);have K2:AB (·=k) w w2:=(k1.AE λ_ _ e=>e.elim).trans k2 λ_ _ e=>e;have hs2:w2.heap.size=w1.heap.size:=by rw [e];simp
 refine⟨K2.AE λx _ e=>⟨.core,e▸hk.2⟩,_,h.upd (λp=>p=.core\/p=.space 1) (.space 1) K2 (λx hx _=>⟨.core,.inl rfl,hx▸hk.2⟩) rfl (λp F W hp hq=>?_) (.inr rfl) λp hp=>?_,λp x hx=>hx.imp id λe=>e.2⟩
 .cases p with
  | core=>exact absurd (.inl rfl) hp
  | space i=>
   intro b' hb';have hb':(if i=1 then some b else none)=some b':=hb';have:i≠1:=λe=>hp (.inr (by rw [e]));rw [if_neg this] at hb'
   cases hb'
  | _=>exact hq
 .rcases hp with rfl|rfl
  .refine⟨?_,.inl hk.2⟩;have o1:=(hk.1.k k1);have o2:=LH (i:=12) (v:=AP b) o1 (show w2=st w1 k (94+12) (AP b) from e);have:(GL S).set 12 (AP b)=GL (S.G6 b rt):=by
    unfold GL;rw [hsp]
    rfl
   rw [this] at o2;exact o2
  .intro b' hb';have hb':(if 1=1 then some b else none)=some b':=hb';rw [if_pos rfl] at hb'
   cases hb'
   obtain⟨ab,pb',wb,mb,a1,a2,a3,a4,a5,f1,f2,f3,f4,f5⟩:=SP.ex;have ne:∀x,rng w w1 x->x≠k:=λx hx e=>by have:=hx.1;omega
   have fr:∀x,rng w w1 x->fp (.space 1) x\/(Prt.space 1=Prt.space 1/\rng w w2 x):=λx hx=>.inr ⟨rfl,hx.1,by have:=hx.2;omega⟩;have hrt:(S.G6 b rt).root 1=rt:=by show upd S.root 1 rt 1=rt;exact AF _ _ _
   have hpn:(S.G6 b rt).pins 1=0:=by show upd S.pins 1 0 1=0;exact AF _ _ _
   rw [hrt,hpn];exact⟨by decide,ab,pb',wb,mb,a1.kx k2 (ne _ f1),a2.kx k2 (ne _ f2),a3.kx k2 (ne _ f3),a4.kx k2 (ne _ f4),a5.kx k2 (ne _ f5),fr _ f1,fr _ f2,fr _ f3,fr _ f4,fr _ f5⟩
end
theorem B7u:∀q,CY q (λ_=>0)=0
 | 0=>rfl
 | q+1=>by rw [CQ,B7u q]
theorem B74{n:Nat}:replicate n (-1:Int)=(range n).map λi=>(tk0 i).fl:=by
 refine List.ext_getElem? λi=>?_;rw [List.getElem?_replicate,gmp];by_cases hi:i<n
 .rw [if_pos hi,List.getElem?_range hi];rfl
 .rw [if_neg hi,gen (by simpa using hi)];rfl
theorem A46{l:List Bk}{a:Nat}(h:D0 a l b)(hg:∀x∈l,x.g=0):a+BD l=b:=by
 induction l generalizing a with
 | nil=>simp [D0] at h;simp [BD];omega
 | cons x l ih=>
  have h1:=ih h.2.2.2 λy hy=>hg y (by simp [hy]);rw [DR,if_pos (hg x (by simp))];omega
theorem B8b(n:Nat):owns n (λ_=>(0,0))=[]:=by simp [owns]
theorem A0i(o:Nat):∀k,G0 (λ_=>0) o k=0
 | 0=>rfl
 | k+1=>by unfold G0;rw [A0i o k,Int.zero_mul];rfl
theorem A5x(n:Nat)(a b:Int):wdF (λ_=>0) n a b=0:=by
 unfold wdF;split
 .exact A0i _ _
 .rfl
section
variable {w:WD}{k:Nat}{S:AR}{fp:Prt->Nat->Prop}
theorem A3n(h:AO w k S fp)(F:B6o S):∀{q:Nat},q<=S.AK->((CY q (λi=>BD (S.L i)):Nat):Int)=AU S.c q
 | 0,_=>rfl
 | q+1,hq=>by
  obtain⟨_,_,hk⟩:=h.zn;have ih:=A3n h F (q:=q) (by omega);have hf:=h.fst (i:=q) (by omega);have h1:=A46 (h.IQ (i:=q) (by omega)) (F.L q (by omega));rw [CQ];omega
theorem QSt.begun(h:AO w k S fp)(F:B6o S){l1 l2:List Bk}{r1 r2:Nat}{n0:Nat}(hn0:n0=(S.c 18).toNat)(ht1:D0 0 l1 n0)(hr1:r1<n0)(hr2:r2<n0)(hm1:∀y:Bk,y.g=1->(y∈l1↔y∈S.L 0\/y=⟨r1,0,1⟩))(hs1:BD l1+1=BD (S.L 0))
 (hx2:∃x∈l1,x.g=0/\x.p<=r2/\r2<x.p+2^x.o) (hm2:∀y:Bk,y.g=1->(y∈l2↔y∈l1\/y=⟨r2,0,1⟩)) (hs2:BD l2+1=BD l1) (b:Nat) :
 QSt ((((((S.LA (upd S.L 0 l1)).LA (upd (upd S.L 0 l1) 0 l2)).I8 (smS S.mks S.n r1 CK)).I8 (smS (smS S.mks S.n r1 CK) S.n r2 CK)).G6 b r1).JQ (slS S.by' S.n r1 0 r2)) r1 r2 (λ_=>.no) (λ_=>false) [] h0 tk0 0 0:=by
 have hs:=h.BQ;have hn:=h.n4;have hf0:=h.fst (i:=0) (by omega);have e0:AU S.c 0=0:=rfl;have hn0':(n0:Int)<=S.n:=by
  have:S.c (18+0)=S.c 18:=rfl;omega
 obtain⟨_,_,hk⟩:=h.zn;have hne:r1≠r2:=λe=>by
  obtain⟨x,hx,hg,h3,h4⟩:=hx2;have h5:(⟨r1,0,1⟩:Bk)∈l1:=(hm1 _ rfl).2 (.inr rfl);have:x=⟨r1,0,1⟩:=J0 ht1 hx h5 (f:=r2) h3 h4 (by show r1<=r2;omega) (by show r2<r1+2^0;omega);subst this
  cases hg
 obtain⟨_,hsm1⟩:=JI (mk:=S.mks) (n:=S.n) (f:=r1) (x:=CK) (by omega) (by decide);obtain⟨_,hsm2⟩:=JI (mk:=smS S.mks S.n r1 CK) (n:=S.n) (f:=r2) (x:=CK) (by omega) (by decide);have hmk:smS (smS S.mks S.n r1 CK) S.n r2 CK=upd (upd S.mks r1 CK) r2 CK:=by rw [hsm2,hsm1]
 have hw:wdE S.n (r1:Int) 0=0:=DH;have hby:slS S.by' S.n r1 0 r2=wdS (λ_=>0) S.n r1 0 (1+4*(r2:Int)):=by
  have:slE S.n r1 0 r2=0:=by unfold slE;rw [if_neg (by omega)];exact hw
  unfold slS;rw [if_pos this,if_neg (by omega),F.by']
  rfl
 have hx:0<=1+4*(r2:Int)/\1+4*(r2:Int)<=18446744073709551615:=by omega
 have hL:upd (upd S.L 0 l1) 0 l2=upd S.L 0 l2:=RU _ _ _ _;have tk:∀y:Bk,y.g=1->(y∈l2↔y=⟨r1,0,1⟩\/y=⟨r2,0,1⟩):=λy hg=>by
  rw [hm2 y hg,hm1 y hg];constructor
  .rintro ((hy|hy)|hy)
   .have:=F.L 0 (by omega) y hy;omega
   .exact .inl hy
   .exact .inr hy
  .rintro (hy|hy)
   .exact .inl (.inr hy)
   .exact .inr hy
 exact {
  by':=by show ByR (slS S.by' S.n r1 0 r2);rw [hby];exact B7p (λ_=>⟨by decide,by decide⟩) _ _ _ _
  rl:=⟨by show r1<S.n;omega,by show r2<S.n;omega,hne⟩
  sp:=⟨b,rfl⟩
  root:=by show upd S.root 1 _ 1=_;exact AF _ _ _
  w0:=by
   show wdF (slS S.by' S.n r1 0 r2) S.n r1 0=_
   rw [hby,KI hx hw hw,if_pos ⟨rfl,rfl⟩]
  wz:=λj h1 h2=>by
   show wdF (slS S.by' S.n r1 0 r2) S.n r1 j=0
   rw [hby,KI hx hw DH,if_neg (by omega),A5x]
  wl:=λj hj=>by
   show wdF (slS S.by' S.n r1 0 r2) S.n r2 j=0
   rw [hby,KI hx hw DH,if_neg (by omega),A5x]
  pgo:=λj f e=>by cases e
  pgs:=λj f e=>by cases e
  inj:=λj j' f e=>by cases e
  Ao:=λf e=>by cases e
  And:=List.nodup_nil
  hdr:=λ_ f e=>by cases e
  hnd:=λ_=>List.nodup_nil
  hin:=λ_ _ f e=>by cases e
  hz:=λ_ _=>⟨rfl,rfl⟩
  rof1:=λj f e=>by cases e
  rof2:=λf _ e=>by
   have e:(S.rof f).1≠0:=e;rw [F.rof] at e;exact absurd rfl e
  rat1:=λkk v e=>by
   have e:S.rat.lookup kk=some v:=e;rw [F.rat] at e
   cases e
  rat2:=λj f e=>by cases e
  ck:=λi hi=>by
   show FM (S.ring i) (S.cof i)
   rw [F.ring,F.cof];exact⟨(λkk v e=>by cases e),(λkk=>by simp),List.nodup_nil⟩
  ckm:=λi hi x=>by
   show x∈S.ring i↔_
   rw [F.ring];simp
  mk1:=by
   show smS (smS S.mks S.n r1 CK) S.n r2 CK r1=CK/\smS (smS S.mks S.n r1 CK) S.n r2 CK r2=CK
   rw [hmk,AF,AI _ _ hne,AF];exact⟨rfl,rfl⟩
  mkA:=λf e=>by cases e
  mk2:=λj f e=>by cases e
  mkh:=λ_ f e=>by cases e
  mk3:=λf hf hn=>by
   show smS (smS S.mks S.n r1 CK) S.n r2 CK f=CX
   rw [hmk,AI _ _ λe=>hn (.inr (.inl e)),AI _ _ λe=>hn (.inl e),F.mks]
  tk1:=λi hi y hy hg=>by
   have hy:y∈upd (upd S.L 0 l1) 0 l2 i:=hy;rw [hL] at hy;by_cases e:i=0
   .subst e;rw [AF] at hy;rcases (tk y hg).1 hy with rfl|rfl
    .exact⟨rfl,.inl (by show(AU S.c 0).toNat+r1=r1;rw [e0];omega)⟩
    .exact⟨rfl,.inr (.inl (by show(AU S.c 0).toNat+r2=r2;rw [e0];omega))⟩
   .rw [AI _ _ e] at hy;have hi:i<S.AK:=hi;have:=F.L i (by omega) y hy;omega
  tk2:=λf hu=>by
   have go:∀r:Nat,(⟨r,0,1⟩:Bk)∈l2->∃i y,i<S.AK/\y∈upd (upd S.L 0 l1) 0 l2 i/\y.g=1/\(AU S.c i).toNat+y.p=r:=λr hr=>⟨0,⟨r,0,1⟩,by omega,by rw [AF];exact hr,rfl,by show(AU S.c 0).toNat+r=r;rw [e0];omega⟩;rcases hu with rfl|rfl|⟨j,e⟩|e|⟨_,e⟩
   .exact go _ ((tk _ rfl).2 (.inl rfl))
   .exact go _ ((tk _ rfl).2 (.inr rfl))
   .cases e
   .cases e
   .cases e
  so:=λs _=>.inl (by show S.sof s=_;rw [F.sof])
  byf:=λj f e=>by cases e
  bys:=λj f e=>by cases e
  pinE:=λj _=>by show(upd S.pins 1 0 1).testBit j=false;rw [AF];simp
  pinF:=λj e=>by cases e
  cp:=by simp [Pg.KA]
  cc:=by
   show CY S.AK (λi=>(S.ring i).length)=0
   rw [F.ring];have:∀q,CY q (λ_:Nat=>([]:List Int).length)=0:=λq=>by
    induction q with
    | zero=>rfl
    | succ q ih=>rw [CQ,ih];rfl
   exact this _
  cu:=by
   show(owns S.AY S.sof).length+0=0+CY S.AS (λ_=>0)
   rw [F.sof,B8b,B7u]
   rfl
  cf:=by
   show CY S.AK (λi=>BD (upd (upd S.L 0 l1) 0 l2 i))+0+2+0+CY S.AS (λ_=>0)=S.n
   rw [hL,B7u];have e:(λj=>BD (upd S.L 0 l2 j))=upd (λj=>BD (S.L j)) 0 (BD l2):=by
    funext j;by_cases e:j=0
    .subst e;rw [AF,AF]
    .rw [AI _ _ e,AI _ _ e]
   have h2:=HE (n:=S.AK) (f:=λj=>BD (S.L j)) (i:=0) (v:=BD l2) (by omega);have h3:=A3n h F (q:=S.AK) (nlr _);have h4:AU S.c S.AK=S.n:=by have:=hn.1;unfold AR.AK;omega
   rw [e];omega
  held:=by show S.held=_;rw [F.held];rfl
  fli:=by show S.fli=_;rw [F.fli];exact B74
  lk:=⟨λi j=>⟨(λh=>by cases h),λh=>by have h:S.lh j=(i:Int)+1:=h;rw [F.lh] at h;have h:(0:Int)=(i:Int)+1:=h;omega⟩,λj=>.inl (by show S.lh j=0;rw [F.lh])⟩
  ok:=λ_=>⟨λ_ _ h=>(by cases h),λ_ h=>(by cases h)⟩}
end
section
variable {w:WD}{k:Nat}{S:AR}{fp:Prt->Nat->Prop}{rt lf cnt tot:Nat}{pg:Nat->Pg}{pin:Nat->Bool}{A:List Nat}
theorem KK{g:Nat}:EE rt lf pg (A++[f]) h0 g↔EE rt lf pg A h0 g\/g=f:=by
 unfold EE;simp only [List.mem_append,List.mem_singleton];constructor
 .rintro (e|e|e|(e|e)|e)
  .exact .inl (.inl e)
  .exact .inl (.inr (.inl e))
  .exact .inl (.inr (.inr (.inl e)))
  .exact .inl (.inr (.inr (.inr (.inl e))))
  .exact .inr e
  .obtain⟨_,e⟩:=e
   cases e
 .rintro ((e|e|e|e|e)|e)
  .exact .inl e
  .exact .inr (.inl e)
  .exact .inr (.inr (.inl e))
  .exact .inr (.inr (.inr (.inl (.inl e))))
  .obtain⟨_,e⟩:=e
   cases e
  .exact .inr (.inr (.inr (.inl (.inr e))))
theorem QSt.kept(L:QSt S rt lf pg pin A h0 tk0 cnt tot)(h:AO w k S fp)(hi:i<S.AK)(h1:AU S.c i<=f)(T:FL (S.L i) 0 high ((f:Int)-AU S.c i) 0 l') :
 QSt ((S.LA (upd S.L i l')).I8 (smS S.mks S.n f CK)) rt lf pg pin (A++[f]) h0 tk0 cnt tot:=by
 have hn:=h.n4;obtain⟨hnu,hfn,hm,hs⟩:=L.free h hi h1 T;have hf:=h.fst hi;obtain⟨hrt,hlf,hrl⟩:=L.rl;have hfr:f≠rt:=λe=>hnu (.inl e);have hfl:f≠lf:=λe=>hnu (.inr (.inl e));have hfp:∀j,pg j≠.fr f:=λj e=>hnu (.inr (.inr (.inl ⟨j,e⟩)));have hfA:f∉A:=λe=>hnu (.inr (.inr (.inr (.inl e))));have hgf:gfr S i ⟨((f:Int)-AU S.c i).toNat,0,1⟩=f:=by unfold gfr;show _+((f:Int)-AU S.c i).toNat=f;omega
 obtain⟨_,hse⟩:=JI (mk:=S.mks) (n:=S.n) (x:=CK) hfn (by decide);rw [hse];exact {L with
  pgo:=λj g e=>by
   obtain⟨a1,a2,a3,a4,a5,a6⟩:=L.pgo j g e;refine⟨a1,a2,a3,a4,λe2=>?_,a6⟩;rw [List.mem_append,List.mem_singleton] at e2;exact e2.elim a5 λe2=>hfp j (e2▸e)
  Ao:=λg e=>by
   rw [List.mem_append,List.mem_singleton] at e;rcases e with e|rfl
   .exact L.Ao g e
   .exact⟨hfn,hfr,hfl,by simp⟩
  And:=by
   rw [List.nodup_append];refine⟨L.And,by simp,λa ha b hb e=>?_⟩;simp at hb;subst hb;exact hfA (e▸ha)
  hdr:=λ_ g e=>by cases e
  mk1:=by
   show upd S.mks f _ rt=CK/\upd S.mks f _ lf=CK
   rw [AI _ _ (Ne.symm hfr),AI _ _ (Ne.symm hfl)];exact L.mk1
  mkA:=λg hg=>by
   show upd S.mks f _ g=CK
   rw [List.mem_append,List.mem_singleton] at hg;rcases hg with hg|rfl
   .rw [AI _ _ (show g≠f from λe=>hfA (e▸hg))];exact L.mkA g hg
   .exact AF _ _ _
  mk2:=λt g e=>by
   show upd S.mks f _ g=_
   rw [AI _ _ (show g≠f from λe2=>hfp t (e2▸e))];exact L.mk2 t g e
  mkh:=λ_ g e=>by cases e
  mk3:=λg hg hnu'=>by
   show upd S.mks f _ g=CX
   rw [AI _ _ (show g≠f from λe=>hnu' (KK.2 (.inr e)))];exact L.mk3 g hg λhu=>hnu' (KK.2 (.inl hu))
  tk1:=λt ht z hz hg=>by
   have hz:z∈upd S.L i l' t:=hz;by_cases e:t=i
   .subst e;rw [AF] at hz;rcases (hm z hg).1 hz with hz|rfl
    .have:=L.tk1 t ht z hz hg;exact⟨this.1,KK.2 (.inl this.2)⟩
    .exact⟨rfl,KK.2 (.inr hgf)⟩
   .rw [AI _ _ e] at hz;have:=L.tk1 t ht z hz hg;exact⟨this.1,KK.2 (.inl this.2)⟩
  tk2:=λg hu=>by
   rcases KK.1 hu with hu|rfl
   .obtain⟨t,z,ht,hz,hg,hez⟩:=L.tk2 g hu;refine⟨t,z,ht,?_,hg,hez⟩
    show z∈upd S.L i l' t
    by_cases e:t=i
    .subst e;rw [AF];exact(hm z hg).2 (.inl hz)
    .rw [AI _ _ e];exact hz
   .refine⟨i,_,hi,?_,rfl,hgf⟩
    show _∈upd S.L i l' i
    rw [AF];exact(hm _ rfl).2 (.inr rfl)
  ok:=λ_=>⟨λ_ _ h=>(by cases h),λ_ h=>(by cases h)⟩
  cf:=by
   have h3:=L.cf;have h4:=A55 (L:=S.L) (l':=l') hi
   show CY S.AK (λt=>BD (upd S.L i l' t))+cnt+2+(A++[f]).length+CY S.AS (λi=>(h0 i).length)=S.n
   have e:(A++[f]).length=A.length+1:=by simp
   rw [e];omega}
end
def wrB(by':NI)(f:Nat)(g:NI):NI:=λo=>if f*256<=o/\o<f*256+256 then g (o-f*256) else by' o
theorem B7n  {g:Nat}{v:NI} (hg:g≠f) (hm:m<256):wrB by' f v (g*256+m)=by' (g*256+m):=by
  unfold wrB;rw [if_neg (by have : g<f \/ f<g :=(by omega);omega)]
theorem C0d{v:NI}(hm:m<256):wrB by' f v (f*256+m)=v m:=by
 unfold wrB;rw [if_pos (by omega),Nat.add_sub_cancel_left]
theorem A9u{n:Nat}{v:NI}{a b:Int}(h:a≠f):wdF (wrB by' f v) n a b=wdF by' n a b:=by
 unfold wdF;by_cases h1:wdE n a b=0
 .rw [if_pos h1,if_pos h1];obtain⟨g1,g2,g3,g4⟩:=A5y h1;refine IY λj hj=>?_;unfold wrB wdO;rw [if_neg (by omega)]
 .rw [if_neg h1,if_neg h1]
section
variable {w:WD}{k:Nat}{S:AR}{fp:Prt->Nat->Prop}{rt lf cnt tot:Nat}{pg:Nat->Pg}{pin:Nat->Bool}{A:List Nat}
set_option maxHeartbeats 2000000 in
theorem QSt.F6{p:Nat}(L:QSt S rt lf pg pin A h0 tk0 cnt tot)(h:AO w k S fp)(hi:i<S.AK)(h1:AU S.c i<=f)(h2:(f:Int)<AU S.c (i+1))(T:FL (S.L i) 0 high ((f:Int)-AU S.c i) 0 l')(hp:p<32)(hpg:pg p=.no) :
 QSt (((S.LA (upd S.L i l')).JQ (wrB S.by' f (DK p))).mapped i p f) rt lf (upd pg p (.fr f)) pin A h0 tk0 (cnt+1) (tot+1):=by
 have hn:=h.n4;obtain⟨hnu,hfn,hm,hs⟩:=L.free h hi h1 T;obtain⟨hrt,hlf,hrl⟩:=L.rl;have hfr:f≠rt:=λe=>hnu (.inl e);have hfl:f≠lf:=λe=>hnu (.inr (.inl e));have hnj:∀j,pg j≠.fr f:=λj e=>hnu (.inr (.inr (.inl ⟨j,e⟩)));have hfA:f∉A:=λe=>hnu (.inr (.inr (.inr (.inl e))));have hf:=h.fst hi;have hgf:gfr S i ⟨((f:Int)-AU S.c i).toNat,0,1⟩=f:=by unfold gfr;show _+((f:Int)-AU S.c i).toNat=f;omega
 have wb:∀{a b:Int},a≠f->wdF (wrB S.by' f (DK p)) S.n a b=wdF S.by' S.n a b:=A9u;have hbr:ByR (wrB S.by' f (DK p)):=λo=>by
  unfold wrB;split
  .unfold DK;omega
  .exact L.by' o
 have hrof:(S.rof f).1=0:=by
  by_cases e:(S.rof f).1=0
  .exact e
  .obtain⟨j,hj⟩:=L.rof2 f hfn e;exact absurd hj (hnj j)
 have hwl:wdE S.n (lf:Int) (p:Int)=0:=DH;have hst:stS (wrB S.by' f (DK p)) S.n (S.root 1) p 1 f=wdS (wrB S.by' f (DK p)) S.n lf p (1+4*(f:Int)):=by
  rw [L.root];exact B0b (by omega) hrt hlf (by rw [wb (by omega)];exact L.w0) hp (.inr ⟨.inl rfl,by omega,by omega⟩)
 have hx:0<=1+4*(f:Int)/\1+4*(f:Int)<=18446744073709551615:=by omega
 obtain⟨hsm,hse⟩:=JI (mk:=S.mks) (n:=S.n) (x:=⟨4,0,1,(p:Int),0⟩) hfn (by unfold B46;simp;omega);have hinj:∀{j j':Nat}{g:Nat},upd pg p (.fr f) j=.fr g->(j=p/\g=f)\/(j≠p/\pg j=.fr g):=λ{j _ g} e=>by
  by_cases e2:j=p
  .subst e2;rw [AF] at e;exact .inl ⟨rfl,(Pg.fr.inj e).symm⟩
  .rw [AI _ _ e2] at e;exact .inr ⟨e2,e⟩
 have hback:∀{j g:Nat},pg j=.fr g->upd pg p (.fr f) j=.fr g:=λ{j g} e=>by
  have:j≠p:=λe2=>by rw [e2,hpg] at e;cases e
  rw [AI _ _ this];exact e
 have hu1:∀g,EE rt lf (upd pg p (.fr f)) A h0 g↔EE rt lf pg A h0 g\/g=f:=λg=>by
  unfold EE;constructor
  .rintro (e|e|⟨j,e⟩|e|e)
   .exact .inl (.inl e)
   .exact .inl (.inr (.inl e))
   .rcases hinj (j':=0) e with⟨_,rfl⟩|⟨_,e⟩
    .exact .inr rfl
    .exact .inl (.inr (.inr (.inl ⟨j,e⟩)))
   .exact .inl (.inr (.inr (.inr (.inl e))))
   .obtain⟨_,e⟩:=e
    cases e
  .rintro ((e|e|⟨j,e⟩|e|e)|e)
   .exact .inl e
   .exact .inr (.inl e)
   .exact .inr (.inr (.inl ⟨j,hback e⟩))
   .exact .inr (.inr (.inr (.inl e)))
   .obtain⟨_,e⟩:=e
    cases e
   .exact .inr (.inr (.inl ⟨p,by rw [AF,e]⟩))
 have hnr:(f:Int)∉S.ring i:=λe=>by
  obtain⟨j,g,hj,hg,_⟩:=(L.ckm i hi _).1 e;have:f=g:=by omega
  subst this;exact hnj j hj
 have hcl:=L.ck i hi;have hcn:(S.cof i).lookup (f:Int)=none:=by
  cases e:(S.cof i).lookup (f:Int) with
  | none=>rfl
  | some v=>exact absurd ((hcl.r _).1 (by rw [e];rfl)) hnr
 have wdk:∀{a b:Int},wdE S.n a b=0->wdF (wdS (wrB S.by' f (DK p)) S.n lf p (1+4*(f:Int))) S.n a b=if a=lf/\b=p then 1+4*(f:Int) else wdF (wrB S.by' f (DK p)) S.n a b:=λhab=>KI hx hwl hab
 exact {
  by':=by show ByR (stS (wrB S.by' f (DK p)) S.n (S.root 1) p 1 f);rw [hst];exact B7p hbr _ _ _ _
  rl:=L.rl
  sp:=L.sp
  root:=L.root
  w0:=by
   show wdF (stS (wrB S.by' f (DK p)) S.n (S.root 1) p 1 f) S.n rt 0=_
   rw [hst,wdk DH,if_neg (by omega),wb (by omega)];exact L.w0
  wz:=λj hj1 hj2=>by
   show wdF (stS (wrB S.by' f (DK p)) S.n (S.root 1) p 1 f) S.n rt j=_
   rw [hst,wdk DH,if_neg (by omega),wb (by omega)];exact L.wz j hj1 hj2
  wl:=λj hj=>by
   show wdF (stS (wrB S.by' f (DK p)) S.n (S.root 1) p 1 f) S.n lf j=_
   rw [hst,wdk DH];by_cases e:j=p
   .subst e;rw [if_pos ⟨rfl,rfl⟩,AF];rfl
   .rw [if_neg (by omega),AI _ _ e,wb (by omega)];exact L.wl j hj
  pgo:=λj g e=>by
   rcases hinj (j':=0) e with⟨rfl,rfl⟩|⟨_,e⟩
   .exact⟨hp,hfn,hfr,hfl,hfA,by simp⟩
   .exact L.pgo j g e
  pgs:=λj s e=>by
   by_cases e2:j=p
   .subst e2;rw [AF] at e;cases e
   .rw [AI _ _ e2] at e;exact L.pgs j s e
  Ao:=L.Ao
  And:=L.And
  inj:=λj j' g e e'=>by
   rcases hinj (j':=0) e with⟨rfl,rfl⟩|⟨_,_⟩
   .rcases hinj (j':=0) e' with⟨rfl,_⟩|⟨_,e'⟩
    .rfl
    .exact absurd e' (hnj j')
   .rename_i e1;rcases hinj (j':=0) e' with⟨_,h8⟩|⟨_,e2⟩
    .exact absurd (h8▸e1:pg j=.fr f) (hnj j)
    .exact L.inj j j' g e1 e2
  hdr:=λ_ g e=>by cases e
  hnd:=L.hnd
  hin:=L.hin
  hz:=L.hz
  rof1:=λj g e=>by
   show upd S.rof f (1,(p:Int)) g=_
   rcases hinj (j':=0) e with⟨rfl,rfl⟩|⟨_,e⟩
   .rw [AF]
   .rw [AI _ _ (show g≠f from λe2=>hnj j (by rw [<- e2];exact e))];exact L.rof1 j g e
  rof2:=λg hg e=>by
   have e:(upd S.rof f (1,(p:Int)) g).1≠0:=e;by_cases e2:g=f
   .exact⟨p,by rw [AF,e2]⟩
   .rw [AI _ _ e2] at e;obtain⟨j,hj⟩:=L.rof2 g hg e;exact⟨j,hback hj⟩
  rat1:=λkk v e=>by
   have e:(S.rat++[((1,(p:Int)),vi f)]).lookup kk=some v:=e;rw [A6l] at e
   cases hl:S.rat.lookup kk with
   | some x=>
    rw [hl] at e
    cases e
    obtain⟨j,g,h3,h4,h5⟩:=L.rat1 _ _ hl;exact⟨j,g,h3,hback h4,h5⟩
   | none=>
    rw [hl] at e;simp only at e;split at e
    .rename_i e2
     cases e
     exact⟨p,f,e2,AF _ _ _,rfl⟩
    .cases e
  rat2:=λj g e=>by
   show((S.rat++[((1,(p:Int)),vi f)]).lookup (1,(j:Int))).isSome=true
   rw [A6l]
   cases hl:S.rat.lookup (1,(j:Int)) with
   | some x=>rfl
   | none=>
    rcases hinj (j':=0) e with⟨rfl,rfl⟩|⟨_,e⟩
    .simp
    .have:=L.rat2 j g e;rw [hl] at this
     cases this
  ck:=λt ht=>by
   show FM (upd S.ring i _ t) (upd S.cof i _ t)
   by_cases e:t=i
   .subst e;rw [AF,AF];refine⟨λkk v e=>?_,λkk=>?_,?_⟩
    .rw [A3b] at e
     cases hl:(S.cof t).lookup kk with
     | some x=>rw [hl] at e;cases e;exact hcl.v _ _ hl
     | none=>
      rw [hl] at e;simp only at e;split at e
      .cases e;exact⟨true,true,rfl⟩
      .cases e
    .rw [A3b,List.mem_append,List.mem_singleton,<- hcl.r kk]
     cases hl:(S.cof t).lookup kk with
     | some x=>simp
     | none=>
      by_cases e:kk=(f:Int) <;> simp [e]
    .rw [List.nodup_append];refine⟨hcl.nd,by simp,λa ha b hb e=>?_⟩;simp at hb;subst hb;exact hnr (e▸ha)
   .rw [AI _ _ e,AI _ _ e];exact L.ck t ht
  ckm:=λt ht x=>by
   show x∈upd S.ring i _ t↔_
   by_cases e:t=i
   .subst e;rw [AF,List.mem_append,List.mem_singleton,L.ckm t ht x];constructor
    .rintro (⟨j,g,a1,a2,a3⟩|rfl)
     .exact⟨j,g,hback a1,a2,a3⟩
     .exact⟨p,f,AF _ _ _,rfl,h1,h2⟩
    .rintro ⟨j,g,a1,a2,a3⟩;rcases hinj (j':=0) a1 with⟨_,rfl⟩|⟨_,a1⟩
     .exact .inr a2
     .exact .inl ⟨j,g,a1,a2,a3⟩
   .rw [AI _ _ e,L.ckm t ht x];constructor
    .rintro ⟨j,g,a1,a2,a3⟩;exact⟨j,g,hback a1,a2,a3⟩
    .rintro ⟨j,g,a1,a2,a3,a4⟩;rcases hinj (j':=0) a1 with⟨_,rfl⟩|⟨_,a1⟩
     .exact absurd (CR h.my (f:=(g:Int)) (by unfold AR.AK at ht;exact ht) (by unfold AR.AK at hi;exact hi) a3 a4 h1 h2) e
     .exact⟨j,g,a1,a2,a3,a4⟩
  mk1:=by
   show smS S.mks S.n f _ rt=CK/\smS S.mks S.n f _ lf=CK
   rw [hse,AI _ _ (Ne.symm hfr),AI _ _ (Ne.symm hfl)];exact L.mk1
  mkA:=λg hg=>by
   show smS S.mks S.n f _ g=CK
   rw [hse,AI _ _ (show g≠f from λe=>hfA (e▸hg))];exact L.mkA g hg
  mkh:=λ_ g e=>by cases e
  mk2:=λj g e=>by
   show smS S.mks S.n f _ g=_
   rw [hse];rcases hinj (j':=0) e with⟨rfl,rfl⟩|⟨_,e⟩
   .rw [AF];rfl
   .rw [AI _ _ (show g≠f from λe2=>hnj j (by rw [<- e2];exact e))];exact L.mk2 j g e
  mk3:=λg hg hn=>by
   show smS S.mks S.n f _ g=CX
   rw [hse,AI _ _ λe2=>hn ((hu1 g).2 (.inr e2))];exact L.mk3 g hg λhu=>hn ((hu1 g).2 (.inl hu))
  tk1:=λt ht z hz hg=>by
   have hz:z∈upd S.L i l' t:=hz;by_cases e:t=i
   .subst e;rw [AF] at hz;rcases (hm z hg).1 hz with hz|rfl
    .have:=L.tk1 t ht z hz hg;exact⟨this.1,(hu1 _).2 (.inl this.2)⟩
    .exact⟨rfl,(hu1 _).2 (.inr hgf)⟩
   .rw [AI _ _ e] at hz;have:=L.tk1 t ht z hz hg;exact⟨this.1,(hu1 _).2 (.inl this.2)⟩
  tk2:=λg hu=>by
   rcases (hu1 _).1 hu with hu|rfl
   .obtain⟨t,z,ht,hz,hg,hez⟩:=L.tk2 g hu;refine⟨t,z,ht,?_,hg,hez⟩
    show z∈upd S.L i l' t
    by_cases e:t=i
    .subst e;rw [AF];exact(hm z hg).2 (.inl hz)
    .rw [AI _ _ e];exact hz
   .refine⟨i,_,hi,?_,rfl,hgf⟩
    show _∈upd S.L i l' i
    rw [AF];exact(hm _ rfl).2 (.inr rfl)
  so:=λs hs=>(L.so s hs).imp id λh=>h.imp (λ⟨j,hj⟩=>⟨j,by rw [AI _ _ (show j≠p from λe=>by rw [e,hpg] at hj;cases hj)];exact hj⟩) id
  byf:=λj g e m hm'=>by
   show stS (wrB S.by' f (DK p)) S.n (S.root 1) p 1 f (g*256+m)=_
   rw [hst];rcases hinj (j':=0) e with⟨rfl,rfl⟩|⟨_,e⟩
   .rw [RR (by omega) hfl hm',C0d hm']
   .obtain⟨_,_,_,a4,_⟩:=L.pgo j g e;rw [RR (by omega) a4 hm',B7n (λe2=>hnj j (by rw [<- e2];exact e)) hm'];exact L.byf j g e m hm'
  bys:=λj s e m hm=>by
   by_cases e2:j=p
   .subst e2;rw [AF] at e;cases e
   .rw [AI _ _ e2] at e;exact L.bys j s e m hm
  pinE:=L.pinE
  pinF:=λj e=>by
   obtain⟨g,hg⟩:=L.pinF j e;exact⟨g,hback hg⟩
  cp:=by
   have:=PF (q:=λj=>(pg j).KA) (q':=λj=>(upd pg p (.fr f) j).KA) (p:=p) (λj e=>by show(upd pg p _ j).KA=_;rw [AI _ _ e]) hp;have hc:=L.cp;simp [hpg,Pg.KA] at this hc;rw [hc] at this;exact this
  cc:=by
   have e:(λt=>(upd S.ring i (S.ring i++[(f:Int)]) t).length)=upd (λt=>(S.ring t).length) i ((S.ring i).length+1):=by
    funext t;by_cases e:t=i
    .subst e;rw [AF,AF,lap];rfl
    .rw [AI _ _ e,AI _ _ e]
   have h4:=HE (n:=S.AK) (f:=λt=>(S.ring t).length) (v:=(S.ring i).length+1) hi;have h5:=L.cc
   show CY S.AK (λt=>(upd S.ring i (S.ring i++[(f:Int)]) t).length)=cnt+1
   rw [e];omega
  cu:=by
   have:=L.cu
   show(owns S.AY S.sof).length+(cnt+1)=tot+1+CY S.AS (λi=>(tk0 i).n)
   omega
  cf:=by
   have h3:=L.cf;have h4:=A55 (L:=S.L) (l':=l') hi
   show CY S.AK (λt=>BD (upd S.L i l' t))+(cnt+1)+2+A.length+CY S.AS (λi=>(h0 i).length)=S.n
   omega
  held:=L.held
  fli:=L.fli
  lk:=L.lk
  ok:=λ_=>⟨λ_ _ h=>(by cases h),λ_ h=>(by cases h)⟩}
end
section
variable {w:WD}{m bb mb n:Nat}{c:NI}{by':NI}{mk:Nat->Mark}
theorem B4i{kd:IntKind}{N:Nat}(h:f*256+256<=N):(AQ kd by' 0 N).take (f*256)++AQ kd g 0 256++(AQ kd by' 0 N).drop (f*256+(AQ kd g 0 256).length)=AQ kd (wrB by' f g) 0 N:=by
 rw [AM];refine DX (by simp [AM];omega) λj hj=>?_;unfold wrB;by_cases h1:j<f*256
 .rw [if_neg (by omega),gal (by simp [AM];omega),gal (by simp [AM];omega),List.getElem?_take,if_pos h1,AZ _ _ _ _ _ hj,za]
 .by_cases h2:j<f*256+256
  .rw [if_pos (by omega),gal (by simp [AM];omega),gar (by simp [AM];omega)];have:j-(List.take (f*256) (AQ kd by' 0 N)).length=j-f*256:=by simp [AM];omega
   rw [this,AZ _ _ _ _ _ (by omega),za]
  .rw [if_neg (by omega),gar (by simp [AM];omega),List.getElem?_drop];have:f*256+256+(j-(List.take (f*256) (AQ kd by' 0 N)++AQ kd g 0 256).length)=j:=by simp [AM];omega
   rw [this,AZ _ _ _ _ _ hj,za]
theorem B8h{g:NI}:∀(n o:Nat),∀u∈AQ .u8 g o n,u.oneCell'=true
 | 0,o,u,h=>by cases h
 | n+1,o,u,h=>by
  unfold AQ at h;rcases List.mem_cons.1 h with rfl|h
  .rfl
  .exact B8h n (o+1) u h
theorem A4z(h:BU w m bb mb c n by' mk)(hn:n<=1024)(hf:f<n)(hy:AX w Y (AQ .u8 g 0 256)) :
 Calls prog 38 #[AP m,vi f,vi 0,.slice (some ⟨Y,0,none⟩) 256 256] w λe w'=>e=.returned (vi 0)/\AB (·=bb) w w'/\BU w' m bb mb c n (wrB by' f g) mk:=by
 refine Calls.ret (vc38 _ f 0 _ 256 256 w _ ?_);have h95:rd w m (0+95)=some (.slice (some ⟨mb,0,none⟩) n n):=by rw [za];exact h.r95
 have h94:rd w m (0+94)=some (.slice (some ⟨bb,0,none⟩) (n*256) (n*256)):=by rw [za];exact h.r94
 unfold Q;refine AJ (λ_=>rfl) ⟨_,_,_,λ_=>h95,AL rfl (AJ (λ_=>rfl) ⟨_,_,_,λ_=>h95,AL (by simp;omega) (AL (by decide) (AA rfl ⟨_,_,_,h94,?_⟩))⟩)⟩;rw [wi (x:=(f:Int)+1) (by omega),wi (x:=(f:Int)*256) (by omega),wi (x:=((f:Int)+1)*256) (by omega),wi (x:=(0:Int)+((256:Nat):Int)) (by decide)];rw [show Int.toNat ((f:Int)*256)=f*256 by omega,show Int.toNat (((f:Int)+1)*256)=f*256+256 by omega,show f*256+256-f*256=256 by omega];refine AA BR (AA BR (AA (by decide) ?_));have eo:BS (BS (some ⟨bb,0,none⟩) (f*256+256) (f*256) 1) 256 (Int.toNat 0) 1=some ⟨bb,f*256,none⟩:=by
  rw [B1c (by omega) (by decide)];rfl
 rw [eo];have info:(prog.info? 5).map (·.size)=some 1:=by kernel_rfl
 obtain⟨w',hc,ho,hk⟩:=A5e (P:=prog) (dT:=81) (sT:=81) (ty:=3) (e:=5) (s:=1) underlying81 info h.bs (f*256) 256 256 (Y:=Y) (oy:=0) (sl:=256) (sc:=256) (q:=256) (cs:=AQ .u8 g 0 256) (by decide) hy (λj _=>by rw [za]) (by rw [AM]) (by rw [AM,AM];omega) (B8h _ _);rw [B4i (by omega)] at ho;exact⟨_,w',hc,rfl,hk,⟨h.so.kx hk h.ne.1,ho,h.ms.kx hk λe=>h.ne.2.2 e.symm,h.ne⟩⟩
end
section
variable {w w':WD}{k:Nat}{S:AR}{fp:Prt->Nat->Prop}
theorem A84(h:AO w k S fp)(hf:f<S.n)(hy:AX w Y (AQ .u8 g 0 256)) :
 Calls prog 38 #[AP S.pm,vi f,vi 0,.slice (some ⟨Y,0,none⟩) 256 256] w λe w'=>e=.returned (vi 0)/\Step w w' k (S.JQ (wrB S.by' f g)) fp:=by
 obtain⟨bb,mb,M,f1,f2,f3⟩:=h.mem;refine(A4z M h.n4.2.2 hf hy).AE ?_;rintro e w' ⟨he,kk,M'⟩;exact⟨he,h.FD .mem kk (λx e=>e▸f2) rfl (λp F w hp hq=>by cases p <;> first|exact hq|exact absurd rfl hp) ⟨bb,mb,M',.inl f1,.inl f2,.inl f3⟩⟩
theorem A83(h:AO w k S fp){base:Nat}{xs:List Nat}(R:BV w base a l c (xs.map λx:Nat=>(x:Int)))(hx:∀x∈xs,x<S.AK)(hl:xs.length<=8) :
 Calls prog 37 #[AP S.pz,.slice a l c,vi 0,.bool true] w λe w'=>((∀x∈xs,BD (S.L x)=0)/\(∃er:Int,er≠0/\e=.returned (.tuple #[vi 0,vi er]))/\w'=w)\/
  ∃(f i:Nat) (l':List Bk),e=.returned (.tuple #[vi f,vi 0])/\Step w w' k (S.LA (upd S.L i l')) fp/\i<S.AK/\AU S.c i<=f/\(f:Int)<AU S.c (i+1)/\FL (S.L i) 0 true ((f:Int)-AU S.c i) 0 l':=by
 obtain⟨Z,hc,hk⟩:=h.zn;have hlen:l=xs.length:=by have:=R.1;simpa using this
 have hxx:∀i,i<l->∃x,xs[i]? = some x/\xs.getD i 0=x:=λi hi=>⟨xs[i]'(by omega),geg (by omega),by rw [List.getD_eq_getElem?_getD,geg (by omega)];rfl⟩;have hrd:∀i,i<l->isP a=true/\rd w (pb a) (po a+i)=some (vi ((xs.getD i 0:Nat):Int)):=λi hi=>by
  obtain⟨x,h1,h2⟩:=hxx i hi;rw [h2];have:=R.rd (i:=i) (x:=(x:Int)) (by rw [gmp,h1];rfl);rw [tnc,mo] at this;exact this
 refine(A7o Z (nf:=λi=>((xs.getD i 0:Nat):Int)) (by omega) (λh0=>(hrd 0 h0).1) (λi hi=>(hrd i hi).2) 0 true).AE ?_;have inn:∀i,i<l->xs.getD i 0∈xs/\xs.getD i 0<S.Z.k:=λi hi=>by
  obtain⟨x,h1,h2⟩:=hxx i hi;have:=mog h1;rw [h2];exact⟨this,by have:=hx x this;omega⟩
 rintro e w' ⟨v,rfl,⟨h1,rfl,hw⟩|⟨_,_,h2,rfl,hw⟩|⟨_,_,j,i,hj,hij,hi,_,_,a',l',rfl,kk,Z',T⟩⟩
 .rcases h1 with⟨i,hi,h1⟩|h1
  .have:=(inn i hi).2;have h1:((xs.getD i 0:Nat):Int)<0\/(S.Z.k:Int)<=((xs.getD i 0:Nat):Int):=h1;omega
  .omega
 .refine .inl ⟨λx hxm=>?_,⟨6,by decide,rfl⟩,hw⟩;obtain⟨i,hi,he⟩:=List.mem_iff_getElem.1 hxm;have h3:(zfr S.Z S.L ((xs.getD i 0:Nat):Int):Int)<=0:=h2 i (by omega);obtain⟨y,h4,h5⟩:=hxx i (by omega);rw [geg hi] at h4;have:y=x:=by rw [<- he];exact(Option.some.inj h4).symm
  subst this;rw [h5,A5u (by have:=hx y hxm;omega)] at h3;omega
 .have hi':i<S.AK:=by omega
  have hf:=h.fst hi';obtain⟨r,rfl,hr,_⟩:=GY (h.IQ hi') T;refine .inr ⟨((AU S.c i+r).toNat),i,l',?_,MP h hi kk Z',hi',by omega,by omega,?_⟩
  .rw [hc,Int.toNat_of_nonneg (by omega)]
  .have:((AU S.c i+(r:Int)).toNat:Int)-AU S.c i=r:=by omega
   rw [this];exact T
end
noncomputable def opsB:Array Oper:=(A59 f10 4).toArray
noncomputable def opB (i:Nat):Oper:=(opsB[i]?).getD ⟨none,.alloc 0,0,"",#[],none⟩
abbrev nl:Value:=.slice none 0 0
abbrev sq(b n:Nat):Value:=.slice (some ⟨b,0,none⟩) n n
def slB(i:Nat):Nat:=if i<24 then 34+i else 7
structure BP where
 kp:Nat
 cb:Nat
 n:Nat
 x0:NI
 pa:OA
 pl:Nat
 pc:Nat
 ia:OA
 il:Nat
 ic:Nat
 x96:NI
def BP.xc(B:BP):List Value:=AQ .i64 B.x0 0 94++([slice B.pa B.pl B.pc,slice B.ia B.il B.ic]++AQ .i64 B.x96 0 8)
def BP.wc(B:BP)(β:Nat->Nat):List Value:=[AP B.kp,AP (β 5)]++(AQ .i64 B.x0 0 94++([slice B.pa B.pl B.pc,slice B.ia B.il B.ic]++(AQ .i64 B.x96 0 8++[vi 0,vi 0,nl,sq (β 9) B.n,sq (β 13) B.n,sq (β 17) B.n,sq (β 21) B.n])))
def BP.val(B:BP)(β:Nat->Nat):Nat->Value
 | 0=>AP B.kp
 | 1=>.agg B.xc.toArray
 | 2=>AP B.cb|6=>AP B.cb|10=>AP B.cb|14=>AP B.cb|18=>AP B.cb
 | 3=>.pointer (some ⟨B.cb,1,none⟩)|7=>.pointer (some ⟨B.cb,1,none⟩)|11=>.pointer (some ⟨B.cb,1,none⟩)|15=>.pointer (some ⟨B.cb,1,none⟩)|19=>.pointer (some ⟨B.cb,1,none⟩)
 | 4=>vi (B.n:Nat)|8=>vi (B.n:Nat)|12=>vi (B.n:Nat)|16=>vi (B.n:Nat)|20=>vi (B.n:Nat)
 | 5=>AP (β 5)
 | 9=>sq (β 9) B.n|13=>sq (β 13) B.n|17=>sq (β 17) B.n|21=>sq (β 21) B.n
 | 22=>.agg (B.wc β).toArray
 | 23=>AP (β 23)
 | _=>AP (β 23)
def BP.fact(B:BP)(β:Nat->Nat)(w:WD):NP
 | 5=>AX w (β 5) [sq (β 25) B.n]/\AX w (β 25) (D4 B.n λ_=>[.nilFunc,vi 0])/\β 5≠β 25
 | 9=>AX w (β 9) (replicate B.n nl)
 | 13=>AX w (β 13) (replicate B.n (vi 0))|17=>AX w (β 17) (replicate B.n (vi 0))|21=>AX w (β 21) (replicate B.n (vi 0))
 | 23=>AX w (β 23) (B.wc β)
 | _=>True
def JC:Nat->List Nat
 | 5=>[5,25]|9=>[9]|13=>[13]|17=>[17]|21=>[21]|23=>[23]|_=>[]
def O8:Nat->List Nat
 | 5=>[5,25]|9=>[9]|13=>[13]|17=>[17]|21=>[21]|22=>[5,9,13,17,21]|23=>[5,9,13,17,21,23]|24=>[23]|_=>[]
def B9z(s:Nat):Nat:=if s=25 then 5 else s
theorem C7o:opsB[0]? = some (opB 0):=by kernel_rfl
theorem bd_0:(opB 0).guard=none:=by kernel_rfl
theorem bs_0:(opB 0).dst=some (slB 0):=by kernel_rfl
theorem ba_0:((opB 0).after.all λe=>decide (e.on<0))=true:=by kernel_rfl
theorem C7n:opsB[1]? = some (opB 1):=by kernel_rfl
theorem bd_1:(opB 1).guard=none:=by kernel_rfl
theorem bs_1:(opB 1).dst=some (slB 1):=by kernel_rfl
theorem ba_1:((opB 1).after.all λe=>decide (e.on<1))=true:=by kernel_rfl
theorem C7m:opsB[2]? = some (opB 2):=by kernel_rfl
theorem bd_2:(opB 2).guard=none:=by kernel_rfl
theorem bs_2:(opB 2).dst=some (slB 2):=by kernel_rfl
theorem ba_2:((opB 2).after.all λe=>decide (e.on<2))=true:=by kernel_rfl
theorem C7l:opsB[3]? = some (opB 3):=by kernel_rfl
theorem bd_3:(opB 3).guard=none:=by kernel_rfl
theorem bs_3:(opB 3).dst=some (slB 3):=by kernel_rfl
theorem ba_3:((opB 3).after.all λe=>decide (e.on<3))=true:=by kernel_rfl
theorem C7k:opsB[4]? = some (opB 4):=by kernel_rfl
theorem bd_4:(opB 4).guard=none:=by kernel_rfl
theorem bs_4:(opB 4).dst=some (slB 4):=by kernel_rfl
theorem ba_4:((opB 4).after.all λe=>decide (e.on<4))=true:=by kernel_rfl
theorem C7j:opsB[5]? = some (opB 5):=by kernel_rfl
theorem bd_5:(opB 5).guard=none:=by kernel_rfl
theorem bs_5:(opB 5).dst=some (slB 5):=by kernel_rfl
theorem ba_5:((opB 5).after.all λe=>decide (e.on<5))=true:=by kernel_rfl
theorem C7i:opsB[6]? = some (opB 6):=by kernel_rfl
theorem bd_6:(opB 6).guard=none:=by kernel_rfl
theorem bs_6:(opB 6).dst=some (slB 6):=by kernel_rfl
theorem ba_6:((opB 6).after.all λe=>decide (e.on<6))=true:=by kernel_rfl
theorem C7h:opsB[7]? = some (opB 7):=by kernel_rfl
theorem bd_7:(opB 7).guard=none:=by kernel_rfl
theorem bs_7:(opB 7).dst=some (slB 7):=by kernel_rfl
theorem ba_7:((opB 7).after.all λe=>decide (e.on<7))=true:=by kernel_rfl
theorem C7g:opsB[8]? = some (opB 8):=by kernel_rfl
theorem bd_8:(opB 8).guard=none:=by kernel_rfl
theorem bs_8:(opB 8).dst=some (slB 8):=by kernel_rfl
theorem ba_8:((opB 8).after.all λe=>decide (e.on<8))=true:=by kernel_rfl
theorem C7f:opsB[9]? = some (opB 9):=by kernel_rfl
theorem bd_9:(opB 9).guard=none:=by kernel_rfl
theorem bs_9:(opB 9).dst=some (slB 9):=by kernel_rfl
theorem ba_9:((opB 9).after.all λe=>decide (e.on<9))=true:=by kernel_rfl
theorem C3e:opsB[10]? = some (opB 10):=by kernel_rfl
theorem C6f:(opB 10).guard=none:=by kernel_rfl
theorem C50:(opB 10).dst=some (slB 10):=by kernel_rfl
theorem C6u:((opB 10).after.all λe=>decide (e.on<10))=true:=by kernel_rfl
theorem C3d:opsB[11]? = some (opB 11):=by kernel_rfl
theorem C6e:(opB 11).guard=none:=by kernel_rfl
theorem C5z:(opB 11).dst=some (slB 11):=by kernel_rfl
theorem C6t:((opB 11).after.all λe=>decide (e.on<11))=true:=by kernel_rfl
theorem C3c:opsB[12]? = some (opB 12):=by kernel_rfl
theorem C6d:(opB 12).guard=none:=by kernel_rfl
theorem C5y:(opB 12).dst=some (slB 12):=by kernel_rfl
theorem C6s:((opB 12).after.all λe=>decide (e.on<12))=true:=by kernel_rfl
theorem C3b:opsB[13]? = some (opB 13):=by kernel_rfl
theorem C6c:(opB 13).guard=none:=by kernel_rfl
theorem C5x:(opB 13).dst=some (slB 13):=by kernel_rfl
theorem C6r:((opB 13).after.all λe=>decide (e.on<13))=true:=by kernel_rfl
theorem C3a:opsB[14]? = some (opB 14):=by kernel_rfl
theorem C6b:(opB 14).guard=none:=by kernel_rfl
theorem C5w:(opB 14).dst=some (slB 14):=by kernel_rfl
theorem C6q:((opB 14).after.all λe=>decide (e.on<14))=true:=by kernel_rfl
theorem C29:opsB[15]? = some (opB 15):=by kernel_rfl
theorem C6a:(opB 15).guard=none:=by kernel_rfl
theorem C5v:(opB 15).dst=some (slB 15):=by kernel_rfl
theorem C6p:((opB 15).after.all λe=>decide (e.on<15))=true:=by kernel_rfl
theorem C28:opsB[16]? = some (opB 16):=by kernel_rfl
theorem C59:(opB 16).guard=none:=by kernel_rfl
theorem C5u:(opB 16).dst=some (slB 16):=by kernel_rfl
theorem C6o:((opB 16).after.all λe=>decide (e.on<16))=true:=by kernel_rfl
theorem C27:opsB[17]? = some (opB 17):=by kernel_rfl
theorem C58:(opB 17).guard=none:=by kernel_rfl
theorem C5t:(opB 17).dst=some (slB 17):=by kernel_rfl
theorem C6n:((opB 17).after.all λe=>decide (e.on<17))=true:=by kernel_rfl
theorem C26:opsB[18]? = some (opB 18):=by kernel_rfl
theorem C57:(opB 18).guard=none:=by kernel_rfl
theorem C5s:(opB 18).dst=some (slB 18):=by kernel_rfl
theorem C6m:((opB 18).after.all λe=>decide (e.on<18))=true:=by kernel_rfl
theorem C25:opsB[19]? = some (opB 19):=by kernel_rfl
theorem C56:(opB 19).guard=none:=by kernel_rfl
theorem C5r:(opB 19).dst=some (slB 19):=by kernel_rfl
theorem C6l:((opB 19).after.all λe=>decide (e.on<19))=true:=by kernel_rfl
theorem C24:opsB[20]? = some (opB 20):=by kernel_rfl
theorem C55:(opB 20).guard=none:=by kernel_rfl
theorem C5q:(opB 20).dst=some (slB 20):=by kernel_rfl
theorem C6k:((opB 20).after.all λe=>decide (e.on<20))=true:=by kernel_rfl
theorem C23:opsB[21]? = some (opB 21):=by kernel_rfl
theorem C54:(opB 21).guard=none:=by kernel_rfl
theorem C5p:(opB 21).dst=some (slB 21):=by kernel_rfl
theorem C6j:((opB 21).after.all λe=>decide (e.on<21))=true:=by kernel_rfl
theorem C22:opsB[22]? = some (opB 22):=by kernel_rfl
theorem C53:(opB 22).guard=none:=by kernel_rfl
theorem C5o:(opB 22).dst=some (slB 22):=by kernel_rfl
theorem C6i:((opB 22).after.all λe=>decide (e.on<22))=true:=by kernel_rfl
theorem C21:opsB[23]? = some (opB 23):=by kernel_rfl
theorem C52:(opB 23).guard=none:=by kernel_rfl
theorem C5n:(opB 23).dst=some (slB 23):=by kernel_rfl
theorem C6h:((opB 23).after.all λe=>decide (e.on<23))=true:=by kernel_rfl
theorem C20:opsB[24]? = some (opB 24):=by kernel_rfl
theorem C51:(opB 24).guard=none:=by kernel_rfl
theorem C5m:(opB 24).dst=some (slB 24):=by kernel_rfl
theorem C6g:((opB 24).after.all λe=>decide (e.on<24))=true:=by kernel_rfl
theorem B8f:∀i,i<25->opsB[i]? = some (opB i)
 | 0,_=>C7o
 | 1,_=>C7n
 | 2,_=>C7m
 | 3,_=>C7l
 | 4,_=>C7k
 | 5,_=>C7j
 | 6,_=>C7i
 | 7,_=>C7h
 | 8,_=>C7g
 | 9,_=>C7f
 | 10,_=>C3e
 | 11,_=>C3d
 | 12,_=>C3c
 | 13,_=>C3b
 | 14,_=>C3a
 | 15,_=>C29
 | 16,_=>C28
 | 17,_=>C27
 | 18,_=>C26
 | 19,_=>C25
 | 20,_=>C24
 | 21,_=>C23
 | 22,_=>C22
 | 23,_=>C21
 | 24,_=>C20
 | n+25,h=>absurd h (by omega)
theorem A4v:∀i,i<25->(opB i).dst=some (slB i)
 | 0,_=>bs_0
 | 1,_=>bs_1
 | 2,_=>bs_2
 | 3,_=>bs_3
 | 4,_=>bs_4
 | 5,_=>bs_5
 | 6,_=>bs_6
 | 7,_=>bs_7
 | 8,_=>bs_8
 | 9,_=>bs_9
 | 10,_=>C50
 | 11,_=>C5z
 | 12,_=>C5y
 | 13,_=>C5x
 | 14,_=>C5w
 | 15,_=>C5v
 | 16,_=>C5u
 | 17,_=>C5t
 | 18,_=>C5s
 | 19,_=>C5r
 | 20,_=>C5q
 | 21,_=>C5p
 | 22,_=>C5o
 | 23,_=>C5n
 | 24,_=>C5m
 | n+25,h=>absurd h (by omega)
theorem B1a:∀i,i<25->((opB i).after.all λe=>decide (e.on<i))=true
 | 0,_=>ba_0
 | 1,_=>ba_1
 | 2,_=>ba_2
 | 3,_=>ba_3
 | 4,_=>ba_4
 | 5,_=>ba_5
 | 6,_=>ba_6
 | 7,_=>ba_7
 | 8,_=>ba_8
 | 9,_=>ba_9
 | 10,_=>C6u
 | 11,_=>C6t
 | 12,_=>C6s
 | 13,_=>C6r
 | 14,_=>C6q
 | 15,_=>C6p
 | 16,_=>C6o
 | 17,_=>C6n
 | 18,_=>C6m
 | 19,_=>C6l
 | 20,_=>C6k
 | 21,_=>C6j
 | 22,_=>C6i
 | 23,_=>C6h
 | 24,_=>C6g
 | n+25,h=>absurd h (by omega)
theorem B06:opsB.size=25:=by kernel_rfl
theorem B2a:CM opsB 22 5=true:=by kernel_rfl
theorem B19:CM opsB 22 9=true:=by kernel_rfl
theorem A6t:CM opsB 22 13=true:=by kernel_rfl
theorem A6s:CM opsB 22 17=true:=by kernel_rfl
theorem A6r:CM opsB 22 21=true:=by kernel_rfl
theorem B80:CM opsB 22 0=true:=by kernel_rfl
theorem B8z:CM opsB 22 1=true:=by kernel_rfl
theorem A6q:CM opsB 23 22=true:=by kernel_rfl
theorem A6p:CM opsB 24 23=true:=by kernel_rfl
theorem C1s:CM opsB 3 2=true:=by kernel_rfl
theorem C1r:CM opsB 4 3=true:=by kernel_rfl
theorem C1q:CM opsB 5 4=true:=by kernel_rfl
theorem C1p:CM opsB 7 6=true:=by kernel_rfl
theorem C1o:CM opsB 8 7=true:=by kernel_rfl
theorem C1n:CM opsB 9 8=true:=by kernel_rfl
theorem B5s:CM opsB 11 10=true:=by kernel_rfl
theorem B5r:CM opsB 12 11=true:=by kernel_rfl
theorem B5q:CM opsB 13 12=true:=by kernel_rfl
theorem B5p:CM opsB 15 14=true:=by kernel_rfl
theorem B5o:CM opsB 16 15=true:=by kernel_rfl
theorem B5n:CM opsB 17 16=true:=by kernel_rfl
theorem B5m:CM opsB 19 18=true:=by kernel_rfl
theorem B5l:CM opsB 20 19=true:=by kernel_rfl
theorem B5k:CM opsB 21 20=true:=by kernel_rfl
theorem C5k(p:Nat)(w:WD)(N:Value->Prop):(Eng.qOp prog (λ_=>none) (rdO [] (D5 261 [(5,AP p)])) (opB 0)).den w (λv _=>N v) (λ_=>True)=N (AP p):=by kernel_rfl
theorem C5j(cb:Nat)(w:WD)(N:Value->Prop):(Eng.qOp prog (λ_=>none) (rdO [] (D5 261 [(1,AP cb)])) (opB 1)).den w (λv _=>N v) (λ_=>True)=(∃(f:NI) (a:OA) (l c:Nat) (a2:OA) (l2 c2:Nat) (g:NI),BB w cb 0 (AQ .i64 f 0 94++([slice a l c,slice a2 l2 c2]++AQ .i64 g 0 8))/\N (.agg (AQ .i64 f 0 94++([slice a l c,slice a2 l2 c2]++AQ .i64 g 0 8)).toArray)):=by kernel_rfl
theorem C5i(cb:Nat)(w:WD)(N:Value->Prop):(Eng.qOp prog (λ_=>none) (rdO [] (D5 261 [(1,AP cb)])) (opB 2)).den w (λv _=>N v) (λ_=>True)=N (AP cb):=by kernel_rfl
theorem C5f(cb:Nat)(w:WD)(N:Value->Prop):(Eng.qOp prog (λ_=>none) (rdO [] (D5 261 [(1,AP cb)])) (opB 6)).den w (λv _=>N v) (λ_=>True)=N (AP cb):=by kernel_rfl
theorem C2p(cb:Nat)(w:WD)(N:Value->Prop):(Eng.qOp prog (λ_=>none) (rdO [] (D5 261 [(1,AP cb)])) (opB 10)).den w (λv _=>N v) (λ_=>True)=N (AP cb):=by kernel_rfl
theorem C2m(cb:Nat)(w:WD)(N:Value->Prop):(Eng.qOp prog (λ_=>none) (rdO [] (D5 261 [(1,AP cb)])) (opB 14)).den w (λv _=>N v) (λ_=>True)=N (AP cb):=by kernel_rfl
theorem C2j(cb:Nat)(w:WD)(N:Value->Prop):(Eng.qOp prog (λ_=>none) (rdO [] (D5 261 [(1,AP cb)])) (opB 18)).den w (λv _=>N v) (λ_=>True)=N (AP cb):=by kernel_rfl
theorem C5h(cb:Nat)(w:WD)(N:Value->Prop):(Eng.qOp prog (λ_=>none) (rdO [] (D5 261 [(36,AP cb)])) (opB 3)).den w (λv _=>N v) (λ_=>True)=N (.pointer (some ⟨cb,1,none⟩)):=by kernel_rfl
theorem C5e(cb:Nat)(w:WD)(N:Value->Prop):(Eng.qOp prog (λ_=>none) (rdO [] (D5 261 [(40,AP cb)])) (opB 7)).den w (λv _=>N v) (λ_=>True)=N (.pointer (some ⟨cb,1,none⟩)):=by kernel_rfl
theorem C2o(cb:Nat)(w:WD)(N:Value->Prop):(Eng.qOp prog (λ_=>none) (rdO [] (D5 261 [(44,AP cb)])) (opB 11)).den w (λv _=>N v) (λ_=>True)=N (.pointer (some ⟨cb,1,none⟩)):=by kernel_rfl
theorem C2l(cb:Nat)(w:WD)(N:Value->Prop):(Eng.qOp prog (λ_=>none) (rdO [] (D5 261 [(48,AP cb)])) (opB 15)).den w (λv _=>N v) (λ_=>True)=N (.pointer (some ⟨cb,1,none⟩)):=by kernel_rfl
theorem C2i(cb:Nat)(w:WD)(N:Value->Prop):(Eng.qOp prog (λ_=>none) (rdO [] (D5 261 [(52,AP cb)])) (opB 19)).den w (λv _=>N v) (λ_=>True)=N (.pointer (some ⟨cb,1,none⟩)):=by kernel_rfl
theorem C5g(cb:Nat)(w:WD)(N:Value->Prop):(Eng.qOp prog (λ_=>none) (rdO [] (D5 261 [(37,.pointer (some ⟨cb,1,none⟩))])) (opB 4)).den w (λv _=>N v) (λ_=>True)=(∃x:Int,rd w cb 1=some (vi x)/\N (vi x)):=by kernel_rfl
theorem C5d(cb:Nat)(w:WD)(N:Value->Prop):(Eng.qOp prog (λ_=>none) (rdO [] (D5 261 [(41,.pointer (some ⟨cb,1,none⟩))])) (opB 8)).den w (λv _=>N v) (λ_=>True)=(∃x:Int,rd w cb 1=some (vi x)/\N (vi x)):=by kernel_rfl
theorem C2n(cb:Nat)(w:WD)(N:Value->Prop):(Eng.qOp prog (λ_=>none) (rdO [] (D5 261 [(45,.pointer (some ⟨cb,1,none⟩))])) (opB 12)).den w (λv _=>N v) (λ_=>True)=(∃x:Int,rd w cb 1=some (vi x)/\N (vi x)):=by kernel_rfl
theorem C2k(cb:Nat)(w:WD)(N:Value->Prop):(Eng.qOp prog (λ_=>none) (rdO [] (D5 261 [(49,.pointer (some ⟨cb,1,none⟩))])) (opB 16)).den w (λv _=>N v) (λ_=>True)=(∃x:Int,rd w cb 1=some (vi x)/\N (vi x)):=by kernel_rfl
theorem C2h(cb:Nat)(w:WD)(N:Value->Prop):(Eng.qOp prog (λ_=>none) (rdO [] (D5 261 [(53,.pointer (some ⟨cb,1,none⟩))])) (opB 20)).den w (λv _=>N v) (λ_=>True)=(∃x:Int,rd w cb 1=some (vi x)/\N (vi x)):=by kernel_rfl
theorem C2f(b:Nat)(w:WD)(N:Value->Prop):(Eng.qOp prog (λ_=>none) (rdO [] (D5 261 [(57,AP b)])) (opB 24)).den w (λv _=>N v) (λ_=>True)=N (AP b):=by kernel_rfl
def C18(B:BP)(β:Nat->Nat):Env:=D5 261 [(34,AP B.kp),(35,.agg B.xc.toArray),(39,AP (β 5)),(43,sq (β 9) B.n),(47,sq (β 13) B.n),(51,sq (β 17) B.n),(55,sq (β 21) B.n)]
theorem C2g(B:BP)(β:Nat->Nat)(w:WD)(N:Value->Prop):(Eng.qOp prog (λ_=>none) (rdO [] (C18 B β)) (opB 22)).den w (λv _=>N v) (λ_=>True)=N (.agg (B.wc β).toArray):=by kernel_rfl
theorem C4y(n:Nat)(w:WD)(K:Value->WD->Prop):eOp prog (H0 prog) (rdO [] (D5 261 [(42,vi (n:Nat))])) (opB 9) w K=Wif (IU 24 (n:Nat) (n:Nat)) (∀w',w'=w.alloc (.cells (DO #[nl] 1 (Int.toNat (n:Nat))) 27)->K (.slice (some ⟨w.heap.size,0,none⟩) (Int.toNat (n:Nat)) (Int.toNat (n:Nat))) w') False:=by kernel_rfl
theorem C17(n:Nat)(w:WD)(K:Value->WD->Prop):eOp prog (H0 prog) (rdO [] (D5 261 [(46,vi (n:Nat))])) (opB 13) w K=Wif (IU 8 (n:Nat) (n:Nat)) (∀w',w'=w.alloc (.cells (DO #[vi 0] 1 (Int.toNat (n:Nat))) 3)->K (.slice (some ⟨w.heap.size,0,none⟩) (Int.toNat (n:Nat)) (Int.toNat (n:Nat))) w') False:=by kernel_rfl
theorem C16(n:Nat)(w:WD)(K:Value->WD->Prop):eOp prog (H0 prog) (rdO [] (D5 261 [(50,vi (n:Nat))])) (opB 17) w K=Wif (IU 8 (n:Nat) (n:Nat)) (∀w',w'=w.alloc (.cells (DO #[vi 0] 1 (Int.toNat (n:Nat))) 3)->K (.slice (some ⟨w.heap.size,0,none⟩) (Int.toNat (n:Nat)) (Int.toNat (n:Nat))) w') False:=by kernel_rfl
theorem C15(n:Nat)(w:WD)(K:Value->WD->Prop):eOp prog (H0 prog) (rdO [] (D5 261 [(54,vi (n:Nat))])) (opB 21) w K=Wif (IU 8 (n:Nat) (n:Nat)) (∀w',w'=w.alloc (.cells (DO #[vi 0] 1 (Int.toNat (n:Nat))) 3)->K (.slice (some ⟨w.heap.size,0,none⟩) (Int.toNat (n:Nat)) (Int.toNat (n:Nat))) w') False:=by kernel_rfl
theorem C14(cs:List Value)(w:WD)(K:Value->WD->Prop):eOp prog (H0 prog) (rdO [] (D5 261 [(56,.agg cs.toArray)])) (opB 23) w K=(∀w',w'=w.alloc (.cells cs.toArray 57)->K (AP w.heap.size) w'):=by kernel_rfl
theorem C4z(n:Nat)(w:WD)(K:Value->WD->Prop):eOp prog (H0 prog) (rdO [] (D5 261 [(38,vi (n:Nat))])) (opB 5) w K=Calls prog 32 #[vi (n:Nat)] w (λe w'=>∃p:OA,e=.returned (.pointer p)/\K (.pointer p) w'):=by kernel_rfl
theorem A94{n:Nat}(hn:1<=n/\n<=16)(w:WD):Calls prog 32 #[vi (n:Nat)] w λe w'=>∃t sb,e=.returned (AP t)/\AB AD w w'/\AX w' t [sq sb n]/\AX w' sb (D4 n λ_=>[.nilFunc,vi 0])/\w.heap.size<=t/\w.heap.size<=sb/\t≠sb:=by
 refine Calls.ret (vc32 n w _ ?_);apply qI;have e0:(if (0:Int)>(n:Int) then(0:Int) else(n:Int))=n:=if_neg (by omega);rw [e0,if_neg (by omega),tnc];refine AA FQ λw1 e1 w2 e2=>?_;have o1:AX w1 w.heap.size (DO #[Value.nilFunc,int .i64 0] 2 n).toList:=AG e1;have ez:(DO #[Value.nilFunc,int .i64 0] 2 n).toList=D4 n λ_=>[.nilFunc,vi 0]:=by
  rw [NO (by decide),GM (s:=2) rfl (by decide)]
 rw [ez] at o1;have o2:=AG e2;have k1:=kal e1;have k2:=kal e2;have:=o1.lt;exact⟨_,_,rfl,k1.tr k2,o2,o1.k k2,k1.sz,nlr _,by omega⟩
def B8v:List Nat:=[34,35,36,37,38,39,40,41,42,43,44,45,46,47,48,49,50,51,52,53,54,55,56,57,7]
structure MV(B:BP)(w0:WD)(a0:Act)(β:Nat->Nat)(listed:Array Bool)(a:Act)(w:WD):Prop where
 size:a.tmps.size=261
 defs:a.defers=a0.defers
 keep:∀t,t∉B8v->a.tmps[t]? = a0.tmps[t]?
 ls:listed.size=25
 kp:AB AD w0 w
 cl:GK opsB listed
 vals:∀i,i<25->listed.getD i false=true->a.tmps[slB i]? = some (B.val β i)
 fact:∀i,i<25->listed.getD i false=true->B.fact β w i/\∀s∈JC i,w0.heap.size<=β s/\β s<w.heap.size
 inj:∀i j,i<25->j<25->listed.getD i false=true->listed.getD j false=true->i≠j->∀s∈JC i,∀t∈JC j,β s≠β t
theorem B7x(hi:i<25)(hj:j<25)(h:slB i=slB j):i=j:=by unfold slB at h;split at h <;> split at h <;> omega
theorem C0m(hi:i<25):slB i<261:=by unfold slB;split <;> omega
theorem B4e(hi:i<25):slB i∈B8v:=by
 match i,hi with
 | 0,_=>exact(by decide)
 | 1,_=>exact(by decide)
 | 2,_=>exact(by decide)
 | 3,_=>exact(by decide)
 | 4,_=>exact(by decide)
 | 5,_=>exact(by decide)
 | 6,_=>exact(by decide)
 | 7,_=>exact(by decide)
 | 8,_=>exact(by decide)
 | 9,_=>exact(by decide)
 | 10,_=>exact(by decide)
 | 11,_=>exact(by decide)
 | 12,_=>exact(by decide)
 | 13,_=>exact(by decide)
 | 14,_=>exact(by decide)
 | 15,_=>exact(by decide)
 | 16,_=>exact(by decide)
 | 17,_=>exact(by decide)
 | 18,_=>exact(by decide)
 | 19,_=>exact(by decide)
 | 20,_=>exact(by decide)
 | 21,_=>exact(by decide)
 | 22,_=>exact(by decide)
 | 23,_=>exact(by decide)
 | 24,_=>exact(by decide)
 | n+25,h=>exact absurd h (by omega)
theorem val_congr{B:BP}{w:WD}(hi:i<25)(h:∀k∈O8 i,β' k=β k):B.val β' i=B.val β i/\(B.fact β' w i↔B.fact β w i):=by
 match i,hi with
 | 0,_=>exact⟨rfl,Iff.rfl⟩
 | 1,_=>exact⟨rfl,Iff.rfl⟩
 | 2,_=>exact⟨rfl,Iff.rfl⟩
 | 3,_=>exact⟨rfl,Iff.rfl⟩
 | 4,_=>exact⟨rfl,Iff.rfl⟩
 | 5,_=>simp [O8] at h;simp [BP.val,BP.fact,BP.wc,h]
 | 6,_=>exact⟨rfl,Iff.rfl⟩
 | 7,_=>exact⟨rfl,Iff.rfl⟩
 | 8,_=>exact⟨rfl,Iff.rfl⟩
 | 9,_=>simp [O8] at h;simp [BP.val,BP.fact,BP.wc,h]
 | 10,_=>exact⟨rfl,Iff.rfl⟩
 | 11,_=>exact⟨rfl,Iff.rfl⟩
 | 12,_=>exact⟨rfl,Iff.rfl⟩
 | 13,_=>simp [O8] at h;simp [BP.val,BP.fact,BP.wc,h]
 | 14,_=>exact⟨rfl,Iff.rfl⟩
 | 15,_=>exact⟨rfl,Iff.rfl⟩
 | 16,_=>exact⟨rfl,Iff.rfl⟩
 | 17,_=>simp [O8] at h;simp [BP.val,BP.fact,BP.wc,h]
 | 18,_=>exact⟨rfl,Iff.rfl⟩
 | 19,_=>exact⟨rfl,Iff.rfl⟩
 | 20,_=>exact⟨rfl,Iff.rfl⟩
 | 21,_=>simp [O8] at h;simp [BP.val,BP.fact,BP.wc,h]
 | 22,_=>simp [O8] at h;simp [BP.val,BP.fact,BP.wc,h]
 | 23,_=>simp [O8] at h;simp [BP.val,BP.fact,BP.wc,h]
 | 24,_=>simp [O8] at h;simp [BP.val,BP.fact,BP.wc,h]
 | n+25,h=>exact absurd h (by omega)
theorem C1z{B:BP}{w:WD}(h:B.fact β w i)(k:AB AD w w'):B.fact β w' i:=by
 unfold BP.fact at *;split <;> first|exact h.k k|exact⟨h.1.k k,h.2.1.k k,h.2.2⟩|trivial
section
variable {B:BP}{w0:WD}{a0:Act}{β:Nat->Nat}{listed:Array Bool}{a:Act}{w w':WD}
theorem MV.dep(h:MV B w0 a0 β listed a w)(hi:i<25)(hl:listed.getD i false=true):∀k∈O8 i,∃j,j<25/\listed.getD j false=true/\k∈JC j:=by
 intro k hk;have d22:listed.getD 22 false=true->∀k∈[5,9,13,17,21],∃j,j<25/\listed.getD j false=true/\k∈JC j:=λhl k hk=>by
  simp at hk;rcases hk with rfl|rfl|rfl|rfl|rfl
  .exact⟨5,by decide,h.cl.dep hl B2a,by decide⟩
  .exact⟨9,by decide,h.cl.dep hl B19,by decide⟩
  .exact⟨13,by decide,h.cl.dep hl A6t,by decide⟩
  .exact⟨17,by decide,h.cl.dep hl A6s,by decide⟩
  .exact⟨21,by decide,h.cl.dep hl A6r,by decide⟩
 match i,hi with
 | 0,hi=>cases hk
 | 1,hi=>cases hk
 | 2,hi=>cases hk
 | 3,hi=>cases hk
 | 4,hi=>cases hk
 | 5,hi=>exact⟨5,hi,hl,hk⟩
 | 6,hi=>cases hk
 | 7,hi=>cases hk
 | 8,hi=>cases hk
 | 9,hi=>exact⟨9,hi,hl,hk⟩
 | 10,hi=>cases hk
 | 11,hi=>cases hk
 | 12,hi=>cases hk
 | 13,hi=>exact⟨13,hi,hl,hk⟩
 | 14,hi=>cases hk
 | 15,hi=>cases hk
 | 16,hi=>cases hk
 | 17,hi=>exact⟨17,hi,hl,hk⟩
 | 18,hi=>cases hk
 | 19,hi=>cases hk
 | 20,hi=>cases hk
 | 21,hi=>exact⟨21,hi,hl,hk⟩
 | 22,hi=>exact d22 hl k hk
 | 23,hi=>
  have hk:k∈[5,9,13,17,21,23]:=hk;by_cases e:k=23
  .subst e;exact⟨23,hi,hl,by decide⟩
  .exact d22 (h.cl.dep hl A6q) k (by simp at hk ⊢;omega)
 | 24,hi=>
  have hk:k∈[23]:=hk;simp at hk;subst hk;exact⟨23,by decide,h.cl.dep hl A6p,by decide⟩
 | n+25,h=>exact absurd h (by omega)
theorem A7i{s:Nat}(hi:s∈JC i)(hj:s∈JC j):i=j:=by
 unfold JC at hi hj;split at hi <;> split at hj <;> simp at hi hj <;> omega
theorem MV.step(h:MV B w0 a0 β listed a w)(hi:i<25)(hr:i∈Region.ready .any opsB listed)(hk:AB AD w w')(hβ:∀k,k∉JC i->β' k=β k)
 (hnew:B.fact β' w' i/\∀s∈JC i,w.heap.size<=β' s/\β' s<w'.heap.size):MV B w0 a0 β' (listed.setIfInBounds i true) (a.put (some (slB i)) (B.val β' i)) w':=by
 obtain⟨hun,hlt⟩:=NK hr;have hsz:=h.kp.sz;have hsz':=hk.sz;have hsame:∀j,j<25->listed.getD j false=true->B.val β' j=B.val β j/\(B.fact β' w' j↔B.fact β w' j):=λj hj hl=>
  val_congr hj λk hkd=>hβ k λhki=>by
   obtain⟨t,ht,hlt,hkt⟩:=h.dep hj hl k hkd;rw [<- A7i hki hkt,hun] at hlt
   cases hlt
 have hsb:∀j s,listed.getD j false=true->s∈JC j->β' s=β s:=λj s hl hs=>hβ s λhsi=>by
  rw [<- A7i hsi hs,hun] at hl
  cases hl
 have old:∀j,(listed.setIfInBounds i true).getD j false=true->j≠i->listed.getD j false=true:=λj hj hne=>(DQ hj).resolve_left hne;refine⟨by simp [Act.put,h.size],h.defs,λt ht=>?_,by simp [h.ls],h.kp.tr hk,h.cl.set hr,λj hj hl=>?_,λj hj hl=>?_,λj k hj hk' hlj hlk hne s hs t ht=>?_⟩
 .have hne:slB i≠t:=λe=>ht (e▸B4e hi);rw [<- h.keep t ht];simp [Act.put,Array.getElem?_setIfInBounds_ne hne]
 .by_cases hji:j=i
  .subst hji;have:=C0m hj;simp [Act.put,h.size,this]
  .have hl':=old j hl hji;have hne:slB i≠slB j:=λe=>hji (B7x hi hj e).symm;rw [(hsame j hj hl').1,<- h.vals j hj hl'];simp [Act.put,Array.getElem?_setIfInBounds_ne hne]
 .by_cases hji:j=i
  .subst hji;exact⟨hnew.1,λs hs=>⟨by have:=(hnew.2 s hs).1;omega,(hnew.2 s hs).2⟩⟩
  .have hl':=old j hl hji;obtain⟨g1,g2⟩:=h.fact j hj hl';refine⟨(hsame j hj hl').2.2 (C1z g1 hk),λs hs=>?_⟩;rw [hsb j s hl' hs];have:=g2 s hs;omega
 .by_cases hji:j=i
  .subst hji;have hl':=old k hlk (Ne.symm hne);have h1:=(hnew.2 s hs).1;have h2:=((h.fact k hk' hl').2 t ht).2;rw [hsb k t hl' ht];omega
  .have hl':=old j hlj hji;by_cases hki:k=i
   .subst hki;have h1:=(hnew.2 t ht).1;have h2:=((h.fact j hj hl').2 s hs).2;rw [hsb j s hl' hs];omega
   .have hl2:=old k hlk hki;rw [hsb j s hl' hs,hsb k t hl2 ht];exact h.inj j k hj hk' hl' hl2 hne s hs t ht
theorem MV.qu(h:MV B w0 a0 β listed a w)(hi:i<25)(hr:i∈Region.ready .any opsB listed)(hb:JC i=[])(hf:B.fact β w i){v:Value}(hv:v=B.val β i):MV B w0 a0 β (listed.setIfInBounds i true) (a.put (opB i).dst v) w:=by
 subst hv;rw [A4v i hi];exact h.step hi hr kr (λ_ _=>rfl) ⟨hf,λs hs=>by rw [hb] at hs;cases hs⟩
theorem MV.al(h:MV B w0 a0 β listed a w)(hi:i<25)(hr:i∈Region.ready .any opsB listed)(hb:JC i=[i]){cs:List Value}{t:TypeId}{v:Value}(hv:v=B.val (upd β i w.heap.size) i)(hf:∀W,AX W w.heap.size cs->B.fact (upd β i w.heap.size) W i)(e:w'=w.alloc (.cells cs.toArray t)) :
 MV B w0 a0 (upd β i w.heap.size) (listed.setIfInBounds i true) (a.put (opB i).dst v) w':=by
 subst hv;rw [A4v i hi];have o:=AG (c:=cs) e;refine h.step hi hr (kr.al e) (λk hk=>AI _ _ λe=>hk (by rw [hb,e];simp)) ⟨hf _ o,λs hs=>?_⟩;rw [hb] at hs;simp at hs;subst hs;rw [AF];exact⟨nlr _,o.lt⟩
theorem A6g{v:Value}{n:Nat}:DO #[v] 1 n=(replicate n v).toArray:=by
 unfold DO;simp
theorem MV.one(h:MV B w0 a0 β listed a w)(hn:1<=B.n/\B.n<=16)(hcb:AX w0 B.cb B.xc)(hx1:B.x0 1=B.n)(h1:a0.tmps[1]? = some (AP B.cb))(h5:a0.tmps[5]? = some (AP B.kp))(hi:i<25)(hr:i∈Region.ready .any opsB listed){Q:Exit->Act->WD->Prop} :
 wpOp prog opsB Q i (λa' w'=>∃β',MV B w0 a0 β' (listed.setIfInBounds i true) a' w') a w:=by
 have ag1:∀(p:Nat) (v:Value),a.tmps[p]? = some v->BN (D5 261 [(p,v)]) a:=λp v hv=>KF h.size λq hq=>by
  simp at hq;subst hq;exact hv
 have t1:a.tmps[1]? = some (AP B.cb):=by rw [h.keep 1 (by decide)];exact h1
 have t5:a.tmps[5]? = some (AP B.kp):=by rw [h.keep 5 (by decide)];exact h5
 have hv:∀{i j:Nat},i∈Region.ready .any opsB listed->j<25->CM opsB i j=true->a.tmps[slB j]? = some (B.val β j):=λhr hj hd=>h.vals _ hj (B0s hr hd);have rc:rd w B.cb 1=some (vi (B.n:Nat)):=by
  rw [(hcb.k h.kp).rd];unfold BP.xc;rw [gal (by rw [AM];decide),AZ _ _ _ _ _ (by decide),za,hx1]
 match i,hi with
 | 0,hi=>
  refine CH (τ:=λ_=>none) (N:=λv=>v=B.val β 0) C7o bd_0 (ag1 5 _ t5) ?_ λv hv=>⟨β,h.qu hi hr rfl trivial hv⟩;rw [C5k];rfl
 | 1,hi=>
  refine CH (τ:=λ_=>none) (N:=λv=>v=B.val β 1) C7n bd_1 (ag1 1 _ t1) ?_ λv hv=>⟨β,h.qu hi hr rfl trivial hv⟩;rw [C5j];exact⟨B.x0,B.pa,B.pl,B.pc,B.ia,B.il,B.ic,B.x96,(hcb.k h.kp).BB 0 (λj hj=>by rw [za];rfl),rfl⟩
 | 2,hi=>
  refine CH (τ:=λ_=>none) (N:=λv=>v=B.val β 2) C7m bd_2 (ag1 1 _ t1) ?_ λv hv=>⟨β,h.qu hi hr rfl trivial hv⟩;rw [C5i];rfl
 | 6,hi=>
  refine CH (τ:=λ_=>none) (N:=λv=>v=B.val β 6) C7i bd_6 (ag1 1 _ t1) ?_ λv hv=>⟨β,h.qu hi hr rfl trivial hv⟩;rw [C5f];rfl
 | 10,hi=>
  refine CH (τ:=λ_=>none) (N:=λv=>v=B.val β 10) C3e C6f (ag1 1 _ t1) ?_ λv hv=>⟨β,h.qu hi hr rfl trivial hv⟩;rw [C2p];rfl
 | 14,hi=>
  refine CH (τ:=λ_=>none) (N:=λv=>v=B.val β 14) C3a C6b (ag1 1 _ t1) ?_ λv hv=>⟨β,h.qu hi hr rfl trivial hv⟩;rw [C2m];rfl
 | 18,hi=>
  refine CH (τ:=λ_=>none) (N:=λv=>v=B.val β 18) C26 C57 (ag1 1 _ t1) ?_ λv hv=>⟨β,h.qu hi hr rfl trivial hv⟩;rw [C2j];rfl
 | 3,hi=>
  refine CH (τ:=λ_=>none) (N:=λv=>v=B.val β 3) C7l bd_3 (ag1 36 _ (hv hr (by decide) C1s)) ?_ λv hv=>⟨β,h.qu hi hr rfl trivial hv⟩;rw [show B.val β 2=AP B.cb from rfl,C5h];rfl
 | 7,hi=>
  refine CH (τ:=λ_=>none) (N:=λv=>v=B.val β 7) C7h bd_7 (ag1 40 _ (hv hr (by decide) C1p)) ?_ λv hv=>⟨β,h.qu hi hr rfl trivial hv⟩;rw [show B.val β 6=AP B.cb from rfl,C5e];rfl
 | 11,hi=>
  refine CH (τ:=λ_=>none) (N:=λv=>v=B.val β 11) C3d C6e (ag1 44 _ (hv hr (by decide) B5s)) ?_ λv hv=>⟨β,h.qu hi hr rfl trivial hv⟩;rw [show B.val β 10=AP B.cb from rfl,C2o];rfl
 | 15,hi=>
  refine CH (τ:=λ_=>none) (N:=λv=>v=B.val β 15) C29 C6a (ag1 48 _ (hv hr (by decide) B5p)) ?_ λv hv=>⟨β,h.qu hi hr rfl trivial hv⟩;rw [show B.val β 14=AP B.cb from rfl,C2l];rfl
 | 19,hi=>
  refine CH (τ:=λ_=>none) (N:=λv=>v=B.val β 19) C25 C56 (ag1 52 _ (hv hr (by decide) B5m)) ?_ λv hv=>⟨β,h.qu hi hr rfl trivial hv⟩;rw [show B.val β 18=AP B.cb from rfl,C2i];rfl
 | 4,hi=>
  refine CH (τ:=λ_=>none) (N:=λv=>v=B.val β 4) C7k bd_4 (ag1 37 _ (hv hr (by decide) C1r)) ?_ λv hv=>⟨β,h.qu hi hr rfl trivial hv⟩;rw [show B.val β 3=.pointer (some ⟨B.cb,1,none⟩) from rfl,C5g];exact⟨_,rc,rfl⟩
 | 8,hi=>
  refine CH (τ:=λ_=>none) (N:=λv=>v=B.val β 8) C7g bd_8 (ag1 41 _ (hv hr (by decide) C1o)) ?_ λv hv=>⟨β,h.qu hi hr rfl trivial hv⟩;rw [show B.val β 7=.pointer (some ⟨B.cb,1,none⟩) from rfl,C5d];exact⟨_,rc,rfl⟩
 | 12,hi=>
  refine CH (τ:=λ_=>none) (N:=λv=>v=B.val β 12) C3c C6d (ag1 45 _ (hv hr (by decide) B5r)) ?_ λv hv=>⟨β,h.qu hi hr rfl trivial hv⟩;rw [show B.val β 11=.pointer (some ⟨B.cb,1,none⟩) from rfl,C2n];exact⟨_,rc,rfl⟩
 | 16,hi=>
  refine CH (τ:=λ_=>none) (N:=λv=>v=B.val β 16) C28 C59 (ag1 49 _ (hv hr (by decide) B5o)) ?_ λv hv=>⟨β,h.qu hi hr rfl trivial hv⟩;rw [show B.val β 15=.pointer (some ⟨B.cb,1,none⟩) from rfl,C2k];exact⟨_,rc,rfl⟩
 | 20,hi=>
  refine CH (τ:=λ_=>none) (N:=λv=>v=B.val β 20) C24 C55 (ag1 53 _ (hv hr (by decide) B5l)) ?_ λv hv=>⟨β,h.qu hi hr rfl trivial hv⟩;rw [show B.val β 19=.pointer (some ⟨B.cb,1,none⟩) from rfl,C2h];exact⟨_,rc,rfl⟩
 | 5,hi=>
  refine GX (K':=λv w'=>∃t sb,v=AP t/\AB AD w w'/\AX w' t [sq sb B.n]/\AX w' sb (D4 B.n λ_=>[.nilFunc,vi 0])/\w.heap.size<=t/\w.heap.size<=sb/\t≠sb) (HX prog) C7j bd_5 (ag1 38 _ (hv hr (by decide) C1q)) ?_ λv w' hv=>?_
  .rw [show B.val β 4=vi (B.n:Nat) from rfl,C4z];refine(A94 hn w).AE ?_;rintro e w' ⟨t,sb,rfl,hh⟩;exact⟨_,rfl,t,sb,rfl,hh⟩
  .obtain⟨t,sb,rfl,kk,o1,o2,l1,l2,ne⟩:=hv;refine⟨upd (upd β 5 t) 25 sb,?_⟩;have hv5:(AP t:Value)=B.val (upd (upd β 5 t) 25 sb) 5:=by simp [BP.val,upd]
   rw [A4v 5 hi,hv5];refine h.step hi hr kk (λk hk=>?_) ⟨⟨?_,?_,?_⟩,λs hs=>?_⟩
   .have h1:k≠5:=λe=>hk (by rw [e];decide);have h2:k≠25:=λe=>hk (by rw [e];decide);rw [AI _ _ h2,AI _ _ h1]
   .simpa [upd] using o1
   .simpa [upd] using o2
   .simpa [upd] using ne
   .have hs:s=5\/s=25:=by simpa [JC] using hs
    rcases hs with rfl|rfl
    .simpa [upd] using ⟨l1,o1.lt⟩
    .simpa [upd] using ⟨l2,o2.lt⟩
 | 9,hi=>
  refine GX (K':=λv w'=>v=sq w.heap.size B.n/\w'=w.alloc (.cells (replicate B.n (nl:Value)).toArray 27)) (HX prog) C7f bd_9 (ag1 42 _ (hv hr (by decide) C1n)) ?_ λv w' hv=>⟨_,h.al hi hr rfl (hv.1.trans (by simp [BP.val])) (λW o=>by show AX W (upd β 9 w.heap.size 9) _;rw [AF];exact o) hv.2⟩
  show eOp _ _ _ _ _ _
  rw [show B.val β 8=vi (B.n:Nat) from rfl,C4y,A6g];refine AA FQ λw' e=>?_;rw [tnc] at e ⊢;exact⟨rfl,e⟩
 | 13,hi=>
  refine GX (K':=λv w'=>v=sq w.heap.size B.n/\w'=w.alloc (.cells (replicate B.n (vi 0:Value)).toArray 3)) (HX prog) C3b C6c (ag1 46 _ (hv hr (by decide) B5q)) ?_ λv w' hv=>⟨_,h.al hi hr rfl (hv.1.trans (by simp [BP.val])) (λW o=>by show AX W (upd β 13 w.heap.size 13) _;rw [AF];exact o) hv.2⟩
  show eOp _ _ _ _ _ _
  rw [show B.val β 12=vi (B.n:Nat) from rfl,C17,A6g];refine AA FQ λw' e=>?_;rw [tnc] at e ⊢;exact⟨rfl,e⟩
 | 17,hi=>
  refine GX (K':=λv w'=>v=sq w.heap.size B.n/\w'=w.alloc (.cells (replicate B.n (vi 0:Value)).toArray 3)) (HX prog) C27 C58 (ag1 50 _ (hv hr (by decide) B5n)) ?_ λv w' hv=>⟨_,h.al hi hr rfl (hv.1.trans (by simp [BP.val])) (λW o=>by show AX W (upd β 17 w.heap.size 17) _;rw [AF];exact o) hv.2⟩
  show eOp _ _ _ _ _ _
  rw [show B.val β 16=vi (B.n:Nat) from rfl,C16,A6g];refine AA FQ λw' e=>?_;rw [tnc] at e ⊢;exact⟨rfl,e⟩
 | 21,hi=>
  refine GX (K':=λv w'=>v=sq w.heap.size B.n/\w'=w.alloc (.cells (replicate B.n (vi 0:Value)).toArray 3)) (HX prog) C23 C54 (ag1 54 _ (hv hr (by decide) B5k)) ?_ λv w' hv=>⟨_,h.al hi hr rfl (hv.1.trans (by simp [BP.val])) (λW o=>by show AX W (upd β 21 w.heap.size 21) _;rw [AF];exact o) hv.2⟩
  show eOp _ _ _ _ _ _
  rw [show B.val β 20=vi (B.n:Nat) from rfl,C15,A6g];refine AA FQ λw' e=>?_;rw [tnc] at e ⊢;exact⟨rfl,e⟩
 | 22,hi=>
  have hag:BN (C18 B β) a:=KF h.size λp hp=>by
   simp at hp;rcases hp with rfl|rfl|rfl|rfl|rfl|rfl|rfl
   .exact hv hr (by decide) B80
   .exact hv hr (by decide) B8z
   .exact hv hr (by decide) B2a
   .exact hv hr (by decide) B19
   .exact hv hr (by decide) A6t
   .exact hv hr (by decide) A6s
   .exact hv hr (by decide) A6r
  refine CH (τ:=λ_=>none) (N:=λv=>v=B.val β 22) C22 C53 hag ?_ λv hv=>⟨β,h.qu hi hr rfl trivial hv⟩;rw [C2g];rfl
 | 23,hi=>
  refine GX (K':=λv w'=>v=AP w.heap.size/\w'=w.alloc (.cells (B.wc β).toArray 57)) (HX prog) C21 C52 (ag1 56 _ (hv hr (by decide) A6q)) ?_ λv w' hv=>⟨_,h.al hi hr rfl (hv.1.trans (by simp [BP.val])) (λW o=>?_) hv.2⟩
  .show eOp _ _ _ _ _ _
   rw [show B.val β 22=.agg (B.wc β).toArray from rfl,C14]
   exactλw' e=>⟨rfl,e⟩
  .show AX W (upd β 23 w.heap.size 23) (B.wc (upd β 23 w.heap.size))
   rw [AF];have:B.wc (upd β 23 w.heap.size)=B.wc β:=by simp [BP.wc,upd]
   rw [this];exact o
 | 24,hi=>
  refine CH (τ:=λ_=>none) (N:=λv=>v=B.val β 24) C20 C51 (ag1 57 _ (hv hr (by decide) A6p)) ?_ λv hv=>⟨β,h.qu hi hr rfl trivial hv⟩
  show Eng.BZ.den _ _ _ _
  rw [show B.val β 23=AP (β 23) from rfl,C2f];rfl
 | n+25,h=>exact absurd h (by omega)
end
theorem A5q{listed:Array Bool}(hs:listed.size=25)(hr:Region.ready .any opsB listed=[]):∀i,i<25->listed.getD i false=true:=by
 intro i
 induction i using Nat.strongRecOn with
 | _ i ih=>
  intro hi
  cases hl:listed.getD i false with
  | true=>rfl
  | false=>
   have:i∈Region.ready .any opsB listed:=by
    refine mem_ready.2 ⟨?_,opB i,B8f i hi,λe he hb=>?_⟩
    .simp [show i<listed.size by omega] at hl ⊢;exact hl
    .have ha:=B1a i hi;rw [Array.all_eq_true] at ha;obtain⟨j,hj,rfl⟩:=Array.mem_iff_getElem.1 he;have:=of_decide_eq_true (ha j hj);exact ih _ this (by omega)
   rw [hr] at this
   cases this
theorem B6l(p:OA){w:WD}(I:OA->WD->Prop):DD (T:=WD->Prop) (D5 261 [(7,.pointer p)]) (λK=>K w) [(7,Shp.AP)] I=I p w:=by kernel_rfl
structure C3l(B:BP)(w0:WD)(β:Nat->Nat)(w:WD):Prop where
 kp:AB AD w0 w
 f:∀i,i<25->B.fact β w i/\∀s∈JC i,w0.heap.size<=β s
 inj:∀i j,i<25->j<25->i≠j->∀s∈JC i,∀t∈JC j,β s≠β t
theorem regB{B:BP}{w0:WD}{e:Env}{I:OA->WD->Prop}(hn:1<=B.n/\B.n<=16)(hcb:AX w0 B.cb B.xc)(hx1:B.x0 1=B.n)(he:e.length=261)(h1:e[1]? = some (some ⟨none,AP B.cb,none⟩))(h5:e[5]? = some (some ⟨none,AP B.kp,none⟩))(hI:∀β w',C3l B w0 β w'->I (some ⟨β 23,0,none⟩) w') :
 B3s prog (A59 f10 4) B8v e [(7,Shp.AP)] I w0:=by
 refine⟨λa ha Q hQ=>?_⟩;have hsz:a.tmps.size=261:=by rw [<- ha.len,he]
 have ht1:a.tmps[1]? = some (AP B.cb):=ha.ent 1 _ h1;have ht5:a.tmps[5]? = some (AP B.kp):=ha.ent 5 _ h5;have hlen:(A59 f10 4).length=25:=by
  have:=B06;unfold opsB at this;simpa using this
 rw [hlen]
 change wpAny prog .any opsB Q 25 (Array.replicate 25 false) a w0.drew
 refine A18 (λlisted a' w'=>∃β,MV B w0 a β listed a' w') ?_ ?_ 25 _ a _ ?_ ?_
 .rintro listed a' w' i ⟨β,h⟩ hi;have hi25:i<25:=by have:=(NK hi).2;have:=h.ls;omega
  exact h.one hn hcb hx1 ht1 ht5 hi25 hi
 .rintro listed a' w' ⟨β,h⟩ hr;have hall:=A5q h.ls hr;refine hQ (D5 261 [(7,AP (β 23))]) a' w' ⟨KF h.size λp hp=>?_,by rw [h.size,hsz],h.defs,h.keep⟩ ?_
  .simp at hp;subst hp;exact h.vals 24 (by decide) (hall 24 (by decide))
  .rw [B6l];exact hI β w' ⟨h.kp,λi hi=>⟨(h.fact i hi (hall i hi)).1,λs hs=>((h.fact i hi (hall i hi)).2 s hs).1⟩,λi j hi hj hne=>h.inj i j hi hj (hall i hi) (hall j hj) hne⟩
 .exact Nat.le_of_eq (by decide)
 .have hf:∀i,(Array.replicate 25 false).getD i false=false:=λi=>by
   rw [Array.getD_eq_getD_getElem?,Array.getElem?_replicate];split <;> rfl
  refine⟨λ_=>0,hsz,rfl,λ_ _=>rfl,by simp,kr.dr rfl,λj oj _ hl=>(by rw [hf] at hl;cases hl),λi _ hl=>(by rw [hf] at hl;cases hl),λi _ hl=>(by rw [hf] at hl;cases hl),λi j _ _ hl=>(by rw [hf] at hl;cases hl)⟩
