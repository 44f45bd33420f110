/- Part of a proof that a law returns true. Conditions: those in each theorem. -/
import Derived.Test.YtdgbechegbmpcaaGreatDoorQ15
set_option linter.unusedSimpArgs false
set_option linter.unusedVariables false
set_option maxRecDepth 100000
namespace Go.Proofs.YtdgbechegbmpcaaGreatDoor
open Go Go.Eng Go.Proofs.Tryz
open Go.Value (bool func slice agg int)
open Option (isNone)
open Go.IntKind (wrap)
open List (replicate range)
variable {c f i l m:Nat}{l':List Bk}{high:Bool}{S:AR}{fp:Prt->Nat->Prop}{lh:NI}{xs:List Nat}
section
variable {w:WD}{k:Nat}{S:AR}{fp:Prt->Nat->Prop}{rt lf cnt tot:Nat}{pg:Nat->Pg}{pin:Nat->Bool}{A:List Nat}{hh:Nat->List Nat}{tq:Nat->Tk}
theorem HD{g:Nat}:EE rt lf pg A (upd hh c (hh c++[f])) g↔EE rt lf pg A hh g\/g=f:=by
 have key:(∃i,g∈upd hh c (hh c++[f]) i)↔(∃i,g∈hh i)\/g=f:=by
  constructor
  .rintro ⟨i,hi⟩;by_cases e:i=c
   .subst e;rw [AF,List.mem_append,List.mem_singleton] at hi;exact hi.imp (λh=>⟨i,h⟩) id
   .rw [AI _ _ e] at hi;exact .inl ⟨i,hi⟩
  .rintro (⟨i,hi⟩|rfl)
   .by_cases e:i=c
    .subst e;exact⟨i,by rw [AF];exact List.mem_append_left _ hi⟩
    .exact⟨i,by rw [AI _ _ e];exact hi⟩
   .exact⟨c,by rw [AF];simp⟩
 unfold EE;rw [key];constructor
 .rintro (e|e|e|e|e|e)
  .exact .inl (.inl e)
  .exact .inl (.inr (.inl e))
  .exact .inl (.inr (.inr (.inl e)))
  .exact .inl (.inr (.inr (.inr (.inl e))))
  .exact .inl (.inr (.inr (.inr (.inr e))))
  .exact .inr e
 .rintro ((e|e|e|e|e)|e)
  .exact .inl e
  .exact .inr (.inl e)
  .exact .inr (.inr (.inl e))
  .exact .inr (.inr (.inr (.inl e)))
  .exact .inr (.inr (.inr (.inr (.inl e))))
  .exact .inr (.inr (.inr (.inr (.inr e))))
theorem B1z{n:Nat}{hh:Nat->List Nat}{l:List Nat}(hi:i<n):CY n (λj=>(upd hh i l j).length)+(hh i).length=CY n (λj=>(hh j).length)+l.length:=by
 have e:(λj=>(upd hh i l j).length)=upd (λj=>(hh j).length) i l.length:=by
  funext j;by_cases e:j=i
  .subst e;rw [AF,AF]
  .rw [AI _ _ e,AI _ _ e]
 rw [e];exact HE (n:=n) (f:=λj=>(hh j).length) (v:=l.length) hi
theorem A55{n:Nat}{L:Nat->List Bk}(hi:i<n):CY n (λt=>BD (upd L i l' t))+BD (L i)=CY n (λt=>BD (L t))+BD l':=by
 have e:(λt=>BD (upd L i l' t))=upd (λt=>BD (L t)) i (BD l'):=by
  funext t;by_cases e:t=i
  .subst e;rw [AF,AF]
  .rw [AI _ _ e,AI _ _ e]
 rw [e];exact HE (n:=n) (f:=λt=>BD (L t)) (v:=BD l') hi
theorem QSt.free(L:QSt S rt lf pg pin A hh tq cnt tot)(h:AO w k S fp)(hi:i<S.AK)(h1:AU S.c i<=f)(T:FL (S.L i) 0 high ((f:Int)-AU S.c i) 0 l'):¬EE rt lf pg A hh f/\f<S.n/\(∀y:Bk,y.g=1->(y∈l'↔y∈S.L i\/y=⟨((f:Int)-AU S.c i).toNat,0,1⟩))/\BD l'+1=BD (S.L i):=by
 have ht:=h.IQ hi;have hf:=h.fst hi;obtain⟨r,hr0,hr,⟨x,hx,hxg,hx1,hx2⟩,hm,hs⟩:=GY ht T;have er:((f:Int)-AU S.c i).toNat=r:=by omega
 refine⟨λhu=>?_,by omega,by rw [er];exact hm,hs⟩;obtain⟨j,y,hj,hy,hyg,he⟩:=L.tk2 _ hu;unfold gfr at he;have hfj:=h.fst hj;have hyt:=BI (h.IQ hj) hy;have hyo:=(L.tk1 j hj y hy hyg).1;rw [hyo] at hyt;have:j=i:=CR h.my (f:=(f:Int)) (by unfold AR.AK at hj;exact hj) (by unfold AR.AK at hi;exact hi) (by omega) (by omega) (by omega) (by omega);subst this;have:x=y:=J0 ht hx hy (f:=r) hx1 hx2 (by omega) (by rw [hyo];omega);subst this;omega
theorem QSt.taken (L:QSt S rt lf pg pin A hh tq cnt tot) (h:AO w k S fp)    (hc:c<S.AS) (hi:i<S.AK) (h1:AU S.c i<=f) (T:FL (S.L i) 0 high ((f:Int)-AU S.c i) 0 l') :
    QSt (S.taken c i f l' 4) rt lf pg pin A (upd hh c (hh c++[f])) tq cnt tot:=by
  have hn:=h.n4;obtain⟨hnu,hfn,hm,hs⟩:=L.free h hi h1 T;have hf:=h.fst hi;obtain⟨hrt,hlf,hrl⟩:=L.rl;have hfr:f≠rt:=λe=>hnu (.inl e);have hfl:f≠lf:=λe=>hnu (.inr (.inl e));have hfp:∀j,pg j≠.fr f:=λj e=>hnu (.inr (.inr (.inl ⟨j,e⟩)));have hfA:f∉A:=λe=>hnu (.inr (.inr (.inr (.inl e))));have hfh:∀t,f∉hh t:=λt e=>hnu (.inr (.inr (.inr (.inr ⟨t,e⟩))));have hup:∀{t g},g∈upd hh c (hh c++[f]) t->g∈hh t\/(t=c/\g=f):=λ{t g} e=>by
    by_cases e2:t=c
    . subst e2
      rw [AF,List.mem_append,List.mem_singleton] at e;exact e.imp id λe=>⟨rfl,e⟩
    . rw [AI _ _ e2] at e
      exact .inl e
  have hgf:gfr S i ⟨((f:Int)-AU S.c i).toNat,0,1⟩=f:=by unfold gfr;show _+((f:Int)-AU S.c i).toNat=f;omega
  have hbl:∀g m,g≠f->m<256->DA S.by' (f*256) 256 (g*256+m)=S.by' (g*256+m):=λg m hg hm=>by
    unfold DA;rw [if_neg (by have : g<f \/ f<g :=(by omega);omega)]
  have wd:∀{a b:Int},a≠f->wdF (DA S.by' (f*256) 256) S.n a b=wdF S.by' S.n a b:=A9v;exact {L with
    by':=λo=>by
      show 0<=DA S.by' (f*256) 256 o/\DA S.by' (f*256) 256 o<=255
      unfold DA;split
      . exact⟨by decide,by decide⟩
      . exact L.by' o
    w0:=by show wdF (DA S.by' (f*256) 256) S.n rt 0=_;rw [wd (by omega)];exact L.w0
    wz:=λt a b=>by show wdF (DA S.by' (f*256) 256) S.n rt t=_;rw [wd (by omega)];exact L.wz t a b
    wl:=λt a=>by show wdF (DA S.by' (f*256) 256) S.n lf t=_;rw [wd (by omega)];exact L.wl t a
    pgo:=λj g e=>by
      obtain⟨a1,a2,a3,a4,a5,a6⟩:=L.pgo j g e;exact⟨a1,a2,a3,a4,a5,λt e2=>(hup e2).elim (a6 t) λh=>hfp j (h.2▸e)⟩
    Ao:=λg e=>by
      obtain⟨a1,a2,a3,a4⟩:=L.Ao g e;exact⟨a1,a2,a3,λt e2=>(hup e2).elim (a4 t) λh=>hfA (h.2▸e)⟩
    hdr:=λt g e=>(hup e).elim (L.hdr t g) λh=>(by rw [h.2];exact⟨hfn,hfr,hfl⟩)
    hnd:=λt=>by
      by_cases e:t=c
      . subst e
        rw [AF,List.nodup_append];refine⟨L.hnd t,by simp,λa ha b hb e=>?_⟩;simp at hb;subst hb;exact hfh t (e▸ha)
      . rw [AI _ _ e];exact L.hnd t
    hin:=λt u g h1 h2=>by
      rcases hup h1 with h1|⟨h1,h3⟩ <;> rcases hup h2 with h2|⟨h2,h4⟩
      . exact L.hin t u g h1 h2
      . exact absurd (h4▸h1) (hfh t)
      . exact absurd (h3▸h2) (hfh u)
      . omega
    hz:=λt ht=>⟨by rw [AI _ _ (by have:S.AS<=t:=ht;omega)];exact(L.hz t ht).1,(L.hz t ht).2⟩
    mk1:=by
      show upd S.mks f _ rt=CK/\upd S.mks f _ lf=CK
      rw [AI _ _ (Ne.symm hfr),AI _ _ (Ne.symm hfl)];exact L.mk1
    mkA:=λg hg=>by
      show upd S.mks f _ g=CK
      rw [AI _ _ (show g≠f from λe=>hfA (e▸hg))];exact L.mkA g hg
    mk2:=λt g e=>by
      show upd S.mks f _ g=_
      rw [AI _ _ (show g≠f from λe2=>hfp t (e2▸e))];exact L.mk2 t g e
    mkh:=λt g e=>by
      show upd S.mks f _ g=_
      rcases hup e with h1|⟨_,rfl⟩
      . rw [AI _ _ (show g≠f from λe2=>hfh t (e2▸h1))]
        exact L.mkh t g h1
      . exact AF _ _ _
    mk3:=λg hg hnu'=>by
      show upd S.mks f _ g=CX
      rw [AI _ _ (show g≠f from λe=>hnu' (HD.2 (.inr e)))];exact L.mk3 g hg λhu=>hnu' (HD.2 (.inl hu))
    tk1:=λt ht z hz hg=>by
      have hz:z∈upd S.L i l' t:=hz;by_cases e:t=i
      . subst e
        rw [AF] at hz;rcases (hm z hg).1 hz with hz|rfl
        . have:=L.tk1 t ht z hz hg
          exact⟨this.1,HD.2 (.inl this.2)⟩
        . exact⟨rfl,HD.2 (.inr hgf)⟩
      . rw [AI _ _ e] at hz
        have:=L.tk1 t ht z hz hg;exact⟨this.1,HD.2 (.inl this.2)⟩
    tk2:=λg hu=>by
      rcases HD.1 hu with hu|rfl
      . obtain⟨t,z,ht,hz,hg,hez⟩:=L.tk2 g hu
        refine⟨t,z,ht,?_,hg,hez⟩
        show z∈upd S.L i l' t
        by_cases e:t=i
        . subst e;rw [AF];exact(hm z hg).2 (.inl hz)
        . rw [AI _ _ e];exact hz
      . refine⟨i,_,hi,?_,rfl,hgf⟩
        show _∈upd S.L i l' i
        rw [AF];exact(hm _ rfl).2 (.inr rfl)
    byf:=λj g e m hm=>by
      show DA S.by' (f*256) 256 (g*256+m)=_
      rw [hbl g m (λe2=>hfp j (e2▸e)) hm];exact L.byf j g e m hm
    ok:=λt=>⟨(L.ok t).g,(L.ok t).s⟩
    cf:=by
      have h3:=L.cf;have h4:=A55 (L:=S.L) (l':=l') hi;have h5:=B1z (hh:=hh) (l:=hh c++[f]) hc
      show CY S.AK (λt=>BD (upd S.L i l' t))+cnt+2+A.length+CY S.AS (λj=>(upd hh c (hh c++[f]) j).length)=S.n
      rw [lap] at h5;simp only [List.length_cons,List.length_nil] at h5;omega
    held:=by
      show upd S.held c (S.held c++[(f:Int)])=_
      rw [L.held];funext t;by_cases e:t=c
      . subst e;rw [AF,AF,F6];rfl
      . rw [AI _ _ e,AI _ _ e]}
theorem B2r{l:List Nat}(nd:(l++[f]).Nodup):DB ((l++[f]).map λf:Nat=>(f:Int)) (f:Int) l.length:=by
 refine⟨?_,λj hj e=>?_⟩
 .rw [gmp,gar (nlr _),Nat.sub_self];rfl
 .rw [gmp,gal hj,geg hj] at e;have e:((l[j]:Nat):Int)=(f:Int):=Option.some.inj e;rw [List.nodup_append] at nd;exact nd.2.2 l[j] (List.getElem_mem hj) f (by simp) (by omega)
theorem QSt.given{l:List Nat}(L:QSt S rt lf pg pin A hh tq cnt tot)(h:AO w k S fp)(hc:c<S.AS)(he:hh c=l++[f])(hi:i<S.AK)(h1:AU S.c i<=f)(h2:(f:Int)<AU S.c (i+1))(G:LV (S.L i) ((f:Int)-AU S.c i) 0 0 l') :
 QSt (S.given c i f l.length l') rt lf pg pin A (upd hh c l) tq cnt tot:=by
 have hfm:f∈hh c:=by rw [he];simp
 obtain⟨hfn,hfr,hfl⟩:=L.hdr c f hfm;have hnd:=L.hnd c;rw [he] at hnd;have hsub:∀{t g},g∈upd hh c l t->g∈hh t:=λ{t g} e=>by
  by_cases e2:t=c
  .subst e2;rw [AF] at e;rw [he];exact List.mem_append_left _ e
  .rw [AI _ _ e2] at e;exact e
 have hfo:∀t,f∉upd hh c l t:=λt e=>by
  by_cases e2:t=c
  .subst e2;rw [AF] at e;rw [List.nodup_append] at hnd;exact hnd.2.2 f e f (by simp) rfl
  .rw [AI _ _ e2] at e;exact e2 (L.hin t c f e hfm)
 have ehh:hh=upd (upd hh c l) c (upd hh c l c++[f]):=by
  funext t;by_cases e:t=c
  .subst e;rw [AF,AF,he]
  .rw [AI _ _ e,AI _ _ e]
 have hus:∀{g},EE rt lf pg A hh g↔EE rt lf pg A (upd hh c l) g\/g=f:=λ{g}=>by
  have:=HD (rt:=rt) (lf:=lf) (pg:=pg) (A:=A) (hh:=upd hh c l) (c:=c) (f:=f) (g:=g)
  rwa [<- ehh] at this
 rcases G with⟨_,e,_⟩|⟨x,hx,hxg,hxp,hxo,_,hm,hsm⟩
 .cases e
 have hxo':x.o=0:=by omega
 have hgx:gfr S i x=f:=by
  have:=(h.fst hi).1;unfold gfr;omega
 have hfp:∀j,pg j≠.fr f:=λj e=>(L.pgo j f e).2.2.2.2.2 c hfm;have hfA:f∉A:=λe=>(L.Ao f e).2.2.2 c hfm;have hnu:¬EE rt lf pg A (upd hh c l) f:=by
  rintro (e|e|⟨j,e⟩|e|⟨t,e⟩)
  .exact hfr e
  .exact hfl e
  .exact hfp j e
  .exact hfA e
  .exact hfo t e
 have hnl:∀z∈l',z.g=1->gfr S i z≠f:=λz hz hzg e=>by
  obtain⟨hz1,hz2⟩:=(hm z hzg).1 hz;have hzo:=(L.tk1 i hi z hz1 hzg).1;refine hz2 (J0 (h.IQ hi) hz1 hx (f:=z.p) (nlr _) (by rw [hzo];omega) ?_ ?_)
  .unfold gfr at e hgx;omega
  .unfold gfr at e hgx;rw [hxo'];omega
 obtain⟨hse,hss⟩:=JI (mk:=S.mks) (n:=S.n) (x:=CX) hfn (by decide);exact {L with
  pgo:=λj g e=>by
   obtain⟨a1,a2,a3,a4,a5,a6⟩:=L.pgo j g e;exact⟨a1,a2,a3,a4,a5,λt e2=>a6 t (hsub e2)⟩
  Ao:=λg e=>by
   obtain⟨a1,a2,a3,a4⟩:=L.Ao g e;exact⟨a1,a2,a3,λt e2=>a4 t (hsub e2)⟩
  hdr:=λt g e=>L.hdr t g (hsub e)
  hnd:=λt=>by
   by_cases e:t=c
   .subst e;rw [AF];rw [List.nodup_append] at hnd;exact hnd.1
   .rw [AI _ _ e];exact L.hnd t
  hin:=λt u g a b=>L.hin t u g (hsub a) (hsub b)
  hz:=λt ht=>⟨by rw [AI _ _ (by have:S.AS<=t:=ht;omega)];exact(L.hz t ht).1,(L.hz t ht).2⟩
  mk1:=by
   show smS S.mks S.n f CX rt=CK/\smS S.mks S.n f CX lf=CK
   rw [hss,AI _ _ (Ne.symm hfr),AI _ _ (Ne.symm hfl)];exact L.mk1
  mkA:=λg hg=>by
   show smS S.mks S.n f CX g=CK
   rw [hss,AI _ _ (show g≠f from λe=>hfA (e▸hg))];exact L.mkA g hg
  mk2:=λt g e=>by
   show smS S.mks S.n f CX g=_
   rw [hss,AI _ _ (show g≠f from λe2=>hfp t (e2▸e))];exact L.mk2 t g e
  mkh:=λt g e=>by
   show smS S.mks S.n f CX g=_
   rw [hss,AI _ _ (show g≠f from λe2=>hfo t (e2▸e))];exact L.mkh t g (hsub e)
  mk3:=λg hg hnu'=>by
   show smS S.mks S.n f CX g=CX
   rw [hss];by_cases e:g=f
   .subst e;rw [AF]
   .rw [AI _ _ e];exact L.mk3 g hg λhu=>(hus.1 hu).elim hnu' e
  tk1:=λt ht z hz hg=>by
   by_cases e:t=i
   .subst e;have hz:z∈upd S.L t l' t:=hz;rw [AF] at hz;obtain⟨hz1,_⟩:=(hm z hg).1 hz;have:=L.tk1 t ht z hz1 hg;exact⟨this.1,(hus.1 this.2).resolve_right (hnl z hz hg)⟩
   .have hz:z∈upd S.L i l' t:=hz;rw [AI _ _ e] at hz;have:=L.tk1 t ht z hz hg;refine⟨this.1,(hus.1 this.2).resolve_right λe2=>e ?_⟩;have hzt:=BI (h.IQ ht) hz;have hfj':=h.fst ht;have hzo:=this.1;rw [hzo] at hzt;have e2:gfr S t z=f:=e2;unfold gfr at e2;exact CR h.my (f:=(f:Int)) (by unfold AR.AK at ht;exact ht) (by unfold AR.AK at hi;exact hi) (by omega) (by omega) h1 h2
  tk2:=λg hu=>by
   obtain⟨t,z,ht,hz,hg,hez⟩:=L.tk2 g (hus.2 (.inl hu));refine⟨t,z,ht,?_,hg,hez⟩
   show z∈upd S.L i l' t
   by_cases e:t=i
   .subst e;rw [AF];refine(hm z hg).2 ⟨hz,λe2=>?_⟩;subst e2;exact hnu (by rw [<- hgx,hez];exact hu)
   .rw [AI _ _ e];exact hz
  ok:=λt=>⟨(L.ok t).g,(L.ok t).s⟩
  cf:=by
   have h3:=L.cf;have h4:=A55 (L:=S.L) (l':=l') hi;have h5:=B1z (hh:=hh) (l:=l) hc
   show CY S.AK (λt=>BD (upd S.L i l' t))+cnt+2+A.length+CY S.AS (λj=>(upd hh c l j).length)=S.n
   rw [he,lap] at h5;simp only [List.length_cons,List.length_nil] at h5;rw [hxo'] at hsm;omega
  held:=by
   show upd S.held c (del (S.held c) l.length)=_
   have e1:del (S.held c) l.length=l.map λf:Nat=>(f:Int):=by
    rw [L.held]
    show del ((hh c).map λf:Nat=>(f:Int)) l.length=_
    rw [he];unfold del;simp
   rw [e1,L.held];funext t;by_cases e:t=c
   .subst e;rw [AF,AF]
   .rw [AI _ _ e,AI _ _ e]}
end
theorem vc43(w':OA)(cpu:Int)(l:OA)(lL lC:Nat)(w:WD)(K:KV)(h:Q (AW w #[pt w'] 34 λc=>AW c #[vi cpu] 3 λw'=>AW w' #[sl l lL lC] 59 λa=>RS a w'.heap.size 0 λx u z=>Wif ((↑u:Int)==0) (K Value.nilFunc a) (RS a w'.heap.size 0 λx y A=>Wp x (Wn 0 y (∃(q r:Int),(rd a (pb x) (po x)=some (.int .i64 q)/\rd a (pb x) (po x+1)=some (.int .i64 r))/\AW a #[vi 0,vi 0] 78 λd=>AW d #[Value.nilFunc] 216 λi=>(wr i a.heap.size 0/\wr i a.heap.size 1)/\St (st i a.heap.size 0 (vi q)) a.heap.size 1 (vi r) λs=>Sw s d.heap.size 0 (func (.func 105) #[] #[bp w,bp c,bp w']) λf=>RI f a.heap.size 1 λx=>AW f #[vi 0] 3 λw'=>Sw w' f.heap.size 0 (vi (wrap .i64 (Int.tmod (wrap .u64 x) 32))) λh=>AW h #[Value.nilFunc] 217 λw'=>Sw w' h.heap.size 0 (func (.func 106) #[] #[bp w,bp c,bp d]) λb=>RI b a.heap.size 0 λx=>Wif (x==1) (Dr b λg=>RP g w.heap.size 0 λx=>Wp x (Rp g x 0 λk=>RI g c.heap.size 0 λx=>RV g h.heap.size 0 λo=>Ret 107 #[pt k,vi x,func (.func 108) #[] #[bp w,bp c,bp f],vu 4,bool true,o] g K)) (Wif (x==2) (K (.func (.func 109) #[] #[bp w,bp c,bp d]) b) (Wif (x==3) (AW b #[bool false] 4 λw'=>Sw w' b.heap.size 0 (bool false) λt=>Dr t λg=>RP g w.heap.size 0 λx=>Wp x (Rp g x 0 λk=>RI g c.heap.size 0 λx=>RI g a.heap.size 1 λo=>RP g w.heap.size 0 λj=>Wp j (Ri g j 2 λp=>Wif (wrap .u64 p != 0) (Calls prog 113 #[pt k,vi x,vi (wrap .i64 (Int.tmod (wrap .u64 o) (wrap .u64 p))),func (.func 114) #[] #[bp b]] g λe w'=>∃(v:Value),e=rT v/\(rd w' w.heap.size 0=some (.pointer j)/\True)/\Ret 115 #[v,func (.func 112) #[] #[bp b,bp d]] w' K) False))) (Wif (x==4) (K (.func (.func 116) #[] #[bp w,bp f,bp c,bp d]) b) (Wif (x==5) (K (.func (.func 120) #[] #[bp w,bp c,bp f,bp h]) b) (Wif (x==6) (K (.func (.func 122) #[] #[bp w,bp c,bp f,bp d]) b) (K (.func (.func 125) #[] #[bp d]) b))))))))))):Ret 43 #[pt w',vi cpu,sl l lL lC] w K:=vcA L7 2 [] func43 h
theorem vc105(a b c:OA)(w:WD)(K:KV)(h:Q (Dr w λf=>Wp a (Rp f a 0 λx=>Wp b (Ri f b 0 λh=>Wp c (Rs f c 0 λi g d=>Wif (CZ 1 (↑g:Int) (↑d:Int)) (Ret 43 #[pt x,vi h,sl (BS i d 1 2) (g-1) (d-1)] f K) False))))):Ret 105 #[pt a,pt b,pt c] w K:=vcA L7 2 [] func105 h
theorem vc106(f e':Int)(b d i:OA)(w:WD)(K:KV)(h:Q (Dr w λg=>Wp b (Rp g b 0 λx=>Wp x (Rs g x 111 λy L M=>Wp d (Ri g d 0 λx=>Wp y (Wn x L (Sw g (pb y) (po y+x.toNat*1) (vi (-1)) λw'=>Wif (e' != 0) (Dr w' λg=>Wp b (Rp g b 0 λx=>Wp x (Rs g x 110 λh o z=>Wp d (Ri g d 0 λx=>Wp h (Wn x o (Ri g h (x.toNat*1) λp=>Wp h (Wn x o (Sw g (pb h) (po h+x.toNat*1) (vi (wrap .i64 (p+1))) λw'=>Wp i (Rv w' i 0 λx=>AN prog x [] w' λe w'=>∃(v:Value),e=rT v/\K v w'))))))))) (Dr w' λg=>Wp b (Rp g b 0 λx=>Wp x (Rs g x 109 λh o z=>Wp d (Ri g d 0 λp=>Wp b (Rp g b 0 λk=>Wp k (Rs g k 109 λq A G=>Wp d (Ri g d 0 λr=>Wp q (Wn r A (Rs g q (r.toNat*1) λB C D=>AW g #[vi f] 3 λw'=>Rt w' (pb q) (po q+r.toNat*1) (.slice B C D)<|Rt w' (pb d) (po d) (.int .i64 r)<|Rt w' (pb k) (po k+109) (.slice q A G)<|Rt w' (pb b) (po b) (.pointer k)<|Rt w' (pb d) (po d) (.int .i64 p)<|Rt w' (pb x) (po x+109) (.slice h o z)<|Rt w' (pb b) (po b) (.pointer x)<|∃(a:OA) (l c:Nat) (j:WD),BL prog #[27,27] 27 (sl B C D) (sl (aD g.heap.size) 1 1) (sl a l c) w' j/\(rd j (pb b) (po b)=some (.pointer k)/\True)/\(rd j (pb d) (po d)=some (.int .i64 p)/\True)/\(rd j (pb x) (po x+109)=some (.slice h o z)/\True)/\(rd j (pb b) (po b)=some (.pointer x)/\True)/\Wp h (Wn p o (Sw j (pb h) (po h+p.toNat*1) (sl a l c) λw'=>Dr w' λg=>Wp b (Rp g b 0 λx=>Wp x (Rs g x 111 λs E H=>Wp d (Ri g d 0 λt=>Wp b (Rp g b 0 λu=>Wp u (Rp g u 0 λJ=>CI 18 #[pt J,vi f] g λn w'=>Rt w' (pb d) (po d) (.int .i64 t)<|Rt w' (pb x) (po x+111) (.slice s E H)<|Rt w' (pb b) (po b) (.pointer x)<|Wp s (Wn t E (Sw w' (pb s) (po s+t.toNat*1) (vi n) λF=>Wp i (Rv F i 0 λx=>AN prog x [] F λe w'=>∃(v:Value),e=rT v/\K v w')))))))))))))))))))))))))):Ret 106 #[vi f,vi e',pt b,pt d,pt i] w K:=vcA L7 2 [2000025,2000055] func106 h
theorem vc108(b d f:OA)(w:WD)(K:KV)(h:Q (Dr w λg=>Wp b (Rp g b 0 λx=>Wp x (Rp g x 0 λh=>Wp d (Ri g d 0 λx=>Wp f (Ri g f 0 λi=>CS 20 #[pt h,vi x,vi 1,vi i] g λa l c w'=>K (sl a l c) w')))))):Ret 108 #[pt b,pt d,pt f] w K:=vcA L7 2 [] func108 h
theorem vc109(x0:Bool)(a b f:OA)(w:WD)(K:KV)(h:Q (Dr w λg=>Wp a (Rp g a 0 λx=>Wp x (Rs g x 109 λd o t=>Wp b (Ri g b 0 λk=>Wp d (Wn k o (Rs g d (k.toNat*1) λu p y=>AW g #[vi 0] 3 λw'=>Rt w' (pb d) (po d+k.toNat*1) (.slice u p y)<|Rt w' (pb b) (po b) (.int .i64 k)<|Rt w' (pb x) (po x+109) (.slice d o t)<|Rt w' (pb a) (po a) (.pointer x)<|Sw w' g.heap.size 0 (vi (↑p:Int)) λh=>RI h g.heap.size 0 λx=>Wif (x==0) (Wp f (Rv h f 0 λx=>AN prog x [] h λe w'=>∃(v:Value),e=rT v/\K v w')) (Dr h λc=>Wp a (Rp c a 0 λx=>Wp x (Rs c x 109 λl z A=>Wp b (Ri c b 0 λx=>Wp l (Wn x z (Rs c l (x.toNat*1) λj q B=>RI c g.heap.size 0 λx=>Wp j (Wn (wrap .i64 (x-1)) q (RI c (pb j) (po j+Int.toNat (wrap .i64 (x-1))*1) λr=>Dr c λi=>Wp a (Rp i a 0 λx=>Wp x (Rp i x 0 λs=>Wp b (Ri i b 0 λx=>Ret 110 #[pt s,vi x,vi r,func (.func 111) #[] #[pt a,pt b,bp g,pt f]] i K)))))))))))))))))):Ret 109 #[bool x0,pt a,pt b,pt f] w K:=vcA L7 2 [2000018] func109 h
theorem vc111(x0:Bool)(a b d f:OA)(w:WD)(K:KV)(h:Q (Dr w λc=>Wp a (Rp c a 0 λx=>Wp x (Rs c x 109 λg o s=>Wp b (Ri c b 0 λx=>Wp a (Rp c a 0 λh=>Wp h (Rs c h 109 λi p t=>Wp b (Ri c b 0 λl=>Wp i (Wn l p (Rs c i (l.toNat*1) λq r j=>Wp d (Ri c d 0 λk=>Wif (CZ 0 (wrap .i64 (k-1)) (↑j:Int)) (Wp g (Wn x o (Sw c (pb g) (po g+x.toNat*1) (sl q (Int.toNat (wrap .i64 (k-1))) j) λw'=>Wp f (Rv w' f 0 λx=>AN prog x [] w' λe w'=>∃(v:Value),e=rT v/\K v w')))) False))))))))))):Ret 111 #[bool x0,pt a,pt b,pt d,pt f] w K:=vcA L7 2 [2000023] func111 h
theorem vc12(w':OA)(cpu:Int)(l:OA)(lL lC:Nat)(w:WD)(K:KV)(h:Q (Calls prog 43 #[pt w',vi cpu,sl l lL lC] w λ(e:Ending) (a:WD)=>∃(v:Value),e=rT v/\Wif (okF v) (gIf (isP w') ((!isF v)=false) (∃(x:OA),((!isF v)=false->rd a (pb w') (po w'+1)=some (.pointer x))/\Wif (!isF v) (K (.bool true) a) (CI 44 #[pt x,vi cpu,v] a λn w'=>K (.bool (n==0)) w'))) False)):Ret 12 #[pt w',vi cpu,sl l lL lC] w K:=vcA L7 2 [] func12 h
theorem vc21(w':OA)(cpu most:Int)(w:WD)(K:KV)(h:Q (∃(I:Int->WD->Nat->Prop),(∃(n:Nat),I 0 w n)/\∀(n:Int) (a:WD) (d:Nat),I n a d->gIf (isP w') (decide (n<most)=true) (∃(x:OA),(decide (n<most)=true->rd a (pb w') (po w'+1)=some (.pointer x))/\Wif (decide (n<most)) (Calls prog 13 #[pt x,vi cpu] a λ(e:Ending) (c:WD)=>∃(b:Bool),e=rT (.bool b)/\Wif b (Wp w' (Rp c w' 1 λx=>Calls prog 14 #[pt x,vi cpu,bool false] c λe w'=>∃(b:Bool) (f:Int),e=rT (.tuple #[bool b,vi f])/\Lt d λm=>I (wrap .i64 (n+1)) w' m)) (Wp w' (Rp c w' 1 λx=>CB 13 #[pt x,vi cpu] c λb w'=>K (.bool !b) w'))) (Wp w' (Rp a w' 1 λx=>CB 13 #[pt x,vi cpu] a λb w'=>K (.bool !b) w'))))):Ret 21 #[pt w',vi cpu,vi most] w K:=vcA L7 2 [] func21 h
theorem vc48(f n:Int)(a:OA)(w:WD)(K:KV)(h:Q (gIf (isP a) (decide (f>=0)=true) (∃(x:OA) (d g:Nat),(decide (f>=0)=true->rd w (pb a) (po a)=some (.slice x d g))/\Wif (decide (f>=0)&&decide (f<(↑d:Int))) (Dr w λc=>Wp a (Rs c a 0 λx h k=>Wp a (Rs c a 0 λb i l=>Wp b (Wn f i (Ri c b (f.toNat*1) λj=>Wp x (Wn f h (Sw c (pb x) (po x+f.toNat*1) (vi (wrap .i64 (wrap .i64 (j*10)+n))) λw'=>K (.tuple #[]) w'))))))) (K (.tuple #[]) w)))):Ret 48 #[vi f,vi n,pt a] w K:=vcA L7 2 [] func48 h
def vcP9(w:WD)(K:KV):Prop:=AW w #[vi 0] 3 λw'=>Calls prog 30 #[sl (aD w.heap.size) 1 1] w' λe w'=>∃(f:NI) (a:OA) (l c:Nat) (g:OA) (h c_1:Nat) (i:NI),e=rT (.agg (List.toArray (AQ .i64 f 0 94++([sl a l c,sl g h c_1]++AQ .i64 i 0 8))))/\Calls prog 10 #[agg (List.toArray (AQ .i64 f 0 94++([sl a l c,sl g h c_1]++AQ .i64 i 0 8)))] w' λe w'=>∃(p:OA) (b j:Bool),e=rT (.tuple #[pt p,bool b,bool j])/\AW w' #[vi 0,vi 1] 3 λA=>Calls prog 30 #[sl (aD w'.heap.size) 2 2] A λe w'=>∃(f:NI) (a:OA) (l c:Nat) (k:OA) (o c_2:Nat) (q:NI),e=rT (.agg (List.toArray (AQ .i64 f 0 94++([sl a l c,sl k o c_2]++AQ .i64 q 0 8))))/\Calls prog 10 #[agg (List.toArray (AQ .i64 f 0 94++([sl a l c,sl k o c_2]++AQ .i64 q 0 8)))] w' λe w'=>∃(d:OA) (r s:Bool),e=rT (.tuple #[pt d,bool r,bool s])/\Wif (!b||!j||!r||!s) (K (.bool false) w') (AW w' #[vi 1,vi 0] 78 λB=>CB 12 #[pt p,vi 0,sl (aD w'.heap.size) 1 1] B λb w'=>Wif b (CB 21 #[pt p,vi 0,vi 200] w' λb w'=>gIf (isP p) (b=true) (∃(x:OA) (t D:Nat),(b=true->rd w' (pb p) (po p+109)=some (.slice x t D))/\gIf (isP x) (b=true) (gIf (inB 0 t) (b=true) (∃(E:OA) (u F:Nat),(b=true->rd w' (pb x) (po x)=some (.slice E u F))/\Wif (b&&(↑u:Int)==1) (CB 15 #[pt p] w' λb w'=>Wif b (CB 25 #[pt p] w' λb w'=>Wif b (AW w' #[vi 1,vi 0] 78 λC=>CB 12 #[pt d,vi 0,sl (aD w'.heap.size) 1 1] C λb w'=>Wif b (CB 21 #[pt d,vi 0,vi 200] w' λb w'=>gIf (isP d) (b=true) (∃(x:OA) (y G:Nat),(b=true->rd w' (pb d) (po d+110)=some (.slice x y G))/\gIf (isP x) (b=true) (gIf (inB 0 y) (b=true) (∃(z:Int),(b=true->rd w' (pb x) (po x)=some (.int .i64 z))/\Wif (b&&z==1) (CB 15 #[pt d] w' λb w'=>K (.bool b) w') (K (.bool false) w'))))) (K (.bool false) w')) (K (.bool false) w')) (K (.bool false) w')) (K (.bool false) w'))))) (K (.bool false) w'))
theorem vc9(w:WD)(K:KV)(h:vcP9  w K):Ret 9 #[] w K:=vcA L7 2 [] func9 h
theorem vc30(pins:OA)(LN pinsC:Nat)(w:WD)(K:KV)(h:Q (AW w (List.toArray (replicate 94 (vi 0)++([sl none 0 0,sl none 0 0]++replicate 8 (vi 0)))) 29 λw'=>AW w' (List.toArray (replicate 94 (vi 0))) 26 λc=>DJ c w'.heap.size 0 ([vi 1,vi 1]++(replicate 88 (vi 0)++[vi 2,vi 0,vi 0,vi 0]))/\∀d,d=F5 c w'.heap.size 0 ([vi 1,vi 1]++(replicate 88 (vi 0)++[vi 2,vi 0,vi 0,vi 0]))->Sw d w'.heap.size 18 (vi 4) λa=>∃(x:NI),BB a w'.heap.size 0 (AQ .i64 x 0 94)/\AW a #[vi 0,vi 1] 3 λw'=>DJ w' w.heap.size 0 (AQ .i64 x 0 94++([sl (aD a.heap.size) 2 2,sl pins LN pinsC]++replicate 8 (vi 0)))/\∀b,b=F5 w' w.heap.size 0 (AQ .i64 x 0 94++([sl (aD a.heap.size) 2 2,sl pins LN pinsC]++replicate 8 (vi 0)))->∃(x:NI) (f:OA) (g h:Nat) (i:OA) (j k:Nat) (l:NI),BB b w.heap.size 0 (AQ .i64 x 0 94++([sl f g h,sl i j k]++AQ .i64 l 0 8))/\K (.agg (List.toArray (AQ .i64 x 0 94++([sl f g h,sl i j k]++AQ .i64 l 0 8)))) b)):Ret 30 #[sl pins LN pinsC] w K:=vcA L7 2 [] func30 h
structure Wv where
 b:Nat
 k:Nat
 t:Nat
 mid:List Value
 gb:Nat
 nb:Nat
 lb:Nat
 cb:Nat
 n:Nat
def Wv.rows(V:Wv)(x:Nat):Prop:=x=V.gb\/x=V.nb\/x=V.lb\/x=V.cb
structure WAt(w:WD)(V:Wv)(gt:Nat->Value)(nn la ca:NI):Prop where
 so:AX w V.b ([AP V.k,AP V.t]++V.mid++[.slice (some ⟨V.gb,0,none⟩) V.n V.n,.slice (some ⟨V.nb,0,none⟩) V.n V.n,.slice (some ⟨V.lb,0,none⟩) V.n V.n,.slice (some ⟨V.cb,0,none⟩) V.n V.n])
 ml:V.mid.length=107
 n16:V.n<=16
 gt:AX w V.gb ((range V.n).map gt)
 nn:AX w V.nb (AQ .i64 nn 0 V.n)
 la:AX w V.lb (AQ .i64 la 0 V.n)
 ca:AX w V.cb (AQ .i64 ca 0 V.n)
 ne:V.gb≠V.nb/\V.gb≠V.lb/\V.gb≠V.cb/\V.nb≠V.lb/\V.nb≠V.cb/\V.lb≠V.cb
 nw:¬V.rows V.b
section
variable {w w':WD}{V:Wv}{gt:Nat->Value}{nn la ca:NI}
theorem WAt.kx(h:WAt w V gt nn la ca){X:NP}(k:AB X w w')(hx:∀x,X x->x=V.b\/V.rows x->False):WAt w' V gt nn la ca:=
 ⟨h.so.kx k λe=>hx _ e (.inl rfl),h.ml,h.n16,h.gt.kx k λe=>hx _ e (.inr (.inl rfl)),h.nn.kx k λe=>hx _ e (.inr (.inr (.inl rfl))),h.la.kx k λe=>hx _ e (.inr (.inr (.inr (.inl rfl)))),h.ca.kx k λe=>hx _ e (.inr (.inr (.inr (.inr rfl)))),h.ne,h.nw⟩
theorem WAt.k(h:WAt w V gt nn la ca)(k:AB AD w w'):WAt w' V gt nn la ca:=h.kx k λ_ e=>e.elim
theorem WAt.lt(h:WAt w V gt nn la ca):∀x,x=V.b\/V.rows x->x<w.heap.size:=by
 rintro x (rfl|rfl|rfl|rfl|rfl)
 .exact h.so.lt
 .exact h.gt.lt
 .exact h.nn.lt
 .exact h.la.lt
 .exact h.ca.lt
theorem WAt.rd0(h:WAt w V gt nn la ca):rd w V.b 0=some (AP V.k):=by rw [h.so.rd];rfl
theorem WAt.rd1(h:WAt w V gt nn la ca):rd w V.b (0+1)=some (AP V.t):=by rw [h.so.rd];rfl
theorem WAt.rdR(h:WAt w V gt nn la ca){j:Nat}{v:Value}(hv:[slice (some ⟨V.gb,0,none⟩) V.n V.n,.slice (some ⟨V.nb,0,none⟩) V.n V.n,.slice (some ⟨V.lb,0,none⟩) V.n V.n,.slice (some ⟨V.cb,0,none⟩) V.n V.n][j]? = some v):rd w V.b (0+(109+j))=some v:=by
 rw [za,h.so.rd,gar (by simp [h.ml]),lap,h.ml]
 show _[109+j-(2+107)]? = _
 rw [show 109+j-(2+107)=j by omega];exact hv
theorem WAt.rdG(h:WAt w V gt nn la ca)(hi:i<V.n):rd w V.gb i=some (gt i)/\wr w V.gb i:=by
 refine⟨?_,h.gt.wr (by simpa using hi)⟩;rw [h.gt.rd,gmp,List.getElem?_range hi];rfl
theorem WAt.rdN(h:WAt w V gt nn la ca)(hi:i<V.n):rd w V.nb i=some (vi (nn i))/\wr w V.nb i:=by
 refine⟨?_,h.nn.wr (by rw [AM];exact hi)⟩;rw [h.nn.rd,AZ _ _ _ _ _ hi,za]
theorem WAt.rdL(h:WAt w V gt nn la ca)(hi:i<V.n):rd w V.lb i=some (vi (la i))/\wr w V.lb i:=by
 refine⟨?_,h.la.wr (by rw [AM];exact hi)⟩;rw [h.la.rd,AZ _ _ _ _ _ hi,za]
theorem WAt.C4r(h:WAt w V gt nn la ca)(hi:i<V.n){v:Int}(e:w'=st w V.lb i (vi v)):WAt w' V gt nn (upd la i v) ca/\AB V.rows w w':=by
 have kk:AB (·=V.lb) w w':=kr.s1 e (.inl rfl);have o:=h.la.s1 e;rw [FF hi] at o;obtain⟨n1,n2,n3,n4,n5,n6⟩:=h.ne;exact⟨⟨h.so.kx kk λe=>h.nw (.inr (.inr (.inl e))),h.ml,h.n16,h.gt.kx kk n2,h.nn.kx kk n4,o,h.ca.kx kk (Ne.symm n6),h.ne,h.nw⟩,kk.AE λx _ e=>.inr (.inr (.inl e))⟩
theorem WAt.putN(h:WAt w V gt nn la ca)(hi:i<V.n){v:Int}(e:w'=st w V.nb i (vi v)):WAt w' V gt (upd nn i v) la ca/\AB V.rows w w':=by
 have kk:AB (·=V.nb) w w':=kr.s1 e (.inl rfl);have o:=h.nn.s1 e;rw [FF hi] at o;obtain⟨n1,n2,n3,n4,n5,n6⟩:=h.ne;exact⟨⟨h.so.kx kk λe=>h.nw (.inr (.inl e)),h.ml,h.n16,h.gt.kx kk n1,o,h.la.kx kk (Ne.symm n4),h.ca.kx kk (Ne.symm n5),h.ne,h.nw⟩,kk.AE λx _ e=>.inr (.inl e)⟩
theorem WAt.C66(h:WAt w V gt nn la ca)(hi:i<V.n){v:Value}(e:w'=st w V.gb i v):WAt w' V (upd gt i v) nn la ca/\AB V.rows w w':=by
 have kk:AB (·=V.gb) w w':=kr.s1 e (.inl rfl);have o:=h.gt.s1 e;have e2:((range V.n).map gt).set i v=(range V.n).map (upd gt i v):=by
  refine List.ext_getElem? λj=>?_;rw [List.getElem?_set];by_cases hj:i=j
  .subst hj;rw [if_pos rfl,if_pos (by simpa using hi),gmp,List.getElem?_range hi];simp
  .rw [if_neg hj,gmp,gmp];by_cases hj2:j<V.n
   .rw [List.getElem?_range hj2];simp [AI _ _ (Ne.symm hj)]
   .rw [gen (by simp;omega)];rfl
 rw [e2] at o;obtain⟨n1,n2,n3,n4,n5,n6⟩:=h.ne;exact⟨⟨h.so.kx kk λe=>h.nw (.inl e),h.ml,h.n16,o,h.nn.kx kk (Ne.symm n1),h.la.kx kk (Ne.symm n2),h.ca.kx kk (Ne.symm n3),h.ne,h.nw⟩,kk.AE λx _ e=>.inl e⟩
end
theorem Ctx.E5{k:Nat}{FR:NP}{w w':WD}(X:Ctx k S fp FR w)(kk:AB FR w w'):Ctx k S fp FR w':=
 ⟨X.C.kx kk λx q e hq=>X.dj q x hq e,λx hx=>nll (X.lt x hx) kk.sz,X.dj⟩
theorem Ctx.fresh{k:Nat}{FR:NP}{W w4:WD}(X:Ctx k S fp FR W)(kk:AB FR W w4):Ctx k S fp (λx=>FR x\/rng W w4 x) w4:=by
 have X':=X.E5 kk;exact⟨X'.C,λx hx=>hx.elim (X'.lt x) λh=>h.2,λp x hp hr=>hr.elim (X.dj p x hp) λh=>by have:=(X.C.lt p x hp).2;have:=h.1;omega⟩
structure Rc where
 gt:Nat->Value
 nn:NI
 la:NI
 ca:NI
structure SqT where
 S:AR
 pg:Nat->Pg
 hh:Nat->List Nat
 tk:Nat->Tk
 r:Rc
def SqT.lock(t:SqT)(i l:Nat):SqT:={t with S:=t.S.IB (upd t.S.lh l ((i:Int)+1)),tk:=upd t.tk i {t.tk i with lks:=l::(t.tk i).lks}}
structure Cn where
 k:Nat
 pl:Nat
 V:Wv
 c:NI
 rt:Nat
 lf:Nat
 pg0:Nat->Pg
 pin:Nat->Bool
 A:List Nat
 tot:Nat
 ls:Nat->Nat
 rb:NP
 rl:NP
 ro:WD->Prop
 me:Nat
 al:Prop
 Q:SqT->(NP)->WD->Prop
def EU(pg:Nat->Pg):Nat:=((range 32).filter λj=>(pg j).KA).length
structure IX(Z:Cn)(t:SqT):Prop where
 q:QSt t.S Z.rt Z.lf t.pg Z.pin Z.A t.hh t.tk (EU t.pg) Z.tot
 c:t.S.c=Z.c
 pl:t.S.pl=Z.pl
 ls:∀n,n<t.S.AK->Z.ls n<=BD (t.S.L n)
 no:∀j,t.pg j=.no↔Z.pg0 j=.no
 al:Z.al->∀j,j≠Z.me->t.tk j=Tk.no
structure C7s(Z:Cn):Prop where
 k:Z.V.k=Z.k
 n:Z.V.n=(Z.c 1).toNat
 me:Z.me<Z.V.n
 ls:∀n,(Z.ls n:Int)<=Z.c 91
 ro:∀w w' X,Z.ro w->AB X w w'->(∀x,X x->¬Z.rl x)->Z.ro w'
 rl:∀x,Z.rl x->Z.rb x
 rr:∀x,x=Z.V.b\/Z.V.rows x->¬Z.rb x
 nd:Z.V.mid[0]? = some (vi (Z.c 0))
def RBs(Z:Cn)(x:Nat):Prop:=(x=Z.V.b\/Z.V.rows x)\/Z.rb x
abbrev GR(Z:Cn)(G:NP):NP:=λx=>G x\/RBs Z x
structure Pt(Z:Cn)(t:SqT)(G F:NP)(w:WD):Prop where
 inv:IX Z t
 X:∃fp,Ctx Z.k t.S fp (GR Z G) w
 wa:WAt w Z.V t.r.gt t.r.nn t.r.la t.r.ca
 gr:∀x,RBs Z x->¬G x
 fg:∀x,F x->G x
 ok:C7s Z
 ro:Z.ro w
def E7(Z:Cn)(t t1:SqT):Prop:=(t1.tk Z.me=t.tk Z.me/\t1.hh Z.me=t.hh Z.me/\t1.r.gt Z.me=t.r.gt Z.me/\EU t1.pg<=EU t.pg)/\(Z.al->t1=t)
theorem E7.refl(Z:Cn)(t:SqT):E7 Z t t:=⟨⟨rfl,rfl,rfl,nlr _⟩,λ_=>rfl⟩
theorem E7.tr{Z:Cn}{t t1 t2:SqT}(h:E7 Z t t1)(h2:E7 Z t1 t2):E7 Z t t2:=⟨⟨h2.1.1.trans h.1.1,h2.1.2.1.trans h.1.2.1,h2.1.2.2.1.trans h.1.2.2.1,Nat.le_trans h2.1.2.2.2 h.1.2.2.2⟩,λa=>(h2.2 a).trans (h.2 a)⟩
def Oth(Z:Cn)(t t2:SqT):Prop:=(∀j,j≠Z.me->t2.tk j=t.tk j/\t2.hh j=t.hh j/\t2.r.gt j=t.r.gt j)/\EU t2.pg<=EU t.pg
theorem Oth.refl(Z:Cn)(t:SqT):Oth Z t t:=⟨λ_ _=>⟨rfl,rfl,rfl⟩,nlr _⟩
structure Mo(Z:Cn)(t:SqT)(G F:NP)(w:WD)(t2:SqT)(G2 F2:NP)(w2:WD):Prop where
 k:AB (λx=>(¬G x/\¬Z.rb x)\/F x) w w2
 g:∀x,G x->G2 x
 g2:∀x,G2 x->G x\/rng w w2 x
 f:∀x,F2 x->F x\/rng w w2 x
 o:Oth Z t t2
theorem Mo.tr{Z:Cn}{t t1 t2:SqT}{G F G1 F1 G2 F2:NP}{w w1 w2:WD}(h:Mo Z t G F w t1 G1 F1 w1)(h2:Mo Z t1 G1 F1 w1 t2 G2 F2 w2):Mo Z t G F w t2 G2 F2 w2:=by
 have s1:=h.k.sz;have s2:=h2.k.sz;have key:∀{P Q:NP},(∀x,Q x->P x\/rng w w1 x)->∀x,(Q x\/rng w1 w2 x)->P x\/rng w w2 x:=λhk x hx=>by
  rcases hx with hx|hx
  .exact (hk x hx).imp id λe=>⟨e.1,by have:=e.2;omega⟩
  .exact .inr ⟨by have:=hx.1;omega,hx.2⟩
 refine⟨h.k.trans h2.k λx hx e=>?_,λx hx=>h2.g x (h.g x hx),λx hx=>key h.g2 x (h2.g2 x hx),λx hx=>key h.f x (h2.f x hx),λj hj=>?_,Nat.le_trans h2.o.2 h.o.2⟩
 .rcases e with e|e
  .exact .inl ⟨λe2=>e.1 (h.g x e2),e.2⟩
  .rcases h.f x e with e|e
   .exact .inr e
   .have:=e.1;omega
 .obtain⟨a,b,c⟩:=h.o.1 j hj;obtain⟨a2,b2,c2⟩:=h2.o.1 j hj;exact⟨a2.trans a,b2.trans b,c2.trans c⟩
def B6p(Z:Cn)(t:SqT)(F:NP)(w:WD):Prop:=∀t1 w',E7 Z t t1->AB (λx=>¬F x) w w'->Z.Q t1 F w'
def Safe(Z:Cn):Nat->SqT->Value->(NP)->WD->Prop
 | 0,t,v,F,w=>¬Z.al\/(v=.nilFunc/\B6p Z t F w)
 | n+1,t,v,F,w=>(v=.nilFunc/\B6p Z t F w)\/(isF v=true/\∀W t1 G fl,Pt Z t1 G F W->E7 Z t t1->AB (λx=>¬F x) w W->(Z.al->fl=false)->AN prog v [.bool fl] W λe W'=>
  ∃(v':Value) (t':SqT) (F' G':NP),e=.returned v'/\okF v'=true/\Pt Z t' G' F' W'/\Mo Z t1 G F W t' G' F' W'/\Safe Z n t' v' F' W')
def RunT(Z:Cn)(N:Nat)(t:SqT)(v:Value)(F:NP)(w:WD):Prop:=∀n,(Z.al->N<=n)->Safe Z n t v F w
def Nx(Z:Cn)(N:Nat)(t:SqT)(G F:NP)(w:WD)(e:Ending)(w':WD):Prop:=
 ∃(v:Value) (t':SqT) (F' G':NP),e=.returned v/\okF v=true/\Pt Z t' G' F' w'/\Mo Z t G F w t' G' F' w'/\RunT Z N t' v F' w'
section
variable {Z:Cn}{N M n:Nat}{t t1 t':SqT}{G F G1 F1:NP}{w w1 w9 w':WD}{v:Value}{e:Ending}
theorem B6p.E5(h:B6p Z t F w)(m:E7 Z t t1):B6p Z t1 F w:=λt2 w' a b=>h t2 w' (m.tr a) b
theorem B6p.env(h:B6p Z t F w)(k:AB (λx=>¬F x) w w'):B6p Z t F w':=λt2 w2 a b=>h t2 w2 a (k.trans b λ_ _ e=>e)
theorem Safe.E5(h:Safe Z n t v F w)(m:E7 Z t t1):Safe Z n t1 v F w:=by
 cases n with
 | zero=>exact h.imp id λh=>⟨h.1,h.2.E5 m⟩
 | succ n=>
  rcases h with⟨h1,h2⟩|⟨h1,h2⟩
  .exact .inl ⟨h1,h2.E5 m⟩
  .exact .inr ⟨h1,λW t2 G fl a b=>h2 W t2 G fl a (m.tr b)⟩
theorem Safe.env(h:Safe Z n t v F w)(k:AB (λx=>¬F x) w w'):Safe Z n t v F w':=by
 cases n with
 | zero=>exact h.imp id λh=>⟨h.1,h.2.env k⟩
 | succ n=>
  rcases h with h|⟨h1,h2⟩
  .exact .inl ⟨h.1,h.2.env k⟩
  .exact .inr ⟨h1,λW t1 G fl a b c=>h2 W t1 G fl a b (k.trans c λ_ _ e=>e)⟩
theorem RunT.step(h:isF v=true)(H:∀W t1 G fl,Pt Z t1 G F W->E7 Z t t1->AB (λx=>¬F x) w W->(Z.al->fl=false)->AN prog v [.bool fl] W (Nx Z N t1 G F W)):RunT Z (N+1) t v F w:=by
 intro n hn
 cases n with
 | zero=>exact .inl λa=>absurd (hn a) (by omega)
 | succ n=>
  refine .inr ⟨h,λW t1 G fl a b c d=>AT (H W t1 G fl a b c d) ?_⟩;rintro e W' ⟨v',t',F',G',g1,g2,g3,g4,g5⟩;exact⟨v',t',F',G',g1,g2,g3,g4,g5 n λa=>by have:=hn a;omega⟩
theorem RunT.nil(h:B6p Z t F w):RunT Z N t .nilFunc F w:=by
 intro n hn
 cases n with
 | zero=>exact .inr ⟨rfl,h⟩
 | succ n=>exact .inl ⟨rfl,h⟩
theorem RunT.le(hN:Z.al->N<=M)(h:RunT Z N t v F w):RunT Z M t v F w:=λn hn=>h n λa=>Nat.le_trans (hN a) (hn a)
theorem Nx.le(hN:Z.al->N<=M)(h:Nx Z N t G F w e w'):Nx Z M t G F w e w':=by
 obtain⟨v,t',F',G',g1,g2,g3,g4,g5⟩:=h;exact⟨v,t',F',G',g1,g2,g3,g4,g5.le hN⟩
theorem Nx.out(h:Nx Z N t G F w e w'):∃v,e=.returned v/\Nx Z N t G F w (.returned v) w':=by
 obtain⟨v,t',F',G',rfl,h⟩:=h;exact⟨v,rfl,v,t',F',G',rfl,h⟩
theorem Nx.pre(m:Mo Z t G F w t1 G1 F1 w1)(h:Nx Z N t1 G1 F1 w1 e w'):Nx Z N t G F w e w':=by
 obtain⟨v,t',F',G',g1,g2,g3,g4,g5⟩:=h;exact⟨v,t',F',G',g1,g2,g3,m.tr g4,g5⟩
theorem Mo.wk(h:∀x,F x->F1 x):Mo Z t G F1 w t G F w:=⟨AB.refl _ _,λ_ h=>h,λ_ h=>.inl h,λx hx=>.inl (h x hx),Oth.refl _ _⟩
theorem Nx.wk(h:∀x,F x->F1 x)(hM:Z.al->N<=M)(H:Nx Z N t G F w e w'):Nx Z M t G F1 w e w':=((Nx.pre (Mo.wk h) H).le hM)
theorem Pt.less(P:Pt Z t G F1 w)(h:∀x,F x->F1 x):Pt Z t G F w:=⟨P.inv,P.X,P.wa,P.gr,λx hx=>P.fg x (h x hx),P.ok,P.ro⟩
theorem Pt.kf{wa wb:WD}(P:Pt Z t G F w)(k:AB (λx=>¬GR Z G x) wa wb):AB (λx=>¬F x) wa wb:=k.AE λx _ h e=>h (.inl (P.fg x e))
theorem Pt.lt(P:Pt Z t G F w){x:Nat}(h:F x):x<w.heap.size:=P.X.elim λ_ X=>X.lt x (.inl (P.fg x h))
theorem Pt.cp(P:Pt Z t G F w):Z.me<t.S.AS:=by
 have h1:=P.ok.n;have h2:=P.ok.me;unfold AR.AS;rw [P.inv.c];omega
theorem Pt.more(P:Pt Z t G F w)(K:AB AD w w9):Pt Z t (λx=>G x\/rng w w9 x) (λx=>F x\/rng w w9 x) w9/\Mo Z t G F w t (λx=>G x\/rng w w9 x) (λx=>F x\/rng w w9 x) w9:=by
 obtain⟨fp,X⟩:=P.X;refine⟨⟨P.inv,⟨fp,(X.more K).less λx hx=>?_⟩,P.wa.k K,λx hr hx=>hx.elim (P.gr x hr) λe=>?_,λx hx=>hx.imp (P.fg x) id,P.ok,P.ok.ro _ _ _ P.ro K λ_ e=>e.elim⟩,K.none,λ_ h=>.inl h,λ_ h=>h,λ_ h=>h,Oth.refl _ _⟩
 .rcases hx with (h|h)|h
  .exact .inl (.inl h)
  .exact .inr h
  .exact .inl (.inr h)
 .have:=X.lt x (.inr hr);have:=e.1;omega
theorem Pt.go(P:Pt Z t G F w)(hi:IX Z t')(X:∃fp,Ctx Z.k t'.S fp (GR Z G) w')(kk:AB (λx=>¬GR Z G x\/F x) w w')(hr:t'.r=t.r)(ho:Oth Z t t'):Pt Z t' G F w'/\Mo Z t G F w t' G F w':=by
 refine⟨⟨hi,X,?_,P.gr,P.fg,P.ok,P.ok.ro _ _ _ P.ro kk λx h h2=>h.elim (λh=>h (.inr (.inr (P.ok.rl x h2)))) λh=>P.gr x (.inr (P.ok.rl x h2)) (P.fg x h)⟩,kk.AE λx _ h=>h.imp (λh=>⟨λe=>h (.inl e),λe=>h (.inr (.inr e))⟩) id,λ_ h=>h,λ_ h=>.inl h,λ_ h=>.inl h,ho⟩;rw [hr];exact P.wa.kx kk λx h1 h2=>h1.elim (λh=>h (.inr (.inl h2))) λh=>P.gr x (.inl h2) (P.fg x h)
theorem Pt.mv(P:Pt Z t G F w)(hi:IX Z t'){S':AR}{fp':Prt->Nat->Prop}(hS:t'.S=S')(M:Mv Z.k fp (GR Z G) w S' fp' w')(hr:t'.r=t.r)(ho:Oth Z t t'):Pt Z t' G F w'/\Mo Z t G F w t' G F w':=
 P.go hi ⟨fp',hS▸M.X⟩ (M.L.kp.AE λ_ _ h=>.inl h) hr ho
theorem JB(P:Pt Z t G F w)(K:AB AD w w9)(hv:isF v=true)
 (H:∀W t1 G1 fl,Pt Z t1 G1 (λx=>F x\/rng w w9 x) W->E7 Z t t1->AB (λx=>¬(F x\/rng w w9 x)) w9 W->(Z.al->fl=false)->AN prog v [.bool fl] W (Nx Z N t1 G1 (λx=>F x\/rng w w9 x) W)) :
 Nx Z (N+1) t G F w (.returned v) w9:=
 ⟨v,t,_,_,rfl,GF hv,(P.more K).1,(P.more K).2,RunT.step hv H⟩
theorem IX.free(I:IX Z t)(a:Z.al)(h:l∉(t.tk Z.me).lks):t.S.lh l=0:=by
 rcases I.q.lk.b l with e|⟨i,_,e⟩
 .exact e
 .have hm:=(I.q.lk.a i l).2 e;by_cases ei:i=Z.me
  .exact absurd (ei▸hm) h
  .rw [I.al a i ei] at hm
   cases hm
theorem IX.lock(P:Pt Z t G F w)(h0:t.S.lh l=0):IX Z (t.lock Z.me l):=by
 have I:=P.inv;refine⟨I.q.B9w P.cp (I.q.lk.take P.cp h0 λj=>List.mem_cons) rfl ?_,I.c,I.pl,I.ls,I.no,λa j hj=>(AI _ _ hj).trans (I.al a j hj)⟩;have o:=I.q.ok Z.me;exact⟨λf p h=>⟨mcm _ (o.g f p h).1,(o.g f p h).2⟩,o.s⟩
theorem E7.lock(m:E7 Z t t1):E7 Z (t.lock Z.me l) (t1.lock Z.me l):=by
 obtain⟨⟨a,b,c⟩,d⟩:=m;refine⟨⟨?_,b,c⟩,λh=>by rw [d h]⟩
 show upd _ _ _ _=upd _ _ _ _
 rw [AF,AF,a]
theorem Oth.lock:Oth Z t (t.lock Z.me l):=⟨λj hj=>⟨AI _ _ hj,rfl,rfl⟩,nlr _⟩
theorem GA(P:Pt Z t G F w)(K:AB AD w w9)(hl:l<9+t.S.AK)(hr:∀j∈(t.tk Z.me).lks,j<l){th:Value}(ht:isF th=true)
 (H:∀W t1 G1 fl,Pt Z t1 G1 (λx=>F x\/rng w w9 x) W->E7 Z (t.lock Z.me l) t1->AB (λx=>¬(F x\/rng w w9 x)) w9 W->(Z.al->fl=false)->AN prog th [.bool fl] W (Nx Z N t1 G1 (λx=>F x\/rng w w9 x) W)) :
 Calls prog 184 #[AP t.S.pl,vi Z.me,vi l,th] w9 λe w'=>∃v,e=.returned v/\Nx Z (N+2) t G F w (.returned v) w':=by
 have hto:=GF ht;have ha:Z.al->t.S.lh l=0:=λa=>P.inv.free a λh=>Nat.lt_irrefl _ (hr l h);have hcp:=P.cp;have hnn:t.S.AK=(Z.c 0).toNat:=by unfold AR.AK;rw [P.inv.c]
 obtain⟨P9,m9⟩:=P.more K;generalize hF9:(λx=>F x\/rng w w9 x)=F9 at *;generalize hG9:(λx=>G x\/rng w w9 x)=G9 at *;have hcp16:t.S.AS<=16:=by obtain⟨fp,X⟩:=P.X;exact X.C.BQ.2.1.2.1
 refine Calls.ret (vc184 _ Z.me l th w9 _ ?_);apply qI;rw [show Value.cells th=[th].toArray from DG hto];intro w1 e1 w2 e2 w3 e3 w4 e4 w5 e5;have o1:=AG e1;have o2:=AG e2;have o3:=AG e3;have o4:=AG e4;have o5:=AG e5;have k1:=kal e1;have k2:=kal e2;have k3:=kal e3;have k4:=kal e4;have k5:=kal e5;refine⟨o5.wr (by decide),λw6 e6=>?_⟩;have o6:=o5.s1 e6;have k6:AB (·=w4.heap.size) w5 w6:=e6▸kr.st (.inl rfl);generalize hv:Value.func (Fn.func 232) #[] #[Value.pointer (some (Addr.mk w9.heap.size 0 none)),Value.pointer (some (Addr.mk w1.heap.size 0 none)),Value.pointer (some (Addr.mk w2.heap.size 0 none)),Value.pointer (some (Addr.mk w4.heap.size 0 none)),Value.pointer (some (Addr.mk w3.heap.size 0 none))]=v at *;have s1:=o1.lt;have s2:=o2.lt;have s3:=o3.lt;have s4:=o4.lt;have s5:=o5.lt;have z2:=k2.sz;have z3:=k3.sz;have z4:=k4.sz;have z5:=k5.sz;have z6:=k6.sz;have K5:AB AD w9 w5:=(((k1.tr k2).tr k3).tr k4).tr k5;have K6:AB AD w9 w6:=BO K5 k6 λx e=>by omega
 have hfv:isF v=true:=by subst hv;rfl
 obtain⟨P6,m6⟩:=P9.more K6;refine⟨v,by rw [o6.rd];rfl,v,rfl,v,t,_,_,rfl,GF hfv,P6,m9.tr m6,?_⟩;have ne:∀{b:Nat}{cs:List Value},AX w5 b cs->b<w4.heap.size->AX w6 b cs:=λo hb=>o.kx k6 λe=>by omega
 have q1:=ne ((((o1.k k2).k k3).k k4).k k5) (by omega);have q2:=ne (((o2.k k3).k k4).k k5) (by omega);have q3:=ne ((o3.k k4).k k5) (by omega);have q4:=ne (o4.k k5) (by omega);intro n
 induction n with
 | zero=>intro hn;exact .inl λa=>absurd (hn a) (by omega)
 | succ n ih=>
  intro hn;refine .inr ⟨hfv,λW t1 G1 fl P1 m1 kW hfl=>?_⟩;have oo:∀{b:Nat}{cs:List Value},AX w6 b cs->w9.heap.size<=b->AX W b cs:=λo hb=>o.kx kW λhn=>hn (.inr ⟨hb,o.lt⟩);have p1:=oo q1 (nlr _);have p2:=oo q2 (by omega);have p3:=oo q3 (by omega);have p4:=oo q4 (by omega);have p5:=oo o6 (by omega);obtain⟨fp,X⟩:=P1.X;have epl:t.S.pl=t1.S.pl:=by rw [P.inv.pl,P1.inv.pl]
  have hl1:l<9+t1.S.AK:=by
   have:t1.S.AK=(Z.c 0).toNat:=by unfold AR.AK;rw [P1.inv.c]
   omega
  have hr1:∀j,l<=j->j<9+t1.S.AK->t1.S.lh j≠Z.me+1:=λj hj _ e=>by
   have:=(P1.inv.q.lk.a Z.me j).2 e;rw [m1.1.1] at this;have:=hr j this;omega
  refine AN.mk 232 #[] _ hv.symm (by kernel_rfl) ?_;refine Calls.ret (vc232 fl (some ⟨w9.heap.size,0,none⟩) (some ⟨w1.heap.size,0,none⟩) (some ⟨w2.heap.size,0,none⟩) (some ⟨w4.heap.size,0,none⟩) (some ⟨w3.heap.size,0,none⟩) W _ ?_);apply qI;rw [epl] at p1;refine AA rfl ⟨_,by show rd W w9.heap.size 0=_;rw [p1.rd];rfl,AA rfl ⟨Z.me,by show rd W w1.heap.size 0=_;rw [p2.rd];rfl,AA rfl ⟨l,by show rd W w2.heap.size 0=_;rw [p3.rd];rfl,(B27 X.C (who:=Z.me) (i:=l) (by omega) hl1 hr1).AE ?_⟩⟩⟩;rintro _ W2 (⟨h1,rfl,k2'⟩|⟨h0,rfl,T⟩)
  .have hal:¬Z.al:=λa=>h1 (by rw [m1.2 a];exact ha a);obtain⟨P2,m2⟩:=P1.go P1.inv ⟨fp,X.kept k2'⟩ k2'.none rfl (Oth.refl _ _);refine⟨false,0,rfl,AL rfl (AA rfl (AA rfl ⟨v,by show rd W2 w4.heap.size 0=_;rw [(p5.k k2').rd];rfl,v,t1,_,_,rfl,GF hfv,P2,m2,?_⟩))⟩;exact((ih λa=>absurd a hal).E5 m1).env (kW.trans k2'.none λ_ _ e=>e)
  .obtain⟨fp2,M2⟩:=X.mv T;obtain⟨P2,m2⟩:=P1.mv (t':=t1.lock Z.me l) (IX.lock P1 h0) rfl M2 rfl Oth.lock;have kF:AB (λx=>¬(F9 x\/rng w9 w6 x)) W W2:=M2.L.kp.AE λx _ h h2=>h (.inl (P1.fg x h2));have p4':AX W2 w3.heap.size [th]:=p4.kx kF λhn=>hn (.inr ⟨by omega,by omega⟩);refine⟨true,0,rfl,AL rfl (AL rfl (AA rfl ⟨th,by show rd W2 w3.heap.size 0=_;rw [p4'.rd];rfl,th,_,_,_,rfl,hto,P2,m2,?_⟩))⟩;refine RunT.step (N:=N) ht (λW3 t3 G3 fl3 P3 m3 k3' hfl3=>?_) n λa=>by have:=hn a;omega
   have hwk:∀x,F9 x->(F9 x\/rng w9 w6 x):=λx h=>.inl h;have kk:AB (λx=>¬(F9 x\/rng w9 w6 x)) w6 W3:=(kW.trans kF λ_ _ h=>h).trans k3' λ_ _ h=>h;exact AT (H W3 t3 G3 fl3 (P3.less hwk) (m1.lock.tr m3) ((K6.none.trans (kk.AE λx _ h h2=>h (.inl h2)) λ_ _ h=>h).AE (X:=λx=>¬F9 x) λx _ h h2=>h (by rw [<- hF9];exact h2)) hfl3) λe w' hN=>hN.wk hwk λ_=>nlr _
end
def SqT.EG(t:SqT)(i:Nat)(xs:List Nat):SqT:={t with S:=t.S.IB (unl t.S.lh xs 0),tk:=upd t.tk i Tk.no}
section
variable {Z:Cn}{N:Nat}{t t1:SqT}{G F G1 F1:NP}{w w1 w9 w':WD}{th:Value}
theorem TkO.none{pg:Nat->Pg}{pin:Nat->Bool}:TkO S pg pin Tk.no:=⟨λ_ _ h=>(by cases h),λ_ h=>(by cases h)⟩
theorem OJ{tk:Nat->Tk}{n:Nat}(h:LkR lh tk n)(hx:∀j,j∈(tk i).lks↔j∈xs):LkR (unl lh xs 0) (upd tk i Tk.no) n:=
 h.free (λx hm=>(hx x).2 hm) λj=>⟨(λh=>by cases h),λh=>absurd ((hx j).1 h.1) h.2⟩
theorem IX.EG(I:IX Z t)(hc:Z.me<t.S.AS)(hx:∀j,j∈(t.tk Z.me).lks↔j∈xs)(hs:(t.tk Z.me).sl=none):IX Z (t.EG Z.me xs):=
 ⟨I.q.B9w hc (OJ I.q.lk hx) hs.symm TkO.none,I.c,I.pl,I.ls,I.no,λa j hj=>(AI _ _ hj).trans (I.al a j hj)⟩
theorem Oth.EG:Oth Z t (t.EG Z.me xs):=⟨λj hj=>⟨AI _ _ hj,rfl,rfl⟩,nlr _⟩
theorem LkR.uniq{lh':NI}{tk:Nat->Tk}{n:Nat}(h:LkR lh tk n)(h':LkR lh' tk m):lh'=lh:=by
 funext j;rcases h.b j with e|⟨i,_,e⟩
 .rcases h'.b j with e'|⟨i,_,e'⟩
  .rw [e,e']
  .have:=(h.a i j).1 ((h'.a i j).2 e');omega
 .rw [(h'.a i j).1 ((h.a i j).2 e),e]
def Lk(Z:Cn)(t t1:SqT):Prop:=∃lh T,t1={t with S:=t.S.IB lh,tk:=upd t.tk Z.me T}
theorem Lk.lock:Lk Z t (t.lock Z.me l):=⟨_,_,rfl⟩
theorem Lk.EG:Lk Z t (t.EG Z.me xs):=⟨_,_,rfl⟩
theorem Lk.tr{t2:SqT}(h:Lk Z t t1)(h2:Lk Z t1 t2):Lk Z t t2:=by
 obtain⟨a,b,rfl⟩:=h;obtain⟨c,d,rfl⟩:=h2;refine⟨c,d,?_⟩
 show SqT.mk _ _ _ (upd (upd t.tk Z.me b) Z.me d) _=SqT.mk _ _ _ _ _
 rw [RU]
theorem Lk.eq(h:Lk Z t t1)(I:IX Z t)(I1:IX Z t1)(e:t1.tk Z.me=t.tk Z.me):t1=t:=by
 obtain⟨lh,T,rfl⟩:=h;have e:upd t.tk Z.me T Z.me=t.tk Z.me:=e;rw [AF] at e;subst e;have e2:upd t.tk Z.me (t.tk Z.me)=t.tk:=by
  funext j;by_cases e:j=Z.me
  .subst e;rw [AF]
  .rw [AI _ _ e]
 have h1:LkR lh (upd t.tk Z.me (t.tk Z.me)) _:=I1.q.lk;rw [e2] at h1;have e3:=I.q.lk.uniq h1
 show SqT.mk {t.S with lh:=lh} t.pg t.hh (upd t.tk Z.me (t.tk Z.me)) t.r=t
 rw [e2,e3]
theorem E7.tk1(m:E7 Z (t.lock Z.me l) t1)(h0:t.tk Z.me=Tk.no):t1.tk Z.me={Tk.no with lks:=[l]}:=by
 rw [m.1.1]
 show upd _ _ _ _=_
 rw [AF,h0]
 rfl
theorem E7.EG(m:E7 Z (t.lock Z.me l) t1)(h0:t.tk Z.me=Tk.no)(I:IX Z t)(I2:IX Z (t1.EG Z.me [l])):E7 Z t (t1.EG Z.me [l]):=
 ⟨⟨(AF _ _ _).trans h0.symm,m.1.2.1,m.1.2.2⟩,λa=>Lk.eq ((m.2 a▸Lk.lock).tr Lk.EG) I I2 ((AF _ _ _).trans h0.symm)⟩
theorem ET{FR:NP}{tk:Nat->Tk}{n:Nat}(X:Ctx Z.k S fp FR w)(hlk:LkR S.lh tk n)(hme:Z.me<1000)(hn:n=S.AS){T:Tk}(ht:tk Z.me=T)(hs:∀x∈xs,x∈T.lks/\x<9+S.AK)(hnd:xs.Nodup)(hl:xs.length<=100){b:Nat}(hb:AX w b (xs.map λx:Nat=>vi (x:Int)))(hfb:∀p,¬fp p b)(hc:c=xs.length) :
 Calls prog 188 #[AP Z.k,vi Z.me,.slice (some ⟨b,0,none⟩) c c] w λe w'=>e=.returned (.tuple #[])/\∃fp',Mv Z.k fp FR w (S.IB (unl S.lh xs 0)) fp' w':=
 B8o X hb hfb hc hl hme hnd (λx hx=>⟨(hs x hx).2,(hlk.a Z.me x).1 (by rw [ht];exact (hs x hx).1)⟩) rfl
theorem A6y{l:List Bk}{a:Int}(h:LV l a 0 0 l'):BD l<=BD l':=by
 rcases h with⟨_,e,_⟩|⟨x,_,_,_,_,_,_,h⟩
 .cases e
 .rw [h];exact Nat.le_add_right _ _
theorem B2g{ls:Nat->Nat}(h:∀n,n<m->ls n<=BD (S.L n))(g:BD (S.L i)<=BD l'):∀n,n<m->ls n<=BD (upd S.L i l' n):=λn hn=>by
 have:=h n hn;by_cases e:n=i
 .subst e;rw [AF];omega
 .rw [AI _ _ e];exact this
set_option maxHeartbeats 2000000 in
theorem B5u(hal:¬Z.al)(P:Pt Z t G F w)(h0:t.tk Z.me=Tk.no){l:List Nat}(he:t.hh Z.me=l++[f])(ht:isF th=true)
 (H:∀W t2 G2 fl,Pt Z t2 G2 F W->t2.tk Z.me=Tk.no->t2.hh Z.me=l->t2.r.gt Z.me=t.r.gt Z.me->AB (λx=>¬F x) w W->AN prog th [.bool fl] W (Nx Z N t2 G2 F W)) :
 Calls prog 110 #[AP Z.k,vi Z.me,vi f,th] w λe w'=>∃v,e=.returned v/\Nx Z N t G F w (.returned v) w':=by
 obtain⟨fp,X⟩:=P.X;have hto:=GF ht;have hs:=X.C.BQ;have hn:=X.C.n4;have hcp:=P.cp;have q:=P.inv.q;have hfm:f∈t.hh Z.me:=by rw [he];simp
 obtain⟨i,hi,h1,h2⟩:=q.node X.C (.inr (.inr (.inr (.inr ⟨_,hfm⟩))));refine Calls.ret (vc110 _ Z.me f th w _ ?_);unfold Q;rw [show Value.cells th=[th].toArray from DG hto];intro w1 e1 w2 e2 w3 e3 w4 e4;have B4:=((((Bx.nil w).al e1).al e2).al e3).al e4;refine⟨_,B4.rd (b:=w.heap.size) (v:=AP Z.k) (by simp),f,B4.rd (b:=w2.heap.size) (by simp),(IJ (X.C.k B4.k) hi h1 h2).AE ?_⟩;rintro _ w5 ⟨rfl,k5⟩;have B5:=B4.kk k5;refine⟨_,rfl,λw6 e6=>⟨Bx.wr0 e6,λw7 e7 w8 e8=>?_⟩⟩;have e9:wrap .i64 (9+((i:Nat):Int))=((9+i:Nat):Int):=by rw [wi (by omega)];omega
 rw [e9] at e7;have B8:=((B5.al2 e6 e7).2).dr e8;refine⟨_,B8.rd (b:=w.heap.size) (v:=AP Z.k) (by simp),AA rfl ⟨_,by have:=X.C.rtW B8.k (j:=3) rfl;exact this,Z.me,B8.rd (b:=w1.heap.size) (by simp),((9+i:Nat):Int),B8.rd (b:=w5.heap.size) (by simp),?_⟩⟩;refine(GA (N:=N) P B8.k (l:=9+i) (by omega) (by rw [h0];intro j hj;cases hj) rfl λW t1 G1 fl P1 m1 k1 _=>?_).AE λe w' ⟨v,hv,hN⟩=>⟨v,hv,v,rfl,hN.le λa=>absurd a hal⟩;have T1:=m1.tk1 h0;have he1:t1.hh Z.me=l++[f]:=m1.1.2.1.trans he;obtain⟨fp1,X1⟩:=P1.X;have q1:=P1.inv.q;have ec:t1.S.c=t.S.c:=by rw [P1.inv.c,P.inv.c]
 have hi1:i<t1.S.AK:=by unfold AR.AK;rw [ec];exact hi
 have hs1:=X1.C.BQ;have hn1:=X1.C.n4;rw [<- ec] at h1 h2;have hfm1:f∈t1.hh Z.me:=by rw [he1];simp
 have hd1:f<t1.S.n:=(q1.hdr _ _ hfm1).1;have hj:DB (t1.S.held Z.me) (f:Int) l.length:=by
  rw [q1.held]
  show DB ((t1.hh Z.me).map λf:Nat=>(f:Int)) _ _
  rw [he1];exact B2r (he1▸q1.hnd Z.me)
 have rr:=λ{b:Nat}{v:Value}{W':WD} (kk:AB (λx=>¬(F x\/rng w w8 x)) W W') (hm:(b,v)∈_)=>B8.rr (AB.oo k1 kk) hm;have k0:AB (λx=>¬(F x\/rng w w8 x)) W W:=AB.refl _ _;refine AN.mk 185 #[] _ rfl (by kernel_rfl) (Calls.ret (vc185 fl (some ⟨w.heap.size,0,none⟩) (some ⟨w1.heap.size,0,none⟩) (some ⟨w2.heap.size,0,none⟩) (some ⟨w5.heap.size,0,none⟩) (some ⟨w3.heap.size,0,none⟩) W _ ?_));unfold Q;refine AA rfl ⟨_,rr k0 (b:=w.heap.size) (v:=AP Z.k) (by simp),AA rfl ⟨Z.me,rr k0 (b:=w1.heap.size) (by simp),AA rfl ⟨f,rr k0 (b:=w2.heap.size) (by simp),(B3c X1.C P1.cp hj (q1.B8y X1.C.n4.2.2)).AE ?_⟩⟩⟩;rintro _ x1 ⟨rfl,T1'⟩;obtain⟨fq1,M1⟩:=X1.mv T1';have m1':=P1.kf M1.L.kp;refine⟨rfl,AA rfl ⟨_,rr m1' (b:=w.heap.size) (v:=AP Z.k) (by simp),AA rfl ⟨f,rr m1' (b:=w2.heap.size) (by simp),(NJ M1.X.C (fr:=f) (by omega)).AE ?_⟩⟩⟩;have hno:=q1.C7b X1.C (.inr (.inr (.inr (.inr ⟨_,hfm1⟩)))) hi1 h1 h2;rintro _ x2 (⟨i2',l',hi2,q3,q4,rfl,GG,T2⟩|⟨i2',hi2,q3,q4,rfl,hno',_⟩|⟨q3,_⟩)
 rotate_left
 .exfalso;have:i2'=i:=CR X1.C.my (f:=(f:Int)) hi2 hi1 q3 q4 h1 h2;subst this;exact hno' hno
 .exfalso;have q3:(f:Int)<0\/AU t1.S.c t1.S.AK<=f:=q3;have:=JN X1.C.my (i:=i+1) (j:=t1.S.AK) (by omega) (nlr _);omega
 have:i2'=i:=CR X1.C.my (f:=(f:Int)) hi2 hi1 q3 q4 h1 h2;subst this;obtain⟨fq2,M12⟩:=M1.X.mv T2;have M2:=M1.tr M12;have m2:=P1.kf M2.L.kp;refine⟨_,rfl,AA rfl ⟨_,rr m2 (b:=w.heap.size) (v:=AP Z.k) (by simp),AA rfl ⟨Z.me,rr m2 (b:=w1.heap.size) (by simp),AA rfl ⟨((9+i2':Nat):Int),rr m2 (b:=w5.heap.size) (by simp),λx3 d3=>?_⟩⟩⟩⟩;have o3:=AG d3;have M3:=M2.tr (M2.X.mv0 (kr.al d3));refine(ET (tk:=t1.tk) (n:=t1.S.AS) (T:={Tk.no with lks:=[9+i2']}) M3.X q1.lk (by omega) rfl (xs:=[9+i2']) T1 (λx hx=>⟨hx,by simp at hx;subst hx;show 9+i2'<9+t1.S.AK;omega⟩) (by simp) (by simp) o3 (λp hp=>by have:=(M2.X.C.lt p _ hp).2;omega) rfl).AE ?_;rintro _ x4 ⟨rfl,fq4,M34⟩;have M4:=M3.tr M34;have LG:=q1.given X1.C P1.cp he1 hi1 h1 h2 GG;have LF:=LG.B9w (i:=Z.me) (T:=Tk.no) P1.cp (OJ (xs:=[9+i2']) q1.lk λj=>by rw [T1]) (by rw [T1]) TkO.none;obtain⟨P4,o4⟩:=P1.mv (t':=⟨(t1.S.given Z.me i2' f l.length l').IB (unl t1.S.lh [9+i2'] 0),t1.pg,upd t1.hh Z.me l,upd t1.tk Z.me Tk.no,t1.r⟩) ⟨LF,P1.inv.c,P1.inv.pl,B2g P1.inv.ls (A6y GG),P1.inv.no,λa=>absurd a hal⟩ rfl M4 rfl ⟨λj hj=>⟨AI _ _ hj,AI _ _ hj,rfl⟩,nlr _⟩;have m4:=P1.kf M4.L.kp;have hwk:∀x,F x->(F x\/rng w w8 x):=λx h=>.inl h;refine⟨rfl,AA rfl ⟨th,rr m4 (b:=w3.heap.size) (by simp),th,_,_,_,rfl,hto,P4,o4,?_⟩⟩;refine RunT.le (N:=N+1) (λa=>absurd a hal) (RunT.step ht λW3 t3 G3 fl3 P3 m3 k3 _=>?_);have kk:AB (λx=>¬(F x\/rng w w8 x)) w8 W3:=AB.oo (AB.oo k1 m4) k3;exact AT (H W3 t3 G3 fl3 (P3.less hwk) (m3.1.1.trans (AF _ _ _)) (m3.1.2.1.trans (AF _ _ _)) (m3.1.2.2.1.trans m1.1.2.2.1) (B8.k.none.trans (kk.AE λx _ h e=>h (.inl e)) λ_ _ h=>h)) λe w' hN=>hN.wk hwk λ_=>nlr _
