/- Part of a proof that a law returns true. Conditions: those in each theorem. -/
import Derived.Test.YtdgbechegbmpcaaGreatDoorQ21
import Derived.Test.YtdgbechegbmpcaaGreatDoorBL3
import Derived.Test.YtdgbechegbmpcaaGreatDoorEngP
set_option linter.unusedSimpArgs false
set_option linter.unusedVariables false
set_option maxRecDepth 100000
namespace Go.Proofs.YtdgbechegbmpcaaGreatDoor
open Go Go.Eng Go.Proofs.Tryz
section
variable {w:WD}{k:Nat}{S:AL}{fp:Prt->Nat->Prop}{rt lf hc cnt tot:Nat}{pg:Nat->Pg}{pin:Nat->Bool}{A:List Nat}
theorem JV{f g:Nat}:EO rt lf pg (A++[f]) none g↔EO rt lf pg A none g\/g=f:=by
 unfold EO;simp only [List.mem_append,List.mem_singleton];constructor
 ·rintro (e|e|e|(e|e)|e)
  ·exact .inl (.inl e)
  ·exact .inl (.inr (.inl e))
  ·exact .inl (.inr (.inr (.inl e)))
  ·exact .inl (.inr (.inr (.inr (.inl e))))
  ·exact .inr e
  ·cases e
 ·rintro ((e|e|e|e|e)|e)
  ·exact .inl e
  ·exact .inr (.inl e)
  ·exact .inr (.inr (.inl e))
  ·exact .inr (.inr (.inr (.inl (.inl e))))
  ·cases e
  ·exact .inr (.inr (.inr (.inl (.inr e))))
theorem QSt.kept(L:QSt S rt lf pg pin A hc none cnt tot)(h:AJ w k S fp){i f:Nat}{high:Bool}{l':List Bk}(hi:i<S.nodes)(h1:AN S.c i<=f)(T:ES (S.L i) 0 high ((f:Int)-AN S.c i) 0 l') :
 QSt ((S.JH (upd S.L i l')).GQ (smS S.mks S.n f CC)) rt lf pg pin (A++[f]) hc none cnt tot:=by
 have hn:=h.n4;obtain⟨hnu,hfn,hm,hs⟩:=L.free h hi h1 T;have hf:=h.fst hi;obtain⟨hrt,hlf,hrl⟩:=L.rl;have hfr:f≠rt:=fun e=>hnu (.inl e);have hfl:f≠lf:=fun e=>hnu (.inr (.inl e));have hfp:∀j,pg j≠.fr f:=fun j e=>hnu (.inr (.inr (.inl ⟨j,e⟩)));have hfA:f∉A:=fun e=>hnu (.inr (.inr (.inr (.inl e))));have hgf:gfr S i ⟨((f:Int)-AN S.c i).toNat,0,1⟩=f:=by unfold gfr;show _+((f:Int)-AN S.c i).toNat=f;omega
 obtain⟨_,hse⟩:=J1 (mk:=S.mks) (n:=S.n) (x:=CC) hfn (by decide);rw [hse];exact {L with
  pgo:=fun j g e=>by
   obtain⟨a1,a2,a3,a4,a5,a6⟩:=L.pgo j g e;refine⟨a1,a2,a3,a4,fun e2=>?_,a6⟩;rw [List.mem_append,List.mem_singleton] at e2;exact e2.elim a5 fun e2=>hfp j (e2▸e)
  Ao:=fun g e=>by
   rw [List.mem_append,List.mem_singleton] at e;rcases e with e|rfl
   ·exact L.Ao g e
   ·exact⟨hfn,hfr,hfl,by simp⟩
  And:=by
   rw [List.nodup_append];refine⟨L.And,by simp,fun a ha b hb e=>?_⟩;simp at hb;subst hb;exact hfA (e▸ha)
  hdr:=fun g e=>by cases e
  mk1:=by
   show upd S.mks f _ rt=CC/\upd S.mks f _ lf=CC
   rw [AH _ _ (Ne.symm hfr),AH _ _ (Ne.symm hfl)];exact L.mk1
  mkA:=fun g hg=>by
   show upd S.mks f _ g=CC
   rw [List.mem_append,List.mem_singleton] at hg;rcases hg with hg|rfl
   ·rw [AH _ _ (show g≠f from fun e=>hfA (e▸hg))];exact L.mkA g hg
   ·exact upd_same _ _ _
  mk2:=fun t g e=>by
   show upd S.mks f _ g=_
   rw [AH _ _ (show g≠f from fun e2=>hfp t (e2▸e))];exact L.mk2 t g e
  mkh:=fun g e=>by cases e
  mk3:=fun g hg hnu'=>by
   show upd S.mks f _ g=CM
   rw [AH _ _ (show g≠f from fun e=>hnu' (JV.2 (.inr e)))];exact L.mk3 g hg fun hu=>hnu' (JV.2 (.inl hu))
  tk1:=fun t ht z hz hg=>by
   have hz:z∈upd S.L i l' t:=hz;by_cases e:t=i
   ·subst e;rw [upd_same] at hz;rcases (hm z hg).1 hz with hz|rfl
    ·have:=L.tk1 t ht z hz hg;exact⟨this.1,JV.2 (.inl this.2)⟩
    ·exact⟨rfl,JV.2 (.inr hgf)⟩
   ·rw [AH _ _ e] at hz;have:=L.tk1 t ht z hz hg;exact⟨this.1,JV.2 (.inl this.2)⟩
  tk2:=fun g hu=>by
   rcases JV.1 hu with hu|rfl
   ·obtain⟨t,z,ht,hz,hg,hez⟩:=L.tk2 g hu;refine⟨t,z,ht,?_,hg,hez⟩
    show z∈upd S.L i l' t
    by_cases e:t=i
    ·subst e;rw [upd_same];exact(hm z hg).2 (.inl hz)
    ·rw [AH _ _ e];exact hz
   ·refine⟨i,_,hi,?_,rfl,hgf⟩
    show _∈upd S.L i l' i
    rw [upd_same];exact(hm _ rfl).2 (.inr rfl)
  cf:=by
   have h3:=L.cf;have h4:=sumN_L (L:=S.L) (l':=l') hi
   show DT S.nodes (fun t=>AX (upd S.L i l' t))+cnt+2+(A++[f]).length+0=S.n
   rw [lap];simp at h3 ⊢;omega}
end
def wrB(by':Nat->Int)(f:Nat)(g:Nat->Int):Nat->Int:=fun o=>if f*256<=o/\o<f*256+256 then g (o-f*256) else by' o
theorem wrB_out {by':Nat->Int}{f g m:Nat}{v:Nat->Int} (hg:g≠f) (hm:m<256):wrB by' f v (g*256+m)=by' (g*256+m):=by
  unfold wrB;rw [if_neg (by have : g<f \/ f<g :=(by omega);omega)]
theorem wrB_in{by':Nat->Int}{f m:Nat}{v:Nat->Int}(hm:m<256):wrB by' f v (f*256+m)=v m:=by
 unfold wrB;rw [if_pos (by omega),Nat.add_sub_cancel_left]
theorem wdF_wrB{by':Nat->Int}{n f:Nat}{v:Nat->Int}{a b:Int}(h:a≠f):wdF (wrB by' f v) n a b=wdF by' n a b:=by
 unfold wdF;by_cases h1:wdE n a b=0
 ·rw [if_pos h1,if_pos h1];obtain⟨g1,g2,g3,g4⟩:=wdE_ok h1;refine IC fun j hj=>?_;unfold wrB wdO;rw [if_neg (by omega)]
 ·rw [if_neg h1,if_neg h1]
section
variable {w:WD}{k:Nat}{S:AL}{fp:Prt->Nat->Prop}{rt lf hc cnt tot:Nat}{pg:Nat->Pg}{pin:Nat->Bool}{A:List Nat}
set_option maxHeartbeats 2000000 in
theorem QSt.FU{f p:Nat}(L:QSt S rt lf pg pin A hc none cnt tot)(h:AJ w k S fp){i:Nat}{high:Bool}{l':List Bk}(hi:i<S.nodes)(h1:AN S.c i<=f)(h2:(f:Int)<AN S.c (i+1))(T:ES (S.L i) 0 high ((f:Int)-AN S.c i) 0 l')(hp:p<32)(hpg:pg p=.no) :
 QSt (((S.JH (upd S.L i l')).J9 (wrB S.by' f (DO p))).mapped i p f) rt lf (upd pg p (.fr f)) pin A hc none (cnt+1) (tot+1):=by
 have hn:=h.n4;obtain⟨hnu,hfn,hm,hs⟩:=L.free h hi h1 T;obtain⟨hrt,hlf,hrl⟩:=L.rl;have hfr:f≠rt:=fun e=>hnu (.inl e);have hfl:f≠lf:=fun e=>hnu (.inr (.inl e));have hnj:∀j,pg j≠.fr f:=fun j e=>hnu (.inr (.inr (.inl ⟨j,e⟩)));have hfA:f∉A:=fun e=>hnu (.inr (.inr (.inr (.inl e))));have hf:=h.fst hi;have hgf:gfr S i ⟨((f:Int)-AN S.c i).toNat,0,1⟩=f:=by unfold gfr;show _+((f:Int)-AN S.c i).toNat=f;omega
 have wb:∀{a b:Int},a≠f->wdF (wrB S.by' f (DO p)) S.n a b=wdF S.by' S.n a b:=wdF_wrB;have hbr:ByR (wrB S.by' f (DO p)):=fun o=>by
  unfold wrB;split
  ·unfold DO;omega
  ·exact L.by' o
 have hrof:(S.rof f).1=0:=by
  by_cases e:(S.rof f).1=0
  ·exact e
  ·obtain⟨j,hj⟩:=L.rof2 f hfn e;exact absurd hj (hnj j)
 have hwl:wdE S.n (lf:Int) (p:Int)=0:=DD;have hst:stS (wrB S.by' f (DO p)) S.n (S.root 1) p 1 f=wdS (wrB S.by' f (DO p)) S.n lf p (1+4*(f:Int)):=by
  rw [L.root];exact stS_of (by omega) hrt hlf (by rw [wb (by omega)];exact L.w0) hp (.inr ⟨.inl rfl,by omega,by omega⟩)
 have hx:0<=1+4*(f:Int)/\1+4*(f:Int)<=18446744073709551615:=by omega
 obtain⟨hsm,hse⟩:=J1 (mk:=S.mks) (n:=S.n) (x:=⟨4,0,1,(p:Int),0⟩) hfn (by unfold mayM;simp;omega);have hinj:∀{j j':Nat}{g:Nat},upd pg p (.fr f) j=.fr g->(j=p/\g=f)\/(j≠p/\pg j=.fr g):=fun {j _ g} e=>by
  by_cases e2:j=p
  ·subst e2;rw [upd_same] at e;exact .inl ⟨rfl,(Pg.fr.inj e).symm⟩
  ·rw [AH _ _ e2] at e;exact .inr ⟨e2,e⟩
 have hback:∀{j g:Nat},pg j=.fr g->upd pg p (.fr f) j=.fr g:=fun {j g} e=>by
  have:j≠p:=fun e2=>by rw [e2,hpg] at e;cases e
  rw [AH _ _ this];exact e
 have hu1:∀g,EO rt lf (upd pg p (.fr f)) A none g↔EO rt lf pg A none g\/g=f:=fun g=>by
  unfold EO;constructor
  ·rintro (e|e|⟨j,e⟩|e|e)
   ·exact .inl (.inl e)
   ·exact .inl (.inr (.inl e))
   ·rcases hinj (j':=0) e with⟨_,rfl⟩|⟨_,e⟩
    ·exact .inr rfl
    ·exact .inl (.inr (.inr (.inl ⟨j,e⟩)))
   ·exact .inl (.inr (.inr (.inr (.inl e))))
   ·cases e
  ·rintro ((e|e|⟨j,e⟩|e|e)|e)
   ·exact .inl e
   ·exact .inr (.inl e)
   ·exact .inr (.inr (.inl ⟨j,hback e⟩))
   ·exact .inr (.inr (.inr (.inl e)))
   ·cases e
   ·exact .inr (.inr (.inl ⟨p,by rw [upd_same,e]⟩))
 have hnr:(f:Int)∉S.ring i:=fun e=>by
  obtain⟨j,g,hj,hg,_⟩:=(L.ckm i hi _).1 e;have:f=g:=by omega
  subst this;exact hnj j hj
 have hcl:=L.ck i hi;have hcn:(S.cof i).lookup (f:Int)=none:=by
  cases e:(S.cof i).lookup (f:Int) with
  | none=>rfl
  | some v=>exact absurd ((hcl.r _).1 (by rw [e];rfl)) hnr
 have wdk:∀{a b:Int},wdE S.n a b=0->wdF (wdS (wrB S.by' f (DO p)) S.n lf p (1+4*(f:Int))) S.n a b=if a=lf/\b=p then 1+4*(f:Int) else wdF (wrB S.by' f (DO p)) S.n a b:=fun hab=>JT hx hwl hab
 exact {
  by':=by show ByR (stS (wrB S.by' f (DO p)) S.n (S.root 1) p 1 f);rw [hst];exact wdS_r hbr _ _ _ _
  rl:=L.rl
  sp:=L.sp
  root:=L.root
  w0:=by
   show wdF (stS (wrB S.by' f (DO p)) S.n (S.root 1) p 1 f) S.n rt 0=_
   rw [hst,wdk DD,if_neg (by omega),wb (by omega)];exact L.w0
  wz:=fun j hj1 hj2=>by
   show wdF (stS (wrB S.by' f (DO p)) S.n (S.root 1) p 1 f) S.n rt j=_
   rw [hst,wdk DD,if_neg (by omega),wb (by omega)];exact L.wz j hj1 hj2
  wl:=fun j hj=>by
   show wdF (stS (wrB S.by' f (DO p)) S.n (S.root 1) p 1 f) S.n lf j=_
   rw [hst,wdk DD];by_cases e:j=p
   ·subst e;rw [if_pos ⟨rfl,rfl⟩,upd_same];rfl
   ·rw [if_neg (by omega),AH _ _ e,wb (by omega)];exact L.wl j hj
  pgo:=fun j g e=>by
   rcases hinj (j':=0) e with⟨rfl,rfl⟩|⟨_,e⟩
   ·exact⟨hp,hfn,hfr,hfl,hfA,by simp⟩
   ·exact L.pgo j g e
  pgs:=fun j s e=>by
   by_cases e2:j=p
   ·subst e2;rw [upd_same] at e;cases e
   ·rw [AH _ _ e2] at e;exact L.pgs j s e
  Ao:=L.Ao
  And:=L.And
  inj:=fun j j' g e e'=>by
   rcases hinj (j':=0) e with⟨rfl,rfl⟩|⟨_,_⟩
   ·rcases hinj (j':=0) e' with⟨rfl,_⟩|⟨_,e'⟩
    ·rfl
    ·exact absurd e' (hnj j')
   ·rename_i e1;rcases hinj (j':=0) e' with⟨_,h8⟩|⟨_,e2⟩
    ·exact absurd (h8▸e1:pg j=.fr f) (hnj j)
    ·exact L.inj j j' g e1 e2
  hdr:=fun g e=>by cases e
  rof1:=fun j g e=>by
   show upd S.rof f (1,(p:Int)) g=_
   rcases hinj (j':=0) e with⟨rfl,rfl⟩|⟨_,e⟩
   ·rw [upd_same]
   ·rw [AH _ _ (show g≠f from fun e2=>hnj j (by rw [<- e2];exact e))];exact L.rof1 j g e
  rof2:=fun g hg e=>by
   have e:(upd S.rof f (1,(p:Int)) g).1≠0:=e;by_cases e2:g=f
   ·exact⟨p,by rw [upd_same,e2]⟩
   ·rw [AH _ _ e2] at e;obtain⟨j,hj⟩:=L.rof2 g hg e;exact⟨j,hback hj⟩
  rat1:=fun kk v e=>by
   have e:(S.rat++[((1,(p:Int)),vi f)]).lookup kk=some v:=e;rw [look_app] at e
   cases hl:S.rat.lookup kk with
   | some x=>
    rw [hl] at e
    cases e
    obtain⟨j,g,h3,h4,h5⟩:=L.rat1 _ _ hl;exact⟨j,g,h3,hback h4,h5⟩
   | none=>
    rw [hl] at e;simp only at e;split at e
    ·rename_i e2
     cases e
     exact⟨p,f,e2,upd_same _ _ _,rfl⟩
    ·cases e
  rat2:=fun j g e=>by
   show((S.rat++[((1,(p:Int)),vi f)]).lookup (1,(j:Int))).isSome=true
   rw [look_app]
   cases hl:S.rat.lookup (1,(j:Int)) with
   | some x=>rfl
   | none=>
    rcases hinj (j':=0) e with⟨rfl,rfl⟩|⟨_,e⟩
    ·simp
    ·have:=L.rat2 j g e;rw [hl] at this
     cases this
  ck:=fun t ht=>by
   show FL (upd S.ring i _ t) (upd S.cof i _ t)
   by_cases e:t=i
   ·subst e;rw [upd_same,upd_same];refine⟨fun kk v e=>?_,fun kk=>?_,?_⟩
    ·rw [look_appI] at e
     cases hl:(S.cof t).lookup kk with
     | some x=>rw [hl] at e;cases e;exact hcl.v _ _ hl
     | none=>
      rw [hl] at e;simp only at e;split at e
      ·cases e;exact⟨true,true,rfl⟩
      ·cases e
    ·rw [look_appI,List.mem_append,List.mem_singleton,<- hcl.r kk]
     cases hl:(S.cof t).lookup kk with
     | some x=>simp
     | none=>
      by_cases e:kk=(f:Int) <;> simp [e]
    ·rw [List.nodup_append];refine⟨hcl.nd,by simp,fun a ha b hb e=>?_⟩;simp at hb;subst hb;exact hnr (e▸ha)
   ·rw [AH _ _ e,AH _ _ e];exact L.ck t ht
  ckm:=fun t ht x=>by
   show x∈upd S.ring i _ t↔_
   by_cases e:t=i
   ·subst e;rw [upd_same,List.mem_append,List.mem_singleton,L.ckm t ht x];constructor
    ·rintro (⟨j,g,a1,a2,a3⟩|rfl)
     ·exact⟨j,g,hback a1,a2,a3⟩
     ·exact⟨p,f,upd_same _ _ _,rfl,h1,h2⟩
    ·rintro ⟨j,g,a1,a2,a3⟩;rcases hinj (j':=0) a1 with⟨_,rfl⟩|⟨_,a1⟩
     ·exact .inr a2
     ·exact .inl ⟨j,g,a1,a2,a3⟩
   ·rw [AH _ _ e,L.ckm t ht x];constructor
    ·rintro ⟨j,g,a1,a2,a3⟩;exact⟨j,g,hback a1,a2,a3⟩
    ·rintro ⟨j,g,a1,a2,a3,a4⟩;rcases hinj (j':=0) a1 with⟨_,rfl⟩|⟨_,a1⟩
     ·exact absurd (CH h.my (f:=(g:Int)) (by unfold AL.nodes at ht;exact ht) (by unfold AL.nodes at hi;exact hi) a3 a4 h1 h2) e
     ·exact⟨j,g,a1,a2,a3,a4⟩
  mk1:=by
   show smS S.mks S.n f _ rt=CC/\smS S.mks S.n f _ lf=CC
   rw [hse,AH _ _ (Ne.symm hfr),AH _ _ (Ne.symm hfl)];exact L.mk1
  mkA:=fun g hg=>by
   show smS S.mks S.n f _ g=CC
   rw [hse,AH _ _ (show g≠f from fun e=>hfA (e▸hg))];exact L.mkA g hg
  mkh:=fun g e=>by cases e
  mk2:=fun j g e=>by
   show smS S.mks S.n f _ g=_
   rw [hse];rcases hinj (j':=0) e with⟨rfl,rfl⟩|⟨_,e⟩
   ·rw [upd_same];rfl
   ·rw [AH _ _ (show g≠f from fun e2=>hnj j (by rw [<- e2];exact e))];exact L.mk2 j g e
  mk3:=fun g hg hn=>by
   show smS S.mks S.n f _ g=CM
   rw [hse,AH _ _ fun e2=>hn ((hu1 g).2 (.inr e2))];exact L.mk3 g hg fun hu=>hn ((hu1 g).2 (.inl hu))
  tk1:=fun t ht z hz hg=>by
   have hz:z∈upd S.L i l' t:=hz;by_cases e:t=i
   ·subst e;rw [upd_same] at hz;rcases (hm z hg).1 hz with hz|rfl
    ·have:=L.tk1 t ht z hz hg;exact⟨this.1,(hu1 _).2 (.inl this.2)⟩
    ·exact⟨rfl,(hu1 _).2 (.inr hgf)⟩
   ·rw [AH _ _ e] at hz;have:=L.tk1 t ht z hz hg;exact⟨this.1,(hu1 _).2 (.inl this.2)⟩
  tk2:=fun g hu=>by
   rcases (hu1 _).1 hu with hu|rfl
   ·obtain⟨t,z,ht,hz,hg,hez⟩:=L.tk2 g hu;refine⟨t,z,ht,?_,hg,hez⟩
    show z∈upd S.L i l' t
    by_cases e:t=i
    ·subst e;rw [upd_same];exact(hm z hg).2 (.inl hz)
    ·rw [AH _ _ e];exact hz
   ·refine⟨i,_,hi,?_,rfl,hgf⟩
    show _∈upd S.L i l' i
    rw [upd_same];exact(hm _ rfl).2 (.inr rfl)
  so:=fun s hs=>(L.so s hs).imp id fun⟨j,hj⟩=>⟨j,by rw [AH _ _ (show j≠p from fun e=>by rw [e,hpg] at hj;cases hj)];exact hj⟩
  byf:=fun j g e m hm'=>by
   show stS (wrB S.by' f (DO p)) S.n (S.root 1) p 1 f (g*256+m)=_
   rw [hst];rcases hinj (j':=0) e with⟨rfl,rfl⟩|⟨_,e⟩
   ·rw [QA (by omega) hfl hm',wrB_in hm']
   ·obtain⟨_,_,_,a4,_⟩:=L.pgo j g e;rw [QA (by omega) a4 hm',wrB_out (fun e2=>hnj j (by rw [<- e2];exact e)) hm'];exact L.byf j g e m hm'
  bys:=fun j s e m hm=>by
   by_cases e2:j=p
   ·subst e2;rw [upd_same] at e;cases e
   ·rw [AH _ _ e2] at e;exact L.bys j s e m hm
  pinE:=L.pinE
  pinF:=fun j e=>by
   obtain⟨g,hg⟩:=L.pinF j e;exact⟨g,hback hg⟩
  cp:=by
   have:=OL (q:=fun j=>(pg j).KH) (q':=fun j=>(upd pg p (.fr f) j).KH) (p:=p) (fun j e=>by show(upd pg p _ j).KH=_;rw [AH _ _ e]) hp;have hc:=L.cp;simp [hpg,Pg.KH] at this hc;rw [hc] at this;exact this
  cc:=by
   have e:(fun t=>(upd S.ring i (S.ring i++[(f:Int)]) t).length)=upd (fun t=>(S.ring t).length) i ((S.ring i).length+1):=by
    funext t;by_cases e:t=i
    ·subst e;rw [upd_same,upd_same,lap];rfl
    ·rw [AH _ _ e,AH _ _ e]
   have h4:=JD (n:=S.nodes) (f:=fun t=>(S.ring t).length) (v:=(S.ring i).length+1) hi;have h5:=L.cc
   show DT S.nodes (fun t=>(upd S.ring i (S.ring i++[(f:Int)]) t).length)=cnt+1
   rw [e];omega
  cu:=by
   have:=L.cu
   show(owns S.AP S.sof).length+(cnt+1)=tot+1
   omega
  cf:=by
   have h3:=L.cf;have h4:=sumN_L (L:=S.L) (l':=l') hi
   show DT S.nodes (fun t=>AX (upd S.L i l' t))+(cnt+1)+2+A.length+0=S.n
   simp at h3;omega
  held:=L.held
  fli:=L.fli
  lh:=L.lh}
end
section
variable {w:WD}{m bb mb n:Nat}{c:Nat->Int}{by':Nat->Int}{mk:Nat->Mark}
theorem runI_lay{kd:IntKind}{by' g:Nat->Int}{f N:Nat}(h:f*256+256<=N):(AK kd by' 0 N).take (f*256)++AK kd g 0 256++(AK kd by' 0 N).drop (f*256+(AK kd g 0 256).length)=AK kd (wrB by' f g) 0 N:=by
 rw [AI];refine E6 (by simp [AI];omega) fun j hj=>?_;unfold wrB;by_cases h1:j<f*256
 ·rw [if_neg (by omega),gal (by simp [AI];omega),gal (by simp [AI];omega),List.getElem?_take,if_pos h1,AT _ _ _ _ _ hj,za]
 ·by_cases h2:j<f*256+256
  ·rw [if_pos (by omega),gal (by simp [AI];omega),gar (by simp [AI];omega)];have:j-(List.take (f*256) (AK kd by' 0 N)).length=j-f*256:=by simp [AI];omega
   rw [this,AT _ _ _ _ _ (by omega),za]
  ·rw [if_neg (by omega),gar (by simp [AI];omega),List.getElem?_drop];have:f*256+256+(j-(List.take (f*256) (AK kd by' 0 N)++AK kd g 0 256).length)=j:=by simp [AI];omega
   rw [this,AT _ _ _ _ _ hj,za]
theorem oneU8{g:Nat->Int}:∀(n o:Nat),∀u∈AK .u8 g o n,u.oneCell'=true
 | 0,o,u,h=>by cases h
 | n+1,o,u,h=>by
  unfold AK at h;rcases List.mem_cons.1 h with rfl|h
  ·rfl
  ·exact oneU8 n (o+1) u h
theorem mwrite_spec(h:BM w m bb mb c n by' mk)(hn:n<=1024){f:Nat}(hf:f<n){Y:Nat}{g:Nat->Int}(hy:own w Y (AK .u8 g 0 256)) :
 Calls prog 38 #[ptr m,vi f,vi 0,.slice (some ⟨Y,0,none⟩) 256 256] w fun e w'=>e=.returned (vi 0)/\Kept (·=bb) w w'/\BM w' m bb mb c n (wrB by' f g) mk:=by
 refine Calls.ret (vc38 _ f 0 _ 256 256 w _ ?_);have h95:rd w m (0+95)=some (.slice (some ⟨mb,0,none⟩) n n):=by rw [za];exact h.r95
 have h94:rd w m (0+94)=some (.slice (some ⟨bb,0,none⟩) (n*256) (n*256)):=by rw [za];exact h.r94
 unfold Q;refine AF (fun _=>rfl) ⟨_,_,_,fun _=>h95,AG rfl (AF (fun _=>rfl) ⟨_,_,_,fun _=>h95,AG (by simp;omega) (AG (by decide) (AA rfl ⟨_,_,_,h94,?_⟩))⟩)⟩;rw [wi (x:=(f:Int)+1) (by omega),wi (x:=(f:Int)*256) (by omega),wi (x:=((f:Int)+1)*256) (by omega),wi (x:=(0:Int)+((256:Nat):Int)) (by decide)];rw [show Int.toNat ((f:Int)*256)=f*256 by omega,show Int.toNat (((f:Int)+1)*256)=f*256+256 by omega,show f*256+256-f*256=256 by omega];refine AA BI (AA BI (AA (by decide) ?_));have eo:BJ (BJ (some ⟨bb,0,none⟩) (f*256+256) (f*256) 1) 256 (Int.toNat 0) 1=some ⟨bb,f*256,none⟩:=by
  rw [offA2 (by omega) (by decide)];rfl
 rw [eo];have info:(prog.info? 5).map (·.size)=some 1:=by kernel_rfl
 obtain⟨w',hc,ho,hk⟩:=cpy_own (P:=prog) (dT:=81) (sT:=81) (ty:=3) (e:=5) (s:=1) underlying81 info h.bs (f*256) 256 256 (Y:=Y) (oy:=0) (sl:=256) (sc:=256) (q:=256) (cs:=AK .u8 g 0 256) (by decide) hy (fun j _=>by rw [za]) (by rw [AI]) (by rw [AI,AI];omega) (oneU8 _ _);rw [runI_lay (by omega)] at ho;exact⟨_,w',hc,rfl,hk,⟨h.so.kx hk h.ne.1,ho,h.ms.kx hk fun e=>h.ne.2.2 e.symm,h.ne⟩⟩
end
section
variable {w w':WD}{k:Nat}{S:AL}{fp:Prt->Nat->Prop}
theorem core_write(h:AJ w k S fp){f:Nat}(hf:f<S.n){Y:Nat}{g:Nat->Int}(hy:own w Y (AK .u8 g 0 256)) :
 Calls prog 38 #[ptr S.pm,vi f,vi 0,.slice (some ⟨Y,0,none⟩) 256 256] w fun e w'=>e=.returned (vi 0)/\Step w w' k (S.J9 (wrB S.by' f g)) fp:=by
 obtain⟨bb,mb,M,f1,f2,f3⟩:=h.mem;refine(mwrite_spec M h.n4.2.2 hf hy).mono ?_;rintro e w' ⟨he,kk,M'⟩;exact⟨he,h.FD .mem kk (fun x e=>e▸f2) rfl (fun p F w hp hq=>by cases p <;> first|exact hq|exact absurd rfl hp) ⟨bb,mb,M',.inl f1,.inl f2,.inl f3⟩⟩
theorem core_ztake(h:AJ w k S fp){base:Nat}{a:OA}{l c:Nat}{xs:List Nat}(R:BK w base a l c (xs.map fun x:Nat=>(x:Int)))(hx:∀x∈xs,x<S.nodes)(hl:xs.length<=8) :
 Calls prog 37 #[ptr S.pz,.slice a l c,vi 0,.bool true] w fun e w'=>((∀x∈xs,AX (S.L x)=0)/\(∃er:Int,er≠0/\e=.returned (.tuple #[vi 0,vi er]))/\w'=w)\/
  ∃(f i:Nat) (l':List Bk),e=.returned (.tuple #[vi f,vi 0])/\Step w w' k (S.JH (upd S.L i l')) fp/\i<S.nodes/\AN S.c i<=f/\(f:Int)<AN S.c (i+1)/\ES (S.L i) 0 true ((f:Int)-AN S.c i) 0 l':=by
 obtain⟨Z,hc,hk⟩:=h.zn;have hlen:l=xs.length:=by have:=R.1;simpa using this
 have hxx:∀i,i<l->∃x,xs[i]? = some x/\xs.getD i 0=x:=fun i hi=>⟨xs[i]'(by omega),geg (by omega),by rw [List.getD_eq_getElem?_getD,geg (by omega)];rfl⟩;have hrd:∀i,i<l->isP a=true/\rd w (pb a) (po a+i)=some (vi ((xs.getD i 0:Nat):Int)):=fun i hi=>by
  obtain⟨x,h1,h2⟩:=hxx i hi;rw [h2];have:=R.rd (i:=i) (x:=(x:Int)) (by rw [gmp,h1];rfl);rw [tnc,mo] at this;exact this
 refine(ztake_spec Z (nf:=fun i=>((xs.getD i 0:Nat):Int)) (by omega) (fun h0=>(hrd 0 h0).1) (fun i hi=>(hrd i hi).2) 0 true).mono ?_;have inn:∀i,i<l->xs.getD i 0∈xs/\xs.getD i 0<S.Z.k:=fun i hi=>by
  obtain⟨x,h1,h2⟩:=hxx i hi;have:=mog h1;rw [h2];exact⟨this,by have:=hx x this;omega⟩
 rintro e w' ⟨v,rfl,⟨h1,rfl,hw⟩|⟨_,_,h2,rfl,hw⟩|⟨_,_,j,i,hj,hij,hi,_,_,a',l',rfl,kk,Z',T⟩⟩
 ·rcases h1 with⟨i,hi,h1⟩|h1
  ·have:=(inn i hi).2;have h1:((xs.getD i 0:Nat):Int)<0\/(S.Z.k:Int)<=((xs.getD i 0:Nat):Int):=h1;omega
  ·omega
 ·refine .inl ⟨fun x hxm=>?_,⟨6,by decide,rfl⟩,hw⟩;obtain⟨i,hi,he⟩:=List.mem_iff_getElem.1 hxm;have h3:(zfr S.Z S.L ((xs.getD i 0:Nat):Int):Int)<=0:=h2 i (by omega);obtain⟨y,h4,h5⟩:=hxx i (by omega);rw [geg hi] at h4;have:y=x:=by rw [<- he];exact(Option.some.inj h4).symm
  subst this;rw [h5,zfr_in (by have:=hx y hxm;omega)] at h3;omega
 ·have hi':i<S.nodes:=by omega
  have hf:=h.fst hi';obtain⟨r,rfl,hr,_⟩:=GI (h.HF hi') T;refine .inr ⟨((AN S.c i+r).toNat),i,l',?_,LR h hi kk Z',hi',by omega,by omega,?_⟩
  ·rw [hc,Int.toNat_of_nonneg (by omega)]
  ·have:((AN S.c i+(r:Int)).toNat:Int)-AN S.c i=r:=by omega
   rw [this];exact T
end
noncomputable def opsB:Array Oper:=(regOps Tryz.f10 4).toArray
noncomputable def opB (i:Nat):Oper:=(opsB[i]?).getD ⟨none,.alloc 0,0,"",#[],none⟩
abbrev nl:Value:=.slice none 0 0
abbrev sq(b n:Nat):Value:=.slice (some ⟨b,0,none⟩) n n
def slB(i:Nat):Nat:=if i<24 then 34+i else 7
structure BP where
 kp:Nat
 cb:Nat
 n:Nat
 x0:Nat->Int
 pa:OA
 pl:Nat
 pc:Nat
 ia:OA
 il:Nat
 ic:Nat
 x96:Nat->Int
def BP.xc(B:BP):List Value:=AK .i64 B.x0 0 94++([Value.slice B.pa B.pl B.pc,Value.slice B.ia B.il B.ic]++AK .i64 B.x96 0 8)
def BP.wc(B:BP)(β:Nat->Nat):List Value:=[ptr B.kp,ptr (β 5)]++(AK .i64 B.x0 0 94++([Value.slice B.pa B.pl B.pc,Value.slice B.ia B.il B.ic]++(AK .i64 B.x96 0 8++[vi 0,vi 0,nl,sq (β 9) B.n,sq (β 13) B.n,sq (β 17) B.n,sq (β 21) B.n])))
def BP.val(B:BP)(β:Nat->Nat):Nat->Value
 | 0=>ptr B.kp
 | 1=>.agg B.xc.toArray
 | 2=>ptr B.cb|6=>ptr B.cb|10=>ptr B.cb|14=>ptr B.cb|18=>ptr B.cb
 | 3=>.pointer (some ⟨B.cb,1,none⟩)|7=>.pointer (some ⟨B.cb,1,none⟩)|11=>.pointer (some ⟨B.cb,1,none⟩)|15=>.pointer (some ⟨B.cb,1,none⟩)|19=>.pointer (some ⟨B.cb,1,none⟩)
 | 4=>vi (B.n:Nat)|8=>vi (B.n:Nat)|12=>vi (B.n:Nat)|16=>vi (B.n:Nat)|20=>vi (B.n:Nat)
 | 5=>ptr (β 5)
 | 9=>sq (β 9) B.n|13=>sq (β 13) B.n|17=>sq (β 17) B.n|21=>sq (β 21) B.n
 | 22=>.agg (B.wc β).toArray
 | 23=>ptr (β 23)
 | _=>ptr (β 23)
def BP.fact(B:BP)(β:Nat->Nat)(w:WD):NP
 | 5=>own w (β 5) [sq (β 25) B.n]/\own w (β 25) (CU B.n fun _=>[.nilFunc,vi 0])/\β 5≠β 25
 | 9=>own w (β 9) (List.replicate B.n nl)
 | 13=>own w (β 13) (List.replicate B.n (vi 0))|17=>own w (β 17) (List.replicate B.n (vi 0))|21=>own w (β 21) (List.replicate B.n (vi 0))
 | 23=>own w (β 23) (B.wc β)
 | _=>True
def IT:Nat->List Nat
 | 5=>[5,25]|9=>[9]|13=>[13]|17=>[17]|21=>[21]|23=>[23]|_=>[]
def NM:Nat->List Nat
 | 5=>[5,25]|9=>[9]|13=>[13]|17=>[17]|21=>[21]|22=>[5,9,13,17,21]|23=>[5,9,13,17,21,23]|24=>[23]|_=>[]
def ownB(s:Nat):Nat:=if s=25 then 5 else s
theorem bg_0:opsB[0]? = some (opB 0):=by kernel_rfl
theorem bd_0:(opB 0).guard=none:=by kernel_rfl
theorem bs_0:(opB 0).dst=some (slB 0):=by kernel_rfl
theorem ba_0:((opB 0).after.all fun e=>decide (e.on<0))=true:=by kernel_rfl
theorem bg_1:opsB[1]? = some (opB 1):=by kernel_rfl
theorem bd_1:(opB 1).guard=none:=by kernel_rfl
theorem bs_1:(opB 1).dst=some (slB 1):=by kernel_rfl
theorem ba_1:((opB 1).after.all fun e=>decide (e.on<1))=true:=by kernel_rfl
theorem bg_2:opsB[2]? = some (opB 2):=by kernel_rfl
theorem bd_2:(opB 2).guard=none:=by kernel_rfl
theorem bs_2:(opB 2).dst=some (slB 2):=by kernel_rfl
theorem ba_2:((opB 2).after.all fun e=>decide (e.on<2))=true:=by kernel_rfl
theorem bg_3:opsB[3]? = some (opB 3):=by kernel_rfl
theorem bd_3:(opB 3).guard=none:=by kernel_rfl
theorem bs_3:(opB 3).dst=some (slB 3):=by kernel_rfl
theorem ba_3:((opB 3).after.all fun e=>decide (e.on<3))=true:=by kernel_rfl
theorem bg_4:opsB[4]? = some (opB 4):=by kernel_rfl
theorem bd_4:(opB 4).guard=none:=by kernel_rfl
theorem bs_4:(opB 4).dst=some (slB 4):=by kernel_rfl
theorem ba_4:((opB 4).after.all fun e=>decide (e.on<4))=true:=by kernel_rfl
theorem bg_5:opsB[5]? = some (opB 5):=by kernel_rfl
theorem bd_5:(opB 5).guard=none:=by kernel_rfl
theorem bs_5:(opB 5).dst=some (slB 5):=by kernel_rfl
theorem ba_5:((opB 5).after.all fun e=>decide (e.on<5))=true:=by kernel_rfl
theorem bg_6:opsB[6]? = some (opB 6):=by kernel_rfl
theorem bd_6:(opB 6).guard=none:=by kernel_rfl
theorem bs_6:(opB 6).dst=some (slB 6):=by kernel_rfl
theorem ba_6:((opB 6).after.all fun e=>decide (e.on<6))=true:=by kernel_rfl
theorem bg_7:opsB[7]? = some (opB 7):=by kernel_rfl
theorem bd_7:(opB 7).guard=none:=by kernel_rfl
theorem bs_7:(opB 7).dst=some (slB 7):=by kernel_rfl
theorem ba_7:((opB 7).after.all fun e=>decide (e.on<7))=true:=by kernel_rfl
theorem bg_8:opsB[8]? = some (opB 8):=by kernel_rfl
theorem bd_8:(opB 8).guard=none:=by kernel_rfl
theorem bs_8:(opB 8).dst=some (slB 8):=by kernel_rfl
theorem ba_8:((opB 8).after.all fun e=>decide (e.on<8))=true:=by kernel_rfl
theorem bg_9:opsB[9]? = some (opB 9):=by kernel_rfl
theorem bd_9:(opB 9).guard=none:=by kernel_rfl
theorem bs_9:(opB 9).dst=some (slB 9):=by kernel_rfl
theorem ba_9:((opB 9).after.all fun e=>decide (e.on<9))=true:=by kernel_rfl
theorem bg_10:opsB[10]? = some (opB 10):=by kernel_rfl
theorem bd_10:(opB 10).guard=none:=by kernel_rfl
theorem bs_10:(opB 10).dst=some (slB 10):=by kernel_rfl
theorem ba_10:((opB 10).after.all fun e=>decide (e.on<10))=true:=by kernel_rfl
theorem bg_11:opsB[11]? = some (opB 11):=by kernel_rfl
theorem bd_11:(opB 11).guard=none:=by kernel_rfl
theorem bs_11:(opB 11).dst=some (slB 11):=by kernel_rfl
theorem ba_11:((opB 11).after.all fun e=>decide (e.on<11))=true:=by kernel_rfl
theorem bg_12:opsB[12]? = some (opB 12):=by kernel_rfl
theorem bd_12:(opB 12).guard=none:=by kernel_rfl
theorem bs_12:(opB 12).dst=some (slB 12):=by kernel_rfl
theorem ba_12:((opB 12).after.all fun e=>decide (e.on<12))=true:=by kernel_rfl
theorem bg_13:opsB[13]? = some (opB 13):=by kernel_rfl
theorem bd_13:(opB 13).guard=none:=by kernel_rfl
theorem bs_13:(opB 13).dst=some (slB 13):=by kernel_rfl
theorem ba_13:((opB 13).after.all fun e=>decide (e.on<13))=true:=by kernel_rfl
theorem bg_14:opsB[14]? = some (opB 14):=by kernel_rfl
theorem bd_14:(opB 14).guard=none:=by kernel_rfl
theorem bs_14:(opB 14).dst=some (slB 14):=by kernel_rfl
theorem ba_14:((opB 14).after.all fun e=>decide (e.on<14))=true:=by kernel_rfl
theorem bg_15:opsB[15]? = some (opB 15):=by kernel_rfl
theorem bd_15:(opB 15).guard=none:=by kernel_rfl
theorem bs_15:(opB 15).dst=some (slB 15):=by kernel_rfl
theorem ba_15:((opB 15).after.all fun e=>decide (e.on<15))=true:=by kernel_rfl
theorem bg_16:opsB[16]? = some (opB 16):=by kernel_rfl
theorem bd_16:(opB 16).guard=none:=by kernel_rfl
theorem bs_16:(opB 16).dst=some (slB 16):=by kernel_rfl
theorem ba_16:((opB 16).after.all fun e=>decide (e.on<16))=true:=by kernel_rfl
theorem bg_17:opsB[17]? = some (opB 17):=by kernel_rfl
theorem bd_17:(opB 17).guard=none:=by kernel_rfl
theorem bs_17:(opB 17).dst=some (slB 17):=by kernel_rfl
theorem ba_17:((opB 17).after.all fun e=>decide (e.on<17))=true:=by kernel_rfl
theorem bg_18:opsB[18]? = some (opB 18):=by kernel_rfl
theorem bd_18:(opB 18).guard=none:=by kernel_rfl
theorem bs_18:(opB 18).dst=some (slB 18):=by kernel_rfl
theorem ba_18:((opB 18).after.all fun e=>decide (e.on<18))=true:=by kernel_rfl
theorem bg_19:opsB[19]? = some (opB 19):=by kernel_rfl
theorem bd_19:(opB 19).guard=none:=by kernel_rfl
theorem bs_19:(opB 19).dst=some (slB 19):=by kernel_rfl
theorem ba_19:((opB 19).after.all fun e=>decide (e.on<19))=true:=by kernel_rfl
theorem bg_20:opsB[20]? = some (opB 20):=by kernel_rfl
theorem bd_20:(opB 20).guard=none:=by kernel_rfl
theorem bs_20:(opB 20).dst=some (slB 20):=by kernel_rfl
theorem ba_20:((opB 20).after.all fun e=>decide (e.on<20))=true:=by kernel_rfl
theorem bg_21:opsB[21]? = some (opB 21):=by kernel_rfl
theorem bd_21:(opB 21).guard=none:=by kernel_rfl
theorem bs_21:(opB 21).dst=some (slB 21):=by kernel_rfl
theorem ba_21:((opB 21).after.all fun e=>decide (e.on<21))=true:=by kernel_rfl
theorem bg_22:opsB[22]? = some (opB 22):=by kernel_rfl
theorem bd_22:(opB 22).guard=none:=by kernel_rfl
theorem bs_22:(opB 22).dst=some (slB 22):=by kernel_rfl
theorem ba_22:((opB 22).after.all fun e=>decide (e.on<22))=true:=by kernel_rfl
theorem bg_23:opsB[23]? = some (opB 23):=by kernel_rfl
theorem bd_23:(opB 23).guard=none:=by kernel_rfl
theorem bs_23:(opB 23).dst=some (slB 23):=by kernel_rfl
theorem ba_23:((opB 23).after.all fun e=>decide (e.on<23))=true:=by kernel_rfl
theorem bg_24:opsB[24]? = some (opB 24):=by kernel_rfl
theorem bd_24:(opB 24).guard=none:=by kernel_rfl
theorem bs_24:(opB 24).dst=some (slB 24):=by kernel_rfl
theorem ba_24:((opB 24).after.all fun e=>decide (e.on<24))=true:=by kernel_rfl
theorem opB_get:∀i,i<25->opsB[i]? = some (opB i)
 | 0,_=>bg_0
 | 1,_=>bg_1
 | 2,_=>bg_2
 | 3,_=>bg_3
 | 4,_=>bg_4
 | 5,_=>bg_5
 | 6,_=>bg_6
 | 7,_=>bg_7
 | 8,_=>bg_8
 | 9,_=>bg_9
 | 10,_=>bg_10
 | 11,_=>bg_11
 | 12,_=>bg_12
 | 13,_=>bg_13
 | 14,_=>bg_14
 | 15,_=>bg_15
 | 16,_=>bg_16
 | 17,_=>bg_17
 | 18,_=>bg_18
 | 19,_=>bg_19
 | 20,_=>bg_20
 | 21,_=>bg_21
 | 22,_=>bg_22
 | 23,_=>bg_23
 | 24,_=>bg_24
 | n+25,h=>absurd h (by omega)
theorem opB_dst:∀i,i<25->(opB i).dst=some (slB i)
 | 0,_=>bs_0
 | 1,_=>bs_1
 | 2,_=>bs_2
 | 3,_=>bs_3
 | 4,_=>bs_4
 | 5,_=>bs_5
 | 6,_=>bs_6
 | 7,_=>bs_7
 | 8,_=>bs_8
 | 9,_=>bs_9
 | 10,_=>bs_10
 | 11,_=>bs_11
 | 12,_=>bs_12
 | 13,_=>bs_13
 | 14,_=>bs_14
 | 15,_=>bs_15
 | 16,_=>bs_16
 | 17,_=>bs_17
 | 18,_=>bs_18
 | 19,_=>bs_19
 | 20,_=>bs_20
 | 21,_=>bs_21
 | 22,_=>bs_22
 | 23,_=>bs_23
 | 24,_=>bs_24
 | n+25,h=>absurd h (by omega)
theorem opB_after:∀i,i<25->((opB i).after.all fun e=>decide (e.on<i))=true
 | 0,_=>ba_0
 | 1,_=>ba_1
 | 2,_=>ba_2
 | 3,_=>ba_3
 | 4,_=>ba_4
 | 5,_=>ba_5
 | 6,_=>ba_6
 | 7,_=>ba_7
 | 8,_=>ba_8
 | 9,_=>ba_9
 | 10,_=>ba_10
 | 11,_=>ba_11
 | 12,_=>ba_12
 | 13,_=>ba_13
 | 14,_=>ba_14
 | 15,_=>ba_15
 | 16,_=>ba_16
 | 17,_=>ba_17
 | 18,_=>ba_18
 | 19,_=>ba_19
 | 20,_=>ba_20
 | 21,_=>ba_21
 | 22,_=>ba_22
 | 23,_=>ba_23
 | 24,_=>ba_24
 | n+25,h=>absurd h (by omega)
theorem opsB_size:opsB.size=25:=by kernel_rfl
theorem hb_22_5:CF opsB 22 5=true:=by kernel_rfl
theorem hb_22_9:CF opsB 22 9=true:=by kernel_rfl
theorem hb_22_13:CF opsB 22 13=true:=by kernel_rfl
theorem hb_22_17:CF opsB 22 17=true:=by kernel_rfl
theorem hb_22_21:CF opsB 22 21=true:=by kernel_rfl
theorem hb_22_0:CF opsB 22 0=true:=by kernel_rfl
theorem hb_22_1:CF opsB 22 1=true:=by kernel_rfl
theorem hb_23_22:CF opsB 23 22=true:=by kernel_rfl
theorem hb_24_23:CF opsB 24 23=true:=by kernel_rfl
theorem hb_3_2:CF opsB 3 2=true:=by kernel_rfl
theorem hb_4_3:CF opsB 4 3=true:=by kernel_rfl
theorem hb_5_4:CF opsB 5 4=true:=by kernel_rfl
theorem hb_7_6:CF opsB 7 6=true:=by kernel_rfl
theorem hb_8_7:CF opsB 8 7=true:=by kernel_rfl
theorem hb_9_8:CF opsB 9 8=true:=by kernel_rfl
theorem hb_11_10:CF opsB 11 10=true:=by kernel_rfl
theorem hb_12_11:CF opsB 12 11=true:=by kernel_rfl
theorem hb_13_12:CF opsB 13 12=true:=by kernel_rfl
theorem hb_15_14:CF opsB 15 14=true:=by kernel_rfl
theorem hb_16_15:CF opsB 16 15=true:=by kernel_rfl
theorem hb_17_16:CF opsB 17 16=true:=by kernel_rfl
theorem hb_19_18:CF opsB 19 18=true:=by kernel_rfl
theorem hb_20_19:CF opsB 20 19=true:=by kernel_rfl
theorem hb_21_20:CF opsB 21 20=true:=by kernel_rfl
theorem den_0(p:Nat)(w:WD)(N:Value->Prop):(Eng.qOp prog (fun _=>none) (rdO [] (CV 261 [(5,ptr p)])) (opB 0)).den w (fun v _=>N v) (fun _=>True)=N (ptr p):=by kernel_rfl
theorem den_1(cb:Nat)(w:WD)(N:Value->Prop):(Eng.qOp prog (fun _=>none) (rdO [] (CV 261 [(1,ptr cb)])) (opB 1)).den w (fun v _=>N v) (fun _=>True)=(∃(f:Nat->Int) (a:OA) (l c:Nat) (a2:OA) (l2 c2:Nat) (g:Nat->Int),AS w cb 0 (AK .i64 f 0 94++([Value.slice a l c,Value.slice a2 l2 c2]++AK .i64 g 0 8))/\N (.agg (AK .i64 f 0 94++([Value.slice a l c,Value.slice a2 l2 c2]++AK .i64 g 0 8)).toArray)):=by kernel_rfl
theorem den_2(cb:Nat)(w:WD)(N:Value->Prop):(Eng.qOp prog (fun _=>none) (rdO [] (CV 261 [(1,ptr cb)])) (opB 2)).den w (fun v _=>N v) (fun _=>True)=N (ptr cb):=by kernel_rfl
theorem den_6(cb:Nat)(w:WD)(N:Value->Prop):(Eng.qOp prog (fun _=>none) (rdO [] (CV 261 [(1,ptr cb)])) (opB 6)).den w (fun v _=>N v) (fun _=>True)=N (ptr cb):=by kernel_rfl
theorem den_10(cb:Nat)(w:WD)(N:Value->Prop):(Eng.qOp prog (fun _=>none) (rdO [] (CV 261 [(1,ptr cb)])) (opB 10)).den w (fun v _=>N v) (fun _=>True)=N (ptr cb):=by kernel_rfl
theorem den_14(cb:Nat)(w:WD)(N:Value->Prop):(Eng.qOp prog (fun _=>none) (rdO [] (CV 261 [(1,ptr cb)])) (opB 14)).den w (fun v _=>N v) (fun _=>True)=N (ptr cb):=by kernel_rfl
theorem den_18(cb:Nat)(w:WD)(N:Value->Prop):(Eng.qOp prog (fun _=>none) (rdO [] (CV 261 [(1,ptr cb)])) (opB 18)).den w (fun v _=>N v) (fun _=>True)=N (ptr cb):=by kernel_rfl
theorem den_3(cb:Nat)(w:WD)(N:Value->Prop):(Eng.qOp prog (fun _=>none) (rdO [] (CV 261 [(36,ptr cb)])) (opB 3)).den w (fun v _=>N v) (fun _=>True)=N (.pointer (some ⟨cb,1,none⟩)):=by kernel_rfl
theorem den_7(cb:Nat)(w:WD)(N:Value->Prop):(Eng.qOp prog (fun _=>none) (rdO [] (CV 261 [(40,ptr cb)])) (opB 7)).den w (fun v _=>N v) (fun _=>True)=N (.pointer (some ⟨cb,1,none⟩)):=by kernel_rfl
theorem den_11(cb:Nat)(w:WD)(N:Value->Prop):(Eng.qOp prog (fun _=>none) (rdO [] (CV 261 [(44,ptr cb)])) (opB 11)).den w (fun v _=>N v) (fun _=>True)=N (.pointer (some ⟨cb,1,none⟩)):=by kernel_rfl
theorem den_15(cb:Nat)(w:WD)(N:Value->Prop):(Eng.qOp prog (fun _=>none) (rdO [] (CV 261 [(48,ptr cb)])) (opB 15)).den w (fun v _=>N v) (fun _=>True)=N (.pointer (some ⟨cb,1,none⟩)):=by kernel_rfl
theorem den_19(cb:Nat)(w:WD)(N:Value->Prop):(Eng.qOp prog (fun _=>none) (rdO [] (CV 261 [(52,ptr cb)])) (opB 19)).den w (fun v _=>N v) (fun _=>True)=N (.pointer (some ⟨cb,1,none⟩)):=by kernel_rfl
theorem den_4(cb:Nat)(w:WD)(N:Value->Prop):(Eng.qOp prog (fun _=>none) (rdO [] (CV 261 [(37,.pointer (some ⟨cb,1,none⟩))])) (opB 4)).den w (fun v _=>N v) (fun _=>True)=(∃x:Int,rd w cb 1=some (vi x)/\N (vi x)):=by kernel_rfl
theorem den_8(cb:Nat)(w:WD)(N:Value->Prop):(Eng.qOp prog (fun _=>none) (rdO [] (CV 261 [(41,.pointer (some ⟨cb,1,none⟩))])) (opB 8)).den w (fun v _=>N v) (fun _=>True)=(∃x:Int,rd w cb 1=some (vi x)/\N (vi x)):=by kernel_rfl
theorem den_12(cb:Nat)(w:WD)(N:Value->Prop):(Eng.qOp prog (fun _=>none) (rdO [] (CV 261 [(45,.pointer (some ⟨cb,1,none⟩))])) (opB 12)).den w (fun v _=>N v) (fun _=>True)=(∃x:Int,rd w cb 1=some (vi x)/\N (vi x)):=by kernel_rfl
theorem den_16(cb:Nat)(w:WD)(N:Value->Prop):(Eng.qOp prog (fun _=>none) (rdO [] (CV 261 [(49,.pointer (some ⟨cb,1,none⟩))])) (opB 16)).den w (fun v _=>N v) (fun _=>True)=(∃x:Int,rd w cb 1=some (vi x)/\N (vi x)):=by kernel_rfl
theorem den_20(cb:Nat)(w:WD)(N:Value->Prop):(Eng.qOp prog (fun _=>none) (rdO [] (CV 261 [(53,.pointer (some ⟨cb,1,none⟩))])) (opB 20)).den w (fun v _=>N v) (fun _=>True)=(∃x:Int,rd w cb 1=some (vi x)/\N (vi x)):=by kernel_rfl
theorem den_24(b:Nat)(w:WD)(N:Value->Prop):(Eng.qOp prog (fun _=>none) (rdO [] (CV 261 [(57,ptr b)])) (opB 24)).den w (fun v _=>N v) (fun _=>True)=N (ptr b):=by kernel_rfl
def env22(B:BP)(β:Nat->Nat):Env:=CV 261 [(34,ptr B.kp),(35,.agg B.xc.toArray),(39,ptr (β 5)),(43,sq (β 9) B.n),(47,sq (β 13) B.n),(51,sq (β 17) B.n),(55,sq (β 21) B.n)]
theorem den_22(B:BP)(β:Nat->Nat)(w:WD)(N:Value->Prop):(Eng.qOp prog (fun _=>none) (rdO [] (env22 B β)) (opB 22)).den w (fun v _=>N v) (fun _=>True)=N (.agg (B.wc β).toArray):=by kernel_rfl
theorem eop_9(n:Nat)(w:WD)(K:Value->WD->Prop):eOp prog (H0 prog) (rdO [] (CV 261 [(42,vi (n:Nat))])) (opB 9) w K=Wif (I6 24 (n:Nat) (n:Nat)) (∀w',w'=w.alloc (.cells (DK #[nl] 1 (Int.toNat (n:Nat))) 27)->K (.slice (some ⟨w.heap.size,0,none⟩) (Int.toNat (n:Nat)) (Int.toNat (n:Nat))) w') False:=by kernel_rfl
theorem eop_13(n:Nat)(w:WD)(K:Value->WD->Prop):eOp prog (H0 prog) (rdO [] (CV 261 [(46,vi (n:Nat))])) (opB 13) w K=Wif (I6 8 (n:Nat) (n:Nat)) (∀w',w'=w.alloc (.cells (DK #[vi 0] 1 (Int.toNat (n:Nat))) 3)->K (.slice (some ⟨w.heap.size,0,none⟩) (Int.toNat (n:Nat)) (Int.toNat (n:Nat))) w') False:=by kernel_rfl
theorem eop_17(n:Nat)(w:WD)(K:Value->WD->Prop):eOp prog (H0 prog) (rdO [] (CV 261 [(50,vi (n:Nat))])) (opB 17) w K=Wif (I6 8 (n:Nat) (n:Nat)) (∀w',w'=w.alloc (.cells (DK #[vi 0] 1 (Int.toNat (n:Nat))) 3)->K (.slice (some ⟨w.heap.size,0,none⟩) (Int.toNat (n:Nat)) (Int.toNat (n:Nat))) w') False:=by kernel_rfl
theorem eop_21(n:Nat)(w:WD)(K:Value->WD->Prop):eOp prog (H0 prog) (rdO [] (CV 261 [(54,vi (n:Nat))])) (opB 21) w K=Wif (I6 8 (n:Nat) (n:Nat)) (∀w',w'=w.alloc (.cells (DK #[vi 0] 1 (Int.toNat (n:Nat))) 3)->K (.slice (some ⟨w.heap.size,0,none⟩) (Int.toNat (n:Nat)) (Int.toNat (n:Nat))) w') False:=by kernel_rfl
theorem eop_23(cs:List Value)(w:WD)(K:Value->WD->Prop):eOp prog (H0 prog) (rdO [] (CV 261 [(56,.agg cs.toArray)])) (opB 23) w K=(∀w',w'=w.alloc (.cells cs.toArray 57)->K (ptr w.heap.size) w'):=by kernel_rfl
theorem eop_5(n:Nat)(w:WD)(K:Value->WD->Prop):eOp prog (H0 prog) (rdO [] (CV 261 [(38,vi (n:Nat))])) (opB 5) w K=Calls prog 32 #[vi (n:Nat)] w (fun e w'=>∃p:OA,e=.returned (.pointer p)/\K (.pointer p) w'):=by kernel_rfl
theorem tnew_spec{n:Nat}(hn:1<=n/\n<=16)(w:WD):Calls prog 32 #[vi (n:Nat)] w fun e w'=>∃t sb,e=.returned (ptr t)/\Kept AB w w'/\own w' t [sq sb n]/\own w' sb (CU n fun _=>[.nilFunc,vi 0])/\w.heap.size<=t/\w.heap.size<=sb/\t≠sb:=by
 refine Calls.ret (vc32 n w _ ?_);apply qI;have e0:(if (0:Int)>(n:Int) then(0:Int) else(n:Int))=n:=if_neg (by omega);rw [e0,if_neg (by omega),tnc];refine AA FH fun w1 e1 w2 e2=>?_;have o1:own w1 w.heap.size (DK #[Value.nilFunc,Value.int .i64 0] 2 n).toList:=AD e1;have ez:(DK #[Value.nilFunc,Value.int .i64 0] 2 n).toList=CU n fun _=>[.nilFunc,vi 0]:=by
  rw [MU (by decide),G1 (s:=2) rfl (by decide)]
 rw [ez] at o1;have o2:=AD e2;have k1:=kal e1;have k2:=kal e2;have:=o1.lt;exact⟨_,_,rfl,k1.tr k2,o2,o1.k k2,k1.sz,nlr _,by omega⟩
def keepB:List Nat:=[34,35,36,37,38,39,40,41,42,43,44,45,46,47,48,49,50,51,52,53,54,55,56,57,7]
structure MA(B:BP)(w0:WD)(a0:Act)(β:Nat->Nat)(listed:Array Bool)(a:Act)(w:WD):Prop where
 size:a.tmps.size=261
 defs:a.defers=a0.defers
 keep:∀t,t∉keepB->a.tmps[t]? = a0.tmps[t]?
 ls:listed.size=25
 kp:Kept AB w0 w
 cl:G0 opsB listed
 vals:∀i,i<25->listed.getD i false=true->a.tmps[slB i]? = some (B.val β i)
 fact:∀i,i<25->listed.getD i false=true->B.fact β w i/\∀s∈IT i,w0.heap.size<=β s/\β s<w.heap.size
 inj:∀i j,i<25->j<25->listed.getD i false=true->listed.getD j false=true->i≠j->∀s∈IT i,∀t∈IT j,β s≠β t
theorem slB_inj{i j:Nat}(hi:i<25)(hj:j<25)(h:slB i=slB j):i=j:=by unfold slB at h;split at h <;> split at h <;> omega
theorem slB_lt{i:Nat}(hi:i<25):slB i<261:=by unfold slB;split <;> omega
theorem slB_keep{i:Nat}(hi:i<25):slB i∈keepB:=by
 match i,hi with
 | 0,_=>exact(by decide)
 | 1,_=>exact(by decide)
 | 2,_=>exact(by decide)
 | 3,_=>exact(by decide)
 | 4,_=>exact(by decide)
 | 5,_=>exact(by decide)
 | 6,_=>exact(by decide)
 | 7,_=>exact(by decide)
 | 8,_=>exact(by decide)
 | 9,_=>exact(by decide)
 | 10,_=>exact(by decide)
 | 11,_=>exact(by decide)
 | 12,_=>exact(by decide)
 | 13,_=>exact(by decide)
 | 14,_=>exact(by decide)
 | 15,_=>exact(by decide)
 | 16,_=>exact(by decide)
 | 17,_=>exact(by decide)
 | 18,_=>exact(by decide)
 | 19,_=>exact(by decide)
 | 20,_=>exact(by decide)
 | 21,_=>exact(by decide)
 | 22,_=>exact(by decide)
 | 23,_=>exact(by decide)
 | 24,_=>exact(by decide)
 | n+25,h=>exact absurd h (by omega)
theorem val_congr{B:BP}{β β':Nat->Nat}{w:WD}{i:Nat}(hi:i<25)(h:∀k∈NM i,β' k=β k):B.val β' i=B.val β i/\(B.fact β' w i↔B.fact β w i):=by
 match i,hi with
 | 0,_=>exact⟨rfl,Iff.rfl⟩
 | 1,_=>exact⟨rfl,Iff.rfl⟩
 | 2,_=>exact⟨rfl,Iff.rfl⟩
 | 3,_=>exact⟨rfl,Iff.rfl⟩
 | 4,_=>exact⟨rfl,Iff.rfl⟩
 | 5,_=>simp [NM] at h;simp [BP.val,BP.fact,BP.wc,h]
 | 6,_=>exact⟨rfl,Iff.rfl⟩
 | 7,_=>exact⟨rfl,Iff.rfl⟩
 | 8,_=>exact⟨rfl,Iff.rfl⟩
 | 9,_=>simp [NM] at h;simp [BP.val,BP.fact,BP.wc,h]
 | 10,_=>exact⟨rfl,Iff.rfl⟩
 | 11,_=>exact⟨rfl,Iff.rfl⟩
 | 12,_=>exact⟨rfl,Iff.rfl⟩
 | 13,_=>simp [NM] at h;simp [BP.val,BP.fact,BP.wc,h]
 | 14,_=>exact⟨rfl,Iff.rfl⟩
 | 15,_=>exact⟨rfl,Iff.rfl⟩
 | 16,_=>exact⟨rfl,Iff.rfl⟩
 | 17,_=>simp [NM] at h;simp [BP.val,BP.fact,BP.wc,h]
 | 18,_=>exact⟨rfl,Iff.rfl⟩
 | 19,_=>exact⟨rfl,Iff.rfl⟩
 | 20,_=>exact⟨rfl,Iff.rfl⟩
 | 21,_=>simp [NM] at h;simp [BP.val,BP.fact,BP.wc,h]
 | 22,_=>simp [NM] at h;simp [BP.val,BP.fact,BP.wc,h]
 | 23,_=>simp [NM] at h;simp [BP.val,BP.fact,BP.wc,h]
 | 24,_=>simp [NM] at h;simp [BP.val,BP.fact,BP.wc,h]
 | n+25,h=>exact absurd h (by omega)
theorem fact_k{B:BP}{β:Nat->Nat}{w w':WD}{i:Nat}(h:B.fact β w i)(k:Kept AB w w'):B.fact β w' i:=by
 unfold BP.fact at *;split <;> first|exact h.k k|exact⟨h.1.k k,h.2.1.k k,h.2.2⟩|trivial
section
variable {B:BP}{w0:WD}{a0:Act}{β:Nat->Nat}{listed:Array Bool}{a:Act}{w w':WD}
theorem MA.dep(h:MA B w0 a0 β listed a w){i:Nat}(hi:i<25)(hl:listed.getD i false=true):∀k∈NM i,∃j,j<25/\listed.getD j false=true/\k∈IT j:=by
 intro k hk;have d22:listed.getD 22 false=true->∀k∈[5,9,13,17,21],∃j,j<25/\listed.getD j false=true/\k∈IT j:=fun hl k hk=>by
  simp at hk;rcases hk with rfl|rfl|rfl|rfl|rfl
  ·exact⟨5,by decide,h.cl.dep hl hb_22_5,by decide⟩
  ·exact⟨9,by decide,h.cl.dep hl hb_22_9,by decide⟩
  ·exact⟨13,by decide,h.cl.dep hl hb_22_13,by decide⟩
  ·exact⟨17,by decide,h.cl.dep hl hb_22_17,by decide⟩
  ·exact⟨21,by decide,h.cl.dep hl hb_22_21,by decide⟩
 match i,hi with
 | 0,hi=>cases hk
 | 1,hi=>cases hk
 | 2,hi=>cases hk
 | 3,hi=>cases hk
 | 4,hi=>cases hk
 | 5,hi=>exact⟨5,hi,hl,hk⟩
 | 6,hi=>cases hk
 | 7,hi=>cases hk
 | 8,hi=>cases hk
 | 9,hi=>exact⟨9,hi,hl,hk⟩
 | 10,hi=>cases hk
 | 11,hi=>cases hk
 | 12,hi=>cases hk
 | 13,hi=>exact⟨13,hi,hl,hk⟩
 | 14,hi=>cases hk
 | 15,hi=>cases hk
 | 16,hi=>cases hk
 | 17,hi=>exact⟨17,hi,hl,hk⟩
 | 18,hi=>cases hk
 | 19,hi=>cases hk
 | 20,hi=>cases hk
 | 21,hi=>exact⟨21,hi,hl,hk⟩
 | 22,hi=>exact d22 hl k hk
 | 23,hi=>
  have hk:k∈[5,9,13,17,21,23]:=hk;by_cases e:k=23
  ·subst e;exact⟨23,hi,hl,by decide⟩
  ·exact d22 (h.cl.dep hl hb_23_22) k (by simp at hk ⊢;omega)
 | 24,hi=>
  have hk:k∈[23]:=hk;simp at hk;subst hk;exact⟨23,by decide,h.cl.dep hl hb_24_23,by decide⟩
 | n+25,h=>exact absurd h (by omega)
theorem bks_uniq{i j s:Nat}(hi:s∈IT i)(hj:s∈IT j):i=j:=by
 unfold IT at hi hj;split at hi <;> split at hj <;> simp at hi hj <;> omega
theorem MA.step(h:MA B w0 a0 β listed a w){i:Nat}(hi:i<25)(hr:i∈Region.ready .any opsB listed){β':Nat->Nat}(hk:Kept AB w w')(hβ:∀k,k∉IT i->β' k=β k)
 (hnew:B.fact β' w' i/\∀s∈IT i,w.heap.size<=β' s/\β' s<w'.heap.size):MA B w0 a0 β' (listed.setIfInBounds i true) (a.put (some (slB i)) (B.val β' i)) w':=by
 obtain⟨hun,hlt⟩:=MQ hr;have hsz:=h.kp.sz;have hsz':=hk.sz;have hsame:∀j,j<25->listed.getD j false=true->B.val β' j=B.val β j/\(B.fact β' w' j↔B.fact β w' j):=fun j hj hl=>
  val_congr hj fun k hkd=>hβ k fun hki=>by
   obtain⟨t,ht,hlt,hkt⟩:=h.dep hj hl k hkd;rw [<- bks_uniq hki hkt,hun] at hlt
   cases hlt
 have hsb:∀j s,listed.getD j false=true->s∈IT j->β' s=β s:=fun j s hl hs=>hβ s fun hsi=>by
  rw [<- bks_uniq hsi hs,hun] at hl
  cases hl
 have old:∀j,(listed.setIfInBounds i true).getD j false=true->j≠i->listed.getD j false=true:=fun j hj hne=>(DN hj).resolve_left hne;refine⟨by simp [Act.put,h.size],h.defs,fun t ht=>?_,by simp [h.ls],h.kp.tr hk,h.cl.set hr,fun j hj hl=>?_,fun j hj hl=>?_,fun j k hj hk' hlj hlk hne s hs t ht=>?_⟩
 ·have hne:slB i≠t:=fun e=>ht (e▸slB_keep hi);rw [<- h.keep t ht];simp [Act.put,Array.getElem?_setIfInBounds_ne hne]
 ·by_cases hji:j=i
  ·subst hji;have:=slB_lt hj;simp [Act.put,h.size,this]
  ·have hl':=old j hl hji;have hne:slB i≠slB j:=fun e=>hji (slB_inj hi hj e).symm;rw [(hsame j hj hl').1,<- h.vals j hj hl'];simp [Act.put,Array.getElem?_setIfInBounds_ne hne]
 ·by_cases hji:j=i
  ·subst hji;exact⟨hnew.1,fun s hs=>⟨by have:=(hnew.2 s hs).1;omega,(hnew.2 s hs).2⟩⟩
  ·have hl':=old j hl hji;obtain⟨g1,g2⟩:=h.fact j hj hl';refine⟨(hsame j hj hl').2.2 (fact_k g1 hk),fun s hs=>?_⟩;rw [hsb j s hl' hs];have:=g2 s hs;omega
 ·by_cases hji:j=i
  ·subst hji;have hl':=old k hlk (Ne.symm hne);have h1:=(hnew.2 s hs).1;have h2:=((h.fact k hk' hl').2 t ht).2;rw [hsb k t hl' ht];omega
  ·have hl':=old j hlj hji;by_cases hki:k=i
   ·subst hki;have h1:=(hnew.2 t ht).1;have h2:=((h.fact j hj hl').2 s hs).2;rw [hsb j s hl' hs];omega
   ·have hl2:=old k hlk hki;rw [hsb j s hl' hs,hsb k t hl2 ht];exact h.inj j k hj hk' hl' hl2 hne s hs t ht
theorem MA.qu(h:MA B w0 a0 β listed a w){i:Nat}(hi:i<25)(hr:i∈Region.ready .any opsB listed)(hb:IT i=[])(hf:B.fact β w i){v:Value}(hv:v=B.val β i):MA B w0 a0 β (listed.setIfInBounds i true) (a.put (opB i).dst v) w:=by
 subst hv;rw [opB_dst i hi];exact h.step hi hr kr (fun _ _=>rfl) ⟨hf,fun s hs=>by rw [hb] at hs;cases hs⟩
theorem MA.al(h:MA B w0 a0 β listed a w){i:Nat}(hi:i<25)(hr:i∈Region.ready .any opsB listed)(hb:IT i=[i]){cs:List Value}{t:TypeId}{v:Value}(hv:v=B.val (upd β i w.heap.size) i)(hf:∀W,own W w.heap.size cs->B.fact (upd β i w.heap.size) W i)(e:w'=w.alloc (.cells cs.toArray t)) :
 MA B w0 a0 (upd β i w.heap.size) (listed.setIfInBounds i true) (a.put (opB i).dst v) w':=by
 subst hv;rw [opB_dst i hi];have o:=AD (c:=cs) e;refine h.step hi hr (kr.al e) (fun k hk=>AH _ _ fun e=>hk (by rw [hb,e];simp)) ⟨hf _ o,fun s hs=>?_⟩;rw [hb] at hs;simp at hs;subst hs;rw [upd_same];exact⟨nlr _,o.lt⟩
theorem mkRow1{v:Value}{n:Nat}:DK #[v] 1 n=(List.replicate n v).toArray:=by
 unfold DK;simp
theorem MA.one(h:MA B w0 a0 β listed a w)(hn:1<=B.n/\B.n<=16)(hcb:own w0 B.cb B.xc)(hx1:B.x0 1=B.n)(h1:a0.tmps[1]? = some (ptr B.cb))(h5:a0.tmps[5]? = some (ptr B.kp)){i:Nat}(hi:i<25)(hr:i∈Region.ready .any opsB listed){Q:Exit->Act->WD->Prop} :
 wpOp prog opsB Q i (fun a' w'=>∃β',MA B w0 a0 β' (listed.setIfInBounds i true) a' w') a w:=by
 have ag1:∀(p:Nat) (v:Value),a.tmps[p]? = some v->BH (CV 261 [(p,v)]) a:=fun p v hv=>JP h.size fun q hq=>by
  simp at hq;subst hq;exact hv
 have t1:a.tmps[1]? = some (ptr B.cb):=by rw [h.keep 1 (by decide)];exact h1
 have t5:a.tmps[5]? = some (ptr B.kp):=by rw [h.keep 5 (by decide)];exact h5
 have hv:∀{i j:Nat},i∈Region.ready .any opsB listed->j<25->CF opsB i j=true->a.tmps[slB j]? = some (B.val β j):=fun hr hj hd=>h.vals _ hj (ready_dep hr hd);have rc:rd w B.cb 1=some (vi (B.n:Nat)):=by
  rw [(hcb.k h.kp).rd];unfold BP.xc;rw [gal (by rw [AI];decide),AT _ _ _ _ _ (by decide),za,hx1]
 match i,hi with
 | 0,hi=>
  refine CA (τ:=fun _=>none) (N:=fun v=>v=B.val β 0) bg_0 bd_0 (ag1 5 _ t5) ?_ fun v hv=>⟨β,h.qu hi hr rfl trivial hv⟩;rw [den_0];rfl
 | 1,hi=>
  refine CA (τ:=fun _=>none) (N:=fun v=>v=B.val β 1) bg_1 bd_1 (ag1 1 _ t1) ?_ fun v hv=>⟨β,h.qu hi hr rfl trivial hv⟩;rw [den_1];exact⟨B.x0,B.pa,B.pl,B.pc,B.ia,B.il,B.ic,B.x96,(hcb.k h.kp).AS 0 (fun j hj=>by rw [za];rfl),rfl⟩
 | 2,hi=>
  refine CA (τ:=fun _=>none) (N:=fun v=>v=B.val β 2) bg_2 bd_2 (ag1 1 _ t1) ?_ fun v hv=>⟨β,h.qu hi hr rfl trivial hv⟩;rw [den_2];rfl
 | 6,hi=>
  refine CA (τ:=fun _=>none) (N:=fun v=>v=B.val β 6) bg_6 bd_6 (ag1 1 _ t1) ?_ fun v hv=>⟨β,h.qu hi hr rfl trivial hv⟩;rw [den_6];rfl
 | 10,hi=>
  refine CA (τ:=fun _=>none) (N:=fun v=>v=B.val β 10) bg_10 bd_10 (ag1 1 _ t1) ?_ fun v hv=>⟨β,h.qu hi hr rfl trivial hv⟩;rw [den_10];rfl
 | 14,hi=>
  refine CA (τ:=fun _=>none) (N:=fun v=>v=B.val β 14) bg_14 bd_14 (ag1 1 _ t1) ?_ fun v hv=>⟨β,h.qu hi hr rfl trivial hv⟩;rw [den_14];rfl
 | 18,hi=>
  refine CA (τ:=fun _=>none) (N:=fun v=>v=B.val β 18) bg_18 bd_18 (ag1 1 _ t1) ?_ fun v hv=>⟨β,h.qu hi hr rfl trivial hv⟩;rw [den_18];rfl
 | 3,hi=>
  refine CA (τ:=fun _=>none) (N:=fun v=>v=B.val β 3) bg_3 bd_3 (ag1 36 _ (hv hr (by decide) hb_3_2)) ?_ fun v hv=>⟨β,h.qu hi hr rfl trivial hv⟩;rw [show B.val β 2=ptr B.cb from rfl,den_3];rfl
 | 7,hi=>
  refine CA (τ:=fun _=>none) (N:=fun v=>v=B.val β 7) bg_7 bd_7 (ag1 40 _ (hv hr (by decide) hb_7_6)) ?_ fun v hv=>⟨β,h.qu hi hr rfl trivial hv⟩;rw [show B.val β 6=ptr B.cb from rfl,den_7];rfl
 | 11,hi=>
  refine CA (τ:=fun _=>none) (N:=fun v=>v=B.val β 11) bg_11 bd_11 (ag1 44 _ (hv hr (by decide) hb_11_10)) ?_ fun v hv=>⟨β,h.qu hi hr rfl trivial hv⟩;rw [show B.val β 10=ptr B.cb from rfl,den_11];rfl
 | 15,hi=>
  refine CA (τ:=fun _=>none) (N:=fun v=>v=B.val β 15) bg_15 bd_15 (ag1 48 _ (hv hr (by decide) hb_15_14)) ?_ fun v hv=>⟨β,h.qu hi hr rfl trivial hv⟩;rw [show B.val β 14=ptr B.cb from rfl,den_15];rfl
 | 19,hi=>
  refine CA (τ:=fun _=>none) (N:=fun v=>v=B.val β 19) bg_19 bd_19 (ag1 52 _ (hv hr (by decide) hb_19_18)) ?_ fun v hv=>⟨β,h.qu hi hr rfl trivial hv⟩;rw [show B.val β 18=ptr B.cb from rfl,den_19];rfl
 | 4,hi=>
  refine CA (τ:=fun _=>none) (N:=fun v=>v=B.val β 4) bg_4 bd_4 (ag1 37 _ (hv hr (by decide) hb_4_3)) ?_ fun v hv=>⟨β,h.qu hi hr rfl trivial hv⟩;rw [show B.val β 3=.pointer (some ⟨B.cb,1,none⟩) from rfl,den_4];exact⟨_,rc,rfl⟩
 | 8,hi=>
  refine CA (τ:=fun _=>none) (N:=fun v=>v=B.val β 8) bg_8 bd_8 (ag1 41 _ (hv hr (by decide) hb_8_7)) ?_ fun v hv=>⟨β,h.qu hi hr rfl trivial hv⟩;rw [show B.val β 7=.pointer (some ⟨B.cb,1,none⟩) from rfl,den_8];exact⟨_,rc,rfl⟩
 | 12,hi=>
  refine CA (τ:=fun _=>none) (N:=fun v=>v=B.val β 12) bg_12 bd_12 (ag1 45 _ (hv hr (by decide) hb_12_11)) ?_ fun v hv=>⟨β,h.qu hi hr rfl trivial hv⟩;rw [show B.val β 11=.pointer (some ⟨B.cb,1,none⟩) from rfl,den_12];exact⟨_,rc,rfl⟩
 | 16,hi=>
  refine CA (τ:=fun _=>none) (N:=fun v=>v=B.val β 16) bg_16 bd_16 (ag1 49 _ (hv hr (by decide) hb_16_15)) ?_ fun v hv=>⟨β,h.qu hi hr rfl trivial hv⟩;rw [show B.val β 15=.pointer (some ⟨B.cb,1,none⟩) from rfl,den_16];exact⟨_,rc,rfl⟩
 | 20,hi=>
  refine CA (τ:=fun _=>none) (N:=fun v=>v=B.val β 20) bg_20 bd_20 (ag1 53 _ (hv hr (by decide) hb_20_19)) ?_ fun v hv=>⟨β,h.qu hi hr rfl trivial hv⟩;rw [show B.val β 19=.pointer (some ⟨B.cb,1,none⟩) from rfl,den_20];exact⟨_,rc,rfl⟩
 | 5,hi=>
  refine GH (K':=fun v w'=>∃t sb,v=ptr t/\Kept AB w w'/\own w' t [sq sb B.n]/\own w' sb (CU B.n fun _=>[.nilFunc,vi 0])/\w.heap.size<=t/\w.heap.size<=sb/\t≠sb) (HE prog) bg_5 bd_5 (ag1 38 _ (hv hr (by decide) hb_5_4)) ?_ fun v w' hv=>?_
  ·rw [show B.val β 4=vi (B.n:Nat) from rfl,eop_5];refine(tnew_spec hn w).mono ?_;rintro e w' ⟨t,sb,rfl,hh⟩;exact⟨_,rfl,t,sb,rfl,hh⟩
  ·obtain⟨t,sb,rfl,kk,o1,o2,l1,l2,ne⟩:=hv;refine⟨upd (upd β 5 t) 25 sb,?_⟩;have hv5:(ptr t:Value)=B.val (upd (upd β 5 t) 25 sb) 5:=by simp [BP.val,upd]
   rw [opB_dst 5 hi,hv5];refine h.step hi hr kk (fun k hk=>?_) ⟨⟨?_,?_,?_⟩,fun s hs=>?_⟩
   ·have h1:k≠5:=fun e=>hk (by rw [e];decide);have h2:k≠25:=fun e=>hk (by rw [e];decide);rw [AH _ _ h2,AH _ _ h1]
   ·simpa [upd] using o1
   ·simpa [upd] using o2
   ·simpa [upd] using ne
   ·have hs:s=5\/s=25:=by simpa [IT] using hs
    rcases hs with rfl|rfl
    ·simpa [upd] using ⟨l1,o1.lt⟩
    ·simpa [upd] using ⟨l2,o2.lt⟩
 | 9,hi=>
  refine GH (K':=fun v w'=>v=sq w.heap.size B.n/\w'=w.alloc (.cells (List.replicate B.n (nl:Value)).toArray 27)) (HE prog) bg_9 bd_9 (ag1 42 _ (hv hr (by decide) hb_9_8)) ?_ fun v w' hv=>⟨_,h.al hi hr rfl (hv.1.trans (by simp [BP.val])) (fun W o=>by show own W (upd β 9 w.heap.size 9) _;rw [upd_same];exact o) hv.2⟩
  show eOp _ _ _ _ _ _
  rw [show B.val β 8=vi (B.n:Nat) from rfl,eop_9,mkRow1];refine AA FH fun w' e=>?_;rw [tnc] at e ⊢;exact⟨rfl,e⟩
 | 13,hi=>
  refine GH (K':=fun v w'=>v=sq w.heap.size B.n/\w'=w.alloc (.cells (List.replicate B.n (vi 0:Value)).toArray 3)) (HE prog) bg_13 bd_13 (ag1 46 _ (hv hr (by decide) hb_13_12)) ?_ fun v w' hv=>⟨_,h.al hi hr rfl (hv.1.trans (by simp [BP.val])) (fun W o=>by show own W (upd β 13 w.heap.size 13) _;rw [upd_same];exact o) hv.2⟩
  show eOp _ _ _ _ _ _
  rw [show B.val β 12=vi (B.n:Nat) from rfl,eop_13,mkRow1];refine AA FH fun w' e=>?_;rw [tnc] at e ⊢;exact⟨rfl,e⟩
 | 17,hi=>
  refine GH (K':=fun v w'=>v=sq w.heap.size B.n/\w'=w.alloc (.cells (List.replicate B.n (vi 0:Value)).toArray 3)) (HE prog) bg_17 bd_17 (ag1 50 _ (hv hr (by decide) hb_17_16)) ?_ fun v w' hv=>⟨_,h.al hi hr rfl (hv.1.trans (by simp [BP.val])) (fun W o=>by show own W (upd β 17 w.heap.size 17) _;rw [upd_same];exact o) hv.2⟩
  show eOp _ _ _ _ _ _
  rw [show B.val β 16=vi (B.n:Nat) from rfl,eop_17,mkRow1];refine AA FH fun w' e=>?_;rw [tnc] at e ⊢;exact⟨rfl,e⟩
 | 21,hi=>
  refine GH (K':=fun v w'=>v=sq w.heap.size B.n/\w'=w.alloc (.cells (List.replicate B.n (vi 0:Value)).toArray 3)) (HE prog) bg_21 bd_21 (ag1 54 _ (hv hr (by decide) hb_21_20)) ?_ fun v w' hv=>⟨_,h.al hi hr rfl (hv.1.trans (by simp [BP.val])) (fun W o=>by show own W (upd β 21 w.heap.size 21) _;rw [upd_same];exact o) hv.2⟩
  show eOp _ _ _ _ _ _
  rw [show B.val β 20=vi (B.n:Nat) from rfl,eop_21,mkRow1];refine AA FH fun w' e=>?_;rw [tnc] at e ⊢;exact⟨rfl,e⟩
 | 22,hi=>
  have hag:BH (env22 B β) a:=JP h.size fun p hp=>by
   simp at hp;rcases hp with rfl|rfl|rfl|rfl|rfl|rfl|rfl
   ·exact hv hr (by decide) hb_22_0
   ·exact hv hr (by decide) hb_22_1
   ·exact hv hr (by decide) hb_22_5
   ·exact hv hr (by decide) hb_22_9
   ·exact hv hr (by decide) hb_22_13
   ·exact hv hr (by decide) hb_22_17
   ·exact hv hr (by decide) hb_22_21
  refine CA (τ:=fun _=>none) (N:=fun v=>v=B.val β 22) bg_22 bd_22 hag ?_ fun v hv=>⟨β,h.qu hi hr rfl trivial hv⟩;rw [den_22];rfl
 | 23,hi=>
  refine GH (K':=fun v w'=>v=ptr w.heap.size/\w'=w.alloc (.cells (B.wc β).toArray 57)) (HE prog) bg_23 bd_23 (ag1 56 _ (hv hr (by decide) hb_23_22)) ?_ fun v w' hv=>⟨_,h.al hi hr rfl (hv.1.trans (by simp [BP.val])) (fun W o=>?_) hv.2⟩
  ·show eOp _ _ _ _ _ _
   rw [show B.val β 22=.agg (B.wc β).toArray from rfl,eop_23];exact fun w' e=>⟨rfl,e⟩
  ·show own W (upd β 23 w.heap.size 23) (B.wc (upd β 23 w.heap.size))
   rw [upd_same];have:B.wc (upd β 23 w.heap.size)=B.wc β:=by simp [BP.wc,upd]
   rw [this];exact o
 | 24,hi=>
  refine CA (τ:=fun _=>none) (N:=fun v=>v=B.val β 24) bg_24 bd_24 (ag1 57 _ (hv hr (by decide) hb_24_23)) ?_ fun v hv=>⟨β,h.qu hi hr rfl trivial hv⟩
  show Eng.BU.den _ _ _ _
  rw [show B.val β 23=ptr (β 23) from rfl,den_24];rfl
 | n+25,h=>exact absurd h (by omega)
end
theorem all_listedB{listed:Array Bool}(hs:listed.size=25)(hr:Region.ready .any opsB listed=[]):∀i,i<25->listed.getD i false=true:=by
 intro i
 induction i using Nat.strongRecOn with
 | _ i ih=>
  intro hi
  cases hl:listed.getD i false with
  | true=>rfl
  | false=>
   have:i∈Region.ready .any opsB listed:=by
    refine mem_ready.2 ⟨?_,opB i,opB_get i hi,fun e he hb=>?_⟩
    ·simp [show i<listed.size by omega] at hl ⊢;exact hl
    ·have ha:=opB_after i hi;rw [Array.all_eq_true] at ha;obtain⟨j,hj,rfl⟩:=Array.mem_iff_getElem.1 he;have:=of_decide_eq_true (ha j hj);exact ih _ this (by omega)
   rw [hr] at this
   cases this
theorem applyI_B(p:OA){w:WD}(I:OA->WD->Prop):D6 (T:=WD->Prop) (CV 261 [(7,.pointer p)]) (fun K=>K w) [(7,Shp.ptr)] I=I p w:=by kernel_rfl
structure BFin(B:BP)(w0:WD)(β:Nat->Nat)(w:WD):Prop where
 kp:Kept AB w0 w
 f:∀i,i<25->B.fact β w i/\∀s∈IT i,w0.heap.size<=β s
 inj:∀i j,i<25->j<25->i≠j->∀s∈IT i,∀t∈IT j,β s≠β t
theorem regB{B:BP}{w0:WD}{e:Env}{I:OA->WD->Prop}(hn:1<=B.n/\B.n<=16)(hcb:own w0 B.cb B.xc)(hx1:B.x0 1=B.n)(he:e.length=261)(h1:e[1]? = some (some ⟨none,ptr B.cb,none⟩))(h5:e[5]? = some (some ⟨none,ptr B.kp,none⟩))(hI:∀β w',BFin B w0 β w'->I (some ⟨β 23,0,none⟩) w') :
 SemReg prog (regOps Tryz.f10 4) keepB e [(7,Shp.ptr)] I w0:=by
 refine⟨fun a ha Q hQ=>?_⟩;have hsz:a.tmps.size=261:=by rw [<- ha.len,he]
 have ht1:a.tmps[1]? = some (ptr B.cb):=ha.ent 1 _ h1;have ht5:a.tmps[5]? = some (ptr B.kp):=ha.ent 5 _ h5;have hlen:(regOps Tryz.f10 4).length=25:=by
  have:=opsB_size;unfold opsB at this;simpa using this
 rw [hlen]
 change wpAny prog .any opsB Q 25 (Array.replicate 25 false) a w0.drew
 refine wpAny_inv (fun listed a' w'=>∃β,MA B w0 a β listed a' w') ?_ ?_ 25 _ a _ ?_ ?_
 ·rintro listed a' w' i ⟨β,h⟩ hi;have hi25:i<25:=by have:=(MQ hi).2;have:=h.ls;omega
  exact h.one hn hcb hx1 ht1 ht5 hi25 hi
 ·rintro listed a' w' ⟨β,h⟩ hr;have hall:=all_listedB h.ls hr;refine hQ (CV 261 [(7,ptr (β 23))]) a' w' ⟨JP h.size fun p hp=>?_,by rw [h.size,hsz],h.defs,h.keep⟩ ?_
  ·simp at hp;subst hp;exact h.vals 24 (by decide) (hall 24 (by decide))
  ·rw [applyI_B];exact hI β w' ⟨h.kp,fun i hi=>⟨(h.fact i hi (hall i hi)).1,fun s hs=>((h.fact i hi (hall i hi)).2 s hs).1⟩,fun i j hi hj hne=>h.inj i j hi hj (hall i hi) (hall j hj) hne⟩
 ·exact Nat.le_of_eq (by decide)
 ·have hf:∀i,(Array.replicate 25 false).getD i false=false:=fun i=>by
   rw [Array.getD_eq_getD_getElem?,Array.getElem?_replicate];split <;> rfl
  refine⟨fun _=>0,hsz,rfl,fun _ _=>rfl,by simp,kr.dr rfl,fun j oj _ hl=>(by rw [hf] at hl;cases hl),fun i _ hl=>(by rw [hf] at hl;cases hl),fun i _ hl=>(by rw [hf] at hl;cases hl),fun i j _ _ hl=>(by rw [hf] at hl;cases hl)⟩
end Go.Proofs.YtdgbechegbmpcaaGreatDoor
