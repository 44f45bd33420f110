/- Part of a proof that a law returns true. Conditions: those in each theorem. -/
import Derived.Test.YtdgbechegbmpcaaGreatDoorQ31
import Derived.Test.YtdgbechegbmpcaaGreatDoorXV4
import Derived.Test.YtdgbechegbmpcaaGreatDoorQ21
import Derived.Test.YtdgbechegbmpcaaGreatDoorB0
import Derived.Test.YtdgbechegbmpcaaGreatDoorM7
set_option linter.unusedSimpArgs false
set_option linter.unusedVariables false
set_option maxRecDepth 100000
namespace Go.Proofs.YtdgbechegbmpcaaGreatDoor
open Go Go.Eng Go.Proofs.Tryz
theorem OK:∀(n:Nat) (l:List Nat),(∀f,f<n->f∈l)->n<=l.length
 | 0,_,_=>Nat.zero_le _
 | n+1,l,h=>by
  have hm:=h n (by omega);have:=OK n (l.erase n) fun f hf=>(List.mem_erase_of_ne (by omega)).2 (h f (by omega));rw [List.length_erase_of_mem hm] at this;have:=List.length_pos_of_mem hm;omega
theorem PO:∀(n:Nat) (l:List Nat),(∀f,f<n->f∈l)->l.length=n->l.Nodup
 | 0,l,_,hl=>by rw [List.length_eq_zero_iff.1 hl];exact List.nodup_nil
 | n+1,l,h,hl=>by
  have hm:=h n (by omega);have hl2:(l.erase n).length=n:=by rw [List.length_erase_of_mem hm,hl];rfl
  have hc:∀f,f<n->f∈l.erase n:=fun f hf=>(List.mem_erase_of_ne (by omega)).2 (h f (by omega));have ih:=PO n (l.erase n) hc hl2;have hn:n∉l.erase n:=fun e=>by
   have:=OK (n+1) (l.erase n) fun f hf=>if e2:f=n then e2▸e else hc f (by omega)
   omega
  exact((List.perm_cons_erase hm).nodup_iff).2 (List.nodup_cons.2 ⟨hn,ih⟩)
def sd(L:List (Nat×Int))(f:Nat):Int:=match L.lookup f with|some v=>v|none=>0
theorem PB{L:List (Nat×Int)}{f:Nat}(h:f∉L.map Prod.fst):L.lookup f=none:=by
 induction L with
 | nil=>rfl
 | cons x L ih=>
  rw [List.map_cons,List.mem_cons,not_or] at h;rw [List.lookup_cons,show(f==x.1)=false from beq_eq_false_iff_ne.2 h.1];exact ih h.2
theorem sd_none{L:List (Nat×Int)}{f:Nat}(h:f∉L.map Prod.fst):sd L f=0:=by unfold sd;rw [PB h]
theorem sd_put{L:List (Nat×Int)}{f:Nat}{v:Int}(h:f∉L.map Prod.fst):sd (L++[(f,v)])=upd (sd L) f v:=by
 funext g;unfold sd;rw [List.lookup_append];by_cases e:g=f
 ·subst e;rw [PB h,upd_same];simp
 ·rw [AH _ _ e]
  cases L.lookup g with
  | some v=>rfl
  | none=>rw [List.lookup_cons,show(g==f)=false from beq_eq_false_iff_ne.2 e];rfl
theorem lookup_mem'{L:List (Nat×Int)}{f:Nat}(h:f∈L.map Prod.fst):∃v,L.lookup f=some v/\(f,v)∈L:=by
 induction L with
 | nil=>cases h
 | cons x L ih=>
  rw [List.lookup_cons];by_cases e:f=x.1
  ·subst e;exact⟨x.2,by simp,by simp⟩
  ·rw [show(f==x.1)=false from beq_eq_false_iff_ne.2 e];rw [List.map_cons,List.mem_cons] at h;obtain⟨v,h1,h2⟩:=ih (h.resolve_left e);exact⟨v,h1,mcm _ h2⟩
def IN(l:List (Nat×Nat)):List Nat:=l.flatMap fun y=>List.range' y.1 (2^y.2)
def pgF(pg:Nat->Pg)(q:Nat):List Nat:=(List.range q).filterMap fun j=>match pg j with|.fr f=>some f|_=>none
def pgS(pg:Nat->Pg)(q:Nat):List Nat:=(List.range q).filterMap fun j=>match pg j with|.sl s=>some s|_=>none
def CO(pg:Nat->Pg)(q:Nat):List FK:=(List.range q).filterMap fun j=>match pg j with|.no=>none|.fr f=>some ⟨(j:Int),1,(f:Int)⟩|.sl s=>some ⟨(j:Int),2,(s:Int)⟩
def KM(Z:List (Nat×Nat))(hd:Option Nat)(rt lf:Nat)(A:List Nat)(pg:Nat->Pg):List (Nat×Int):=
 (IN Z).map (fun f=>(f,1))++(hd.toList.map (fun f=>(f,2))++((rt,3)::(lf,3)::(A.map (fun f=>(f,3))++(pgF pg 32).map fun f=>(f,4))))
theorem flatB_len(l:List (Nat×Nat)):(IN l).length=(l.map fun y=>2^y.2).sum:=by
 induction l with
 | nil=>rfl
 | cons x l ih=>rw [show IN (x::l)=List.range' x.1 (2^x.2)++IN l from List.flatMap_cons,lap,List.length_range',ih];rfl
theorem QE(pg:Nat->Pg):∀q,(pgF pg q).length=((List.range q).filter fun j=>(pg j).KH).length
 | 0=>rfl
 | q+1=>by
  have ih:=QE pg q;unfold pgF at ih ⊢;rw [List.range_succ,List.filterMap_append,lap,ih,List.filter_append,lap];congr 1
  cases h:pg q <;> simp [h,Pg.KH]
theorem GN(pg:Nat->Pg)(q:Nat):CO pg (q+1)=CO pg q++(match pg q with|.no=>[]|.fr f=>[⟨(q:Int),1,(f:Int)⟩]|.sl s=>[⟨(q:Int),2,(s:Int)⟩]):=by
 unfold CO;rw [List.range_succ,List.filterMap_append];congr 1
 cases h:pg q <;> simp [h]
theorem bks_sumQ(l:List Bk):((bks l).map fun y=>2^y.2).sum=AX l:=by
 induction l with
 | nil=>rfl
 | cons x l ih=>
  rw [D8];by_cases h:x.g=0
  ·rw [bks_free h,if_pos h,List.map_cons,List.sum_cons,ih]
  ·rw [bks_held h,if_neg h,ih,za]
theorem zsh_sumQ{c:Nat->Int}{L:Nat->List Bk}:∀q:Nat,((zsh c L q).map fun y=>2^y.2).sum=DT q fun i=>AX (L i)
 | 0=>rfl
 | q+1=>by
  have e0:zsh c L (q+1)=zsh c L q++(bks (L q)).map fun y=>((AN c q).toNat+y.1,y.2):=rfl;have e2:(((bks (L q)).map fun y=>((AN c q).toNat+y.1,y.2)).map fun y:Nat×Nat=>2^y.2)=(bks (L q)).map fun y=>2^y.2:=by rw [List.map_map];rfl
  rw [e0,FU,List.sum_append,e2,bks_sumQ,zsh_sumQ q,D7]
theorem zsh_in{c:Nat->Int}{L:Nat->List Bk}{i:Nat}{x:Bk}(hx:x∈L i)(hg:x.g=0):∀{q:Nat},i<q->((AN c i).toNat+x.p,x.o)∈zsh c L q
 | 0,h=>absurd h (nlz _)
 | q+1,h=>by
  have e0:zsh c L (q+1)=zsh c L q++(bks (L q)).map fun y=>((AN c q).toNat+y.1,y.2):=rfl;rw [e0,List.mem_append];by_cases e:i=q
  ·subst e;exact .inr (List.mem_map.2 ⟨(x.p,x.o),List.mem_map.2 ⟨x,QF.2 ⟨hx,hg⟩,rfl⟩,rfl⟩)
  ·exact .inl (zsh_in hx hg (by omega))
theorem zsh_memQ{c:Nat->Int}{L:Nat->List Bk}:∀{q:Nat}{y:Nat×Nat},y∈zsh c L q->∃i x,i<q/\x∈L i/\x.g=0/\y=((AN c i).toNat+x.p,x.o)
 | 0,y,h=>by simp [zsh] at h
 | q+1,y,h=>by
  have e0:zsh c L (q+1)=zsh c L q++(bks (L q)).map fun y=>((AN c q).toNat+y.1,y.2):=rfl;rw [e0,List.mem_append] at h;rcases h with h|h
  ·obtain⟨i,x,h1,h2⟩:=zsh_memQ h;exact⟨i,x,by omega,h2⟩
  ·obtain⟨z,hz,rfl⟩:=List.mem_map.1 h;obtain⟨x,hx,rfl⟩:=List.mem_map.1 hz;obtain⟨h1,h2⟩:=QF.1 hx;exact⟨q,x,by omega,h1,h2,rfl⟩
theorem tile_in:∀{l:List Bk}{a b f:Nat},CQ a l b->a<=f->f<b->∃x∈l,x.p<=f/\f<x.p+2^x.o
 | [],a,b,f,h,h1,h2=>by have:a=b:=h;omega
 | x::l,a,b,f,h,h1,h2=>by
  obtain⟨e1,_,_,e2⟩:=h;by_cases e:f<a+2^x.o
  ·exact⟨x,mcs,by omega,by omega⟩
  ·obtain⟨y,hy,h3⟩:=tile_in e2 (by omega) h2;exact⟨y,mcm _ hy,h3⟩
section
variable {w:WD}{k:Nat}{S:AL}{fp:Prt->Nat->Prop}{rt lf hc cnt tot:Nat}{pg:Nat->Pg}{pin:Nat->Bool}{A:List Nat}{hd:Option Nat}
theorem frame_node(h:AJ w k S fp){f:Nat}(hf:f<S.n):∃i,i<S.nodes/\AN S.c i<=f/\(f:Int)<AN S.c (i+1):=by
 have key:∀q,q<=S.nodes->(f:Int)<AN S.c q->∃i,i<q/\AN S.c i<=f/\(f:Int)<AN S.c (i+1):=fun q=>by
  induction q with
  | zero=>intro _ h0;have:AN S.c 0=0:=rfl;omega
  | succ q ih=>
   intro hq h0;by_cases e:(f:Int)<AN S.c q
   ·obtain⟨i,h1,h2⟩:=ih (by omega) e;exact⟨i,by omega,h2⟩
   ·exact⟨q,by omega,by omega,h0⟩
 refine key S.nodes (nlr _) ?_;have:=h.n4.1;unfold AL.nodes;omega
theorem QSt.freeB(L:QSt S rt lf pg pin A hc hd cnt tot)(h:AJ w k S fp){f:Nat}(hf:f<S.n)(hu:¬EO rt lf pg A hd f):f∈IN (zsh S.Z.c S.L S.Z.k):=by
 obtain⟨_,hc,hk⟩:=h.zn;obtain⟨i,hi,h1,h2⟩:=frame_node h hf;have hfi:=h.fst hi;obtain⟨x,hx,h3,h4⟩:=tile_in (h.HF hi) (f:=f-(AN S.c i).toNat) (Nat.zero_le _) (by omega);have hg:x.g=0:=by
  have hxt:=BC (h.HF hi) hx;by_cases e:x.g=0
  ·exact e
  ·exfalso;have hg1:x.g=1:=by
    obtain⟨Z,_,hk'⟩:=h.zn;exact((Z.iv i (by omega)).g01 x hx).resolve_left e
   obtain⟨ho,hu'⟩:=L.tk1 i hi x hx hg1;rw [ho] at h4;have:gfr S i x=f:=by unfold gfr;omega
   exact hu (this▸hu')
 unfold IN;rw [List.mem_flatMap,hc,hk];exact⟨_,zsh_in hx hg hi,by rw [List.mem_range'];exact⟨f-((AN S.c i).toNat+x.p),by show _<2^x.o;omega,by show f=(AN S.c i).toNat+x.p+_;omega⟩⟩
theorem QSt.freeM(L:QSt S rt lf pg pin A hc hd cnt tot)(h:AJ w k S fp){y:Nat×Nat}(hy:y∈zsh S.Z.c S.L S.Z.k):y.2<=10/\y.1+2^y.2<=S.n/\∀f,y.1<=f->f<y.1+2^y.2->S.mks f=CM:=by
 obtain⟨_,hc,hk⟩:=h.zn;rw [hc] at hy;obtain⟨i,x,hi,hx,hg,rfl⟩:=zsh_memQ hy;have hi:i<S.nodes:=by omega
 have hf:=h.fst hi;have hxt:=BC (h.HF hi) hx;refine⟨hxt.2.2.2,by show(AN S.c i).toNat+x.p+2^x.o<=S.n;omega,fun f h1 h2=>?_⟩;have h1:(AN S.c i).toNat+x.p<=f:=h1;have h2:f<(AN S.c i).toNat+x.p+2^x.o:=h2;refine L.mk3 f (by omega) fun hu=>?_;obtain⟨j,z,hj,hz,hzg,he⟩:=L.tk2 f hu;have hzo:=(L.tk1 j hj z hz hzg).1;have hzt:=BC (h.HF hj) hz;rw [hzo] at hzt;have hfj:=h.fst hj;unfold gfr at he;have:j=i:=CH h.my (f:=(f:Int)) (by unfold AL.nodes at hj;exact hj) (by unfold AL.nodes at hi;exact hi) (by omega) (by omega) (by omega) (by omega);subst this;have:x=z:=IE (h.HF hj) hx hz (f:=z.p) (by omega) (by omega) (nlr _) (by rw [hzo];omega);subst this;omega
theorem QSt.said(L:QSt S rt lf pg pin A hc hd cnt tot)(h:AJ w k S fp):((KM (zsh S.Z.c S.L S.Z.k) hd rt lf A pg).map Prod.fst).Nodup/\(∀f,f<S.n->f∈(KM (zsh S.Z.c S.L S.Z.k) hd rt lf A pg).map Prod.fst)/\∀f,f∈(KM (zsh S.Z.c S.L S.Z.k) hd rt lf A pg).map Prod.fst->f<S.n:=by
 have em:(KM (zsh S.Z.c S.L S.Z.k) hd rt lf A pg).map Prod.fst=IN (zsh S.Z.c S.L S.Z.k)++(hd.toList++(rt::lf::(A++pgF pg 32))):=by
  simp [KM,List.map_map,Function.comp_def]
 obtain⟨_,hc',hk⟩:=h.zn;have hcov:∀f,f<S.n->f∈(KM (zsh S.Z.c S.L S.Z.k) hd rt lf A pg).map Prod.fst:=fun f hf=>by
  rw [em];by_cases hu:EO rt lf pg A hd f
  ·rw [List.mem_append];right;rcases hu with rfl|rfl|⟨j,e⟩|e|e
   ·simp
   ·simp
   ·have:f∈pgF pg 32:=List.mem_filterMap.2 ⟨j,List.mem_range.2 (L.pgo j f e).1,by rw [e]⟩;simp [this]
   ·simp [e]
   ·simp [e]
  ·exact List.mem_append.2 (.inl (L.freeB h hf hu))
 have hlen:((KM (zsh S.Z.c S.L S.Z.k) hd rt lf A pg).map Prod.fst).length=S.n:=by
  have hcf:=L.cf;have hcp:=L.cp;rw [<- QE] at hcp;have e1:hd.toList.length=if hd.isSome then 1 else 0:=by cases hd <;> rfl
  rw [em,lap,lap,flatB_len,zsh_sumQ,hk,e1,List.length_cons,List.length_cons,lap,hcp];omega
 refine⟨PO _ _ hcov hlen,hcov,fun f hf=>?_⟩;obtain⟨hrt,hlf,_⟩:=L.rl;rw [em] at hf;simp only [List.mem_append,List.mem_cons] at hf;rcases hf with hf|hf|rfl|rfl|hf|hf
 ·obtain⟨y,hy,hfy⟩:=List.mem_flatMap.1 hf;obtain⟨_,h2,_⟩:=L.freeM h hy;obtain⟨i,hi,rfl⟩:=List.mem_range'.1 hfy;omega
 ·have:hd=some f:=by cases hd <;> simp at hf;rw [hf]
  exact(L.hdr f this).1
 ·exact hrt
 ·exact hlf
 ·exact(L.Ao f hf).1
 ·obtain⟨j,_,hj⟩:=List.mem_filterMap.1 hf
  cases e:pg j with
  | fr g=>rw [e] at hj;cases hj;exact(L.pgo j f e).2.1
  | no=>rw [e] at hj;cases hj
  | sl s=>rw [e] at hj;cases hj
end
section
variable {w:WD}{k:Nat}{S:AL}{fp:Prt->Nat->Prop}{rt lf hc cnt tot:Nat}{pg:Nat->Pg}{pin:Nat->Bool}{A:List Nat}{hd:Option Nat}
theorem QSt.get0(L:QSt S rt lf pg pin A hc hd cnt tot)(h:AJ w k S fp){page:Int}(hp:32<=page/\page<1024):gtE S.by' S.n (S.root 1) page=0/\gtK S.by' S.n (S.root 1) page=0:=by
 have hn:=h.n4;have hl:=L.rl;have ht:1<=Int.tdiv page 32/\Int.tdiv page 32<=31:=by rw [Int.tdiv_eq_ediv_of_nonneg (by omega)];omega
 have hz:=L.wz _ ht.1 ht.2;have hw:wdE S.n (rt:Int) (Int.tdiv page 32)=0:=DD;have he:enE 0=0:=by decide
 have hE:rdE S.by' S.n (rt:Int) (Int.tdiv page 32)=0:=by unfold rdE;rw [if_neg (by omega),hz,he]
 have hK:rdK S.by' S.n (rt:Int) (Int.tdiv page 32)=0:=by unfold rdK;rw [if_pos hE,hz];rfl
 have h0:lfE S.by' S.n (S.root 1) page=7:=by
  unfold lfE;rw [L.root,if_neg (by omega),hE,if_neg (by omega),hK,if_pos rfl]
 have h1:lack S.by' S.n (S.root 1) page=true:=by
  unfold lack;rw [L.root,hw,hz]
  rfl
 unfold gtE gtK;rw [if_pos ⟨h0,h1⟩,if_neg (by omega)];exact⟨rfl,rfl⟩
theorem QSt.pages(L:QSt S rt lf pg pin A hc hd cnt tot)(h:AJ w k S fp):D9 S.by' S.n (S.root 1) 1024=CO pg 32:=by
 have lo:∀q,q<=32->D9 S.by' S.n (S.root 1) q=CO pg q:=fun q hq=>by
  induction q with
  | zero=>rfl
  | succ q ih=>
   obtain⟨g1,g2,g3⟩:=L.get h (j:=q) (by omega);rw [GB,GN,ih (by omega),g1,g2,g3]
   cases pg q <;> simp [kindP,numP]
 have hi:∀q,32<=q->q<=1024->D9 S.by' S.n (S.root 1) q=CO pg 32:=fun q h1 h2=>by
  induction q with
  | zero=>omega
  | succ q ih=>
   by_cases e:q+1=32
   ·rw [e];exact lo 32 (by omega)
   ·obtain⟨g1,g2⟩:=L.get0 h (page:=q) (by omega);rw [GB,ih (by omega) (by omega),if_neg (fun e=>e.2 g2),List.append_nil]
 exact hi 1024 (by omega) (by omega)
theorem QSt.procs(L:QSt S rt lf pg pin A hc hd cnt tot):procs S (F7 S) 9=[F7 S 1]:=by
 obtain⟨b,hb⟩:=L.sp;unfold Go.Proofs.YtdgbechegbmpcaaGreatDoor.procs;rw [hb]
 rfl
theorem MY(pg:Nat->Pg):∀q,(CO pg q).length=(pgF pg q).length+(pgS pg q).length
 | 0=>rfl
 | q+1=>by
  have ih:=MY pg q;rw [GN];unfold pgF pgS at ih ⊢;rw [List.range_succ,List.filterMap_append,List.filterMap_append,lap,lap,lap,ih]
  cases h:pg q <;> simp [h] <;> omega
theorem mapQ_mem{x:FK}{q:Nat}(h:x∈CO pg q):∃j,j<q/\((∃f,pg j=.fr f/\x=⟨(j:Int),1,(f:Int)⟩)\/∃s,pg j=.sl s/\x=⟨(j:Int),2,(s:Int)⟩):=by
 obtain⟨j,hj,hx⟩:=List.mem_filterMap.1 h;refine⟨j,List.mem_range.1 hj,?_⟩
 cases e:pg j with
 | no=>rw [e] at hx;cases hx
 | fr f=>rw [e] at hx;exact .inl ⟨f,rfl,(Option.some.inj hx).symm⟩
 | sl s=>rw [e] at hx;exact .inr ⟨s,rfl,(Option.some.inj hx).symm⟩
theorem pgS_mem{s q:Nat}:s∈pgS pg q↔∃j,j<q/\pg j=.sl s:=by
 unfold pgS;rw [List.mem_filterMap];constructor
 ·rintro ⟨j,hj,hx⟩;refine⟨j,List.mem_range.1 hj,?_⟩
  cases e:pg j with
  | no=>rw [e] at hx;cases hx
  | fr f=>rw [e] at hx;cases hx
  | sl t=>rw [e] at hx;cases hx;rfl
 ·rintro ⟨j,hj,e⟩;exact⟨j,List.mem_range.2 hj,by rw [e]⟩
theorem QSt.slU(L:QSt S rt lf pg pin A hc hd cnt tot){i j s:Nat}(h1:pg i=.sl s)(h2:pg j=.sl s):i=j:=by
 have e1:=(L.pgs i s h1).2.2;have e2:=(L.pgs j s h2).2.2;rw [e1] at e2;simp at e2;omega
theorem QSt.slN(L:QSt S rt lf pg pin A hc hd cnt tot)(ht:(CO pg 32).length=tot):(pgS pg 32).length=(owns S.AP S.sof).length:=by
 have h1:=MY pg 32;have h2:=L.cp;have h3:=L.cu;rw [<- QE] at h2;omega
theorem QSt.slO(L:QSt S rt lf pg pin A hc hd cnt tot){x:Own}(hx:x∈owns S.AP S.sof):∃j s:Nat,pg j=.sl s/\j<32/\x=⟨s,1,j⟩:=by
 unfold owns at hx;obtain⟨s,hs,rfl⟩:=List.mem_map.1 hx;obtain⟨h1,h2⟩:=List.mem_filter.1 hs;rcases L.so s (List.mem_range.1 h1) with e|⟨j,hj⟩
 ·rw [e] at h2;simp at h2
 ·exact⟨j,s,hj,(L.pgs j s hj).1,by rw [(L.pgs j s hj).2.2]⟩
end
structure Sd(w7:WD)(sbk box n:Nat)(pre:List (Nat×Int))(W:WD):Prop where
 kp:Kept AB w7 W
 said:own W sbk (AK .i64 (sd pre) 0 n)
 bx:own W box [.slice (some ⟨sbk,0,none⟩) n n]
 lo:w7.heap.size<=sbk
 ne:sbk≠box
section
variable {w7 W W':WD}{sbk box n:Nat}{pre:List (Nat×Int)}
theorem Sd.k(h:Sd w7 sbk box n pre W)(kk:Kept AB W W'):Sd w7 sbk box n pre W':=⟨h.kp.tr kk,h.said.k kk,h.bx.k kk,h.lo,h.ne⟩
theorem said_put(h:Sd w7 sbk box n pre W){f:Nat}{v:Int}(hf:f<n)(hn:n<=1024)(hv:0<=v/\v<=9)(hno:f∉pre.map Prod.fst) :
 Calls prog 48 #[vi f,vi v,ptr box] W fun e w'=>e=.returned (.tuple #[])/\Sd w7 sbk box n (pre++[(f,v)]) w'/\Kept (·=sbk) W w':=by
 refine Calls.ret (vc48 f v (some ⟨box,0,none⟩) W _ ?_);have hb:∀{W:WD},own W box [.slice (some ⟨sbk,0,none⟩) n n]->rd W box 0=some (.slice (some ⟨sbk,0,none⟩) n n):=fun o=>by rw [o.rd];rfl
 unfold Q;refine AF (fun _=>rfl) ⟨_,_,_,(fun _=>hb h.bx),AA (by simp;omega) fun w1 e1=>?_⟩;have h1:=h.k (kr.dr e1);refine AA rfl ⟨_,_,_,hb h1.bx,AA rfl ⟨_,_,_,hb h1.bx,AA rfl (Wi ⟨sd pre f,?_,AA rfl (Wi ⟨?_,fun w2 e2=>?_⟩)⟩)⟩⟩
 ·rw [tnc,mo]
  show rd w1 sbk (0+f)=_
  rw [za,h1.said.rd,AT _ _ _ _ _ hf,za]
 ·rw [tnc,mo]
  show wr w1 sbk (0+f)
  rw [za];exact h1.said.wr (by rw [AI];exact hf)
 ·rw [sd_none hno] at e2;have e3:IntKind.wrap .i64 (IntKind.wrap .i64 ((0:Int)*10)+v)=v:=by rw [wi (x:=(0:Int)*10) (by decide),wi (by omega)];omega
  rw [e3,tnc,mo] at e2;have e2:w2=st w1 sbk (0+f) (vi v):=e2;rw [za] at e2;have kk:Kept (·=sbk) w1 w2:=kr.s1 e2 (.inl rfl);have o:=h1.said.s1 e2;rw [GS hf,<- sd_put hno] at o;exact⟨rfl,⟨BD h1.kp kk (fun x e=>by rw [e];exact h.lo),o,h1.bx.kx kk fun e=>h.ne e.symm,h.lo,h.ne⟩,((Kept.refl (·=sbk) W).dr e1).trans kk fun _ _ e=>e⟩
end
theorem SlR.one{α:Type}{R:Rd α}{w:WD}{a:OA}{l c:Nat}{xs:List α}(h:SlR R 1 w a l c xs){i:Nat}{x:α}(hx:xs[i]? = some x):∃u,R w [u] x/\rd w (pb a) (po a+Int.toNat (i:Int)*1)=some u:=by
 obtain⟨cs,h1,h2,h3⟩:=h.el i x hx
 match cs,h1 with
 | [u],_=>
  refine⟨u,h2,?_⟩;rw [tnc];exact h3 0 u rfl
theorem SlR.int{w:WD}{a:OA}{l c:Nat}{xs:List Int}(h:SlR HA 1 w a l c xs){i:Nat}{x:Int}(hx:xs[i]? = some x):rd w (pb a) (po a+Int.toNat (i:Int)*1)=some (vi x):=by
 obtain⟨u,hu,hr⟩:=h.one hx;have:u=vi x:=by simpa [HA] using hu
 rw [<- this];exact hr
theorem SlR.sl{α:Type}{R:Rd α}{s:Nat}{w:WD}{a:OA}{l c:Nat}{xs:List (List α)}(h:SlR (RL R s) 1 w a l c xs){i:Nat}{x:List α}(hx:xs[i]? = some x):∃(b:OA) (m d:Nat),SlR R s w b m d x/\rd w (pb a) (po a+Int.toNat (i:Int)*1)=some (.slice b m d):=by
 obtain⟨u,⟨b,m,d,hu,hR⟩,hr⟩:=h.one hx;have:u=.slice b m d:=by simpa using hu
 exact⟨b,m,d,hR,by rw [<- this];exact hr⟩
def frs(M:List FK):List Nat:=M.filterMap fun x=>if x.kind=1 then some x.n.toNat else none
def sls(M:List FK):List Nat:=M.filterMap fun x=>if x.kind=2 then some x.n.toNat else none
theorem frs_mapQ(pg:Nat->Pg):∀q,frs (CO pg q)=pgF pg q
 | 0=>rfl
 | q+1=>by
  have ih:=frs_mapQ pg q;rw [GN];unfold frs pgF at ih ⊢;rw [List.range_succ,List.filterMap_append,List.filterMap_append,ih];congr 1
  cases h:pg q <;> simp [h]
theorem sls_mapQ(pg:Nat->Pg):∀q,sls (CO pg q)=pgS pg q
 | 0=>rfl
 | q+1=>by
  have ih:=sls_mapQ pg q;rw [GN];unfold sls pgS at ih ⊢;rw [List.range_succ,List.filterMap_append,List.filterMap_append,ih];congr 1
  cases h:pg q <;> simp [h]
theorem mapQ_pw(pg:Nat->Pg):∀q,(CO pg q).Pairwise fun x y=>x.page<y.page
 | 0=>List.Pairwise.nil
 | q+1=>by
  rw [GN,List.pairwise_append];refine⟨mapQ_pw pg q,by cases pg q <;> simp,fun x hx y hy=>?_⟩;obtain⟨j,hj,h1⟩:=mapQ_mem hx;have hxp:x.page=(j:Int):=by rcases h1 with⟨_,_,rfl⟩|⟨_,_,rfl⟩ <;> rfl
  have hyp:y.page=(q:Int):=by
   cases h:pg q with
   | no=>rw [h] at hy;cases hy
   | fr g=>rw [h] at hy;simp at hy;rw [hy]
   | sl g=>rw [h] at hy;simp at hy;rw [hy]
  omega
theorem KZ{α:Type}{l:List α}{q:Nat}{x:α}(h:l[q]? = some x):l.take (q+1)=l.take q++[x]:=by rw [List.take_add_one,h];rfl
theorem H6{α:Type}{l:List α}{q:Nat}{x:α}(h:l[q]? = some x):l.drop q=x::l.drop (q+1):=by
 have hq:=(D5.1 h).1;rw [List.drop_eq_getElem_cons hq,(D5.1 h).2]
section
variable {w:WD}{k:Nat}{S:AL}{fp:Prt->Nat->Prop}{rt lf hc cnt tot:Nat}{pg:Nat->Pg}{pin:Nat->Bool}{A:List Nat}{hd:Option Nat}
theorem QSt.saidM(L:QSt S rt lf pg pin A hc hd cnt tot)(h:AJ w k S fp){f:Nat}{v:Int}(hm:(f,v)∈KM (zsh S.Z.c S.L S.Z.k) hd rt lf A pg):(v=1/\S.mks f=CM)\/(v=2/\S.mks f=NI 4)\/(v=3/\S.mks f=CC)\/(v=4/\∃j,S.mks f=pageM j):=by
 unfold KM at hm;simp only [List.mem_append,List.mem_cons,List.mem_map,Prod.mk.injEq] at hm;rcases hm with⟨g,hg,rfl,rfl⟩|⟨g,hg,rfl,rfl⟩|⟨rfl,rfl⟩|⟨rfl,rfl⟩|⟨g,hg,rfl,rfl⟩|⟨g,hg,rfl,rfl⟩
 ·obtain⟨y,hy,hfy⟩:=List.mem_flatMap.1 hg;obtain⟨_,_,h3⟩:=L.freeM h hy;obtain⟨i,hi,rfl⟩:=List.mem_range'.1 hfy;exact .inl ⟨rfl,h3 _ (by omega) (by omega)⟩
 ·have:hd=some g:=by cases hd <;> simp at hg;rw [hg]
  exact .inr (.inl ⟨rfl,L.mkh g this⟩)
 ·exact .inr (.inr (.inl ⟨rfl,L.mk1.1⟩))
 ·exact .inr (.inr (.inl ⟨rfl,L.mk1.2⟩))
 ·exact .inr (.inr (.inl ⟨rfl,L.mkA g hg⟩))
 ·obtain⟨j,_,hj⟩:=List.mem_filterMap.1 hg
  cases e:pg j with
  | fr f=>rw [e] at hj;cases hj;exact .inr (.inr (.inr ⟨rfl,j,L.mk2 j g e⟩))
  | no=>rw [e] at hj;cases hj
  | sl s=>rw [e] at hj;cases hj
end
section
variable {w7 W W':WD}{sbk box n:Nat}{T pre suf:List (Nat×Int)}
def Al(w7:WD)(sbk box n:Nat)(T:List (Nat×Int))(W:WD)(suf:List (Nat×Int)):Prop:=∃pre,T=pre++suf/\Sd w7 sbk box n pre W
theorem Al.k(h:Al w7 sbk box n T W suf)(kk:Kept AB W W'):Al w7 sbk box n T W' suf:=by
 obtain⟨pre,e,h⟩:=h;exact⟨pre,e,h.k kk⟩
theorem Al.kp(h:Al w7 sbk box n T W suf):Kept AB w7 W:=h.elim fun _ h=>h.2.kp
theorem Al.bk(h:Al w7 sbk box n T W suf):sbk<W.heap.size/\box<W.heap.size:=h.elim fun _ h=>⟨h.2.said.lt,h.2.bx.lt⟩
theorem Al.put(hN:(T.map Prod.fst).Nodup)(hlt:∀f,f∈T.map Prod.fst->f<n)(hn:n<=1024){f:Nat}{v:Int}(hv:0<=v/\v<=9)(h:Al w7 sbk box n T W ((f,v)::suf)) :
 Calls prog 48 #[vi f,vi v,ptr box] W fun e w'=>e=.returned (.tuple #[])/\Al w7 sbk box n T w' suf/\Kept (·=sbk) W w':=by
 obtain⟨pre,e,h⟩:=h;have hm:f∈T.map Prod.fst:=by rw [e];simp
 have hno:f∉pre.map Prod.fst:=fun hp=>by
  rw [e,FU,List.map_cons,List.nodup_append] at hN;exact hN.2.2 f hp f (by simp) rfl
 refine(said_put h (hlt f hm) hn hv hno).mono ?_;rintro e' w' ⟨rfl,h',kk⟩;exact⟨rfl,⟨_,by rw [e,List.append_assoc];rfl,h'⟩,kk⟩
end
theorem Al.fin{w7 W:WD}{sbk box n:Nat}{T:List (Nat×Int)}(h:Al w7 sbk box n T W []):Sd w7 sbk box n T W:=by
 obtain⟨pre,e,h⟩:=h;rw [List.append_nil] at e;rw [e];exact h
theorem map_len{w:WD}{b:Nat}{m:List (Int×Value)}{t ty:TypeId}(hu:prog.underlying t=some (.map (prog.mapKeyOf t) (prog.mapElemOf t)))(h:BE w b m):PD prog #[t] ty (.map (some b)) (m.length:Nat) w:=by
 obtain⟨es,c,h1,_,h3⟩:=h.ex;have hl:=h3.length_eq;rw [lmp,lmp,Array.length_toList] at hl;refine⟨?_⟩;have:=run_len_map (P:=prog) w t ty b es c hu h1;rw [this,hl]
 rfl
theorem earlier{pg:Nat->Pg}{q n:Nat}{x y:FK}(hx:(CO pg n)[q]? = some x)(hy:y∈(CO pg n).take q):y.page<x.page:=by
 obtain⟨i,hyi⟩:=List.mem_iff_getElem?.1 hy;have hi:=(D5.1 hyi).1;rw [List.length_take] at hi;rw [List.getElem?_take_of_lt (by omega)] at hyi;have hq:=(D5.1 hx).1;have hlt:=List.pairwise_iff_getElem.1 (mapQ_pw pg n) i q (by omega) hq (by omega);rw [(D5.1 hyi).2,(D5.1 hx).2] at hlt;exact hlt
def slM(M:List FK):List (Int×Value):=(sls M).map fun s:Nat=>((s:Int),vi 1)
def pgM(M:List FK):List (Int×Value):=M.map fun x=>(x.page,.bool true)
section
variable {S:AL}{rt lf hc cnt tot:Nat}{pg:Nat->Pg}{pin:Nat->Bool}{A:List Nat}{hd:Option Nat}
theorem pgM_none{q:Nat}{x:FK}(hx:(CO pg 32)[q]? = some x):(pgM ((CO pg 32).take q)).lookup x.page=none:=by
 refine F9 fun v hv=>?_;obtain⟨y,hy,he⟩:=List.mem_map.1 hv;have:=earlier hx hy;have he:y.page=x.page:=congrArg Prod.fst he;omega
theorem QSt.slM_none(L:QSt S rt lf pg pin A hc hd cnt tot){q j s:Nat}(hx:(CO pg 32)[q]? = some ⟨j,2,s⟩)(hj:pg j=.sl s):(slM ((CO pg 32).take q)).lookup (s:Int)=none:=by
 refine F9 fun v hv=>?_;obtain⟨t,ht,he⟩:=List.mem_map.1 hv;have he:(t:Int)=(s:Int):=congrArg Prod.fst he;have:t=s:=by omega
 subst this;obtain⟨y,hy,hyt⟩:=List.mem_filterMap.1 ht;have hlt:=earlier hx hy;obtain⟨i,_,h1⟩:=mapQ_mem (List.mem_of_mem_take hy);rcases h1 with⟨f,_,rfl⟩|⟨u,hu,rfl⟩
 ·simp at hyt
 ·have:u=t:=by simpa using hyt
  subst this;have:=L.slU hu hj;subst this;exact absurd hlt (by show ¬((i:Int)<(i:Int));omega)
theorem QSt.slM_some(L:QSt S rt lf pg pin A hc hd cnt tot){w:WD}{m:Nat}(M:BE w m (slM (CO pg 32))){j s:Nat}(hj:pg j=.sl s):(slM (CO pg 32)).lookup (s:Int)=some (vi 1):=by
 refine lookup_of_mem M.nd (List.mem_map.2 ⟨s,?_,rfl⟩);rw [sls_mapQ];exact pgS_mem.2 ⟨j,(L.pgs j s hj).1,hj⟩
end
end Go.Proofs.YtdgbechegbmpcaaGreatDoor
namespace Go.Proofs.YtdgbechegbmpcaaGreatDoor
open Go Go.Eng Go.Proofs.Tryz
open Go.Value (bool func)
open Option (isNone)
open Go.IntKind (wrap)
theorem vc15(w':OA)(w:WD)(K:KV)(h:Q (Wp w' (Rp w w' 0 fun x=>Calls prog 47 #[pt x] w fun(e:Ending) (i:WD)=>∃(f:Nat->Int) (a:OA) (l c:Nat) (a1:OA) (a2 c_1:Nat) (a3:OA) (a4 c_2:Nat) (a5:OA) (a6 c_3:Nat) (a7:OA) (a8 c_4:Nat) (a9:OA) (b0 c_5:Nat) (b1:OA) (b2 c_6:Nat) (b3:OA) (b4 c_7:Nat) (b5:OA) (b6 c_8:Nat) (b7:OA) (b8 c_9:Nat) (R:OA) (S c_10:Nat) (T:OA) (U c_11:Nat) (V:OA) (X c_12:Nat),e=rT (.agg (List.toArray (AK .i64 f 0 94++[sl a l c,sl a1 a2 c_1,sl a3 a4 c_2,sl a5 a6 c_3,sl a7 a8 c_4,sl a9 b0 c_5,sl b1 b2 c_6,sl b3 b4 c_7,sl b5 b6 c_8,sl b7 b8 c_9,sl R S c_10,sl T U c_11,sl V X c_12])))/\AW i (List.toArray (List.replicate 94 (vi 0)++List.replicate 13 (sl none 0 0))) 137 fun b9=>DF b9 i.heap.size 0 (AK .i64 f 0 94++[sl a l c,sl a1 a2 c_1,sl a3 a4 c_2,sl a5 a6 c_3,sl a7 a8 c_4,sl a9 b0 c_5,sl b1 b2 c_6,sl b3 b4 c_7,sl b5 b6 c_8,sl b7 b8 c_9,sl R S c_10,sl T U c_11,sl V X c_12])/\∀O,O=F0 b9 i.heap.size 0 (AK .i64 f 0 94++[sl a l c,sl a1 a2 c_1,sl a3 a4 c_2,sl a5 a6 c_3,sl a7 a8 c_4,sl a9 b0 c_5,sl b1 b2 c_6,sl b3 b4 c_7,sl b5 b6 c_8,sl b7 b8 c_9,sl R S c_10,sl T U c_11,sl V X c_12])->RS O i.heap.size 94 fun x P f2=>Wif (I6 8 (↑P:Int) (↑P:Int)) (AW O (List.toArray (List.replicate (Int.toNat (↑P:Int)) (vi 0))) 3 fun p=>AW p #[sl none 0 0] 27 fun d2=>Sw d2 p.heap.size 0 (sl (aD O.heap.size) (Int.toNat (↑P:Int)) (Int.toNat (↑P:Int))) fun c0=>RS c0 i.heap.size 95 fun x c8 f3=>∃(I:Int->WD->Nat->Prop),(∃(n:Nat),I 0 c0 n)/\∀(n:Int) (j:WD) (c9:Nat),I n j c9->Wif (decide (n<(↑c8:Int))) (Wp x (Wn n c8 (∃(Q c1:Int),(rd j (pb x) (po x+Int.toNat n*2)=some (.int .i64 Q)/\rd j (pb x) (po x+Int.toNat n*2+1)=some (.int .i64 c1))/\AW j #[vi 0,vi 0] 141 fun w'=>(wr w' j.heap.size 0/\wr w' j.heap.size 1)/\St (st w' j.heap.size 0 (vi Q)) j.heap.size 1 (vi c1) fun s=>RI s j.heap.size 0 fun x=>∃(E:Int->WD->Nat->Prop),(∃(n:Nat),E x s n)/\∀(F:Int) (w':WD) (t:Nat),E F w' t->Dr w' fun u=>RI u j.heap.size 0 fun x=>RI u j.heap.size 1 fun z=>Wif (decide (0<=z)) (Wif (decide (F<wrap .i64 (x+wrap .i64 (1*2^min (Int.toNat z) 64)))) (C0 48 #[vi F,vi 1,ptr p.heap.size] u fun w'=>Lt t fun m=>E (wrap .i64 (F+1)) w' m) (Lt c9 fun m=>I (wrap .i64 (n+1)) u m)) False))) (RS j i.heap.size 96 fun x Q c1=>∃(I:Int->WD->Nat->Prop),(∃(n:Nat),I 0 j n)/\∀(n:Int) (s:WD) (F:Nat),I n s F->Wif (decide (n<(↑Q:Int))) (Wp x (Wn n Q (Rs s x (Int.toNat n*1) fun z c2 G=>∃(E:Int->WD->Nat->Prop),(∃(n:Nat),E 0 s n)/\∀(t:Int) (w':WD) (M:Nat),E t w' M->Wif (decide (t<(↑c2:Int))) (Wp z (Wn t c2 (Ri w' z (Int.toNat t*1) fun x=>C0 48 #[vi x,vi 2,ptr p.heap.size] w' fun w'=>Lt M fun m=>E (wrap .i64 (t+1)) w' m))) (Lt F fun m=>I (wrap .i64 (n+1)) w' m)))) (Wp w' (Ri s w' 106 fun x=>Calls prog 48 #[vi x,vi 3,ptr p.heap.size] s fun(e:Ending) (c3:WD)=>e=rT (.tuple #[])/\Wp w' (Ri c3 w' 107 fun x=>Calls prog 48 #[vi x,vi 3,ptr p.heap.size] c3 fun(e:Ending) (a0:WD)=>e=rT (.tuple #[])/\Wp w' (Rs a0 w' 108 fun x z c2=>∃(I:Int->WD->Nat->Prop),(∃(n:Nat),I 0 a0 n)/\∀(n:Int) (B:WD) (t:Nat),I n B t->Wif (decide (n<(↑z:Int))) (Wp x (Wn n z (Ri B x (Int.toNat n*1) fun G=>C0 48 #[vi G,vi 3,ptr p.heap.size] B fun w'=>Lt t fun m=>I (wrap .i64 (n+1)) w' m))) (Dr B fun u=>RS u i.heap.size 99 fun x G d8=>∃(x:OA) (c4 d3:Nat),(((↑G:Int)!=1)=false->rd u i.heap.size 98=some (.slice x c4 d3))/\gIf (isP w') (((↑G:Int)!=1)=false) (∃(x:Int),(((↑G:Int)!=1)=false->rd u (pb w') (po w'+3)=some (.int .i64 x))/\Wif ((↑G:Int)!=1||(↑c4:Int)!=x) (K (.bool false) u) (∀C,C=u.alloc (.map #[] 0)->∀D,D=C.alloc (.map #[] 0)->RS D i.heap.size 99 fun x d4 d9=>Wp x (Wn 0 d4 (Rs D x 3 fun y c5 f0=>∃(I:Bool->Int->WD->Nat->Prop),(∃(n:Nat),I false 0 D n)/\∀(b:Bool) (n:Int) (g:WD) (M:Nat),I b n g M->Wif (decide (n<(↑c5:Int))) (Wp y (Wn n c5 (∃(x H Y:Int),(rd g (pb y) (po y+Int.toNat n*3)=some (.int .i64 x)/\rd g (pb y) (po y+Int.toNat n*3+1)=some (.int .u8 H)/\rd g (pb y) (po y+Int.toNat n*3+2)=some (.int .i64 Y))/\AW g #[vi 0,vu 0,vi 0] 149 fun w'=>(wr w' g.heap.size 0/\wr w' g.heap.size 1/\wr w' g.heap.size 2)/\St (st (st w' g.heap.size 0 (vi x)) g.heap.size 1 (vu H)) g.heap.size 2 (vi Y) fun k=>RI k g.heap.size 0 fun x=>∃(w':WD),EA prog 142 (Value.map (some C.heap.size)) (vi x) (bool true) k w'/\R8 w' g.heap.size 1 fun x=>Wif (x==1) (RI w' g.heap.size 2 fun x=>C0 48 #[vi x,vi 4,ptr p.heap.size] w' fun w'=>Lt M fun m=>I b (wrap .i64 (n+1)) w' m) (Wif (x==2) (RI w' g.heap.size 2 fun x=>∃(q:Int),E5 prog 90 (Value.map (some u.heap.size)) (vi x) false (vi q) w'/\∃(d:WD),EA prog 90 (Value.map (some u.heap.size)) (vi x) (vi (wrap .i64 (q+1))) w' d/\Lt M fun m=>I b (wrap .i64 (n+1)) d m) (K (.bool false) w'))))) (RS g i.heap.size 98 fun x H Y=>∃(I:Int->WD->Nat->Prop),(∃(n:Nat),I 0 g n)/\∀(n:Int) (k:WD) (c6:Nat),I n k c6->Wif (decide (n<(↑H:Int))) (Wp x (Wn n H (Ri k x (Int.toNat n*1) fun q=>Wif (decide (q>=0)) (∃(x:Int),E5 prog 90 (Value.map (some u.heap.size)) (vi q) false (vi x) k/\∃(w':WD),EA prog 90 (Value.map (some u.heap.size)) (vi q) (vi (wrap .i64 (x+1))) k w'/\Lt c6 fun m=>I (wrap .i64 (n+1)) w' m) (Lt c6 fun m=>I (wrap .i64 (n+1)) k m)))) (RS k i.heap.size 102 fun x q f1=>∃(I:Bool->Int->WD->Nat->Prop),(∃(n:Nat),I b 0 k n)/\∀(b:Bool) (n:Int) (d:WD) (d0:Nat),I b n d d0->Wif (decide (n<(↑q:Int))) (Wp x (Wn n q (∃(J Z r:Int),(rd d (pb x) (po x+Int.toNat n*3)=some (.int .i64 J)/\rd d (pb x) (po x+Int.toNat n*3+1)=some (.int .i64 Z)/\rd d (pb x) (po x+Int.toNat n*3+2)=some (.int .i64 r))/\AW d #[vi 0,vi 0,vi 0] 151 fun w'=>(wr w' d.heap.size 0/\wr w' d.heap.size 1/\wr w' d.heap.size 2)/\St (st (st w' d.heap.size 0 (vi J)) d.heap.size 1 (vi Z)) d.heap.size 2 (vi r) fun h=>RI h d.heap.size 0 fun x=>∃(o:Int),E5 prog 90 (Value.map (some u.heap.size)) (vi x) false (vi o) h/\∃(x:Int),((o != 1)=false->rd h d.heap.size 1=some (.int .i64 x))/\Wif (o != 1||x != 1) (K (.bool false) h) (Lt d0 fun m=>I b (wrap .i64 (n+1)) h m)))) (RS d p.heap.size 0 fun x J Z=>∃(I:Bool->Int->WD->Nat->Prop),(∃(n:Nat),I b 0 d n)/\∀(b:Bool) (n:Int) (h:WD) (d1:Nat),I b n h d1->Wif (decide (n<(↑J:Int))) (Wp x (Wn n J (Ri h x (Int.toNat n*1) fun r=>RS h i.heap.size 94 fun x o d5=>Wp x (Wn n o (Re h x (Int.toNat n*5) fun A=>Wif (decide (r<1)||decide (r>4)||!(r==1)==(A==1)||!(r==3)==(A==3)||r==4&&A != 4) (K (.bool false) h) (Lt d1 fun m=>I b (wrap .i64 (n+1)) h m)))))) (Dr h fun L=>∃(x:Int),PD prog #[90] 3 (Value.map (some u.heap.size)) x L/\RS L i.heap.size 102 fun r o d5=>∃(A:Int),((x==(↑o:Int))=true->PD prog #[142] 3 (Value.map (some C.heap.size)) A L)/\gIf (isP w') ((x==(↑o:Int))=true) (∃(d6:OA) (c7 d7:Nat),((x==(↑o:Int))=true->rd L (pb w') (po w'+96)=some (.slice d6 c7 d7))/\K (.bool (x==(↑o:Int)&&A==(↑c7:Int))) L)))))))))))))))) False))):Ret 15 #[pt w'] w K:=vcA L7 2 [] func15 h
theorem vc25(w':OA)(w:WD)(K:KV)(h:Q (Wp w' (Rs w w' 96 fun x B C=>∃(I:Bool->Int->WD->Nat->Prop),(∃(n:Nat),I false 0 w n)/\∀(b:Bool) (n:Int) (t:WD) (z:Nat),I b n t z->Wif (decide (n<(↑B:Int))) (Wp x (Wn n B (Ri t x (Int.toNat n*1) fun s=>∃(A:OA->Int->WD->Prop),(Dr t fun i=>Wp w' (Rp i w' 0 fun x=>Wp x (Rp i x 94 fun q=>Wp w' (Ri i w' 106 fun j=>(Calls prog 16 #[pt q,vi j,vi s] i fun e w'=>∃(n k f:Int),e=rT (.tuple #[Value.agg #[vu n,vi k],vi f])/\AW w' #[vu 0,vi 0] 69 fun d=>(wr d w'.heap.size 0/\wr d w'.heap.size 1)/\St (st d w'.heap.size 0 (vu n)) w'.heap.size 1 (vi k) fun g=>A (aD w'.heap.size) f g)/\AW i #[vu 0,vi 0] 69 fun d=>Rt d (pb w') (po w'+106) (.int .i64 j)<|Rt d (pb x) (po x+94) (.pointer q)<|Rt d (pb w') (po w') (.pointer x)<|Calls prog 16 #[pt q,vi j,vi s] d fun e w'=>∃(n k f:Int),e=rT (.tuple #[Value.agg #[vu n,vi k],vi f])/\(wr w' i.heap.size 0/\wr w' i.heap.size 1)/\St (st w' i.heap.size 0 (vu n)) i.heap.size 1 (vi k) fun g=>A (aD i.heap.size) f g))))/\∀(p:OA) (k:Int) (d:WD),A p k d->Wif (k != 0) (K (.bool false) d) (Wp p (Re d p 0 fun x=>Wif (x==1) (Dr d fun i=>Wp w' (Rp i w' 0 fun x=>Wp x (Rp i x 94 fun q=>Wp p (Ri i p 1 fun x=>Calls prog 23 #[pt q,vi x,vi 0,vi 256] i fun(e:Ending) (g:WD)=>∃(a:OA) (l c:Nat) (f:Int),e=rT (.tuple #[sl a l c,vi f])/\gIf (isP w') ((f != 0||(↑l:Int)!=256)=false) (∃(x:OA) (j u:Nat),((f != 0||(↑l:Int)!=256)=false->rd g (pb w') (po w'+97)=some (.slice x j u))/\Wif (f != 0||(↑l:Int)!=256) (K (.bool false) g) (CB 17 #[sl x j u,vi s] g fun o w'=>gIf (isP p) (o=true) (∃(x:Int),(o=true->rd w' (pb p) (po p)=some (.int .u8 x))/\Wif (o&&x != 1) (K (.bool false) w') (∃(r:Bool->Int->WD->Nat->Prop),(∃(n:Nat),r b 0 w' n)/\∀(b:Bool) (h:Int) (w':WD) (y:Nat),r b h w' y->Wif (decide (h<(↑l:Int))) (Wp a (Wn h l (Re w' a (Int.toNat h*1) fun x=>Wif (x != wrap .u8 (wrap .i64 (s+h))) (K (.bool false) w') (Lt y fun m=>r b (wrap .i64 (h+1)) w' m)))) (Lt z fun m=>I b (wrap .i64 (n+1)) w' m))))))))) (Wif (x==2) (Dr d fun i=>Wp w' (Rp i w' 0 fun x=>Wp x (Rp i x 96 fun q=>Wp p (Ri i p 1 fun x=>Calls prog 59 #[pt q,vi x,bool false] i fun(e:Ending) (g:WD)=>∃(a:OA) (l c:Nat) (f:Int),e=rT (.tuple #[sl a l c,vi f])/\gIf (isP w') ((f != 0||(↑l:Int)!=256)=false) (∃(x:OA) (j u:Nat),((f != 0||(↑l:Int)!=256)=false->rd g (pb w') (po w'+97)=some (.slice x j u))/\Wif (f != 0||(↑l:Int)!=256) (K (.bool false) g) (CB 17 #[sl x j u,vi s] g fun o w'=>gIf (isP p) (o=true) (∃(x:Int),(o=true->rd w' (pb p) (po p)=some (.int .u8 x))/\Wif (o&&x != 1) (K (.bool false) w') (∃(r:Bool->Int->WD->Nat->Prop),(∃(n:Nat),r b 0 w' n)/\∀(b:Bool) (h:Int) (w':WD) (y:Nat),r b h w' y->Wif (decide (h<(↑l:Int))) (Wp a (Wn h l (Re w' a (Int.toNat h*1) fun x=>Wif (x != wrap .u8 (wrap .i64 (s+h))) (K (.bool false) w') (Lt y fun m=>r b (wrap .i64 (h+1)) w' m)))) (Lt z fun m=>I b (wrap .i64 (n+1)) w' m))))))))) (gIf (isP w') ((k != 0||true)=false) (∃(x:OA) (q j:Nat),((k != 0||true)=false->rd d (pb w') (po w'+97)=some (.slice x q j))/\Wif (k != 0||true) (K (.bool false) d) (CB 17 #[sl x q j,vi s] d fun o w'=>gIf (isP p) (o=true) (∃(x:Int),(o=true->rd w' (pb p) (po p)=some (.int .u8 x))/\Wif (o&&x != 1) (K (.bool false) w') (∃(r:Bool->Int->WD->Nat->Prop),(∃(n:Nat),r b 0 w' n)/\∀(b:Bool) (f:Int) (w':WD) (h:Nat),r b f w' h->Wif (decide (f<0)) False (Lt z fun m=>I b (wrap .i64 (n+1)) w' m)))))))))))) (K (.bool true) t)))):Ret 25 #[pt w'] w K:=vcA L7 2 [4000004,100400051,100400060] func25 h
end Go.Proofs.YtdgbechegbmpcaaGreatDoor
namespace Go.Proofs.YtdgbechegbmpcaaGreatDoor
open Go Go.Eng Go.Proofs.Tryz
theorem range_get'{α:Type}{n i:Nat}{f:Nat->α}(hi:i<n):((List.range n).map f)[i]? = some (f i):=by rw [gmp,List.getElem?_range hi];rfl
theorem st3'{w w':WD}{b:Nat}{cs:List Value}{v0 v1 v2:Value}(h:own w b cs)(hl:cs.length=3)(e:w'=st (st (st w b 0 v0) b 1 v1) b 2 v2):own w' b [v0,v1,v2]/\Kept (·=b) w w':=by
 subst e
 match cs,hl with
 | [a,c,d],_=>exact⟨h.BL.BL.BL,(((Kept.refl (·=b) w).st (.inl rfl)).st (.inl rfl)).st (.inl rfl)⟩
structure RecV(W:WD)(b k:Nat)(AO:Int)(pa:OA)(pl pc:Nat)(rt lf:Nat)(ta:OA)(tl tc:Nat)(A:List Nat):Prop where
 r0:rd W b 0=some (ptr k)
 r3:rd W b 3=some (vi AO)
 r96:rd W b 96=some (.slice pa pl pc)
 r106:rd W b 106=some (vi rt)
 r107:rd W b 107=some (vi lf)
 r108:rd W b 108=some (.slice ta tl tc)
 row:EK W ta tl tc (A.map fun x:Nat=>(x:Int))
theorem RecV.k{W W':WD}{b k:Nat}{AO:Int}{pa:OA}{pl pc rt lf:Nat}{ta:OA}{tl tc:Nat}{A:List Nat}(h:RecV W b k AO pa pl pc rt lf ta tl tc A)(kk:Kept AB W W'):RecV W' b k AO pa pl pc rt lf ta tl tc A:=
 ⟨kk.rd_some h.r0 id,kk.rd_some h.r3 id,kk.rd_some h.r96 id,kk.rd_some h.r106 id,kk.rd_some h.r107 id,kk.rd_some h.r108 id,h.row.k kk⟩
set_option maxHeartbeats 8000000 in
theorem sound_spec{w:WD}{b k:Nat}{S:AL}{fp:Prt->Nat->Prop}{rt lf hcu cnt tot:Nat}{pg:Nat->Pg}{pin:Nat->Bool}{A:List Nat}{hd:Option Nat}{pa:OA}{pc:Nat}{ta:OA}{tl tc:Nat}(TR:GF w)(h:AJ w k S fp)(hcc:hcu<S.AO)(L:QSt S rt lf pg pin A hcu hd cnt tot)(hsup:(CO pg 32).length=tot)(R:RecV w b k S.AO pa tot pc rt lf ta tl tc A) :
 Calls prog 15 #[ptr b] w fun e w'=>e=.returned (.bool true)/\Kept AB w w':=by
 refine(vc15 (some ⟨b,0,none⟩) w (fun v w'=>v=.bool true/\Kept AB w w') ?_).mono ?_
 rotate_left
 ·rintro e w' ⟨v,rfl,rfl,h⟩;exact⟨rfl,h⟩
 have hs:=h.BO;have hn:=h.n4;have hcnt:=L.cnt32;have z0:∀{W:WD}{x j:Nat}{v:Value},rd W x j=some v->rd W x (0+j)=some v:=fun e=>by rw [za];exact e
 unfold Q;refine AA rfl ⟨_,R.r0,(picture_spec h (procC_of TR h L.by') (fun i hi=>by have:=L.held1 i hi;omega) (fun i hi=>by have:=L.O5 hi;omega) (by rw [L.fli,List.length_replicate];omega)).mono ?_⟩;rintro _ w5 ⟨PS,rfl,k5,A5⟩;refine⟨_,_,_,_,_,_,_,_,_,_,_,_,_,_,_,_,_,_,_,_,_,_,_,_,_,_,_,_,_,_,_,_,_,_,_,_,_,_,_,_,rfl,fun w6 e6=>?_⟩;have o6:=AD e6;have k6:=kal e6;refine⟨o6.DF 0 (by simp [AI]),fun w7 e7=>?_⟩;obtain⟨o7,k7'⟩:=EZ o6 e7 (by simp [AI]);have k7:Kept AB w5 w7:=BD k6 k7' fun x e=>Nat.le_of_eq e.symm;have P7:=(A5.now).k k7;have K7:Kept AB w w7:=k5.tr k7;clear e6 e7 k6 k7' o6 A5
 try dsimp only
 generalize w5.heap.size=br at *;have rb:∀{W:WD},Kept AB w7 W->∀{j:Nat}{v:Value},(sl13 PS)[j]? = some v->rd W br (94+j)=some v:=fun kk j v hv=>by
  rw [(o7.k kk).rd,gar (by rw [AI];omega),AI,Nat.add_sub_cancel_left];exact hv
 have ep:(P6 S (F7 S)).procs=[F7 S 1]:=L.procs;have ef:(P6 S (F7 S)).free=(zsh S.Z.c S.L S.Z.k).map intP:=rfl;have em:(P6 S (F7 S)).marks=(List.range S.n).map S.mks:=rfl;have eh:(P6 S (F7 S)).held=(List.range S.AO).map S.held:=rfl;have efl:(P6 S (F7 S)).flight=S.fli:=rfl;have esl:(P6 S (F7 S)).AP=owns S.AP S.sof:=rfl;have l0:PS.l 0=S.n:=by rw [P7.marks.len,em,lmp,List.length_range]
 have l2:PS.l 2=S.AO:=by rw [P7.held.len,eh,lmp,List.length_range]
 have l4:PS.l 4=S.AO:=by rw [P7.flight.len,efl,L.fli,List.length_replicate]
 have l5:PS.l 5=1:=by rw [P7.procs.len,ep];rfl
 have l8:PS.l 8=(owns S.AP S.sof).length:=by rw [P7.AP.len,esl]
 obtain⟨hN,hcov,hlt⟩:=L.said h;have R7:=R.k K7;refine⟨_,_,_,rb (Kept.refl AB w7) (j:=0) rfl,AA FH fun w8 e8 w9 e9=>?_⟩;rw [l0,tnc] at e8;have o8:own w8 w7.heap.size (List.replicate S.n (vi 0)):=AD e8;have o9:=AD e9;have k8:=kal e8;have k9:=kal e9;have s8:=o8.lt;refine⟨o9.wr (by decide),fun w10 e10=>?_⟩;rw [l0,tnc] at e10;have o10:own w10 w8.heap.size [.slice (some ⟨w7.heap.size,0,none⟩) S.n S.n]:=o9.s1 e10;have k10':Kept (·=w8.heap.size) w9 w10:=kr.s1 e10 (.inl rfl);have os:own w10 w7.heap.size (AK .i64 (sd []) 0 S.n):=by
  have:=(o8.k k9).kx k10' (show ¬w7.heap.size=w8.heap.size by omega);rw [JI] at this;exact this
 have k10:Kept AB w7 w10:=BD (k8.tr k9) k10' fun x e=>by omega
 have hbox:=o10.lt;generalize hT:KM (zsh S.Z.c S.L S.Z.k) hd rt lf A pg=T at *;have Al10:Al w7 w7.heap.size w8.heap.size S.n T w10 T:=⟨[],rfl,k10,os,o10,nlr _,by omega⟩;clear e8 e9 e10 o8 o9 k8 k9 k10' os k10 o10
 try dsimp only
 generalize hsb:w7.heap.size=sbk at *;generalize hbb:w8.heap.size=box at *;have put:=fun {f:Nat}{v:Int}{W:WD}{suf:List (Nat×Int)} (hv:0<=v/\v<=9) (h:Al w7 sbk box S.n T W ((f,v)::suf))=>h.put hN hlt hn.2.2 hv;generalize hZ:zsh S.Z.c S.L S.Z.k=Z at *;have l1:PS.l 1=Z.length:=by rw [P7.free.len,ef,lmp]
 have hfm:∀y,y∈Z->y.2<=10/\y.1+2^y.2<=S.n:=fun y hy=>by
  obtain⟨a1,a2,_⟩:=L.freeM h (y:=y) (by rw [hZ];exact hy);exact⟨a1,a2⟩
 generalize hr1:(hd.toList.map (fun f=>(f,(2:Int)))++((rt,3)::(lf,3)::(A.map (fun f=>(f,3))++(pgF pg 32).map fun f=>(f,4))))=rest1;have hT1:T=(IN Z).map (fun f=>(f,1))++rest1:=by rw [<- hT,<- hr1];rfl
 have hZl:Z.length<=1024:=by
  have h1:(IN Z).length<=T.length:=by rw [hT1,lap,lmp];omega
  have h2:T.length=S.n:=by
   have:=congrArg List.length (rfl:T.map Prod.fst=T.map Prod.fst);have h3:∀l:List Nat,l.Nodup->(∀f∈l,f<S.n)->l.length<=S.n:=fun l nd hl=>by
    have h4:=nd.length_le_of_subset (l₂:=List.range S.n) fun f hf=>List.mem_range.2 (hl f hf);simpa using h4
   have h5:=h3 _ hN hlt;have h6:=OK S.n _ hcov;rw [lmp] at h5 h6;omega
  rw [flatB_len] at h1;have h3:∀l:List (Nat×Nat),l.length<=(l.map fun y=>2^y.2).sum:=fun l=>by
   induction l with
   | nil=>exact nlr _
   | cons y l ih=>
    have:=p2 y.2;simp only [List.length_cons,List.map_cons,List.sum_cons];omega
  have:=h3 Z;omega
 refine⟨_,_,_,rb Al10.kp (j:=1) rfl,fun t W N=>∃q:Nat,t=q/\q<=Z.length/\N=Z.length-q/\Al w7 sbk box S.n T W ((IN (Z.drop q)).map (fun f=>(f,1))++rest1),⟨_,0,rfl,Nat.zero_le _,rfl,by rw [List.drop_zero,<- hT1];exact Al10⟩,?_⟩;rintro _ w12 _ ⟨q,rfl,hq,rfl,A12⟩;have P12:=P7.k A12.kp;refine AE (fun hc=>?_) (fun hc=>?_)
 ·have hqz:q<Z.length:=by simp [l1] at hc;omega
  obtain⟨y,hy⟩:∃y,Z[q]? = some y:=⟨_,geg hqz⟩;obtain⟨g1,g2⟩:=hfm y (mog hy);obtain⟨cs,_,hR,hr⟩:=P12.free.el q (intP y) (by rw [ef,gmp,hy];rfl);obtain rfl:cs=[vi (y.1:Int),vi (y.2:Int)]:=hR;rw [H6 hy,show IN (y::Z.drop (q+1))=List.range' y.1 (2^y.2)++IN (Z.drop (q+1)) from List.flatMap_cons,FU,List.append_assoc] at A12;refine AA (P12.free.isp (by omega)) (Wi ⟨(y.1:Int),(y.2:Int),by rw [tnc];exact⟨hr 0 _ rfl,hr 1 _ rfl⟩,fun w13 e13=>?_⟩);have o13:=AD e13;have k13:=kal e13;refine⟨wr2 o13,fun w14 e14=>?_⟩;obtain⟨o14,k14'⟩:=IY o13 e14;have k14:Kept AB w12 w14:=BD k13 k14' fun x e=>by omega
  have hbk:=A12.bk
  try dsimp only
  generalize hY:w12.heap.size=Y at *;have A14:=A12.k k14;have hsh:IntKind.wrap .i64 (1*2^min (Int.toNat (y.2:Int)) 64)=((2^y.2:Nat):Int):=shl1 g1;have h10:2^y.2<=1024:=pow10 g1;generalize 2^y.2=M at *;refine⟨_,(rd2 o14).1,fun t W N=>∃j:Nat,t=((y.1+j:Nat):Int)/\j<=M/\N=M-j/\own W Y [vi y.1,vi y.2]/\Al w7 sbk box S.n T W ((List.range' (y.1+j) (M-j)).map (fun f=>(f,1))++((IN (Z.drop (q+1))).map (fun f=>(f,1))++rest1)),⟨M,0,rfl,Nat.zero_le _,rfl,o14,A14⟩,?_⟩;rintro _ w15 _ ⟨j,rfl,hj,rfl,o15,A15⟩;intro w16 e16;have k16:=kdr e16;have o16:=o15.k k16;have A16:=A15.k k16;refine⟨_,(rd2 o16).1,_,(rd2 o16).2,AA (by simp) ?_⟩;rw [hsh,wi (x:=(y.1:Int)+(M:Int)) (by omega)];refine AE (fun hc2=>?_) (fun hc2=>?_)
  ·have hjl:j<M:=by rw [decide_eq_true_eq] at hc2;omega
   rw [show M-j=(M-(j+1))+1 by omega,List.range'_succ,List.map_cons,List.cons_append] at A16;refine(put (by decide) A16).mono ?_;rintro _ w17 ⟨rfl,A17,k17⟩;refine⟨rfl,M-(j+1),by omega,j+1,by rw [wi (by omega)];omega,hjl,rfl,o16.kx k17 (by omega),by rw [<- Nat.add_assoc];exact A17⟩
  ·have:j=M:=by rw [decide_eq_false_iff_not] at hc2;omega
   subst this;refine⟨Z.length-(q+1),by omega,q+1,wzz,hqz,rfl,?_⟩;rw [Nat.sub_self] at A16;exact A16
 have hqe:q=Z.length:=by simp [l1] at hc;omega
 subst hqe;rw [List.drop_length] at A12;have A12:Al w7 sbk box S.n T w12 rest1:=A12;clear hc hq P12;generalize hr2:((rt,(3:Int))::(lf,3)::(A.map (fun f=>(f,3))++(pgF pg 32).map fun f=>(f,4)))=rest2 at hr1;have hhel:∀q,S.held q=(if q=hcu then hd.toList else []).map fun f:Nat=>(f:Int):=fun q=>by
  rw [L.held];by_cases e:q=hcu
  ·subst e;rw [upd_same,if_pos rfl]
  ·rw [AH _ _ e,if_neg e];rfl
 refine⟨_,_,_,rb A12.kp (j:=2) rfl,fun t W N=>∃q:Nat,t=q/\q<=S.AO/\N=S.AO-q/\Al w7 sbk box S.n T W (((if q<=hcu then hd.toList else []).map fun f=>(f,2))++rest2),⟨_,0,rfl,Nat.zero_le _,rfl,by rw [if_pos (Nat.zero_le _),hr1];exact A12⟩,?_⟩;rintro _ w13 _ ⟨q,rfl,hq,rfl,A13⟩;have P13:=P7.k A13.kp;refine AE (fun hc=>?_) (fun hc=>?_)
 ·have hqc:q<S.AO:=by simp [l2] at hc;omega
  obtain⟨ha,hl,hcp,SL,hrb⟩:=P7.held.sl (i:=q) (x:=S.held q) (by rw [eh];exact range_get' hqc);rw [hhel q] at SL;have A13':Al w7 sbk box S.n T w13 (((if q=hcu then hd.toList else []).map fun f=>(f,2))++(((if q<hcu then hd.toList else []).map fun f=>(f,(2:Int)))++rest2)):=by
   rw [<- List.append_assoc,<- FU];have e:(if q=hcu then hd.toList else [])++(if q<hcu then hd.toList else [])=if q<=hcu then hd.toList else []:=by
    by_cases e1:q=hcu
    ·subst e1;simp
    ·by_cases e2:q<hcu
     ·rw [if_neg e1,if_pos e2,if_pos (by omega)];rfl
     ·rw [if_neg e1,if_neg e2,if_neg (by omega)];rfl
   rw [e];exact A13
  generalize hr3:((if q<hcu then hd.toList else []).map fun f=>(f,(2:Int)))++rest2=rest3 at *;generalize hxs:(if q=hcu then hd.toList else [])=xs at *;have hlx:hl=xs.length:=by rw [SL.len,lmp]
  have hx1:xs.length<=1:=by
   rw [<- hxs];by_cases e:q=hcu
   ·rw [if_pos e];cases hd <;> simp
   ·rw [if_neg e];simp
  refine AA (P13.held.isp (by omega)) (Wi ⟨ha,hl,hcp,A13.kp.rd_some hrb id,fun t W N=>∃j:Nat,t=j/\j<=xs.length/\N=xs.length-j/\Al w7 sbk box S.n T W ((xs.drop j).map (fun f=>(f,2))++rest3),⟨_,0,rfl,Nat.zero_le _,rfl,by rw [List.drop_zero];exact A13'⟩,?_⟩);rintro _ w14 _ ⟨j,rfl,hj,rfl,A14⟩;have SL2:=SL.k HA.E9 A14.kp;refine AE (fun hc2=>?_) (fun hc2=>?_)
  ·have hjl:j<xs.length:=by simp at hc2;omega
   obtain⟨f,hf⟩:∃f,xs[j]? = some f:=⟨_,geg hjl⟩;rw [H6 hf,List.map_cons,List.cons_append] at A14;refine AA (SL2.isp (by omega)) (Wi ⟨(f:Int),SL2.int (x:=(f:Int)) (by rw [gmp,hf];rfl),(put (by decide) A14).mono ?_⟩);rintro _ w15 ⟨rfl,A15,_⟩;exact⟨rfl,xs.length-(j+1),by omega,j+1,wzz,hjl,rfl,A15⟩
  ·have:j=xs.length:=by simp at hc2;omega
   subst this;rw [List.drop_length] at A14;refine⟨S.AO-(q+1),by omega,q+1,wzz,hqc,rfl,?_⟩;rw [<- hr3] at A14;by_cases e:q<hcu
   ·rw [if_pos (by omega)];rw [if_pos e] at A14;exact A14
   ·rw [if_neg (by omega)];rw [if_neg e] at A14;exact A14
 have hqe:q=S.AO:=by simp [l2] at hc;omega
 subst hqe;rw [if_neg (by omega)] at A13;have A13:Al w7 sbk box S.n T w13 rest2:=A13;clear hc hq P13;generalize hr3:(A.map (fun f=>(f,(3:Int)))++(pgF pg 32).map fun f=>(f,4))=rest3 at hr2;rw [<- hr2] at A13;have Rk:=fun {W:WD} (h:Kept AB w7 W)=>R7.k h;refine AA rfl ⟨(rt:Int),z0 (Rk A13.kp).r106,(put (by decide) A13).mono ?_⟩;rintro _ w14 ⟨rfl,A14,_⟩;refine⟨rfl,AA rfl ⟨(lf:Int),z0 (Rk A14.kp).r107,(put (by decide) A14).mono ?_⟩⟩;rintro _ w15 ⟨rfl,A15,_⟩;have hAl:tl=A.length:=by rw [R.row.len,lmp]
 have hAn:A.length<=2000:=by
  have:=L.cf;omega
 generalize hr4:(pgF pg 32).map (fun f=>(f,(4:Int)))=rest4 at hr3;rw [<- hr3] at A15;refine⟨rfl,AA rfl ⟨ta,tl,tc,z0 (Rk A15.kp).r108,fun t W N=>∃q:Nat,t=q/\q<=A.length/\N=A.length-q/\Al w7 sbk box S.n T W ((A.drop q).map (fun f=>(f,3))++rest4),⟨_,0,rfl,Nat.zero_le _,rfl,by rw [List.drop_zero];exact A15⟩,?_⟩⟩;rintro _ w16 _ ⟨q,rfl,hq,rfl,A16⟩;refine AE (fun hc=>?_) (fun hc=>?_)
 ·have hqa:q<A.length:=by simp at hc;omega
  obtain⟨f,hf⟩:∃f,A[q]? = some f:=⟨_,geg hqa⟩;rw [H6 hf,List.map_cons,List.cons_append] at A16;obtain⟨ip,hrd⟩:=(Rk A16.kp).row.rd (i:=q) (x:=(f:Int)) (by rw [gmp,hf];rfl);refine AA ip (Wi ⟨(f:Int),hrd,(put (by decide) A16).mono ?_⟩);rintro _ w17 ⟨rfl,A17,_⟩;exact⟨rfl,A.length-(q+1),by omega,q+1,wzz,hqa,rfl,A17⟩
 have hqe:q=A.length:=by simp at hc;omega
 subst hqe;rw [List.drop_length] at A16;have A16:Al w7 sbk box S.n T w16 rest4:=A16;clear hc hq;intro w17 e17;have A17:=A16.k (kr.dr e17);have P17:=P7.k A17.kp;refine⟨_,_,_,rb A17.kp (j:=5) rfl,_,_,_,(fun _=>rb A17.kp (j:=4) rfl),AF (fun _=>rfl) ⟨(S.AO:Int),(fun _=>z0 (Rk A17.kp).r3),AG (by rw [l5,l4];simp) fun w18 e18 w19 e19=>?_⟩⟩;have m18:BE w18 w17.heap.size []:=J5 e18;have k18:Kept AB w17 w18:=e18▸kr.allocMap _ _;have m19:BE w19 w18.heap.size []:=J5 e19;have k19:Kept AB w18 w19:=e19▸kr.allocMap _ _;have hm1:=m18.lt;have hm2:=m19.lt;have m18':=m18.k k19;have A19:=A17.k (k18.tr k19);obtain⟨sb17,bx17⟩:=A17.bk;clear e17 e18 e19 m18
 try dsimp only
 generalize hmm1:w17.heap.size=m1 at *;generalize hmm2:w18.heap.size=m2 at *;obtain⟨cs,_,hR,hel⟩:=P7.procs.el 0 (F7 S 1) (by rw [ep];rfl);obtain⟨a1,p1,c1,a2,p2',c2,a3,p3,c3,a4,p4,c4,rfl,_,SP,_⟩:=hR;have SP7:SlR KF 3 w7 a2 p2' c2 (CO pg 32):=by have:=SP;rw [show(F7 S 1).pages=CO pg 32 from L.pages h] at this;exact this
 have lp:p2'=(CO pg 32).length:=SP7.len;have hMl:(CO pg 32).length<=32:=by
  exact Nat.le_trans (List.length_filterMap_le _ _) (by simp)
 have P19:=P7.k A19.kp;refine⟨_,_,_,rb A19.kp (j:=5) rfl,AA (P19.procs.isp (by omega)) (Wi ⟨a2,p2',c2,A19.kp.rd_some (hel 3 _ rfl) id,?_⟩)⟩;refine⟨fun bb t W N=>bb=false/\∃q:Nat,t=q/\q<=(CO pg 32).length/\N=(CO pg 32).length-q/\Al w7 sbk box S.n T W ((frs ((CO pg 32).drop q)).map (fun f=>(f,4)))/\BE W m1 (slM ((CO pg 32).take q))/\BE W m2 (pgM ((CO pg 32).take q)),⟨_,rfl,0,rfl,Nat.zero_le _,rfl,by rw [List.drop_zero,frs_mapQ,hr4];exact A19,m18',m19⟩,?_⟩;rintro _ _ w20 _ ⟨rfl,q,rfl,hq,rfl,A20,M1,M2⟩;refine AE (fun hc=>?_) (fun hc=>?_)
 ·have hql:q<(CO pg 32).length:=by simp [lp] at hc;omega
  obtain⟨x,hx⟩:∃x,(CO pg 32)[q]? = some x:=⟨_,geg hql⟩;obtain⟨j,hj,hcase⟩:=mapQ_mem (mog hx);have hxp:x.page=(j:Int):=by rcases hcase with⟨_,_,rfl⟩|⟨_,_,rfl⟩ <;> rfl
  have hnone:=pgM_none hx;have SPx:=SP7.k KF.E9 A20.kp;obtain⟨cs,_,hR,hr⟩:=SPx.el q _ hx;obtain rfl:cs=[vi x.page,.int .u8 x.kind,vi x.n]:=hR;refine AA (SPx.isp (by omega)) (Wi ⟨x.page,x.kind,x.n,?_,fun w21 e21=>?_⟩)
  ·rw [tnc];exact⟨hr 0 _ rfl,hr 1 _ rfl,hr 2 _ rfl⟩
  have o21:=AD e21;have k21:=kal e21;refine⟨⟨o21.wr (by show 0<3;decide),o21.wr (by show 1<3;decide),o21.wr (by show 2<3;decide)⟩,fun w22 e22=>?_⟩;obtain⟨o22,k22'⟩:=st3' o21 rfl e22;have k22:Kept AB w20 w22:=BD k21 k22' fun x e=>by omega
  have lm1:=M1.lt;have lm2:=M2.lt;have M1':=M1.k k22;have M2':=M2.k k22;obtain⟨sb20,bx20⟩:=A20.bk;have A22:=A20.k k22;clear e21 e22 k22' o21
  try dsimp only
  generalize hY:w20.heap.size=Y at *;refine⟨x.page,by rw [o22.rd];rfl,?_⟩;obtain⟨w23,hu,M23,k23⟩:=MG (P:=prog) (mt:=142) (kt:=3) underlying142 underlying3 M2' x.page (.bool true) (by omega) hnone;have o23:=o22.kx k23 (show ¬Y=m2 by omega);have M1'':=M1'.kx k23 (show ¬m1=m2 by omega);have A23:Al w7 sbk box S.n T w23 ((frs ((CO pg 32).drop q)).map (fun f=>(f,4))):=by
   obtain⟨pre,e,h1⟩:=A22;exact⟨pre,e,BD h1.kp k23 (fun x e=>by rw [e];have:=k18.sz;have:=A17.kp.sz;omega),h1.said.kx k23 (by omega),h1.bx.kx k23 (by omega),h1.lo,h1.ne⟩
  have hM2:pgM ((CO pg 32).take (q+1))=pgM ((CO pg 32).take q)++[(x.page,.bool true)]:=by
   unfold pgM;rw [KZ hx,FU];rfl
  refine⟨w23,hu,x.kind,by rw [o23.rd];rfl,?_⟩;rcases hcase with⟨f,hpf,rfl⟩|⟨s,hps,rfl⟩
  ·have hfr:frs ((CO pg 32).drop q)=f::frs ((CO pg 32).drop (q+1)):=by rw [H6 hx];simp [frs]
   have hsl:slM ((CO pg 32).take (q+1))=slM ((CO pg 32).take q):=by unfold slM sls;rw [KZ hx,List.filterMap_append];simp
   rw [hfr,List.map_cons] at A23;refine AA rfl ⟨(f:Int),by rw [o23.rd];rfl,(put (by decide) A23).mono ?_⟩;rintro _ w24 ⟨rfl,A24,k24⟩;exact⟨rfl,(CO pg 32).length-(q+1),by omega,rfl,q+1,wzz,hql,rfl,A24,by rw [hsl];exact M1''.kx k24 (by omega),by rw [hM2];exact M23.kx k24 (by omega)⟩
  ·have hfr:frs ((CO pg 32).drop q)=frs ((CO pg 32).drop (q+1)):=by rw [H6 hx];simp [frs]
   have hsl:slM ((CO pg 32).take (q+1))=slM ((CO pg 32).take q)++[((s:Int),vi 1)]:=by unfold slM sls;rw [KZ hx,List.filterMap_append];simp
   have hsn:=L.slM_none hx hps;have hs2:=(L.pgs j s hps).2.1;rw [hfr] at A23;have lk:=look1 (P:=prog) (mt:=90) (vt:=3) (kt:=3) underlying90 underlying3 M1'' (s:Int) (Tryz.zeroValue3 w23);rw [hsn] at lk;obtain⟨w24,hu2,M24,k24⟩:=MG (P:=prog) (mt:=90) (vt:=3) (kt:=3) underlying90 underlying3 M1'' (s:Int) (vi 1) (by omega) hsn;have A24:Al w7 sbk box S.n T w24 ((frs ((CO pg 32).drop (q+1))).map (fun f=>(f,4))):=by
    obtain⟨pre,e,h1⟩:=A23;exact⟨pre,e,BD h1.kp k24 (fun x e=>by rw [e];have:=A17.kp.sz;omega),h1.said.kx k24 (by omega),h1.bx.kx k24 (by omega),h1.lo,h1.ne⟩
   refine AG rfl (AA rfl ⟨(s:Int),by rw [o23.rd];rfl,0,lk,w24,hu2,(CO pg 32).length-(q+1),by omega,rfl,q+1,wzz,hql,rfl,A24,by rw [hsl];exact M24,by rw [hM2];exact M23.kx k24 (by omega)⟩)
 have hqe:q=(CO pg 32).length:=by simp [lp] at hc;omega
 subst hqe;rw [List.take_length] at M1 M2;rw [List.drop_length] at A20;have A20:Al w7 sbk box S.n T w20 []:=A20;clear hc hq;refine⟨_,_,_,rb A20.kp (j:=4) rfl,fun t W N=>∃q:Nat,t=q/\q<=S.AO/\N=S.AO-q/\W=w20,⟨_,0,rfl,Nat.zero_le _,rfl,rfl⟩,?_⟩;rintro _ w20 _ ⟨q,rfl,hq,rfl,rfl⟩;have P20:=P7.k A20.kp;refine AE (fun hc=>?_) (fun hc=>?_)
 ·have hqc:q<S.AO:=by simp [l4] at hc;omega
  have hfl:S.fli[q]? = some (-1):=by rw [L.fli,List.getElem?_replicate,if_pos hqc]
  exact AA (P20.flight.isp (by omega)) (Wi ⟨-1,P20.flight.int (by rw [efl];exact hfl),AG (by decide) ⟨S.AO-(q+1),by omega,q+1,wzz,hqc,rfl,rfl⟩⟩)
 clear hc hq q;have hol:(owns S.AP S.sof).length<=1024:=by
  have:=L.slN hsup;have h2:=MY pg 32;omega
 refine⟨_,_,_,rb A20.kp (j:=8) rfl,fun bb t W N=>∃q:Nat,t=q/\q<=(owns S.AP S.sof).length/\N=(owns S.AP S.sof).length-q/\Kept AB w20 W,⟨_,0,rfl,Nat.zero_le _,rfl,Kept.refl _ _⟩,?_⟩;rintro bb _ w21 _ ⟨q,rfl,hq,rfl,k21⟩;have A21:=A20.k k21;have P21:=P7.k A21.kp;refine AE (fun hc=>?_) (fun hc=>?_)
 ·have hqc:q<(owns S.AP S.sof).length:=by simp [l8] at hc;omega
  obtain⟨x,hx⟩:∃x,(owns S.AP S.sof)[q]? = some x:=⟨_,geg hqc⟩;obtain⟨j,s,hps,hj,rfl⟩:=L.slO (mog hx);obtain⟨cs,_,hR,hr⟩:=P21.AP.el q _ (by rw [esl];exact hx);obtain rfl:cs=[vi (s:Int),vi 1,vi (j:Int)]:=hR;refine AA (P21.AP.isp (by omega)) (Wi ⟨(s:Int),1,(j:Int),by rw [tnc];exact⟨hr 0 _ rfl,hr 1 _ rfl,hr 2 _ rfl⟩,fun w22 e22=>?_⟩);have o22:=AD e22;have k22:=kal e22;refine⟨⟨o22.wr (by show 0<3;decide),o22.wr (by show 1<3;decide),o22.wr (by show 2<3;decide)⟩,fun w23 e23=>?_⟩;obtain⟨o23,k23'⟩:=st3' o22 rfl e23;have k23:Kept AB w21 w23:=BD k22 k23' fun x e=>by omega
  have lk:=look1 (P:=prog) (mt:=90) (vt:=3) (kt:=3) underlying90 underlying3 (M1.k (k21.tr k23)) (s:Int) (Tryz.zeroValue3 w23);rw [L.slM_some M1 hps] at lk;exact⟨(s:Int),by rw [o23.rd];rfl,1,lk,1,(fun _=>by rw [o23.rd];rfl),AG (by decide) ⟨(owns S.AP S.sof).length-(q+1),by omega,q+1,wzz,hqc,rfl,k21.tr k23⟩⟩
 clear hc hq q;have D:=A21.fin;refine⟨_,_,_,by rw [D.bx.rd];rfl,fun _ t W N=>∃q:Nat,t=q/\q<=S.n/\N=S.n-q/\W=w21,⟨_,0,rfl,Nat.zero_le _,rfl,rfl⟩,?_⟩;rintro _ _ w21 _ ⟨q,rfl,hq,rfl,rfl⟩;refine AE (fun hc=>?_) (fun hc=>?_)
 ·have hqn:q<S.n:=by simp at hc;omega
  obtain⟨v,hv1,hv2⟩:=lookup_mem' (hcov q hqn);have hsd:sd T q=v:=by unfold sd;rw [hv1]
  have hcl:=L.saidM h (f:=q) (v:=v) (by rw [hZ,hT];exact hv2);obtain⟨cs,_,hR,hr⟩:=P21.marks.el q (S.mks q) (by rw [em];exact range_get' hqn);obtain rfl:cs=[.int .u8 (S.mks q).role,vi (S.mks q).order,vi (S.mks q).owner,vi (S.mks q).page,vi (S.mks q).index]:=hR;refine AA rfl (Wi ⟨v,?_,_,_,_,rb A21.kp (j:=0) rfl,AA (P21.marks.isp (by omega)) (Wi ⟨(S.mks q).role,by rw [tnc];exact hr 0 _ rfl,AG ?_ ⟨S.n-(q+1),by omega,q+1,wzz,hqn,rfl,rfl⟩⟩)⟩)
  ·rw [tnc,mo]
   show rd w21 sbk (0+q)=_
   rw [za,D.said.rd,AT _ _ _ _ _ hqn,za,hsd]
  ·rcases hcl with⟨rfl,e⟩|⟨rfl,e⟩|⟨rfl,e⟩|⟨rfl,j,e⟩ <;> rw [e] <;> rfl
 intro w22 e22;have k22:=kdr e22;have A22:=A21.k k22;have l1':=map_len (t:=90) (ty:=3) (by rw [underlying90];rfl) (M1.k (k21.tr k22));have l2':=map_len (t:=142) (ty:=3) (by rw [underlying142];rfl) (M2.k (k21.tr k22));have e1:(slM (CO pg 32)).length=(owns S.AP S.sof).length:=by unfold slM;rw [lmp,sls_mapQ,L.slN hsup]
 have e2:(pgM (CO pg 32)).length=tot:=by unfold pgM;rw [lmp,hsup]
 refine⟨_,l1',_,_,_,rb A22.kp (j:=8) rfl,_,(fun _=>l2'),AF (fun _=>rfl) ⟨pa,tot,pc,(fun _=>z0 (Rk A22.kp).r96),?_,K7.tr A22.kp⟩⟩;rw [e1,e2,l8];simp
end Go.Proofs.YtdgbechegbmpcaaGreatDoor
