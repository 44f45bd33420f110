/- Part of a proof that a law returns true. Conditions: those in each theorem. -/
import Derived.Test.YtdgbechegbmpcaaGreatDoorQ31
set_option linter.unusedSimpArgs false
set_option linter.unusedVariables false
set_option maxRecDepth 100000
namespace Go.Proofs.YtdgbechegbmpcaaGreatDoor
open Go Go.Eng Go.Proofs.Tryz
open Go.Value (bool func slice agg int)
open Option (isNone)
open Go.IntKind (wrap)
open List (replicate range)
variable {b c f i ic il j l lf pc pl s tc tl:Nat}{a ia pa ta:OA}{W:WD}{pg:Nat->Pg}{A:List Nat}{S:AR}{fp:Prt->Nat->Prop}{pin:Nat->Bool}{nf pf:NI}
section
variable {w:WD}{k:Nat}{S:AR}{fp:Prt->Nat->Prop}{rt lf cnt tot:Nat}{pg:Nat->Pg}{pin:Nat->Bool}{A:List Nat}{hh:Nat->List Nat}{tk:Nat->Tk}
theorem QSt.get0(L:QSt S rt lf pg pin A hh tk cnt tot)(h:AO w k S fp){page:Int}(hp:32<=page/\page<1024):gtE S.by' S.n (S.root 1) page=0/\gtK S.by' S.n (S.root 1) page=0:=by
 have hn:=h.n4;have hl:=L.rl;have ht:1<=Int.tdiv page 32/\Int.tdiv page 32<=31:=by rw [Int.tdiv_eq_ediv_of_nonneg (by omega)];omega
 have hz:=L.wz _ ht.1 ht.2;have hw:wdE S.n (rt:Int) (Int.tdiv page 32)=0:=DH;have he:enE 0=0:=by decide
 have hE:rdE S.by' S.n (rt:Int) (Int.tdiv page 32)=0:=by unfold rdE;rw [if_neg (by omega),hz,he]
 have hK:rdK S.by' S.n (rt:Int) (Int.tdiv page 32)=0:=by unfold rdK;rw [if_pos hE,hz];rfl
 have h0:lfE S.by' S.n (S.root 1) page=7:=by
  unfold lfE;rw [L.root,if_neg (by omega),hE,if_neg (by omega),hK,if_pos rfl]
 have h1:B92 S.by' S.n (S.root 1) page=true:=by
  unfold B92;rw [L.root,hw,hz]
  rfl
 unfold gtE gtK;rw [if_pos ⟨h0,h1⟩,if_neg (by omega)];exact⟨rfl,rfl⟩
theorem QSt.B4w(L:QSt S rt lf pg pin A hh tk cnt tot)(h:AO w k S fp):DF S.by' S.n (S.root 1) 1024=CO pg 32:=by
 have lo:∀q,q<=32->DF S.by' S.n (S.root 1) q=CO pg q:=λq hq=>by
  induction q with
  | zero=>rfl
  | succ q ih=>
   obtain⟨g1,g2,g3⟩:=L.get h (j:=q) (by omega);rw [GS,H9,ih (by omega),g1,g2,g3]
   cases pg q <;> simp [A43,B8i]
 have hi:∀q,32<=q->q<=1024->DF S.by' S.n (S.root 1) q=CO pg 32:=λq h1 h2=>by
  induction q with
  | zero=>omega
  | succ q ih=>
   by_cases e:q+1=32
   .rw [e];exact lo 32 (by omega)
   .obtain⟨g1,g2⟩:=L.get0 h (page:=q) (by omega);rw [GS,ih (by omega) (by omega),if_neg (λe=>e.2 g2),List.append_nil]
 exact hi 1024 (by omega) (by omega)
theorem QSt.procs(L:QSt S rt lf pg pin A hh tk cnt tot):procs S (FH S) 9=[FH S 1]:=by
 obtain⟨b,hb⟩:=L.sp;unfold Go.Proofs.YtdgbechegbmpcaaGreatDoor.procs;rw [hb]
 rfl
theorem NU(pg:Nat->Pg):∀q,(CO pg q).length=(pgF pg q).length+(pgS pg q).length
 | 0=>rfl
 | q+1=>by
  have ih:=NU pg q;rw [H9];unfold pgF pgS at ih ⊢;rw [List.range_succ,List.filterMap_append,List.filterMap_append,lap,lap,lap,ih]
  cases h:pg q <;> simp [h] <;> omega
theorem A1o{x:FV}{q:Nat}(h:x∈CO pg q):∃j,j<q/\((∃f,pg j=.fr f/\x=⟨(j:Int),1,(f:Int)⟩)\/∃s,pg j=.sl s/\x=⟨(j:Int),2,(s:Int)⟩):=by
 obtain⟨j,hj,hx⟩:=List.mem_filterMap.1 h;refine⟨j,List.mem_range.1 hj,?_⟩
 cases e:pg j with
 | no=>rw [e] at hx;cases hx
 | fr f=>rw [e] at hx;exact .inl ⟨f,rfl,(Option.some.inj hx).symm⟩
 | sl s=>rw [e] at hx;exact .inr ⟨s,rfl,(Option.some.inj hx).symm⟩
theorem A4s{q:Nat}:s∈pgS pg q↔∃j,j<q/\pg j=.sl s:=by
 unfold pgS;rw [List.mem_filterMap];constructor
 .rintro ⟨j,hj,hx⟩;refine⟨j,List.mem_range.1 hj,?_⟩
  cases e:pg j with
  | no=>rw [e] at hx;cases hx
  | fr f=>rw [e] at hx;cases hx
  | sl t=>rw [e] at hx;cases hx;rfl
 .rintro ⟨j,hj,e⟩;exact⟨j,List.mem_range.2 hj,by rw [e]⟩
theorem QSt.slU(L:QSt S rt lf pg pin A hh tk cnt tot)(h1:pg i=.sl s)(h2:pg j=.sl s):i=j:=by
 have e1:=(L.pgs i s h1).2.2;have e2:=(L.pgs j s h2).2.2;rw [e1] at e2;simp at e2;omega
def flS(tk:Nat->Tk)(n:Nat):List Nat:=(range n).filterMap λi=>(tk i).sl
theorem A48(tk:Nat->Tk):∀n,(flS tk n).length=CY n λi=>(tk i).n
 | 0=>rfl
 | n+1=>by
  have ih:=A48 tk n;unfold flS at ih ⊢;rw [List.range_succ,List.filterMap_append,lap,ih,CQ];congr 1;unfold Tk.n
  cases h:(tk n).sl <;> simp [h]
theorem B2q{tk:Nat->Tk}{n:Nat}:s∈flS tk n↔∃i,i<n/\(tk i).sl=some s:=by
 unfold flS;rw [List.mem_filterMap];constructor
 .rintro ⟨i,hi,h⟩;exact⟨i,List.mem_range.1 hi,h⟩
 .rintro ⟨i,hi,h⟩;exact⟨i,List.mem_range.2 hi,h⟩
theorem QSt.slN(L:QSt S rt lf pg pin A hh tk cnt tot)(ht:(CO pg 32).length=tot):(pgS pg 32).length+(flS tk S.AS).length=(owns S.AY S.sof).length:=by
 have h1:=NU pg 32;have h2:=L.cp;have h3:=L.cu;have h4:=A48 tk S.AS;rw [<- RY] at h2;omega
theorem QSt.flO(L:QSt S rt lf pg pin A hh tk cnt tot)(h:(tk i).sl=some s):∃p f:Nat,s<S.AY/\S.sof s=(1,(p:Int))/\pg p=.fr f/\i<S.AS:=by
 obtain⟨f,p,hg,h1,h2,_⟩:=(L.ok i).s s h;exact⟨p,f,h1,h2,((L.ok i).g f p hg).2.1,L.cpl λe=>by rw [e] at h;cases h⟩
theorem QSt.slO(L:QSt S rt lf pg pin A hh tk cnt tot){x:Own}(hx:x∈owns S.AY S.sof):∃j s:Nat,(pg j=.sl s\/s∈flS tk S.AS)/\x=⟨s,1,j⟩:=by
 unfold owns at hx;obtain⟨s,hs,rfl⟩:=List.mem_map.1 hx;obtain⟨h1,h2⟩:=List.mem_filter.1 hs;rcases L.so s (List.mem_range.1 h1) with e|⟨j,hj⟩|⟨i,hi⟩
 .rw [e] at h2;simp at h2
 .exact⟨j,s,.inl hj,by rw [(L.pgs j s hj).2.2]⟩
 .obtain⟨p,f,_,e,_,hc⟩:=L.flO hi;exact⟨p,s,.inr (B2q.2 ⟨i,hc,hi⟩),by rw [e]⟩
end
structure Sd(w7:WD)(sbk box n:Nat)(pre:List (Nat×Int))(W:WD):Prop where
 kp:AB AD w7 W
 said:AX W sbk (AQ .i64 (sd pre) 0 n)
 bx:AX W box [.slice (some ⟨sbk,0,none⟩) n n]
 lo:w7.heap.size<=sbk
 ne:sbk≠box
section
variable {w7 W W':WD}{sbk box n:Nat}{pre:List (Nat×Int)}
theorem Sd.k(h:Sd w7 sbk box n pre W)(kk:AB AD W W'):Sd w7 sbk box n pre W':=⟨h.kp.tr kk,h.said.k kk,h.bx.k kk,h.lo,h.ne⟩
theorem B4h(h:Sd w7 sbk box n pre W){v:Int}(hf:f<n)(hn:n<=1024)(hv:0<=v/\v<=9)(hno:f∉pre.map Prod.fst) :
 Calls prog 48 #[vi f,vi v,AP box] W λe w'=>e=.returned (.tuple #[])/\Sd w7 sbk box n (pre++[(f,v)]) w'/\AB (·=sbk) W w':=by
 refine Calls.ret (vc48 f v (some ⟨box,0,none⟩) W _ ?_);have hb:∀{W:WD},AX W box [.slice (some ⟨sbk,0,none⟩) n n]->rd W box 0=some (.slice (some ⟨sbk,0,none⟩) n n):=λo=>by rw [o.rd];rfl
 unfold Q;refine AJ (λ_=>rfl) ⟨_,_,_,(λ_=>hb h.bx),AA (by simp;omega) λw1 e1=>?_⟩;have h1:=h.k (kr.dr e1);refine AA rfl ⟨_,_,_,hb h1.bx,AA rfl ⟨_,_,_,hb h1.bx,AA rfl (Wi ⟨sd pre f,?_,AA rfl (Wi ⟨?_,λw2 e2=>?_⟩)⟩)⟩⟩
 .rw [tnc,mo]
  show rd w1 sbk (0+f)=_
  rw [za,h1.said.rd,AZ _ _ _ _ _ hf,za]
 .rw [tnc,mo]
  show wr w1 sbk (0+f)
  rw [za];exact h1.said.wr (by rw [AM];exact hf)
 .rw [B70 hno] at e2;have e3:wrap .i64 (wrap .i64 ((0:Int)*10)+v)=v:=by rw [wi (x:=(0:Int)*10) (by decide),wi (by omega)];omega
  rw [e3,tnc,mo] at e2;have e2:w2=st w1 sbk (0+f) (vi v):=e2;rw [za] at e2;have kk:AB (·=sbk) w1 w2:=kr.s1 e2 (.inl rfl);have o:=h1.said.s1 e2;rw [FF hf,<- C0r hno] at o;exact⟨rfl,⟨BO h1.kp kk (λx e=>by rw [e];exact h.lo),o,h1.bx.kx kk λe=>h.ne e.symm,h.lo,h.ne⟩,((AB.refl (·=sbk) W).dr e1).trans kk λ_ _ e=>e⟩
end
theorem SlR.one{α:Type}{R:Rd α}{w:WD}{xs:List α}(h:SlR R 1 w a l c xs){x:α}(hx:xs[i]? = some x):∃u,R w [u] x/\rd w (pb a) (po a+Int.toNat (i:Int)*1)=some u:=by
 obtain⟨cs,h1,h2,h3⟩:=h.el i x hx
 match cs,h1 with
 | [u],_=>
  refine⟨u,h2,?_⟩;rw [tnc];exact h3 0 u rfl
theorem SlR.int{w:WD}{xs:List Int}(h:SlR GW 1 w a l c xs){x:Int}(hx:xs[i]? = some x):rd w (pb a) (po a+Int.toNat (i:Int)*1)=some (vi x):=by
 obtain⟨u,hu,hr⟩:=h.one hx;have:u=vi x:=by simpa [GW] using hu
 rw [<- this];exact hr
theorem SlR.sl{α:Type}{R:Rd α}{w:WD}{xs:List (List α)}(h:SlR (RL R s) 1 w a l c xs){x:List α}(hx:xs[i]? = some x):∃(b:OA) (m d:Nat),SlR R s w b m d x/\rd w (pb a) (po a+Int.toNat (i:Int)*1)=some (.slice b m d):=by
 obtain⟨u,⟨b,m,d,hu,hR⟩,hr⟩:=h.one hx;have:u=.slice b m d:=by simpa using hu
 exact⟨b,m,d,hR,by rw [<- this];exact hr⟩
def frs(M:List FV):List Nat:=M.filterMap λx=>if x.kind=1 then some x.n.toNat else none
def sls(M:List FV):List Nat:=M.filterMap λx=>if x.kind=2 then some x.n.toNat else none
theorem A60(pg:Nat->Pg):∀q,frs (CO pg q)=pgF pg q
 | 0=>rfl
 | q+1=>by
  have ih:=A60 pg q;rw [H9];unfold frs pgF at ih ⊢;rw [List.range_succ,List.filterMap_append,List.filterMap_append,ih];congr 1
  cases h:pg q <;> simp [h]
theorem NF(pg:Nat->Pg):∀q,sls (CO pg q)=pgS pg q
 | 0=>rfl
 | q+1=>by
  have ih:=NF pg q;rw [H9];unfold sls pgS at ih ⊢;rw [List.range_succ,List.filterMap_append,List.filterMap_append,ih];congr 1
  cases h:pg q <;> simp [h]
theorem B1t(pg:Nat->Pg):∀q,(CO pg q).Pairwise λx y=>x.page<y.page
 | 0=>List.Pairwise.nil
 | q+1=>by
  rw [H9,List.pairwise_append];refine⟨B1t pg q,by cases pg q <;> simp,λx hx y hy=>?_⟩;obtain⟨j,hj,h1⟩:=A1o hx;have hxp:x.page=(j:Int):=by rcases h1 with⟨_,_,rfl⟩|⟨_,_,rfl⟩ <;> rfl
  have hyp:y.page=(q:Int):=by
   cases h:pg q with
   | no=>rw [h] at hy;cases hy
   | fr g=>rw [h] at hy;simp at hy;rw [hy]
   | sl g=>rw [h] at hy;simp at hy;rw [hy]
  omega
theorem LY{α:Type}{l:List α}{q:Nat}{x:α}(h:l[q]? = some x):l.take (q+1)=l.take q++[x]:=by rw [List.take_add_one,h];rfl
theorem HO{α:Type}{l:List α}{q:Nat}{x:α}(h:l[q]? = some x):l.drop q=x::l.drop (q+1):=by
 have hq:=(DC.1 h).1;rw [List.drop_eq_getElem_cons hq,(DC.1 h).2]
section
variable {w:WD}{k:Nat}{S:AR}{fp:Prt->Nat->Prop}{rt lf cnt tot:Nat}{pg:Nat->Pg}{pin:Nat->Bool}{A:List Nat}{hh:Nat->List Nat}{tk:Nat->Tk}
theorem QSt.C4m(L:QSt S rt lf pg pin A hh tk cnt tot)(h:AO w k S fp){v:Int}(hm:(f,v)∈LK (zsh S.Z.c S.L S.Z.k) (HJ hh S.AS) rt lf A pg):(v=1/\S.mks f=CX)\/(v=2/\S.mks f=O4 4)\/(v=3/\S.mks f=CK)\/(v=4/\∃j,S.mks f=B8a j):=by
 unfold LK at hm;simp only [List.mem_append,List.mem_cons,List.mem_map,Prod.mk.injEq] at hm;rcases hm with⟨g,hg,rfl,rfl⟩|⟨g,hg,rfl,rfl⟩|⟨rfl,rfl⟩|⟨rfl,rfl⟩|⟨g,hg,rfl,rfl⟩|⟨g,hg,rfl,rfl⟩
 .obtain⟨y,hy,hfy⟩:=List.mem_flatMap.1 hg;obtain⟨_,_,h3⟩:=L.B84 h hy;obtain⟨i,hi,rfl⟩:=List.mem_range'.1 hfy;exact .inl ⟨rfl,h3 _ (by omega) (by omega)⟩
 .obtain⟨i,_,hg⟩:=OZ.1 hg;exact .inr (.inl ⟨rfl,L.mkh i g hg⟩)
 .exact .inr (.inr (.inl ⟨rfl,L.mk1.1⟩))
 .exact .inr (.inr (.inl ⟨rfl,L.mk1.2⟩))
 .exact .inr (.inr (.inl ⟨rfl,L.mkA g hg⟩))
 .obtain⟨j,_,hj⟩:=List.mem_filterMap.1 hg
  cases e:pg j with
  | fr f=>rw [e] at hj;cases hj;exact .inr (.inr (.inr ⟨rfl,j,L.mk2 j g e⟩))
  | no=>rw [e] at hj;cases hj
  | sl s=>rw [e] at hj;cases hj
end
section
variable {w7 W W':WD}{sbk box n:Nat}{T pre suf:List (Nat×Int)}
def Al(w7:WD)(sbk box n:Nat)(T:List (Nat×Int))(W:WD)(suf:List (Nat×Int)):Prop:=∃pre,T=pre++suf/\Sd w7 sbk box n pre W
theorem Al.k(h:Al w7 sbk box n T W suf)(kk:AB AD W W'):Al w7 sbk box n T W' suf:=by
 obtain⟨pre,e,h⟩:=h;exact⟨pre,e,h.k kk⟩
theorem Al.kp(h:Al w7 sbk box n T W suf):AB AD w7 W:=h.elim λ_ h=>h.2.kp
theorem Al.bk(h:Al w7 sbk box n T W suf):sbk<W.heap.size/\box<W.heap.size:=h.elim λ_ h=>⟨h.2.said.lt,h.2.bx.lt⟩
theorem Al.put(hN:(T.map Prod.fst).Nodup)(hlt:∀f,f∈T.map Prod.fst->f<n)(hn:n<=1024){v:Int}(hv:0<=v/\v<=9)(h:Al w7 sbk box n T W ((f,v)::suf)) :
 Calls prog 48 #[vi f,vi v,AP box] W λe w'=>e=.returned (.tuple #[])/\Al w7 sbk box n T w' suf/\AB (·=sbk) W w':=by
 obtain⟨pre,e,h⟩:=h;have hm:f∈T.map Prod.fst:=by rw [e];simp
 have hno:f∉pre.map Prod.fst:=λhp=>by
  rw [e,F6,List.map_cons,List.nodup_append] at hN;exact hN.2.2 f hp f (by simp) rfl
 refine(B4h h (hlt f hm) hn hv hno).AE ?_;rintro e' w' ⟨rfl,h',kk⟩;exact⟨rfl,⟨_,by rw [e,List.append_assoc];rfl,h'⟩,kk⟩
end
theorem Al.fin{w7:WD}{sbk box n:Nat}{T:List (Nat×Int)}(h:Al w7 sbk box n T W []):Sd w7 sbk box n T W:=by
 obtain⟨pre,e,h⟩:=h;rw [List.append_nil] at e;rw [e];exact h
theorem B1r{w:WD}{m:List (Int×Value)}{t ty:TypeId}(hu:prog.underlying t=some (.map (prog.mapKeyOf t) (prog.mapElemOf t)))(h:BJ w b m):QO prog #[t] ty (.map (some b)) (m.length:Nat) w:=by
 obtain⟨es,c,h1,_,h3⟩:=h.ex;have hl:=h3.length_eq;rw [lmp,lmp,Array.length_toList] at hl;refine⟨?_⟩;have:=run_len_map (P:=prog) w t ty b es c hu h1;rw [this,hl]
 rfl
theorem B2x{q n:Nat}{x y:FV}(hx:(CO pg n)[q]? = some x)(hy:y∈(CO pg n).take q):y.page<x.page:=by
 obtain⟨i,hyi⟩:=List.mem_iff_getElem?.1 hy;have hi:=(DC.1 hyi).1;rw [List.length_take] at hi;rw [List.getElem?_take_of_lt (by omega)] at hyi;have hq:=(DC.1 hx).1;have hlt:=List.pairwise_iff_getElem.1 (B1t pg n) i q (by omega) hq (by omega);rw [(DC.1 hyi).2,(DC.1 hx).2] at hlt;exact hlt
def slM(M:List FV):List (Int×Value):=(sls M).map λs:Nat=>((s:Int),vi 1)
def pgM(M:List FV):List (Int×Value):=M.map λx=>(x.page,.bool true)
section
variable {S:AR}{rt lf cnt tot:Nat}{pg:Nat->Pg}{pin:Nat->Bool}{A:List Nat}{hh:Nat->List Nat}{tk:Nat->Tk}
theorem B4t{q:Nat}{x:FV}(hx:(CO pg 32)[q]? = some x):(pgM ((CO pg 32).take q)).lookup x.page=none:=by
 refine EH λv hv=>?_;obtain⟨y,hy,he⟩:=List.mem_map.1 hv;have:=B2x hx hy;have he:y.page=x.page:=congrArg Prod.fst he;omega
theorem QSt.B4d(L:QSt S rt lf pg pin A hh tk cnt tot){q:Nat}(hx:(CO pg 32)[q]? = some ⟨j,2,s⟩)(hj:pg j=.sl s):(slM ((CO pg 32).take q)).lookup (s:Int)=none:=by
 refine EH λv hv=>?_;obtain⟨t,ht,he⟩:=List.mem_map.1 hv;have he:(t:Int)=(s:Int):=congrArg Prod.fst he;have:t=s:=by omega
 subst this;obtain⟨y,hy,hyt⟩:=List.mem_filterMap.1 ht;have hlt:=B2x hx hy;obtain⟨i,_,h1⟩:=A1o (List.mem_of_mem_take hy);rcases h1 with⟨f,_,rfl⟩|⟨u,hu,rfl⟩
 .simp at hyt
 .have:u=t:=by simpa using hyt
  subst this;have:=L.slU hu hj;subst this;exact absurd hlt (by show ¬((i:Int)<(i:Int));omega)
def flM(l:List Nat):List (Int×Value):=l.map λs:Nat=>((s:Int),vi 1)
theorem QSt.B5y(L:QSt S rt lf pg pin A hh tk cnt tot){q:Nat}(hs:(tk q).sl=some s):(slM (CO pg 32)++flM (flS tk q)).lookup (s:Int)=none:=by
 obtain⟨p,f,_,e,hp,_⟩:=L.flO hs;refine EH λv hv=>?_;rcases List.mem_append.1 hv with hv|hv
 .obtain⟨t,ht,he⟩:=List.mem_map.1 hv;have he:(t:Int)=(s:Int):=congrArg Prod.fst he;have:t=s:=by omega
  subst this;rw [NF] at ht;obtain⟨j,_,hj⟩:=A4s.1 ht;have h2:=(L.pgs j t hj).2.2;rw [e] at h2;have:p=j:=by simp at h2;omega
  rw [<- this,hp] at hj;cases hj
 .obtain⟨t,ht,he⟩:=List.mem_map.1 hv;have he:(t:Int)=(s:Int):=congrArg Prod.fst he;have:t=s:=by omega
  subst this;obtain⟨i,hi,h2⟩:=B2q.1 ht;obtain⟨f1,p1,hg,_⟩:=(L.ok q).s t hs;have:=(L.one hg (by omega:i≠q)).2;rw [h2] at this;cases this
theorem QSt.B4c(L:QSt S rt lf pg pin A hh tk cnt tot){w:WD}{m:Nat}(M:BJ w m (slM (CO pg 32)++flM (flS tk S.AS)))(hj:pg j=.sl s\/s∈flS tk S.AS):(slM (CO pg 32)++flM (flS tk S.AS)).lookup (s:Int)=some (vi 1):=by
 refine A1r M.nd ?_;rcases hj with hj|hj
 .refine List.mem_append_left _ (List.mem_map.2 ⟨s,?_,rfl⟩);rw [NF];exact A4s.2 ⟨j,(L.pgs j s hj).1,hj⟩
 .exact List.mem_append_right _ (List.mem_map.2 ⟨s,hj,rfl⟩)
end
theorem vc15(w':OA)(w:WD)(K:KV)(h:Q (Wp w' (Rp w w' 0 λx=>Calls prog 47 #[pt x] w λ(e:Ending) (i:WD)=>∃(f:NI) (a:OA) (l c:Nat) (a1:OA) (a2 c_1:Nat) (a3:OA) (a4 c_2:Nat) (a5:OA) (a6 c_3:Nat) (a7:OA) (a8 c_4:Nat) (a9:OA) (b0 c_5:Nat) (b1:OA) (b2 c_6:Nat) (b3:OA) (b4 c_7:Nat) (b5:OA) (b6 c_8:Nat) (b7:OA) (b8 c_9:Nat) (R:OA) (S c_10:Nat) (T:OA) (U c_11:Nat) (V:OA) (X c_12:Nat),e=rT (.agg (List.toArray (AQ .i64 f 0 94++[sl a l c,sl a1 a2 c_1,sl a3 a4 c_2,sl a5 a6 c_3,sl a7 a8 c_4,sl a9 b0 c_5,sl b1 b2 c_6,sl b3 b4 c_7,sl b5 b6 c_8,sl b7 b8 c_9,sl R S c_10,sl T U c_11,sl V X c_12])))/\AW i (List.toArray (replicate 94 (vi 0)++replicate 13 (sl none 0 0))) 137 λb9=>DJ b9 i.heap.size 0 (AQ .i64 f 0 94++[sl a l c,sl a1 a2 c_1,sl a3 a4 c_2,sl a5 a6 c_3,sl a7 a8 c_4,sl a9 b0 c_5,sl b1 b2 c_6,sl b3 b4 c_7,sl b5 b6 c_8,sl b7 b8 c_9,sl R S c_10,sl T U c_11,sl V X c_12])/\∀O,O=F5 b9 i.heap.size 0 (AQ .i64 f 0 94++[sl a l c,sl a1 a2 c_1,sl a3 a4 c_2,sl a5 a6 c_3,sl a7 a8 c_4,sl a9 b0 c_5,sl b1 b2 c_6,sl b3 b4 c_7,sl b5 b6 c_8,sl b7 b8 c_9,sl R S c_10,sl T U c_11,sl V X c_12])->RS O i.heap.size 94 λx P f2=>Wif (IU 8 (↑P:Int) (↑P:Int)) (AW O (List.toArray (replicate (Int.toNat (↑P:Int)) (vi 0))) 3 λp=>AW p #[sl none 0 0] 27 λd2=>Sw d2 p.heap.size 0 (sl (aD O.heap.size) (Int.toNat (↑P:Int)) (Int.toNat (↑P:Int))) λc0=>RS c0 i.heap.size 95 λx c8 f3=>∃(I:Int->WD->Nat->Prop),(∃(n:Nat),I 0 c0 n)/\∀(n:Int) (j:WD) (c9:Nat),I n j c9->Wif (decide (n<(↑c8:Int))) (Wp x (Wn n c8 (∃(Q c1:Int),(rd j (pb x) (po x+n.toNat*2)=some (.int .i64 Q)/\rd j (pb x) (po x+n.toNat*2+1)=some (.int .i64 c1))/\AW j #[vi 0,vi 0] 141 λw'=>(wr w' j.heap.size 0/\wr w' j.heap.size 1)/\St (st w' j.heap.size 0 (vi Q)) j.heap.size 1 (vi c1) λs=>RI s j.heap.size 0 λx=>∃(E:Int->WD->Nat->Prop),(∃(n:Nat),E x s n)/\∀(F:Int) (w':WD) (t:Nat),E F w' t->Dr w' λu=>RI u j.heap.size 0 λx=>RI u j.heap.size 1 λz=>Wif (decide (0<=z)) (Wif (decide (F<wrap .i64 (x+wrap .i64 (1*2^min (z.toNat) 64)))) (C0 48 #[vi F,vi 1,AP p.heap.size] u λw'=>Lt t λm=>E (wrap .i64 (F+1)) w' m) (Lt c9 λm=>I (wrap .i64 (n+1)) u m)) False))) (RS j i.heap.size 96 λx Q c1=>∃(I:Int->WD->Nat->Prop),(∃(n:Nat),I 0 j n)/\∀(n:Int) (s:WD) (F:Nat),I n s F->Wif (decide (n<(↑Q:Int))) (Wp x (Wn n Q (Rs s x (n.toNat*1) λz c2 G=>∃(E:Int->WD->Nat->Prop),(∃(n:Nat),E 0 s n)/\∀(t:Int) (w':WD) (M:Nat),E t w' M->Wif (decide (t<(↑c2:Int))) (Wp z (Wn t c2 (Ri w' z (t.toNat*1) λx=>C0 48 #[vi x,vi 2,AP p.heap.size] w' λw'=>Lt M λm=>E (wrap .i64 (t+1)) w' m))) (Lt F λm=>I (wrap .i64 (n+1)) w' m)))) (Wp w' (Ri s w' 106 λx=>Calls prog 48 #[vi x,vi 3,AP p.heap.size] s λ(e:Ending) (c3:WD)=>e=rT (.tuple #[])/\Wp w' (Ri c3 w' 107 λx=>Calls prog 48 #[vi x,vi 3,AP p.heap.size] c3 λ(e:Ending) (a0:WD)=>e=rT (.tuple #[])/\Wp w' (Rs a0 w' 108 λx z c2=>∃(I:Int->WD->Nat->Prop),(∃(n:Nat),I 0 a0 n)/\∀(n:Int) (B:WD) (t:Nat),I n B t->Wif (decide (n<(↑z:Int))) (Wp x (Wn n z (Ri B x (n.toNat*1) λG=>C0 48 #[vi G,vi 3,AP p.heap.size] B λw'=>Lt t λm=>I (wrap .i64 (n+1)) w' m))) (Dr B λu=>RS u i.heap.size 99 λx G d8=>∃(x:OA) (c4 d3:Nat),(((↑G:Int)!=1)=false->rd u i.heap.size 98=some (.slice x c4 d3))/\gIf (isP w') (((↑G:Int)!=1)=false) (∃(x:Int),(((↑G:Int)!=1)=false->rd u (pb w') (po w'+3)=some (.int .i64 x))/\Wif ((↑G:Int)!=1||(↑c4:Int)!=x) (K (.bool false) u) (∀C,C=u.alloc (.map #[] 0)->∀D,D=C.alloc (.map #[] 0)->RS D i.heap.size 99 λx d4 d9=>Wp x (Wn 0 d4 (Rs D x 3 λy c5 f0=>∃(I:Bool->Int->WD->Nat->Prop),(∃(n:Nat),I false 0 D n)/\∀(b:Bool) (n:Int) (g:WD) (M:Nat),I b n g M->Wif (decide (n<(↑c5:Int))) (Wp y (Wn n c5 (∃(x H Y:Int),(rd g (pb y) (po y+n.toNat*3)=some (.int .i64 x)/\rd g (pb y) (po y+n.toNat*3+1)=some (.int .u8 H)/\rd g (pb y) (po y+n.toNat*3+2)=some (.int .i64 Y))/\AW g #[vi 0,vu 0,vi 0] 149 λw'=>(wr w' g.heap.size 0/\wr w' g.heap.size 1/\wr w' g.heap.size 2)/\St (st (st w' g.heap.size 0 (vi x)) g.heap.size 1 (vu H)) g.heap.size 2 (vi Y) λk=>RI k g.heap.size 0 λx=>∃(w':WD),EF prog 142 (Value.map (some C.heap.size)) (vi x) (bool true) k w'/\R8 w' g.heap.size 1 λx=>Wif (x==1) (RI w' g.heap.size 2 λx=>C0 48 #[vi x,vi 4,AP p.heap.size] w' λw'=>Lt M λm=>I b (wrap .i64 (n+1)) w' m) (Wif (x==2) (RI w' g.heap.size 2 λx=>∃(q:Int),EA prog 90 (Value.map (some u.heap.size)) (vi x) false (vi q) w'/\∃(d:WD),EF prog 90 (Value.map (some u.heap.size)) (vi x) (vi (wrap .i64 (q+1))) w' d/\Lt M λm=>I b (wrap .i64 (n+1)) d m) (K (.bool false) w'))))) (RS g i.heap.size 98 λx H Y=>∃(I:Int->WD->Nat->Prop),(∃(n:Nat),I 0 g n)/\∀(n:Int) (k:WD) (c6:Nat),I n k c6->Wif (decide (n<(↑H:Int))) (Wp x (Wn n H (Ri k x (n.toNat*1) λq=>Wif (decide (q>=0)) (∃(x:Int),EA prog 90 (Value.map (some u.heap.size)) (vi q) false (vi x) k/\∃(w':WD),EF prog 90 (Value.map (some u.heap.size)) (vi q) (vi (wrap .i64 (x+1))) k w'/\Lt c6 λm=>I (wrap .i64 (n+1)) w' m) (Lt c6 λm=>I (wrap .i64 (n+1)) k m)))) (RS k i.heap.size 102 λx q f1=>∃(I:Bool->Int->WD->Nat->Prop),(∃(n:Nat),I b 0 k n)/\∀(b:Bool) (n:Int) (d:WD) (d0:Nat),I b n d d0->Wif (decide (n<(↑q:Int))) (Wp x (Wn n q (∃(J Z r:Int),(rd d (pb x) (po x+n.toNat*3)=some (.int .i64 J)/\rd d (pb x) (po x+n.toNat*3+1)=some (.int .i64 Z)/\rd d (pb x) (po x+n.toNat*3+2)=some (.int .i64 r))/\AW d #[vi 0,vi 0,vi 0] 151 λw'=>(wr w' d.heap.size 0/\wr w' d.heap.size 1/\wr w' d.heap.size 2)/\St (st (st w' d.heap.size 0 (vi J)) d.heap.size 1 (vi Z)) d.heap.size 2 (vi r) λh=>RI h d.heap.size 0 λx=>∃(o:Int),EA prog 90 (Value.map (some u.heap.size)) (vi x) false (vi o) h/\∃(x:Int),((o != 1)=false->rd h d.heap.size 1=some (.int .i64 x))/\Wif (o != 1||x != 1) (K (.bool false) h) (Lt d0 λm=>I b (wrap .i64 (n+1)) h m)))) (RS d p.heap.size 0 λx J Z=>∃(I:Bool->Int->WD->Nat->Prop),(∃(n:Nat),I b 0 d n)/\∀(b:Bool) (n:Int) (h:WD) (d1:Nat),I b n h d1->Wif (decide (n<(↑J:Int))) (Wp x (Wn n J (Ri h x (n.toNat*1) λr=>RS h i.heap.size 94 λx o d5=>Wp x (Wn n o (Re h x (n.toNat*5) λA=>Wif (decide (r<1)||decide (r>4)||!(r==1)==(A==1)||!(r==3)==(A==3)||r==4&&A != 4) (K (.bool false) h) (Lt d1 λm=>I b (wrap .i64 (n+1)) h m)))))) (Dr h λL=>∃(x:Int),QO prog #[90] 3 (Value.map (some u.heap.size)) x L/\RS L i.heap.size 102 λr o d5=>∃(A:Int),((x==(↑o:Int))=true->QO prog #[142] 3 (Value.map (some C.heap.size)) A L)/\gIf (isP w') ((x==(↑o:Int))=true) (∃(d6:OA) (c7 d7:Nat),((x==(↑o:Int))=true->rd L (pb w') (po w'+96)=some (.slice d6 c7 d7))/\K (.bool (x==(↑o:Int)&&A==(↑c7:Int))) L)))))))))))))))) False))):Ret 15 #[pt w'] w K:=vcA L7 2 [] func15 h
theorem vc25(w':OA)(w:WD)(K:KV)(h:Q (Wp w' (Rs w w' 96 λx B C=>∃(I:Bool->Int->WD->Nat->Prop),(∃(n:Nat),I false 0 w n)/\∀(b:Bool) (n:Int) (t:WD) (z:Nat),I b n t z->Wif (decide (n<(↑B:Int))) (Wp x (Wn n B (Ri t x (n.toNat*1) λs=>∃(A:OA->Int->WD->Prop),(Dr t λi=>Wp w' (Rp i w' 0 λx=>Wp x (Rp i x 94 λq=>Wp w' (Ri i w' 106 λj=>(Calls prog 16 #[pt q,vi j,vi s] i λe w'=>∃(n k f:Int),e=rT (.tuple #[agg #[vu n,vi k],vi f])/\AW w' #[vu 0,vi 0] 69 λd=>(wr d w'.heap.size 0/\wr d w'.heap.size 1)/\St (st d w'.heap.size 0 (vu n)) w'.heap.size 1 (vi k) λg=>A (aD w'.heap.size) f g)/\AW i #[vu 0,vi 0] 69 λd=>Rt d (pb w') (po w'+106) (.int .i64 j)<|Rt d (pb x) (po x+94) (.pointer q)<|Rt d (pb w') (po w') (.pointer x)<|Calls prog 16 #[pt q,vi j,vi s] d λe w'=>∃(n k f:Int),e=rT (.tuple #[agg #[vu n,vi k],vi f])/\(wr w' i.heap.size 0/\wr w' i.heap.size 1)/\St (st w' i.heap.size 0 (vu n)) i.heap.size 1 (vi k) λg=>A (aD i.heap.size) f g))))/\∀(p:OA) (k:Int) (d:WD),A p k d->Wif (k != 0) (K (.bool false) d) (Wp p (Re d p 0 λx=>Wif (x==1) (Dr d λi=>Wp w' (Rp i w' 0 λx=>Wp x (Rp i x 94 λq=>Wp p (Ri i p 1 λx=>Calls prog 23 #[pt q,vi x,vi 0,vi 256] i λ(e:Ending) (g:WD)=>∃(a:OA) (l c:Nat) (f:Int),e=rT (.tuple #[sl a l c,vi f])/\gIf (isP w') ((f != 0||(↑l:Int)!=256)=false) (∃(x:OA) (j u:Nat),((f != 0||(↑l:Int)!=256)=false->rd g (pb w') (po w'+97)=some (.slice x j u))/\Wif (f != 0||(↑l:Int)!=256) (K (.bool false) g) (CB 17 #[sl x j u,vi s] g λo w'=>gIf (isP p) (o=true) (∃(x:Int),(o=true->rd w' (pb p) (po p)=some (.int .u8 x))/\Wif (o&&x != 1) (K (.bool false) w') (∃(r:Bool->Int->WD->Nat->Prop),(∃(n:Nat),r b 0 w' n)/\∀(b:Bool) (h:Int) (w':WD) (y:Nat),r b h w' y->Wif (decide (h<(↑l:Int))) (Wp a (Wn h l (Re w' a (h.toNat*1) λx=>Wif (x != wrap .u8 (wrap .i64 (s+h))) (K (.bool false) w') (Lt y λm=>r b (wrap .i64 (h+1)) w' m)))) (Lt z λm=>I b (wrap .i64 (n+1)) w' m))))))))) (Wif (x==2) (Dr d λi=>Wp w' (Rp i w' 0 λx=>Wp x (Rp i x 96 λq=>Wp p (Ri i p 1 λx=>Calls prog 59 #[pt q,vi x,bool false] i λ(e:Ending) (g:WD)=>∃(a:OA) (l c:Nat) (f:Int),e=rT (.tuple #[sl a l c,vi f])/\gIf (isP w') ((f != 0||(↑l:Int)!=256)=false) (∃(x:OA) (j u:Nat),((f != 0||(↑l:Int)!=256)=false->rd g (pb w') (po w'+97)=some (.slice x j u))/\Wif (f != 0||(↑l:Int)!=256) (K (.bool false) g) (CB 17 #[sl x j u,vi s] g λo w'=>gIf (isP p) (o=true) (∃(x:Int),(o=true->rd w' (pb p) (po p)=some (.int .u8 x))/\Wif (o&&x != 1) (K (.bool false) w') (∃(r:Bool->Int->WD->Nat->Prop),(∃(n:Nat),r b 0 w' n)/\∀(b:Bool) (h:Int) (w':WD) (y:Nat),r b h w' y->Wif (decide (h<(↑l:Int))) (Wp a (Wn h l (Re w' a (h.toNat*1) λx=>Wif (x != wrap .u8 (wrap .i64 (s+h))) (K (.bool false) w') (Lt y λm=>r b (wrap .i64 (h+1)) w' m)))) (Lt z λm=>I b (wrap .i64 (n+1)) w' m))))))))) (gIf (isP w') ((k != 0||true)=false) (∃(x:OA) (q j:Nat),((k != 0||true)=false->rd d (pb w') (po w'+97)=some (.slice x q j))/\Wif (k != 0||true) (K (.bool false) d) (CB 17 #[sl x q j,vi s] d λo w'=>gIf (isP p) (o=true) (∃(x:Int),(o=true->rd w' (pb p) (po p)=some (.int .u8 x))/\Wif (o&&x != 1) (K (.bool false) w') (∃(r:Bool->Int->WD->Nat->Prop),(∃(n:Nat),r b 0 w' n)/\∀(b:Bool) (f:Int) (w':WD) (h:Nat),r b f w' h->Wif (decide (f<0)) False (Lt z λm=>I b (wrap .i64 (n+1)) w' m)))))))))))) (K (.bool true) t)))):Ret 25 #[pt w'] w K:=vcA L7 2 [4000004,100400051,100400060] func25 h
theorem MC{α:Type}{n:Nat}{f:Nat->α}(hi:i<n):((range n).map f)[i]? = some (f i):=by rw [gmp,List.getElem?_range hi];rfl
theorem C6x{w w':WD}{cs:List Value}{v0 v1 v2:Value}(h:AX w b cs)(hl:cs.length=3)(e:w'=st (st (st w b 0 v0) b 1 v1) b 2 v2):AX w' b [v0,v1,v2]/\AB (·=b) w w':=by
 subst e
 match cs,hl with
 | [a,c,d],_=>exact⟨h.BT.BT.BT,(((AB.refl (·=b) w).st (.inl rfl)).st (.inl rfl)).st (.inl rfl)⟩
structure C3f(W:WD)(b k:Nat)(AS:Int)(pa:OA)(pl pc:Nat)(rt lf:Nat)(ta:OA)(tl tc:Nat)(A:List Nat):Prop where
 r0:rd W b 0=some (AP k)
 r3:rd W b 3=some (vi AS)
 r96:rd W b 96=some (.slice pa pl pc)
 r106:rd W b 106=some (vi rt)
 r107:rd W b 107=some (vi lf)
 r108:rd W b 108=some (.slice ta tl tc)
 row:DT W ta tl tc (A.map λx:Nat=>(x:Int))
theorem C3f.k{W':WD}{k:Nat}{AS:Int}{rt:Nat}(h:C3f W b k AS pa pl pc rt lf ta tl tc A)(kk:AB AD W W'):C3f W' b k AS pa pl pc rt lf ta tl tc A:=
 ⟨kk.AV h.r0 id,kk.AV h.r3 id,kk.AV h.r96 id,kk.AV h.r106 id,kk.AV h.r107 id,kk.AV h.r108 id,h.row.k kk⟩
set_option maxHeartbeats 8000000 in
theorem A70{w:WD}{k:Nat}{rt cnt tot:Nat}{hh:Nat->List Nat}{tk:Nat->Tk}(TR:GV w)(h:AO w k S fp)(L:QSt S rt lf pg pin A hh tk cnt tot)(hsup:(CO pg 32).length=tot)(R:C3f w b k S.AS pa tot pc rt lf ta tl tc A) :
 Calls prog 15 #[AP b] w λe w'=>e=.returned (.bool true)/\AB AD w w':=by
 refine(vc15 (some ⟨b,0,none⟩) w (λv w'=>v=.bool true/\AB AD w w') ?_).AE ?_
 rotate_left
 .rintro e w' ⟨v,rfl,rfl,h⟩;exact⟨rfl,h⟩
 have hs:=h.BQ;have hn:=h.n4;have hcnt:=L.C2s;have z0:∀{W:WD}{x j:Nat}{v:Value},rd W x j=some v->rd W x (0+j)=some v:=λe=>by rw [za];exact e
 unfold Q;refine AA rfl ⟨_,R.r0,(A25 h (B4p TR h L.by') (λi hi=>by have:=L.B8y hn.2.2 i hi;omega) (λi hi=>by have:=L.A2r hi;omega) (by rw [L.fli];simp;omega)).AE ?_⟩;rintro _ w5 ⟨PS,rfl,k5,A5⟩;refine⟨_,_,_,_,_,_,_,_,_,_,_,_,_,_,_,_,_,_,_,_,_,_,_,_,_,_,_,_,_,_,_,_,_,_,_,_,_,_,_,_,rfl,λw6 e6=>?_⟩;have o6:=AG e6;have k6:=kal e6;refine⟨o6.DJ 0 (by simp [AM]),λw7 e7=>?_⟩;obtain⟨o7,k7'⟩:=F4 o6 e7 (by simp [AM]);have k7:AB AD w5 w7:=BO k6 k7' λx e=>Nat.le_of_eq e.symm;have P7:=(A5.now).k k7;have K7:AB AD w w7:=k5.tr k7;clear e6 e7 k6 k7' o6 A5
 try dsimp only
 generalize w5.heap.size=br at *;have rb:∀{W:WD},AB AD w7 W->∀{j:Nat}{v:Value},(C6z PS)[j]? = some v->rd W br (94+j)=some v:=λkk j v hv=>by
  rw [(o7.k kk).rd,gar (by rw [AM];omega),AM,Nat.add_sub_cancel_left];exact hv
 have ep:(QG S (FH S)).procs=[FH S 1]:=L.procs;have ef:(QG S (FH S)).free=(zsh S.Z.c S.L S.Z.k).map B93:=rfl;have em:(QG S (FH S)).marks=(range S.n).map S.mks:=rfl;have eh:(QG S (FH S)).held=(range S.AS).map S.held:=rfl;have efl:(QG S (FH S)).flight=S.fli:=rfl;have esl:(QG S (FH S)).AY=owns S.AY S.sof:=rfl;have l0:PS.l 0=S.n:=by rw [P7.marks.len,em,lmp,List.length_range]
 have l2:PS.l 2=S.AS:=by rw [P7.held.len,eh,lmp,List.length_range]
 have l4:PS.l 4=S.AS:=by rw [P7.flight.len,efl,L.fli];simp
 have l5:PS.l 5=1:=by rw [P7.procs.len,ep];rfl
 have l8:PS.l 8=(owns S.AY S.sof).length:=by rw [P7.AY.len,esl]
 obtain⟨hN,hcov,hlt⟩:=L.said h;have R7:=R.k K7;refine⟨_,_,_,rb (AB.refl AD w7) (j:=0) rfl,AA FQ λw8 e8 w9 e9=>?_⟩;rw [l0,tnc] at e8;have o8:AX w8 w7.heap.size (replicate S.n (vi 0)):=AG e8;have o9:=AG e9;have k8:=kal e8;have k9:=kal e9;have s8:=o8.lt;refine⟨o9.wr (by decide),λw10 e10=>?_⟩;rw [l0,tnc] at e10;have o10:AX w10 w8.heap.size [.slice (some ⟨w7.heap.size,0,none⟩) S.n S.n]:=o9.s1 e10;have k10':AB (·=w8.heap.size) w9 w10:=kr.s1 e10 (.inl rfl);have os:AX w10 w7.heap.size (AQ .i64 (sd []) 0 S.n):=by
  have:=(o8.k k9).kx k10' (show ¬w7.heap.size=w8.heap.size by omega);rw [J1] at this;exact this
 have k10:AB AD w7 w10:=BO (k8.tr k9) k10' λx e=>by omega
 have hbox:=o10.lt;generalize hT:LK (zsh S.Z.c S.L S.Z.k) (HJ hh S.AS) rt lf A pg=T at *;have Al10:Al w7 w7.heap.size w8.heap.size S.n T w10 T:=⟨[],rfl,k10,os,o10,nlr _,by omega⟩;clear e8 e9 e10 o8 o9 k8 k9 k10' os k10 o10
 try dsimp only
 generalize hsb:w7.heap.size=sbk at *;generalize hbb:w8.heap.size=box at *;have put:=λ{f:Nat}{v:Int}{W:WD}{suf:List (Nat×Int)} (hv:0<=v/\v<=9) (h:Al w7 sbk box S.n T W ((f,v)::suf))=>h.put hN hlt hn.2.2 hv;generalize hZ:zsh S.Z.c S.L S.Z.k=Z at *;have l1:PS.l 1=Z.length:=by rw [P7.free.len,ef,lmp]
 have hfm:∀y,y∈Z->y.2<=10/\y.1+2^y.2<=S.n:=λy hy=>by
  obtain⟨a1,a2,_⟩:=L.B84 h (y:=y) (by rw [hZ];exact hy);exact⟨a1,a2⟩
 generalize hr1:((HJ hh S.AS).map (λf=>(f,(2:Int)))++((rt,3)::(lf,3)::(A.map (λf=>(f,3))++(pgF pg 32).map λf=>(f,4))))=rest1;have hT1:T=(J9 Z).map (λf=>(f,1))++rest1:=by rw [<- hT,<- hr1];rfl
 have hZl:Z.length<=1024:=by
  have h1:(J9 Z).length<=T.length:=by rw [hT1,lap,lmp];omega
  have h2:T.length=S.n:=by
   have:=congrArg List.length (rfl:T.map Prod.fst=T.map Prod.fst);have h3:∀l:List Nat,l.Nodup->(∀f∈l,f<S.n)->l.length<=S.n:=λl nd hl=>by
    have h4:=nd.length_le_of_subset (l₂:=range S.n) λf hf=>List.mem_range.2 (hl f hf);simpa using h4
   have h5:=h3 _ hN hlt;have h6:=PE S.n _ hcov;rw [lmp] at h5 h6;omega
  rw [A3r] at h1;have h3:∀l:List (Nat×Nat),l.length<=(l.map λy=>2^y.2).sum:=λl=>by
   induction l with
   | nil=>exact nlr _
   | cons y l ih=>
    have:=p2 y.2;simp only [List.length_cons,List.map_cons,List.sum_cons];omega
  have:=h3 Z;omega
 refine⟨_,_,_,rb Al10.kp (j:=1) rfl,λt W N=>∃q:Nat,t=q/\q<=Z.length/\N=Z.length-q/\Al w7 sbk box S.n T W ((J9 (Z.drop q)).map (λf=>(f,1))++rest1),⟨_,0,rfl,Nat.zero_le _,rfl,by rw [List.drop_zero,<- hT1];exact Al10⟩,?_⟩;rintro _ w12 _ ⟨q,rfl,hq,rfl,A12⟩;have P12:=P7.k A12.kp;refine AH (λhc=>?_) (λhc=>?_)
 .have hqz:q<Z.length:=by simp [l1] at hc;omega
  obtain⟨y,hy⟩:∃y,Z[q]? = some y:=⟨_,geg hqz⟩;obtain⟨g1,g2⟩:=hfm y (mog hy);obtain⟨cs,_,hR,hr⟩:=P12.free.el q (B93 y) (by rw [ef,gmp,hy];rfl);obtain rfl:cs=[vi (y.1:Int),vi (y.2:Int)]:=hR;rw [HO hy,show J9 (y::Z.drop (q+1))=List.range' y.1 (2^y.2)++J9 (Z.drop (q+1)) from List.flatMap_cons,F6,List.append_assoc] at A12;refine AA (P12.free.isp (by omega)) (Wi ⟨(y.1:Int),(y.2:Int),by rw [tnc];exact⟨hr 0 _ rfl,hr 1 _ rfl⟩,λw13 e13=>?_⟩);have o13:=AG e13;have k13:=kal e13;refine⟨wr2 o13,λw14 e14=>?_⟩;obtain⟨o14,k14'⟩:=JU o13 e14;have k14:AB AD w12 w14:=BO k13 k14' λx e=>by omega
  have hbk:=A12.bk
  try dsimp only
  generalize hY:w12.heap.size=Y at *;have A14:=A12.k k14;have hsh:wrap .i64 (1*2^min (Int.toNat (y.2:Int)) 64)=((2^y.2:Nat):Int):=B7y g1;have h10:2^y.2<=1024:=A8b g1;generalize 2^y.2=M at *;refine⟨_,(rd2 o14).1,λt W N=>∃j:Nat,t=((y.1+j:Nat):Int)/\j<=M/\N=M-j/\AX W Y [vi y.1,vi y.2]/\Al w7 sbk box S.n T W ((List.range' (y.1+j) (M-j)).map (λf=>(f,1))++((J9 (Z.drop (q+1))).map (λf=>(f,1))++rest1)),⟨M,0,rfl,Nat.zero_le _,rfl,o14,A14⟩,?_⟩;rintro _ w15 _ ⟨j,rfl,hj,rfl,o15,A15⟩;intro w16 e16;have k16:=kdr e16;have o16:=o15.k k16;have A16:=A15.k k16;refine⟨_,(rd2 o16).1,_,(rd2 o16).2,AA (by simp) ?_⟩;rw [hsh,wi (x:=(y.1:Int)+(M:Int)) (by omega)];refine AH (λhc2=>?_) (λhc2=>?_)
  .have hjl:j<M:=by rw [decide_eq_true_eq] at hc2;omega
   rw [show M-j=(M-(j+1))+1 by omega,List.range'_succ,List.map_cons,List.cons_append] at A16;refine(put (by decide) A16).AE ?_;rintro _ w17 ⟨rfl,A17,k17⟩;refine⟨rfl,M-(j+1),by omega,j+1,by rw [wi (by omega)];omega,hjl,rfl,o16.kx k17 (by omega),by rw [<- Nat.add_assoc];exact A17⟩
  .have:j=M:=by rw [decide_eq_false_iff_not] at hc2;omega
   subst this;refine⟨Z.length-(q+1),by omega,q+1,wzz,hqz,rfl,?_⟩;rw [Nat.sub_self] at A16;exact A16
 have hqe:q=Z.length:=by simp [l1] at hc;omega
 subst hqe;rw [List.drop_length] at A12;have A12:Al w7 sbk box S.n T w12 rest1:=A12;clear hc hq P12;generalize hr2:((rt,(3:Int))::(lf,3)::(A.map (λf=>(f,3))++(pgF pg 32).map λf=>(f,4)))=rest2 at hr1;refine⟨_,_,_,rb A12.kp (j:=2) rfl,λt W N=>∃q:Nat,t=q/\q<=S.AS/\N=S.AS-q/\Al w7 sbk box S.n T W ((((List.range' q (S.AS-q)).flatMap hh).map (λf=>(f,2)))++rest2),⟨_,0,rfl,Nat.zero_le _,rfl,by rw [<- hr1] at A12;exact A12⟩,?_⟩;rintro _ w13 _ ⟨q,rfl,hq,rfl,A13⟩;have P13:=P7.k A13.kp;refine AH (λhc=>?_) (λhc=>?_)
 .have hqc:q<S.AS:=by simp [l2] at hc;omega
  obtain⟨ha,hl,hcp,SL,hrb⟩:=P7.held.sl (i:=q) (x:=S.held q) (by rw [eh];exact MC hqc);rw [L.held] at SL;have SL:SlR GW 1 w7 ha hl hcp ((hh q).map λf:Nat=>(f:Int)):=SL;rw [show S.AS-q=(S.AS-(q+1))+1 by omega,List.range'_succ,List.flatMap_cons,F6,List.append_assoc] at A13;generalize hr3:(((List.range' (q+1) (S.AS-(q+1))).flatMap hh).map (λf=>(f,(2:Int))))++rest2=rest3 at *;have hx1:=L.O1 (i:=q);generalize hxs:hh q=xs at *;have hlx:hl=xs.length:=by rw [SL.len,lmp]
  refine AA (P13.held.isp (by omega)) (Wi ⟨ha,hl,hcp,A13.kp.AV hrb id,λt W N=>∃j:Nat,t=j/\j<=xs.length/\N=xs.length-j/\Al w7 sbk box S.n T W ((xs.drop j).map (λf=>(f,2))++rest3),⟨_,0,rfl,Nat.zero_le _,rfl,by rw [List.drop_zero];exact A13⟩,?_⟩);rintro _ w14 _ ⟨j,rfl,hj,rfl,A14⟩;have SL2:=SL.k GW.ED A14.kp;refine AH (λhc2=>?_) (λhc2=>?_)
  .have hjl:j<xs.length:=by simp at hc2;omega
   obtain⟨f,hf⟩:∃f,xs[j]? = some f:=⟨_,geg hjl⟩;rw [HO hf,List.map_cons,List.cons_append] at A14;refine AA (SL2.isp (by omega)) (Wi ⟨(f:Int),SL2.int (x:=(f:Int)) (by rw [gmp,hf];rfl),(put (by decide) A14).AE ?_⟩);rintro _ w15 ⟨rfl,A15,_⟩;exact⟨rfl,xs.length-(j+1),by omega,j+1,wzz,hjl,rfl,A15⟩
  .have:j=xs.length:=by simp at hc2;omega
   subst this;rw [List.drop_length] at A14;refine⟨S.AS-(q+1),by omega,q+1,wzz,hqc,rfl,?_⟩;rw [<- hr3] at A14;exact A14
 have hqe:q=S.AS:=by simp [l2] at hc;omega
 subst hqe;rw [Nat.sub_self] at A13;have A13:Al w7 sbk box S.n T w13 rest2:=A13;clear hc hq P13;generalize hr3:(A.map (λf=>(f,(3:Int)))++(pgF pg 32).map λf=>(f,4))=rest3 at hr2;rw [<- hr2] at A13;have Rk:=λ{W:WD} (h:AB AD w7 W)=>R7.k h;refine AA rfl ⟨(rt:Int),z0 (Rk A13.kp).r106,(put (by decide) A13).AE ?_⟩;rintro _ w14 ⟨rfl,A14,_⟩;refine⟨rfl,AA rfl ⟨(lf:Int),z0 (Rk A14.kp).r107,(put (by decide) A14).AE ?_⟩⟩;rintro _ w15 ⟨rfl,A15,_⟩;have hAl:tl=A.length:=by rw [R.row.len,lmp]
 have hAn:A.length<=2000:=by
  have:=L.cf;omega
 generalize hr4:(pgF pg 32).map (λf=>(f,(4:Int)))=rest4 at hr3;rw [<- hr3] at A15;refine⟨rfl,AA rfl ⟨ta,tl,tc,z0 (Rk A15.kp).r108,λt W N=>∃q:Nat,t=q/\q<=A.length/\N=A.length-q/\Al w7 sbk box S.n T W ((A.drop q).map (λf=>(f,3))++rest4),⟨_,0,rfl,Nat.zero_le _,rfl,by rw [List.drop_zero];exact A15⟩,?_⟩⟩;rintro _ w16 _ ⟨q,rfl,hq,rfl,A16⟩;refine AH (λhc=>?_) (λhc=>?_)
 .have hqa:q<A.length:=by simp at hc;omega
  obtain⟨f,hf⟩:∃f,A[q]? = some f:=⟨_,geg hqa⟩;rw [HO hf,List.map_cons,List.cons_append] at A16;obtain⟨ip,hrd⟩:=(Rk A16.kp).row.rd (i:=q) (x:=(f:Int)) (by rw [gmp,hf];rfl);refine AA ip (Wi ⟨(f:Int),hrd,(put (by decide) A16).AE ?_⟩);rintro _ w17 ⟨rfl,A17,_⟩;exact⟨rfl,A.length-(q+1),by omega,q+1,wzz,hqa,rfl,A17⟩
 have hqe:q=A.length:=by simp at hc;omega
 subst hqe;rw [List.drop_length] at A16;have A16:Al w7 sbk box S.n T w16 rest4:=A16;clear hc hq;intro w17 e17;have A17:=A16.k (kr.dr e17);have P17:=P7.k A17.kp;refine⟨_,_,_,rb A17.kp (j:=5) rfl,_,_,_,(λ_=>rb A17.kp (j:=4) rfl),AJ (λ_=>rfl) ⟨(S.AS:Int),(λ_=>z0 (Rk A17.kp).r3),AL (by rw [l5,l4];simp) λw18 e18 w19 e19=>?_⟩⟩;have m18:BJ w18 w17.heap.size []:=JL e18;have k18:AB AD w17 w18:=e18▸kr.allocMap _ _;have m19:BJ w19 w18.heap.size []:=JL e19;have k19:AB AD w18 w19:=e19▸kr.allocMap _ _;have hm1:=m18.lt;have hm2:=m19.lt;have m18':=m18.k k19;have A19:=A17.k (k18.tr k19);obtain⟨sb17,bx17⟩:=A17.bk;clear e17 e18 e19 m18
 try dsimp only
 generalize hmm1:w17.heap.size=m1 at *;generalize hmm2:w18.heap.size=m2 at *;obtain⟨cs,_,hR,hel⟩:=P7.procs.el 0 (FH S 1) (by rw [ep];rfl);obtain⟨a1,p1,c1,a2,p2',c2,a3,p3,c3,a4,p4,c4,rfl,_,SP,_⟩:=hR;have SP7:SlR KX 3 w7 a2 p2' c2 (CO pg 32):=by have:=SP;rw [show(FH S 1).B4w=CO pg 32 from L.B4w h] at this;exact this
 have lp:p2'=(CO pg 32).length:=SP7.len;have hMl:(CO pg 32).length<=32:=by
  exact Nat.le_trans (List.length_filterMap_le _ _) (by simp)
 have P19:=P7.k A19.kp;refine⟨_,_,_,rb A19.kp (j:=5) rfl,AA (P19.procs.isp (by omega)) (Wi ⟨a2,p2',c2,A19.kp.AV (hel 3 _ rfl) id,?_⟩)⟩;refine⟨λbb t W N=>bb=false/\∃q:Nat,t=q/\q<=(CO pg 32).length/\N=(CO pg 32).length-q/\Al w7 sbk box S.n T W ((frs ((CO pg 32).drop q)).map (λf=>(f,4)))/\BJ W m1 (slM ((CO pg 32).take q))/\BJ W m2 (pgM ((CO pg 32).take q)),⟨_,rfl,0,rfl,Nat.zero_le _,rfl,by rw [List.drop_zero,A60,hr4];exact A19,m18',m19⟩,?_⟩;rintro _ _ w20 _ ⟨rfl,q,rfl,hq,rfl,A20,M1,M2⟩;refine AH (λhc=>?_) (λhc=>?_)
 .have hql:q<(CO pg 32).length:=by simp [lp] at hc;omega
  obtain⟨x,hx⟩:∃x,(CO pg 32)[q]? = some x:=⟨_,geg hql⟩;obtain⟨j,hj,hcase⟩:=A1o (mog hx);have hxp:x.page=(j:Int):=by rcases hcase with⟨_,_,rfl⟩|⟨_,_,rfl⟩ <;> rfl
  have hnone:=B4t hx;have SPx:=SP7.k KX.ED A20.kp;obtain⟨cs,_,hR,hr⟩:=SPx.el q _ hx;obtain rfl:cs=[vi x.page,.int .u8 x.kind,vi x.n]:=hR;refine AA (SPx.isp (by omega)) (Wi ⟨x.page,x.kind,x.n,?_,λw21 e21=>?_⟩)
  .rw [tnc];exact⟨hr 0 _ rfl,hr 1 _ rfl,hr 2 _ rfl⟩
  have o21:=AG e21;have k21:=kal e21;refine⟨⟨o21.wr (by show 0<3;decide),o21.wr (by show 1<3;decide),o21.wr (by show 2<3;decide)⟩,λw22 e22=>?_⟩;obtain⟨o22,k22'⟩:=C6x o21 rfl e22;have k22:AB AD w20 w22:=BO k21 k22' λx e=>by omega
  have lm1:=M1.lt;have lm2:=M2.lt;have M1':=M1.k k22;have M2':=M2.k k22;obtain⟨sb20,bx20⟩:=A20.bk;have A22:=A20.k k22;clear e21 e22 k22' o21
  try dsimp only
  generalize hY:w20.heap.size=Y at *;refine⟨x.page,by rw [o22.rd];rfl,?_⟩;obtain⟨w23,hu,M23,k23⟩:=KL (P:=prog) (mt:=142) (kt:=3) underlying142 underlying3 M2' x.page (.bool true) (by omega) hnone;have o23:=o22.kx k23 (show ¬Y=m2 by omega);have M1'':=M1'.kx k23 (show ¬m1=m2 by omega);have A23:Al w7 sbk box S.n T w23 ((frs ((CO pg 32).drop q)).map (λf=>(f,4))):=by
   obtain⟨pre,e,h1⟩:=A22;exact⟨pre,e,BO h1.kp k23 (λx e=>by rw [e];have:=k18.sz;have:=A17.kp.sz;omega),h1.said.kx k23 (by omega),h1.bx.kx k23 (by omega),h1.lo,h1.ne⟩
  have hM2:pgM ((CO pg 32).take (q+1))=pgM ((CO pg 32).take q)++[(x.page,.bool true)]:=by
   unfold pgM;rw [LY hx,F6];rfl
  refine⟨w23,hu,x.kind,by rw [o23.rd];rfl,?_⟩;rcases hcase with⟨f,hpf,rfl⟩|⟨s,hps,rfl⟩
  .have hfr:frs ((CO pg 32).drop q)=f::frs ((CO pg 32).drop (q+1)):=by rw [HO hx];simp [frs]
   have hsl:slM ((CO pg 32).take (q+1))=slM ((CO pg 32).take q):=by unfold slM sls;rw [LY hx,List.filterMap_append];simp
   rw [hfr,List.map_cons] at A23;refine AA rfl ⟨(f:Int),by rw [o23.rd];rfl,(put (by decide) A23).AE ?_⟩;rintro _ w24 ⟨rfl,A24,k24⟩;exact⟨rfl,(CO pg 32).length-(q+1),by omega,rfl,q+1,wzz,hql,rfl,A24,by rw [hsl];exact M1''.kx k24 (by omega),by rw [hM2];exact M23.kx k24 (by omega)⟩
  .have hfr:frs ((CO pg 32).drop q)=frs ((CO pg 32).drop (q+1)):=by rw [HO hx];simp [frs]
   have hsl:slM ((CO pg 32).take (q+1))=slM ((CO pg 32).take q)++[((s:Int),vi 1)]:=by unfold slM sls;rw [LY hx,List.filterMap_append];simp
   have hsn:=L.B4d hx hps;have hs2:=(L.pgs j s hps).2.1;rw [hfr] at A23;have lk:=B1x (P:=prog) (mt:=90) (vt:=3) (kt:=3) underlying90 underlying3 M1'' (s:Int) (zeroValue3 w23);rw [hsn] at lk;obtain⟨w24,hu2,M24,k24⟩:=KL (P:=prog) (mt:=90) (vt:=3) (kt:=3) underlying90 underlying3 M1'' (s:Int) (vi 1) (by omega) hsn;have A24:Al w7 sbk box S.n T w24 ((frs ((CO pg 32).drop (q+1))).map (λf=>(f,4))):=by
    obtain⟨pre,e,h1⟩:=A23;exact⟨pre,e,BO h1.kp k24 (λx e=>by rw [e];have:=A17.kp.sz;omega),h1.said.kx k24 (by omega),h1.bx.kx k24 (by omega),h1.lo,h1.ne⟩
   refine AL rfl (AA rfl ⟨(s:Int),by rw [o23.rd];rfl,0,lk,w24,hu2,(CO pg 32).length-(q+1),by omega,rfl,q+1,wzz,hql,rfl,A24,by rw [hsl];exact M24,by rw [hM2];exact M23.kx k24 (by omega)⟩)
 have hqe:q=(CO pg 32).length:=by simp [lp] at hc;omega
 subst hqe;rw [List.take_length] at M1 M2;rw [List.drop_length] at A20;have A20:Al w7 sbk box S.n T w20 []:=A20;clear hc hq;have hw2:m1≠m2:=by omega
 refine⟨_,_,_,rb A20.kp (j:=4) rfl,λt W N=>∃q:Nat,t=q/\q<=S.AS/\N=S.AS-q/\Al w7 sbk box S.n T W []/\BJ W m1 (slM (CO pg 32)++flM (flS tk q))/\BJ W m2 (pgM (CO pg 32)),⟨_,0,rfl,Nat.zero_le _,rfl,A20,by rw [show flM (flS tk 0)=[] from rfl,List.append_nil];exact M1,M2⟩,?_⟩;clear M1 M2 A20;rintro _ w20 _ ⟨q,rfl,hq,rfl,A20,M1,M2⟩;have P20:=P7.k A20.kp;have lm1:=M1.lt;refine AH (λhc=>?_) (λhc=>?_)
 .have hqc:q<S.AS:=by simp [l4] at hc;omega
  have hfl:S.fli[q]? = some ((tk q).fl):=by rw [L.fli];exact MC hqc
  have hsu:flS tk (q+1)=flS tk q++(match (tk q).sl with|some s=>[s]|none=>[]):=by
   unfold flS;rw [List.range_succ,List.filterMap_append];congr 1
   cases h:(tk q).sl <;> simp [h]
  refine AA (P20.flight.isp (by omega)) (Wi ⟨(tk q).fl,P20.flight.int (by rw [efl];exact hfl),?_⟩)
  cases hs:(tk q).sl with
  | none=>
   have e:(tk q).fl=-1:=by unfold Tk.fl;rw [hs]
   rw [e];rw [hs] at hsu;exact AL (by decide) ⟨S.AS-(q+1),by omega,q+1,wzz,hqc,rfl,A20,by rw [hsu,List.append_nil];exact M1,M2⟩
  | some s=>
   have e:(tk q).fl=(s:Int):=by unfold Tk.fl;rw [hs]
   rw [e];rw [hs] at hsu;obtain⟨_,_,hs2,_⟩:=L.flO hs;have hsn:=L.B5y hs;have lk:=B1x (P:=prog) (mt:=90) (vt:=3) (kt:=3) underlying90 underlying3 M1 (s:Int) (zeroValue3 w20);rw [hsn] at lk;obtain⟨w24,hu2,M24,k24⟩:=KL (P:=prog) (mt:=90) (vt:=3) (kt:=3) underlying90 underlying3 M1 (s:Int) (vi 1) (by omega) hsn;have A24:Al w7 sbk box S.n T w24 []:=by
    obtain⟨pre,e,h1⟩:=A20;exact⟨pre,e,BO h1.kp k24 (λx e=>by rw [e];have:=A17.kp.sz;omega),h1.said.kx k24 (by omega),h1.bx.kx k24 (by omega),h1.lo,h1.ne⟩
   exact AA (by simp) ⟨0,lk,w24,hu2,S.AS-(q+1),by omega,q+1,wzz,hqc,rfl,A24,by rw [hsu];unfold flM at M24 ⊢;rw [F6,<- List.append_assoc];exact M24,M2.kx k24 (by omega)⟩
 have hqe:q=S.AS:=by simp [l4] at hc;omega
 subst hqe;clear hc hq;have hol:(owns S.AY S.sof).length<=1024:=by
  have:=L.slN hsup;have h2:=NU pg 32;have h3:=A48 tk S.AS;have h4:=A1g S.AY S.sof;omega
 refine⟨_,_,_,rb A20.kp (j:=8) rfl,λbb t W N=>∃q:Nat,t=q/\q<=(owns S.AY S.sof).length/\N=(owns S.AY S.sof).length-q/\AB AD w20 W,⟨_,0,rfl,Nat.zero_le _,rfl,AB.refl _ _⟩,?_⟩;rintro bb _ w21 _ ⟨q,rfl,hq,rfl,k21⟩;have A21:=A20.k k21;have P21:=P7.k A21.kp;refine AH (λhc=>?_) (λhc=>?_)
 .have hqc:q<(owns S.AY S.sof).length:=by simp [l8] at hc;omega
  obtain⟨x,hx⟩:∃x,(owns S.AY S.sof)[q]? = some x:=⟨_,geg hqc⟩;obtain⟨j,s,hps,rfl⟩:=L.slO (mog hx);obtain⟨cs,_,hR,hr⟩:=P21.AY.el q _ (by rw [esl];exact hx);obtain rfl:cs=[vi (s:Int),vi 1,vi (j:Int)]:=hR;refine AA (P21.AY.isp (by omega)) (Wi ⟨(s:Int),1,(j:Int),by rw [tnc];exact⟨hr 0 _ rfl,hr 1 _ rfl,hr 2 _ rfl⟩,λw22 e22=>?_⟩);have o22:=AG e22;have k22:=kal e22;refine⟨⟨o22.wr (by show 0<3;decide),o22.wr (by show 1<3;decide),o22.wr (by show 2<3;decide)⟩,λw23 e23=>?_⟩;obtain⟨o23,k23'⟩:=C6x o22 rfl e23;have k23:AB AD w21 w23:=BO k22 k23' λx e=>by omega
  have lk:=B1x (P:=prog) (mt:=90) (vt:=3) (kt:=3) underlying90 underlying3 (M1.k (k21.tr k23)) (s:Int) (zeroValue3 w23);rw [L.B4c M1 hps] at lk;exact⟨(s:Int),by rw [o23.rd];rfl,1,lk,1,(λ_=>by rw [o23.rd];rfl),AL (by decide) ⟨(owns S.AY S.sof).length-(q+1),by omega,q+1,wzz,hqc,rfl,k21.tr k23⟩⟩
 clear hc hq q;have D:=A21.fin;refine⟨_,_,_,by rw [D.bx.rd];rfl,λ_ t W N=>∃q:Nat,t=q/\q<=S.n/\N=S.n-q/\W=w21,⟨_,0,rfl,Nat.zero_le _,rfl,rfl⟩,?_⟩;rintro _ _ w21 _ ⟨q,rfl,hq,rfl,rfl⟩;refine AH (λhc=>?_) (λhc=>?_)
 .have hqn:q<S.n:=by simp at hc;omega
  obtain⟨v,hv1,hv2⟩:=A40 (hcov q hqn);have hsd:sd T q=v:=by unfold sd;rw [hv1]
  have hcl:=L.C4m h (f:=q) (v:=v) (by rw [hZ,hT];exact hv2);obtain⟨cs,_,hR,hr⟩:=P21.marks.el q (S.mks q) (by rw [em];exact MC hqn);obtain rfl:cs=[.int .u8 (S.mks q).role,vi (S.mks q).order,vi (S.mks q).owner,vi (S.mks q).page,vi (S.mks q).index]:=hR;refine AA rfl (Wi ⟨v,?_,_,_,_,rb A21.kp (j:=0) rfl,AA (P21.marks.isp (by omega)) (Wi ⟨(S.mks q).role,by rw [tnc];exact hr 0 _ rfl,AL ?_ ⟨S.n-(q+1),by omega,q+1,wzz,hqn,rfl,rfl⟩⟩)⟩)
  .rw [tnc,mo]
   show rd w21 sbk (0+q)=_
   rw [za,D.said.rd,AZ _ _ _ _ _ hqn,za,hsd]
  .rcases hcl with⟨rfl,e⟩|⟨rfl,e⟩|⟨rfl,e⟩|⟨rfl,j,e⟩ <;> rw [e] <;> rfl
 intro w22 e22;have k22:=kdr e22;have A22:=A21.k k22;have l1':=B1r (t:=90) (ty:=3) (by rw [underlying90];rfl) (M1.k (k21.tr k22));have l2':=B1r (t:=142) (ty:=3) (by rw [underlying142];rfl) (M2.k (k21.tr k22));have e1:(slM (CO pg 32)++flM (flS tk S.AS)).length=(owns S.AY S.sof).length:=by
  unfold slM flM;rw [lap,lmp,lmp,NF,L.slN hsup]
 have e2:(pgM (CO pg 32)).length=tot:=by unfold pgM;rw [lmp,hsup]
 refine⟨_,l1',_,_,_,rb A22.kp (j:=8) rfl,_,(λ_=>l2'),AJ (λ_=>rfl) ⟨pa,tot,pc,(λ_=>z0 (Rk A22.kp).r96),?_,K7.tr A22.kp⟩⟩;rw [e1,e2,l8];simp
theorem vc57(s:OA)(sL sC:Nat)(w:WD)(K:KV)(h:Q (Wif (isNone s) (K (sl none 0 0) w) (AW w #[] 5 λw'=>∃(a:OA) (l c:Nat) (b:WD),BL prog #[81,81] 81 (sl (aD w.heap.size) 0 0) (sl s sL sC) (sl a l c) w' b/\K (sl a l c) b))):Ret 57 #[sl s sL sC] w K:=vcA L7 2 [] func57 h
theorem B8x:(prog.info? 5).map (λi=>(i.zero,i.size,i.bytes))=some (some (.int .u8 0),1,1):=by kernel_rfl
structure FZ(w:WD)(a:OA)(l:Nat)(f:NI):Prop where
 p:0<l->isP a=true
 at':∀i,i<l->rd w (pb a) (po a+i)=some (.int .u8 (f i))
theorem A5l {w:WD}{X off n:Nat}{f:NI} (h:AX w X (AQ .u8 f 0 n)) (hl:off+l<=n) (hn:l<=1000000) :
    Calls prog 57 #[.slice (some ⟨X,off,none⟩) l c] w λe w'=>∃a c',e=.returned (.slice a l c')/\AB AD w w'/\FZ w' a l λi=>f (off+i):=by
  refine(vc57 (some ⟨X,off,none⟩) l c w (λv w'=>∃a c',v=(.slice a l c')/\AB AD w w'/\FZ w' a l λi=>f (off+i)) ?_).AE ?_
  rotate_left
  . rintro e w' ⟨v,rfl,a',c',rfl,h⟩
    exact⟨a',c',rfl,h⟩
  unfold Q;refine AL rfl λw1 e1=>?_;have k1:=kal e1;have r1:w1.ownsRow w.heap.size 5 1 _ 0 []:=C4n e1
  cases hi:prog.info? 5 with
  | none => have : (prog.info? 5).isSome = true := by kernel_rfl
            rw [hi] at this; cases this
  | some i=>
    have hinf:=B8x;rw [hi] at hinf;simp at hinf;have hys:((AQ .u8 f 0 n).drop off).take l=AQ .u8 (λj=>f (off+j)) 0 l:=by
      refine DX (by rw [List.length_take,List.length_drop,AM];omega) λj hj=>?_;rw [List.getElem?_take_of_lt hj,List.getElem?_drop,AZ _ _ _ _ _ (by omega),za]
    obtain⟨a',l',c',w2,happ,hl',row,k2⟩:=A5p (P:=prog) (t:=81) (ty:=81) (e:=5) (i:=i) (z:=.int .u8 0) (size:=1) underlying81 hi hinf.1 hinf.2.1 rfl (by decide) r1 (h.k k1) (m:=l) (off:=off) (c:=c) (news:=AQ .u8 (λj=>f (off+j)) 0 l) (by simpa using hys) (by simp [AM]) (B8h _ _) (by omega) (by omega) k1.sz;have hl2:l'=l:=by omega
    subst hl2;refine⟨a',_,c',w2,happ,a',c',rfl,BO k1 k2 λx e=>(r1.lt x e).1,?_⟩;obtain⟨_,⟨rfl,h0,_⟩|⟨g,cs,rfl,_,o,htk,_,_⟩⟩:=CN row
    . exact⟨λhp=>by omega,λi hi=>by omega⟩
    . refine⟨λ_=>rfl,λi hi=>?_⟩
      show rd w2 g (0+i)=_
      rw [za,o.rd];have h1:(cs.take ((0+l')*1))[i]? = (([]:List Value)++AQ .u8 (λj=>f (off+j)) 0 l')[i]? := by rw [htk]
      rw [List.getElem?_take_of_lt (by omega),List.nil_append,AZ _ _ _ _ _ hi,za] at h1;exact h1
section
variable {w:WD}{m bb mb n:Nat}{c:NI}{by':NI}{mk:Nat->Mark}
theorem A8h(h:BU w m bb mb c n by' mk)(hn:n<=1024)(hf:f<n) :
 Calls prog 23 #[AP m,vi f,vi 0,vi 256] w λe w'=>∃a c',e=.returned (.tuple #[.slice a 256 c',vi 0])/\AB AD w w'/\FZ w' a 256 λi=>by' (f*256+i):=by
 refine(vc23 _ f 0 256 w (λv w'=>∃a c',v=(.tuple #[.slice a 256 c',vi 0])/\AB AD w w'/\FZ w' a 256 λi=>by' (f*256+i)) ?_).AE ?_
 rotate_left
 .rintro e w' ⟨v,rfl,a',c',rfl,h⟩;exact⟨a',c',rfl,h⟩
 have h95:rd w m (0+95)=some (.slice (some ⟨mb,0,none⟩) n n):=by rw [za];exact h.r95
 have h94:rd w m (0+94)=some (.slice (some ⟨bb,0,none⟩) (n*256) (n*256)):=by rw [za];exact h.r94
 unfold Q;refine AJ (λ_=>rfl) ⟨_,_,_,λ_=>h95,AL rfl (AJ (λ_=>rfl) ⟨_,_,_,λ_=>h95,AL (by simp;omega) (AL (by decide) (AA rfl ⟨_,_,_,h94,?_⟩))⟩)⟩;rw [wi (x:=(f:Int)+1) (by omega),wi (x:=(f:Int)*256) (by omega),wi (x:=((f:Int)+1)*256) (by omega),wi (x:=(0:Int)+256) (by decide)];rw [show Int.toNat ((f:Int)*256)=f*256 by omega,show Int.toNat (((f:Int)+1)*256)=f*256+256 by omega,show f*256+256-f*256=256 by omega];refine AA BR (AA BR (AA (by decide) ?_));have eo:BS (BS (some ⟨bb,0,none⟩) (f*256+256) (f*256) 1) 256 (Int.toNat 0) 1=some ⟨bb,f*256,none⟩:=by
  rw [B1c (by omega) (by decide)];rfl
 rw [eo];refine(A5l (off:=f*256) (l:=256) h.bs (by omega) (by decide)).AE ?_;rintro e w' ⟨a,c',rfl,k',B⟩;exact⟨a,256,c',rfl,a,c',rfl,k',B⟩
end
section
variable {w:WD}{d db n:Nat}{f:NI}
theorem A8x(h:LW w d db n f)(hi:i<n)(hn:n<=1024) :
 Calls prog 59 #[AP d,vi i,.bool false] w λe w'=>∃a c',e=.returned (.tuple #[.slice a 256 c',vi 0])/\AB AD w w'/\FZ w' a 256 λj=>f (i*256+j):=by
 refine(vc59 _ i false w (λv w'=>∃a c',v=(.tuple #[.slice a 256 c',vi 0])/\AB AD w w'/\FZ w' a 256 λj=>f (i*256+j)) ?_).AE ?_
 rotate_left
 .rintro e w' ⟨v,rfl,a',c',rfl,h⟩;exact⟨a',c',rfl,h⟩
 unfold Q;refine(A1v h hi hn).AE ?_;rintro _ wx ⟨rfl,hwx⟩;rw [hwx];refine⟨_,_,rfl,AL rfl (AL rfl (AA rfl ⟨λj=>f (i*256+j),h.bs.run _ (λj hj=>by show(AQ .u8 f 0 (n*256))[i*256+j]? = _;rw [AZ _ _ _ _ _ (by omega),za]),λw1 e1=>?_⟩))⟩;have o1:=AG e1;have k1:=kal e1;refine⟨o1.DJ 0 (by simp [AM]),λw2 e2=>?_⟩;obtain⟨o2,k2⟩:=F4 o1 e2 (by simp [AM]);refine⟨_,_,rfl,BO k1 k2 λx e=>Nat.le_of_eq e.symm,λ_=>rfl,λj hj=>?_⟩
 show rd w2 w.heap.size (0+j)=_
 rw [za,o2.rd,AZ _ _ _ _ _ hj,za]
end
section
variable {w:WD}{k:Nat}{S:AR}{fp:Prt->Nat->Prop}
theorem B25(h:AO w k S fp)(hf:f<S.n) :
 Calls prog 23 #[AP S.pm,vi f,vi 0,vi 256] w λe w'=>∃a c',e=.returned (.tuple #[.slice a 256 c',vi 0])/\AB AD w w'/\FZ w' a 256 λi=>S.by' (f*256+i):=by
 obtain⟨bb,mb,M,_⟩:=h.mem;exact A8h M h.n4.2.2 hf
theorem A86(h:AO w k S fp)(hi:i<S.AY) :
 Calls prog 59 #[AP S.pd,vi i,.bool false] w λe w'=>∃a c',e=.returned (.tuple #[.slice a 256 c',vi 0])/\AB AD w w'/\FZ w' a 256 λj=>S.dv (i*256+j):=by
 obtain⟨db,D,f1,f2⟩:∃db,LW w S.pd db S.AY S.dv/\fp .dev S.pd/\fp .dev db:=h.at' .dev;exact A8x D hi h.BQ.2.2.1
end
set_option maxHeartbeats 8000000 in
theorem B15{w:WD}{k:Nat}{rt cnt tot:Nat}{hh:Nat->List Nat}{tk:Nat->Tk}(h:AO w k S fp)(L:QSt S rt lf pg pin A hh tk cnt tot)
 (r0:rd w b 0=some (AP k)) (r96:rd w b 96=some (.slice pa pl pc)) (r97:rd w b 97=some (.slice ia il ic)) (r106:rd w b 106=some (vi rt)) (PG:D3 w pa pl pf) (PN:D3 w ia il nf) (hpl:pl<=32) (hil:il<=64) (hrg:∀i,i<pl->0<=pf i/\pf i<=31)
 (hsup:∀j:Nat,(∃i,i<pl/\pf i=j)->pg j≠.no) (hpin:∀j:Nat,(∃i,i<il/\nf i=j)->(∃i,i<pl/\pf i=j)->∃f,pg j=.fr f) :
 Calls prog 25 #[AP b] w λe w'=>e=.returned (.bool true)/\AB AD w w':=by
 refine(vc25 (some ⟨b,0,none⟩) w (λv w'=>v=.bool true/\AB AD w w') ?_).AE ?_
 rotate_left
 .rintro e w' ⟨v,rfl,rfl,h⟩;exact⟨rfl,h⟩
 have rr:∀{W:WD}{j:Nat}{v:Value},AB AD w W->rd w b j=some v->rd W b (0+j)=some v:=λkk e=>by rw [za];exact kk.AV e id
 have kr:=AB.refl AD w;unfold Q;refine AA rfl ⟨pa,pl,pc,rr kr r96,λ_ t W N=>∃q:Nat,t=q/\q<=pl/\N=pl-q/\AB AD w W,⟨pl,0,rfl,Nat.zero_le _,rfl,kr⟩,?_⟩;rintro bb _ w1 _ ⟨q,rfl,hq,rfl,k1⟩;refine AH (λhc=>?_) (λhc=>?_)
 .have hqp:q<pl:=by simp at hc;omega
  obtain⟨g1',g2'⟩:=hrg q hqp;obtain⟨p,hp⟩:∃p:Nat,pf q=p:=⟨(pf q).toNat,by omega⟩;have hp32:p<32:=by omega
  have hno:=hsup p ⟨q,hqp,hp⟩;have hbv:∀j:Nat,j<256->wrap .u8 (wrap .i64 ((p:Int)+(j:Int)))=DK p j:=λj hj=>by
   rw [wi (by omega)]
   show((p:Int)+j)%256=_
   unfold DK;omega
  obtain⟨g1,g2,g3⟩:=L.get h hp32;rw [L.root] at g1 g2 g3;refine AA (PG.p (by omega)).1 (Wi ⟨(p:Int),by rw [tnc,mo,<- hp];exact(PG.k k1).at' q hqp,λx n W=>∃Y:Nat,x=some ⟨Y,0,none⟩/\n=gtE S.by' S.n rt p/\AB AD w W/\AX W Y [.int .u8 (gtK S.by' S.n rt p),vi (gtN S.by' S.n rt p)],λw2 e2=>?_,?_⟩)
  .have k0:AB AD w w2:=k1.dr e2;have c2:=h.k k0;refine AA rfl ⟨_,rr k0 r0,AA rfl ⟨_,c2.rtW (AB.refl _ _) (j:=0) rfl,AA rfl ⟨(rt:Int),rr k0 r106,?_,λw3 e3=>?_⟩⟩⟩
   .refine(OB c2 L.by' rt p).AE ?_;rintro _ w3 ⟨rfl,k3⟩;refine⟨_,_,_,rfl,λw4 e4=>?_⟩;have o3:=AG e4;have k3':=kal e4;refine⟨⟨o3.wr (by decide),o3.wr (by decide)⟩,λW4 E4=>?_⟩;have k4':AB (·=w3.heap.size) w4 W4:=by rw [E4];exact((AB.refl (·=w3.heap.size) w4).st (.inl rfl)).st (.inl rfl)
    exact⟨_,rfl,rfl,k0.tr (k3.tr (BO k3' k4' λx e=>Nat.le_of_eq e.symm)),o3.s2 E4⟩
   .have o3:=AG e3;have k3':=kal e3;have c3:=c2.k k3';have k03:=k0.tr k3';refine⟨⟨rr k03 r106,trivial⟩,⟨c3.rtW (AB.refl _ _) (j:=0) rfl,trivial⟩,⟨rr k03 r0,trivial⟩,(OB c3 L.by' rt p).AE ?_⟩;rintro _ w4 ⟨rfl,k3⟩;have o3':=o3.k k3;refine⟨_,_,_,rfl,⟨o3'.wr (by decide),o3'.wr (by decide)⟩,λW4 E4=>?_⟩;have k4':AB (·=w2.heap.size) w4 W4:=by rw [E4];exact((AB.refl (·=w2.heap.size) w4).st (.inl rfl)).st (.inl rfl)
    exact⟨_,rfl,rfl,k0.tr (BO (k3'.tr k3) k4' λx e=>Nat.le_of_eq e.symm),o3'.s2 E4⟩
  rintro _ _ W4 ⟨Y,rfl,rfl,K4,o4⟩;rw [g2,g3] at o4;have c4:=h.k K4;have rY:∀{W:WD}{j:Nat}{v:Value},AB AD W4 W->rd W4 Y j=some v->rd W Y (0+j)=some v:=λkk e=>by rw [za];exact kk.AV e id
  refine AL (by rw [g1];rfl) ?_
  cases hpg:pg p with
  | no=>exact absurd hpg hno
  | fr f=>
   rw [hpg] at o4;have hfn:=(L.pgo p f hpg).2.1;refine AA rfl ⟨1,rY (j:=0) (AB.refl _ _) (by rw [o4.rd];rfl),AA rfl λw5 e5=>?_⟩;have k5:=kdr e5;have c5:=c4.k k5;have K5:=K4.tr k5;refine AA rfl ⟨_,rr K5 r0,AA rfl ⟨_,c5.rtW (AB.refl _ _) (j:=0) rfl,AA rfl ⟨(f:Int),rY (j:=1) k5 (by rw [o4.rd];rfl),(B25 c5 hfn).AE ?_⟩⟩⟩;rintro _ w6 ⟨a,c',rfl,k6,B⟩;have K6:=K5.tr k6;refine⟨a,256,c',0,rfl,AJ (λ_=>rfl) ⟨ia,il,ic,(λ_=>rr K6 r97),AL (by decide) ((A1i (PN.k K6) (by omega) (p:Int)).AE ?_)⟩⟩;rintro _ wx ⟨rfl,hwx⟩;rw [hwx];refine⟨_,rfl,AJ (λ_=>rfl) ⟨1,(λ_=>rY (j:=0) (k5.tr k6) (by rw [o4.rd];rfl)),AL (by simp) ⟨λ_ t W N=>∃j:Nat,t=j/\j<=256/\N=256-j/\W=w6,⟨256,0,rfl,by decide,rfl,rfl⟩,?_⟩⟩⟩;rintro _ _ w7 _ ⟨j,rfl,hj,rfl,rfl⟩;refine AH (λhc2=>?_) (λhc2=>?_)
   .have hjl:j<256:=by simp at hc2;omega
    refine AA (B.p (by decide)) (Wi ⟨DK p j,by rw [tnc,mo,B.at' j hjl,L.byf p f hpg j hjl],AL (by rw [hbv j hjl];simp) ⟨256-(j+1),by omega,j+1,wzz,hjl,rfl,rfl⟩⟩)
   .exact⟨pl-(q+1),by omega,q+1,wzz,hqp,rfl,K6⟩
  | sl s=>
   rw [hpg] at o4;have hsn:=(L.pgs p s hpg).2.1;refine AA rfl ⟨2,rY (j:=0) (AB.refl _ _) (by rw [o4.rd];rfl),AL rfl (AA rfl λw5 e5=>?_)⟩;have k5:=kdr e5;have c5:=c4.k k5;have K5:=K4.tr k5;refine AA rfl ⟨_,rr K5 r0,AA rfl ⟨_,c5.rtW (AB.refl _ _) (j:=2) rfl,AA rfl ⟨(s:Int),rY (j:=1) k5 (by rw [o4.rd];rfl),(A86 c5 hsn).AE ?_⟩⟩⟩;rintro _ w6 ⟨a,c',rfl,k6,B⟩;have K6:=K5.tr k6;have hnp:¬∃i,i<il/\nf i=(p:Int):=λhi=>by
    obtain⟨f,hf⟩:=hpin p hi ⟨q,hqp,hp⟩;rw [hpg] at hf
    cases hf
   refine⟨a,256,c',0,rfl,AJ (λ_=>rfl) ⟨ia,il,ic,(λ_=>rr K6 r97),AL (by decide) ((A1i (PN.k K6) (by omega) (p:Int)).AE ?_)⟩⟩;rintro _ wx ⟨rfl,hwx⟩;rw [hwx];refine⟨_,rfl,AJ (λ_=>rfl) ⟨2,(λ_=>rY (j:=0) (k5.tr k6) (by rw [o4.rd];rfl)),AL (by rw [decide_eq_false hnp];rfl) ⟨λ_ t W N=>∃j:Nat,t=j/\j<=256/\N=256-j/\W=w6,⟨256,0,rfl,by decide,rfl,rfl⟩,?_⟩⟩⟩;rintro _ _ w7 _ ⟨j,rfl,hj,rfl,rfl⟩;refine AH (λhc2=>?_) (λhc2=>?_)
   .have hjl:j<256:=by simp at hc2;omega
    refine AA (B.p (by decide)) (Wi ⟨DK p j,by rw [tnc,mo,B.at' j hjl,L.bys p s hpg j hjl],AL (by rw [hbv j hjl];simp) ⟨256-(j+1),by omega,j+1,wzz,hjl,rfl,rfl⟩⟩)
   .exact⟨pl-(q+1),by omega,q+1,wzz,hqp,rfl,K6⟩
 .exact⟨rfl,k1⟩
theorem vc28(c0:NI)(w:WD)(K:KV)(h:Q (AW w (List.toArray (AQ .i64 c0 0 94)) 26 λw'=>RI w' w.heap.size 0 λx=>∃(l:Int),(decide (x<1)=false->rd w' w.heap.size 0=some (.int .i64 l))/\∃(o:Int),((decide (x<1)||decide (l>8))=false->rd w' w.heap.size 1=some (.int .i64 o))/\∃(p:Int),((decide (x<1)||decide (l>8)||decide (o<1))=false->rd w' w.heap.size 1=some (.int .i64 p))/\∃(q:Int),((decide (x<1)||decide (l>8)||decide (o<1)||decide (p>16))=false->rd w' w.heap.size 90=some (.int .i64 q))/\∃(u:Int),((decide (x<1)||decide (l>8)||decide (o<1)||decide (p>16)||decide (q<0))=false->rd w' w.heap.size 90=some (.int .i64 u))/\Wif (decide (x<1)||decide (l>8)||decide (o<1)||decide (p>16)||decide (q<0)||decide (u>1024)) (K (.bool false) w') (∃(I:Bool->Int->WD->Nat->Prop),(∃(n:Nat),I false 0 w' n)/\∀(b:Bool) (n:Int) (w':WD) (y:Nat),I b n w' y->Wif (decide (n<16)) (Dr w' λi=>RI i w.heap.size 1 λx=>gIf (inB n 16) (decide (n<x)=true) (∃(a:Int),(decide (n<x)=true->rd i w.heap.size (2+n.toNat*1)=some (.int .i64 a))/\gIf (inB n 16) (decide (n<x)=true/\decide (a<0)=false) (∃(c:Int),(decide (n<x)=true/\decide (a<0)=false->rd i w.heap.size (2+n.toNat*1)=some (.int .i64 c))/\∃(g:Int),(decide (n<x)=true/\decide (a<0)=false->rd i w.heap.size 0=some (.int .i64 g))/\∃(h:Int),((decide (n<x)&&(decide (a<0)||decide (c>=g)))=false->rd i w.heap.size 1=some (.int .i64 h))/\gIf (inB n 16) ((decide (n<x)&&(decide (a<0)||decide (c>=g)))=false/\decide (n>=h)=true) (∃(j:Int),((decide (n<x)&&(decide (a<0)||decide (c>=g)))=false/\decide (n>=h)=true->rd i w.heap.size (2+n.toNat*1)=some (.int .i64 j))/\Wif (decide (n<x)&&(decide (a<0)||decide (c>=g))||decide (n>=h)&&j != 0) (K (.bool false) i) (Lt y λm=>I b (wrap .i64 (n+1)) i m))))) (∃(I:Bool->Int->WD->Nat->Prop),(∃(n:Nat),I b 0 w' n)/\∀(b:Bool) (n:Int) (w':WD) (z:Nat),I b n w' z->Wif (decide (n<8)) (RI w' w.heap.size 0 λx=>Dr w' λi=>gIf (inB n 8) (decide (n<x)=true) (∃(a:Int),(decide (n<x)=true->rd i w.heap.size (18+n.toNat*1)=some (.int .i64 a))/\gIf (inB n 8) (decide (n<x)=true/\decide (a<4)=false) (∃(c:Int),(decide (n<x)=true/\decide (a<4)=false->rd i w.heap.size (18+n.toNat*1)=some (.int .i64 c))/\gIf (inB n 8) (decide (n<x)=true/\(decide (a<4)||decide (c>128))=false) (∃(g:Int),(decide (n<x)=true/\(decide (a<4)||decide (c>128))=false->rd i w.heap.size (18+n.toNat*1)=some (.int .i64 g))/\∃(h:Int),(decide (n<x)=true/\(decide (a<4)||decide (c>128))=false->rd i w.heap.size 93=some (.int .i64 h))/\gIf (inB n 8) ((decide (n<x)&&(decide (a<4)||decide (c>128)||decide (g<h)))=false/\(!decide (n<x))=true) (∃(j:Int),((decide (n<x)&&(decide (a<4)||decide (c>128)||decide (g<h)))=false/\(!decide (n<x))=true->rd i w.heap.size (18+n.toNat*1)=some (.int .i64 j))/\Wif (decide (n<x)&&(decide (a<4)||decide (c>128)||decide (g<h))||!decide (n<x)&&j != 0) (K (.bool false) i) (∃(r:Bool->Int->WD->Nat->Prop),(∃(n:Nat),r b 0 i n)/\∀(b:Bool) (d:Int) (w':WD) (A:Nat),r b d w' A->Wif (decide (d<8)) (Wn n 8 (Wn d 8 (RI w' w.heap.size (26+n.toNat*8+d.toNat*1) λf=>∃(s:Int),((!decide (n<x))=false->rd w' w.heap.size 0=some (.int .i64 s))/\Wif ((!decide (n<x)||decide (d>=s)||n==d)&&f != 0) (K (.bool false) w') (∃(k:Int),(decide (n<x)=true->rd w' w.heap.size 0=some (.int .i64 k))/\gIf (inB d 8) ((decide (n<x)&&decide (d<k)&&n != d)=true/\(decide (f<1)||decide (f>255))=false) (gIf (inB n 8) ((decide (n<x)&&decide (d<k)&&n != d)=true/\(decide (f<1)||decide (f>255))=false) (∃(t:Int),((decide (n<x)&&decide (d<k)&&n != d)=true/\(decide (f<1)||decide (f>255))=false->rd w' w.heap.size (26+d.toNat*8+n.toNat*1)=some (.int .i64 t))/\Wif (decide (n<x)&&decide (d<k)&&n != d&&(decide (f<1)||decide (f>255)||f != t)) (K (.bool false) w') (Lt A λm=>r b (wrap .i64 (d+1)) w' m))))))) (Lt z λm=>I b (wrap .i64 (n+1)) w' m))))))) (RI w' w.heap.size 91 λx=>∃(a:Int),(decide (x>=0)=true->rd w' w.heap.size 92=some (.int .i64 a))/\∃(c:Int),(decide (x>=0)=true->rd w' w.heap.size 91=some (.int .i64 c))/\∃(g:Int),((decide (x>=0)&&decide (a>=c))=true->rd w' w.heap.size 93=some (.int .i64 g))/\∃(h:Int),((decide (x>=0)&&decide (a>=c))=true->rd w' w.heap.size 92=some (.int .i64 h))/\K (.bool (decide (x>=0)&&decide (a>=c)&&decide (g>=h))) w'))))):Ret 28 #[agg (List.toArray (AQ .i64 c0 0 94))] w K:=vcA L16 2 [] func28 h
theorem vc29(c0:NI)(w:WD)(K:KV)(h:Q (AW w (List.toArray (AQ .i64 c0 0 94)) 26 λw'=>∃(I:OA->Nat->Nat->Int->WD->Nat->Prop),(∃(n:Nat),I none 0 0 0 w' n)/\∀(a:OA) (l c:Nat) (n:Int) (w':WD) (h:Nat),I a l c n w' h->∃(x:NI),BB w' w.heap.size 0 (AQ .i64 x 0 94)/\CB 28 #[agg (List.toArray (AQ .i64 x 0 94))] w' λb w'=>∃(x:Int),(b=true->rd w' w.heap.size 0=some (.int .i64 x))/\Wif (b&&decide (n<x)) (∃(d:OA->Nat->Nat->Int->WD->Nat->Prop),(∃(n:Nat),d a l c 0 w' n)/\∀(a:OA) (l c:Nat) (f:Int) (w':WD) (i:Nat),d a l c f w' i->Wn n 8 (RI w' w.heap.size (18+n.toNat*1) λx=>Wif (decide (f<x)) (AW w' #[vi n] 3 λo=>∃(j:OA) (k c_1:Nat) (g:WD),BL prog #[27,27] 27 (sl a l c) (sl (aD w'.heap.size) 1 1) (sl j k c_1) o g/\Lt i λm=>d j k c_1 (wrap .i64 (f+1)) g m) (Lt h λm=>I a l c (wrap .i64 (n+1)) w' m))) (K (sl a l c) w'))):Ret 29 #[agg (List.toArray (AQ .i64 c0 0 94))] w K:=vcA L16 2 [] func29 h
def RP1(c:NI)(i:Nat):Prop:=((i:Int)<c 1->0<=c (2+i)/\c (2+i)<c 0)/\(c 1<=(i:Int)->c (2+i)=0)
def RP2(c:NI)(i:Nat):Prop:=((i:Int)<c 0->4<=c (18+i)/\c (18+i)<=128/\c 93<=c (18+i))/\(c 0<=(i:Int)->c (18+i)=0)
def RP3(c:NI)(i k:Nat):Prop:=((c 0<=(i:Int)\/c 0<=(k:Int)\/i=k)->c (26+i*8+k)=0)/\((i:Int)<c 0/\(k:Int)<c 0/\i≠k->1<=c (26+i*8+k)/\c (26+i*8+k)<=255/\c (26+i*8+k)=c (26+k*8+i))
def RP0(c:NI):Prop:=(1<=c 0/\c 0<=8)/\(1<=c 1/\c 1<=16)/\(0<=c 90/\c 90<=1024)
def RPM(c:NI):Prop:=RP0 c/\(∀i,i<16->RP1 c i)/\(∀i,i<8->RP2 c i/\∀k,k<8->RP3 c i k)/\0<=c 91/\c 91<=c 92/\c 92<=c 93
theorem C1k{k:Nat}(hi:i<8)(hk:k<8):(26+i*8+k-26)%8=k/\(26+i*8+k-26)/8=i/\26<=26+i*8+k/\26+i*8+k<90:=by omega
theorem C1a{c:NI}(h:RPM c):D6 c:=by
 obtain⟨⟨h0,h1,h9⟩,p1,p2,q⟩:=h;refine⟨h0,h1,h9,λi hi=>?_,λi hi=>?_,λi hi=>?_,λi k hi hk=>?_,q⟩
 .unfold IK;split
  .rename_i hc;rcases hc with hc|hc|hc
   .have:=(p1 (i-2) (by omega)).2 (by omega);rw [show 2+(i-2)=i by omega] at this;exact this
   .have:=(p2 (i-18) (by omega)).1.2 (by omega);rw [show 18+(i-18)=i by omega] at this;exact this
   .have:=((p2 ((i-26)/8) (by omega)).2 ((i-26)%8) (by omega)).1 (by omega);rw [show 26+(i-26)/8*8+(i-26)%8=i by omega] at this;exact this
  .rfl
 .have:=(p1 i (by omega)).1 (by omega);omega
 .have:=(p2 i (by omega)).1.1 (by omega);exact⟨⟨this.1,this.2.1⟩,this.2.2⟩
 .have r:=(p2 i (by omega)).2 k (by omega);unfold B1f dst;by_cases e:i=k
  .subst e;have:=r.1 (.inr (.inr rfl));rw [this];simp
  .have:=r.2 ⟨by omega,by omega,e⟩;exact⟨⟨λh=>by omega,λh=>absurd h e⟩,by omega,this.2.2⟩
theorem C07{c:NI}(h:D6 c):RPM c:=by
 obtain⟨h0,h1,h9,hb,p1,p2,pn,q⟩:=h;have zr:∀i,i<94->((2+(c 1).toNat<=i/\i<18)\/(18+(c 0).toNat<=i/\i<26)\/(26<=i/\i<90/\((c 0).toNat<=(i-26)%8\/(c 0).toNat<=(i-26)/8)))->c i=0:=λi hi hc=>by
  have:=hb i hi;unfold IK at this;rw [if_pos hc] at this;exact this
 refine⟨⟨h0,h1,h9⟩,λi hi=>⟨λhc=>?_,λhc=>?_⟩,λi hi=>⟨⟨λhc=>?_,λhc=>?_⟩,λk hk=>⟨λhc=>?_,λhc=>?_⟩⟩,q⟩
 .have:=p1 i (by omega);omega
 .exact zr (2+i) (by omega) (.inl (by omega))
 .have:=p2 i (by omega);omega
 .exact zr (18+i) (by omega) (.inr (.inl (by omega)))
 .obtain⟨d1,d2,d3,d4⟩:=C1k hi hk;by_cases e:c 0<=(i:Int)\/c 0<=(k:Int)
  .exact zr _ (by omega) (.inr (.inr ⟨d3,d4,by rw [d1,d2];omega⟩))
  .have e2:i=k:=by omega
   exact((pn i k (by omega) (by omega)).1).2 e2
 .have r:=pn i k (by omega) (by omega);unfold B1f dst at r;have:c (26+i*8+k)≠0:=λh=>hc.2.2 (r.1.1 h);have:=r.2.1;exact⟨by omega,by omega,r.2.2⟩
theorem B1o{c:NI}:D6 c↔RPM c:=⟨C07,C1a⟩
theorem A2q(c:NI)(w:WD):Calls prog 28 #[LI c] w λr w'=>∃b,r=.returned (.bool b)/\(b=true↔D6 c)/\AB AD w w':=by
 refine(vc28 c w (λv w'=>∃b,v=.bool b/\(b=true↔D6 c)/\AB AD w w') ?_).AE ?_
 .unfold Q;intro w1 e1;have o1:=AG e1;have k1:=kal e1;generalize w.heap.size=b at *;have no:∀w',AB AD w w'->¬RPM c->∃b,Value.bool false=.bool b/\(b=true↔D6 c)/\AB AD w w':=λw' k h=>⟨false,rfl,by rw [B1o];simp [h],k⟩;refine⟨c 0,o1.rI (by omega),c 0,λ_=>o1.rI (by omega),c 1,λ_=>o1.rI (by omega),c 1,λ_=>o1.rI (by omega),c 90,λ_=>o1.rI (by omega),c 90,λ_=>o1.rI (by omega),AH (λhc=>?_) (λhc=>?_)⟩
  .refine no _ k1 λh=>?_;have:=h.1;unfold RP0 at this;simp at hc;omega
  have h0:RP0 c:=by unfold RP0;simp at hc;omega
  have h0':=h0;unfold RP0 at h0';refine⟨λ_ k w' N=>∃q:Nat,k=q/\q<=16/\N=16-q/\AB AD w w'/\AX w' b (cfg c)/\∀i,i<q->RP1 c i,⟨16,0,rfl,by omega,rfl,k1,o1,λi hi=>absurd hi (nlz _)⟩,?_⟩;rintro bb _ w2 _ ⟨q,rfl,hq,rfl,k2,o2,hp1⟩;refine AH (λhc2=>?_) (λhc2=>?_)
  .simp only [decide_eq_true_eq] at hc2;intro w3 e3;have k3:=k2.dr e3;have o3:=o2.dr e3;have hr:rd w3 b (2+Int.toNat (q:Int)*1)=some (.int .i64 (c (2+q))):=by rw [tnc,mo];exact o3.rI (by omega)
   have eB:inB (q:Int) 16=true:=DZ;refine⟨c 1,o3.rI (by omega),AJ (λ_=>eB) ⟨c (2+q),λ_=>hr,AJ (λ_=>eB) ⟨c (2+q),λ_=>hr,c 0,λ_=>o3.rI (by omega),c 1,λ_=>o3.rI (by omega),AJ (λ_=>eB) ⟨c (2+q),λ_=>hr,AH (λhc3=>?_) (λhc3=>?_)⟩⟩⟩⟩
   .refine no _ k3 λh=>?_;have:=h.2.1 q (by omega);unfold RP1 at this;simp at hc3;omega
   .refine⟨16-(q+1),by omega,q+1,wzz,by omega,rfl,k3,o3,λi hi=>?_⟩;rcases Nat.lt_or_ge i q with h|h
    .exact hp1 i h
    .have:i=q:=by omega
     subst this;unfold RP1;simp at hc3;omega
  have:q=16:=by simp at hc2;omega
  subst this;refine⟨λ_ k w' N=>∃q:Nat,k=q/\q<=8/\N=8-q/\AB AD w w'/\AX w' b (cfg c)/\∀i,i<q->RP2 c i/\∀k,k<8->RP3 c i k,⟨8,0,rfl,by omega,rfl,k2,o2,λi hi=>absurd hi (nlz _)⟩,?_⟩;rintro bb2 _ w3 _ ⟨q,rfl,hq8,rfl,k3,o3,hp2⟩;refine AH (λhc3=>?_) (λhc3=>?_)
  .simp only [decide_eq_true_eq] at hc3;refine⟨c 0,o3.rI (by omega),λw4 e4=>?_⟩;have k4:=k3.dr e4;have o4:=o3.dr e4;have hr:rd w4 b (18+Int.toNat (q:Int)*1)=some (.int .i64 (c (18+q))):=by rw [tnc,mo];exact o4.rI (by omega)
   have eB:inB (q:Int) 8=true:=DZ;refine AJ (λ_=>eB) ⟨c (18+q),λ_=>hr,AJ (λ_=>eB) ⟨c (18+q),λ_=>hr,AJ (λ_=>eB) ⟨c (18+q),λ_=>hr,c 93,λ_=>o4.rI (by omega),AJ (λ_=>eB) ⟨c (18+q),λ_=>hr,AH (λhc4=>?_) (λhc4=>?_)⟩⟩⟩⟩
   .refine no _ k4 λh=>?_;have:=(h.2.2.1 q (by omega)).1;unfold RP2 at this;simp at hc4;omega
   have hp2q:RP2 c q:=by
    unfold RP2;simp at hc4;omega
   refine⟨λ_ k w' N=>∃p:Nat,k=p/\p<=8/\N=8-p/\AB AD w w'/\AX w' b (cfg c)/\∀k,k<p->RP3 c q k,⟨8,0,rfl,by omega,rfl,k4,o4,λi hi=>absurd hi (nlz _)⟩,?_⟩;rintro bb3 _ w5 _ ⟨p,rfl,hp8,rfl,k5,o5,hp3⟩;refine AH (λhc5=>?_) (λhc5=>?_)
   .simp only [decide_eq_true_eq] at hc5;have eBp:inB (p:Int) 8=true:=DZ;have hrp:rd w5 b (26+Int.toNat (q:Int)*8+Int.toNat (p:Int)*1)=some (.int .i64 (c (26+q*8+p))):=by rw [tnc,tnc,mo];exact o5.rI (by omega)
    have hrq:rd w5 b (26+Int.toNat (p:Int)*8+Int.toNat (q:Int)*1)=some (.int .i64 (c (26+p*8+q))):=by rw [tnc,tnc,mo];exact o5.rI (by omega)
    have eqp:((q:Int)==(p:Int))=decide (q=p):=by
     by_cases h:q=p
     .subst h;simp
     .simp [h];omega
    have nqp:((q:Int)!=(p:Int))=!decide (q=p):=by
     show(!((q:Int)==(p:Int)))=_
     rw [eqp]
    refine AA eB (AA eBp ⟨_,hrp,c 0,λ_=>o5.rI (by omega),AH (λhc6=>?_) (λhc6=>⟨c 0,λ_=>o5.rI (by omega),AJ (λ_=>eBp) (AJ (λ_=>eB) ⟨_,λ_=>hrq,AH (λhc7=>?_) (λhc7=>?_)⟩)⟩)⟩)
    .refine no _ k5 λh=>?_;have:=(h.2.2.1 q (by omega)).2 p (by omega);unfold RP3 at this;rw [eqp] at hc6;simp at hc6;exact hc6.2 (this.1 (by omega))
    .refine no _ k5 λh=>?_;have:=(h.2.2.1 q (by omega)).2 p (by omega);unfold RP3 at this;rw [nqp] at hc7;simp at hc7;have:=this.2 ⟨by omega,by omega,hc7.1.2⟩;omega
    .refine⟨8-(p+1),by omega,p+1,wzz,by omega,rfl,k5,o5,λk hk=>?_⟩;rcases Nat.lt_or_ge k p with h|h
     .exact hp3 k h
     .have:k=p:=by omega
      subst this;unfold RP3;rw [eqp] at hc6;rw [nqp] at hc7;simp at hc6 hc7;constructor
      .intro hh;exact hc6 (by omega)
      .rintro ⟨a1,a2,a3⟩;have:=hc7 a1 a2 a3;omega
   .have:p=8:=by simp at hc5;omega
    subst this;refine⟨8-(q+1),by omega,q+1,wzz,by omega,rfl,k5,o5,λi hi=>?_⟩;rcases Nat.lt_or_ge i q with h|h
    .exact hp2 i h
    .have:i=q:=by omega
     subst this;exact⟨hp2q,hp3⟩
  have:q=8:=by simp at hc3;omega
  subst this;refine⟨c 91,o3.rI (by omega),c 92,λ_=>o3.rI (by omega),c 91,λ_=>o3.rI (by omega),c 93,λ_=>o3.rI (by omega),c 92,λ_=>o3.rI (by omega),_,rfl,?_,k3⟩;rw [B1o];unfold RPM;simp only [Bool.and_eq_true,decide_eq_true_eq];constructor
  .rintro ⟨⟨h1,h2⟩,h3⟩;exact⟨h0,hp1,hp2,h1,h2,h3⟩
  .rintro ⟨_,_,_,h1,h2,h3⟩;exact⟨⟨h1,h2⟩,h3⟩
 .rintro e w' ⟨v,rfl,b,rfl,hw⟩;exact⟨b,rfl,hw⟩
def ndL(c:NI):Nat->List Value
 | 0=>[]
 | k+1=>ndL c k++replicate (c (18+k)).toNat (.int .i64 (k:Int))
theorem A4y{c:NI}(h:D6 c):∀{k:Nat},(k:Int)<=c 0->((ndL c k).length:Int)=AU c k
 | 0,_=>rfl
 | k+1,hk=>by
  have:=A4y h (k:=k) (by omega);have f:=h.fr (i:=k) (by omega);simp only [ndL,AU,lap,List.length_replicate];omega
theorem A2t(c:NI)(hm:D6 c)(w:WD):Calls prog 29 #[LI c] w λr w'=>∃a cp,r=.returned (.slice a (AU c (c 0).toNat).toNat cp)/\AB AD w w'/\w'.ownsRow w.heap.size 3 1 (.slice a (AU c (c 0).toNat).toNat cp) (AU c (c 0).toNat).toNat (ndL c (c 0).toNat):=by
 refine(vc29 c w (λv w'=>∃a cp,v=(.slice a (AU c (c 0).toNat).toNat cp)/\AB AD w w'/\w'.ownsRow w.heap.size 3 1 (.slice a (AU c (c 0).toNat).toNat cp) (AU c (c 0).toNat).toNat (ndL c (c 0).toNat)) ?_).AE ?_
 .unfold Q;have h0:=hm.1;intro w1 e1;have o1:=AG e1;have k1:=kal e1;have s1:w1.heap.size=w.heap.size+1:=by rw [e1];simp only [World.alloc,Array.size_push]
  generalize hb:w.heap.size=b at *;clear e1;have brow:∀{w:WD}{v:Value}{n:Nat}{xs:List Value},w.ownsRow (b+1) 3 1 v n xs->∀x,v.ownBlock=some x->b+1<=x:=λh x hx=>(h.lt x hx).1;refine⟨λa l cp k w' M=>∃q:Nat,k=(q:Int)/\(q:Int)<=c 0/\M=(c 0).toNat-q/\AB AD w w'/\AX w' b (cfg c)/\b+1<=w'.heap.size/\l=(ndL c q).length/\w'.ownsRow (b+1) 3 1 (.slice a l cp) l (ndL c q),⟨(c 0).toNat,0,rfl,by omega,rfl,k1,o1,by omega,rfl,World.ownsRow_nil _ _ _ _⟩,?_⟩;rintro a _ cp _ w2 _ ⟨q,rfl,hq,rfl,k2,o2,s2,rfl,row2⟩;refine⟨c,o2.DW,(A2q c w2).AE ?_⟩;rintro _ w3 ⟨mb,rfl,hmb,k23⟩;have:mb=true:=hmb.2 hm;subst this;have o3:=o2.k k23;have row3:=BA row2 k23 λ_ _ _ _=>id;have k3:=k2.tr k23;have s3:=k23.sz;refine⟨true,rfl,c 0,λ_=>o3.rI (by omega),AH (λhc=>?_) (λhc=>?_)⟩
  .have hlt:(q:Int)<c 0:=by simpa using hc
   have hf:=hm.fr (i:=q) (by omega);have hlen:=A4y hm (k:=q) (by omega);have hfst:=hm.fst (k:=q) (by omega);refine⟨λa l cp k w' M=>∃p:Nat,k=(p:Int)/\(p:Int)<=c (18+q)/\M=(c (18+q)).toNat-p/\AB AD w w'/\AX w' b (cfg c)/\b+1<=w'.heap.size/\l=(ndL c q).length+p/\w'.ownsRow (b+1) 3 1 (.slice a l cp) l (ndL c q++replicate p (.int .i64 (q:Int))),⟨(c (18+q)).toNat,0,rfl,by omega,rfl,k3,o3,by omega,rfl,by simpa using row3⟩,?_⟩;rintro a _ cp _ w4 _ ⟨p,rfl,hp,rfl,k4,o4,s4,rfl,row4⟩;refine Wi ⟨c (18+q),by rw [tnc,mo];exact o4.rI (by omega),AH (λhc2=>?_) (λhc2=>?_)⟩
   .simp only [decide_eq_true_eq] at hc2;intro w5 e5;have k45:=kal e5;have p5:=AG (c:=[.int .i64 (q:Int)]) e5;have row5:=BA row4 k45 λ_ _ _ _=>id;have s5:=k45.sz;obtain⟨a',l',c',w6,happ,rfl,row6,k6⟩:=B3p (t:=27) (e:=3) underlying27 A6o rfl row5 p5 (m:=1) (off:=0) (c:=1) (news:=[.int .i64 (q:Int)]) rfl rfl (λu hu=>by simp at hu;subst hu;rfl) (by omega) (by omega);have s6:=k6.sz;refine⟨a',_,c',w6,happ,(c (18+q)).toNat-(p+1),by omega,p+1,wzz,by omega,rfl,BO (k4.tr k45) k6 λx hx=>by have:=brow row5 x hx;omega,(o4.k k45).kx k6 λhx=>by have:=brow row5 _ hx;omega,by omega,rfl,?_⟩;have:ndL c q++replicate (p+1) (int .i64 (q:Int))=ndL c q++replicate p (.int .i64 (q:Int))++[.int .i64 (q:Int)]:=by rw [List.replicate_succ',List.append_assoc]
    rw [this];exact row6
   .have hpe:p=(c (18+q)).toNat:=by simp at hc2;omega
    subst hpe;have:(ndL c q).length+(c (18+q)).toNat=(ndL c (q+1)).length:=by simp [ndL]
    rw [this] at row4;exact⟨(c 0).toNat-(q+1),by omega,q+1,wzz,by omega,rfl,k4,o4,s4,this,by rw [this];exact row4⟩
  .have hqe:q=(c 0).toNat:=by simp at hc;omega
   subst hqe;have hlen:=A4y hm (k:=(c 0).toNat) (by omega);have e:(ndL c (c 0).toNat).length=(AU c (c 0).toNat).toNat:=by omega
   rw [e] at row3 ⊢;refine⟨a,cp,rfl,k3,row3.1,?_⟩;rcases row3.2 with h|⟨g,cap,cur,q1,q2,q3⟩
   .exact .inl h
   .exact .inr ⟨g,cap,cur,q1,by omega,q3⟩
 .rintro e w' ⟨v,rfl,a,cp,rfl,hw⟩;exact⟨a,cp,rfl,hw⟩
def HR(n:Nat)(f:Nat->Bool):List Value:=(range n).map λi=>.bool (f i)
theorem HP{n:Nat}{f:Nat->Bool}(hi:i<n):(HR n f)[i]? = some (.bool (f i)):=by unfold HR;rw [gmp,List.getElem?_range hi];rfl
theorem A9i{n:Nat}{f:Nat->Bool}{v:Bool}(hi:i<n):(HR n f).set i (.bool v)=HR n (upd f i v):=by
 refine List.ext_getElem? λj=>?_;rw [List.getElem?_set];by_cases hj:i=j
 .subst hj;rw [if_pos rfl,if_pos (by unfold HR;simpa using hi),HP hi,AF]
 .rw [if_neg hj];by_cases h2:j<n
  .rw [HP h2,HP h2,AI _ _ (Ne.symm hj)]
  .rw [gen (by unfold HR;simp;omega),gen (by unfold HR;simp;omega)]
set_option maxHeartbeats 4000000 in
theorem A71{w:WD}{x0:NI}{x96:NI}(PG:D3 w pa pl pf)(PN:D3 w ia il nf) :
 Calls prog 8 #[.agg (AQ .i64 x0 0 94++([slice pa pl pc,slice ia il ic]++AQ .i64 x96 0 8)).toArray] w λe w'=>∃b,e=.returned (.bool b)/\AB AD w w'/\(b=true->A37 w' x0 pa pl ia il pf nf):=by
 refine(vc8 x0 pa pl pc ia il ic x96 w (λv w'=>∃b,v=.bool b/\AB AD w w'/\(b=true->A37 w' x0 pa pl ia il pf nf)) ?_).AE ?_
 rotate_left
 .rintro e w' ⟨v,rfl,b,rfl,h⟩;exact⟨b,rfl,h⟩
 unfold Q;intro w1 e1;have o1:=AG e1;have k1:=kal e1
 try dsimp only
 generalize w.heap.size=cb at *;have rall:∀{W:WD},AB AD w1 W->BB W cb 0 (AQ .i64 x0 0 94):=λkk=>(o1.k kk).run 0 λj hj=>by rw [za,gal (by rw [AM];exact hj),AZ _ _ _ _ _ hj,za]
 have r94:∀{W:WD},AB AD w1 W->rd W cb 94=some (.slice pa pl pc):=λkk=>by rw [(o1.k kk).rd];rfl
 have r95:∀{W:WD},AB AD w1 W->rd W cb 95=some (.slice ia il ic):=λkk=>by rw [(o1.k kk).rd];rfl
 refine⟨x0,rall kr,(A2q x0 w1).AE ?_⟩;rintro _ w2 ⟨b,rfl,hb,k2⟩;refine⟨b,rfl,x0,(λ_=>rall k2),AH (λhn=>⟨false,rfl,k1.tr k2,λh=>by cases h⟩) (λhn=>?_)⟩;have hm:D6 x0:=hb.1 (by simpa using hn);refine(A2t x0 hm w2).AE ?_;rintro _ w3 ⟨a,cp,rfl,k3,_⟩;have k13:=k2.tr k3;refine⟨a,_,cp,rfl,pa,pl,pc,(λ_=>r94 k13),ia,il,ic,(λ_=>r95 k13),AH (λhs=>⟨false,rfl,k1.tr k13,λh=>by cases h⟩) (λhs=>λw4 e4=>?_)⟩;have hpl:pl<=32:=by simp at hs;omega
 have hil:il<=64:=by simp at hs;omega
 clear hs;have o4:AX w4 w3.heap.size (replicate 32 (.bool false)):=AG e4;have k4:=kal e4;have e32:replicate 32 (Value.bool false)=HR 32 λ_=>false:=by
  refine List.ext_getElem? λj=>?_;by_cases h:j<32
  .rw [List.getElem?_replicate,if_pos h,HP h]
  .rw [gen (by simp;omega),gen (by unfold HR;simp;omega)]
 rw [e32] at o4;have hs13:=k13.sz;have hcb3:=(o1.k k13).lt
 try dsimp only
 generalize hY:w3.heap.size=Y at *;refine⟨λbb t W N=>∃(q:Nat) (sb:Nat->Bool),t=q/\q<=pl/\N=pl-q/\AX W Y (HR 32 sb)/\AB AD w3 W/\(∀j,j<32->(sb j=true↔∃i,i<q/\pf i=j))/\(∀i,i<q->0<=pf i/\pf i<=31)/\(∀i j,i<q->j<q->pf i=pf j->i=j),
  ⟨pl,0,_,rfl,Nat.zero_le _,rfl,o4,k4,λj _=>⟨(λh=>by cases h),λ⟨i,hi,_⟩=>absurd hi (nlz _)⟩,λi hi=>absurd hi (nlz _),λi j hi=>absurd hi (nlz _)⟩,?_⟩
 rintro bb _ W _ ⟨q,sb,rfl,hq,rfl,oW,kW,h1,h2,h3⟩;have K:=k13.tr kW;have KW:=k1.tr K;refine⟨pa,pl,pc,r94 K,AH (λhc=>?_) (λhc=>?_)⟩
 .have hqp:q<pl:=by simp at hc;omega
  have hP:=(PG.p (by omega)).1;have hI:inB (q:Int) pl=true:=DZ;have hR:rd W (pb pa) (po pa+Int.toNat (q:Int)*1)=some (vi (pf q)):=by rw [tnc,mo];exact(PG.k KW).at' q hqp
  by_cases hr:0<=pf q/\pf q<=31
  .obtain⟨p,hp⟩:∃p:Nat,pf q=p:=⟨(pf q).toNat,by omega⟩;have hp32:p<32:=by omega
   rw [hp] at hR;have hI2:inB (p:Int) 32=true:=DZ;refine⟨pa,pl,pc,r94 K,AA hP (AA hI ⟨(p:Int),hR,pa,pl,pc,(λ_=>r94 K),AJ (λ_=>hP) (AJ (λ_=>hI) ⟨(p:Int),(λ_=>hR),pa,pl,pc,(λ_=>r94 K),AJ (λ_=>hP) (AJ (λ_=>hI) ⟨(p:Int),(λ_=>hR),AJ (λ_=>hI2) ⟨sb p,(λ_=>?_),AH (λhx=>⟨false,rfl,KW,λh=>by cases h⟩) (λhx=>⟨pa,pl,pc,r94 K,AA hP (AA hI ⟨(p:Int),hR,AA hI2 ⟨?_,λW2 e2=>?_⟩⟩)⟩)⟩⟩)⟩)⟩)⟩
   .rw [tnc,mo,za,oW.rd,HP hp32]
   .rw [tnc,mo,za];exact oW.wr (by unfold HR;simpa using hp32)
   .rw [tnc,mo,za] at e2;have o2:=oW.s1 e2;rw [A9i hp32] at o2;have hno:sb p=false:=by
     rw [Bool.or_eq_false_iff] at hx;exact hx.2
    have hnew:¬∃i,i<q/\pf i=p:=λe=>by
     have:=(h1 p hp32).2 e;rw [hno] at this;cases this
    have kW2:AB AD w3 W2:=BO kW (kr.s1 e2 (.inl rfl):AB (·=Y) W W2) λx e=>by omega
    refine⟨pl-(q+1),by omega,q+1,_,wzz,hqp,rfl,o2,kW2,λj hj=>?_,λi hi=>?_,λi j hi hj he=>?_⟩
    .by_cases e:j=p
     .subst e;rw [AF];exact⟨λ_=>⟨q,by omega,hp⟩,λ_=>rfl⟩
     .rw [AI _ _ e,h1 j hj];exact⟨λ⟨i,hi,he⟩=>⟨i,by omega,he⟩,λ⟨i,hi,he⟩=>⟨i,by
       have:i≠q:=λe2=>e (by rw [e2,hp] at he;omega);omega,he⟩⟩
    .by_cases e:i=q
     .rw [e];exact hr
     .exact h2 i (by omega)
    .by_cases e:i=q
     .by_cases e2:j=q
      .omega
      .exact absurd ⟨j,by omega,by rw [<- he,e,hp]⟩ hnew
     .by_cases e2:j=q
      .exact absurd ⟨i,by omega,by rw [he,e2,hp]⟩ hnew
      .exact h3 i j (by omega) (by omega) he
  .have hcond:¬((decide (pf q<0)||decide (pf q>31))=false):=by
    rw [Bool.or_eq_false_iff,decide_eq_false_iff_not,decide_eq_false_iff_not];omega
   refine⟨pa,pl,pc,r94 K,AA hP (AA hI ⟨pf q,hR,pa,pl,pc,(λ_=>r94 K),AJ (λ_=>hP) (AJ (λ_=>hI) ⟨pf q,(λ_=>hR),pa,pl,pc,(λ_=>r94 K),AJ (λ_=>hP) (AJ (λ_=>hI) ⟨pf q,(λ_=>hR),AJ (λh=>absurd h hcond) ⟨false,(λh=>absurd h hcond),AA ?_ ⟨false,rfl,KW,λh=>by cases h⟩⟩⟩)⟩)⟩)⟩
   cases hd:(decide (pf q<0)||decide (pf q>31)) with
   | false=>exact absurd hd hcond
   | true=>rfl
 .have:q=pl:=by simp at hc;omega
  subst this;exact⟨true,rfl,KW,λ_=>⟨hm,hpl,hil,PG.k KW,PN.k KW,h2,h3⟩⟩
