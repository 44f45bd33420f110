/- Part of a proof that a law returns true. Conditions: those in each theorem. -/
import Derived.Shelf.Slices.Delete
import Derived.Test.YtdgbechegbmpcaaGreatDoorProg
import Derived.Test.YtdgbechegbmpcaaGreatDoorB0
import Derived.Test.YtdgbechegbmpcaaGreatDoorXV4
import Derived.Test.YtdgbechegbmpcaaGreatDoorM3
import Derived.Test.YtdgbechegbmpcaaGreatDoorEngP
set_option linter.unusedVariables false
set_option linter.unusedSimpArgs false
set_option maxRecDepth 100000
namespace Go.Proofs
open Go.Shelf
def Tryz.delI_ren:Go.Shelf.Ren:=⟨fun|23=>236|n=>n,fun|22=>27|3=>3|4=>4|0=>0|n=>n,fun|n=>n⟩
theorem Tryz.delI:Go.Proofs.Lays2.n23 Tryz.prog Tryz.delI_ren:={
 mixed:=by kernel_rfl
 f23:=Tryz.func236.trans (congrArg some (by kernel_rfl))
 t0:=Tryz.underlying0
 a0:=Tryz.isAgg0
 z0:=Tryz.sizeOf0
 v0:=Tryz.zeroValue0
 t3:=Tryz.underlying3
 a3:=Tryz.isAgg3
 z3:=Tryz.sizeOf3
 v3:=Tryz.zeroValue3
 t4:=Tryz.underlying4
 a4:=Tryz.isAgg4
 z4:=Tryz.sizeOf4
 v4:=Tryz.zeroValue4
 t22:=Tryz.underlying27
 a22:=Tryz.isAgg27
 z22:=Tryz.sizeOf27
 v22:=Tryz.zeroValue27
 i3:=by kernel_rfl}
end Go.Proofs
namespace Go.Proofs.YtdgbechegbmpcaaGreatDoor
open Go Go.Eng Go.Proofs.Tryz
open Go.Value (bool func)
open Option (isNone)
open Go.IntKind (wrap)
theorem vc241(k:OA)(cpu frame:Int)(w:WD)(K:KV)(h:Q (gIf (isP k) ((!isNone k&&decide (cpu>=0))=true) (∃(x:OA) (i r:Nat),((!isNone k&&decide (cpu>=0))=true->rd w (pb k) (po k+114)=some (.slice x i r))/\Wif (!isNone k&&decide (cpu>=0)&&decide (cpu<(↑i:Int))) (Dr w fun f=>Wp k (Rs f k 114 fun x g j=>Wp k (Rs f k 114 fun b o s=>Wp b (Wn cpu o (Rs f b (Int.toNat cpu*1) fun p q h=>AW f #[vi frame] 3 fun w'=>Rt w' (pb b) (po b+Int.toNat cpu*1) (.slice p q h)<|Rt w' (pb k) (po k+114) (.slice b o s)<|Rt w' (pb k) (po k+114) (.slice x g j)<|∃(a:OA) (l c:Nat) (d:WD),BF prog #[27,27] 27 (sl p q h) (sl (aD f.heap.size) 1 1) (sl a l c) w' d/\(rd d (pb k) (po k+114)=some (.slice x g j)/\True)/\Wp x (Wn cpu g (Sw d (pb x) (po x+Int.toNat cpu*1) (sl a l c) fun w'=>K (.tuple #[]) w'))))))) (K (.tuple #[]) w)))):Ret 241 #[pt k,vi cpu,vi frame] w K:=vcA L13 2 [] func241 h
theorem vc235(s:OA)(sL sC:Nat)(v:Int)(w:WD)(K:KV)(h:Q (∃(I:Int->Int->WD->Nat->Prop),(∃(n:Nat),I 0 0 w n)/\∀(n a:Int) (w':WD) (b:Nat),I n a w' b->Wif (decide (a<(↑sL:Int))) (Wp s (Wn a sL (Ri w' s (Int.toNat a*1) fun x=>Wif (v==x) (K (vi a) w') (Lt b fun m=>I n (wrap .i64 (a+1)) w' m)))) (K (vi (-1)) w'))):Ret 235 #[sl s sL sC,vi v] w K:=vcA L13 2 [] func235 h
end Go.Proofs.YtdgbechegbmpcaaGreatDoor
namespace Go.Proofs.YtdgbechegbmpcaaGreatDoor
open Go Go.Eng Go.Proofs.Tryz
theorem BG.put{A B:Nat->HX}{n:Nat}{v:Value}{G:NP}{w:WD}{i:Nat}(hA:∀j,j<n->Stb (A j))(h:BG A n v G w)(hi:i<n)(hB:∀j,j≠i->B j=A j) :
 ∃(g cp:Nat) (u:Value) (H:NP),v=.slice (some ⟨g,0,none⟩) n cp/\G g/\rd w g i=some u/\A i u H w/\(∀x,H x->G x/\x≠g)/\
  ∀w1,Kept H w w1->wr w1 g i/\∀(w':WD) (u':Value),w'=st w1 g i u'->B i u' (fun x=>H x\/rng w w1 x) w'->BG B n v (fun x=>G x\/rng w w' x) w':=by
 obtain⟨g,cp,cs,u,H,h1,h2,h3,h4,h5,h6,h7⟩:=h.ex;have hcl:i<cs.length:=(D5.1 (h3 i hi)).1;have hg:=h.lt g h4;refine⟨g,cp,u i,H i,h1,h4,by rw [h2.rd];exact h3 i hi,h5 i hi,h6 i hi,fun w1 k1=>?_⟩;have o1:=h2.kx k1 fun e=>(h6 i hi _ e).2 rfl;refine⟨o1.wr hcl,fun w' u' e hb=>?_⟩;have k2:Kept (·=g) w1 w':=kr.s1 e (.inl rfl);have k:Kept (fun x=>H i x\/x=g) w w':=(k1.mono fun _ _ h=>.inl h).trans k2 fun _ _ h=>.inr h;have hs1:w'.heap.size=w1.heap.size:=by rw [e];simp
 have hs:=k.sz;refine⟨⟨g,cp,cs.set i u',upd u i u',upd H i (fun x=>H i x\/rng w w1 x),h1,o1.s1 e,fun j hj=>?_,.inl h4,fun j hj=>?_,fun j hj x hx=>?_,fun a b ha hb' hab x hx=>?_⟩,fun x hx=>?_⟩
 ·rw [List.getElem?_set];by_cases e2:i=j
  ·subst e2;simp [hcl]
  ·rw [if_neg e2,AH _ _ (Ne.symm e2)];exact h3 j hj
 ·by_cases e2:j=i
  ·subst e2;rw [upd_same,upd_same];exact hb
  ·rw [AH _ _ e2,AH _ _ e2,hB j e2];refine(hA j hj).kx _ _ _ _ _ (h5 j hj) k fun x e1 e3=>?_;rcases e1 with e1|e1
   ·exact h7 i j hi hj (Ne.symm e2) x e1 e3
   ·exact(h6 j hj x e3).2 e1
 ·by_cases e2:j=i
  ·subst e2;rw [upd_same] at hx;rcases hx with hx|hx
   ·exact⟨.inl (h6 j hj x hx).1,(h6 j hj x hx).2⟩
   ·exact⟨.inr ⟨hx.1,by have:=hx.2;omega⟩,by have:=hx.1;omega⟩
  ·rw [AH _ _ e2] at hx;exact⟨.inl (h6 j hj x hx).1,(h6 j hj x hx).2⟩
 ·by_cases e2:a=i
  ·subst e2;rw [upd_same] at hx;rw [AH _ _ (Ne.symm hab)];intro hx2;rcases hx with hx|hx
   ·exact h7 a b ha hb' hab x hx hx2
   ·have:=h.lt x (h6 b hb' x hx2).1;have:=hx.1;omega
  ·rw [AH _ _ e2] at hx;by_cases e3:b=i
   ·subst e3;rw [upd_same];rintro (hx2|hx2)
    ·exact h7 a b ha hb' hab x hx hx2
    ·have:=h.lt x (h6 a ha x hx).1;have:=hx2.1;omega
   ·rw [AH _ _ e3];exact h7 a b ha hb' hab x hx
 ·rcases hx with hx|hx
  ·exact nll (h.lt x hx) hs
  ·exact hx.2
theorem elInt:ElT prog 27 3 1:=elT59
theorem BK.app{w:WD}{base:Nat}{a1 a2:OA}{l1 c1 l2 c2:Nat}{xs ys:List Int}(h:BK w base a1 l1 c1 xs)(hs:Eng.Src w a2 l2 c2 (ys.map vi))(hl2:l2=ys.length)(hb:base<=w.heap.size)(hl:xs.length+ys.length<=1000000) :
 ∃a l c w',BF prog #[27,27] 27 (.slice a1 l1 c1) (.slice a2 l2 c2) (.slice a l c) w w'/\BK w' base a l c (xs++ys)/\Kept (fun b=>(Value.slice a1 l1 c1).ownBlock=some b) w w':=by
 obtain⟨i,z,hi,hz,hsz,hzs,hby⟩:=elInt.ex;obtain⟨rfl,row⟩:=h;subst hl2
 obtain⟨a',c',w',happ,row',k⟩:=Eng.app (P:=prog) (t:=27) (ty:=27) (e:=3) (i:=i) (z:=z) (size:=1) underlying27 hi hz hsz hzs (by decide) row hs (by simp) (fun u hu=>by
  obtain⟨x,_,rfl⟩:=List.mem_map.1 hu
  rfl) (by omega) (by omega) hb
 refine⟨a',_,c',w',happ,⟨by simp,?_⟩,k⟩;rw [FU];exact row'
theorem BK.src{w:WD}{base:Nat}{a:OA}{l c:Nat}{xs:List Int}(h:BK w base a l c xs):Eng.Src w a l c (xs.map vi):=by
 obtain⟨rfl,h⟩:=h;exact Eng.Src.of_row h
theorem BK.rd{w:WD}{base:Nat}{a:OA}{l c:Nat}{xs:List Int}(h:BK w base a l c xs){i:Nat}{x:Int}(hx:xs[i]? = some x):isP a=true/\Eng.rd w (pb a) (po a+Int.toNat (i:Int)*1)=some (vi x):=by
 have hu:(xs.map vi)[i]? = some (vi x):=by rw [gmp,hx];rfl
 have hl:=(D5.1 hx).1;rw [tnc,mo];exact⟨h.src.isp (by rw [lmp];omega),h.src.rd hu⟩
def del(xs:List Int)(i:Nat):List Int:=xs.take i++xs.drop (i+1)
def DB(xs:List Int)(v:Int)(i:Nat):Prop:=xs[i]? = some v/\∀j,j<i->xs[j]? ≠ some v
theorem DB.uniq{xs:List Int}{v:Int}{i j:Nat}(h:DB xs v i)(h2:DB xs v j):i=j:=by
 rcases Nat.lt_trichotomy i j with h3|h3|h3
 ·exact absurd h.1 (h2.2 i h3)
 ·exact h3
 ·exact absurd h2.1 (h.2 j h3)
theorem index_spec{w:WD}{a:OA}{l c:Nat}{xs:List Int}(h:EK w a l c xs)(v:Int)(hl:xs.length<=1000000) :
 Calls prog 235 #[.slice a l c,vi v] w fun e w'=>w'=w/\((∃i,DB xs v i/\e=.returned (vi i))\/((∀j:Nat,xs[j]? ≠ some v)/\e=.returned (vi (-1)))):=by
 refine(vc235 a l c v w (fun r w'=>w'=w/\((∃i,DB xs v i/\r=vi i)\/((∀j:Nat,xs[j]? ≠ some v)/\r=vi (-1)))) ?_).mono ?_
 rotate_left
 ·rintro e w' ⟨r,rfl,rfl,⟨i,h1,rfl⟩|⟨h1,rfl⟩⟩
  ·exact⟨rfl,.inl ⟨i,h1,rfl⟩⟩
  ·exact⟨rfl,.inr ⟨h1,rfl⟩⟩
 have hlen:=h.len;subst hlen;unfold Q;refine⟨fun _ n w' N=>∃q:Nat,n=q/\q<=xs.length/\N=xs.length-q/\w'=w/\∀j,j<q->xs[j]? ≠ some v,⟨xs.length,0,rfl,by omega,rfl,rfl,fun j h=>absurd h (nlz _)⟩,?_⟩;rintro _ _ w1 _ ⟨q,rfl,hq,rfl,hw,hno⟩;rw [hw];refine AE (fun hc=>?_) (fun hc=>?_)
 ·have hql:q<xs.length:=by simp at hc;omega
  obtain⟨x,hx⟩:∃x,xs[q]? = some x:=⟨_,geg hql⟩;obtain⟨hp,hr⟩:=h.rd hx;refine AA hp (Wi ⟨x,hr,AE (fun he=>?_) (fun he=>?_)⟩)
  ·have:v=x:=by simpa using he
   subst this;exact⟨rfl,.inl ⟨q,⟨hx,hno⟩,rfl⟩⟩
  ·have hvx:v≠x:=by simpa using he
   refine⟨xs.length-(q+1),by omega,q+1,wzz,by omega,rfl,rfl,fun j hj=>?_⟩;rcases Nat.lt_or_ge j q with h3|h3
   ·exact hno j h3
   ·rw [show j=q by omega,hx];exact fun e=>hvx (Option.some.inj e).symm
 ·have hql:q=xs.length:=by simp at hc;omega
  refine⟨rfl,.inr ⟨fun j=>?_,rfl⟩⟩;rcases Nat.lt_or_ge j q with h3|h3
  ·exact hno j h3
  ·rw [gen (by omega)];exact fun e=>by cases e
section
open Go.RowKit Go.Maps Go.Sort Go.Shelf
theorem delete_o{w:WD}{a:OA}{l c:Nat}{xs:List Int}{i:Nat}(h:EK w a l c xs)(hi:i<xs.length) :
 Calls prog 236 #[.slice a l c,vi i,vi (i+1:Nat)] w fun e w'=>∃l',e=.returned (.slice a l' c)/\EK w' a l' c (del xs i)/\Kept (fun b=>(Value.slice a l c).ownBlock=some b) w w':=by
 obtain rfl:=h.len;rcases h.ex with⟨_,h0,_⟩|⟨g,o,cs,rfl,h2,h3,h4,h5,h6⟩
 ·omega
 ·have hglt:g<w.heap.size:=(F3.1 h2).1;have hH:Holds (Value.int .i64) w g o xs.toArray:=by
   intro j hj;have hj':j<xs.length:=by simpa using hj
   refine⟨?_,by simp [World.frozen?,h2]⟩;have h1:=h6 j xs[j] (geg hj');simp only [World.cell?,h2];simp only [Option.isSome_none,Bool.false_eq_true,if_false];rw [h1];simp [hj']
  refine(Any.slices_Delete_int (ρ:=Tryz.delI_ren) Tryz.delI g o c i (i+1) xs w hH h3 (by unfold maxLen at h4;omega) (by omega) (by omega)).mono ?_;rintro e w' ⟨rfl,m,rfl⟩;have e1:i+1-i=1:=by omega
  rw [e1];have hd:(del xs i).length=xs.length-1:=by unfold del;rw [lap,List.length_take,List.length_drop];omega
  have hdd:xs.take i++xs.drop (i+1)=del xs i:=rfl;rw [hdd];have hg2:(putRow (Value.int .i64) (Sort.ahead w m) g o (del xs i++List.replicate 1 0).toArray).heap[g]? = some (.cells (putCells (Value.int .i64) o (del xs i++List.replicate 1 0).toArray cs) 3 (0,0)):=by
   simp [putRow,mapBlock,Sort.ahead,Array.getElem?_modify,h2,onCells]
  refine⟨_,rfl,⟨hd.symm,.inr ⟨g,o,_,rfl,hg2,by omega,h4,by simpa [putCells] using h5,fun j x hj=>?_⟩⟩,?_⟩
  ·have hj':=(D5.1 hj).1;have hds:(del xs i++List.replicate 1 (0:Int)).toArray.size=xs.length:=by simp [hd];omega
   unfold putCells;rw [Array.getElem?_mapIdx,Array.getElem?_eq_getElem (by omega)];simp only [Option.map_some];rw [if_pos (by omega),show o+j-o=j by omega,getElem!_pos _ j (by omega)];have:(del xs i++List.replicate 1 (0:Int)).toArray[j]'(by omega)=x:=by
    rw [List.getElem_toArray,List.getElem_append_left hj'];exact(D5.1 hj).2
   rw [this]
  ·refine⟨rfl,rfl,rfl,by simp [putRow,mapBlock,Sort.ahead],fun b hb hn=>?_⟩;have hne:g≠b:=fun e=>hn (by rw [e];rfl);simp [putRow,mapBlock,Sort.ahead,Array.getElem?_modify,hne]
end
section
variable {w:WD}{k:Nat}{S:AL}{fp:Prt->Nat->Prop}
theorem AJ.NH(h:AJ w k S fp):BG (fun i=>EG (S.held i)) S.AO S.vhe (fp .held) w:=h.at' .held
def EU(S:AL)(f:Nat->List Int):AL:={S with held:=f}
theorem AJ.EU{X:NP}{w':WD}{f:Nat->List Int}(h:AJ w k S fp)(kk:Kept X w w')(hX:∀x,X x->x<w.heap.size->fp .held x)(hr:BG (fun i=>EG (f i)) S.AO S.vhe (fun x=>fp .held x\/rng w w' x) w') :
 AJ w' k (EU S f) (fun p x=>fp p x\/(p=.held/\rng w w' x)):=by
 refine h.upd (·=.held) .held kk (fun x hx hl=>⟨_,rfl,hX x hx hl⟩) rfl (fun p F W hp hq=>?_) rfl fun p hp=>?_
 ·cases p <;> first|exact hq|exact absurd rfl hp
 ·subst hp;have e:(fun x=>fp .held x\/((Prt.held:Prt)=.held/\rng w w' x))=fun x=>fp .held x\/rng w w' x:=by funext x;simp
  rw [e];exact hr
theorem hold_spec(h:AJ w k S fp)(cpu fr:Int)(hl:∀i,i<S.AO->(S.held i).length<=100000) :
 Calls prog 241 #[ptr k,vi cpu,vi fr] w fun e w'=>e=.returned (.tuple #[])/\Kept (fp .held) w w'/\∃fp',AJ w' k (EU S (if 0<=cpu/\cpu<S.AO then upd S.held cpu.toNat (S.held cpu.toNat++[fr]) else S.held)) fp'/\∀p x,fp' p x->fp p x\/rng w w' x:=by
 refine(vc241 _ cpu fr w (fun v w'=>v=.tuple #[]/\Kept (fp .held) w w'/\∃fp',AJ w' k (EU S (if 0<=cpu/\cpu<S.AO then upd S.held cpu.toNat (S.held cpu.toNat++[fr]) else S.held)) fp'/\∀p x,fp' p x->fp p x\/rng w w' x) ?_).mono ?_
 rotate_left
 ·rintro e w' ⟨v,rfl,rfl,h⟩;exact⟨rfl,h⟩
 have hs:=h.BO;obtain⟨g,cp,u,H,hv,_,_,_,_,_⟩:=h.NH.put (B:=fun i=>EG (S.held i)) (i:=0) (fun _ _=>EG.stb) (by omega) fun _ _=>rfl;have hr:∀{W:WD},Kept AB w W->rd W k (0+114)=some (.slice (some ⟨g,0,none⟩) S.AO cp):=fun kk=>by
  rw [za,<- hv];exact(h.k kk).rt (j:=20) rfl
 unfold Q;refine AF (fun _=>rfl) ⟨_,_,_,fun _=>hr kr,AE (fun hc=>?_) (fun hc=>?_)⟩
 ·have hin:0<=cpu/\cpu<S.AO:=by simpa using hc
  rw [if_pos hin];obtain⟨i,rfl⟩:∃i:Nat,cpu=i:=⟨cpu.toNat,by omega⟩;have hi:i<S.AO:=by omega
  rw [tnc];intro w1 e1;have k1:=kdr e1;have s1:w1.heap.size=w.heap.size:=by rw [e1];rfl
  have C1:=h.k k1;obtain⟨g2,cp2,u,H,hv2,hgG,hru,hA,hH,hput⟩:=C1.NH.put (B:=fun j=>EG (upd S.held i (S.held i++[fr]) j)) (i:=i) (fun _ _=>EG.stb) hi fun j hj=>by rw [AH _ _ hj]
  have eg:g2=g:=by rw [hv] at hv2;cases hv2;rfl
  subst eg;obtain⟨a,l,c,rfl,R,hown⟩:=hA.ex;have cg:∀{W:WD},Kept AB w1 W->rd W g2 (0+Int.toNat (i:Int)*1)=some (.slice a l c):=fun kk=>by rw [tnc,mo,za];exact kk.rd_some hru id
  refine AA rfl ⟨_,_,_,hr k1,AA rfl ⟨_,_,_,hr k1,AA rfl (Wi ⟨a,l,c,cg kr,fun w2 e2=>?_⟩)⟩⟩;have k2:=kal e2;have o2:=AD (c:=[vi fr]) e2;refine⟨⟨cg k2,trivial⟩,⟨hr (k1.tr k2),trivial⟩,⟨hr (k1.tr k2),trivial⟩,?_⟩;obtain⟨t0,z,hi0,hz,hsz,hzs,hby⟩:=elInt.ex;have row2:=(R.k k2).2;have hlen:=R.1;have hli:=hl i hi;obtain⟨a',l',c',w3,happ,rfl,row3,k3,hb3⟩:=J8 (P:=prog) (t:=27) (e:=3) (i:=t0) (z:=z) (size:=1) underlying27 hi0 hz hsz hzs (by decide) row2 o2 (m:=1) (off:=0) (c:=1) (news:=[vi fr]) rfl rfl oneV (by omega) hby (by omega);have R3:BK w3 0 a' (l+1) c' (S.held i++[fr]):=⟨by rw [lap,hlen];rfl,by rw [FU];exact row3⟩;have K13:Kept H w1 w3:=k2.mono (fun _ _ e=>e.elim) |>.trans k3 fun x hx e=>hown x e
  have hgk:∀x,H x->x≠k:=fun x hx e=>by
   have h1:=C1.dj _ _ x (hH x hx).1 (show fp .core x by rw [e];exact(C1.at' .core).2)
   cases h1
  refine⟨a',_,c',w3,happ,⟨?_,trivial⟩,AA rfl (Wi ⟨?_,fun w4 e4=>?_⟩)⟩
  ·exact K13.rd_some (hr k1) fun hx=>hgk _ hx rfl
  ·rw [mo]
   show wr w3 g2 (0+i)
   rw [za];exact(hput w3 K13).1
  ·have e4:w4=st w3 g2 i (.slice a' (l+1) c'):=by rw [e4,mo];show st w3 g2 (0+i) _=_;rw [za]
   have k4:Kept (·=g2) w3 w4:=kr.s1 e4 (.inl rfl);have hs4:w4.heap.size=w3.heap.size:=by rw [e4];simp
   have K14:Kept (fp .held) w1 w4:=(K13.mono fun x _ hx=>(hH x hx).1).trans k4 fun x _ e=>e▸hgG;have K:Kept (fp .held) w w4:=(k1.mono fun _ _ e=>e.elim).trans K14 fun _ _ h=>h;have R4:BK w4 0 a' (l+1) c' (S.held i++[fr]):=R3.kx k4 fun x e ho=>by
    subst e;rcases hb3 with hb3|hb3
    ·rw [hb3] at ho;exact(hH _ (hown _ ho)).2 rfl
    ·have:=hb3 _ ho;have:=C1.lt _ _ hgG;have:=k2.sz;omega
   have hrow:=(hput w3 K13).2 w4 (.slice a' (l+1) c') e4 ⟨⟨a',_,c',rfl,by rw [upd_same];exact R4,fun x hx=>?_⟩,fun x hx=>?_⟩
   ·refine⟨rfl,K,_,C1.EU K14 (fun x hx _=>hx) hrow,fun p x hx=>hx.imp id fun e=>⟨by have:=e.2.1;omega,e.2.2⟩⟩
   ·rcases hb3 with hb3|hb3
    ·rw [hb3] at hx;exact .inl (hown x hx)
    ·have h1:=hb3 x hx;have h2:=(row3.lt x hx).2;have:=k2.sz;exact .inr ⟨by omega,h2⟩
   ·rcases hx with hx|hx
    ·have:=(C1.lt _ _ (hH x hx).1).2;have:=K14.sz;omega
    ·have:=hx.2;omega
 ·have hno:¬(0<=cpu/\cpu<S.AO):=fun hh=>by rw [show(!Option.isNone (some (Addr.mk k 0 none))&&decide (cpu>=0)&&decide (cpu<((S.AO:Nat):Int)))=true by simp [hh.1,hh.2]] at hc;cases hc
  rw [if_neg hno];exact⟨rfl,Kept.refl _ _,fp,h,fun p x hx=>.inl hx⟩
end
end Go.Proofs.YtdgbechegbmpcaaGreatDoor
namespace Go.Proofs.YtdgbechegbmpcaaGreatDoor
open Go Go.Eng MapKept Go.Shelf
theorem chk251(e:Bool)(a:Int×Int)(w:WD):(Instr.checkKey e 10000 308 (pgV a)).run Tryz.prog w=.ok () w:=by
 show(Instr.checkKey e (9998+1+1) 308 (.agg #[.int .i64 a.1,.int .i64 a.2])).run Tryz.prog w=.ok () w
 unfold Instr.checkKey;simp only [srb,run_underlying Tryz.underlying308,ato];have p0:(part 3 #[Value.int .i64 a.1,.int .i64 a.2] 0).run Tryz.prog w=.ok (.int .i64 a.1) w:=GJ Tryz.underlying3 (by kernel_rfl);have p1:(part 3 #[Value.int .i64 a.1,.int .i64 a.2] 1).run Tryz.prog w=.ok (.int .i64 a.2) w:=GJ Tryz.underlying3 (by kernel_rfl);have c0:∀x:Int,(Instr.checkKey e (9998+1) 3 (.int .i64 x)).run Tryz.prog w=.ok () w:=fun x=>MapKept.run_checkKey (d:=.int .i64) Tryz.underlying3 (by simp [IsKey]) e 9998;simp [p0,p1,c0,Result.andThen]
theorem keyPg:KeyOk Tryz.prog 308 pgV:=by
 refine⟨?_,chk251,⟨_,Tryz.underlying308,fun a b=>.inl rfl⟩,?_,?_⟩
 ·rintro ⟨a,b⟩ ⟨c,d⟩ h;simp [pgV] at h;exact Prod.ext h.1 h.2
 ·rintro ⟨a,b⟩ ⟨c,d⟩ w;have h:eqT Tryz.prog 10000 308 (pgV (a,b)) (pgV (c,d))=some (a==c&&(b==d&&true)):=by kernel_rfl
  have:=eqT_run (P:=Tryz.prog) 10000 308 _ _ _ w h;have e:(a==c&&(b==d&&true))=decide ((a,b)=(c,d)):=by
   simp only [Prod.mk.injEq,Bool.and_true];by_cases h1:a=c <;> by_cases h2:b=d <;> simp [h1,h2]
  rw [e] at this;exact this
 ·rintro ⟨a,b⟩
  show Instr.sameBits (9998+1+1) (.agg #[.int .i64 a,.int .i64 b]) (.agg #[.int .i64 a,.int .i64 b])=true
  simp [Instr.sameBits]
theorem filter_bne{κ:Type} [DecidableEq κ] [B:BEq κ] [LawfulBEq κ](m:List (κ×Value))(k:κ):(m.filter fun p=>@bne κ instBEqOfDecidableEq p.1 k)=m.filter fun p=>@bne κ B p.1 k:=by
 refine List.filter_congr fun p _=>?_;by_cases h:p.1=k
 ·have h1:(@bne κ B p.1 k)=false:=by simp [h]
  have h2:(@bne κ instBEqOfDecidableEq p.1 k)=false:=by simp [bne,h]
  rw [h1,h2]
 ·have h1:(@bne κ B p.1 k)=true:=by simp [h]
  have h2:(@bne κ instBEqOfDecidableEq p.1 k)=true:=by
   show(!(decide (p.1=k)))=true
   simp [h]
  rw [h1,h2]
theorem rmap_look{w:WD}{b:Nat}{M:List ((Int×Int)×Value)}(h:F5 pgV w b M)(k:Int×Int):E5 Tryz.prog 286 (.map (some b)) (pgV k) true (.tuple #[(M.lookup k).getD (vi 0),.bool (M.lookup k).isSome]) w:=by
 have:=lookG2 (P:=Tryz.prog) (mt:=286) (vt:=3) (kt:=308) Tryz.underlying286 keyPg h k (z:=vi 0) (Tryz.zeroValue3 w);rw [lookup_beq] at this;exact this
section
variable {w:WD}{r fb mb n:Nat}{of:Nat->Int×Int}{at':List ((Int×Int)×Value)}
theorem DE.k(h:DE w r fb mb n of at'){w':WD}(k:Kept AB w w'):DE w' r fb mb n of at':=⟨h.so.k k,h.fs.k k,h.mp.k k,h.ne⟩
theorem rset_spec(h:DE w r fb mb n of at'){i:Nat}(hi:i<n){pid page:Int}(hp:1<=pid/\pid<=8)(hg:0<=page/\page<1024)(hv:∀k v,at'.lookup k=some v->∃x:Int,v=vi x) :
 Calls Tryz.prog 99 #[ptr r,vi i,vi pid,vi page] w fun e w'=>Kept (fun x=>x=fb\/x=mb) w w'/\
  (((of i).1≠0/\e=.returned (vi 80)/\DE w' r fb mb n of at')\/((of i).1=0/\(at'.lookup (pid,page)).isSome=true/\e=.returned (vi 8)/\DE w' r fb mb n of at')\/
   ((of i).1=0/\at'.lookup (pid,page)=none/\e=.returned (vi 0)/\DE w' r fb mb n (upd of i (pid,page)) (at'++[((pid,page),vi i)]))):=by
 refine(vc99 _ i pid page w (fun v w'=>Kept (fun x=>x=fb\/x=mb) w w'/\
  (((of i).1≠0/\v=(vi 80)/\DE w' r fb mb n of at')\/((of i).1=0/\(at'.lookup (pid,page)).isSome=true/\v=(vi 8)/\DE w' r fb mb n of at')\/
   ((of i).1=0/\at'.lookup (pid,page)=none/\v=(vi 0)/\DE w' r fb mb n (upd of i (pid,page)) (at'++[((pid,page),vi i)])))) ?_).mono ?_
 rotate_left
 ·rintro e w' ⟨v,rfl,hk,⟨h1,rfl,h2⟩|⟨h0,h1,rfl,h2⟩|⟨h0,h1,rfl,h2⟩⟩
  ·exact⟨hk,.inl ⟨h1,rfl,h2⟩⟩
  ·exact⟨hk,.inr (.inl ⟨h0,h1,rfl,h2⟩)⟩
  ·exact⟨hk,.inr (.inr ⟨h0,h1,rfl,h2⟩)⟩
 unfold Q;have r1:∀{W:WD},own W r [.slice (some ⟨fb,0,none⟩) n n,.map (some mb)]->rd W r (0+1)=some (.map (some mb)):=fun o=>by rw [o.rd];rfl
 have r0:∀{W:WD},own W r [.slice (some ⟨fb,0,none⟩) n n,.map (some mb)]->rd W r 0=some (.slice (some ⟨fb,0,none⟩) n n):=fun o=>by rw [o.rd];rfl
 have hlt:(decide ((i:Int)<0)||decide ((i:Int)>=(n:Int)))=false:=by simp;omega
 have hf2:∀j,j<n->(EP (of j)).length=2:=fun _ _=>rfl;have hlen:(CU n fun i=>EP (of i)).length=n*2:=DI hf2;have hfl:=h.fs.lt;have hml:=h.mp.lt;have hrl:=h.so.lt;refine AF (fun _=>rfl) ⟨_,fun _=>r1 h.so,AG rfl (AF (fun _=>rfl) ⟨_,_,_,fun _=>r0 h.so,AG hlt fun w1 e1=>?_⟩)⟩;have o1:=AD e1;have k1:=kal e1;refine⟨wr2 o1,fun w2 e2=>?_⟩;obtain⟨o2,k2'⟩:=IY o1 e2;have k2:Kept AB w w2:=BD k1 k2' fun x e=>by omega
 clear e1 e2 k2' o1 k1;generalize hb0:w.heap.size=b0 at *;have h2:=h.k k2;have q0:rd w2 fb (0+i*2)=some (vi (of i).1):=by rw [za];exact EI h2.fs hf2 hi (j:=0) (by omega) rfl
 refine AG (by simp;omega) (AA rfl ⟨_,_,_,r0 h2.so,AA rfl (Wi ⟨_,by rw [tnc];exact q0,AE (fun hc=>?_) (fun hc=>?_)⟩)⟩)
 ·exact⟨k2.mono fun _ _ e=>e.elim,.inl ⟨by simpa using hc,rfl,h2⟩⟩
 have hz:(of i).1=0:=by simpa using hc
 intro w3 e3;have k3:=kdr e3;have h3:=h2.k k3;have o3:=o2.k k3;clear e3;have hlk:=rmap_look h3.mp (pid,page);refine AA rfl ⟨_,r1 h3.so,pid,page,rd2 o3,?_⟩
 cases hl:at'.lookup (pid,page) with
 | some v=>
  obtain⟨x,rfl⟩:=hv _ _ hl;rw [hl] at hlk;exact⟨x,true,hlk,AA rfl ⟨(k2.tr k3).mono fun _ _ e=>e.elim,.inr (.inl ⟨hz,rfl,rfl,h3⟩)⟩⟩
 | none=>
  rw [hl] at hlk;refine⟨0,false,hlk,AG rfl fun w4 e4=>?_⟩;have k4:=kdr e4;have h4:=h3.k k4;have o4:=o3.k k4;have K4:Kept AB w w4:=(k2.tr k3).tr k4;clear e4;refine AA rfl ⟨_,_,_,r0 h4.so,pid,page,rd2 o4,AA rfl (Wi ⟨?_,fun w5 e5=>?_⟩)⟩
  ·rw [tnc];exact⟨h4.fs.wr (by rw [hlen];show 0+i*2<_;omega),h4.fs.wr (by rw [hlen];show 0+i*2+1<_;omega)⟩
  rw [tnc] at e5;obtain⟨o5,k5⟩:=own_put2 h4.fs hf2 hi e5;have eu:upd (fun i=>EP (of i)) i [vi pid,vi page]=fun j=>EP (upd of i (pid,page) j):=by
   funext j;by_cases e:j=i
   ·subst e;rw [upd_same,upd_same];rfl
   ·rw [AH _ _ e,AH _ _ e]
  rw [eu] at o5;have h5:DE w5 r fb mb n (upd of i (pid,page)) at':=⟨h4.so.kx k5 h.ne.1,o5,h4.mp.kx k5 (Ne.symm h.ne.2.2),h.ne⟩;have p5:=o4.kx k5 (by omega);have K5:Kept (fun x=>x=fb\/x=mb) w w5:=(K4.mono fun _ _ e=>e.elim).trans k5 fun _ _ e=>.inl e;intro w6 e6;have k6:=kdr e6;have h6:=h5.k k6;obtain⟨w7,hu,hm7,k7⟩:=updG_new Tryz.underlying286 keyPg h6.mp (pid,page) (vi i) (by rw [lookup_beq];exact hl);refine AA rfl ⟨_,r1 h6.so,pid,page,rd2 (p5.k k6),w7,hu,?_,.inr (.inr ⟨hz,rfl,rfl,⟨h6.so.kx k7 h.ne.2.1,h6.fs.kx k7 h.ne.2.2,hm7,h.ne⟩⟩)⟩;exact(K5.trans k6 fun _ _ e=>e.elim).trans k7 fun _ _ e=>.inr e
theorem rclear_spec(h:DE w r fb mb n of at'){i:Nat}(hi:i<n)(hz:(of i).1≠0) :
 Calls Tryz.prog 322 #[ptr r,vi i] w fun e w'=>e=.returned (vi 0)/\Kept (fun x=>x=fb\/x=mb) w w'/\DE w' r fb mb n (upd of i (0,0)) (at'.filter fun p=>p.1 != of i):=by
 refine(vc322 _ i w (fun v w'=>v=vi 0/\Kept (fun x=>x=fb\/x=mb) w w'/\DE w' r fb mb n (upd of i (0,0)) (at'.filter fun p=>p.1 != of i)) ?_).mono ?_
 rotate_left
 ·rintro e w' ⟨v,rfl,rfl,h⟩;exact⟨rfl,h⟩
 unfold Q;have r1:∀{W:WD},own W r [.slice (some ⟨fb,0,none⟩) n n,.map (some mb)]->rd W r (0+1)=some (.map (some mb)):=fun o=>by rw [o.rd];rfl
 have r0:∀{W:WD},own W r [.slice (some ⟨fb,0,none⟩) n n,.map (some mb)]->rd W r 0=some (.slice (some ⟨fb,0,none⟩) n n):=fun o=>by rw [o.rd];rfl
 have hlt:(decide ((i:Int)<0)||decide ((i:Int)>=(n:Int)))=false:=by simp;omega
 have hf2:∀j,j<n->(EP (of j)).length=2:=fun _ _=>rfl;have hlen:(CU n fun i=>EP (of i)).length=n*2:=DI hf2;have q0:rd w fb (0+i*2)=some (vi (of i).1):=by rw [za];exact EI h.fs hf2 hi (j:=0) (by omega) rfl
 refine AF (fun _=>rfl) ⟨_,fun _=>r1 h.so,AG rfl (AF (fun _=>rfl) ⟨_,_,_,fun _=>r0 h.so,AG hlt (AA rfl ⟨_,_,_,r0 h.so,AA rfl (Wi ⟨_,by rw [tnc];exact q0,AG (by simpa using hz) fun w1 e1=>?_⟩)⟩)⟩)⟩;have k1:=kdr e1;have h1:=h.k k1;clear e1;have p0:rd w1 fb (0+i*2)=some (vi (of i).1):=by rw [za];exact EI h1.fs hf2 hi (j:=0) (by omega) rfl
 have p1:rd w1 fb (0+i*2+1)=some (vi (of i).2):=by rw [za];exact EI h1.fs hf2 hi (j:=1) (by omega) rfl
 obtain⟨w2,hd,hm2,k2⟩:=delG1 Tryz.underlying286 keyPg h1.mp (of i) (ty:=0);rw [filter_bne] at hm2;have o2:=h1.so.kx k2 h.ne.2.1;have f2:=h1.fs.kx k2 h.ne.2.2;refine AA rfl ⟨_,r1 h1.so,AA rfl ⟨_,_,_,r0 h1.so,AA rfl (Wi ⟨_,_,by rw [tnc];exact⟨p0,p1⟩,w2,hd,AA rfl ⟨_,_,_,r0 o2,AA rfl (Wi ⟨?_,fun w3 e3=>?_⟩)⟩⟩)⟩⟩
 ·rw [tnc];exact⟨f2.wr (by rw [hlen];show 0+i*2<_;omega),f2.wr (by rw [hlen];show 0+i*2+1<_;omega)⟩
 ·rw [tnc] at e3;obtain⟨o3,k3⟩:=own_put2 f2 hf2 hi e3;have eu:upd (fun i=>EP (of i)) i [vi 0,vi 0]=fun j=>EP (upd of i (0,0) j):=by
   funext j;by_cases e:j=i
   ·subst e;rw [upd_same,upd_same];rfl
   ·rw [AH _ _ e,AH _ _ e]
  rw [eu] at o3;exact⟨rfl,((k1.mono fun _ _ e=>e.elim).trans k2 fun _ _ e=>.inr e).trans k3 fun _ _ e=>.inl e,⟨o2.kx k3 h.ne.1,o3,hm2.kx k3 (Ne.symm h.ne.2.2),h.ne⟩⟩
end
structure FL(ring:List Int)(of:List (Int×Value)):Prop where
 v:∀k v,of.lookup k=some v->∃a b:Bool,v=.agg #[.bool a,.bool b]
 r:∀k,(of.lookup k).isSome=true↔k∈ring
 nd:ring.Nodup
def mk2:Value:=.agg #[.bool true,.bool true]
theorem J6{w:WD}{m b:Nat}{of:List (Int×Value)}{cs:List Value}(h:BE w m of)(o:own w b cs):b≠m:=by
 rintro rfl;obtain⟨es,c,h1,_⟩:=h.ex;obtain⟨t,h2⟩:=o;rw [h1] at h2
 cases h2
theorem FI{w:WD}{m l c:Nat}{a:OA}{of:List (Int×Value)}{xs:List Int}(h:BE w m of)(R:EK w a l c xs){x:Nat}(hx:(Value.slice a l c).ownBlock=some x):x≠m:=by
 rintro rfl;obtain⟨es,cc,h1,_⟩:=h.ex;rcases R.ex with⟨rfl,_⟩|⟨g,o,cs,rfl,h3,_⟩
 ·cases hx
 ·have:g=x:=by simpa [Value.ownBlock] using hx
  subst this;rw [h1] at h3
  cases h3
theorem EK.app1{w:WD}{a:OA}{l c:Nat}{xs:List Int}(h:EK w a l c xs){X:Nat}{y:Int}(hx:own w X [vi y])(hl:xs.length<=100000) :
 ∃a' c' w',BF Tryz.prog #[27,27] 27 (.slice a l c) (.slice (some ⟨X,0,none⟩) 1 1) (.slice a' (l+1) c') w w'/\EK w' a' (l+1) c' (xs++[y])/\Kept (fun b=>(Value.slice a l c).ownBlock=some b) w w'/\
  ((Value.slice a' (l+1) c').ownBlock=(Value.slice a l c).ownBlock\/∀g,(Value.slice a' (l+1) c').ownBlock=some g->w.heap.size<=g):=by
 obtain⟨i,z,hi,hz,hsz,hzs,hby⟩:=elInt.ex;have hlen:=h.len;have hnews:∀j u,[vi y][j]? = some u->w.cell? ((⟨X,0,none⟩:Addr).add j)=some u:=fun j u hu=>by
  rw [H9,za];have:=hx.rd j;unfold Eng.rd at this;rw [this];exact hu
 rcases h.ex with⟨rfl,h0,hc⟩|⟨g,o,cs,rfl,h2,h3,h4,h5,h6⟩
 ·subst h0;subst hc;obtain rfl:xs=[]:=List.length_eq_zero_iff.1 (by omega);obtain⟨a',l',c',w',happ,rfl,row,k,hb⟩:=J8 (P:=Tryz.prog) (t:=27) (e:=3) (i:=i) (z:=z) (size:=1) Tryz.underlying27 hi hz hsz hzs (by decide) (World.ownsRow_nil w w.heap.size 3 1) hx (m:=1) (off:=0) (c:=1) (news:=[vi y]) rfl rfl oneV (by omega) hby (nlr _);exact⟨a',c',w',happ,BK.o (base:=w.heap.size) ⟨rfl,row⟩,k,.inr fun g hg=>(row.lt g hg).1⟩
 ·by_cases hroom:l+1<=c
  ·have hr:=run_append_room_cells (P:=Tryz.prog) (w:=w) (t:=27) (ty:=27) (e:=3) (i:=i) Tryz.underlying27 hi g o l c ⟨X,0,none⟩ 1 1 [vi y] (by rw [hsz];rfl) hnews oneV hroom (fun j hj=>by
    have:j=0:=by simpa using hj
    subst this;rw [hsz];simp only [World.cell?,h2];simp only [Option.isSome_none,Bool.false_eq_true,if_false]
    rw [Array.getElem?_eq_getElem (by omega)];rfl) (fun j hj=>by simp [World.frozen?,h2])
   rw [hsz,mo] at hr;refine⟨some ⟨g,o,none⟩,c,_,⟨hr⟩,⟨by simp [hlen],.inr ⟨g,o,cs.setIfInBounds (o+l) (vi y),rfl,?_,hroom,h4,by simpa using h5,fun j x hj=>?_⟩⟩,?_,.inl rfl⟩
   ·show(w.setCell _ _).heap[g]? = _
    simp [World.setCell,Array.getElem?_modify,h2]
   ·rw [Array.getElem?_setIfInBounds];by_cases e:j=l
    ·subst e;rw [if_pos rfl,if_pos (by omega)];rw [hlen,gar (nlr _),Nat.sub_self] at hj
     cases hj;rfl
    ·have hj':=(D5.1 hj).1;rw [if_neg (by omega)];rw [gal (by simp at hj';omega)] at hj;exact h6 j x hj
   ·refine⟨rfl,rfl,rfl,by show _<=(w.setCell _ _).heap.size;simp [World.setCell],fun b hb hn=>?_⟩;have hne:g≠b:=fun e=>hn (by rw [e];rfl)
    show(w.setCell _ _).heap[b]? = _
    simp [World.setCell,Array.getElem?_modify,hne]
  ·have holds:∀j u,(xs.map vi)[j]? = some u->w.cell? ((⟨g,o,none⟩:Addr).add j)=some u:=fun j u hj=>by
    rw [gmp] at hj
    cases hxj:xs[j]? with
    | none=>rw [hxj] at hj;cases hj
    | some x=>
     rw [hxj] at hj
     cases hj
     rw [H9];simp only [World.cell?,h2];simp only [Option.isSome_none,Bool.false_eq_true,if_false];exact h6 j x hxj
   obtain⟨v',w',hr,row,hg⟩:=run_append_arg_grows (P:=Tryz.prog) (w:=w) (t:=27) (ty:=27) (e:=3) (i:=i) (z:=z) (size:=1) (bytes:=i.bytes) Tryz.underlying27 hi hz hsz rfl hzs (by decide) ⟨g,o,none⟩ l c (xs.map vi) (by simp [hlen]) holds ⟨X,0,none⟩ 1 1 [vi y] rfl hnews (by omega) (by unfold maxLen;omega) (by
    have:(l+1)*i.bytes<=100001*1000:=Nat.mul_le_mul (by omega) hby;omega)
   obtain⟨a',c',rfl⟩:∃a' c',v'=.slice a' (l+1) c':=by
    rcases row.2 with⟨_,h0⟩|⟨g,cap,cur,e,_⟩
    ·omega
    ·exact⟨_,_,e⟩
   refine⟨a',c',w',⟨hr⟩,BK.o (base:=w.heap.size) ⟨by simp [hlen],by rw [FU];exact row⟩,(Kept.grownBy hg).mono (fun b _ e=>(by cases e)),.inr fun g hg=>(row.lt g hg).1⟩
theorem clock_look{w:WD}{m:Nat}{ring:List Int}{of:List (Int×Value)}(h:BE w m of)(ok:FL ring of)(k:Int):∃a b:Bool,E5 Tryz.prog 289 (.map (some m)) (vi k) true (.tuple #[.agg #[.bool a,.bool b],.bool (of.lookup k).isSome]) w:=by
 have:=look2 (P:=Tryz.prog) (mt:=289) (vt:=311) (kt:=3) Tryz.underlying289 Tryz.underlying3 h k (Tryz.zeroValue311 w)
 cases hl:of.lookup k with
 | none=>rw [hl] at this;exact⟨_,_,this⟩
 | some v=>
  obtain⟨a,b,rfl⟩:=ok.v _ _ hl;rw [hl] at this;exact⟨a,b,this⟩
theorem st2b{w w':WD}{b:Nat}{v0 v1 u0 u1:Value}(h:own w b [v0,v1])(e:w'=st (st w b 0 u0) b 1 u1):Kept (·=b) w w':=(IY h e).2
theorem cadd_spec{w:WD}{b:Nat}{ring:List Int}{of:List (Int×Value)}{H:NP}(h:AV ring of (ptr b) H w)(ok:FL ring of){fr:Int}(hfr:0<=fr/\fr<=9223372036854775807)(hno:fr∉ring)(hl:ring.length<=100000) :
 Calls Tryz.prog 101 #[ptr b,vi fr] w fun e w'=>e=.returned (vi 0)/\Kept H w w'/\AV (ring++[fr]) (of++[(fr,mk2)]) (ptr b) (fun x=>H x\/rng w w' x) w':=by
 refine(vc101 _ fr w (fun v w'=>v=vi 0/\Kept H w w'/\AV (ring++[fr]) (of++[(fr,mk2)]) (ptr b) (fun x=>H x\/rng w w' x) w') ?_).mono ?_
 rotate_left
 ·rintro e w' ⟨v,rfl,rfl,h⟩;exact⟨rfl,h⟩
 obtain⟨b',a,l,cp,m,hb',o,R,M,fb,fm,hown⟩:=h.ex;have:b'=b:=by cases hb';rfl
 subst this;have hbm:=J6 M o;have hlk:of.lookup fr=none:=by
  cases e:of.lookup fr with
  | none=>rfl
  | some v=>exact absurd ((ok.r fr).1 (by rw [e];rfl)) hno
 have r1:∀{W:WD}{x:Value},own W b' [x,.map (some m)]->rd W b' (0+1)=some (.map (some m)):=fun o=>by rw [o.rd];rfl
 unfold Q;obtain⟨y1,y2,hlook⟩:=clock_look M ok fr;rw [hlk] at hlook;refine AF (fun _=>rfl) ⟨_,fun _=>r1 o,AG rfl (AG (by simp;omega) (AF (fun _=>rfl) ⟨_,fun _=>r1 o,AG rfl (AA rfl ⟨_,r1 o,y1,y2,false,hlook,fun w1 e1=>?_⟩)⟩))⟩;have o1:=AD e1;have k1:=kal e1;refine⟨wr2 o1,fun w2 e2=>?_⟩;have k2:Kept AB w w2:=BD k1 (st2b o1 e2) fun x e=>by omega
 clear e1 e2 o1 k1;have o2:=o.k k2;have R2:=R.k k2;refine AG rfl (AA rfl ⟨a,l,cp,by show rd w2 b' 0=_;rw [o2.rd];rfl,fun w3 e3=>?_⟩);have k3:=kal e3;have x3:=AD (c:=[vi fr]) e3;have hlen:=R.1;obtain⟨a',c',w4,happ,R4,k4,hb4⟩:=(R2.k k3).app1 x3 (by omega);have K23:=k2.tr k3;have K4:Kept H w w4:=(K23.mono fun _ _ e=>e.elim).trans k4 fun x hx e=>(hown x e).1;have hs23:=K23.sz;have o4:own w4 b' [.slice a l cp,.map (some m)]:=(o2.k k3).kx k4 fun e=>(hown b' e).2 rfl;have M4:BE w4 m of:=(M.k K23).kx k4 fun e=>FI M R e rfl;have hn4:∀x,(Value.slice a' (l+1) c').ownBlock=some x->(H x\/rng w w4 x)/\x≠b':=fun x hx=>by
  rcases hb4 with hb4|hb4
  ·rw [hb4] at hx;exact⟨.inl (hown x hx).1,(hown x hx).2⟩
  ·have h1:=hb4 x hx;have h2:=R4.lt hx;have:=h.lt _ fb;have:=k3.sz;exact⟨.inr ⟨by omega,h2⟩,by omega⟩
 refine⟨a',_,c',w4,happ,AA rfl ⟨o4.wr (by show 0<2;decide),fun w5 e5=>?_⟩⟩;have o5:own w5 b' [.slice a' (l+1) c',.map (some m)]:=o4.s1 e5;have k5:Kept (·=b') w4 w5:=kr.s1 e5 (.inl rfl);have R5:=R4.kx k5 fun x e hx=>(hn4 x hx).2 e;have M5:=M4.kx k5 fun e=>hbm e.symm;obtain⟨w6,hu,M6,k6⟩:=MG Tryz.underlying289 Tryz.underlying3 M5 fr mk2 (by omega) hlk;have hs45:w5.heap.size=w4.heap.size:=by rw [e5];simp
 have hs6:=k6.sz;have K6:Kept H w w6:=(K4.trans k5 fun x _ e=>e▸fb).trans k6 fun x _ e=>e▸fm;refine AA rfl ⟨_,r1 o5,w6,hu,rfl,K6,⟨b',a',l+1,c',m,rfl,o5.kx k6 hbm,R5.kx k6 fun x e hx=>FI M5 R5 hx e,M6,.inl fb,.inl fm,fun x hx=>⟨?_,(hn4 x hx).2⟩⟩,fun x hx=>?_⟩
 ·exact(hn4 x hx).1.imp id fun e=>⟨e.1,by have:=e.2;omega⟩
 ·rcases hx with hx|hx
  ·exact nll (h.lt x hx) K6.sz
  ·exact hx.2
theorem first_of{xs:List Int}{v:Int}(h:v∈xs):∃i,DB xs v i:=by
 induction xs with
 | nil=>cases h
 | cons x xs ih=>
  by_cases hx:x=v
  ·subst hx;exact⟨0,rfl,fun j hj=>absurd hj (nlz _)⟩
  ·rcases List.mem_cons.1 h with h|h
   ·exact absurd h.symm hx
   ·obtain⟨i,h1,h2⟩:=ih h;refine⟨i+1,by simpa using h1,fun j hj=>?_⟩
    cases j with
    | zero=>simpa using hx
    | succ j=>simpa using h2 j (by omega)
theorem cremove_spec{w:WD}{b:Nat}{ring:List Int}{of:List (Int×Value)}{H:NP}(h:AV ring of (ptr b) H w)(ok:FL ring of){fr:Int}{i:Nat}(hi:DB ring fr i)(hl:ring.length<=100000) :
 Calls Tryz.prog 323 #[ptr b,vi fr] w fun e w'=>e=.returned (vi 0)/\Kept H w w'/\AV (del ring i) (of.filter fun p=>p.1 != fr) (ptr b) (fun x=>H x\/rng w w' x) w':=by
 refine(vc323 _ fr w (fun v w'=>v=vi 0/\Kept H w w'/\AV (del ring i) (of.filter fun p=>p.1 != fr) (ptr b) (fun x=>H x\/rng w w' x) w') ?_).mono ?_
 rotate_left
 ·rintro e w' ⟨v,rfl,rfl,h⟩;exact⟨rfl,h⟩
 obtain⟨b',a,l,cp,m,hb',o,R,M,fb,fm,hown⟩:=h.ex;have:b'=b:=by cases hb';rfl
 subst this;have hbm:=J6 M o;have hil:=(D5.1 hi.1).1;have hlk:(of.lookup fr).isSome=true:=(ok.r fr).2 (mog hi.1);have r1:∀{W:WD}{x:Value},own W b' [x,.map (some m)]->rd W b' (0+1)=some (.map (some m)):=fun o=>by rw [o.rd];rfl
 have r0:∀{W:WD}{x:Value},own W b' [x,.map (some m)]->rd W b' 0=some x:=fun o=>by rw [o.rd];rfl
 unfold Q;obtain⟨y1,y2,hlook⟩:=clock_look M ok fr;rw [hlk] at hlook;refine AF (fun _=>rfl) ⟨_,fun _=>r1 o,AG rfl (AF (fun _=>rfl) ⟨_,fun _=>r1 o,AG rfl (AA rfl ⟨_,r1 o,y1,y2,true,hlook,fun w1 e1=>?_⟩)⟩)⟩;have o1:=AD e1;have k1:=kal e1;refine⟨wr2 o1,fun w2 e2=>?_⟩;have k2:Kept AB w w2:=BD k1 (st2b o1 e2) fun x e=>by omega
 clear e1 e2 o1 k1;have o2:=o.k k2;obtain⟨w3,hd,M3,k3⟩:=del1 Tryz.underlying289 Tryz.underlying3 (M.k k2) fr (ty:=0);have o3:=o2.kx k3 hbm;have R3:=(R.k k2).kx k3 fun x e hx=>FI M R hx e;refine AG rfl (AA rfl ⟨_,r1 o2,w3,hd,AA rfl ⟨a,l,cp,r0 o3,(index_spec R3 fr (by omega)).mono ?_⟩⟩);rintro _ wx ⟨hx,⟨j,hj,rfl⟩|⟨hno,rfl⟩⟩
 ·rw [hx];clear hx;have:j=i:=DB.uniq hj hi;subst this;refine⟨_,rfl,AA rfl ⟨a,l,cp,r0 o3,?_⟩⟩;rw [wi (by omega)];refine(delete_o R3 hil).mono ?_;rintro _ w4 ⟨l4,rfl,R4,k4⟩;have o4:=o3.kx k4 fun e=>(hown b' e).2 rfl;refine⟨_,_,_,rfl,AA rfl ⟨o4.wr (by show 0<2;decide),fun w5 e5=>?_⟩⟩;have o5:own w5 b' [.slice a l4 cp,.map (some m)]:=o4.s1 e5;have k5:Kept (·=b') w4 w5:=kr.s1 e5 (.inl rfl);have eob:∀x,(Value.slice a l4 cp).ownBlock=some x->(Value.slice a l cp).ownBlock=some x:=fun x hx=>by cases a <;> exact hx
  have K5:Kept H w w5:=(((k2.mono fun _ _ e=>e.elim).trans k3 fun x _ e=>e▸fm).trans k4 fun x _ e=>(hown x e).1).trans k5 fun x _ e=>e▸fb;refine⟨rfl,K5,⟨b',a,l4,cp,m,rfl,o5,R4.kx k5 fun x e hx=>(hown x (eob x hx)).2 e,(M3.kx k4 fun e=>FI M R e rfl).kx k5 fun e=>hbm e.symm,.inl fb,.inl fm,fun x hx=>⟨.inl (hown x (eob x hx)).1,(hown x (eob x hx)).2⟩⟩,fun x hx=>?_⟩;rcases hx with hx|hx
  ·exact nll (h.lt x hx) K5.sz
  ·exact hx.2
 ·exact absurd hi.1 (hno i)
end Go.Proofs.YtdgbechegbmpcaaGreatDoor
