/- Part of a proof that a law returns true. Conditions: those in each theorem. -/
import Derived.Shelf.Slices.Delete
import Derived.Test.YtdgbechegbmpcaaGreatDoorXV4
set_option linter.unusedVariables false
set_option linter.unusedSimpArgs false
set_option maxRecDepth 100000
namespace Go.Proofs
open Go.Shelf
def Tryz.A1u:Go.Shelf.Ren:=⟨λ|23=>236|n=>n,λ|22=>27|3=>3|4=>4|0=>0|n=>n,λ|n=>n⟩
theorem Tryz.C7e:Go.Proofs.Lays2.n23 Tryz.prog Tryz.A1u:={
 mixed:=by kernel_rfl
 f23:=Tryz.func236.trans (congrArg some (by kernel_rfl))
 t0:=Tryz.underlying0
 a0:=Tryz.isAgg0
 z0:=Tryz.sizeOf0
 v0:=Tryz.zeroValue0
 t3:=Tryz.underlying3
 a3:=Tryz.isAgg3
 z3:=Tryz.sizeOf3
 v3:=Tryz.zeroValue3
 t4:=Tryz.underlying4
 a4:=Tryz.isAgg4
 z4:=Tryz.sizeOf4
 v4:=Tryz.zeroValue4
 t22:=Tryz.underlying27
 a22:=Tryz.isAgg27
 z22:=Tryz.sizeOf27
 v22:=Tryz.zeroValue27
 i3:=by kernel_rfl}
end Go.Proofs
namespace Go.Proofs.YtdgbechegbmpcaaGreatDoor
open Go Go.Eng Go.Proofs.Tryz
open Go.Value (bool func slice agg int)
open Option (isNone)
open Go.IntKind (wrap)
open List (replicate range)
theorem vc241(k:OA)(cpu frame:Int)(w:WD)(K:KV)(h:Q (gIf (isP k) ((!isNone k&&decide (cpu>=0))=true) (∃(x:OA) (i r:Nat),((!isNone k&&decide (cpu>=0))=true->rd w (pb k) (po k+114)=some (.slice x i r))/\Wif (!isNone k&&decide (cpu>=0)&&decide (cpu<(↑i:Int))) (Dr w λf=>Wp k (Rs f k 114 λx g j=>Wp k (Rs f k 114 λb o s=>Wp b (Wn cpu o (Rs f b (cpu.toNat*1) λp q h=>AW f #[vi frame] 3 λw'=>Rt w' (pb b) (po b+cpu.toNat*1) (.slice p q h)<|Rt w' (pb k) (po k+114) (.slice b o s)<|Rt w' (pb k) (po k+114) (.slice x g j)<|∃(a:OA) (l c:Nat) (d:WD),BL prog #[27,27] 27 (sl p q h) (sl (aD f.heap.size) 1 1) (sl a l c) w' d/\(rd d (pb k) (po k+114)=some (.slice x g j)/\True)/\Wp x (Wn cpu g (Sw d (pb x) (po x+cpu.toNat*1) (sl a l c) λw'=>K (.tuple #[]) w'))))))) (K (.tuple #[]) w)))):Ret 241 #[pt k,vi cpu,vi frame] w K:=vcA L13 2 [] func241 h
theorem vc186(k:OA)(cpu frame:Int)(w:WD)(K:KV)(h:Q (gIf (isP k) ((!isNone k&&decide (cpu>=0))=true) (∃(x:OA) (g r:Nat),((!isNone k&&decide (cpu>=0))=true->rd w (pb k) (po k+114)=some (.slice x g r))/\Wif (!(!isNone k&&decide (cpu>=0)&&decide (cpu<(↑g:Int)))) (K (.tuple #[]) w) (Wp k (Rs w k 114 λx s A=>Wp x (Wn cpu s (Rs w x (cpu.toNat*1) λt u y=>CI 235 #[sl t u y,vi frame] w λn w'=>Wif (decide (n>=0)) (Dr w' λf=>Wp k (Rs f k 114 λx d h=>Wp k (Rs f k 114 λb i z=>Wp b (Wn cpu i (Rs f b (cpu.toNat*1) λj o p=>CS 133 #[sl j o p] f λa l c w'=>Rt w' (pb k) (po k+114) (.slice x d h)<|CS 236 #[sl a l c,vi n,vi (wrap .i64 (n+1))] w' λa l c w'=>Rt w' (pb k) (po k+114) (.slice x d h)<|Wp x (Wn cpu d (Sw w' (pb x) (po x+cpu.toNat*1) (sl a l c) λq=>K (.tuple #[]) q))))))) (K (.tuple #[]) w')))))))):Ret 186 #[pt k,vi cpu,vi frame] w K:=vcA L13 2 [] func186 h
theorem vc235(s:OA)(sL sC:Nat)(v:Int)(w:WD)(K:KV)(h:Q (∃(I:Int->Int->WD->Nat->Prop),(∃(n:Nat),I 0 0 w n)/\∀(n a:Int) (w':WD) (b:Nat),I n a w' b->Wif (decide (a<(↑sL:Int))) (Wp s (Wn a sL (Ri w' s (a.toNat*1) λx=>Wif (v==x) (K (vi a) w') (Lt b λm=>I n (wrap .i64 (a+1)) w' m)))) (K (vi (-1)) w'))):Ret 235 #[sl s sL sC,vi v] w K:=vcA L13 2 [] func235 h
end Go.Proofs.YtdgbechegbmpcaaGreatDoor
namespace Go.Proofs.YtdgbechegbmpcaaGreatDoor
open Go Go.Eng Go.Proofs.Tryz
variable {base c i l:Nat}{xs:List Int}{a:OA}
theorem BM.put{A B:Nat->IM}{n:Nat}{v:Value}{G:NP}{w:WD}(hA:∀j,j<n->Stb (A j))(h:BM A n v G w)(hi:i<n)(hB:∀j,j≠i->B j=A j) :
 ∃(g cp:Nat) (u:Value) (H:NP),v=.slice (some ⟨g,0,none⟩) n cp/\G g/\rd w g i=some u/\A i u H w/\(∀x,H x->G x/\x≠g)/\
  ∀w1,AB H w w1->wr w1 g i/\∀(w':WD) (u':Value),w'=st w1 g i u'->B i u' (λx=>H x\/rng w w1 x) w'->BM B n v (λx=>G x\/rng w w' x) w':=by
 obtain⟨g,cp,cs,u,H,h1,h2,h3,h4,h5,h6,h7⟩:=h.ex;have hcl:i<cs.length:=(DC.1 (h3 i hi)).1;have hg:=h.lt g h4;refine⟨g,cp,u i,H i,h1,h4,by rw [h2.rd];exact h3 i hi,h5 i hi,h6 i hi,λw1 k1=>?_⟩;have o1:=h2.kx k1 λe=>(h6 i hi _ e).2 rfl;refine⟨o1.wr hcl,λw' u' e hb=>?_⟩;have k2:AB (·=g) w1 w':=kr.s1 e (.inl rfl);have k:AB (λx=>H i x\/x=g) w w':=(k1.AE λ_ _ h=>.inl h).trans k2 λ_ _ h=>.inr h;have hs1:w'.heap.size=w1.heap.size:=by rw [e];simp
 have hs:=k.sz;refine⟨⟨g,cp,cs.set i u',upd u i u',upd H i (λx=>H i x\/rng w w1 x),h1,o1.s1 e,λj hj=>?_,.inl h4,λj hj=>?_,λj hj x hx=>?_,λa b ha hb' hab x hx=>?_⟩,λx hx=>?_⟩
 .rw [List.getElem?_set];by_cases e2:i=j
  .subst e2;simp [hcl]
  .rw [if_neg e2,AI _ _ (Ne.symm e2)];exact h3 j hj
 .by_cases e2:j=i
  .subst e2;rw [AF,AF];exact hb
  .rw [AI _ _ e2,AI _ _ e2,hB j e2];refine(hA j hj).kx _ _ _ _ _ (h5 j hj) k λx e1 e3=>?_;rcases e1 with e1|e1
   .exact h7 i j hi hj (Ne.symm e2) x e1 e3
   .exact(h6 j hj x e3).2 e1
 .by_cases e2:j=i
  .subst e2;rw [AF] at hx;rcases hx with hx|hx
   .exact⟨.inl (h6 j hj x hx).1,(h6 j hj x hx).2⟩
   .exact⟨.inr ⟨hx.1,by have:=hx.2;omega⟩,by have:=hx.1;omega⟩
  .rw [AI _ _ e2] at hx;exact⟨.inl (h6 j hj x hx).1,(h6 j hj x hx).2⟩
 .by_cases e2:a=i
  .subst e2;rw [AF] at hx;rw [AI _ _ (Ne.symm hab)];intro hx2;rcases hx with hx|hx
   .exact h7 a b ha hb' hab x hx hx2
   .have:=h.lt x (h6 b hb' x hx2).1;have:=hx.1;omega
  .rw [AI _ _ e2] at hx;by_cases e3:b=i
   .subst e3;rw [AF];rintro (hx2|hx2)
    .exact h7 a b ha hb' hab x hx hx2
    .have:=h.lt x (h6 a ha x hx).1;have:=hx2.1;omega
   .rw [AI _ _ e3];exact h7 a b ha hb' hab x hx
 .rcases hx with hx|hx
  .exact nll (h.lt x hx) hs
  .exact hx.2
theorem B89:ElT prog 27 3 1:=B55
theorem BV.app{w:WD}{a1 a2:OA}{l1 c1 l2 c2:Nat}{ys:List Int}(h:BV w base a1 l1 c1 xs)(hs:Eng.Src w a2 l2 c2 (ys.map vi))(hl2:l2=ys.length)(hb:base<=w.heap.size)(hl:xs.length+ys.length<=1000000) :
 ∃a l c w',BL prog #[27,27] 27 (.slice a1 l1 c1) (.slice a2 l2 c2) (.slice a l c) w w'/\BV w' base a l c (xs++ys)/\AB (λb=>(Value.slice a1 l1 c1).ownBlock=some b) w w':=by
 obtain⟨i,z,hi,hz,hsz,hzs,hby⟩:=B89.ex;obtain⟨rfl,row⟩:=h;subst hl2
 obtain⟨a',c',w',happ,row',k⟩:=Eng.app (P:=prog) (t:=27) (ty:=27) (e:=3) (i:=i) (z:=z) (size:=1) underlying27 hi hz hsz hzs (by decide) row hs (by simp) (λu hu=>by
  obtain⟨x,_,rfl⟩:=List.mem_map.1 hu
  rfl) (by omega) (by omega) hb
 refine⟨a',_,c',w',happ,⟨by simp,?_⟩,k⟩;rw [F6];exact row'
theorem BV.src{w:WD}(h:BV w base a l c xs):Eng.Src w a l c (xs.map vi):=by
 obtain⟨rfl,h⟩:=h;exact Eng.Src.B63 h
theorem BV.rd{w:WD}(h:BV w base a l c xs){x:Int}(hx:xs[i]? = some x):isP a=true/\Eng.rd w (pb a) (po a+Int.toNat (i:Int)*1)=some (vi x):=by
 have hu:(xs.map vi)[i]? = some (vi x):=by rw [gmp,hx];rfl
 have hl:=(DC.1 hx).1;rw [tnc,mo];exact⟨h.src.isp (by rw [lmp];omega),h.src.rd hu⟩
def del(xs:List Int)(i:Nat):List Int:=xs.take i++xs.drop (i+1)
def DB(xs:List Int)(v:Int)(i:Nat):Prop:=xs[i]? = some v/\∀j,j<i->xs[j]? ≠ some v
theorem DB.uniq{v:Int}{j:Nat}(h:DB xs v i)(h2:DB xs v j):i=j:=by
 rcases Nat.lt_trichotomy i j with h3|h3|h3
 .exact absurd h.1 (h2.2 i h3)
 .exact h3
 .exact absurd h2.1 (h.2 j h3)
theorem A0p{w:WD}(h:DT w a l c xs)(v:Int)(hl:xs.length<=1000000) :
 Calls prog 235 #[.slice a l c,vi v] w λe w'=>w'=w/\((∃i,DB xs v i/\e=.returned (vi i))\/((∀j:Nat,xs[j]? ≠ some v)/\e=.returned (vi (-1)))):=by
 refine(vc235 a l c v w (λr w'=>w'=w/\((∃i,DB xs v i/\r=vi i)\/((∀j:Nat,xs[j]? ≠ some v)/\r=vi (-1)))) ?_).AE ?_
 rotate_left
 .rintro e w' ⟨r,rfl,rfl,⟨i,h1,rfl⟩|⟨h1,rfl⟩⟩
  .exact⟨rfl,.inl ⟨i,h1,rfl⟩⟩
  .exact⟨rfl,.inr ⟨h1,rfl⟩⟩
 have hlen:=h.len;subst hlen;unfold Q;refine⟨λ_ n w' N=>∃q:Nat,n=q/\q<=xs.length/\N=xs.length-q/\w'=w/\∀j,j<q->xs[j]? ≠ some v,⟨xs.length,0,rfl,by omega,rfl,rfl,λj h=>absurd h (nlz _)⟩,?_⟩;rintro _ _ w1 _ ⟨q,rfl,hq,rfl,hw,hno⟩;rw [hw];refine AH (λhc=>?_) (λhc=>?_)
 .have hql:q<xs.length:=by simp at hc;omega
  obtain⟨x,hx⟩:∃x,xs[q]? = some x:=⟨_,geg hql⟩;obtain⟨hp,hr⟩:=h.rd hx;refine AA hp (Wi ⟨x,hr,AH (λhe=>?_) (λhe=>?_)⟩)
  .have:v=x:=by simpa using he
   subst this;exact⟨rfl,.inl ⟨q,⟨hx,hno⟩,rfl⟩⟩
  .have hvx:v≠x:=by simpa using he
   refine⟨xs.length-(q+1),by omega,q+1,wzz,by omega,rfl,rfl,λj hj=>?_⟩;rcases Nat.lt_or_ge j q with h3|h3
   .exact hno j h3
   .rw [show j=q by omega,hx]
    exactλe=>hvx (Option.some.inj e).symm
 .have hql:q=xs.length:=by simp at hc;omega
  refine⟨rfl,.inr ⟨λj=>?_,rfl⟩⟩;rcases Nat.lt_or_ge j q with h3|h3
  .exact hno j h3
  .rw [gen (by omega)]
   exactλe=>by cases e
section
open Go.RowKit Go.Maps Go.Sort Go.Shelf
theorem A5d{w:WD}(h:BV w base a l c xs)(hi:i<xs.length) :
 Calls prog 236 #[.slice a l c,vi i,vi (i+1:Nat)] w λe w'=>∃l',e=.returned (.slice a l' c)/\BV w' base a l' c (del xs i)/\AB (λb=>(Value.slice a l c).ownBlock=some b) w w':=by
 obtain⟨rfl,h⟩:=h;rcases h.2 with⟨h0,h1⟩|⟨g,cap,cur,hv,hb,hgg,hnc,hm,hsz,htk⟩
 .omega
 .cases hv
  have hglt:g<w.heap.size:=(FK.1 hgg).1;have hH:Holds (Value.int .i64) w g 0 xs.toArray:=by
   intro j hj;have hj':j<xs.length:=by simpa using hj
   refine⟨?_,by simp [World.frozen?,hgg]⟩;have h1:(cur.toList.take (xs.length*1))[j]? = (xs.map vi)[j]? := by rw [htk]
   rw [List.getElem?_take_of_lt (by omega)] at h1;simp only [World.cell?,hgg,za];simp only [Option.isSome_none,Bool.false_eq_true,if_false];rw [<- Array.getElem?_toList,h1];simp [hj']
  refine(Any.slices_Delete_int (ρ:=Tryz.A1u) Tryz.C7e g 0 c i (i+1) xs w hH hnc (by unfold maxLen at hm;omega) (by omega) (by omega)).AE ?_;rintro e w' ⟨rfl,m,rfl⟩;have e1:i+1-i=1:=by omega
  rw [e1];have hd:(del xs i).length=xs.length-1:=by unfold del;rw [lap,List.length_take,List.length_drop];omega
  have hg2:=A0q (n:=m) (os:=#[]) (xs.take i++xs.drop (i+1)++List.replicate 1 0).toArray hgg;have eg:∀w:WD,grow w #[]=w:=λw=>by simp [grow]
  rw [eg] at hg2;have hkk:=LU (w:=w) (g:=g) (n:=m) (os:=#[]) (xs.take i++xs.drop (i+1)++List.replicate 1 0).toArray;rw [eg] at hkk;refine⟨_,rfl,⟨hd.symm,by simp [hd],.inr ⟨g,c,_,rfl,hb,hg2,by omega,hm,by simpa [putCells] using hsz,?_⟩⟩,(AB.grownBy hkk).AE λb _ h=>by simpa [Value.ownBlock] using h⟩
  have ht:=A2c cur (xs.take i++xs.drop (i+1)++List.replicate 1 0).toArray (by
   have:cur.size=c:=by simpa using hsz
   simp;omega)
  have h2:=congrArg (List.take (xs.length-1)) ht;rw [List.take_take,Nat.min_eq_left (by simp;omega)] at h2;rw [mo,h2];simp only [List.toList_toArray];rw [F6,List.take_append_of_le_length (by rw [lmp];have:(xs.take i++xs.drop (i+1)).length=xs.length-1:=hd;omega),List.take_of_length_le (by rw [lmp];exact Nat.le_of_eq hd)]
  rfl
theorem B57{w:WD}(h:DT w a l c xs)(hi:i<xs.length) :
 Calls prog 236 #[.slice a l c,vi i,vi (i+1:Nat)] w λe w'=>∃l',e=.returned (.slice a l' c)/\DT w' a l' c (del xs i)/\AB (λb=>(Value.slice a l c).ownBlock=some b) w w':=by
 obtain rfl:=h.len;rcases h.ex with⟨_,h0,_⟩|⟨g,o,cs,rfl,h2,h3,h4,h5,h6⟩
 .omega
 .have hglt:g<w.heap.size:=(FK.1 h2).1;have hH:Holds (Value.int .i64) w g o xs.toArray:=by
   intro j hj;have hj':j<xs.length:=by simpa using hj
   refine⟨?_,by simp [World.frozen?,h2]⟩;have h1:=h6 j xs[j] (geg hj');simp only [World.cell?,h2];simp only [Option.isSome_none,Bool.false_eq_true,if_false];rw [h1];simp [hj']
  refine(Any.slices_Delete_int (ρ:=Tryz.A1u) Tryz.C7e g o c i (i+1) xs w hH h3 (by unfold maxLen at h4;omega) (by omega) (by omega)).AE ?_;rintro e w' ⟨rfl,m,rfl⟩;have e1:i+1-i=1:=by omega
  rw [e1];have hd:(del xs i).length=xs.length-1:=by unfold del;rw [lap,List.length_take,List.length_drop];omega
  have hdd:xs.take i++xs.drop (i+1)=del xs i:=rfl;rw [hdd];have hg2:(putRow (Value.int .i64) (Sort.ahead w m) g o (del xs i++List.replicate 1 0).toArray).heap[g]? = some (.cells (putCells (Value.int .i64) o (del xs i++List.replicate 1 0).toArray cs) 3 (0,0)):=by
   simp [putRow,mapBlock,Sort.ahead,Array.getElem?_modify,h2,onCells]
  refine⟨_,rfl,⟨hd.symm,.inr ⟨g,o,_,rfl,hg2,by omega,h4,by simpa [putCells] using h5,λj x hj=>?_⟩⟩,?_⟩
  .have hj':=(DC.1 hj).1;have hds:(del xs i++List.replicate 1 (0:Int)).toArray.size=xs.length:=by simp [hd];omega
   unfold putCells;rw [Array.getElem?_mapIdx,Array.getElem?_eq_getElem (by omega)];simp only [Option.map_some];rw [if_pos (by omega),show o+j-o=j by omega,getElem!_pos _ j (by omega)];have:(del xs i++List.replicate 1 (0:Int)).toArray[j]'(by omega)=x:=by
    rw [List.getElem_toArray,List.getElem_append_left hj'];exact(DC.1 hj).2
   rw [this]
  .refine⟨rfl,rfl,rfl,by simp [putRow,mapBlock,Sort.ahead],λb hb hn=>?_⟩;have hne:g≠b:=λe=>hn (by rw [e];rfl);simp [putRow,mapBlock,Sort.ahead,Array.getElem?_modify,hne]
end
section
variable {w:WD}{k:Nat}{S:AR}{fp:Prt->Nat->Prop}
theorem AO.O3(h:AO w k S fp):BM (λi=>EL (S.held i)) S.AS S.vhe (fp .held) w:=h.at' .held
def FE(S:AR)(f:Nat->List Int):AR:={S with held:=f}
theorem AO.FE{X:NP}{w':WD}{f:Nat->List Int}(h:AO w k S fp)(kk:AB X w w')(hX:∀x,X x->x<w.heap.size->fp .held x)(hr:BM (λi=>EL (f i)) S.AS S.vhe (λx=>fp .held x\/rng w w' x) w') :
 AO w' k (FE S f) (λp x=>fp p x\/(p=.held/\rng w w' x)):=by
 refine h.upd (·=.held) .held kk (λx hx hl=>⟨_,rfl,hX x hx hl⟩) rfl (λp F W hp hq=>?_) rfl λp hp=>?_
 .cases p <;> first|exact hq|exact absurd rfl hp
 .subst hp;have e:(λx=>fp .held x\/((Prt.held:Prt)=.held/\rng w w' x))=λx=>fp .held x\/rng w w' x:=by funext x;simp
  rw [e];exact hr
theorem B18(h:AO w k S fp)(cpu fr:Int)(hl:∀i,i<S.AS->(S.held i).length<=100000) :
 Calls prog 241 #[AP k,vi cpu,vi fr] w λe w'=>e=.returned (.tuple #[])/\AB (fp .held) w w'/\∃fp',AO w' k (FE S (if 0<=cpu/\cpu<S.AS then upd S.held cpu.toNat (S.held cpu.toNat++[fr]) else S.held)) fp'/\∀p x,fp' p x->fp p x\/rng w w' x:=by
 refine(vc241 _ cpu fr w (λv w'=>v=.tuple #[]/\AB (fp .held) w w'/\∃fp',AO w' k (FE S (if 0<=cpu/\cpu<S.AS then upd S.held cpu.toNat (S.held cpu.toNat++[fr]) else S.held)) fp'/\∀p x,fp' p x->fp p x\/rng w w' x) ?_).AE ?_
 rotate_left
 .rintro e w' ⟨v,rfl,rfl,h⟩;exact⟨rfl,h⟩
 have hs:=h.BQ;obtain⟨g,cp,u,H,hv,_,_,_,_,_⟩:=h.O3.put (B:=λi=>EL (S.held i)) (i:=0) (λ_ _=>EL.stb) (by omega) λ_ _=>rfl;have hr:∀{W:WD},AB AD w W->rd W k (0+114)=some (.slice (some ⟨g,0,none⟩) S.AS cp):=λkk=>by
  rw [za,<- hv];exact(h.k kk).rt (j:=20) rfl
 unfold Q;refine AJ (λ_=>rfl) ⟨_,_,_,λ_=>hr kr,AH (λhc=>?_) (λhc=>?_)⟩
 .have hin:0<=cpu/\cpu<S.AS:=by simpa using hc
  rw [if_pos hin];obtain⟨i,rfl⟩:∃i:Nat,cpu=i:=⟨cpu.toNat,by omega⟩;have hi:i<S.AS:=by omega
  rw [tnc];intro w1 e1;have k1:=kdr e1;have s1:w1.heap.size=w.heap.size:=by rw [e1];rfl
  have C1:=h.k k1;obtain⟨g2,cp2,u,H,hv2,hgG,hru,hA,hH,hput⟩:=C1.O3.put (B:=λj=>EL (upd S.held i (S.held i++[fr]) j)) (i:=i) (λ_ _=>EL.stb) hi λj hj=>by rw [AI _ _ hj]
  have eg:g2=g:=by rw [hv] at hv2;cases hv2;rfl
  subst eg;obtain⟨a,l,c,rfl,R,hown⟩:=hA.ex;have cg:∀{W:WD},AB AD w1 W->rd W g2 (0+Int.toNat (i:Int)*1)=some (.slice a l c):=λkk=>by rw [tnc,mo,za];exact kk.AV hru id
  refine AA rfl ⟨_,_,_,hr k1,AA rfl ⟨_,_,_,hr k1,AA rfl (Wi ⟨a,l,c,cg kr,λw2 e2=>?_⟩)⟩⟩;have k2:=kal e2;have o2:=AG (c:=[vi fr]) e2;refine⟨⟨cg k2,trivial⟩,⟨hr (k1.tr k2),trivial⟩,⟨hr (k1.tr k2),trivial⟩,?_⟩;obtain⟨t0,z,hi0,hz,hsz,hzs,hby⟩:=B89.ex;have row2:=(R.k k2).2;have hlen:=R.1;have hli:=hl i hi;obtain⟨a',l',c',w3,happ,rfl,row3,k3,hb3⟩:=JP (P:=prog) (t:=27) (e:=3) (i:=t0) (z:=z) (size:=1) underlying27 hi0 hz hsz hzs (by decide) row2 o2 (m:=1) (off:=0) (c:=1) (news:=[vi fr]) rfl rfl C06 (by omega) hby (by omega);have R3:BV w3 0 a' (l+1) c' (S.held i++[fr]):=⟨by rw [lap,hlen];rfl,by rw [F6];exact row3⟩;have K13:AB H w1 w3:=k2.AE (λ_ _ e=>e.elim) |>.trans k3 λx hx e=>hown x e
  have hgk:∀x,H x->x≠k:=λx hx e=>by
   have h1:=C1.dj _ _ x (hH x hx).1 (show fp .core x by rw [e];exact(C1.at' .core).2)
   cases h1
  refine⟨a',_,c',w3,happ,⟨?_,trivial⟩,AA rfl (Wi ⟨?_,λw4 e4=>?_⟩)⟩
  .exact K13.AV (hr k1) λhx=>hgk _ hx rfl
  .rw [mo]
   show wr w3 g2 (0+i)
   rw [za];exact(hput w3 K13).1
  .have e4:w4=st w3 g2 i (.slice a' (l+1) c'):=by rw [e4,mo];show st w3 g2 (0+i) _=_;rw [za]
   have k4:AB (·=g2) w3 w4:=kr.s1 e4 (.inl rfl);have hs4:w4.heap.size=w3.heap.size:=by rw [e4];simp
   have K14:AB (fp .held) w1 w4:=(K13.AE λx _ hx=>(hH x hx).1).trans k4 λx _ e=>e▸hgG;have K:AB (fp .held) w w4:=(k1.AE λ_ _ e=>e.elim).trans K14 λ_ _ h=>h;have R4:BV w4 0 a' (l+1) c' (S.held i++[fr]):=R3.kx k4 λx e ho=>by
    subst e;rcases hb3 with hb3|hb3
    .rw [hb3] at ho;exact(hH _ (hown _ ho)).2 rfl
    .have:=hb3 _ ho;have:=C1.lt _ _ hgG;have:=k2.sz;omega
   have hrow:=(hput w3 K13).2 w4 (.slice a' (l+1) c') e4 ⟨⟨a',_,c',rfl,by rw [AF];exact R4,λx hx=>?_⟩,λx hx=>?_⟩
   .refine⟨rfl,K,_,C1.FE K14 (λx hx _=>hx) hrow,λp x hx=>hx.imp id λe=>⟨by have:=e.2.1;omega,e.2.2⟩⟩
   .rcases hb3 with hb3|hb3
    .rw [hb3] at hx;exact .inl (hown x hx)
    .have h1:=hb3 x hx;have h2:=(row3.lt x hx).2;have:=k2.sz;exact .inr ⟨by omega,h2⟩
   .rcases hx with hx|hx
    .have:=(C1.lt _ _ (hH x hx).1).2;have:=K14.sz;omega
    .have:=hx.2;omega
 .have hno:¬(0<=cpu/\cpu<S.AS):=λhh=>by rw [show(!Option.isNone (some (Addr.mk k 0 none))&&decide (cpu>=0)&&decide (cpu<((S.AS:Nat):Int)))=true by simp [hh.1,hh.2]] at hc;cases hc
  rw [if_neg hno];exact⟨rfl,AB.refl _ _,fp,h,λp x hx=>.inl hx⟩
theorem B2z(h:AO w k S fp)(cpu fr:Int)(hl:∀i,i<S.AS->(S.held i).length<=100000) :
 Calls prog 186 #[AP k,vi cpu,vi fr] w λe w'=>e=.returned (.tuple #[])/\AB (fp .held) w w'/\∃fp' f',AO w' k (FE S f') fp'/\(∀p x,fp' p x->fp p x\/rng w w' x)/\
  ((∃(i j:Nat),cpu=i/\i<S.AS/\DB (S.held i) fr j/\f'=upd S.held i (del (S.held i) j))\/((∀i:Nat,cpu=i->i<S.AS->∀j:Nat,(S.held i)[j]? ≠ some fr)/\f'=S.held)):=by
 refine(vc186 _ cpu fr w (λv w'=>v=.tuple #[]/\AB (fp .held) w w'/\∃fp' f',AO w' k (FE S f') fp'/\(∀p x,fp' p x->fp p x\/rng w w' x)/\
  ((∃(i j:Nat),cpu=i/\i<S.AS/\DB (S.held i) fr j/\f'=upd S.held i (del (S.held i) j))\/((∀i:Nat,cpu=i->i<S.AS->∀j:Nat,(S.held i)[j]? ≠ some fr)/\f'=S.held))) ?_).AE ?_
 rotate_left
 .rintro e w' ⟨v,rfl,rfl,h⟩;exact⟨rfl,h⟩
 have hs:=h.BQ;obtain⟨g,cp,u,H,hv,_,_,_,_,_⟩:=h.O3.put (B:=λi=>EL (S.held i)) (i:=0) (λ_ _=>EL.stb) (by omega) λ_ _=>rfl;have hr:∀{W:WD},AB AD w W->rd W k (0+114)=some (.slice (some ⟨g,0,none⟩) S.AS cp):=λkk=>by
  rw [za,<- hv];exact(h.k kk).rt (j:=20) rfl
 unfold Q;refine AJ (λ_=>rfl) ⟨_,_,_,λ_=>hr kr,AH (λhc=>?_) (λhc=>?_)⟩
 .refine⟨rfl,AB.refl _ _,fp,S.held,h,λp x hx=>.inl hx,.inr ⟨λi hi hi2=>?_,rfl⟩⟩;exfalso;subst hi;rw [show(!(!Option.isNone (some (Addr.mk k 0 none))&&decide ((i:Int)>=0)&&decide ((i:Int)<((S.AS:Nat):Int))))=false by simp;omega] at hc
  cases hc
 .have hin:0<=cpu/\cpu<S.AS:=by simpa using hc
  obtain⟨i,rfl⟩:∃i:Nat,cpu=i:=⟨cpu.toNat,by omega⟩;have hi:i<S.AS:=by omega
  have hli:=hl i hi;obtain⟨g0,cp0,u0,H0,hv0,_,hru0,hA0,_,_⟩:=h.O3.put (B:=λi=>EL (S.held i)) (i:=i) (λ_ _=>EL.stb) hi λ_ _=>rfl;have eg:g0=g:=by rw [hv] at hv0;cases hv0;rfl
  subst eg;obtain⟨a0,l0,c0,rfl,R0,_⟩:=hA0.ex;refine AA rfl ⟨_,_,_,hr kr,AA rfl (Wi ⟨a0,l0,c0,by rw [tnc,mo];show rd w g0 (0+i)=_;rw [za];exact hru0,(A0p R0.o fr (by omega)).AE ?_⟩)⟩;rintro _ wx ⟨hx,⟨j,hj,rfl⟩|⟨hno,rfl⟩⟩
  .rw [hx];clear hx;have hjl:=(DC.1 hj.1).1;refine⟨_,rfl,AA (by simp) λw1 e1=>?_⟩;have k1:=kdr e1;have s1:w1.heap.size=w.heap.size:=by rw [e1];rfl
   have C1:=h.k k1;obtain⟨g2,cp2,u,H,hv2,hgG,hru,hA,hH,hput⟩:=C1.O3.put (B:=λm=>EL (upd S.held i (del (S.held i) j) m)) (i:=i) (λ_ _=>EL.stb) hi λm hm=>by rw [AI _ _ hm]
   have eg:g2=g0:=by rw [hv] at hv2;cases hv2;rfl
   subst eg;obtain⟨a,l,c,rfl,R,hown⟩:=hA.ex;refine AA rfl ⟨_,_,_,hr k1,AA rfl ⟨_,_,_,hr k1,AA rfl (Wi ⟨a,l,c,by rw [tnc,mo];show rd w1 g2 (0+i)=_;rw [za];exact hru,(JO R.o (by omega)).AE ?_⟩)⟩⟩;rintro _ w2 ⟨a2,c2,rfl,k2,R2⟩;rw [wi (by omega)];refine⟨_,_,_,rfl,⟨hr (k1.tr k2),trivial⟩,(A5d R2 hjl).AE ?_⟩;rintro _ w3 ⟨l3,rfl,R3,k3⟩;have K13:AB AD w1 w3:=BO k2 k3 λx e=>(R2.lt e).1;have K13H:AB H w1 w3:=K13.AE λ_ _ e=>e.elim;refine⟨_,_,_,rfl,⟨hr (k1.tr K13),trivial⟩,AA rfl (Wi ⟨?_,λw4 e4=>?_⟩)⟩
   .rw [tnc,mo]
    show wr w3 g2 (0+i)
    rw [za];exact(hput w3 K13H).1
   .have e4:w4=st w3 g2 i (.slice a2 l3 c2):=by rw [e4,tnc,mo];show st w3 g2 (0+i) _=_;rw [za]
    have k4:AB (·=g2) w3 w4:=kr.s1 e4 (.inl rfl);have hs4:w4.heap.size=w3.heap.size:=by rw [e4];simp
    have hgl:=C1.lt _ _ hgG;have K14:AB (fp .held) w1 w4:=(K13.AE λ_ _ e=>e.elim).trans k4 λx _ e=>e▸hgG;have K:AB (fp .held) w w4:=(k1.AE λ_ _ e=>e.elim).trans K14 λ_ _ h=>h;have R4:=R3.kx k4 λx e ho=>by have:=(R3.lt ho).1;omega
    have hrow:=(hput w3 K13H).2 w4 (.slice a2 l3 c2) e4 ⟨⟨a2,_,c2,rfl,by rw [AF];exact R4.B7o (Nat.zero_le _),λx hx=>.inr ⟨(R3.lt hx).1,(R3.lt hx).2⟩⟩,λx hx=>?_⟩
    .exact⟨rfl,K,_,_,C1.FE K14 (λx hx _=>hx) hrow,λp x hx=>hx.imp id λe=>⟨by have:=e.2.1;omega,e.2.2⟩,.inl ⟨i,j,rfl,hi,hj,rfl⟩⟩
    .rcases hx with hx|hx
     .have:=(C1.lt _ _ (hH x hx).1).2;have:=K14.sz;omega
     .have:=hx.2;omega
  .rw [hx];refine⟨_,rfl,AL (by decide) ⟨rfl,AB.refl _ _,fp,S.held,h,λp x hx=>.inl hx,.inr ⟨λm hm _=>?_,rfl⟩⟩⟩;have:m=i:=by omega
   subst this;exact hno
end
end Go.Proofs.YtdgbechegbmpcaaGreatDoor
namespace Go.Proofs.YtdgbechegbmpcaaGreatDoor
open Go Go.Eng MapKept Go.Shelf
variable {b c i l m:Nat}{w':WD}{of:List (Int×Value)}{a:OA}{ring xs:List Int}{H:NP}
theorem C2t(e:Bool)(a:Int×Int)(w:WD):(Instr.checkKey e 10000 308 (pgV a)).run Tryz.prog w=.ok () w:=by
 show(Instr.checkKey e (9998+1+1) 308 (.agg #[.int .i64 a.1,.int .i64 a.2])).run Tryz.prog w=.ok () w
 unfold Instr.checkKey;simp only [srb,run_underlying Tryz.underlying308,ato];have p0:(part 3 #[Value.int .i64 a.1,.int .i64 a.2] 0).run Tryz.prog w=.ok (.int .i64 a.1) w:=GZ Tryz.underlying3 (by kernel_rfl);have p1:(part 3 #[Value.int .i64 a.1,.int .i64 a.2] 1).run Tryz.prog w=.ok (.int .i64 a.2) w:=GZ Tryz.underlying3 (by kernel_rfl);have c0:∀x:Int,(Instr.checkKey e (9998+1) 3 (.int .i64 x)).run Tryz.prog w=.ok () w:=λx=>MapKept.run_checkKey (d:=.int .i64) Tryz.underlying3 (by simp [IsKey]) e 9998;simp [p0,p1,c0,Result.andThen]
theorem B8u:B6n Tryz.prog 308 pgV:=by
 refine⟨?_,C2t,⟨_,Tryz.underlying308,λa b=>.inl rfl⟩,?_,?_⟩
 .rintro ⟨a,b⟩ ⟨c,d⟩ h;simp [pgV] at h;exact Prod.ext h.1 h.2
 .rintro ⟨a,b⟩ ⟨c,d⟩ w;have h:eqT Tryz.prog 10000 308 (pgV (a,b)) (pgV (c,d))=some (a==c&&(b==d&&true)):=by kernel_rfl
  have:=A5a (P:=Tryz.prog) 10000 308 _ _ _ w h;have e:(a==c&&(b==d&&true))=decide ((a,b)=(c,d)):=by
   simp only [Prod.mk.injEq,Bool.and_true];by_cases h1:a=c <;> by_cases h2:b=d <;> simp [h1,h2]
  rw [e] at this;exact this
 .rintro ⟨a,b⟩
  show Instr.sameBits (9998+1+1) (.agg #[.int .i64 a,.int .i64 b]) (.agg #[.int .i64 a,.int .i64 b])=true
  simp [Instr.sameBits]
theorem A8w{κ:Type} [DecidableEq κ] [B:BEq κ] [LawfulBEq κ](m:List (κ×Value))(k:κ):(m.filter λp=>@bne κ instBEqOfDecidableEq p.1 k)=m.filter λp=>@bne κ B p.1 k:=by
 refine List.filter_congr λp _=>?_;by_cases h:p.1=k
 .have h1:(@bne κ B p.1 k)=false:=by simp [h]
  have h2:(@bne κ instBEqOfDecidableEq p.1 k)=false:=by simp [bne,h]
  rw [h1,h2]
 .have h1:(@bne κ B p.1 k)=true:=by simp [h]
  have h2:(@bne κ instBEqOfDecidableEq p.1 k)=true:=by
   show(!(decide (p.1=k)))=true
   simp [h]
  rw [h1,h2]
theorem B0q{w:WD}{M:List ((Int×Int)×Value)}(h:F8 pgV w b M)(k:Int×Int):EA Tryz.prog 286 (.map (some b)) (pgV k) true (.tuple #[(M.lookup k).getD (vi 0),.bool (M.lookup k).isSome]) w:=by
 have:=B68 (P:=Tryz.prog) (mt:=286) (vt:=3) (kt:=308) Tryz.underlying286 B8u h k (z:=vi 0) (Tryz.zeroValue3 w);rw [A0n] at this;exact this
section
variable {w:WD}{r fb mb n:Nat}{of:Nat->Int×Int}{at':List ((Int×Int)×Value)}
theorem DI.k(h:DI w r fb mb n of at')(k:AB AD w w'):DI w' r fb mb n of at':=⟨h.so.k k,h.fs.k k,h.mp.k k,h.ne⟩
theorem B0m(h:DI w r fb mb n of at')(hi:i<n){pid page:Int}(hp:1<=pid/\pid<=8)(hg:0<=page/\page<1024)(hv:∀k v,at'.lookup k=some v->∃x:Int,v=vi x) :
 Calls Tryz.prog 99 #[AP r,vi i,vi pid,vi page] w λe w'=>AB (λx=>x=fb\/x=mb) w w'/\
  (((of i).1≠0/\e=.returned (vi 80)/\DI w' r fb mb n of at')\/((of i).1=0/\(at'.lookup (pid,page)).isSome=true/\e=.returned (vi 8)/\DI w' r fb mb n of at')\/
   ((of i).1=0/\at'.lookup (pid,page)=none/\e=.returned (vi 0)/\DI w' r fb mb n (upd of i (pid,page)) (at'++[((pid,page),vi i)]))):=by
 refine(vc99 _ i pid page w (λv w'=>AB (λx=>x=fb\/x=mb) w w'/\
  (((of i).1≠0/\v=(vi 80)/\DI w' r fb mb n of at')\/((of i).1=0/\(at'.lookup (pid,page)).isSome=true/\v=(vi 8)/\DI w' r fb mb n of at')\/
   ((of i).1=0/\at'.lookup (pid,page)=none/\v=(vi 0)/\DI w' r fb mb n (upd of i (pid,page)) (at'++[((pid,page),vi i)])))) ?_).AE ?_
 rotate_left
 .rintro e w' ⟨v,rfl,hk,⟨h1,rfl,h2⟩|⟨h0,h1,rfl,h2⟩|⟨h0,h1,rfl,h2⟩⟩
  .exact⟨hk,.inl ⟨h1,rfl,h2⟩⟩
  .exact⟨hk,.inr (.inl ⟨h0,h1,rfl,h2⟩)⟩
  .exact⟨hk,.inr (.inr ⟨h0,h1,rfl,h2⟩)⟩
 unfold Q;have r1:∀{W:WD},AX W r [.slice (some ⟨fb,0,none⟩) n n,.map (some mb)]->rd W r (0+1)=some (.map (some mb)):=λo=>by rw [o.rd];rfl
 have r0:∀{W:WD},AX W r [.slice (some ⟨fb,0,none⟩) n n,.map (some mb)]->rd W r 0=some (.slice (some ⟨fb,0,none⟩) n n):=λo=>by rw [o.rd];rfl
 have hlt:(decide ((i:Int)<0)||decide ((i:Int)>=(n:Int)))=false:=by simp;omega
 have hf2:∀j,j<n->(E3 (of j)).length=2:=λ_ _=>rfl;have hlen:(D4 n λi=>E3 (of i)).length=n*2:=DE hf2;have hfl:=h.fs.lt;have hml:=h.mp.lt;have hrl:=h.so.lt;refine AJ (λ_=>rfl) ⟨_,λ_=>r1 h.so,AL rfl (AJ (λ_=>rfl) ⟨_,_,_,λ_=>r0 h.so,AL hlt λw1 e1=>?_⟩)⟩;have o1:=AG e1;have k1:=kal e1;refine⟨wr2 o1,λw2 e2=>?_⟩;obtain⟨o2,k2'⟩:=JU o1 e2;have k2:AB AD w w2:=BO k1 k2' λx e=>by omega
 clear e1 e2 k2' o1 k1;generalize hb0:w.heap.size=b0 at *;have h2:=h.k k2;have q0:rd w2 fb (0+i*2)=some (vi (of i).1):=by rw [za];exact EO h2.fs hf2 hi (j:=0) (by omega) rfl
 refine AL (by simp;omega) (AA rfl ⟨_,_,_,r0 h2.so,AA rfl (Wi ⟨_,by rw [tnc];exact q0,AH (λhc=>?_) (λhc=>?_)⟩)⟩)
 .exact⟨k2.AE λ_ _ e=>e.elim,.inl ⟨by simpa using hc,rfl,h2⟩⟩
 have hz:(of i).1=0:=by simpa using hc
 intro w3 e3;have k3:=kdr e3;have h3:=h2.k k3;have o3:=o2.k k3;clear e3;have hlk:=B0q h3.mp (pid,page);refine AA rfl ⟨_,r1 h3.so,pid,page,rd2 o3,?_⟩
 cases hl:at'.lookup (pid,page) with
 | some v=>
  obtain⟨x,rfl⟩:=hv _ _ hl;rw [hl] at hlk;exact⟨x,true,hlk,AA rfl ⟨(k2.tr k3).AE λ_ _ e=>e.elim,.inr (.inl ⟨hz,rfl,rfl,h3⟩)⟩⟩
 | none=>
  rw [hl] at hlk;refine⟨0,false,hlk,AL rfl λw4 e4=>?_⟩;have k4:=kdr e4;have h4:=h3.k k4;have o4:=o3.k k4;have K4:AB AD w w4:=(k2.tr k3).tr k4;clear e4;refine AA rfl ⟨_,_,_,r0 h4.so,pid,page,rd2 o4,AA rfl (Wi ⟨?_,λw5 e5=>?_⟩)⟩
  .rw [tnc];exact⟨h4.fs.wr (by rw [hlen];show 0+i*2<_;omega),h4.fs.wr (by rw [hlen];show 0+i*2+1<_;omega)⟩
  rw [tnc] at e5;obtain⟨o5,k5⟩:=A6e h4.fs hf2 hi e5;have eu:upd (λi=>E3 (of i)) i [vi pid,vi page]=λj=>E3 (upd of i (pid,page) j):=by
   funext j;by_cases e:j=i
   .subst e;rw [AF,AF];rfl
   .rw [AI _ _ e,AI _ _ e]
  rw [eu] at o5;have h5:DI w5 r fb mb n (upd of i (pid,page)) at':=⟨h4.so.kx k5 h.ne.1,o5,h4.mp.kx k5 (Ne.symm h.ne.2.2),h.ne⟩;have p5:=o4.kx k5 (by omega);have K5:AB (λx=>x=fb\/x=mb) w w5:=(K4.AE λ_ _ e=>e.elim).trans k5 λ_ _ e=>.inl e;intro w6 e6;have k6:=kdr e6;have h6:=h5.k k6;obtain⟨w7,hu,hm7,k7⟩:=A51 Tryz.underlying286 B8u h6.mp (pid,page) (vi i) (by rw [A0n];exact hl);refine AA rfl ⟨_,r1 h6.so,pid,page,rd2 (p5.k k6),w7,hu,?_,.inr (.inr ⟨hz,rfl,rfl,⟨h6.so.kx k7 h.ne.2.1,h6.fs.kx k7 h.ne.2.2,hm7,h.ne⟩⟩)⟩;exact(K5.trans k6 λ_ _ e=>e.elim).trans k7 λ_ _ e=>.inr e
theorem A4l(h:DI w r fb mb n of at')(hi:i<n)(hz:(of i).1≠0) :
 Calls Tryz.prog 322 #[AP r,vi i] w λe w'=>e=.returned (vi 0)/\AB (λx=>x=fb\/x=mb) w w'/\DI w' r fb mb n (upd of i (0,0)) (at'.filter λp=>p.1 != of i):=by
 refine(vc322 _ i w (λv w'=>v=vi 0/\AB (λx=>x=fb\/x=mb) w w'/\DI w' r fb mb n (upd of i (0,0)) (at'.filter λp=>p.1 != of i)) ?_).AE ?_
 rotate_left
 .rintro e w' ⟨v,rfl,rfl,h⟩;exact⟨rfl,h⟩
 unfold Q;have r1:∀{W:WD},AX W r [.slice (some ⟨fb,0,none⟩) n n,.map (some mb)]->rd W r (0+1)=some (.map (some mb)):=λo=>by rw [o.rd];rfl
 have r0:∀{W:WD},AX W r [.slice (some ⟨fb,0,none⟩) n n,.map (some mb)]->rd W r 0=some (.slice (some ⟨fb,0,none⟩) n n):=λo=>by rw [o.rd];rfl
 have hlt:(decide ((i:Int)<0)||decide ((i:Int)>=(n:Int)))=false:=by simp;omega
 have hf2:∀j,j<n->(E3 (of j)).length=2:=λ_ _=>rfl;have hlen:(D4 n λi=>E3 (of i)).length=n*2:=DE hf2;have q0:rd w fb (0+i*2)=some (vi (of i).1):=by rw [za];exact EO h.fs hf2 hi (j:=0) (by omega) rfl
 refine AJ (λ_=>rfl) ⟨_,λ_=>r1 h.so,AL rfl (AJ (λ_=>rfl) ⟨_,_,_,λ_=>r0 h.so,AL hlt (AA rfl ⟨_,_,_,r0 h.so,AA rfl (Wi ⟨_,by rw [tnc];exact q0,AL (by simpa using hz) λw1 e1=>?_⟩)⟩)⟩)⟩;have k1:=kdr e1;have h1:=h.k k1;clear e1;have p0:rd w1 fb (0+i*2)=some (vi (of i).1):=by rw [za];exact EO h1.fs hf2 hi (j:=0) (by omega) rfl
 have p1:rd w1 fb (0+i*2+1)=some (vi (of i).2):=by rw [za];exact EO h1.fs hf2 hi (j:=1) (by omega) rfl
 obtain⟨w2,hd,hm2,k2⟩:=C2r Tryz.underlying286 B8u h1.mp (of i) (ty:=0);rw [A8w] at hm2;have o2:=h1.so.kx k2 h.ne.2.1;have f2:=h1.fs.kx k2 h.ne.2.2;refine AA rfl ⟨_,r1 h1.so,AA rfl ⟨_,_,_,r0 h1.so,AA rfl (Wi ⟨_,_,by rw [tnc];exact⟨p0,p1⟩,w2,hd,AA rfl ⟨_,_,_,r0 o2,AA rfl (Wi ⟨?_,λw3 e3=>?_⟩)⟩⟩)⟩⟩
 .rw [tnc];exact⟨f2.wr (by rw [hlen];show 0+i*2<_;omega),f2.wr (by rw [hlen];show 0+i*2+1<_;omega)⟩
 .rw [tnc] at e3;obtain⟨o3,k3⟩:=A6e f2 hf2 hi e3;have eu:upd (λi=>E3 (of i)) i [vi 0,vi 0]=λj=>E3 (upd of i (0,0) j):=by
   funext j;by_cases e:j=i
   .subst e;rw [AF,AF];rfl
   .rw [AI _ _ e,AI _ _ e]
  rw [eu] at o3;exact⟨rfl,((k1.AE λ_ _ e=>e.elim).trans k2 λ_ _ e=>.inr e).trans k3 λ_ _ e=>.inl e,⟨o2.kx k3 h.ne.1,o3,hm2.kx k3 (Ne.symm h.ne.2.2),h.ne⟩⟩
end
structure FM(ring:List Int)(of:List (Int×Value)):Prop where
 v:∀k v,of.lookup k=some v->∃a b:Bool,v=.agg #[.bool a,.bool b]
 r:∀k,(of.lookup k).isSome=true↔k∈ring
 nd:ring.Nodup
def mk2:Value:=.agg #[.bool true,.bool true]
theorem JM{w:WD}{cs:List Value}(h:BJ w m of)(o:AX w b cs):b≠m:=by
 rintro rfl;obtain⟨es,c,h1,_⟩:=h.ex;obtain⟨t,h2⟩:=o;rw [h1] at h2
 cases h2
theorem FT{w:WD}(h:BJ w m of)(R:DT w a l c xs){x:Nat}(hx:(Value.slice a l c).ownBlock=some x):x≠m:=by
 rintro rfl;obtain⟨es,cc,h1,_⟩:=h.ex;rcases R.ex with⟨rfl,_⟩|⟨g,o,cs,rfl,h3,_⟩
 .cases hx
 .have:g=x:=by simpa [Value.ownBlock] using hx
  subst this;rw [h1] at h3
  cases h3
theorem DT.C3u{w:WD}(h:DT w a l c xs){X:Nat}{y:Int}(hx:AX w X [vi y])(hl:xs.length<=100000) :
 ∃a' c' w',BL Tryz.prog #[27,27] 27 (.slice a l c) (.slice (some ⟨X,0,none⟩) 1 1) (.slice a' (l+1) c') w w'/\DT w' a' (l+1) c' (xs++[y])/\AB (λb=>(Value.slice a l c).ownBlock=some b) w w'/\
  ((Value.slice a' (l+1) c').ownBlock=(Value.slice a l c).ownBlock\/∀g,(Value.slice a' (l+1) c').ownBlock=some g->w.heap.size<=g):=by
 obtain⟨i,z,hi,hz,hsz,hzs,hby⟩:=B89.ex;have hlen:=h.len;have hnews:∀j u,[vi y][j]? = some u->w.cell? ((⟨X,0,none⟩:Addr).add j)=some u:=λj u hu=>by
  rw [HS,za];have:=hx.rd j;unfold Eng.rd at this;rw [this];exact hu
 rcases h.ex with⟨rfl,h0,hc⟩|⟨g,o,cs,rfl,h2,h3,h4,h5,h6⟩
 .subst h0;subst hc;obtain rfl:xs=[]:=List.length_eq_zero_iff.1 (by omega);obtain⟨a',l',c',w',happ,rfl,row,k,hb⟩:=JP (P:=Tryz.prog) (t:=27) (e:=3) (i:=i) (z:=z) (size:=1) Tryz.underlying27 hi hz hsz hzs (by decide) (World.ownsRow_nil w w.heap.size 3 1) hx (m:=1) (off:=0) (c:=1) (news:=[vi y]) rfl rfl C06 (by omega) hby (nlr _);exact⟨a',c',w',happ,BV.o (base:=w.heap.size) ⟨rfl,row⟩,k,.inr λg hg=>(row.lt g hg).1⟩
 .by_cases hroom:l+1<=c
  .have hr:=run_append_room_cells (P:=Tryz.prog) (w:=w) (t:=27) (ty:=27) (e:=3) (i:=i) Tryz.underlying27 hi g o l c ⟨X,0,none⟩ 1 1 [vi y] (by rw [hsz];rfl) hnews C06 hroom (λj hj=>by
    have:j=0:=by simpa using hj
    subst this;rw [hsz];simp only [World.cell?,h2];simp only [Option.isSome_none,Bool.false_eq_true,if_false]
    rw [Array.getElem?_eq_getElem (by omega)];rfl) (λj hj=>by simp [World.frozen?,h2])
   rw [hsz,mo] at hr;refine⟨some ⟨g,o,none⟩,c,_,⟨hr⟩,⟨by simp [hlen],.inr ⟨g,o,cs.setIfInBounds (o+l) (vi y),rfl,?_,hroom,h4,by simpa using h5,λj x hj=>?_⟩⟩,?_,.inl rfl⟩
   .show(w.setCell _ _).heap[g]? = _
    simp [World.setCell,Array.getElem?_modify,h2]
   .rw [Array.getElem?_setIfInBounds];by_cases e:j=l
    .subst e;rw [if_pos rfl,if_pos (by omega)];rw [hlen,gar (nlr _),Nat.sub_self] at hj
     cases hj;rfl
    .have hj':=(DC.1 hj).1;rw [if_neg (by omega)];rw [gal (by simp at hj';omega)] at hj;exact h6 j x hj
   .refine⟨rfl,rfl,rfl,by show _<=(w.setCell _ _).heap.size;simp [World.setCell],λb hb hn=>?_⟩;have hne:g≠b:=λe=>hn (by rw [e];rfl)
    show(w.setCell _ _).heap[b]? = _
    simp [World.setCell,Array.getElem?_modify,hne]
  .have holds:∀j u,(xs.map vi)[j]? = some u->w.cell? ((⟨g,o,none⟩:Addr).add j)=some u:=λj u hj=>by
    rw [gmp] at hj
    cases hxj:xs[j]? with
    | none=>rw [hxj] at hj;cases hj
    | some x=>
     rw [hxj] at hj
     cases hj
     rw [HS];simp only [World.cell?,h2];simp only [Option.isSome_none,Bool.false_eq_true,if_false];exact h6 j x hxj
   obtain⟨v',w',hr,row,hg⟩:=run_append_arg_grows (P:=Tryz.prog) (w:=w) (t:=27) (ty:=27) (e:=3) (i:=i) (z:=z) (size:=1) (bytes:=i.bytes) Tryz.underlying27 hi hz hsz rfl hzs (by decide) ⟨g,o,none⟩ l c (xs.map vi) (by simp [hlen]) holds ⟨X,0,none⟩ 1 1 [vi y] rfl hnews (by omega) (by unfold maxLen;omega) (by
    have:(l+1)*i.bytes<=100001*1000:=Nat.mul_le_mul (by omega) hby;omega)
   obtain⟨a',c',rfl⟩:∃a' c',v'=.slice a' (l+1) c':=by
    rcases row.2 with⟨_,h0⟩|⟨g,cap,cur,e,_⟩
    .omega
    .exact⟨_,_,e⟩
   refine⟨a',c',w',⟨hr⟩,BV.o (base:=w.heap.size) ⟨by simp [hlen],by rw [F6];exact row⟩,(AB.grownBy hg).AE (λb _ e=>(by cases e)),.inr λg hg=>(row.lt g hg).1⟩
theorem A0z{w:WD}(h:BJ w m of)(ok:FM ring of)(k:Int):∃a b:Bool,EA Tryz.prog 289 (.map (some m)) (vi k) true (.tuple #[.agg #[.bool a,.bool b],.bool (of.lookup k).isSome]) w:=by
 have:=B8r (P:=Tryz.prog) (mt:=289) (vt:=311) (kt:=3) Tryz.underlying289 Tryz.underlying3 h k (Tryz.zeroValue311 w)
 cases hl:of.lookup k with
 | none=>rw [hl] at this;exact⟨_,_,this⟩
 | some v=>
  obtain⟨a,b,rfl⟩:=ok.v _ _ hl;rw [hl] at this;exact⟨a,b,this⟩
theorem C6y{w:WD}{v0 v1 u0 u1:Value}(h:AX w b [v0,v1])(e:w'=st (st w b 0 u0) b 1 u1):AB (·=b) w w':=(JU h e).2
theorem B3i{w:WD}(h:BE ring of (AP b) H w)(ok:FM ring of){fr:Int}(hfr:0<=fr/\fr<=9223372036854775807)(hno:fr∉ring)(hl:ring.length<=100000) :
 Calls Tryz.prog 101 #[AP b,vi fr] w λe w'=>e=.returned (vi 0)/\AB H w w'/\BE (ring++[fr]) (of++[(fr,mk2)]) (AP b) (λx=>H x\/rng w w' x) w':=by
 refine(vc101 _ fr w (λv w'=>v=vi 0/\AB H w w'/\BE (ring++[fr]) (of++[(fr,mk2)]) (AP b) (λx=>H x\/rng w w' x) w') ?_).AE ?_
 rotate_left
 .rintro e w' ⟨v,rfl,rfl,h⟩;exact⟨rfl,h⟩
 obtain⟨b',a,l,cp,m,hb',o,R,M,fb,fm,hown⟩:=h.ex;have:b'=b:=by cases hb';rfl
 subst this;have hbm:=JM M o;have hlk:of.lookup fr=none:=by
  cases e:of.lookup fr with
  | none=>rfl
  | some v=>exact absurd ((ok.r fr).1 (by rw [e];rfl)) hno
 have r1:∀{W:WD}{x:Value},AX W b' [x,.map (some m)]->rd W b' (0+1)=some (.map (some m)):=λo=>by rw [o.rd];rfl
 unfold Q;obtain⟨y1,y2,hlook⟩:=A0z M ok fr;rw [hlk] at hlook;refine AJ (λ_=>rfl) ⟨_,λ_=>r1 o,AL rfl (AL (by simp;omega) (AJ (λ_=>rfl) ⟨_,λ_=>r1 o,AL rfl (AA rfl ⟨_,r1 o,y1,y2,false,hlook,λw1 e1=>?_⟩)⟩))⟩;have o1:=AG e1;have k1:=kal e1;refine⟨wr2 o1,λw2 e2=>?_⟩;have k2:AB AD w w2:=BO k1 (C6y o1 e2) λx e=>by omega
 clear e1 e2 o1 k1;have o2:=o.k k2;have R2:=R.k k2;refine AL rfl (AA rfl ⟨a,l,cp,by show rd w2 b' 0=_;rw [o2.rd];rfl,λw3 e3=>?_⟩);have k3:=kal e3;have x3:=AG (c:=[vi fr]) e3;have hlen:=R.1;obtain⟨a',c',w4,happ,R4,k4,hb4⟩:=(R2.k k3).C3u x3 (by omega);have K23:=k2.tr k3;have K4:AB H w w4:=(K23.AE λ_ _ e=>e.elim).trans k4 λx hx e=>(hown x e).1;have hs23:=K23.sz;have o4:AX w4 b' [.slice a l cp,.map (some m)]:=(o2.k k3).kx k4 λe=>(hown b' e).2 rfl;have M4:BJ w4 m of:=(M.k K23).kx k4 λe=>FT M R e rfl;have hn4:∀x,(Value.slice a' (l+1) c').ownBlock=some x->(H x\/rng w w4 x)/\x≠b':=λx hx=>by
  rcases hb4 with hb4|hb4
  .rw [hb4] at hx;exact⟨.inl (hown x hx).1,(hown x hx).2⟩
  .have h1:=hb4 x hx;have h2:=R4.lt hx;have:=h.lt _ fb;have:=k3.sz;exact⟨.inr ⟨by omega,h2⟩,by omega⟩
 refine⟨a',_,c',w4,happ,AA rfl ⟨o4.wr (by show 0<2;decide),λw5 e5=>?_⟩⟩;have o5:AX w5 b' [.slice a' (l+1) c',.map (some m)]:=o4.s1 e5;have k5:AB (·=b') w4 w5:=kr.s1 e5 (.inl rfl);have R5:=R4.kx k5 λx e hx=>(hn4 x hx).2 e;have M5:=M4.kx k5 λe=>hbm e.symm;obtain⟨w6,hu,M6,k6⟩:=KL Tryz.underlying289 Tryz.underlying3 M5 fr mk2 (by omega) hlk;have hs45:w5.heap.size=w4.heap.size:=by rw [e5];simp
 have hs6:=k6.sz;have K6:AB H w w6:=(K4.trans k5 λx _ e=>e▸fb).trans k6 λx _ e=>e▸fm;refine AA rfl ⟨_,r1 o5,w6,hu,rfl,K6,⟨b',a',l+1,c',m,rfl,o5.kx k6 hbm,R5.kx k6 λx e hx=>FT M5 R5 hx e,M6,.inl fb,.inl fm,λx hx=>⟨?_,(hn4 x hx).2⟩⟩,λx hx=>?_⟩
 .exact(hn4 x hx).1.imp id λe=>⟨e.1,by have:=e.2;omega⟩
 .rcases hx with hx|hx
  .exact nll (h.lt x hx) K6.sz
  .exact hx.2
theorem B50{v:Int}(h:v∈xs):∃i,DB xs v i:=by
 induction xs with
 | nil=>cases h
 | cons x xs ih=>
  by_cases hx:x=v
  .subst hx;exact⟨0,rfl,λj hj=>absurd hj (nlz _)⟩
  .rcases List.mem_cons.1 h with h|h
   .exact absurd h.symm hx
   .obtain⟨i,h1,h2⟩:=ih h;refine⟨i+1,by simpa using h1,λj hj=>?_⟩
    cases j with
    | zero=>simpa using hx
    | succ j=>simpa using h2 j (by omega)
theorem A3w{w:WD}(h:BE ring of (AP b) H w)(ok:FM ring of){fr:Int}(hi:DB ring fr i)(hl:ring.length<=100000) :
 Calls Tryz.prog 323 #[AP b,vi fr] w λe w'=>e=.returned (vi 0)/\AB H w w'/\BE (del ring i) (of.filter λp=>p.1 != fr) (AP b) (λx=>H x\/rng w w' x) w':=by
 refine(vc323 _ fr w (λv w'=>v=vi 0/\AB H w w'/\BE (del ring i) (of.filter λp=>p.1 != fr) (AP b) (λx=>H x\/rng w w' x) w') ?_).AE ?_
 rotate_left
 .rintro e w' ⟨v,rfl,rfl,h⟩;exact⟨rfl,h⟩
 obtain⟨b',a,l,cp,m,hb',o,R,M,fb,fm,hown⟩:=h.ex;have:b'=b:=by cases hb';rfl
 subst this;have hbm:=JM M o;have hil:=(DC.1 hi.1).1;have hlk:(of.lookup fr).isSome=true:=(ok.r fr).2 (mog hi.1);have r1:∀{W:WD}{x:Value},AX W b' [x,.map (some m)]->rd W b' (0+1)=some (.map (some m)):=λo=>by rw [o.rd];rfl
 have r0:∀{W:WD}{x:Value},AX W b' [x,.map (some m)]->rd W b' 0=some x:=λo=>by rw [o.rd];rfl
 unfold Q;obtain⟨y1,y2,hlook⟩:=A0z M ok fr;rw [hlk] at hlook;refine AJ (λ_=>rfl) ⟨_,λ_=>r1 o,AL rfl (AJ (λ_=>rfl) ⟨_,λ_=>r1 o,AL rfl (AA rfl ⟨_,r1 o,y1,y2,true,hlook,λw1 e1=>?_⟩)⟩)⟩;have o1:=AG e1;have k1:=kal e1;refine⟨wr2 o1,λw2 e2=>?_⟩;have k2:AB AD w w2:=BO k1 (C6y o1 e2) λx e=>by omega
 clear e1 e2 o1 k1;have o2:=o.k k2;obtain⟨w3,hd,M3,k3⟩:=C5l Tryz.underlying289 Tryz.underlying3 (M.k k2) fr (ty:=0);have o3:=o2.kx k3 hbm;have R3:=(R.k k2).kx k3 λx e hx=>FT M R hx e;refine AL rfl (AA rfl ⟨_,r1 o2,w3,hd,AA rfl ⟨a,l,cp,r0 o3,(A0p R3 fr (by omega)).AE ?_⟩⟩);rintro _ wx ⟨hx,⟨j,hj,rfl⟩|⟨hno,rfl⟩⟩
 .rw [hx];clear hx;have:j=i:=DB.uniq hj hi;subst this;refine⟨_,rfl,AA rfl ⟨a,l,cp,r0 o3,?_⟩⟩;rw [wi (by omega)];refine(B57 R3 hil).AE ?_;rintro _ w4 ⟨l4,rfl,R4,k4⟩;have o4:=o3.kx k4 λe=>(hown b' e).2 rfl;refine⟨_,_,_,rfl,AA rfl ⟨o4.wr (by show 0<2;decide),λw5 e5=>?_⟩⟩;have o5:AX w5 b' [.slice a l4 cp,.map (some m)]:=o4.s1 e5;have k5:AB (·=b') w4 w5:=kr.s1 e5 (.inl rfl);have eob:∀x,(Value.slice a l4 cp).ownBlock=some x->(Value.slice a l cp).ownBlock=some x:=λx hx=>by cases a <;> exact hx
  have K5:AB H w w5:=(((k2.AE λ_ _ e=>e.elim).trans k3 λx _ e=>e▸fm).trans k4 λx _ e=>(hown x e).1).trans k5 λx _ e=>e▸fb;refine⟨rfl,K5,⟨b',a,l4,cp,m,rfl,o5,R4.kx k5 λx e hx=>(hown x (eob x hx)).2 e,(M3.kx k4 λe=>FT M R e rfl).kx k5 λe=>hbm e.symm,.inl fb,.inl fm,λx hx=>⟨.inl (hown x (eob x hx)).1,(hown x (eob x hx)).2⟩⟩,λx hx=>?_⟩;rcases hx with hx|hx
  .exact nll (h.lt x hx) K5.sz
  .exact hx.2
 .exact absurd hi.1 (hno i)
end Go.Proofs.YtdgbechegbmpcaaGreatDoor
namespace Go.Proofs.YtdgbechegbmpcaaGreatDoor
open Go Go.Eng Go.Proofs.Tryz
open Go.Value (bool func slice agg int)
open Option (isNone)
open Go.IntKind (wrap)
open List (replicate range)
def vcP53(c0:NI)(p0 p1 «local» page:Int)(w:WD)(K:KV):Prop:=AW w (List.toArray (AQ .i64 c0 0 94)) 26 λw'=>AW w' #[vu p0,vu p1] 113 λg=>∃(x:NI),BB g w.heap.size 0 (AQ .i64 x 0 94)/\∃(o p:Int),(rd g w'.heap.size 0=some (.int .u8 o)/\rd g w'.heap.size 1=some (.int .u8 p))/\Calls prog 156 #[agg (List.toArray (AQ .i64 x 0 94)),agg #[vu o,vu p]] g λ(e:Ending) (h:WD)=>∃(b:Bool),e=rT (.bool b)/\Wif (!b||decide (page<0)) (K (.tuple #[sl none 0 0,vi 2]) h) (∃(x:NI),BB h w.heap.size 0 (AQ .i64 x 0 94)/\Calls prog 157 #[agg (List.toArray (AQ .i64 x 0 94)),vi «local»] h λ(e:Ending) (d:WD)=>∃(a:OA) (l c:Nat) (n:Int),e=rT (.tuple #[sl a l c,vi n])/\Wif (n != 0) (K (.tuple #[sl none 0 0,vi n]) d) (AW d #[Value.nilFunc] 63 λs=>Sw s d.heap.size 0 (func (.func 158) #[] #[AP w'.heap.size]) λf=>R8 f w'.heap.size 0 λx=>Wif (x==1) (Dr f λi=>∃(x:NI),BB i w.heap.size 0 (AQ .i64 x 0 94)/\R8 i w'.heap.size 1 λj=>CI 160 #[vu j] i λn w'=>(BB w' w.heap.size 0 (AQ .i64 x 0 94)/\True)/\Calls prog 157 #[agg (List.toArray (AQ .i64 x 0 94)),vi n] w' λe w'=>∃(a:OA) (l c:Nat) (n:Int),e=rT (.tuple #[sl a l c,vi n])/\K (.tuple #[sl a l c,vi n]) w') (Wif (x==2) (CS 161 #[sl a l c,func (.func 162) #[] #[AP d.heap.size]] f λa l c w'=>K (.tuple #[sl a l c,vi 0]) w') (Wif (x==3) (Dr f λi=>R8 i w'.heap.size 1 λx=>RV i d.heap.size 0 λj=>CS 163 #[vu x,vi page] i λt u c_1 w'=>Rt w' d.heap.size 0 j<|CS 161 #[sl a l c,j] w' λa l c w'=>∃(q:OA) (r c_2:Nat) (k:WD),BL prog #[27,27] 27 (sl t u c_1) (sl a l c) (sl q r c_2) w' k/\K (.tuple #[sl q r c_2,vi 0]) k) (K (.tuple #[sl a l c,vi 0]) f)))))
theorem vc53(c0:NI)(p0 p1 «local» page:Int)(w:WD)(K:KV)(h:vcP53 c0 p0 p1 «local» page w K):Ret 53 #[agg (List.toArray (AQ .i64 c0 0 94)),agg #[vu p0,vu p1],vi «local»,vi page] w K:=vcA L4 3 [] func53 h
theorem vc156(c0:NI)(p0 p1:Int)(w:WD)(K:KV)(h:Q (AW w (List.toArray (AQ .i64 c0 0 94)) 26 λw'=>AW w' #[vu p0,vu p1] 113 λg=>Dr g λh=>∃(x:NI),BB h w.heap.size 0 (AQ .i64 x 0 94)/\Calls prog 60 #[agg (List.toArray (AQ .i64 x 0 94))] h λ(e:Ending) (c:WD)=>∃(b:Bool),e=rT (.bool b)/\∃(x:Int),((!b)=false->rd c w'.heap.size 1=some (.int .u8 x))/\∃(f:Int),((!b)=false->rd c w.heap.size 0=some (.int .i64 f))/\Wif (!b) (((!b)=false->rd c w.heap.size 0=some (.int .i64 f)/\True)/\K (.bool false) c) (Calls prog 223 #[vu x] c λ(e:Ending) (d:WD)=>∃(n:Int),e=rT (vi n)/\((!b)=false->rd d w.heap.size 0=some (.int .i64 f)/\True)/\Wif (decide (n>f)) (K (.bool false) d) (R8 d w'.heap.size 1 λx=>Calls prog 224 #[vu x] d λ(e:Ending) (a:WD)=>∃(n:Int),e=rT (vi n)/\R8 a w'.heap.size 0 λx=>Wif (x==0) (K (.bool (n==0)) a) (Wif (x==1) (K (.bool (n==1)) a) (Wif (x==2) (Wif (x==2) (K (.bool (decide (n>0))) a) (K (.bool false) a)) (Wif (x==3) (K (.bool (decide (n>0))) a) (K (.bool false) a)))))))):Ret 156 #[agg (List.toArray (AQ .i64 c0 0 94)),agg #[vu p0,vu p1]] w K:=vcA L4 3 [] func156 h
theorem vc157(c0:NI)(node:Int)(w:WD)(K:KV)(h:Q (AW w (List.toArray (AQ .i64 c0 0 94)) 26 λw'=>AW w' #[vi node] 3 λd=>∃(x:NI),BB d w.heap.size 0 (AQ .i64 x 0 94)/\RI d w'.heap.size 0 λo=>Calls prog 92 #[agg (List.toArray (AQ .i64 x 0 94)),vi o] d λ(e:Ending) (f:WD)=>∃(n g:Int),e=rT (.tuple #[vi n,vi g])/\Wif (g != 0) (K (.tuple #[sl none 0 0,vi g]) f) (RI f w.heap.size 0 λx=>∃(I:OA->Nat->Nat->Int->WD->Nat->Prop),(∃(n:Nat),I none 0 0 0 f n)/\∀(a:OA) (l c:Nat) (n:Int) (b:WD) (i:Nat),I a l c n b i->Wif (decide (n<x)) (AW b #[vi n] 3 λw'=>∃(j:OA) (k c_1:Nat) (h:WD),BL prog #[27,27] 27 (sl a l c) (sl (aD b.heap.size) 1 1) (sl j k c_1) w' h/\Lt i λm=>I j k c_1 (wrap .i64 (n+1)) h m) (C0 225 #[sl a l c,func (.func 226) #[] #[AP w.heap.size,AP w'.heap.size]] b λw'=>K (.tuple #[sl a l c,vi 0]) w')))):Ret 157 #[agg (List.toArray (AQ .i64 c0 0 94)),vi node] w K:=vcA L4 3 [] func157 h
theorem vc225(x:OA)(xL xC:Nat)(cmp:Value)(w:WD)(K:KV)(h:Q (C0 266 #[sl x xL xC,vi (↑xL:Int),cmp] w λw'=>K (.tuple #[]) w')):Ret 225 #[sl x xL xC,cmp] w K:=vcA L4 3 [] func225 h
theorem vc226(a b:Int)(c d:OA)(w:WD)(K:KV)(h:Q (Dr w λf=>Wp d (Ri f d 0 λx=>Wp c (Wn x 8 (Wn a 8 (RI f (pb c) (po c+26+x.toNat*8+a.toNat*1) λg=>Wp d (Ri f d 0 λx=>Wp c (Wn x 8 (Wn b 8 (RI f (pb c) (po c+26+x.toNat*8+b.toNat*1) λh=>K (vi (wrap .i64 (g-h))) f)))))))))):Ret 226 #[vi a,vi b,pt c,pt d] w K:=vcA L4 3 [] func226 h
theorem vc266(data:OA)(dataL dataC:Nat)(n:Int)(cmp:Value)(w:WD)(K:KV)(h:Q (∃(I:Int->Int->WD->Nat->Prop),(∃(n:Nat),I 0 20 w n)/\∀(f d:Int) (w':WD) (j:Nat),I f d w' j->Wif (decide (d<=n)) (C0 291 #[sl data dataL dataC,vi f,vi d,cmp] w' λw'=>Lt j λm=>I d (wrap .i64 (d+20)) w' m) (C0 291 #[sl data dataL dataC,vi f,vi n,cmp] w' λw'=>∃(I:Int->Int->Int->WD->Nat->Prop),(∃(n:Nat),I 20 f d w' n)/\∀(a k l:Int) (w':WD) (g:Nat),I a k l w' g->Wif (decide (a<n)) (∃(h:Int->Int->WD->Nat->Prop),(∃(n:Nat),h 0 (wrap .i64 (2*a)) w' n)/\∀(b c:Int) (w':WD) (i:Nat),h b c w' i->Wif (decide (c<=n)) (C0 292 #[sl data dataL dataC,vi b,vi (wrap .i64 (b+a)),vi c,cmp] w' λw'=>Lt i λm=>h c (wrap .i64 (c+wrap .i64 (2*a))) w' m) (Wif (decide (wrap .i64 (b+a)<n)) (C0 292 #[sl data dataL dataC,vi b,vi (wrap .i64 (b+a)),vi n,cmp] w' λw'=>Lt g λm=>I (wrap .i64 (a*2)) b c w' m) (Lt g λm=>I (wrap .i64 (a*2)) b c w' m))) (K (.tuple #[]) w')))):Ret 266 #[sl data dataL dataC,vi n,cmp] w K:=vcA L4 3 [] func266 h
theorem vc291(data:OA)(dataL dataC:Nat)(a b:Int)(cmp:Value)(w:WD)(K:KV)(h:Q (∃(I:Int->WD->Nat->Prop),(∃(n:Nat),I (wrap .i64 (a+1)) w n)/\∀(n:Int) (w':WD) (f:Nat),I n w' f->Wif (decide (n<b)) (∃(g:Int->WD->Nat->Prop),(∃(c:Nat),g n w' c)/\∀(c:Int) (w':WD) (h:Nat),g c w' h->Dr w' λd=>gIf (isP data) (decide (c>a)=true) (gIf (inB c dataL) (decide (c>a)=true) (∃(x:Int),(decide (c>a)=true->rd d (pb data) (po data+c.toNat*1)=some (.int .i64 x))/\gIf (isP data) (decide (c>a)=true) (gIf (inB (wrap .i64 (c-1)) dataL) (decide (c>a)=true) (∃(i:Int),(decide (c>a)=true->rd d (pb data) (po data+Int.toNat (wrap .i64 (c-1))*1)=some (.int .i64 i))/\Wif (decide (c>a)) (AN prog cmp [vi x,vi i] d λe w'=>∃(j:Int),e=rT (vi j)/\Wif (decide (j<0)) (Dr w' λd=>Wp data (Wn (wrap .i64 (c-1)) dataL (RI d (pb data) (po data+Int.toNat (wrap .i64 (c-1))*1) λx=>Wp data (Wn c dataL (Ri d data (c.toNat*1) λl=>Wp data (Wn c dataL (Sw d (pb data) (po data+c.toNat*1) (vi x) λw'=>Wp data (Wn (wrap .i64 (c-1)) dataL (Sw w' (pb data) (po data+Int.toNat (wrap .i64 (c-1))*1) (vi l) λk=>Lt h λm=>g (wrap .i64 (c-1)) k m))))))))) (Lt f λm=>I (wrap .i64 (n+1)) w' m)) (Lt f λm=>I (wrap .i64 (n+1)) d m)))))) (K (.tuple #[]) w'))):Ret 291 #[sl data dataL dataC,vi a,vi b,cmp] w K:=vcA L4 3 [2000022] func291 h
end Go.Proofs.YtdgbechegbmpcaaGreatDoor
namespace Go.Proofs.YtdgbechegbmpcaaGreatDoor
open Go Go.Eng Go.Shelf
variable {b base c j l:Nat}{a:OA}{xs ys:List Int}{page x y:Int}{cmp:Value}{S:AR}{fp:Prt->Nat->Prop}
abbrev blk(a:OA)(l c:Nat)(x:Nat):Prop:=(Value.slice a l c).ownBlock=some x
theorem BV.put{w w':WD}(h:BV w base a l c xs)(hj:j<xs.length){v:Int}(e:w'=st w (pb a) (po a+j) (vi v)):BV w' base a l c (xs.set j v)/\AB (blk a l c) w w'/\wr w (pb a) (po a+j):=by
 obtain⟨hl,h⟩:=h;rcases CN h with⟨_,hh⟩;rcases h.2 with⟨_,h0⟩|⟨g,cap,cur,hv,hb,hg,hnc,hm,hsz,htk⟩
 .omega
 .cases hv
  have e:w'=w.setCell ⟨g,j,none⟩ (vi v):=by
   rw [e]
   show st w g (0+j) (vi v)=_
   rw [za]
   rfl
  obtain⟨h1,h2⟩:=h.stored j (vi v);rw [<- e] at h1 h2;refine⟨⟨by rw [List.length_set];exact hl,by rw [List.map_set];exact h1⟩,(AB.grownBy h2).AE λb _ h=>by simpa [blk,Value.ownBlock] using h,?_⟩
  show wr w g (0+j)
  rw [za];refine⟨⟨cur[j]'(by omega),?_⟩,by simp [World.frozen?,hg]⟩;rw [FG,hg];simp
theorem AT{P:Program}{v:Value}{vs:List Value}{w:WD}{R R':Ending->WD->Prop}(h:AN P v vs w R)(hR:∀e w',R e w'->R' e w'):AN P v vs w R':=by
 obtain⟨f,a,c,h1,h2,h3⟩:=h;exact AN.mk f a c h1 h2 (h3.AE hR)
def sink(F:Int->Int->Int)(ys:List Int):Nat->List Int
 | 0=>ys
 | j+1=>match ys[j+1]?,ys[j]? with
  | some x,some y=>if F x y<0 then sink F ((ys.set (j+1) y).set j x) j else ys
  | _,_=>ys
def O0(F:Int->Int->Int):Nat->Nat->List Int->List Int
 | 0,_,ys=>ys
 | n+1,q,ys=>O0 F n (q+1) (sink F ys q)
def PO(n:Int)(ys:List Int):Prop:=(∀x∈ys,0<=x/\x<n)/\∀(i j:Nat) (v:Int),ys[i]? = some v->ys[j]? = some v->i=j
theorem PO.swap{n:Int}(h:PO n ys)(hx:ys[j+1]? = some x)(hy:ys[j]? = some y):PO n ((ys.set (j+1) y).set j x):=by
 have l1:=(DC.1 hx).1;have g:∀t,((ys.set (j+1) y).set j x)[t]? = ys[if t=j then j+1 else if t=j+1 then j else t]? := λt=>by
  rw [List.getElem?_set,List.getElem?_set];by_cases e1:j=t
  .subst e1;rw [if_pos rfl,if_pos rfl,if_pos (by rw [List.length_set];omega),hx]
  .rw [if_neg e1,if_neg (Ne.symm e1)];by_cases e2:j+1=t
   .subst e2;rw [if_pos rfl,if_pos rfl,if_pos l1,hy]
   .rw [if_neg e2,if_neg (Ne.symm e2)]
 refine⟨λz hz=>?_,λa b v ha hb=>?_⟩
 .obtain⟨t,ht⟩:=List.mem_iff_getElem?.1 hz;rw [g] at ht;exact h.1 z (mog ht)
 .rw [g] at ha hb;have h3:=h.2 _ _ v ha hb;by_cases a1:a=j <;> by_cases a2:a=j+1 <;> by_cases b1:b=j <;> by_cases b2:b=j+1 <;> simp only [a1,a2,b1,b2,if_true,if_false] at h3 <;> (try simp at h3) <;> omega
theorem B0f{n:Int}{F:Int->Int->Int}:∀{j:Nat}{ys:List Int},PO n ys->PO n (sink F ys j)/\(sink F ys j).length=ys.length
 | 0,_,h=>⟨h,rfl⟩
 | j+1,ys,h=>by
  unfold sink;split
  .rename_i x y hx hy;split
   .obtain⟨h1,h2⟩:=B0f (F:=F) (j:=j) (h.swap hx hy);exact⟨h1,by rw [h2,List.length_set,List.length_set]⟩
   .exact⟨h,rfl⟩
  .exact⟨h,rfl⟩
theorem B16{n:Int}{F:Int->Int->Int}:∀{m q:Nat}{ys:List Int},PO n ys->PO n (O0 F m q ys)/\(O0 F m q ys).length=ys.length
 | 0,_,_,h=>⟨h,rfl⟩
 | m+1,q,ys,h=>by
  obtain⟨h1,h2⟩:=B0f (F:=F) (j:=q) h;obtain⟨h3,h4⟩:=B16 (F:=F) (m:=m) (q:=q+1) h1;exact⟨h3,h4.trans h2⟩
theorem B0e{F:Int->Int->Int}(hj:1<=j)(hx:ys[j]? = some x)(hy:ys[j-1]? = some y):sink F ys j=if F x y<0 then sink F ((ys.set j y).set (j-1) x) (j-1) else ys:=by
 obtain⟨i,rfl⟩:∃i,j=i+1:=⟨j-1,by omega⟩;rw [Nat.add_sub_cancel] at hy ⊢
 show(match ys[i+1]?,ys[i]? with
  | some x,some y=>if F x y<0 then sink F ((ys.set (i+1) y).set i x) i else ys
  | _,_=>ys)=_
 rw [hx,hy]
theorem B5f{n:Int}{F:Int->Int->Int}{w:WD}(h:BV w base a l c xs)(hl:xs.length<=1000)(hr:PO n xs)
 (hc:∀(W:WD) (x y:Int),AB (blk a l c) w W->(0<=x/\x<n)->(0<=y/\y<n)->AN Tryz.prog cmp [vi x,vi y] W λe w'=>e=.returned (vi (F x y))/\AB AD W w') :
 Calls Tryz.prog 291 #[.slice a l c,vi 0,vi l,cmp] w λe w'=>e=.returned (.tuple #[])/\AB (blk a l c) w w'/\BV w' base a l c (O0 F (xs.length-1) 1 xs):=by
 refine(vc291 a l c 0 l cmp w (λv w'=>v=.tuple #[]/\AB (blk a l c) w w'/\BV w' base a l c (O0 F (xs.length-1) 1 xs)) ?_).AE ?_
 rotate_left
 .rintro e w' ⟨v,rfl,rfl,h⟩;exact⟨rfl,h⟩
 have hlen:=h.1;unfold Q;refine⟨λk W N=>∃q:Nat,k=q/\1<=q/\N=l-q/\AB (blk a l c) w W/\∃ys,ys.length=xs.length/\PO n ys/\BV W base a l c ys/\O0 F (l-q) q ys=O0 F (xs.length-1) 1 xs,⟨l-1,1,rfl,nlr _,rfl,AB.refl _ _,xs,rfl,hr,h,by rw [hlen]⟩,?_⟩;rintro _ w1 _ ⟨q,rfl,hq,rfl,k1,ys,hy,hyr,R1,hin⟩;refine AH (λhc1=>?_) (λhc1=>⟨rfl,k1,by rw [<- hin,show l-q=0 by simp at hc1;omega];exact R1⟩);have hql:q<l:=by simp at hc1;omega
 refine⟨λk W N=>∃j:Nat,k=j/\j<=q/\j=N/\AB (blk a l c) w W/\∃ys,ys.length=xs.length/\PO n ys/\BV W base a l c ys/\O0 F (l-(q+1)) (q+1) (sink F ys j)=O0 F (xs.length-1) 1 xs,⟨q,q,rfl,nlr _,rfl,k1,ys,hy,hyr,R1,by rw [<- hin,show l-q=l-(q+1)+1 by omega];rfl⟩,?_⟩;clear hin R1 hyr hy k1 ys;rintro _ w2 _ ⟨j,rfl,hj,rfl,k2,ys,hy,hyr,R2,hin⟩;intro w3 e3;have d3:=kdr e3;have k3:AB (blk a l c) w w3:=k2.trans d3 λ_ _ e=>e.elim;have R3:=R2.k d3;clear e3;by_cases hj0:j=0
 .subst hj0;exact AJ (λe=>by simp at e) (AJ (λe=>by simp at e) ⟨0,(λe=>by simp at e),AJ (λe=>by simp at e) (AJ (λe=>by simp at e) ⟨0,(λe=>by simp at e),AL (by simp) ⟨l-(q+1),by omega,q+1,wzz,by omega,rfl,k3,ys,hy,hyr,R3,hin⟩⟩)⟩)
 obtain⟨x,hx⟩:∃x,ys[j]? = some x:=⟨_,geg (by omega)⟩;obtain⟨y,hyj⟩:∃y,ys[j-1]? = some y:=⟨_,geg (by omega)⟩;have hp:=(R3.rd hx).1;have rx:∀{W:WD},BV W base a l c ys->rd W (pb a) (po a+Int.toNat (j:Int)*1)=some (vi x):=λR=>(R.rd hx).2;have ry:∀{W:WD},BV W base a l c ys->rd W (pb a) (po a+Int.toNat ((j-1:Nat):Int)*1)=some (vi y):=λR=>(R.rd hyj).2;have ew:IntKind.wrap .i64 ((j:Int)-1)=((j-1:Nat):Int):=by rw [wi (by omega)];omega
 rw [ew];refine AJ (λ_=>hp) (AJ (λ_=>DZ (by omega) (by omega)) ⟨x,(λ_=>rx R3),AJ (λ_=>hp) (AJ (λ_=>DZ (by omega) (by omega)) ⟨y,(λ_=>ry R3),AA (by simp;omega) (AT (hc w3 x y k3 (hyr.1 x (mog hx)) (hyr.1 y (mog hyj))) ?_)⟩)⟩);rintro _ w4 ⟨rfl,k4⟩;rw [B0e (by omega) hx hyj] at hin;have R4:=R3.k k4;have K4:AB (blk a l c) w w4:=k3.trans k4 λ_ _ e=>e.elim;refine⟨_,rfl,AH (λhm=>?_) (λhm=>⟨l-(q+1),by omega,q+1,wzz,by omega,rfl,K4,ys,hy,hyr,R4,by rw [if_neg (by simpa using hm)] at hin;exact hin⟩)⟩;rw [if_pos (by simpa using hm)] at hin;intro w5 e5;have d5:=kdr e5;have R5:=R4.k d5;clear e5;refine AA hp (Wi ⟨y,ry R5,AA hp (Wi ⟨x,rx R5,AA hp (Wi ⟨?_,λw6 e6=>?_⟩)⟩)⟩)
 .rw [tnc,mo];exact(R5.put (j:=j) (v:=y) (by omega) rfl).2.2
 rw [tnc,mo] at e6;obtain⟨R6,k6,_⟩:=R5.put (by omega) e6;refine AA hp (Wi ⟨?_,λw7 e7=>?_⟩)
 .rw [tnc,mo];exact(R6.put (j:=j-1) (v:=x) (by rw [List.length_set];omega) rfl).2.2
 rw [tnc,mo] at e7;obtain⟨R7,k7,_⟩:=R6.put (by rw [List.length_set];omega) e7;refine⟨j-1,by omega,j-1,rfl,by omega,rfl,((K4.trans d5 λ_ _ e=>e.elim).trans k6 λ_ _ e=>e).trans k7 λ_ _ e=>e,_,by rw [List.length_set,List.length_set];exact hy,?_,R7,hin⟩;obtain⟨i,rfl⟩:∃i,j=i+1:=⟨j-1,by omega⟩;exact hyr.swap hx hyj
theorem A4f{n:Int}{F:Int->Int->Int}{w:WD}(h:BV w base a l c xs)(hl:xs.length<=8)(hr:PO n xs)
 (hc:∀(W:WD) (x y:Int),AB (blk a l c) w W->(0<=x/\x<n)->(0<=y/\y<n)->AN Tryz.prog cmp [vi x,vi y] W λe w'=>e=.returned (vi (F x y))/\AB AD W w') :
 Calls Tryz.prog 225 #[.slice a l c,cmp] w λe w'=>e=.returned (.tuple #[])/\AB (blk a l c) w w'/\BV w' base a l c (O0 F (xs.length-1) 1 xs):=by
 have hlen:=h.1;refine(vc225 a l c cmp w (λv w'=>v=.tuple #[]/\AB (blk a l c) w w'/\BV w' base a l c (O0 F (xs.length-1) 1 xs)) ?_).AE ?_
 rotate_left
 .rintro e w' ⟨v,rfl,rfl,h⟩;exact⟨rfl,h⟩
 unfold Q;refine(vc266 a l c l cmp w (λv w'=>v=.tuple #[]/\AB (blk a l c) w w'/\BV w' base a l c (O0 F (xs.length-1) 1 xs)) ?_).AE ?_
 .unfold Q;refine⟨λx y W _=>x=0/\y=20/\W=w,⟨0,rfl,rfl,rfl⟩,?_⟩;rintro _ _ w1 _ ⟨rfl,rfl,hw⟩;rw [hw];refine AL (by simp;omega) ((B5f h (by omega) hr hc).AE ?_);rintro _ w2 ⟨rfl,hk⟩;refine⟨rfl,λx _ _ W _=>x=20/\W=w2,⟨0,rfl,rfl⟩,?_⟩;rintro _ _ _ w3 _ ⟨rfl,hw⟩;rw [hw];exact AL (by simp;omega) ⟨rfl,hk⟩
 .rintro e w' ⟨v,rfl,rfl,h⟩;exact⟨rfl,rfl,h⟩
def B96(c:NI)(i:Nat)(x y:Int):Int:=IntKind.wrap .i64 (c (26+i*8+x.toNat)-c (26+i*8+y.toNat))
def CL(c:NI)(i:Nat):List Int:=O0 (B96 c i) ((c 0).toNat-1) 1 ((List.range (c 0).toNat).map λt:Nat=>(t:Int))
theorem A0w(n:Nat):PO n ((List.range n).map λt:Nat=>(t:Int)):=by
 refine⟨λx hx=>by simp at hx;omega,λi j v hi hj=>?_⟩;have l1:=(DC.1 hi).1;have l2:=(DC.1 hj).1;simp at l1 l2;simp [l1] at hi;simp [l2] at hj;omega
theorem B1d{c:NI}(hm:D6 c)(i:Nat):PO (c 0) (CL c i)/\(CL c i).length=(c 0).toNat:=by
 have h8:=hm.1;have h1:=A0w (c 0).toNat;rw [show(((c 0).toNat:Nat):Int)=c 0 by omega] at h1;obtain⟨h2,h3⟩:=B16 (F:=B96 c i) (m:=(c 0).toNat-1) (q:=1) h1;exact⟨h2,by unfold CL;rw [h3];simp⟩
theorem B05{c:NI}(hm:D6 c){W:WD}{b1 b2 q:Nat}(h1:AX W b1 (cfg c))(h2:AX W b2 [vi (q:Nat)])(hn:(q:Int)<c 0)(hx:0<=x/\x<c 0)(hy:0<=y/\y<c 0) :
 AN Tryz.prog (.func (.func 226) #[] #[AP b1,AP b2]) [vi x,vi y] W λe w'=>e=.returned (vi (B96 c q x y))/\AB AD W w':=by
 refine AN.mk _ #[] #[_,_] rfl (by kernel_rfl) ?_;have h8:=hm.1;refine(vc226 x y (some ⟨b1,0,none⟩) (some ⟨b2,0,none⟩) W (λv w'=>v=vi (B96 c q x y)/\AB AD W w') ?_).AE ?_
 .unfold Q;intro w1 e1;have k1:=kdr e1;have r2:rd w1 b2 0=some (vi (q:Nat)):=by rw [(h2.k k1).rd];rfl
  have rc:∀z:Int,0<=z/\z<c 0->rd w1 b1 (0+26+Int.toNat (q:Int)*8+Int.toNat z*1)=some (vi (c (26+q*8+z.toNat))):=λz hz=>by
   obtain⟨t,rfl⟩:∃t:Nat,z=t:=⟨z.toNat,by omega⟩;rw [show 0+26+Int.toNat (q:Int)*8+Int.toNat (t:Int)*1=26+q*8+Int.toNat (t:Int) by simp];exact(h1.k k1).rI (by omega)
  have r1:=rc x hx;have r3:=rc y hy;exact AA rfl ⟨_,r2,AA rfl (Wi (Wi ⟨_,r1,AA rfl ⟨_,r2,AA rfl (Wi (Wi ⟨_,r3,rfl,k1⟩))⟩⟩))⟩
 .rintro e w' ⟨v,rfl,rfl,h⟩;exact⟨rfl,h⟩
theorem A8e(c:NI)(hm:D6 c)(w:WD)(i:Nat)(hi:(i:Int)<c 0) :
 Calls Tryz.prog 157 #[LI c,vi i] w λe w'=>∃a l cp,e=.returned (.tuple #[.slice a l cp,vi 0])/\AB AD w w'/\BV w' w.heap.size a l cp (CL c i):=by
 refine(vc157 c i w (λv w'=>∃a l cp,v=(.tuple #[.slice a l cp,vi 0])/\AB AD w w'/\BV w' w.heap.size a l cp (CL c i)) ?_).AE ?_
 rotate_left
 .rintro e w' ⟨v,rfl,a,l,cp,rfl,h⟩;exact⟨a,l,cp,rfl,h⟩
 have h8:=hm.1;unfold Q;intro w1 e1 w2 e2;have o1:=AG e1;have p1:=o1.al e2;have o2:=AG e2;have K2:AB AD w w2:=(kr.al e1).al e2;have hs1:=o1.lt;have hs2:=o2.lt;clear e1 e2 o1;generalize hb0:w.heap.size=b0 at *;generalize hb1:w1.heap.size=b1 at *;refine⟨c,p1.DW,_,by rw [o2.rd];rfl,(ML c hm w2 i hi).AE ?_⟩;rintro _ w3 ⟨rfl,k3⟩;have p3:=p1.k k3;have o3:=o2.k k3;have hs3:=k3.sz;refine⟨_,_,rfl,AL rfl ⟨c 0,p3.rI (by omega),?_⟩⟩;obtain⟨n,hn⟩:∃n:Nat,c 0=n:=⟨(c 0).toNat,by omega⟩;refine⟨λa l cp q W N=>∃j:Nat,q=j/\j<=n/\N=n-j/\AB AD w3 W/\BV W w3.heap.size a l cp ((List.range j).map λt:Nat=>(t:Int)),⟨n,0,rfl,Nat.zero_le _,rfl,AB.refl _ _,BV.MG⟩,?_⟩;rintro a l cp _ w4 _ ⟨j,rfl,hj,rfl,k4,R4⟩;refine AH (λhc=>?_) (λhc=>?_)
 .have hjn:j<n:=by simp at hc;omega
  intro w5 e5;have x5:=AG (c:=[vi (j:Int)]) e5;have k5:=kal e5;obtain⟨a',l',c',w6,happ,R6,k6⟩:=(R4.k k5).app (a2:=some ⟨w4.heap.size,0,none⟩) (l2:=1) (c2:=1) (ys:=[(j:Int)]) (Eng.Src.B64 (off:=0) x5 λt u h=>by simpa using h) rfl (by have:=k4.sz;have:=k5.sz;omega) (by simp;omega);refine⟨a',l',c',w6,happ,n-(j+1),by omega,j+1,wzz,hjn,rfl,BO (k4.tr k5) k6 λx e=>(R4.lt e).1,?_⟩;rw [List.range_succ,F6];exact R6
 .have:j=n:=by simp at hc;omega
  subst this;have hlt:∀x,blk a l cp x->w3.heap.size<=x:=λx e=>(R4.lt e).1;refine(A4f (n:=c 0) (F:=B96 c i) R4 (by simp;omega) (by have:=A0w j;rw [<- hn] at this;exact this) λW x y hk hx hy=>?_).AE ?_
  .have k:AB AD w3 W:=BO k4 hk hlt;exact B05 hm (p3.k k) (o3.k k) (by omega) hx hy
  .rintro _ w5 ⟨rfl,k5,R5⟩;refine⟨rfl,a,l,cp,rfl,(K2.tr k3).tr (BO k4 k5 hlt),?_⟩;have e:CL c i=O0 (B96 c i) (((List.range j).map λt:Nat=>(t:Int)).length-1) 1 ((List.range j).map λt:Nat=>(t:Int)):=by
    unfold CL;rw [hn];simp
   rw [e];exact R5.B7o (by omega)
theorem B00 (c:NI) (hm:D6 c) (w:WD):Calls Tryz.prog 156 #[LI c,.agg #[.int .u8 0,.int .u8 0]] w λe w'=>e=.returned (.bool true)/\AB AD w w':=by
  refine(vc156 c 0 0 w (λv w'=>v=.bool true/\AB AD w w') ?_).AE ?_
  rotate_left
  . rintro e w' ⟨v,rfl,rfl,h⟩
    exact⟨rfl,h⟩
  have h8:=hm.1;unfold Q;intro w1 e1 w2 e2 w3 e3;have p2:=(AG e1).al e2;have o2:=AG e2;have K3:AB AD w w3:=((kr.al e1).al e2).dr e3;have p3:=p2.dr e3;have o3:=o2.dr e3;refine⟨c,p3.DW,(HH c w3).AE ?_⟩;rintro _ w4 ⟨b,rfl,hb,k4⟩;have:b=true:=hb.2 hm;subst this;obtain⟨r0,r1⟩:=rd2 (o3.k k4);have rc:=(p3.k k4).rI (j:=0) (by omega);refine⟨true,rfl,0,(λ_=>r1),c 0,(λ_=>rc),AL rfl ((Any.bits_Len8 (ρ:=Tryz.A6m) Tryz.len8 0 w4 (by omega) (by omega)).AE ?_)⟩;rintro _ wx ⟨rfl,hx⟩;rw [hx];clear hx;refine ⟨_, rfl, (λ_ => ⟨rc, trivial⟩), AL (by have:((Lib.bitLen (Int.toNat 0):Nat):Int)=0:=(by decide);rw [this];simp;omega) ⟨0, r1, (Any.bits_OnesCount8 (ρ := Tryz.A6c) Tryz.pop8 0 w4 (by omega) (by omega)).AE ?_⟩⟩;rintro _ wx ⟨rfl,hx⟩;rw [hx];refine⟨_,rfl,0,r0,AA rfl ⟨?_,K3.tr k4⟩⟩;have:((Lib.onesCount (Int.toNat 0):Nat):Int)=0:=by decide
  rw [this]
  rfl
theorem A4q(c:NI)(hm:D6 c)(w:WD)(i:Nat)(hi:(i:Int)<c 0)(hp:0<=page) :
 Calls Tryz.prog 53 #[LI c,.agg #[.int .u8 0,.int .u8 0],vi i,vi page] w λe w'=>∃a l cp,e=.returned (.tuple #[.slice a l cp,vi 0])/\AB AD w w'/\BV w' w.heap.size a l cp (CL c i):=by
 refine(vc53 c 0 0 i page w (λv w'=>∃a l cp,v=(.tuple #[.slice a l cp,vi 0])/\AB AD w w'/\BV w' w.heap.size a l cp (CL c i)) ?_).AE ?_
 rotate_left
 .rintro e w' ⟨v,rfl,a,l,cp,rfl,h⟩;exact⟨a,l,cp,rfl,h⟩
 unfold vcP53;intro w1 e1 w2 e2;have p2:=(AG e1).al e2;have o2:=AG e2;have K2:AB AD w w2:=(kr.al e1).al e2;clear e1 e2;generalize hb1:w1.heap.size=b1 at *;refine⟨c,p2.DW,0,0,rd2 o2,(B00 c hm w2).AE ?_⟩;rintro _ w3 ⟨rfl,k3⟩;have p3:=p2.k k3;have o3:=o2.k k3;refine⟨true,rfl,AL (by simp;omega) ⟨c,p3.DW,(A8e c hm w3 i hi).AE ?_⟩⟩;rintro _ w4 ⟨a,l,cp,rfl,k4,R4⟩;refine⟨a,l,cp,0,rfl,AL rfl λw5 e5=>?_⟩;have x5:=AG (c:=[Value.nilFunc]) e5;have k5:=kal e5;refine⟨x5.wr (by decide),λw6 e6=>?_⟩;have k6:AB AD w4 w6:=BO k5 ((AB.refl (·=w4.heap.size) _).s1 e6 (.inl rfl)) λx e=>by omega
 have o6:=(o3.k k4).k k6;have hs:=(K2.tr k3).sz;exact⟨0,(rd2 o6).1,AL rfl (AL rfl (AL rfl ⟨a,l,cp,rfl,((K2.tr k3).tr k4).tr k6,(R4.k k6).B7o hs⟩))⟩
theorem A4r{w:WD}{k:Nat}(h:AO w k S fp)(hb:S.sp 1=some b)(page:Int):Calls Tryz.prog 54 #[AP k,vi 1,vi page] w λe w'=>e=.returned (.agg #[.int .u8 0,.int .u8 0])/\AB AD w w':=by
 refine(vc54 _ 1 page w (λv w'=>v=.agg #[.int .u8 0,.int .u8 0]/\AB AD w w') ?_).AE ?_
 rotate_left
 .rintro e w' ⟨v,rfl,rfl,h⟩;exact⟨rfl,h⟩
 unfold Q;intro w1 e1;have o1:=AG e1;have k1:=kal e1;have C1:=h.k k1;have r1:rd w1 k (0+105+Int.toNat 1*1)=some (AP b):=by
  have:=C1.rt (j:=12) (v:=spV (S.sp 1)) rfl;rw [hb] at this;exact this
 have SP:EX w1 (fp (.space 1)) b (S.root 1) (S.pins 1):=C1.at' (.space 1) b hb;obtain⟨ab,pb',wb,mb,a1,_,_,_,M,_⟩:=SP.ex;refine AJ (λ_=>rfl) (AJ (λ_=>rfl) ⟨_,(λ_=>r1),AL rfl (AA rfl (AA rfl ⟨_,r1,AA rfl ⟨some mb,by show rd w1 b (0+5)=_;rw [a1.rd];rfl,0,0,false,?_,λw2 e2=>?_⟩⟩))⟩)
 .have:=B8r (P:=Tryz.prog) (mt:=114) (vt:=113) (kt:=3) Tryz.underlying114 Tryz.underlying3 M page (Tryz.zeroValue113 w1);exact this
 have o2:=AG e2;have k2:=kal e2;refine⟨wr2 o2,λw3 e3=>?_⟩;have k3:AB AD w1 w3:=BO k2 (JU o2 e3).2 λx e=>by omega
 have a3:=a1.k k3;have o3:=o1.k k3;refine AL rfl (AA rfl ⟨0,0,⟨by show rd w3 b (0+3)=_;rw [a3.rd];rfl,by show rd w3 b (0+4)=_;rw [a3.rd];rfl⟩,wr2 o3,λw4 e4=>?_⟩);obtain⟨o4,k4⟩:=JU o3 e4;exact⟨0,0,rd2 o4,rfl,BO (k1.tr k3) k4 λx e=>by omega⟩
theorem A0l{w:WD}{k:Nat}(h:AO w k S fp)(hb:S.sp 1=some b)(hp:0<=page){cpu:Nat}(hcpu:cpu<S.AS) :
 Calls Tryz.prog 20 #[AP k,vi cpu,vi 1,vi page] w λe w'=>∃a l cp,e=.returned (.slice a l cp)/\AB AD w w'/\BV w' w.heap.size a l cp (CL S.c (S.c (2+cpu)).toNat):=by
 refine(vc20 _ cpu 1 page w (λv w'=>∃a l cp,v=(.slice a l cp)/\AB AD w w'/\BV w' w.heap.size a l cp (CL S.c (S.c (2+cpu)).toNat)) ?_).AE ?_
 rotate_left
 .rintro e w' ⟨v,rfl,a,l,cp,rfl,h⟩;exact⟨a,l,cp,rfl,h⟩
 have hm:=h.my;have hs:=h.BQ.2.1;have h1:=hm.2.1;have hh:=hm.2.2.2.2.1 cpu (by omega);obtain⟨i,hi⟩:∃i:Nat,S.c (2+cpu)=i:=⟨(S.c (2+cpu)).toNat,by have:=hh.1;omega⟩;have hin:(i:Int)<S.c 0:=by have:=hh.2;omega
 unfold Q;refine AL rfl (AJ (λ_=>rfl) ⟨S.c 1,(λ_=>by show rd w k (0+1)=_;exact h.rc (by omega)),AA (by simp;omega) (AA rfl (Wi ⟨S.c (2+cpu),by rw [tnc];show rd w k (0+2+cpu*1)=_;rw [mo,za];exact h.rc (by omega),λw1 e1=>?_⟩))⟩);have k1:=kdr e1;have C1:=h.k k1;refine AA rfl ⟨S.c,C1.C3q,(A4r C1 hb page).AE ?_⟩;rintro _ w2 ⟨rfl,k2⟩;refine⟨0,0,rfl,⟨(C1.k k2).C3q,trivial⟩,?_⟩;rw [hi];refine(A4q S.c hm w2 i hin hp).AE ?_;rintro _ w3 ⟨a,l,cp,rfl,k3,R⟩;exact⟨a,l,cp,0,rfl,a,l,cp,rfl,(k1.tr k2).tr k3,R.B7o (k1.tr k2).sz⟩
end Go.Proofs.YtdgbechegbmpcaaGreatDoor
namespace Go.Proofs.YtdgbechegbmpcaaGreatDoor
open Go Go.Eng Go.Proofs.Tryz
open Go.Value (bool func slice agg int)
open Option (isNone)
open Go.IntKind (wrap)
open List (replicate range)
variable {W:WD}{c cb f i l s x:Nat}{a:OA}{p:Nat->Bool}
theorem vc137(k:OA)(pid:Int)(s:OA)(w:WD)(K:KV)(h:Q (AW w #[vi 0,vi 0,sl none 0 0,sl none 0 0,sl none 0 0,sl none 0 0] 147 λw'=>∃(I:OA->WD->Prop),(Dr w' λh=>Wp s (Ri h s 1 λx=>Wp s (Rp h s 2 λM=>Wp s (Rp h s 0 λj=>(AW h #[pt M] 110 λw'=>Rt w' (pb s) (po s) (.pointer j)<|Rt w' (pb s) (po s+1) (.int .i64 x)<|(CS 205 #[func (.func 251) #[] #[AP h.heap.size]] w' λa l c w'=>Rt w' (pb s) (po s) (.pointer j)<|Rt w' (pb s) (po s+1) (.int .i64 x)<|(AW w' #[pt j] 109 λd=>Rt d (pb s) (po s+1) (.int .i64 x)<|(CS 207 #[func (.func 255) #[] #[AP w'.heap.size]] d λr t c_1 w'=>Rt w' (pb s) (po s+1) (.int .i64 x)<|AW w' #[vi 0,vi 0,sl none 0 0,sl none 0 0,sl none 0 0,sl none 0 0] 147 λf=>Rt f (pb s) (po s+1) (.int .i64 x)<|(wr f w'.heap.size 0/\wr f w'.heap.size 1/\wr f w'.heap.size 2/\wr f w'.heap.size 3/\wr f w'.heap.size 4/\wr f w'.heap.size 5)/\St (st (st (st (st (st f w'.heap.size 0 (vi pid)) w'.heap.size 1 (vi x)) w'.heap.size 2 (sl none 0 0)) w'.heap.size 3 (sl none 0 0)) w'.heap.size 4 (sl a l c)) w'.heap.size 5 (sl r t c_1) λg=>I (aD w'.heap.size) g)/\AW d #[vi 0,vi 0,sl none 0 0,sl none 0 0,sl none 0 0,sl none 0 0] 147 λf=>Rt f (pb s) (po s+1) (.int .i64 x)<|CS 207 #[func (.func 255) #[] #[AP w'.heap.size]] f λr t c_1 w'=>Rt w' (pb s) (po s+1) (.int .i64 x)<|(wr w' d.heap.size 0/\wr w' d.heap.size 1/\wr w' d.heap.size 2/\wr w' d.heap.size 3/\wr w' d.heap.size 4/\wr w' d.heap.size 5)/\St (st (st (st (st (st w' d.heap.size 0 (vi pid)) d.heap.size 1 (vi x)) d.heap.size 2 (sl none 0 0)) d.heap.size 3 (sl none 0 0)) d.heap.size 4 (sl a l c)) d.heap.size 5 (sl r t c_1) λg=>I (aD d.heap.size) g)/\AW w' #[vi 0,vi 0,sl none 0 0,sl none 0 0,sl none 0 0,sl none 0 0] 147 λd=>Rt d (pb s) (po s) (.pointer j)<|Rt d (pb s) (po s+1) (.int .i64 x)<|AW d #[pt j] 109 λf=>Rt f (pb s) (po s+1) (.int .i64 x)<|Calls prog 207 #[func (.func 255) #[] #[AP d.heap.size]] f λ(e:Ending) (g:WD)=>∃(r:OA) (t c_1:Nat),e=rT (sl r t c_1)/\(rd g (pb s) (po s+1)=some (.int .i64 x)/\True)/\(wr g w'.heap.size 0/\wr g w'.heap.size 1/\wr g w'.heap.size 2/\wr g w'.heap.size 3/\wr g w'.heap.size 4/\wr g w'.heap.size 5)/\St (st (st (st (st (st g w'.heap.size 0 (vi pid)) w'.heap.size 1 (vi x)) w'.heap.size 2 (sl none 0 0)) w'.heap.size 3 (sl none 0 0)) w'.heap.size 4 (sl a l c)) w'.heap.size 5 (sl r t c_1) λo=>I (aD w'.heap.size) o)/\AW w' #[vi 0,vi 0,sl none 0 0,sl none 0 0,sl none 0 0,sl none 0 0] 147 λd=>Rt d (pb s) (po s) (.pointer j)<|Rt d (pb s) (po s+1) (.int .i64 x)<|Calls prog 205 #[func (.func 251) #[] #[AP h.heap.size]] d λ(e:Ending) (f:WD)=>∃(a:OA) (l c:Nat),e=rT (sl a l c)/\(rd f (pb s) (po s)=some (.pointer j)/\True)/\(rd f (pb s) (po s+1)=some (.int .i64 x)/\True)/\AW f #[pt j] 109 λg=>Rt g (pb s) (po s+1) (.int .i64 x)<|Calls prog 207 #[func (.func 255) #[] #[AP f.heap.size]] g λ(e:Ending) (o:WD)=>∃(r:OA) (t c_1:Nat),e=rT (sl r t c_1)/\(rd o (pb s) (po s+1)=some (.int .i64 x)/\True)/\(wr o w'.heap.size 0/\wr o w'.heap.size 1/\wr o w'.heap.size 2/\wr o w'.heap.size 3/\wr o w'.heap.size 4/\wr o w'.heap.size 5)/\St (st (st (st (st (st o w'.heap.size 0 (vi pid)) w'.heap.size 1 (vi x)) w'.heap.size 2 (sl none 0 0)) w'.heap.size 3 (sl none 0 0)) w'.heap.size 4 (sl a l c)) w'.heap.size 5 (sl r t c_1) λa6=>I (aD w'.heap.size) a6)/\AW h #[vi 0,vi 0,sl none 0 0,sl none 0 0,sl none 0 0,sl none 0 0] 147 λw'=>Rt w' (pb s) (po s) (.pointer j)<|Rt w' (pb s) (po s+2) (.pointer M)<|Rt w' (pb s) (po s+1) (.int .i64 x)<|AW w' #[pt M] 110 λd=>Rt d (pb s) (po s) (.pointer j)<|Rt d (pb s) (po s+1) (.int .i64 x)<|CS 205 #[func (.func 251) #[] #[AP w'.heap.size]] d λa l c w'=>Rt w' (pb s) (po s) (.pointer j)<|Rt w' (pb s) (po s+1) (.int .i64 x)<|AW w' #[pt j] 109 λf=>Rt f (pb s) (po s+1) (.int .i64 x)<|CS 207 #[func (.func 255) #[] #[AP w'.heap.size]] f λr t c_1 w'=>Rt w' (pb s) (po s+1) (.int .i64 x)<|(wr w' h.heap.size 0/\wr w' h.heap.size 1/\wr w' h.heap.size 2/\wr w' h.heap.size 3/\wr w' h.heap.size 4/\wr w' h.heap.size 5)/\St (st (st (st (st (st w' h.heap.size 0 (vi pid)) h.heap.size 1 (vi x)) h.heap.size 2 (sl none 0 0)) h.heap.size 3 (sl none 0 0)) h.heap.size 4 (sl a l c)) h.heap.size 5 (sl r t c_1) λg=>I (aD h.heap.size) g))))/\∀(p:OA) (w':WD),I p w'->Dr w' λh=>Wp k (Rp h k 94 λx=>Wp s (Ri h s 1 λM=>AW h #[pt x] 37 λw'=>AW w' #[vi M] 3 λd=>∃(xss:List (List Value)),∃(R:NP),∃(I:(NP)->Nat->WD->Prop),∃(X:Nat->(NP)->WD->Prop),(EM prog 257 [AP h.heap.size,AP w'.heap.size] xss R d/\(∀(xs:List Value),List.Mem xs xss->List.length xs=2/\∃(n F:Int),xs=[vi n,vi F])/\∀(b:Nat),R b->Nat.succ b<=d.heap.size)/\(∀(h:WD),AB AD d h->h.heap.size=d.heap.size+2->I (λ(x:Nat)=>False) 0 h)/\(∀(Y:NP) (i:Nat) (W W':WD),I Y i W->(∀(b:Nat),Y b->d.heap.size+2<=b)->AB (EB d.heap.size Y) W W'->I (λ(b:Nat)=>Y b\/W.heap.size<=b/\Nat.succ b<=W'.heap.size) i W')/\(∀(k:Nat) (Y:NP) (W W':WD),X k Y W->(∀(b:Nat),Y b->d.heap.size+2<=b)->AB (EB d.heap.size Y) W W'->X k (λ(b:Nat)=>Y b\/W.heap.size<=b/\Nat.succ b<=W'.heap.size) W')/\(∀(Y:NP) (i:Nat) (W:WD),I Y i W->(∀(b:Nat),Y b->d.heap.size+2<=b)->d.heap.size+2<=W.heap.size->∀(n F:Int),xss[i]? = some [vi n,vi F]->CA d.heap.size W W/\∀(w2:WD),AB (λ(b:Nat)=>b=d.heap.size+1) W w2->w2.heap.size=W.heap.size->Wp p (Rs w2 p 2 λx j q=>AW w2 #[vi n,vi F] 332 λw'=>∃(a:OA) (l c:Nat) (f:WD),BL prog #[143,143] 143 (sl x j q) (sl (aD w2.heap.size) 1 1) (sl a l c) w' f/\Wp p (Sw f (pb p) (po p+2) (sl a l c) λw'=>CA d.heap.size w2 w'/\DL (λ(b:Nat)=>Y b\/R b) W w'/\I Y (i+1) w')))/\(∀(Y:NP) (W:WD),I Y (List.length xss) W->DV d.heap.size W->Dr W λh=>Wp k (Rp h k 94 λx=>Wp s (Ri h s 1 λj=>AW h #[pt x] 37 λw'=>AW w' #[vi j] 3 λf=>∃(xss:List (List Value)),∃(R:NP),∃(I:(NP)->Nat->WD->Prop),∃(X:Nat->(NP)->WD->Prop),(EM prog 258 [AP h.heap.size,AP w'.heap.size] xss R f/\(∀(xs:List Value),List.Mem xs xss->List.length xs=2/\∃(n F O:Int),xs=[vi n,agg #[vu F,vi O]])/\∀(b:Nat),R b->Nat.succ b<=f.heap.size)/\(∀(h:WD),AB AD f h->h.heap.size=f.heap.size+2->I (λ(x:Nat)=>False) 0 h)/\(∀(Y:NP) (i:Nat) (W W':WD),I Y i W->(∀(b:Nat),Y b->f.heap.size+2<=b)->AB (EB f.heap.size Y) W W'->I (λ(b:Nat)=>Y b\/W.heap.size<=b/\Nat.succ b<=W'.heap.size) i W')/\(∀(k:Nat) (Y:NP) (W W':WD),X k Y W->(∀(b:Nat),Y b->f.heap.size+2<=b)->AB (EB f.heap.size Y) W W'->X k (λ(b:Nat)=>Y b\/W.heap.size<=b/\Nat.succ b<=W'.heap.size) W')/\(∀(Y:NP) (i:Nat) (W:WD),I Y i W->(∀(b:Nat),Y b->f.heap.size+2<=b)->f.heap.size+2<=W.heap.size->∀(n F O:Int),xss[i]? = some [vi n,agg #[vu F,vi O]]->AW W #[vu 0,vi 0] 69 λw'=>(wr w' W.heap.size 0/\wr w' W.heap.size 1)/\St (st w' W.heap.size 0 (vu F)) W.heap.size 1 (vi O) λg=>CA f.heap.size W g/\∀(w2:WD),AB (λ(b:Nat)=>b=f.heap.size+1) g w2->w2.heap.size=g.heap.size->Wp p (Rs w2 p 3 λx q E=>∃(u y:Int),(rd w2 W.heap.size 0=some (.int .u8 u)/\rd w2 W.heap.size 1=some (.int .i64 y))/\AW w2 #[vi n,vu u,vi y] 149 λw'=>∃(a:OA) (l c:Nat) (o:WD),BL prog #[144,144] 144 (sl x q E) (sl (aD w2.heap.size) 1 1) (sl a l c) w' o/\Wp p (Sw o (pb p) (po p+3) (sl a l c) λw'=>CA f.heap.size w2 w'/\DL (λ(b:Nat)=>Y b\/R b) W w'/\I Y (i+1) w')))/\(∀(Y:NP) (W:WD),I Y (List.length xss) W->DV f.heap.size W->Wp p (∃(x q:Int) (E:OA) (u y:Nat) (G:OA) (H J:Nat) (z:OA) (A B:Nat) (C:OA) (D L:Nat),(rd W (pb p) (po p)=some (.int .i64 x)/\rd W (pb p) (po p+1)=some (.int .i64 q)/\rd W (pb p) (po p+2)=some (.slice E u y)/\rd W (pb p) (po p+3)=some (.slice G H J)/\rd W (pb p) (po p+4)=some (.slice z A B)/\rd W (pb p) (po p+5)=some (.slice C D L))/\(wr W w.heap.size 0/\wr W w.heap.size 1/\wr W w.heap.size 2/\wr W w.heap.size 3/\wr W w.heap.size 4/\wr W w.heap.size 5)/\St (st (st (st (st (st W w.heap.size 0 (vi x)) w.heap.size 1 (vi q)) w.heap.size 2 (sl E u y)) w.heap.size 3 (sl G H J)) w.heap.size 4 (sl z A B)) w.heap.size 5 (sl C D L) λw'=>CV [f.heap.size,d.heap.size] w'/\∀(w2:WD),AB (λ(b:Nat)=>List.Mem b [f.heap.size,d.heap.size]) w' w2->w2.heap.size=w'.heap.size->∃(x P:Int) (Q:OA) (S T:Nat) (U:OA) (V Z:Nat) (a0:OA) (a1 a2:Nat) (a3:OA) (a4 a5:Nat),(rd w2 w.heap.size 0=some (.int .i64 x)/\rd w2 w.heap.size 1=some (.int .i64 P)/\rd w2 w.heap.size 2=some (.slice Q S T)/\rd w2 w.heap.size 3=some (.slice U V Z)/\rd w2 w.heap.size 4=some (.slice a0 a1 a2)/\rd w2 w.heap.size 5=some (.slice a3 a4 a5))/\K (.agg #[vi x,vi P,sl Q S T,sl U V Z,sl a0 a1 a2,sl a3 a4 a5]) w2))/\(∀(Y:NP) (W:WD),X 0 Y W->DV f.heap.size W->CV [f.heap.size,d.heap.size] W/\∀(w2:WD),AB (λ(b:Nat)=>List.Mem b [f.heap.size,d.heap.size]) W w2->w2.heap.size=W.heap.size->∃(x q:Int) (E:OA) (u y:Nat) (G:OA) (H J:Nat) (z:OA) (A B:Nat) (C:OA) (D L:Nat),(rd w2 w.heap.size 0=some (.int .i64 x)/\rd w2 w.heap.size 1=some (.int .i64 q)/\rd w2 w.heap.size 2=some (.slice E u y)/\rd w2 w.heap.size 3=some (.slice G H J)/\rd w2 w.heap.size 4=some (.slice z A B)/\rd w2 w.heap.size 5=some (.slice C D L))/\K (.agg #[vi x,vi q,sl E u y,sl G H J,sl z A B,sl C D L]) w2)/\True)))/\(∀(Y:NP) (W:WD),X 0 Y W->DV d.heap.size W->CV [d.heap.size] W/\∀(w2:WD),AB (λ(b:Nat)=>List.Mem b [d.heap.size]) W w2->w2.heap.size=W.heap.size->∃(x j:Int) (q:OA) (E u:Nat) (y:OA) (G H:Nat) (J:OA) (z A:Nat) (B:OA) (C D:Nat),(rd w2 w.heap.size 0=some (.int .i64 x)/\rd w2 w.heap.size 1=some (.int .i64 j)/\rd w2 w.heap.size 2=some (.slice q E u)/\rd w2 w.heap.size 3=some (.slice y G H)/\rd w2 w.heap.size 4=some (.slice J z A)/\rd w2 w.heap.size 5=some (.slice B C D))/\K (.agg #[vi x,vi j,sl q E u,sl y G H,sl J z A,sl B C D]) w2)/\True)))):Ret 137 #[pt k,vi pid,pt s] w K:=vcA L5 3 [4000001,100100071] func137 h
theorem vc205(seq:Value)(w:WD)(K:KV)(h:Q (CS 250 #[sl none 0 0,seq] w λa l c w'=>K (sl a l c) w')):Ret 205 #[seq] w K:=vcA L4 3 [] func205 h
theorem vc207(seq:Value)(w:WD)(K:KV)(h:Q (CS 254 #[sl none 0 0,seq] w λa l c w'=>K (sl a l c) w')):Ret 207 #[seq] w K:=vcA L4 3 [] func207 h
theorem vc250b(s:OA)(sL sC:Nat)(j:OA)(w:WD)(K:KV)(h:Q (AW w #[sl s sL sC] 27 λw'=>∃(xss:List (List Value)),∃(R:NP),∃(I:(NP)->Nat->WD->Prop),∃(X:Nat->(NP)->WD->Prop),(EM prog 251 [pt j] xss R w'/\(∀(xs:List Value),List.Mem xs xss->List.length xs=1/\∃(n:Int),xs=[vi n])/\∀(b:Nat),R b->Nat.succ b<=w'.heap.size)/\(∀(o:WD),AB AD w' o->o.heap.size=w'.heap.size+2->I (λ(x:Nat)=>False) 0 o)/\(∀(Y:NP) (i:Nat) (W W':WD),I Y i W->(∀(b:Nat),Y b->w'.heap.size+2<=b)->AB (EB w'.heap.size Y) W W'->I (λ(b:Nat)=>Y b\/W.heap.size<=b/\Nat.succ b<=W'.heap.size) i W')/\(∀(k:Nat) (Y:NP) (W W':WD),X k Y W->(∀(b:Nat),Y b->w'.heap.size+2<=b)->AB (EB w'.heap.size Y) W W'->X k (λ(b:Nat)=>Y b\/W.heap.size<=b/\Nat.succ b<=W'.heap.size) W')/\(∀(Y:NP) (i:Nat) (W:WD),I Y i W->(∀(b:Nat),Y b->w'.heap.size+2<=b)->w'.heap.size+2<=W.heap.size->∀(n:Int),xss[i]? = some [vi n]->CA w'.heap.size W W/\∀(w2:WD),AB (λ(b:Nat)=>b=w'.heap.size+1) W w2->w2.heap.size=W.heap.size->RS w2 w.heap.size 0 λx f g=>AW w2 #[vi n] 3 λp=>∃(a:OA) (l c:Nat) (h:WD),BL prog #[27,27] 27 (sl x f g) (sl (aD w2.heap.size) 1 1) (sl a l c) p h/\Sw h w.heap.size 0 (sl a l c) λd=>CA w'.heap.size w2 d/\DL (λ(b:Nat)=>Y b\/R b) W d/\I Y (i+1) d)/\(∀(Y:NP) (W:WD),I Y (List.length xss) W->DV w'.heap.size W->RS W w.heap.size 0 λx f g=>CV [w'.heap.size] W/\∀(w2:WD),AB (λ(b:Nat)=>List.Mem b [w'.heap.size]) W w2->w2.heap.size=W.heap.size->K (sl x f g) w2)/\(∀(Y:NP) (W:WD),X 0 Y W->DV w'.heap.size W->CV [w'.heap.size] W/\∀(w2:WD),AB (λ(b:Nat)=>List.Mem b [w'.heap.size]) W w2->w2.heap.size=W.heap.size->K (sl none 0 0) w2)/\True)):Ret 250 #[sl s sL sC,func (.func 251) #[] #[pt j]] w K:=vcA [] 2 [] func250 h
theorem vc251(l0:Nat)(a:OA)(w:WD)(K:KV)(h:Q (Wp a (Rp w a 0 λx=>CP 252 #[pt x] w λp w'=>Calls prog 253 #[pt p,vi 0] w' λe w'=>∃(n:Int) (b:Bool),e=rT (.tuple #[vi n,bool b])/\∃(I:Int->Bool->WD->Nat->Prop),(∃(c:Nat),I n b w' c)/\∀(n:Int) (b:Bool) (w':WD) (c:Nat),I n b w' c->Wif b (EW prog l0 [vi n] w' λ(r:Ending) (w':WD)=>∃(b:Bool),r=rT (bool b)/\Wif b (Calls prog 253 #[pt p,vi (wrap .i64 (n+1))] w' λe w'=>∃(n:Int) (b:Bool),e=rT (.tuple #[vi n,bool b])/\Lt c λm=>I n b w' m) (K (.tuple #[]) w')) (K (.tuple #[]) w')))):Ret 251 #[Value.func (Fn.yield l0) #[] #[],pt a] w K:=vcA L4 3 [1000015] func251 h
theorem vc252(s:OA)(w:WD)(K:KV)(h:Q (Wif (isNone s) (K (pt none) w) (Dr w λd=>Wp s (Rs d s 0 λx g h=>Wp s (Ri d s 1 λb=>CS 277 #[sl x g h] d λa l c w'=>Rt w' (pb s) (po s+1) (.int .i64 b)<|AW w' #[sl a l c,vi b] 212 λf=>K (AP w'.heap.size) f))))):Ret 252 #[pt s] w K:=vcA L4 3 [] func252 h
theorem vc253(s:OA)(from':Int)(w:WD)(K:KV)(h:Q (Calls prog 278 #[pt s,vi from',func (.func 279) #[] #[]] w λe w'=>∃(n:Int) (b:Bool),e=rT (.tuple #[vi n,bool b])/\K (.tuple #[vi n,bool b]) w')):Ret 253 #[pt s,vi from'] w K:=vcA L4 3 [] func253 h
theorem vc254(s:OA)(sL sC:Nat)(y:OA)(w:WD)(K:KV)(h:Q (AW w #[sl s sL sC] 145 λw'=>∃(xss:List (List Value)),∃(R:NP),∃(I:(NP)->Nat->WD->Prop),∃(X:Nat->(NP)->WD->Prop),(EM prog 255 [pt y] xss R w'/\(∀(xs:List Value),List.Mem xs xss->List.length xs=1/\∃(n h j:Int),xs=[agg #[vi n,vi h,vu j]])/\∀(b:Nat),R b->Nat.succ b<=w'.heap.size)/\(∀(z:WD),AB AD w' z->z.heap.size=w'.heap.size+2->I (λ(x:Nat)=>False) 0 z)/\(∀(Y:NP) (i:Nat) (W W':WD),I Y i W->(∀(b:Nat),Y b->w'.heap.size+2<=b)->AB (EB w'.heap.size Y) W W'->I (λ(b:Nat)=>Y b\/W.heap.size<=b/\Nat.succ b<=W'.heap.size) i W')/\(∀(k:Nat) (Y:NP) (W W':WD),X k Y W->(∀(b:Nat),Y b->w'.heap.size+2<=b)->AB (EB w'.heap.size Y) W W'->X k (λ(b:Nat)=>Y b\/W.heap.size<=b/\Nat.succ b<=W'.heap.size) W')/\(∀(Y:NP) (i:Nat) (W:WD),I Y i W->(∀(b:Nat),Y b->w'.heap.size+2<=b)->w'.heap.size+2<=W.heap.size->∀(n h j:Int),xss[i]? = some [agg #[vi n,vi h,vu j]]->AW W #[vi 0,vi 0,vu 0] 324 λd=>(wr d W.heap.size 0/\wr d W.heap.size 1/\wr d W.heap.size 2)/\St (st (st d W.heap.size 0 (vi n)) W.heap.size 1 (vi h)) W.heap.size 2 (vu j) λf=>CA w'.heap.size W f/\∀(w2:WD),AB (λ(b:Nat)=>b=w'.heap.size+1) f w2->w2.heap.size=f.heap.size->RS w2 w.heap.size 0 λx o p=>∃(r t u:Int),(rd w2 W.heap.size 0=some (.int .i64 r)/\rd w2 W.heap.size 1=some (.int .i64 t)/\rd w2 W.heap.size 2=some (.int .u8 u))/\AW w2 #[vi r,vi t,vu u] 324 λA=>∃(a:OA) (l c:Nat) (q:WD),BL prog #[145,145] 145 (sl x o p) (sl (aD w2.heap.size) 1 1) (sl a l c) A q/\Sw q w.heap.size 0 (sl a l c) λg=>CA w'.heap.size w2 g/\DL (λ(b:Nat)=>Y b\/R b) W g/\I Y (i+1) g)/\(∀(Y:NP) (W:WD),I Y (List.length xss) W->DV w'.heap.size W->RS W w.heap.size 0 λx o p=>CV [w'.heap.size] W/\∀(w2:WD),AB (λ(b:Nat)=>List.Mem b [w'.heap.size]) W w2->w2.heap.size=W.heap.size->K (sl x o p) w2)/\(∀(Y:NP) (W:WD),X 0 Y W->DV w'.heap.size W->CV [w'.heap.size] W/\∀(w2:WD),AB (λ(b:Nat)=>List.Mem b [w'.heap.size]) W w2->w2.heap.size=W.heap.size->K (sl none 0 0) w2)/\True)):Ret 254 #[sl s sL sC,func (.func 255) #[] #[pt y]] w K:=vcA [] 2 [] func254 h
theorem vc255(l0:Nat)(d:OA)(w:WD)(K:KV)(h:Q (Wp d (Rp w d 0 λx=>Wif (isNone x) (K (.tuple #[]) w) (Wp d (Rp w d 0 λx=>Wp x (Rs w x 0 λp q s=>CS 256 #[sl p q s] w λa l c w'=>∃(I:Int->WD->Nat->Prop),(∃(n:Nat),I 0 w' n)/\∀(n:Int) (w':WD) (h:Nat),I n w' h->Wif (decide (n<(↑l:Int))) (Wp a (Wn n l (∃(x i j:Int),(rd w' (pb a) (po a+n.toNat*3)=some (.int .i64 x)/\rd w' (pb a) (po a+n.toNat*3+1)=some (.int .i64 i)/\rd w' (pb a) (po a+n.toNat*3+2)=some (.int .u8 j))/\AW w' #[vi 0,vi 0,vu 0] 324 λf=>(wr f w'.heap.size 0/\wr f w'.heap.size 1/\wr f w'.heap.size 2)/\St (st (st f w'.heap.size 0 (vi x)) w'.heap.size 1 (vi i)) w'.heap.size 2 (vu j) λg=>∃(x k o:Int),(rd g w'.heap.size 0=some (.int .i64 x)/\rd g w'.heap.size 1=some (.int .i64 k)/\rd g w'.heap.size 2=some (.int .u8 o))/\EW prog l0 [agg #[vi x,vi k,vu o]] g λ(r:Ending) (w':WD)=>∃(b:Bool),r=rT (bool b)/\Wif (!b) (K (.tuple #[]) w') (Lt h λm=>I (wrap .i64 (n+1)) w' m)))) (K (.tuple #[]) w'))))))):Ret 255 #[Value.func (Fn.yield l0) #[] #[],pt d] w K:=vcA L4 3 [1000017] func255 h
theorem vc256(s:OA)(sL sC:Nat)(w:WD)(K:KV)(h:Q (Wif (isNone s) (K (sl none 0 0) w) (AW w #[] 324 λw'=>∃(a:OA) (l c:Nat) (b:WD),BL prog #[145,145] 145 (sl (aD w.heap.size) 0 0) (sl s sL sC) (sl a l c) w' b/\K (sl a l c) b))):Ret 256 #[sl s sL sC] w K:=vcA L4 3 [] func256 h
theorem vc257(l0:Nat)(a c:OA)(w:WD)(K:KV)(h:Q (∃(I:Int->WD->Nat->Prop),(∃(n:Nat),I 0 w n)/\∀(n:Int) (w':WD) (d:Nat),I n w' d->Wif (decide (n<32)) (Wp a (Rp w' a 0 λx=>Wp c (Ri w' c 0 λf=>CJ 49 #[pt x,vi f,vi (wrap .i64 (n*32))] w' λg h w'=>Wif (h==0) (EW prog l0 [vi n,vi g] w' λ(r:Ending) (w':WD)=>∃(b:Bool),r=rT (bool b)/\Wif (!b) (K (.tuple #[]) w') (Lt d λm=>I (wrap .i64 (n+1)) w' m)) (Lt d λm=>I (wrap .i64 (n+1)) w' m)))) (K (.tuple #[]) w'))):Ret 257 #[Value.func (Fn.yield l0) #[] #[],pt a,pt c] w K:=vcA L4 3 [1000021] func257 h
theorem vc258(l0:Nat)(c d:OA)(w:WD)(K:KV)(h:Q (∃(I:Int->WD->Nat->Prop),(∃(n:Nat),I 0 w n)/\∀(n:Int) (w':WD) (h:Nat),I n w' h->Wif (decide (n<1024)) (Wp c (Rp w' c 0 λx=>Wp d (Ri w' d 0 λo=>Calls prog 16 #[pt x,vi o,vi n] w' λe w'=>∃(i j g:Int),e=rT (.tuple #[agg #[vu i,vi j],vi g])/\AW w' #[vu 0,vi 0] 69 λf=>(wr f w'.heap.size 0/\wr f w'.heap.size 1)/\St (st f w'.heap.size 0 (vu i)) w'.heap.size 1 (vi j) λa=>∃(x:Int),((g==0)=true->rd a w'.heap.size 0=some (.int .u8 x))/\∃(k l:Int),((g==0&&x != 0)=true->rd a w'.heap.size 0=some (.int .u8 k)/\rd a w'.heap.size 1=some (.int .i64 l))/\Wif (g==0&&x != 0) (EW prog l0 [vi n,agg #[vu k,vi l]] a λ(r:Ending) (w':WD)=>∃(b:Bool),r=rT (bool b)/\Wif (!b) (K (.tuple #[]) w') (Lt h λm=>I (wrap .i64 (n+1)) w' m)) (Lt h λm=>I (wrap .i64 (n+1)) a m)))) (K (.tuple #[]) w'))):Ret 258 #[Value.func (Fn.yield l0) #[] #[],pt c,pt d] w K:=vcA L4 3 [1000025] func258 h
theorem vc277(s:OA)(sL sC:Nat)(w:WD)(K:KV)(h:Q (Wif (isNone s) (K (sl none 0 0) w) (AW w #[] 76 λw'=>∃(a:OA) (l c:Nat) (b:WD),BL prog #[47,47] 47 (sl (aD w.heap.size) 0 0) (sl s sL sC) (sl a l c) w' b/\K (sl a l c) b))):Ret 277 #[sl s sL sC] w K:=vcA L4 3 [] func277 h
theorem vc278(s:OA)(from':Int)(w:WD)(K:KV)(h:Q (∃(I:Int->Bool->Int->WD->Nat->Prop),(∃(n:Nat),I 0 false (wrap .i64 (Int.tdiv (if 0>from' then 0 else from') 64)) w n)/\∀(n:Int) (b:Bool) (a:Int) (w':WD) (f:Nat),I n b a w' f->gIf (isP s) ((!isNone s)=true) (∃(x:Int),((!isNone s)=true->rd w' (pb s) (po s+1)=some (.int .i64 x))/\gIf (isP s) ((!isNone s&&decide ((if 0>from' then 0 else from')<x))=true) (∃(h:OA) (g i:Nat),((!isNone s&&decide ((if 0>from' then 0 else from')<x))=true->rd w' (pb s) (po s)=some (.slice h g i))/\Wif (!isNone s&&decide ((if 0>from' then 0 else from')<x)&&decide (a<(↑g:Int))) (Wp s (Rs w' s 0 λx j k=>Wp x (Wn a j (∃(c:Int),rd w' (pb x) (po x+a.toNat*1)=some (.int .u64 c)/\Wif (a==wrap .i64 (Int.tdiv (if 0>from' then 0 else from') 64)) (Wif (decide (0<=Int.tmod (if 0>from' then 0 else from') 64)) (Wif (decide (0<=Int.tmod (if 0>from' then 0 else from') 64)) (CI 307 #[int .u64 (wrap .u64 (Int.fdiv c (2^min (Int.toNat (Int.tmod (if 0>from' then 0 else from') 64)) 64)*2^min (Int.toNat (Int.tmod (if 0>from' then 0 else from') 64)) 64))] w' λd w'=>gIf (isP s) ((wrap .u64 (Int.fdiv c (2^min (Int.toNat (Int.tmod (if 0>from' then 0 else from') 64)) 64)*2^min (Int.toNat (Int.tmod (if 0>from' then 0 else from') 64)) 64)!=0)=true) (∃(x:Int),((wrap .u64 (Int.fdiv c (2^min (Int.toNat (Int.tmod (if 0>from' then 0 else from') 64)) 64)*2^min (Int.toNat (Int.tmod (if 0>from' then 0 else from') 64)) 64)!=0)=true->rd w' (pb s) (po s+1)=some (.int .i64 x))/\Wif (wrap .u64 (Int.fdiv c (2^min (Int.toNat (Int.tmod (if 0>from' then 0 else from') 64)) 64)*2^min (Int.toNat (Int.tmod (if 0>from' then 0 else from') 64)) 64)!=0&&decide (wrap .i64 (wrap .i64 (a*64)+d)<x)) (K (.tuple #[vi (wrap .i64 (wrap .i64 (a*64)+d)),bool true]) w') (Lt f λm=>I n b (wrap .i64 (a+1)) w' m))) False) False) (CI 307 #[int .u64 c] w' λd w'=>gIf (isP s) ((c != 0)=true) (∃(x:Int),((c != 0)=true->rd w' (pb s) (po s+1)=some (.int .i64 x))/\Wif (c != 0&&decide (wrap .i64 (wrap .i64 (a*64)+d)<x)) (K (.tuple #[vi (wrap .i64 (wrap .i64 (a*64)+d)),bool true]) w') (Lt f λm=>I n b (wrap .i64 (a+1)) w' m))))))) (K (.tuple #[vi 0,bool false]) w'))))):Ret 278 #[pt s,vi from',func (.func 279) #[] #[]] w K:=vcA L6 3 [] func278 h
theorem B58{y:Nat}(h0:0<y)(h1:y<18446744073709551616):Lib.ctz 64 y<64/\y.testBit (Lib.ctz 64 y)=true/\∀j,j<Lib.ctz 64 y->y.testBit j=false:=by
 have e:Lib.ctz 64 y=Lib.ctzFrom 64 y:=by unfold Lib.ctz;rw [if_neg (by omega)]
 obtain⟨m,hm,hk⟩:=Lib.ctzFrom_spec 64 y h0 h1;rw [e];generalize Lib.ctzFrom 64 y=k at *;refine⟨hk,?_,λj hj=>?_⟩
 .rw [hm,Nat.mul_comm,Nat.testBit_mul_two_pow];simp
 .rw [hm,Nat.mul_comm,Nat.testBit_mul_two_pow];simp;omega
theorem B9m(x f i:Nat):(x/2^f*2^f).testBit i=(decide (f<=i)&&x.testBit i):=by
 rw [Nat.testBit_mul_two_pow,Nat.testBit_div_two_pow];by_cases h:f<=i
 .rw [show i-f+f=i by omega]
 .simp [h]
theorem B4r(x:Nat){j:Nat}(hj:j<16):(NM x)[j]? = some (.int .u64 ((if j=0 then x else 0:Nat):Int)):=by
 unfold NM
 cases j with
 | zero=>rfl
 | succ j=>rw [List.getElem?_cons_succ,List.getElem?_replicate,if_pos (by omega),if_neg (by omega)];rfl
structure Bm(W:WD)(s:Nat)(a:OA)(c x:Nat):Prop where
 so:AX W s [.slice a 16 c,vi 1024]
 ip:isP a=true
 z:∀j:Nat,j<16->rd W (pb a) (po a+j)=some (.int .u64 ((if j=0 then x else 0:Nat):Int))
def C3x(x f:Nat)(n:Int)(b:Bool):Prop:=(∃i:Nat,f<=i/\i<32/\x.testBit i=true/\(∀j,f<=j->j<i->x.testBit j=false)/\n=i/\b=true)\/((∀j,f<=j->x.testBit j=false)/\n=0/\b=false)
theorem A29(T:GV W)(h:Bm W s a c x)(hx:x<4294967296)(hf:f<=32):Calls prog 253 #[AP s,vi f] W λe w'=>w'=W/\∃n b,e=.returned (.tuple #[vi n,.bool b])/\C3x x f n b:=by
 have hhi:∀i,x.testBit i=true->i<32:=λi hi=>by
  have h1:=Nat.ge_two_pow_of_testBit hi;have h2:2^i<2^32:=by omega
  exact(Nat.pow_lt_pow_iff_right (by decide)).1 h2
 refine(vc253 _ f W (λv w'=>w'=W/\∃n b,v=.tuple #[vi n,.bool b]/\C3x x f n b) ?_).AE ?_
 rotate_left
 .rintro e w' ⟨v,rfl,h,n,b,rfl,h2⟩;exact⟨h,n,b,rfl,h2⟩
 unfold Q;refine(vc278 _ f W (λv w'=>∃n b,v=.tuple #[vi n,.bool b]/\w'=W/\C3x x f n b) ?_).AE ?_
 rotate_left
 .rintro e w' ⟨v,rfl,n,b,rfl,h,h2⟩;exact⟨n,b,rfl,h,n,b,rfl,h2⟩
 have r1:rd W s (0+1)=some (vi 1024):=by rw [h.so.rd];rfl
 have r0:rd W s 0=some (.slice a 16 c):=by rw [h.so.rd];rfl
 unfold Q;have e0:(if (0:Int)>(f:Int) then(0:Int) else(f:Int))=f:=if_neg (by omega);rw [e0];have etm:Int.tmod (f:Int) 64=f:=by rw [Int.tmod_eq_emod_of_nonneg (by omega)];omega
 have eq0:wrap .i64 (Int.tdiv (f:Int) 64)=0:=by
  rw [Int.tdiv_eq_ediv_of_nonneg (by omega),wi (by omega)];omega
 rw [eq0,etm,tnc,Nat.min_eq_left (show f<=64 by omega)];have ey:wrap .u64 (Int.fdiv (x:Int) (2^f)*2^f)=((x/2^f*2^f:Nat):Int):=by
  have h1:Int.fdiv (x:Int) (2^f)=((x/2^f:Nat):Int):=by
   rw [Int.fdiv_eq_ediv_of_nonneg _ (Int.pow_nonneg (by decide))];simp
  have h2:x/2^f*2^f<=x:=Nat.div_mul_le_self _ _;have h3:Int.fdiv (x:Int) (2^f)*2^f=((x/2^f*2^f:Nat):Int):=by rw [h1];simp
  rw [h3];exact wu (by omega)
 have hyb:x/2^f*2^f<=x:=Nat.div_mul_le_self _ _;refine⟨λn b q w' N=>n=0/\b=false/\∃j:Nat,q=j/\j<=16/\N=16-j/\w'=W/\(0<j->∀i,f<=i->x.testBit i=false),⟨16,rfl,rfl,0,rfl,by omega,rfl,rfl,λh=>absurd h (Nat.lt_irrefl _)⟩,?_⟩;rintro _ _ _ w1 _ ⟨rfl,rfl,j,rfl,hj,rfl,hw,hno⟩;rw [hw];refine AJ (λ_=>rfl) ⟨_,(λ_=>r1),AJ (λ_=>rfl) ⟨_,_,_,(λ_=>r0),AH (λhc=>?_) (λhc=>?_)⟩⟩
 rotate_left
 .have hj16:j=16:=by
   simp at hc;omega
  exact⟨0,false,rfl,rfl,.inr ⟨hno (by omega),rfl,rfl⟩⟩
 have hj16:j<16:=by simp at hc;omega
 refine AA rfl ⟨_,_,_,r0,AA h.ip (Wi ⟨((if j=0 then x else 0:Nat):Int),by rw [tnc,mo];exact h.z j hj16,?_⟩)⟩;by_cases hj0:j=0
 .subst hj0;rw [if_pos rfl];refine AA (by rfl) (AA (by simp) (AA (by simp) ?_));rw [ey];generalize hy:x/2^f*2^f=y at *;have hbit:∀i,y.testBit i=(decide (f<=i)&&x.testBit i):=λi=>by rw [<- hy];exact B9m x f i
  refine(A9z T y (by omega)).AE ?_;rintro _ wx ⟨rfl,hx'⟩;rw [hx'];refine⟨_,rfl,AJ (λ_=>rfl) ⟨1024,(λ_=>r1),?_⟩⟩;by_cases hy0:y=0
  .refine AL (by simp [hy0]) ⟨16-1,by omega,rfl,rfl,1,wzz,by omega,rfl,rfl,λ_ i hi=>?_⟩;have:=hbit i;rw [hy0,Nat.zero_testBit] at this;simpa [hi] using this.symm
  .obtain⟨c1,c2,c3⟩:=B58 (Nat.pos_of_ne_zero hy0) (by omega:y<18446744073709551616);generalize Lib.ctz 64 y=k at *;rw [hbit] at c2;simp at c2;have hk:=hhi k c2.2;have e1:wrap .i64 (wrap .i64 (((0:Nat):Int)*64)+(k:Int))=k:=by
    have:wrap .i64 (((0:Nat):Int)*64)=0:=by decide
    rw [this,Int.zero_add,wi (by omega)]
   rw [e1];refine AA (by simp;omega) ⟨k,true,rfl,rfl,.inl ⟨k,c2.1,hk,c2.2,λi hi hik=>?_,rfl,rfl⟩⟩;have:=c3 i hik;rw [hbit] at this;simpa [hi] using this
 .rw [if_neg hj0];refine AL (by simp;omega) ((A9z T 0 (by decide)).AE ?_);rintro _ wx ⟨rfl,hx'⟩;rw [hx'];exact⟨_,rfl,AJ (λe=>by simp at e) ⟨0,(λe=>by simp at e),AL rfl ⟨16-(j+1),by omega,rfl,rfl,j+1,wzz,by omega,rfl,rfl,λ_=>hno (by omega)⟩⟩⟩
theorem C40:ElT prog 47 76 1:=elT (z:=.int .u64 0) underlying47 (by kernel_rfl) rfl (by decide)
theorem A9k{wb:Nat}(h:AX W s [.slice (some ⟨wb,0,none⟩) 16 16,vi 1024])(hw:AX W wb (NM x)) :
 Calls prog 252 #[AP s] W λe w'=>∃s' a c,e=.returned (AP s')/\AB AD W w'/\Bm w' s' a c x/\W.heap.size<=s'/\W.heap.size<=pb a:=by
 refine(vc252 _ W (λv w'=>∃s' a c,v=AP s'/\AB AD W w'/\Bm w' s' a c x/\W.heap.size<=s'/\W.heap.size<=pb a) ?_).AE ?_
 rotate_left
 .rintro e w' ⟨v,rfl,s',a,c,rfl,h⟩;exact⟨s',a,c,rfl,h⟩
 unfold Q;refine AL rfl λw1 e1=>?_;have k1:=kdr e1;have h1:=h.k k1;have r1:rd w1 s (0+1)=some (vi 1024):=by rw [h1.rd];rfl
 refine AA rfl ⟨_,_,_,by show rd w1 s 0=_;rw [h1.rd];rfl,AA rfl ⟨1024,r1,?_⟩⟩;refine(vc277 _ 16 16 w1 (λv w'=>∃a c,v=.slice a 16 c/\AB AD w1 w'/\w'.ownsRow w1.heap.size 76 1 (.slice a 16 c) 16 (NM x)) ?_).AE ?_
 .unfold Q;refine AL rfl λw2 e2=>?_;have k2:=kal e2;have row2:=C4n (t:=76) (s:=1) e2;obtain⟨i,z,hi,hz,hsz,hzs,hby⟩:=C40.ex
  obtain⟨a',c',w3,happ,row3,k3⟩:=Eng.app (P:=prog) (t:=47) (ty:=47) (e:=76) (i:=i) (z:=z) (size:=1) underlying47 hi hz hsz hzs (by decide) row2 (Eng.Src.B64 (X:=wb) (off:=0) (l:=16) (c:=16) ((hw.k k1).k k2) (xs:=NM x) λj u hu=>by rw [za];exact hu) (by simp [NM]) (λu hu=>by
   rcases List.mem_cons.1 hu with rfl|hu
   .rfl
   .have:=List.eq_of_mem_replicate hu
    subst this;rfl) (by omega) (by omega) k2.sz
  exact⟨a',_,c',w3,happ,a',c',rfl,BO k2 k3 λx e=>by have:=(row2.lt x e).1;exact this,by simpa using row3⟩
 .rintro e w2 ⟨v,rfl,a,c,rfl,k2,row⟩;refine⟨a,16,c,rfl,⟨k2.AV r1 id,trivial⟩,λw3 e3=>?_⟩;have k3:=kal e3;have S:=(Eng.Src.B63 row).k k3;refine⟨_,a,c,rfl,(k1.tr k2).tr k3,⟨AG e3,S.isp (by simp [NM]),λj hj=>S.rd (B4r x hj)⟩,(k1.tr k2).sz,?_⟩;rcases (CN row).2 with⟨_,h0,_⟩|⟨g,cs,rfl,hb,_⟩
  .omega
  .exact Nat.le_trans k1.sz hb
def LN(x:Nat):List Nat:=(range 32).filter λi=>x.testBit i
theorem C1y{n:Nat}(hi:i<n)(hp:p i=true):((range n).filter p)[((range i).filter p).length]? = some i:=by
 induction n with
 | zero=>omega
 | succ n ih=>
  rw [List.range_succ,List.filter_append];by_cases e:i=n
  .subst e;rw [gar (nlr _),Nat.sub_self];simp [hp]
  .have h:=ih (by omega);rw [gal (DC.1 h).1];exact h
theorem B2v(hf:f<=i)(hp:∀j,f<=j->j<i->p j=false):((range i).filter p).length=((range f).filter p).length:=by
 induction i with
 | zero=>rw [show f=0 by omega]
 | succ i ih=>
  by_cases e:f=i+1
  .rw [e]
  .rw [List.range_succ,List.filter_append,lap,ih (by omega) λj h1 h2=>hp j h1 (by omega)];simp [hp i (by omega) (by omega)]
theorem B51(hp:p i=true):((range (i+1)).filter p).length=((range i).filter p).length+1:=by
 rw [List.range_succ,List.filter_append,lap];simp [hp]
theorem Bm.eq{W':WD}(h:Bm W s a c x)(e1:W'.heap[s]? = W.heap[s]?)(e2:W'.heap[pb a]? = W.heap[pb a]?):Bm W' s a c x:=
 ⟨by obtain⟨t,ht⟩:=h.so;exact⟨t,e1.trans ht⟩,h.ip,λj hj=>by rw [FG,e2,<- FG];exact h.z j hj⟩
theorem A8c{w:WD}{wb:Nat}(T:GV w)(hc:rd w cb 0=some (AP s))(h:AX w s [.slice (some ⟨wb,0,none⟩) 16 16,vi 1024])(hw:AX w wb (NM x))(hx:x<4294967296):EM prog 251 [AP cb] (((LN x).map λ(i:Nat)=>(i:Int)).map λx=>[vi x]) (·=tzB) w:=by
 refine⟨λy J Jx W hk hab habx hY h0=>?_⟩;refine(vc251 y (some ⟨cb,0,none⟩) W (λv w'=>(∃Y,J Y (((LN x).map λ(i:Nat)=>(i:Int)).map λx=>[vi x]).length w')\/∃Y,Jx Y w') ?_).AE ?_
 rotate_left
 .rintro e w' ⟨v,rfl,hw⟩;exact⟨⟨v,rfl⟩,hw⟩
 unfold Q;refine AA rfl ⟨_,hk.AV hc id,(A9k (h.k hk) (hw.k hk)).AE ?_⟩;rintro _ w1 ⟨s',a,c,rfl,k1,B,hs1,hs2⟩;have T1:=(T.k hk).k k1;have hs3:=B.so.lt;have hs4:=J3 (B.z 0 (by decide));refine⟨_,rfl,(A29 T1 B hx (f:=0) (by omega)).AE ?_⟩;rintro _ wx ⟨hwx,n,b,rfl,N0⟩;rw [hwx];refine⟨_,_,rfl,λn b W' N=>∃(f:Nat) (Y:NP),f<=32/\C3x x f n b/\N=32-f/\J Y ((range f).filter λi=>x.testBit i).length W'/\Y s'/\Y (pb a)/\W'.heap[s']? = w1.heap[s']? /\ W'.heap[pb a]? = w1.heap[pb a]? /\ W'.heap[tzB]? = w1.heap[tzB]?,
  ⟨32,0,_,by omega,N0,rfl,hab _ _ _ _ h0 (k1.AE λ_ _ e=>e.elim),.inr ⟨hs1,hs3⟩,.inr ⟨hs2,hs4⟩,rfl,rfl,rfl⟩,?_⟩
 rintro _ _ w3 _ ⟨f,Y,hf,NX,rfl,hJ,y1,y2,q1,q2,q3⟩;rcases NX with⟨i,hfi,hi,hb,hno,rfl,rfl⟩|⟨hno,rfl,rfl⟩
 .have el:=B2v (p:=λi=>x.testBit i) hfi hno
  have hy:=hY Y _ [vi i] w3 (by
   rw [<- el,gmp,gmp];have:=C1y (p:=λi=>x.testBit i) hi hb;unfold LN;rw [this];rfl) hJ
  obtain⟨fn,tm,asg',bo,hrun,hR⟩:=hy.run;refine AA rfl ⟨fn,tm,asg',bo,hrun,hR.mono ?_⟩;rintro en w6 ⟨k6,⟨rfl,hJ6⟩|⟨rfl,hx6⟩⟩
  .have p1:=(k6.blk _ (.inl y1)).trans q1;have p2:=(k6.blk _ (.inl y2)).trans q2;have p3:=(k6.blk _ (.inr rfl)).trans q3;rw [wi (by omega)];refine⟨true,rfl,AA rfl ((A29 (T1.eq p3) (B.eq p1 p2) hx (f:=i+1) (by omega)).AE ?_)⟩;rintro _ w7 ⟨hw7,n,b,rfl,N7⟩;rw [hw7];exact⟨n,b,rfl,32-(i+1),by omega,i+1,Y,by omega,N7,rfl,by rw [B51 (p:=λi=>x.testBit i) hb,el];exact hJ6,y1,y2,p1,p2,p3⟩
  .exact⟨false,rfl,AL rfl (.inr ⟨_,hx6⟩)⟩
 .refine AL rfl (.inl ⟨Y,?_⟩);have el:=B2v (p:=λi=>x.testBit i) hf λj h1 _=>hno j h1;rw [lmp,lmp];unfold LN;rw [el];exact hJ
theorem A75{w:WD}(hc:rd w cb 0=some (AP s))(h:AX w s [.slice none 0 0]):EM prog 255 [AP cb] [] (λ_=>False) w:=by
 refine⟨λy J Jx W hk hab habx hY h0=>?_⟩;refine(vc255 y (some ⟨cb,0,none⟩) W (λv w'=>(∃Y,J Y ([]:List (List Value)).length w')\/∃Y,Jx Y w') ?_).AE ?_
 rotate_left
 .rintro e w' ⟨v,rfl,hw⟩;exact⟨⟨v,rfl⟩,hw⟩
 unfold Q;refine AA rfl ⟨_,hk.AV hc id,AL rfl (AA rfl ⟨_,hk.AV hc id,AA rfl ⟨none,0,0,by show rd W s 0=_;rw [(h.k hk).rd];rfl,?_⟩⟩)⟩;refine(vc256 none 0 0 W (λv w'=>v=.slice none 0 0/\w'=W) (by unfold Q;exact AA rfl ⟨rfl,rfl⟩)).AE ?_;rintro _ wx ⟨v,rfl,rfl,hx⟩;rw [hx];refine⟨_,_,_,rfl,λn W' _=>n=0/\W'=W,⟨0,rfl,rfl⟩,?_⟩;rintro _ w2 _ ⟨rfl,hw2⟩;rw [hw2];exact AL rfl (.inl ⟨_,h0⟩)
theorem B9o{w:WD}{xs:List Int}{R:NP}(hg:∀w',AB AD w w'->EM prog 251 [AP c] (xs.map λx=>[vi x]) R w')(hR:∀b,R b->b<w.heap.size)(hl:xs.length<=100000) :
 Calls prog 250 #[.slice none 0 0,.func (.func 251) #[] #[AP c]] w λe w'=>∃(a:OA) (l c:Nat),e=.returned (.slice a l c)/\BV w' w.heap.size a l c xs/\AB AD w w':=by
 refine(vc250b none 0 0 (some ⟨c,0,none⟩) w (λv w'=>∃(a:OA) (l c:Nat),v=.slice a l c/\BV w' w.heap.size a l c xs/\AB AD w w') ?_).AE ?_
 rotate_left
 .rintro e w' ⟨v,rfl,a,l,c,rfl,hw⟩;exact⟨a,l,c,rfl,hw⟩
 unfold Q;intro w4 e4;have hx:=AG (c:=[.slice none 0 0]) e4;have k4:=kal e4;have hs4:w4.heap.size=w.heap.size+1:=by rw [e4];simp only [World.alloc,Array.size_push]
 have hR':∀b,R b->b<w4.heap.size/\b≠w.heap.size:=λb hb=>by have:=hR b hb;omega
 have eT:ElT prog 27 3 1:=B55;refine⟨xs.map λx=>[vi x],R,RJ w.heap.size w4.heap.size w4 3 1 (λx=>[vi x]) xs,λ_ _ _=>False,⟨hg w4 k4,λys hx=>?_,λb h=>(hR' b h).1⟩,λw1 k1 _=>?_,λY i W W' h hY k'=>h.ab (by omega) rfl hY k',λ_ _ _ _ h=>h.elim,λY i W h hY hsz p hv=>?_,λY W h hd=>?_,λ_ _ h=>h.elim,trivial⟩
 .obtain⟨x,_,rfl⟩:=List.mem_map.1 hx;exact⟨rfl,x,rfl⟩
 .exact⟨k1.AE λ_ _ h=>h.elim,Nat.zero_le _,none,0,hx.k k1,World.ownsRow_nil _ _ _ _,λx h=>h.elim⟩
 .have hx:xs[i]? = some p:=by
   rw [gmp] at hv
   cases hh:xs[i]? with
   | none=>rw [hh] at hv;cases hv
   | some x=>rw [hh] at hv;simp at hv;rw [hv]
  refine⟨DY (AB.refl AD W) (by omega) id id,λw7 k7 hs7=>?_⟩;obtain⟨a,cc,h1,h2⟩:=h.step eT (by omega) rfl hY hsz hl hR' hx (λ_=>rfl) C06 k7 λb hb=>.inl hb;exact⟨a,i,cc,h1,λw8 e8=>h2 w8 e8⟩
 .rw [lmp] at h;have hd':CV [w4.heap.size] W:=⟨by simp,λD hD=>by simp at hD;subst hD;exact hd.at_⟩;obtain⟨a,cc,hr,_⟩:=h.fin (w2:=W) (by omega) rfl k4 rfl ((AB.refl (λ_=>False) W).AE λ_ _ e=>e.elim);refine⟨a,_,cc,hr,hd',λw2 k2 hs2=>?_⟩;obtain⟨a2,cc2,hr2,row,kk⟩:=h.fin (w2:=w2) (by omega) rfl k4 rfl k2;rw [hr] at hr2
  cases hr2
  exact⟨a,_,cc,rfl,⟨rfl,by rw [NT];exact row⟩,kk⟩
def NoL(a:OA)(l c:Nat):Prop:=l=0/\(a=none->c=0)/\c<=maxLen
theorem NoL.slR{α:Type}{R:Rd α}{w:WD}(h:NoL a l c):SlR R s w a l c ([]:List α):=by
 obtain⟨rfl,h1,h2⟩:=h;exact⟨rfl,λh=>absurd h (Nat.lt_irrefl _),h1,Nat.zero_le _,h2,λi x hx=>by simp at hx,λo ho=>by rw [Nat.zero_mul] at ho;omega⟩
theorem B8k{w:WD}{base e n:Nat}{xs:List Value}(h:w.ownsRow base e s (.slice a l c) n xs)(hn:n=0):NoL a l c:=by
 rcases h.2 with⟨h0,_⟩|⟨g,cap,cur,hv,_,_,_,hm,_⟩
 .cases h0;exact⟨rfl,λ_=>rfl,Nat.zero_le _⟩
 .cases hv;exact⟨hn,(λe=>by cases e),hm⟩
theorem B01{w:WD}{wb:Nat}(T:GV w)(hc:rd w cb 0=some (AP s))(h:AX w s [.slice (some ⟨wb,0,none⟩) 16 16,vi 1024])(hw:AX w wb (NM x))(hx:x<4294967296) :
 Calls prog 205 #[.func (.func 251) #[] #[AP cb]] w λe w'=>∃a l c,e=.returned (.slice a l c)/\AB AD w w':=by
 refine(vc205 _ w (λv w'=>∃a l c,v=.slice a l c/\AB AD w w') ?_).AE ?_
 rotate_left
 .rintro e w' ⟨v,rfl,a,l,c,rfl,h⟩;exact⟨a,l,c,rfl,h⟩
 unfold Q;have hl:((LN x).map λ(i:Nat)=>(i:Int)).length<=100000:=by
  rw [lmp];have:(LN x).length<=(range 32).length:=List.length_filter_le _ _;simp at this;omega
 refine(B9o (λw' k=>A8c (T.k k) (k.AV hc id) (h.k k) (hw.k k) hx) (λ_ e=>e▸T.lt) hl).AE ?_;rintro _ w1 ⟨a,l,c,rfl,R,k⟩;exact⟨a,l,c,rfl,a,l,c,rfl,k⟩
theorem B0k{w:WD}(hc:rd w cb 0=some (AP s))(h:AX w s [.slice none 0 0]) :
 Calls prog 207 #[.func (.func 255) #[] #[AP cb]] w λe w'=>∃a l c,e=.returned (.slice a l c)/\AB AD w w'/\NoL a l c:=by
 refine(vc207 _ w (λv w'=>∃a l c,v=.slice a l c/\AB AD w w'/\NoL a l c) ?_).AE ?_
 rotate_left
 .rintro e w' ⟨v,rfl,a,l,c,rfl,h⟩;exact⟨a,l,c,rfl,h⟩
 unfold Q;refine(vc254 none 0 0 (some ⟨cb,0,none⟩) w (λv w'=>∃a l c,v=.slice a l c/\AB AD w w'/\NoL a l c) ?_).AE ?_
 rotate_left
 .rintro e w' ⟨v,rfl,a,l,c,rfl,h⟩;exact⟨a,l,c,rfl,a,l,c,rfl,h⟩
 unfold Q;intro w4 e4;have hx:=AG (c:=[.slice none 0 0]) e4;have k4:=kal e4;have hs4:w4.heap.size=w.heap.size+1:=by rw [e4];simp only [World.alloc,Array.size_push]
 refine⟨[],λ_=>False,RJ w.heap.size w4.heap.size w4 324 3 (λx:Int=>[vi x,vi x,.int .u8 x]) [],λ_ _ _=>False,⟨A75 (k4.AV hc id) (h.k k4),(λys hx=>by cases hx),λb h=>h.elim⟩,λw1 k1 _=>?_,λY i W W' h hY k'=>h.ab (by omega) rfl hY k',λ_ _ _ _ h=>h.elim,(λY i W h hY hsz n n1 n2 hv=>by cases hv),λY W h hd=>?_,λ_ _ h=>h.elim,trivial⟩
 .exact⟨k1.AE λ_ _ h=>h.elim,Nat.zero_le _,none,0,hx.k k1,World.ownsRow_nil _ _ _ _,λx h=>h.elim⟩
 .have hd':CV [w4.heap.size] W:=⟨by simp,λD hD=>by simp at hD;subst hD;exact hd.at_⟩;obtain⟨a,cc,hr,_⟩:=h.fin (w2:=W) (by omega) rfl k4 rfl ((AB.refl (λ_=>False) W).AE λ_ _ e=>e.elim);refine⟨a,_,cc,hr,hd',λw2 k2 hs2=>?_⟩;obtain⟨a2,cc2,hr2,row,kk⟩:=h.fin (w2:=w2) (by omega) rfl k4 rfl k2;rw [hr] at hr2
  cases hr2
  exact⟨a,_,cc,rfl,kk,B8k row rfl⟩
