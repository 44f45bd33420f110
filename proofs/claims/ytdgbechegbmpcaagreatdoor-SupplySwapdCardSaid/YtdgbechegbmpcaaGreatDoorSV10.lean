/- Part of a proof that a law returns true. Conditions: those in each theorem. -/
import Derived.Test.YtdgbechegbmpcaaGreatDoorB0
import Derived.Test.YtdgbechegbmpcaaGreatDoorQ37
import Derived.Test.YtdgbechegbmpcaaGreatDoorMV3
import Derived.Test.YtdgbechegbmpcaaGreatDoorBL3
import Derived.Test.YtdgbechegbmpcaaGreatDoorX5
import Derived.Test.YtdgbechegbmpcaaGreatDoorQ31
set_option linter.unusedVariables false
set_option linter.unusedSimpArgs false
set_option maxRecDepth 100000
namespace Go.Proofs.YtdgbechegbmpcaaGreatDoor
open Go Go.Eng Go.Proofs.Tryz
open Go.Value (bool func)
open Option (isNone)
open Go.IntKind (wrap)
theorem vc57(s:OA)(sL sC:Nat)(w:WD)(K:KV)(h:Q (Wif (isNone s) (K (sl none 0 0) w) (AW w #[] 5 fun w'=>∃(a:OA) (l c:Nat) (b:WD),BF prog #[81,81] 81 (sl (aD w.heap.size) 0 0) (sl s sL sC) (sl a l c) w' b/\K (sl a l c) b))):Ret 57 #[sl s sL sC] w K:=vcA L7 2 [] func57 h
end Go.Proofs.YtdgbechegbmpcaaGreatDoor
namespace Go.Proofs.YtdgbechegbmpcaaGreatDoor
open Go Go.Eng Go.Proofs.Tryz
theorem info_u8:(prog.info? 5).map (fun i=>(i.zero,i.size,i.bytes))=some (some (.int .u8 0),1,1):=by kernel_rfl
structure FO(w:WD)(a:OA)(l:Nat)(f:Nat->Int):Prop where
 p:0<l->isP a=true
 at':∀i,i<l->rd w (pb a) (po a+i)=some (.int .u8 (f i))
theorem clone_bytes {w:WD}{X off l c n:Nat}{f:Nat->Int} (h:own w X (AK .u8 f 0 n)) (hl:off+l<=n) (hn:l<=1000000) :
    Calls prog 57 #[.slice (some ⟨X,off,none⟩) l c] w fun e w'=>∃a c',e=.returned (.slice a l c')/\Kept AB w w'/\FO w' a l fun i=>f (off+i):=by
  refine(vc57 (some ⟨X,off,none⟩) l c w (fun v w'=>∃a c',v=(.slice a l c')/\Kept AB w w'/\FO w' a l fun i=>f (off+i)) ?_).mono ?_
  rotate_left
  · rintro e w' ⟨v,rfl,a',c',rfl,h⟩
    exact⟨a',c',rfl,h⟩
  unfold Q;refine AG rfl fun w1 e1=>?_;have k1:=kal e1;have r1:w1.ownsRow w.heap.size 5 1 _ 0 []:=row0 e1
  cases hi:prog.info? 5 with
  | none => have : (prog.info? 5).isSome = true := by kernel_rfl
            rw [hi] at this; cases this
  | some i=>
    have hinf:=info_u8;rw [hi] at hinf;simp at hinf;have hys:((AK .u8 f 0 n).drop off).take l=AK .u8 (fun j=>f (off+j)) 0 l:=by
      refine E6 (by rw [List.length_take,List.length_drop,AI];omega) fun j hj=>?_;rw [List.getElem?_take_of_lt hj,List.getElem?_drop,AT _ _ _ _ _ (by omega),za]
    obtain⟨a',l',c',w2,happ,hl',row,k2⟩:=app_own (P:=prog) (t:=81) (ty:=81) (e:=5) (i:=i) (z:=.int .u8 0) (size:=1) underlying81 hi hinf.1 hinf.2.1 rfl (by decide) r1 (h.k k1) (m:=l) (off:=off) (c:=c) (news:=AK .u8 (fun j=>f (off+j)) 0 l) (by simpa using hys) (by simp [AI]) (oneU8 _ _) (by omega) (by omega) k1.sz;have hl2:l'=l:=by omega
    subst hl2;refine⟨a',_,c',w2,happ,a',c',rfl,BD k1 k2 fun x e=>(r1.lt x e).1,?_⟩;obtain⟨_,⟨rfl,h0,_⟩|⟨g,cs,rfl,_,o,htk,_,_⟩⟩:=BZ row
    · exact⟨fun hp=>by omega,fun i hi=>by omega⟩
    · refine⟨fun _=>rfl,fun i hi=>?_⟩
      show rd w2 g (0+i)=_
      rw [za,o.rd];have h1:(cs.take ((0+l')*1))[i]? = (([]:List Value)++AK .u8 (fun j=>f (off+j)) 0 l')[i]? := by rw [htk]
      rw [List.getElem?_take_of_lt (by omega),List.nil_append,AT _ _ _ _ _ hi,za] at h1;exact h1
section
variable {w:WD}{m bb mb n:Nat}{c:Nat->Int}{by':Nat->Int}{mk:Nat->Mark}
theorem mread_spec(h:BM w m bb mb c n by' mk)(hn:n<=1024){f:Nat}(hf:f<n) :
 Calls prog 23 #[ptr m,vi f,vi 0,vi 256] w fun e w'=>∃a c',e=.returned (.tuple #[.slice a 256 c',vi 0])/\Kept AB w w'/\FO w' a 256 fun i=>by' (f*256+i):=by
 refine(vc23 _ f 0 256 w (fun v w'=>∃a c',v=(.tuple #[.slice a 256 c',vi 0])/\Kept AB w w'/\FO w' a 256 fun i=>by' (f*256+i)) ?_).mono ?_
 rotate_left
 ·rintro e w' ⟨v,rfl,a',c',rfl,h⟩;exact⟨a',c',rfl,h⟩
 have h95:rd w m (0+95)=some (.slice (some ⟨mb,0,none⟩) n n):=by rw [za];exact h.r95
 have h94:rd w m (0+94)=some (.slice (some ⟨bb,0,none⟩) (n*256) (n*256)):=by rw [za];exact h.r94
 unfold Q;refine AF (fun _=>rfl) ⟨_,_,_,fun _=>h95,AG rfl (AF (fun _=>rfl) ⟨_,_,_,fun _=>h95,AG (by simp;omega) (AG (by decide) (AA rfl ⟨_,_,_,h94,?_⟩))⟩)⟩;rw [wi (x:=(f:Int)+1) (by omega),wi (x:=(f:Int)*256) (by omega),wi (x:=((f:Int)+1)*256) (by omega),wi (x:=(0:Int)+256) (by decide)];rw [show Int.toNat ((f:Int)*256)=f*256 by omega,show Int.toNat (((f:Int)+1)*256)=f*256+256 by omega,show f*256+256-f*256=256 by omega];refine AA BI (AA BI (AA (by decide) ?_));have eo:BJ (BJ (some ⟨bb,0,none⟩) (f*256+256) (f*256) 1) 256 (Int.toNat 0) 1=some ⟨bb,f*256,none⟩:=by
  rw [offA2 (by omega) (by decide)];rfl
 rw [eo];refine(clone_bytes (off:=f*256) (l:=256) h.bs (by omega) (by decide)).mono ?_;rintro e w' ⟨a,c',rfl,k',B⟩;exact⟨a,256,c',rfl,a,c',rfl,k',B⟩
end
section
variable {w:WD}{d db n:Nat}{f:Nat->Int}
theorem dread_spec(h:NV w d db n f){i:Nat}(hi:i<n)(hn:n<=1024) :
 Calls prog 59 #[ptr d,vi i,.bool false] w fun e w'=>∃a c',e=.returned (.tuple #[.slice a 256 c',vi 0])/\Kept AB w w'/\FO w' a 256 fun j=>f (i*256+j):=by
 refine(vc59 _ i false w (fun v w'=>∃a c',v=(.tuple #[.slice a 256 c',vi 0])/\Kept AB w w'/\FO w' a 256 fun j=>f (i*256+j)) ?_).mono ?_
 rotate_left
 ·rintro e w' ⟨v,rfl,a',c',rfl,h⟩;exact⟨a',c',rfl,h⟩
 unfold Q;refine(dat_spec h hi hn).mono ?_;rintro _ wx ⟨rfl,hwx⟩;rw [hwx];refine⟨_,_,rfl,AG rfl (AG rfl (AA rfl ⟨fun j=>f (i*256+j),h.bs.run _ (fun j hj=>by show(AK .u8 f 0 (n*256))[i*256+j]? = _;rw [AT _ _ _ _ _ (by omega),za]),fun w1 e1=>?_⟩))⟩;have o1:=AD e1;have k1:=kal e1;refine⟨o1.DF 0 (by simp [AI]),fun w2 e2=>?_⟩;obtain⟨o2,k2⟩:=EZ o1 e2 (by simp [AI]);refine⟨_,_,rfl,BD k1 k2 fun x e=>Nat.le_of_eq e.symm,fun _=>rfl,fun j hj=>?_⟩
 show rd w2 w.heap.size (0+j)=_
 rw [za,o2.rd,AT _ _ _ _ _ hj,za]
end
section
variable {w:WD}{k:Nat}{S:AL}{fp:Prt->Nat->Prop}
theorem core_read(h:AJ w k S fp){f:Nat}(hf:f<S.n) :
 Calls prog 23 #[ptr S.pm,vi f,vi 0,vi 256] w fun e w'=>∃a c',e=.returned (.tuple #[.slice a 256 c',vi 0])/\Kept AB w w'/\FO w' a 256 fun i=>S.by' (f*256+i):=by
 obtain⟨bb,mb,M,_⟩:=h.mem;exact mread_spec M h.n4.2.2 hf
theorem core_dread(h:AJ w k S fp){i:Nat}(hi:i<S.AP) :
 Calls prog 59 #[ptr S.pd,vi i,.bool false] w fun e w'=>∃a c',e=.returned (.tuple #[.slice a 256 c',vi 0])/\Kept AB w w'/\FO w' a 256 fun j=>S.dv (i*256+j):=by
 obtain⟨db,D,f1,f2⟩:∃db,NV w S.pd db S.AP S.dv/\fp .dev S.pd/\fp .dev db:=h.at' .dev;exact dread_spec D hi h.BO.2.2.1
end
set_option maxHeartbeats 8000000 in
theorem kept_spec{w:WD}{b k:Nat}{S:AL}{fp:Prt->Nat->Prop}{rt lf hc cnt tot:Nat}{pg:Nat->Pg}{pin:Nat->Bool}{A:List Nat}{hd:Option Nat}{pa ia:OA}{pl pc il ic:Nat}{pf nf:Nat->Int}(h:AJ w k S fp)(L:QSt S rt lf pg pin A hc hd cnt tot)
 (r0:rd w b 0=some (ptr k)) (r96:rd w b 96=some (.slice pa pl pc)) (r97:rd w b 97=some (.slice ia il ic)) (r106:rd w b 106=some (vi rt)) (PG:CL w pa pl pf) (PN:CL w ia il nf) (hpl:pl<=32) (hil:il<=64) (hrg:∀i,i<pl->0<=pf i/\pf i<=31)
 (hsup:∀j:Nat,(∃i,i<pl/\pf i=j)->pg j≠.no) (hpin:∀j:Nat,(∃i,i<il/\nf i=j)->(∃i,i<pl/\pf i=j)->∃f,pg j=.fr f) :
 Calls prog 25 #[ptr b] w fun e w'=>e=.returned (.bool true)/\Kept AB w w':=by
 refine(vc25 (some ⟨b,0,none⟩) w (fun v w'=>v=.bool true/\Kept AB w w') ?_).mono ?_
 rotate_left
 ·rintro e w' ⟨v,rfl,rfl,h⟩;exact⟨rfl,h⟩
 have rr:∀{W:WD}{j:Nat}{v:Value},Kept AB w W->rd w b j=some v->rd W b (0+j)=some v:=fun kk e=>by rw [za];exact kk.rd_some e id
 have kr:=Kept.refl AB w;unfold Q;refine AA rfl ⟨pa,pl,pc,rr kr r96,fun _ t W N=>∃q:Nat,t=q/\q<=pl/\N=pl-q/\Kept AB w W,⟨pl,0,rfl,Nat.zero_le _,rfl,kr⟩,?_⟩;rintro bb _ w1 _ ⟨q,rfl,hq,rfl,k1⟩;refine AE (fun hc=>?_) (fun hc=>?_)
 ·have hqp:q<pl:=by simp at hc;omega
  obtain⟨g1',g2'⟩:=hrg q hqp;obtain⟨p,hp⟩:∃p:Nat,pf q=p:=⟨(pf q).toNat,by omega⟩;have hp32:p<32:=by omega
  have hno:=hsup p ⟨q,hqp,hp⟩;have hbv:∀j:Nat,j<256->IntKind.wrap .u8 (IntKind.wrap .i64 ((p:Int)+(j:Int)))=DO p j:=fun j hj=>by
   rw [wi (by omega)]
   show((p:Int)+j)%256=_
   unfold DO;omega
  obtain⟨g1,g2,g3⟩:=L.get h hp32;rw [L.root] at g1 g2 g3;refine AA (PG.p (by omega)).1 (Wi ⟨(p:Int),by rw [tnc,mo,<- hp];exact(PG.k k1).at' q hqp,fun x n W=>∃Y:Nat,x=some ⟨Y,0,none⟩/\n=gtE S.by' S.n rt p/\Kept AB w W/\own W Y [.int .u8 (gtK S.by' S.n rt p),vi (gtN S.by' S.n rt p)],fun w2 e2=>?_,?_⟩)
  ·have k0:Kept AB w w2:=k1.dr e2;have c2:=h.k k0;refine AA rfl ⟨_,rr k0 r0,AA rfl ⟨_,c2.rtW (Kept.refl _ _) (j:=0) rfl,AA rfl ⟨(rt:Int),rr k0 r106,?_,fun w3 e3=>?_⟩⟩⟩
   ·refine(NO c2 L.by' rt p).mono ?_;rintro _ w3 ⟨rfl,k3⟩;refine⟨_,_,_,rfl,fun w4 e4=>?_⟩;have o3:=AD e4;have k3':=kal e4;refine⟨⟨o3.wr (by decide),o3.wr (by decide)⟩,fun W4 E4=>?_⟩;have k4':Kept (·=w3.heap.size) w4 W4:=by rw [E4];exact((Kept.refl (·=w3.heap.size) w4).st (.inl rfl)).st (.inl rfl)
    exact⟨_,rfl,rfl,k0.tr (k3.tr (BD k3' k4' fun x e=>Nat.le_of_eq e.symm)),o3.s2 E4⟩
   ·have o3:=AD e3;have k3':=kal e3;have c3:=c2.k k3';have k03:=k0.tr k3';refine⟨⟨rr k03 r106,trivial⟩,⟨c3.rtW (Kept.refl _ _) (j:=0) rfl,trivial⟩,⟨rr k03 r0,trivial⟩,(NO c3 L.by' rt p).mono ?_⟩;rintro _ w4 ⟨rfl,k3⟩;have o3':=o3.k k3;refine⟨_,_,_,rfl,⟨o3'.wr (by decide),o3'.wr (by decide)⟩,fun W4 E4=>?_⟩;have k4':Kept (·=w2.heap.size) w4 W4:=by rw [E4];exact((Kept.refl (·=w2.heap.size) w4).st (.inl rfl)).st (.inl rfl)
    exact⟨_,rfl,rfl,k0.tr (BD (k3'.tr k3) k4' fun x e=>Nat.le_of_eq e.symm),o3'.s2 E4⟩
  rintro _ _ W4 ⟨Y,rfl,rfl,K4,o4⟩;rw [g2,g3] at o4;have c4:=h.k K4;have rY:∀{W:WD}{j:Nat}{v:Value},Kept AB W4 W->rd W4 Y j=some v->rd W Y (0+j)=some v:=fun kk e=>by rw [za];exact kk.rd_some e id
  refine AG (by rw [g1];rfl) ?_
  cases hpg:pg p with
  | no=>exact absurd hpg hno
  | fr f=>
   rw [hpg] at o4;have hfn:=(L.pgo p f hpg).2.1;refine AA rfl ⟨1,rY (j:=0) (Kept.refl _ _) (by rw [o4.rd];rfl),AA rfl fun w5 e5=>?_⟩;have k5:=kdr e5;have c5:=c4.k k5;have K5:=K4.tr k5;refine AA rfl ⟨_,rr K5 r0,AA rfl ⟨_,c5.rtW (Kept.refl _ _) (j:=0) rfl,AA rfl ⟨(f:Int),rY (j:=1) k5 (by rw [o4.rd];rfl),(core_read c5 hfn).mono ?_⟩⟩⟩;rintro _ w6 ⟨a,c',rfl,k6,B⟩;have K6:=K5.tr k6;refine⟨a,256,c',0,rfl,AF (fun _=>rfl) ⟨ia,il,ic,(fun _=>rr K6 r97),AG (by decide) ((nums_has (PN.k K6) (by omega) (p:Int)).mono ?_)⟩⟩;rintro _ wx ⟨rfl,hwx⟩;rw [hwx];refine⟨_,rfl,AF (fun _=>rfl) ⟨1,(fun _=>rY (j:=0) (k5.tr k6) (by rw [o4.rd];rfl)),AG (by simp) ⟨fun _ t W N=>∃j:Nat,t=j/\j<=256/\N=256-j/\W=w6,⟨256,0,rfl,by decide,rfl,rfl⟩,?_⟩⟩⟩;rintro _ _ w7 _ ⟨j,rfl,hj,rfl,rfl⟩;refine AE (fun hc2=>?_) (fun hc2=>?_)
   ·have hjl:j<256:=by simp at hc2;omega
    refine AA (B.p (by decide)) (Wi ⟨DO p j,by rw [tnc,mo,B.at' j hjl,L.byf p f hpg j hjl],AG (by rw [hbv j hjl];simp) ⟨256-(j+1),by omega,j+1,wzz,hjl,rfl,rfl⟩⟩)
   ·exact⟨pl-(q+1),by omega,q+1,wzz,hqp,rfl,K6⟩
  | sl s=>
   rw [hpg] at o4;have hsn:=(L.pgs p s hpg).2.1;refine AA rfl ⟨2,rY (j:=0) (Kept.refl _ _) (by rw [o4.rd];rfl),AG rfl (AA rfl fun w5 e5=>?_)⟩;have k5:=kdr e5;have c5:=c4.k k5;have K5:=K4.tr k5;refine AA rfl ⟨_,rr K5 r0,AA rfl ⟨_,c5.rtW (Kept.refl _ _) (j:=2) rfl,AA rfl ⟨(s:Int),rY (j:=1) k5 (by rw [o4.rd];rfl),(core_dread c5 hsn).mono ?_⟩⟩⟩;rintro _ w6 ⟨a,c',rfl,k6,B⟩;have K6:=K5.tr k6;have hnp:¬∃i,i<il/\nf i=(p:Int):=fun hi=>by
    obtain⟨f,hf⟩:=hpin p hi ⟨q,hqp,hp⟩;rw [hpg] at hf
    cases hf
   refine⟨a,256,c',0,rfl,AF (fun _=>rfl) ⟨ia,il,ic,(fun _=>rr K6 r97),AG (by decide) ((nums_has (PN.k K6) (by omega) (p:Int)).mono ?_)⟩⟩;rintro _ wx ⟨rfl,hwx⟩;rw [hwx];refine⟨_,rfl,AF (fun _=>rfl) ⟨2,(fun _=>rY (j:=0) (k5.tr k6) (by rw [o4.rd];rfl)),AG (by rw [decide_eq_false hnp];rfl) ⟨fun _ t W N=>∃j:Nat,t=j/\j<=256/\N=256-j/\W=w6,⟨256,0,rfl,by decide,rfl,rfl⟩,?_⟩⟩⟩;rintro _ _ w7 _ ⟨j,rfl,hj,rfl,rfl⟩;refine AE (fun hc2=>?_) (fun hc2=>?_)
   ·have hjl:j<256:=by simp at hc2;omega
    refine AA (B.p (by decide)) (Wi ⟨DO p j,by rw [tnc,mo,B.at' j hjl,L.bys p s hpg j hjl],AG (by rw [hbv j hjl];simp) ⟨256-(j+1),by omega,j+1,wzz,hjl,rfl,rfl⟩⟩)
   ·exact⟨pl-(q+1),by omega,q+1,wzz,hqp,rfl,K6⟩
 ·exact⟨rfl,k1⟩

theorem rd_heq{W W':WD}{b o:Nat}{v:Value}(e:W'.heap[b]? = W.heap[b]?)(h:rd W b o=some v):rd W' b o=some v:=by
 rw [EL,e,<- EL];exact h
theorem fil_no{p:Nat->Bool}{i:Nat}(hp:p i=false):((List.range (i+1)).filter p).length=((List.range i).filter p).length:=by
 rw [List.range_succ,List.filter_append,lap];simp [hp]
def MF(n:Nat)(of:Nat->Int×Int):List Nat:=(List.range n).filter fun i=>(of i).1 != 0
theorem slots_gives{w:WD}{cb s fb n:Nat}{of:Nat->Int×Int}(hc:rd w cb 0=some (ptr s))(h:DH w s fb n of)(hn:n<=1024):DW prog 164 [ptr cb] ((MF n of).map fun i:Nat=>[vi i]) (fun b=>b=cb\/b=s\/b=fb) w:=by
 refine⟨fun y J Jx W hk hab habx hY h0=>?_⟩;refine(vc164 y (some ⟨cb,0,none⟩) W (fun v w'=>(∃Y,J Y ((MF n of).map fun i:Nat=>[vi i]).length w')\/∃Y,Jx Y w') ?_).mono ?_
 rotate_left
 ·rintro e w' ⟨v,rfl,hw⟩;exact⟨⟨v,rfl⟩,hw⟩
 have hcW:=hk.rd_some hc id;have h0s:rd W s 0=some (.slice (some ⟨fb,0,none⟩) n n):=by rw [(h.so.k hk).rd];rfl
 have hfs:∀i,i<n->rd W fb (i*2)=some (vi (of i).1):=fun i hi=>by
  rw [(h.fs.k hk).rd];exact EC (s:=2) (f:=fun i=>EP (of i)) (fun _ _=>rfl) hi (j:=0) (by decide)
 unfold Q;refine AA rfl ⟨_,hcW,AG rfl (AA rfl ⟨_,_,_,h0s,fun t W' N=>∃(f:Nat) (Y:NP),t=f/\f<=n/\N=n-f/\J Y ((List.range f).filter fun i=>(of i).1 != 0).length W'/\W'.heap[cb]? = W.heap[cb]? /\ W'.heap[s]? = W.heap[s]? /\ W'.heap[fb]? = W.heap[fb]?,
  ⟨n,0,_,rfl,Nat.zero_le _,rfl,h0,rfl,rfl,rfl⟩,?_⟩)⟩
 rintro _ W1 _ ⟨f,Y,rfl,hf,rfl,hJ,q1,q2,q3⟩;refine AE (fun hc2=>?_) (fun hc2=>?_)
 ·have hfn:f<n:=by simp at hc2;omega
  refine AA rfl ⟨_,rd_heq q1 hcW,AA rfl ⟨_,_,_,rd_heq q2 h0s,AA rfl (Wi ⟨(of f).1,by rw [tnc];show rd W1 fb (0+f*2)=_;rw [za];exact rd_heq q3 (hfs f hfn),AE (fun hu=>?_) (fun hu=>?_)⟩)⟩⟩
  ·have hy:=hY Y _ [vi f] W1 (by
    rw [gmp];have:=fil_at (p:=fun i=>(of i).1 != 0) hfn hu;unfold MF;rw [this];rfl) hJ
   obtain⟨fn,tm,asg',bo,hrun,hR⟩:=hy.run;refine⟨fn,tm,asg',bo,hrun,hR.mono ?_⟩;rintro en w6 ⟨k6,⟨rfl,hJ6⟩|⟨rfl,hx6⟩⟩
   ·refine⟨true,rfl,AG rfl ⟨n-(f+1),by omega,f+1,Y,wzz,hfn,rfl,by rw [fil_succ (p:=fun i=>(of i).1 != 0) hu];exact hJ6,(k6.blk _ (.inr (.inl rfl))).trans q1,(k6.blk _ (.inr (.inr (.inl rfl)))).trans q2,(k6.blk _ (.inr (.inr (.inr rfl)))).trans q3⟩⟩
   ·exact⟨false,rfl,AA rfl (.inr ⟨_,hx6⟩)⟩
  ·exact⟨n-(f+1),by omega,f+1,Y,wzz,hfn,rfl,by rw [fil_no (p:=fun i=>(of i).1 != 0) hu];exact hJ,q1,q2,q3⟩
 ·have:f=n:=by simp at hc2;omega
  subst this;refine .inl ⟨Y,?_⟩;rw [lmp];exact hJ
theorem used_spec{w:WD}{s fb n:Nat}{of:Nat->Int×Int}(h:DH w s fb n of)(hn:n<=1024):Calls prog 22 #[ptr s] w fun e w'=>e=.returned (vi (owns n of).length)/\Kept AB w w':=by
 refine(vc22 (some ⟨s,0,none⟩) w (fun v w'=>v=(vi (owns n of).length)/\Kept AB w w') ?_).mono ?_
 rotate_left
 ·rintro e w' ⟨v,rfl,rfl,h⟩;exact⟨rfl,h⟩
 have hul:(MF n of).length=(owns n of).length:=by unfold MF owns;rw [lmp]
 have hle:(MF n of).length<=1024:=Nat.le_trans (List.length_filter_le _ _) (by simpa using hn);unfold Q;intro w1 e1 w2 e2;have o1:=AD e1;have k1:=kal e1;have o2:=AD e2;have k2:=kal e2;have o12:=o1.k k2;have l1:=o1.lt;have l2:=o2.lt;have hsl:=h.so.lt;have hfl:=h.fs.lt;have hs1:w1.heap.size=w.heap.size+1:=by rw [e1];simp only [World.alloc,Array.size_push]
 have h2:DH w2 s fb n of:=⟨(h.so.k k1).k k2,(h.fs.k k1).k k2,h.ne⟩;have K2:=k1.tr k2
 try dsimp only
 generalize hcb:w1.heap.size=cb at *;generalize hB:w2.heap.size=B at *;generalize hkx:w.heap.size=kx at *;have hR':∀b,(b=cb\/b=s\/b=fb)->b<B/\b≠kx:=fun b hb=>by rcases hb with rfl|rfl|rfl <;> omega
 refine⟨(MF n of).map fun i:Nat=>[vi i],fun b=>b=cb\/b=s\/b=fb,fun Y i W=>Kept (·=kx) w2 W/\own W kx [vi i]/\i<=(MF n of).length/\∀x,Y x->x<W.heap.size,fun _ _ _=>False,⟨slots_gives (by rw [o2.rd];rfl) h2 hn,fun ys hx=>?_,fun b hb=>(hR' b hb).1⟩,fun w3 k3 _=>?_,fun Y i W W' hI hY k'=>?_,fun _ _ _ _ h=>h.elim,fun Y i W hI hY hsz v hv=>?_,fun Y W hI hd=>?_,fun _ _ h=>h.elim,trivial⟩
 ·obtain⟨x,_,rfl⟩:=List.mem_map.1 hx;exact⟨rfl,_,rfl⟩
 ·exact⟨k3.mono fun _ _ h=>h.elim,o12.k k3,Nat.zero_le _,fun x h=>h.elim⟩
 ·obtain⟨i1,i2,i3,i4⟩:=hI;have hkb:=i1.sz;have hno:¬DJ B Y kx:=fun e=>by
   rcases e with e|e|e
   ·omega
   ·omega
   ·have:=hY _ e;omega
  refine⟨i1.trans k' fun x hx e=>?_,i2.kx k' hno,i3,fun x hx=>?_⟩
  ·rcases e with e|e|e
   ·omega
   ·omega
   ·have:=hY _ e;omega
  ·rcases hx with hx|hx
   ·exact nll (i4 x hx) k'.sz
   ·exact hx.2
 ·obtain⟨i1,i2,i3,i4⟩:=hI;have hil:i<(MF n of).length:=by
   have:=(D5.1 hv).1;rw [lmp] at this;exact this
  refine⟨CY (Kept.refl AB W) (by omega) id id,fun w7 k7 hs7=>?_⟩;have o7:=i2.kx k7 (show ¬kx=B+1 by omega);refine⟨(i:Int),by rw [o7.rd];rfl,o7.wr (by simp),fun w8 e8=>?_⟩;have k8:Kept (·=kx) w7 w8:=kr.s1 e8 (.inl rfl);have o8:=o7.s1 e8;have kW:Kept (fun x=>x=B+1\/x=kx) W w8:=(k7.mono fun _ _ e=>.inl e).trans k8 fun _ _ e=>.inr e;refine⟨CY k8 (by omega) (by omega) (by omega),keptY_of kW fun b hb=>?_,?_,?_,hil,fun x hx=>nll (i4 x hx) kW.sz⟩
  ·rcases hb with hb|hb
   ·have:=hY b hb;exact⟨i4 b hb,fun e=>by rcases e with e|e <;> omega⟩
   ·have:=hR' b hb;exact⟨by omega,fun e=>by rcases e with e|e <;> omega⟩
  ·exact i1.trans kW fun x hx e=>by rcases e with e|e <;> omega
  ·have e9:IntKind.wrap .i64 ((i:Int)+1)=((i+1:Nat):Int):=by rw [wi (by omega)];rfl
   rw [e9] at o8;exact o8
 ·obtain⟨i1,i2,i3,i4⟩:=hI;rw [lmp] at i2;refine⟨_,by rw [i2.rd];rfl,i2.wr (by simp),fun w8 e8=>?_⟩;have k8:Kept (·=kx) W w8:=kr.s1 e8 (.inl rfl);have o8:=i2.s1 e8;have hBl:B<W.heap.size:=by
   have:=hd.at_;exact(F3.1 this).1
  refine⟨⟨by simp,fun D hD=>by
   simp at hD;subst hD;rw [k8.blk _ hBl (by omega)];exact hd.at_⟩,fun w9 k9 hs9=>?_⟩
  have o9:=o8.kx k9 (fun e=>by
   have:kx=B:=List.mem_singleton.1 e;omega)
  refine⟨_,by rw [o9.rd];rfl,by rw [hul],?_⟩;exact BD (BD (BD K2 i1 fun x e=>by omega) k8 fun x e=>by omega) k9 fun x e=>by
   have:x=B:=List.mem_singleton.1 e;omega
theorem core_used{w:WD}{k:Nat}{S:AL}{fp:Prt->Nat->Prop}(h:AJ w k S fp):Calls prog 22 #[ptr S.ps] w fun e w'=>e=.returned (vi (owns S.AP S.sof).length)/\Kept AB w w':=by
 obtain⟨fb,D,f1,f2⟩:∃fb,DH w S.ps fb S.AP S.sof/\fp .AP S.ps/\fp .AP fb:=h.at' .AP;exact used_spec D h.BO.2.2.1
end Go.Proofs.YtdgbechegbmpcaaGreatDoor
namespace Go.Proofs.YtdgbechegbmpcaaGreatDoor
open Go Go.Eng Go.Proofs.Tryz
open Go.Value (bool func)
open Option (isNone)
open Go.IntKind (wrap)
theorem vc28(c0:Nat->Int)(w:WD)(K:KV)(h:Q (AW w (List.toArray (AK .i64 c0 0 94)) 26 fun w'=>RI w' w.heap.size 0 fun x=>∃(l:Int),(decide (x<1)=false->rd w' w.heap.size 0=some (.int .i64 l))/\∃(o:Int),((decide (x<1)||decide (l>8))=false->rd w' w.heap.size 1=some (.int .i64 o))/\∃(p:Int),((decide (x<1)||decide (l>8)||decide (o<1))=false->rd w' w.heap.size 1=some (.int .i64 p))/\∃(q:Int),((decide (x<1)||decide (l>8)||decide (o<1)||decide (p>16))=false->rd w' w.heap.size 90=some (.int .i64 q))/\∃(u:Int),((decide (x<1)||decide (l>8)||decide (o<1)||decide (p>16)||decide (q<0))=false->rd w' w.heap.size 90=some (.int .i64 u))/\Wif (decide (x<1)||decide (l>8)||decide (o<1)||decide (p>16)||decide (q<0)||decide (u>1024)) (K (.bool false) w') (∃(I:Bool->Int->WD->Nat->Prop),(∃(n:Nat),I false 0 w' n)/\∀(b:Bool) (n:Int) (w':WD) (y:Nat),I b n w' y->Wif (decide (n<16)) (Dr w' fun i=>RI i w.heap.size 1 fun x=>gIf (inB n 16) (decide (n<x)=true) (∃(a:Int),(decide (n<x)=true->rd i w.heap.size (2+Int.toNat n*1)=some (.int .i64 a))/\gIf (inB n 16) (decide (n<x)=true/\decide (a<0)=false) (∃(c:Int),(decide (n<x)=true/\decide (a<0)=false->rd i w.heap.size (2+Int.toNat n*1)=some (.int .i64 c))/\∃(g:Int),(decide (n<x)=true/\decide (a<0)=false->rd i w.heap.size 0=some (.int .i64 g))/\∃(h:Int),((decide (n<x)&&(decide (a<0)||decide (c>=g)))=false->rd i w.heap.size 1=some (.int .i64 h))/\gIf (inB n 16) ((decide (n<x)&&(decide (a<0)||decide (c>=g)))=false/\decide (n>=h)=true) (∃(j:Int),((decide (n<x)&&(decide (a<0)||decide (c>=g)))=false/\decide (n>=h)=true->rd i w.heap.size (2+Int.toNat n*1)=some (.int .i64 j))/\Wif (decide (n<x)&&(decide (a<0)||decide (c>=g))||decide (n>=h)&&j != 0) (K (.bool false) i) (Lt y fun m=>I b (wrap .i64 (n+1)) i m))))) (∃(I:Bool->Int->WD->Nat->Prop),(∃(n:Nat),I b 0 w' n)/\∀(b:Bool) (n:Int) (w':WD) (z:Nat),I b n w' z->Wif (decide (n<8)) (RI w' w.heap.size 0 fun x=>Dr w' fun i=>gIf (inB n 8) (decide (n<x)=true) (∃(a:Int),(decide (n<x)=true->rd i w.heap.size (18+Int.toNat n*1)=some (.int .i64 a))/\gIf (inB n 8) (decide (n<x)=true/\decide (a<4)=false) (∃(c:Int),(decide (n<x)=true/\decide (a<4)=false->rd i w.heap.size (18+Int.toNat n*1)=some (.int .i64 c))/\gIf (inB n 8) (decide (n<x)=true/\(decide (a<4)||decide (c>128))=false) (∃(g:Int),(decide (n<x)=true/\(decide (a<4)||decide (c>128))=false->rd i w.heap.size (18+Int.toNat n*1)=some (.int .i64 g))/\∃(h:Int),(decide (n<x)=true/\(decide (a<4)||decide (c>128))=false->rd i w.heap.size 93=some (.int .i64 h))/\gIf (inB n 8) ((decide (n<x)&&(decide (a<4)||decide (c>128)||decide (g<h)))=false/\(!decide (n<x))=true) (∃(j:Int),((decide (n<x)&&(decide (a<4)||decide (c>128)||decide (g<h)))=false/\(!decide (n<x))=true->rd i w.heap.size (18+Int.toNat n*1)=some (.int .i64 j))/\Wif (decide (n<x)&&(decide (a<4)||decide (c>128)||decide (g<h))||!decide (n<x)&&j != 0) (K (.bool false) i) (∃(r:Bool->Int->WD->Nat->Prop),(∃(n:Nat),r b 0 i n)/\∀(b:Bool) (d:Int) (w':WD) (A:Nat),r b d w' A->Wif (decide (d<8)) (Wn n 8 (Wn d 8 (RI w' w.heap.size (26+Int.toNat n*8+Int.toNat d*1) fun f=>∃(s:Int),((!decide (n<x))=false->rd w' w.heap.size 0=some (.int .i64 s))/\Wif ((!decide (n<x)||decide (d>=s)||n==d)&&f != 0) (K (.bool false) w') (∃(k:Int),(decide (n<x)=true->rd w' w.heap.size 0=some (.int .i64 k))/\gIf (inB d 8) ((decide (n<x)&&decide (d<k)&&n != d)=true/\(decide (f<1)||decide (f>255))=false) (gIf (inB n 8) ((decide (n<x)&&decide (d<k)&&n != d)=true/\(decide (f<1)||decide (f>255))=false) (∃(t:Int),((decide (n<x)&&decide (d<k)&&n != d)=true/\(decide (f<1)||decide (f>255))=false->rd w' w.heap.size (26+Int.toNat d*8+Int.toNat n*1)=some (.int .i64 t))/\Wif (decide (n<x)&&decide (d<k)&&n != d&&(decide (f<1)||decide (f>255)||f != t)) (K (.bool false) w') (Lt A fun m=>r b (wrap .i64 (d+1)) w' m))))))) (Lt z fun m=>I b (wrap .i64 (n+1)) w' m))))))) (RI w' w.heap.size 91 fun x=>∃(a:Int),(decide (x>=0)=true->rd w' w.heap.size 92=some (.int .i64 a))/\∃(c:Int),(decide (x>=0)=true->rd w' w.heap.size 91=some (.int .i64 c))/\∃(g:Int),((decide (x>=0)&&decide (a>=c))=true->rd w' w.heap.size 93=some (.int .i64 g))/\∃(h:Int),((decide (x>=0)&&decide (a>=c))=true->rd w' w.heap.size 92=some (.int .i64 h))/\K (.bool (decide (x>=0)&&decide (a>=c)&&decide (g>=h))) w'))))):Ret 28 #[Value.agg (List.toArray (AK .i64 c0 0 94))] w K:=vcA L16 2 [] func28 h
theorem vc29(c0:Nat->Int)(w:WD)(K:KV)(h:Q (AW w (List.toArray (AK .i64 c0 0 94)) 26 fun w'=>∃(I:OA->Nat->Nat->Int->WD->Nat->Prop),(∃(n:Nat),I none 0 0 0 w' n)/\∀(a:OA) (l c:Nat) (n:Int) (w':WD) (h:Nat),I a l c n w' h->∃(x:Nat->Int),AS w' w.heap.size 0 (AK .i64 x 0 94)/\CB 28 #[Value.agg (List.toArray (AK .i64 x 0 94))] w' fun b w'=>∃(x:Int),(b=true->rd w' w.heap.size 0=some (.int .i64 x))/\Wif (b&&decide (n<x)) (∃(d:OA->Nat->Nat->Int->WD->Nat->Prop),(∃(n:Nat),d a l c 0 w' n)/\∀(a:OA) (l c:Nat) (f:Int) (w':WD) (i:Nat),d a l c f w' i->Wn n 8 (RI w' w.heap.size (18+Int.toNat n*1) fun x=>Wif (decide (f<x)) (AW w' #[vi n] 3 fun o=>∃(j:OA) (k c_1:Nat) (g:WD),BF prog #[27,27] 27 (sl a l c) (sl (aD w'.heap.size) 1 1) (sl j k c_1) o g/\Lt i fun m=>d j k c_1 (wrap .i64 (f+1)) g m) (Lt h fun m=>I a l c (wrap .i64 (n+1)) w' m))) (K (sl a l c) w'))):Ret 29 #[Value.agg (List.toArray (AK .i64 c0 0 94))] w K:=vcA L16 2 [] func29 h
end Go.Proofs.YtdgbechegbmpcaaGreatDoor
namespace Go.Proofs.YtdgbechegbmpcaaGreatDoor
open Go Go.Eng Go.Proofs.Tryz
def RP1(c:Nat->Int)(i:Nat):Prop:=((i:Int)<c 1->0<=c (2+i)/\c (2+i)<c 0)/\(c 1<=(i:Int)->c (2+i)=0)
def RP2(c:Nat->Int)(i:Nat):Prop:=((i:Int)<c 0->4<=c (18+i)/\c (18+i)<=128/\c 93<=c (18+i))/\(c 0<=(i:Int)->c (18+i)=0)
def RP3(c:Nat->Int)(i k:Nat):Prop:=((c 0<=(i:Int)\/c 0<=(k:Int)\/i=k)->c (26+i*8+k)=0)/\((i:Int)<c 0/\(k:Int)<c 0/\i≠k->1<=c (26+i*8+k)/\c (26+i*8+k)<=255/\c (26+i*8+k)=c (26+k*8+i))
def RP0(c:Nat->Int):Prop:=(1<=c 0/\c 0<=8)/\(1<=c 1/\c 1<=16)/\(0<=c 90/\c 90<=1024)
def RPM(c:Nat->Int):Prop:=RP0 c/\(∀i,i<16->RP1 c i)/\(∀i,i<8->RP2 c i/\∀k,k<8->RP3 c i k)/\0<=c 91/\c 91<=c 92/\c 92<=c 93
theorem idx_dm{i k:Nat}(hi:i<8)(hk:k<8):(26+i*8+k-26)%8=k/\(26+i*8+k-26)/8=i/\26<=26+i*8+k/\26+i*8+k<90:=by omega
theorem may_of{c:Nat->Int}(h:RPM c):CW c:=by
 obtain⟨⟨h0,h1,h9⟩,p1,p2,q⟩:=h;refine⟨h0,h1,h9,fun i hi=>?_,fun i hi=>?_,fun i hi=>?_,fun i k hi hk=>?_,q⟩
 ·unfold HV;split
  ·rename_i hc;rcases hc with hc|hc|hc
   ·have:=(p1 (i-2) (by omega)).2 (by omega);rw [show 2+(i-2)=i by omega] at this;exact this
   ·have:=(p2 (i-18) (by omega)).1.2 (by omega);rw [show 18+(i-18)=i by omega] at this;exact this
   ·have:=((p2 ((i-26)/8) (by omega)).2 ((i-26)%8) (by omega)).1 (by omega);rw [show 26+(i-26)/8*8+(i-26)%8=i by omega] at this;exact this
  ·rfl
 ·have:=(p1 i (by omega)).1 (by omega);omega
 ·have:=(p2 i (by omega)).1.1 (by omega);exact⟨⟨this.1,this.2.1⟩,this.2.2⟩
 ·have r:=(p2 i (by omega)).2 k (by omega);unfold nearO dst;by_cases e:i=k
  ·subst e;have:=r.1 (.inr (.inr rfl));rw [this];simp
  ·have:=r.2 ⟨by omega,by omega,e⟩;exact⟨⟨fun h=>by omega,fun h=>absurd h e⟩,by omega,this.2.2⟩
theorem of_may{c:Nat->Int}(h:CW c):RPM c:=by
 obtain⟨h0,h1,h9,hb,p1,p2,pn,q⟩:=h;have zr:∀i,i<94->((2+(c 1).toNat<=i/\i<18)\/(18+(c 0).toNat<=i/\i<26)\/(26<=i/\i<90/\((c 0).toNat<=(i-26)%8\/(c 0).toNat<=(i-26)/8)))->c i=0:=fun i hi hc=>by
  have:=hb i hi;unfold HV at this;rw [if_pos hc] at this;exact this
 refine⟨⟨h0,h1,h9⟩,fun i hi=>⟨fun hc=>?_,fun hc=>?_⟩,fun i hi=>⟨⟨fun hc=>?_,fun hc=>?_⟩,fun k hk=>⟨fun hc=>?_,fun hc=>?_⟩⟩,q⟩
 ·have:=p1 i (by omega);omega
 ·exact zr (2+i) (by omega) (.inl (by omega))
 ·have:=p2 i (by omega);omega
 ·exact zr (18+i) (by omega) (.inr (.inl (by omega)))
 ·obtain⟨d1,d2,d3,d4⟩:=idx_dm hi hk;by_cases e:c 0<=(i:Int)\/c 0<=(k:Int)
  ·exact zr _ (by omega) (.inr (.inr ⟨d3,d4,by rw [d1,d2];omega⟩))
  ·have e2:i=k:=by omega
   exact((pn i k (by omega) (by omega)).1).2 e2
 ·have r:=pn i k (by omega) (by omega);unfold nearO dst at r;have:c (26+i*8+k)≠0:=fun h=>hc.2.2 (r.1.1 h);have:=r.2.1;exact⟨by omega,by omega,r.2.2⟩
theorem may_iff{c:Nat->Int}:CW c↔RPM c:=⟨of_may,may_of⟩
theorem rmay_spec(c:Nat->Int)(w:WD):Calls prog 28 #[KK c] w fun r w'=>∃b,r=.returned (.bool b)/\(b=true↔CW c)/\Kept AB w w':=by
 refine(vc28 c w (fun v w'=>∃b,v=.bool b/\(b=true↔CW c)/\Kept AB w w') ?_).mono ?_
 ·unfold Q;intro w1 e1;have o1:=AD e1;have k1:=kal e1;generalize w.heap.size=b at *;have no:∀w',Kept AB w w'->¬RPM c->∃b,Value.bool false=.bool b/\(b=true↔CW c)/\Kept AB w w':=fun w' k h=>⟨false,rfl,by rw [may_iff];simp [h],k⟩;refine⟨c 0,o1.rI (by omega),c 0,fun _=>o1.rI (by omega),c 1,fun _=>o1.rI (by omega),c 1,fun _=>o1.rI (by omega),c 90,fun _=>o1.rI (by omega),c 90,fun _=>o1.rI (by omega),AE (fun hc=>?_) (fun hc=>?_)⟩
  ·refine no _ k1 fun h=>?_;have:=h.1;unfold RP0 at this;simp at hc;omega
  have h0:RP0 c:=by unfold RP0;simp at hc;omega
  have h0':=h0;unfold RP0 at h0';refine⟨fun _ k w' N=>∃q:Nat,k=q/\q<=16/\N=16-q/\Kept AB w w'/\own w' b (cfg c)/\∀i,i<q->RP1 c i,⟨16,0,rfl,by omega,rfl,k1,o1,fun i hi=>absurd hi (nlz _)⟩,?_⟩;rintro bb _ w2 _ ⟨q,rfl,hq,rfl,k2,o2,hp1⟩;refine AE (fun hc2=>?_) (fun hc2=>?_)
  ·simp only [decide_eq_true_eq] at hc2;intro w3 e3;have k3:=k2.dr e3;have o3:=o2.dr e3;have hr:rd w3 b (2+Int.toNat (q:Int)*1)=some (.int .i64 (c (2+q))):=by rw [tnc,mo];exact o3.rI (by omega)
   have eB:inB (q:Int) 16=true:=DL;refine⟨c 1,o3.rI (by omega),AF (fun _=>eB) ⟨c (2+q),fun _=>hr,AF (fun _=>eB) ⟨c (2+q),fun _=>hr,c 0,fun _=>o3.rI (by omega),c 1,fun _=>o3.rI (by omega),AF (fun _=>eB) ⟨c (2+q),fun _=>hr,AE (fun hc3=>?_) (fun hc3=>?_)⟩⟩⟩⟩
   ·refine no _ k3 fun h=>?_;have:=h.2.1 q (by omega);unfold RP1 at this;simp at hc3;omega
   ·refine⟨16-(q+1),by omega,q+1,wzz,by omega,rfl,k3,o3,fun i hi=>?_⟩;rcases Nat.lt_or_ge i q with h|h
    ·exact hp1 i h
    ·have:i=q:=by omega
     subst this;unfold RP1;simp at hc3;omega
  have:q=16:=by simp at hc2;omega
  subst this;refine⟨fun _ k w' N=>∃q:Nat,k=q/\q<=8/\N=8-q/\Kept AB w w'/\own w' b (cfg c)/\∀i,i<q->RP2 c i/\∀k,k<8->RP3 c i k,⟨8,0,rfl,by omega,rfl,k2,o2,fun i hi=>absurd hi (nlz _)⟩,?_⟩;rintro bb2 _ w3 _ ⟨q,rfl,hq8,rfl,k3,o3,hp2⟩;refine AE (fun hc3=>?_) (fun hc3=>?_)
  ·simp only [decide_eq_true_eq] at hc3;refine⟨c 0,o3.rI (by omega),fun w4 e4=>?_⟩;have k4:=k3.dr e4;have o4:=o3.dr e4;have hr:rd w4 b (18+Int.toNat (q:Int)*1)=some (.int .i64 (c (18+q))):=by rw [tnc,mo];exact o4.rI (by omega)
   have eB:inB (q:Int) 8=true:=DL;refine AF (fun _=>eB) ⟨c (18+q),fun _=>hr,AF (fun _=>eB) ⟨c (18+q),fun _=>hr,AF (fun _=>eB) ⟨c (18+q),fun _=>hr,c 93,fun _=>o4.rI (by omega),AF (fun _=>eB) ⟨c (18+q),fun _=>hr,AE (fun hc4=>?_) (fun hc4=>?_)⟩⟩⟩⟩
   ·refine no _ k4 fun h=>?_;have:=(h.2.2.1 q (by omega)).1;unfold RP2 at this;simp at hc4;omega
   have hp2q:RP2 c q:=by
    unfold RP2;simp at hc4;omega
   refine⟨fun _ k w' N=>∃p:Nat,k=p/\p<=8/\N=8-p/\Kept AB w w'/\own w' b (cfg c)/\∀k,k<p->RP3 c q k,⟨8,0,rfl,by omega,rfl,k4,o4,fun i hi=>absurd hi (nlz _)⟩,?_⟩;rintro bb3 _ w5 _ ⟨p,rfl,hp8,rfl,k5,o5,hp3⟩;refine AE (fun hc5=>?_) (fun hc5=>?_)
   ·simp only [decide_eq_true_eq] at hc5;have eBp:inB (p:Int) 8=true:=DL;have hrp:rd w5 b (26+Int.toNat (q:Int)*8+Int.toNat (p:Int)*1)=some (.int .i64 (c (26+q*8+p))):=by rw [tnc,tnc,mo];exact o5.rI (by omega)
    have hrq:rd w5 b (26+Int.toNat (p:Int)*8+Int.toNat (q:Int)*1)=some (.int .i64 (c (26+p*8+q))):=by rw [tnc,tnc,mo];exact o5.rI (by omega)
    have eqp:((q:Int)==(p:Int))=decide (q=p):=by
     by_cases h:q=p
     ·subst h;simp
     ·simp [h];omega
    have nqp:((q:Int)!=(p:Int))=!decide (q=p):=by
     show(!((q:Int)==(p:Int)))=_
     rw [eqp]
    refine AA eB (AA eBp ⟨_,hrp,c 0,fun _=>o5.rI (by omega),AE (fun hc6=>?_) (fun hc6=>⟨c 0,fun _=>o5.rI (by omega),AF (fun _=>eBp) (AF (fun _=>eB) ⟨_,fun _=>hrq,AE (fun hc7=>?_) (fun hc7=>?_)⟩)⟩)⟩)
    ·refine no _ k5 fun h=>?_;have:=(h.2.2.1 q (by omega)).2 p (by omega);unfold RP3 at this;rw [eqp] at hc6;simp at hc6;exact hc6.2 (this.1 (by omega))
    ·refine no _ k5 fun h=>?_;have:=(h.2.2.1 q (by omega)).2 p (by omega);unfold RP3 at this;rw [nqp] at hc7;simp at hc7;have:=this.2 ⟨by omega,by omega,hc7.1.2⟩;omega
    ·refine⟨8-(p+1),by omega,p+1,wzz,by omega,rfl,k5,o5,fun k hk=>?_⟩;rcases Nat.lt_or_ge k p with h|h
     ·exact hp3 k h
     ·have:k=p:=by omega
      subst this;unfold RP3;rw [eqp] at hc6;rw [nqp] at hc7;simp at hc6 hc7;constructor
      ·intro hh;exact hc6 (by omega)
      ·rintro ⟨a1,a2,a3⟩;have:=hc7 a1 a2 a3;omega
   ·have:p=8:=by simp at hc5;omega
    subst this;refine⟨8-(q+1),by omega,q+1,wzz,by omega,rfl,k5,o5,fun i hi=>?_⟩;rcases Nat.lt_or_ge i q with h|h
    ·exact hp2 i h
    ·have:i=q:=by omega
     subst this;exact⟨hp2q,hp3⟩
  have:q=8:=by simp at hc3;omega
  subst this;refine⟨c 91,o3.rI (by omega),c 92,fun _=>o3.rI (by omega),c 91,fun _=>o3.rI (by omega),c 93,fun _=>o3.rI (by omega),c 92,fun _=>o3.rI (by omega),_,rfl,?_,k3⟩;rw [may_iff];unfold RPM;simp only [Bool.and_eq_true,decide_eq_true_eq];constructor
  ·rintro ⟨⟨h1,h2⟩,h3⟩;exact⟨h0,hp1,hp2,h1,h2,h3⟩
  ·rintro ⟨_,_,_,h1,h2,h3⟩;exact⟨⟨h1,h2⟩,h3⟩
 ·rintro e w' ⟨v,rfl,b,rfl,hw⟩;exact⟨b,rfl,hw⟩
def ndL(c:Nat->Int):Nat->List Value
 | 0=>[]
 | k+1=>ndL c k++List.replicate (c (18+k)).toNat (.int .i64 (k:Int))
theorem ndL_len{c:Nat->Int}(h:CW c):∀{k:Nat},(k:Int)<=c 0->((ndL c k).length:Int)=AN c k
 | 0,_=>rfl
 | k+1,hk=>by
  have:=ndL_len h (k:=k) (by omega);have f:=h.fr (i:=k) (by omega);simp only [ndL,AN,lap,List.length_replicate];omega
theorem rframes_spec(c:Nat->Int)(hm:CW c)(w:WD):Calls prog 29 #[KK c] w fun r w'=>∃a cp,r=.returned (.slice a (AN c (c 0).toNat).toNat cp)/\Kept AB w w'/\w'.ownsRow w.heap.size 3 1 (.slice a (AN c (c 0).toNat).toNat cp) (AN c (c 0).toNat).toNat (ndL c (c 0).toNat):=by
 refine(vc29 c w (fun v w'=>∃a cp,v=(.slice a (AN c (c 0).toNat).toNat cp)/\Kept AB w w'/\w'.ownsRow w.heap.size 3 1 (.slice a (AN c (c 0).toNat).toNat cp) (AN c (c 0).toNat).toNat (ndL c (c 0).toNat)) ?_).mono ?_
 ·unfold Q;have h0:=hm.1;intro w1 e1;have o1:=AD e1;have k1:=kal e1;have s1:w1.heap.size=w.heap.size+1:=by rw [e1];simp only [World.alloc,Array.size_push]
  generalize hb:w.heap.size=b at *;clear e1;have brow:∀{w:WD}{v:Value}{n:Nat}{xs:List Value},w.ownsRow (b+1) 3 1 v n xs->∀x,v.ownBlock=some x->b+1<=x:=fun h x hx=>(h.lt x hx).1;refine⟨fun a l cp k w' M=>∃q:Nat,k=(q:Int)/\(q:Int)<=c 0/\M=(c 0).toNat-q/\Kept AB w w'/\own w' b (cfg c)/\b+1<=w'.heap.size/\l=(ndL c q).length/\w'.ownsRow (b+1) 3 1 (.slice a l cp) l (ndL c q),⟨(c 0).toNat,0,rfl,by omega,rfl,k1,o1,by omega,rfl,World.ownsRow_nil _ _ _ _⟩,?_⟩;rintro a _ cp _ w2 _ ⟨q,rfl,hq,rfl,k2,o2,s2,rfl,row2⟩;refine⟨c,o2.DR,(rmay_spec c w2).mono ?_⟩;rintro _ w3 ⟨mb,rfl,hmb,k23⟩;have:mb=true:=hmb.2 hm;subst this;have o3:=o2.k k23;have row3:=AR row2 k23 fun _ _ _ _=>id;have k3:=k2.tr k23;have s3:=k23.sz;refine⟨true,rfl,c 0,fun _=>o3.rI (by omega),AE (fun hc=>?_) (fun hc=>?_)⟩
  ·have hlt:(q:Int)<c 0:=by simpa using hc
   have hf:=hm.fr (i:=q) (by omega);have hlen:=ndL_len hm (k:=q) (by omega);have hfst:=hm.fst (k:=q) (by omega);refine⟨fun a l cp k w' M=>∃p:Nat,k=(p:Int)/\(p:Int)<=c (18+q)/\M=(c (18+q)).toNat-p/\Kept AB w w'/\own w' b (cfg c)/\b+1<=w'.heap.size/\l=(ndL c q).length+p/\w'.ownsRow (b+1) 3 1 (.slice a l cp) l (ndL c q++List.replicate p (.int .i64 (q:Int))),⟨(c (18+q)).toNat,0,rfl,by omega,rfl,k3,o3,by omega,rfl,by simpa using row3⟩,?_⟩;rintro a _ cp _ w4 _ ⟨p,rfl,hp,rfl,k4,o4,s4,rfl,row4⟩;refine Wi ⟨c (18+q),by rw [tnc,mo];exact o4.rI (by omega),AE (fun hc2=>?_) (fun hc2=>?_)⟩
   ·simp only [decide_eq_true_eq] at hc2;intro w5 e5;have k45:=kal e5;have p5:=AD (c:=[.int .i64 (q:Int)]) e5;have row5:=AR row4 k45 fun _ _ _ _=>id;have s5:=k45.sz;obtain⟨a',l',c',w6,happ,rfl,row6,k6⟩:=app_one (t:=27) (e:=3) underlying27 info_int rfl row5 p5 (m:=1) (off:=0) (c:=1) (news:=[.int .i64 (q:Int)]) rfl rfl (fun u hu=>by simp at hu;subst hu;rfl) (by omega) (by omega);have s6:=k6.sz;refine⟨a',_,c',w6,happ,(c (18+q)).toNat-(p+1),by omega,p+1,wzz,by omega,rfl,BD (k4.tr k45) k6 fun x hx=>by have:=brow row5 x hx;omega,(o4.k k45).kx k6 fun hx=>by have:=brow row5 _ hx;omega,by omega,rfl,?_⟩;have:ndL c q++List.replicate (p+1) (Value.int .i64 (q:Int))=ndL c q++List.replicate p (.int .i64 (q:Int))++[.int .i64 (q:Int)]:=by rw [List.replicate_succ',List.append_assoc]
    rw [this];exact row6
   ·have hpe:p=(c (18+q)).toNat:=by simp at hc2;omega
    subst hpe;have:(ndL c q).length+(c (18+q)).toNat=(ndL c (q+1)).length:=by simp [ndL]
    rw [this] at row4;exact⟨(c 0).toNat-(q+1),by omega,q+1,wzz,by omega,rfl,k4,o4,s4,this,by rw [this];exact row4⟩
  ·have hqe:q=(c 0).toNat:=by simp at hc;omega
   subst hqe;have hlen:=ndL_len hm (k:=(c 0).toNat) (by omega);have e:(ndL c (c 0).toNat).length=(AN c (c 0).toNat).toNat:=by omega
   rw [e] at row3 ⊢;refine⟨a,cp,rfl,k3,row3.1,?_⟩;rcases row3.2 with h|⟨g,cap,cur,q1,q2,q3⟩
   ·exact .inl h
   ·exact .inr ⟨g,cap,cur,q1,by omega,q3⟩
 ·rintro e w' ⟨v,rfl,a,cp,rfl,hw⟩;exact⟨a,cp,rfl,hw⟩
def H8(n:Nat)(f:Nat->Bool):List Value:=(List.range n).map fun i=>.bool (f i)
theorem H7{n i:Nat}{f:Nat->Bool}(hi:i<n):(H8 n f)[i]? = some (.bool (f i)):=by unfold H8;rw [gmp,List.getElem?_range hi];rfl
theorem boolsL_set{n i:Nat}{f:Nat->Bool}{v:Bool}(hi:i<n):(H8 n f).set i (.bool v)=H8 n (upd f i v):=by
 refine List.ext_getElem? fun j=>?_;rw [List.getElem?_set];by_cases hj:i=j
 ·subst hj;rw [if_pos rfl,if_pos (by unfold H8;simpa using hi),H7 hi,upd_same]
 ·rw [if_neg hj];by_cases h2:j<n
  ·rw [H7 h2,H7 h2,AH _ _ (Ne.symm hj)]
  ·rw [gen (by unfold H8;simp;omega),gen (by unfold H8;simp;omega)]
set_option maxHeartbeats 4000000 in
theorem small_spec{w:WD}{x0:Nat->Int}{pa:OA}{pl pc:Nat}{ia:OA}{il ic:Nat}{x96 pf nf:Nat->Int}(PG:CL w pa pl pf)(PN:CL w ia il nf) :
 Calls prog 8 #[.agg (AK .i64 x0 0 94++([Value.slice pa pl pc,Value.slice ia il ic]++AK .i64 x96 0 8)).toArray] w fun e w'=>∃b,e=.returned (.bool b)/\Kept AB w w'/\(b=true->CaseOk w' x0 pa pl ia il pf nf):=by
 refine(vc8 x0 pa pl pc ia il ic x96 w (fun v w'=>∃b,v=.bool b/\Kept AB w w'/\(b=true->CaseOk w' x0 pa pl ia il pf nf)) ?_).mono ?_
 rotate_left
 ·rintro e w' ⟨v,rfl,b,rfl,h⟩;exact⟨b,rfl,h⟩
 unfold Q;intro w1 e1;have o1:=AD e1;have k1:=kal e1
 try dsimp only
 generalize w.heap.size=cb at *;have rall:∀{W:WD},Kept AB w1 W->AS W cb 0 (AK .i64 x0 0 94):=fun kk=>(o1.k kk).run 0 fun j hj=>by rw [za,gal (by rw [AI];exact hj),AT _ _ _ _ _ hj,za]
 have r94:∀{W:WD},Kept AB w1 W->rd W cb 94=some (.slice pa pl pc):=fun kk=>by rw [(o1.k kk).rd];rfl
 have r95:∀{W:WD},Kept AB w1 W->rd W cb 95=some (.slice ia il ic):=fun kk=>by rw [(o1.k kk).rd];rfl
 refine⟨x0,rall kr,(rmay_spec x0 w1).mono ?_⟩;rintro _ w2 ⟨b,rfl,hb,k2⟩;refine⟨b,rfl,x0,(fun _=>rall k2),AE (fun hn=>⟨false,rfl,k1.tr k2,fun h=>by cases h⟩) (fun hn=>?_)⟩;have hm:CW x0:=hb.1 (by simpa using hn);refine(rframes_spec x0 hm w2).mono ?_;rintro _ w3 ⟨a,cp,rfl,k3,_⟩;have k13:=k2.tr k3;refine⟨a,_,cp,rfl,pa,pl,pc,(fun _=>r94 k13),ia,il,ic,(fun _=>r95 k13),AE (fun hs=>⟨false,rfl,k1.tr k13,fun h=>by cases h⟩) (fun hs=>fun w4 e4=>?_)⟩;have hpl:pl<=32:=by simp at hs;omega
 have hil:il<=64:=by simp at hs;omega
 clear hs;have o4:own w4 w3.heap.size (List.replicate 32 (.bool false)):=AD e4;have k4:=kal e4;have e32:List.replicate 32 (Value.bool false)=H8 32 fun _=>false:=by
  refine List.ext_getElem? fun j=>?_;by_cases h:j<32
  ·rw [List.getElem?_replicate,if_pos h,H7 h]
  ·rw [gen (by simp;omega),gen (by unfold H8;simp;omega)]
 rw [e32] at o4;have hs13:=k13.sz;have hcb3:=(o1.k k13).lt
 try dsimp only
 generalize hY:w3.heap.size=Y at *;refine⟨fun bb t W N=>∃(q:Nat) (sb:Nat->Bool),t=q/\q<=pl/\N=pl-q/\own W Y (H8 32 sb)/\Kept AB w3 W/\(∀j,j<32->(sb j=true↔∃i,i<q/\pf i=j))/\(∀i,i<q->0<=pf i/\pf i<=31)/\(∀i j,i<q->j<q->pf i=pf j->i=j),
  ⟨pl,0,_,rfl,Nat.zero_le _,rfl,o4,k4,fun j _=>⟨(fun h=>by cases h),fun⟨i,hi,_⟩=>absurd hi (nlz _)⟩,fun i hi=>absurd hi (nlz _),fun i j hi=>absurd hi (nlz _)⟩,?_⟩
 rintro bb _ W _ ⟨q,sb,rfl,hq,rfl,oW,kW,h1,h2,h3⟩;have K:=k13.tr kW;have KW:=k1.tr K;refine⟨pa,pl,pc,r94 K,AE (fun hc=>?_) (fun hc=>?_)⟩
 ·have hqp:q<pl:=by simp at hc;omega
  have hP:=(PG.p (by omega)).1;have hI:inB (q:Int) pl=true:=DL;have hR:rd W (pb pa) (po pa+Int.toNat (q:Int)*1)=some (vi (pf q)):=by rw [tnc,mo];exact(PG.k KW).at' q hqp
  by_cases hr:0<=pf q/\pf q<=31
  ·obtain⟨p,hp⟩:∃p:Nat,pf q=p:=⟨(pf q).toNat,by omega⟩;have hp32:p<32:=by omega
   rw [hp] at hR;have hI2:inB (p:Int) 32=true:=DL;refine⟨pa,pl,pc,r94 K,AA hP (AA hI ⟨(p:Int),hR,pa,pl,pc,(fun _=>r94 K),AF (fun _=>hP) (AF (fun _=>hI) ⟨(p:Int),(fun _=>hR),pa,pl,pc,(fun _=>r94 K),AF (fun _=>hP) (AF (fun _=>hI) ⟨(p:Int),(fun _=>hR),AF (fun _=>hI2) ⟨sb p,(fun _=>?_),AE (fun hx=>⟨false,rfl,KW,fun h=>by cases h⟩) (fun hx=>⟨pa,pl,pc,r94 K,AA hP (AA hI ⟨(p:Int),hR,AA hI2 ⟨?_,fun W2 e2=>?_⟩⟩)⟩)⟩⟩)⟩)⟩)⟩
   ·rw [tnc,mo,za,oW.rd,H7 hp32]
   ·rw [tnc,mo,za];exact oW.wr (by unfold H8;simpa using hp32)
   ·rw [tnc,mo,za] at e2;have o2:=oW.s1 e2;rw [boolsL_set hp32] at o2;have hno:sb p=false:=by
     rw [Bool.or_eq_false_iff] at hx;exact hx.2
    have hnew:¬∃i,i<q/\pf i=p:=fun e=>by
     have:=(h1 p hp32).2 e;rw [hno] at this;cases this
    have kW2:Kept AB w3 W2:=BD kW (kr.s1 e2 (.inl rfl):Kept (·=Y) W W2) fun x e=>by omega
    refine⟨pl-(q+1),by omega,q+1,_,wzz,hqp,rfl,o2,kW2,fun j hj=>?_,fun i hi=>?_,fun i j hi hj he=>?_⟩
    ·by_cases e:j=p
     ·subst e;rw [upd_same];exact⟨fun _=>⟨q,by omega,hp⟩,fun _=>rfl⟩
     ·rw [AH _ _ e,h1 j hj];exact⟨fun⟨i,hi,he⟩=>⟨i,by omega,he⟩,fun⟨i,hi,he⟩=>⟨i,by
       have:i≠q:=fun e2=>e (by rw [e2,hp] at he;omega);omega,he⟩⟩
    ·by_cases e:i=q
     ·rw [e];exact hr
     ·exact h2 i (by omega)
    ·by_cases e:i=q
     ·by_cases e2:j=q
      ·omega
      ·exact absurd ⟨j,by omega,by rw [<- he,e,hp]⟩ hnew
     ·by_cases e2:j=q
      ·exact absurd ⟨i,by omega,by rw [he,e2,hp]⟩ hnew
      ·exact h3 i j (by omega) (by omega) he
  ·have hcond:¬((decide (pf q<0)||decide (pf q>31))=false):=by
    rw [Bool.or_eq_false_iff,decide_eq_false_iff_not,decide_eq_false_iff_not];omega
   refine⟨pa,pl,pc,r94 K,AA hP (AA hI ⟨pf q,hR,pa,pl,pc,(fun _=>r94 K),AF (fun _=>hP) (AF (fun _=>hI) ⟨pf q,(fun _=>hR),pa,pl,pc,(fun _=>r94 K),AF (fun _=>hP) (AF (fun _=>hI) ⟨pf q,(fun _=>hR),AF (fun h=>absurd h hcond) ⟨false,(fun h=>absurd h hcond),AA ?_ ⟨false,rfl,KW,fun h=>by cases h⟩⟩⟩)⟩)⟩)⟩
   cases hd:(decide (pf q<0)||decide (pf q>31)) with
   | false=>exact absurd hd hcond
   | true=>rfl
 ·have:q=pl:=by simp at hc;omega
  subst this;exact⟨true,rfl,KW,fun _=>⟨hm,hpl,hil,PG.k KW,PN.k KW,h2,h3⟩⟩
theorem mapQ_cnt(pg:Nat->Pg):∀q,(CO pg q).length=((List.range q).filter fun j=>decide (pg j≠.no)).length
 | 0=>rfl
 | q+1=>by
  rw [GN,lap,mapQ_cnt pg q,List.range_succ,List.filter_append,lap];congr 1
  cases h:pg q <;> simp [h]
theorem mapQ_same{pg pg':Nat->Pg}(h:∀j,pg' j=.no↔pg j=.no)(q:Nat):(CO pg' q).length=(CO pg q).length:=by
 rw [mapQ_cnt,mapQ_cnt];have:(fun j=>decide (pg' j≠.no))=fun j=>decide (pg j≠.no):=by
  funext j;rw [decide_eq_decide];exact not_congr (h j)
 rw [this]
section
variable {w0 W W1 W2:WD}{pf nf:Nat->Int}{B:BP}{β:Nat->Nat}{S:AL}{fp:Prt->Nat->Prop}{FR:NP}{rt lf:Nat}{pg:Nat->Pg}{pin:Nat->Bool}{ta:OA}{tl tc ab:Nat}{A:List Nat}
 {R:FinR}{S':AL}{fp':Prt->Nat->Prop}{G:NP}{gt:Nat->Value}{nn la ca:Nat->Int}{cpu:Nat}{pg':Nat->Pg}{cnt:Nat}{hd:Option Nat}
theorem NW{r l:Nat}(h:WAt W2 (wvB B β r l ta tl tc) gt nn la ca){i:Nat}{v:Value}(hv:(midB B r l ta tl tc)[i]? = some v):rd W2 (β 23) (2+i)=some v:=by
 have hi:=(D5.1 hv).1;have o:=h.so;have e:(wvB B β r l ta tl tc).mid=midB B r l ta tl tc:=rfl;rw [e] at o;have:=o.rd (2+i);rw [gal (by simp;omega),gar (by simp),show 2+i-[ptr (wvB B β r l ta tl tc).k,ptr (wvB B β r l ta tl tc).t].length=i by simp,hv] at this;exact this
theorem midB_x0{r l i:Nat}(hi:i<94):(midB B r l ta tl tc)[i]? = some (vi (B.x0 i)):=by
 unfold midB;rw [gal (by rw [AI];exact hi),AT _ _ _ _ _ hi,za]
theorem MV{r l i:Nat}{v:Value}(hv:([Value.slice B.pa B.pl B.pc,Value.slice B.ia B.il B.ic]++(AK .i64 B.x96 0 8++[vi r,vi l,.slice ta tl tc]))[i]? = some v):(midB B r l ta tl tc)[94+i]? = some v:=by
 unfold midB;rw [gar (by rw [AI];omega),AI,Nat.add_sub_cancel_left];exact hv
end
def DS(i:Nat):Int:=if i=0 then 1 else if i=1 then 1 else if i=18 then 4 else if i=90 then 2 else 0
theorem four_may:CW DS:=by
 refine⟨by decide,by decide,by decide,by decide,by decide,by decide,?_,by decide,by decide,by decide⟩;intro i k hi hk;have h1:i=0:=by have:i<1:=hi;omega
 have h2:k=0:=by have:k<1:=hk;omega
 subst h1 h2;exact⟨by decide,by decide,rfl⟩
theorem fours_spec{w:WD}(pa:OA)(l c:Nat):Calls prog 30 #[.slice pa l c] w fun e w'=>∃(a:OA) (g:Nat->Int),e=.returned (.agg (AK .i64 DS 0 94++([Value.slice a 2 2,Value.slice pa l c]++AK .i64 g 0 8)).toArray)/\(∀i,i<8->g i=0)/\Kept AB w w'/\w.heap.size<=pb a/\CL w' a 2 (fun i=>(i:Int)):=by
 refine(vc30 pa l c w (fun v w'=>∃(a:OA) (g:Nat->Int),v=(.agg (AK .i64 DS 0 94++([Value.slice a 2 2,Value.slice pa l c]++AK .i64 g 0 8)).toArray)/\(∀i,i<8->g i=0)/\Kept AB w w'/\w.heap.size<=pb a/\CL w' a 2 (fun i=>(i:Int))) ?_).mono ?_
 rotate_left
 ·rintro e w' ⟨v,rfl,a,g,rfl,h⟩;exact⟨a,g,rfl,h⟩
 unfold Q;intro w1 e1 w2 e2;have o1:=AD e1;have k1:=kal e1;have o2:=AD e2;have k2:=kal e2;have l1:=o1.lt;have l2:=o2.lt;refine⟨o2.DF 0 (by simp),fun w3 e3=>?_⟩;obtain⟨o3,k3⟩:=EZ o2 e3 (by simp);refine⟨o3.wr (by simp),fun w4 e4=>?_⟩;have o4:=o3.s1 e4;have k4:Kept (·=w1.heap.size) w3 w4:=kr.s1 e4 (.inl rfl);have ef:(([Value.int .i64 1,Value.int .i64 1]++(List.replicate 88 (Value.int .i64 0)++[Value.int .i64 2,Value.int .i64 0,Value.int .i64 0,Value.int .i64 0])).set 18 (Value.int .i64 4))=AK .i64 DS 0 94:=by kernel_rfl
 rw [ef] at o4;have K4:Kept AB w1 w4:=BD (BD k2 k3 fun x e=>by omega) k4 fun x e=>by omega
 refine⟨DS,o4.DR,fun w5 e5=>?_⟩;have o5:=AD e5;have k5:=kal e5;have o15:=(o1.k K4).k k5;refine⟨o15.DF 0 (by simp [AI]),fun w6 e6=>?_⟩;obtain⟨o6,k6⟩:=EZ o15 e6 (by simp [AI]);have er:List.replicate 8 (Value.int IntKind.i64 0)=AK .i64 (fun _=>0) 0 8:=JI;rw [er] at o6;have K6:Kept AB w w6:=BD (k1.tr (K4.tr k5)) k6 fun x e=>by omega
 refine⟨DS,_,_,_,_,_,_,fun _=>0,o6.AS 0 (fun j hj=>by rw [za]),_,_,rfl,fun _ _=>rfl,K6,(by have:=K4.sz;show w.heap.size<=w4.heap.size;omega),?_⟩;have hw4:=K4.sz;have o56:=o5.kx k6 (by omega);refine⟨fun _=>⟨rfl,o56.lt⟩,fun i hi=>?_⟩
 show rd w6 w4.heap.size (0+i)=_
 rw [za,o56.rd]
 match i,hi with
 | 0,_=>rfl
 | 1,_=>rfl
section
variable {w:WD}{k:Nat}{S:AL}{fp:Prt->Nat->Prop}{rt lf cnt:Nat}{pg:Nat->Pg}{pin:Nat->Bool}{hd:Option Nat}{q tot hc':Nat}{A:List Nat}
theorem four_n(h:AJ w k S fp)(hc:S.c=DS):S.n=4/\S.nodes=1/\S.AP=2:=by
 have h1:=h.n4.1;have h2:=h.BO.2.2.2;rw [hc] at h1 h2;have e1:AN DS (DS 0).toNat=4:=by decide
 have e2:DS 90=2:=by decide
 refine⟨by omega,?_,by omega⟩;unfold AL.nodes;rw [hc];rfl
theorem OG(cpu:Nat):0∈CD DS cpu:=by
 obtain⟨_,h2,_,h4⟩:=GM four_may cpu;have e:(DS 0).toNat=1:=rfl;rw [e] at h2 h4
 cases hl:CD DS cpu with
 | nil=>rw [hl] at h4;cases h4
 | cons x xs=>
  have:=h2 x (by rw [hl];simp);have:x=0:=by omega
  rw [this];simp
theorem four_cf(h:AJ w k S fp)(hc:S.c=DS)(L:QSt S rt lf pg pin [] hc' hd cnt tot):AX (S.L 0)+cnt+2+(if hd.isSome then 1 else 0)=4:=by
 obtain⟨h1,h2,_⟩:=four_n h hc;have:=L.cf;rw [h1,h2,show DT 1 (fun i=>AX (S.L i))=0+AX (S.L 0) by rw [D7];rfl] at this;simpa using this
theorem lack_absurd{g:Nat->Int}(h:LackP DS 2 g)(hg:∀i,i<8->g i=0):False:=by
 obtain⟨W,k,S,fp,rt,lf,pg,pin,A,q,C,hc,L,hq,hz,ha⟩:=h;obtain rfl:=ha fun i hi=>Int.le_of_eq (hg i hi);have h1:=hz 0 (OG _);have h2:=four_cf C hc L;simp at h2;omega
theorem four_gets(h:AJ w k S fp)(hc:S.c=DS)(L:QSt S rt lf pg pin [] hc' none cnt 2)(hp:pg 1≠.no)(hpin:pin 1=false)(hmin:∀x∈CD DS 0,(AX (S.L x):Int)<=S.c 91)(hno:HC S\/∀i∈CD DS 0,NoGo S pg pin i):False:=by
 obtain⟨n1,n2,n3⟩:=four_n h hc;have h1:=hmin 0 (OG _);rw [hc,show DS 91=0 from rfl] at h1;have h2:=four_cf h hc L;simp at h2;have hcu:=L.cu;have ho:(owns S.AP S.sof).length=0:=by omega
 have hof:∀s,s<S.AP->¬(S.sof s).1≠0:=fun s hs e=>by
  have:(⟨(s:Int),(S.sof s).1,(S.sof s).2⟩:Own)∈owns S.AP S.sof:=by
   unfold owns;exact List.mem_map.2 ⟨s,List.mem_filter.2 ⟨List.mem_range.2 hs,by simpa using e⟩,rfl⟩
  rw [List.length_eq_zero_iff.1 ho] at this
  cases this
 have nosl:∀j s,pg j≠.sl s:=fun j s e=>by
  obtain⟨_,h5,h6⟩:=L.pgs j s e;exact hof s h5 (by rw [h6];show(1:Int)≠0;decide)
 rcases hno with hn|hn
 ·have:S.sof 0=(0,0):=(L.so 0 (by omega)).resolve_right fun⟨j,e⟩=>nosl j 0 e;exact hn 0 (by omega) this
 ·cases e:pg 1 with
  | no=>exact hp e
  | sl s=>exact nosl 1 s e
  | fr f=>
   have hfn:=(L.pgo 1 f e).2.1;have:=hn 0 (OG _) 1 f e (by show(0:Int)<=_;omega) (by rw [hc,show AN DS (0+1)=4 by decide];omega);rw [hpin] at this
   cases this
theorem four_none{f:Nat}(h:AJ w k S fp)(hc:S.c=DS)(L:QSt S rt lf pg pin [] hc' (some f) cnt 2)(h0:pin 0=true)(h1:pin 1=true):False:=by
 have h2:=four_cf h hc L;simp at h2;have h3:=L.cp;have h4:=(show [0,1].Nodup by decide).length_le_of_subset (l₂:=(List.range 32).filter fun j=>(pg j).KH) fun j hj=>by
  have hfr:∀j,pin j=true->(pg j).KH=true:=fun j hj=>by
   obtain⟨f,hf⟩:=L.pinF j hj;rw [hf];rfl
  simp at hj;rcases hj with rfl|rfl
  ·exact List.mem_filter.2 ⟨by simp,hfr 0 h0⟩
  ·exact List.mem_filter.2 ⟨by simp,hfr 1 h1⟩
 rw [h3] at h4;simp at h4;omega
end
def FourB(lo:Nat)(ia:OA)(w0 w':WD)(il:Nat)(nf:Nat->Int)(v:Value):Prop:=
 Kept AB w0 w'/\∃B β S fp FR rt lf pg pin ta tl tc A,v=.tuple #[ptr (β 23),.bool true,.bool true]/\Begun w0 (fun i=>(i:Int)) nf B β S fp FR rt lf pg pin ta tl tc A w'/\B.x0=DS/\B.pl=2/\B.il=il/\B.ia=ia/\lo<=pb B.pa/\A=[]/\CaseOk w0 B.x0 B.pa B.pl B.ia B.il (fun i=>(i:Int)) nf
theorem four_begun{w:WD}(hz:F4 w){ia:OA}{il ic:Nat}{nf:Nat->Int}(PN:CL w ia il nf)(hil:il<=2) :
 Calls prog 30 #[.slice ia il ic] w fun e w1=>∃(a:OA) (g:Nat->Int),e=.returned (.agg (AK .i64 DS 0 94++([Value.slice a 2 2,Value.slice ia il ic]++AK .i64 g 0 8)).toArray)/\Kept AB w w1/\
  Calls prog 10 #[.agg (AK .i64 DS 0 94++([Value.slice a 2 2,Value.slice ia il ic]++AK .i64 g 0 8)).toArray] w1 fun e w'=>∃v,e=.returned v/\FourB w.heap.size ia w1 w' il nf v:=by
 refine(fours_spec ia il ic).mono ?_;rintro e w1 ⟨a,g,rfl,hg,k1,hlo,PG⟩;have O:CaseOk w1 DS a 2 ia il (fun i=>(i:Int)) nf:=⟨four_may,by decide,by omega,PG,PN.k k1,fun i hi=>by omega,fun i j _ _ e=>by omega⟩;have hz1:=hz.k k1;have hpos:0<w1.heap.size:=KO (hz1 0 (by decide));refine⟨a,g,rfl,k1,(begun_spec hz1 hpos (pc:=2) (ic:=ic) (x96:=g) O).mono ?_⟩;rintro e w' ⟨v,rfl,kk,⟨hl,_⟩|⟨k,β,S,fp,FR,rt,lf,pg,pin,ta,tl,tc,A,rfl,Bg⟩⟩
 ·exact(lack_absurd hl hg).elim
 ·exact⟨_,rfl,kk,_,β,S,fp,FR,rt,lf,pg,pin,ta,tl,tc,A,rfl,Bg,rfl,rfl,rfl,rfl,hlo,Bg.a0 fun i hi=>Int.le_of_eq (hg i hi),O⟩
structure EM(n0:Nat)(pf nf:Nat->Int)(B:BP)(β:Nat->Nat)(S:AL)(fp:Prt->Nat->Prop)(FR:NP)(rt lf:Nat)(pg:Nat->Pg)(pin:Nat->Bool)(ta:OA)(tl tc:Nat)(A:List Nat)(W:WD):Prop where
 X:Ctx B.kp S fp FR W
 lo:∀x,Fo fp FR x->n0<=x
 R:DQ W B β rt lf (.slice ta tl tc)
 DY:∀x,BT B β x->FR x
 row:EK W ta tl tc (A.map fun x:Nat=>(x:Int))
 rowF:∀x,(Value.slice ta tl tc).ownBlock=some x->FR x/\¬BT B β x
 Q:∀hc,QSt S rt lf pg pin A hc none B.pl B.pl
 c:S.c=B.x0
 n:B.n=S.AO
 pg1:∀j,(∃f,pg j=.fr f)↔∃i,i<B.pl/\pf i=j
 pg2:∀j,pg j=.no\/∃f,pg j=.fr f
 pn:∀j,pin j=true↔(∃i,i<B.pl/\pf i=j)/\∃i,i<B.il/\nf i=j
 dj:∀s∈JS,∀t∈JS,s≠t->β s≠β t
section
variable {w0 W W1 W2:WD}{n0:Nat}{pf nf:Nat->Int}{B:BP}{β:Nat->Nat}{S:AL}{fp:Prt->Nat->Prop}{FR:NP}{rt lf:Nat}{pg:Nat->Pg}{pin:Nat->Bool}{ta:OA}{tl tc ab:Nat}{A:List Nat}
 {R:FinR}{S':AL}{fp':Prt->Nat->Prop}{G:NP}{gt:Nat->Value}{nn la ca:Nat->Int}{cpu:Nat}{pg':Nat->Pg}{cnt:Nat}{hd:Option Nat}
theorem Begun.w(h:Begun w0 pf nf B β S fp FR rt lf pg pin ta tl tc A W):EM w0.heap.size pf nf B β S fp FR rt lf pg pin ta tl tc A W:=
 ⟨h.L.G.X,h.L.G.lo,h.L.R,h.L.DY,h.L.row,h.L.rowF,h.Q,h.c,h.n,h.pg1,h.pg2,h.pn,h.dj⟩
theorem EM.env(h:EM n0 pf nf B β S fp FR rt lf pg pin ta tl tc A W){X:NP}(kk:Kept X W W1)(hX:∀x,X x->¬Fo fp FR x):EM n0 pf nf B β S fp FR rt lf pg pin ta tl tc A W1:=
 {h with
  X:=⟨h.X.C.kx kk fun x p h1 h2=>hX x h1 (.inl ⟨p,h2⟩),fun x hx=>nll (h.X.lt x hx) kk.sz,h.X.dj⟩
  R:=h.R.kx kk fun x hm e=>hX x e (.inr (h.DY x hm))
  row:=h.row.kx kk fun x e hx=>hX x e (.inr (h.rowF x hx).1)}
theorem EM.sup(Bg:EM n0 pf nf B β S fp FR rt lf pg pin ta tl tc A W):(CO pg 32).length=B.pl:=by
 have h0:pgS pg 32=[]:=by
  rw [List.eq_nil_iff_forall_not_mem];intro s hs;obtain⟨j,_,hj⟩:=pgS_mem.1 hs;rcases Bg.pg2 j with e|⟨f,e⟩ <;> rw [e] at hj <;> cases hj
 rw [MY,h0,QE];exact(Bg.Q 0).cp
theorem EM.rdy(h:EM n0 pf nf B β S fp FR rt lf pg pin ta tl tc A W){W1:WD}(kk:Kept AB W W1){ab:Nat}(h1:W.heap.size<=ab)(h2:ab<W1.heap.size) :
 Rdy W1 (wvB B β rt lf ta tl tc) (β 25) B.x0 S fp (ER FR β ab) rt lf pg pin A B.pl:=by
 have C:=h.X.C;have hs:=C.BO;have dj:=h.dj;have d:∀s t,s∈JS->t∈JS->s≠t->β s≠β t:=fun s t a b c=>dj s a t b c;have hlt:=h.X.lt;have m5:=h.DY (β 5) (by simp [BT]);have m25:=h.DY (β 25) (by simp [BT]);have l5:=hlt _ m5;have l25:=hlt _ m25;refine⟨⟨C.k kk,fun x hx=>?_,fun p x hp hx=>?_⟩,(h.R.w (by rw [h.n];omega) dj).k kk,⟨h.R.t.k kk,h.R.ts.k kk,d 5 25 (by decide) (by decide) (by decide)⟩,h.Q,h.c,h.n,?_,?_,?_⟩
 ·rcases hx with hx|rfl
  ·exact nll (hlt x hx.1) kk.sz
  ·exact h2
 ·rcases hx with hx|rfl
  ·exact h.X.dj p x hp hx.1
  ·have:=(C.lt p x hp).2;omega
 ·rintro x (rfl|rfl|rfl|rfl|rfl)
  ·exact .inl ⟨h.DY _ (by simp [BT,wvB]),d 23 5 (by decide) (by decide) (by decide),d 23 25 (by decide) (by decide) (by decide)⟩
  ·exact .inl ⟨h.DY _ (by simp [BT,wvB]),d 9 5 (by decide) (by decide) (by decide),d 9 25 (by decide) (by decide) (by decide)⟩
  ·exact .inl ⟨h.DY _ (by simp [BT,wvB]),d 13 5 (by decide) (by decide) (by decide),d 13 25 (by decide) (by decide) (by decide)⟩
  ·exact .inl ⟨h.DY _ (by simp [BT,wvB]),d 17 5 (by decide) (by decide) (by decide),d 17 25 (by decide) (by decide) (by decide)⟩
  ·exact .inl ⟨h.DY _ (by simp [BT,wvB]),d 21 5 (by decide) (by decide) (by decide),d 21 25 (by decide) (by decide) (by decide)⟩
 ·rintro (⟨p,hp⟩|hx|hx)
  ·exact h.X.dj p _ hp m5
  ·exact hx.2.1 rfl
  ·have:β 5=ab:=hx;omega
 ·rintro (⟨p,hp⟩|hx|hx)
  ·exact h.X.dj p _ hp m25
  ·exact hx.2.2 rfl
  ·have:β 25=ab:=hx;omega
theorem EM.recV(Bg:EM n0 pf nf B β S fp FR rt lf pg pin ta tl tc A W)(kk:Kept AB W W1)(D:Out W1 W2 (wvB B β rt lf ta tl tc) (β 25) B.x0 fp (ER FR β ab) rt lf pg pin A B.pl cpu R S' fp' G gt nn la ca pg' cnt hd) :
 RecV W2 (β 23) B.kp S'.AO B.pa B.pl B.pc rt lf ta tl tc A/\rd W2 (β 23) 97=some (.slice B.ia B.il B.ic):=by
 have hc:(S'.AO:Int)=B.x0 1:=by have:=D.X.C.BO.2.1.2.2;rw [D.c] at this;exact this
 have dj:=Bg.dj;refine⟨⟨by have:=D.wa.rd0;exact this,by rw [hc];exact NW D.wa (midB_x0 (i:=1) (by decide)),NW D.wa (MV (i:=0) rfl),NW D.wa (MV (i:=10) rfl),NW D.wa (MV (i:=11) rfl),NW D.wa (MV (i:=12) rfl),?_⟩,NW D.wa (MV (i:=1) rfl)⟩;refine(Bg.row.k kk).kx D.kp fun x hX hx=>?_;obtain⟨h1,h2⟩:=Bg.rowF x hx;rcases hX with⟨_,hX⟩|rfl
 ·refine hX ⟨.inl ⟨h1,fun e=>h2 (by rw [e];simp [BT]),fun e=>h2 (by rw [e];simp [BT])⟩,fun e=>h2 ?_⟩;rcases e with rfl|rfl|rfl|rfl <;> simp [BT,wvB]
 ·exact h2 (by simp [BT])
theorem EM.outlo(Bg:EM n0 pf nf B β S fp FR rt lf pg pin ta tl tc A W)(h1:W.heap.size<=ab){x:Nat}(hx:(Fo fp (ER FR β ab) x/\¬(ER FR β ab x/\¬(wvB B β rt lf ta tl tc).rows x))\/x=β 25):n0<=x:=by
 have hk:=Bg.lo B.kp (.inl ⟨.core,(Bg.X.C.at' .core).2⟩);have hkl:=Bg.X.C.k0;rcases hx with⟨hx,_⟩|rfl
 ·rcases hx with⟨p,hp⟩|hx|rfl
  ·exact Bg.lo x (.inl ⟨p,hp⟩)
  ·exact Bg.lo x (.inr hx.1)
  ·have:B.kp<W.heap.size:=hkl;omega
 ·exact Bg.lo _ (.inr (Bg.DY _ (by simp [BT])))
theorem EM.outhi(Bg:EM n0 pf nf B β S fp FR rt lf pg pin ta tl tc A W){x:Nat}(hx:(Fo fp (ER FR β ab) x/\¬(ER FR β ab x/\¬(wvB B β rt lf ta tl tc).rows x))\/x=β 25):x<W.heap.size\/x=ab:=by
 rcases hx with⟨hx,_⟩|rfl
 ·rcases hx with⟨p,hp⟩|hx|rfl
  ·exact .inl (Bg.X.C.lt p x hp).2
  ·exact .inl (Bg.X.lt x hx.1)
  ·exact .inr rfl
 ·exact .inl (Bg.X.lt _ (Bg.DY _ (by simp [BT])))
theorem fineW(Bg:EM n0 pf nf B β S fp FR rt lf pg pin ta tl tc A W)(kk:Kept AB W W1)(h1:W.heap.size<=ab)(PG:CL W1 B.pa B.pl pf)(hPG:0<B.pl->pb B.pa<n0)(PN:CL W1 B.ia B.il nf)(hPN:0<B.il->pb B.ia<n0)(hpl:B.pl<=32)(hil:B.il<=64)(hrg:∀i,i<B.pl->0<=pf i/\pf i<=31)(TR:GF W1)(ht:tzB<n0)
 (D:Out W1 W2 (wvB B β rt lf ta tl tc) (β 25) B.x0 fp (ER FR β ab) rt lf pg pin A B.pl cpu R S' fp' G gt nn la ca pg' cnt hd) {W3:WD} (k3:Kept AB W2 W3) :
 (Calls prog 15 #[ptr (β 23)] W3 fun e w'=>e=.returned (.bool true)/\Kept AB W3 w')/\(Calls prog 25 #[ptr (β 23)] W3 fun e w'=>e=.returned (.bool true)/\Kept AB W3 w'):=by
 obtain⟨RV,r97⟩:=Bg.recV kk D;have C3:=D.X.C.k k3;have RV3:=RV.k k3;have TR2:=(TR.kx D.kp fun e=>by have:=Bg.outlo h1 e;omega).k k3;have PG2:=(PG.kx D.kp fun hl e=>by have:=Bg.outlo h1 e;have:=hPG hl;omega).k k3;have PN2:=(PN.kx D.kp fun hl e=>by have:=Bg.outlo h1 e;have:=hPN hl;omega).k k3;refine⟨sound_spec TR2 C3 D.cp D.L (by rw [mapQ_same D.no,Bg.sup]) RV3,?_⟩;refine kept_spec C3 D.L RV3.r0 RV3.r96 (k3.rd_some r97 id) RV3.r106 PG2 PN2 hpl hil hrg (fun j hj e=>?_) fun j hi hp=>?_
 ·obtain⟨f,hf⟩:=(Bg.pg1 j).2 hj;have:=(D.no j).1 e;rw [hf] at this
  cases this
 ·exact D.L.pinF j ((Bg.pn j).2 ⟨hp,hi⟩)
end
theorem four_runW{n0:Nat}{W W1:WD}{il ab:Nat}{nf:Nat->Int}{B:BP}{β:Nat->Nat}{S:AL}{fp:Prt->Nat->Prop}{FR:NP}{rt lf:Nat}{pg:Nat->Pg}{pin:Nat->Bool}{ta:OA}{tl tc:Nat}(Bg:EM n0 (fun i=>(i:Int)) nf B β S fp FR rt lf pg pin ta tl tc [] W)(hx:B.x0=DS)(hp:B.pl=2)(kk:Kept AB W W1)(h1:W.heap.size<=ab)(o:own W1 ab [vi 1,vi 0]) :
 Calls prog 12 #[ptr (β 23),vi (0:Nat),.slice (some ⟨ab,0,none⟩) 1 1] W1 fun e w'=>e=.returned (.bool true)/\Kept (fun x=>(Fo fp (ER FR β ab) x/\¬(ER FR β ab x/\¬(wvB B β rt lf ta tl tc).rows x))\/x=β 25) W1 w'/\
  Calls prog 21 #[ptr (β 23),vi (0:Nat),vi (200:Nat)] w' fun e w''=>e=.returned (.bool true)/\∃S' fp' G gt nn la ca pg' cnt hd,Out W1 w'' (wvB B β rt lf ta tl tc) (β 25) B.x0 fp (ER FR β ab) rt lf pg pin [] B.pl 0 (ROne B.x0 pin 0) S' fp' G gt nn la ca pg' cnt hd:=by
 have D:=Bg.rdy kk h1 o.lt;have hs:=D.X.C.BO.2.1;have hmy:=D.X.C.my;have hr:rd W1 ab 0=some (vi 1)/\rd W1 ab (0+1)=some (vi 0):=⟨by rw [o.rd];rfl,by rw [o.rd];rfl⟩;have hP:=prog_one (cpu:=0) (c:=1) (ab:=ab) (ao:=0) (nx:=0) (Z:=⟨rt,lf,pin,[],0,none,B.pl⟩) (FR0:=ER FR β ab) D.X rfl rfl (D.L 0) D.wa rfl (by rw [D.n];omega) (by omega) (nlr _) hr (fun _=>Iff.rfl) (fun x h=>D.rows x (.inr h)) (D.rows _ (.inl rfl));rw [D.c] at hP;refine(drive_spec D (by rw [D.n];omega) hP).mono ?_
 ·rintro e w' ⟨rfl,k',H⟩;refine⟨rfl,k',H 200 ?_ (by decide)⟩;have:(CD B.x0 0).length=1:=by rw [hx];exact(GM four_may 0).2.2.2
  rw [this,hp]
  decide
set_option maxHeartbeats 4000000 in
theorem known_spec{w:WD}(hz:F4 w)(TR:GF w):Calls prog 9 #[] w fun e w'=>e=.returned (.bool true)/\Kept AB w w':=by
 refine(vc9 w (fun v w'=>v=.bool true/\Kept AB w w') ?_).mono ?_
 rotate_left
 ·rintro e w' ⟨v,rfl,rfl,h⟩;exact⟨rfl,h⟩
 unfold vcP9;intro w1 e1;have o1:=AD e1;have k1:=kal e1;have PNa:CL w1 (some ⟨w.heap.size,0,none⟩) 1 (fun _=>0):=⟨fun _=>⟨rfl,o1.lt⟩,fun i hi=>by
  have:i=0:=by omega
  subst this
  show rd w1 w.heap.size (0+0)=_
  rw [o1.rd];rfl⟩
 refine(four_begun (hz.k k1) (ic:=1) PNa (by decide)).mono ?_;rintro _ w2 ⟨a,g,rfl,k2,H1⟩;refine⟨_,_,_,_,_,_,_,_,rfl,H1.mono ?_⟩;rintro _ w3 ⟨v,rfl,k3,B,β,S,fp,FR,rt,lf,pg,pin,ta,tl,tc,A,rfl,Bg,hx,hpl,hil,hia,hlo,rfl,O⟩;refine⟨some ⟨β 23,0,none⟩,true,true,rfl,fun w4 e4=>?_⟩;have o4:=AD e4;have k4:=kal e4;have K02:=k1.tr k2;have K04:=(K02.tr k3).tr k4;have l4:=o4.lt;have PNb:CL w4 (some ⟨w3.heap.size,0,none⟩) 2 (fun i=>(i:Int)):=⟨fun _=>⟨rfl,o4.lt⟩,fun i hi=>by
  show rd w4 w3.heap.size (0+i)=_
  rw [za,o4.rd]
  match i,hi with
  | 0,_=>rfl
  | 1,_=>rfl⟩
 refine(four_begun (hz.k K04) (ic:=2) PNb (by decide)).mono ?_;rintro _ w5 ⟨a',g',rfl,k5,H2⟩;refine⟨_,_,_,_,_,_,_,_,rfl,H2.mono ?_⟩;rintro _ w6 ⟨v,rfl,k6,B2,β2,S2,fp2,FR2,rt2,lf2,pg2,pin2,ta2,tl2,tc2,A2,rfl,Bg2,hx2,hpl2,hil2,hia2,hlo2,rfl,O2⟩;refine⟨some ⟨β2 23,0,none⟩,true,true,rfl,AG rfl fun w7 e7=>?_⟩;have o7:=AD e7;have k7:=kal e7;have k36:=(k4.tr k5).tr k6;have kk:Kept AB w3 w7:=k36.tr k7;have s36:=k36.sz;have s5:=k5.sz;have s6:=k6.sz;have s67:=k7.sz;have s23:=k3.sz;have K27:=k3.tr kk;have T2:=TR.k K02;have htz:=T2.lt;refine(four_runW (il:=0) Bg.w hx hpl kk (by omega) o7).mono ?_;rintro _ w8 ⟨rfl,k8,H3⟩;refine⟨true,rfl,AA rfl (H3.mono ?_)⟩;rintro _ w9 ⟨rfl,S',fp',G,gt,nn,la,ca,pg',cnt,hd,D⟩;have hn:0<B.n:=by have h1:=Bg.L.G.X.C.BO.2.1;rw [Bg.n];omega
 have hn2:0<B2.n:=by have h1:=Bg2.L.G.X.C.BO.2.1;rw [Bg2.n];omega
 have hgot:∃f a cp,hd=some f/\gt 0=.slice a 1 cp:=by
  rcases D.r with⟨h0,_,hmin,hno⟩|h
  ·exfalso;subst h0;rw [hx] at hmin hno;have L':=D.L;rw [hpl] at L';refine four_gets D.X.C (D.c.trans hx) L' (fun e=>?_) ?_ hmin hno
   ·obtain⟨f,hf⟩:=(Bg.pg1 1).2 ⟨1,by omega,rfl⟩;have:=(D.no 1).1 e;rw [hf] at this
    cases this
   ·cases e:pin 1 with
    | false=>rfl
    | true=>
     obtain⟨_,i,_,hi⟩:=(Bg.pn 1).1 e
     cases hi
  ·exact h
 obtain⟨f,a3,cp3,hhd,hg0⟩:=hgot;have fa:=fun {W3:WD} (k3':Kept AB w9 W3)=>fineW Bg.w kk (by omega) (O.pg.k K27) (fun hl=>(O.pg.p hl).2) (O.pn.k K27) (fun hl=>(O.pn.p hl).2) O.lp O.ln O.rg (T2.k K27) htz D k3';refine⟨true,rfl,AF (fun _=>rfl) ⟨_,_,_,(fun _=>D.wa.rdR (j:=0) rfl),AF (fun _=>rfl) (AF (fun _=>DL (by decide) (by show(0:Int)<(B.n:Int);omega)) ⟨a3,1,cp3,(fun _=>by rw [<- hg0];exact(D.wa.rdG (i:=0) hn).1),AA rfl ((fa (Kept.refl AB w9)).1.mono ?_)⟩)⟩⟩;rintro _ w10 ⟨rfl,k10⟩;refine⟨true,rfl,AA rfl ((fa k10).2.mono ?_)⟩;rintro _ w11 ⟨rfl,k11⟩;refine⟨true,rfl,AA rfl fun w12 e12=>?_⟩;have o12:=AD e12;have k12:=kal e12;have k911:=k10.tr k11;have hX:∀x,((Fo fp (ER FR β w6.heap.size) x/\¬(ER FR β w6.heap.size x/\¬(wvB B β rt lf ta tl tc).rows x))\/x=β 25)->x<w3.heap.size\/x=w6.heap.size:=fun x h=>Bg.w.outhi h;have kX:Kept (fun x=>(Fo fp (ER FR β w6.heap.size) x/\¬(ER FR β w6.heap.size x/\¬(wvB B β rt lf ta tl tc).rows x))\/x=β 25) w7 w11:=D.kp.trans k911 fun _ _ e=>e.elim;have kX6:Kept (fun x=>(Fo fp (ER FR β w6.heap.size) x/\¬(ER FR β w6.heap.size x/\¬(wvB B β rt lf ta tl tc).rows x))\/x=β 25) w6 w11:=k7.none.trans kX fun _ _ e=>e;have BgB:=Bg2.w.env kX6 fun x hx hf=>by
  rcases hX x hx with h|h
  ·have:=Bg2.L.G.lo x hf;omega
  ·rcases hf with⟨p,hp⟩|hf
   ·have:=(Bg2.L.G.X.C.lt p x hp).2;omega
   ·have:=Bg2.L.G.X.lt x hf;omega
 have hXlo:∀x,((Fo fp (ER FR β w6.heap.size) x/\¬(ER FR β w6.heap.size x/\¬(wvB B β rt lf ta tl tc).rows x))\/x=β 25)->w2.heap.size<=x:=fun x h=>Bg.w.outlo (by omega) h;have T12:GF w12:=((T2.k K27).kx kX fun e=>by have:=hXlo _ e;omega).k k12;have hpb:0<B2.pl->pb B2.pa<w5.heap.size:=fun hl=>(O2.pg.p hl).2;have hib:pb B2.ia=w3.heap.size:=by rw [hia2];rfl
 have s34:=k4.sz;have PG12:CL w12 B2.pa B2.pl (fun i=>(i:Int)):=((O2.pg.k (k6.tr k7)).kx kX fun hl e=>by
  have h1:=hpb hl;rcases hX _ e with h|h <;> omega).k k12
 have PN12:CL w12 B2.ia B2.il (fun i=>(i:Int)):=((O2.pn.k (k6.tr k7)).kx kX fun hl e=>by
  have h1:=(O2.pn.p hl).2;rcases hX _ e with h|h <;> omega).k k12
 have K5:=K04.tr k5;have hz5:w2.heap.size<=w5.heap.size:=by have:=k4.sz;omega
 refine(four_runW (il:=0) BgB hx2 hpl2 k12 (nlr _) o12).mono ?_;rintro _ w13 ⟨rfl,k13,H4⟩;refine⟨true,rfl,AA rfl (H4.mono ?_)⟩;rintro _ w14 ⟨rfl,S3,fp3,G3,gt3,nn3,la3,ca3,pg3,cnt3,hd3,D2⟩;have hnn:nn3 0=1:=by
  rcases D2.r with⟨_,h,_⟩|⟨f,_,_,h,_⟩
  ·exact h
  ·exfalso;subst h;have L':=D2.L;rw [hpl2] at L';exact four_none D2.X.C (D2.c.trans hx2) L' ((Bg2.pn 0).2 ⟨⟨0,by omega,rfl⟩,0,by omega,rfl⟩) ((Bg2.pn 1).2 ⟨⟨1,by omega,rfl⟩,1,by omega,rfl⟩)
 refine⟨true,rfl,AF (fun _=>rfl) ⟨_,_,_,(fun _=>D2.wa.rdR (j:=1) rfl),AF (fun _=>rfl) (AF (fun _=>DL (by decide) (by show(0:Int)<(B2.n:Int);omega)) ⟨1,(fun _=>by rw [<- hnn];exact(D2.wa.rdN (i:=0) hn2).1),AA rfl ((fineW BgB k12 (nlr _) PG12 hpb PN12 (fun hl=>(O2.pn.p hl).2) O2.lp O2.ln O2.rg T12 (by omega) D2 (Kept.refl AB w14)).1.mono ?_)⟩)⟩⟩;rintro _ w15 ⟨rfl,k15⟩;refine⟨true,rfl,rfl,?_⟩;have e1':Kept AB w w11:=BD ((K02.tr K27)) kX fun x hx=>by have:=hXlo x hx;have:=K02.sz;omega
 have e2':Kept AB w w14:=BD (e1'.tr k12) D2.kp fun x hx=>by have:=BgB.outlo (nlr _) hx;have:=K5.sz;omega
 exact e2'.tr k15

end Go.Proofs.YtdgbechegbmpcaaGreatDoor
namespace Go.Proofs.YtdgbechegbmpcaaGreatDoor
open Go Go.ChangeShapes Go.WideShapes Go.ChangeAt Go.RowKit Go.Eng
section
variable {H:Type}{enc:TypeId×Value->H}
theorem cells_C29:Tryz.prog.cellsOf 29=104:=by kernel_rfl
theorem cells_C26:Tryz.prog.cellsOf 26=94:=by kernel_rfl
theorem cells_C27:Tryz.prog.cellsOf 27=1:=by kernel_rfl
theorem cells_C23:Tryz.prog.cellsOf 23=8:=by kernel_rfl
theorem open_nums{W:WD}{fuel:Nat}{vs:List Value}{x:DataW H×List MemPlace}(h:DataW.trod enc Tryz.prog W 0 (fun _=>true) true fuel 27 vs=some x) :
 ∃a l c f,vs=[.slice a l c]/\CL W a l f:=by
 obtain⟨a,l,c,e,_,_,hp,_,hx⟩:=open_row Tryz.underlying27 h (by rw [EW];decide);have each:∀q,q<l->∃n:Int,rd W (pb a) (po a+q)=some (.int .i64 n):=fun q hq=>by
  obtain⟨cs,n,x,hlen,hcell,htr⟩:=hx q hq;rw [EW] at hcell hlen;obtain⟨n,rfl,_,_⟩:=DataW.trod_int Tryz.underlying3 htr;have:=hcell 0 (by omega);rw [mo,Nat.add_zero] at this;exact⟨n,this⟩
 obtain⟨f,hf⟩:∃f:Nat->Int,∀q,q<l->rd W (pb a) (po a+q)=some (.int .i64 (f q)):=
  ⟨fun q=>if h:q<l then(each q h).choose else 0,fun q hq=>by simp only [hq,dif_pos];exact(each q hq).choose_spec⟩
 exact⟨a,l,c,f,e,fun hl=>⟨hp hl,KO (hf 0 hl)⟩,hf⟩
theorem split4{cs A B C D:List Value}{a b c d:Nat}(hl:cs.length=a+b+c+d)(h0:(cs.drop 0).take a=A)(h1:(cs.drop a).take b=B)(h2:(cs.drop (a+b)).take c=C)(h3:(cs.drop (a+b+c)).take d=D):cs=A++(B++C++D):=by
 subst h0 h1 h2 h3;have e3:(cs.drop (a+b+c)).take d=cs.drop (a+b+c):=List.take_of_length_le (by rw [List.length_drop];omega);rw [e3,List.drop_zero,List.append_assoc];have t:∀n m:Nat,(cs.drop n).take m++cs.drop (n+m)=cs.drop n:=fun n m=>by
  rw [<- List.drop_drop];exact List.take_append_drop m (cs.drop n)
 rw [t (a+b) c,t a b,List.take_append_drop]
theorem open_case{W:WD}{base:Nat}{v:Value}{d:DataW H}{p:List MemPlace}(hv:Value.okWide Tryz.prog W .any base 29 v)(h:DataW.Trod enc Tryz.prog W 0 (fun _=>true) true 29 v d p) :
 ∃(x0:Nat->Int) (pa:OA) (pl pc:Nat) (ia:OA) (il ic:Nat) (x96 pf nf:Nat->Int),v=.agg (AK .i64 x0 0 94++([Value.slice pa pl pc,Value.slice ia il ic]++AK .i64 x96 0 8)).toArray/\CL W pa pl pf/\CL W ia il nf:=by
 obtain⟨cs,rfl,hsz⟩:=okWide_struct Tryz.underlying29 hv;obtain⟨fuel,hf⟩:=h;obtain⟨xs,m,_,_,hl,hxl,hx⟩:=DataW.trod_struct Tryz.underlying29 hf;have hcs:(Value.agg cs).cells=cs:=rfl;rw [hcs,cells_C29] at hl;rw [hcs] at hx;have hxl':xs.length=4:=hxl;have g0:=hx 0 _ rfl;have g1:=hx 1 _ rfl;have g2:=hx 2 _ rfl;have g3:=hx 3 _ rfl;rw [geg (by omega)] at g0 g1 g2 g3;have g0:DataW.trod enc Tryz.prog W 0 (fun _=>true) true m 26 ((cs.toList.drop 0).take (Tryz.prog.cellsOf 26))=_:=g0;have g1:DataW.trod enc Tryz.prog W 0 (fun _=>true) true m 27 ((cs.toList.drop 94).take (Tryz.prog.cellsOf 27))=_:=g1;have g2:DataW.trod enc Tryz.prog W 0 (fun _=>true) true m 27 ((cs.toList.drop 95).take (Tryz.prog.cellsOf 27))=_:=g2;have g3:DataW.trod enc Tryz.prog W 0 (fun _=>true) true m 23 ((cs.toList.drop 96).take (Tryz.prog.cellsOf 23))=_:=g3;rw [cells_C26] at g0;rw [cells_C27] at g1 g2;rw [cells_C23] at g3;obtain⟨i0,l0⟩:=tr31 W _ _ _ g0;obtain⟨i3,l3⟩:=tr28 W _ _ _ g3;rw [cells_C26] at l0;rw [cells_C23] at l3;obtain⟨a1,k1,c1,f1,e1,n1⟩:=open_nums g1;obtain⟨a2,k2,c2,f2,e2,n2⟩:=open_nums g2;have fn:∀{l:List Value}{n:Nat},Ints l->l.length=n->∃f:Nat->Int,l=AK .i64 f 0 n:=fun {l n} hi hn=>by
  refine⟨fun j=>if h:j<l.length then(hi j h).choose else 0,E6 hn fun j hj=>?_⟩;have hj:j<l.length:=by omega
  simp only [hj,dif_pos];exact(hi j hj).choose_spec.1
 obtain⟨x0,h0⟩:=fn i0 l0;obtain⟨x96,h3⟩:=fn i3 l3;refine⟨x0,a1,k1,c1,a2,k2,c2,x96,f1,f2,?_,n1,n2⟩;have e:cs.toList=AK .i64 x0 0 94++([Value.slice a1 k1 c1,Value.slice a2 k2 c2]++AK .i64 x96 0 8):=split4 (a:=94) (b:=1) (c:=1) (d:=8) hl h0 e1 e2 h3
 show Value.agg cs=_
 rw [<- e]
end
def zeroCase:Value:=.agg (Array.replicate 94 (.int .i64 0)++#[.slice none 0 0,.slice none 0 0]++Array.replicate 8 (.int .i64 0))
def zeroCaseD{H:Type}:DataW H:=.agg [zeroCfgD,.nil,.nil,.agg (List.replicate 8 zi)]
end Go.Proofs.YtdgbechegbmpcaaGreatDoor
