/- Part of a proof that a law returns true. Conditions: those in each theorem. -/
import Derived.Test.YtdgbechegbmpcaaGreatDoorQ2
import Derived.Test.YtdgbechegbmpcaaGreatDoorMV3
import Derived.Test.YtdgbechegbmpcaaGreatDoorB0
import Derived.Test.YtdgbechegbmpcaaGreatDoorM7
set_option linter.unusedSimpArgs false
set_option linter.unusedVariables false
set_option maxRecDepth 100000
namespace Go.Proofs.YtdgbechegbmpcaaGreatDoor
open Go Go.Eng Go.Proofs.Tryz
section
variable {k:Nat}
end
structure Bx(w0 w:WD)(l:List (Nat×Value)):Prop where
 k:Kept AB w0 w
 o:∀b v,(b,v)∈l->own w b [v]/\w0.heap.size<=b
theorem Bx.nil(w:WD):Bx w w []:=⟨Kept.refl _ _,fun _ _ h=>by cases h⟩
section
variable {w0 w w1:WD}{l:List (Nat×Value)}
theorem Bx.kk(h:Bx w0 w l)(k:Kept AB w w1):Bx w0 w1 l:=⟨h.k.tr k,fun b v hm=>⟨(h.o b v hm).1.k k,(h.o b v hm).2⟩⟩
theorem Bx.dr(h:Bx w0 w l)(e:w1=w.drew):Bx w0 w1 l:=h.kk (kr.dr e)
theorem Bx.al{v:Value}{t:TypeId}(h:Bx w0 w l)(e:w1=w.alloc (.cells [v].toArray t)):Bx w0 w1 ((w.heap.size,v)::l):=by
 have o1:=AD e;have h2:=h.kk (kr.al e);refine⟨h2.k,fun b u hm=>?_⟩;rcases List.mem_cons.1 hm with e|hm
 ·cases e;exact⟨o1,h.k.sz⟩
 ·exact h2.o b u hm
theorem Bx.al2{v v':Value}{t:TypeId}{w2:WD}(h:Bx w0 w l)(e:w1=w.alloc (.cells [v].toArray t))(e2:w2=st w1 w.heap.size 0 v'):wr w1 w.heap.size 0/\Bx w0 w2 ((w.heap.size,v')::l):=by
 have o1:=AD e;have k1:=kal e;have o2:=o1.s1 e2;have k2:Kept (·=w.heap.size) w1 w2:=e2▸kr.st (.inl rfl);have k12:Kept AB w w2:=BD k1 k2 fun y e=>by omega
 have h2:=h.kk k12;refine⟨o1.wr Nat.zero_lt_one,h2.k,fun b u hm=>?_⟩;rcases List.mem_cons.1 hm with e|hm
 ·cases e;exact⟨o2,h.k.sz⟩
 ·exact h2.o b u hm
theorem Bx.wr0{v:Value}{t:TypeId}(e:w1=w.alloc (.cells [v].toArray t)):wr w1 w.heap.size 0:=(AD e:own w1 w.heap.size [v]).wr Nat.zero_lt_one
theorem Bx.rd(h:Bx w0 w l){b:Nat}{v:Value}(hm:(b,v)∈l):Eng.rd w b 0=some v:=by rw [(h.o b v hm).1.rd];rfl
theorem Bx.rr{FR:NP}{W:WD}(h:Bx w0 w l)(k:Kept (fun x=>¬(FR x\/rng w0 w x)) w W){b:Nat}{v:Value}(hm:(b,v)∈l):Eng.rd W b 0=some v:=by
 obtain⟨o,hb⟩:=h.o b v hm;rw [(o.kx k fun hn=>hn (.inr ⟨hb,o.lt⟩)).rd];rfl
end
theorem _root_.Go.Eng.Kept.oo{F:NP}{w w1 w2:WD}(h:Kept (fun x=>¬F x) w w1)(h2:Kept (fun x=>¬F x) w1 w2):Kept (fun x=>¬F x) w w2:=h.trans h2 fun _ _ e=>e
theorem _root_.Go.Eng.Kept.none{X:NP}{w w1:WD}(h:Kept AB w w1):Kept X w w1:=h.mono fun _ _ e=>e.elim
section
variable {k N:Nat}{Q:Fin}{w w9:WD}{S:AL}{fp:Prt->Nat->Prop}{FR:NP}
theorem IS(X:Ctx k S fp FR w)(K:Kept AB w w9){v:Value}(ht:isF v=true)
 (H:∀W,Ctx k S fp (fun x=>FR x\/rng w w9 x) W->Kept (fun x=>¬(FR x\/rng w w9 x)) w9 W->Ltr w fp FR W fp->AM prog v [.bool false] W (Nx N Q (Fo fp (fun x=>FR x\/rng w w9 x)) W)) :
 Nx (N+1) Q (Fo fp FR) w (.returned v) w9:=by
 have X9:=X.more K;refine⟨v,Fo fp (fun x=>FR x\/rng w w9 x),rfl,GY ht,K.none,fun x hx=>?_,Ends.step ht fun W kW=>?_⟩
 ·rcases hx with h|h|h
  ·exact .inl (.inl h)
  ·exact .inl (.inr h)
  ·exact .inr h
 have k1:Kept (fun x=>¬(FR x\/rng w w9 x)) w9 W:=kW.mono fun y _ hn hf=>hn (.inr hf);exact H W (X9.env (fun _ h=>h) kW) k1 ⟨(K.none).trans (k1.mono fun y _ hn hf=>hn (.inl hf)) fun _ _ h=>h,fun _ _ h=>.inl h⟩
theorem IJ(hC:∀x,Q.C x->FR x)(X:Ctx k S fp FR w)(K:Kept AB w w9){who i:Nat}(hw:who<1000)(hi:i<9+S.nodes)(hz:S.lh i=0)(hr:∀j,i<=j->j<9+S.nodes->S.lh j≠who+1){th:Value}(ht:isF th=true)
 (H:∀W fp',Ctx k (S.DX (upd S.lh i (who+1))) fp' (fun x=>FR x\/rng w w9 x) W->Kept (fun x=>¬(FR x\/rng w w9 x)) w9 W->Ltr w fp FR W fp'->AM prog th [.bool false] W (Nx N Q (Fo fp' (fun x=>FR x\/rng w w9 x)) W)) :
 Calls prog 184 #[ptr S.pl,vi who,vi i,th] w9 fun e w'=>∃v,e=.returned v/\Nx (N+2) Q (Fo fp FR) w (.returned v) w':=by
 have X9:=X.more K;refine(OE (N:=N+1) (Q:=Q) (fun y hy=>.inl (hC y hy)) X9 hw hi hz hr (GY ht) ?_).mono ?_
 rotate_left
 ·intro e w' hN;refine(Nx.pre (F:=Fo fp FR) K.none (fun y hy=>?_) hN).out;rcases hy with h|h|h
  ·exact .inl (.inl h)
  ·exact .inl (.inr h)
  ·exact .inr h
 intro w10 fp10 X10 L10;refine Ends.step ht fun W kW=>?_;have k1:Kept (fun x=>¬(FR x\/rng w w9 x)) w10 W:=kW.mono fun y _ hn hf=>hn (.inr hf);have k2:=Kept.oo L10.kp k1;exact H W fp10 (X10.env (fun _ h=>h) kW) k2 ⟨(K.none).trans (k2.mono fun y _ hn hf=>hn (.inl hf)) fun _ _ h=>h,fun p y hp=>(L10.fp p y hp).imp id fun e=>by have:=K.sz;omega⟩
theorem Mv.out{G:NP}{w2 w':WD}{S2:AL}{fp2:Prt->Nat->Prop}{e:Ending}{M':Nat}(M:Mv k fp G w S2 fp2 w2)(X:Ctx k S fp G w)(hC:∀z,Q.C z->G z)(hG:∀x,FR x->G x)(hM:N<=M')(hN:Nx N Q (Fo fp2 FR) w2 e w'):∃v,e=.returned v/\Nx M' Q (Fo fp G) w (.returned v) w':=
 (Nx.pre (M.kC X hC) (fun y hy=>hy.elim (fun h=>M.F y (.inl h)) fun h=>.inl (.inr (hG y h))) (hN.le hM)).out
theorem own_out{G:NP}{w2 w':WD}{fp2:Prt->Nat->Prop}{e:Ending}{M':Nat}(k1:Kept (fun x=>Fo fp G x/\¬Q.C x) w w2)(hF:∀p x,fp2 p x->Fo fp G x\/rng w w2 x)(hG:∀x,FR x->G x)(hM:N<=M')(hN:Nx N Q (Fo fp2 FR) w2 e w'):∃v,e=.returned v/\Nx M' Q (Fo fp G) w (.returned v) w':=
 (Nx.pre k1 (fun y hy=>hy.elim (fun⟨p,h⟩=>hF p y h) fun h=>.inl (.inr (hG y h))) (hN.le hM)).out
theorem JZ{f0:Nat->Int}{who:Nat}(X:Ctx k S fp FR w){xs:List Nat}{b n:Nat}(hb:own w b (xs.map fun x:Nat=>vi (x:Int)))(hfb:∀p,¬fp p b)(hn:n=xs.length)(hl:xs.length<=100)(hw:who<1000)(nd:xs.Nodup)(hx:∀x∈xs,x<9+S.nodes/\S.lh x=who+1)(h0:unl S.lh xs 0=f0) :
 Calls prog 188 #[ptr k,vi who,.slice (some ⟨b,0,none⟩) n n] w fun e w'=>e=.returned (.tuple #[])/\∃fp',Mv k fp FR w (S.DX f0) fp' w':=by
 refine(J2 X.C hb hfb hn hl hw nd hx).mono ?_;rintro _ w' ⟨rfl,T⟩;rw [h0] at T;exact⟨rfl,X.mv T⟩
end
abbrev AL.setFl(S:AL)(l:List Int):AL:={S with fli:=l}
theorem core_fli{w:WD}{k:Nat}{S:AL}{fp:Prt->Nat->Prop}(h:AJ w k S fp){cpu:Nat}(hc:cpu<S.fli.length):∃a l c,S.vfi=.slice a l c/\isP a=true/\l=S.fli.length/\fp .flight (pb a)/\wr w (pb a) (po a+cpu)/\∀v w',w'=st w (pb a) (po a+cpu) (vi v)->Step w w' k (S.setFl (S.fli.set cpu v)) fp:=by
 have hf:EG S.fli S.vfi (fp .flight) w:=h.at' .flight;obtain⟨a,l,c,hv,R,ho⟩:=hf.ex;obtain⟨x,hx⟩:∃x,S.fli[cpu]? = some x:=⟨_,geg hc⟩;have hp:=(R.rd hx).1;have hb:(Value.slice a l c).ownBlock=some (pb a):=by
  cases a with
  | none=>cases hp
  | some A=>rfl
 refine⟨a,l,c,hv,hp,R.1,ho _ hb,(R.put hc (v:=0) rfl).2.2,fun v w' e=>?_⟩;obtain⟨R',kk,_⟩:=R.put hc e;refine h.FD .flight kk (fun x e=>ho x e) rfl (fun p F w hp hq=>by cases p <;> first|exact hq|exact absurd rfl hp) ⟨⟨_,_,_,hv,R',fun x hx=>.inl (ho x hx)⟩,fun x hx=>?_⟩;rcases hx with hx|hx
 ·exact nll (hf.lt x hx) kk.sz
 ·exact hx.2
theorem AJ.spc{w:WD}{k b i:Nat}{S:AL}{fp:Prt->Nat->Prop}(h:AJ w k S fp)(hb:S.sp i=some b):EX w (fp (.space i)) b (S.root i) (S.pins i):=h.at' (.space i) b hb
end Go.Proofs.YtdgbechegbmpcaaGreatDoor
namespace Go.Proofs.YtdgbechegbmpcaaGreatDoor
open Go Go.Eng Go.Proofs.Tryz
open Go.Value (bool func)
open Option (isNone)
open Go.IntKind (wrap)
theorem vc293(s:OA)(sL sC:Nat)(v0 v1:Int)(w:WD)(K:KV)(h:Q (AW w #[vi v0,vi v1] 263 fun w'=>∃(I:Int->Int->WD->Nat->Prop),(∃(n:Nat),I 0 0 w' n)/\∀(n a:Int) (w':WD) (c:Nat),I n a w' c->Wif (decide (a<(↑sL:Int))) (Dr w' fun b=>∃(x d:Int),(rd b w.heap.size 0=some (.int .i64 x)/\rd b w.heap.size 1=some (.int .i64 d))/\Wp s (Wn a sL (∃(f g:Int),(rd b (pb s) (po s+Int.toNat a*2)=some (.int .i64 f)/\rd b (pb s) (po s+Int.toNat a*2+1)=some (.int .i64 g))/\Wif (x==f&&(d==g&&true)) (K (vi a) b) (Lt c fun m=>I n (wrap .i64 (a+1)) b m)))) (K (vi (-1)) w'))):Ret 293 #[sl s sL sC,Value.agg #[vi v0,vi v1]] w K:=vcA L7 2 [] func293 h
theorem vc168(d:OA)(i:Int)(w:WD)(K:KV)(h:Q (gIf (isP d) (isNone d=false) (∃(x:Bool),(isNone d=false->rd w (pb d) (po d+1)=some (.bool x))/\Wif (isNone d||!x) (K (.tuple #[pt none,vi 1]) w) (gIf (isP d) (decide (i<0)=false) (∃(x:OA) (a b:Nat),(decide (i<0)=false->rd w (pb d) (po d)=some (.slice x a b))/\Wif (decide (i<0)||decide (i>=(↑a:Int))) (K (.tuple #[pt none,vi 2]) w) (Wp d (Rs w d 0 fun x c f=>Wp x (Wn i c (K (.tuple #[pt (some (Addr.mk (pb x) (po x+Int.toNat i*256) none)),vi 0]) w))))))))):Ret 168 #[pt d,vi i] w K:=vcA L2 3 [] func168 h
theorem vc126(t:OA)(w:WD)(K:KV)(h:Q (Wif (isNone t) (K (vi 0) w) (Wp t (Rs w t 0 fun x a b=>K (vi (↑a:Int)) w)))):Ret 126 #[pt t] w K:=vcA L7 2 [] func126 h
end Go.Proofs.YtdgbechegbmpcaaGreatDoor
namespace Go.Proofs.YtdgbechegbmpcaaGreatDoor
open Go Go.Eng Go.Proofs.Tryz
section
variable {w:WD}{s fb n:Nat}{of:Nat->Int×Int}
theorem DH.get(h:DH w s fb n of){i:Nat}(hi:i<n):rd w fb (i*2)=some (vi (of i).1)/\rd w fb (i*2+1)=some (vi (of i).2):=by
 have g:∀j,j<2->rd w fb (i*2+j)=(EP (of i))[j]? := fun j hj=>by
  rw [h.fs.rd];exact EC (s:=2) (f:=fun i=>EP (of i)) (fun _ _=>rfl) hi hj
 exact⟨g 0 (by omega),g 1 (by omega)⟩
theorem oindex_spec(h:DH w s fb n of)(hn:n<=1024)(v0 v1:Int) :
 Calls prog 293 #[.slice (some ⟨fb,0,none⟩) n n,.agg #[vi v0,vi v1]] w fun e w'=>Kept AB w w'/\((∃i:Nat,i<n/\of i=(v0,v1)/\(∀j,j<i->of j≠(v0,v1))/\e=.returned (vi i))\/((∀j,j<n->of j≠(v0,v1))/\e=.returned (vi (-1)))):=by
 refine Calls.ret (vc293 _ n n v0 v1 w _ ?_);unfold Q;intro w1 e1;have o1:=AD e1;have k1:=kal e1;refine⟨fun _ j W N=>∃q:Nat,j=q/\q<=n/\N=n-q/\Kept AB w1 W/\∀i,i<q->of i≠(v0,v1),⟨n,0,rfl,Nat.zero_le _,rfl,Kept.refl _ _,fun i hi=>absurd hi (nlz _)⟩,?_⟩;rintro _ _ w2 _ ⟨q,rfl,hq,rfl,k2,hno⟩;refine AE (fun hc w3 e3=>?_) (fun hc=>?_)
 ·have hql:q<n:=by simp at hc;omega
  have k3:Kept AB w1 w3:=k2.dr e3;have o3:=o1.k k3;have K3:=k1.tr k3;have h3:DH w3 s fb n of:=⟨h.so.k K3,h.fs.k K3,h.ne⟩;obtain⟨g0,g1⟩:=h3.get hql;refine⟨v0,v1,⟨by rw [o3.rd];rfl,by rw [o3.rd];rfl⟩,AA rfl (Wi ⟨(of q).1,(of q).2,⟨?_,?_⟩,AE (fun he=>?_) (fun he=>?_)⟩)⟩
  ·show rd w3 fb (0+_*2)=_
   rw [tnc,za];exact g0
  ·show rd w3 fb (0+_*2+1)=_
   rw [tnc,za];exact g1
  ·refine⟨K3,.inl ⟨q,hql,?_,hno,rfl⟩⟩;simp at he;exact Prod.ext he.1.symm he.2.symm
  ·refine⟨n-(q+1),by omega,q+1,wzz,hql,rfl,k3,fun i hi e=>?_⟩;by_cases h4:i=q
   ·subst h4;rw [e] at he;simp at he
   ·exact hno i (by omega) e
 ·have:q=n:=by simp at hc;omega
  subst this;exact⟨k1.tr k2,.inr ⟨hno,rfl⟩⟩
theorem stake_slot(h:DH w s fb n of)(hn:n<=1024){pid page:Int}(hp:1<=pid/\pid<=8)(hg:0<=page/\page<1024) :
 Calls prog 272 #[ptr s,vi pid,vi page] w fun e w'=>((∀j,j<n->of j≠(0,0))/\e=.returned (.tuple #[vi 0,vi 9])/\Kept AB w w')\/
  (∃i:Nat,i<n/\of i=(0,0)/\(∀j,j<i->of j≠(0,0))/\e=.returned (.tuple #[vi i,vi 0])/\Kept (·=fb) w w'/\DH w' s fb n (upd of i (pid,page))):=by
 refine Calls.ret (vc272 _ pid page w _ ?_);unfold Q;have hs:∀{W:WD},Kept AB w W->rd W s 0=some (.slice (some ⟨fb,0,none⟩) n n):=fun kk=>by rw [(h.so.k kk).rd];rfl
 refine AF (fun _=>rfl) ⟨true,fun _=>by show rd w s (0+1)=_;rw [h.so.rd];rfl,AG rfl (AG (by simp;omega) (AA rfl ⟨_,_,_,hs kr,(oindex_spec h hn 0 0).mono ?_⟩))⟩;rintro _ w1 ⟨k1,⟨i,hi,h1,h2,rfl⟩|⟨h1,rfl⟩⟩
 ·have h3:DH w1 s fb n of:=⟨h.so.k k1,h.fs.k k1,h.ne⟩;have hlen:(CU n fun i=>EP (of i)).length=n*2:=DI (fun _ _=>rfl);have wr':∀j,j<2->wr w1 fb (i*2+j):=fun j hj=>h3.fs.wr (by rw [hlen];omega);refine⟨_,rfl,AG (by simp) (AA rfl ⟨_,_,_,hs k1,AA rfl (Wi ⟨⟨?_,?_⟩,fun w2 e2=>?_⟩)⟩)⟩
  ·show wr w1 fb (0+_*2)
   rw [tnc,za];exact wr' 0 (by omega)
  ·show wr w1 fb (0+_*2+1)
   rw [tnc,za];exact wr' 1 (by omega)
  ·have e2:w2=st (st w1 fb (0+Int.toNat (i:Int)*2) (vi pid)) fb (0+Int.toNat (i:Int)*2+1) (vi page):=e2;rw [tnc,za] at e2;have o2:=h3.fs.s2 (o:=i*2+0) (o':=i*2+1) e2
   rw [EB (s:=2) (fun _ _=>rfl) hi (by omega),EB (s:=2) (fun j hj=>by
    by_cases e:j=i
    ·subst e;rw [upd_same];rfl
    ·rw [AH _ _ e];rfl) hi (by omega),upd_same] at o2
   have ef:(upd (upd (fun i=>EP (of i)) i ((EP (of i)).set 0 (vi pid))) i (((EP (of i)).set 0 (vi pid)).set 1 (vi page)))=fun j=>EP (upd of i (pid,page) j):=by
    funext j;by_cases e:j=i
    ·subst e;rw [upd_same,upd_same];rfl
    ·rw [AH _ _ e,AH _ _ e,AH _ _ e]
   rw [ef] at o2;have k2:Kept (·=fb) w1 w2:=kr.s2 e2 (.inl rfl);exact .inr ⟨i,hi,h1,h2,rfl,(k1.mono fun _ _ e=>e.elim).trans k2 fun _ _ e=>e,⟨h3.so.kx k2 h.ne,o2,h.ne⟩⟩
 ·exact⟨_,rfl,AA (by simp) (.inl ⟨h1,rfl,k1⟩)⟩
end
def NF(f:Nat->Int)(o n:Nat)(g:Nat->Int):Nat->Int:=fun i=>if o<=i/\i<o+n then g (i-o) else f i
theorem own_lay{w w':WD}{b o n N:Nat}{kd:IntKind}{f g:Nat->Int}(h:own w b (AK kd f 0 N))(ho:o+n<=N)(e:w'=F0 w b o (AK kd g 0 n)):own w' b (AK kd (NF f o n g) 0 N)/\Kept (·=b) w w':=by
 subst e;refine⟨?_,IX b _ o w⟩;have:=JW b (AK kd g 0 n) o w _ h;have he:((AK kd g 0 n).zipIdx o |>.foldl (fun c p=>c.set p.2 p.1) (AK kd f 0 N))=AK kd (NF f o n g) 0 N:=by
  refine E6 (by rw [OX,AI]) fun j hj=>?_;rw [HJ _ _ _ _ (by rw [AI,AI];omega),AI];unfold NF;by_cases h1:o<=j/\j<o+n
  ·rw [if_pos h1,if_pos h1,AT _ _ _ _ _ (by omega),za]
  ·rw [if_neg h1,if_neg h1,AT _ _ _ _ _ hj,za]
 rw [he] at this;exact this
section
variable {w:WD}{d db n:Nat}{f:Nat->Int}
theorem dat_spec(h:NV w d db n f){i:Nat}(hi:i<n)(hn:n<=1024):Calls prog 168 #[ptr d,vi i] w fun e w'=>e=.returned (.tuple #[.pointer (some ⟨db,i*256,none⟩),vi 0])/\w'=w:=by
 refine Calls.ret (vc168 _ i w _ ?_);have h0:rd w d 0=some (.slice (some ⟨db,0,none⟩) n n):=by rw [h.so.rd];rfl
 unfold Q;refine AF (fun _=>rfl) ⟨true,fun _=>by show rd w d (0+1)=_;rw [h.so.rd];rfl,AG rfl (AF (fun _=>rfl) ⟨_,_,_,fun _=>h0,AG (by simp;omega) (AA rfl ⟨_,_,_,h0,AA rfl (Wi ⟨?_,rfl⟩)⟩)⟩)⟩
 show Ending.returned (.tuple #[.pointer (some ⟨db,0+Int.toNat (i:Int)*256,none⟩),vi 0])=_
 rw [tnc,za]
theorem dwrite_spec(h:NV w d db n f){i:Nat}(hi:i<n)(hn:n<=1024){b o c:Nat}{g:Nat->Int}(hg:AS w b o (AK .u8 g 0 256)) :
 Calls prog 294 #[ptr d,vi i,.slice (some ⟨b,o,none⟩) 256 c,.bool false] w fun e w'=>e=.returned (vi 0)/\Kept (·=db) w w'/\NV w' d db n (NF f (i*256) 256 g):=by
 refine Calls.ret (vc294 _ i _ 256 c false w _ ?_);unfold Q;refine(dat_spec h hi hn).mono ?_;rintro _ _ ⟨rfl,rfl⟩;refine⟨_,_,rfl,AG rfl (AG rfl (AG rfl (AA rfl (AA rfl ⟨g,hg,AA rfl ⟨?_,fun w' e=>?_⟩⟩))))⟩
 ·exact h.bs.DF _ (by rw [AI,AI];show i*256+256<=_;omega)
 ·obtain⟨o',k'⟩:=own_lay (o:=i*256) (n:=256) h.bs (by omega) e;exact⟨rfl,k',⟨h.so.kx k' h.ne,o',h.ne⟩⟩
end
section
variable {w:WD}{m bb mb n:Nat}{c:Nat->Int}{by':Nat->Int}{mk:Nat->Mark}
theorem bytes_spec(h:BM w m bb mb c n by' mk)(hn:n<=1024){f:Nat}(hf:f<n) :
 Calls prog 295 #[ptr m,vi f] w fun e w'=>e=.returned (.slice (some ⟨bb,f*256,none⟩) 256 256)/\w'=w:=by
 refine Calls.ret (vc295 _ f w _ ?_);have h95:rd w m (0+95)=some (.slice (some ⟨mb,0,none⟩) n n):=by rw [za];exact h.r95
 have h94:rd w m (0+94)=some (.slice (some ⟨bb,0,none⟩) (n*256) (n*256)):=by rw [za];exact h.r94
 unfold Q;refine AF (fun _=>rfl) ⟨_,_,_,fun _=>h95,AG rfl (AF (fun _=>rfl) ⟨_,_,_,fun _=>h95,AG (by simp;omega) (AA rfl ⟨_,_,_,h94,?_⟩)⟩)⟩;rw [wi (x:=(f:Int)+1) (by omega),wi (x:=(f:Int)*256) (by omega),wi (x:=((f:Int)+1)*256) (by omega)];refine AA BI (AA BI ?_);rw [show Int.toNat ((f:Int)*256)=f*256 by omega,show Int.toNat (((f:Int)+1)*256)=f*256+256 by omega,show f*256+256-f*256=256 by omega];have:BJ (some ⟨bb,0,none⟩) (f*256+256) (f*256) 1=some ⟨bb,f*256,none⟩:=by
  unfold BJ;rw [if_neg (by omega),mo]
  show some (Addr.add ⟨bb,0,none⟩ (f*256))=_
  rw [Addr.add_lit,za]
 rw [this];exact⟨rfl,rfl⟩
theorem BM.run(h:BM w m bb mb c n by' mk){f:Nat}(hf:f<n):AS w bb (f*256) (AK .u8 (fun i=>by' (f*256+i)) 0 256):=
 h.bs.run _ fun j hj=>by rw [AT _ _ _ _ _ (by omega),za]
end
section
variable {w w':WD}{k:Nat}{S:AL}{fp:Prt->Nat->Prop}
abbrev AL.setDv(S:AL)(f:Nat->Int):AL:={S with dv:=f}
abbrev AL.setSo(S:AL)(f:Nat->Int×Int):AL:={S with sof:=f}
theorem core_dwrite(h:AJ w k S fp){i f:Nat}(hi:i<S.AP)(hf:f<S.n){bb:Nat}(hb:AS w bb (f*256) (AK .u8 (fun i=>S.by' (f*256+i)) 0 256)) :
 Calls prog 294 #[ptr S.pd,vi i,.slice (some ⟨bb,f*256,none⟩) 256 256,.bool false] w fun e w'=>e=.returned (vi 0)/\Step w w' k (S.setDv (NF S.dv (i*256) 256 fun j=>S.by' (f*256+j))) fp:=by
 obtain⟨db,D,f1,f2⟩:∃db,NV w S.pd db S.AP S.dv/\fp .dev S.pd/\fp .dev db:=h.at' .dev;have hs:=h.BO.2.2.1;refine(dwrite_spec D hi hs hb).mono ?_;rintro e w' ⟨he,kk,D'⟩;exact⟨he,h.FD .dev kk (fun x e=>e▸f2) rfl (fun p F w hp hq=>by cases p <;> first|exact hq|exact absurd rfl hp) ⟨db,D',.inl f1,.inl f2⟩⟩
theorem core_bytes(h:AJ w k S fp){f:Nat}(hf:f<S.n) :
 Calls prog 295 #[ptr S.pm,vi f] w fun e w'=>w'=w/\∃bb,e=.returned (.slice (some ⟨bb,f*256,none⟩) 256 256)/\AS w bb (f*256) (AK .u8 (fun i=>S.by' (f*256+i)) 0 256):=by
 obtain⟨bb,mb,M,_⟩:=h.mem;refine(bytes_spec M h.n4.2.2 hf).mono ?_;rintro e w' ⟨he,hw⟩;exact⟨hw,bb,he,M.run hf⟩
theorem core_slot(h:AJ w k S fp){pid page:Int}(hp:1<=pid/\pid<=8)(hg:0<=page/\page<1024) :
 Calls prog 272 #[ptr S.ps,vi pid,vi page] w fun e w'=>((∀j,j<S.AP->S.sof j≠(0,0))/\e=.returned (.tuple #[vi 0,vi 9])/\Kept AB w w')\/
  (∃i:Nat,i<S.AP/\S.sof i=(0,0)/\e=.returned (.tuple #[vi i,vi 0])/\Step w w' k (S.setSo (upd S.sof i (pid,page))) fp):=by
 obtain⟨fb,D,f1,f2⟩:∃fb,DH w S.ps fb S.AP S.sof/\fp .AP S.ps/\fp .AP fb:=h.at' .AP;have hs:=h.BO.2.2.1;refine(stake_slot D hs hp hg).mono ?_;rintro e w' (h1|⟨i,hi,h1,_,he,kk,D'⟩)
 ·exact .inl h1
 ·exact .inr ⟨i,hi,h1,he,h.FD .AP kk (fun x e=>e▸f2) rfl (fun p F w hp hq=>by cases p <;> first|exact hq|exact absurd rfl hp) ⟨fb,D',.inl f1,.inl f2⟩⟩
end
end Go.Proofs.YtdgbechegbmpcaaGreatDoor
namespace Go.Proofs.YtdgbechegbmpcaaGreatDoor
open Go Go.Eng Go.Proofs.Tryz
open Go.Value (bool func)
open Option (isNone)
open Go.IntKind (wrap)
theorem vc316(k:OA)(pid page:Int)(w:WD)(K:KV)(h:Q (Wif (isNone k) (K (.tuple #[vi 0,vi 1]) w) (Wif (decide (pid<1)||decide (pid>8)) (K (.tuple #[vi 0,vi 7]) w) (Wp k (Wn pid 9 (RP w (pb k) (po k+105+Int.toNat pid*1) fun x=>Wif (isNone x) (K (.tuple #[vi 0,vi 7]) w) (∃(I:OA->Int->WD->Prop),(Dr w fun a=>Wp k (Rp a k 94 fun g=>Wp x (Ri a x 1 fun h=>(Calls prog 16 #[pt g,vi h,vi page] a fun e w'=>∃(n c d:Int),e=rT (.tuple #[Value.agg #[vu n,vi c],vi d])/\AW w' #[vu 0,vi 0] 69 fun f=>(wr f w'.heap.size 0/\wr f w'.heap.size 1)/\St (st f w'.heap.size 0 (vu n)) w'.heap.size 1 (vi c) fun o=>I (aD w'.heap.size) d o)/\AW a #[vu 0,vi 0] 69 fun w'=>Rt w' (pb x) (po x+1) (.int .i64 h)<|Rt w' (pb k) (po k+94) (.pointer g)<|Calls prog 16 #[pt g,vi h,vi page] w' fun e w'=>∃(n c d:Int),e=rT (.tuple #[Value.agg #[vu n,vi c],vi d])/\(wr w' a.heap.size 0/\wr w' a.heap.size 1)/\St (st w' a.heap.size 0 (vu n)) a.heap.size 1 (vi c) fun f=>I (aD a.heap.size) d f)))/\∀(p:OA) (n:Int) (w':WD),I p n w'->Dr w' fun a=>Wp k (Rp a k 98 fun g=>Wp p (Ri a p 1 fun h=>Calls prog 117 #[pt g,vi h] a fun e w'=>∃(c d:Int) (b:Bool),e=rT (.tuple #[vi c,vi d,bool b])/\gIf (isP p) ((n != 0)=false) (∃(j:Int),((n != 0)=false->rd w' (pb p) (po p)=some (.int .u8 j))/\Wif (n != 0||j != 1||!b||c != pid||d != page) (K (.tuple #[vi 0,vi 7]) w') (Dr w' fun a=>Wp k (Rp a k 94 fun r=>Wp x (Ri a x 1 fun s=>CI 100 #[pt r,vi s,vi page,Value.agg #[vu 0,vi 0]] a fun n w'=>Dr w' fun a=>Wp k (Rp a k 98 fun x=>Wp p (Ri a p 1 fun t=>CI 322 #[pt x,vi t] a fun n w'=>Dr w' fun a=>Wp k (Rs a k 100 fun x l u=>Wp p (Ri a p 1 fun y=>Wp p (Ri a p 1 fun i=>CI 18 #[pt k,vi y] a fun n w'=>Rt w' (pb p) (po p+1) (.int .i64 i)<|Rt w' (pb k) (po k+100) (.slice x l u)<|Wp x (Wn n l (Rp w' x (Int.toNat n*1) fun q=>CI 323 #[pt q,vi i] w' fun n w'=>Wp p (Ri w' p 1 fun x=>K (.tuple #[vi x,vi 0]) w'))))))))))))))))))))):Ret 316 #[pt k,vi pid,vi page] w K:=vcA L3 3 [4000006,100600091,100600100] func316 h
end Go.Proofs.YtdgbechegbmpcaaGreatDoor
namespace Go.Proofs.YtdgbechegbmpcaaGreatDoor
open Go Go.Eng Go.Proofs.Tryz
abbrev AL.unmapped(S:AL)(i:Nat)(page:Int)(f j:Nat):AL:=
 (((S.J9 (stS S.by' S.n (S.root 1) page 0 0)).setRm (upd S.rof f (0,0)) (S.rat.filter fun p=>p.1 != S.rof f)).GR i (del (S.ring i) j) ((S.cof i).filter fun p=>p.1 != (f:Int)))
section
variable {w:WD}{k:Nat}{S:AL}{fp:Prt->Nat->Prop}
set_option maxHeartbeats 2000000 in
theorem unmap_spec(h:AJ w k S fp){b:Nat}(hb:S.sp 1=some b)(hby:ByR S.by'){p:Int}{f i j:Nat}(gE:gtE S.by' S.n (S.root 1) p=0)(gK:gtK S.by' S.n (S.root 1) p=1)(gN:gtN S.by' S.n (S.root 1) p=f)(hrof:S.rof f=(1,p))(hfn:f<S.n)
 (hi:i<S.nodes) (h1:AN S.c i<=f) (h2:(f:Int)<AN S.c (i+1)) (ok:FL (S.ring i) (S.cof i)) (hj:DB (S.ring i) (f:Int) j) (h32:(S.ring i).length<=100000) :
 Calls prog 316 #[ptr k,vi 1,vi p] w fun e w'=>e=.returned (.tuple #[vi f,vi 0])/\Step w w' k (S.unmapped i p f j) fp:=by
 refine(vc316 _ 1 p w (fun v w'=>v=(.tuple #[vi f,vi 0])/\Step w w' k (S.unmapped i p f j) fp) ?_).mono ?_
 rotate_left
 ·rintro e w' ⟨v,rfl,rfl,h⟩;exact⟨rfl,h⟩
 have hn:=h.n4;have hs:=h.BO;have esp:∀{W:WD}{S':AL}{fp':Prt->Nat->Prop},AJ W k S' fp'->S'.sp 1=some b->rd W k (0+105+Int.toNat 1*1)=some (ptr b):=fun C e=>by
  have:=C.rt (j:=12) (v:=spV (_)) rfl;rw [e] at this;exact this
 have ert:∀{W:WD}{S':AL}{fp':Prt->Nat->Prop},AJ W k S' fp'->S'.sp 1=some b->rd W b (0+1)=some (vi (S'.root 1)):=fun {W S' fp'} C e=>by
  have SP:EX W (fp' (.space 1)) b (S'.root 1) (S'.pins 1):=C.at' (.space 1) b e;obtain⟨_,_,_,_,a1,_⟩:=SP.ex;rw [a1.rd];rfl
 have e94:∀{W:WD},Kept AB w W->rd W k (0+94)=some (ptr S.pm):=fun kk=>h.rtW kk (j:=0) rfl;unfold Q;refine AG rfl (AG rfl (AA rfl (AA rfl ⟨_,esp h hb,AG rfl ⟨fun pp n W=>∃b1:Nat,pp=some ⟨b1,0,none⟩/\n=gtE S.by' S.n (S.root 1) p/\Kept AB w W/\own W b1 [.int .u8 (gtK S.by' S.n (S.root 1) p),vi (gtN S.by' S.n (S.root 1) p)]/\w.heap.size<=b1,fun w1 e1=>?_,?_⟩⟩)))
 ·have k1:=kdr e1;have hs1:=k1.sz;have C1:=h.k k1;refine AA rfl ⟨_,e94 k1,AA rfl ⟨_,ert C1 hb,(NO C1 hby _ p).mono ?_,fun w2 e2=>?_⟩⟩
  ·rintro _ w2 ⟨rfl,k12⟩;have k2:=k1.tr k12;have hs2:=k2.sz;refine⟨_,_,_,rfl,fun w3 e3=>?_⟩;have o3:=AD e3;have k3:=kal e3;refine⟨wr2 o3,fun w4 e4=>?_⟩;obtain⟨o4,k4⟩:=IY o3 e4;exact⟨_,rfl,rfl,k2.tr (BD k3 k4 fun x e=>by omega),o4,hs2⟩
  ·have o2:=AD e2;have k2:Kept AB w w2:=k1.al e2;have C2:=h.k k2;refine⟨⟨ert C2 hb,trivial⟩,⟨e94 k2,trivial⟩,(NO C2 hby _ p).mono ?_⟩;rintro _ w3 ⟨rfl,k23⟩;have o3:=o2.k k23;refine⟨_,_,_,rfl,wr2 o3,fun w4 e4=>?_⟩;obtain⟨o4,k4⟩:=IY o3 e4;exact⟨_,rfl,rfl,BD (k2.tr k23) k4 fun x e=>by omega,o4,hs1⟩
 rintro _ _ w1 ⟨b1,rfl,rfl,k1,o1,hb1⟩;intro w2 e2;have k2:Kept AB w w2:=k1.dr e2;have o2:=o1.dr e2;have C2:=h.k k2;obtain⟨r0,r1⟩:=rd2 o2;have hkb:∀{W:WD},Kept (fun x=>∃p,fp p x) w2 W->own W b1 [.int .u8 (gtK S.by' S.n (S.root 1) p),vi (gtN S.by' S.n (S.root 1) p)]:=fun kk=>o2.kx kk fun⟨p,hp⟩=>by have:=(h.lt p _ hp).2;omega
 refine AA rfl ⟨_,h.rtW k2 (j:=4) rfl,AA rfl ⟨_,r1,?_⟩⟩;rw [gN];refine(OM C2 hfn).mono ?_;rintro _ w3 ⟨rfl,k3⟩;have K3:=k2.tr k3;have o3:=o2.k k3;refine⟨_,_,_,rfl,AF (fun _=>rfl) ⟨gtK S.by' S.n (S.root 1) p,(fun _=>(rd2 o3).1),AG (by rw [gE,gK,hrof];simp) fun w4 e4=>?_⟩⟩;have K4:Kept AB w w4:=K3.dr e4;have k24:Kept AB w2 w4:=k3.dr e4;have C4:=h.k K4;have S4:=h.JE K4;refine AA rfl ⟨_,e94 K4,AA rfl ⟨_,ert C4 hb,(core_set C4 hby _ p 0 0).mono ?_⟩⟩;rintro _ w5 ⟨rfl,T5⟩;have S5:=S4.tr (fun _ _=>.inl) T5;obtain⟨fp5,C5,f5'⟩:=T5.ex;have f5:∀p x,fp5 p x->fp p x\/rng w w5 x:=fun p x hx=>(f5' p x hx).imp id fun e=>⟨by have:=K4.sz;have:=e.1;omega,e.2⟩;have hb4:b1<w4.heap.size:=(o2.k k24).lt;have nb5:∀p,¬fp5 p b1:=fun p hp=>by
  rcases f5' p _ hp with h9|h9
  ·have:=(h.lt p _ h9).2;omega
  ·have:=h9.1;omega
 have kb5:Kept (fun x=>∃p,fp p x) w2 w5:=(k24.mono fun _ _ e=>e.elim).trans T5.kp fun _ _ e=>e;refine⟨_,rfl,fun w6 e6=>?_⟩;have k56:=kdr e6;have C6:=C5.k k56;have S6:=S5.tr f5 (C5.JE k56);have f6:∀p x,fp5 p x->fp p x\/rng w w6 x:=fun p x hx=>(f5 p x hx).imp id fun e=>⟨e.1,by have:=k56.sz;have:=e.2;omega⟩;have kb6:=kb5.trans (k56.mono fun _ _ e=>e.elim) fun x _ (e:∃p,fp p x)=>e;have o6:=hkb kb6;rw [gN] at o6;refine AA rfl ⟨_,C5.rtW k56 (j:=4) rfl,AA rfl ⟨_,(rd2 o6).2,(core_rclear C6 (i:=f) hfn (by show(S.rof f).1≠0;rw [hrof];exact(by decide:(1:Int)≠0))).mono ?_⟩⟩;rintro _ w7 ⟨rfl,T7⟩;have S7:=S6.tr f6 T7;obtain⟨fp7,C7,f7'⟩:=T7.ex;have s26:=S6.kp.sz;have f7:∀p x,fp7 p x->fp p x\/rng w w7 x:=fun p x hx=>by
  rcases f7' p x hx with h9|h9
  ·exact(f6 p x h9).imp id fun e=>⟨e.1,by have:=T7.kp.sz;have:=e.2;omega⟩
  ·exact .inr ⟨by have:=h9.1;omega,h9.2⟩
 have o7:=o6.kx T7.kp fun⟨p,hp⟩=>nb5 p hp;have hb6:b1<w6.heap.size:=o6.lt;have nb7:∀p,¬fp7 p b1:=fun p hp=>by
  rcases f7' p _ hp with h9|h9
  ·exact nb5 p h9
  ·have:=h9.1;omega
 refine⟨_,rfl,fun w8 e8=>?_⟩;have k78:=kdr e8;have C8:=C7.k k78;have o8:=o7.k k78;obtain⟨g,cp,cb,hvk,_,_,_⟩:=core_clk C8 (i:=i) hi;have r8:∀{W:WD},Kept AB w8 W->rd W k (0+100)=some (.slice (some ⟨g,0,none⟩) S.nodes cp):=fun kk=>by
  have:=C8.rtW kk (j:=6) rfl;rw [hvk] at this;exact this
 refine AA rfl ⟨_,_,_,r8 kr,AA rfl ⟨_,(rd2 o8).2,AA rfl ⟨_,(rd2 o8).2,(KE C8 f (by omega)).mono ?_⟩⟩⟩;rintro _ w9 ⟨k9,⟨i',hi',q1,q2,rfl⟩|⟨q1,_⟩⟩
 rotate_left
 ·exfalso;have q1:(f:Int)<0\/AN S.c S.nodes<=f:=q1;have:=IA h.my (i:=i+1) (j:=S.nodes) (by omega) (nlr _);omega
 have:i'=i:=CH h.my hi' hi q1 q2 h1 h2;subst this;have C9:=C8.k k9;have o9:=o8.k k9;obtain⟨g2,cp2,cb2,hvk2,hrd2,_,hrem⟩:=core_clk C9 (i:=i') hi;have eg:g2=g:=by rw [hvk] at hvk2;cases hvk2;rfl
 subst eg;refine⟨_,rfl,⟨(rd2 o9).2,trivial⟩,⟨r8 k9,trivial⟩,AA rfl (Wi ⟨_,by rw [tnc,mo];show rd w9 g2 (0+i')=_;rw [za];exact hrd2,(hrem ok hj h32).mono ?_⟩)⟩;rintro _ w10 ⟨rfl,T10⟩;have o10:=o9.kx T10.kp fun⟨p,hp⟩=>nb7 p hp;have S9:=S7.tr f7 (C7.JE (k78.tr k9));have f9:∀p x,fp7 p x->fp p x\/rng w w9 x:=fun p x hx=>(f7 p x hx).imp id fun e=>⟨e.1,by have:=(k78.tr k9).sz;have:=e.2;omega⟩;exact⟨_,rfl,AA rfl ⟨_,(rd2 o10).2,rfl,S9.tr f9 T10⟩⟩
end
theorem JQ{w:WD}{k:Nat}{S:AL}{fp:Prt->Nat->Prop}(h:AJ w k S fp){i f:Nat}(hi:i<S.nodes)(h1:AN S.c i<=f)(h2:(f:Int)<AN S.c (i+1)) :
 Calls prog 18 #[ptr k,vi f] w fun e w'=>e=.returned (vi i)/\Kept AB w w':=by
 have hn:=h.n4;have hfi:=h.fst hi;refine(KE h f (by omega)).mono ?_;rintro _ w5 ⟨k5,⟨i',hi',q1,q2,rfl⟩|⟨q1,_⟩⟩
 ·have:i'=i:=CH h.my (f:=(f:Int)) hi' hi q1 q2 h1 h2;subst this;exact⟨rfl,k5⟩
 ·exfalso;have q1:(f:Int)<0\/AN S.c S.nodes<=f:=q1;have:=IA h.my (i:=i+1) (j:=S.nodes) (by omega) (nlr _);omega
theorem stS_r{by':Nat->Int}(h:ByR by')(n:Nat)(root page k N:Int):ByR (stS by' n root page k N):=by
 unfold stS;split
 ·exact wdS_r h _ _ _ _
 ·exact h
structure EvR(S:AL)(cpu i p f j:Nat):Prop where
 lh:S.lh=fun _=>0
 fl:S.fli=List.replicate S.AO (-1)
 cp:cpu<S.AO
 nd:i<S.nodes
 f1:AN S.c i<=f
 f2:(f:Int)<AN S.c (i+1)
 fn:f<S.n
 p32:p<32
 sp:∃b,S.sp 1=some b
 by':ByR S.by'
 rof:S.rof f=(1,(p:Int))
 gE:gtE S.by' S.n (S.root 1) p=0
 gK:gtK S.by' S.n (S.root 1) p=1
 gN:gtN S.by' S.n (S.root 1) p=f
 ck:FL (S.ring i) (S.cof i)
 fj:DB (S.ring i) (f:Int) j
 rl:(S.ring i).length<=1000
 tk:((f:Int)-AN S.c i,(0:Int))∈tk (S.L i)
def lk1(cpu:Nat):Nat->Int:=upd (fun _=>0) 0 ((cpu:Int)+1)
def lk2(cpu l:Nat):Nat->Int:=upd (lk1 cpu) l ((cpu:Int)+1)
theorem unl_a{cpu l:Nat}(h:l≠0):unl (lk2 cpu l) [0,l] 0=fun _=>0:=by
 funext x;unfold unl lk2 lk1;by_cases h1:x=0
 ·simp [h1]
 ·by_cases h2:x=l
  ·simp [h2]
  ·rw [if_neg (by simp [h1,h2]),AH _ _ h2,AH _ _ h1]
theorem unl_b{cpu l:Nat}(h:l≠0):unl (lk2 cpu l) [l] 0=lk1 cpu:=by
 funext x;unfold unl lk2;by_cases h2:x=l
 ·subst h2;rw [if_pos (by simp)];unfold lk1;rw [AH _ _ h]
 ·rw [if_neg (by simp [h2]),AH _ _ h2]
theorem unl_c{cpu:Nat}:unl (lk1 cpu) [0] 0=fun _=>0:=by
 funext x;unfold unl lk1;by_cases h2:x=0
 ·simp [h2]
 ·rw [if_neg (by simp [h2]),AH _ _ h2]
theorem lk1_ne{cpu j:Nat}(h:1<=j):lk1 cpu j=0:=by unfold lk1;rw [AH _ _ (by omega)]
def AL.gs(S:AL)(cpu p f s:Nat)(l:Nat->Int):AL:={S with lh:=l,sof:=upd S.sof s (1,(p:Int)),fli:=S.fli.set cpu (s:Int),dv:=NF S.dv (s*256) 256 fun j=>S.by' (f*256+j)}
def AL.gs0(S:AL)(cpu p s:Nat)(l:Nat->Int):AL:={S with lh:=l,sof:=upd S.sof s (1,(p:Int)),fli:=S.fli.set cpu (s:Int)}
def AL.GD(S:AL)(i p f j s:Nat)(l':List Bk):AL:=
 {S with by':=stS (stS S.by' S.n (S.root 1) p 0 0) S.n (S.root 1) p 2 s,rof:=upd S.rof f (0,0),rat:=S.rat.filter fun q=>q.1 != S.rof f,ring:=upd S.ring i (del (S.ring i) j),cof:=upd S.cof i ((S.cof i).filter fun q=>q.1 != (f:Int)),sof:=upd S.sof s (1,(p:Int)),dv:=NF S.dv (s*256) 256 (fun j=>S.by' (f*256+j)),L:=upd S.L i l',mks:=smS S.mks S.n f CM}
abbrev gc(k cpu f p:Nat)(sl:Int)(th:Value):List Value:=[ptr k,vi cpu,vi f,vi 1,vi p,vi 0,vi sl,th]
theorem fli_back{n cpu:Nat}{s:Int}(h:cpu<n):((List.replicate n (-1:Int)).set cpu s).set cpu (-1)=List.replicate n (-1):=by
 rw [List.set_set];refine List.ext_getElem? fun i=>?_;rw [List.getElem?_set];by_cases e:cpu=i
 ·subst e;simp [h]
 ·rw [if_neg e]
section
variable {k N:Nat}{Q:Fin}{S:AL}{cpu i p f j g:Nat}{th:Value}{FR G:NP}{W:WD}{fp:Prt->Nat->Prop}
theorem gr{W':WD}{b:Nat}{cs:List Value}(og:own W b cs)(hg:G b)(kk:Kept (fun x=>¬G x) W W'){o:Nat}{v:Value}(hv:cs[o]? = some v):rd W' b (0+o)=some v:=by
 rw [za,(og.kx kk fun hn=>hn hg).rd];exact hv
set_option maxHeartbeats 4000000 in
theorem gdone_spec(hC:∀x,Q.C x->FR x)(hFG:∀x,FR x->G x)(E:EvR S cpu i p f j){s:Nat}(ht:okF th=true)(X:Ctx k (S.gs cpu p f s (lk2 cpu (9+i))) fp G W)(hg:G g)(og:own W g (gc k cpu f p s th))
 (H:∀l',HY (S.L i) ((f:Int)-AN S.c i) 0 0 l'->∀w2 fp2,Ctx k (S.GD i p f j s l') fp2 FR w2->Ltr W fp FR w2 fp2->AM prog th [.bool true] w2 (Nx N Q (Fo fp2 FR) w2)) :
 AM prog (.func (.func 297) #[ptr g] #[]) [.bool false] W (Nx N Q (Fo fp G) W):=by
 have hCG:∀x,Q.C x->G x:=fun x h=>hFG x (hC x h);have hsz:=X.C.BO;have hfi:=X.C.fst E.nd;have hn:=X.C.n4;have my:CW S.c:=X.C.my;have hnd:S.nodes<=8:=hsz.1.2.1;have hnd2:=E.nd;have hcp16:S.AO<=16:=hsz.2.1.2.1;have hcp2:=E.cp;have hf1:f<1024:=nll E.fn hn.2.2;obtain⟨b,hb⟩:=E.sp;refine AM.mk 297 #[ptr g] #[] rfl (by kernel_rfl) ?_;refine Calls.ret (vc297 (some ⟨g,0,none⟩) false W _ ?_);have R:∀{W':WD}{o:Nat}{v:Value},Kept (fun x=>¬G x) W W'->(gc k cpu f p s th)[o]? = some v->rd W' g (0+o)=some v:=fun kk hv=>gr og hg kk hv;apply qI;intro w1 e1;have M1:=X.mv0 (kr.dr e1);have m1:=M1.L.kp;refine AA rfl ⟨_,R (o:=0) m1 rfl,AA rfl ⟨1,R (o:=3) m1 rfl,AA rfl ⟨p,R (o:=4) m1 rfl,(unmap_spec M1.X.C hb E.by' E.gE E.gK E.gN E.rof E.fn E.nd E.f1 E.f2 E.ck E.fj (Nat.le_trans (show(S.ring i).length<=1000 from E.rl) (by decide))).mono ?_⟩⟩⟩;rintro _ w2 ⟨rfl,T2⟩;obtain⟨fp2,M12⟩:=M1.X.mv T2;have M2:=M1.tr M12;refine⟨_,_,rfl,fun w3 e3=>?_⟩;have M3:=M2.tr (M2.X.mv0 (kr.dr e3));have m3:=M3.L.kp;have sp3:=M3.X.C.spc (i:=1) hb;obtain⟨ab,pb',wb,mb,a1,_⟩:=sp3.ex;have esp:rd w3 k (0+105+Int.toNat 1*1)=some (ptr b):=by
  have:=M3.X.C.rt (j:=12) (v:=spV (S.sp 1)) rfl;rw [hb] at this;exact this
 refine AA rfl ⟨_,R (o:=0) m3 rfl,AA rfl ⟨_,by have:=M3.X.C.rtW kr (j:=0) rfl;exact this,AA rfl ⟨_,R (o:=0) m3 rfl,AA rfl ⟨1,R (o:=3) m3 rfl,AA rfl (AA (by decide) ⟨_,esp,AA rfl ⟨_,by show rd w3 b (0+1)=_;rw [a1.rd];rfl,AA rfl ⟨p,R (o:=4) m3 rfl,AA rfl ⟨s,R (o:=6) m3 rfl,(core_set M3.X.C (stS_r E.by' _ _ _ _ _) _ p 2 s).mono ?_⟩⟩⟩⟩)⟩⟩⟩⟩;rintro _ w4 ⟨rfl,T4⟩;obtain⟨fp4,M34⟩:=M3.X.mv T4;have M4:=M3.tr M34;have m4:=M4.L.kp;refine⟨_,rfl,⟨R (o:=3) m4 rfl,trivial⟩,⟨R (o:=0) m4 rfl,trivial⟩,fun w5 e5=>?_⟩;have M5:=M4.tr (M4.X.mv0 (kr.dr e5));have m5:=M5.L.kp;have hfl5:(S.fli.set cpu (s:Int)).length=S.AO:=by rw [List.length_set,E.fl];simp
 obtain⟨fa,fl,fc,hvf,hpf,hll,hfp,hwf,hst⟩:=core_fli M5.X.C (cpu:=cpu) (by show cpu<(S.fli.set cpu (s:Int)).length;rw [hfl5];exact E.cp);have hll:fl=S.AO:=hll.trans hfl5;have rf:rd w5 k (0+116)=some (.slice fa fl fc):=by
  have:=M5.X.C.rtW kr (j:=22) rfl;rw [<- hvf];exact this
 refine AA rfl ⟨_,R (o:=0) m5 rfl,AA rfl ⟨fa,fl,fc,rf,AA rfl ⟨cpu,R (o:=1) m5 rfl,AA hpf (AA (DL (by omega) (by have:=E.cp;omega)) ⟨by rw [tnc,mo];exact hwf,fun w6 e6=>?_⟩)⟩⟩⟩;rw [tnc,mo] at e6;obtain⟨fp6,M56⟩:=M5.X.mv (hst (-1) w6 e6);have M6:=M5.tr M56;intro w7 e7;have M7:=M6.tr (M6.X.mv0 (kr.dr e7));have m7:=M7.L.kp;refine AA rfl ⟨_,R (o:=0) m7 rfl,AA rfl ⟨f,R (o:=2) m7 rfl,(MP M7.X.C (fr:=f) (by omega)).mono ?_⟩⟩;rintro _ w8 (⟨i2',l',hi2,q3,q4,rfl,GG,T8⟩|⟨i2',hi2,q3,q4,rfl,hno,_⟩|⟨q3,_⟩)
 rotate_left
 ·exfalso;have:i2'=i:=CH my (f:=(f:Int)) hi2 E.nd q3 q4 E.f1 E.f2;subst this;exact hno E.tk
 ·exfalso;have q3:(f:Int)<0\/AN S.c S.nodes<=f:=q3;have:=IA my (i:=i+1) (j:=S.nodes) (by have:=E.nd;omega) (nlr _);have:=E.f1;have:=E.f2;omega
 have:i2'=i:=CH my (f:=(f:Int)) hi2 E.nd q3 q4 E.f1 E.f2;subst this;obtain⟨fp8,M78⟩:=M7.X.mv T8;have M8:=M7.tr M78;refine⟨_,rfl,fun w9 e9=>?_⟩;have M9:=M8.tr (M8.X.mv0 (kr.dr e9));have m9:=M9.L.kp;refine AA rfl ⟨_,R (o:=0) m9 rfl,AA rfl ⟨cpu,R (o:=1) m9 rfl,AA rfl ⟨0,R (o:=5) m9 rfl,AA rfl ⟨_,R (o:=0) m9 rfl,AA rfl ⟨f,R (o:=2) m9 rfl,(JQ M9.X.C E.nd E.f1 E.f2).mono ?_⟩⟩⟩⟩⟩;rintro _ w10 ⟨rfl,k10⟩;have M10:=M9.tr (M9.X.mv0 k10);have m10:=M10.L.kp;refine⟨_,rfl,⟨R (o:=5) m10 rfl,trivial⟩,⟨R (o:=1) m10 rfl,trivial⟩,⟨R (o:=0) m10 rfl,trivial⟩,fun w11 e11=>?_⟩;have o11:=AD e11;rw [wi (by omega)] at o11;have M11:=M10.tr (M10.X.mv0 (kr.al e11));have m11:=M11.L.kp;have nb:∀q,¬fp8 q w10.heap.size:=fun q hq=>by have:=(M10.X.C.lt q _ hq).2;omega
 refine⟨⟨R (o:=1) m11 rfl,trivial⟩,⟨R (o:=0) m11 rfl,trivial⟩,(JZ M11.X (xs:=[0,9+i2']) (who:=cpu) (n:=2) o11 nb rfl (by simp) (by omega) (by simp;omega) (fun x hx=>?_) (f0:=fun _=>0) (unl_a (by omega))).mono ?_⟩
 ·simp at hx;rcases hx with rfl|rfl
  ·exact⟨by show 0<9+S.nodes;omega,by show lk2 cpu (9+i2') 0=_;unfold lk2;rw [AH _ _ (by omega)];rfl⟩
  ·exact⟨by have:=E.nd;show 9+i2'<9+S.nodes;omega,by show lk2 cpu (9+i2') (9+i2')=_;unfold lk2;rw [upd_same]⟩
 rintro _ w12 ⟨rfl,fp12,M1112⟩;have M12':=M11.tr M1112;have m12:=M12'.L.kp;refine⟨rfl,AA rfl ⟨th,R (o:=7) m12 rfl,AQ (H l' GG w12 fp12 ?_ (M12'.L.less hFG)) fun e w' hN=>M12'.out X hCG hFG (nlr _) hN⟩⟩;have X12:=M12'.X.less hFG;have e:∀S':AL,S'=S.GD i2' p f j s l'->Ctx k S' fp12 FR w12->Ctx k (S.GD i2' p f j s l') fp12 FR w12:=fun _ e h=>e▸h;refine e _ ?_ X12;have h1:S.lh=fun _=>0:=E.lh;have h2:S.fli=List.replicate S.AO (-1):=E.fl;have h3:(S.fli.set cpu (s:Int)).set cpu (-1)=S.fli:=by rw [h2];exact fli_back E.cp
 show AL.mk _ _ _ _ _ _ _ _ _ _ _ _ _ _ _ _ _ _ _ _ _ _ _ _ _ _ _ _ ((S.fli.set cpu (s:Int)).set cpu (-1)) _ _=AL.mk _ _ _ _ _ _ _ _ _ _ _ _ _ _ _ _ _ _ _ _ _ _ _ _ _ _ _ _ _ _ _
 rw [h3];congr 1;exact h1.symm
set_option maxHeartbeats 4000000 in
theorem gwrite_spec(hC:∀x,Q.C x->FR x)(hFG:∀x,FR x->G x)(E:EvR S cpu i p f j){s:Nat}(hs:s<S.AP)(ht:okF th=true)(X:Ctx k (S.gs0 cpu p s (lk1 cpu)) fp G W)(hg:G g)(og:own W g (gc k cpu f p s th))
 (H:∀l',HY (S.L i) ((f:Int)-AN S.c i) 0 0 l'->∀w2 fp2,Ctx k (S.GD i p f j s l') fp2 FR w2->Ltr W fp FR w2 fp2->AM prog th [.bool true] w2 (Nx N Q (Fo fp2 FR) w2)) :
 AM prog (.func (.func 273) #[ptr g] #[]) [.bool false] W (Nx (N+2) Q (Fo fp G) W):=by
 have hCG:∀x,Q.C x->G x:=fun x h=>hFG x (hC x h);have hsz:=X.C.BO;have hsz':S.AO<=16/\S.nodes<=8:=⟨hsz.2.1.2.1,hsz.1.2.1⟩;have hcp:=E.cp;have hnd:=E.nd;refine AM.mk 273 #[ptr g] #[] rfl (by kernel_rfl) ?_;refine Calls.ret (vc273 (some ⟨g,0,none⟩) false W _ ?_);have R:∀{W':WD}{o:Nat}{v:Value},Kept (fun x=>¬G x) W W'->(gc k cpu f p s th)[o]? = some v->rd W' g (0+o)=some v:=fun kk hv=>gr og hg kk hv;apply qI;intro w1 e1;have M1:=X.mv0 (kr.dr e1);have m1:=M1.L.kp;have rt:∀{W':WD}{S':AL}{fp':Prt->Nat->Prop}{j:Nat}{v:Value},AJ W' k S' fp'->(IQ S')[j]? = some v->rd W' k (0+(94+j))=some v:=fun C hj=>C.rtW kr hj;refine AA rfl ⟨_,R (o:=0) m1 rfl,AA rfl ⟨_,by have:=rt M1.X.C (j:=2) rfl;exact this,AA rfl ⟨s,R (o:=6) m1 rfl,AA rfl ⟨_,R (o:=0) m1 rfl,AA rfl ⟨_,by have:=rt M1.X.C (j:=0) rfl;exact this,AA rfl ⟨f,R (o:=2) m1 rfl,(core_bytes M1.X.C E.fn).mono ?_⟩⟩⟩⟩⟩⟩;rintro _ w2 ⟨hw2,bb,rfl,hrd⟩;rw [hw2];refine⟨_,_,_,rfl,⟨R (o:=6) m1 rfl,trivial⟩,⟨by have:=rt M1.X.C (j:=2) rfl;exact this,trivial⟩,⟨R (o:=0) m1 rfl,trivial⟩,(core_dwrite M1.X.C hs E.fn hrd).mono ?_⟩;rintro _ w3 ⟨rfl,T3⟩;obtain⟨fp3,M13⟩:=M1.X.mv T3;have M3:=M1.tr M13;refine⟨_,rfl,AG rfl fun w4 e4=>?_⟩;have M4:=M3.tr (M3.X.mv0 (kr.dr e4));have m4:=M4.L.kp;refine AA rfl ⟨_,R (o:=0) m4 rfl,AA rfl ⟨_,by have:=rt M4.X.C (j:=3) rfl;exact this,AA rfl ⟨cpu,R (o:=1) m4 rfl,AA rfl ⟨_,R (o:=0) m4 rfl,AA rfl ⟨f,R (o:=2) m4 rfl,(JQ M4.X.C E.nd E.f1 E.f2).mono ?_⟩⟩⟩⟩⟩;rintro _ w5 ⟨rfl,k5⟩;have M5:=M4.tr (M4.X.mv0 k5);have m5:=M5.L.kp;have e9:IntKind.wrap .i64 (9+((i:Nat):Int))=((9+i:Nat):Int):=by rw [wi (by omega)];omega
 refine⟨_,rfl,⟨R (o:=1) m5 rfl,trivial⟩,⟨by have:=rt M5.X.C (j:=3) rfl;exact this,trivial⟩,⟨R (o:=0) m5 rfl,trivial⟩,?_⟩;rw [e9];refine(IJ (N:=N) (Q:=Q) hCG M5.X (Kept.refl AB w5) (who:=cpu) (i:=9+i) (by omega) (by show 9+i<9+S.nodes;omega) (lk1_ne (by omega)) (fun x hx _=>by show lk1 cpu x≠_;rw [lk1_ne (by omega)];omega) rfl fun W2 fp2 X2 k2 L2=>?_).mono ?_
 ·have og2:own W2 g (gc k cpu f p s th):=(og.kx m5 fun hn=>hn hg).kx k2 fun hn=>hn (.inl hg);exact gdone_spec (N:=N) hC (fun x hx=>.inl (hFG x hx)) E ht X2 (.inl hg) og2 fun l' GG w2 fp2 X3 L3=>H l' GG w2 fp2 X3 (((M5.L.less hFG).trans (L2.less hFG)).trans L3)
 ·rintro e w' ⟨v,rfl,hN⟩;obtain⟨v',hv,hN'⟩:=M5.out X hCG (fun _ h=>h) (nlr _) hN;exact⟨v',hv,hN'⟩
set_option maxHeartbeats 4000000 in
theorem greserve_spec(hC:∀x,Q.C x->FR x)(hFG:∀x,FR x->G x)(E:EvR S cpu i p f j)(ht:okF th=true)(X:Ctx k (S.DX (lk2 cpu 8)) fp G W)(hg:G g)(hgF:¬FR g)(og:own W g (gc k cpu f p 0 th))
 (H0:(∀s,s<S.AP->S.sof s≠(0,0))->∀w2 fp2,Ctx k S fp2 FR w2->Ltr W fp FR w2 fp2->AM prog th [.bool false] w2 (Nx N Q (Fo fp2 FR) w2))
 (H1:∀s l',s<S.AP->S.sof s=(0,0)->HY (S.L i) ((f:Int)-AN S.c i) 0 0 l'->∀w2 fp2,Ctx k (S.GD i p f j s l') fp2 FR w2->Ltr W fp FR w2 fp2->AM prog th [.bool true] w2 (Nx N Q (Fo fp2 FR) w2)) :
 AM prog (.func (.func 239) #[ptr g] #[]) [.bool false] W (Nx (N+3) Q (Fo fp G) W):=by
 have hCG:∀x,Q.C x->G x:=fun x h=>hFG x (hC x h);have hsz:=X.C.BO;have hsz':S.AO<=16/\S.nodes<=8/\S.AP<=1024:=⟨hsz.2.1.2.1,hsz.1.2.1,hsz.2.2.1⟩;have hcp:=E.cp;have hp32:=E.p32;refine AM.mk 239 #[ptr g] #[] rfl (by kernel_rfl) ?_;refine Calls.ret (vc239 (some ⟨g,0,none⟩) false W _ ?_);have R:∀{W':WD}{o:Nat}{v:Value},Kept (fun x=>¬G x) W W'->(gc k cpu f p 0 th)[o]? = some v->rd W' g (0+o)=some v:=fun kk hv=>gr og hg kk hv;have rt:∀{W':WD}{S':AL}{fp':Prt->Nat->Prop}{j:Nat}{v:Value},AJ W' k S' fp'->(IQ S')[j]? = some v->rd W' k (0+(94+j))=some v:=fun C hj=>C.rtW kr hj;apply qI;intro w1 e1;have M1:=X.mv0 (kr.dr e1);have m1:=M1.L.kp;refine AA rfl ⟨_,R (o:=0) m1 rfl,AA rfl ⟨_,by have:=rt M1.X.C (j:=5) rfl;exact this,AA rfl ⟨1,R (o:=3) m1 rfl,AA rfl ⟨p,R (o:=4) m1 rfl,(core_slot M1.X.C (pid:=1) (page:=p) (by decide) (by omega)).mono ?_⟩⟩⟩⟩;rintro _ w2 (⟨hno,rfl,k2⟩|⟨s,hs,hs0,rfl,T2⟩)
 ·have M2:=M1.tr (M1.X.mv0 k2);refine⟨_,_,rfl,AA rfl fun w3 e3=>?_⟩;have M3:=M2.tr (M2.X.mv0 (kr.dr e3));have m3:=M3.L.kp;refine AA rfl ⟨_,R (o:=0) m3 rfl,AA rfl ⟨cpu,R (o:=1) m3 rfl,AA rfl ⟨0,R (o:=5) m3 rfl,fun w4 e4=>?_⟩⟩⟩;have o4:=AD e4;have M4:=M3.tr (M3.X.mv0 (kr.al e4));have m4:=M4.L.kp;have nb:∀q,¬fp q w3.heap.size:=fun q hq=>by have:=(M3.X.C.lt q _ hq).2;omega
  refine⟨⟨R (o:=1) m4 rfl,trivial⟩,⟨R (o:=0) m4 rfl,trivial⟩,(JZ M4.X (xs:=[0,8]) (who:=cpu) (n:=2) o4 nb rfl (by simp) (by omega) (by simp) (fun x hx=>?_) (f0:=fun _=>0) (unl_a (by omega))).mono ?_⟩
  ·simp at hx;rcases hx with rfl|rfl
   ·exact⟨by show 0<9+S.nodes;omega,rfl⟩
   ·exact⟨by show 8<9+S.nodes;omega,rfl⟩
  rintro _ w5 ⟨rfl,fp5,M45⟩;have M5:=M4.tr M45;have m5:=M5.L.kp;have X5:Ctx k {S with lh:=fun _=>0} fp5 FR w5:=M5.X.less hFG;have e0:({S with lh:=fun _=>0}:AL)=S:=by
   have h1:=E.lh
   cases S
   simp only at h1;subst h1;rfl
  rw [e0] at X5;refine⟨rfl,AA rfl ⟨th,R (o:=7) m5 rfl,AQ (H0 hno w5 fp5 X5 (M5.L.less hFG)) fun e w' hN=>M5.out X hCG hFG (by omega) hN⟩⟩
 ·obtain⟨fp2,M12⟩:=M1.X.mv T2;have M2:=M1.tr M12;refine⟨_,_,rfl,AG rfl fun w3 e3=>?_⟩;have M3:=M2.tr (M2.X.mv0 (kr.dr e3));have m3:=M3.L.kp;have hfl3:S.fli.length=S.AO:=by rw [E.fl];simp
  have og3:own w3 g (gc k cpu f p 0 th):=og.kx m3 fun hn=>hn hg;obtain⟨fa,fl,fc,hvf,hpf,hll,_⟩:=core_fli M3.X.C (cpu:=cpu) (by show cpu<S.fli.length;omega);have hll:fl=S.AO:=hll.trans hfl3;have rf:rd w3 k (0+116)=some (.slice fa fl fc):=by
   have:=rt M3.X.C (j:=22) rfl;rw [<- hvf];exact this
  refine AA rfl ⟨_,R (o:=0) m3 rfl,AA rfl ⟨fa,fl,fc,rf,AA rfl ⟨cpu,R (o:=1) m3 rfl,AA rfl ⟨og3.wr (by show 6<8;decide),fun w4 e4=>?_⟩⟩⟩⟩;have k4:Kept (·=g) w3 w4:=kr.s1 e4 (.inl rfl);have og4:own w4 g (gc k cpu f p s th):=og3.s1 e4;have X4:Ctx k _ fp2 G w4:=⟨M3.X.C.kx k4 fun x q e hq=>M3.X.dj q x hq (e▸hg),fun x hx=>nll (M3.X.lt x hx) k4.sz,M3.X.dj⟩;have R4:∀{W':WD}{o:Nat}{v:Value},Kept (fun x=>¬G x) w4 W'->(gc k cpu f p s th)[o]? = some v->rd W' g (0+o)=some v:=fun kk hv=>gr og4 hg kk hv;obtain⟨fa2,fl2,fc2,hvf2,_,_,hfp,hwf,hst⟩:=core_fli X4.C (cpu:=cpu) (by show cpu<S.fli.length;omega);have efa:fa2=fa:=by
   have:S.vfi=.slice fa2 fl2 fc2:=hvf2;have h2:S.vfi=.slice fa fl fc:=hvf;rw [h2] at this;cases this;rfl
  subst efa;refine AA hpf (Wi ⟨by rw [tnc,mo];exact hwf,fun w5 e5=>?_⟩);rw [tnc,mo] at e5;obtain⟨fp5,M45⟩:=X4.mv (hst s w5 e5);intro w6 e6;have M6:=M45.tr (M45.X.mv0 (kr.dr e6));have m6:=M6.L.kp;refine AA rfl ⟨_,R4 (o:=0) m6 rfl,AA rfl ⟨cpu,R4 (o:=1) m6 rfl,fun w7 e7=>?_⟩⟩;have o7:=AD e7;have M7:=M6.tr (M6.X.mv0 (kr.al e7));have m7:=M7.L.kp;have nb:∀q,¬fp5 q w6.heap.size:=fun q hq=>by have:=(M6.X.C.lt q _ hq).2;omega
  refine⟨⟨R4 (o:=1) m7 rfl,trivial⟩,⟨R4 (o:=0) m7 rfl,trivial⟩,(JZ M7.X (xs:=[8]) (who:=cpu) (n:=1) o7 nb rfl (by simp) (by omega) (by simp) (fun x hx=>?_) (f0:=lk1 cpu) (unl_b (by omega))).mono ?_⟩
  ·simp at hx;subst hx;exact⟨by show 8<9+S.nodes;omega,rfl⟩
  rintro _ w8 ⟨rfl,fp8,M78⟩;have M8:=M7.tr M78;have m8:=M8.L.kp;have X8:Ctx k (S.gs0 cpu p s (lk1 cpu)) fp8 G w8:=M8.X;have L3:=M3.L.less hFG;have L8:Ltr w4 fp2 FR w8 fp8:=M8.L.less hFG;have L4:Ltr W fp FR w8 fp8:=⟨(L3.kp.trans (k4.mono fun x _ e hx=>hgF (e▸hx)) fun _ _ h=>h).trans L8.kp fun _ _ h=>h,fun q x hq=>by
   rcases L8.fp q x hq with h|h
   ·exact L3.fp q x h
   ·exact .inr (by have:=m3.sz;have:=k4.sz;omega)⟩
  refine⟨rfl,?_⟩;have hN:Nx (N+2+1) Q (Fo fp8 G) w8 (.returned (.func (.func 273) #[ptr g] #[])) w8:=by
   refine IS X8 kr rfl fun W2 X2 k2 L2=>?_;have og2:own W2 g (gc k cpu f p s th):=(og4.kx m8 fun hn=>hn hg).kx k2 fun hn=>hn (.inl hg);exact gwrite_spec (N:=N) hC (fun x hx=>.inl (hFG x hx)) E hs ht X2 (.inl hg) og2 fun l' GG w2 fp2 X3 L3=>H1 s l' hs hs0 GG w2 fp2 X3 ((L4.trans (L2.less hFG)).trans L3)
  have K3:=M3.kC X hCG;have K8:=M8.kC X4 hCG;have s3:=K3.sz;have s4:=k4.sz;have fo3:∀q x,fp2 q x->Fo fp G x\/rng W w3 x:=fun q x hq=>M3.F x (.inl ⟨q,hq⟩);obtain⟨v,hv,hN'⟩:=own_out (FR:=G) (G:=G) (fp:=fp) (Q:=Q) (w:=W) (w2:=w8) ((K3.trans (k4.mono (Y:=fun x=>Fo fp G x/\¬Q.C x) fun x _ e=>e▸⟨.inr hg,fun hc=>hgF (hC g hc)⟩) fun _ _ h=>h).trans K8 fun x hx h=>by
   rcases h.1 with⟨q,hq⟩|hq
   ·rcases fo3 q x hq with h3|h3
    ·exact⟨h3,h.2⟩
    ·have:=h3.1;omega
   ·exact⟨.inr hq,h.2⟩) (fun q x hq=>by
   rcases M8.F x (.inl ⟨q,hq⟩) with h3|h3
   ·rcases h3 with⟨q',h3⟩|h3
    ·rcases fo3 q' x h3 with h5|h5
     ·exact .inl h5
     ·exact .inr ⟨h5.1,by have:=h5.2;have:=M8.K.sz;omega⟩
    ·exact .inl (.inr h3)
   ·exact .inr ⟨by have:=h3.1;omega,h3.2⟩) (fun _ h=>h) (nlr _) hN
  cases hv
  exact hN'
end
end Go.Proofs.YtdgbechegbmpcaaGreatDoor
