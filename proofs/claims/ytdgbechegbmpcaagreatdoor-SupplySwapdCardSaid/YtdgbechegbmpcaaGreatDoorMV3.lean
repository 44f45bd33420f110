/- Part of a proof that a law returns true. Conditions: those in each theorem. -/
import Derived.Test.YtdgbechegbmpcaaGreatDoorB0
import Derived.Test.YtdgbechegbmpcaaGreatDoorBS5
import Derived.Test.YtdgbechegbmpcaaGreatDoorX5
import Derived.Test.YtdgbechegbmpcaaGreatDoorXV4
set_option linter.unusedVariables false
set_option linter.unusedSimpArgs false
set_option maxRecDepth 100000
namespace Go.Proofs.YtdgbechegbmpcaaGreatDoor
open Go Go.Eng Go.Proofs.Tryz
open Go.Value (bool func)
open Option (isNone)
open Go.IntKind (wrap)
def vcP53(c0:Nat->Int)(p0 p1 «local» page:Int)(w:WD)(K:KV):Prop:=AW w (List.toArray (AK .i64 c0 0 94)) 26 fun w'=>AW w' #[vu p0,vu p1] 113 fun g=>∃(x:Nat->Int),AS g w.heap.size 0 (AK .i64 x 0 94)/\∃(o p:Int),(rd g w'.heap.size 0=some (.int .u8 o)/\rd g w'.heap.size 1=some (.int .u8 p))/\Calls prog 156 #[Value.agg (List.toArray (AK .i64 x 0 94)),Value.agg #[vu o,vu p]] g fun(e:Ending) (h:WD)=>∃(b:Bool),e=rT (.bool b)/\Wif (!b||decide (page<0)) (K (.tuple #[sl none 0 0,vi 2]) h) (∃(x:Nat->Int),AS h w.heap.size 0 (AK .i64 x 0 94)/\Calls prog 157 #[Value.agg (List.toArray (AK .i64 x 0 94)),vi «local»] h fun(e:Ending) (d:WD)=>∃(a:OA) (l c:Nat) (n:Int),e=rT (.tuple #[sl a l c,vi n])/\Wif (n != 0) (K (.tuple #[sl none 0 0,vi n]) d) (AW d #[Value.nilFunc] 63 fun s=>Sw s d.heap.size 0 (func (.func 158) #[] #[ptr w'.heap.size]) fun f=>R8 f w'.heap.size 0 fun x=>Wif (x==1) (Dr f fun i=>∃(x:Nat->Int),AS i w.heap.size 0 (AK .i64 x 0 94)/\R8 i w'.heap.size 1 fun j=>CI 160 #[vu j] i fun n w'=>(AS w' w.heap.size 0 (AK .i64 x 0 94)/\True)/\Calls prog 157 #[Value.agg (List.toArray (AK .i64 x 0 94)),vi n] w' fun e w'=>∃(a:OA) (l c:Nat) (n:Int),e=rT (.tuple #[sl a l c,vi n])/\K (.tuple #[sl a l c,vi n]) w') (Wif (x==2) (CS 161 #[sl a l c,func (.func 162) #[] #[ptr d.heap.size]] f fun a l c w'=>K (.tuple #[sl a l c,vi 0]) w') (Wif (x==3) (Dr f fun i=>R8 i w'.heap.size 1 fun x=>RV i d.heap.size 0 fun j=>CS 163 #[vu x,vi page] i fun t u c_1 w'=>Rt w' d.heap.size 0 j<|CS 161 #[sl a l c,j] w' fun a l c w'=>∃(q:OA) (r c_2:Nat) (k:WD),BF prog #[27,27] 27 (sl t u c_1) (sl a l c) (sl q r c_2) w' k/\K (.tuple #[sl q r c_2,vi 0]) k) (K (.tuple #[sl a l c,vi 0]) f)))))
theorem vc53(c0:Nat->Int)(p0 p1 «local» page:Int)(w:WD)(K:KV)(h:vcP53 c0 p0 p1 «local» page w K):Ret 53 #[Value.agg (List.toArray (AK .i64 c0 0 94)),Value.agg #[vu p0,vu p1],vi «local»,vi page] w K:=vcA L4 3 [] func53 h
theorem vc156(c0:Nat->Int)(p0 p1:Int)(w:WD)(K:KV)(h:Q (AW w (List.toArray (AK .i64 c0 0 94)) 26 fun w'=>AW w' #[vu p0,vu p1] 113 fun g=>Dr g fun h=>∃(x:Nat->Int),AS h w.heap.size 0 (AK .i64 x 0 94)/\Calls prog 60 #[Value.agg (List.toArray (AK .i64 x 0 94))] h fun(e:Ending) (c:WD)=>∃(b:Bool),e=rT (.bool b)/\∃(x:Int),((!b)=false->rd c w'.heap.size 1=some (.int .u8 x))/\∃(f:Int),((!b)=false->rd c w.heap.size 0=some (.int .i64 f))/\Wif (!b) (((!b)=false->rd c w.heap.size 0=some (.int .i64 f)/\True)/\K (.bool false) c) (Calls prog 223 #[vu x] c fun(e:Ending) (d:WD)=>∃(n:Int),e=rT (vi n)/\((!b)=false->rd d w.heap.size 0=some (.int .i64 f)/\True)/\Wif (decide (n>f)) (K (.bool false) d) (R8 d w'.heap.size 1 fun x=>Calls prog 224 #[vu x] d fun(e:Ending) (a:WD)=>∃(n:Int),e=rT (vi n)/\R8 a w'.heap.size 0 fun x=>Wif (x==0) (K (.bool (n==0)) a) (Wif (x==1) (K (.bool (n==1)) a) (Wif (x==2) (Wif (x==2) (K (.bool (decide (n>0))) a) (K (.bool false) a)) (Wif (x==3) (K (.bool (decide (n>0))) a) (K (.bool false) a)))))))):Ret 156 #[Value.agg (List.toArray (AK .i64 c0 0 94)),Value.agg #[vu p0,vu p1]] w K:=vcA L4 3 [] func156 h
theorem vc157(c0:Nat->Int)(node:Int)(w:WD)(K:KV)(h:Q (AW w (List.toArray (AK .i64 c0 0 94)) 26 fun w'=>AW w' #[vi node] 3 fun d=>∃(x:Nat->Int),AS d w.heap.size 0 (AK .i64 x 0 94)/\RI d w'.heap.size 0 fun o=>Calls prog 92 #[Value.agg (List.toArray (AK .i64 x 0 94)),vi o] d fun(e:Ending) (f:WD)=>∃(n g:Int),e=rT (.tuple #[vi n,vi g])/\Wif (g != 0) (K (.tuple #[sl none 0 0,vi g]) f) (RI f w.heap.size 0 fun x=>∃(I:OA->Nat->Nat->Int->WD->Nat->Prop),(∃(n:Nat),I none 0 0 0 f n)/\∀(a:OA) (l c:Nat) (n:Int) (b:WD) (i:Nat),I a l c n b i->Wif (decide (n<x)) (AW b #[vi n] 3 fun w'=>∃(j:OA) (k c_1:Nat) (h:WD),BF prog #[27,27] 27 (sl a l c) (sl (aD b.heap.size) 1 1) (sl j k c_1) w' h/\Lt i fun m=>I j k c_1 (wrap .i64 (n+1)) h m) (C0 225 #[sl a l c,func (.func 226) #[] #[ptr w.heap.size,ptr w'.heap.size]] b fun w'=>K (.tuple #[sl a l c,vi 0]) w')))):Ret 157 #[Value.agg (List.toArray (AK .i64 c0 0 94)),vi node] w K:=vcA L4 3 [] func157 h
theorem vc225(x:OA)(xL xC:Nat)(cmp:Value)(w:WD)(K:KV)(h:Q (C0 266 #[sl x xL xC,vi (↑xL:Int),cmp] w fun w'=>K (.tuple #[]) w')):Ret 225 #[sl x xL xC,cmp] w K:=vcA L4 3 [] func225 h
theorem vc226(a b:Int)(c d:OA)(w:WD)(K:KV)(h:Q (Dr w fun f=>Wp d (Ri f d 0 fun x=>Wp c (Wn x 8 (Wn a 8 (RI f (pb c) (po c+26+Int.toNat x*8+Int.toNat a*1) fun g=>Wp d (Ri f d 0 fun x=>Wp c (Wn x 8 (Wn b 8 (RI f (pb c) (po c+26+Int.toNat x*8+Int.toNat b*1) fun h=>K (vi (wrap .i64 (g-h))) f)))))))))):Ret 226 #[vi a,vi b,pt c,pt d] w K:=vcA L4 3 [] func226 h
theorem vc266(data:OA)(dataL dataC:Nat)(n:Int)(cmp:Value)(w:WD)(K:KV)(h:Q (∃(I:Int->Int->WD->Nat->Prop),(∃(n:Nat),I 0 20 w n)/\∀(f d:Int) (w':WD) (j:Nat),I f d w' j->Wif (decide (d<=n)) (C0 291 #[sl data dataL dataC,vi f,vi d,cmp] w' fun w'=>Lt j fun m=>I d (wrap .i64 (d+20)) w' m) (C0 291 #[sl data dataL dataC,vi f,vi n,cmp] w' fun w'=>∃(I:Int->Int->Int->WD->Nat->Prop),(∃(n:Nat),I 20 f d w' n)/\∀(a k l:Int) (w':WD) (g:Nat),I a k l w' g->Wif (decide (a<n)) (∃(h:Int->Int->WD->Nat->Prop),(∃(n:Nat),h 0 (wrap .i64 (2*a)) w' n)/\∀(b c:Int) (w':WD) (i:Nat),h b c w' i->Wif (decide (c<=n)) (C0 292 #[sl data dataL dataC,vi b,vi (wrap .i64 (b+a)),vi c,cmp] w' fun w'=>Lt i fun m=>h c (wrap .i64 (c+wrap .i64 (2*a))) w' m) (Wif (decide (wrap .i64 (b+a)<n)) (C0 292 #[sl data dataL dataC,vi b,vi (wrap .i64 (b+a)),vi n,cmp] w' fun w'=>Lt g fun m=>I (wrap .i64 (a*2)) b c w' m) (Lt g fun m=>I (wrap .i64 (a*2)) b c w' m))) (K (.tuple #[]) w')))):Ret 266 #[sl data dataL dataC,vi n,cmp] w K:=vcA L4 3 [] func266 h
theorem vc291(data:OA)(dataL dataC:Nat)(a b:Int)(cmp:Value)(w:WD)(K:KV)(h:Q (∃(I:Int->WD->Nat->Prop),(∃(n:Nat),I (wrap .i64 (a+1)) w n)/\∀(n:Int) (w':WD) (f:Nat),I n w' f->Wif (decide (n<b)) (∃(g:Int->WD->Nat->Prop),(∃(c:Nat),g n w' c)/\∀(c:Int) (w':WD) (h:Nat),g c w' h->Dr w' fun d=>gIf (isP data) (decide (c>a)=true) (gIf (inB c dataL) (decide (c>a)=true) (∃(x:Int),(decide (c>a)=true->rd d (pb data) (po data+Int.toNat c*1)=some (.int .i64 x))/\gIf (isP data) (decide (c>a)=true) (gIf (inB (wrap .i64 (c-1)) dataL) (decide (c>a)=true) (∃(i:Int),(decide (c>a)=true->rd d (pb data) (po data+Int.toNat (wrap .i64 (c-1))*1)=some (.int .i64 i))/\Wif (decide (c>a)) (AM prog cmp [vi x,vi i] d fun e w'=>∃(j:Int),e=rT (vi j)/\Wif (decide (j<0)) (Dr w' fun d=>Wp data (Wn (wrap .i64 (c-1)) dataL (RI d (pb data) (po data+Int.toNat (wrap .i64 (c-1))*1) fun x=>Wp data (Wn c dataL (Ri d data (Int.toNat c*1) fun l=>Wp data (Wn c dataL (Sw d (pb data) (po data+Int.toNat c*1) (vi x) fun w'=>Wp data (Wn (wrap .i64 (c-1)) dataL (Sw w' (pb data) (po data+Int.toNat (wrap .i64 (c-1))*1) (vi l) fun k=>Lt h fun m=>g (wrap .i64 (c-1)) k m))))))))) (Lt f fun m=>I (wrap .i64 (n+1)) w' m)) (Lt f fun m=>I (wrap .i64 (n+1)) d m)))))) (K (.tuple #[]) w'))):Ret 291 #[sl data dataL dataC,vi a,vi b,cmp] w K:=vcA L4 3 [2000022] func291 h
end Go.Proofs.YtdgbechegbmpcaaGreatDoor
namespace Go.Proofs.YtdgbechegbmpcaaGreatDoor
open Go Go.Eng Go.Shelf
abbrev blk(a:OA)(l c:Nat)(x:Nat):Prop:=(Value.slice a l c).ownBlock=some x
theorem BK.put{w w':WD}{base:Nat}{a:OA}{l c:Nat}{xs:List Int}(h:BK w base a l c xs){j:Nat}(hj:j<xs.length){v:Int}(e:w'=st w (pb a) (po a+j) (vi v)):BK w' base a l c (xs.set j v)/\Kept (blk a l c) w w'/\wr w (pb a) (po a+j):=by
 obtain⟨hl,h⟩:=h;rcases BZ h with⟨_,hh⟩;rcases h.2 with⟨_,h0⟩|⟨g,cap,cur,hv,hb,hg,hnc,hm,hsz,htk⟩
 ·omega
 ·cases hv
  have e:w'=w.setCell ⟨g,j,none⟩ (vi v):=by
   rw [e]
   show st w g (0+j) (vi v)=_
   rw [za]
   rfl
  obtain⟨h1,h2⟩:=h.stored j (vi v);rw [<- e] at h1 h2;refine⟨⟨by rw [List.length_set];exact hl,by rw [List.map_set];exact h1⟩,(Kept.grownBy h2).mono fun b _ h=>by simpa [blk,Value.ownBlock] using h,?_⟩
  show wr w g (0+j)
  rw [za];refine⟨⟨cur[j]'(by omega),?_⟩,by simp [World.frozen?,hg]⟩;rw [EL,hg];simp
theorem AQ{P:Program}{v:Value}{vs:List Value}{w:WD}{R R':Ending->WD->Prop}(h:AM P v vs w R)(hR:∀e w',R e w'->R' e w'):AM P v vs w R':=by
 obtain⟨f,a,c,h1,h2,h3⟩:=h;exact AM.mk f a c h1 h2 (h3.mono hR)
def sink(F:Int->Int->Int)(ys:List Int):Nat->List Int
 | 0=>ys
 | j+1=>match ys[j+1]?,ys[j]? with
  | some x,some y=>if F x y<0 then sink F ((ys.set (j+1) y).set j x) j else ys
  | _,_=>ys
def NG(F:Int->Int->Int):Nat->Nat->List Int->List Int
 | 0,_,ys=>ys
 | n+1,q,ys=>NG F n (q+1) (sink F ys q)
def OP(n:Int)(ys:List Int):Prop:=(∀x∈ys,0<=x/\x<n)/\∀(i j:Nat) (v:Int),ys[i]? = some v->ys[j]? = some v->i=j
theorem OP.swap{n:Int}{ys:List Int}(h:OP n ys){j:Nat}{x y:Int}(hx:ys[j+1]? = some x)(hy:ys[j]? = some y):OP n ((ys.set (j+1) y).set j x):=by
 have l1:=(D5.1 hx).1;have g:∀t,((ys.set (j+1) y).set j x)[t]? = ys[if t=j then j+1 else if t=j+1 then j else t]? := fun t=>by
  rw [List.getElem?_set,List.getElem?_set];by_cases e1:j=t
  ·subst e1;rw [if_pos rfl,if_pos rfl,if_pos (by rw [List.length_set];omega),hx]
  ·rw [if_neg e1,if_neg (Ne.symm e1)];by_cases e2:j+1=t
   ·subst e2;rw [if_pos rfl,if_pos rfl,if_pos l1,hy]
   ·rw [if_neg e2,if_neg (Ne.symm e2)]
 refine⟨fun z hz=>?_,fun a b v ha hb=>?_⟩
 ·obtain⟨t,ht⟩:=List.mem_iff_getElem?.1 hz;rw [g] at ht;exact h.1 z (mog ht)
 ·rw [g] at ha hb;have h3:=h.2 _ _ v ha hb;by_cases a1:a=j <;> by_cases a2:a=j+1 <;> by_cases b1:b=j <;> by_cases b2:b=j+1 <;> simp only [a1,a2,b1,b2,if_true,if_false] at h3 <;> (try simp at h3) <;> omega
theorem sink_ok{n:Int}{F:Int->Int->Int}:∀{j:Nat}{ys:List Int},OP n ys->OP n (sink F ys j)/\(sink F ys j).length=ys.length
 | 0,_,h=>⟨h,rfl⟩
 | j+1,ys,h=>by
  unfold sink;split
  ·rename_i x y hx hy;split
   ·obtain⟨h1,h2⟩:=sink_ok (F:=F) (j:=j) (h.swap hx hy);exact⟨h1,by rw [h2,List.length_set,List.length_set]⟩
   ·exact⟨h,rfl⟩
  ·exact⟨h,rfl⟩
theorem insL_ok{n:Int}{F:Int->Int->Int}:∀{m q:Nat}{ys:List Int},OP n ys->OP n (NG F m q ys)/\(NG F m q ys).length=ys.length
 | 0,_,_,h=>⟨h,rfl⟩
 | m+1,q,ys,h=>by
  obtain⟨h1,h2⟩:=sink_ok (F:=F) (j:=q) h;obtain⟨h3,h4⟩:=insL_ok (F:=F) (m:=m) (q:=q+1) h1;exact⟨h3,h4.trans h2⟩
theorem sink_step{F:Int->Int->Int}{ys:List Int}{j:Nat}{x y:Int}(hj:1<=j)(hx:ys[j]? = some x)(hy:ys[j-1]? = some y):sink F ys j=if F x y<0 then sink F ((ys.set j y).set (j-1) x) (j-1) else ys:=by
 obtain⟨i,rfl⟩:∃i,j=i+1:=⟨j-1,by omega⟩;rw [Nat.add_sub_cancel] at hy ⊢
 show(match ys[i+1]?,ys[i]? with
  | some x,some y=>if F x y<0 then sink F ((ys.set (i+1) y).set i x) i else ys
  | _,_=>ys)=_
 rw [hx,hy]
theorem ins_spec{n:Int}{F:Int->Int->Int}{w:WD}{base:Nat}{a:OA}{l c:Nat}{xs:List Int}{cmp:Value}(h:BK w base a l c xs)(hl:xs.length<=1000)(hr:OP n xs)
 (hc:∀(W:WD) (x y:Int),Kept (blk a l c) w W->(0<=x/\x<n)->(0<=y/\y<n)->AM Tryz.prog cmp [vi x,vi y] W fun e w'=>e=.returned (vi (F x y))/\Kept AB W w') :
 Calls Tryz.prog 291 #[.slice a l c,vi 0,vi l,cmp] w fun e w'=>e=.returned (.tuple #[])/\Kept (blk a l c) w w'/\BK w' base a l c (NG F (xs.length-1) 1 xs):=by
 refine(vc291 a l c 0 l cmp w (fun v w'=>v=.tuple #[]/\Kept (blk a l c) w w'/\BK w' base a l c (NG F (xs.length-1) 1 xs)) ?_).mono ?_
 rotate_left
 ·rintro e w' ⟨v,rfl,rfl,h⟩;exact⟨rfl,h⟩
 have hlen:=h.1;unfold Q;refine⟨fun k W N=>∃q:Nat,k=q/\1<=q/\N=l-q/\Kept (blk a l c) w W/\∃ys,ys.length=xs.length/\OP n ys/\BK W base a l c ys/\NG F (l-q) q ys=NG F (xs.length-1) 1 xs,⟨l-1,1,rfl,nlr _,rfl,Kept.refl _ _,xs,rfl,hr,h,by rw [hlen]⟩,?_⟩;rintro _ w1 _ ⟨q,rfl,hq,rfl,k1,ys,hy,hyr,R1,hin⟩;refine AE (fun hc1=>?_) (fun hc1=>⟨rfl,k1,by rw [<- hin,show l-q=0 by simp at hc1;omega];exact R1⟩);have hql:q<l:=by simp at hc1;omega
 refine⟨fun k W N=>∃j:Nat,k=j/\j<=q/\j=N/\Kept (blk a l c) w W/\∃ys,ys.length=xs.length/\OP n ys/\BK W base a l c ys/\NG F (l-(q+1)) (q+1) (sink F ys j)=NG F (xs.length-1) 1 xs,⟨q,q,rfl,nlr _,rfl,k1,ys,hy,hyr,R1,by rw [<- hin,show l-q=l-(q+1)+1 by omega];rfl⟩,?_⟩;clear hin R1 hyr hy k1 ys;rintro _ w2 _ ⟨j,rfl,hj,rfl,k2,ys,hy,hyr,R2,hin⟩;intro w3 e3;have d3:=kdr e3;have k3:Kept (blk a l c) w w3:=k2.trans d3 fun _ _ e=>e.elim;have R3:=R2.k d3;clear e3;by_cases hj0:j=0
 ·subst hj0;exact AF (fun e=>by simp at e) (AF (fun e=>by simp at e) ⟨0,(fun e=>by simp at e),AF (fun e=>by simp at e) (AF (fun e=>by simp at e) ⟨0,(fun e=>by simp at e),AG (by simp) ⟨l-(q+1),by omega,q+1,wzz,by omega,rfl,k3,ys,hy,hyr,R3,hin⟩⟩)⟩)
 obtain⟨x,hx⟩:∃x,ys[j]? = some x:=⟨_,geg (by omega)⟩;obtain⟨y,hyj⟩:∃y,ys[j-1]? = some y:=⟨_,geg (by omega)⟩;have hp:=(R3.rd hx).1;have rx:∀{W:WD},BK W base a l c ys->rd W (pb a) (po a+Int.toNat (j:Int)*1)=some (vi x):=fun R=>(R.rd hx).2;have ry:∀{W:WD},BK W base a l c ys->rd W (pb a) (po a+Int.toNat ((j-1:Nat):Int)*1)=some (vi y):=fun R=>(R.rd hyj).2;have ew:IntKind.wrap .i64 ((j:Int)-1)=((j-1:Nat):Int):=by rw [wi (by omega)];omega
 rw [ew];refine AF (fun _=>hp) (AF (fun _=>DL (by omega) (by omega)) ⟨x,(fun _=>rx R3),AF (fun _=>hp) (AF (fun _=>DL (by omega) (by omega)) ⟨y,(fun _=>ry R3),AA (by simp;omega) (AQ (hc w3 x y k3 (hyr.1 x (mog hx)) (hyr.1 y (mog hyj))) ?_)⟩)⟩);rintro _ w4 ⟨rfl,k4⟩;rw [sink_step (by omega) hx hyj] at hin;have R4:=R3.k k4;have K4:Kept (blk a l c) w w4:=k3.trans k4 fun _ _ e=>e.elim;refine⟨_,rfl,AE (fun hm=>?_) (fun hm=>⟨l-(q+1),by omega,q+1,wzz,by omega,rfl,K4,ys,hy,hyr,R4,by rw [if_neg (by simpa using hm)] at hin;exact hin⟩)⟩;rw [if_pos (by simpa using hm)] at hin;intro w5 e5;have d5:=kdr e5;have R5:=R4.k d5;clear e5;refine AA hp (Wi ⟨y,ry R5,AA hp (Wi ⟨x,rx R5,AA hp (Wi ⟨?_,fun w6 e6=>?_⟩)⟩)⟩)
 ·rw [tnc,mo];exact(R5.put (j:=j) (v:=y) (by omega) rfl).2.2
 rw [tnc,mo] at e6;obtain⟨R6,k6,_⟩:=R5.put (by omega) e6;refine AA hp (Wi ⟨?_,fun w7 e7=>?_⟩)
 ·rw [tnc,mo];exact(R6.put (j:=j-1) (v:=x) (by rw [List.length_set];omega) rfl).2.2
 rw [tnc,mo] at e7;obtain⟨R7,k7,_⟩:=R6.put (by rw [List.length_set];omega) e7;refine⟨j-1,by omega,j-1,rfl,by omega,rfl,((K4.trans d5 fun _ _ e=>e.elim).trans k6 fun _ _ e=>e).trans k7 fun _ _ e=>e,_,by rw [List.length_set,List.length_set];exact hy,?_,R7,hin⟩;obtain⟨i,rfl⟩:∃i,j=i+1:=⟨j-1,by omega⟩;exact hyr.swap hx hyj
theorem stable_spec{n:Int}{F:Int->Int->Int}{w:WD}{base:Nat}{a:OA}{l c:Nat}{xs:List Int}{cmp:Value}(h:BK w base a l c xs)(hl:xs.length<=8)(hr:OP n xs)
 (hc:∀(W:WD) (x y:Int),Kept (blk a l c) w W->(0<=x/\x<n)->(0<=y/\y<n)->AM Tryz.prog cmp [vi x,vi y] W fun e w'=>e=.returned (vi (F x y))/\Kept AB W w') :
 Calls Tryz.prog 225 #[.slice a l c,cmp] w fun e w'=>e=.returned (.tuple #[])/\Kept (blk a l c) w w'/\BK w' base a l c (NG F (xs.length-1) 1 xs):=by
 have hlen:=h.1;refine(vc225 a l c cmp w (fun v w'=>v=.tuple #[]/\Kept (blk a l c) w w'/\BK w' base a l c (NG F (xs.length-1) 1 xs)) ?_).mono ?_
 rotate_left
 ·rintro e w' ⟨v,rfl,rfl,h⟩;exact⟨rfl,h⟩
 unfold Q;refine(vc266 a l c l cmp w (fun v w'=>v=.tuple #[]/\Kept (blk a l c) w w'/\BK w' base a l c (NG F (xs.length-1) 1 xs)) ?_).mono ?_
 ·unfold Q;refine⟨fun x y W _=>x=0/\y=20/\W=w,⟨0,rfl,rfl,rfl⟩,?_⟩;rintro _ _ w1 _ ⟨rfl,rfl,hw⟩;rw [hw];refine AG (by simp;omega) ((ins_spec h (by omega) hr hc).mono ?_);rintro _ w2 ⟨rfl,hk⟩;refine⟨rfl,fun x _ _ W _=>x=20/\W=w2,⟨0,rfl,rfl⟩,?_⟩;rintro _ _ _ w3 _ ⟨rfl,hw⟩;rw [hw];exact AG (by simp;omega) ⟨rfl,hk⟩
 ·rintro e w' ⟨v,rfl,rfl,h⟩;exact⟨rfl,rfl,h⟩
def farF(c:Nat->Int)(i:Nat)(x y:Int):Int:=IntKind.wrap .i64 (c (26+i*8+x.toNat)-c (26+i*8+y.toNat))
def CE(c:Nat->Int)(i:Nat):List Int:=NG (farF c i) ((c 0).toNat-1) 1 ((List.range (c 0).toNat).map fun t:Nat=>(t:Int))
theorem dist_range(n:Nat):OP n ((List.range n).map fun t:Nat=>(t:Int)):=by
 refine⟨fun x hx=>by simp at hx;omega,fun i j v hi hj=>?_⟩;have l1:=(D5.1 hi).1;have l2:=(D5.1 hj).1;simp at l1 l2;simp [l1] at hi;simp [l2] at hj;omega
theorem nodesL_ok{c:Nat->Int}(hm:CW c)(i:Nat):OP (c 0) (CE c i)/\(CE c i).length=(c 0).toNat:=by
 have h8:=hm.1;have h1:=dist_range (c 0).toNat;rw [show(((c 0).toNat:Nat):Int)=c 0 by omega] at h1;obtain⟨h2,h3⟩:=insL_ok (F:=farF c i) (m:=(c 0).toNat-1) (q:=1) h1;exact⟨h2,by unfold CE;rw [h3];simp⟩
theorem order_cmp{c:Nat->Int}(hm:CW c){W:WD}{b1 b2 q:Nat}(h1:own W b1 (cfg c))(h2:own W b2 [vi (q:Nat)])(hn:(q:Int)<c 0){x y:Int}(hx:0<=x/\x<c 0)(hy:0<=y/\y<c 0) :
 AM Tryz.prog (.func (.func 226) #[] #[ptr b1,ptr b2]) [vi x,vi y] W fun e w'=>e=.returned (vi (farF c q x y))/\Kept AB W w':=by
 refine AM.mk _ #[] #[_,_] rfl (by kernel_rfl) ?_;have h8:=hm.1;refine(vc226 x y (some ⟨b1,0,none⟩) (some ⟨b2,0,none⟩) W (fun v w'=>v=vi (farF c q x y)/\Kept AB W w') ?_).mono ?_
 ·unfold Q;intro w1 e1;have k1:=kdr e1;have r2:rd w1 b2 0=some (vi (q:Nat)):=by rw [(h2.k k1).rd];rfl
  have rc:∀z:Int,0<=z/\z<c 0->rd w1 b1 (0+26+Int.toNat (q:Int)*8+Int.toNat z*1)=some (vi (c (26+q*8+z.toNat))):=fun z hz=>by
   obtain⟨t,rfl⟩:∃t:Nat,z=t:=⟨z.toNat,by omega⟩;rw [show 0+26+Int.toNat (q:Int)*8+Int.toNat (t:Int)*1=26+q*8+Int.toNat (t:Int) by simp];exact(h1.k k1).rI (by omega)
  have r1:=rc x hx;have r3:=rc y hy;exact AA rfl ⟨_,r2,AA rfl (Wi (Wi ⟨_,r1,AA rfl ⟨_,r2,AA rfl (Wi (Wi ⟨_,r3,rfl,k1⟩))⟩⟩))⟩
 ·rintro e w' ⟨v,rfl,rfl,h⟩;exact⟨rfl,h⟩
theorem order_spec(c:Nat->Int)(hm:CW c)(w:WD)(i:Nat)(hi:(i:Int)<c 0) :
 Calls Tryz.prog 157 #[KK c,vi i] w fun e w'=>∃a l cp,e=.returned (.tuple #[.slice a l cp,vi 0])/\Kept AB w w'/\BK w' w.heap.size a l cp (CE c i):=by
 refine(vc157 c i w (fun v w'=>∃a l cp,v=(.tuple #[.slice a l cp,vi 0])/\Kept AB w w'/\BK w' w.heap.size a l cp (CE c i)) ?_).mono ?_
 rotate_left
 ·rintro e w' ⟨v,rfl,a,l,cp,rfl,h⟩;exact⟨a,l,cp,rfl,h⟩
 have h8:=hm.1;unfold Q;intro w1 e1 w2 e2;have o1:=AD e1;have p1:=o1.al e2;have o2:=AD e2;have K2:Kept AB w w2:=(kr.al e1).al e2;have hs1:=o1.lt;have hs2:=o2.lt;clear e1 e2 o1;generalize hb0:w.heap.size=b0 at *;generalize hb1:w1.heap.size=b1 at *;refine⟨c,p1.DR,_,by rw [o2.rd];rfl,(LN c hm w2 i hi).mono ?_⟩;rintro _ w3 ⟨rfl,k3⟩;have p3:=p1.k k3;have o3:=o2.k k3;have hs3:=k3.sz;refine⟨_,_,rfl,AG rfl ⟨c 0,p3.rI (by omega),?_⟩⟩;obtain⟨n,hn⟩:∃n:Nat,c 0=n:=⟨(c 0).toNat,by omega⟩;refine⟨fun a l cp q W N=>∃j:Nat,q=j/\j<=n/\N=n-j/\Kept AB w3 W/\BK W w3.heap.size a l cp ((List.range j).map fun t:Nat=>(t:Int)),⟨n,0,rfl,Nat.zero_le _,rfl,Kept.refl _ _,BK.MT⟩,?_⟩;rintro a l cp _ w4 _ ⟨j,rfl,hj,rfl,k4,R4⟩;refine AE (fun hc=>?_) (fun hc=>?_)
 ·have hjn:j<n:=by simp at hc;omega
  intro w5 e5;have x5:=AD (c:=[vi (j:Int)]) e5;have k5:=kal e5;obtain⟨a',l',c',w6,happ,R6,k6⟩:=(R4.k k5).app (a2:=some ⟨w4.heap.size,0,none⟩) (l2:=1) (c2:=1) (ys:=[(j:Int)]) (Eng.Src.of_own (off:=0) x5 fun t u h=>by simpa using h) rfl (by have:=k4.sz;have:=k5.sz;omega) (by simp;omega);refine⟨a',l',c',w6,happ,n-(j+1),by omega,j+1,wzz,hjn,rfl,BD (k4.tr k5) k6 fun x e=>(R4.lt e).1,?_⟩;rw [List.range_succ,FU];exact R6
 ·have:j=n:=by simp at hc;omega
  subst this;have hlt:∀x,blk a l cp x->w3.heap.size<=x:=fun x e=>(R4.lt e).1;refine(stable_spec (n:=c 0) (F:=farF c i) R4 (by simp;omega) (by have:=dist_range j;rw [<- hn] at this;exact this) fun W x y hk hx hy=>?_).mono ?_
  ·have k:Kept AB w3 W:=BD k4 hk hlt;exact order_cmp hm (p3.k k) (o3.k k) (by omega) hx hy
  ·rintro _ w5 ⟨rfl,k5,R5⟩;refine⟨rfl,a,l,cp,rfl,(K2.tr k3).tr (BD k4 k5 hlt),?_⟩;have e:CE c i=NG (farF c i) (((List.range j).map fun t:Nat=>(t:Int)).length-1) 1 ((List.range j).map fun t:Nat=>(t:Int)):=by
    unfold CE;rw [hn];simp
   rw [e];exact R5.weak (by omega)
theorem pmay_spec (c:Nat->Int) (hm:CW c) (w:WD):Calls Tryz.prog 156 #[KK c,.agg #[.int .u8 0,.int .u8 0]] w fun e w'=>e=.returned (.bool true)/\Kept AB w w':=by
  refine(vc156 c 0 0 w (fun v w'=>v=.bool true/\Kept AB w w') ?_).mono ?_
  rotate_left
  · rintro e w' ⟨v,rfl,rfl,h⟩
    exact⟨rfl,h⟩
  have h8:=hm.1;unfold Q;intro w1 e1 w2 e2 w3 e3;have p2:=(AD e1).al e2;have o2:=AD e2;have K3:Kept AB w w3:=((kr.al e1).al e2).dr e3;have p3:=p2.dr e3;have o3:=o2.dr e3;refine⟨c,p3.DR,(GV c w3).mono ?_⟩;rintro _ w4 ⟨b,rfl,hb,k4⟩;have:b=true:=hb.2 hm;subst this;obtain⟨r0,r1⟩:=rd2 (o3.k k4);have rc:=(p3.k k4).rI (j:=0) (by omega);refine⟨true,rfl,0,(fun _=>r1),c 0,(fun _=>rc),AG rfl ((Any.bits_Len8 (ρ:=Tryz.len8_ren) Tryz.len8 0 w4 (by omega) (by omega)).mono ?_)⟩;rintro _ wx ⟨rfl,hx⟩;rw [hx];clear hx;refine ⟨_, rfl, (fun _ => ⟨rc, trivial⟩), AG (by have:((Lib.bitLen (Int.toNat 0):Nat):Int)=0:=(by decide);rw [this];simp;omega) ⟨0, r1, (Any.bits_OnesCount8 (ρ := Tryz.pop8_ren) Tryz.pop8 0 w4 (by omega) (by omega)).mono ?_⟩⟩;rintro _ wx ⟨rfl,hx⟩;rw [hx];refine⟨_,rfl,0,r0,AA rfl ⟨?_,K3.tr k4⟩⟩;have:((Lib.onesCount (Int.toNat 0):Nat):Int)=0:=by decide
  rw [this]
  rfl
theorem porder_spec(c:Nat->Int)(hm:CW c)(w:WD)(i:Nat)(hi:(i:Int)<c 0){page:Int}(hp:0<=page) :
 Calls Tryz.prog 53 #[KK c,.agg #[.int .u8 0,.int .u8 0],vi i,vi page] w fun e w'=>∃a l cp,e=.returned (.tuple #[.slice a l cp,vi 0])/\Kept AB w w'/\BK w' w.heap.size a l cp (CE c i):=by
 refine(vc53 c 0 0 i page w (fun v w'=>∃a l cp,v=(.tuple #[.slice a l cp,vi 0])/\Kept AB w w'/\BK w' w.heap.size a l cp (CE c i)) ?_).mono ?_
 rotate_left
 ·rintro e w' ⟨v,rfl,a,l,cp,rfl,h⟩;exact⟨a,l,cp,rfl,h⟩
 unfold vcP53;intro w1 e1 w2 e2;have p2:=(AD e1).al e2;have o2:=AD e2;have K2:Kept AB w w2:=(kr.al e1).al e2;clear e1 e2;generalize hb1:w1.heap.size=b1 at *;refine⟨c,p2.DR,0,0,rd2 o2,(pmay_spec c hm w2).mono ?_⟩;rintro _ w3 ⟨rfl,k3⟩;have p3:=p2.k k3;have o3:=o2.k k3;refine⟨true,rfl,AG (by simp;omega) ⟨c,p3.DR,(order_spec c hm w3 i hi).mono ?_⟩⟩;rintro _ w4 ⟨a,l,cp,rfl,k4,R4⟩;refine⟨a,l,cp,0,rfl,AG rfl fun w5 e5=>?_⟩;have x5:=AD (c:=[Value.nilFunc]) e5;have k5:=kal e5;refine⟨x5.wr (by decide),fun w6 e6=>?_⟩;have k6:Kept AB w4 w6:=BD k5 ((Kept.refl (·=w4.heap.size) _).s1 e6 (.inl rfl)) fun x e=>by omega
 have o6:=(o3.k k4).k k6;have hs:=(K2.tr k3).sz;exact⟨0,(rd2 o6).1,AG rfl (AG rfl (AG rfl ⟨a,l,cp,rfl,((K2.tr k3).tr k4).tr k6,(R4.k k6).weak hs⟩))⟩
theorem policy_spec{w:WD}{k b:Nat}{S:AL}{fp:Prt->Nat->Prop}(h:AJ w k S fp)(hb:S.sp 1=some b)(page:Int):Calls Tryz.prog 54 #[ptr k,vi 1,vi page] w fun e w'=>e=.returned (.agg #[.int .u8 0,.int .u8 0])/\Kept AB w w':=by
 refine(vc54 _ 1 page w (fun v w'=>v=.agg #[.int .u8 0,.int .u8 0]/\Kept AB w w') ?_).mono ?_
 rotate_left
 ·rintro e w' ⟨v,rfl,rfl,h⟩;exact⟨rfl,h⟩
 unfold Q;intro w1 e1;have o1:=AD e1;have k1:=kal e1;have C1:=h.k k1;have r1:rd w1 k (0+105+Int.toNat 1*1)=some (ptr b):=by
  have:=C1.rt (j:=12) (v:=spV (S.sp 1)) rfl;rw [hb] at this;exact this
 have SP:EX w1 (fp (.space 1)) b (S.root 1) (S.pins 1):=C1.at' (.space 1) b hb;obtain⟨ab,pb',wb,mb,a1,_,_,_,M,_⟩:=SP.ex;refine AF (fun _=>rfl) (AF (fun _=>rfl) ⟨_,(fun _=>r1),AG rfl (AA rfl (AA rfl ⟨_,r1,AA rfl ⟨some mb,by show rd w1 b (0+5)=_;rw [a1.rd];rfl,0,0,false,?_,fun w2 e2=>?_⟩⟩))⟩)
 ·have:=look2 (P:=Tryz.prog) (mt:=114) (vt:=113) (kt:=3) Tryz.underlying114 Tryz.underlying3 M page (Tryz.zeroValue113 w1);exact this
 have o2:=AD e2;have k2:=kal e2;refine⟨wr2 o2,fun w3 e3=>?_⟩;have k3:Kept AB w1 w3:=BD k2 (IY o2 e3).2 fun x e=>by omega
 have a3:=a1.k k3;have o3:=o1.k k3;refine AG rfl (AA rfl ⟨0,0,⟨by show rd w3 b (0+3)=_;rw [a3.rd];rfl,by show rd w3 b (0+4)=_;rw [a3.rd];rfl⟩,wr2 o3,fun w4 e4=>?_⟩);obtain⟨o4,k4⟩:=IY o3 e4;exact⟨0,0,rd2 o4,rfl,BD (k1.tr k3) k4 fun x e=>by omega⟩
theorem nodes_spec{w:WD}{k b:Nat}{S:AL}{fp:Prt->Nat->Prop}(h:AJ w k S fp)(hb:S.sp 1=some b){page:Int}(hp:0<=page){cpu:Nat}(hcpu:cpu<S.AO) :
 Calls Tryz.prog 20 #[ptr k,vi cpu,vi 1,vi page] w fun e w'=>∃a l cp,e=.returned (.slice a l cp)/\Kept AB w w'/\BK w' w.heap.size a l cp (CE S.c (S.c (2+cpu)).toNat):=by
 refine(vc20 _ cpu 1 page w (fun v w'=>∃a l cp,v=(.slice a l cp)/\Kept AB w w'/\BK w' w.heap.size a l cp (CE S.c (S.c (2+cpu)).toNat)) ?_).mono ?_
 rotate_left
 ·rintro e w' ⟨v,rfl,a,l,cp,rfl,h⟩;exact⟨a,l,cp,rfl,h⟩
 have hm:=h.my;have hs:=h.BO.2.1;have h1:=hm.2.1;have hh:=hm.2.2.2.2.1 cpu (by omega);obtain⟨i,hi⟩:∃i:Nat,S.c (2+cpu)=i:=⟨(S.c (2+cpu)).toNat,by have:=hh.1;omega⟩;have hin:(i:Int)<S.c 0:=by have:=hh.2;omega
 unfold Q;refine AG rfl (AF (fun _=>rfl) ⟨S.c 1,(fun _=>by show rd w k (0+1)=_;exact h.rc (by omega)),AA (by simp;omega) (AA rfl (Wi ⟨S.c (2+cpu),by rw [tnc];show rd w k (0+2+cpu*1)=_;rw [mo,za];exact h.rc (by omega),fun w1 e1=>?_⟩))⟩);have k1:=kdr e1;have C1:=h.k k1;refine AA rfl ⟨S.c,C1.rcfg,(policy_spec C1 hb page).mono ?_⟩;rintro _ w2 ⟨rfl,k2⟩;refine⟨0,0,rfl,⟨(C1.k k2).rcfg,trivial⟩,?_⟩;rw [hi];refine(porder_spec S.c hm w2 i hin hp).mono ?_;rintro _ w3 ⟨a,l,cp,rfl,k3,R⟩;exact⟨a,l,cp,0,rfl,a,l,cp,rfl,(k1.tr k2).tr k3,R.weak (k1.tr k2).sz⟩
end Go.Proofs.YtdgbechegbmpcaaGreatDoor
namespace Go.Proofs.YtdgbechegbmpcaaGreatDoor
open Go Go.Eng Go.Proofs.Tryz
open Go.Value (bool func)
open Option (isNone)
open Go.IntKind (wrap)
theorem vc137(k:OA)(pid:Int)(s:OA)(w:WD)(K:KV)(h:Q (AW w #[vi 0,vi 0,sl none 0 0,sl none 0 0,sl none 0 0,sl none 0 0] 147 fun w'=>∃(I:OA->WD->Prop),(Dr w' fun h=>Wp s (Ri h s 1 fun x=>Wp s (Rp h s 2 fun M=>Wp s (Rp h s 0 fun j=>(AW h #[pt M] 110 fun w'=>Rt w' (pb s) (po s) (.pointer j)<|Rt w' (pb s) (po s+1) (.int .i64 x)<|(CS 205 #[func (.func 251) #[] #[ptr h.heap.size]] w' fun a l c w'=>Rt w' (pb s) (po s) (.pointer j)<|Rt w' (pb s) (po s+1) (.int .i64 x)<|(AW w' #[pt j] 109 fun d=>Rt d (pb s) (po s+1) (.int .i64 x)<|(CS 207 #[func (.func 255) #[] #[ptr w'.heap.size]] d fun r t c_1 w'=>Rt w' (pb s) (po s+1) (.int .i64 x)<|AW w' #[vi 0,vi 0,sl none 0 0,sl none 0 0,sl none 0 0,sl none 0 0] 147 fun f=>Rt f (pb s) (po s+1) (.int .i64 x)<|(wr f w'.heap.size 0/\wr f w'.heap.size 1/\wr f w'.heap.size 2/\wr f w'.heap.size 3/\wr f w'.heap.size 4/\wr f w'.heap.size 5)/\St (st (st (st (st (st f w'.heap.size 0 (vi pid)) w'.heap.size 1 (vi x)) w'.heap.size 2 (sl none 0 0)) w'.heap.size 3 (sl none 0 0)) w'.heap.size 4 (sl a l c)) w'.heap.size 5 (sl r t c_1) fun g=>I (aD w'.heap.size) g)/\AW d #[vi 0,vi 0,sl none 0 0,sl none 0 0,sl none 0 0,sl none 0 0] 147 fun f=>Rt f (pb s) (po s+1) (.int .i64 x)<|CS 207 #[func (.func 255) #[] #[ptr w'.heap.size]] f fun r t c_1 w'=>Rt w' (pb s) (po s+1) (.int .i64 x)<|(wr w' d.heap.size 0/\wr w' d.heap.size 1/\wr w' d.heap.size 2/\wr w' d.heap.size 3/\wr w' d.heap.size 4/\wr w' d.heap.size 5)/\St (st (st (st (st (st w' d.heap.size 0 (vi pid)) d.heap.size 1 (vi x)) d.heap.size 2 (sl none 0 0)) d.heap.size 3 (sl none 0 0)) d.heap.size 4 (sl a l c)) d.heap.size 5 (sl r t c_1) fun g=>I (aD d.heap.size) g)/\AW w' #[vi 0,vi 0,sl none 0 0,sl none 0 0,sl none 0 0,sl none 0 0] 147 fun d=>Rt d (pb s) (po s) (.pointer j)<|Rt d (pb s) (po s+1) (.int .i64 x)<|AW d #[pt j] 109 fun f=>Rt f (pb s) (po s+1) (.int .i64 x)<|Calls prog 207 #[func (.func 255) #[] #[ptr d.heap.size]] f fun(e:Ending) (g:WD)=>∃(r:OA) (t c_1:Nat),e=rT (sl r t c_1)/\(rd g (pb s) (po s+1)=some (.int .i64 x)/\True)/\(wr g w'.heap.size 0/\wr g w'.heap.size 1/\wr g w'.heap.size 2/\wr g w'.heap.size 3/\wr g w'.heap.size 4/\wr g w'.heap.size 5)/\St (st (st (st (st (st g w'.heap.size 0 (vi pid)) w'.heap.size 1 (vi x)) w'.heap.size 2 (sl none 0 0)) w'.heap.size 3 (sl none 0 0)) w'.heap.size 4 (sl a l c)) w'.heap.size 5 (sl r t c_1) fun o=>I (aD w'.heap.size) o)/\AW w' #[vi 0,vi 0,sl none 0 0,sl none 0 0,sl none 0 0,sl none 0 0] 147 fun d=>Rt d (pb s) (po s) (.pointer j)<|Rt d (pb s) (po s+1) (.int .i64 x)<|Calls prog 205 #[func (.func 251) #[] #[ptr h.heap.size]] d fun(e:Ending) (f:WD)=>∃(a:OA) (l c:Nat),e=rT (sl a l c)/\(rd f (pb s) (po s)=some (.pointer j)/\True)/\(rd f (pb s) (po s+1)=some (.int .i64 x)/\True)/\AW f #[pt j] 109 fun g=>Rt g (pb s) (po s+1) (.int .i64 x)<|Calls prog 207 #[func (.func 255) #[] #[ptr f.heap.size]] g fun(e:Ending) (o:WD)=>∃(r:OA) (t c_1:Nat),e=rT (sl r t c_1)/\(rd o (pb s) (po s+1)=some (.int .i64 x)/\True)/\(wr o w'.heap.size 0/\wr o w'.heap.size 1/\wr o w'.heap.size 2/\wr o w'.heap.size 3/\wr o w'.heap.size 4/\wr o w'.heap.size 5)/\St (st (st (st (st (st o w'.heap.size 0 (vi pid)) w'.heap.size 1 (vi x)) w'.heap.size 2 (sl none 0 0)) w'.heap.size 3 (sl none 0 0)) w'.heap.size 4 (sl a l c)) w'.heap.size 5 (sl r t c_1) fun a6=>I (aD w'.heap.size) a6)/\AW h #[vi 0,vi 0,sl none 0 0,sl none 0 0,sl none 0 0,sl none 0 0] 147 fun w'=>Rt w' (pb s) (po s) (.pointer j)<|Rt w' (pb s) (po s+2) (.pointer M)<|Rt w' (pb s) (po s+1) (.int .i64 x)<|AW w' #[pt M] 110 fun d=>Rt d (pb s) (po s) (.pointer j)<|Rt d (pb s) (po s+1) (.int .i64 x)<|CS 205 #[func (.func 251) #[] #[ptr w'.heap.size]] d fun a l c w'=>Rt w' (pb s) (po s) (.pointer j)<|Rt w' (pb s) (po s+1) (.int .i64 x)<|AW w' #[pt j] 109 fun f=>Rt f (pb s) (po s+1) (.int .i64 x)<|CS 207 #[func (.func 255) #[] #[ptr w'.heap.size]] f fun r t c_1 w'=>Rt w' (pb s) (po s+1) (.int .i64 x)<|(wr w' h.heap.size 0/\wr w' h.heap.size 1/\wr w' h.heap.size 2/\wr w' h.heap.size 3/\wr w' h.heap.size 4/\wr w' h.heap.size 5)/\St (st (st (st (st (st w' h.heap.size 0 (vi pid)) h.heap.size 1 (vi x)) h.heap.size 2 (sl none 0 0)) h.heap.size 3 (sl none 0 0)) h.heap.size 4 (sl a l c)) h.heap.size 5 (sl r t c_1) fun g=>I (aD h.heap.size) g))))/\∀(p:OA) (w':WD),I p w'->Dr w' fun h=>Wp k (Rp h k 94 fun x=>Wp s (Ri h s 1 fun M=>AW h #[pt x] 37 fun w'=>AW w' #[vi M] 3 fun d=>∃(xss:List (List Value)),∃(R:NP),∃(I:(NP)->Nat->WD->Prop),∃(X:Nat->(NP)->WD->Prop),(DW prog 257 [ptr h.heap.size,ptr w'.heap.size] xss R d/\(∀(xs:List Value),List.Mem xs xss->List.length xs=2/\∃(n F:Int),xs=[vi n,vi F])/\∀(b:Nat),R b->Nat.succ b<=d.heap.size)/\(∀(h:WD),Kept AB d h->h.heap.size=d.heap.size+2->I (fun(x:Nat)=>False) 0 h)/\(∀(Y:NP) (i:Nat) (W W':WD),I Y i W->(∀(b:Nat),Y b->d.heap.size+2<=b)->Kept (DJ d.heap.size Y) W W'->I (fun(b:Nat)=>Y b\/W.heap.size<=b/\Nat.succ b<=W'.heap.size) i W')/\(∀(k:Nat) (Y:NP) (W W':WD),X k Y W->(∀(b:Nat),Y b->d.heap.size+2<=b)->Kept (DJ d.heap.size Y) W W'->X k (fun(b:Nat)=>Y b\/W.heap.size<=b/\Nat.succ b<=W'.heap.size) W')/\(∀(Y:NP) (i:Nat) (W:WD),I Y i W->(∀(b:Nat),Y b->d.heap.size+2<=b)->d.heap.size+2<=W.heap.size->∀(n F:Int),xss[i]? = some [vi n,vi F]->BN d.heap.size W W/\∀(w2:WD),Kept (fun(b:Nat)=>b=d.heap.size+1) W w2->w2.heap.size=W.heap.size->Wp p (Rs w2 p 2 fun x j q=>AW w2 #[vi n,vi F] 332 fun w'=>∃(a:OA) (l c:Nat) (f:WD),BF prog #[143,143] 143 (sl x j q) (sl (aD w2.heap.size) 1 1) (sl a l c) w' f/\Wp p (Sw f (pb p) (po p+2) (sl a l c) fun w'=>BN d.heap.size w2 w'/\DA (fun(b:Nat)=>Y b\/R b) W w'/\I Y (i+1) w')))/\(∀(Y:NP) (W:WD),I Y (List.length xss) W->DC d.heap.size W->Dr W fun h=>Wp k (Rp h k 94 fun x=>Wp s (Ri h s 1 fun j=>AW h #[pt x] 37 fun w'=>AW w' #[vi j] 3 fun f=>∃(xss:List (List Value)),∃(R:NP),∃(I:(NP)->Nat->WD->Prop),∃(X:Nat->(NP)->WD->Prop),(DW prog 258 [ptr h.heap.size,ptr w'.heap.size] xss R f/\(∀(xs:List Value),List.Mem xs xss->List.length xs=2/\∃(n F O:Int),xs=[vi n,Value.agg #[vu F,vi O]])/\∀(b:Nat),R b->Nat.succ b<=f.heap.size)/\(∀(h:WD),Kept AB f h->h.heap.size=f.heap.size+2->I (fun(x:Nat)=>False) 0 h)/\(∀(Y:NP) (i:Nat) (W W':WD),I Y i W->(∀(b:Nat),Y b->f.heap.size+2<=b)->Kept (DJ f.heap.size Y) W W'->I (fun(b:Nat)=>Y b\/W.heap.size<=b/\Nat.succ b<=W'.heap.size) i W')/\(∀(k:Nat) (Y:NP) (W W':WD),X k Y W->(∀(b:Nat),Y b->f.heap.size+2<=b)->Kept (DJ f.heap.size Y) W W'->X k (fun(b:Nat)=>Y b\/W.heap.size<=b/\Nat.succ b<=W'.heap.size) W')/\(∀(Y:NP) (i:Nat) (W:WD),I Y i W->(∀(b:Nat),Y b->f.heap.size+2<=b)->f.heap.size+2<=W.heap.size->∀(n F O:Int),xss[i]? = some [vi n,Value.agg #[vu F,vi O]]->AW W #[vu 0,vi 0] 69 fun w'=>(wr w' W.heap.size 0/\wr w' W.heap.size 1)/\St (st w' W.heap.size 0 (vu F)) W.heap.size 1 (vi O) fun g=>BN f.heap.size W g/\∀(w2:WD),Kept (fun(b:Nat)=>b=f.heap.size+1) g w2->w2.heap.size=g.heap.size->Wp p (Rs w2 p 3 fun x q E=>∃(u y:Int),(rd w2 W.heap.size 0=some (.int .u8 u)/\rd w2 W.heap.size 1=some (.int .i64 y))/\AW w2 #[vi n,vu u,vi y] 149 fun w'=>∃(a:OA) (l c:Nat) (o:WD),BF prog #[144,144] 144 (sl x q E) (sl (aD w2.heap.size) 1 1) (sl a l c) w' o/\Wp p (Sw o (pb p) (po p+3) (sl a l c) fun w'=>BN f.heap.size w2 w'/\DA (fun(b:Nat)=>Y b\/R b) W w'/\I Y (i+1) w')))/\(∀(Y:NP) (W:WD),I Y (List.length xss) W->DC f.heap.size W->Wp p (∃(x q:Int) (E:OA) (u y:Nat) (G:OA) (H J:Nat) (z:OA) (A B:Nat) (C:OA) (D L:Nat),(rd W (pb p) (po p)=some (.int .i64 x)/\rd W (pb p) (po p+1)=some (.int .i64 q)/\rd W (pb p) (po p+2)=some (.slice E u y)/\rd W (pb p) (po p+3)=some (.slice G H J)/\rd W (pb p) (po p+4)=some (.slice z A B)/\rd W (pb p) (po p+5)=some (.slice C D L))/\(wr W w.heap.size 0/\wr W w.heap.size 1/\wr W w.heap.size 2/\wr W w.heap.size 3/\wr W w.heap.size 4/\wr W w.heap.size 5)/\St (st (st (st (st (st W w.heap.size 0 (vi x)) w.heap.size 1 (vi q)) w.heap.size 2 (sl E u y)) w.heap.size 3 (sl G H J)) w.heap.size 4 (sl z A B)) w.heap.size 5 (sl C D L) fun w'=>CG [f.heap.size,d.heap.size] w'/\∀(w2:WD),Kept (fun(b:Nat)=>List.Mem b [f.heap.size,d.heap.size]) w' w2->w2.heap.size=w'.heap.size->∃(x P:Int) (Q:OA) (S T:Nat) (U:OA) (V Z:Nat) (a0:OA) (a1 a2:Nat) (a3:OA) (a4 a5:Nat),(rd w2 w.heap.size 0=some (.int .i64 x)/\rd w2 w.heap.size 1=some (.int .i64 P)/\rd w2 w.heap.size 2=some (.slice Q S T)/\rd w2 w.heap.size 3=some (.slice U V Z)/\rd w2 w.heap.size 4=some (.slice a0 a1 a2)/\rd w2 w.heap.size 5=some (.slice a3 a4 a5))/\K (.agg #[vi x,vi P,sl Q S T,sl U V Z,sl a0 a1 a2,sl a3 a4 a5]) w2))/\(∀(Y:NP) (W:WD),X 0 Y W->DC f.heap.size W->CG [f.heap.size,d.heap.size] W/\∀(w2:WD),Kept (fun(b:Nat)=>List.Mem b [f.heap.size,d.heap.size]) W w2->w2.heap.size=W.heap.size->∃(x q:Int) (E:OA) (u y:Nat) (G:OA) (H J:Nat) (z:OA) (A B:Nat) (C:OA) (D L:Nat),(rd w2 w.heap.size 0=some (.int .i64 x)/\rd w2 w.heap.size 1=some (.int .i64 q)/\rd w2 w.heap.size 2=some (.slice E u y)/\rd w2 w.heap.size 3=some (.slice G H J)/\rd w2 w.heap.size 4=some (.slice z A B)/\rd w2 w.heap.size 5=some (.slice C D L))/\K (.agg #[vi x,vi q,sl E u y,sl G H J,sl z A B,sl C D L]) w2)/\True)))/\(∀(Y:NP) (W:WD),X 0 Y W->DC d.heap.size W->CG [d.heap.size] W/\∀(w2:WD),Kept (fun(b:Nat)=>List.Mem b [d.heap.size]) W w2->w2.heap.size=W.heap.size->∃(x j:Int) (q:OA) (E u:Nat) (y:OA) (G H:Nat) (J:OA) (z A:Nat) (B:OA) (C D:Nat),(rd w2 w.heap.size 0=some (.int .i64 x)/\rd w2 w.heap.size 1=some (.int .i64 j)/\rd w2 w.heap.size 2=some (.slice q E u)/\rd w2 w.heap.size 3=some (.slice y G H)/\rd w2 w.heap.size 4=some (.slice J z A)/\rd w2 w.heap.size 5=some (.slice B C D))/\K (.agg #[vi x,vi j,sl q E u,sl y G H,sl J z A,sl B C D]) w2)/\True)))):Ret 137 #[pt k,vi pid,pt s] w K:=vcA L5 3 [4000001,100100071] func137 h
theorem vc205(seq:Value)(w:WD)(K:KV)(h:Q (CS 250 #[sl none 0 0,seq] w fun a l c w'=>K (sl a l c) w')):Ret 205 #[seq] w K:=vcA L4 3 [] func205 h
theorem vc207(seq:Value)(w:WD)(K:KV)(h:Q (CS 254 #[sl none 0 0,seq] w fun a l c w'=>K (sl a l c) w')):Ret 207 #[seq] w K:=vcA L4 3 [] func207 h
theorem vc250b(s:OA)(sL sC:Nat)(j:OA)(w:WD)(K:KV)(h:Q (AW w #[sl s sL sC] 27 fun w'=>∃(xss:List (List Value)),∃(R:NP),∃(I:(NP)->Nat->WD->Prop),∃(X:Nat->(NP)->WD->Prop),(DW prog 251 [pt j] xss R w'/\(∀(xs:List Value),List.Mem xs xss->List.length xs=1/\∃(n:Int),xs=[vi n])/\∀(b:Nat),R b->Nat.succ b<=w'.heap.size)/\(∀(o:WD),Kept AB w' o->o.heap.size=w'.heap.size+2->I (fun(x:Nat)=>False) 0 o)/\(∀(Y:NP) (i:Nat) (W W':WD),I Y i W->(∀(b:Nat),Y b->w'.heap.size+2<=b)->Kept (DJ w'.heap.size Y) W W'->I (fun(b:Nat)=>Y b\/W.heap.size<=b/\Nat.succ b<=W'.heap.size) i W')/\(∀(k:Nat) (Y:NP) (W W':WD),X k Y W->(∀(b:Nat),Y b->w'.heap.size+2<=b)->Kept (DJ w'.heap.size Y) W W'->X k (fun(b:Nat)=>Y b\/W.heap.size<=b/\Nat.succ b<=W'.heap.size) W')/\(∀(Y:NP) (i:Nat) (W:WD),I Y i W->(∀(b:Nat),Y b->w'.heap.size+2<=b)->w'.heap.size+2<=W.heap.size->∀(n:Int),xss[i]? = some [vi n]->BN w'.heap.size W W/\∀(w2:WD),Kept (fun(b:Nat)=>b=w'.heap.size+1) W w2->w2.heap.size=W.heap.size->RS w2 w.heap.size 0 fun x f g=>AW w2 #[vi n] 3 fun p=>∃(a:OA) (l c:Nat) (h:WD),BF prog #[27,27] 27 (sl x f g) (sl (aD w2.heap.size) 1 1) (sl a l c) p h/\Sw h w.heap.size 0 (sl a l c) fun d=>BN w'.heap.size w2 d/\DA (fun(b:Nat)=>Y b\/R b) W d/\I Y (i+1) d)/\(∀(Y:NP) (W:WD),I Y (List.length xss) W->DC w'.heap.size W->RS W w.heap.size 0 fun x f g=>CG [w'.heap.size] W/\∀(w2:WD),Kept (fun(b:Nat)=>List.Mem b [w'.heap.size]) W w2->w2.heap.size=W.heap.size->K (sl x f g) w2)/\(∀(Y:NP) (W:WD),X 0 Y W->DC w'.heap.size W->CG [w'.heap.size] W/\∀(w2:WD),Kept (fun(b:Nat)=>List.Mem b [w'.heap.size]) W w2->w2.heap.size=W.heap.size->K (sl none 0 0) w2)/\True)):Ret 250 #[sl s sL sC,func (.func 251) #[] #[pt j]] w K:=vcA [] 2 [] func250 h
theorem vc251(l0:Nat)(a:OA)(w:WD)(K:KV)(h:Q (Wp a (Rp w a 0 fun x=>CP 252 #[pt x] w fun p w'=>Calls prog 253 #[pt p,vi 0] w' fun e w'=>∃(n:Int) (b:Bool),e=rT (.tuple #[vi n,bool b])/\∃(I:Int->Bool->WD->Nat->Prop),(∃(c:Nat),I n b w' c)/\∀(n:Int) (b:Bool) (w':WD) (c:Nat),I n b w' c->Wif b (E8 prog l0 [vi n] w' fun(r:Ending) (w':WD)=>∃(b:Bool),r=rT (bool b)/\Wif b (Calls prog 253 #[pt p,vi (wrap .i64 (n+1))] w' fun e w'=>∃(n:Int) (b:Bool),e=rT (.tuple #[vi n,bool b])/\Lt c fun m=>I n b w' m) (K (.tuple #[]) w')) (K (.tuple #[]) w')))):Ret 251 #[Value.func (Fn.yield l0) #[] #[],pt a] w K:=vcA L4 3 [1000015] func251 h
theorem vc252(s:OA)(w:WD)(K:KV)(h:Q (Wif (isNone s) (K (pt none) w) (Dr w fun d=>Wp s (Rs d s 0 fun x g h=>Wp s (Ri d s 1 fun b=>CS 277 #[sl x g h] d fun a l c w'=>Rt w' (pb s) (po s+1) (.int .i64 b)<|AW w' #[sl a l c,vi b] 212 fun f=>K (ptr w'.heap.size) f))))):Ret 252 #[pt s] w K:=vcA L4 3 [] func252 h
theorem vc253(s:OA)(from':Int)(w:WD)(K:KV)(h:Q (Calls prog 278 #[pt s,vi from',func (.func 279) #[] #[]] w fun e w'=>∃(n:Int) (b:Bool),e=rT (.tuple #[vi n,bool b])/\K (.tuple #[vi n,bool b]) w')):Ret 253 #[pt s,vi from'] w K:=vcA L4 3 [] func253 h
theorem vc254(s:OA)(sL sC:Nat)(y:OA)(w:WD)(K:KV)(h:Q (AW w #[sl s sL sC] 145 fun w'=>∃(xss:List (List Value)),∃(R:NP),∃(I:(NP)->Nat->WD->Prop),∃(X:Nat->(NP)->WD->Prop),(DW prog 255 [pt y] xss R w'/\(∀(xs:List Value),List.Mem xs xss->List.length xs=1/\∃(n h j:Int),xs=[Value.agg #[vi n,vi h,vu j]])/\∀(b:Nat),R b->Nat.succ b<=w'.heap.size)/\(∀(z:WD),Kept AB w' z->z.heap.size=w'.heap.size+2->I (fun(x:Nat)=>False) 0 z)/\(∀(Y:NP) (i:Nat) (W W':WD),I Y i W->(∀(b:Nat),Y b->w'.heap.size+2<=b)->Kept (DJ w'.heap.size Y) W W'->I (fun(b:Nat)=>Y b\/W.heap.size<=b/\Nat.succ b<=W'.heap.size) i W')/\(∀(k:Nat) (Y:NP) (W W':WD),X k Y W->(∀(b:Nat),Y b->w'.heap.size+2<=b)->Kept (DJ w'.heap.size Y) W W'->X k (fun(b:Nat)=>Y b\/W.heap.size<=b/\Nat.succ b<=W'.heap.size) W')/\(∀(Y:NP) (i:Nat) (W:WD),I Y i W->(∀(b:Nat),Y b->w'.heap.size+2<=b)->w'.heap.size+2<=W.heap.size->∀(n h j:Int),xss[i]? = some [Value.agg #[vi n,vi h,vu j]]->AW W #[vi 0,vi 0,vu 0] 324 fun d=>(wr d W.heap.size 0/\wr d W.heap.size 1/\wr d W.heap.size 2)/\St (st (st d W.heap.size 0 (vi n)) W.heap.size 1 (vi h)) W.heap.size 2 (vu j) fun f=>BN w'.heap.size W f/\∀(w2:WD),Kept (fun(b:Nat)=>b=w'.heap.size+1) f w2->w2.heap.size=f.heap.size->RS w2 w.heap.size 0 fun x o p=>∃(r t u:Int),(rd w2 W.heap.size 0=some (.int .i64 r)/\rd w2 W.heap.size 1=some (.int .i64 t)/\rd w2 W.heap.size 2=some (.int .u8 u))/\AW w2 #[vi r,vi t,vu u] 324 fun A=>∃(a:OA) (l c:Nat) (q:WD),BF prog #[145,145] 145 (sl x o p) (sl (aD w2.heap.size) 1 1) (sl a l c) A q/\Sw q w.heap.size 0 (sl a l c) fun g=>BN w'.heap.size w2 g/\DA (fun(b:Nat)=>Y b\/R b) W g/\I Y (i+1) g)/\(∀(Y:NP) (W:WD),I Y (List.length xss) W->DC w'.heap.size W->RS W w.heap.size 0 fun x o p=>CG [w'.heap.size] W/\∀(w2:WD),Kept (fun(b:Nat)=>List.Mem b [w'.heap.size]) W w2->w2.heap.size=W.heap.size->K (sl x o p) w2)/\(∀(Y:NP) (W:WD),X 0 Y W->DC w'.heap.size W->CG [w'.heap.size] W/\∀(w2:WD),Kept (fun(b:Nat)=>List.Mem b [w'.heap.size]) W w2->w2.heap.size=W.heap.size->K (sl none 0 0) w2)/\True)):Ret 254 #[sl s sL sC,func (.func 255) #[] #[pt y]] w K:=vcA [] 2 [] func254 h
theorem vc255(l0:Nat)(d:OA)(w:WD)(K:KV)(h:Q (Wp d (Rp w d 0 fun x=>Wif (isNone x) (K (.tuple #[]) w) (Wp d (Rp w d 0 fun x=>Wp x (Rs w x 0 fun p q s=>CS 256 #[sl p q s] w fun a l c w'=>∃(I:Int->WD->Nat->Prop),(∃(n:Nat),I 0 w' n)/\∀(n:Int) (w':WD) (h:Nat),I n w' h->Wif (decide (n<(↑l:Int))) (Wp a (Wn n l (∃(x i j:Int),(rd w' (pb a) (po a+Int.toNat n*3)=some (.int .i64 x)/\rd w' (pb a) (po a+Int.toNat n*3+1)=some (.int .i64 i)/\rd w' (pb a) (po a+Int.toNat n*3+2)=some (.int .u8 j))/\AW w' #[vi 0,vi 0,vu 0] 324 fun f=>(wr f w'.heap.size 0/\wr f w'.heap.size 1/\wr f w'.heap.size 2)/\St (st (st f w'.heap.size 0 (vi x)) w'.heap.size 1 (vi i)) w'.heap.size 2 (vu j) fun g=>∃(x k o:Int),(rd g w'.heap.size 0=some (.int .i64 x)/\rd g w'.heap.size 1=some (.int .i64 k)/\rd g w'.heap.size 2=some (.int .u8 o))/\E8 prog l0 [Value.agg #[vi x,vi k,vu o]] g fun(r:Ending) (w':WD)=>∃(b:Bool),r=rT (bool b)/\Wif (!b) (K (.tuple #[]) w') (Lt h fun m=>I (wrap .i64 (n+1)) w' m)))) (K (.tuple #[]) w'))))))):Ret 255 #[Value.func (Fn.yield l0) #[] #[],pt d] w K:=vcA L4 3 [1000017] func255 h
theorem vc256(s:OA)(sL sC:Nat)(w:WD)(K:KV)(h:Q (Wif (isNone s) (K (sl none 0 0) w) (AW w #[] 324 fun w'=>∃(a:OA) (l c:Nat) (b:WD),BF prog #[145,145] 145 (sl (aD w.heap.size) 0 0) (sl s sL sC) (sl a l c) w' b/\K (sl a l c) b))):Ret 256 #[sl s sL sC] w K:=vcA L4 3 [] func256 h
theorem vc257(l0:Nat)(a c:OA)(w:WD)(K:KV)(h:Q (∃(I:Int->WD->Nat->Prop),(∃(n:Nat),I 0 w n)/\∀(n:Int) (w':WD) (d:Nat),I n w' d->Wif (decide (n<32)) (Wp a (Rp w' a 0 fun x=>Wp c (Ri w' c 0 fun f=>CJ 49 #[pt x,vi f,vi (wrap .i64 (n*32))] w' fun g h w'=>Wif (h==0) (E8 prog l0 [vi n,vi g] w' fun(r:Ending) (w':WD)=>∃(b:Bool),r=rT (bool b)/\Wif (!b) (K (.tuple #[]) w') (Lt d fun m=>I (wrap .i64 (n+1)) w' m)) (Lt d fun m=>I (wrap .i64 (n+1)) w' m)))) (K (.tuple #[]) w'))):Ret 257 #[Value.func (Fn.yield l0) #[] #[],pt a,pt c] w K:=vcA L4 3 [1000021] func257 h
theorem vc258(l0:Nat)(c d:OA)(w:WD)(K:KV)(h:Q (∃(I:Int->WD->Nat->Prop),(∃(n:Nat),I 0 w n)/\∀(n:Int) (w':WD) (h:Nat),I n w' h->Wif (decide (n<1024)) (Wp c (Rp w' c 0 fun x=>Wp d (Ri w' d 0 fun o=>Calls prog 16 #[pt x,vi o,vi n] w' fun e w'=>∃(i j g:Int),e=rT (.tuple #[Value.agg #[vu i,vi j],vi g])/\AW w' #[vu 0,vi 0] 69 fun f=>(wr f w'.heap.size 0/\wr f w'.heap.size 1)/\St (st f w'.heap.size 0 (vu i)) w'.heap.size 1 (vi j) fun a=>∃(x:Int),((g==0)=true->rd a w'.heap.size 0=some (.int .u8 x))/\∃(k l:Int),((g==0&&x != 0)=true->rd a w'.heap.size 0=some (.int .u8 k)/\rd a w'.heap.size 1=some (.int .i64 l))/\Wif (g==0&&x != 0) (E8 prog l0 [vi n,Value.agg #[vu k,vi l]] a fun(r:Ending) (w':WD)=>∃(b:Bool),r=rT (bool b)/\Wif (!b) (K (.tuple #[]) w') (Lt h fun m=>I (wrap .i64 (n+1)) w' m)) (Lt h fun m=>I (wrap .i64 (n+1)) a m)))) (K (.tuple #[]) w'))):Ret 258 #[Value.func (Fn.yield l0) #[] #[],pt c,pt d] w K:=vcA L4 3 [1000025] func258 h
theorem vc277(s:OA)(sL sC:Nat)(w:WD)(K:KV)(h:Q (Wif (isNone s) (K (sl none 0 0) w) (AW w #[] 76 fun w'=>∃(a:OA) (l c:Nat) (b:WD),BF prog #[47,47] 47 (sl (aD w.heap.size) 0 0) (sl s sL sC) (sl a l c) w' b/\K (sl a l c) b))):Ret 277 #[sl s sL sC] w K:=vcA L4 3 [] func277 h
theorem vc278(s:OA)(from':Int)(w:WD)(K:KV)(h:Q (∃(I:Int->Bool->Int->WD->Nat->Prop),(∃(n:Nat),I 0 false (wrap .i64 (Int.tdiv (if 0>from' then 0 else from') 64)) w n)/\∀(n:Int) (b:Bool) (a:Int) (w':WD) (f:Nat),I n b a w' f->gIf (isP s) ((!isNone s)=true) (∃(x:Int),((!isNone s)=true->rd w' (pb s) (po s+1)=some (.int .i64 x))/\gIf (isP s) ((!isNone s&&decide ((if 0>from' then 0 else from')<x))=true) (∃(h:OA) (g i:Nat),((!isNone s&&decide ((if 0>from' then 0 else from')<x))=true->rd w' (pb s) (po s)=some (.slice h g i))/\Wif (!isNone s&&decide ((if 0>from' then 0 else from')<x)&&decide (a<(↑g:Int))) (Wp s (Rs w' s 0 fun x j k=>Wp x (Wn a j (∃(c:Int),rd w' (pb x) (po x+Int.toNat a*1)=some (.int .u64 c)/\Wif (a==wrap .i64 (Int.tdiv (if 0>from' then 0 else from') 64)) (Wif (decide (0<=Int.tmod (if 0>from' then 0 else from') 64)) (Wif (decide (0<=Int.tmod (if 0>from' then 0 else from') 64)) (CI 307 #[Value.int .u64 (wrap .u64 (Int.fdiv c (2^min (Int.toNat (Int.tmod (if 0>from' then 0 else from') 64)) 64)*2^min (Int.toNat (Int.tmod (if 0>from' then 0 else from') 64)) 64))] w' fun d w'=>gIf (isP s) ((wrap .u64 (Int.fdiv c (2^min (Int.toNat (Int.tmod (if 0>from' then 0 else from') 64)) 64)*2^min (Int.toNat (Int.tmod (if 0>from' then 0 else from') 64)) 64)!=0)=true) (∃(x:Int),((wrap .u64 (Int.fdiv c (2^min (Int.toNat (Int.tmod (if 0>from' then 0 else from') 64)) 64)*2^min (Int.toNat (Int.tmod (if 0>from' then 0 else from') 64)) 64)!=0)=true->rd w' (pb s) (po s+1)=some (.int .i64 x))/\Wif (wrap .u64 (Int.fdiv c (2^min (Int.toNat (Int.tmod (if 0>from' then 0 else from') 64)) 64)*2^min (Int.toNat (Int.tmod (if 0>from' then 0 else from') 64)) 64)!=0&&decide (wrap .i64 (wrap .i64 (a*64)+d)<x)) (K (.tuple #[vi (wrap .i64 (wrap .i64 (a*64)+d)),bool true]) w') (Lt f fun m=>I n b (wrap .i64 (a+1)) w' m))) False) False) (CI 307 #[Value.int .u64 c] w' fun d w'=>gIf (isP s) ((c != 0)=true) (∃(x:Int),((c != 0)=true->rd w' (pb s) (po s+1)=some (.int .i64 x))/\Wif (c != 0&&decide (wrap .i64 (wrap .i64 (a*64)+d)<x)) (K (.tuple #[vi (wrap .i64 (wrap .i64 (a*64)+d)),bool true]) w') (Lt f fun m=>I n b (wrap .i64 (a+1)) w' m))))))) (K (.tuple #[vi 0,bool false]) w'))))):Ret 278 #[pt s,vi from',func (.func 279) #[] #[]] w K:=vcA L6 3 [] func278 h
end Go.Proofs.YtdgbechegbmpcaaGreatDoor
namespace Go.Proofs.YtdgbechegbmpcaaGreatDoor
open Go Go.Eng Go.Proofs.Tryz
theorem ctz_bits{y:Nat}(h0:0<y)(h1:y<18446744073709551616):Lib.ctz 64 y<64/\y.testBit (Lib.ctz 64 y)=true/\∀j,j<Lib.ctz 64 y->y.testBit j=false:=by
 have e:Lib.ctz 64 y=Lib.ctzFrom 64 y:=by unfold Lib.ctz;rw [if_neg (by omega)]
 obtain⟨m,hm,hk⟩:=Lib.ctzFrom_spec 64 y h0 h1;rw [e];generalize Lib.ctzFrom 64 y=k at *;refine⟨hk,?_,fun j hj=>?_⟩
 ·rw [hm,Nat.mul_comm,Nat.testBit_mul_two_pow];simp
 ·rw [hm,Nat.mul_comm,Nat.testBit_mul_two_pow];simp;omega
theorem bit_cut(x f i:Nat):(x/2^f*2^f).testBit i=(decide (f<=i)&&x.testBit i):=by
 rw [Nat.testBit_mul_two_pow,Nat.testBit_div_two_pow];by_cases h:f<=i
 ·rw [show i-f+f=i by omega]
 ·simp [h]
theorem pinW_get(x:Nat){j:Nat}(hj:j<16):(MS x)[j]? = some (.int .u64 ((if j=0 then x else 0:Nat):Int)):=by
 unfold MS
 cases j with
 | zero=>rfl
 | succ j=>rw [List.getElem?_cons_succ,List.getElem?_replicate,if_pos (by omega),if_neg (by omega)];rfl
structure Bm(W:WD)(s:Nat)(a:OA)(c x:Nat):Prop where
 so:own W s [.slice a 16 c,vi 1024]
 ip:isP a=true
 z:∀j:Nat,j<16->rd W (pb a) (po a+j)=some (.int .u64 ((if j=0 then x else 0:Nat):Int))
def NxtB(x f:Nat)(n:Int)(b:Bool):Prop:=(∃i:Nat,f<=i/\i<32/\x.testBit i=true/\(∀j,f<=j->j<i->x.testBit j=false)/\n=i/\b=true)\/((∀j,f<=j->x.testBit j=false)/\n=0/\b=false)
theorem next_spec{W:WD}{s c x:Nat}{a:OA}(T:GF W)(h:Bm W s a c x)(hx:x<4294967296){f:Nat}(hf:f<=32):Calls prog 253 #[ptr s,vi f] W fun e w'=>w'=W/\∃n b,e=.returned (.tuple #[vi n,.bool b])/\NxtB x f n b:=by
 have hhi:∀i,x.testBit i=true->i<32:=fun i hi=>by
  have h1:=Nat.ge_two_pow_of_testBit hi;have h2:2^i<2^32:=by omega
  exact(Nat.pow_lt_pow_iff_right (by decide)).1 h2
 refine(vc253 _ f W (fun v w'=>w'=W/\∃n b,v=.tuple #[vi n,.bool b]/\NxtB x f n b) ?_).mono ?_
 rotate_left
 ·rintro e w' ⟨v,rfl,h,n,b,rfl,h2⟩;exact⟨h,n,b,rfl,h2⟩
 unfold Q;refine(vc278 _ f W (fun v w'=>∃n b,v=.tuple #[vi n,.bool b]/\w'=W/\NxtB x f n b) ?_).mono ?_
 rotate_left
 ·rintro e w' ⟨v,rfl,n,b,rfl,h,h2⟩;exact⟨n,b,rfl,h,n,b,rfl,h2⟩
 have r1:rd W s (0+1)=some (vi 1024):=by rw [h.so.rd];rfl
 have r0:rd W s 0=some (.slice a 16 c):=by rw [h.so.rd];rfl
 unfold Q;have e0:(if (0:Int)>(f:Int) then(0:Int) else(f:Int))=f:=if_neg (by omega);rw [e0];have etm:Int.tmod (f:Int) 64=f:=by rw [Int.tmod_eq_emod_of_nonneg (by omega)];omega
 have eq0:IntKind.wrap .i64 (Int.tdiv (f:Int) 64)=0:=by
  rw [Int.tdiv_eq_ediv_of_nonneg (by omega),wi (by omega)];omega
 rw [eq0,etm,tnc,Nat.min_eq_left (show f<=64 by omega)];have ey:IntKind.wrap .u64 (Int.fdiv (x:Int) (2^f)*2^f)=((x/2^f*2^f:Nat):Int):=by
  have h1:Int.fdiv (x:Int) (2^f)=((x/2^f:Nat):Int):=by
   rw [Int.fdiv_eq_ediv_of_nonneg _ (Int.pow_nonneg (by decide))];simp
  have h2:x/2^f*2^f<=x:=Nat.div_mul_le_self _ _;have h3:Int.fdiv (x:Int) (2^f)*2^f=((x/2^f*2^f:Nat):Int):=by rw [h1];simp
  rw [h3];exact wu (by omega)
 have hyb:x/2^f*2^f<=x:=Nat.div_mul_le_self _ _;refine⟨fun n b q w' N=>n=0/\b=false/\∃j:Nat,q=j/\j<=16/\N=16-j/\w'=W/\(0<j->∀i,f<=i->x.testBit i=false),⟨16,rfl,rfl,0,rfl,by omega,rfl,rfl,fun h=>absurd h (Nat.lt_irrefl _)⟩,?_⟩;rintro _ _ _ w1 _ ⟨rfl,rfl,j,rfl,hj,rfl,hw,hno⟩;rw [hw];refine AF (fun _=>rfl) ⟨_,(fun _=>r1),AF (fun _=>rfl) ⟨_,_,_,(fun _=>r0),AE (fun hc=>?_) (fun hc=>?_)⟩⟩
 rotate_left
 ·have hj16:j=16:=by
   simp at hc;omega
  exact⟨0,false,rfl,rfl,.inr ⟨hno (by omega),rfl,rfl⟩⟩
 have hj16:j<16:=by simp at hc;omega
 refine AA rfl ⟨_,_,_,r0,AA h.ip (Wi ⟨((if j=0 then x else 0:Nat):Int),by rw [tnc,mo];exact h.z j hj16,?_⟩)⟩;by_cases hj0:j=0
 ·subst hj0;rw [if_pos rfl];refine AA (by rfl) (AA (by simp) (AA (by simp) ?_));rw [ey];generalize hy:x/2^f*2^f=y at *;have hbit:∀i,y.testBit i=(decide (f<=i)&&x.testBit i):=fun i=>by rw [<- hy];exact bit_cut x f i
  refine(tz_spec T y (by omega)).mono ?_;rintro _ wx ⟨rfl,hx'⟩;rw [hx'];refine⟨_,rfl,AF (fun _=>rfl) ⟨1024,(fun _=>r1),?_⟩⟩;by_cases hy0:y=0
  ·refine AG (by simp [hy0]) ⟨16-1,by omega,rfl,rfl,1,wzz,by omega,rfl,rfl,fun _ i hi=>?_⟩;have:=hbit i;rw [hy0,Nat.zero_testBit] at this;simpa [hi] using this.symm
  ·obtain⟨c1,c2,c3⟩:=ctz_bits (Nat.pos_of_ne_zero hy0) (by omega:y<18446744073709551616);generalize Lib.ctz 64 y=k at *;rw [hbit] at c2;simp at c2;have hk:=hhi k c2.2;have e1:IntKind.wrap .i64 (IntKind.wrap .i64 (((0:Nat):Int)*64)+(k:Int))=k:=by
    have:IntKind.wrap .i64 (((0:Nat):Int)*64)=0:=by decide
    rw [this,Int.zero_add,wi (by omega)]
   rw [e1];refine AA (by simp;omega) ⟨k,true,rfl,rfl,.inl ⟨k,c2.1,hk,c2.2,fun i hi hik=>?_,rfl,rfl⟩⟩;have:=c3 i hik;rw [hbit] at this;simpa [hi] using this
 ·rw [if_neg hj0];refine AG (by simp;omega) ((tz_spec T 0 (by decide)).mono ?_);rintro _ wx ⟨rfl,hx'⟩;rw [hx'];exact⟨_,rfl,AF (fun e=>by simp at e) ⟨0,(fun e=>by simp at e),AG rfl ⟨16-(j+1),by omega,rfl,rfl,j+1,wzz,by omega,rfl,rfl,fun _=>hno (by omega)⟩⟩⟩
theorem elU64:ElT prog 47 76 1:=elT (z:=.int .u64 0) underlying47 (by kernel_rfl) rfl (by decide)
theorem bcopy_spec{W:WD}{s wb x:Nat}(h:own W s [.slice (some ⟨wb,0,none⟩) 16 16,vi 1024])(hw:own W wb (MS x)) :
 Calls prog 252 #[ptr s] W fun e w'=>∃s' a c,e=.returned (ptr s')/\Kept AB W w'/\Bm w' s' a c x/\W.heap.size<=s'/\W.heap.size<=pb a:=by
 refine(vc252 _ W (fun v w'=>∃s' a c,v=ptr s'/\Kept AB W w'/\Bm w' s' a c x/\W.heap.size<=s'/\W.heap.size<=pb a) ?_).mono ?_
 rotate_left
 ·rintro e w' ⟨v,rfl,s',a,c,rfl,h⟩;exact⟨s',a,c,rfl,h⟩
 unfold Q;refine AG rfl fun w1 e1=>?_;have k1:=kdr e1;have h1:=h.k k1;have r1:rd w1 s (0+1)=some (vi 1024):=by rw [h1.rd];rfl
 refine AA rfl ⟨_,_,_,by show rd w1 s 0=_;rw [h1.rd];rfl,AA rfl ⟨1024,r1,?_⟩⟩;refine(vc277 _ 16 16 w1 (fun v w'=>∃a c,v=.slice a 16 c/\Kept AB w1 w'/\w'.ownsRow w1.heap.size 76 1 (.slice a 16 c) 16 (MS x)) ?_).mono ?_
 ·unfold Q;refine AG rfl fun w2 e2=>?_;have k2:=kal e2;have row2:=row0 (t:=76) (s:=1) e2;obtain⟨i,z,hi,hz,hsz,hzs,hby⟩:=elU64.ex
  obtain⟨a',c',w3,happ,row3,k3⟩:=Eng.app (P:=prog) (t:=47) (ty:=47) (e:=76) (i:=i) (z:=z) (size:=1) underlying47 hi hz hsz hzs (by decide) row2 (Eng.Src.of_own (X:=wb) (off:=0) (l:=16) (c:=16) ((hw.k k1).k k2) (xs:=MS x) fun j u hu=>by rw [za];exact hu) (by simp [MS]) (fun u hu=>by
   rcases List.mem_cons.1 hu with rfl|hu
   ·rfl
   ·have:=List.eq_of_mem_replicate hu
    subst this;rfl) (by omega) (by omega) k2.sz
  exact⟨a',_,c',w3,happ,a',c',rfl,BD k2 k3 fun x e=>by have:=(row2.lt x e).1;exact this,by simpa using row3⟩
 ·rintro e w2 ⟨v,rfl,a,c,rfl,k2,row⟩;refine⟨a,16,c,rfl,⟨k2.rd_some r1 id,trivial⟩,fun w3 e3=>?_⟩;have k3:=kal e3;have S:=(Eng.Src.of_row row).k k3;refine⟨_,a,c,rfl,(k1.tr k2).tr k3,⟨AD e3,S.isp (by simp [MS]),fun j hj=>S.rd (pinW_get x hj)⟩,(k1.tr k2).sz,?_⟩;rcases (BZ row).2 with⟨_,h0,_⟩|⟨g,cs,rfl,hb,_⟩
  ·omega
  ·exact Nat.le_trans k1.sz hb
def KP(x:Nat):List Nat:=(List.range 32).filter fun i=>x.testBit i
theorem fil_at{p:Nat->Bool}{n i:Nat}(hi:i<n)(hp:p i=true):((List.range n).filter p)[((List.range i).filter p).length]? = some i:=by
 induction n with
 | zero=>omega
 | succ n ih=>
  rw [List.range_succ,List.filter_append];by_cases e:i=n
  ·subst e;rw [gar (nlr _),Nat.sub_self];simp [hp]
  ·have h:=ih (by omega);rw [gal (D5.1 h).1];exact h
theorem fil_len{p:Nat->Bool}{f i:Nat}(hf:f<=i)(hp:∀j,f<=j->j<i->p j=false):((List.range i).filter p).length=((List.range f).filter p).length:=by
 induction i with
 | zero=>rw [show f=0 by omega]
 | succ i ih=>
  by_cases e:f=i+1
  ·rw [e]
  ·rw [List.range_succ,List.filter_append,lap,ih (by omega) fun j h1 h2=>hp j h1 (by omega)];simp [hp i (by omega) (by omega)]
theorem fil_succ{p:Nat->Bool}{i:Nat}(hp:p i=true):((List.range (i+1)).filter p).length=((List.range i).filter p).length+1:=by
 rw [List.range_succ,List.filter_append,lap];simp [hp]
theorem Bm.eq{W W':WD}{s c x:Nat}{a:OA}(h:Bm W s a c x)(e1:W'.heap[s]? = W.heap[s]?)(e2:W'.heap[pb a]? = W.heap[pb a]?):Bm W' s a c x:=
 ⟨by obtain⟨t,ht⟩:=h.so;exact⟨t,e1.trans ht⟩,h.ip,fun j hj=>by rw [EL,e2,<- EL];exact h.z j hj⟩
theorem pins_gives{w:WD}{cb s wb x:Nat}(T:GF w)(hc:rd w cb 0=some (ptr s))(h:own w s [.slice (some ⟨wb,0,none⟩) 16 16,vi 1024])(hw:own w wb (MS x))(hx:x<4294967296):DW prog 251 [ptr cb] (((KP x).map fun(i:Nat)=>(i:Int)).map fun x=>[vi x]) (·=tzB) w:=by
 refine⟨fun y J Jx W hk hab habx hY h0=>?_⟩;refine(vc251 y (some ⟨cb,0,none⟩) W (fun v w'=>(∃Y,J Y (((KP x).map fun(i:Nat)=>(i:Int)).map fun x=>[vi x]).length w')\/∃Y,Jx Y w') ?_).mono ?_
 rotate_left
 ·rintro e w' ⟨v,rfl,hw⟩;exact⟨⟨v,rfl⟩,hw⟩
 unfold Q;refine AA rfl ⟨_,hk.rd_some hc id,(bcopy_spec (h.k hk) (hw.k hk)).mono ?_⟩;rintro _ w1 ⟨s',a,c,rfl,k1,B,hs1,hs2⟩;have T1:=(T.k hk).k k1;have hs3:=B.so.lt;have hs4:=KO (B.z 0 (by decide));refine⟨_,rfl,(next_spec T1 B hx (f:=0) (by omega)).mono ?_⟩;rintro _ wx ⟨hwx,n,b,rfl,N0⟩;rw [hwx];refine⟨_,_,rfl,fun n b W' N=>∃(f:Nat) (Y:NP),f<=32/\NxtB x f n b/\N=32-f/\J Y ((List.range f).filter fun i=>x.testBit i).length W'/\Y s'/\Y (pb a)/\W'.heap[s']? = w1.heap[s']? /\ W'.heap[pb a]? = w1.heap[pb a]? /\ W'.heap[tzB]? = w1.heap[tzB]?,
  ⟨32,0,_,by omega,N0,rfl,hab _ _ _ _ h0 (k1.mono fun _ _ e=>e.elim),.inr ⟨hs1,hs3⟩,.inr ⟨hs2,hs4⟩,rfl,rfl,rfl⟩,?_⟩
 rintro _ _ w3 _ ⟨f,Y,hf,NX,rfl,hJ,y1,y2,q1,q2,q3⟩;rcases NX with⟨i,hfi,hi,hb,hno,rfl,rfl⟩|⟨hno,rfl,rfl⟩
 ·have el:=fil_len (p:=fun i=>x.testBit i) hfi hno
  have hy:=hY Y _ [vi i] w3 (by
   rw [<- el,gmp,gmp];have:=fil_at (p:=fun i=>x.testBit i) hi hb;unfold KP;rw [this];rfl) hJ
  obtain⟨fn,tm,asg',bo,hrun,hR⟩:=hy.run;refine AA rfl ⟨fn,tm,asg',bo,hrun,hR.mono ?_⟩;rintro en w6 ⟨k6,⟨rfl,hJ6⟩|⟨rfl,hx6⟩⟩
  ·have p1:=(k6.blk _ (.inl y1)).trans q1;have p2:=(k6.blk _ (.inl y2)).trans q2;have p3:=(k6.blk _ (.inr rfl)).trans q3;rw [wi (by omega)];refine⟨true,rfl,AA rfl ((next_spec (T1.eq p3) (B.eq p1 p2) hx (f:=i+1) (by omega)).mono ?_)⟩;rintro _ w7 ⟨hw7,n,b,rfl,N7⟩;rw [hw7];exact⟨n,b,rfl,32-(i+1),by omega,i+1,Y,by omega,N7,rfl,by rw [fil_succ (p:=fun i=>x.testBit i) hb,el];exact hJ6,y1,y2,p1,p2,p3⟩
  ·exact⟨false,rfl,AG rfl (.inr ⟨_,hx6⟩)⟩
 ·refine AG rfl (.inl ⟨Y,?_⟩);have el:=fil_len (p:=fun i=>x.testBit i) hf fun j h1 _=>hno j h1;rw [lmp,lmp];unfold KP;rw [el];exact hJ
theorem runs_gives{w:WD}{cb s:Nat}(hc:rd w cb 0=some (ptr s))(h:own w s [.slice none 0 0]):DW prog 255 [ptr cb] [] (fun _=>False) w:=by
 refine⟨fun y J Jx W hk hab habx hY h0=>?_⟩;refine(vc255 y (some ⟨cb,0,none⟩) W (fun v w'=>(∃Y,J Y ([]:List (List Value)).length w')\/∃Y,Jx Y w') ?_).mono ?_
 rotate_left
 ·rintro e w' ⟨v,rfl,hw⟩;exact⟨⟨v,rfl⟩,hw⟩
 unfold Q;refine AA rfl ⟨_,hk.rd_some hc id,AG rfl (AA rfl ⟨_,hk.rd_some hc id,AA rfl ⟨none,0,0,by show rd W s 0=_;rw [(h.k hk).rd];rfl,?_⟩⟩)⟩;refine(vc256 none 0 0 W (fun v w'=>v=.slice none 0 0/\w'=W) (by unfold Q;exact AA rfl ⟨rfl,rfl⟩)).mono ?_;rintro _ wx ⟨v,rfl,rfl,hx⟩;rw [hx];refine⟨_,_,_,rfl,fun n W' _=>n=0/\W'=W,⟨0,rfl,rfl⟩,?_⟩;rintro _ w2 _ ⟨rfl,hw2⟩;rw [hw2];exact AG rfl (.inl ⟨_,h0⟩)
theorem appP_ok{w:WD}{c:Nat}{xs:List Int}{R:NP}(hg:∀w',Kept AB w w'->DW prog 251 [ptr c] (xs.map fun x=>[vi x]) R w')(hR:∀b,R b->b<w.heap.size)(hl:xs.length<=100000) :
 Calls prog 250 #[.slice none 0 0,.func (.func 251) #[] #[ptr c]] w fun e w'=>∃(a:OA) (l c:Nat),e=.returned (.slice a l c)/\BK w' w.heap.size a l c xs/\Kept AB w w':=by
 refine(vc250b none 0 0 (some ⟨c,0,none⟩) w (fun v w'=>∃(a:OA) (l c:Nat),v=.slice a l c/\BK w' w.heap.size a l c xs/\Kept AB w w') ?_).mono ?_
 rotate_left
 ·rintro e w' ⟨v,rfl,a,l,c,rfl,hw⟩;exact⟨a,l,c,rfl,hw⟩
 unfold Q;intro w4 e4;have hx:=AD (c:=[.slice none 0 0]) e4;have k4:=kal e4;have hs4:w4.heap.size=w.heap.size+1:=by rw [e4];simp only [World.alloc,Array.size_push]
 have hR':∀b,R b->b<w4.heap.size/\b≠w.heap.size:=fun b hb=>by have:=hR b hb;omega
 have eT:ElT prog 27 3 1:=elT59;refine⟨xs.map fun x=>[vi x],R,PY w.heap.size w4.heap.size w4 3 1 (fun x=>[vi x]) xs,fun _ _ _=>False,⟨hg w4 k4,fun ys hx=>?_,fun b h=>(hR' b h).1⟩,fun w1 k1 _=>?_,fun Y i W W' h hY k'=>h.ab (by omega) rfl hY k',fun _ _ _ _ h=>h.elim,fun Y i W h hY hsz p hv=>?_,fun Y W h hd=>?_,fun _ _ h=>h.elim,trivial⟩
 ·obtain⟨x,_,rfl⟩:=List.mem_map.1 hx;exact⟨rfl,x,rfl⟩
 ·exact⟨k1.mono fun _ _ h=>h.elim,Nat.zero_le _,none,0,hx.k k1,World.ownsRow_nil _ _ _ _,fun x h=>h.elim⟩
 ·have hx:xs[i]? = some p:=by
   rw [gmp] at hv
   cases hh:xs[i]? with
   | none=>rw [hh] at hv;cases hv
   | some x=>rw [hh] at hv;simp at hv;rw [hv]
  refine⟨CY (Kept.refl AB W) (by omega) id id,fun w7 k7 hs7=>?_⟩;obtain⟨a,cc,h1,h2⟩:=h.step eT (by omega) rfl hY hsz hl hR' hx (fun _=>rfl) oneV k7 fun b hb=>.inl hb;exact⟨a,i,cc,h1,fun w8 e8=>h2 w8 e8⟩
 ·rw [lmp] at h;have hd':CG [w4.heap.size] W:=⟨by simp,fun D hD=>by simp at hD;subst hD;exact hd.at_⟩;obtain⟨a,cc,hr,_⟩:=h.fin (w2:=W) (by omega) rfl k4 rfl ((Kept.refl (fun _=>False) W).mono fun _ _ e=>e.elim);refine⟨a,_,cc,hr,hd',fun w2 k2 hs2=>?_⟩;obtain⟨a2,cc2,hr2,row,kk⟩:=h.fin (w2:=w2) (by omega) rfl k4 rfl k2;rw [hr] at hr2
  cases hr2
  exact⟨a,_,cc,rfl,⟨rfl,by rw [MX];exact row⟩,kk⟩
def NoL(a:OA)(l c:Nat):Prop:=l=0/\(a=none->c=0)/\c<=maxLen
theorem NoL.slR{α:Type}{R:Rd α}{s:Nat}{w:WD}{a:OA}{l c:Nat}(h:NoL a l c):SlR R s w a l c ([]:List α):=by
 obtain⟨rfl,h1,h2⟩:=h;exact⟨rfl,fun h=>absurd h (Nat.lt_irrefl _),h1,Nat.zero_le _,h2,fun i x hx=>by simp at hx,fun o ho=>by rw [Nat.zero_mul] at ho;omega⟩
theorem noL_row{w:WD}{base e s n l c:Nat}{a:OA}{xs:List Value}(h:w.ownsRow base e s (.slice a l c) n xs)(hn:n=0):NoL a l c:=by
 rcases h.2 with⟨h0,_⟩|⟨g,cap,cur,hv,_,_,_,hm,_⟩
 ·cases h0;exact⟨rfl,fun _=>rfl,Nat.zero_le _⟩
 ·cases hv;exact⟨hn,(fun e=>by cases e),hm⟩
theorem pins_spec{w:WD}{cb s wb x:Nat}(T:GF w)(hc:rd w cb 0=some (ptr s))(h:own w s [.slice (some ⟨wb,0,none⟩) 16 16,vi 1024])(hw:own w wb (MS x))(hx:x<4294967296) :
 Calls prog 205 #[.func (.func 251) #[] #[ptr cb]] w fun e w'=>∃a l c,e=.returned (.slice a l c)/\Kept AB w w':=by
 refine(vc205 _ w (fun v w'=>∃a l c,v=.slice a l c/\Kept AB w w') ?_).mono ?_
 rotate_left
 ·rintro e w' ⟨v,rfl,a,l,c,rfl,h⟩;exact⟨a,l,c,rfl,h⟩
 unfold Q;have hl:((KP x).map fun(i:Nat)=>(i:Int)).length<=100000:=by
  rw [lmp];have:(KP x).length<=(List.range 32).length:=List.length_filter_le _ _;simp at this;omega
 refine(appP_ok (fun w' k=>pins_gives (T.k k) (k.rd_some hc id) (h.k k) (hw.k k) hx) (fun _ e=>e▸T.lt) hl).mono ?_;rintro _ w1 ⟨a,l,c,rfl,R,k⟩;exact⟨a,l,c,rfl,a,l,c,rfl,k⟩
theorem runs_spec{w:WD}{cb s:Nat}(hc:rd w cb 0=some (ptr s))(h:own w s [.slice none 0 0]) :
 Calls prog 207 #[.func (.func 255) #[] #[ptr cb]] w fun e w'=>∃a l c,e=.returned (.slice a l c)/\Kept AB w w'/\NoL a l c:=by
 refine(vc207 _ w (fun v w'=>∃a l c,v=.slice a l c/\Kept AB w w'/\NoL a l c) ?_).mono ?_
 rotate_left
 ·rintro e w' ⟨v,rfl,a,l,c,rfl,h⟩;exact⟨a,l,c,rfl,h⟩
 unfold Q;refine(vc254 none 0 0 (some ⟨cb,0,none⟩) w (fun v w'=>∃a l c,v=.slice a l c/\Kept AB w w'/\NoL a l c) ?_).mono ?_
 rotate_left
 ·rintro e w' ⟨v,rfl,a,l,c,rfl,h⟩;exact⟨a,l,c,rfl,a,l,c,rfl,h⟩
 unfold Q;intro w4 e4;have hx:=AD (c:=[.slice none 0 0]) e4;have k4:=kal e4;have hs4:w4.heap.size=w.heap.size+1:=by rw [e4];simp only [World.alloc,Array.size_push]
 refine⟨[],fun _=>False,PY w.heap.size w4.heap.size w4 324 3 (fun x:Int=>[vi x,vi x,.int .u8 x]) [],fun _ _ _=>False,⟨runs_gives (k4.rd_some hc id) (h.k k4),(fun ys hx=>by cases hx),fun b h=>h.elim⟩,fun w1 k1 _=>?_,fun Y i W W' h hY k'=>h.ab (by omega) rfl hY k',fun _ _ _ _ h=>h.elim,(fun Y i W h hY hsz n n1 n2 hv=>by cases hv),fun Y W h hd=>?_,fun _ _ h=>h.elim,trivial⟩
 ·exact⟨k1.mono fun _ _ h=>h.elim,Nat.zero_le _,none,0,hx.k k1,World.ownsRow_nil _ _ _ _,fun x h=>h.elim⟩
 ·have hd':CG [w4.heap.size] W:=⟨by simp,fun D hD=>by simp at hD;subst hD;exact hd.at_⟩;obtain⟨a,cc,hr,_⟩:=h.fin (w2:=W) (by omega) rfl k4 rfl ((Kept.refl (fun _=>False) W).mono fun _ _ e=>e.elim);refine⟨a,_,cc,hr,hd',fun w2 k2 hs2=>?_⟩;obtain⟨a2,cc2,hr2,row,kk⟩:=h.fin (w2:=w2) (by omega) rfl k4 rfl k2;rw [hr] at hr2
  cases hr2
  exact⟨a,_,cc,rfl,kk,noL_row row rfl⟩
end Go.Proofs.YtdgbechegbmpcaaGreatDoor
