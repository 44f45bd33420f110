/- Part of a proof that a law returns true. Conditions: those in each theorem. -/
import Derived.Test.YtdgbechegbmpcaaGreatDoorB0
import Derived.Test.YtdgbechegbmpcaaGreatDoorX7
set_option linter.unusedVariables false
set_option linter.unusedSimpArgs false
set_option maxRecDepth 100000
namespace Go.Proofs.YtdgbechegbmpcaaGreatDoor
open Go Go.Eng Go.Proofs.Tryz
open Go.Value (bool func)
open Option (isNone)
open Go.IntKind (wrap)
theorem vc13(t:OA)(cpu:Int)(w:WD)(K:KV)(h:Q (CP 45 #[pt t,vi cpu] w fun p w'=>gIf (isP p) ((!isNone p)=true) (∃(x:Value),((!isNone p)=true->rd w' (pb p) (po p)=some x)/\gIf (okF x) ((!isNone p)=true) (K (.bool (!isNone p&&isF x)) w')))):Ret 13 #[pt t,vi cpu] w K:=vcA L7 2 [] func13 h
theorem vc14(t:OA)(cpu:Int)(fail:Bool)(w:WD)(K:KV)(h:Q (CP 45 #[pt t,vi cpu] w fun p w'=>CB 46 #[pt t] w' fun b w'=>Wif (!b) (K (.tuple #[bool false,vi 1]) w') (Wif (isNone p) (K (.tuple #[bool false,vi 2]) w') (Wp p (Rv w' p 0 fun x=>Wif (okF x) (Wif (!isF x) (K (.tuple #[bool false,vi 220]) w') (Wp p (Ri w' p 1 fun x=>Wp p (Sw w' (pb p) (po p+1) (vi (wrap .i64 (x+1))) fun a=>Wp p (Rv a p 0 fun x=>AM prog x [bool fail] a fun e w'=>∃(v:Value),e=rT v/\Wp p (Wif (okF v) (Sw w' (pb p) (po p) v fun c=>Wp p (Rv c p 0 fun x=>Wif (okF x) (K (.tuple #[bool !isF x,vi 0]) c) False)) False)))))) False))))):Ret 14 #[pt t,vi cpu,bool fail] w K:=vcA L7 2 [2000036] func14 h
theorem vc44(t:OA)(cpu:Int)(s:Value)(w:WD)(K:KV)(h:Q (CP 45 #[pt t,vi cpu] w fun p w'=>CB 46 #[pt t] w' fun b w'=>Wif (!b) (K (vi 1) w') (gIf (okF s) (isNone p=false) (Wif (isNone p||!isF s) (K (vi 2) w') (Wp p (Rv w' p 0 fun x=>Wif (okF x) (Wif (isF x) (K (vi 80) w') (Wp p (Wif (okF s) (Sw w' (pb p) (po p) s fun a=>K (vi 0) a) False))) False)))))):Ret 44 #[pt t,vi cpu,s] w K:=vcA L7 2 [] func44 h
theorem vc32(AO:Int)(w:WD)(K:KV)(h:Q (Wif (I6 16 (if 16<if 0>AO then 0 else AO then 16 else if 0>AO then 0 else AO) (if 16<if 0>AO then 0 else AO then 16 else if 0>AO then 0 else AO)) (AW w (DK #[Value.nilFunc,vi 0] 2 (Int.toNat (if 16<if 0>AO then 0 else AO then 16 else if 0>AO then 0 else AO))) 129 fun w'=>AW w' #[sl (aD w.heap.size) (Int.toNat (if 16<if 0>AO then 0 else AO then 16 else if 0>AO then 0 else AO)) (Int.toNat (if 16<if 0>AO then 0 else AO then 16 else if 0>AO then 0 else AO))] 202 fun a=>K (ptr w'.heap.size) a) False)):Ret 32 #[vi AO] w K:=vcA L7 2 [] func32 h
theorem vc45(t:OA)(cpu:Int)(w:WD)(K:KV)(h:Q (Wif (decide (cpu<0)) (K (pt none) w) (CI 126 #[pt t] w fun n w'=>Wif (decide (cpu>=n)) (K (pt none) w') (Wp t (Rs w' t 0 fun x a b=>Wp x (Wn cpu a (K (pt (some (Addr.mk (pb x) (po x+Int.toNat cpu*2) none))) w'))))))):Ret 45 #[pt t,vi cpu] w K:=vcA L7 2 [] func45 h
theorem vc46(t:OA)(w:WD)(K:KV)(h:Q (gIf (isP t) ((!isNone t)=true) (∃(x:OA) (a b:Nat),((!isNone t)=true->rd w (pb t) (po t)=some (.slice x a b))/\K (.bool (!isNone t&&!isNone x)) w))):Ret 46 #[pt t] w K:=vcA L7 2 [] func46 h
theorem vc184(t:OA)(who lock:Int)(then':Value)(w:WD)(K:KV)(h:Q (AW w #[pt t] 40 fun w'=>AW w' #[vi who] 3 fun b=>AW b #[vi lock] 3 fun c=>AW c (Value.cells then') 123 fun a=>AW a #[Value.nilFunc] 123 fun f=>Sw f a.heap.size 0 (func (.func 232) #[] #[bp w,bp w',bp b,bp a,bp c]) fun d=>RV d a.heap.size 0 fun x=>K x d)):Ret 184 #[pt t,vi who,vi lock,then'] w K:=vcA L7 2 [] func184 h
theorem vc232(x0:Bool)(a c d f g:OA)(w:WD)(K:KV)(h:Q (Wp a (Rp w a 0 fun x=>Wp c (Ri w c 0 fun h=>Wp d (Ri w d 0 fun i=>Calls prog 233 #[pt x,vi h,vi i] w fun e w'=>∃(b:Bool) (n:Int),e=rT (.tuple #[bool b,vi n])/\Wif (n != 0) (K Value.nilFunc w') (Wif (!b) (Wp f (Rv w' f 0 fun x=>K x w')) (Wp g (Rv w' g 0 fun x=>K x w')))))))):Ret 232 #[bool x0,pt a,pt c,pt d,pt f,pt g] w K:=vcA L7 2 [] func232 h
theorem vc233(t:OA)(who lock:Int)(w:WD)(K:KV)(h:Q (gIf (isP t) (isNone t=false) (∃(x:Bool),(isNone t=false->rd w (pb t) (po t+65)=some (.bool x))/\Wif (isNone t||!x) (K (.tuple #[bool false,vi 1]) w) (gIf (isP t) ((decide (who<0)||decide (lock<0))=false) (∃(x:Int),((decide (who<0)||decide (lock<0))=false->rd w (pb t) (po t)=some (.int .i64 x))/\Wif (decide (who<0)||decide (lock<0)||decide (lock>=x)) (K (.tuple #[bool false,vi 2]) w) (Dr w fun f=>Wp t (Wp t (Ri f t 0 fun x=>Wif (CN lock x 64) (∃(I:Bool->Int->Int->WD->Nat->Prop),(∃(n:Nat),I false 0 0 f n)/\∀(b:Bool) (n a:Int) (w':WD) (c:Nat),I b n a w' c->Wif (decide (a<(↑(Int.toNat x-Int.toNat lock):Int))) (Wp (BJ (some (Addr.mk (pb t) (po t+1) none)) 64 (Int.toNat lock) 1) (Wn a (Int.toNat x-Int.toNat lock) (RI w' (pb (BJ (some (Addr.mk (pb t) (po t+1) none)) 64 (Int.toNat lock) 1)) (po (BJ (some (Addr.mk (pb t) (po t+1) none)) 64 (Int.toNat lock) 1)+Int.toNat a*1) fun x=>Wif (x==wrap .i64 (who+1)) (K (.tuple #[bool false,vi 50]) w') (Lt c fun m=>I b n (wrap .i64 (a+1)) w' m)))) (Wp t (Wn lock 64 (RI w' (pb t) (po t+1+Int.toNat lock*1) fun x=>Wif (x != 0) (K (.tuple #[bool false,vi 0]) w') (Wp t (Wn lock 64 (Sw w' (pb t) (po t+1+Int.toNat lock*1) (vi (wrap .i64 (who+1))) fun d=>K (.tuple #[bool true,vi 0]) d))))))) False)))))))):Ret 233 #[pt t,vi who,vi lock] w K:=vcA L7 2 [] func233 h
theorem vc238(t:OA)(who lock:Int)(w:WD)(K:KV)(h:Q (gIf (isP t) (isNone t=false) (∃(x:Bool),(isNone t=false->rd w (pb t) (po t+65)=some (.bool x))/\Wif (isNone t||!x) (K (vi 1) w) (gIf (isP t) ((decide (who<0)||decide (lock<0))=false) (∃(x:Int),((decide (who<0)||decide (lock<0))=false->rd w (pb t) (po t)=some (.int .i64 x))/\Wif (decide (who<0)||decide (lock<0)||decide (lock>=x)) (K (vi 2) w) (Wp t (Wn lock 64 (RI w (pb t) (po t+1+Int.toNat lock*1) fun x=>Wif (x != wrap .i64 (who+1)) (K (vi 7) w) (Wp t (Wn lock 64 (Sw w (pb t) (po t+1+Int.toNat lock*1) (vi 0) fun w'=>K (vi 0) w'))))))))))):Ret 238 #[pt t,vi who,vi lock] w K:=vcA L7 2 [] func238 h
theorem vc188(k:OA)(cpu:Int)(l:OA)(lL lC:Nat)(w:WD)(K:KV)(h:Q (∃(I:Int->WD->Nat->Prop),(∃(n:Nat),I (wrap .i64 ((↑lL:Int)-1)) w n)/\∀(n:Int) (w':WD) (a:Nat),I n w' a->Wif (decide (n>=0)) (Dr w' fun b=>Wp k (Rp b k 97 fun x=>Wp l (Wn n lL (Ri b l (Int.toNat n*1) fun c=>CI 238 #[pt x,vi cpu,vi c] b fun d w'=>Lt a fun m=>I (wrap .i64 (n-1)) w' m)))) (K (.tuple #[]) w'))):Ret 188 #[pt k,vi cpu,sl l lL lC] w K:=vcA L7 2 [] func188 h
end Go.Proofs.YtdgbechegbmpcaaGreatDoor
namespace Go.Proofs.YtdgbechegbmpcaaGreatDoor
open Go Go.Eng Go.Proofs.Tryz
theorem qI{p:Prop}(h:p):Q p:=h
theorem Calls.ret{P:Program}{f:FuncId}{a:Array Value}{w:WD}{Q:Ending->WD->Prop}(h:Calls P f a w fun e w'=>∃v,e=.returned v/\Q (.returned v) w'):Calls P f a w Q:=
 h.mono fun _ _ ⟨_,he,hq⟩=>he▸hq
theorem BR.put{w w':WD}{l n:Nat}{f:Nat->Int}(h:BR w l n f){i:Nat}(hi:i<64){v:Int}(e:w'=st w l (1+i) (vi v)):BR w' l n (upd f i v)/\Kept (·=l) w w':=by
 subst e;have h1:own (st w l (1+i) (vi v)) l _:=own.BL (v:=vi v) (o:=1+i) h;refine⟨?_,kr.st (.inl rfl)⟩;unfold BR;have:(([vi n]++(AK .i64 f 0 64++[Value.bool true])).set (1+i) (vi v))=[vi n]++(AK .i64 (upd f i v) 0 64++[Value.bool true]):=by
  rw [List.set_append_right _ _ (by simp),List.set_append_left _ _ (by rw [AI];simp;omega)];rw [show 1+i-[vi (n:Int)].length=i by simp];rw [GS hi]
 rw [this] at h1;exact h1
theorem BR.r0{w:WD}{l n:Nat}{f:Nat->Int}(h:BR w l n f):rd w l 0=some (vi n):=by rw [own.rd h];rfl
theorem BR.w1{w:WD}{l n:Nat}{f:Nat->Int}(h:BR w l n f){i:Nat}(hi:i<64):wr w l (1+i):=own.wr h (by simp [AI];omega)
section
variable {w:WD}{l n:Nat}{f:Nat->Int}
theorem lfree_spec(h:BR w l n f)(hn:n<=64){who i:Nat}(hw:who<1000)(hi:i<n)(hh:f i=who+1) :
 Calls prog 238 #[ptr l,vi who,vi i] w fun e w'=>e=.returned (vi 0)/\Kept (·=l) w w'/\BR w' l n (upd f i 0):=by
 refine Calls.ret (vc238 _ who i w _ ?_);apply qI;have d1:(decide ((who:Int)<0)||decide ((i:Int)<0))=false:=by simp
 refine AF (fun _=>rfl) ⟨true,fun _=>h.r65,AG rfl (AF (fun _=>rfl) ⟨n,fun _=>h.r0,AG (by rw [d1];simp;omega) (AA rfl (Wi ⟨f i,?_,AG ?_ (AA rfl (Wi ⟨?_,fun w' e=>?_⟩))⟩))⟩)⟩
 ·show rd w l (0+1+_*1)=_
  rw [tnc,mo,za];exact h.r1 (by omega)
 ·rw [hh,wi (by omega)];simp
 ·show wr w l (0+1+_*1)
  rw [tnc,mo,za];exact h.w1 (by omega)
 ·have e:w'=st w l (0+1+Int.toNat (i:Int)*1) (vi 0):=e;rw [tnc,mo,za] at e;obtain⟨a1,a2⟩:=h.put (by omega) e;exact⟨rfl,a2,a1⟩
theorem ltry_spec(h:BR w l n f)(hn:n<=64){who i:Nat}(hw:who<1000)(hi:i<n)(hr:∀j,i<=j->j<n->f j≠who+1) :
 Calls prog 233 #[ptr l,vi who,vi i] w fun e w'=>(f i≠0/\e=.returned (.tuple #[.bool false,vi 0])/\Kept AB w w')\/
  (f i=0/\e=.returned (.tuple #[.bool true,vi 0])/\Kept (·=l) w w'/\BR w' l n (upd f i (who+1))):=by
 refine Calls.ret (vc233 _ who i w _ ?_);apply qI;have d1:(decide ((who:Int)<0)||decide ((i:Int)<0))=false:=by simp
 refine AF (fun _=>rfl) ⟨true,fun _=>h.r65,AG rfl (AF (fun _=>rfl) ⟨n,fun _=>h.r0,AG (by rw [d1];simp;omega) fun w1 e1=>?_⟩)⟩;have k1:=kdr e1;have h1:BR w1 l n f:=own.k h k1;have eo:BJ (some (Addr.mk (pb (some ⟨l,0,none⟩)) (po (some ⟨l,0,none⟩)+1) none)) 64 (Int.toNat (i:Int)) 1=some ⟨l,1+i,none⟩:=by
  unfold BJ;rw [if_neg (by omega),mo]
  show some (Addr.add ⟨l,0+1,none⟩ _)=_
  rw [Addr.add_lit,tnc,za]
 refine AA rfl (AA rfl ⟨n,h1.r0,AA BI ⟨fun _ _ j W N=>∃q:Nat,j=q/\q<=n-i/\N=n-i-q/\W=w1,⟨_,0,rfl,Nat.zero_le _,rfl,rfl⟩,?_⟩⟩);rintro _ _ _ _ _ ⟨q,rfl,hq,rfl,rfl⟩;simp only [tnc];refine AE (fun hc=>?_) (fun hc=>?_)
 ·have hql:q<n-i:=by simp at hc;omega
  simp only [tnc] at eo;rw [eo];refine AA rfl (Wi ⟨f (i+q),?_,AG ?_ ⟨n-i-(q+1),by omega,q+1,wzz,hql,rfl,trivial⟩⟩)
  ·show rd _ l (1+i+q*1)=_
   rw [mo,Nat.add_assoc];exact h1.r1 (by omega)
  ·rw [wi (by omega)];have:=hr (i+q) (by omega) (by omega);simpa using this
 ·refine AA rfl (Wi ⟨f i,?_,AE (fun hz=>?_) (fun hz=>AA rfl (Wi ⟨?_,fun w' e=>?_⟩))⟩)
  ·show rd _ l (0+1+i*1)=_
   rw [mo,za];exact h1.r1 (by omega)
  ·exact .inl ⟨by simpa using hz,trivial,k1⟩
  ·show wr _ l (0+1+i*1)
   rw [mo,za];exact h1.w1 (by omega)
  ·have e:w'=st _ l (0+1+i*1) (vi (IntKind.wrap .i64 (who+1))):=e;rw [mo,za,wi (by omega)] at e;obtain⟨a1,a2⟩:=h1.put (by omega) e;exact .inr ⟨by simpa using hz,trivial,(k1.mono fun _ _ e=>e.elim).trans a2 fun _ _ e=>e,a1⟩
end
end Go.Proofs.YtdgbechegbmpcaaGreatDoor
namespace Go.Proofs.YtdgbechegbmpcaaGreatDoor
open Go Go.Eng Go.Proofs.Tryz
open Go.Value (bool func)
open Option (isNone)
open Go.IntKind (wrap)
theorem vc154(m:OA)(frame i:Int)(w:WD)(K:KV)(h:Q (Wif (decide (i<0)||decide (i>31)) (gIf (isP m) ((!isNone m)=true) (∃(x:OA) (c d:Nat),((!isNone m)=true->rd w (pb m) (po m+95)=some (.slice x c d))/\Wif (!(!isNone m&&!isNone x)) (K (.tuple #[Value.int .u64 0,vi 1]) w) (gIf (isP m) (decide (frame<0)=false) (∃(x:OA) (b f:Nat),(decide (frame<0)=false->rd w (pb m) (po m+95)=some (.slice x b f))/\Wif (decide (frame<0)||decide (frame>=(↑b:Int))) (K (.tuple #[Value.int .u64 0,vi 7]) w) (K (.tuple #[Value.int .u64 0,vi 2]) w))))) (gIf (isP m) ((!isNone m)=true) (∃(x:OA) (c d:Nat),((!isNone m)=true->rd w (pb m) (po m+95)=some (.slice x c d))/\Wif (!(!isNone m&&!isNone x)) (K (.tuple #[Value.int .u64 0,vi 1]) w) (gIf (isP m) (decide (frame<0)=false) (∃(x:OA) (b f:Nat),(decide (frame<0)=false->rd w (pb m) (po m+95)=some (.slice x b f))/\Wif (decide (frame<0)||decide (frame>=(↑b:Int))) (K (.tuple #[Value.int .u64 0,vi 7]) w) (Wif (decide (wrap .i64 (8*i)<0)||false||false||decide (wrap .i64 (8*i)>248)) (K (.tuple #[Value.int .u64 0,vi 2]) w) (Wp m (Rs w m 94 fun x k h=>Wif (CN (wrap .i64 (frame*256)) (wrap .i64 (wrap .i64 (frame+1)*256)) (wrap .i64 (wrap .i64 (frame+1)*256))) (Wif (CN 0 (wrap .i64 (wrap .i64 (frame+1)*256)) (↑h:Int)) (Wif (CN (wrap .i64 (8*i)) (wrap .i64 (wrap .i64 (8*i)+8)) (↑(Int.toNat (wrap .i64 (wrap .i64 (frame+1)*256))-Int.toNat (wrap .i64 (frame*256))):Int)) (∃(I:Int->Int->WD->Nat->Prop),(∃(n:Nat),I 0 0 w n)/\∀(n a:Int) (w':WD) (g:Nat),I n a w' g->Wif (decide (a<(↑(Int.toNat (wrap .i64 (wrap .i64 (8*i)+8))-Int.toNat (wrap .i64 (8*i))):Int))) (Wp (BJ (BJ x (Int.toNat (wrap .i64 (wrap .i64 (frame+1)*256))) (Int.toNat (wrap .i64 (frame*256))) 1) (Int.toNat (wrap .i64 (wrap .i64 (frame+1)*256))-Int.toNat (wrap .i64 (frame*256))) (Int.toNat (wrap .i64 (8*i))) 1) (Wn a (Int.toNat (wrap .i64 (wrap .i64 (8*i)+8))-Int.toNat (wrap .i64 (8*i))) (R8 w' (pb (BJ (BJ x (Int.toNat (wrap .i64 (wrap .i64 (frame+1)*256))) (Int.toNat (wrap .i64 (frame*256))) 1) (Int.toNat (wrap .i64 (wrap .i64 (frame+1)*256))-Int.toNat (wrap .i64 (frame*256))) (Int.toNat (wrap .i64 (8*i))) 1)) (po (BJ (BJ x (Int.toNat (wrap .i64 (wrap .i64 (frame+1)*256))) (Int.toNat (wrap .i64 (frame*256))) 1) (Int.toNat (wrap .i64 (wrap .i64 (frame+1)*256))-Int.toNat (wrap .i64 (frame*256))) (Int.toNat (wrap .i64 (8*i))) 1)+Int.toNat a*1) fun j=>Wif (decide (0<=wrap .i64 (8*a))) (Lt g fun m=>I (BW BinOp.or IntKind.u64 n (wrap .u64 (wrap .u64 j*2^min (Int.toNat (wrap .i64 (8*a))) 64))) (wrap .i64 (a+1)) w' m) False))) (K (.tuple #[Value.int .u64 n,vi 0]) w')) False) False) False))))))))):Ret 154 #[pt m,vi frame,vi i] w K:=vcA L1 3 [] func154 h
theorem vc97(m:OA)(frame i w':Int)(w:WD)(K:KV)(h:Q (Wif (decide (i<0)||decide (i>31)) (gIf (isP m) ((!isNone m)=true) (∃(x:OA) (d f:Nat),((!isNone m)=true->rd w (pb m) (po m+95)=some (.slice x d f))/\Wif (!(!isNone m&&!isNone x)) (∃(I:Int->WD->Nat->Prop),(∃(n:Nat),I 0 w n)/\∀(n:Int) (w':WD) (a:Nat),I n w' a->Wif (decide (n<0)) (Wif (decide (0<=wrap .i64 (8*n))) False False) (K (vi 1) w')) (gIf (isP m) (decide (frame<0)=false) (∃(x:OA) (b g:Nat),(decide (frame<0)=false->rd w (pb m) (po m+95)=some (.slice x b g))/\Wif (decide (frame<0)||decide (frame>=(↑b:Int))) (∃(I:Int->WD->Nat->Prop),(∃(n:Nat),I 0 w n)/\∀(n:Int) (w':WD) (a:Nat),I n w' a->Wif (decide (n<0)) (Wif (decide (0<=wrap .i64 (8*n))) False False) (K (vi 7) w')) (∃(I:Int->WD->Nat->Prop),(∃(n:Nat),I 0 w n)/\∀(n:Int) (w':WD) (a:Nat),I n w' a->Wif (decide (n<0)) (Wif (decide (0<=wrap .i64 (8*n))) False False) (K (vi 2) w')))))) (gIf (isP m) ((!isNone m)=true) (∃(x:OA) (d f:Nat),((!isNone m)=true->rd w (pb m) (po m+95)=some (.slice x d f))/\Wif (!(!isNone m&&!isNone x)) (∃(I:Int->WD->Nat->Prop),(∃(n:Nat),I 0 w n)/\∀(n:Int) (w':WD) (a:Nat),I n w' a->Wif (decide (n<0)) (Wif (decide (0<=wrap .i64 (8*n))) False False) (K (vi 1) w')) (gIf (isP m) (decide (frame<0)=false) (∃(x:OA) (b g:Nat),(decide (frame<0)=false->rd w (pb m) (po m+95)=some (.slice x b g))/\Wif (decide (frame<0)||decide (frame>=(↑b:Int))) (∃(I:Int->WD->Nat->Prop),(∃(n:Nat),I 0 w n)/\∀(n:Int) (w':WD) (a:Nat),I n w' a->Wif (decide (n<0)) (Wif (decide (0<=wrap .i64 (8*n))) False False) (K (vi 7) w')) (Wif (decide (wrap .i64 (8*i)<0)||false||false||decide (wrap .i64 (8*i)>248)) (∃(I:Int->WD->Nat->Prop),(∃(n:Nat),I 0 w n)/\∀(n:Int) (w':WD) (a:Nat),I n w' a->Wif (decide (n<0)) (Wif (decide (0<=wrap .i64 (8*n))) False False) (K (vi 2) w')) (Wp m (Rs w m 94 fun x k j=>Wif (CN (wrap .i64 (frame*256)) (wrap .i64 (wrap .i64 (frame+1)*256)) (wrap .i64 (wrap .i64 (frame+1)*256))) (Wif (CN 0 (wrap .i64 (wrap .i64 (frame+1)*256)) (↑j:Int)) (Wif (CN (wrap .i64 (8*i)) (wrap .i64 (wrap .i64 (8*i)+8)) (↑(Int.toNat (wrap .i64 (wrap .i64 (frame+1)*256))-Int.toNat (wrap .i64 (frame*256))):Int)) (∃(I:Int->WD->Nat->Prop),(∃(n:Nat),I 0 w n)/\∀(n:Int) (c:WD) (a:Nat),I n c a->Wif (decide (n<(↑(Int.toNat (wrap .i64 (wrap .i64 (8*i)+8))-Int.toNat (wrap .i64 (8*i))):Int))) (Wif (decide (0<=wrap .i64 (8*n))) (Wp (BJ (BJ x (Int.toNat (wrap .i64 (wrap .i64 (frame+1)*256))) (Int.toNat (wrap .i64 (frame*256))) 1) (Int.toNat (wrap .i64 (wrap .i64 (frame+1)*256))-Int.toNat (wrap .i64 (frame*256))) (Int.toNat (wrap .i64 (8*i))) 1) (Wn n (Int.toNat (wrap .i64 (wrap .i64 (8*i)+8))-Int.toNat (wrap .i64 (8*i))) (Sw c (pb (BJ (BJ x (Int.toNat (wrap .i64 (wrap .i64 (frame+1)*256))) (Int.toNat (wrap .i64 (frame*256))) 1) (Int.toNat (wrap .i64 (wrap .i64 (frame+1)*256))-Int.toNat (wrap .i64 (frame*256))) (Int.toNat (wrap .i64 (8*i))) 1)) (po (BJ (BJ x (Int.toNat (wrap .i64 (wrap .i64 (frame+1)*256))) (Int.toNat (wrap .i64 (frame*256))) 1) (Int.toNat (wrap .i64 (wrap .i64 (frame+1)*256))-Int.toNat (wrap .i64 (frame*256))) (Int.toNat (wrap .i64 (8*i))) 1)+Int.toNat n*1) (vu (wrap .u8 (Int.fdiv w' (2^min (Int.toNat (wrap .i64 (8*n))) 64)))) fun h=>Lt a fun m=>I (wrap .i64 (n+1)) h m))) False) (K (vi 0) c)) False) False) False))))))))):Ret 97 #[pt m,vi frame,vi i,Value.int .u64 w'] w K:=vcA L1 3 [] func97 h
theorem vc34(m:OA)(frame x0 x1 x2 x3 x4:Int)(w:WD)(K:KV)(h:Q (AW w #[vu x0,vi x1,vi x2,vi x3,vi x4] 86 fun w'=>gIf (isP m) ((!isNone m)=true) (∃(x:OA) (p q:Nat),((!isNone m)=true->rd w' (pb m) (po m+95)=some (.slice x p q))/\Wif (!(!isNone m&&!isNone x)) (K (vi 1) w') (gIf (isP m) (decide (frame<0)=false) (∃(x:OA) (i r:Nat),(decide (frame<0)=false->rd w' (pb m) (po m+95)=some (.slice x i r))/\Wif (decide (frame<0)||decide (frame>=(↑i:Int))) (K (vi 7) w') (∃(x j k l o:Int),(rd w' w.heap.size 0=some (.int .u8 x)/\rd w' w.heap.size 1=some (.int .i64 j)/\rd w' w.heap.size 2=some (.int .i64 k)/\rd w' w.heap.size 3=some (.int .i64 l)/\rd w' w.heap.size 4=some (.int .i64 o))/\CB 93 #[Value.agg #[vu x,vi j,vi k,vi l,vi o]] w' fun b w'=>Wif (!b) (K (vi 2) w') (Dr w' fun a=>Wp m (Rs a m 95 fun x s t=>∃(c d f g h:Int),(rd a w.heap.size 0=some (.int .u8 c)/\rd a w.heap.size 1=some (.int .i64 d)/\rd a w.heap.size 2=some (.int .i64 f)/\rd a w.heap.size 3=some (.int .i64 g)/\rd a w.heap.size 4=some (.int .i64 h))/\Wp x (Wn frame s ((wr a (pb x) (po x+Int.toNat frame*5)/\wr a (pb x) (po x+Int.toNat frame*5+1)/\wr a (pb x) (po x+Int.toNat frame*5+2)/\wr a (pb x) (po x+Int.toNat frame*5+3)/\wr a (pb x) (po x+Int.toNat frame*5+4))/\St (st (st (st (st a (pb x) (po x+Int.toNat frame*5) (vu c)) (pb x) (po x+Int.toNat frame*5+1) (vi d)) (pb x) (po x+Int.toNat frame*5+2) (vi f)) (pb x) (po x+Int.toNat frame*5+3) (vi g)) (pb x) (po x+Int.toNat frame*5+4) (vi h) fun w'=>K (vi 0) w')))))))))):Ret 34 #[pt m,vi frame,Value.agg #[vu x0,vi x1,vi x2,vi x3,vi x4]] w K:=vcA L2 2 [] func34 h
theorem vc96(x0 x1:Int)(w:WD)(K:KV)(h:Q (AW w #[vu x0,vi x1] 69 fun w'=>R8 w' w.heap.size 0 fun x=>Wif (x==0) (RI w' w.heap.size 1 fun x=>Wif (x != 0) (K (.tuple #[Value.int .u64 0,vi 2]) w') (RI w' w.heap.size 1 fun x=>∃(a:Int),(decide (x>=0)=true->rd w' w.heap.size 1=some (.int .i64 a))/\Wif (decide (x>=0)&&decide (a<=65535)) (R8 w' w.heap.size 0 fun x=>RI w' w.heap.size 1 fun b=>K (.tuple #[Value.int .u64 (BW BinOp.or IntKind.u64 (wrap .u64 x) (wrap .u64 (wrap .u64 b*4))),vi 0]) w') (K (.tuple #[Value.int .u64 0,vi 2]) w'))) (Wif (x==1) (Wif (x==1) (RI w' w.heap.size 1 fun x=>∃(a:Int),(decide (x>=0)=true->rd w' w.heap.size 1=some (.int .i64 a))/\Wif (decide (x>=0)&&decide (a<=65535)) (R8 w' w.heap.size 0 fun x=>RI w' w.heap.size 1 fun b=>K (.tuple #[Value.int .u64 (BW BinOp.or IntKind.u64 (wrap .u64 x) (wrap .u64 (wrap .u64 b*4))),vi 0]) w') (K (.tuple #[Value.int .u64 0,vi 2]) w')) (K (.tuple #[Value.int .u64 0,vi 2]) w')) (Wif (x==2) (Wif (x==2) (RI w' w.heap.size 1 fun x=>∃(a:Int),(decide (x>=0)=true->rd w' w.heap.size 1=some (.int .i64 a))/\Wif (decide (x>=0)&&decide (a<=65535)) (R8 w' w.heap.size 0 fun x=>RI w' w.heap.size 1 fun b=>K (.tuple #[Value.int .u64 (BW BinOp.or IntKind.u64 (wrap .u64 x) (wrap .u64 (wrap .u64 b*4))),vi 0]) w') (K (.tuple #[Value.int .u64 0,vi 2]) w')) (K (.tuple #[Value.int .u64 0,vi 2]) w')) (Wif (x==3) (RI w' w.heap.size 1 fun x=>∃(a:Int),(decide (x>=0)=true->rd w' w.heap.size 1=some (.int .i64 a))/\Wif (decide (x>=0)&&decide (a<=65535)) (R8 w' w.heap.size 0 fun x=>RI w' w.heap.size 1 fun b=>K (.tuple #[Value.int .u64 (BW BinOp.or IntKind.u64 (wrap .u64 x) (wrap .u64 (wrap .u64 b*4))),vi 0]) w') (K (.tuple #[Value.int .u64 0,vi 2]) w')) (K (.tuple #[Value.int .u64 0,vi 2]) w')))))):Ret 96 #[Value.agg #[vu x0,vi x1]] w K:=vcA L2 2 [] func96 h
theorem vc51(m:OA)(frame i:Int)(w:WD)(K:KV)(h:Q (AW w #[vu 0,vi 0] 69 fun w'=>Calls prog 154 #[pt m,vi frame,vi i] w' fun e w'=>∃(n f:Int),e=rT (.tuple #[Value.int .u64 n,vi f])/\Wif (f != 0) ((wr w' w.heap.size 0/\wr w' w.heap.size 1)/\St (st w' w.heap.size 0 (vu 0)) w.heap.size 1 (vi 0) fun b=>∃(x c:Int),(rd b w.heap.size 0=some (.int .u8 x)/\rd b w.heap.size 1=some (.int .i64 c))/\K (.tuple #[Value.agg #[vu x,vi c],vi f]) b) (AW w' #[vu 0,vi 0] 69 fun b=>Wif (decide (Int.fdiv n 4>65535)||n != 0&&BW BinOp.and IntKind.u64 n 3==0) ((wr b w'.heap.size 0/\wr b w'.heap.size 1)/\St (st b w'.heap.size 0 (vu 0)) w'.heap.size 1 (vi 0) fun a=>∃(x c:Int),(rd a w'.heap.size 0=some (.int .u8 x)/\rd a w'.heap.size 1=some (.int .i64 c))/\(wr a w.heap.size 0/\wr a w.heap.size 1)/\St (st a w.heap.size 0 (vu x)) w.heap.size 1 (vi c) fun w'=>∃(x d:Int),(rd w' w.heap.size 0=some (.int .u8 x)/\rd w' w.heap.size 1=some (.int .i64 d))/\K (.tuple #[Value.agg #[vu x,vi d],vi 5]) w') ((wr b w'.heap.size 0/\wr b w'.heap.size 1)/\St (st b w'.heap.size 0 (vu (wrap .u8 (BW BinOp.and IntKind.u64 n 3)))) w'.heap.size 1 (vi (wrap .i64 (Int.fdiv n 4))) fun a=>∃(x c:Int),(rd a w'.heap.size 0=some (.int .u8 x)/\rd a w'.heap.size 1=some (.int .i64 c))/\(wr a w.heap.size 0/\wr a w.heap.size 1)/\St (st a w.heap.size 0 (vu x)) w.heap.size 1 (vi c) fun w'=>∃(x d:Int),(rd w' w.heap.size 0=some (.int .u8 x)/\rd w' w.heap.size 1=some (.int .i64 d))/\K (.tuple #[Value.agg #[vu x,vi d],vi 0]) w')))):Ret 51 #[pt m,vi frame,vi i] w K:=vcA L3 3 [] func51 h
theorem vc50(m:OA)(root page:Int)(w:WD)(K:KV)(h:Q (Calls prog 154 #[pt m,vi root,vi (wrap .i64 (Int.tdiv page 32))] w fun e w'=>∃(n a:Int),e=rT (.tuple #[Value.int .u64 n,vi a])/\K (.bool (a==0&&n==0)) w')):Ret 50 #[pt m,vi root,vi page] w K:=vcA L3 3 [] func50 h
theorem vc49(m:OA)(root page:Int)(w:WD)(K:KV)(h:Q (Wif (decide (page<0)||decide (page>=1024)) (K (.tuple #[vi 0,vi 2]) w) (Calls prog 51 #[pt m,vi root,vi (wrap .i64 (Int.tdiv page 32))] w fun e w'=>∃(n d c:Int),e=rT (.tuple #[Value.agg #[vu n,vi d],vi c])/\AW w' #[vu 0,vi 0] 69 fun b=>(wr b w'.heap.size 0/\wr b w'.heap.size 1)/\St (st b w'.heap.size 0 (vu n)) w'.heap.size 1 (vi d) fun a=>Wif (c != 0) (K (.tuple #[vi 0,vi c]) a) (R8 a w'.heap.size 0 fun x=>Wif (x==0) (K (.tuple #[vi 0,vi 7]) a) (R8 a w'.heap.size 0 fun x=>Wif (x != 1) (K (.tuple #[vi 0,vi 5]) a) (RI a w'.heap.size 1 fun x=>K (.tuple #[vi x,vi 0]) a)))))):Ret 49 #[pt m,vi root,vi page] w K:=vcA L3 3 [] func49 h
theorem vc16(m:OA)(root page:Int)(w:WD)(K:KV)(h:Q (AW w #[vu 0,vi 0] 69 fun w'=>CJ 49 #[pt m,vi root,vi page] w' fun n d w'=>Wif (d==7) (CB 50 #[pt m,vi root,vi page] w' fun b w'=>Wif b ((wr w' w.heap.size 0/\wr w' w.heap.size 1)/\St (st w' w.heap.size 0 (vu 0)) w.heap.size 1 (vi 0) fun a=>∃(x c:Int),(rd a w.heap.size 0=some (.int .u8 x)/\rd a w.heap.size 1=some (.int .i64 c))/\K (.tuple #[Value.agg #[vu x,vi c],vi 0]) a) (Wif (d != 0) ((wr w' w.heap.size 0/\wr w' w.heap.size 1)/\St (st w' w.heap.size 0 (vu 0)) w.heap.size 1 (vi 0) fun a=>∃(x c:Int),(rd a w.heap.size 0=some (.int .u8 x)/\rd a w.heap.size 1=some (.int .i64 c))/\K (.tuple #[Value.agg #[vu x,vi c],vi d]) a) (Calls prog 51 #[pt m,vi n,vi (Int.tmod page 32)] w' fun e w'=>∃(n f g:Int),e=rT (.tuple #[Value.agg #[vu n,vi f],vi g])/\(wr w' w.heap.size 0/\wr w' w.heap.size 1)/\St (st w' w.heap.size 0 (vu n)) w.heap.size 1 (vi f) fun a=>∃(x c:Int),(rd a w.heap.size 0=some (.int .u8 x)/\rd a w.heap.size 1=some (.int .i64 c))/\K (.tuple #[Value.agg #[vu x,vi c],vi g]) a))) (Wif (d != 0) ((wr w' w.heap.size 0/\wr w' w.heap.size 1)/\St (st w' w.heap.size 0 (vu 0)) w.heap.size 1 (vi 0) fun a=>∃(x c:Int),(rd a w.heap.size 0=some (.int .u8 x)/\rd a w.heap.size 1=some (.int .i64 c))/\K (.tuple #[Value.agg #[vu x,vi c],vi d]) a) (Calls prog 51 #[pt m,vi n,vi (Int.tmod page 32)] w' fun e w'=>∃(n f g:Int),e=rT (.tuple #[Value.agg #[vu n,vi f],vi g])/\(wr w' w.heap.size 0/\wr w' w.heap.size 1)/\St (st w' w.heap.size 0 (vu n)) w.heap.size 1 (vi f) fun a=>∃(x c:Int),(rd a w.heap.size 0=some (.int .u8 x)/\rd a w.heap.size 1=some (.int .i64 c))/\K (.tuple #[Value.agg #[vu x,vi c],vi g]) a)))):Ret 16 #[pt m,vi root,vi page] w K:=vcA L3 3 [] func16 h
theorem vc100(m:OA)(root page x0 x1:Int)(w:WD)(K:KV)(h:Q (AW w #[vu x0,vi x1] 69 fun w'=>∃(x a:Int),(rd w' w.heap.size 0=some (.int .u8 x)/\rd w' w.heap.size 1=some (.int .i64 a))/\Calls prog 96 #[Value.agg #[vu x,vi a]] w' fun e w'=>∃(n b:Int),e=rT (.tuple #[Value.int .u64 n,vi b])/\Wif (decide (page<0)||decide (page>=1024)||b != 0) (K (vi 2) w') (CJ 49 #[pt m,vi root,vi page] w' fun d c w'=>Wif (c != 0) (K (vi c) w') (CI 97 #[pt m,vi d,vi (Int.tmod page 32),Value.int .u64 n] w' fun n w'=>K (vi n) w')))):Ret 100 #[pt m,vi root,vi page,Value.agg #[vu x0,vi x1]] w K:=vcA L1 3 [] func100 h
theorem vc36(m:OA)(root page leaf:Int)(w:WD)(K:KV)(h:Q (Wif (decide (page<0)||decide (page>=1024)||decide (leaf < -1)||decide (leaf>65535)) (K (vi 2) w) (AW w #[vu 0,vi 0] 69 fun w'=>(wr w' w.heap.size 0/\wr w' w.heap.size 1)/\St (st w' w.heap.size 0 (vu 1)) w.heap.size 1 (vi leaf) fun a=>Wif (decide (leaf<0)) ((wr a w.heap.size 0/\wr a w.heap.size 1)/\St (st a w.heap.size 0 (vu 0)) w.heap.size 1 (vi 0) fun w'=>∃(x b:Int),(rd w' w.heap.size 0=some (.int .u8 x)/\rd w' w.heap.size 1=some (.int .i64 b))/\Calls prog 96 #[Value.agg #[vu x,vi b]] w' fun e w'=>∃(n c:Int),e=rT (.tuple #[Value.int .u64 n,vi c])/\CI 97 #[pt m,vi root,vi (wrap .i64 (Int.tdiv page 32)),Value.int .u64 n] w' fun n w'=>K (vi n) w') (∃(x b:Int),(rd a w.heap.size 0=some (.int .u8 x)/\rd a w.heap.size 1=some (.int .i64 b))/\Calls prog 96 #[Value.agg #[vu x,vi b]] a fun e w'=>∃(n c:Int),e=rT (.tuple #[Value.int .u64 n,vi c])/\CI 97 #[pt m,vi root,vi (wrap .i64 (Int.tdiv page 32)),Value.int .u64 n] w' fun n w'=>K (vi n) w')))):Ret 36 #[pt m,vi root,vi page,vi leaf] w K:=vcA L2 2 [] func36 h
end Go.Proofs.YtdgbechegbmpcaaGreatDoor
namespace Go.Proofs.YtdgbechegbmpcaaGreatDoor
open Go Go.Eng Go.Proofs.Tryz
def ByR(by':Nat->Int):Prop:=∀i,0<=by' i/\by' i<=255
def FP(by':Nat->Int)(o:Nat):Nat->Int
 | 0=>0
 | k+1=>FP by' o k+by' (o+k)*2^(8*k)
theorem pow8(k:Nat):(2:Int)^(8*(k+1))=256*2^(8*k):=by
 rw [show 8*(k+1)=8*k+8 by omega,Int.pow_add];omega
theorem wordK_lt{by':Nat->Int}(h:ByR by')(o:Nat):∀k,0<=FP by' o k/\FP by' o k<2^(8*k)
 | 0=>by simp [FP]
 | k+1=>by
  have ih:=wordK_lt h o k;have hb:=h (o+k);have hp:(0:Int)<2^(8*k):=Int.pow_pos (by decide);have h1:0<=by' (o+k)*2^(8*k):=Int.mul_nonneg hb.1 (by omega);have h2:by' (o+k)*2^(8*k)<=255*2^(8*k):=Int.mul_le_mul_of_nonneg_right hb.2 (by omega);rw [pow8];unfold FP;omega
theorem or_word{a x:Int}{k:Nat}(hk:k<8)(ha:0<=a/\a<2^(8*k))(hx:0<=x/\x<=255) :
 BW .or .u64 a (IntKind.wrap .u64 (IntKind.wrap .u64 x*2^min (Int.toNat (IntKind.wrap .i64 (8*(k:Int)))) 64))=a+x*2^(8*k):=by
 obtain⟨m,rfl⟩:=Int.eq_ofNat_of_zero_le ha.1;obtain⟨y,rfl⟩:=Int.eq_ofNat_of_zero_le hx.1;have e1:min (Int.toNat (IntKind.wrap .i64 (8*(k:Int)))) 64=8*k:=by rw [wi (by omega)];omega
 have hp:(2:Nat)^(8*k)<=2^56:=Nat.pow_le_pow_right (by decide) (by omega);have hy:y*2^(8*k)<=255*2^(8*k):=Nat.mul_le_mul_right _ (by omega);have hm:m<2^(8*k):=by
  have:=ha.2;have e:((2^(8*k):Nat):Int)=2^(8*k):=by simp
  omega
 have e2:(y:Int)*2^(8*k)=((y*2^(8*k):Nat):Int):=by simp
 rw [e1,wu (x:=(y:Int)) (by omega),e2,wu (x:=((y*2^(8*k):Nat):Int)) (by omega)];generalize hq:y*2^(8*k)=q at *;have h3:(BitVec.ofInt 64 (m:Int) ||| BitVec.ofInt 64 (q:Int)).toNat=m+q:=by
  rw [BitVec.toNat_or,BitVec.toNat_ofInt,BitVec.toNat_ofInt,show((m:Int)%((2^64:Nat):Int)).toNat=m by omega,show((q:Int)%((2^64:Nat):Int)).toNat=q by omega,<- hq,Nat.mul_comm y,Nat.or_comm,<- Nat.two_pow_add_eq_or_of_lt hm];omega
 show IntKind.wrap .u64 ((BitVec.ofInt 64 (m:Int) ||| BitVec.ofInt 64 (q:Int)).toNat:Int)=_
 rw [h3,wu (by omega)];omega
def byteOf(x:Int)(k:Nat):Int:=IntKind.wrap .u8 (Int.fdiv x (2^(8*k)))
theorem w8(y:Int):IntKind.wrap .u8 y=y%256:=by
 simp only [IntKind.wrap,IntKind.bits,IntKind.signed,Bool.false_and,Bool.false_eq_true,if_false]
 rfl
theorem byteOf_r(x:Int)(k:Nat):0<=byteOf x k/\byteOf x k<=255:=by unfold byteOf;rw [w8];omega
def setB(by':Nat->Int)(o:Nat)(x:Int):Nat->Nat->Int
 | 0=>by'
 | k+1=>upd (setB by' o x k) (o+k) (byteOf x k)
theorem setB_out{by':Nat->Int}{o:Nat}{x:Int}:∀{k j:Nat},(j<o\/o+k<=j)->setB by' o x k j=by' j
 | 0,_,_=>rfl
 | k+1,j,h=>by
  show upd _ _ _ _=_
  rw [AH _ _ (by omega)];exact setB_out (by omega)
theorem setB_r{by':Nat->Int}(h:ByR by'){o:Nat}{x:Int}:∀k,ByR (setB by' o x k)
 | 0=>h
 | k+1=>fun j=>by
  show 0<=upd _ _ _ j/\upd _ _ _ j<=255
  by_cases e:j=o+k
  ·subst e;rw [upd_same];exact byteOf_r x k
  ·rw [AH _ _ e];exact setB_r h k j
theorem IC{f g:Nat->Int}{o:Nat}:∀{k:Nat},(∀j,j<k->f (o+j)=g (o+j))->FP f o k=FP g o k
 | 0,_=>rfl
 | k+1,h=>by unfold FP;rw [IC fun j hj=>h j (by omega),h k (by omega)]
theorem wordK_set{by':Nat->Int}{o:Nat}{x:Int}(hx:0<=x):∀k,FP (setB by' o x k) o k=x%2^(8*k)
 | 0=>by simp [FP]
 | k+1=>by
  have ih:=wordK_set (by':=by') (o:=o) hx k
  show FP (upd (setB by' o x k) (o+k) (byteOf x k)) o k+upd (setB by' o x k) (o+k) (byteOf x k) (o+k)*2^(8*k)=_
  rw [upd_same,IC (g:=setB by' o x k) fun j hj=>AH _ _ (by omega),ih];unfold byteOf;rw [w8,Int.fdiv_eq_ediv_of_nonneg _ (Int.le_of_lt (Int.pow_pos (by decide)))];obtain⟨y,rfl⟩:=Int.eq_ofNat_of_zero_le hx;have h2:∀j:Nat,(2:Int)^j=((2^j:Nat):Int):=fun j=>by simp
  rw [h2,h2];have h1:=Nat.mod_mul (a:=2^(8*k)) (b:=256) (x:=y);rw [show 2^(8*k)*256=2^(8*(k+1)) by rw [show 8*(k+1)=8*k+8 by omega,Nat.pow_add]] at h1;have h3:=congrArg (Nat.cast:Nat->Int) h1
  push_cast at h3 ⊢
  rw [h3,Int.mul_comm (2^(8*k)) _]
theorem wordK_setB {by':Nat->Int}{o:Nat}{x:Int} (hx:0<=x/\x<=18446744073709551615):FP (setB by' o x 8) o 8=x:=by
  rw [wordK_set hx.1];exact Int.emod_eq_of_lt hx.1 (by have:(2:Int)^(8*8)=18446744073709551616:=(by decide);omega)
def wdE(n:Nat)(frame i:Int):Int:=if frame<0\/frame>=n then 7 else if i<0\/i>31 then 2 else 0
def wdO(frame i:Int):Nat:=frame.toNat*256+i.toNat*8
def wdF(by':Nat->Int)(n:Nat)(frame i:Int):Int:=if wdE n frame i=0 then FP by' (wdO frame i) 8 else 0
def wdS(by':Nat->Int)(n:Nat)(frame i x:Int):Nat->Int:=if wdE n frame i=0 then setB by' (wdO frame i) x 8 else by'
theorem wdE_ok{n:Nat}{frame i:Int}(h:wdE n frame i=0):0<=frame/\frame<n/\0<=i/\i<=31:=by
 unfold wdE at h;split at h
 ·cases h
 ·split at h
  ·cases h
  ·omega
theorem DD{n:Nat}{frame i:Int}(h1:0<=frame:=by omega)(h2:frame<n:=by omega)(h3:0<=i:=by omega)(h4:i<=31:=by omega):wdE n frame i=0:=by
 unfold wdE;rw [if_neg (by omega),if_neg (by omega)]
theorem wdF_r{by':Nat->Int}(h:ByR by')(n:Nat)(frame i:Int):0<=wdF by' n frame i/\wdF by' n frame i<=18446744073709551615:=by
 unfold wdF;split
 ·have:=wordK_lt h (wdO frame i) 8;have e:(2:Int)^(8*8)=18446744073709551616:=by decide
  omega
 ·omega
theorem wdS_r{by':Nat->Int}(h:ByR by')(n:Nat)(frame i x:Int):ByR (wdS by' n frame i x):=by
 unfold wdS;split
 ·exact setB_r h 8
 ·exact h
theorem JT{by':Nat->Int}{n:Nat}{f1 i1 x f2 i2:Int}(hx:0<=x/\x<=18446744073709551615)(h1:wdE n f1 i1=0)(h2:wdE n f2 i2=0):wdF (wdS by' n f1 i1 x) n f2 i2=if f2=f1/\i2=i1 then x else wdF by' n f2 i2:=by
 have g1:=wdE_ok h1;have g2:=wdE_ok h2;unfold wdF wdS;rw [if_pos h1,if_pos h2,if_pos h2];split
 ·rename_i e;rw [e.1,e.2];exact wordK_setB hx
 ·rename_i e;refine IC fun j hj=>setB_out ?_;unfold wdO;by_cases h3:f2.toNat<f1.toNat
  ·omega
  ·by_cases h4:f1.toNat<f2.toNat
   ·omega
   ·have:f2=f1:=by omega
    have h5:i2≠i1:=fun e2=>e ⟨this,e2⟩;have:f1.toNat=f2.toNat:=by omega
    rw [this];rcases Int.lt_or_gt_of_ne h5 with h6|h6 <;> omega
section
variable {w:WD}{m bb mb:Nat}{c:Nat->Int}{n:Nat}{by':Nat->Int}{mk:Nat->Mark}
theorem offA2{bb c1 c2 o1 o2:Nat}(h1:c1≠o1)(h2:c2≠o2):BJ (BJ (some ⟨bb,0,none⟩) c1 o1 1) c2 o2 1=some ⟨bb,o1+o2,none⟩:=by
 unfold BJ;rw [if_neg h1,if_neg h2,Option.map_some,Option.map_some,H9,H9];simp
theorem word_spec(h:BM w m bb mb c n by' mk)(hb:ByR by')(hn:n<=1024)(frame i:Int) :
 Calls prog 154 #[ptr m,vi frame,vi i] w fun e w'=>e=.returned (.tuple #[.int .u64 (wdF by' n frame i),vi (wdE n frame i)])/\w'=w:=by
 refine(vc154 _ frame i w (fun v w'=>v=.tuple #[.int .u64 (wdF by' n frame i),vi (wdE n frame i)]/\w'=w) ?_).mono ?_
 rotate_left
 ·rintro e w' ⟨v,rfl,rfl,h⟩;exact⟨rfl,h⟩
 have h95:rd w m (0+95)=some (.slice (some ⟨mb,0,none⟩) n n):=by rw [za];exact h.r95
 have h94:rd w m (0+94)=some (.slice (some ⟨bb,0,none⟩) (n*256) (n*256)):=by rw [za];exact h.r94
 unfold Q;by_cases hf:frame<0\/frame>=n
 ·have e7:wdE n frame i=7:=by unfold wdE;rw [if_pos hf]
  have e0:wdF by' n frame i=0:=by unfold wdF;rw [e7];rfl
  rw [e7,e0];have hc:(decide (frame<0)||decide (frame>=(n:Int)))=true:=by simpa using hf
  exact AE (fun _=>AF (fun _=>rfl) ⟨_,_,_,fun _=>h95,AG rfl (AF (fun _=>rfl) ⟨_,_,_,fun _=>h95,AA hc ⟨rfl,rfl⟩⟩)⟩)
   (fun _=>AF (fun _=>rfl) ⟨_,_,_,fun _=>h95,AG rfl (AF (fun _=>rfl) ⟨_,_,_,fun _=>h95,AA hc ⟨rfl,rfl⟩⟩)⟩)
 have hc:(decide (frame<0)||decide (frame>=(n:Int)))=false:=by simp;omega
 by_cases hi:i<0\/i>31
 ·have e2:wdE n frame i=2:=by unfold wdE;rw [if_neg hf,if_pos hi]
  have e0:wdF by' n frame i=0:=by unfold wdF;rw [e2];rfl
  rw [e2,e0];exact AA (by simpa using hi) (AF (fun _=>rfl) ⟨_,_,_,fun _=>h95,AG rfl (AF (fun _=>rfl) ⟨_,_,_,fun _=>h95,AG hc ⟨rfl,rfl⟩⟩)⟩)
 have e0:wdE n frame i=0:=DD;have eF:wdF by' n frame i=FP by' (wdO frame i) 8:=by unfold wdF;rw [if_pos e0]
 rw [e0,eF];obtain⟨f,rfl⟩:∃f:Nat,frame=f:=⟨frame.toNat,by omega⟩;obtain⟨j,rfl⟩:∃j:Nat,i=j:=⟨i.toNat,by omega⟩;refine AG (by simp;omega) (AF (fun _=>rfl) ⟨_,_,_,fun _=>h95,AG rfl (AF (fun _=>rfl) ⟨_,_,_,fun _=>h95,AG hc ?_⟩)⟩);rw [wi (x:=8*(j:Int)) (by omega),wi (x:=(f:Int)+1) (by omega),wi (x:=(f:Int)*256) (by omega),wi (x:=((f:Int)+1)*256) (by omega),wi (x:=8*(j:Int)+8) (by omega)];refine AG (by simp;omega) (AA rfl ⟨_,_,_,h94,AA BI (AA BI (AA BI ?_))⟩);rw [show Int.toNat ((f:Int)*256)=f*256 by omega,show Int.toNat (((f:Int)+1)*256)=f*256+256 by omega,show Int.toNat (8*(j:Int))=j*8 by omega,show Int.toNat (8*(j:Int)+8)=j*8+8 by omega,show j*8+8-j*8=8 by omega,show f*256+256-f*256=256 by omega,offA2 (by omega) (by omega)];have eo:wdO (f:Int) (j:Int)=f*256+j*8:=rfl;refine⟨fun a q W N=>∃k:Nat,q=k/\k<=8/\N=8-k/\W=w/\a=FP by' (f*256+j*8) k,⟨8,0,rfl,by omega,rfl,rfl,rfl⟩,?_⟩;rintro _ _ w1 _ ⟨k,rfl,hk,rfl,hw,rfl⟩;rw [hw];refine AE (fun hq=>?_) (fun hq=>?_)
 ·have hk8:k<8:=by simp at hq;omega
  refine AA rfl (Wi ⟨by' (f*256+j*8+k),?_,AA (by rw [wi (by omega)];simp;omega) ⟨8-(k+1),by omega,k+1,wzz,hk8,rfl,rfl,?_⟩⟩)
  ·rw [tnc,mo]
   show rd w bb (f*256+j*8+k)=_
   rw [h.bs.rd,AT _ _ _ _ _ (by omega),za]
  ·rw [or_word hk8 (wordK_lt hb _ k) (hb _)]
   rfl
 ·have:k=8:=by simp at hq;omega
  subst this;exact⟨rfl,rfl⟩
theorem J3(h:BM w m bb mb c n by' mk)(hn:n<=1024)(frame i x:Int) :
 Calls prog 97 #[ptr m,vi frame,vi i,.int .u64 x] w fun e w'=>e=.returned (vi (wdE n frame i))/\Kept (·=bb) w w'/\BM w' m bb mb c n (wdS by' n frame i x) mk:=by
 refine(vc97 _ frame i x w (fun v w'=>v=vi (wdE n frame i)/\Kept (·=bb) w w'/\BM w' m bb mb c n (wdS by' n frame i x) mk) ?_).mono ?_
 rotate_left
 ·rintro e w' ⟨v,rfl,rfl,h⟩;exact⟨rfl,h⟩
 have h95:rd w m (0+95)=some (.slice (some ⟨mb,0,none⟩) n n):=by rw [za];exact h.r95
 have h94:rd w m (0+94)=some (.slice (some ⟨bb,0,none⟩) (n*256) (n*256)):=by rw [za];exact h.r94
 have nul:∀{e:Int}{w2:Int->Prop}{G:Int->WD->Nat->Prop},wdE n frame i=e->wdE n frame i≠0->∃(I:Int->WD->Nat->Prop),(∃(n:Nat),I 0 w n)/\∀(q:Int) (w':WD) (n_1:Nat),I q w' n_1->Wif (decide (q<0)) (Wif (decide (0<=IntKind.wrap .i64 (8*q))) False False) ((fun v w'=>v=vi (wdE n frame i)/\Kept (·=bb) w w'/\BM w' m bb mb c n (wdS by' n frame i x) mk) (vi e) w'):=by
  rintro e _ _ rfl he;refine⟨fun q W _=>q=0/\W=w,⟨0,rfl,rfl⟩,?_⟩;rintro _ w1 _ ⟨rfl,hw⟩;rw [hw];exact AG rfl ⟨rfl,Kept.refl _ _,by unfold wdS;rw [if_neg he];exact h⟩
 unfold Q;by_cases hf:frame<0\/frame>=n
 ·have e7:wdE n frame i=7:=by unfold wdE;rw [if_pos hf]
  have hc:(decide (frame<0)||decide (frame>=(n:Int)))=true:=by simpa using hf
  have:=nul (w2:=fun _=>True) (G:=fun _ _ _=>True) e7 (by rw [e7];decide);exact AE (fun _=>AF (fun _=>rfl) ⟨_,_,_,fun _=>h95,AG rfl (AF (fun _=>rfl) ⟨_,_,_,fun _=>h95,AA hc this⟩)⟩)
   (fun _=>AF (fun _=>rfl) ⟨_,_,_,fun _=>h95,AG rfl (AF (fun _=>rfl) ⟨_,_,_,fun _=>h95,AA hc this⟩)⟩)
 have hc:(decide (frame<0)||decide (frame>=(n:Int)))=false:=by simp;omega
 by_cases hi:i<0\/i>31
 ·have e2:wdE n frame i=2:=by unfold wdE;rw [if_neg hf,if_pos hi]
  have:=nul (w2:=fun _=>True) (G:=fun _ _ _=>True) e2 (by rw [e2];decide);exact AA (by simpa using hi) (AF (fun _=>rfl) ⟨_,_,_,fun _=>h95,AG rfl (AF (fun _=>rfl) ⟨_,_,_,fun _=>h95,AG hc this⟩)⟩)
 clear nul;have e0:wdE n frame i=0:=DD;have eF:wdS by' n frame i x=setB by' (wdO frame i) x 8:=by unfold wdS;rw [if_pos e0]
 rw [e0,eF];obtain⟨f,rfl⟩:∃f:Nat,frame=f:=⟨frame.toNat,by omega⟩;obtain⟨j,rfl⟩:∃j:Nat,i=j:=⟨i.toNat,by omega⟩;refine AG (by simp;omega) (AF (fun _=>rfl) ⟨_,_,_,fun _=>h95,AG rfl (AF (fun _=>rfl) ⟨_,_,_,fun _=>h95,AG hc ?_⟩)⟩);rw [wi (x:=8*(j:Int)) (by omega),wi (x:=(f:Int)+1) (by omega),wi (x:=(f:Int)*256) (by omega),wi (x:=((f:Int)+1)*256) (by omega),wi (x:=8*(j:Int)+8) (by omega)];refine AG (by simp;omega) (AA rfl ⟨_,_,_,h94,AA BI (AA BI (AA BI ?_))⟩);rw [show Int.toNat ((f:Int)*256)=f*256 by omega,show Int.toNat (((f:Int)+1)*256)=f*256+256 by omega,show Int.toNat (8*(j:Int))=j*8 by omega,show Int.toNat (8*(j:Int)+8)=j*8+8 by omega,show j*8+8-j*8=8 by omega,show f*256+256-f*256=256 by omega,offA2 (by omega) (by omega)];have eo:wdO (f:Int) (j:Int)=f*256+j*8:=rfl;rw [eo];refine⟨fun q W N=>∃k:Nat,q=k/\k<=8/\N=8-k/\Kept (·=bb) w W/\own W bb (AK .u8 (setB by' (f*256+j*8) x k) 0 (n*256)),⟨8,0,rfl,by omega,rfl,Kept.refl _ _,h.bs⟩,?_⟩;rintro _ w1 _ ⟨k,rfl,hk,rfl,k1,o1⟩;refine AE (fun hq=>?_) (fun hq=>?_)
 ·have hk8:k<8:=by simp at hq;omega
  refine AA (by rw [wi (by omega)];simp;omega) (AA rfl (Wi ⟨?_,fun w2 e2=>⟨8-(k+1),by omega,k+1,wzz,hk8,rfl,?_,?_⟩⟩))
  ·rw [tnc,mo];exact o1.wr (by rw [AI];show f*256+j*8+k<_;omega)
  ·exact k1.trans ((Kept.refl (·=bb) _).s1 e2 (.inl rfl)) fun _ _ e=>e
  ·rw [tnc,mo] at e2;have o2:=o1.s1 e2;rw [show po (some (⟨bb,f*256+j*8,none⟩:Addr))+k=f*256+j*8+k from rfl,GS (by omega)] at o2;rw [wi (by omega),show Int.toNat (8*(k:Int))=8*k by omega,Nat.min_eq_left (by omega)] at o2;exact o2
 ·have:k=8:=by simp at hq;omega
  subst this;exact⟨rfl,k1,⟨h.so.kx k1 h.ne.1,o1,h.ms.kx k1 (Ne.symm h.ne.2.2),h.ne⟩⟩
end
end Go.Proofs.YtdgbechegbmpcaaGreatDoor
namespace Go.Proofs.YtdgbechegbmpcaaGreatDoor
open Go Go.Eng Go.Proofs.Tryz
open Go.Value (bool func)
open Option (isNone)
open Go.IntKind (wrap)
theorem vc93(x0 x1 x2 x3 x4:Int)(w:WD)(K:KV)(h:Q (AW w #[vu x0,vi x1,vi x2,vi x3,vi x4] 86 fun w'=>R8 w' w.heap.size 0 fun x=>∃(c:Int),(decide (x>=1)=true->rd w' w.heap.size 0=some (.int .u8 c))/\∃(a:Int),((decide (x>=1)&&decide (c<=5))=true->rd w' w.heap.size 1=some (.int .i64 a))/\Wif (decide (x>=1)&&decide (c<=5)) (∃(x:Int),((decide (a>=0)&&decide (a<=10))=true->rd w' w.heap.size 2=some (.int .i64 x))/\Wif (decide (a>=0)&&decide (a<=10)) (∃(b:Int),((decide (x>=0)&&decide (x<=65535))=true->rd w' w.heap.size 3=some (.int .i64 b))/\Wif (decide (x>=0)&&decide (x<=65535)) (∃(x:Int),((decide (b>=0)&&decide (b<=65535))=true->rd w' w.heap.size 4=some (.int .i64 x))/\K (.bool (decide (b>=0)&&decide (b<=65535)&&decide (x>=0))) w') (K (.bool false) w')) (K (.bool false) w')) (K (.bool false) w'))):Ret 93 #[Value.agg #[vu x0,vi x1,vi x2,vi x3,vi x4]] w K:=vcA L4 3 [] func93 h
def vcP94(w:WD)(K:KV):Prop:=AW w #[sl none 0 0] 305 fun w'=>K (ptr w.heap.size) w'
theorem vc94(w:WD)(K:KV)(h:vcP94  w K):Ret 94 #[] w K:=vcA L2 2 [] func94 h
theorem vc95(n:Int)(w:WD)(K:KV)(h:Q (Wif (I6 8 (wrap .i64 (Int.tdiv (wrap .i64 ((if 65536<if 0>n then 0 else n then 65536 else if 0>n then 0 else n)+63)) 64)) (wrap .i64 (Int.tdiv (wrap .i64 ((if 65536<if 0>n then 0 else n then 65536 else if 0>n then 0 else n)+63)) 64))) (AW w (List.toArray (List.replicate (Int.toNat (wrap .i64 (Int.tdiv (wrap .i64 ((if 65536<if 0>n then 0 else n then 65536 else if 0>n then 0 else n)+63)) 64))) (Value.int .u64 0))) 76 fun w'=>AW w' #[sl (aD w.heap.size) (Int.toNat (wrap .i64 (Int.tdiv (wrap .i64 ((if 65536<if 0>n then 0 else n then 65536 else if 0>n then 0 else n)+63)) 64))) (Int.toNat (wrap .i64 (Int.tdiv (wrap .i64 ((if 65536<if 0>n then 0 else n then 65536 else if 0>n then 0 else n)+63)) 64))),vi (if 65536<if 0>n then 0 else n then 65536 else if 0>n then 0 else n)] 212 fun a=>K (ptr w'.heap.size) a) False)):Ret 95 #[vi n] w K:=vcA L2 2 [] func95 h
theorem vc35(root:Int)(w:WD)(K:KV)(h:Q (CP 94 #[] w fun p w'=>CP 95 #[vi 1024] w' fun c w'=>∀a,a=w'.alloc (.map #[] 0)->AW a #[pt p,vi root,pt c,vu 0,vu 0,Value.map (some w'.heap.size)] 116 fun b=>K (ptr a.heap.size) b)):Ret 35 #[vi root] w K:=vcA L2 2 [] func35 h
theorem vc18(k:OA)(frame:Int)(w:WD)(K:KV)(h:Q (Wif (isNone k) (K (vi (-1)) w) (Wp k (∃(x:Nat->Int),AS w (pb k) (po k) (AK .i64 x 0 94)/\CJ 52 #[Value.agg (List.toArray (AK .i64 x 0 94)),vi frame] w fun n a w'=>Wif (a != 0) (K (vi (-1)) w') (K (vi n) w'))))):Ret 18 #[pt k,vi frame] w K:=vcA L3 3 [] func18 h
theorem vc54(k:OA)(pid page:Int)(w:WD)(K:KV)(h:Q (AW w #[vu 0,vu 0] 113 fun w'=>gIf (isP k) ((decide (pid<0)||decide (pid>8))=false) (gIf (inB pid 9) ((decide (pid<0)||decide (pid>8))=false) (∃(x:OA),((decide (pid<0)||decide (pid>8))=false->rd w' (pb k) (po k+105+Int.toNat pid*1)=some (.pointer x))/\Wif (decide (pid<0)||decide (pid>8)||isNone x) ((wr w' w.heap.size 0/\wr w' w.heap.size 1)/\St (st w' w.heap.size 0 (vu 0)) w.heap.size 1 (vu 0) fun b=>∃(x c:Int),(rd b w.heap.size 0=some (.int .u8 x)/\rd b w.heap.size 1=some (.int .u8 c))/\K (.agg #[vu x,vu c]) b) (Wp k (Wn pid 9 (RP w' (pb k) (po k+105+Int.toNat pid*1) fun x=>Wp x (∃(c:Option Nat),rd w' (pb x) (po x+5)=some (.map c)/\∃(g h:Int) (i:Bool),E5 prog 114 (Value.map c) (vi page) true (Value.tuple #[Value.agg #[vu g,vu h],bool i]) w'/\AW w' #[vu 0,vu 0] 113 fun b=>(wr b w'.heap.size 0/\wr b w'.heap.size 1)/\St (st b w'.heap.size 0 (vu g)) w'.heap.size 1 (vu h) fun a=>Wif i (∃(x d:Int),(rd a w'.heap.size 0=some (.int .u8 x)/\rd a w'.heap.size 1=some (.int .u8 d))/\(wr a w.heap.size 0/\wr a w.heap.size 1)/\St (st a w.heap.size 0 (vu x)) w.heap.size 1 (vu d) fun w'=>∃(x f:Int),(rd w' w.heap.size 0=some (.int .u8 x)/\rd w' w.heap.size 1=some (.int .u8 f))/\K (.agg #[vu x,vu f]) w') (Wp x (∃(d f:Int),(rd a (pb x) (po x+3)=some (.int .u8 d)/\rd a (pb x) (po x+4)=some (.int .u8 f))/\(wr a w.heap.size 0/\wr a w.heap.size 1)/\St (st a w.heap.size 0 (vu d)) w.heap.size 1 (vu f) fun w'=>∃(x j:Int),(rd w' w.heap.size 0=some (.int .u8 x)/\rd w' w.heap.size 1=some (.int .u8 j))/\K (.agg #[vu x,vu j]) w')))))))))):Ret 54 #[pt k,vi pid,vi page] w K:=vcA L3 3 [] func54 h
theorem vc99(m:OA)(frame pid number:Int)(w:WD)(K:KV)(h:Q (gIf (isP m) (isNone m=false) (∃(x:Option Nat),(isNone m=false->rd w (pb m) (po m+1)=some (.map x))/\Wif (isNone m||isNone x) (AW w #[vi 0,vi 0] 308 fun w'=>(wr w' w.heap.size 0/\wr w' w.heap.size 1)/\St (st w' w.heap.size 0 (vi pid)) w.heap.size 1 (vi number) fun a=>K (vi 1) a) (gIf (isP m) (decide (frame<0)=false) (∃(x:OA) (i p:Nat),(decide (frame<0)=false->rd w (pb m) (po m)=some (.slice x i p))/\Wif (decide (frame<0)||decide (frame>=(↑i:Int))) (AW w #[vi 0,vi 0] 308 fun w'=>(wr w' w.heap.size 0/\wr w' w.heap.size 1)/\St (st w' w.heap.size 0 (vi pid)) w.heap.size 1 (vi number) fun a=>K (vi 2) a) (AW w #[vi 0,vi 0] 308 fun w'=>(wr w' w.heap.size 0/\wr w' w.heap.size 1)/\St (st w' w.heap.size 0 (vi pid)) w.heap.size 1 (vi number) fun a=>Wif (decide (pid<1)||decide (pid>8)||decide (number<0)||decide (number>=1024)) (K (vi 2) a) (Wp m (Rs a m 0 fun x q u=>Wp x (Wn frame q (Ri a x (Int.toNat frame*2) fun r=>Wif (r != 0) (K (vi 80) a) (Dr a fun c=>Wp m (∃(x:Option Nat),rd c (pb m) (po m+1)=some (.map x)/\∃(j k:Int),(rd c w.heap.size 0=some (.int .i64 j)/\rd c w.heap.size 1=some (.int .i64 k))/\∃(s:Int) (l:Bool),E5 prog 286 (Value.map x) (Value.agg #[vi j,vi k]) true (Value.tuple #[vi s,bool l]) c/\Wif l (K (vi 8) c) (Dr c fun b=>Wp m (Rs b m 0 fun x o t=>∃(d f:Int),(rd b w.heap.size 0=some (.int .i64 d)/\rd b w.heap.size 1=some (.int .i64 f))/\Wp x (Wn frame o ((wr b (pb x) (po x+Int.toNat frame*2)/\wr b (pb x) (po x+Int.toNat frame*2+1))/\St (st b (pb x) (po x+Int.toNat frame*2) (vi d)) (pb x) (po x+Int.toNat frame*2+1) (vi f) fun w'=>Dr w' fun c=>Wp m (∃(x:Option Nat),rd c (pb m) (po m+1)=some (.map x)/\∃(g h:Int),(rd c w.heap.size 0=some (.int .i64 g)/\rd c w.heap.size 1=some (.int .i64 h))/\∃(w':WD),EA prog 286 (Value.map x) (Value.agg #[vi g,vi h]) (vi frame) c w'/\K (vi 0) w'))))))))))))))))):Ret 99 #[pt m,vi frame,vi pid,vi number] w K:=vcA L1 3 [] func99 h
theorem vc322(m:OA)(frame:Int)(w:WD)(K:KV)(h:Q (gIf (isP m) (isNone m=false) (∃(x:Option Nat),(isNone m=false->rd w (pb m) (po m+1)=some (.map x))/\Wif (isNone m||isNone x) (K (vi 1) w) (gIf (isP m) (decide (frame<0)=false) (∃(x:OA) (d i:Nat),(decide (frame<0)=false->rd w (pb m) (po m)=some (.slice x d i))/\Wif (decide (frame<0)||decide (frame>=(↑d:Int))) (K (vi 2) w) (Wp m (Rs w m 0 fun x j p=>Wp x (Wn frame j (Ri w x (Int.toNat frame*2) fun k=>Wif (k==0) (K (vi 7) w) (Dr w fun b=>Wp m (∃(x:Option Nat),rd b (pb m) (po m+1)=some (.map x)/\Wp m (Rs b m 0 fun a l q=>Wp a (Wn frame l (∃(f c:Int),(rd b (pb a) (po a+Int.toNat frame*2)=some (.int .i64 f)/\rd b (pb a) (po a+Int.toNat frame*2+1)=some (.int .i64 c))/\∃(w':WD),HS prog #[286,308] 0 (Value.map x) (Value.agg #[vi f,vi c]) b w'/\Wp m (Rs w' m 0 fun x g o=>Wp x (Wn frame g ((wr w' (pb x) (po x+Int.toNat frame*2)/\wr w' (pb x) (po x+Int.toNat frame*2+1))/\St (st w' (pb x) (po x+Int.toNat frame*2) (vi 0)) (pb x) (po x+Int.toNat frame*2+1) (vi 0) fun h=>K (vi 0) h))))))))))))))))):Ret 322 #[pt m,vi frame] w K:=vcA L1 3 [] func322 h
theorem vc101(c:OA)(frame:Int)(w:WD)(K:KV)(h:Q (gIf (isP c) (isNone c=false) (∃(x:Option Nat),(isNone c=false->rd w (pb c) (po c+1)=some (.map x))/\Wif (isNone c||isNone x) (K (vi 1) w) (Wif (decide (frame<0)) (K (vi 2) w) (gIf (isP c) (isNone c=false) (∃(x:Option Nat),(isNone c=false->rd w (pb c) (po c+1)=some (.map x))/\Wif (isNone c||isNone x) (Wp c (Rs w c 0 fun x f g=>AW w #[vi frame] 3 fun w'=>∃(a:OA) (l c_1:Nat) (b:WD),BF prog #[27,27] 27 (sl x f g) (sl (aD w.heap.size) 1 1) (sl a l c_1) w' b/\Wp c (Sw b (pb c) (po c) (sl a l c_1) fun w'=>Wp c (∃(x:Option Nat),rd w' (pb c) (po c+1)=some (.map x)/\∃(d:WD),EA prog 289 (Value.map x) (vi frame) (Value.agg #[bool true,bool true]) w' d/\K (vi 0) d)))) (Wp c (∃(x:Option Nat),rd w (pb c) (po c+1)=some (.map x)/\∃(f g i:Bool),E5 prog 289 (Value.map x) (vi frame) true (Value.tuple #[Value.agg #[bool f,bool g],bool i]) w/\AW w #[bool false,bool false] 311 fun w'=>(wr w' w.heap.size 0/\wr w' w.heap.size 1)/\St (st w' w.heap.size 0 (bool f)) w.heap.size 1 (bool g) fun b=>Wif i (K (vi 8) b) (Wp c (Rs b c 0 fun x j k=>AW b #[vi frame] 3 fun w'=>∃(a:OA) (l c_1:Nat) (d:WD),BF prog #[27,27] 27 (sl x j k) (sl (aD b.heap.size) 1 1) (sl a l c_1) w' d/\Wp c (Sw d (pb c) (po c) (sl a l c_1) fun w'=>Wp c (∃(x:Option Nat),rd w' (pb c) (po c+1)=some (.map x)/\∃(h:WD),EA prog 289 (Value.map x) (vi frame) (Value.agg #[bool true,bool true]) w' h/\K (vi 0) h)))))))))))):Ret 101 #[pt c,vi frame] w K:=vcA L1 3 [] func101 h
theorem vc323(c:OA)(frame:Int)(w:WD)(K:KV)(h:Q (gIf (isP c) (isNone c=false) (∃(x:Option Nat),(isNone c=false->rd w (pb c) (po c+1)=some (.map x))/\Wif (isNone c||isNone x) (K (vi 1) w) (gIf (isP c) (isNone c=false) (∃(x:Option Nat),(isNone c=false->rd w (pb c) (po c+1)=some (.map x))/\Wif (isNone c||isNone x) (K (vi 7) w) (Wp c (∃(x:Option Nat),rd w (pb c) (po c+1)=some (.map x)/\∃(d f g:Bool),E5 prog 289 (Value.map x) (vi frame) true (Value.tuple #[Value.agg #[bool d,bool f],bool g]) w/\AW w #[bool false,bool false] 311 fun w'=>(wr w' w.heap.size 0/\wr w' w.heap.size 1)/\St (st w' w.heap.size 0 (bool d)) w.heap.size 1 (bool f) fun b=>Wif (!g) (K (vi 7) b) (Wp c (∃(x:Option Nat),rd b (pb c) (po c+1)=some (.map x)/\∃(w':WD),HS prog #[289,3] 0 (Value.map x) (vi frame) b w'/\Wp c (Rs w' c 0 fun x i j=>CI 235 #[sl x i j,vi frame] w' fun n w'=>Wp c (Rs w' c 0 fun x k o=>CS 236 #[sl x k o,vi n,vi (wrap .i64 (n+1))] w' fun a l c_1 w'=>Wp c (Sw w' (pb c) (po c) (sl a l c_1) fun h=>K (vi 0) h)))))))))))):Ret 323 #[pt c,vi frame] w K:=vcA L1 3 [] func323 h
theorem vc187(k:OA)(frame:Int)(w:WD)(K:KV)(h:Q (Wif (isNone k) (K (vi 1) w) (Wp k (Rp w k 95 fun x=>CI 237 #[pt x,vi frame,vi 0] w fun n w'=>Wif (n != 0) (K (vi 2) w') (Wp k (Rp w' k 94 fun x=>CI 34 #[pt x,vi frame,Value.agg #[vu 1,vi 0,vi 0,vi 0,vi 0]] w' fun n w'=>K (vi 0) w')))))):Ret 187 #[pt k,vi frame] w K:=vcA L3 3 [] func187 h
theorem vc39(k:OA)(pid page frame:Int)(w:WD)(K:KV)(h:Q (Wif (isNone k) (K (vi 1) w) (Wif (decide (pid<1)||decide (pid>8)) (CI 18 #[pt k,vi frame] w fun n w'=>Wif (decide (n<0)||decide (page<0)||decide (page>=1024)) (K (vi 2) w') (K (vi 7) w')) (Wp k (Wn pid 9 (RP w (pb k) (po k+105+Int.toNat pid*1) fun x=>CI 18 #[pt k,vi frame] w fun n w'=>Wif (decide (n<0)||decide (page<0)||decide (page>=1024)) (K (vi 2) w') (Wif (isNone x) (K (vi 7) w') (Dr w' fun a=>Wp k (Rp a k 94 fun c=>Wp x (Ri a x 1 fun d=>CJ 49 #[pt c,vi d,vi page] a fun o f w'=>Wif (f != 0) (K (vi 7) w') (Wp k (Rp w' k 98 fun g=>CI 99 #[pt g,vi frame,vi pid,vi page] w' fun b w'=>Wif (b != 0) (K (vi b) w') (Dr w' fun a=>Wp k (Rp a k 94 fun h=>Wp x (Ri a x 1 fun i=>CI 100 #[pt h,vi i,vi page,Value.agg #[vu 1,vi frame]] a fun p w'=>Wp k (Rp w' k 94 fun x=>CI 34 #[pt x,vi frame,Value.agg #[vu 4,vi 0,vi pid,vi page,vi 0]] w' fun q w'=>Wp k (Rs w' k 100 fun x j r=>Wp x (Wn n j (Rp w' x (Int.toNat n*1) fun l=>CI 101 #[pt l,vi frame] w' fun n w'=>K (vi 0) w'))))))))))))))))))):Ret 39 #[pt k,vi pid,vi page,vi frame] w K:=vcA L3 3 [] func39 h
theorem vc20(k:OA)(cpu pid page:Int)(w:WD)(K:KV)(h:Q (Wif (isNone k) (K (sl none 0 0) w) (gIf (isP k) (decide (cpu>=0)=true) (∃(x:Int),(decide (cpu>=0)=true->rd w (pb k) (po k+1)=some (.int .i64 x))/\Wif (decide (cpu>=0)&&decide (cpu<x)) (Wp k (Wn cpu 16 (RI w (pb k) (po k+2+Int.toNat cpu*1) fun x=>Dr w fun d=>Wp k (∃(f:Nat->Int),AS d (pb k) (po k) (AK .i64 f 0 94)/\Calls prog 54 #[pt k,vi pid,vi page] d fun e w'=>∃(n b:Int),e=rT (.agg #[vu n,vu b])/\(AS w' (pb k) (po k) (AK .i64 f 0 94)/\True)/\Calls prog 53 #[Value.agg (List.toArray (AK .i64 f 0 94)),Value.agg #[vu n,vu b],vi x,vi page] w' fun e w'=>∃(a:OA) (l c:Nat) (n:Int),e=rT (.tuple #[sl a l c,vi n])/\K (sl a l c) w')))) (Dr w fun d=>Wp k (∃(x:Nat->Int),AS d (pb k) (po k) (AK .i64 x 0 94)/\Calls prog 54 #[pt k,vi pid,vi page] d fun e w'=>∃(n b:Int),e=rT (.agg #[vu n,vu b])/\(AS w' (pb k) (po k) (AK .i64 x 0 94)/\True)/\Calls prog 53 #[Value.agg (List.toArray (AK .i64 x 0 94)),Value.agg #[vu n,vu b],vi 0,vi page] w' fun e w'=>∃(a:OA) (l c:Nat) (n:Int),e=rT (.tuple #[sl a l c,vi n])/\K (sl a l c) w')))))):Ret 20 #[pt k,vi cpu,vi pid,vi page] w K:=vcA L1 3 [] func20 h
end Go.Proofs.YtdgbechegbmpcaaGreatDoor
namespace Go.Proofs.YtdgbechegbmpcaaGreatDoor
open Go Go.Eng Go.Proofs.Tryz
def mayM(x:Mark):Bool:=decide (1<=x.role/\x.role<=5/\0<=x.order/\x.order<=10/\0<=x.owner/\x.owner<=65535/\0<=x.page/\x.page<=65535/\0<=x.index)
theorem mmay_spec(x:Mark)(w:WD):Calls prog 93 #[.agg (F8 x).toArray] w fun e w'=>e=.returned (.bool (mayM x))/\Kept AB w w':=by
 refine(vc93 x.role x.order x.owner x.page x.index w (fun v w'=>v=.bool (mayM x)/\Kept AB w w') ?_).mono ?_
 rotate_left
 ·rintro e w' ⟨v,rfl,rfl,h⟩;exact⟨rfl,h⟩
 unfold Q;intro w1 e1;have o1:=AD (c:=F8 x) e1;have k1:=kal e1;obtain⟨r0,r1,r2,r3,r4⟩:=rd5 o1;have no:∀{b:Bool},b=false->(¬(1<=x.role/\x.role<=5/\0<=x.order/\x.order<=10/\0<=x.owner/\x.owner<=65535/\0<=x.page/\x.page<=65535/\0<=x.index))->b=mayM x:=fun h1 h2=>by rw [h1];unfold mayM;simp only [h2,decide_false]
 refine⟨_,r0,_,fun _=>r0,_,fun _=>r1,AE (fun h1=>⟨_,fun _=>r2,AE (fun h2=>⟨_,fun _=>r3,AE (fun h3=>⟨_,fun _=>r4,?_,k1⟩) (fun h3=>⟨?_,k1⟩)⟩) (fun h2=>⟨?_,k1⟩)⟩) (fun h1=>⟨?_,k1⟩)⟩
 ·simp only [Bool.and_eq_true,decide_eq_true_eq] at h1 h2 h3;congr 1;unfold mayM;rw [Bool.eq_iff_iff];simp only [Bool.and_eq_true,decide_eq_true_eq];omega
 ·simp only [Bool.and_eq_false_iff,decide_eq_false_iff_not] at h3;rw [<- no (b:=false) rfl (by omega)]
 ·simp only [Bool.and_eq_false_iff,decide_eq_false_iff_not] at h2;rw [<- no (b:=false) rfl (by omega)]
 ·simp only [Bool.and_eq_false_iff,decide_eq_false_iff_not] at h1;rw [<- no (b:=false) rfl (by omega)]
theorem QB{α:Type}(f:Nat->α)(i:Nat)(a b:α):upd (upd f i a) i b=upd f i b:=by
 funext j;by_cases h:j=i
 ·subst h;rw [upd_same,upd_same]
 ·rw [AH _ _ h,AH _ _ h,AH _ _ h]
theorem own_put5{w w':WD}{b n i:Nat}{f:Nat->List Value}{v0 v1 v2 v3 v4:Value}(h:own w b (CU n f))(hf:∀j,j<n->(f j).length=5)(hi:i<n)
 (e:w'=st (st (st (st (st w b (0+i*5) v0) b (0+i*5+1) v1) b (0+i*5+2) v2) b (0+i*5+3) v3) b (0+i*5+4) v4):own w' b (CU n (upd f i [v0,v1,v2,v3,v4]))/\Kept (·=b) w w':=by
 subst e;rw [za];have hu:∀{l:List Value},l.length=5->∀j,j<n->(upd f i l j).length=5:=fun hl j hj=>by
  by_cases e:j=i
  ·subst e;rw [upd_same];exact hl
  ·rw [AH _ _ e];exact hf j hj
 have h0:=h.BL (o:=i*5) (v:=v0);obtain⟨a0,a1,a2,a3,a4,ha⟩:∃a0 a1 a2 a3 a4,f i=[a0,a1,a2,a3,a4]:=by
  have:=hf i hi
  match f i,this with
  | [a0,a1,a2,a3,a4],_=>exact⟨a0,a1,a2,a3,a4,rfl⟩
 have s0:=EB hf hi (j:=0) (v:=v0) (by decide);rw [Nat.add_zero,ha] at s0;have s1:=EB (f:=upd f i [v0,a1,a2,a3,a4]) (hu rfl) hi (j:=1) (v:=v1) (by decide);have s2:=EB (f:=upd f i [v0,v1,a2,a3,a4]) (hu rfl) hi (j:=2) (v:=v2) (by decide);have s3:=EB (f:=upd f i [v0,v1,v2,a3,a4]) (hu rfl) hi (j:=3) (v:=v3) (by decide);have s4:=EB (f:=upd f i [v0,v1,v2,v3,a4]) (hu rfl) hi (j:=4) (v:=v4) (by decide);rw [upd_same,QB] at s1 s2 s3 s4;have o:=h.BL (o:=i*5) (v:=v0) |>.BL (o:=i*5+1) (v:=v1) |>.BL (o:=i*5+2) (v:=v2) |>.BL (o:=i*5+3) (v:=v3) |>.BL (o:=i*5+4) (v:=v4)
 rw [s0] at o;simp only [List.set_cons_zero,List.set_cons_succ] at o s1 s2 s3 s4;rw [s1,s2,s3,s4] at o;exact⟨o,((((Kept.refl (·=b) w).st (.inl rfl)).st (.inl rfl)).st (.inl rfl)).st (.inl rfl) |>.st (.inl rfl)⟩
theorem own_put2{w w':WD}{b n i:Nat}{f:Nat->List Value}{v0 v1:Value}(h:own w b (CU n f))(hf:∀j,j<n->(f j).length=2)(hi:i<n)
 (e:w'=st (st w b (0+i*2) v0) b (0+i*2+1) v1):own w' b (CU n (upd f i [v0,v1]))/\Kept (·=b) w w':=by
 subst e;rw [za];have hu:∀{l:List Value},l.length=2->∀j,j<n->(upd f i l j).length=2:=fun hl j hj=>by
  by_cases e:j=i
  ·subst e;rw [upd_same];exact hl
  ·rw [AH _ _ e];exact hf j hj
 obtain⟨a0,a1,ha⟩:∃a0 a1,f i=[a0,a1]:=by
  have:=hf i hi
  match f i,this with
  | [a0,a1],_=>exact⟨a0,a1,rfl⟩
 have s0:=EB hf hi (j:=0) (v:=v0) (by decide);rw [Nat.add_zero,ha] at s0;have s1:=EB (f:=upd f i [v0,a1]) (hu rfl) hi (j:=1) (v:=v1) (by decide);rw [upd_same,QB] at s1;have o:=h.BL (o:=i*2) (v:=v0) |>.BL (o:=i*2+1) (v:=v1)
 rw [s0] at o;simp only [List.set_cons_zero,List.set_cons_succ] at o s1;rw [s1] at o;exact⟨o,((Kept.refl (·=b) w).st (.inl rfl)).st (.inl rfl)⟩
def smE(n:Nat)(frame:Int)(x:Mark):Int:=if frame<0\/frame>=n then 7 else if mayM x then 0 else 2
def smS(mk:Nat->Mark)(n:Nat)(frame:Int)(x:Mark):Nat->Mark:=if smE n frame x=0 then upd mk frame.toNat x else mk
section
variable {w:WD}{m bb mb:Nat}{c:Nat->Int}{n:Nat}{by':Nat->Int}{mk:Nat->Mark}
theorem setMark_spec(h:BM w m bb mb c n by' mk)(frame:Int)(x:Mark) :
 Calls prog 34 #[ptr m,vi frame,.agg (F8 x).toArray] w fun e w'=>e=.returned (vi (smE n frame x))/\Kept (·=mb) w w'/\BM w' m bb mb c n by' (smS mk n frame x):=by
 refine(vc34 _ frame x.role x.order x.owner x.page x.index w (fun v w'=>v=vi (smE n frame x)/\Kept (·=mb) w w'/\BM w' m bb mb c n by' (smS mk n frame x)) ?_).mono ?_
 rotate_left
 ·rintro e w' ⟨v,rfl,rfl,h⟩;exact⟨rfl,h⟩
 have hl:=h.ms.lt;unfold Q;intro w1 e1;have o1:=AD (c:=F8 x) e1;have k1:=kal e1;have h1:=h.k k1;have h95:∀{W:WD},Kept AB w1 W->rd W m (0+95)=some (.slice (some ⟨mb,0,none⟩) n n):=fun kk=>by rw [za];exact(h1.k kk).r95
 have kr:=Kept.refl AB w1;refine AF (fun _=>rfl) ⟨_,_,_,fun _=>h95 kr,AG rfl (AF (fun _=>rfl) ⟨_,_,_,fun _=>h95 kr,AE (fun hf=>?_) (fun hf=>?_)⟩)⟩
 ·have e7:smE n frame x=7:=by unfold smE;rw [if_pos (by simpa using hf)]
  have es:smS mk n frame x=mk:=by unfold smS;rw [e7];rfl
  rw [e7,es];exact⟨rfl,k1.mono fun _ _ e=>e.elim,h1⟩
 have hf':0<=frame/\frame<n:=by simp at hf;omega
 obtain⟨f,rfl⟩:∃f:Nat,frame=f:=⟨frame.toNat,by omega⟩;have hfn:f<n:=by omega
 refine⟨_,_,_,_,_,rd5 o1,(mmay_spec x w1).mono ?_⟩;rintro _ w2 ⟨rfl,k2⟩;refine⟨_,rfl,AE (fun hb=>?_) (fun hb=>?_)⟩
 ·have e2:smE n (f:Int) x=2:=by unfold smE;rw [if_neg (by omega),if_neg (by simpa using hb)]
  have es:smS mk n (f:Int) x=mk:=by unfold smS;rw [e2];rfl
  rw [e2,es];exact⟨rfl,(k1.tr k2).mono fun _ _ e=>e.elim,h1.k k2⟩
 have e0:smE n (f:Int) x=0:=by unfold smE;rw [if_neg (by omega),if_pos (by simpa using hb)]
 have es:smS mk n (f:Int) x=upd mk f x:=by unfold smS;rw [if_pos e0];rfl
 rw [e0,es];intro w3 e3;have k3:Kept AB w1 w3:=k2.dr e3;have h3:=h1.k k3;have hf5:∀j,j<n->(F8 (mk j)).length=5:=fun _ _=>rfl;have hlen:(CU n fun i=>F8 (mk i)).length=n*5:=DI hf5;refine AA rfl ⟨_,_,_,h95 k3,_,_,_,_,_,rd5 (o1.k k3),AA rfl (Wi ⟨?_,fun w4 e4=>?_⟩)⟩
 ·rw [tnc];exact⟨h3.ms.wr (by rw [hlen];show 0+f*5<_;omega),h3.ms.wr (by rw [hlen];show 0+f*5+1<_;omega),h3.ms.wr (by rw [hlen];show 0+f*5+2<_;omega),h3.ms.wr (by rw [hlen];show 0+f*5+3<_;omega),h3.ms.wr (by rw [hlen];show 0+f*5+4<_;omega)⟩
 ·rw [tnc] at e4;obtain⟨o4,k4⟩:=own_put5 h3.ms hf5 hfn e4;refine⟨rfl,((k1.tr k3).mono fun _ _ e=>e.elim).trans k4 fun _ _ e=>e,⟨h3.so.kx k4 h.ne.2.1,h3.bs.kx k4 h.ne.2.2,?_,h.ne⟩⟩;have:(fun i=>F8 (upd mk f x i))=upd (fun i=>F8 (mk i)) f [.int .u8 x.role,vi x.order,vi x.owner,vi x.page,vi x.index]:=by
   funext j;by_cases e:j=f
   ·subst e;rw [upd_same,upd_same];rfl
   ·rw [AH _ _ e,AH _ _ e]
  rw [this];exact o4
end
end Go.Proofs.YtdgbechegbmpcaaGreatDoor
