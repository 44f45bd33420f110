/- Part of a proof that a law returns true. Conditions: those in each theorem. -/
import Derived.Test.YtdgbechegbmpcaaGreatDoorX7
set_option linter.unusedVariables false
set_option linter.unusedSimpArgs false
set_option maxRecDepth 100000
namespace Go.Proofs.YtdgbechegbmpcaaGreatDoor
open Go Go.Eng Go.Proofs.Tryz
open Go.Value (bool func slice agg int)
open Option (isNone)
open Go.IntKind (wrap)
open List (replicate range)
variable {w':WD}{b i l who:Nat}{by' f:NI}{frame x:Int}{v0 v1:Value}
theorem vc13(t:OA)(cpu:Int)(w:WD)(K:KV)(h:Q (CP 45 #[pt t,vi cpu] w λp w'=>gIf (isP p) ((!isNone p)=true) (∃(x:Value),((!isNone p)=true->rd w' (pb p) (po p)=some x)/\gIf (okF x) ((!isNone p)=true) (K (.bool (!isNone p&&isF x)) w')))):Ret 13 #[pt t,vi cpu] w K:=vcA L7 2 [] func13 h
theorem vc14(t:OA)(cpu:Int)(fail:Bool)(w:WD)(K:KV)(h:Q (CP 45 #[pt t,vi cpu] w λp w'=>CB 46 #[pt t] w' λb w'=>Wif (!b) (K (.tuple #[bool false,vi 1]) w') (Wif (isNone p) (K (.tuple #[bool false,vi 2]) w') (Wp p (Rv w' p 0 λx=>Wif (okF x) (Wif (!isF x) (K (.tuple #[bool false,vi 220]) w') (Wp p (Ri w' p 1 λx=>Wp p (Sw w' (pb p) (po p+1) (vi (wrap .i64 (x+1))) λa=>Wp p (Rv a p 0 λx=>AN prog x [bool fail] a λe w'=>∃(v:Value),e=rT v/\Wp p (Wif (okF v) (Sw w' (pb p) (po p) v λc=>Wp p (Rv c p 0 λx=>Wif (okF x) (K (.tuple #[bool !isF x,vi 0]) c) False)) False)))))) False))))):Ret 14 #[pt t,vi cpu,bool fail] w K:=vcA L7 2 [2000036] func14 h
theorem vc44(t:OA)(cpu:Int)(s:Value)(w:WD)(K:KV)(h:Q (CP 45 #[pt t,vi cpu] w λp w'=>CB 46 #[pt t] w' λb w'=>Wif (!b) (K (vi 1) w') (gIf (okF s) (isNone p=false) (Wif (isNone p||!isF s) (K (vi 2) w') (Wp p (Rv w' p 0 λx=>Wif (okF x) (Wif (isF x) (K (vi 80) w') (Wp p (Wif (okF s) (Sw w' (pb p) (po p) s λa=>K (vi 0) a) False))) False)))))):Ret 44 #[pt t,vi cpu,s] w K:=vcA L7 2 [] func44 h
theorem vc32(AS:Int)(w:WD)(K:KV)(h:Q (Wif (IU 16 (if 16<if 0>AS then 0 else AS then 16 else if 0>AS then 0 else AS) (if 16<if 0>AS then 0 else AS then 16 else if 0>AS then 0 else AS)) (AW w (DO #[Value.nilFunc,vi 0] 2 (Int.toNat (if 16<if 0>AS then 0 else AS then 16 else if 0>AS then 0 else AS))) 129 λw'=>AW w' #[sl (aD w.heap.size) (Int.toNat (if 16<if 0>AS then 0 else AS then 16 else if 0>AS then 0 else AS)) (Int.toNat (if 16<if 0>AS then 0 else AS then 16 else if 0>AS then 0 else AS))] 202 λa=>K (AP w'.heap.size) a) False)):Ret 32 #[vi AS] w K:=vcA L7 2 [] func32 h
theorem vc45(t:OA)(cpu:Int)(w:WD)(K:KV)(h:Q (Wif (decide (cpu<0)) (K (pt none) w) (CI 126 #[pt t] w λn w'=>Wif (decide (cpu>=n)) (K (pt none) w') (Wp t (Rs w' t 0 λx a b=>Wp x (Wn cpu a (K (pt (some (Addr.mk (pb x) (po x+cpu.toNat*2) none))) w'))))))):Ret 45 #[pt t,vi cpu] w K:=vcA L7 2 [] func45 h
theorem vc46(t:OA)(w:WD)(K:KV)(h:Q (gIf (isP t) ((!isNone t)=true) (∃(x:OA) (a b:Nat),((!isNone t)=true->rd w (pb t) (po t)=some (.slice x a b))/\K (.bool (!isNone t&&!isNone x)) w))):Ret 46 #[pt t] w K:=vcA L7 2 [] func46 h
theorem vc184(t:OA)(who lock:Int)(then':Value)(w:WD)(K:KV)(h:Q (AW w #[pt t] 40 λw'=>AW w' #[vi who] 3 λb=>AW b #[vi lock] 3 λc=>AW c (Value.cells then') 123 λa=>AW a #[Value.nilFunc] 123 λf=>Sw f a.heap.size 0 (func (.func 232) #[] #[bp w,bp w',bp b,bp a,bp c]) λd=>RV d a.heap.size 0 λx=>K x d)):Ret 184 #[pt t,vi who,vi lock,then'] w K:=vcA L7 2 [] func184 h
theorem vc232(x0:Bool)(a c d f g:OA)(w:WD)(K:KV)(h:Q (Wp a (Rp w a 0 λx=>Wp c (Ri w c 0 λh=>Wp d (Ri w d 0 λi=>Calls prog 233 #[pt x,vi h,vi i] w λe w'=>∃(b:Bool) (n:Int),e=rT (.tuple #[bool b,vi n])/\Wif (n != 0) (K Value.nilFunc w') (Wif (!b) (Wp f (Rv w' f 0 λx=>K x w')) (Wp g (Rv w' g 0 λx=>K x w')))))))):Ret 232 #[bool x0,pt a,pt c,pt d,pt f,pt g] w K:=vcA L7 2 [] func232 h
theorem vc233(t:OA)(who lock:Int)(w:WD)(K:KV)(h:Q (gIf (isP t) (isNone t=false) (∃(x:Bool),(isNone t=false->rd w (pb t) (po t+65)=some (.bool x))/\Wif (isNone t||!x) (K (.tuple #[bool false,vi 1]) w) (gIf (isP t) ((decide (who<0)||decide (lock<0))=false) (∃(x:Int),((decide (who<0)||decide (lock<0))=false->rd w (pb t) (po t)=some (.int .i64 x))/\Wif (decide (who<0)||decide (lock<0)||decide (lock>=x)) (K (.tuple #[bool false,vi 2]) w) (Dr w λf=>Wp t (Wp t (Ri f t 0 λx=>Wif (CZ lock x 64) (∃(I:Bool->Int->Int->WD->Nat->Prop),(∃(n:Nat),I false 0 0 f n)/\∀(b:Bool) (n a:Int) (w':WD) (c:Nat),I b n a w' c->Wif (decide (a<(↑(x.toNat-lock.toNat):Int))) (Wp (BS (some (Addr.mk (pb t) (po t+1) none)) 64 (lock.toNat) 1) (Wn a (x.toNat-lock.toNat) (RI w' (pb (BS (some (Addr.mk (pb t) (po t+1) none)) 64 (lock.toNat) 1)) (po (BS (some (Addr.mk (pb t) (po t+1) none)) 64 (lock.toNat) 1)+a.toNat*1) λx=>Wif (x==wrap .i64 (who+1)) (K (.tuple #[bool false,vi 50]) w') (Lt c λm=>I b n (wrap .i64 (a+1)) w' m)))) (Wp t (Wn lock 64 (RI w' (pb t) (po t+1+lock.toNat*1) λx=>Wif (x != 0) (K (.tuple #[bool false,vi 0]) w') (Wp t (Wn lock 64 (Sw w' (pb t) (po t+1+lock.toNat*1) (vi (wrap .i64 (who+1))) λd=>K (.tuple #[bool true,vi 0]) d))))))) False)))))))):Ret 233 #[pt t,vi who,vi lock] w K:=vcA L7 2 [] func233 h
theorem vc238(t:OA)(who lock:Int)(w:WD)(K:KV)(h:Q (gIf (isP t) (isNone t=false) (∃(x:Bool),(isNone t=false->rd w (pb t) (po t+65)=some (.bool x))/\Wif (isNone t||!x) (K (vi 1) w) (gIf (isP t) ((decide (who<0)||decide (lock<0))=false) (∃(x:Int),((decide (who<0)||decide (lock<0))=false->rd w (pb t) (po t)=some (.int .i64 x))/\Wif (decide (who<0)||decide (lock<0)||decide (lock>=x)) (K (vi 2) w) (Wp t (Wn lock 64 (RI w (pb t) (po t+1+lock.toNat*1) λx=>Wif (x != wrap .i64 (who+1)) (K (vi 7) w) (Wp t (Wn lock 64 (Sw w (pb t) (po t+1+lock.toNat*1) (vi 0) λw'=>K (vi 0) w'))))))))))):Ret 238 #[pt t,vi who,vi lock] w K:=vcA L7 2 [] func238 h
theorem vc188(k:OA)(cpu:Int)(l:OA)(lL lC:Nat)(w:WD)(K:KV)(h:Q (∃(I:Int->WD->Nat->Prop),(∃(n:Nat),I (wrap .i64 ((↑lL:Int)-1)) w n)/\∀(n:Int) (w':WD) (a:Nat),I n w' a->Wif (decide (n>=0)) (Dr w' λb=>Wp k (Rp b k 97 λx=>Wp l (Wn n lL (Ri b l (n.toNat*1) λc=>CI 238 #[pt x,vi cpu,vi c] b λd w'=>Lt a λm=>I (wrap .i64 (n-1)) w' m)))) (K (.tuple #[]) w'))):Ret 188 #[pt k,vi cpu,sl l lL lC] w K:=vcA L7 2 [] func188 h
theorem qI{p:Prop}(h:p):Q p:=h
theorem Calls.ret{P:Program}{f:FuncId}{a:Array Value}{w:WD}{Q:Ending->WD->Prop}(h:Calls P f a w λe w'=>∃v,e=.returned v/\Q (.returned v) w'):Calls P f a w Q:=
 h.AE λ_ _ ⟨_,he,hq⟩=>he▸hq
theorem BX.put{w:WD}{n:Nat}(h:BX w l n f)(hi:i<64){v:Int}(e:w'=st w l (1+i) (vi v)):BX w' l n (upd f i v)/\AB (·=l) w w':=by
 subst e;have h1:AX (st w l (1+i) (vi v)) l _:=AX.BT (v:=vi v) (o:=1+i) h;refine⟨?_,kr.st (.inl rfl)⟩;unfold BX;have:(([vi n]++(AQ .i64 f 0 64++[Value.bool true])).set (1+i) (vi v))=[vi n]++(AQ .i64 (upd f i v) 0 64++[Value.bool true]):=by
  rw [List.set_append_right _ _ (by simp),List.set_append_left _ _ (by rw [AM];simp;omega)];rw [show 1+i-[vi (n:Int)].length=i by simp];rw [FF hi]
 rw [this] at h1;exact h1
theorem BX.r0{w:WD}{n:Nat}(h:BX w l n f):rd w l 0=some (vi n):=by rw [AX.rd h];rfl
theorem BX.w1{w:WD}{n:Nat}(h:BX w l n f)(hi:i<64):wr w l (1+i):=AX.wr h (by simp [AM];omega)
section
variable {w:WD}{l n:Nat}{f:NI}
theorem A8j(h:BX w l n f)(hn:n<=64)(hw:who<1000)(hi:i<n)(hh:f i=who+1) :
 Calls prog 238 #[AP l,vi who,vi i] w λe w'=>e=.returned (vi 0)/\AB (·=l) w w'/\BX w' l n (upd f i 0):=by
 refine Calls.ret (vc238 _ who i w _ ?_);apply qI;have d1:(decide ((who:Int)<0)||decide ((i:Int)<0))=false:=by simp
 refine AJ (λ_=>rfl) ⟨true,λ_=>h.r65,AL rfl (AJ (λ_=>rfl) ⟨n,λ_=>h.r0,AL (by rw [d1];simp;omega) (AA rfl (Wi ⟨f i,?_,AL ?_ (AA rfl (Wi ⟨?_,λw' e=>?_⟩))⟩))⟩)⟩
 .show rd w l (0+1+_*1)=_
  rw [tnc,mo,za];exact h.r1 (by omega)
 .rw [hh,wi (by omega)];simp
 .show wr w l (0+1+_*1)
  rw [tnc,mo,za];exact h.w1 (by omega)
 .have e:w'=st w l (0+1+Int.toNat (i:Int)*1) (vi 0):=e;rw [tnc,mo,za] at e;obtain⟨a1,a2⟩:=h.put (by omega) e;exact⟨rfl,a2,a1⟩
theorem B1u(h:BX w l n f)(hn:n<=64)(hw:who<1000)(hi:i<n)(hr:∀j,i<=j->j<n->f j≠who+1) :
 Calls prog 233 #[AP l,vi who,vi i] w λe w'=>(f i≠0/\e=.returned (.tuple #[.bool false,vi 0])/\AB AD w w')\/
  (f i=0/\e=.returned (.tuple #[.bool true,vi 0])/\AB (·=l) w w'/\BX w' l n (upd f i (who+1))):=by
 refine Calls.ret (vc233 _ who i w _ ?_);apply qI;have d1:(decide ((who:Int)<0)||decide ((i:Int)<0))=false:=by simp
 refine AJ (λ_=>rfl) ⟨true,λ_=>h.r65,AL rfl (AJ (λ_=>rfl) ⟨n,λ_=>h.r0,AL (by rw [d1];simp;omega) λw1 e1=>?_⟩)⟩;have k1:=kdr e1;have h1:BX w1 l n f:=AX.k h k1;have eo:BS (some (Addr.mk (pb (some ⟨l,0,none⟩)) (po (some ⟨l,0,none⟩)+1) none)) 64 (Int.toNat (i:Int)) 1=some ⟨l,1+i,none⟩:=by
  unfold BS;rw [if_neg (by omega),mo]
  show some (Addr.add ⟨l,0+1,none⟩ _)=_
  rw [Addr.add_lit,tnc,za]
 refine AA rfl (AA rfl ⟨n,h1.r0,AA BR ⟨λ_ _ j W N=>∃q:Nat,j=q/\q<=n-i/\N=n-i-q/\W=w1,⟨_,0,rfl,Nat.zero_le _,rfl,rfl⟩,?_⟩⟩);rintro _ _ _ _ _ ⟨q,rfl,hq,rfl,rfl⟩;simp only [tnc];refine AH (λhc=>?_) (λhc=>?_)
 .have hql:q<n-i:=by simp at hc;omega
  simp only [tnc] at eo;rw [eo];refine AA rfl (Wi ⟨f (i+q),?_,AL ?_ ⟨n-i-(q+1),by omega,q+1,wzz,hql,rfl,trivial⟩⟩)
  .show rd _ l (1+i+q*1)=_
   rw [mo,Nat.add_assoc];exact h1.r1 (by omega)
  .rw [wi (by omega)];have:=hr (i+q) (by omega) (by omega);simpa using this
 .refine AA rfl (Wi ⟨f i,?_,AH (λhz=>?_) (λhz=>AA rfl (Wi ⟨?_,λw' e=>?_⟩))⟩)
  .show rd _ l (0+1+i*1)=_
   rw [mo,za];exact h1.r1 (by omega)
  .exact .inl ⟨by simpa using hz,trivial,k1⟩
  .show wr _ l (0+1+i*1)
   rw [mo,za];exact h1.w1 (by omega)
  .have e:w'=st _ l (0+1+i*1) (vi (wrap .i64 (who+1))):=e;rw [mo,za,wi (by omega)] at e;obtain⟨a1,a2⟩:=h1.put (by omega) e;exact .inr ⟨by simpa using hz,trivial,(k1.AE λ_ _ e=>e.elim).trans a2 λ_ _ e=>e,a1⟩
end
theorem vc154(m:OA)(frame i:Int)(w:WD)(K:KV)(h:Q (Wif (decide (i<0)||decide (i>31)) (gIf (isP m) ((!isNone m)=true) (∃(x:OA) (c d:Nat),((!isNone m)=true->rd w (pb m) (po m+95)=some (.slice x c d))/\Wif (!(!isNone m&&!isNone x)) (K (.tuple #[int .u64 0,vi 1]) w) (gIf (isP m) (decide (frame<0)=false) (∃(x:OA) (b f:Nat),(decide (frame<0)=false->rd w (pb m) (po m+95)=some (.slice x b f))/\Wif (decide (frame<0)||decide (frame>=(↑b:Int))) (K (.tuple #[int .u64 0,vi 7]) w) (K (.tuple #[int .u64 0,vi 2]) w))))) (gIf (isP m) ((!isNone m)=true) (∃(x:OA) (c d:Nat),((!isNone m)=true->rd w (pb m) (po m+95)=some (.slice x c d))/\Wif (!(!isNone m&&!isNone x)) (K (.tuple #[int .u64 0,vi 1]) w) (gIf (isP m) (decide (frame<0)=false) (∃(x:OA) (b f:Nat),(decide (frame<0)=false->rd w (pb m) (po m+95)=some (.slice x b f))/\Wif (decide (frame<0)||decide (frame>=(↑b:Int))) (K (.tuple #[int .u64 0,vi 7]) w) (Wif (decide (wrap .i64 (8*i)<0)||false||false||decide (wrap .i64 (8*i)>248)) (K (.tuple #[int .u64 0,vi 2]) w) (Wp m (Rs w m 94 λx k h=>Wif (CZ (wrap .i64 (frame*256)) (wrap .i64 (wrap .i64 (frame+1)*256)) (wrap .i64 (wrap .i64 (frame+1)*256))) (Wif (CZ 0 (wrap .i64 (wrap .i64 (frame+1)*256)) (↑h:Int)) (Wif (CZ (wrap .i64 (8*i)) (wrap .i64 (wrap .i64 (8*i)+8)) (↑(Int.toNat (wrap .i64 (wrap .i64 (frame+1)*256))-Int.toNat (wrap .i64 (frame*256))):Int)) (∃(I:Int->Int->WD->Nat->Prop),(∃(n:Nat),I 0 0 w n)/\∀(n a:Int) (w':WD) (g:Nat),I n a w' g->Wif (decide (a<(↑(Int.toNat (wrap .i64 (wrap .i64 (8*i)+8))-Int.toNat (wrap .i64 (8*i))):Int))) (Wp (BS (BS x (Int.toNat (wrap .i64 (wrap .i64 (frame+1)*256))) (Int.toNat (wrap .i64 (frame*256))) 1) (Int.toNat (wrap .i64 (wrap .i64 (frame+1)*256))-Int.toNat (wrap .i64 (frame*256))) (Int.toNat (wrap .i64 (8*i))) 1) (Wn a (Int.toNat (wrap .i64 (wrap .i64 (8*i)+8))-Int.toNat (wrap .i64 (8*i))) (R8 w' (pb (BS (BS x (Int.toNat (wrap .i64 (wrap .i64 (frame+1)*256))) (Int.toNat (wrap .i64 (frame*256))) 1) (Int.toNat (wrap .i64 (wrap .i64 (frame+1)*256))-Int.toNat (wrap .i64 (frame*256))) (Int.toNat (wrap .i64 (8*i))) 1)) (po (BS (BS x (Int.toNat (wrap .i64 (wrap .i64 (frame+1)*256))) (Int.toNat (wrap .i64 (frame*256))) 1) (Int.toNat (wrap .i64 (wrap .i64 (frame+1)*256))-Int.toNat (wrap .i64 (frame*256))) (Int.toNat (wrap .i64 (8*i))) 1)+a.toNat*1) λj=>Wif (decide (0<=wrap .i64 (8*a))) (Lt g λm=>I (CD BinOp.or IntKind.u64 n (wrap .u64 (wrap .u64 j*2^min (Int.toNat (wrap .i64 (8*a))) 64))) (wrap .i64 (a+1)) w' m) False))) (K (.tuple #[int .u64 n,vi 0]) w')) False) False) False))))))))):Ret 154 #[pt m,vi frame,vi i] w K:=vcA L1 3 [] func154 h
theorem vc97(m:OA)(frame i w':Int)(w:WD)(K:KV)(h:Q (Wif (decide (i<0)||decide (i>31)) (gIf (isP m) ((!isNone m)=true) (∃(x:OA) (d f:Nat),((!isNone m)=true->rd w (pb m) (po m+95)=some (.slice x d f))/\Wif (!(!isNone m&&!isNone x)) (∃(I:Int->WD->Nat->Prop),(∃(n:Nat),I 0 w n)/\∀(n:Int) (w':WD) (a:Nat),I n w' a->Wif (decide (n<0)) (Wif (decide (0<=wrap .i64 (8*n))) False False) (K (vi 1) w')) (gIf (isP m) (decide (frame<0)=false) (∃(x:OA) (b g:Nat),(decide (frame<0)=false->rd w (pb m) (po m+95)=some (.slice x b g))/\Wif (decide (frame<0)||decide (frame>=(↑b:Int))) (∃(I:Int->WD->Nat->Prop),(∃(n:Nat),I 0 w n)/\∀(n:Int) (w':WD) (a:Nat),I n w' a->Wif (decide (n<0)) (Wif (decide (0<=wrap .i64 (8*n))) False False) (K (vi 7) w')) (∃(I:Int->WD->Nat->Prop),(∃(n:Nat),I 0 w n)/\∀(n:Int) (w':WD) (a:Nat),I n w' a->Wif (decide (n<0)) (Wif (decide (0<=wrap .i64 (8*n))) False False) (K (vi 2) w')))))) (gIf (isP m) ((!isNone m)=true) (∃(x:OA) (d f:Nat),((!isNone m)=true->rd w (pb m) (po m+95)=some (.slice x d f))/\Wif (!(!isNone m&&!isNone x)) (∃(I:Int->WD->Nat->Prop),(∃(n:Nat),I 0 w n)/\∀(n:Int) (w':WD) (a:Nat),I n w' a->Wif (decide (n<0)) (Wif (decide (0<=wrap .i64 (8*n))) False False) (K (vi 1) w')) (gIf (isP m) (decide (frame<0)=false) (∃(x:OA) (b g:Nat),(decide (frame<0)=false->rd w (pb m) (po m+95)=some (.slice x b g))/\Wif (decide (frame<0)||decide (frame>=(↑b:Int))) (∃(I:Int->WD->Nat->Prop),(∃(n:Nat),I 0 w n)/\∀(n:Int) (w':WD) (a:Nat),I n w' a->Wif (decide (n<0)) (Wif (decide (0<=wrap .i64 (8*n))) False False) (K (vi 7) w')) (Wif (decide (wrap .i64 (8*i)<0)||false||false||decide (wrap .i64 (8*i)>248)) (∃(I:Int->WD->Nat->Prop),(∃(n:Nat),I 0 w n)/\∀(n:Int) (w':WD) (a:Nat),I n w' a->Wif (decide (n<0)) (Wif (decide (0<=wrap .i64 (8*n))) False False) (K (vi 2) w')) (Wp m (Rs w m 94 λx k j=>Wif (CZ (wrap .i64 (frame*256)) (wrap .i64 (wrap .i64 (frame+1)*256)) (wrap .i64 (wrap .i64 (frame+1)*256))) (Wif (CZ 0 (wrap .i64 (wrap .i64 (frame+1)*256)) (↑j:Int)) (Wif (CZ (wrap .i64 (8*i)) (wrap .i64 (wrap .i64 (8*i)+8)) (↑(Int.toNat (wrap .i64 (wrap .i64 (frame+1)*256))-Int.toNat (wrap .i64 (frame*256))):Int)) (∃(I:Int->WD->Nat->Prop),(∃(n:Nat),I 0 w n)/\∀(n:Int) (c:WD) (a:Nat),I n c a->Wif (decide (n<(↑(Int.toNat (wrap .i64 (wrap .i64 (8*i)+8))-Int.toNat (wrap .i64 (8*i))):Int))) (Wif (decide (0<=wrap .i64 (8*n))) (Wp (BS (BS x (Int.toNat (wrap .i64 (wrap .i64 (frame+1)*256))) (Int.toNat (wrap .i64 (frame*256))) 1) (Int.toNat (wrap .i64 (wrap .i64 (frame+1)*256))-Int.toNat (wrap .i64 (frame*256))) (Int.toNat (wrap .i64 (8*i))) 1) (Wn n (Int.toNat (wrap .i64 (wrap .i64 (8*i)+8))-Int.toNat (wrap .i64 (8*i))) (Sw c (pb (BS (BS x (Int.toNat (wrap .i64 (wrap .i64 (frame+1)*256))) (Int.toNat (wrap .i64 (frame*256))) 1) (Int.toNat (wrap .i64 (wrap .i64 (frame+1)*256))-Int.toNat (wrap .i64 (frame*256))) (Int.toNat (wrap .i64 (8*i))) 1)) (po (BS (BS x (Int.toNat (wrap .i64 (wrap .i64 (frame+1)*256))) (Int.toNat (wrap .i64 (frame*256))) 1) (Int.toNat (wrap .i64 (wrap .i64 (frame+1)*256))-Int.toNat (wrap .i64 (frame*256))) (Int.toNat (wrap .i64 (8*i))) 1)+n.toNat*1) (vu (wrap .u8 (Int.fdiv w' (2^min (Int.toNat (wrap .i64 (8*n))) 64)))) λh=>Lt a λm=>I (wrap .i64 (n+1)) h m))) False) (K (vi 0) c)) False) False) False))))))))):Ret 97 #[pt m,vi frame,vi i,int .u64 w'] w K:=vcA L1 3 [] func97 h
theorem vc34(m:OA)(frame x0 x1 x2 x3 x4:Int)(w:WD)(K:KV)(h:Q (AW w #[vu x0,vi x1,vi x2,vi x3,vi x4] 86 λw'=>gIf (isP m) ((!isNone m)=true) (∃(x:OA) (p q:Nat),((!isNone m)=true->rd w' (pb m) (po m+95)=some (.slice x p q))/\Wif (!(!isNone m&&!isNone x)) (K (vi 1) w') (gIf (isP m) (decide (frame<0)=false) (∃(x:OA) (i r:Nat),(decide (frame<0)=false->rd w' (pb m) (po m+95)=some (.slice x i r))/\Wif (decide (frame<0)||decide (frame>=(↑i:Int))) (K (vi 7) w') (∃(x j k l o:Int),(rd w' w.heap.size 0=some (.int .u8 x)/\rd w' w.heap.size 1=some (.int .i64 j)/\rd w' w.heap.size 2=some (.int .i64 k)/\rd w' w.heap.size 3=some (.int .i64 l)/\rd w' w.heap.size 4=some (.int .i64 o))/\CB 93 #[agg #[vu x,vi j,vi k,vi l,vi o]] w' λb w'=>Wif (!b) (K (vi 2) w') (Dr w' λa=>Wp m (Rs a m 95 λx s t=>∃(c d f g h:Int),(rd a w.heap.size 0=some (.int .u8 c)/\rd a w.heap.size 1=some (.int .i64 d)/\rd a w.heap.size 2=some (.int .i64 f)/\rd a w.heap.size 3=some (.int .i64 g)/\rd a w.heap.size 4=some (.int .i64 h))/\Wp x (Wn frame s ((wr a (pb x) (po x+frame.toNat*5)/\wr a (pb x) (po x+frame.toNat*5+1)/\wr a (pb x) (po x+frame.toNat*5+2)/\wr a (pb x) (po x+frame.toNat*5+3)/\wr a (pb x) (po x+frame.toNat*5+4))/\St (st (st (st (st a (pb x) (po x+frame.toNat*5) (vu c)) (pb x) (po x+frame.toNat*5+1) (vi d)) (pb x) (po x+frame.toNat*5+2) (vi f)) (pb x) (po x+frame.toNat*5+3) (vi g)) (pb x) (po x+frame.toNat*5+4) (vi h) λw'=>K (vi 0) w')))))))))):Ret 34 #[pt m,vi frame,agg #[vu x0,vi x1,vi x2,vi x3,vi x4]] w K:=vcA L2 2 [] func34 h
theorem vc96(x0 x1:Int)(w:WD)(K:KV)(h:Q (AW w #[vu x0,vi x1] 69 λw'=>R8 w' w.heap.size 0 λx=>Wif (x==0) (RI w' w.heap.size 1 λx=>Wif (x != 0) (K (.tuple #[int .u64 0,vi 2]) w') (RI w' w.heap.size 1 λx=>∃(a:Int),(decide (x>=0)=true->rd w' w.heap.size 1=some (.int .i64 a))/\Wif (decide (x>=0)&&decide (a<=65535)) (R8 w' w.heap.size 0 λx=>RI w' w.heap.size 1 λb=>K (.tuple #[int .u64 (CD BinOp.or IntKind.u64 (wrap .u64 x) (wrap .u64 (wrap .u64 b*4))),vi 0]) w') (K (.tuple #[int .u64 0,vi 2]) w'))) (Wif (x==1) (Wif (x==1) (RI w' w.heap.size 1 λx=>∃(a:Int),(decide (x>=0)=true->rd w' w.heap.size 1=some (.int .i64 a))/\Wif (decide (x>=0)&&decide (a<=65535)) (R8 w' w.heap.size 0 λx=>RI w' w.heap.size 1 λb=>K (.tuple #[int .u64 (CD BinOp.or IntKind.u64 (wrap .u64 x) (wrap .u64 (wrap .u64 b*4))),vi 0]) w') (K (.tuple #[int .u64 0,vi 2]) w')) (K (.tuple #[int .u64 0,vi 2]) w')) (Wif (x==2) (Wif (x==2) (RI w' w.heap.size 1 λx=>∃(a:Int),(decide (x>=0)=true->rd w' w.heap.size 1=some (.int .i64 a))/\Wif (decide (x>=0)&&decide (a<=65535)) (R8 w' w.heap.size 0 λx=>RI w' w.heap.size 1 λb=>K (.tuple #[int .u64 (CD BinOp.or IntKind.u64 (wrap .u64 x) (wrap .u64 (wrap .u64 b*4))),vi 0]) w') (K (.tuple #[int .u64 0,vi 2]) w')) (K (.tuple #[int .u64 0,vi 2]) w')) (Wif (x==3) (RI w' w.heap.size 1 λx=>∃(a:Int),(decide (x>=0)=true->rd w' w.heap.size 1=some (.int .i64 a))/\Wif (decide (x>=0)&&decide (a<=65535)) (R8 w' w.heap.size 0 λx=>RI w' w.heap.size 1 λb=>K (.tuple #[int .u64 (CD BinOp.or IntKind.u64 (wrap .u64 x) (wrap .u64 (wrap .u64 b*4))),vi 0]) w') (K (.tuple #[int .u64 0,vi 2]) w')) (K (.tuple #[int .u64 0,vi 2]) w')))))):Ret 96 #[agg #[vu x0,vi x1]] w K:=vcA L2 2 [] func96 h
theorem vc51(m:OA)(frame i:Int)(w:WD)(K:KV)(h:Q (AW w #[vu 0,vi 0] 69 λw'=>Calls prog 154 #[pt m,vi frame,vi i] w' λe w'=>∃(n f:Int),e=rT (.tuple #[int .u64 n,vi f])/\Wif (f != 0) ((wr w' w.heap.size 0/\wr w' w.heap.size 1)/\St (st w' w.heap.size 0 (vu 0)) w.heap.size 1 (vi 0) λb=>∃(x c:Int),(rd b w.heap.size 0=some (.int .u8 x)/\rd b w.heap.size 1=some (.int .i64 c))/\K (.tuple #[agg #[vu x,vi c],vi f]) b) (AW w' #[vu 0,vi 0] 69 λb=>Wif (decide (Int.fdiv n 4>65535)||n != 0&&CD BinOp.and IntKind.u64 n 3==0) ((wr b w'.heap.size 0/\wr b w'.heap.size 1)/\St (st b w'.heap.size 0 (vu 0)) w'.heap.size 1 (vi 0) λa=>∃(x c:Int),(rd a w'.heap.size 0=some (.int .u8 x)/\rd a w'.heap.size 1=some (.int .i64 c))/\(wr a w.heap.size 0/\wr a w.heap.size 1)/\St (st a w.heap.size 0 (vu x)) w.heap.size 1 (vi c) λw'=>∃(x d:Int),(rd w' w.heap.size 0=some (.int .u8 x)/\rd w' w.heap.size 1=some (.int .i64 d))/\K (.tuple #[agg #[vu x,vi d],vi 5]) w') ((wr b w'.heap.size 0/\wr b w'.heap.size 1)/\St (st b w'.heap.size 0 (vu (wrap .u8 (CD BinOp.and IntKind.u64 n 3)))) w'.heap.size 1 (vi (wrap .i64 (Int.fdiv n 4))) λa=>∃(x c:Int),(rd a w'.heap.size 0=some (.int .u8 x)/\rd a w'.heap.size 1=some (.int .i64 c))/\(wr a w.heap.size 0/\wr a w.heap.size 1)/\St (st a w.heap.size 0 (vu x)) w.heap.size 1 (vi c) λw'=>∃(x d:Int),(rd w' w.heap.size 0=some (.int .u8 x)/\rd w' w.heap.size 1=some (.int .i64 d))/\K (.tuple #[agg #[vu x,vi d],vi 0]) w')))):Ret 51 #[pt m,vi frame,vi i] w K:=vcA L3 3 [] func51 h
theorem vc50(m:OA)(root page:Int)(w:WD)(K:KV)(h:Q (Calls prog 154 #[pt m,vi root,vi (wrap .i64 (Int.tdiv page 32))] w λe w'=>∃(n a:Int),e=rT (.tuple #[int .u64 n,vi a])/\K (.bool (a==0&&n==0)) w')):Ret 50 #[pt m,vi root,vi page] w K:=vcA L3 3 [] func50 h
theorem vc49(m:OA)(root page:Int)(w:WD)(K:KV)(h:Q (Wif (decide (page<0)||decide (page>=1024)) (K (.tuple #[vi 0,vi 2]) w) (Calls prog 51 #[pt m,vi root,vi (wrap .i64 (Int.tdiv page 32))] w λe w'=>∃(n d c:Int),e=rT (.tuple #[agg #[vu n,vi d],vi c])/\AW w' #[vu 0,vi 0] 69 λb=>(wr b w'.heap.size 0/\wr b w'.heap.size 1)/\St (st b w'.heap.size 0 (vu n)) w'.heap.size 1 (vi d) λa=>Wif (c != 0) (K (.tuple #[vi 0,vi c]) a) (R8 a w'.heap.size 0 λx=>Wif (x==0) (K (.tuple #[vi 0,vi 7]) a) (R8 a w'.heap.size 0 λx=>Wif (x != 1) (K (.tuple #[vi 0,vi 5]) a) (RI a w'.heap.size 1 λx=>K (.tuple #[vi x,vi 0]) a)))))):Ret 49 #[pt m,vi root,vi page] w K:=vcA L3 3 [] func49 h
theorem vc16(m:OA)(root page:Int)(w:WD)(K:KV)(h:Q (AW w #[vu 0,vi 0] 69 λw'=>CJ 49 #[pt m,vi root,vi page] w' λn d w'=>Wif (d==7) (CB 50 #[pt m,vi root,vi page] w' λb w'=>Wif b ((wr w' w.heap.size 0/\wr w' w.heap.size 1)/\St (st w' w.heap.size 0 (vu 0)) w.heap.size 1 (vi 0) λa=>∃(x c:Int),(rd a w.heap.size 0=some (.int .u8 x)/\rd a w.heap.size 1=some (.int .i64 c))/\K (.tuple #[agg #[vu x,vi c],vi 0]) a) (Wif (d != 0) ((wr w' w.heap.size 0/\wr w' w.heap.size 1)/\St (st w' w.heap.size 0 (vu 0)) w.heap.size 1 (vi 0) λa=>∃(x c:Int),(rd a w.heap.size 0=some (.int .u8 x)/\rd a w.heap.size 1=some (.int .i64 c))/\K (.tuple #[agg #[vu x,vi c],vi d]) a) (Calls prog 51 #[pt m,vi n,vi (Int.tmod page 32)] w' λe w'=>∃(n f g:Int),e=rT (.tuple #[agg #[vu n,vi f],vi g])/\(wr w' w.heap.size 0/\wr w' w.heap.size 1)/\St (st w' w.heap.size 0 (vu n)) w.heap.size 1 (vi f) λa=>∃(x c:Int),(rd a w.heap.size 0=some (.int .u8 x)/\rd a w.heap.size 1=some (.int .i64 c))/\K (.tuple #[agg #[vu x,vi c],vi g]) a))) (Wif (d != 0) ((wr w' w.heap.size 0/\wr w' w.heap.size 1)/\St (st w' w.heap.size 0 (vu 0)) w.heap.size 1 (vi 0) λa=>∃(x c:Int),(rd a w.heap.size 0=some (.int .u8 x)/\rd a w.heap.size 1=some (.int .i64 c))/\K (.tuple #[agg #[vu x,vi c],vi d]) a) (Calls prog 51 #[pt m,vi n,vi (Int.tmod page 32)] w' λe w'=>∃(n f g:Int),e=rT (.tuple #[agg #[vu n,vi f],vi g])/\(wr w' w.heap.size 0/\wr w' w.heap.size 1)/\St (st w' w.heap.size 0 (vu n)) w.heap.size 1 (vi f) λa=>∃(x c:Int),(rd a w.heap.size 0=some (.int .u8 x)/\rd a w.heap.size 1=some (.int .i64 c))/\K (.tuple #[agg #[vu x,vi c],vi g]) a)))):Ret 16 #[pt m,vi root,vi page] w K:=vcA L3 3 [] func16 h
theorem vc100(m:OA)(root page x0 x1:Int)(w:WD)(K:KV)(h:Q (AW w #[vu x0,vi x1] 69 λw'=>∃(x a:Int),(rd w' w.heap.size 0=some (.int .u8 x)/\rd w' w.heap.size 1=some (.int .i64 a))/\Calls prog 96 #[agg #[vu x,vi a]] w' λe w'=>∃(n b:Int),e=rT (.tuple #[int .u64 n,vi b])/\Wif (decide (page<0)||decide (page>=1024)||b != 0) (K (vi 2) w') (CJ 49 #[pt m,vi root,vi page] w' λd c w'=>Wif (c != 0) (K (vi c) w') (CI 97 #[pt m,vi d,vi (Int.tmod page 32),int .u64 n] w' λn w'=>K (vi n) w')))):Ret 100 #[pt m,vi root,vi page,agg #[vu x0,vi x1]] w K:=vcA L1 3 [] func100 h
theorem vc36(m:OA)(root page leaf:Int)(w:WD)(K:KV)(h:Q (Wif (decide (page<0)||decide (page>=1024)||decide (leaf < -1)||decide (leaf>65535)) (K (vi 2) w) (AW w #[vu 0,vi 0] 69 λw'=>(wr w' w.heap.size 0/\wr w' w.heap.size 1)/\St (st w' w.heap.size 0 (vu 1)) w.heap.size 1 (vi leaf) λa=>Wif (decide (leaf<0)) ((wr a w.heap.size 0/\wr a w.heap.size 1)/\St (st a w.heap.size 0 (vu 0)) w.heap.size 1 (vi 0) λw'=>∃(x b:Int),(rd w' w.heap.size 0=some (.int .u8 x)/\rd w' w.heap.size 1=some (.int .i64 b))/\Calls prog 96 #[agg #[vu x,vi b]] w' λe w'=>∃(n c:Int),e=rT (.tuple #[int .u64 n,vi c])/\CI 97 #[pt m,vi root,vi (wrap .i64 (Int.tdiv page 32)),int .u64 n] w' λn w'=>K (vi n) w') (∃(x b:Int),(rd a w.heap.size 0=some (.int .u8 x)/\rd a w.heap.size 1=some (.int .i64 b))/\Calls prog 96 #[agg #[vu x,vi b]] a λe w'=>∃(n c:Int),e=rT (.tuple #[int .u64 n,vi c])/\CI 97 #[pt m,vi root,vi (wrap .i64 (Int.tdiv page 32)),int .u64 n] w' λn w'=>K (vi n) w')))):Ret 36 #[pt m,vi root,vi page,vi leaf] w K:=vcA L2 2 [] func36 h
def ByR(by':NI):Prop:=∀i,0<=by' i/\by' i<=255
def G0(by':NI)(o:Nat):NI
 | 0=>0
 | k+1=>G0 by' o k+by' (o+k)*2^(8*k)
theorem pow8(k:Nat):(2:Int)^(8*(k+1))=256*2^(8*k):=by
 rw [show 8*(k+1)=8*k+8 by omega,Int.pow_add];omega
theorem A03{by':NI}(h:ByR by')(o:Nat):∀k,0<=G0 by' o k/\G0 by' o k<2^(8*k)
 | 0=>by simp [G0]
 | k+1=>by
  have ih:=A03 h o k;have hb:=h (o+k);have hp:(0:Int)<2^(8*k):=Int.pow_pos (by decide);have h1:0<=by' (o+k)*2^(8*k):=Int.mul_nonneg hb.1 (by omega);have h2:by' (o+k)*2^(8*k)<=255*2^(8*k):=Int.mul_le_mul_of_nonneg_right hb.2 (by omega);rw [pow8];unfold G0;omega
theorem B8e{a:Int}{k:Nat}(hk:k<8)(ha:0<=a/\a<2^(8*k))(hx:0<=x/\x<=255) :
 CD .or .u64 a (wrap .u64 (wrap .u64 x*2^min (Int.toNat (wrap .i64 (8*(k:Int)))) 64))=a+x*2^(8*k):=by
 obtain⟨m,rfl⟩:=Int.eq_ofNat_of_zero_le ha.1;obtain⟨y,rfl⟩:=Int.eq_ofNat_of_zero_le hx.1;have e1:min (Int.toNat (wrap .i64 (8*(k:Int)))) 64=8*k:=by rw [wi (by omega)];omega
 have hp:(2:Nat)^(8*k)<=2^56:=Nat.pow_le_pow_right (by decide) (by omega);have hy:y*2^(8*k)<=255*2^(8*k):=Nat.mul_le_mul_right _ (by omega);have hm:m<2^(8*k):=by
  have:=ha.2;have e:((2^(8*k):Nat):Int)=2^(8*k):=by simp
  omega
 have e2:(y:Int)*2^(8*k)=((y*2^(8*k):Nat):Int):=by simp
 rw [e1,wu (x:=(y:Int)) (by omega),e2,wu (x:=((y*2^(8*k):Nat):Int)) (by omega)];generalize hq:y*2^(8*k)=q at *;have h3:(BitVec.ofInt 64 (m:Int) ||| BitVec.ofInt 64 (q:Int)).toNat=m+q:=by
  rw [BitVec.toNat_or,BitVec.toNat_ofInt,BitVec.toNat_ofInt,show((m:Int)%((2^64:Nat):Int)).toNat=m by omega,show((q:Int)%((2^64:Nat):Int)).toNat=q by omega,<- hq,Nat.mul_comm y,Nat.or_comm,<- Nat.two_pow_add_eq_or_of_lt hm];omega
 show wrap .u64 ((BitVec.ofInt 64 (m:Int) ||| BitVec.ofInt 64 (q:Int)).toNat:Int)=_
 rw [h3,wu (by omega)];omega
def byteOf(x:Int)(k:Nat):Int:=wrap .u8 (Int.fdiv x (2^(8*k)))
theorem w8(y:Int):wrap .u8 y=y%256:=by
 simp only [wrap,IntKind.bits,IntKind.signed,Bool.false_and,Bool.false_eq_true,if_false]
 rfl
theorem B6e(x:Int)(k:Nat):0<=byteOf x k/\byteOf x k<=255:=by unfold byteOf;rw [w8];omega
def B0h(by':NI)(o:Nat)(x:Int):Nat->Nat->Int
 | 0=>by'
 | k+1=>upd (B0h by' o x k) (o+k) (byteOf x k)
theorem A08{by':NI}{o:Nat}{x:Int}:∀{k j:Nat},(j<o\/o+k<=j)->B0h by' o x k j=by' j
 | 0,_,_=>rfl
 | k+1,j,h=>by
  show upd _ _ _ _=_
  rw [AI _ _ (by omega)];exact A08 (by omega)
theorem B6y{by':NI}(h:ByR by'){o:Nat}{x:Int}:∀k,ByR (B0h by' o x k)
 | 0=>h
 | k+1=>λj=>by
  show 0<=upd _ _ _ j/\upd _ _ _ j<=255
  by_cases e:j=o+k
  .subst e;rw [AF];exact B6e x k
  .rw [AI _ _ e];exact B6y h k j
theorem IY{f g:NI}{o:Nat}:∀{k:Nat},(∀j,j<k->f (o+j)=g (o+j))->G0 f o k=G0 g o k
 | 0,_=>rfl
 | k+1,h=>by unfold G0;rw [IY λj hj=>h j (by omega),h k (by omega)]
theorem A2b{by':NI}{o:Nat}{x:Int}(hx:0<=x):∀k,G0 (B0h by' o x k) o k=x%2^(8*k)
 | 0=>by simp [G0]
 | k+1=>by
  have ih:=A2b (by':=by') (o:=o) hx k
  show G0 (upd (B0h by' o x k) (o+k) (byteOf x k)) o k+upd (B0h by' o x k) (o+k) (byteOf x k) (o+k)*2^(8*k)=_
  rw [AF,IY (g:=B0h by' o x k) λj hj=>AI _ _ (by omega),ih];unfold byteOf;rw [w8,Int.fdiv_eq_ediv_of_nonneg _ (Int.le_of_lt (Int.pow_pos (by decide)))];obtain⟨y,rfl⟩:=Int.eq_ofNat_of_zero_le hx;have h2:∀j:Nat,(2:Int)^j=((2^j:Nat):Int):=λj=>by simp
  rw [h2,h2];have h1:=Nat.mod_mul (a:=2^(8*k)) (b:=256) (x:=y);rw [show 2^(8*k)*256=2^(8*(k+1)) by rw [show 8*(k+1)=8*k+8 by omega,Nat.pow_add]] at h1;have h3:=congrArg (Nat.cast:NI) h1
  push_cast at h3 ⊢
  rw [h3,Int.mul_comm (2^(8*k)) _]
theorem A7q  {o:Nat}  (hx:0<=x/\x<=18446744073709551615):G0 (B0h by' o x 8) o 8=x:=by
  rw [A2b hx.1];exact Int.emod_eq_of_lt hx.1 (by have:(2:Int)^(8*8)=18446744073709551616:=(by decide);omega)
def wdE(n:Nat)(frame i:Int):Int:=if frame<0\/frame>=n then 7 else if i<0\/i>31 then 2 else 0
def wdO(frame i:Int):Nat:=frame.toNat*256+i.toNat*8
def wdF(by':NI)(n:Nat)(frame i:Int):Int:=if wdE n frame i=0 then G0 by' (wdO frame i) 8 else 0
def wdS(by':NI)(n:Nat)(frame i x:Int):NI:=if wdE n frame i=0 then B0h by' (wdO frame i) x 8 else by'
theorem A5y{n:Nat}{i:Int}(h:wdE n frame i=0):0<=frame/\frame<n/\0<=i/\i<=31:=by
 unfold wdE at h;split at h
 .cases h
 .split at h
  .cases h
  .omega
theorem DH{n:Nat}{i:Int}(h1:0<=frame:=by omega)(h2:frame<n:=by omega)(h3:0<=i:=by omega)(h4:i<=31:=by omega):wdE n frame i=0:=by
 unfold wdE;rw [if_neg (by omega),if_neg (by omega)]
theorem C31(h:ByR by')(n:Nat)(frame i:Int):0<=wdF by' n frame i/\wdF by' n frame i<=18446744073709551615:=by
 unfold wdF;split
 .have:=A03 h (wdO frame i) 8;have e:(2:Int)^(8*8)=18446744073709551616:=by decide
  omega
 .omega
theorem B7p(h:ByR by')(n:Nat)(frame i x:Int):ByR (wdS by' n frame i x):=by
 unfold wdS;split
 .exact B6y h 8
 .exact h
theorem KI{n:Nat}{f1 i1 f2 i2:Int}(hx:0<=x/\x<=18446744073709551615)(h1:wdE n f1 i1=0)(h2:wdE n f2 i2=0):wdF (wdS by' n f1 i1 x) n f2 i2=if f2=f1/\i2=i1 then x else wdF by' n f2 i2:=by
 have g1:=A5y h1;have g2:=A5y h2;unfold wdF wdS;rw [if_pos h1,if_pos h2,if_pos h2];split
 .rename_i e;rw [e.1,e.2];exact A7q hx
 .rename_i e;refine IY λj hj=>A08 ?_;unfold wdO;by_cases h3:f2.toNat<f1.toNat
  .omega
  .by_cases h4:f1.toNat<f2.toNat
   .omega
   .have:f2=f1:=by omega
    have h5:i2≠i1:=λe2=>e ⟨this,e2⟩;have:f1.toNat=f2.toNat:=by omega
    rw [this];rcases Int.lt_or_gt_of_ne h5 with h6|h6 <;> omega
section
variable {w:WD}{m bb mb:Nat}{c:NI}{n:Nat}{by':NI}{mk:Nat->Mark}
theorem B1c{bb c1 c2 o1 o2:Nat}(h1:c1≠o1)(h2:c2≠o2):BS (BS (some ⟨bb,0,none⟩) c1 o1 1) c2 o2 1=some ⟨bb,o1+o2,none⟩:=by
 unfold BS;rw [if_neg h1,if_neg h2,Option.map_some,Option.map_some,HS,HS];simp
theorem A2a(h:BU w m bb mb c n by' mk)(hb:ByR by')(hn:n<=1024)(frame i:Int) :
 Calls prog 154 #[AP m,vi frame,vi i] w λe w'=>e=.returned (.tuple #[.int .u64 (wdF by' n frame i),vi (wdE n frame i)])/\w'=w:=by
 refine(vc154 _ frame i w (λv w'=>v=.tuple #[.int .u64 (wdF by' n frame i),vi (wdE n frame i)]/\w'=w) ?_).AE ?_
 rotate_left
 .rintro e w' ⟨v,rfl,rfl,h⟩;exact⟨rfl,h⟩
 have h95:rd w m (0+95)=some (.slice (some ⟨mb,0,none⟩) n n):=by rw [za];exact h.r95
 have h94:rd w m (0+94)=some (.slice (some ⟨bb,0,none⟩) (n*256) (n*256)):=by rw [za];exact h.r94
 unfold Q;by_cases hf:frame<0\/frame>=n
 .have e7:wdE n frame i=7:=by unfold wdE;rw [if_pos hf]
  have e0:wdF by' n frame i=0:=by unfold wdF;rw [e7];rfl
  rw [e7,e0];have hc:(decide (frame<0)||decide (frame>=(n:Int)))=true:=by simpa using hf
  exact AH (λ_=>AJ (λ_=>rfl) ⟨_,_,_,λ_=>h95,AL rfl (AJ (λ_=>rfl) ⟨_,_,_,λ_=>h95,AA hc ⟨rfl,rfl⟩⟩)⟩)
   (λ_=>AJ (λ_=>rfl) ⟨_,_,_,λ_=>h95,AL rfl (AJ (λ_=>rfl) ⟨_,_,_,λ_=>h95,AA hc ⟨rfl,rfl⟩⟩)⟩)
 have hc:(decide (frame<0)||decide (frame>=(n:Int)))=false:=by simp;omega
 by_cases hi:i<0\/i>31
 .have e2:wdE n frame i=2:=by unfold wdE;rw [if_neg hf,if_pos hi]
  have e0:wdF by' n frame i=0:=by unfold wdF;rw [e2];rfl
  rw [e2,e0];exact AA (by simpa using hi) (AJ (λ_=>rfl) ⟨_,_,_,λ_=>h95,AL rfl (AJ (λ_=>rfl) ⟨_,_,_,λ_=>h95,AL hc ⟨rfl,rfl⟩⟩)⟩)
 have e0:wdE n frame i=0:=DH;have eF:wdF by' n frame i=G0 by' (wdO frame i) 8:=by unfold wdF;rw [if_pos e0]
 rw [e0,eF];obtain⟨f,rfl⟩:∃f:Nat,frame=f:=⟨frame.toNat,by omega⟩;obtain⟨j,rfl⟩:∃j:Nat,i=j:=⟨i.toNat,by omega⟩;refine AL (by simp;omega) (AJ (λ_=>rfl) ⟨_,_,_,λ_=>h95,AL rfl (AJ (λ_=>rfl) ⟨_,_,_,λ_=>h95,AL hc ?_⟩)⟩);rw [wi (x:=8*(j:Int)) (by omega),wi (x:=(f:Int)+1) (by omega),wi (x:=(f:Int)*256) (by omega),wi (x:=((f:Int)+1)*256) (by omega),wi (x:=8*(j:Int)+8) (by omega)];refine AL (by simp;omega) (AA rfl ⟨_,_,_,h94,AA BR (AA BR (AA BR ?_))⟩);rw [show Int.toNat ((f:Int)*256)=f*256 by omega,show Int.toNat (((f:Int)+1)*256)=f*256+256 by omega,show Int.toNat (8*(j:Int))=j*8 by omega,show Int.toNat (8*(j:Int)+8)=j*8+8 by omega,show j*8+8-j*8=8 by omega,show f*256+256-f*256=256 by omega,B1c (by omega) (by omega)];have eo:wdO (f:Int) (j:Int)=f*256+j*8:=rfl;refine⟨λa q W N=>∃k:Nat,q=k/\k<=8/\N=8-k/\W=w/\a=G0 by' (f*256+j*8) k,⟨8,0,rfl,by omega,rfl,rfl,rfl⟩,?_⟩;rintro _ _ w1 _ ⟨k,rfl,hk,rfl,hw,rfl⟩;rw [hw];refine AH (λhq=>?_) (λhq=>?_)
 .have hk8:k<8:=by simp at hq;omega
  refine AA rfl (Wi ⟨by' (f*256+j*8+k),?_,AA (by rw [wi (by omega)];simp;omega) ⟨8-(k+1),by omega,k+1,wzz,hk8,rfl,rfl,?_⟩⟩)
  .rw [tnc,mo]
   show rd w bb (f*256+j*8+k)=_
   rw [h.bs.rd,AZ _ _ _ _ _ (by omega),za]
  .rw [B8e hk8 (A03 hb _ k) (hb _)]
   rfl
 .have:k=8:=by simp at hq;omega
  subst this;exact⟨rfl,rfl⟩
theorem JJ(h:BU w m bb mb c n by' mk)(hn:n<=1024)(frame i x:Int) :
 Calls prog 97 #[AP m,vi frame,vi i,.int .u64 x] w λe w'=>e=.returned (vi (wdE n frame i))/\AB (·=bb) w w'/\BU w' m bb mb c n (wdS by' n frame i x) mk:=by
 refine(vc97 _ frame i x w (λv w'=>v=vi (wdE n frame i)/\AB (·=bb) w w'/\BU w' m bb mb c n (wdS by' n frame i x) mk) ?_).AE ?_
 rotate_left
 .rintro e w' ⟨v,rfl,rfl,h⟩;exact⟨rfl,h⟩
 have h95:rd w m (0+95)=some (.slice (some ⟨mb,0,none⟩) n n):=by rw [za];exact h.r95
 have h94:rd w m (0+94)=some (.slice (some ⟨bb,0,none⟩) (n*256) (n*256)):=by rw [za];exact h.r94
 have nul:∀{e:Int}{w2:Int->Prop}{G:Int->WD->Nat->Prop},wdE n frame i=e->wdE n frame i≠0->∃(I:Int->WD->Nat->Prop),(∃(n:Nat),I 0 w n)/\∀(q:Int) (w':WD) (n_1:Nat),I q w' n_1->Wif (decide (q<0)) (Wif (decide (0<=wrap .i64 (8*q))) False False) ((λv w'=>v=vi (wdE n frame i)/\AB (·=bb) w w'/\BU w' m bb mb c n (wdS by' n frame i x) mk) (vi e) w'):=by
  rintro e _ _ rfl he;refine⟨λq W _=>q=0/\W=w,⟨0,rfl,rfl⟩,?_⟩;rintro _ w1 _ ⟨rfl,hw⟩;rw [hw];exact AL rfl ⟨rfl,AB.refl _ _,by unfold wdS;rw [if_neg he];exact h⟩
 unfold Q;by_cases hf:frame<0\/frame>=n
 .have e7:wdE n frame i=7:=by unfold wdE;rw [if_pos hf]
  have hc:(decide (frame<0)||decide (frame>=(n:Int)))=true:=by simpa using hf
  have:=nul (w2:=λ_=>True) (G:=λ_ _ _=>True) e7 (by rw [e7];decide);exact AH (λ_=>AJ (λ_=>rfl) ⟨_,_,_,λ_=>h95,AL rfl (AJ (λ_=>rfl) ⟨_,_,_,λ_=>h95,AA hc this⟩)⟩)
   (λ_=>AJ (λ_=>rfl) ⟨_,_,_,λ_=>h95,AL rfl (AJ (λ_=>rfl) ⟨_,_,_,λ_=>h95,AA hc this⟩)⟩)
 have hc:(decide (frame<0)||decide (frame>=(n:Int)))=false:=by simp;omega
 by_cases hi:i<0\/i>31
 .have e2:wdE n frame i=2:=by unfold wdE;rw [if_neg hf,if_pos hi]
  have:=nul (w2:=λ_=>True) (G:=λ_ _ _=>True) e2 (by rw [e2];decide);exact AA (by simpa using hi) (AJ (λ_=>rfl) ⟨_,_,_,λ_=>h95,AL rfl (AJ (λ_=>rfl) ⟨_,_,_,λ_=>h95,AL hc this⟩)⟩)
 clear nul;have e0:wdE n frame i=0:=DH;have eF:wdS by' n frame i x=B0h by' (wdO frame i) x 8:=by unfold wdS;rw [if_pos e0]
 rw [e0,eF];obtain⟨f,rfl⟩:∃f:Nat,frame=f:=⟨frame.toNat,by omega⟩;obtain⟨j,rfl⟩:∃j:Nat,i=j:=⟨i.toNat,by omega⟩;refine AL (by simp;omega) (AJ (λ_=>rfl) ⟨_,_,_,λ_=>h95,AL rfl (AJ (λ_=>rfl) ⟨_,_,_,λ_=>h95,AL hc ?_⟩)⟩);rw [wi (x:=8*(j:Int)) (by omega),wi (x:=(f:Int)+1) (by omega),wi (x:=(f:Int)*256) (by omega),wi (x:=((f:Int)+1)*256) (by omega),wi (x:=8*(j:Int)+8) (by omega)];refine AL (by simp;omega) (AA rfl ⟨_,_,_,h94,AA BR (AA BR (AA BR ?_))⟩);rw [show Int.toNat ((f:Int)*256)=f*256 by omega,show Int.toNat (((f:Int)+1)*256)=f*256+256 by omega,show Int.toNat (8*(j:Int))=j*8 by omega,show Int.toNat (8*(j:Int)+8)=j*8+8 by omega,show j*8+8-j*8=8 by omega,show f*256+256-f*256=256 by omega,B1c (by omega) (by omega)];have eo:wdO (f:Int) (j:Int)=f*256+j*8:=rfl;rw [eo];refine⟨λq W N=>∃k:Nat,q=k/\k<=8/\N=8-k/\AB (·=bb) w W/\AX W bb (AQ .u8 (B0h by' (f*256+j*8) x k) 0 (n*256)),⟨8,0,rfl,by omega,rfl,AB.refl _ _,h.bs⟩,?_⟩;rintro _ w1 _ ⟨k,rfl,hk,rfl,k1,o1⟩;refine AH (λhq=>?_) (λhq=>?_)
 .have hk8:k<8:=by simp at hq;omega
  refine AA (by rw [wi (by omega)];simp;omega) (AA rfl (Wi ⟨?_,λw2 e2=>⟨8-(k+1),by omega,k+1,wzz,hk8,rfl,?_,?_⟩⟩))
  .rw [tnc,mo];exact o1.wr (by rw [AM];show f*256+j*8+k<_;omega)
  .exact k1.trans ((AB.refl (·=bb) _).s1 e2 (.inl rfl)) λ_ _ e=>e
  .rw [tnc,mo] at e2;have o2:=o1.s1 e2;rw [show po (some (⟨bb,f*256+j*8,none⟩:Addr))+k=f*256+j*8+k from rfl,FF (by omega)] at o2;rw [wi (by omega),show Int.toNat (8*(k:Int))=8*k by omega,Nat.min_eq_left (by omega)] at o2;exact o2
 .have:k=8:=by simp at hq;omega
  subst this;exact⟨rfl,k1,⟨h.so.kx k1 h.ne.1,o1,h.ms.kx k1 (Ne.symm h.ne.2.2),h.ne⟩⟩
end
theorem vc93(x0 x1 x2 x3 x4:Int)(w:WD)(K:KV)(h:Q (AW w #[vu x0,vi x1,vi x2,vi x3,vi x4] 86 λw'=>R8 w' w.heap.size 0 λx=>∃(c:Int),(decide (x>=1)=true->rd w' w.heap.size 0=some (.int .u8 c))/\∃(a:Int),((decide (x>=1)&&decide (c<=5))=true->rd w' w.heap.size 1=some (.int .i64 a))/\Wif (decide (x>=1)&&decide (c<=5)) (∃(x:Int),((decide (a>=0)&&decide (a<=10))=true->rd w' w.heap.size 2=some (.int .i64 x))/\Wif (decide (a>=0)&&decide (a<=10)) (∃(b:Int),((decide (x>=0)&&decide (x<=65535))=true->rd w' w.heap.size 3=some (.int .i64 b))/\Wif (decide (x>=0)&&decide (x<=65535)) (∃(x:Int),((decide (b>=0)&&decide (b<=65535))=true->rd w' w.heap.size 4=some (.int .i64 x))/\K (.bool (decide (b>=0)&&decide (b<=65535)&&decide (x>=0))) w') (K (.bool false) w')) (K (.bool false) w')) (K (.bool false) w'))):Ret 93 #[agg #[vu x0,vi x1,vi x2,vi x3,vi x4]] w K:=vcA L4 3 [] func93 h
def vcP94(w:WD)(K:KV):Prop:=AW w #[sl none 0 0] 305 λw'=>K (AP w.heap.size) w'
theorem vc94(w:WD)(K:KV)(h:vcP94  w K):Ret 94 #[] w K:=vcA L2 2 [] func94 h
theorem vc95(n:Int)(w:WD)(K:KV)(h:Q (Wif (IU 8 (wrap .i64 (Int.tdiv (wrap .i64 ((if 65536<if 0>n then 0 else n then 65536 else if 0>n then 0 else n)+63)) 64)) (wrap .i64 (Int.tdiv (wrap .i64 ((if 65536<if 0>n then 0 else n then 65536 else if 0>n then 0 else n)+63)) 64))) (AW w (List.toArray (replicate (Int.toNat (wrap .i64 (Int.tdiv (wrap .i64 ((if 65536<if 0>n then 0 else n then 65536 else if 0>n then 0 else n)+63)) 64))) (int .u64 0))) 76 λw'=>AW w' #[sl (aD w.heap.size) (Int.toNat (wrap .i64 (Int.tdiv (wrap .i64 ((if 65536<if 0>n then 0 else n then 65536 else if 0>n then 0 else n)+63)) 64))) (Int.toNat (wrap .i64 (Int.tdiv (wrap .i64 ((if 65536<if 0>n then 0 else n then 65536 else if 0>n then 0 else n)+63)) 64))),vi (if 65536<if 0>n then 0 else n then 65536 else if 0>n then 0 else n)] 212 λa=>K (AP w'.heap.size) a) False)):Ret 95 #[vi n] w K:=vcA L2 2 [] func95 h
theorem vc35(root:Int)(w:WD)(K:KV)(h:Q (CP 94 #[] w λp w'=>CP 95 #[vi 1024] w' λc w'=>∀a,a=w'.alloc (.map #[] 0)->AW a #[pt p,vi root,pt c,vu 0,vu 0,Value.map (some w'.heap.size)] 116 λb=>K (AP a.heap.size) b)):Ret 35 #[vi root] w K:=vcA L2 2 [] func35 h
theorem vc18(k:OA)(frame:Int)(w:WD)(K:KV)(h:Q (Wif (isNone k) (K (vi (-1)) w) (Wp k (∃(x:NI),BB w (pb k) (po k) (AQ .i64 x 0 94)/\CJ 52 #[agg (List.toArray (AQ .i64 x 0 94)),vi frame] w λn a w'=>Wif (a != 0) (K (vi (-1)) w') (K (vi n) w'))))):Ret 18 #[pt k,vi frame] w K:=vcA L3 3 [] func18 h
theorem vc54(k:OA)(pid page:Int)(w:WD)(K:KV)(h:Q (AW w #[vu 0,vu 0] 113 λw'=>gIf (isP k) ((decide (pid<0)||decide (pid>8))=false) (gIf (inB pid 9) ((decide (pid<0)||decide (pid>8))=false) (∃(x:OA),((decide (pid<0)||decide (pid>8))=false->rd w' (pb k) (po k+105+pid.toNat*1)=some (.pointer x))/\Wif (decide (pid<0)||decide (pid>8)||isNone x) ((wr w' w.heap.size 0/\wr w' w.heap.size 1)/\St (st w' w.heap.size 0 (vu 0)) w.heap.size 1 (vu 0) λb=>∃(x c:Int),(rd b w.heap.size 0=some (.int .u8 x)/\rd b w.heap.size 1=some (.int .u8 c))/\K (.agg #[vu x,vu c]) b) (Wp k (Wn pid 9 (RP w' (pb k) (po k+105+pid.toNat*1) λx=>Wp x (∃(c:Option Nat),rd w' (pb x) (po x+5)=some (.map c)/\∃(g h:Int) (i:Bool),EA prog 114 (Value.map c) (vi page) true (Value.tuple #[agg #[vu g,vu h],bool i]) w'/\AW w' #[vu 0,vu 0] 113 λb=>(wr b w'.heap.size 0/\wr b w'.heap.size 1)/\St (st b w'.heap.size 0 (vu g)) w'.heap.size 1 (vu h) λa=>Wif i (∃(x d:Int),(rd a w'.heap.size 0=some (.int .u8 x)/\rd a w'.heap.size 1=some (.int .u8 d))/\(wr a w.heap.size 0/\wr a w.heap.size 1)/\St (st a w.heap.size 0 (vu x)) w.heap.size 1 (vu d) λw'=>∃(x f:Int),(rd w' w.heap.size 0=some (.int .u8 x)/\rd w' w.heap.size 1=some (.int .u8 f))/\K (.agg #[vu x,vu f]) w') (Wp x (∃(d f:Int),(rd a (pb x) (po x+3)=some (.int .u8 d)/\rd a (pb x) (po x+4)=some (.int .u8 f))/\(wr a w.heap.size 0/\wr a w.heap.size 1)/\St (st a w.heap.size 0 (vu d)) w.heap.size 1 (vu f) λw'=>∃(x j:Int),(rd w' w.heap.size 0=some (.int .u8 x)/\rd w' w.heap.size 1=some (.int .u8 j))/\K (.agg #[vu x,vu j]) w')))))))))):Ret 54 #[pt k,vi pid,vi page] w K:=vcA L3 3 [] func54 h
theorem vc99(m:OA)(frame pid number:Int)(w:WD)(K:KV)(h:Q (gIf (isP m) (isNone m=false) (∃(x:Option Nat),(isNone m=false->rd w (pb m) (po m+1)=some (.map x))/\Wif (isNone m||isNone x) (AW w #[vi 0,vi 0] 308 λw'=>(wr w' w.heap.size 0/\wr w' w.heap.size 1)/\St (st w' w.heap.size 0 (vi pid)) w.heap.size 1 (vi number) λa=>K (vi 1) a) (gIf (isP m) (decide (frame<0)=false) (∃(x:OA) (i p:Nat),(decide (frame<0)=false->rd w (pb m) (po m)=some (.slice x i p))/\Wif (decide (frame<0)||decide (frame>=(↑i:Int))) (AW w #[vi 0,vi 0] 308 λw'=>(wr w' w.heap.size 0/\wr w' w.heap.size 1)/\St (st w' w.heap.size 0 (vi pid)) w.heap.size 1 (vi number) λa=>K (vi 2) a) (AW w #[vi 0,vi 0] 308 λw'=>(wr w' w.heap.size 0/\wr w' w.heap.size 1)/\St (st w' w.heap.size 0 (vi pid)) w.heap.size 1 (vi number) λa=>Wif (decide (pid<1)||decide (pid>8)||decide (number<0)||decide (number>=1024)) (K (vi 2) a) (Wp m (Rs a m 0 λx q u=>Wp x (Wn frame q (Ri a x (frame.toNat*2) λr=>Wif (r != 0) (K (vi 80) a) (Dr a λc=>Wp m (∃(x:Option Nat),rd c (pb m) (po m+1)=some (.map x)/\∃(j k:Int),(rd c w.heap.size 0=some (.int .i64 j)/\rd c w.heap.size 1=some (.int .i64 k))/\∃(s:Int) (l:Bool),EA prog 286 (Value.map x) (agg #[vi j,vi k]) true (Value.tuple #[vi s,bool l]) c/\Wif l (K (vi 8) c) (Dr c λb=>Wp m (Rs b m 0 λx o t=>∃(d f:Int),(rd b w.heap.size 0=some (.int .i64 d)/\rd b w.heap.size 1=some (.int .i64 f))/\Wp x (Wn frame o ((wr b (pb x) (po x+frame.toNat*2)/\wr b (pb x) (po x+frame.toNat*2+1))/\St (st b (pb x) (po x+frame.toNat*2) (vi d)) (pb x) (po x+frame.toNat*2+1) (vi f) λw'=>Dr w' λc=>Wp m (∃(x:Option Nat),rd c (pb m) (po m+1)=some (.map x)/\∃(g h:Int),(rd c w.heap.size 0=some (.int .i64 g)/\rd c w.heap.size 1=some (.int .i64 h))/\∃(w':WD),EF prog 286 (Value.map x) (agg #[vi g,vi h]) (vi frame) c w'/\K (vi 0) w'))))))))))))))))):Ret 99 #[pt m,vi frame,vi pid,vi number] w K:=vcA L1 3 [] func99 h
theorem vc322(m:OA)(frame:Int)(w:WD)(K:KV)(h:Q (gIf (isP m) (isNone m=false) (∃(x:Option Nat),(isNone m=false->rd w (pb m) (po m+1)=some (.map x))/\Wif (isNone m||isNone x) (K (vi 1) w) (gIf (isP m) (decide (frame<0)=false) (∃(x:OA) (d i:Nat),(decide (frame<0)=false->rd w (pb m) (po m)=some (.slice x d i))/\Wif (decide (frame<0)||decide (frame>=(↑d:Int))) (K (vi 2) w) (Wp m (Rs w m 0 λx j p=>Wp x (Wn frame j (Ri w x (frame.toNat*2) λk=>Wif (k==0) (K (vi 7) w) (Dr w λb=>Wp m (∃(x:Option Nat),rd b (pb m) (po m+1)=some (.map x)/\Wp m (Rs b m 0 λa l q=>Wp a (Wn frame l (∃(f c:Int),(rd b (pb a) (po a+frame.toNat*2)=some (.int .i64 f)/\rd b (pb a) (po a+frame.toNat*2+1)=some (.int .i64 c))/\∃(w':WD),IG prog #[286,308] 0 (Value.map x) (agg #[vi f,vi c]) b w'/\Wp m (Rs w' m 0 λx g o=>Wp x (Wn frame g ((wr w' (pb x) (po x+frame.toNat*2)/\wr w' (pb x) (po x+frame.toNat*2+1))/\St (st w' (pb x) (po x+frame.toNat*2) (vi 0)) (pb x) (po x+frame.toNat*2+1) (vi 0) λh=>K (vi 0) h))))))))))))))))):Ret 322 #[pt m,vi frame] w K:=vcA L1 3 [] func322 h
theorem vc101(c:OA)(frame:Int)(w:WD)(K:KV)(h:Q (gIf (isP c) (isNone c=false) (∃(x:Option Nat),(isNone c=false->rd w (pb c) (po c+1)=some (.map x))/\Wif (isNone c||isNone x) (K (vi 1) w) (Wif (decide (frame<0)) (K (vi 2) w) (gIf (isP c) (isNone c=false) (∃(x:Option Nat),(isNone c=false->rd w (pb c) (po c+1)=some (.map x))/\Wif (isNone c||isNone x) (Wp c (Rs w c 0 λx f g=>AW w #[vi frame] 3 λw'=>∃(a:OA) (l c_1:Nat) (b:WD),BL prog #[27,27] 27 (sl x f g) (sl (aD w.heap.size) 1 1) (sl a l c_1) w' b/\Wp c (Sw b (pb c) (po c) (sl a l c_1) λw'=>Wp c (∃(x:Option Nat),rd w' (pb c) (po c+1)=some (.map x)/\∃(d:WD),EF prog 289 (Value.map x) (vi frame) (agg #[bool true,bool true]) w' d/\K (vi 0) d)))) (Wp c (∃(x:Option Nat),rd w (pb c) (po c+1)=some (.map x)/\∃(f g i:Bool),EA prog 289 (Value.map x) (vi frame) true (Value.tuple #[agg #[bool f,bool g],bool i]) w/\AW w #[bool false,bool false] 311 λw'=>(wr w' w.heap.size 0/\wr w' w.heap.size 1)/\St (st w' w.heap.size 0 (bool f)) w.heap.size 1 (bool g) λb=>Wif i (K (vi 8) b) (Wp c (Rs b c 0 λx j k=>AW b #[vi frame] 3 λw'=>∃(a:OA) (l c_1:Nat) (d:WD),BL prog #[27,27] 27 (sl x j k) (sl (aD b.heap.size) 1 1) (sl a l c_1) w' d/\Wp c (Sw d (pb c) (po c) (sl a l c_1) λw'=>Wp c (∃(x:Option Nat),rd w' (pb c) (po c+1)=some (.map x)/\∃(h:WD),EF prog 289 (Value.map x) (vi frame) (agg #[bool true,bool true]) w' h/\K (vi 0) h)))))))))))):Ret 101 #[pt c,vi frame] w K:=vcA L1 3 [] func101 h
theorem vc323(c:OA)(frame:Int)(w:WD)(K:KV)(h:Q (gIf (isP c) (isNone c=false) (∃(x:Option Nat),(isNone c=false->rd w (pb c) (po c+1)=some (.map x))/\Wif (isNone c||isNone x) (K (vi 1) w) (gIf (isP c) (isNone c=false) (∃(x:Option Nat),(isNone c=false->rd w (pb c) (po c+1)=some (.map x))/\Wif (isNone c||isNone x) (K (vi 7) w) (Wp c (∃(x:Option Nat),rd w (pb c) (po c+1)=some (.map x)/\∃(d f g:Bool),EA prog 289 (Value.map x) (vi frame) true (Value.tuple #[agg #[bool d,bool f],bool g]) w/\AW w #[bool false,bool false] 311 λw'=>(wr w' w.heap.size 0/\wr w' w.heap.size 1)/\St (st w' w.heap.size 0 (bool d)) w.heap.size 1 (bool f) λb=>Wif (!g) (K (vi 7) b) (Wp c (∃(x:Option Nat),rd b (pb c) (po c+1)=some (.map x)/\∃(w':WD),IG prog #[289,3] 0 (Value.map x) (vi frame) b w'/\Wp c (Rs w' c 0 λx i j=>CI 235 #[sl x i j,vi frame] w' λn w'=>Wp c (Rs w' c 0 λx k o=>CS 236 #[sl x k o,vi n,vi (wrap .i64 (n+1))] w' λa l c_1 w'=>Wp c (Sw w' (pb c) (po c) (sl a l c_1) λh=>K (vi 0) h)))))))))))):Ret 323 #[pt c,vi frame] w K:=vcA L1 3 [] func323 h
theorem vc187(k:OA)(frame:Int)(w:WD)(K:KV)(h:Q (Wif (isNone k) (K (vi 1) w) (Wp k (Rp w k 95 λx=>CI 237 #[pt x,vi frame,vi 0] w λn w'=>Wif (n != 0) (K (vi 2) w') (Wp k (Rp w' k 94 λx=>CI 34 #[pt x,vi frame,agg #[vu 1,vi 0,vi 0,vi 0,vi 0]] w' λn w'=>K (vi 0) w')))))):Ret 187 #[pt k,vi frame] w K:=vcA L3 3 [] func187 h
theorem vc39(k:OA)(pid page frame:Int)(w:WD)(K:KV)(h:Q (Wif (isNone k) (K (vi 1) w) (Wif (decide (pid<1)||decide (pid>8)) (CI 18 #[pt k,vi frame] w λn w'=>Wif (decide (n<0)||decide (page<0)||decide (page>=1024)) (K (vi 2) w') (K (vi 7) w')) (Wp k (Wn pid 9 (RP w (pb k) (po k+105+pid.toNat*1) λx=>CI 18 #[pt k,vi frame] w λn w'=>Wif (decide (n<0)||decide (page<0)||decide (page>=1024)) (K (vi 2) w') (Wif (isNone x) (K (vi 7) w') (Dr w' λa=>Wp k (Rp a k 94 λc=>Wp x (Ri a x 1 λd=>CJ 49 #[pt c,vi d,vi page] a λo f w'=>Wif (f != 0) (K (vi 7) w') (Wp k (Rp w' k 98 λg=>CI 99 #[pt g,vi frame,vi pid,vi page] w' λb w'=>Wif (b != 0) (K (vi b) w') (Dr w' λa=>Wp k (Rp a k 94 λh=>Wp x (Ri a x 1 λi=>CI 100 #[pt h,vi i,vi page,agg #[vu 1,vi frame]] a λp w'=>Wp k (Rp w' k 94 λx=>CI 34 #[pt x,vi frame,agg #[vu 4,vi 0,vi pid,vi page,vi 0]] w' λq w'=>Wp k (Rs w' k 100 λx j r=>Wp x (Wn n j (Rp w' x (n.toNat*1) λl=>CI 101 #[pt l,vi frame] w' λn w'=>K (vi 0) w'))))))))))))))))))):Ret 39 #[pt k,vi pid,vi page,vi frame] w K:=vcA L3 3 [] func39 h
theorem vc20(k:OA)(cpu pid page:Int)(w:WD)(K:KV)(h:Q (Wif (isNone k) (K (sl none 0 0) w) (gIf (isP k) (decide (cpu>=0)=true) (∃(x:Int),(decide (cpu>=0)=true->rd w (pb k) (po k+1)=some (.int .i64 x))/\Wif (decide (cpu>=0)&&decide (cpu<x)) (Wp k (Wn cpu 16 (RI w (pb k) (po k+2+cpu.toNat*1) λx=>Dr w λd=>Wp k (∃(f:NI),BB d (pb k) (po k) (AQ .i64 f 0 94)/\Calls prog 54 #[pt k,vi pid,vi page] d λe w'=>∃(n b:Int),e=rT (.agg #[vu n,vu b])/\(BB w' (pb k) (po k) (AQ .i64 f 0 94)/\True)/\Calls prog 53 #[agg (List.toArray (AQ .i64 f 0 94)),agg #[vu n,vu b],vi x,vi page] w' λe w'=>∃(a:OA) (l c:Nat) (n:Int),e=rT (.tuple #[sl a l c,vi n])/\K (sl a l c) w')))) (Dr w λd=>Wp k (∃(x:NI),BB d (pb k) (po k) (AQ .i64 x 0 94)/\Calls prog 54 #[pt k,vi pid,vi page] d λe w'=>∃(n b:Int),e=rT (.agg #[vu n,vu b])/\(BB w' (pb k) (po k) (AQ .i64 x 0 94)/\True)/\Calls prog 53 #[agg (List.toArray (AQ .i64 x 0 94)),agg #[vu n,vu b],vi 0,vi page] w' λe w'=>∃(a:OA) (l c:Nat) (n:Int),e=rT (.tuple #[sl a l c,vi n])/\K (sl a l c) w')))))):Ret 20 #[pt k,vi cpu,vi pid,vi page] w K:=vcA L1 3 [] func20 h
def B46(x:Mark):Bool:=decide (1<=x.role/\x.role<=5/\0<=x.order/\x.order<=10/\0<=x.owner/\x.owner<=65535/\0<=x.page/\x.page<=65535/\0<=x.index)
theorem B1i(x:Mark)(w:WD):Calls prog 93 #[.agg (FI x).toArray] w λe w'=>e=.returned (.bool (B46 x))/\AB AD w w':=by
 refine(vc93 x.role x.order x.owner x.page x.index w (λv w'=>v=.bool (B46 x)/\AB AD w w') ?_).AE ?_
 rotate_left
 .rintro e w' ⟨v,rfl,rfl,h⟩;exact⟨rfl,h⟩
 unfold Q;intro w1 e1;have o1:=AG (c:=FI x) e1;have k1:=kal e1;obtain⟨r0,r1,r2,r3,r4⟩:=rd5 o1;have no:∀{b:Bool},b=false->(¬(1<=x.role/\x.role<=5/\0<=x.order/\x.order<=10/\0<=x.owner/\x.owner<=65535/\0<=x.page/\x.page<=65535/\0<=x.index))->b=B46 x:=λh1 h2=>by rw [h1];unfold B46;simp only [h2,decide_false]
 refine⟨_,r0,_,λ_=>r0,_,λ_=>r1,AH (λh1=>⟨_,λ_=>r2,AH (λh2=>⟨_,λ_=>r3,AH (λh3=>⟨_,λ_=>r4,?_,k1⟩) (λh3=>⟨?_,k1⟩)⟩) (λh2=>⟨?_,k1⟩)⟩) (λh1=>⟨?_,k1⟩)⟩
 .simp only [Bool.and_eq_true,decide_eq_true_eq] at h1 h2 h3;congr 1;unfold B46;rw [Bool.eq_iff_iff];simp only [Bool.and_eq_true,decide_eq_true_eq];omega
 .simp only [Bool.and_eq_false_iff,decide_eq_false_iff_not] at h3;rw [<- no (b:=false) rfl (by omega)]
 .simp only [Bool.and_eq_false_iff,decide_eq_false_iff_not] at h2;rw [<- no (b:=false) rfl (by omega)]
 .simp only [Bool.and_eq_false_iff,decide_eq_false_iff_not] at h1;rw [<- no (b:=false) rfl (by omega)]
theorem RU{α:Type}(f:Nat->α)(i:Nat)(a b:α):upd (upd f i a) i b=upd f i b:=by
 funext j;by_cases h:j=i
 .subst h;rw [AF,AF]
 .rw [AI _ _ h,AI _ _ h,AI _ _ h]
theorem B4y{w:WD}{n:Nat}{f:Nat->List Value}{v2 v3 v4:Value}(h:AX w b (D4 n f))(hf:∀j,j<n->(f j).length=5)(hi:i<n)
 (e:w'=st (st (st (st (st w b (0+i*5) v0) b (0+i*5+1) v1) b (0+i*5+2) v2) b (0+i*5+3) v3) b (0+i*5+4) v4):AX w' b (D4 n (upd f i [v0,v1,v2,v3,v4]))/\AB (·=b) w w':=by
 subst e;rw [za];have hu:∀{l:List Value},l.length=5->∀j,j<n->(upd f i l j).length=5:=λhl j hj=>by
  by_cases e:j=i
  .subst e;rw [AF];exact hl
  .rw [AI _ _ e];exact hf j hj
 have h0:=h.BT (o:=i*5) (v:=v0);obtain⟨a0,a1,a2,a3,a4,ha⟩:∃a0 a1 a2 a3 a4,f i=[a0,a1,a2,a3,a4]:=by
  have:=hf i hi
  match f i,this with
  | [a0,a1,a2,a3,a4],_=>exact⟨a0,a1,a2,a3,a4,rfl⟩
 have s0:=DN hf hi (j:=0) (v:=v0) (by decide);rw [Nat.add_zero,ha] at s0;have s1:=DN (f:=upd f i [v0,a1,a2,a3,a4]) (hu rfl) hi (j:=1) (v:=v1) (by decide);have s2:=DN (f:=upd f i [v0,v1,a2,a3,a4]) (hu rfl) hi (j:=2) (v:=v2) (by decide);have s3:=DN (f:=upd f i [v0,v1,v2,a3,a4]) (hu rfl) hi (j:=3) (v:=v3) (by decide);have s4:=DN (f:=upd f i [v0,v1,v2,v3,a4]) (hu rfl) hi (j:=4) (v:=v4) (by decide);rw [AF,RU] at s1 s2 s3 s4;have o:=h.BT (o:=i*5) (v:=v0) |>.BT (o:=i*5+1) (v:=v1) |>.BT (o:=i*5+2) (v:=v2) |>.BT (o:=i*5+3) (v:=v3) |>.BT (o:=i*5+4) (v:=v4)
 rw [s0] at o;simp only [List.set_cons_zero,List.set_cons_succ] at o s1 s2 s3 s4;rw [s1,s2,s3,s4] at o;exact⟨o,((((AB.refl (·=b) w).st (.inl rfl)).st (.inl rfl)).st (.inl rfl)).st (.inl rfl) |>.st (.inl rfl)⟩
theorem A6e{w:WD}{n:Nat}{f:Nat->List Value}(h:AX w b (D4 n f))(hf:∀j,j<n->(f j).length=2)(hi:i<n)
 (e:w'=st (st w b (0+i*2) v0) b (0+i*2+1) v1):AX w' b (D4 n (upd f i [v0,v1]))/\AB (·=b) w w':=by
 subst e;rw [za];have hu:∀{l:List Value},l.length=2->∀j,j<n->(upd f i l j).length=2:=λhl j hj=>by
  by_cases e:j=i
  .subst e;rw [AF];exact hl
  .rw [AI _ _ e];exact hf j hj
 obtain⟨a0,a1,ha⟩:∃a0 a1,f i=[a0,a1]:=by
  have:=hf i hi
  match f i,this with
  | [a0,a1],_=>exact⟨a0,a1,rfl⟩
 have s0:=DN hf hi (j:=0) (v:=v0) (by decide);rw [Nat.add_zero,ha] at s0;have s1:=DN (f:=upd f i [v0,a1]) (hu rfl) hi (j:=1) (v:=v1) (by decide);rw [AF,RU] at s1;have o:=h.BT (o:=i*2) (v:=v0) |>.BT (o:=i*2+1) (v:=v1)
 rw [s0] at o;simp only [List.set_cons_zero,List.set_cons_succ] at o s1;rw [s1] at o;exact⟨o,((AB.refl (·=b) w).st (.inl rfl)).st (.inl rfl)⟩
def smE(n:Nat)(frame:Int)(x:Mark):Int:=if frame<0\/frame>=n then 7 else if B46 x then 0 else 2
def smS(mk:Nat->Mark)(n:Nat)(frame:Int)(x:Mark):Nat->Mark:=if smE n frame x=0 then upd mk frame.toNat x else mk
section
variable {w:WD}{m bb mb:Nat}{c:NI}{n:Nat}{by':NI}{mk:Nat->Mark}
theorem A2m(h:BU w m bb mb c n by' mk)(frame:Int)(x:Mark) :
 Calls prog 34 #[AP m,vi frame,.agg (FI x).toArray] w λe w'=>e=.returned (vi (smE n frame x))/\AB (·=mb) w w'/\BU w' m bb mb c n by' (smS mk n frame x):=by
 refine(vc34 _ frame x.role x.order x.owner x.page x.index w (λv w'=>v=vi (smE n frame x)/\AB (·=mb) w w'/\BU w' m bb mb c n by' (smS mk n frame x)) ?_).AE ?_
 rotate_left
 .rintro e w' ⟨v,rfl,rfl,h⟩;exact⟨rfl,h⟩
 have hl:=h.ms.lt;unfold Q;intro w1 e1;have o1:=AG (c:=FI x) e1;have k1:=kal e1;have h1:=h.k k1;have h95:∀{W:WD},AB AD w1 W->rd W m (0+95)=some (.slice (some ⟨mb,0,none⟩) n n):=λkk=>by rw [za];exact(h1.k kk).r95
 have kr:=AB.refl AD w1;refine AJ (λ_=>rfl) ⟨_,_,_,λ_=>h95 kr,AL rfl (AJ (λ_=>rfl) ⟨_,_,_,λ_=>h95 kr,AH (λhf=>?_) (λhf=>?_)⟩)⟩
 .have e7:smE n frame x=7:=by unfold smE;rw [if_pos (by simpa using hf)]
  have es:smS mk n frame x=mk:=by unfold smS;rw [e7];rfl
  rw [e7,es];exact⟨rfl,k1.AE λ_ _ e=>e.elim,h1⟩
 have hf':0<=frame/\frame<n:=by simp at hf;omega
 obtain⟨f,rfl⟩:∃f:Nat,frame=f:=⟨frame.toNat,by omega⟩;have hfn:f<n:=by omega
 refine⟨_,_,_,_,_,rd5 o1,(B1i x w1).AE ?_⟩;rintro _ w2 ⟨rfl,k2⟩;refine⟨_,rfl,AH (λhb=>?_) (λhb=>?_)⟩
 .have e2:smE n (f:Int) x=2:=by unfold smE;rw [if_neg (by omega),if_neg (by simpa using hb)]
  have es:smS mk n (f:Int) x=mk:=by unfold smS;rw [e2];rfl
  rw [e2,es];exact⟨rfl,(k1.tr k2).AE λ_ _ e=>e.elim,h1.k k2⟩
 have e0:smE n (f:Int) x=0:=by unfold smE;rw [if_neg (by omega),if_pos (by simpa using hb)]
 have es:smS mk n (f:Int) x=upd mk f x:=by unfold smS;rw [if_pos e0];rfl
 rw [e0,es];intro w3 e3;have k3:AB AD w1 w3:=k2.dr e3;have h3:=h1.k k3;have hf5:∀j,j<n->(FI (mk j)).length=5:=λ_ _=>rfl;have hlen:(D4 n λi=>FI (mk i)).length=n*5:=DE hf5;refine AA rfl ⟨_,_,_,h95 k3,_,_,_,_,_,rd5 (o1.k k3),AA rfl (Wi ⟨?_,λw4 e4=>?_⟩)⟩
 .rw [tnc];exact⟨h3.ms.wr (by rw [hlen];show 0+f*5<_;omega),h3.ms.wr (by rw [hlen];show 0+f*5+1<_;omega),h3.ms.wr (by rw [hlen];show 0+f*5+2<_;omega),h3.ms.wr (by rw [hlen];show 0+f*5+3<_;omega),h3.ms.wr (by rw [hlen];show 0+f*5+4<_;omega)⟩
 .rw [tnc] at e4;obtain⟨o4,k4⟩:=B4y h3.ms hf5 hfn e4;refine⟨rfl,((k1.tr k3).AE λ_ _ e=>e.elim).trans k4 λ_ _ e=>e,⟨h3.so.kx k4 h.ne.2.1,h3.bs.kx k4 h.ne.2.2,?_,h.ne⟩⟩;have:(λi=>FI (upd mk f x i))=upd (λi=>FI (mk i)) f [.int .u8 x.role,vi x.order,vi x.owner,vi x.page,vi x.index]:=by
   funext j;by_cases e:j=f
   .subst e;rw [AF,AF];rfl
   .rw [AI _ _ e,AI _ _ e]
  rw [this];exact o4
