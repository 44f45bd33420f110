/- Part of a proof that a law returns true. Conditions: those in each theorem. -/
import Derived.Test.YtdgbechegbmpcaaGreatDoorB0
import Derived.Test.YtdgbechegbmpcaaGreatDoorQ12
import Derived.Test.YtdgbechegbmpcaaGreatDoorSV1
import Derived.Test.YtdgbechegbmpcaaGreatDoorBS5
import Derived.Test.YtdgbechegbmpcaaGreatDoorQ2
import Derived.Test.YtdgbechegbmpcaaGreatDoorM7
import Derived.Test.YtdgbechegbmpcaaGreatDoorXV4
set_option linter.unusedVariables false
set_option linter.unusedSimpArgs false
set_option maxRecDepth 100000
namespace Go.Proofs.YtdgbechegbmpcaaGreatDoor
open Go Go.Eng Go.Proofs.Tryz
open Go.Value (bool func)
open Option (isNone)
open Go.IntKind (wrap)
theorem vc227(s:OA)(sL sC:Nat)(f:Value)(w:WD)(K:KV)(h:Q (∃(I:Int->Int->WD->Nat->Prop),(∃(n:Nat),I 0 0 w n)/\∀(n a:Int) (w':WD) (c:Nat),I n a w' c->Wif (decide (a<(↑sL:Int))) (Wp s (Wn a sL (Ri w' s (Int.toNat a*1) fun x=>AM prog f [vi x] w' fun e w'=>∃(b:Bool),e=rT (.bool b)/\Wif b (K (vi a) w') (Lt c fun m=>I n (wrap .i64 (a+1)) w' m)))) (K (vi (-1)) w'))):Ret 227 #[sl s sL sC,f] w K:=vcA L7 2 [2000011] func227 h
theorem vc161(s:OA)(sL sC:Nat)(del:Value)(w:WD)(K:KV)(h:Q (CI 227 #[sl s sL sC,del] w fun n w'=>Wif (n==-1) (K (sl s sL sC) w') (∃(I:Int->Int->WD->Nat->Prop),(∃(a:Nat),I n (wrap .i64 (n+1)) w' a)/\∀(n a:Int) (w':WD) (d:Nat),I n a w' d->Wif (decide (a<(↑sL:Int))) (Wp s (Wn a sL (Ri w' s (Int.toNat a*1) fun x=>AM prog del [vi x] w' fun e w'=>∃(b:Bool),e=rT (.bool b)/\Wif (!b) (Wp s (Wn n sL (Sw w' (pb s) (po s+Int.toNat n*1) (vi x) fun c=>Lt d fun m=>I (wrap .i64 (n+1)) (wrap .i64 (a+1)) c m))) (Lt d fun m=>I n (wrap .i64 (a+1)) w' m)))) (Wif (CN n (↑sL:Int) (↑sC:Int)) (∃(c:WD),JA prog #[27] 0 (sl (BJ s sC (Int.toNat n) 1) (sL-Int.toNat n) (sC-Int.toNat n)) w' c/\Wif (CN 0 n (↑sC:Int)) (K (sl s (Int.toNat n) sC) c) False) False)))):Ret 161 #[sl s sL sC,del] w K:=vcA L7 2 [2000026] func161 h
theorem vc102(s:OA)(i:Int)(w:WD)(K:KV)(h:Q (gIf (isP s) ((!isNone s&&decide (i>=0))=true) (∃(x:Int),((!isNone s&&decide (i>=0))=true->rd w (pb s) (po s+1)=some (.int .i64 x))/\K (.bool (!isNone s&&decide (i>=0)&&decide (i<x))) w))):Ret 102 #[pt s,vi i] w K:=vcA L7 2 [] func102 h
end Go.Proofs.YtdgbechegbmpcaaGreatDoor
namespace Go.Proofs.YtdgbechegbmpcaaGreatDoor
open Go Go.Eng Go.Proofs.Tryz
theorem and_one{m:Nat}(h:m<18446744073709551616):BW .and .u64 (m:Int) 1=((m%2:Nat):Int):=by
 have hx:(BitVec.ofInt 64 (m:Int) &&& BitVec.ofInt 64 (1:Int)).toNat=m%2:=by
  rw [BitVec.toNat_and,BitVec.toNat_ofInt,BitVec.toNat_ofInt,show((m:Int)%((2^64:Nat):Int)).toNat=m by omega,show((1:Int)%((2^64:Nat):Int)).toNat=1 by decide,Nat.and_one_is_mod]
 show IntKind.wrap .u64 ((BitVec.ofInt 64 (m:Int) &&& BitVec.ofInt 64 (1:Int)).toNat:Int)=_
 rw [hx,wu (by omega)]
theorem or_bit{m p:Nat}(h:m<4294967296)(hp:p<32):BW .or .u64 (m:Int) (IntKind.wrap .u64 (1*2^min (Int.toNat (Int.tmod (p:Int) 64)) 64))=((m ||| 2^p:Nat):Int)/\m ||| 2^p<4294967296:=by
 have etm:Int.tmod (p:Int) 64=p:=by rw [Int.tmod_eq_emod_of_nonneg (by omega)];omega
 have h2:2^p<2^32:=Nat.pow_lt_pow_right (by decide) hp;have h3:m ||| 2^p<2^32:=Nat.or_lt_two_pow (by omega) h2
 have e1:IntKind.wrap .u64 (1*2^min (Int.toNat (Int.tmod (p:Int) 64)) 64)=((2^p:Nat):Int):=by
  have:(2:Int)^p=((2^p:Nat):Int):=by simp
  rw [etm,tnc,Nat.min_eq_left (by omega),Int.one_mul,this];clear this h3;generalize 2^p=q at *;exact wu (by omega)
 refine⟨?_,by omega⟩;rw [e1];generalize 2^p=q at *;have hx:(BitVec.ofInt 64 (m:Int) ||| BitVec.ofInt 64 (q:Int)).toNat=m ||| q:=by
  rw [BitVec.toNat_or,BitVec.toNat_ofInt,BitVec.toNat_ofInt,show((m:Int)%((2^64:Nat):Int)).toNat=m by omega,show((q:Int)%((2^64:Nat):Int)).toNat=q by omega]
 show IntKind.wrap .u64 ((BitVec.ofInt 64 (m:Int) ||| BitVec.ofInt 64 (q:Int)).toNat:Int)=_
 rw [hx,wu (by omega)]
section
variable {W:WD}{pb' wb x p:Nat}
theorem sown_spec(h:own W pb' [.slice (some ⟨wb,0,none⟩) 16 16,vi 1024])(hp:p<32):Calls prog 102 #[ptr pb',vi p] W fun e w'=>e=.returned (.bool true)/\w'=W:=by
 refine Calls.ret (vc102 _ p W _ ?_);apply qI;refine AF (fun _=>rfl) ⟨1024,(fun _=>by show rd W pb' (0+1)=_;rw [h.rd];rfl),?_,rfl⟩;congr 2;simp;omega
theorem has_spec(h:own W pb' [.slice (some ⟨wb,0,none⟩) 16 16,vi 1024])(hw:own W wb (MS x))(hx:x<4294967296)(hp:p<32):Calls prog 103 #[ptr pb',vi p] W fun e w'=>e=.returned (.bool (x.testBit p))/\w'=W:=by
 refine Calls.ret (vc103 _ p W _ ?_);apply qI;have etm:Int.tmod (p:Int) 64=p:=by rw [Int.tmod_eq_emod_of_nonneg (by omega)];omega
 have eq0:IntKind.wrap .i64 (Int.tdiv (p:Int) 64)=0:=by
  rw [Int.tdiv_eq_ediv_of_nonneg (by omega),wi (by omega)];omega
 rw [etm,eq0,tnc,Nat.min_eq_left (show p<=64 by omega)];have e1:Int.fdiv (x:Int) (2^p)=((x/2^p:Nat):Int):=by
  rw [Int.fdiv_eq_ediv_of_nonneg _ (Int.pow_nonneg (by decide))];simp
 have h2:x/2^p<=x:=Nat.div_le_self _ _;refine(sown_spec h hp).mono ?_;rintro _ wx ⟨rfl,hwx⟩;rw [hwx];refine⟨true,rfl,AF (fun _=>rfl) ⟨_,_,_,(fun _=>by show rd W pb' 0=_;rw [h.rd];rfl),AF (fun _=>rfl) (AF (fun _=>by decide) ⟨(x:Int),(fun _=>by show rd W wb (0+0*1)=_;rw [hw.rd];rfl),AF (fun _=>by simp) ⟨?_,rfl⟩⟩)⟩⟩;rw [e1,and_one (by omega),Nat.testBit_eq_decide_div_mod_eq];congr 2;rcases Nat.mod_two_eq_zero_or_one (x/2^p) with h3|h3 <;> rw [h3] <;> decide
theorem put_spec(h:own W pb' [.slice (some ⟨wb,0,none⟩) 16 16,vi 1024])(hw:own W wb (MS x))(hx:x<4294967296)(hp:p<32)(hne:pb'≠wb):Calls prog 40 #[ptr pb',vi p] W fun e w'=>∃n,e=.returned (vi n)/\Kept (·=wb) W w'/\own w' wb (MS (x ||| 2^p)):=by
 refine Calls.ret (vc40 _ p W _ ?_);apply qI;have eq0:IntKind.wrap .i64 (Int.tdiv (p:Int) 64)=0:=by
  rw [Int.tdiv_eq_ediv_of_nonneg (by omega),wi (by omega)];omega
 obtain⟨e1,e2⟩:=or_bit hx hp;have etm:Int.tmod (p:Int) 64=p:=by rw [Int.tmod_eq_emod_of_nonneg (by omega)];omega
 rw [eq0];refine AG rfl ((sown_spec h hp).mono ?_);rintro _ wx ⟨rfl,hwx⟩;rw [hwx];refine⟨true,rfl,AG rfl ((has_spec h hw hx hp).mono ?_)⟩;rintro _ wy ⟨rfl,hwy⟩;rw [hwy];refine⟨_,rfl,AE (fun hb=>?_) (fun hb=>fun w1 e3=>?_)⟩
 ·refine⟨_,rfl,Kept.refl _ _,?_⟩;have:x ||| 2^p=x:=by
   refine Nat.eq_of_testBit_eq fun i=>?_;rw [Nat.testBit_or,Nat.testBit_two_pow];by_cases e:p=i
   ·subst e;simp [hb]
   ·simp [e]
  rw [this];exact hw
 ·have k1:=kdr e3;have hw1:=hw.k k1;refine AA rfl ⟨_,_,_,by show rd w1 pb' 0=_;rw [(h.k k1).rd];rfl,AA rfl (AA (by decide) ⟨(x:Int),by show rd w1 wb (0+0*1)=_;rw [hw1.rd];rfl,AA (by rw [etm];simp) (AA rfl (AA (by decide) ⟨by show wr w1 wb (0+0*1);exact hw1.wr (by simp [MS]),fun w2 e4=>?_⟩))⟩)⟩;rw [e1] at e4;have e4:w2=st w1 wb 0 (.int .u64 ((x ||| 2^p:Nat):Int)):=e4;have k2:Kept (·=wb) w1 w2:=kr.s1 e4 (.inl rfl);exact⟨_,rfl,(k1.none).trans k2 fun _ _ e=>e,hw1.s1 e4⟩
end
section
variable {k N:Nat}{Q:Fin}{S:AL}{cpu i p f j g:Nat}{th:Value}{FR G:NP}{W:WD}{fp:Prt->Nat->Prop}
def EvK(k N:Nat)(Q:Fin)(S:AL)(i p f j:Nat)(th:Value)(FR:NP)(W:WD)(fp:Prt->Nat->Prop):Prop:=
 ((((S.pins 1).testBit p=true\/∀s,s<S.AP->S.sof s≠(0,0))->∀w2 fp2,Ctx k S fp2 FR w2->Ltr W fp FR w2 fp2->AM prog th [.bool false] w2 (Nx N Q (Fo fp2 FR) w2))/\
  ((S.pins 1).testBit p=false->∀s l',s<S.AP->S.sof s=(0,0)->HY (S.L i) ((f:Int)-AN S.c i) 0 0 l'->∀w2 fp2,Ctx k (S.GD i p f j s l') fp2 FR w2->Ltr W fp FR w2 fp2->AM prog th [.bool true] w2 (Nx N Q (Fo fp2 FR) w2)))
theorem EvK.later{w2:WD}{fp2:Prt->Nat->Prop}(h:EvK k N Q S i p f j th FR W fp)(L:Ltr W fp FR w2 fp2):EvK k N Q S i p f j th FR w2 fp2:=
 ⟨fun h1 w3 fp3 X3 L3=>h.1 h1 w3 fp3 X3 (L.trans L3),fun h1 s l' a b c w3 fp3 X3 L3=>h.2 h1 s l' a b c w3 fp3 X3 (L.trans L3)⟩
set_option maxHeartbeats 4000000 in
theorem glook_spec(hC:∀x,Q.C x->FR x)(hFG:∀x,FR x->G x)(E:EvR S cpu i p f j)(ht:okF th=true)(X:Ctx k (S.DX (lk1 cpu)) fp G W)(hg:G g)(hgF:¬FR g)(og:own W g (gc k cpu f p 0 th))(H:EvK k N Q S i p f j th FR W fp) :
 AM prog (.func (.func 193) #[ptr g] #[]) [.bool false] W (Nx (N+5) Q (Fo fp G) W):=by
 have hCG:∀x,Q.C x->G x:=fun x h=>hFG x (hC x h);have hsz:=X.C.BO;have hsz':S.AO<=16/\S.nodes<=8/\S.AP<=1024:=⟨hsz.2.1.2.1,hsz.1.2.1,hsz.2.2.1⟩;have hcp:=E.cp;obtain⟨b,hb⟩:=E.sp;refine AM.mk 193 #[ptr g] #[] rfl (by kernel_rfl) ?_;refine Calls.ret (vc193 (some ⟨g,0,none⟩) false W _ ?_);have R:∀{W':WD}{o:Nat}{v:Value},Kept (fun x=>¬G x) W W'->(gc k cpu f p 0 th)[o]? = some v->rd W' g (0+o)=some v:=fun kk hv=>gr og hg kk hv;have rt:∀{W':WD}{S':AL}{fp':Prt->Nat->Prop}{j:Nat}{v:Value},AJ W' k S' fp'->(IQ S')[j]? = some v->rd W' k (0+(94+j))=some v:=fun C hj=>C.rtW kr hj;apply qI;intro w1 e1;have M1:=X.mv0 (kr.dr e1);have m1:=M1.L.kp;refine AA rfl ⟨_,R (o:=0) m1 rfl,AA rfl ⟨_,by have:=rt M1.X.C (j:=4) rfl;exact this,AA rfl ⟨f,R (o:=2) m1 rfl,(OM M1.X.C E.fn).mono ?_⟩⟩⟩;rintro _ w2 ⟨rfl,k2⟩;have M2:=M1.tr (M1.X.mv0 k2);have er:(S.DX (lk1 cpu)).rof f=(1,(p:Int)):=E.rof;refine⟨_,_,_,rfl,fun w3 e3=>?_⟩;rw [er];have M3:=M2.tr (M2.X.mv0 (kr.dr e3));have m3:=M3.L.kp;have sp3:=M3.X.C.spc (i:=1) hb;obtain⟨ab,pb',wb,mb,a1,a2,a3,a4,_⟩:=sp3.ex;have hx32:S.pins 1<4294967296:=sp3.lt;have esp:rd w3 k (0+105+Int.toNat 1*1)=some (ptr b):=by
  have:=M3.X.C.rt (j:=12) (v:=spV (S.sp 1)) rfl;rw [hb] at this;exact this
 refine AA rfl ⟨_,R (o:=0) m3 rfl,AA rfl ⟨1,R (o:=3) m3 rfl,AA rfl (AA (by decide) ⟨_,esp,AF (fun _=>rfl) ⟨1,(fun _=>R (o:=3) m3 rfl),AF (fun _=>rfl) ⟨(p:Int),(fun _=>R (o:=4) m3 rfl),AF (fun _=>rfl) ⟨some ⟨pb',0,none⟩,(fun _=>by show rd w3 b (0+2)=_;rw [a1.rd];rfl),AG (by simp) ((has_spec a3 a4 hx32 E.p32).mono ?_)⟩⟩⟩⟩)⟩⟩;rintro _ wx ⟨rfl,hwx⟩;rw [hwx];refine⟨_,rfl,AE (fun hpin=>fun w4 e4=>?_) (fun hpin=>fun w4 e4=>?_)⟩
 ·have M4:=M3.tr (M3.X.mv0 (kr.dr e4));have m4:=M4.L.kp;refine AA rfl ⟨_,R (o:=0) m4 rfl,AA rfl ⟨cpu,R (o:=1) m4 rfl,AA rfl ⟨0,R (o:=5) m4 rfl,fun w5 e5=>?_⟩⟩⟩;have o5:=AD e5;have M5:=M4.tr (M4.X.mv0 (kr.al e5));have m5:=M5.L.kp;have nb:∀q,¬fp q w4.heap.size:=fun q hq=>by have:=(M4.X.C.lt q _ hq).2;omega
  refine⟨⟨R (o:=1) m5 rfl,trivial⟩,⟨R (o:=0) m5 rfl,trivial⟩,(JZ M5.X (xs:=[0]) (who:=cpu) (n:=1) o5 nb rfl (by simp) (by omega) (by simp) (fun x hx=>?_) (f0:=fun _=>0) unl_c).mono ?_⟩
  ·simp at hx;subst hx;exact⟨by show 0<9+S.nodes;omega,rfl⟩
  rintro _ w6 ⟨rfl,fp6,M56⟩;have M6:=M5.tr M56;have m6:=M6.L.kp;have X6:Ctx k {S with lh:=fun _=>0} fp6 FR w6:=M6.X.less hFG;have e0:({S with lh:=fun _=>0}:AL)=S:=by
   have h1:=E.lh
   cases S
   simp only at h1;subst h1;rfl
  rw [e0] at X6;refine⟨rfl,AA rfl ⟨th,R (o:=7) m6 rfl,AQ (H.1 (.inl hpin) w6 fp6 X6 (M6.L.less hFG)) fun e w' hN=>M6.out X hCG hFG (by omega) hN⟩⟩
 ·have M4:=M3.tr (M3.X.mv0 (kr.dr e4));have m4:=M4.L.kp;refine AA rfl ⟨_,R (o:=0) m4 rfl,AA rfl ⟨_,by have:=rt M4.X.C (j:=3) rfl;exact this,AA rfl ⟨cpu,R (o:=1) m4 rfl,?_⟩⟩⟩
  refine(IJ (N:=N+3) (Q:=Q) hCG M4.X (Kept.refl AB w4) (who:=cpu) (i:=8) (by omega) (by show 8<9+S.nodes;omega) (by show lk1 cpu 8=0;exact lk1_ne (by decide)) (fun x hx _=>by
   have hx:8<=x:=hx
   show lk1 cpu x≠_
   rw [lk1_ne (by omega)];omega) rfl fun W2 fp2 X2 k2 L2=>?_).mono ?_
  ·have og2:own W2 g (gc k cpu f p 0 th):=(og.kx m4 fun hn=>hn hg).kx k2 fun hn=>hn (.inl hg);have H2:=(H.later (M4.L.less hFG)).later (L2.less hFG);exact greserve_spec (N:=N) hC (fun x hx=>.inl (hFG x hx)) E ht X2 (.inl hg) hgF og2 (fun h1=>H2.1 (.inr h1)) (H2.2 hpin)
  ·rintro e w' ⟨v,rfl,hN⟩;obtain⟨v',hv,hN'⟩:=M4.out X hCG (fun _ h=>h) (nlr _) hN;exact⟨v',hv,hN'⟩
set_option maxHeartbeats 4000000 in
theorem evict_spec(hC:∀x,Q.C x->FR x)(E:EvR S cpu i p f j)(ht:isF th=true)(X:Ctx k S fp FR W)(H:EvK k N Q S i p f j th FR W fp) :
 Calls prog 118 #[ptr k,vi cpu,vi f,th] W (Nx (N+8) Q (Fo fp FR) W):=by
 have hsz:=X.C.BO;have hcp:=E.cp;have hto:=GY ht;refine Calls.ret (vc118 _ cpu f th W _ ?_);apply qI;rw [show Value.cells th=[th].toArray from EV hto];intro w1 e1 w2 e2 w3 e3 w4 e4;have B:=((((Bx.nil W).al e1).al e2).al e3).al e4;refine IS (N:=N+7) X B.k rfl fun W1 X1 k1 L1=>?_;have rr:=fun {b:Nat}{v:Value}{W':WD} (kk:Kept (fun x=>¬(FR x\/rng W w4 x)) W1 W') (hm:(b,v)∈_)=>B.rr (Kept.oo k1 kk) hm;have hFG:∀x,FR x->(FR x\/rng W w4 x):=fun x h=>.inl h;have hCG:∀x,Q.C x->(FR x\/rng W w4 x):=fun x h=>hFG x (hC x h);refine AM.mk 192 #[] _ rfl (by kernel_rfl) (Calls.ret (vc192 false (some ⟨W.heap.size,0,none⟩) (some ⟨w2.heap.size,0,none⟩) (some ⟨w3.heap.size,0,none⟩) (some ⟨w1.heap.size,0,none⟩) W1 _ ?_));have rt:∀{W':WD}{S':AL}{fp':Prt->Nat->Prop}{j:Nat}{v:Value},AJ W' k S' fp'->(IQ S')[j]? = some v->rd W' k (0+(94+j))=some v:=fun C hj=>C.rtW kr hj;apply qI;intro x1 d1;have M1:=X1.mv0 (kr.dr d1);have m1:=M1.L.kp;refine AA rfl ⟨_,rr m1 (b:=W.heap.size) (v:=ptr k) (by simp),AA rfl ⟨_,by have:=rt M1.X.C (j:=4) rfl;exact this,AA rfl ⟨f,rr m1 (b:=w2.heap.size) (v:=vi f) (by simp),(OM M1.X.C E.fn).mono ?_⟩⟩⟩;rintro _ x2 ⟨rfl,d2⟩;have M2:=M1.tr (M1.X.mv0 d2);have m2:=M2.L.kp;refine⟨_,_,_,rfl,?_⟩;rw [E.rof];refine AG rfl (AA rfl ⟨_,rr m2 (b:=W.heap.size) (v:=ptr k) (by simp),AA rfl ⟨cpu,rr m2 (b:=w1.heap.size) (v:=vi cpu) (by simp),AA rfl ⟨f,rr m2 (b:=w2.heap.size) (v:=vi f) (by simp),AA rfl ⟨th,rr m2 (b:=w3.heap.size) (v:=th) (by simp),AA (by show allF [th]=true;simpa [allF] using hto) fun x3 d3 x4 d4=>?_⟩⟩⟩⟩);have og:=AD d3;have k3:=kal d3;have M3:=M2.tr (M2.X.mv0 k3);have k4:=kdr d4;have M4:=M3.tr (M3.X.mv0 k4);have m4:=M4.L.kp;have og4:own x4 x2.heap.size (gc k cpu f p 0 th):=og.k k4;refine AA rfl ⟨_,rr m4 (b:=W.heap.size) (v:=ptr k) (by simp),AA rfl ⟨_,by have:=rt M4.X.C (j:=3) rfl;exact this,AA rfl ⟨cpu,rr m4 (b:=w1.heap.size) (v:=vi cpu) (by simp),0,by rw [og4.rd];rfl,?_⟩⟩⟩;have X2:=M2.X;refine(IJ (N:=N+5) (Q:=Q) hCG X2 (k3.tr k4) (who:=cpu) (i:=0) (by omega) (by omega) (by rw [E.lh]) (fun x _ _=>by rw [E.lh];show(0:Int)≠_;omega) rfl fun W2 fp2 X2' k2 L2=>?_).mono ?_
 ·have hgn:(fun x=>(FR x\/rng W w4 x)\/rng x2 x4 x) x2.heap.size:=.inr ⟨nlr _,og4.lt⟩;have og2:own W2 x2.heap.size (gc k cpu f p 0 th):=og4.kx k2 fun hn=>hn hgn;have hS:S.DX (upd S.lh 0 ((cpu:Int)+1))=S.DX (lk1 cpu):=by rw [E.lh];rfl
  rw [hS] at X2';have hgF:¬FR x2.heap.size:=fun hf=>by have:=X2.lt _ (hFG _ hf);omega
  exact glook_spec (N:=N) (FR:=FR) hC (fun x hx=>.inl (hFG x hx)) E hto X2' hgn hgF og2 (((H.later L1).later (M2.L.less hFG)).later (L2.less hFG))
 ·rintro e w' ⟨v,rfl,hN⟩;obtain⟨v',hv,hN'⟩:=M2.out X1 hCG (fun _ h=>h) (nlr _) hN;exact⟨v',hv,hN'⟩
end
def putM(of:List (Int×Value))(k:Int)(x:Value):List (Int×Value):=of.map fun p=>if p.1=k then(k,x) else p
theorem KA{of:List (Int×Value)}{k g:Int}{x:Value}:(putM of k x).lookup g=if g=k then(of.lookup g).map fun _=>x else of.lookup g:=by
 unfold putM
 induction of with
 | nil=>simp
 | cons p of ih=>
  obtain⟨p1,p2⟩:=p;rw [List.map_cons,List.lookup_cons];by_cases h:p1=k
  ·subst h;by_cases hg:g=p1
   ·subst hg;simp
   ·have e:(g==p1)=false:=by simpa using hg
    rw [if_neg hg] at ih;simp only [if_pos,if_neg hg,List.lookup_cons,e];exact ih
  ·rw [if_neg h];by_cases hg:g=p1
   ·subst hg;rw [if_neg h];simp [List.lookup_cons]
   ·have e:(g==p1)=false:=by simpa using hg
    simp only [List.lookup_cons,e];exact ih
def Rk(of:List (Int×Value))(f:Int)(n:Nat):Prop:=∃a t:Bool,of.lookup f=some (.agg #[.bool a,.bool t])/\n=if t then 2 else if a then 1 else 0
def Mu(ring:List Int)(of:List (Int×Value))(g:Int)(n:Nat):Prop:=∃i r,ring[i]? = some g/\Rk of g r/\n=i+ring.length*r
theorem FL.mu{ring:List Int}{of:List (Int×Value)}(ok:FL ring of){g:Int}(hg:g∈ring):∃n,Mu ring of g n/\n<3*ring.length:=by
 obtain⟨i,hi⟩:=List.mem_iff_getElem?.1 hg;have hi':=(D5.1 hi).1;have h1:=(ok.r g).2 hg
 cases hl:of.lookup g with
 | none=>rw [hl] at h1;cases h1
 | some v=>
  obtain⟨a,t,rfl⟩:=ok.v _ _ hl;refine⟨_,⟨i,_,hi,⟨a,t,hl,rfl⟩,rfl⟩,?_⟩
  cases t <;> cases a <;> simp <;> omega
theorem FL.turn{f:Int}{r:List Int}{of:List (Int×Value)}(ok:FL (f::r) of):FL (r++[f]) of:=
 ⟨ok.v,fun k=>by rw [ok.r k];simp [or_comm],by
  have:=ok.nd;rw [List.nodup_cons] at this;rw [List.nodup_append];exact⟨this.2,by simp,fun a ha b hb e=>by simp at hb;subst hb;exact this.1 (e▸ha)⟩⟩
theorem FL.put{ring:List Int}{of:List (Int×Value)}(ok:FL ring of)(f:Int)(a t:Bool):FL ring (putM of f (.agg #[.bool a,.bool t])):=
 ⟨fun k v h=>by
  rw [KA] at h;split at h
  ·cases hl:of.lookup k with
   | none=>rw [hl] at h;cases h
   | some x=>rw [hl] at h;cases h;exact⟨_,_,rfl⟩
  ·exact ok.v k v h,fun k=>by
   rw [KA];split
   ·rw [<- ok.r k];simp
   ·exact ok.r k,ok.nd⟩
theorem Mu.other{f g:Int}{r:List Int}{of of':List (Int×Value)}{n:Nat}(h:Mu (f::r) of g n)(hg:g≠f)(hl:of'.lookup g=of.lookup g):1<=n/\Mu (r++[f]) of' g (n-1):=by
 obtain⟨i,q,h1,⟨a,t,h2,h3⟩,rfl⟩:=h
 cases i with
 | zero=>simp at h1;exact absurd h1.symm hg
 | succ i=>
  have h1:r[i]? = some g:=by simpa using h1
  have hi:=(D5.1 h1).1;refine⟨by omega,i,q,?_,⟨a,t,by rw [hl];exact h2,h3⟩,by rw [lap];show i+1+(r.length+1)*q-1=i+(r.length+1)*q;omega⟩;rw [gal hi];exact h1
theorem Mu.own{f:Int}{r:List Int}{of:List (Int×Value)}{n:Nat}{a t:Bool}(hf:of.lookup f=some (.agg #[.bool a,.bool t]))(ha:(a||t)=true)(nd:(f::r).Nodup)(h:Mu (f::r) of f n):1<=n/\Mu (r++[f]) (putM of f (.agg #[.bool t,.bool false])) f (n-1):=by
 obtain⟨i,q,h1,⟨a',t',h2,h3⟩,rfl⟩:=h;rw [hf] at h2;simp at h2;obtain⟨rfl,rfl⟩:=h2;have hi0:i=0:=by
  cases i with
  | zero=>rfl
  | succ i=>
   have h1:r[i]? = some f:=by simpa using h1
   rw [List.nodup_cons] at nd;exact absurd (mog h1) nd.1
 subst hi0;have hq:1<=q:=by subst h3;cases t <;> cases a <;> simp at ha ⊢
 have hm:(f::r).length*q=(r.length+1)*(q-1)+(r.length+1):=by
  obtain⟨q,rfl⟩:∃p,q=p+1:=⟨q-1,by omega⟩;rw [List.length_cons,Nat.mul_succ,Nat.add_sub_cancel]
 refine⟨by rw [hm];omega,r.length,q-1,by rw [gar (nlr _),Nat.sub_self];rfl,⟨t,false,by rw [KA,if_pos rfl,hf];rfl,?_⟩,?_⟩
 ·subst h3;cases t <;> cases a <;> simp at ha ⊢
 ·rw [hm,lap]
  show 0+((r.length+1)*(q-1)+(r.length+1))-1=r.length+(r.length+1)*(q-1)
  omega
set_option maxHeartbeats 2000000 in
theorem cnext_spec{w:WD}{b:Nat}{ring:List Int}{of:List (Int×Value)}{H:NP}(h:AV ring of (ptr b) H w)(ok:FL ring of)(hl:ring.length<=1000) :
 Calls prog 245 #[ptr b] w fun e w'=>Kept H w w'/\∃ring' of',AV ring' of' (ptr b) (fun x=>H x\/rng w w' x) w'/\FL ring' of'/\ring'.length=ring.length/\(∀x,x∈ring'↔x∈ring)/\
  ((ring=[]/\e=.returned (.tuple #[vi 0,.bool false]))\/∃f,f∈ring/\e=.returned (.tuple #[vi f,.bool true])/\∀g n,Mu ring of g n->g=f\/∃n',n'<n/\Mu ring' of' g n'):=by
 refine Calls.ret (vc245 _ w _ ?_);unfold Q;refine⟨fun n b0 W N=>n=0/\b0=false/\Kept H w W/\∃ring' of',AV ring' of' (ptr b) (fun x=>H x\/rng w W x) W/\FL ring' of'/\ring'.length=ring.length/\(∀x,x∈ring'↔x∈ring)/\(∀g n,Mu ring of g n->∃n',n'<=n/\Mu ring' of' g n')/\(ring=[]\/∃g,Mu ring' of' g N),?_,?_⟩
 ·have A0:AV ring of (ptr b) (fun x=>H x\/rng w w x) w:=by
   have e:(fun x=>H x\/rng w w x)=H:=by
    funext x;exact propext ⟨fun e=>e.elim id fun e=>absurd e.1 (Nat.not_le.2 e.2),.inl⟩
   rw [e];exact h
  by_cases he:ring=[]
  ·exact⟨0,rfl,rfl,Kept.refl _ _,ring,of,A0,ok,rfl,fun _=>Iff.rfl,fun g n hm=>⟨n,nlr _,hm⟩,.inl he⟩
  ·obtain⟨g,hg⟩:=List.exists_mem_of_ne_nil _ he;obtain⟨n,hn,_⟩:=ok.mu hg;exact⟨n,rfl,rfl,Kept.refl _ _,ring,of,A0,ok,rfl,fun _=>Iff.rfl,fun g n hm=>⟨n,nlr _,hm⟩,.inr ⟨g,hn⟩⟩
 rintro _ _ w1 N ⟨rfl,rfl,K1,rg,of1,A,ok1,hlen,hmem,hmu,hN⟩;obtain⟨b',a,l,cp,m,hb',o,R,M,fb,fm,hown⟩:=A.ex;have:b'=b:=by cases hb';rfl
 subst this;have hbm:=J6 M o;have r1:∀{W:WD}{x:Value},own W b' [x,.map (some m)]->rd W b' (0+1)=some (.map (some m)):=fun o=>by rw [o.rd];rfl
 have r0:∀{W:WD}{x:Value},own W b' [x,.map (some m)]->rd W b' 0=some x:=fun o=>by rw [o.rd];rfl
 have hlen2:=R.len;have hb0:(fun x=>H x\/rng w w1 x) b':=fb;refine Calls.ret (vc200 _ w1 _ ?_);unfold Q;refine AF (fun _=>rfl) ⟨_,fun _=>r1 o,AG rfl (AA rfl ⟨a,l,cp,r0 o,_,rfl,AE (fun hc=>?_) (fun hc=>?_)⟩)⟩
 rotate_left
 ·have h0:rg=[]:=List.length_eq_zero_iff.1 (by simp at hc;omega);have h1:ring=[]:=List.length_eq_zero_iff.1 (by rw [<- hlen,h0];rfl);exact⟨K1,rg,of1,A,ok1,hlen,hmem,.inl ⟨h1,rfl⟩⟩
 obtain⟨f,r,rfl⟩:∃f r,rg=f::r:=by
  cases rg with
  | nil=>simp at hlen2 hc;omega
  | cons f r=>exact⟨f,r,rfl⟩
 have hne:ring≠[]:=fun e=>by rw [e] at hlen;cases hlen
 obtain⟨hp,hr⟩:=R.rd (i:=0) (x:=f) rfl;have hl1:l=r.length+1:=by rw [hlen2];rfl
 have hlc:l<=cp:=by
  rcases R.ex with⟨_,h0,_⟩|⟨_,_,_,_,_,h3,_⟩
  ·omega
  ·exact h3
 refine AA rfl ⟨_,_,_,r0 o,AA hp (Wi ⟨f,by simpa using hr,AA rfl ⟨a,l,cp,r0 o,AA BI fun w2 e2=>?_⟩⟩)⟩;have x2:=AD e2;have k2:=kal e2;obtain⟨a',c',w3,happ,R3,k3,hb3⟩:=(R.tail.k k2).app1 x2 (by simp at hlen;omega);have eob:∀x,(Value.slice (BJ a cp 1 1) (l-1) (cp-1)).ownBlock=some x->(Value.slice a l cp).ownBlock=some x:=fun x hx=>by
  cases a with
  | none=>unfold BJ at hx;simp [Value.ownBlock] at hx
  | some A=>
   obtain⟨A1,A2,A3⟩:=A;have:(BJ (some ⟨A1,A2,A3⟩) cp 1 1)=some ⟨A1,A2,A3⟩\/∃y z,BJ (some ⟨A1,A2,A3⟩) cp 1 1=some ⟨A1,y,z⟩:=by
    unfold BJ;split
    ·exact .inl rfl
    ·refine .inr ?_
     show ∃y z,some (Addr.add ⟨A1,A2,A3⟩ _)=_
     unfold Addr.add;split <;> exact⟨_,_,rfl⟩
   rcases this with e|⟨y,z,e⟩ <;> (rw [e] at hx;exact hx)
 have K13:Kept (fun x=>H x\/rng w w1 x) w1 w3:=(k2.mono fun _ _ e=>e.elim).trans k3 fun x _ e=>(hown x (eob x e)).1;have hs3:=k2.sz;have o3:own w3 b' [.slice a l cp,.map (some m)]:=(o.k k2).kx k3 fun e=>(hown b' (eob b' e)).2 rfl;have M3:BE w3 m of1:=(M.k k2).kx k3 fun e=>FI M R (eob _ e) rfl;have hn3:∀x,(Value.slice a' (l-1+1) c').ownBlock=some x->((H x\/rng w w1 x)\/rng w1 w3 x)/\x≠b':=fun x hx=>by
  rcases hb3 with hb3|hb3
  ·rw [hb3] at hx;exact⟨.inl (hown x (eob x hx)).1,(hown x (eob x hx)).2⟩
  ·have h1:=hb3 x hx;have h2:=R3.lt hx;have:=o.lt;exact⟨.inr ⟨by omega,h2⟩,by omega⟩
 refine⟨a',_,c',w3,happ,AA rfl ⟨o3.wr (by show 0<2;decide),fun w4 e4=>?_⟩⟩;have o4:own w4 b' [.slice a' (l-1+1) c',.map (some m)]:=o3.s1 e4;have k4:Kept (·=b') w3 w4:=kr.s1 e4 (.inl rfl);have R4:=R3.kx k4 fun x e hx=>(hn3 x hx).2 e;have M4:=M3.kx k4 fun e=>hbm e.symm;have hs4:w4.heap.size=w3.heap.size:=by rw [e4];simp
 have hfl:=(ok1.r f).2 mcs;obtain⟨ma,mt,hfm⟩:∃a t:Bool,of1.lookup f=some (.agg #[.bool a,.bool t]):=by
  cases hl:of1.lookup f with
  | none=>rw [hl] at hfl;cases hfl
  | some v=>obtain⟨a,t,rfl⟩:=ok1.v _ _ hl;exact⟨a,t,rfl⟩
 have hlk:=look1 (P:=prog) (mt:=289) (vt:=311) (kt:=3) underlying289 underlying3 M4 f (Tryz.zeroValue311 w4);rw [hfm] at hlk;refine AA rfl ⟨_,r1 o4,ma,mt,hlk,fun w5 e5=>?_⟩;have q5:=AD e5;have k5:=kal e5;refine⟨wr2 q5,fun w6 e6=>?_⟩;obtain⟨q6,k6'⟩:=IY q5 e6;have k6:Kept AB w4 w6:=BD k5 k6' fun x e=>by omega
 have K16:Kept (fun x=>H x\/rng w w1 x) w1 w6:=(K13.trans k4 fun x _ e=>e▸fb).trans k6 fun _ _ e=>e.elim;have s1:=K1.sz;have s6:=K16.sz;have s46:=k6.sz;have K6:Kept H w w6:=K1.trans K16 fun x hx e=>e.elim id fun e=>by have:=e.1;omega
 have A6:AV (r++[f]) of1 (ptr b') (fun x=>H x\/rng w w6 x) w6:=by
  refine⟨⟨b',a',l-1+1,c',m,rfl,o4.k k6,R4.k k6,M4.k k6,?_,?_,fun x hx=>⟨?_,(hn3 x hx).2⟩⟩,fun x hx=>?_⟩
  ·exact fb.imp id fun e=>⟨e.1,by have:=e.2;omega⟩
  ·exact fm.imp id fun e=>⟨e.1,by have:=e.2;omega⟩
  ·rcases (hn3 x hx).1 with h1|h1
   ·exact h1.imp id fun e=>⟨e.1,by have:=e.2;omega⟩
   ·exact .inr ⟨by have:=h1.1;omega,by have:=h1.2;omega⟩
  ·rcases hx with hx|hx
   ·exact nll (h.lt x hx) K6.sz
   ·exact hx.2
 have hmem':∀x,x∈r++[f]↔x∈ring:=fun x=>by rw [<- hmem x];simp [or_comm]
 have hlen':(r++[f]).length=ring.length:=by rw [<- hlen];simp
 refine⟨ma,mt,⟨by rw [q6.rd];rfl,by rw [q6.rd];rfl⟩,AE (fun hc2=>?_) (fun hc2=>fun w7 e7=>?_)⟩
 ·refine⟨K6,r++[f],of1,A6,ok1.turn,hlen',hmem',.inr ⟨f,(hmem f).1 mcs,rfl,fun g n hg=>?_⟩⟩;by_cases e:g=f
  ·exact .inl e
  ·obtain⟨n',hn',hm'⟩:=hmu g n hg;obtain⟨h1,h2⟩:=hm'.other e rfl;exact .inr ⟨n'-1,by omega,h2⟩
 ·have k7:=kdr e7;have A7:=AV.stb.kx _ _ _ _ AB A6 k7 fun _ e=>e.elim;obtain⟨b2,a2,l2,cp2,m2,hb2,o7,R7,M7,fb7,fm7,hown7⟩:=A7.ex;have:b2=b':=by cases hb2;rfl
  subst this;have hm2:m2=m:=by
   have h1:=(o4.k k6).k k7;have h2:=r1 h1;have h3:rd w7 b2 (0+1)=some (.map (some m2)):=by rw [o7.rd];rfl
   rw [h3] at h2
   cases h2;rfl
  subst hm2;obtain⟨w8,hu,M8,k8⟩:=upd_old underlying289 underlying3 M7 f (.agg #[.bool mt,.bool false]) hfl;have hbm7:=J6 M7 o7;have hor:(ma||mt)=true:=by
   cases ma <;> cases mt <;> simp at hc2 ⊢
  have K8:Kept H w w8:=(K6.trans k7 fun _ _ e=>e.elim).trans k8 fun x hx e=>by
   subst e;exact fm.elim id fun e=>by have:=e.1;omega
  have s7:=k7.sz;have s8:=k8.sz;refine AA rfl ⟨_,r1 o7,mt,by rw [(q6.k k7).rd];rfl,w8,hu,?_⟩;have A8:AV (r++[f]) (putM of1 f (.agg #[.bool mt,.bool false])) (ptr b2) (fun x=>H x\/rng w w8 x) w8:=by
   have up:∀x,(H x\/rng w w6 x)->H x\/rng w w8 x:=fun x hx=>hx.imp id fun e=>⟨e.1,by have:=e.2;omega⟩;refine⟨⟨b2,a2,l2,cp2,m2,rfl,o7.kx k8 hbm7,R7.kx k8 fun x e hx=>FI M7 R7 hx e,M8,up _ fb7,up _ fm7,fun x hx=>⟨up _ (hown7 x hx).1,(hown7 x hx).2⟩⟩,fun x hx=>?_⟩;rcases hx with hx|hx
   ·exact nll (h.lt x hx) K8.sz
   ·exact hx.2
  obtain⟨g,hg⟩:∃g,Mu (f::r) of1 g N:=hN.resolve_left hne;have step:∀g n,Mu (f::r) of1 g n->1<=n/\Mu (r++[f]) (putM of1 f (.agg #[.bool mt,.bool false])) g (n-1):=fun g n hg=>by
   by_cases e:g=f
   ·subst e;exact hg.own hfm hor ok1.nd
   ·exact hg.other e (by rw [KA,if_neg e])
  obtain⟨n1,n2⟩:=step g N hg;refine⟨N-1,by omega,rfl,rfl,K8,r++[f],_,A8,ok1.turn.put f mt false,hlen',hmem',fun g n hg=>?_,.inr ⟨g,n2⟩⟩;obtain⟨n',hn',hm'⟩:=hmu g n hg;exact⟨n'-1,by omega,(step g n' hm').2⟩
theorem clen_spec{w:WD}{u:Value}{ring:List Int}{of:List (Int×Value)}{H:NP}(h:AV ring of u H w):Calls prog 200 #[u] w fun e w'=>e=.returned (vi (ring.length:Nat))/\w'=w:=by
 obtain⟨b',a,l,cp,m,rfl,o,R,M,fb,fm,hown⟩:=h.ex;refine Calls.ret (vc200 _ w _ ?_);unfold Q;refine AF (fun _=>rfl) ⟨_,fun _=>by show rd w b' (0+1)=_;rw [o.rd];rfl,AG rfl (AA rfl ⟨a,l,cp,by show rd w b' 0=_;rw [o.rd];rfl,by rw [R.len],rfl⟩)⟩
section
variable {w:WD}{k:Nat}{S:AL}{fp:Prt->Nat->Prop}
theorem core_clkAt(h:AJ w k S fp){i:Nat}(hi:i<S.nodes):∃(g cp:Nat) (u:Value) (H:NP),S.vck=.slice (some ⟨g,0,none⟩) S.nodes cp/\rd w g i=some u/\AV (S.ring i) (S.cof i) u H w:=by
 have R:BG (fun i=>AV (S.ring i) (S.cof i)) S.nodes S.vck (fp .clocks) w:=h.at' .clocks;obtain⟨g,cp,u,H,hv,hr,hA,_,_⟩:=R.one (B:=fun i=>AV (S.ring i) (S.cof i)) (w':=w) (fun _ _=>AV.stb) hi fun _ _=>rfl;exact⟨g,cp,u,H,hv,hr,hA⟩
def NextR(S:AL)(i:Nat)(ring':List Int)(of':List (Int×Value))(f:Int):Prop:=
 FL ring' of'/\ring'.length=(S.ring i).length/\(∀x,x∈ring'↔x∈S.ring i)/\f∈S.ring i/\∀g n,Mu (S.ring i) (S.cof i) g n->g=f\/∃n',n'<n/\Mu ring' of' g n'
theorem core_next(h:AJ w k S fp){i:Nat}(hi:i<S.nodes)(ok:FL (S.ring i) (S.cof i))(hl:(S.ring i).length<=1000)(hne:S.ring i≠[]){g cp:Nat}{u:Value}(hv:S.vck=.slice (some ⟨g,0,none⟩) S.nodes cp)(hu:rd w g i=some u) :
 Calls prog 245 #[u] w fun e w'=>∃ring' of' f,e=.returned (.tuple #[vi f,.bool true])/\NextR S i ring' of' f/\Step w w' k (S.GR i ring' of') fp:=by
 have R:BG (fun i=>AV (S.ring i) (S.cof i)) S.nodes S.vck (fp .clocks) w:=h.at' .clocks;obtain⟨g2,cp2,u2,H2,hv2,hr2,hA2,hH2,hput⟩:=R.any (fun _ _=>AV.stb) hi;have eg:g2=g:=by rw [hv] at hv2;cases hv2;rfl
 subst eg;have eu:u2=u:=by rw [hu] at hr2;exact(Option.some.inj hr2).symm
 subst eu;obtain⟨cb,_,_,_,_,rfl,_⟩:=hA2.ex;refine(cnext_spec hA2 ok hl).mono ?_;rintro e w' ⟨kk,ring',of',A',ok',h1,h2,⟨h3,_⟩|⟨f,h3,rfl,h4⟩⟩
 ·exact absurd h3 hne
 exact⟨ring',of',f,rfl,⟨ok',h1,h2,h3,h4⟩,h.FD .clocks kk (fun x hx=>(hH2 x hx).1) rfl (fun p F w hp hq=>by cases p <;> first|exact hq|exact absurd rfl hp)
  (hput (fun t=>AV (upd S.ring i ring' t) (upd S.cof i of' t)) (fun t ht=>by rw [AH _ _ ht,AH _ _ ht]) w' kk (by rw [upd_same,upd_same];exact A'))⟩
end
section
variable {w:WD}{k:Nat}{S:AL}{fp:Prt->Nat->Prop}{rt lf cnt:Nat}{pg:Nat->Option Nat}
end
theorem del_mem{xs:List Int}{j:Nat}{v x:Int}(nd:xs.Nodup)(h:xs[j]? = some v):x∈del xs j↔x∈xs/\x≠v:=by
 have hj:=(D5.1 h).1;have e:xs=xs.take j++v::xs.drop (j+1):=by
  conv=>lhs;rw [<- List.take_append_drop j xs]
  rw [List.drop_eq_getElem_cons hj,(D5.1 h).2]
 have nd2:=nd;rw [e,List.nodup_append] at nd2;obtain⟨_,n2,n3⟩:=nd2;have n4:=(List.nodup_cons.1 n2).1;have hv:v∉xs.take j:=fun hh=>n3 v hh v (mcs) rfl;unfold del;rw [List.mem_append];constructor
 ·rintro (hx|hx)
  ·exact⟨List.mem_of_mem_take hx,fun e=>hv (e▸hx)⟩
  ·exact⟨List.mem_of_mem_drop hx,fun e=>n4 (e▸hx)⟩
 ·rintro ⟨hx,hne⟩;rw [e,List.mem_append,List.mem_cons] at hx;rcases hx with hx|rfl|hx
  ·exact .inl hx
  ·exact absurd rfl hne
  ·exact .inr hx
theorem del_nd{xs:List Int}{j:Nat}(nd:xs.Nodup):(del xs j).Nodup:=by
 have:(del xs j).Sublist xs:=by
  unfold del
  conv=>rhs;rw [<- List.take_append_drop j xs]
  exact(List.Sublist.refl _).append (List.drop_sublist_drop_left xs (by omega))
 exact nd.sublist this
theorem PC{M:List (Int×Value)}{k b:Int}:(M.filter fun p=>p.1 != k).lookup b=if b=k then none else M.lookup b:=by
 induction M with
 | nil=>simp
 | cons p M ih=>
  obtain⟨a,v⟩:=p;by_cases h:a=k
  ·subst h;have e:((a,v)::M).filter (fun p=>p.1 != a)=M.filter fun p=>p.1 != a:=by simp
   rw [e,ih];by_cases hb:b=a
   ·rw [if_pos hb,if_pos hb]
   ·rw [if_neg hb,if_neg hb,List.lookup_cons];have:(b==a)=false:=by simpa using hb
    rw [this]
  ·have e:((a,v)::M).filter (fun p=>p.1 != k)=(a,v)::M.filter fun p=>p.1 != k:=by simp [h]
   rw [e,List.lookup_cons,List.lookup_cons,ih];by_cases hb:b=a
   ·subst hb;simp [h]
   ·have:(b==a)=false:=by simpa using hb
    rw [this]
theorem MZ{M:List ((Int×Int)×Value)}{k b:Int×Int}:(M.filter fun p=>p.1 != k).lookup b=if b=k then none else M.lookup b:=by
 induction M with
 | nil=>simp
 | cons p M ih=>
  obtain⟨a,v⟩:=p;by_cases h:a=k
  ·subst h;have e:((a,v)::M).filter (fun p=>p.1 != a)=M.filter fun p=>p.1 != a:=by simp
   rw [e,ih];by_cases hb:b=a
   ·rw [if_pos hb,if_pos hb]
   ·rw [if_neg hb,if_neg hb,List.lookup_cons];have:(b==a)=false:=by simpa using hb
    rw [this]
  ·have e:((a,v)::M).filter (fun p=>p.1 != k)=(a,v)::M.filter fun p=>p.1 != k:=by simp [h]
   rw [e,List.lookup_cons,List.lookup_cons,ih];by_cases hb:b=a
   ·subst hb;simp [h]
   ·have:(b==a)=false:=by simpa using hb
    rw [this]
inductive Pg where
 | no|fr (f:Nat)|sl (s:Nat)
deriving DecidableEq
def Pg.KH:Pg->Bool
 | .fr _=>true
 | _=>false
def EO(rt lf:Nat)(pg:Nat->Pg)(A:List Nat)(hd:Option Nat)(f:Nat):Prop:=f=rt\/f=lf\/(∃j,pg j=.fr f)\/f∈A\/hd=some f
def wordP:Pg->Int
 | .no=>0
 | .fr f=>1+4*(f:Int)
 | .sl s=>2+4*(s:Int)
def DO(j n:Nat):Int:=(((j+n)%256:Nat):Int)
structure QSt(S:AL)(rt lf:Nat)(pg:Nat->Pg)(pin:Nat->Bool)(A:List Nat)(hc:Nat)(hd:Option Nat)(cnt tot:Nat):Prop where
 by':ByR S.by'
 rl:rt<S.n/\lf<S.n/\rt≠lf
 sp:∃b,S.sp=fun i=>if i=1 then some b else none
 root:S.root 1=rt
 w0:wdF S.by' S.n rt 0=1+4*(lf:Int)
 wz:∀j:Int,1<=j->j<=31->wdF S.by' S.n rt j=0
 wl:∀j:Nat,j<32->wdF S.by' S.n lf j=wordP (pg j)
 pgo:∀j f,pg j=.fr f->j<32/\f<S.n/\f≠rt/\f≠lf/\f∉A/\hd≠some f
 pgs:∀j s,pg j=.sl s->j<32/\s<S.AP/\S.sof s=(1,(j:Int))
 inj:∀j j' f,pg j=.fr f->pg j'=.fr f->j=j'
 Ao:∀f,f∈A->f<S.n/\f≠rt/\f≠lf/\hd≠some f
 And:A.Nodup
 hdr:∀f,hd=some f->f<S.n/\f≠rt/\f≠lf
 rof1:∀j f,pg j=.fr f->S.rof f=(1,(j:Int))
 rof2:∀f,f<S.n->(S.rof f).1≠0->∃j,pg j=.fr f
 rat1:∀kk v,S.rat.lookup kk=some v->∃j f,kk=(1,((j:Nat):Int))/\pg j=.fr f/\v=vi f
 rat2:∀j f,pg j=.fr f->(S.rat.lookup (1,(j:Int))).isSome=true
 ck:∀i,i<S.nodes->FL (S.ring i) (S.cof i)
 ckm:∀i,i<S.nodes->∀x:Int,x∈S.ring i↔∃j f,pg j=.fr f/\x=(f:Nat)/\AN S.c i<=f/\(f:Int)<AN S.c (i+1)
 mk1:S.mks rt=CC/\S.mks lf=CC
 mkA:∀f,f∈A->S.mks f=CC
 mk2:∀j f,pg j=.fr f->S.mks f=pageM j
 mkh:∀f,hd=some f->S.mks f=NI 4
 mk3:∀f,f<S.n->¬EO rt lf pg A hd f->S.mks f=CM
 tk1:∀i,i<S.nodes->∀y∈S.L i,y.g=1->y.o=0/\EO rt lf pg A hd (gfr S i y)
 tk2:∀f,EO rt lf pg A hd f->∃i y,i<S.nodes/\y∈S.L i/\y.g=1/\gfr S i y=f
 so:∀s,s<S.AP->S.sof s=(0,0)\/∃j,pg j=.sl s
 byf:∀j f,pg j=.fr f->∀n,n<256->S.by' (f*256+n)=DO j n
 bys:∀j s,pg j=.sl s->∀n,n<256->S.dv (s*256+n)=DO j n
 pinE:∀j,j<32->(S.pins 1).testBit j=pin j
 pinF:∀j,pin j=true->∃f,pg j=.fr f
 cp:((List.range 32).filter fun j=>(pg j).KH).length=cnt
 cc:DT S.nodes (fun i=>(S.ring i).length)=cnt
 cu:(owns S.AP S.sof).length+cnt=tot
 cf:DT S.nodes (fun i=>AX (S.L i))+cnt+2+A.length+(if hd.isSome then 1 else 0)=S.n
 held:S.held=upd (fun _=>[]) hc (hd.toList.map fun f:Nat=>(f:Int))
 fli:S.fli=List.replicate S.AO (-1)
 lh:S.lh=fun _=>0
section
variable {w:WD}{k:Nat}{S:AL}{fp:Prt->Nat->Prop}{rt lf hc cnt tot:Nat}{pg:Nat->Pg}{pin:Nat->Bool}{A:List Nat}{hd:Option Nat}
theorem QSt.cnt32(L:QSt S rt lf pg pin A hc hd cnt tot):cnt<=32:=by
 rw [<- L.cp];exact Nat.le_trans (List.length_filter_le _ _) (by simp)
theorem sumN_le{n t:Nat}{f:Nat->Nat}(ht:t<n):f t<=DT n f:=by
 induction n with
 | zero=>omega
 | succ n ih=>
  rw [D7];by_cases e:t=n
  ·subst e;omega
  ·have:=ih (by omega);omega
theorem QSt.O5(L:QSt S rt lf pg pin A hc hd cnt tot){i:Nat}(hi:i<S.nodes):(S.ring i).length<=32:=by
 have h1:=sumN_le (f:=fun i=>(S.ring i).length) hi;have h2:=L.cc;have:=L.cnt32;omega
theorem QSt.held1(L:QSt S rt lf pg pin A hc hd cnt tot):∀i,i<S.AO->(S.held i).length<=100000:=fun i _=>by
 rw [L.held];by_cases e:i=hc
 ·subst e;rw [upd_same];cases hd <;> simp
 ·rw [AH _ _ e];simp
theorem QSt.sp1(L:QSt S rt lf pg pin A hc hd cnt tot):∃b,S.sp 1=some b:=by
 obtain⟨b,hb⟩:=L.sp;exact⟨b,by rw [hb];rfl⟩
theorem QSt.turn(L:QSt S rt lf pg pin A hc hd cnt tot){i:Nat}(hi:i<S.nodes){r:List Int}{o:List (Int×Value)}{f:Int}(R:NextR S i r o f):QSt (S.GR i r o) rt lf pg pin A hc hd cnt tot:=by
 obtain⟨r1,r2,r3,_⟩:=R;exact {L with
  ck:=fun t ht=>by
   show FL (upd S.ring i r t) (upd S.cof i o t)
   by_cases e:t=i
   ·subst e;rw [upd_same,upd_same];exact r1
   ·rw [AH _ _ e,AH _ _ e];exact L.ck t ht
  ckm:=fun t ht x=>by
   show x∈upd S.ring i r t↔_
   by_cases e:t=i
   ·subst e;rw [upd_same,r3];exact L.ckm t ht x
   ·rw [AH _ _ e];exact L.ckm t ht x
  cc:=by
   have e:∀t,t<S.nodes->(upd S.ring i r t).length=(S.ring t).length:=fun t _=>by
    by_cases e:t=i
    ·subst e;rw [upd_same,r2]
    ·rw [AH _ _ e]
   show DT S.nodes (fun t=>(upd S.ring i r t).length)=cnt
   rw [sumN_ext e];exact L.cc}
theorem QSt.lfE0(L:QSt S rt lf pg pin A hc hd cnt tot)(h:AJ w k S fp){page:Int}(hp:0<=page/\page<32):lfE S.by' S.n (S.root 1) page=0/\lfN S.by' S.n (S.root 1) page=lf:=by
 have hn:=h.n4;have hl:=L.rl;have ht:Int.tdiv page 32=0:=by rw [Int.tdiv_eq_ediv_of_nonneg hp.1];omega
 have hw:wdE S.n (rt:Int) 0=0:=DD;have he:enE (1+4*(lf:Int))=0:=by unfold enE;rw [if_neg (by omega)]
 have hE:rdE S.by' S.n (rt:Int) 0=0:=by unfold rdE;rw [if_neg (by omega),L.w0,he]
 have hK:rdK S.by' S.n (rt:Int) 0=1:=by unfold rdK;rw [if_pos hE,L.w0];omega
 have hN:rdN S.by' S.n (rt:Int) 0=lf:=by unfold rdN;rw [if_pos hE,L.w0];omega
 have h0:lfE S.by' S.n (S.root 1) page=0:=by
  unfold lfE;rw [L.root,ht,if_neg (by omega),hE,if_neg (by omega),hK,if_neg (by omega),if_pos rfl]
 refine⟨h0,?_⟩;unfold lfN;rw [if_pos h0,L.root,ht,hN]
def kindP:Pg->Int
 | .no=>0
 | .fr _=>1
 | .sl _=>2
def numP:Pg->Int
 | .no=>0
 | .fr f=>f
 | .sl s=>s
theorem QSt.numR(L:QSt S rt lf pg pin A hc hd cnt tot)(h:AJ w k S fp)(j:Nat):0<=numP (pg j)/\numP (pg j)<=1024:=by
 have hn:=h.n4;have hs:=h.BO
 cases e:pg j with
 | no=>exact⟨Int.le_refl _,by decide⟩
 | fr f=>have:=(L.pgo j f e).2.1;show 0<=(f:Int)/\(f:Int)<=1024;omega
 | sl s=>have:=(L.pgs j s e).2.1;show 0<=(s:Int)/\(s:Int)<=1024;omega
theorem QSt.get(L:QSt S rt lf pg pin A hc hd cnt tot)(h:AJ w k S fp){j:Nat}(hj:j<32):gtE S.by' S.n (S.root 1) (j:Int)=0/\gtK S.by' S.n (S.root 1) (j:Int)=kindP (pg j)/\gtN S.by' S.n (S.root 1) (j:Int)=numP (pg j):=by
 have hn:=h.n4;have hl:=L.rl;obtain⟨h0,h1⟩:=L.lfE0 h (page:=j) (by omega);have ht:Int.tmod (j:Int) 32=j:=by rw [Int.tmod_eq_emod_of_nonneg (by omega)];omega
 have hw:wdE S.n (lf:Int) (j:Int)=0:=DD;have hv:=L.wl j hj;have hr:=L.numR h j;have hkn:wordP (pg j)=kindP (pg j)+4*numP (pg j)/\0<=kindP (pg j)/\kindP (pg j)<=2/\(kindP (pg j)=0->numP (pg j)=0):=by
  cases pg j with
  | no=>exact⟨rfl,by decide,by decide,fun _=>rfl⟩
  | fr f=>exact⟨rfl,(by decide:(0:Int)<=1),(by decide:(1:Int)<=2),fun h=>absurd (show(1:Int)=0 from h) (by decide)⟩
  | sl s=>exact⟨rfl,(by decide:(0:Int)<=2),(by decide:(2:Int)<=2),fun h=>absurd (show(2:Int)=0 from h) (by decide)⟩
 rw [hkn.1] at hv;generalize kindP (pg j)=kd at *;generalize numP (pg j)=nm at *;have he:enE (kd+4*nm)=0:=by
  unfold enE;rw [if_neg];omega
 have hE:rdE S.by' S.n (lf:Int) (j:Int)=0:=by unfold rdE;rw [if_neg (by omega),hv,he]
 unfold gtE gtK gtN;rw [h0,h1,ht,if_neg (by omega),if_neg (by omega),if_pos rfl,if_pos rfl];unfold rdK rdN;rw [hE,hv,if_pos rfl,if_pos rfl];refine⟨rfl,?_,?_⟩
 ·show(kd+4*nm)%4=kd;omega
 ·show(kd+4*nm)/4=nm;omega
theorem QSt.inTk(L:QSt S rt lf pg pin A hc hd cnt tot)(h:AJ w k S fp){f i:Nat}(hu:EO rt lf pg A hd f)(hi:i<S.nodes)(h1:AN S.c i<=f)(h2:(f:Int)<AN S.c (i+1)):((f:Int)-AN S.c i,(0:Int))∈tk (S.L i):=by
 obtain⟨j,y,hj,hy,hyg,he⟩:=L.tk2 f hu;have hyo:=(L.tk1 j hj y hy hyg).1;have hyt:=BC (h.HF hj) hy;rw [hyo] at hyt;have hfj:=h.fst hj;unfold gfr at he;have:j=i:=CH h.my (f:=(f:Int)) (by unfold AL.nodes at hj;exact hj) (by unfold AL.nodes at hi;exact hi) (by omega) (by omega) h1 h2;subst this;have hyp:((y.p:Nat):Int)=(f:Int)-AN S.c j:=by omega
 exact List.mem_map.2 ⟨y,List.mem_filter.2 ⟨hy,by simpa using hyg⟩,by rw [hyp,hyo];rfl⟩
theorem QSt.evR(L:QSt S rt lf pg pin A hc hd cnt tot)(h:AJ w k S fp){cpu i:Nat}(hcp:cpu<S.AO)(hi:i<S.nodes){x:Int}(hx:x∈S.ring i):∃p f j,x=(f:Nat)/\pg p=.fr f/\EvR S cpu i p f j:=by
 obtain⟨p,f,hp,rfl,h1,h2⟩:=(L.ckm i hi x).1 hx;obtain⟨j,hj⟩:=first_of hx;obtain⟨a1,a2,a3,a4,a5,a6⟩:=L.pgo p f hp;obtain⟨g1,g2,g3⟩:=L.get h a1;rw [hp] at g2 g3;exact⟨p,f,j,rfl,hp,⟨L.lh,L.fli,hcp,hi,h1,h2,a2,a1,L.sp1,L.by',L.rof1 p f hp,g1,g2,g3,L.ck i hi,hj,by have:=L.O5 hi;omega,L.inTk h (.inr (.inr (.inl ⟨p,hp⟩))) hi h1 h2⟩⟩
end
theorem QA{by':Nat->Int}{n f lf m:Nat}{p x:Int}(hp:0<=p/\p<=31)(hf:f≠lf)(hm:m<256):wdS by' n lf p x (f*256+m)=by' (f*256+m):=by
 unfold wdS;split
 ·refine setB_out ?_;unfold wdO;have:f<lf\/lf<f:=by omega
  omega
 ·rfl
theorem wdF_blank{by':Nat->Int}{n f:Nat}{a b:Int}(h:a≠f):wdF (D4 by' (f*256) 256) n a b=wdF by' n a b:=by
 unfold wdF;by_cases h1:wdE n a b=0
 ·obtain⟨g1,g2,g3,g4⟩:=wdE_ok h1;rw [if_pos h1,if_pos h1];refine IC fun j hj=>?_;unfold D4 wdO;rw [if_neg];have:a.toNat<f\/f<a.toNat:=by omega
  omega
 ·rw [if_neg h1,if_neg h1]
theorem stS_of{by'':Nat->Int}{n rt lf p:Nat}{kd N:Int}(hn:n<=1024)(hr:rt<n)(hl:lf<n)(h0:wdF by'' n rt 0=1+4*(lf:Int))(hp:p<32)(hk:(kd=0/\N=0)\/((kd=1\/kd=2)/\0<=N/\N<=65535)):stS by'' n rt p kd N=wdS by'' n lf p (kd+4*N):=by
 have ht:Int.tdiv (p:Int) 32=0:=by rw [Int.tdiv_eq_ediv_of_nonneg (by omega)];omega
 have htm:Int.tmod (p:Int) 32=p:=by rw [Int.tmod_eq_emod_of_nonneg (by omega)];omega
 have hw:wdE n (rt:Int) 0=0:=DD;have he:enE (1+4*(lf:Int))=0:=by unfold enE;rw [if_neg (by omega)]
 have hE:rdE by'' n (rt:Int) 0=0:=by unfold rdE;rw [if_neg (by omega),h0,he]
 have hK:rdK by'' n (rt:Int) 0=1:=by unfold rdK;rw [if_pos hE,h0];omega
 have hN:rdN by'' n (rt:Int) 0=lf:=by unfold rdN;rw [if_pos hE,h0];omega
 have l0:lfE by'' n rt p=0:=by
  unfold lfE;rw [ht,if_neg (by omega),hE,if_neg (by omega),hK,if_neg (by omega),if_pos rfl]
 have l1:lfN by'' n rt p=lf:=by
  unfold lfN;rw [if_pos l0,ht,hN]
 have hew:ewE kd N=0:=by
  unfold ewE;rcases hk with⟨rfl,rfl⟩|⟨rfl|rfl,h⟩
  ·rfl
  ·rw [if_neg (by decide),if_pos (.inl rfl),if_pos h]
  ·rw [if_neg (by decide),if_pos (.inr (.inl rfl)),if_pos h]
 have hewF:ewF kd N=kd+4*N:=by unfold ewF;rw [if_pos hew]
 have hwl:wdE n (lf:Int) (p:Int)=0:=DD;have:stE by'' n rt p kd N=0:=by unfold stE;rw [if_neg (by omega),l0,if_neg (by omega),l1,htm,hwl]
 unfold stS;rw [if_pos this,l1,htm,hewF]
theorem OL{q:Nat->Bool}{q':Nat->Bool}{p:Nat}(hq:∀j,j≠p->q' j=q j):∀{n:Nat},p<n->((List.range n).filter q').length+(if q p then 1 else 0)=((List.range n).filter q).length+(if q' p then 1 else 0)
 | 0,h=>absurd h (nlz _)
 | n+1,h=>by
  rw [List.range_succ,List.filter_append,List.filter_append,lap,lap];by_cases e:p=n
  ·subst e;have:((List.range p).filter q')=((List.range p).filter q):=List.filter_congr fun x hx=>hq x (by have:=List.mem_range.1 hx;omega);rw [this]
   cases hq1:q p <;> cases hq2:q' p <;> simp [hq1,hq2]
  ·have ih:=OL hq (n:=n) (by omega);have e2:q' n=q n:=hq n (Ne.symm e);simp only [List.filter_cons,List.filter_nil,e2];omega
section
variable {w:WD}{k:Nat}{S:AL}{fp:Prt->Nat->Prop}{rt lf hc cnt tot:Nat}{pg:Nat->Pg}{pin:Nat->Bool}{A:List Nat}{hd:Option Nat}
theorem QSt.notUsed(L:QSt S rt lf pg pin A hc hd cnt tot){p f:Nat}(hp:pg p=.fr f):f≠rt/\f≠lf/\f∉A/\hd≠some f:=by
 obtain⟨_,_,a,b,c,d⟩:=L.pgo p f hp;exact⟨a,b,c,d⟩
set_option maxHeartbeats 2000000 in
theorem QSt.GD (L:QSt S rt lf pg pin A hc hd cnt tot) (h:AJ w k S fp) {i p f j s:Nat}{l':List Bk} (hi:i<S.nodes) (h1:AN S.c i<=f) (h2:(f:Int)<AN S.c (i+1)) (hp:pg p=.fr f) (hpin:pin p=false) (hj:DB (S.ring i) (f:Int) j)
    (hs:s<S.AP) (hs0:S.sof s=(0,0)) (G:HY (S.L i) ((f:Int)-AN S.c i) 0 0 l') :
    1<=cnt/\QSt (S.GD i p f j s l') rt lf (upd pg p (.sl s)) pin A hc hd (cnt-1) tot:=by
  have hn:=h.n4;have hsz:=h.BO;obtain⟨hrt,hlf,hrl⟩:=L.rl;obtain⟨hp32,hfn,hfr,hfl,hfA,hfh⟩:=L.pgo p f hp;have hst1:stS S.by' S.n (S.root 1) p 0 0=wdS S.by' S.n lf p 0:=by
    rw [L.root];exact stS_of hn.2.2 hrt hlf L.w0 hp32 (.inl ⟨rfl,rfl⟩)
  have hwl:wdE S.n (lf:Int) (p:Int)=0:=DD;have wd1:∀{a b:Int},wdE S.n a b=0->wdF (wdS S.by' S.n lf p 0) S.n a b=if a=lf/\b=p then 0 else wdF S.by' S.n a b:=fun hab=>JT (by omega) hwl hab
  have hw0:wdF (wdS S.by' S.n lf p 0) S.n rt 0=1+4*(lf:Int):=by
    rw [wd1 DD,if_neg (by omega)];exact L.w0
  have hst2:stS (stS S.by' S.n (S.root 1) p 0 0) S.n (S.root 1) p 2 s=wdS (wdS S.by' S.n lf p 0) S.n lf p (2+4*(s:Int)):=by
    rw [hst1,L.root];exact stS_of hn.2.2 hrt hlf hw0 hp32 (.inr ⟨.inr rfl,by omega,by omega⟩)
  have wd2:∀{a b:Int},wdE S.n a b=0->wdF (wdS (wdS S.by' S.n lf p 0) S.n lf p (2+4*(s:Int))) S.n a b=if a=lf/\b=p then 2+4*(s:Int) else wdF S.by' S.n a b:=fun hab=>by
    rw [JT (by omega) hwl hab];split
    · rfl
    · rename_i hne
      rw [wd1 hab,if_neg hne]
  have hout:∀{g m:Nat},g≠lf->m<256->wdS (wdS S.by' S.n lf p 0) S.n lf p (2+4*(s:Int)) (g*256+m)=S.by' (g*256+m):=fun hg hm=>by
    rw [QA (by omega) hg hm,QA (by omega) hg hm]
  rcases G with⟨_,e,_⟩|⟨x,hx,hxg,hxp,hxo,_,hm,hsm⟩
  · cases e
  have hxo':x.o=0:=by omega
  have hgx:gfr S i x=f:=by
    have:=(h.fst hi).1;unfold gfr;omega
  have hrof:=L.rof1 p f hp;have hfw:∀{t g:Nat},upd pg p (.sl s) t=.fr g->t≠p/\pg t=.fr g/\g≠f:=fun {t g} e=>by
    have ht:t≠p:=fun e2=>by rw [e2,upd_same] at e;cases e
    rw [AH _ _ ht] at e;exact⟨ht,e,fun e3=>ht (L.inj t p f (e3▸e) hp)⟩
  have hbk:∀{t g:Nat},pg t=.fr g->g≠f->upd pg p (.sl s) t=.fr g:=fun {t g} e hg=>by
    have ht:t≠p:=fun e2=>by rw [e2,hp] at e;cases e;exact hg rfl
    rw [AH _ _ ht];exact e
  have hns:∀t,pg t≠.sl s:=fun t e=>by
    have:=(L.pgs t s e).2.2;rw [hs0] at this
    cases this
  have hu1:∀g,EO rt lf (upd pg p (.sl s)) A hd g↔EO rt lf pg A hd g/\g≠f:=fun g=>by
    unfold EO;constructor
    · rintro (e|e|⟨t,e⟩|e|e)
      · exact⟨.inl e,fun e2=>hfr (e2▸e)⟩
      · exact⟨.inr (.inl e),fun e2=>hfl (e2▸e)⟩
      · exact⟨.inr (.inr (.inl ⟨t,(hfw e).2.1⟩)),(hfw e).2.2⟩
      · exact⟨.inr (.inr (.inr (.inl e))),fun e2=>hfA (e2▸e)⟩
      · exact⟨.inr (.inr (.inr (.inr e))),fun e2=>hfh (e2▸e)⟩
    · rintro ⟨e|e|⟨t,e⟩|e|e,hg⟩
      · exact .inl e
      · exact .inr (.inl e)
      · exact .inr (.inr (.inl ⟨t,hbk e hg⟩))
      · exact .inr (.inr (.inr (.inl e)))
      · exact .inr (.inr (.inr (.inr e)))
  have hnl:∀z∈l',z.g=1->gfr S i z≠f:=fun z hz hzg e=>by
    obtain⟨hz1,hz2⟩:=(hm z hzg).1 hz;have hzo:=(L.tk1 i hi z hz1 hzg).1;refine hz2 (IE (h.HF hi) hz1 hx (f:=z.p) (nlr _) (by rw [hzo];omega) ?_ ?_)
    · unfold gfr at e hgx;omega
    · unfold gfr at e hgx;rw [hxo'];omega
  obtain⟨hse,hss⟩:=J1 (mk:=S.mks) (n:=S.n) (x:=CM) hfn (by decide);have hcl:=L.ck i hi;have hdl:(del (S.ring i) j).length+1=(S.ring i).length:=by
    have:=(D5.1 hj.1).1;unfold del;rw [lap,List.length_take,List.length_drop];omega
  have hcp:=OL (q:=fun j=>(pg j).KH) (q':=fun j=>(upd pg p (.sl s) j).KH) (p:=p) (n:=32) (fun j hj=>by show(upd pg p _ j).KH=_;rw [AH _ _ hj]) hp32;have q1:(pg p).KH=true:=by rw [hp];rfl
  have q2:(upd pg p (.sl s) p).KH=false:=by rw [upd_same];rfl
  simp only [q1,q2,if_true,L.cp] at hcp;have hcp:((List.range 32).filter fun j=>(upd pg p (.sl s) j).KH).length+1=cnt:=by simpa using hcp
  refine⟨by omega,?_⟩;have hfsum:DT S.nodes (fun t=>AX (upd S.L i l' t))=DT S.nodes (fun t=>AX (S.L t))+1:=by
    have e:(fun t=>AX (upd S.L i l' t))=upd (fun t=>AX (S.L t)) i (AX l'):=by
      funext t;by_cases e:t=i
      · subst e;rw [upd_same,upd_same]
      · rw [AH _ _ e,AH _ _ e]
    have h4:=JD (n:=S.nodes) (f:=fun t=>AX (S.L t)) (v:=AX l') hi;rw [e];rw [hxo'] at hsm;omega
  exact {
    by':=stS_r (stS_r L.by' _ _ _ _ _) _ _ _ _ _
    rl:=L.rl
    sp:=L.sp
    root:=L.root
    w0:=by
      show wdF (stS (stS S.by' S.n (S.root 1) p 0 0) S.n (S.root 1) p 2 s) S.n rt 0=_
      rw [hst2,wd2 DD,if_neg (by omega)];exact L.w0
    wz:=fun t ht1 ht2=>by
      show wdF (stS (stS S.by' S.n (S.root 1) p 0 0) S.n (S.root 1) p 2 s) S.n rt t=_
      rw [hst2,wd2 DD,if_neg (by omega)];exact L.wz t ht1 ht2
    wl:=fun t ht=>by
      show wdF (stS (stS S.by' S.n (S.root 1) p 0 0) S.n (S.root 1) p 2 s) S.n lf t=_
      rw [hst2,wd2 DD];by_cases e:t=p
      · subst e;rw [if_pos ⟨rfl,rfl⟩,upd_same];rfl
      · rw [if_neg (by omega),AH _ _ e]
        exact L.wl t ht
    pgo:=fun t g e=>L.pgo t g (hfw e).2.1
    pgs:=fun t u e=>by
      by_cases ht:t=p
      · subst ht
        rw [upd_same] at e
        cases e
        exact⟨hp32,hs,upd_same _ _ _⟩
      · rw [AH _ _ ht] at e
        obtain⟨a1,a2,a3⟩:=L.pgs t u e;refine⟨a1,a2,?_⟩
        show upd S.sof s _ u=_
        rw [AH _ _ (show u≠s from fun e2=>hns t (e2▸e))];exact a3
    inj:=fun t t' g e e'=>L.inj t t' g (hfw e).2.1 (hfw e').2.1
    Ao:=L.Ao
    And:=L.And
    hdr:=L.hdr
    rof1:=fun t g e=>by
      show upd S.rof f (0,0) g=_
      obtain⟨_,e,hg⟩:=hfw e;rw [AH _ _ hg];exact L.rof1 t g e
    rof2:=fun g hg e=>by
      have e:(upd S.rof f (0,0) g).1≠0:=e;by_cases e2:g=f
      · subst e2;rw [upd_same] at e;exact absurd rfl e
      · rw [AH _ _ e2] at e
        obtain⟨t,ht⟩:=L.rof2 g hg e;exact⟨t,hbk ht e2⟩
    rat1:=fun kk v e=>by
      have e:(S.rat.filter fun q=>q.1 != S.rof f).lookup kk=some v:=e;rw [MZ] at e;split at e
      · cases e
      · rename_i hne
        obtain⟨t,g,h3,h4,h5⟩:=L.rat1 _ _ e;refine⟨t,g,h3,hbk h4 fun e2=>hne ?_,h5⟩;rw [hrof,h3,L.inj t p f (e2▸h4) hp]
    rat2:=fun t g e=>by
      show((S.rat.filter fun q=>q.1 != S.rof f).lookup (1,(t:Int))).isSome=true
      obtain⟨ht,e,_⟩:=hfw e;rw [MZ,if_neg]
      · exact L.rat2 t g e
      · rw [hrof]
        intro e2;have h9:(t:Int)=(p:Int):=congrArg Prod.snd e2;omega
    ck:=fun t ht=>by
      show FL (upd S.ring i _ t) (upd S.cof i _ t)
      by_cases e:t=i
      · subst e
        rw [upd_same,upd_same];refine⟨fun kk v e=>?_,fun kk=>?_,del_nd hcl.nd⟩
        · rw [PC] at e
          split at e
          · cases e
          · exact hcl.v _ _ e
        · rw [PC,del_mem hcl.nd hj.1,<- hcl.r kk]
          by_cases e:kk=(f:Int) <;> simp [e]
      · rw [AH _ _ e,AH _ _ e]
        exact L.ck t ht
    ckm:=fun t ht x=>by
      show x∈upd S.ring i _ t↔_
      by_cases e:t=i
      · subst e
        rw [upd_same,del_mem hcl.nd hj.1,L.ckm t ht x];constructor
        · rintro ⟨⟨u,g,a1,rfl,a3⟩,hne⟩
          exact⟨u,g,hbk a1 (by omega),rfl,a3⟩
        · rintro ⟨u,g,a1,rfl,a3⟩
          obtain⟨_,a1,hg⟩:=hfw a1;exact⟨⟨u,g,a1,rfl,a3⟩,by omega⟩
      · rw [AH _ _ e,L.ckm t ht x]
        constructor
        · rintro ⟨u,g,a1,a2,a3,a4⟩
          refine⟨u,g,hbk a1 fun e3=>e ?_,a2,a3,a4⟩;rw [e3] at a3 a4;exact CH h.my (f:=(f:Int)) (by unfold AL.nodes at ht;exact ht) (by unfold AL.nodes at hi;exact hi) a3 a4 h1 h2
        · rintro ⟨u,g,a1,a2,a3⟩
          exact⟨u,g,(hfw a1).2.1,a2,a3⟩
    mk1:=by
      show smS S.mks S.n f CM rt=CC/\smS S.mks S.n f CM lf=CC
      rw [hss,AH _ _ (Ne.symm hfr),AH _ _ (Ne.symm hfl)];exact L.mk1
    mkA:=fun g hg=>by
      show smS S.mks S.n f CM g=CC
      rw [hss,AH _ _ (show g≠f from fun e=>hfA (e▸hg))];exact L.mkA g hg
    mk2:=fun t g e=>by
      show smS S.mks S.n f CM g=_
      obtain⟨_,e,hg⟩:=hfw e;rw [hss,AH _ _ hg];exact L.mk2 t g e
    mkh:=fun g e=>by
      show smS S.mks S.n f CM g=_
      rw [hss,AH _ _ (show g≠f from fun e2=>hfh (e2▸e))];exact L.mkh g e
    mk3:=fun g hg hnu=>by
      show smS S.mks S.n f CM g=CM
      rw [hss];by_cases e:g=f
      · subst e;rw [upd_same]
      · rw [AH _ _ e]
        exact L.mk3 g hg fun hu=>hnu ((hu1 g).2 ⟨hu,e⟩)
    tk1:=fun t ht z hz hg=>by
      by_cases e:t=i
      · subst e
        have hz:z∈upd S.L t l' t:=hz;rw [upd_same] at hz;obtain⟨hz1,_⟩:=(hm z hg).1 hz;have:=L.tk1 t ht z hz1 hg;exact⟨this.1,(hu1 _).2 ⟨this.2,hnl z hz hg⟩⟩
      · have hz:z∈upd S.L i l' t:=hz
        rw [AH _ _ e] at hz;have:=L.tk1 t ht z hz hg;refine⟨this.1,(hu1 _).2 ⟨this.2,fun e2=>e ?_⟩⟩;have hzt:=BC (h.HF ht) hz;have hfj':=h.fst ht;have hzo:=this.1;rw [hzo] at hzt;have e2:gfr S t z=f:=e2;unfold gfr at e2;exact CH h.my (f:=(f:Int)) (by unfold AL.nodes at ht;exact ht) (by unfold AL.nodes at hi;exact hi) (by omega) (by omega) h1 h2
    tk2:=fun g hu=>by
      obtain⟨hu,hgf⟩:=(hu1 g).1 hu;obtain⟨t,z,ht,hz,hg,hez⟩:=L.tk2 g hu;refine⟨t,z,ht,?_,hg,hez⟩
      show z∈upd S.L i l' t
      by_cases e:t=i
      · subst e
        rw [upd_same];refine(hm z hg).2 ⟨hz,fun e2=>?_⟩;subst e2;exact hgf (hez.symm.trans hgx)
      · rw [AH _ _ e];exact hz
    so:=fun u hu=>by
      show upd S.sof s _ u=_\/_
      by_cases e:u=s
      · subst e;exact .inr ⟨p,upd_same _ _ _⟩
      · rw [AH _ _ e]
        rcases L.so u hu with h9|⟨t,ht⟩
        · exact .inl h9
        · exact .inr ⟨t,by rw [AH _ _ (show t≠p from fun e2=>by rw [e2,hp] at ht;cases ht)];exact ht⟩
    byf:=fun t g e m hm=>by
      show stS (stS S.by' S.n (S.root 1) p 0 0) S.n (S.root 1) p 2 s (g*256+m)=_
      obtain⟨_,e,_⟩:=hfw e;rw [hst2,hout (L.notUsed e).2.1 hm];exact L.byf t g e m hm
    bys:=fun t u e m hm=>by
      show NF S.dv (s*256) 256 (fun j=>S.by' (f*256+j)) (u*256+m)=_
      unfold NF;by_cases ht:t=p
      · subst ht
        rw [upd_same] at e
        cases e
        rw [if_pos (by omega),show s*256+m-s*256=m by omega];exact L.byf t f hp m hm
      · rw [AH _ _ ht] at e
        have hus:u≠s:=fun e2=>hns t (e2▸e);rw [if_neg (by have:u<s\/s<u:=(by omega);omega)];exact L.bys t u e m hm
    pinE:=L.pinE
    pinF:=fun t ht=>by
      have:t≠p:=fun e=>by rw [e,hpin] at ht;cases ht
      rw [AH _ _ this];exact L.pinF t ht
    cp:=by omega
    cc:=by
      have e:(fun t=>(upd S.ring i (del (S.ring i) j) t).length)=upd (fun t=>(S.ring t).length) i ((del (S.ring i) j).length):=by
        funext t;by_cases e:t=i
        · subst e;rw [upd_same,upd_same]
        · rw [AH _ _ e,AH _ _ e]
      have h4:=JD (n:=S.nodes) (f:=fun t=>(S.ring t).length) (v:=(del (S.ring i) j).length) hi;have h5:=L.cc
      show DT S.nodes (fun t=>(upd S.ring i (del (S.ring i) j) t).length)=cnt-1
      rw [e];omega
    cu:=by
      have h4:=owns_upd (of:=S.sof) (p:=s) (v:=(1,(p:Int))) (by show(1:Int)≠0;decide) (n:=S.AP) (by rw [hs0]);have h5:=L.cu;rw [if_pos hs] at h4
      show(owns S.AP (upd S.sof s (1,(p:Int)))).length+(cnt-1)=tot
      omega
    cf:=by
      have h3:=L.cf
      show DT S.nodes (fun t=>AX (upd S.L i l' t))+(cnt-1)+2+A.length+(if hd.isSome then 1 else 0)=S.n
      rw [hfsum];omega
    held:=L.held
    fli:=L.fli
    lh:=L.lh}
end
section
variable {w:WD}{k:Nat}{S:AL}{fp:Prt->Nat->Prop}{rt lf hc cnt tot:Nat}{pg:Nat->Pg}{pin:Nat->Bool}{A:List Nat}
theorem EN{f g:Nat}:EO rt lf pg A (some f) g↔EO rt lf pg A none g\/g=f:=by
 unfold EO;constructor
 ·rintro (e|e|e|e|e)
  ·exact .inl (.inl e)
  ·exact .inl (.inr (.inl e))
  ·exact .inl (.inr (.inr (.inl e)))
  ·exact .inl (.inr (.inr (.inr (.inl e))))
  ·exact .inr (Option.some.inj e).symm
 ·rintro ((e|e|e|e|e)|e)
  ·exact .inl e
  ·exact .inr (.inl e)
  ·exact .inr (.inr (.inl e))
  ·exact .inr (.inr (.inr (.inl e)))
  ·cases e
  ·exact .inr (.inr (.inr (.inr (by rw [e]))))
theorem sumN_L{n i:Nat}{L:Nat->List Bk}{l':List Bk}(hi:i<n):DT n (fun t=>AX (upd L i l' t))+AX (L i)=DT n (fun t=>AX (L t))+AX l':=by
 have e:(fun t=>AX (upd L i l' t))=upd (fun t=>AX (L t)) i (AX l'):=by
  funext t;by_cases e:t=i
  ·subst e;rw [upd_same,upd_same]
  ·rw [AH _ _ e,AH _ _ e]
 rw [e];exact JD (n:=n) (f:=fun t=>AX (L t)) (v:=AX l') hi
theorem QSt.free(L:QSt S rt lf pg pin A hc none cnt tot)(h:AJ w k S fp){i f:Nat}{high:Bool}{l':List Bk}(hi:i<S.nodes)(h1:AN S.c i<=f)(T:ES (S.L i) 0 high ((f:Int)-AN S.c i) 0 l'):¬EO rt lf pg A none f/\f<S.n/\(∀y:Bk,y.g=1->(y∈l'↔y∈S.L i\/y=⟨((f:Int)-AN S.c i).toNat,0,1⟩))/\AX l'+1=AX (S.L i):=by
 have ht:=h.HF hi;have hf:=h.fst hi;obtain⟨r,hr0,hr,⟨x,hx,hxg,hx1,hx2⟩,hm,hs⟩:=GI ht T;have er:((f:Int)-AN S.c i).toNat=r:=by omega
 refine⟨fun hu=>?_,by omega,by rw [er];exact hm,hs⟩;obtain⟨j,y,hj,hy,hyg,he⟩:=L.tk2 _ hu;unfold gfr at he;have hfj:=h.fst hj;have hyt:=BC (h.HF hj) hy;have hyo:=(L.tk1 j hj y hy hyg).1;rw [hyo] at hyt;have:j=i:=CH h.my (f:=(f:Int)) (by unfold AL.nodes at hj;exact hj) (by unfold AL.nodes at hi;exact hi) (by omega) (by omega) (by omega) (by omega);subst this;have:x=y:=IE ht hx hy (f:=r) hx1 hx2 (by omega) (by rw [hyo];omega);subst this;omega
theorem QSt.taken (L:QSt S rt lf pg pin A hc none cnt tot) (h:AJ w k S fp) {i f:Nat}{high:Bool}{l':List Bk} (hi:i<S.nodes) (h1:AN S.c i<=f) (T:ES (S.L i) 0 high ((f:Int)-AN S.c i) 0 l') :
    QSt (S.taken hc i f l' 4) rt lf pg pin A hc (some f) cnt tot:=by
  have hn:=h.n4;obtain⟨hnu,hfn,hm,hs⟩:=L.free h hi h1 T;have hf:=h.fst hi;obtain⟨hrt,hlf,hrl⟩:=L.rl;have hfr:f≠rt:=fun e=>hnu (.inl e);have hfl:f≠lf:=fun e=>hnu (.inr (.inl e));have hfp:∀j,pg j≠.fr f:=fun j e=>hnu (.inr (.inr (.inl ⟨j,e⟩)));have hfA:f∉A:=fun e=>hnu (.inr (.inr (.inr (.inl e))));have hgf:gfr S i ⟨((f:Int)-AN S.c i).toNat,0,1⟩=f:=by unfold gfr;show _+((f:Int)-AN S.c i).toNat=f;omega
  have hbl:∀g m,g≠f->m<256->D4 S.by' (f*256) 256 (g*256+m)=S.by' (g*256+m):=fun g m hg hm=>by
    unfold D4;rw [if_neg (by have : g<f \/ f<g :=(by omega);omega)]
  have wd:∀{a b:Int},a≠f->wdF (D4 S.by' (f*256) 256) S.n a b=wdF S.by' S.n a b:=wdF_blank;exact {L with
    by':=fun o=>by
      show 0<=D4 S.by' (f*256) 256 o/\D4 S.by' (f*256) 256 o<=255
      unfold D4;split
      · exact⟨by decide,by decide⟩
      · exact L.by' o
    w0:=by show wdF (D4 S.by' (f*256) 256) S.n rt 0=_;rw [wd (by omega)];exact L.w0
    wz:=fun t a b=>by show wdF (D4 S.by' (f*256) 256) S.n rt t=_;rw [wd (by omega)];exact L.wz t a b
    wl:=fun t a=>by show wdF (D4 S.by' (f*256) 256) S.n lf t=_;rw [wd (by omega)];exact L.wl t a
    pgo:=fun j g e=>by
      obtain⟨a1,a2,a3,a4,a5,_⟩:=L.pgo j g e;exact⟨a1,a2,a3,a4,a5,fun e2=>hfp j (by rw [Option.some.inj e2];exact e)⟩
    Ao:=fun g e=>by
      obtain⟨a1,a2,a3,_⟩:=L.Ao g e;exact⟨a1,a2,a3,fun e2=>hfA (by rw [Option.some.inj e2];exact e)⟩
    hdr:=fun g e=>by cases e;exact⟨hfn,hfr,hfl⟩
    mk1:=by
      show upd S.mks f _ rt=CC/\upd S.mks f _ lf=CC
      rw [AH _ _ (Ne.symm hfr),AH _ _ (Ne.symm hfl)];exact L.mk1
    mkA:=fun g hg=>by
      show upd S.mks f _ g=CC
      rw [AH _ _ (show g≠f from fun e=>hfA (e▸hg))];exact L.mkA g hg
    mk2:=fun t g e=>by
      show upd S.mks f _ g=_
      rw [AH _ _ (show g≠f from fun e2=>hfp t (e2▸e))];exact L.mk2 t g e
    mkh:=fun g e=>by
      cases e
      exact upd_same _ _ _
    mk3:=fun g hg hnu'=>by
      show upd S.mks f _ g=CM
      rw [AH _ _ (show g≠f from fun e=>hnu' (EN.2 (.inr e)))];exact L.mk3 g hg fun hu=>hnu' (EN.2 (.inl hu))
    tk1:=fun t ht z hz hg=>by
      have hz:z∈upd S.L i l' t:=hz;by_cases e:t=i
      · subst e
        rw [upd_same] at hz;rcases (hm z hg).1 hz with hz|rfl
        · have:=L.tk1 t ht z hz hg
          exact⟨this.1,EN.2 (.inl this.2)⟩
        · exact⟨rfl,EN.2 (.inr hgf)⟩
      · rw [AH _ _ e] at hz
        have:=L.tk1 t ht z hz hg;exact⟨this.1,EN.2 (.inl this.2)⟩
    tk2:=fun g hu=>by
      rcases EN.1 hu with hu|rfl
      · obtain⟨t,z,ht,hz,hg,hez⟩:=L.tk2 g hu
        refine⟨t,z,ht,?_,hg,hez⟩
        show z∈upd S.L i l' t
        by_cases e:t=i
        · subst e;rw [upd_same];exact(hm z hg).2 (.inl hz)
        · rw [AH _ _ e];exact hz
      · refine⟨i,_,hi,?_,rfl,hgf⟩
        show _∈upd S.L i l' i
        rw [upd_same];exact(hm _ rfl).2 (.inr rfl)
    byf:=fun j g e m hm=>by
      show D4 S.by' (f*256) 256 (g*256+m)=_
      rw [hbl g m (fun e2=>hfp j (e2▸e)) hm];exact L.byf j g e m hm
    cf:=by
      have h3:=L.cf;have h4:=sumN_L (L:=S.L) (l':=l') hi
      show DT S.nodes (fun t=>AX (upd S.L i l' t))+cnt+2+A.length+1=S.n
      simp at h3;omega
    held:=by
      show upd S.held hc (S.held hc++[(f:Int)])=_
      rw [L.held];funext t;by_cases e:t=hc
      · subst e;rw [upd_same,upd_same,upd_same];rfl
      · rw [AH _ _ e,AH _ _ e,AH _ _ e]}
end
theorem cempty0{w:WD}{size:Int}{u:Value}{H:NP}(h:BX size u H w):Calls prog 242 #[u] w fun e w'=>∃a c,e=.returned (.slice a 0 c)/\Kept AB w w':=by
 obtain⟨b,m,rfl,o,M,hx⟩:=h.ex;refine Calls.ret (vc242 (some ⟨b,0,none⟩) w _ ?_);unfold Q;intro w1 e1;have o1:=AD e1;have k1:=kal e1;refine⟨some ⟨b,0,none⟩,by rw [o1.rd];rfl,(frames0 (BX.stb.kx _ _ _ _ AB h k1 fun _ e=>e.elim)).mono ?_⟩;rintro _ w2 ⟨a,c,rfl,k2⟩;refine⟨a,0,c,rfl,?_⟩;refine Calls.ret (vc161 a 0 c _ w2 _ ?_);unfold Q;have hi:Calls prog 227 #[.slice a 0 c,.func (.func 274) #[] #[.pointer (some ⟨w.heap.size,0,none⟩)]] w2 fun e w'=>e=.returned (vi (-1))/\w'=w2:=by
  refine Calls.ret (vc227 a 0 c _ w2 _ ?_);unfold Q;refine⟨fun _ j W _=>j=0/\W=w2,⟨0,rfl,rfl⟩,?_⟩;rintro _ _ W _ ⟨rfl,hW⟩;exact AG (by simp) ⟨rfl,hW⟩
 refine hi.mono ?_;rintro _ w3 ⟨rfl,hw⟩;rw [hw];exact⟨_,rfl,AA rfl ⟨a,0,c,rfl,a,c,rfl,k1.tr k2⟩⟩
theorem reap_spec{w:WD}{k:Nat}{S:AL}{fp:Prt->Nat->Prop}(h:AJ w k S fp){i:Nat}(hi:i<S.nodes) :
 Calls prog 199 #[ptr k,vi i] w fun e w'=>e=.returned (vi 0)/\Kept AB w w':=by
 refine Calls.ret (vc199 _ i w _ ?_);have hs:=h.BO;unfold Q;obtain⟨g,cp,u,H,hv,hr,hA,_,_⟩:=(h.at' .caches).one (B:=fun _=>BG (fun i=>BX (sz i)) 8) (w':=w) (i:=i) (fun _ _=>BG.stb fun _ _=>BX.stb) hi fun _ _=>rfl;obtain⟨g2,cp2,_,_,rfl,_,_,_,_⟩:=hA.one (B:=fun i=>BX (sz i)) (w':=w) (i:=0) (fun _ _=>BX.stb) (by omega) fun _ _=>rfl;refine AA rfl ⟨some ⟨g,0,none⟩,S.nodes,cp,by
  show rd w k (0+101)=_
  rw [za,<- hv];exact h.rt (j:=7) rfl,AA rfl (Wi ⟨some ⟨g2,0,none⟩,8,cp2,by rw [tnc,mo];show rd w g (0+i)=_;rw [za];exact hr,?_⟩)⟩
 refine⟨fun n j W N=>∃r:Nat,n=0/\j=r/\r<=8/\N=8-r/\Kept AB w W,⟨8,0,rfl,rfl,by omega,rfl,Kept.refl _ _⟩,?_⟩;rintro _ _ w20 _ ⟨r,rfl,rfl,hr8,rfl,k20⟩;refine AE (fun hc2=>?_) (fun hc2=>⟨rfl,k20⟩);have hr8':r<8:=by simp at hc2;omega
 have hA2:=(BG.stb fun _ _=>BX.stb).kx _ _ _ _ AB hA k20 fun _ e=>e.elim;obtain⟨g4,cp4,u4,H4,e4,hr4,hA4,_,_⟩:=hA2.one (B:=fun i=>BX (sz i)) (w':=w20) (i:=r) (fun _ _=>BX.stb) hr8' fun _ _=>rfl
 cases e4
 obtain⟨b,_,rfl,_⟩:=hA4.ex;refine AA rfl (Wi ⟨some ⟨b,0,none⟩,by rw [tnc,mo];show rd w20 g2 (0+r)=_;rw [za];exact hr4,(cempty0 hA4).mono ?_⟩);rintro _ w21 ⟨a0,c0,rfl,k21⟩;refine⟨_,_,_,rfl,fun n j W N=>n=0/\j=0/\Kept AB w W,⟨0,rfl,rfl,k20.tr k21⟩,?_⟩;rintro _ _ w22 _ ⟨rfl,rfl,k22⟩;exact AG (by simp) ⟨8-(r+1),by omega,r+1,rfl,wzz,hr8',rfl,k22⟩
def FC(S S':AL):Prop:=∃r o,S'={S with ring:=r,cof:=o}
theorem FC.refl(S:AL):FC S S:=⟨S.ring,S.cof,rfl⟩
theorem FC.trans{S S1 S2:AL}(h:FC S S1)(h2:FC S1 S2):FC S S2:=by
 obtain⟨r,o,rfl⟩:=h;obtain⟨r',o',rfl⟩:=h2;exact⟨r',o',rfl⟩
theorem FC.ck{S:AL}{i:Nat}{r:List Int}{o:List (Int×Value)}:FC S (S.GR i r o):=⟨_,_,rfl⟩
structure Went(S S':AL)(i:Nat):Prop where
 c:S'.c=S.c
 L:∀t,t<S.nodes->AX (S'.L t)=AX (S.L t)+if t=i then 1 else 0
def IG(ln:Nat->Nat):List Nat->Nat
 | []=>1
 | x::xs=>2+30*ln x+IG ln xs
def HC(S:AL):Prop:=∀s,s<S.AP->S.sof s≠(0,0)
def NoGo(S:AL)(pg:Nat->Pg)(pin:Nat->Bool)(i:Nat):Prop:=∀p f,pg p=.fr f->AN S.c i<=f->(f:Int)<AN S.c (i+1)->pin p=true
structure Fx where
 rt:Nat
 lf:Nat
 pin:Nat->Bool
 A:List Nat
 hc:Nat
 hd:Option Nat
 tot:Nat
abbrev Fx.St(Z:Fx)(S:AL)(pg:Nat->Pg)(cnt:Nat):Prop:=QSt S Z.rt Z.lf pg Z.pin Z.A Z.hc Z.hd cnt Z.tot
section
variable {k N:Nat}{Q:Fin}{cpu:Nat}{th:Value}{Z:Fx}{ln:Nat->Nat}
def IU(k N:Nat)(Q:Fin)(Z:Fx)(th:Value)(xs:List Nat)(S:AL)(pg:Nat->Pg)(cnt:Nat)(FR:NP)(w:WD)(fp:Prt->Nat->Prop):Prop:=
 (∀S',FC S S'->Z.St S' pg cnt->(HC S\/∀i∈xs,NoGo S pg Z.pin i)->∀w2 fp2,Ctx k S' fp2 FR w2->Ltr w fp FR w2 fp2->AM prog th [vi 0] w2 (Nx N Q (Fo fp2 FR) w2))/\
 (∀S' xs1 i xs2 p f s,xs=xs1++i::xs2->(∀t∈xs1,NoGo S pg Z.pin t)->pg p=.fr f->Z.pin p=false->AN S.c i<=f->(f:Int)<AN S.c (i+1)->s<S.AP->S.sof s=(0,0)->1<=cnt->Z.St S' (upd pg p (.sl s)) (cnt-1)->Went S S' i->
  ∀w2 fp2,Ctx k S' fp2 FR w2->Ltr w fp FR w2 fp2->AM prog th [vi 1] w2 (Nx N Q (Fo fp2 FR) w2))
theorem IU.later{xs:List Nat}{S:AL}{pg:Nat->Pg}{cnt:Nat}{FR:NP}{w w1:WD}{fp fp1:Prt->Nat->Prop}(h:IU k N Q Z th xs S pg cnt FR w fp)(L:Ltr w fp FR w1 fp1):IU k N Q Z th xs S pg cnt FR w1 fp1:=
 ⟨fun S' a b c w2 fp2 X2 L2=>h.1 S' a b c w2 fp2 X2 (L.trans L2),fun S' xs1 i xs2 p f s a1 a2 a3 a4 a5 a6 a7 a8 a9 b1 b2 w2 fp2 X2 L2=>h.2 S' xs1 i xs2 p f s a1 a2 a3 a4 a5 a6 a7 a8 a9 b1 b2 w2 fp2 X2 (L.trans L2)⟩
theorem IU.turned{xs:List Nat}{S S1:AL}{pg:Nat->Pg}{cnt:Nat}{FR:NP}{w:WD}{fp:Prt->Nat->Prop}(h:IU k N Q Z th xs S pg cnt FR w fp)(T:FC S S1):IU k N Q Z th xs S1 pg cnt FR w fp:=by
 have T':=T;obtain⟨r,o,rfl⟩:=T;exact⟨fun S' a b c=>h.1 S' (T'.trans a) b c,fun S' xs1 i xs2 p f s a1 a2 a3 a4 a5 a6 a7 a8 a9 b1 b2=>h.2 S' xs1 i xs2 p f s a1 a2 a3 a4 a5 a6 a7 a8 a9 b1 ⟨b2.c,b2.L⟩⟩
theorem IU.tail{x:Nat}{xs:List Nat}{S:AL}{pg:Nat->Pg}{cnt:Nat}{FR:NP}{w:WD}{fp:Prt->Nat->Prop}(h:IU k N Q Z th (x::xs) S pg cnt FR w fp)(hx:HC S\/NoGo S pg Z.pin x):IU k N Q Z th xs S pg cnt FR w fp:=by
 refine⟨fun S' a b c=>h.1 S' a b ?_,fun S' xs1 i xs2 p f s a1 a2 a3 a4 a5 a6 a7 a8 a9 b1 b2=>?_⟩
 ·rcases hx with hx|hx
  ·exact .inl hx
  ·rcases c with c|c
   ·exact .inl c
   ·refine .inr fun i hi=>?_;rcases List.mem_cons.1 hi with rfl|hi
    ·exact hx
    ·exact c i hi
 ·rcases hx with hx|hx
  ·exact absurd a8 (hx s a7)
  ·refine h.2 S' (x::xs1) i xs2 p f s (by rw [a1];rfl) (fun t ht=>?_) a3 a4 a5 a6 a7 a8 a9 b1 b2;rcases List.mem_cons.1 ht with rfl|ht
   ·exact hx
   ·exact a2 t ht
theorem Nx.wk{N M:Nat}{Q:Fin}{fp:Prt->Nat->Prop}{FR G:NP}{w w':WD}{e:Ending}(hG:∀x,FR x->G x)(hM:N<=M)(h:Nx N Q (Fo fp FR) w e w'):Nx M Q (Fo fp G) w e w':=
 (Nx.pre kr (fun y hy=>.inl (hy.elim .inl fun h=>.inr (hG y h))) h).le hM
theorem Nds.fst{w:WD}{FR:NP}{a:OA}{l c x:Nat}{xs:List Nat}(R:Nds w FR a l c (x::xs)):isP a=true/\l=xs.length+1/\l<=c/\c<=maxLen/\rd w (pb a) (po a)=some (vi (x:Nat)):=by
 have hl:=R.len;rw [List.length_cons] at hl;obtain⟨b,o,rfl,_,hr⟩:=R.el (by omega);exact⟨rfl,hl,R.lc,R.mx,hr 0 x rfl⟩
theorem Nds.fst2{w w2:WD}{FR G:NP}{a:OA}{l c x:Nat}{xs:List Nat}(R:Nds w FR a l c (x::xs))(k:Kept (fun x=>¬G x) w w2)(hG:∀x,FR x->G x):rd w2 (pb a) (po a)=some (vi (x:Nat)):=
 (R.to (k.mono fun x _ hn hf=>hn (hG x hf)) hG).fst.2.2.2.2
set_option maxHeartbeats 4000000 in
theorem vict_spec{x:Nat}{xs:List Nat}(ht:isF th=true)
 (P:∀{w:WD}{S:AL}{fp:Prt->Nat->Prop}{FR:NP}{a:OA}{l c:Nat}{pg:Nat->Pg}{cnt:Nat},(∀x,Q.C x->FR x)->Ctx k S fp FR w->Z.St S pg cnt->cpu<S.AO->Nds w FR a l c xs->(∀x∈xs,x<S.nodes)->(∀i,i<S.nodes->(S.ring i).length=ln i)->IU k N Q Z th xs S pg cnt FR w fp->Calls prog 123 #[ptr k,vi cpu,.slice a l c,th] w (Nx (N+IG ln xs) Q (Fo fp FR) w)) :
 ∀(left:Nat) {w:WD}{S:AL}{fp:Prt->Nat->Prop}{FR:NP}{a:OA}{l c:Nat}{pg:Nat->Pg}{cnt:Nat} (hC:∀x,Q.C x->FR x) (X:Ctx k S fp FR w) (L:Z.St S pg cnt) (hcp:cpu<S.AO) (R:Nds w FR a l c (x::xs)) (hx:∀y∈x::xs,y<S.nodes) (hln:∀i,i<S.nodes->(S.ring i).length=ln i)
  (hle:left<=3*ln x) (hmu:¬HC S->∀p f,pg p=.fr f->AN S.c x<=f->(f:Int)<AN S.c (x+1)->Z.pin p=false->∃m,Mu (S.ring x) (S.cof x) (f:Nat) m/\m<left) (H:IU k N Q Z th (x::xs) S pg cnt FR w fp),
  Calls prog 201 #[ptr k,vi cpu,.slice a l c,vi left,th] w (Nx (N+IG ln xs+10*left) Q (Fo fp FR) w):=by
 intro left
 induction left with
 | zero=>
  intro w S fp FR a l c pg cnt hC X L hcp R hx hln hle hmu H;obtain⟨r1,r2,r3,r4,r5⟩:=R.fst;have hto:=GY ht;refine Calls.ret (vc201 _ cpu a l c ((0:Nat):Int) th w _ ?_);apply qI;rw [show Value.cells th=[th].toArray from EV hto];intro w1 e1 w2 e2 w3 e3 w4 e4 w5 e5;have B:=(((((Bx.nil w).al e1).al e2).al e3).al e4).al e5;refine⟨0,B.rd (b:=w3.heap.size) (by simp),AA rfl fun w6 e6=>?_⟩;have B6:=B.dr e6;have M:=X.mv0 B6.k;refine⟨_,B6.rd (b:=w.heap.size) (v:=ptr k) (by simp),cpu,B6.rd (b:=w1.heap.size) (by simp),a,l,c,B6.rd (b:=w2.heap.size) (by simp),AA BI ⟨th,B6.rd (b:=w4.heap.size) (by simp),?_⟩⟩;have hno:HC S\/NoGo S pg Z.pin x:=by
   by_cases h:HC S
   ·exact .inl h
   ·refine .inr fun p f h1 h2 h3=>?_
    cases hp:Z.pin p with
    | true=>rfl
    | false=>
     obtain⟨m,_,hm⟩:=hmu h p f h1 h2 h3 hp;omega
  refine(P hC M.X L hcp (R.to M.L.kp fun _ h=>h).tail (fun y hy=>hx y (mcm _ hy)) hln ((H.tail hno).later M.L)).mono fun e w' hN=>M.out X hC (fun _ h=>h) (by omega) hN
 | succ left ih=>
  intro w S fp FR a l c pg cnt hC X L hcp R hx hln hle hmu H;obtain⟨r1,r2,r3,r4,r5⟩:=R.fst;have hto:=GY ht;have hxn:=hx x mcs;have hsz:=X.C.BO;refine Calls.ret (vc201 _ cpu a l c ((left+1:Nat):Int) th w _ ?_);apply qI;rw [show Value.cells th=[th].toArray from EV hto];intro w1 e1 w2 e2 w3 e3 w4 e4 w5 e5;have B:=(((((Bx.nil w).al e1).al e2).al e3).al e4).al e5;refine⟨((left+1:Nat):Int),B.rd (b:=w3.heap.size) (by simp),AG (by simp;omega) ⟨a,l,c,B.rd (b:=w2.heap.size) (by simp),AA r1 (Wi ⟨x,B.k.rd_some r5 id,fun w6 e6=>⟨Bx.wr0 e6,fun w7 e7 w8 e8=>?_⟩⟩)⟩⟩;have e9:IntKind.wrap .i64 (9+((x:Nat):Int))=((9+x:Nat):Int):=by rw [wi (by omega)];omega
  rw [e9] at e7;have B8:=((B.al2 e6 e7).2).dr e8;refine⟨_,B8.rd (b:=w.heap.size) (v:=ptr k) (by simp),AA rfl ⟨_,by have:=X.C.rtW B8.k (j:=3) rfl;exact this,cpu,B8.rd (b:=w1.heap.size) (by simp),((9+x:Nat):Int),B8.rd (b:=w5.heap.size) (by simp),?_⟩⟩;refine(IJ (N:=N+IG ln xs+10*left+8) (Q:=Q) hC X B8.k (who:=cpu) (i:=9+x) (by omega) (by omega) (by rw [L.lh]) (fun j _ _=>by rw [L.lh];show(0:Int)≠_;omega) rfl fun W fp1 X1 k1 L1=>?_).mono fun e w' ⟨v,hv,hN⟩=>⟨v,hv,hN.le (by omega)⟩;have rr:=fun {b:Nat}{v:Value}{W':WD} (kk:Kept (fun y=>¬(FR y\/rng w w8 y)) W W') (hm:(b,v)∈_)=>B8.rr (Kept.oo k1 kk) hm;have hG:∀y,FR y->(FR y\/rng w w8 y):=fun y h=>.inl h;have hCG:∀y,Q.C y->(FR y\/rng w w8 y):=fun y h=>.inl (hC y h);have R1:Nds W FR a l c (x::xs):=(R.to B8.k.none fun _ h=>h).to (k1.mono fun y _ hn hf=>hn (.inl hf)) fun _ h=>h;refine AM.mk 244 #[] _ rfl (by kernel_rfl) (Calls.ret (vc244 false (some ⟨w.heap.size,0,none⟩) (some ⟨w2.heap.size,0,none⟩) (some ⟨w1.heap.size,0,none⟩) (some ⟨w5.heap.size,0,none⟩) (some ⟨w4.heap.size,0,none⟩) (some ⟨w3.heap.size,0,none⟩) W _ ?_));unfold vcP244;intro x1 d1;have M1:=X1.mv0 (kr.dr d1);have m1:=M1.L.kp;obtain⟨g,cp,u,Hh,hv,hu,hA⟩:=core_clkAt M1.X.C (i:=x) hxn;obtain⟨cb,_,_,_,_,rfl,_⟩:=hA.ex;have hne:S.ring x≠[]:=fun e=>by
   have:=hln x hxn;rw [e] at this;simp at this;omega
  have hckr:rd x1 k (0+100)=some (.slice (some ⟨g,0,none⟩) S.nodes cp):=by
   have:=M1.X.C.rtW kr (j:=6) rfl;have hv2:S.vck=.slice (some ⟨g,0,none⟩) S.nodes cp:=hv;rw [<- hv2];exact this
  refine AA rfl ⟨_,rr m1 (b:=w.heap.size) (v:=ptr k) (by simp),AA rfl ⟨_,_,_,hckr,AA rfl ⟨a,l,c,rr m1 (b:=w2.heap.size) (by simp),AA r1 (Wi ⟨x,R1.fst2 m1 hG,AA rfl (Wi ⟨some ⟨cb,0,none⟩,by rw [tnc,mo];show rd x1 g (0+x)=_;rw [za];exact hu,(core_next M1.X.C (i:=x) hxn (L.ck x hxn) (by have:=L.O5 hxn;show(S.ring x).length<=1000;omega) hne hv hu).mono ?_⟩)⟩)⟩⟩⟩;rintro _ x2 ⟨ring',of',f,rfl,NR,T2⟩;have NR:NextR S x ring' of' f:=NR;obtain⟨fp2,M12⟩:=M1.X.mv T2;have M2:=M1.tr M12;have m2:=M2.L.kp;refine⟨f,true,rfl,⟨rr m2 (b:=w.heap.size) (v:=ptr k) (by simp),trivial⟩,AA rfl ⟨_,rr m2 (b:=w.heap.size) (v:=ptr k) (by simp),AA rfl ⟨cpu,rr m2 (b:=w1.heap.size) (by simp),AA rfl ⟨((9+x:Nat):Int),rr m2 (b:=w5.heap.size) (by simp),fun x3 d3=>?_⟩⟩⟩⟩;have o3:=AD d3;have M3:=M2.tr (M2.X.mv0 (kr.al d3));have nb:∀q,¬fp2 q x2.heap.size:=fun q hq=>by have:=(M2.X.C.lt q _ hq).2;omega
  have hun:unl (upd S.lh (9+x) ((cpu:Int)+1)) [9+x] 0=fun _=>0:=by
   funext j;unfold unl;rw [L.lh];by_cases e:j=9+x
   ·rw [if_pos (by simp [e])]
   ·rw [if_neg (by simpa using e),AH _ _ e]
  refine(JZ M3.X (xs:=[9+x]) (who:=cpu) (n:=1) o3 nb rfl (by simp) (by omega) (by simp) (fun y hy=>?_) (f0:=fun _=>0) hun).mono ?_
  ·simp at hy;subst hy;exact⟨by show 9+x<9+S.nodes;omega,by show upd S.lh (9+x) _ (9+x)=_;rw [upd_same]⟩
  rintro _ x4 ⟨rfl,fp4,M34⟩;have M4:=M3.tr M34;have m4:=M4.L.kp;have eS:({(S.GR x ring' of') with lh:=fun _=>0}:AL)=S.GR x ring' of':=by
   have h1:=L.lh
   show({(S.GR x ring' of') with lh:=fun _=>0}:AL)={(S.GR x ring' of') with lh:=S.lh}
   rw [h1]
  have X4:Ctx k (S.GR x ring' of') fp4 (fun y=>FR y\/rng w w8 y) x4:=by
   have:=M4.X;rw [<- eS];exact this
  have L4:Z.St (S.GR x ring' of') pg cnt:=L.turn hxn NR;refine⟨rfl,AG rfl (AA rfl ⟨_,rr m4 (b:=w.heap.size) (v:=ptr k) (by simp),AA rfl ⟨cpu,rr m4 (b:=w1.heap.size) (by simp),?_⟩⟩)⟩;obtain⟨p,f,j,rfl,hpf,E⟩:=L4.evR X4.C (cpu:=cpu) (i:=x) (x:=f) hcp hxn (by show f∈upd S.ring x ring' x;rw [upd_same,NR.2.2.1];exact NR.2.2.2.1);have hT:FC S (S.GR x ring' of'):=FC.ck;have HL:IU k N Q Z th (x::xs) (S.GR x ring' of') pg cnt FR x4 fp4:=((H.turned hT).later L1).later (M4.L.less hG);have hln4:∀i,i<S.nodes->(upd S.ring x ring' i).length=ln i:=fun i hi=>by
   by_cases e:i=x
   ·subst e;rw [upd_same,NR.2.1];exact hln i hi
   ·rw [AH _ _ e];exact hln i hi
  refine(evict_spec (N:=N+IG ln xs+10*left) (Q:=Q) hCG E rfl X4 ⟨fun hor y2 fpy XY LY=>?_,fun hpn s l' hs hs0 GG y2 fpy XY LY=>?_⟩).mono fun e w' hN=>M4.out X1 hCG (fun _ h=>h) (nlr _) hN
  ·have mY:=Kept.oo m4 LY.kp;have RY:Nds y2 FR a l c (x::xs):=R1.to (mY.mono fun y _ hn hf=>hn (.inl hf)) fun _ h=>h;refine AM.mk 246 #[] _ rfl (by kernel_rfl) (Calls.ret (vc246 false (some ⟨w4.heap.size,0,none⟩) (some ⟨w.heap.size,0,none⟩) (some ⟨w1.heap.size,0,none⟩) (some ⟨w2.heap.size,0,none⟩) (some ⟨w3.heap.size,0,none⟩) y2 _ ?_));apply qI;refine AG rfl (AA rfl ⟨_,rr mY (b:=w.heap.size) (v:=ptr k) (by simp),AA rfl ⟨cpu,rr mY (b:=w1.heap.size) (by simp),AA rfl ⟨a,l,c,rr mY (b:=w2.heap.size) (by simp),AA rfl ⟨((left+1:Nat):Int),rr mY (b:=w3.heap.size) (by simp),AA rfl ⟨th,rr mY (b:=w4.heap.size) (by simp),?_⟩⟩⟩⟩⟩);have el:IntKind.wrap .i64 (((left+1:Nat):Int)-1)=((left:Nat):Int):=by
    have:=L.O5 hxn;have:=hln x hxn;rw [wi (by omega)];omega
   rw [el];refine(ih hC (XY.less hG) L4 hcp RY hx hln4 (by omega) (fun hns p' f' h1 h2 h3 h4=>?_) (HL.later (LY.less hG))).mono fun e w' hN=>((hN.wk hG (nlr _))).out;obtain⟨m,hm,hlt⟩:=hmu hns p' f' h1 h2 h3 h4
   show ∃m,Mu (upd S.ring x ring' x) (upd S.cof x of' x) (f':Nat) m/\m<left
   rw [upd_same,upd_same];rcases NR.2.2.2.2 _ m hm with e|⟨m',hm',hmm⟩
   ·exfalso;have e:f'=f:=by omega
    subst e;have:p'=p:=L.inj p' p f' h1 hpf;subst this;rcases hor with hor|hor
    ·have h5:=L.pinE p' (L.pgo p' f' h1).1;have hor:(S.pins 1).testBit p'=true:=hor;rw [h5,h4] at hor
     cases hor
    ·exact hns hor
   ·exact⟨m',hmm,by omega⟩
  ·have mY:=Kept.oo m4 LY.kp;have hpp:Z.pin p=false:=by
    have h5:=L.pinE p (L.pgo p f hpf).1;have hpn:(S.pins 1).testBit p=false:=hpn;rw [<- h5];exact hpn
   obtain⟨c1,LE⟩:=L4.GD X4.C hxn E.f1 E.f2 hpf hpp E.fj hs hs0 GG;refine AM.mk 246 #[] _ rfl (by kernel_rfl) (Calls.ret (vc246 true (some ⟨w4.heap.size,0,none⟩) (some ⟨w.heap.size,0,none⟩) (some ⟨w1.heap.size,0,none⟩) (some ⟨w2.heap.size,0,none⟩) (some ⟨w3.heap.size,0,none⟩) y2 _ ?_));apply qI;refine AA rfl (AA rfl ⟨th,rr mY (b:=w4.heap.size) (by simp),AQ (HL.2 _ [] x xs p f s rfl (fun t ht=>by cases ht) hpf hpp E.f1 E.f2 hs hs0 c1 LE ⟨rfl,fun t ht=>?_⟩ y2 fpy (XY.less hG) (LY.less hG)) fun e w' hN=>(hN.wk hG (by omega)).out⟩)
   show AX (upd S.L x l' t)=AX (S.L t)+_
   rcases GG with⟨_,e,_⟩|⟨z,hz,hzg,hzp,hzo,_,hm,hsm⟩
   ·cases e
   have hzo':z.o=0:=by omega
   by_cases e:t=x
   ·subst e;rw [upd_same,if_pos rfl,hsm,hzo']
   ·rw [AH _ _ e,if_neg e];rfl
end
end Go.Proofs.YtdgbechegbmpcaaGreatDoor
