/- Part of a proof that a law returns true. Conditions: those in each theorem. -/
import Derived.Test.YtdgbechegbmpcaaGreatDoorSV3
set_option linter.unusedSimpArgs false
set_option linter.unusedVariables false
set_option maxRecDepth 100000
namespace Go.Proofs.YtdgbechegbmpcaaGreatDoor
open Go Go.Eng Go.Proofs.Tryz
open Go.Value (bool func slice agg int)
open Option (isNone)
open Go.IntKind (wrap)
open List (replicate range)
variable {b f i j l lf m p s:Nat}{by' lh lh':NI}{of:List (Int×Value)}{g x:Int}{ring xs:List Int}{H:NP}{u:Value}
theorem IJ{w:WD}{k:Nat}{S:AR}{fp:Prt->Nat->Prop}(h:AO w k S fp)(hi:i<S.AK)(h1:AU S.c i<=f)(h2:(f:Int)<AU S.c (i+1)) :
 Calls prog 18 #[AP k,vi f] w λe w'=>e=.returned (vi i)/\AB AD w w':=by
 have hn:=h.n4;have hfi:=h.fst hi;refine(PH h f (by omega)).AE ?_;rintro _ w5 ⟨k5,⟨i',hi',q1,q2,rfl⟩|⟨q1,_⟩⟩
 .have:i'=i:=CR h.my (f:=(f:Int)) hi' hi q1 q2 h1 h2;subst this;exact⟨rfl,k5⟩
 .exfalso;have q1:(f:Int)<0\/AU S.c S.AK<=f:=q1;have:=JN h.my (i:=i+1) (j:=S.AK) (by omega) (nlr _);omega
theorem B7w(h:ByR by')(n:Nat)(root page k N:Int):ByR (stS by' n root page k N):=by
 unfold stS;split
 .exact B7p h _ _ _ _
 .exact h
structure EvR(S:AR)(i p f j:Nat):Prop where
 nd:i<S.AK
 f1:AU S.c i<=f
 f2:(f:Int)<AU S.c (i+1)
 fn:f<S.n
 p32:p<32
 sp:∃b,S.sp 1=some b
 by':ByR S.by'
 rof:S.rof f=(1,(p:Int))
 gE:gtE S.by' S.n (S.root 1) p=0
 gK:gtK S.by' S.n (S.root 1) p=1
 gN:gtN S.by' S.n (S.root 1) p=f
 ck:FM (S.ring i) (S.cof i)
 fj:DB (S.ring i) (f:Int) j
 rl:(S.ring i).length<=1000
 tk:((f:Int)-AU S.c i,(0:Int))∈tk (S.L i)
abbrev gc(k cpu f p:Nat)(sl:Int)(th:Value):List Value:=[AP k,vi cpu,vi f,vi 1,vi p,vi 0,vi sl,th]
section
variable {G:NP}{W:WD}
theorem gr{W':WD}{cs:List Value}(og:AX W b cs)(hg:G b)(kk:AB (λx=>¬G x) W W'){o:Nat}{v:Value}(hv:cs[o]? = some v):rd W' b (0+o)=some v:=by
 rw [za,(og.kx kk λhn=>hn hg).rd];exact hv
end
theorem vc227(s:OA)(sL sC:Nat)(f:Value)(w:WD)(K:KV)(h:Q (∃(I:Int->Int->WD->Nat->Prop),(∃(n:Nat),I 0 0 w n)/\∀(n a:Int) (w':WD) (c:Nat),I n a w' c->Wif (decide (a<(↑sL:Int))) (Wp s (Wn a sL (Ri w' s (a.toNat*1) λx=>AN prog f [vi x] w' λe w'=>∃(b:Bool),e=rT (.bool b)/\Wif b (K (vi a) w') (Lt c λm=>I n (wrap .i64 (a+1)) w' m)))) (K (vi (-1)) w'))):Ret 227 #[sl s sL sC,f] w K:=vcA L7 2 [2000011] func227 h
theorem vc161(s:OA)(sL sC:Nat)(del:Value)(w:WD)(K:KV)(h:Q (CI 227 #[sl s sL sC,del] w λn w'=>Wif (n==-1) (K (sl s sL sC) w') (∃(I:Int->Int->WD->Nat->Prop),(∃(a:Nat),I n (wrap .i64 (n+1)) w' a)/\∀(n a:Int) (w':WD) (d:Nat),I n a w' d->Wif (decide (a<(↑sL:Int))) (Wp s (Wn a sL (Ri w' s (a.toNat*1) λx=>AN prog del [vi x] w' λe w'=>∃(b:Bool),e=rT (.bool b)/\Wif (!b) (Wp s (Wn n sL (Sw w' (pb s) (po s+n.toNat*1) (vi x) λc=>Lt d λm=>I (wrap .i64 (n+1)) (wrap .i64 (a+1)) c m))) (Lt d λm=>I n (wrap .i64 (a+1)) w' m)))) (Wif (CZ n (↑sL:Int) (↑sC:Int)) (∃(c:WD),JS prog #[27] 0 (sl (BS s sC (n.toNat) 1) (sL-n.toNat) (sC-n.toNat)) w' c/\Wif (CZ 0 n (↑sC:Int)) (K (sl s (n.toNat) sC) c) False) False)))):Ret 161 #[sl s sL sC,del] w K:=vcA L7 2 [2000026] func161 h
theorem vc102(s:OA)(i:Int)(w:WD)(K:KV)(h:Q (gIf (isP s) ((!isNone s&&decide (i>=0))=true) (∃(x:Int),((!isNone s&&decide (i>=0))=true->rd w (pb s) (po s+1)=some (.int .i64 x))/\K (.bool (!isNone s&&decide (i>=0)&&decide (i<x))) w))):Ret 102 #[pt s,vi i] w K:=vcA L7 2 [] func102 h
theorem B9s(h:m<18446744073709551616):CD .and .u64 (m:Int) 1=((m%2:Nat):Int):=by
 have hx:(BitVec.ofInt 64 (m:Int) &&& BitVec.ofInt 64 (1:Int)).toNat=m%2:=by
  rw [BitVec.toNat_and,BitVec.toNat_ofInt,BitVec.toNat_ofInt,show((m:Int)%((2^64:Nat):Int)).toNat=m by omega,show((1:Int)%((2^64:Nat):Int)).toNat=1 by decide,Nat.and_one_is_mod]
 show wrap .u64 ((BitVec.ofInt 64 (m:Int) &&& BitVec.ofInt 64 (1:Int)).toNat:Int)=_
 rw [hx,wu (by omega)]
theorem C04(h:m<4294967296)(hp:p<32):CD .or .u64 (m:Int) (wrap .u64 (1*2^min (Int.toNat (Int.tmod (p:Int) 64)) 64))=((m ||| 2^p:Nat):Int)/\m ||| 2^p<4294967296:=by
 have etm:Int.tmod (p:Int) 64=p:=by rw [Int.tmod_eq_emod_of_nonneg (by omega)];omega
 have h2:2^p<2^32:=Nat.pow_lt_pow_right (by decide) hp;have h3:m ||| 2^p<2^32:=Nat.or_lt_two_pow (by omega) h2
 have e1:wrap .u64 (1*2^min (Int.toNat (Int.tmod (p:Int) 64)) 64)=((2^p:Nat):Int):=by
  have:(2:Int)^p=((2^p:Nat):Int):=by simp
  rw [etm,tnc,Nat.min_eq_left (by omega),Int.one_mul,this];clear this h3;generalize 2^p=q at *;exact wu (by omega)
 refine⟨?_,by omega⟩;rw [e1];generalize 2^p=q at *;have hx:(BitVec.ofInt 64 (m:Int) ||| BitVec.ofInt 64 (q:Int)).toNat=m ||| q:=by
  rw [BitVec.toNat_or,BitVec.toNat_ofInt,BitVec.toNat_ofInt,show((m:Int)%((2^64:Nat):Int)).toNat=m by omega,show((q:Int)%((2^64:Nat):Int)).toNat=q by omega]
 show wrap .u64 ((BitVec.ofInt 64 (m:Int) ||| BitVec.ofInt 64 (q:Int)).toNat:Int)=_
 rw [hx,wu (by omega)]
section
variable {W:WD}{pb' wb x p:Nat}
theorem A2i(h:AX W pb' [.slice (some ⟨wb,0,none⟩) 16 16,vi 1024])(hp:p<32):Calls prog 102 #[AP pb',vi p] W λe w'=>e=.returned (.bool true)/\w'=W:=by
 refine Calls.ret (vc102 _ p W _ ?_);unfold Q;refine AJ (λ_=>rfl) ⟨1024,(λ_=>by show rd W pb' (0+1)=_;rw [h.rd];rfl),?_,rfl⟩;congr 2;simp;omega
theorem A6u(h:AX W pb' [.slice (some ⟨wb,0,none⟩) 16 16,vi 1024])(hw:AX W wb (NM x))(hx:x<4294967296)(hp:p<32):Calls prog 103 #[AP pb',vi p] W λe w'=>e=.returned (.bool (x.testBit p))/\w'=W:=by
 refine Calls.ret (vc103 _ p W _ ?_);unfold Q;have etm:Int.tmod (p:Int) 64=p:=by rw [Int.tmod_eq_emod_of_nonneg (by omega)];omega
 have eq0:wrap .i64 (Int.tdiv (p:Int) 64)=0:=by
  rw [Int.tdiv_eq_ediv_of_nonneg (by omega),wi (by omega)];omega
 rw [etm,eq0,tnc,Nat.min_eq_left (show p<=64 by omega)];have e1:Int.fdiv (x:Int) (2^p)=((x/2^p:Nat):Int):=by
  rw [Int.fdiv_eq_ediv_of_nonneg _ (Int.pow_nonneg (by decide))];simp
 have h2:x/2^p<=x:=Nat.div_le_self _ _;refine(A2i h hp).AE ?_;rintro _ wx ⟨rfl,hwx⟩;rw [hwx];refine⟨true,rfl,AJ (λ_=>rfl) ⟨_,_,_,(λ_=>by show rd W pb' 0=_;rw [h.rd];rfl),AJ (λ_=>rfl) (AJ (λ_=>by decide) ⟨(x:Int),(λ_=>by show rd W wb (0+0*1)=_;rw [hw.rd];rfl),AJ (λ_=>by simp) ⟨?_,rfl⟩⟩)⟩⟩;rw [e1,B9s (by omega),Nat.testBit_eq_decide_div_mod_eq];congr 2;rcases Nat.mod_two_eq_zero_or_one (x/2^p) with h3|h3 <;> rw [h3] <;> decide
theorem B4m(h:AX W pb' [.slice (some ⟨wb,0,none⟩) 16 16,vi 1024])(hw:AX W wb (NM x))(hx:x<4294967296)(hp:p<32)(hne:pb'≠wb):Calls prog 40 #[AP pb',vi p] W λe w'=>∃n,e=.returned (vi n)/\AB (·=wb) W w'/\AX w' wb (NM (x ||| 2^p)):=by
 refine Calls.ret (vc40 _ p W _ ?_);unfold Q;have eq0:wrap .i64 (Int.tdiv (p:Int) 64)=0:=by
  rw [Int.tdiv_eq_ediv_of_nonneg (by omega),wi (by omega)];omega
 obtain⟨e1,e2⟩:=C04 hx hp;have etm:Int.tmod (p:Int) 64=p:=by rw [Int.tmod_eq_emod_of_nonneg (by omega)];omega
 rw [eq0];refine AL rfl ((A2i h hp).AE ?_);rintro _ wx ⟨rfl,hwx⟩;rw [hwx];refine⟨true,rfl,AL rfl ((A6u h hw hx hp).AE ?_)⟩;rintro _ wy ⟨rfl,hwy⟩;rw [hwy];refine⟨_,rfl,AH (λhb=>?_) (λhb=>λw1 e3=>?_)⟩
 .refine⟨_,rfl,AB.refl _ _,?_⟩;have:x ||| 2^p=x:=by
   refine Nat.eq_of_testBit_eq λi=>?_;rw [Nat.testBit_or,Nat.testBit_two_pow];by_cases e:p=i
   .subst e;simp [hb]
   .simp [e]
  rw [this];exact hw
 .have k1:=kdr e3;have hw1:=hw.k k1;refine AA rfl ⟨_,_,_,by show rd w1 pb' 0=_;rw [(h.k k1).rd];rfl,AA rfl (AA (by decide) ⟨(x:Int),by show rd w1 wb (0+0*1)=_;rw [hw1.rd];rfl,AA (by rw [etm];simp) (AA rfl (AA (by decide) ⟨by show wr w1 wb (0+0*1);exact hw1.wr (by simp [NM]),λw2 e4=>?_⟩))⟩)⟩;rw [e1] at e4;have e4:w2=st w1 wb 0 (.int .u64 ((x ||| 2^p:Nat):Int)):=e4;have k2:AB (·=wb) w1 w2:=kr.s1 e4 (.inl rfl);exact⟨_,rfl,(k1.none).trans k2 λ_ _ e=>e,hw1.s1 e4⟩
end
def B9y(of:List (Int×Value))(k:Int)(x:Value):List (Int×Value):=of.map λp=>if p.1=k then(k,x) else p
theorem KP{k:Int}{x:Value}:(B9y of k x).lookup g=if g=k then(of.lookup g).map λ_=>x else of.lookup g:=by
 unfold B9y
 induction of with
 | nil=>simp
 | cons p of ih=>
  obtain⟨p1,p2⟩:=p;rw [List.map_cons,List.lookup_cons];by_cases h:p1=k
  .subst h;by_cases hg:g=p1
   .subst hg;simp
   .have e:(g==p1)=false:=by simpa using hg
    rw [if_neg hg] at ih;simp only [if_pos,if_neg hg,List.lookup_cons,e];exact ih
  .rw [if_neg h];by_cases hg:g=p1
   .subst hg;rw [if_neg h];simp [List.lookup_cons]
   .have e:(g==p1)=false:=by simpa using hg
    simp only [List.lookup_cons,e];exact ih
def Rk(of:List (Int×Value))(f:Int)(n:Nat):Prop:=∃a t:Bool,of.lookup f=some (.agg #[.bool a,.bool t])/\n=if t then 2 else if a then 1 else 0
def Mu(ring:List Int)(of:List (Int×Value))(g:Int)(n:Nat):Prop:=∃i r,ring[i]? = some g/\Rk of g r/\n=i+ring.length*r
theorem FM.mu(ok:FM ring of)(hg:g∈ring):∃n,Mu ring of g n/\n<3*ring.length:=by
 obtain⟨i,hi⟩:=List.mem_iff_getElem?.1 hg;have hi':=(DC.1 hi).1;have h1:=(ok.r g).2 hg
 cases hl:of.lookup g with
 | none=>rw [hl] at h1;cases h1
 | some v=>
  obtain⟨a,t,rfl⟩:=ok.v _ _ hl;refine⟨_,⟨i,_,hi,⟨a,t,hl,rfl⟩,rfl⟩,?_⟩
  cases t <;> cases a <;> simp <;> omega
theorem FM.KZ{f:Int}{r:List Int}(ok:FM (f::r) of):FM (r++[f]) of:=
 ⟨ok.v,λk=>by rw [ok.r k];simp [or_comm],by
  have:=ok.nd;rw [List.nodup_cons] at this;rw [List.nodup_append];exact⟨this.2,by simp,λa ha b hb e=>by simp at hb;subst hb;exact this.1 (e▸ha)⟩⟩
theorem FM.put(ok:FM ring of)(f:Int)(a t:Bool):FM ring (B9y of f (.agg #[.bool a,.bool t])):=
 ⟨λk v h=>by
  rw [KP] at h;split at h
  .cases hl:of.lookup k with
   | none=>rw [hl] at h;cases h
   | some x=>rw [hl] at h;cases h;exact⟨_,_,rfl⟩
  .exact ok.v k v h,λk=>by
   rw [KP];split
   .rw [<- ok.r k];simp
   .exact ok.r k,ok.nd⟩
theorem Mu.other{f:Int}{r:List Int}{of':List (Int×Value)}{n:Nat}(h:Mu (f::r) of g n)(hg:g≠f)(hl:of'.lookup g=of.lookup g):1<=n/\Mu (r++[f]) of' g (n-1):=by
 obtain⟨i,q,h1,⟨a,t,h2,h3⟩,rfl⟩:=h
 cases i with
 | zero=>simp at h1;exact absurd h1.symm hg
 | succ i=>
  have h1:r[i]? = some g:=by simpa using h1
  have hi:=(DC.1 h1).1;refine⟨by omega,i,q,?_,⟨a,t,by rw [hl];exact h2,h3⟩,by rw [lap];show i+1+(r.length+1)*q-1=i+(r.length+1)*q;omega⟩;rw [gal hi];exact h1
theorem Mu.AX{f:Int}{r:List Int}{n:Nat}{a t:Bool}(hf:of.lookup f=some (.agg #[.bool a,.bool t]))(ha:(a||t)=true)(nd:(f::r).Nodup)(h:Mu (f::r) of f n):1<=n/\Mu (r++[f]) (B9y of f (.agg #[.bool t,.bool false])) f (n-1):=by
 obtain⟨i,q,h1,⟨a',t',h2,h3⟩,rfl⟩:=h;rw [hf] at h2;simp at h2;obtain⟨rfl,rfl⟩:=h2;have hi0:i=0:=by
  cases i with
  | zero=>rfl
  | succ i=>
   have h1:r[i]? = some f:=by simpa using h1
   rw [List.nodup_cons] at nd;exact absurd (mog h1) nd.1
 subst hi0;have hq:1<=q:=by subst h3;cases t <;> cases a <;> simp at ha ⊢
 have hm:(f::r).length*q=(r.length+1)*(q-1)+(r.length+1):=by
  obtain⟨q,rfl⟩:∃p,q=p+1:=⟨q-1,by omega⟩;rw [List.length_cons,Nat.mul_succ,Nat.add_sub_cancel]
 refine⟨by rw [hm];omega,r.length,q-1,by rw [gar (nlr _),Nat.sub_self];rfl,⟨t,false,by rw [KP,if_pos rfl,hf];rfl,?_⟩,?_⟩
 .subst h3;cases t <;> cases a <;> simp at ha ⊢
 .rw [hm,lap]
  show 0+((r.length+1)*(q-1)+(r.length+1))-1=r.length+(r.length+1)*(q-1)
  omega
set_option maxHeartbeats 2000000 in
theorem A89{w:WD}(h:BE ring of (AP b) H w)(ok:FM ring of)(hl:ring.length<=1000) :
 Calls prog 245 #[AP b] w λe w'=>AB H w w'/\∃ring' of',BE ring' of' (AP b) (λx=>H x\/rng w w' x) w'/\FM ring' of'/\ring'.length=ring.length/\(∀x,x∈ring'↔x∈ring)/\
  ((ring=[]/\e=.returned (.tuple #[vi 0,.bool false]))\/∃f,f∈ring/\e=.returned (.tuple #[vi f,.bool true])/\∀g n,Mu ring of g n->g=f\/∃n',n'<n/\Mu ring' of' g n'):=by
 refine Calls.ret (vc245 _ w _ ?_);unfold Q;refine⟨λn b0 W N=>n=0/\b0=false/\AB H w W/\∃ring' of',BE ring' of' (AP b) (λx=>H x\/rng w W x) W/\FM ring' of'/\ring'.length=ring.length/\(∀x,x∈ring'↔x∈ring)/\(∀g n,Mu ring of g n->∃n',n'<=n/\Mu ring' of' g n')/\(ring=[]\/∃g,Mu ring' of' g N),?_,?_⟩
 .have A0:BE ring of (AP b) (λx=>H x\/rng w w x) w:=by
   have e:(λx=>H x\/rng w w x)=H:=by
    funext x;exact propext ⟨λe=>e.elim id λe=>absurd e.1 (Nat.not_le.2 e.2),.inl⟩
   rw [e];exact h
  by_cases he:ring=[]
  .exact⟨0,rfl,rfl,AB.refl _ _,ring,of,A0,ok,rfl,λ_=>Iff.rfl,λg n hm=>⟨n,nlr _,hm⟩,.inl he⟩
  .obtain⟨g,hg⟩:=List.exists_mem_of_ne_nil _ he;obtain⟨n,hn,_⟩:=ok.mu hg;exact⟨n,rfl,rfl,AB.refl _ _,ring,of,A0,ok,rfl,λ_=>Iff.rfl,λg n hm=>⟨n,nlr _,hm⟩,.inr ⟨g,hn⟩⟩
 rintro _ _ w1 N ⟨rfl,rfl,K1,rg,of1,A,ok1,hlen,hmem,hmu,hN⟩;obtain⟨b',a,l,cp,m,hb',o,R,M,fb,fm,hown⟩:=A.ex;have:b'=b:=by cases hb';rfl
 subst this;have hbm:=JM M o;have r1:∀{W:WD}{x:Value},AX W b' [x,.map (some m)]->rd W b' (0+1)=some (.map (some m)):=λo=>by rw [o.rd];rfl
 have r0:∀{W:WD}{x:Value},AX W b' [x,.map (some m)]->rd W b' 0=some x:=λo=>by rw [o.rd];rfl
 have hlen2:=R.len;have hb0:(λx=>H x\/rng w w1 x) b':=fb;refine Calls.ret (vc200 _ w1 _ ?_);unfold Q;refine AJ (λ_=>rfl) ⟨_,λ_=>r1 o,AL rfl (AA rfl ⟨a,l,cp,r0 o,_,rfl,AH (λhc=>?_) (λhc=>?_)⟩)⟩
 rotate_left
 .have h0:rg=[]:=List.length_eq_zero_iff.1 (by simp at hc;omega);have h1:ring=[]:=List.length_eq_zero_iff.1 (by rw [<- hlen,h0];rfl);exact⟨K1,rg,of1,A,ok1,hlen,hmem,.inl ⟨h1,rfl⟩⟩
 obtain⟨f,r,rfl⟩:∃f r,rg=f::r:=by
  cases rg with
  | nil=>simp at hlen2 hc;omega
  | cons f r=>exact⟨f,r,rfl⟩
 have hne:ring≠[]:=λe=>by rw [e] at hlen;cases hlen
 obtain⟨hp,hr⟩:=R.rd (i:=0) (x:=f) rfl;have hl1:l=r.length+1:=by rw [hlen2];rfl
 have hlc:l<=cp:=by
  rcases R.ex with⟨_,h0,_⟩|⟨_,_,_,_,_,h3,_⟩
  .omega
  .exact h3
 refine AA rfl ⟨_,_,_,r0 o,AA hp (Wi ⟨f,by simpa using hr,AA rfl ⟨a,l,cp,r0 o,AA BR λw2 e2=>?_⟩⟩)⟩;have x2:=AG e2;have k2:=kal e2;obtain⟨a',c',w3,happ,R3,k3,hb3⟩:=(R.tail.k k2).C3u x2 (by simp at hlen;omega);have eob:∀x,(slice (BS a cp 1 1) (l-1) (cp-1)).ownBlock=some x->(slice a l cp).ownBlock=some x:=λx hx=>by
  cases a with
  | none=>unfold BS at hx;simp [Value.ownBlock] at hx
  | some A=>
   obtain⟨A1,A2,A3⟩:=A;have:(BS (some ⟨A1,A2,A3⟩) cp 1 1)=some ⟨A1,A2,A3⟩\/∃y z,BS (some ⟨A1,A2,A3⟩) cp 1 1=some ⟨A1,y,z⟩:=by
    unfold BS;split
    .exact .inl rfl
    .refine .inr ?_
     show ∃y z,some (Addr.add ⟨A1,A2,A3⟩ _)=_
     unfold Addr.add;split <;> exact⟨_,_,rfl⟩
   rcases this with e|⟨y,z,e⟩ <;> (rw [e] at hx;exact hx)
 have K13:AB (λx=>H x\/rng w w1 x) w1 w3:=(k2.AE λ_ _ e=>e.elim).trans k3 λx _ e=>(hown x (eob x e)).1;have hs3:=k2.sz;have o3:AX w3 b' [.slice a l cp,.map (some m)]:=(o.k k2).kx k3 λe=>(hown b' (eob b' e)).2 rfl;have M3:BJ w3 m of1:=(M.k k2).kx k3 λe=>FT M R (eob _ e) rfl;have hn3:∀x,(slice a' (l-1+1) c').ownBlock=some x->((H x\/rng w w1 x)\/rng w1 w3 x)/\x≠b':=λx hx=>by
  rcases hb3 with hb3|hb3
  .rw [hb3] at hx;exact⟨.inl (hown x (eob x hx)).1,(hown x (eob x hx)).2⟩
  .have h1:=hb3 x hx;have h2:=R3.lt hx;have:=o.lt;exact⟨.inr ⟨by omega,h2⟩,by omega⟩
 refine⟨a',_,c',w3,happ,AA rfl ⟨o3.wr (by show 0<2;decide),λw4 e4=>?_⟩⟩;have o4:AX w4 b' [.slice a' (l-1+1) c',.map (some m)]:=o3.s1 e4;have k4:AB (·=b') w3 w4:=kr.s1 e4 (.inl rfl);have R4:=R3.kx k4 λx e hx=>(hn3 x hx).2 e;have M4:=M3.kx k4 λe=>hbm e.symm;have hs4:w4.heap.size=w3.heap.size:=by rw [e4];simp
 have hfl:=(ok1.r f).2 mcs;obtain⟨ma,mt,hfm⟩:∃a t:Bool,of1.lookup f=some (.agg #[.bool a,.bool t]):=by
  cases hl:of1.lookup f with
  | none=>rw [hl] at hfl;cases hfl
  | some v=>obtain⟨a,t,rfl⟩:=ok1.v _ _ hl;exact⟨a,t,rfl⟩
 have hlk:=B1x (P:=prog) (mt:=289) (vt:=311) (kt:=3) underlying289 underlying3 M4 f (zeroValue311 w4);rw [hfm] at hlk;refine AA rfl ⟨_,r1 o4,ma,mt,hlk,λw5 e5=>?_⟩;have q5:=AG e5;have k5:=kal e5;refine⟨wr2 q5,λw6 e6=>?_⟩;obtain⟨q6,k6'⟩:=JU q5 e6;have k6:AB AD w4 w6:=BO k5 k6' λx e=>by omega
 have K16:AB (λx=>H x\/rng w w1 x) w1 w6:=(K13.trans k4 λx _ e=>e▸fb).trans k6 λ_ _ e=>e.elim;have s1:=K1.sz;have s6:=K16.sz;have s46:=k6.sz;have K6:AB H w w6:=K1.trans K16 λx hx e=>e.elim id λe=>by have:=e.1;omega
 have A6:BE (r++[f]) of1 (AP b') (λx=>H x\/rng w w6 x) w6:=by
  refine⟨⟨b',a',l-1+1,c',m,rfl,o4.k k6,R4.k k6,M4.k k6,?_,?_,λx hx=>⟨?_,(hn3 x hx).2⟩⟩,λx hx=>?_⟩
  .exact fb.imp id λe=>⟨e.1,by have:=e.2;omega⟩
  .exact fm.imp id λe=>⟨e.1,by have:=e.2;omega⟩
  .rcases (hn3 x hx).1 with h1|h1
   .exact h1.imp id λe=>⟨e.1,by have:=e.2;omega⟩
   .exact .inr ⟨by have:=h1.1;omega,by have:=h1.2;omega⟩
  .rcases hx with hx|hx
   .exact nll (h.lt x hx) K6.sz
   .exact hx.2
 have hmem':∀x,x∈r++[f]↔x∈ring:=λx=>by rw [<- hmem x];simp [or_comm]
 have hlen':(r++[f]).length=ring.length:=by rw [<- hlen];simp
 refine⟨ma,mt,⟨by rw [q6.rd];rfl,by rw [q6.rd];rfl⟩,AH (λhc2=>?_) (λhc2=>λw7 e7=>?_)⟩
 .refine⟨K6,r++[f],of1,A6,ok1.KZ,hlen',hmem',.inr ⟨f,(hmem f).1 mcs,rfl,λg n hg=>?_⟩⟩;by_cases e:g=f
  .exact .inl e
  .obtain⟨n',hn',hm'⟩:=hmu g n hg;obtain⟨h1,h2⟩:=hm'.other e rfl;exact .inr ⟨n'-1,by omega,h2⟩
 .have k7:=kdr e7;have A7:=BE.stb.kx _ _ _ _ AD A6 k7 λ_ e=>e.elim;obtain⟨b2,a2,l2,cp2,m2,hb2,o7,R7,M7,fb7,fm7,hown7⟩:=A7.ex;have:b2=b':=by cases hb2;rfl
  subst this;have hm2:m2=m:=by
   have h1:=(o4.k k6).k k7;have h2:=r1 h1;have h3:rd w7 b2 (0+1)=some (.map (some m2)):=by rw [o7.rd];rfl
   rw [h3] at h2
   cases h2;rfl
  subst hm2;obtain⟨w8,hu,M8,k8⟩:=B7s underlying289 underlying3 M7 f (.agg #[.bool mt,.bool false]) hfl;have hbm7:=JM M7 o7;have hor:(ma||mt)=true:=by
   cases ma <;> cases mt <;> simp at hc2 ⊢
  have K8:AB H w w8:=(K6.trans k7 λ_ _ e=>e.elim).trans k8 λx hx e=>by
   subst e;exact fm.elim id λe=>by have:=e.1;omega
  have s7:=k7.sz;have s8:=k8.sz;refine AA rfl ⟨_,r1 o7,mt,by rw [(q6.k k7).rd];rfl,w8,hu,?_⟩;have A8:BE (r++[f]) (B9y of1 f (.agg #[.bool mt,.bool false])) (AP b2) (λx=>H x\/rng w w8 x) w8:=by
   have up:∀x,(H x\/rng w w6 x)->H x\/rng w w8 x:=λx hx=>hx.imp id λe=>⟨e.1,by have:=e.2;omega⟩;refine⟨⟨b2,a2,l2,cp2,m2,rfl,o7.kx k8 hbm7,R7.kx k8 λx e hx=>FT M7 R7 hx e,M8,up _ fb7,up _ fm7,λx hx=>⟨up _ (hown7 x hx).1,(hown7 x hx).2⟩⟩,λx hx=>?_⟩;rcases hx with hx|hx
   .exact nll (h.lt x hx) K8.sz
   .exact hx.2
  obtain⟨g,hg⟩:∃g,Mu (f::r) of1 g N:=hN.resolve_left hne;have step:∀g n,Mu (f::r) of1 g n->1<=n/\Mu (r++[f]) (B9y of1 f (.agg #[.bool mt,.bool false])) g (n-1):=λg n hg=>by
   by_cases e:g=f
   .subst e;exact hg.AX hfm hor ok1.nd
   .exact hg.other e (by rw [KP,if_neg e])
  obtain⟨n1,n2⟩:=step g N hg;refine⟨N-1,by omega,rfl,rfl,K8,r++[f],_,A8,ok1.KZ.put f mt false,hlen',hmem',λg n hg=>?_,.inr ⟨g,n2⟩⟩;obtain⟨n',hn',hm'⟩:=hmu g n hg;exact⟨n'-1,by omega,(step g n' hm').2⟩
theorem B3d{w:WD}(h:BE ring of u H w):Calls prog 200 #[u] w λe w'=>e=.returned (vi (ring.length:Nat))/\w'=w:=by
 obtain⟨b',a,l,cp,m,rfl,o,R,M,fb,fm,hown⟩:=h.ex;refine Calls.ret (vc200 _ w _ ?_);unfold Q;refine AJ (λ_=>rfl) ⟨_,λ_=>by show rd w b' (0+1)=_;rw [o.rd];rfl,AL rfl (AA rfl ⟨a,l,cp,by show rd w b' 0=_;rw [o.rd];rfl,by rw [R.len],rfl⟩)⟩
section
variable {w:WD}{k:Nat}{S:AR}{fp:Prt->Nat->Prop}
theorem A0y(h:AO w k S fp)(hi:i<S.AK):∃(g cp:Nat) (u:Value) (H:NP),S.vck=.slice (some ⟨g,0,none⟩) S.AK cp/\rd w g i=some u/\BE (S.ring i) (S.cof i) u H w:=by
 have R:BM (λi=>BE (S.ring i) (S.cof i)) S.AK S.vck (fp .clocks) w:=h.at' .clocks;obtain⟨g,cp,u,H,hv,hr,hA,_,_⟩:=R.one (B:=λi=>BE (S.ring i) (S.cof i)) (λ_ _=>BE.stb) hi λ_ _=>rfl;exact⟨g,cp,u,H,hv,hr,hA⟩
theorem B26(h:AO w k S fp)(hi:i<S.AK)(ok:FM (S.ring i) (S.cof i))(hl:(S.ring i).length<=1000){g cp:Nat}(hv:S.vck=.slice (some ⟨g,0,none⟩) S.AK cp)(hu:rd w g i=some u) :
 Calls prog 245 #[u] w λe w'=>∃ring' of',(FM ring' of'/\ring'.length=(S.ring i).length/\∀x,x∈ring'↔x∈S.ring i)/\Step w w' k (S.Q0 i ring' of') fp/\((S.ring i=[]/\e=.returned (.tuple #[vi 0,.bool false]))\/∃f,f∈S.ring i/\e=.returned (.tuple #[vi f,.bool true])/\∀g n,Mu (S.ring i) (S.cof i) g n->g=f\/∃n',n'<n/\Mu ring' of' g n'):=by
 have R:BM (λi=>BE (S.ring i) (S.cof i)) S.AK S.vck (fp .clocks) w:=h.at' .clocks;obtain⟨g2,cp2,u2,H2,hv2,hr2,hA2,hH2,hput⟩:=R.any (λ_ _=>BE.stb) hi;have eg:g2=g:=by rw [hv] at hv2;cases hv2;rfl
 subst eg;have eu:u2=u:=by rw [hu] at hr2;exact(Option.some.inj hr2).symm
 subst eu;obtain⟨cb,_,_,_,_,rfl,_⟩:=hA2.ex;refine(A89 hA2 ok hl).AE ?_;rintro e w' ⟨kk,ring',of',A',ok',h1,h2,h3⟩;exact⟨ring',of',⟨ok',h1,h2⟩,h.FD .clocks kk (λx hx=>(hH2 x hx).1) rfl (λp F w hp hq=>by cases p <;> first|exact hq|exact absurd rfl hp)
  (hput (λt=>BE (upd S.ring i ring' t) (upd S.cof i of' t)) (λt ht=>by rw [AI _ _ ht,AI _ _ ht]) w' kk (by rw [AF,AF];exact A')),h3⟩
end
section
variable {w:WD}{k:Nat}{S:AR}{fp:Prt->Nat->Prop}{rt lf cnt:Nat}{pg:Nat->Option Nat}
end
theorem B22{v:Int}(nd:xs.Nodup)(h:xs[j]? = some v):x∈del xs j↔x∈xs/\x≠v:=by
 have hj:=(DC.1 h).1;have e:xs=xs.take j++v::xs.drop (j+1):=by
  conv=>lhs;rw [<- List.take_append_drop j xs]
  rw [List.drop_eq_getElem_cons hj,(DC.1 h).2]
 have nd2:=nd;rw [e,List.nodup_append] at nd2;obtain⟨_,n2,n3⟩:=nd2;have n4:=(List.nodup_cons.1 n2).1;have hv:v∉xs.take j:=λhh=>n3 v hh v (mcs) rfl;unfold del;rw [List.mem_append];constructor
 .rintro (hx|hx)
  .exact⟨List.mem_of_mem_take hx,λe=>hv (e▸hx)⟩
  .exact⟨List.mem_of_mem_drop hx,λe=>n4 (e▸hx)⟩
 .rintro ⟨hx,hne⟩;rw [e,List.mem_append,List.mem_cons] at hx;rcases hx with hx|rfl|hx
  .exact .inl hx
  .exact absurd rfl hne
  .exact .inr hx
theorem C2q(nd:xs.Nodup):(del xs j).Nodup:=by
 have:(del xs j).Sublist xs:=by
  unfold del
  conv=>rhs;rw [<- List.take_append_drop j xs]
  exact(List.Sublist.refl _).append (List.drop_sublist_drop_left xs (by omega))
 exact nd.sublist this
theorem QL{M:List (Int×Value)}{k b:Int}:(M.filter λp=>p.1 != k).lookup b=if b=k then none else M.lookup b:=by
 induction M with
 | nil=>simp
 | cons p M ih=>
  obtain⟨a,v⟩:=p;by_cases h:a=k
  .subst h;have e:((a,v)::M).filter (λp=>p.1 != a)=M.filter λp=>p.1 != a:=by simp
   rw [e,ih];by_cases hb:b=a
   .rw [if_pos hb,if_pos hb]
   .rw [if_neg hb,if_neg hb,List.lookup_cons];have:(b==a)=false:=by simpa using hb
    rw [this]
  .have e:((a,v)::M).filter (λp=>p.1 != k)=(a,v)::M.filter λp=>p.1 != k:=by simp [h]
   rw [e,List.lookup_cons,List.lookup_cons,ih];by_cases hb:b=a
   .subst hb;simp [h]
   .have:(b==a)=false:=by simpa using hb
    rw [this]
theorem NV{M:List ((Int×Int)×Value)}{k b:Int×Int}:(M.filter λp=>p.1 != k).lookup b=if b=k then none else M.lookup b:=by
 induction M with
 | nil=>simp
 | cons p M ih=>
  obtain⟨a,v⟩:=p;by_cases h:a=k
  .subst h;have e:((a,v)::M).filter (λp=>p.1 != a)=M.filter λp=>p.1 != a:=by simp
   rw [e,ih];by_cases hb:b=a
   .rw [if_pos hb,if_pos hb]
   .rw [if_neg hb,if_neg hb,List.lookup_cons];have:(b==a)=false:=by simpa using hb
    rw [this]
  .have e:((a,v)::M).filter (λp=>p.1 != k)=(a,v)::M.filter λp=>p.1 != k:=by simp [h]
   rw [e,List.lookup_cons,List.lookup_cons,ih];by_cases hb:b=a
   .subst hb;simp [h]
   .have:(b==a)=false:=by simpa using hb
    rw [this]
inductive Pg where
 | no|fr (f:Nat)|sl (s:Nat)
deriving DecidableEq
def Pg.KA:Pg->Bool
 | .fr _=>true
 | _=>false
def EE(rt lf:Nat)(pg:Nat->Pg)(A:List Nat)(hh:Nat->List Nat)(f:Nat):Prop:=f=rt\/f=lf\/(∃j,pg j=.fr f)\/f∈A\/∃i,f∈hh i
def C0e:Pg->Int
 | .no=>0
 | .fr f=>1+4*(f:Int)
 | .sl s=>2+4*(s:Int)
def DK(j n:Nat):Int:=(((j+n)%256:Nat):Int)
structure Tk where
 lks:List Nat
 gn:Option (Nat×Nat)
 sl:Option Nat
 wr:Bool
def Tk.no:Tk:=⟨[],none,none,false⟩
def Tk.fl(T:Tk):Int:=match T.sl with|some s=>s|none=>-1
def Tk.n(T:Tk):Nat:=match T.sl with|some _=>1|none=>0
structure LkR(lh:NI)(tq:Nat->Tk)(n:Nat):Prop where
 a:∀i j,j∈(tq i).lks↔lh j=(i:Int)+1
 b:∀j,lh j=0\/∃i,i<n/\lh j=(i:Int)+1
structure TkO(S:AR)(pg:Nat->Pg)(pin:Nat->Bool)(T:Tk):Prop where
 g:∀f p,T.gn=some (f,p)->0∈T.lks/\pg p=.fr f/\pin p=false
 s:∀s,T.sl=some s->∃f p,T.gn=some (f,p)/\s<S.AY/\S.sof s=(1,(p:Int))/\(T.wr=true->∀n,n<256->S.dv (s*256+n)=DK p n)
abbrev h0:Nat->List Nat:=λ_=>[]
abbrev tk0:Nat->Tk:=λ_=>Tk.no
structure QSt(S:AR)(rt lf:Nat)(pg:Nat->Pg)(pin:Nat->Bool)(A:List Nat)(hh:Nat->List Nat)(tq:Nat->Tk)(cnt tot:Nat):Prop where
 by':ByR S.by'
 rl:rt<S.n/\lf<S.n/\rt≠lf
 sp:∃b,S.sp=λi=>if i=1 then some b else none
 root:S.root 1=rt
 w0:wdF S.by' S.n rt 0=1+4*(lf:Int)
 wz:∀j:Int,1<=j->j<=31->wdF S.by' S.n rt j=0
 wl:∀j:Nat,j<32->wdF S.by' S.n lf j=C0e (pg j)
 pgo:∀j f,pg j=.fr f->j<32/\f<S.n/\f≠rt/\f≠lf/\f∉A/\∀i,f∉hh i
 pgs:∀j s,pg j=.sl s->j<32/\s<S.AY/\S.sof s=(1,(j:Int))
 inj:∀j j' f,pg j=.fr f->pg j'=.fr f->j=j'
 Ao:∀f,f∈A->f<S.n/\f≠rt/\f≠lf/\∀i,f∉hh i
 And:A.Nodup
 hdr:∀i f,f∈hh i->f<S.n/\f≠rt/\f≠lf
 hnd:∀i,(hh i).Nodup
 hin:∀i j f,f∈hh i->f∈hh j->i=j
 hz:∀i,S.AS<=i->hh i=[]/\tq i=Tk.no
 rof1:∀j f,pg j=.fr f->S.rof f=(1,(j:Int))
 rof2:∀f,f<S.n->(S.rof f).1≠0->∃j,pg j=.fr f
 rat1:∀kk v,S.rat.lookup kk=some v->∃j f,kk=(1,((j:Nat):Int))/\pg j=.fr f/\v=vi f
 rat2:∀j f,pg j=.fr f->(S.rat.lookup (1,(j:Int))).isSome=true
 ck:∀i,i<S.AK->FM (S.ring i) (S.cof i)
 ckm:∀i,i<S.AK->∀x:Int,x∈S.ring i↔∃j f,pg j=.fr f/\x=(f:Nat)/\AU S.c i<=f/\(f:Int)<AU S.c (i+1)
 mk1:S.mks rt=CK/\S.mks lf=CK
 mkA:∀f,f∈A->S.mks f=CK
 mk2:∀j f,pg j=.fr f->S.mks f=B8a j
 mkh:∀i f,f∈hh i->S.mks f=O4 4
 mk3:∀f,f<S.n->¬EE rt lf pg A hh f->S.mks f=CX
 tk1:∀i,i<S.AK->∀y∈S.L i,y.g=1->y.o=0/\EE rt lf pg A hh (gfr S i y)
 tk2:∀f,EE rt lf pg A hh f->∃i y,i<S.AK/\y∈S.L i/\y.g=1/\gfr S i y=f
 so:∀s,s<S.AY->S.sof s=(0,0)\/(∃j,pg j=.sl s)\/∃i,(tq i).sl=some s
 byf:∀j f,pg j=.fr f->∀n,n<256->S.by' (f*256+n)=DK j n
 bys:∀j s,pg j=.sl s->∀n,n<256->S.dv (s*256+n)=DK j n
 pinE:∀j,j<32->(S.pins 1).testBit j=pin j
 pinF:∀j,pin j=true->∃f,pg j=.fr f
 cp:((range 32).filter λj=>(pg j).KA).length=cnt
 cc:CY S.AK (λi=>(S.ring i).length)=cnt
 cu:(owns S.AY S.sof).length+cnt=tot+CY S.AS (λi=>(tq i).n)
 cf:CY S.AK (λi=>BD (S.L i))+cnt+2+A.length+CY S.AS (λi=>(hh i).length)=S.n
 held:S.held=λi=>(hh i).map λf:Nat=>(f:Int)
 fli:S.fli=(range S.AS).map λi=>(tq i).fl
 lk:LkR S.lh tq S.AS
 ok:∀i,TkO S pg pin (tq i)
section
variable {w:WD}{k:Nat}{S:AR}{fp:Prt->Nat->Prop}{rt lf cnt tot:Nat}{pg:Nat->Pg}{pin:Nat->Bool}{A:List Nat}{hh:Nat->List Nat}{tq:Nat->Tk}
theorem QSt.C2s(L:QSt S rt lf pg pin A hh tq cnt tot):cnt<=32:=by
 rw [<- L.cp];exact Nat.le_trans (List.length_filter_le _ _) (by simp)
theorem B0a{n t:Nat}{f:Nat->Nat}(ht:t<n):f t<=CY n f:=by
 induction n with
 | zero=>omega
 | succ n ih=>
  rw [CQ];by_cases e:t=n
  .subst e;omega
  .have:=ih (by omega);omega
theorem QSt.A2r(L:QSt S rt lf pg pin A hh tq cnt tot)(hi:i<S.AK):(S.ring i).length<=32:=by
 have h1:=B0a (f:=λi=>(S.ring i).length) hi;have h2:=L.cc;have:=L.C2s;omega
theorem QSt.O1(L:QSt S rt lf pg pin A hh tq cnt tot):(hh i).length<=S.n:=by
 by_cases hi:i<S.AS
 .have h1:=B0a (f:=λi=>(hh i).length) hi;have:=L.cf;omega
 .rw [(L.hz i (by omega)).1];exact Nat.zero_le _
theorem QSt.B8y(L:QSt S rt lf pg pin A hh tq cnt tot)(hn:S.n<=1024):∀i,i<S.AS->(S.held i).length<=100000:=λi _=>by
 rw [L.held,lmp];have:=L.O1 (i:=i);omega
theorem QSt.sp1(L:QSt S rt lf pg pin A hh tq cnt tot):∃b,S.sp 1=some b:=by
 obtain⟨b,hb⟩:=L.sp;exact⟨b,by rw [hb];rfl⟩
theorem QSt.KZ(L:QSt S rt lf pg pin A hh tq cnt tot)(hi:i<S.AK){r:List Int}{o:List (Int×Value)}(R:FM r o/\r.length=(S.ring i).length/\∀x,x∈r↔x∈S.ring i):QSt (S.Q0 i r o) rt lf pg pin A hh tq cnt tot:=by
 obtain⟨r1,r2,r3⟩:=R;exact {L with
  ck:=λt ht=>by
   show FM (upd S.ring i r t) (upd S.cof i o t)
   by_cases e:t=i
   .subst e;rw [AF,AF];exact r1
   .rw [AI _ _ e,AI _ _ e];exact L.ck t ht
  ckm:=λt ht x=>by
   show x∈upd S.ring i r t↔_
   by_cases e:t=i
   .subst e;rw [AF,r3];exact L.ckm t ht x
   .rw [AI _ _ e];exact L.ckm t ht x
  ok:=λj=>⟨(L.ok j).g,(L.ok j).s⟩
  cc:=by
   have e:∀t,t<S.AK->(upd S.ring i r t).length=(S.ring t).length:=λt _=>by
    by_cases e:t=i
    .subst e;rw [AF,r2]
    .rw [AI _ _ e]
   show CY S.AK (λt=>(upd S.ring i r t).length)=cnt
   rw [A54 e];exact L.cc}
theorem QSt.lfE0(L:QSt S rt lf pg pin A hh tq cnt tot)(h:AO w k S fp){page:Int}(hp:0<=page/\page<32):lfE S.by' S.n (S.root 1) page=0/\lfN S.by' S.n (S.root 1) page=lf:=by
 have hn:=h.n4;have hl:=L.rl;have ht:Int.tdiv page 32=0:=by rw [Int.tdiv_eq_ediv_of_nonneg hp.1];omega
 have hw:wdE S.n (rt:Int) 0=0:=DH;have he:enE (1+4*(lf:Int))=0:=by unfold enE;rw [if_neg (by omega)]
 have hE:rdE S.by' S.n (rt:Int) 0=0:=by unfold rdE;rw [if_neg (by omega),L.w0,he]
 have hK:rdK S.by' S.n (rt:Int) 0=1:=by unfold rdK;rw [if_pos hE,L.w0];omega
 have hN:rdN S.by' S.n (rt:Int) 0=lf:=by unfold rdN;rw [if_pos hE,L.w0];omega
 have h0:lfE S.by' S.n (S.root 1) page=0:=by
  unfold lfE;rw [L.root,ht,if_neg (by omega),hE,if_neg (by omega),hK,if_neg (by omega),if_pos rfl]
 refine⟨h0,?_⟩;unfold lfN;rw [if_pos h0,L.root,ht,hN]
def A43:Pg->Int
 | .no=>0
 | .fr _=>1
 | .sl _=>2
def B8i:Pg->Int
 | .no=>0
 | .fr f=>f
 | .sl s=>s
theorem QSt.numR(L:QSt S rt lf pg pin A hh tq cnt tot)(h:AO w k S fp)(j:Nat):0<=B8i (pg j)/\B8i (pg j)<=1024:=by
 have hn:=h.n4;have hs:=h.BQ
 cases e:pg j with
 | no=>exact⟨Int.le_refl _,by decide⟩
 | fr f=>have:=(L.pgo j f e).2.1;show 0<=(f:Int)/\(f:Int)<=1024;omega
 | sl s=>have:=(L.pgs j s e).2.1;show 0<=(s:Int)/\(s:Int)<=1024;omega
theorem QSt.get(L:QSt S rt lf pg pin A hh tq cnt tot)(h:AO w k S fp)(hj:j<32):gtE S.by' S.n (S.root 1) (j:Int)=0/\gtK S.by' S.n (S.root 1) (j:Int)=A43 (pg j)/\gtN S.by' S.n (S.root 1) (j:Int)=B8i (pg j):=by
 have hn:=h.n4;have hl:=L.rl;obtain⟨h0,h1⟩:=L.lfE0 h (page:=j) (by omega);have ht:Int.tmod (j:Int) 32=j:=by rw [Int.tmod_eq_emod_of_nonneg (by omega)];omega
 have hw:wdE S.n (lf:Int) (j:Int)=0:=DH;have hv:=L.wl j hj;have hr:=L.numR h j;have hkn:C0e (pg j)=A43 (pg j)+4*B8i (pg j)/\0<=A43 (pg j)/\A43 (pg j)<=2/\(A43 (pg j)=0->B8i (pg j)=0):=by
  cases pg j with
  | no=>exact⟨rfl,by decide,by decide,λ_=>rfl⟩
  | fr f=>exact⟨rfl,(by decide:(0:Int)<=1),(by decide:(1:Int)<=2),λh=>absurd (show(1:Int)=0 from h) (by decide)⟩
  | sl s=>exact⟨rfl,(by decide:(0:Int)<=2),(by decide:(2:Int)<=2),λh=>absurd (show(2:Int)=0 from h) (by decide)⟩
 rw [hkn.1] at hv;generalize A43 (pg j)=kd at *;generalize B8i (pg j)=nm at *;have he:enE (kd+4*nm)=0:=by
  unfold enE;rw [if_neg];omega
 have hE:rdE S.by' S.n (lf:Int) (j:Int)=0:=by unfold rdE;rw [if_neg (by omega),hv,he]
 unfold gtE gtK gtN;rw [h0,h1,ht,if_neg (by omega),if_neg (by omega),if_pos rfl,if_pos rfl];unfold rdK rdN;rw [hE,hv,if_pos rfl,if_pos rfl];refine⟨rfl,?_,?_⟩
 .show(kd+4*nm)%4=kd;omega
 .show(kd+4*nm)/4=nm;omega
theorem QSt.node(L:QSt S rt lf pg pin A hh tq cnt tot)(h:AO w k S fp)(hu:EE rt lf pg A hh f):∃i,i<S.AK/\AU S.c i<=f/\(f:Int)<AU S.c (i+1):=by
 obtain⟨t,y,ht,hy,hyg,he⟩:=L.tk2 f hu;have hyo:=(L.tk1 t ht y hy hyg).1;have hyt:=BI (h.IQ ht) hy;rw [hyo] at hyt;have hft:=h.fst ht;unfold gfr at he;exact⟨t,ht,by omega,by omega⟩
theorem QSt.C7b(L:QSt S rt lf pg pin A hh tq cnt tot)(h:AO w k S fp)(hu:EE rt lf pg A hh f)(hi:i<S.AK)(h1:AU S.c i<=f)(h2:(f:Int)<AU S.c (i+1)):((f:Int)-AU S.c i,(0:Int))∈tk (S.L i):=by
 obtain⟨j,y,hj,hy,hyg,he⟩:=L.tk2 f hu;have hyo:=(L.tk1 j hj y hy hyg).1;have hyt:=BI (h.IQ hj) hy;rw [hyo] at hyt;have hfj:=h.fst hj;unfold gfr at he;have:j=i:=CR h.my (f:=(f:Int)) (by unfold AR.AK at hj;exact hj) (by unfold AR.AK at hi;exact hi) (by omega) (by omega) h1 h2;subst this;have hyp:((y.p:Nat):Int)=(f:Int)-AU S.c j:=by omega
 exact List.mem_map.2 ⟨y,List.mem_filter.2 ⟨hy,by simpa using hyg⟩,by rw [hyp,hyo];rfl⟩
theorem QSt.evP(L:QSt S rt lf pg pin A hh tq cnt tot)(h:AO w k S fp)(hp:pg p=.fr f):∃i j,EvR S i p f j:=by
 obtain⟨i,hi,h1,h2⟩:=L.node h (.inr (.inr (.inl ⟨p,hp⟩)));obtain⟨j,hj⟩:=B50 ((L.ckm i hi (f:Int)).2 ⟨p,f,hp,rfl,h1,h2⟩);obtain⟨a1,a2,a3,a4,a5,a6⟩:=L.pgo p f hp;obtain⟨g1,g2,g3⟩:=L.get h a1;rw [hp] at g2 g3;exact⟨i,j,hi,h1,h2,a2,a1,L.sp1,L.by',L.rof1 p f hp,g1,g2,g3,L.ck i hi,hj,by have:=L.A2r hi;omega,L.C7b h (.inr (.inr (.inl ⟨p,hp⟩))) hi h1 h2⟩
end
theorem LkR.nd{tq:Nat->Tk}{n:Nat}(h:LkR lh tq n)(h1:l∈(tq i).lks)(h2:l∈(tq j).lks):i=j:=by
 have a:=(h.a i l).1 h1;have b:=(h.a j l).1 h2;omega
theorem LkR.take{tq:Nat->Tk}{n:Nat}{T:Tk}(h:LkR lh tq n)(hi:i<n)(h0:lh l=0)(hT:∀j,j∈T.lks↔j=l\/j∈(tq i).lks):LkR (upd lh l (i+1)) (upd tq i T) n:=by
 refine⟨λj x=>?_,λx=>?_⟩
 .by_cases e:j=i
  .subst e;rw [AF,hT];by_cases e2:x=l
   .subst e2;rw [AF];simp
   .rw [AI _ _ e2,h.a];simp [e2]
  .rw [AI _ _ e,h.a];by_cases e2:x=l
   .subst e2;rw [AF,h0];constructor <;> intro <;> omega
   .rw [AI _ _ e2]
 .by_cases e2:x=l
  .subst e2;exact .inr ⟨i,hi,AF _ _ _⟩
  .rw [AI _ _ e2];exact h.b x
theorem LkR.free{tq:Nat->Tk}{n:Nat}{xs:List Nat}{T:Tk}(h:LkR lh tq n)(hx:∀x∈xs,x∈(tq i).lks)(hT:∀j,j∈T.lks↔j∈(tq i).lks/\j∉xs):LkR (unl lh xs 0) (upd tq i T) n:=by
 have hu:∀x,unl lh xs 0 x=if x∈xs then 0 else lh x:=λx=>rfl
 refine⟨λj x=>?_,λx=>?_⟩
 .rw [hu];by_cases e:j=i
  .subst e;rw [AF,hT];by_cases e2:x∈xs
   .rw [if_pos e2];simp [e2];omega
   .rw [if_neg e2,h.a];simp [e2]
  .rw [AI _ _ e,h.a];by_cases e2:x∈xs
   .rw [if_pos e2];have:=(h.a i x).1 (hx x e2);constructor <;> intro <;> omega
   .rw [if_neg e2]
 .rw [hu];split
  .exact .inl rfl
  .exact h.b x
theorem LkR.same{tq:Nat->Tk}{n:Nat}{T:Tk}(h:LkR lh tq n)(hT:T.lks=(tq i).lks):LkR lh (upd tq i T) n:=by
 refine⟨λj x=>?_,h.b⟩;by_cases e:j=i
 .subst e;rw [AF,hT];exact h.a j x
 .rw [AI _ _ e];exact h.a j x
theorem RR{n:Nat}{p:Int}(hp:0<=p/\p<=31)(hf:f≠lf)(hm:m<256):wdS by' n lf p x (f*256+m)=by' (f*256+m):=by
 unfold wdS;split
 .refine A08 ?_;unfold wdO;have:f<lf\/lf<f:=by omega
  omega
 .rfl
theorem A9v{n:Nat}{a b:Int}(h:a≠f):wdF (DA by' (f*256) 256) n a b=wdF by' n a b:=by
 unfold wdF;by_cases h1:wdE n a b=0
 .obtain⟨g1,g2,g3,g4⟩:=A5y h1;rw [if_pos h1,if_pos h1];refine IY λj hj=>?_;unfold DA wdO;rw [if_neg];have:a.toNat<f\/f<a.toNat:=by omega
  omega
 .rw [if_neg h1,if_neg h1]
theorem B0b{by'':NI}{n rt:Nat}{kd N:Int}(hn:n<=1024)(hr:rt<n)(hl:lf<n)(h0:wdF by'' n rt 0=1+4*(lf:Int))(hp:p<32)(hk:(kd=0/\N=0)\/((kd=1\/kd=2)/\0<=N/\N<=65535)):stS by'' n rt p kd N=wdS by'' n lf p (kd+4*N):=by
 have ht:Int.tdiv (p:Int) 32=0:=by rw [Int.tdiv_eq_ediv_of_nonneg (by omega)];omega
 have htm:Int.tmod (p:Int) 32=p:=by rw [Int.tmod_eq_emod_of_nonneg (by omega)];omega
 have hw:wdE n (rt:Int) 0=0:=DH;have he:enE (1+4*(lf:Int))=0:=by unfold enE;rw [if_neg (by omega)]
 have hE:rdE by'' n (rt:Int) 0=0:=by unfold rdE;rw [if_neg (by omega),h0,he]
 have hK:rdK by'' n (rt:Int) 0=1:=by unfold rdK;rw [if_pos hE,h0];omega
 have hN:rdN by'' n (rt:Int) 0=lf:=by unfold rdN;rw [if_pos hE,h0];omega
 have l0:lfE by'' n rt p=0:=by
  unfold lfE;rw [ht,if_neg (by omega),hE,if_neg (by omega),hK,if_neg (by omega),if_pos rfl]
 have l1:lfN by'' n rt p=lf:=by
  unfold lfN;rw [if_pos l0,ht,hN]
 have hew:ewE kd N=0:=by
  unfold ewE;rcases hk with⟨rfl,rfl⟩|⟨rfl|rfl,h⟩
  .rfl
  .rw [if_neg (by decide),if_pos (.inl rfl),if_pos h]
  .rw [if_neg (by decide),if_pos (.inr (.inl rfl)),if_pos h]
 have hewF:ewF kd N=kd+4*N:=by unfold ewF;rw [if_pos hew]
 have hwl:wdE n (lf:Int) (p:Int)=0:=DH;have:stE by'' n rt p kd N=0:=by unfold stE;rw [if_neg (by omega),l0,if_neg (by omega),l1,htm,hwl]
 unfold stS;rw [if_pos this,l1,htm,hewF]
theorem B4x{of:Nat->Int×Int}{n:Nat}(h:(of p).1≠0):(owns n (upd of p (0,0))).length+(if p<n then 1 else 0)=(owns n of).length:=by
 have h1:=A1f (of:=upd of p (0,0)) (p:=p) (v:=of p) h (n:=n) (by rw [AF]);have e:upd (upd of p (0,0)) p (of p)=of:=by
  funext x;by_cases e:x=p
  .subst e;rw [AF]
  .rw [AI _ _ e,AI _ _ e]
 rw [e] at h1;omega
theorem PF{q:Nat->Bool}{q':Nat->Bool}{p:Nat}(hq:∀j,j≠p->q' j=q j):∀{n:Nat},p<n->((range n).filter q').length+(if q p then 1 else 0)=((range n).filter q).length+(if q' p then 1 else 0)
 | 0,h=>absurd h (nlz _)
 | n+1,h=>by
  rw [List.range_succ,List.filter_append,List.filter_append,lap,lap];by_cases e:p=n
  .subst e;have:((range p).filter q')=((range p).filter q):=List.filter_congr λx hx=>hq x (by have:=List.mem_range.1 hx;omega);rw [this]
   cases hq1:q p <;> cases hq2:q' p <;> simp [hq1,hq2]
  .have ih:=PF hq (n:=n) (by omega);have e2:q' n=q n:=hq n (Ne.symm e);simp only [List.filter_cons,List.filter_nil,e2];omega
def AR.done(S:AR)(c i p f j s:Nat)(l':List Bk)(lh':NI):AR:=
 {S with by':=stS (stS S.by' S.n (S.root 1) p 0 0) S.n (S.root 1) p 2 s,rof:=upd S.rof f (0,0),rat:=S.rat.filter λq=>q.1 != S.rof f,ring:=upd S.ring i (del (S.ring i) j),cof:=upd S.cof i ((S.cof i).filter λq=>q.1 != (f:Int)),fli:=S.fli.set c (-1),L:=upd S.L i l',mks:=smS S.mks S.n f CX,lh:=lh'}
section
variable {w:WD}{k:Nat}{S:AR}{fp:Prt->Nat->Prop}{rt lf cnt tot:Nat}{pg:Nat->Pg}{pin:Nat->Bool}{A:List Nat}{hh:Nat->List Nat}{tq:Nat->Tk}
theorem QSt.B8j(L:QSt S rt lf pg pin A hh tq cnt tot)(hp:pg p=.fr f):f≠rt/\f≠lf/\f∉A/\∀i,f∉hh i:=by
 obtain⟨_,_,a,b,c,d⟩:=L.pgo p f hp;exact⟨a,b,c,d⟩
theorem QSt.one(L:QSt S rt lf pg pin A hh tq cnt tot)(h:(tq i).gn=some (f,p))(e:j≠i):(tq j).gn=none/\(tq j).sl=none:=by
 have h1:(tq j).gn=none:=by
  cases hg:(tq j).gn with
  | none=>rfl
  | some x=>exact absurd (L.lk.nd ((L.ok j).g x.1 x.2 hg).1 ((L.ok i).g f p h).1) e
 refine⟨h1,?_⟩
 cases hs:(tq j).sl with
 | none=>rfl
 | some s=>
  obtain⟨f,p,hg,_⟩:=(L.ok j).s s hs;rw [h1] at hg;cases hg
theorem QSt.cpl(L:QSt S rt lf pg pin A hh tq cnt tot)(h:tq i≠Tk.no):i<S.AS:=Nat.lt_of_not_le λe=>h (L.hz i e).2
theorem B2o{n:Nat}{tq:Nat->Tk}{T:Tk}(hi:i<n):((range n).map λi=>(tq i).fl).set i T.fl=(range n).map λj=>(upd tq i T j).fl:=by
 refine List.ext_getElem? λj=>?_;rw [List.getElem?_set,lmp,List.length_range,gmp,gmp];by_cases e:i=j
 .subst e;rw [if_pos rfl,if_pos hi,List.getElem?_range hi];simp
 .rw [if_neg e];by_cases e2:j<n
  .rw [List.getElem?_range e2];simp [AI _ _ (Ne.symm e)]
  .rw [gen (by simp;omega)];rfl
theorem B8m{n:Nat}{tq:Nat->Tk}{T:Tk}(hi:i<n):CY n (λj=>(upd tq i T j).n)+(tq i).n=CY n (λj=>(tq j).n)+T.n:=by
 have e:(λj=>(upd tq i T j).n)=upd (λj=>(tq j).n) i T.n:=by
  funext j;by_cases e:j=i
  .subst e;rw [AF,AF]
  .rw [AI _ _ e,AI _ _ e]
 rw [e];exact HE (n:=n) (f:=λj=>(tq j).n) (v:=T.n) hi
theorem B2p{tq:Nat->Tk}{T:Tk}(h:T.sl=(tq i).sl):(λj=>(upd tq i T j).fl)=λj=>(tq j).fl:=by
 funext j;by_cases e:j=i
 .subst e;rw [AF];unfold Tk.fl;rw [h]
 .rw [AI _ _ e]
theorem B67{tq:Nat->Tk}{T:Tk}(h:T.sl=(tq i).sl):(λj=>(upd tq i T j).n)=λj=>(tq j).n:=by
 funext j;by_cases e:j=i
 .subst e;rw [AF];unfold Tk.n;rw [h]
 .rw [AI _ _ e]
theorem QSt.B9w(L:QSt S rt lf pg pin A hh tq cnt tot){T:Tk}(hi:i<S.AS)(hl:LkR lh' (upd tq i T) S.AS)(hs:T.sl=(tq i).sl)(hT:TkO S pg pin T):QSt (S.IB lh') rt lf pg pin A hh (upd tq i T) cnt tot:=
 {L with
  hz:=λj hj=>⟨(L.hz j hj).1,by rw [AI _ _ (by have:S.AS<=j:=hj;omega)];exact(L.hz j hj).2⟩
  so:=λs h=>(L.so s h).imp id λh=>h.imp id λ⟨j,hj⟩=>⟨j,by
   by_cases e:j=i
   .subst e;rw [AF,hs];exact hj
   .rw [AI _ _ e];exact hj⟩
  cu:=by rw [B67 hs];exact L.cu
  fli:=by rw [B2p hs];exact L.fli
  lk:=hl
  ok:=λj=>by
   by_cases e:j=i
   .subst e;rw [AF];exact⟨hT.g,hT.s⟩
   .rw [AI _ _ e];exact⟨(L.ok j).g,(L.ok j).s⟩}
theorem QSt.resv(L:QSt S rt lf pg pin A hh tq cnt tot){T:Tk}(hi:i<S.AS)(hg:(tq i).gn=some (f,p))(h0:(tq i).sl=none)(hs:s<S.AY)(hs0:S.sof s=(0,0))(hl:LkR lh' (upd tq i T) S.AS)(t1:0∈T.lks)(t2:T.gn=some (f,p))(t3:T.sl=some s)(t4:T.wr=false) :
 QSt {S with lh:=lh',sof:=upd S.sof s (1,(p:Int)),fli:=S.fli.set i (s:Int)} rt lf pg pin A hh (upd tq i T) cnt tot:=by
 have hns:∀j u,pg j=.sl u->u≠s:=λj u e e2=>by
  have:=(L.pgs j u e).2.2;rw [e2,hs0] at this
  cases this
 exact {L with
  pgs:=λj u e=>by
   obtain⟨a1,a2,a3⟩:=L.pgs j u e;refine⟨a1,a2,?_⟩
   show upd S.sof s _ u=_
   rw [AI _ _ (hns j u e)];exact a3
  hz:=λj hj=>⟨(L.hz j hj).1,by rw [AI _ _ (by have:S.AS<=j:=hj;omega)];exact(L.hz j hj).2⟩
  so:=λu hu=>by
   show upd S.sof s _ u=_\/_
   by_cases e:u=s
   .subst e;exact .inr (.inr ⟨i,by rw [AF];exact t3⟩)
   .rw [AI _ _ e];refine(L.so u hu).imp id λh=>h.imp id λ⟨j,hj⟩=>⟨j,?_⟩;rw [AI _ _ (λe2=>by rw [e2,h0] at hj;cases hj)];exact hj
  cu:=by
   have h4:=A1f (of:=S.sof) (p:=s) (v:=(1,(p:Int))) (by show(1:Int)≠0;decide) (n:=S.AY) (by rw [hs0]);rw [if_pos hs] at h4;have h5:=L.cu;have h6:=B8m (tq:=tq) (T:=T) hi;have e1:(tq i).n=0:=by unfold Tk.n;rw [h0]
   have e2:T.n=1:=by unfold Tk.n;rw [t3]
   show(owns S.AY (upd S.sof s (1,(p:Int)))).length+cnt=tot+CY S.AS (λj=>(upd tq i T j).n)
   omega
  fli:=by
   have e:T.fl=(s:Int):=by unfold Tk.fl;rw [t3]
   show S.fli.set i (s:Int)=_
   rw [L.fli,<- e];exact B2o hi
  lk:=hl
  ok:=λj=>by
   by_cases e:j=i
   .subst e;rw [AF];obtain⟨_,a2,a3⟩:=(L.ok j).g f p hg;refine⟨λf' p' h=>?_,λu hu=>?_⟩
    .rw [t2] at h;cases h;exact⟨t1,a2,a3⟩
    .rw [t3] at hu;cases hu;exact⟨f,p,t2,hs,AF _ _ _,λh=>by rw [t4] at h;cases h⟩
   .rw [AI _ _ e];obtain⟨h1,h2⟩:=L.one hg e;exact⟨(L.ok j).g,λu hu=>by rw [h2] at hu;cases hu⟩}
theorem QSt.wrote(L:QSt S rt lf pg pin A hh tq cnt tot){T:Tk}(hi:i<S.AS)(hg:(tq i).gn=some (f,p))(hs:(tq i).sl=some s)(t0:T={tq i with wr:=true}) :
 QSt {S with dv:=JR S.dv (s*256) 256 λj=>S.by' (f*256+j)} rt lf pg pin A hh (upd tq i T) cnt tot:=by
 subst t0;obtain⟨f',p',hg',hsl,hso,_⟩:=(L.ok i).s s hs;rw [hg] at hg'
 cases hg'
 obtain⟨z1,z2,z3⟩:=(L.ok i).g f p hg;exact {L with
  hz:=λj hj=>⟨(L.hz j hj).1,by rw [AI _ _ (by have:S.AS<=j:=hj;omega)];exact(L.hz j hj).2⟩
  so:=λu h=>(L.so u h).imp id λh=>h.imp id λ⟨j,hj⟩=>⟨j,by
   by_cases e:j=i
   .subst e;rw [AF];exact hj
   .rw [AI _ _ e];exact hj⟩
  cu:=by
   show(owns S.AY S.sof).length+cnt=tot+CY S.AS (λj=>(upd tq i {tq i with wr:=true} j).n)
   rw [B67 (i:=i) (tq:=tq) (T:={tq i with wr:=true}) rfl];exact L.cu
  fli:=by
   show S.fli=(range S.AS).map λj=>(upd tq i {tq i with wr:=true} j).fl
   rw [B2p (i:=i) (tq:=tq) (T:={tq i with wr:=true}) rfl];exact L.fli
  lk:=L.lk.same rfl
  bys:=λt u e m hm=>by
   show JR S.dv (s*256) 256 (λj=>S.by' (f*256+j)) (u*256+m)=_
   have hus:u≠s:=λe2=>by
    have:=(L.pgs t u e).2.2;rw [e2,hso] at this;have:t=p:=by simp at this;omega
    rw [this,z2] at e;cases e
   unfold JR;rw [if_neg (by have:u<s\/s<u:=(by omega);omega)];exact L.bys t u e m hm
  ok:=λj=>by
   by_cases e:j=i
   .subst e;rw [AF];refine⟨(L.ok j).g,λu hu=>?_⟩;have hu:(tq j).sl=some u:=hu;rw [hs] at hu;cases hu;refine⟨f,p,hg,hsl,hso,λ_ n hn=>?_⟩
    show JR S.dv (s*256) 256 (λj=>S.by' (f*256+j)) (s*256+n)=_
    unfold JR;rw [if_pos (by omega),show s*256+n-s*256=n by omega];exact L.byf p f z2 n hn
   .rw [AI _ _ e];obtain⟨h1,h2⟩:=L.one hg e;exact⟨(L.ok j).g,λu hu=>by rw [h2] at hu;cases hu⟩}
theorem QSt.back(L:QSt S rt lf pg pin A hh tq cnt tot){T:Tk}(hi:i<S.AS)(hg:(tq i).gn=some (f,p))(hs:(tq i).sl=some s)(hl:LkR lh' (upd tq i T) S.AS)(t2:T.gn=none)(t3:T.sl=none) :
 QSt {S with lh:=lh',sof:=upd S.sof s (0,0),fli:=S.fli.set i (-1)} rt lf pg pin A hh (upd tq i T) cnt tot:=by
 obtain⟨f',p',hg',hsl,hso,_⟩:=(L.ok i).s s hs;rw [hg] at hg'
 cases hg'
 obtain⟨z1,z2,z3⟩:=(L.ok i).g f p hg;have hns:∀j u,pg j=.sl u->u≠s:=λt u e e2=>by
  have:=(L.pgs t u e).2.2;rw [e2,hso] at this;have:t=p:=by simp at this;omega
  rw [this,z2] at e;cases e
 exact {L with
  pgs:=λj u e=>by
   obtain⟨a1,a2,a3⟩:=L.pgs j u e;refine⟨a1,a2,?_⟩
   show upd S.sof s _ u=_
   rw [AI _ _ (hns j u e)];exact a3
  hz:=λj hj=>⟨(L.hz j hj).1,by rw [AI _ _ (by have:S.AS<=j:=hj;omega)];exact(L.hz j hj).2⟩
  so:=λu hu=>by
   show upd S.sof s _ u=_\/_
   by_cases e:u=s
   .subst e;exact .inl (AF _ _ _)
   .rw [AI _ _ e];refine(L.so u hu).imp id λh=>h.imp id λ⟨j,hj⟩=>⟨j,?_⟩;rw [AI _ _ (λe2=>by rw [e2,hs] at hj;cases hj;exact e rfl)];exact hj
  cu:=by
   have h4:=B4x (of:=S.sof) (p:=s) (n:=S.AY) (by rw [hso];show(1:Int)≠0;decide);rw [if_pos hsl] at h4;have h5:=L.cu;have h6:=B8m (tq:=tq) (T:=T) hi;have e1:(tq i).n=1:=by unfold Tk.n;rw [hs]
   have e2:T.n=0:=by unfold Tk.n;rw [t3]
   show(owns S.AY (upd S.sof s (0,0))).length+cnt=tot+CY S.AS (λj=>(upd tq i T j).n)
   omega
  fli:=by
   have e:T.fl=(-1:Int):=by unfold Tk.fl;rw [t3]
   show S.fli.set i (-1)=_
   rw [L.fli,<- e];exact B2o hi
  lk:=hl
  ok:=λj=>by
   by_cases e:j=i
   .subst e;rw [AF];exact⟨λf' p' h=>(by rw [t2] at h;cases h),λu hu=>(by rw [t3] at hu;cases hu)⟩
   .rw [AI _ _ e];obtain⟨h1,h2⟩:=L.one hg e;exact⟨(L.ok j).g,λu hu=>by rw [h2] at hu;cases hu⟩}
set_option maxHeartbeats 2000000 in
theorem QSt.done (L:QSt S rt lf pg pin A hh tq cnt tot) (h:AO w k S fp) {c:Nat}{l':List Bk}  {T:Tk} (hi:i<S.AK) (h1:AU S.c i<=f) (h2:(f:Int)<AU S.c (i+1)) (hc:c<S.AS) (hg:(tq c).gn=some (f,p)) (hsl:(tq c).sl=some s) (hwr:(tq c).wr=true) (hj:DB (S.ring i) (f:Int) j)
    (G:LV (S.L i) ((f:Int)-AU S.c i) 0 0 l') (hl:LkR lh' (upd tq c T) S.AS) (t2:T.gn=none) (t3:T.sl=none) :
    1<=cnt/\QSt (S.done c i p f j s l' lh') rt lf (upd pg p (.sl s)) pin A hh (upd tq c T) (cnt-1) tot:=by
  obtain⟨f',p',hg',hs,hso,hby⟩:=(L.ok c).s s hsl;rw [hg] at hg'
  cases hg'
  obtain⟨z1,hp,hpin⟩:=(L.ok c).g f p hg;have hby:=hby hwr;have hn:=h.n4;have hsz:=h.BQ;obtain⟨hrt,hlf,hrl⟩:=L.rl;obtain⟨hp32,hfn,hfr,hfl,hfA,hfh⟩:=L.pgo p f hp;have hst1:stS S.by' S.n (S.root 1) p 0 0=wdS S.by' S.n lf p 0:=by
    rw [L.root];exact B0b hn.2.2 hrt hlf L.w0 hp32 (.inl ⟨rfl,rfl⟩)
  have hwl:wdE S.n (lf:Int) (p:Int)=0:=DH;have wd1:∀{a b:Int},wdE S.n a b=0->wdF (wdS S.by' S.n lf p 0) S.n a b=if a=lf/\b=p then 0 else wdF S.by' S.n a b:=λhab=>KI (by omega) hwl hab
  have hw0:wdF (wdS S.by' S.n lf p 0) S.n rt 0=1+4*(lf:Int):=by
    rw [wd1 DH,if_neg (by omega)];exact L.w0
  have hst2:stS (stS S.by' S.n (S.root 1) p 0 0) S.n (S.root 1) p 2 s=wdS (wdS S.by' S.n lf p 0) S.n lf p (2+4*(s:Int)):=by
    rw [hst1,L.root];exact B0b hn.2.2 hrt hlf hw0 hp32 (.inr ⟨.inr rfl,by omega,by omega⟩)
  have wd2:∀{a b:Int},wdE S.n a b=0->wdF (wdS (wdS S.by' S.n lf p 0) S.n lf p (2+4*(s:Int))) S.n a b=if a=lf/\b=p then 2+4*(s:Int) else wdF S.by' S.n a b:=λhab=>by
    rw [KI (by omega) hwl hab];split
    . rfl
    . rename_i hne
      rw [wd1 hab,if_neg hne]
  have hout:∀{g m:Nat},g≠lf->m<256->wdS (wdS S.by' S.n lf p 0) S.n lf p (2+4*(s:Int)) (g*256+m)=S.by' (g*256+m):=λhg hm=>by
    rw [RR (by omega) hg hm,RR (by omega) hg hm]
  rcases G with⟨_,e,_⟩|⟨x,hx,hxg,hxp,hxo,_,hm,hsm⟩
  . cases e
  have hxo':x.o=0:=by omega
  have hgx:gfr S i x=f:=by
    have:=(h.fst hi).1;unfold gfr;omega
  have hrof:=L.rof1 p f hp;have hfw:∀{t g:Nat},upd pg p (.sl s) t=.fr g->t≠p/\pg t=.fr g/\g≠f:=λ{t g} e=>by
    have ht:t≠p:=λe2=>by rw [e2,AF] at e;cases e
    rw [AI _ _ ht] at e;exact⟨ht,e,λe3=>ht (L.inj t p f (e3▸e) hp)⟩
  have hbk:∀{t g:Nat},pg t=.fr g->g≠f->upd pg p (.sl s) t=.fr g:=λ{t g} e hg=>by
    have ht:t≠p:=λe2=>by rw [e2,hp] at e;cases e;exact hg rfl
    rw [AI _ _ ht];exact e
  have hns:∀t,pg t≠.sl s:=λt e=>by
    have:=(L.pgs t s e).2.2;rw [hso] at this;have:t=p:=by simp at this;omega
    rw [this,hp] at e;cases e
  have hu1:∀g,EE rt lf (upd pg p (.sl s)) A hh g↔EE rt lf pg A hh g/\g≠f:=λg=>by
    unfold EE;constructor
    . rintro (e|e|⟨t,e⟩|e|e)
      . exact⟨.inl e,λe2=>hfr (e2▸e)⟩
      . exact⟨.inr (.inl e),λe2=>hfl (e2▸e)⟩
      . exact⟨.inr (.inr (.inl ⟨t,(hfw e).2.1⟩)),(hfw e).2.2⟩
      . exact⟨.inr (.inr (.inr (.inl e))),λe2=>hfA (e2▸e)⟩
      . exact⟨.inr (.inr (.inr (.inr e))),λe2=>e.elim λt e=>hfh t (e2▸e)⟩
    . rintro ⟨e|e|⟨t,e⟩|e|e,hg⟩
      . exact .inl e
      . exact .inr (.inl e)
      . exact .inr (.inr (.inl ⟨t,hbk e hg⟩))
      . exact .inr (.inr (.inr (.inl e)))
      . exact .inr (.inr (.inr (.inr e)))
  have hnl:∀z∈l',z.g=1->gfr S i z≠f:=λz hz hzg e=>by
    obtain⟨hz1,hz2⟩:=(hm z hzg).1 hz;have hzo:=(L.tk1 i hi z hz1 hzg).1;refine hz2 (J0 (h.IQ hi) hz1 hx (f:=z.p) (nlr _) (by rw [hzo];omega) ?_ ?_)
    . unfold gfr at e hgx;omega
    . unfold gfr at e hgx;rw [hxo'];omega
  obtain⟨hse,hss⟩:=JI (mk:=S.mks) (n:=S.n) (x:=CX) hfn (by decide);have hcl:=L.ck i hi;have hdl:(del (S.ring i) j).length+1=(S.ring i).length:=by
    have:=(DC.1 hj.1).1;unfold del;rw [lap,List.length_take,List.length_drop];omega
  have hcp:=PF (q:=λj=>(pg j).KA) (q':=λj=>(upd pg p (.sl s) j).KA) (p:=p) (n:=32) (λj hj=>by show(upd pg p _ j).KA=_;rw [AI _ _ hj]) hp32;have q1:(pg p).KA=true:=by rw [hp];rfl
  have q2:(upd pg p (.sl s) p).KA=false:=by rw [AF];rfl
  simp only [q1,q2,if_true,L.cp] at hcp;have hcp:((range 32).filter λj=>(upd pg p (.sl s) j).KA).length+1=cnt:=by simpa using hcp
  refine⟨by omega,?_⟩;have hfsum:CY S.AK (λt=>BD (upd S.L i l' t))=CY S.AK (λt=>BD (S.L t))+1:=by
    have e:(λt=>BD (upd S.L i l' t))=upd (λt=>BD (S.L t)) i (BD l'):=by
      funext t;by_cases e:t=i
      . subst e;rw [AF,AF]
      . rw [AI _ _ e,AI _ _ e]
    have h4:=HE (n:=S.AK) (f:=λt=>BD (S.L t)) (v:=BD l') hi;rw [e];rw [hxo'] at hsm;omega
  exact {
    by':=B7w (B7w L.by' _ _ _ _ _) _ _ _ _ _
    rl:=L.rl
    sp:=L.sp
    root:=L.root
    w0:=by
      show wdF (stS (stS S.by' S.n (S.root 1) p 0 0) S.n (S.root 1) p 2 s) S.n rt 0=_
      rw [hst2,wd2 DH,if_neg (by omega)];exact L.w0
    wz:=λt ht1 ht2=>by
      show wdF (stS (stS S.by' S.n (S.root 1) p 0 0) S.n (S.root 1) p 2 s) S.n rt t=_
      rw [hst2,wd2 DH,if_neg (by omega)];exact L.wz t ht1 ht2
    wl:=λt ht=>by
      show wdF (stS (stS S.by' S.n (S.root 1) p 0 0) S.n (S.root 1) p 2 s) S.n lf t=_
      rw [hst2,wd2 DH];by_cases e:t=p
      . subst e;rw [if_pos ⟨rfl,rfl⟩,AF];rfl
      . rw [if_neg (by omega),AI _ _ e]
        exact L.wl t ht
    pgo:=λt g e=>L.pgo t g (hfw e).2.1
    pgs:=λt u e=>by
      by_cases ht:t=p
      . subst ht
        rw [AF] at e
        cases e
        exact⟨hp32,hs,hso⟩
      . rw [AI _ _ ht] at e
        exact L.pgs t u e
    inj:=λt t' g e e'=>L.inj t t' g (hfw e).2.1 (hfw e').2.1
    Ao:=L.Ao
    And:=L.And
    hdr:=L.hdr
    hnd:=L.hnd
    hin:=L.hin
    hz:=λt ht=>⟨(L.hz t ht).1,by rw [AI _ _ (by have:S.AS<=t:=ht;omega)];exact(L.hz t ht).2⟩
    rof1:=λt g e=>by
      show upd S.rof f (0,0) g=_
      obtain⟨_,e,hg⟩:=hfw e;rw [AI _ _ hg];exact L.rof1 t g e
    rof2:=λg hg e=>by
      have e:(upd S.rof f (0,0) g).1≠0:=e;by_cases e2:g=f
      . subst e2;rw [AF] at e;exact absurd rfl e
      . rw [AI _ _ e2] at e
        obtain⟨t,ht⟩:=L.rof2 g hg e;exact⟨t,hbk ht e2⟩
    rat1:=λkk v e=>by
      have e:(S.rat.filter λq=>q.1 != S.rof f).lookup kk=some v:=e;rw [NV] at e;split at e
      . cases e
      . rename_i hne
        obtain⟨t,g,h3,h4,h5⟩:=L.rat1 _ _ e;refine⟨t,g,h3,hbk h4 λe2=>hne ?_,h5⟩;rw [hrof,h3,L.inj t p f (e2▸h4) hp]
    rat2:=λt g e=>by
      show((S.rat.filter λq=>q.1 != S.rof f).lookup (1,(t:Int))).isSome=true
      obtain⟨ht,e,_⟩:=hfw e;rw [NV,if_neg]
      . exact L.rat2 t g e
      . rw [hrof]
        intro e2;have h9:(t:Int)=(p:Int):=congrArg Prod.snd e2;omega
    ck:=λt ht=>by
      show FM (upd S.ring i _ t) (upd S.cof i _ t)
      by_cases e:t=i
      . subst e
        rw [AF,AF];refine⟨λkk v e=>?_,λkk=>?_,C2q hcl.nd⟩
        . rw [QL] at e
          split at e
          . cases e
          . exact hcl.v _ _ e
        . rw [QL,B22 hcl.nd hj.1,<- hcl.r kk]
          by_cases e:kk=(f:Int) <;> simp [e]
      . rw [AI _ _ e,AI _ _ e]
        exact L.ck t ht
    ckm:=λt ht x=>by
      show x∈upd S.ring i _ t↔_
      by_cases e:t=i
      . subst e
        rw [AF,B22 hcl.nd hj.1,L.ckm t ht x];constructor
        . rintro ⟨⟨u,g,a1,rfl,a3⟩,hne⟩
          exact⟨u,g,hbk a1 (by omega),rfl,a3⟩
        . rintro ⟨u,g,a1,rfl,a3⟩
          obtain⟨_,a1,hg⟩:=hfw a1;exact⟨⟨u,g,a1,rfl,a3⟩,by omega⟩
      . rw [AI _ _ e,L.ckm t ht x]
        constructor
        . rintro ⟨u,g,a1,a2,a3,a4⟩
          refine⟨u,g,hbk a1 λe3=>e ?_,a2,a3,a4⟩;rw [e3] at a3 a4;exact CR h.my (f:=(f:Int)) (by unfold AR.AK at ht;exact ht) (by unfold AR.AK at hi;exact hi) a3 a4 h1 h2
        . rintro ⟨u,g,a1,a2,a3⟩
          exact⟨u,g,(hfw a1).2.1,a2,a3⟩
    mk1:=by
      show smS S.mks S.n f CX rt=CK/\smS S.mks S.n f CX lf=CK
      rw [hss,AI _ _ (Ne.symm hfr),AI _ _ (Ne.symm hfl)];exact L.mk1
    mkA:=λg hg=>by
      show smS S.mks S.n f CX g=CK
      rw [hss,AI _ _ (show g≠f from λe=>hfA (e▸hg))];exact L.mkA g hg
    mk2:=λt g e=>by
      show smS S.mks S.n f CX g=_
      obtain⟨_,e,hg⟩:=hfw e;rw [hss,AI _ _ hg];exact L.mk2 t g e
    mkh:=λt g e=>by
      show smS S.mks S.n f CX g=_
      rw [hss,AI _ _ (show g≠f from λe2=>hfh t (e2▸e))];exact L.mkh t g e
    mk3:=λg hg hnu=>by
      show smS S.mks S.n f CX g=CX
      rw [hss];by_cases e:g=f
      . subst e;rw [AF]
      . rw [AI _ _ e]
        exact L.mk3 g hg λhu=>hnu ((hu1 g).2 ⟨hu,e⟩)
    tk1:=λt ht z hz hg=>by
      by_cases e:t=i
      . subst e
        have hz:z∈upd S.L t l' t:=hz;rw [AF] at hz;obtain⟨hz1,_⟩:=(hm z hg).1 hz;have:=L.tk1 t ht z hz1 hg;exact⟨this.1,(hu1 _).2 ⟨this.2,hnl z hz hg⟩⟩
      . have hz:z∈upd S.L i l' t:=hz
        rw [AI _ _ e] at hz;have:=L.tk1 t ht z hz hg;refine⟨this.1,(hu1 _).2 ⟨this.2,λe2=>e ?_⟩⟩;have hzt:=BI (h.IQ ht) hz;have hfj':=h.fst ht;have hzo:=this.1;rw [hzo] at hzt;have e2:gfr S t z=f:=e2;unfold gfr at e2;exact CR h.my (f:=(f:Int)) (by unfold AR.AK at ht;exact ht) (by unfold AR.AK at hi;exact hi) (by omega) (by omega) h1 h2
    tk2:=λg hu=>by
      obtain⟨hu,hgf⟩:=(hu1 g).1 hu;obtain⟨t,z,ht,hz,hg,hez⟩:=L.tk2 g hu;refine⟨t,z,ht,?_,hg,hez⟩
      show z∈upd S.L i l' t
      by_cases e:t=i
      . subst e
        rw [AF];refine(hm z hg).2 ⟨hz,λe2=>?_⟩;subst e2;exact hgf (hez.symm.trans hgx)
      . rw [AI _ _ e];exact hz
    so:=λu hu=>by
      rcases L.so u hu with h9|⟨t,ht⟩|⟨t,ht⟩
      . exact .inl h9
      . exact .inr (.inl ⟨t,by rw [AI _ _ (show t≠p from λe2=>by rw [e2,hp] at ht;cases ht)];exact ht⟩)
      . by_cases e:t=c
        . subst e
          rw [hsl] at ht;cases ht;exact .inr (.inl ⟨p,AF _ _ _⟩)
        . rw [(L.one hg e).2] at ht;cases ht
    byf:=λt g e m hm=>by
      show stS (stS S.by' S.n (S.root 1) p 0 0) S.n (S.root 1) p 2 s (g*256+m)=_
      obtain⟨_,e,_⟩:=hfw e;rw [hst2,hout (L.B8j e).2.1 hm];exact L.byf t g e m hm
    bys:=λt u e m hm=>by
      by_cases ht:t=p
      . subst ht
        rw [AF] at e
        cases e
        exact hby m hm
      . rw [AI _ _ ht] at e
        exact L.bys t u e m hm
    pinE:=L.pinE
    pinF:=λt ht=>by
      have:t≠p:=λe=>by rw [e,hpin] at ht;cases ht
      rw [AI _ _ this];exact L.pinF t ht
    cp:=by omega
    cc:=by
      have e:(λt=>(upd S.ring i (del (S.ring i) j) t).length)=upd (λt=>(S.ring t).length) i ((del (S.ring i) j).length):=by
        funext t;by_cases e:t=i
        . subst e;rw [AF,AF]
        . rw [AI _ _ e,AI _ _ e]
      have h4:=HE (n:=S.AK) (f:=λt=>(S.ring t).length) (v:=(del (S.ring i) j).length) hi;have h5:=L.cc
      show CY S.AK (λt=>(upd S.ring i (del (S.ring i) j) t).length)=cnt-1
      rw [e];omega
    cu:=by
      have h5:=L.cu;have h6:=B8m (tq:=tq) (T:=T) hc;have e1:(tq c).n=1:=by unfold Tk.n;rw [hsl]
      have e2:T.n=0:=by unfold Tk.n;rw [t3]
      show(owns S.AY S.sof).length+(cnt-1)=tot+CY S.AS (λj=>(upd tq c T j).n)
      omega
    cf:=by
      have h3:=L.cf
      show CY S.AK (λt=>BD (upd S.L i l' t))+(cnt-1)+2+A.length+CY S.AS (λi=>(hh i).length)=S.n
      rw [hfsum];omega
    held:=L.held
    fli:=by
      have e:T.fl=(-1:Int):=by unfold Tk.fl;rw [t3]
      show S.fli.set c (-1)=_
      rw [L.fli,<- e];exact B2o hc
    lk:=hl
    ok:=λt=>by
      by_cases e:t=c
      . subst e
        rw [AF];exact⟨λf' p' h=>(by rw [t2] at h;cases h),λu hu=>(by rw [t3] at hu;cases hu)⟩
      . rw [AI _ _ e]
        obtain⟨g1,g2⟩:=L.one hg e
        exact⟨λf' p' h=>(by rw [g1] at h;cases h),λu hu=>(by rw [g2] at hu;cases hu)⟩}
