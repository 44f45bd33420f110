/- Part of a proof that a law returns true. Conditions: those in each theorem. -/
import Derived.Test.YtdgbechegbmpcaaGreatDoorSV1
import Derived.Test.YtdgbechegbmpcaaGreatDoorZC2
import Derived.Test.YtdgbechegbmpcaaGreatDoorBL3
import Derived.Test.YtdgbechegbmpcaaGreatDoorEngP
import Derived.Shelf.SlSortCmp.InsertionK
import Derived.Sort.OwnSortedInts
import Derived.Test.YtdgbechegbmpcaaGreatDoorProg
import Derived.Shelf.SlSortCmp.NoneTotal
set_option linter.unusedSimpArgs false
set_option linter.unusedVariables false
set_option maxRecDepth 100000
namespace Go.Proofs.YtdgbechegbmpcaaGreatDoor
open Go Go.Eng Go.Proofs.Tryz
def ewE(k N:Int):Int:=if k=0 then(if N=0 then 0 else 2) else if k=1\/k=2\/k=3 then(if 0<=N/\N<=65535 then 0 else 2) else 2
def ewF(k N:Int):Int:=if ewE k N=0 then k+4*N else 0
theorem or_small{k N:Int}(hk:0<=k/\k<=3)(hN:0<=N/\N<=65535):BW .or .u64 (IntKind.wrap .u64 k) (IntKind.wrap .u64 (IntKind.wrap .u64 N*4))=k+4*N:=by
 obtain⟨m,rfl⟩:=Int.eq_ofNat_of_zero_le hk.1;obtain⟨y,rfl⟩:=Int.eq_ofNat_of_zero_le hN.1;have e2:(y:Int)*4=((2^2*y:Nat):Int):=by omega
 rw [wu (x:=(m:Int)) (by omega),wu (x:=(y:Int)) (by omega),e2,wu (x:=((2^2*y:Nat):Int)) (by omega)];generalize hq:2^2*y=q at *;have h3:(BitVec.ofInt 64 (m:Int) ||| BitVec.ofInt 64 (q:Int)).toNat=m+q:=by
  rw [BitVec.toNat_or,BitVec.toNat_ofInt,BitVec.toNat_ofInt,show((m:Int)%((2^64:Nat):Int)).toNat=m by omega,show((q:Int)%((2^64:Nat):Int)).toNat=q by omega,<- hq,Nat.or_comm,<- Nat.two_pow_add_eq_or_of_lt (by omega)];omega
 show IntKind.wrap .u64 ((BitVec.ofInt 64 (m:Int) ||| BitVec.ofInt 64 (q:Int)).toNat:Int)=_
 rw [h3,wu (by omega)];omega
theorem and_three{a:Int}(h:0<=a/\a<=18446744073709551615):BW .and .u64 a 3=a%4:=by
 obtain⟨m,rfl⟩:=Int.eq_ofNat_of_zero_le h.1;have hx:(BitVec.ofInt 64 (m:Int) &&& BitVec.ofInt 64 (3:Int)).toNat=m%4:=by
  rw [BitVec.toNat_and,BitVec.toNat_ofInt,BitVec.toNat_ofInt,show((m:Int)%((2^64:Nat):Int)).toNat=m by omega,show((3:Int)%((2^64:Nat):Int)).toNat=2^2-1 by decide,Nat.and_two_pow_sub_one_eq_mod]
 show IntKind.wrap .u64 ((BitVec.ofInt 64 (m:Int) &&& BitVec.ofInt 64 (3:Int)).toNat:Int)=_
 rw [hx,wu (by omega)];omega
theorem LO(k N:Int)(w:WD):Calls prog 96 #[.agg #[.int .u8 k,vi N]] w fun e w'=>e=.returned (.tuple #[.int .u64 (ewF k N),vi (ewE k N)])/\Kept AB w w':=by
 refine(vc96 k N w (fun(v:Value) (w':WD)=>v=.tuple #[.int .u64 (ewF k N),vi (ewE k N)]/\Kept AB w w') ?_).mono ?_
 rotate_left
 ·rintro e w' ⟨v,rfl,rfl,h⟩;exact⟨rfl,h⟩
 unfold Q;intro w1 e1;have o1:=AD (c:=[.int .u8 k,vi N]) e1;have k1:=kal e1;have r0:rd w1 w.heap.size 0=some (.int .u8 k):=by rw [o1.rd];rfl
 have r1:rd w1 w.heap.size 1=some (vi N):=by rw [o1.rd];rfl
 have bad:ewE k N=2->(fun(v:Value) (w':WD)=>v=.tuple #[.int .u64 (ewF k N),vi (ewE k N)]/\Kept AB w w') (.tuple #[.int .u64 0,vi 2]) w1:=fun h=>by
  have:ewF k N=0:=by unfold ewF;rw [h];rfl
  rw [h,this];exact⟨rfl,k1⟩
 have good:ewE k N=0->0<=k/\k<=3->0<=N/\N<=65535->(fun(v:Value) (w':WD)=>v=.tuple #[.int .u64 (ewF k N),vi (ewE k N)]/\Kept AB w w') (.tuple #[.int .u64 (BW .or .u64 (IntKind.wrap .u64 k) (IntKind.wrap .u64 (IntKind.wrap .u64 N*4))),vi 0]) w1:=fun h h1 h2=>by
  have:ewF k N=k+4*N:=by unfold ewF;rw [if_pos h]
  rw [h,this,or_small h1 h2];exact⟨rfl,k1⟩
 have body:(1<=k/\k<=3)->∃x,rd w1 w.heap.size 1=some (vi x)/\∃x_1,(decide (x>=0)=true->rd w1 w.heap.size 1=some (vi x_1))/\
  Wif (decide (x>=0)&&decide (x_1<=65535)) (∃x,rd w1 w.heap.size 0=some (.int .u8 x)/\∃x_2,rd w1 w.heap.size 1=some (vi x_2)/\(fun(v:Value) (w':WD)=>v=.tuple #[.int .u64 (ewF k N),vi (ewE k N)]/\Kept AB w w') (.tuple #[.int .u64 (BW .or .u64 (IntKind.wrap .u64 x) (IntKind.wrap .u64 (IntKind.wrap .u64 x_2*4))),vi 0]) w1)
   ((fun(v:Value) (w':WD)=>v=.tuple #[.int .u64 (ewF k N),vi (ewE k N)]/\Kept AB w w') (.tuple #[.int .u64 0,vi 2]) w1):=fun hk=>by
  refine⟨N,r1,N,fun _=>r1,AE (fun h=>?_) (fun h=>?_)⟩
  ·have hN:0<=N/\N<=65535:=by simpa using h
   exact⟨k,r0,N,r1,good (by unfold ewE;rw [if_neg (by omega),if_pos (by omega),if_pos hN]) (by omega) hN⟩
  ·have hN:¬(0<=N/\N<=65535):=fun e=>by simp [e.1,e.2] at h
   exact bad (by unfold ewE;rw [if_neg (by omega),if_pos (by omega),if_neg hN])
 refine⟨k,r0,AE (fun h0=>?_) (fun h0=>?_)⟩
 ·have hk:k=0:=by simpa using h0
  refine⟨N,r1,AE (fun h=>?_) (fun h=>?_)⟩
  ·exact bad (by unfold ewE;rw [if_pos hk,if_neg (by simpa using h)])
  ·have hN:N=0:=by simpa using h
   subst hN hk;exact⟨0,r1,0,fun _=>r1,AA (by decide) ⟨0,r0,0,r1,good (by decide) (by omega) (by omega)⟩⟩
 ·have hk0:k≠0:=by simpa using h0
  refine AE (fun h1=>?_) (fun h1=>?_)
  ·have hk:k=1:=by simpa using h1
   exact AA h1 (body (by omega))
  ·have hk1:k≠1:=by simpa using h1
   refine AE (fun h2=>?_) (fun h2=>?_)
   ·have hk:k=2:=by simpa using h2
    exact AA h2 (body (by omega))
   ·have hk2:k≠2:=by simpa using h2
    refine AE (fun h3=>?_) (fun h3=>?_)
    ·have hk:k=3:=by simpa using h3
     exact body (by omega)
    ·have hk3:k≠3:=by simpa using h3
     exact bad (by unfold ewE;rw [if_neg hk0,if_neg (by omega)])
def enE(x:Int):Int:=if x/4>65535\/(x≠0/\x%4=0) then 5 else 0
def rdE(by':Nat->Int)(n:Nat)(frame i:Int):Int:=if wdE n frame i≠0 then wdE n frame i else enE (wdF by' n frame i)
def rdK(by':Nat->Int)(n:Nat)(frame i:Int):Int:=if rdE by' n frame i=0 then wdF by' n frame i%4 else 0
def rdN(by':Nat->Int)(n:Nat)(frame i:Int):Int:=if rdE by' n frame i=0 then wdF by' n frame i/4 else 0
def lfE(by':Nat->Int)(n:Nat)(root page:Int):Int:=
 if page<0\/page>=1024 then 2 else if rdE by' n root (Int.tdiv page 32)≠0 then rdE by' n root (Int.tdiv page 32) else if rdK by' n root (Int.tdiv page 32)=0 then 7 else if rdK by' n root (Int.tdiv page 32)=1 then 0 else 5
def lfN(by':Nat->Int)(n:Nat)(root page:Int):Int:=if lfE by' n root page=0 then rdN by' n root (Int.tdiv page 32) else 0
def lack(by':Nat->Int)(n:Nat)(root page:Int):Bool:=decide (wdE n root (Int.tdiv page 32)=0/\wdF by' n root (Int.tdiv page 32)=0)
def gtE(by':Nat->Int)(n:Nat)(root page:Int):Int:=if lfE by' n root page=7/\lack by' n root page=true then 0 else if lfE by' n root page≠0 then lfE by' n root page else rdE by' n (lfN by' n root page) (Int.tmod page 32)
def gtK(by':Nat->Int)(n:Nat)(root page:Int):Int:=if lfE by' n root page=0 then rdK by' n (lfN by' n root page) (Int.tmod page 32) else 0
def gtN(by':Nat->Int)(n:Nat)(root page:Int):Int:=if lfE by' n root page=0 then rdN by' n (lfN by' n root page) (Int.tmod page 32) else 0
def stE(by':Nat->Int)(n:Nat)(root page k N:Int):Int:=if page<0\/page>=1024\/ewE k N≠0 then 2 else if lfE by' n root page≠0 then lfE by' n root page else wdE n (lfN by' n root page) (Int.tmod page 32)
def stS(by':Nat->Int)(n:Nat)(root page k N:Int):Nat->Int:=if stE by' n root page k N=0 then wdS by' n (lfN by' n root page) (Int.tmod page 32) (ewF k N) else by'
def slE(n:Nat)(root page leaf:Int):Int:=if page<0\/page>=1024\/leaf < -1\/leaf>65535 then 2 else wdE n root (Int.tdiv page 32)
def slS(by':Nat->Int)(n:Nat)(root page leaf:Int):Nat->Int:=if slE n root page leaf=0 then wdS by' n root (Int.tdiv page 32) (if leaf<0 then 0 else 1+4*leaf) else by'
theorem tdiv_r{page:Int}(h:0<=page/\page<1024):0<=Int.tdiv page 32/\Int.tdiv page 32<=31:=by
 rw [Int.tdiv_eq_ediv_of_nonneg h.1];omega
section
variable {w:WD}{m bb mb:Nat}{c:Nat->Int}{n:Nat}{by':Nat->Int}{mk:Nat->Mark}
theorem IY{w w':WD}{b:Nat}{v0 v1 u0 u1:Value}(h:own w b [v0,v1])(e:w'=st (st w b 0 u0) b 1 u1):own w' b [u0,u1]/\Kept (·=b) w w':=st2 h rfl e
theorem rd2{w:WD}{b:Nat}{v0 v1:Value}(h:own w b [v0,v1]):rd w b 0=some v0/\rd w b 1=some v1:=⟨by rw [h.rd];rfl,by rw [h.rd];rfl⟩
theorem wr2{w:WD}{b:Nat}{v0 v1:Value}(h:own w b [v0,v1]):wr w b 0/\wr w b 1:=⟨h.wr (by show 0<2;decide),h.wr (by show 1<2;decide)⟩
theorem read_spec(h:BM w m bb mb c n by' mk)(hb:ByR by')(hn:n<=1024)(frame i:Int) :
 Calls prog 51 #[ptr m,vi frame,vi i] w fun e w'=>e=.returned (.tuple #[.agg #[.int .u8 (rdK by' n frame i),vi (rdN by' n frame i)],vi (rdE by' n frame i)])/\Kept AB w w':=by
 refine(vc51 _ frame i w (fun(v:Value) (w':WD)=>v=.tuple #[.agg #[.int .u8 (rdK by' n frame i),vi (rdN by' n frame i)],vi (rdE by' n frame i)]/\Kept AB w w') ?_).mono ?_
 rotate_left
 ·rintro e w' ⟨v,rfl,rfl,h⟩;exact⟨rfl,h⟩
 unfold Q;intro w1 e1;have o1:=AD e1;have k1:=kal e1;have hsz:=o1.lt;clear e1;generalize hb0:w.heap.size=b0 at *;refine(word_spec (h.k k1) hb hn frame i).mono ?_;rintro _ wx ⟨rfl,hx⟩;rw [hx];clear hx;refine⟨_,_,rfl,AE (fun he=>?_) (fun he=>?_)⟩
 ·have hne:wdE n frame i≠0:=by simpa using he
  have e1:rdE by' n frame i=wdE n frame i:=by unfold rdE;rw [if_pos hne]
  have e2:rdK by' n frame i=0:=by unfold rdK;rw [e1,if_neg hne]
  have e3:rdN by' n frame i=0:=by unfold rdN;rw [e1,if_neg hne]
  rw [e1,e2,e3];refine⟨wr2 o1,fun w2 e4=>?_⟩;obtain⟨o2,k2⟩:=IY o1 e4;exact⟨_,_,rd2 o2,rfl,BD k1 k2 fun x e=>by omega⟩
 have hz:wdE n frame i=0:=by simpa using he
 have e1:rdE by' n frame i=enE (wdF by' n frame i):=by unfold rdE;rw [hz];rfl
 have hr:=wdF_r hb n frame i;unfold rdK rdN;rw [e1];generalize wdF by' n frame i=x at *;intro w2 e2;have o2:=AD e2;have k2:=kal e2;have hsz2:=o2.lt;have p2:=o1.k k2;clear e2;generalize hb1:w1.heap.size=b1 at *;have hfd:Int.fdiv x 4=x/4:=Int.fdiv_eq_ediv_of_nonneg _ (by decide);rw [and_three hr,hfd,w8,wi (x:=x/4) (by omega)];have fin:∀{y0 y1 e:Int},
  (wr w2 b1 0/\wr w2 b1 1)/\∀w_2,w_2=st (st w2 b1 0 (.int .u8 y0)) b1 1 (vi y1)->∃x x_1,(rd w_2 b1 0=some (.int .u8 x)/\rd w_2 b1 1=some (vi x_1))/\(wr w_2 b0 0/\wr w_2 b0 1)/\
   ∀w',w'=st (st w_2 b0 0 (.int .u8 x)) b0 1 (vi x_1)->∃x x_2,(rd w' b0 0=some (.int .u8 x)/\rd w' b0 1=some (vi x_2))/\(fun(v:Value) (w':WD)=>v=.tuple #[.agg #[.int .u8 y0,vi y1],vi e]/\Kept AB w w') (.tuple #[.agg #[.int .u8 x,vi x_2],vi e]) w':=by
  intro y0 y1 e;refine⟨wr2 o2,fun w3 e3=>?_⟩;obtain⟨o3,k3⟩:=IY o2 e3;have p3:=p2.kx k3 (by omega);refine⟨_,_,rd2 o3,wr2 p3,fun w4 e4=>?_⟩;obtain⟨o4,k4⟩:=IY p3 e4;exact⟨_,_,rd2 o4,rfl,(BD (BD (k1.tr k2) k3 fun x e=>by omega) k4 fun x e=>by omega)⟩
 refine AE (fun hc=>?_) (fun hc=>?_)
 ·have h5:enE x=5:=by
   unfold enE;rw [if_pos];simpa using hc
  rw [h5,if_neg (by decide),if_neg (by decide)];exact fin
 ·have h5:enE x=0:=by
   unfold enE;rw [if_neg];intro hh;rw [show(decide (x/4>65535)||x != 0&&x%4==0)=true by simpa using hh] at hc
   cases hc
  rw [h5,if_pos rfl,if_pos rfl,show x%4%256=x%4 by omega];exact fin
theorem lacks_spec(h:BM w m bb mb c n by' mk)(hb:ByR by')(hn:n<=1024){root page:Int}(hp:0<=page/\page<1024) :
 Calls prog 50 #[ptr m,vi root,vi page] w fun e w'=>e=.returned (.bool (lack by' n root page))/\Kept AB w w':=by
 refine(vc50 _ root page w (fun v w'=>v=.bool (lack by' n root page)/\Kept AB w w') ?_).mono ?_
 rotate_left
 ·rintro e w' ⟨v,rfl,rfl,h⟩;exact⟨rfl,h⟩
 unfold Q;have:=tdiv_r hp;rw [wi (by omega)];refine(word_spec h hb hn root _).mono ?_;rintro _ wx ⟨rfl,hx⟩;rw [hx];refine⟨_,_,rfl,?_,Kept.refl _ _⟩;congr 1;unfold lack;rw [Bool.eq_iff_iff];simp
theorem KB(h:BM w m bb mb c n by' mk)(hb:ByR by')(hn:n<=1024)(root page:Int) :
 Calls prog 49 #[ptr m,vi root,vi page] w fun e w'=>e=.returned (.tuple #[vi (lfN by' n root page),vi (lfE by' n root page)])/\Kept AB w w':=by
 refine(vc49 _ root page w (fun(v:Value) (w':WD)=>v=.tuple #[vi (lfN by' n root page),vi (lfE by' n root page)]/\Kept AB w w') ?_).mono ?_
 rotate_left
 ·rintro e w' ⟨v,rfl,rfl,h⟩;exact⟨rfl,h⟩
 unfold Q;refine AE (fun hc=>?_) (fun hc=>?_)
 ·have e2:lfE by' n root page=2:=by unfold lfE;rw [if_pos (by simpa using hc)]
  have e3:lfN by' n root page=0:=by unfold lfN;rw [e2];rfl
  rw [e2,e3];exact⟨rfl,Kept.refl _ _⟩
 have hp:0<=page/\page<1024:=by simp at hc;omega
 have ht:=tdiv_r hp;rw [wi (by omega)];refine(read_spec h hb hn root _).mono ?_;rintro _ w1 ⟨rfl,k1⟩;have eL:lfE by' n root page=if rdE by' n root (Int.tdiv page 32)≠0 then rdE by' n root (Int.tdiv page 32) else if rdK by' n root (Int.tdiv page 32)=0 then 7 else if rdK by' n root (Int.tdiv page 32)=1 then 0 else 5:=by unfold lfE;rw [if_neg (by omega)]
 unfold lfN;rw [eL];generalize Int.tdiv page 32=q at *;refine⟨_,_,_,rfl,fun w2 e2=>?_⟩;have o2:=AD e2;have k2:=kal e2;refine⟨wr2 o2,fun w3 e3=>?_⟩;obtain⟨o3,k3⟩:=IY o2 e3;have K3:Kept AB w w3:=k1.tr (BD k2 k3 fun x e=>by omega);obtain⟨r0,r1⟩:=rd2 o3;refine AE (fun hc=>?_) (fun hc=>?_)
 ·have hne:rdE by' n root q≠0:=by simpa using hc
  rw [if_pos hne,if_neg hne];exact⟨rfl,K3⟩
 ·have hz:rdE by' n root q=0:=by simpa using hc
  rw [if_neg (show ¬(rdE by' n root q≠0) from fun e=>e hz)];refine⟨_,r0,AE (fun hc=>?_) (fun hc=>?_)⟩
  ·have h0:rdK by' n root q=0:=by simpa using hc
   rw [if_pos h0];exact⟨rfl,K3⟩
  ·have h0:rdK by' n root q≠0:=by simpa using hc
   rw [if_neg h0];refine⟨_,r0,AE (fun hc=>?_) (fun hc=>?_)⟩
   ·have h1:rdK by' n root q≠1:=by simpa using hc
    rw [if_neg h1];exact⟨rfl,K3⟩
   ·have h1:rdK by' n root q=1:=by simpa using hc
    rw [if_pos h1];exact⟨_,r1,rfl,K3⟩
theorem lfE_page{root page:Int}(h:lfE by' n root page≠2):0<=page/\page<1024:=by
 unfold lfE at h;split at h
 ·exact absurd rfl h
 ·omega
theorem get_spec(h:BM w m bb mb c n by' mk)(hb:ByR by')(hn:n<=1024)(root page:Int) :
 Calls prog 16 #[ptr m,vi root,vi page] w fun e w'=>e=.returned (.tuple #[.agg #[.int .u8 (gtK by' n root page),vi (gtN by' n root page)],vi (gtE by' n root page)])/\Kept AB w w':=by
 refine(vc16 _ root page w (fun(v:Value) (w':WD)=>v=.tuple #[.agg #[.int .u8 (gtK by' n root page),vi (gtN by' n root page)],vi (gtE by' n root page)]/\Kept AB w w') ?_).mono ?_
 rotate_left
 ·rintro e w' ⟨v,rfl,rfl,h⟩;exact⟨rfl,h⟩
 unfold Q;intro w1 e1;have o1:=AD e1;have k1:=kal e1;clear e1;refine(KB (h.k k1) hb hn root page).mono ?_;rintro _ w2 ⟨rfl,k2⟩;have fin:∀{W:WD}{y0 y1 e:Int},Kept AB w1 W->gtK by' n root page=y0->gtN by' n root page=y1->gtE by' n root page=e->
  (wr W w.heap.size 0/\wr W w.heap.size 1)/\∀w_1,w_1=st (st W w.heap.size 0 (.int .u8 y0)) w.heap.size 1 (vi y1)->∃x x_1,(rd w_1 w.heap.size 0=some (.int .u8 x)/\rd w_1 w.heap.size 1=some (vi x_1))/\
   (fun(v:Value) (w':WD)=>v=.tuple #[.agg #[.int .u8 (gtK by' n root page),vi (gtN by' n root page)],vi (gtE by' n root page)]/\Kept AB w w') (.tuple #[.agg #[.int .u8 x,vi x_1],vi e]) w_1:=by
  rintro W y0 y1 e kW rfl rfl rfl;have oW:=o1.k kW;refine⟨wr2 oW,fun w3 e3=>?_⟩;obtain⟨o3,k3⟩:=IY oW e3;exact⟨_,_,rd2 o3,rfl,BD (k1.tr kW) k3 fun x e=>by omega⟩
 have rest:lfE by' n root page=0->Calls prog 51 #[ptr m,vi (lfN by' n root page),vi (Int.tmod page 32)] w2 fun e w'=>∃n_1 n_2 n_3,e=.returned (.tuple #[.agg #[.int .u8 n_1,vi n_2],vi n_3])/\
  (wr w' w.heap.size 0/\wr w' w.heap.size 1)/\∀w_1,w_1=st (st w' w.heap.size 0 (.int .u8 n_1)) w.heap.size 1 (vi n_2)->∃x x_1,(rd w_1 w.heap.size 0=some (.int .u8 x)/\rd w_1 w.heap.size 1=some (vi x_1))/\
   (fun(v:Value) (w':WD)=>v=.tuple #[.agg #[.int .u8 (gtK by' n root page),vi (gtN by' n root page)],vi (gtE by' n root page)]/\Kept AB w w') (.tuple #[.agg #[.int .u8 x,vi x_1],vi n_3]) w_1:=fun h0=>by
  refine(read_spec ((h.k k1).k k2) hb hn _ _).mono ?_;rintro _ w3 ⟨rfl,k3⟩;exact⟨_,_,_,rfl,fin (k2.tr k3) (by unfold gtK;rw [if_pos h0]) (by unfold gtN;rw [if_pos h0]) (by unfold gtE;rw [if_neg (by omega),if_neg (by omega)])⟩
 refine⟨_,_,rfl,AE (fun hc=>?_) (fun hc=>?_)⟩
 ·have h7:lfE by' n root page=7:=by simpa using hc
  refine(lacks_spec ((h.k k1).k k2) hb hn (lfE_page (by':=by') (n:=n) (root:=root) (by omega))).mono ?_;rintro _ w3 ⟨rfl,k3⟩;refine⟨_,rfl,AE (fun hl=>?_) (fun hl=>AA (by rw [h7];rfl) ?_)⟩
  ·exact fin (k2.tr k3) (by unfold gtK;rw [if_neg (by omega)]) (by unfold gtN;rw [if_neg (by omega)]) (by unfold gtE;rw [if_pos ⟨h7,hl⟩])
  ·exact fin (k2.tr k3) (by unfold gtK;rw [if_neg (by omega)]) (by unfold gtN;rw [if_neg (by omega)]) (by unfold gtE;rw [if_neg (fun e=>by rw [e.2] at hl;cases hl),if_pos (by omega)])
 ·have h7:lfE by' n root page≠7:=by simpa using hc
  refine AE (fun hc=>?_) (fun hc=>?_)
  ·have hne:lfE by' n root page≠0:=by simpa using hc
   exact fin k2 (by unfold gtK;rw [if_neg (by omega)]) (by unfold gtN;rw [if_neg (by omega)]) (by unfold gtE;rw [if_neg (fun e=>h7 e.1),if_pos hne])
  ·exact rest (by simpa using hc)
theorem set_spec(h:BM w m bb mb c n by' mk)(hb:ByR by')(hn:n<=1024)(root page k N:Int) :
 Calls prog 100 #[ptr m,vi root,vi page,.agg #[.int .u8 k,vi N]] w fun e w'=>e=.returned (vi (stE by' n root page k N))/\Kept (·=bb) w w'/\BM w' m bb mb c n (stS by' n root page k N) mk:=by
 refine(vc100 _ root page k N w (fun v w'=>v=vi (stE by' n root page k N)/\Kept (·=bb) w w'/\BM w' m bb mb c n (stS by' n root page k N) mk) ?_).mono ?_
 rotate_left
 ·rintro e w' ⟨v,rfl,rfl,h⟩;exact⟨rfl,h⟩
 unfold Q;intro w1 e1;have o1:=AD e1;have k1:=kal e1;refine⟨_,_,rd2 o1,(LO k N w1).mono ?_⟩;rintro _ w2 ⟨rfl,k2⟩;refine⟨_,_,rfl,AE (fun hc=>?_) (fun hc=>?_)⟩
 ·have e2:stE by' n root page k N=2:=by unfold stE;rw [if_pos (by simpa [or_assoc] using hc)]
  have e3:stS by' n root page k N=by':=by unfold stS;rw [e2];rfl
  rw [e2,e3];exact⟨rfl,(k1.tr k2).mono fun _ _ e=>e.elim,(h.k k1).k k2⟩
 have hg:¬(page<0\/page>=1024\/ewE k N≠0):=fun hh=>by
  rw [show(decide (page<0)||decide (page>=1024)||ewE k N != 0)=true by simpa [or_assoc] using hh] at hc
  cases hc
 refine(KB ((h.k k1).k k2) hb hn root page).mono ?_;rintro _ w3 ⟨rfl,k3⟩;have K3:=(k1.tr k2).tr k3;refine⟨_,_,rfl,AE (fun hc=>?_) (fun hc=>?_)⟩
 ·have hne:lfE by' n root page≠0:=by simpa using hc
  have e2:stE by' n root page k N=lfE by' n root page:=by unfold stE;rw [if_neg hg,if_pos hne]
  have e3:stS by' n root page k N=by':=by unfold stS;rw [e2,if_neg hne]
  rw [e2,e3];exact⟨rfl,K3.mono fun _ _ e=>e.elim,h.k K3⟩
 ·have hz:lfE by' n root page=0:=by simpa using hc
  have e2:stE by' n root page k N=wdE n (lfN by' n root page) (Int.tmod page 32):=by unfold stE;rw [if_neg hg,if_neg (fun e=>e hz)]
  have e3:stS by' n root page k N=wdS by' n (lfN by' n root page) (Int.tmod page 32) (ewF k N):=by
   unfold stS;rw [e2];unfold wdS;split <;> rfl
  rw [e2,e3];refine(J3 (h.k K3) hn _ _ _).mono ?_;rintro _ w4 ⟨rfl,k4,h4⟩;exact⟨_,rfl,rfl,(K3.mono fun _ _ e=>e.elim).trans k4 fun _ _ e=>e,h4⟩
theorem setLeaf_spec(h:BM w m bb mb c n by' mk)(hn:n<=1024)(root page leaf:Int) :
 Calls prog 36 #[ptr m,vi root,vi page,vi leaf] w fun e w'=>e=.returned (vi (slE n root page leaf))/\Kept (·=bb) w w'/\BM w' m bb mb c n (slS by' n root page leaf) mk:=by
 refine(vc36 _ root page leaf w (fun v w'=>v=vi (slE n root page leaf)/\Kept (·=bb) w w'/\BM w' m bb mb c n (slS by' n root page leaf) mk) ?_).mono ?_
 rotate_left
 ·rintro e w' ⟨v,rfl,rfl,h⟩;exact⟨rfl,h⟩
 unfold Q;refine AE (fun hc=>?_) (fun hc=>?_)
 ·have e2:slE n root page leaf=2:=by unfold slE;rw [if_pos (by simpa [or_assoc] using hc)]
  have e3:slS by' n root page leaf=by':=by unfold slS;rw [e2];rfl
  rw [e2,e3];exact⟨rfl,Kept.refl _ _,h⟩
 have hg:¬(page<0\/page>=1024\/leaf < -1\/leaf>65535):=fun hh=>by
  rw [show(decide (page<0)||decide (page>=1024)||decide (leaf < -1)||decide (leaf>65535))=true by simpa [or_assoc] using hh] at hc
  cases hc
 have ht:=tdiv_r (page:=page) (by omega);have e2:slE n root page leaf=wdE n root (Int.tdiv page 32):=by unfold slE;rw [if_neg hg]
 have e3:slS by' n root page leaf=wdS by' n root (Int.tdiv page 32) (if leaf<0 then 0 else 1+4*leaf):=by
  unfold slS;rw [e2];unfold wdS;split <;> rfl
 rw [e2,e3,wi (by omega)];intro w1 e1;have o1:=AD e1;have k1:=kal e1;refine⟨wr2 o1,fun w2 e4=>?_⟩;obtain⟨o2,k2'⟩:=IY o1 e4;have k2:Kept AB w w2:=BD k1 k2' fun x e=>by omega
 refine AE (fun hl=>⟨wr2 o2,fun w3 e5=>?_⟩) (fun hl=>?_)
 ·obtain⟨o3,k3'⟩:=IY o2 e5;have k3:Kept AB w w3:=BD k2 k3' fun x e=>by omega
  refine⟨_,_,rd2 o3,(LO 0 0 w3).mono ?_⟩;rintro _ w4 ⟨rfl,k4⟩;refine⟨_,_,rfl,(J3 ((h.k k3).k k4) hn _ _ _).mono ?_⟩;rintro _ w5 ⟨rfl,k5,h5⟩;rw [if_pos (by simpa using hl)];exact⟨_,rfl,rfl,((k3.tr k4).mono fun _ _ e=>e.elim).trans k5 fun _ _ e=>e,h5⟩
 ·have hl0:¬leaf<0:=by simpa using hl
  refine⟨_,_,rd2 o2,(LO 1 leaf w2).mono ?_⟩;rintro _ w4 ⟨rfl,k4⟩;refine⟨_,_,rfl,(J3 ((h.k k2).k k4) hn _ _ _).mono ?_⟩;rintro _ w5 ⟨rfl,k5,h5⟩;have hE:ewE 1 leaf=0:=by
   unfold ewE;rw [if_neg (by decide),if_pos (.inl rfl),if_pos (by omega)]
  have:ewF 1 leaf=1+4*leaf:=by
   unfold ewF;rw [if_pos hE]
  rw [this] at h5;rw [if_neg hl0];exact⟨_,rfl,rfl,((k2.tr k4).mono fun _ _ e=>e.elim).trans k5 fun _ _ e=>e,h5⟩
end
end Go.Proofs.YtdgbechegbmpcaaGreatDoor
namespace Go.Proofs.YtdgbechegbmpcaaGreatDoor
open Go Go.Eng Go.Proofs.Tryz
open Go.Value (bool func)
open Option (isNone)
open Go.IntKind (wrap)
theorem vc247(l0:Nat)(f:OA)(w:WD)(K:KV)(h:Q (Wp f (Rp w f 0 fun x=>gIf (isP x) ((!isNone x)=true) (∃(y:Option Nat),((!isNone x)=true->rd w (pb x) (po x+12)=some (.map y))/\Wif (!(!isNone x&&!isNone y)) (K (.tuple #[]) w) (Wp f (Rp w f 0 fun x=>Wp x (∃(z A B C D E F G j o q:Option Nat),AS w (pb x) (po x+1) [Value.map z,Value.map A,Value.map B,Value.map C,Value.map D,Value.map E,Value.map F,Value.map G,Value.map j,Value.map o,Value.map q]/\∃(I:OA->Nat->Nat->Int->WD->Nat->Prop),(∃(n:Nat),I none 0 0 0 w n)/\∀(a:OA) (l c:Nat) (n:Int) (w':WD) (H:Nat),I a l c n w' H->Wif (decide (n<11)) (Wn n 11 (∃(x:Option Nat),[Value.map z,Value.map A,Value.map B,Value.map C,Value.map D,Value.map E,Value.map F,Value.map G,Value.map j,Value.map o,Value.map q][Int.toNat n*1]? = some (.map x)/\∃(p:OA) (g:WD),rngIs prog 142 (Value.map x) (pt p) w' g/\∃(s:OA->Nat->Nat->WD->Nat->Prop),(∃(n:Nat),s a l c g n)/\∀(a:OA) (l c:Nat) (w':WD) (i:Nat),s a l c w' i->(∃(d:WD),KR prog (pt p) false 0 (Value.tuple #[bool false]) w' d/\Lt H fun m=>I a l c (wrap .i64 (n+1)) d m)\/∃(k v:Value) (d:WD),KR prog (pt p) false 0 (Value.tuple #[bool true,k,v]) w' d/\∃(x:Int) (h:Value),entIs prog (pt p) (Value.tuple #[vi x,h]) d/\AW d #[vi x,vi n] 141 fun w'=>∃(J:OA) (L c_1:Nat) (t:WD),BF prog #[131,131] 131 (sl a l c) (sl (aD d.heap.size) 1 1) (sl J L c_1) w' t/\Lt i fun m=>s J L c_1 t m)) (C0 248 #[sl a l c,func (.func 249) #[] #[]] w' fun w'=>∃(I:Int->WD->Nat->Prop),(∃(n:Nat),I 0 w' n)/\∀(n:Int) (w':WD) (i:Nat),I n w' i->Wif (decide (n<(↑l:Int))) (Wp a (Wn n l (∃(x h:Int),(rd w' (pb a) (po a+Int.toNat n*2)=some (.int .i64 x)/\rd w' (pb a) (po a+Int.toNat n*2+1)=some (.int .i64 h))/\AW w' #[vi 0,vi 0] 141 fun g=>(wr g w'.heap.size 0/\wr g w'.heap.size 1)/\St (st g w'.heap.size 0 (vi x)) w'.heap.size 1 (vi h) fun d=>∃(x u:Int),(rd d w'.heap.size 0=some (.int .i64 x)/\rd d w'.heap.size 1=some (.int .i64 u))/\E8 prog l0 [Value.agg #[vi x,vi u]] d fun(r:Ending) (w':WD)=>∃(b:Bool),r=rT (bool b)/\Wif (!b) (K (.tuple #[]) w') (Lt i fun m=>I (wrap .i64 (n+1)) w' m)))) (K (.tuple #[]) w'))))))))):Ret 247 #[Value.func (Fn.yield l0) #[] #[],pt f] w K:=vcA L0 2 [1000041] func247 h
theorem vc249(x0 x1 y0 y1:Int)(w:WD)(K:KV)(h:Q (AW w #[vi x0,vi x1] 141 fun w'=>AW w' #[vi y0,vi y1] 141 fun a=>RI a w.heap.size 0 fun x=>RI a w'.heap.size 0 fun b=>K (vi (wrap .i64 (x-b))) a)):Ret 249 #[Value.agg #[vi x0,vi x1],Value.agg #[vi y0,vi y1]] w K:=vcA L0 2 [] func249 h
end Go.Proofs.YtdgbechegbmpcaaGreatDoor
namespace Go.Proofs.YtdgbechegbmpcaaGreatDoor
open Go Go.Eng Go.Proofs.Tryz
def frB(l:List Bk):List Bk:=l.filter fun x=>x.g==0
def blkV(x:Bk):Value:=.agg #[.int .i64 (x.p:Int),.int .i64 (x.o:Int)]
theorem QF{l:List Bk}{x:Bk}:x∈frB l↔x∈l/\x.g=0:=by
 unfold frB;rw [List.mem_filter];simp
def HO(l:List Bk)(a:Nat):Nat:=((l.find? fun x=>x.g==0&&x.p==a).map (·.o)).getD 0
theorem ordAt_of{l:List Bk}{n:Nat}(h:CQ 0 l n){x:Bk}(hx:x∈l)(hg:x.g=0):HO l x.p=x.o:=by
 unfold HO
 cases hf:l.find? fun y=>y.g==0&&y.p==x.p with
 | none=>
  have:=List.find?_eq_none.1 hf x hx;simp [hg] at this
 | some y=>
  have h1:=List.mem_of_find?_eq_some hf;have h2:=List.find?_some hf;simp only [Bool.and_eq_true,beq_iff_eq] at h2;have:y=x:=KY h h1 hx h2.2;rw [this];rfl
theorem frB_sorted{l:List Bk}{n:Nat}(h:CQ 0 l n):((frB l).map (·.p)).Pairwise (fun a b=>a<b):=by
 rw [List.pairwise_map];refine((tile_pw h).filter _).imp ?_;intro x y hxy;have:=p2 x.o;omega
def BS(l:List Bk)(d:List Nat):List Value:=d.flatMap fun(a:Nat)=>[.int .i64 (a:Int),.int .i64 (HO l a:Nat)]
theorem rowCells_app(l:List Bk)(d d':List Nat):BS l (d++d')=BS l d++BS l d':=by simp [BS]
theorem G8(l:List Bk):∀d:List Nat,(BS l d).length=d.length*2
 | []=>rfl
 | a::d=>by
  have:=G8 l d;simp only [BS,List.flatMap_cons,lap,List.length_cons,List.length_nil] at this ⊢;omega
theorem J4(l:List Bk):∀(d:List Nat) (i:Nat) (a:Nat),d[i]? = some a->(BS l d)[i*2]? = some (.int .i64 (a:Int))/\(BS l d)[i*2+1]? = some (.int .i64 (HO l a:Nat))
 | [],i,a,h=>by simp at h
 | x::d,0,a,h=>by
  simp at h;subst h;exact⟨rfl,rfl⟩
 | x::d,i+1,a,h=>by
  have:=J4 l d i a (by simpa using h);have e:BS l (x::d)=[.int .i64 (x:Int),.int .i64 (HO l x:Nat)]++BS l d:=rfl;rw [e];constructor
  ·rw [gar (by simp;omega),show(i+1)*2-[Value.int .i64 (x:Int),.int .i64 (HO l x:Nat)].length=i*2 by simp;omega];exact this.1
  ·rw [gar (by simp;omega),show(i+1)*2+1-[Value.int .i64 (x:Int),.int .i64 (HO l x:Nat)].length=i*2+1 by simp;omega];exact this.2
def frN(q:Nat)(l:List Bk):List Nat:=(l.filter fun x=>x.g==0&&x.o==q).map (·.p)
def plc(q:Nat)(l:List Bk):List Nat:=(l.filter fun x=>x.g==0&&decide (x.o<q)).map (·.p)
theorem fr_frN(q:Nat)(l:List Bk):fr q l=(frN q l).map fun(a:Nat)=>(a:Int):=by simp [fr,frN,Function.comp_def]
theorem plc_len(q:Nat)(l:List Bk):(plc q l).length<=l.length:=by
 unfold plc;rw [lmp];exact List.length_filter_le _ _
theorem plc_zero(l:List Bk):plc 0 l=[]:=by
 unfold plc;rw [List.filter_eq_nil_iff.2 (by intro x _;simp)];rfl
theorem plc_succ(q:Nat):∀l:List Bk,(plc (q+1) l).Perm (plc q l++frN q l)
 | []=>List.Perm.refl _
 | x::l=>by
  have ih:=plc_succ q l;unfold plc frN at *;by_cases hg:x.g=0
  ·rcases Nat.lt_trichotomy x.o q with h|h|h
   ·rw [List.filter_cons_of_pos (by simp [hg];omega),List.filter_cons_of_pos (by simp [hg];omega),List.filter_cons_of_neg (by simp [hg];omega)];simp only [List.map_cons,List.cons_append];exact ih.cons _
   ·rw [List.filter_cons_of_pos (by simp [hg];omega),List.filter_cons_of_neg (by simp [hg];omega),List.filter_cons_of_pos (by simp [hg];omega)];simp only [List.map_cons];exact(ih.cons _).trans List.perm_middle.symm
   ·rw [List.filter_cons_of_neg (by simp [hg];omega),List.filter_cons_of_neg (by simp [hg];omega),List.filter_cons_of_neg (by simp [hg];omega)];exact ih
  ·rw [List.filter_cons_of_neg (by simp [hg]),List.filter_cons_of_neg (by simp [hg]),List.filter_cons_of_neg (by simp [hg])];exact ih
theorem plc_all{l:List Bk}(h:∀x∈l,x.o<=10):plc 11 l=(frB l).map (·.p):=by
 unfold plc frB;congr 1;apply List.filter_congr;intro x hx;have:=h x hx;simp;omega
theorem info_blk:(prog.info? 141).map (fun i=>(i.zero,i.size,i.bytes))=some (some (.agg #[.int .i64 0,.int .i64 0]),2,16):=by kernel_rfl
theorem app_blk{w:WD}{base:Nat}{v:Value}{n:Nat}{xs:List Value}(ho:w.ownsRow base 141 2 v n xs){X m c off:Nat}{ys news:List Value}(hx:own w X ys)(hys:(ys.drop off).take (m*2)=news)(hl:news.length=m*2)
 (h1:∀u∈news,u.oneCell'=true) (h63:n+m<=1000000) (hbase:base<=w.heap.size) :
 ∃a l c' w',BF prog #[131,131] 131 v (.slice (some ⟨X,off,none⟩) m c) (.slice a l c') w w'/\l=n+m/\w'.ownsRow base 141 2 (.slice a l c') (n+m) (xs++news)/\Kept (fun b=>v.ownBlock=some b) w w':=by
 have h:=info_blk
 cases hi:prog.info? 141 with
 | none=>rw [hi] at h;cases h
 | some i=>
  rw [hi] at h;simp at h;exact app_own (P:=prog) (t:=131) (ty:=131) (e:=141) (i:=i) (z:=.agg #[.int .i64 0,.int .i64 0]) (size:=2) underlying131 hi h.1 h.2.1 rfl (by decide) ho hx hys hl h1 h63 (by omega) hbase
def SortSays(l:List Bk):Prop:=∀(w:WD) (a:OA) (n c base:Nat) (d:List Nat),w.ownsRow base 141 2 (.slice a n c) n (BS l d)->(∀x∈d,x<128)->d.Nodup->d.length<=128->
 Calls prog 248 #[.slice a n c,.func (.func 249) #[] #[]] w fun e w'=>e=.returned (.tuple #[])/\w'.ownsRow base 141 2 (.slice a n c) n (BS l (d.mergeSort fun x y=>decide (x<=y)))/\Kept (fun b=>(Value.slice a n c).ownBlock=some b) w w'
theorem sorted_perm_eq{d e:List Nat}(hp:d.Perm e)(he:e.Pairwise (fun a b=>a<b)):(d.mergeSort fun x y=>decide (x<=y))=e:=by
 have h1:(d.mergeSort fun x y=>decide (x<=y)).Pairwise (fun x y=>x<=y):=by
  have:=List.pairwise_mergeSort (le:=fun(x y:Nat)=>decide (x<=y)) (by intro a b c h1 h2;simp at *;omega) (by intro a b;simp;omega) d;exact this.imp fun h=>by simpa using h
 have h2:(d.mergeSort fun x y=>decide (x<=y)).Perm e:=(List.mergeSort_perm d _).trans hp;exact h2.eq_of_pairwise (le:=fun x y=>x<=y) (fun a b _ _ h1 h2=>by omega) h1 (he.imp fun h=>by omega)
theorem _root_.Go.Eng.Kept.toY{Y:NP}{w w':WD}(k:Kept AB w w'):Kept Y w w':=k.mono fun _ _ h=>h.elim
theorem rowTy{w:WD}{base e size n g:Nat}{v:Value}{xs:List Value}(h:w.ownsRow base e size v n xs)(hg:v.ownBlock=some g):base<=g/\∃cur,w.heap[g]? = some (.cells cur e (0,0)):=by
 rcases h.2 with⟨rfl,_⟩|⟨g',cap,cur,rfl,hb,hgg,_⟩
 ·simp [Value.ownBlock] at hg
 ·simp [Value.ownBlock] at hg;subst hg;exact⟨hb,cur,hgg⟩
section
variable {w w':WD}{b c t:Nat}{m:Nat->Nat}{n:Nat}{L:List Bk}
theorem row2_rd{w:WD}{base e l c n:Nat}{a:OA}{xs:List Value}(h:w.ownsRow base e 2 (.slice a l c) n xs){i:Nat}(hi:i<n) :
 ∃g,a=some ⟨g,0,none⟩/\l=n/\base<=g/\g<w.heap.size/\rd w g (i*2)=xs[i*2]? /\ rd w g (i*2+1)=xs[i*2+1]? := by
 obtain⟨hl,hh⟩:=BZ h;rcases hh with⟨_,h0,_⟩|⟨g,cs,rfl,hg,og,htk,_,_⟩
 ·omega
 ·refine⟨g,rfl,hl,hg,og.lt,?_,?_⟩
  ·rw [og.rd,<- htk,List.getElem?_take,if_pos (by omega)]
  ·rw [og.rd,<- htk,List.getElem?_take,if_pos (by omega)]
theorem DA.own{Y:NP}{g:Nat}{cs:List Value}(k:DA Y w w')(hy:Y g)(h:own w g cs):own w' g cs:=by
 obtain⟨ty,h⟩:=h;exact⟨ty,(k.blk g hy).trans h⟩
theorem blocks_gives(hs:SortSays L)(h:BAt w b m t (BQ n L))(hi:Inv n L)(hc:rd w c 0=some (ptr b)) :
 DW prog 247 [.pointer (some ⟨c,0,none⟩)] ((frB L).map fun x=>[blkV x]) (fun _=>False) w:=by
 refine⟨fun l J Jx W hk hab habx hY h0=>?_⟩;refine(vc247 l (some ⟨c,0,none⟩) W (fun v w'=>(∃Y,J Y ((frB L).map fun x=>[blkV x]).length w')\/∃Y,Jx Y w') ?_).mono ?_
 rotate_left
 ·rintro e w' ⟨v,rfl,hw⟩;exact⟨⟨v,rfl⟩,hw⟩
 have hW:=h.k hk;have hn128:=hi.n1.2;have h10:∀x∈L,x.o<=10:=fun x hx=>(BC hi.tl hx).2.2.2;have hLl:=QC hi.tl;have hpl:∀q,(plc q L).length<=128:=fun q=>by have:=plc_len q L;omega
 unfold Q;simp only [Ri,Rp,Rs,Wp,Wn,isP_some,Wif_true,gIf_true,pb_some,po_some,za];refine⟨_,hk.rd_some hc id,?_⟩;simp only [Ri,Rp,Rs,Wp,Wn,isP_some,Wif_true,gIf_true,pb_some,po_some,za];refine⟨_,fun _=>hW.r12,AG rfl ⟨_,hk.rd_some hc id,?_⟩⟩;simp only [Ri,Rp,Rs,Wp,Wn,isP_some,Wif_true,gIf_true,pb_some,po_some,za];refine⟨some (m 0),some (m 1),some (m 2),some (m 3),some (m 4),some (m 5),some (m 6),some (m 7),some (m 8),some (m 9),some (m 10),hW.so.AS 1 (fun j hj=>?_),?_⟩
 ·simp at hj;have:j=0\/j=1\/j=2\/j=3\/j=4\/j=5\/j=6\/j=7\/j=8\/j=9\/j=10:=by omega
  rcases this with rfl|rfl|rfl|rfl|rfl|rfl|rfl|rfl|rfl|rfl|rfl <;> rfl
 have hbase0:∀o,o<11->m o<W.heap.size:=fun o ho=>(hW.mf o ho).lt;refine⟨fun a l' c' k w' N=>∃(q:Nat) (d:List Nat),k=q/\q<=11/\N=11-q/\Kept AB W w'/\l'=d.length/\w'.ownsRow W.heap.size 141 2 (.slice a l' c') d.length (BS L d)/\d.Perm (plc q L),
  ⟨11,0,[],rfl,by omega,rfl,Kept.refl _ _,rfl,World.ownsRow_nil _ _ _ _,by rw [plc_zero]⟩,?_⟩
 rintro a _ c' _ w1 _ ⟨q,d,rfl,hq,rfl,k1,rfl,row1,hp1⟩;have hdl:d.length<=128:=by rw [hp1.length_eq];exact hpl q
 refine AE (fun hc2=>?_) (fun hc2=>?_)
 ·simp only [decide_eq_true_eq] at hc2;have hq11:q<11:=by omega
  refine Wi ⟨some (m q),?_,?_⟩
  ·rw [tnc,mo]
   match q,hq11 with
   | 0,_|1,_|2,_|3,_|4,_|5,_|6,_|7,_|8,_|9,_|10,_=>rfl
  have mq1:BE w1 (m q) (IP (fr q L)):=(hW.mf q hq11).k k1;obtain⟨w2,hrng,k2,I2⟩:=range_map (P:=prog) underlying142 mq1;refine⟨_,w2,hrng,?_⟩;have row2:=AR row1 k2 (fun _ _ _ _=>id);have hr0:=I2.lt.1;have hs01:=k1.sz;have hs12:=k2.sz;generalize hrE:w1.heap.size=r at *;refine⟨fun a l' c' w' N=>∃(R:List (Int×Value)) (d:List Nat),R.length=N/\Kept AB W w'/\FY w' r (m q) (IP (fr q L)) R/\l'=d.length/\w'.ownsRow W.heap.size 141 2 (.slice a l' c') d.length (BS L d)/\(∀g,(Value.slice a l' c').ownBlock=some g->g≠r)/\
   (d.map (fun(a:Nat)=>(a:Int))++R.map (·.1)).Perm ((plc (q+1) L).map fun(a:Nat)=>(a:Int))/\∀p∈R,∃x∈L,x.g=0/\x.o=q/\p.1=(x.p:Int),
   ⟨_,IP (fr q L),d,rfl,k1.tr k2,I2,rfl,row2,fun g hg e=>?_,?_,fun p hp=>?_⟩,?_⟩
  ·obtain⟨_,cur,hcu⟩:=rowTy row1 hg;have:=(F3.1 hcu).1;omega
  ·have e1:(IP (fr q L)).map (·.1)=(frN q L).map fun(a:Nat)=>(a:Int):=by rw [<- fr_frN];simp [IP,Function.comp_def]
   rw [e1,<- FU];exact((hp1.append_right _).trans (plc_succ q L).symm).map _
  ·obtain⟨k,hk',rfl⟩:=List.mem_map.1 hp;obtain⟨x,h1,h2,h3,h4⟩:=I8.1 hk';exact⟨x,h1,h2,h3,h4.symm⟩
  rintro a _ c' w3 _ ⟨R,d,rfl,k3,I3,rfl,row3,hsep,hperm,hR⟩;have hdl:d.length<=128:=by
   have e1:=hperm.length_eq;simp only [lap,lmp] at e1;have:=hpl (q+1);omega
  rcases next_map (P:=prog) (ty:=0) I3 with⟨rfl,hnx⟩|⟨⟨f,v⟩,R',w4,hRp,hnx,k4,I4,hent⟩
  ·left;refine⟨w3,hnx,11-(q+1),by omega,q+1,d,wzz,by omega,rfl,k3,rfl,row3,?_⟩;simp only [List.map_nil,List.append_nil] at hperm;have:(d.map (fun(a:Nat)=>(a:Int))).map Int.toNat=d:=by rw [List.map_map];simp [Function.comp_def]
   have h2:((plc (q+1) L).map (fun(a:Nat)=>(a:Int))).map Int.toNat=plc (q+1) L:=by rw [List.map_map];simp [Function.comp_def]
   have h3:=hperm.map Int.toNat;rw [this,h2] at h3;exact h3
  ·right;obtain⟨x,hx1,hx2,hx3,hx4⟩:=hR (f,v) (hRp.mem_iff.2 (by simp));dsimp only at hx4;subst hx4;have row4:=AR row3 k4 (fun g _ _ hg e=>hsep g hg e);have k34:Kept AB W w4:=BD k3 k4 fun b e=>by omega
   refine⟨_,_,w4,hnx,(x.p:Int),v,hent,?_⟩;intro w5 e5;have k45:=kal e5;have p5:=AD (c:=[Value.int .i64 (x.p:Int),.int .i64 (q:Int)]) e5;have row5:=AR row4 k45 (fun _ _ _ _=>id);have hcell:BS L [x.p]=[Value.int .i64 (x.p:Int),.int .i64 (q:Int)]:=by
    simp only [BS,List.flatMap_cons,List.flatMap_nil,List.append_nil];rw [ordAt_of hi.tl hx1 hx2,hx3]
   have hs3:=k3.sz;have hs4:=k4.sz;have hs5:=k45.sz;obtain⟨a',l',c'',w6,happ,rfl,row6,k6⟩:=app_blk row5 p5 (m:=1) (off:=0) (c:=1) (news:=[Value.int .i64 (x.p:Int),.int .i64 (q:Int)]) rfl rfl (fun u hu=>by simp at hu;rcases hu with rfl|rfl <;> rfl) (by omega) (by omega);refine⟨a',_,c'',w6,happ,R'.length,by rw [hRp.length_eq];simp,R',d++[x.p],rfl,BD (k34.tr k45) k6 fun g hg=>?_,?_,by simp,?_,fun g hg=>?_,?_,fun p hp=>hR p (hRp.mem_iff.2 (mcm _ hp))⟩
   ·exact(rowTy row5 hg).1
   ·exact(I4.k k45).kx k6 (fun e=>hsep r e rfl) (fun e=>by have:=(rowTy row5 e).1;have:=hbase0 q hq11;omega)
   ·have:BS L (d++[x.p])=BS L d++[Value.int .i64 (x.p:Int),.int .i64 (q:Int)]:=by rw [rowCells_app,hcell]
    rw [this];have e1:(d++[x.p]).length=d.length+1:=by simp
    rw [e1];exact row6
   ·intro e;subst e;obtain⟨_,cur,hcu⟩:=rowTy row6 hg;obtain⟨es,clk,since,seen,c0,_,hit,_⟩:=((I4.k k45).kx k6 (fun e=>hsep g e rfl) (fun e=>by have:=(rowTy row5 e).1;have:=hbase0 q hq11;omega)).ex;rw [hcu] at hit
    cases hit
   ·refine List.Perm.trans ?_ hperm;rw [FU,List.append_assoc];refine List.Perm.append_left _ ?_;exact(hRp.map (·.1)).symm
 ·have hq11:q=11:=by simp at hc2;omega
  subst hq11;have hplE:=plc_all h10;rw [hplE] at hp1;have hstr:=frB_sorted hi.tl;have hnd:d.Nodup:=hp1.nodup_iff.2 (hstr.imp fun h=>by omega);refine(hs w1 a d.length c' W.heap.size d row1 (fun x hx=>?_) hnd hdl).mono ?_
  ·obtain⟨y,hy,rfl⟩:=List.mem_map.1 (hp1.mem_iff.1 hx);have:=(BC hi.tl (QF.1 hy).1);have:=p2 y.o;omega
  rintro _ w2 ⟨rfl,row2,k2⟩;rw [sorted_perm_eq hp1 hstr] at row2;have K2:Kept AB W w2:=BD k1 k2 fun g hg=>(rowTy row1 hg).1;refine⟨rfl,?_⟩;have hlen:d.length=(frB L).length:=by rw [hp1.length_eq,lmp]
  have hJ2:=hab _ _ _ _ h0 K2.toY;refine⟨fun k w' N=>∃(q:Nat) (Y:NP),k=q/\q<=d.length/\N=d.length-q/\J Y q w'/\(∀g,(Value.slice a d.length c').ownBlock=some g->Y g)/\w'.ownsRow W.heap.size 141 2 (.slice a d.length c') d.length (BS L ((frB L).map (·.p))),
   ⟨d.length,0,_,rfl,by omega,rfl,hJ2,fun g hg=>?_,row2⟩,?_⟩
  ·obtain⟨h1,cur,hcu⟩:=rowTy row2 hg;exact .inr ⟨h1,(F3.1 hcu).1⟩
  rintro _ w3 _ ⟨q,Y,rfl,hq,rfl,hJ3,hYg,row3⟩;refine AE (fun hc3=>?_) (fun hc3=>?_)
  ·simp only [decide_eq_true_eq] at hc3;have hqd:q<d.length:=by omega
   obtain⟨g,rfl,_,hgb,hgs,r0,r1⟩:=row2_rd row3 hqd;have hxq:q<(frB L).length:=by omega
   obtain⟨x,hx⟩:∃x,(frB L)[q]? = some x:=⟨_,geg hxq⟩;have hxL:=QF.1 (mog hx);have hget:=J4 L ((frB L).map (·.p)) q x.p (by simp [hx]);rw [hget.1] at r0;rw [hget.2,ordAt_of hi.tl hxL.1 hxL.2] at r1;simp only [Ri,Rp,Rs,Wp,Wn,isP_some,Wif_true,pb_some,po_some,za,tnc];refine Wi ⟨(x.p:Int),(x.o:Int),⟨r0,r1⟩,?_⟩;intro w4 e4;have k34:=kal e4;have o4:=AD (c:=[Value.int .i64 0,.int .i64 0]) e4;have hJ4:=hab _ _ _ _ hJ3 k34.toY;have s34:w4.heap.size=w3.heap.size+1:=by rw [e4];simp only [World.alloc,Array.size_push]
   refine⟨⟨o4.wr (by simp),o4.wr (by simp)⟩,?_⟩;intro w5 e5;have o5:=o4.s2 e5;have k45:Kept (·=w3.heap.size) w4 w5:=kr.s2 e5 (.inl rfl);have k35:Kept AB w3 w5:=k34.trans k45 fun b hb e=>by omega
   have hJ5:=hab _ _ _ _ hJ3 k35.toY;have row5:=AR row3 k35 (fun _ _ _ _=>id);refine⟨(x.p:Int),(x.o:Int),⟨by rw [o5.rd];rfl,by rw [o5.rd];rfl⟩,?_⟩;have hy:=hY _ q [blkV x] w5 (by simp [hx]) hJ5;obtain⟨fn,tm,asg',bo,hrun,hR⟩:=hy.run;refine⟨fn,tm,asg',bo,hrun,hR.mono ?_⟩;rintro en w6 ⟨k6,⟨rfl,hJ6⟩|⟨rfl,hx6⟩⟩
   ·refine⟨true,rfl,AG rfl ⟨d.length-(q+1),by omega,q+1,_,wzz,by omega,rfl,hJ6,fun g' hg'=>.inl (hYg g' hg'),?_⟩⟩;have hYg0:=hYg g (by simp [Value.ownBlock]);rcases row5 with⟨hl5,⟨hv,h00⟩|⟨g',cap,cur,hv,hb',hgg,hrest⟩⟩
    ·cases hv
    ·simp only [Value.slice.injEq,Option.some.injEq,Addr.mk.injEq] at hv;obtain⟨⟨rfl,_⟩,_,rfl⟩:=hv;exact⟨hl5,.inr ⟨g,_,cur,rfl,hb',(k6.blk g (.inl (.inl hYg0))).trans hgg,hrest⟩⟩
   ·exact⟨false,rfl,AA rfl (.inr ⟨_,hx6⟩)⟩
  ·have:q=d.length:=by simp at hc3;omega
   subst this;refine .inl ⟨Y,?_⟩;rw [lmp,<- hlen];exact hJ3
end
end Go.Proofs.YtdgbechegbmpcaaGreatDoor
namespace Go.Proofs.YtdgbechegbmpcaaGreatDoor
open Go Eng Go.Sort
def PX(L:List Bk)(a:Fin 128):List Value:=[.int .i64 (a.1:Int),.int .i64 (HO L a.1:Nat)]
theorem holds_blk{w:WD}{g:Nat}{cur:Array Value}{e:TypeId}{F:Array Value}(hb:w.heap[g]? = some (.cells cur e (0,0)))(ht:cur.toList.take F.size=F.toList):Holds id w g 0 F:=by
 intro j hj;refine⟨?_,by simp [World.frozen?,hb]⟩;have h1:(cur.toList.take F.size)[j]? = F.toList[j]? := by rw [ht]
 rw [List.getElem?_take_of_lt hj] at h1;simp only [World.cell?,hb,za];simp only [Option.isSome_none,Bool.false_eq_true,if_false];rw [<- Array.getElem?_toList,h1];simp [hj]
theorem heap_sortedV{w:WD}{g n:Nat}{os:Array Obj}{cur:Array Value}{e:TypeId}{fr:Nat×Nat}(d:Array Value)(hb:w.heap[g]? = some (.cells cur e fr)) :
 (grow (putRow id (Sort.ahead w n) g 0 d) os).heap[g]? = some (.cells (putCells id 0 d cur) e fr):=by
 have hg:g<w.heap.size:=(F3.1 hb).1;rw [heap_grow_old _ _ (by simpa using hg)];simp [putRow,mapBlock,Sort.ahead,Array.getElem?_modify,hb,onCells]
theorem PW{w:WD}{g n:Nat}{os:Array Obj}(d:Array Value):w.grownBy (grow (putRow id (Sort.ahead w n) g 0 d) os) (some g):=by
 refine⟨rfl,rfl,rfl,by simp,fun k hk hne=>?_⟩;rw [heap_grow_old _ _ (by simpa using hk)];have:g≠k:=fun e=>hne (by rw [e]);simp [putRow,mapBlock,Sort.ahead,Array.getElem?_modify,this]
theorem take_putCellsV(cur:Array Value)(F:Array Value)(h:F.size<=cur.size):(putCells id 0 F cur).toList.take F.size=F.toList:=by
 apply List.ext_getElem?;intro j;by_cases hj:j<F.size
 ·rw [List.getElem?_take_of_lt hj,Array.getElem?_toList];simp [putCells,hj,show j<cur.size by omega]
 ·rw [List.getElem?_take_eq_none (by omega),gen (by simp;omega)]
theorem flat_row(L:List Bk)(d:List (Fin 128)):(flatK (PX L) 2 d.toArray).toList=BS L (d.map (·.val)):=by
 have hlen:=G8 L (d.map (·.val));rw [lmp] at hlen;apply List.ext_getElem?;intro t;by_cases ht:t<d.length*2
 ·have h1:(flatK (PX L) 2 d.toArray).toList[t]? = some ((PX L d.toArray[t/2]!)[t%2]!):=by
   have:=get_flatK (PX L) 2 d.toArray t (by simpa using ht);rw [Array.getElem?_toList,Array.getElem?_eq_getElem (by simpa using ht),<- this,getElem!_pos _ t (by simpa using ht)]
  rw [h1];have hi:t/2<d.length:=by omega
  have hd:(d.map (·.val))[t/2]? = some (d[t/2]).val:=by simp [hi]
  have hd2:d.toArray[t/2]! = d[t/2]:=by simp [hi]
  obtain⟨c1,c2⟩:=J4 L _ _ _ hd;rw [hd2];rcases Nat.mod_two_eq_zero_or_one t with h|h
  ·have e:t=t/2*2:=by omega
   rw [h]
   conv=>rhs;rw [e,c1]
   rfl
  ·have e:t=t/2*2+1:=by omega
   rw [h]
   conv=>rhs;rw [e,c2]
   rfl
 ·rw [gen (by simp;omega),gen (by omega)]
theorem row_after{w:WD}{base n c:Nat}{L:List Bk}{d d':List (Fin 128)}{m:Nat}{os:Array Obj}{g:Nat}(h:w.ownsRow base 141 2 (.slice (some ⟨g,0,none⟩) n c) n (BS L (d.map (·.val))))(hl:d'.length=d.length)(hn:n=d.length) :
 (sortWorldK (PX L) 2 w g 0 m d'.toArray os).ownsRow base 141 2 (.slice (some ⟨g,0,none⟩) n c) n (BS L (d'.map (·.val)))/\Kept (fun b=>g=b) w (sortWorldK (PX L) 2 w g 0 m d'.toArray os):=by
 rcases h.2 with⟨h0,_⟩|⟨g',cap,cur,hv,hb,hgg,hnc,hm,hsz,htk⟩
 ·cases h0
 cases hv
 have hF:(flatK (PX L) 2 d'.toArray).size=n*2:=by simp [hl,hn]
 constructor
 ·refine⟨by rw [G8,lmp];omega,.inr ⟨g,c,_,rfl,hb,heap_sortedV _ hgg,hnc,hm,by simp [putCells,hsz],?_⟩⟩;rw [<- flat_row,<- hF];exact take_putCellsV _ _ (by rw [hF,hsz];omega)
 ·have:=Kept.grownBy (PW (w:=w) (g:=g) (n:=m) (os:=os) (flatK (PX L) 2 d'.toArray));exact this.mono fun b _ h=>by simpa using h
theorem cmp_lays(L:List Bk)(blk off size:Nat)(w:WD):CmpLays Tryz.prog 249 #[] (PX L) 2 (fun x y:Fin 128=>(x.1:Int)-(y.1:Int)) blk off size w:=fun m os dk _ x y=>by
 have H:∀W:WD,Calls Tryz.prog 249 #[.agg #[.int .i64 (x.1:Int),.int .i64 (HO L x.1:Nat)],.agg #[.int .i64 (y.1:Int),.int .i64 (HO L y.1:Nat)]] W fun e w'=>e=.returned (.int .i64 ((x.1:Int)-(y.1:Int)))/\∃q os',w'=grow (W.drewN q) os':=fun W=>by
  refine(vc249 _ _ _ _ W (fun v w'=>v=.int .i64 ((x.1:Int)-(y.1:Int))/\∃q os',w'=grow (W.drewN q) os') ?_).mono ?_
  ·unfold Q;intro w1 e1 w2 e2;have o1:=AD (c:=[.int .i64 (x.1:Int),.int .i64 (HO L x.1:Nat)]) e1;have o2:=AD (c:=[.int .i64 (y.1:Int),.int .i64 (HO L y.1:Nat)]) e2;refine⟨_,by rw [(o1.al e2).rd];rfl,_,by rw [o2.rd];rfl,?_,0,#[.cells #[.int .i64 (x.1:Int),.int .i64 (HO L x.1:Nat)] 141,.cells #[.int .i64 (y.1:Int),.int .i64 (HO L y.1:Nat)] 141],?_⟩
   ·have:=x.2;have:=y.2;rw [wi (by omega)]
   ·rw [e2,e1,alloc_eq_grow,alloc_eq_grow,grow_grow];rfl
  ·rintro e w' ⟨v,rfl,rfl,h⟩;exact⟨rfl,h⟩
 exact H _
theorem ltB:ltOf (fun x y:Fin 128=>(x.1:Int)-(y.1:Int))=fun x y=>decide (x.1<y.1):=by
 funext x y;unfold ltOf;exact decide_eq_decide.2 (by dsimp only;omega)
theorem swoB:SWO (ltOf fun x y:Fin 128=>(x.1:Int)-(y.1:Int)):=by
 rw [ltB];exact⟨fun x=>by simp,fun x y z h1 h2=>by simp at *;omega,fun x y z h1 h2=>by simp at *;omega⟩
theorem totB:∀x y:Fin 128,ltOf (fun x y:Fin 128=>(x.1:Int)-(y.1:Int)) x y=false->ltOf (fun x y:Fin 128=>(x.1:Int)-(y.1:Int)) y x=false->x=y:=by
 rw [ltB];intro x y h1 h2;simp at h1 h2;exact Fin.ext (by omega)
theorem merge_map(d:List (Fin 128)):(d.mergeSort fun x y=>!(ltOf (fun x y:Fin 128=>(x.1:Int)-(y.1:Int))) y x).map (·.val)=(d.map (·.val)).mergeSort fun x y=>decide (x<=y):=by
 rw [List.map_mergeSort (s:=fun x y=>decide (x<=y))];intro a _ b _;rw [ltB]
 show(!decide (b.1<a.1))=decide (a.1<=b.1)
 rw [<- decide_not];exact decide_eq_decide.2 (by omega)
end Go.Proofs.YtdgbechegbmpcaaGreatDoor
namespace Go.Proofs
open Go.Shelf
def Tryz.LA:Go.Shelf.Ren:=⟨fun|6=>248|15=>260|14=>276|28=>289|29=>290|20=>299|21=>300|22=>301|23=>302|24=>303|25=>304|26=>305|27=>306|46=>317|47=>309|48=>310|49=>318|50=>319|57=>324|n=>n,fun|22=>131|24=>141|25=>364|3=>3|39=>306|0=>0|53=>379|55=>76|4=>4|46=>392|45=>391|50=>309|5=>5|9=>9|66=>408|70=>412|76=>417|77=>73|n=>n,fun|n=>n⟩
theorem Tryz.sortFA:Go.Proofs.SlLaysF0.n6 Tryz.prog Tryz.LA:={
 mixed:=by kernel_rfl
 f6:=⟨Tryz.f248.name,by decide,Tryz.func248.trans (congrArg some (by kernel_rfl))⟩
 f14:=⟨Tryz.f276.name,by decide,Tryz.func276.trans (congrArg some (by kernel_rfl))⟩
 f15:=Tryz.func260.trans (congrArg some (by kernel_rfl))
 f20:=⟨Tryz.f299.name,by decide,Tryz.func299.trans (congrArg some (by kernel_rfl))⟩
 f21:=⟨Tryz.f300.name,by decide,Tryz.func300.trans (congrArg some (by kernel_rfl))⟩
 f22:=⟨Tryz.f301.name,by decide,Tryz.func301.trans (congrArg some (by kernel_rfl))⟩
 f23:=⟨Tryz.f302.name,by decide,Tryz.func302.trans (congrArg some (by kernel_rfl))⟩
 f24:=⟨Tryz.f303.name,by decide,Tryz.func303.trans (congrArg some (by kernel_rfl))⟩
 f25:=⟨Tryz.f304.name,by decide,Tryz.func304.trans (congrArg some (by kernel_rfl))⟩
 f26:=⟨Tryz.f305.name,by decide,Tryz.func305.trans (congrArg some (by kernel_rfl))⟩
 f27:=⟨Tryz.f306.name,by decide,Tryz.func306.trans (congrArg some (by kernel_rfl))⟩
 f28:=Tryz.func289.trans (congrArg some (by kernel_rfl))
 f29:=Tryz.func290.trans (congrArg some (by kernel_rfl))
 f46:=⟨Tryz.f317.name,by decide,Tryz.func317.trans (congrArg some (by kernel_rfl))⟩
 f47:=Tryz.func309.trans (congrArg some (by kernel_rfl))
 f48:=Tryz.func310.trans (congrArg some (by kernel_rfl))
 f49:=⟨Tryz.f318.name,by decide,Tryz.func318.trans (congrArg some (by kernel_rfl))⟩
 f50:=⟨Tryz.f319.name,by decide,Tryz.func319.trans (congrArg some (by kernel_rfl))⟩
 f57:=⟨Tryz.f324.name,by decide,Tryz.func324.trans (congrArg some (by kernel_rfl))⟩
 t0:=Tryz.underlying0
 a0:=Tryz.isAgg0
 z0:=Tryz.sizeOf0
 v0:=Tryz.zeroValue0
 t3:=Tryz.underlying3
 a3:=Tryz.isAgg3
 z3:=Tryz.sizeOf3
 v3:=Tryz.zeroValue3
 t4:=Tryz.underlying4
 a4:=Tryz.isAgg4
 z4:=Tryz.sizeOf4
 v4:=Tryz.zeroValue4
 t5:=Tryz.underlying5
 a5:=Tryz.isAgg5
 z5:=Tryz.sizeOf5
 v5:=Tryz.zeroValue5
 t9:=Tryz.underlying9
 a9:=Tryz.isAgg9
 z9:=Tryz.sizeOf9
 v9:=Tryz.zeroValue9
 t22:=Tryz.underlying131
 a22:=Tryz.isAgg131
 z22:=Tryz.sizeOf131
 v22:=Tryz.zeroValue131
 t25:=Tryz.underlying364
 a25:=Tryz.isAgg364
 z25:=Tryz.sizeOf364
 v25:=Tryz.zeroValue364
 t39:=Tryz.underlying306
 a39:=Tryz.isAgg306
 z39:=Tryz.sizeOf306
 v39:=Tryz.zeroValue306
 t45:=Tryz.underlying391
 a45:=Tryz.isAgg391
 z45:=Tryz.sizeOf391
 v45:=Tryz.zeroValue391
 t46:=Tryz.underlying392
 a46:=Tryz.isAgg392
 z46:=Tryz.sizeOf392
 v46:=Tryz.zeroValue392
 t50:=Tryz.underlying309
 a50:=Tryz.isAgg309
 z50:=Tryz.sizeOf309
 v50:=Tryz.zeroValue309
 t53:=Tryz.underlying379
 a53:=Tryz.isAgg379
 z53:=Tryz.sizeOf379
 v53:=Tryz.zeroValue379
 t55:=Tryz.underlying76
 a55:=Tryz.isAgg76
 z55:=Tryz.sizeOf76
 v55:=Tryz.zeroValue76
 t66:=Tryz.underlying408
 a66:=Tryz.isAgg408
 z66:=Tryz.sizeOf408
 v66:=Tryz.zeroValue408
 t70:=Tryz.underlying412
 a70:=Tryz.isAgg412
 z70:=Tryz.sizeOf412
 v70:=Tryz.zeroValue412
 t76:=Tryz.underlying417
 a76:=Tryz.isAgg417
 z76:=Tryz.sizeOf417
 v76:=Tryz.zeroValue417
 t77:=Tryz.underlying73
 a77:=Tryz.isAgg73
 z77:=Tryz.sizeOf73
 v77:=Tryz.zeroValue73}
end Go.Proofs
namespace Go.Proofs.YtdgbechegbmpcaaGreatDoor
open Go Eng Go.Sort
theorem enters171:∀args w,(callFunc 249 args).run Tryz.prog w=.ok (.enter 249 args) w:=enters_of Tryz.func249 (by kernel_rfl) rfl
theorem sort_says(L:List Bk):SortSays L:=fun w a n c base d h hd hn hl=>by
 have hlen:=h.1;rw [G8] at hlen;have hnd:n=d.length:=by omega
 obtain⟨d',rfl⟩:∃d':List (Fin 128),d=d'.map (·.val):=⟨d.pmap (fun x hx=>⟨x,hx⟩) hd,by simp [List.map_pmap]⟩;rw [lmp] at hnd hl;rcases h.2 with⟨h0,h1⟩|⟨g,cap,cur,hv,hb,hgg,hnc,hm,hsz,htk⟩
 ·have hd0:d'=[]:=List.length_eq_zero_iff.1 (by omega);subst hd0
  cases h0
  refine(AnyF.slices_SortFunc_none (ρ:=Tryz.LA) Tryz.sortFA none 0 (.func (.func 249) #[] #[]) w).mono ?_;rintro e w' ⟨rfl,rfl⟩;exact⟨rfl,by simpa using h,Kept.refl _ _⟩
 ·cases hv
  have hglt:g<w.heap.size:=(F3.1 hgg).1;have hH:HoldsK (PX L) 2 w g 0 d'.toArray:=by
   refine holds_blk hgg ?_;rw [flat_row,<- htk];simp [hnd]
  have hcon:=AnyQ.slices_SortFunc_total (ρ:=Tryz.LA) Tryz.sortFA 2 Tryz.isAgg141 Tryz.sizeOf141 (PX L) (fun _=>rfl) (fun x v hv=>by simp [PX] at hv;rcases hv with rfl|rfl <;> rfl) (fun x y=>(x.1:Int)-(y.1:Int)) swoB 249 #[] g 0 c d'.toArray w enters171 (cmp_lays L g 0 _ w) hH hglt (by simp;omega) totB;have hs:d'.toArray.size=n:=by simp [hnd]
  rw [hs] at hcon;refine hcon.mono ?_;rintro e w' ⟨rfl,m,os,rfl⟩;have:=row_after (m:=m) (os:=os) (d':=(d'.mergeSort fun x y=>!(ltOf (fun x y:Fin 128=>(x.1:Int)-(y.1:Int))) y x)) h (List.length_mergeSort _) hnd;rw [merge_map] at this;exact⟨rfl,this.1,this.2.mono fun b _ hb=>by simp [Value.ownBlock,hb]⟩
end Go.Proofs.YtdgbechegbmpcaaGreatDoor
namespace Go.Proofs.YtdgbechegbmpcaaGreatDoor
open Go Go.Eng Go.Proofs.Tryz
theorem CY{B:Nat}{X:NP}{w w':WD}(k:Kept X w w')(hB:B+1<w.heap.size)(h1:¬X B)(h2:¬X (B+1)):BN B w w':=⟨k.sz,k.blk B (by omega) h1,k.blk (B+1) hB h2⟩
theorem keptY_of{Y X:NP}{w w':WD}(k:Kept X w w')(h:∀b,Y b->b<w.heap.size/\¬X b):DA Y w w':=⟨k.sz,fun b hb=>k.blk b (h b hb).1 (h b hb).2⟩
def bks(L:List Bk):List (Nat×Nat):=(frB L).map fun x=>(x.p,x.o)
theorem bks_len(L:List Bk):(bks L).length=(frB L).length:=by simp [bks]
theorem bks_free{x:Bk}(h:x.g=0)(B:List Bk):bks (x::B)=(x.p,x.o)::bks B:=by simp [bks,frB,h]
theorem bks_held{x:Bk}(h:x.g≠0)(B:List Bk):bks (x::B)=bks B:=by simp [bks,frB,h]
theorem bks_le{L:List Bk}{n:Nat}(h:CQ 0 L n):(bks L).length<=n:=by
 have:=QC h;have h2:(frB L).length<=L.length:=List.length_filter_le _ _;have:=bks_len L;omega
def zsh(c:Nat->Int)(L:Nat->List Bk):Nat->List (Nat×Nat)
 | 0=>[]
 | k+1=>zsh c L k++(bks (L k)).map fun y=>((AN c k).toNat+y.1,y.2)
theorem zsh_len{c:Nat->Int}{L:Nat->List Bk}:∀{k:Nat},(∀i,i<k->(bks (L i)).length<=128)->(zsh c L k).length<=128*k
 | 0,_=>by simp [zsh]
 | k+1,h=>by
  have:=zsh_len (c:=c) (k:=k) fun i hi=>h i (by omega);have:=h k (by omega);simp only [zsh,lap,lmp];omega
end Go.Proofs.YtdgbechegbmpcaaGreatDoor
namespace Go.Proofs.YtdgbechegbmpcaaGreatDoor
open Go Go.Eng Go.Proofs.Tryz
open Go.Value (bool func)
open Option (isNone)
open Go.IntKind (wrap)
theorem vc203(l0:Nat)(c:OA)(w:WD)(K:KV)(h:Q (AW w #[Value.func (Fn.yield l0) #[] #[]] 321 fun w'=>Wp c (Rp w' c 0 fun x=>gIf (isP x) ((!isNone x)=true) (∃(u:OA) (C D:Nat),((!isNone x)=true->rd w' (pb x) (po x+94)=some (.slice u C D))/\Wif (!(!isNone x&&!isNone u)) (CG [] w'/\∀(w2:WD),Kept (fun(b:Nat)=>List.Mem b []) w' w2->w2.heap.size=w'.heap.size->K (.tuple #[]) w2) (AW w' #[vi 0] 3 fun B=>Sw B w'.heap.size 0 (vi 0) fun o=>Wp c (Rp o c 0 fun x=>Wp x (Rs o x 94 fun t y E=>∃(I:Int->List Nat->WD->Nat->Prop),(∃(n:Nat),I 0 [] o n)/\∀(n:Int) (ds':List Nat) (d:WD) (z:Nat),I n ds' d z->Wif (decide (n<(↑y:Int))) (Wp t (Wn n y (Rp d t (Int.toNat n*1) fun x=>AW d #[pt x] 118 fun a=>∃(xss:List (List Value)),∃(R:NP),∃(g:(NP)->Nat->WD->Prop),∃(X:Nat->(NP)->WD->Prop),(DW prog 247 [ptr d.heap.size] xss R a/\(∀(xs:List Value),List.Mem xs xss->List.length xs=1/\∃(n q:Int),xs=[Value.agg #[vi n,vi q]])/\∀(b:Nat),R b->Nat.succ b<=a.heap.size)/\(∀(h:WD),Kept AB a h->h.heap.size=a.heap.size+2->g (fun(x:Nat)=>False) 0 h)/\(∀(Y:NP) (i:Nat) (W W':WD),g Y i W->(∀(b:Nat),Y b->a.heap.size+2<=b)->Kept (DJ a.heap.size Y) W W'->g (fun(b:Nat)=>Y b\/W.heap.size<=b/\Nat.succ b<=W'.heap.size) i W')/\(∀(k:Nat) (Y:NP) (W W':WD),X k Y W->(∀(b:Nat),Y b->a.heap.size+2<=b)->Kept (DJ a.heap.size Y) W W'->X k (fun(b:Nat)=>Y b\/W.heap.size<=b/\Nat.succ b<=W'.heap.size) W')/\(∀(Y:NP) (i:Nat) (W:WD),g Y i W->(∀(b:Nat),Y b->a.heap.size+2<=b)->a.heap.size+2<=W.heap.size->∀(n q:Int),xss[i]? = some [Value.agg #[vi n,vi q]]->AW W #[vi 0,vi 0] 141 fun f=>(wr f W.heap.size 0/\wr f W.heap.size 1)/\St (st f W.heap.size 0 (vi n)) W.heap.size 1 (vi q) fun p=>BN a.heap.size W p/\∀(w2:WD),Kept (fun(b:Nat)=>b=a.heap.size+1) p w2->w2.heap.size=p.heap.size->RI w2 W.heap.size 0 fun x=>RI w2 w'.heap.size 0 fun j=>Sw w2 W.heap.size 0 (vi (wrap .i64 (x+j))) fun w'=>RV w' w.heap.size 0 fun x=>∃(s A:Int),(rd w' W.heap.size 0=some (.int .i64 s)/\rd w' W.heap.size 1=some (.int .i64 A))/\∃(l:Nat),x=Value.func (Fn.yield l) #[] #[]/\E8 prog l [Value.agg #[vi s,vi A]] w' fun(r:Ending) (w':WD)=>∃(b:Bool),r=rT (bool b)/\Wif (!b) (BN a.heap.size w2 w'/\DA (fun(b:Nat)=>Y b\/R b) W w'/\X 1 Y w') (BN a.heap.size w2 w'/\DA (fun(b:Nat)=>Y b\/R b) W w'/\g Y (i+1) w'))/\(∀(Y:NP) (W:WD),g Y (List.length xss) W->DC a.heap.size W->Dr W fun h=>RI h w'.heap.size 0 fun x=>Wp c (Rp h c 0 fun j=>Wp j (Wn n 8 (RI h (pb j) (po j+18+Int.toNat n*1) fun s=>Sw h w'.heap.size 0 (vi (wrap .i64 (x+s))) fun f=>Lt z fun m=>I (wrap .i64 (n+1)) (a.heap.size::ds') f m))))/\(∀(Y:NP) (W:WD),X 0 Y W->DC a.heap.size W->CG (a.heap.size::ds') W/\∀(w2:WD),Kept (fun(b:Nat)=>List.Mem b (a.heap.size::ds')) W w2->w2.heap.size=W.heap.size->K (.tuple #[]) w2)/\∀(Y:NP) (W:WD),X 1 Y W->DC a.heap.size W->CG (a.heap.size::ds') W/\∀(w2:WD),Kept (fun(b:Nat)=>List.Mem b (a.heap.size::ds')) W w2->w2.heap.size=W.heap.size->K (.tuple #[]) w2))) (CG ds' d/\∀(w2:WD),Kept (fun(b:Nat)=>List.Mem b ds') d w2->w2.heap.size=d.heap.size->K (.tuple #[]) w2)))))))):Ret 203 #[Value.func (Fn.yield l0) #[] #[],pt c] w K:=vcA L15 2 [3000028] func203 h
end Go.Proofs.YtdgbechegbmpcaaGreatDoor
namespace Go.Proofs.YtdgbechegbmpcaaGreatDoor
open Go Go.Eng Go.Proofs.Tryz
section
variable {w w':WD}
theorem own_heap{b:Nat}{cs:List Value}(e:w'.heap=w.heap)(h:own w b cs):own w' b cs:=by
 obtain⟨t,h⟩:=h;exact⟨t,by rw [e];exact h⟩
theorem map_heap{b:Nat}{es:List (Int×Value)}(e:w'.heap=w.heap)(h:BE w b es):BE w' b es:=by
 obtain⟨a,c,h1,h2⟩:=h.ex;exact⟨⟨⟨a,c,by rw [e];exact h1,h2⟩,h.nd⟩,h.rg⟩
theorem bat_heap{b t:Nat}{m:Nat->Nat}{s:Bst}(e:w'.heap=w.heap)(h:BAt w b m t s):BAt w' b m t s:=
 ⟨own_heap e h.so,fun o ho=>map_heap e (h.mf o ho),map_heap e h.mt,h.dm,h.dt,h.db⟩
theorem zat_heap{z:Nat}{S:Zs}{L:Nat->List Bk}(e:w'.heap=w.heap)(h:ZAt w z S L):ZAt w' z S L:=by
 obtain⟨cs,h1,h2⟩:=h.sg;exact⟨own_heap e h.so,⟨cs,own_heap e h1,h2⟩,fun i hi=>bat_heap e (h.bt i hi),h.iv,h.ap,h.zb,h.kc,h.my⟩
theorem zat_ky{z:Nat}{S:Zs}{L:Nat->List Bk}{Y:NP}(h:ZAt w z S L)(k:DA Y w w')(hy:∀x,S.all z x->Y x):ZAt w' z S L:=by
 have k2:Kept (fun b=>¬Y b) w {w with heap:=w'.heap}:=⟨rfl,rfl,rfl,k.sz,fun b _ hn=>k.blk b (Classical.not_not.1 hn)⟩;exact zat_heap (w:={w with heap:=w'.heap}) rfl (h.kx k2 fun x hx ha=>hx (hy x ha))
theorem rd_ky{Y:NP}{b o:Nat}{v:Value}(h:rd w b o=some v)(k:DA Y w w')(hy:Y b):rd w' b o=some v:=by
 rw [EL] at h ⊢;rw [k.blk b hy];exact h
theorem defs_ky{Y:NP}{ds:List Nat}(h:CG ds w)(k:DA Y w w')(hy:∀D∈ds,Y D):CG ds w':=⟨h.nd,fun D hD=>(k.blk D (hy D hD)).trans (h.all D hD)⟩
end
structure ZCm(c z:Nat)(S:Zs)(L:Nat->List Bk)(l p0:Nat)(dl:List Nat)(f:Int)(Y:NP)(W:WD):Prop where
 rng:∀b,Y b->p0<=b/\b<W.heap.size
 oy:own W p0 [.func (.yield l) #[] #[]]
 of:own W (p0+1) [.int .i64 f]
 y0:Y p0
 y1:Y (p0+1)
 rc:rd W c 0=some (ptr z)
 za:ZAt W z S L
 cl:c<p0
 al:∀x,S.all z x->x<p0
 df:CG dl W
 dy:∀D∈dl,Y D/\p0+2<=D
def LI(Y:NP)(W W':WD):NP:=fun b=>Y b\/(W.heap.size<=b/\b<W'.heap.size)
section
variable {c z l p0:Nat}{S:Zs}{L:Nat->List Bk}{dl:List Nat}{f:Int}{Y:NP}{W W':WD}
theorem ZCm.kx{X:NP}(h:ZCm c z S L l p0 dl f Y W)(k:Kept X W W')(hx:∀x,X x->p0+2<=x/\x∉dl):ZCm c z S L l p0 dl f (LI Y W W') W':=by
 have hs:=k.sz;have h1:=h.of.lt;refine⟨fun b hb=>?_,h.oy.kx k fun e=>by have:=(hx _ e).1;omega,h.of.kx k fun e=>by have:=(hx _ e).1;omega,.inl h.y0,.inl h.y1,?_,h.za.kx k fun x e ha=>by have:=(hx _ e).1;have:=h.al x ha;omega,h.cl,h.al,⟨h.df.nd,fun D hD=>(k.blk D (h.rng D (h.dy D hD).1).2 fun e=>(hx D e).2 hD).trans (h.df.all D hD)⟩,fun D hD=>⟨.inl (h.dy D hD).1,(h.dy D hD).2⟩⟩
 ·rcases hb with hb|hb
  ·have:=h.rng b hb;omega
  ·omega
 ·exact k.rd_some h.rc fun e=>by have:=(hx _ e).1;have:=h.cl;omega
theorem ZCm.ky(h:ZCm c z S L l p0 dl f Y W)(k:DA (fun b=>Y b\/(b=c\/S.all z b)) W W'):ZCm c z S L l p0 dl f Y W':=by
 have hs:=k.sz;exact⟨fun b hb=>by have:=h.rng b hb;omega,DA.own k (.inl h.y0) h.oy,DA.own k (.inl h.y1) h.of,h.y0,h.y1,rd_ky h.rc k (.inr (.inl rfl)),zat_ky h.za k fun x hx=>.inr (.inr hx),h.cl,h.al,defs_ky h.df k fun D hD=>.inl (h.dy D hD).1,h.dy⟩
end
def zxs(S:Zs)(L:Nat->List Bk):List (List Value):=(zsh S.c L S.k).map fun y=>[Value.agg #[.int .i64 (y.1:Int),.int .i64 (y.2:Int)]]
theorem zsh_pre{c:Nat->Int}{L:Nat->List Bk}:∀{k q i:Nat},q<k->i<(bks (L q)).length->(zsh c L k)[(zsh c L q).length+i]? = ((bks (L q))[i]?).map fun y=>((AN c q).toNat+y.1,y.2)
 | 0,q,i,hq,_=>absurd hq (nlz _)
 | k+1,q,i,hq,hi=>by
  have e0:zsh c L (k+1)=zsh c L k++(bks (L k)).map fun y=>((AN c k).toNat+y.1,y.2):=rfl;rw [e0];by_cases e:q=k
  ·subst e;rw [gar (by omega)];rw [show(zsh c L q).length+i-(zsh c L q).length=i by omega,gmp]
  ·have ih:=zsh_pre (c:=c) (L:=L) (k:=k) (q:=q) (i:=i) (by omega) hi;have hlt:(zsh c L q).length+i<(zsh c L k).length:=by
    have:(((bks (L q))[i]?).map fun y=>((AN c q).toNat+y.1,y.2))≠none:=by
     rw [geg hi];simp
    rw [<- ih] at this;rcases Nat.lt_or_ge ((zsh c L q).length+i) (zsh c L k).length with h|h
    ·exact h
    ·exact absurd (gen h) this
   rw [gal hlt];exact ih
theorem zblocks_gives{w:WD}{c z:Nat}{S:Zs}{L:Nat->List Bk}(h:ZAt w z S L)(hc:rd w c 0=some (ptr z))(hcl:c<w.heap.size) :
 DW prog 203 [.pointer (some ⟨c,0,none⟩)] (zxs S L) (fun x=>x=c\/S.all z x) w:=by
 refine⟨fun l J Jx W hk hab habx hY h0=>?_⟩;refine(vc203 l (some ⟨c,0,none⟩) W (fun v w'=>(∃Y,J Y (zxs S L).length w')\/∃Y,Jx Y w') ?_).mono ?_
 rotate_left
 ·rintro e w' ⟨v,rfl,hw⟩;exact⟨⟨v,rfl⟩,hw⟩
 have hW:=h.k hk;have hks:=hk.sz;have h8:=h.k8;unfold Q;intro w1 e1;have oy1:=AD (c:=[.func (.yield l) #[] #[]]) e1;have k1:=kal e1;have s1:w1.heap.size=W.heap.size+1:=by rw [e1];simp only [World.alloc,Array.size_push]
 have hc1:rd w1 c 0=some (ptr z):=(hk.tr k1).rd_some hc id;have hz1:=hW.k k1;simp only [Ri,Rp,Rs,Wp,Wn,isP_some,Wif_true,gIf_true,pb_some,po_some,za];refine⟨_,hc1,?_⟩;simp only [Ri,Rp,Rs,Wp,Wn,isP_some,Wif_true,gIf_true,pb_some,po_some,za];refine⟨_,_,_,fun _=>hz1.r94,AG rfl (fun w2 e2=>?_)⟩;have of2:=AD (c:=[.int .i64 0]) e2;have k12:=kal e2;have s2:w2.heap.size=W.heap.size+2:=by rw [e2];simp only [World.alloc,Array.size_push];omega
 rw [s1] at of2;rw [s1];refine⟨of2.wr (by simp),fun w3 e3=>?_⟩;have of3:=of2.s1 e3;have k23:Kept (·=W.heap.size+1) w2 w3:=kr.s1 e3 (.inl rfl);have K3:Kept AB W w3:=BD (k1.tr k12) k23 fun x hx=>by omega
 have oy3:=(oy1.k k12).kx k23 (by omega);have s3:w3.heap.size=W.heap.size+2:=by rw [e3];simp [s2]
 have hz3:=hW.k K3;have hc3:rd w3 c 0=some (ptr z):=(hk.tr K3).rd_some hc id;have hJ3:=hab _ _ _ _ h0 K3.toY;have hall:∀x,S.all z x->x<W.heap.size:=fun x hx=>hW.lt hx;clear e1 e2 e3
 try dsimp only
 generalize hp0:W.heap.size=p0 at *;refine⟨_,hc3,?_⟩;simp only [Ri,Rp,Rs,Wp,Wn,isP_some,Wif_true,gIf_true,pb_some,po_some,za];refine⟨_,_,_,hz3.r94,?_⟩;refine⟨fun k ds w' M=>∃(q:Nat) (Y:NP),k=(q:Int)/\q<=S.k/\M=S.k-q/\J Y (zsh S.c L q).length w'/\ZCm c z S L l p0 ds (AN S.c q) Y w',
  ⟨S.k,0,_,rfl,by omega,rfl,hJ3,⟨fun b hb=>?_,oy3,of3,.inr (by omega),.inr (by omega),hc3,hz3,by omega,hall,⟨List.nodup_nil,fun D hD=>by cases hD⟩,fun D hD=>by cases hD⟩⟩,?_⟩
 ·rcases hb with hb|hb
  ·exact hb.elim
  ·omega
 clear hJ3 oy3 of3 hc3 hz3 K3 of2 oy1 k1 k12 k23 hc1 hz1;rintro _ ds w4 _ ⟨q,Y4,rfl,hq,rfl,hJ4,C4⟩;have hlenz:(zxs S L).length=(zsh S.c L S.k).length:=by unfold zxs;simp
 simp only [Ri,Rp,Rs,Wp,Wn,isP_some,Wif_true,gIf_true,pb_some,po_some,za];refine AE (fun hc4=>?_) (fun hc4=>?_)
 rotate_left
 ·have:q=S.k:=by simp at hc4;omega
  subst this;refine⟨C4.df,fun w5 k5 _=>.inl ⟨LI Y4 w4 w5,?_⟩⟩;rw [hlenz];exact hab _ _ _ _ hJ4 (k5.mono fun b _ hb=>(C4.dy b hb).1)
 have hqk:q<S.k:=by simp at hc4;omega
 have eB:inB (q:Int) S.k=true:=DL;have hvq:=h.iv q hqk;have hfst:=QG h (i:=q) (by omega);have hfst1:=QG h (i:=q+1) (by omega);have hn:=n_int h hqk;have hrg:=C4.za.rg hqk;simp only [eB,Wif_true];rw [za] at hrg;refine⟨_,hrg,fun w5 e5=>?_⟩;have oc5:=AD (c:=[ptr (S.B q)]) e5;have k45:=kal e5;have s5:w5.heap.size=w4.heap.size+1:=by rw [e5];simp only [World.alloc,Array.size_push]
 have C5:=C4.kx k45 fun x hx=>hx.elim;have hJ5:J (LI Y4 w4 w5) (zsh S.c L q).length w5:=hab _ _ _ _ hJ4 k45.toY;have hp4:p0+2<=w4.heap.size:=by have:=C4.of.lt;omega
 clear e5
 try dsimp only
 generalize hB:w5.heap.size=B at *
 let In:(NP)->(NP)->WD->Prop:=fun Y1 Y W'=>(∀b,Y1 b->Y b)/\Y B/\Y (B+1)/\ZCm c z S L l p0 ds (AN S.c q) Y W'
 have hdsB:∀D∈ds,D<B:=fun D hD=>by have:=(C4.rng D (C4.dy D hD).1).2;omega
 have inK:∀{Y1 Y:NP}{W1 W2:WD},In Y1 Y W1->(∀b,Y1 b->B+2<=b)->Kept (DJ B Y1) W1 W2->In (LI Y1 W1 W2) (LI Y W1 W2) W2/\Kept Y W1 W2:=by
  rintro Y1 Y W1 W2 ⟨i1,i2,i3,i4⟩ hy1 k;refine⟨⟨fun b hb=>?_,.inl i2,.inl i3,i4.kx k fun x hx=>?_⟩,k.mono fun b _ hb=>?_⟩
  ·rcases hb with hb|hb
   ·exact .inl (i1 b hb)
   ·exact .inr hb
  ·rcases hx with rfl|rfl|hx
   ·exact⟨by omega,fun hm=>by have:=hdsB _ hm;omega⟩
   ·exact⟨by omega,fun hm=>by have:=hdsB _ hm;omega⟩
   ·have:=hy1 x hx;exact⟨by omega,fun hm=>by have:=hdsB _ hm;omega⟩
  ·rcases hb with rfl|rfl|hb
   ·exact i2
   ·exact i3
   ·exact i1 b hb
 have hbl:(bks (L q)).length=(frB (L q)).length:=bks_len _;refine⟨(frB (L q)).map fun x=>[blkV x],fun _=>False,fun Y1 i W'=>i<=(frB (L q)).length/\∃Y,In Y1 Y W'/\J Y ((zsh S.c L q).length+i) W',fun k Y1 W'=>k=1/\∃Y,In Y1 Y W'/\Jx Y W',
  ⟨blocks_gives (sort_says (L q)) (C5.za.bt q hqk) hvq (by rw [oc5.rd];rfl),fun xs hx=>?_,fun b h=>h.elim⟩,fun w6 k56 s6=>?_,?_,?_,?_,?_,?_,?_⟩
 ·obtain⟨x,_,rfl⟩:=List.mem_map.1 hx;exact⟨rfl,_,_,rfl⟩
 ·have C6:=C5.kx k56 fun x hx=>hx.elim;have hJ6:J (LI (LI Y4 w4 w5) w5 w6) (zsh S.c L q).length w6:=hab _ _ _ _ hJ5 k56.toY;exact⟨by omega,_,⟨fun b hb=>hb.elim,.inr (by omega),.inr (by omega),C6⟩,by rw [Nat.add_zero];exact hJ6⟩
 ·rintro Y1 i W1 W2 ⟨hi,Y,hin,hJ⟩ hy1 k;obtain⟨a1,a2⟩:=inK hin hy1 k;exact⟨hi,_,a1,hab _ _ _ _ hJ a2⟩
 ·rintro k Y1 W1 W2 ⟨rfl,Y,hin,hJ⟩ hy1 kk;obtain⟨a1,a2⟩:=inK hin hy1 kk;exact⟨rfl,_,a1,habx _ _ _ hJ a2⟩
 ·rintro Y1 i W1 ⟨hi,Y,⟨i1,i2,i3,i4⟩,hJ⟩ hy1 hsz p o hv w6 e6;obtain⟨x,hxx,hpo⟩:∃x,(frB (L q))[i]? = some x/\[blkV x]=[Value.agg #[.int .i64 p,.int .i64 o]]:=by
   rw [gmp] at hv
   cases hh:(frB (L q))[i]? with
   | none=>rw [hh] at hv;cases hv
   | some x=>rw [hh] at hv;exact⟨x,rfl,Option.some.inj hv⟩
  simp [blkV] at hpo;obtain⟨rfl,rfl⟩:=hpo;have hil:=(D5.1 hxx).1;have hbi:(bks (L q))[i]? = some (x.p,x.o):=by unfold bks;rw [gmp,hxx];rfl
  have hxp:x.p<S.n q:=by
   have hm:x∈frB (L q):=List.mem_iff_getElem?.2 ⟨i,hxx⟩;have:=BC hvq.tl (List.mem_filter.1 hm).1;have:=p2 x.o;omega
  have o6:=AD (c:=[.int .i64 0,.int .i64 0]) e6;have k6:=kal e6;have s6:w6.heap.size=W1.heap.size+1:=by rw [e6];simp only [World.alloc,Array.size_push]
  refine⟨⟨o6.wr (by simp),o6.wr (by simp)⟩,fun w7 e7=>?_⟩;have o7:own w7 W1.heap.size [.int .i64 (x.p:Int),.int .i64 (x.o:Int)]:=o6.s2 e7;have k7:Kept AB W1 w7:=BD k6 ((Kept.refl (·=W1.heap.size) _).s2 e7 (.inl rfl)) fun x hx=>by omega
  have s7:=k7.sz;have l7:=o7.lt;refine⟨CY k7 (by omega) id id,fun w8 k78 s8=>?_⟩;have o8:=o7.kx k78 (by omega);have kW8:Kept (·=B+1) W1 w8:=(k7.mono fun _ _ h=>h.elim).trans k78 fun _ _ h=>h;have C8:=i4.kx kW8 fun y hy=>by subst hy;exact⟨by omega,fun hm=>by have:=hdsB _ hm;omega⟩
  refine⟨_,by rw [o8.rd];rfl,AN S.c q,by rw [C8.of.rd];rfl,o8.wr (by simp),fun w9 e9=>?_⟩;have exf:IntKind.wrap .i64 ((x.p:Int)+AN S.c q)=(((AN S.c q).toNat+x.p:Nat):Int):=by rw [wi (by omega)];omega
  rw [exf] at e9;have o9:=o8.s1 e9;have k89:Kept (·=W1.heap.size) w8 w9:=kr.s1 e9 (.inl rfl);have kW9:Kept (fun b=>b=B+1\/b=W1.heap.size) W1 w9:=(kW8.mono fun _ _ h=>.inl h).trans k89 fun _ _ h=>.inr h;have kY9:Kept Y W1 w9:=kW9.mono fun b hb hh=>by
   rcases hh with rfl|rfl
   ·exact i3
   ·omega
  have C9:=i4.kx kW9 fun y hy=>by rcases hy with rfl|rfl <;> exact⟨by omega,fun hm=>by have:=hdsB _ hm;omega⟩
  have hJ9:=hab _ _ _ _ hJ kY9;have s9:=kW9.sz;refine⟨_,by rw [C9.oy.rd];rfl,_,_,⟨by rw [o9.rd];rfl,by rw [o9.rd];rfl⟩,l,rfl,?_⟩;have hxs:(zxs S L)[(zsh S.c L q).length+i]? = some [Value.agg #[.int .i64 (((AN S.c q).toNat+x.p:Nat):Int),.int .i64 (x.o:Int)]]:=by
   unfold zxs;rw [gmp,zsh_pre hqk (by omega),hbi]
   rfl
  have hy:=hY _ _ _ w9 hxs hJ9;obtain⟨fn,tm,asg',bo,hrun,hR⟩:=hy.run;refine⟨fn,tm,asg',bo,hrun,hR.mono ?_⟩;rintro en w10 ⟨ky,hres⟩;have C10:=C9.ky ky;have hYs:∀b,Y b->LI Y W1 w9 b:=fun b hb=>.inl hb;have rk:BN B w8 w10:=by
   have r1:BN B w8 w9:=CY k89 (by have:=kW8.sz;omega) (by omega) (by omega);have b0:=ky.blk B (.inl (hYs _ i2));have b1:=ky.blk (B+1) (.inl (hYs _ i3));exact⟨by have:=r1.sz;have:=ky.sz;omega,b0.trans r1.d,b1.trans r1.l⟩
  have kyW:DA (fun b=>Y1 b\/False) W1 w10:=by
   refine⟨by have:=ky.sz;omega,fun b hb=>?_⟩;rcases hb with hb|hb
   ·have hb2:=hy1 b hb;have hb3:=(i4.rng b (i1 b hb)).2;exact(ky.blk b (.inl (hYs _ (i1 b hb)))).trans (kW9.blk b hb3 (by omega))
   ·exact hb.elim
  have hin:In Y1 (LI Y W1 w9) w10:=⟨fun b hb=>.inl (i1 b hb),.inl i2,.inl i3,C10⟩;rcases hres with⟨rfl,hJ10⟩|⟨rfl,hJ10⟩
  ·exact⟨true,rfl,AG rfl ⟨rk,kyW,by omega,_,hin,by rw [<- Nat.add_assoc];exact hJ10⟩⟩
  ·exact⟨false,rfl,AA rfl ⟨rk,kyW,rfl,_,hin,hJ10⟩⟩
 ·rintro Y1 W1 ⟨_,Y,⟨i1,i2,i3,i4⟩,hJ⟩ hd w6 e6;have k6:=kdr e6;have C6:=i4.kx k6 fun x hx=>hx.elim;have hJ6:=hab _ _ _ _ hJ k6.toY;have hd6:=hd.k k6 id;have sB:=(F3.1 hd.at_).1;refine⟨_,by rw [C6.of.rd];rfl,?_⟩;refine⟨_,C6.rc,?_⟩;simp only [Ri,Rp,Rs,Wp,Wn,isP_some,Wif_true,gIf_true,pb_some,po_some,za];refine Wi ⟨S.c (18+q),by rw [tnc,mo];exact C6.za.r (by omega),C6.of.wr (by simp),fun w7 e7=>?_⟩;have ef:IntKind.wrap .i64 (AN S.c q+S.c (18+q))=AN S.c (q+1):=by
   have:AN S.c (q+1)=AN S.c q+S.c (18+q):=rfl;rw [<- this,wi (by omega)]
  rw [ef] at e7;have k67:Kept (·=p0+1) w6 w7:=kr.s1 e7 (.inl rfl);have of7:=C6.of.s1 e7;have s6:=k6.sz;have s7:w7.heap.size=w6.heap.size:=by rw [e7];simp
  have hJ7:=hab _ _ _ _ hJ6 (k67.mono fun b _ hb=>by subst hb;exact C6.y1);have hd7:=hd6.k k67 (by omega);have hl:(zsh S.c L q).length+((frB (L q)).map fun x=>[blkV x]).length=(zsh S.c L (q+1)).length:=by
   simp [zsh,hbl]
  rw [hl] at hJ7;have eY:LI (LI Y W1 w6) w6 w7=LI Y W1 w6:=by
   funext b;simp only [LI,eq_iff_iff];constructor
   ·rintro (hb|hb)
    ·exact hb
    ·omega
   ·exact .inl
  have hJ7':J (LI Y W1 w6) (zsh S.c L (q+1)).length w7:=by rw [<- eY];exact hJ7
  refine⟨S.k-(q+1),by omega,q+1,LI Y W1 w6,wzz,by omega,rfl,hJ7',⟨fun b hb=>by have:=C6.rng b hb;omega,C6.oy.kx k67 (by omega),of7,C6.y0,C6.y1,k67.rd_some C6.rc (by have:=C6.cl;omega),C6.za.kx k67 fun x hx ha=>by have:=C6.al x ha;omega,C6.cl,C6.al,⟨List.nodup_cons.2 ⟨fun hm=>by have:=hdsB _ hm;omega,C6.df.nd⟩,fun D hD=>?_⟩,fun D hD=>?_⟩⟩
  ·rcases List.mem_cons.1 hD with rfl|hD
   ·exact hd7.at_
   ·exact(k67.blk D (C6.rng D (C6.dy D hD).1).2 (by have:=(C6.dy D hD).2;omega)).trans (C6.df.all D hD)
  ·rcases List.mem_cons.1 hD with rfl|hD
   ·exact⟨.inl i2,by omega⟩
   ·exact C6.dy D hD
 ·rintro Y1 W1 ⟨h1,_⟩ _
  cases h1
 ·rintro Y1 W1 ⟨_,Y,⟨i1,i2,i3,i4⟩,hJ⟩ hd;have hds:CG (B::ds) W1:=⟨List.nodup_cons.2 ⟨fun hm=>by have:=hdsB _ hm;omega,i4.df.nd⟩,fun D hD=>by
   rcases List.mem_cons.1 hD with rfl|hD
   ·exact hd.at_
   ·exact i4.df.all D hD⟩
  refine⟨hds,fun w6 k6 _=>.inr ⟨_,habx _ _ _ hJ (k6.mono fun b _ hb=>?_)⟩⟩;have hb':b∈B::ds:=hb;rcases List.mem_cons.1 hb' with rfl|hb'
  ·exact i2
  ·exact(i4.dy b hb').1
end Go.Proofs.YtdgbechegbmpcaaGreatDoor
