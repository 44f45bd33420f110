/- Part of a proof that a law returns true. Conditions: those in each theorem. -/
import Derived.Test.YtdgbechegbmpcaaGreatDoorSV1
import Derived.Shelf.SlSortCmp.InsertionK
import Derived.Sort.OwnSortedInts
import Derived.Shelf.SlSortCmp.NoneTotal
set_option linter.unusedSimpArgs false
set_option linter.unusedVariables false
set_option maxRecDepth 100000
namespace Go.Proofs.YtdgbechegbmpcaaGreatDoor
open Go Go.Eng Go.Proofs.Tryz
open Go.Value (bool func slice agg int)
open Option (isNone)
open Go.IntKind (wrap)
open List (replicate range)
variable {page root:Int}{w':WD}{b base c g:Nat}{v0 v1:Value}{l:List Bk}{xs:List Value}{Y:NP}
def ewE(k N:Int):Int:=if k=0 then(if N=0 then 0 else 2) else if k=1\/k=2\/k=3 then(if 0<=N/\N<=65535 then 0 else 2) else 2
def ewF(k N:Int):Int:=if ewE k N=0 then k+4*N else 0
theorem B40{k N:Int}(hk:0<=k/\k<=3)(hN:0<=N/\N<=65535):CD .or .u64 (wrap .u64 k) (wrap .u64 (wrap .u64 N*4))=k+4*N:=by
 obtain⟨m,rfl⟩:=Int.eq_ofNat_of_zero_le hk.1;obtain⟨y,rfl⟩:=Int.eq_ofNat_of_zero_le hN.1;have e2:(y:Int)*4=((2^2*y:Nat):Int):=by omega
 rw [wu (x:=(m:Int)) (by omega),wu (x:=(y:Int)) (by omega),e2,wu (x:=((2^2*y:Nat):Int)) (by omega)];generalize hq:2^2*y=q at *;have h3:(BitVec.ofInt 64 (m:Int) ||| BitVec.ofInt 64 (q:Int)).toNat=m+q:=by
  rw [BitVec.toNat_or,BitVec.toNat_ofInt,BitVec.toNat_ofInt,show((m:Int)%((2^64:Nat):Int)).toNat=m by omega,show((q:Int)%((2^64:Nat):Int)).toNat=q by omega,<- hq,Nat.or_comm,<- Nat.two_pow_add_eq_or_of_lt (by omega)];omega
 show wrap .u64 ((BitVec.ofInt 64 (m:Int) ||| BitVec.ofInt 64 (q:Int)).toNat:Int)=_
 rw [h3,wu (by omega)];omega
theorem B3q{a:Int}(h:0<=a/\a<=18446744073709551615):CD .and .u64 a 3=a%4:=by
 obtain⟨m,rfl⟩:=Int.eq_ofNat_of_zero_le h.1;have hx:(BitVec.ofInt 64 (m:Int) &&& BitVec.ofInt 64 (3:Int)).toNat=m%4:=by
  rw [BitVec.toNat_and,BitVec.toNat_ofInt,BitVec.toNat_ofInt,show((m:Int)%((2^64:Nat):Int)).toNat=m by omega,show((3:Int)%((2^64:Nat):Int)).toNat=2^2-1 by decide,Nat.and_two_pow_sub_one_eq_mod]
 show wrap .u64 ((BitVec.ofInt 64 (m:Int) &&& BitVec.ofInt 64 (3:Int)).toNat:Int)=_
 rw [hx,wu (by omega)];omega
theorem MM(k N:Int)(w:WD):Calls prog 96 #[.agg #[.int .u8 k,vi N]] w λe w'=>e=.returned (.tuple #[.int .u64 (ewF k N),vi (ewE k N)])/\AB AD w w':=by
 refine(vc96 k N w (λ(v:Value) (w':WD)=>v=.tuple #[.int .u64 (ewF k N),vi (ewE k N)]/\AB AD w w') ?_).AE ?_
 rotate_left
 .rintro e w' ⟨v,rfl,rfl,h⟩;exact⟨rfl,h⟩
 unfold Q;intro w1 e1;have o1:=AG (c:=[.int .u8 k,vi N]) e1;have k1:=kal e1;have r0:rd w1 w.heap.size 0=some (.int .u8 k):=by rw [o1.rd];rfl
 have r1:rd w1 w.heap.size 1=some (vi N):=by rw [o1.rd];rfl
 have bad:ewE k N=2->(λ(v:Value) (w':WD)=>v=.tuple #[.int .u64 (ewF k N),vi (ewE k N)]/\AB AD w w') (.tuple #[.int .u64 0,vi 2]) w1:=λh=>by
  have:ewF k N=0:=by unfold ewF;rw [h];rfl
  rw [h,this];exact⟨rfl,k1⟩
 have good:ewE k N=0->0<=k/\k<=3->0<=N/\N<=65535->(λ(v:Value) (w':WD)=>v=.tuple #[.int .u64 (ewF k N),vi (ewE k N)]/\AB AD w w') (.tuple #[.int .u64 (CD .or .u64 (wrap .u64 k) (wrap .u64 (wrap .u64 N*4))),vi 0]) w1:=λh h1 h2=>by
  have:ewF k N=k+4*N:=by unfold ewF;rw [if_pos h]
  rw [h,this,B40 h1 h2];exact⟨rfl,k1⟩
 have body:(1<=k/\k<=3)->∃x,rd w1 w.heap.size 1=some (vi x)/\∃x_1,(decide (x>=0)=true->rd w1 w.heap.size 1=some (vi x_1))/\
  Wif (decide (x>=0)&&decide (x_1<=65535)) (∃x,rd w1 w.heap.size 0=some (.int .u8 x)/\∃x_2,rd w1 w.heap.size 1=some (vi x_2)/\(λ(v:Value) (w':WD)=>v=.tuple #[.int .u64 (ewF k N),vi (ewE k N)]/\AB AD w w') (.tuple #[.int .u64 (CD .or .u64 (wrap .u64 x) (wrap .u64 (wrap .u64 x_2*4))),vi 0]) w1)
   ((λ(v:Value) (w':WD)=>v=.tuple #[.int .u64 (ewF k N),vi (ewE k N)]/\AB AD w w') (.tuple #[.int .u64 0,vi 2]) w1):=λhk=>by
  refine⟨N,r1,N,λ_=>r1,AH (λh=>?_) (λh=>?_)⟩
  .have hN:0<=N/\N<=65535:=by simpa using h
   exact⟨k,r0,N,r1,good (by unfold ewE;rw [if_neg (by omega),if_pos (by omega),if_pos hN]) (by omega) hN⟩
  .have hN:¬(0<=N/\N<=65535):=λe=>by simp [e.1,e.2] at h
   exact bad (by unfold ewE;rw [if_neg (by omega),if_pos (by omega),if_neg hN])
 refine⟨k,r0,AH (λh0=>?_) (λh0=>?_)⟩
 .have hk:k=0:=by simpa using h0
  refine⟨N,r1,AH (λh=>?_) (λh=>?_)⟩
  .exact bad (by unfold ewE;rw [if_pos hk,if_neg (by simpa using h)])
  .have hN:N=0:=by simpa using h
   subst hN hk;exact⟨0,r1,0,λ_=>r1,AA (by decide) ⟨0,r0,0,r1,good (by decide) (by omega) (by omega)⟩⟩
 .have hk0:k≠0:=by simpa using h0
  refine AH (λh1=>?_) (λh1=>?_)
  .have hk:k=1:=by simpa using h1
   exact AA h1 (body (by omega))
  .have hk1:k≠1:=by simpa using h1
   refine AH (λh2=>?_) (λh2=>?_)
   .have hk:k=2:=by simpa using h2
    exact AA h2 (body (by omega))
   .have hk2:k≠2:=by simpa using h2
    refine AH (λh3=>?_) (λh3=>?_)
    .have hk:k=3:=by simpa using h3
     exact body (by omega)
    .have hk3:k≠3:=by simpa using h3
     exact bad (by unfold ewE;rw [if_neg hk0,if_neg (by omega)])
def enE(x:Int):Int:=if x/4>65535\/(x≠0/\x%4=0) then 5 else 0
def rdE(by':NI)(n:Nat)(frame i:Int):Int:=if wdE n frame i≠0 then wdE n frame i else enE (wdF by' n frame i)
def rdK(by':NI)(n:Nat)(frame i:Int):Int:=if rdE by' n frame i=0 then wdF by' n frame i%4 else 0
def rdN(by':NI)(n:Nat)(frame i:Int):Int:=if rdE by' n frame i=0 then wdF by' n frame i/4 else 0
def lfE(by':NI)(n:Nat)(root page:Int):Int:=
 if page<0\/page>=1024 then 2 else if rdE by' n root (Int.tdiv page 32)≠0 then rdE by' n root (Int.tdiv page 32) else if rdK by' n root (Int.tdiv page 32)=0 then 7 else if rdK by' n root (Int.tdiv page 32)=1 then 0 else 5
def lfN(by':NI)(n:Nat)(root page:Int):Int:=if lfE by' n root page=0 then rdN by' n root (Int.tdiv page 32) else 0
def B92(by':NI)(n:Nat)(root page:Int):Bool:=decide (wdE n root (Int.tdiv page 32)=0/\wdF by' n root (Int.tdiv page 32)=0)
def gtE(by':NI)(n:Nat)(root page:Int):Int:=if lfE by' n root page=7/\B92 by' n root page=true then 0 else if lfE by' n root page≠0 then lfE by' n root page else rdE by' n (lfN by' n root page) (Int.tmod page 32)
def gtK(by':NI)(n:Nat)(root page:Int):Int:=if lfE by' n root page=0 then rdK by' n (lfN by' n root page) (Int.tmod page 32) else 0
def gtN(by':NI)(n:Nat)(root page:Int):Int:=if lfE by' n root page=0 then rdN by' n (lfN by' n root page) (Int.tmod page 32) else 0
def stE(by':NI)(n:Nat)(root page k N:Int):Int:=if page<0\/page>=1024\/ewE k N≠0 then 2 else if lfE by' n root page≠0 then lfE by' n root page else wdE n (lfN by' n root page) (Int.tmod page 32)
def stS(by':NI)(n:Nat)(root page k N:Int):NI:=if stE by' n root page k N=0 then wdS by' n (lfN by' n root page) (Int.tmod page 32) (ewF k N) else by'
def slE(n:Nat)(root page leaf:Int):Int:=if page<0\/page>=1024\/leaf < -1\/leaf>65535 then 2 else wdE n root (Int.tdiv page 32)
def slS(by':NI)(n:Nat)(root page leaf:Int):NI:=if slE n root page leaf=0 then wdS by' n root (Int.tdiv page 32) (if leaf<0 then 0 else 1+4*leaf) else by'
theorem A98(h:0<=page/\page<1024):0<=Int.tdiv page 32/\Int.tdiv page 32<=31:=by
 rw [Int.tdiv_eq_ediv_of_nonneg h.1];omega
section
variable {w:WD}{m bb mb:Nat}{c:NI}{n:Nat}{by':NI}{mk:Nat->Mark}
theorem JU{w:WD}{u0 u1:Value}(h:AX w b [v0,v1])(e:w'=st (st w b 0 u0) b 1 u1):AX w' b [u0,u1]/\AB (·=b) w w':=st2 h rfl e
theorem rd2{w:WD}(h:AX w b [v0,v1]):rd w b 0=some v0/\rd w b 1=some v1:=⟨by rw [h.rd];rfl,by rw [h.rd];rfl⟩
theorem wr2{w:WD}(h:AX w b [v0,v1]):wr w b 0/\wr w b 1:=⟨h.wr (by show 0<2;decide),h.wr (by show 1<2;decide)⟩
theorem A2v(h:BU w m bb mb c n by' mk)(hb:ByR by')(hn:n<=1024)(frame i:Int) :
 Calls prog 51 #[AP m,vi frame,vi i] w λe w'=>e=.returned (.tuple #[.agg #[.int .u8 (rdK by' n frame i),vi (rdN by' n frame i)],vi (rdE by' n frame i)])/\AB AD w w':=by
 refine(vc51 _ frame i w (λ(v:Value) (w':WD)=>v=.tuple #[.agg #[.int .u8 (rdK by' n frame i),vi (rdN by' n frame i)],vi (rdE by' n frame i)]/\AB AD w w') ?_).AE ?_
 rotate_left
 .rintro e w' ⟨v,rfl,rfl,h⟩;exact⟨rfl,h⟩
 unfold Q;intro w1 e1;have o1:=AG e1;have k1:=kal e1;have hsz:=o1.lt;clear e1;generalize hb0:w.heap.size=b0 at *;refine(A2a (h.k k1) hb hn frame i).AE ?_;rintro _ wx ⟨rfl,hx⟩;rw [hx];clear hx;refine⟨_,_,rfl,AH (λhe=>?_) (λhe=>?_)⟩
 .have hne:wdE n frame i≠0:=by simpa using he
  have e1:rdE by' n frame i=wdE n frame i:=by unfold rdE;rw [if_pos hne]
  have e2:rdK by' n frame i=0:=by unfold rdK;rw [e1,if_neg hne]
  have e3:rdN by' n frame i=0:=by unfold rdN;rw [e1,if_neg hne]
  rw [e1,e2,e3];refine⟨wr2 o1,λw2 e4=>?_⟩;obtain⟨o2,k2⟩:=JU o1 e4;exact⟨_,_,rd2 o2,rfl,BO k1 k2 λx e=>by omega⟩
 have hz:wdE n frame i=0:=by simpa using he
 have e1:rdE by' n frame i=enE (wdF by' n frame i):=by unfold rdE;rw [hz];rfl
 have hr:=C31 hb n frame i;unfold rdK rdN;rw [e1];generalize wdF by' n frame i=x at *;intro w2 e2;have o2:=AG e2;have k2:=kal e2;have hsz2:=o2.lt;have p2:=o1.k k2;clear e2;generalize hb1:w1.heap.size=b1 at *;have hfd:Int.fdiv x 4=x/4:=Int.fdiv_eq_ediv_of_nonneg _ (by decide);rw [B3q hr,hfd,w8,wi (x:=x/4) (by omega)];have fin:∀{y0 y1 e:Int},
  (wr w2 b1 0/\wr w2 b1 1)/\∀w_2,w_2=st (st w2 b1 0 (.int .u8 y0)) b1 1 (vi y1)->∃x x_1,(rd w_2 b1 0=some (.int .u8 x)/\rd w_2 b1 1=some (vi x_1))/\(wr w_2 b0 0/\wr w_2 b0 1)/\
   ∀w',w'=st (st w_2 b0 0 (.int .u8 x)) b0 1 (vi x_1)->∃x x_2,(rd w' b0 0=some (.int .u8 x)/\rd w' b0 1=some (vi x_2))/\(λ(v:Value) (w':WD)=>v=.tuple #[.agg #[.int .u8 y0,vi y1],vi e]/\AB AD w w') (.tuple #[.agg #[.int .u8 x,vi x_2],vi e]) w':=by
  intro y0 y1 e;refine⟨wr2 o2,λw3 e3=>?_⟩;obtain⟨o3,k3⟩:=JU o2 e3;have p3:=p2.kx k3 (by omega);refine⟨_,_,rd2 o3,wr2 p3,λw4 e4=>?_⟩;obtain⟨o4,k4⟩:=JU p3 e4;exact⟨_,_,rd2 o4,rfl,(BO (BO (k1.tr k2) k3 λx e=>by omega) k4 λx e=>by omega)⟩
 refine AH (λhc=>?_) (λhc=>?_)
 .have h5:enE x=5:=by
   unfold enE;rw [if_pos];simpa using hc
  rw [h5,if_neg (by decide),if_neg (by decide)];exact fin
 .have h5:enE x=0:=by
   unfold enE;rw [if_neg];intro hh;rw [show(decide (x/4>65535)||x != 0&&x%4==0)=true by simpa using hh] at hc
   cases hc
  rw [h5,if_pos rfl,if_pos rfl,show x%4%256=x%4 by omega];exact fin
theorem A8m(h:BU w m bb mb c n by' mk)(hb:ByR by')(hn:n<=1024)(hp:0<=page/\page<1024) :
 Calls prog 50 #[AP m,vi root,vi page] w λe w'=>e=.returned (.bool (B92 by' n root page))/\AB AD w w':=by
 refine(vc50 _ root page w (λv w'=>v=.bool (B92 by' n root page)/\AB AD w w') ?_).AE ?_
 rotate_left
 .rintro e w' ⟨v,rfl,rfl,h⟩;exact⟨rfl,h⟩
 unfold Q;have:=A98 hp;rw [wi (by omega)];refine(A2a h hb hn root _).AE ?_;rintro _ wx ⟨rfl,hx⟩;rw [hx];refine⟨_,_,rfl,?_,AB.refl _ _⟩;congr 1;unfold B92;rw [Bool.eq_iff_iff];simp
theorem KQ(h:BU w m bb mb c n by' mk)(hb:ByR by')(hn:n<=1024)(root page:Int) :
 Calls prog 49 #[AP m,vi root,vi page] w λe w'=>e=.returned (.tuple #[vi (lfN by' n root page),vi (lfE by' n root page)])/\AB AD w w':=by
 refine(vc49 _ root page w (λ(v:Value) (w':WD)=>v=.tuple #[vi (lfN by' n root page),vi (lfE by' n root page)]/\AB AD w w') ?_).AE ?_
 rotate_left
 .rintro e w' ⟨v,rfl,rfl,h⟩;exact⟨rfl,h⟩
 unfold Q;refine AH (λhc=>?_) (λhc=>?_)
 .have e2:lfE by' n root page=2:=by unfold lfE;rw [if_pos (by simpa using hc)]
  have e3:lfN by' n root page=0:=by unfold lfN;rw [e2];rfl
  rw [e2,e3];exact⟨rfl,AB.refl _ _⟩
 have hp:0<=page/\page<1024:=by simp at hc;omega
 have ht:=A98 hp;rw [wi (by omega)];refine(A2v h hb hn root _).AE ?_;rintro _ w1 ⟨rfl,k1⟩;have eL:lfE by' n root page=if rdE by' n root (Int.tdiv page 32)≠0 then rdE by' n root (Int.tdiv page 32) else if rdK by' n root (Int.tdiv page 32)=0 then 7 else if rdK by' n root (Int.tdiv page 32)=1 then 0 else 5:=by unfold lfE;rw [if_neg (by omega)]
 unfold lfN;rw [eL];generalize Int.tdiv page 32=q at *;refine⟨_,_,_,rfl,λw2 e2=>?_⟩;have o2:=AG e2;have k2:=kal e2;refine⟨wr2 o2,λw3 e3=>?_⟩;obtain⟨o3,k3⟩:=JU o2 e3;have K3:AB AD w w3:=k1.tr (BO k2 k3 λx e=>by omega);obtain⟨r0,r1⟩:=rd2 o3;refine AH (λhc=>?_) (λhc=>?_)
 .have hne:rdE by' n root q≠0:=by simpa using hc
  rw [if_pos hne,if_neg hne];exact⟨rfl,K3⟩
 .have hz:rdE by' n root q=0:=by simpa using hc
  rw [if_neg (show ¬(rdE by' n root q≠0) from λe=>e hz)];refine⟨_,r0,AH (λhc=>?_) (λhc=>?_)⟩
  .have h0:rdK by' n root q=0:=by simpa using hc
   rw [if_pos h0];exact⟨rfl,K3⟩
  .have h0:rdK by' n root q≠0:=by simpa using hc
   rw [if_neg h0];refine⟨_,r0,AH (λhc=>?_) (λhc=>?_)⟩
   .have h1:rdK by' n root q≠1:=by simpa using hc
    rw [if_neg h1];exact⟨rfl,K3⟩
   .have h1:rdK by' n root q=1:=by simpa using hc
    rw [if_pos h1];exact⟨_,r1,rfl,K3⟩
theorem B5b(h:lfE by' n root page≠2):0<=page/\page<1024:=by
 unfold lfE at h;split at h
 .exact absurd rfl h
 .omega
theorem A6z(h:BU w m bb mb c n by' mk)(hb:ByR by')(hn:n<=1024)(root page:Int) :
 Calls prog 16 #[AP m,vi root,vi page] w λe w'=>e=.returned (.tuple #[.agg #[.int .u8 (gtK by' n root page),vi (gtN by' n root page)],vi (gtE by' n root page)])/\AB AD w w':=by
 refine(vc16 _ root page w (λ(v:Value) (w':WD)=>v=.tuple #[.agg #[.int .u8 (gtK by' n root page),vi (gtN by' n root page)],vi (gtE by' n root page)]/\AB AD w w') ?_).AE ?_
 rotate_left
 .rintro e w' ⟨v,rfl,rfl,h⟩;exact⟨rfl,h⟩
 unfold Q;intro w1 e1;have o1:=AG e1;have k1:=kal e1;clear e1;refine(KQ (h.k k1) hb hn root page).AE ?_;rintro _ w2 ⟨rfl,k2⟩;have fin:∀{W:WD}{y0 y1 e:Int},AB AD w1 W->gtK by' n root page=y0->gtN by' n root page=y1->gtE by' n root page=e->
  (wr W w.heap.size 0/\wr W w.heap.size 1)/\∀w_1,w_1=st (st W w.heap.size 0 (.int .u8 y0)) w.heap.size 1 (vi y1)->∃x x_1,(rd w_1 w.heap.size 0=some (.int .u8 x)/\rd w_1 w.heap.size 1=some (vi x_1))/\
   (λ(v:Value) (w':WD)=>v=.tuple #[.agg #[.int .u8 (gtK by' n root page),vi (gtN by' n root page)],vi (gtE by' n root page)]/\AB AD w w') (.tuple #[.agg #[.int .u8 x,vi x_1],vi e]) w_1:=by
  rintro W y0 y1 e kW rfl rfl rfl;have oW:=o1.k kW;refine⟨wr2 oW,λw3 e3=>?_⟩;obtain⟨o3,k3⟩:=JU oW e3;exact⟨_,_,rd2 o3,rfl,BO (k1.tr kW) k3 λx e=>by omega⟩
 have rest:lfE by' n root page=0->Calls prog 51 #[AP m,vi (lfN by' n root page),vi (Int.tmod page 32)] w2 λe w'=>∃n_1 n_2 n_3,e=.returned (.tuple #[.agg #[.int .u8 n_1,vi n_2],vi n_3])/\
  (wr w' w.heap.size 0/\wr w' w.heap.size 1)/\∀w_1,w_1=st (st w' w.heap.size 0 (.int .u8 n_1)) w.heap.size 1 (vi n_2)->∃x x_1,(rd w_1 w.heap.size 0=some (.int .u8 x)/\rd w_1 w.heap.size 1=some (vi x_1))/\
   (λ(v:Value) (w':WD)=>v=.tuple #[.agg #[.int .u8 (gtK by' n root page),vi (gtN by' n root page)],vi (gtE by' n root page)]/\AB AD w w') (.tuple #[.agg #[.int .u8 x,vi x_1],vi n_3]) w_1:=λh0=>by
  refine(A2v ((h.k k1).k k2) hb hn _ _).AE ?_;rintro _ w3 ⟨rfl,k3⟩;exact⟨_,_,_,rfl,fin (k2.tr k3) (by unfold gtK;rw [if_pos h0]) (by unfold gtN;rw [if_pos h0]) (by unfold gtE;rw [if_neg (by omega),if_neg (by omega)])⟩
 refine⟨_,_,rfl,AH (λhc=>?_) (λhc=>?_)⟩
 .have h7:lfE by' n root page=7:=by simpa using hc
  refine(A8m ((h.k k1).k k2) hb hn (B5b (by':=by') (n:=n) (root:=root) (by omega))).AE ?_;rintro _ w3 ⟨rfl,k3⟩;refine⟨_,rfl,AH (λhl=>?_) (λhl=>AA (by rw [h7];rfl) ?_)⟩
  .exact fin (k2.tr k3) (by unfold gtK;rw [if_neg (by omega)]) (by unfold gtN;rw [if_neg (by omega)]) (by unfold gtE;rw [if_pos ⟨h7,hl⟩])
  .exact fin (k2.tr k3) (by unfold gtK;rw [if_neg (by omega)]) (by unfold gtN;rw [if_neg (by omega)]) (by unfold gtE;rw [if_neg (λe=>by rw [e.2] at hl;cases hl),if_pos (by omega)])
 .have h7:lfE by' n root page≠7:=by simpa using hc
  refine AH (λhc=>?_) (λhc=>?_)
  .have hne:lfE by' n root page≠0:=by simpa using hc
   exact fin k2 (by unfold gtK;rw [if_neg (by omega)]) (by unfold gtN;rw [if_neg (by omega)]) (by unfold gtE;rw [if_neg (λe=>h7 e.1),if_pos hne])
  .exact rest (by simpa using hc)
theorem B4f(h:BU w m bb mb c n by' mk)(hb:ByR by')(hn:n<=1024)(root page k N:Int) :
 Calls prog 100 #[AP m,vi root,vi page,.agg #[.int .u8 k,vi N]] w λe w'=>e=.returned (vi (stE by' n root page k N))/\AB (·=bb) w w'/\BU w' m bb mb c n (stS by' n root page k N) mk:=by
 refine(vc100 _ root page k N w (λv w'=>v=vi (stE by' n root page k N)/\AB (·=bb) w w'/\BU w' m bb mb c n (stS by' n root page k N) mk) ?_).AE ?_
 rotate_left
 .rintro e w' ⟨v,rfl,rfl,h⟩;exact⟨rfl,h⟩
 unfold Q;intro w1 e1;have o1:=AG e1;have k1:=kal e1;refine⟨_,_,rd2 o1,(MM k N w1).AE ?_⟩;rintro _ w2 ⟨rfl,k2⟩;refine⟨_,_,rfl,AH (λhc=>?_) (λhc=>?_)⟩
 .have e2:stE by' n root page k N=2:=by unfold stE;rw [if_pos (by simpa [or_assoc] using hc)]
  have e3:stS by' n root page k N=by':=by unfold stS;rw [e2];rfl
  rw [e2,e3];exact⟨rfl,(k1.tr k2).AE λ_ _ e=>e.elim,(h.k k1).k k2⟩
 have hg:¬(page<0\/page>=1024\/ewE k N≠0):=λhh=>by
  rw [show(decide (page<0)||decide (page>=1024)||ewE k N != 0)=true by simpa [or_assoc] using hh] at hc
  cases hc
 refine(KQ ((h.k k1).k k2) hb hn root page).AE ?_;rintro _ w3 ⟨rfl,k3⟩;have K3:=(k1.tr k2).tr k3;refine⟨_,_,rfl,AH (λhc=>?_) (λhc=>?_)⟩
 .have hne:lfE by' n root page≠0:=by simpa using hc
  have e2:stE by' n root page k N=lfE by' n root page:=by unfold stE;rw [if_neg hg,if_pos hne]
  have e3:stS by' n root page k N=by':=by unfold stS;rw [e2,if_neg hne]
  rw [e2,e3];exact⟨rfl,K3.AE λ_ _ e=>e.elim,h.k K3⟩
 .have hz:lfE by' n root page=0:=by simpa using hc
  have e2:stE by' n root page k N=wdE n (lfN by' n root page) (Int.tmod page 32):=by unfold stE;rw [if_neg hg,if_neg (λe=>e hz)]
  have e3:stS by' n root page k N=wdS by' n (lfN by' n root page) (Int.tmod page 32) (ewF k N):=by
   unfold stS;rw [e2];unfold wdS;split <;> rfl
  rw [e2,e3];refine(JJ (h.k K3) hn _ _ _).AE ?_;rintro _ w4 ⟨rfl,k4,h4⟩;exact⟨_,rfl,rfl,(K3.AE λ_ _ e=>e.elim).trans k4 λ_ _ e=>e,h4⟩
theorem A2n(h:BU w m bb mb c n by' mk)(hn:n<=1024)(root page leaf:Int) :
 Calls prog 36 #[AP m,vi root,vi page,vi leaf] w λe w'=>e=.returned (vi (slE n root page leaf))/\AB (·=bb) w w'/\BU w' m bb mb c n (slS by' n root page leaf) mk:=by
 refine(vc36 _ root page leaf w (λv w'=>v=vi (slE n root page leaf)/\AB (·=bb) w w'/\BU w' m bb mb c n (slS by' n root page leaf) mk) ?_).AE ?_
 rotate_left
 .rintro e w' ⟨v,rfl,rfl,h⟩;exact⟨rfl,h⟩
 unfold Q;refine AH (λhc=>?_) (λhc=>?_)
 .have e2:slE n root page leaf=2:=by unfold slE;rw [if_pos (by simpa [or_assoc] using hc)]
  have e3:slS by' n root page leaf=by':=by unfold slS;rw [e2];rfl
  rw [e2,e3];exact⟨rfl,AB.refl _ _,h⟩
 have hg:¬(page<0\/page>=1024\/leaf < -1\/leaf>65535):=λhh=>by
  rw [show(decide (page<0)||decide (page>=1024)||decide (leaf < -1)||decide (leaf>65535))=true by simpa [or_assoc] using hh] at hc
  cases hc
 have ht:=A98 (page:=page) (by omega);have e2:slE n root page leaf=wdE n root (Int.tdiv page 32):=by unfold slE;rw [if_neg hg]
 have e3:slS by' n root page leaf=wdS by' n root (Int.tdiv page 32) (if leaf<0 then 0 else 1+4*leaf):=by
  unfold slS;rw [e2];unfold wdS;split <;> rfl
 rw [e2,e3,wi (by omega)];intro w1 e1;have o1:=AG e1;have k1:=kal e1;refine⟨wr2 o1,λw2 e4=>?_⟩;obtain⟨o2,k2'⟩:=JU o1 e4;have k2:AB AD w w2:=BO k1 k2' λx e=>by omega
 refine AH (λhl=>⟨wr2 o2,λw3 e5=>?_⟩) (λhl=>?_)
 .obtain⟨o3,k3'⟩:=JU o2 e5;have k3:AB AD w w3:=BO k2 k3' λx e=>by omega
  refine⟨_,_,rd2 o3,(MM 0 0 w3).AE ?_⟩;rintro _ w4 ⟨rfl,k4⟩;refine⟨_,_,rfl,(JJ ((h.k k3).k k4) hn _ _ _).AE ?_⟩;rintro _ w5 ⟨rfl,k5,h5⟩;rw [if_pos (by simpa using hl)];exact⟨_,rfl,rfl,((k3.tr k4).AE λ_ _ e=>e.elim).trans k5 λ_ _ e=>e,h5⟩
 .have hl0:¬leaf<0:=by simpa using hl
  refine⟨_,_,rd2 o2,(MM 1 leaf w2).AE ?_⟩;rintro _ w4 ⟨rfl,k4⟩;refine⟨_,_,rfl,(JJ ((h.k k2).k k4) hn _ _ _).AE ?_⟩;rintro _ w5 ⟨rfl,k5,h5⟩;have hE:ewE 1 leaf=0:=by
   unfold ewE;rw [if_neg (by decide),if_pos (.inl rfl),if_pos (by omega)]
  have:ewF 1 leaf=1+4*leaf:=by
   unfold ewF;rw [if_pos hE]
  rw [this] at h5;rw [if_neg hl0];exact⟨_,rfl,rfl,((k2.tr k4).AE λ_ _ e=>e.elim).trans k5 λ_ _ e=>e,h5⟩
end
theorem vc247(l0:Nat)(f:OA)(w:WD)(K:KV)(h:Q (Wp f (Rp w f 0 λx=>gIf (isP x) ((!isNone x)=true) (∃(y:Option Nat),((!isNone x)=true->rd w (pb x) (po x+12)=some (.map y))/\Wif (!(!isNone x&&!isNone y)) (K (.tuple #[]) w) (Wp f (Rp w f 0 λx=>Wp x (∃(z A B C D E F G j o q:Option Nat),BB w (pb x) (po x+1) [Value.map z,Value.map A,Value.map B,Value.map C,Value.map D,Value.map E,Value.map F,Value.map G,Value.map j,Value.map o,Value.map q]/\∃(I:OA->Nat->Nat->Int->WD->Nat->Prop),(∃(n:Nat),I none 0 0 0 w n)/\∀(a:OA) (l c:Nat) (n:Int) (w':WD) (H:Nat),I a l c n w' H->Wif (decide (n<11)) (Wn n 11 (∃(x:Option Nat),[Value.map z,Value.map A,Value.map B,Value.map C,Value.map D,Value.map E,Value.map F,Value.map G,Value.map j,Value.map o,Value.map q][n.toNat*1]? = some (.map x)/\∃(p:OA) (g:WD),B73 prog 142 (Value.map x) (pt p) w' g/\∃(s:OA->Nat->Nat->WD->Nat->Prop),(∃(n:Nat),s a l c g n)/\∀(a:OA) (l c:Nat) (w':WD) (i:Nat),s a l c w' i->(∃(d:WD),LP prog (pt p) false 0 (Value.tuple #[bool false]) w' d/\Lt H λm=>I a l c (wrap .i64 (n+1)) d m)\/∃(k v:Value) (d:WD),LP prog (pt p) false 0 (Value.tuple #[bool true,k,v]) w' d/\∃(x:Int) (h:Value),B88 prog (pt p) (Value.tuple #[vi x,h]) d/\AW d #[vi x,vi n] 141 λw'=>∃(J:OA) (L c_1:Nat) (t:WD),BL prog #[131,131] 131 (sl a l c) (sl (aD d.heap.size) 1 1) (sl J L c_1) w' t/\Lt i λm=>s J L c_1 t m)) (C0 248 #[sl a l c,func (.func 249) #[] #[]] w' λw'=>∃(I:Int->WD->Nat->Prop),(∃(n:Nat),I 0 w' n)/\∀(n:Int) (w':WD) (i:Nat),I n w' i->Wif (decide (n<(↑l:Int))) (Wp a (Wn n l (∃(x h:Int),(rd w' (pb a) (po a+n.toNat*2)=some (.int .i64 x)/\rd w' (pb a) (po a+n.toNat*2+1)=some (.int .i64 h))/\AW w' #[vi 0,vi 0] 141 λg=>(wr g w'.heap.size 0/\wr g w'.heap.size 1)/\St (st g w'.heap.size 0 (vi x)) w'.heap.size 1 (vi h) λd=>∃(x u:Int),(rd d w'.heap.size 0=some (.int .i64 x)/\rd d w'.heap.size 1=some (.int .i64 u))/\EW prog l0 [agg #[vi x,vi u]] d λ(r:Ending) (w':WD)=>∃(b:Bool),r=rT (bool b)/\Wif (!b) (K (.tuple #[]) w') (Lt i λm=>I (wrap .i64 (n+1)) w' m)))) (K (.tuple #[]) w'))))))))):Ret 247 #[Value.func (Fn.yield l0) #[] #[],pt f] w K:=vcA L0 2 [1000041] func247 h
theorem vc249(x0 x1 y0 y1:Int)(w:WD)(K:KV)(h:Q (AW w #[vi x0,vi x1] 141 λw'=>AW w' #[vi y0,vi y1] 141 λa=>RI a w.heap.size 0 λx=>RI a w'.heap.size 0 λb=>K (vi (wrap .i64 (x-b))) a)):Ret 249 #[agg #[vi x0,vi x1],agg #[vi y0,vi y1]] w K:=vcA L0 2 [] func249 h
def frB(l:List Bk):List Bk:=l.filter λx=>x.g==0
def B9l(x:Bk):Value:=.agg #[.int .i64 (x.p:Int),.int .i64 (x.o:Int)]
theorem RZ{x:Bk}:x∈frB l↔x∈l/\x.g=0:=by
 unfold frB;rw [List.mem_filter];simp
def ID(l:List Bk)(a:Nat):Nat:=((l.find? λx=>x.g==0&&x.p==a).map (·.o)).getD 0
theorem A6f{n:Nat}(h:D0 0 l n){x:Bk}(hx:x∈l)(hg:x.g=0):ID l x.p=x.o:=by
 unfold ID
 cases hf:l.find? λy=>y.g==0&&y.p==x.p with
 | none=>
  have:=List.find?_eq_none.1 hf x hx;simp [hg] at this
 | some y=>
  have h1:=List.mem_of_find?_eq_some hf;have h2:=List.find?_some hf;simp only [Bool.and_eq_true,beq_iff_eq] at h2;have:y=x:=LX h h1 hx h2.2;rw [this];rfl
theorem A8r{n:Nat}(h:D0 0 l n):((frB l).map (·.p)).Pairwise (λa b=>a<b):=by
 rw [List.pairwise_map];refine((A95 h).filter _).imp ?_;intro x y hxy;have:=p2 x.o;omega
def BY(l:List Bk)(d:List Nat):List Value:=d.flatMap λ(a:Nat)=>[.int .i64 (a:Int),.int .i64 (ID l a:Nat)]
theorem A2o(l:List Bk)(d d':List Nat):BY l (d++d')=BY l d++BY l d':=by simp [BY]
theorem GP(l:List Bk):∀d:List Nat,(BY l d).length=d.length*2
 | []=>rfl
 | a::d=>by
  have:=GP l d;simp only [BY,List.flatMap_cons,lap,List.length_cons,List.length_nil] at this ⊢;omega
theorem JK(l:List Bk):∀(d:List Nat) (i:Nat) (a:Nat),d[i]? = some a->(BY l d)[i*2]? = some (.int .i64 (a:Int))/\(BY l d)[i*2+1]? = some (.int .i64 (ID l a:Nat))
 | [],i,a,h=>by simp at h
 | x::d,0,a,h=>by
  simp at h;subst h;exact⟨rfl,rfl⟩
 | x::d,i+1,a,h=>by
  have:=JK l d i a (by simpa using h);have e:BY l (x::d)=[.int .i64 (x:Int),.int .i64 (ID l x:Nat)]++BY l d:=rfl;rw [e];constructor
  .rw [gar (by simp;omega),show(i+1)*2-[int .i64 (x:Int),.int .i64 (ID l x:Nat)].length=i*2 by simp;omega];exact this.1
  .rw [gar (by simp;omega),show(i+1)*2+1-[int .i64 (x:Int),.int .i64 (ID l x:Nat)].length=i*2+1 by simp;omega];exact this.2
def frN(q:Nat)(l:List Bk):List Nat:=(l.filter λx=>x.g==0&&x.o==q).map (·.p)
def plc(q:Nat)(l:List Bk):List Nat:=(l.filter λx=>x.g==0&&decide (x.o<q)).map (·.p)
theorem C1w(q:Nat)(l:List Bk):fr q l=(frN q l).map λ(a:Nat)=>(a:Int):=by simp [fr,frN,Function.comp_def]
theorem B78(q:Nat)(l:List Bk):(plc q l).length<=l.length:=by
 unfold plc;rw [lmp];exact List.length_filter_le _ _
theorem B4q(l:List Bk):plc 0 l=[]:=by
 unfold plc;rw [List.filter_eq_nil_iff.2 (by intro x _;simp)];rfl
theorem A6d(q:Nat):∀l:List Bk,(plc (q+1) l).Perm (plc q l++frN q l)
 | []=>List.Perm.refl _
 | x::l=>by
  have ih:=A6d q l;unfold plc frN at *;by_cases hg:x.g=0
  .rcases Nat.lt_trichotomy x.o q with h|h|h
   .rw [List.filter_cons_of_pos (by simp [hg];omega),List.filter_cons_of_pos (by simp [hg];omega),List.filter_cons_of_neg (by simp [hg];omega)];simp only [List.map_cons,List.cons_append];exact ih.cons _
   .rw [List.filter_cons_of_pos (by simp [hg];omega),List.filter_cons_of_neg (by simp [hg];omega),List.filter_cons_of_pos (by simp [hg];omega)];simp only [List.map_cons];exact(ih.cons _).trans List.perm_middle.symm
   .rw [List.filter_cons_of_neg (by simp [hg];omega),List.filter_cons_of_neg (by simp [hg];omega),List.filter_cons_of_neg (by simp [hg];omega)];exact ih
  .rw [List.filter_cons_of_neg (by simp [hg]),List.filter_cons_of_neg (by simp [hg]),List.filter_cons_of_neg (by simp [hg])];exact ih
theorem B79(h:∀x∈l,x.o<=10):plc 11 l=(frB l).map (·.p):=by
 unfold plc frB;congr 1;apply List.filter_congr;intro x hx;have:=h x hx;simp;omega
theorem B5h:(prog.info? 141).map (λi=>(i.zero,i.size,i.bytes))=some (some (.agg #[.int .i64 0,.int .i64 0]),2,16):=by kernel_rfl
theorem B9n{w:WD}{v:Value}{n:Nat}(ho:w.ownsRow base 141 2 v n xs){X m off:Nat}{ys news:List Value}(hx:AX w X ys)(hys:(ys.drop off).take (m*2)=news)(hl:news.length=m*2)
 (h1:∀u∈news,u.oneCell'=true) (h63:n+m<=1000000) (hbase:base<=w.heap.size) :
 ∃a l c' w',BL prog #[131,131] 131 v (.slice (some ⟨X,off,none⟩) m c) (.slice a l c') w w'/\l=n+m/\w'.ownsRow base 141 2 (.slice a l c') (n+m) (xs++news)/\AB (λb=>v.ownBlock=some b) w w':=by
 have h:=B5h
 cases hi:prog.info? 141 with
 | none=>rw [hi] at h;cases h
 | some i=>
  rw [hi] at h;simp at h;exact A5p (P:=prog) (t:=131) (ty:=131) (e:=141) (i:=i) (z:=.agg #[.int .i64 0,.int .i64 0]) (size:=2) underlying131 hi h.1 h.2.1 rfl (by decide) ho hx hys hl h1 h63 (by omega) hbase
def A7l(l:List Bk):Prop:=∀(w:WD) (a:OA) (n c base:Nat) (d:List Nat),w.ownsRow base 141 2 (.slice a n c) n (BY l d)->(∀x∈d,x<128)->d.Nodup->d.length<=128->
 Calls prog 248 #[.slice a n c,.func (.func 249) #[] #[]] w λe w'=>e=.returned (.tuple #[])/\w'.ownsRow base 141 2 (.slice a n c) n (BY l (d.mergeSort λx y=>decide (x<=y)))/\AB (λb=>(slice a n c).ownBlock=some b) w w'
theorem A0c{d e:List Nat}(hp:d.Perm e)(he:e.Pairwise (λa b=>a<b)):(d.mergeSort λx y=>decide (x<=y))=e:=by
 have h1:(d.mergeSort λx y=>decide (x<=y)).Pairwise (λx y=>x<=y):=by
  have:=List.pairwise_mergeSort (le:=λ(x y:Nat)=>decide (x<=y)) (by intro a b c h1 h2;simp at *;omega) (by intro a b;simp;omega) d;exact this.imp λh=>by simpa using h
 have h2:(d.mergeSort λx y=>decide (x<=y)).Perm e:=(List.mergeSort_perm d _).trans hp;exact h2.eq_of_pairwise (le:=λx y=>x<=y) (λa b _ _ h1 h2=>by omega) h1 (he.imp λh=>by omega)
theorem _root_.Go.Eng.AB.toY{w:WD}(k:AB AD w w'):AB Y w w':=k.AE λ_ _ h=>h.elim
theorem A4k{w:WD}{e size n:Nat}{v:Value}(h:w.ownsRow base e size v n xs)(hg:v.ownBlock=some g):base<=g/\∃cur,w.heap[g]? = some (.cells cur e (0,0)):=by
 rcases h.2 with⟨rfl,_⟩|⟨g',cap,cur,rfl,hb,hgg,_⟩
 .simp [Value.ownBlock] at hg
 .simp [Value.ownBlock] at hg;subst hg;exact⟨hb,cur,hgg⟩
section
variable {w w':WD}{b c t:Nat}{m:Nat->Nat}{n:Nat}{L:List Bk}
theorem B72{w:WD}{e l n:Nat}{a:OA}(h:w.ownsRow base e 2 (.slice a l c) n xs){i:Nat}(hi:i<n) :
 ∃g,a=some ⟨g,0,none⟩/\l=n/\base<=g/\g<w.heap.size/\rd w g (i*2)=xs[i*2]? /\ rd w g (i*2+1)=xs[i*2+1]? := by
 obtain⟨hl,hh⟩:=CN h;rcases hh with⟨_,h0,_⟩|⟨g,cs,rfl,hg,og,htk,_,_⟩
 .omega
 .refine⟨g,rfl,hl,hg,og.lt,?_,?_⟩
  .rw [og.rd,<- htk,List.getElem?_take,if_pos (by omega)]
  .rw [og.rd,<- htk,List.getElem?_take,if_pos (by omega)]
theorem DL.AX{cs:List Value}(k:DL Y w w')(hy:Y g)(h:AX w g cs):AX w' g cs:=by
 obtain⟨ty,h⟩:=h;exact⟨ty,(k.blk g hy).trans h⟩
theorem A33(hs:A7l L)(h:BAt w b m t (BW n L))(hi:Inv n L)(hc:rd w c 0=some (AP b)) :
 EM prog 247 [.pointer (some ⟨c,0,none⟩)] ((frB L).map λx=>[B9l x]) (λ_=>False) w:=by
 refine⟨λl J Jx W hk hab habx hY h0=>?_⟩;refine(vc247 l (some ⟨c,0,none⟩) W (λv w'=>(∃Y,J Y ((frB L).map λx=>[B9l x]).length w')\/∃Y,Jx Y w') ?_).AE ?_
 rotate_left
 .rintro e w' ⟨v,rfl,hw⟩;exact⟨⟨v,rfl⟩,hw⟩
 have hW:=h.k hk;have hn128:=hi.n1.2;have h10:∀x∈L,x.o<=10:=λx hx=>(BI hi.tl hx).2.2.2;have hLl:=RW hi.tl;have hpl:∀q,(plc q L).length<=128:=λq=>by have:=B78 q L;omega
 unfold Q;simp only [Ri,Rp,Rs,Wp,Wn,isP_some,Wif_true,gIf_true,pb_some,po_some,za];refine⟨_,hk.AV hc id,?_⟩;simp only [Ri,Rp,Rs,Wp,Wn,isP_some,Wif_true,gIf_true,pb_some,po_some,za];refine⟨_,λ_=>hW.r12,AL rfl ⟨_,hk.AV hc id,?_⟩⟩;simp only [Ri,Rp,Rs,Wp,Wn,isP_some,Wif_true,gIf_true,pb_some,po_some,za];refine⟨some (m 0),some (m 1),some (m 2),some (m 3),some (m 4),some (m 5),some (m 6),some (m 7),some (m 8),some (m 9),some (m 10),hW.so.BB 1 (λj hj=>?_),?_⟩
 .simp at hj;have:j=0\/j=1\/j=2\/j=3\/j=4\/j=5\/j=6\/j=7\/j=8\/j=9\/j=10:=by omega
  rcases this with rfl|rfl|rfl|rfl|rfl|rfl|rfl|rfl|rfl|rfl|rfl <;> rfl
 have hbase0:∀o,o<11->m o<W.heap.size:=λo ho=>(hW.mf o ho).lt;refine⟨λa l' c' k w' N=>∃(q:Nat) (d:List Nat),k=q/\q<=11/\N=11-q/\AB AD W w'/\l'=d.length/\w'.ownsRow W.heap.size 141 2 (.slice a l' c') d.length (BY L d)/\d.Perm (plc q L),
  ⟨11,0,[],rfl,by omega,rfl,AB.refl _ _,rfl,World.ownsRow_nil _ _ _ _,by rw [B4q]⟩,?_⟩
 rintro a _ c' _ w1 _ ⟨q,d,rfl,hq,rfl,k1,rfl,row1,hp1⟩;have hdl:d.length<=128:=by rw [hp1.length_eq];exact hpl q
 refine AH (λhc2=>?_) (λhc2=>?_)
 .simp only [decide_eq_true_eq] at hc2;have hq11:q<11:=by omega
  refine Wi ⟨some (m q),?_,?_⟩
  .rw [tnc,mo]
   match q,hq11 with
   | 0,_|1,_|2,_|3,_|4,_|5,_|6,_|7,_|8,_|9,_|10,_=>rfl
  have mq1:BJ w1 (m q) (JA (fr q L)):=(hW.mf q hq11).k k1;obtain⟨w2,hrng,k2,I2⟩:=B0t (P:=prog) underlying142 mq1;refine⟨_,w2,hrng,?_⟩;have row2:=BA row1 k2 (λ_ _ _ _=>id);have hr0:=I2.lt.1;have hs01:=k1.sz;have hs12:=k2.sz;generalize hrE:w1.heap.size=r at *;refine⟨λa l' c' w' N=>∃(R:List (Int×Value)) (d:List Nat),R.length=N/\AB AD W w'/\GI w' r (m q) (JA (fr q L)) R/\l'=d.length/\w'.ownsRow W.heap.size 141 2 (.slice a l' c') d.length (BY L d)/\(∀g,(slice a l' c').ownBlock=some g->g≠r)/\
   (d.map (λ(a:Nat)=>(a:Int))++R.map (·.1)).Perm ((plc (q+1) L).map λ(a:Nat)=>(a:Int))/\∀p∈R,∃x∈L,x.g=0/\x.o=q/\p.1=(x.p:Int),
   ⟨_,JA (fr q L),d,rfl,k1.tr k2,I2,rfl,row2,λg hg e=>?_,?_,λp hp=>?_⟩,?_⟩
  .obtain⟨_,cur,hcu⟩:=A4k row1 hg;have:=(FK.1 hcu).1;omega
  .have e1:(JA (fr q L)).map (·.1)=(frN q L).map λ(a:Nat)=>(a:Int):=by rw [<- C1w];simp [JA,Function.comp_def]
   rw [e1,<- F6];exact((hp1.append_right _).trans (A6d q L).symm).map _
  .obtain⟨k,hk',rfl⟩:=List.mem_map.1 hp;obtain⟨x,h1,h2,h3,h4⟩:=IV.1 hk';exact⟨x,h1,h2,h3,h4.symm⟩
  rintro a _ c' w3 _ ⟨R,d,rfl,k3,I3,rfl,row3,hsep,hperm,hR⟩;have hdl:d.length<=128:=by
   have e1:=hperm.length_eq;simp only [lap,lmp] at e1;have:=hpl (q+1);omega
  rcases B42 (P:=prog) (ty:=0) I3 with⟨rfl,hnx⟩|⟨⟨f,v⟩,R',w4,hRp,hnx,k4,I4,hent⟩
  .left;refine⟨w3,hnx,11-(q+1),by omega,q+1,d,wzz,by omega,rfl,k3,rfl,row3,?_⟩;simp only [List.map_nil,List.append_nil] at hperm;have:(d.map (λ(a:Nat)=>(a:Int))).map Int.toNat=d:=by rw [List.map_map];simp [Function.comp_def]
   have h2:((plc (q+1) L).map (λ(a:Nat)=>(a:Int))).map Int.toNat=plc (q+1) L:=by rw [List.map_map];simp [Function.comp_def]
   have h3:=hperm.map Int.toNat;rw [this,h2] at h3;exact h3
  .right;obtain⟨x,hx1,hx2,hx3,hx4⟩:=hR (f,v) (hRp.mem_iff.2 (by simp));dsimp only at hx4;subst hx4;have row4:=BA row3 k4 (λg _ _ hg e=>hsep g hg e);have k34:AB AD W w4:=BO k3 k4 λb e=>by omega
   refine⟨_,_,w4,hnx,(x.p:Int),v,hent,?_⟩;intro w5 e5;have k45:=kal e5;have p5:=AG (c:=[int .i64 (x.p:Int),.int .i64 (q:Int)]) e5;have row5:=BA row4 k45 (λ_ _ _ _=>id);have hcell:BY L [x.p]=[int .i64 (x.p:Int),.int .i64 (q:Int)]:=by
    simp only [BY,List.flatMap_cons,List.flatMap_nil,List.append_nil];rw [A6f hi.tl hx1 hx2,hx3]
   have hs3:=k3.sz;have hs4:=k4.sz;have hs5:=k45.sz;obtain⟨a',l',c'',w6,happ,rfl,row6,k6⟩:=B9n row5 p5 (m:=1) (off:=0) (c:=1) (news:=[int .i64 (x.p:Int),.int .i64 (q:Int)]) rfl rfl (λu hu=>by simp at hu;rcases hu with rfl|rfl <;> rfl) (by omega) (by omega);refine⟨a',_,c'',w6,happ,R'.length,by rw [hRp.length_eq];simp,R',d++[x.p],rfl,BO (k34.tr k45) k6 λg hg=>?_,?_,by simp,?_,λg hg=>?_,?_,λp hp=>hR p (hRp.mem_iff.2 (mcm _ hp))⟩
   .exact(A4k row5 hg).1
   .exact(I4.k k45).kx k6 (λe=>hsep r e rfl) (λe=>by have:=(A4k row5 e).1;have:=hbase0 q hq11;omega)
   .have:BY L (d++[x.p])=BY L d++[int .i64 (x.p:Int),.int .i64 (q:Int)]:=by rw [A2o,hcell]
    rw [this];have e1:(d++[x.p]).length=d.length+1:=by simp
    rw [e1];exact row6
   .intro e;subst e;obtain⟨_,cur,hcu⟩:=A4k row6 hg;obtain⟨es,clk,since,seen,c0,_,hit,_⟩:=((I4.k k45).kx k6 (λe=>hsep g e rfl) (λe=>by have:=(A4k row5 e).1;have:=hbase0 q hq11;omega)).ex;rw [hcu] at hit
    cases hit
   .refine List.Perm.trans ?_ hperm;rw [F6,List.append_assoc];refine List.Perm.append_left _ ?_;exact(hRp.map (·.1)).symm
 .have hq11:q=11:=by simp at hc2;omega
  subst hq11;have hplE:=B79 h10;rw [hplE] at hp1;have hstr:=A8r hi.tl;have hnd:d.Nodup:=hp1.nodup_iff.2 (hstr.imp λh=>by omega);refine(hs w1 a d.length c' W.heap.size d row1 (λx hx=>?_) hnd hdl).AE ?_
  .obtain⟨y,hy,rfl⟩:=List.mem_map.1 (hp1.mem_iff.1 hx);have:=(BI hi.tl (RZ.1 hy).1);have:=p2 y.o;omega
  rintro _ w2 ⟨rfl,row2,k2⟩;rw [A0c hp1 hstr] at row2;have K2:AB AD W w2:=BO k1 k2 λg hg=>(A4k row1 hg).1;refine⟨rfl,?_⟩;have hlen:d.length=(frB L).length:=by rw [hp1.length_eq,lmp]
  have hJ2:=hab _ _ _ _ h0 K2.toY;refine⟨λk w' N=>∃(q:Nat) (Y:NP),k=q/\q<=d.length/\N=d.length-q/\J Y q w'/\(∀g,(slice a d.length c').ownBlock=some g->Y g)/\w'.ownsRow W.heap.size 141 2 (.slice a d.length c') d.length (BY L ((frB L).map (·.p))),
   ⟨d.length,0,_,rfl,by omega,rfl,hJ2,λg hg=>?_,row2⟩,?_⟩
  .obtain⟨h1,cur,hcu⟩:=A4k row2 hg;exact .inr ⟨h1,(FK.1 hcu).1⟩
  rintro _ w3 _ ⟨q,Y,rfl,hq,rfl,hJ3,hYg,row3⟩;refine AH (λhc3=>?_) (λhc3=>?_)
  .simp only [decide_eq_true_eq] at hc3;have hqd:q<d.length:=by omega
   obtain⟨g,rfl,_,hgb,hgs,r0,r1⟩:=B72 row3 hqd;have hxq:q<(frB L).length:=by omega
   obtain⟨x,hx⟩:∃x,(frB L)[q]? = some x:=⟨_,geg hxq⟩;have hxL:=RZ.1 (mog hx);have hget:=JK L ((frB L).map (·.p)) q x.p (by simp [hx]);rw [hget.1] at r0;rw [hget.2,A6f hi.tl hxL.1 hxL.2] at r1;simp only [Ri,Rp,Rs,Wp,Wn,isP_some,Wif_true,pb_some,po_some,za,tnc];refine Wi ⟨(x.p:Int),(x.o:Int),⟨r0,r1⟩,?_⟩;intro w4 e4;have k34:=kal e4;have o4:=AG (c:=[int .i64 0,.int .i64 0]) e4;have hJ4:=hab _ _ _ _ hJ3 k34.toY;have s34:w4.heap.size=w3.heap.size+1:=by rw [e4];simp only [World.alloc,Array.size_push]
   refine⟨⟨o4.wr (by simp),o4.wr (by simp)⟩,?_⟩;intro w5 e5;have o5:=o4.s2 e5;have k45:AB (·=w3.heap.size) w4 w5:=kr.s2 e5 (.inl rfl);have k35:AB AD w3 w5:=k34.trans k45 λb hb e=>by omega
   have hJ5:=hab _ _ _ _ hJ3 k35.toY;have row5:=BA row3 k35 (λ_ _ _ _=>id);refine⟨(x.p:Int),(x.o:Int),⟨by rw [o5.rd];rfl,by rw [o5.rd];rfl⟩,?_⟩;have hy:=hY _ q [B9l x] w5 (by simp [hx]) hJ5;obtain⟨fn,tm,asg',bo,hrun,hR⟩:=hy.run;refine⟨fn,tm,asg',bo,hrun,hR.mono ?_⟩;rintro en w6 ⟨k6,⟨rfl,hJ6⟩|⟨rfl,hx6⟩⟩
   .refine⟨true,rfl,AL rfl ⟨d.length-(q+1),by omega,q+1,_,wzz,by omega,rfl,hJ6,λg' hg'=>.inl (hYg g' hg'),?_⟩⟩;have hYg0:=hYg g (by simp [Value.ownBlock]);rcases row5 with⟨hl5,⟨hv,h00⟩|⟨g',cap,cur,hv,hb',hgg,hrest⟩⟩
    .cases hv
    .simp only [Value.slice.injEq,Option.some.injEq,Addr.mk.injEq] at hv;obtain⟨⟨rfl,_⟩,_,rfl⟩:=hv;exact⟨hl5,.inr ⟨g,_,cur,rfl,hb',(k6.blk g (.inl (.inl hYg0))).trans hgg,hrest⟩⟩
   .exact⟨false,rfl,AA rfl (.inr ⟨_,hx6⟩)⟩
  .have:q=d.length:=by simp at hc3;omega
   subst this;refine .inl ⟨Y,?_⟩;rw [lmp,<- hlen];exact hJ3
end
end Go.Proofs.YtdgbechegbmpcaaGreatDoor
namespace Go.Proofs.YtdgbechegbmpcaaGreatDoor
open Go Eng Go.Sort
def RH(L:List Bk)(a:Fin 128):List Value:=[.int .i64 (a.1:Int),.int .i64 (ID L a.1:Nat)]
theorem B17{w:WD}{g:Nat}{cur:Array Value}{e:TypeId}{F:Array Value}(hb:w.heap[g]? = some (.cells cur e (0,0)))(ht:cur.toList.take F.size=F.toList):Holds id w g 0 F:=by
 intro j hj;refine⟨?_,by simp [World.frozen?,hb]⟩;have h1:(cur.toList.take F.size)[j]? = F.toList[j]? := by rw [ht]
 rw [List.getElem?_take_of_lt hj] at h1;simp only [World.cell?,hb,za];simp only [Option.isSome_none,Bool.false_eq_true,if_false];rw [<- Array.getElem?_toList,h1];simp [hj]
theorem A3j{w:WD}{g n:Nat}{os:Array Obj}{cur:Array Value}{e:TypeId}{fr:Nat×Nat}(d:Array Value)(hb:w.heap[g]? = some (.cells cur e fr)) :
 (grow (putRow id (Sort.ahead w n) g 0 d) os).heap[g]? = some (.cells (putCells id 0 d cur) e fr):=by
 have hg:g<w.heap.size:=(FK.1 hb).1;rw [heap_grow_old _ _ (by simpa using hg)];simp [putRow,mapBlock,Sort.ahead,Array.getElem?_modify,hb,onCells]
theorem RG{w:WD}{g n:Nat}{os:Array Obj}(d:Array Value):w.grownBy (grow (putRow id (Sort.ahead w n) g 0 d) os) (some g):=by
 refine⟨rfl,rfl,rfl,by simp,λk hk hne=>?_⟩;rw [heap_grow_old _ _ (by simpa using hk)];have:g≠k:=λe=>hne (by rw [e]);simp [putRow,mapBlock,Sort.ahead,Array.getElem?_modify,this]
theorem A0a(cur:Array Value)(F:Array Value)(h:F.size<=cur.size):(putCells id 0 F cur).toList.take F.size=F.toList:=by
 apply List.ext_getElem?;intro j;by_cases hj:j<F.size
 .rw [List.getElem?_take_of_lt hj,Array.getElem?_toList];simp [putCells,hj,show j<cur.size by omega]
 .rw [List.getElem?_take_eq_none (by omega),gen (by simp;omega)]
theorem A62(L:List Bk)(d:List (Fin 128)):(flatK (RH L) 2 d.toArray).toList=BY L (d.map (·.val)):=by
 have hlen:=GP L (d.map (·.val));rw [lmp] at hlen;apply List.ext_getElem?;intro t;by_cases ht:t<d.length*2
 .have h1:(flatK (RH L) 2 d.toArray).toList[t]? = some ((RH L d.toArray[t/2]!)[t%2]!):=by
   have:=get_flatK (RH L) 2 d.toArray t (by simpa using ht);rw [Array.getElem?_toList,Array.getElem?_eq_getElem (by simpa using ht),<- this,getElem!_pos _ t (by simpa using ht)]
  rw [h1];have hi:t/2<d.length:=by omega
  have hd:(d.map (·.val))[t/2]? = some (d[t/2]).val:=by simp [hi]
  have hd2:d.toArray[t/2]! = d[t/2]:=by simp [hi]
  obtain⟨c1,c2⟩:=JK L _ _ _ hd;rw [hd2];rcases Nat.mod_two_eq_zero_or_one t with h|h
  .have e:t=t/2*2:=by omega
   rw [h]
   conv=>rhs;rw [e,c1]
   rfl
  .have e:t=t/2*2+1:=by omega
   rw [h]
   conv=>rhs;rw [e,c2]
   rfl
 .rw [gen (by simp;omega),gen (by omega)]
theorem B0o{w:WD}{base n c:Nat}{L:List Bk}{d d':List (Fin 128)}{m:Nat}{os:Array Obj}{g:Nat}(h:w.ownsRow base 141 2 (.slice (some ⟨g,0,none⟩) n c) n (BY L (d.map (·.val))))(hl:d'.length=d.length)(hn:n=d.length) :
 (sortWorldK (RH L) 2 w g 0 m d'.toArray os).ownsRow base 141 2 (.slice (some ⟨g,0,none⟩) n c) n (BY L (d'.map (·.val)))/\AB (λb=>g=b) w (sortWorldK (RH L) 2 w g 0 m d'.toArray os):=by
 rcases h.2 with⟨h0,_⟩|⟨g',cap,cur,hv,hb,hgg,hnc,hm,hsz,htk⟩
 .cases h0
 cases hv
 have hF:(flatK (RH L) 2 d'.toArray).size=n*2:=by simp [hl,hn]
 constructor
 .refine⟨by rw [GP,lmp];omega,.inr ⟨g,c,_,rfl,hb,A3j _ hgg,hnc,hm,by simp [putCells,hsz],?_⟩⟩;rw [<- A62,<- hF];exact A0a _ _ (by rw [hF,hsz];omega)
 .have:=AB.grownBy (RG (w:=w) (g:=g) (n:=m) (os:=os) (flatK (RH L) 2 d'.toArray));exact this.AE λb _ h=>by simpa using h
theorem B6b(L:List Bk)(blk off size:Nat)(w:WD):CmpLays Tryz.prog 249 #[] (RH L) 2 (λx y:Fin 128=>(x.1:Int)-(y.1:Int)) blk off size w:=λm os dk _ x y=>by
 have H:∀W:WD,Calls Tryz.prog 249 #[.agg #[.int .i64 (x.1:Int),.int .i64 (ID L x.1:Nat)],.agg #[.int .i64 (y.1:Int),.int .i64 (ID L y.1:Nat)]] W λe w'=>e=.returned (.int .i64 ((x.1:Int)-(y.1:Int)))/\∃q os',w'=grow (W.drewN q) os':=λW=>by
  refine(vc249 _ _ _ _ W (λv w'=>v=.int .i64 ((x.1:Int)-(y.1:Int))/\∃q os',w'=grow (W.drewN q) os') ?_).AE ?_
  .unfold Q;intro w1 e1 w2 e2;have o1:=AG (c:=[.int .i64 (x.1:Int),.int .i64 (ID L x.1:Nat)]) e1;have o2:=AG (c:=[.int .i64 (y.1:Int),.int .i64 (ID L y.1:Nat)]) e2;refine⟨_,by rw [(o1.al e2).rd];rfl,_,by rw [o2.rd];rfl,?_,0,#[.cells #[.int .i64 (x.1:Int),.int .i64 (ID L x.1:Nat)] 141,.cells #[.int .i64 (y.1:Int),.int .i64 (ID L y.1:Nat)] 141],?_⟩
   .have:=x.2;have:=y.2;rw [wi (by omega)]
   .rw [e2,e1,alloc_eq_grow,alloc_eq_grow,grow_grow];rfl
  .rintro e w' ⟨v,rfl,rfl,h⟩;exact⟨rfl,h⟩
 exact H _
theorem ltB:ltOf (λx y:Fin 128=>(x.1:Int)-(y.1:Int))=λx y=>decide (x.1<y.1):=by
 funext x y;unfold ltOf;exact decide_eq_decide.2 (by dsimp only;omega)
theorem swoB:SWO (ltOf λx y:Fin 128=>(x.1:Int)-(y.1:Int)):=by
 rw [ltB];exact⟨λx=>by simp,λx y z h1 h2=>by simp at *;omega,λx y z h1 h2=>by simp at *;omega⟩
theorem totB:∀x y:Fin 128,ltOf (λx y:Fin 128=>(x.1:Int)-(y.1:Int)) x y=false->ltOf (λx y:Fin 128=>(x.1:Int)-(y.1:Int)) y x=false->x=y:=by
 rw [ltB];intro x y h1 h2;simp at h1 h2;exact Fin.ext (by omega)
theorem B1l(d:List (Fin 128)):(d.mergeSort λx y=>!(ltOf (λx y:Fin 128=>(x.1:Int)-(y.1:Int))) y x).map (·.val)=(d.map (·.val)).mergeSort λx y=>decide (x<=y):=by
 rw [List.map_mergeSort (s:=λx y=>decide (x<=y))];intro a _ b _;rw [ltB]
 show(!decide (b.1<a.1))=decide (a.1<=b.1)
 rw [<- decide_not];exact decide_eq_decide.2 (by omega)
end Go.Proofs.YtdgbechegbmpcaaGreatDoor
namespace Go.Proofs
open Go.Shelf
def Tryz.LZ:Go.Shelf.Ren:=⟨λ|6=>248|15=>260|14=>276|28=>289|29=>290|20=>299|21=>300|22=>301|23=>302|24=>303|25=>304|26=>305|27=>306|46=>317|47=>309|48=>310|49=>318|50=>319|57=>324|n=>n,λ|22=>131|24=>141|25=>364|3=>3|39=>306|0=>0|53=>379|55=>76|4=>4|46=>392|45=>391|50=>309|5=>5|9=>9|66=>408|70=>412|76=>417|77=>73|n=>n,λ|n=>n⟩
theorem Tryz.B6x:Go.Proofs.SlLaysF0.n6 Tryz.prog Tryz.LZ:={
 mixed:=by kernel_rfl
 f6:=⟨Tryz.f248.name,by decide,Tryz.func248.trans (congrArg some (by kernel_rfl))⟩
 f14:=⟨Tryz.f276.name,by decide,Tryz.func276.trans (congrArg some (by kernel_rfl))⟩
 f15:=Tryz.func260.trans (congrArg some (by kernel_rfl))
 f20:=⟨Tryz.f299.name,by decide,Tryz.func299.trans (congrArg some (by kernel_rfl))⟩
 f21:=⟨Tryz.f300.name,by decide,Tryz.func300.trans (congrArg some (by kernel_rfl))⟩
 f22:=⟨Tryz.f301.name,by decide,Tryz.func301.trans (congrArg some (by kernel_rfl))⟩
 f23:=⟨Tryz.f302.name,by decide,Tryz.func302.trans (congrArg some (by kernel_rfl))⟩
 f24:=⟨Tryz.f303.name,by decide,Tryz.func303.trans (congrArg some (by kernel_rfl))⟩
 f25:=⟨Tryz.f304.name,by decide,Tryz.func304.trans (congrArg some (by kernel_rfl))⟩
 f26:=⟨Tryz.f305.name,by decide,Tryz.func305.trans (congrArg some (by kernel_rfl))⟩
 f27:=⟨Tryz.f306.name,by decide,Tryz.func306.trans (congrArg some (by kernel_rfl))⟩
 f28:=Tryz.func289.trans (congrArg some (by kernel_rfl))
 f29:=Tryz.func290.trans (congrArg some (by kernel_rfl))
 f46:=⟨Tryz.f317.name,by decide,Tryz.func317.trans (congrArg some (by kernel_rfl))⟩
 f47:=Tryz.func309.trans (congrArg some (by kernel_rfl))
 f48:=Tryz.func310.trans (congrArg some (by kernel_rfl))
 f49:=⟨Tryz.f318.name,by decide,Tryz.func318.trans (congrArg some (by kernel_rfl))⟩
 f50:=⟨Tryz.f319.name,by decide,Tryz.func319.trans (congrArg some (by kernel_rfl))⟩
 f57:=⟨Tryz.f324.name,by decide,Tryz.func324.trans (congrArg some (by kernel_rfl))⟩
 t0:=Tryz.underlying0
 a0:=Tryz.isAgg0
 z0:=Tryz.sizeOf0
 v0:=Tryz.zeroValue0
 t3:=Tryz.underlying3
 a3:=Tryz.isAgg3
 z3:=Tryz.sizeOf3
 v3:=Tryz.zeroValue3
 t4:=Tryz.underlying4
 a4:=Tryz.isAgg4
 z4:=Tryz.sizeOf4
 v4:=Tryz.zeroValue4
 t5:=Tryz.underlying5
 a5:=Tryz.isAgg5
 z5:=Tryz.sizeOf5
 v5:=Tryz.zeroValue5
 t9:=Tryz.underlying9
 a9:=Tryz.isAgg9
 z9:=Tryz.sizeOf9
 v9:=Tryz.zeroValue9
 t22:=Tryz.underlying131
 a22:=Tryz.isAgg131
 z22:=Tryz.sizeOf131
 v22:=Tryz.zeroValue131
 t25:=Tryz.underlying364
 a25:=Tryz.isAgg364
 z25:=Tryz.sizeOf364
 v25:=Tryz.zeroValue364
 t39:=Tryz.underlying306
 a39:=Tryz.isAgg306
 z39:=Tryz.sizeOf306
 v39:=Tryz.zeroValue306
 t45:=Tryz.underlying391
 a45:=Tryz.isAgg391
 z45:=Tryz.sizeOf391
 v45:=Tryz.zeroValue391
 t46:=Tryz.underlying392
 a46:=Tryz.isAgg392
 z46:=Tryz.sizeOf392
 v46:=Tryz.zeroValue392
 t50:=Tryz.underlying309
 a50:=Tryz.isAgg309
 z50:=Tryz.sizeOf309
 v50:=Tryz.zeroValue309
 t53:=Tryz.underlying379
 a53:=Tryz.isAgg379
 z53:=Tryz.sizeOf379
 v53:=Tryz.zeroValue379
 t55:=Tryz.underlying76
 a55:=Tryz.isAgg76
 z55:=Tryz.sizeOf76
 v55:=Tryz.zeroValue76
 t66:=Tryz.underlying408
 a66:=Tryz.isAgg408
 z66:=Tryz.sizeOf408
 v66:=Tryz.zeroValue408
 t70:=Tryz.underlying412
 a70:=Tryz.isAgg412
 z70:=Tryz.sizeOf412
 v70:=Tryz.zeroValue412
 t76:=Tryz.underlying417
 a76:=Tryz.isAgg417
 z76:=Tryz.sizeOf417
 v76:=Tryz.zeroValue417
 t77:=Tryz.underlying73
 a77:=Tryz.isAgg73
 z77:=Tryz.sizeOf73
 v77:=Tryz.zeroValue73}
end Go.Proofs
namespace Go.Proofs.YtdgbechegbmpcaaGreatDoor
open Go Eng Go.Sort
theorem B2w:∀args w,(callFunc 249 args).run Tryz.prog w=.ok (.enter 249 args) w:=enters_of Tryz.func249 (by kernel_rfl) rfl
theorem B0d(L:List Bk):A7l L:=λw a n c base d h hd hn hl=>by
 have hlen:=h.1;rw [GP] at hlen;have hnd:n=d.length:=by omega
 obtain⟨d',rfl⟩:∃d':List (Fin 128),d=d'.map (·.val):=⟨d.pmap (λx hx=>⟨x,hx⟩) hd,by simp [List.map_pmap]⟩;rw [lmp] at hnd hl;rcases h.2 with⟨h0,h1⟩|⟨g,cap,cur,hv,hb,hgg,hnc,hm,hsz,htk⟩
 .have hd0:d'=[]:=List.length_eq_zero_iff.1 (by omega);subst hd0
  cases h0
  refine(AnyF.slices_SortFunc_none (ρ:=Tryz.LZ) Tryz.B6x none 0 (.func (.func 249) #[] #[]) w).AE ?_;rintro e w' ⟨rfl,rfl⟩;exact⟨rfl,by simpa using h,AB.refl _ _⟩
 .cases hv
  have hglt:g<w.heap.size:=(FK.1 hgg).1;have hH:HoldsK (RH L) 2 w g 0 d'.toArray:=by
   refine B17 hgg ?_;rw [A62,<- htk];simp [hnd]
  have hcon:=AnyQ.slices_SortFunc_total (ρ:=Tryz.LZ) Tryz.B6x 2 Tryz.isAgg141 Tryz.sizeOf141 (RH L) (λ_=>rfl) (λx v hv=>by simp [RH] at hv;rcases hv with rfl|rfl <;> rfl) (λx y=>(x.1:Int)-(y.1:Int)) swoB 249 #[] g 0 c d'.toArray w B2w (B6b L g 0 _ w) hH hglt (by simp;omega) totB;have hs:d'.toArray.size=n:=by simp [hnd]
  rw [hs] at hcon;refine hcon.AE ?_;rintro e w' ⟨rfl,m,os,rfl⟩;have:=B0o (m:=m) (os:=os) (d':=(d'.mergeSort λx y=>!(ltOf (λx y:Fin 128=>(x.1:Int)-(y.1:Int))) y x)) h (List.length_mergeSort _) hnd;rw [B1l] at this;exact⟨rfl,this.1,this.2.AE λb _ hb=>by simp [Value.ownBlock,hb]⟩
end Go.Proofs.YtdgbechegbmpcaaGreatDoor
namespace Go.Proofs.YtdgbechegbmpcaaGreatDoor
open Go Go.Eng Go.Proofs.Tryz
open Go.Value (bool func slice agg int)
open Option (isNone)
open Go.IntKind (wrap)
open List (replicate range)
variable {X Y:NP}{w':WD}{b z:Nat}{L:Nat->List Bk}
theorem DY{B:Nat}{w:WD}(k:AB X w w')(hB:B+1<w.heap.size)(h1:¬X B)(h2:¬X (B+1)):CA B w w':=⟨k.sz,k.blk B (by omega) h1,k.blk (B+1) hB h2⟩
theorem A6n{w:WD}(k:AB X w w')(h:∀b,Y b->b<w.heap.size/\¬X b):DL Y w w':=⟨k.sz,λb hb=>k.blk b (h b hb).1 (h b hb).2⟩
def bks(L:List Bk):List (Nat×Nat):=(frB L).map λx=>(x.p,x.o)
theorem B3m(L:List Bk):(bks L).length=(frB L).length:=by simp [bks]
theorem B6j{x:Bk}(h:x.g=0)(B:List Bk):bks (x::B)=(x.p,x.o)::bks B:=by simp [bks,frB,h]
theorem B6i{x:Bk}(h:x.g≠0)(B:List Bk):bks (x::B)=bks B:=by simp [bks,frB,h]
theorem C2z{L:List Bk}{n:Nat}(h:D0 0 L n):(bks L).length<=n:=by
 have:=RW h;have h2:(frB L).length<=L.length:=List.length_filter_le _ _;have:=B3m L;omega
def zsh(c:NI)(L:Nat->List Bk):Nat->List (Nat×Nat)
 | 0=>[]
 | k+1=>zsh c L k++(bks (L k)).map λy=>((AU c k).toNat+y.1,y.2)
theorem A9o{c:NI}{L:Nat->List Bk}:∀{k:Nat},(∀i,i<k->(bks (L i)).length<=128)->(zsh c L k).length<=128*k
 | 0,_=>by simp [zsh]
 | k+1,h=>by
  have:=A9o (c:=c) (k:=k) λi hi=>h i (by omega);have:=h k (by omega);simp only [zsh,lap,lmp];omega
theorem vc203(l0:Nat)(c:OA)(w:WD)(K:KV)(h:Q (AW w #[Value.func (Fn.yield l0) #[] #[]] 321 λw'=>Wp c (Rp w' c 0 λx=>gIf (isP x) ((!isNone x)=true) (∃(u:OA) (C D:Nat),((!isNone x)=true->rd w' (pb x) (po x+94)=some (.slice u C D))/\Wif (!(!isNone x&&!isNone u)) (CV [] w'/\∀(w2:WD),AB (λ(b:Nat)=>List.Mem b []) w' w2->w2.heap.size=w'.heap.size->K (.tuple #[]) w2) (AW w' #[vi 0] 3 λB=>Sw B w'.heap.size 0 (vi 0) λo=>Wp c (Rp o c 0 λx=>Wp x (Rs o x 94 λt y E=>∃(I:Int->List Nat->WD->Nat->Prop),(∃(n:Nat),I 0 [] o n)/\∀(n:Int) (ds':List Nat) (d:WD) (z:Nat),I n ds' d z->Wif (decide (n<(↑y:Int))) (Wp t (Wn n y (Rp d t (n.toNat*1) λx=>AW d #[pt x] 118 λa=>∃(xss:List (List Value)),∃(R:NP),∃(g:(NP)->Nat->WD->Prop),∃(X:Nat->(NP)->WD->Prop),(EM prog 247 [AP d.heap.size] xss R a/\(∀(xs:List Value),List.Mem xs xss->List.length xs=1/\∃(n q:Int),xs=[agg #[vi n,vi q]])/\∀(b:Nat),R b->Nat.succ b<=a.heap.size)/\(∀(h:WD),AB AD a h->h.heap.size=a.heap.size+2->g (λ(x:Nat)=>False) 0 h)/\(∀(Y:NP) (i:Nat) (W W':WD),g Y i W->(∀(b:Nat),Y b->a.heap.size+2<=b)->AB (EB a.heap.size Y) W W'->g (λ(b:Nat)=>Y b\/W.heap.size<=b/\Nat.succ b<=W'.heap.size) i W')/\(∀(k:Nat) (Y:NP) (W W':WD),X k Y W->(∀(b:Nat),Y b->a.heap.size+2<=b)->AB (EB a.heap.size Y) W W'->X k (λ(b:Nat)=>Y b\/W.heap.size<=b/\Nat.succ b<=W'.heap.size) W')/\(∀(Y:NP) (i:Nat) (W:WD),g Y i W->(∀(b:Nat),Y b->a.heap.size+2<=b)->a.heap.size+2<=W.heap.size->∀(n q:Int),xss[i]? = some [agg #[vi n,vi q]]->AW W #[vi 0,vi 0] 141 λf=>(wr f W.heap.size 0/\wr f W.heap.size 1)/\St (st f W.heap.size 0 (vi n)) W.heap.size 1 (vi q) λp=>CA a.heap.size W p/\∀(w2:WD),AB (λ(b:Nat)=>b=a.heap.size+1) p w2->w2.heap.size=p.heap.size->RI w2 W.heap.size 0 λx=>RI w2 w'.heap.size 0 λj=>Sw w2 W.heap.size 0 (vi (wrap .i64 (x+j))) λw'=>RV w' w.heap.size 0 λx=>∃(s A:Int),(rd w' W.heap.size 0=some (.int .i64 s)/\rd w' W.heap.size 1=some (.int .i64 A))/\∃(l:Nat),x=Value.func (Fn.yield l) #[] #[]/\EW prog l [agg #[vi s,vi A]] w' λ(r:Ending) (w':WD)=>∃(b:Bool),r=rT (bool b)/\Wif (!b) (CA a.heap.size w2 w'/\DL (λ(b:Nat)=>Y b\/R b) W w'/\X 1 Y w') (CA a.heap.size w2 w'/\DL (λ(b:Nat)=>Y b\/R b) W w'/\g Y (i+1) w'))/\(∀(Y:NP) (W:WD),g Y (List.length xss) W->DV a.heap.size W->Dr W λh=>RI h w'.heap.size 0 λx=>Wp c (Rp h c 0 λj=>Wp j (Wn n 8 (RI h (pb j) (po j+18+n.toNat*1) λs=>Sw h w'.heap.size 0 (vi (wrap .i64 (x+s))) λf=>Lt z λm=>I (wrap .i64 (n+1)) (a.heap.size::ds') f m))))/\(∀(Y:NP) (W:WD),X 0 Y W->DV a.heap.size W->CV (a.heap.size::ds') W/\∀(w2:WD),AB (λ(b:Nat)=>List.Mem b (a.heap.size::ds')) W w2->w2.heap.size=W.heap.size->K (.tuple #[]) w2)/\∀(Y:NP) (W:WD),X 1 Y W->DV a.heap.size W->CV (a.heap.size::ds') W/\∀(w2:WD),AB (λ(b:Nat)=>List.Mem b (a.heap.size::ds')) W w2->w2.heap.size=W.heap.size->K (.tuple #[]) w2))) (CV ds' d/\∀(w2:WD),AB (λ(b:Nat)=>List.Mem b ds') d w2->w2.heap.size=d.heap.size->K (.tuple #[]) w2)))))))):Ret 203 #[Value.func (Fn.yield l0) #[] #[],pt c] w K:=vcA L15 2 [3000028] func203 h
section
variable {w w':WD}
theorem A1h{cs:List Value}(e:w'.heap=w.heap)(h:AX w b cs):AX w' b cs:=by
 obtain⟨t,h⟩:=h;exact⟨t,by rw [e];exact h⟩
theorem A6k{es:List (Int×Value)}(e:w'.heap=w.heap)(h:BJ w b es):BJ w' b es:=by
 obtain⟨a,c,h1,h2⟩:=h.ex;exact⟨⟨⟨a,c,by rw [e];exact h1,h2⟩,h.nd⟩,h.rg⟩
theorem B6k{t:Nat}{m:Nat->Nat}{s:Bst}(e:w'.heap=w.heap)(h:BAt w b m t s):BAt w' b m t s:=
 ⟨A1h e h.so,λo ho=>A6k e (h.mf o ho),A6k e h.mt,h.dm,h.dt,h.db⟩
theorem B3z{S:Zs}(e:w'.heap=w.heap)(h:ZAt w z S L):ZAt w' z S L:=by
 obtain⟨cs,h1,h2⟩:=h.sg;exact⟨A1h e h.so,⟨cs,A1h e h1,h2⟩,λi hi=>B6k e (h.bt i hi),h.iv,h.ap,h.zb,h.kc,h.my⟩
theorem C0a{S:Zs}(h:ZAt w z S L)(k:DL Y w w')(hy:∀x,S.all z x->Y x):ZAt w' z S L:=by
 have k2:AB (λb=>¬Y b) w {w with heap:=w'.heap}:=⟨rfl,rfl,rfl,k.sz,λb _ hn=>k.blk b (Classical.not_not.1 hn)⟩;exact B3z (w:={w with heap:=w'.heap}) rfl (h.kx k2 λx hx ha=>hx (hy x ha))
theorem C4p{o:Nat}{v:Value}(h:rd w b o=some v)(k:DL Y w w')(hy:Y b):rd w' b o=some v:=by
 rw [FG] at h ⊢;rw [k.blk b hy];exact h
theorem B9c{ds:List Nat}(h:CV ds w)(k:DL Y w w')(hy:∀D∈ds,Y D):CV ds w':=⟨h.nd,λD hD=>(k.blk D (hy D hD)).trans (h.all D hD)⟩
end
structure ZCm(c z:Nat)(S:Zs)(L:Nat->List Bk)(l p0:Nat)(dl:List Nat)(f:Int)(Y:NP)(W:WD):Prop where
 rng:∀b,Y b->p0<=b/\b<W.heap.size
 oy:AX W p0 [.func (.yield l) #[] #[]]
 of:AX W (p0+1) [.int .i64 f]
 y0:Y p0
 y1:Y (p0+1)
 rc:rd W c 0=some (AP z)
 za:ZAt W z S L
 cl:c<p0
 al:∀x,S.all z x->x<p0
 df:CV dl W
 dy:∀D∈dl,Y D/\p0+2<=D
def MH(Y:NP)(W W':WD):NP:=λb=>Y b\/(W.heap.size<=b/\b<W'.heap.size)
section
variable {c z l p0:Nat}{S:Zs}{L:Nat->List Bk}{dl:List Nat}{f:Int}{Y:NP}{W W':WD}
theorem ZCm.kx(h:ZCm c z S L l p0 dl f Y W)(k:AB X W W')(hx:∀x,X x->p0+2<=x/\x∉dl):ZCm c z S L l p0 dl f (MH Y W W') W':=by
 have hs:=k.sz;have h1:=h.of.lt;refine⟨λb hb=>?_,h.oy.kx k λe=>by have:=(hx _ e).1;omega,h.of.kx k λe=>by have:=(hx _ e).1;omega,.inl h.y0,.inl h.y1,?_,h.za.kx k λx e ha=>by have:=(hx _ e).1;have:=h.al x ha;omega,h.cl,h.al,⟨h.df.nd,λD hD=>(k.blk D (h.rng D (h.dy D hD).1).2 λe=>(hx D e).2 hD).trans (h.df.all D hD)⟩,λD hD=>⟨.inl (h.dy D hD).1,(h.dy D hD).2⟩⟩
 .rcases hb with hb|hb
  .have:=h.rng b hb;omega
  .omega
 .exact k.AV h.rc λe=>by have:=(hx _ e).1;have:=h.cl;omega
theorem ZCm.ky(h:ZCm c z S L l p0 dl f Y W)(k:DL (λb=>Y b\/(b=c\/S.all z b)) W W'):ZCm c z S L l p0 dl f Y W':=by
 have hs:=k.sz;exact⟨λb hb=>by have:=h.rng b hb;omega,DL.AX k (.inl h.y0) h.oy,DL.AX k (.inl h.y1) h.of,h.y0,h.y1,C4p h.rc k (.inr (.inl rfl)),C0a h.za k λx hx=>.inr (.inr hx),h.cl,h.al,B9c h.df k λD hD=>.inl (h.dy D hD).1,h.dy⟩
end
def zxs(S:Zs)(L:Nat->List Bk):List (List Value):=(zsh S.c L S.k).map λy=>[agg #[.int .i64 (y.1:Int),.int .i64 (y.2:Int)]]
theorem A9n{c:NI}{L:Nat->List Bk}:∀{k q i:Nat},q<k->i<(bks (L q)).length->(zsh c L k)[(zsh c L q).length+i]? = ((bks (L q))[i]?).map λy=>((AU c q).toNat+y.1,y.2)
 | 0,q,i,hq,_=>absurd hq (nlz _)
 | k+1,q,i,hq,hi=>by
  have e0:zsh c L (k+1)=zsh c L k++(bks (L k)).map λy=>((AU c k).toNat+y.1,y.2):=rfl;rw [e0];by_cases e:q=k
  .subst e;rw [gar (by omega)];rw [show(zsh c L q).length+i-(zsh c L q).length=i by omega,gmp]
  .have ih:=A9n (c:=c) (L:=L) (k:=k) (q:=q) (i:=i) (by omega) hi;have hlt:(zsh c L q).length+i<(zsh c L k).length:=by
    have:(((bks (L q))[i]?).map λy=>((AU c q).toNat+y.1,y.2))≠none:=by
     rw [geg hi];simp
    rw [<- ih] at this;rcases Nat.lt_or_ge ((zsh c L q).length+i) (zsh c L k).length with h|h
    .exact h
    .exact absurd (gen h) this
   rw [gal hlt];exact ih
theorem A02{w:WD}{c:Nat}{S:Zs}(h:ZAt w z S L)(hc:rd w c 0=some (AP z))(hcl:c<w.heap.size) :
 EM prog 203 [.pointer (some ⟨c,0,none⟩)] (zxs S L) (λx=>x=c\/S.all z x) w:=by
 refine⟨λl J Jx W hk hab habx hY h0=>?_⟩;refine(vc203 l (some ⟨c,0,none⟩) W (λv w'=>(∃Y,J Y (zxs S L).length w')\/∃Y,Jx Y w') ?_).AE ?_
 rotate_left
 .rintro e w' ⟨v,rfl,hw⟩;exact⟨⟨v,rfl⟩,hw⟩
 have hW:=h.k hk;have hks:=hk.sz;have h8:=h.k8;unfold Q;intro w1 e1;have oy1:=AG (c:=[.func (.yield l) #[] #[]]) e1;have k1:=kal e1;have s1:w1.heap.size=W.heap.size+1:=by rw [e1];simp only [World.alloc,Array.size_push]
 have hc1:rd w1 c 0=some (AP z):=(hk.tr k1).AV hc id;have hz1:=hW.k k1;simp only [Ri,Rp,Rs,Wp,Wn,isP_some,Wif_true,gIf_true,pb_some,po_some,za];refine⟨_,hc1,?_⟩;simp only [Ri,Rp,Rs,Wp,Wn,isP_some,Wif_true,gIf_true,pb_some,po_some,za];refine⟨_,_,_,λ_=>hz1.r94,AL rfl (λw2 e2=>?_)⟩;have of2:=AG (c:=[.int .i64 0]) e2;have k12:=kal e2;have s2:w2.heap.size=W.heap.size+2:=by rw [e2];simp only [World.alloc,Array.size_push];omega
 rw [s1] at of2;rw [s1];refine⟨of2.wr (by simp),λw3 e3=>?_⟩;have of3:=of2.s1 e3;have k23:AB (·=W.heap.size+1) w2 w3:=kr.s1 e3 (.inl rfl);have K3:AB AD W w3:=BO (k1.tr k12) k23 λx hx=>by omega
 have oy3:=(oy1.k k12).kx k23 (by omega);have s3:w3.heap.size=W.heap.size+2:=by rw [e3];simp [s2]
 have hz3:=hW.k K3;have hc3:rd w3 c 0=some (AP z):=(hk.tr K3).AV hc id;have hJ3:=hab _ _ _ _ h0 K3.toY;have hall:∀x,S.all z x->x<W.heap.size:=λx hx=>hW.lt hx;clear e1 e2 e3
 try dsimp only
 generalize hp0:W.heap.size=p0 at *;refine⟨_,hc3,?_⟩;simp only [Ri,Rp,Rs,Wp,Wn,isP_some,Wif_true,gIf_true,pb_some,po_some,za];refine⟨_,_,_,hz3.r94,?_⟩;refine⟨λk ds w' M=>∃(q:Nat) (Y:NP),k=(q:Int)/\q<=S.k/\M=S.k-q/\J Y (zsh S.c L q).length w'/\ZCm c z S L l p0 ds (AU S.c q) Y w',
  ⟨S.k,0,_,rfl,by omega,rfl,hJ3,⟨λb hb=>?_,oy3,of3,.inr (by omega),.inr (by omega),hc3,hz3,by omega,hall,⟨List.nodup_nil,λD hD=>by cases hD⟩,λD hD=>by cases hD⟩⟩,?_⟩
 .rcases hb with hb|hb
  .exact hb.elim
  .omega
 clear hJ3 oy3 of3 hc3 hz3 K3 of2 oy1 k1 k12 k23 hc1 hz1;rintro _ ds w4 _ ⟨q,Y4,rfl,hq,rfl,hJ4,C4⟩;have hlenz:(zxs S L).length=(zsh S.c L S.k).length:=by unfold zxs;simp
 simp only [Ri,Rp,Rs,Wp,Wn,isP_some,Wif_true,gIf_true,pb_some,po_some,za];refine AH (λhc4=>?_) (λhc4=>?_)
 rotate_left
 .have:q=S.k:=by simp at hc4;omega
  subst this;refine⟨C4.df,λw5 k5 _=>.inl ⟨MH Y4 w4 w5,?_⟩⟩;rw [hlenz];exact hab _ _ _ _ hJ4 (k5.AE λb _ hb=>(C4.dy b hb).1)
 have hqk:q<S.k:=by simp at hc4;omega
 have eB:inB (q:Int) S.k=true:=DZ;have hvq:=h.iv q hqk;have hfst:=SA h (i:=q) (by omega);have hfst1:=SA h (i:=q+1) (by omega);have hn:=B8n h hqk;have hrg:=C4.za.rg hqk;simp only [eB,Wif_true];rw [za] at hrg;refine⟨_,hrg,λw5 e5=>?_⟩;have oc5:=AG (c:=[AP (S.B q)]) e5;have k45:=kal e5;have s5:w5.heap.size=w4.heap.size+1:=by rw [e5];simp only [World.alloc,Array.size_push]
 have C5:=C4.kx k45 λx hx=>hx.elim;have hJ5:J (MH Y4 w4 w5) (zsh S.c L q).length w5:=hab _ _ _ _ hJ4 k45.toY;have hp4:p0+2<=w4.heap.size:=by have:=C4.of.lt;omega
 clear e5
 try dsimp only
 generalize hB:w5.heap.size=B at *
 let In:(NP)->(NP)->WD->Prop:=λY1 Y W'=>(∀b,Y1 b->Y b)/\Y B/\Y (B+1)/\ZCm c z S L l p0 ds (AU S.c q) Y W'
 have hdsB:∀D∈ds,D<B:=λD hD=>by have:=(C4.rng D (C4.dy D hD).1).2;omega
 have inK:∀{Y1 Y:NP}{W1 W2:WD},In Y1 Y W1->(∀b,Y1 b->B+2<=b)->AB (EB B Y1) W1 W2->In (MH Y1 W1 W2) (MH Y W1 W2) W2/\AB Y W1 W2:=by
  rintro Y1 Y W1 W2 ⟨i1,i2,i3,i4⟩ hy1 k;refine⟨⟨λb hb=>?_,.inl i2,.inl i3,i4.kx k λx hx=>?_⟩,k.AE λb _ hb=>?_⟩
  .rcases hb with hb|hb
   .exact .inl (i1 b hb)
   .exact .inr hb
  .rcases hx with rfl|rfl|hx
   .exact⟨by omega,λhm=>by have:=hdsB _ hm;omega⟩
   .exact⟨by omega,λhm=>by have:=hdsB _ hm;omega⟩
   .have:=hy1 x hx;exact⟨by omega,λhm=>by have:=hdsB _ hm;omega⟩
  .rcases hb with rfl|rfl|hb
   .exact i2
   .exact i3
   .exact i1 b hb
 have hbl:(bks (L q)).length=(frB (L q)).length:=B3m _;refine⟨(frB (L q)).map λx=>[B9l x],λ_=>False,λY1 i W'=>i<=(frB (L q)).length/\∃Y,In Y1 Y W'/\J Y ((zsh S.c L q).length+i) W',λk Y1 W'=>k=1/\∃Y,In Y1 Y W'/\Jx Y W',
  ⟨A33 (B0d (L q)) (C5.za.bt q hqk) hvq (by rw [oc5.rd];rfl),λxs hx=>?_,λb h=>h.elim⟩,λw6 k56 s6=>?_,?_,?_,?_,?_,?_,?_⟩
 .obtain⟨x,_,rfl⟩:=List.mem_map.1 hx;exact⟨rfl,_,_,rfl⟩
 .have C6:=C5.kx k56 λx hx=>hx.elim;have hJ6:J (MH (MH Y4 w4 w5) w5 w6) (zsh S.c L q).length w6:=hab _ _ _ _ hJ5 k56.toY;exact⟨by omega,_,⟨λb hb=>hb.elim,.inr (by omega),.inr (by omega),C6⟩,by rw [Nat.add_zero];exact hJ6⟩
 .rintro Y1 i W1 W2 ⟨hi,Y,hin,hJ⟩ hy1 k;obtain⟨a1,a2⟩:=inK hin hy1 k;exact⟨hi,_,a1,hab _ _ _ _ hJ a2⟩
 .rintro k Y1 W1 W2 ⟨rfl,Y,hin,hJ⟩ hy1 kk;obtain⟨a1,a2⟩:=inK hin hy1 kk;exact⟨rfl,_,a1,habx _ _ _ hJ a2⟩
 .rintro Y1 i W1 ⟨hi,Y,⟨i1,i2,i3,i4⟩,hJ⟩ hy1 hsz p o hv w6 e6;obtain⟨x,hxx,hpo⟩:∃x,(frB (L q))[i]? = some x/\[B9l x]=[agg #[.int .i64 p,.int .i64 o]]:=by
   rw [gmp] at hv
   cases hh:(frB (L q))[i]? with
   | none=>rw [hh] at hv;cases hv
   | some x=>rw [hh] at hv;exact⟨x,rfl,Option.some.inj hv⟩
  simp [B9l] at hpo;obtain⟨rfl,rfl⟩:=hpo;have hil:=(DC.1 hxx).1;have hbi:(bks (L q))[i]? = some (x.p,x.o):=by unfold bks;rw [gmp,hxx];rfl
  have hxp:x.p<S.n q:=by
   have hm:x∈frB (L q):=List.mem_iff_getElem?.2 ⟨i,hxx⟩;have:=BI hvq.tl (List.mem_filter.1 hm).1;have:=p2 x.o;omega
  have o6:=AG (c:=[.int .i64 0,.int .i64 0]) e6;have k6:=kal e6;have s6:w6.heap.size=W1.heap.size+1:=by rw [e6];simp only [World.alloc,Array.size_push]
  refine⟨⟨o6.wr (by simp),o6.wr (by simp)⟩,λw7 e7=>?_⟩;have o7:AX w7 W1.heap.size [.int .i64 (x.p:Int),.int .i64 (x.o:Int)]:=o6.s2 e7;have k7:AB AD W1 w7:=BO k6 ((AB.refl (·=W1.heap.size) _).s2 e7 (.inl rfl)) λx hx=>by omega
  have s7:=k7.sz;have l7:=o7.lt;refine⟨DY k7 (by omega) id id,λw8 k78 s8=>?_⟩;have o8:=o7.kx k78 (by omega);have kW8:AB (·=B+1) W1 w8:=(k7.AE λ_ _ h=>h.elim).trans k78 λ_ _ h=>h;have C8:=i4.kx kW8 λy hy=>by subst hy;exact⟨by omega,λhm=>by have:=hdsB _ hm;omega⟩
  refine⟨_,by rw [o8.rd];rfl,AU S.c q,by rw [C8.of.rd];rfl,o8.wr (by simp),λw9 e9=>?_⟩;have exf:wrap .i64 ((x.p:Int)+AU S.c q)=(((AU S.c q).toNat+x.p:Nat):Int):=by rw [wi (by omega)];omega
  rw [exf] at e9;have o9:=o8.s1 e9;have k89:AB (·=W1.heap.size) w8 w9:=kr.s1 e9 (.inl rfl);have kW9:AB (λb=>b=B+1\/b=W1.heap.size) W1 w9:=(kW8.AE λ_ _ h=>.inl h).trans k89 λ_ _ h=>.inr h;have kY9:AB Y W1 w9:=kW9.AE λb hb hh=>by
   rcases hh with rfl|rfl
   .exact i3
   .omega
  have C9:=i4.kx kW9 λy hy=>by rcases hy with rfl|rfl <;> exact⟨by omega,λhm=>by have:=hdsB _ hm;omega⟩
  have hJ9:=hab _ _ _ _ hJ kY9;have s9:=kW9.sz;refine⟨_,by rw [C9.oy.rd];rfl,_,_,⟨by rw [o9.rd];rfl,by rw [o9.rd];rfl⟩,l,rfl,?_⟩;have hxs:(zxs S L)[(zsh S.c L q).length+i]? = some [agg #[.int .i64 (((AU S.c q).toNat+x.p:Nat):Int),.int .i64 (x.o:Int)]]:=by
   unfold zxs;rw [gmp,A9n hqk (by omega),hbi]
   rfl
  have hy:=hY _ _ _ w9 hxs hJ9;obtain⟨fn,tm,asg',bo,hrun,hR⟩:=hy.run;refine⟨fn,tm,asg',bo,hrun,hR.mono ?_⟩;rintro en w10 ⟨ky,hres⟩;have C10:=C9.ky ky;have hYs:∀b,Y b->MH Y W1 w9 b:=λb hb=>.inl hb;have rk:CA B w8 w10:=by
   have r1:CA B w8 w9:=DY k89 (by have:=kW8.sz;omega) (by omega) (by omega);have b0:=ky.blk B (.inl (hYs _ i2));have b1:=ky.blk (B+1) (.inl (hYs _ i3));exact⟨by have:=r1.sz;have:=ky.sz;omega,b0.trans r1.d,b1.trans r1.l⟩
  have kyW:DL (λb=>Y1 b\/False) W1 w10:=by
   refine⟨by have:=ky.sz;omega,λb hb=>?_⟩;rcases hb with hb|hb
   .have hb2:=hy1 b hb;have hb3:=(i4.rng b (i1 b hb)).2;exact(ky.blk b (.inl (hYs _ (i1 b hb)))).trans (kW9.blk b hb3 (by omega))
   .exact hb.elim
  have hin:In Y1 (MH Y W1 w9) w10:=⟨λb hb=>.inl (i1 b hb),.inl i2,.inl i3,C10⟩;rcases hres with⟨rfl,hJ10⟩|⟨rfl,hJ10⟩
  .exact⟨true,rfl,AL rfl ⟨rk,kyW,by omega,_,hin,by rw [<- Nat.add_assoc];exact hJ10⟩⟩
  .exact⟨false,rfl,AA rfl ⟨rk,kyW,rfl,_,hin,hJ10⟩⟩
 .rintro Y1 W1 ⟨_,Y,⟨i1,i2,i3,i4⟩,hJ⟩ hd w6 e6;have k6:=kdr e6;have C6:=i4.kx k6 λx hx=>hx.elim;have hJ6:=hab _ _ _ _ hJ k6.toY;have hd6:=hd.k k6 id;have sB:=(FK.1 hd.at_).1;refine⟨_,by rw [C6.of.rd];rfl,?_⟩;refine⟨_,C6.rc,?_⟩;simp only [Ri,Rp,Rs,Wp,Wn,isP_some,Wif_true,gIf_true,pb_some,po_some,za];refine Wi ⟨S.c (18+q),by rw [tnc,mo];exact C6.za.r (by omega),C6.of.wr (by simp),λw7 e7=>?_⟩;have ef:wrap .i64 (AU S.c q+S.c (18+q))=AU S.c (q+1):=by
   have:AU S.c (q+1)=AU S.c q+S.c (18+q):=rfl;rw [<- this,wi (by omega)]
  rw [ef] at e7;have k67:AB (·=p0+1) w6 w7:=kr.s1 e7 (.inl rfl);have of7:=C6.of.s1 e7;have s6:=k6.sz;have s7:w7.heap.size=w6.heap.size:=by rw [e7];simp
  have hJ7:=hab _ _ _ _ hJ6 (k67.AE λb _ hb=>by subst hb;exact C6.y1);have hd7:=hd6.k k67 (by omega);have hl:(zsh S.c L q).length+((frB (L q)).map λx=>[B9l x]).length=(zsh S.c L (q+1)).length:=by
   simp [zsh,hbl]
  rw [hl] at hJ7;have eY:MH (MH Y W1 w6) w6 w7=MH Y W1 w6:=by
   funext b;simp only [MH,eq_iff_iff];constructor
   .rintro (hb|hb)
    .exact hb
    .omega
   .exact .inl
  have hJ7':J (MH Y W1 w6) (zsh S.c L (q+1)).length w7:=by rw [<- eY];exact hJ7
  refine⟨S.k-(q+1),by omega,q+1,MH Y W1 w6,wzz,by omega,rfl,hJ7',⟨λb hb=>by have:=C6.rng b hb;omega,C6.oy.kx k67 (by omega),of7,C6.y0,C6.y1,k67.AV C6.rc (by have:=C6.cl;omega),C6.za.kx k67 λx hx ha=>by have:=C6.al x ha;omega,C6.cl,C6.al,⟨List.nodup_cons.2 ⟨λhm=>by have:=hdsB _ hm;omega,C6.df.nd⟩,λD hD=>?_⟩,λD hD=>?_⟩⟩
  .rcases List.mem_cons.1 hD with rfl|hD
   .exact hd7.at_
   .exact(k67.blk D (C6.rng D (C6.dy D hD).1).2 (by have:=(C6.dy D hD).2;omega)).trans (C6.df.all D hD)
  .rcases List.mem_cons.1 hD with rfl|hD
   .exact⟨.inl i2,by omega⟩
   .exact C6.dy D hD
 .rintro Y1 W1 ⟨h1,_⟩ _
  cases h1
 .rintro Y1 W1 ⟨_,Y,⟨i1,i2,i3,i4⟩,hJ⟩ hd;have hds:CV (B::ds) W1:=⟨List.nodup_cons.2 ⟨λhm=>by have:=hdsB _ hm;omega,i4.df.nd⟩,λD hD=>by
   rcases List.mem_cons.1 hD with rfl|hD
   .exact hd.at_
   .exact i4.df.all D hD⟩
  refine⟨hds,λw6 k6 _=>.inr ⟨_,habx _ _ _ hJ (k6.AE λb _ hb=>?_)⟩⟩;have hb':b∈B::ds:=hb;rcases List.mem_cons.1 hb' with rfl|hb'
  .exact i2
  .exact(i4.dy b hb').1
