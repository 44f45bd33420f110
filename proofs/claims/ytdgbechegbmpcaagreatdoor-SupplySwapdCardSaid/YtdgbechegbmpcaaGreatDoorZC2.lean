/- Part of a proof that a law returns true. Conditions: those in each theorem. -/
import Derived.Test.YtdgbechegbmpcaaGreatDoorB0
import Derived.Maps.Range
import Derived.Shelf.SlIterI.Nil
import Derived.Maps.Keyed
import Derived.Test.YtdgbechegbmpcaaGreatDoorEngU
set_option linter.unusedSimpArgs false
set_option linter.unusedVariables false
set_option maxRecDepth 100000
namespace Go.Proofs.YtdgbechegbmpcaaGreatDoor
open Go Go.Eng Go.Proofs.Tryz
def seg(P:Nat->Bool):Nat->Nat->Bool
 | _,0=>true
 | i,n+1=>P i&&seg P (i+1) n
theorem seg_iff{P:Nat->Bool}:∀{i n:Nat},seg P i n=true↔∀j,j<n->P (i+j)=true
 | i,0=>⟨fun _ j h=>absurd h (nlz _),fun _=>rfl⟩
 | i,n+1=>by
  simp only [seg,Bool.and_eq_true];rw [seg_iff];constructor
  ·rintro ⟨h0,h⟩ j hj
   cases j with
   | zero=>exact h0
   | succ j=>rw [show i+(j+1)=i+1+j by omega];exact h j (by omega)
  ·intro h;exact⟨h 0 (by omega),fun j hj=>by rw [show i+1+j=i+(j+1) by omega];exact h (j+1) (by omega)⟩
def QI(P:Nat->Bool):Bool:=P 0&&(P 1&&(P 2&&(P 3&&(P 4&&(P 5&&(P 6&&(P 7&&(P 8&&(P 9&&(P 10&&(P 11&&(P 12&&(P 13&&(P 14&&(P 15&&(P 16&&(P 17&&true)))))))))))))))&&(P 18&&(P 19&&(P 20&&(P 21&&(P 22&&(P 23&&(P 24&&(P 25&&true)))))))&&(P 26&&(P 27&&(P 28&&(P 29&&(P 30&&(P 31&&(P 32&&(P 33&&true)))))))&&(P 34&&(P 35&&(P 36&&(P 37&&(P 38&&(P 39&&(P 40&&(P 41&&true)))))))&&(P 42&&(P 43&&(P 44&&(P 45&&(P 46&&(P 47&&(P 48&&(P 49&&true)))))))&&(P 50&&(P 51&&(P 52&&(P 53&&(P 54&&(P 55&&(P 56&&(P 57&&true)))))))&&(P 58&&(P 59&&(P 60&&(P 61&&(P 62&&(P 63&&(P 64&&(P 65&&true)))))))&&(P 66&&(P 67&&(P 68&&(P 69&&(P 70&&(P 71&&(P 72&&(P 73&&true)))))))&&(P 74&&(P 75&&(P 76&&(P 77&&(P 78&&(P 79&&(P 80&&(P 81&&true)))))))&&(P 82&&(P 83&&(P 84&&(P 85&&(P 86&&(P 87&&(P 88&&(P 89&&true)))))))&&true)))))))&&(P 90&&(P 91&&(P 92&&(P 93&&true))))))))
theorem chain94_eq(P:Nat->Bool):QI P=(P 0&&(P 1&&(seg P 2 16&&(seg P 18 8&&((seg P 26 8&&(seg P 34 8&&(seg P 42 8&&(seg P 50 8&&(seg P 58 8&&(seg P 66 8&&(seg P 74 8&&(seg P 82 8&&true))))))))&&seg P 90 4))))):=rfl
theorem PR(P:Nat->Bool):QI P=true↔∀i,i<94->P i=true:=by
 rw [chain94_eq];simp only [Bool.and_eq_true,seg_iff];constructor
 ·rintro ⟨h0,h1,h2,h3,⟨h4,h5,h6,h7,h8,h9,h10,h11,-⟩,h12⟩ i hi;have go:∀o n,(∀j,j<n->P (o+j)=true)->o<=i->i<o+n->P i=true:=fun o n h ho hn=>by
   have:=h (i-o) (by omega);rw [show o+(i-o)=i by omega] at this;exact this
  by_cases e0:i=0
  ·subst e0;exact h0
  by_cases e1:i=1
  ·subst e1;exact h1
  by_cases e2:i<18
  ·exact go _ _ h2 (by omega) (by omega)
  by_cases e3:i<26
  ·exact go _ _ h3 (by omega) (by omega)
  by_cases e4:i<34
  ·exact go _ _ h4 (by omega) (by omega)
  by_cases e5:i<42
  ·exact go _ _ h5 (by omega) (by omega)
  by_cases e6:i<50
  ·exact go _ _ h6 (by omega) (by omega)
  by_cases e7:i<58
  ·exact go _ _ h7 (by omega) (by omega)
  by_cases e8:i<66
  ·exact go _ _ h8 (by omega) (by omega)
  by_cases e9:i<74
  ·exact go _ _ h9 (by omega) (by omega)
  by_cases e10:i<82
  ·exact go _ _ h10 (by omega) (by omega)
  by_cases e11:i<90
  ·exact go _ _ h11 (by omega) (by omega)
  ·exact go _ _ h12 (by omega) (by omega)
 ·intro h;exact⟨h 0 (by omega),h 1 (by omega),fun j hj=>h _ (by omega),fun j hj=>h _ (by omega),⟨fun j hj=>h _ (by omega),fun j hj=>h _ (by omega),fun j hj=>h _ (by omega),fun j hj=>h _ (by omega),fun j hj=>h _ (by omega),fun j hj=>h _ (by omega),fun j hj=>h _ (by omega),fun j hj=>h _ (by omega),trivial⟩,fun j hj=>h _ (by omega)⟩
def dst(c:Nat->Int)(i k:Nat):Int:=c (26+i*8+k)
def nearO(c:Nat->Int)(i k:Nat):Prop:=(dst c i k=0↔i=k)/\(0<=dst c i k/\dst c i k<=255)/\dst c i k=dst c k i
def NearP(c:Nat->Int):Prop:=∀i k:Nat,i<(c 0).toNat->k<(c 0).toNat->nearO c i k
theorem near_spec(c:Nat->Int)(w:WD)(h0:0<=c 0/\c 0<=8):Calls prog 171 #[KK c] w fun r w'=>∃b,r=.returned (.bool b)/\(b=true↔NearP c)/\Kept AB w w':=by
 refine(vc171 c w (fun v w'=>∃b,v=.bool b/\(b=true↔NearP c)/\Kept AB w w') ?_).mono ?_
 ·unfold Q;intro w1 e1;have o1:=AD e1;have k1:=kal e1;generalize hb:w.heap.size=b at *;have no:∀w',¬NearP c->Kept AB w w'->∃b,Value.bool false=.bool b/\(b=true↔NearP c)/\Kept AB w w':=fun w' h k=>⟨false,rfl,by simpa using h,k⟩;refine⟨c 0,o1.rI (j:=0) (by omega),?_⟩;refine⟨fun _ k w' N=>∃q:Nat,k=q/\q<=(c 0).toNat/\N=(c 0).toNat-q/\Kept AB w w'/\own w' b (cfg c)/\∀i,i<q->∀k,k<(c 0).toNat->nearO c i k,⟨(c 0).toNat,0,rfl,by omega,rfl,k1,o1,fun i hi=>by omega⟩,?_⟩;rintro _ _ w2 _ ⟨q,rfl,hq,rfl,k2,o2,a2⟩;refine AE (fun hc=>?_) (fun hc=>?_)
  ·simp only [decide_eq_true_eq] at hc;refine⟨c 0,o2.rI (j:=0) (by omega),?_⟩;refine⟨fun _ k w' N=>∃q2:Nat,k=q2/\q2<=(c 0).toNat/\N=(c 0).toNat-q2/\Kept AB w w'/\own w' b (cfg c)/\∀k,k<q2->nearO c q k,⟨(c 0).toNat,0,rfl,by omega,rfl,k2,o2,fun i hi=>by omega⟩,?_⟩;rintro _ _ w3 _ ⟨q2,rfl,hq2,rfl,k3,o3,a3⟩;refine AE (fun hc2=>?_) (fun hc2=>?_)
   ·simp only [decide_eq_true_eq] at hc2;have eB:∀{x y:Prop},Wif (inB (q:Int) 8) x y=x:=by intro x y;rw [DL (by omega) (by omega)];rfl
    have eB2:∀{x y:Prop},Wif (inB (q2:Int) 8) x y=x:=by intro x y;rw [DL (by omega) (by omega)];rfl
    simp only [eB,eB2,tnc];refine⟨dst c q q2,by rw [mo];exact o3.rI (by omega),AE (fun h=>?_) (fun h=>?_)⟩
    ·refine no _ (fun hn=>?_) k3;have:=(hn q q2 (by omega) (by omega)).1;by_cases e:dst c q q2=0
     ·have e':=this.1 e;subst e';simp [e] at h
     ·have e':(q:Int)≠(q2:Int):=fun x=>e (this.2 (by omega));rw [show(dst c q q2==0)=false by simpa using e,show((q:Int)==(q2:Int))=false by simpa using e'] at h
      cases h
    refine AF (fun _=>DL (by omega) (by omega)) (AF (fun _=>DL (by omega) (by omega)) ?_);refine⟨dst c q2 q,fun _=>by rw [mo];exact o3.rI (by omega),AE (fun h2=>?_) (fun h2=>?_)⟩
    ·refine no _ (fun hn=>?_) k3;obtain⟨_,h5,h6⟩:=hn q q2 (by omega) (by omega);rw [<- h6,decide_eq_true (show dst c q q2>=0 from h5.1),decide_eq_true h5.2] at h2;simp at h2
    ·refine⟨(c 0).toNat-(q2+1),by omega,q2+1,wzz,by omega,rfl,k3,o3,fun k hk=>?_⟩;rcases Nat.lt_or_ge k q2 with hlt|hge
     ·exact a3 k hlt
     ·have:k=q2:=by omega
      subst this;simp at h2;refine⟨?_,by omega,h2.2⟩;have hb:((dst c q k==0)==((q:Int)==(k:Int)))=true:=by
       rw [<- Bool.not_eq_false'];exact h
      by_cases e:dst c q k=0
      ·rw [show(dst c q k==0)=true by simpa using e] at hb;have:(q:Int)=(k:Int):=by simpa using hb
       exact⟨fun _=>by omega,fun _=>e⟩
      ·rw [show(dst c q k==0)=false by simpa using e] at hb;have:(q:Int)≠(k:Int):=by simpa using hb
       exact⟨fun h'=>absurd h' e,fun h'=>absurd (congrArg Nat.cast h') this⟩
   ·simp at hc2;refine⟨(c 0).toNat-(q+1),by omega,q+1,wzz,by omega,rfl,k3,o3,fun i hi k hk=>?_⟩;rcases Nat.lt_or_ge i q with hlt|hge
    ·exact a2 i hlt k hk
    ·have:i=q:=by omega
     subst this;exact a3 k (by omega)
  ·simp at hc;exact⟨true,rfl,by simp;exact fun i k hi hk=>a2 i (by omega) k hk,k2⟩
 ·rintro e w' ⟨v,rfl,b,rfl,hw⟩;exact⟨b,rfl,hw⟩
def CW(c:Nat->Int):Prop:=
 (1<=c 0/\c 0<=8)/\(1<=c 1/\c 1<=16)/\(0<=c 90/\c 90<=1024)/\(∀i,i<94->c i=HV c i)/\(∀i,i<(c 1).toNat->0<=c (2+i)/\c (2+i)<=c 0-1)/\
 (∀i,i<(c 0).toNat->(4<=c (18+i)/\c (18+i)<=128)/\c 93<=c (18+i))/\NearP c/\0<=c 91/\c 91<=c 92/\c 92<=c 93
theorem GV(c:Nat->Int)(w:WD):Calls prog 60 #[KK c] w fun r w'=>∃b,r=.returned (.bool b)/\(b=true↔CW c)/\Kept AB w w':=by
 refine(vc60 c w (fun v w'=>∃b,v=.bool b/\(b=true↔CW c)/\Kept AB w w') ?_).mono ?_
 ·unfold Q;intro w1 e1;have o1:=AD e1;have k1:=kal e1;generalize hb:w.heap.size=b at *;intro w2 e2;have o2:=o1.dr e2;have k2:=k1.dr e2;have no:∀w',¬CW c->Kept AB w w'->∃b,Value.bool false=.bool b/\(b=true↔CW c)/\Kept AB w w':=fun w' h k=>⟨false,rfl,by simpa using h,k⟩;refine⟨c 0,o2.rI (by omega),c 1,fun _=>o2.rI (by omega),AE (fun h=>?_) (fun h=>?_)⟩
  ·refine no _ (fun hm=>?_) k2;have:=hm.1;simp at h;omega
  have h0:1<=c 0/\c 0<=8:=by simpa using h
  refine⟨c 90,fun _=>o2.rI (by omega),AE (fun h=>?_) (fun h=>?_)⟩
  ·refine no _ (fun hm=>?_) k2;have:=hm.2.1;simp at h;omega
  have h1:1<=c 1/\c 1<=16:=by simpa using h
  refine⟨c,fun _=>o2.DR,c,fun _=>o2.DR,AE (fun h=>?_) (fun h=>?_)⟩
  ·refine⟨fun _=>⟨o2.DR,trivial⟩,no _ (fun hm=>?_) k2⟩;have:=hm.2.2.1;simp at h;omega
  have h2:0<=c 90/\c 90<=1024:=by simpa using h
  refine(bare_spec c w2 (by omega) (by omega)).mono ?_;rintro _ w3 ⟨rfl,k3⟩;have o3:=o2.k k3;have K3:=k2.tr k3;refine⟨HV c,rfl,fun _=>⟨o3.DR,trivial⟩,AE (fun h=>?_) (fun h=>?_)⟩
  ·refine no _ (fun hm=>?_) K3;have h':(!(QI fun i=>c i==HV c i))=true:=h;rw [(PR _).2 fun i hi=>by simpa using hm.2.2.2.1 i hi] at h'
   cases h'
  have h3:∀i,i<94->c i=HV c i:=by
   have h':(!(QI fun i=>c i==HV c i))=false:=h;rw [Bool.not_eq_false'] at h';intro i hi;simpa using (PR _).1 h' i hi
  clear h;refine⟨c 1,o3.rI (by omega),AA BI ?_⟩;refine⟨fun _ k w' N=>∃q:Nat,k=q/\q<=(c 1).toNat/\N=(c 1).toNat-q/\Kept AB w w'/\own w' b (cfg c)/\∀i,i<q->0<=c (2+i)/\c (2+i)<=c 0-1,⟨(c 1).toNat,0,rfl,by omega,rfl,K3,o3,fun i hi=>by omega⟩,?_⟩;rintro _ _ w4 _ ⟨q,rfl,hq,rfl,k4,o4,a4⟩;refine AE (fun hc=>?_) (fun hc=>?_)
  ·simp only [decide_eq_true_eq] at hc;refine Wi ⟨c (2+q),by rw [tnc,mo];exact o4.rI (by omega),c 0,o4.rI (by omega),AE (fun h=>?_) (fun h=>?_)⟩
   ·refine no _ (fun hm=>?_) k4;have:=hm.2.2.2.2.1 q (by omega);rw [wi (by omega)] at h;simp at h;omega
   ·rw [wi (by omega)] at h;refine⟨(c 1).toNat-(q+1),by omega,q+1,wzz,by omega,rfl,k4,o4,fun i hi=>?_⟩;rcases Nat.lt_or_ge i q with hlt|hge
    ·exact a4 i hlt
    ·have:i=q:=by omega
     subst this;simpa using h
  have hqe:q=(c 1).toNat:=by simp at hc;omega
  subst hqe;refine⟨c 0,o4.rI (by omega),AA BI ?_⟩;refine⟨fun _ k w' N=>∃q:Nat,k=q/\q<=(c 0).toNat/\N=(c 0).toNat-q/\Kept AB w w'/\own w' b (cfg c)/\∀i,i<q->(4<=c (18+i)/\c (18+i)<=128)/\c 93<=c (18+i),⟨(c 0).toNat,0,rfl,by omega,rfl,k4,o4,fun i hi=>by omega⟩,?_⟩;rintro _ _ w5 _ ⟨q,rfl,hq,rfl,k5,o5,a5⟩;refine AE (fun hc=>?_) (fun hc=>?_)
  ·simp only [decide_eq_true_eq] at hc;refine Wi ⟨c (18+q),by rw [tnc,mo];exact o5.rI (by omega),c 93,fun _=>o5.rI (by omega),AE (fun h=>?_) (fun h=>?_)⟩
   ·refine no _ (fun hm=>?_) k5;have:=hm.2.2.2.2.2.1 q (by omega);simp at h;omega
   ·refine⟨(c 0).toNat-(q+1),by omega,q+1,wzz,by omega,rfl,k5,o5,fun i hi=>?_⟩;rcases Nat.lt_or_ge i q with hlt|hge
    ·exact a5 i hlt
    ·have:i=q:=by omega
     subst this;simp at h;omega
  have hqe:q=(c 0).toNat:=by simp at hc;omega
  subst hqe;refine⟨c,o5.DR,(near_spec c w5 (by omega)).mono ?_⟩;rintro _ w6 ⟨nb,rfl,hnb,k6⟩;have o6:=o5.k k6;refine⟨nb,rfl,c 91,fun _=>o6.rI (by omega),c 91,fun _=>o6.rI (by omega),c 92,fun _=>o6.rI (by omega),c 92,fun _=>o6.rI (by omega),c 93,fun _=>o6.rI (by omega),_,rfl,?_,k5.tr k6⟩;simp only [Bool.and_eq_true,decide_eq_true_eq,hnb];constructor
  ·rintro ⟨⟨⟨g1,g2⟩,g3⟩,g4⟩;exact⟨h0,h1,h2,h3,a4,a5,g1,g2,g3,g4⟩
  ·rintro ⟨_,_,_,_,_,_,g1,g2,g3,g4⟩;exact⟨⟨⟨g1,g2⟩,g3⟩,g4⟩
 ·rintro e w' ⟨v,rfl,b,rfl,hw⟩;exact⟨b,rfl,hw⟩
def AN(c:Nat->Int):Nat->Int
 | 0=>0
 | k+1=>AN c k+c (18+k)
theorem CW.fr{c:Nat->Int}(h:CW c){i:Nat}(hi:(i:Int)<c 0):4<=c (18+i)/\c (18+i)<=128:=(h.2.2.2.2.2.1 i (by omega)).1
theorem CW.fst{c:Nat->Int}(h:CW c):∀{k:Nat},(k:Int)<=c 0->0<=AN c k/\AN c k<=128*k
 | 0,_=>by simp [AN]
 | k+1,hk=>by
  have:=h.fst (k:=k) (by omega);have:=h.fr (i:=k) (by omega);unfold AN;omega
theorem fstF_mono {c:Nat->Int} (h:CW c):∀{i k:Nat},i<=k->(k:Int)<=c 0->AN c i<=AN c k
  | i, 0, hi, _ => by have:i=0:=(by omega);subst this;exact Int.le_refl _
  | i,k+1,hi,hk=>by
    rcases Nat.lt_or_ge i (k+1) with hlt|hge
    · have:=fstF_mono h (i:=i) (k:=k) (by omega) (by omega)
      have:=h.fr (i:=k) (by omega);have e:AN c (k+1)=AN c k+c (18+k):=rfl;omega
    · have:i=k+1:=by omega
      subst this;exact Int.le_refl _
theorem LN(c:Nat->Int)(hm:CW c)(w:WD)(i:Nat)(hi:(i:Int)<c 0):Calls prog 92 #[KK c,.int .i64 (i:Int)] w fun r w'=>r=.returned (.tuple #[.int .i64 (AN c i),.int .i64 0])/\Kept AB w w':=by
 refine(vc92 c i w (fun v w'=>v=.tuple #[.int .i64 (AN c i),.int .i64 0]/\Kept AB w w') ?_).mono ?_
 ·have h0:=hm.1;unfold Q;intro w1 e1;have o1:=AD e1;have k1:=kal e1;generalize hb:w.heap.size=b at *;refine⟨c,o1.DR,(GV c w1).mono ?_⟩;rintro _ w2 ⟨mb,rfl,hmb,k2⟩;have:mb=true:=hmb.2 hm;subst this;have o2:=o1.k k2;refine⟨_,rfl,AG rfl ⟨c 0,o2.rI (by omega),AG ?_ (AA BI ?_)⟩⟩
  ·rw [wi (by omega),decide_eq_true (show(i:Int)>=0 by omega),decide_eq_true (show(i:Int)<=c 0-1 by omega)];rfl
  refine⟨fun s k w' N=>∃q:Nat,k=q/\q<=i/\N=i-q/\Kept AB w w'/\own w' b (cfg c)/\s=AN c q,⟨i,0,rfl,by omega,rfl,k1.tr k2,o2,rfl⟩,?_⟩;rintro _ _ w3 _ ⟨q,rfl,hq,rfl,k3,o3,rfl⟩;refine AE (fun hc=>?_) (fun hc=>?_)
  ·simp only [decide_eq_true_eq] at hc;have f1:=hm.fst (k:=q+1) (by omega);refine Wi ⟨c (18+q),by rw [tnc,mo];exact o3.rI (by omega),i-(q+1),by omega,q+1,wzz,by omega,rfl,k3,o3,?_⟩;have e:AN c (q+1)=AN c q+c (18+q):=rfl;rw [<- e,wi (by omega)]
  ·have:q=i:=by simp at hc;omega
   subst this;exact⟨rfl,k3⟩
 ·rintro e w' ⟨v,rfl,rfl,hw⟩;exact⟨rfl,hw⟩
theorem node_spec(c:Nat->Int)(hm:CW c)(w:WD)(fr:Int)(hfr:fr<=9223372036854775807):Calls prog 52 #[KK c,.int .i64 fr] w fun r w'=>Kept AB w w'/\
 ((∃i:Nat,(i:Int)<c 0/\AN c i<=fr/\fr<AN c (i+1)/\r=.returned (.tuple #[.int .i64 (i:Int),.int .i64 0]))\/((fr<0\/AN c (c 0).toNat<=fr)/\r=.returned (.tuple #[.int .i64 0,.int .i64 7]))):=by
 refine(vc52 c fr w (fun v w'=>Kept AB w w'/\((∃i:Nat,(i:Int)<c 0/\AN c i<=fr/\fr<AN c (i+1)/\v=(.tuple #[.int .i64 (i:Int),.int .i64 0]))\/((fr<0\/AN c (c 0).toNat<=fr)/\v=(.tuple #[.int .i64 0,.int .i64 7])))) ?_).mono ?_
 ·have h0:=hm.1;unfold Q;intro w1 e1;have o1:=AD e1;have k1:=kal e1;generalize hb:w.heap.size=b at *;refine⟨c,o1.DR,(GV c w1).mono ?_⟩;rintro _ w2 ⟨mb,rfl,hmb,k2⟩;have:mb=true:=hmb.2 hm;subst this;have o2:=o1.k k2;refine⟨_,rfl,AG rfl ?_⟩;refine⟨fun s _ _ k w' N=>∃q:Nat,k=q/\(q:Int)<=c 0/\N=(c 0).toNat-q/\Kept AB w w'/\own w' b (cfg c)/\s=fr-AN c q/\(q=0\/0<=s),⟨(c 0).toNat,0,rfl,by omega,by omega,k1.tr k2,o2,by simp [AN],.inl rfl⟩,?_⟩;rintro _ _ _ _ w3 _ ⟨q,rfl,hq,rfl,k3,o3,rfl,hs⟩;have f0:=hm.fst (k:=q) (by omega);refine⟨c 0,fun _=>o3.rI (by omega),AE (fun hc=>?_) (fun hc=>?_)⟩
  ·simp only [Bool.and_eq_true,decide_eq_true_eq] at hc;have f1:=hm.fst (k:=q+1) (by omega);have f2:=hm.fr (i:=q) (by omega);have e:AN c (q+1)=AN c q+c (18+q):=rfl;have hrd:rd w3 b (18+Int.toNat (q:Int)*1)=some (.int .i64 (c (18+q))):=by rw [tnc,mo];exact o3.rI (by omega)
   refine Wi ⟨c (18+q),hrd,AE (fun h=>?_) (fun h=>?_)⟩
   ·simp only [decide_eq_true_eq] at h;exact⟨k3,.inl ⟨q,hc.2,by omega,by omega,rfl⟩⟩
   ·simp only [decide_eq_false_iff_not] at h;refine Wi ⟨c (18+q),hrd,(c 0).toNat-(q+1),by omega,q+1,wzz,by omega,rfl,k3,o3,?_,.inr ?_⟩
    ·rw [wi (by omega)];omega
    ·rw [wi (by omega)];omega
  ·refine⟨k3,.inr ⟨?_,rfl⟩⟩;rcases hs with rfl|hs
   ·simp [AN] at hc;rcases Int.lt_or_le fr 0 with h|h
    ·exact .inl h
    ·have:=hc h;omega
   ·right;rw [decide_eq_true (show fr-AN c q>=0 from hs)] at hc;simp at hc;have:q=(c 0).toNat:=by omega
    subst this;omega
 ·rintro e w' ⟨v,rfl,hk,hw⟩;refine⟨hk,?_⟩;rcases hw with⟨i,h1,h2,h3,rfl⟩|⟨h1,rfl⟩
  ·exact .inl ⟨i,h1,h2,h3,rfl⟩
  ·exact .inr ⟨h1,rfl⟩
end Go.Proofs.YtdgbechegbmpcaaGreatDoor
namespace Go.Proofs.YtdgbechegbmpcaaGreatDoor
open Go Go.Eng Go.Proofs.Tryz
open Go.Value (bool func)
open Option (isNone)
open Go.IntKind (wrap)
theorem vc62(c0:Nat->Int)(w:WD)(K:KV)(h:Q (AW w (List.toArray (AK .i64 c0 0 94)) 26 fun w'=>∃(x:Nat->Int),AS w' w.heap.size 0 (AK .i64 x 0 94)/\CB 60 #[Value.agg (List.toArray (AK .i64 x 0 94))] w' fun b w'=>Wif (!b) (K (.tuple #[pt none,vi 2]) w') (∃(x:Nat->Int),AS w' w.heap.size 0 (AK .i64 x 0 94)/\AW w' (List.toArray (AK .i64 x 0 94++[sl none 0 0])) 121 fun g=>RI g w.heap.size 0 fun x=>Wif (CN 0 x 8) (∃(I:Int->WD->Nat->Prop),(∃(n:Nat),I 0 g n)/\∀(n:Int) (d:WD) (i:Nat),I n d i->Wif (decide (n<(↑(Int.toNat x):Int))) (Wn n (Int.toNat x) (RI d w.heap.size (18+Int.toNat n*1) fun x=>Calls prog 174 #[vi x] d fun(e:Ending) (f:WD)=>∃(p:OA) (o:Int),e=rT (.tuple #[pt p,vi o])/\RS f w'.heap.size 94 fun x q r=>AW f #[pt p] 118 fun j=>∃(a:OA) (l c:Nat) (h:WD),BF prog #[119,119] 119 (sl x q r) (sl (aD f.heap.size) 1 1) (sl a l c) j h/\Sw h w'.heap.size 94 (sl a l c) fun k=>Lt i fun m=>I (wrap .i64 (n+1)) k m)) (K (.tuple #[ptr w'.heap.size,vi 0]) d)) False))):Ret 62 #[Value.agg (List.toArray (AK .i64 c0 0 94))] w K:=vcA L14 2 [] func62 h
theorem vc37(z nodes:OA)(CE nodesC:Nat)(floor:Int)(high:Bool)(w:WD)(K:KV)(h:Q (gIf (isP z) ((!isNone z)=true) (∃(x:OA) (j k:Nat),((!isNone z)=true->rd w (pb z) (po z+94)=some (.slice x j k))/\Wif (!(!isNone z&&!isNone x)) (K (.tuple #[vi 0,vi 1]) w) (∃(I:Int->Int->Int->WD->Nat->Prop),(∃(n:Nat),I 0 0 0 w n)/\∀(n f a:Int) (w':WD) (g:Nat),I n f a w' g->Wif (decide (a<(↑CE:Int))) (Wp nodes (Wn a CE (Ri w' nodes (Int.toNat a*1) fun x=>gIf (isP z) ((!isNone z)=true) (∃(c:OA) (l o:Nat),((!isNone z)=true->rd w' (pb z) (po z+94)=some (.slice c l o))/\gIf (isP z) ((!isNone z&&!isNone c&&decide (x>=0))=true) (∃(p:OA) (h q:Nat),((!isNone z&&!isNone c&&decide (x>=0))=true->rd w' (pb z) (po z+94)=some (.slice p h q))/\Wif (!(!isNone z&&!isNone c&&decide (x>=0)&&decide (x<(↑h:Int)))) (K (.tuple #[vi 0,vi 2]) w') (Lt g fun m=>I n f (wrap .i64 (a+1)) w' m)))))) (Wif (decide (floor<0)) (K (.tuple #[vi 0,vi 2]) w') (∃(I:Int->Int->Int->WD->Nat->Prop),(∃(d:Nat),I n f 0 w' d)/\∀(n d b:Int) (w':WD) (i:Nat),I n d b w' i->Wif (decide (b<(↑CE:Int))) (Wp nodes (Wn b CE (Ri w' nodes (Int.toNat b*1) fun x=>CI 11 #[pt z,vi x] w' fun r w'=>Wif (decide (r>floor)) (CJ 33 #[pt z,vi x,vi 0,bool high] w' fun n s w'=>K (.tuple #[vi n,vi s]) w') (Lt i fun m=>I n d (wrap .i64 (b+1)) w' m)))) (K (.tuple #[vi 0,vi 6]) w'))))))):Ret 37 #[pt z,sl nodes CE nodesC,vi floor,bool high] w K:=vcA L14 2 [] func37 h
theorem vc11(z:OA)(node:Int)(w:WD)(K:KV)(h:Q (gIf (isP z) ((!isNone z)=true) (∃(x:OA) (b c:Nat),((!isNone z)=true->rd w (pb z) (po z+94)=some (.slice x b c))/\gIf (isP z) ((!isNone z&&!isNone x&&decide (node>=0))=true) (∃(d:OA) (a f:Nat),((!isNone z&&!isNone x&&decide (node>=0))=true->rd w (pb z) (po z+94)=some (.slice d a f))/\Wif (!(!isNone z&&!isNone x&&decide (node>=0)&&decide (node<(↑a:Int)))) (K (vi 0) w) (Wp z (Rs w z 94 fun x g i=>Wp x (Wn node g (Rp w x (Int.toNat node*1) fun h=>CI 42 #[pt h] w fun n w'=>K (vi n) w')))))))):Ret 11 #[pt z,vi node] w K:=vcA L14 2 [] func11 h
theorem vc237(z:OA)(frame order:Int)(w:WD)(K:KV)(h:Q (gIf (isP z) ((!isNone z)=true) (∃(x:OA) (b c:Nat),((!isNone z)=true->rd w (pb z) (po z+94)=some (.slice x b c))/\Wif (!(!isNone z&&!isNone x)) (K (vi 1) w) (Wp z (∃(x:Nat->Int),AS w (pb z) (po z) (AK .i64 x 0 94)/\CJ 52 #[Value.agg (List.toArray (AK .i64 x 0 94)),vi frame] w fun n a w'=>Wif (a != 0) (K (vi a) w') (Wp z (∃(x:Nat->Int),AS w' (pb z) (po z) (AK .i64 x 0 94)/\CJ 92 #[Value.agg (List.toArray (AK .i64 x 0 94)),vi n] w' fun d h w'=>Wp z (Rs w' z 94 fun x f i=>Wp x (Wn n f (Rp w' x (Int.toNat n*1) fun g=>CI 271 #[pt g,vi (wrap .i64 (frame-d)),vi order] w' fun n w'=>K (vi n) w')))))))))):Ret 237 #[pt z,vi frame,vi order] w K:=vcA L14 2 [] func237 h
theorem vc33(z:OA)(node order:Int)(high:Bool)(w:WD)(K:KV)(h:Q (gIf (isP z) ((!isNone z)=true) (∃(x:OA) (d f:Nat),((!isNone z)=true->rd w (pb z) (po z+94)=some (.slice x d f))/\Wif (!(!isNone z&&!isNone x)) (K (.tuple #[vi 0,vi 1]) w) (gIf (isP z) ((!isNone z)=true) (∃(x:OA) (g h:Nat),((!isNone z)=true->rd w (pb z) (po z+94)=some (.slice x g h))/\gIf (isP z) ((!isNone z&&!isNone x&&decide (node>=0))=true) (∃(i:OA) (a j:Nat),((!isNone z&&!isNone x&&decide (node>=0))=true->rd w (pb z) (po z+94)=some (.slice i a j))/\Wif (!(!isNone z&&!isNone x&&decide (node>=0)&&decide (node<(↑a:Int)))) (K (.tuple #[vi 0,vi 7]) w) (Wp z (Rs w z 94 fun x k o=>Wp x (Wn node k (Rp w x (Int.toNat node*1) fun c=>CJ 91 #[pt c,vi order,bool high] w fun n b w'=>Wif (b != 0) (K (.tuple #[vi 0,vi b]) w') (Wp z (∃(x:Nat->Int),AS w' (pb z) (po z) (AK .i64 x 0 94)/\CJ 92 #[Value.agg (List.toArray (AK .i64 x 0 94)),vi node] w' fun l p w'=>K (.tuple #[vi (wrap .i64 (l+n)),vi 0]) w')))))))))))):Ret 33 #[pt z,vi node,vi order,bool high] w K:=vcA L14 2 [] func33 h
end Go.Proofs.YtdgbechegbmpcaaGreatDoor
namespace Go.Proofs.YtdgbechegbmpcaaGreatDoor
open Go Go.Eng Go.Proofs.Tryz
open Go.RowKit Go.Maps Go.Sort Go.Shelf
def keysR:Value->Option (DataW Unit×List MemPlace):=fun _=>some (.lit (.bool true),[])
theorem map_owns{P:Program}{kt:TypeId}(hk:P.underlying kt=some (.int .i64)){w:WD}{b:Nat}{m:List (Int×Value)}(h:BE w b m)(hs:m.length<=maxLen) :
 ∃D,w.ownsMap P kt keysR b m.length D/\(intKeys D).Perm (m.map (·.1))/\Maps.size D=m.length:=by
 obtain⟨es,c,h1,h2,h3⟩:=h.ex;have hlen:es.size=m.length:=by
  have:=h3.length_eq;simpa using this
 have hrd:∀x∈es.toList,∃k,x.key=.int .i64 k/\Go.WideElems.rd P kt keysR x=some (.int .i64 k,.lit (.bool true)):=by
  intro x hx;have:enE x∈m.map enK:=h3.mem_iff.1 (List.mem_map.2 ⟨x,hx,rfl⟩);obtain⟨q,hq,hqe⟩:=List.mem_map.1 this;have hxk:x.key=.int .i64 q.1:=(congrArg Prod.fst hqe).symm;have hr:=h.rg q hq;refine⟨q.1,hxk,?_⟩;unfold Go.WideElems.rd;rw [hxk,keyOf_int_mk hk (by simp [Lit.wf,IntKind.min,IntKind.max,IntKind.signed,IntKind.bits];omega)]
  rfl
 refine⟨_,⟨es,c,h1,⟨by omega,h2,fun x hx=>?_⟩,by omega,rfl⟩,?_,?_⟩
 ·obtain⟨k,_,hr⟩:=hrd x hx;exact⟨_,hr⟩
 ·show((es.toList.map (Go.WideElems.rg P kt keysR)).foldr DataW.insert []).map (fun p=>_root_.Go.intOf p.1) |>.Perm _
  refine((Go.WideShapes.sorted_perm _).map _).trans ?_;rw [List.map_map];have e1:es.toList.map ((fun p=>_root_.Go.intOf p.1) ∘ Go.WideElems.rg P kt keysR)=(es.toList.map enE).map fun q=>match q.1 with|.int _ n=>n|_=>0:=by
   rw [List.map_map];refine List.map_congr_left fun x hx=>?_;obtain⟨k,hxk,hr⟩:=hrd x hx;simp [Go.WideElems.rg,hr,hxk,_root_.Go.intOf,enE]
  rw [e1];refine(h3.map _).trans (List.Perm.of_eq ?_);rw [List.map_map]
  rfl
 ·show((es.toList.map (Go.WideElems.rg P kt keysR)).foldr DataW.insert []).length=_
  rw [(Go.WideShapes.sorted_perm _).length_eq,lmp];simpa using hlen
theorem len_map{P:Program}{mt kt et:TypeId}(ht:P.underlying mt=some (.map kt et))(hk:P.underlying kt=some (.int .i64)){w:WD}{b:Nat}{m:List (Int×Value)}(h:BE w b m)(hs:m.length<=1000000){ty:TypeId} :
 PD P #[mt] ty (.map (some b)) m.length w:=by
 obtain⟨D,hown,_,hsz⟩:=map_owns hk h (by unfold maxLen;omega);have:=hown.len ht ty;rw [hsz] at this;exact⟨this⟩
end Go.Proofs.YtdgbechegbmpcaaGreatDoor
namespace Go.Proofs.YtdgbechegbmpcaaGreatDoor
open Go Go.Eng Go.Proofs.Tryz
open Go.Value (bool func)
open Option (isNone)
open Go.IntKind (wrap)
theorem vc42(b:OA)(w:WD)(K:KV)(h:Q (gIf (isP b) ((!isNone b)=true) (∃(x:Option Nat),((!isNone b)=true->rd w (pb b) (po b+12)=some (.map x))/\Wif (!(!isNone b&&!isNone x)) (K (vi 0) w) (Wp b (∃(x f g h i j k l o p c:Option Nat),AS w (pb b) (po b+1) [Value.map x,Value.map f,Value.map g,Value.map h,Value.map i,Value.map j,Value.map k,Value.map l,Value.map o,Value.map p,Value.map c]/\∃(I:Int->Int->WD->Nat->Prop),(∃(n:Nat),I 0 0 w n)/\∀(n a:Int) (w':WD) (q:Nat),I n a w' q->Wif (decide (a<11)) (Wn a 11 (∃(d:Option Nat),[Value.map x,Value.map f,Value.map g,Value.map h,Value.map i,Value.map j,Value.map k,Value.map l,Value.map o,Value.map p,Value.map c][Int.toNat a*1]? = some (.map d)/\∃(x:Int),PD prog #[142] 3 (Value.map d) x w'/\Wif (decide (0<=a)) (Lt q fun m=>I (wrap .i64 (n+wrap .i64 (x*2^min (Int.toNat a) 64))) (wrap .i64 (a+1)) w' m) False)) (K (vi n) w')))))):Ret 42 #[pt b] w K:=vcA L0 1 [] func42 h
theorem vc176(b:OA)(o:Int)(high:Bool)(w:WD)(K:KV)(h:Q (Wp b (Wn o 11 (∃(x:Option Nat),rd w (pb b) (po b+1+Int.toNat o*1)=some (.map x)/\Calls prog 231 #[Value.map x] w fun e w'=>∃(v:Value),e=rT v/\CS 139 #[v] w' fun a l c w'=>Wif high (Wp a (Wn (wrap .i64 ((↑l:Int)-1)) l (RI w' (pb a) (po a+Int.toNat (wrap .i64 ((↑l:Int)-1))*1) fun x=>K (vi x) w'))) (Wp a (Wn 0 l (Ri w' a 0 fun x=>K (vi x) w'))))))):Ret 176 #[pt b,vi o,bool high] w K:=vcA L0 1 [] func176 h
theorem vc174(frames:Int)(w:WD)(K:KV)(h:Q (Wif (decide (frames<1)||decide (frames>128)) (K (.tuple #[pt none,vi 2]) w) (∀w',w'=w.alloc (.map #[] 0)->AW w' (List.toArray ([vi frames]++(List.replicate 11 (Value.map none)++[Value.map (some w.heap.size)]))) 215 fun j=>∃(I:Int->WD->Nat->Prop),(∃(n:Nat),I 0 j n)/\∀(n:Int) (d:WD) (g:Nat),I n d g->Wif (decide (n<11)) (∀b,b=d.alloc (.map #[] 0)->Wn n 11 (Sw b w'.heap.size (1+Int.toNat n*1) (Value.map (some d.heap.size)) fun c=>Lt g fun m=>I (wrap .i64 (n+1)) c m)) (∃(I:Int->WD->Nat->Prop),(∃(n:Nat),I 0 d n)/\∀(n:Int) (b:WD) (h:Nat),I n b h->Wif (decide (n<frames)) (∃(f:Int->WD->Nat->Prop),(∃(n:Nat),f 0 b n)/\∀(a:Int) (c:WD) (i:Nat),f a c i->gIf (decide (0<=wrap .i64 (a+1))) (decide (a<10)=true) (gIf (decide (0<=wrap .i64 (a+1))) ((decide (a<10)&&BW BinOp.and IntKind.i64 n (wrap .i64 (wrap .i64 (1*2^min (Int.toNat (wrap .i64 (a+1))) 64)-1))==0)=true) (Wif (decide (a<10)&&BW BinOp.and IntKind.i64 n (wrap .i64 (wrap .i64 (1*2^min (Int.toNat (wrap .i64 (a+1))) 64)-1))==0&&decide (wrap .i64 (n+wrap .i64 (1*2^min (Int.toNat (wrap .i64 (a+1))) 64))<=frames)) (Lt i fun m=>f (wrap .i64 (a+1)) c m) (Wn a 11 (∃(x:Option Nat),rd c w'.heap.size (1+Int.toNat a*1)=some (.map x)/\∃(w':WD),EA prog 142 (Value.map x) (vi n) (bool true) c w'/\Wif (decide (0<=a)) (Lt h fun m=>I (wrap .i64 (n+wrap .i64 (1*2^min (Int.toNat a) 64))) w' m) False))))) (K (.tuple #[ptr w'.heap.size,vi 0]) b))))):Ret 174 #[vi frames] w K:=vcA L0 1 [] func174 h
theorem vc91(b:OA)(order:Int)(high:Bool)(w:WD)(K:KV)(h:Q (gIf (isP b) ((!isNone b)=true) (∃(x:Option Nat),((!isNone b)=true->rd w (pb b) (po b+12)=some (.map x))/\Wif (!(!isNone b&&!isNone x)) (K (.tuple #[vi 0,vi 1]) w) (Wif (decide (order<0)||decide (order>10)) (K (.tuple #[vi 0,vi 2]) w) (∃(I:Int->WD->Nat->Prop),(∃(n:Nat),I order w n)/\∀(n:Int) (w':WD) (g:Nat),I n w' g->gIf (isP b) (decide (n<=10)=true) (gIf (inB n 11) (decide (n<=10)=true) (∃(x:Option Nat),(decide (n<=10)=true->rd w' (pb b) (po b+1+Int.toNat n*1)=some (.map x))/\∃(h:Int),(decide (n<=10)=true->PD prog #[142] 3 (Value.map x) h w')/\Wif (decide (n<=10)&&h==0) (Lt g fun m=>I (wrap .i64 (n+1)) w' m) (Wif (decide (n>10)) (K (.tuple #[vi 0,vi 6]) w') (CI 176 #[pt b,vi n,bool high] w' fun i w'=>Wp b (Wn n 11 (∃(x:Option Nat),rd w' (pb b) (po b+1+Int.toNat n*1)=some (.map x)/\∃(d:WD),HS prog #[142,3] 0 (Value.map x) (vi i) w' d/\∃(I:Int->Int->WD->Nat->Prop),(∃(a:Nat),I n i d a)/\∀(n a:Int) (w':WD) (f:Nat),I n a w' f->Wif (decide (n>order)) (Wif high (Wp b (Wn (wrap .i64 (n-1)) 11 (∃(x:Option Nat),rd w' (pb b) (po b+1+Int.toNat (wrap .i64 (n-1))*1)=some (.map x)/\∃(c:WD),EA prog 142 (Value.map x) (vi a) (bool true) w' c/\Wif (decide (0<=wrap .i64 (n-1))) (Lt f fun m=>I (wrap .i64 (n-1)) (wrap .i64 (a+wrap .i64 (1*2^min (Int.toNat (wrap .i64 (n-1))) 64))) c m) False))) (Dr w' fun j=>Wp b (Wn (wrap .i64 (n-1)) 11 (∃(x:Option Nat),rd j (pb b) (po b+1+Int.toNat (wrap .i64 (n-1))*1)=some (.map x)/\Wif (decide (0<=wrap .i64 (n-1))) (∃(w':WD),EA prog 142 (Value.map x) (vi (wrap .i64 (a+wrap .i64 (1*2^min (Int.toNat (wrap .i64 (n-1))) 64)))) (bool true) j w'/\Lt f fun m=>I (wrap .i64 (n-1)) a w' m) False)))) (Wp b (∃(x:Option Nat),rd w' (pb b) (po b+12)=some (.map x)/\∃(c:WD),EA prog 90 (Value.map x) (vi a) (vi order) w' c/\K (.tuple #[vi a,vi 0]) c))))))))))))):Ret 91 #[pt b,vi order,bool high] w K:=vcA L0 1 [] func91 h
theorem vc271(b:OA)(at' order:Int)(w:WD)(K:KV)(h:Q (gIf (isP b) ((!isNone b)=true) (∃(x:Option Nat),((!isNone b)=true->rd w (pb b) (po b+12)=some (.map x))/\Wif (!(!isNone b&&!isNone x)) (K (vi 1) w) (Wp b (∃(x:Option Nat),rd w (pb b) (po b+12)=some (.map x)/\∃(f:Int) (g:Bool),E5 prog 90 (Value.map x) (vi at') true (Value.tuple #[vi f,bool g]) w/\Wif (!g||f != order) (K (vi 2) w) (Wp b (∃(x:Option Nat),rd w (pb b) (po b+12)=some (.map x)/\∃(w':WD),HS prog #[90,3] 0 (Value.map x) (vi at') w w'/\∃(I:Int->Int->WD->Nat->Prop),(∃(n:Nat),I at' order w' n)/\∀(n a:Int) (w':WD) (h:Nat),I n a w' h->Dr w' fun c=>gIf (isP b) (decide (a<10)=true) (gIf (inB a 11) (decide (a<10)=true) (∃(x:Option Nat),(decide (a<10)=true->rd c (pb b) (po b+1+Int.toNat a*1)=some (.map x))/\gIf (decide (0<=a)) (decide (a<10)=true) (∃(i:Bool),(decide (a<10)=true->E5 prog 142 (Value.map x) (vi (BW BinOp.xor IntKind.i64 n (wrap .i64 (1*2^min (Int.toNat a) 64)))) false (bool i) c)/\Wif (decide (a<10)&&i) (Dr c fun d=>Wp b (Wn a 11 (∃(x:Option Nat),rd d (pb b) (po b+1+Int.toNat a*1)=some (.map x)/\Wif (decide (0<=a)) (∃(w':WD),HS prog #[142,3] 0 (Value.map x) (vi (BW BinOp.xor IntKind.i64 n (wrap .i64 (1*2^min (Int.toNat a) 64)))) d w'/\Wif (decide (0<=a)) (Lt h fun m=>I (BW BinOp.andNot IntKind.i64 n (wrap .i64 (1*2^min (Int.toNat a) 64))) (wrap .i64 (a+1)) w' m) False) False))) (Wp b (Wn a 11 (∃(x:Option Nat),rd c (pb b) (po b+1+Int.toNat a*1)=some (.map x)/\∃(w':WD),EA prog 142 (Value.map x) (vi n) (bool true) c w'/\K (vi 0) w'))))))))))))):Ret 271 #[pt b,vi at',vi order] w K:=vcA L0 1 [] func271 h
end Go.Proofs.YtdgbechegbmpcaaGreatDoor
namespace Go.Proofs.YtdgbechegbmpcaaGreatDoor
open Go Go.Eng Go.Proofs.Tryz
structure Bst where
 n:Int
 F:Nat->List Int
 T:List (Int×Int)
abbrev IP(l:List Int):List (Int×Value):=l.map fun a=>(a,Value.bool true)
abbrev LP(l:List (Int×Int)):List (Int×Value):=l.map fun p=>(p.1,Value.int .i64 p.2)
def braw(n:Int)(m:Nat->Nat)(t:Nat):List Value:=.int .i64 n::((List.range 11).map fun o=>Value.map (some (m o)))++[.map (some t)]
theorem braw_0(n:Int)(m:Nat->Nat)(t:Nat):(braw n m t)[0]? = some (.int .i64 n):=rfl
theorem braw_12(n:Int)(m:Nat->Nat)(t:Nat):(braw n m t)[12]? = some (.map (some t)):=rfl
theorem braw_m(n:Int)(m:Nat->Nat)(t:Nat){o:Nat}(h:o<11):(braw n m t)[1+o]? = some (.map (some (m o))):=by
 rw [Nat.add_comm];simp only [braw,List.cons_append,List.getElem?_cons_succ];rw [gal (by simpa using h)];simp [h]
structure BAt(w:WD)(b:Nat)(m:Nat->Nat)(t:Nat)(s:Bst):Prop where
 so:own w b (braw s.n m t)
 mf:∀o,o<11->BE w (m o) (IP (s.F o))
 mt:BE w t (LP s.T)
 dm:∀o o',o<11->o'<11->o≠o'->m o≠m o'
 dt:∀o,o<11->m o≠t/\m o≠b
 db:t≠b
def FX(b:Nat)(m:Nat->Nat)(t:Nat)(x:Nat):Prop:=x=b\/x=t\/∃o,o<11/\x=m o
section
variable {w w':WD}{b t:Nat}{m:Nat->Nat}{s:Bst}
theorem BAt.kx{X:NP}(h:BAt w b m t s)(k:Kept X w w')(hx:∀x,X x->¬FX b m t x):BAt w' b m t s:=
 ⟨h.so.kx k fun e=>hx _ e (.inl rfl),fun o ho=>(h.mf o ho).kx k fun e=>hx _ e (.inr (.inr ⟨o,ho,rfl⟩)),h.mt.kx k fun e=>hx _ e (.inr (.inl rfl)),h.dm,h.dt,h.db⟩
theorem BAt.k(h:BAt w b m t s)(k:Kept AB w w'):BAt w' b m t s:=h.kx k fun _ e=>e.elim
theorem BAt.lt(h:BAt w b m t s){x:Nat}(hx:FX b m t x):x<w.heap.size:=by
 rcases hx with rfl|rfl|⟨o,ho,rfl⟩
 ·exact h.so.lt
 ·exact h.mt.lt
 ·exact(h.mf o ho).lt
theorem BAt.r0(h:BAt w b m t s):rd w b 0=some (.int .i64 s.n):=(h.so.rd 0).trans (braw_0 ..)
theorem BAt.r12(h:BAt w b m t s):rd w b 12=some (.map (some t)):=(h.so.rd 12).trans (braw_12 ..)
theorem BAt.rm(h:BAt w b m t s){o:Nat}(ho:o<11):rd w b (1+o)=some (.map (some (m o))):=(h.so.rd _).trans (braw_m _ _ _ ho)
end
def Small(s:Bst):Prop:=∀o,o<11->(s.F o).length<=1000000
section
variable {w w':WD}{b t:Nat}{m:Nat->Nat}{s:Bst}
theorem BAt.len(h:BAt w b m t s)(hs:Small s){o:Nat}(ho:o<11){ty:TypeId}:PD prog #[142] ty (.map (some (m o))) (s.F o).length w:=by
 have:=len_map underlying142 underlying3 (h.mf o ho) (by simpa using hs o ho) (ty:=ty);simpa using this
end
def DU(s:Bst):Nat->Nat
 | 0=>0
 | o+1=>DU s o+(s.F o).length*2^o
theorem freeOf_le{s:Bst}(hs:Small s):∀k,k<=11->DU s k<=k*1024000000
 | 0,_=>Nat.zero_le _
 | o+1,h=>by
  have ih:=freeOf_le hs o (by omega);have h1:=hs o (by omega);have h2:2^o<=2^10:=Nat.pow_le_pow_right (by omega) (by omega);have h3:(s.F o).length*2^o<=1000000*2^10:=Nat.mul_le_mul h1 h2;unfold DU;omega
theorem shl_small{x o:Nat}(hx:x<=1000000)(ho:o<11):IntKind.wrap .i64 ((x:Int)*2^min (Int.toNat (o:Int)) 64)=((x*2^o:Nat):Int):=by
 have h2:2^o<=2^10:=Nat.pow_le_pow_right (by omega) (by omega);have h3:x*2^o<=1000000*2^10:=Nat.mul_le_mul hx h2;rw [tnc,Nat.min_eq_left (by omega),show((x:Int)*2^o)=((x*2^o:Nat):Int) by simp];rw [wi (by omega)]
section
variable {w w':WD}{b t:Nat}{m:Nat->Nat}{s:Bst}
theorem free_spec(h:BAt w b m t s)(hs:Small s):Calls prog 42 #[ptr b] w fun r w'=>r=.returned (.int .i64 (DU s 11))/\w'=w:=by
 refine(vc42 _ w (fun v w'=>v=.int .i64 (DU s 11)/\w'=w) ?_).mono ?_
 ·unfold Q;simp only [Ri,Rp,Rs,Wp,Wn,isP_some,Wif_true,gIf_true,pb_some,po_some,za];refine⟨_,fun _=>h.r12,AG rfl ?_⟩;refine⟨_,_,_,_,_,_,_,_,_,_,_,⟨h.rm (o:=0) (by omega),h.rm (o:=1) (by omega),h.rm (o:=2) (by omega),h.rm (o:=3) (by omega),h.rm (o:=4) (by omega),h.rm (o:=5) (by omega),h.rm (o:=6) (by omega),h.rm (o:=7) (by omega),h.rm (o:=8) (by omega),h.rm (o:=9) (by omega),h.rm (o:=10) (by omega)⟩,?_⟩;refine⟨fun a k w' n=>w'=w/\∃q:Nat,k=q/\q<=11/\n=11-q/\a=(DU s q:Nat),⟨11,rfl,0,rfl,by omega,rfl,rfl⟩,?_⟩;rintro _ k w1 n ⟨rfl,q,rfl,hq,rfl,rfl⟩;refine AE (fun hc=>?_) (fun hc=>?_)
  ·have hq0:q<11:=by simp at hc;omega
   refine Wi ⟨some (m q),?_,_,h.len hs hq0,AA (by simp) ⟨11-(q+1),by omega,rfl,q+1,wzz,by omega,rfl,?_⟩⟩
   ·rw [tnc,mo]
    match q,hq0 with
    | 0,_|1,_|2,_|3,_|4,_|5,_|6,_|7,_|8,_|9,_|10,_=>rfl
   ·have h1:=freeOf_le hs (q+1) (by omega);rw [shl_small (hs q hq0) hq0];have e1:DU s (q+1)=DU s q+(s.F q).length*2^q:=rfl;rw [e1] at h1 ⊢;rw [wi (by omega)];omega
  ·have hq0:q=11:=by simp at hc;omega
   subst hq0;exact⟨rfl,rfl⟩
 ·rintro e w' ⟨v,rfl,rfl,hw⟩;exact⟨rfl,hw⟩
end
theorem GL(x:Nat):BitVec.ofInt 64 (x:Int)=BitVec.ofNat 64 x:=by simp
theorem xor_nat{x y:Nat}(hx:x<2^62)(hy:y<2^62):BW .xor .i64 x y=((x ^^^ y:Nat):Int):=by
 have h:x ^^^ y<2^62:=Nat.xor_lt_two_pow hx hy
 show IntKind.wrap .i64 ((BitVec.ofInt 64 (x:Int) ^^^ BitVec.ofInt 64 (y:Int)).toNat:Int)=_
 rw [GL,GL,BitVec.toNat_xor,BitVec.toNat_ofNat,BitVec.toNat_ofNat,Nat.mod_eq_of_lt (by omega),Nat.mod_eq_of_lt (by omega),wi (by omega)]
theorem and_nat{x y:Nat}(hx:x<2^62)(hy:y<2^62):BW .and .i64 x y=((x &&& y:Nat):Int):=by
 have h:x &&& y<2^62:=Nat.and_lt_two_pow _ hy
 show IntKind.wrap .i64 ((BitVec.ofInt 64 (x:Int) &&& BitVec.ofInt 64 (y:Int)).toNat:Int)=_
 rw [GL,GL,BitVec.toNat_and,BitVec.toNat_ofNat,BitVec.toNat_ofNat,Nat.mod_eq_of_lt (by omega),Nat.mod_eq_of_lt (by omega),wi (by omega)]
theorem xor_one(q:Nat):q ^^^ 1=if q%2=0 then q+1 else q-1:=by
 apply Nat.eq_of_testBit_eq;intro i
 cases i with
 | zero=>
  rw [Nat.testBit_xor];simp only [Nat.testBit_zero];split <;> rename_i h
  ·rw [show(q+1)%2=1 by omega,h];rfl
  ·rw [show(q-1)%2=0 by omega,show q%2=1 by omega];rfl
 | succ i=>
  rw [Nat.testBit_xor,Nat.testBit_succ,Nat.testBit_succ,Nat.testBit_succ];split
  ·rw [show(q+1)/2=q/2 by omega];simp
  ·rw [show(q-1)/2=q/2 by omega];simp
theorem xor_pow(q o:Nat):(q*2^o) ^^^ 2^o=(if q%2=0 then q+1 else q-1)*2^o:=by
 have h:=Nat.shiftLeft_xor_distrib (a:=q) (b:=1) (i:=o);rw [Nat.shiftLeft_eq,Nat.shiftLeft_eq,Nat.shiftLeft_eq,Nat.one_mul,xor_one] at h;exact h.symm
theorem bv_andNot(a b:BitVec 64):a &&& ~~~b=a ^^^ (a &&& b):=by
 ext i hi
 simp only [BitVec.getElem_and,BitVec.getElem_not,BitVec.getElem_xor]
 cases a[i] <;> cases b[i] <;> rfl
theorem andNot_nat{x y:Nat}(hx:x<2^62)(hy:y<2^62):BW .andNot .i64 x y=((x ^^^ (x &&& y):Nat):Int):=by
 have h1:x &&& y<2^62:=Nat.and_lt_two_pow _ hy;have h:x ^^^ (x &&& y)<2^62:=Nat.xor_lt_two_pow hx h1
 show IntKind.wrap .i64 ((BitVec.ofInt 64 (x:Int) &&& ~~~BitVec.ofInt 64 (y:Int)).toNat:Int)=_
 rw [bv_andNot,GL,GL,BitVec.toNat_xor,BitVec.toNat_and,BitVec.toNat_ofNat,BitVec.toNat_ofNat,Nat.mod_eq_of_lt (by omega),Nat.mod_eq_of_lt (by omega),wi (by omega)]
theorem and_pow(q o:Nat):(q*2^o) &&& 2^o=(q%2)*2^o:=by
 have h:=Nat.shiftLeft_and_distrib (a:=q) (b:=1) (i:=o);rw [Nat.shiftLeft_eq,Nat.shiftLeft_eq,Nat.shiftLeft_eq,Nat.one_mul,Nat.and_one_is_mod] at h;exact h.symm
theorem andNot_pow(q o:Nat):(q*2^o) ^^^ ((q*2^o) &&& 2^o)=(q-q%2)*2^o:=by
 rw [and_pow];by_cases h:q%2=0
 ·rw [h,Nat.zero_mul,Nat.xor_zero,Nat.sub_zero]
 ·have h1:q%2=1:=by omega
  rw [h1,Nat.one_mul,xor_pow,if_neg h]
def NS(n:Int)(m:Nat->Nat)(t k:Nat):List Value:=.int .i64 n::((List.range 11).map fun o=>if o<k then Value.map (some (m o)) else .map none)++[.map (some t)]
theorem brawN_0(n:Int)(m:Nat->Nat)(t:Nat):NS n m t 0=[Value.int .i64 n]++(List.replicate 11 (.map none)++[.map (some t)]):=rfl
theorem brawN_11(n:Int)(m:Nat->Nat)(t:Nat):NS n m t 11=braw n m t:=by
 unfold NS braw;congr 2
theorem brawN_len(n:Int)(m:Nat->Nat)(t k:Nat):(NS n m t k).length=13:=by simp [NS]
theorem brawN_set(n:Int)(m:Nat->Nat)(t:Nat){k:Nat}(hk:k<11)(x:Nat):(NS n m t k).set (1+k) (.map (some x))=NS n (upd m k x) t (k+1):=by
 apply List.ext_getElem?;intro i;rw [List.getElem?_set,brawN_len];unfold NS
 cases i with
 | zero=>simp
 | succ j=>
  simp only [List.cons_append,List.getElem?_cons_succ];by_cases hj:j<11
  ·rw [gal (by simpa using hj),gal (by simpa using hj)];simp only [gmp,List.getElem?_range hj,Option.map_some];by_cases hjk:j=k
   ·subst hjk;rw [if_pos (by omega),if_pos (by omega),if_pos (by omega),upd_same]
   ·rw [if_neg (by omega)];by_cases hlt:j<k
    ·rw [if_pos hlt,if_pos (by omega),AH _ _ hjk]
    ·rw [if_neg hlt,if_neg (by omega)]
  ·rw [if_neg (by omega),gar (by simp;omega),gar (by simp;omega)];simp
end Go.Proofs.YtdgbechegbmpcaaGreatDoor
namespace Go.Proofs.YtdgbechegbmpcaaGreatDoor
structure Bk where
 p:Nat
 o:Nat
 g:Nat
def CQ:Nat->List Bk->Nat->Prop
 | a,[],b=>a=b
 | a,x::l,b=>x.p=a/\a%2^x.o=0/\x.o<=10/\CQ (a+2^x.o) l b
theorem p2(o:Nat):0<2^o:=Nat.two_pow_pos o
theorem JC {l1 l2:List Bk}{a b:Nat}:CQ a (l1++l2) b↔∃c,CQ a l1 c/\CQ c l2 b:=by
  induction l1 generalizing a with
  | nil=>simp [CQ]
  | cons x l ih => simp only [List.cons_append, CQ, ih]; constructor
                   · rintro ⟨h1, h2, h3, c, h4, h5⟩; exact ⟨c, ⟨h1, h2, h3, h4⟩, h5⟩
                   · rintro ⟨c,⟨h1,h2,h3,h4⟩,h5⟩;exact⟨h1,h2,h3,c,h4,h5⟩
theorem QC{l:List Bk}{a b:Nat}(h:CQ a l b):a+l.length<=b:=by
 induction l generalizing a with
 | nil=>simp [CQ] at h;simp;omega
 | cons x l ih=>have:=ih h.2.2.2;have:=p2 x.o;simp;omega
theorem BC{l:List Bk}{a b:Nat}(h:CQ a l b){x:Bk}(hx:x∈l):a<=x.p/\x.p+2^x.o<=b/\x.p%2^x.o=0/\x.o<=10:=by
 induction l generalizing a with
 | nil=>simp at hx
 | cons y l ih=>
  obtain⟨h1,h2,h3,h4⟩:=h;rcases List.mem_cons.1 hx with rfl|hx
  ·have:=QC h4;exact⟨by omega,by omega,by rw [h1];exact h2,h3⟩
  ·have hh:=ih h4 hx;have:=p2 y.o;exact⟨by omega,hh.2.1,hh.2.2⟩
theorem tile_pw{l:List Bk}{a b:Nat}(h:CQ a l b):l.Pairwise fun x y=>x.p+2^x.o<=y.p:=by
 induction l generalizing a with
 | nil=>exact List.Pairwise.nil
 | cons y l ih=>
  obtain⟨h1,h2,h3,h4⟩:=h;refine List.Pairwise.cons (fun x hx=>?_) (ih h4);have:=(BC h4 hx).1;omega
theorem KY{l:List Bk}{a b:Nat}(h:CQ a l b){x y:Bk}(hx:x∈l)(hy:y∈l)(e:x.p=y.p):x=y:=by
 induction l generalizing a with
 | nil=>simp at hx
 | cons z l ih=>
  obtain⟨h1,h2,h3,h4⟩:=h;have hz:=p2 z.o;rcases List.mem_cons.1 hx with rfl|hx'
  ·rcases List.mem_cons.1 hy with rfl|hy
   ·rfl
   ·have:=(BC h4 hy).1;omega
  ·rcases List.mem_cons.1 hy with rfl|hy
   ·have:=(BC h4 hx').1;omega
   ·exact ih h4 hx' hy
theorem F6{A B:List Bk}{x:Bk}{a b:Nat}(h:CQ a (A++x::B) b):CQ a A x.p/\CQ (x.p+2^x.o) B b/\x.p%2^x.o=0/\x.o<=10:=by
 obtain⟨c,h1,h2,h3,h4,h5⟩:=JC.1 h;subst h2;exact⟨h1,h5,h3,h4⟩
theorem EH{A B:List Bk}{x:Bk}{a b:Nat}(h1:CQ a A x.p)(h2:CQ (x.p+2^x.o) B b)(h3:x.p%2^x.o=0)(h4:x.o<=10):CQ a (A++x::B) b:=
 JC.2 ⟨_,h1,rfl,h3,h4,h2⟩
theorem MI{A B:List Bk}{x:Bk}{a b:Nat}(h:CQ a (A++x::B) b):(∀y∈A,y.p+2^y.o<=x.p)/\(∀y∈B,x.p+2^x.o<=y.p):=by
 obtain⟨h1,h2,h3⟩:=F6 h;exact⟨fun y hy=>(BC h1 hy).2.1,fun y hy=>(BC h2 hy).1⟩
theorem tile_last{A:List Bk}{a b:Nat}(h:CQ a A b)(hne:a<b):∃A' y,A=A'++[y]/\y.p+2^y.o=b/\CQ a A' y.p:=by
 rcases List.eq_nil_or_concat A with rfl|⟨A',y,rfl⟩
 ·simp [CQ] at h;omega
 ·rw [List.concat_eq_append] at h ⊢;obtain⟨c,h1,h2,h3,h4,h5⟩:=JC.1 h;simp only [CQ] at h5;exact⟨A',y,rfl,by omega,by rw [h2];exact h1⟩
theorem tile_first{B:List Bk}{a b:Nat}(h:CQ a B b)(hne:a<b):∃y B',B=y::B'/\y.p=a/\CQ (a+2^y.o) B' b:=by
 cases B with
 | nil=>simp [CQ] at h;omega
 | cons y B'=>exact⟨y,B',rfl,h.1,h.2.2.2⟩
def NB(l:List Bk):Prop:=∀x∈l,∀y∈l,x.g=0->y.g=0->x.o=y.o->x.o<10->y.p=x.p+2^x.o->x.p%2^(x.o+1)=0->False
theorem NB.sub{l l':List Bk}(h:NB l)(hs:∀x∈l',x.g=0->x∈l):NB l':=fun x hx y hy gx gy=>h x (hs x hx gx) y (hs y hy gy) gx gy
theorem mod_le{a o1 o2:Nat}(h:a%2^o2=0)(hl:o1<=o2):a%2^o1=0:=
 Nat.mod_eq_zero_of_dvd (Nat.dvd_trans (Nat.pow_dvd_pow 2 hl) (Nat.dvd_of_mod_eq_zero h))
theorem mod_add{a b o:Nat}(h:a%2^o=0)(hb:b%2^o=0):(a+b)%2^o=0:=
 Nat.mod_eq_zero_of_dvd (Nat.dvd_add (Nat.dvd_of_mod_eq_zero h) (Nat.dvd_of_mod_eq_zero hb))
def Fr01(l:List Bk):Prop:=∀x∈l,x.g=0\/x.g=1
structure Inv(n:Nat)(l:List Bk):Prop where
 n1:1<=n/\n<=128
 tl:CQ 0 l n
 nb:NB l
 g01:Fr01 l
def fr(o:Nat)(l:List Bk):List Int:=(l.filter fun x=>x.g==0&&x.o==o).map fun x=>(x.p:Int)
def tk(l:List Bk):List (Int×Int):=(l.filter fun x=>x.g==1).map fun x=>((x.p:Int),(x.o:Int))
def AX:List Bk->Nat
 | []=>0
 | x::l=>(if x.g=0 then 2^x.o else 0)+AX l
@[simp] theorem fr_nil (o:Nat):fr o []=[]:=rfl
@[simp] theorem tk_nil:tk []=[]:=rfl
theorem ED(o:Nat)(l l':List Bk):fr o (l++l')=fr o l++fr o l':=by simp [fr]
theorem IV(l l':List Bk):tk (l++l')=tk l++tk l':=by simp [tk]
theorem fr_yes{o:Nat}{x:Bk}(l:List Bk)(hg:x.g=0)(ho:x.o=o):fr o (x::l)=(x.p:Int)::fr o l:=by simp [fr,hg,ho]
theorem fr_no{o:Nat}{x:Bk}(l:List Bk)(h:¬(x.g=0/\x.o=o)):fr o (x::l)=fr o l:=by
 unfold fr;rw [List.filter_cons_of_neg (by simpa using h)]
theorem tk_yes{x:Bk}(l:List Bk)(hg:x.g=1):tk (x::l)=((x.p:Int),(x.o:Int))::tk l:=by simp [tk,hg]
theorem tk_no{x:Bk}(l:List Bk)(h:x.g≠1):tk (x::l)=tk l:=by
 unfold tk;rw [List.filter_cons_of_neg (by simpa using h)]
theorem I8{o:Nat}{l:List Bk}{k:Int}:k∈fr o l↔∃x∈l,x.g=0/\x.o=o/\(x.p:Int)=k:=by
 unfold fr;constructor
 ·intro h;obtain⟨x,hx,e⟩:=List.mem_map.1 h;obtain⟨h1,h2⟩:=List.mem_filter.1 hx;simp only [Bool.and_eq_true,beq_iff_eq] at h2;exact⟨x,h1,h2.1,h2.2,e⟩
 ·rintro ⟨x,h1,h2,h3,e⟩;exact List.mem_map.2 ⟨x,List.mem_filter.2 ⟨h1,by simp [h2,h3]⟩,e⟩
theorem mem_tk{l:List Bk}{k j:Int}:(k,j)∈tk l↔∃x∈l,x.g=1/\(x.p:Int)=k/\(x.o:Int)=j:=by
 unfold tk;constructor
 ·intro h;obtain⟨x,hx,e⟩:=List.mem_map.1 h;obtain⟨h1,h2⟩:=List.mem_filter.1 hx;simp only [beq_iff_eq] at h2;simp only [Prod.mk.injEq] at e;exact⟨x,h1,h2,e.1,e.2⟩
 ·rintro ⟨x,h1,h2,h3,e⟩;exact List.mem_map.2 ⟨x,List.mem_filter.2 ⟨h1,by simp [h2]⟩,by simp [h3,e]⟩
theorem IM(l l':List Bk):AX (l++l')=AX l+AX l':=by
 induction l with
 | nil=>simp [AX]
 | cons x l ih=>simp only [List.cons_append,AX,ih];omega
theorem sep_ne{A B:List Bk}{x:Bk}{a b:Nat}(h:CQ a (A++x::B) b){k:Nat}(h1:x.p<=k)(h2:k<x.p+2^x.o):(∀y∈A,y.p≠k)/\(∀y∈B,y.p≠k):=by
 obtain⟨hA,hB⟩:=MI h;refine⟨fun y hy=>?_,fun y hy=>?_⟩
 ·have:=hA y hy;have:=p2 y.o;omega
 ·have:=hB y hy;omega
structure Mid(n:Nat)(A:List Bk)(x:Bk)(B:List Bk):Prop where
 n1:1<=n/\n<=128
 tl:CQ 0 (A++x::B) n
 nb:NB (A++B)
 g01:Fr01 (A++B)
theorem Inv.mid{n:Nat}{A B:List Bk}{x y:Bk}(h:Inv n (A++x::B))(e:y.p=x.p)(e':y.o=x.o):Mid n A y B:=by
 refine⟨h.n1,?_,h.nb.sub fun z hz _=>by simp at hz ⊢;rcases hz with h|h <;> simp [h],fun z hz=>h.g01 z (by simp at hz ⊢;rcases hz with h|h <;> simp [h])⟩;obtain⟨h1,h2,h3,h4⟩:=F6 h.tl;exact EH (by rw [e];exact h1) (by rw [e,e'];exact h2) (by rw [e,e'];exact h3) (by rw [e'];exact h4)
theorem Mid.num{n:Nat}{A B:List Bk}{x:Bk}(h:Mid n A x B):x.p+2^x.o<=n/\x.o<=7/\x.p%2^x.o=0:=by
 have:=BC h.tl (x:=x) (by simp);refine⟨this.2.1,?_,this.2.2.1⟩;refine Nat.le_of_not_lt fun hlt=>?_;have h8:=Nat.pow_le_pow_right (n:=2) (by omega) (show 8<=x.o from hlt);have:=h.n1;omega
theorem Mid.lo{n:Nat}{A B:List Bk}{a o g g':Nat}(h:Mid n A ⟨a,o+1,g⟩ B):Mid n A ⟨a,o,g'⟩ (⟨a+2^o,o,0⟩::B):=by
 obtain⟨h1,h2,h3,h4⟩:=F6 h.tl;dsimp only at h1 h2 h3 h4;have e2:2^(o+1)=2^o+2^o:=by rw [Nat.pow_succ];omega
 refine⟨h.n1,EH h1 ⟨rfl,mod_add (mod_le (o1:=o) h3 (by omega)) (Nat.mod_self _),by dsimp only;omega,by dsimp only;rw [Nat.add_assoc,<- e2];exact h2⟩ (mod_le (o1:=o) h3 (by omega)) (by dsimp only;omega),?_,?_⟩
 ·obtain⟨hA,hB⟩:=MI h.tl;dsimp only at hA hB;intro x hx y hy gx gy eo lt ep em;have hp:=p2 o;have mx:x∈A++B\/x=⟨a+2^o,o,0⟩:=by simp at hx ⊢;rcases hx with h|h|h <;> simp [h]
  have my:y∈A++B\/y=⟨a+2^o,o,0⟩:=by simp at hy ⊢;rcases hy with h|h|h <;> simp [h]
  rcases mx with mx|rfl
  ·rcases my with my|rfl
   ·exact h.nb x mx y my gx gy eo lt ep em
   ·dsimp only at eo ep;have:x.p=a:=by rw [eo] at ep;omega
    rcases List.mem_append.1 mx with hm|hm
    ·have:=hA x hm;have:=p2 x.o;omega
    ·have:=hB x hm;have:=p2 x.o;omega
  ·rcases my with my|rfl
   ·dsimp only at em;have d:=(Nat.dvd_add_right (Nat.dvd_of_mod_eq_zero h3)).1 (Nat.dvd_of_mod_eq_zero em);have:=Nat.le_of_dvd hp d;omega
   ·dsimp only at ep;omega
 ·intro x hx;have mx:x∈A++B\/x=⟨a+2^o,o,0⟩:=by simp at hx ⊢;rcases hx with h|h|h <;> simp [h]
  rcases mx with mx|rfl
  ·exact h.g01 x mx
  ·exact .inl rfl
theorem Mid.hi{n:Nat}{A B:List Bk}{a o g g':Nat}(h:Mid n A ⟨a,o+1,g⟩ B):Mid n (A++[⟨a,o,0⟩]) ⟨a+2^o,o,g'⟩ B:=by
 obtain⟨h1,h2,h3,h4⟩:=F6 h.tl;dsimp only at h1 h2 h3 h4;have e2:2^(o+1)=2^o+2^o:=by rw [Nat.pow_succ];omega
 refine⟨h.n1,EH (JC.2 ⟨a,h1,rfl,mod_le (o1:=o) h3 (by omega),by dsimp only;omega,rfl⟩) (by dsimp only;rw [Nat.add_assoc,<- e2];exact h2) (mod_add (mod_le (o1:=o) h3 (by omega)) (Nat.mod_self _)) (by dsimp only;omega),?_,?_⟩
 ·obtain⟨hA,hB⟩:=MI h.tl;dsimp only at hA hB;intro x hx y hy gx gy eo lt ep em;have hp:=p2 o;have mx:x∈A++B\/x=⟨a,o,0⟩:=by simp at hx ⊢;rcases hx with h|h|h <;> simp [h]
  have my:y∈A++B\/y=⟨a,o,0⟩:=by simp at hy ⊢;rcases hy with h|h|h <;> simp [h]
  rcases mx with mx|rfl
  ·rcases my with my|rfl
   ·exact h.nb x mx y my gx gy eo lt ep em
   ·dsimp only at eo ep;rw [eo] at ep em;have d:=(Nat.dvd_add_right (Nat.dvd_of_mod_eq_zero em)).1 (by rw [<- ep];exact Nat.dvd_of_mod_eq_zero h3);have:=Nat.le_of_dvd hp d;omega
  ·rcases my with my|rfl
   ·dsimp only at ep;rcases List.mem_append.1 my with hm|hm
    ·have:=hA y hm;have:=p2 y.o;omega
    ·have:=hB y hm;have:=p2 y.o;omega
   ·dsimp only at ep;omega
 ·intro x hx;have mx:x∈A++B\/x=⟨a,o,0⟩:=by simp at hx ⊢;rcases hx with h|h|h <;> simp [h]
  rcases mx with mx|rfl
  ·exact h.g01 x mx
  ·exact .inl rfl
theorem Mid.take{n:Nat}{A B:List Bk}{a o g:Nat}(h:Mid n A ⟨a,o,g⟩ B):Inv n (A++⟨a,o,1⟩::B):=by
 obtain⟨h1,h2,h3,h4⟩:=F6 h.tl;refine⟨h.n1,EH h1 h2 h3 h4,h.nb.sub fun z hz gz=>?_,fun z hz=>?_⟩
 ·simp at hz ⊢;rcases hz with h|rfl|h
  ·simp [h]
  ·cases gz
  ·simp [h]
 ·simp at hz;rcases hz with h'|rfl|h'
  ·exact h.g01 z (by simp [h'])
  ·exact .inr rfl
  ·exact h.g01 z (by simp [h'])
def bud(a o:Nat):Nat:=if a/2^o%2=0 then a+2^o else a-2^o
theorem KC{a o:Nat}(h:a%2^o=0):a/2^o%2=0↔a%2^(o+1)=0:=by
 have hp:=p2 o;have e:=Nat.div_add_mod a (2^o);rw [h,Nat.add_zero] at e;rw [Nat.pow_succ,Nat.mod_mul,h];simp only [Nat.zero_add,Nat.mul_eq_zero];omega
theorem Mid.free{n:Nat}{A B:List Bk}{a o g:Nat}(h:Mid n A ⟨a,o,g⟩ B)(hb:o<10->((bud a o:Nat):Int)∉fr o (A++B)):Inv n (A++⟨a,o,0⟩::B):=by
 obtain⟨h1,h2,h3,h4⟩:=F6 h.tl;dsimp only at h3;refine⟨h.n1,EH h1 h2 h3 h4,?_,fun z hz=>?_⟩
 ·intro x hx y hy gx gy eo lt ep em;have mx:x∈A++B\/x=⟨a,o,0⟩:=by simp at hx ⊢;rcases hx with h|h|h <;> simp [h]
  have my:y∈A++B\/y=⟨a,o,0⟩:=by simp at hy ⊢;rcases hy with h|h|h <;> simp [h]
  rcases mx with mx|rfl
  ·rcases my with my|rfl
   ·exact h.nb x mx y my gx gy eo lt ep em
   ·dsimp only at eo ep;rw [eo] at ep em lt;refine hb lt (I8.2 ⟨x,mx,gx,eo,?_⟩);unfold bud;rw [if_neg (fun e=>?_)]
    ·omega
    ·rw [KC h3,ep] at e;have d:=(Nat.dvd_add_right (Nat.dvd_of_mod_eq_zero em)).1 (Nat.dvd_of_mod_eq_zero e);have:=Nat.le_of_dvd (p2 o) d;rw [Nat.pow_succ] at this;have:=p2 o;omega
  ·rcases my with my|rfl
   ·dsimp only at eo ep em lt;refine hb lt (I8.2 ⟨y,my,gy,eo.symm,?_⟩);unfold bud;rw [if_pos ((KC h3).2 em),ep]
   ·have:=p2 o;dsimp only at ep;omega
 ·simp at hz;rcases hz with h'|rfl|h'
  ·exact h.g01 z (by simp [h'])
  ·exact .inl rfl
  ·exact h.g01 z (by simp [h'])
theorem Mid.one{n:Nat}{A B:List Bk}{a o g g':Nat}(h:Mid n A ⟨a,o,g⟩ B)(ho:o<10)(hb:((bud a o:Nat):Int)∈fr o (A++B)) :
 (a/2^o%2=0/\∃B',B=⟨a+2^o,o,0⟩::B'/\Mid n A ⟨a,o+1,g'⟩ B')\/(a/2^o%2=1/\∃A',A=A'++[⟨a-2^o,o,0⟩]/\2^o<=a/\Mid n A' ⟨a-2^o,o+1,g'⟩ B):=by
 obtain⟨h1,h2,h3,h4⟩:=F6 h.tl;dsimp only at h1 h2 h3 h4;obtain⟨⟨yp,yo,yg⟩,hy,gy,oy,py⟩:=I8.1 hb;dsimp only at gy oy py;subst gy oy;have hp:=p2 yo;have e2:2^(yo+1)=2^yo+2^yo:=by rw [Nat.pow_succ];omega
 have py':yp=bud a yo:=by omega
 obtain⟨hA,hB⟩:=MI h.tl;dsimp only at hA hB;unfold bud at py';split at py' <;> rename_i hev
 ·left;refine⟨hev,?_⟩;rcases List.mem_append.1 hy with hm|hm
  ·have:=hA _ hm;dsimp only at this;omega
  ·have hle:=BC h2 hm;dsimp only at hle;obtain⟨z,B',rfl,ez,hz⟩:=tile_first h2 (by omega);have:z=⟨yp,yo,0⟩:=KY h2 (by simp) hm (by dsimp only;omega);subst this;dsimp only at ez hz;subst ez;refine⟨B',rfl,h.n1,EH h1 (by dsimp only;rw [e2,<- Nat.add_assoc];exact hz) ((KC h3).1 hev) (by dsimp only;omega),h.nb.sub fun z hz _=>?_,fun z hz=>h.g01 z ?_⟩ <;>
   ·simp at hz ⊢;rcases hz with h|h <;> simp [h]
 ·right;have hod:a/2^yo%2=1:=by omega
  have hle:2^yo<=a:=by
   refine Nat.le_of_not_lt fun hlt=>?_;rw [Nat.div_eq_of_lt hlt] at hod
   cases hod
  refine⟨hod,?_⟩;rcases List.mem_append.1 hy with hm|hm
  ·obtain⟨A',z,rfl,ez,hz⟩:=tile_last h1 (by omega);have hs:=tile_pw h1;have:z=⟨yp,yo,0⟩:=by
    simp at hm;rcases hm with hm|hm
    ·have:=(List.pairwise_append.1 hs).2.2 _ hm z (by simp);dsimp only at this;have:=p2 z.o;omega
    ·exact hm.symm
   subst this;dsimp only at ez hz;subst py';have hm2:(a-2^yo)%2^(yo+1)=0:=by
    have hm3:(a-2^yo)%2^yo=0:=by
     have:=Nat.mod_eq_zero_of_dvd (Nat.dvd_sub (Nat.dvd_of_mod_eq_zero h3) (Nat.dvd_refl (2^yo)));exact this
    rw [<- KC hm3];have:(a-2^yo)/2^yo=a/2^yo-1:=by
     have:=Nat.sub_mul_div a (2^yo) 1;rw [Nat.mul_one] at this;exact this
    rw [this];omega
   refine⟨A',rfl,hle,h.n1,EH hz (by dsimp only;rw [e2,<- Nat.add_assoc,Nat.sub_add_cancel hle];exact h2) hm2 (by dsimp only;omega),h.nb.sub fun z hz _=>?_,fun z hz=>h.g01 z ?_⟩ <;>
   ·simp at hz ⊢;rcases hz with h|h <;> simp [h]
  ·have:=hB _ hm;dsimp only at this;omega
end Go.Proofs.YtdgbechegbmpcaaGreatDoor
