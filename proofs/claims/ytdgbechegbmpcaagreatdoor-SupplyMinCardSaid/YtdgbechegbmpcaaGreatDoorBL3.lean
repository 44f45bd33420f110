/- Part of a proof that a law returns true. Conditions: those in each theorem. -/
import Derived.Test.YtdgbechegbmpcaaGreatDoorB0
import Derived.Shelf.SlIterI.Collect
import Derived.Shelf.SortM.Plain
import Derived.Shelf.SortM.SortNone
import Derived.Shelf.Spec.SlicesGrow
import Derived.Laws.CopyRow
set_option linter.unusedSimpArgs false
set_option linter.unusedVariables false
set_option maxRecDepth 100000
namespace Go.Proofs.YtdgbechegbmpcaaGreatDoor
open Go Go.Eng Go.Proofs.Tryz
open Go.Value (bool func slice agg int)
open Option (isNone)
open Go.IntKind (wrap)
open List (replicate range)
variable {A B l:List Bk}{a:Nat}
def BW(n:Nat)(l:List Bk):Bst:=⟨n,λo=>fr o l,tk l⟩
theorem D9(j:Nat)(x:Bk)(l:List Bk):fr j (x::l)=(if x.g=0/\x.o=j then [(x.p:Int)] else [])++fr j l:=by
 by_cases h:x.g=0/\x.o=j
 .rw [C1u _ h.1 h.2,if_pos h];rfl
 .rw [C4x _ h,if_neg h];rfl
theorem GN(x:Bk)(l:List Bk):tk (x::l)=(if x.g=1 then [((x.p:Int),(x.o:Int))] else [])++tk l:=by
 by_cases h:x.g=1
 .rw [C0h _ h,if_pos h];rfl
 .rw [C36 _ h,if_neg h];rfl
theorem C1v(j:Nat)(l:List Bk):(fr j l).length<=l.length:=by
 unfold fr;rw [lmp];exact List.length_filter_le _ _
theorem A56{n:Nat}(h:D0 0 l n)(hn:n<=128):Small (BW n l):=λo _=>by
 have:=RW h;have:=C1v o l;show(fr o l).length<=_;omega
theorem QR(n:Nat)(x:Bk)(l:List Bk):∀k,E0 (BW n (x::l)) k=E0 (BW n l) k+if x.g=0/\x.o<k then 2^x.o else 0
 | 0=>by simp [E0]
 | k+1=>by
  have ih:=QR n x l k;have e1:E0 (BW n (x::l)) (k+1)=E0 (BW n (x::l)) k+(fr k (x::l)).length*2^k:=rfl;have e2:E0 (BW n l) (k+1)=E0 (BW n l) k+(fr k l).length*2^k:=rfl;rw [e1,e2,ih,D9];by_cases h:x.g=0/\x.o=k
  .rw [if_pos h,if_neg (by omega),if_pos (by omega),h.2];simp only [lap,List.length_cons,List.length_nil,Nat.add_mul];omega
  .rw [if_neg h];by_cases h2:x.g=0/\x.o<k
   .rw [if_pos h2,if_pos (by omega)];simp only [List.nil_append];omega
   .rw [if_neg h2,if_neg (by omega)];simp
theorem A0r(n:Nat):∀k,E0 (BW n []) k=0
 | 0=>rfl
 | k+1=>by
  have e2:E0 (BW n []) (k+1)=E0 (BW n []) k+0*2^k:=rfl;rw [e2,A0r n k];simp
theorem DR(x:Bk)(l:List Bk):BD (x::l)=(if x.g=0 then 2^x.o else 0)+BD l:=rfl
theorem A3p(n:Nat):∀l:List Bk,(∀x∈l,x.o<=10)->E0 (BW n l) 11=BD l
 | [],_=>A0r n 11
 | x::l,h=>by
  rw [QR,A3p n l λy hy=>h y (mcm _ hy)];have:=h x (by simp);rw [DR];by_cases g:x.g=0
  .rw [if_pos ⟨g,by omega⟩,if_pos g];omega
  .rw [if_neg (λe=>g e.1),if_neg g];omega
theorem B7b{j:Nat}:0<(fr j l).length↔∃x∈l,x.g=0/\x.o=j:=by
 rw [List.length_pos_iff_exists_mem];constructor
 .rintro ⟨k,hk⟩;obtain⟨x,h1,h2,h3,_⟩:=IV.1 hk;exact⟨x,h1,h2,h3⟩
 .rintro ⟨x,h1,h2,h3⟩;exact⟨_,IV.2 ⟨x,h1,h2,h3,rfl⟩⟩
theorem OX{x:Bk}{n k:Nat}(h:D0 0 (A++x::B) n)(hg:x.g≠0)(h1:x.p<=k)(h2:k<x.p+2^x.o)(o:Nat):(k:Int)∉fr o (A++x::B):=by
 obtain⟨hA,hB⟩:=B0i h h1 h2;intro hm;obtain⟨y,hy,gy,_,e⟩:=IV.1 hm;simp only [List.mem_append,List.mem_cons] at hy;rcases hy with hy|rfl|hy
 .exact hA y hy (by omega)
 .exact hg gy
 .exact hB y hy (by omega)
theorem B65{x:Bk}{n k:Nat}(h:D0 0 (A++x::B) n)(hg:x.g≠1)(h1:x.p<=k)(h2:k<x.p+2^x.o)(j:Int):((k:Int),j)∉tk (A++x::B):=by
 obtain⟨hA,hB⟩:=B0i h h1 h2;intro hm;obtain⟨y,hy,gy,e,_⟩:=A6h.1 hm;simp only [List.mem_append,List.mem_cons] at hy;rcases hy with hy|rfl|hy
 .exact hA y hy (by omega)
 .exact hg gy
 .exact hB y hy (by omega)
section
variable {w w':WD}{b t:Nat}{m:Nat->Nat}{n:Nat}{l l':List Bk}
theorem BAt.C7a(h:BAt w b m t (BW n l)){o:Nat}(ho:o<11)(k:AB (·=m o) w w'){q:List Int}(hm:BJ w' (m o) (JA q))(hp:q.Perm (fr o l'))(hq:∀j,j<11->j≠o->fr j l'=fr j l)(ht:tk l'=tk l):BAt w' b m t (BW n l'):=by
 refine⟨h.so.kx k (Ne.symm (h.dt o ho).2),λj hj=>?_,?_,h.dm,h.dt,h.db⟩
 .by_cases e:j=o
  .subst e;exact hm.perm (hp.map _)
  .have:=(h.mf j hj).kx k (λe'=>e (by have:=h.dm j o hj ho;exact Classical.byContradiction λhne=>this hne e'))
   show BJ w' (m j) (JA (fr j l'))
   rw [hq j hj e];exact this
 .show BJ w' t (MN (tk l'))
  rw [ht];exact h.mt.kx k (Ne.symm (h.dt o ho).1)
theorem BAt.ins(h:BAt w b m t (BW n l)){o:Nat}(ho:o<11)(ha:(a:Int)∉fr o l)(hr:a<=1000000)(hp:(fr o l').Perm ((a:Int)::fr o l))(hq:∀j,j<11->j≠o->fr j l'=fr j l)(ht:tk l'=tk l) :
 ∃w',EF prog 142 (.map (some (m o))) (.int .i64 (a:Int)) (.bool true) w w'/\AB (·=m o) w w'/\BAt w' b m t (BW n l'):=by
 obtain⟨w',hu,hm,hk⟩:=KL (mt:=142) (vt:=4) (kt:=3) underlying142 underlying3 (h.mf o ho) (a:Int) (.bool true) (by omega) (EH λv hv=>ha (by
  obtain⟨x,hx,e⟩:=List.mem_map.1 hv
  cases e
  exact hx))
 refine⟨w',hu,hk,h.C7a ho hk (q:=fr o l++[(a:Int)]) (by
  have e:JA (fr o l++[(a:Int)])=JA ((BW n l).F o)++[((a:Int),Value.bool true)]:=by simp [JA,BW]
  rw [e];exact hm) ?_ hq ht⟩
 exact(List.perm_append_comm.trans hp.symm)
theorem BAt.del(h:BAt w b m t (BW n l)){o:Nat}(ho:o<11)(hp:(fr o l).Perm ((a:Int)::fr o l'))(ha:(a:Int)∉fr o l')(hq:∀j,j<11->j≠o->fr j l'=fr j l)(ht:tk l'=tk l) :
 ∃w',IG prog #[142,3] 0 (.map (some (m o))) (.int .i64 (a:Int)) w w'/\AB (·=m o) w w'/\BAt w' b m t (BW n l'):=by
 obtain⟨w',hu,hm,hk⟩:=C5l (mt:=142) (vt:=4) (kt:=3) underlying142 underlying3 (h.mf o ho) (a:Int) (ty:=0)
 refine⟨w',hu,hk,h.C7a ho hk (q:=(fr o l).filter (λk=>k != (a:Int))) (by
  have e:JA ((fr o l).filter (λk=>k != (a:Int)))=(JA ((BW n l).F o)).filter λp=>p.1 != (a:Int):=by
   simp only [JA,BW,List.filter_map]
   rfl
  rw [e];exact hm) ?_ hq ht⟩
 refine(hp.filter _).trans ?_;rw [List.filter_cons_of_neg (by simp),List.filter_eq_self.2];intro x hx;simp only [bne_iff_ne,ne_eq];intro e;exact ha (e▸hx)
theorem BAt.C69(h:BAt w b m t (BW n l))(k:AB (·=t) w w'){q:List (Int×Int)}(hm:BJ w' t (MN q))(hp:q.Perm (tk l'))(hq:∀j,j<11->fr j l'=fr j l):BAt w' b m t (BW n l'):=by
 refine⟨h.so.kx k (Ne.symm h.db),λj hj=>?_,hm.perm (hp.map _),h.dm,h.dt,h.db⟩
 show BJ w' (m j) (JA (fr j l'))
 rw [hq j hj];exact(h.mf j hj).kx k (h.dt j hj).1
theorem BAt.insT(h:BAt w b m t (BW n l)){o:Nat}(ha:∀j,((a:Int),j)∉tk l)(hr:a<=1000000)(hp:(tk l').Perm (((a:Int),(o:Int))::tk l))(hq:∀j,j<11->fr j l'=fr j l) :
 ∃w',EF prog 90 (.map (some t)) (.int .i64 (a:Int)) (.int .i64 (o:Int)) w w'/\AB (·=t) w w'/\BAt w' b m t (BW n l'):=by
 obtain⟨w',hu,hm,hk⟩:=KL (mt:=90) (vt:=3) (kt:=3) underlying90 underlying3 h.mt (a:Int) (.int .i64 (o:Int)) (by omega) (EH λv hv=>by
  obtain⟨⟨x,y⟩,hx,e⟩:=List.mem_map.1 hv
  cases e
  exact ha _ hx)
 refine⟨w',hu,hk,h.C69 hk (q:=tk l++[((a:Int),(o:Int))]) (by
  have e:MN (tk l++[((a:Int),(o:Int))])=MN ((BW n l).T)++[((a:Int),int .i64 (o:Int))]:=by simp [MN,BW]
  rw [e];exact hm) (List.perm_append_comm.trans hp.symm) hq⟩
theorem BAt.delT(h:BAt w b m t (BW n l)){o:Nat}(hp:(tk l).Perm (((a:Int),(o:Int))::tk l'))(ha:∀j,((a:Int),j)∉tk l')(hq:∀j,j<11->fr j l'=fr j l) :
 ∃w',IG prog #[90,3] 0 (.map (some t)) (.int .i64 (a:Int)) w w'/\AB (·=t) w w'/\BAt w' b m t (BW n l'):=by
 obtain⟨w',hu,hm,hk⟩:=C5l (mt:=90) (vt:=3) (kt:=3) underlying90 underlying3 h.mt (a:Int) (ty:=0)
 refine⟨w',hu,hk,h.C69 hk (q:=(tk l).filter (λk=>k.1 != (a:Int))) (by
  have e:MN ((tk l).filter (λk=>k.1 != (a:Int)))=(MN ((BW n l).T)).filter λp=>p.1 != (a:Int):=by
   simp only [MN,BW,List.filter_map]
   rfl
  rw [e];exact hm) ?_ hq⟩
 refine(hp.filter _).trans ?_;rw [List.filter_cons_of_neg (by simp),List.filter_eq_self.2];rintro ⟨x,y⟩ hx;simp only [bne_iff_ne,ne_eq];intro e;exact ha y (e▸hx)
variable {A B:List Bk}{a o:Nat}
theorem BAt.hold(h:BAt w b m t (BW n (A++⟨a,o,0⟩::B)))(ht:D0 0 (A++⟨a,o,0⟩::B) n):∃w',IG prog #[142,3] 0 (.map (some (m o))) (.int .i64 (a:Int)) w w'/\AB (·=m o) w w'/\BAt w' b m t (BW n (A++⟨a,o,2⟩::B)):=by
 have h10:=(BI ht (x:=⟨a,o,0⟩) (by simp)).2.2.2;dsimp only at h10;refine h.del (by omega) (by simp only [EI,D9];simp) ?_ (λj _ hj=>by simp only [EI,D9];simp [Ne.symm hj]) (by simp [JD,GN]);obtain⟨h1,h2,h3,h4⟩:=FC ht;exact OX (n:=n) (x:=⟨a,o,2⟩) (EN h1 h2 h3 h4) (by simp) (nlr _) (by have:=p2 o;dsimp only;omega) o
theorem BAt.lo(h:BAt w b m t (BW n (A++⟨a,o+1,2⟩::B)))(ht:D0 0 (A++⟨a,o+1,2⟩::B) n)(hn:n<=128):∃w',EF prog 142 (.map (some (m o))) (.int .i64 ((a+2^o:Nat):Int)) (.bool true) w w'/\AB (·=m o) w w'/\BAt w' b m t (BW n (A++⟨a,o,2⟩::⟨a+2^o,o,0⟩::B)):=by
 have h10:=BI ht (x:=⟨a,o+1,2⟩) (by simp);dsimp only at h10;have e2:2^(o+1)=2^o+2^o:=by rw [Nat.pow_succ];omega
 have:=p2 o;refine h.ins (by omega) (OX ht (by simp) (by dsimp only;omega) (by dsimp only;omega) o) (by omega) (by simp only [EI,D9];simp) (λj _ hj=>by simp only [EI,D9];simp [Ne.symm hj]) (by simp [JD,GN])
theorem BAt.hi(h:BAt w b m t (BW n (A++⟨a,o+1,2⟩::B)))(ht:D0 0 (A++⟨a,o+1,2⟩::B) n)(hn:n<=128):∃w',EF prog 142 (.map (some (m o))) (.int .i64 (a:Int)) (.bool true) w w'/\AB (·=m o) w w'/\BAt w' b m t (BW n ((A++[⟨a,o,0⟩])++⟨a+2^o,o,2⟩::B)):=by
 have h10:=BI ht (x:=⟨a,o+1,2⟩) (by simp);dsimp only at h10;have e2:2^(o+1)=2^o+2^o:=by rw [Nat.pow_succ];omega
 have:=p2 o;refine h.ins (by omega) (OX ht (by simp) (by dsimp only;omega) (by dsimp only;omega) o) (by omega) (by simp only [EI,D9];simp) (λj _ hj=>by simp only [EI,D9];simp [Ne.symm hj]) (by simp [JD,GN])
theorem BAt.take(h:BAt w b m t (BW n (A++⟨a,o,2⟩::B)))(ht:D0 0 (A++⟨a,o,2⟩::B) n)(hn:n<=128):∃w',EF prog 90 (.map (some t)) (.int .i64 (a:Int)) (.int .i64 (o:Int)) w w'/\AB (·=t) w w'/\BAt w' b m t (BW n (A++⟨a,o,1⟩::B)):=by
 have h10:=BI ht (x:=⟨a,o,2⟩) (by simp);dsimp only at h10;have:=p2 o;refine h.insT (B65 ht (by simp) (by dsimp only;omega) (by dsimp only;omega)) (by omega) (by simp only [JD,GN];simp) (λj _=>by simp only [EI,D9];simp)
theorem BAt.give(h:BAt w b m t (BW n (A++⟨a,o,1⟩::B)))(ht:D0 0 (A++⟨a,o,1⟩::B) n):∃w',IG prog #[90,3] 0 (.map (some t)) (.int .i64 (a:Int)) w w'/\AB (·=t) w w'/\BAt w' b m t (BW n (A++⟨a,o,2⟩::B)):=by
 have:=p2 o;obtain⟨h1,h2,h3,h4⟩:=FC ht;refine h.delT (o:=o) (by simp only [JD,GN];simp) ?_ (λj _=>by simp only [EI,D9];simp);exact B65 (n:=n) (x:=⟨a,o,2⟩) (EN h1 h2 h3 h4) (by simp) (nlr _) (by have:=p2 o;dsimp only;omega)
theorem BAt.oneL(h:BAt w b m t (BW n (A++⟨a,o,2⟩::⟨a+2^o,o,0⟩::B)))(ho:o<10)(ht:D0 0 (A++⟨a,o+1,2⟩::B) n):∃w',IG prog #[142,3] 0 (.map (some (m o))) (.int .i64 ((a+2^o:Nat):Int)) w w'/\AB (·=m o) w w'/\BAt w' b m t (BW n (A++⟨a,o+1,2⟩::B)):=by
 have e2:2^(o+1)=2^o+2^o:=by rw [Nat.pow_succ];omega
 have:=p2 o;exact h.del (by omega) (by simp only [EI,D9];simp) (OX ht (by simp) (by dsimp only;omega) (by dsimp only;omega) o) (λj _ hj=>by simp only [EI,D9];simp [Ne.symm hj]) (by simp [JD,GN])
theorem BAt.oneU(h:BAt w b m t (BW n ((A++[⟨a-2^o,o,0⟩])++⟨a,o,2⟩::B)))(ho:o<10)(ht:D0 0 (A++⟨a-2^o,o+1,2⟩::B) n):∃w',IG prog #[142,3] 0 (.map (some (m o))) (.int .i64 ((a-2^o:Nat):Int)) w w'/\AB (·=m o) w w'/\BAt w' b m t (BW n (A++⟨a-2^o,o+1,2⟩::B)):=by
 have e2:2^(o+1)=2^o+2^o:=by rw [Nat.pow_succ];omega
 have:=p2 o;exact h.del (by omega) (by simp only [EI,D9];simp) (OX ht (by simp) (by dsimp only;omega) (by dsimp only;omega) o) (λj _ hj=>by simp only [EI,D9];simp [Ne.symm hj]) (by simp [JD,GN])
theorem BAt.free(h:BAt w b m t (BW n (A++⟨a,o,2⟩::B)))(ht:D0 0 (A++⟨a,o,2⟩::B) n)(hn:n<=128):∃w',EF prog 142 (.map (some (m o))) (.int .i64 (a:Int)) (.bool true) w w'/\AB (·=m o) w w'/\BAt w' b m t (BW n (A++⟨a,o,0⟩::B)):=by
 have h10:=BI ht (x:=⟨a,o,2⟩) (by simp);dsimp only at h10;have:=p2 o;exact h.ins (by omega) (OX ht (by simp) (by dsimp only;omega) (by dsimp only;omega) o) (by omega) (by simp only [EI,D9];simp) (λj _ hj=>by simp only [EI,D9];simp [Ne.symm hj]) (by simp [JD,GN])
end
end Go.Proofs.YtdgbechegbmpcaaGreatDoor
namespace Go.Proofs
open Go.Shelf
def Tryz.A3e:Go.Shelf.Ren:=⟨λ|7=>231|10=>270|n=>n,λ|23=>142|26=>3|3=>4|28=>159|0=>0|27=>158|33=>63|4=>4|n=>n,λ|n=>n⟩
theorem Tryz.C1f:Go.Proofs.SlLaysZI.n7 Tryz.prog Tryz.A3e:={
 mixed:=by kernel_rfl
 f7:=⟨Tryz.f231.name,by decide,Tryz.func231.trans (congrArg some (by kernel_rfl))⟩
 f10:=⟨Tryz.f270.name,by decide,Tryz.func270.trans (congrArg some (by kernel_rfl))⟩
 t0:=Tryz.underlying0
 a0:=Tryz.isAgg0
 z0:=Tryz.sizeOf0
 v0:=Tryz.zeroValue0
 t4:=Tryz.underlying4
 a4:=Tryz.isAgg4
 z4:=Tryz.sizeOf4
 v4:=Tryz.zeroValue4
 t23:=Tryz.underlying142
 a23:=Tryz.isAgg142
 z23:=Tryz.sizeOf142
 v23:=Tryz.zeroValue142
 t26:=Tryz.underlying3
 a26:=Tryz.isAgg3
 z26:=Tryz.sizeOf3
 v26:=Tryz.zeroValue3
 t27:=Tryz.underlying158
 a27:=Tryz.isAgg158
 z27:=Tryz.sizeOf158
 v27:=Tryz.zeroValue158
 t28:=Tryz.underlying159
 a28:=Tryz.isAgg159
 z28:=Tryz.sizeOf159
 v28:=Tryz.zeroValue159
 t33:=Tryz.underlying63
 a33:=Tryz.isAgg63
 z33:=Tryz.sizeOf63
 v33:=Tryz.zeroValue63}
def Tryz.A3f:Go.Shelf.Ren:=⟨λ|7=>214|10=>261|n=>n,λ|23=>295|26=>3|3=>292|28=>159|0=>0|27=>158|33=>63|4=>4|n=>n,λ|n=>n⟩
theorem Tryz.C1g:Go.Proofs.SlLaysZI.n7 Tryz.prog Tryz.A3f:={
 mixed:=by kernel_rfl
 f7:=⟨Tryz.f214.name,by decide,Tryz.func214.trans (congrArg some (by kernel_rfl))⟩
 f10:=⟨Tryz.f261.name,by decide,Tryz.func261.trans (congrArg some (by kernel_rfl))⟩
 t0:=Tryz.underlying0
 a0:=Tryz.isAgg0
 z0:=Tryz.sizeOf0
 v0:=Tryz.zeroValue0
 t4:=Tryz.underlying4
 a4:=Tryz.isAgg4
 z4:=Tryz.sizeOf4
 v4:=Tryz.zeroValue4
 t23:=Tryz.underlying295
 a23:=Tryz.isAgg295
 z23:=Tryz.sizeOf295
 v23:=Tryz.zeroValue295
 t26:=Tryz.underlying3
 a26:=Tryz.isAgg3
 z26:=Tryz.sizeOf3
 v26:=Tryz.zeroValue3
 t27:=Tryz.underlying158
 a27:=Tryz.isAgg158
 z27:=Tryz.sizeOf158
 v27:=Tryz.zeroValue158
 t28:=Tryz.underlying159
 a28:=Tryz.isAgg159
 z28:=Tryz.sizeOf159
 v28:=Tryz.zeroValue159
 t33:=Tryz.underlying63
 a33:=Tryz.isAgg63
 z33:=Tryz.sizeOf63
 v33:=Tryz.zeroValue63}
def Tryz.PX:Go.Shelf.Ren:=⟨λ|6=>139|8=>205|9=>211|11=>250|13=>260|12=>259|23=>289|24=>290|14=>280|15=>281|16=>282|17=>283|18=>284|19=>285|20=>286|21=>287|22=>288|25=>308|26=>309|27=>310|28=>311|29=>312|30=>313|31=>320|n=>n,λ|26=>3|28=>159|24=>27|0=>0|3=>3|37=>306|48=>379|50=>76|4=>4|40=>392|39=>391|45=>309|5=>5|9=>9|51=>408|55=>412|57=>417|58=>73|33=>63|n=>n,λ|n=>n⟩
theorem Tryz.B0c:Go.Proofs.SlLaysZI.n6 Tryz.prog Tryz.PX:={
 mixed:=by kernel_rfl
 f6:=⟨Tryz.f139.name,by decide,Tryz.func139.trans (congrArg some (by kernel_rfl))⟩
 f8:=⟨Tryz.f205.name,by decide,Tryz.func205.trans (congrArg some (by kernel_rfl))⟩
 f11:=⟨Tryz.f250.name,by decide,Tryz.func250.trans (congrArg some (by kernel_rfl))⟩
 t0:=Tryz.underlying0
 a0:=Tryz.isAgg0
 z0:=Tryz.sizeOf0
 v0:=Tryz.zeroValue0
 t24:=Tryz.underlying27
 a24:=Tryz.isAgg27
 z24:=Tryz.sizeOf27
 v24:=Tryz.zeroValue27
 t26:=Tryz.underlying3
 a26:=Tryz.isAgg3
 z26:=Tryz.sizeOf3
 v26:=Tryz.zeroValue3
 t28:=Tryz.underlying159
 a28:=Tryz.isAgg159
 z28:=Tryz.sizeOf159
 v28:=Tryz.zeroValue159
 i26:=by kernel_rfl}
def Tryz.OR:Go.Shelf.Ren:=⟨λ|5=>211|8=>260|7=>259|19=>289|20=>290|10=>280|11=>281|12=>282|13=>283|14=>284|15=>285|16=>286|17=>287|18=>288|30=>308|31=>309|32=>310|33=>311|34=>312|35=>313|40=>320|n=>n,λ|23=>27|25=>3|3=>3|32=>306|22=>27|0=>0|44=>379|46=>76|4=>4|36=>392|35=>391|41=>309|5=>5|9=>9|53=>408|57=>412|63=>417|64=>73|n=>n,λ|n=>n⟩
theorem Tryz.B4b:Go.Proofs.SlLaysM.n5 Tryz.prog Tryz.OR:={
 mixed:=by kernel_rfl
 f5:=⟨Tryz.f211.name,by decide,Tryz.func211.trans (congrArg some (by kernel_rfl))⟩
 f7:=⟨Tryz.f259.name,by decide,Tryz.func259.trans (congrArg some (by kernel_rfl))⟩
 f8:=Tryz.func260.trans (congrArg some (by kernel_rfl))
 f10:=⟨Tryz.f280.name,by decide,Tryz.func280.trans (congrArg some (by kernel_rfl))⟩
 f11:=⟨Tryz.f281.name,by decide,Tryz.func281.trans (congrArg some (by kernel_rfl))⟩
 f12:=⟨Tryz.f282.name,by decide,Tryz.func282.trans (congrArg some (by kernel_rfl))⟩
 f13:=⟨Tryz.f283.name,by decide,Tryz.func283.trans (congrArg some (by kernel_rfl))⟩
 f14:=⟨Tryz.f284.name,by decide,Tryz.func284.trans (congrArg some (by kernel_rfl))⟩
 f15:=⟨Tryz.f285.name,by decide,Tryz.func285.trans (congrArg some (by kernel_rfl))⟩
 f16:=⟨Tryz.f286.name,by decide,Tryz.func286.trans (congrArg some (by kernel_rfl))⟩
 f17:=⟨Tryz.f287.name,by decide,Tryz.func287.trans (congrArg some (by kernel_rfl))⟩
 f18:=⟨Tryz.f288.name,by decide,Tryz.func288.trans (congrArg some (by kernel_rfl))⟩
 f19:=Tryz.func289.trans (congrArg some (by kernel_rfl))
 f20:=Tryz.func290.trans (congrArg some (by kernel_rfl))
 f30:=⟨Tryz.f308.name,by decide,Tryz.func308.trans (congrArg some (by kernel_rfl))⟩
 f31:=Tryz.func309.trans (congrArg some (by kernel_rfl))
 f32:=Tryz.func310.trans (congrArg some (by kernel_rfl))
 f33:=⟨Tryz.f311.name,by decide,Tryz.func311.trans (congrArg some (by kernel_rfl))⟩
 f34:=⟨Tryz.f312.name,by decide,Tryz.func312.trans (congrArg some (by kernel_rfl))⟩
 f35:=⟨Tryz.f313.name,by decide,Tryz.func313.trans (congrArg some (by kernel_rfl))⟩
 f40:=⟨Tryz.f320.name,by decide,Tryz.func320.trans (congrArg some (by kernel_rfl))⟩
 t0:=Tryz.underlying0
 a0:=Tryz.isAgg0
 z0:=Tryz.sizeOf0
 v0:=Tryz.zeroValue0
 t3:=Tryz.underlying3
 a3:=Tryz.isAgg3
 z3:=Tryz.sizeOf3
 v3:=Tryz.zeroValue3
 t4:=Tryz.underlying4
 a4:=Tryz.isAgg4
 z4:=Tryz.sizeOf4
 v4:=Tryz.zeroValue4
 t5:=Tryz.underlying5
 a5:=Tryz.isAgg5
 z5:=Tryz.sizeOf5
 v5:=Tryz.zeroValue5
 t9:=Tryz.underlying9
 a9:=Tryz.isAgg9
 z9:=Tryz.sizeOf9
 v9:=Tryz.zeroValue9
 t22:=Tryz.underlying27
 a22:=Tryz.isAgg27
 z22:=Tryz.sizeOf27
 v22:=Tryz.zeroValue27
 t23:=Tryz.underlying27
 a23:=Tryz.isAgg27
 z23:=Tryz.sizeOf27
 v23:=Tryz.zeroValue27
 t25:=Tryz.underlying3
 a25:=Tryz.isAgg3
 z25:=Tryz.sizeOf3
 v25:=Tryz.zeroValue3
 t32:=Tryz.underlying306
 a32:=Tryz.isAgg306
 z32:=Tryz.sizeOf306
 v32:=Tryz.zeroValue306
 t35:=Tryz.underlying391
 a35:=Tryz.isAgg391
 z35:=Tryz.sizeOf391
 v35:=Tryz.zeroValue391
 t36:=Tryz.underlying392
 a36:=Tryz.isAgg392
 z36:=Tryz.sizeOf392
 v36:=Tryz.zeroValue392
 t41:=Tryz.underlying309
 a41:=Tryz.isAgg309
 z41:=Tryz.sizeOf309
 v41:=Tryz.zeroValue309
 t44:=Tryz.underlying379
 a44:=Tryz.isAgg379
 z44:=Tryz.sizeOf379
 v44:=Tryz.zeroValue379
 t46:=Tryz.underlying76
 a46:=Tryz.isAgg76
 z46:=Tryz.sizeOf76
 v46:=Tryz.zeroValue76
 t53:=Tryz.underlying408
 a53:=Tryz.isAgg408
 z53:=Tryz.sizeOf408
 v53:=Tryz.zeroValue408
 t57:=Tryz.underlying412
 a57:=Tryz.isAgg412
 z57:=Tryz.sizeOf412
 v57:=Tryz.zeroValue412
 t63:=Tryz.underlying417
 a63:=Tryz.isAgg417
 z63:=Tryz.sizeOf417
 v63:=Tryz.zeroValue417
 t64:=Tryz.underlying73
 a64:=Tryz.isAgg73
 z64:=Tryz.sizeOf73
 v64:=Tryz.zeroValue73}
def Tryz.B2c:Go.Shelf.Ren:=⟨λ|4=>265|n=>n,λ|22=>239|25=>242|3=>3|4=>4|9=>9|20=>20|0=>0|2=>3|n=>n,λ|n=>n⟩
theorem Tryz.C4v:Go.Proofs.Lays8.n4 Tryz.prog Tryz.B2c:={
 mixed:=by kernel_rfl
 f4:=⟨Tryz.f265.name,by decide,Tryz.func265.trans (congrArg some (by kernel_rfl))⟩
 t0:=Tryz.underlying0
 a0:=Tryz.isAgg0
 z0:=Tryz.sizeOf0
 v0:=Tryz.zeroValue0
 t3:=Tryz.underlying3
 a3:=Tryz.isAgg3
 z3:=Tryz.sizeOf3
 v3:=Tryz.zeroValue3
 t4:=Tryz.underlying4
 a4:=Tryz.isAgg4
 z4:=Tryz.sizeOf4
 v4:=Tryz.zeroValue4
 t9:=Tryz.underlying9
 a9:=Tryz.isAgg9
 z9:=Tryz.sizeOf9
 v9:=Tryz.zeroValue9
 t20:=Tryz.underlying20
 a20:=Tryz.isAgg20
 z20:=Tryz.sizeOf20
 v20:=Tryz.zeroValue20
 t22:=Tryz.underlying239
 a22:=Tryz.isAgg239
 z22:=Tryz.sizeOf239
 v22:=Tryz.zeroValue239}
end Go.Proofs
namespace Go.Proofs.YtdgbechegbmpcaaGreatDoor
open Go Go.Eng Go.Proofs.Tryz
open Go.RowKit Go.Maps Go.Sort Go.Shelf
theorem B6w(m:Nat):AnyZI.SortsIn prog Tryz.PX Fence.wide m:=
 ⟨λblk off cap ss W hH hblk hsz=>callsIn_wide.2 (AnyM.slices_Sort_int Tryz.B4b blk off cap ss W hH hblk hsz),
  λp cap W=>callsIn_wide.2 (AnyM.slices_Sort_int_none Tryz.B4b p cap W)⟩
theorem B13(mb:Option Nat)(w:WD):Calls prog 231 #[.map mb] w λe w'=>e=.returned (.func (.func 270) #[] #[.pointer (some ⟨w.heap.size,0,none⟩)])/\w'=w.alloc (.cells #[.map mb] 142):=by
 refine(callsIn_wide (n:=6)).1 ?_;exact AnyZI.keys_in Tryz.C1f Fence.wide 6 trivial rfl mb w
theorem A4h{w w1:WD}{b:Nat}{m:List (Int×Value)}(h:BJ w b m)(hs:m.length<=1000000)(e:w1=w.alloc (.cells #[.map (some b)] 142)) :
 Calls prog 139 #[.func (.func 270) #[] #[.pointer (some ⟨w.heap.size,0,none⟩)]] w1 λe w'=>∃(a:OA) (c:Nat) (ks:List Int),e=.returned (.slice a ks.length c)/\ks=(m.map (·.1)).mergeSort (λx y=>decide (x<=y))/\
  w'.ownsRow w.heap.size 3 1 (.slice a ks.length c) ks.length (ks.map (Value.int .i64))/\AB AD w w':=by
 subst e;obtain⟨D,hown,hperm,hsz⟩:=A1n (P:=prog) (kt:=3) underlying3 h (by unfold maxLen;omega);have hbl:=h.lt;have hseq:SeqGives Fence.wide 3 prog 270 #[.pointer (some ⟨w.heap.size,0,none⟩)] encZ (λss=>ss.Perm (intKeys D)) (Maps.size D) (w.alloc (.cells #[.map (some b)] 142)):=
  AnyZI.keys_gives (ρ:=Tryz.A3e) {Tryz.C1f with} Fence.wide _ trivial rfl (by omega) w.heap.size b m.length D _ (by simp) (by simp) (by
   obtain⟨es,clock,hb,Ft,hs,hD⟩:=hown;exact⟨es,clock,(Below.heap_alloc _ _ b hbl).trans hb,Ft,hs,hD⟩)
 have cS:=AnyZI.sorted_in Tryz.B0c Fence.wide 6 trivial trivial trivial trivial rfl (by omega) (B6w _) (enters_of func211 (by kernel_rfl) rfl) 270 #[.pointer (some ⟨w.heap.size,0,none⟩)] trivial (enters_of func270 (by kernel_rfl) rfl) _ _ (by rw [hsz];unfold maxLen;omega) (by rw [hsz];omega) _ hseq
 change CallsIn _ _ prog 139 _ _ _ at cS
 refine((callsIn_wide (n:=6)).1 cS).AE ?_;rintro e w' ⟨v,ss,rfl,hS,hrow,hnil,hb⟩;have hks:ss.mergeSort (λx y=>decide (x<=y))=(m.map (·.1)).mergeSort (λx y=>decide (x<=y)):=mergeSort_of_perm_i (hS.trans hperm);have hlen:ss.length=((m.map (·.1)).mergeSort (λx y=>decide (x<=y))).length:=by rw [<- hks,List.length_mergeSort]
 rw [hks,hlen] at hrow;have hv:∃a c,v=.slice a ((m.map (·.1)).mergeSort (λx y=>decide (x<=y))).length c:=by
  rcases hrow.2 with⟨rfl,h0⟩|⟨g,cap,cur,rfl,_⟩
  .exact⟨none,0,by rw [h0]⟩
  .exact⟨_,_,rfl⟩
 obtain⟨a,c,rfl⟩:=hv;refine⟨a,c,_,rfl,rfl,ownsRow_base_a hrow (by simp),?_⟩;have k1:AB AD w (w.alloc (.cells #[.map (some b)] 142)):=kr.alloc _ _;exact k1.trans (X:=AD) (Y:=AD) ⟨hb.os,hb.tape,hb.output,hb.size,λi hi _=>hb.block i hi⟩ (λ_ _ h=>h)
end Go.Proofs.YtdgbechegbmpcaaGreatDoor
namespace Go.Proofs.YtdgbechegbmpcaaGreatDoor
open Go Go.Eng Go.Proofs.Tryz
open Go.Value (bool func slice agg int)
open Option (isNone)
open Go.IntKind (wrap)
open List (replicate range)
variable {a b g i j s x:Nat}{l l':List Bk}{X:NP}{high:Bool}{cs:List Value}{f:NI}{z:Array Value}
section
variable {w w':WD}{b t:Nat}{m:Nat->Nat}{s:Bst}
theorem B02(h:BAt w b m t s)(hs:Small s){o:Nat}(ho:o<11)(hne:s.F o≠[])(high:Bool) :
 Calls prog 176 #[AP b,.int .i64 (o:Int),.bool high] w λr w'=>∃a,r=.returned (.int .i64 a)/\a∈s.F o/\(∀x∈s.F o,if high then x<=a else a<=x)/\AB AD w w':=by
 refine(vc176 _ _ _ w (λv w'=>∃a,v=.int .i64 a/\a∈s.F o/\(∀x∈s.F o,if high then x<=a else a<=x)/\AB AD w w') ?_).AE ?_
 .unfold Q;simp only [Ri,Rp,Rs,Wp,Wn,isP_some,Wif_true,gIf_true,pb_some,po_some,za];refine Wi ⟨_,by rw [tnc,mo];exact h.rm ho,(B13 _ w).AE ?_⟩;rintro _ w1 ⟨rfl,e1⟩;refine⟨_,rfl,(A4h (h.mf o ho) (by simpa using hs o ho) e1).AE ?_⟩;rintro _ w2 ⟨a,c,ks,rfl,hks,row,k2⟩;refine⟨_,_,_,rfl,?_⟩;have hm1:(JA (s.F o)).map (·.1)=s.F o:=by simp [JA,Function.comp_def]
  rw [hm1] at hks;have hperm:ks.Perm (s.F o):=by rw [hks];exact List.mergeSort_perm _ _
  have hlen:ks.length=(s.F o).length:=hperm.length_eq;have hpos:0<ks.length:=by rw [hlen];exact List.length_pos_iff.2 hne
  have hl:=hs o ho;have hsorted:ks.Pairwise (λx y=>x<=y):=by
   have:=List.pairwise_mergeSort (le:=λ(x y:Int)=>decide (x<=y)) (by intro a b c h1 h2;simp at *;omega) (by intro a b;simp;omega) (s.F o);rw [<- hks] at this;exact this.imp λh=>by simpa using h
  obtain⟨_,hh⟩:=CN row;rcases hh with⟨_,h0,_⟩|⟨g,cs,rfl,hg,og,htk,_,_⟩
  .omega
  have hrd:∀i (hi:i<ks.length),rd w2 g i=some (.int .i64 ks[i]):=λi hi=>by
   rw [og.rd];have:(cs.take (ks.length*1))[i]? = some (.int .i64 ks[i]):=by rw [htk];simp [hi]
   rw [List.getElem?_take] at this;split at this
   .exact this
   .cases this
  cases high
  .simp only [Wp,Wn,Wif_false,isP_some,Wif_true];refine Wi ⟨_,hrd 0 hpos,_,rfl,hperm.mem_iff.1 (List.getElem_mem _),λx hx=>?_,k2⟩;simp only [Bool.false_eq_true,if_false];obtain⟨i,hi,rfl⟩:=List.mem_iff_getElem.1 (hperm.mem_iff.2 hx);rcases Nat.eq_zero_or_pos i with rfl|hp
   .exact Int.le_refl _
   .exact List.pairwise_iff_getElem.1 hsorted 0 i hpos hi hp
  .simp only [Ri,Rp,Rs,Wp,Wn,isP_some,Wif_true,pb_some,po_some];have ew:wrap .i64 ((ks.length:Int)-1)=((ks.length-1:Nat):Int):=by rw [wi (by omega)];omega
   rw [ew];refine Wi ⟨_,by rw [tnc,mo,za];exact hrd _ (by omega),_,rfl,hperm.mem_iff.1 (List.getElem_mem _),λx hx=>?_,k2⟩;simp only [if_true];obtain⟨i,hi,rfl⟩:=List.mem_iff_getElem.1 (hperm.mem_iff.2 hx);rcases Nat.lt_or_ge i (ks.length-1) with hp|hp
   .exact List.pairwise_iff_getElem.1 hsorted i _ hi (by omega) hp
   .have:i=ks.length-1:=by omega
    subst this;exact Int.le_refl _
 .rintro e w' ⟨v,rfl,a,rfl,hw⟩;exact⟨a,rfl,hw⟩
end
def FL(l:List Bk)(order:Int)(high:Bool)(a e:Int)(l':List Bk):Prop:=
 ((order<0\/10<order)/\a=0/\e=2/\l'=l)\/
 (∃o:Nat,order=(o:Int)/\o<=10/\(∀x∈l,x.g=0->x.o<o)/\a=0/\e=6/\l'=l)\/
 (∃(o:Nat) (x:Bk) (r:Nat),order=(o:Int)/\o<=x.o/\x∈l/\x.g=0/\(∀y∈l,y.g=0->o<=y.o->x.o<=y.o)/\(∀y∈l,y.g=0->y.o=x.o->if high then y.p<=x.p else x.p<=y.p)/\
  a=(r:Int)/\(if high then r+2^o=x.p+2^x.o else r=x.p)/\e=0/\(∀y:Bk,y.g=1->(y∈l'↔y∈l\/y=⟨r,o,1⟩))/\BD l'+2^o=BD l)
theorem A8b{o:Nat}(h:o<=10):2^o<=1024:=Nat.pow_le_pow_right (n:=2) (by omega) h
theorem B7y{o:Nat}(ho:o<=10):wrap .i64 (1*2^min (Int.toNat (o:Int)) 64)=((2^o:Nat):Int):=by
 have:=A2l (x:=1) (o:=o) (by omega) (by omega);simpa using this
section
variable {w w1 w':WD}{b t:Nat}{m:Nat->Nat}{n:Nat}{l:List Bk}
theorem kbm{o:Nat}(h:AB (GH b m t) w w1)(ho:o<11)(k:AB (·=m o) w1 w'):AB (GH b m t) w w':=h.trans k λx _ e=>.inr (.inr ⟨o,ho,e⟩)
theorem kbt(h:AB (GH b m t) w w1)(k:AB (·=t) w1 w'):AB (GH b m t) w w':=h.trans k λx _ e=>.inr (.inl e)
theorem A99(h:BAt w b m t (BW n l))(hi:Inv n l)(order:Int)(high:Bool) :
 Calls prog 91 #[AP b,.int .i64 order,.bool high] w λr w'=>∃a e l',r=.returned (.tuple #[.int .i64 a,.int .i64 e])/\AB (GH b m t) w w'/\BAt w' b m t (BW n l')/\Inv n l'/\FL l order high a e l':=by
 refine(vc91 _ _ _ w (λv w'=>∃a e l',v=.tuple #[.int .i64 a,.int .i64 e]/\AB (GH b m t) w w'/\BAt w' b m t (BW n l')/\Inv n l'/\FL l order high a e l') ?_).AE ?_
 .have hs:=A56 hi.tl hi.n1.2;unfold Q;simp only [Ri,Rp,Rs,Wp,Wn,isP_some,Wif_true,gIf_true,pb_some,po_some,za];refine⟨_,λ_=>h.r12,AL rfl ?_⟩;refine AH (λhc=>?_) (λhc=>?_)
  .simp at hc;exact⟨_,_,l,rfl,AB.refl _ _,h,hi,.inl ⟨by omega,rfl,rfl,rfl⟩⟩
  simp at hc;obtain⟨o,rfl⟩:∃o:Nat,order=(o:Int):=⟨order.toNat,by omega⟩;have ho10:o<=10:=by omega
  refine⟨λk w' N=>w'=w/\∃q:Nat,k=q/\q<=11/\N=11-q/\o<=q/\∀j,o<=j->j<q->fr j l=[],⟨11-o,rfl,o,rfl,by omega,rfl,nlr _,λj h1 h2=>by omega⟩,?_⟩;rintro _ w1 _ ⟨rfl,q,rfl,hq,rfl,hoq,hem⟩;refine AJ (λhc=>by simp at hc;exact DZ (by omega) (by omega)) ?_;refine⟨some (m q),λhc=>?_,((fr q l).length:Int),λhc=>?_,?_⟩
  .simp at hc;rw [tnc,mo];exact h.rm (by omega)
  .simp at hc;exact h.len hs (by omega)
  refine AH (λhc=>?_) (λhc=>?_)
  .simp only [Bool.and_eq_true,decide_eq_true_eq,beq_iff_eq] at hc;refine⟨11-(q+1),by omega,rfl,q+1,wzz,by omega,rfl,by omega,λj h1 h2=>?_⟩;rcases Nat.lt_or_ge j q with hlt|hge
   .exact hem j h1 hlt
   .have:j=q:=by omega
    subst this;exact List.length_eq_zero_iff.1 (by omega)
  refine AH (λhc2=>?_) (λhc2=>?_)
  .simp only [decide_eq_true_eq] at hc2;refine⟨_,_,l,rfl,AB.refl _ _,h,hi,.inr (.inl ⟨o,rfl,ho10,λx hx hg=>?_,rfl,rfl,rfl⟩)⟩;refine Nat.lt_of_not_le λhle=>?_;have hx10:=(BI hi.tl hx).2.2.2;have:=hem x.o hle (by omega);have h2:=(B7b (j:=x.o) (l:=l)).2 ⟨x,hx,hg,rfl⟩;rw [this] at h2;simp at h2
  have hq10:q<=10:=by simp at hc2;omega
  have hne:fr q l≠[]:=by
   intro e;rw [e] at hc;simp at hc;omega
  refine(B02 h hs (o:=q) (by omega) hne high).AE ?_;rintro _ w2 ⟨a,rfl,ham,hext,k2⟩;refine⟨_,rfl,?_⟩;have h2:=h.k k2;obtain⟨⟨xp,xo,xg⟩,hx,gx,ox,rfl⟩:=IV.1 ham;dsimp only at gx ox;subst gx ox;obtain⟨A,B,rfl⟩:=List.append_of_mem hx;refine Wi ⟨_,by rw [tnc,mo];exact h2.rm (by omega),?_⟩;obtain⟨w3,hd,k3,h3⟩:=h2.hold hi.tl;refine⟨w3,hd,?_⟩;have m3:Mid n A ⟨xp,xo,2⟩ B:=hi.mid rfl rfl;have K3:AB (GH b m t) w1 w3:=kbm (k2.AE λ_ _ h=>h.elim) (by omega) k3;refine⟨λk at' w' N=>∃(A' B':List Bk) (kk aa:Nat),k=kk/\at'=aa/\N=kk-o/\o<=kk/\kk<=xo/\Mid n A' ⟨aa,kk,2⟩ B'/\BAt w' b m t (BW n (A'++⟨aa,kk,2⟩::B'))/\AB (GH b m t) w1 w'/\
   (if high then aa+2^kk=xp+2^xo else aa=xp)/\(∀y:Bk,y.g=1->(y∈A'++B'↔y∈A++B))/\BD (A'++B')+2^kk=BD (A++B)+2^xo,
   ⟨xo-o,A,B,xo,xp,rfl,rfl,rfl,hoq,nlr _,m3,h3,K3,by cases high <;> simp,λy _=>Iff.rfl,rfl⟩,?_⟩
  rintro _ _ w4 _ ⟨A',B',kk,aa,rfl,rfl,rfl,hok,hkx,m4,h4,K4,hform,hset,O1⟩;have hnum:=m4.num;dsimp only at hnum;have hn128:=hi.n1.2;refine AH (λhc3=>?_) (λhc3=>?_)
  .simp only [decide_eq_true_eq] at hc3;obtain⟨k1,rfl⟩:∃k1,kk=k1+1:=⟨kk-1,by omega⟩;have ew:wrap .i64 (((k1+1:Nat):Int)-1)=(k1:Int):=by rw [wi (by omega)];omega
   rw [ew];have e2:2^(k1+1)=2^k1+2^k1:=by rw [Nat.pow_succ];omega
   have hp:=p2 k1;rw [B7y (by omega)];have ea:wrap .i64 ((aa:Int)+((2^k1:Nat):Int))=((aa+2^k1:Nat):Int):=by rw [wi (by omega)];omega
   rw [ea];refine AH (λhh=>?_) (λhh=>?_)
   .subst hh;refine Wi ⟨_,by rw [tnc,mo];exact h4.rm (by omega),?_⟩;obtain⟨w5,hu,k5,h5⟩:=h4.hi m4.tl hn128;refine⟨w5,hu,AA (by simp) ⟨k1-o,by omega,_,_,k1,aa+2^k1,rfl,rfl,rfl,by omega,by omega,m4.hi,h5,kbm K4 (by omega) k5,?_,λy hy=>?_,?_⟩⟩
    .simp only [if_true] at hform ⊢;omega
    .rw [<- hset y hy];simp only [List.mem_append,List.mem_cons,List.not_mem_nil,or_false];constructor
     .rintro ((h|rfl)|h)
      .exact .inl h
      .cases hy
      .exact .inr h
     .rintro (h|h)
      .exact .inl (.inl h)
      .exact .inr h
    .rw [<- O1];simp only [J8,DR,BD];simp;omega
   .subst hh;intro w5 e5;have h4':=h4.k (kr.dr e5);refine Wi ⟨_,by rw [tnc,mo];exact h4'.rm (by omega),AA (by simp) ?_⟩;obtain⟨w6,hu,k6,h6⟩:=h4'.lo m4.tl hn128;refine⟨w6,hu,k1-o,by omega,_,_,k1,aa,rfl,rfl,rfl,by omega,by omega,m4.lo,h6,kbm (K4.dr e5) (by omega) k6,?_,λy hy=>?_,?_⟩
    .simp at hform ⊢;exact hform
    .rw [<- hset y hy];simp only [List.mem_append,List.mem_cons,List.not_mem_nil,or_false];constructor
     .rintro (h|rfl|h)
      .exact .inl h
      .cases hy
      .exact .inr h
     .rintro (h|h)
      .exact .inl h
      .exact .inr (.inr h)
    .rw [<- O1];simp only [J8,DR,BD];simp;omega
  .have hkk:kk=o:=by simp at hc3;omega
   subst hkk;refine⟨_,h4.r12,?_⟩;obtain⟨w5,hu,k5,h5⟩:=h4.take m4.tl hn128;refine⟨w5,hu,_,_,_,rfl,kbt K4 k5,h5,m4.take,.inr (.inr ⟨kk,⟨xp,xo,0⟩,aa,rfl,hoq,hx,rfl,λy hy gy oy=>?_,λy hy gy oy=>?_,rfl,hform,rfl,λy hy=>?_,?_⟩)⟩
   .refine Nat.le_of_not_lt λhlt=>?_;have:=hem y.o oy hlt;have h2:=(B7b (j:=y.o)).2 ⟨y,hy,gy,rfl⟩;rw [this] at h2;simp at h2
   .have:=hext y.p (IV.2 ⟨y,hy,gy,oy,rfl⟩)
    cases high <;> simp at this ⊢ <;> omega
   .have:=hset y hy;simp only [List.mem_append,List.mem_cons] at this ⊢;constructor
    .rintro (h|rfl|h)
     .rcases this.1 (.inl h) with h|h
      .exact .inl (.inl h)
      .exact .inl (.inr (.inr h))
     .exact .inr rfl
     .rcases this.1 (.inr h) with h|h
      .exact .inl (.inl h)
      .exact .inl (.inr (.inr h))
    .rintro ((h|rfl|h)|rfl)
     .rcases this.2 (.inl h) with h|h
      .exact .inl h
      .exact .inr (.inr h)
     .cases hy
     .rcases this.2 (.inr h) with h|h
      .exact .inl h
      .exact .inr (.inr h)
     .exact .inr (.inl rfl)
   .simp only [J8,DR] at O1 ⊢;simp;omega
 .rintro e w' ⟨v,rfl,a,e,l',rfl,hw⟩;exact⟨a,e,l',rfl,hw⟩
end
def LV(l:List Bk)(a order e:Int)(l':List Bk):Prop:=
 ((a,order)∉tk l/\e=2/\l'=l)\/
 (∃x∈l,x.g=1/\a=(x.p:Int)/\order=(x.o:Int)/\e=0/\(∀y:Bk,y.g=1->(y∈l'↔y∈l/\y≠x))/\BD l'=BD l+2^x.o)
theorem C65{o:Nat}(h:a%2^o=0):a=a/2^o*2^o:=by
 have e:=Nat.div_add_mod a (2^o);rw [h,Nat.add_zero,Nat.mul_comm] at e;exact e.symm
theorem B9g{o:Nat}(h:a%2^o=0)(ha:a<=1000000)(ho:o<=10):CD .xor .i64 (a:Int) ((2^o:Nat):Int)=((bud a o:Nat):Int):=by
 have:=A8b ho;rw [B7m (by omega) (by omega)];congr 1;have hq:=C65 h;unfold bud;generalize a/2^o=q at *;subst hq;rw [A9t];split
 .rw [Nat.add_mul,Nat.one_mul]
 .rw [Nat.sub_mul,Nat.one_mul]
theorem B9h{o:Nat}(h:a%2^o=0)(ha:a<=1000000)(ho:o<=10):CD .andNot .i64 (a:Int) ((2^o:Nat):Int)=((if a/2^o%2=0 then a else a-2^o:Nat):Int):=by
 have:=A8b ho;rw [A9m (by omega) (by omega)];congr 1;have hq:=C65 h;generalize a/2^o=q at *;subst hq;rw [A9l];split <;> rename_i hc
 .rw [hc,Nat.sub_zero]
 .rw [show q%2=1 by omega,Nat.sub_mul,Nat.one_mul]
theorem B1w(l:List Int)(k:Int):((JA l).lookup k).getD (.bool false)=.bool (decide (k∈l)):=by
 cases h:(JA l).lookup k with
 | none=>
  have:k∉l:=λhm=>by
   induction l with
   | nil=>cases hm
   | cons x l ih=>
    simp only [JA,List.map_cons,List.lookup_cons] at h;by_cases e:k=x
    .subst e;simp at h
    .rw [show(k==x)=false by simpa using e] at h;rcases List.mem_cons.1 hm with rfl|hm
     .exact e rfl
     .exact ih h hm
  simp [this]
 | some v=>
  obtain⟨x,hx,e⟩:=List.mem_map.1 (LQ h)
  cases e
  simp [hx]
theorem B1v(l:List (Int×Int))(k:Int):(∃j,(k,j)∈l/\(MN l).lookup k=some (.int .i64 j))\/((∀j,(k,j)∉l)/\(MN l).lookup k=none):=by
 cases h:(MN l).lookup k with
 | none=>
  refine .inr ⟨λj hm=>?_,rfl⟩
  induction l with
  | nil=>cases hm
  | cons x l ih=>
   simp only [MN,List.map_cons,List.lookup_cons] at h;by_cases e:k=x.1
   .subst e;simp at h
   .rw [show(k==x.1)=false by simpa using e] at h;rcases List.mem_cons.1 hm with rfl|hm
    .exact e rfl
    .exact ih h hm
 | some v=>
  obtain⟨⟨x,y⟩,hx,e⟩:=List.mem_map.1 (LQ h)
  cases e
  exact .inl ⟨y,hx,rfl⟩
section
variable {w w1 w':WD}{b t:Nat}{m:Nat->Nat}{n:Nat}{l:List Bk}
theorem C3z(w:WD):(zeroValue 4).run prog w=.ok (.bool false) w:=zeroValue4 w
theorem C30(w:WD):(zeroValue 3).run prog w=.ok (.int .i64 0) w:=zeroValue3 w
theorem B2f(h:BAt w b m t (BW n l))(hi:Inv n l)(a order:Int) :
 Calls prog 271 #[AP b,.int .i64 a,.int .i64 order] w λr w'=>∃e l',r=.returned (.int .i64 e)/\AB (GH b m t) w w'/\BAt w' b m t (BW n l')/\Inv n l'/\LV l a order e l':=by
 refine(vc271 _ _ _ w (λv w'=>∃e l',v=.int .i64 e/\AB (GH b m t) w w'/\BAt w' b m t (BW n l')/\Inv n l'/\LV l a order e l') ?_).AE ?_
 .have hn128:=hi.n1.2;unfold Q;simp only [Ri,Rp,Rs,Wp,Wn,isP_some,Wif_true,gIf_true,pb_some,po_some,za];refine⟨_,λ_=>h.r12,AL rfl ⟨_,h.r12,?_⟩⟩;have hlk:=B8r (mt:=90) (vt:=3) (kt:=3) underlying90 underlying3 h.mt a (C30 w);rcases B1v (tk l) a with⟨j,hj,e⟩|⟨hj,e⟩
  rotate_left
  .have e':(MN (BW n l).T).lookup a=none:=e;rw [e'] at hlk;refine⟨0,false,hlk,AA (by simp) ⟨_,l,rfl,AB.refl _ _,h,hi,.inl ⟨hj _,rfl,rfl⟩⟩⟩
  have e':(MN (BW n l).T).lookup a=some (.int .i64 j):=e;rw [e'] at hlk;refine⟨j,true,hlk,AH (λhc=>?_) (λhc=>?_)⟩
  .simp at hc;refine⟨_,l,rfl,AB.refl _ _,h,hi,.inl ⟨λhm=>?_,rfl,rfl⟩⟩;obtain⟨x,hx,gx,px,ox⟩:=A6h.1 hj;obtain⟨y,hy,gy,py,oy⟩:=A6h.1 hm;have:=LX hi.tl hx hy (by omega);subst this;omega
  simp at hc;subst hc;obtain⟨⟨xp,xo,xg⟩,hx,gx,px,ox⟩:=A6h.1 hj;dsimp only at gx px ox;subst gx px ox;obtain⟨A,B,rfl⟩:=List.append_of_mem hx;refine⟨_,h.r12,?_⟩;obtain⟨w2,hd,k2,h2⟩:=h.give hi.tl;refine⟨w2,hd,?_⟩;have m2:Mid n A ⟨xp,xo,2⟩ B:=hi.mid rfl rfl;refine⟨λat' k w' N=>∃(A' B':List Bk) (kk aa:Nat),k=kk/\at'=aa/\N=10-kk/\kk<=10/\Mid n A' ⟨aa,kk,2⟩ B'/\BAt w' b m t (BW n (A'++⟨aa,kk,2⟩::B'))/\AB (GH b m t) w w'/\
   (∀y:Bk,y.g=1->(y∈A'++B'↔y∈A++B))/\BD (A'++B')+2^kk=BD (A++B)+2^xo,
   ⟨10-xo,A,B,xo,xp,rfl,rfl,rfl,by have:=m2.num;dsimp only at this;omega,m2,h2,kbt kr k2,λy _=>Iff.rfl,rfl⟩,?_⟩
  rintro _ _ w3 _ ⟨A',B',kk,aa,rfl,rfl,rfl,hk10,m3,h3,K3,hset,O1⟩ w4 e4;have hnum:=m3.num;dsimp only at hnum;have h4:=h3.k (kr.dr e4);have K4:=K3.dr e4;refine AJ (λhc=>by simp at hc;exact DZ (by omega) (by omega)) ?_;refine⟨some (m kk),λhc=>by rw [tnc,mo];exact h4.rm (by omega),?_⟩;refine AJ (λhc=>by simp) ?_;rw [B7y hk10,B9g hnum.2.2 (by omega) hk10];have hfr:fr kk (A'++⟨aa,kk,2⟩::B')=fr kk (A'++B'):=by simp only [EI,D9];simp
  have hlk:=B1x (mt:=142) (vt:=4) (kt:=3) underlying142 underlying3 (h4.mf kk (by omega)) ((bud aa kk:Nat):Int) (C3z w4);rw [B1w] at hlk;have ef:(BW n (A'++⟨aa,kk,2⟩::B')).F kk=fr kk (A'++B'):=hfr;rw [ef] at hlk;refine⟨_,λ_=>hlk,AH (λhc=>?_) (λhc=>?_)⟩
  .simp only [Bool.and_eq_true,decide_eq_true_eq] at hc;obtain⟨hc1,hc2⟩:=hc;have hk1:kk<10:=by omega
   intro w5 e5;have h5:=h4.k (kr.dr e5);have K5:=K4.dr e5;refine Wi ⟨_,by rw [tnc,mo];exact h5.rm (by omega),AA (by simp) ?_⟩;rw [B9h hnum.2.2 (by omega) hk10];have e2:2^(kk+1)=2^kk+2^kk:=by rw [Nat.pow_succ];omega
   rcases m3.one (g':=2) hk1 hc2 with⟨hev,B1,rfl,m6⟩|⟨hod,A1,rfl,hle,m6⟩
   .rw [if_pos hev];have eb:bud aa kk=aa+2^kk:=by unfold bud;rw [if_pos hev]
    rw [eb];obtain⟨w6,hd6,k6,h6⟩:=h5.oneL hk1 m6.tl;refine⟨w6,hd6,AA (by simp) ⟨10-(kk+1),by omega,A',B1,kk+1,aa,wzz,rfl,rfl,by omega,m6,h6,kbm K5 (by omega) k6,λy hy=>?_,?_⟩⟩
    .rw [<- hset y hy];simp only [List.mem_append,List.mem_cons];constructor
     .rintro (h|h)
      .exact .inl h
      .exact .inr (.inr h)
     .rintro (h|rfl|h)
      .exact .inl h
      .cases hy
      .exact .inr h
    .simp only [J8,DR] at O1 ⊢;simp at O1;omega
   .rw [if_neg (by omega)];have eb:bud aa kk=aa-2^kk:=by unfold bud;rw [if_neg (by omega)]
    rw [eb];obtain⟨w6,hd6,k6,h6⟩:=h5.oneU hk1 m6.tl;refine⟨w6,hd6,AA (by simp) ⟨10-(kk+1),by omega,A1,B',kk+1,aa-2^kk,wzz,rfl,rfl,by omega,m6,h6,kbm K5 (by omega) k6,λy hy=>?_,?_⟩⟩
    .rw [<- hset y hy];simp only [List.mem_append,List.mem_cons,List.not_mem_nil,or_false];constructor
     .rintro (h|h)
      .exact .inl (.inl h)
      .exact .inr h
     .rintro ((h|rfl)|h)
      .exact .inl h
      .cases hy
      .exact .inr h
    .simp only [J8,DR,BD] at O1 ⊢;simp at O1;omega
  .refine Wi ⟨_,by rw [tnc,mo];exact h4.rm (by omega),?_⟩;obtain⟨w5,hu,k5,h5⟩:=h4.free m3.tl hn128;refine⟨w5,hu,_,_,rfl,kbm K4 (by omega) k5,h5,m3.free λhlt hm=>?_,.inr ⟨⟨xp,xo,1⟩,hx,rfl,rfl,rfl,rfl,λy hy=>?_,?_⟩⟩
   .simp [hm] at hc;omega
   .have hs:=hset y hy;have hsep:=B0i hi.tl (k:=xp) (nlr _) (by have:=p2 xo;dsimp only;omega);simp only [List.mem_append,List.mem_cons] at hs ⊢;constructor
    .intro hm;have hm':y∈A\/y∈B:=by
      rcases hm with h|rfl|h
      .exact hs.1 (.inl h)
      .cases hy
      .exact hs.1 (.inr h)
     refine⟨by rcases hm' with h|h <;> simp [h],λe=>?_⟩;subst e;rcases hm' with h|h
     .exact hsep.1 _ h rfl
     .exact hsep.2 _ h rfl
    .rintro ⟨hm,hne⟩;have hm':y∈A\/y∈B:=by
      rcases hm with h|h|h
      .exact .inl h
      .exact absurd h hne
      .exact .inr h
     rcases hs.2 hm' with h|h
     .exact .inl h
     .exact .inr (.inr h)
   .simp only [J8,DR] at O1 ⊢;simp;omega
 .rintro e w' ⟨v,rfl,e,l',rfl,hw⟩;exact⟨e,l',rfl,hw⟩
end
def Mx(n:Nat)(x:Bk):Prop:=x.o=10\/x.p%2^(x.o+1)≠0\/n<x.p+2^(x.o+1)
theorem B8w{n:Nat}(hn:1<=n/\n<=128)(ht:D0 0 l n)(hg:∀x∈l,x.g=0)(hm:∀x∈l,Mx n x):Inv n l:=by
 refine⟨hn,ht,λx hx y hy gx gy eo lt ep em=>?_,λx hx=>.inl (hg x hx)⟩;have h1:=(BI ht hy).2.1;have e2:2^(x.o+1)=2^x.o+2^x.o:=by rw [Nat.pow_succ];omega
 rw [<- eo] at h1;rcases hm x hx with h|h|h <;> omega
theorem A6j(x o:Nat):x &&& (2^o-1)=x%2^o:=Nat.and_two_pow_sub_one_eq_mod x o
theorem B43(w:WD)(n:Int):Calls prog 174 #[.int .i64 n] w λr w'=>
 ((n<1\/128<n)/\r=.returned (.tuple #[.pointer none,.int .i64 2])/\w'=w)\/
 ∃(N:Nat) (b:Nat) (m:Nat->Nat) (t:Nat) (l:List Bk),n=(N:Int)/\r=.returned (.tuple #[AP b,.int .i64 0])/\AB AD w w'/\BAt w' b m t (BW N l)/\Inv N l/\(∀x∈l,x.g=0)/\∀x,GH b m t x->w.heap.size<=x:=by
 refine(vc174 _ w (λv w'=>((n<1\/128<n)/\v=(.tuple #[.pointer none,.int .i64 2])/\w'=w)\/
  ∃(N:Nat) (b:Nat) (m:Nat->Nat) (t:Nat) (l:List Bk),n=(N:Int)/\v=(.tuple #[AP b,.int .i64 0])/\AB AD w w'/\BAt w' b m t (BW N l)/\Inv N l/\(∀x∈l,x.g=0)/\∀x,GH b m t x->w.heap.size<=x) ?_).AE ?_
 .unfold Q;refine AH (λhc=>?_) (λhc=>?_)
  .simp at hc;exact .inl ⟨by omega,rfl,rfl⟩
  simp at hc;obtain⟨N,rfl⟩:∃N:Nat,n=(N:Int):=⟨n.toNat,by omega⟩;have hN:1<=N/\N<=128:=by omega
  intro w1 e1;have k1:AB AD w w1:=e1▸kr.allocMap _ _;have mt1:=JL e1;intro w2 e2;have o2:=AG (c:=[int .i64 (N:Int)]++(replicate 11 (.map none)++[.map (some w.heap.size)])) e2;have k2:AB AD w w2:=k1.al e2;have mt2:=mt1.al e2;have z1:w1.heap.size=w.heap.size+1:=by rw [e1];simp only [World.alloc,Array.size_push]
  generalize ht:w.heap.size=t at *;generalize hb':w1.heap.size=b' at *;have z2:w2.heap.size=b'+1:=by rw [e2,<- hb'];simp only [World.alloc,Array.size_push]
  refine⟨λk w' M=>∃(q:Nat) (m':Nat->Nat),k=q/\q<=11/\M=11-q/\AB AD w w'/\AX w' b' (OE (N:Int) m' t q)/\BJ w' t []/\(∀o,o<q->BJ w' (m' o) []/\b'<m' o)/\(∀o o',o<q->o'<q->o≠o'->m' o≠m' o'),
   ⟨11,0,λ_=>0,rfl,by omega,rfl,k2,by rw [B9j];exact o2,mt2,λo ho=>by omega,λo o' ho=>by omega⟩,?_⟩
  rintro k w4 _ ⟨q,m',rfl,hq,rfl,k4,o4,mt4,mf4,dm4⟩;refine AH (λhc2=>?_) (λhc2=>?_)
  .have hq0:q<11:=by simp at hc2;omega
   intro w5 e5;have m5:=JL e5;have k45:AB AD w4 w5:=e5▸kr.allocMap _ _;have o5:=o4.al e5;have z4:=k4.sz;have ob4:=o4.lt;refine Wi ⟨by rw [tnc,mo];exact o5.wr (by rw [A32];omega),?_⟩;intro w7 e7;rw [tnc,mo] at e7;have o7:=o5.s1 e7;rw [B3l _ _ _ hq0] at o7;have k57:AB (·=b') w5 w7:=kr.s1 e7 (.inl rfl);have hm4:∀o,o<q->m' o<w4.heap.size:=λo ho=>(mf4 o ho).1.lt;refine⟨11-(q+1),by omega,q+1,upd m' q w4.heap.size,wzz,by omega,rfl,(k4.tr k45).s1 e7 (.inr (by omega)),o7,(mt4.k k45).kx k57 (by omega),λo ho=>?_,λo o' ho ho' hne=>?_⟩
   .by_cases hoq:o=q
    .subst hoq;rw [AF];exact⟨m5.kx k57 (by omega),by omega⟩
    .rw [AI _ _ hoq];have:=mf4 o (by omega);exact⟨(this.1.k k45).kx k57 (by omega),this.2⟩
   .by_cases hoq:o=q
    .subst hoq;rw [AF,AI _ _ (Ne.symm hne)];have:=hm4 o' (by omega);omega
    .rw [AI _ _ hoq];by_cases hoq':o'=q
     .subst hoq';rw [AF];have:=hm4 o (by omega);omega
     .rw [AI _ _ hoq'];exact dm4 o o' (by omega) (by omega) hne
  have hq0:q=11:=by simp at hc2;omega
  subst hq0;rw [B6g] at o4;have hB:BAt w4 b' m' t (BW N []):=⟨o4,λo ho=>(mf4 o ho).1,mt4,λo o' ho ho' hne=>dm4 o o' ho ho' hne,λo ho=>⟨by have:=(mf4 o ho).2;omega,by have:=(mf4 o ho).2;omega⟩,by omega⟩;have hfresh:∀x,GH b' m' t x->t<=x:=λx hx=>by
   rcases hx with rfl|rfl|⟨o,ho,rfl⟩
   .omega
   .omega
   .have:=(mf4 o ho).2;omega
  refine⟨λat' w' M=>∃(a:Nat) (L:List Bk),at'=a/\a<=N/\M=N-a/\AB AD w w'/\BAt w' b' m' t (BW N L)/\D0 0 L a/\(∀x∈L,x.g=0)/\(∀x∈L,Mx N x),
   ⟨N,0,[],rfl,by omega,rfl,k4,hB,rfl,λx hx=>(by cases hx),λx hx=>(by cases hx)⟩,?_⟩
  rintro _ w5 _ ⟨a,L,rfl,ha,rfl,k5,h5,t5,g5,x5⟩;refine AH (λhc3=>?_) (λhc3=>?_)
  .simp at hc3;refine⟨λo w' M=>∃q:Nat,o=q/\q<=10/\w'=w5/\M=10-q/\a%2^q=0/\a+2^q<=N,⟨10,0,rfl,by omega,rfl,rfl,Nat.mod_one _,by simp;omega⟩,?_⟩;rintro _ _ _ ⟨q,rfl,hq,rfl,rfl,hmod,hfit⟩;have ew:wrap .i64 ((q:Int)+1)=((q+1:Nat):Int):=by rw [wi (by omega)];rfl
   rw [ew];refine AJ (λ_=>by simp;omega) ?_;refine AJ (λ_=>by simp;omega) ?_;refine AH (λhc4=>?_) (λhc4=>?_)
   .simp only [Bool.and_eq_true,decide_eq_true_eq,beq_iff_eq] at hc4;obtain⟨⟨c1,c2⟩,c3⟩:=hc4;have hp:=A8b (o:=q+1) (by omega);have hp0:=p2 (q+1);rw [B7y (by omega),show((2^(q+1):Nat):Int)-1=((2^(q+1)-1:Nat):Int) by omega,wi (by omega),B3r (by omega) (by omega),A6j] at c2;rw [B7y (by omega),wi (by omega)] at c3;exact⟨10-(q+1),by omega,q+1,rfl,by omega,rfl,rfl,by omega,by omega⟩
   .have hmx:Mx N ⟨a,q,0⟩:=by
     rcases Nat.lt_or_ge q 10 with hlt|hge
     .have hp:=A8b (o:=q+1) (by omega);have hp0:=p2 (q+1);rw [B7y (by omega),show((2^(q+1):Nat):Int)-1=((2^(q+1)-1:Nat):Int) by omega,wi (x:=((2^(q+1)-1:Nat):Int)) (by omega),B3r (by omega) (by omega),A6j,wi (by omega)] at hc4;by_cases hz:a%2^(q+1)=0
      .refine .inr (.inr (Nat.lt_of_not_le λhle=>?_));dsimp only at hle;rw [hz,decide_eq_true (show(q:Int)<10 by omega),decide_eq_true (show(a:Int)+((2^(q+1):Nat):Int)<=(N:Int) by omega)] at hc4;simp at hc4
      .exact .inr (.inl hz)
     .exact .inl (by dsimp only;omega)
    refine Wi ⟨_,by rw [tnc,mo];exact h5.rm (o:=q) (by omega),?_⟩;have hp:=A8b (o:=q) (by omega);have hp0:=p2 q
    obtain⟨w6,hu,k6,h6⟩:=h5.ins (l':=L++[⟨a,q,0⟩]) (o:=q) (by omega) (a:=a) (λhm=>by
     obtain⟨y,hy,_,_,e⟩:=IV.1 hm;have:=(BI t5 hy).2.1;have:=p2 y.o
     omega) (by omega) (by simp only [EI,D9];simp) (λj _ hj=>by simp only [EI,D9];simp [Ne.symm hj]) (by simp [JD,GN])
    refine⟨w6,hu,AA (by simp) ⟨N-(a+2^q),by omega,a+2^q,L++[⟨a,q,0⟩],by rw [B7y (by omega),wi (by omega)];omega,hfit,rfl,?_,h6,JV.2 ⟨a,t5,by refine⟨rfl,hmod,?_,rfl⟩;dsimp only;omega⟩,λx hx=>?_,λx hx=>?_⟩⟩
    .refine k5.trans k6 (λx hx e=>?_);have:=hfresh x (.inr (.inr ⟨q,by omega,e⟩));omega
    .simp at hx;rcases hx with h|rfl
     .exact g5 x h
     .rfl
    .simp at hx;rcases hx with h|rfl
     .exact x5 x h
     .exact hmx
  .simp at hc3;have:a=N:=by omega
   subst this;exact .inr ⟨a,b',m',t,L,rfl,rfl,k5,h5,B8w hN t5 g5 x5,g5,hfresh⟩
 .rintro e w' ⟨v,rfl,hw⟩;rcases hw with⟨h1,rfl,h2⟩|⟨N,b,m,t,l,h1,rfl,h2⟩
  .exact .inl ⟨h1,rfl,h2⟩
  .exact .inr ⟨N,b,m,t,l,h1,rfl,h2⟩
theorem BO{w w1 w2:WD}(k:AB AD w w1)(k2:AB X w1 w2)(hx:∀x,X x->w.heap.size<=x):AB AD w w2:=
 k.trans k2 λx hl h=>absurd (hx x h) (by omega)
section
variable {w w':WD}{b t:Nat}{m:Nat->Nat}{n:Nat}{l:List Bk}
theorem B83(h:BAt w b m t (BW n l))(hi:Inv n l):Calls prog 42 #[AP b] w λr w'=>r=.returned (.int .i64 (BD l:Nat))/\w'=w:=by
 have:=free_spec h (A56 hi.tl hi.n1.2);rw [A3p n l λx hx=>(BI hi.tl hx).2.2.2] at this;exact this
end
structure Zs where
 g:Nat
 cp:Nat
 c:NI
 k:Nat
 B:Nat->Nat
 T:Nat->Nat
 M:Nat->Nat->Nat
def Zs.n(S:Zs)(i:Nat):Nat:=(S.c (18+i)).toNat
def Zs.bl(S:Zs)(i x:Nat):Prop:=GH (S.B i) (S.M i) (S.T i) x
def Zs.all(S:Zs)(z x:Nat):Prop:=x=z\/x=S.g\/∃i,i<S.k/\S.bl i x
structure ZAt(w:WD)(z:Nat)(S:Zs)(L:Nat->List Bk):Prop where
 so:AX w z (cfg S.c++[.slice (some ⟨S.g,0,none⟩) S.k S.cp])
 sg:∃cs,AX w S.g cs/\∀i,i<S.k->cs[i]? = some (AP (S.B i))
 bt:∀i,i<S.k->BAt w (S.B i) (S.M i) (S.T i) (BW (S.n i) (L i))
 iv:∀i,i<S.k->Inv (S.n i) (L i)
 ap:∀i j,i<S.k->j<S.k->i≠j->∀x,S.bl i x->¬S.bl j x
 zb:∀i,i<S.k->∀x,S.bl i x->x≠z/\x≠S.g
 kc:(S.k:Int)=S.c 0
 my:D6 S.c
section
variable {w w':WD}{z:Nat}{S:Zs}{L:Nat->List Bk}
theorem ZAt.kx(h:ZAt w z S L)(k:AB X w w')(hx:∀x,X x->¬S.all z x):ZAt w' z S L:=by
 obtain⟨cs,h1,h2⟩:=h.sg;exact⟨h.so.kx k λe=>hx _ e (.inl rfl),⟨cs,h1.kx k λe=>hx _ e (.inr (.inl rfl)),h2⟩,λi hi=>(h.bt i hi).kx k λx e hb=>hx _ e (.inr (.inr ⟨i,hi,hb⟩)),h.iv,h.ap,h.zb,h.kc,h.my⟩
theorem ZAt.k(h:ZAt w z S L)(k:AB AD w w'):ZAt w' z S L:=h.kx k λ_ e=>e.elim
theorem ZAt.one(h:ZAt w z S L)(hi:i<S.k)(k:AB (GH (S.B i) (S.M i) (S.T i)) w w')(hb:BAt w' (S.B i) (S.M i) (S.T i) (BW (S.n i) l'))(hv:Inv (S.n i) l'):ZAt w' z S (upd L i l'):=by
 obtain⟨cs,h1,h2⟩:=h.sg;refine⟨h.so.kx k λe=>(h.zb i hi _ e).1 rfl,⟨cs,h1.kx k λe=>(h.zb i hi _ e).2 rfl,h2⟩,λj hj=>?_,λj hj=>?_,h.ap,h.zb,h.kc,h.my⟩
 .by_cases e:j=i
  .subst e;rw [AF];exact hb
  .rw [AI _ _ e];exact(h.bt j hj).kx k λx e1 e2=>h.ap i j hi hj (Ne.symm e) x e1 e2
 .by_cases e:j=i
  .subst e;rw [AF];exact hv
  .rw [AI _ _ e];exact h.iv j hj
theorem ZAt.k8(h:ZAt w z S L):1<=S.k/\S.k<=8:=by have:=h.my.1;have:=h.kc;omega
theorem ZAt.r(h:ZAt w z S L)(hj:j<94):rd w z j=some (.int .i64 (S.c j)):=by
 rw [h.so.rd,gal (by rw [AM];exact hj),AZ _ _ _ _ _ hj,za]
theorem ZAt.r94(h:ZAt w z S L):rd w z 94=some (.slice (some ⟨S.g,0,none⟩) S.k S.cp):=by
 rw [h.so.rd,gar (by rw [AM];omega),AM];rfl
theorem ZAt.rc(h:ZAt w z S L):BB w z 0 (cfg S.c):=h.so.run 0 λj hj=>by
 rw [za,gal (by rw [AM];exact hj),AZ _ _ _ _ _ hj,za]
theorem ZAt.rg(h:ZAt w z S L)(hi:i<S.k):rd w S.g (0+Int.toNat (i:Int)*1)=some (AP (S.B i)):=by
 obtain⟨cs,h1,h2⟩:=h.sg;rw [tnc,mo,za,h1.rd,h2 i hi]
theorem ZAt.lt(h:ZAt w z S L)(hx:S.all z x):x<w.heap.size:=by
 rcases hx with rfl|rfl|⟨i,hi,hb⟩
 .exact h.so.lt
 .obtain⟨cs,h1,_⟩:=h.sg;exact h1.lt
 .exact(h.bt i hi).lt hb
def zfr(S:Zs)(L:Nat->List Bk)(n:Int):Nat:=if 0<=n/\n<(S.k:Int) then BD (L n.toNat) else 0
theorem A5u(hi:i<S.k):zfr S L i=BD (L i):=by unfold zfr;rw [if_pos (by omega),tnc]
theorem A0h(h:ZAt w z S L)(n:Int):Calls prog 11 #[AP z,.int .i64 n] w λr w'=>r=.returned (.int .i64 (zfr S L n:Nat))/\w'=w:=by
 refine(vc11 _ n w (λv w'=>v=.int .i64 (zfr S L n:Nat)/\w'=w) ?_).AE ?_
 .unfold Q;simp only [Ri,Rp,Rs,Wp,Wn,isP_some,Wif_true,gIf_true,pb_some,po_some,za,Option.isNone_some,Bool.not_false,Bool.true_and];refine⟨_,_,_,λ_=>h.r94,?_⟩;simp only [Option.isNone_some,Bool.not_false,Bool.true_and];refine⟨_,_,_,λ_=>h.r94,AH (λhc=>?_) (λhc=>?_)⟩
  .unfold zfr;rw [if_neg (λhh=>?_)]
   .exact⟨rfl,trivial⟩
   .rw [decide_eq_true (show n>=0 from hh.1),decide_eq_true hh.2] at hc;cases hc
  .simp at hc;obtain⟨i,rfl⟩:∃i:Nat,n=(i:Int):=⟨n.toNat,by omega⟩;have hi:i<S.k:=by omega
   refine⟨_,_,_,h.r94,?_⟩;simp only [Ri,Rp,Rs,Wp,Wn,isP_some,Wif_true,pb_some,po_some];refine Wi ⟨_,h.rg hi,(B83 (h.bt i hi) (h.iv i hi)).AE ?_⟩;rintro _ w' ⟨rfl,rfl⟩;exact⟨_,rfl,by rw [A5u hi],rfl⟩
 .rintro e w' ⟨v,rfl,rfl,hw⟩;exact⟨rfl,hw⟩
theorem B39{n:Nat}{order a:Int}(hi:Inv n l)(h:FL l order high a 0 l'):0<=a/\a<n:=by
 rcases h with⟨_,_,h,_⟩|⟨_,_,_,_,_,h,_⟩|⟨o,x,r,a1,a2,a3,a4,a5,a6,a7,a8,a9,a10,a11⟩
 .cases h
 .cases h
 .have:=BI hi.tl a3;have:=p2 o;have:=p2 x.o
  cases high <;> simp at a8 <;> omega
theorem B5x(h:0<BD l):∃x∈l,x.g=0:=by
 induction l with
 | nil=>simp [BD] at h
 | cons x l ih=>
  by_cases g:x.g=0
  .exact⟨x,by simp,g⟩
  .rw [DR,if_neg g] at h;obtain⟨y,hy,gy⟩:=ih (by omega);exact⟨y,mcm _ hy,gy⟩
theorem B37{a e:Int}(h:FL l 0 high a e l')(hp:0<BD l):e=0:=by
 rcases h with⟨h,_⟩|⟨o,h1,_,h2,_⟩|⟨o,x,r,a1,a2,a3,a4,a5,a6,a7,a8,a9,a10,a11⟩
 .omega
 .obtain⟨x,hx,gx⟩:=B5x hp;have:=h2 x hx gx;omega
 .exact a9
theorem SA(h:ZAt w z S L)(hi:i<=S.k):0<=AU S.c i/\AU S.c i<=1024:=by
 have:=h.my.fst (k:=i) (by have:=h.kc;omega);have:=h.k8;omega
theorem B8n(h:ZAt w z S L)(hi:i<S.k):(S.n i:Int)=S.c (18+i)/\4<=S.n i/\S.n i<=128:=by
 have:=h.my.fr (i:=i) (by have:=h.kc;omega);unfold Zs.n;omega
theorem MW(h:ZAt w z S L)(hi:i<S.k)(order:Int)(high:Bool) :
 Calls prog 33 #[AP z,.int .i64 (i:Int),.int .i64 order,.bool high] w λr w'=>∃a e l',r=.returned (.tuple #[.int .i64 (if e=0 then AU S.c i+a else 0),.int .i64 e])/\AB (S.bl i) w w'/\ZAt w' z S (upd L i l')/\FL (L i) order high a e l':=by
 refine(vc33 _ _ _ _ w (λv w'=>∃a e l',v=(.tuple #[.int .i64 (if e=0 then AU S.c i+a else 0),.int .i64 e])/\AB (S.bl i) w w'/\ZAt w' z S (upd L i l')/\FL (L i) order high a e l') ?_).AE ?_
 .unfold Q;simp only [Ri,Rp,Rs,Wp,Wn,isP_some,Wif_true,gIf_true,pb_some,po_some,za,Option.isNone_some,Bool.not_false,Bool.true_and];refine⟨_,_,_,λ_=>h.r94,AL rfl ⟨_,_,_,λ_=>h.r94,?_⟩⟩;simp only [Option.isNone_some,Bool.not_false,Bool.true_and];refine⟨_,_,_,λ_=>h.r94,AL ?_ ⟨_,_,_,h.r94,?_⟩⟩
  .rw [decide_eq_true (show(i:Int)>=0 by omega),decide_eq_true (show(i:Int)<(S.k:Int) by omega)];rfl
  simp only [Ri,Rp,Rs,Wp,Wn,isP_some,Wif_true,pb_some,po_some];refine Wi ⟨_,h.rg hi,(A99 (h.bt i hi) (h.iv i hi) order high).AE ?_⟩;rintro _ w1 ⟨a,e,l',rfl,k1,h1,i1,r1⟩;have z1:=h.one hi k1 h1 i1;refine⟨_,_,rfl,AH (λhc=>?_) (λhc=>?_)⟩
  .have he:e≠0:=by simpa using hc
   exact⟨a,e,l',by rw [if_neg he],k1,z1,r1⟩
  .have he:e=0:=by simpa using hc
   subst he;refine⟨_,z1.rc,(ML S.c h.my w1 i (by have:=h.kc;omega)).AE ?_⟩;rintro _ w2 ⟨rfl,k2⟩;have hf:=SA h (i:=i) (by omega);have ha:=B39 (h.iv i hi) r1;have hn:=B8n h hi;refine⟨_,_,rfl,a,0,l',?_,k1.tr k2,z1.k k2,r1⟩;rw [if_pos rfl,wi (by omega)]
 .rintro e w' ⟨v,rfl,a,e,l',rfl,hw⟩;exact⟨a,e,l',rfl,hw⟩
theorem A7p(h:ZAt w z S L)(fr order:Int)(hfr:-9223372036854775808<=fr/\fr<=9223372036854775807) :
 Calls prog 237 #[AP z,.int .i64 fr,.int .i64 order] w λr w'=>
  (∃i e l',i<S.k/\AU S.c i<=fr/\fr<AU S.c (i+1)/\r=.returned (.int .i64 e)/\AB (S.bl i) w w'/\ZAt w' z S (upd L i l')/\LV (L i) (fr-AU S.c i) order e l')\/
  ((fr<0\/AU S.c S.k<=fr)/\r=.returned (.int .i64 7)/\AB AD w w'):=by
 have hkc:=h.kc;refine(vc237 _ _ _ w (λv w'=>(∃i e l',i<S.k/\AU S.c i<=fr/\fr<AU S.c (i+1)/\v=(.int .i64 e)/\AB (S.bl i) w w'/\ZAt w' z S (upd L i l')/\LV (L i) (fr-AU S.c i) order e l')\/
  ((fr<0\/AU S.c S.k<=fr)/\v=(.int .i64 7)/\AB AD w w')) ?_).AE ?_
 .unfold Q;simp only [Ri,Rp,Rs,Wp,Wn,isP_some,Wif_true,gIf_true,pb_some,po_some,za,Option.isNone_some,Bool.not_false,Bool.true_and];refine⟨_,_,_,λ_=>h.r94,AL rfl ⟨_,h.rc,(A28 S.c h.my w fr hfr.2).AE ?_⟩⟩;rintro _ w1 ⟨k1,⟨i,hi,h1,h2,rfl⟩|⟨hno,rfl⟩⟩
  .have z1:=h.k k1;have hik:i<S.k:=by omega
   refine⟨_,_,rfl,AL rfl ⟨_,z1.rc,(ML S.c h.my w1 i hi).AE ?_⟩⟩;rintro _ w2 ⟨rfl,k2⟩;have z2:=z1.k k2;refine⟨_,_,rfl,_,_,_,z2.r94,?_⟩;simp only [Ri,Rp,Rs,Wp,Wn,isP_some,Wif_true,pb_some,po_some];have hf:=SA h (i:=i) (by omega);have ew:wrap .i64 (fr-AU S.c i)=fr-AU S.c i:=wi (by omega);rw [ew];refine Wi ⟨_,z2.rg hik,(B2f (z2.bt i hik) (z2.iv i hik) _ order).AE ?_⟩;rintro _ w3 ⟨e,l',rfl,k3,h3,i3,r3⟩;exact⟨_,rfl,.inl ⟨i,e,l',hik,h1,h2,rfl,((k1.tr k2).AE λ_ _ h=>h.elim).trans k3 (λx _ hx=>hx),z2.one hik k3 h3 i3,r3⟩⟩
  .refine⟨_,_,rfl,AA rfl (.inr ⟨?_,rfl,k1⟩)⟩;have:(S.c 0).toNat=S.k:=by omega
   rw [this] at hno;exact hno
 .rintro e w' ⟨v,rfl,hw⟩;rcases hw with⟨i,e,l',h1,h2,h3,rfl,hw⟩|⟨h1,rfl,h2⟩
  .exact .inl ⟨i,e,l',h1,h2,h3,rfl,hw⟩
  .exact .inr ⟨h1,rfl,h2⟩
end
theorem B3p{t e:TypeId}{z:Value}(ht:prog.underlying t=some (.slice e))(h:(prog.info? e).map (λi=>(i.zero,i.size,i.bytes))=some (some z,1,8))(hz:z.cells.size=1)
 {w:WD}{base:Nat}{v:Value}{n:Nat}{xs:List Value} (ho:w.ownsRow base e 1 v n xs) {X m c off:Nat}{ys news:List Value} (hx:AX w X ys) (hys:(ys.drop off).take m=news) (hl:news.length=m)
 (h1:∀u∈news,u.oneCell'=true) (h63:n+m<=1000000) (hbase:base<=w.heap.size) :
 ∃a l c' w',BL prog #[t,t] t v (.slice (some ⟨X,off,none⟩) m c) (.slice a l c') w w'/\l=n+m/\w'.ownsRow base e 1 (.slice a l c') (n+m) (xs++news)/\AB (λb=>v.ownBlock=some b) w w':=by
 cases hi:prog.info? e with
 | none=>rw [hi] at h;cases h
 | some i=>
  rw [hi] at h;simp at h;exact A5p (P:=prog) (t:=t) (ty:=t) (e:=e) (i:=i) (z:=z) (size:=1) ht hi h.1 h.2.1 hz (by decide) ho hx (by simpa using hys) (by simpa using hl) h1 h63 (by omega) hbase
theorem B5g:(prog.info? 118).map (λi=>(i.zero,i.size,i.bytes))=some (some (.pointer none),1,8):=by kernel_rfl
theorem A6o:(prog.info? 3).map (λi=>(i.zero,i.size,i.bytes))=some (some (.int .i64 0),1,8):=by kernel_rfl
theorem B0y{w:WD}{t:Nat}{m:Nat->Nat}{s:Bst}(h:AX w g cs)(hc:cs[0]? = some (AP x))(hb:BAt w b m t s):¬GH b m t g:=by
 rintro (rfl|rfl|⟨o,ho,rfl⟩)
 .have h1:=h.rd 0;rw [hb.r0,hc] at h1
  cases h1
 .obtain⟨ty,h⟩:=h;obtain⟨es,c,h1,_⟩:=hb.mt.ex;rw [h] at h1;cases h1
 .obtain⟨ty,h⟩:=h;obtain⟨es,c,h1,_⟩:=(hb.mf o ho).ex;rw [h] at h1;cases h1
theorem A4j{w:WD}{ds:List Value}(h:AX w g cs)(hc:cs[0]? = some (AP x))(hb:AX w b (cfg f++ds)):g≠b:=by
 rintro rfl;have h1:=h.rd 0;rw [hb.rd,hc,gal (by rw [AM];omega),AZ _ _ _ _ _ (by omega)] at h1
 cases h1
theorem zset{v v':Value}:(cfg f++[v]).set 94 v'=cfg f++[v']:=by
 have hl:(cfg f).length=94:=AM ..;generalize cfg f=l at *;rw [List.set_append,if_neg (by omega),hl]
 rfl
structure ZNew(w0 w:WD)(z b0 base:Nat)(c:NI)(q:Nat)(a:OA)(cp:Nat)(B T:Nat->Nat)(M:Nat->Nat->Nat)(L:Nat->List Bk):Prop where
 kp:AB AD w0 w
 ob:AX w b0 (cfg c)
 so:AX w z (cfg c++[.slice a q cp])
 row:w.ownsRow base 118 1 (.slice a q cp) q ((range q).map λi=>AP (B i))
 bt:∀i,i<q->BAt w (B i) (M i) (T i) (BW (c (18+i)).toNat (L i))
 iv:∀i,i<q->Inv (c (18+i)).toNat (L i)
 g0:∀i,i<q->∀x∈L i,x.g=0
 lo:∀i,i<q->∀x,GH (B i) (M i) (T i) x->base<=x/\x≠z/\x≠b0
 ap:∀i j,i<q->j<q->i≠j->∀x,GH (B i) (M i) (T i) x->¬GH (B j) (M j) (T j) x
 sep:∀g,(slice a q cp).ownBlock=some g->g≠z/\g≠b0/\∀i,i<q->¬GH (B i) (M i) (T i) g
theorem A9p(c:NI)(w:WD):Calls prog 62 #[LI c] w λr w'=>AB AD w w'/\((¬D6 c/\r=.returned (.tuple #[.pointer none,.int .i64 2]))\/
 (D6 c/\∃z S L,r=.returned (.tuple #[AP z,.int .i64 0])/\ZAt w' z S L/\S.c=c/\(∀i,i<S.k->∀x∈L i,x.g=0)/\∀x,S.all z x->w.heap.size<=x)):=by
 refine(vc62 c w (λv w'=>AB AD w w'/\((¬D6 c/\v=(.tuple #[.pointer none,.int .i64 2]))\/
  (D6 c/\∃z S L,v=(.tuple #[AP z,.int .i64 0])/\ZAt w' z S L/\S.c=c/\(∀i,i<S.k->∀x∈L i,x.g=0)/\∀x,S.all z x->w.heap.size<=x))) ?_).AE ?_
 .unfold Q;intro w1 e1;have o1:=AG e1;have k1:=kal e1;have z1:w1.heap.size=w.heap.size+1:=by rw [e1];simp only [World.alloc,Array.size_push]
  generalize hb:w.heap.size=b0 at *;refine⟨c,o1.DW,(HH c w1).AE ?_⟩;rintro _ w2 ⟨mb,rfl,hmb,k2⟩;have o2:=o1.k k2;have K2:=k1.tr k2;refine⟨_,rfl,AH (λhc=>?_) (λhc=>?_)⟩
  .have:mb=false:=by simpa using hc
   subst this;exact⟨K2,.inl ⟨by simpa using hmb,rfl⟩⟩
  have:mb=true:=by simpa using hc
  subst this;have hm:D6 c:=hmb.1 rfl;have h0:=hm.1;refine⟨c,o2.DW,?_⟩;intro w3 e3;have o3:=o2.al e3;have p3:=AG e3;have K3:AB AD w w3:=K2.al e3;have z2:=k2.sz;have ob2:=o2.lt;generalize hz:w2.heap.size=z at *;have z3:w3.heap.size=z+1:=by rw [e3,<- hz];simp only [World.alloc,Array.size_push]
  refine⟨c 0,o3.rI (by omega),AA BR ?_⟩;refine⟨λk w' N=>∃(q:Nat) (a:OA) (cp:Nat) (B T:Nat->Nat) (M:Nat->Nat->Nat) (L:Nat->List Bk),k=q/\(q:Int)<=c 0/\N=(c 0).toNat-q/\ZNew w w' z b0 b0 c q a cp B T M L/\(q=0->a=none),
   ⟨(c 0).toNat,0,none,0,λ_=>0,λ_=>0,λ_ _=>0,λ_=>[],rfl,by omega,rfl,⟨K3,o3,p3,World.ownsRow_nil _ _ _ _,λi hi=>absurd hi (nlz _),λi hi=>absurd hi (nlz _),λi hi=>absurd hi (nlz _),λi hi=>absurd hi (nlz _),λi j hi=>absurd hi (nlz _),λg hg=>by simp [Value.ownBlock] at hg⟩,λ_=>rfl⟩,?_⟩
  rintro _ w4 _ ⟨q,a,cp,B,T,M,L,rfl,hq,rfl,N4,ha⟩;have hzb:z≠b0:=by omega
  refine AH (λhc2=>?_) (λhc2=>?_)
  .simp only [decide_eq_true_eq] at hc2;refine Wi ⟨c (18+q),by rw [tnc,mo];exact N4.ob.rI (by omega),(B43 w4 (c (18+q))).AE ?_⟩;have hfr:=hm.fr (i:=q) (by omega);rintro _ w5 (⟨h,_⟩|⟨Nn,b,m,t,l,hN,rfl,k5,h5,i5,g5,fr5⟩)
   .omega
   have eN:Nn=(c (18+q)).toNat:=by omega
   subst eN;have so5:=N4.so.k k5;refine⟨_,_,rfl,a,q,cp,?_,?_⟩
   .rw [so5.rd,gar (by rw [AM];omega),AM];rfl
   intro w6 e6;have k56:=kal e6;have k46:=k5.tr k56;have p6:=AG (c:=[AP b]) e6;have row6:=BA N4.row k46 (λ_ _ _ _=>id);have s46:=k46.sz;have s04:=N4.kp.sz;obtain⟨a',l',c',w7,happ,rfl,row7,k7⟩:=B3p (t:=119) (e:=118) underlying119 B5g rfl row6 p6 (m:=1) (off:=0) (c:=1) (news:=[AP b]) rfl rfl (λu hu=>by simp at hu;subst hu;rfl) (by omega) (by omega);refine⟨a',q+1,c',w7,happ,?_⟩;have so7:=(so5.k k56).kx k7 (λe=>(N4.sep _ e).1 rfl);have ob7:=(N4.ob.k k46).kx k7 (λe=>(N4.sep _ e).2.1 rfl);have bt7:∀i,i<q->BAt w7 (B i) (M i) (T i) (BW (c (18+i)).toNat (L i)):=λi hi=>((N4.bt i hi).k k46).kx k7 λx e hx=>(N4.sep x e).2.2 i hi hx;have h7:BAt w7 b m t (BW (c (18+q)).toNat l):=(h5.k k56).kx k7 λx e hx=>by
    have hf:=fr5 x hx;obtain⟨_,hh⟩:=CN N4.row;rcases hh with⟨rfl,_⟩|⟨g,cs,rfl,_,og,_⟩
    .simp [Value.ownBlock] at e
    .simp [Value.ownBlock] at e;have:=og.lt;omega
   have hrow:(range q).map (λi=>AP (B i))++[AP b]=(range (q+1)).map λi=>AP (upd B q b i):=by
    rw [List.range_succ,F6];congr 1
    .apply List.map_congr_left;intro i hi;rw [AI _ _ (by have:=List.mem_range.1 hi;omega)]
    .simp
   rw [hrow] at row7;obtain⟨_,hh⟩:=CN row7;rcases hh with⟨_,h00,_⟩|⟨g,cs,rfl,hgb,og,htk,_,_⟩
   .omega
   have hc0:cs[0]? = some (AP (upd B q b 0)):=by
    have:(cs.take ((q+1)*1))[0]? = some (AP (upd B q b 0)):=by rw [htk];simp
    rw [List.getElem?_take] at this;split at this
    .exact this
    .cases this
   refine⟨so7.wr (by simp [AM]),?_⟩;intro w8 e8;have so8:=so7.s1 e8;rw [zset] at so8;have k78:AB (·=z) w7 w8:=kr.s1 e8 (.inl rfl);have ob8:=ob7.kx k78 (Ne.symm hzb);have hzl:=N4.so.lt;have hbl:=N4.ob.lt;have lo':∀i,i<q+1->∀x,GH (upd B q b i) (upd M q m i) (upd T q t i) x->b0<=x/\x≠z/\x≠b0:=λi hi x hx=>by
    by_cases e:i=q
    .subst e;simp only [AF] at hx;have:=fr5 x hx;omega
    .simp only [AI _ _ e] at hx;exact N4.lo i (by omega) x hx
   refine⟨(c 0).toNat-(q+1),by omega,q+1,some ⟨g,0,none⟩,c',upd B q b,upd T q t,upd M q m,upd L q l,wzz,by omega,rfl,⟨?_,ob8,so8,?_,λi hi=>?_,λi hi=>?_,λi hi=>?_,lo',λi j hi hj hij x hx hx'=>?_,λg' hg'=>?_⟩,λh=>by omega⟩
   .refine(((N4.kp.tr k46).trans k7 λx hx e=>?_).trans k78 λx hx e=>by omega);obtain⟨_,hh⟩:=CN N4.row;rcases hh with⟨rfl,_⟩|⟨g,cs,rfl,hgb,og,_⟩
    .simp [Value.ownBlock] at e
    .simp [Value.ownBlock] at e;omega
   .exact BA row7 k78 λx _ _ e hx=>by
     simp [Value.ownBlock] at e;subst e;exact A4j og hc0 so7 hx
   .by_cases e:i=q
    .subst e;simp only [AF];exact h7.kx k78 λx e hx=>by have:=fr5 x hx;omega
    .simp only [AI _ _ e];exact(bt7 i (by omega)).kx k78 λx e hx=>(N4.lo i (by omega) x hx).2.1 e
   .by_cases e:i=q
    .subst e;simp only [AF];exact i5
    .simp only [AI _ _ e];exact N4.iv i (by omega)
   .by_cases e:i=q
    .subst e;simp only [AF];exact g5
    .simp only [AI _ _ e];exact N4.g0 i (by omega)
   .have hold:∀i,i<q->∀x,GH (B i) (M i) (T i) x->x<w4.heap.size:=λi hi x hx=>(N4.bt i hi).lt hx;by_cases e:i=q
    .subst e;simp only [AF,AI _ _ (Ne.symm hij)] at hx hx';have:=fr5 x hx;have:=hold j (by omega) x hx';omega
    .by_cases e':j=q
     .subst e';simp only [AF,AI _ _ e] at hx hx';have:=fr5 x hx';have:=hold i (by omega) x hx;omega
     .simp only [AI _ _ e,AI _ _ e'] at hx hx';exact N4.ap i j (by omega) (by omega) hij x hx hx'
   .simp [Value.ownBlock] at hg';subst hg';refine⟨A4j og hc0 so7,A4j (ds:=[]) og hc0 (by rw [List.append_nil];exact ob7),λi hi=>?_⟩;by_cases e:i=q
    .subst e;simp only [AF];exact B0y og hc0 h7
    .simp only [AI _ _ e];exact B0y og hc0 (bt7 i (by omega))
  .have hqk:(q:Int)=c 0:=by simp at hc2;omega
   obtain⟨_,hh⟩:=CN N4.row;rcases hh with⟨_,h00,_⟩|⟨g,cs,rfl,hgb,og,htk,_,_⟩
   .omega
   have hsep:=N4.sep g (by simp [Value.ownBlock]);refine⟨N4.kp,.inr ⟨hm,z,⟨g,cp,c,q,B,T,M⟩,L,rfl,⟨N4.so,⟨cs,og,λi hi=>?_⟩,N4.bt,N4.iv,N4.ap,λi hi x hx=>⟨(N4.lo i hi x hx).2.1,λe=>hsep.2.2 i hi (by rw [<- (show x=g from e)];exact hx)⟩,hqk,hm⟩,rfl,N4.g0,λx hx=>?_⟩⟩
   .have:(cs.take (q*1))[i]? = some (AP (B i)):=by rw [htk];simp [hi]
    rw [List.getElem?_take] at this;split at this
    .exact this
    .cases this
   .rcases hx with rfl|rfl|⟨i,hi,hx⟩
    .omega
    .exact hgb
    .exact(N4.lo i hi x hx).1
 .rintro e w' ⟨v,rfl,hk,hw⟩;refine⟨hk,?_⟩;rcases hw with⟨h1,rfl⟩|⟨h1,z,S,L,rfl,hw⟩
  .exact .inl ⟨h1,rfl⟩
  .exact .inr ⟨h1,z,S,L,rfl,hw⟩
section
variable {w w':WD}{z:Nat}{S:Zs}{L:Nat->List Bk}
def B7f(w w':WD)(z:Nat)(S:Zs)(L:Nat->List Bk)(len:Nat)(nf:NI)(floor:Int)(high:Bool)(v:Value):Prop:=
 (((∃i,i<len/\(nf i<0\/(S.k:Int)<=nf i))\/floor<0)/\v=.tuple #[.int .i64 0,.int .i64 2]/\w'=w)\/
 ((∀i,i<len->0<=nf i/\nf i<(S.k:Int))/\0<=floor/\(∀i,i<len->(zfr S L (nf i):Int)<=floor)/\v=.tuple #[.int .i64 0,.int .i64 6]/\w'=w)\/
 ((∀i,i<len->0<=nf i/\nf i<(S.k:Int))/\0<=floor/\∃(j i:Nat),j<len/\nf j=(i:Int)/\i<S.k/\floor<(BD (L i):Int)/\(∀j',j'<j->(zfr S L (nf j'):Int)<=floor)/\
  ∃a l',v=.tuple #[.int .i64 (AU S.c i+a),.int .i64 0]/\AB (S.bl i) w w'/\ZAt w' z S (upd L i l')/\FL (L i) 0 high a 0 l')
theorem A7o(h:ZAt w z S L){AK:OA}{len cap:Nat}{nf:NI}(hlen:len<=1000000)(hP:0<len->isP AK=true)(hr:∀i,i<len->rd w (pb AK) (po AK+i)=some (.int .i64 (nf i)))(floor:Int)(high:Bool) :
 Calls prog 37 #[AP z,.slice AK len cap,.int .i64 floor,.bool high] w λr w'=>∃v,r=.returned v/\B7f w w' z S L len nf floor high v:=by
 refine vc37 _ _ _ _ _ _ w (λv w'=>B7f w w' z S L len nf floor high v) ?_;unfold Q;simp only [Ri,Rp,Rs,Wp,Wn,isP_some,Wif_true,gIf_true,pb_some,po_some,za,Option.isNone_some,Bool.not_false,Bool.true_and];refine⟨_,_,_,λ_=>h.r94,AL rfl ?_⟩;refine⟨λ_ _ k w' N=>∃q:Nat,k=q/\q<=len/\N=len-q/\w'=w/\∀i,i<q->0<=nf i/\nf i<(S.k:Int),⟨len,0,rfl,by omega,rfl,rfl,λi hi=>absurd hi (nlz _)⟩,?_⟩;rintro _ _ _ w1 _ ⟨q,rfl,hq,rfl,rfl,hv⟩;refine AH (λhc=>?_) (λhc=>?_)
 .simp only [decide_eq_true_eq] at hc;refine AA (hP (by omega)) (Wi ⟨nf q,by rw [tnc,mo];exact hr q (by omega),_,_,_,λ_=>h.r94,?_⟩);simp only [Option.isNone_some,Bool.not_false,Bool.true_and];refine⟨_,_,_,λ_=>h.r94,AH (λhc2=>?_) (λhc2=>?_)⟩
  .refine .inl ⟨.inl ⟨q,by omega,?_⟩,rfl,rfl⟩;rcases Int.lt_or_le (nf q) 0 with h1|h1
   .exact .inl h1
   .rcases Int.lt_or_le (nf q) (S.k:Int) with h2|h2
    .rw [decide_eq_true (show nf q>=0 from h1),decide_eq_true h2] at hc2;cases hc2
    .exact .inr h2
  .simp at hc2;refine⟨len-(q+1),by omega,q+1,wzz,by omega,rfl,trivial,λi hi=>?_⟩;rcases Nat.lt_or_ge i q with hlt|hge
   .exact hv i hlt
   .have:i=q:=by omega
    subst this;exact⟨hc2.1,hc2.2⟩
 have hql:q=len:=by simp at hc;omega
 subst hql;refine AH (λhc2=>?_) (λhc2=>?_)
 .exact .inl ⟨.inr (by simpa using hc2),rfl,rfl⟩
 have hfl:0<=floor:=by simp at hc2;omega
 refine⟨λ_ _ k w' N=>∃p:Nat,k=p/\p<=q/\N=q-p/\w'=w1/\∀i,i<p->(zfr S L (nf i):Int)<=floor,⟨q,0,rfl,by omega,rfl,rfl,λi hi=>absurd hi (nlz _)⟩,?_⟩;rintro _ _ _ _ _ ⟨p,rfl,hp,rfl,rfl,hlow⟩;refine AH (λhc3=>?_) (λhc3=>?_)
 .simp only [decide_eq_true_eq] at hc3;refine AA (hP (by omega)) (Wi ⟨nf p,by rw [tnc,mo];exact hr p (by omega),(A0h h (nf p)).AE ?_⟩);rintro _ _ ⟨rfl,rfl⟩;refine⟨_,rfl,AH (λhc4=>?_) (λhc4=>?_)⟩
  .simp only [decide_eq_true_eq] at hc4;have hvp:=hv p (by omega);obtain⟨i,hi⟩:∃i:Nat,nf p=(i:Int):=⟨(nf p).toNat,by omega⟩;have hik:i<S.k:=by omega
   rw [hi,A5u hik] at hc4;rw [hi];refine(MW h hik 0 high).AE ?_;rintro _ w2 ⟨a,e,l',rfl,k2,z2,r2⟩;have he:=B37 r2 (by omega);subst he;rw [if_pos rfl];exact⟨_,_,rfl,.inr (.inr ⟨hv,hfl,p,i,by omega,hi,hik,by omega,hlow,a,l',rfl,k2,z2,r2⟩)⟩
  .simp only [decide_eq_false_iff_not] at hc4;refine⟨q-(p+1),by omega,p+1,wzz,by omega,rfl,rfl,λi hi=>?_⟩;rcases Nat.lt_or_ge i p with hlt|hge
   .exact hlow i hlt
   .have:i=p:=by omega
    subst this;omega
 .have hpq:p=q:=by simp at hc3;omega
  subst hpq;exact .inr (.inl ⟨hv,hfl,hlow,rfl,rfl⟩)
end
def D4(n:Nat)(f:Nat->List Value):List Value:=(range n).flatMap f
theorem J2(n:Nat)(f:Nat->List Value):D4 (n+1) f=D4 n f++f n:=by
 unfold D4;rw [List.range_succ,List.flatMap_append];simp
theorem DE{s:Nat}{f:Nat->List Value}:∀{n:Nat},(∀i,i<n->(f i).length=s)->(D4 n f).length=n*s
 | 0,_=>by simp [D4]
 | n+1,h=>by rw [J2,lap,DE λi hi=>h i (by omega),h n (by omega),Nat.succ_mul]
theorem ES{s:Nat}{f:Nat->List Value}:∀{n:Nat},(∀i,i<n->(f i).length=s)->∀{i j:Nat},i<n->j<s->(D4 n f)[i*s+j]? = (f i)[j]?
 | 0,_,i,j,hi,_=>absurd hi (nlz _)
 | n+1,h,i,j,hi,hj=>by
  have hl:=DE (s:=s) (f:=f) (n:=n) λi hi=>h i (by omega);rw [J2];by_cases e:i=n
  .subst e;rw [gar (by omega),hl];congr 1;omega
  .have:(i+1)*s<=n*s:=Nat.mul_le_mul_right _ (by omega);rw [Nat.succ_mul] at this;rw [gal (by omega)];exact ES (λi hi=>h i (by omega)) (by omega) hj
theorem DN{f:Nat->List Value}{n:Nat}(h:∀i,i<n->(f i).length=s){v:Value}(hi:i<n)(hj:j<s):(D4 n f).set (i*s+j) v=D4 n (upd f i ((f i).set j v)):=by
 have h2:∀k,k<n->(upd f i ((f i).set j v) k).length=s:=λk hk=>by
  by_cases e:k=i
  .subst e;rw [AF,List.length_set,h k hk]
  .rw [AI _ _ e,h k hk]
 have hl:=DE h;have hl2:=DE h2;refine List.ext_getElem? λk=>?_;rcases Nat.lt_or_ge k (n*s) with hk|hk
 .have hs:0<s:=by omega
  have hdm:k/s*s+k%s=k:=by rw [Nat.mul_comm];exact Nat.div_add_mod k s
  have hd:k/s<n:=by rw [Nat.div_lt_iff_lt_mul hs];exact hk
  have hm:=Nat.mod_lt k hs;rw [List.getElem?_set,hl,<- hdm,ES h hd hm,ES h2 hd hm,hdm];by_cases e:i*s+j=k
  .have e1:k/s=i:=by rw [<- e,Nat.add_comm,Nat.add_mul_div_right _ _ hs,Nat.div_eq_of_lt hj,za]
   have e2:k%s=j:=by rw [<- e,Nat.add_comm,Nat.add_mul_mod_self_right,Nat.mod_eq_of_lt hj]
   rw [if_pos e,if_pos (by omega),e1,e2,AF,List.getElem?_set,if_pos rfl,if_pos (by rw [h i hi];exact hj)]
  .rw [if_neg e];by_cases e1:k/s=i
   .have e2:j≠k%s:=λe2=>e (by rw [<- e1,e2];exact hdm);rw [e1,AF,List.getElem?_set,if_neg e2]
   .rw [AI _ _ e1]
 .rw [gen (by rw [List.length_set];omega),gen (by omega)]
theorem GM{n:Nat}(hs:z.size=s)(h0:0<s):(HY z (n*s)).toList=D4 n λ_=>z.toList:=by
 have h:∀i,i<n->((λ_=>z.toList) i:List Value).length=s:=λi _=>by simpa using hs
 refine List.ext_getElem? λk=>?_;rcases Nat.lt_or_ge k (n*s) with hk|hk
 .have hdm:k/s*s+k%s=k:=by rw [Nat.mul_comm];exact Nat.div_add_mod k s
  have hd:k/s<n:=by rw [Nat.div_lt_iff_lt_mul h0];exact hk
  have hm:=Nat.mod_lt k h0;have h1:=ES h hd hm;rw [hdm] at h1;rw [h1,Array.getElem?_toList,Array.getElem?_toList];simp only [HY,Array.getElem?_map,Array.getElem?_range,hk,if_true,Option.map_some,hs];rw [getElem!_pos z (k%s) (by omega),Array.getElem?_eq_getElem (by omega)]
 .rw [gen (by simp [HY];omega),gen (by rw [DE h];omega)]
theorem B4j{kd:IntKind}{n:Nat}{x:Int}:(D4 n λ_=>replicate s (int kd x))=AQ kd (λ_=>x) 0 (n*s):=by
 have h:∀i,i<n->((λ_=>replicate s (int kd x)) i:List Value).length=s:=λi _=>by simp
 refine DX (DE h) λk hk=>?_;have hs:0<s:=by
  rcases Nat.eq_zero_or_pos s with e|e
  .subst e;omega
  .exact e
 have hdm:k/s*s+k%s=k:=by rw [Nat.mul_comm];exact Nat.div_add_mod k s
 have hd:k/s<n:=by rw [Nat.div_lt_iff_lt_mul hs];exact hk
 have hm:=Nat.mod_lt k hs;have h1:=ES h hd hm;rw [hdm] at h1;rw [h1,List.getElem?_replicate,if_pos hm]
theorem NO{n:Nat}(h:1<s):DO z s n=HY z (n*s):=by
 unfold DO;split
 .omega
 .rfl
end Go.Proofs.YtdgbechegbmpcaaGreatDoor
namespace Go.Eng
open Go
theorem A5e{P:Program}{dT sT ty e:TypeId}{s:Nat}(hu:P.underlying dT=some (.slice e))(hs:(P.info? e).map (·.size)=some s){w:WD}{X:Nat}{ds:List Value}(hd:AX w X ds)(o dl dc:Nat)
 {Y oy sl sc q:Nat}{ys cs:List Value} (hq0:Nat.min sl dl=q) (hy:AX w Y ys) (hc:∀j,j<cs.length->ys[oy+j]? = cs[j]?) (hn:cs.length=q*s) (hfit:o+cs.length<=ds.length) (h1:∀u∈cs,u.oneCell'=true) :
 ∃w',QX P #[dT,sT] ty (.slice (some ⟨X,o,none⟩) dl dc) (.slice (some ⟨Y,oy,none⟩) sl sc) (.int .i64 (q:Nat)) w w'/\AX w' X (ds.take o++cs++ds.drop (o+cs.length))/\AB (·=X) w w':=by
 subst hq0;obtain⟨et,hB⟩:=hd;have hsrc:∀j v,cs[j]? = some v->w.cell? ((⟨Y,oy,none⟩:Addr).add j)=some v:=by
  intro j v hj;rw [HS];have:=hy.rd (oy+j);unfold rd at this;rw [this,hc j (DC.1 hj).1];exact hj
 have hl:=run_loadCells_list (P:=P) w ⟨Y,oy,none⟩ cs hsrc;have hst:=run_storeCells_at P X o et cs 0 ds.toArray w hB (by simpa using hfit) h1;refine⟨_,⟨?_⟩,MB ⟨et,hB⟩,JY _ _ _⟩
 cases hq:P.info? e with
 | none=>simp [hq] at hs
 | some i=>
  have hi:i.size=s:=by simpa [hq] using hs
  simp only [Nat.add_zero] at hst;simp [Builtin.copy_,run_underlying hu,Builtin.lenOf,Builtin.firstCells,sizeOf,typeInfo,hq,hi,<- hn,hl,hst,goInt]
theorem A11{a:Int}(h:0<=a/\a<4294967296):CD .and .u64 a 4294967295=a:=by
 obtain⟨m,rfl⟩:=Int.eq_ofNat_of_zero_le h.1;have hm:m<4294967296:=by omega
 have hx:(BitVec.ofInt 64 (m:Int) &&& BitVec.ofInt 64 (4294967295:Int)).toNat=m:=by
  rw [BitVec.toNat_and,BitVec.toNat_ofInt,BitVec.toNat_ofInt];have e1:((m:Int)%((2^64:Nat):Int)).toNat=m:=by omega
  rw [e1,show((4294967295:Int)%((2^64:Nat):Int)).toNat=2^32-1 by decide,Nat.and_two_pow_sub_one_eq_mod];omega
 show IntKind.wrap .u64 ((BitVec.ofInt 64 (m:Int) &&& BitVec.ofInt 64 (4294967295:Int)).toNat:Int)=_
 rw [hx,wu (by omega)]
end Go.Eng
namespace Go.Proofs.YtdgbechegbmpcaaGreatDoor
open Go Go.Eng Go.Proofs.Tryz
open Go.Value (bool func slice agg int)
open Option (isNone)
open Go.IntKind (wrap)
open List (replicate range)
theorem fd0{a:Int}(h:0<=a/\a<4294967296):Int.fdiv a 4294967296=0:=by
 rw [Int.fdiv_eq_ediv_of_nonneg _ (by decide)];omega
theorem B44{y:Int}(hy:0<=y/\y<=1000000)(w:WD):Calls prog 229 #[.int .u64 1,.int .u64 y] w λe w'=>e=.returned (.tuple #[.int .u64 0,.int .u64 y])/\w'=w:=by
 have hb:Calls prog 269 #[.int .u64 1,.int .u64 y] w λe w'=>e=.returned (.tuple #[.int .u64 0,.int .u64 y])/\w'=w:=by
  refine(vc269 1 y w (λv w'=>v=.tuple #[.int .u64 0,.int .u64 y]/\w'=w) ?_).AE ?_
  .unfold Q;rw [fd0 (a:=y) (by omega),fd0 (a:=1) (by omega),A11 (a:=y) (by omega),A11 (a:=1) (by omega)];simp only [Int.zero_mul,Int.mul_zero,Int.one_mul];have e0:wrap .u64 0=0:=wu (by omega);have ey:wrap .u64 y=y:=wu (by omega);simp only [e0,ey,Int.zero_add,Int.add_zero,fd0 (a:=y) (by omega),fd0 (a:=0) (by omega),A11 (a:=0) (by omega)];exact⟨trivial,trivial⟩
  .rintro e w' ⟨v,rfl,rfl,rfl⟩;exact⟨rfl,rfl⟩
 refine(vc229 1 y w (λv w'=>v=.tuple #[.int .u64 0,.int .u64 y]/\w'=w) ?_).AE ?_
 .unfold Q;refine hb.AE ?_;rintro _ _ ⟨rfl,rfl⟩;exact⟨_,_,rfl,rfl,rfl⟩
 .rintro e w' ⟨v,rfl,rfl,rfl⟩;exact⟨rfl,rfl⟩
theorem A09{x:List Value}{Y:Nat}{n:Nat}{w:WD}(hx:x.length=5)(h1:∀u∈x,u.oneCell'=true)(hy:AX w Y x)(hn:1<=n/\n<=100000) :
 Calls prog 173 #[.slice (some ⟨Y,0,none⟩) 1 1,.int .i64 n] w λe w'=>∃b,w.heap.size<=b/\e=.returned (.slice (some ⟨b,0,none⟩) n n)/\AX w' b (D4 n λ_=>x)/\AB AD w w':=by
 refine(vc173 (some ⟨Y,0,none⟩) 1 1 n w (λv w'=>∃b,w.heap.size<=b/\v=(.slice (some ⟨b,0,none⟩) n n)/\AX w' b (D4 n λ_=>x)/\AB AD w w') ?_).AE ?_
 rotate_left
 .rintro e w' ⟨v,rfl,b,hb,rfl,h⟩;exact⟨b,hb,rfl,h⟩
 unfold Q;have e1:wrap .u64 (((1:Nat):Int))=1:=wu (by omega);have e2:wrap .u64 (n:Int)=n:=wu (by omega);have e3:wrap .i64 (n:Int)=n:=wi (by omega);rw [e1,e2];refine AL (by simp) ((B44 (by omega) w).AE ?_);rintro _ w1 ⟨rfl,rfl⟩;refine⟨_,_,rfl,AL (by simp;omega) ?_⟩;rw [e3];simp only [tnc];refine AA FQ λw2 e=>?_;have hl0:∀m,m<=n->(D4 m λ_=>x).length=m*5:=λm _=>DE λ_ _=>hx;have ez:(DO #[int IntKind.u8 0,int IntKind.i64 0,int IntKind.i64 0,int IntKind.i64 0,int IntKind.i64 0] 5 n).toList.length=n*5:=by
  rw [NO (by decide),GM (s:=5) rfl (by decide)];exact DE λ_ _=>rfl
 have o2:AX w2 w1.heap.size (DO #[int IntKind.u8 0,int IntKind.i64 0,int IntKind.i64 0,int IntKind.i64 0,int IntKind.i64 0] 5 n).toList:=AG e;generalize hzl:(DO #[int IntKind.u8 0,int IntKind.i64 0,int IntKind.i64 0,int IntKind.i64 0,int IntKind.i64 0] 5 n).toList=z at *;have k2:=kal e;have y2:=hy.al e;have hYb:=hy.lt;clear e;generalize hb:w1.heap.size=b at *;have info:(prog.info? 86).map (·.size)=some 5:=by kernel_rfl
 obtain⟨w3,hc,o3,k3⟩:=A5e (dT:=130) (sT:=130) (ty:=3) (e:=86) (s:=5) underlying130 info o2 0 n n (oy:=0) (sl:=1) (sc:=1) (q:=1) (ys:=x) (cs:=x) (Nat.min_eq_left hn.1) y2 (λj hj=>by rw [za]) (by rw [hx]) (by omega) h1;refine⟨1,w3,hc,?_⟩;have K3:AB AD w1 w3:=BO k2 k3 λx e=>by omega
 have G:∀(m:Nat) (cs:List Value),cs.length=n*5->1<=m->m<=n->cs.take (m*5)=D4 m (λ_=>x)->∀k,k<=n-m->k<=m->(cs.take (m*5)++(D4 k λ_=>x)++cs.drop (m*5+(D4 k λ_=>x).length)).take ((m+k)*5)=D4 (m+k) λ_=>x:=by
  intro m cs hcs h1m hmn hm k hk hkm;have e4:(D4 (m+k) λ_=>x)=(D4 m λ_=>x)++D4 k λ_=>x:=by
   clear hk hkm
   induction k with
   | zero=>simp [D4]
   | succ k ih=>rw [<- Nat.add_assoc,J2,ih,J2,List.append_assoc]
  rw [hm,<- e4,List.take_append_of_le_length (by rw [hl0 _ (by omega)];omega),List.take_of_length_le (by rw [hl0 _ (by omega)];omega)]
 refine⟨λk w' N=>∃(m:Nat) (cs:List Value),k=m/\N=n-m/\1<=m/\m<=n/\AB AD w1 w'/\AX w' b cs/\cs.length=n*5/\cs.take (m*5)=D4 m λ_=>x,⟨n-1,1,_,rfl,rfl,by omega,hn.1,K3,o3,?_,?_⟩,?_⟩
 .simp [hx,ez];omega
 .rw [List.take_zero,List.nil_append,Nat.one_mul,List.take_append_of_le_length (by omega),List.take_of_length_le (by omega),J2];simp [D4]
 rintro _ w4 _ ⟨m,cs,rfl,rfl,h1m,hmn,k4,o4,l4,t4⟩;refine AH (λhc2=>?_) (λhc2=>?_)
 .have hmn':m<n:=by simp at hc2;omega
  intro w5 e5;have o5:=o4.dr e5;have k5:AB AD w1 w5:=k4.dr e5;refine AA BR (AA BR ?_);have eo:BS (some (Addr.mk b 0 none)) n (Int.toNat (m:Int)) 5=some ⟨b,m*5,none⟩:=by
   unfold BS;rw [tnc,if_neg (by omega),Option.map_some,HS,za]
  rw [eo];simp only [tnc];obtain⟨q,hq,hr,hl,hp⟩:∃q,Nat.min m (n-m)=q/\q<=n-m/\q<=m/\1<=q:=⟨_,rfl,Nat.min_le_right _ _,Nat.min_le_left _ _,Nat.le_min.2 ⟨h1m,by omega⟩⟩;have hlq:(D4 q λ_=>x).length=q*5:=hl0 q (by omega);obtain⟨w6,hc6,o6,k6⟩:=A5e (dT:=130) (sT:=130) (ty:=3) (e:=86) (s:=5) underlying130 info o5 (m*5) (n-m) (n-m) (oy:=0) (sl:=m) (sc:=n) (q:=q) (ys:=cs) (cs:=D4 q λ_=>x) hq o5
   (λj hj=>by
    have hj':j<q*5:=by omega
    have h2:(cs.take (m*5))[j]? = cs[j]? := List.getElem?_take_of_lt (by omega);rw [za,<- h2,t4];have hdm:j/5*5+j%5=j:=by omega
    rw [<- hdm,ES (s:=5) (λ_ _=>hx) (by omega) (by omega),ES (s:=5) (λ_ _=>hx) (by omega) (by omega)])
   hlq (by omega)
   (λu hu=>by
    simp only [D4,List.mem_flatMap] at hu;obtain⟨_,_,hu⟩:=hu;exact h1 u hu)
  refine⟨_,w6,hc6,n-(m+q),by omega,m+q,_,by rw [wi (by omega)];omega,rfl,by omega,by omega,BO k5 k6 λx e=>by omega,o6,?_,G m cs l4 h1m hmn t4 q hr hl⟩;rw [lap,lap,List.length_take,List.length_drop,hl0 _ (by omega),l4];omega
 .have:m=n:=by simp at hc2;omega
  subst this;refine⟨b,by omega,rfl,?_,k4⟩;rw [<- t4,List.take_of_length_le (by omega)];exact o4
end Go.Proofs.YtdgbechegbmpcaaGreatDoor
namespace Go.Proofs.YtdgbechegbmpcaaGreatDoor
open Go Go.Eng Go.Proofs.Tryz
open Go.Value (bool func slice agg int)
open Option (isNone)
open Go.IntKind (wrap)
open List (replicate range)
variable {s:Nat}{w':WD}
theorem _root_.Go.Eng.wr.lt{w:WD}{b o:Nat}(h:wr w b o):b<w.heap.size:=J3 h.cell.choose_spec
abbrev Rd(α:Type):=WD->List Value->α->Prop
structure SlR{α:Type}(R:Rd α)(s:Nat)(w:WD)(a:OA)(l c:Nat)(xs:List α):Prop where
 len:l=xs.length
 isp:0<l->isP a=true
 nil:a=none->c=0
 lc:l<=c
 mx:c<=maxLen
 el:∀(i:Nat) (x:α),xs[i]? = some x->∃cs:List Value,cs.length=s/\R w cs x/\∀(j:Nat) (u:Value),cs[j]? = some u->rd w (pb a) (po a+i*s+j)=some u
 wl:∀o:Nat,o<l*s->wr w (pb a) (po a+o)
def PL{α:Type}(R:Rd α):Prop:=∀(w w':WD) (cs:List Value) (x:α),R w cs x->AB AD w w'->R w' cs x
theorem SlR.k{α:Type}{R:Rd α}{w:WD}{a:OA}{l c:Nat}{xs:List α}(h:SlR R s w a l c xs)(hs:PL R)(k:AB AD w w'):SlR R s w' a l c xs:=
 ⟨h.len,h.isp,h.nil,h.lc,h.mx,λi x hx=>by
  obtain⟨cs,h1,h2,h3⟩:=h.el i x hx;exact⟨cs,h1,hs _ _ _ _ h2 k,λj u hu=>k.AV (h3 j u hu) id⟩,λo ho=>by
  have h1:=h.wl o ho;rw [k.wrE _ _ h1.lt];exact h1⟩
theorem SlR.MG{α:Type}{R:Rd α}{w:WD}:SlR R s w none 0 0 ([]:List α):=
 ⟨rfl,λh=>absurd h (Nat.lt_irrefl _),λ_=>rfl,nlr _,Nat.zero_le _,λi x hx=>by simp at hx,λo ho=>by rw [Nat.zero_mul] at ho;omega⟩
def RL{α:Type}(R:Rd α)(s:Nat):Rd (List α):=λw cs xs=>∃(a:OA) (l c:Nat),cs=[.slice a l c]/\SlR R s w a l c xs
theorem RL.ED{α:Type}{R:Rd α}(hs:PL R):PL (RL R s):=λw w' cs x h k=>by
 obtain⟨a,l,c,e,h⟩:=h;exact⟨a,l,c,e,h.k hs k⟩
structure Mark where
 role:Int
 order:Int
 owner:Int
 page:Int
 index:Int
deriving DecidableEq
structure Own where
 n:Int
 pid:Int
 page:Int
deriving DecidableEq
structure FV where
 page:Int
 kind:Int
 n:Int
deriving DecidableEq
structure Run where
 page:Int
 count:Int
 rights:Int
deriving DecidableEq
structure PM where
 pid:Int
 root:Int
 leaves:List (Int×Int)
 B4w:List FV
 pinned:List Int
 runs:List Run
structure C7q where
 node:Int
 cls:Int
 frame:Int
 colour:Int
 count:Int
 chain:List Int
 alive:List (Int×Int)
def GW:Rd Int:=λ_ cs n=>cs=[vi n]
def E6:Rd (Int×Int):=λ_ cs x=>cs=[vi x.1,vi x.2]
def A7m:Rd (Int×Int):=λ_ cs x=>cs=[vi x.1,.int .u64 x.2]
def B7g:Rd Own:=λ_ cs x=>cs=[vi x.n,vi x.pid,vi x.page]
def B3t:Rd Mark:=λ_ cs x=>cs=[.int .u8 x.role,vi x.order,vi x.owner,vi x.page,vi x.index]
def KX:Rd FV:=λ_ cs x=>cs=[vi x.page,.int .u8 x.kind,vi x.n]
def C3v:Rd Run:=λ_ cs x=>cs=[vi x.page,vi x.count,.int .u8 x.rights]
theorem JE{α:Type}{f:α->List Value}:PL (λ_ cs x=>cs=f x):=λ_ _ _ _ h _=>h
theorem GW.ED:PL GW:=JE
theorem E6.ED:PL E6:=JE
theorem A7m.ED:PL A7m:=JE
theorem B7g.ED:PL B7g:=JE
theorem B3t.ED:PL B3t:=JE
theorem KX.ED:PL KX:=JE
theorem C3v.ED:PL C3v:=JE
def OG:Rd PM:=λw cs p=>∃(a1:OA) (l1 c1:Nat) (a2:OA) (l2 c2:Nat) (a3:OA) (l3 c3:Nat) (a4:OA) (l4 c4:Nat),
 cs=[vi p.pid,vi p.root,.slice a1 l1 c1,.slice a2 l2 c2,.slice a3 l3 c3,.slice a4 l4 c4]/\SlR E6 2 w a1 l1 c1 p.leaves/\SlR KX 3 w a2 l2 c2 p.B4w/\SlR C3v 3 w a4 l4 c4 p.runs
theorem OG.ED:PL OG:=λw w' cs x h k=>by
 obtain⟨a1,l1,c1,a2,l2,c2,a3,l3,c3,a4,l4,c4,e,h1,h2,h4⟩:=h;exact⟨a1,l1,c1,a2,l2,c2,a3,l3,c3,a4,l4,c4,e,h1.k E6.ED k,h2.k KX.ED k,h4.k C3v.ED k⟩
def B6m:Rd C7q:=λw cs p=>∃(a1:OA) (l1 c1:Nat) (a2:OA) (l2 c2:Nat),
 cs=[vi p.node,vi p.cls,vi p.frame,vi p.colour,vi p.count,.slice a1 l1 c1,.slice a2 l2 c2]/\SlR GW 1 w a1 l1 c1 p.chain/\SlR A7m 2 w a2 l2 c2 p.alive
theorem B6m.ED:PL B6m:=λw w' cs x h k=>by
 obtain⟨a1,l1,c1,a2,l2,c2,e,h1,h2⟩:=h;exact⟨a1,l1,c1,a2,l2,c2,e,h1.k GW.ED k,h2.k A7m.ED k⟩
structure Pic where
 c:NI
 marks:List Mark
 free:List (Int×Int)
 held:List (List Int)
 flying:List (List (Int×Int))
 flight:List Int
 procs:List PM
 frames:List Own
 clocks:List (List Int)
 AY:List Own
 slabs:List C7q
 mags:List (List (List (Int×Int)))
 depots:List (List (List (Int×Int)))
 holders:List Int
structure B7h where
 a:Nat->OA
 l:Nat->Nat
 c:Nat->Nat
def B7h.v(S:B7h)(i:Nat):Value:=.slice (S.a i) (S.l i) (S.c i)
structure C3h(w:WD)(S:B7h)(x:Pic):Prop where
 marks:SlR B3t 5 w (S.a 0) (S.l 0) (S.c 0) x.marks
 free:SlR E6 2 w (S.a 1) (S.l 1) (S.c 1) x.free
 held:SlR (RL GW 1) 1 w (S.a 2) (S.l 2) (S.c 2) x.held
 flying:SlR (RL E6 2) 1 w (S.a 3) (S.l 3) (S.c 3) x.flying
 flight:SlR GW 1 w (S.a 4) (S.l 4) (S.c 4) x.flight
 procs:SlR OG 6 w (S.a 5) (S.l 5) (S.c 5) x.procs
 frames:SlR B7g 3 w (S.a 6) (S.l 6) (S.c 6) x.frames
 clocks:SlR (RL GW 1) 1 w (S.a 7) (S.l 7) (S.c 7) x.clocks
 AY:SlR B7g 3 w (S.a 8) (S.l 8) (S.c 8) x.AY
 slabs:SlR B6m 7 w (S.a 9) (S.l 9) (S.c 9) x.slabs
 mags:SlR (RL (RL E6 2) 1) 1 w (S.a 10) (S.l 10) (S.c 10) x.mags
 depots:SlR (RL (RL E6 2) 1) 1 w (S.a 11) (S.l 11) (S.c 11) x.depots
 holders:SlR GW 1 w (S.a 12) (S.l 12) (S.c 12) x.holders
theorem C3h.k{w:WD}{S:B7h}{x:Pic}(h:C3h w S x)(k:AB AD w w'):C3h w' S x:=
 ⟨h.marks.k B3t.ED k,h.free.k E6.ED k,h.held.k (RL.ED GW.ED) k,h.flying.k (RL.ED E6.ED) k,h.flight.k GW.ED k,h.procs.k OG.ED k,h.frames.k B7g.ED k,h.clocks.k (RL.ED GW.ED) k,h.AY.k B7g.ED k,h.slabs.k B6m.ED k,h.mags.k (RL.ED (RL.ED E6.ED)) k,h.depots.k (RL.ED (RL.ED E6.ED)) k,h.holders.k GW.ED k⟩
def FI(m:Mark):List Value:=[.int .u8 m.role,vi m.order,vi m.owner,vi m.page,vi m.index]
structure BU(w:WD)(m bb mb:Nat)(c:NI)(n:Nat)(by':NI)(mk:Nat->Mark):Prop where
 so:AX w m (cfg c++[.slice (some ⟨bb,0,none⟩) (n*256) (n*256),.slice (some ⟨mb,0,none⟩) n n])
 bs:AX w bb (AQ .u8 by' 0 (n*256))
 ms:AX w mb (D4 n λi=>FI (mk i))
 ne:m≠bb/\m≠mb/\bb≠mb
structure LW(w:WD)(d db n:Nat)(f:NI):Prop where
 so:AX w d [.slice (some ⟨db,0,none⟩) n n,.bool true]
 bs:AX w db (AQ .u8 f 0 (n*256))
 ne:d≠db
def E3(x:Int×Int):List Value:=[vi x.1,vi x.2]
def pgV(x:Int×Int):Value:=.agg #[vi x.1,vi x.2]
structure DI(w:WD)(r fb mb n:Nat)(of:Nat->Int×Int)(at':List ((Int×Int)×Value)):Prop where
 so:AX w r [.slice (some ⟨fb,0,none⟩) n n,.map (some mb)]
 fs:AX w fb (D4 n λi=>E3 (of i))
 mp:F8 pgV w mb at'
 ne:r≠fb/\r≠mb/\fb≠mb
structure ER(w:WD)(s fb n:Nat)(of:Nat->Int×Int):Prop where
 so:AX w s [.slice (some ⟨fb,0,none⟩) n n,.bool true]
 fs:AX w fb (D4 n λi=>E3 (of i))
 ne:s≠fb
def BX(w:WD)(l n:Nat)(h:NI):Prop:=AX w l ([vi n]++(AQ .i64 h 0 64++[.bool true]))
theorem A7v(c:NI)(hm:D6 c)(w:WD):Calls prog 172 #[LI c] w λe w'=>e=.returned (.int .i64 (AU c (c 0).toNat))/\AB AD w w':=by
 refine(vc172 c w (λv w'=>v=.int .i64 (AU c (c 0).toNat)/\AB AD w w') ?_).AE ?_
 rotate_left
 .rintro e w' ⟨v,rfl,rfl,hw⟩;exact⟨rfl,hw⟩
 have h0:=hm.1;unfold Q;intro w1 e1;have o1:=AG e1;have k1:=kal e1;generalize hb:w.heap.size=b at *;refine⟨c,o1.DW,(HH c w1).AE ?_⟩;rintro _ w2 ⟨mb,rfl,hmb,k2⟩;have:mb=true:=hmb.2 hm;subst this;have o2:=o1.k k2;have hz:∀i,(c 0).toNat<=i->i<8->c (18+i)=0:=λi h1 h2=>by
  rw [hm.2.2.2.1 (18+i) (by omega)];unfold IK;rw [if_pos (by omega)]
 refine⟨true,rfl,AL rfl ⟨λi=>c (18+i),o2.run 18 (λj hj=>AZ _ _ _ _ _ (by omega) |>.trans (by rw [za])),?_⟩⟩;refine⟨λs k w' N=>∃q:Nat,k=q/\q<=8/\N=8-q/\AB AD w w'/\s=AU c (min q (c 0).toNat),⟨8,0,rfl,by omega,rfl,k1.tr k2,by simp [AU]⟩,?_⟩;rintro _ _ w3 _ ⟨q,rfl,hq,rfl,k3,rfl⟩;have hf0:=hm.fst (k:=min q (c 0).toNat) (by omega);refine AH (λhc=>?_) (λhc=>?_)
 .simp only [decide_eq_true_eq] at hc;have f1:=hm.fst (k:=min (q+1) (c 0).toNat) (by omega);have hc1:AU c (min q (c 0).toNat)+c (18+q)=AU c (min (q+1) (c 0).toNat):=by
   rcases Nat.lt_or_ge q (c 0).toNat with h|h
   .rw [Nat.min_eq_left (by omega),Nat.min_eq_left (by omega)];rfl
   .rw [Nat.min_eq_right h,Nat.min_eq_right (by omega),hz q h (by omega)];omega
  refine Wi ⟨c (18+q),?_,8-(q+1),by omega,q+1,wzz,by omega,rfl,k3,by rw [hc1,wi (by omega)]⟩;rw [tnc,mo]
  match q,(show q<8 by omega) with
  | 0,_|1,_|2,_|3,_|4,_|5,_|6,_|7,_=>rfl
 .have:q=8:=by simp at hc;omega
  subst this;rw [Nat.min_eq_right (by omega)];exact⟨rfl,k3⟩
theorem D6.tot{c:NI}(hm:D6 c):4<=AU c (c 0).toNat/\AU c (c 0).toNat<=1024:=by
 have h0:=hm.1;have h1:=hm.fst (k:=(c 0).toNat) (by omega);have h2:=A3m hm (i:=1) (k:=(c 0).toNat) (by omega) (by omega);have h3:=hm.fr (i:=0) (by omega);have:AU c 1=0+c (18+0):=rfl;omega
def CX:Mark:=⟨1,0,0,0,0⟩
theorem B1h(c:NI)(hm:D6 c)(w:WD):Calls prog 61 #[LI c] w λe w'=>∃m bb mb,e=.returned (.tuple #[AP m,vi 0])/\AB AD w w'/\BU w' m bb mb c (AU c (c 0).toNat).toNat (λ_=>0) (λ_=>CX)/\
 (w.heap.size<=m/\w.heap.size<=bb/\w.heap.size<=mb):=by
 refine(vc61 c w (λv w'=>∃m bb mb,v=(.tuple #[AP m,vi 0])/\AB AD w w'/\BU w' m bb mb c (AU c (c 0).toNat).toNat (λ_=>0) (λ_=>CX)/\
  (w.heap.size<=m/\w.heap.size<=bb/\w.heap.size<=mb)) ?_).AE ?_
 rotate_left
 .rintro e w' ⟨v,rfl,m,bb,mb,rfl,hw⟩;exact⟨m,bb,mb,rfl,hw⟩
 have ht:=hm.tot;unfold Q;intro w1 e1;have o1:=AG e1;have k1:=kal e1;have s1:w1.heap.size=w.heap.size+1:=by rw [e1];simp only [World.alloc,Array.size_push]
 clear e1;generalize hb:w.heap.size=b at *;refine⟨c,o1.DW,(HH c w1).AE ?_⟩;rintro _ w2 ⟨ok,rfl,hmb,k2⟩;have:ok=true:=hmb.2 hm;subst this;have o2:=o1.k k2;refine⟨true,rfl,AL rfl ⟨c,o2.DW,(A7v c hm w2).AE ?_⟩⟩;rintro _ w3 ⟨rfl,k3⟩;have o3:=o2.k k3;refine⟨_,rfl,λw4 e4=>⟨c,(o3.dr e4).DW,?_⟩⟩;have o4:=o3.dr e4;have k4:AB AD w w4:=((k1.tr k2).tr k3).dr e4;clear e4 hmb;generalize hN:AU c (c 0).toNat=N at *;obtain⟨n,rfl⟩:∃n:Nat,N=n:=⟨N.toNat,by omega⟩;rw [wi (by omega)];have hs4:=k4.sz;have hen:((n:Int)*256).toNat=n*256:=by omega
 rw [hen];have ok:IU 1 ((n:Int)*256) ((n:Int)*256)=true:=FQ;have er:replicate (n*256) (int IntKind.u8 0)=AQ .u8 (λ_=>0) 0 (n*256):=DX (by simp) λj hj=>by simp [hj]
 rw [er];simp only [ok,Wif_true,and_true];have on:∀{w' w'':WD},AB AD w4 w'->BB w' b 0 (cfg c):=λk=>(o4.k k).DW;have M5:([int .u8 1,.int .i64 0,.int .i64 0,.int .i64 0,.int .i64 0]:List Value)=FI CX:=rfl;have fin:∀{w5 w6:WD}{bb mb:Nat} (k:AB AD w4 w5),AX w5 bb (AQ .u8 (λ_=>0) 0 (n*256))->AX w5 mb (D4 n λ_=>[int .u8 1,.int .i64 0,.int .i64 0,.int .i64 0,.int .i64 0])->w4.heap.size<=bb->w4.heap.size<=mb->bb≠mb->
  w6=World.alloc w5 (Obj.cells (List.toArray (cfg c++[slice (some (Addr.mk bb 0 none)) (n*256) (n*256),slice (some (Addr.mk mb 0 none)) n n])) 163)->
  ∃m bb' mb',(Value.tuple #[Value.pointer (some (Addr.mk w5.heap.size 0 none)),int IntKind.i64 0])=(.tuple #[AP m,vi 0])/\AB AD w w6/\BU w6 m bb' mb' c ((n:Int)).toNat (λ_=>0) (λ_=>CX)/\(b<=m/\b<=bb'/\b<=mb'):=by
  intro w5 w6 bb mb k ob om hbb hmb hne e6;have:=ob.lt;have:=om.lt;have:=k.sz;have k6:=kal e6;refine⟨_,bb,mb,rfl,(k4.tr k).tr k6,?_,by omega,by omega,by omega⟩;rw [tnc];exact⟨AG e6,ob.k k6,om.k k6,by omega,by omega,hne⟩
 refine⟨λw5 e5=>⟨(on (w'':=w4) (kr.al e5)),λw6 e6=>⟨on (w'':=w4) ((kr.al e5).al e6),(A09 (n:=n) rfl (by decide) (AG e6) (by omega)).AE ?_⟩⟩,λw5 e5=>⟨on (w'':=w4) (kr.al e5),λw6 e6=>⟨on (w'':=w4) ((kr.al e5).al e6),(A09 (n:=n) rfl (by decide) ((AG e5).al e6) (by omega)).AE ?_⟩,(A09 (n:=n) rfl (by decide) (AG e5) (by omega)).AE ?_⟩⟩
 .rintro _ w7 ⟨mb,hmb,rfl,om,k7⟩;have k5:=kal e5;have k6:=kal e6;refine⟨_,_,_,rfl,on (w'':=w4) ((k5.tr k6).tr k7),λw8 e8=>fin ((k5.tr k6).tr k7) (((AG e5).k k6).k k7) om (nlr _) ?_ ?_ e8⟩
  .have:=k5.sz;have:=k6.sz;omega
  .have:=(AG e5).lt;have:=k6.sz;omega
 .rintro _ w7 ⟨mb,hmb,rfl,om,k7⟩;have k5:=kal e5;have k6:=kal e6;refine⟨_,_,_,rfl,on (w'':=w4) ((k5.tr k6).tr k7),λw8 e8=>fin ((k5.tr k6).tr k7) ((AG e6).k k7) om k5.sz ?_ ?_ e8⟩
  .have:=k5.sz;have:=k6.sz;omega
  .have:=(AG e6).lt;omega
 .rintro _ w7 ⟨mb,hmb,rfl,om,k7⟩;have k5:=kal e5;refine⟨_,_,_,rfl,on (w'':=w4) (k5.tr k7),λw8 e8=>⟨on (w'':=w4) ((k5.tr k7).al e8),λw9 e9=>?_⟩⟩;have k8:=kal e8;exact fin ((k5.tr k7).tr k8) (AG e8) (om.k k8) (by have:=k5.sz;have:=k7.sz;omega) (by have:=k5.sz;omega) (by have:=om.lt;omega) e9
