/- Part of a proof that a law returns true. Conditions: those in each theorem. -/
import Derived.Test.YtdgbechegbmpcaaGreatDoorBL3
import Derived.Shelf.Small.Bits
import Derived.Test.YtdgbechegbmpcaaGreatDoorProg
import Derived.KernelRfl
import Derived.Shelf.Spec.TrailingZeros
import Derived.Test.YtdgbechegbmpcaaGreatDoorCards
import Derived.Test.YtdgbechegbmpcaaGreatDoorTie
import Derived.ProofKit
import Derived.OpenShut
import Derived.Deep.DeepHandedRow
import Derived.Lib.LaidTab
import Derived.Test.YtdgbechegbmpcaaGreatDoorEngU
import Derived.Test.YtdgbechegbmpcaaGreatDoorB0
set_option linter.unusedSimpArgs false
set_option linter.unusedVariables false
set_option maxRecDepth 100000
namespace Go.Proofs.YtdgbechegbmpcaaGreatDoor
open Go Go.Eng Go.Proofs.Tryz
theorem GS{kd:IntKind}{f:Nat->Int}{n i:Nat}{v:Int}(hi:i<n):(AK kd f 0 n).set i (.int kd v)=AK kd (upd f i v) 0 n:=by
 refine E6 (by rw [List.length_set,AI]) fun j hj=>?_;rw [List.getElem?_set,AI];by_cases e:i=j
 ·subst e;simp [hi]
 ·rw [if_neg e,AT _ _ _ _ _ hj,za,AH _ _ (Ne.symm e)]
def sz(k:Nat):Int:=[8,16,24,40,56,72,104,128].getD k 1
def F4(w:WD):Prop:=∀i,i<8->rd w 0 i=some (vi (sz i))
theorem F4.k{w w':WD}(h:F4 w)(k:Kept AB w w'):F4 w':=fun i hi=>k.rd_some (h i hi) id
theorem F4.kx{X:NP}{w w':WD}(h:F4 w)(k:Kept X w w')(hx:¬X 0):F4 w':=fun i hi=>k.rd_some (h i hi) hx
theorem sz_ok{i:Nat}(hi:i<8):8<=sz i/\sz i<=128/\Int.tmod (sz i) 8=0:=by
 match i,hi with
 | 0,_|1,_|2,_|3,_|4,_|5,_|6,_|7,_=>exact(by decide)
theorem clampN{n:Int}{m:Int}(h0:0<=n)(h1:n<=m):(if m<if 0>n then 0 else n then m else if 0>n then 0 else n)=n:=by
 rw [if_neg (show ¬(0:Int)>n by omega),if_neg (by omega)]
theorem dnew_spec{n:Nat}(hn:n<=1024)(w:WD):Calls prog 63 #[vi n] w fun e w'=>∃d db,e=.returned (ptr d)/\Kept AB w w'/\NV w' d db n (fun _=>0)/\w.heap.size<=d/\w.heap.size<=db:=by
 refine(vc63 n w (fun v w'=>∃d db,v=ptr d/\Kept AB w w'/\NV w' d db n (fun _=>0)/\w.heap.size<=d/\w.heap.size<=db) ?_).mono ?_
 ·unfold Q;rw [clampN (by omega) (by omega),tnc];refine AA FH fun w1 e1 w2 e2=>⟨_,_,rfl,((Kept.refl _ w).al e1).al e2,⟨AD e2,?_,by rw [e1];simp only [World.alloc,Array.size_push];omega⟩,by rw [e1];simp only [World.alloc,Array.size_push];omega,nlr _⟩;have o1:own w1 w.heap.size (DK (List.toArray (List.replicate 256 (Value.int IntKind.u8 0))) 256 n).toList:=AD e1;rw [MU (by decide),G1 (s:=256) (by simp) (by decide),List.toList_toArray,rowL_run] at o1;exact o1.al e2
 ·rintro e w' ⟨v,rfl,d,db,rfl,h⟩;exact⟨d,db,rfl,h⟩
theorem lnew_spec{n:Nat}(hn:n<=64)(w:WD):Calls prog 64 #[vi n] w fun e w'=>∃l,e=.returned (ptr l)/\Kept AB w w'/\BR w' l n (fun _=>0)/\w.heap.size<=l:=by
 refine(vc64 n w (fun v w'=>∃l,v=ptr l/\Kept AB w w'/\BR w' l n (fun _=>0)/\w.heap.size<=l) ?_).mono ?_
 ·unfold Q;rw [clampN (by omega) (by omega)];intro w1 e1;exact⟨_,rfl,(Kept.refl _ w).al e1,AD e1,nlr _⟩
 ·rintro e w' ⟨v,rfl,l,rfl,h⟩;exact⟨l,rfl,h⟩
theorem pairs0{n:Nat}:(DK #[Value.int IntKind.i64 0,Value.int IntKind.i64 0] 2 n).toList=CU n fun _=>EP (0,0):=by
 rw [MU (by decide),G1 (s:=2) rfl (by decide)]
 rfl
theorem rmnew_spec{n:Nat}(hn:n<=1024)(w:WD):Calls prog 65 #[vi n] w fun e w'=>∃r fb mb,e=.returned (ptr r)/\Kept AB w w'/\DE w' r fb mb n (fun _=>(0,0)) []/\w.heap.size<=r/\w.heap.size<=fb/\w.heap.size<=mb:=by
 refine(vc65 n w (fun v w'=>∃r fb mb,v=ptr r/\Kept AB w w'/\DE w' r fb mb n (fun _=>(0,0)) []/\w.heap.size<=r/\w.heap.size<=fb/\w.heap.size<=mb) ?_).mono ?_
 ·unfold Q;rw [clampN (by omega) (by omega),tnc];refine AA FH fun w1 e1 w2 e2 w3 e3=>?_;have o1:own w1 w.heap.size _:=AD (c:=(DK #[Value.int IntKind.i64 0,Value.int IntKind.i64 0] 2 n).toList) e1;rw [pairs0] at o1;have k1:Kept AB w w1:=(Kept.refl _ w).al e1;have k2:Kept AB w1 w2:=e2▸kr.allocMap #[] 0;have k3:=kal e3;have h1:=k1.sz;have h2:=k2.sz;exact⟨_,_,_,rfl,(k1.tr k2).tr k3,⟨AD e3,(o1.k k2).k k3,(mapG_new e2).k k3,by have:=(mapG_new (enc:=pgV) e2).lt;have:=o1.lt;omega⟩,by omega,nlr _,h1⟩
 ·rintro e w' ⟨v,rfl,r,fb,mb,rfl,h⟩;exact⟨r,fb,mb,rfl,h⟩
theorem slnew_spec{n:Nat}(hn:n<=1024)(w:WD):Calls prog 67 #[vi n] w fun e w'=>∃s fb,e=.returned (ptr s)/\Kept AB w w'/\DH w' s fb n (fun _=>(0,0))/\w.heap.size<=s/\w.heap.size<=fb:=by
 refine(vc67 n w (fun v w'=>∃s fb,v=ptr s/\Kept AB w w'/\DH w' s fb n (fun _=>(0,0))/\w.heap.size<=s/\w.heap.size<=fb) ?_).mono ?_
 ·unfold Q;rw [clampN (by omega) (by omega),tnc];refine AA FH fun w1 e1 w2 e2=>?_;have o1:own w1 w.heap.size _:=AD (c:=(DK #[Value.int IntKind.i64 0,Value.int IntKind.i64 0] 2 n).toList) e1;rw [pairs0] at o1;have k1:Kept AB w w1:=(Kept.refl _ w).al e1;have k2:=kal e2;exact⟨_,_,rfl,k1.tr k2,⟨AD e2,o1.k k2,by have:=o1.lt;omega⟩,k1.sz,nlr _⟩
 ·rintro e w' ⟨v,rfl,s,fb,rfl,h⟩;exact⟨s,fb,rfl,h⟩
def slabC(B:Nat)(size cnt x y:Int)(tl:List Value):List Value:=[.slice (some ⟨B,0,none⟩) 256 256,vi size,vi 0,vi cnt,.int .u8 x,vi y]++tl
theorem push_new{w:WD}{S B:Nat}{size cnt x y i:Int}{tl:List Value}{f:Nat->Int}(hS:own w S (slabC B size cnt x y tl))(hB:own w B (AK .u8 f 0 256))(hne:S≠B)(hi:0<=i*size/\i*size<256) :
 Calls prog 230 #[ptr S,vi i] w fun e w'=>e=.returned (.tuple #[])/\Kept (fun b=>b=S\/b=B) w w'/\∃x' y' f',own w' S (slabC B size cnt x' y' tl)/\own w' B (AK .u8 f' 0 256):=by
 refine(vc230 _ i w (fun v w'=>v=.tuple #[]/\Kept (fun b=>b=S\/b=B) w w'/\∃x' y' f',own w' S (slabC B size cnt x' y' tl)/\own w' B (AK .u8 f' 0 256)) ?_).mono ?_
 rotate_left
 ·rintro e w' ⟨v,rfl,rfl,h⟩;exact⟨rfl,h⟩
 unfold Q;intro w1 e1;have s1:=hS.dr e1;have b1:=hB.dr e1;have k1:Kept (fun b=>b=S\/b=B) w w1:=kr.dr e1;clear e1;simp only [Ri,Rp,Rs,Re,Wp,Wn,isP_some,Wif_true,pb_some,po_some,za];refine⟨_,_,_,by rw [s1.rd];rfl,_,by rw [s1.rd];rfl,_,by rw [s1.rd];rfl,x,by rw [s1.rd];rfl,?_⟩;simp only [Ri,Rp,Rs,Re,Wp,Wn,isP_some,Wif_true,pb_some,po_some,za];rw [wi (x:=i*size) (by omega),Int.zero_add,wi (x:=i*size) (by omega)];refine AA (DL hi.1 (by omega)) ⟨b1.wr (by rw [AI];omega),fun w2 e2=>?_⟩;have s2:=s1.n1 e2 hne;have b2:=b1.s1 e2;rw [mo,GS (by omega)] at b2;have k2:=k1.s1 e2 (.inl (.inr rfl));refine⟨s2.wr (by simp [slabC]),fun w3 e3=>?_⟩;have s3:=s2.s1 e3;have b3:=b2.n1 e3 (Ne.symm hne);have k3:=k2.s1 e3 (.inl (.inl rfl));refine⟨y,by rw [s3.rd];rfl,s3.wr (by simp [slabC]),fun w4 e4=>?_⟩;exact⟨trivial,k3.s1 e4 (.inl (.inl rfl)),_,_,_,s3.s1 e4,b3.n1 e4 (Ne.symm hne)⟩
theorem chnew_spec{w:WD}{B:Nat}{f:Nat->Int}{size:Int}(hs:8<=size/\size<=128/\Int.tmod size 8=0)(hB:own w B (AK .u8 f 0 256)) :
 Calls prog 175 #[.slice (some ⟨B,0,none⟩) 256 256,vi size,vi 0] w fun e w'=>∃S,e=.returned (.tuple #[ptr S,vi 0])/\Kept (fun b=>b=B) w w':=by
 refine(vc175 _ 256 256 size 0 w (fun v w'=>∃S,v=.tuple #[ptr S,vi 0]/\Kept (fun b=>b=B) w w') ?_).mono ?_
 rotate_left
 ·rintro e w' ⟨v,rfl,S,rfl,h⟩;exact⟨S,rfl,h⟩
 unfold Q;obtain⟨h8,h128,hm⟩:=hs;have hne0:(size != 0)=true:=by simp;omega
 have hm0:(Int.tmod size 8 != 0)=false:=by rw [hm];rfl
 have hmd:=Int.emod_nonneg 256 (b:=size) (by omega);have hcol:decide ((0:Int)>Int.tmod 256 size)=false:=by
  rw [Int.tmod_eq_emod_of_nonneg (by decide)];simp;omega
 have h8':decide (size<8)=false:=by simp;omega
 have h128':decide (size>128)=false:=by simp;omega
 rw [hne0,hm0,hcol,h8',h128'];simp only [gIf_true];refine AG (by decide) ?_;simp only [Wif_true];intro w1 e1;have hd:Int.tdiv 256 size=256/size:=Int.tdiv_eq_ediv_of_nonneg (by decide);have hd0:0<=(256:Int)/size:=Int.ediv_nonneg (by decide) (by omega);have hd1:(256:Int)/size*size<=256:=Int.ediv_mul_le _ (by omega);have hd2:(256:Int)/size<=256:=Int.ediv_le_self _ (by decide);rw [wi (x:=256-0) (by omega),Int.sub_zero,hd,wi (x:=256/size) (by omega)] at e1;generalize hq:(256:Int)/size=q at *;have s1:own w1 w.heap.size (slabC B size q 255 0 (List.replicate 32 (Value.bool false)++List.replicate 32 (Value.int IntKind.u64 0))):=AD e1;have k1:Kept (fun b=>b=B) w w1:=kr.al e1;have b1:=hB.al e1;have hne:w.heap.size≠B:=(Ne.symm (Nat.ne_of_lt hB.lt));clear e1;generalize hS:w.heap.size=S at *;refine⟨q,by rw [s1.rd];rfl,?_⟩;refine⟨fun k w' N=>∃(m:Nat) (x y:Int) (f:Nat->Int),k=(m:Int)-1/\(m:Int)<=q/\m=N/\Kept (fun b=>b=B) w w'/\own w' S (slabC B size q x y (List.replicate 32 (Value.bool false)++List.replicate 32 (Value.int IntKind.u64 0)))/\own w' B (AK .u8 f 0 256),
  ⟨q.toNat,q.toNat,_,_,_,by rw [wi (by omega)];omega,by omega,rfl,k1,s1,b1⟩,?_⟩
 rintro _ w2 _ ⟨m,x,y,g,rfl,hmq,rfl,k2,s2,b2⟩;refine AE (fun hc=>?_) (fun hc=>⟨S,rfl,k2⟩);have hm1:1<=m:=by simp at hc;omega
 have hpos:0<=((m:Int)-1)*size:=Int.mul_nonneg (by omega) (by omega);have hle:((m:Int)-1)*size<=q*size-size:=by
  have:=Int.mul_le_mul_of_nonneg_right (a:=(m:Int)-1) (b:=q-1) (c:=size) (by omega) (by omega);rw [Int.sub_mul q,Int.one_mul] at this;exact this
 refine(push_new s2 b2 hne ⟨hpos,by omega⟩).mono ?_;rintro _ w3 ⟨rfl,k3,x',y',f',s3,b3⟩;refine⟨rfl,m-1,by omega,m-1,x',y',f',by rw [wi (by omega)];omega,by omega,rfl,k2.trans k3 (fun b hb e=>?_),s3,b3⟩;rcases e with rfl|rfl
 ·omega
 ·rfl
theorem canew_spec{size:Int}(hs:8<=size/\size<=128/\Int.tmod size 8=0)(w:WD):Calls prog 75 #[vi size] w fun e w'=>∃C m,e=.returned (.tuple #[ptr C,vi 0])/\Kept AB w w'/\own w' C [vi size,vi 0,.map (some m)]/\BE w' m []/\w.heap.size<=C/\w.heap.size<=m:=by
 refine(vc75 size w (fun v w'=>∃C m,v=.tuple #[ptr C,vi 0]/\Kept AB w w'/\own w' C [vi size,vi 0,.map (some m)]/\BE w' m []/\w.heap.size<=C/\w.heap.size<=m) ?_).mono ?_
 rotate_left
 ·rintro e w' ⟨v,rfl,C,m,rfl,h⟩;exact⟨C,m,rfl,h⟩
 unfold Q;intro w1 e1;have o1:own w1 w.heap.size _:=AD e1;rw [show List.replicate 256 (Value.int IntKind.u8 0)=AK .u8 (fun _=>0) 0 256 from E6 List.length_replicate fun j hj=>by rw [List.getElem?_replicate,if_pos hj]] at o1;have k1:=kal e1;refine(chnew_spec hs o1).mono ?_;rintro _ w2 ⟨S,rfl,k2⟩;have K2:Kept AB w w2:=BD k1 k2 fun x e=>by omega
 refine⟨_,_,rfl,AG rfl fun w3 e3 w4 e4=>?_⟩;have k3:Kept AB w2 w3:=e3▸kr.allocMap #[] 0;have k4:=kal e4;have h2:=K2.sz;have h3:=k3.sz;exact⟨_,_,rfl,(K2.tr k3).tr k4,AD e4,(J5 e3).k k4,by omega,h2⟩
end Go.Proofs.YtdgbechegbmpcaaGreatDoor
namespace Go.Proofs
open Go.Shelf
theorem Tryz.mixes':Tryz.prog.follows .mixedOrders=true:=by kernel_rfl
def Tryz.len8_ren:Go.Shelf.Ren:=⟨fun|126=>223|n=>n,fun n=>n,fun|n=>n⟩
theorem Tryz.len8:Go.Proofs.Lays.n126 Tryz.prog Tryz.len8_ren:={
 mixed:=Tryz.mixes'
 f126:=Tryz.func223.trans (congrArg some (by kernel_rfl))
 t3:=Tryz.underlying3
 a3:=Tryz.isAgg3
 z3:=Tryz.sizeOf3
 v3:=Tryz.zeroValue3
 t5:=Tryz.underlying5
 a5:=Tryz.isAgg5
 z5:=Tryz.sizeOf5
 v5:=Tryz.zeroValue5
 t9:=Tryz.underlying9
 a9:=Tryz.isAgg9
 z9:=Tryz.sizeOf9
 v9:=Tryz.zeroValue9}
def Tryz.pop8_ren:Go.Shelf.Ren:=⟨fun|135=>224|n=>n,fun n=>n,fun|n=>n⟩
theorem Tryz.pop8:Go.Proofs.Lays.n135 Tryz.prog Tryz.pop8_ren:={
 mixed:=Tryz.mixes'
 f135:=Tryz.func224.trans (congrArg some (by kernel_rfl))
 t3:=Tryz.underlying3
 a3:=Tryz.isAgg3
 z3:=Tryz.sizeOf3
 v3:=Tryz.zeroValue3
 t5:=Tryz.underlying5
 a5:=Tryz.isAgg5
 z5:=Tryz.sizeOf5
 v5:=Tryz.zeroValue5
 t9:=Tryz.underlying9
 a9:=Tryz.isAgg9
 z9:=Tryz.sizeOf9
 v9:=Tryz.zeroValue9}
end Go.Proofs
namespace Go.Proofs
open Go.Shelf
def Tryz.tz_ren:Go.Shelf.Ren:=⟨fun|29=>307|n=>n,fun|22=>76|25=>306|54=>416|n=>n,fun|1=>1|n=>n⟩
theorem Tryz.tz:Go.Proofs.Lays7.n29 prog Tryz.tz_ren:={
 mixed:=Tryz.mixes'
 f29:=func307.trans (congrArg some (by kernel_rfl))
 t0:=underlying0
 a0:=Tryz.isAgg0
 z0:=Tryz.sizeOf0
 v0:=Tryz.zeroValue0
 i0:=by kernel_rfl
 t3:=underlying3
 a3:=Tryz.isAgg3
 z3:=Tryz.sizeOf3
 v3:=Tryz.zeroValue3
 i3:=by kernel_rfl
 t4:=underlying4
 a4:=Tryz.isAgg4
 z4:=Tryz.sizeOf4
 v4:=Tryz.zeroValue4
 i4:=by kernel_rfl
 t5:=underlying5
 a5:=Tryz.isAgg5
 z5:=Tryz.sizeOf5
 v5:=Tryz.zeroValue5
 i5:=by kernel_rfl
 t22:=underlying76
 a22:=Tryz.isAgg76
 z22:=Tryz.sizeOf76
 v22:=Tryz.zeroValue76
 i22:=by kernel_rfl
 t25:=underlying306
 a25:=Tryz.isAgg306
 z25:=Tryz.sizeOf306
 v25:=Tryz.zeroValue306
 i25:=by kernel_rfl
 t54:=underlying416
 a54:=Tryz.isAgg416
 z54:=Tryz.sizeOf416
 g1:=by kernel_rfl}
end Go.Proofs
namespace Go.Proofs.YtdgbechegbmpcaaGreatDoor
open Go Go.Eng Go.Proofs.Tryz
abbrev tzB:Nat:=1
structure GF(w:WD):Prop where
 at':TabAt 1 Lib.deBruijn64tab w
theorem GF.eq{w w':WD}(h:GF w)(e:w'.heap[tzB]? = w.heap[tzB]?):GF w':=
 ⟨fun j hj=>by
  have h1:=h.at' j hj;have h2:rd w' 1 j=rd w 1 j:=by rw [EL,EL];rw [show w'.heap[1]? = w.heap[1]? from e]
  exact h2.trans h1⟩
theorem GF.lt{w:WD}(h:GF w):tzB<w.heap.size:=KO (h.at' 0 (by decide))
theorem GF.kx{X:NP}{w w':WD}(h:GF w)(k:Kept X w w')(hx:¬X tzB):GF w':=h.eq (k.blk _ h.lt hx)
theorem GF.k{w w':WD}(h:GF w)(k:Kept AB w w'):GF w':=h.kx k id
theorem tz_spec{w:WD}(T:GF w)(x:Nat)(hx:x<18446744073709551616):Calls prog 307 #[.int .u64 (x:Nat)] w fun e w'=>e=.returned (vi (Lib.ctz 64 x:Nat))/\w'=w:=
 Any7.bits_TrailingZeros64 (ρ:=Tryz.tz_ren) Tryz.tz x hx w fun _=>T.at'
end Go.Proofs.YtdgbechegbmpcaaGreatDoor
namespace Go.Proofs.YtdgbechegbmpcaaGreatDoor
open Go Go.ChangeShapes Go.WideShapes Go.ChangeAt Go.RowKit Go.Eng
theorem ownKnobs:ownKnob Tryz.prog.godebug=none:=by kernel_rfl
theorem laidOut:laidOutB Tryz.prog=true:=by kernel_rfl
theorem wf_i64{x:Int}(h:(Lit.int .i64 x).wf=true):-9223372036854775808<=x/\x<=9223372036854775807:=by
 simpa [Lit.wf,IntKind.min,IntKind.max,IntKind.signed,IntKind.bits] using h
theorem gSiz:Tryz.prog.globalNamed "byre/api.Sizes" = some 0:=by kernel_rfl
theorem gSizType:(Tryz.prog.globals[0]?).map (·.type)=some 23:=by kernel_rfl
theorem EW:Tryz.prog.cellsOf 3=1:=by kernel_rfl
theorem cellsS:Tryz.prog.cellsOf 23=8:=by kernel_rfl
abbrev MJ{H:Type}:List (String×DataW H):=[("byre/api.Sizes",Rows.laid_byre_api_Sizes),("math/bits.deBruijn64tab",Rows.laid_math_bits_deBruijn64tab)]
theorem table{W:WD}(h:laidMetH Tryz.prog MJ W):F4 W:=by
 have t:Lib.TabIs Tryz.prog W "byre/api.Sizes" .i64 [8,16,24,40,56,72,104,128]:=Lib.tabIs_of_head gSiz gSizType Tryz.underlying23 Tryz.underlying3 EW cellsS h;intro i hi;have h1:=t.cell gSiz i (by simpa using hi);have e:([8,16,24,40,56,72,104,128]:List Int).getD i 0=sz i:=by
  match i,hi with
  | 0,_|1,_|2,_|3,_|4,_|5,_|6,_|7,_=>rfl
 rw [e] at h1;exact h1
theorem gTz:Tryz.prog.globalNamed "math/bits.deBruijn64tab" = some 1:=by kernel_rfl
theorem gTzType:(Tryz.prog.globals[1]?).map (·.type)=some 416:=by kernel_rfl
theorem cellsT:Tryz.prog.cellsOf 416=64:=by kernel_rfl
theorem cells_5':Tryz.prog.cellsOf 5=1:=by kernel_rfl
theorem tableT{W:WD}(h:laidMetH Tryz.prog MJ W):GF W:=by
 have h':laidMet Tryz.prog [("byre/api.Sizes",Rows.laid_byre_api_Sizes),("math/bits.deBruijn64tab",Rows.laid_math_bits_deBruijn64tab)] W:=h;have t:Lib.TabIs Tryz.prog W "math/bits.deBruijn64tab" .u8 (Lib.deBruijn64tab.map fun n:Nat=>(n:Int)):=by
  obtain⟨ps,⟨_,_,_,_,p0,q0,_,_,_,_,h2,_⟩,_⟩:=h';obtain⟨g',t',cs,fuel,p,q,hg',ht',hvar,hd,_,_⟩:=h2;obtain rfl:=Option.some.inj (gTz.symm.trans hg');obtain rfl:=Option.some.inj (gTzType.symm.trans ht');unfold Lib.TabIs;rw [hvar,<- Lib.cells_of_tab Tryz.underlying416 Tryz.underlying5 cells_5' cellsT hd]
 refine⟨fun j hj=>?_⟩;have h1:=t.cell gTz j (by simpa using hj);rw [List.getD_eq_getElem?_getD,gmp] at h1;rw [List.getD_eq_getElem?_getD];rw [geg hj] at h1 ⊢;exact h1
theorem lift_row{k:FuncId}{f:Func}(hf:Tryz.checked.prog.funcs[k]? = some f)(noInit:Tryz.checked.prog.inits.idxOf? k=none)
 {bt:TypeId} (hbt:Tryz.prog.underlying bt=some .bool) (hres:f.resultTypes=#[bt]) (hpar:parsOk Tryz.prog f=true)
 {s:ChangeSpec} (hvars:s.vars=[]) {dom:List PathCond}
 (hfn:∀(H:Type) (ds:List (DataW H)),ds.length=f.params.size->s.fn H ds={results:=[.lit (.bool true)],args:=ds})
 (walk:∀(H:Type) (enc:TypeId×Value->H) (W:WD) (base:Nat) (args:Array Value) (ds:List (DataW H)) (p:List MemPlace),
  (∀(j:Nat) t v,f.params[j]? = some t->args[j]? = some v->Value.okWide Tryz.prog W .any base t v)->
  DataW.TrodAll enc Tryz.prog W 0 (fun _=>true) true f.params.toList args.toList ds p->F4 W->GF W->
  Calls Tryz.prog k args W fun e W'=>e=.returned (.bool true)/\Kept AB W W')
 (os:Os) (started:os.Started) (H:Type) (enc:TypeId×Value->H) (F:Stop.Interp)
 (wit:∃(w:WD) (tape:Tape) (i:Input),w.os=os/\(w.forCall tape i).Shaped Tryz.checked.prog/\i.vars=[]/\Input.okWide Tryz.checked.prog (w.forCall tape i) .any w.heap.size k i/\
  (OpenSpec.ofChange s).preRow enc Tryz.checked.prog f dom false MJ (w.forCall tape i).memory i.args/\({}:Assume).holds Tryz.checked.prog (lone (Frame.enter Tryz.checked.prog k i.args .normal) [] (w.forCall tape i))) :
 ReturnsInHanded {} Tryz.checked os k .any ((OpenSpec.ofChange s).preRow enc Tryz.prog f dom false MJ) (((OpenSpec.ofChange s).at F).post enc Tryz.prog f false true false false):=by
 refine returnsInHanded_of_row (C:=Tryz.checked) (s:=OpenSpec.ofChange s) ownKnobs started noInit hf wit ?_;intro W base args ds gs before hval hW _ hcond _ hL _ _;have hW':=hW;obtain⟨p,q,hA,hV,rfl,hfz,hnd⟩:=hW;have hlt:∀x∈p++q,x.block<W.heap.size:=fun x hx=>by simpa using hW'.lt x hx
 have hv0:(OpenSpec.ofChange s).vars=[]:=hvars;rw [hv0] at hV;obtain⟨rfl,rfl⟩:=trodVars_none hV;simp only [List.append_nil] at hlt;refine(walk H enc W base args ds p hval hA (table hL) (tableT hL)).mono fun e W' ⟨he,hg⟩=>?_;subst he;have hlen:ds.length=f.params.size:=by
  have:∀(ts:List TypeId) (vs:List Value) (ds:List (DataW H)) (ps:List MemPlace),DataW.TrodAll enc Tryz.prog W 0 (fun _=>true) true ts vs ds ps->ds.length=ts.length:=by
   intro ts
   induction ts with
   | nil=>intro vs ds ps h;obtain⟨_,rfl,_⟩:=trodAll_nil h;rfl
   | cons t ts ih=>
    intro vs ds ps h;obtain⟨v,vs',d,ds',p,q,rfl,rfl,rfl,h0,h1⟩:=trodAll_cons h;simp [ih _ _ _ h1]
  rw [this _ _ _ _ hA];simp
 have hs:s.fn H (ds++[])={results:=[.lit (.bool true)],args:=ds}:=by rw [List.append_nil];exact hfn H ds hlen
 show ∃v,_/\s.post enc Tryz.prog f false true false false W args v W'
 refine⟨_,rfl,ds,[],p++[],[],p,[],hW',?_,?_,?_,hg.keptBut _,fun h=>by cases h⟩
 ·rw [hs,hres];exact trodAll_mk1 (shut_bool hbt _)
 ·rw [hs];refine trodAll_stays laidOut hg.below _ _ _ _ (fun t ht=>?_) hA hlt;have:=List.all_eq_true.1 hpar t ht;simpa using this
 ·rw [hs,hvars]
  rfl
theorem open_i64{H:Type}{enc:TypeId×Value->H}{W:WD}{base:Nat}{v:Value}{d:DataW H}{p:List MemPlace}(hv:Value.okWide Tryz.prog W .any base 3 v)(h:DataW.Trod enc Tryz.prog W 0 (fun _=>true) true 3 v d p) :
 ∃a,v=.int .i64 a/\-9223372036854775808<=a/\a<=9223372036854775807:=by
 obtain⟨a,rfl,rfl,rfl,w0⟩:=open_int Tryz.underlying3 hv h;exact⟨a,rfl,wf_i64 w0⟩
def Ints(cs:List Value):Prop:=∀j,j<cs.length->∃n:Int,cs[j]? = some (.int .i64 n)/\-9223372036854775808<=n/\n<=9223372036854775807
section
variable {H:Type}{enc:TypeId×Value->H}{P:Program}{W:WD}
abbrev Tr(H:Type)(enc:TypeId×Value->H)(P:Program)(W:WD)(t:TypeId):Prop:=∀(fuel:Nat) (cs:List Value) (x:DataW H×List MemPlace),DataW.trod enc P W 0 (fun _=>true) true fuel t cs=some x->Ints cs/\cs.length=P.cellsOf t
theorem tr_int{t:TypeId}(ht:P.underlying t=some (.int .i64))(hc:P.cellsOf t=1):Tr H enc P W t:=fun fuel cs x h=>by
 obtain⟨n,rfl,_,hw⟩:=DataW.trod_int ht h;refine⟨fun j hj=>⟨n,?_,wf_i64 hw⟩,by rw [hc];rfl⟩;have:j=0:=by simp at hj;omega
 subst this;rfl
theorem tr_part{cs ds:List Value}{o s:Nat}(h:Ints ((cs.drop o).take s)){j:Nat}(h1:o<=j)(h2:j<o+s)(h3:j<cs.length):∃n:Int,cs[j]? = some (.int .i64 n)/\-9223372036854775808<=n/\n<=9223372036854775807:=by
 obtain⟨n,h4,h5⟩:=h (j-o) (by simp;omega);rw [List.getElem?_take,if_pos (by omega),List.getElem?_drop,show o+(j-o)=j by omega] at h4;exact⟨n,h4,h5⟩
theorem tr_arr{t e:TypeId}{n s:Nat}(ht:P.underlying t=some (.array n e))(hs:P.cellsOf e=s)(hc:P.cellsOf t=n*s)(he:Tr H enc P W e):Tr H enc P W t:=fun fuel cs x h=>by
 obtain⟨xs,m,_,_,hl,hxl,hx⟩:=DataW.trod_array ht h;refine⟨fun j hj=>?_,hl⟩;rw [hl,hc] at hj;have hs0:0<s:=by
  rcases Nat.eq_zero_or_pos s with h0|h0
  ·subst h0;simp at hj
  ·exact h0
 have hi:j/s<n:=(Nat.div_lt_iff_lt_mul hs0).2 hj;have h1:=hx (j/s) hi;rw [geg (by omega),hs] at h1;have h2:=(he _ _ _ h1).1;have hd:=Nat.div_add_mod j s;have hm:=Nat.mod_lt j hs0;exact tr_part (ds:=[]) h2 (by rw [Nat.mul_comm] at hd;omega) (by rw [Nat.mul_comm] at hd;omega) (by rw [hl,hc];exact hj)
end
section
variable {H:Type}{enc:TypeId×Value->H}
theorem cells_31:Tryz.prog.cellsOf 26=94:=by kernel_rfl
theorem cells_27:Tryz.prog.cellsOf 22=16*1:=by kernel_rfl
theorem cells_28:Tryz.prog.cellsOf 23=8*1:=by kernel_rfl
theorem cells_29:Tryz.prog.cellsOf 24=8*8:=by kernel_rfl
theorem tr3(W:WD):Tr H enc Tryz.prog W 3:=tr_int Tryz.underlying3 EW
theorem tr27(W:WD):Tr H enc Tryz.prog W 22:=tr_arr Tryz.underlying22 EW cells_27 (tr3 W)
theorem tr28(W:WD):Tr H enc Tryz.prog W 23:=tr_arr Tryz.underlying23 EW cells_28 (tr3 W)
theorem tr29(W:WD):Tr H enc Tryz.prog W 24:=tr_arr Tryz.underlying24 cells_28 cells_29 (tr28 W)
theorem tr31(W:WD):Tr H enc Tryz.prog W 26:=fun fuel cs x h=>by
 obtain⟨xs,m,_,_,hl,hxl,hx⟩:=DataW.trod_struct Tryz.underlying26 h;refine⟨fun j hj=>?_,hl⟩;have hxl':xs.length=9:=hxl;rw [hl,cells_31] at hj;have go:∀(i:Nat) (f:Field) (o s:Nat),i<9->f.offset=o->Tryz.prog.cellsOf f.type=s->Tr H enc Tryz.prog W f.type->DataW.trod enc Tryz.prog W 0 (fun _=>true) true m f.type ((cs.drop f.offset).take (Tryz.prog.cellsOf f.type))=xs[i]? -> o<=j->j<o+s->∃n:Int,cs[j]? = some (.int .i64 n)/\-9223372036854775808<=n/\n<=9223372036854775807:=by
  intro i f o s hi ho hs ht hf h1 h2;rw [geg (by omega)] at hf;have:=(ht _ _ _ hf).1;rw [ho,hs] at this;exact tr_part (ds:=[]) this h1 h2 (by rw [hl,cells_31];exact hj)
 by_cases e0:j<1
 ·exact go 0 _ 0 1 (by omega) rfl EW (tr3 W) (hx 0 _ rfl) (by omega) (by omega)
 by_cases e1:j<2
 ·exact go 1 _ 1 1 (by omega) rfl EW (tr3 W) (hx 1 _ rfl) (by omega) (by omega)
 by_cases e2:j<18
 ·exact go 2 _ 2 16 (by omega) rfl cells_27 (tr27 W) (hx 2 _ rfl) (by omega) (by omega)
 by_cases e3:j<26
 ·exact go 3 _ 18 8 (by omega) rfl cells_28 (tr28 W) (hx 3 _ rfl) (by omega) (by omega)
 by_cases e4:j<90
 ·exact go 4 _ 26 64 (by omega) rfl cells_29 (tr29 W) (hx 4 _ rfl) (by omega) (by omega)
 by_cases e5:j<91
 ·exact go 5 _ 90 1 (by omega) rfl EW (tr3 W) (hx 5 _ rfl) (by omega) (by omega)
 by_cases e6:j<92
 ·exact go 6 _ 91 1 (by omega) rfl EW (tr3 W) (hx 6 _ rfl) (by omega) (by omega)
 by_cases e7:j<93
 ·exact go 7 _ 92 1 (by omega) rfl EW (tr3 W) (hx 7 _ rfl) (by omega) (by omega)
 ·exact go 8 _ 93 1 (by omega) rfl EW (tr3 W) (hx 8 _ rfl) (by omega) (by omega)
end
def zi{H:Type}:DataW H:=.lit (.int .i64 0)
def zeroCfgD{H:Type}:DataW H:=.agg [zi,zi,.agg (List.replicate 16 zi),.agg (List.replicate 8 zi),.agg (List.replicate 8 (.agg (List.replicate 8 zi))),zi,zi,zi,zi]
def litV:DataW Unit->Value
 | .lit (.int k n)=>.int k n
 | _=>.bool false
def aggV:DataW Unit->List Value
 | .agg xs=>xs.map litV
 | _=>[]
def putC(cs:List Value):Obj->Obj
 | .cells _ t frozen=>.cells cs.toArray t frozen
 | o=>o
noncomputable def laidWorld (os:Os):WD:=
 {World.holding Tryz.prog os ⟨#[],#[],[]⟩ with heap:=((World.holding Tryz.prog os ⟨#[],#[],[]⟩).heap.modify 0 (putC (aggV Rows.laid_byre_api_Sizes))).modify 1 (putC (aggV Rows.laid_math_bits_deBruijn64tab))}
theorem laid_met(os:Os)(args:Array Value):laidMet Tryz.prog MJ ((laidWorld os).forCall (fun _ _=>0) ⟨#[],args,[]⟩).memory:=
 laidMet_of_run' 8 (by kernel_rfl) (by kernel_rfl)
end Go.Proofs.YtdgbechegbmpcaaGreatDoor
namespace Go.Proofs.YtdgbechegbmpcaaGreatDoor
open Go Go.Eng Go.Proofs.Tryz
open Go.Value (bool func)
open Option (isNone)
open Go.IntKind (wrap)
theorem vc69(x0:Int)(w:WD)(K:KV)(h:Q (CP 70 #[] w fun p w'=>K (pt p) w')):Ret 69 #[vi x0] w K:=vcA L9 2 [] func69 h
theorem vc72(x0:Int)(w:WD)(K:KV)(h:Q (CS 73 #[vi 8,func (.func 74) #[] #[]] w fun a l c w'=>K (sl a l c) w')):Ret 72 #[vi x0] w K:=vcA L9 2 [] func72 h
theorem vc74(i:Int)(w:WD)(K:KV)(h:Q (Wn i 8 (RI w 0 (0+Int.toNat i*1) fun x=>Calls prog 75 #[vi x] w fun e w'=>∃(p:OA) (n:Int),e=rT (.tuple #[pt p,vi n])/\K (pt p) w'))):Ret 74 #[vi i] w K:=vcA L9 2 [] func74 h
theorem vc77(x0:Int)(w:WD)(K:KV)(h:Q (CS 78 #[vi 8,func (.func 79) #[] #[]] w fun a l c w'=>K (sl a l c) w')):Ret 77 #[vi x0] w K:=vcA L9 2 [] func77 h
theorem vc79(x0:Int)(w:WD)(K:KV)(h:Q (CP 80 #[vi 4] w fun p w'=>K (pt p) w')):Ret 79 #[vi x0] w K:=vcA L9 2 [] func79 h
theorem vc82(x0:Int)(w:WD)(K:KV)(h:Q (CS 83 #[vi 8,func (.func 84) #[] #[]] w fun a l c w'=>K (sl a l c) w')):Ret 82 #[vi x0] w K:=vcA L9 2 [] func82 h
theorem vc84(x0:Int)(w:WD)(K:KV)(h:Q (CP 85 #[vi 4] w fun p w'=>K (pt p) w')):Ret 84 #[vi x0] w K:=vcA L9 2 [] func84 h
theorem vc87(x0:Int)(w:WD)(K:KV)(h:Q (K (.int .u64 1) w)):Ret 87 #[vi x0] w K:=vcA L9 2 [] func87 h
theorem vc89(x0:Int)(w:WD)(K:KV)(h:Q (K (vi (-1)) w)):Ret 89 #[vi x0] w K:=vcA L9 2 [] func89 h
theorem vc66(m:OA)(w:WD)(K:KV)(h:Q (Wif (isNone m) (K (vi 0) w) (Wp m (Rs w m 95 fun x a b=>K (vi (↑a:Int)) w)))):Ret 66 #[pt m] w K:=vcA L7 2 [] func66 h
theorem vc151(t:OA)(w:WD)(K:KV)(h:Q (Wif (isNone t) (K (vi 0) w) (Wp t (Ri w t 0 fun x=>K (vi x) w)))):Ret 151 #[pt t] w K:=vcA L7 2 [] func151 h
theorem vc24(m:OA)(frame:Int)(w:WD)(K:KV)(h:Q (AW w #[vu 0,vi 0,vi 0,vi 0,vi 0] 86 fun w'=>gIf (isP m) ((!isNone m)=true) (∃(x:OA) (r s:Nat),((!isNone m)=true->rd w' (pb m) (po m+95)=some (.slice x r s))/\Wif (!(!isNone m&&!isNone x)) ((wr w' w.heap.size 0/\wr w' w.heap.size 1/\wr w' w.heap.size 2/\wr w' w.heap.size 3/\wr w' w.heap.size 4)/\St (st (st (st (st w' w.heap.size 0 (vu 0)) w.heap.size 1 (vi 0)) w.heap.size 2 (vi 0)) w.heap.size 3 (vi 0)) w.heap.size 4 (vi 0) fun a=>∃(x d h b c:Int),(rd a w.heap.size 0=some (.int .u8 x)/\rd a w.heap.size 1=some (.int .i64 d)/\rd a w.heap.size 2=some (.int .i64 h)/\rd a w.heap.size 3=some (.int .i64 b)/\rd a w.heap.size 4=some (.int .i64 c))/\K (.tuple #[Value.agg #[vu x,vi d,vi h,vi b,vi c],vi 1]) a) (gIf (isP m) (decide (frame<0)=false) (∃(x:OA) (d h:Nat),(decide (frame<0)=false->rd w' (pb m) (po m+95)=some (.slice x d h))/\Wif (decide (frame<0)||decide (frame>=(↑d:Int))) ((wr w' w.heap.size 0/\wr w' w.heap.size 1/\wr w' w.heap.size 2/\wr w' w.heap.size 3/\wr w' w.heap.size 4)/\St (st (st (st (st w' w.heap.size 0 (vu 0)) w.heap.size 1 (vi 0)) w.heap.size 2 (vi 0)) w.heap.size 3 (vi 0)) w.heap.size 4 (vi 0) fun a=>∃(x b c f g:Int),(rd a w.heap.size 0=some (.int .u8 x)/\rd a w.heap.size 1=some (.int .i64 b)/\rd a w.heap.size 2=some (.int .i64 c)/\rd a w.heap.size 3=some (.int .i64 f)/\rd a w.heap.size 4=some (.int .i64 g))/\K (.tuple #[Value.agg #[vu x,vi b,vi c,vi f,vi g],vi 7]) a) (Wp m (Rs w' m 95 fun x b c=>Wp x (Wn frame b (∃(f g q i j:Int),(rd w' (pb x) (po x+Int.toNat frame*5)=some (.int .u8 f)/\rd w' (pb x) (po x+Int.toNat frame*5+1)=some (.int .i64 g)/\rd w' (pb x) (po x+Int.toNat frame*5+2)=some (.int .i64 q)/\rd w' (pb x) (po x+Int.toNat frame*5+3)=some (.int .i64 i)/\rd w' (pb x) (po x+Int.toNat frame*5+4)=some (.int .i64 j))/\(wr w' w.heap.size 0/\wr w' w.heap.size 1/\wr w' w.heap.size 2/\wr w' w.heap.size 3/\wr w' w.heap.size 4)/\St (st (st (st (st w' w.heap.size 0 (vu f)) w.heap.size 1 (vi g)) w.heap.size 2 (vi q)) w.heap.size 3 (vi i)) w.heap.size 4 (vi j) fun a=>∃(x k l o p:Int),(rd a w.heap.size 0=some (.int .u8 x)/\rd a w.heap.size 1=some (.int .i64 k)/\rd a w.heap.size 2=some (.int .i64 l)/\rd a w.heap.size 3=some (.int .i64 o)/\rd a w.heap.size 4=some (.int .i64 p))/\K (.tuple #[Value.agg #[vu x,vi k,vi l,vi o,vi p],vi 0]) a))))))))):Ret 24 #[pt m,vi frame] w K:=vcA L9 2 [] func24 h
theorem vc133(s:OA)(sL sC:Nat)(w:WD)(K:KV)(h:Q (Wif (isNone s) (K (sl none 0 0) w) (AW w #[] 3 fun w'=>∃(a:OA) (l c:Nat) (b:WD),BF prog #[27,27] 27 (sl (aD w.heap.size) 0 0) (sl s sL sC) (sl a l c) w' b/\K (sl a l c) b))):Ret 133 #[sl s sL sC] w K:=vcA L9 2 [] func133 h
theorem vc136(s:OA)(sL sC:Nat)(w:WD)(K:KV)(h:Q (Wif (isNone s) (K (sl none 0 0) w) (AW w #[] 242 fun w'=>∃(a:OA) (l c:Nat) (b:WD),BF prog #[239,239] 239 (sl (aD w.heap.size) 0 0) (sl s sL sC) (sl a l c) w' b/\K (sl a l c) b))):Ret 136 #[sl s sL sC] w K:=vcA L9 2 [] func136 h
theorem vc117(m:OA)(frame:Int)(w:WD)(K:KV)(h:Q (gIf (isP m) (isNone m=false) (∃(x:Option Nat),(isNone m=false->rd w (pb m) (po m+1)=some (.map x))/\Wif (isNone m||isNone x) (K (.tuple #[vi 0,vi 0,bool false]) w) (gIf (isP m) (decide (frame<0)=false) (∃(x:OA) (b g:Nat),(decide (frame<0)=false->rd w (pb m) (po m)=some (.slice x b g))/\Wif (decide (frame<0)||decide (frame>=(↑b:Int))) (K (.tuple #[vi 0,vi 0,bool false]) w) (Wp m (Rs w m 0 fun x h k=>Wp x (Wn frame h (∃(c d:Int),(rd w (pb x) (po x+Int.toNat frame*2)=some (.int .i64 c)/\rd w (pb x) (po x+Int.toNat frame*2+1)=some (.int .i64 d))/\AW w #[vi 0,vi 0] 308 fun w'=>(wr w' w.heap.size 0/\wr w' w.heap.size 1)/\St (st w' w.heap.size 0 (vi c)) w.heap.size 1 (vi d) fun f=>Dr f fun a=>RI a w.heap.size 0 fun x=>RI a w.heap.size 1 fun i=>RI a w.heap.size 0 fun j=>K (.tuple #[vi x,vi i,bool (j != 0)]) a))))))))):Ret 117 #[pt m,vi frame] w K:=vcA L9 2 [] func117 h
theorem vc140(c:OA)(w:WD)(K:KV)(h:Q (AW w #[pt c] 174 fun w'=>K (.func (.func 212) #[] #[ptr w.heap.size]) w')):Ret 140 #[pt c] w K:=vcA L9 2 [] func140 h
theorem vc141(s:OA)(slot:Int)(w:WD)(K:KV)(h:Q (Wif (decide (slot<0)) (K (.tuple #[vi 0,vi 0,bool false]) w) (Wif (isNone s) (Wif (decide (slot>=0)) (K (.tuple #[vi 0,vi 0,bool false]) w) (Wp s (Rs w s 0 fun x g i=>Wp x (Wn slot g (∃(c h:Int),(rd w (pb x) (po x+Int.toNat slot*2)=some (.int .i64 c)/\rd w (pb x) (po x+Int.toNat slot*2+1)=some (.int .i64 h))/\AW w #[vi 0,vi 0] 263 fun w'=>(wr w' w.heap.size 0/\wr w' w.heap.size 1)/\St (st w' w.heap.size 0 (vi c)) w.heap.size 1 (vi h) fun b=>Dr b fun a=>RI a w.heap.size 0 fun x=>RI a w.heap.size 1 fun d=>RI a w.heap.size 0 fun f=>K (.tuple #[vi x,vi d,bool (f != 0)]) a))))) (Wp s (Rs w s 0 fun x g i=>Wif (decide (slot>=(↑g:Int))) (K (.tuple #[vi 0,vi 0,bool false]) w) (Wp s (Rs w s 0 fun x c h=>Wp x (Wn slot c (∃(d f:Int),(rd w (pb x) (po x+Int.toNat slot*2)=some (.int .i64 d)/\rd w (pb x) (po x+Int.toNat slot*2+1)=some (.int .i64 f))/\AW w #[vi 0,vi 0] 263 fun w'=>(wr w' w.heap.size 0/\wr w' w.heap.size 1)/\St (st w' w.heap.size 0 (vi d)) w.heap.size 1 (vi f) fun b=>Dr b fun a=>RI a w.heap.size 0 fun x=>RI a w.heap.size 1 fun j=>RI a w.heap.size 0 fun k=>K (.tuple #[vi x,vi j,bool (k != 0)]) a))))))))):Ret 141 #[pt s,vi slot] w K:=vcA L9 2 [] func141 h
theorem vc142(c:OA)(w:WD)(K:KV)(h:Q (gIf (isP c) (isNone c=false) (∃(x:Option Nat),(isNone c=false->rd w (pb c) (po c+2)=some (.map x))/\Wif (isNone c||isNone x) (K (sl none 0 0) w) (Wp c (∃(x:Option Nat),rd w (pb c) (po c+2)=some (.map x)/\Calls prog 214 #[Value.map x] w fun e w'=>∃(v:Value),e=rT v/\CS 139 #[v] w' fun a l c w'=>K (sl a l c) w'))))):Ret 142 #[pt c] w K:=vcA L9 2 [] func142 h
theorem vc147(p:OA)(w:WD)(K:KV)(h:Q (Wif (isNone p) (K (sl none 0 0) w) (Dr w fun b=>Wp p (Rs b p 2 fun x d f=>Wp p (Rs b p 1 fun g h i=>AW b #[sl x d f,sl g h i] 239 fun w'=>CS 220 #[sl (aD b.heap.size) 2 2] w' fun a l c w'=>K (sl a l c) w'))))):Ret 147 #[pt p] w K:=vcA L9 2 [] func147 h
theorem vc150(d:OA)(w:WD)(K:KV)(h:Q (Wif (isNone d) (K (sl none 0 0) w) (Dr w fun h=>Wp d (Rs h d 1 fun x i j=>Wp d (Rs h d 2 fun k o p=>(CS 221 #[sl x i j] h fun a l c w'=>Rt w' (pb d) (po d+2) (.slice k o p)<|AW w' #[sl k o p] 239 fun b=>∃(f:OA) (g c_1:Nat) (q:WD),BF prog #[51,51] 51 (sl a l c) (sl (aD w'.heap.size) 1 1) (sl f g c_1) b q/\CS 220 #[sl f g c_1] q fun a l c w'=>K (sl a l c) w')/\AW h #[sl k o p] 239 fun w'=>Rt w' (pb d) (po d+1) (.slice x i j)<|CS 221 #[sl x i j] w' fun a l c w'=>∃(f:OA) (g c_1:Nat) (b:WD),BF prog #[51,51] 51 (sl a l c) (sl (aD h.heap.size) 1 1) (sl f g c_1) w' b/\CS 220 #[sl f g c_1] b fun a l c w'=>K (sl a l c) w'))))):Ret 150 #[pt d] w K:=vcA L9 2 [] func150 h
theorem vc153(t:OA)(lock:Int)(w:WD)(K:KV)(h:Q (gIf (isP t) (isNone t=false) (∃(x:Bool),(isNone t=false->rd w (pb t) (po t+65)=some (.bool x))/\Wif (isNone t||!x) (K (vi (-1)) w) (gIf (isP t) (decide (lock<0)=false) (∃(x:Int),(decide (lock<0)=false->rd w (pb t) (po t)=some (.int .i64 x))/\Wif (decide (lock<0)||decide (lock>=x)) (K (vi (-1)) w) (Wp t (Wn lock 64 (RI w (pb t) (po t+1+Int.toNat lock*1) fun x=>K (vi (wrap .i64 (x-1))) w)))))))):Ret 153 #[pt t,vi lock] w K:=vcA L9 2 [] func153 h
theorem vc221(s:OA)(sL sC:Nat)(w:WD)(K:KV)(h:Q (Wif (isNone s) (K (sl none 0 0) w) (AW w #[] 239 fun w'=>∃(a:OA) (l c:Nat) (b:WD),BF prog #[51,51] 51 (sl (aD w.heap.size) 0 0) (sl s sL sC) (sl a l c) w' b/\K (sl a l c) b))):Ret 221 #[sl s sL sC] w K:=vcA L9 2 [] func221 h
theorem vc220(slices:OA)(slicesL slicesC:Nat)(w:WD)(K:KV)(h:Q (∃(I:Int->Int->WD->Nat->Prop),(∃(n:Nat),I 0 0 w n)/\∀(n b:Int) (w':WD) (g:Nat),I n b w' g->Wif (decide (b<(↑slicesL:Int))) (Wp slices (Wn b slicesL (Rs w' slices (Int.toNat b*1) fun x d h=>Wif (decide (wrap .i64 (n+(↑d:Int))<0)) False (Lt g fun m=>I (wrap .i64 (n+(↑d:Int))) (wrap .i64 (b+1)) w' m)))) (CS 265 #[sl none 0 0,vi n] w' fun a l c w'=>∃(I:OA->Nat->Nat->Int->WD->Nat->Prop),(∃(n:Nat),I a l c 0 w' n)/\∀(a:OA) (l c:Nat) (n:Int) (w':WD) (i:Nat),I a l c n w' i->Wif (decide (n<(↑slicesL:Int))) (Wp slices (Wn n slicesL (Rs w' slices (Int.toNat n*1) fun x d h=>∃(j:OA) (k c_1:Nat) (f:WD),BF prog #[239,239] 239 (sl a l c) (sl x d h) (sl j k c_1) w' f/\Lt i fun m=>I j k c_1 (wrap .i64 (n+1)) f m))) (K (sl a l c) w')))):Ret 220 #[sl slices slicesL slicesC] w K:=vcA L9 2 [] func220 h
theorem vc130(z:OA)(w:WD)(K:KV)(h:Q (AW w #[pt z] 38 fun w'=>K (.func (.func 203) #[] #[ptr w.heap.size]) w')):Ret 130 #[pt z] w K:=vcA L7 2 [] func130 h
theorem vc128(i:Int)(c:OA)(w:WD)(K:KV)(h:Q (AW w #[vu 0,vi 0,vi 0,vi 0,vi 0] 86 fun w'=>Wp c (Rp w' c 0 fun x=>Wp x (Rp w' x 94 fun t=>Calls prog 24 #[pt t,vi i] w' fun e w'=>∃(n d f g h u:Int),e=rT (.tuple #[Value.agg #[vu n,vi d,vi f,vi g,vi h],vi u])/\AW w' #[vu 0,vi 0,vi 0,vi 0,vi 0] 86 fun b=>(wr b w'.heap.size 0/\wr b w'.heap.size 1/\wr b w'.heap.size 2/\wr b w'.heap.size 3/\wr b w'.heap.size 4)/\St (st (st (st (st b w'.heap.size 0 (vu n)) w'.heap.size 1 (vi d)) w'.heap.size 2 (vi f)) w'.heap.size 3 (vi g)) w'.heap.size 4 (vi h) fun a=>∃(x j k l o:Int),(rd a w'.heap.size 0=some (.int .u8 x)/\rd a w'.heap.size 1=some (.int .i64 j)/\rd a w'.heap.size 2=some (.int .i64 k)/\rd a w'.heap.size 3=some (.int .i64 l)/\rd a w'.heap.size 4=some (.int .i64 o))/\(wr a w.heap.size 0/\wr a w.heap.size 1/\wr a w.heap.size 2/\wr a w.heap.size 3/\wr a w.heap.size 4)/\St (st (st (st (st a w.heap.size 0 (vu x)) w.heap.size 1 (vi j)) w.heap.size 2 (vi k)) w.heap.size 3 (vi l)) w.heap.size 4 (vi o) fun w'=>∃(x p q r s:Int),(rd w' w.heap.size 0=some (.int .u8 x)/\rd w' w.heap.size 1=some (.int .i64 p)/\rd w' w.heap.size 2=some (.int .i64 q)/\rd w' w.heap.size 3=some (.int .i64 r)/\rd w' w.heap.size 4=some (.int .i64 s))/\K (.agg #[vu x,vi p,vi q,vi r,vi s]) w')))):Ret 128 #[vi i,pt c] w K:=vcA L7 2 [] func128 h
theorem vc132(i:Int)(b:OA)(w:WD)(K:KV)(h:Q (Wp b (Rp w b 0 fun x=>Wp x (Rs w x 114 fun d f j=>Wp d (Wn i f (Rs w d (Int.toNat i*1) fun x g h=>CS 133 #[sl x g h] w fun a l c w'=>K (sl a l c) w')))))):Ret 132 #[vi i,pt b] w K:=vcA L7 2 [] func132 h
theorem vc135(i:Int)(b:OA)(w:WD)(K:KV)(h:Q (Wp b (Rp w b 0 fun x=>Wp x (Rs w x 115 fun d f j=>Wp d (Wn i f (Rs w d (Int.toNat i*1) fun x g h=>CS 136 #[sl x g h] w fun a l c w'=>K (sl a l c) w')))))):Ret 135 #[vi i,pt b] w K:=vcA L7 2 [] func135 h
theorem vc138(i:Int)(b:OA)(w:WD)(K:KV)(h:Q (Wp b (Rp w b 0 fun x=>Wp x (Rs w x 100 fun d f g=>Wp d (Wn i f (Rp w d (Int.toNat i*1) fun x=>Calls prog 140 #[pt x] w fun e w'=>∃(v:Value),e=rT v/\CS 139 #[v] w' fun a l c w'=>K (sl a l c) w')))))):Ret 138 #[vi i,pt b] w K:=vcA L7 2 [] func138 h
theorem vc145(i:Int)(b:OA)(w:WD)(K:KV)(h:Q (AW w #[vi i] 3 fun w'=>CS 134 #[vi 8,func (.func 146) #[] #[pt b,ptr w.heap.size]] w' fun a l c w'=>K (sl a l c) w')):Ret 145 #[vi i,pt b] w K:=vcA L7 2 [] func145 h
theorem vc148(i:Int)(b:OA)(w:WD)(K:KV)(h:Q (AW w #[vi i] 3 fun w'=>CS 134 #[vi 8,func (.func 149) #[] #[pt b,ptr w.heap.size]] w' fun a l c w'=>K (sl a l c) w')):Ret 148 #[vi i,pt b] w K:=vcA L7 2 [] func148 h
theorem vc152(i:Int)(a:OA)(w:WD)(K:KV)(h:Q (Wp a (Rp w a 0 fun x=>Wp x (Rp w x 97 fun b=>CI 153 #[pt b,vi i] w fun n w'=>K (vi n) w')))):Ret 152 #[vi i,pt a] w K:=vcA L7 2 [] func152 h
theorem vc146(c:Int)(b d:OA)(w:WD)(K:KV)(h:Q (Dr w fun f=>Wp b (Rp f b 0 fun x=>Wp x (Rs f x 103 fun g j p=>Wp d (Ri f d 0 fun i=>Wp g (Wn i j (Rs f g (Int.toNat i*1) fun h k q=>Wp h (Wn c k (Rp f h (Int.toNat c*1) fun o=>CS 147 #[pt o] f fun a l c w'=>Rt w' (pb b) (po b) (.pointer x)<|K (sl a l c) w'))))))))):Ret 146 #[vi c,pt b,pt d] w K:=vcA L7 2 [] func146 h
theorem vc149(c:Int)(b d:OA)(w:WD)(K:KV)(h:Q (Dr w fun f=>Wp b (Rp f b 0 fun x=>Wp x (Rs f x 102 fun g j p=>Wp d (Ri f d 0 fun i=>Wp g (Wn i j (Rs f g (Int.toNat i*1) fun h k q=>Wp h (Wn c k (Rp f h (Int.toNat c*1) fun o=>CS 150 #[pt o] f fun a l c w'=>Rt w' (pb b) (po b) (.pointer x)<|K (sl a l c) w'))))))))):Ret 149 #[vi c,pt b,pt d] w K:=vcA L7 2 [] func149 h
end Go.Proofs.YtdgbechegbmpcaaGreatDoor
namespace Go.Proofs.YtdgbechegbmpcaaGreatDoor
open Go Go.Eng Go.Proofs.Tryz
def BK(w:WD)(base:Nat)(a:OA)(l c:Nat)(xs:List Int):Prop:=l=xs.length/\w.ownsRow base 3 1 (.slice a l c) l (xs.map vi)
theorem BK.MT{w:WD}{base:Nat}:BK w base none 0 0 []:=⟨rfl,World.ownsRow_nil _ _ _ _⟩
theorem BK.kx{X:NP}{w w':WD}{base:Nat}{a:OA}{l c:Nat}{xs:List Int}(h:BK w base a l c xs)(k:Kept X w w')(hx:∀x,X x->(Value.slice a l c).ownBlock=some x->False):BK w' base a l c xs:=⟨h.1,AR h.2 k fun b _ _ e hb=>hx b hb e⟩
theorem BK.k{w w':WD}{base:Nat}{a:OA}{l c:Nat}{xs:List Int}(h:BK w base a l c xs)(k:Kept AB w w'):BK w' base a l c xs:=h.kx k fun _ e=>e.elim
theorem BK.lt{w:WD}{base:Nat}{a:OA}{l c:Nat}{xs:List Int}(h:BK w base a l c xs){x:Nat}(hx:(Value.slice a l c).ownBlock=some x):base<=x/\x<w.heap.size:=h.2.lt x hx
theorem BK.weak{w:WD}{base base':Nat}{a:OA}{l c:Nat}{xs:List Int}(h:BK w base a l c xs)(hb:base'<=base):BK w base' a l c xs:=by
 refine⟨h.1,h.2.1,?_⟩;rcases h.2.2 with h|⟨g,cap,cur,hv,hg,rest⟩
 ·exact .inl h
 ·exact .inr ⟨g,cap,cur,hv,by omega,rest⟩
structure EK(w:WD)(a:OA)(l c:Nat)(xs:List Int):Prop where
 len:l=xs.length
 ex:(a=none/\l=0/\c=0)\/∃(g o:Nat) (cs:Array Value),a=some ⟨g,o,none⟩/\w.heap[g]? = some (.cells cs 3 (0,0))/\l<=c/\c<=maxLen/\o+c<=cs.size/\∀i x,xs[i]? = some x->cs[o+i]? = some (vi x)
theorem EK.MT{w:WD}:EK w none 0 0 []:=⟨rfl,.inl ⟨rfl,rfl,rfl⟩⟩
theorem EK.kx{X:NP}{w w':WD}{a:OA}{l c:Nat}{xs:List Int}(h:EK w a l c xs)(k:Kept X w w')(hx:∀x,X x->(Value.slice a l c).ownBlock=some x->False):EK w' a l c xs:=by
 refine⟨h.len,?_⟩;rcases h.ex with h1|⟨g,o,cs,rfl,h2,h3⟩
 ·exact .inl h1
 ·exact .inr ⟨g,o,cs,rfl,(k.blk g (F3.1 h2).1 fun e=>hx g e rfl).trans h2,h3⟩
theorem EK.k{w w':WD}{a:OA}{l c:Nat}{xs:List Int}(h:EK w a l c xs)(k:Kept AB w w'):EK w' a l c xs:=h.kx k fun _ e=>e.elim
theorem EK.lt{w:WD}{a:OA}{l c:Nat}{xs:List Int}(h:EK w a l c xs){x:Nat}(hx:(Value.slice a l c).ownBlock=some x):x<w.heap.size:=by
 rcases h.ex with⟨rfl,_⟩|⟨g,o,cs,rfl,h2,h3⟩
 ·cases hx
 ·have:g=x:=by simpa [Value.ownBlock] using hx
  subst this;exact(F3.1 h2).1
theorem BK.o{w:WD}{base:Nat}{a:OA}{l c:Nat}{xs:List Int}(h:BK w base a l c xs):EK w a l c xs:=by
 obtain⟨rfl,h⟩:=h;refine⟨rfl,?_⟩;rcases h.2 with⟨h0,h1⟩|⟨g,cap,cur,hv,hb,hgg,hnc,hm,hsz,htk⟩
 ·simp only [Value.slice.injEq] at h0;obtain⟨rfl,_,rfl⟩:=h0;exact .inl ⟨rfl,h1,rfl⟩
 ·cases hv
  refine .inr ⟨g,0,cur,rfl,hgg,hnc,hm,by omega,fun i x hx=>?_⟩;have hi:=(D5.1 hx).1;have h1:(cur.toList.take (xs.length*1))[i]? = (xs.map vi)[i]? := by rw [htk]
  rw [List.getElem?_take_of_lt (by omega),gmp,hx,Array.getElem?_toList] at h1;rw [za];exact h1
theorem EK.at'{w:WD}{a:OA}{l c:Nat}{xs:List Int}(h:EK w a l c xs)(hl:0<xs.length):∃g o,a=some ⟨g,o,none⟩/\∀i x,xs[i]? = some x->rd w g (o+i)=some (vi x):=by
 rcases h.ex with⟨_,h0,_⟩|⟨g,o,cs,rfl,h2,h3,h4,h5,h6⟩
 ·have:=h.len;omega
 ·exact⟨g,o,rfl,fun i x hx=>by rw [EL,h2];exact h6 i x hx⟩
theorem EK.src{w:WD}{a:OA}{l c:Nat}{xs:List Int}(h:EK w a l c xs):Eng.Src w a l c (xs.map vi):=by
 refine⟨fun e=>?_,fun hl=>?_⟩
 ·rcases h.ex with⟨_,h0,h1⟩|⟨g,o,cs,rfl,_⟩
  ·exact⟨h0,h1⟩
  ·cases e
 ·obtain⟨g,o,e,hr⟩:=h.at' (by simpa using hl);refine⟨g,o,e,fun j u hj=>?_⟩;rw [gmp] at hj
  cases hx:xs[j]? with
  | none=>rw [hx] at hj;cases hj
  | some x=>rw [hx] at hj;cases hj;exact hr j x hx
theorem EK.rd{w:WD}{a:OA}{l c:Nat}{xs:List Int}(h:EK w a l c xs){i:Nat}{x:Int}(hx:xs[i]? = some x):isP a=true/\Eng.rd w (pb a) (po a+Int.toNat (i:Int)*1)=some (vi x):=by
 have hl:=(D5.1 hx).1;obtain⟨g,o,rfl,hr⟩:=h.at' (by omega);exact⟨rfl,by rw [tnc,mo];exact hr i x hx⟩
theorem EK.tail{w:WD}{a:OA}{l c:Nat}{x:Int}{xs:List Int}(h:EK w a l c (x::xs)):EK w (BJ a c 1 1) (l-1) (c-1) xs:=by
 have hl:=h.len;rw [List.length_cons] at hl;refine⟨by omega,?_⟩;rcases h.ex with⟨_,h0,_⟩|⟨g,o,cs,rfl,h2,h3,h4,h5,h6⟩
 ·omega
 ·by_cases e:c=1
  ·refine .inr ⟨g,o,cs,by unfold BJ;rw [if_pos e],h2,by omega,by omega,by omega,fun i y hy=>?_⟩;have:=(D5.1 hy).1;omega
  ·refine .inr ⟨g,o+1,cs,?_,h2,by omega,by omega,by omega,fun i y hy=>?_⟩
   ·unfold BJ;rw [if_neg e]
    show some (Addr.add ⟨g,o,none⟩ 1)=_
    rw [Addr.add_lit]
   ·rw [show o+1+i=o+(i+1) by omega];exact h6 (i+1) y (by simpa using hy)
abbrev HX:=Value->(NP)->WD->Prop
structure Stb(A:HX):Prop where
 kx:∀u H w w' X,A u H w->Kept X w w'->(∀x,X x->H x->False)->A u H w'
 lt:∀u H w,A u H w->∀x,H x->x<w.heap.size
structure BG(A:Nat->HX)(n:Nat)(v:Value)(G:NP)(w:WD):Prop where
 ex:∃(g cp:Nat) (cs:List Value) (u:Nat->Value) (H:Nat->Nat->Prop),v=.slice (some ⟨g,0,none⟩) n cp/\own w g cs/\(∀j,j<n->cs[j]? = some (u j))/\G g/\(∀j,j<n->A j (u j) (H j) w)/\
  (∀j,j<n->∀x,H j x->G x/\x≠g)/\∀i j,i<n->j<n->i≠j->∀x,H i x->¬H j x
 lt:∀x,G x->x<w.heap.size
theorem BG.stb{A:Nat->HX}{n:Nat}(hA:∀j,j<n->Stb (A j)):Stb (BG A n) where
 kx v G w w' X h k hx:=by
  obtain⟨g,cp,cs,u,H,h1,h2,h3,h4,h5,h6,h7⟩:=h.ex;exact⟨⟨g,cp,cs,u,H,h1,h2.kx k fun e=>hx _ e h4,h3,h4,fun j hj=>(hA j hj).kx _ _ _ _ _ (h5 j hj) k fun x e hh=>hx x e (h6 j hj x hh).1,h6,h7⟩,fun x hg=>nll (h.lt x hg) k.sz⟩
 lt v G w h:=h.lt
theorem BG.any{A:Nat->HX}{n:Nat}{v:Value}{G:NP}{w:WD}{i:Nat}(hA:∀j,j<n->Stb (A j))(h:BG A n v G w)(hi:i<n) :
 ∃(g cp:Nat) (u:Value) (H:NP),v=.slice (some ⟨g,0,none⟩) n cp/\rd w g i=some u/\A i u H w/\(∀x,H x->G x/\x≠g)/\
  ∀B:Nat->HX,(∀j,j≠i->B j=A j)->∀w',Kept H w w'->B i u (fun x=>H x\/rng w w' x) w'->BG B n v (fun x=>G x\/rng w w' x) w':=by
 obtain⟨g,cp,cs,u,H,h1,h2,h3,h4,h5,h6,h7⟩:=h.ex;refine⟨g,cp,u i,H i,h1,by rw [h2.rd];exact h3 i hi,h5 i hi,h6 i hi,fun B hB w' k hb=>⟨⟨g,cp,cs,u,upd H i (fun x=>H i x\/rng w w' x),h1,h2.kx k fun e=>(h6 i hi _ e).2 rfl,h3,.inl h4,fun j hj=>?_,fun j hj x hx=>?_,fun a b ha hb' hab x hx=>?_⟩,fun x hx=>?_⟩⟩
 ·by_cases e:j=i
  ·subst e;rw [upd_same];exact hb
  ·rw [AH _ _ e,hB j e];exact(hA j hj).kx _ _ _ _ _ (h5 j hj) k fun x e1 e2=>h7 i j hi hj (Ne.symm e) x e1 e2
 ·have hg:=h.lt g h4;by_cases e:j=i
  ·subst e;rw [upd_same] at hx;rcases hx with hx|hx
   ·exact⟨.inl (h6 j hj x hx).1,(h6 j hj x hx).2⟩
   ·exact⟨.inr hx,by have:=hx.1;omega⟩
  ·rw [AH _ _ e] at hx;exact⟨.inl (h6 j hj x hx).1,(h6 j hj x hx).2⟩
 ·by_cases e:a=i
  ·subst e;rw [upd_same] at hx;rw [AH _ _ (Ne.symm hab)];intro hx2;rcases hx with hx|hx
   ·exact h7 a b ha hb' hab x hx hx2
   ·have:=h.lt x (h6 b hb' x hx2).1;have:=hx.1;omega
  ·rw [AH _ _ e] at hx;by_cases e2:b=i
   ·subst e2;rw [upd_same];rintro (hx2|hx2)
    ·exact h7 a b ha hb' hab x hx hx2
    ·have:=h.lt x (h6 a ha x hx).1;have:=hx2.1;omega
   ·rw [AH _ _ e2];exact h7 a b ha hb' hab x hx
 ·rcases hx with hx|hx
  ·exact nll (h.lt x hx) k.sz
  ·exact hx.2
theorem BG.one{A B:Nat->HX}{n:Nat}{v:Value}{G:NP}{w w':WD}{i:Nat}(hA:∀j,j<n->Stb (A j))(h:BG A n v G w)(hi:i<n)(hB:∀j,j≠i->B j=A j) :
 ∃(g cp:Nat) (u:Value) (H:NP),v=.slice (some ⟨g,0,none⟩) n cp/\rd w g i=some u/\A i u H w/\(∀x,H x->G x/\x≠g)/\
  ∀w',Kept H w w'->B i u (fun x=>H x\/rng w w' x) w'->BG B n v (fun x=>G x\/rng w w' x) w':=by
 obtain⟨g,cp,u,H,a,b,c,d,e⟩:=h.any hA hi;exact⟨g,cp,u,H,a,b,c,d,e B hB⟩
def JRow(A:Nat->HX)(F:NP)(i:Nat)(vs:List Value)(w:WD):Prop:=
 ∃(u:Nat->Value) (H:Nat->Nat->Prop),vs=(List.range i).map u/\(∀j,j<i->A j (u j) (H j) w)/\(∀j,j<i->∀x,H j x->F x)/\∀a b,a<i->b<i->a≠b->∀x,H a x->¬H b x
theorem CK{A:Nat->HX}{n:Nat}(hA:∀j,j<n->Stb (A j)){R:Ending->List Value->Prop}{mk:Value}{w0:WD}
 (hc:∀i w,i<n->Kept AB w0 w->AM prog mk [.int .i64 i] w fun e w'=>∃(u:Value) (H:NP),R e [u]/\u.oneCell'=true/\Kept AB w w'/\A i u H w'/\∀x,H x->w.heap.size<=x) :
 HD prog mk n 1 w0 R (fun F i vs w=>i<=n/\JRow A F i vs w) where
 st F i vs w w' X h k hx:=by
  obtain⟨hi,u,H,h1,h2,h3,h4⟩:=h;exact⟨hi,u,H,h1,fun j hj=>(hA j (by omega)).kx _ _ _ _ _ (h2 j hj) k fun x e hh=>hx x e (h3 j hj x hh),h3,h4⟩
 run F i vs w hi h k hF:=by
  obtain⟨_,u,H,rfl,h2,h3,h4⟩:=h;refine AQ (hc i w hi k) ?_;rintro e w' ⟨y,K,hR,h1,k1,hA1,hK⟩;refine⟨[y],hR,rfl,fun z hz=>by simp at hz;subst hz;exact h1,k1,hi,upd u i y,upd H i K,?_,fun j hj=>?_,fun j hj x hx=>?_,fun a b ha hb hab x hx=>?_⟩
  ·rw [List.range_succ,FU];congr 1
   ·refine List.map_congr_left fun j hj=>?_;rw [AH _ _ (by have:=List.mem_range.1 hj;omega)]
   ·simp
  ·by_cases e:j=i
   ·subst e;rw [upd_same,upd_same];exact hA1
   ·rw [AH _ _ e,AH _ _ e];exact(hA j (by omega)).kx _ _ _ _ _ (h2 j (by omega)) k1 fun x e1 _=>e1.elim
  ·by_cases e:j=i
   ·subst e;rw [upd_same] at hx;exact .inr ⟨hK x hx,(hA j hi).lt _ _ _ hA1 x hx⟩
   ·rw [AH _ _ e] at hx;exact .inl (h3 j (by omega) x hx)
  ·by_cases e:a=i
   ·subst e;rw [upd_same] at hx;rw [AH _ _ (Ne.symm hab)];intro hx2;have:=(hF x (h3 b (by omega) x hx2)).2;have:=hK x hx;omega
   ·rw [AH _ _ e] at hx;by_cases e2:b=i
    ·subst e2;rw [upd_same];intro hx2;have:=(hF x (h3 a (by omega) x hx)).2;have:=hK x hx2;omega
    ·rw [AH _ _ e2];exact h4 a b (by omega) (by omega) hab x hx
theorem row_of{A:Nat->HX}{T n:Nat}(hA:∀j,j<n->Stb (A j))(hn:0<n){w0 w':WD}{a:OA}{c:Nat}{F:NP}{vs:List Value}(row:w'.ownsRow w0.heap.size T 1 (.slice a n c) n vs)(hj:n<=n/\JRow A F n vs w')
 (hF:∀x,F x->w0.heap.size<=x/\x<w'.heap.size) (hg:∀g,(Value.slice a n c).ownBlock=some g->¬F g):BG A n (.slice a n c) (rng w0 w') w':=by
 obtain⟨_,u,H,rfl,h2,h3,h4⟩:=hj;obtain⟨_,hh⟩:=BZ row;rcases hh with⟨_,h0,_⟩|⟨g,cs,rfl,hgb,og,htk,_,_⟩
 ·omega
 refine⟨⟨g,c,cs,u,H,rfl,og,fun j hj=>?_,⟨hgb,og.lt⟩,h2,fun j hj x hx=>⟨hF x (h3 j hj x hx),fun e=>hg g rfl (by rw [<- e];exact h3 j hj x hx)⟩,h4⟩,fun x hx=>hx.2⟩;have:(cs.take (n*1))[j]? = some (u j):=by rw [htk];simp [hj]
 rw [List.getElem?_take] at this;split at this
 ·exact this
 ·cases this
structure AV(ring:List Int)(of:List (Int×Value))(v:Value)(H:NP)(w:WD):Prop where
 ex:∃(b:Nat) (a:OA) (l cp m:Nat),v=ptr b/\own w b [.slice a l cp,.map (some m)]/\EK w a l cp ring/\BE w m of/\H b/\H m/\∀x,(Value.slice a l cp).ownBlock=some x->H x/\x≠b
 lt:∀x,H x->x<w.heap.size
theorem AV.stb{ring:List Int}{of:List (Int×Value)}:Stb (AV ring of) where
 kx v H w w' X h k hx:=by
  obtain⟨b,a,l,cp,m,h0,h1,h2,h3,h4,h5,h6⟩:=h.ex;exact⟨⟨b,a,l,cp,m,h0,h1.kx k fun e=>hx _ e h4,h2.kx k fun x e ho=>hx x e (h6 x ho).1,h3.kx k fun e=>hx _ e h5,h4,h5,h6⟩,fun x hh=>nll (h.lt x hh) k.sz⟩
 lt v H w h:=h.lt
structure BX(size:Int)(v:Value)(H:NP)(w:WD):Prop where
 ex:∃(b m:Nat),v=ptr b/\own w b [vi size,vi 0,.map (some m)]/\BE w m []/\H b/\H m
 lt:∀x,H x->x<w.heap.size
theorem BX.stb{size:Int}:Stb (BX size) where
 kx v H w w' X h k hx:=by
  obtain⟨b,m,h0,h1,h2,h3,h4⟩:=h.ex;exact⟨⟨b,m,h0,h1.kx k fun e=>hx _ e h3,h2.kx k fun e=>hx _ e h4,h3,h4⟩,fun x hh=>nll (h.lt x hh) k.sz⟩
 lt v H w h:=h.lt
structure E0(v:Value)(H:NP)(w:WD):Prop where
 ex:∃b,v=ptr b/\own w b [vi 4,.slice none 0 0,.slice none 0 0]/\H b
 lt:∀x,H x->x<w.heap.size
theorem E0.stb:Stb E0 where
 kx v H w w' X h k hx:=by
  obtain⟨b,h0,h1,h2⟩:=h.ex;exact⟨⟨b,h0,h1.kx k fun e=>hx _ e h2,h2⟩,fun x hh=>nll (h.lt x hh) k.sz⟩
 lt v H w h:=h.lt
structure EG(xs:List Int)(v:Value)(H:NP)(w:WD):Prop where
 ex:∃(a:OA) (l c:Nat),v=.slice a l c/\BK w 0 a l c xs/\∀x,(Value.slice a l c).ownBlock=some x->H x
 lt:∀x,H x->x<w.heap.size
theorem EG.stb{xs:List Int}:Stb (EG xs) where
 kx v H w w' X h k hx:=by
  obtain⟨a,l,c,h0,h1,h2⟩:=h.ex;exact⟨⟨a,l,c,h0,h1.kx k fun x e ho=>hx x e (h2 x ho),h2⟩,fun x hh=>nll (h.lt x hh) k.sz⟩
 lt v H w h:=h.lt
def NilA(v:Value)(H:NP)(w:WD):Prop:=v=.slice none 0 0/\∀x,H x->x<w.heap.size
theorem NilA.stb:Stb NilA where
 kx v H w w' X h k hx:=⟨h.1,fun x hh=>nll (h.2 x hh) k.sz⟩
 lt v H w h:=h.2
end Go.Proofs.YtdgbechegbmpcaaGreatDoor
