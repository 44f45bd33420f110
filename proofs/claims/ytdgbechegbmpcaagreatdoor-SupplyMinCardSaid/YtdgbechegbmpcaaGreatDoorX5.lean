/- Part of a proof that a law returns true. Conditions: those in each theorem. -/
import Derived.Test.YtdgbechegbmpcaaGreatDoorBL3
import Derived.Shelf.Small.Bits
import Derived.Shelf.Spec.TrailingZeros
import Derived.Test.YtdgbechegbmpcaaGreatDoorCards
import Derived.Test.YtdgbechegbmpcaaGreatDoorTie
import Derived.Deep.DeepHandedRow
import Derived.Lib.LaidTab
set_option linter.unusedSimpArgs false
set_option linter.unusedVariables false
set_option maxRecDepth 100000
namespace Go.Proofs.YtdgbechegbmpcaaGreatDoor
open Go Go.Eng Go.Proofs.Tryz
open Go.Value (bool func slice agg int)
open Option (isNone)
open Go.IntKind (wrap)
open List (replicate range)
variable {f:NI}{B i:Nat}{w':WD}{size:Int}
theorem FF{kd:IntKind}{n:Nat}{v:Int}(hi:i<n):(AQ kd f 0 n).set i (.int kd v)=AQ kd (upd f i v) 0 n:=by
 refine DX (by rw [List.length_set,AM]) λj hj=>?_;rw [List.getElem?_set,AM];by_cases e:i=j
 .subst e;simp [hi]
 .rw [if_neg e,AZ _ _ _ _ _ hj,za,AI _ _ (Ne.symm e)]
def sz(k:Nat):Int:=[8,16,24,40,56,72,104,128].getD k 1
def F7(w:WD):Prop:=∀i,i<8->rd w 0 i=some (vi (sz i))
theorem F7.k{w:WD}(h:F7 w)(k:AB AD w w'):F7 w':=λi hi=>k.AV (h i hi) id
theorem F7.kx{X:NP}{w:WD}(h:F7 w)(k:AB X w w')(hx:¬X 0):F7 w':=λi hi=>k.AV (h i hi) hx
theorem C37(hi:i<8):8<=sz i/\sz i<=128/\Int.tmod (sz i) 8=0:=by
 match i,hi with
 | 0,_|1,_|2,_|3,_|4,_|5,_|6,_|7,_=>exact(by decide)
theorem A7a{n:Int}{m:Int}(h0:0<=n)(h1:n<=m):(if m<if 0>n then 0 else n then m else if 0>n then 0 else n)=n:=by
 rw [if_neg (show ¬(0:Int)>n by omega),if_neg (by omega)]
theorem B20{n:Nat}(hn:n<=1024)(w:WD):Calls prog 63 #[vi n] w λe w'=>∃d db,e=.returned (AP d)/\AB AD w w'/\LW w' d db n (λ_=>0)/\w.heap.size<=d/\w.heap.size<=db:=by
 refine(vc63 n w (λv w'=>∃d db,v=AP d/\AB AD w w'/\LW w' d db n (λ_=>0)/\w.heap.size<=d/\w.heap.size<=db) ?_).AE ?_
 .unfold Q;rw [A7a (by omega) (by omega),tnc];refine AA FQ λw1 e1 w2 e2=>⟨_,_,rfl,((AB.refl _ w).al e1).al e2,⟨AG e2,?_,by rw [e1];simp only [World.alloc,Array.size_push];omega⟩,by rw [e1];simp only [World.alloc,Array.size_push];omega,nlr _⟩;have o1:AX w1 w.heap.size (DO (List.toArray (replicate 256 (int IntKind.u8 0))) 256 n).toList:=AG e1;rw [NO (by decide),GM (s:=256) (by simp) (by decide),List.toList_toArray,B4j] at o1;exact o1.al e2
 .rintro e w' ⟨v,rfl,d,db,rfl,h⟩;exact⟨d,db,rfl,h⟩
theorem B1y{n:Nat}(hn:n<=64)(w:WD):Calls prog 64 #[vi n] w λe w'=>∃l,e=.returned (AP l)/\AB AD w w'/\BX w' l n (λ_=>0)/\w.heap.size<=l:=by
 refine(vc64 n w (λv w'=>∃l,v=AP l/\AB AD w w'/\BX w' l n (λ_=>0)/\w.heap.size<=l) ?_).AE ?_
 .unfold Q;rw [A7a (by omega) (by omega)];intro w1 e1;exact⟨_,rfl,(AB.refl _ w).al e1,AG e1,nlr _⟩
 .rintro e w' ⟨v,rfl,l,rfl,h⟩;exact⟨l,rfl,h⟩
theorem B61{n:Nat}:(DO #[int IntKind.i64 0,int IntKind.i64 0] 2 n).toList=D4 n λ_=>E3 (0,0):=by
 rw [NO (by decide),GM (s:=2) rfl (by decide)]
 rfl
theorem A78{n:Nat}(hn:n<=1024)(w:WD):Calls prog 65 #[vi n] w λe w'=>∃r fb mb,e=.returned (AP r)/\AB AD w w'/\DI w' r fb mb n (λ_=>(0,0)) []/\w.heap.size<=r/\w.heap.size<=fb/\w.heap.size<=mb:=by
 refine(vc65 n w (λv w'=>∃r fb mb,v=AP r/\AB AD w w'/\DI w' r fb mb n (λ_=>(0,0)) []/\w.heap.size<=r/\w.heap.size<=fb/\w.heap.size<=mb) ?_).AE ?_
 .unfold Q;rw [A7a (by omega) (by omega),tnc];refine AA FQ λw1 e1 w2 e2 w3 e3=>?_;have o1:AX w1 w.heap.size _:=AG (c:=(DO #[int IntKind.i64 0,int IntKind.i64 0] 2 n).toList) e1;rw [B61] at o1;have k1:AB AD w w1:=(AB.refl _ w).al e1;have k2:AB AD w1 w2:=e2▸kr.allocMap #[] 0;have k3:=kal e3;have h1:=k1.sz;have h2:=k2.sz;exact⟨_,_,_,rfl,(k1.tr k2).tr k3,⟨AG e3,(o1.k k2).k k3,(A1q e2).k k3,by have:=(A1q (enc:=pgV) e2).lt;have:=o1.lt;omega⟩,by omega,nlr _,h1⟩
 .rintro e w' ⟨v,rfl,r,fb,mb,rfl,h⟩;exact⟨r,fb,mb,rfl,h⟩
theorem A72{n:Nat}(hn:n<=1024)(w:WD):Calls prog 67 #[vi n] w λe w'=>∃s fb,e=.returned (AP s)/\AB AD w w'/\ER w' s fb n (λ_=>(0,0))/\w.heap.size<=s/\w.heap.size<=fb:=by
 refine(vc67 n w (λv w'=>∃s fb,v=AP s/\AB AD w w'/\ER w' s fb n (λ_=>(0,0))/\w.heap.size<=s/\w.heap.size<=fb) ?_).AE ?_
 .unfold Q;rw [A7a (by omega) (by omega),tnc];refine AA FQ λw1 e1 w2 e2=>?_;have o1:AX w1 w.heap.size _:=AG (c:=(DO #[int IntKind.i64 0,int IntKind.i64 0] 2 n).toList) e1;rw [B61] at o1;have k1:AB AD w w1:=(AB.refl _ w).al e1;have k2:=kal e2;exact⟨_,_,rfl,k1.tr k2,⟨AG e2,o1.k k2,by have:=o1.lt;omega⟩,k1.sz,nlr _⟩
 .rintro e w' ⟨v,rfl,s,fb,rfl,h⟩;exact⟨s,fb,rfl,h⟩
def A4i(B:Nat)(size cnt x y:Int)(tl:List Value):List Value:=[.slice (some ⟨B,0,none⟩) 256 256,vi size,vi 0,vi cnt,.int .u8 x,vi y]++tl
theorem B4n{w:WD}{S:Nat}{cnt x y i:Int}{tl:List Value}(hS:AX w S (A4i B size cnt x y tl))(hB:AX w B (AQ .u8 f 0 256))(hne:S≠B)(hi:0<=i*size/\i*size<256) :
 Calls prog 230 #[AP S,vi i] w λe w'=>e=.returned (.tuple #[])/\AB (λb=>b=S\/b=B) w w'/\∃x' y' f',AX w' S (A4i B size cnt x' y' tl)/\AX w' B (AQ .u8 f' 0 256):=by
 refine(vc230 _ i w (λv w'=>v=.tuple #[]/\AB (λb=>b=S\/b=B) w w'/\∃x' y' f',AX w' S (A4i B size cnt x' y' tl)/\AX w' B (AQ .u8 f' 0 256)) ?_).AE ?_
 rotate_left
 .rintro e w' ⟨v,rfl,rfl,h⟩;exact⟨rfl,h⟩
 unfold Q;intro w1 e1;have s1:=hS.dr e1;have b1:=hB.dr e1;have k1:AB (λb=>b=S\/b=B) w w1:=kr.dr e1;clear e1;simp only [Ri,Rp,Rs,Re,Wp,Wn,isP_some,Wif_true,pb_some,po_some,za];refine⟨_,_,_,by rw [s1.rd];rfl,_,by rw [s1.rd];rfl,_,by rw [s1.rd];rfl,x,by rw [s1.rd];rfl,?_⟩;simp only [Ri,Rp,Rs,Re,Wp,Wn,isP_some,Wif_true,pb_some,po_some,za];rw [wi (x:=i*size) (by omega),Int.zero_add,wi (x:=i*size) (by omega)];refine AA (DZ hi.1 (by omega)) ⟨b1.wr (by rw [AM];omega),λw2 e2=>?_⟩;have s2:=s1.n1 e2 hne;have b2:=b1.s1 e2;rw [mo,FF (by omega)] at b2;have k2:=k1.s1 e2 (.inl (.inr rfl));refine⟨s2.wr (by simp [A4i]),λw3 e3=>?_⟩;have s3:=s2.s1 e3;have b3:=b2.n1 e3 (Ne.symm hne);have k3:=k2.s1 e3 (.inl (.inl rfl));refine⟨y,by rw [s3.rd];rfl,s3.wr (by simp [A4i]),λw4 e4=>?_⟩;exact⟨trivial,k3.s1 e4 (.inl (.inl rfl)),_,_,_,s3.s1 e4,b3.n1 e4 (Ne.symm hne)⟩
theorem A9d{w:WD}(hs:8<=size/\size<=128/\Int.tmod size 8=0)(hB:AX w B (AQ .u8 f 0 256)) :
 Calls prog 175 #[.slice (some ⟨B,0,none⟩) 256 256,vi size,vi 0] w λe w'=>∃S,e=.returned (.tuple #[AP S,vi 0])/\AB (λb=>b=B) w w':=by
 refine(vc175 _ 256 256 size 0 w (λv w'=>∃S,v=.tuple #[AP S,vi 0]/\AB (λb=>b=B) w w') ?_).AE ?_
 rotate_left
 .rintro e w' ⟨v,rfl,S,rfl,h⟩;exact⟨S,rfl,h⟩
 unfold Q;obtain⟨h8,h128,hm⟩:=hs;have hne0:(size != 0)=true:=by simp;omega
 have hm0:(Int.tmod size 8 != 0)=false:=by rw [hm];rfl
 have hmd:=Int.emod_nonneg 256 (b:=size) (by omega);have hcol:decide ((0:Int)>Int.tmod 256 size)=false:=by
  rw [Int.tmod_eq_emod_of_nonneg (by decide)];simp;omega
 have h8':decide (size<8)=false:=by simp;omega
 have h128':decide (size>128)=false:=by simp;omega
 rw [hne0,hm0,hcol,h8',h128'];simp only [gIf_true];refine AL (by decide) ?_;simp only [Wif_true];intro w1 e1;have hd:Int.tdiv 256 size=256/size:=Int.tdiv_eq_ediv_of_nonneg (by decide);have hd0:0<=(256:Int)/size:=Int.ediv_nonneg (by decide) (by omega);have hd1:(256:Int)/size*size<=256:=Int.ediv_mul_le _ (by omega);have hd2:(256:Int)/size<=256:=Int.ediv_le_self _ (by decide);rw [wi (x:=256-0) (by omega),Int.sub_zero,hd,wi (x:=256/size) (by omega)] at e1;generalize hq:(256:Int)/size=q at *;have s1:AX w1 w.heap.size (A4i B size q 255 0 (replicate 32 (Value.bool false)++replicate 32 (int IntKind.u64 0))):=AG e1;have k1:AB (λb=>b=B) w w1:=kr.al e1;have b1:=hB.al e1;have hne:w.heap.size≠B:=(Ne.symm (Nat.ne_of_lt hB.lt));clear e1;generalize hS:w.heap.size=S at *;refine⟨q,by rw [s1.rd];rfl,?_⟩;refine⟨λk w' N=>∃(m:Nat) (x y:Int) (f:NI),k=(m:Int)-1/\(m:Int)<=q/\m=N/\AB (λb=>b=B) w w'/\AX w' S (A4i B size q x y (replicate 32 (Value.bool false)++replicate 32 (int IntKind.u64 0)))/\AX w' B (AQ .u8 f 0 256),
  ⟨q.toNat,q.toNat,_,_,_,by rw [wi (by omega)];omega,by omega,rfl,k1,s1,b1⟩,?_⟩
 rintro _ w2 _ ⟨m,x,y,g,rfl,hmq,rfl,k2,s2,b2⟩;refine AH (λhc=>?_) (λhc=>⟨S,rfl,k2⟩);have hm1:1<=m:=by simp at hc;omega
 have hpos:0<=((m:Int)-1)*size:=Int.mul_nonneg (by omega) (by omega);have hle:((m:Int)-1)*size<=q*size-size:=by
  have:=Int.mul_le_mul_of_nonneg_right (a:=(m:Int)-1) (b:=q-1) (c:=size) (by omega) (by omega);rw [Int.sub_mul q,Int.one_mul] at this;exact this
 refine(B4n s2 b2 hne ⟨hpos,by omega⟩).AE ?_;rintro _ w3 ⟨rfl,k3,x',y',f',s3,b3⟩;refine⟨rfl,m-1,by omega,m-1,x',y',f',by rw [wi (by omega)];omega,by omega,rfl,k2.trans k3 (λb hb e=>?_),s3,b3⟩;rcases e with rfl|rfl
 .omega
 .rfl
theorem A9f(hs:8<=size/\size<=128/\Int.tmod size 8=0)(w:WD):Calls prog 75 #[vi size] w λe w'=>∃C m,e=.returned (.tuple #[AP C,vi 0])/\AB AD w w'/\AX w' C [vi size,vi 0,.map (some m)]/\BJ w' m []/\w.heap.size<=C/\w.heap.size<=m:=by
 refine(vc75 size w (λv w'=>∃C m,v=.tuple #[AP C,vi 0]/\AB AD w w'/\AX w' C [vi size,vi 0,.map (some m)]/\BJ w' m []/\w.heap.size<=C/\w.heap.size<=m) ?_).AE ?_
 rotate_left
 .rintro e w' ⟨v,rfl,C,m,rfl,h⟩;exact⟨C,m,rfl,h⟩
 unfold Q;intro w1 e1;have o1:AX w1 w.heap.size _:=AG e1;rw [show replicate 256 (int IntKind.u8 0)=AQ .u8 (λ_=>0) 0 256 from DX List.length_replicate λj hj=>by rw [List.getElem?_replicate,if_pos hj]] at o1;have k1:=kal e1;refine(A9d hs o1).AE ?_;rintro _ w2 ⟨S,rfl,k2⟩;have K2:AB AD w w2:=BO k1 k2 λx e=>by omega
 refine⟨_,_,rfl,AL rfl λw3 e3 w4 e4=>?_⟩;have k3:AB AD w2 w3:=e3▸kr.allocMap #[] 0;have k4:=kal e4;have h2:=K2.sz;have h3:=k3.sz;exact⟨_,_,rfl,(K2.tr k3).tr k4,AG e4,(JL e3).k k4,by omega,h2⟩
end Go.Proofs.YtdgbechegbmpcaaGreatDoor
namespace Go.Proofs
open Go.Shelf
theorem Tryz.B1j:Tryz.prog.follows .mixedOrders=true:=by kernel_rfl
def Tryz.A6m:Go.Shelf.Ren:=⟨λ|126=>223|n=>n,λn=>n,λ|n=>n⟩
theorem Tryz.len8:Go.Proofs.Lays.n126 Tryz.prog Tryz.A6m:={
 mixed:=Tryz.B1j
 f126:=Tryz.func223.trans (congrArg some (by kernel_rfl))
 t3:=Tryz.underlying3
 a3:=Tryz.isAgg3
 z3:=Tryz.sizeOf3
 v3:=Tryz.zeroValue3
 t5:=Tryz.underlying5
 a5:=Tryz.isAgg5
 z5:=Tryz.sizeOf5
 v5:=Tryz.zeroValue5
 t9:=Tryz.underlying9
 a9:=Tryz.isAgg9
 z9:=Tryz.sizeOf9
 v9:=Tryz.zeroValue9}
def Tryz.A6c:Go.Shelf.Ren:=⟨λ|135=>224|n=>n,λn=>n,λ|n=>n⟩
theorem Tryz.pop8:Go.Proofs.Lays.n135 Tryz.prog Tryz.A6c:={
 mixed:=Tryz.B1j
 f135:=Tryz.func224.trans (congrArg some (by kernel_rfl))
 t3:=Tryz.underlying3
 a3:=Tryz.isAgg3
 z3:=Tryz.sizeOf3
 v3:=Tryz.zeroValue3
 t5:=Tryz.underlying5
 a5:=Tryz.isAgg5
 z5:=Tryz.sizeOf5
 v5:=Tryz.zeroValue5
 t9:=Tryz.underlying9
 a9:=Tryz.isAgg9
 z9:=Tryz.sizeOf9
 v9:=Tryz.zeroValue9}
end Go.Proofs
namespace Go.Proofs
open Go.Shelf
def Tryz.B6u:Go.Shelf.Ren:=⟨λ|29=>307|n=>n,λ|22=>76|25=>306|54=>416|n=>n,λ|1=>1|n=>n⟩
theorem Tryz.tz:Go.Proofs.Lays7.n29 prog Tryz.B6u:={
 mixed:=Tryz.B1j
 f29:=func307.trans (congrArg some (by kernel_rfl))
 t0:=underlying0
 a0:=Tryz.isAgg0
 z0:=Tryz.sizeOf0
 v0:=Tryz.zeroValue0
 i0:=by kernel_rfl
 t3:=underlying3
 a3:=Tryz.isAgg3
 z3:=Tryz.sizeOf3
 v3:=Tryz.zeroValue3
 i3:=by kernel_rfl
 t4:=underlying4
 a4:=Tryz.isAgg4
 z4:=Tryz.sizeOf4
 v4:=Tryz.zeroValue4
 i4:=by kernel_rfl
 t5:=underlying5
 a5:=Tryz.isAgg5
 z5:=Tryz.sizeOf5
 v5:=Tryz.zeroValue5
 i5:=by kernel_rfl
 t22:=underlying76
 a22:=Tryz.isAgg76
 z22:=Tryz.sizeOf76
 v22:=Tryz.zeroValue76
 i22:=by kernel_rfl
 t25:=underlying306
 a25:=Tryz.isAgg306
 z25:=Tryz.sizeOf306
 v25:=Tryz.zeroValue306
 i25:=by kernel_rfl
 t54:=underlying416
 a54:=Tryz.isAgg416
 z54:=Tryz.sizeOf416
 g1:=by kernel_rfl}
end Go.Proofs
namespace Go.Proofs.YtdgbechegbmpcaaGreatDoor
open Go Go.Eng Go.Proofs.Tryz
open Go.Value (bool func slice agg int)
open Option (isNone)
open Go.IntKind (wrap)
open List (replicate range)
abbrev tzB:Nat:=1
structure GV(w:WD):Prop where
 at':TabAt 1 Lib.deBruijn64tab w
theorem GV.eq{w w':WD}(h:GV w)(e:w'.heap[tzB]? = w.heap[tzB]?):GV w':=
 ⟨λj hj=>by
  have h1:=h.at' j hj;have h2:rd w' 1 j=rd w 1 j:=by rw [FG,FG];rw [show w'.heap[1]? = w.heap[1]? from e]
  exact h2.trans h1⟩
theorem GV.lt{w:WD}(h:GV w):tzB<w.heap.size:=J3 (h.at' 0 (by decide))
theorem GV.kx{X:NP}{w w':WD}(h:GV w)(k:AB X w w')(hx:¬X tzB):GV w':=h.eq (k.blk _ h.lt hx)
theorem GV.k{w w':WD}(h:GV w)(k:AB AD w w'):GV w':=h.kx k id
theorem A9z{w:WD}(T:GV w)(x:Nat)(hx:x<18446744073709551616):Calls prog 307 #[.int .u64 (x:Nat)] w λe w'=>e=.returned (vi (Lib.ctz 64 x:Nat))/\w'=w:=
 Any7.bits_TrailingZeros64 (ρ:=B6u) tz x hx w λ_=>T.at'
end Go.Proofs.YtdgbechegbmpcaaGreatDoor
namespace Go.Proofs.YtdgbechegbmpcaaGreatDoor
open Go Go.ChangeShapes Go.WideShapes Go.ChangeAt Go.RowKit Go.Eng
theorem B4z:ownKnob Tryz.prog.godebug=none:=by kernel_rfl
theorem laidOut:laidOutB Tryz.prog=true:=by kernel_rfl
theorem wf_i64{x:Int}(h:(Lit.int .i64 x).wf=true):-9223372036854775808<=x/\x<=9223372036854775807:=by
 simpa [Lit.wf,IntKind.min,IntKind.max,IntKind.signed,IntKind.bits] using h
theorem C7c:Tryz.prog.globalNamed "byre/api.Sizes" = some 0:=by kernel_rfl
theorem B5v:(Tryz.prog.globals[0]?).map (·.type)=some 23:=by kernel_rfl
theorem E2:Tryz.prog.cellsOf 3=1:=by kernel_rfl
theorem C2v:Tryz.prog.cellsOf 23=8:=by kernel_rfl
abbrev ND{H:Type}:List (String×DataW H):=[("byre/api.Sizes",Rows.laid_byre_api_Sizes),("math/bits.deBruijn64tab",Rows.laid_math_bits_deBruijn64tab)]
theorem table{W:WD}(h:laidMetH Tryz.prog ND W):F7 W:=by
 have t:Lib.TabIs Tryz.prog W "byre/api.Sizes" .i64 [8,16,24,40,56,72,104,128]:=Lib.tabIs_of_head C7c B5v Tryz.underlying23 Tryz.underlying3 E2 C2v h;intro i hi;have h1:=t.cell C7c i (by simpa using hi);have e:([8,16,24,40,56,72,104,128]:List Int).getD i 0=sz i:=by
  match i,hi with
  | 0,_|1,_|2,_|3,_|4,_|5,_|6,_|7,_=>rfl
 rw [e] at h1;exact h1
theorem gTz:Tryz.prog.globalNamed "math/bits.deBruijn64tab" = some 1:=by kernel_rfl
theorem B81:(Tryz.prog.globals[1]?).map (·.type)=some 416:=by kernel_rfl
theorem C2u:Tryz.prog.cellsOf 416=64:=by kernel_rfl
theorem B6d:Tryz.prog.cellsOf 5=1:=by kernel_rfl
theorem C0i{W:WD}(h:laidMetH Tryz.prog ND W):GV W:=by
 have h':laidMet Tryz.prog [("byre/api.Sizes",Rows.laid_byre_api_Sizes),("math/bits.deBruijn64tab",Rows.laid_math_bits_deBruijn64tab)] W:=h;have t:Lib.TabIs Tryz.prog W "math/bits.deBruijn64tab" .u8 (Lib.deBruijn64tab.map λn:Nat=>(n:Int)):=by
  obtain⟨ps,⟨_,_,_,_,p0,q0,_,_,_,_,h2,_⟩,_⟩:=h';obtain⟨g',t',cs,fuel,p,q,hg',ht',hvar,hd,_,_⟩:=h2;obtain rfl:=Option.some.inj (gTz.symm.trans hg');obtain rfl:=Option.some.inj (B81.symm.trans ht');unfold Lib.TabIs;rw [hvar,<- Lib.cells_of_tab Tryz.underlying416 Tryz.underlying5 B6d C2u hd]
 refine⟨λj hj=>?_⟩;have h1:=t.cell gTz j (by simpa using hj);rw [List.getD_eq_getElem?_getD,gmp] at h1;rw [List.getD_eq_getElem?_getD];rw [geg hj] at h1 ⊢;exact h1
theorem B5a{k:FuncId}{f:Func}(hf:Tryz.checked.prog.funcs[k]? = some f)(noInit:Tryz.checked.prog.inits.idxOf? k=none)
 {bt:TypeId} (hbt:Tryz.prog.underlying bt=some .bool) (hres:f.resultTypes=#[bt]) (hpar:C03 Tryz.prog f=true)
 {s:ChangeSpec} (hvars:s.vars=[]) {dom:List PathCond}
 (hfn:∀(H:Type) (ds:List (DataW H)),ds.length=f.params.size->s.fn H ds={results:=[.lit (.bool true)],args:=ds})
 (walk:∀(H:Type) (enc:TypeId×Value->H) (W:WD) (base:Nat) (args:Array Value) (ds:List (DataW H)) (p:List MemPlace),
  (∀(j:Nat) t v,f.params[j]? = some t->args[j]? = some v->Value.okWide Tryz.prog W .any base t v)->
  DataW.TrodAll enc Tryz.prog W 0 (λ_=>true) true f.params.toList args.toList ds p->F7 W->GV W->
  Calls Tryz.prog k args W λe W'=>e=.returned (.bool true)/\AB AD W W')
 (os:Os) (started:os.Started) (H:Type) (enc:TypeId×Value->H) (F:Stop.Interp)
 (wit:∃(w:WD) (tape:Tape) (i:Input),w.os=os/\(w.forCall tape i).Shaped Tryz.checked.prog/\i.vars=[]/\Input.okWide Tryz.checked.prog (w.forCall tape i) .any w.heap.size k i/\
  (OpenSpec.ofChange s).preRow enc Tryz.checked.prog f dom false ND (w.forCall tape i).memory i.args/\({}:Assume).holds Tryz.checked.prog (lone (Frame.enter Tryz.checked.prog k i.args .normal) [] (w.forCall tape i))) :
 ReturnsInHanded {} Tryz.checked os k .any ((OpenSpec.ofChange s).preRow enc Tryz.prog f dom false ND) (((OpenSpec.ofChange s).at F).post enc Tryz.prog f false true false false):=by
 refine returnsInHanded_of_row (C:=Tryz.checked) (s:=OpenSpec.ofChange s) B4z started noInit hf wit ?_;intro W base args ds gs before hval hW _ hcond _ hL _ _;have hW':=hW;obtain⟨p,q,hA,hV,rfl,hfz,hnd⟩:=hW;have hlt:∀x∈p++q,x.block<W.heap.size:=λx hx=>by simpa using hW'.lt x hx
 have hv0:(OpenSpec.ofChange s).vars=[]:=hvars;rw [hv0] at hV;obtain⟨rfl,rfl⟩:=trodVars_none hV;simp only [List.append_nil] at hlt;refine(walk H enc W base args ds p hval hA (table hL) (C0i hL)).AE λe W' ⟨he,hg⟩=>?_;subst he;have hlen:ds.length=f.params.size:=by
  have:∀(ts:List TypeId) (vs:List Value) (ds:List (DataW H)) (ps:List MemPlace),DataW.TrodAll enc Tryz.prog W 0 (λ_=>true) true ts vs ds ps->ds.length=ts.length:=by
   intro ts
   induction ts with
   | nil=>intro vs ds ps h;obtain⟨_,rfl,_⟩:=trodAll_nil h;rfl
   | cons t ts ih=>
    intro vs ds ps h;obtain⟨v,vs',d,ds',p,q,rfl,rfl,rfl,h0,h1⟩:=trodAll_cons h;simp [ih _ _ _ h1]
  rw [this _ _ _ _ hA];simp
 have hs:s.fn H (ds++[])={results:=[.lit (.bool true)],args:=ds}:=by rw [List.append_nil];exact hfn H ds hlen
 show ∃v,_/\s.post enc Tryz.prog f false true false false W args v W'
 refine⟨_,rfl,ds,[],p++[],[],p,[],hW',?_,?_,?_,hg.keptBut _,λh=>by cases h⟩
 .rw [hs,hres];exact trodAll_mk1 (shut_bool hbt _)
 .rw [hs];refine A04 laidOut hg.below _ _ _ _ (λt ht=>?_) hA hlt;have:=List.all_eq_true.1 hpar t ht;simpa using this
 .rw [hs,hvars]
  rfl
def Ints(cs:List Value):Prop:=∀j,j<cs.length->∃n:Int,cs[j]? = some (.int .i64 n)/\-9223372036854775808<=n/\n<=9223372036854775807
section
variable {H:Type}{enc:TypeId×Value->H}{P:Program}{W:WD}
abbrev Tr(H:Type)(enc:TypeId×Value->H)(P:Program)(W:WD)(t:TypeId):Prop:=∀(fuel:Nat) (cs:List Value) (x:DataW H×List MemPlace),DataW.trod enc P W 0 (λ_=>true) true fuel t cs=some x->Ints cs/\cs.length=P.cellsOf t
theorem C0g{t:TypeId}(ht:P.underlying t=some (.int .i64))(hc:P.cellsOf t=1):Tr H enc P W t:=λfuel cs x h=>by
 obtain⟨n,rfl,_,hw⟩:=DataW.trod_int ht h;refine⟨λj hj=>⟨n,?_,wf_i64 hw⟩,by rw [hc];rfl⟩;have:j=0:=by simp at hj;omega
 subst this;rfl
theorem A92{cs ds:List Value}{o s:Nat}(h:Ints ((cs.drop o).take s)){j:Nat}(h1:o<=j)(h2:j<o+s)(h3:j<cs.length):∃n:Int,cs[j]? = some (.int .i64 n)/\-9223372036854775808<=n/\n<=9223372036854775807:=by
 obtain⟨n,h4,h5⟩:=h (j-o) (by simp;omega);rw [List.getElem?_take,if_pos (by omega),List.getElem?_drop,show o+(j-o)=j by omega] at h4;exact⟨n,h4,h5⟩
theorem A93{t e:TypeId}{n s:Nat}(ht:P.underlying t=some (.array n e))(hs:P.cellsOf e=s)(hc:P.cellsOf t=n*s)(he:Tr H enc P W e):Tr H enc P W t:=λfuel cs x h=>by
 obtain⟨xs,m,_,_,hl,hxl,hx⟩:=DataW.trod_array ht h;refine⟨λj hj=>?_,hl⟩;rw [hl,hc] at hj;have hs0:0<s:=by
  rcases Nat.eq_zero_or_pos s with h0|h0
  .subst h0;simp at hj
  .exact h0
 have hi:j/s<n:=(Nat.div_lt_iff_lt_mul hs0).2 hj;have h1:=hx (j/s) hi;rw [geg (by omega),hs] at h1;have h2:=(he _ _ _ h1).1;have hd:=Nat.div_add_mod j s;have hm:=Nat.mod_lt j hs0;exact A92 (ds:=[]) h2 (by rw [Nat.mul_comm] at hd;omega) (by rw [Nat.mul_comm] at hd;omega) (by rw [hl,hc];exact hj)
end
section
variable {H:Type}{enc:TypeId×Value->H}
theorem A7e:Tryz.prog.cellsOf 26=94:=by kernel_rfl
theorem A7g:Tryz.prog.cellsOf 22=16*1:=by kernel_rfl
theorem A1z:Tryz.prog.cellsOf 23=8*1:=by kernel_rfl
theorem A7f:Tryz.prog.cellsOf 24=8*8:=by kernel_rfl
theorem tr3(W:WD):Tr H enc Tryz.prog W 3:=C0g Tryz.underlying3 E2
theorem tr27(W:WD):Tr H enc Tryz.prog W 22:=A93 Tryz.underlying22 E2 A7g (tr3 W)
theorem C35(W:WD):Tr H enc Tryz.prog W 23:=A93 Tryz.underlying23 E2 A1z (tr3 W)
theorem tr29(W:WD):Tr H enc Tryz.prog W 24:=A93 Tryz.underlying24 A1z A7f (C35 W)
theorem tr31(W:WD):Tr H enc Tryz.prog W 26:=λfuel cs x h=>by
 obtain⟨xs,m,_,_,hl,hxl,hx⟩:=DataW.trod_struct Tryz.underlying26 h;refine⟨λj hj=>?_,hl⟩;have hxl':xs.length=9:=hxl;rw [hl,A7e] at hj;have go:∀(i:Nat) (f:Field) (o s:Nat),i<9->f.offset=o->Tryz.prog.cellsOf f.type=s->Tr H enc Tryz.prog W f.type->DataW.trod enc Tryz.prog W 0 (λ_=>true) true m f.type ((cs.drop f.offset).take (Tryz.prog.cellsOf f.type))=xs[i]? -> o<=j->j<o+s->∃n:Int,cs[j]? = some (.int .i64 n)/\-9223372036854775808<=n/\n<=9223372036854775807:=by
  intro i f o s hi ho hs ht hf h1 h2;rw [geg (by omega)] at hf;have:=(ht _ _ _ hf).1;rw [ho,hs] at this;exact A92 (ds:=[]) this h1 h2 (by rw [hl,A7e];exact hj)
 by_cases e0:j<1
 .exact go 0 _ 0 1 (by omega) rfl E2 (tr3 W) (hx 0 _ rfl) (by omega) (by omega)
 by_cases e1:j<2
 .exact go 1 _ 1 1 (by omega) rfl E2 (tr3 W) (hx 1 _ rfl) (by omega) (by omega)
 by_cases e2:j<18
 .exact go 2 _ 2 16 (by omega) rfl A7g (tr27 W) (hx 2 _ rfl) (by omega) (by omega)
 by_cases e3:j<26
 .exact go 3 _ 18 8 (by omega) rfl A1z (C35 W) (hx 3 _ rfl) (by omega) (by omega)
 by_cases e4:j<90
 .exact go 4 _ 26 64 (by omega) rfl A7f (tr29 W) (hx 4 _ rfl) (by omega) (by omega)
 by_cases e5:j<91
 .exact go 5 _ 90 1 (by omega) rfl E2 (tr3 W) (hx 5 _ rfl) (by omega) (by omega)
 by_cases e6:j<92
 .exact go 6 _ 91 1 (by omega) rfl E2 (tr3 W) (hx 6 _ rfl) (by omega) (by omega)
 by_cases e7:j<93
 .exact go 7 _ 92 1 (by omega) rfl E2 (tr3 W) (hx 7 _ rfl) (by omega) (by omega)
 .exact go 8 _ 93 1 (by omega) rfl E2 (tr3 W) (hx 8 _ rfl) (by omega) (by omega)
end
def zi{H:Type}:DataW H:=.lit (.int .i64 0)
def B3y{H:Type}:DataW H:=.agg [zi,zi,.agg (List.replicate 16 zi),.agg (List.replicate 8 zi),.agg (List.replicate 8 (.agg (List.replicate 8 zi))),zi,zi,zi,zi]
def litV:DataW Unit->Value
 | .lit (.int k n)=>.int k n
 | _=>.bool false
def C7p:DataW Unit->List Value
 | .agg xs=>xs.map litV
 | _=>[]
def C3r(cs:List Value):Obj->Obj
 | .cells _ t frozen=>.cells cs.toArray t frozen
 | o=>o
noncomputable def laidWorld (os:Os):WD:=
 {World.holding Tryz.prog os ⟨#[],#[],[]⟩ with heap:=((World.holding Tryz.prog os ⟨#[],#[],[]⟩).heap.modify 0 (C3r (C7p Rows.laid_byre_api_Sizes))).modify 1 (C3r (C7p Rows.laid_math_bits_deBruijn64tab))}
theorem B5e(os:Os)(args:Array Value):laidMet Tryz.prog ND ((laidWorld os).forCall (λ_ _=>0) ⟨#[],args,[]⟩).memory:=
 laidMet_of_run' 8 (by kernel_rfl) (by kernel_rfl)
end Go.Proofs.YtdgbechegbmpcaaGreatDoor
namespace Go.Proofs.YtdgbechegbmpcaaGreatDoor
open Go Go.Eng Go.Proofs.Tryz
open Go.Value (bool func slice agg int)
open Option (isNone)
open Go.IntKind (wrap)
open List (replicate range)
variable {base c i l x:Nat}{G X:NP}{w' w0:WD}{a:OA}{xs:List Int}
theorem vc69(x0:Int)(w:WD)(K:KV)(h:Q (CP 70 #[] w λp w'=>K (pt p) w')):Ret 69 #[vi x0] w K:=vcA L9 2 [] func69 h
theorem vc72(x0:Int)(w:WD)(K:KV)(h:Q (CS 73 #[vi 8,func (.func 74) #[] #[]] w λa l c w'=>K (sl a l c) w')):Ret 72 #[vi x0] w K:=vcA L9 2 [] func72 h
theorem vc74(i:Int)(w:WD)(K:KV)(h:Q (Wn i 8 (RI w 0 (0+i.toNat*1) λx=>Calls prog 75 #[vi x] w λe w'=>∃(p:OA) (n:Int),e=rT (.tuple #[pt p,vi n])/\K (pt p) w'))):Ret 74 #[vi i] w K:=vcA L9 2 [] func74 h
theorem vc77(x0:Int)(w:WD)(K:KV)(h:Q (CS 78 #[vi 8,func (.func 79) #[] #[]] w λa l c w'=>K (sl a l c) w')):Ret 77 #[vi x0] w K:=vcA L9 2 [] func77 h
theorem vc79(x0:Int)(w:WD)(K:KV)(h:Q (CP 80 #[vi 4] w λp w'=>K (pt p) w')):Ret 79 #[vi x0] w K:=vcA L9 2 [] func79 h
theorem vc82(x0:Int)(w:WD)(K:KV)(h:Q (CS 83 #[vi 8,func (.func 84) #[] #[]] w λa l c w'=>K (sl a l c) w')):Ret 82 #[vi x0] w K:=vcA L9 2 [] func82 h
theorem vc84(x0:Int)(w:WD)(K:KV)(h:Q (CP 85 #[vi 4] w λp w'=>K (pt p) w')):Ret 84 #[vi x0] w K:=vcA L9 2 [] func84 h
theorem vc87(x0:Int)(w:WD)(K:KV)(h:Q (K (.int .u64 1) w)):Ret 87 #[vi x0] w K:=vcA L9 2 [] func87 h
theorem vc89(x0:Int)(w:WD)(K:KV)(h:Q (K (vi (-1)) w)):Ret 89 #[vi x0] w K:=vcA L9 2 [] func89 h
theorem vc66(m:OA)(w:WD)(K:KV)(h:Q (Wif (isNone m) (K (vi 0) w) (Wp m (Rs w m 95 λx a b=>K (vi (↑a:Int)) w)))):Ret 66 #[pt m] w K:=vcA L7 2 [] func66 h
theorem vc151(t:OA)(w:WD)(K:KV)(h:Q (Wif (isNone t) (K (vi 0) w) (Wp t (Ri w t 0 λx=>K (vi x) w)))):Ret 151 #[pt t] w K:=vcA L7 2 [] func151 h
theorem vc24(m:OA)(frame:Int)(w:WD)(K:KV)(h:Q (AW w #[vu 0,vi 0,vi 0,vi 0,vi 0] 86 λw'=>gIf (isP m) ((!isNone m)=true) (∃(x:OA) (r s:Nat),((!isNone m)=true->rd w' (pb m) (po m+95)=some (.slice x r s))/\Wif (!(!isNone m&&!isNone x)) ((wr w' w.heap.size 0/\wr w' w.heap.size 1/\wr w' w.heap.size 2/\wr w' w.heap.size 3/\wr w' w.heap.size 4)/\St (st (st (st (st w' w.heap.size 0 (vu 0)) w.heap.size 1 (vi 0)) w.heap.size 2 (vi 0)) w.heap.size 3 (vi 0)) w.heap.size 4 (vi 0) λa=>∃(x d h b c:Int),(rd a w.heap.size 0=some (.int .u8 x)/\rd a w.heap.size 1=some (.int .i64 d)/\rd a w.heap.size 2=some (.int .i64 h)/\rd a w.heap.size 3=some (.int .i64 b)/\rd a w.heap.size 4=some (.int .i64 c))/\K (.tuple #[agg #[vu x,vi d,vi h,vi b,vi c],vi 1]) a) (gIf (isP m) (decide (frame<0)=false) (∃(x:OA) (d h:Nat),(decide (frame<0)=false->rd w' (pb m) (po m+95)=some (.slice x d h))/\Wif (decide (frame<0)||decide (frame>=(↑d:Int))) ((wr w' w.heap.size 0/\wr w' w.heap.size 1/\wr w' w.heap.size 2/\wr w' w.heap.size 3/\wr w' w.heap.size 4)/\St (st (st (st (st w' w.heap.size 0 (vu 0)) w.heap.size 1 (vi 0)) w.heap.size 2 (vi 0)) w.heap.size 3 (vi 0)) w.heap.size 4 (vi 0) λa=>∃(x b c f g:Int),(rd a w.heap.size 0=some (.int .u8 x)/\rd a w.heap.size 1=some (.int .i64 b)/\rd a w.heap.size 2=some (.int .i64 c)/\rd a w.heap.size 3=some (.int .i64 f)/\rd a w.heap.size 4=some (.int .i64 g))/\K (.tuple #[agg #[vu x,vi b,vi c,vi f,vi g],vi 7]) a) (Wp m (Rs w' m 95 λx b c=>Wp x (Wn frame b (∃(f g q i j:Int),(rd w' (pb x) (po x+frame.toNat*5)=some (.int .u8 f)/\rd w' (pb x) (po x+frame.toNat*5+1)=some (.int .i64 g)/\rd w' (pb x) (po x+frame.toNat*5+2)=some (.int .i64 q)/\rd w' (pb x) (po x+frame.toNat*5+3)=some (.int .i64 i)/\rd w' (pb x) (po x+frame.toNat*5+4)=some (.int .i64 j))/\(wr w' w.heap.size 0/\wr w' w.heap.size 1/\wr w' w.heap.size 2/\wr w' w.heap.size 3/\wr w' w.heap.size 4)/\St (st (st (st (st w' w.heap.size 0 (vu f)) w.heap.size 1 (vi g)) w.heap.size 2 (vi q)) w.heap.size 3 (vi i)) w.heap.size 4 (vi j) λa=>∃(x k l o p:Int),(rd a w.heap.size 0=some (.int .u8 x)/\rd a w.heap.size 1=some (.int .i64 k)/\rd a w.heap.size 2=some (.int .i64 l)/\rd a w.heap.size 3=some (.int .i64 o)/\rd a w.heap.size 4=some (.int .i64 p))/\K (.tuple #[agg #[vu x,vi k,vi l,vi o,vi p],vi 0]) a))))))))):Ret 24 #[pt m,vi frame] w K:=vcA L9 2 [] func24 h
theorem vc133(s:OA)(sL sC:Nat)(w:WD)(K:KV)(h:Q (Wif (isNone s) (K (sl none 0 0) w) (AW w #[] 3 λw'=>∃(a:OA) (l c:Nat) (b:WD),BL prog #[27,27] 27 (sl (aD w.heap.size) 0 0) (sl s sL sC) (sl a l c) w' b/\K (sl a l c) b))):Ret 133 #[sl s sL sC] w K:=vcA L9 2 [] func133 h
theorem vc136(s:OA)(sL sC:Nat)(w:WD)(K:KV)(h:Q (Wif (isNone s) (K (sl none 0 0) w) (AW w #[] 242 λw'=>∃(a:OA) (l c:Nat) (b:WD),BL prog #[239,239] 239 (sl (aD w.heap.size) 0 0) (sl s sL sC) (sl a l c) w' b/\K (sl a l c) b))):Ret 136 #[sl s sL sC] w K:=vcA L9 2 [] func136 h
theorem vc117(m:OA)(frame:Int)(w:WD)(K:KV)(h:Q (gIf (isP m) (isNone m=false) (∃(x:Option Nat),(isNone m=false->rd w (pb m) (po m+1)=some (.map x))/\Wif (isNone m||isNone x) (K (.tuple #[vi 0,vi 0,bool false]) w) (gIf (isP m) (decide (frame<0)=false) (∃(x:OA) (b g:Nat),(decide (frame<0)=false->rd w (pb m) (po m)=some (.slice x b g))/\Wif (decide (frame<0)||decide (frame>=(↑b:Int))) (K (.tuple #[vi 0,vi 0,bool false]) w) (Wp m (Rs w m 0 λx h k=>Wp x (Wn frame h (∃(c d:Int),(rd w (pb x) (po x+frame.toNat*2)=some (.int .i64 c)/\rd w (pb x) (po x+frame.toNat*2+1)=some (.int .i64 d))/\AW w #[vi 0,vi 0] 308 λw'=>(wr w' w.heap.size 0/\wr w' w.heap.size 1)/\St (st w' w.heap.size 0 (vi c)) w.heap.size 1 (vi d) λf=>Dr f λa=>RI a w.heap.size 0 λx=>RI a w.heap.size 1 λi=>RI a w.heap.size 0 λj=>K (.tuple #[vi x,vi i,bool (j != 0)]) a))))))))):Ret 117 #[pt m,vi frame] w K:=vcA L9 2 [] func117 h
theorem vc140(c:OA)(w:WD)(K:KV)(h:Q (AW w #[pt c] 174 λw'=>K (.func (.func 212) #[] #[AP w.heap.size]) w')):Ret 140 #[pt c] w K:=vcA L9 2 [] func140 h
theorem vc141(s:OA)(slot:Int)(w:WD)(K:KV)(h:Q (Wif (decide (slot<0)) (K (.tuple #[vi 0,vi 0,bool false]) w) (Wif (isNone s) (Wif (decide (slot>=0)) (K (.tuple #[vi 0,vi 0,bool false]) w) (Wp s (Rs w s 0 λx g i=>Wp x (Wn slot g (∃(c h:Int),(rd w (pb x) (po x+slot.toNat*2)=some (.int .i64 c)/\rd w (pb x) (po x+slot.toNat*2+1)=some (.int .i64 h))/\AW w #[vi 0,vi 0] 263 λw'=>(wr w' w.heap.size 0/\wr w' w.heap.size 1)/\St (st w' w.heap.size 0 (vi c)) w.heap.size 1 (vi h) λb=>Dr b λa=>RI a w.heap.size 0 λx=>RI a w.heap.size 1 λd=>RI a w.heap.size 0 λf=>K (.tuple #[vi x,vi d,bool (f != 0)]) a))))) (Wp s (Rs w s 0 λx g i=>Wif (decide (slot>=(↑g:Int))) (K (.tuple #[vi 0,vi 0,bool false]) w) (Wp s (Rs w s 0 λx c h=>Wp x (Wn slot c (∃(d f:Int),(rd w (pb x) (po x+slot.toNat*2)=some (.int .i64 d)/\rd w (pb x) (po x+slot.toNat*2+1)=some (.int .i64 f))/\AW w #[vi 0,vi 0] 263 λw'=>(wr w' w.heap.size 0/\wr w' w.heap.size 1)/\St (st w' w.heap.size 0 (vi d)) w.heap.size 1 (vi f) λb=>Dr b λa=>RI a w.heap.size 0 λx=>RI a w.heap.size 1 λj=>RI a w.heap.size 0 λk=>K (.tuple #[vi x,vi j,bool (k != 0)]) a))))))))):Ret 141 #[pt s,vi slot] w K:=vcA L9 2 [] func141 h
theorem vc142(c:OA)(w:WD)(K:KV)(h:Q (gIf (isP c) (isNone c=false) (∃(x:Option Nat),(isNone c=false->rd w (pb c) (po c+2)=some (.map x))/\Wif (isNone c||isNone x) (K (sl none 0 0) w) (Wp c (∃(x:Option Nat),rd w (pb c) (po c+2)=some (.map x)/\Calls prog 214 #[Value.map x] w λe w'=>∃(v:Value),e=rT v/\CS 139 #[v] w' λa l c w'=>K (sl a l c) w'))))):Ret 142 #[pt c] w K:=vcA L9 2 [] func142 h
theorem vc147(p:OA)(w:WD)(K:KV)(h:Q (Wif (isNone p) (K (sl none 0 0) w) (Dr w λb=>Wp p (Rs b p 2 λx d f=>Wp p (Rs b p 1 λg h i=>AW b #[sl x d f,sl g h i] 239 λw'=>CS 220 #[sl (aD b.heap.size) 2 2] w' λa l c w'=>K (sl a l c) w'))))):Ret 147 #[pt p] w K:=vcA L9 2 [] func147 h
theorem vc150(d:OA)(w:WD)(K:KV)(h:Q (Wif (isNone d) (K (sl none 0 0) w) (Dr w λh=>Wp d (Rs h d 1 λx i j=>Wp d (Rs h d 2 λk o p=>(CS 221 #[sl x i j] h λa l c w'=>Rt w' (pb d) (po d+2) (.slice k o p)<|AW w' #[sl k o p] 239 λb=>∃(f:OA) (g c_1:Nat) (q:WD),BL prog #[51,51] 51 (sl a l c) (sl (aD w'.heap.size) 1 1) (sl f g c_1) b q/\CS 220 #[sl f g c_1] q λa l c w'=>K (sl a l c) w')/\AW h #[sl k o p] 239 λw'=>Rt w' (pb d) (po d+1) (.slice x i j)<|CS 221 #[sl x i j] w' λa l c w'=>∃(f:OA) (g c_1:Nat) (b:WD),BL prog #[51,51] 51 (sl a l c) (sl (aD h.heap.size) 1 1) (sl f g c_1) w' b/\CS 220 #[sl f g c_1] b λa l c w'=>K (sl a l c) w'))))):Ret 150 #[pt d] w K:=vcA L9 2 [] func150 h
theorem vc153(t:OA)(lock:Int)(w:WD)(K:KV)(h:Q (gIf (isP t) (isNone t=false) (∃(x:Bool),(isNone t=false->rd w (pb t) (po t+65)=some (.bool x))/\Wif (isNone t||!x) (K (vi (-1)) w) (gIf (isP t) (decide (lock<0)=false) (∃(x:Int),(decide (lock<0)=false->rd w (pb t) (po t)=some (.int .i64 x))/\Wif (decide (lock<0)||decide (lock>=x)) (K (vi (-1)) w) (Wp t (Wn lock 64 (RI w (pb t) (po t+1+lock.toNat*1) λx=>K (vi (wrap .i64 (x-1))) w)))))))):Ret 153 #[pt t,vi lock] w K:=vcA L9 2 [] func153 h
theorem vc221(s:OA)(sL sC:Nat)(w:WD)(K:KV)(h:Q (Wif (isNone s) (K (sl none 0 0) w) (AW w #[] 239 λw'=>∃(a:OA) (l c:Nat) (b:WD),BL prog #[51,51] 51 (sl (aD w.heap.size) 0 0) (sl s sL sC) (sl a l c) w' b/\K (sl a l c) b))):Ret 221 #[sl s sL sC] w K:=vcA L9 2 [] func221 h
theorem vc220(slices:OA)(slicesL slicesC:Nat)(w:WD)(K:KV)(h:Q (∃(I:Int->Int->WD->Nat->Prop),(∃(n:Nat),I 0 0 w n)/\∀(n b:Int) (w':WD) (g:Nat),I n b w' g->Wif (decide (b<(↑slicesL:Int))) (Wp slices (Wn b slicesL (Rs w' slices (b.toNat*1) λx d h=>Wif (decide (wrap .i64 (n+(↑d:Int))<0)) False (Lt g λm=>I (wrap .i64 (n+(↑d:Int))) (wrap .i64 (b+1)) w' m)))) (CS 265 #[sl none 0 0,vi n] w' λa l c w'=>∃(I:OA->Nat->Nat->Int->WD->Nat->Prop),(∃(n:Nat),I a l c 0 w' n)/\∀(a:OA) (l c:Nat) (n:Int) (w':WD) (i:Nat),I a l c n w' i->Wif (decide (n<(↑slicesL:Int))) (Wp slices (Wn n slicesL (Rs w' slices (n.toNat*1) λx d h=>∃(j:OA) (k c_1:Nat) (f:WD),BL prog #[239,239] 239 (sl a l c) (sl x d h) (sl j k c_1) w' f/\Lt i λm=>I j k c_1 (wrap .i64 (n+1)) f m))) (K (sl a l c) w')))):Ret 220 #[sl slices slicesL slicesC] w K:=vcA L9 2 [] func220 h
theorem vc130(z:OA)(w:WD)(K:KV)(h:Q (AW w #[pt z] 38 λw'=>K (.func (.func 203) #[] #[AP w.heap.size]) w')):Ret 130 #[pt z] w K:=vcA L7 2 [] func130 h
theorem vc128(i:Int)(c:OA)(w:WD)(K:KV)(h:Q (AW w #[vu 0,vi 0,vi 0,vi 0,vi 0] 86 λw'=>Wp c (Rp w' c 0 λx=>Wp x (Rp w' x 94 λt=>Calls prog 24 #[pt t,vi i] w' λe w'=>∃(n d f g h u:Int),e=rT (.tuple #[agg #[vu n,vi d,vi f,vi g,vi h],vi u])/\AW w' #[vu 0,vi 0,vi 0,vi 0,vi 0] 86 λb=>(wr b w'.heap.size 0/\wr b w'.heap.size 1/\wr b w'.heap.size 2/\wr b w'.heap.size 3/\wr b w'.heap.size 4)/\St (st (st (st (st b w'.heap.size 0 (vu n)) w'.heap.size 1 (vi d)) w'.heap.size 2 (vi f)) w'.heap.size 3 (vi g)) w'.heap.size 4 (vi h) λa=>∃(x j k l o:Int),(rd a w'.heap.size 0=some (.int .u8 x)/\rd a w'.heap.size 1=some (.int .i64 j)/\rd a w'.heap.size 2=some (.int .i64 k)/\rd a w'.heap.size 3=some (.int .i64 l)/\rd a w'.heap.size 4=some (.int .i64 o))/\(wr a w.heap.size 0/\wr a w.heap.size 1/\wr a w.heap.size 2/\wr a w.heap.size 3/\wr a w.heap.size 4)/\St (st (st (st (st a w.heap.size 0 (vu x)) w.heap.size 1 (vi j)) w.heap.size 2 (vi k)) w.heap.size 3 (vi l)) w.heap.size 4 (vi o) λw'=>∃(x p q r s:Int),(rd w' w.heap.size 0=some (.int .u8 x)/\rd w' w.heap.size 1=some (.int .i64 p)/\rd w' w.heap.size 2=some (.int .i64 q)/\rd w' w.heap.size 3=some (.int .i64 r)/\rd w' w.heap.size 4=some (.int .i64 s))/\K (.agg #[vu x,vi p,vi q,vi r,vi s]) w')))):Ret 128 #[vi i,pt c] w K:=vcA L7 2 [] func128 h
theorem vc132(i:Int)(b:OA)(w:WD)(K:KV)(h:Q (Wp b (Rp w b 0 λx=>Wp x (Rs w x 114 λd f j=>Wp d (Wn i f (Rs w d (i.toNat*1) λx g h=>CS 133 #[sl x g h] w λa l c w'=>K (sl a l c) w')))))):Ret 132 #[vi i,pt b] w K:=vcA L7 2 [] func132 h
theorem vc135(i:Int)(b:OA)(w:WD)(K:KV)(h:Q (Wp b (Rp w b 0 λx=>Wp x (Rs w x 115 λd f j=>Wp d (Wn i f (Rs w d (i.toNat*1) λx g h=>CS 136 #[sl x g h] w λa l c w'=>K (sl a l c) w')))))):Ret 135 #[vi i,pt b] w K:=vcA L7 2 [] func135 h
theorem vc138(i:Int)(b:OA)(w:WD)(K:KV)(h:Q (Wp b (Rp w b 0 λx=>Wp x (Rs w x 100 λd f g=>Wp d (Wn i f (Rp w d (i.toNat*1) λx=>Calls prog 140 #[pt x] w λe w'=>∃(v:Value),e=rT v/\CS 139 #[v] w' λa l c w'=>K (sl a l c) w')))))):Ret 138 #[vi i,pt b] w K:=vcA L7 2 [] func138 h
theorem vc145(i:Int)(b:OA)(w:WD)(K:KV)(h:Q (AW w #[vi i] 3 λw'=>CS 134 #[vi 8,func (.func 146) #[] #[pt b,AP w.heap.size]] w' λa l c w'=>K (sl a l c) w')):Ret 145 #[vi i,pt b] w K:=vcA L7 2 [] func145 h
theorem vc148(i:Int)(b:OA)(w:WD)(K:KV)(h:Q (AW w #[vi i] 3 λw'=>CS 134 #[vi 8,func (.func 149) #[] #[pt b,AP w.heap.size]] w' λa l c w'=>K (sl a l c) w')):Ret 148 #[vi i,pt b] w K:=vcA L7 2 [] func148 h
theorem vc152(i:Int)(a:OA)(w:WD)(K:KV)(h:Q (Wp a (Rp w a 0 λx=>Wp x (Rp w x 97 λb=>CI 153 #[pt b,vi i] w λn w'=>K (vi n) w')))):Ret 152 #[vi i,pt a] w K:=vcA L7 2 [] func152 h
theorem vc146(c:Int)(b d:OA)(w:WD)(K:KV)(h:Q (Dr w λf=>Wp b (Rp f b 0 λx=>Wp x (Rs f x 103 λg j p=>Wp d (Ri f d 0 λi=>Wp g (Wn i j (Rs f g (i.toNat*1) λh k q=>Wp h (Wn c k (Rp f h (c.toNat*1) λo=>CS 147 #[pt o] f λa l c w'=>Rt w' (pb b) (po b) (.pointer x)<|K (sl a l c) w'))))))))):Ret 146 #[vi c,pt b,pt d] w K:=vcA L7 2 [] func146 h
theorem vc149(c:Int)(b d:OA)(w:WD)(K:KV)(h:Q (Dr w λf=>Wp b (Rp f b 0 λx=>Wp x (Rs f x 102 λg j p=>Wp d (Ri f d 0 λi=>Wp g (Wn i j (Rs f g (i.toNat*1) λh k q=>Wp h (Wn c k (Rp f h (c.toNat*1) λo=>CS 150 #[pt o] f λa l c w'=>Rt w' (pb b) (po b) (.pointer x)<|K (sl a l c) w'))))))))):Ret 149 #[vi c,pt b,pt d] w K:=vcA L7 2 [] func149 h
def BV(w:WD)(base:Nat)(a:OA)(l c:Nat)(xs:List Int):Prop:=l=xs.length/\w.ownsRow base 3 1 (.slice a l c) l (xs.map vi)
theorem BV.MG{w:WD}:BV w base none 0 0 []:=⟨rfl,World.ownsRow_nil _ _ _ _⟩
theorem BV.kx{w:WD}(h:BV w base a l c xs)(k:AB X w w')(hx:∀x,X x->(slice a l c).ownBlock=some x->False):BV w' base a l c xs:=⟨h.1,BA h.2 k λb _ _ e hb=>hx b hb e⟩
theorem BV.k{w:WD}(h:BV w base a l c xs)(k:AB AD w w'):BV w' base a l c xs:=h.kx k λ_ e=>e.elim
theorem BV.lt{w:WD}(h:BV w base a l c xs)(hx:(slice a l c).ownBlock=some x):base<=x/\x<w.heap.size:=h.2.lt x hx
theorem BV.B7o{w:WD}{base':Nat}(h:BV w base a l c xs)(hb:base'<=base):BV w base' a l c xs:=by
 refine⟨h.1,h.2.1,?_⟩;rcases h.2.2 with h|⟨g,cap,cur,hv,hg,rest⟩
 .exact .inl h
 .exact .inr ⟨g,cap,cur,hv,by omega,rest⟩
structure DT(w:WD)(a:OA)(l c:Nat)(xs:List Int):Prop where
 len:l=xs.length
 ex:(a=none/\l=0/\c=0)\/∃(g o:Nat) (cs:Array Value),a=some ⟨g,o,none⟩/\w.heap[g]? = some (.cells cs 3 (0,0))/\l<=c/\c<=maxLen/\o+c<=cs.size/\∀i x,xs[i]? = some x->cs[o+i]? = some (vi x)
theorem DT.MG{w:WD}:DT w none 0 0 []:=⟨rfl,.inl ⟨rfl,rfl,rfl⟩⟩
theorem DT.kx{w:WD}(h:DT w a l c xs)(k:AB X w w')(hx:∀x,X x->(slice a l c).ownBlock=some x->False):DT w' a l c xs:=by
 refine⟨h.len,?_⟩;rcases h.ex with h1|⟨g,o,cs,rfl,h2,h3⟩
 .exact .inl h1
 .exact .inr ⟨g,o,cs,rfl,(k.blk g (FK.1 h2).1 λe=>hx g e rfl).trans h2,h3⟩
theorem DT.k{w:WD}(h:DT w a l c xs)(k:AB AD w w'):DT w' a l c xs:=h.kx k λ_ e=>e.elim
theorem DT.lt{w:WD}(h:DT w a l c xs)(hx:(slice a l c).ownBlock=some x):x<w.heap.size:=by
 rcases h.ex with⟨rfl,_⟩|⟨g,o,cs,rfl,h2,h3⟩
 .cases hx
 .have:g=x:=by simpa [Value.ownBlock] using hx
  subst this;exact(FK.1 h2).1
theorem BV.o{w:WD}(h:BV w base a l c xs):DT w a l c xs:=by
 obtain⟨rfl,h⟩:=h;refine⟨rfl,?_⟩;rcases h.2 with⟨h0,h1⟩|⟨g,cap,cur,hv,hb,hgg,hnc,hm,hsz,htk⟩
 .simp only [Value.slice.injEq] at h0;obtain⟨rfl,_,rfl⟩:=h0;exact .inl ⟨rfl,h1,rfl⟩
 .cases hv
  refine .inr ⟨g,0,cur,rfl,hgg,hnc,hm,by omega,λi x hx=>?_⟩;have hi:=(DC.1 hx).1;have h1:(cur.toList.take (xs.length*1))[i]? = (xs.map vi)[i]? := by rw [htk]
  rw [List.getElem?_take_of_lt (by omega),gmp,hx,Array.getElem?_toList] at h1;rw [za];exact h1
theorem DT.at'{w:WD}(h:DT w a l c xs)(hl:0<xs.length):∃g o,a=some ⟨g,o,none⟩/\∀i x,xs[i]? = some x->rd w g (o+i)=some (vi x):=by
 rcases h.ex with⟨_,h0,_⟩|⟨g,o,cs,rfl,h2,h3,h4,h5,h6⟩
 .have:=h.len;omega
 .exact⟨g,o,rfl,λi x hx=>by rw [FG,h2];exact h6 i x hx⟩
theorem DT.src{w:WD}(h:DT w a l c xs):Eng.Src w a l c (xs.map vi):=by
 refine⟨λe=>?_,λhl=>?_⟩
 .rcases h.ex with⟨_,h0,h1⟩|⟨g,o,cs,rfl,_⟩
  .exact⟨h0,h1⟩
  .cases e
 .obtain⟨g,o,e,hr⟩:=h.at' (by simpa using hl);refine⟨g,o,e,λj u hj=>?_⟩;rw [gmp] at hj
  cases hx:xs[j]? with
  | none=>rw [hx] at hj;cases hj
  | some x=>rw [hx] at hj;cases hj;exact hr j x hx
theorem DT.rd{w:WD}(h:DT w a l c xs){x:Int}(hx:xs[i]? = some x):isP a=true/\Eng.rd w (pb a) (po a+Int.toNat (i:Int)*1)=some (vi x):=by
 have hl:=(DC.1 hx).1;obtain⟨g,o,rfl,hr⟩:=h.at' (by omega);exact⟨rfl,by rw [tnc,mo];exact hr i x hx⟩
theorem DT.tail{w:WD}{x:Int}(h:DT w a l c (x::xs)):DT w (BS a c 1 1) (l-1) (c-1) xs:=by
 have hl:=h.len;rw [List.length_cons] at hl;refine⟨by omega,?_⟩;rcases h.ex with⟨_,h0,_⟩|⟨g,o,cs,rfl,h2,h3,h4,h5,h6⟩
 .omega
 .by_cases e:c=1
  .refine .inr ⟨g,o,cs,by unfold BS;rw [if_pos e],h2,by omega,by omega,by omega,λi y hy=>?_⟩;have:=(DC.1 hy).1;omega
  .refine .inr ⟨g,o+1,cs,?_,h2,by omega,by omega,by omega,λi y hy=>?_⟩
   .unfold BS;rw [if_neg e]
    show some (Addr.add ⟨g,o,none⟩ 1)=_
    rw [Addr.add_lit]
   .rw [show o+1+i=o+(i+1) by omega];exact h6 (i+1) y (by simpa using hy)
abbrev IM:=Value->(NP)->WD->Prop
structure Stb(A:IM):Prop where
 kx:∀u H w w' X,A u H w->AB X w w'->(∀x,X x->H x->False)->A u H w'
 lt:∀u H w,A u H w->∀x,H x->x<w.heap.size
structure BM(A:Nat->IM)(n:Nat)(v:Value)(G:NP)(w:WD):Prop where
 ex:∃(g cp:Nat) (cs:List Value) (u:Nat->Value) (H:Nat->Nat->Prop),v=.slice (some ⟨g,0,none⟩) n cp/\AX w g cs/\(∀j,j<n->cs[j]? = some (u j))/\G g/\(∀j,j<n->A j (u j) (H j) w)/\
  (∀j,j<n->∀x,H j x->G x/\x≠g)/\∀i j,i<n->j<n->i≠j->∀x,H i x->¬H j x
 lt:∀x,G x->x<w.heap.size
theorem BM.stb{A:Nat->IM}{n:Nat}(hA:∀j,j<n->Stb (A j)):Stb (BM A n) where
 kx v G w w' X h k hx:=by
  obtain⟨g,cp,cs,u,H,h1,h2,h3,h4,h5,h6,h7⟩:=h.ex;exact⟨⟨g,cp,cs,u,H,h1,h2.kx k λe=>hx _ e h4,h3,h4,λj hj=>(hA j hj).kx _ _ _ _ _ (h5 j hj) k λx e hh=>hx x e (h6 j hj x hh).1,h6,h7⟩,λx hg=>nll (h.lt x hg) k.sz⟩
 lt v G w h:=h.lt
theorem BM.any{A:Nat->IM}{n:Nat}{v:Value}{w:WD}(hA:∀j,j<n->Stb (A j))(h:BM A n v G w)(hi:i<n) :
 ∃(g cp:Nat) (u:Value) (H:NP),v=.slice (some ⟨g,0,none⟩) n cp/\rd w g i=some u/\A i u H w/\(∀x,H x->G x/\x≠g)/\
  ∀B:Nat->IM,(∀j,j≠i->B j=A j)->∀w',AB H w w'->B i u (λx=>H x\/rng w w' x) w'->BM B n v (λx=>G x\/rng w w' x) w':=by
 obtain⟨g,cp,cs,u,H,h1,h2,h3,h4,h5,h6,h7⟩:=h.ex;refine⟨g,cp,u i,H i,h1,by rw [h2.rd];exact h3 i hi,h5 i hi,h6 i hi,λB hB w' k hb=>⟨⟨g,cp,cs,u,upd H i (λx=>H i x\/rng w w' x),h1,h2.kx k λe=>(h6 i hi _ e).2 rfl,h3,.inl h4,λj hj=>?_,λj hj x hx=>?_,λa b ha hb' hab x hx=>?_⟩,λx hx=>?_⟩⟩
 .by_cases e:j=i
  .subst e;rw [AF];exact hb
  .rw [AI _ _ e,hB j e];exact(hA j hj).kx _ _ _ _ _ (h5 j hj) k λx e1 e2=>h7 i j hi hj (Ne.symm e) x e1 e2
 .have hg:=h.lt g h4;by_cases e:j=i
  .subst e;rw [AF] at hx;rcases hx with hx|hx
   .exact⟨.inl (h6 j hj x hx).1,(h6 j hj x hx).2⟩
   .exact⟨.inr hx,by have:=hx.1;omega⟩
  .rw [AI _ _ e] at hx;exact⟨.inl (h6 j hj x hx).1,(h6 j hj x hx).2⟩
 .by_cases e:a=i
  .subst e;rw [AF] at hx;rw [AI _ _ (Ne.symm hab)];intro hx2;rcases hx with hx|hx
   .exact h7 a b ha hb' hab x hx hx2
   .have:=h.lt x (h6 b hb' x hx2).1;have:=hx.1;omega
  .rw [AI _ _ e] at hx;by_cases e2:b=i
   .subst e2;rw [AF];rintro (hx2|hx2)
    .exact h7 a b ha hb' hab x hx hx2
    .have:=h.lt x (h6 a ha x hx).1;have:=hx2.1;omega
   .rw [AI _ _ e2];exact h7 a b ha hb' hab x hx
 .rcases hx with hx|hx
  .exact nll (h.lt x hx) k.sz
  .exact hx.2
theorem BM.one{A B:Nat->IM}{n:Nat}{v:Value}{w:WD}(hA:∀j,j<n->Stb (A j))(h:BM A n v G w)(hi:i<n)(hB:∀j,j≠i->B j=A j) :
 ∃(g cp:Nat) (u:Value) (H:NP),v=.slice (some ⟨g,0,none⟩) n cp/\rd w g i=some u/\A i u H w/\(∀x,H x->G x/\x≠g)/\
  ∀w',AB H w w'->B i u (λx=>H x\/rng w w' x) w'->BM B n v (λx=>G x\/rng w w' x) w':=by
 obtain⟨g,cp,u,H,a,b,c,d,e⟩:=h.any hA hi;exact⟨g,cp,u,H,a,b,c,d,e B hB⟩
def C3k(A:Nat->IM)(F:NP)(i:Nat)(vs:List Value)(w:WD):Prop:=
 ∃(u:Nat->Value) (H:Nat->Nat->Prop),vs=(range i).map u/\(∀j,j<i->A j (u j) (H j) w)/\(∀j,j<i->∀x,H j x->F x)/\∀a b,a<i->b<i->a≠b->∀x,H a x->¬H b x
theorem CU{A:Nat->IM}{n:Nat}(hA:∀j,j<n->Stb (A j)){R:Ending->List Value->Prop}{mk:Value}
 (hc:∀i w,i<n->AB AD w0 w->AN prog mk [.int .i64 i] w λe w'=>∃(u:Value) (H:NP),R e [u]/\u.oneCell'=true/\AB AD w w'/\A i u H w'/\∀x,H x->w.heap.size<=x) :
 HW prog mk n 1 w0 R (λF i vs w=>i<=n/\C3k A F i vs w) where
 st F i vs w w' X h k hx:=by
  obtain⟨hi,u,H,h1,h2,h3,h4⟩:=h;exact⟨hi,u,H,h1,λj hj=>(hA j (by omega)).kx _ _ _ _ _ (h2 j hj) k λx e hh=>hx x e (h3 j hj x hh),h3,h4⟩
 run F i vs w hi h k hF:=by
  obtain⟨_,u,H,rfl,h2,h3,h4⟩:=h;refine AT (hc i w hi k) ?_;rintro e w' ⟨y,K,hR,h1,k1,hA1,hK⟩;refine⟨[y],hR,rfl,λz hz=>by simp at hz;subst hz;exact h1,k1,hi,upd u i y,upd H i K,?_,λj hj=>?_,λj hj x hx=>?_,λa b ha hb hab x hx=>?_⟩
  .rw [List.range_succ,F6];congr 1
   .refine List.map_congr_left λj hj=>?_;rw [AI _ _ (by have:=List.mem_range.1 hj;omega)]
   .simp
  .by_cases e:j=i
   .subst e;rw [AF,AF];exact hA1
   .rw [AI _ _ e,AI _ _ e];exact(hA j (by omega)).kx _ _ _ _ _ (h2 j (by omega)) k1 λx e1 _=>e1.elim
  .by_cases e:j=i
   .subst e;rw [AF] at hx;exact .inr ⟨hK x hx,(hA j hi).lt _ _ _ hA1 x hx⟩
   .rw [AI _ _ e] at hx;exact .inl (h3 j (by omega) x hx)
  .by_cases e:a=i
   .subst e;rw [AF] at hx;rw [AI _ _ (Ne.symm hab)];intro hx2;have:=(hF x (h3 b (by omega) x hx2)).2;have:=hK x hx;omega
   .rw [AI _ _ e] at hx;by_cases e2:b=i
    .subst e2;rw [AF];intro hx2;have:=(hF x (h3 a (by omega) x hx)).2;have:=hK x hx2;omega
    .rw [AI _ _ e2];exact h4 a b (by omega) (by omega) hab x hx
theorem C0u{A:Nat->IM}{T n:Nat}(hA:∀j,j<n->Stb (A j))(hn:0<n){F:NP}{vs:List Value}(row:w'.ownsRow w0.heap.size T 1 (.slice a n c) n vs)(hj:n<=n/\C3k A F n vs w')
 (hF:∀x,F x->w0.heap.size<=x/\x<w'.heap.size) (hg:∀g,(slice a n c).ownBlock=some g->¬F g):BM A n (.slice a n c) (rng w0 w') w':=by
 obtain⟨_,u,H,rfl,h2,h3,h4⟩:=hj;obtain⟨_,hh⟩:=CN row;rcases hh with⟨_,h0,_⟩|⟨g,cs,rfl,hgb,og,htk,_,_⟩
 .omega
 refine⟨⟨g,c,cs,u,H,rfl,og,λj hj=>?_,⟨hgb,og.lt⟩,h2,λj hj x hx=>⟨hF x (h3 j hj x hx),λe=>hg g rfl (by rw [<- e];exact h3 j hj x hx)⟩,h4⟩,λx hx=>hx.2⟩;have:(cs.take (n*1))[j]? = some (u j):=by rw [htk];simp [hj]
 rw [List.getElem?_take] at this;split at this
 .exact this
 .cases this
structure BE(ring:List Int)(of:List (Int×Value))(v:Value)(H:NP)(w:WD):Prop where
 ex:∃(b:Nat) (a:OA) (l cp m:Nat),v=AP b/\AX w b [.slice a l cp,.map (some m)]/\DT w a l cp ring/\BJ w m of/\H b/\H m/\∀x,(slice a l cp).ownBlock=some x->H x/\x≠b
 lt:∀x,H x->x<w.heap.size
theorem BE.stb{ring:List Int}{of:List (Int×Value)}:Stb (BE ring of) where
 kx v H w w' X h k hx:=by
  obtain⟨b,a,l,cp,m,h0,h1,h2,h3,h4,h5,h6⟩:=h.ex;exact⟨⟨b,a,l,cp,m,h0,h1.kx k λe=>hx _ e h4,h2.kx k λx e ho=>hx x e (h6 x ho).1,h3.kx k λe=>hx _ e h5,h4,h5,h6⟩,λx hh=>nll (h.lt x hh) k.sz⟩
 lt v H w h:=h.lt
structure CE(size:Int)(v:Value)(H:NP)(w:WD):Prop where
 ex:∃(b m:Nat),v=AP b/\AX w b [vi size,vi 0,.map (some m)]/\BJ w m []/\H b/\H m
 lt:∀x,H x->x<w.heap.size
theorem CE.stb{size:Int}:Stb (CE size) where
 kx v H w w' X h k hx:=by
  obtain⟨b,m,h0,h1,h2,h3,h4⟩:=h.ex;exact⟨⟨b,m,h0,h1.kx k λe=>hx _ e h3,h2.kx k λe=>hx _ e h4,h3,h4⟩,λx hh=>nll (h.lt x hh) k.sz⟩
 lt v H w h:=h.lt
structure E8(v:Value)(H:NP)(w:WD):Prop where
 ex:∃b,v=AP b/\AX w b [vi 4,.slice none 0 0,.slice none 0 0]/\H b
 lt:∀x,H x->x<w.heap.size
theorem E8.stb:Stb E8 where
 kx v H w w' X h k hx:=by
  obtain⟨b,h0,h1,h2⟩:=h.ex;exact⟨⟨b,h0,h1.kx k λe=>hx _ e h2,h2⟩,λx hh=>nll (h.lt x hh) k.sz⟩
 lt v H w h:=h.lt
structure EL(xs:List Int)(v:Value)(H:NP)(w:WD):Prop where
 ex:∃(a:OA) (l c:Nat),v=.slice a l c/\BV w 0 a l c xs/\∀x,(slice a l c).ownBlock=some x->H x
 lt:∀x,H x->x<w.heap.size
theorem EL.stb:Stb (EL xs) where
 kx v H w w' X h k hx:=by
  obtain⟨a,l,c,h0,h1,h2⟩:=h.ex;exact⟨⟨a,l,c,h0,h1.kx k λx e ho=>hx x e (h2 x ho),h2⟩,λx hh=>nll (h.lt x hh) k.sz⟩
 lt v H w h:=h.lt
def B7i(v:Value)(H:NP)(w:WD):Prop:=v=.slice none 0 0/\∀x,H x->x<w.heap.size
theorem B7i.stb:Stb B7i where
 kx v H w w' X h k hx:=⟨h.1,λx hh=>nll (h.2 x hh) k.sz⟩
 lt v H w h:=h.2
