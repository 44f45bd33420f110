/- Part of a proof that a law returns true. Conditions: those in each theorem. -/
import Derived.Test.YtdgbechegbmpcaaGreatDoorX5
set_option linter.unusedSimpArgs false
set_option linter.unusedVariables false
set_option maxRecDepth 100000
namespace Go.Proofs.YtdgbechegbmpcaaGreatDoor
open Go Go.Eng Go.Proofs.Tryz
open Go.Value (bool func slice agg int)
open Option (isNone)
open Go.IntKind (wrap)
open List (replicate range)
theorem JX{k:FuncId}{A:Nat->IM}{T n:Nat}{w:WD}{mk:Value}(hA:∀j,j<n->Stb (A j))(hn:0<n)
 (h:Calls prog k #[.int .i64 n,mk] w λe w'=>∃(a:OA) (c:Nat) (F:NP) (vs:List Value),e=.returned (.slice a n c)/\AB AD w w'/\w'.ownsRow w.heap.size T 1 (.slice a n c) n vs/\(n<=n/\C3k A F n vs w')/\
  (∀x,F x->w.heap.size<=x/\x<w'.heap.size)/\∀g,(slice a n c).ownBlock=some g->¬F g) :
 Calls prog k #[.int .i64 n,mk] w λe w'=>∃(a:OA) (c:Nat),e=.returned (.slice a n c)/\AB AD w w'/\BM A n (.slice a n c) (rng w w') w':=by
 refine h.AE ?_;rintro e w' ⟨a,c,F,vs,rfl,k,row,hj,hF,hg⟩;exact⟨a,c,rfl,k,C0u hA hn row hj hF hg⟩
theorem HI{A:Nat->IM}{n:Nat}{w:WD}:0<=n/\C3k A (λ_=>False) 0 [] w:=⟨Nat.zero_le _,λ_=>.bool false,λ_ _=>False,rfl,λj hj=>absurd hj (nlz _),λj hj=>absurd hj (nlz _),λa b ha=>absurd ha (nlz _)⟩
theorem A9b{n:Nat}(hn:0<n/\n<=16)(w:WD):Calls prog 68 #[.int .i64 n,.func (.func 69) #[] #[]] w λe w'=>∃(a:OA) (c:Nat),e=.returned (.slice a n c)/\AB AD w w'/\BM (λ_=>BE [] []) n (.slice a n c) (rng w w') w':=by
 refine JX (T:=174) (λ_ _=>BE.stb) hn.1 (C4i (by omega) (CU (λ_ _=>BE.stb) λi w1 hi k1=>AN.mk _ #[] #[] rfl (by kernel_rfl) ?_) HI);refine(vc69 i w1 (λv w'=>∃(b:Nat) (H:NP),v=AP b/\AB AD w1 w'/\BE [] [] (AP b) H w'/\∀x,H x->w1.heap.size<=x) ?_).AE ?_
 .unfold Q;refine(vc70 w1 (λv w'=>∃(b:Nat) (H:NP),v=AP b/\AB AD w1 w'/\BE [] [] (AP b) H w'/\∀x,H x->w1.heap.size<=x) ?_).AE ?_
  .unfold vcP70;intro w2 e2 w3 e3;have k2:AB AD w1 w2:=e2▸kr.allocMap #[] 0;have k3:=kal e3;have o3:=AG (c:=[.slice none 0 0,.map (some w1.heap.size)]) e3;have m3:=(JL e2).k k3;have:=k2.sz;exact⟨_,λx=>x=w2.heap.size\/x=w1.heap.size,rfl,k2.tr k3,⟨⟨_,none,0,0,_,rfl,o3,DT.MG,m3,.inl rfl,.inr rfl,λx hx=>by simp [Value.ownBlock] at hx⟩,λx hx=>hx.elim (λe=>e▸o3.lt) λe=>e▸m3.lt⟩,λx hx=>by omega⟩
  .rintro e w' ⟨v,rfl,b,H,rfl,h⟩;exact⟨_,rfl,b,H,rfl,h⟩
 .rintro e w' ⟨v,rfl,b,H,rfl,hk,hc,hx⟩;exact⟨AP b,H,⟨_,rfl,rfl⟩,rfl,hk,hc,hx⟩
theorem B3j{w:WD}(hz:F7 w):Calls prog 73 #[.int .i64 (8:Nat),.func (.func 74) #[] #[]] w λe w'=>∃(a:OA) (c:Nat),e=.returned (.slice a 8 c)/\AB AD w w'/\BM (λi=>CE (sz i)) 8 (.slice a 8 c) (rng w w') w':=by
 refine JX (T:=180) (λ_ _=>CE.stb) (by decide) (C4g (by omega) (CU (λ_ _=>CE.stb) λi w1 hi k1=>AN.mk _ #[] #[] rfl (by kernel_rfl) ?_) HI);refine(vc74 i w1 (λv w'=>∃(b:Nat) (H:NP),v=AP b/\AB AD w1 w'/\CE (sz i) (AP b) H w'/\∀x,H x->w1.heap.size<=x) ?_).AE ?_
 .unfold Q;refine Wi ⟨sz i,by rw [tnc,mo,za];exact hz.k k1 i hi,(A9f (C37 hi) w1).AE ?_⟩;rintro _ w2 ⟨C,m,rfl,k2,o2,m2,hC,hm⟩;exact⟨_,_,rfl,_,λx=>x=C\/x=m,rfl,k2,⟨⟨C,m,rfl,o2,m2,.inl rfl,.inr rfl⟩,λx hx=>hx.elim (λe=>e▸o2.lt) λe=>e▸m2.lt⟩,λx hx=>by rcases hx with rfl|rfl <;> omega⟩
 .rintro e w' ⟨v,rfl,b,H,rfl,hk,hc,hx⟩;exact⟨AP b,H,⟨_,rfl,rfl⟩,rfl,hk,hc,hx⟩
theorem A9g{n:Nat}(hn:0<n/\n<=16){w:WD}(hz:F7 w):Calls prog 71 #[.int .i64 n,.func (.func 72) #[] #[]] w λe w'=>∃(a:OA) (c:Nat),e=.returned (.slice a n c)/\AB AD w w'/\BM (λ_=>BM (λi=>CE (sz i)) 8) n (.slice a n c) (rng w w') w':=by
 refine JX (T:=178) (λ_ _=>BM.stb λ_ _=>CE.stb) hn.1 (C4h (by omega) (CU (λ_ _=>BM.stb λ_ _=>CE.stb) λi w1 hi k1=>AN.mk _ #[] #[] rfl (by kernel_rfl) ?_) HI);refine(vc72 i w1 (λv w'=>∃(a:OA) (c:Nat),v=.slice a 8 c/\AB AD w1 w'/\BM (λi=>CE (sz i)) 8 (.slice a 8 c) (rng w1 w') w') ?_).AE ?_
 .unfold Q;refine(B3j (hz.k k1)).AE ?_;rintro _ w2 ⟨a,c,rfl,h⟩;exact⟨a,8,c,rfl,a,c,rfl,h⟩
 .rintro e w' ⟨v,rfl,a,c,rfl,hk,hr⟩;exact⟨_,rng w1 w',⟨a,8,c,rfl,rfl⟩,rfl,hk,hr,λx hx=>hx.1⟩
theorem B21{w:WD}:Calls prog 78 #[.int .i64 (8:Nat),.func (.func 79) #[] #[]] w λe w'=>∃(a:OA) (c:Nat),e=.returned (.slice a 8 c)/\AB AD w w'/\BM (λ_=>E8) 8 (.slice a 8 c) (rng w w') w':=by
 refine JX (T:=188) (λ_ _=>E8.stb) (by decide) (C4e (by omega) (CU (λ_ _=>E8.stb) λi w1 hi k1=>AN.mk _ #[] #[] rfl (by kernel_rfl) ?_) HI);refine(vc79 i w1 (λv w'=>∃(b:Nat) (H:NP),v=AP b/\AB AD w1 w'/\E8 (AP b) H w'/\∀x,H x->w1.heap.size<=x) ?_).AE ?_
 .unfold Q;refine(vc80 4 w1 (λv w'=>∃(b:Nat) (H:NP),v=AP b/\AB AD w1 w'/\E8 (AP b) H w'/\∀x,H x->w1.heap.size<=x) ?_).AE ?_
  .unfold Q;intro w2 e2;have o2:=AG (c:=[vi 4,.slice none 0 0,.slice none 0 0]) e2;exact⟨_,λx=>x=w1.heap.size,rfl,kr.al e2,⟨⟨_,rfl,o2,rfl⟩,λx hx=>hx▸o2.lt⟩,λx hx=>Nat.le_of_eq hx.symm⟩
  .rintro e w' ⟨v,rfl,b,H,rfl,h⟩;exact⟨_,rfl,b,H,rfl,h⟩
 .rintro e w' ⟨v,rfl,b,H,rfl,hk,hc,hx⟩;exact⟨AP b,H,⟨_,rfl,rfl⟩,rfl,hk,hc,hx⟩
theorem A80{n:Nat}(hn:0<n/\n<=16){w:WD}:Calls prog 76 #[.int .i64 n,.func (.func 77) #[] #[]] w λe w'=>∃(a:OA) (c:Nat),e=.returned (.slice a n c)/\AB AD w w'/\BM (λ_=>BM (λ_=>E8) 8) n (.slice a n c) (rng w w') w':=by
 refine JX (T:=186) (λ_ _=>BM.stb λ_ _=>E8.stb) hn.1 (C4f (by omega) (CU (λ_ _=>BM.stb λ_ _=>E8.stb) λi w1 hi k1=>AN.mk _ #[] #[] rfl (by kernel_rfl) ?_) HI);refine(vc77 i w1 (λv w'=>∃(a:OA) (c:Nat),v=.slice a 8 c/\AB AD w1 w'/\BM (λ_=>E8) 8 (.slice a 8 c) (rng w1 w') w') ?_).AE ?_
 .unfold Q;refine B21.AE ?_;rintro _ w2 ⟨a,c,rfl,h⟩;exact⟨a,8,c,rfl,a,c,rfl,h⟩
 .rintro e w' ⟨v,rfl,a,c,rfl,hk,hr⟩;exact⟨_,rng w1 w',⟨a,8,c,rfl,rfl⟩,rfl,hk,hr,λx hx=>hx.1⟩
theorem B8p{w:WD}:Calls prog 83 #[.int .i64 (8:Nat),.func (.func 84) #[] #[]] w λe w'=>∃(a:OA) (c:Nat),e=.returned (.slice a 8 c)/\AB AD w w'/\BM (λ_=>E8) 8 (.slice a 8 c) (rng w w') w':=by
 refine JX (T:=194) (λ_ _=>E8.stb) (by decide) (C4c (by omega) (CU (λ_ _=>E8.stb) λi w1 hi k1=>AN.mk _ #[] #[] rfl (by kernel_rfl) ?_) HI);refine(vc84 i w1 (λv w'=>∃(b:Nat) (H:NP),v=AP b/\AB AD w1 w'/\E8 (AP b) H w'/\∀x,H x->w1.heap.size<=x) ?_).AE ?_
 .unfold Q;refine(vc85 4 w1 (λv w'=>∃(b:Nat) (H:NP),v=AP b/\AB AD w1 w'/\E8 (AP b) H w'/\∀x,H x->w1.heap.size<=x) ?_).AE ?_
  .unfold Q;intro w2 e2;have o2:=AG (c:=[vi 4,.slice none 0 0,.slice none 0 0]) e2;exact⟨_,λx=>x=w1.heap.size,rfl,kr.al e2,⟨⟨_,rfl,o2,rfl⟩,λx hx=>hx▸o2.lt⟩,λx hx=>Nat.le_of_eq hx.symm⟩
  .rintro e w' ⟨v,rfl,b,H,rfl,h⟩;exact⟨_,rfl,b,H,rfl,h⟩
 .rintro e w' ⟨v,rfl,b,H,rfl,hk,hc,hx⟩;exact⟨AP b,H,⟨_,rfl,rfl⟩,rfl,hk,hc,hx⟩
theorem B49{n:Nat}(hn:0<n/\n<=16){w:WD}:Calls prog 81 #[.int .i64 n,.func (.func 82) #[] #[]] w λe w'=>∃(a:OA) (c:Nat),e=.returned (.slice a n c)/\AB AD w w'/\BM (λ_=>BM (λ_=>E8) 8) n (.slice a n c) (rng w w') w':=by
 refine JX (T:=192) (λ_ _=>BM.stb λ_ _=>E8.stb) hn.1 (C4d (by omega) (CU (λ_ _=>BM.stb λ_ _=>E8.stb) λi w1 hi k1=>AN.mk _ #[] #[] rfl (by kernel_rfl) ?_) HI);refine(vc82 i w1 (λv w'=>∃(a:OA) (c:Nat),v=.slice a 8 c/\AB AD w1 w'/\BM (λ_=>E8) 8 (.slice a 8 c) (rng w1 w') w') ?_).AE ?_
 .unfold Q;refine B8p.AE ?_;rintro _ w2 ⟨a,c,rfl,h⟩;exact⟨a,8,c,rfl,a,c,rfl,h⟩
 .rintro e w' ⟨v,rfl,a,c,rfl,hk,hr⟩;exact⟨_,rng w1 w',⟨a,8,c,rfl,rfl⟩,rfl,hk,hr,λx hx=>hx.1⟩
def B9u(u0:Value)(u:Value)(H:NP)(w:WD):Prop:=u=u0/\∀x,H x->x<w.heap.size
theorem B9u.stb{u0:Value}:Stb (B9u u0) where
 kx v H w w' X h k hx:=⟨h.1,λx hh=>nll (h.2 x hh) k.sz⟩
 lt v H w h:=h.2
theorem A90{n:Nat}(hn:0<n/\n<=16)(w:WD):Calls prog 86 #[.int .i64 n,.func (.func 87) #[] #[]] w λe w'=>∃(a:OA) (c:Nat),e=.returned (.slice a n c)/\AB AD w w'/\BM (λ_=>B9u (.int .u64 1)) n (.slice a n c) (rng w w') w':=by
 refine JX (T:=76) (λ_ _=>B9u.stb) hn.1 (C4b (by omega) (CU (λ_ _=>B9u.stb) λi w1 hi k1=>AN.mk _ #[] #[] rfl (by kernel_rfl) ?_) HI);refine(vc87 i w1 (λv w'=>v=.int .u64 1/\w'=w1) ⟨rfl,rfl⟩).AE ?_;rintro e w' ⟨v,rfl,rfl,rfl⟩;exact⟨_,λ_=>False,⟨_,rfl,rfl⟩,rfl,AB.refl _ _,⟨rfl,λx hx=>hx.elim⟩,λx hx=>hx.elim⟩
theorem A8u{n:Nat}(hn:0<n/\n<=16)(w:WD):Calls prog 88 #[.int .i64 n,.func (.func 89) #[] #[]] w λe w'=>∃(a:OA) (c:Nat),e=.returned (.slice a n c)/\AB AD w w'/\BV w' w.heap.size a n c (replicate n (-1)):=by
 refine(C0p (w0:=w) (J:=λF i vs w=>vs=(replicate i (-1)).map vi) (by omega) ⟨λF i vs w w' X h _ _=>h,λF i vs w1 hi h k1 hF=>AN.mk _ #[] #[] rfl (by kernel_rfl) ?_⟩ rfl).AE ?_
 .refine(vc89 i w1 (λv w'=>v=.int .i64 (-1)/\w'=w1) ⟨rfl,rfl⟩).AE ?_;rintro e w' ⟨v,rfl,rfl,rfl⟩;refine⟨[vi (-1)],⟨_,rfl,rfl⟩,rfl,λu hu=>by simp at hu;subst hu;rfl,AB.refl _ _,?_⟩;rw [h,List.replicate_succ',F6]
  rfl
 .rintro e w' ⟨a,c,F,vs,rfl,k,row,rfl,_⟩;exact⟨a,c,rfl,k,by simp,row⟩
end Go.Proofs.YtdgbechegbmpcaaGreatDoor
namespace Go.Proofs.YtdgbechegbmpcaaGreatDoor
open Go Go.Eng Go.Proofs.Tryz
open Go.Value (bool func slice agg int)
open Option (isNone)
open Go.IntKind (wrap)
open List (replicate range)
variable {X:NP}{j:Nat}
inductive Prt where
 | core|mem|zones|dev|locks|rmap|AY|clocks|caches|depots|mags|turns|held|flying|flight
 | space (i:Nat)
deriving DecidableEq
structure AR where
 c:NI
 pm:Nat
 pz:Nat
 pd:Nat
 pl:Nat
 pr:Nat
 ps:Nat
 vck:Value
 vca:Value
 vde:Value
 vma:Value
 vtu:Value
 vhe:Value
 vfl:Value
 vfi:Value
 sp:Nat->Option Nat
 by':NI
 mks:Nat->Mark
 Z:Zs
 L:Nat->List Bk
 dv:NI
 lh:NI
 rof:Nat->Int×Int
 rat:List ((Int×Int)×Value)
 sof:Nat->Int×Int
 ring:Nat->List Int
 cof:Nat->List (Int×Value)
 held:Nat->List Int
 fli:List Int
 root:NI
 pins:Nat->Nat
namespace AR
def n(S:AR):Nat:=(AU S.c (S.c 0).toNat).toNat
def AK(S:AR):Nat:=(S.c 0).toNat
def AS(S:AR):Nat:=(S.c 1).toNat
def AY(S:AR):Nat:=(S.c 90).toNat
end AR
def spV(o:Option Nat):Value:=.pointer (o.map λb=>⟨b,0,none⟩)
def GL(S:AR):List Value:=
 [AP S.pm,AP S.pz,AP S.pd,AP S.pl,AP S.pr,AP S.ps,S.vck,S.vca,S.vde,S.vma,S.vtu,spV (S.sp 0),spV (S.sp 1),spV (S.sp 2),spV (S.sp 3),spV (S.sp 4),spV (S.sp 5),spV (S.sp 6),spV (S.sp 7),spV (S.sp 8),S.vhe,S.vfl,S.vfi]
def NM(x:Nat):List Value:=.int .u64 (x:Nat)::replicate 15 (.int .u64 0)
structure EX(w:WD)(F:NP)(b:Nat)(root:Int)(x:Nat):Prop where
 lt:x<4294967296
 ex:∃ab pb wb mb,AX w b [AP ab,vi root,AP pb,.int .u8 0,.int .u8 0,.map (some mb)]/\AX w ab [.slice none 0 0]/\AX w pb [.slice (some ⟨wb,0,none⟩) 16 16,vi 1024]/\AX w wb (NM x)/\BJ w mb []/\
  F b/\F ab/\F pb/\F wb/\F mb
def PAt(S:AR)(k:Nat):Prt->(NP)->WD->Prop
 | .core,F,w=>AX w k (cfg S.c++GL S)/\F k
 | .mem,F,w=>∃bb mb,BU w S.pm bb mb S.c S.n S.by' S.mks/\F S.pm/\F bb/\F mb
 | .zones,F,w=>ZAt w S.pz S.Z S.L/\(∀x,S.Z.all S.pz x->F x)/\S.Z.c=S.c
 | .dev,F,w=>∃db,LW w S.pd db S.AY S.dv/\F S.pd/\F db
 | .locks,F,w=>BX w S.pl (9+S.AK) S.lh/\F S.pl
 | .rmap,F,w=>∃fb mb,DI w S.pr fb mb S.n S.rof S.rat/\F S.pr/\F fb/\F mb
 | .AY,F,w=>∃fb,ER w S.ps fb S.AY S.sof/\F S.ps/\F fb
 | .clocks,F,w=>BM (λi=>BE (S.ring i) (S.cof i)) S.AK S.vck F w
 | .caches,F,w=>BM (λ_=>BM (λi=>CE (sz i)) 8) S.AK S.vca F w
 | .depots,F,w=>BM (λ_=>BM (λ_=>E8) 8) S.AK S.vde F w
 | .mags,F,w=>BM (λ_=>BM (λ_=>E8) 8) S.AS S.vma F w
 | .turns,F,w=>BM (λ_=>B9u (.int .u64 1)) S.AK S.vtu F w
 | .held,F,w=>BM (λi=>EL (S.held i)) S.AS S.vhe F w
 | .flying,F,w=>BM (λ_=>B7i) S.AS S.vfl F w
 | .flight,F,w=>EL S.fli S.vfi F w
 | .space i,F,w=>∀b,S.sp i=some b->EX w F b (S.root i) (S.pins i)
theorem PAt.kx{S:AR}{k:Nat}{p:Prt}{F:NP}{w w':WD}(h:PAt S k p F w)(kk:AB X w w')(hx:∀x,X x->F x->False):PAt S k p F w':=by
 cases p with
 | core=>exact⟨h.1.kx kk λe=>hx _ e h.2,h.2⟩
 | mem=>
  obtain⟨bb,mb,h,h1,h2,h3⟩:=h;exact⟨bb,mb,⟨h.so.kx kk λe=>hx _ e h1,h.bs.kx kk λe=>hx _ e h2,h.ms.kx kk λe=>hx _ e h3,h.ne⟩,h1,h2,h3⟩
 | zones=>exact⟨h.1.kx kk λx e ha=>hx x e (h.2.1 x ha),h.2⟩
 | dev=>
  obtain⟨db,h,h1,h2⟩:=h;exact⟨db,⟨h.so.kx kk λe=>hx _ e h1,h.bs.kx kk λe=>hx _ e h2,h.ne⟩,h1,h2⟩
 | locks=>exact⟨AX.kx h.1 kk λe=>hx _ e h.2,h.2⟩
 | rmap=>
  obtain⟨fb,mb,h,h1,h2,h3⟩:=h;exact⟨fb,mb,⟨h.so.kx kk λe=>hx _ e h1,h.fs.kx kk λe=>hx _ e h2,h.mp.kx kk λe=>hx _ e h3,h.ne⟩,h1,h2,h3⟩
 | AY=>
  obtain⟨fb,h,h1,h2⟩:=h;exact⟨fb,⟨h.so.kx kk λe=>hx _ e h1,h.fs.kx kk λe=>hx _ e h2,h.ne⟩,h1,h2⟩
 | clocks=>exact(BM.stb λ_ _=>BE.stb).kx _ _ _ _ _ h kk hx
 | caches=>exact(BM.stb λ_ _=>BM.stb λ_ _=>CE.stb).kx _ _ _ _ _ h kk hx
 | depots=>exact(BM.stb λ_ _=>BM.stb λ_ _=>E8.stb).kx _ _ _ _ _ h kk hx
 | mags=>exact(BM.stb λ_ _=>BM.stb λ_ _=>E8.stb).kx _ _ _ _ _ h kk hx
 | turns=>exact(BM.stb λ_ _=>B9u.stb).kx _ _ _ _ _ h kk hx
 | held=>exact(BM.stb λ_ _=>EL.stb).kx _ _ _ _ _ h kk hx
 | flying=>exact(BM.stb λ_ _=>B7i.stb).kx _ _ _ _ _ h kk hx
 | flight=>exact EL.stb.kx _ _ _ _ _ h kk hx
 | space i=>
  intro b hb;obtain⟨ab,pb,wb,mb,a1,a2,a3,a4,a5,f1,f2,f3,f4,f5⟩:=(h b hb).ex;exact⟨(h b hb).lt,ab,pb,wb,mb,a1.kx kk λe=>hx _ e f1,a2.kx kk λe=>hx _ e f2,a3.kx kk λe=>hx _ e f3,a4.kx kk λe=>hx _ e f4,a5.kx kk λe=>hx _ e f5,f1,f2,f3,f4,f5⟩
structure AO(w:WD)(k:Nat)(S:AR)(fp:Prt->Nat->Prop):Prop where
 dj:∀p q x,fp p x->fp q x->p=q
 lt:∀p x,fp p x->0<x/\x<w.heap.size
 my:D6 S.c
 at':∀p,PAt S k p (fp p) w
section
variable {w w':WD}{kb:Nat}{S S':AR}{fp:Prt->Nat->Prop}
theorem AO.k(h:AO w kb S fp)(kk:AB AD w w'):AO w' kb S fp:=
 ⟨h.dj,λp x hx=>⟨(h.lt p x hx).1,nll (h.lt p x hx).2 kk.sz⟩,h.my,λp=>(h.at' p).kx kk λ_ e=>e.elim⟩
theorem AO.kx(h:AO w kb S fp)(kk:AB X w w')(hx:∀x p,X x->fp p x->False):AO w' kb S fp:=
 ⟨h.dj,λp x hx=>⟨(h.lt p x hx).1,nll (h.lt p x hx).2 kk.sz⟩,h.my,λp=>(h.at' p).kx kk λx e hf=>hx x p e hf⟩
theorem AO.upd(h:AO w kb S fp)(T:Prt->Prop)(i:Prt)(kk:AB X w w')(hX:∀x,X x->x<w.heap.size->∃p,T p/\fp p x)(hc:S'.c=S.c)
 (hS:∀p F w,¬T p->PAt S kb p F w->PAt S' kb p F w) (hi:T i) (hp:∀p,T p->PAt S' kb p (λx=>fp p x\/(p=i/\rng w w' x)) w'):AO w' kb S' (λp x=>fp p x\/(p=i/\rng w w' x)):=by
 refine⟨λp q x h1 h2=>?_,λp x hx=>?_,hc▸h.my,λp=>?_⟩
 .rcases h1 with h1|⟨rfl,h1⟩
  .rcases h2 with h2|⟨rfl,h2⟩
   .exact h.dj p q x h1 h2
   .have:=(h.lt p x h1).2;have:=h2.1;omega
  .rcases h2 with h2|⟨rfl,h2⟩
   .have:=(h.lt q x h2).2;have:=h1.1;omega
   .rfl
 .rcases hx with hx|⟨rfl,hx⟩
  .exact⟨(h.lt p x hx).1,nll (h.lt p x hx).2 kk.sz⟩
  .have:=(h.lt .core kb (h.at' .core).2).1;have:=(h.lt .core kb (h.at' .core).2).2;exact⟨by have:=hx.1;omega,hx.2⟩
 .by_cases hT:T p
  .exact hp p hT
  .have e:(λx=>fp p x\/(p=i/\rng w w' x))=fp p:=by
    funext x;refine propext ⟨λhx=>hx.resolve_right λe=>hT (e.1▸hi),.inl⟩
   show PAt S' kb p (λx=>fp p x\/(p=i/\rng w w' x)) w'
   rw [e];exact hS p _ _ hT ((h.at' p).kx kk λx e hf=>by
    obtain⟨q,hq,hf2⟩:=hX x e (h.lt p x hf).2;have:=h.dj p q x hf hf2;subst this;exact hT hq)
theorem AO.so(h:AO w kb S fp):AX w kb (cfg S.c++GL S):=(h.at' .core).1
theorem AO.rc(h:AO w kb S fp)(hj:j<94):rd w kb j=some (vi (S.c j)):=by
 rw [h.so.rd,gal (by rw [AM];exact hj),AZ _ _ _ _ _ hj,za]
theorem AO.rt(h:AO w kb S fp){v:Value}(hj:(GL S)[j]? = some v):rd w kb (94+j)=some v:=by
 rw [h.so.rd,gar (by rw [AM];omega),AM,Nat.add_sub_cancel_left];exact hj
theorem AO.C3q(h:AO w kb S fp):BB w kb 0 (cfg S.c):=h.so.run 0 λj hj=>by
 rw [za,gal (by rw [AM];exact hj),AZ _ _ _ _ _ hj,za]
theorem AO.n4(h:AO w kb S fp):(S.n:Int)=AU S.c (S.c 0).toNat/\4<=S.n/\S.n<=1024:=by
 have:=h.my.tot;unfold AR.n;omega
theorem AO.BQ(h:AO w kb S fp):(1<=S.AK/\S.AK<=8/\(S.AK:Int)=S.c 0)/\(1<=S.AS/\S.AS<=16/\(S.AS:Int)=S.c 1)/\S.AY<=1024/\(S.AY:Int)=S.c 90:=by
 have h0:=h.my.1;have h1:=h.my.2.1;have h2:=h.my.2.2.1;unfold AR.AK AR.AS AR.AY;omega
theorem AO.k0(h:AO w kb S fp):kb<w.heap.size:=(h.lt .core kb (h.at' .core).2).2
end
end Go.Proofs.YtdgbechegbmpcaaGreatDoor
namespace Go.Proofs.YtdgbechegbmpcaaGreatDoor
open Go Go.Eng Go.Proofs.Tryz
open Go.Value (bool func slice agg int)
open Option (isNone)
open Go.IntKind (wrap)
open List (replicate range)
variable {w':WD}{T b base c fb i l mb s:Nat}{f:NI}{a:OA}{cs vs:List Value}{F:NP}{v0 v1 v2 v3 v4:Value}{xs:List Int}
theorem vc31(c0:NI)(w:WD)(K:KV)(h:Q (AW w (List.toArray (AQ .i64 c0 0 94)) 26 λw'=>∃(x:NI),BB w' w.heap.size 0 (AQ .i64 x 0 94)/\CB 60 #[agg (List.toArray (AQ .i64 x 0 94))] w' λb w'=>Wif (!b) (K (.tuple #[pt none,vi 2]) w') (∃(x:NI),BB w' w.heap.size 0 (AQ .i64 x 0 94)/\AW w' (List.toArray (AQ .i64 x 0 94++([pt none,pt none,pt none,pt none,pt none,pt none,sl none 0 0,sl none 0 0,sl none 0 0,sl none 0 0,sl none 0 0]++(replicate 9 (pt none)++[sl none 0 0,sl none 0 0,sl none 0 0])))) 53 λr=>∃(x:NI),BB r w.heap.size 0 (AQ .i64 x 0 94)/\Calls prog 61 #[agg (List.toArray (AQ .i64 x 0 94))] r λ(e:Ending) (O:WD)=>∃(p:OA) (n:Int),e=rT (.tuple #[pt p,vi n])/\Sw O w'.heap.size 94 (pt p) λs=>∃(x:NI),BB s w.heap.size 0 (AQ .i64 x 0 94)/\Calls prog 62 #[agg (List.toArray (AQ .i64 x 0 94))] s λ(e:Ending) (P:WD)=>∃(p:OA) (n:Int),e=rT (.tuple #[pt p,vi n])/\Sw P w'.heap.size 95 (pt p) λt=>RI t w.heap.size 90 λx=>Calls prog 63 #[vi x] t λ(e:Ending) (Q:WD)=>∃(p:OA),e=rT (.pointer p)/\Sw Q w'.heap.size 96 (pt p) λu=>RI u w.heap.size 0 λx=>Calls prog 64 #[vi (wrap .i64 (9+x))] u λ(e:Ending) (R:WD)=>∃(p:OA),e=rT (.pointer p)/\Sw R w'.heap.size 97 (pt p) λy=>RP y w'.heap.size 94 λx=>Calls prog 66 #[pt x] y λ(e:Ending) (z:WD)=>∃(n:Int),e=rT (vi n)/\Calls prog 65 #[vi n] z λ(e:Ending) (A:WD)=>∃(p:OA),e=rT (.pointer p)/\Sw A w'.heap.size 98 (pt p) λg=>RI g w.heap.size 90 λx=>Calls prog 67 #[vi x] g λ(e:Ending) (B:WD)=>∃(p:OA),e=rT (.pointer p)/\Sw B w'.heap.size 99 (pt p) λh=>RI h w.heap.size 0 λx=>Calls prog 68 #[vi x,func (.func 69) #[] #[]] h λ(e:Ending) (C:WD)=>∃(a:OA) (l c:Nat),e=rT (sl a l c)/\Sw C w'.heap.size 100 (sl a l c) λi=>RI i w.heap.size 0 λx=>Calls prog 71 #[vi x,func (.func 72) #[] #[]] i λ(e:Ending) (D:WD)=>∃(a:OA) (l c:Nat),e=rT (sl a l c)/\Sw D w'.heap.size 101 (sl a l c) λj=>RI j w.heap.size 0 λx=>Calls prog 76 #[vi x,func (.func 77) #[] #[]] j λ(e:Ending) (E:WD)=>∃(a:OA) (l c:Nat),e=rT (sl a l c)/\Sw E w'.heap.size 102 (sl a l c) λk=>RI k w.heap.size 1 λx=>Calls prog 81 #[vi x,func (.func 82) #[] #[]] k λ(e:Ending) (F:WD)=>∃(a:OA) (l c:Nat),e=rT (sl a l c)/\Sw F w'.heap.size 103 (sl a l c) λo=>RI o w.heap.size 0 λx=>Calls prog 86 #[vi x,func (.func 87) #[] #[]] o λ(e:Ending) (G:WD)=>∃(a:OA) (l c:Nat),e=rT (sl a l c)/\Sw G w'.heap.size 104 (sl a l c) λd=>RI d w.heap.size 1 λx=>Wif (IU 24 x x) (AW d (List.toArray (replicate (x.toNat) (sl none 0 0))) 27 λH=>Sw H w'.heap.size 114 (sl (aD d.heap.size) (x.toNat) (x.toNat)) λf=>RI f w.heap.size 1 λx=>Wif (IU 24 x x) (AW f (List.toArray (replicate (x.toNat) (sl none 0 0))) 239 λJ=>Sw J w'.heap.size 115 (sl (aD f.heap.size) (x.toNat) (x.toNat)) λq=>RI q w.heap.size 1 λx=>Calls prog 88 #[vi x,func (.func 89) #[] #[]] q λ(e:Ending) (L:WD)=>∃(a:OA) (l c:Nat),e=rT (sl a l c)/\Sw L w'.heap.size 116 (sl a l c) λM=>K (.tuple #[AP w'.heap.size,vi 0]) M) False) False))):Ret 31 #[agg (List.toArray (AQ .i64 c0 0 94))] w K:=vcA L7 2 [] func31 h
theorem vc47(k:OA)(w:WD)(K:KV)(h:Q (∀w',w'=w.alloc (.cells #[pt k] 54)->∀E,E=w'.alloc (.cells (List.toArray (replicate 94 (vi 0)++replicate 13 (sl none 0 0))) 137)->∃(x:OA),rd E w.heap.size 0=some (.pointer x)/\Wif (isNone x) (∃(x:NI) (f0:OA) (g4 g5:Nat) (g6:OA) (g7 g8:Nat) (g9:OA) (h0 h1:Nat) (a3:OA) (a4 a5:Nat) (a6:OA) (a7 a8:Nat) (a9:OA) (b0 z:Nat) (g:OA) (h f:Nat) (B:OA) (H C:Nat) (J:OA) (F t:Nat) (u:OA) (y D:Nat) (P:OA) (Q R:Nat) (S:OA) (T U:Nat) (V:OA) (X Y:Nat),BB E w'.heap.size 0 (AQ .i64 x 0 94++[sl f0 g4 g5,sl g6 g7 g8,sl g9 h0 h1,sl a3 a4 a5,sl a6 a7 a8,sl a9 b0 z,sl g h f,sl B H C,sl J F t,sl u y D,sl P Q R,sl S T U,sl V X Y])/\DJ E w'.heap.size 0 (AQ .i64 x 0 94++[sl f0 g4 g5,sl g6 g7 g8,sl g9 h0 h1,sl a3 a4 a5,sl a6 a7 a8,sl a9 b0 z,sl g h f,sl B H C,sl J F t,sl u y D,sl P Q R,sl S T U,sl V X Y])/\∀L,L=F5 E w'.heap.size 0 (AQ .i64 x 0 94++[sl f0 g4 g5,sl g6 g7 g8,sl g9 h0 h1,sl a3 a4 a5,sl a6 a7 a8,sl a9 b0 z,sl g h f,sl B H C,sl J F t,sl u y D,sl P Q R,sl S T U,sl V X Y])->∃(x:NI) (b1:OA) (b2 b3:Nat) (b4:OA) (b5 b6:Nat) (b7:OA) (b8 b9:Nat) (c0:OA) (c1 c2:Nat) (c3:OA) (c4 c5:Nat) (c6:OA) (c7 c8:Nat) (c9:OA) (d0 d1:Nat) (d2:OA) (d3 d4:Nat) (d5:OA) (d6 f1:Nat) (f2:OA) (f3 f4:Nat) (f5:OA) (f6 f7:Nat) (f8:OA) (f9 g0:Nat) (g1:OA) (g2 g3:Nat),BB L w'.heap.size 0 (AQ .i64 x 0 94++[sl b1 b2 b3,sl b4 b5 b6,sl b7 b8 b9,sl c0 c1 c2,sl c3 c4 c5,sl c6 c7 c8,sl c9 d0 d1,sl d2 d3 d4,sl d5 d6 f1,sl f2 f3 f4,sl f5 f6 f7,sl f8 f9 g0,sl g1 g2 g3])/\K (.agg (List.toArray (AQ .i64 x 0 94++[sl b1 b2 b3,sl b4 b5 b6,sl b7 b8 b9,sl c0 c1 c2,sl c3 c4 c5,sl c6 c7 c8,sl c9 d0 d1,sl d2 d3 d4,sl d5 d6 f1,sl f2 f3 f4,sl f5 f6 f7,sl f8 f9 g0,sl g1 g2 g3]))) L) (∃(x:OA),rd E w.heap.size 0=some (.pointer x)/\Wif (isP x) (∃(f0:NI),BB E (pb x) (po x) (AQ .i64 f0 0 94)/\DJ E w'.heap.size 0 (AQ .i64 f0 0 94)/\∀L,L=F5 E w'.heap.size 0 (AQ .i64 f0 0 94)->∃(x:OA),rd L w.heap.size 0=some (.pointer x)/\Wif (isP x) (∃(g4:OA),rd L (pb x) (po x+94)=some (.pointer g4)/\Calls prog 66 #[pt g4] L λ(e:Ending) (m5:WD)=>∃(n:Int),e=Ending.returned (vi n)/\Calls prog 127 #[vi n,Value.func (Fn.func 128) #[] #[AP w.heap.size]] m5 λ(e:Ending) (i9:WD)=>∃(a:OA) (l c:Nat),e=rT (sl a l c)/\wr i9 w'.heap.size 94/\∀h4,h4=st i9 w'.heap.size 94 (sl a l c)->∃(x:OA),rd h4 w.heap.size 0=some (.pointer x)/\Wif (isP x) (∃(g5:OA),rd h4 (pb x) (po x+95)=some (.pointer g5)/\Calls prog 130 #[pt g5] h4 λ(e:Ending) (m6:WD)=>∃(v:Value),e=Ending.returned v/\Calls prog 129 #[v] m6 λ(e:Ending) (j0:WD)=>∃(a:OA) (l c:Nat),e=rT (sl a l c)/\wr j0 w'.heap.size 95/\∀h5,h5=st j0 w'.heap.size 95 (sl a l c)->∃(x:OA),rd h5 w.heap.size 0=some (.pointer x)/\Wif (isP x) (∃(g6:Int),rd h5 (pb x) (po x+1)=some (.int .i64 g6)/\Calls prog 131 #[vi g6,Value.func (Fn.func 132) #[] #[AP w.heap.size]] h5 λ(e:Ending) (j1:WD)=>∃(a:OA) (l c:Nat),e=rT (sl a l c)/\wr j1 w'.heap.size 96/\∀d7,d7=st j1 w'.heap.size 96 (sl a l c)->∃(x:OA),rd d7 w.heap.size 0=some (.pointer x)/\Wif (isP x) (∃(g7:Int),rd d7 (pb x) (po x+1)=some (.int .i64 g7)/\Calls prog 134 #[vi g7,Value.func (Fn.func 135) #[] #[AP w.heap.size]] d7 λ(e:Ending) (i2:WD)=>∃(a:OA) (l c:Nat),e=rT (sl a l c)/\wr i2 w'.heap.size 97/\∀d8,d8=st i2 w'.heap.size 97 (sl a l c)->∃(x:OA),rd d8 w.heap.size 0=some (.pointer x)/\Wif (isP x) (∃(g8:OA) (g9 h0:Nat),rd d8 (pb x) (po x+116)=some (.slice g8 g9 h0)/\Calls prog 133 #[sl g8 g9 h0] d8 λ(e:Ending) (i3:WD)=>∃(a:OA) (l c:Nat),e=rT (sl a l c)/\wr i3 w'.heap.size 98/\∀d9,d9=st i3 w'.heap.size 98 (sl a l c)->∃(x:OA),rd d9 w.heap.size 0=some (.pointer x)/\Wif (isP x) (∃(h1 a3 a4 a5 a6 a7 a8 a9 b0:OA),BB d9 (pb x) (po x+105) [pt h1,pt a3,pt a4,pt a5,pt a6,pt a7,pt a8,pt a9,pt b0]/\∃(I:Int->WD->Nat->Prop),(∃(n:Nat),I 0 d9 n)/\∀(n:Int) (M:WD) (j2:Nat),I n M j2->Wif (decide (n<9)) (Wif (inB n 9) (∃(x:OA),[pt h1,pt a3,pt a4,pt a5,pt a6,pt a7,pt a8,pt a9,pt b0][n.toNat*1]? = some (.pointer x)/\Wif (!isNone x) (∀w1,w1=M.drew->∃(z:OA) (g h:Nat),rd w1 w'.heap.size 99=some (.slice z g h)/\∃(f:OA),rd w1 w.heap.size 0=some (.pointer f)/\Calls prog 137 #[pt f,vi n,pt x] w1 λ(e:Ending) (Z:WD)=>∃(a0 h2:Int) (a:OA) (l c:Nat) (h8:OA) (h9 c_1:Nat) (l9:OA) (m0 c_2:Nat) (m1:OA) (m2 c_3:Nat),e=rT (.agg #[vi a0,vi h2,sl a l c,sl h8 h9 c_1,sl l9 m0 c_2,sl m1 m2 c_3])/\(rd Z w'.heap.size 99=some (.slice z g h)/\True)/\∀i,i=Z.alloc (.cells #[vi a0,vi h2,sl a l c,sl h8 h9 c_1,sl l9 m0 c_2,sl m1 m2 c_3] 147)->(rd i w'.heap.size 99=some (.slice z g h)/\True)/\∃(a:OA) (l c:Nat) (j:WD),BL prog #[132,132] 132 (sl z g h) (sl (aD Z.heap.size) 1 1) (sl a l c) i j/\wr j w'.heap.size 99/\∀p,p=st j w'.heap.size 99 (sl a l c)->∃m,Nat.succ m<=j2/\I (wrap .i64 (n+1)) p m) (∃m,Nat.succ m<=j2/\I (wrap .i64 (n+1)) M m)) False) (∃(x:OA),rd M w.heap.size 0=some (.pointer x)/\Wif (isP x) (∃(z:OA),rd M (pb x) (po x+94)=some (.pointer z)/\Calls prog 66 #[pt z] M λ(e:Ending) (Z:WD)=>∃(n:Int),e=Ending.returned (vi n)/\∃(I:Int->WD->Nat->Prop),(∃(n:Nat),I 0 Z n)/\∀(a0:Int) (i:WD) (h2:Nat),I a0 i h2->Wif (decide (a0<n)) (∃(x:OA),rd i w.heap.size 0=some (.pointer x)/\Wif (isP x) (∃(g:OA),rd i (pb x) (po x+98)=some (.pointer g)/\Calls prog 117 #[pt g,vi a0] i λ(e:Ending) (j:WD)=>∃(n h3:Int) (b:Bool),e=rT (.tuple #[vi n,vi h3,Value.bool b])/\Wif b (∃(x:OA) (h f:Nat),rd j w'.heap.size 100=some (.slice x h f)/\∀p,p=j.alloc (.cells #[vi a0,vi n,vi h3] 151)->∃(a:OA) (l c:Nat) (o:WD),BL prog #[133,133] 133 (sl x h f) (sl (aD j.heap.size) 1 1) (sl a l c) p o/\wr o w'.heap.size 100/\∀d,d=st o w'.heap.size 100 (sl a l c)->∃m,Nat.succ m<=h2/\I (wrap .i64 (a0+1)) d m) (∃m,Nat.succ m<=h2/\I (wrap .i64 (a0+1)) j m)) False) (∃(x:OA),rd i w.heap.size 0=some (.pointer x)/\Wif (isP x) (∃(g:Int),rd i (pb x) (po x)=some (.int .i64 g)/\Calls prog 131 #[vi g,Value.func (Fn.func 138) #[] #[AP w.heap.size]] i λ(e:Ending) (j:WD)=>∃(a:OA) (l c:Nat),e=rT (sl a l c)/\wr j w'.heap.size 101/\∀p,p=st j w'.heap.size 101 (sl a l c)->∃(x:OA),rd p w.heap.size 0=some (.pointer x)/\Wif (isP x) (∃(h:Int),rd p (pb x) (po x+90)=some (.int .i64 h)/\∃(I:Int->WD->Nat->Prop),(∃(n:Nat),I 0 p n)/\∀(n:Int) (o:WD) (h3:Nat),I n o h3->Wif (decide (n<h)) (∃(x:OA),rd o w.heap.size 0=some (.pointer x)/\Wif (isP x) (∃(f:OA),rd o (pb x) (po x+99)=some (.pointer f)/\Calls prog 141 #[pt f,vi n] o λ(e:Ending) (d:WD)=>∃(i0 a1:Int) (b:Bool),e=rT (.tuple #[vi i0,vi a1,Value.bool b])/\Wif b (∃(x:OA) (B H:Nat),rd d w'.heap.size 102=some (.slice x B H)/\∀q,q=d.alloc (.cells #[vi n,vi i0,vi a1] 151)->∃(a:OA) (l c:Nat) (r:WD),BL prog #[133,133] 133 (sl x B H) (sl (aD d.heap.size) 1 1) (sl a l c) q r/\wr r w'.heap.size 102/\∀s,s=st r w'.heap.size 102 (sl a l c)->∃m,Nat.succ m<=h3/\I (wrap .i64 (n+1)) s m) (∃m,Nat.succ m<=h3/\I (wrap .i64 (n+1)) d m)) False) (∃(x:OA),rd o w.heap.size 0=some (.pointer x)/\Wif (isP x) (∃(f:OA) (B H:Nat),rd o (pb x) (po x+101)=some (.slice f B H)/\∃(I:Int->WD->Nat->Prop),(∃(n:Nat),I 0 o n)/\∀(n:Int) (d:WD) (i0:Nat),I n d i0->Wif (decide (n<(↑B:Int))) (Wif (isP f) (Wif (inB n B) (∃(x:OA) (C J:Nat),rd d (pb f) (po f+n.toNat*1)=some (.slice x C J)/\∃(j3:Int->WD->Nat->Prop),(∃(n:Nat),j3 0 d n)/\∀(a1:Int) (q:WD) (m3:Nat),j3 a1 q m3->Wif (decide (a1<(↑C:Int))) (Wif (isP x) (Wif (inB a1 C) (∃(F:OA),rd q (pb x) (po x+a1.toNat*1)=some (.pointer F)/\Calls prog 142 #[pt F] q λ(e:Ending) (r:WD)=>∃(a:OA) (l c:Nat),e=rT (sl a l c)/\∃(I:Int->WD->Nat->Prop),(∃(n:Nat),I 0 r n)/\∀(i1:Int) (s:WD) (m4:Nat),I i1 s m4->Wif (decide (i1<(↑l:Int))) (Wif (isP a) (Wif (inB i1 l) (∃(x:Int),rd s (pb a) (po a+i1.toNat*1)=some (.int .i64 x)/\∀w1,w1=s.drew->∃(t:OA) (u y:Nat),rd w1 w'.heap.size 103=some (.slice t u y)/\∃(D:OA),rd w1 w.heap.size 0=some (.pointer D)/\Calls prog 143 #[pt D,vi n,vi a1,vi x] w1 λ(e:Ending) (A:WD)=>∃(n j4 j5 j6 j7:Int) (a:OA) (l c:Nat) (h8:OA) (h9 c_1:Nat),e=rT (.agg #[vi n,vi j4,vi j5,vi j6,vi j7,sl a l c,sl h8 h9 c_1])/\(rd A w'.heap.size 103=some (.slice t u y)/\True)/\∀a2,a2=A.alloc (.cells #[vi n,vi j4,vi j5,vi j6,vi j7,sl a l c,sl h8 h9 c_1] 248)->(rd a2 w'.heap.size 103=some (.slice t u y)/\True)/\∃(a:OA) (l c:Nat) (O:WD),BL prog #[134,134] 134 (sl t u y) (sl (aD A.heap.size) 1 1) (sl a l c) a2 O/\wr O w'.heap.size 103/\∀G,G=st O w'.heap.size 103 (sl a l c)->∃m,Nat.succ m<=m4/\I (wrap .i64 (i1+1)) G m) False) False) (∃m,Nat.succ m<=m3/\j3 (wrap .i64 (a1+1)) s m)) False) False) (∃m,Nat.succ m<=i0/\I (wrap .i64 (n+1)) q m)) False) False) (∃(x:OA),rd d w.heap.size 0=some (.pointer x)/\Wif (isP x) (∃(C:Int),rd d (pb x) (po x+1)=some (.int .i64 C)/\Calls prog 144 #[vi C,Value.func (Fn.func 145) #[] #[AP w.heap.size]] d λ(e:Ending) (q:WD)=>∃(a:OA) (l c:Nat),e=rT (sl a l c)/\wr q w'.heap.size 104/\∀r,r=st q w'.heap.size 104 (sl a l c)->∃(x:OA),rd r w.heap.size 0=some (.pointer x)/\Wif (isP x) (∃(J:Int),rd r (pb x) (po x)=some (.int .i64 J)/\Calls prog 144 #[vi J,Value.func (Fn.func 148) #[] #[AP w.heap.size]] r λ(e:Ending) (s:WD)=>∃(a:OA) (l c:Nat),e=rT (sl a l c)/\wr s w'.heap.size 105/\∀A,A=st s w'.heap.size 105 (sl a l c)->∃(x:OA),rd A w.heap.size 0=some (.pointer x)/\Wif (isP x) (∃(F:OA),rd A (pb x) (po x+97)=some (.pointer F)/\Calls prog 151 #[pt F] A λ(e:Ending) (a2:WD)=>∃(n:Int),e=Ending.returned (vi n)/\Calls prog 88 #[vi n,Value.func (Fn.func 152) #[] #[AP w.heap.size]] a2 λ(e:Ending) (O:WD)=>∃(a:OA) (l c:Nat),e=rT (sl a l c)/\wr O w'.heap.size 106/\∀G,G=st O w'.heap.size 106 (sl a l c)->∃(x:NI) (t:OA) (u y:Nat) (D:OA) (P Q:Nat) (R:OA) (S T:Nat) (U:OA) (V X:Nat) (Y:OA) (b1 b2:Nat) (b3:OA) (b4 b5:Nat) (b6:OA) (b7 b8:Nat) (b9:OA) (c0 c1:Nat) (c2:OA) (c3 c4:Nat) (c5:OA) (c6 c7:Nat) (c8:OA) (c9 d0:Nat) (d1:OA) (d2 d3:Nat) (d4:OA) (d5 d6:Nat),BB G w'.heap.size 0 (AQ .i64 x 0 94++[sl t u y,sl D P Q,sl R S T,sl U V X,sl Y b1 b2,sl b3 b4 b5,sl b6 b7 b8,sl b9 c0 c1,sl c2 c3 c4,sl c5 c6 c7,sl c8 c9 d0,sl d1 d2 d3,sl d4 d5 d6])/\DJ G w'.heap.size 0 (AQ .i64 x 0 94++[sl t u y,sl D P Q,sl R S T,sl U V X,sl Y b1 b2,sl b3 b4 b5,sl b6 b7 b8,sl b9 c0 c1,sl c2 c3 c4,sl c5 c6 c7,sl c8 c9 d0,sl d1 d2 d3,sl d4 d5 d6])/\∀h7,h7=F5 G w'.heap.size 0 (AQ .i64 x 0 94++[sl t u y,sl D P Q,sl R S T,sl U V X,sl Y b1 b2,sl b3 b4 b5,sl b6 b7 b8,sl b9 c0 c1,sl c2 c3 c4,sl c5 c6 c7,sl c8 c9 d0,sl d1 d2 d3,sl d4 d5 d6])->∃(x:NI) (f1:OA) (f2 f3:Nat) (f4:OA) (f5 f6:Nat) (f7:OA) (f8 f9:Nat) (g0:OA) (g1 g2:Nat) (g3:OA) (j8 j9:Nat) (k0:OA) (k1 k2:Nat) (k3:OA) (k4 k5:Nat) (k6:OA) (k7 k8:Nat) (k9:OA) (l0 l1:Nat) (l2:OA) (l3 l4:Nat) (l5:OA) (l6 l7:Nat) (l8:OA) (i4 i5:Nat) (i6:OA) (i7 i8:Nat),BB h7 w'.heap.size 0 (AQ .i64 x 0 94++[sl f1 f2 f3,sl f4 f5 f6,sl f7 f8 f9,sl g0 g1 g2,sl g3 j8 j9,sl k0 k1 k2,sl k3 k4 k5,sl k6 k7 k8,sl k9 l0 l1,sl l2 l3 l4,sl l5 l6 l7,sl l8 i4 i5,sl i6 i7 i8])/\K (.agg (List.toArray (AQ .i64 x 0 94++[sl f1 f2 f3,sl f4 f5 f6,sl f7 f8 f9,sl g0 g1 g2,sl g3 j8 j9,sl k0 k1 k2,sl k3 k4 k5,sl k6 k7 k8,sl k9 l0 l1,sl l2 l3 l4,sl l5 l6 l7,sl l8 i4 i5,sl i6 i7 i8]))) h7) False) False) False)) False)) False) False)) False)) False) False) False) False) False) False) False))):Ret 47 #[pt k] w K:=vcA L10 2 [] func47 h
theorem LH{w:WD}{T:List Value}{v:Value}(h:AX w b (cfg f++T))(e:w'=st w b (94+i) v):AX w' b (cfg f++T.set i v):=by
 have h2:=h.s1 e;rw [List.set_append_right _ _ (by rw [AM];omega),AM,Nat.add_sub_cancel_left] at h2;exact h2
theorem IF{w:WD}{m bb:Nat}{c:NI}{n:Nat}{by':NI}{mk:Nat->Mark}(h:BU w m bb mb c n by' mk):Calls prog 66 #[AP m] w λe w'=>e=.returned (vi n)/\w'=w:=by
 have hr:rd w m (0+95)=some (.slice (some ⟨mb,0,none⟩) n n):=by
  rw [h.so.rd,gar (by rw [AM];omega),AM]
  rfl
 refine(vc66 _ w (λv w'=>v=vi n/\w'=w) ?_).AE ?_
 .unfold Q;exact AL rfl (AA rfl ⟨_,_,_,hr,rfl,rfl⟩)
 .rintro e w' ⟨v,rfl,rfl,rfl⟩;exact⟨rfl,rfl⟩
theorem B66{A:Nat->IM}{n:Nat}{w:WD}(e:w'=w.alloc (.cells (replicate n (slice none 0 0)).toArray T))(hA:∀j,j<n->A j (.slice none 0 0) (λ_=>False) w'):BM A n (.slice (some ⟨w.heap.size,0,none⟩) n n) (rng w w') w':=by
 have o:=AG e;exact⟨⟨_,n,_,λ_=>.slice none 0 0,λ_ _=>False,rfl,o,λj hj=>by rw [List.getElem?_replicate,if_pos hj],⟨nlr _,o.lt⟩,hA,λj _ x hx=>hx.elim,λi j _ _ _ x hx=>hx.elim⟩,λx hx=>hx.2⟩
structure B6o(S:AR):Prop where
 by':S.by'=λ_=>0
 mks:S.mks=λ_=>CX
 L:∀i,i<S.Z.k->∀x∈S.L i,x.g=0
 dv:S.dv=λ_=>0
 lh:S.lh=λ_=>0
 rof:S.rof=λ_=>(0,0)
 rat:S.rat=[]
 sof:S.sof=λ_=>(0,0)
 ring:S.ring=λ_=>[]
 cof:S.cof=λ_=>[]
 held:S.held=λ_=>[]
 fli:S.fli=replicate S.AS (-1)
 sp:S.sp=λ_=>none
set_option maxHeartbeats 4000000 in
theorem B6a(c:NI){w:WD}(hz:F7 w)(hw:0<w.heap.size):Calls prog 31 #[LI c] w λe w'=>AB AD w w'/\((¬D6 c/\e=.returned (.tuple #[.pointer none,vi 2]))\/
 (D6 c/\∃k S fp,e=.returned (.tuple #[AP k,vi 0])/\AO w' k S fp/\S.c=c/\B6o S/\∀p x,fp p x->w.heap.size<=x)):=by
 refine(vc31 c w (λv w'=>AB AD w w'/\((¬D6 c/\v=(.tuple #[.pointer none,vi 2]))\/
  (D6 c/\∃k S fp,v=(.tuple #[AP k,vi 0])/\AO w' k S fp/\S.c=c/\B6o S/\∀p x,fp p x->w.heap.size<=x))) ?_).AE ?_
 rotate_left
 .rintro e w' ⟨v,rfl,hk,⟨h1,rfl⟩|⟨h1,k,S,fp,rfl,h2⟩⟩
  .exact⟨hk,.inl ⟨h1,rfl⟩⟩
  .exact⟨hk,.inr ⟨h1,k,S,fp,rfl,h2⟩⟩
 unfold Q;intro w1 e1;have o1:=AG e1;have k1:=kal e1;clear e1;have hb0:w.heap.size<w1.heap.size:=o1.lt;generalize hb:w.heap.size=b0 at *;refine⟨c,o1.DW,(HH c w1).AE ?_⟩;rintro _ w2 ⟨ok,rfl,hok,k2⟩;have o2:=o1.k k2;have K2:=k1.tr k2;refine⟨_,rfl,AH (λhc=>?_) (λhc=>?_)⟩
 .have:ok=false:=by simpa using hc
  subst this;exact⟨K2,.inl ⟨by simpa using hok,rfl⟩⟩
 have:ok=true:=by simpa using hc
 subst this;have hm:D6 c:=hok.1 rfl;clear hc hok;have ht:=hm.tot;obtain⟨nn,hnn⟩:∃nn:Nat,c 0=nn:=⟨(c 0).toNat,by have:=hm.1;omega⟩;obtain⟨nc,hnc⟩:∃nc:Nat,c 1=nc:=⟨(c 1).toNat,by have:=hm.2.1;omega⟩;obtain⟨ns,hns⟩:∃ns:Nat,c 90=ns:=⟨(c 90).toNat,by have:=hm.2.2.1;omega⟩;have bn:=hm.1;have bc:=hm.2.1;have bs:=hm.2.2.1;have en:(c 0).toNat=nn:=by omega
 have ec:(c 1).toNat=nc:=by omega
 have es:(c 90).toNat=ns:=by omega
 refine⟨c,o2.DW,λw3 e3=>?_⟩;have o3:=o2.al e3;have so3:=AG e3;have K3:AB AD w w3:=K2.al e3;have hkb:b0<w2.heap.size:=o2.lt;have hs3:w2.heap.size<w3.heap.size:=so3.lt;clear e3;generalize hkb0:w2.heap.size=kb at *;have hne:b0≠kb:=by omega
 have z3:F7 w3:=hz.k K3;refine⟨c,o3.DW,(B1h c hm w3).AE ?_⟩;rintro _ w4 ⟨pm,bb,mb,rfl,k4,M,f1,f2,f3⟩;have o4:=o3.k k4;have so4:=so3.k k4;refine⟨_,_,rfl,so4.wr (by simp [AM]),λw5 e5=>?_⟩;have so5:=LH (i:=0) so4 e5;have o5:=o4.n1 e5 hne;have q5:AB (·=kb) w4 w5:=kr.s1 e5 (.inl rfl);have s5:AB (·=kb) w3 w5:=(k4.AE λ_ _ e=>e.elim).trans q5 λ_ _ h=>h;have z5:F7 w5:=z3.kx s5 (by omega);have h4:=k4.sz;have h5:w5.heap.size=w4.heap.size:=by rw [e5];simp
 clear e5;refine⟨c,o5.DW,(A9p c w5).AE ?_⟩;rintro _ w6 ⟨k6,⟨hno,_⟩|⟨_,pz,Z,LL,rfl,hZ,hZc,hZg,hZf⟩⟩
 .exact absurd hm hno
 have o6:=o5.k k6;have so6:=so5.k k6;refine⟨_,_,rfl,so6.wr (by simp [AM]),λw7 e7=>?_⟩;have so7:=LH (i:=1) so6 e7;have o7:=o6.n1 e7 hne;have q7:AB (·=kb) w6 w7:=kr.s1 e7 (.inl rfl);have s7:AB (·=kb) w5 w7:=(k6.AE λ_ _ e=>e.elim).trans q7 λ_ _ h=>h;have z7:F7 w7:=z5.kx s7 (by omega);have h6:=k6.sz;have h7:w7.heap.size=w6.heap.size:=by rw [e7];simp
 clear e7;refine⟨(ns:Int),by rw [o7.rI (by omega),hns],(B20 (n:=ns) (by omega) w7).AE ?_⟩;rintro _ w8 ⟨pd,db,rfl,k8,D,d1,d2⟩;have o8:=o7.k k8;have so8:=so7.k k8;refine⟨_,rfl,so8.wr (by simp [AM]),λw9 e9=>?_⟩;have so9:=LH (i:=2) so8 e9;have o9:=o8.n1 e9 hne;have q9:AB (·=kb) w8 w9:=kr.s1 e9 (.inl rfl);have s9:AB (·=kb) w7 w9:=(k8.AE λ_ _ e=>e.elim).trans q9 λ_ _ h=>h;have z9:F7 w9:=z7.kx s9 (by omega);have h8:=k8.sz;have h9:w9.heap.size=w8.heap.size:=by rw [e9];simp
 clear e9;refine⟨(nn:Int),by rw [o9.rI (by omega),hnn],?_⟩;dsimp only;rw [show wrap .i64 (9+(nn:Int))=((9+nn:Nat):Int) from by rw [wi (by omega)];omega];refine(B1y (n:=9+nn) (by omega) w9).AE ?_;rintro _ w10 ⟨pl,rfl,k10,K,l1⟩;have o10:=o9.k k10;have so10:=so9.k k10;refine⟨_,rfl,so10.wr (by simp [AM]),λw11 e11=>?_⟩;have so11:=LH (i:=3) so10 e11;have o11:=o10.n1 e11 hne;have q11:AB (·=kb) w10 w11:=kr.s1 e11 (.inl rfl);have s11:AB (·=kb) w9 w11:=(k10.AE λ_ _ e=>e.elim).trans q11 λ_ _ h=>h;have z11:F7 w11:=z9.kx s11 (by omega);have h10:=k10.sz;have h11:w11.heap.size=w10.heap.size:=by rw [e11];simp
 clear e11;have M11:BU w11 pm bb mb c (AU c (c 0).toNat).toNat (λ_=>0) (λ_=>CX):=by
  have kk:AB (·=kb) w4 w11:=((q5.trans s7 λ_ _ h=>h).trans s9 λ_ _ h=>h).trans s11 λ_ _ h=>h;exact⟨M.so.kx kk (by omega),M.bs.kx kk (by omega),M.ms.kx kk (by omega),M.ne⟩
 refine⟨_,by rw [so11.rd,gar (by rw [AM];omega),AM];rfl,(IF M11).AE ?_⟩;rintro _ wx ⟨rfl,hx⟩;rw [hx];clear hx;refine⟨_,rfl,(A78 (by omega) w11).AE ?_⟩;rintro _ w12 ⟨pr,rb,rm,rfl,k12,R,r1,r2,r3⟩;have o12:=o11.k k12;have so12:=so11.k k12;refine⟨_,rfl,so12.wr (by simp [AM]),λw13 e13=>?_⟩;have so13:=LH (i:=4) so12 e13;have o13:=o12.n1 e13 hne;have q13:AB (·=kb) w12 w13:=kr.s1 e13 (.inl rfl);have s13:AB (·=kb) w11 w13:=(k12.AE λ_ _ e=>e.elim).trans q13 λ_ _ h=>h;have z13:F7 w13:=z11.kx s13 (by omega);have h12:=k12.sz;have h13:w13.heap.size=w12.heap.size:=by rw [e13];simp
 clear e13;refine⟨(ns:Int),by rw [o13.rI (by omega),hns],(A72 (n:=ns) (by omega) w13).AE ?_⟩;rintro _ w14 ⟨ps,sb,rfl,k14,Q,s1,s2⟩;have o14:=o13.k k14;have so14:=so13.k k14;refine⟨_,rfl,so14.wr (by simp [AM]),λw15 e15=>?_⟩;have so15:=LH (i:=5) so14 e15;have o15:=o14.n1 e15 hne;have q15:AB (·=kb) w14 w15:=kr.s1 e15 (.inl rfl);have s15:AB (·=kb) w13 w15:=(k14.AE λ_ _ e=>e.elim).trans q15 λ_ _ h=>h;have z15:F7 w15:=z13.kx s15 (by omega);have h14:=k14.sz;have h15:w15.heap.size=w14.heap.size:=by rw [e15];simp
 clear e15;refine⟨(nn:Int),by rw [o15.rI (by omega),hnn],(A9b (n:=nn) (by omega) w15).AE ?_⟩;rintro _ w16 ⟨ack,cck,rfl,k16,Rck⟩;have o16:=o15.k k16;have so16:=so15.k k16;refine⟨_,_,_,rfl,so16.wr (by simp [AM]),λw17 e17=>?_⟩;have so17:=LH (i:=6) so16 e17;have o17:=o16.n1 e17 hne;have q17:AB (·=kb) w16 w17:=kr.s1 e17 (.inl rfl);have s17:AB (·=kb) w15 w17:=(k16.AE λ_ _ e=>e.elim).trans q17 λ_ _ h=>h;have z17:F7 w17:=z15.kx s17 (by omega);have h16:=k16.sz;have h17:w17.heap.size=w16.heap.size:=by rw [e17];simp
 clear e17;refine⟨(nn:Int),by rw [o17.rI (by omega),hnn],(A9g (n:=nn) (by omega) z17).AE ?_⟩;rintro _ w18 ⟨aca,cca,rfl,k18,Rca⟩;have o18:=o17.k k18;have so18:=so17.k k18;refine⟨_,_,_,rfl,so18.wr (by simp [AM]),λw19 e19=>?_⟩;have so19:=LH (i:=7) so18 e19;have o19:=o18.n1 e19 hne;have q19:AB (·=kb) w18 w19:=kr.s1 e19 (.inl rfl);have s19:AB (·=kb) w17 w19:=(k18.AE λ_ _ e=>e.elim).trans q19 λ_ _ h=>h;have z19:F7 w19:=z17.kx s19 (by omega);have h18:=k18.sz;have h19:w19.heap.size=w18.heap.size:=by rw [e19];simp
 clear e19;refine⟨(nn:Int),by rw [o19.rI (by omega),hnn],(A80 (n:=nn) (w:=w19) (by omega)).AE ?_⟩;rintro _ w20 ⟨ade,cde,rfl,k20,Rde⟩;have o20:=o19.k k20;have so20:=so19.k k20;refine⟨_,_,_,rfl,so20.wr (by simp [AM]),λw21 e21=>?_⟩;have so21:=LH (i:=8) so20 e21;have o21:=o20.n1 e21 hne;have q21:AB (·=kb) w20 w21:=kr.s1 e21 (.inl rfl);have s21:AB (·=kb) w19 w21:=(k20.AE λ_ _ e=>e.elim).trans q21 λ_ _ h=>h;have z21:F7 w21:=z19.kx s21 (by omega);have h20:=k20.sz;have h21:w21.heap.size=w20.heap.size:=by rw [e21];simp
 clear e21;refine⟨(nc:Int),by rw [o21.rI (by omega),hnc],(B49 (n:=nc) (w:=w21) (by omega)).AE ?_⟩;rintro _ w22 ⟨ama,cma,rfl,k22,Rma⟩;have o22:=o21.k k22;have so22:=so21.k k22;refine⟨_,_,_,rfl,so22.wr (by simp [AM]),λw23 e23=>?_⟩;have so23:=LH (i:=9) so22 e23;have o23:=o22.n1 e23 hne;have q23:AB (·=kb) w22 w23:=kr.s1 e23 (.inl rfl);have s23:AB (·=kb) w21 w23:=(k22.AE λ_ _ e=>e.elim).trans q23 λ_ _ h=>h;have z23:F7 w23:=z21.kx s23 (by omega);have h22:=k22.sz;have h23:w23.heap.size=w22.heap.size:=by rw [e23];simp
 clear e23;refine⟨(nn:Int),by rw [o23.rI (by omega),hnn],(A90 (n:=nn) (by omega) w23).AE ?_⟩;rintro _ w24 ⟨atu,ctu,rfl,k24,Rtu⟩;have o24:=o23.k k24;have so24:=so23.k k24;refine⟨_,_,_,rfl,so24.wr (by simp [AM]),λw25 e25=>?_⟩;have so25:=LH (i:=10) so24 e25;have o25:=o24.n1 e25 hne;have q25:AB (·=kb) w24 w25:=kr.s1 e25 (.inl rfl);have s25:AB (·=kb) w23 w25:=(k24.AE λ_ _ e=>e.elim).trans q25 λ_ _ h=>h;have z25:F7 w25:=z23.kx s25 (by omega);have h24:=k24.sz;have h25:w25.heap.size=w24.heap.size:=by rw [e25];simp
 clear e25;refine⟨(nc:Int),by rw [o25.rI (by omega),hnc],AA FQ λw26 e26=>?_⟩;have k26:=kal e26;rw [tnc] at e26;have Rhe:BM (λ_=>EL []) nc (.slice (some ⟨w25.heap.size,0,none⟩) nc nc) (rng w25 w26) w26:=B66 e26 λj hj=>⟨⟨none,0,0,rfl,BV.MG,λx hx=>by simp [Value.ownBlock] at hx⟩,λx hx=>hx.elim⟩;clear e26;have o26:=o25.k k26;have so26:=so25.k k26;refine⟨so26.wr (by simp [AM]),λw27 e27=>?_⟩;rw [tnc] at e27;have so27:=LH (i:=20) so26 e27;have o27:=o26.n1 e27 hne;have q27:AB (·=kb) w26 w27:=kr.s1 e27 (.inl rfl);have s27:AB (·=kb) w25 w27:=(k26.AE λ_ _ e=>e.elim).trans q27 λ_ _ h=>h;have z27:F7 w27:=z25.kx s27 (by omega);have h26:=k26.sz;have h27:w27.heap.size=w26.heap.size:=by rw [e27];simp
 clear e27;refine⟨(nc:Int),by rw [o27.rI (by omega),hnc],AA FQ λw28 e28=>?_⟩;have k28:=kal e28;rw [tnc] at e28;have Rfl:BM (λ_=>B7i) nc (.slice (some ⟨w27.heap.size,0,none⟩) nc nc) (rng w27 w28) w28:=B66 e28 λj hj=>⟨rfl,λx hx=>hx.elim⟩;clear e28;have o28:=o27.k k28;have so28:=so27.k k28;refine⟨so28.wr (by simp [AM]),λw29 e29=>?_⟩;rw [tnc] at e29;have so29:=LH (i:=21) so28 e29;have o29:=o28.n1 e29 hne;have q29:AB (·=kb) w28 w29:=kr.s1 e29 (.inl rfl);have s29:AB (·=kb) w27 w29:=(k28.AE λ_ _ e=>e.elim).trans q29 λ_ _ h=>h;have z29:F7 w29:=z27.kx s29 (by omega);have h28:=k28.sz;have h29:w29.heap.size=w28.heap.size:=by rw [e29];simp
 clear e29;refine⟨(nc:Int),by rw [o29.rI (by omega),hnc],(A8u (n:=nc) (by omega) w29).AE ?_⟩;rintro _ w30 ⟨afi,cfi,rfl,k30,Rfi⟩;have o30:=o29.k k30;have so30:=so29.k k30;refine⟨_,_,_,rfl,so30.wr (by simp [AM]),λw31 e31=>?_⟩;have so31:=LH (i:=22) so30 e31;have o31:=o30.n1 e31 hne;have q31:AB (·=kb) w30 w31:=kr.s1 e31 (.inl rfl);have s31:AB (·=kb) w29 w31:=(k30.AE λ_ _ e=>e.elim).trans q31 λ_ _ h=>h;have z31:F7 w31:=z29.kx s31 (by omega);have h30:=k30.sz;have h31:w31.heap.size=w30.heap.size:=by rw [e31];simp
 clear e31;have t30:AB (·=kb) w30 w31:=q31;have u29:AB (·=kb) w29 w31:=(k30.AE λ_ _ e=>e.elim).trans t30 λ_ _ h=>h;have t28:AB (·=kb) w28 w31:=q29.trans u29 λ_ _ h=>h;have u27:AB (·=kb) w27 w31:=(k28.AE λ_ _ e=>e.elim).trans t28 λ_ _ h=>h;have t26:AB (·=kb) w26 w31:=q27.trans u27 λ_ _ h=>h;have u25:AB (·=kb) w25 w31:=(k26.AE λ_ _ e=>e.elim).trans t26 λ_ _ h=>h;have t24:AB (·=kb) w24 w31:=q25.trans u25 λ_ _ h=>h;have u23:AB (·=kb) w23 w31:=(k24.AE λ_ _ e=>e.elim).trans t24 λ_ _ h=>h;have t22:AB (·=kb) w22 w31:=q23.trans u23 λ_ _ h=>h;have u21:AB (·=kb) w21 w31:=(k22.AE λ_ _ e=>e.elim).trans t22 λ_ _ h=>h;have t20:AB (·=kb) w20 w31:=q21.trans u21 λ_ _ h=>h;have u19:AB (·=kb) w19 w31:=(k20.AE λ_ _ e=>e.elim).trans t20 λ_ _ h=>h;have t18:AB (·=kb) w18 w31:=q19.trans u19 λ_ _ h=>h;have u17:AB (·=kb) w17 w31:=(k18.AE λ_ _ e=>e.elim).trans t18 λ_ _ h=>h;have t16:AB (·=kb) w16 w31:=q17.trans u17 λ_ _ h=>h;have u15:AB (·=kb) w15 w31:=(k16.AE λ_ _ e=>e.elim).trans t16 λ_ _ h=>h;have t14:AB (·=kb) w14 w31:=q15.trans u15 λ_ _ h=>h;have u13:AB (·=kb) w13 w31:=(k14.AE λ_ _ e=>e.elim).trans t14 λ_ _ h=>h;have t12:AB (·=kb) w12 w31:=q13.trans u13 λ_ _ h=>h;have u11:AB (·=kb) w11 w31:=(k12.AE λ_ _ e=>e.elim).trans t12 λ_ _ h=>h;have t10:AB (·=kb) w10 w31:=q11.trans u11 λ_ _ h=>h;have u9:AB (·=kb) w9 w31:=(k10.AE λ_ _ e=>e.elim).trans t10 λ_ _ h=>h;have t8:AB (·=kb) w8 w31:=q9.trans u9 λ_ _ h=>h;have u7:AB (·=kb) w7 w31:=(k8.AE λ_ _ e=>e.elim).trans t8 λ_ _ h=>h;have t6:AB (·=kb) w6 w31:=q7.trans u7 λ_ _ h=>h;have u5:AB (·=kb) w5 w31:=(k6.AE λ_ _ e=>e.elim).trans t6 λ_ _ h=>h;have t4:AB (·=kb) w4 w31:=q5.trans u5 λ_ _ h=>h;have u3:AB (·=kb) w3 w31:=(k4.AE λ_ _ e=>e.elim).trans t4 λ_ _ h=>h;refine⟨(K3.AE λ_ _ e=>e.elim).trans (X:=λx=>False) u3 (λx hx e=>by omega),.inr ⟨hm,kb,⟨c,pm,pz,pd,pl,pr,ps,.slice ack nn cck,.slice aca nn cca,.slice ade nn cde,.slice ama nc cma,.slice atu nn ctu,.slice (some ⟨w25.heap.size,0,none⟩) nc nc,.slice (some ⟨w27.heap.size,0,none⟩) nc nc,.slice afi nc cfi,λ_=>none,λ_=>0,λ_=>CX,Z,LL,λ_=>0,λ_=>0,λ_=>(0,0),[],λ_=>(0,0),λ_=>[],λ_=>[],λ_=>[],replicate nc (-1),λ_=>0,λ_=>0⟩,
  λp x=>match p with
   | .core=>x=kb
   | .mem=>rng w3 w4 x
   | .zones=>rng w5 w6 x
   | .dev=>rng w7 w8 x
   | .locks=>rng w9 w10 x
   | .rmap=>rng w11 w12 x
   | .AY=>rng w13 w14 x
   | .clocks=>rng w15 w16 x
   | .caches=>rng w17 w18 x
   | .depots=>rng w19 w20 x
   | .mags=>rng w21 w22 x
   | .turns=>rng w23 w24 x
   | .held=>rng w25 w26 x
   | .flying=>rng w27 w28 x
   | .flight=>rng w29 w30 x
   | .space _=>False,rfl,⟨?_,?_,hm,?_⟩,rfl,⟨rfl,rfl,hZg,rfl,rfl,rfl,rfl,rfl,rfl,rfl,rfl,by unfold AR.AS;rw [ec],rfl⟩,?_⟩⟩
 .intro p q x h1 h2
  cases p <;> cases q <;> first|rfl|exact h1.elim|exact h2.elim|(simp only [rng] at h1 h2;omega)
 .intro p x h1
  cases p <;> first|exact h1.elim|(simp only [rng] at h1;omega)
 .intro p
  cases p with
  | core=>exact⟨so31,rfl⟩
  | mem=>exact PAt.kx (p:=.mem) (w:=w4) (⟨bb,mb,by rw [<- en] at *;exact M,⟨f1,M.so.lt⟩,⟨f2,M.bs.lt⟩,⟨f3,M.ms.lt⟩⟩) t4 λx e h=>by simp only [rng] at h;omega
  | zones=>exact PAt.kx (p:=.zones) (w:=w6) (⟨hZ,λx hx=>⟨hZf x hx,hZ.lt hx⟩,hZc⟩) t6 λx e h=>by simp only [rng] at h;omega
  | dev=>exact PAt.kx (p:=.dev) (w:=w8) (⟨db,by unfold AR.AY;rw [es];exact D,⟨d1,D.so.lt⟩,⟨d2,D.bs.lt⟩⟩) t8 λx e h=>by simp only [rng] at h;omega
  | locks=>exact PAt.kx (p:=.locks) (w:=w10) (⟨by unfold AR.AK;rw [en];exact K,⟨l1,AX.lt K⟩⟩) t10 λx e h=>by simp only [rng] at h;omega
  | rmap=>exact PAt.kx (p:=.rmap) (w:=w12) (⟨rb,rm,R,⟨r1,R.so.lt⟩,⟨r2,R.fs.lt⟩,⟨r3,R.mp.lt⟩⟩) t12 λx e h=>by simp only [rng] at h;omega
  | AY=>exact PAt.kx (p:=.AY) (w:=w14) (⟨sb,by unfold AR.AY;rw [es];exact Q,⟨s1,Q.so.lt⟩,⟨s2,Q.fs.lt⟩⟩) t14 λx e h=>by simp only [rng] at h;omega
  | clocks=>exact PAt.kx (p:=.clocks) (w:=w16) (by show BM _ (AR.AK _) _ _ _;unfold AR.AK;rw [en];exact Rck) t16 λx e h=>by simp only [rng] at h;omega
  | caches=>exact PAt.kx (p:=.caches) (w:=w18) (by show BM _ (AR.AK _) _ _ _;unfold AR.AK;rw [en];exact Rca) t18 λx e h=>by simp only [rng] at h;omega
  | depots=>exact PAt.kx (p:=.depots) (w:=w20) (by show BM _ (AR.AK _) _ _ _;unfold AR.AK;rw [en];exact Rde) t20 λx e h=>by simp only [rng] at h;omega
  | turns=>exact PAt.kx (p:=.turns) (w:=w24) (by show BM _ (AR.AK _) _ _ _;unfold AR.AK;rw [en];exact Rtu) t24 λx e h=>by simp only [rng] at h;omega
  | mags=>exact PAt.kx (p:=.mags) (w:=w22) (by show BM _ (AR.AS _) _ _ _;unfold AR.AS;rw [ec];exact Rma) t22 λx e h=>by simp only [rng] at h;omega
  | held=>exact PAt.kx (p:=.held) (w:=w26) (by show BM _ (AR.AS _) _ _ _;unfold AR.AS;rw [ec];exact Rhe) t26 λx e h=>by simp only [rng] at h;omega
  | flying=>exact PAt.kx (p:=.flying) (w:=w28) (by show BM _ (AR.AS _) _ _ _;unfold AR.AS;rw [ec];exact Rfl) t28 λx e h=>by simp only [rng] at h;omega
  | flight=>exact PAt.kx (p:=.flight) (w:=w30) (⟨⟨_,_,_,rfl,Rfi.B7o (Nat.zero_le _),λx hx=>⟨(Rfi.lt hx).1,(Rfi.lt hx).2⟩⟩,λx hx=>hx.2⟩) t30 λx e h=>by simp only [rng] at h;omega
  | space i=>exactλb hb=>by cases hb
 .intro p x h1
  cases p <;> first|exact h1.elim|(simp only [rng] at h1;omega)
theorem B3o{α:Type}{R:Rd α}{w:WD}{n:Nat}{xs:List α}(row:w.ownsRow base T s (.slice a l c) n vs)(hl:n=xs.length)(hF:∀x,F x->x<w.heap.size)
 (hel:∀(i:Nat) x,xs[i]? = some x->∃cs:List Value,cs.length=s/\(∀(j:Nat) u,cs[j]? = some u->vs[i*s+j]? = some u)/\∀w',AB (λb=>¬F b) w w'->R w' cs x) :
 At (λx=>(slice a l c).ownBlock=some x\/F x) (λW=>SlR R s W a l c xs) w:=by
 refine⟨λx hx=>hx.elim (λh=>(row.lt x h).2) (hF x),λw' k=>?_⟩;have row':=BA row k λb _ _ e hb=>hb (.inl e);have kF:AB (λb=>¬F b) w w':=k.AE λb _ hb hf=>hb (.inr hf);rcases row'.2 with⟨h0,h1⟩|⟨g,cap,cur,h0,hb,hgg,hnc,hm,hsz,htk⟩
 .have:xs=[]:=List.length_eq_zero_iff.1 (by omega);subst this
  cases h0
  exact SlR.MG
 .cases h0
  subst hl;refine⟨rfl,λ_=>rfl,λh=>(by cases h),hnc,hm,λi x hx=>?_,λo ho=>?_⟩
  rotate_left
  .have h6:o<cur.size:=by rw [hsz];exact nll ho (Nat.mul_le_mul_right _ hnc)
   refine⟨⟨cur[o],?_⟩,by simp [World.frozen?,hgg]⟩
   show rd w' g (0+o)=_
   rw [za,FG,hgg];simp [h6]
  obtain⟨cs,g1,g2,g3⟩:=hel i x hx;refine⟨cs,g1,g3 _ kF,λj u hu=>?_⟩;have h4:=g2 j u hu;have h5:(cur.toList.take (xs.length*s))[i*s+j]? = some u:=by rw [htk];exact h4
  rw [List.getElem?_take] at h5;split at h5
  .show rd w' g (0+i*s+j)=_
   rw [za,FG,hgg];rw [Array.getElem?_toList] at h5;exact h5
  .cases h5
theorem A63{α:Type}{f:α->List Value}{s:Nat}(h:∀x,(f x).length=s):∀{xs:List α}{i:Nat}{x:α},xs[i]? = some x->∀{j:Nat}{u:Value},(f x)[j]? = some u->(xs.flatMap f)[i*s+j]? = some u
 | [],i,x,hx,j,u,hu=>by simp at hx
 | y::ys,0,x,hx,j,u,hu=>by
  simp at hx;subst hx;rw [List.flatMap_cons,Nat.zero_mul,za,gal (DC.1 hu).1];exact hu
 | y::ys,i+1,x,hx,j,u,hu=>by
  rw [List.flatMap_cons,gar (by rw [h,Nat.succ_mul];omega),h,Nat.succ_mul,show i*s+s+j-s=i*s+j by omega];exact A63 h (by simpa using hx) hu
theorem IL{α:Type}{f:α->List Value}(h:∀x,(f x).length=s){w:WD}{n:Nat}{xs:List α}(row:w.ownsRow base T s (.slice a l c) n (xs.flatMap f))(hn:n=xs.length) :
 At (λx=>(slice a l c).ownBlock=some x) (λW=>SlR (λ_ cs x=>cs=f x) s W a l c xs) w:=
 (B3o (F:=λ_=>False) row hn (λ_ h=>h.elim) λi x hx=>⟨f x,h x,λj u hu=>A63 h hx hu,λ_ _=>rfl⟩).AE (λx hx=>hx.resolve_right id) λx hx=>(row.lt x hx).2
theorem st5{w:WD}(h:AX w b cs)(hl:cs.length=5)(e:w'=st (st (st (st (st w b 0 v0) b 1 v1) b 2 v2) b 3 v3) b 4 v4):AX w' b [v0,v1,v2,v3,v4]/\AB (·=b) w w':=by
 subst e
 match cs,hl with
 | [a,c,d,f,g],_=>
  exact⟨h.BT.BT.BT.BT.BT,((((AB.refl (·=b) w).st (.inl rfl)).st (.inl rfl)).st (.inl rfl) |>.st (.inl rfl)).st (.inl rfl)⟩
theorem wr5{w:WD}(h:AX w b cs)(hl:cs.length=5):wr w b 0/\wr w b 1/\wr w b 2/\wr w b 3/\wr w b 4:=⟨h.wr (by omega),h.wr (by omega),h.wr (by omega),h.wr (by omega),h.wr (by omega)⟩
theorem rd5{w:WD}(h:AX w b [v0,v1,v2,v3,v4]):rd w b 0=some v0/\rd w b 1=some v1/\rd w b 2=some v2/\rd w b 3=some v3/\rd w b 4=some v4:=⟨by rw [h.rd];rfl,by rw [h.rd];rfl,by rw [h.rd];rfl,by rw [h.rd];rfl,by rw [h.rd];rfl⟩
theorem st2{w:WD}(h:AX w b cs)(hl:cs.length=2)(e:w'=st (st w b 0 v0) b 1 v1):AX w' b [v0,v1]/\AB (·=b) w w':=by
 subst e
 match cs,hl with
 | [a,c],_=>exact⟨h.BT.BT,((AB.refl (·=b) w).st (.inl rfl)).st (.inl rfl)⟩
theorem EO{w:WD}{n:Nat}{f:Nat->List Value}(h:AX w b (D4 n f))(hf:∀i,i<n->(f i).length=s){j:Nat}(hi:i<n)(hj:j<s){v:Value}(hv:(f i)[j]? = some v):rd w b (i*s+j)=some v:=by
 rw [h.rd,ES hf hi hj,hv]
section
variable {w:WD}{m bb mb:Nat}{c:NI}{n:Nat}{by':NI}{mk:Nat->Mark}
theorem BU.k(h:BU w m bb mb c n by' mk)(k:AB AD w w'):BU w' m bb mb c n by' mk:=⟨h.so.k k,h.bs.k k,h.ms.k k,h.ne⟩
theorem BU.r95(h:BU w m bb mb c n by' mk):rd w m 95=some (.slice (some ⟨mb,0,none⟩) n n):=by
 rw [h.so.rd,gar (by rw [AM];omega),AM]
 rfl
theorem BU.r94(h:BU w m bb mb c n by' mk):rd w m 94=some (.slice (some ⟨bb,0,none⟩) (n*256) (n*256)):=by
 rw [h.so.rd,gar (by rw [AM];omega),AM]
 rfl
theorem BU.rm(h:BU w m bb mb c n by' mk)(hi:i<n):rd w mb (0+i*5)=some (.int .u8 (mk i).role)/\rd w mb (0+i*5+1)=some (vi (mk i).order)/\rd w mb (0+i*5+2)=some (vi (mk i).owner)/\rd w mb (0+i*5+3)=some (vi (mk i).page)/\rd w mb (0+i*5+4)=some (vi (mk i).index):=by
 have hf:∀i,i<n->(FI (mk i)).length=5:=λ_ _=>rfl;rw [za];exact⟨EO h.ms hf hi (j:=0) (by omega) rfl,EO h.ms hf hi (j:=1) (by omega) rfl,EO h.ms hf hi (j:=2) (by omega) rfl,EO h.ms hf hi (j:=3) (by omega) rfl,EO h.ms hf hi (j:=4) (by omega) rfl⟩
theorem B1q(h:BU w m bb mb c n by' mk)(hi:i<n):Calls prog 24 #[AP m,vi i] w λe w'=>e=.returned (.tuple #[.agg (FI (mk i)).toArray,vi 0])/\AB AD w w':=by
 refine(vc24 _ i w (λv w'=>v=.tuple #[.agg (FI (mk i)).toArray,vi 0]/\AB AD w w') ?_).AE ?_
 rotate_left
 .rintro e w' ⟨v,rfl,rfl,hk⟩;exact⟨rfl,hk⟩
 unfold Q;intro w1 e1;have o1:=AG (c:=[int IntKind.u8 0,int IntKind.i64 0,int IntKind.i64 0,int IntKind.i64 0,int IntKind.i64 0]) e1;have k1:=kal e1;have h1:=h.k k1;have h95:rd w1 m (0+95)=some (.slice (some ⟨mb,0,none⟩) n n):=by rw [za];exact h1.r95
 have hlt:(decide ((i:Int)<0)||decide ((i:Int)>=(n:Int)))=false:=by simp;omega
 refine⟨_,_,_,λ_=>h95,AL rfl ⟨_,_,_,λ_=>h95,AL hlt (AA rfl ⟨_,_,_,h95,AA rfl (Wi ?_)⟩)⟩⟩;refine⟨_,_,_,_,_,by rw [tnc];exact h1.rm hi,wr5 o1 rfl,λw2 e2=>?_⟩;obtain⟨o2,k2⟩:=st5 o1 rfl e2;exact⟨_,_,_,_,_,rd5 o2,rfl,BO k1 k2 λx e=>by omega⟩
end
theorem B1p{w:WD}{k kb:Nat}{S:AR}{fp:Prt->Nat->Prop}(h:AO w k S fp)(hk:rd w kb 0=some (AP k)) :
 Calls prog 127 #[vi S.n,.func (.func 128) #[] #[AP kb]] w λe w'=>∃a l c,e=.returned (.slice a l c)/\AB AD w w'/\At (rng w w') (λW=>SlR B3t 5 W a l c ((range S.n).map S.mks)) w':=by
 have h4:=h.n4;refine(C4a (n:=S.n) (w0:=w) (J:=λF i vs w=>vs=((range i).map S.mks).flatMap FI) (by omega) ⟨λF i vs w w' X h _ _=>h,λF i vs w1 hi hv k1 hF=>AN.mk _ #[] #[_] rfl (by kernel_rfl) ?_⟩ rfl).AE ?_
 .obtain⟨bb,mb,M,_⟩:=(h.k k1).at' .mem;refine(vc128 i (some ⟨kb,0,none⟩) w1 (λv w'=>v=.agg (FI (S.mks i)).toArray/\AB AD w1 w') ?_).AE ?_
  .unfold Q;intro w2 e2;have o2:=AG (c:=[int IntKind.u8 0,int IntKind.i64 0,int IntKind.i64 0,int IntKind.i64 0,int IntKind.i64 0]) e2;have k2:=kal e2;have C2:=(h.k k1).k k2;refine AA rfl ⟨_,(k1.tr k2).AV hk id,AA rfl ⟨_,by show rd w2 k (0+94)=_;rw [za];exact C2.rt (j:=0) rfl,(B1q (M.k k2) hi).AE ?_⟩⟩;rintro _ w3 ⟨rfl,k3⟩;have o3:=o2.k k3;refine⟨_,_,_,_,_,_,rfl,λw4 e4=>?_⟩;have o4:=AG (c:=[int IntKind.u8 0,int IntKind.i64 0,int IntKind.i64 0,int IntKind.i64 0,int IntKind.i64 0]) e4;have k4:=kal e4;refine⟨wr5 o4 rfl,λw5 e5=>?_⟩;obtain⟨o5,k5⟩:=st5 o4 rfl e5;have hne:w1.heap.size≠w3.heap.size:=Nat.ne_of_lt o3.lt;have o53:=(o3.k k4).kx k5 hne;refine⟨_,_,_,_,_,rd5 o5,wr5 o53 rfl,λw6 e6=>?_⟩;obtain⟨o6,k6⟩:=st5 o53 rfl e6;refine⟨_,_,_,_,_,rd5 o6,rfl,BO (BO ((k2.tr k3).tr k4) k5 λx e=>?_) k6 λx e=>Nat.le_of_eq e.symm⟩;have:=o3.lt;omega
  .rintro e w' ⟨v,rfl,rfl,k⟩;refine⟨FI (S.mks i),⟨_,_,_,_,_,rfl,rfl⟩,rfl,λu hu=>?_,k,?_⟩
   .simp [FI] at hu;rcases hu with rfl|rfl|rfl|rfl|rfl <;> rfl
   .rw [hv,List.range_succ,F6,List.flatMap_append];simp
 .rintro e w' ⟨a,c,F,vs,rfl,kk,row,rfl,_,_⟩;refine⟨a,_,c,rfl,kk,?_⟩;exact(IL (f:=FI) (λ_=>rfl) row (by simp)).AE (λx hx=>row.lt x hx) λx hx=>hx.2
def GD{α:Type}(R:Rd α)(x:α):IM:=λu H w=>At H (λW=>R W [u] x) w
theorem GD.stb{α:Type}{R:Rd α}{x:α}:Stb (GD R x) where
 kx v H w w' X h k hx:=At.kx h k λy e hy=>hx y e hy
 lt v H w h:=h.lt
theorem HG{α:Type}{R:Rd α}{xs:Nat->α}{n:Nat}{w:WD}(row:w'.ownsRow w.heap.size T 1 (.slice a n c) n vs)(hj:n<=n/\C3k (λj=>GD R (xs j)) F n vs w')(hF:∀x,F x->w.heap.size<=x/\x<w'.heap.size) :
 At (rng w w') (λW=>SlR R 1 W a n c ((range n).map xs)) w':=by
 obtain⟨_,u,H,rfl,h2,h3,_⟩:=hj;refine(B3o (F:=F) row (by simp) (λx hx=>(hF x hx).2) λi x hx=>?_).AE (λx hx=>hx.elim (λe=>row.lt x e) (hF x)) λx hx=>hx.2;have hi:i<n:=by simpa using (DC.1 hx).1
 simp [hi] at hx;subst hx;refine⟨[u i],rfl,λj v hv=>?_,λw'' k=>(h2 i hi).go w'' (k.AE λb _ hb hH=>hb (h3 i hi b hH))⟩;have hj:j=0:=by have:=(DC.1 hv).1;simp at this;omega
 subst hj;simp at hv;simp [hi,hv]
theorem C4n{w:WD}{t:TypeId}(e:w'=w.alloc (.cells #[] t)):w'.ownsRow w.heap.size t s (.slice (some ⟨w.heap.size,0,none⟩) 0 0) 0 []:=by
 refine⟨by simp,.inr ⟨_,0,#[],rfl,nlr _,?_,by decide,by decide,by simp,by simp⟩⟩;rw [e];simp only [World.alloc];simp
theorem NT:∀xs:List Int,xs.map vi=xs.flatMap λx=>[vi x]
 | []=>rfl
 | x::xs=>by rw [List.map_cons,List.flatMap_cons,NT xs];rfl
theorem BV.at{w:WD}(h:BV w base a l c xs):At (λx=>(slice a l c).ownBlock=some x) (λW=>SlR GW 1 W a l c xs) w:=by
 have row:=h.2;rw [NT] at row;exact IL (f:=λx=>[vi x]) (λ_=>rfl) row h.1
theorem JO {w:WD}    (h:DT w a l c xs) (hl:xs.length<=1000000) :
    Calls prog 133 #[.slice a l c] w λe w'=>∃a' c',e=.returned (.slice a' xs.length c')/\AB AD w w'/\BV w' w.heap.size a' xs.length c' xs:=by
  refine(vc133 a l c w (λv w'=>∃a' c',v=(.slice a' xs.length c')/\AB AD w w'/\BV w' w.heap.size a' xs.length c' xs) ?_).AE ?_
  rotate_left
  . rintro e w' ⟨v,rfl,a',c',rfl,h⟩
    exact⟨a',c',rfl,h⟩
  unfold Q;refine AH (λhn=>?_) (λhn=>λw1 e1=>?_)
  . have:a=none:=by simpa using hn
    subst this;have h0:xs=[]:=by
      rcases h.ex with⟨_,h1,_⟩|⟨g,o,cs,h0,_⟩
      . exact List.length_eq_zero_iff.1 (by have:=h.len;omega)
      . cases h0
    subst h0;exact⟨none,0,rfl,AB.refl _ _,BV.MG⟩
  . have k1:=kal e1
    have r1:w1.ownsRow w.heap.size 3 1 _ 0 []:=C4n e1;have hsrc:Eng.Src w1 a l c (xs.map vi):=(h.k k1).src
    cases hi:prog.info? 3 with
    | none => have : (prog.info? 3).isSome = true := by kernel_rfl
              rw [hi] at this; cases this
    | some i=>
      have hinf:=A6o;rw [hi] at hinf;simp at hinf
      obtain⟨a',c',w2,happ,row,k2⟩:=Eng.app (P:=prog) (t:=27) (ty:=27) (e:=3) (i:=i) (z:=.int .i64 0) (size:=1) underlying27 hi hinf.1 hinf.2.1 rfl (by decide) r1 hsrc (by simp [h.len]) (λu hu=>by
        obtain⟨x,_,rfl⟩:=List.mem_map.1 hu
        rfl) (by rw [h.len];omega) (by omega) k1.sz
      rw [za,h.len] at happ row;rw [h.len];refine⟨a',_,c',w2,happ,a',c',rfl,BO k1 k2 λx e=>?_,rfl,by simpa using row⟩;have:=(r1.lt x e).1;exact this
section
variable {w:WD}{k kb:Nat}{S:AR}{fp:Prt->Nat->Prop}
theorem B5j(h:AO w k S fp)(hk:rd w kb 0=some (AP k))(hl:∀i,i<S.AS->(S.held i).length<=1000000) :
 Calls prog 131 #[vi (S.c 1),.func (.func 132) #[] #[AP kb]] w λe w'=>∃a l c,e=.returned (.slice a l c)/\AB AD w w'/\At (rng w w') (λW=>SlR (RL GW 1) 1 W a l c ((range S.AS).map S.held)) w':=by
 have hs:=h.BQ;rw [<- hs.2.1.2.2];refine(C0o (n:=S.AS) (w0:=w) (by omega) (CU (A:=λj=>GD (RL GW 1) (S.held j)) (λ_ _=>GD.stb) λi w1 hi k1=>AN.mk _ #[] #[_] rfl (by kernel_rfl) ?_) HI).AE ?_
 .have C1:=h.k k1;have hh:BM (λi=>EL (S.held i)) S.AS S.vhe (fp .held) w1:=C1.at' .held;obtain⟨g,cp,u,H,hv,hr,hA,_,_⟩:=hh.one (B:=λi=>EL (S.held i)) (λ_ _=>EL.stb) hi λ_ _=>rfl;obtain⟨a,l,c,rfl,hR,_⟩:=hA.ex;refine(vc132 i (some ⟨kb,0,none⟩) w1 (λv w'=>∃a' c',v=(.slice a' (S.held i).length c')/\AB AD w1 w'/\BV w' w1.heap.size a' (S.held i).length c' (S.held i)) ?_).AE ?_
  .unfold Q;refine AA rfl ⟨_,k1.AV hk id,AA rfl ⟨some ⟨g,0,none⟩,S.AS,cp,?_,AA rfl (Wi ⟨a,l,c,?_,(JO hR.o (hl i hi)).AE ?_⟩)⟩⟩
   .have:=C1.rt (j:=20) (v:=S.vhe) rfl;rw [hv] at this
    show rd w1 k (0+114)=_
    rw [za];exact this
   .rw [tnc,mo]
    show rd w1 g (0+i)=_
    rw [za];exact hr
   .rintro _ w2 ⟨a',c',rfl,k2,R2⟩;exact⟨a',_,c',rfl,a',c',rfl,k2,R2⟩
  .rintro e w' ⟨v,rfl,a',c',rfl,k2,R2⟩;exact⟨_,_,⟨_,_,_,rfl,rfl⟩,rfl,k2,R2.at.imp λW hW=>⟨a',_,c',rfl,hW⟩,λx hx=>(R2.lt hx).1⟩
 .rintro e w' ⟨a,c,F,vs,rfl,kk,row,hj,hF,_⟩;exact⟨a,_,c,rfl,kk,HG row hj hF⟩
theorem A8t(h:AO w k S fp)(hk:rd w kb 0=some (AP k)) :
 Calls prog 134 #[vi (S.c 1),.func (.func 135) #[] #[AP kb]] w λe w'=>∃a l c,e=.returned (.slice a l c)/\AB AD w w'/\At (rng w w') (λW=>SlR (RL E6 2) 1 W a l c ((range S.AS).map λ_=>[])) w':=by
 have hs:=h.BQ;rw [<- hs.2.1.2.2];refine(B7z (n:=S.AS) (w0:=w) (by omega) (CU (A:=λj=>GD (RL E6 2) []) (λ_ _=>GD.stb) λi w1 hi k1=>AN.mk _ #[] #[_] rfl (by kernel_rfl) ?_) HI).AE ?_
 .have C1:=h.k k1;have hh:BM (λi=>B7i) S.AS S.vfl (fp .flying) w1:=C1.at' .flying;obtain⟨g,cp,u,H,hv,hr,hA,_,_⟩:=hh.one (B:=λi=>B7i) (λ_ _=>B7i.stb) hi λ_ _=>rfl;obtain⟨rfl,_⟩:=hA;refine(vc135 i (some ⟨kb,0,none⟩) w1 (λv w'=>v=.slice none 0 0/\w'=w1) ?_).AE ?_
  .unfold Q;refine AA rfl ⟨_,k1.AV hk id,AA rfl ⟨some ⟨g,0,none⟩,S.AS,cp,?_,AA rfl (Wi ⟨none,0,0,?_,(vc136 none 0 0 w1 (λv w'=>v=.slice none 0 0/\w'=w1) ?_).AE ?_⟩)⟩⟩
   .have:=C1.rt (j:=21) (v:=S.vfl) rfl;rw [hv] at this
    show rd w1 k (0+115)=_
    rw [za];exact this
   .rw [tnc,mo]
    show rd w1 g (0+i)=_
    rw [za];exact hr
   .unfold Q;exact AA rfl ⟨rfl,rfl⟩
   .rintro _ w2 ⟨v,rfl,rfl,rfl⟩;exact⟨none,0,0,rfl,rfl,rfl⟩
  .rintro e w' ⟨v,rfl,rfl,rfl⟩;exact⟨_,λ_=>False,⟨_,_,_,rfl,rfl⟩,rfl,AB.refl _ _,⟨λx hx=>hx.elim,λW hW=>⟨none,0,0,rfl,SlR.MG⟩⟩,λx hx=>hx.elim⟩
 .rintro e w' ⟨a,c,F,vs,rfl,kk,row,hj,hF,_⟩;exact⟨a,_,c,rfl,kk,HG row hj hF⟩
theorem A2s{r n:Nat}{of:Nat->Int×Int}{at':List ((Int×Int)×Value)}(h:DI w r fb mb n of at')(hi:i<n) :
 Calls prog 117 #[AP r,vi i] w λe w'=>e=.returned (.tuple #[vi (of i).1,vi (of i).2,.bool ((of i).1 != 0)])/\AB AD w w':=by
 refine(vc117 _ i w (λv w'=>v=.tuple #[vi (of i).1,vi (of i).2,.bool ((of i).1 != 0)]/\AB AD w w') ?_).AE ?_
 rotate_left
 .rintro e w' ⟨v,rfl,rfl,hk⟩;exact⟨rfl,hk⟩
 unfold Q;have h1:rd w r (0+1)=some (.map (some mb)):=by rw [h.so.rd];rfl
 have h0:rd w r 0=some (.slice (some ⟨fb,0,none⟩) n n):=by rw [h.so.rd];rfl
 have hlt:(decide ((i:Int)<0)||decide ((i:Int)>=(n:Int)))=false:=by simp;omega
 have hf:∀i,i<n->(E3 (of i)).length=2:=λ_ _=>rfl;have r0:rd w fb (0+i*2)=some (vi (of i).1):=by rw [za];exact EO h.fs hf hi (j:=0) (by omega) rfl
 have r1:rd w fb (0+i*2+1)=some (vi (of i).2):=by rw [za];exact EO h.fs hf hi (j:=1) (by omega) rfl
 refine⟨_,λ_=>h1,AL rfl ⟨_,_,_,λ_=>h0,AL hlt (AA rfl ⟨_,_,_,h0,AA rfl (Wi ⟨_,_,by rw [tnc];exact⟨r0,r1⟩,λw1 e1=>?_⟩)⟩)⟩⟩;have o1:=AG (c:=[int IntKind.i64 0,int IntKind.i64 0]) e1;have k1:=kal e1;refine⟨⟨o1.wr (by simp),o1.wr (by simp)⟩,λw2 e2 w3 e3=>?_⟩;obtain⟨o2,k2⟩:=st2 o1 rfl e2;have o3:=o2.dr e3;exact⟨_,by rw [o3.rd];rfl,_,by rw [o3.rd];rfl,_,by rw [o3.rd];rfl,rfl,(BO k1 k2 λx e=>Nat.le_of_eq e.symm).dr e3⟩
theorem A8d{n:Nat}{of:Nat->Int×Int}(h:ER w s fb n of)(hi:i<n) :
 Calls prog 141 #[AP s,vi i] w λe w'=>e=.returned (.tuple #[vi (of i).1,vi (of i).2,.bool ((of i).1 != 0)])/\AB AD w w':=by
 refine(vc141 _ i w (λv w'=>v=.tuple #[vi (of i).1,vi (of i).2,.bool ((of i).1 != 0)]/\AB AD w w') ?_).AE ?_
 rotate_left
 .rintro e w' ⟨v,rfl,rfl,hk⟩;exact⟨rfl,hk⟩
 unfold Q;have h0:rd w s 0=some (.slice (some ⟨fb,0,none⟩) n n):=by rw [h.so.rd];rfl
 have hf:∀i,i<n->(E3 (of i)).length=2:=λ_ _=>rfl;have r0:rd w fb (0+i*2)=some (vi (of i).1):=by rw [za];exact EO h.fs hf hi (j:=0) (by omega) rfl
 have r1:rd w fb (0+i*2+1)=some (vi (of i).2):=by rw [za];exact EO h.fs hf hi (j:=1) (by omega) rfl
 refine AL (by simp) (AL rfl (AA rfl ⟨_,_,_,h0,AL (by simp;omega) (AA rfl ⟨_,_,_,h0,AA rfl (Wi ⟨_,_,by rw [tnc];exact⟨r0,r1⟩,λw1 e1=>?_⟩)⟩)⟩));have o1:=AG (c:=[int IntKind.i64 0,int IntKind.i64 0]) e1;have k1:=kal e1;refine⟨⟨o1.wr (by simp),o1.wr (by simp)⟩,λw2 e2 w3 e3=>?_⟩;obtain⟨o2,k2⟩:=st2 o1 rfl e2;have o3:=o2.dr e3;exact⟨_,by rw [o3.rd];rfl,_,by rw [o3.rd];rfl,_,by rw [o3.rd];rfl,rfl,(BO k1 k2 λx e=>Nat.le_of_eq e.symm).dr e3⟩
theorem A4x{n:Nat}(h:BX w l n f):Calls prog 151 #[AP l] w λe w'=>e=.returned (vi n)/\w'=w:=by
 have hr:rd w l 0=some (vi n):=by rw [AX.rd h];rfl
 refine(vc151 _ w (λv w'=>v=vi n/\w'=w) ?_).AE ?_
 .unfold Q;exact AL rfl (AA rfl ⟨_,hr,rfl,rfl⟩)
 .rintro e w' ⟨v,rfl,rfl,rfl⟩;exact⟨rfl,rfl⟩
theorem BX.r1{n:Nat}(h:BX w l n f)(hi:i<64):rd w l (1+i)=some (vi (f i)):=by
 rw [AX.rd h,gar (by simp),gal (by rw [AM];simp;omega)];rw [show 1+i-[vi n].length=i by simp,AZ _ _ _ _ _ hi,za]
theorem BX.r65{n:Nat}(h:BX w l n f):rd w l 65=some (.bool true):=by
 rw [AX.rd h,gar (by simp),gar (by rw [AM];simp),AM]
 rfl
theorem A45{n:Nat}(h:BX w l n f)(hn:n<=64)(hi:i<n):Calls prog 153 #[AP l,vi i] w λe w'=>e=.returned (vi (wrap .i64 (f i-1)))/\w'=w:=by
 refine(vc153 _ i w (λv w'=>v=vi (wrap .i64 (f i-1))/\w'=w) ?_).AE ?_
 .unfold Q;have hr:rd w l 0=some (vi n):=by rw [AX.rd h];rfl
  have h65:rd w l (0+65)=some (.bool true):=by rw [za];exact h.r65
  refine⟨_,λ_=>h65,AL rfl ⟨_,λ_=>hr,AL (by simp;omega) (AA rfl (Wi ⟨_,?_,rfl,rfl⟩))⟩⟩;rw [tnc,mo]
  show rd w l (0+1+i)=_
  rw [za];exact h.r1 (by omega)
 .rintro e w' ⟨v,rfl,rfl,rfl⟩;exact⟨rfl,rfl⟩
theorem A44(h:AO w k S fp)(hk:rd w kb 0=some (AP k)) :
 Calls prog 88 #[vi (9+S.AK:Nat),.func (.func 152) #[] #[AP kb]] w λe w'=>∃a l c,e=.returned (.slice a l c)/\AB AD w w'/\At (rng w w') (λW=>SlR GW 1 W a l c ((range (9+S.AK)).map λi=>wrap .i64 (S.lh i-1))) w':=by
 have hs:=h.BQ;refine(C0p (n:=9+S.AK) (w0:=w) (J:=λF i vs w=>vs=((range i).map λi=>wrap .i64 (S.lh i-1)).map vi) (by omega) ⟨λF i vs w w' X h _ _=>h,λF i vs w1 hi hv k1 hF=>AN.mk _ #[] #[_] rfl (by kernel_rfl) ?_⟩ rfl).AE ?_
 .have C1:=h.k k1;obtain⟨hL,_⟩:BX w1 S.pl (9+S.AK) S.lh/\_:=C1.at' .locks;refine(vc152 i (some ⟨kb,0,none⟩) w1 (λv w'=>v=vi (wrap .i64 (S.lh i-1))/\w'=w1) ?_).AE ?_
  .unfold Q;refine AA rfl ⟨_,k1.AV hk id,AA rfl ⟨_,by show rd w1 k (0+97)=_;rw [za];exact C1.rt (j:=3) rfl,(A45 hL (by omega) hi).AE ?_⟩⟩;rintro _ _ ⟨rfl,rfl⟩;exact⟨_,rfl,rfl,rfl⟩
  .rintro e w' ⟨v,rfl,rfl,rfl⟩;refine⟨[_],⟨_,rfl,rfl⟩,rfl,λu hu=>by simp at hu;subst hu;rfl,AB.refl _ _,?_⟩;rw [hv,List.range_succ,F6,F6]
   rfl
 .rintro e w' ⟨a,c,F,vs,rfl,kk,row,rfl,_⟩;have R:BV w' w.heap.size a (9+S.AK) c ((range (9+S.AK)).map λi=>wrap .i64 (S.lh i-1)):=⟨by simp,row⟩;exact⟨a,_,c,rfl,kk,R.at.AE (λx hx=>R.lt hx) λx hx=>hx.2⟩
