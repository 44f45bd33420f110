/- Part of a proof that a law returns true. Conditions: those in each theorem. -/
import Derived.Test.YtdgbechegbmpcaaGreatDoorX5
import Derived.Test.YtdgbechegbmpcaaGreatDoorB0
import Derived.Test.YtdgbechegbmpcaaGreatDoorEngU
set_option linter.unusedSimpArgs false
set_option linter.unusedVariables false
set_option maxRecDepth 100000
namespace Go.Proofs.YtdgbechegbmpcaaGreatDoor
open Go Go.Eng Go.Proofs.Tryz
theorem JF{k:FuncId}{A:Nat->HX}{T n:Nat}{w:WD}{mk:Value}(hA:∀j,j<n->Stb (A j))(hn:0<n)
 (h:Calls prog k #[.int .i64 n,mk] w fun e w'=>∃(a:OA) (c:Nat) (F:NP) (vs:List Value),e=.returned (.slice a n c)/\Kept AB w w'/\w'.ownsRow w.heap.size T 1 (.slice a n c) n vs/\(n<=n/\JRow A F n vs w')/\
  (∀x,F x->w.heap.size<=x/\x<w'.heap.size)/\∀g,(Value.slice a n c).ownBlock=some g->¬F g) :
 Calls prog k #[.int .i64 n,mk] w fun e w'=>∃(a:OA) (c:Nat),e=.returned (.slice a n c)/\Kept AB w w'/\BG A n (.slice a n c) (rng w w') w':=by
 refine h.mono ?_;rintro e w' ⟨a,c,F,vs,rfl,k,row,hj,hF,hg⟩;exact⟨a,c,rfl,k,row_of hA hn row hj hF hg⟩
theorem GW{A:Nat->HX}{n:Nat}{w:WD}:0<=n/\JRow A (fun _=>False) 0 [] w:=⟨Nat.zero_le _,fun _=>.bool false,fun _ _=>False,rfl,fun j hj=>absurd hj (nlz _),fun j hj=>absurd hj (nlz _),fun a b ha=>absurd ha (nlz _)⟩
theorem clocks_new{n:Nat}(hn:0<n/\n<=16)(w:WD):Calls prog 68 #[.int .i64 n,.func (.func 69) #[] #[]] w fun e w'=>∃(a:OA) (c:Nat),e=.returned (.slice a n c)/\Kept AB w w'/\BG (fun _=>AV [] []) n (.slice a n c) (rng w w') w':=by
 refine JF (T:=174) (fun _ _=>AV.stb) hn.1 (sev39 (by omega) (CK (fun _ _=>AV.stb) fun i w1 hi k1=>AM.mk _ #[] #[] rfl (by kernel_rfl) ?_) GW);refine(vc69 i w1 (fun v w'=>∃(b:Nat) (H:NP),v=ptr b/\Kept AB w1 w'/\AV [] [] (ptr b) H w'/\∀x,H x->w1.heap.size<=x) ?_).mono ?_
 ·unfold Q;refine(vc70 w1 (fun v w'=>∃(b:Nat) (H:NP),v=ptr b/\Kept AB w1 w'/\AV [] [] (ptr b) H w'/\∀x,H x->w1.heap.size<=x) ?_).mono ?_
  ·unfold vcP70;intro w2 e2 w3 e3;have k2:Kept AB w1 w2:=e2▸kr.allocMap #[] 0;have k3:=kal e3;have o3:=AD (c:=[.slice none 0 0,.map (some w1.heap.size)]) e3;have m3:=(J5 e2).k k3;have:=k2.sz;exact⟨_,fun x=>x=w2.heap.size\/x=w1.heap.size,rfl,k2.tr k3,⟨⟨_,none,0,0,_,rfl,o3,EK.MT,m3,.inl rfl,.inr rfl,fun x hx=>by simp [Value.ownBlock] at hx⟩,fun x hx=>hx.elim (fun e=>e▸o3.lt) fun e=>e▸m3.lt⟩,fun x hx=>by omega⟩
  ·rintro e w' ⟨v,rfl,b,H,rfl,h⟩;exact⟨_,rfl,b,H,rfl,h⟩
 ·rintro e w' ⟨v,rfl,b,H,rfl,hk,hc,hx⟩;exact⟨ptr b,H,⟨_,rfl,rfl⟩,rfl,hk,hc,hx⟩
theorem cache_row{w:WD}(hz:F4 w):Calls prog 73 #[.int .i64 (8:Nat),.func (.func 74) #[] #[]] w fun e w'=>∃(a:OA) (c:Nat),e=.returned (.slice a 8 c)/\Kept AB w w'/\BG (fun i=>BX (sz i)) 8 (.slice a 8 c) (rng w w') w':=by
 refine JF (T:=180) (fun _ _=>BX.stb) (by decide) (sev44 (by omega) (CK (fun _ _=>BX.stb) fun i w1 hi k1=>AM.mk _ #[] #[] rfl (by kernel_rfl) ?_) GW);refine(vc74 i w1 (fun v w'=>∃(b:Nat) (H:NP),v=ptr b/\Kept AB w1 w'/\BX (sz i) (ptr b) H w'/\∀x,H x->w1.heap.size<=x) ?_).mono ?_
 ·unfold Q;refine Wi ⟨sz i,by rw [tnc,mo,za];exact hz.k k1 i hi,(canew_spec (sz_ok hi) w1).mono ?_⟩;rintro _ w2 ⟨C,m,rfl,k2,o2,m2,hC,hm⟩;exact⟨_,_,rfl,_,fun x=>x=C\/x=m,rfl,k2,⟨⟨C,m,rfl,o2,m2,.inl rfl,.inr rfl⟩,fun x hx=>hx.elim (fun e=>e▸o2.lt) fun e=>e▸m2.lt⟩,fun x hx=>by rcases hx with rfl|rfl <;> omega⟩
 ·rintro e w' ⟨v,rfl,b,H,rfl,hk,hc,hx⟩;exact⟨ptr b,H,⟨_,rfl,rfl⟩,rfl,hk,hc,hx⟩
theorem caches_new{n:Nat}(hn:0<n/\n<=16){w:WD}(hz:F4 w):Calls prog 71 #[.int .i64 n,.func (.func 72) #[] #[]] w fun e w'=>∃(a:OA) (c:Nat),e=.returned (.slice a n c)/\Kept AB w w'/\BG (fun _=>BG (fun i=>BX (sz i)) 8) n (.slice a n c) (rng w w') w':=by
 refine JF (T:=178) (fun _ _=>BG.stb fun _ _=>BX.stb) hn.1 (sev42 (by omega) (CK (fun _ _=>BG.stb fun _ _=>BX.stb) fun i w1 hi k1=>AM.mk _ #[] #[] rfl (by kernel_rfl) ?_) GW);refine(vc72 i w1 (fun v w'=>∃(a:OA) (c:Nat),v=.slice a 8 c/\Kept AB w1 w'/\BG (fun i=>BX (sz i)) 8 (.slice a 8 c) (rng w1 w') w') ?_).mono ?_
 ·unfold Q;refine(cache_row (hz.k k1)).mono ?_;rintro _ w2 ⟨a,c,rfl,h⟩;exact⟨a,8,c,rfl,a,c,rfl,h⟩
 ·rintro e w' ⟨v,rfl,a,c,rfl,hk,hr⟩;exact⟨_,rng w1 w',⟨a,8,c,rfl,rfl⟩,rfl,hk,hr,fun x hx=>hx.1⟩
theorem depot_row{w:WD}:Calls prog 78 #[.int .i64 (8:Nat),.func (.func 79) #[] #[]] w fun e w'=>∃(a:OA) (c:Nat),e=.returned (.slice a 8 c)/\Kept AB w w'/\BG (fun _=>E0) 8 (.slice a 8 c) (rng w w') w':=by
 refine JF (T:=188) (fun _ _=>E0.stb) (by decide) (sev49 (by omega) (CK (fun _ _=>E0.stb) fun i w1 hi k1=>AM.mk _ #[] #[] rfl (by kernel_rfl) ?_) GW);refine(vc79 i w1 (fun v w'=>∃(b:Nat) (H:NP),v=ptr b/\Kept AB w1 w'/\E0 (ptr b) H w'/\∀x,H x->w1.heap.size<=x) ?_).mono ?_
 ·unfold Q;refine(vc80 4 w1 (fun v w'=>∃(b:Nat) (H:NP),v=ptr b/\Kept AB w1 w'/\E0 (ptr b) H w'/\∀x,H x->w1.heap.size<=x) ?_).mono ?_
  ·unfold Q;intro w2 e2;have o2:=AD (c:=[vi 4,.slice none 0 0,.slice none 0 0]) e2;exact⟨_,fun x=>x=w1.heap.size,rfl,kr.al e2,⟨⟨_,rfl,o2,rfl⟩,fun x hx=>hx▸o2.lt⟩,fun x hx=>Nat.le_of_eq hx.symm⟩
  ·rintro e w' ⟨v,rfl,b,H,rfl,h⟩;exact⟨_,rfl,b,H,rfl,h⟩
 ·rintro e w' ⟨v,rfl,b,H,rfl,hk,hc,hx⟩;exact⟨ptr b,H,⟨_,rfl,rfl⟩,rfl,hk,hc,hx⟩
theorem depots_new{n:Nat}(hn:0<n/\n<=16){w:WD}:Calls prog 76 #[.int .i64 n,.func (.func 77) #[] #[]] w fun e w'=>∃(a:OA) (c:Nat),e=.returned (.slice a n c)/\Kept AB w w'/\BG (fun _=>BG (fun _=>E0) 8) n (.slice a n c) (rng w w') w':=by
 refine JF (T:=186) (fun _ _=>BG.stb fun _ _=>E0.stb) hn.1 (sev47 (by omega) (CK (fun _ _=>BG.stb fun _ _=>E0.stb) fun i w1 hi k1=>AM.mk _ #[] #[] rfl (by kernel_rfl) ?_) GW);refine(vc77 i w1 (fun v w'=>∃(a:OA) (c:Nat),v=.slice a 8 c/\Kept AB w1 w'/\BG (fun _=>E0) 8 (.slice a 8 c) (rng w1 w') w') ?_).mono ?_
 ·unfold Q;refine depot_row.mono ?_;rintro _ w2 ⟨a,c,rfl,h⟩;exact⟨a,8,c,rfl,a,c,rfl,h⟩
 ·rintro e w' ⟨v,rfl,a,c,rfl,hk,hr⟩;exact⟨_,rng w1 w',⟨a,8,c,rfl,rfl⟩,rfl,hk,hr,fun x hx=>hx.1⟩
theorem mag_row{w:WD}:Calls prog 83 #[.int .i64 (8:Nat),.func (.func 84) #[] #[]] w fun e w'=>∃(a:OA) (c:Nat),e=.returned (.slice a 8 c)/\Kept AB w w'/\BG (fun _=>E0) 8 (.slice a 8 c) (rng w w') w':=by
 refine JF (T:=194) (fun _ _=>E0.stb) (by decide) (sev54 (by omega) (CK (fun _ _=>E0.stb) fun i w1 hi k1=>AM.mk _ #[] #[] rfl (by kernel_rfl) ?_) GW);refine(vc84 i w1 (fun v w'=>∃(b:Nat) (H:NP),v=ptr b/\Kept AB w1 w'/\E0 (ptr b) H w'/\∀x,H x->w1.heap.size<=x) ?_).mono ?_
 ·unfold Q;refine(vc85 4 w1 (fun v w'=>∃(b:Nat) (H:NP),v=ptr b/\Kept AB w1 w'/\E0 (ptr b) H w'/\∀x,H x->w1.heap.size<=x) ?_).mono ?_
  ·unfold Q;intro w2 e2;have o2:=AD (c:=[vi 4,.slice none 0 0,.slice none 0 0]) e2;exact⟨_,fun x=>x=w1.heap.size,rfl,kr.al e2,⟨⟨_,rfl,o2,rfl⟩,fun x hx=>hx▸o2.lt⟩,fun x hx=>Nat.le_of_eq hx.symm⟩
  ·rintro e w' ⟨v,rfl,b,H,rfl,h⟩;exact⟨_,rfl,b,H,rfl,h⟩
 ·rintro e w' ⟨v,rfl,b,H,rfl,hk,hc,hx⟩;exact⟨ptr b,H,⟨_,rfl,rfl⟩,rfl,hk,hc,hx⟩
theorem mags_new{n:Nat}(hn:0<n/\n<=16){w:WD}:Calls prog 81 #[.int .i64 n,.func (.func 82) #[] #[]] w fun e w'=>∃(a:OA) (c:Nat),e=.returned (.slice a n c)/\Kept AB w w'/\BG (fun _=>BG (fun _=>E0) 8) n (.slice a n c) (rng w w') w':=by
 refine JF (T:=192) (fun _ _=>BG.stb fun _ _=>E0.stb) hn.1 (sev52 (by omega) (CK (fun _ _=>BG.stb fun _ _=>E0.stb) fun i w1 hi k1=>AM.mk _ #[] #[] rfl (by kernel_rfl) ?_) GW);refine(vc82 i w1 (fun v w'=>∃(a:OA) (c:Nat),v=.slice a 8 c/\Kept AB w1 w'/\BG (fun _=>E0) 8 (.slice a 8 c) (rng w1 w') w') ?_).mono ?_
 ·unfold Q;refine mag_row.mono ?_;rintro _ w2 ⟨a,c,rfl,h⟩;exact⟨a,8,c,rfl,a,c,rfl,h⟩
 ·rintro e w' ⟨v,rfl,a,c,rfl,hk,hr⟩;exact⟨_,rng w1 w',⟨a,8,c,rfl,rfl⟩,rfl,hk,hr,fun x hx=>hx.1⟩
def ValA(u0:Value)(u:Value)(H:NP)(w:WD):Prop:=u=u0/\∀x,H x->x<w.heap.size
theorem ValA.stb{u0:Value}:Stb (ValA u0) where
 kx v H w w' X h k hx:=⟨h.1,fun x hh=>nll (h.2 x hh) k.sz⟩
 lt v H w h:=h.2
theorem turns_new{n:Nat}(hn:0<n/\n<=16)(w:WD):Calls prog 86 #[.int .i64 n,.func (.func 87) #[] #[]] w fun e w'=>∃(a:OA) (c:Nat),e=.returned (.slice a n c)/\Kept AB w w'/\BG (fun _=>ValA (.int .u64 1)) n (.slice a n c) (rng w w') w':=by
 refine JF (T:=76) (fun _ _=>ValA.stb) hn.1 (sev57 (by omega) (CK (fun _ _=>ValA.stb) fun i w1 hi k1=>AM.mk _ #[] #[] rfl (by kernel_rfl) ?_) GW);refine(vc87 i w1 (fun v w'=>v=.int .u64 1/\w'=w1) ⟨rfl,rfl⟩).mono ?_;rintro e w' ⟨v,rfl,rfl,rfl⟩;exact⟨_,fun _=>False,⟨_,rfl,rfl⟩,rfl,Kept.refl _ _,⟨rfl,fun x hx=>hx.elim⟩,fun x hx=>hx.elim⟩
theorem flight_new{n:Nat}(hn:0<n/\n<=16)(w:WD):Calls prog 88 #[.int .i64 n,.func (.func 89) #[] #[]] w fun e w'=>∃(a:OA) (c:Nat),e=.returned (.slice a n c)/\Kept AB w w'/\BK w' w.heap.size a n c (List.replicate n (-1)):=by
 refine(sev59 (w0:=w) (J:=fun F i vs w=>vs=(List.replicate i (-1)).map vi) (by omega) ⟨fun F i vs w w' X h _ _=>h,fun F i vs w1 hi h k1 hF=>AM.mk _ #[] #[] rfl (by kernel_rfl) ?_⟩ rfl).mono ?_
 ·refine(vc89 i w1 (fun v w'=>v=.int .i64 (-1)/\w'=w1) ⟨rfl,rfl⟩).mono ?_;rintro e w' ⟨v,rfl,rfl,rfl⟩;refine⟨[vi (-1)],⟨_,rfl,rfl⟩,rfl,fun u hu=>by simp at hu;subst hu;rfl,Kept.refl _ _,?_⟩;rw [h,List.replicate_succ',FU]
  rfl
 ·rintro e w' ⟨a,c,F,vs,rfl,k,row,rfl,_⟩;exact⟨a,c,rfl,k,by simp,row⟩
end Go.Proofs.YtdgbechegbmpcaaGreatDoor
namespace Go.Proofs.YtdgbechegbmpcaaGreatDoor
open Go Go.Eng Go.Proofs.Tryz
inductive Prt where
 | core|mem|zones|dev|locks|rmap|AP|clocks|caches|depots|mags|turns|held|flying|flight
 | space (i:Nat)
deriving DecidableEq
structure AL where
 c:Nat->Int
 pm:Nat
 pz:Nat
 pd:Nat
 pl:Nat
 pr:Nat
 ps:Nat
 vck:Value
 vca:Value
 vde:Value
 vma:Value
 vtu:Value
 vhe:Value
 vfl:Value
 vfi:Value
 sp:Nat->Option Nat
 by':Nat->Int
 mks:Nat->Mark
 Z:Zs
 L:Nat->List Bk
 dv:Nat->Int
 lh:Nat->Int
 rof:Nat->Int×Int
 rat:List ((Int×Int)×Value)
 sof:Nat->Int×Int
 ring:Nat->List Int
 cof:Nat->List (Int×Value)
 held:Nat->List Int
 fli:List Int
 root:Nat->Int
 pins:Nat->Nat
namespace AL
def n(S:AL):Nat:=(AN S.c (S.c 0).toNat).toNat
def nodes(S:AL):Nat:=(S.c 0).toNat
def AO(S:AL):Nat:=(S.c 1).toNat
def AP(S:AL):Nat:=(S.c 90).toNat
end AL
def spV(o:Option Nat):Value:=.pointer (o.map fun b=>⟨b,0,none⟩)
def IQ(S:AL):List Value:=
 [ptr S.pm,ptr S.pz,ptr S.pd,ptr S.pl,ptr S.pr,ptr S.ps,S.vck,S.vca,S.vde,S.vma,S.vtu,spV (S.sp 0),spV (S.sp 1),spV (S.sp 2),spV (S.sp 3),spV (S.sp 4),spV (S.sp 5),spV (S.sp 6),spV (S.sp 7),spV (S.sp 8),S.vhe,S.vfl,S.vfi]
def MS(x:Nat):List Value:=.int .u64 (x:Nat)::List.replicate 15 (.int .u64 0)
structure EX(w:WD)(F:NP)(b:Nat)(root:Int)(x:Nat):Prop where
 lt:x<4294967296
 ex:∃ab pb wb mb,own w b [ptr ab,vi root,ptr pb,.int .u8 0,.int .u8 0,.map (some mb)]/\own w ab [.slice none 0 0]/\own w pb [.slice (some ⟨wb,0,none⟩) 16 16,vi 1024]/\own w wb (MS x)/\BE w mb []/\
  F b/\F ab/\F pb/\F wb/\F mb
def PAt(S:AL)(k:Nat):Prt->(NP)->WD->Prop
 | .core,F,w=>own w k (cfg S.c++IQ S)/\F k
 | .mem,F,w=>∃bb mb,BM w S.pm bb mb S.c S.n S.by' S.mks/\F S.pm/\F bb/\F mb
 | .zones,F,w=>ZAt w S.pz S.Z S.L/\(∀x,S.Z.all S.pz x->F x)/\S.Z.c=S.c
 | .dev,F,w=>∃db,NV w S.pd db S.AP S.dv/\F S.pd/\F db
 | .locks,F,w=>BR w S.pl (9+S.nodes) S.lh/\F S.pl
 | .rmap,F,w=>∃fb mb,DE w S.pr fb mb S.n S.rof S.rat/\F S.pr/\F fb/\F mb
 | .AP,F,w=>∃fb,DH w S.ps fb S.AP S.sof/\F S.ps/\F fb
 | .clocks,F,w=>BG (fun i=>AV (S.ring i) (S.cof i)) S.nodes S.vck F w
 | .caches,F,w=>BG (fun _=>BG (fun i=>BX (sz i)) 8) S.nodes S.vca F w
 | .depots,F,w=>BG (fun _=>BG (fun _=>E0) 8) S.nodes S.vde F w
 | .mags,F,w=>BG (fun _=>BG (fun _=>E0) 8) S.AO S.vma F w
 | .turns,F,w=>BG (fun _=>ValA (.int .u64 1)) S.nodes S.vtu F w
 | .held,F,w=>BG (fun i=>EG (S.held i)) S.AO S.vhe F w
 | .flying,F,w=>BG (fun _=>NilA) S.AO S.vfl F w
 | .flight,F,w=>EG S.fli S.vfi F w
 | .space i,F,w=>∀b,S.sp i=some b->EX w F b (S.root i) (S.pins i)
theorem PAt.kx{S:AL}{k:Nat}{p:Prt}{F X:NP}{w w':WD}(h:PAt S k p F w)(kk:Kept X w w')(hx:∀x,X x->F x->False):PAt S k p F w':=by
 cases p with
 | core=>exact⟨h.1.kx kk fun e=>hx _ e h.2,h.2⟩
 | mem=>
  obtain⟨bb,mb,h,h1,h2,h3⟩:=h;exact⟨bb,mb,⟨h.so.kx kk fun e=>hx _ e h1,h.bs.kx kk fun e=>hx _ e h2,h.ms.kx kk fun e=>hx _ e h3,h.ne⟩,h1,h2,h3⟩
 | zones=>exact⟨h.1.kx kk fun x e ha=>hx x e (h.2.1 x ha),h.2⟩
 | dev=>
  obtain⟨db,h,h1,h2⟩:=h;exact⟨db,⟨h.so.kx kk fun e=>hx _ e h1,h.bs.kx kk fun e=>hx _ e h2,h.ne⟩,h1,h2⟩
 | locks=>exact⟨own.kx h.1 kk fun e=>hx _ e h.2,h.2⟩
 | rmap=>
  obtain⟨fb,mb,h,h1,h2,h3⟩:=h;exact⟨fb,mb,⟨h.so.kx kk fun e=>hx _ e h1,h.fs.kx kk fun e=>hx _ e h2,h.mp.kx kk fun e=>hx _ e h3,h.ne⟩,h1,h2,h3⟩
 | AP=>
  obtain⟨fb,h,h1,h2⟩:=h;exact⟨fb,⟨h.so.kx kk fun e=>hx _ e h1,h.fs.kx kk fun e=>hx _ e h2,h.ne⟩,h1,h2⟩
 | clocks=>exact(BG.stb fun _ _=>AV.stb).kx _ _ _ _ _ h kk hx
 | caches=>exact(BG.stb fun _ _=>BG.stb fun _ _=>BX.stb).kx _ _ _ _ _ h kk hx
 | depots=>exact(BG.stb fun _ _=>BG.stb fun _ _=>E0.stb).kx _ _ _ _ _ h kk hx
 | mags=>exact(BG.stb fun _ _=>BG.stb fun _ _=>E0.stb).kx _ _ _ _ _ h kk hx
 | turns=>exact(BG.stb fun _ _=>ValA.stb).kx _ _ _ _ _ h kk hx
 | held=>exact(BG.stb fun _ _=>EG.stb).kx _ _ _ _ _ h kk hx
 | flying=>exact(BG.stb fun _ _=>NilA.stb).kx _ _ _ _ _ h kk hx
 | flight=>exact EG.stb.kx _ _ _ _ _ h kk hx
 | space i=>
  intro b hb;obtain⟨ab,pb,wb,mb,a1,a2,a3,a4,a5,f1,f2,f3,f4,f5⟩:=(h b hb).ex;exact⟨(h b hb).lt,ab,pb,wb,mb,a1.kx kk fun e=>hx _ e f1,a2.kx kk fun e=>hx _ e f2,a3.kx kk fun e=>hx _ e f3,a4.kx kk fun e=>hx _ e f4,a5.kx kk fun e=>hx _ e f5,f1,f2,f3,f4,f5⟩
structure AJ(w:WD)(k:Nat)(S:AL)(fp:Prt->Nat->Prop):Prop where
 dj:∀p q x,fp p x->fp q x->p=q
 lt:∀p x,fp p x->0<x/\x<w.heap.size
 my:CW S.c
 at':∀p,PAt S k p (fp p) w
section
variable {w w':WD}{kb:Nat}{S S':AL}{fp:Prt->Nat->Prop}
theorem AJ.k(h:AJ w kb S fp)(kk:Kept AB w w'):AJ w' kb S fp:=
 ⟨h.dj,fun p x hx=>⟨(h.lt p x hx).1,nll (h.lt p x hx).2 kk.sz⟩,h.my,fun p=>(h.at' p).kx kk fun _ e=>e.elim⟩
theorem AJ.kx{X:NP}(h:AJ w kb S fp)(kk:Kept X w w')(hx:∀x p,X x->fp p x->False):AJ w' kb S fp:=
 ⟨h.dj,fun p x hx=>⟨(h.lt p x hx).1,nll (h.lt p x hx).2 kk.sz⟩,h.my,fun p=>(h.at' p).kx kk fun x e hf=>hx x p e hf⟩
theorem AJ.upd{X:NP}(h:AJ w kb S fp)(T:Prt->Prop)(i:Prt)(kk:Kept X w w')(hX:∀x,X x->x<w.heap.size->∃p,T p/\fp p x)(hc:S'.c=S.c)
 (hS:∀p F w,¬T p->PAt S kb p F w->PAt S' kb p F w) (hi:T i) (hp:∀p,T p->PAt S' kb p (fun x=>fp p x\/(p=i/\rng w w' x)) w'):AJ w' kb S' (fun p x=>fp p x\/(p=i/\rng w w' x)):=by
 refine⟨fun p q x h1 h2=>?_,fun p x hx=>?_,hc▸h.my,fun p=>?_⟩
 ·rcases h1 with h1|⟨rfl,h1⟩
  ·rcases h2 with h2|⟨rfl,h2⟩
   ·exact h.dj p q x h1 h2
   ·have:=(h.lt p x h1).2;have:=h2.1;omega
  ·rcases h2 with h2|⟨rfl,h2⟩
   ·have:=(h.lt q x h2).2;have:=h1.1;omega
   ·rfl
 ·rcases hx with hx|⟨rfl,hx⟩
  ·exact⟨(h.lt p x hx).1,nll (h.lt p x hx).2 kk.sz⟩
  ·have:=(h.lt .core kb (h.at' .core).2).1;have:=(h.lt .core kb (h.at' .core).2).2;exact⟨by have:=hx.1;omega,hx.2⟩
 ·by_cases hT:T p
  ·exact hp p hT
  ·have e:(fun x=>fp p x\/(p=i/\rng w w' x))=fp p:=by
    funext x;refine propext ⟨fun hx=>hx.resolve_right fun e=>hT (e.1▸hi),.inl⟩
   show PAt S' kb p (fun x=>fp p x\/(p=i/\rng w w' x)) w'
   rw [e];exact hS p _ _ hT ((h.at' p).kx kk fun x e hf=>by
    obtain⟨q,hq,hf2⟩:=hX x e (h.lt p x hf).2;have:=h.dj p q x hf hf2;subst this;exact hT hq)
theorem AJ.so(h:AJ w kb S fp):own w kb (cfg S.c++IQ S):=(h.at' .core).1
theorem AJ.rc(h:AJ w kb S fp){j:Nat}(hj:j<94):rd w kb j=some (vi (S.c j)):=by
 rw [h.so.rd,gal (by rw [AI];exact hj),AT _ _ _ _ _ hj,za]
theorem AJ.rt(h:AJ w kb S fp){j:Nat}{v:Value}(hj:(IQ S)[j]? = some v):rd w kb (94+j)=some v:=by
 rw [h.so.rd,gar (by rw [AI];omega),AI,Nat.add_sub_cancel_left];exact hj
theorem AJ.rcfg(h:AJ w kb S fp):AS w kb 0 (cfg S.c):=h.so.run 0 fun j hj=>by
 rw [za,gal (by rw [AI];exact hj),AT _ _ _ _ _ hj,za]
theorem AJ.n4(h:AJ w kb S fp):(S.n:Int)=AN S.c (S.c 0).toNat/\4<=S.n/\S.n<=1024:=by
 have:=h.my.tot;unfold AL.n;omega
theorem AJ.BO(h:AJ w kb S fp):(1<=S.nodes/\S.nodes<=8/\(S.nodes:Int)=S.c 0)/\(1<=S.AO/\S.AO<=16/\(S.AO:Int)=S.c 1)/\S.AP<=1024/\(S.AP:Int)=S.c 90:=by
 have h0:=h.my.1;have h1:=h.my.2.1;have h2:=h.my.2.2.1;unfold AL.nodes AL.AO AL.AP;omega
theorem AJ.k0(h:AJ w kb S fp):kb<w.heap.size:=(h.lt .core kb (h.at' .core).2).2
end
end Go.Proofs.YtdgbechegbmpcaaGreatDoor
namespace Go.Proofs.YtdgbechegbmpcaaGreatDoor
open Go Go.Eng Go.Proofs.Tryz
open Go.Value (bool func)
open Option (isNone)
open Go.IntKind (wrap)
theorem vc31(c0:Nat->Int)(w:WD)(K:KV)(h:Q (AW w (List.toArray (AK .i64 c0 0 94)) 26 fun w'=>∃(x:Nat->Int),AS w' w.heap.size 0 (AK .i64 x 0 94)/\CB 60 #[Value.agg (List.toArray (AK .i64 x 0 94))] w' fun b w'=>Wif (!b) (K (.tuple #[pt none,vi 2]) w') (∃(x:Nat->Int),AS w' w.heap.size 0 (AK .i64 x 0 94)/\AW w' (List.toArray (AK .i64 x 0 94++([pt none,pt none,pt none,pt none,pt none,pt none,sl none 0 0,sl none 0 0,sl none 0 0,sl none 0 0,sl none 0 0]++(List.replicate 9 (pt none)++[sl none 0 0,sl none 0 0,sl none 0 0])))) 53 fun r=>∃(x:Nat->Int),AS r w.heap.size 0 (AK .i64 x 0 94)/\Calls prog 61 #[Value.agg (List.toArray (AK .i64 x 0 94))] r fun(e:Ending) (O:WD)=>∃(p:OA) (n:Int),e=rT (.tuple #[pt p,vi n])/\Sw O w'.heap.size 94 (pt p) fun s=>∃(x:Nat->Int),AS s w.heap.size 0 (AK .i64 x 0 94)/\Calls prog 62 #[Value.agg (List.toArray (AK .i64 x 0 94))] s fun(e:Ending) (P:WD)=>∃(p:OA) (n:Int),e=rT (.tuple #[pt p,vi n])/\Sw P w'.heap.size 95 (pt p) fun t=>RI t w.heap.size 90 fun x=>Calls prog 63 #[vi x] t fun(e:Ending) (Q:WD)=>∃(p:OA),e=rT (.pointer p)/\Sw Q w'.heap.size 96 (pt p) fun u=>RI u w.heap.size 0 fun x=>Calls prog 64 #[vi (wrap .i64 (9+x))] u fun(e:Ending) (R:WD)=>∃(p:OA),e=rT (.pointer p)/\Sw R w'.heap.size 97 (pt p) fun y=>RP y w'.heap.size 94 fun x=>Calls prog 66 #[pt x] y fun(e:Ending) (z:WD)=>∃(n:Int),e=rT (vi n)/\Calls prog 65 #[vi n] z fun(e:Ending) (A:WD)=>∃(p:OA),e=rT (.pointer p)/\Sw A w'.heap.size 98 (pt p) fun g=>RI g w.heap.size 90 fun x=>Calls prog 67 #[vi x] g fun(e:Ending) (B:WD)=>∃(p:OA),e=rT (.pointer p)/\Sw B w'.heap.size 99 (pt p) fun h=>RI h w.heap.size 0 fun x=>Calls prog 68 #[vi x,func (.func 69) #[] #[]] h fun(e:Ending) (C:WD)=>∃(a:OA) (l c:Nat),e=rT (sl a l c)/\Sw C w'.heap.size 100 (sl a l c) fun i=>RI i w.heap.size 0 fun x=>Calls prog 71 #[vi x,func (.func 72) #[] #[]] i fun(e:Ending) (D:WD)=>∃(a:OA) (l c:Nat),e=rT (sl a l c)/\Sw D w'.heap.size 101 (sl a l c) fun j=>RI j w.heap.size 0 fun x=>Calls prog 76 #[vi x,func (.func 77) #[] #[]] j fun(e:Ending) (E:WD)=>∃(a:OA) (l c:Nat),e=rT (sl a l c)/\Sw E w'.heap.size 102 (sl a l c) fun k=>RI k w.heap.size 1 fun x=>Calls prog 81 #[vi x,func (.func 82) #[] #[]] k fun(e:Ending) (F:WD)=>∃(a:OA) (l c:Nat),e=rT (sl a l c)/\Sw F w'.heap.size 103 (sl a l c) fun o=>RI o w.heap.size 0 fun x=>Calls prog 86 #[vi x,func (.func 87) #[] #[]] o fun(e:Ending) (G:WD)=>∃(a:OA) (l c:Nat),e=rT (sl a l c)/\Sw G w'.heap.size 104 (sl a l c) fun d=>RI d w.heap.size 1 fun x=>Wif (I6 24 x x) (AW d (List.toArray (List.replicate (Int.toNat x) (sl none 0 0))) 27 fun H=>Sw H w'.heap.size 114 (sl (aD d.heap.size) (Int.toNat x) (Int.toNat x)) fun f=>RI f w.heap.size 1 fun x=>Wif (I6 24 x x) (AW f (List.toArray (List.replicate (Int.toNat x) (sl none 0 0))) 239 fun J=>Sw J w'.heap.size 115 (sl (aD f.heap.size) (Int.toNat x) (Int.toNat x)) fun q=>RI q w.heap.size 1 fun x=>Calls prog 88 #[vi x,func (.func 89) #[] #[]] q fun(e:Ending) (L:WD)=>∃(a:OA) (l c:Nat),e=rT (sl a l c)/\Sw L w'.heap.size 116 (sl a l c) fun M=>K (.tuple #[ptr w'.heap.size,vi 0]) M) False) False))):Ret 31 #[Value.agg (List.toArray (AK .i64 c0 0 94))] w K:=vcA L7 2 [] func31 h
theorem vc47(k:OA)(w:WD)(K:KV)(h:Q (∀w',w'=w.alloc (.cells #[pt k] 54)->∀E,E=w'.alloc (.cells (List.toArray (List.replicate 94 (vi 0)++List.replicate 13 (sl none 0 0))) 137)->∃(x:OA),rd E w.heap.size 0=some (.pointer x)/\Wif (isNone x) (∃(x:Nat->Int) (f0:OA) (g4 g5:Nat) (g6:OA) (g7 g8:Nat) (g9:OA) (h0 h1:Nat) (a3:OA) (a4 a5:Nat) (a6:OA) (a7 a8:Nat) (a9:OA) (b0 z:Nat) (g:OA) (h f:Nat) (B:OA) (H C:Nat) (J:OA) (F t:Nat) (u:OA) (y D:Nat) (P:OA) (Q R:Nat) (S:OA) (T U:Nat) (V:OA) (X Y:Nat),AS E w'.heap.size 0 (AK .i64 x 0 94++[sl f0 g4 g5,sl g6 g7 g8,sl g9 h0 h1,sl a3 a4 a5,sl a6 a7 a8,sl a9 b0 z,sl g h f,sl B H C,sl J F t,sl u y D,sl P Q R,sl S T U,sl V X Y])/\DF E w'.heap.size 0 (AK .i64 x 0 94++[sl f0 g4 g5,sl g6 g7 g8,sl g9 h0 h1,sl a3 a4 a5,sl a6 a7 a8,sl a9 b0 z,sl g h f,sl B H C,sl J F t,sl u y D,sl P Q R,sl S T U,sl V X Y])/\∀L,L=F0 E w'.heap.size 0 (AK .i64 x 0 94++[sl f0 g4 g5,sl g6 g7 g8,sl g9 h0 h1,sl a3 a4 a5,sl a6 a7 a8,sl a9 b0 z,sl g h f,sl B H C,sl J F t,sl u y D,sl P Q R,sl S T U,sl V X Y])->∃(x:Nat->Int) (b1:OA) (b2 b3:Nat) (b4:OA) (b5 b6:Nat) (b7:OA) (b8 b9:Nat) (c0:OA) (c1 c2:Nat) (c3:OA) (c4 c5:Nat) (c6:OA) (c7 c8:Nat) (c9:OA) (d0 d1:Nat) (d2:OA) (d3 d4:Nat) (d5:OA) (d6 f1:Nat) (f2:OA) (f3 f4:Nat) (f5:OA) (f6 f7:Nat) (f8:OA) (f9 g0:Nat) (g1:OA) (g2 g3:Nat),AS L w'.heap.size 0 (AK .i64 x 0 94++[sl b1 b2 b3,sl b4 b5 b6,sl b7 b8 b9,sl c0 c1 c2,sl c3 c4 c5,sl c6 c7 c8,sl c9 d0 d1,sl d2 d3 d4,sl d5 d6 f1,sl f2 f3 f4,sl f5 f6 f7,sl f8 f9 g0,sl g1 g2 g3])/\K (.agg (List.toArray (AK .i64 x 0 94++[sl b1 b2 b3,sl b4 b5 b6,sl b7 b8 b9,sl c0 c1 c2,sl c3 c4 c5,sl c6 c7 c8,sl c9 d0 d1,sl d2 d3 d4,sl d5 d6 f1,sl f2 f3 f4,sl f5 f6 f7,sl f8 f9 g0,sl g1 g2 g3]))) L) (∃(x:OA),rd E w.heap.size 0=some (.pointer x)/\Wif (isP x) (∃(f0:Nat->Int),AS E (pb x) (po x) (AK .i64 f0 0 94)/\DF E w'.heap.size 0 (AK .i64 f0 0 94)/\∀L,L=F0 E w'.heap.size 0 (AK .i64 f0 0 94)->∃(x:OA),rd L w.heap.size 0=some (.pointer x)/\Wif (isP x) (∃(g4:OA),rd L (pb x) (po x+94)=some (.pointer g4)/\Calls prog 66 #[pt g4] L fun(e:Ending) (m5:WD)=>∃(n:Int),e=Ending.returned (vi n)/\Calls prog 127 #[vi n,Value.func (Fn.func 128) #[] #[ptr w.heap.size]] m5 fun(e:Ending) (i9:WD)=>∃(a:OA) (l c:Nat),e=rT (sl a l c)/\wr i9 w'.heap.size 94/\∀h4,h4=st i9 w'.heap.size 94 (sl a l c)->∃(x:OA),rd h4 w.heap.size 0=some (.pointer x)/\Wif (isP x) (∃(g5:OA),rd h4 (pb x) (po x+95)=some (.pointer g5)/\Calls prog 130 #[pt g5] h4 fun(e:Ending) (m6:WD)=>∃(v:Value),e=Ending.returned v/\Calls prog 129 #[v] m6 fun(e:Ending) (j0:WD)=>∃(a:OA) (l c:Nat),e=rT (sl a l c)/\wr j0 w'.heap.size 95/\∀h5,h5=st j0 w'.heap.size 95 (sl a l c)->∃(x:OA),rd h5 w.heap.size 0=some (.pointer x)/\Wif (isP x) (∃(g6:Int),rd h5 (pb x) (po x+1)=some (.int .i64 g6)/\Calls prog 131 #[vi g6,Value.func (Fn.func 132) #[] #[ptr w.heap.size]] h5 fun(e:Ending) (j1:WD)=>∃(a:OA) (l c:Nat),e=rT (sl a l c)/\wr j1 w'.heap.size 96/\∀d7,d7=st j1 w'.heap.size 96 (sl a l c)->∃(x:OA),rd d7 w.heap.size 0=some (.pointer x)/\Wif (isP x) (∃(g7:Int),rd d7 (pb x) (po x+1)=some (.int .i64 g7)/\Calls prog 134 #[vi g7,Value.func (Fn.func 135) #[] #[ptr w.heap.size]] d7 fun(e:Ending) (i2:WD)=>∃(a:OA) (l c:Nat),e=rT (sl a l c)/\wr i2 w'.heap.size 97/\∀d8,d8=st i2 w'.heap.size 97 (sl a l c)->∃(x:OA),rd d8 w.heap.size 0=some (.pointer x)/\Wif (isP x) (∃(g8:OA) (g9 h0:Nat),rd d8 (pb x) (po x+116)=some (.slice g8 g9 h0)/\Calls prog 133 #[sl g8 g9 h0] d8 fun(e:Ending) (i3:WD)=>∃(a:OA) (l c:Nat),e=rT (sl a l c)/\wr i3 w'.heap.size 98/\∀d9,d9=st i3 w'.heap.size 98 (sl a l c)->∃(x:OA),rd d9 w.heap.size 0=some (.pointer x)/\Wif (isP x) (∃(h1 a3 a4 a5 a6 a7 a8 a9 b0:OA),AS d9 (pb x) (po x+105) [pt h1,pt a3,pt a4,pt a5,pt a6,pt a7,pt a8,pt a9,pt b0]/\∃(I:Int->WD->Nat->Prop),(∃(n:Nat),I 0 d9 n)/\∀(n:Int) (M:WD) (j2:Nat),I n M j2->Wif (decide (n<9)) (Wif (inB n 9) (∃(x:OA),[pt h1,pt a3,pt a4,pt a5,pt a6,pt a7,pt a8,pt a9,pt b0][Int.toNat n*1]? = some (.pointer x)/\Wif (!isNone x) (∀w1,w1=M.drew->∃(z:OA) (g h:Nat),rd w1 w'.heap.size 99=some (.slice z g h)/\∃(f:OA),rd w1 w.heap.size 0=some (.pointer f)/\Calls prog 137 #[pt f,vi n,pt x] w1 fun(e:Ending) (Z:WD)=>∃(a0 h2:Int) (a:OA) (l c:Nat) (h8:OA) (h9 c_1:Nat) (l9:OA) (m0 c_2:Nat) (m1:OA) (m2 c_3:Nat),e=rT (.agg #[vi a0,vi h2,sl a l c,sl h8 h9 c_1,sl l9 m0 c_2,sl m1 m2 c_3])/\(rd Z w'.heap.size 99=some (.slice z g h)/\True)/\∀i,i=Z.alloc (.cells #[vi a0,vi h2,sl a l c,sl h8 h9 c_1,sl l9 m0 c_2,sl m1 m2 c_3] 147)->(rd i w'.heap.size 99=some (.slice z g h)/\True)/\∃(a:OA) (l c:Nat) (j:WD),BF prog #[132,132] 132 (sl z g h) (sl (aD Z.heap.size) 1 1) (sl a l c) i j/\wr j w'.heap.size 99/\∀p,p=st j w'.heap.size 99 (sl a l c)->∃m,Nat.succ m<=j2/\I (IntKind.wrap .i64 (n+1)) p m) (∃m,Nat.succ m<=j2/\I (IntKind.wrap .i64 (n+1)) M m)) False) (∃(x:OA),rd M w.heap.size 0=some (.pointer x)/\Wif (isP x) (∃(z:OA),rd M (pb x) (po x+94)=some (.pointer z)/\Calls prog 66 #[pt z] M fun(e:Ending) (Z:WD)=>∃(n:Int),e=Ending.returned (vi n)/\∃(I:Int->WD->Nat->Prop),(∃(n:Nat),I 0 Z n)/\∀(a0:Int) (i:WD) (h2:Nat),I a0 i h2->Wif (decide (a0<n)) (∃(x:OA),rd i w.heap.size 0=some (.pointer x)/\Wif (isP x) (∃(g:OA),rd i (pb x) (po x+98)=some (.pointer g)/\Calls prog 117 #[pt g,vi a0] i fun(e:Ending) (j:WD)=>∃(n h3:Int) (b:Bool),e=rT (.tuple #[vi n,vi h3,Value.bool b])/\Wif b (∃(x:OA) (h f:Nat),rd j w'.heap.size 100=some (.slice x h f)/\∀p,p=j.alloc (.cells #[vi a0,vi n,vi h3] 151)->∃(a:OA) (l c:Nat) (o:WD),BF prog #[133,133] 133 (sl x h f) (sl (aD j.heap.size) 1 1) (sl a l c) p o/\wr o w'.heap.size 100/\∀d,d=st o w'.heap.size 100 (sl a l c)->∃m,Nat.succ m<=h2/\I (IntKind.wrap .i64 (a0+1)) d m) (∃m,Nat.succ m<=h2/\I (IntKind.wrap .i64 (a0+1)) j m)) False) (∃(x:OA),rd i w.heap.size 0=some (.pointer x)/\Wif (isP x) (∃(g:Int),rd i (pb x) (po x)=some (.int .i64 g)/\Calls prog 131 #[vi g,Value.func (Fn.func 138) #[] #[ptr w.heap.size]] i fun(e:Ending) (j:WD)=>∃(a:OA) (l c:Nat),e=rT (sl a l c)/\wr j w'.heap.size 101/\∀p,p=st j w'.heap.size 101 (sl a l c)->∃(x:OA),rd p w.heap.size 0=some (.pointer x)/\Wif (isP x) (∃(h:Int),rd p (pb x) (po x+90)=some (.int .i64 h)/\∃(I:Int->WD->Nat->Prop),(∃(n:Nat),I 0 p n)/\∀(n:Int) (o:WD) (h3:Nat),I n o h3->Wif (decide (n<h)) (∃(x:OA),rd o w.heap.size 0=some (.pointer x)/\Wif (isP x) (∃(f:OA),rd o (pb x) (po x+99)=some (.pointer f)/\Calls prog 141 #[pt f,vi n] o fun(e:Ending) (d:WD)=>∃(i0 a1:Int) (b:Bool),e=rT (.tuple #[vi i0,vi a1,Value.bool b])/\Wif b (∃(x:OA) (B H:Nat),rd d w'.heap.size 102=some (.slice x B H)/\∀q,q=d.alloc (.cells #[vi n,vi i0,vi a1] 151)->∃(a:OA) (l c:Nat) (r:WD),BF prog #[133,133] 133 (sl x B H) (sl (aD d.heap.size) 1 1) (sl a l c) q r/\wr r w'.heap.size 102/\∀s,s=st r w'.heap.size 102 (sl a l c)->∃m,Nat.succ m<=h3/\I (IntKind.wrap .i64 (n+1)) s m) (∃m,Nat.succ m<=h3/\I (IntKind.wrap .i64 (n+1)) d m)) False) (∃(x:OA),rd o w.heap.size 0=some (.pointer x)/\Wif (isP x) (∃(f:OA) (B H:Nat),rd o (pb x) (po x+101)=some (.slice f B H)/\∃(I:Int->WD->Nat->Prop),(∃(n:Nat),I 0 o n)/\∀(n:Int) (d:WD) (i0:Nat),I n d i0->Wif (decide (n<(↑B:Int))) (Wif (isP f) (Wif (inB n B) (∃(x:OA) (C J:Nat),rd d (pb f) (po f+Int.toNat n*1)=some (.slice x C J)/\∃(j3:Int->WD->Nat->Prop),(∃(n:Nat),j3 0 d n)/\∀(a1:Int) (q:WD) (m3:Nat),j3 a1 q m3->Wif (decide (a1<(↑C:Int))) (Wif (isP x) (Wif (inB a1 C) (∃(F:OA),rd q (pb x) (po x+Int.toNat a1*1)=some (.pointer F)/\Calls prog 142 #[pt F] q fun(e:Ending) (r:WD)=>∃(a:OA) (l c:Nat),e=rT (sl a l c)/\∃(I:Int->WD->Nat->Prop),(∃(n:Nat),I 0 r n)/\∀(i1:Int) (s:WD) (m4:Nat),I i1 s m4->Wif (decide (i1<(↑l:Int))) (Wif (isP a) (Wif (inB i1 l) (∃(x:Int),rd s (pb a) (po a+Int.toNat i1*1)=some (.int .i64 x)/\∀w1,w1=s.drew->∃(t:OA) (u y:Nat),rd w1 w'.heap.size 103=some (.slice t u y)/\∃(D:OA),rd w1 w.heap.size 0=some (.pointer D)/\Calls prog 143 #[pt D,vi n,vi a1,vi x] w1 fun(e:Ending) (A:WD)=>∃(n j4 j5 j6 j7:Int) (a:OA) (l c:Nat) (h8:OA) (h9 c_1:Nat),e=rT (.agg #[vi n,vi j4,vi j5,vi j6,vi j7,sl a l c,sl h8 h9 c_1])/\(rd A w'.heap.size 103=some (.slice t u y)/\True)/\∀a2,a2=A.alloc (.cells #[vi n,vi j4,vi j5,vi j6,vi j7,sl a l c,sl h8 h9 c_1] 248)->(rd a2 w'.heap.size 103=some (.slice t u y)/\True)/\∃(a:OA) (l c:Nat) (O:WD),BF prog #[134,134] 134 (sl t u y) (sl (aD A.heap.size) 1 1) (sl a l c) a2 O/\wr O w'.heap.size 103/\∀G,G=st O w'.heap.size 103 (sl a l c)->∃m,Nat.succ m<=m4/\I (IntKind.wrap .i64 (i1+1)) G m) False) False) (∃m,Nat.succ m<=m3/\j3 (IntKind.wrap .i64 (a1+1)) s m)) False) False) (∃m,Nat.succ m<=i0/\I (IntKind.wrap .i64 (n+1)) q m)) False) False) (∃(x:OA),rd d w.heap.size 0=some (.pointer x)/\Wif (isP x) (∃(C:Int),rd d (pb x) (po x+1)=some (.int .i64 C)/\Calls prog 144 #[vi C,Value.func (Fn.func 145) #[] #[ptr w.heap.size]] d fun(e:Ending) (q:WD)=>∃(a:OA) (l c:Nat),e=rT (sl a l c)/\wr q w'.heap.size 104/\∀r,r=st q w'.heap.size 104 (sl a l c)->∃(x:OA),rd r w.heap.size 0=some (.pointer x)/\Wif (isP x) (∃(J:Int),rd r (pb x) (po x)=some (.int .i64 J)/\Calls prog 144 #[vi J,Value.func (Fn.func 148) #[] #[ptr w.heap.size]] r fun(e:Ending) (s:WD)=>∃(a:OA) (l c:Nat),e=rT (sl a l c)/\wr s w'.heap.size 105/\∀A,A=st s w'.heap.size 105 (sl a l c)->∃(x:OA),rd A w.heap.size 0=some (.pointer x)/\Wif (isP x) (∃(F:OA),rd A (pb x) (po x+97)=some (.pointer F)/\Calls prog 151 #[pt F] A fun(e:Ending) (a2:WD)=>∃(n:Int),e=Ending.returned (vi n)/\Calls prog 88 #[vi n,Value.func (Fn.func 152) #[] #[ptr w.heap.size]] a2 fun(e:Ending) (O:WD)=>∃(a:OA) (l c:Nat),e=rT (sl a l c)/\wr O w'.heap.size 106/\∀G,G=st O w'.heap.size 106 (sl a l c)->∃(x:Nat->Int) (t:OA) (u y:Nat) (D:OA) (P Q:Nat) (R:OA) (S T:Nat) (U:OA) (V X:Nat) (Y:OA) (b1 b2:Nat) (b3:OA) (b4 b5:Nat) (b6:OA) (b7 b8:Nat) (b9:OA) (c0 c1:Nat) (c2:OA) (c3 c4:Nat) (c5:OA) (c6 c7:Nat) (c8:OA) (c9 d0:Nat) (d1:OA) (d2 d3:Nat) (d4:OA) (d5 d6:Nat),AS G w'.heap.size 0 (AK .i64 x 0 94++[sl t u y,sl D P Q,sl R S T,sl U V X,sl Y b1 b2,sl b3 b4 b5,sl b6 b7 b8,sl b9 c0 c1,sl c2 c3 c4,sl c5 c6 c7,sl c8 c9 d0,sl d1 d2 d3,sl d4 d5 d6])/\DF G w'.heap.size 0 (AK .i64 x 0 94++[sl t u y,sl D P Q,sl R S T,sl U V X,sl Y b1 b2,sl b3 b4 b5,sl b6 b7 b8,sl b9 c0 c1,sl c2 c3 c4,sl c5 c6 c7,sl c8 c9 d0,sl d1 d2 d3,sl d4 d5 d6])/\∀h7,h7=F0 G w'.heap.size 0 (AK .i64 x 0 94++[sl t u y,sl D P Q,sl R S T,sl U V X,sl Y b1 b2,sl b3 b4 b5,sl b6 b7 b8,sl b9 c0 c1,sl c2 c3 c4,sl c5 c6 c7,sl c8 c9 d0,sl d1 d2 d3,sl d4 d5 d6])->∃(x:Nat->Int) (f1:OA) (f2 f3:Nat) (f4:OA) (f5 f6:Nat) (f7:OA) (f8 f9:Nat) (g0:OA) (g1 g2:Nat) (g3:OA) (j8 j9:Nat) (k0:OA) (k1 k2:Nat) (k3:OA) (k4 k5:Nat) (k6:OA) (k7 k8:Nat) (k9:OA) (l0 l1:Nat) (l2:OA) (l3 l4:Nat) (l5:OA) (l6 l7:Nat) (l8:OA) (i4 i5:Nat) (i6:OA) (i7 i8:Nat),AS h7 w'.heap.size 0 (AK .i64 x 0 94++[sl f1 f2 f3,sl f4 f5 f6,sl f7 f8 f9,sl g0 g1 g2,sl g3 j8 j9,sl k0 k1 k2,sl k3 k4 k5,sl k6 k7 k8,sl k9 l0 l1,sl l2 l3 l4,sl l5 l6 l7,sl l8 i4 i5,sl i6 i7 i8])/\K (.agg (List.toArray (AK .i64 x 0 94++[sl f1 f2 f3,sl f4 f5 f6,sl f7 f8 f9,sl g0 g1 g2,sl g3 j8 j9,sl k0 k1 k2,sl k3 k4 k5,sl k6 k7 k8,sl k9 l0 l1,sl l2 l3 l4,sl l5 l6 l7,sl l8 i4 i5,sl i6 i7 i8]))) h7) False) False) False)) False)) False) False)) False)) False) False) False) False) False) False) False))):Ret 47 #[pt k] w K:=vcA L10 2 [] func47 h
end Go.Proofs.YtdgbechegbmpcaaGreatDoor
namespace Go.Proofs.YtdgbechegbmpcaaGreatDoor
open Go Go.Eng Go.Proofs.Tryz
theorem KJ{w w':WD}{b i:Nat}{f:Nat->Int}{T:List Value}{v:Value}(h:own w b (cfg f++T))(e:w'=st w b (94+i) v):own w' b (cfg f++T.set i v):=by
 have h2:=h.s1 e;rw [List.set_append_right _ _ (by rw [AI];omega),AI,Nat.add_sub_cancel_left] at h2;exact h2
theorem JK{w:WD}{m bb mb:Nat}{c:Nat->Int}{n:Nat}{by':Nat->Int}{mk:Nat->Mark}(h:BM w m bb mb c n by' mk):Calls prog 66 #[ptr m] w fun e w'=>e=.returned (vi n)/\w'=w:=by
 have hr:rd w m (0+95)=some (.slice (some ⟨mb,0,none⟩) n n):=by
  rw [h.so.rd,gar (by rw [AI];omega),AI]
  rfl
 refine(vc66 _ w (fun v w'=>v=vi n/\w'=w) ?_).mono ?_
 ·unfold Q;exact AG rfl (AA rfl ⟨_,_,_,hr,rfl,rfl⟩)
 ·rintro e w' ⟨v,rfl,rfl,rfl⟩;exact⟨rfl,rfl⟩
theorem nilRow{A:Nat->HX}{T n:Nat}{w w':WD}(e:w'=w.alloc (.cells (List.replicate n (Value.slice none 0 0)).toArray T))(hA:∀j,j<n->A j (.slice none 0 0) (fun _=>False) w'):BG A n (.slice (some ⟨w.heap.size,0,none⟩) n n) (rng w w') w':=by
 have o:=AD e;exact⟨⟨_,n,_,fun _=>.slice none 0 0,fun _ _=>False,rfl,o,fun j hj=>by rw [List.getElem?_replicate,if_pos hj],⟨nlr _,o.lt⟩,hA,fun j _ x hx=>hx.elim,fun i j _ _ _ x hx=>hx.elim⟩,fun x hx=>hx.2⟩
structure Fresh(S:AL):Prop where
 by':S.by'=fun _=>0
 mks:S.mks=fun _=>CM
 L:∀i,i<S.Z.k->∀x∈S.L i,x.g=0
 dv:S.dv=fun _=>0
 lh:S.lh=fun _=>0
 rof:S.rof=fun _=>(0,0)
 rat:S.rat=[]
 sof:S.sof=fun _=>(0,0)
 ring:S.ring=fun _=>[]
 cof:S.cof=fun _=>[]
 held:S.held=fun _=>[]
 fli:S.fli=List.replicate S.AO (-1)
 sp:S.sp=fun _=>none
set_option maxHeartbeats 4000000 in
theorem core_new(c:Nat->Int){w:WD}(hz:F4 w)(hw:0<w.heap.size):Calls prog 31 #[KK c] w fun e w'=>Kept AB w w'/\((¬CW c/\e=.returned (.tuple #[.pointer none,vi 2]))\/
 (CW c/\∃k S fp,e=.returned (.tuple #[ptr k,vi 0])/\AJ w' k S fp/\S.c=c/\Fresh S/\∀p x,fp p x->w.heap.size<=x)):=by
 refine(vc31 c w (fun v w'=>Kept AB w w'/\((¬CW c/\v=(.tuple #[.pointer none,vi 2]))\/
  (CW c/\∃k S fp,v=(.tuple #[ptr k,vi 0])/\AJ w' k S fp/\S.c=c/\Fresh S/\∀p x,fp p x->w.heap.size<=x))) ?_).mono ?_
 rotate_left
 ·rintro e w' ⟨v,rfl,hk,⟨h1,rfl⟩|⟨h1,k,S,fp,rfl,h2⟩⟩
  ·exact⟨hk,.inl ⟨h1,rfl⟩⟩
  ·exact⟨hk,.inr ⟨h1,k,S,fp,rfl,h2⟩⟩
 unfold Q;intro w1 e1;have o1:=AD e1;have k1:=kal e1;clear e1;have hb0:w.heap.size<w1.heap.size:=o1.lt;generalize hb:w.heap.size=b0 at *;refine⟨c,o1.DR,(GV c w1).mono ?_⟩;rintro _ w2 ⟨ok,rfl,hok,k2⟩;have o2:=o1.k k2;have K2:=k1.tr k2;refine⟨_,rfl,AE (fun hc=>?_) (fun hc=>?_)⟩
 ·have:ok=false:=by simpa using hc
  subst this;exact⟨K2,.inl ⟨by simpa using hok,rfl⟩⟩
 have:ok=true:=by simpa using hc
 subst this;have hm:CW c:=hok.1 rfl;clear hc hok;have ht:=hm.tot;obtain⟨nn,hnn⟩:∃nn:Nat,c 0=nn:=⟨(c 0).toNat,by have:=hm.1;omega⟩;obtain⟨nc,hnc⟩:∃nc:Nat,c 1=nc:=⟨(c 1).toNat,by have:=hm.2.1;omega⟩;obtain⟨ns,hns⟩:∃ns:Nat,c 90=ns:=⟨(c 90).toNat,by have:=hm.2.2.1;omega⟩;have bn:=hm.1;have bc:=hm.2.1;have bs:=hm.2.2.1;have en:(c 0).toNat=nn:=by omega
 have ec:(c 1).toNat=nc:=by omega
 have es:(c 90).toNat=ns:=by omega
 refine⟨c,o2.DR,fun w3 e3=>?_⟩;have o3:=o2.al e3;have so3:=AD e3;have K3:Kept AB w w3:=K2.al e3;have hkb:b0<w2.heap.size:=o2.lt;have hs3:w2.heap.size<w3.heap.size:=so3.lt;clear e3;generalize hkb0:w2.heap.size=kb at *;have hne:b0≠kb:=by omega
 have z3:F4 w3:=hz.k K3;refine⟨c,o3.DR,(mnew_spec c hm w3).mono ?_⟩;rintro _ w4 ⟨pm,bb,mb,rfl,k4,M,f1,f2,f3⟩;have o4:=o3.k k4;have so4:=so3.k k4;refine⟨_,_,rfl,so4.wr (by simp [AI]),fun w5 e5=>?_⟩;have so5:=KJ (i:=0) so4 e5;have o5:=o4.n1 e5 hne;have q5:Kept (·=kb) w4 w5:=kr.s1 e5 (.inl rfl);have s5:Kept (·=kb) w3 w5:=(k4.mono fun _ _ e=>e.elim).trans q5 fun _ _ h=>h;have z5:F4 w5:=z3.kx s5 (by omega);have h4:=k4.sz;have h5:w5.heap.size=w4.heap.size:=by rw [e5];simp
 clear e5;refine⟨c,o5.DR,(znew_spec c w5).mono ?_⟩;rintro _ w6 ⟨k6,⟨hno,_⟩|⟨_,pz,Z,LL,rfl,hZ,hZc,hZg,hZf⟩⟩
 ·exact absurd hm hno
 have o6:=o5.k k6;have so6:=so5.k k6;refine⟨_,_,rfl,so6.wr (by simp [AI]),fun w7 e7=>?_⟩;have so7:=KJ (i:=1) so6 e7;have o7:=o6.n1 e7 hne;have q7:Kept (·=kb) w6 w7:=kr.s1 e7 (.inl rfl);have s7:Kept (·=kb) w5 w7:=(k6.mono fun _ _ e=>e.elim).trans q7 fun _ _ h=>h;have z7:F4 w7:=z5.kx s7 (by omega);have h6:=k6.sz;have h7:w7.heap.size=w6.heap.size:=by rw [e7];simp
 clear e7;refine⟨(ns:Int),by rw [o7.rI (by omega),hns],(dnew_spec (n:=ns) (by omega) w7).mono ?_⟩;rintro _ w8 ⟨pd,db,rfl,k8,D,d1,d2⟩;have o8:=o7.k k8;have so8:=so7.k k8;refine⟨_,rfl,so8.wr (by simp [AI]),fun w9 e9=>?_⟩;have so9:=KJ (i:=2) so8 e9;have o9:=o8.n1 e9 hne;have q9:Kept (·=kb) w8 w9:=kr.s1 e9 (.inl rfl);have s9:Kept (·=kb) w7 w9:=(k8.mono fun _ _ e=>e.elim).trans q9 fun _ _ h=>h;have z9:F4 w9:=z7.kx s9 (by omega);have h8:=k8.sz;have h9:w9.heap.size=w8.heap.size:=by rw [e9];simp
 clear e9;refine⟨(nn:Int),by rw [o9.rI (by omega),hnn],?_⟩;dsimp only;rw [show IntKind.wrap .i64 (9+(nn:Int))=((9+nn:Nat):Int) from by rw [wi (by omega)];omega];refine(lnew_spec (n:=9+nn) (by omega) w9).mono ?_;rintro _ w10 ⟨pl,rfl,k10,K,l1⟩;have o10:=o9.k k10;have so10:=so9.k k10;refine⟨_,rfl,so10.wr (by simp [AI]),fun w11 e11=>?_⟩;have so11:=KJ (i:=3) so10 e11;have o11:=o10.n1 e11 hne;have q11:Kept (·=kb) w10 w11:=kr.s1 e11 (.inl rfl);have s11:Kept (·=kb) w9 w11:=(k10.mono fun _ _ e=>e.elim).trans q11 fun _ _ h=>h;have z11:F4 w11:=z9.kx s11 (by omega);have h10:=k10.sz;have h11:w11.heap.size=w10.heap.size:=by rw [e11];simp
 clear e11;have M11:BM w11 pm bb mb c (AN c (c 0).toNat).toNat (fun _=>0) (fun _=>CM):=by
  have kk:Kept (·=kb) w4 w11:=((q5.trans s7 fun _ _ h=>h).trans s9 fun _ _ h=>h).trans s11 fun _ _ h=>h;exact⟨M.so.kx kk (by omega),M.bs.kx kk (by omega),M.ms.kx kk (by omega),M.ne⟩
 refine⟨_,by rw [so11.rd,gar (by rw [AI];omega),AI];rfl,(JK M11).mono ?_⟩;rintro _ wx ⟨rfl,hx⟩;rw [hx];clear hx;refine⟨_,rfl,(rmnew_spec (by omega) w11).mono ?_⟩;rintro _ w12 ⟨pr,rb,rm,rfl,k12,R,r1,r2,r3⟩;have o12:=o11.k k12;have so12:=so11.k k12;refine⟨_,rfl,so12.wr (by simp [AI]),fun w13 e13=>?_⟩;have so13:=KJ (i:=4) so12 e13;have o13:=o12.n1 e13 hne;have q13:Kept (·=kb) w12 w13:=kr.s1 e13 (.inl rfl);have s13:Kept (·=kb) w11 w13:=(k12.mono fun _ _ e=>e.elim).trans q13 fun _ _ h=>h;have z13:F4 w13:=z11.kx s13 (by omega);have h12:=k12.sz;have h13:w13.heap.size=w12.heap.size:=by rw [e13];simp
 clear e13;refine⟨(ns:Int),by rw [o13.rI (by omega),hns],(slnew_spec (n:=ns) (by omega) w13).mono ?_⟩;rintro _ w14 ⟨ps,sb,rfl,k14,Q,s1,s2⟩;have o14:=o13.k k14;have so14:=so13.k k14;refine⟨_,rfl,so14.wr (by simp [AI]),fun w15 e15=>?_⟩;have so15:=KJ (i:=5) so14 e15;have o15:=o14.n1 e15 hne;have q15:Kept (·=kb) w14 w15:=kr.s1 e15 (.inl rfl);have s15:Kept (·=kb) w13 w15:=(k14.mono fun _ _ e=>e.elim).trans q15 fun _ _ h=>h;have z15:F4 w15:=z13.kx s15 (by omega);have h14:=k14.sz;have h15:w15.heap.size=w14.heap.size:=by rw [e15];simp
 clear e15;refine⟨(nn:Int),by rw [o15.rI (by omega),hnn],(clocks_new (n:=nn) (by omega) w15).mono ?_⟩;rintro _ w16 ⟨ack,cck,rfl,k16,Rck⟩;have o16:=o15.k k16;have so16:=so15.k k16;refine⟨_,_,_,rfl,so16.wr (by simp [AI]),fun w17 e17=>?_⟩;have so17:=KJ (i:=6) so16 e17;have o17:=o16.n1 e17 hne;have q17:Kept (·=kb) w16 w17:=kr.s1 e17 (.inl rfl);have s17:Kept (·=kb) w15 w17:=(k16.mono fun _ _ e=>e.elim).trans q17 fun _ _ h=>h;have z17:F4 w17:=z15.kx s17 (by omega);have h16:=k16.sz;have h17:w17.heap.size=w16.heap.size:=by rw [e17];simp
 clear e17;refine⟨(nn:Int),by rw [o17.rI (by omega),hnn],(caches_new (n:=nn) (by omega) z17).mono ?_⟩;rintro _ w18 ⟨aca,cca,rfl,k18,Rca⟩;have o18:=o17.k k18;have so18:=so17.k k18;refine⟨_,_,_,rfl,so18.wr (by simp [AI]),fun w19 e19=>?_⟩;have so19:=KJ (i:=7) so18 e19;have o19:=o18.n1 e19 hne;have q19:Kept (·=kb) w18 w19:=kr.s1 e19 (.inl rfl);have s19:Kept (·=kb) w17 w19:=(k18.mono fun _ _ e=>e.elim).trans q19 fun _ _ h=>h;have z19:F4 w19:=z17.kx s19 (by omega);have h18:=k18.sz;have h19:w19.heap.size=w18.heap.size:=by rw [e19];simp
 clear e19;refine⟨(nn:Int),by rw [o19.rI (by omega),hnn],(depots_new (n:=nn) (w:=w19) (by omega)).mono ?_⟩;rintro _ w20 ⟨ade,cde,rfl,k20,Rde⟩;have o20:=o19.k k20;have so20:=so19.k k20;refine⟨_,_,_,rfl,so20.wr (by simp [AI]),fun w21 e21=>?_⟩;have so21:=KJ (i:=8) so20 e21;have o21:=o20.n1 e21 hne;have q21:Kept (·=kb) w20 w21:=kr.s1 e21 (.inl rfl);have s21:Kept (·=kb) w19 w21:=(k20.mono fun _ _ e=>e.elim).trans q21 fun _ _ h=>h;have z21:F4 w21:=z19.kx s21 (by omega);have h20:=k20.sz;have h21:w21.heap.size=w20.heap.size:=by rw [e21];simp
 clear e21;refine⟨(nc:Int),by rw [o21.rI (by omega),hnc],(mags_new (n:=nc) (w:=w21) (by omega)).mono ?_⟩;rintro _ w22 ⟨ama,cma,rfl,k22,Rma⟩;have o22:=o21.k k22;have so22:=so21.k k22;refine⟨_,_,_,rfl,so22.wr (by simp [AI]),fun w23 e23=>?_⟩;have so23:=KJ (i:=9) so22 e23;have o23:=o22.n1 e23 hne;have q23:Kept (·=kb) w22 w23:=kr.s1 e23 (.inl rfl);have s23:Kept (·=kb) w21 w23:=(k22.mono fun _ _ e=>e.elim).trans q23 fun _ _ h=>h;have z23:F4 w23:=z21.kx s23 (by omega);have h22:=k22.sz;have h23:w23.heap.size=w22.heap.size:=by rw [e23];simp
 clear e23;refine⟨(nn:Int),by rw [o23.rI (by omega),hnn],(turns_new (n:=nn) (by omega) w23).mono ?_⟩;rintro _ w24 ⟨atu,ctu,rfl,k24,Rtu⟩;have o24:=o23.k k24;have so24:=so23.k k24;refine⟨_,_,_,rfl,so24.wr (by simp [AI]),fun w25 e25=>?_⟩;have so25:=KJ (i:=10) so24 e25;have o25:=o24.n1 e25 hne;have q25:Kept (·=kb) w24 w25:=kr.s1 e25 (.inl rfl);have s25:Kept (·=kb) w23 w25:=(k24.mono fun _ _ e=>e.elim).trans q25 fun _ _ h=>h;have z25:F4 w25:=z23.kx s25 (by omega);have h24:=k24.sz;have h25:w25.heap.size=w24.heap.size:=by rw [e25];simp
 clear e25;refine⟨(nc:Int),by rw [o25.rI (by omega),hnc],AA FH fun w26 e26=>?_⟩;have k26:=kal e26;rw [tnc] at e26;have Rhe:BG (fun _=>EG []) nc (.slice (some ⟨w25.heap.size,0,none⟩) nc nc) (rng w25 w26) w26:=nilRow e26 fun j hj=>⟨⟨none,0,0,rfl,BK.MT,fun x hx=>by simp [Value.ownBlock] at hx⟩,fun x hx=>hx.elim⟩;clear e26;have o26:=o25.k k26;have so26:=so25.k k26;refine⟨so26.wr (by simp [AI]),fun w27 e27=>?_⟩;rw [tnc] at e27;have so27:=KJ (i:=20) so26 e27;have o27:=o26.n1 e27 hne;have q27:Kept (·=kb) w26 w27:=kr.s1 e27 (.inl rfl);have s27:Kept (·=kb) w25 w27:=(k26.mono fun _ _ e=>e.elim).trans q27 fun _ _ h=>h;have z27:F4 w27:=z25.kx s27 (by omega);have h26:=k26.sz;have h27:w27.heap.size=w26.heap.size:=by rw [e27];simp
 clear e27;refine⟨(nc:Int),by rw [o27.rI (by omega),hnc],AA FH fun w28 e28=>?_⟩;have k28:=kal e28;rw [tnc] at e28;have Rfl:BG (fun _=>NilA) nc (.slice (some ⟨w27.heap.size,0,none⟩) nc nc) (rng w27 w28) w28:=nilRow e28 fun j hj=>⟨rfl,fun x hx=>hx.elim⟩;clear e28;have o28:=o27.k k28;have so28:=so27.k k28;refine⟨so28.wr (by simp [AI]),fun w29 e29=>?_⟩;rw [tnc] at e29;have so29:=KJ (i:=21) so28 e29;have o29:=o28.n1 e29 hne;have q29:Kept (·=kb) w28 w29:=kr.s1 e29 (.inl rfl);have s29:Kept (·=kb) w27 w29:=(k28.mono fun _ _ e=>e.elim).trans q29 fun _ _ h=>h;have z29:F4 w29:=z27.kx s29 (by omega);have h28:=k28.sz;have h29:w29.heap.size=w28.heap.size:=by rw [e29];simp
 clear e29;refine⟨(nc:Int),by rw [o29.rI (by omega),hnc],(flight_new (n:=nc) (by omega) w29).mono ?_⟩;rintro _ w30 ⟨afi,cfi,rfl,k30,Rfi⟩;have o30:=o29.k k30;have so30:=so29.k k30;refine⟨_,_,_,rfl,so30.wr (by simp [AI]),fun w31 e31=>?_⟩;have so31:=KJ (i:=22) so30 e31;have o31:=o30.n1 e31 hne;have q31:Kept (·=kb) w30 w31:=kr.s1 e31 (.inl rfl);have s31:Kept (·=kb) w29 w31:=(k30.mono fun _ _ e=>e.elim).trans q31 fun _ _ h=>h;have z31:F4 w31:=z29.kx s31 (by omega);have h30:=k30.sz;have h31:w31.heap.size=w30.heap.size:=by rw [e31];simp
 clear e31;have t30:Kept (·=kb) w30 w31:=q31;have u29:Kept (·=kb) w29 w31:=(k30.mono fun _ _ e=>e.elim).trans t30 fun _ _ h=>h;have t28:Kept (·=kb) w28 w31:=q29.trans u29 fun _ _ h=>h;have u27:Kept (·=kb) w27 w31:=(k28.mono fun _ _ e=>e.elim).trans t28 fun _ _ h=>h;have t26:Kept (·=kb) w26 w31:=q27.trans u27 fun _ _ h=>h;have u25:Kept (·=kb) w25 w31:=(k26.mono fun _ _ e=>e.elim).trans t26 fun _ _ h=>h;have t24:Kept (·=kb) w24 w31:=q25.trans u25 fun _ _ h=>h;have u23:Kept (·=kb) w23 w31:=(k24.mono fun _ _ e=>e.elim).trans t24 fun _ _ h=>h;have t22:Kept (·=kb) w22 w31:=q23.trans u23 fun _ _ h=>h;have u21:Kept (·=kb) w21 w31:=(k22.mono fun _ _ e=>e.elim).trans t22 fun _ _ h=>h;have t20:Kept (·=kb) w20 w31:=q21.trans u21 fun _ _ h=>h;have u19:Kept (·=kb) w19 w31:=(k20.mono fun _ _ e=>e.elim).trans t20 fun _ _ h=>h;have t18:Kept (·=kb) w18 w31:=q19.trans u19 fun _ _ h=>h;have u17:Kept (·=kb) w17 w31:=(k18.mono fun _ _ e=>e.elim).trans t18 fun _ _ h=>h;have t16:Kept (·=kb) w16 w31:=q17.trans u17 fun _ _ h=>h;have u15:Kept (·=kb) w15 w31:=(k16.mono fun _ _ e=>e.elim).trans t16 fun _ _ h=>h;have t14:Kept (·=kb) w14 w31:=q15.trans u15 fun _ _ h=>h;have u13:Kept (·=kb) w13 w31:=(k14.mono fun _ _ e=>e.elim).trans t14 fun _ _ h=>h;have t12:Kept (·=kb) w12 w31:=q13.trans u13 fun _ _ h=>h;have u11:Kept (·=kb) w11 w31:=(k12.mono fun _ _ e=>e.elim).trans t12 fun _ _ h=>h;have t10:Kept (·=kb) w10 w31:=q11.trans u11 fun _ _ h=>h;have u9:Kept (·=kb) w9 w31:=(k10.mono fun _ _ e=>e.elim).trans t10 fun _ _ h=>h;have t8:Kept (·=kb) w8 w31:=q9.trans u9 fun _ _ h=>h;have u7:Kept (·=kb) w7 w31:=(k8.mono fun _ _ e=>e.elim).trans t8 fun _ _ h=>h;have t6:Kept (·=kb) w6 w31:=q7.trans u7 fun _ _ h=>h;have u5:Kept (·=kb) w5 w31:=(k6.mono fun _ _ e=>e.elim).trans t6 fun _ _ h=>h;have t4:Kept (·=kb) w4 w31:=q5.trans u5 fun _ _ h=>h;have u3:Kept (·=kb) w3 w31:=(k4.mono fun _ _ e=>e.elim).trans t4 fun _ _ h=>h;refine⟨(K3.mono fun _ _ e=>e.elim).trans (X:=fun x=>False) u3 (fun x hx e=>by omega),.inr ⟨hm,kb,⟨c,pm,pz,pd,pl,pr,ps,.slice ack nn cck,.slice aca nn cca,.slice ade nn cde,.slice ama nc cma,.slice atu nn ctu,.slice (some ⟨w25.heap.size,0,none⟩) nc nc,.slice (some ⟨w27.heap.size,0,none⟩) nc nc,.slice afi nc cfi,fun _=>none,fun _=>0,fun _=>CM,Z,LL,fun _=>0,fun _=>0,fun _=>(0,0),[],fun _=>(0,0),fun _=>[],fun _=>[],fun _=>[],List.replicate nc (-1),fun _=>0,fun _=>0⟩,
  fun p x=>match p with
   | .core=>x=kb
   | .mem=>rng w3 w4 x
   | .zones=>rng w5 w6 x
   | .dev=>rng w7 w8 x
   | .locks=>rng w9 w10 x
   | .rmap=>rng w11 w12 x
   | .AP=>rng w13 w14 x
   | .clocks=>rng w15 w16 x
   | .caches=>rng w17 w18 x
   | .depots=>rng w19 w20 x
   | .mags=>rng w21 w22 x
   | .turns=>rng w23 w24 x
   | .held=>rng w25 w26 x
   | .flying=>rng w27 w28 x
   | .flight=>rng w29 w30 x
   | .space _=>False,rfl,⟨?_,?_,hm,?_⟩,rfl,⟨rfl,rfl,hZg,rfl,rfl,rfl,rfl,rfl,rfl,rfl,rfl,by unfold AL.AO;rw [ec],rfl⟩,?_⟩⟩
 ·intro p q x h1 h2
  cases p <;> cases q <;> first|rfl|exact h1.elim|exact h2.elim|(simp only [rng] at h1 h2;omega)
 ·intro p x h1
  cases p <;> first|exact h1.elim|(simp only [rng] at h1;omega)
 ·intro p
  cases p with
  | core=>exact⟨so31,rfl⟩
  | mem=>exact PAt.kx (p:=.mem) (w:=w4) (⟨bb,mb,by rw [<- en] at *;exact M,⟨f1,M.so.lt⟩,⟨f2,M.bs.lt⟩,⟨f3,M.ms.lt⟩⟩) t4 fun x e h=>by simp only [rng] at h;omega
  | zones=>exact PAt.kx (p:=.zones) (w:=w6) (⟨hZ,fun x hx=>⟨hZf x hx,hZ.lt hx⟩,hZc⟩) t6 fun x e h=>by simp only [rng] at h;omega
  | dev=>exact PAt.kx (p:=.dev) (w:=w8) (⟨db,by unfold AL.AP;rw [es];exact D,⟨d1,D.so.lt⟩,⟨d2,D.bs.lt⟩⟩) t8 fun x e h=>by simp only [rng] at h;omega
  | locks=>exact PAt.kx (p:=.locks) (w:=w10) (⟨by unfold AL.nodes;rw [en];exact K,⟨l1,own.lt K⟩⟩) t10 fun x e h=>by simp only [rng] at h;omega
  | rmap=>exact PAt.kx (p:=.rmap) (w:=w12) (⟨rb,rm,R,⟨r1,R.so.lt⟩,⟨r2,R.fs.lt⟩,⟨r3,R.mp.lt⟩⟩) t12 fun x e h=>by simp only [rng] at h;omega
  | AP=>exact PAt.kx (p:=.AP) (w:=w14) (⟨sb,by unfold AL.AP;rw [es];exact Q,⟨s1,Q.so.lt⟩,⟨s2,Q.fs.lt⟩⟩) t14 fun x e h=>by simp only [rng] at h;omega
  | clocks=>exact PAt.kx (p:=.clocks) (w:=w16) (by show BG _ (AL.nodes _) _ _ _;unfold AL.nodes;rw [en];exact Rck) t16 fun x e h=>by simp only [rng] at h;omega
  | caches=>exact PAt.kx (p:=.caches) (w:=w18) (by show BG _ (AL.nodes _) _ _ _;unfold AL.nodes;rw [en];exact Rca) t18 fun x e h=>by simp only [rng] at h;omega
  | depots=>exact PAt.kx (p:=.depots) (w:=w20) (by show BG _ (AL.nodes _) _ _ _;unfold AL.nodes;rw [en];exact Rde) t20 fun x e h=>by simp only [rng] at h;omega
  | turns=>exact PAt.kx (p:=.turns) (w:=w24) (by show BG _ (AL.nodes _) _ _ _;unfold AL.nodes;rw [en];exact Rtu) t24 fun x e h=>by simp only [rng] at h;omega
  | mags=>exact PAt.kx (p:=.mags) (w:=w22) (by show BG _ (AL.AO _) _ _ _;unfold AL.AO;rw [ec];exact Rma) t22 fun x e h=>by simp only [rng] at h;omega
  | held=>exact PAt.kx (p:=.held) (w:=w26) (by show BG _ (AL.AO _) _ _ _;unfold AL.AO;rw [ec];exact Rhe) t26 fun x e h=>by simp only [rng] at h;omega
  | flying=>exact PAt.kx (p:=.flying) (w:=w28) (by show BG _ (AL.AO _) _ _ _;unfold AL.AO;rw [ec];exact Rfl) t28 fun x e h=>by simp only [rng] at h;omega
  | flight=>exact PAt.kx (p:=.flight) (w:=w30) (⟨⟨_,_,_,rfl,Rfi.weak (Nat.zero_le _),fun x hx=>⟨(Rfi.lt hx).1,(Rfi.lt hx).2⟩⟩,fun x hx=>hx.2⟩) t30 fun x e h=>by simp only [rng] at h;omega
  | space i=>exact fun b hb=>by cases hb
 ·intro p x h1
  cases p <;> first|exact h1.elim|(simp only [rng] at h1;omega)
theorem at_slR{α:Type}{R:Rd α}{s:Nat}{w:WD}{base T n:Nat}{a:OA}{l c:Nat}{vs:List Value}{xs:List α}{F:NP}(row:w.ownsRow base T s (.slice a l c) n vs)(hl:n=xs.length)(hF:∀x,F x->x<w.heap.size)
 (hel:∀(i:Nat) x,xs[i]? = some x->∃cs:List Value,cs.length=s/\(∀(j:Nat) u,cs[j]? = some u->vs[i*s+j]? = some u)/\∀w',Kept (fun b=>¬F b) w w'->R w' cs x) :
 At (fun x=>(Value.slice a l c).ownBlock=some x\/F x) (fun W=>SlR R s W a l c xs) w:=by
 refine⟨fun x hx=>hx.elim (fun h=>(row.lt x h).2) (hF x),fun w' k=>?_⟩;have row':=AR row k fun b _ _ e hb=>hb (.inl e);have kF:Kept (fun b=>¬F b) w w':=k.mono fun b _ hb hf=>hb (.inr hf);rcases row'.2 with⟨h0,h1⟩|⟨g,cap,cur,h0,hb,hgg,hnc,hm,hsz,htk⟩
 ·have:xs=[]:=List.length_eq_zero_iff.1 (by omega);subst this
  cases h0
  exact SlR.MT
 ·cases h0
  subst hl;refine⟨rfl,fun _=>rfl,fun h=>(by cases h),hnc,hm,fun i x hx=>?_,fun o ho=>?_⟩
  rotate_left
  ·have h6:o<cur.size:=by rw [hsz];exact nll ho (Nat.mul_le_mul_right _ hnc)
   refine⟨⟨cur[o],?_⟩,by simp [World.frozen?,hgg]⟩
   show rd w' g (0+o)=_
   rw [za,EL,hgg];simp [h6]
  obtain⟨cs,g1,g2,g3⟩:=hel i x hx;refine⟨cs,g1,g3 _ kF,fun j u hu=>?_⟩;have h4:=g2 j u hu;have h5:(cur.toList.take (xs.length*s))[i*s+j]? = some u:=by rw [htk];exact h4
  rw [List.getElem?_take] at h5;split at h5
  ·show rd w' g (0+i*s+j)=_
   rw [za,EL,hgg];rw [Array.getElem?_toList] at h5;exact h5
  ·cases h5
theorem flat_get{α:Type}{f:α->List Value}{s:Nat}(h:∀x,(f x).length=s):∀{xs:List α}{i:Nat}{x:α},xs[i]? = some x->∀{j:Nat}{u:Value},(f x)[j]? = some u->(xs.flatMap f)[i*s+j]? = some u
 | [],i,x,hx,j,u,hu=>by simp at hx
 | y::ys,0,x,hx,j,u,hu=>by
  simp at hx;subst hx;rw [List.flatMap_cons,Nat.zero_mul,za,gal (D5.1 hu).1];exact hu
 | y::ys,i+1,x,hx,j,u,hu=>by
  rw [List.flatMap_cons,gar (by rw [h,Nat.succ_mul];omega),h,Nat.succ_mul,show i*s+s+j-s=i*s+j by omega];exact flat_get h (by simpa using hx) hu
theorem HW{α:Type}{f:α->List Value}{s:Nat}(h:∀x,(f x).length=s){w:WD}{base T:Nat}{a:OA}{l c n:Nat}{xs:List α}(row:w.ownsRow base T s (.slice a l c) n (xs.flatMap f))(hn:n=xs.length) :
 At (fun x=>(Value.slice a l c).ownBlock=some x) (fun W=>SlR (fun _ cs x=>cs=f x) s W a l c xs) w:=
 (at_slR (F:=fun _=>False) row hn (fun _ h=>h.elim) fun i x hx=>⟨f x,h x,fun j u hu=>flat_get h hx hu,fun _ _=>rfl⟩).mono (fun x hx=>hx.resolve_right id) fun x hx=>(row.lt x hx).2
theorem st5{w w':WD}{b:Nat}{cs:List Value}{v0 v1 v2 v3 v4:Value}(h:own w b cs)(hl:cs.length=5)(e:w'=st (st (st (st (st w b 0 v0) b 1 v1) b 2 v2) b 3 v3) b 4 v4):own w' b [v0,v1,v2,v3,v4]/\Kept (·=b) w w':=by
 subst e
 match cs,hl with
 | [a,c,d,f,g],_=>
  exact⟨h.BL.BL.BL.BL.BL,((((Kept.refl (·=b) w).st (.inl rfl)).st (.inl rfl)).st (.inl rfl) |>.st (.inl rfl)).st (.inl rfl)⟩
theorem wr5{w:WD}{b:Nat}{cs:List Value}(h:own w b cs)(hl:cs.length=5):wr w b 0/\wr w b 1/\wr w b 2/\wr w b 3/\wr w b 4:=⟨h.wr (by omega),h.wr (by omega),h.wr (by omega),h.wr (by omega),h.wr (by omega)⟩
theorem rd5{w:WD}{b:Nat}{v0 v1 v2 v3 v4:Value}(h:own w b [v0,v1,v2,v3,v4]):rd w b 0=some v0/\rd w b 1=some v1/\rd w b 2=some v2/\rd w b 3=some v3/\rd w b 4=some v4:=⟨by rw [h.rd];rfl,by rw [h.rd];rfl,by rw [h.rd];rfl,by rw [h.rd];rfl,by rw [h.rd];rfl⟩
theorem st2{w w':WD}{b:Nat}{cs:List Value}{v0 v1:Value}(h:own w b cs)(hl:cs.length=2)(e:w'=st (st w b 0 v0) b 1 v1):own w' b [v0,v1]/\Kept (·=b) w w':=by
 subst e
 match cs,hl with
 | [a,c],_=>exact⟨h.BL.BL,((Kept.refl (·=b) w).st (.inl rfl)).st (.inl rfl)⟩
theorem EI{w:WD}{b:Nat}{s n:Nat}{f:Nat->List Value}(h:own w b (CU n f))(hf:∀i,i<n->(f i).length=s){i j:Nat}(hi:i<n)(hj:j<s){v:Value}(hv:(f i)[j]? = some v):rd w b (i*s+j)=some v:=by
 rw [h.rd,EC hf hi hj,hv]
section
variable {w:WD}{m bb mb:Nat}{c:Nat->Int}{n:Nat}{by':Nat->Int}{mk:Nat->Mark}
theorem BM.k{w':WD}(h:BM w m bb mb c n by' mk)(k:Kept AB w w'):BM w' m bb mb c n by' mk:=⟨h.so.k k,h.bs.k k,h.ms.k k,h.ne⟩
theorem BM.r95(h:BM w m bb mb c n by' mk):rd w m 95=some (.slice (some ⟨mb,0,none⟩) n n):=by
 rw [h.so.rd,gar (by rw [AI];omega),AI]
 rfl
theorem BM.r94(h:BM w m bb mb c n by' mk):rd w m 94=some (.slice (some ⟨bb,0,none⟩) (n*256) (n*256)):=by
 rw [h.so.rd,gar (by rw [AI];omega),AI]
 rfl
theorem BM.rm(h:BM w m bb mb c n by' mk){i:Nat}(hi:i<n):rd w mb (0+i*5)=some (.int .u8 (mk i).role)/\rd w mb (0+i*5+1)=some (vi (mk i).order)/\rd w mb (0+i*5+2)=some (vi (mk i).owner)/\rd w mb (0+i*5+3)=some (vi (mk i).page)/\rd w mb (0+i*5+4)=some (vi (mk i).index):=by
 have hf:∀i,i<n->(F8 (mk i)).length=5:=fun _ _=>rfl;rw [za];exact⟨EI h.ms hf hi (j:=0) (by omega) rfl,EI h.ms hf hi (j:=1) (by omega) rfl,EI h.ms hf hi (j:=2) (by omega) rfl,EI h.ms hf hi (j:=3) (by omega) rfl,EI h.ms hf hi (j:=4) (by omega) rfl⟩
theorem mark_spec(h:BM w m bb mb c n by' mk){i:Nat}(hi:i<n):Calls prog 24 #[ptr m,vi i] w fun e w'=>e=.returned (.tuple #[.agg (F8 (mk i)).toArray,vi 0])/\Kept AB w w':=by
 refine(vc24 _ i w (fun v w'=>v=.tuple #[.agg (F8 (mk i)).toArray,vi 0]/\Kept AB w w') ?_).mono ?_
 rotate_left
 ·rintro e w' ⟨v,rfl,rfl,hk⟩;exact⟨rfl,hk⟩
 unfold Q;intro w1 e1;have o1:=AD (c:=[Value.int IntKind.u8 0,Value.int IntKind.i64 0,Value.int IntKind.i64 0,Value.int IntKind.i64 0,Value.int IntKind.i64 0]) e1;have k1:=kal e1;have h1:=h.k k1;have h95:rd w1 m (0+95)=some (.slice (some ⟨mb,0,none⟩) n n):=by rw [za];exact h1.r95
 have hlt:(decide ((i:Int)<0)||decide ((i:Int)>=(n:Int)))=false:=by simp;omega
 refine⟨_,_,_,fun _=>h95,AG rfl ⟨_,_,_,fun _=>h95,AG hlt (AA rfl ⟨_,_,_,h95,AA rfl (Wi ?_)⟩)⟩⟩;refine⟨_,_,_,_,_,by rw [tnc];exact h1.rm hi,wr5 o1 rfl,fun w2 e2=>?_⟩;obtain⟨o2,k2⟩:=st5 o1 rfl e2;exact⟨_,_,_,_,_,rd5 o2,rfl,BD k1 k2 fun x e=>by omega⟩
end
theorem marks_pic{w:WD}{k kb:Nat}{S:AL}{fp:Prt->Nat->Prop}(h:AJ w k S fp)(hk:rd w kb 0=some (ptr k)) :
 Calls prog 127 #[vi S.n,.func (.func 128) #[] #[ptr kb]] w fun e w'=>∃a l c,e=.returned (.slice a l c)/\Kept AB w w'/\At (rng w w') (fun W=>SlR RMark 5 W a l c ((List.range S.n).map S.mks)) w':=by
 have h4:=h.n4;refine(sev62 (n:=S.n) (w0:=w) (J:=fun F i vs w=>vs=((List.range i).map S.mks).flatMap F8) (by omega) ⟨fun F i vs w w' X h _ _=>h,fun F i vs w1 hi hv k1 hF=>AM.mk _ #[] #[_] rfl (by kernel_rfl) ?_⟩ rfl).mono ?_
 ·obtain⟨bb,mb,M,_⟩:=(h.k k1).at' .mem;refine(vc128 i (some ⟨kb,0,none⟩) w1 (fun v w'=>v=.agg (F8 (S.mks i)).toArray/\Kept AB w1 w') ?_).mono ?_
  ·unfold Q;intro w2 e2;have o2:=AD (c:=[Value.int IntKind.u8 0,Value.int IntKind.i64 0,Value.int IntKind.i64 0,Value.int IntKind.i64 0,Value.int IntKind.i64 0]) e2;have k2:=kal e2;have C2:=(h.k k1).k k2;refine AA rfl ⟨_,(k1.tr k2).rd_some hk id,AA rfl ⟨_,by show rd w2 k (0+94)=_;rw [za];exact C2.rt (j:=0) rfl,(mark_spec (M.k k2) hi).mono ?_⟩⟩;rintro _ w3 ⟨rfl,k3⟩;have o3:=o2.k k3;refine⟨_,_,_,_,_,_,rfl,fun w4 e4=>?_⟩;have o4:=AD (c:=[Value.int IntKind.u8 0,Value.int IntKind.i64 0,Value.int IntKind.i64 0,Value.int IntKind.i64 0,Value.int IntKind.i64 0]) e4;have k4:=kal e4;refine⟨wr5 o4 rfl,fun w5 e5=>?_⟩;obtain⟨o5,k5⟩:=st5 o4 rfl e5;have hne:w1.heap.size≠w3.heap.size:=Nat.ne_of_lt o3.lt;have o53:=(o3.k k4).kx k5 hne;refine⟨_,_,_,_,_,rd5 o5,wr5 o53 rfl,fun w6 e6=>?_⟩;obtain⟨o6,k6⟩:=st5 o53 rfl e6;refine⟨_,_,_,_,_,rd5 o6,rfl,BD (BD ((k2.tr k3).tr k4) k5 fun x e=>?_) k6 fun x e=>Nat.le_of_eq e.symm⟩;have:=o3.lt;omega
  ·rintro e w' ⟨v,rfl,rfl,k⟩;refine⟨F8 (S.mks i),⟨_,_,_,_,_,rfl,rfl⟩,rfl,fun u hu=>?_,k,?_⟩
   ·simp [F8] at hu;rcases hu with rfl|rfl|rfl|rfl|rfl <;> rfl
   ·rw [hv,List.range_succ,FU,List.flatMap_append];simp
 ·rintro e w' ⟨a,c,F,vs,rfl,kk,row,rfl,_,_⟩;refine⟨a,_,c,rfl,kk,?_⟩;exact(HW (f:=F8) (fun _=>rfl) row (by simp)).mono (fun x hx=>row.lt x hx) fun x hx=>hx.2
def FW{α:Type}(R:Rd α)(x:α):HX:=fun u H w=>At H (fun W=>R W [u] x) w
theorem FW.stb{α:Type}{R:Rd α}{x:α}:Stb (FW R x) where
 kx v H w w' X h k hx:=At.kx h k fun y e hy=>hx y e hy
 lt v H w h:=h.lt
theorem GU{α:Type}{R:Rd α}{xs:Nat->α}{T n:Nat}{w w':WD}{a:OA}{c:Nat}{F:NP}{vs:List Value}(row:w'.ownsRow w.heap.size T 1 (.slice a n c) n vs)(hj:n<=n/\JRow (fun j=>FW R (xs j)) F n vs w')(hF:∀x,F x->w.heap.size<=x/\x<w'.heap.size) :
 At (rng w w') (fun W=>SlR R 1 W a n c ((List.range n).map xs)) w':=by
 obtain⟨_,u,H,rfl,h2,h3,_⟩:=hj;refine(at_slR (F:=F) row (by simp) (fun x hx=>(hF x hx).2) fun i x hx=>?_).mono (fun x hx=>hx.elim (fun e=>row.lt x e) (hF x)) fun x hx=>hx.2;have hi:i<n:=by simpa using (D5.1 hx).1
 simp [hi] at hx;subst hx;refine⟨[u i],rfl,fun j v hv=>?_,fun w'' k=>(h2 i hi).go w'' (k.mono fun b _ hb hH=>hb (h3 i hi b hH))⟩;have hj:j=0:=by have:=(D5.1 hv).1;simp at this;omega
 subst hj;simp at hv;simp [hi,hv]
theorem row0{w w':WD}{t:TypeId}{s:Nat}(e:w'=w.alloc (.cells #[] t)):w'.ownsRow w.heap.size t s (.slice (some ⟨w.heap.size,0,none⟩) 0 0) 0 []:=by
 refine⟨by simp,.inr ⟨_,0,#[],rfl,nlr _,?_,by decide,by decide,by simp,by simp⟩⟩;rw [e];simp only [World.alloc];simp
theorem MX:∀xs:List Int,xs.map vi=xs.flatMap fun x=>[vi x]
 | []=>rfl
 | x::xs=>by rw [List.map_cons,List.flatMap_cons,MX xs];rfl
theorem BK.at{w:WD}{base:Nat}{a:OA}{l c:Nat}{xs:List Int}(h:BK w base a l c xs):At (fun x=>(Value.slice a l c).ownBlock=some x) (fun W=>SlR HA 1 W a l c xs) w:=by
 have row:=h.2;rw [MX] at row;exact HW (f:=fun x=>[vi x]) (fun _=>rfl) row h.1
theorem J7 {w:WD}{a:OA}{l c:Nat}{xs:List Int} (h:EK w a l c xs) (hl:xs.length<=1000000) :
    Calls prog 133 #[.slice a l c] w fun e w'=>∃a' c',e=.returned (.slice a' xs.length c')/\Kept AB w w'/\BK w' w.heap.size a' xs.length c' xs:=by
  refine(vc133 a l c w (fun v w'=>∃a' c',v=(.slice a' xs.length c')/\Kept AB w w'/\BK w' w.heap.size a' xs.length c' xs) ?_).mono ?_
  rotate_left
  · rintro e w' ⟨v,rfl,a',c',rfl,h⟩
    exact⟨a',c',rfl,h⟩
  unfold Q;refine AE (fun hn=>?_) (fun hn=>fun w1 e1=>?_)
  · have:a=none:=by simpa using hn
    subst this;have h0:xs=[]:=by
      rcases h.ex with⟨_,h1,_⟩|⟨g,o,cs,h0,_⟩
      · exact List.length_eq_zero_iff.1 (by have:=h.len;omega)
      · cases h0
    subst h0;exact⟨none,0,rfl,Kept.refl _ _,BK.MT⟩
  · have k1:=kal e1
    have r1:w1.ownsRow w.heap.size 3 1 _ 0 []:=row0 e1;have hsrc:Eng.Src w1 a l c (xs.map vi):=(h.k k1).src
    cases hi:prog.info? 3 with
    | none => have : (prog.info? 3).isSome = true := by kernel_rfl
              rw [hi] at this; cases this
    | some i=>
      have hinf:=info_int;rw [hi] at hinf;simp at hinf
      obtain⟨a',c',w2,happ,row,k2⟩:=Eng.app (P:=prog) (t:=27) (ty:=27) (e:=3) (i:=i) (z:=.int .i64 0) (size:=1) underlying27 hi hinf.1 hinf.2.1 rfl (by decide) r1 hsrc (by simp [h.len]) (fun u hu=>by
        obtain⟨x,_,rfl⟩:=List.mem_map.1 hu
        rfl) (by rw [h.len];omega) (by omega) k1.sz
      rw [za,h.len] at happ row;rw [h.len];refine⟨a',_,c',w2,happ,a',c',rfl,BD k1 k2 fun x e=>?_,rfl,by simpa using row⟩;have:=(r1.lt x e).1;exact this
section
variable {w:WD}{k kb:Nat}{S:AL}{fp:Prt->Nat->Prop}
theorem held_pic(h:AJ w k S fp)(hk:rd w kb 0=some (ptr k))(hl:∀i,i<S.AO->(S.held i).length<=1000000) :
 Calls prog 131 #[vi (S.c 1),.func (.func 132) #[] #[ptr kb]] w fun e w'=>∃a l c,e=.returned (.slice a l c)/\Kept AB w w'/\At (rng w w') (fun W=>SlR (RL HA 1) 1 W a l c ((List.range S.AO).map S.held)) w':=by
 have hs:=h.BO;rw [<- hs.2.1.2.2];refine(sev67 (n:=S.AO) (w0:=w) (by omega) (CK (A:=fun j=>FW (RL HA 1) (S.held j)) (fun _ _=>FW.stb) fun i w1 hi k1=>AM.mk _ #[] #[_] rfl (by kernel_rfl) ?_) GW).mono ?_
 ·have C1:=h.k k1;have hh:BG (fun i=>EG (S.held i)) S.AO S.vhe (fp .held) w1:=C1.at' .held;obtain⟨g,cp,u,H,hv,hr,hA,_,_⟩:=hh.one (B:=fun i=>EG (S.held i)) (w':=w1) (fun _ _=>EG.stb) hi fun _ _=>rfl;obtain⟨a,l,c,rfl,hR,_⟩:=hA.ex;refine(vc132 i (some ⟨kb,0,none⟩) w1 (fun v w'=>∃a' c',v=(.slice a' (S.held i).length c')/\Kept AB w1 w'/\BK w' w1.heap.size a' (S.held i).length c' (S.held i)) ?_).mono ?_
  ·unfold Q;refine AA rfl ⟨_,k1.rd_some hk id,AA rfl ⟨some ⟨g,0,none⟩,S.AO,cp,?_,AA rfl (Wi ⟨a,l,c,?_,(J7 hR.o (hl i hi)).mono ?_⟩)⟩⟩
   ·have:=C1.rt (j:=20) (v:=S.vhe) rfl;rw [hv] at this
    show rd w1 k (0+114)=_
    rw [za];exact this
   ·rw [tnc,mo]
    show rd w1 g (0+i)=_
    rw [za];exact hr
   ·rintro _ w2 ⟨a',c',rfl,k2,R2⟩;exact⟨a',_,c',rfl,a',c',rfl,k2,R2⟩
  ·rintro e w' ⟨v,rfl,a',c',rfl,k2,R2⟩;exact⟨_,_,⟨_,_,_,rfl,rfl⟩,rfl,k2,R2.at.imp fun W hW=>⟨a',_,c',rfl,hW⟩,fun x hx=>(R2.lt hx).1⟩
 ·rintro e w' ⟨a,c,F,vs,rfl,kk,row,hj,hF,_⟩;exact⟨a,_,c,rfl,kk,GU row hj hF⟩
theorem flying_pic(h:AJ w k S fp)(hk:rd w kb 0=some (ptr k)) :
 Calls prog 134 #[vi (S.c 1),.func (.func 135) #[] #[ptr kb]] w fun e w'=>∃a l c,e=.returned (.slice a l c)/\Kept AB w w'/\At (rng w w') (fun W=>SlR (RL DZ 2) 1 W a l c ((List.range S.AO).map fun _=>[])) w':=by
 have hs:=h.BO;rw [<- hs.2.1.2.2];refine(sev70 (n:=S.AO) (w0:=w) (by omega) (CK (A:=fun j=>FW (RL DZ 2) []) (fun _ _=>FW.stb) fun i w1 hi k1=>AM.mk _ #[] #[_] rfl (by kernel_rfl) ?_) GW).mono ?_
 ·have C1:=h.k k1;have hh:BG (fun i=>NilA) S.AO S.vfl (fp .flying) w1:=C1.at' .flying;obtain⟨g,cp,u,H,hv,hr,hA,_,_⟩:=hh.one (B:=fun i=>NilA) (w':=w1) (fun _ _=>NilA.stb) hi fun _ _=>rfl;obtain⟨rfl,_⟩:=hA;refine(vc135 i (some ⟨kb,0,none⟩) w1 (fun v w'=>v=.slice none 0 0/\w'=w1) ?_).mono ?_
  ·unfold Q;refine AA rfl ⟨_,k1.rd_some hk id,AA rfl ⟨some ⟨g,0,none⟩,S.AO,cp,?_,AA rfl (Wi ⟨none,0,0,?_,(vc136 none 0 0 w1 (fun v w'=>v=.slice none 0 0/\w'=w1) ?_).mono ?_⟩)⟩⟩
   ·have:=C1.rt (j:=21) (v:=S.vfl) rfl;rw [hv] at this
    show rd w1 k (0+115)=_
    rw [za];exact this
   ·rw [tnc,mo]
    show rd w1 g (0+i)=_
    rw [za];exact hr
   ·unfold Q;exact AA rfl ⟨rfl,rfl⟩
   ·rintro _ w2 ⟨v,rfl,rfl,rfl⟩;exact⟨none,0,0,rfl,rfl,rfl⟩
  ·rintro e w' ⟨v,rfl,rfl,rfl⟩;exact⟨_,fun _=>False,⟨_,_,_,rfl,rfl⟩,rfl,Kept.refl _ _,⟨fun x hx=>hx.elim,fun W hW=>⟨none,0,0,rfl,SlR.MT⟩⟩,fun x hx=>hx.elim⟩
 ·rintro e w' ⟨a,c,F,vs,rfl,kk,row,hj,hF,_⟩;exact⟨a,_,c,rfl,kk,GU row hj hF⟩
theorem rget_spec{r fb mb n:Nat}{of:Nat->Int×Int}{at':List ((Int×Int)×Value)}(h:DE w r fb mb n of at'){i:Nat}(hi:i<n) :
 Calls prog 117 #[ptr r,vi i] w fun e w'=>e=.returned (.tuple #[vi (of i).1,vi (of i).2,.bool ((of i).1 != 0)])/\Kept AB w w':=by
 refine(vc117 _ i w (fun v w'=>v=.tuple #[vi (of i).1,vi (of i).2,.bool ((of i).1 != 0)]/\Kept AB w w') ?_).mono ?_
 rotate_left
 ·rintro e w' ⟨v,rfl,rfl,hk⟩;exact⟨rfl,hk⟩
 unfold Q;have h1:rd w r (0+1)=some (.map (some mb)):=by rw [h.so.rd];rfl
 have h0:rd w r 0=some (.slice (some ⟨fb,0,none⟩) n n):=by rw [h.so.rd];rfl
 have hlt:(decide ((i:Int)<0)||decide ((i:Int)>=(n:Int)))=false:=by simp;omega
 have hf:∀i,i<n->(EP (of i)).length=2:=fun _ _=>rfl;have r0:rd w fb (0+i*2)=some (vi (of i).1):=by rw [za];exact EI h.fs hf hi (j:=0) (by omega) rfl
 have r1:rd w fb (0+i*2+1)=some (vi (of i).2):=by rw [za];exact EI h.fs hf hi (j:=1) (by omega) rfl
 refine⟨_,fun _=>h1,AG rfl ⟨_,_,_,fun _=>h0,AG hlt (AA rfl ⟨_,_,_,h0,AA rfl (Wi ⟨_,_,by rw [tnc];exact⟨r0,r1⟩,fun w1 e1=>?_⟩)⟩)⟩⟩;have o1:=AD (c:=[Value.int IntKind.i64 0,Value.int IntKind.i64 0]) e1;have k1:=kal e1;refine⟨⟨o1.wr (by simp),o1.wr (by simp)⟩,fun w2 e2 w3 e3=>?_⟩;obtain⟨o2,k2⟩:=st2 o1 rfl e2;have o3:=o2.dr e3;exact⟨_,by rw [o3.rd];rfl,_,by rw [o3.rd];rfl,_,by rw [o3.rd];rfl,rfl,(BD k1 k2 fun x e=>Nat.le_of_eq e.symm).dr e3⟩
theorem owner_spec{s fb n:Nat}{of:Nat->Int×Int}(h:DH w s fb n of){i:Nat}(hi:i<n) :
 Calls prog 141 #[ptr s,vi i] w fun e w'=>e=.returned (.tuple #[vi (of i).1,vi (of i).2,.bool ((of i).1 != 0)])/\Kept AB w w':=by
 refine(vc141 _ i w (fun v w'=>v=.tuple #[vi (of i).1,vi (of i).2,.bool ((of i).1 != 0)]/\Kept AB w w') ?_).mono ?_
 rotate_left
 ·rintro e w' ⟨v,rfl,rfl,hk⟩;exact⟨rfl,hk⟩
 unfold Q;have h0:rd w s 0=some (.slice (some ⟨fb,0,none⟩) n n):=by rw [h.so.rd];rfl
 have hf:∀i,i<n->(EP (of i)).length=2:=fun _ _=>rfl;have r0:rd w fb (0+i*2)=some (vi (of i).1):=by rw [za];exact EI h.fs hf hi (j:=0) (by omega) rfl
 have r1:rd w fb (0+i*2+1)=some (vi (of i).2):=by rw [za];exact EI h.fs hf hi (j:=1) (by omega) rfl
 refine AG (by simp) (AG rfl (AA rfl ⟨_,_,_,h0,AG (by simp;omega) (AA rfl ⟨_,_,_,h0,AA rfl (Wi ⟨_,_,by rw [tnc];exact⟨r0,r1⟩,fun w1 e1=>?_⟩)⟩)⟩));have o1:=AD (c:=[Value.int IntKind.i64 0,Value.int IntKind.i64 0]) e1;have k1:=kal e1;refine⟨⟨o1.wr (by simp),o1.wr (by simp)⟩,fun w2 e2 w3 e3=>?_⟩;obtain⟨o2,k2⟩:=st2 o1 rfl e2;have o3:=o2.dr e3;exact⟨_,by rw [o3.rd];rfl,_,by rw [o3.rd];rfl,_,by rw [o3.rd];rfl,rfl,(BD k1 k2 fun x e=>Nat.le_of_eq e.symm).dr e3⟩
theorem nlocks_spec{l n:Nat}{f:Nat->Int}(h:BR w l n f):Calls prog 151 #[ptr l] w fun e w'=>e=.returned (vi n)/\w'=w:=by
 have hr:rd w l 0=some (vi n):=by rw [own.rd h];rfl
 refine(vc151 _ w (fun v w'=>v=vi n/\w'=w) ?_).mono ?_
 ·unfold Q;exact AG rfl (AA rfl ⟨_,hr,rfl,rfl⟩)
 ·rintro e w' ⟨v,rfl,rfl,rfl⟩;exact⟨rfl,rfl⟩
theorem BR.r1{l n:Nat}{f:Nat->Int}(h:BR w l n f){i:Nat}(hi:i<64):rd w l (1+i)=some (vi (f i)):=by
 rw [own.rd h,gar (by simp),gal (by rw [AI];simp;omega)];rw [show 1+i-[vi n].length=i by simp,AT _ _ _ _ _ hi,za]
theorem BR.r65{l n:Nat}{f:Nat->Int}(h:BR w l n f):rd w l 65=some (.bool true):=by
 rw [own.rd h,gar (by simp),gar (by rw [AI];simp),AI]
 rfl
theorem holder_spec{l n:Nat}{f:Nat->Int}(h:BR w l n f)(hn:n<=64){i:Nat}(hi:i<n):Calls prog 153 #[ptr l,vi i] w fun e w'=>e=.returned (vi (IntKind.wrap .i64 (f i-1)))/\w'=w:=by
 refine(vc153 _ i w (fun v w'=>v=vi (IntKind.wrap .i64 (f i-1))/\w'=w) ?_).mono ?_
 ·unfold Q;have hr:rd w l 0=some (vi n):=by rw [own.rd h];rfl
  have h65:rd w l (0+65)=some (.bool true):=by rw [za];exact h.r65
  refine⟨_,fun _=>h65,AG rfl ⟨_,fun _=>hr,AG (by simp;omega) (AA rfl (Wi ⟨_,?_,rfl,rfl⟩))⟩⟩;rw [tnc,mo]
  show rd w l (0+1+i)=_
  rw [za];exact h.r1 (by omega)
 ·rintro e w' ⟨v,rfl,rfl,rfl⟩;exact⟨rfl,rfl⟩
theorem holders_pic(h:AJ w k S fp)(hk:rd w kb 0=some (ptr k)) :
 Calls prog 88 #[vi (9+S.nodes:Nat),.func (.func 152) #[] #[ptr kb]] w fun e w'=>∃a l c,e=.returned (.slice a l c)/\Kept AB w w'/\At (rng w w') (fun W=>SlR HA 1 W a l c ((List.range (9+S.nodes)).map fun i=>IntKind.wrap .i64 (S.lh i-1))) w':=by
 have hs:=h.BO;refine(sev59 (n:=9+S.nodes) (w0:=w) (J:=fun F i vs w=>vs=((List.range i).map fun i=>IntKind.wrap .i64 (S.lh i-1)).map vi) (by omega) ⟨fun F i vs w w' X h _ _=>h,fun F i vs w1 hi hv k1 hF=>AM.mk _ #[] #[_] rfl (by kernel_rfl) ?_⟩ rfl).mono ?_
 ·have C1:=h.k k1;obtain⟨hL,_⟩:BR w1 S.pl (9+S.nodes) S.lh/\_:=C1.at' .locks;refine(vc152 i (some ⟨kb,0,none⟩) w1 (fun v w'=>v=vi (IntKind.wrap .i64 (S.lh i-1))/\w'=w1) ?_).mono ?_
  ·unfold Q;refine AA rfl ⟨_,k1.rd_some hk id,AA rfl ⟨_,by show rd w1 k (0+97)=_;rw [za];exact C1.rt (j:=3) rfl,(holder_spec hL (by omega) hi).mono ?_⟩⟩;rintro _ _ ⟨rfl,rfl⟩;exact⟨_,rfl,rfl,rfl⟩
  ·rintro e w' ⟨v,rfl,rfl,rfl⟩;refine⟨[_],⟨_,rfl,rfl⟩,rfl,fun u hu=>by simp at hu;subst hu;rfl,Kept.refl _ _,?_⟩;rw [hv,List.range_succ,FU,FU]
   rfl
 ·rintro e w' ⟨a,c,F,vs,rfl,kk,row,rfl,_⟩;have R:BK w' w.heap.size a (9+S.nodes) c ((List.range (9+S.nodes)).map fun i=>IntKind.wrap .i64 (S.lh i-1)):=⟨by simp,row⟩;exact⟨a,_,c,rfl,kk,R.at.mono (fun x hx=>R.lt hx) fun x hx=>hx.2⟩
end
end Go.Proofs.YtdgbechegbmpcaaGreatDoor
