/- Part of a proof that a law returns true. Conditions: those in each theorem. -/
import Derived.Test.YtdgbechegbmpcaaGreatDoorQ19
set_option linter.unusedSimpArgs false
set_option linter.unusedVariables false
set_option maxRecDepth 100000
namespace Go.Proofs.YtdgbechegbmpcaaGreatDoor
open Go Go.Eng Go.Proofs.Tryz
open Go.Value (bool func slice agg int)
open Option (isNone)
open Go.IntKind (wrap)
open List (replicate range)
variable {c i l x:Nat}{xs:List Nat}{Z:Cn}{S:AR}{T:Tk}{t t1 t2:SqT}{F:NP}
theorem Nds.fst{w:WD}{FR:NP}{a:OA}(R:Nds w FR a l c (x::xs)):isP a=true/\l=xs.length+1/\l<=c/\c<=maxLen/\rd w (pb a) (po a)=some (vi (x:Nat)):=by
 have hl:=R.len;rw [List.length_cons] at hl;obtain⟨b,o,rfl,_,hr⟩:=R.el (by omega);exact⟨rfl,hl,R.lc,R.mx,hr 0 x rfl⟩
structure C6v(Z:Cn)(xs:List Nat)(t:SqT)(f:Nat)(t2:SqT):Prop where
 nd:∃i,i∈xs/\AU Z.c i<=f/\(f:Int)<AU Z.c (i+1)
 tk:t2.tk Z.me=Tk.no
 hh:t2.hh Z.me=t.hh Z.me++[f]
 gt:t2.r.gt Z.me=t.r.gt Z.me
section
variable {Z:Cn}{N:Nat}{th:Value}
theorem B7t{m:Nat}{l':List Bk}(ok:C7s Z)(h:∀n,n<m->Z.ls n<=BD (S.L n))(g:BD l'+1=BD (S.L i))(g2:Z.c 91<(BD (S.L i):Int)):∀n,n<m->Z.ls n<=BD (upd S.L i l' n):=λn hn=>by
 have:=h n hn;by_cases e:n=i
 .subst e;rw [AF];have:=ok.ls n;omega
 .rw [AI _ _ e];exact this
set_option maxHeartbeats 2000000 in
theorem A91(ht:isF th=true):∀(xs:List Nat) {t:SqT}{G F:NP}{w:WD}{a:OA}{l c:Nat} (P:Pt Z t G F w) (h0:t.tk Z.me=Tk.no) (R:Nds w F a l c xs) (hx:∀x∈xs,x<t.S.AK)
 (H0:∀W t2 G2,Pt Z t2 G2 F W->E7 Z t t2->(Z.al->∀x∈xs,(BD (t.S.L x):Int)<=Z.c 91)->AB (λx=>¬F x) w W->AN prog th [vi (-1),vi 6] W (Nx Z N t2 G2 F W))
 (H1:∀W t2 G2 f,Pt Z t2 G2 F W->C6v Z xs t f t2->AB (λx=>¬F x) w W->AN prog th [vi (f:Nat),vi 0] W (Nx Z N t2 G2 F W)),
 Calls prog 121 #[AP Z.k,vi Z.me,.slice a l c,.int .u8 4,.bool true,th] w λe w'=>∃v,e=.returned v/\Nx Z (N+2*xs.length+1) t G F w (.returned v) w':=by
 have hto:=GF ht;intro xs
 induction xs with
 | nil=>
  intro t G F w a l c P h0 R hx H0 H1;obtain rfl:l=0:=R.len;refine Calls.ret (vc121 _ Z.me a 0 c 4 true th w _ ?_);unfold Q;rw [show Value.cells th=[th].toArray from DG hto];intro w1 e1 w2 e2 w3 e3 w4 e4 w5 e5 w6 e6;have B:=((((((Bx.nil w).al e1).al e2).al e3).al e4).al e5).al e6;refine⟨_,_,_,B.rd (b:=w2.heap.size) (v:=.slice a 0 c) (by simp),AA rfl ⟨_,rfl,JB P B.k rfl λW t1 G1 fl P1 m1 k1 _=>?_⟩⟩;have hwk:∀x,F x->(F x\/rng w w6 x):=λx h=>.inl h;refine AN.mk 194 #[] _ rfl (by kernel_rfl) (Calls.ret (vc194 fl (some ⟨w5.heap.size,0,none⟩) W _ ?_));unfold Q;exact AA rfl ⟨th,B.rr k1 (b:=w5.heap.size) (by simp),AT (H0 W t1 G1 (P1.less hwk) m1 (λ_ _ h=>by cases h) (B.k.none.trans (k1.AE λx _ h e=>h (.inl e)) λ_ _ h=>h)) λe w' hN=>(hN.wk hwk λ_=>nlr _).out⟩
 | cons x xs ih=>
  intro t G F w a l c P h0 R hx H0 H1;obtain⟨r1,r2,r3,r4,r5⟩:=R.fst;have hxn:=hx x mcs;obtain⟨fp,X⟩:=P.X;have hs:=X.C.BQ;have hcp:=P.cp;refine Calls.ret (vc121 _ Z.me a l c 4 true th w _ ?_);unfold Q;rw [show Value.cells th=[th].toArray from DG hto];intro w1 e1 w2 e2 w3 e3 w4 e4 w5 e5 w6 e6;have B6:=((((((Bx.nil w).al e1).al e2).al e3).al e4).al e5).al e6;refine⟨_,_,_,B6.rd (b:=w2.heap.size) (v:=.slice a l c) (by simp),AL (by simp;omega) ⟨a,l,c,B6.rd (b:=w2.heap.size) (by simp),AA r1 (Wi ⟨x,B6.k.AV r5 id,λw7 e7=>⟨Bx.wr0 e7,λw8 e8 w9 e9=>?_⟩⟩)⟩⟩;have e9':wrap .i64 (9+((x:Nat):Int))=((9+x:Nat):Int):=by rw [wi (by omega)];omega
  rw [e9'] at e8;have B:=((B6.al2 e7 e8).2).dr e9;refine⟨_,B.rd (b:=w.heap.size) (v:=AP Z.k) (by simp),AA rfl ⟨_,by have:=X.C.rtW B.k (j:=3) rfl;exact this,Z.me,B.rd (b:=w1.heap.size) (by simp),((9+x:Nat):Int),B.rd (b:=w6.heap.size) (by simp),?_⟩⟩;refine(GA (N:=N+2*xs.length+1) P B.k (l:=9+x) (by omega) (by rw [h0];intro j hj;cases hj) rfl λW t1 G1 fl P1 m1 k1 _=>?_).AE λe w' ⟨v,hv,hN⟩=>⟨v,hv,v,rfl,hN.le λ_=>by simp;omega⟩;have hwk:∀x,F x->(F x\/rng w w9 x):=λx h=>.inl h;have T1:=m1.tk1 h0;obtain⟨fp1,X1⟩:=P1.X;have q1:=P1.inv.q;have ec:t1.S.c=t.S.c:=by rw [P1.inv.c,P.inv.c]
  have hnn:t1.S.AK=t.S.AK:=by unfold AR.AK;rw [ec]
  have hx1:x<t1.S.AK:=by rw [hnn];exact hxn
  have hs1:=X1.C.BQ;have I5:=P1.inv.EG P1.cp (xs:=[9+x]) (λj=>by rw [T1]) (by rw [T1];rfl);have mm:=m1.EG h0 P.inv I5;have rr:=λ{b:Nat}{v:Value}{W':WD} (kk:AB (λx=>¬(F x\/rng w w9 x)) W W') (hm:(b,v)∈_)=>B.rr (AB.oo k1 kk) hm;have toF:∀{W':WD},AB (λx=>¬(F x\/rng w w9 x)) W W'->AB (λx=>¬F x) w W':=λkk=>B.k.none.trans ((AB.oo k1 kk).AE λx _ h e=>h (.inl e)) λ_ _ h=>h;refine AN.mk 195 #[] _ rfl (by kernel_rfl) (Calls.ret (vc195 fl (some ⟨w.heap.size,0,none⟩) (some ⟨w1.heap.size,0,none⟩) (some ⟨w2.heap.size,0,none⟩) (some ⟨w3.heap.size,0,none⟩) (some ⟨w4.heap.size,0,none⟩) (some ⟨w6.heap.size,0,none⟩) (some ⟨w5.heap.size,0,none⟩) W _ ?_));unfold vcP195;intro W1 eW1;have M1:=X1.mv0 (kr.dr eW1);have k01:=P1.kf M1.L.kp;refine AA rfl ⟨_,rr k01 (b:=w.heap.size) (v:=AP Z.k) (by simp),AA rfl ⟨Z.me,rr k01 (b:=w1.heap.size) (by simp),AA rfl ⟨a,l,c,rr k01 (b:=w2.heap.size) (by simp),AA r1 (Wi ⟨x,(R.to (toF k01) λ_ h=>h).fst.2.2.2.2,AA rfl ⟨4,rr k01 (b:=w3.heap.size) (by simp),AA rfl ⟨true,rr k01 (b:=w4.heap.size) (by simp),(A7y M1.X.C P1.cp (i:=x) hx1 (role:=4) (by decide) true (q1.B8y X1.C.n4.2.2)).AE ?_⟩⟩⟩)⟩⟩⟩;rintro _ W2 (⟨g1,rfl,k12⟩|⟨g1,f,l',rfl,g2,g3,g4,T2⟩)
  .have M2:=M1.tr (M1.X.mv0 k12);have k02:=P1.kf M2.L.kp;refine⟨_,_,rfl,AA rfl ⟨_,rr k02 (b:=w.heap.size) (v:=AP Z.k) (by simp),AA rfl ⟨Z.me,rr k02 (b:=w1.heap.size) (by simp),AA rfl ⟨((9+x:Nat):Int),rr k02 (b:=w6.heap.size) (by simp),λW3 e3=>?_⟩⟩⟩⟩;have o3:=AG e3;have M3:=M2.tr (M2.X.mv0 (kr.al e3));refine(ET (tk:=t1.tk) (n:=t1.S.AS) (T:={Tk.no with lks:=[9+x]}) M3.X q1.lk (by omega) rfl (xs:=[9+x]) T1 (λy hy=>⟨hy,by simp at hy;subst hy;show 9+x<9+t1.S.AK;omega⟩) (by simp) (by simp) o3 (λp hp=>by have:=(M2.X.C.lt p _ hp).2;omega) rfl).AE ?_;rintro _ W4 ⟨rfl,fp4,M34⟩;have M4:=M3.tr M34;refine⟨rfl,AL rfl λW5 e5=>?_⟩;have M5:=M4.tr (M4.X.mv0 (kr.dr e5));have k05:=P1.kf M5.L.kp;obtain⟨P5,o5⟩:=P1.mv (t':=t1.EG Z.me [9+x]) I5 rfl M5 rfl Oth.EG;refine AA rfl ⟨_,rr k05 (b:=w.heap.size) (v:=AP Z.k) (by simp),AA rfl ⟨Z.me,rr k05 (b:=w1.heap.size) (by simp),AA rfl ⟨a,l,c,rr k05 (b:=w2.heap.size) (by simp),AA BR (AA rfl ⟨4,rr k05 (b:=w3.heap.size) (by simp),AA rfl ⟨true,rr k05 (b:=w4.heap.size) (by simp),AA rfl ⟨th,rr k05 (b:=w5.heap.size) (by simp),?_⟩⟩⟩)⟩⟩⟩;refine(ih (P5.less hwk) (AF _ _ _) (R.to (toF k05) λ_ h=>h).tail (λy hy=>by show y<(t1.S.c 0).toNat;rw [ec];exact hx y (mcm _ hy)) (λW t2 G2 P2 m2 hf kk=>H0 W t2 G2 P2 (mm.tr m2) (λa y hy=>?_) (AB.oo (toF k05) kk)) (λW t2 G2 f P2 k2 kk=>H1 W t2 G2 f P2 ⟨k2.nd.imp λi h=>⟨mcm _ h.1,h.2⟩,k2.tk,k2.hh.trans (by rw [mm.1.2.1]),k2.gt.trans mm.1.2.2.1⟩ (AB.oo (toF k05) kk))).AE ?_
   .have hf:=hf a;rw [mm.2 a] at hf;rcases List.mem_cons.1 hy with rfl|hy
    .rw [m1.2 a] at g1;rw [<- P.inv.c];exact g1
    .exact hf y hy
   .rintro e w' ⟨v,rfl,hN⟩;exact⟨v,rfl,Nx.pre o5 (hN.wk hwk λ_=>by omega)⟩
  .obtain⟨fp2,M12⟩:=M1.X.mv T2;have M2:=M1.tr M12;have k02:=P1.kf M2.L.kp;refine⟨_,_,rfl,AA rfl ⟨_,rr k02 (b:=w.heap.size) (v:=AP Z.k) (by simp),AA rfl ⟨Z.me,rr k02 (b:=w1.heap.size) (by simp),AA rfl ⟨((9+x:Nat):Int),rr k02 (b:=w6.heap.size) (by simp),λW3 e3=>?_⟩⟩⟩⟩;have o3:=AG e3;have M3:=M2.tr (M2.X.mv0 (kr.al e3));refine(ET (tk:=t1.tk) (n:=t1.S.AS) (T:={Tk.no with lks:=[9+x]}) M3.X q1.lk (by omega) rfl (xs:=[9+x]) T1 (λy hy=>⟨hy,by simp at hy;subst hy;show 9+x<9+t1.S.AK;omega⟩) (by simp) (by simp) o3 (λp hp=>by have:=(M2.X.C.lt p _ hp).2;omega) rfl).AE ?_;rintro _ W4 ⟨rfl,fp4,M34⟩;have M4:=M3.tr M34;have k04:=P1.kf M4.L.kp;have LG:=q1.taken X1.C P1.cp hx1 g2 g4;have LF:=LG.B9w (i:=Z.me) (T:=Tk.no) P1.cp (OJ (xs:=[9+x]) q1.lk λj=>by rw [T1]) (by rw [T1]) TkO.none;obtain⟨_,_,_,hfs⟩:=q1.free X1.C hx1 g2 g4;obtain⟨P4,o4⟩:=P1.mv (t':=⟨(t1.S.taken Z.me x f l' 4).IB (unl t1.S.lh [9+x] 0),t1.pg,upd t1.hh Z.me (t1.hh Z.me++[f]),upd t1.tk Z.me Tk.no,t1.r⟩) ⟨LF,P1.inv.c,P1.inv.pl,B7t P1.ok P1.inv.ls hfs (by rw [<- P1.inv.c];exact g1),P1.inv.no,λa j hj=>(AI _ _ hj).trans (P1.inv.al a j hj)⟩ rfl M4 rfl ⟨λj hj=>⟨AI _ _ hj,AI _ _ hj,rfl⟩,nlr _⟩;refine⟨rfl,AA rfl (AA rfl ⟨th,rr k04 (b:=w5.heap.size) (by simp),AT (H1 W4 _ G1 f (P4.less hwk) ⟨⟨x,mcs,by rw [<- P1.inv.c];exact g2,by rw [<- P1.inv.c];exact g3⟩,AF _ _ _,(AF _ _ _).trans (by rw [m1.1.2.1];rfl),m1.1.2.2.1⟩ (toF k04)) λe w' hN=>(Nx.pre o4 (hN.wk hwk λ_=>by omega)).out⟩)⟩
end
abbrev Wq(p:OA)(X:Prop):Prop:=Wif (isP p&&true) X False
theorem vc296(g:OA)(x1:Bool)(w:WD)(K:KV)(h:Q (Dr w λa=>Wp g (Rp a g 0 λx=>Wp x (Rp a x 99 λd=>Wp g (Ri a g 6 λx=>CI 315 #[pt d,vi x] a λn w'=>Dr w' λa=>Wp g (Rp a g 0 λx=>Wp x (Rs a x 116 λb f i=>Wp g (Ri a g 1 λx=>Wp b (Wn x f (Sw a (pb b) (po b+x.toNat*1) (vi (-1)) λw'=>Dr w' λa=>Wp g (Rp a g 0 λx=>Wp g (Ri a g 1 λc=>Wp g (Ri a g 5 λh=>AW a #[vi h,vi 8] 3 λw'=>Rt w' (pb g) (po g+1) (.int .i64 c)<|Rt w' (pb g) (po g) (.pointer x)<|C0 188 #[pt x,vi c,sl (aD a.heap.size) 2 2] w' λw'=>Wp g (Rv w' g 7 λx=>AN prog x [bool false] w' λe w'=>∃(v:Value),e=rT v/\K v w')))))))))))))):Ret 296 #[pt g,bool x1] w K:=vcA L7 2 [2000046] func296 h
theorem vc315(s:OA)(slot:Int)(w:WD)(K:KV)(h:Q (gIf (isP s) (isNone s=false) (∃(x:Bool),(isNone s=false->rd w (pb s) (po s+1)=some (.bool x))/\Wif (isNone s||!x) (K (vi 1) w) (gIf (isP s) (decide (slot<0)=false) (∃(x:OA) (a d:Nat),(decide (slot<0)=false->rd w (pb s) (po s)=some (.slice x a d))/\Wif (decide (slot<0)||decide (slot>=(↑a:Int))) (K (vi 2) w) (Wp s (Rs w s 0 λx f h=>Wp x (Wn slot f (∃(b c:Int),(rd w (pb x) (po x+slot.toNat*2)=some (.int .i64 b)/\rd w (pb x) (po x+slot.toNat*2+1)=some (.int .i64 c))/\Wif (b==0&&(c==0&&true)) (K (vi 7) w) (Wp s (Rs w s 0 λx g i=>Wp x (Wn slot g ((wr w (pb x) (po x+slot.toNat*2)/\wr w (pb x) (po x+slot.toNat*2+1))/\St (st w (pb x) (po x+slot.toNat*2) (vi 0)) (pb x) (po x+slot.toNat*2+1) (vi 0) λw'=>K (vi 0) w'))))))))))))):Ret 315 #[pt s,vi slot] w K:=vcA L7 2 [] func315 h
theorem vc116(x0:Bool)(a f g c:OA)(w:WD)(K:KV)(h:Q (Wp a (Rp w a 0 λx=>Wp x (Rp w x 0 λh=>Wp h (Rp w h 94 λx=>CI 66 #[pt x] w λn w'=>∃(I:Value->Int->WD->Nat->Prop),(∃(n:Nat),I Value.nilFunc 0 w' n)/\∀(v:Value) (d:Int) (w':WD) (k:Nat),I v d w' k->Wif (decide (d<n)) (Wp a (Rp w' a 0 λx=>Wp x (Rp w' x 0 λi=>Wp i (Rp w' i 98 λx=>Calls prog 117 #[pt x,vi d] w' λe w'=>∃(n l:Int) (b:Bool),e=rT (.tuple #[vi n,vi l,bool b])/\gIf (isP f) (b=true) (∃(x:Int),(b=true->rd w' (pb f) (po f)=some (.int .i64 x))/\Wif (b&&l==x) (Dr w' λj=>Wp a (Rp j a 0 λx=>Wp x (Rp j x 0 λo=>Wp g (Ri j g 0 λx=>Ret 118 #[pt o,vi x,vi d,func (.func 119) #[] #[pt c]] j K)))) (Lt k λm=>I v (wrap .i64 (d+1)) w' m)))))) (Wp c (Rv w' c 0 λx=>AN prog x [] w' λe w'=>∃(v:Value),e=rT v/\K v w'))))))):Ret 116 #[bool x0,pt a,pt f,pt g,pt c] w K:=vcA L7 2 [2000050] func116 h
theorem vc119(x0:Bool)(a:OA)(w:WD)(K:KV)(h:Q (Wp a (Rv w a 0 λx=>AN prog x [] w λe w'=>∃(v:Value),e=rT v/\K v w'))):Ret 119 #[bool x0,pt a] w K:=vcA L7 2 [2000004] func119 h
def vcP120(x0:Bool)(b d h f:OA)(w:WD)(K:KV):Prop:=Dr w λg=>Wp b (Rp g b 0 λx=>Wp x (Rp g x 0 λj=>Wp d (Ri g d 0 λk=>Wp b (Rp g b 0 λi=>Wp i (Rp g i 0 λp=>Wp d (Ri g d 0 λq=>Wp h (Ri g h 0 λr=>Wp f (Rv g f 0 λo=>CS 20 #[pt p,vi q,vi 1,vi r] g λa l c w'=>Rt w' (pb f) (po f) o<|Rt w' (pb d) (po d) (.int .i64 k)<|Rt w' (pb x) (po x) (.pointer j)<|Rt w' (pb b) (po b) (.pointer x)<|Ret 121 #[pt j,vi k,sl a l c,vu 4,bool true,o] w' K))))))))
theorem vc120(x0:Bool)(a b c d:OA)(w:WD)(K:KV)(h:vcP120 x0 a b c d w K):Ret 120 #[bool x0,pt a,pt b,pt c,pt d] w K:=vcA L7 2 [] func120 h
theorem vc125(x0:Bool)(a:OA)(w:WD)(K:KV)(h:Q (Wp a (Rv w a 0 λx=>AN prog x [] w λe w'=>∃(v:Value),e=rT v/\K v w'))):Ret 125 #[bool x0,pt a] w K:=vcA L7 2 [2000004] func125 h
theorem vc113(k:OA)(cpu node:Int)(end':Value)(w:WD)(K:KV)(h:Q (AW w #[pt k] 54 λw'=>AW w' #[vi cpu] 3 λa=>AW a #[vi node] 3 λg=>AW g (Value.cells end') 1 λj=>Dr j λf=>RP f w.heap.size 0 λx=>RI f a.heap.size 0 λd=>Wp x (Wn d 8 (RI f (pb x) (po x+18+d.toNat*1) λi=>AW f #[vi 0] 3 λb=>Rt b (pb x) (po x+18+d.toNat*1) (.int .i64 i)<|Rt b a.heap.size 0 (.int .i64 d)<|Rt b w.heap.size 0 (.pointer x)<|Sw b f.heap.size 0 (vi (wrap .i64 (2*i))) λc=>AW c #[Value.nilFunc] 123 λl=>Sw l c.heap.size 0 (func (.func 189) #[] #[bp f,bp w,bp a,bp g,bp w',bp c]) λh=>RV h c.heap.size 0 λx=>K x h)))):Ret 113 #[pt k,vi cpu,vi node,end'] w K:=vcA L7 2 [] func113 h
theorem vc189(x0:Bool)(a b c d g l:OA)(w:WD)(K:KV)(h:Q (Dr w λh=>Wp a (Ri h a 0 λx=>gIf (isP b) ((x==0)=false) (∃(i:OA),((x==0)=false->rd h (pb b) (po b)=some (.pointer i))/\gIf (isP i) ((x==0)=false) (∃(j:OA),((x==0)=false->rd h (pb i) (po i+95)=some (.pointer j))/\gIf (isP c) ((x==0)=false) (∃(k:Int),((x==0)=false->rd h (pb c) (po c)=some (.int .i64 k))/\Wif (x==0) (Wp d (Rv h d 0 λx=>AN prog x [] h λe w'=>e=rT (.tuple #[])/\K Value.nilFunc w')) (CI 26 #[pt j,vi k] h λn w'=>Wif (n==3) (Wp d (Rv w' d 0 λx=>AN prog x [] w' λe w'=>e=rT (.tuple #[])/\K Value.nilFunc w')) (Wp a (Ri w' a 0 λx=>Wq a (Sw w' (pb a) (po a) (vi (wrap .i64 (x-1))) λf=>Wp b (Rp f b 0 λx=>Wp g (Ri f g 0 λo=>Wp c (Ri f c 0 λp=>AW f #[vi p] 3 λw'=>Ret 123 #[pt x,vi o,sl (aD f.heap.size) 1 1,func (.func 190) #[] #[pt a,pt l]] w' K))))))))))))):Ret 189 #[bool x0,pt a,pt b,pt c,pt d,pt g,pt l] w K:=vcA L7 2 [2000020] func189 h
theorem vc190(got:Int)(b a:OA)(w:WD)(K:KV)(h:Q (Wif (got==0) (Wq b (Sw w (pb b) (po b) (vi 0) λw'=>Wp a (Rv w' a 0 λx=>K x w'))) (Wp a (Rv w a 0 λx=>K x w)))):Ret 190 #[vi got,pt b,pt a] w K:=vcA L7 2 [] func190 h
theorem vc112(x0:Bool)(a b:OA)(w:WD)(K:KV)(h:Q (Wp a (Rb w a 0 λx=>Wif (!x) (K Value.nilFunc w) (Wp b (Rv w b 0 λx=>AN prog x [] w λe w'=>∃(v:Value),e=rT v/\K v w'))))):Ret 112 #[bool x0,pt a,pt b] w K:=vcA L7 2 [2000007] func112 h
theorem vc114(a:OA)(w:WD)(K:KV)(h:Q (Wq a (Sw w (pb a) (po a) (bool true) λw'=>K (.tuple #[]) w'))):Ret 114 #[pt a] w K:=vcA L7 2 [] func114 h
theorem vc115(s after:Value)(w:WD)(K:KV)(h:Q (AW w (Value.cells s) 123 λw'=>AW w' (Value.cells after) 123 λa=>RV a w.heap.size 0 λx=>Wif (okF x) (Wif (!isF x) (RV a w'.heap.size 0 λx=>K x a) (K (.func (.func 191) #[] #[bp w,bp w']) a)) False)):Ret 115 #[s,after] w K:=vcA L7 2 [] func115 h
theorem vc191(fail:Bool)(b a:OA)(w:WD)(K:KV)(h:Q (Dr w λd=>Wp b (Rv d b 0 λx=>Wp a (Rv d a 0 λc=>AN prog x [bool fail] d λe w'=>∃(v:Value),e=rT v/\(rd w' (pb a) (po a)=some c/\True)/\Ret 115 #[v,c] w' K)))):Ret 191 #[bool fail,pt b,pt a] w K:=vcA L7 2 [2000005] func191 h
theorem vc26(z:OA)(node:Int)(w:WD)(K:KV)(h:Q (CI 11 #[pt z,vi node] w λn w'=>gIf (isP z) ((!isNone z)=true) (∃(x:OA) (c d:Nat),((!isNone z)=true->rd w' (pb z) (po z+94)=some (.slice x c d))/\gIf (isP z) ((!isNone z&&!isNone x&&decide (node>=0))=true) (∃(f:OA) (a g:Nat),((!isNone z&&!isNone x&&decide (node>=0))=true->rd w' (pb z) (po z+94)=some (.slice f a g))/\gIf (isP z) ((!(!isNone z&&!isNone x&&decide (node>=0)&&decide (node<(↑a:Int))))=false) (∃(b:Int),((!(!isNone z&&!isNone x&&decide (node>=0)&&decide (node<(↑a:Int))))=false->rd w' (pb z) (po z+91)=some (.int .i64 b))/\Wif (!(!isNone z&&!isNone x&&decide (node>=0)&&decide (node<(↑a:Int)))||decide (n<=b)) (K (vi 0) w') (Wp z (Ri w' z 92 λx=>Wif (decide (n<=x)) (K (vi 1) w') (Wp z (Ri w' z 93 λx=>Wif (decide (n<=x)) (K (vi 2) w') (K (vi 3) w')))))))))):Ret 26 #[pt z,vi node] w K:=vcA L7 2 [] func26 h
theorem vc122(x0:Bool)(b d g k:OA)(w:WD)(K:KV)(h:Q (Dr w λf=>Wp b (Rp f b 0 λx=>Wp x (Rp f x 0 λi=>Wp d (Ri f d 0 λj=>Wp b (Rp f b 0 λh=>Wp h (Rp f h 0 λo=>Wp d (Ri f d 0 λp=>Wp g (Ri f g 0 λq=>CS 20 #[pt o,vi p,vi 1,vi q] f λa l c w'=>Rt w' (pb d) (po d) (.int .i64 j)<|Rt w' (pb x) (po x) (.pointer i)<|Rt w' (pb b) (po b) (.pointer x)<|Ret 123 #[pt i,vi j,sl a l c,func (.func 124) #[] #[pt b,pt d,pt k]] w' K))))))))):Ret 122 #[bool x0,pt b,pt d,pt g,pt k] w K:=vcA L7 2 [] func122 h
theorem vc124(got:Int)(a b c:OA)(w:WD)(K:KV)(h:Q (Dr w λf=>Wp a (Rp f a 0 λx=>Wp x (Rs f x 112 λd g h=>Wp b (Ri f b 0 λx=>Wp d (Wn x g (Sw f (pb d) (po d+x.toNat*1) (vi got) λw'=>Wp c (Rv w' c 0 λx=>AN prog x [] w' λe w'=>∃(v:Value),e=rT v/\K v w')))))))):Ret 124 #[vi got,pt a,pt b,pt c] w K:=vcA L7 2 [2000013] func124 h
def HV(S:AR):Prop:=∀s,s<S.AY->S.sof s≠(0,0)
section
variable {w w':WD}{k:Nat}{S:AR}{fp:Prt->Nat->Prop}
theorem A5f(h:AO w k S fp){p:Int}(hi:i<S.AY)(hp:S.sof i=(1,p)) :
 Calls prog 315 #[AP S.ps,vi i] w λe w'=>e=.returned (vi 0)/\Step w w' k (S.C0q (upd S.sof i (0,0))) fp:=by
 obtain⟨fb,D,f1,f2⟩:∃fb,ER w S.ps fb S.AY S.sof/\fp .AY S.ps/\fp .AY fb:=h.at' .AY;have hs:=h.BQ.2.2.1;refine Calls.ret (vc315 _ i w _ ?_);have hr:rd w S.ps 0=some (.slice (some ⟨fb,0,none⟩) S.AY S.AY):=by rw [D.so.rd];rfl
 unfold Q;have hlen:(D4 S.AY λi=>E3 (S.sof i)).length=S.AY*2:=DE (λ_ _=>rfl);have wr':∀j,j<2->wr w fb (i*2+j):=λj hj=>D.fs.wr (by rw [hlen];omega);obtain⟨g0,g1⟩:=D.get hi;refine AJ (λ_=>rfl) ⟨true,λ_=>by show rd w S.ps (0+1)=_;rw [D.so.rd];rfl,AL rfl (AJ (λ_=>rfl) ⟨_,_,_,λ_=>hr,AL (by simp;omega) (AA rfl ⟨_,_,_,hr,AA rfl (Wi ⟨(S.sof i).1,(S.sof i).2,⟨?_,?_⟩,AL (by rw [hp];simp) (AA rfl ⟨_,_,_,hr,AA rfl (Wi ⟨⟨?_,?_⟩,λw2 e2=>?_⟩)⟩)⟩)⟩)⟩)⟩
 .show rd w fb (0+_*2)=_
  rw [tnc,za];exact g0
 .show rd w fb (0+_*2+1)=_
  rw [tnc,za];exact g1
 .show wr w fb (0+_*2)
  rw [tnc,za];exact wr' 0 (by omega)
 .show wr w fb (0+_*2+1)
  rw [tnc,za];exact wr' 1 (by omega)
 .have e2:w2=st (st w fb (0+Int.toNat (i:Int)*2) (vi 0)) fb (0+Int.toNat (i:Int)*2+1) (vi 0):=e2;rw [tnc,za] at e2;have o2:=D.fs.s2 (o:=i*2+0) (o':=i*2+1) e2
  rw [DN (s:=2) (λ_ _=>rfl) hi (by omega),DN (s:=2) (λj hj=>by
   by_cases e:j=i
   .subst e;rw [AF];rfl
   .rw [AI _ _ e];rfl) hi (by omega),AF] at o2
  have ef:(upd (upd (λi=>E3 (S.sof i)) i ((E3 (S.sof i)).set 0 (vi 0))) i (((E3 (S.sof i)).set 0 (vi 0)).set 1 (vi 0)))=λj=>E3 (upd S.sof i (0,0) j):=by
   funext j;by_cases e:j=i
   .subst e;rw [AF,AF];rfl
   .rw [AI _ _ e,AI _ _ e,AI _ _ e]
  rw [ef] at o2;have k2:AB (·=fb) w w2:=kr.s2 e2 (.inl rfl);exact⟨rfl,h.FD .AY k2 (λx e=>e▸f2) rfl (λp F w hp hq=>by cases p <;> first|exact hq|exact absurd rfl hp) ⟨fb,⟨D.so.kx k2 D.ne,o2,D.ne⟩,.inl f1,.inl f2⟩⟩
theorem A5j(h:AO w k S fp)(hi:i<S.AY){b:OA} :
 Calls prog 294 #[AP S.pd,vi i,.slice b 256 c,.bool true] w λe w'=>e=.returned (vi 40)/\w'=w:=by
 obtain⟨db,D,f1,f2⟩:∃db,LW w S.pd db S.AY S.dv/\fp .dev S.pd/\fp .dev db:=h.at' .dev;refine Calls.ret (vc294 _ i _ 256 c true w _ ?_);unfold Q;refine(A1v D hi h.BQ.2.2.1).AE ?_;rintro _ _ ⟨rfl,rfl⟩;exact⟨_,_,rfl,AL rfl (AL rfl (AA rfl ⟨rfl,rfl⟩))⟩
end
def EvK(Z:Cn)(N:Nat)(t:SqT)(f:Nat)(th:Value)(F:NP)(w:WD):Prop:=
 (∀W t2 G2,Pt Z t2 G2 F W->E7 Z t t2->(Z.al->∀p,t.pg p=.fr f->Z.pin p=true\/HV t.S)->AB (λx=>¬F x) w W->AN prog th [.bool false] W (Nx Z N t2 G2 F W))/\
 (∀W t2 G2,Pt Z t2 G2 F W->t2.tk Z.me=Tk.no->t2.hh Z.me=t.hh Z.me->t2.r.gt Z.me=t.r.gt Z.me->EU t2.pg+1<=EU t.pg->(Z.al->t2.r=t.r)->AB (λx=>¬F x) w W->AN prog th [.bool true] W (Nx Z N t2 G2 F W))
section
variable {Z:Cn}{N:Nat}{t t1:SqT}{G F G1 F1:NP}{w w1 W w9 w':WD}{th:Value}{f p s g:Nat}
theorem EvK.later(h:EvK Z N t f th F w)(k:AB (λx=>¬F x) w w1):EvK Z N t f th F w1:=
 ⟨λW t2 G2 a b c d=>h.1 W t2 G2 a b c (k.oo d),λW t2 G2 a b c d e f k2=>h.2 W t2 G2 a b c d e f (k.oo k2)⟩
structure Goi(Z:Cn)(t t1:SqT)(T:Tk):Prop where
 tk:t1.tk Z.me=T
 hh:t1.hh Z.me=t.hh Z.me
 gt:t1.r.gt Z.me=t.r.gt Z.me
 t0:t.tk Z.me=Tk.no
 cn:EU t1.pg<=EU t.pg
theorem Goi.lock{T':Tk}(h:Goi Z t t1 T)(m:E7 Z (t1.lock Z.me l) t2)(e:T'={T with lks:=l::T.lks}):Goi Z t t2 T':=by
 refine⟨?_,m.1.2.1.trans h.hh,m.1.2.2.1.trans h.gt,h.t0,Nat.le_trans m.1.2.2.2 h.cn⟩;rw [m.1.1,e,<- h.tk];exact AF _ _ _
theorem Goi.E5(h:Goi Z t t1 T)(m:E7 Z t1 t2):Goi Z t t2 T:=⟨m.1.1.trans h.tk,m.1.2.1.trans h.hh,m.1.2.2.1.trans h.gt,h.t0,Nat.le_trans m.1.2.2.2 h.cn⟩
theorem Nx.mo{M:Nat}{G2:NP}{w2:WD}{e:Ending}(o:Mo Z t1 G1 F1 W t2 G2 F1 w2)(hF:∀x,F x->F1 x)(hM:Z.al->N<=M)(h:Nx Z N t2 G2 F w2 e w'):∃v,e=.returned v/\Nx Z M t1 G1 F1 W (.returned v) w':=
 (Nx.pre o (h.wk hF hM)).out
set_option maxHeartbeats 4000000 in
theorem B2h(P:Pt Z t1 G1 F1 W)(hF:∀x,F x->F1 x)(hi:i<t1.S.AK)(hf1:AU t1.S.c i<=f)(hf2:(f:Int)<AU t1.S.c (i+1))(hg:Goi Z t t1 ⟨[9+i,0],some (f,p),some s,true⟩)(ha:Z.al->t1.r=t.r)(hto:okF th=true)(hgF:F1 g)(og:AX W g (gc Z.k Z.me f p s th))(H:EvK Z N t f th F W){fl:Bool} :
 AN prog (.func (.func 297) #[AP g] #[]) [.bool fl] W (Nx Z N t1 G1 F1 W):=by
 obtain⟨fp,X⟩:=P.X;have q:=P.inv.q;have hcp:=P.cp;obtain⟨_,hp,hpin⟩:=(q.ok Z.me).g f p (by rw [hg.tk]);obtain⟨i0,j,E⟩:=q.evP X.C hp;have:i0=i:=CR X.C.my (f:=(f:Int)) E.nd hi E.f1 E.f2 hf1 hf2;subst this;have hsz:=X.C.BQ;have hfi:=X.C.fst E.nd;have hn:=X.C.n4;have my:D6 t1.S.c:=X.C.my;have hnd:t1.S.AK<=8:=hsz.1.2.1;have hcp16:t1.S.AS<=16:=hsz.2.1.2.1;have hf1':f<1024:=nll E.fn hn.2.2;obtain⟨b,hb⟩:=E.sp;refine AN.mk 297 #[AP g] #[] rfl (by kernel_rfl) ?_;refine Calls.ret (vc297 (some ⟨g,0,none⟩) fl W _ ?_);have R:∀{W':WD}{o:Nat}{v:Value},AB (λx=>¬GR Z G1 x) W W'->(gc Z.k Z.me f p s th)[o]? = some v->rd W' g (0+o)=some v:=λkk hv=>gr og hgF (P.kf kk) hv;unfold Q;intro w1 e1;have M1:=X.mv0 (kr.dr e1);have m1:=M1.L.kp;refine AA rfl ⟨_,R (o:=0) m1 rfl,AA rfl ⟨1,R (o:=3) m1 rfl,AA rfl ⟨p,R (o:=4) m1 rfl,(A7u M1.X.C hb E.by' E.gE E.gK E.gN E.rof E.fn E.nd E.f1 E.f2 E.ck E.fj (Nat.le_trans (show(t1.S.ring i0).length<=1000 from E.rl) (by decide))).AE ?_⟩⟩⟩;rintro _ w2 ⟨rfl,T2⟩;obtain⟨fp2,M12⟩:=M1.X.mv T2;have M2:=M1.tr M12;refine⟨_,_,rfl,λw3 e3=>?_⟩;have M3:=M2.tr (M2.X.mv0 (kr.dr e3));have m3:=M3.L.kp;have sp3:=M3.X.C.spc (i:=1) hb;obtain⟨ab,pb',wb,mb,a1,_⟩:=sp3.ex;have esp:rd w3 Z.k (0+105+Int.toNat 1*1)=some (AP b):=by
  have:=M3.X.C.rt (j:=12) (v:=spV (t1.S.sp 1)) rfl;rw [hb] at this;exact this
 refine AA rfl ⟨_,R (o:=0) m3 rfl,AA rfl ⟨_,by have:=M3.X.C.rtW kr (j:=0) rfl;exact this,AA rfl ⟨_,R (o:=0) m3 rfl,AA rfl ⟨1,R (o:=3) m3 rfl,AA rfl (AA (by decide) ⟨_,esp,AA rfl ⟨_,by show rd w3 b (0+1)=_;rw [a1.rd];rfl,AA rfl ⟨p,R (o:=4) m3 rfl,AA rfl ⟨s,R (o:=6) m3 rfl,(A1w M3.X.C (B7w E.by' _ _ _ _ _) _ p 2 s).AE ?_⟩⟩⟩⟩)⟩⟩⟩⟩;rintro _ w4 ⟨rfl,T4⟩;obtain⟨fp4,M34⟩:=M3.X.mv T4;have M4:=M3.tr M34;have m4:=M4.L.kp;refine⟨_,rfl,⟨R (o:=3) m4 rfl,trivial⟩,⟨R (o:=0) m4 rfl,trivial⟩,λw5 e5=>?_⟩;have M5:=M4.tr (M4.X.mv0 (kr.dr e5));have m5:=M5.L.kp;have hfl5:t1.S.fli.length=t1.S.AS:=by rw [q.fli];simp
 obtain⟨fa,fl',fc,hvf,hpf,hll,hfp,hwf,hst⟩:=OC M5.X.C (cpu:=Z.me) (by show Z.me<t1.S.fli.length;rw [hfl5];exact hcp);have hll:fl'=t1.S.AS:=hll.trans hfl5;have rf:rd w5 Z.k (0+116)=some (.slice fa fl' fc):=by
  have:=M5.X.C.rtW kr (j:=22) rfl;rw [<- hvf];exact this
 refine AA rfl ⟨_,R (o:=0) m5 rfl,AA rfl ⟨fa,fl',fc,rf,AA rfl ⟨Z.me,R (o:=1) m5 rfl,AA hpf (Wi ⟨by rw [tnc,mo];exact hwf,λw6 e6=>?_⟩)⟩⟩⟩;rw [tnc,mo] at e6;obtain⟨fp6,M56⟩:=M5.X.mv (hst (-1) w6 e6);have M6:=M5.tr M56;intro w7 e7;have M7:=M6.tr (M6.X.mv0 (kr.dr e7));have m7:=M7.L.kp;refine AA rfl ⟨_,R (o:=0) m7 rfl,AA rfl ⟨f,R (o:=2) m7 rfl,(NJ M7.X.C (fr:=f) (by omega)).AE ?_⟩⟩;rintro _ w8 (⟨i2',l',hi2,q3,q4,rfl,GG,T8⟩|⟨i2',hi2,q3,q4,rfl,hno,_⟩|⟨q3,_⟩)
 rotate_left
 .exfalso;have:i2'=i0:=CR my (f:=(f:Int)) hi2 E.nd q3 q4 E.f1 E.f2;subst this;exact hno E.tk
 .exfalso;have q3:(f:Int)<0\/AU t1.S.c t1.S.AK<=f:=q3;have:=JN my (i:=i0+1) (j:=t1.S.AK) (by have:=E.nd;omega) (nlr _);have:=E.f1;have:=E.f2;omega
 have:i2'=i0:=CR my (f:=(f:Int)) hi2 E.nd q3 q4 E.f1 E.f2;subst this;obtain⟨fp8,M78⟩:=M7.X.mv T8;have M8:=M7.tr M78;refine⟨_,rfl,λw9 e9=>?_⟩;have M9:=M8.tr (M8.X.mv0 (kr.dr e9));have m9:=M9.L.kp;refine AA rfl ⟨_,R (o:=0) m9 rfl,AA rfl ⟨Z.me,R (o:=1) m9 rfl,AA rfl ⟨0,R (o:=5) m9 rfl,AA rfl ⟨_,R (o:=0) m9 rfl,AA rfl ⟨f,R (o:=2) m9 rfl,(IJ M9.X.C E.nd E.f1 E.f2).AE ?_⟩⟩⟩⟩⟩;rintro _ w10 ⟨rfl,k10⟩;have M10:=M9.tr (M9.X.mv0 k10);have m10:=M10.L.kp;refine⟨_,rfl,⟨R (o:=5) m10 rfl,trivial⟩,⟨R (o:=1) m10 rfl,trivial⟩,⟨R (o:=0) m10 rfl,trivial⟩,λw11 e11=>?_⟩;have o11:=AG e11;rw [wi (by omega)] at o11;have M11:=M10.tr (M10.X.mv0 (kr.al e11));have m11:=M11.L.kp;refine⟨⟨R (o:=1) m11 rfl,trivial⟩,⟨R (o:=0) m11 rfl,trivial⟩,(ET (tk:=t1.tk) (n:=t1.S.AS) M11.X q.lk (by omega) rfl (xs:=[0,9+i2']) hg.tk (λx hx=>?_) (by simp;omega) (by simp) o11 (λq hq=>by have:=(M10.X.C.lt q _ hq).2;omega) rfl).AE ?_⟩
 .simp at hx;rcases hx with rfl|rfl
  .exact⟨by simp,by show 0<9+t1.S.AK;omega⟩
  .exact⟨by simp,by show 9+i2'<9+t1.S.AK;omega⟩
 rintro _ w12 ⟨rfl,fp12,M1112⟩;have M12':=M11.tr M1112;have m12:=M12'.L.kp;have hlk:=OJ (xs:=[0,9+i2']) q.lk λj=>by rw [hg.tk];simp [or_comm]
 obtain⟨hc1,LD⟩:=q.done X.C (T:=Tk.no) E.nd E.f1 E.f2 hcp (f:=f) (p:=p) (s:=s) (by rw [hg.tk]) (by rw [hg.tk]) (by rw [hg.tk]) E.fj GG hlk rfl rfl;have hcn:EU (upd t1.pg p (.sl s))=EU t1.pg-1:=by
  have:=LD.cp;exact this
 have hno:∀j,upd t1.pg p (.sl s) j=.no↔t1.pg j=.no:=λj=>by
  by_cases e:j=p
  .subst e;rw [AF,hp];exact⟨(λe=>by cases e),λe=>by cases e⟩
  .rw [AI _ _ e]
 obtain⟨P12,o12⟩:=P.mv (t':=⟨t1.S.done Z.me i2' p f j s l' (unl t1.S.lh [0,9+i2'] 0),upd t1.pg p (.sl s),t1.hh,upd t1.tk Z.me Tk.no,t1.r⟩) ⟨by rw [hcn];exact LD,P.inv.c,P.inv.pl,B2g P.inv.ls (A6y GG),λj=>(hno j).trans (P.inv.no j),λa j hj=>(AI _ _ hj).trans (P.inv.al a j hj)⟩ rfl M12' rfl ⟨λj hj=>⟨AI _ _ hj,rfl,rfl⟩,by show EU (upd t1.pg p (.sl s))<=_;rw [hcn];exact Nat.sub_le _ _⟩;exact⟨rfl,AA rfl ⟨th,R (o:=7) m12 rfl,AT (H.2 w12 _ G1 (P12.less hF) (AF _ _ _) hg.hh hg.gt (by show EU (upd t1.pg p (.sl s))+1<=_;rw [hcn];have:=hg.cn;omega) ha ((P.kf m12).AE λx _ h e=>h (hF x e))) λe w' hN=>Nx.mo o12 hF (λ_=>nlr _) hN⟩⟩
end
section
variable {Z:Cn}{N:Nat}{t t1:SqT}{G F G1 F1:NP}{w w1 W w9 w':WD}{th:Value}{f p s g:Nat}
set_option maxHeartbeats 4000000 in
theorem B2i(hal:¬Z.al)(P:Pt Z t1 G1 F1 W)(hF:∀x,F x->F1 x)(hg:Goi Z t t1 ⟨[8,0],some (f,p),some s,false⟩)(hto:okF th=true)(hgF:F1 g)(og:AX W g (gc Z.k Z.me f p s th))(H:EvK Z N t f th F W){fl:Bool} :
 AN prog (.func (.func 296) #[AP g] #[]) [.bool fl] W (Nx Z N t1 G1 F1 W):=by
 obtain⟨fp,X⟩:=P.X;have q:=P.inv.q;have hcp:=P.cp;have hsz:=X.C.BQ;have hcp16:t1.S.AS<=16:=hsz.2.1.2.1;obtain⟨f',p',hg',hs,hso,_⟩:=(q.ok Z.me).s s (by rw [hg.tk]);refine AN.mk 296 #[AP g] #[] rfl (by kernel_rfl) ?_;refine Calls.ret (vc296 (some ⟨g,0,none⟩) fl W _ ?_);have R:∀{W':WD}{o:Nat}{v:Value},AB (λx=>¬GR Z G1 x) W W'->(gc Z.k Z.me f p s th)[o]? = some v->rd W' g (0+o)=some v:=λkk hv=>gr og hgF (P.kf kk) hv;have rt:∀{W':WD}{S':AR}{fp':Prt->Nat->Prop}{j:Nat}{v:Value},AO W' Z.k S' fp'->(GL S')[j]? = some v->rd W' Z.k (0+(94+j))=some v:=λC hj=>C.rtW kr hj;unfold Q;intro w1 e1;have M1:=X.mv0 (kr.dr e1);have m1:=M1.L.kp;refine AA rfl ⟨_,R (o:=0) m1 rfl,AA rfl ⟨_,by have:=rt M1.X.C (j:=5) rfl;exact this,AA rfl ⟨s,R (o:=6) m1 rfl,(A5f M1.X.C hs hso).AE ?_⟩⟩⟩;rintro _ w2 ⟨rfl,T2⟩;obtain⟨fp2,M12⟩:=M1.X.mv T2;have M2:=M1.tr M12;refine⟨_,rfl,λw3 e3=>?_⟩;have M3:=M2.tr (M2.X.mv0 (kr.dr e3));have m3:=M3.L.kp;have hfl5:t1.S.fli.length=t1.S.AS:=by rw [q.fli];simp
 obtain⟨fa,fl',fc,hvf,hpf,hll,hfp,hwf,hst⟩:=OC M3.X.C (cpu:=Z.me) (by show Z.me<t1.S.fli.length;rw [hfl5];exact hcp);have hll:fl'=t1.S.AS:=hll.trans hfl5;have rf:rd w3 Z.k (0+116)=some (.slice fa fl' fc):=by
  have:=rt M3.X.C (j:=22) rfl;rw [<- hvf];exact this
 refine AA rfl ⟨_,R (o:=0) m3 rfl,AA rfl ⟨fa,fl',fc,rf,AA rfl ⟨Z.me,R (o:=1) m3 rfl,AA hpf (Wi ⟨by rw [tnc,mo];exact hwf,λw4 e4=>?_⟩)⟩⟩⟩;rw [tnc,mo] at e4;obtain⟨fp4,M34⟩:=M3.X.mv (hst (-1) w4 e4);have M4:=M3.tr M34;intro w5 e5;have M5:=M4.tr (M4.X.mv0 (kr.dr e5));have m5:=M5.L.kp;refine AA rfl ⟨_,R (o:=0) m5 rfl,AA rfl ⟨Z.me,R (o:=1) m5 rfl,AA rfl ⟨0,R (o:=5) m5 rfl,λw6 e6=>?_⟩⟩⟩;have o6:=AG e6;have M6:=M5.tr (M5.X.mv0 (kr.al e6));have m6:=M6.L.kp;refine⟨⟨R (o:=1) m6 rfl,trivial⟩,⟨R (o:=0) m6 rfl,trivial⟩,(ET (tk:=t1.tk) (n:=t1.S.AS) M6.X q.lk (by omega) rfl (xs:=[0,8]) hg.tk (λx hx=>?_) (by simp) (by simp) o6 (λq hq=>by have:=(M5.X.C.lt q _ hq).2;omega) rfl).AE ?_⟩
 .simp at hx;rcases hx with rfl|rfl
  .exact⟨by simp,by show 0<9+t1.S.AK;omega⟩
  .exact⟨by simp,by show 8<9+t1.S.AK;omega⟩
 rintro _ w7 ⟨rfl,fp7,M67⟩;have M7:=M6.tr M67;have m7:=M7.L.kp;have hlk:=OJ (xs:=[0,8]) q.lk λj=>by rw [hg.tk];simp [or_comm]
 have LB:=q.back (T:=Tk.no) hcp (f:=f) (p:=p) (s:=s) (by rw [hg.tk]) (by rw [hg.tk]) hlk rfl rfl;obtain⟨P7,o7⟩:=P.mv (t':=⟨{t1.S with lh:=unl t1.S.lh [0,8] 0,sof:=upd t1.S.sof s (0,0),fli:=t1.S.fli.set Z.me (-1)},t1.pg,t1.hh,upd t1.tk Z.me Tk.no,t1.r⟩) ⟨LB,P.inv.c,P.inv.pl,P.inv.ls,P.inv.no,λa j hj=>(AI _ _ hj).trans (P.inv.al a j hj)⟩ rfl M7 rfl ⟨λj hj=>⟨AI _ _ hj,rfl,rfl⟩,nlr _⟩;exact⟨rfl,AA rfl ⟨th,R (o:=7) m7 rfl,AT (H.1 w7 _ G1 (P7.less hF) ⟨⟨(AF _ _ _).trans hg.t0.symm,hg.hh,hg.gt,hg.cn⟩,λa=>absurd a hal⟩ (λa=>absurd a hal) ((P.kf m7).AE λx _ h e=>h (hF x e))) λe w' hN=>Nx.mo o7 hF (λ_=>nlr _) hN⟩⟩
theorem Goi.lks(hg:Goi Z t t1 T)(h:∀j∈T.lks,j<l):∀j∈(t1.tk Z.me).lks,j<l:=by rw [hg.tk];exact h
theorem A2p{G':NP}(hF:∀x,F x->G' x):∀x,F x->(G' x\/rng w w9 x):=λx h=>.inl (hF x h)
set_option maxHeartbeats 4000000 in
theorem A8p(P:Pt Z t1 G1 F1 W)(hF:∀x,F x->F1 x)(hg:Goi Z t t1 ⟨[0],some (f,p),some s,false⟩)(ha:Z.al->t1.r=t.r)(hto:okF th=true)(hgF:F1 g)(og:AX W g (gc Z.k Z.me f p s th))(H:EvK Z N t f th F W){fl:Bool}(hfl:Z.al->fl=false) :
 AN prog (.func (.func 273) #[AP g] #[]) [.bool fl] W (Nx Z (N+2) t1 G1 F1 W):=by
 obtain⟨fp,X⟩:=P.X;have q:=P.inv.q;have hcp:=P.cp;have hsz:=X.C.BQ;have hsz':t1.S.AS<=16/\t1.S.AK<=8:=⟨hsz.2.1.2.1,hsz.1.2.1⟩;obtain⟨_,hp,hpin⟩:=(q.ok Z.me).g f p (by rw [hg.tk]);obtain⟨f',p',hg',hs,hso,_⟩:=(q.ok Z.me).s s (by rw [hg.tk]);obtain⟨i,j,E⟩:=q.evP X.C hp;have hnd:=E.nd;refine AN.mk 273 #[AP g] #[] rfl (by kernel_rfl) ?_;refine Calls.ret (vc273 (some ⟨g,0,none⟩) fl W _ ?_);have R:∀{W':WD}{o:Nat}{v:Value},AB (λx=>¬GR Z G1 x) W W'->(gc Z.k Z.me f p s th)[o]? = some v->rd W' g (0+o)=some v:=λkk hv=>gr og hgF (P.kf kk) hv;have rt:∀{W':WD}{S':AR}{fp':Prt->Nat->Prop}{j:Nat}{v:Value},AO W' Z.k S' fp'->(GL S')[j]? = some v->rd W' Z.k (0+(94+j))=some v:=λC hj=>C.rtW kr hj;unfold Q;intro w1 e1;have M1:=X.mv0 (kr.dr e1);have m1:=M1.L.kp;refine AA rfl ⟨_,R (o:=0) m1 rfl,AA rfl ⟨_,by have:=rt M1.X.C (j:=2) rfl;exact this,AA rfl ⟨s,R (o:=6) m1 rfl,AA rfl ⟨_,R (o:=0) m1 rfl,AA rfl ⟨_,by have:=rt M1.X.C (j:=0) rfl;exact this,AA rfl ⟨f,R (o:=2) m1 rfl,(A88 M1.X.C E.fn).AE ?_⟩⟩⟩⟩⟩⟩;rintro _ w2 ⟨hw2,bb,rfl,hrd⟩;rw [hw2];refine⟨_,_,_,rfl,⟨R (o:=6) m1 rfl,trivial⟩,⟨by have:=rt M1.X.C (j:=2) rfl;exact this,trivial⟩,⟨R (o:=0) m1 rfl,trivial⟩,?_⟩
 cases fl with
 | true=>
  have hal:¬Z.al:=λa=>by cases hfl a
  refine(A5j M1.X.C hs).AE ?_;rintro _ w3 ⟨rfl,hw3⟩;rw [hw3];refine⟨_,rfl,AA rfl λw4 e4=>?_⟩;have M4:=M1.tr (M1.X.mv0 (kr.dr e4));have m4:=M4.L.kp;obtain⟨P4,o4⟩:=P.mv (t':=t1) P.inv rfl M4 rfl (Oth.refl _ _);refine AA rfl ⟨_,R (o:=0) m4 rfl,AA rfl ⟨_,by have:=rt M4.X.C (j:=3) rfl;exact this,AA rfl ⟨Z.me,R (o:=1) m4 rfl,?_⟩⟩⟩;refine(GA (N:=N) P4 (AB.refl AD w4) (l:=8) (by show 8<9+t1.S.AK;omega) (hg.lks (by simp)) rfl λW2 t2 G2 fl2 P2 m2 k2 hfl2=>?_).AE ?_
  .have og2:AX W2 g (gc Z.k Z.me f p s th):=(og.kx m4 λhn=>hn (.inl (P.fg _ hgF))).kx k2 λhn=>hn (.inl hgF);exact B2i hal P2 (A2p hF) (hg.lock m2 rfl) hto (.inl hgF) og2 (H.later ((P.kf m4).oo (k2.AE λx _ h e=>h (.inl e))|>.AE λx _ h e=>h (hF x e)))
  .rintro e w' ⟨v,rfl,hN⟩;exact⟨v,rfl,Nx.pre o4 hN⟩
 | false=>
  refine(A5i M1.X.C hs E.fn hrd).AE ?_;rintro _ w3 ⟨rfl,T3⟩;obtain⟨fp3,M13⟩:=M1.X.mv T3;have M3:=M1.tr M13;refine⟨_,rfl,AL rfl λw4 e4=>?_⟩;have M4:=M3.tr (M3.X.mv0 (kr.dr e4));have m4:=M4.L.kp;refine AA rfl ⟨_,R (o:=0) m4 rfl,AA rfl ⟨_,by have:=rt M4.X.C (j:=3) rfl;exact this,AA rfl ⟨Z.me,R (o:=1) m4 rfl,AA rfl ⟨_,R (o:=0) m4 rfl,AA rfl ⟨f,R (o:=2) m4 rfl,(IJ M4.X.C E.nd E.f1 E.f2).AE ?_⟩⟩⟩⟩⟩;rintro _ w5 ⟨rfl,k5⟩;have M5:=M4.tr (M4.X.mv0 k5);have m5:=M5.L.kp;have e9:wrap .i64 (9+((i:Nat):Int))=((9+i:Nat):Int):=by rw [wi (by omega)];omega
  refine⟨_,rfl,⟨R (o:=1) m5 rfl,trivial⟩,⟨by have:=rt M5.X.C (j:=3) rfl;exact this,trivial⟩,⟨R (o:=0) m5 rfl,trivial⟩,?_⟩;rw [e9];have hwr:=q.wrote (T:=⟨[0],some (f,p),some s,true⟩) hcp (f:=f) (p:=p) (s:=s) (by rw [hg.tk]) (by rw [hg.tk]) (by rw [hg.tk]);obtain⟨P5,o5⟩:=P.mv (t':=⟨{t1.S with dv:=JR t1.S.dv (s*256) 256 λj=>t1.S.by' (f*256+j)},t1.pg,t1.hh,upd t1.tk Z.me ⟨[0],some (f,p),some s,true⟩,t1.r⟩) ⟨hwr,P.inv.c,P.inv.pl,P.inv.ls,P.inv.no,λa j hj=>(AI _ _ hj).trans (P.inv.al a j hj)⟩ rfl M5 rfl ⟨λj hj=>⟨AI _ _ hj,rfl,rfl⟩,nlr _⟩;have hg5:Goi Z t ⟨{t1.S with dv:=JR t1.S.dv (s*256) 256 λj=>t1.S.by' (f*256+j)},t1.pg,t1.hh,upd t1.tk Z.me ⟨[0],some (f,p),some s,true⟩,t1.r⟩ ⟨[0],some (f,p),some s,true⟩:=⟨AF _ _ _,hg.hh,hg.gt,hg.t0,hg.cn⟩;refine(GA (N:=N) P5 (AB.refl AD w5) (l:=9+i) (by show 9+i<9+t1.S.AK;omega) (hg5.lks λj hj=>by simp at hj;omega) rfl λW2 t2 G2 fl2 P2 m2 k2 hfl2=>?_).AE ?_
  .have og2:AX W2 g (gc Z.k Z.me f p s th):=(og.kx m5 λhn=>hn (.inl (P.fg _ hgF))).kx k2 λhn=>hn (.inl hgF);have ec:t2.S.c=t1.S.c:=by rw [P2.inv.c,P.inv.c]
   exact B2h P2 (A2p hF) (i:=i) (by unfold AR.AK;rw [ec];exact hnd) (by rw [ec];exact E.f1) (by rw [ec];exact E.f2) (hg5.lock m2 rfl) (λa=>by rw [m2.2 a];exact ha a) hto (.inl hgF) og2 (H.later ((P.kf m5).oo (k2.AE λx _ h e=>h (.inl e))|>.AE λx _ h e=>h (hF x e)))
  .rintro e w' ⟨v,rfl,hN⟩;exact⟨v,rfl,Nx.pre o5 hN⟩
end
section
variable {Z:Cn}{N:Nat}{t t1:SqT}{G F G1 F1:NP}{w w1 W w9 w':WD}{th:Value}{f p s g:Nat}
theorem Lk.cnt(h:Lk Z t t1):EU t1.pg=EU t.pg/\t1.r=t.r:=by
 obtain⟨a,b,rfl⟩:=h;exact⟨rfl,rfl⟩
set_option maxHeartbeats 4000000 in
theorem A3k(P:Pt Z t1 G1 F1 W)(I0:IX Z t)(hF:∀x,F x->F1 x)(hg:Goi Z t t1 ⟨[8,0],some (f,p),none,false⟩)(hal:Z.al->Lk Z t t1)(hto:okF th=true)(hgF:F1 g)(hnF:¬F g)(og:AX W g (gc Z.k Z.me f p 0 th))(H:EvK Z N t f th F W){fl:Bool} :
 AN prog (.func (.func 239) #[AP g] #[]) [.bool fl] W (Nx Z (N+3) t1 G1 F1 W):=by
 obtain⟨fp,X⟩:=P.X;have q:=P.inv.q;have hcp:=P.cp;have hsz:=X.C.BQ;have hsz':t1.S.AS<=16/\t1.S.AK<=8/\t1.S.AY<=1024:=⟨hsz.2.1.2.1,hsz.1.2.1,hsz.2.2.1⟩;obtain⟨_,hp,hpin⟩:=(q.ok Z.me).g f p (by rw [hg.tk]);have hp32:=(q.pgo p f hp).1;refine AN.mk 239 #[AP g] #[] rfl (by kernel_rfl) ?_;refine Calls.ret (vc239 (some ⟨g,0,none⟩) fl W _ ?_);have R:∀{W':WD}{o:Nat}{v:Value},AB (λx=>¬GR Z G1 x) W W'->(gc Z.k Z.me f p 0 th)[o]? = some v->rd W' g (0+o)=some v:=λkk hv=>gr og hgF (P.kf kk) hv;have rt:∀{W':WD}{S':AR}{fp':Prt->Nat->Prop}{j:Nat}{v:Value},AO W' Z.k S' fp'->(GL S')[j]? = some v->rd W' Z.k (0+(94+j))=some v:=λC hj=>C.rtW kr hj;unfold Q;intro w1 e1;have M1:=X.mv0 (kr.dr e1);have m1:=M1.L.kp;refine AA rfl ⟨_,R (o:=0) m1 rfl,AA rfl ⟨_,by have:=rt M1.X.C (j:=5) rfl;exact this,AA rfl ⟨1,R (o:=3) m1 rfl,AA rfl ⟨p,R (o:=4) m1 rfl,(B23 M1.X.C (pid:=1) (page:=p) (by decide) (by omega)).AE ?_⟩⟩⟩⟩;rintro _ w2 (⟨hno,rfl,k2⟩|⟨s,hs,hs0,rfl,T2⟩)
 .have M2:=M1.tr (M1.X.mv0 k2);refine⟨_,_,rfl,AA rfl λw3 e3=>?_⟩;have M3:=M2.tr (M2.X.mv0 (kr.dr e3));have m3:=M3.L.kp;refine AA rfl ⟨_,R (o:=0) m3 rfl,AA rfl ⟨Z.me,R (o:=1) m3 rfl,AA rfl ⟨0,R (o:=5) m3 rfl,λw4 e4=>?_⟩⟩⟩;have o4:=AG e4;have M4:=M3.tr (M3.X.mv0 (kr.al e4));have m4:=M4.L.kp;refine⟨⟨R (o:=1) m4 rfl,trivial⟩,⟨R (o:=0) m4 rfl,trivial⟩,(ET (tk:=t1.tk) (n:=t1.S.AS) M4.X q.lk (by omega) rfl (xs:=[0,8]) hg.tk (λx hx=>?_) (by simp) (by simp) o4 (λq hq=>by have:=(M3.X.C.lt q _ hq).2;omega) rfl).AE ?_⟩
  .simp at hx;rcases hx with rfl|rfl
   .exact⟨by simp,by show 0<9+t1.S.AK;omega⟩
   .exact⟨by simp,by show 8<9+t1.S.AK;omega⟩
  rintro _ w5 ⟨rfl,fp5,M45⟩;have M5:=M4.tr M45;have m5:=M5.L.kp;have I5:=P.inv.EG hcp (xs:=[0,8]) (λj=>by rw [hg.tk];simp [or_comm]) (by rw [hg.tk]);obtain⟨P5,o5⟩:=P.mv (t':=t1.EG Z.me [0,8]) I5 rfl M5 rfl Oth.EG;have e5:(t1.EG Z.me [0,8]).tk Z.me=t.tk Z.me:=(AF _ _ _).trans hg.t0.symm
  exact⟨rfl,AA rfl ⟨th,R (o:=7) m5 rfl,AT (H.1 w5 _ G1 (P5.less hF) ⟨⟨e5,hg.hh,hg.gt,hg.cn⟩,λa=>((hal a).tr Lk.EG).eq I0 I5 e5⟩ (λa p' _=>.inr (by
   obtain⟨_,_,rfl⟩:=hal a;exact hno)) ((P.kf m5).AE λx _ h e=>h (hF x e))) λe w' hN=>Nx.mo o5 hF (λ_=>by omega) hN⟩⟩
 .obtain⟨fp2,M12⟩:=M1.X.mv T2;have M2:=M1.tr M12;refine⟨_,_,rfl,AL rfl λw3 e3=>?_⟩;have M3:=M2.tr (M2.X.mv0 (kr.dr e3));have m3:=M3.L.kp;have hfl3:t1.S.fli.length=t1.S.AS:=by rw [q.fli];simp
  have og3:AX w3 g (gc Z.k Z.me f p 0 th):=og.kx m3 λhn=>hn (.inl (P.fg _ hgF));obtain⟨fa,fl',fc,hvf,hpf,hll,_⟩:=OC M3.X.C (cpu:=Z.me) (by show Z.me<t1.S.fli.length;omega);have hll:fl'=t1.S.AS:=hll.trans hfl3;have rf:rd w3 Z.k (0+116)=some (.slice fa fl' fc):=by
   have:=rt M3.X.C (j:=22) rfl;rw [<- hvf];exact this
  refine AA rfl ⟨_,R (o:=0) m3 rfl,AA rfl ⟨fa,fl',fc,rf,AA rfl ⟨Z.me,R (o:=1) m3 rfl,AA rfl ⟨og3.wr (by show 6<8;decide),λw4 e4=>?_⟩⟩⟩⟩;have k4:AB (·=g) w3 w4:=kr.s1 e4 (.inl rfl);have og4:AX w4 g (gc Z.k Z.me f p s th):=og3.s1 e4;have X4:Ctx Z.k _ fp2 (GR Z G1) w4:=⟨M3.X.C.kx k4 λx q e hq=>M3.X.dj q x hq (e▸.inl (P.fg _ hgF)),λx hx=>nll (M3.X.lt x hx) k4.sz,M3.X.dj⟩;have R4:∀{W':WD}{o:Nat}{v:Value},AB (λx=>¬GR Z G1 x) w4 W'->(gc Z.k Z.me f p s th)[o]? = some v->rd W' g (0+o)=some v:=λkk hv=>gr og4 hgF (P.kf kk) hv;obtain⟨fa2,fl2,fc2,hvf2,_,_,hfp,hwf,hst⟩:=OC X4.C (cpu:=Z.me) (by show Z.me<t1.S.fli.length;omega);have efa:fa2=fa:=by
   have:t1.S.vfi=.slice fa2 fl2 fc2:=hvf2;have h2:t1.S.vfi=.slice fa fl' fc:=hvf;rw [h2] at this;cases this;rfl
  subst efa;refine AA hpf (Wi ⟨by rw [tnc,mo];exact hwf,λw5 e5=>?_⟩);rw [tnc,mo] at e5;obtain⟨fp5,M45⟩:=X4.mv (hst s w5 e5);intro w6 e6;have M6:=M45.tr (M45.X.mv0 (kr.dr e6));have m6:=M6.L.kp;refine AA rfl ⟨_,R4 (o:=0) m6 rfl,AA rfl ⟨Z.me,R4 (o:=1) m6 rfl,λw7 e7=>?_⟩⟩;have o7:=AG e7;have M7:=M6.tr (M6.X.mv0 (kr.al e7));have m7:=M7.L.kp;refine⟨⟨R4 (o:=1) m7 rfl,trivial⟩,⟨R4 (o:=0) m7 rfl,trivial⟩,(ET (tk:=t1.tk) (n:=t1.S.AS) M7.X q.lk (by omega) rfl (xs:=[8]) hg.tk (λx hx=>?_) (by simp) (by simp) o7 (λq hq=>by have:=(M6.X.C.lt q _ hq).2;omega) rfl).AE ?_⟩
  .simp at hx;subst hx;exact⟨by simp,by show 8<9+t1.S.AK;omega⟩
  rintro _ w8 ⟨rfl,fp8,M78⟩;have M8:=M7.tr M78;have m8:=M8.L.kp;have hlk:LkR (unl t1.S.lh [8] 0) (upd t1.tk Z.me ⟨[0],some (f,p),some s,false⟩) t1.S.AS:=q.lk.free (λx hx=>by rw [hg.tk];simp at hx;simp [hx]) λj=>by rw [hg.tk];simp;omega
  have LB:=q.resv (T:=⟨[0],some (f,p),some s,false⟩) hcp (f:=f) (p:=p) (s:=s) (by rw [hg.tk]) (by rw [hg.tk]) hs hs0 hlk (by simp) rfl rfl rfl;have kk:AB (λx=>¬GR Z G1 x\/F1 x) W w8:=((m3.AE λ_ _ h=>.inl h).trans (k4.AE (Y:=λx=>¬GR Z G1 x\/F1 x) λx _ e=>.inr (e▸hgF)) λ_ _ h=>h).trans (m8.AE λ_ _ h=>.inl h) λ_ _ h=>h;have kF:AB (λx=>¬F x) W w8:=((P.kf m3).AE (Y:=λx=>¬F x) λx _ h e=>h (hF x e)).trans ((k4.AE (Y:=λx=>¬F x) λx _ e h=>hnF (e▸h)).trans ((P.kf m8).AE λx _ h e=>h (hF x e)) λ_ _ h=>h) λ_ _ h=>h;obtain⟨P8,o8⟩:=P.go (t':=⟨{t1.S with lh:=unl t1.S.lh [8] 0,sof:=upd t1.S.sof s (1,(p:Int)),fli:=t1.S.fli.set Z.me (s:Int)},t1.pg,t1.hh,upd t1.tk Z.me ⟨[0],some (f,p),some s,false⟩,t1.r⟩) ⟨LB,P.inv.c,P.inv.pl,P.inv.ls,P.inv.no,λa j hj=>(AI _ _ hj).trans (P.inv.al a j hj)⟩ ⟨fp8,M8.X⟩ kk rfl ⟨λj hj=>⟨AI _ _ hj,rfl,rfl⟩,nlr _⟩;have og8:AX w8 g (gc Z.k Z.me f p s th):=og4.kx m8 λhn=>hn (.inl (P.fg _ hgF));have hg8:Goi Z t _ ⟨[0],some (f,p),some s,false⟩:=(⟨AF _ _ _,hg.hh,hg.gt,hg.t0,hg.cn⟩:Goi Z t ⟨{t1.S with lh:=unl t1.S.lh [8] 0,sof:=upd t1.S.sof s (1,(p:Int)),fli:=t1.S.fli.set Z.me (s:Int)},t1.pg,t1.hh,upd t1.tk Z.me ⟨[0],some (f,p),some s,false⟩,t1.r⟩ _);refine⟨rfl,Nx.pre o8 (JB (N:=N+2) P8 (AB.refl AD w8) rfl λW2 t3 G3 fl3 P3 m9 k9 hfl3=>?_)⟩;exact A8p P3 (A2p hF) (hg8.E5 m9) (λa=>by rw [m9.2 a];exact (hal a).cnt.2) hto (.inl hgF) (og8.kx k9 λhn=>hn (.inl hgF)) (H.later (kF.oo (k9.AE λx _ h e=>h (.inl (hF x e))))) hfl3
set_option maxHeartbeats 4000000 in
theorem B2d(P:Pt Z t1 G1 F1 W)(I0:IX Z t)(hF:∀x,F x->F1 x)(hg:Goi Z t t1 ⟨[0],none,none,false⟩)(hal:Z.al->Lk Z t t1/\t.S.rof f=(1,(p:Int)))(hf:f<t1.S.n)(hp32:p<32)(hto:okF th=true)(hgF:F1 g)(hnF:¬F g)(og:AX W g (gc Z.k Z.me f p 0 th))(H:EvK Z N t f th F W){fl:Bool} :
 AN prog (.func (.func 193) #[AP g] #[]) [.bool fl] W (Nx Z (N+5) t1 G1 F1 W):=by
 obtain⟨fp,X⟩:=P.X;have q:=P.inv.q;have hcp:=P.cp;have hsz:=X.C.BQ;have hsz':t1.S.AS<=16/\t1.S.AK<=8/\t1.S.AY<=1024:=⟨hsz.2.1.2.1,hsz.1.2.1,hsz.2.2.1⟩;obtain⟨b,hb⟩:=q.sp1;refine AN.mk 193 #[AP g] #[] rfl (by kernel_rfl) ?_;refine Calls.ret (vc193 (some ⟨g,0,none⟩) fl W _ ?_);have R:∀{W':WD}{o:Nat}{v:Value},AB (λx=>¬GR Z G1 x) W W'->(gc Z.k Z.me f p 0 th)[o]? = some v->rd W' g (0+o)=some v:=λkk hv=>gr og hgF (P.kf kk) hv;have rt:∀{W':WD}{S':AR}{fp':Prt->Nat->Prop}{j:Nat}{v:Value},AO W' Z.k S' fp'->(GL S')[j]? = some v->rd W' Z.k (0+(94+j))=some v:=λC hj=>C.rtW kr hj;have stay:∀{a:WD}{fpa:Prt->Nat->Prop},Mv Z.k fp (GR Z G1) W t1.S fpa a->(Z.al->∀p',t.pg p'=.fr f->Z.pin p'=true\/HV t.S)->∀c,c=World.drew a->Wif (isP (some ⟨g,0,none⟩)) (∃x:OA,rd c g 0=some (.pointer x)/\Wif (isP (some ⟨g,0,none⟩)) (∃d:Int,rd c g (0+1)=some (vi d)/\Wif (isP (some ⟨g,0,none⟩)) (∃j:Int,rd c g (0+5)=some (vi j)/\∀w',w'=World.alloc c (.cells #[vi j] 3)->(rd w' g (0+1)=some (vi d)/\True)/\(rd w' g 0=some (.pointer x)/\True)/\Calls prog 188 #[.pointer x,vi d,.slice (some (Addr.mk c.heap.size 0 none)) 1 1] w' λe w'=>e=.returned (.tuple #[])/\Wif (isP (some ⟨g,0,none⟩)) (∃x:Value,rd w' g (0+7)=some x/\AN prog x [.bool false] w' λe w'=>∃v,e=.returned v/\Nx Z (N+5) t1 G1 F1 W (.returned v) w') False) False) False) False:=by
  intro a fpa M3 hfact w4 e4;have M4:=M3.tr (M3.X.mv0 (kr.dr e4));have m4:=M4.L.kp;refine AA rfl ⟨_,R (o:=0) m4 rfl,AA rfl ⟨Z.me,R (o:=1) m4 rfl,AA rfl ⟨0,R (o:=5) m4 rfl,λw5 e5=>?_⟩⟩⟩;have o5:=AG e5;have M5:=M4.tr (M4.X.mv0 (kr.al e5));have m5:=M5.L.kp;refine⟨⟨R (o:=1) m5 rfl,trivial⟩,⟨R (o:=0) m5 rfl,trivial⟩,(ET (tk:=t1.tk) (n:=t1.S.AS) M5.X q.lk (by omega) rfl (xs:=[0]) hg.tk (λx hx=>?_) (by simp) (by simp) o5 (λq hq=>by have:=(M4.X.C.lt q _ hq).2;omega) rfl).AE ?_⟩
  .simp at hx;subst hx;exact⟨by simp,by show 0<9+t1.S.AK;omega⟩
  rintro _ w6 ⟨rfl,fp6,M56⟩;have M6:=M5.tr M56;have m6:=M6.L.kp;have I6:=P.inv.EG hcp (xs:=[0]) (λj=>by rw [hg.tk]) (by rw [hg.tk]);obtain⟨P6,o6⟩:=P.mv (t':=t1.EG Z.me [0]) I6 rfl M6 rfl Oth.EG;have e6:(t1.EG Z.me [0]).tk Z.me=t.tk Z.me:=(AF _ _ _).trans hg.t0.symm;exact⟨rfl,AA rfl ⟨th,R (o:=7) m6 rfl,AT (H.1 w6 _ G1 (P6.less hF) ⟨⟨e6,hg.hh,hg.gt,hg.cn⟩,λa=>((hal a).1.tr Lk.EG).eq I0 I6 e6⟩ hfact ((P.kf m6).AE λx _ h e=>h (hF x e))) λe w' hN=>Nx.mo o6 hF (λ_=>by omega) hN⟩⟩
 unfold Q;intro w1 e1;have M1:=X.mv0 (kr.dr e1);have m1:=M1.L.kp;refine AA rfl ⟨_,R (o:=0) m1 rfl,AA rfl ⟨_,by have:=rt M1.X.C (j:=4) rfl;exact this,AA rfl ⟨f,R (o:=2) m1 rfl,(KT M1.X.C hf).AE ?_⟩⟩⟩;rintro _ w2 ⟨rfl,k2⟩;have M2:=M1.tr (M1.X.mv0 k2);refine⟨_,_,_,rfl,λw3 e3=>?_⟩;have M3:=M2.tr (M2.X.mv0 (kr.dr e3));have m3:=M3.L.kp;have sp3:=M3.X.C.spc (i:=1) hb;obtain⟨ab,pb',wb,mb,a1,a2,a3,a4,_⟩:=sp3.ex;have hx32:t1.S.pins 1<4294967296:=sp3.lt;have esp:rd w3 Z.k (0+105+Int.toNat 1*1)=some (AP b):=by
  have:=M3.X.C.rt (j:=12) (v:=spV (t1.S.sp 1)) rfl;rw [hb] at this;exact this
 refine AA rfl ⟨_,R (o:=0) m3 rfl,AA rfl ⟨1,R (o:=3) m3 rfl,AA rfl (AA (by decide) ⟨_,esp,AJ (λ_=>rfl) ⟨1,(λ_=>R (o:=3) m3 rfl),AJ (λ_=>rfl) ⟨(p:Int),(λ_=>R (o:=4) m3 rfl),AJ (λ_=>rfl) ⟨some ⟨pb',0,none⟩,(λ_=>by show rd w3 b (0+2)=_;rw [a1.rd];rfl),AH (λhc=>?_) (λhc=>?_)⟩⟩⟩⟩)⟩⟩
 .refine stay M3 λa=>?_;exfalso;obtain⟨⟨_,_,rfl⟩,hr⟩:=hal a;have hr:t.S.rof f=(1,(p:Int)):=hr;have hc:(!(t.S.rof f).1 != 0||(t.S.rof f).1 != 1||(t.S.rof f).2 != (p:Int)||Option.isNone (some (Addr.mk b 0 none)))=true:=hc;rw [hr] at hc;simp at hc
 have hc:(!((t1.S.rof f).1 != 0)||(t1.S.rof f).1 != 1||(t1.S.rof f).2 != (p:Int)||Option.isNone (some (Addr.mk b 0 none)))=false:=hc;have er:t1.S.rof f=(1,(p:Int)):=by
  simp at hc;exact Prod.ext hc.1.2 hc.2
 obtain⟨j,hj⟩:=q.rof2 f hf (by rw [er];show(1:Int)≠0;decide);have hjp:j=p:=by
  have:=q.rof1 j f hj;rw [er] at this;simp at this;omega
 subst hjp;have er2:((t1.S.rof f).2:Int)=(j:Int):=by rw [er]
 rw [show (t1.S.rof f).2=(j:Int) from er2];refine (A6u a3 a4 hx32 hp32).AE ?_;rintro _ wx ⟨rfl,hwx⟩;rw [hwx];refine⟨_,rfl,AH (λhpin=>?_) (λhpin=>λw4 e4=>?_)⟩
 .refine stay M3 λa p' hp'=>.inl ?_;obtain⟨⟨_,_,rfl⟩,_⟩:=hal a;have:=q.inj p' j f hp' hj;subst this;rw [<- q.pinE p' hp32];exact hpin
 .have M4:=M3.tr (M3.X.mv0 (kr.dr e4));have m4:=M4.L.kp;have hpj:Z.pin j=false:=by rw [<- q.pinE j hp32];exact hpin
  have I4:IX Z {t1 with tk:=upd t1.tk Z.me ⟨[0],some (f,j),none,false⟩}:=⟨q.B9w hcp (q.lk.same (by rw [hg.tk])) (by rw [hg.tk]) ⟨λf' p' h=>(by cases h;exact⟨by simp,hj,hpj⟩),λ_ h=>(by cases h)⟩,P.inv.c,P.inv.pl,P.inv.ls,P.inv.no,λa j hj=>(AI _ _ hj).trans (P.inv.al a j hj)⟩;obtain⟨P4,o4⟩:=P.mv (t':={t1 with tk:=upd t1.tk Z.me ⟨[0],some (f,j),none,false⟩}) I4 rfl M4 rfl ⟨λj hj=>⟨AI _ _ hj,rfl,rfl⟩,nlr _⟩;have hg4:Goi Z t {t1 with tk:=upd t1.tk Z.me ⟨[0],some (f,j),none,false⟩} ⟨[0],some (f,j),none,false⟩:=⟨AF _ _ _,hg.hh,hg.gt,hg.t0,hg.cn⟩;refine AA rfl ⟨_,R (o:=0) m4 rfl,AA rfl ⟨_,by have:=rt M4.X.C (j:=3) rfl;exact this,AA rfl ⟨Z.me,R (o:=1) m4 rfl,?_⟩⟩⟩;refine(GA (N:=N+3) P4 (AB.refl AD w4) (l:=8) (by show 8<9+t1.S.AK;omega) (hg4.lks (by simp)) rfl λW2 t2 G2 fl2 P2 m2 k2' hfl2=>?_).AE ?_
  .have og2:AX W2 g (gc Z.k Z.me f j 0 th):=(og.kx m4 λhn=>hn (.inl (P.fg _ hgF))).kx k2' λhn=>hn (.inl hgF);exact A3k P2 I0 (A2p hF) (hg4.lock m2 rfl) (λa=>by rw [m2.2 a];exact ((hal a).1.tr ⟨t1.S.lh,_,rfl⟩).tr Lk.lock) hto (.inl hgF) hnF og2 (H.later ((P.kf m4).oo (k2'.AE λx _ h e=>h (.inl e))|>.AE λx _ h e=>h (hF x e)))
  .rintro e w' ⟨v,rfl,hN⟩;exact⟨v,rfl,Nx.pre o4 hN⟩
set_option maxHeartbeats 4000000 in
theorem A3s(P:Pt Z t G F W)(h0:t.tk Z.me=Tk.no)(hf:f<t.S.n)(ht:isF th=true)(H:EvK Z N t f th F W) :
 Calls prog 118 #[AP Z.k,vi Z.me,vi f,th] W λe w'=>∃v,e=.returned v/\Nx Z (N+8) t G F W (.returned v) w':=by
 have hto:=GF ht;refine Calls.ret (vc118 _ Z.me f th W _ ?_);unfold Q;rw [show Value.cells th=[th].toArray from DG hto];intro w1 e1 w2 e2 w3 e3 w4 e4;have B:=((((Bx.nil W).al e1).al e2).al e3).al e4;refine⟨_,rfl,JB (N:=N+7) P B.k rfl λW1 t1 G1 fl P1 m1 k1 _=>?_⟩;have rr:=λ{b:Nat}{v:Value}{W':WD} (kk:AB (λx=>¬(F x\/rng W w4 x)) W1 W') (hm:(b,v)∈_)=>B.rr (AB.oo k1 kk) hm;have hF:∀x,F x->(F x\/rng W w4 x):=λx h=>.inl h;have kF:∀{W':WD},AB (λx=>¬(F x\/rng W w4 x)) W1 W'->AB (λx=>¬F x) W W':=λkk=>B.k.none.trans ((AB.oo k1 kk).AE λx _ h e=>h (.inl e)) λ_ _ h=>h;obtain⟨fp,X1⟩:=P1.X;have q:=P1.inv.q;have hcp:=P1.cp;have hsz:=X1.C.BQ;have hcp16:t1.S.AS<=16:=hsz.2.1.2.1;have hf1:f<t1.S.n:=by
  obtain⟨fp0,X0⟩:=P.X;have a1:=X0.C.n4.1;have a2:=X1.C.n4.1;rw [P.inv.c] at a1;rw [P1.inv.c] at a2;omega
 have rt:∀{W':WD}{S':AR}{fp':Prt->Nat->Prop}{j:Nat}{v:Value},AO W' Z.k S' fp'->(GL S')[j]? = some v->rd W' Z.k (0+(94+j))=some v:=λC hj=>C.rtW kr hj;refine AN.mk 192 #[] _ rfl (by kernel_rfl) (Calls.ret (vc192 fl (some ⟨W.heap.size,0,none⟩) (some ⟨w2.heap.size,0,none⟩) (some ⟨w3.heap.size,0,none⟩) (some ⟨w1.heap.size,0,none⟩) W1 _ ?_));unfold Q;intro x1 d1;have M1:=X1.mv0 (kr.dr d1);have m1':=P1.kf M1.L.kp;refine AA rfl ⟨_,rr m1' (b:=W.heap.size) (v:=AP Z.k) (by simp),AA rfl ⟨_,by have:=rt M1.X.C (j:=4) rfl;exact this,AA rfl ⟨f,rr m1' (b:=w2.heap.size) (v:=vi f) (by simp),(KT M1.X.C hf1).AE ?_⟩⟩⟩;rintro _ x2 ⟨rfl,d2⟩;have M2:=M1.tr (M1.X.mv0 d2);have m2:=P1.kf M2.L.kp;obtain⟨P2,o2⟩:=P1.mv (t':=t1) P1.inv rfl M2 rfl (Oth.refl _ _);refine⟨_,_,_,rfl,AH (λhc=>?_) (λhc=>?_)⟩
 .have hc:(!((t1.S.rof f).1 != 0))=true:=hc;have hz:(t1.S.rof f).1=0:=by simpa using hc
  exact AA rfl ⟨th,rr m2 (b:=w3.heap.size) (by simp),AT (H.1 x2 t1 G1 (P2.less hF) m1 (λa p' hp'=>by
   rw [<- m1.2 a] at hp';have:=q.rof1 p' f hp';rw [this] at hz
   cases hz) (kF m2)) λe w' hN=>Nx.mo o2 hF (λ_=>by omega) hN⟩
 have hc:(!((t1.S.rof f).1 != 0))=false:=hc;obtain⟨p,hp⟩:=q.rof2 f hf1 (by simpa using hc);have hp32:=(q.pgo p f hp).1;have er:=q.rof1 p f hp;have e1':(t1.S.rof f).1=1:=by rw [er]
 have e2':(t1.S.rof f).2=(p:Int):=by rw [er]
 rw [e1',e2'];refine AA rfl ⟨_,rr m2 (b:=W.heap.size) (v:=AP Z.k) (by simp),AA rfl ⟨Z.me,rr m2 (b:=w1.heap.size) (v:=vi Z.me) (by simp),AA rfl ⟨f,rr m2 (b:=w2.heap.size) (v:=vi f) (by simp),AA rfl ⟨th,rr m2 (b:=w3.heap.size) (v:=th) (by simp),AA (by show B9t [th]=true;simpa [B9t] using hto) λx3 d3 x4 d4=>?_⟩⟩⟩⟩;have og:=AG d3;have k3:=kal d3;have k4:=kdr d4;have M4:=(M2.tr (M2.X.mv0 k3)).tr ((M2.tr (M2.X.mv0 k3)).X.mv0 k4);have m4:=P1.kf M4.L.kp;have og4:AX x4 x2.heap.size (gc Z.k Z.me f p 0 th):=og.k k4;refine AA rfl ⟨_,rr m4 (b:=W.heap.size) (v:=AP Z.k) (by simp),AA rfl ⟨_,by have:=rt M4.X.C (j:=3) rfl;exact this,AA rfl ⟨Z.me,rr m4 (b:=w1.heap.size) (v:=vi Z.me) (by simp),0,by rw [og4.rd];rfl,?_⟩⟩⟩;have T1:t1.tk Z.me=Tk.no:=m1.1.1.trans h0;have hg2:Goi Z t t1 Tk.no:=⟨T1,m1.1.2.1,m1.1.2.2.1,h0,m1.1.2.2.2⟩;refine(GA (N:=N+5) P2 (k3.tr k4) (l:=0) (by omega) (by rw [T1];intro j hj;cases hj) rfl λW2 t2 G2 fl2 P3 m3 k3' hfl2=>?_).AE ?_
 .have hgn:(λx=>(F x\/rng W w4 x)\/rng x2 x4 x) x2.heap.size:=.inr ⟨nlr _,og4.lt⟩;have og2:AX W2 x2.heap.size (gc Z.k Z.me f p 0 th):=og4.kx k3' λhn=>hn hgn;have hgF:¬F x2.heap.size:=λhf=>by have:=P2.lt (hF _ hf);omega
  have hf2:f<t2.S.n:=by
   obtain⟨fp0,X0⟩:=P3.X;have a1:=X0.C.n4.1;have a2:=X1.C.n4.1;rw [P3.inv.c] at a1;rw [P1.inv.c] at a2;omega
  refine B2d (N:=N) (F:=F) P3 P.inv (A2p hF) (hg2.lock m3 rfl) (λa=>⟨?_,?_⟩) hf2 hp32 hto hgn hgF og2 (H.later ?_)
  .have:=m3.2 a;have e:=m1.2 a;rw [this,e];exact Lk.lock
  .rw [<- m1.2 a];exact er
  .have kk:AB (λx=>¬(F x\/rng W w4 x)) x2 W2:=(k3.tr k4).none.trans (k3'.AE λx _ h e=>h (.inl e)) λ_ _ h=>h;exact kF (m2.oo kk)
 .rintro e w' ⟨v,rfl,hN⟩;exact⟨v,rfl,Nx.pre o2 (hN.le λ_=>by omega)⟩
end
theorem B9e{w:WD}{size:Int}{u:Value}{H:NP}(h:CE size u H w):Calls prog 242 #[u] w λe w'=>∃a c,e=.returned (.slice a 0 c)/\AB AD w w':=by
 obtain⟨b,m,rfl,o,M,hx⟩:=h.ex;refine Calls.ret (vc242 (some ⟨b,0,none⟩) w _ ?_);unfold Q;intro w1 e1;have o1:=AG e1;have k1:=kal e1;refine⟨some ⟨b,0,none⟩,by rw [o1.rd];rfl,(B2k (CE.stb.kx _ _ _ _ AD h k1 λ_ e=>e.elim)).AE ?_⟩;rintro _ w2 ⟨a,c,rfl,k2⟩;refine⟨a,0,c,rfl,?_⟩;refine Calls.ret (vc161 a 0 c _ w2 _ ?_);unfold Q;have hi:Calls prog 227 #[.slice a 0 c,.func (.func 274) #[] #[.pointer (some ⟨w.heap.size,0,none⟩)]] w2 λe w'=>e=.returned (vi (-1))/\w'=w2:=by
  refine Calls.ret (vc227 a 0 c _ w2 _ ?_);unfold Q;refine⟨λ_ j W _=>j=0/\W=w2,⟨0,rfl,rfl⟩,?_⟩;rintro _ _ W _ ⟨rfl,hW⟩;exact AL (by simp) ⟨rfl,hW⟩
 refine hi.AE ?_;rintro _ w3 ⟨rfl,hw⟩;rw [hw];exact⟨_,rfl,AA rfl ⟨a,0,c,rfl,a,c,rfl,k1.tr k2⟩⟩
theorem B0r{w:WD}{k:Nat}{fp:Prt->Nat->Prop}(h:AO w k S fp)(hi:i<S.AK) :
 Calls prog 199 #[AP k,vi i] w λe w'=>e=.returned (vi 0)/\AB AD w w':=by
 refine Calls.ret (vc199 _ i w _ ?_);have hs:=h.BQ;unfold Q;obtain⟨g,cp,u,H,hv,hr,hA,_,_⟩:=(h.at' .caches).one (B:=λ_=>BM (λi=>CE (sz i)) 8) (i:=i) (λ_ _=>BM.stb λ_ _=>CE.stb) hi λ_ _=>rfl;obtain⟨g2,cp2,_,_,rfl,_,_,_,_⟩:=hA.one (B:=λi=>CE (sz i)) (i:=0) (λ_ _=>CE.stb) (by omega) λ_ _=>rfl;refine AA rfl ⟨some ⟨g,0,none⟩,S.AK,cp,by
  show rd w k (0+101)=_
  rw [za,<- hv];exact h.rt (j:=7) rfl,AA rfl (Wi ⟨some ⟨g2,0,none⟩,8,cp2,by rw [tnc,mo];show rd w g (0+i)=_;rw [za];exact hr,?_⟩)⟩
 refine⟨λn j W N=>∃r:Nat,n=0/\j=r/\r<=8/\N=8-r/\AB AD w W,⟨8,0,rfl,rfl,by omega,rfl,AB.refl _ _⟩,?_⟩;rintro _ _ w20 _ ⟨r,rfl,rfl,hr8,rfl,k20⟩;refine AH (λhc2=>?_) (λhc2=>⟨rfl,k20⟩);have hr8':r<8:=by simp at hc2;omega
 have hA2:=(BM.stb λ_ _=>CE.stb).kx _ _ _ _ AD hA k20 λ_ e=>e.elim;obtain⟨g4,cp4,u4,H4,e4,hr4,hA4,_,_⟩:=hA2.one (B:=λi=>CE (sz i)) (i:=r) (λ_ _=>CE.stb) hr8' λ_ _=>rfl
 cases e4
 obtain⟨b,_,rfl,_⟩:=hA4.ex;refine AA rfl (Wi ⟨some ⟨b,0,none⟩,by rw [tnc,mo];show rd w20 g2 (0+r)=_;rw [za];exact hr4,(B9e hA4).AE ?_⟩);rintro _ w21 ⟨a0,c0,rfl,k21⟩;refine⟨_,_,_,rfl,λn j W N=>n=0/\j=0/\AB AD w W,⟨0,rfl,rfl,k20.tr k21⟩,?_⟩;rintro _ _ w22 _ ⟨rfl,rfl,k22⟩;exact AL (by simp) ⟨8-(r+1),by omega,r+1,rfl,wzz,hr8',rfl,k22⟩
def SqT.KZ(t:SqT)(i:Nat)(r:List Int)(o:List (Int×Value)):SqT:={t with S:=t.S.Q0 i r o}
def Trn(t t2:SqT):Prop:=∃r o,t2={t with S:={t.S with ring:=r,cof:=o}}
theorem Trn.tr(h:Trn t t1)(h2:Trn t1 t2):Trn t t2:=by
 obtain⟨r,o,rfl⟩:=h;obtain⟨r2,o2,rfl⟩:=h2;exact⟨r2,o2,rfl⟩
def C3y(Z:Cn)(t:SqT)(i:Nat):Prop:=∀p f,t.pg p=.fr f->AU Z.c i<=f->(f:Int)<AU Z.c (i+1)->Z.pin p=true
def B3w(Z:Cn)(t t2:SqT):Prop:=(t2.tk Z.me=t.tk Z.me/\t2.hh Z.me=t.hh Z.me/\t2.r.gt Z.me=t.r.gt Z.me/\EU t2.pg<=EU t.pg)/\(Z.al->Trn t t2)
theorem B3w.tr(h:B3w Z t t1)(h2:B3w Z t1 t2):B3w Z t t2:=⟨⟨h2.1.1.trans h.1.1,h2.1.2.1.trans h.1.2.1,h2.1.2.2.1.trans h.1.2.2.1,Nat.le_trans h2.1.2.2.2 h.1.2.2.2⟩,λa=>(h.2 a).tr (h2.2 a)⟩
theorem E7.stay(h:E7 Z t t1):B3w Z t t1:=⟨h.1,λa=>by rw [h.2 a];exact⟨_,_,rfl⟩⟩
structure Off(Z:Cn)(t t2:SqT):Prop where
 tk:t2.tk Z.me=Tk.no
 hh:t2.hh Z.me=t.hh Z.me
 gt:t2.r.gt Z.me=t.r.gt Z.me
 cn:EU t2.pg+1<=EU t.pg
 al:Z.al->t2.r=t.r
theorem B3w.off(h:B3w Z t t1)(h2:Off Z t1 t2):Off Z t t2:=⟨h2.tk,h2.hh.trans h.1.2.1,h2.gt.trans h.1.2.2.1,Nat.le_trans h2.cn h.1.2.2.2,λa=>by
 have h3:=h2.al a;obtain⟨_,_,rfl⟩:=h.2 a;exact h3⟩
def JZ(ln:Nat->Nat):List Nat->Nat
 | []=>1
 | x::xs=>2+30*ln x+JZ ln xs
def OH(Z:Cn)(N:Nat)(t:SqT)(th:Value)(xs:List Nat)(F:NP)(w:WD):Prop:=
 (∀W t2 G2,Pt Z t2 G2 F W->B3w Z t t2->(Z.al->HV t2.S\/∀i∈xs,C3y Z t2 i)->AB (λx=>¬F x) w W->AN prog th [vi 0] W (Nx Z N t2 G2 F W))/\
 (∀W t2 G2,Pt Z t2 G2 F W->Off Z t t2->AB (λx=>¬F x) w W->AN prog th [vi 1] W (Nx Z N t2 G2 F W))
section
variable {Z:Cn}{N:Nat}{th:Value}{ln:Nat->Nat}
theorem OH.later{w w1:WD}(h:OH Z N t th xs F w)(s:B3w Z t t1)(k:AB (λx=>¬F x) w w1):OH Z N t1 th xs F w1:=
 ⟨λW t2 G2 a b c d=>h.1 W t2 G2 a (s.tr b) c (k.oo d),λW t2 G2 a b d=>h.2 W t2 G2 a (s.off b) (k.oo d)⟩
theorem OH.tail{w:WD}(h:OH Z N t th (x::xs) F w)(hx:Z.al->HV t.S\/C3y Z t x):OH Z N t th xs F w:=
 ⟨λW t2 G2 a b c d=>h.1 W t2 G2 a b (λal=>by
  rcases hx al with hx|hx
  .left;obtain⟨_,_,rfl⟩:=b.2 al;exact hx
  .refine (c al).imp id λc i hi=>?_;rcases List.mem_cons.1 hi with rfl|hi
   .obtain⟨_,_,rfl⟩:=b.2 al;exact hx
   .exact c i hi) d,h.2⟩
set_option maxHeartbeats 4000000 in
theorem B32(ht:isF th=true)
 (IH:∀{t:SqT}{G F:NP}{w:WD}{a:OA}{l c:Nat},Pt Z t G F w->t.tk Z.me=Tk.no->Nds w F a l c xs->(∀x∈xs,x<t.S.AK)->(Z.al->∀i,i<t.S.AK->(t.S.ring i).length=ln i)->OH Z N t th xs F w->Calls prog 123 #[AP Z.k,vi Z.me,.slice a l c,th] w λe w'=>∃v,e=.returned v/\Nx Z (N+JZ ln xs) t G F w (.returned v) w') :
 ∀(left:Nat) {t:SqT}{G F:NP}{w:WD}{a:OA}{l c:Nat} (P:Pt Z t G F w) (h0:t.tk Z.me=Tk.no) (R:Nds w F a l c (x::xs)) (hx:∀y∈x::xs,y<t.S.AK) (hle:left<=96) (hln:Z.al->∀i,i<t.S.AK->(t.S.ring i).length=ln i)
  (hmu:Z.al->¬HV t.S->∀p f,t.pg p=.fr f->AU Z.c x<=f->(f:Int)<AU Z.c (x+1)->Z.pin p=false->∃m,Mu (t.S.ring x) (t.S.cof x) (f:Nat) m/\m<left) (H:OH Z N t th (x::xs) F w),
  Calls prog 201 #[AP Z.k,vi Z.me,.slice a l c,vi left,th] w λe w'=>∃v,e=.returned v/\Nx Z (N+JZ ln xs+10*left) t G F w (.returned v) w':=by
 have hto:=GF ht;intro left
 induction left with
 | zero=>
  intro t G F w a l c P h0 R hx hle hln hmu H;obtain⟨r1,r2,r3,r4,r5⟩:=R.fst;refine Calls.ret (vc201 _ Z.me a l c ((0:Nat):Int) th w _ ?_);unfold Q;rw [show Value.cells th=[th].toArray from DG hto];intro w1 e1 w2 e2 w3 e3 w4 e4 w5 e5;have B:=(((((Bx.nil w).al e1).al e2).al e3).al e4).al e5;refine⟨0,B.rd (b:=w3.heap.size) (by simp),AA rfl λw6 e6=>?_⟩;have B6:=B.dr e6;obtain⟨fp,X⟩:=P.X;obtain⟨P6,o6⟩:=P.mv P.inv rfl (X.mv0 B6.k) rfl (Oth.refl _ _);refine⟨_,B6.rd (b:=w.heap.size) (v:=AP Z.k) (by simp),Z.me,B6.rd (b:=w1.heap.size) (by simp),a,l,c,B6.rd (b:=w2.heap.size) (by simp),AA BR ⟨th,B6.rd (b:=w4.heap.size) (by simp),?_⟩⟩;refine(IH P6 h0 (R.to B6.k.none λ_ h=>h).tail (λy hy=>hx y (mcm _ hy)) hln ((H.tail λal=>?_).later (E7.refl _ _).stay B6.k.none)).AE λe w' ⟨v,hv,hN⟩=>⟨v,hv,v,rfl,Nx.pre o6 (hN.le λ_=>by omega)⟩;by_cases h:HV t.S
  .exact .inl h
  .refine .inr λp f h1 h2 h3=>?_
   cases hp:Z.pin p with
   | true=>rfl
   | false=>
    obtain⟨m,_,hm⟩:=hmu al h p f h1 h2 h3 hp;omega
 | succ left ih=>
  intro t G F w a l c P h0 R hx hle hln hmu H;obtain⟨r1,r2,r3,r4,r5⟩:=R.fst;have hxn:=hx x mcs;obtain⟨fp,X⟩:=P.X;have hsz:=X.C.BQ;refine Calls.ret (vc201 _ Z.me a l c ((left+1:Nat):Int) th w _ ?_);unfold Q;rw [show Value.cells th=[th].toArray from DG hto];intro w1 e1 w2 e2 w3 e3 w4 e4 w5 e5;have B:=(((((Bx.nil w).al e1).al e2).al e3).al e4).al e5;refine⟨((left+1:Nat):Int),B.rd (b:=w3.heap.size) (by simp),AL (by simp;omega) ⟨a,l,c,B.rd (b:=w2.heap.size) (by simp),AA r1 (Wi ⟨x,B.k.AV r5 id,λw6 e6=>⟨Bx.wr0 e6,λw7 e7 w8 e8=>?_⟩⟩)⟩⟩;have e9:wrap .i64 (9+((x:Nat):Int))=((9+x:Nat):Int):=by rw [wi (by omega)];omega
  rw [e9] at e7;have B8:=((B.al2 e6 e7).2).dr e8;refine⟨_,B8.rd (b:=w.heap.size) (v:=AP Z.k) (by simp),AA rfl ⟨_,by have:=X.C.rtW B8.k (j:=3) rfl;exact this,Z.me,B8.rd (b:=w1.heap.size) (by simp),((9+x:Nat):Int),B8.rd (b:=w5.heap.size) (by simp),?_⟩⟩;refine(GA (N:=N+JZ ln xs+10*left+8) P B8.k (l:=9+x) (by omega) (by rw [h0];intro j hj;cases hj) rfl λW t1 G1 fl P1 m1 k1 _=>?_).AE λe w' ⟨v,hv,hN⟩=>⟨v,hv,v,rfl,hN.le λ_=>by omega⟩;have rr:=λ{b:Nat}{v:Value}{W':WD} (kk:AB (λy=>¬(F y\/rng w w8 y)) W W') (hm:(b,v)∈_)=>B8.rr (AB.oo k1 kk) hm;have hwk:∀y,F y->(F y\/rng w w8 y):=λy h=>.inl h;have toF:∀{W':WD},AB (λx=>¬(F x\/rng w w8 x)) W W'->AB (λx=>¬F x) w W':=λkk=>B8.k.none.trans ((AB.oo k1 kk).AE λx _ h e=>h (.inl e)) λ_ _ h=>h;have T1:=m1.tk1 h0;obtain⟨fp1,X1⟩:=P1.X;have q1:=P1.inv.q;have ec:t1.S.c=t.S.c:=by rw [P1.inv.c,P.inv.c]
  have hx1:x<t1.S.AK:=by unfold AR.AK;rw [ec];exact hxn
  have hsz1:=X1.C.BQ;have hcp:=P1.cp;refine AN.mk 244 #[] _ rfl (by kernel_rfl) (Calls.ret (vc244 fl (some ⟨w.heap.size,0,none⟩) (some ⟨w2.heap.size,0,none⟩) (some ⟨w1.heap.size,0,none⟩) (some ⟨w5.heap.size,0,none⟩) (some ⟨w4.heap.size,0,none⟩) (some ⟨w3.heap.size,0,none⟩) W _ ?_));unfold vcP244;intro x1 d1;have M1:=X1.mv0 (kr.dr d1);have n1:=P1.kf M1.L.kp;obtain⟨g,cp,u,Hh,hv,hu,hA⟩:=A0y M1.X.C (i:=x) hx1;obtain⟨cb,_,_,_,_,rfl,_⟩:=hA.ex;have hckr:rd x1 Z.k (0+100)=some (.slice (some ⟨g,0,none⟩) t1.S.AK cp):=by
   have:=M1.X.C.rtW kr (j:=6) rfl;have hv2:t1.S.vck=.slice (some ⟨g,0,none⟩) t1.S.AK cp:=hv;rw [<- hv2];exact this
  refine AA rfl ⟨_,rr n1 (b:=w.heap.size) (v:=AP Z.k) (by simp),AA rfl ⟨_,_,_,hckr,AA rfl ⟨a,l,c,rr n1 (b:=w2.heap.size) (by simp),AA r1 (Wi ⟨x,(R.to (toF n1) λ_ h=>h).fst.2.2.2.2,AA rfl (Wi ⟨some ⟨cb,0,none⟩,by rw [tnc,mo];show rd x1 g (0+x)=_;rw [za];exact hu,(B26 M1.X.C (i:=x) hx1 (q1.ck x hx1) (by have:=q1.A2r hx1;show(t1.S.ring x).length<=1000;omega) hv hu).AE ?_⟩)⟩)⟩⟩⟩;rintro e x2 ⟨ring',of',NR,T2,hcase⟩;have NR:FM ring' of'/\ring'.length=(t1.S.ring x).length/\∀y,y∈ring'↔y∈t1.S.ring x:=NR;obtain⟨fp2,M12⟩:=M1.X.mv T2;have M2:=M1.tr M12;have n2:=P1.kf M2.L.kp;have hlk:=OJ (xs:=[9+x]) q1.lk λj=>by rw [T1]
  have I4:IX Z ((t1.KZ x ring' of').EG Z.me [9+x]):=⟨(q1.KZ hx1 NR).B9w hcp hlk (by show _=(t1.tk Z.me).sl;rw [T1]) TkO.none,P1.inv.c,P1.inv.pl,P1.inv.ls,P1.inv.no,λa j hj=>(AI _ _ hj).trans (P1.inv.al a j hj)⟩;have e4:((t1.KZ x ring' of').EG Z.me [9+x]).tk Z.me=t.tk Z.me:=(AF _ _ _).trans h0.symm;have ea:Z.al->(t1.KZ x ring' of').EG Z.me [9+x]=t.KZ x ring' of':=λal=>by
   have et:=m1.2 al;rw [et];rw [et] at NR;have It:IX Z (t.KZ x ring' of'):=⟨P.inv.q.KZ hxn NR,P.inv.c,P.inv.pl,P.inv.ls,P.inv.no,P.inv.al⟩;have I4':=I4;rw [et] at I4';rw [et] at e4;exact Lk.eq (t:=t.KZ x ring' of') (t1:=((t.KZ x ring' of').lock Z.me (9+x)).EG Z.me [9+x]) (Lk.lock.tr Lk.EG) It I4' e4
  have S4:B3w Z t ((t1.KZ x ring' of').EG Z.me [9+x]):=⟨⟨e4,m1.1.2.1,m1.1.2.2⟩,λal=>by rw [ea al];exact⟨_,_,rfl⟩⟩;have hln4:Z.al->∀i,i<t.S.AK->(upd t.S.ring x ring' i).length=ln i:=λal i hi=>by
   have hr:t1.S.ring=t.S.ring:=by rw [m1.2 al];rfl
   rw [hr] at NR;by_cases e:i=x
   .subst e;rw [AF,NR.2.1];exact hln al i hi
   .rw [AI _ _ e];exact hln al i hi
  have hb:∀{v0 v1:Value},e=.returned (.tuple #[v0,v1])->True:=λ_=>trivial;have hfree:∀{W':WD}{fp':Prt->Nat->Prop},Mv Z.k fp1 (GR Z G1) W (t1.S.Q0 x ring' of') fp' W'->∀x3,x3=World.alloc W' (.cells #[vi ((9+x:Nat):Int)] 3)->Calls prog 188 #[AP Z.k,vi Z.me,.slice (some (Addr.mk W'.heap.size 0 none)) 1 1] x3 λe w'=>e=.returned (.tuple #[])/\∃fp4,Mv Z.k fp1 (GR Z G1) W ((t1.KZ x ring' of').EG Z.me [9+x]).S fp4 w':=λ{W' fp'} M2 x3 d3=>by
   have o3:=AG d3;have M3:=M2.tr (M2.X.mv0 (kr.al d3));refine(ET (tk:=t1.tk) (n:=t1.S.AS) (T:={Tk.no with lks:=[9+x]}) M3.X q1.lk (by omega) rfl (xs:=[9+x]) T1 (λy hy=>⟨hy,by simp at hy;subst hy;show 9+x<9+t1.S.AK;omega⟩) (by simp) (by simp) o3 (λp hp=>by have:=(M2.X.C.lt p _ hp).2;omega) rfl).AE ?_;rintro _ x4 ⟨rfl,fp4,M34⟩;exact⟨rfl,fp4,M3.tr M34⟩
  rcases hcase with⟨hem,rfl⟩|⟨f,hfm,rfl,hmv⟩
  .refine⟨0,false,rfl,⟨rr n2 (b:=w.heap.size) (v:=AP Z.k) (by simp),trivial⟩,AA rfl ⟨_,rr n2 (b:=w.heap.size) (v:=AP Z.k) (by simp),AA rfl ⟨Z.me,rr n2 (b:=w1.heap.size) (by simp),AA rfl ⟨((9+x:Nat):Int),rr n2 (b:=w5.heap.size) (by simp),λx3 d3=>(hfree M2 x3 d3).AE ?_⟩⟩⟩⟩;rintro _ x4 ⟨rfl,fp4,M4⟩;refine⟨rfl,AA rfl λx5 d5=>?_⟩;have M5:=M4.tr (M4.X.mv0 (kr.dr d5));have n5:=P1.kf M5.L.kp;obtain⟨P5,o5⟩:=P1.mv I4 rfl M5 rfl ⟨λj hj=>⟨AI _ _ hj,rfl,rfl⟩,nlr _⟩;refine AA rfl ⟨_,rr n5 (b:=w.heap.size) (v:=AP Z.k) (by simp),AA rfl ⟨Z.me,rr n5 (b:=w1.heap.size) (by simp),AA rfl ⟨a,l,c,rr n5 (b:=w2.heap.size) (by simp),AA BR (AA rfl ⟨th,rr n5 (b:=w4.heap.size) (by simp),?_⟩)⟩⟩⟩;refine(IH (P5.less hwk) (AF _ _ _) (R.to (toF n5) λ_ h=>h).tail (λy hy=>by show y<(t1.S.c 0).toNat;rw [ec];exact hx y (mcm _ hy)) (λal i hi=>by
    rw [ea al];refine hln4 al i ?_;have hi:i<(t1.S.c 0).toNat:=hi;rw [ec] at hi;exact hi) ((H.tail λal=>.inr λp f h1 h2 h3=>?_).later S4 (toF n5))).AE λe w' ⟨v,hv,hN⟩=>⟨v,hv,Nx.pre o5 (hN.wk hwk λ_=>by omega)⟩
   exfalso;rw [m1.2 al] at hem;have:=(P.inv.q.ckm x hxn (f:Int)).2 ⟨p,f,h1,rfl,by rw [P.inv.c];exact h2,by rw [P.inv.c];exact h3⟩;have hem:t.S.ring x=[]:=hem;rw [hem] at this
   cases this
  .have hfm:f∈t1.S.ring x:=hfm;obtain⟨p,f,hpf,rfl,hf1,hf2⟩:=(q1.ckm x hx1 f).1 hfm;refine⟨(f:Int),true,rfl,⟨rr n2 (b:=w.heap.size) (v:=AP Z.k) (by simp),trivial⟩,AA rfl ⟨_,rr n2 (b:=w.heap.size) (v:=AP Z.k) (by simp),AA rfl ⟨Z.me,rr n2 (b:=w1.heap.size) (by simp),AA rfl ⟨((9+x:Nat):Int),rr n2 (b:=w5.heap.size) (by simp),λx3 d3=>(hfree M2 x3 d3).AE ?_⟩⟩⟩⟩;rintro _ x4 ⟨rfl,fp4,M4⟩;have n4:=P1.kf M4.L.kp;obtain⟨P4,o4⟩:=P1.mv I4 rfl M4 rfl ⟨λj hj=>⟨AI _ _ hj,rfl,rfl⟩,nlr _⟩;refine⟨rfl,AL rfl (AA rfl ⟨_,rr n4 (b:=w.heap.size) (v:=AP Z.k) (by simp),AA rfl ⟨Z.me,rr n4 (b:=w1.heap.size) (by simp),?_⟩⟩)⟩;refine(A3s (N:=N+JZ ln xs+10*left) P4 (AF _ _ _) (q1.pgo p f hpf).2.1 rfl ⟨λW3 t3 G3 P3 m3 hor k3=>?_,λW3 t3 G3 P3 a1 a2 a3 a4 a5 k3=>?_⟩).AE λe w' ⟨v,hv,hN⟩=>⟨v,hv,Nx.pre o4 hN⟩
   .have nY:=AB.oo n4 k3;refine AN.mk 246 #[] _ rfl (by kernel_rfl) (Calls.ret (vc246 false (some ⟨w4.heap.size,0,none⟩) (some ⟨w.heap.size,0,none⟩) (some ⟨w1.heap.size,0,none⟩) (some ⟨w2.heap.size,0,none⟩) (some ⟨w3.heap.size,0,none⟩) W3 _ ?_));unfold Q;refine AL rfl (AA rfl ⟨_,rr nY (b:=w.heap.size) (v:=AP Z.k) (by simp),AA rfl ⟨Z.me,rr nY (b:=w1.heap.size) (by simp),AA rfl ⟨a,l,c,rr nY (b:=w2.heap.size) (by simp),AA rfl ⟨((left+1:Nat):Int),rr nY (b:=w3.heap.size) (by simp),AA rfl ⟨th,rr nY (b:=w4.heap.size) (by simp),?_⟩⟩⟩⟩⟩);have el:wrap .i64 (((left+1:Nat):Int)-1)=((left:Nat):Int):=by rw [wi (by omega)];omega
    rw [el];have S3:=S4.tr m3.stay;have ec3:t3.S.c=t.S.c:=by rw [P3.inv.c,P.inv.c]
    refine(ih (P3.less hwk) (m3.1.1.trans (AF _ _ _)) (R.to (toF nY) λ_ h=>h) (λy hy=>by unfold AR.AK;rw [ec3];exact hx y hy) (by omega) (λal i hi=>?_) (λal hns p' f' h1 h2 h3 h4=>?_) (H.later S3 (toF nY))).AE λe w' ⟨v,hv,hN⟩=>⟨v,hv,hN.wk hwk λ_=>nlr _⟩
    .unfold AR.AK at hi;rw [ec3] at hi;rw [m3.2 al,ea al];exact hln4 al i hi
    .have e3:t3=t.KZ x ring' of':=(m3.2 al).trans (ea al);have hor:=hor al;rw [ea al] at hor;subst e3;have hns:¬HV t.S:=hns;have h1:t.pg p'=.fr f':=h1;obtain⟨m,hm,hlt⟩:=hmu al hns p' f' h1 h2 h3 h4
     show ∃m,Mu (upd t.S.ring x ring' x) (upd t.S.cof x of' x) (f':Nat) m/\m<left
     rw [AF,AF];have et:=m1.2 al;rw [et] at hmv;rcases hmv _ m hm with e|⟨m',hm',hmm⟩
     .exfalso;have e:f'=f:=by omega
      subst e;rcases hor p' h1 with hor|hor
      .rw [h4] at hor;cases hor
      .exact hns hor
     .exact⟨m',hmm,by omega⟩
   .have nY:=AB.oo n4 k3;refine AN.mk 246 #[] _ rfl (by kernel_rfl) (Calls.ret (vc246 true (some ⟨w4.heap.size,0,none⟩) (some ⟨w.heap.size,0,none⟩) (some ⟨w1.heap.size,0,none⟩) (some ⟨w2.heap.size,0,none⟩) (some ⟨w3.heap.size,0,none⟩) W3 _ ?_));unfold Q;exact AA rfl (AA rfl ⟨th,rr nY (b:=w4.heap.size) (by simp),AT (H.2 W3 t3 G3 (P3.less hwk) (S4.off ⟨a1,a2,a3,a4,a5⟩) (toF nY)) λe w' hN=>(hN.wk hwk λ_=>by omega).out⟩)
