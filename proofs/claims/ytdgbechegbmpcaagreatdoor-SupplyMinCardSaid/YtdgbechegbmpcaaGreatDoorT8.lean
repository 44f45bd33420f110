/- Part of a proof that a law returns true. Conditions: those in each theorem. -/
import Derived.Test.YtdgbechegbmpcaaGreatDoorT3
set_option linter.unusedSimpArgs false
set_option linter.unusedVariables false
set_option maxRecDepth 100000
namespace Go.Proofs.YtdgbechegbmpcaaGreatDoor
open Go Go.Eng Go.Proofs.Tryz
open Go.Value (bool func slice agg int)
open Option (isNone)
open Go.IntKind (wrap)
open List (replicate range)
variable {t:SqT}{xs:List Nat}{a:OA}{c f i l x:Nat}{V:Wv}{gt:Nat->Value}{ca la nn:NI}{W:WD}
def B7v(ln:Nat->Nat):List Nat->Nat
 | []=>0
 | x::xs=>ln x+B7v ln xs
theorem B4v(ln:Nat->Nat)(xs:List Nat):JZ ln xs=1+2*xs.length+30*B7v ln xs:=by
 induction xs with
 | nil=>rfl
 | cons x xs ih=>show 2+30*ln x+JZ ln xs=1+2*(xs.length+1)+30*(ln x+B7v ln xs);rw [ih];omega
theorem A4e{ln:Nat->Nat}:∀{n:Nat}{xs:List Nat},xs.Nodup->(∀x∈xs,x<n)->B7v ln xs<=CY n ln
 | 0,xs,_,h=>by
  cases xs with
  | nil=>exact Nat.zero_le _
  | cons x xs=>exact absurd (h x mcs) (nlz _)
 | n+1,xs,nd,h=>by
  rw [CQ];by_cases hn:n∈xs
  .have key:∀(ys:List Nat),ys.Nodup->n∈ys->B7v ln ys=ln n+B7v ln (ys.filter λy=>y != n):=by
    intro ys
    induction ys with
    | nil=>intro _ h;cases h
    | cons y ys ih=>
     intro nd hm;have nd2:=List.nodup_cons.1 nd;by_cases e:y=n
     .subst e;have:ys.filter (λz=>z != y)=ys:=List.filter_eq_self.2 λz hz=>by
       have:z≠y:=λe=>nd2.1 (e▸hz);simpa using this
      rw [List.filter_cons,if_neg (by simp),this]
      rfl
     .rw [List.filter_cons,if_pos (by simpa using e)];have:=ih nd2.2 ((List.mem_cons.1 hm).resolve_left (Ne.symm e))
      show ln y+B7v ln ys=ln n+(ln y+_)
      omega
   rw [key xs nd hn];have:=A4e (ln:=ln) (n:=n) (xs:=xs.filter λy=>y != n) (nd.sublist (List.filter_sublist)) λx hx=>by
    obtain⟨h1,h2⟩:=List.mem_filter.1 hx;have:=h x h1;have:x≠n:=by simpa using h2
    omega
   omega
  .have:=A4e (ln:=ln) (n:=n) (xs:=xs) nd λx hx=>by
    have:=h x hx;have:x≠n:=λe=>hn (e▸hx);omega
   omega
def bdP(m:Nat):Nat->Nat
 | 0=>0
 | c+1=>bdP m c+(4*m+8+30*c)
section
variable {Z:Cn}{N:Nat}{th:Value}{ln:Nat->Nat}
theorem B4u(I:IX Z t)(nd:xs.Nodup)(h:∀x∈xs,x<t.S.AK):JZ (λi=>(t.S.ring i).length) xs<=1+2*xs.length+30*EU t.pg:=by
 rw [B4v];have h1:=A4e (ln:=λi=>(t.S.ring i).length) nd h;have h2:=I.q.cc;omega
set_option maxHeartbeats 4000000 in
theorem A1e(ht:isF th=true):∀(xs:List Nat) {t:SqT}{G F:NP}{w:WD}{a:OA}{l c:Nat},Pt Z t G F w->t.tk Z.me=Tk.no->Nds w F a l c xs->(∀x∈xs,x<t.S.AK)->(Z.al->∀i,i<t.S.AK->(t.S.ring i).length=ln i)->OH Z N t th xs F w->
 Calls prog 123 #[AP Z.k,vi Z.me,.slice a l c,th] w λe w'=>∃v,e=.returned v/\Nx Z (N+JZ ln xs) t G F w (.returned v) w':=by
 have hto:=GF ht;intro xs
 induction xs with
 | nil=>
  intro t G F w a l c P h0 R hx hln H;obtain rfl:l=0:=R.len;refine Calls.ret (vc123 _ Z.me a 0 c th w _ ?_);unfold Q;rw [show Value.cells th=[th].toArray from DG hto];intro w1 e1 w2 e2 w3 e3 w4 e4;have B:=((((Bx.nil w).al e1).al e2).al e3).al e4;refine⟨_,_,_,B.rd (b:=w2.heap.size) (v:=.slice a 0 c) (by simp),AA rfl ⟨_,rfl,JB (N:=N) P B.k rfl λW t1 G1 fl P1 m1 k1 _=>?_⟩⟩;refine AN.mk 197 #[] _ rfl (by kernel_rfl) (Calls.ret (vc197 fl (some ⟨w3.heap.size,0,none⟩) W _ ?_));unfold Q;have hwk:∀y,F y->(F y\/rng w w4 y):=λy h=>.inl h;exact AA rfl ⟨th,B.rr k1 (b:=w3.heap.size) (by simp),AT (H.1 W t1 G1 (P1.less hwk) m1.stay (λ_=>.inr λi hi=>by cases hi) (B.k.none.trans (k1.AE λx _ h e=>h (.inl e)) λ_ _ h=>h)) λe w' hN=>(hN.wk hwk λ_=>nlr _).out⟩
 | cons x xs ih=>
  intro t G F w a l c P h0 R hx hln H;obtain⟨r1,r2,r3,r4,r5⟩:=R.fst;have hxn:=hx x mcs;obtain⟨fp,X⟩:=P.X;have hsz:=X.C.BQ;refine Calls.ret (vc123 _ Z.me a l c th w _ ?_);unfold Q;rw [show Value.cells th=[th].toArray from DG hto];intro w1 e1 w2 e2 w3 e3 w4 e4;have B:=((((Bx.nil w).al e1).al e2).al e3).al e4;refine⟨_,_,_,B.rd (b:=w2.heap.size) (v:=.slice a l c) (by simp),AL (by simp;omega) ⟨a,l,c,B.rd (b:=w2.heap.size) (by simp),AA r1 (Wi ⟨x,B.k.AV r5 id,λw6 e6=>⟨Bx.wr0 e6,λw7 e7 w8 e8=>?_⟩⟩)⟩⟩;have e9:wrap .i64 (9+((x:Nat):Int))=((9+x:Nat):Int):=by rw [wi (by omega)];omega
  rw [e9] at e7;have B8:=((B.al2 e6 e7).2).dr e8;refine⟨_,B8.rd (b:=w.heap.size) (v:=AP Z.k) (by simp),AA rfl ⟨_,by have:=X.C.rtW B8.k (j:=3) rfl;exact this,Z.me,B8.rd (b:=w1.heap.size) (by simp),((9+x:Nat):Int),B8.rd (b:=w4.heap.size) (by simp),?_⟩⟩;refine(GA (N:=N+JZ ln xs+30*ln x) P B8.k (l:=9+x) (by omega) (by rw [h0];intro j hj;cases hj) rfl λW t1 G1 fl P1 m1 k1 _=>?_).AE λe w' ⟨v,hv,hN⟩=>⟨v,hv,v,rfl,hN.le λ_=>by show _<=N+(2+30*ln x+JZ ln xs);omega⟩;have rr:=λ{b:Nat}{v:Value}{W':WD} (kk:AB (λy=>¬(F y\/rng w w8 y)) W W') (hm:(b,v)∈_)=>B8.rr (AB.oo k1 kk) hm;have hwk:∀y,F y->(F y\/rng w w8 y):=λy h=>.inl h;have toF:∀{W':WD},AB (λx=>¬(F x\/rng w w8 x)) W W'->AB (λx=>¬F x) w W':=λkk=>B8.k.none.trans ((AB.oo k1 kk).AE λx _ h e=>h (.inl e)) λ_ _ h=>h;have T1:=m1.tk1 h0;obtain⟨fp1,X1⟩:=P1.X;have q1:=P1.inv.q;have ec:t1.S.c=t.S.c:=by rw [P1.inv.c,P.inv.c]
  have hx1:x<t1.S.AK:=by unfold AR.AK;rw [ec];exact hxn
  have hsz1:=X1.C.BQ;have hcp:=P1.cp;have hcp16:=hsz1.2.1.2.1;refine AN.mk 198 #[] _ rfl (by kernel_rfl) (Calls.ret (vc198 fl (some ⟨w.heap.size,0,none⟩) (some ⟨w2.heap.size,0,none⟩) (some ⟨w1.heap.size,0,none⟩) (some ⟨w4.heap.size,0,none⟩) (some ⟨w3.heap.size,0,none⟩) W _ ?_));unfold Q;intro x1 d1;have M1:=X1.mv0 (kr.dr d1);have n1:=P1.kf M1.L.kp;obtain⟨g,cp,u,Hh,hv,hu,hA⟩:=A0y M1.X.C (i:=x) hx1;obtain⟨cb,_,_,_,_,rfl,_⟩:=hA.ex;have hv2:t1.S.vck=.slice (some ⟨g,0,none⟩) t1.S.AK cp:=hv;have hckr:∀{W':WD}{S':AR}{fp':Prt->Nat->Prop},AO W' Z.k S' fp'->S'.vck=t1.S.vck->rd W' Z.k (0+100)=some (.slice (some ⟨g,0,none⟩) t1.S.AK cp):=λC e=>by
   have:=C.rtW kr (j:=6) rfl;rw [e] at this;rw [<- hv2];exact this
  have fst:∀{W':WD},AB (λx=>¬(F x\/rng w w8 x)) W W'->rd W' (pb a) (po a)=some (vi (x:Nat)):=λkk=>(R.to (toF kk) λ_ h=>h).fst.2.2.2.2;refine AA rfl ⟨_,rr n1 (b:=w.heap.size) (v:=AP Z.k) (by simp),AA rfl ⟨a,l,c,rr n1 (b:=w2.heap.size) (by simp),AA r1 (Wi ⟨x,fst n1,AA rfl ⟨_,rr n1 (b:=w.heap.size) (v:=AP Z.k) (by simp),AA rfl ⟨_,_,_,hckr M1.X.C rfl,AA rfl ⟨a,l,c,rr n1 (b:=w2.heap.size) (by simp),AA r1 (Wi ⟨x,fst n1,AA rfl (Wi ⟨some ⟨cb,0,none⟩,by rw [tnc,mo];show rd x1 g (0+x)=_;rw [za];exact hu,(B0r M1.X.C (i:=x) hx1).AE ?_⟩)⟩)⟩⟩⟩⟩)⟩⟩;rintro _ x2 ⟨rfl,d2⟩;have M2:=M1.tr (M1.X.mv0 d2);have n2:=P1.kf M2.L.kp;have A2:=BE.stb.kx _ _ _ _ AD hA d2 λ_ e=>e.elim;refine⟨0,rfl,⟨by rw [tnc,mo];show rd x2 g (0+x)=_;rw [za];exact d2.AV hu id,trivial⟩,⟨fst n2,trivial⟩,⟨rr n2 (b:=w2.heap.size) (v:=.slice a l c) (by simp),trivial⟩,⟨hckr M2.X.C rfl,trivial⟩,⟨rr n2 (b:=w.heap.size) (v:=AP Z.k) (by simp),trivial⟩,(B3d A2).AE ?_⟩;rintro _ wx ⟨rfl,hwx⟩;rw [hwx];refine⟨_,rfl,⟨rr n2 (b:=w.heap.size) (v:=AP Z.k) (by simp),trivial⟩,AA rfl ⟨_,rr n2 (b:=w.heap.size) (v:=AP Z.k) (by simp),AA rfl ⟨Z.me,rr n2 (b:=w1.heap.size) (by simp),AA rfl ⟨((9+x:Nat):Int),rr n2 (b:=w4.heap.size) (by simp),λx3 d3=>?_⟩⟩⟩⟩;have o3:=AG d3;have M3:=M2.tr (M2.X.mv0 (kr.al d3));refine(ET (tk:=t1.tk) (n:=t1.S.AS) (T:={Tk.no with lks:=[9+x]}) M3.X q1.lk (by omega) rfl (xs:=[9+x]) T1 (λy hy=>⟨hy,by simp at hy;subst hy;show 9+x<9+t1.S.AK;omega⟩) (by simp) (by simp) o3 (λp hp=>by have:=(M2.X.C.lt p _ hp).2;omega) rfl).AE ?_;rintro _ x4 ⟨rfl,fp4,M34⟩;have M4:=M3.tr M34;have n4:=P1.kf M4.L.kp;have I4:=P1.inv.EG hcp (xs:=[9+x]) (λj=>by rw [T1]) (by rw [T1];rfl);obtain⟨P4,o4⟩:=P1.mv (t':=t1.EG Z.me [9+x]) I4 rfl M4 rfl Oth.EG;have mm:=m1.EG h0 P.inv I4;have h32:(t1.S.ring x).length<=32:=q1.A2r hx1;have e3:wrap .i64 (3*(((t1.S.ring x).length:Nat):Int))=((3*(t1.S.ring x).length:Nat):Int):=by rw [wi (by omega)];omega
  have hrx:Z.al->(t1.S.ring x).length=ln x:=λal=>by
   have:=hln al x hxn;rw [m1.2 al];exact this
  refine⟨rfl,AL rfl (AA rfl ⟨_,rr n4 (b:=w.heap.size) (v:=AP Z.k) (by simp),AA rfl ⟨Z.me,rr n4 (b:=w1.heap.size) (by simp),AA rfl ⟨a,l,c,rr n4 (b:=w2.heap.size) (by simp),AA rfl ⟨th,rr n4 (b:=w3.heap.size) (by simp),?_⟩⟩⟩⟩)⟩;rw [e3];refine(B32 (N:=N) ht (λh1 h2 h3 h4 h5 h6=>ih h1 h2 h3 h4 h5 h6) (3*(t1.S.ring x).length) (P4.less hwk) (AF _ _ _) (R.to (toF n4) λ_ h=>h) (λy hy=>by show y<(t1.S.c 0).toNat;rw [ec];exact hx y hy) (by omega) (λal i hi=>?_) (λal hns p f h1 h2 h3 h4=>?_) (H.later mm.stay (toF n4))).AE λe w' ⟨v,hv,hN⟩=>⟨v,hv,Nx.pre o4 (hN.wk hwk λal=>by rw [hrx al];omega)⟩
  .rw [mm.2 al];rw [mm.2 al] at hi;exact hln al i hi
  .have et:=mm.2 al;obtain⟨m,hm,hlt⟩:=(q1.ck x hx1).mu ((q1.ckm x hx1 (f:Nat)).2 ⟨p,f,h1,rfl,by rw [P1.inv.c];exact h2,by rw [P1.inv.c];exact h3⟩);exact⟨m,hm,hlt⟩
end
theorem BV.nds{w:WD}{base:Nat}{FR:NP}(h:BV w base a l c (xs.map λx:Nat=>(x:Int)))(hf:∀b,base<=b->b<w.heap.size->FR b):Nds w FR a l c xs:=by
 have hlen:l=xs.length:=by rw [h.1];simp
 have hc:l<=c/\c<=maxLen:=by
  rcases h.2.2 with⟨h0,h1⟩|⟨g,cap,cur,hv,_,_,hnc,hm,_⟩
  .simp only [Value.slice.injEq] at h0;obtain⟨_,h2,h3⟩:=h0;rw [h2,h3];exact⟨nlr _,Nat.zero_le _⟩
  .simp only [Value.slice.injEq] at hv;obtain⟨_,_,h3⟩:=hv;rw [h3];exact⟨hnc,hm⟩
 refine⟨hlen,hc.1,hc.2,λhp=>?_⟩;obtain⟨g,o,rfl,hr⟩:=h.o.at' (by simp;omega);have hlt:=h.lt (x:=g) rfl;refine⟨g,o,rfl,hf g hlt.1 hlt.2,λi x hx=>hr i x ?_⟩;rw [gmp,hx];rfl
theorem A7j{m:Nat}:∀{a b:Nat},a<=b->bdP m a<=bdP m b
 | a,0,h=>by rw [Nat.le_zero.1 h];exact nlr _
 | a,b+1,h=>by
  by_cases e:a=b+1
  .rw [e];exact nlr _
  .exact Nat.le_trans (A7j (a:=a) (b:=b) (by omega)) (Nat.le_add_right _ _)
structure Fail(Z:Cn)(xs:List Nat)(t t2:SqT):Prop where
 tk:t2.tk Z.me=Tk.no
 hh:t2.hh Z.me=t.hh Z.me
 gt:t2.r.gt Z.me=t.r.gt Z.me
 al:Z.al->t2.r=t.r/\(∀x∈xs,(BD (t2.S.L x):Int)<=Z.c 91)/\(HV t2.S\/∀i∈xs,C3y Z t2 i)
def A7n(Z:Cn)(N:Nat)(xs:List Nat)(t:SqT)(th:Value)(F:NP)(w:WD):Prop:=
 (∀W t2 G2,Pt Z t2 G2 F W->Fail Z xs t t2->AB (λx=>¬F x) w W->AN prog th [vi (-1),vi 6] W (Nx Z N t2 G2 F W))/\
 (∀W t2 G2 f,Pt Z t2 G2 F W->C6v Z xs t f t2->AB (λx=>¬F x) w W->AN prog th [vi (f:Nat),vi 0] W (Nx Z N t2 G2 F W))
def C3i(Z:Cn)(nv:Value)(xs:List Nat)(F:NP)(w:WD):Prop:=
 ∀W t G,Pt Z t G F W->AB (λx=>¬F x) w W->AN prog nv [] W λe w'=>∃a l cp,e=.returned (.slice a l cp)/\AB AD W w'/\BV w' W.heap.size a l cp (xs.map λx:Nat=>(x:Int))
section
variable {Z:Cn}{N:Nat}{th nv:Value}{xs:List Nat}
theorem A7n.later{t1:SqT}{F:NP}{w w1:WD}(h:A7n Z N xs t th F w)(hh:t1.hh Z.me=t.hh Z.me)(gt:t1.r.gt Z.me=t.r.gt Z.me)(hr:Z.al->t1.r=t.r)(k:AB (λx=>¬F x) w w1):A7n Z N xs t1 th F w1:=
 ⟨λW t2 G2 a b c=>h.1 W t2 G2 a ⟨b.tk,b.hh.trans hh,b.gt.trans gt,λal=>⟨(b.al al).1.trans (hr al),(b.al al).2⟩⟩ (k.oo c),λW t2 G2 f a b c=>h.2 W t2 G2 f a ⟨b.nd,b.tk,b.hh.trans (by rw [hh]),b.gt.trans gt⟩ (k.oo c)⟩
set_option maxHeartbeats 4000000 in
theorem B2l(ht:isF th=true)(hnv:isF nv=true)(nd:xs.Nodup):∀(cnt:Nat) {t:SqT}{G F:NP}{w:WD},EU t.pg=cnt->Pt Z t G F w->t.tk Z.me=Tk.no->(∀x∈xs,x<(Z.c 0).toNat)->C3i Z nv xs F w->A7n Z N xs t th F w->
 Calls prog 107 #[AP Z.k,vi Z.me,nv,.int .u8 4,.bool true,th] w λe w'=>∃v,e=.returned v/\Nx Z (N+bdP xs.length (cnt+1)) t G F w (.returned v) w':=by
 have hto:=GF ht;have hno:=GF hnv;intro cnt
 induction cnt using Nat.strongRecOn with
 | ind cnt ih=>
 intro t G F w hcn P h0 hx HN H;have hb:bdP xs.length (cnt+1)=bdP xs.length cnt+(4*xs.length+8+30*cnt):=rfl;refine Calls.ret (vc107 _ Z.me nv 4 true th w _ ?_);unfold Q;rw [show Value.cells nv=[nv].toArray from DG hno,show Value.cells th=[th].toArray from DG hto];intro w1 e1 w2 e2 w3 e3 w4 e4 w5 e5 w6 e6;have B:=((((((Bx.nil w).al e1).al e2).al e3).al e4).al e5).al e6;refine⟨_,rfl,(JB (N:=N+bdP xs.length cnt+4*xs.length+30*cnt+3) P B.k rfl λW t1 G1 fl P1 m1 k1 _=>?_).le λ_=>by omega⟩;have rr:=λ{b:Nat}{v:Value}{W':WD} (kk:AB (λy=>¬(F y\/rng w w6 y)) W W') (hm:(b,v)∈_)=>B.rr (AB.oo k1 kk) hm;have hwk:∀y,F y->(F y\/rng w w6 y):=λy h=>.inl h;have toF:∀{W':WD},AB (λx=>¬(F x\/rng w w6 x)) W W'->AB (λx=>¬F x) w W':=λkk=>B.k.none.trans ((AB.oo k1 kk).AE λx _ h e=>h (.inl e)) λ_ _ h=>h;have k0:AB (λy=>¬(F y\/rng w w6 y)) W W:=AB.refl _ _;have T1:t1.tk Z.me=Tk.no:=m1.1.1.trans h0;refine AN.mk 181 #[] _ rfl (by kernel_rfl) (Calls.ret (vc181 fl (some ⟨w2.heap.size,0,none⟩) (some ⟨w.heap.size,0,none⟩) (some ⟨w1.heap.size,0,none⟩) (some ⟨w3.heap.size,0,none⟩) (some ⟨w4.heap.size,0,none⟩) (some ⟨w5.heap.size,0,none⟩) W _ ?_));unfold vcP181;refine AA rfl ⟨nv,rr k0 (b:=w2.heap.size) (by simp),AT (HN W t1 G1 (P1.less hwk) (toF k0)) ?_⟩;rintro _ x1 ⟨a,l,cp,rfl,d1,R1⟩;refine⟨a,l,cp,rfl,λx2 d2=>⟨Bx.wr0 d2,λx3 d3=>?_⟩⟩;have B2:=(((Bx.nil W).kk d1).al2 d2 d3).2;have k13:AB AD x1 x3:=by
  have o2:=AG d2;exact BO (kr.al d2) (d3▸(AB.refl (·=x1.heap.size) x2).st (.inl rfl)) λy e=>by omega
 have kW3:=B2.k;have k03:AB (λy=>¬(F y\/rng w w6 y)) W x3:=kW3.none;refine AA rfl ⟨_,rr k03 (b:=w.heap.size) (v:=AP Z.k) (by simp),AA rfl ⟨Z.me,rr k03 (b:=w1.heap.size) (by simp),a,l,cp,B2.rd (b:=x1.heap.size) (by simp),AA rfl ⟨4,rr k03 (b:=w3.heap.size) (by simp),AA rfl ⟨true,rr k03 (b:=w4.heap.size) (by simp),?_⟩⟩⟩⟩;obtain⟨P3,o3⟩:=P1.more kW3;have hG3:∀y,F y->((F y\/rng w w6 y)\/rng W x3 y):=λy h=>.inl (.inl h);have R3:Nds x3 (λy=>(F y\/rng w w6 y)\/rng W x3 y) a l cp xs:=(R1.k k13).nds λb h1 h2=>.inr ⟨h1,h2⟩;have rr2:∀{b:Nat}{v:Value}{W':WD},AB (λy=>¬((F y\/rng w w6 y)\/rng W x3 y)) x3 W'->(b,v)∈_->rd W' b 0=some v:=λ{b v W'} kk hm=>rr (b:=b) (v:=v) (k03.oo (kk.AE λy _ hn hf=>hn (.inl hf))) hm;have rr3:∀{W':WD},AB (λy=>¬((F y\/rng w w6 y)\/rng W x3 y)) x3 W'->rd W' x1.heap.size 0=some (.slice a l cp):=λ{W'} kk=>by
  obtain⟨o,hb⟩:=B2.o x1.heap.size (.slice a l cp) (by simp);rw [(o.kx kk λhn=>hn (.inr ⟨hb,o.lt⟩)).rd];rfl
 have toF3:∀{W':WD},AB (λy=>¬((F y\/rng w w6 y)\/rng W x3 y)) x3 W'->AB (λx=>¬F x) w W':=λkk=>toF (k03.oo (kk.AE λy _ hn hf=>hn (.inl hf)));have hx1:∀x∈xs,x<t1.S.AK:=λx h=>by unfold AR.AK;rw [P1.inv.c];exact hx x h
 have hc1:EU t1.pg<=cnt:=hcn▸m1.1.2.2.2;have hP:=B4u P1.inv nd hx1;refine(A91 (N:=N+bdP xs.length cnt+(1+2*xs.length+30*cnt)) rfl xs P3 T1 R3 hx1 (λy2 t2 G2 P2 m2 hf q2=>?_) (λy2 t2 G2 f P2 tk2 q2=>?_)).AE λe w' ⟨v,hv,hN⟩=>⟨v,hv,Nx.pre o3 (hN.le λ_=>by omega)⟩
 .refine AN.mk 182 #[] _ rfl (by kernel_rfl) (Calls.ret (vc182 (-1) 6 (some ⟨w5.heap.size,0,none⟩) (some ⟨w.heap.size,0,none⟩) (some ⟨w1.heap.size,0,none⟩) (some ⟨x1.heap.size,0,none⟩) (some ⟨w2.heap.size,0,none⟩) (some ⟨w3.heap.size,0,none⟩) (some ⟨w4.heap.size,0,none⟩) y2 _ ?_));unfold vcP182;refine AL rfl (AA rfl ⟨_,rr2 q2 (b:=w.heap.size) (v:=AP Z.k) (by simp),AA rfl ⟨Z.me,rr2 q2 (b:=w1.heap.size) (by simp),AA rfl ⟨a,l,cp,rr3 q2,?_⟩⟩⟩);refine(A1e (N:=N+bdP xs.length cnt) (ln:=λi=>(t1.S.ring i).length) rfl xs P2 (m2.1.1.trans T1) (R3.to q2 λ_ h=>h) (λx h=>by unfold AR.AK;rw [P2.inv.c];exact hx x h) (λal i _=>by rw [m2.2 al]) ⟨λy3 t3 G3 P3 s3 hor q3'=>?_,λy3 t3 G3 P3 o3 q3'=>?_⟩).AE λe w' ⟨v,hv,hN⟩=>⟨v,hv,hN.le λ_=>by omega⟩
  .have q3:=q2.oo q3';refine AN.mk 183 #[] _ rfl (by kernel_rfl) (Calls.ret (vc183 0 (some ⟨w5.heap.size,0,none⟩) (some ⟨w.heap.size,0,none⟩) (some ⟨w1.heap.size,0,none⟩) (some ⟨w2.heap.size,0,none⟩) (some ⟨w3.heap.size,0,none⟩) (some ⟨w4.heap.size,0,none⟩) y3 _ ?_));unfold Q;refine AA rfl (AA rfl ⟨th,rr2 q3 (b:=w5.heap.size) (by simp),AT (H.1 y3 t3 G3 (P3.less hG3) ⟨s3.1.1.trans (m2.1.1.trans T1),s3.1.2.1.trans (m2.1.2.1.trans m1.1.2.1),s3.1.2.2.1.trans (m2.1.2.2.1.trans m1.1.2.2.1),λal=>?_⟩ (toF3 q3)) λe w' hN=>(hN.wk hG3 λ_=>by omega).out⟩);have hor:=hor al;obtain⟨_,_,e3⟩:=s3.2 al;have hf:=hf al;rw [m2.2 al] at e3;refine⟨?_,?_,hor⟩
   .rw [e3,<- m1.2 al]
   .intro x hx;rw [e3];exact hf x hx
  .have q3:=q2.oo q3';refine AN.mk 183 #[] _ rfl (by kernel_rfl) (Calls.ret (vc183 1 (some ⟨w5.heap.size,0,none⟩) (some ⟨w.heap.size,0,none⟩) (some ⟨w1.heap.size,0,none⟩) (some ⟨w2.heap.size,0,none⟩) (some ⟨w3.heap.size,0,none⟩) (some ⟨w4.heap.size,0,none⟩) y3 _ ?_));unfold Q;refine AL rfl (AA rfl ⟨_,rr2 q3 (b:=w.heap.size) (v:=AP Z.k) (by simp),AA rfl ⟨Z.me,rr2 q3 (b:=w1.heap.size) (by simp),AA rfl ⟨nv,rr2 q3 (b:=w2.heap.size) (by simp),AA rfl ⟨4,rr2 q3 (b:=w3.heap.size) (by simp),AA rfl ⟨true,rr2 q3 (b:=w4.heap.size) (by simp),AA rfl ⟨th,rr2 q3 (b:=w5.heap.size) (by simp),?_⟩⟩⟩⟩⟩⟩);have hc3:EU t3.pg+1<=cnt:=Nat.le_trans o3.cn (Nat.le_trans m2.1.2.2.2 hc1);refine(ih (EU t3.pg) (by omega) rfl (P3.less hG3) o3.tk hx (λW' t' G' P' k'=>HN W' t' G' P' ((toF3 q3).oo k')) (H.later (o3.hh.trans (m2.1.2.1.trans m1.1.2.1)) (o3.gt.trans (m2.1.2.2.1.trans m1.1.2.2.1)) (λal=>(o3.al al).trans (by rw [m2.2 al,m1.2 al])) (toF3 q3))).AE λe w' ⟨v,hv,hN⟩=>⟨v,hv,hN.wk hG3 λ_=>by have:=A7j (m:=xs.length) hc3;omega⟩
 .refine AN.mk 182 #[] _ rfl (by kernel_rfl) (Calls.ret (vc182 f 0 (some ⟨w5.heap.size,0,none⟩) (some ⟨w.heap.size,0,none⟩) (some ⟨w1.heap.size,0,none⟩) (some ⟨x1.heap.size,0,none⟩) (some ⟨w2.heap.size,0,none⟩) (some ⟨w3.heap.size,0,none⟩) (some ⟨w4.heap.size,0,none⟩) y2 _ ?_));unfold vcP182;exact AA rfl (AA rfl ⟨th,rr2 q2 (b:=w5.heap.size) (by simp),AT (H.2 y2 t2 G2 f (P2.less hG3) ⟨tk2.nd,tk2.tk,tk2.hh.trans (by rw [m1.1.2.1]),tk2.gt.trans m1.1.2.2.1⟩ (toF3 q2)) λe w' hN=>(hN.wk hG3 λ_=>by omega).out⟩)
end
theorem DT.init{w:WD}{x:Int}{xs:List Int}(h:DT w a (l+1) c (xs++[x])):DT w a l c xs:=by
 have hl:=h.len;rw [lap] at hl;simp only [List.length_cons,List.length_nil] at hl;refine⟨by omega,?_⟩;rcases h.ex with⟨_,h0,_⟩|⟨g,o,cs,rfl,h2,h3,h4,h5,h6⟩
 .omega
 .refine .inr ⟨g,o,cs,rfl,h2,by omega,h4,h5,λi y hy=>h6 i y ?_⟩;rw [gal (DC.1 hy).1];exact hy
def FW(F:NP)(W:WD)(v:Value)(ls:List Nat):Prop:=∃a c,v=.slice a ls.length c/\DT W a ls.length c (ls.map λx:Nat=>(x:Int))/\∀x,(slice a ls.length c).ownBlock=some x->F x
section
variable {Z:Cn}{N:Nat}{t:SqT}{G F:NP}{w w' W:WD}{v rest:Value}{ls:List Nat}{bw bc br:Nat}
theorem FW.env(h:FW F w v ls)(k:AB (λx=>¬F x) w w'):FW F w' v ls:=by
 obtain⟨a,c,e,R,hF⟩:=h;exact⟨a,c,e,R.kx k λx h1 h2=>h1 (hF x h2),hF⟩
theorem FW.wk{F2:NP}(h:FW F w v ls)(hF:∀x,F x->F2 x):FW F2 w v ls:=by
 obtain⟨a,c,e,R,h⟩:=h;exact⟨a,c,e,R,λx hx=>hF x (h x hx)⟩
theorem Pt.C3p(P:Pt Z t G F w){r':Rc}(kk:AB (λx=>Z.V.rows x\/F x) w w')(wa:WAt w' Z.V r'.gt r'.nn r'.la r'.ca)(hg:∀j,j≠Z.me->r'.gt j=t.r.gt j):Pt Z {t with r:=r'} (λx=>G x\/rng w w' x) (λx=>F x\/rng w w' x) w'/\Mo Z t G F w {t with r:=r'} (λx=>G x\/rng w w' x) (λx=>F x\/rng w w' x) w':=by
 obtain⟨fp,X⟩:=P.X;have hno:∀x,Z.V.rows x\/F x->¬Z.rb x:=λx h e=>h.elim (λh=>P.ok.rr x (.inr h) e) λh=>P.gr x (.inr e) (P.fg x h);refine⟨⟨⟨P.inv.q,P.inv.c,P.inv.pl,P.inv.ls,P.inv.no,P.inv.al⟩,⟨fp,(X.fresh (kk.AE λx _ h=>h.elim (λh=>.inr (.inl (.inr h))) λh=>.inl (P.fg x h))).less λx hx=>?_⟩,wa,λx hr hx=>hx.elim (P.gr x hr) λe=>?_,λx hx=>hx.imp (P.fg x) id,P.ok,P.ok.ro _ _ _ P.ro kk λx h e=>hno x h (P.ok.rl x e)⟩,kk.AE λx _ h=>h.elim (λh=>.inl ⟨P.gr x (.inl (.inr h)),P.ok.rr x (.inr h)⟩) .inr,λ_ h=>.inl h,λ_ h=>h,λ_ h=>h,λj hj=>⟨rfl,rfl,hg j hj⟩,nlr _⟩
 .rcases hx with (h|h)|h
  .exact .inl (.inl h)
  .exact .inr h
  .exact .inl (.inr h)
 .have:=X.lt x (.inr hr);have:=e.1;omega
def BK(Z:Cn)(t:SqT)(x:Nat):Prop:=Z.V.rows x\/(t.r.gt Z.me).ownBlock=some x
theorem A6x(P:Pt Z t G F w)(hg:FW F w (t.r.gt Z.me) (t.hh Z.me))(hbx:∀W',AB (BK Z t) w W'->rd W' bw 0=some (AP Z.V.b)/\rd W' bc 0=some (vi Z.me)/\rd W' br 0=some rest)
 (H:∀W' r' G2 F2,Pt Z {t with r:=r'} G2 F2 W'->(∀x,F x->F2 x)->FW F2 W' (r'.gt Z.me) (t.hh Z.me)->r'.nn Z.me=wrap .i64 (t.r.nn Z.me+1)->AB (BK Z t) w W'->AN prog rest [] W' (Nx Z N {t with r:=r'} G2 F2 W')) :
 AN prog (.func (.func 106) #[] #[AP bw,AP bc,AP br]) [vi (-1),vi 6] w (Nx Z N t G F w):=by
 refine AN.mk 106 #[] _ rfl (by kernel_rfl) (Calls.ret (vc106 (-1) 6 (some ⟨bw,0,none⟩) (some ⟨bc,0,none⟩) (some ⟨br,0,none⟩) w _ ?_));have A:=P.wa;have hc:=P.ok.me;have hn:=A.n16;unfold Q;intro w1 e1;have k1:=kdr e1;have A1:=A.k k1;have toB:∀{W:WD},AB Z.V.rows w W->AB (BK Z t) w W:=λk=>k.AE λ_ _ h=>.inl h;obtain⟨b1,b2,b3⟩:=hbx w1 k1.none;refine AA rfl ⟨_,b1,AA rfl ⟨_,_,_,A1.rdR (j:=2) rfl,AA rfl ⟨Z.me,b2,AA rfl (Wi ⟨by rw [tnc,mo];show wr w1 Z.V.lb (0+Z.me);rw [za];exact(A1.rdL hc).2,λw2 e2=>?_⟩)⟩⟩⟩;have e2:w2=st w1 Z.V.lb Z.me (vi (-1)):=by
  have e2:w2=st w1 Z.V.lb (0+Int.toNat (Z.me:Int)*1) (vi (-1)):=e2;rw [tnc,mo,za] at e2;exact e2
 obtain⟨A2,q2⟩:=A1.C4r hc e2;have k2:AB Z.V.rows w w2:=(k1.none).trans q2 λ_ _ e=>e;refine AA rfl λw3 e3=>?_;have q3:=kdr e3;have k3:AB Z.V.rows w w3:=k2.trans q3 λ_ _ e=>e.elim;have A3:=A2.k q3;obtain⟨c1,c2,c3⟩:=hbx w3 (toB k3);refine AA rfl ⟨_,c1,AA rfl ⟨_,_,_,A3.rdR (j:=1) rfl,AA rfl ⟨Z.me,c2,AA rfl (Wi ⟨t.r.nn Z.me,by rw [tnc,mo];show rd w3 Z.V.nb (0+Z.me)=_;rw [za];exact(A3.rdN hc).1,AA rfl (Wi ⟨by rw [tnc,mo];show wr w3 Z.V.nb (0+Z.me);rw [za];exact(A3.rdN hc).2,λw4 e4=>?_⟩)⟩)⟩⟩⟩;have e4:w4=st w3 Z.V.nb Z.me (vi (wrap .i64 (t.r.nn Z.me+1))):=by
  have e4:w4=st w3 Z.V.nb (0+Int.toNat (Z.me:Int)*1) (vi (wrap .i64 (t.r.nn Z.me+1))):=e4;rw [tnc,mo,za] at e4;exact e4
 obtain⟨A4,q4⟩:=A3.putN hc e4;have k4:AB Z.V.rows w w4:=k3.trans q4 λ_ _ e=>e;obtain⟨d1,d2,d3⟩:=hbx w4 (toB k4);obtain⟨P4,o4⟩:=P.C3p (r':=⟨t.r.gt,upd t.r.nn Z.me (wrap .i64 (t.r.nn Z.me+1)),upd t.r.la Z.me (-1),t.r.ca⟩) (k4.AE λ_ _ h=>.inl h) A4 λ_ _=>rfl;have hF:∀x,F x->(F x\/rng w w4 x):=λx h=>.inl h;have kF:AB (λx=>¬F x) w w4:=k4.AE λx _ h e=>P.gr x (.inl (.inr h)) (P.fg x e);exact AA rfl ⟨rest,d3,AT (H w4 _ _ _ P4 hF ((hg.env kF).wk hF) (AF _ _ _) (toB k4)) λe w' hN=>(Nx.pre o4 hN).out⟩
set_option maxHeartbeats 2000000 in
theorem A6w(P:Pt Z t G F w)(hg:FW F w (t.r.gt Z.me) ls)(he:t.hh Z.me=ls++[f])(hi:i<t.S.AK)(hf1:AU t.S.c i<=f)(hf2:(f:Int)<AU t.S.c (i+1))(hbx:∀W',AB (BK Z t) w W'->rd W' bw 0=some (AP Z.V.b)/\rd W' bc 0=some (vi Z.me)/\rd W' br 0=some rest)
 (H:∀W' r' G2 F2,Pt Z {t with r:=r'} G2 F2 W'->(∀x,F x->F2 x)->FW F2 W' (r'.gt Z.me) (t.hh Z.me)->AB (BK Z t) w W'->AN prog rest [] W' (Nx Z N {t with r:=r'} G2 F2 W')) :
 AN prog (.func (.func 106) #[] #[AP bw,AP bc,AP br]) [vi f,vi 0] w (Nx Z N t G F w):=by
 refine AN.mk 106 #[] _ rfl (by kernel_rfl) (Calls.ret (vc106 f 0 (some ⟨bw,0,none⟩) (some ⟨bc,0,none⟩) (some ⟨br,0,none⟩) w _ ?_));obtain⟨ga,gc',hg0,GR',hgF⟩:=hg;obtain⟨fp,X⟩:=P.X;have A:=P.wa;have hc:=P.ok.me;have hn:=A.n16;have hk:Z.V.k=Z.k:=P.ok.k;have eo:∀b:Nat,(0+Int.toNat (Z.me:Int)*1)=Z.me:=λ_=>by rw [tnc,mo,za]
 have hll:ls.length<=100000:=by
  have h1:=P.inv.q.O1 (i:=Z.me);rw [he,lap] at h1;have:=X.C.n4.2.2;omega
 unfold Q;intro w1 e1;have k1:=kdr e1;have A1:=A.k k1;obtain⟨b1,b2,b3⟩:=hbx w1 k1.none;refine AA rfl ⟨_,b1,AA rfl ⟨_,_,_,A1.rdR (j:=2) rfl,AA rfl ⟨Z.me,b2,AA rfl (Wi ⟨by show wr w1 Z.V.lb (0+Int.toNat (Z.me:Int)*1);rw [eo 0];exact(A1.rdL hc).2,λw2 e2=>?_⟩)⟩⟩⟩;have e2:w2=st w1 Z.V.lb Z.me (vi (-1)):=by
  have e2:w2=st w1 Z.V.lb (0+Int.toNat (Z.me:Int)*1) (vi (-1)):=e2;rw [eo 0] at e2;exact e2
 have BKr:∀{x},Z.V.rows x->BK Z t x:=λh=>.inl h;obtain⟨A2,q2⟩:=A1.C4r hc e2;have k2:AB (BK Z t) w w2:=(k1.none).trans q2 λ_ _ e=>BKr e;refine AL rfl λw3 e3=>?_;have q3:=kdr e3;have k3:AB (BK Z t) w w3:=k2.trans q3 λ_ _ e=>e.elim;have A3:=A2.k q3;have rg:∀{W':WD}{gt':Nat->Value}{nn' la' ca':NI},WAt W' Z.V gt' nn' la' ca'->rd W' Z.V.gb (0+Int.toNat (Z.me:Int)*1)=some (gt' Z.me):=λA=>by rw [eo 0];exact(A.rdG hc).1
 obtain⟨c1,c2,c3⟩:=hbx w3 k3;have rg3:=rg A3;rw [hg0] at rg3;refine AA rfl ⟨_,c1,AA rfl ⟨_,_,_,A3.rdR (j:=0) rfl,AA rfl ⟨Z.me,c2,AA rfl ⟨_,c1,AA rfl ⟨_,_,_,A3.rdR (j:=0) rfl,AA rfl ⟨Z.me,c2,AA rfl (Wi ⟨ga,ls.length,gc',rg3,λw4 e4=>?_⟩)⟩⟩⟩⟩⟩⟩;have o4:=AG e4;have q4:=kal e4;have k4:AB (BK Z t) w w4:=k3.trans q4 λ_ _ e=>e.elim;have A4:=A3.k q4;have rg4:=rg A4;rw [hg0] at rg4;obtain⟨d1,d2,d3⟩:=hbx w4 k4;have hs4:=k4.sz;have gno:∀x,(slice ga ls.length gc').ownBlock=some x->¬Z.V.rows x:=λx h1 h2=>P.gr x (.inl (.inr h2)) (P.fg x (hgF x h1));have GR4:DT w4 ga ls.length gc' (ls.map λx:Nat=>(x:Int)):=((GR'.k k1).kx q2 λx h1 h2=>gno x h2 h1).k (q3.tr q4);obtain⟨a,cp,w5,happ,R5,q5',hb5⟩:=GR4.C3u o4 (by rw [lmp];exact hll);have hown:∀x,(slice ga ls.length gc').ownBlock=some x->BK Z t x:=λx h=>.inr (hg0▸h);have k5:AB (BK Z t) w w5:=k4.trans q5' λx _ e=>hown x e;have A5:WAt w5 Z.V _ _ _ _:=A4.kx q5' λx h1 h2=>P.gr x (.inl h2) (P.fg x (hgF x h1));have rg5:=rg A5;obtain⟨f1,f2,f3⟩:=hbx w5 k5;refine⟨⟨rg4,trivial⟩,⟨d2,trivial⟩,⟨A4.rdR (j:=0) rfl,trivial⟩,⟨d1,trivial⟩,⟨d2,trivial⟩,⟨A4.rdR (j:=0) rfl,trivial⟩,⟨d1,trivial⟩,a,ls.length+1,cp,w5,happ,⟨f1,trivial⟩,⟨f2,trivial⟩,⟨A5.rdR (j:=0) rfl,trivial⟩,⟨f1,trivial⟩,AA rfl (Wi ⟨by show wr w5 Z.V.gb (0+Int.toNat (Z.me:Int)*1);rw [eo 0];exact(A5.rdG hc).2,λw6 e6=>?_⟩)⟩;have e6:w6=st w5 Z.V.gb Z.me (.slice a (ls.length+1) cp):=by
  have e6:w6=st w5 Z.V.gb (0+Int.toNat (Z.me:Int)*1) (.slice a (ls.length+1) cp):=e6;rw [eo 0] at e6;exact e6
 obtain⟨A6,q6⟩:=A5.C66 hc e6;have k6:AB (BK Z t) w w6:=k5.trans q6 λ_ _ e=>BKr e;have hrow:∀x,Z.V.rows x->(slice a (ls.length+1) cp).ownBlock=some x->False:=λx h1 h2=>by
  rcases hb5 with hb5|hb5
  .rw [hb5] at h2;exact gno x h2 h1
  .have:=hb5 x h2;have:=A.lt x (.inr h1);omega
 have R6:=R5.kx q6 hrow;intro w7 e7;have q7:=kdr e7;have k7:AB (BK Z t) w w7:=k6.trans q7 λ_ _ e=>e.elim;have A7:=A6.k q7;have R7:=R6.k q7;obtain⟨g1,g2,g3⟩:=hbx w7 k7;have toF:∀x,BK Z t x->Z.V.rows x\/F x:=λx h=>h.imp id λh=>hgF x (hg0▸h);have X7:=X.E5 (k7.AE λx _ h=>(toF x h).elim (λh=>.inr (.inl (.inr h))) λh=>.inl (P.fg x h));have rk7:rd w7 Z.V.b 0=some (AP Z.k):=by rw [A7.rd0,hk]
 refine AA rfl ⟨_,g1,AA rfl ⟨_,_,_,A7.rdR (j:=2) rfl,AA rfl ⟨Z.me,g2,AA rfl ⟨_,g1,AA rfl ⟨_,rk7,(IJ X7.C hi hf1 hf2).AE ?_⟩⟩⟩⟩⟩;rintro _ w8 ⟨rfl,q8⟩;have k8:AB (BK Z t) w w8:=k7.trans q8 λ_ _ e=>e.elim;have A8:=A7.k q8;have R8:=R7.k q8;obtain⟨h1,h2,h3⟩:=hbx w8 k8;refine⟨_,rfl,⟨h2,trivial⟩,⟨A8.rdR (j:=2) rfl,trivial⟩,⟨h1,trivial⟩,AA rfl (Wi ⟨by show wr w8 Z.V.lb (0+Int.toNat (Z.me:Int)*1);rw [eo 0];exact(A8.rdL hc).2,λw9 e9=>?_⟩)⟩;have e9:w9=st w8 Z.V.lb Z.me (vi (i:Nat)):=by
  have e9:w9=st w8 Z.V.lb (0+Int.toNat (Z.me:Int)*1) (vi (i:Nat)):=e9;rw [eo 0] at e9;exact e9
 obtain⟨A9,q9⟩:=A8.C4r hc e9;have k9:AB (BK Z t) w w9:=k8.trans q9 λ_ _ e=>BKr e;have R9:=R8.kx q9 hrow;obtain⟨_,_,h3⟩:=hbx w9 k9;obtain⟨P9,o9⟩:=P.C3p (r':=⟨upd t.r.gt Z.me (.slice a (ls.length+1) cp),t.r.nn,upd (upd t.r.la Z.me (-1)) Z.me (i:Nat),t.r.ca⟩) (k9.AE λx _ h=>toF x h) A9 λj hj=>AI _ _ hj;refine AA rfl ⟨rest,h3,AT (H w9 _ _ _ P9 (λx h=>.inl h) ?_ k9) λe w' hN=>(Nx.pre o9 hN).out⟩;rw [he];refine⟨a,cp,?_,?_,λx hx=>?_⟩
 .show upd t.r.gt Z.me _ Z.me=_
  rw [AF,lap];rfl
 .rw [lap,F6];exact R9
 .rw [lap] at hx;have hx:(slice a (ls.length+1) cp).ownBlock=some x:=hx;rcases hb5 with hb5|hb5
  .rw [hb5] at hx;exact .inl (hgF x hx)
  .exact .inr ⟨by have:=hb5 x hx;omega,R9.lt hx⟩
end
def D1(c:NI)(cpu:Nat):List Nat:=(CL c (c (2+cpu)).toNat).map Int.toNat
theorem H8{c:NI}(hm:D6 c)(cpu:Nat):(D1 c cpu).map (λx:Nat=>(x:Int))=CL c (c (2+cpu)).toNat/\(∀x∈D1 c cpu,x<(c 0).toNat)/\(D1 c cpu).Nodup/\(D1 c cpu).length=(c 0).toNat:=by
 obtain⟨⟨h1,h2⟩,h3⟩:=B1d hm (c (2+cpu)).toNat;unfold D1;generalize CL c (c (2+cpu)).toNat=l at *;refine⟨?_,λx hx=>?_,?_,by rw [lmp,h3]⟩
 .rw [List.map_map];refine(List.map_congr_left λx hx=>?_).trans (List.map_id _);have:=(h1 x hx).1
  show((x.toNat:Nat):Int)=x
  omega
 .obtain⟨y,hy,rfl⟩:=List.mem_map.1 hx;have:=h1 y hy;omega
 .rw [List.nodup_iff_pairwise_ne,List.pairwise_map,List.pairwise_iff_getElem];intro i j hi hj hij e;have a1:=h1 _ (List.getElem_mem hi);have a2:=h1 _ (List.getElem_mem hj);have e2:l[i]=l[j]:=by omega
  have:=h2 i j l[i] (geg hi) (by rw [geg hj,e2]);omega
theorem WAt.rdC{w:WD}(h:WAt w V gt nn la ca)(hi:i<V.n):rd w V.cb i=some (vi (ca i))/\wr w V.cb i:=by
 refine⟨?_,h.ca.wr (by rw [AM];exact hi)⟩;rw [h.ca.rd,AZ _ _ _ _ _ hi,za]
theorem WAt.C3r{w w':WD}(h:WAt w V gt nn la ca)(hi:i<V.n){v:Int}(e:w'=st w V.cb i (vi v)):WAt w' V gt nn la (upd ca i v)/\AB V.rows w w':=by
 have kk:AB (·=V.cb) w w':=kr.s1 e (.inl rfl);have o:=h.ca.s1 e;rw [FF hi] at o;obtain⟨n1,n2,n3,n4,n5,n6⟩:=h.ne;exact⟨⟨h.so.kx kk λe=>h.nw (.inr (.inr (.inr e))),h.ml,h.n16,h.gt.kx kk n3,h.nn.kx kk n5,h.la.kx kk n6,o,h.ne,h.nw⟩,kk.AE λx _ e=>.inr (.inr (.inr e))⟩
def RKp(Z:Cn)(t:SqT)(F:NP)(x:Nat):Prop:=¬F x\/BK Z t x
def JT(Z:Cn)(N:Nat)(t:SqT)(rest:Value)(F:NP)(w:WD):Prop:=
 ∀W t2 G2 F2,Pt Z t2 G2 F2 W->(∀x,F x->F2 x)->t2.tk Z.me=Tk.no->FW F2 W (t2.r.gt Z.me) (t2.hh Z.me)->AB (RKp Z t F) w W->AN prog rest [] W (Nx Z N t2 G2 F2 W)
def BxK(Z:Cn)(t:SqT)(F:NP)(w:WD)(bw bc br:Nat)(rest:Value):Prop:=∀W',AB (RKp Z t F) w W'->rd W' bw 0=some (AP Z.V.b)/\rd W' bc 0=some (vi Z.me)/\rd W' br 0=some rest
section
variable {Z:Cn}{N:Nat}{t t1:SqT}{G F:NP}{w w1 w' W:WD}{v rest:Value}{bw bc br bp:Nat}{page:Int}
theorem RKp.same(hg:t1.r.gt Z.me=t.r.gt Z.me)(h:RKp Z t1 F x):RKp Z t F x:=h.imp id λh=>h.imp id λh=>by rw [hg] at h;exact h
theorem JT.later(h:JT Z N t rest F w)(hg:t1.r.gt Z.me=t.r.gt Z.me)(k:AB (RKp Z t F) w w1):JT Z N t1 rest F w1:=
 λW t2 G2 F2 a b c d e=>h W t2 G2 F2 a b c d (k.trans (e.AE λx _ h=>RKp.same hg h) λ_ _ h=>h)
theorem BxK.later(h:BxK Z t F w bw bc br rest)(hg:t1.r.gt Z.me=t.r.gt Z.me)(k:AB (RKp Z t F) w w1):BxK Z t1 F w1 bw bc br rest:=
 λW e=>h W (k.trans (e.AE λx _ h=>RKp.same hg h) λ_ _ h=>h)
theorem kRK(k:AB (λx=>¬F x) w w1):AB (RKp Z t F) w w1:=k.AE λ_ _ h=>.inl h
theorem had0(P:Pt Z t G F w)(h0:t.tk Z.me=Tk.no)(hg:FW F w (t.r.gt Z.me) (t.hh Z.me))(hb:BxK Z t F w bw bc br rest)(H:JT Z N t rest F w) :
 AN prog (.func (.func 106) #[] #[AP bw,AP bc,AP br]) [vi (-1),vi 6] w (Nx Z N t G F w):=
 A6x P hg (λW' k=>hb W' (k.AE λ_ _ h=>.inr h)) λW' r' G2 F2 P2 hF g2 _ k=>H W' _ G2 F2 P2 hF h0 g2 (k.AE λ_ _ h=>.inr h)
theorem had1{t0:SqT}(hx:∀x∈xs,x<(Z.c 0).toNat)(P:Pt Z t G F w)(T:C6v Z xs t0 f t)(hg:FW F w (t.r.gt Z.me) (t0.hh Z.me))(hb:BxK Z t F w bw bc br rest)(H:JT Z N t rest F w) :
 AN prog (.func (.func 106) #[] #[AP bw,AP bc,AP br]) [vi (f:Nat),vi 0] w (Nx Z N t G F w):=by
 obtain⟨i,hi,h1,h2⟩:=T.nd;refine A6w P hg T.hh (i:=i) (by unfold AR.AK;rw [P.inv.c];exact hx i hi) (by rw [P.inv.c];exact h1) (by rw [P.inv.c];exact h2) (λW' k=>hb W' (k.AE λ_ _ h=>.inr h)) λW' r' G2 F2 P2 hF g2 k=>H W' _ G2 F2 P2 hF T.tk g2 (k.AE λ_ _ h=>.inr h)
set_option maxHeartbeats 2000000 in
theorem B2e(hal:¬Z.al)(P:Pt Z t G F w)(h0:t.tk Z.me=Tk.no)(hg:FW F w (t.r.gt Z.me) (t.hh Z.me))(hb:BxK Z t F w bw bc br rest)(H:JT Z N t rest F w){fl:Bool} :
 AN prog (.func (.func 109) #[] #[AP bw,AP bc,AP br]) [.bool fl] w (Nx Z N t G F w):=by
 obtain⟨ga,gc',hg0,GR',hgF⟩:=hg;have A:=P.wa;have hc:=P.ok.me;have hn:=A.n16;have hk:Z.V.k=Z.k:=P.ok.k;have eo:∀b:Nat,(0+Int.toNat (Z.me:Int)*1)=Z.me:=λ_=>by rw [tnc,mo,za]
 have inF:∀x,x=Z.V.b\/Z.V.rows x->¬F x:=λx h e=>P.gr x (.inl h) (P.fg x e);refine AN.mk 109 #[] _ rfl (by kernel_rfl) (Calls.ret (vc109 fl (some ⟨bw,0,none⟩) (some ⟨bc,0,none⟩) (some ⟨br,0,none⟩) w _ ?_));unfold Q;intro w1 e1;have k1:=kdr e1;have A1:=A.k k1;have rgA:∀{W':WD}{r:Rc},WAt W' Z.V r.gt r.nn r.la r.ca->r.gt Z.me=t.r.gt Z.me->rd W' Z.V.gb (0+Int.toNat (Z.me:Int)*1)=some (.slice ga (t.hh Z.me).length gc'):=λA e=>by rw [eo 0,(A.rdG hc).1,e,hg0]
 obtain⟨b1,b2,b3⟩:=hb w1 k1.none;refine AA rfl ⟨_,b1,AA rfl ⟨_,_,_,A1.rdR (j:=0) rfl,AA rfl ⟨Z.me,b2,AA rfl (Wi ⟨_,_,_,rgA (r:=t.r) A1 rfl,λw2 e2=>?_⟩)⟩⟩⟩;have k12:=kal e2;have A2:=A1.k k12;have k2:=k1.tr k12;obtain⟨c1,c2,c3⟩:=hb w2 k2.none;refine⟨⟨rgA (r:=t.r) A2 rfl,trivial⟩,⟨c2,trivial⟩,⟨A2.rdR (j:=0) rfl,trivial⟩,⟨c1,trivial⟩,Bx.wr0 e2,λw3 e3=>?_⟩;have B3:=(((Bx.nil w).kk k1).al2 e2 e3).2;have A3:=A.k B3.k;obtain⟨d1,d2,d3⟩:=hb w3 B3.k.none;refine⟨(((t.hh Z.me).length:Nat):Int),B3.rd (b:=w1.heap.size) (by simp),?_⟩;rcases List.eq_nil_or_concat (t.hh Z.me) with he|⟨l,f,he⟩
 .rw [he];obtain⟨P3,o3⟩:=P.more B3.k;refine AA rfl (AA rfl ⟨rest,d3,AT (H w3 t _ _ P3 (λx h=>.inl h) h0 ⟨ga,gc',hg0,GR'.k B3.k,λx h=>.inl (hgF x h)⟩ B3.k.none) λe w' hN=>(Nx.pre o3 hN).out⟩)
 rw [List.concat_eq_append] at he;have hlen:(t.hh Z.me).length=l.length+1:=by rw [he,lap];rfl
 have hll:l.length<=1024:=by
  obtain⟨fp,X⟩:=P.X;have h1:=P.inv.q.O1 (i:=Z.me);have:=X.C.n4.2.2;omega
 have hgi:(t.hh Z.me)[l.length]? = some f:=by rw [he,gar (nlr _),Nat.sub_self];rfl
 obtain⟨ip,hgf⟩:=GR'.rd (i:=l.length) (x:=(f:Int)) (by rw [gmp,hgi];rfl);refine AL (by rw [hlen];exact beq_eq_false_iff_ne.2 (by omega)) λw4 e4=>?_;have B4:=B3.dr e4;have A4:=A.k B4.k;obtain⟨f1,f2,f3⟩:=hb w4 B4.k.none;have ew:wrap .i64 ((((t.hh Z.me).length:Nat):Int)-1)=((l.length:Nat):Int):=by rw [hlen,wi (by omega)];omega
 refine AA rfl ⟨_,f1,AA rfl ⟨_,_,_,A4.rdR (j:=0) rfl,AA rfl ⟨Z.me,f2,AA rfl (Wi ⟨_,_,_,rgA (r:=t.r) A4 rfl,_,B4.rd (b:=w1.heap.size) (v:=vi (((t.hh Z.me).length:Nat):Int)) (by simp),?_⟩)⟩⟩⟩;dsimp only;rw [ew];refine AA ip (Wi ⟨f,B4.k.AV hgf id,λw5 e5=>?_⟩);have B5:=B4.dr e5;have A5:=A.k B5.k;obtain⟨g1,g2,g3⟩:=hb w5 B5.k.none;obtain⟨P5,o5⟩:=P.more B5.k;have rk5:rd w5 Z.V.b 0=some (AP Z.k):=by rw [A5.rd0,hk]
 refine AA rfl ⟨_,g1,AA rfl ⟨_,rk5,AA rfl ⟨Z.me,g2,(B5u (N:=N) hal P5 h0 he (th:=.func (.func 111) #[] #[AP bw,AP bc,AP w1.heap.size,AP br]) rfl λW t2 G2 fl2 P2 a1 a2 a3 k5=>?_).AE λe w' ⟨v,hv,hN⟩=>⟨v,hv,Nx.pre o5 hN⟩⟩⟩⟩;have kF:AB (λx=>¬F x) w W:=B5.k.none.trans (k5.AE λx _ h e=>h (.inl e)) λ_ _ h=>h;have A6:=P2.wa;have rn:rd W w1.heap.size 0=some (vi (((t.hh Z.me).length:Nat):Int)):=B5.rr k5 (b:=w1.heap.size) (by simp);refine AN.mk 111 #[] _ rfl (by kernel_rfl) (Calls.ret (vc111 fl2 (some ⟨bw,0,none⟩) (some ⟨bc,0,none⟩) (some ⟨w1.heap.size,0,none⟩) (some ⟨br,0,none⟩) W _ ?_));unfold Q;intro w7 e7;have k7:=kdr e7;have A7:=A6.k k7;obtain⟨h1,h2,h3⟩:=hb w7 (kRK (kF.trans k7.none λ_ _ h=>h));have hcc:l.length+1<=gc':=by
  rcases GR'.ex with⟨_,h0,_⟩|⟨_,_,_,_,_,h3,_⟩
  .omega
  .omega
 refine AA rfl ⟨_,h1,AA rfl ⟨_,_,_,A7.rdR (j:=0) rfl,AA rfl ⟨Z.me,h2,AA rfl ⟨_,h1,AA rfl ⟨_,_,_,A7.rdR (j:=0) rfl,AA rfl ⟨Z.me,h2,AA rfl (Wi ⟨_,_,_,rgA (r:=t2.r) A7 a3,AA rfl ⟨_,k7.AV rn id,?_⟩⟩)⟩⟩⟩⟩⟩⟩;dsimp only;rw [ew];refine AA BR (AA rfl (Wi ⟨by show wr w7 Z.V.gb (0+Int.toNat (Z.me:Int)*1);rw [eo 0];exact(A7.rdG hc).2,λw8 e8=>?_⟩));have e8:w8=st w7 Z.V.gb Z.me (.slice ga l.length gc'):=by
  have e8:w8=st w7 Z.V.gb (0+Int.toNat (Z.me:Int)*1) (.slice ga (Int.toNat ((l.length:Nat):Int)) gc'):=e8;rw [eo 0,tnc] at e8;exact e8
 obtain⟨A8,q8⟩:=A7.C66 hc e8;have k8:AB Z.V.rows W w8:=(k7.none).trans q8 λ_ _ h=>h;obtain⟨P8,o8⟩:=P2.C3p (r':=⟨upd t2.r.gt Z.me (.slice ga l.length gc'),t2.r.nn,t2.r.la,t2.r.ca⟩) (k8.AE λ_ _ h=>.inl h) A8 λj hj=>AI _ _ hj;have kk8:AB (RKp Z t F) w w8:=(kF.AE λ_ _ h=>.inl h).trans (k8.AE λ_ _ h=>.inr (.inl h)) λ_ _ h=>h;have hF:∀x,F x->((F x\/rng w w5 x)\/rng W w8 x):=λx h=>.inl (.inl h);obtain⟨_,_,h3⟩:=hb w8 kk8;refine AA rfl ⟨rest,h3,AT (H w8 _ _ _ P8 hF a1 ?_ kk8) λe w' hN=>(Nx.pre o8 hN).out⟩;have a2:t2.hh Z.me=l:=a2
 show FW _ w8 (upd t2.r.gt Z.me (.slice ga l.length gc') Z.me) (t2.hh Z.me)
 rw [a2,AF];rw [hlen,he,F6] at GR';have RI:=GR'.init;have hgF:∀x,(slice ga l.length gc').ownBlock=some x->F x:=λx h=>hgF x (by cases ga <;> exact h);refine⟨ga,gc',rfl,(RI.kx kF λx h1 h2=>h1 (hgF x h2)).kx k8 λx h1 h2=>inF x (.inr h1) (hgF x h2),λx h=>hF x (hgF x h)⟩
end
section
variable {Z:Cn}{N:Nat}{t t1 t2:SqT}{G F G2:NP}{w w1 w' W:WD}{v rest:Value}{bw bc br bp bh:Nat}{page:Int}
theorem JT.go(H:JT Z N t rest F w)(hg:FW F w (t.r.gt Z.me) (t.hh Z.me))(P:Pt Z t2 G2 F W)(hk:t2.tk Z.me=Tk.no)(hh:t2.hh Z.me=t.hh Z.me)(gt:t2.r.gt Z.me=t.r.gt Z.me)(k:AB (λx=>¬F x) w W):AN prog rest [] W (Nx Z N t2 G2 F W):=
 H W t2 G2 F P (λ_ h=>h) hk (by rw [hh,gt];exact hg.env k) (kRK k)
theorem Nx.wkC{F1:NP}{args:List Value}(h:∀x,F x->F1 x)(H:AN prog v args W (Nx Z N t G F W)):AN prog v args W (Nx Z N t G F1 W):=AT H λ_ _ hN=>hN.wk h λ_=>nlr _
def BpK(Z:Cn)(t:SqT)(F:NP)(w:WD)(bp:Nat)(v:Value):Prop:=∀W',AB (RKp Z t F) w W'->rd W' bp 0=some v
theorem A1k(P:Pt Z t G F w)(hp:0<=page) :
 Calls prog 20 #[AP Z.k,vi Z.me,vi 1,vi page] w λe w'=>∃a l cp,e=.returned (.slice a l cp)/\AB AD w w'/\BV w' w.heap.size a l cp ((D1 Z.c Z.me).map λx:Nat=>(x:Int)):=by
 obtain⟨fp,X⟩:=P.X;obtain⟨b,hb⟩:=P.inv.q.sp1;have hm:=X.C.my;rw [P.inv.c] at hm;refine(A0l X.C hb hp (cpu:=Z.me) P.cp).AE ?_;rintro _ w2 ⟨a,l,cp,rfl,k2,R⟩;rw [P.inv.c] at R;exact⟨a,l,cp,rfl,k2,by rw [(H8 hm Z.me).1];exact R⟩
theorem A1j(P:Pt Z t G F w):∀x∈D1 Z.c Z.me,x<(Z.c 0).toNat:=by
 obtain⟨fp,X⟩:=P.X;have hm:=X.C.my;rw [P.inv.c] at hm;exact (H8 hm Z.me).2.1
theorem rkk(P:Pt Z t G F w)(k:AB AD w W):rd W Z.V.b 0=some (AP Z.k):=by rw [(P.wa.k k).rd0,P.ok.k]
set_option maxHeartbeats 2000000 in
theorem B86(P:Pt Z t G F w)(hal:¬Z.al)(h0:t.tk Z.me=Tk.no)(hg:FW F w (t.r.gt Z.me) (t.hh Z.me))(hb:BxK Z t F w bw bc br rest)(hbp:BpK Z t F w bp (vi page))(H:JT Z N t rest F w){fl:Bool} :
 AN prog (.func (.func 116) #[] #[AP bw,AP bp,AP bc,AP br]) [.bool fl] w (Nx Z N t G F w):=by
 obtain⟨fp,X⟩:=P.X;have hn:=X.C.n4;refine AN.mk 116 #[] _ rfl (by kernel_rfl) (Calls.ret (vc116 fl (some ⟨bw,0,none⟩) (some ⟨bp,0,none⟩) (some ⟨bc,0,none⟩) (some ⟨br,0,none⟩) w _ ?_));have rt:∀{W':WD}{j:Nat}{v:Value},AB AD w W'->(GL t.S)[j]? = some v->rd W' Z.k (0+(94+j))=some v:=λk hj=>X.C.rtW k hj;obtain⟨bb,mb,Mm,_⟩:=X.C.mem;unfold Q;refine AA rfl ⟨_,(hb w kr).1,AA rfl ⟨_,rkk P kr,AA rfl ⟨_,by have:=rt kr (j:=0) rfl;exact this,(IF Mm).AE ?_⟩⟩⟩;rintro _ wx ⟨rfl,hwx⟩;rw [hwx];refine⟨_,rfl,λv d W N'=>v=.nilFunc/\∃j:Nat,d=j/\j<=t.S.n/\N'=t.S.n-j/\AB AD w W,⟨_,rfl,0,rfl,Nat.zero_le _,rfl,AB.refl _ _⟩,?_⟩;rintro _ _ W _ ⟨rfl,j,rfl,hj,rfl,kW⟩;refine AH (λhc=>?_) (λhc=>?_)
 .have hjn:j<t.S.n:=by simpa using hc
  refine AA rfl ⟨_,(hb W kW.none).1,AA rfl ⟨_,rkk P kW,AA rfl ⟨_,by have:=rt kW (j:=4) rfl;exact this,(KT (X.C.k kW) hjn).AE ?_⟩⟩⟩;rintro _ W2 ⟨rfl,k2⟩;have kW2:=kW.tr k2;refine⟨_,_,_,rfl,AJ (λ_=>rfl) ⟨page,(λ_=>hbp W2 kW2.none),AH (λhc2=>λW3 e3=>?_) (λhc2=>?_)⟩⟩
  .have kW3:=kW2.tr (kr.dr e3);obtain⟨c1,c2,c3⟩:=hb W3 kW3.none;obtain⟨P3,o3⟩:=P.mv P.inv rfl (X.mv0 kW3) rfl (Oth.refl _ _);refine AA rfl ⟨_,c1,AA rfl ⟨_,rkk P kW3,AA rfl ⟨Z.me,c2,?_⟩⟩⟩;have fin:∀W4 t4 G4 (ok:Bool),Pt Z t4 G4 F W4->t4.tk Z.me=Tk.no->t4.hh Z.me=t.hh Z.me->t4.r.gt Z.me=t.r.gt Z.me->AB (λx=>¬F x) W3 W4->AN prog (.func (.func 119) #[] #[AP br]) [.bool ok] W4 (Nx Z N t4 G4 F W4):=λW4 t4 G4 ok P4 a1 a2 a3 k4=>by
    have kk:AB (λx=>¬F x) w W4:=kW3.none.trans k4 λ_ _ h=>h;refine AN.mk 119 #[] _ rfl (by kernel_rfl) (Calls.ret (vc119 ok (some ⟨br,0,none⟩) W4 _ ?_));unfold Q;exact AA rfl ⟨rest,(hb W4 (kRK kk)).2.2,AT (H.go hg P4 a1 a2 a3 kk) λe w' hN=>hN.out⟩
   exact (A3s P3 h0 hjn rfl ⟨λW4 t4 G4 P4 m4 _ k4=>fin W4 t4 G4 false P4 (m4.1.1.trans h0) m4.1.2.1 m4.1.2.2.1 k4,λW4 t4 G4 P4 a1 a2 a3 _ _ k4=>fin W4 t4 G4 true P4 a1 a2 a3 k4⟩).AE λe w' ⟨v,hv,hN⟩=>⟨v,hv,Nx.pre o3 (hN.le λa=>absurd a hal)⟩
  .exact⟨t.S.n-(j+1),by omega,rfl,j+1,wzz,hjn,rfl,kW2⟩
 .obtain⟨P3,o3⟩:=P.mv P.inv rfl (X.mv0 kW) rfl (Oth.refl _ _);exact AA rfl ⟨rest,(hb W kW.none).2.2,AT (H.go hg P3 h0 rfl rfl kW.none) λe w' hN=>(Nx.pre o3 hN).out⟩
set_option maxHeartbeats 2000000 in
theorem B36(P:Pt Z t G F w)(hal:¬Z.al)(hp:0<=page)(h0:t.tk Z.me=Tk.no)(hg:FW F w (t.r.gt Z.me) (t.hh Z.me))(hb:BxK Z t F w bw bc br rest)(hbp:BpK Z t F w bp (vi page))(hbh:BpK Z t F w bh (.func (.func 106) #[] #[AP bw,AP bc,AP br]))(H:JT Z N t rest F w){fl:Bool} :
 AN prog (.func (.func 120) #[] #[AP bw,AP bc,AP bp,AP bh]) [.bool fl] w (Nx Z N t G F w):=by
 refine AN.mk 120 #[] _ rfl (by kernel_rfl) (Calls.ret (vc120 fl (some ⟨bw,0,none⟩) (some ⟨bc,0,none⟩) (some ⟨bp,0,none⟩) (some ⟨bh,0,none⟩) w _ ?_));unfold vcP120;intro w1 e1;have k1:=kdr e1;obtain⟨b1,b2,b3⟩:=hb w1 k1.none;obtain⟨P1,o1⟩:=P.more k1;refine AA rfl ⟨_,b1,AA rfl ⟨_,rkk P k1,AA rfl ⟨Z.me,b2,AA rfl ⟨_,b1,AA rfl ⟨_,rkk P k1,AA rfl ⟨Z.me,b2,AA rfl ⟨page,hbp w1 k1.none,AA rfl ⟨_,hbh w1 k1.none,(A1k P1 hp).AE ?_⟩⟩⟩⟩⟩⟩⟩⟩;rintro _ w2 ⟨a,l,cp,rfl,k12,R2⟩;have k2:=k1.tr k12;obtain⟨c1,c2,c3⟩:=hb w2 k2.none;obtain⟨P2,o2⟩:=P.more k2;have hF:∀x,F x->(F x\/rng w w2 x):=λx h=>.inl h;have R:Nds w2 (λx=>F x\/rng w w2 x) a l cp (D1 Z.c Z.me):=R2.nds λb h1 h2=>.inr ⟨by have:=k1.sz;omega,h2⟩;have toF:∀{W:WD},AB (λx=>¬(F x\/rng w w2 x)) w2 W->AB (λx=>¬F x) w W:=λkk=>k2.none.trans (kk.AE λx _ h e=>h (.inl e)) λ_ _ h=>h;refine⟨a,l,cp,rfl,⟨hbh w2 k2.none,trivial⟩,⟨c2,trivial⟩,⟨rkk P k2,trivial⟩,⟨c1,trivial⟩,?_⟩;refine(A91 (N:=N) rfl (D1 Z.c Z.me) P2 h0 R (λx h=>by unfold AR.AK;rw [P.inv.c];exact A1j P x h) (λW t3 G3 P3 m3 _ k3=>?_) (λW t3 G3 f P3 T3 k3=>?_)).AE λe w' ⟨v,hv,hN⟩=>⟨v,hv,Nx.pre o2 (hN.le λa=>absurd a hal)⟩
 .have kk:=toF k3;have gt3:=m3.1.2.2.1;refine Nx.wkC hF (had0 (P3.less hF) (m3.1.1.trans h0) (by rw [gt3,m3.1.2.1];exact hg.env kk) (hb.later gt3 (kRK kk)) (H.later gt3 (kRK kk)))
 .have kk:=toF k3;have gt3:=T3.gt;exact Nx.wkC hF (had1 (A1j P) (P3.less hF) T3 (by rw [gt3];exact hg.env kk) (hb.later gt3 (kRK kk)) (H.later gt3 (kRK kk)))
set_option maxHeartbeats 2000000 in
theorem B04(P:Pt Z t G F w)(hal:¬Z.al)(hp:0<=page)(h0:t.tk Z.me=Tk.no)(hg:FW F w (t.r.gt Z.me) (t.hh Z.me))(hb:BxK Z t F w bw bc br rest)(hbp:BpK Z t F w bp (vi page))(H:JT Z N t rest F w){fl:Bool} :
 AN prog (.func (.func 122) #[] #[AP bw,AP bc,AP bp,AP br]) [.bool fl] w (Nx Z N t G F w):=by
 refine AN.mk 122 #[] _ rfl (by kernel_rfl) (Calls.ret (vc122 fl (some ⟨bw,0,none⟩) (some ⟨bc,0,none⟩) (some ⟨bp,0,none⟩) (some ⟨br,0,none⟩) w _ ?_));have hn:=P.wa.n16;have hc:=P.ok.me;unfold Q;intro w1 e1;have k1:=kdr e1;obtain⟨b1,b2,b3⟩:=hb w1 k1.none;obtain⟨P1,o1⟩:=P.more k1;refine AA rfl ⟨_,b1,AA rfl ⟨_,rkk P k1,AA rfl ⟨Z.me,b2,AA rfl ⟨_,b1,AA rfl ⟨_,rkk P k1,AA rfl ⟨Z.me,b2,AA rfl ⟨page,hbp w1 k1.none,(A1k P1 hp).AE ?_⟩⟩⟩⟩⟩⟩⟩;rintro _ w2 ⟨a,l,cp,rfl,k12,R2⟩;have k2:=k1.tr k12;obtain⟨c1,c2,c3⟩:=hb w2 k2.none;obtain⟨P2,o2⟩:=P.more k2;have hF:∀x,F x->(F x\/rng w w2 x):=λx h=>.inl h;have R:Nds w2 (λx=>F x\/rng w w2 x) a l cp (D1 Z.c Z.me):=R2.nds λb h1 h2=>.inr ⟨by have:=k1.sz;omega,h2⟩;have toF:∀{W:WD},AB (λx=>¬(F x\/rng w w2 x)) w2 W->AB (λx=>¬F x) w W:=λkk=>k2.none.trans (kk.AE λx _ h e=>h (.inl e)) λ_ _ h=>h;have fin:∀W t3 G3 (g:Int),Pt Z t3 G3 (λx=>F x\/rng w w2 x) W->t3.tk Z.me=Tk.no->t3.hh Z.me=t.hh Z.me->t3.r.gt Z.me=t.r.gt Z.me->AB (λx=>¬(F x\/rng w w2 x)) w2 W->AN prog (.func (.func 124) #[] #[AP bw,AP bc,AP br]) [vi g] W (Nx Z N t3 G3 (λx=>F x\/rng w w2 x) W):=λW t3 G3 g P3 a1 a2 a3 k3=>by
  have kk:=toF k3;refine AN.mk 124 #[] _ rfl (by kernel_rfl) (Calls.ret (vc124 g (some ⟨bw,0,none⟩) (some ⟨bc,0,none⟩) (some ⟨br,0,none⟩) W _ ?_));unfold Q;intro w3 e3;have q3:=kdr e3;have A3:=P3.wa.k q3;obtain⟨d1,d2,d3⟩:=hb w3 (kRK (kk.trans q3.none λ_ _ h=>h));refine AA rfl ⟨_,d1,AA rfl ⟨_,_,_,A3.rdR (j:=3) rfl,AA rfl ⟨Z.me,d2,AA rfl (Wi ⟨by rw [tnc,mo];show wr w3 Z.V.cb (0+Z.me);rw [za];exact(A3.rdC hc).2,λw4 e4=>?_⟩)⟩⟩⟩;have e4:w4=st w3 Z.V.cb Z.me (vi g):=by
   have e4:w4=st w3 Z.V.cb (0+Int.toNat (Z.me:Int)*1) (vi g):=e4;rw [tnc,mo,za] at e4;exact e4
  obtain⟨A4,q4⟩:=A3.C3r hc e4;have k4:AB Z.V.rows W w4:=q3.none.trans q4 λ_ _ h=>h;obtain⟨P4,o4⟩:=P3.C3p (r':=⟨t3.r.gt,t3.r.nn,t3.r.la,upd t3.r.ca Z.me g⟩) (k4.AE λ_ _ h=>.inl h) A4 λ_ _=>rfl;have kk4:AB (RKp Z t F) w w4:=(kRK kk).trans (k4.AE λ_ _ h=>.inr (.inl h)) λ_ _ h=>h;have kF4:AB (λx=>¬F x) w w4:=kk.trans (k4.AE λx _ h e=>P.gr x (.inl (.inr h)) (P.fg x e)) λ_ _ h=>h;refine AA rfl ⟨rest,(hb w4 kk4).2.2,AT (H w4 _ _ _ P4 (λx h=>.inl (.inl h)) a1 ?_ kk4) λe w' hN=>(Nx.pre o4 hN).out⟩
  show FW _ w4 (t3.r.gt Z.me) (t3.hh Z.me)
  rw [a2,a3];exact (hg.env kF4).wk λx h=>.inl (.inl h)
 refine⟨a,l,cp,rfl,⟨c2,trivial⟩,⟨rkk P k2,trivial⟩,⟨c1,trivial⟩,?_⟩;exact(A1e (N:=N) (ln:=λ_=>0) rfl (D1 Z.c Z.me) P2 h0 R (λx h=>by unfold AR.AK;rw [P.inv.c];exact A1j P x h) (λa=>absurd a hal) ⟨λW t3 G3 P3 s3 _ k3=>fin W t3 G3 0 P3 (s3.1.1.trans h0) s3.1.2.1 s3.1.2.2.1 k3,λW t3 G3 P3 o3 k3=>fin W t3 G3 1 P3 o3.tk o3.hh o3.gt k3⟩).AE λe w' ⟨v,hv,hN⟩=>⟨v,hv,Nx.pre o2 (hN.le λa=>absurd a hal)⟩
end
section
variable {w w':WD}{k:Nat}{S:AR}{fp:Prt->Nat->Prop}
theorem A7x(h:AO w k S fp)(hi:i<S.AK):Calls prog 26 #[AP S.pz,vi i] w λe w'=>∃n:Int,e=.returned (vi n)/\w'=w/\(n=3↔S.c 93<(BD (S.L i):Int)):=by
 obtain⟨Z,hc,hk⟩:=h.zn;have hm:S.c 91<=S.c 92/\S.c 92<=S.c 93:=h.my.2.2.2.2.2.2.2.2;refine(vc26 (some ⟨S.pz,0,none⟩) i w (λv w'=>∃n:Int,v=vi n/\w'=w/\(n=3↔S.c 93<(BD (S.L i):Int))) ?_).AE ?_
 .unfold Q;refine(KU h hi).AE ?_;rintro _ wx ⟨rfl,hwx⟩;rw [hwx];refine⟨_,rfl,?_⟩;have r:=λ{j:Nat} (hj:j<94)=>Z.r hj;rw [hc] at r;refine AJ (λ_=>rfl) ⟨_,_,_,(λ_=>by show rd w S.pz (0+94)=_;rw [za];exact Z.r94),AJ (λ_=>rfl) ⟨_,_,_,(λ_=>by show rd w S.pz (0+94)=_;rw [za];exact Z.r94),AJ (λ_=>rfl) ⟨_,(λ_=>by show rd w S.pz (0+91)=_;rw [za];exact r (by decide)),AH (λh1=>?_) (λh1=>?_)⟩⟩⟩
  .refine⟨0,rfl,rfl,?_⟩;have:(BD (S.L i):Int)<=S.c 91:=by
    have e:(decide ((i:Int)>=0)&&decide ((i:Int)<(S.Z.k:Int)))=true:=by simp;omega
    simpa [show(i:Int)<(S.Z.k:Int) by omega] using h1
   omega
  .refine AA rfl ⟨_,by show rd w S.pz (0+92)=_;rw [za];exact r (by decide),AH (λh2=>?_) (λh2=>?_)⟩
   .have h2:(BD (S.L i):Int)<=S.c 92:=by simpa using h2
    exact⟨1,rfl,rfl,by omega⟩
   .refine AA rfl ⟨_,by show rd w S.pz (0+93)=_;rw [za];exact r (by decide),AH (λh3=>?_) (λh3=>?_)⟩
    .have h3:(BD (S.L i):Int)<=S.c 93:=by simpa using h3
     exact⟨2,rfl,rfl,by omega⟩
    .have h3:S.c 93<(BD (S.L i):Int):=by simpa using h3
     exact⟨3,rfl,rfl,by omega⟩
 .rintro e w' ⟨v,rfl,n,rfl,h⟩;exact⟨n,rfl,h⟩
end
def B0p(bl bk bn be bc br:Nat):Value:=.func (.func 189) #[] #[AP bl,AP bk,AP bn,AP be,AP bc,AP br]
structure SwB(Z:Cn)(W:WD)(F:NP)(node bl bk bn be bc br bd:Nat)(left:Nat):Prop where
 l:AX W bl [vi left]
 k:rd W bk 0=some (AP Z.k)
 n:rd W bn 0=some (vi node)
 e:rd W be 0=some (.func (.func 114) #[] #[AP bd])
 c:rd W bc 0=some (vi Z.me)
 r:rd W br 0=some (B0p bl bk bn be bc br)
 d:AX W bd [.bool false]
 inF:F bl/\F bk/\F bn/\F be/\F bc/\F br/\F bd
 ne:bk≠bl/\bn≠bl/\be≠bl/\bc≠bl/\br≠bl/\bd≠bl
section
variable {Z:Cn}{N:Nat}{t t1 t2:SqT}{G F G2:NP}{w w1 w' W:WD}{node bl bk bn be bc br bd left:Nat}
theorem SwB.to(B:SwB Z w F node bl bk bn be bc br bd left){G:NP}(kk:AB (λx=>¬F x) w w')(hG:∀x,F x->G x):SwB Z w' G node bl bk bn be bc br bd left:=by
 obtain⟨f1,f2,f3,f4,f5,f6,f7⟩:=B.inF;exact⟨B.l.kx kk λh=>h f1,kk.AV B.k λh=>h f2,kk.AV B.n λh=>h f3,kk.AV B.e λh=>h f4,kk.AV B.c λh=>h f5,kk.AV B.r λh=>h f6,B.d.kx kk λh=>h f7,⟨hG _ f1,hG _ f2,hG _ f3,hG _ f4,hG _ f5,hG _ f6,hG _ f7⟩,B.ne⟩
theorem SwB.put(B:SwB Z w F node bl bk bn be bc br bd left){n:Nat}(e:w'=st w bl 0 (vi (n:Nat))):SwB Z w' F node bl bk bn be bc br bd n/\AB (·=bl) w w':=by
 have kk:AB (·=bl) w w':=kr.s1 e (.inl rfl);obtain⟨n1,n2,n3,n4,n5,n6⟩:=B.ne;exact⟨⟨B.l.s1 e,kk.AV B.k n1,kk.AV B.n n2,kk.AV B.e n3,kk.AV B.c n4,kk.AV B.r n5,B.d.kx kk n6,B.inF,B.ne⟩,kk⟩
theorem Pt.AX(P:Pt Z t G F w)(kk:AB F w w'):Pt Z t G F w'/\Mo Z t G F w t G F w':=by
 obtain⟨fp,X⟩:=P.X;exact P.go P.inv ⟨fp,X.E5 (kk.AE λx _ h=>.inl (P.fg x h))⟩ (kk.AE λ_ _ h=>.inr h) rfl (Oth.refl _ _)
theorem B8g(o:AX w bl [vi (x:Nat)])(hF:F bl):Nds w F (some ⟨bl,0,none⟩) 1 1 [x]:=
 ⟨rfl,nlr _,by decide,λ_=>⟨bl,0,rfl,hF,λi y hy=>by
  cases i with
  | zero=>cases hy;rw [o.rd];rfl
  | succ i=>cases hy⟩⟩
set_option maxHeartbeats 2000000 in
theorem B8t(hal:¬Z.al)(hn:node<(Z.c 0).toNat){hh0:List Nat}{gt0:Value}(hQ:∀(t:SqT) (F:NP) (w:WD),t.tk Z.me=Tk.no->t.hh Z.me=hh0->t.r.gt Z.me=gt0->F bd->rd w bd 0=some (.bool true)->Z.Q t F w):∀(left:Nat) {t:SqT}{F:NP}{w:WD},left<=100000->SwB Z w F node bl bk bn be bc br bd left->t.tk Z.me=Tk.no->t.hh Z.me=hh0->t.r.gt Z.me=gt0->RunT Z 0 t (B0p bl bk bn be bc br) F w:=by
 intro left
 induction left using Nat.strongRecOn with
 | ind left ih=>
 intro t F w hle B h0 hh hgt;refine RunT.le (N:=1) (λa=>absurd a hal) (RunT.step rfl λW t1 G fl P1 m1 k1 _=>?_);have B1:=B.to k1 λ_ h=>h;have T1:t1.tk Z.me=Tk.no:=m1.1.1.trans h0;have H1:t1.hh Z.me=hh0:=m1.1.2.1.trans hh;have G1:t1.r.gt Z.me=gt0:=m1.1.2.2.1.trans hgt;obtain⟨fp,X⟩:=P1.X;have hnn:node<t1.S.AK:=by unfold AR.AK;rw [P1.inv.c];exact hn
 have fin:∀W',AB AD W W'->AN prog (.func (.func 114) #[] #[AP bd]) [] W' λe w'=>e=.returned (.tuple #[])/\Nx Z 0 t1 G F W (.returned .nilFunc) w':=λW' kW=>by
  have B2:=B1.to (G:=F) kW.none λ_ h=>h;refine AN.mk 114 #[] _ rfl (by kernel_rfl) ((vc114 (some ⟨bd,0,none⟩) W' (λv w'=>v=.tuple #[]/\Nx Z 0 t1 G F W (.returned .nilFunc) w') ?_).AE ?_)
  .unfold Q;refine AA rfl ⟨B2.d.wr Nat.zero_lt_one,λw2 e2=>⟨rfl,?_⟩⟩;have e2:w2=st W' bd 0 (.bool true):=e2;have kd:AB (·=bd) W' w2:=kr.s1 e2 (.inl rfl);have od:=B2.d.s1 e2;obtain⟨P2,o2⟩:=P1.AX (w':=w2) (kW.none.trans (kd.AE λx _ e=>e▸B1.inF.2.2.2.2.2.2) λ_ _ h=>h);refine⟨.nilFunc,t1,F,G,rfl,rfl,P2,o2,RunT.nil λt2 w' m k=>hQ t2 F w' (m.1.1.trans T1) (m.1.2.1.trans H1) (m.1.2.2.1.trans G1) B1.inF.2.2.2.2.2.2 ?_⟩;rw [(od.kx k λh=>h B1.inF.2.2.2.2.2.2).rd];rfl
  .rintro e w' ⟨v,rfl,rfl,h⟩;exact⟨rfl,h⟩
 refine AN.mk 189 #[] _ rfl (by kernel_rfl) (Calls.ret (vc189 fl (some ⟨bl,0,none⟩) (some ⟨bk,0,none⟩) (some ⟨bn,0,none⟩) (some ⟨be,0,none⟩) (some ⟨bc,0,none⟩) (some ⟨br,0,none⟩) W _ ?_));unfold Q;intro x1 d1;have kx:=kdr d1;have Bx1:=B1.to (G:=F) kx.none λ_ h=>h;refine AA rfl ⟨left,by show rd x1 bl 0=_;rw [Bx1.l.rd];rfl,AJ (λ_=>rfl) ⟨some ⟨Z.k,0,none⟩,(λ_=>Bx1.k),AJ (λ_=>rfl) ⟨some ⟨t1.S.pz,0,none⟩,(λ_=>by have:=X.C.rtW kx (j:=1) rfl;exact this),AJ (λ_=>rfl) ⟨node,(λ_=>Bx1.n),AH (λhc=>?_) (λhc=>?_)⟩⟩⟩⟩
 .refine AA rfl ⟨_,Bx1.e,AT (fin x1 kx) ?_⟩;rintro e w' ⟨rfl,hN⟩;exact⟨rfl,hN⟩
 have hl1:1<=left:=by
  have:¬((left:Int)=0):=by simpa using hc
  omega
 refine(A7x (X.C.k kx) hnn).AE ?_;rintro _ wx ⟨n3,rfl,hwx,_⟩;rw [hwx];refine⟨n3,rfl,AH (λhc3=>?_) (λhc3=>?_)⟩
 .refine AA rfl ⟨_,Bx1.e,AT (fin x1 kx) ?_⟩;rintro e w' ⟨rfl,hN⟩;exact⟨rfl,hN⟩
 refine AA rfl ⟨left,by show rd x1 bl 0=_;rw [Bx1.l.rd];rfl,AA rfl ⟨Bx1.l.wr Nat.zero_lt_one,λx2 d2=>?_⟩⟩;have el:wrap .i64 ((left:Int)-1)=((left-1:Nat):Int):=by rw [wi (by omega)];omega
 rw [el] at d2;obtain⟨B2,k2⟩:=Bx1.put (n:=left-1) d2;have kF2:AB F W x2:=kx.none.trans (k2.AE λx _ e=>e▸B1.inF.1) λ_ _ h=>h;obtain⟨P2,o2⟩:=P1.AX kF2;refine AA rfl ⟨_,B2.k,AA rfl ⟨Z.me,B2.c,AA rfl ⟨node,B2.n,λx3 d3=>?_⟩⟩⟩;have ox:=AG d3;have k3:=kal d3;obtain⟨P3,o3⟩:=P2.more k3;have hF:∀x,F x->(F x\/rng x2 x3 x):=λx h=>.inl h;have B3:=B2.to (G:=λx=>F x\/rng x2 x3 x) k3.none hF;have R3:=B8g (F:=λx=>F x\/rng x2 x3 x) ox (.inr ⟨nlr _,ox.lt⟩);refine(A1e (N:=0) (ln:=λ_=>0) (th:=.func (.func 190) #[] #[AP bl,AP br]) rfl [node] P3 T1 R3 (λx h=>by rw [List.mem_singleton.1 h];exact hnn) (λa=>absurd a hal) ⟨λW4 t4 G4 P4 s4 _ k4=>?_,λW4 t4 G4 P4 s4 k4=>?_⟩).AE λe w' ⟨v,hv,hN⟩=>⟨v,hv,Nx.pre (o2.tr o3) (hN.le λa=>absurd a hal)⟩
 .have B4:=B3.to k4 λ_ h=>h;refine AN.mk 190 #[] _ rfl (by kernel_rfl) (Calls.ret (vc190 0 (some ⟨bl,0,none⟩) (some ⟨br,0,none⟩) W4 _ ?_));unfold Q;refine AA rfl (AA rfl ⟨B4.l.wr Nat.zero_lt_one,λx5 d5=>?_⟩);obtain⟨B5,k5⟩:=B4.put (n:=0) d5;obtain⟨P5,o5⟩:=P4.AX (k5.AE λx _ e=>e▸B4.inF.1);exact AA rfl ⟨_,B5.r,_,t4,_,_,rfl,rfl,P5,o5,ih 0 (by omega) (by omega) B5 (s4.1.1.trans T1) (s4.1.2.1.trans H1) (s4.1.2.2.1.trans G1)⟩
 .have B4:=B3.to k4 λ_ h=>h;refine AN.mk 190 #[] _ rfl (by kernel_rfl) (Calls.ret (vc190 1 (some ⟨bl,0,none⟩) (some ⟨br,0,none⟩) W4 _ ?_));unfold Q;exact AL rfl (AA rfl ⟨_,B4.r,_,t4,_,_,rfl,rfl,P4,Mo.wk λ_ h=>h,ih (left-1) (by omega) (by omega) B4 s4.tk (s4.hh.trans H1) (s4.gt.trans G1)⟩)
end
section
variable {Z:Cn}{Q Qi:SqT->(NP)->WD->Prop}{N:Nat}{t t1 t2:SqT}{G F G2 F2:NP}{w w1 w' w0 W:WD}{node bl bk bn be bc br bd left:Nat}
theorem Pt.q(P:Pt Z t G F w):Pt {Z with Q:=Q} t G F w:=⟨⟨P.inv.q,P.inv.c,P.inv.pl,P.inv.ls,P.inv.no,P.inv.al⟩,P.X,P.wa,P.gr,P.fg,⟨P.ok.k,P.ok.n,P.ok.me,P.ok.ls,P.ok.ro,P.ok.rl,P.ok.rr,P.ok.nd⟩,P.ro⟩
theorem Pt.unq(P:Pt {Z with Q:=Q} t G F w):Pt Z t G F w:=⟨⟨P.inv.q,P.inv.c,P.inv.pl,P.inv.ls,P.inv.no,P.inv.al⟩,P.X,P.wa,P.gr,P.fg,⟨P.ok.k,P.ok.n,P.ok.me,P.ok.ls,P.ok.ro,P.ok.rl,P.ok.rr,P.ok.nd⟩,P.ro⟩
set_option maxHeartbeats 1000000 in
theorem A5o(hal:¬Z.al){after:Value}{Fk:NP}(ho:okF after=true)(hk:∀x,Fk x->x<w0.heap.size)
 (HA:∀n W t1 F F1,Qi t1 F W->(∀x,F x->F1 x)->(∀x,Fk x->F1 x)->AB (λx=>¬Fk x) w0 W->Safe Z n t1 after F1 W) :
 ∀n {t:SqT}{v:Value}{F F1:NP}{w:WD}{bs ba:Nat},Safe {Z with Q:=Qi} n t v F w->isF v=true->(∀x,F x->F1 x)->(∀x,Fk x->F1 x)->F1 bs->F1 ba->(∀x,F x->¬Fk x)->¬F bs->¬F ba->rd w bs 0=some v->rd w ba 0=some after->AB (λx=>¬Fk x) w0 w->Safe Z n t (.func (.func 191) #[] #[AP bs,AP ba]) F1 w:=by
 intro n
 induction n with
 | zero=>intros;exact .inl hal
 | succ n ih=>
  intro t v F F1 w bs ba S hv hF hFk f1 f2 hd n1 n2 r1 r2 k0;rcases S with⟨e,_⟩|⟨_,h2⟩
  .rw [e] at hv;cases hv
  refine .inr ⟨rfl,λW t1 G fl P1 m1 k1 hfl=>?_⟩;refine AN.mk 191 #[] _ rfl (by kernel_rfl) (Calls.ret (vc191 fl (some ⟨bs,0,none⟩) (some ⟨ba,0,none⟩) W _ ?_));apply qI;intro d ed;have kd:=kdr ed;obtain⟨fp,X⟩:=P1.X;obtain⟨Pd,od⟩:=P1.mv P1.inv rfl (X.mv0 kd) rfl (Oth.refl _ _);have k1d:AB (λx=>¬F1 x) w d:=k1.trans kd.none λ_ _ h=>h;have ra:rd d ba 0=some after:=k1d.AV r2 λh=>h f2;refine AA rfl ⟨v,k1d.AV r1 λh=>h f1,AA rfl ⟨after,ra,AT (h2 d t1 G fl (Pd.less hF).q m1 (k1d.AE λx _ h e=>h (hF x e)) hfl) ?_⟩⟩;rintro e W' ⟨v',t',F',G',rfl,ok',P',mo,S'⟩;have ra':rd W' ba 0=some after:=mo.k.AV ra λh=>h.elim (λh=>h.1 (P1.fg _ f2)) n2;refine⟨v',rfl,⟨ra',trivial⟩,?_⟩;have PU:=P'.unq;have P2:Pt Z t' G' (λx=>F' x\/F1 x) W':=⟨PU.inv,PU.X,PU.wa,PU.gr,λx h=>h.elim (PU.fg x) λh=>mo.g x (P1.fg x h),PU.ok,PU.ro⟩;have o2:Mo Z t1 G F1 d t' G' (λx=>F' x\/F1 x) W':=⟨mo.k.AE λx _ h=>h.imp id (hF x),mo.g,mo.g2,λx h=>h.elim (λh=>(mo.f x h).imp (hF x) id) .inl,mo.o⟩;refine Calls.ret (vc115 v' after W' _ ?_);apply qI;rw [show Value.cells v'=[v'].toArray from DG ok',show Value.cells after=[after].toArray from DG ho];intro w1 e1 w2 e2;have B:=((Bx.nil W').al e1).al e2;obtain⟨P3,o3⟩:=P2.more B.k;have OO:=(od.tr o2).tr o3;have kk:AB (λx=>¬Fk x) w0 w2:=((k0.oo (k1d.AE λx _ h e=>h (hFk x e))).oo (mo.k.AE λx _ h e=>h.elim (λh=>h.1 (P1.fg x (hFk x e))) λh=>hd x h e)).trans B.k.none λ_ _ h=>h;refine⟨v',B.rd (b:=W'.heap.size) (by simp),AA ok' (AH (λhc=>?_) (λhc=>?_))⟩
  .refine⟨after,B.rd (b:=w1.heap.size) (by simp),after,rfl,after,t',_,_,rfl,ho,P3,OO,?_⟩
   cases n with
   | zero=>exact .inl hal
   | succ n=>
    rcases S' with⟨_,h⟩|⟨h,_⟩
    .exact HA _ w2 t' F' _ (h t' w2 (E7.refl _ _) B.k.none) (λx h=>.inl (.inl h)) (λx h=>.inl (.inr (hFk x h))) kk
    .rw [h] at hc;cases hc
  .have hs1:=B.k.sz;have l1:w1.heap.size<w2.heap.size:=(B.o w1.heap.size after (by simp)).1.lt;have l0:W'.heap.size<w2.heap.size:=(B.o W'.heap.size v' (by simp)).1.lt;have l2:W'.heap.size<=w1.heap.size:=(B.o w1.heap.size after (by simp)).2;refine⟨_,rfl,_,t',_,_,rfl,rfl,P3,OO,ih (S'.env B.k.none) (by simpa using hc) (λx h=>.inl (.inl h)) (λx h=>.inl (.inr (hFk x h))) (.inr ⟨nlr _,l0⟩) (.inr ⟨l2,l1⟩) (λx h=>?_) (λh=>by have:=PU.lt h;omega) (λh=>by have:=PU.lt h;omega) (B.rd (b:=W'.heap.size) (by simp)) (B.rd (b:=w1.heap.size) (by simp)) kk⟩;rcases mo.f x h with h|h
   .exact hd x h
   .intro e;have:=hk x e;have:=h.1;have:=(k0.trans (k1d.AE λx _ h e=>h (hFk x e)) λ_ _ h=>h).sz;omega
theorem B12(P:Pt Z t G F w)(hn:node<(Z.c 0).toNat)(od:AX w bd [.bool false]) :
 Calls prog 113 #[AP Z.k,vi Z.me,vi node,.func (.func 114) #[] #[AP bd]] w λe w'=>∃bl bk bn be bc br left,e=.returned (B0p bl bk bn be bc br)/\AB AD w w'/\left<=256/\∀F2:NP,(∀x,(rng w w' x\/x=bd)->F2 x)->SwB Z w' F2 node bl bk bn be bc br bd left:=by
 obtain⟨fp,X⟩:=P.X;have hnn:node<t.S.AK:=by unfold AR.AK;rw [P.inv.c];exact hn
 have hfi:=X.C.fst hnn;have hs:=X.C.BQ;refine Calls.ret (vc113 _ Z.me node _ w _ ?_);apply qI;rw [show Value.cells (.func (.func 114) #[] #[AP bd])=[Value.func (.func 114) #[] #[AP bd]].toArray from DG rfl];intro w1 e1 w2 e2 w3 e3 w4 e4 w5 e5;have B5:=(((((Bx.nil w).al e1).al e2).al e3).al e4).dr e5;have rc:∀{W:WD},AB AD w W->rd W Z.k (0+18+Int.toNat (node:Int)*1)=some (vi (t.S.c (18+node))):=λkk=>by
  obtain⟨o,_⟩:AX _ Z.k (cfg t.S.c++GL t.S)/\_:=(X.C.k kk).at' .core;rw [tnc,mo,za,o.rd,gal (by simp [cfg,AM];omega)];unfold cfg;rw [AZ _ _ _ _ _ (by omega),za]
 refine⟨_,B5.rd (b:=w.heap.size) (v:=AP Z.k) (by simp),_,B5.rd (b:=w2.heap.size) (v:=vi (node:Nat)) (by simp),AA rfl (Wi ⟨_,rc B5.k,λw6 e6=>?_⟩)⟩;have B6:=B5.kk (kr.al e6);refine⟨⟨rc B6.k,trivial⟩,⟨B6.rd (b:=w2.heap.size) (v:=vi (node:Nat)) (by simp),trivial⟩,⟨B6.rd (b:=w.heap.size) (v:=AP Z.k) (by simp),trivial⟩,Bx.wr0 e6,λw7 e7=>?_⟩;have ew:wrap .i64 (2*t.S.c (18+node))=((2*(t.S.c (18+node)).toNat:Nat):Int):=by rw [wi (by omega)];omega
 rw [ew] at e7;have B7:=(B5.al2 e6 e7).2;intro w8 e8;refine⟨Bx.wr0 e8,λw9 e9=>?_⟩;have B9:=(B7.al2 e8 e9).2;refine⟨_,B9.rd (b:=w7.heap.size) (v:=B0p w5.heap.size w.heap.size w2.heap.size w3.heap.size w1.heap.size w7.heap.size) (by simp [B0p]),w5.heap.size,w.heap.size,w2.heap.size,w3.heap.size,w1.heap.size,w7.heap.size,2*(t.S.c (18+node)).toNat,rfl,B9.k,by omega,λF2 hF=>?_⟩;have o:=λ{b:Nat}{v:Value} (hm:(b,v)∈_)=>B9.o b v hm;have ol:=o (b:=w5.heap.size) (v:=vi ((2*(t.S.c (18+node)).toNat:Nat):Int)) (by simp);have ok:=o (b:=w.heap.size) (v:=AP Z.k) (by simp);have on:=o (b:=w2.heap.size) (v:=vi (node:Nat)) (by simp);have oe:=o (b:=w3.heap.size) (v:=.func (.func 114) #[] #[AP bd]) (by simp);have oc:=o (b:=w1.heap.size) (v:=vi Z.me) (by simp);have or':=o (b:=w7.heap.size) (v:=B0p w5.heap.size w.heap.size w2.heap.size w3.heap.size w1.heap.size w7.heap.size) (by simp [B0p]);have s1:(w1.heap.size=w.heap.size+1):=by rw [e1];simp
 have s2:(w2.heap.size=w1.heap.size+1):=by rw [e2];simp
 have s3:(w3.heap.size=w2.heap.size+1):=by rw [e3];simp
 have s4:(w4.heap.size=w3.heap.size+1):=by rw [e4];simp
 have s5:w4.heap.size<=w5.heap.size:=((AB.refl AD w4).dr e5).sz;have s6:(w6.heap.size=w5.heap.size+1):=by rw [e6];simp
 have s7:w6.heap.size<=w7.heap.size:=by
  have:AB (·=w5.heap.size) w6 w7:=kr.s1 (o:=0) e7 (.inl rfl);exact this.sz
 have hbd:bd<w.heap.size:=od.lt;have rdo:∀{b:Nat}{v:Value},AX w9 b [v]/\w.heap.size<=b->rd w9 b 0=some v:=λh=>by rw [h.1.rd];rfl
 exact⟨ol.1,rdo ok,rdo on,rdo oe,rdo oc,rdo or',od.k B9.k,⟨hF _ (.inl ⟨ol.2,ol.1.lt⟩),hF _ (.inl ⟨ok.2,ok.1.lt⟩),hF _ (.inl ⟨on.2,on.1.lt⟩),hF _ (.inl ⟨oe.2,oe.1.lt⟩),hF _ (.inl ⟨oc.2,oc.1.lt⟩),hF _ (.inl ⟨or'.2,or'.1.lt⟩),hF _ (.inr rfl)⟩,by omega,by omega,by omega,by omega,by omega,by omega⟩
end
structure IN(W:WD)(a:OA)(l c:Nat)(ws:List (Int×Int)):Prop where
 len:l=ws.length
 lc:l<=c
 mx:c<=maxLen
 el:0<l->∃b o,a=some ⟨b,o,none⟩/\∀i x,ws[i]? = some x->rd W b (o+2*i)=some (vi x.1)/\rd W b (o+2*i+1)=some (vi x.2)
theorem IN.tail{x:Int×Int}{ws:List (Int×Int)}(h:IN W a l c (x::ws)):IN W (BS a c 1 2) (l-1) (c-1) ws:=by
 have hl:=h.len;have hc:=h.lc;have hm:=h.mx;rw [List.length_cons] at hl;refine⟨by omega,by omega,by omega,λhp=>?_⟩;obtain⟨b,o,rfl,hr⟩:=h.el (by omega);refine⟨b,o+2,?_,λi y hy=>?_⟩
 .unfold BS;rw [if_neg (by omega)]
  show some (Addr.add ⟨b,o,none⟩ 2)=_
  rw [Addr.add_lit]
 .have:=hr (i+1) y (by simpa using hy);rw [show o+2+2*i=o+2*(i+1) by omega];exact this
theorem Bx.add{w0 w:WD}{l:List (Nat×Value)}{b:Nat}{v:Value}(h:Bx w0 w l)(o:AX w b [v])(hb:w0.heap.size<=b):Bx w0 w ((b,v)::l):=
 ⟨h.k,λc u hm=>by
  rcases List.mem_cons.1 hm with e|hm
  .cases e;exact⟨o,hb⟩
  .exact h.o c u hm⟩
def AlP(Z:Cn)(t t2:SqT):Prop:=(t2.hh Z.me=t.hh Z.me/\t2.r.nn Z.me=wrap .i64 (t.r.nn Z.me+1)/\(∀x∈D1 Z.c Z.me,(BD (t2.S.L x):Int)<=Z.c 91)/\(HV t2.S\/∀i∈D1 Z.c Z.me,C3y Z t2 i))\/∃f,t2.hh Z.me=t.hh Z.me++[f]
section
variable {Z:Cn}{N:Nat}{t:SqT}{G F:NP}{w:WD}
theorem A6b(w:WD):Calls prog 43 #[AP Z.V.b,vi Z.me,.slice a 0 c] w λe w'=>e=.returned .nilFunc/\AB AD w w':=by
 refine Calls.ret (vc43 _ Z.me a 0 c w _ ?_);apply qI;intro w1 e1 w2 e2 w3 e3;have B:=(((Bx.nil w).al e1).al e2).al e3;exact⟨a,0,c,B.rd (b:=w2.heap.size) (by simp),AA rfl ⟨rfl,B.k⟩⟩
set_option maxHeartbeats 8000000 in
theorem A2y{kd nx:Int}{ws:List (Int×Int)}(hk:Z.al->kd=1)(P:Pt Z t G F w)(h0:t.tk Z.me=Tk.no)(hg:FW F w (t.r.gt Z.me) (t.hh Z.me))(hr:∀W,Z.ro W->IN W a l c ((kd,nx)::ws))
 (H:∀W t2 G2 F2,Pt Z t2 G2 F2 W->(∀x,F x->F2 x)->t2.tk Z.me=Tk.no->FW F2 W (t2.r.gt Z.me) (t2.hh Z.me)->(Z.al->AlP Z t t2)->Calls prog 43 #[AP Z.V.b,vi Z.me,.slice (BS a c 1 2) (l-1) (c-1)] W λe w'=>∃v,e=.returned v/\Nx Z N t2 G2 F2 W (.returned v) w') :
 Calls prog 43 #[AP Z.V.b,vi Z.me,.slice a l c] w λe w'=>∃v,e=.returned v/\Nx Z (N+bdP (D1 Z.c Z.me).length (EU t.pg+1)) t G F w (.returned v) w':=by
 have hn:=P.wa.n16;have R0:=hr w P.ro;have hlc:=R0.lc;have hll:=R0.len;rw [List.length_cons] at hll;obtain⟨ab,ao,rfl,hrd⟩:=R0.el (by omega);obtain⟨r1,r2⟩:=hrd 0 (kd,nx) rfl;have hm:D6 Z.c:=by
  obtain⟨fp,X⟩:=P.X;have:=X.C.my
  rwa [P.inv.c] at this
 refine Calls.ret (vc43 _ Z.me (some ⟨ab,ao,none⟩) l c w _ ?_);apply qI;intro w1 e1 w2 e2 w3 e3;have B3:=(((Bx.nil w).al e1).al e2).al e3;refine⟨_,_,_,B3.rd (b:=w2.heap.size) (v:=.slice (some ⟨ab,ao,none⟩) l c) (by simp),AL (by simp;omega) ⟨_,_,_,B3.rd (b:=w2.heap.size) (v:=.slice (some ⟨ab,ao,none⟩) l c) (by simp),AA rfl (Wi ⟨kd,nx,⟨B3.k.AV r1 id,B3.k.AV r2 id⟩,λw4 e4 w5 e5=>?_⟩)⟩⟩;have o4:=AG e4;have k4:=kal e4;have o5:=AG e5;have k5:=kal e5;have x5:=o4.k k5;have s4:=o4.lt;have sW:=B3.k.sz;refine⟨wr2 x5,λw6 e6=>?_⟩;obtain⟨x6,q6⟩:=JU x5 e6;have o6:AX w6 w4.heap.size [.nilFunc]:=o5.kx q6 (by omega);refine⟨o6.wr (by decide),λw7 e7=>?_⟩;generalize hrest:Value.func (Fn.func 105) #[] #[Value.pointer (some (Addr.mk w.heap.size 0 none)),Value.pointer (some (Addr.mk w1.heap.size 0 none)),Value.pointer (some (Addr.mk w2.heap.size 0 none))]=rest at *;have o7:AX w7 w4.heap.size [rest]:=o6.s1 e7;have q7:AB (·=w4.heap.size) w6 w7:=kr.s1 e7 (.inl rfl);have x7:=x6.kx q7 (by omega);have K37:AB AD w3 w7:=BO (BO (k4.tr k5) q6 λy e=>by omega) q7 λy e=>by omega
 have B7:=(B3.kk K37).add o7 (by omega);refine⟨nx,by rw [x7.rd];rfl,λw8 e8=>⟨Bx.wr0 e8,λw9 e9 w10 e10=>⟨Bx.wr0 e10,λw11 e11=>?_⟩⟩⟩;have B9:=(B7.al2 e8 e9).2;have B11:=(B9.al2 e10 e11).2;have k79:AB AD w7 w9:=by
  have o8:=AG e8;exact BO (kr.al e8) (e9▸(AB.refl (·=w7.heap.size) w8).st (.inl rfl)) λy e=>by omega
 have k911:AB AD w9 w11:=by
  have o8:=AG e10;exact BO (kr.al e10) (e11▸(AB.refl (·=w9.heap.size) w10).st (.inl rfl)) λy e=>by omega
 have x11:=(x7.k k79).k k911;generalize hpage:wrap .i64 (Int.tmod (wrap .u64 nx) 32)=page at *;have hu0:0<=wrap .u64 nx:=by
  simp only [wrap,IntKind.bits,IntKind.signed,Bool.false_and,Bool.false_eq_true,if_false];exact Int.emod_nonneg _ (by decide)
 have hp0:0<=page:=by
  have h2:0<=Int.tmod (wrap .u64 nx) 32:=Int.tmod_nonneg _ hu0;have h3:Int.tmod (wrap .u64 nx) 32<32:=Int.tmod_lt_of_pos _ (by decide);rw [<- hpage,wi (by omega)];exact h2
 obtain⟨P11,o11⟩:=P.more B11.k;have hF:∀x,F x->(F x\/rng w w11 x):=λx h=>.inl h;have gol:∀x,(t.r.gt Z.me).ownBlock=some x->x<w.heap.size:=λx h=>by
  obtain⟨ga,gc',e,Rg,_⟩:=hg;rw [e] at h;exact Rg.lt h
 have rowlt:∀x,Z.V.rows x->x<w.heap.size:=λx h=>P.wa.lt x (.inr h);have rrx:∀{W':WD}{b:Nat}{v:Value},AB (RKp Z t (λx=>F x\/rng w w11 x)) w11 W'->(b,v)∈_->rd W' b 0=some v:=λ{W' b v} kk hm=>by
  obtain⟨o,hb⟩:=B11.o b v hm;have hlt:=o.lt;rw [(o.kx kk λh=>h.elim (λhn=>hn (.inr ⟨hb,hlt⟩)) λh=>h.elim (λh=>by have:=rowlt _ h;omega) λh=>by have:=gol _ h;omega).rd];rfl
 have hbx:BxK Z t (λx=>F x\/rng w w11 x) w11 w.heap.size w1.heap.size w4.heap.size rest:=λW' kk=>⟨rrx kk (by simp),rrx kk (by simp),rrx kk (by simp)⟩;have hbp:BpK Z t (λx=>F x\/rng w w11 x) w11 w7.heap.size (vi page):=λW' kk=>rrx kk (by simp);have hbh:BpK Z t (λx=>F x\/rng w w11 x) w11 w9.heap.size (.func (.func 106) #[] #[AP w.heap.size,AP w1.heap.size,AP w4.heap.size]):=λW' kk=>rrx kk (by simp);have hg11:FW (λx=>F x\/rng w w11 x) w11 (t.r.gt Z.me) (t.hh Z.me):=(hg.env B11.k.none).wk hF;have after:∀W t2 G2 F2,Pt Z t2 G2 F2 W->(∀x,(F x\/rng w w11 x)->F2 x)->t2.tk Z.me=Tk.no->FW F2 W (t2.r.gt Z.me) (t2.hh Z.me)->(Z.al->AlP Z t t2)->AB (RKp Z t (λx=>F x\/rng w w11 x)) w11 W->AN prog rest [] W (Nx Z N t2 G2 F2 W):=λW t2 G2 F2 P2 hF2 h2 g2 ha kk=>by
  rw [<- hrest];refine AN.mk 105 #[] _ rfl (by kernel_rfl) (Calls.ret (vc105 (some ⟨w.heap.size,0,none⟩) (some ⟨w1.heap.size,0,none⟩) (some ⟨w2.heap.size,0,none⟩) W _ ?_));apply qI;intro y1 d1;have j1:=kdr d1;obtain⟨fp2,X2⟩:=P2.X;obtain⟨P3,o3⟩:=P2.mv P2.inv rfl (X2.mv0 j1) rfl (Oth.refl _ _);refine AA rfl ⟨_,j1.AV (rrx kk (b:=w.heap.size) (v:=AP Z.V.b) (by simp)) id,AA rfl ⟨Z.me,j1.AV (rrx kk (b:=w1.heap.size) (by simp)) id,AA rfl ⟨_,_,_,j1.AV (rrx kk (b:=w2.heap.size) (v:=.slice (some ⟨ab,ao,none⟩) l c) (by simp)) id,AA BR ?_⟩⟩⟩;exact(H y1 t2 G2 F2 P3 (λx h=>hF2 x (.inl h)) h2 (g2.env j1.none) ha).AE λe w' ⟨v,hv,hN⟩=>⟨v,hv,Nx.pre o3 hN⟩
 have RK:¬Z.al->JT Z N t rest (λx=>F x\/rng w w11 x) w11:=λhal W t2 G2 F2 P2 hF2 h2 g2 kk=>after W t2 G2 F2 P2 hF2 h2 g2 (λa=>absurd a hal) kk;refine⟨kd,by rw [x11.rd];rfl,AH (λhc=>λw12 e12=>?_) (λhc=>?_)⟩
 .have k12:=kdr e12;obtain⟨fp,X11⟩:=P11.X;obtain⟨P12,o12⟩:=P11.mv P11.inv rfl (X11.mv0 k12) rfl (Oth.refl _ _);have r12:=λ{b:Nat}{v:Value} (hm:(b,v)∈_)=>rrx (b:=b) (v:=v) k12.none hm;have rk12:=rkk P11 k12;have hnd:=H8 hm Z.me;have to11:∀{W:WD},AB (λx=>¬(F x\/rng w w11 x)) w12 W->AB (RKp Z t (λx=>F x\/rng w w11 x)) w11 W:=λkk=>kRK (k12.none.trans kk λ_ _ h=>h);refine⟨_,r12 (b:=w.heap.size) (v:=AP Z.V.b) (by simp),AA rfl ⟨_,rk12,Z.me,r12 (b:=w1.heap.size) (by simp),_,r12 (b:=w9.heap.size) (v:=.func (.func 106) #[] #[AP w.heap.size,AP w1.heap.size,AP w4.heap.size]) (by simp),?_⟩⟩;refine(B2l (N:=N) (Z:=Z) (th:=.func (.func 106) #[] #[AP w.heap.size,AP w1.heap.size,AP w4.heap.size]) (nv:=.func (.func 108) #[] #[AP w.heap.size,AP w1.heap.size,AP w7.heap.size]) (xs:=D1 Z.c Z.me) rfl rfl hnd.2.2.1 (EU t.pg) rfl P12 h0 hnd.2.1 (λW t2 G2 P2 k2=>?_) ⟨λW t2 G2 P2 f2 k2=>?_,λW t2 G2 f P2 T2 k2=>?_⟩).AE λe w' ⟨v,hv,hN⟩=>⟨v,hv,v,rfl,Nx.pre (o11.tr o12) hN⟩
  .have kk:=to11 k2;refine AN.mk 108 #[] _ rfl (by kernel_rfl) (Calls.ret (vc108 (some ⟨w.heap.size,0,none⟩) (some ⟨w1.heap.size,0,none⟩) (some ⟨w7.heap.size,0,none⟩) W _ ?_));apply qI;intro y1 d1;have j1:=kdr d1;obtain⟨P3,_⟩:=P2.more j1;refine AA rfl ⟨_,j1.AV (hbx W kk).1 id,AA rfl ⟨_,rkk P2 j1,AA rfl ⟨Z.me,j1.AV (hbx W kk).2.1 id,AA rfl ⟨page,j1.AV (hbp W kk) id,(A1k P3 hp0).AE ?_⟩⟩⟩⟩;rintro _ y2 ⟨a',l',cp,rfl,k2',R⟩;exact⟨a',l',cp,rfl,a',l',cp,rfl,j1.tr k2',R.B7o j1.sz⟩
  .have kk:=to11 k2;have gt2:=f2.gt;have g2:FW (λx=>F x\/rng w w11 x) W (t2.r.gt Z.me) (t2.hh Z.me):=by
    rw [f2.hh,gt2];exact hg11.env (k12.none.trans k2 λ_ _ h=>h)
   have kB:∀{W'},AB (BK Z t2) W W'->AB (RKp Z t (λx=>F x\/rng w w11 x)) w11 W':=λk3=>kk.trans (k3.AE λx _ h=>RKp.same gt2 (.inr h)) λ_ _ h=>h;exact A6x P2 g2 (λW' k3=>hbx W' (kB k3)) λW' r' G3 F3 P3 hF3 g3 hnn k3=>after W' _ G3 F3 P3 hF3 f2.tk g3 (λal=>.inl ⟨f2.hh,by
    have:=(f2.al al).1;rw [this] at hnn;exact hnn,(f2.al al).2⟩) (kB k3)
  .have kk:=to11 k2;have gt2:=T2.gt;obtain⟨i,hi,hf1,hf2⟩:=T2.nd;have kB:∀{W'},AB (BK Z t2) W W'->AB (RKp Z t (λx=>F x\/rng w w11 x)) w11 W':=λk3=>kk.trans (k3.AE λx _ h=>RKp.same gt2 (.inr h)) λ_ _ h=>h
   refine A6w (ls:=t.hh Z.me) P2 (by
    rw [gt2]
    exact hg11.env (k12.none.trans k2 λ_ _ h=>h)) T2.hh (i:=i) (by unfold AR.AK;rw [P2.inv.c];exact hnd.2.1 i hi) (by rw [P2.inv.c];exact hf1) (by rw [P2.inv.c];exact hf2) (λW' k3=>hbx W' (kB k3)) λW' r' G3 F3 P3 hF3 g3 k3=>after W' _ G3 F3 P3 hF3 T2.tk g3 (λal=>.inr ⟨f,T2.hh⟩) (kB k3)
 have hal:¬Z.al:=λa=>by
  rw [hk a] at hc
  cases hc
 have RK:=RK hal;have lft:∀{v:Value},isF v=true->(∀W t1 G1 fl,Pt Z t1 G1 (λx=>F x\/rng w w11 x) W->E7 Z t t1->AB (λx=>¬(F x\/rng w w11 x)) w11 W->AN prog v [.bool fl] W (Nx Z N t1 G1 (λx=>F x\/rng w w11 x) W))->Nx Z (N+bdP (D1 Z.c Z.me).length (EU t.pg+1)) t G F w (.returned v) w11:=λ{v} hv Hv=>
  (JB (N:=N) P B11.k hv λW t1 G1 fl P1 m1 k1 _=>Hv W t1 G1 fl P1 m1 k1).le λa=>absurd a hal
 have hgm:∀{W:WD}{t1:SqT},E7 Z t t1->AB (λx=>¬(F x\/rng w w11 x)) w11 W->FW (λx=>F x\/rng w w11 x) W (t1.r.gt Z.me) (t1.hh Z.me):=λm k=>by
  rw [m.1.2.1,m.1.2.2.1];exact hg11.env k
 refine AH (λhc2=>?_) (λhc2=>?_)
 .exact⟨_,rfl,lft rfl λW t1 G1 fl P1 m1 k1=>B2e hal P1 (m1.1.1.trans h0) (hgm m1 k1) (hbx.later m1.1.2.2.1 (kRK k1)) (RK.later m1.1.2.2.1 (kRK k1))⟩
 refine AH (λhc3=>?_) (λhc3=>?_)
 .intro y1 d1;refine⟨Bx.wr0 d1,λy2 d2 y3 d3=>?_⟩;have od:AX y2 w11.heap.size [.bool false]:=(AG d1:AX y1 w11.heap.size [.bool false]).s1 d2;have k02:AB AD w11 y2:=by
   have kd1:=kal d1;exact BO kd1 (d2▸(AB.refl (·=w11.heap.size) y1).st (.inl rfl)) λx e=>by omega
  have k03:=k02.tr (kr.dr d3);have od3:=od.k (kr.dr d3);have r3:=λ{b:Nat}{v:Value} (hm:(b,v)∈_)=>rrx (b:=b) (v:=v) k03.none hm;obtain⟨P3,o3⟩:=P11.more k03;have A3:=P3.wa;have rN:rd y3 Z.V.b (0+2)=some (vi (Z.c 0)):=by
   rw [za,A3.so.rd,gal (by simp [A3.ml]),gar (by simp)];exact P.ok.nd
  have hc0:1<=Z.c 0/\Z.c 0<=8:=hm.1;have hu8:wrap .u64 (Z.c 0)=Z.c 0:=wu (by omega);have x13:rd y3 w3.heap.size 1=some (vi nx):=by rw [(x11.k k03).rd];rfl
  refine⟨_,r3 (b:=w.heap.size) (v:=AP Z.V.b) (by simp),AA rfl ⟨_,rkk P11 k03,Z.me,r3 (b:=w1.heap.size) (by simp),nx,x13,_,r3 (b:=w.heap.size) (v:=AP Z.V.b) (by simp),AA rfl ⟨Z.c 0,rN,AA ?_ ?_⟩⟩⟩
  .rw [hu8];simp;omega
  rw [hu8];obtain⟨node,hnode,hnl⟩:∃node:Nat,wrap .i64 (Int.tmod (wrap .u64 nx) (Z.c 0))=(node:Int)/\node<(Z.c 0).toNat:=by
   have h2:0<=Int.tmod (wrap .u64 nx) (Z.c 0):=Int.tmod_nonneg _ hu0;have h3:Int.tmod (wrap .u64 nx) (Z.c 0)<Z.c 0:=Int.tmod_lt_of_pos _ (by omega);exact⟨(Int.tmod (wrap .u64 nx) (Z.c 0)).toNat,by rw [wi (by omega)];omega,by omega⟩
  rw [hnode];refine(B12 (Z:={Z with Q:=λt' F' W'=>t'.tk Z.me=Tk.no/\t'.hh Z.me=t.hh Z.me/\t'.r.gt Z.me=t.r.gt Z.me/\F' w11.heap.size/\rd W' w11.heap.size 0=some (.bool true)}) P3.q hnl od3).AE ?_;rintro _ y4 ⟨bl,bk,bn,be,bc,br,left,rfl,k34,hleft,HB⟩;have k04:=k03.tr k34;have HB:=HB (λx=>rng y3 y4 x\/x=w11.heap.size) λ_ h=>h;have hRun:=B8t (Z:={Z with Q:=λt' F' W'=>t'.tk Z.me=Tk.no/\t'.hh Z.me=t.hh Z.me/\t'.r.gt Z.me=t.r.gt Z.me/\F' w11.heap.size/\rd W' w11.heap.size 0=some (.bool true)}) hal hnl (hh0:=t.hh Z.me) (gt0:=t.r.gt Z.me) (λt' F' w' a b c d e=>⟨a,b,c,d,e⟩) left (by omega) HB h0 rfl rfl;refine⟨_,rfl,⟨rrx k04.none (b:=w.heap.size) (v:=AP Z.V.b) (by simp),trivial⟩,?_⟩;refine Calls.ret (vc115 _ _ y4 _ ?_);apply qI;rw [show Value.cells (B0p bl bk bn be bc br)=[B0p bl bk bn be bc br].toArray from DG rfl,show Value.cells (.func (.func 112) #[] #[AP w11.heap.size,AP w4.heap.size])=[Value.func (.func 112) #[] #[AP w11.heap.size,AP w4.heap.size]].toArray from DG rfl];intro y5 d5 y6 d6;have B6:=((Bx.nil y4).al d5).al d6;have k06:=k04.tr B6.k;have l4:w11.heap.size<y3.heap.size:=od3.lt;have l34:=k34.sz;have l5:y4.heap.size<y6.heap.size:=(B6.o y4.heap.size (B0p bl bk bn be bc br) (by simp)).1.lt;have l6:y5.heap.size<y6.heap.size:=(B6.o y5.heap.size (.func (.func 112) #[] #[AP w11.heap.size,AP w4.heap.size]) (by simp)).1.lt;have l7:y4.heap.size<=y5.heap.size:=(B6.o y5.heap.size (.func (.func 112) #[] #[AP w11.heap.size,AP w4.heap.size]) (by simp)).2;obtain⟨P6,o6⟩:=P11.more k06;refine⟨B0p bl bk bn be bc br,B6.rd (b:=y4.heap.size) (by simp),AA rfl (AL rfl ⟨_,rfl,_,rfl,_,t,_,_,rfl,rfl,P6,o11.tr o6,λn _=>?_⟩)⟩;refine A5o (Z:=Z) (w0:=w11) (Fk:=λx=>F x\/rng w w11 x) hal (after:=.func (.func 112) #[] #[AP w11.heap.size,AP w4.heap.size]) rfl (λx h=>P11.lt h) (λn W t1 F0 F1 hq h1 h2 kk=>?_) n ((hRun n λa=>absurd a hal).env B6.k.none) rfl (λx h=>?_) (λx h=>.inl h) (.inr ⟨by omega,l5⟩) (.inr ⟨by omega,l6⟩) (λx h e=>?_) (λh=>?_) (λh=>?_) (B6.rd (b:=y4.heap.size) (by simp)) (B6.rd (b:=y5.heap.size) (by simp)) k06.none
  .obtain⟨a1,a2,a3,a4,a5⟩:=hq;refine RunT.step (N:=N) rfl (λW2 t2 G2 fl2 P2 m2 k2 _=>?_) n λa=>absurd a hal;have kk2:AB (λx=>¬(F x\/rng w w11 x)) w11 W2:=kk.trans (k2.AE λx _ h e=>h (h2 x e)) λ_ _ h=>h;have gt2:t2.r.gt Z.me=t.r.gt Z.me:=m2.1.2.2.1.trans a3;refine AN.mk 112 #[] _ rfl (by kernel_rfl) (Calls.ret (vc112 fl2 (some ⟨w11.heap.size,0,none⟩) (some ⟨w4.heap.size,0,none⟩) W2 _ ?_));apply qI;refine AA rfl ⟨true,k2.AV a5 λh=>h (h1 _ a4),AL rfl (AA rfl ⟨rest,(hbx W2 (kRK kk2)).2.2,AT (after W2 t2 G2 F1 P2 h2 (m2.1.1.trans a1) ?_ (λa=>absurd a hal) (kRK kk2)) λe w' hN=>hN.out⟩)⟩;rw [gt2,m2.1.2.1,a2];exact (hg11.env kk2).wk h2
  .rcases h with h|rfl
   .exact .inr ⟨by have:=h.1;omega,by have:=h.2;omega⟩
   .exact .inr ⟨nlr _,by omega⟩
  .have:=P11.lt e;rcases h with h|rfl
   .have:=h.1;omega
   .omega
  .rcases h with h|h
   .have:=h.2;omega
   .omega
  .rcases h with h|h
   .have:=h.2;omega
   .omega
 refine AH (λhc4=>?_) (λhc4=>?_)
 .exact⟨_,rfl,lft rfl λW t1 G1 fl P1 m1 k1=>B86 P1 hal (m1.1.1.trans h0) (hgm m1 k1) (hbx.later m1.1.2.2.1 (kRK k1)) (λW' k'=>hbp W' ((kRK k1).trans (k'.AE λx _ h=>RKp.same m1.1.2.2.1 h) λ_ _ h=>h)) (RK.later m1.1.2.2.1 (kRK k1))⟩
 refine AH (λhc5=>?_) (λhc5=>?_)
 .exact⟨_,rfl,lft rfl λW t1 G1 fl P1 m1 k1=>B36 P1 hal hp0 (m1.1.1.trans h0) (hgm m1 k1) (hbx.later m1.1.2.2.1 (kRK k1)) (λW' k'=>hbp W' ((kRK k1).trans (k'.AE λx _ h=>RKp.same m1.1.2.2.1 h) λ_ _ h=>h)) (λW' k'=>hbh W' ((kRK k1).trans (k'.AE λx _ h=>RKp.same m1.1.2.2.1 h) λ_ _ h=>h)) (RK.later m1.1.2.2.1 (kRK k1))⟩
 refine AH (λhc6=>?_) (λhc6=>?_)
 .exact⟨_,rfl,lft rfl λW t1 G1 fl P1 m1 k1=>B04 P1 hal hp0 (m1.1.1.trans h0) (hgm m1 k1) (hbx.later m1.1.2.2.1 (kRK k1)) (λW' k'=>hbp W' ((kRK k1).trans (k'.AE λx _ h=>RKp.same m1.1.2.2.1 h) λ_ _ h=>h)) (RK.later m1.1.2.2.1 (kRK k1))⟩
 refine⟨_,rfl,lft rfl λW t1 G1 fl P1 m1 k1=>?_⟩;refine AN.mk 125 #[] _ rfl (by kernel_rfl) (Calls.ret (vc125 fl (some ⟨w4.heap.size,0,none⟩) W _ ?_));apply qI;exact AA rfl ⟨rest,(hbx W (kRK k1)).2.2,AT (after W t1 G1 _ P1 (λ_ h=>h) (m1.1.1.trans h0) (hgm m1 k1) (λa=>absurd a hal) (kRK k1)) λe w' hN=>hN.out⟩
theorem B4o(hal:¬Z.al)(hQ:∀t F w,Z.Q t F w):∀(ws:List (Int×Int)) {t:SqT}{G F:NP}{w:WD}{a:OA}{l c:Nat},Pt Z t G F w->t.tk Z.me=Tk.no->FW F w (t.r.gt Z.me) (t.hh Z.me)->(∀W,Z.ro W->IN W a l c ws)->
 Calls prog 43 #[AP Z.V.b,vi Z.me,.slice a l c] w λe w'=>∃v,e=.returned v/\Nx Z 0 t G F w (.returned v) w':=by
 intro ws
 induction ws with
 | nil=>
  intro t G F w a l c P h0 hg hr;obtain rfl:l=0:=(hr w P.ro).len;refine(A6b (Z:=Z) w).AE ?_;rintro e w' ⟨rfl,k⟩;obtain⟨P2,o2⟩:=P.more k;exact⟨_,rfl,_,t,_,_,rfl,rfl,P2,o2,RunT.nil λ_ _ _ _=>hQ _ _ _⟩
 | cons x ws ih=>
  intro t G F w a l c P h0 hg hr;exact(A2y (N:=0) (kd:=x.1) (nx:=x.2) (λa=>absurd a hal) P h0 hg hr λW t2 G2 F2 P2 _ h2 g2 _=>ih P2 h2 g2 λW hW=>(hr W hW).tail).AE λe w' ⟨v,hv,hN⟩=>⟨v,hv,hN.le λa=>absurd a hal⟩
