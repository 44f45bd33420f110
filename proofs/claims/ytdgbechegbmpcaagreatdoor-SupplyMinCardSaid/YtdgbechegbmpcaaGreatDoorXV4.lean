/- Part of a proof that a law returns true. Conditions: those in each theorem. -/
import Derived.Test.YtdgbechegbmpcaaGreatDoorM3
set_option linter.unusedVariables false
set_option linter.unusedSimpArgs false
set_option maxRecDepth 100000
namespace Go.Proofs.YtdgbechegbmpcaaGreatDoor
open Go Go.Eng Go.Proofs.Tryz
open Go.Value (bool func slice agg int)
open Option (isNone)
open Go.IntKind (wrap)
open List (replicate range)
theorem vc129(seq:Value)(w:WD)(K:KV)(h:Q (CS 202 #[sl none 0 0,seq] w λa l c w'=>K (sl a l c) w')):Ret 129 #[seq] w K:=vcA [] 2 [] func129 h
theorem vc139(seq:Value)(w:WD)(K:KV)(h:Q (CS 250 #[sl none 0 0,seq] w λa l c w'=>C0 211 #[sl a l c] w' λw'=>K (sl a l c) w')):Ret 139 #[seq] w K:=vcA L11 2 [] func139 h
theorem vc202(s:OA)(sL sC:Nat)(t:OA)(w:WD)(K:KV)(h:Q (AW w #[sl s sL sC] 131 λw'=>∃(xss:List (List Value)),∃(R:NP),∃(I:(NP)->Nat->WD->Prop),∃(X:Nat->(NP)->WD->Prop),(EM prog 203 [pt t] xss R w'/\(∀(xs:List Value),List.Mem xs xss->List.length xs=1/\∃(n h:Int),xs=[agg #[vi n,vi h]])/\∀(b:Nat),R b->Nat.succ b<=w'.heap.size)/\(∀(u:WD),AB AD w' u->u.heap.size=w'.heap.size+2->I (λ(x:Nat)=>False) 0 u)/\(∀(Y:NP) (i:Nat) (W W':WD),I Y i W->(∀(b:Nat),Y b->w'.heap.size+2<=b)->AB (EB w'.heap.size Y) W W'->I (λ(b:Nat)=>Y b\/W.heap.size<=b/\Nat.succ b<=W'.heap.size) i W')/\(∀(k:Nat) (Y:NP) (W W':WD),X k Y W->(∀(b:Nat),Y b->w'.heap.size+2<=b)->AB (EB w'.heap.size Y) W W'->X k (λ(b:Nat)=>Y b\/W.heap.size<=b/\Nat.succ b<=W'.heap.size) W')/\(∀(Y:NP) (i:Nat) (W:WD),I Y i W->(∀(b:Nat),Y b->w'.heap.size+2<=b)->w'.heap.size+2<=W.heap.size->∀(n h:Int),xss[i]? = some [agg #[vi n,vi h]]->AW W #[vi 0,vi 0] 141 λd=>(wr d W.heap.size 0/\wr d W.heap.size 1)/\St (st d W.heap.size 0 (vi n)) W.heap.size 1 (vi h) λf=>CA w'.heap.size W f/\∀(w2:WD),AB (λ(b:Nat)=>b=w'.heap.size+1) f w2->w2.heap.size=f.heap.size->RS w2 w.heap.size 0 λx j o=>∃(q r:Int),(rd w2 W.heap.size 0=some (.int .i64 q)/\rd w2 W.heap.size 1=some (.int .i64 r))/\AW w2 #[vi q,vi r] 141 λy=>∃(a:OA) (l c:Nat) (p:WD),BL prog #[131,131] 131 (sl x j o) (sl (aD w2.heap.size) 1 1) (sl a l c) y p/\Sw p w.heap.size 0 (sl a l c) λg=>CA w'.heap.size w2 g/\DL (λ(b:Nat)=>Y b\/R b) W g/\I Y (i+1) g)/\(∀(Y:NP) (W:WD),I Y (List.length xss) W->DV w'.heap.size W->RS W w.heap.size 0 λx j o=>CV [w'.heap.size] W/\∀(w2:WD),AB (λ(b:Nat)=>List.Mem b [w'.heap.size]) W w2->w2.heap.size=W.heap.size->K (sl x j o) w2)/\(∀(Y:NP) (W:WD),X 0 Y W->DV w'.heap.size W->CV [w'.heap.size] W/\∀(w2:WD),AB (λ(b:Nat)=>List.Mem b [w'.heap.size]) W w2->w2.heap.size=W.heap.size->K (sl none 0 0) w2)/\True)):Ret 202 #[sl s sL sC,func (.func 203) #[] #[pt t]] w K:=vcA [] 2 [] func202 h
theorem vc250(s:OA)(sL sC:Nat)(j:OA)(w:WD)(K:KV)(h:Q (AW w #[sl s sL sC] 27 λw'=>∃(xss:List (List Value)),∃(R:NP),∃(I:(NP)->Nat->WD->Prop),∃(X:Nat->(NP)->WD->Prop),(EM prog 212 [pt j] xss R w'/\(∀(xs:List Value),List.Mem xs xss->List.length xs=1/\∃(n:Int),xs=[vi n])/\∀(b:Nat),R b->Nat.succ b<=w'.heap.size)/\(∀(o:WD),AB AD w' o->o.heap.size=w'.heap.size+2->I (λ(x:Nat)=>False) 0 o)/\(∀(Y:NP) (i:Nat) (W W':WD),I Y i W->(∀(b:Nat),Y b->w'.heap.size+2<=b)->AB (EB w'.heap.size Y) W W'->I (λ(b:Nat)=>Y b\/W.heap.size<=b/\Nat.succ b<=W'.heap.size) i W')/\(∀(k:Nat) (Y:NP) (W W':WD),X k Y W->(∀(b:Nat),Y b->w'.heap.size+2<=b)->AB (EB w'.heap.size Y) W W'->X k (λ(b:Nat)=>Y b\/W.heap.size<=b/\Nat.succ b<=W'.heap.size) W')/\(∀(Y:NP) (i:Nat) (W:WD),I Y i W->(∀(b:Nat),Y b->w'.heap.size+2<=b)->w'.heap.size+2<=W.heap.size->∀(n:Int),xss[i]? = some [vi n]->CA w'.heap.size W W/\∀(w2:WD),AB (λ(b:Nat)=>b=w'.heap.size+1) W w2->w2.heap.size=W.heap.size->RS w2 w.heap.size 0 λx f g=>AW w2 #[vi n] 3 λp=>∃(a:OA) (l c:Nat) (h:WD),BL prog #[27,27] 27 (sl x f g) (sl (aD w2.heap.size) 1 1) (sl a l c) p h/\Sw h w.heap.size 0 (sl a l c) λd=>CA w'.heap.size w2 d/\DL (λ(b:Nat)=>Y b\/R b) W d/\I Y (i+1) d)/\(∀(Y:NP) (W:WD),I Y (List.length xss) W->DV w'.heap.size W->RS W w.heap.size 0 λx f g=>CV [w'.heap.size] W/\∀(w2:WD),AB (λ(b:Nat)=>List.Mem b [w'.heap.size]) W w2->w2.heap.size=W.heap.size->K (sl x f g) w2)/\(∀(Y:NP) (W:WD),X 0 Y W->DV w'.heap.size W->CV [w'.heap.size] W/\∀(w2:WD),AB (λ(b:Nat)=>List.Mem b [w'.heap.size]) W w2->w2.heap.size=W.heap.size->K (sl none 0 0) w2)/\True)):Ret 250 #[sl s sL sC,func (.func 212) #[] #[pt j]] w K:=vcA [] 2 [] func250 h
theorem vc212(l0:Nat)(d:OA)(w:WD)(K:KV)(h:Q (Wp d (Rp w d 0 λx=>gIf (isP x) (isNone x=false) (∃(f:Option Nat),(isNone x=false->rd w (pb x) (po x+1)=some (.map f))/\Wif (isNone x||isNone f) (K (.tuple #[]) w) (Wp d (Rp w d 0 λx=>Wp x (Rs w x 0 λh i j=>CS 133 #[sl h i j] w λa l c w'=>∃(I:Int->WD->Nat->Prop),(∃(n:Nat),I 0 w' n)/\∀(n:Int) (w':WD) (g:Nat),I n w' g->Wif (decide (n<(↑l:Int))) (Wp a (Wn n l (Ri w' a (n.toNat*1) λx=>EW prog l0 [vi x] w' λ(r:Ending) (w':WD)=>∃(b:Bool),r=rT (bool b)/\Wif (!b) (K (.tuple #[]) w') (Lt g λm=>I (wrap .i64 (n+1)) w' m)))) (K (.tuple #[]) w')))))))):Ret 212 #[Value.func (Fn.yield l0) #[] #[],pt d] w K:=vcA L12 2 [1000017] func212 h
theorem C1i{X:NP}{w w1 w2:WD}{kx:Nat}(k:AB (·=kx) w w1)(k2:AB X w1 w2)(h:∀x,X x->x=kx\/w.heap.size<=x):AB (·=kx) w w2:=
 k.trans k2 λx hl hx=>by rcases h x hx with h|h;exact h;omega
structure RJ{α:Type}(kx B:Nat)(w4:WD)(T s:Nat)(f:α->List Value)(xs:List α)(Y:NP)(i:Nat)(W:WD):Prop where
 kp:AB (·=kx) w4 W
 le:i<=xs.length
 ex:∃(a:OA) (cc:Nat),AX W kx [.slice a i cc]/\W.ownsRow (B+2) T s (.slice a i cc) i ((xs.take i).flatMap f)/\∀x,Y x->x<W.heap.size/\(slice a i cc).ownBlock≠some x
section
variable {α:Type}{kx B:Nat}{w4:WD}{T s:Nat}{f:α->List Value}{xs:List α}{Y:NP}{i:Nat}{W:WD}
theorem RJ.ab{W':WD}(h:RJ kx B w4 T s f xs Y i W)(hk:kx<B)(hB:B=w4.heap.size)(hY:∀b,Y b->B+2<=b)(k':AB (EB B Y) W W'):RJ kx B w4 T s f xs (λb=>Y b\/(W.heap.size<=b/\b<W'.heap.size)) i W':=by
 obtain⟨a,cc,g2,g3,g4⟩:=h.ex;have hsz:=k'.sz;have h1:=h.kp.sz;refine⟨h.kp.trans k' λx hx hh=>?_,h.le,a,cc,g2.kx k' (λhx=>by rcases hx with h|h|h;omega;omega;have:=hY _ h;omega),BA g3 k' λx hx _ hb hh=>(by rcases hh with h|h|h;omega;omega;exact(g4 x h).2 hb),λx hx=>?_⟩
 .rcases hh with rfl|rfl|h3
  .omega
  .omega
  .have:=hY x h3;omega
 .rcases hx with hx|hx
  .have:=g4 x hx;exact⟨by omega,this.2⟩
  .refine⟨hx.2,λe=>?_⟩;have:=(g3.lt x e).2;omega
theorem RJ.step{S:Nat}(hT:ElT prog S T s){R Z:NP}{p:α}{w7:WD}(h:RJ kx B w4 T s f xs Y i W)(hk:kx<B)(hB:B=w4.heap.size)(hY:∀b,Y b->B+2<=b)(hsz:B+2<=W.heap.size)(hl:xs.length<=100000)(hR:∀b,R b->b<B/\b≠kx)
 (hp:xs[i]? = some p) (hs:∀x,(f x).length=s) (h1:∀u∈f p,u.oneCell'=true) (k7:AB Z W w7) (hZ:∀b,Z b->b=B+1\/W.heap.size<=b) :
 ∃(a:OA) (cc:Nat),rd w7 kx 0=some (.slice a i cc)/\∀w8,w8=w7.alloc (.cells (f p).toArray T)->∃(a':OA) (l' c':Nat) (w9:WD),BL prog #[S,S] S (.slice a i cc) (.slice (some ⟨w7.heap.size,0,none⟩) 1 1) (.slice a' l' c') w8 w9/\wr w9 kx 0/\
  ∀w10,w10=st w9 kx 0 (.slice a' l' c')->CA B w7 w10/\DL (λb=>Y b\/R b) W w10/\RJ kx B w4 T s f xs Y (i+1) w10:=by
 obtain⟨a,cc,g2,g3,g4⟩:=h.ex;have hil:=(DC.1 hp).1;have hW7:=k7.sz;have hg:=g2.lt;have kW7:AB (·=B+1) W w7:=k7.AE λb hb hz=>(hZ b hz).resolve_right (by omega);refine⟨a,cc,by rw [(g2.kx kW7 (by omega)).rd];rfl,λw8 e8=>?_⟩;have k8:=kal e8;have row7:=BA g3 kW7 λx hx _ _ hh=>by omega
 have row8:=BA row7 k8 λ_ _ _ _=>id;have hs8:=k8.sz;obtain⟨t0,z,hi,hz,hsz0,hzs,hby⟩:=hT.ex;obtain⟨a',l',c',w9,happ,rfl,row9,k9,hon⟩:=JP (P:=prog) (t:=S) (e:=T) (i:=t0) (z:=z) (size:=s) hT.sl hi hz hsz0 hzs hT.pos row8 (AG e8) (m:=1) (off:=0) (c:=1) (news:=f p) (by rw [List.drop_zero,Nat.one_mul,List.take_of_length_le (Nat.le_of_eq (hs p))]) (by rw [hs,Nat.one_mul]) h1 (by omega) hby (by omega);have g9:=((g2.kx kW7 (by omega)).k k8).kx k9 λe=>by have:=(row8.lt _ e).1;omega
 refine⟨a',_,c',w9,happ,g9.wr (by simp),λw10 e10=>?_⟩;have k10:AB (·=kx) w9 w10:=kr.s1 e10 (.inl rfl);have g10:=g9.s1 e10;have K710:AB (λx=>x=kx\/(slice a i cc).ownBlock=some x) w7 w10:=((k8.AE λ_ _ h=>h.elim).trans k9 λx _ h=>.inr h).trans k10 λx _ h=>.inl h;have KW10:AB (λx=>x=B+1\/x=kx\/(slice a i cc).ownBlock=some x) W w10:=(kW7.AE λ_ _ h=>.inl h).trans K710 λx _ h=>.inr h;have hl10:=KW10.sz;have hgB:=h.kp.sz;refine⟨DY K710 (by omega) (λh=>?_) (λh=>?_),A6n KW10 λy hy=>?_,?_,hil,a',c',g10,?_,λy hy=>?_⟩
 .rcases h with h|h
  .omega
  .have:=(row7.lt _ h).1;omega
 .rcases h with h|h
  .omega
  .have:=(row7.lt _ h).1;omega
 .rcases hy with hy|hy
  .have h1:=hY y hy;have h2:=g4 y hy;refine⟨h2.1,λhh=>?_⟩;rcases hh with h|h|h
   .have h5:=h2.1;have:y=B+1:=h;omega
   .omega
   .exact h2.2 h
  .have h1:=hR y hy;refine⟨by omega,λhh=>?_⟩;rcases hh with h|h|h
   .omega
   .omega
   .have:=(g3.lt _ h).1;omega
 .refine C1i h.kp KW10 λy hy=>?_;rcases hy with h|h|h
  .right;omega
  .exact .inl h
  .right;have:=(g3.lt _ h).1;omega
 .have e1:(xs.take (i+1)).flatMap f=(xs.take i).flatMap f++f p:=by
   rw [List.take_add_one,hp,List.flatMap_append];simp
  rw [e1];exact BA row9 k10 λy hy _ _ h=>by omega
 .have h1:=hY y hy;have h2:=g4 y hy;refine⟨by omega,λe=>?_⟩;rcases hon with h3|h3
  .rw [h3] at e;exact h2.2 e
  .have:=h3 y e;omega
theorem RJ.fin{w:WD}(h:RJ kx B w4 T s f xs Y xs.length W)(hk:kx<B)(hB:B=w4.heap.size)(k4:AB AD w w4)(hx:kx=w.heap.size){w2:WD}(k2:AB (λb=>b∈[B]) W w2) :
 ∃(a:OA) (cc:Nat),rd W kx 0=some (.slice a xs.length cc)/\w2.ownsRow w.heap.size T s (.slice a xs.length cc) xs.length (xs.flatMap f)/\AB AD w w2:=by
 obtain⟨a,cc,g2,g3,g4⟩:=h.ex;rw [List.take_length] at g3;refine⟨a,cc,by rw [g2.rd];rfl,?_,?_⟩
 .have:=BA g3 k2 λx hx _ _ h=>by simp at h;omega
  exact ownsRow_base_a this (by omega)
 .exact BO (BO k4 h.kp λx e=>by omega) k2 λx e=>by simp at e;have:=k4.sz;omega
end
theorem C06{x:Int}:∀u∈[vi x],u.oneCell'=true:=λu hu=>by simp at hu;subst hu;rfl
theorem B9p{w:WD}{c:Nat}{xs:List Int}{R:NP}(hg:∀w',AB AD w w'->EM prog 212 [AP c] (xs.map λx=>[vi x]) R w')(hR:∀b,R b->b<w.heap.size)(hl:xs.length<=100000) :
 Calls prog 250 #[.slice none 0 0,.func (.func 212) #[] #[AP c]] w λe w'=>∃(a:OA) (l c:Nat),e=.returned (.slice a l c)/\BV w' w.heap.size a l c xs/\AB AD w w':=by
 refine(vc250 none 0 0 (some ⟨c,0,none⟩) w (λv w'=>∃(a:OA) (l c:Nat),v=.slice a l c/\BV w' w.heap.size a l c xs/\AB AD w w') ?_).AE ?_
 rotate_left
 .rintro e w' ⟨v,rfl,a,l,c,rfl,hw⟩;exact⟨a,l,c,rfl,hw⟩
 unfold Q;intro w4 e4;have hx:=AG (c:=[.slice none 0 0]) e4;have k4:=kal e4;have hs4:w4.heap.size=w.heap.size+1:=by rw [e4];simp only [World.alloc,Array.size_push]
 have hR':∀b,R b->b<w4.heap.size/\b≠w.heap.size:=λb hb=>by have:=hR b hb;omega
 have eT:ElT prog 27 3 1:=B55;refine⟨xs.map λx=>[vi x],R,RJ w.heap.size w4.heap.size w4 3 1 (λx=>[vi x]) xs,λ_ _ _=>False,⟨hg w4 k4,λys hx=>?_,λb h=>(hR' b h).1⟩,λw1 k1 _=>?_,λY i W W' h hY k'=>h.ab (by omega) rfl hY k',λ_ _ _ _ h=>h.elim,λY i W h hY hsz p hv=>?_,λY W h hd=>?_,λ_ _ h=>h.elim,trivial⟩
 .obtain⟨x,_,rfl⟩:=List.mem_map.1 hx;exact⟨rfl,x,rfl⟩
 .exact⟨k1.AE λ_ _ h=>h.elim,Nat.zero_le _,none,0,hx.k k1,World.ownsRow_nil _ _ _ _,λx h=>h.elim⟩
 .have hx:xs[i]? = some p:=by
   rw [gmp] at hv
   cases hh:xs[i]? with
   | none=>rw [hh] at hv;cases hv
   | some x=>rw [hh] at hv;simp at hv;rw [hv]
  refine⟨DY (AB.refl AD W) (by omega) id id,λw7 k7 hs7=>?_⟩;obtain⟨a,cc,h1,h2⟩:=h.step eT (by omega) rfl hY hsz hl hR' hx (λ_=>rfl) C06 k7 λb hb=>.inl hb;exact⟨a,i,cc,h1,λw8 e8=>h2 w8 e8⟩
 .rw [lmp] at h;have hd':CV [w4.heap.size] W:=⟨by simp,λD hD=>by simp at hD;subst hD;exact hd.at_⟩;obtain⟨a,cc,hr,_⟩:=h.fin (w2:=W) (by omega) rfl k4 rfl ((AB.refl (λ_=>False) W).AE λ_ _ e=>e.elim);refine⟨a,_,cc,hr,hd',λw2 k2 hs2=>?_⟩;obtain⟨a2,cc2,hr2,row,kk⟩:=h.fin (w2:=w2) (by omega) rfl k4 rfl k2;rw [hr] at hr2
  cases hr2
  exact⟨a,_,cc,rfl,⟨rfl,by rw [NT];exact row⟩,kk⟩
def C2y(x:Nat×Nat):List Value:=[vi x.1,vi x.2]
theorem C5c:ElT prog 131 141 2:=elT (z:=.agg #[.int .i64 0,.int .i64 0]) underlying131 (by kernel_rfl) rfl (by decide)
theorem B9q{w:WD}{c z:Nat}{Z:Zs}{L:Nat->List Bk}(h:ZAt w z Z L)(hc:rd w c 0=some (AP z))(hl:(zsh Z.c L Z.k).length<=100000) :
 Calls prog 202 #[.slice none 0 0,.func (.func 203) #[] #[AP c]] w λe w'=>∃(a:OA) (l c:Nat),e=.returned (.slice a l c)/\l=(zsh Z.c L Z.k).length/\w'.ownsRow w.heap.size 141 2 (.slice a l c) l ((zsh Z.c L Z.k).flatMap C2y)/\AB AD w w':=by
 refine(vc202 none 0 0 (some ⟨c,0,none⟩) w (λv w'=>∃(a:OA) (l c:Nat),v=.slice a l c/\l=(zsh Z.c L Z.k).length/\w'.ownsRow w.heap.size 141 2 (.slice a l c) l ((zsh Z.c L Z.k).flatMap C2y)/\AB AD w w') ?_).AE ?_
 rotate_left
 .rintro e w' ⟨v,rfl,a,l,c,rfl,hw⟩;exact⟨a,l,c,rfl,hw⟩
 unfold Q;intro w4 e4;have hx:=AG (c:=[.slice none 0 0]) e4;have k4:=kal e4;have hs4:w4.heap.size=w.heap.size+1:=by rw [e4];simp only [World.alloc,Array.size_push]
 have hcl:=J3 hc;have hR':∀b,(b=c\/Z.all z b)->b<w4.heap.size/\b≠w.heap.size:=λb hb=>by
  rcases hb with rfl|hb
  .omega
  .have:=h.lt hb;omega
 have hg:=A02 (h.k k4) (k4.AV hc id) (by omega);have e0:zxs Z L=(zsh Z.c L Z.k).map λy=>[agg #[.int .i64 (y.1:Int),.int .i64 (y.2:Int)]]:=rfl;rw [e0] at hg;generalize zsh Z.c L Z.k=xs at *;refine⟨_,_,RJ w.heap.size w4.heap.size w4 141 2 C2y xs,λ_ _ _=>False,⟨hg,λys hx=>?_,λb h=>(hR' b h).1⟩,λw1 k1 _=>?_,λY i W W' h hY k'=>h.ab (by omega) rfl hY k',λ_ _ _ _ h=>h.elim,λY i W h hY hsz p q hv w5 e5=>?_,λY W h hd=>?_,λ_ _ h=>h.elim,trivial⟩
 .obtain⟨x,_,rfl⟩:=List.mem_map.1 hx;exact⟨rfl,_,_,rfl⟩
 .exact⟨k1.AE λ_ _ h=>h.elim,Nat.zero_le _,none,0,hx.k k1,World.ownsRow_nil _ _ _ _,λx h=>h.elim⟩
 .obtain⟨y,hx,rfl,rfl⟩:∃y:Nat×Nat,xs[i]? = some y/\p=(y.1:Int)/\q=(y.2:Int):=by
   rw [gmp] at hv
   cases hh:xs[i]? with
   | none=>rw [hh] at hv;cases hv
   | some x=>rw [hh] at hv;simp at hv;exact⟨x,rfl,hv.1.symm,hv.2.symm⟩
  have o5:=AG (c:=[int IntKind.i64 0,int IntKind.i64 0]) e5;have k5:=kal e5;have h5:=k5.sz;refine⟨⟨o5.wr (by simp),o5.wr (by simp)⟩,λw6 e6=>?_⟩;obtain⟨o6,k6⟩:=st2 o5 rfl e6;have K6:AB AD W w6:=BO k5 k6 λx e=>Nat.le_of_eq e.symm;refine⟨DY K6 (by omega) id id,λw7 k7 hs7=>?_⟩;have o7:=o6.kx k7 (by omega);obtain⟨a,cc,h1,h2⟩:=h.step (Z:=λb=>b=w4.heap.size+1) C5c (by omega) rfl hY hsz hl hR' hx (λ_=>rfl) (λu hu=>by simp [C2y] at hu;rcases hu with rfl|rfl <;> rfl) ((K6.AE λ_ _ e=>e.elim).trans k7 λ_ _ e=>e) λb hb=>.inl hb;exact⟨a,i,cc,h1,_,_,⟨by rw [o7.rd];rfl,by rw [o7.rd];rfl⟩,λw8 e8=>h2 w8 e8⟩
 .rw [lmp] at h;have hd':CV [w4.heap.size] W:=⟨by simp,λD hD=>by simp at hD;subst hD;exact hd.at_⟩;obtain⟨a,cc,hr,_⟩:=h.fin (w2:=W) (by omega) rfl k4 rfl ((AB.refl (λ_=>False) W).AE λ_ _ e=>e.elim);refine⟨a,_,cc,hr,hd',λw2 k2 hs2=>?_⟩;obtain⟨a2,cc2,hr2,row,kk⟩:=h.fin (w2:=w2) (by omega) rfl k4 rfl k2;rw [hr] at hr2
  cases hr2
  exact⟨a,_,cc,rfl,rfl,row,kk⟩
end Go.Proofs.YtdgbechegbmpcaaGreatDoor
namespace Go.Proofs.YtdgbechegbmpcaaGreatDoor
open Go Go.Eng Go.Proofs.Tryz
open Go.RowKit Go.Maps Go.Sort Go.Shelf
variable {c cb g:Nat}{ring:List Int}{of:List (Int×Value)}{H:NP}
theorem A0q{w:WD}{n:Nat}{os:Array Obj}{cur:Array Value}{e:TypeId}{fr:Nat×Nat}(d:Array Int)(hb:w.heap[g]? = some (.cells cur e fr)) :
 (grow (putRow (Value.int .i64) (Sort.ahead w n) g 0 d) os).heap[g]? = some (.cells (putCells (Value.int .i64) 0 d cur) e fr):=by
 have hg:g<w.heap.size:=(FK.1 hb).1;rw [heap_grow_old _ _ (by simpa using hg)];simp [putRow,mapBlock,Sort.ahead,Array.getElem?_modify,hb,onCells]
theorem LU{w:WD}{n:Nat}{os:Array Obj}(d:Array Int):w.grownBy (grow (putRow (Value.int .i64) (Sort.ahead w n) g 0 d) os) (some g):=by
 refine⟨rfl,rfl,rfl,by simp,λk hk hne=>?_⟩;rw [heap_grow_old _ _ (by simpa using hk)];have:g≠k:=λe=>hne (by rw [e]);simp [putRow,mapBlock,Sort.ahead,Array.getElem?_modify,this]
theorem A2c(cur:Array Value)(F:Array Int)(h:F.size<=cur.size):(putCells (Value.int .i64) 0 F cur).toList.take F.size=F.toList.map (Value.int .i64):=by
 apply List.ext_getElem?;intro j;by_cases hj:j<F.size
 .rw [List.getElem?_take_of_lt hj,Array.getElem?_toList];simp [putCells,hj,show j<cur.size by omega]
 .rw [List.getElem?_take_eq_none (by omega),gen (by simp;omega)]
def HZ(xs:List Int):List Int:=xs.mergeSort λx y=>decide (x<=y)
theorem B4a{w:WD}{base:Nat}{a:OA}{l:Nat}{xs:List Int}(h:BV w base a l c xs)(hl:xs.length<=1000000000) :
 Calls prog 211 #[.slice a l c] w λe w'=>e=.returned (.tuple #[])/\BV w' base a l c (HZ xs)/\AB (λb=>(Value.slice a l c).ownBlock=some b) w w':=by
 obtain⟨rfl,h⟩:=h;rcases h.2 with⟨h0,h1⟩|⟨g,cap,cur,hv,hb,hgg,hnc,hm,hsz,htk⟩
 .have hx0:xs=[]:=List.length_eq_zero_iff.1 h1;subst hx0
  cases h0
  refine(AnyM.slices_Sort_int_none (ρ:=Tryz.OR) Tryz.B4b none 0 w).AE ?_;rintro e w' ⟨rfl,rfl⟩;have e0:HZ []=[]:=by simp [HZ]
  rw [e0];exact⟨rfl,BV.MG,AB.refl _ _⟩
 .cases hv
  have hglt:g<w.heap.size:=(FK.1 hgg).1;have hH:Holds (Value.int .i64) w g 0 xs.toArray:=by
   intro j hj;have hj':j<xs.length:=by simpa using hj
   refine⟨?_,by simp [World.frozen?,hgg]⟩;have h1:(cur.toList.take (xs.length*1))[j]? = (xs.map vi)[j]? := by rw [htk]
   rw [List.getElem?_take_of_lt (by omega)] at h1;simp only [World.cell?,hgg,za];simp only [Option.isSome_none,Bool.false_eq_true,if_false];rw [<- Array.getElem?_toList,h1];simp [hj']
  refine(AnyM.slices_Sort_int (ρ:=Tryz.OR) Tryz.B4b g 0 c xs w hH hglt (by omega)).AE ?_;rintro e w' ⟨rfl,m,os,rfl⟩;have hF:(HZ xs).toArray.size=xs.length:=by simp [HZ]
  have hF':(HZ xs).length=xs.length:=by simp [HZ]
  refine⟨rfl,⟨hF'.symm,by simpa using hF',.inr ⟨g,c,_,rfl,hb,A0q _ hgg,hnc,hm,by simpa [putCells] using hsz,?_⟩⟩,(AB.grownBy (LU _)).AE λb _ h=>by simpa [Value.ownBlock] using h⟩;have:=A2c cur (HZ xs).toArray (by rw [hF];omega);rw [hF] at this;rw [mo];exact this
theorem A5m{w:WD}(h:BE ring of (AP cb) H w)(hc:rd w c 0=some (AP cb))(hl:ring.length<=100000) :
 EM prog 212 [AP c] (ring.map λx=>[vi x]) (λ_=>False) w:=by
 refine⟨λy J Jx W hk hab habx hY h0=>?_⟩;refine(vc212 y (some ⟨c,0,none⟩) W (λv w'=>(∃Y,J Y (ring.map λx=>[vi x]).length w')\/∃Y,Jx Y w') ?_).AE ?_
 rotate_left
 .rintro e w' ⟨v,rfl,hw⟩;exact⟨⟨v,rfl⟩,hw⟩
 obtain⟨b,a,l,cp,m,hb,o,R,M,_⟩:=(BE.stb.kx _ _ _ _ _ h hk λ_ e _=>e.elim).ex
 cases hb
 have hcW:=hk.AV hc id;have r1:rd W cb (0+1)=some (.map (some m)):=by rw [o.rd];rfl
 have r0:rd W cb 0=some (.slice a l cp):=by rw [o.rd];rfl
 unfold Q;refine AA rfl ⟨_,hcW,⟨_,λ_=>r1,AL rfl (AA rfl ⟨_,hcW,AA rfl ⟨_,_,_,r0,(JO R (by omega)).AE ?_⟩⟩)⟩⟩;rintro _ w1 ⟨a',c',rfl,k1,R1⟩;have S1:SlR GW 1 w1 a' ring.length c' ring:=R1.at.now;refine⟨_,_,_,rfl,λk w' N=>∃(q:Nat) (Y:NP),k=q/\q<=ring.length/\N=ring.length-q/\J Y q w'/\(0<ring.length->Y (pb a')/\w'.heap[pb a']? = w1.heap[pb a']?),
  ⟨ring.length,0,_,rfl,by omega,rfl,hab _ _ _ _ h0 (k1.AE λ_ _ e=>e.elim),λh0=>⟨.inr ?_,rfl⟩⟩,?_⟩
 .obtain⟨row,hh⟩:=R1;rcases hh.2 with⟨h2,h1⟩|⟨g,cap,cur,h2,hb,hgg,_⟩
  .omega
  .cases h2
   exact⟨hb,(FK.1 hgg).1⟩
 rintro _ w3 _ ⟨q,Y,rfl,hq,rfl,hJ3,hkb⟩;refine AH (λhc3=>?_) (λhc3=>?_)
 .have hqd:q<ring.length:=by simp at hc3;omega
  obtain⟨x,hx⟩:∃x,ring[q]? = some x:=⟨ring[q],geg hqd⟩;obtain⟨cs,_,hR,hr⟩:=S1.el q x hx;obtain rfl:cs=[vi x]:=hR;refine AA (S1.isp (by omega)) (Wi ⟨x,?_,?_⟩)
  .rw [tnc,FG,(hkb (by omega)).2,<- FG];exact hr 0 _ rfl
  have hy:=hY _ q [vi x] w3 (by simp [hx]) hJ3;obtain⟨fn,tm,asg',bo,hrun,hR⟩:=hy.run;refine⟨fn,tm,asg',bo,hrun,hR.mono ?_⟩;rintro en w6 ⟨k6,⟨rfl,hJ6⟩|⟨rfl,hx6⟩⟩
  .exact⟨true,rfl,AL rfl ⟨ring.length-(q+1),by omega,q+1,_,wzz,by omega,rfl,hJ6,λh0=>⟨(hkb h0).1,(k6.blk _ (.inl (hkb h0).1)).trans (hkb h0).2⟩⟩⟩
  .exact⟨false,rfl,AA rfl (.inr ⟨_,hx6⟩)⟩
 .have:q=ring.length:=by simp at hc3;omega
  subst this;refine .inl ⟨Y,?_⟩;rw [lmp];exact hJ3
theorem A2j{w:WD}(h:BE ring of (AP cb) H w)(hc:rd w c 0=some (AP cb))(hl:ring.length<=100000) :
 Calls prog 139 #[.func (.func 212) #[] #[AP c]] w λe w'=>∃(a:OA) (l c:Nat),e=.returned (.slice a l c)/\BV w' w.heap.size a l c (HZ ring)/\AB AD w w':=by
 refine(vc139 _ w (λv w'=>∃(a:OA) (l c:Nat),v=.slice a l c/\BV w' w.heap.size a l c (HZ ring)/\AB AD w w') ?_).AE ?_
 rotate_left
 .rintro e w' ⟨v,rfl,a,l,c,rfl,hw⟩;exact⟨a,l,c,rfl,hw⟩
 unfold Q;refine(B9p (R:=λ_=>False) (λw' k=>A5m (BE.stb.kx _ _ _ _ _ h k λ_ e _=>e.elim) (k.AV hc id) hl) (λ_ e=>e.elim) hl).AE ?_;rintro _ w1 ⟨a1,l1,c1,rfl,row,k1⟩;refine⟨a1,l1,c1,rfl,(B4a row (by omega)).AE ?_⟩;rintro _ w2 ⟨rfl,row2,k2⟩;exact⟨rfl,a1,l1,c1,rfl,row2,BO k1 k2 λb hb=>(row.lt hb).1⟩
theorem A9a{w:WD}{k kb:Nat}{S:AR}{fp:Prt->Nat->Prop}(h:AO w k S fp)(hk:rd w kb 0=some (AP k))(hl:∀i,i<S.AK->(S.ring i).length<=100000) :
 Calls prog 131 #[vi (S.c 0),.func (.func 138) #[] #[AP kb]] w λe w'=>∃a l c,e=.returned (.slice a l c)/\AB AD w w'/\At (rng w w') (λW=>SlR (RL GW 1) 1 W a l c ((List.range S.AK).map λi=>HZ (S.ring i))) w':=by
 have hs:=h.BQ;rw [<- hs.1.2.2];refine(C0o (n:=S.AK) (w0:=w) (by omega) (CU (A:=λj=>GD (RL GW 1) (HZ (S.ring j))) (λ_ _=>GD.stb) λi w1 hi k1=>AN.mk _ #[] #[_] rfl (by kernel_rfl) ?_) HI).AE ?_
 .have C1:=h.k k1;have hh:BM (λi=>BE (S.ring i) (S.cof i)) S.AK S.vck (fp .clocks) w1:=C1.at' .clocks;obtain⟨g,cp,u,H,hv,hr,hA,_,_⟩:=hh.one (B:=λi=>BE (S.ring i) (S.cof i)) (λ_ _=>BE.stb) hi λ_ _=>rfl;obtain⟨cb,_,_,_,_,rfl,_⟩:=hA.ex;refine(vc138 i (some ⟨kb,0,none⟩) w1 (λv w'=>∃a' l' c',v=(.slice a' l' c')/\AB AD w1 w'/\BV w' w1.heap.size a' l' c' (HZ (S.ring i))) ?_).AE ?_
  .unfold Q;refine AA rfl ⟨_,k1.AV hk id,AA rfl ⟨some ⟨g,0,none⟩,S.AK,cp,?_,AA rfl (Wi ⟨some ⟨cb,0,none⟩,?_,(vc140 (some ⟨cb,0,none⟩) w1 (λv w'=>v=.func (.func 212) #[] #[AP w1.heap.size]/\w'=w1.alloc (.cells #[AP cb] 174)) ?_).AE ?_⟩)⟩⟩
   .have:=C1.rt (j:=6) (v:=S.vck) rfl;rw [hv] at this
    show rd w1 k (0+100)=_
    rw [za];exact this
   .rw [tnc,mo]
    show rd w1 g (0+i)=_
    rw [za];exact hr
   .unfold Q;rintro w2 rfl;exact⟨rfl,rfl⟩
   .rintro _ w2 ⟨v,rfl,rfl,e2⟩;have k2:=kal e2;have o2:=AG (c:=[AP cb]) e2;refine⟨_,rfl,(A2j (BE.stb.kx _ _ _ _ _ hA k2 λ_ e _=>e.elim) (by rw [o2.rd];rfl) (hl i hi)).AE ?_⟩;rintro _ w3 ⟨a',l',c',rfl,R2,k3⟩;exact⟨a',l',c',rfl,a',l',c',rfl,k2.tr k3,R2.B7o k2.sz⟩
  .rintro e w' ⟨v,rfl,a',l',c',rfl,k2,R2⟩;exact⟨_,_,⟨_,_,_,rfl,rfl⟩,rfl,k2,R2.at.imp λW hW=>⟨a',_,c',rfl,hW⟩,λx hx=>(R2.lt hx).1⟩
 .rintro e w' ⟨a,c,F,vs,rfl,kk,row,hj,hF,_⟩;exact⟨a,_,c,rfl,kk,HG row hj hF⟩
end Go.Proofs.YtdgbechegbmpcaaGreatDoor
namespace Go.Proofs.YtdgbechegbmpcaaGreatDoor
open Go Go.Eng Go.Proofs.Tryz
open Go.Shelf
variable {X m:Nat}{cs:List Value}{u:Value}{H:NP}
abbrev BC:Value:=.slice none 0 0
theorem OD{w:WD}{cp:Nat}(hm:m<=2)(ho:AX w X cs)(hc:∀j,j<m->cs[j]? = some BC) :
 Calls prog 220 #[.slice (some ⟨X,0,none⟩) m cp] w λe w'=>∃(a:OA) (c:Nat),e=.returned (.slice a 0 c)/\w'.ownsRow w.heap.size 242 2 (.slice a 0 c) 0 []/\AB AD w w':=by
 refine(vc220 (some ⟨X,0,none⟩) m cp w (λv w'=>∃(a:OA) (c:Nat),v=(.slice a 0 c)/\w'.ownsRow w.heap.size 242 2 (.slice a 0 c) 0 []/\AB AD w w') ?_).AE ?_
 rotate_left
 .rintro e w' ⟨v,rfl,a,c,rfl,h⟩;exact⟨a,c,rfl,h⟩
 unfold Q;have hrd:∀{w':WD},AB AD w w'->∀q,q<m->rd w' X (0+Int.toNat (q:Int)*1)=some BC:=λk q hq=>by
  rw [tnc,mo,za,(ho.k k).rd,hc q hq]
 refine⟨λn k w' N=>∃q:Nat,n=0/\k=q/\q<=m/\N=m-q/\w'=w,⟨m,0,rfl,rfl,Nat.zero_le _,rfl,rfl⟩,?_⟩;rintro _ _ w1 _ ⟨q,rfl,rfl,hq,rfl,rfl⟩;refine AH (λhc1=>?_) (λhc1=>?_)
 .have hqm:q<m:=by simp at hc1;omega
  refine AA rfl (Wi ⟨none,0,0,hrd kr q hqm,AL (by decide) ⟨m-(q+1),by omega,q+1,rfl,wzz,by omega,rfl,rfl⟩⟩)
 refine(Any8.slices_Grow_room Tryz.C4v none 0 0 0 w1 (by omega) (by omega) (by omega) (by omega)).AE ?_;rintro e wx ⟨rfl,hx⟩;rw [hx];clear hx;refine⟨none,0,0,rfl,λa l c k w' N=>∃q:Nat,l=0/\k=q/\q<=m/\N=m-q/\w'.ownsRow w1.heap.size 242 2 (.slice a 0 c) 0 []/\AB AD w1 w',⟨m,0,rfl,rfl,Nat.zero_le _,rfl,World.ownsRow_nil _ _ _ _,AB.refl _ _⟩,?_⟩;rintro a _ c _ w2 _ ⟨q,rfl,rfl,hq,rfl,row2,k2⟩;refine AH (λhc2=>?_) (λhc2=>⟨a,c,rfl,row2,k2⟩);have hqm:q<m:=by simp at hc2;omega
 refine AA rfl (Wi ⟨none,0,0,hrd k2 q hqm,?_⟩);obtain⟨i,z,hi,hz,hsz,hzs,hby⟩:=(elT (S:=239) (T:=242) (z:=.agg #[.int .i64 0,.int .i64 0]) (s:=2) underlying239 (by kernel_rfl) rfl (by decide)).ex;obtain⟨a',c',w3,happ,row,k3⟩:=Eng.app (P:=prog) (t:=239) (ty:=239) (e:=242) (i:=i) (z:=z) (size:=2) underlying239 hi hz hsz hzs (by decide) row2 (Eng.Src.MG (w:=w2)) rfl (λu hu=>by simp at hu) (by omega) (by omega) k2.sz;exact⟨a',0,c',w3,happ,m-(q+1),by omega,q+1,rfl,wzz,by omega,rfl,by simpa using row,BO k2 k3 λx e=>(row2.lt x e).1⟩
theorem A5k{w:WD}(hm:m<=2)(ho:AX w X cs)(hc:∀j,j<m->cs[j]? = some BC) :
 Calls prog 220 #[.slice (some ⟨X,0,none⟩) m m] w λe w'=>∃(a:OA) (c:Nat),e=.returned (.slice a 0 c)/\w'.ownsRow w.heap.size 242 2 (.slice a 0 c) 0 []/\AB AD w w':=OD hm ho hc
theorem A58{w:WD}{base:Nat}{a:OA}{c:Nat}(row:w.ownsRow base 242 2 (.slice a 0 c) 0 []):At (λx=>(Value.slice a 0 c).ownBlock=some x) (λW=>RL E6 2 W [.slice a 0 c] []) w:=
 (IL (f:=λx:Int×Int=>[vi x.1,vi x.2]) (λ_=>rfl) (xs:=[]) row rfl).imp λW hW=>⟨a,0,c,rfl,hW⟩
theorem A8i{w:WD}(h:E8 u H w):Calls prog 147 #[u] w λe w'=>∃(a:OA) (c:Nat),e=.returned (.slice a 0 c)/\w'.ownsRow w.heap.size 242 2 (.slice a 0 c) 0 []/\AB AD w w':=by
 obtain⟨b,rfl,o,_⟩:=h.ex;refine(vc147 (some ⟨b,0,none⟩) w (λv w'=>∃(a:OA) (c:Nat),v=(.slice a 0 c)/\w'.ownsRow w.heap.size 242 2 (.slice a 0 c) 0 []/\AB AD w w') ?_).AE ?_
 rotate_left
 .rintro e w' ⟨v,rfl,a,c,rfl,h⟩;exact⟨a,c,rfl,h⟩
 unfold Q;refine AL rfl λw1 e1=>?_;have o1:=o.dr e1;have k1:=kdr e1;have s1:w1.heap.size=w.heap.size:=by rw [e1];rfl
 refine AA rfl ⟨none,0,0,by show rd w1 b (0+2)=_;rw [o1.rd];rfl,AA rfl ⟨none,0,0,by show rd w1 b (0+1)=_;rw [o1.rd];rfl,λw2 e2=>?_⟩⟩;have o2:=AG (c:=[BC,BC]) e2;have k2:=kal e2;refine(A5k (m:=2) (by omega) o2 λj hj=>by match j,hj with|0,_|1,_=>rfl).AE ?_;rintro _ w3 ⟨a,c,rfl,row,k3⟩;exact⟨a,0,c,rfl,a,c,rfl,ownsRow_base_a row (by have:=k1.sz;have:=k2.sz;omega),(k1.tr k2).tr k3⟩
theorem A3z(w:WD):Calls prog 221 #[BC] w λe w'=>e=.returned BC/\w'=w:=by
 refine(vc221 none 0 0 w (λv w'=>v=BC/\w'=w) ?_).AE ?_
 .unfold Q;exact AA rfl ⟨rfl,rfl⟩
 .rintro e w' ⟨v,rfl,rfl,rfl⟩;exact⟨rfl,rfl⟩
theorem A81{w:WD}(h:E8 u H w):Calls prog 150 #[u] w λe w'=>∃(a:OA) (c:Nat),e=.returned (.slice a 0 c)/\w'.ownsRow w.heap.size 242 2 (.slice a 0 c) 0 []/\AB AD w w':=by
 obtain⟨b,rfl,o,_⟩:=h.ex;refine(vc150 (some ⟨b,0,none⟩) w (λv w'=>∃(a:OA) (c:Nat),v=(.slice a 0 c)/\w'.ownsRow w.heap.size 242 2 (.slice a 0 c) 0 []/\AB AD w w') ?_).AE ?_
 rotate_left
 .rintro e w' ⟨v,rfl,a,c,rfl,h⟩;exact⟨a,c,rfl,h⟩
 unfold Q;refine AL rfl λw1 e1=>?_;have o1:=o.dr e1;have k1:=kdr e1;have r1:∀{w':WD},AB AD w1 w'->rd w' b (0+1)=some BC:=λk=>by rw [(o1.k k).rd];rfl
 have r2:∀{w':WD},AB AD w1 w'->rd w' b (0+2)=some BC:=λk=>by rw [(o1.k k).rd];rfl
 have fin:∀{X:Nat}{w2:WD},AB AD w1 w2->AX w2 X [BC]->∃(a1:OA) (l1 c1:Nat) (w3:WD),BL prog #[51,51] 51 BC (.slice (some ⟨X,0,none⟩) 1 1) (.slice a1 l1 c1) w2 w3/\
  Calls prog 220 #[.slice a1 l1 c1] w3 λe w'=>∃(a:OA) (l c:Nat),e=.returned (.slice a l c)/\∃(a':OA) (c':Nat),(Value.slice a l c)=(.slice a' 0 c')/\w'.ownsRow w.heap.size 242 2 (.slice a' 0 c') 0 []/\AB AD w w':=by
  intro X w2 k2 ox;obtain⟨i,z,hi,hz,hsz,hzs,hby⟩:=C19.ex;obtain⟨a1,l1,c1,w3,happ,rfl,row,k3,_⟩:=JP (P:=prog) (t:=51) (e:=239) (i:=i) (z:=z) (size:=1) underlying51 hi hz hsz hzs (by decide) (World.ownsRow_nil w2 w2.heap.size 239 1) ox (m:=1) (off:=0) (c:=1) (news:=[BC]) rfl rfl (λu hu=>by simp at hu;subst hu;rfl) (by omega) hby (nlr _);have k3':AB AD w2 w3:=k3.AE λx _ e=>by simp [Value.ownBlock] at e
  obtain⟨_,hh⟩:=CN row;rcases hh with⟨_,h0,_⟩|⟨g,cs,rfl,hgb,og,htk,hnc,hcl⟩
  .omega
  refine⟨_,_,_,w3,happ,?_⟩;have hc0:cs[0]? = some BC:=by
   have:(cs.take ((0+1)*1))[0]? = some BC:=by rw [htk];rfl
   rw [List.getElem?_take] at this;split at this
   .exact this
   .cases this
  have hgen:Calls prog 220 #[.slice (some ⟨g,0,none⟩) 1 c1] w3 λe w'=>∃(a:OA) (c:Nat),e=.returned (.slice a 0 c)/\w'.ownsRow w3.heap.size 242 2 (.slice a 0 c) 0 []/\AB AD w3 w':=OD (by omega) og λj hj=>by
   match j,hj with
   | 0,_=>exact hc0
  refine hgen.AE ?_;rintro _ w4 ⟨a,c,rfl,row4,k4⟩;exact⟨a,0,c,rfl,a,c,rfl,ownsRow_base_a row4 (by have:=k1.sz;have:=k2.sz;have:=k3'.sz;omega),((k1.tr k2).tr k3').tr k4⟩
 refine AA rfl ⟨none,0,0,r1 kr,AA rfl ⟨none,0,0,r2 kr,(A3z w1).AE ?_,λw2 e2=>⟨⟨r1 (kr.al e2),trivial⟩,(A3z w2).AE ?_⟩⟩⟩
 .rintro _ _ ⟨rfl,rfl⟩;refine⟨none,0,0,rfl,⟨r2 kr,trivial⟩,λw2 e2=>fin (kr.al e2) (AG e2)⟩
 .rintro _ w3 ⟨rfl,e3⟩;rw [e3];exact⟨none,0,0,rfl,fin (kr.al e2) (AG e2)⟩
section
variable {w:WD}{k kb:Nat}{S:AR}{fp:Prt->Nat->Prop}
theorem B48(h:AO w k S fp)(hk:rd w kb 0=some (AP k)) :
 Calls prog 144 #[vi (S.c 1),.func (.func 145) #[] #[AP kb]] w λe w'=>∃a l c,e=.returned (.slice a l c)/\AB AD w w'/\At (rng w w') (λW=>SlR (RL (RL E6 2) 1) 1 W a l c ((List.range S.AS).map λ_=>(List.range 8).map λ_=>[])) w':=by
 have hs:=h.BQ;rw [<- hs.2.1.2.2];refine(C0n (n:=S.AS) (w0:=w) (by omega) (CU (A:=λj=>GD (RL (RL E6 2) 1) ((List.range 8).map λ_=>[])) (λ_ _=>GD.stb) λi w1 hi k1=>AN.mk _ #[] #[_] rfl (by kernel_rfl) ?_) HI).AE ?_
 .refine(vc145 i (some ⟨kb,0,none⟩) w1 (λv w'=>∃a l c,v=(.slice a l c)/\AB AD w1 w'/\∃H:NP,At H (λW=>RL (RL E6 2) 1 W [.slice a l c] ((List.range 8).map λ_=>[])) w'/\∀x,H x->w1.heap.size<=x) ?_).AE ?_
  .unfold Q;intro w2 e2;have o2:=AG (c:=[vi i]) e2;have k2:=kal e2;refine(B7z (n:=8) (w0:=w2) (by omega) (CU (A:=λj=>GD (RL E6 2) []) (λ_ _=>GD.stb) λj w3 hj k3=>AN.mk _ #[] #[_,_] rfl (by kernel_rfl) ?_) HI).AE ?_
   .have C3:=h.k ((k1.tr k2).tr k3);have hh:BM (λi=>BM (λ_=>E8) 8) S.AS S.vma (fp .mags) w3:=C3.at' .mags;obtain⟨g,cp,u,H,hv,hr,hA,_,_⟩:=hh.one (B:=λi=>BM (λ_=>E8) 8) (λ_ _=>BM.stb λ_ _=>E8.stb) hi λ_ _=>rfl;obtain⟨g2,cp2,u2,H2,rfl,hr2,hB,_,_⟩:=hA.one (B:=λi=>E8) (λ_ _=>E8.stb) hj λ_ _=>rfl;obtain⟨b,rfl,_⟩:=hB.ex;refine(vc146 j (some ⟨kb,0,none⟩) (some ⟨w1.heap.size,0,none⟩) w3 (λv w'=>∃(a:OA) (c:Nat),v=(.slice a 0 c)/\w'.ownsRow w3.heap.size 242 2 (.slice a 0 c) 0 []/\AB AD w3 w') ?_).AE ?_
    .unfold Q;intro w4 e4;have k4:=kdr e4;have s4:w4.heap.size=w3.heap.size:=by rw [e4];rfl
     have hk4:rd w4 kb 0=some (AP k):=(((k1.tr k2).tr k3).tr k4).AV hk id;refine AA rfl ⟨_,hk4,AA rfl ⟨some ⟨g,0,none⟩,S.AS,cp,?_,AA rfl ⟨(i:Int),?_,AA rfl (Wi ⟨some ⟨g2,0,none⟩,8,cp2,?_,AA rfl (Wi ⟨some ⟨b,0,none⟩,?_,(A8i (E8.stb.kx _ _ _ _ _ hB k4 λ_ e _=>e.elim)).AE ?_⟩)⟩)⟩⟩⟩
     .have:=(C3.k k4).rt (j:=9) (v:=S.vma) rfl;rw [hv] at this
      show rd w4 k (0+103)=_
      rw [za];exact this
     .show rd w4 w1.heap.size 0=_
      rw [((o2.k k3).k k4).rd]
      rfl
     .rw [tnc,mo]
      show rd w4 g (0+i)=_
      rw [za];exact k4.AV hr id
     .rw [tnc,mo]
      show rd w4 g2 (0+j)=_
      rw [za];exact k4.AV hr2 id
     .rintro _ w5 ⟨a,c,rfl,row,k5⟩;exact⟨a,0,c,rfl,⟨k5.AV hk4 id,trivial⟩,a,c,rfl,ownsRow_base_a row (by omega),k4.tr k5⟩
    .rintro e w' ⟨v,rfl,a,c,rfl,row,k5⟩;exact⟨_,_,⟨_,_,_,rfl,rfl⟩,rfl,k5,A58 row,λx hx=>(row.lt x hx).1⟩
   .rintro e w' ⟨a,c,F,vs,rfl,kk,row,hj,hF,_⟩;have h2:=k2.sz;exact⟨a,8,c,rfl,a,8,c,rfl,k2.tr kk,rng w2 w',(HG row hj hF).imp λW hW=>⟨a,8,c,rfl,hW⟩,λx hx=>by have:=hx.1;omega⟩
  .rintro e w' ⟨v,rfl,a,l,c,rfl,kk,H,hA,hx⟩;exact⟨_,H,⟨_,_,_,rfl,rfl⟩,rfl,kk,hA,hx⟩
 .rintro e w' ⟨a,c,F,vs,rfl,kk,row,hj,hF,_⟩;exact⟨a,_,c,rfl,kk,HG row hj hF⟩
end
section
variable {w:WD}{k kb:Nat}{S:AR}{fp:Prt->Nat->Prop}
theorem A8z(h:AO w k S fp)(hk:rd w kb 0=some (AP k)) :
 Calls prog 144 #[vi (S.c 0),.func (.func 148) #[] #[AP kb]] w λe w'=>∃a l c,e=.returned (.slice a l c)/\AB AD w w'/\At (rng w w') (λW=>SlR (RL (RL E6 2) 1) 1 W a l c ((List.range S.AK).map λ_=>(List.range 8).map λ_=>[])) w':=by
 have hs:=h.BQ;rw [<- hs.1.2.2];refine(C0n (n:=S.AK) (w0:=w) (by omega) (CU (A:=λj=>GD (RL (RL E6 2) 1) ((List.range 8).map λ_=>[])) (λ_ _=>GD.stb) λi w1 hi k1=>AN.mk _ #[] #[_] rfl (by kernel_rfl) ?_) HI).AE ?_
 .refine(vc148 i (some ⟨kb,0,none⟩) w1 (λv w'=>∃a l c,v=(.slice a l c)/\AB AD w1 w'/\∃H:NP,At H (λW=>RL (RL E6 2) 1 W [.slice a l c] ((List.range 8).map λ_=>[])) w'/\∀x,H x->w1.heap.size<=x) ?_).AE ?_
  .unfold Q;intro w2 e2;have o2:=AG (c:=[vi i]) e2;have k2:=kal e2;refine(B7z (n:=8) (w0:=w2) (by omega) (CU (A:=λj=>GD (RL E6 2) []) (λ_ _=>GD.stb) λj w3 hj k3=>AN.mk _ #[] #[_,_] rfl (by kernel_rfl) ?_) HI).AE ?_
   .have C3:=h.k ((k1.tr k2).tr k3);have hh:BM (λi=>BM (λ_=>E8) 8) S.AK S.vde (fp .depots) w3:=C3.at' .depots;obtain⟨g,cp,u,H,hv,hr,hA,_,_⟩:=hh.one (B:=λi=>BM (λ_=>E8) 8) (λ_ _=>BM.stb λ_ _=>E8.stb) hi λ_ _=>rfl;obtain⟨g2,cp2,u2,H2,rfl,hr2,hB,_,_⟩:=hA.one (B:=λi=>E8) (λ_ _=>E8.stb) hj λ_ _=>rfl;obtain⟨b,rfl,_⟩:=hB.ex;refine(vc149 j (some ⟨kb,0,none⟩) (some ⟨w1.heap.size,0,none⟩) w3 (λv w'=>∃(a:OA) (c:Nat),v=(.slice a 0 c)/\w'.ownsRow w3.heap.size 242 2 (.slice a 0 c) 0 []/\AB AD w3 w') ?_).AE ?_
    .unfold Q;intro w4 e4;have k4:=kdr e4;have s4:w4.heap.size=w3.heap.size:=by rw [e4];rfl
     have hk4:rd w4 kb 0=some (AP k):=(((k1.tr k2).tr k3).tr k4).AV hk id;refine AA rfl ⟨_,hk4,AA rfl ⟨some ⟨g,0,none⟩,S.AK,cp,?_,AA rfl ⟨(i:Int),?_,AA rfl (Wi ⟨some ⟨g2,0,none⟩,8,cp2,?_,AA rfl (Wi ⟨some ⟨b,0,none⟩,?_,(A81 (E8.stb.kx _ _ _ _ _ hB k4 λ_ e _=>e.elim)).AE ?_⟩)⟩)⟩⟩⟩
     .have:=(C3.k k4).rt (j:=8) (v:=S.vde) rfl;rw [hv] at this
      show rd w4 k (0+102)=_
      rw [za];exact this
     .show rd w4 w1.heap.size 0=_
      rw [((o2.k k3).k k4).rd]
      rfl
     .rw [tnc,mo]
      show rd w4 g (0+i)=_
      rw [za];exact k4.AV hr id
     .rw [tnc,mo]
      show rd w4 g2 (0+j)=_
      rw [za];exact k4.AV hr2 id
     .rintro _ w5 ⟨a,c,rfl,row,k5⟩;exact⟨a,0,c,rfl,⟨k5.AV hk4 id,trivial⟩,a,c,rfl,ownsRow_base_a row (by omega),k4.tr k5⟩
    .rintro e w' ⟨v,rfl,a,c,rfl,row,k5⟩;exact⟨_,_,⟨_,_,_,rfl,rfl⟩,rfl,k5,A58 row,λx hx=>(row.lt x hx).1⟩
   .rintro e w' ⟨a,c,F,vs,rfl,kk,row,hj,hF,_⟩;have h2:=k2.sz;exact⟨a,8,c,rfl,a,8,c,rfl,k2.tr kk,rng w2 w',(HG row hj hF).imp λW hW=>⟨a,8,c,rfl,hW⟩,λx hx=>by have:=hx.1;omega⟩
  .rintro e w' ⟨v,rfl,a,l,c,rfl,kk,H,hA,hx⟩;exact⟨_,H,⟨_,_,_,rfl,rfl⟩,rfl,kk,hA,hx⟩
 .rintro e w' ⟨a,c,F,vs,rfl,kk,row,hj,hF,_⟩;exact⟨a,_,c,rfl,kk,HG row hj hF⟩
end
end Go.Proofs.YtdgbechegbmpcaaGreatDoor
namespace Go.Proofs.YtdgbechegbmpcaaGreatDoor
open Go Go.Eng Go.Proofs.Tryz
open Go.RowKit Go.Maps Go.Sort Go.Shelf
def B93(x:Nat×Nat):Int×Int:=(x.1,x.2)
theorem A9j{w:WD}{z:Nat}{Z:Zs}{L:Nat->List Bk}(h:ZAt w z Z L) :
 Calls prog 130 #[AP z] w λe w1=>∃v,e=.returned v/\Calls prog 129 #[v] w1 λe w'=>∃a l c,e=.returned (.slice a l c)/\AB AD w w'/\At (rng w w') (λW=>SlR E6 2 W a l c ((zsh Z.c L Z.k).map B93)) w':=by
 have hl:(zsh Z.c L Z.k).length<=100000:=by
  have h8:=h.k8;have:=A9o (c:=Z.c) (L:=L) (k:=Z.k) λi hi=>by
   have h1:=C2z (h.iv i hi).tl;have:=(B8n h hi).2.2;omega
  omega
 refine(vc130 (some ⟨z,0,none⟩) w (λv w'=>v=.func (.func 203) #[] #[AP w.heap.size]/\w'=w.alloc (.cells #[AP z] 38)) ?_).AE ?_
 .unfold Q;rintro w1 rfl;exact⟨rfl,rfl⟩
 rintro e w1 ⟨v,rfl,rfl,e1⟩;have k1:=kal e1;have o1:=AG (c:=[AP z]) e1;refine⟨_,rfl,(vc129 _ w1 (λv w'=>∃a l c,v=(.slice a l c)/\AB AD w w'/\At (rng w w') (λW=>SlR E6 2 W a l c ((zsh Z.c L Z.k).map B93)) w') ?_).AE ?_⟩
 .unfold Q;refine(B9q (h.k k1) (by rw [o1.rd];rfl) hl).AE ?_;rintro _ w2 ⟨a,l,c,rfl,hl2,row,k2⟩;have e2:(zsh Z.c L Z.k).flatMap C2y=((zsh Z.c L Z.k).map B93).flatMap λx=>[vi x.1,vi x.2]:=by rw [List.flatMap_map];rfl
  rw [e2] at row;refine⟨a,l,c,rfl,a,l,c,rfl,k1.tr k2,(IL (f:=λx:Int×Int=>[vi x.1,vi x.2]) (λ_=>rfl) row (by rw [lmp];exact hl2)).AE (λx hx=>?_) λx hx=>hx.2⟩;have:=row.lt x hx;have:=k1.sz;exact⟨by omega,by omega⟩
 .rintro e w' ⟨v,rfl,a,l,c,rfl,h⟩;exact⟨a,l,c,rfl,h⟩
theorem A8o(mb:Option Nat)(w:WD):Calls prog 214 #[.map mb] w λe w'=>e=.returned (.func (.func 261) #[] #[.pointer (some ⟨w.heap.size,0,none⟩)])/\w'=w.alloc (.cells #[.map mb] 295):=by
 refine(callsIn_wide (n:=6)).1 ?_;exact AnyZI.keys_in Tryz.C1g Fence.wide 6 trivial rfl mb w
theorem A2k{w w1:WD}{b:Nat}{m:List (Int×Value)}(h:BJ w b m)(hs:m.length<=1000000)(e:w1=w.alloc (.cells #[.map (some b)] 295)) :
 Calls prog 139 #[.func (.func 261) #[] #[.pointer (some ⟨w.heap.size,0,none⟩)]] w1 λe w'=>∃(a:OA) (c:Nat) (ks:List Int),e=.returned (.slice a ks.length c)/\ks=(m.map (·.1)).mergeSort (λx y=>decide (x<=y))/\
  w'.ownsRow w.heap.size 3 1 (.slice a ks.length c) ks.length (ks.map (Value.int .i64))/\AB AD w w':=by
 subst e;obtain⟨D,hown,hperm,hsz⟩:=A1n (P:=prog) (kt:=3) underlying3 h (by unfold maxLen;omega);have hbl:=h.lt;have hseq:SeqGives Fence.wide 3 prog 261 #[.pointer (some ⟨w.heap.size,0,none⟩)] encZ (λss=>ss.Perm (intKeys D)) (Maps.size D) (w.alloc (.cells #[.map (some b)] 295)):=
  AnyZI.keys_gives (ρ:=Tryz.A3f) {Tryz.C1g with} Fence.wide _ trivial rfl (by omega) w.heap.size b m.length D _ (by simp) (by simp) (by
   obtain⟨es,clock,hb,Ft,hs,hD⟩:=hown;exact⟨es,clock,(Below.heap_alloc _ _ b hbl).trans hb,Ft,hs,hD⟩)
 have cS:=AnyZI.sorted_in Tryz.B0c Fence.wide 6 trivial trivial trivial trivial rfl (by omega) (B6w _) (enters_of func211 (by kernel_rfl) rfl) 261 #[.pointer (some ⟨w.heap.size,0,none⟩)] trivial (enters_of func261 (by kernel_rfl) rfl) _ _ (by rw [hsz];unfold maxLen;omega) (by rw [hsz];omega) _ hseq
 change CallsIn _ _ prog 139 _ _ _ at cS
 refine((callsIn_wide (n:=6)).1 cS).AE ?_;rintro e w' ⟨v,ss,rfl,hS,hrow,hnil,hb⟩;have hks:ss.mergeSort (λx y=>decide (x<=y))=(m.map (·.1)).mergeSort (λx y=>decide (x<=y)):=mergeSort_of_perm_i (hS.trans hperm);have hlen:ss.length=((m.map (·.1)).mergeSort (λx y=>decide (x<=y))).length:=by rw [<- hks,List.length_mergeSort]
 rw [hks,hlen] at hrow;have hv:∃a c,v=.slice a ((m.map (·.1)).mergeSort (λx y=>decide (x<=y))).length c:=by
  rcases hrow.2 with⟨rfl,h0⟩|⟨g,cap,cur,rfl,_⟩
  .exact⟨none,0,by rw [h0]⟩
  .exact⟨_,_,rfl⟩
 obtain⟨a,c,rfl⟩:=hv;refine⟨a,c,_,rfl,rfl,ownsRow_base_a hrow (by simp),?_⟩;have k1:AB AD w (w.alloc (.cells #[.map (some b)] 295)):=kr.alloc _ _;exact k1.trans (X:=AD) (Y:=AD) ⟨hb.os,hb.tape,hb.output,hb.size,λi hi _=>hb.block i hi⟩ (λ_ _ h=>h)
theorem B2k{w:WD}{size:Int}{u:Value}{H:NP}(h:CE size u H w):Calls prog 142 #[u] w λe w'=>∃a c,e=.returned (.slice a 0 c)/\AB AD w w':=by
 obtain⟨b,m,rfl,o,M,_⟩:=h.ex;refine(vc142 (some ⟨b,0,none⟩) w (λv w'=>∃a c,v=(.slice a 0 c)/\AB AD w w') ?_).AE ?_
 .unfold Q;have h2:rd w b (0+2)=some (.map (some m)):=by rw [o.rd];rfl
  refine⟨_,λ_=>h2,AL rfl (AA rfl ⟨_,h2,(A8o (some m) w).AE ?_⟩)⟩;rintro _ w1 ⟨rfl,e1⟩;refine⟨_,rfl,(A2k M (by simp) e1).AE ?_⟩;rintro _ w2 ⟨a,c,ks,rfl,hks,_,k2⟩;have:ks.length=0:=by rw [hks];simp
  rw [this];exact⟨a,0,c,rfl,a,c,rfl,k2⟩
 .rintro e w' ⟨v,rfl,a,c,rfl,h⟩;exact⟨a,c,rfl,h⟩
end Go.Proofs.YtdgbechegbmpcaaGreatDoor
namespace Go.Proofs.YtdgbechegbmpcaaGreatDoor
open Go Go.Eng Go.Proofs.Tryz
open Go.Value (bool func slice agg int)
open Option (isNone)
open Go.IntKind (wrap)
open List (replicate range)
variable {X:NP}{base c i l:Nat}{S:AR}{fp:Prt->Nat->Prop}{a:OA}{W:WD}
structure PI(w0 w:WD)(kb kr k:Nat)(S:AR)(fp:Prt->Nat->Prop)(T:List Value):Prop where
 c0:AO w0 k S fp
 hb:w0.heap.size<=kb/\kb<kr
 K0:AB AD w0 w
 ob:AX w kb [AP k]
 okr:AX w kr (cfg S.c++T)
structure Got(kr:Nat)(φ:WD->Prop)(w:WD):Prop where
 ex:∃F,At F φ w/\∀x,F x->kr<x
section
variable {w0 w w1 w2:WD}{kb kr k:Nat}{S:AR}{fp:Prt->Nat->Prop}{T:List Value}{φ ψ:WD->Prop}
theorem PI.core(h:PI w0 w kb kr k S fp T):AO w k S fp:=h.c0.k h.K0
theorem PI.hk(h:PI w0 w kb kr k S fp T):rd w kb 0=some (AP k):=by rw [h.ob.rd];rfl
theorem PI.kept(h:PI w0 w kb kr k S fp T)(kk:AB AD w w1):PI w0 w1 kb kr k S fp T:=⟨h.c0,h.hb,h.K0.tr kk,h.ob.k kk,h.okr.k kk⟩
theorem PI.kx(h:PI w0 w kb kr k S fp T)(kk:AB X w w1)(hX:∀x,X x->kr<x):PI w0 w1 kb kr k S fp T:=by
 have:=h.hb;exact⟨h.c0,h.hb,BO h.K0 kk λx hx=>by have:=hX x hx;omega,h.ob.kx kk λhx=>by have:=hX _ hx;omega,h.okr.kx kk λhx=>by have:=hX _ hx;omega⟩
theorem PI.st{v:Value}(h:PI w0 w kb kr k S fp T)(e:w1=Eng.st w kr (94+i) v):PI w0 w1 kb kr k S fp (T.set i v)/\AB (·=kr) w w1:=by
 have hb:=h.hb;have k1:AB (·=kr) w w1:=(AB.refl _ _).s1 e (.inl rfl);exact⟨⟨h.c0,h.hb,BO h.K0 k1 λx e=>by omega,h.ob.kx k1 (by omega),LH h.okr e⟩,k1⟩
theorem PI.rs(h:PI w0 w kb kr k S fp T){v:Value}(hv:T[i]? = some v):rd w kr (94+i)=some v:=by
 rw [h.okr.rd,gar (by rw [AM];omega),AM,Nat.add_sub_cancel_left];exact hv
theorem PI.ws(h:PI w0 w kb kr k S fp T)(hi:i<T.length):wr w kr (94+i):=h.okr.wr (by rw [lap,AM];omega)
theorem PI.krl(h:PI w0 w kb kr k S fp T):kr<w.heap.size:=h.okr.lt
theorem Got.kx(h:Got kr φ w)(kk:AB X w w1)(hX:∀x,X x->x=kr\/w.heap.size<=x):Got kr φ w1:=by
 obtain⟨F,hF,hk⟩:=h.ex;exact⟨F,hF.kx kk λx hx hf=>by have:=hF.lt x hf;have:=hk x hf;have:=hX x hx;omega,hk⟩
theorem Got.and(h:Got kr φ w)(h2:Got kr ψ w):Got kr (λW=>φ W/\ψ W) w:=by
 obtain⟨F,hF,hk⟩:=h.ex;obtain⟨G,hG,hk2⟩:=h2.ex;exact⟨_,hF.and hG,λx hx=>hx.elim (hk x) (hk2 x)⟩
theorem PI.stp{v:Value}(h:PI w0 w kb kr k S fp T)(g:Got kr φ w)(kk:AB AD w w1)(hA:At (rng w w1) ψ w1)(e:w2=Eng.st w1 kr (94+i) v):PI w0 w2 kb kr k S fp (T.set i v)/\Got kr (λW=>φ W/\ψ W) w2:=by
 obtain⟨h2,q⟩:=(h.kept kk).st e;have hkr:=h.krl;refine⟨h2,((g.kx kk λx e=>e.elim).kx q λx e=>.inl e).and ⟨rng w w1,hA.kx q λx e hx=>?_,λx hx=>?_⟩⟩
 .have:=hx.1;omega
 .have:=hx.1;omega
end
def B62(x:Own):List Value:=[vi x.n,vi x.pid,vi x.page]
def owns(n:Nat)(of:Nat->Int×Int):List Own:=((range n).filter λi=>(of i).1 != 0).map λ(i:Nat)=>⟨(i:Int),(of i).1,(of i).2⟩
theorem H6(n:Nat)(of:Nat->Int×Int):owns (n+1) of=owns n of++if (of n).1 != 0 then [⟨n,(of n).1,(of n).2⟩] else []:=by
 unfold owns;rw [List.range_succ,List.filter_append,F6];congr 1;by_cases h:(of n).1=0 <;> simp [h]
theorem A1g(n:Nat)(of:Nat->Int×Int):(owns n of).length<=n:=by
 unfold owns;rw [lmp];exact Nat.le_trans (List.length_filter_le _ _) (by simp)
theorem C2b:ElT prog 133 151 3:=elT (z:=.agg #[.int .i64 0,.int .i64 0,.int .i64 0]) underlying133 (by kernel_rfl) rfl (by decide)
theorem C2a:ElT prog 132 147 6:=elT (z:=.agg #[.int .i64 0,.int .i64 0,.slice none 0 0,.slice none 0 0,.slice none 0 0,.slice none 0 0]) underlying132 (by kernel_rfl) rfl (by decide)
theorem PI.add{S0 T0 s:Nat}(hT:ElT prog S0 T0 s){w0 w w1:WD}{kb kr k:Nat}{T vs cs:List Value}(h:PI w0 w kb kr k S fp T)(hi:i<T.length)(row:w.ownsRow base T0 s (.slice a l c) l vs)(hbase:kr<base/\base<=w.heap.size)
 (hc:cs.length=s) (h1:∀u∈cs,u.oneCell'=true) (hl:l<=1000000) (e:w1=w.alloc (.cells cs.toArray T0)) :
 ∃(a':OA) (l' c':Nat) (w2:WD),BL prog #[S0,S0] S0 (.slice a l c) (.slice (some ⟨w.heap.size,0,none⟩) 1 1) (.slice a' l' c') w1 w2/\wr w2 kr (94+i)/\∀w3,w3=Eng.st w2 kr (94+i) (.slice a' l' c')->
  l'=l+1/\PI w0 w3 kb kr k S fp (T.set i (.slice a' l' c'))/\w3.ownsRow base T0 s (.slice a' l' c') l' (vs++cs)/\AB (λx=>x=kr\/(slice a l c).ownBlock=some x) w w3/\((slice a' l' c').ownBlock=(slice a l c).ownBlock\/∀g,(slice a' l' c').ownBlock=some g->w.heap.size<=g):=by
 obtain⟨t0,z,hi0,hz,hsz,hzs,hby⟩:=hT.ex;have k1:=kal e;have row1:=BA row k1 λ_ _ _ _=>id;have s1:=k1.sz;obtain⟨a',l',c',w2,happ,rfl,row2,k2,hb⟩:=JP (P:=prog) (t:=S0) (e:=T0) (i:=t0) (z:=z) (size:=s) hT.sl hi0 hz hsz hzs hT.pos row1 (AG e) (m:=1) (off:=0) (c:=1) (news:=cs) (by rw [List.drop_zero,Nat.one_mul,List.take_of_length_le (Nat.le_of_eq hc)]) (by rw [hc,Nat.one_mul]) h1 (by omega) hby (by omega);have h2:=(h.kept k1).kx k2 λx e=>by have:=(row1.lt x e).1;omega
 refine⟨a',_,c',w2,happ,h2.ws hi,λw3 e3=>?_⟩;obtain⟨h3,q⟩:=h2.st e3;have hkr:=h.krl;refine⟨rfl,h3,BA row2 q λx hx _ _ e=>by omega,((k1.AE λ_ _ e=>e.elim).trans k2 λx _ e=>.inr e).trans q λx _ e=>.inl e,?_⟩;rcases hb with hb|hb
 .exact .inl hb
 .exact .inr λg hg=>by have:=hb g hg;omega
def procs(S:AR)(P:Nat->PM)(q:Nat):List PM:=(range q).filterMap λi=>(S.sp i).map λ_=>P i
theorem MF(S:AR)(P:Nat->PM)(q:Nat):procs S P (q+1)=procs S P q++match S.sp q with|some _=>[P q]|none=>[]:=by
 unfold procs;rw [List.range_succ,List.filterMap_append];congr 1
 cases h:S.sp q <;> simp [h]
theorem B0z(S:AR)(P:Nat->PM)(q:Nat):(procs S P q).length<=q:=Nat.le_trans (List.length_filterMap_le _ _) (by simp)
def C3g(S:AR)(P:Nat->PM)(k:Nat)(w0:WD):Prop:=∀(i b:Nat) (W:WD),i<9->S.sp i=some b->AB AD w0 W->
 Calls prog 137 #[AP k,vi i,AP b] W λe w'=>∃(x y:Int) (a1:OA) (l1 c1:Nat) (a2:OA) (l2 c2:Nat) (a3:OA) (l3 c3:Nat) (a4:OA) (l4 c4:Nat),
  e=.returned (.agg #[vi x,vi y,.slice a1 l1 c1,.slice a2 l2 c2,.slice a3 l3 c3,.slice a4 l4 c4])/\AB AD W w'/\At (rng W w') (λW'=>OG W' [vi x,vi y,.slice a1 l1 c1,.slice a2 l2 c2,.slice a3 l3 c3,.slice a4 l4 c4] (P i)) w'
structure B98(W:WD)(base:Nat)(a:OA)(l c:Nat)(xs:List PM):Prop where
 ex:∃(vs:List Value) (G:NP),W.ownsRow base 147 6 (.slice a l c) l vs/\l=xs.length/\(∀(i:Nat) x,xs[i]? = some x->∃cs:List Value,cs.length=6/\(∀(j:Nat) u,cs[j]? = some u->vs[i*6+j]? = some u)/\At G (λW'=>OG W' cs x) W)/\
  (∀g,(slice a l c).ownBlock=some g->¬G g)/\(∀x,G x->base<=x/\x<W.heap.size)
theorem B98.kx{W':WD}{xs:List PM}(h:B98 W base a l c xs)(k:AB X W W')(hX:∀x,X x->x<base):B98 W' base a l c xs:=by
 obtain⟨vs,G,h1,h2,h3,h4,h5⟩:=h.ex;refine⟨vs,G,BA h1 k λx hx _ _ e=>by have:=hX x e;omega,h2,λi x hx=>?_,h4,λx hx=>⟨(h5 x hx).1,nll (h5 x hx).2 k.sz⟩⟩;obtain⟨cs,g1,g2,g3⟩:=h3 i x hx;exact⟨cs,g1,g2,g3.kx k λy e hy=>by have:=hX y e;have:=(h5 y hy).1;omega⟩
theorem B98.got{kr:Nat}{xs:List PM}(h:B98 W base a l c xs)(hk:kr<base):Got kr (λW'=>SlR OG 6 W' a l c xs) W:=by
 obtain⟨vs,G,h1,h2,h3,h4,h5⟩:=h.ex;refine⟨_,B3o (F:=G) h1 h2 (λx hx=>(h5 x hx).2) λi x hx=>?_,λx hx=>hx.elim (λe=>by have:=(h1.lt x e).1;omega) λe=>by have:=(h5 x e).1;omega⟩;obtain⟨cs,g1,g2,g3⟩:=h3 i x hx;exact⟨cs,g1,g2,g3.go⟩
def QG(S:AR)(P:Nat->PM):Pic:=
 ⟨S.c,(range S.n).map S.mks,(zsh S.Z.c S.L S.Z.k).map B93,(range S.AS).map S.held,(range S.AS).map λ_=>[],S.fli,procs S P 9,owns S.n S.rof,(range S.AK).map λi=>HZ (S.ring i),owns S.AY S.sof,[],
  (range S.AS).map λ_=>(range 8).map λ_=>[],(range S.AK).map λ_=>(range 8).map λ_=>[],(range (9+S.AK)).map λi=>wrap .i64 (S.lh i-1)⟩
def C6z(PS:B7h):List Value:=[PS.v 0,PS.v 1,PS.v 2,PS.v 3,PS.v 4,PS.v 5,PS.v 6,PS.v 7,PS.v 8,PS.v 9,PS.v 10,PS.v 11,PS.v 12]
def C68(PS:B7h)(c:NI):Value:=.agg (cfg c++C6z PS).toArray
set_option maxHeartbeats 4000000 in
theorem A25{w:WD}{k:Nat}{P:Nat->PM}(h:AO w k S fp)(hP:C3g S P k w)(hh:∀i,i<S.AS->(S.held i).length<=1000000)(hr:∀i,i<S.AK->(S.ring i).length<=100000)(hf:S.fli.length<=1000000) :
 Calls prog 47 #[AP k] w λe w'=>∃PS:B7h,e=.returned (C68 PS S.c)/\AB AD w w'/\At (rng w w') (λW=>C3h W PS (QG S P)) w':=by
 refine(vc47 (some ⟨k,0,none⟩) w (λv w'=>∃PS:B7h,v=C68 PS S.c/\AB AD w w'/\At (rng w w') (λW=>C3h W PS (QG S P)) w') ?_).AE ?_
 rotate_left
 .rintro e w' ⟨v,rfl,PS,rfl,h⟩;exact⟨PS,rfl,h⟩
 unfold Q;intro w1 e1 w2 e2;have ob1:=AG (c:=[AP k]) e1;have ob2:=ob1.al e2;have or2:=AG e2;have K2:AB AD w w2:=((AB.refl _ _).al e1).al e2;have hkb:w.heap.size<w1.heap.size:=ob1.lt;clear e1 e2;generalize hb0:w.heap.size=kb at *;generalize hr0:w1.heap.size=kr at *;have hs:=h.BQ;have hn:=h.n4;have C2:=h.k K2;refine⟨_,by rw [ob2.rd];rfl,AL rfl ⟨some ⟨k,0,none⟩,by rw [ob2.rd];rfl,AA rfl ⟨S.c,C2.C3q,or2.DJ 0 (by simp [AM]),λw3 e3=>?_⟩⟩⟩;have q3:AB (·=kr) w2 w3:=e3▸JF kr _ 0 w2;have or3:AX w3 kr (cfg S.c++[BC,BC,BC,BC,BC,BC,BC,BC,BC,BC,BC,BC,BC]):=by
  have:=KM kr (cfg S.c) 0 w2 _ or2;have el:∀(A B C:List Value),A.length=B.length->(A.zipIdx 0 |>.foldl (λc p=>c.set p.2 p.1) (B++C))=A++C:=λA B C hl=>by
   apply List.ext_getElem?;intro j;rw [IC A 0 _ j (by simp;omega)];split
   .rename_i hj;rw [Nat.sub_zero,gal (by omega)]
   .rename_i hj;rw [gar (by omega),gar (by omega),hl]
  have e4:AX (F5 w2 kr 0 (cfg S.c)) kr (cfg S.c++replicate 13 BC):=by
   have h2:=this;rw [el (cfg S.c) (replicate 94 (int IntKind.i64 0)) (replicate 13 BC) (by rw [AM];simp)] at h2;exact h2
  rw [<- e3] at e4;exact e4
 have I3:PI w w3 kb kr k S fp [BC,BC,BC,BC,BC,BC,BC,BC,BC,BC,BC,BC,BC]:=⟨h,⟨by omega,hkb⟩,BO K2 q3 λx e=>by omega,ob2.kx q3 (by omega),or3⟩;have G3:Got kr (λ_=>True) w3:=⟨λ_=>False,⟨λx e=>e.elim,λ_ _=>trivial⟩,λx e=>e.elim⟩;clear e3 or3 or2 ob1 ob2 q3 K2 C2;refine⟨_,I3.hk,AA rfl ⟨_,by show rd w3 k (0+94)=_;rw [za];exact I3.core.rt (j:=0) rfl,?_⟩⟩;obtain⟨bb,mb,M3,_⟩:=I3.core.at' .mem;refine(IF M3).AE ?_;rintro _ wx ⟨rfl,hx⟩;rw [hx];clear hx;refine⟨_,rfl,(B1p I3.core I3.hk).AE ?_⟩;rintro _ w4 ⟨as0,ls0,cs0,rfl,k4,A4⟩;refine⟨_,_,_,rfl,(I3.kept k4).ws (i:=0) (by simp),λw5 e5=>?_⟩;obtain⟨I5,G5⟩:=I3.stp (i:=0) G3 k4 A4 e5;clear e5 A4 k4 I3 G3;replace I5:PI w w5 kb kr k S fp [(.slice as0 ls0 cs0),BC,BC,BC,BC,BC,BC,BC,BC,BC,BC,BC,BC]:=I5;refine⟨_,I5.hk,AA rfl ⟨_,by show rd w5 k (0+95)=_;rw [za];exact I5.core.rt (j:=1) rfl,(A9j (I5.core.at' .zones).1).AE ?_⟩⟩;rintro _ wy ⟨v,rfl,hcall⟩;refine⟨v,rfl,hcall.AE ?_⟩;clear hcall;rintro _ w6 ⟨as1,ls1,cs1,rfl,k6,A6⟩;refine⟨_,_,_,rfl,(I5.kept k6).ws (i:=1) (by simp),λw7 e7=>?_⟩;obtain⟨I7,G7⟩:=I5.stp (i:=1) G5 k6 A6 e7;clear e7 A6 k6 I5 G5;replace I7:PI w w7 kb kr k S fp [(.slice as0 ls0 cs0),(.slice as1 ls1 cs1),BC,BC,BC,BC,BC,BC,BC,BC,BC,BC,BC]:=I7;refine⟨_,I7.hk,AA rfl ⟨S.c 1,by show rd w7 k (0+1)=_;rw [za];exact I7.core.rc (by omega),(B5j I7.core I7.hk hh).AE ?_⟩⟩;rintro _ w8 ⟨as2,ls2,cs2,rfl,k8,A8⟩;refine⟨_,_,_,rfl,(I7.kept k8).ws (i:=2) (by simp),λw9 e9=>?_⟩;obtain⟨I9,G9⟩:=I7.stp (i:=2) G7 k8 A8 e9;clear e9 A8 k8 I7 G7;replace I9:PI w w9 kb kr k S fp [(.slice as0 ls0 cs0),(.slice as1 ls1 cs1),(.slice as2 ls2 cs2),BC,BC,BC,BC,BC,BC,BC,BC,BC,BC]:=I9;refine⟨_,I9.hk,AA rfl ⟨S.c 1,by show rd w9 k (0+1)=_;rw [za];exact I9.core.rc (by omega),(A8t I9.core I9.hk).AE ?_⟩⟩;rintro _ w10 ⟨as3,ls3,cs3,rfl,k10,A10⟩;refine⟨_,_,_,rfl,(I9.kept k10).ws (i:=3) (by simp),λw11 e11=>?_⟩;obtain⟨I11,G11⟩:=I9.stp (i:=3) G9 k10 A10 e11;clear e11 A10 k10 I9 G9;replace I11:PI w w11 kb kr k S fp [(.slice as0 ls0 cs0),(.slice as1 ls1 cs1),(.slice as2 ls2 cs2),(.slice as3 ls3 cs3),BC,BC,BC,BC,BC,BC,BC,BC,BC]:=I11;obtain⟨afi,lfi,cfi,hvf,Rf,_⟩:=(I11.core.at' .flight).ex;refine⟨_,I11.hk,AA rfl ⟨afi,lfi,cfi,by
  show rd w11 k (0+116)=_
  rw [za,<- hvf];exact I11.core.rt (j:=22) rfl,(JO Rf.o hf).AE ?_⟩⟩
 rintro _ w12 ⟨as4,cs4,rfl,k12,R12⟩;have A12:At (rng w11 w12) (λW=>SlR GW 1 W as4 S.fli.length cs4 S.fli) w12:=R12.at.AE (λx hx=>R12.lt hx) λx hx=>hx.2;clear R12 Rf;refine⟨_,_,_,rfl,(I11.kept k12).ws (i:=4) (by simp),λw13 e13=>?_⟩;obtain⟨I13,G13⟩:=I11.stp (i:=4) G11 k12 A12 e13;clear e13 A12 k12 I11 G11;replace I13:PI w w13 kb kr k S fp [(.slice as0 ls0 cs0),(.slice as1 ls1 cs1),(.slice as2 ls2 cs2),(.slice as3 ls3 cs3),(.slice as4 S.fli.length cs4),BC,BC,BC,BC,BC,BC,BC,BC]:=I13;refine⟨_,I13.hk,AA rfl ⟨(S.sp 0).map λb=>⟨b,0,none⟩,(S.sp 1).map λb=>⟨b,0,none⟩,(S.sp 2).map λb=>⟨b,0,none⟩,(S.sp 3).map λb=>⟨b,0,none⟩,(S.sp 4).map λb=>⟨b,0,none⟩,(S.sp 5).map λb=>⟨b,0,none⟩,(S.sp 6).map λb=>⟨b,0,none⟩,(S.sp 7).map λb=>⟨b,0,none⟩,(S.sp 8).map λb=>⟨b,0,none⟩,?_,?_⟩⟩
 .refine I13.core.so.BB _ λj hj=>?_;rw [show po (some (Addr.mk k 0 none))+105+j=94+(11+j) by simp;omega,gar (by rw [AM];omega),AM,Nat.add_sub_cancel_left];simp at hj
  match j,hj with
  | 0,_|1,_|2,_|3,_|4,_|5,_|6,_|7,_|8,_=>rfl
 refine⟨λn W N=>∃(q:Nat) (pa:OA) (pl pc:Nat),n=q/\q<=9/\N=9-q/\AB (λx=>x=kr\/w13.heap.size<=x) w13 W/\PI w W kb kr k S fp [(.slice as0 ls0 cs0),(.slice as1 ls1 cs1),(.slice as2 ls2 cs2),(.slice as3 ls3 cs3),(.slice as4 S.fli.length cs4),(.slice pa pl pc),BC,BC,BC,BC,BC,BC,BC]/\B98 W w13.heap.size pa pl pc (procs S P q),
  ⟨9,0,none,0,0,rfl,by omega,rfl,AB.refl _ _,I13,⟨[],λ_=>False,World.ownsRow_nil _ _ _ _,rfl,λi x hx=>by simp [procs] at hx,λg _ e=>e,λx e=>e.elim⟩⟩,?_⟩
 rintro _ w14 _ ⟨q,pa,pl,pc,rfl,hq,rfl,k14,I14,R14⟩;have hkr13:=I13.krl;have hsz14:=k14.sz;refine AH (λhc=>?_) (λhc=>?_)
 .have hq9:q<9:=by simp at hc;omega
  refine Wi ⟨(S.sp q).map λb=>⟨b,0,none⟩,?_,?_⟩
  .rw [tnc,mo]
   match q,hq9 with
   | 0,_|1,_|2,_|3,_|4,_|5,_|6,_|7,_|8,_=>rfl
  cases hsp:S.sp q with
  | none=>
   refine AL rfl ⟨9-(q+1),by omega,q+1,pa,pl,pc,wzz,hq9,rfl,k14,I14,?_⟩;rw [MF,hsp];simpa using R14
  | some b=>
   refine AA rfl λw15 e15=>?_;have k15:=kdr e15;have I15:=I14.kept k15;refine⟨pa,pl,pc,I15.rs (i:=5) rfl,_,I15.hk,(hP q b w15 hq9 hsp I15.K0).AE ?_⟩;rintro _ w16 ⟨x,y,a1,l1,c1,a2,l2,c2,a3,l3,c3,a4,l4,c4,rfl,k16,A16⟩;have I16:=I15.kept k16;refine⟨x,y,a1,l1,c1,a2,l2,c2,a3,l3,c3,a4,l4,c4,rfl,⟨I16.rs (i:=5) rfl,trivial⟩,λw17 e17=>⟨⟨(I16.kept ((AB.refl _ _).al e17)).rs (i:=5) rfl,trivial⟩,?_⟩⟩;obtain⟨vs,GG,row,hl,hel,hgG,hGb⟩:=((R14.kx k15 λx e=>e.elim).kx k16 λx e=>e.elim).ex;have hpl:=B0z S P q;have hsz16:=I16.krl;have hz3:=k16.sz;have hz2:=k15.sz;obtain⟨a',l',c',w18,happ,hwr,hst⟩:=I16.add C2a (i:=5) (by simp) row ⟨by omega,by omega⟩ rfl (λu hu=>by simp at hu;rcases hu with rfl|rfl|rfl|rfl|rfl|rfl <;> rfl) (by omega) e17;refine⟨a',l',c',w18,happ,hwr,λw19 e19=>?_⟩;obtain⟨rfl,I19,row6,k19,hb6⟩:=hst w19 e19;have K6:AB (λx=>x=kr\/w13.heap.size<=x) w13 w19:=(k14.tr (k15.tr k16)).trans k19 λx _ e=>e.imp id λe=>(row.lt x e).1;refine⟨9-(q+1),by omega,q+1,a',_,c',wzz,hq9,rfl,K6,I19,⟨_,λx=>GG x\/rng w15 w16 x,row6,?_,λi z hz=>?_,λg hg hG=>?_,λz hz=>?_⟩⟩
   .rw [MF,hsp,lap,hl];rfl
   .rw [MF,hsp] at hz;have hk6:=k19.sz;rcases Nat.lt_or_ge i (procs S P q).length with hlt|hge
    .rw [gal hlt] at hz;obtain⟨ds,g1,g2,g3⟩:=hel i z hz;refine⟨ds,g1,λj u hu=>?_,(g3.kx k19 λy e hy=>?_).AE (λ_ h=>.inl h) λy hy=>?_⟩
     .have:=g2 j u hu;rw [gal (DC.1 this).1];exact this
     .rcases e with e|e
      .have:=(hGb y hy).1;omega
      .exact hgG y e hy
     .rcases hy with hy|hy
      .have:=(hGb y hy).2;omega
      .have:=hy.2;omega
    .rw [gar hge] at hz;have hj:i-(procs S P q).length=0:=by have:=(DC.1 hz).1;simp at this;omega
     rw [hj] at hz
     cases hz
     have hj:i=(procs S P q).length:=by omega
     subst hj;refine⟨_,rfl,λj u hu=>?_,(A16.kx k19 λy e hy=>?_).AE (λ_ h=>.inr h) λy hy=>?_⟩
     .rw [gar (by rw [row.1,hl];omega),row.1,hl,Nat.add_sub_cancel_left];exact hu
     .rcases e with e|e
      .have:=hy.1;omega
      .have:=(row.lt y e).2;have h1:=hy.1;have hold:=((R14.kx k15 λx e=>e.elim)).ex;obtain⟨_,_,row2,_⟩:=hold;have:=(row2.lt y e).2;omega
     .rcases hy with hy|hy
      .have:=(hGb y hy).2;omega
      .have:=hy.2;omega
   .rcases hb6 with e|e
    .rw [e] at hg;rcases hG with hG|hG
     .exact hgG g hg hG
     .obtain⟨_,_,row2,_⟩:=((R14.kx k15 λx e=>e.elim)).ex;have:=(row2.lt g hg).2;have:=hG.1;omega
    .have:=e g hg;rcases hG with hG|hG
     .have:=(hGb g hG).2;omega
     .have:=hG.2;omega
   .have hk6:=k19.sz;rcases hz with hz|hz
    .have:=hGb z hz;exact⟨this.1,by omega⟩
    .have h1:=hz.1;have h2:=hz.2;exact⟨by omega,by omega⟩
 have hq9:q=9:=by simp at hc;omega
 subst hq9;have G14:=(G13.kx k14 λx e=>e).and (R14.got (kr:=kr) hkr13);clear k14 R14 G13 I13 hsz14 hq;refine⟨_,I14.hk,AA rfl ⟨_,by show rd w14 k (0+94)=_;rw [za];exact I14.core.rt (j:=0) rfl,?_⟩⟩;obtain⟨bb2,mb2,M2,_⟩:=I14.core.at' .mem;refine(IF M2).AE ?_;rintro _ wx ⟨rfl,hx⟩;rw [hx];clear hx M2;refine⟨_,rfl,?_⟩;refine⟨λn W N=>∃(q:Nat) (fa6:OA) (fc6:Nat),n=q/\q<=S.n/\N=S.n-q/\AB (λx=>x=kr\/w14.heap.size<=x) w14 W/\PI w W kb kr k S fp [(.slice as0 ls0 cs0),(.slice as1 ls1 cs1),(.slice as2 ls2 cs2),(.slice as3 ls3 cs3),(.slice as4 S.fli.length cs4),(.slice pa pl pc),(.slice fa6 (owns q S.rof).length fc6),BC,BC,BC,BC,BC,BC]/\W.ownsRow w14.heap.size 151 3 (.slice fa6 (owns q S.rof).length fc6) (owns q S.rof).length ((owns q S.rof).flatMap B62),
  ⟨S.n,0,none,0,rfl,by omega,rfl,AB.refl _ _,I14,World.ownsRow_nil _ _ _ _⟩,?_⟩
 have hkr14:=I14.krl;rintro _ w15 _ ⟨q,fa6,fc6,rfl,hq,rfl,k15,I15,R15⟩;have hsz15:=k15.sz;have hol:=A1g q S.rof;refine AH (λhc=>?_) (λhc=>?_)
 .have hqn:q<S.n:=by simp at hc;omega
  refine⟨_,I15.hk,AA rfl ⟨_,by show rd w15 k (0+98)=_;rw [za];exact I15.core.rt (j:=4) rfl,?_⟩⟩;obtain⟨fb,mb,RM,_⟩:=I15.core.at' .rmap;refine(A2s RM hqn).AE ?_;rintro _ w16 ⟨rfl,k16⟩;have I16:=I15.kept k16;have row:=BA R15 k16 λ_ _ _ _=>id;refine⟨_,_,_,rfl,AH (λhb=>?_) (λhb=>?_)⟩
  .refine⟨_,_,_,I16.rs (i:=6) rfl,λw17 e17=>?_⟩;have hz2:=k16.sz;obtain⟨a',l',c',w18,happ,hwr,hst⟩:=I16.add C2b (i:=6) (cs:=B62 ⟨q,(S.rof q).1,(S.rof q).2⟩) (by simp) row ⟨by omega,by omega⟩ rfl (λu hu=>by simp [B62] at hu;rcases hu with rfl|rfl|rfl <;> rfl) (by omega) e17;refine⟨a',l',c',w18,happ,hwr,λw19 e19=>?_⟩;obtain⟨rfl,I19,row5,k19,_⟩:=hst w19 e19;have e1:owns (q+1) S.rof=owns q S.rof++[⟨q,(S.rof q).1,(S.rof q).2⟩]:=by rw [H6,if_pos hb]
   have e2:(owns (q+1) S.rof).length=(owns q S.rof).length+1:=by rw [e1,lap];rfl
   refine⟨S.n-(q+1),by omega,q+1,a',c',wzz,hqn,rfl,(k15.tr k16).trans k19 λx _ e=>e.imp id λe=>(row.lt x e).1,?_,?_⟩
   .rw [e2];exact I19
   .rw [e2,e1,List.flatMap_append];simpa using row5
  .have e1:owns (q+1) S.rof=owns q S.rof:=by rw [H6,if_neg (by simpa using hb),List.append_nil]
   refine⟨S.n-(q+1),by omega,q+1,fa6,fc6,wzz,hqn,rfl,k15.tr k16,?_,?_⟩
   .rw [e1];exact I16
   .rw [e1];exact row
 have hqe:q=S.n:=by simp at hc;omega
 subst hqe;have G15:=(G14.kx k15 λx e=>e).and (ψ:=λW=>SlR B7g 3 W fa6 (owns S.n S.rof).length fc6 (owns S.n S.rof)) ⟨_,IL (f:=B62) (λ_=>rfl) R15 rfl,λx hx=>by have:=(R15.lt x hx).1;omega⟩;clear k15 R15 G14 I14 hsz15 hq hol;generalize hfl6:(owns S.n S.rof).length=fl6 at *;refine⟨_,I15.hk,AA rfl ⟨S.c 0,by show rd w15 k 0=_;exact I15.core.rc (by omega),(A9a I15.core I15.hk hr).AE ?_⟩⟩;rintro _ w16 ⟨as7,ls7,cs7,rfl,k16,A16⟩;refine⟨_,_,_,rfl,(I15.kept k16).ws (i:=7) (by simp),λw17 e17=>?_⟩;obtain⟨I17,G17⟩:=I15.stp (i:=7) G15 k16 A16 e17;clear e17 A16 k16 I15 G15;replace I17:PI w w17 kb kr k S fp [(.slice as0 ls0 cs0),(.slice as1 ls1 cs1),(.slice as2 ls2 cs2),(.slice as3 ls3 cs3),(.slice as4 S.fli.length cs4),(.slice pa pl pc),(.slice fa6 fl6 fc6),(.slice as7 ls7 cs7),BC,BC,BC,BC,BC]:=I17;refine⟨_,I17.hk,AA rfl ⟨(S.AY:Int),by show rd w17 k (0+90)=_;rw [za,I17.core.rc (by omega),hs.2.2.2],?_⟩⟩;refine⟨λn W N=>∃(q:Nat) (fa8:OA) (fc8:Nat),n=q/\q<=S.AY/\N=S.AY-q/\AB (λx=>x=kr\/w17.heap.size<=x) w17 W/\PI w W kb kr k S fp [(.slice as0 ls0 cs0),(.slice as1 ls1 cs1),(.slice as2 ls2 cs2),(.slice as3 ls3 cs3),(.slice as4 S.fli.length cs4),(.slice pa pl pc),(.slice fa6 fl6 fc6),(.slice as7 ls7 cs7),(.slice fa8 (owns q S.sof).length fc8),BC,BC,BC,BC]/\W.ownsRow w17.heap.size 151 3 (.slice fa8 (owns q S.sof).length fc8) (owns q S.sof).length ((owns q S.sof).flatMap B62),
  ⟨S.AY,0,none,0,rfl,by omega,rfl,AB.refl _ _,I17,World.ownsRow_nil _ _ _ _⟩,?_⟩
 have hkr17:=I17.krl;rintro _ w18 _ ⟨q,fa8,fc8,rfl,hq,rfl,k18,I18,R18⟩;have hsz18:=k18.sz;have hol:=A1g q S.sof;refine AH (λhc=>?_) (λhc=>?_)
 .have hqn:q<S.AY:=by simp at hc;omega
  refine⟨_,I18.hk,AA rfl ⟨_,by show rd w18 k (0+99)=_;rw [za];exact I18.core.rt (j:=5) rfl,?_⟩⟩;obtain⟨fb,SM,_⟩:=I18.core.at' .AY;refine(A8d SM hqn).AE ?_;rintro _ w19 ⟨rfl,k19⟩;have I19:=I18.kept k19;have row:=BA R18 k19 λ_ _ _ _=>id;refine⟨_,_,_,rfl,AH (λhb=>?_) (λhb=>?_)⟩
  .refine⟨_,_,_,I19.rs (i:=8) rfl,λw20 e20=>?_⟩;have hz2:=k19.sz;obtain⟨a',l',c',w21,happ,hwr,hst⟩:=I19.add C2b (i:=8) (cs:=B62 ⟨q,(S.sof q).1,(S.sof q).2⟩) (by simp) row ⟨by omega,by omega⟩ rfl (λu hu=>by simp [B62] at hu;rcases hu with rfl|rfl|rfl <;> rfl) (by omega) e20;refine⟨a',l',c',w21,happ,hwr,λw22 e22=>?_⟩;obtain⟨rfl,I22,row5,k22,_⟩:=hst w22 e22;have e1:owns (q+1) S.sof=owns q S.sof++[⟨q,(S.sof q).1,(S.sof q).2⟩]:=by rw [H6,if_pos hb]
   have e2:(owns (q+1) S.sof).length=(owns q S.sof).length+1:=by rw [e1,lap];rfl
   refine⟨S.AY-(q+1),by omega,q+1,a',c',wzz,hqn,rfl,(k18.tr k19).trans k22 λx _ e=>e.imp id λe=>(row.lt x e).1,?_,?_⟩
   .rw [e2];exact I22
   .rw [e2,e1,List.flatMap_append];simpa using row5
  .have e1:owns (q+1) S.sof=owns q S.sof:=by rw [H6,if_neg (by simpa using hb),List.append_nil]
   refine⟨S.AY-(q+1),by omega,q+1,fa8,fc8,wzz,hqn,rfl,k18.tr k19,?_,?_⟩
   .rw [e1];exact I19
   .rw [e1];exact row
 have hqe:q=S.AY:=by simp at hc;omega
 subst hqe;have G18:=(G17.kx k18 λx e=>e).and (ψ:=λW=>SlR B7g 3 W fa8 (owns S.AY S.sof).length fc8 (owns S.AY S.sof)) ⟨_,IL (f:=B62) (λ_=>rfl) R18 rfl,λx hx=>by have:=(R18.lt x hx).1;omega⟩;clear k18 R18 G17 I17 hsz18 hq hol;generalize hfl8:(owns S.AY S.sof).length=fl8 at *;obtain⟨g,cp,u0,H0,hvc,hrg,_,_,_⟩:=(I18.core.at' .caches).one (B:=λ_=>BM (λi=>CE (sz i)) 8) (i:=0) (λ_ _=>BM.stb λ_ _=>CE.stb) (by omega) λ_ _=>rfl;have hgl:g<w18.heap.size:=J3 hrg;refine⟨_,I18.hk,AA rfl ⟨some ⟨g,0,none⟩,S.AK,cp,by
  show rd w18 k (0+101)=_
  rw [za,<- hvc];exact I18.core.rt (j:=7) rfl,?_⟩⟩
 refine⟨λn W N=>∃q:Nat,n=q/\q<=S.AK/\N=S.AK-q/\AB AD w18 W,⟨S.AK,0,rfl,by omega,rfl,AB.refl _ _⟩,?_⟩;rintro _ w19 _ ⟨q,rfl,hq,rfl,k19⟩;refine AH (λhc=>?_) (λhc=>?_)
 .have hqn:q<S.AK:=by simp at hc;omega
  have C1:=(I18.kept k19).core;obtain⟨g1,cp1,u,H,hv1,hr1,hA1,_,_⟩:=(C1.at' .caches).one (B:=λ_=>BM (λi=>CE (sz i)) 8) (i:=q) (λ_ _=>BM.stb λ_ _=>CE.stb) hqn λ_ _=>rfl;have eg:g1=g:=by rw [hvc] at hv1;cases hv1;rfl
  subst eg;obtain⟨g2,cp2,_,_,rfl,_,_,_,_⟩:=hA1.one (B:=λi=>CE (sz i)) (i:=0) (λ_ _=>CE.stb) (by omega) λ_ _=>rfl;refine AA rfl (Wi ⟨some ⟨g2,0,none⟩,8,cp2,by rw [tnc,mo];show rd w19 g1 (0+q)=_;rw [za];exact hr1,?_⟩);refine⟨λn W N=>∃r:Nat,n=r/\r<=8/\N=8-r/\AB AD w18 W,⟨8,0,rfl,by omega,rfl,k19⟩,?_⟩;rintro _ w20 _ ⟨r,rfl,hr8,rfl,k20⟩;refine AH (λhc2=>?_) (λhc2=>⟨S.AK-(q+1),by omega,q+1,wzz,hqn,rfl,k20⟩);have hr8':r<8:=by simp at hc2;omega
  have C2:=(I18.kept k20).core;obtain⟨g3,cp3,u3,H3,hv3,hr3,hA3,_,_⟩:=(C2.at' .caches).one (B:=λ_=>BM (λi=>CE (sz i)) 8) (i:=q) (λ_ _=>BM.stb λ_ _=>CE.stb) hqn λ_ _=>rfl;have eg:g3=g1:=by rw [hvc] at hv3;cases hv3;rfl
  subst eg;obtain⟨g4,cp4,u4,H4,rfl,hr4,hA4,_,_⟩:=hA3.one (B:=λi=>CE (sz i)) (i:=r) (λ_ _=>CE.stb) hr8' λ_ _=>rfl;have eg42:g4=g2:=by
   have h1:=(k19.trans (X:=AD) (Y:=AD) (AB.refl AD _) λ_ _ e=>e).rdE g3 q;have e1:=hr1;have e3:=hr3;rw [k19.rdE g3 q (hgl)] at e1;rw [k20.rdE g3 q (hgl)] at e3;rw [e1] at e3
   cases e3
   rfl
  subst eg42;obtain⟨b,_,rfl,_⟩:=hA4.ex;refine AA rfl (Wi ⟨some ⟨b,0,none⟩,by rw [tnc,mo];show rd w20 g4 (0+r)=_;rw [za];exact hr4,(B2k hA4).AE ?_⟩);rintro _ w21 ⟨a0,c0,rfl,k21⟩;refine⟨_,_,_,rfl,λn W N=>n=0/\AB AD w18 W,⟨0,rfl,k20.tr k21⟩,?_⟩;rintro _ w22 _ ⟨rfl,k22⟩;exact AL (by simp) ⟨8-(r+1),by omega,r+1,wzz,hr8',rfl,k22⟩
 have hqe:q=S.AK:=by simp at hc;omega
 subst hqe;have I19:=I18.kept k19;have G19:=G18.kx k19 λx e=>e.elim;clear I18 G18 k19 hq hc;refine⟨_,I19.hk,AA rfl ⟨S.c 1,by show rd w19 k (0+1)=_;rw [za];exact I19.core.rc (by omega),(B48 I19.core I19.hk).AE ?_⟩⟩;rintro _ w20 ⟨as10,ls10,cs10,rfl,k20,A20⟩;refine⟨_,_,_,rfl,(I19.kept k20).ws (i:=10) (by simp),λw21 e21=>?_⟩;obtain⟨I21,G21⟩:=I19.stp (i:=10) G19 k20 A20 e21;clear e21 A20 k20 I19 G19;replace I21:PI w w21 kb kr k S fp [(.slice as0 ls0 cs0),(.slice as1 ls1 cs1),(.slice as2 ls2 cs2),(.slice as3 ls3 cs3),(.slice as4 S.fli.length cs4),(.slice pa pl pc),(.slice fa6 fl6 fc6),(.slice as7 ls7 cs7),(.slice fa8 fl8 fc8),BC,(.slice as10 ls10 cs10),BC,BC]:=I21;refine⟨_,I21.hk,AA rfl ⟨S.c 0,by show rd w21 k 0=_;exact I21.core.rc (by omega),(A8z I21.core I21.hk).AE ?_⟩⟩;rintro _ w22 ⟨as11,ls11,cs11,rfl,k22,A22⟩;refine⟨_,_,_,rfl,(I21.kept k22).ws (i:=11) (by simp),λw23 e23=>?_⟩;obtain⟨I23,G23⟩:=I21.stp (i:=11) G21 k22 A22 e23;clear e23 A22 k22 I21 G21;replace I23:PI w w23 kb kr k S fp [(.slice as0 ls0 cs0),(.slice as1 ls1 cs1),(.slice as2 ls2 cs2),(.slice as3 ls3 cs3),(.slice as4 S.fli.length cs4),(.slice pa pl pc),(.slice fa6 fl6 fc6),(.slice as7 ls7 cs7),(.slice fa8 fl8 fc8),BC,(.slice as10 ls10 cs10),(.slice as11 ls11 cs11),BC]:=I23;refine⟨_,I23.hk,AA rfl ⟨_,by show rd w23 k (0+97)=_;rw [za];exact I23.core.rt (j:=3) rfl,(A4x (I23.core.at' .locks).1).AE ?_⟩⟩;rintro _ wx ⟨rfl,hx⟩;rw [hx];clear hx;refine⟨_,rfl,(A44 I23.core I23.hk).AE ?_⟩;rintro _ w24 ⟨as12,ls12,cs12,rfl,k24,A24⟩;refine⟨_,_,_,rfl,(I23.kept k24).ws (i:=12) (by simp),λw25 e25=>?_⟩;obtain⟨I25,G25⟩:=I23.stp (i:=12) G23 k24 A24 e25;clear e25 A24 k24 I23 G23;replace I25:PI w w25 kb kr k S fp [(.slice as0 ls0 cs0),(.slice as1 ls1 cs1),(.slice as2 ls2 cs2),(.slice as3 ls3 cs3),(.slice as4 S.fli.length cs4),(.slice pa pl pc),(.slice fa6 fl6 fc6),(.slice as7 ls7 cs7),(.slice fa8 fl8 fc8),BC,(.slice as10 ls10 cs10),(.slice as11 ls11 cs11),(.slice as12 ls12 cs12)]:=I25;have whole:=I25.okr;refine⟨S.c,as0,ls0,cs0,as1,ls1,cs1,as2,ls2,cs2,as3,ls3,cs3,as4,S.fli.length,cs4,pa,pl,pc,fa6,fl6,fc6,as7,ls7,cs7,fa8,fl8,fc8,none,0,0,as10,ls10,cs10,as11,ls11,cs11,as12,ls12,cs12,whole.BB 0 (λj hj=>by rw [za]),whole.DJ 0 (by rw [za];exact nlr _),λw26 e26=>?_⟩;obtain⟨o26,q26⟩:=F4 whole e26 rfl;refine⟨S.c,as0,ls0,cs0,as1,ls1,cs1,as2,ls2,cs2,as3,ls3,cs3,as4,S.fli.length,cs4,pa,pl,pc,fa6,fl6,fc6,as7,ls7,cs7,fa8,fl8,fc8,none,0,0,as10,ls10,cs10,as11,ls11,cs11,as12,ls12,cs12,o26.BB 0 (λj hj=>by rw [za]),?_⟩;have G26:=G25.kx q26 λx e=>.inl e;obtain⟨F,hF,hFk⟩:=G26.ex;refine⟨⟨λi=>[as0,as1,as2,as3,as4,pa,fa6,as7,fa8,none,as10,as11,as12].getD i none,λi=>[ls0,ls1,ls2,ls3,S.fli.length,pl,fl6,ls7,fl8,0,ls10,ls11,ls12].getD i 0,λi=>[cs0,cs1,cs2,cs3,cs4,pc,fc6,cs7,fc8,0,cs10,cs11,cs12].getD i 0⟩,rfl,BO I25.K0 q26 λx e=>by omega,(hF.imp λW hW=>?_).AE (λx hx=>⟨by have:=hFk x hx;omega,hF.lt x hx⟩) λx hx=>hx.2⟩;obtain⟨⟨⟨⟨⟨⟨⟨⟨⟨⟨⟨⟨_,h0⟩,h1⟩,h2⟩,h3⟩,h4⟩,h5⟩,h6⟩,h7⟩,h8⟩,h10⟩,h11⟩,h12⟩:=hW;exact⟨h0,h1,h2,h3,h4,h5,h6,h7,h8,SlR.MG,h10,h11,h12⟩
