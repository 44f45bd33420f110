/- Part of an engine. Proved: its laws. Conditions: those in each theorem. -/
import Derived.Test.YtdgbechegbmpcaaGreatDoorEngF
import Derived.OrdersHeld
import Derived.RangeFuncSeq
import Derived.RangeFuncLeaves
import Derived.TacticsIn
import Derived.OrdersIn
import Derived.Scope
set_option linter.unusedSimpArgs false
set_option linter.unusedVariables false
namespace Go.Eng
structure AgK(S:List Nat)(a0:Act)(D:List Deferred)(e:Env)(a:Act):Prop where
 ag:BN e a
 size:a.tmps.size=a0.tmps.size
 defs:a.defers=D
 keep:∀t,t∉S->a.tmps[t]? = a0.tmps[t]?
theorem AgK.put{S:List Nat}{a0:Act}{D:List Deferred}{e e':Env}{a:Act}(h:AgK S a0 D e a){d:Option Tmp}{v:Value}(hd:∀t,d=some t->t∈S)(h':BN e' (a.put d v)):AgK S a0 D e' (a.put d v):=by
 refine⟨h',by rw [<- h.size];cases d <;> simp [Act.put],by rw [<- h.defs];cases d <;> rfl,λt ht=>?_⟩;rw [<- h.keep t ht]
 cases d with
 | none=>rfl
 | some d=>
  have:d≠t:=λhx=>ht (hx▸hd d rfl);simp [Act.put,Array.getElem?_setIfInBounds_ne this]
def FR(r:Option Nat):Fence:={Fence.wide with round:=r}
@[simp] theorem FR_round (r:Option Nat):(FR r).round=r:=rfl
theorem B3v:FR none=Fence.wide:=rfl
theorem RD(r:Option Nat)(f:FuncId):(FR r).fn f:=trivial
theorem MR{r:Option Nat}{n:Nat}{P:Program}{f:FuncId}{args:Array Value}{w:World}{R:Ending->World->Prop}:CallsIn (FR r) n P f args w R↔Calls P f args w R:=
 ⟨λh=>(callsIn_wide (n:=n)).1 h,λh=>(callsIn_wide (n:=n)).2 h⟩
theorem B0n{r:Option Nat}{n:Nat}{P:Program}{row:String}{args:Array Value}{w:World}{R:Value->World->Prop}(h:Rows P row args w R):RowsIn (FR r) n P row args w R:=λc cs _=>by
 obtain⟨v,w',hr,hs⟩:=h c cs;exact⟨v,w',hr,stepsIn_wide.2 hs⟩
def J5:Op->Bool
 | .defer _=>false
 | _=>true
theorem QJ{o:Op}(h:J5 o=true):∀c,o≠.defer c:=λc e=>by subst e;cases h
theorem B41{r:Option Nat}{n:Nat}{P:Program}{o:Oper}{a:Act}{w:World}{K:Act->World->Prop}{Q:Exit->Act->World->Prop}(hd:J5 o.op=true)(h:o.wp P a w K Q):o.wpIn (FR r) n P a w K Q:=by
 refine⟨λf _=>RD r f,?_⟩;rw [FR_round,Oper.semAt_eq r a.eval o (QJ hd)];unfold Oper.wp at h;generalize (execOp a.eval o).run P w=x at h ⊢;unfold Oper.upon at h;unfold Oper.uponIn;split at h <;> first|exact h|skip
 .exact⟨λhh=>(by cases hh),MR.2 h⟩
 .exact⟨λhh=>(by cases hh),B0n h⟩
 .exact h.elim
theorem A34{r:Option Nat}{n:Nat}{P:Program}{md:Region.Mode}{ops:Array Oper}{Q:Exit->Act->World->Prop}(hq:¬LetsOut Q)(hd:∀o∈ops.toList,J5 o.op=true) :
 ∀(fuel:Nat) (listed:Array Bool) (a:Act) (w:World),wpAny P md ops Q fuel listed a w->wpAnyIn (FR r) n P md ops Q fuel listed a w
 | 0,_,_,_,h=>h
 | fuel+1,listed,a,w,h=>by
  refine⟨h.1,λi hi=>?_⟩;have h2:=h.2 i hi;unfold wpOp at h2;unfold wpOpIn
  cases ho:ops[i]? with
  | none=>
   rw [ho] at h2;exact A34 hq hd fuel _ _ _ h2
  | some o=>
   rw [ho] at h2;dsimp only at h2 ⊢;have hm:o∈ops.toList:=by
    obtain⟨hlt,e⟩:=FK.1 ho;rw [<- e];simp
   split
   .rename_i hw;rw [if_pos hw] at h2;rcases h2 with h2|⟨_,h2⟩
    .exact B41 (hd o hm) (Oper.wp_mono (λa w hh=>A34 hq hd fuel _ a w hh) h2)
    .exact absurd h2 hq
   .rename_i hw;rw [if_neg hw] at h2;exact⟨λf _=>RD r f,A34 hq hd fuel _ _ _ h2⟩
def opqC(ys:List Nat)(o:Oper):Bool:=
 match o.op with
 | .call {callee:=.value (.tmp t),..}=>ys.any (·==t+1000000)
 | _=>false
def C2d(P:Program)(H:Hand)(ys:List Nat)(ρ:Operand->Option Value)(o:Oper)(w:World)(K:Value->World->Prop):Prop:=
 match opqC ys o with
 | true=>
  (match o.op with
   | .call {callee:=.value x,args:=args,..}=>
    (match ρ x,IZ ρ args.toList with
     | some v,some vs=>AN P v vs w λe w'=>C0y P (C64 P o.type) λu=>e=.returned u/\K u w'
     | _,_=>False)
   | _=>False)
 | false=>eOp P H ρ o w K
theorem MO{P:Program}{w:World}{H:Hand}(hH:GJ P H){ys:List Nat}{ρ:Operand->Option Value}{a:Act}(hρ:∀x u,ρ x=some u->a.eval x=u){o:Oper}{K:Value->World->Prop}
 (h:C2d P H ys ρ o w K) {next:Act->World->Prop}{Q:Exit->Act->World->Prop} (hK:∀v w',K v w'->next (a.put o.dst v) w'):o.wp P a w next Q:=by
 unfold C2d at h;split at h
 .split at h
  .rename_i x args ts ho;split at h
   .rename_i v vs hx hvs;have h1:args.map a.eval=vs.toArray:=by rw [<- D7 hρ hvs,<- Array.toList_map]
    obtain⟨f,p,c,rfl,hcb,h⟩:=h;unfold Oper.wp;simp only [execOp,ho,resolve,hρ _ _ hx,Deferred.ofValue,srb,srp,ato,invoke,h1,EK hcb];rw [Oper.upon_enter];refine h.AE λe w' he=>?_;obtain⟨v,rfl,hk⟩:=OS he;exact hK _ _ hk
   .exact h.elim
  .exact h.elim
 .exact A3v hH hρ h hK
def A50(P:Program)(H:Hand)(ys:List Nat)(e:Env)(o:Oper)(g:Option (Nat×Bool))(w:World)(next:Env->World->Prop):Prop:=
 match g with
 | none=>C2d P H ys (rdO [] e) o w λv w'=>next (IT e o.dst ⟨none,v,none⟩) w'
 | some p=>ON (λe'=>C2d P H ys (rdO [] e') o w λv w'=>next (IT e' o.dst ⟨none,v,none⟩) w') (λe'=>next (IT e' o.dst ⟨none,undef,none⟩) w) 8 e p
theorem MZ{P:Program}{H:Hand}(hH:GJ P H){ys:List Nat}{ops:List Oper}{e:Env}{a:Act}{o:Oper}{g:Option (Nat×Bool)}{w:World}{next:Env->World->Prop}
 (h:BN e a) (hg:MI ops o=some g) (hw:A50 P H ys e o g w next) {K:Act->World->Prop}{Q:Exit->Act->World->Prop}
 (hK:∀e' v w',next e' w'->BN e' (a.put o.dst v)->K (a.put o.dst v) w') :
 (Region.wanted o (yielded ops.toArray a.tmps)=true/\o.wp P a w K Q)\/(Region.wanted o (yielded ops.toArray a.tmps)=false/\K (a.put o.dst undef) w):=by
 have hwi:=FN hg a;unfold A50 at hw;split at hw
 .exact .inl ⟨hwi.2 trivial,MO hH (CC h (by simp)) hw λv w' hn=>hK _ _ _ hn (h.put _ _ rfl)⟩
 .rename_i p;rcases PW 8 e p h hw with⟨hp,e',he',hx⟩|⟨hp,e',he',hx⟩
  .exact .inl ⟨hwi.2 hp,MO hH (CC he' (by simp)) hx λv w' hn=>hK _ _ _ hn (he'.put _ _ rfl)⟩
  .refine .inr ⟨?_,hK _ _ _ hx (he'.put _ _ rfl)⟩
   cases hy:Region.wanted o (yielded ops.toArray a.tmps) with
   | false=>rfl
   | true=>exact absurd (hwi.1 hy) hp
structure EW(P:Program)(l:Nat)(args:List Value)(w:World)(R:Ending->World->Prop):Prop where
 run:YieldAt Fence.wide 0 P l args.toArray w R
def A5v(ys:List Nat)(ρ:Operand->Option Value)(o:Oper):Option (Nat×List Value):=
 match o.op with
 | .call {callee:=.value (.tmp t),args:=args,..}=>
  (match ys.any (·==t) with
   | true=>(match ρ (.tmp t),IZ ρ args.toList with
    | some (.func (.yield l) f c),some vs=>(match f.toList,c.toList with|[],[]=>some (l,vs)|_,_=>none)
    | _,_=>none)
   | false=>none)
 | _=>none
def B6s(ys:List Nat)(ρ:Operand->Option Value)(o:Oper):Option (Value×List Value):=
 match o.op with
 | .call {callee:=.value (.tmp t),args:=args,..}=>
  (match ys.any (·==t+2000000) with
   | true=>(match ρ (.tmp t),IZ ρ args.toList with
    | some v,some vs=>some (v,vs)
    | _,_=>none)
   | false=>none)
 | _=>none
def C4u(ys:List Nat)(o:Oper):Bool:=
 match o.op with
 | .call {callee:=.value (.tmp t),..}=>ys.any (·==t)
 | _=>false
def C7d(P:Program)(H:Hand)(ys:List Nat)(e:Env)(o:Oper)(w:World)(next:Env->World->Prop):Prop:=
 match A5v ys (rdO [] e) o with
 | some (l,vs)=>EW P l vs w λr w'=>∃b:Bool,r=.returned (.bool b)/\next (IT e o.dst ⟨none,.bool b,none⟩) w'
 | none=>C2d P H ys (rdO [] e) o w λv w'=>next (IT e o.dst ⟨none,v,none⟩) w'
def B6t(P:Program)(H:Hand)(ys:List Nat)(e:Env)(o:Oper)(g:Option (Nat×Bool))(w:World)(next:Env->World->Prop):Prop:=
 match g,A5v ys (rdO [] e) o with
 | none,some (l,vs)=>EW P l vs w λr w'=>∃b:Bool,r=.returned (.bool b)/\next (IT e o.dst ⟨none,.bool b,none⟩) w'
 | g,_=>(match g,B6s ys (rdO [] e) o with
  | none,some (v,vs)=>∃l:Nat,v=.func (.yield l) #[] #[]/\EW P l vs w λr w'=>∃b:Bool,r=.returned (.bool b)/\next (IT e o.dst ⟨none,.bool b,none⟩) w'
  | g,_=>(match g,C4u ys o with
   | some p,true=>ON (λe'=>C7d P H ys e' o w next) (λe'=>next (IT e' o.dst ⟨none,undef,none⟩) w) 8 e p
   | g,_=>A50 P H ys e o g w next))
def A7s(P:Program)(H:Hand)(ys:List Nat)(ops:List Oper)(QN:Env->World->Prop):List Oper->Env->World->Prop
 | [],e,w=>QN e w
 | o::rest,e,w=>
  match MI ops o with
  | none=>False
  | some g=>
   match B6z P o.op with
   | true=>A5z P (C13 ops o.dst) e o g w λe' _=>A7s P H ys ops QN rest e' w
   | false=>B6t P H ys e o g w λe' w'=>A7s P H ys ops QN rest e' w'
theorem A9s{P:Program}{o:Oper}{a:Act}{w:World}{t:Tmp}{args:Array Operand}{ts:Array TypeId}{l:Nat}{fn:FuncId}{tmps:Array Value}{assign body:Code}{vs:List Value}
 (ho:o.op=.call {callee:=.value (.tmp t),args:=args,argTypes:=ts}) (ht:a.eval (.tmp t)=.func (.yield l) #[] #[]) (hv:args.map a.eval=vs.toArray)
 (hy:(Instr.yield l vs.toArray).run P w=.ok (.round l fn tmps assign body) w):(execOp a.eval o).run P w=.ok (.round l fn tmps assign body) w:=by
 simp only [execOp,ho,resolve,srb,srp,ato,hv,ht];simp [Deferred.ofValue,invoke,hy,go_sem]
theorem A4a{P:Program}{H:Hand}(hH:GJ P H){ys:List Nat}{ops:List Oper}{QN:Env->World->Prop}{Q:Exit->Act->World->Prop}{S:List Nat}{a0:Act}{D:List Deferred}{r:Option Nat}{n:Nat}
 (hQ:∀e a w,AgK S a0 D e a->QN e w->Q .normal a w) (hdef:∀o∈ops,J5 o.op=true):∀(l:List Oper),(∀o∈l,o∈ops)->(∀o∈l,∀t,o.dst=some t->t∈S)->∀(e:Env) (a:Act) (w:World),
  AgK S a0 D e a->A7s P H ys ops QN l e w->wpListIn (FR r) n P ops.toArray Q l a w:=by
 intro l
 induction l with
 | nil=>intro _ _ e a w h hw;exact hQ _ _ _ h hw
 | cons o rest ih=>
  intro hin hS e a w h hw;have ih':=ih (λo' ho'=>hin o' (mcm _ ho')) (λo' ho'=>hS o' (mcm _ ho'));have hd:=hS o mcs;have hnd:=hdef o (hin o mcs);unfold A7s at hw;split at hw
  .exact hw.elim
  .rename_i g hg;split at hw
   .obtain⟨v,e',c,hn,hSc,hag,hr⟩:=MX h.ag hg hw;have hnx:=ih' e' (a.put o.dst v) w (h.put hd hag) hn;unfold wpListIn;rcases hr with⟨hwt,hrun⟩|⟨hwt,rfl⟩
    .rw [if_pos hwt];refine B41 hnd ?_;unfold Oper.wp;rw [hrun w hSc];exact hnx
    .rw [if_neg (by simp [hwt])];exact⟨λf _=>RD r f,hnx⟩
   .have key:∀(t:Tmp) (args:Array Operand) (ts:Array TypeId) (ll:Nat) (vs:List Value),o.op=.call {callee:=.value (.tmp t),args:=args,argTypes:=ts}->Region.wanted o (yielded ops.toArray a.tmps)=true->
     a.eval (.tmp t)=.func (.yield ll) #[] #[]->args.map a.eval=vs.toArray->∀e:Env,BN e a->
     (EW P ll vs w λr w'=>∃b:Bool,r=.returned (.bool b)/\A7s P H ys ops QN rest (IT e o.dst ⟨none,.bool b,none⟩) w')->wpListIn (FR r) n P ops.toArray Q (o::rest) a w:=by
     intro t args ts ll vs hop hwt hf h1 e hea hyl;clear hw;unfold wpListIn;rw [if_pos hwt];obtain⟨fn,tmps,assign,body,hy,hR⟩:=hyl.run;have hrun:=A9s (a:=a) hop hf h1 hy;refine⟨λf _=>RD r f,?_⟩;rw [FR_round,Oper.semAt_eq r a.eval o (QJ hnd),hrun,Oper.uponIn_round];refine⟨λhh=>(by cases hh),hR.1,λcc cs _=>?_⟩;obtain⟨en,w',hRe,hs⟩:=hR.2 cc cs (room_wide _);refine⟨en,w',?_,hs⟩;obtain⟨b,rfl,hnx⟩:=hRe;exact ih' _ _ w' (h.put hd (hea.put o.dst ⟨none,.bool b,none⟩ rfl)) hnx
    have hρ:∀x u,rdO [] e x=some u->a.eval x=u:=λx u hx=>CC h.ag (by simp) _ _ hx;unfold B6t at hw;split at hw
    .rename_i ll vs hyc;unfold A5v at hyc;split at hyc
     .rename_i t args ts hop;split at hyc
      .split at hyc
       .rename_i l' f c vs' hf hvs;split at hyc
        .rename_i hf0 hc0;simp only [Option.some.injEq,Prod.mk.injEq] at hyc;obtain⟨rfl,rfl⟩:=hyc;have hf1:f=#[]:=by cases f;simp_all
         have hc1:c=#[]:=by cases c;simp_all
         subst hf1 hc1;exact key t args ts _ _ hop ((FN hg a).2 trivial) (hρ _ _ hf) (by rw [<- D7 hρ hvs,<- Array.toList_map]) e h.ag hw
        .cases hyc
       .cases hyc
      .cases hyc
     .cases hyc
    .split at hw
     .rename_i v vs hyv hno;obtain⟨ll,hv,hw⟩:=hw;unfold B6s at hyv;split at hyv
      .rename_i t args ts hop;split at hyv
       .split at hyv
        .rename_i v' vs' hf hvs;simp only [Option.some.injEq,Prod.mk.injEq] at hyv;obtain⟨rfl,rfl⟩:=hyv;exact key t args ts _ _ hop ((FN hg a).2 trivial) (by rw [hρ _ _ hf,hv]) (by rw [<- D7 hρ hvs,<- Array.toList_map]) e h.ag hw
        .cases hyv
       .cases hyv
      .cases hyv
     .split at hw
      .rename_i p _ _ _;rcases PW 8 e p h.ag hw with⟨hp,e',he',hx⟩|⟨hp,e',he',hx⟩
       .have hwt:Region.wanted o (yielded ops.toArray a.tmps)=true:=(FN hg a).2 hp;have hρ':∀x u,rdO [] e' x=some u->a.eval x=u:=λx u hx=>CC he' (by simp) _ _ hx;unfold C7d at hx;split at hx
        .rename_i ll vs hyc;unfold A5v at hyc;split at hyc
         .rename_i t args ts hop;split at hyc
          .split at hyc
           .rename_i l' f c vs' hf hvs;split at hyc
            .rename_i hf0 hc0;simp only [Option.some.injEq,Prod.mk.injEq] at hyc;obtain⟨rfl,rfl⟩:=hyc;have hf1:f=#[]:=by cases f;simp_all
             have hc1:c=#[]:=by cases c;simp_all
             subst hf1 hc1;exact key t args ts _ _ hop hwt (hρ' _ _ hf) (by rw [<- D7 hρ' hvs,<- Array.toList_map]) e' he' hx
            .cases hyc
           .cases hyc
          .cases hyc
         .cases hyc
        .unfold wpListIn;rw [if_pos hwt];exact B41 hnd (MO hH hρ' hx λv w' hn=>ih' _ _ w' (h.put hd (he'.put _ _ rfl)) hn)
       .have hwt:Region.wanted o (yielded ops.toArray a.tmps)=false:=by
         cases hy:Region.wanted o (yielded ops.toArray a.tmps) with
         | false=>rfl
         | true=>exact absurd ((FN hg a).1 hy) hp
        unfold wpListIn;rw [if_neg (by simp [hwt])];exact⟨λf _=>RD r f,ih' _ _ w (h.put hd (he'.put _ _ rfl)) hx⟩
      .rcases MZ hH h.ag hg hw (K:=wpListIn (FR r) n P ops.toArray Q rest) (Q:=Q) (λe' v w' hn hag=>ih' e' _ w' (h.put hd hag) hn) with⟨hwt,hx⟩|⟨hwt,hx⟩
       .unfold wpListIn;rw [if_pos hwt];exact B41 hnd hx
       .unfold wpListIn;rw [if_neg (by simp [hwt])];exact⟨λf _=>RD r f,hx⟩
section
variable {P:Program}{ops:Array Oper}{L:List Nat}{Q:Exit->Act->World->Prop}
def C2e(ops:Array Oper):Nat->Nat->Nat->Bool
 | 0,_,_=>false
 | n+1,k,i=>match ops[i]? with
  | none=>false
  | some o=>o.after.toList.any λe=>Region.binds .any e&&(e.on==k||C2e ops n k e.on)
def O8(ops:Array Oper)(k i:Nat):Bool:=C2e ops 5 k i
def GK(ops:Array Oper)(listed:Array Bool):Prop:=
 ∀j oj,ops[j]? = some oj->listed.getD j false=true->∀e∈oj.after,Region.binds .any e=true->listed.getD e.on false=true
theorem A5c{ops:Array Oper}{listed:Array Bool}(hc:GK ops listed){k:Nat}:∀(n j:Nat),listed.getD j false=true->C2e ops n k j=true->listed.getD k false=true:=by
 intro n
 induction n with
 | zero=>intro j _ h;simp [C2e] at h
 | succ n ih=>
  intro j hj h;unfold C2e at h
  cases ho:ops[j]? with
  | none=>simp [ho] at h
  | some o=>
   rw [ho] at h;dsimp only at h;rw [List.any_eq_true] at h;obtain⟨e,he,h⟩:=h;simp only [Bool.and_eq_true,Bool.or_eq_true,beq_iff_eq] at h;have hl:=hc j o ho hj e (by simpa using he) h.1;rcases h.2 with rfl|h2
   .exact hl
   .exact ih _ hl h2
def FJ(ops:Array Oper)(L:List Nat)(listed:Array Bool)(k:Nat):Bool:=L.any λi=>listed.getD i false&&O8 ops k i
def D2(ops:Array Oper)(L:List Nat)(listed:Array Bool)(w:World):List (Nat×(World->Prop))->Prop
 | []=>True
 | (k,c)::r=>match FJ ops L listed k with
  | true=>D2 ops L listed w r
  | false=>c w/\D2 ops L listed w r
theorem FX{listed:Array Bool}{i m:Nat}(h:listed.getD m false=true):(listed.setIfInBounds i true).getD m false=true:=by
 have hm:m<listed.size:=by
  rcases Nat.lt_or_ge m listed.size with h'|h'
  .exact h'
  .simp [Array.getElem?_eq_none h'] at h
 by_cases him:i=m
 .subst him;simp [hm]
 .simpa [Array.getElem?_setIfInBounds_ne him] using h
theorem DQ{listed:Array Bool}{i m:Nat}(h:(listed.setIfInBounds i true).getD m false=true):m=i\/listed.getD m false=true:=by
 by_cases him:i=m
 .exact .inl him.symm
 .right;simpa [Array.getElem?_setIfInBounds_ne him] using h
theorem A8y{ops:Array Oper}{L:List Nat}{listed:Array Bool}{i k:Nat}(h:FJ ops L listed k=true):FJ ops L (listed.setIfInBounds i true) k=true:=by
 unfold FJ at *;rw [List.any_eq_true] at *;obtain⟨m,hm,h⟩:=h;simp only [Bool.and_eq_true] at h;exact⟨m,hm,by simp only [Bool.and_eq_true];exact⟨FX h.1,h.2⟩⟩
theorem HU{ops:Array Oper}{L:List Nat}{listed:Array Bool}{i:Nat}{w:World}:∀{pend:List (Nat×(World->Prop))},D2 ops L listed w pend->D2 ops L (listed.setIfInBounds i true) w pend:=by
 intro pend
 induction pend with
 | nil=>intro h;exact h
 | cons p r ih=>
  obtain⟨k,c⟩:=p;intro h;rw [D2] at h;rw [D2]
  cases hd:FJ ops L listed k with
  | true=>
   rw [hd] at h;rw [A8y hd];exact ih h
  | false=>
   rw [hd] at h;split
   .exact ih h.2
   .exact⟨h.1,ih h.2⟩
theorem A35{ops:Array Oper}{L:List Nat}{listed:Array Bool}{i:Nat}{w:World}(hi:L.contains i=false):∀{pend:List (Nat×(World->Prop))},D2 ops L (listed.setIfInBounds i true) w pend->D2 ops L listed w pend:=by
 intro pend;have hde:∀k,FJ ops L (listed.setIfInBounds i true) k=true->FJ ops L listed k=true:=by
  intro k h;unfold FJ at *;rw [List.any_eq_true] at *;obtain⟨m,hm,h⟩:=h;simp only [Bool.and_eq_true] at h;rcases DQ h.1 with rfl|h1
  .simp at hi;exact absurd hm hi
  .exact⟨m,hm,by simp only [Bool.and_eq_true];exact⟨h1,h.2⟩⟩
 induction pend with
 | nil=>intro h;exact h
 | cons p r ih=>
  obtain⟨k,c⟩:=p;intro h;rw [D2] at h;rw [D2]
  cases hd:FJ ops L (listed.setIfInBounds i true) k with
  | true=>
   rw [hd] at h;rw [hde k hd];exact ih h
  | false=>
   rw [hd] at h;split
   .exact ih h.2
   .exact⟨h.1,ih h.2⟩
def HC(P:Program)(ops:Array Oper)(L:List Nat)(Q:Exit->Act->World->Prop)(pend:List (Nat×(World->Prop))):Nat->Array Bool->Act->World->Prop
 | 0,listed,a,w=>Region.ready .any ops listed=[]/\Q .normal a w
 | fuel+1,listed,a,w=>
  (Region.ready .any ops listed=[]->Q .normal a w)/\
  ∀i∈Region.ready .any ops listed,wpOp P ops Q i (λa' w'=>D2 ops L (listed.setIfInBounds i true) w' pend/\HC P ops L Q pend fuel (listed.setIfInBounds i true) a' w') a w
theorem LJ{pend:List (Nat×(World->Prop))}:∀(fuel:Nat) (listed:Array Bool) (a:Act) (w:World),HC P ops L Q pend fuel listed a w->wpAny P .any ops Q fuel listed a w
 | 0,_,_,_,h=>h
 | fuel+1,_,_,_,h=>⟨h.1,λi hi=>wpOp_mono (λa' w' h'=>LJ fuel _ a' w' h'.2) (h.2 i hi)⟩
theorem RC{listed:Array Bool}{w:World}{p:Nat×(World->Prop)}{pend:List (Nat×(World->Prop))}(h:D2 ops L listed w (p::pend)):D2 ops L listed w pend:=by
 obtain⟨k,c⟩:=p;unfold D2 at h;split at h
 .exact h
 .exact h.2
theorem PR{p:Nat×(World->Prop)}{pend:List (Nat×(World->Prop))}:∀(fuel:Nat) (listed:Array Bool) (a:Act) (w:World),HC P ops L Q (p::pend) fuel listed a w->HC P ops L Q pend fuel listed a w
 | 0,_,_,_,h=>h
 | fuel+1,_,_,_,h=>⟨h.1,λi hi=>wpOp_mono (λ_ _ h'=>⟨RC h'.1,PR fuel _ _ _ h'.2⟩) (h.2 i hi)⟩
theorem GK.set{listed:Array Bool}(hc:GK ops listed){j:Nat}(hj:j∈Region.ready .any ops listed):GK ops (listed.setIfInBounds j true):=by
 intro i oi hi hl e he hb;obtain⟨_,oj,hoj,hall⟩:=mem_ready.1 hj;rcases DQ hl with rfl|hl
 .rw [hoj] at hi
  cases hi
  exact FX (hall e he hb)
 .exact FX (hc i oi hi hl e he hb)
theorem NA{listed:Array Bool}{i:Nat}(hi:i∈Region.ready .any ops listed):listed.getD i false=false:=by
 have h0:=(mem_ready.1 hi).1;rcases Nat.lt_or_ge i listed.size with h'|h'
 .simp [h'] at h0 ⊢;exact h0
 .simp [Array.getElem?_eq_none h'] at h0
theorem A69{listed:Array Bool}(hc:GK ops listed){k j:Nat}(hk:listed.getD k false=false)(hj:listed.getD j false=true):O8 ops k j=false:=by
 cases h:O8 ops k j with
 | false=>rfl
 | true=>
  have:=A5c hc _ _ hj h;rw [hk] at this
  cases this
theorem A39{pend:List (Nat×(World->Prop))}{i:Nat}{oi:Oper}{v:Value}{S:World->Prop}(hi:ops[i]? = some oi)(hsel:∀(j:Nat) (o:Oper) cs b,ops[j]? = some o->o.op≠.select cs b)
 (hQ:∀c a w,Q (.panic c) (a.put oi.dst v) w->Q (.panic c) a w) (hiL:L.contains i=false) :
 ∀(fuel:Nat) (listed:Array Bool) (a:Act) (w:World),
  (∀j oj,ops[j]? = some oj->j≠i->listed.getD j true=false->(∀e∈oj.after,Region.binds .any e=true->e.on≠i)->oi.apart ops oj=true)->
  i∈Region.ready .any ops listed->YieldsIf P ops S oi v a->S w->D2 ops L listed w pend->GK ops listed->
  HC P ops L Q ((i,S)::pend) fuel (listed.setIfInBounds i true) (a.put oi.dst v) w->HC P ops L Q pend (fuel+1) listed a w:=by
 intro fuel
 induction fuel with
 | zero=>
  intro listed a w _ hr hy hS hp _ H;refine⟨λh=>(by rw [h] at hr;cases hr),λj hj=>?_⟩;by_cases hji:j=i
  .subst hji;exact hy.wpOp hi hS ⟨HU hp,H⟩
  .have:=ready_mono hj hji;rw [H.1] at this
   cases this
 | succ fuel ih=>
  intro listed a w hfree hr hy hS hp hfr H;refine⟨λh=>(by rw [h] at hr;cases hr),λj hj=>?_⟩;by_cases hji:j=i
  .subst hji;exact hy.wpOp hi hS ⟨HU hp,PR _ _ _ _ H⟩
  .have h1:=H.2 j (ready_mono hj hji);obtain⟨hjun,oj,hoj,hall⟩:=mem_ready.1 hj;have hnot:∀e∈oj.after,Region.binds .any e=true->e.on≠i:=λe he hb heq=>by
    have h1:=hall e he hb;have h0:=(mem_ready.1 hr).1;rw [heq] at h1;rcases Nat.lt_or_ge i listed.size with h'|h'
    .simp [h'] at h0 h1;rw [h0] at h1;cases h1
    .simp [Array.getElem?_eq_none h'] at h1
   have h2:=wpOp_putIf hoj (hfree j oj hoj hji hjun hnot) (λcs b=>hsel i oi cs b hi) (λcs b=>hsel j oj cs b hoj) hQ hy h1;have hfree':∀k ok,ops[k]? = some ok->k≠i->(listed.setIfInBounds j true).getD k true=false->
    (∀e∈ok.after,Region.binds .any e=true->e.on≠i)->oi.apart ops ok=true:=λk ok hk hki hun hno=>by
    refine hfree k ok hk hki ?_ hno;by_cases hjk:j=k
    .subst hjk;exact hjun
    .rw [getD_set_ne true hjk] at hun;exact hun
   have hfr':GK ops (listed.setIfInBounds j true):=hfr.set hj;have hui:(listed.setIfInBounds j true).getD i false=false:=by
    cases hx:(listed.setIfInBounds j true).getD i false with
    | false=>rfl
    | true=>
     rcases DQ hx with h|h
     .exact absurd h.symm hji
     .rw [NA hr] at h;cases h
   have hlj:(listed.setIfInBounds j true).getD j false=true:=by
    have h0:=(mem_ready.1 hj).1;rcases Nat.lt_or_ge j listed.size with h'|h'
    .simp [h']
    .simp [Array.getElem?_eq_none h'] at h0
   refine wpOp_mono (λa' w' h3=>?_) h2;obtain⟨hy',hpk,H'⟩:=h3;have hnd:FJ ops L ((listed.setIfInBounds i true).setIfInBounds j true) i=false:=by
    unfold FJ;rw [List.any_eq_false];intro m hmL;simp only [Bool.and_eq_true,not_and,Bool.not_eq_true];intro hm;rcases DQ hm with rfl|hm
    .exact A69 hfr' hui hlj
    .rcases DQ hm with rfl|hm
     .simp at hiL;exact absurd hmL hiL
     .exact A69 hfr' hui (FX hm)
   have hS':S w':=by
    rw [D2,hnd] at hpk;exact hpk.1
   have hcomm:(listed.setIfInBounds i true).setIfInBounds j true=(listed.setIfInBounds j true).setIfInBounds i true:=Array.setIfInBounds_comm _ _ (Ne.symm hji);have hpt:D2 ops L (listed.setIfInBounds j true) w' pend:=by
    have:=RC hpk;rw [hcomm] at this;exact A35 hiL this
   refine⟨hpt,ih (listed.setIfInBounds j true) a' w' hfree' (ready_mono hr (Ne.symm hji)) hy' hS' hpt hfr' ?_⟩;rw [<- hcomm];exact H'
theorem PQ{k:Nat}{pend:List (Nat×(World->Prop))}:∀(fuel:Nat) (listed:Array Bool) (a:Act) (w:World),HC P ops L Q pend fuel listed a w->HC P ops L Q ((k,λ_=>True)::pend) fuel listed a w
 | 0,_,_,_,h=>h
 | fuel+1,_,_,_,h=>⟨h.1,λi hi=>wpOp_mono (λ_ _ h'=>⟨by rw [D2];split;exact h'.1;exact⟨trivial,h'.1⟩,PQ fuel _ _ _ h'.2⟩) (h.2 i hi)⟩
end
def C1b(P:Program)(ops:List Oper):List Nat:=(List.range ops.length).filter λi=>match ops[i]? with|some o=>!B6z P o.op|none=>true
def KY(ops:Array Oper)(L:List Nat)(listed:Array Bool)(w:World)(X:Prop):List (Nat×(World->Prop))->Prop
 | []=>X
 | (k,c)::r=>match FJ ops L listed k with
  | true=>KY ops L listed w X r
  | false=>c w/\KY ops L listed w X r
theorem A36{ops:Array Oper}{L:List Nat}{listed:Array Bool}{w:World}{X:Prop}:∀{pend:List (Nat×(World->Prop))},KY ops L listed w X pend->D2 ops L listed w pend/\X:=by
 intro pend
 induction pend with
 | nil=>intro h;exact⟨trivial,h⟩
 | cons p r ih=>
  obtain⟨k,c⟩:=p;intro h;rw [KY] at h;rw [D2];split at h
  .exact ih h
  .exact⟨⟨h.1,(ih h.2).1⟩,(ih h.2).2⟩
def B2s(ops:Array Oper)(L:List Nat)(listed:Array Bool):List Nat->Option Nat
 | []=>none
 | j::r=>
  match !L.contains j&&(Region.free .any ops listed j&&!FJ ops L listed j) with
  | true=>some j
  | false=>B2s ops L listed r
def B9b(f:Nat->Prop):List Nat->Prop
 | []=>True
 | [j]=>f j
 | j::j'::r=>f j/\B9b f (j'::r)
theorem B2y{f:Nat->Prop}:∀{l:List Nat},B9b f l->∀j∈l,f j:=by
 intro l
 induction l with
 | nil=>intro _ j hj;simp at hj
 | cons x r ih=>
  intro h j hj
  cases r with
  | nil=>simp at hj;subst hj;exact h
  | cons y s=>
   rcases List.mem_cons.1 hj with rfl|hj
   .exact h.1
   .exact ih h.2 j hj
theorem A8v{ops:Array Oper}{L:List Nat}{listed:Array Bool}{j:Nat}:∀{l:List Nat},B2s ops L listed l=some j->
 j∈l/\L.contains j=false/\Region.free .any ops listed j=true/\FJ ops L listed j=false:=by
 intro l
 induction l with
 | nil=>intro h;simp [B2s] at h
 | cons x r ih=>
  intro h;unfold B2s at h;split at h
  .rename_i hb;simp at h;subst h;simp only [Bool.and_eq_true,Bool.not_eq_true'] at hb;exact⟨mcs,hb.1,hb.2.1,hb.2.2⟩
  .obtain⟨h1,h2⟩:=ih h;exact⟨mcm _ h1,h2⟩
def addP(j:Nat)(c:Option (World->Prop))(pend:List (Nat×(World->Prop))):List (Nat×(World->Prop)):=
 match c with
 | none=>pend
 | some c=>(j,c)::pend
def A4c(P:Program)(H:Hand)(ys:List Nat)(ops:List Oper)(L:List Nat)(QN:Env->World->Prop):Nat->List (Nat×(World->Prop))->Array Bool->Env->World->Prop
 | 0,_,listed,e,w=>(match Region.ready .any ops.toArray listed with|[]=>QN e w|_::_=>False)
 | fuel+1,pend,listed,e,w=>
  match Region.ready .any ops.toArray listed with
  | []=>QN e w
  | i::r=>
   match B2s ops.toArray L listed (i::r) with
   | some j=>
    (match ops[j]? with
     | none=>False
     | some o=>(match MI ops o with
      | none=>False
      | some g=>A5z P (C13 ops o.dst) e o g w λe' c=>A4c P H ys ops L QN fuel (addP j c pend) (listed.setIfInBounds j true) e' w))
   | none=>B9b (λj=>
    match ops[j]? with
    | none=>False
    | some o=>(match MI ops o with
     | none=>False
     | some g=>A50 P H ys e o g w λe' w'=>KY ops.toArray L (listed.setIfInBounds j true) w' (A4c P H ys ops L QN fuel pend (listed.setIfInBounds j true) e' w') pend)) (i::r)
theorem A4b{P:Program}{H:Hand}(hH:GJ P H){ys:List Nat}{ops:List Oper}{L:List Nat}{QN:Env->World->Prop}{Q:Exit->Act->World->Prop}{S:List Nat}{a0:Act}{D:List Deferred}
 (hQ:∀e a w,AgK S a0 D e a->QN e w->Q .normal a w) (hQp:∀c a w,¬Q (.panic c) a w) (hS:∀o∈ops,∀t,o.dst=some t->t∈S)
 (hsel:Region.noSelect ops.toArray=true) :
 ∀(fuel:Nat) (pend:List (Nat×(World->Prop))) (listed:Array Bool) (e:Env) (a:Act) (w:World),
  AgK S a0 D e a->GK ops.toArray listed->D2 ops.toArray L listed w pend->A4c P H ys ops L QN fuel pend listed e w->HC P ops.toArray L Q pend fuel listed a w:=by
 intro fuel
 induction fuel with
 | zero=>
  intro pend listed e a w hag _ _ h;unfold A4c at h;split at h
  .rename_i hr;exact⟨hr,hQ _ _ _ hag h⟩
  .exact h.elim
 | succ fuel ih=>
  intro pend listed e a w hag hcl hp h;unfold A4c at h;split at h
  .rename_i hr;exact⟨λ_=>hQ _ _ _ hag h,by rw [hr];simp⟩
  .rename_i i r hr;split at h
   .rename_i j hj;obtain⟨hjm,hjL,hjf,hjd⟩:=A8v hj;split at h
    .exact h.elim
    .rename_i o ho;have ho':ops.toArray[j]? = some o:=by simpa using ho
     have hoS:=hS o (mog ho);split at h
     .exact h.elim
     .rename_i g hg;obtain⟨v,e',c,hn,hSc,hag',hrun⟩:=MX hag.ag hg h;have hy:YieldsIf P ops.toArray (SOf c) o v a:=hrun;have hcl':GK ops.toArray (listed.setIfInBounds j true):=hcl.set (by rw [hr];exact hjm);refine A39 ho' (Region.noSelect_spec hsel) (λc a w hx=>absurd hx (hQp _ _ _)) hjL fuel listed a w (λk ok hk hkj hun hno=>Region.free_spec ho' hjf k ok hk hkj hun hno)
       (by rw [hr];exact hjm) hy hSc hp hcl ?_
      have hagk:=hag.put hoS hag'
      cases c with
      | none=>exact PQ _ _ _ _ (ih pend _ e' _ w hagk hcl' (HU hp) hn)
      | some c=>
       refine ih _ _ e' _ w hagk hcl' ?_ hn
       show D2 ops.toArray L _ w ((j,c)::pend)
       rw [D2];split
       .exact HU hp
       .exact⟨hSc,HU hp⟩
   .refine⟨λh0=>(by rw [h0] at hr;cases hr),λj hj=>?_⟩;rw [hr] at hj;have h:=B2y h j hj;split at h
    .exact h.elim
    .rename_i o ho;have ho':ops.toArray[j]? = some o:=by simpa using ho
     have hoS:=hS o (mog ho);split at h
     .exact h.elim
     .rename_i g hg;have hnext:∀e' v w',KY ops.toArray L (listed.setIfInBounds j true) w' (A4c P H ys ops L QN fuel pend (listed.setIfInBounds j true) e' w') pend->BN e' (a.put o.dst v)->
       D2 ops.toArray L (listed.setIfInBounds j true) w' pend/\HC P ops.toArray L Q pend fuel (listed.setIfInBounds j true) (a.put o.dst v) w':=by
       intro e' v w' hx hag';obtain⟨h1,h2⟩:=A36 hx;exact⟨h1,ih _ _ e' _ w' (hag.put hoS hag') (hcl.set (by rw [hr];exact hj)) h1 h2⟩
      unfold wpOp;rw [ho'];dsimp only;rcases MZ hH hag.ag hg h (K:=λa' w'=>D2 ops.toArray L (listed.setIfInBounds j true) w' pend/\HC P ops.toArray L Q pend fuel (listed.setIfInBounds j true) a' w') (Q:=Q) hnext with⟨hwt,hx⟩|⟨hwt,hx⟩
      .rw [if_pos hwt];exact .inl hx
      .rw [if_neg (by simp [hwt])];exact hx
inductive Shp where
 | int (k:IntKind)|bool|str|AP|sl|mp|val
def C39:Value->Option Shp
 | .int k _=>some (.int k)
 | .bool _=>some .bool
 | .string _=>some .str
 | .pointer _=>some .AP
 | .slice _ _ _=>some .sl
 | .map _=>some .mp
 | .func _ _ _=>some .val
 | .nilFunc=>some .val
 | .iface _ _=>some .val
 | .nilIface=>some .val
 | _=>none
def ITy(T:Type):List (Nat×Shp)->Type
 | []=>T
 | (_,.int _)::r=>Int->ITy T r
 | (_,.bool)::r=>Bool->ITy T r
 | (_,.str)::r=>ByteArray->ITy T r
 | (_,.AP)::r=>Option Addr->ITy T r
 | (_,.sl)::r=>Option Addr->Nat->Nat->ITy T r
 | (_,.mp)::r=>Option Nat->ITy T r
 | (_,.val)::r=>Value->ITy T r
def DD{T:Type}(e:Env)(k:T->Prop):(l:List (Nat×Shp))->ITy T l->Prop
 | [],I=>k I
 | (t,.int kd)::r,I=>(match LC e t with
  | some ⟨none,.int k' n,_⟩=>(match decide (k'=kd) with|true=>DD e k r (I n)|false=>False)
  | _=>False)
 | (t,.bool)::r,I=>(match LC e t with|some ⟨none,.bool b,_⟩=>DD e k r (I b)|_=>False)
 | (t,.str)::r,I=>(match LC e t with|some ⟨none,.string b,_⟩=>DD e k r (I b)|_=>False)
 | (t,.AP)::r,I=>(match LC e t with|some ⟨none,.pointer b,_⟩=>DD e k r (I b)|_=>False)
 | (t,.sl)::r,I=>(match LC e t with|some ⟨none,.slice a l c,_⟩=>DD e k r (I a l c)|_=>False)
 | (t,.mp)::r,I=>(match LC e t with|some ⟨none,.map b,_⟩=>DD e k r (I b)|_=>False)
 | (t,.val)::r,I=>(match LC e t with|some ⟨none,v,_⟩=>DD e k r (I v)|_=>False)
def MA(e:Env)(t:Nat)(v:Value):Env:=e.set t (some ⟨none,v,none⟩)
def MK{T:Type}(k:Env->T->Prop):(l:List (Nat×Shp))->ITy T l->Env->Prop
 | [],I,e=>k e I
 | (t,.int kd)::r,I,e=>∀n:Int,MK k r (I n) (MA e t (.int kd n))
 | (t,.bool)::r,I,e=>∀b:Bool,MK k r (I b) (MA e t (.bool b))
 | (t,.str)::r,I,e=>∀s:ByteArray,MK k r (I s) (MA e t (.string s))
 | (t,.AP)::r,I,e=>∀p:Option Addr,MK k r (I p) (MA e t (.pointer p))
 | (t,.sl)::r,I,e=>∀(a:Option Addr) (l c:Nat),MK k r (I a l c) (MA e t (.slice a l c))
 | (t,.mp)::r,I,e=>∀m:Option Nat,MK k r (I m) (MA e t (.map m))
 | (t,.val)::r,I,e=>∀v:Value,MK k r (I v) (MA e t v)
theorem BN.MA{e:Env}{a:Act}(h:BN e a){t:Nat}{v:Value}(hv:a.tmps[t]? = some v):BN (Eng.MA e t v) a:=by
 refine⟨by simp [Eng.MA,h.len],λs n hn=>?_,λs n b hn hb=>?_⟩
 case refine_2=>
  unfold Eng.MA at hn;by_cases hs:t=s
  .subst hs;rw [List.getElem?_set_self'] at hn
   cases hx:e[t]? with
   | none=>simp [hx] at hn
   | some y=>simp [hx] at hn;subst hn;cases hb
  .rw [List.getElem?_set_ne hs] at hn;exact h.fx s n b hn hb
 unfold Eng.MA at hn;by_cases hs:t=s
 .subst hs;rw [List.getElem?_set_self'] at hn
  cases hx:e[t]? with
  | none=>simp [hx] at hn
  | some y=>simp [hx] at hn;subst hn;exact hv
 .rw [List.getElem?_set_ne hs] at hn;exact h.ent s n hn
theorem KS{T:Type}{e2:Env}{a:Act}{k:T->Prop}{kk:Env->T->Prop}(h2:BN e2 a):∀(l:List (Nat×Shp)) (I:ITy T l) (e0:Env),BN e0 a->
 DD e2 k l I->MK kk l I e0->∃e' J,BN e' a/\k J/\kk e' J:=by
 have hget:∀t v k,LC e2 t=some ⟨none,v,k⟩->a.tmps[t]? = some v:=λt v k h=>by
  have:=h2.ent _ _ (DP h);simpa only [EV] using this
 intro l
 induction l with
 | nil=>intro I e0 h0 ha hg;exact⟨e0,I,h0,ha,hg⟩
 | cons p r ih=>
  obtain⟨t,s⟩:=p;intro I e0 h0 ha hg
  cases s <;> simp only [DD] at ha <;> simp only [MK] at hg
  case int kd=>
   split at ha
   .rename_i k' n kk hn;split at ha
    .rename_i hk;have hk:=of_decide_eq_true hk;subst hk;exact ih _ _ (h0.MA (hget _ _ _ hn)) ha (hg n)
    .exact ha.elim
   .exact ha.elim
  all_goals
   split at ha
   .rename_i hn
    first
     | exact ih _ _ (h0.MA (hget _ _ _ hn)) ha (hg _)
     | exact ih _ _ (h0.MA (hget _ _ _ hn)) ha (hg _ _ _)
   .exact ha.elim
def dstsOf:List Oper->List Nat
 | []=>[]
 | o::r=>(match o.dst with|some d=>d::dstsOf r|none=>dstsOf r)
def asg:Code->List Nat
 | .region _ ops _=>dstsOf ops.toList
 | .seq a b=>asg a++asg b
 | .cond _ a b=>asg a++asg b
 | .block _ b=>asg b
 | .loop b=>asg b
 | .scope b=>asg b
 | _=>[]
theorem A0v{l:List Oper}{o:Oper}{t:Nat}(ho:o∈l)(ht:o.dst=some t):t∈dstsOf l:=by
 induction l with
 | nil=>simp at ho
 | cons x r ih=>
  unfold dstsOf;rcases List.mem_cons.1 ho with rfl|ho
  .rw [ht];exact mcs
  .split
   .exact mcm _ (ih ho)
   .exact ih ho
def NS(t:Nat):List Nat->Bool
 | []=>false
 | s::r=>s==t||NS t r
theorem B1m{t:Nat}:∀{l:List Nat},t∈l->NS t l=true:=by
 intro l
 induction l with
 | nil=>intro h;simp at h
 | cons s r ih=>
  intro h;rcases List.mem_cons.1 h with rfl|h
  .simp [NS]
  .simp [NS,ih h]
def EJ(S:List Nat):Nat->Env->Env
 | _,[]=>[]
 | i,x::r=>(match x with
  | some ⟨none,v,k⟩=>(match NS i S with|true=>none|false=>some ⟨none,v,k⟩)
  | _=>none)::EJ S (i+1) r
def forget(S:List Nat)(e:Env):Env:=EJ S 0 e
theorem KB{S:List Nat}:∀(e:Env) (i t:Nat) (n:Ent),(EJ S i e)[t]? = some (some n)->e[t]? = some (some n)/\n.need=none/\NS (i+t) S=false:=by
 intro e
 induction e with
 | nil=>intro i t n h;simp [EJ] at h
 | cons x r ih=>
  intro i t n h
  cases t with
  | zero=>
   simp only [EJ,List.getElem?_cons_zero,Option.some.injEq] at h;split at h
   .rename_i v k;split at h
    .simp at h
    .rename_i hm;simp at h;subst h;exact⟨rfl,rfl,hm⟩
   .simp at h
  | succ t=>
   simp only [EJ,List.getElem?_cons_succ] at h;have:=ih (i+1) t n h;refine⟨by simpa using this.1,this.2.1,?_⟩;rw [show i+(t+1)=i+1+t by omega];exact this.2.2
theorem A0g{S:List Nat}:∀(e:Env) (i:Nat),(EJ S i e).length=e.length:=by
 intro e
 induction e with
 | nil=>intro i;rfl
 | cons x r ih=>intro i;simp [EJ,ih]
theorem BN.forget{S:List Nat}{e:Env}{a a':Act}(h:BN e a)(hs:a'.tmps.size=a.tmps.size)(hk:∀t,t∉S->a'.tmps[t]? = a.tmps[t]?):BN (Eng.forget S e) a':=by
 refine⟨by simp [Eng.forget,A0g,h.len,hs],λt n hn=>?_,λt n b hn hb=>?_⟩
 case refine_2=>
  obtain⟨h1,h2,h3⟩:=KB e 0 t n hn;have ht:t∉S:=λhm=>by
   rw [za,B1m hm] at h3;cases h3
  have:=h.fx t n b h1 hb;unfold BF at this ⊢;rw [hk t ht];exact this
 obtain⟨h1,h2,h3⟩:=KB e 0 t n hn;have he:=h.ent t n h1;unfold EV at *;rw [h2] at he ⊢;have ht:t∉S:=λhm=>by
  rw [za,B1m hm] at h3;cases h3
 rw [hk t ht];exact he
def J7(S:List Nat):Nat->Env->List (Nat×Shp)
 | _,[]=>[]
 | i,x::r=>
  (match x with
   | some ⟨none,v,_⟩=>
    (match NS i S with
     | true=>(match C39 v with|some s=>(i,s)::J7 S (i+1) r|none=>J7 S (i+1) r)
     | false=>J7 S (i+1) r)
   | _=>J7 S (i+1) r)
def HL(S:List Nat)(e:Env):List (Nat×Shp):=J7 S 0 e
def KD:Code->Option Nat
 | .region id _ _=>some id
 | .seq a b=>(match KD a with|some i=>some i|none=>KD b)
 | .cond _ a b=>(match KD a with|some i=>some i|none=>KD b)
 | .block _ b=>KD b
 | .loop b=>KD b
 | .scope b=>KD b
 | _=>none
def inJ(J:List Nat):Option Nat->Bool
 | some i=>NS i J
 | none=>false
def B5d(d:TypeDesc)(k:Value->Prop):Prop:=
 match d with
 | .bool=>∀b:Bool,k (.bool b)
 | .int kd=>∀n:Int,k (.int kd n)
 | .string=>∀s:ByteArray,k (.string s)
 | .pointer _=>∀p:Option Addr,k (.pointer p)
 | .slice _=>∀(a:Option Addr) (l c:Nat),k (.slice a l c)
 | .map _ _=>∀r:Option Nat,k (.map r)
 | .func _ _ _=>∀v:Value,k v
 | .interface _=>∀v:Value,k v
 | _=>True
theorem B69{d:TypeDesc}{k1 k2:Value->Prop}(h1:A8l d k1)(h2:B5d d k2):∃v,k1 v/\k2 v:=by
 cases d <;> simp only [A8l] at h1 <;> simp only [B5d] at h2 <;> first|exact h1.elim|skip
 case slice=>obtain⟨a,l,c,h⟩:=h1;exact⟨_,h,h2 a l c⟩
 all_goals (obtain⟨b,h⟩:=h1;exact⟨_,h,h2 b⟩)
def C3o(d:TypeDesc):Nat->(List Value->Prop)->Prop
 | 0,k=>k []
 | n+1,k=>B5d d λv=>C3o d n λvs=>k (v::vs)
def B95:List (Nat×TypeDesc)->(List Value->Prop)->Prop
 | [],k=>k []
 | (n,d)::gs,k=>
  match d,decide (8<=n) with
  | .int kd,true=>∀f:Nat->Int,B95 gs λvs=>k (AQ kd f 0 n++vs)
  | d,_=>C3o d n λus=>B95 gs λvs=>k (us++vs)
theorem C0z{d:TypeDesc}:∀{n:Nat}{k1 k2:List Value->Prop},C00 d n k1->C3o d n k2->∃vs,k1 vs/\k2 vs
 | 0,_,_,h1,h2=>⟨_,h1,h2⟩
 | n+1,k1,k2,h1,h2=>by
  obtain⟨v,h1,h2⟩:=B69 h1 h2;obtain⟨vs,h1,h2⟩:=C0z h1 h2;exact⟨_,h1,h2⟩
theorem B5t:∀{gs:List (Nat×TypeDesc)}{k1 k2:List Value->Prop},B7a gs k1->B95 gs k2->∃vs,k1 vs/\k2 vs
 | [],_,_,h1,h2=>⟨_,h1,h2⟩
 | (n,d)::gs,k1,k2,h1,h2=>by
  unfold B7a at h1;unfold B95 at h2;have other:∀(h1:C00 d n λus=>B7a gs λvs=>k1 (us++vs)) (h2:C3o d n λus=>B95 gs λvs=>k2 (us++vs)),∃vs,k1 vs/\k2 vs:=λh1 h2=>by
   obtain⟨us,h1,h2⟩:=C0z h1 h2;obtain⟨vs,h1,h2⟩:=B5t h1 h2;exact⟨_,h1,h2⟩
  cases hn:decide (8<=n)
  .cases d <;> simp only [hn] at h1 h2 <;> exact other h1 h2
  .cases d
   case int kd=>
    simp only [hn] at h1 h2;obtain⟨f,h1⟩:=h1;obtain⟨vs,h1,h2⟩:=B5t h1 (h2 f);exact⟨_,h1,h2⟩
   all_goals (simp only [hn] at h1 h2;exact other h1 h2)
def C34(P:Program)(t:TypeId)(k:Value->Prop):Prop:=
 match P.underlying t with
 | some (.struct _)|some (.array _ _)=>
  (match leaves P 12 t with
   | some ds=>B95 (grp ds) λvs=>k (.agg vs.toArray)
   | none=>True)
 | some d=>B5d d k
 | none=>True
theorem C33{P:Program}{t:TypeId}{k1 k2:Value->Prop}(h1:B33 P t k1)(h2:C34 P t k2):∃v,k1 v/\k2 v:=by
 unfold B33 at h1;unfold C34 at h2
 cases hu:P.underlying t with
 | none=>rw [hu] at h1;exact h1.elim
 | some d=>
  rw [hu] at h1 h2
  cases d
  case struct=>
   dsimp only at h1 h2
   cases hl:leaves P 12 t with
   | none=>rw [hl] at h1;exact h1.elim
   | some ds=>
    rw [hl] at h1 h2;obtain⟨vs,h1,h2⟩:=B5t h1 h2;exact⟨_,h1,h2⟩
  case array=>
   dsimp only at h1 h2
   cases hl:leaves P 12 t with
   | none=>rw [hl] at h1;exact h1.elim
   | some ds=>
    rw [hl] at h1 h2;obtain⟨vs,h1,h2⟩:=B5t h1 h2;exact⟨_,h1,h2⟩
  all_goals exact B69 h1 h2
def C1l(P:Program)(t:Option TypeId)(k:Value->Prop):Prop:=
 match t with
 | some t=>B33 P t k
 | none=>∃v:Value,k v
def C1m(P:Program)(t:Option TypeId)(k:Value->Prop):Prop:=
 match t with
 | some t=>C34 P t k
 | none=>∀v:Value,k v
def C0w(P:Program):List (Option TypeId)->(List Value->Prop)->Prop
 | [],k=>k []
 | t::ts,k=>C1l P t λv=>C0w P ts λvs=>k (v::vs)
def C0x(P:Program):List (Option TypeId)->(List Value->Prop)->Prop
 | [],k=>k []
 | t::ts,k=>C1m P t λv=>C0x P ts λvs=>k (v::vs)
theorem C0v{P:Program}:∀{ts:List (Option TypeId)}{k1 k2:List Value->Prop},C0w P ts k1->C0x P ts k2->∃vs,k1 vs/\k2 vs
 | [],_,_,h1,h2=>⟨_,h1,h2⟩
 | t::ts,k1,k2,h1,h2=>by
  have:∃v,(C0w P ts λvs=>k1 (v::vs))/\(C0x P ts λvs=>k2 (v::vs)):=by
   unfold C0w C1l at h1;unfold C0x C1m at h2
   cases t with
   | none=>obtain⟨v,h1⟩:=h1;exact⟨v,h1,h2 v⟩
   | some t=>exact C33 h1 h2
  obtain⟨v,h1,h2⟩:=this;obtain⟨vs,h1,h2⟩:=C0v h1 h2;exact⟨_,h1,h2⟩
def opTy(p:Nat)(o:Oper):Option TypeId:=
 match o.op with
 | .move (.tmp t)=>(match t==p with|true=>some o.type|false=>none)
 | .assign (.tmp t)=>(match t==p with|true=>some o.type|false=>none)
 | .store ty _ (.tmp t)=>(match t==p with|true=>some ty|false=>none)
 | .field s (.tmp t) _=>(match t==p with|true=>some s|false=>none)
 | _=>none
def C05(p:Nat):List Oper->Option TypeId
 | []=>none
 | o::r=>(match opTy p o with|some t=>some t|none=>C05 p r)
def KG(p:Nat):Code->Option TypeId
 | .region _ ops _=>C05 p ops.toList
 | .seq a b=>(match KG p a with|some t=>some t|none=>KG p b)
 | .cond _ a b=>(match KG p a with|some t=>some t|none=>KG p b)
 | .block _ b=>KG p b
 | .loop b=>KG p b
 | .scope b=>KG p b
 | _=>none
def B77(c:Code):List Nat->List (Option TypeId)
 | []=>[]
 | p::ps=>KG p c::B77 c ps
def EC:Code->Bool
 | .rangeFunc _ _ _ _=>true
 | .seq a b=>EC a||EC b
 | .cond _ a b=>EC a||EC b
 | .block _ b=>EC b
 | .loop b=>EC b
 | .scope b=>EC b
 | _=>false
def FY:Code->List Nat
 | .exit id=>[id]
 | .seq a b=>FY a++FY b
 | .cond _ a b=>FY a++FY b
 | .block _ b=>FY b
 | .loop b=>FY b
 | .scope b=>FY b
 | _=>[]
def C3m:List Nat->List Nat
 | []=>[]
 | j::r=>(match Nat.ble 1000000 j with|true=>(j-1000000)::C3m r|false=>C3m r)
def marks(ds:List Nat):List Deferred:=ds.map λD=>{target:=.collected D,args:=#[]}
structure DL(Y:Nat->Prop)(W W':World):Prop where
 sz:W.heap.size<=W'.heap.size
 blk:∀b,Y b->W'.heap[b]? = W.heap[b]?
structure CA(B:Nat)(W W':World):Prop where
 sz:W.heap.size<=W'.heap.size
 d:W'.heap[B]? = W.heap[B]?
 l:W'.heap[B+1]? = W.heap[B+1]?
def EB(B:Nat)(Y:Nat->Prop):Nat->Prop:=λb=>b=B\/b=B+1\/Y b
structure EM(P:Program)(gf:FuncId)(lb:List Value)(xss:List (List Value))(R:Nat->Prop)(w0:World):Prop where
 run:∀(l:Nat) (J:(Nat->Prop)->Nat->World->Prop) (Jx:(Nat->Prop)->World->Prop) (W:World),AB AD w0 W->
  (∀Y i W W',J Y i W->AB Y W W'->J (λb=>Y b\/(W.heap.size<=b/\b<W'.heap.size)) i W')->
  (∀Y W W',Jx Y W->AB Y W W'->Jx (λb=>Y b\/(W.heap.size<=b/\b<W'.heap.size)) W')->
  (∀Y i xs W1,xss[i]? = some xs->J Y i W1->EW P l xs W1 λe W'=>
   DL (λb=>Y b\/R b) W1 W'/\((e=.returned (.bool true)/\J Y (i+1) W')\/(e=.returned (.bool false)/\Jx Y W')))->
  J (λ_=>False) 0 W->
  Calls P gf (#[.func (.yield l) #[] #[]]++lb.toArray) W λe W'=>(∃v,e=.returned v)/\((∃Y,J Y xss.length W')\/∃Y,Jx Y W')
structure DV(B:Nat)(W:World):Prop where
 at_:W.heap[B]? = some (.deferred (some []))
structure CV(ds:List Nat)(W:World):Prop where
 nd:ds.Nodup
 all:∀D∈ds,W.heap[D]? = some (.deferred (some []))
def A74(e:Env):List Nat->List Value->Env
 | p::ps,x::xs=>A74 (IT e (some p) ⟨none,x,none⟩) ps xs
 | _,_=>e
def B9a(f:Nat->Prop):List Nat->Prop
 | []=>True
 | [i]=>f i
 | i::j::r=>f i/\B9a f (j::r)
theorem A67{f:Nat->Prop}:∀{l:List Nat},B9a f l->∀i∈l,f i
 | [],_,i,hi=>by cases hi
 | [j],h,i,hi=>by simp at hi;subst hi;exact h
 | j::k::r,h,i,hi=>by
  rcases List.mem_cons.1 hi with rfl|hi
  .exact h.1
  .exact A67 h.2 i hi
def C01(J:List Nat)(id:Nat):Nat:=
 match NS (4000000+id) J with
 | true=>1
 | false=>(match NS (5000000+id) J with|true=>2|false=>0)
def shpN:Nat->Shp
 | 0=>.int .i64
 | 1=>.AP
 | 2=>.sl
 | 3=>.mp
 | 4=>.bool
 | 5=>.int .u8
 | _=>.val
def G8(id:Nat):List Nat->List (Nat×Shp)
 | []=>[]
 | n::r=>(match n/100000==1000+id with|true=>(n%100000/10,shpN (n%10))::G8 id r|false=>G8 id r)
def C3n(P:Program)(H:Hand)(J:List Nat)(ops:Array Oper)(d:Bool)(QN:Env->World->Prop)(e:Env)(w:World):Prop:=
 match d with
 | false=>A7s P H (C3m J) ops.toList QN ops.toList e w
 | true=>(match Region.noSelect ops with
  | true=>∀w1,w1=w.drew->A4c P H (C3m J) ops.toList (C1b P ops.toList) QN ops.toList.length [] (Array.replicate ops.toList.length false) e w1
  | false=>False)
structure B3s(P:Program)(ops:List Oper)(S:List Nat)(e:Env)(hs:List (Nat×Shp))(I:ITy (World->Prop) hs)(w:World):Prop where
 run:∀a,BN e a->∀Q:Exit->Act->World->Prop,(∀e' a' w',AgK S a a.defers e' a'->DD e' (λK=>K w') hs I->Q .normal a' w')->
  wpAny P .any ops.toArray Q ops.length (Array.replicate ops.length false) a w.drew
def EZ (P:Program) (H:Hand) (J:List Nat) (T:Bool):Code->(Exit->List Nat->Env->World->Prop)->List Nat->Env->World->Prop
 | .skip,Q,ds,e,w=>Q .normal ds e w
 | .ret,Q,ds,e,w=>Q .ret ds e w
 | .exit id,Q,ds,e,w=>Q (.exit id) ds e w
 | .seq a b,Q,ds,e,w=>EZ P H J T a (λex ds' e' w'=>match ex with
  | .normal=>EZ P H J T b Q ds' e' w'
  | ex=>Q ex ds' e' w') ds e w
 | .cond c x y,Q,ds,e,w=>
  (match rdO [] e c with
   | some (.bool b)=>
    (match inJ J (KD (.seq x y)) with
     | false=>Wif b (EZ P H J T x Q ds e w) (EZ P H J T y Q ds e w)
     | true=>(match EC (.seq x y) with
      | true=>False
      | false=>∃I:ITy (World->Prop) (HL (asg x++asg y) e),
       Wif b
        (EZ P H J T x (λex ds' e' w'=>match ex with
         | .normal=>DD e' (λK=>K w') (HL (asg x++asg y) e) I
         | ex=>Q ex ds' e' w') ds e w)
        (EZ P H J T y (λex ds' e' w'=>match ex with
         | .normal=>DD e' (λK=>K w') (HL (asg x++asg y) e) I
         | ex=>Q ex ds' e' w') ds e w)/\
       MK (λe' K=>∀w',K w'->Q .normal ds e' w') (HL (asg x++asg y) e) I (forget (asg x++asg y) e)))
   | _=>False)
 | .block id x,Q,ds,e,w=>EZ P H J T x (λex ds' e' w'=>match ex with
  | .exit i=>(match i==id with|true=>Q .normal ds' e' w'|false=>Q (.exit i) ds' e' w')
  | ex=>Q ex ds' e' w') ds e w
 | .region id ops d,Q,ds,e,w=>
  (match ops.toList.all (λo=>J5 o.op) with
   | false=>False
   | true=>(match C01 J id with
    | 0=>C3n P H J ops d (λe' w'=>Q .normal ds (forget [] e') w') e w
    | 1 => ∃ I : ITy (World -> Prop) (G8 id J), C3n P H J ops d (λe' w' => DD e' (λK => K w') (G8 id J) I) e w /\
     MK (λe' K => ∀ w', K w' -> Q .normal ds e' w') (G8 id J) I (forget (dstsOf ops.toList) e)
    | _ => (match d, Region.noSelect ops with
     | true, true => ∃ I : ITy (World -> Prop) (G8 id J), B3s P ops.toList (dstsOf ops.toList) e (G8 id J) I w /\
      MK (λe' K=>∀w',K w'->Q .normal ds e' w') (G8 id J) I (forget (dstsOf ops.toList) e)
     | _,_=>False)))
 | .loop x,Q,ds,e,w=>
  (match EC x with
   | false => ∃ I : ITy (World -> Nat -> Prop) (HL (asg x) e),
    (∃ n, DD e (λK => K w n) (HL (asg x) e) I) /\
    MK (λe' K=>∀w' n,K w' n->EZ P H J T x (λex ds2 e2 w2=>match ex with
     | .normal=>∃m,m<n/\DD e2 (λK=>K w2 m) (HL (asg x) e) I
     | ex=>Q ex ds2 e2 w2) ds e' w') (HL (asg x) e) I (forget (asg x) e)
   | true => ∃ I : ITy (List Nat -> World -> Nat -> Prop) (HL (asg x) e),
    (∃ n, DD e (λK => K ds w n) (HL (asg x) e) I) /\
    MK (λe' K=>∀ds' w' n,K ds' w' n->EZ P H J T x (λex ds2 e2 w2=>match ex with
     | .normal=>∃m,m<n/\DD e2 (λK=>K ds2 w2 m) (HL (asg x) e) I
     | ex=>Q ex ds2 e2 w2) ds' e' w') (HL (asg x) e) I (forget (asg x) e))
 | .rangeFunc g ps assign body,Q,ds,e,w=>
  (match T,EC assign||EC body,rdO [] e g with
   | true,false,some (.func (.func gf) fst lb)=>
    (match fst.toList,A5n P gf with
     | [],true=>∃(xss:List (List Value)) (R:Nat->Prop) (I:(Nat->Prop)->Nat->World->Prop) (X:Nat->(Nat->Prop)->World->Prop),
      (EM P gf lb.toList xss R w/\(∀xs,xs∈xss->xs.length=ps.toList.length/\C0w P (B77 (.seq assign body) ps.toList) λys=>xs=ys)/\(∀b,R b->b<w.heap.size))/\
      (∀w1,AB AD w w1->w1.heap.size=w.heap.size+2->I (λ_=>False) 0 w1)/\
      (∀Y i W W',I Y i W->(∀b,Y b->w.heap.size+2<=b)->AB (EB w.heap.size Y) W W'->I (λb=>Y b\/(W.heap.size<=b/\b<W'.heap.size)) i W')/\
      (∀k Y W W',X k Y W->(∀b,Y b->w.heap.size+2<=b)->AB (EB w.heap.size Y) W W'->X k (λb=>Y b\/(W.heap.size<=b/\b<W'.heap.size)) W')/\
      (∀(Y:Nat->Prop) i W,I Y i W->(∀b,Y b->w.heap.size+2<=b)->w.heap.size+2<=W.heap.size->
       C0x P (B77 (.seq assign body) ps.toList) λxs=>xss[i]? = some xs->EZ P H J false assign (λex _ e1 w1=>match ex with
        | .normal=>CA w.heap.size W w1/\∀w2,AB (λb=>b=w.heap.size+1) w1 w2->w2.heap.size=w1.heap.size->
         EZ P H J false body (λex _ e2 w3=>match ex with
          | .normal=>CA w.heap.size w2 w3/\DL (λb=>Y b\/R b) W w3/\I Y (i+1) w3
          | .ret=>CA w.heap.size w2 w3/\DL (λb=>Y b\/R b) W w3/\X 0 Y w3
          | .exit id=>(match NS id (FY body) with|true=>CA w.heap.size w2 w3/\DL (λb=>Y b\/R b) W w3/\X (id+1) Y w3|false=>False)
          | _=>False) [] e1 w2
        | _=>False) [] (A74 e ps.toList xs) W)/\
      (∀Y W,I Y xss.length W->DV w.heap.size W->Q .normal (w.heap.size::ds) e W)/\
      (∀Y W,X 0 Y W->DV w.heap.size W->Q .ret (w.heap.size::ds) e W)/\
      B9a (λid=>∀Y W,X (id+1) Y W->DV w.heap.size W->Q (.exit id) (w.heap.size::ds) e W) (FY body)
     | _,_=>False)
   | _,_,_=>False)
 | .scope x,Q,ds,e,w=>
  (match T with
   | true => EZ P H J true x (λex ds' e' w' => match ex with
    | .goto _ => False
    | ex=>Q ex ds' e' w') ds e w
   | false=>False)
 | .label _,Q,ds,e,w=>Q .normal ds e w
 | _,_,_,_,_=>False
noncomputable def leastN (p:Nat->Prop):Nat:=Classical.epsilon λn=>p n/\∀m,p m->n<=m
theorem IE{p:Nat->Prop}(h:∃n,p n):p (leastN p)/\∀m,p m->leastN p<=m:=by
 have:∃n,p n/\∀m,p m->n<=m:=by
  obtain⟨n,hn⟩:=h
  induction n using Nat.strongRecOn with
  | _ n ih=>
   by_cases hx:∃m,m<n/\p m
   .obtain⟨m,hm,hp⟩:=hx;exact ih m hm hp
   .exact⟨n,hn,λm hm=>Nat.le_of_not_lt λhlt=>hx ⟨m,hlt,hm⟩⟩
 exact Classical.epsilon_spec this
def NoP(Q:Exit->Act->World->Prop):Exit->Act->World->Prop
 | .panic _,_,_=>False
 | .outgrown,_,_=>False
 | e,a,w=>Q e a w
theorem NoP.imp{Q:Exit->Act->World->Prop}:∀(e:Exit) (a:Act) (w:World),NoP Q e a w->Q e a w:=λe a w h=>by
 cases e <;> first|exact h|exact(h:False).elim
theorem A6i{t:Nat}:∀{l:List Nat},NS t l=true->t∈l
 | [],h=>by cases h
 | s::r,h=>by
  unfold NS at h;rw [Bool.or_eq_true] at h;rcases h with h|h
  .have:s=t:=by simpa using h
   subst this;simp
  .exact mcm _ (A6i h)
theorem NoP.C08{Q:Exit->Act->World->Prop}:¬LetsOut (NoP Q):=λ⟨_,_,h⟩=>h
theorem A0m(B:Nat)(ds:List Nat):marks (B::ds)=[{target:=.collected B,args:=#[]}]++marks ds:=rfl
theorem J6{w:World}{l:Nat}{o:Obj}{X:Nat->Prop}(hx:X l):AB X w (w.putObj l o):=
 ⟨rfl,rfl,rfl,by simp,λb _ hn=>World.putObj_heap_other λe=>hn (e▸hx)⟩
theorem PY:∀(ps:List Nat) (xs:List Value) (e:Env) (a:Act),BN e a->BN (A74 e ps xs) {a with tmps:=(ps.zip xs).foldl (λt (p,v)=>t.setIfInBounds p v) a.tmps}
 | [],_,e,a,h=>by simpa [A74] using h
 | p::ps,[],e,a,h=>by simpa [A74] using h
 | p::ps,x::xs,e,a,h=>by
  have:=PY ps xs _ _ (h.put (some p) ⟨none,x,none⟩ (v:=x) rfl);exact this
theorem MS{e:Env}{a:Act}(h:BN e a)(ds:List Deferred):BN e {a with defers:=ds}:=⟨h.len,h.ent,h.fx⟩
theorem PT {P:Program}{H:Hand} (hH:GJ P H) (hmix:P.follows .mixedOrders=true) {J:List Nat}:∀(c:Code) (T:Bool) (r:Option Nat) (n:Nat),(T=true->r=none)->∀(S:List Nat) (a0:Act) (QW:Exit->List Nat->Env->World->Prop) (Q:Exit->Act->World->Prop) (ds:List Nat) (e:Env) (a:Act) (w:World),
 (∀t∈asg c,t∈S)->(∀ex ds' e a w,(EC c=false->ds'=ds)->AgK S a0 (marks ds') e a->QW ex ds' e w->Q ex a w)->AgK S a0 (marks ds) e a->EZ P H J T c QW ds e w->c.wpIn (FR r) n P Q a w:=by
 intro c
 induction c with
 | skip=>intro T r n hT S a0 QW Q ds e a w _ hQ ha h;exact wpIn_skip (hQ _ _ _ _ _ (λ_=>rfl) ha h)
 | ret=>intro T r n hT S a0 QW Q ds e a w _ hQ ha h;exact wpIn_ret (hQ _ _ _ _ _ (λ_=>rfl) ha h)
 | exit id=>intro T r n hT S a0 QW Q ds e a w _ hQ ha h;exact wpIn_exit (hQ _ _ _ _ _ (λ_=>rfl) ha h)
 | seq x y ihx ihy=>
  intro T r n hT S a0 QW Q ds e a w hS hQ ha h;have hrf:EC (.seq x y)=(EC x||EC y):=rfl;refine wpIn_seq (ihx T r n hT S a0 _ _ ds e a w (λt ht=>hS t (List.mem_append_left _ ht)) ?_ ha h);intro ex ds' e' a' w' hd ha' hq
  cases ex with
  | normal=>
   refine ihy T r n hT S a0 QW Q ds' e' a' w' (λt ht=>hS t (List.mem_append_right _ ht)) (λex ds2 e2 a2 w2 hd2 ha2 hq2=>hQ _ _ _ _ _ (λhf=>?_) ha2 hq2) ha' hq;rw [hrf,Bool.or_eq_false_iff] at hf;rw [hd2 hf.2,hd hf.1]
  | _=>exact hQ _ _ _ _ _ (λhf=>hd (by rw [hrf,Bool.or_eq_false_iff] at hf;exact hf.1)) ha' hq
 | cond c x y ihx ihy=>
  intro T r n hT S a0 QW Q ds e a w hS hQ ha h;have hSx:∀t∈asg x,t∈S:=λt ht=>hS t (List.mem_append_left _ ht);have hSy:∀t∈asg y,t∈S:=λt ht=>hS t (List.mem_append_right _ ht);have hrf:EC (.cond c x y)=(EC x||EC y):=rfl;unfold EZ at h;split at h
  .rename_i b hb;have hc:=CC ha.ag (by simp) _ _ hb;split at h
   .rcases GC h with⟨rfl,h⟩|⟨rfl,h⟩
    .exact wpIn_cond_true hc (ihx T r n hT S a0 QW Q ds e a w hSx (λex ds' e a w hd=>hQ ex ds' e a w λhf=>hd (by rw [hrf,Bool.or_eq_false_iff] at hf;exact hf.1)) ha h)
    .exact wpIn_cond_false hc (ihy T r n hT S a0 QW Q ds e a w hSy (λex ds' e a w hd=>hQ ex ds' e a w λhf=>hd (by rw [hrf,Bool.or_eq_false_iff] at hf;exact hf.2)) ha h)
   .split at h
    .exact h.elim
    .rename_i hnrf;have hnrf':EC x=false/\EC y=false:=by
      have:(EC x||EC y)=false:=hnrf
      rwa [Bool.or_eq_false_iff] at this
     obtain⟨I,h,hg⟩:=h;have hS':∀t∈asg x++asg y,t∈S:=hS;have key : ∀ ex ds' e' a' w', ds' = ds -> AgK (asg x ++ asg y) a (marks ds') e' a' -> (match ex with
      | Exit.normal => DD e' (λK => K w') (HL (asg x ++ asg y) e) I
      | ex=>QW ex ds' e' w')->Q ex a' w':=by
      intro ex ds' e' a' w' hd ha' hq;subst hd;have hk:∀e2,BN e2 a'->AgK S a0 (marks ds') e2 a':=λe2 h2=>⟨h2,by rw [ha'.size,ha.size],ha'.defs,λt ht=>by
       rw [ha'.keep t (λhm=>ht (hS' t hm)),ha.keep t ht]⟩
      cases ex with
      | normal=>
       obtain⟨e2,K,h2,hK,hx⟩:=KS ha'.ag _ I _ (ha.ag.forget ha'.size ha'.keep) hq hg;exact hQ _ _ _ _ _ (λ_=>rfl) (hk e2 h2) (hx w' hK)
      | _=>exact hQ _ _ _ _ _ (λ_=>rfl) (hk e' ha'.ag) hq
     have ha':AgK (asg x++asg y) a (marks ds) e a:=⟨ha.ag,rfl,ha.defs,λ_ _=>rfl⟩;rcases GC h with⟨rfl,h⟩|⟨rfl,h⟩
     .exact wpIn_cond_true hc (ihx T r n hT (asg x++asg y) a _ Q ds e a w (λt ht=>List.mem_append_left _ ht) (λex ds' e' a' w' hd=>key ex ds' e' a' w' (hd hnrf'.1)) ha' h)
     .exact wpIn_cond_false hc (ihy T r n hT (asg x++asg y) a _ Q ds e a w (λt ht=>List.mem_append_right _ ht) (λex ds' e' a' w' hd=>key ex ds' e' a' w' (hd hnrf'.2)) ha' h)
  .exact h.elim
 | block id x ih=>
  intro T r n hT S a0 QW Q ds e a w hS hQ ha h;refine wpIn_block (ih T r n hT S a0 _ _ ds e a w hS ?_ ha h);intro ex ds' e' a' w' hd ha' hq
  cases ex with
  | exit i=>
   dsimp only at hq;simp only [Exit.inBlock];split at hq
   .rename_i hi;rw [if_pos (by simpa using hi)];exact hQ _ _ _ _ _ hd ha' hq
   .rename_i hi;rw [if_neg (by simpa using hi)];exact hQ _ _ _ _ _ hd ha' hq
  | _=>exact hQ _ _ _ _ _ hd ha' hq
 | region id ops d=>
  intro T r n hT S a0 QW Q ds e a w hS hQ ha h;have hS':∀o∈ops.toList,∀t,o.dst=some t->t∈S:=λo ho t ht=>hS t (A0v ho ht);have hfin:∀e a w,AgK S a0 (marks ds) e a->QW .normal ds (forget [] e) w->Q .normal a w:=λe a w ha hq=>
   hQ _ _ _ _ _ (λ_=>rfl) ⟨ha.ag.forget rfl (λ_ _=>rfl),ha.size,ha.defs,ha.keep⟩ hq
  have hcut:∀(hs:List (Nat×Shp)) (I:ITy (World->Prop) hs),MK (λe' K=>∀w',K w'->QW .normal ds e' w') hs I (forget (dstsOf ops.toList) e)->
   ∀e' a' w',AgK (dstsOf ops.toList) a (marks ds) e' a'->DD e' (λK=>K w') hs I->Q .normal a' w':=by
   intro hs I hg e' a' w' ha' hq;obtain⟨e2,K,h2,hK,hx⟩:=KS ha'.ag _ I _ (ha.ag.forget ha'.size ha'.keep) hq hg;exact hQ _ _ _ _ _ (λ_=>rfl) ⟨h2,by rw [ha'.size,ha.size],ha'.defs,λt ht=>by
    rw [ha'.keep t (λhm=>ht (hS t hm)),ha.keep t ht]⟩ (hx w' hK)
  have haS:AgK (dstsOf ops.toList) a (marks ds) e a:=⟨ha.ag,rfl,ha.defs,λ_ _=>rfl⟩;unfold EZ at h;split at h
  .exact h.elim
  .rename_i hnd;have hdef:∀o∈ops.toList,J5 o.op=true:=List.all_eq_true.1 hnd;have reg:∀(S2:List Nat) (a2:Act) (QN:Env->World->Prop),(∀o∈ops.toList,∀t,o.dst=some t->t∈S2)->(∀e a w,AgK S2 a2 (marks ds) e a->QN e w->Q .normal a w)->AgK S2 a2 (marks ds) e a->
    C3n P H J ops d QN e w->(Code.region id ops d).wpIn (FR r) n P Q a w:=by
    intro S2 a2 QN hS2 hfin ha h;unfold C3n at h;split at h
    .exact wpIn_region_list (by
      have:=A4a (r:=r) (n:=n) hH (ops:=ops.toList) (Q:=Q) hfin hdef ops.toList (λ_ h=>h) hS2 e a w ha h;simpa using this)
    .split at h
     .rename_i hns;have:=A4b hH (ops:=ops.toList) (L:=C1b P ops.toList) (Q:=NoP Q) (S:=S2) (a0:=a2) (D:=marks ds) (λe a w h1 h2=>hfin e a w h1 h2) (λc a w hx=>hx) hS2 (by simpa using hns)
       ops.toList.length [] (Array.replicate ops.toList.length false) e a w.drew ha (λj _ _ hl=>by simp [Array.getElem?_replicate] at hl;split at hl <;> simp at hl) trivial (h _ rfl)
      have h2:=LJ _ _ _ _ this;rw [Array.toArray_toList] at h2;have h2':=A34 (r:=r) (n:=n) NoP.C08 hdef _ _ _ _ h2
      have h3:(Code.region id ops true).wpIn (FR r) n P (NoP Q) a w:=wpIn_region_any hmix (by
       rw [<- Array.length_toList];exact h2')
      exact wpIn_mono h3 NoP.imp
     .exact h.elim
   split at h
   .exact reg S a0 _ hS' hfin ha h
   .obtain⟨I,h1,hg⟩:=h;exact reg (dstsOf ops.toList) a _ (λo ho t ht=>A0v ho ht) (λe' a' w' ha' hq=>hcut _ I hg e' a' w' ha' hq) haS h1
   .split at h
    .obtain⟨I,h1,hg⟩:=h;have hd:a.defers=marks ds:=ha.defs;have h2:=h1.run a ha.ag (NoP Q) (λe' a' w' ha' hq=>hcut _ I hg e' a' w' (by rw [<- hd];exact ha') hq);rw [Array.toArray_toList] at h2;have h2':=A34 (r:=r) (n:=n) NoP.C08 hdef _ _ _ _ h2
     have h3:(Code.region id ops true).wpIn (FR r) n P (NoP Q) a w:=wpIn_region_any hmix (by
      rw [<- Array.length_toList];exact h2')
     exact wpIn_mono h3 NoP.imp
    .exact h.elim
 | loop x ih=>
  intro T r n hT S a0 QW Q ds e a w hS hQ ha h;unfold EZ at h;split at h
  .rename_i hrf;obtain⟨I,⟨n0,h0⟩,hg⟩:=h
   let X:Act->World->Nat->Prop:=λa' w' n=>a'.tmps.size=a.tmps.size/\a'.defers=marks ds/\(∀t,t∉asg x->a'.tmps[t]? = a.tmps[t]?)/\∃e2,BN e2 a'/\DD e2 (λK=>K w' n) (HL (asg x) e) I
   refine wpIn_loop (λa' w'=>∃n,X a' w' n) (λa' w'=>leastN (X a' w')) ⟨n0,rfl,ha.defs,λ_ _=>rfl,e,ha.ag,h0⟩ ?_;intro a1 w1 hX;obtain⟨hx1,hxd,hx2,e2,he2,hap⟩:=(IE hX).1;obtain⟨e',K,he',hK,hk⟩:=KS he2 _ I _ (ha.ag.forget hx1 hx2) hap hg;have hb:=hk w1 _ hK;refine ih T r n hT (asg x) a _ _ ds e' a1 w1 (λt ht=>ht) ?_ ⟨he',hx1,hxd,hx2⟩ hb;intro ex ds3 e3 a3 w3 hd3 ha3 hq;have:=hd3 hrf;subst this
   cases ex with
   | normal=>
    obtain⟨m,hm,hap3⟩:=hq;have hX3:X a3 w3 m:=⟨ha3.size,ha3.defs,ha3.keep,e3,ha3.ag,hap3⟩;exact⟨⟨m,hX3⟩,Nat.lt_of_le_of_lt ((IE ⟨m,hX3⟩).2 m hX3) hm⟩
   | _=>
    exact hQ _ _ _ _ _ (λ_=>rfl) ⟨ha3.ag,by rw [ha3.size,ha.size],ha3.defs,λt ht=>by rw [ha3.keep t (λhm=>ht (hS t hm)),ha.keep t ht]⟩ hq
  .rename_i hrf;obtain⟨I,⟨n0,h0⟩,hg⟩:=h
   let X:Act->World->Nat->Prop:=λa' w' n=>∃ds',a'.tmps.size=a.tmps.size/\a'.defers=marks ds'/\(∀t,t∉asg x->a'.tmps[t]? = a.tmps[t]?)/\∃e2,BN e2 a'/\DD e2 (λK=>K ds' w' n) (HL (asg x) e) I
   refine wpIn_loop (λa' w'=>∃n,X a' w' n) (λa' w'=>leastN (X a' w')) ⟨n0,ds,rfl,ha.defs,λ_ _=>rfl,e,ha.ag,h0⟩ ?_;intro a1 w1 hX;obtain⟨ds1,hx1,hxd,hx2,e2,he2,hap⟩:=(IE hX).1;obtain⟨e',K,he',hK,hk⟩:=KS he2 _ I _ (ha.ag.forget hx1 hx2) hap hg;have hb:=hk ds1 w1 _ hK;refine ih T r n hT (asg x) a _ _ ds1 e' a1 w1 (λt ht=>ht) ?_ ⟨he',hx1,hxd,hx2⟩ hb;intro ex ds3 e3 a3 w3 hd3 ha3 hq;have hrf':EC (.loop x)=true:=hrf
   cases ex with
   | normal=>
    obtain⟨m,hm,hap3⟩:=hq;have hX3:X a3 w3 m:=⟨ds3,ha3.size,ha3.defs,ha3.keep,e3,ha3.ag,hap3⟩;exact⟨⟨m,hX3⟩,Nat.lt_of_le_of_lt ((IE ⟨m,hX3⟩).2 m hX3) hm⟩
   | _=>
    exact hQ _ _ _ _ _ (λhf=>by rw [hrf'] at hf;cases hf) ⟨ha3.ag,by rw [ha3.size,ha.size],ha3.defs,λt ht=>by rw [ha3.keep t (λhm=>ht (hS t hm)),ha.keep t ht]⟩ hq
 | rangeFunc g ps assign body ihA ihB=>
  intro T r n hT S a0 QW Q ds e a w hS hQ ha h;unfold EZ at h;split at h
  .rename_i gf fst lb hor hg;rw [Bool.or_eq_false_iff] at hor;have hr0:=hT rfl;subst hr0;split at h
   .rename_i hfst hcb;have hfst':fst=#[]:=by cases fst;simp_all
    subst hfst';obtain⟨xss,R,I,X,⟨hgv,hlen,hRlt⟩,h0,hab,hxab,hbody,hdone,hret,hexit⟩:=h;have hge:=CC ha.ag (by simp) _ _ hg;refine wpIn_rangeFunc λfn _=>?_;obtain⟨B,hB⟩:∃B,B=w.heap.size:=⟨_,rfl⟩;rw [<- hB] at hRlt h0 hab hxab hbody hdone hret hexit;obtain⟨rec,hrec⟩:∃rec:LoopState->Option Code->Loop,rec=λst pe=>{state:=st,pending:=pe,fn,tmps:=a.tmps,params:=ps,assign,body,defers:=B}:=⟨_,rfl⟩;obtain⟨W1,hW1⟩:∃W1,W1=(w.alloc (.deferred (some []))).alloc (.loop (rec .ready none)):=⟨_,rfl⟩;have hsz1:W1.heap.size=B+2:=by rw [hW1,hB];simp
    have hk1:AB AD w W1:=by
     refine⟨by rw [hW1];rfl,by rw [hW1];rfl,by rw [hW1];rfl,by omega,λb hb _=>?_⟩;rw [hW1];simp only [World.alloc,Array.getElem?_push,Array.size_push];rw [if_neg (by omega),if_neg (by omega)]
    have hl1:W1.heap[B+1]? = some (.loop (rec .ready none)):=by
     have:=World.alloc_heap_new (w.alloc (.deferred (some []))) (.loop (rec .ready none));rw [World.size_alloc] at this;rw [hW1,hB];exact this
    have hd1:W1.heap[B]? = some (.deferred (some [])):=by
     rw [hW1,hB];exact(RowKit.Below.heap_alloc _ _ _ (by simp)).trans (World.alloc_heap_new w _)
    have hrun:(Instr.enterLoop fn a.tmps ps assign body (FR none).round).run P w=.ok (B+1,[{target:=.collected B,args:=#[]}]) W1:=by
     rw [FR_round,run_enterLoop_outer,hW1,hrec,hB]
    refine⟨B+1,[{target:=.collected B,args:=#[]}],W1,{target:=.fn (.func gf) lb,args:=#[.func (.yield (B+1)) #[] #[]]},W1,gf,#[.func (.yield (B+1)) #[] #[]]++lb,W1,hrun,?_,λf _=>RD none f,?_,λhh=>(by cases hh),?_⟩
    .simp only [resolve,hge];simp [go_sem]
    .simp [invoke,go_sem,EK hcb]
    refine MR.2 ?_;have hJ:=hgv.run (B+1)
     (λY i W=>I Y i W/\W.heap[B+1]? = some (.loop (rec .ready none))/\W.heap[B]? = some (.deferred (some []))/\(∀b,Y b->B+2<=b)/\B+2<=W.heap.size)
     (λY W=>∃c k,((c=Code.ret/\k=0)\/(∃id,c=Code.exit id/\k=id+1/\id∈FY body))/\X k Y W/\W.heap[B+1]? = some (.loop (rec .done (some c)))/\W.heap[B]? = some (.deferred (some []))/\(∀b,Y b->B+2<=b)/\B+2<=W.heap.size)
     W1 hk1 ?_ ?_ ?_ ⟨h0 W1 hk1 hsz1,hl1,hd1,λb hb=>hb.elim,by omega⟩
    .rw [Array.toArray_toList] at hJ;refine hJ.AE ?_;rintro en W2 ⟨⟨v,rfl⟩,hend⟩;rcases hend with⟨Y,hi,hl,hd,hY,hsz⟩|⟨Y,c,k,hck,hx,hl,hd,hY,hsz⟩
     .have he:(Instr.endLoop (B+1)).run P W2=.ok none (W2.putObj (B+1) (.loop {rec .ready none with state:=.exhausted})):=by
       have:=run_endLoop (P:=P) hl (by rw [hrec];simp);rw [hrec] at this ⊢;exact this
      refine⟨none,_,he,?_⟩;have hK:AB (EB B Y) W2 (W2.putObj (B+1) (.loop {rec .ready none with state:=.exhausted})):=J6 (.inr (.inl rfl));refine hQ _ (B::ds) e _ _ (λhf=>by cases hf) ⟨MS ha.ag _,ha.size,by rw [A0m,ha.defs],ha.keep⟩ (hdone _ _ (hab _ _ _ _ hi hY hK) ⟨?_⟩);exact(World.putObj_heap_other (by omega)).trans hd
     .have he:(Instr.endLoop (B+1)).run P W2=.ok (some c) (W2.putObj (B+1) (.loop {rec .done (some c) with state:=.exhausted})):=by
       have:=run_endLoop (P:=P) hl (by rw [hrec];simp);rw [hrec] at this ⊢;exact this
      refine⟨some c,_,he,?_⟩;have hK:AB (EB B Y) W2 (W2.putObj (B+1) (.loop {rec .done (some c) with state:=.exhausted})):=J6 (.inr (.inl rfl));have hX:=hxab _ _ _ _ hx hY hK;have hD:DV B (W2.putObj (B+1) (.loop {rec .done (some c) with state:=.exhausted})):=⟨(World.putObj_heap_other (by omega)).trans hd⟩;have hA:AgK S a0 (marks (B::ds)) e {a with defers:=[{target:=.collected B,args:=#[]}]++a.defers}:=⟨MS ha.ag _,ha.size,by rw [A0m,ha.defs],ha.keep⟩;rcases hck with⟨rfl,rfl⟩|⟨id,rfl,rfl,hid⟩
      .exact wpIn_ret (hQ _ (B::ds) e _ _ (λhf=>by cases hf) hA (hret _ _ hX hD))
      .exact wpIn_exit (hQ _ (B::ds) e _ _ (λhf=>by cases hf) hA (A67 hexit id hid _ _ hX hD))
    .rintro Y i W W' ⟨hi,hl,hd,hY,hsz⟩ hk;have:=hk.sz;have n0:¬Y B:=λhb=>by have:=hY _ hb;omega
     have n1:¬Y (B+1):=λhb=>by have:=hY _ hb;omega
     refine⟨hab _ _ _ _ hi hY ⟨hk.os,hk.tape,hk.out,hk.sz,λb hb hn=>hk.blk b hb λhy=>hn (.inr (.inr hy))⟩,(hk.blk _ (by omega) n1).trans hl,(hk.blk _ (by omega) n0).trans hd,λb hb=>?_,by omega⟩;rcases hb with hb|⟨hb,_⟩
     .exact hY b hb
     .omega
    .rintro Y W W' ⟨c,k,hck,hx,hl,hd,hY,hsz⟩ hk;have:=hk.sz;have n0:¬Y B:=λhb=>by have:=hY _ hb;omega
     have n1:¬Y (B+1):=λhb=>by have:=hY _ hb;omega
     refine⟨c,k,hck,hxab _ _ _ _ hx hY ⟨hk.os,hk.tape,hk.out,hk.sz,λb hb hn=>hk.blk b hb λhy=>hn (.inr (.inr hy))⟩,(hk.blk _ (by omega) n1).trans hl,(hk.blk _ (by omega) n0).trans hd,λb hb=>?_,by omega⟩;rcases hb with hb|⟨hb,_⟩
     .exact hY b hb
     .omega
    .rintro Y i xs W hxs ⟨hi,hl,hd,hY,hsz⟩;have hxl:=(hlen xs (mog hxs)).1;have hy:=run_yield (P:=P) (args:=xs.toArray) hl (by rw [hrec];simpa using hxl);rw [hrec] at hy;refine⟨fn,_,assign,body,hy,roundIn_of_wpIn (F:=Fence.wide) trivial ?_⟩;obtain⟨ys,hxy,hb⟩:=C0v (hlen xs (mog hxs)).2 (hbody Y i W hi hY hsz);have hxy':xs=ys:=hxy;rw [<- hxy'] at hb;replace hb:=hb hxs;have hag:BN (A74 e ps.toList xs) {tmps:=(ps.zip xs.toArray).foldl (λtmps (t,a)=>tmps.setIfInBounds t a) a.tmps,defers:=[]}:=by
      have:=PY ps.toList xs e a ha.ag;have e1:(ps.zip xs.toArray).foldl (λtmps (t,a)=>tmps.setIfInBounds t a) a.tmps=(ps.toList.zip xs).foldl (λt (p,v)=>t.setIfInBounds p v) a.tmps:=by
       rw [<- Array.foldl_toList];simp
      rw [e1];exact MS this []
     refine ihA false (some (B+1)) _ (λhh=>by cases hh) (asg assign) {tmps:=(ps.zip xs.toArray).foldl (λtmps (t,a)=>tmps.setIfInBounds t a) a.tmps,defers:=[]} _ _ [] _ _ W (λt ht=>ht) ?_ ⟨hag,rfl,rfl,λ_ _=>rfl⟩ hb;intro ex ds1 e1 a1 w1 hd1 ha1 hq;have hds1:=hd1 hor.1;subst hds1
     cases ex with
     | normal=>
      obtain⟨hrk,hq⟩:=hq;have hl1':w1.heap[B+1]? = some (.loop (rec .ready none)):=hrk.l.trans hl;have hlt1:=(FK.1 hl1').1;refine⟨_,run_beginRound hl1' (by rw [hrec]),?_⟩;obtain⟨w2,hw2⟩:∃w2,w2=w1.putObj (B+1) (.loop {rec .ready none with state:=.busy}):=⟨_,rfl⟩;rw [<- hw2];have hk12:AB (λb=>b=B+1) w1 w2:=by rw [hw2];exact J6 rfl
      have hsz12:w2.heap.size=w1.heap.size:=by rw [hw2];simp
      have hl2:w2.heap[B+1]? = some (.loop {rec .ready none with state:=.busy}):=by rw [hw2];exact World.putObj_heap_same hlt1
      have hd2:w2.heap[B]? = some (.deferred (some [])):=by rw [hw2];exact(World.putObj_heap_other (by omega)).trans (hrk.d.trans hd)
      refine ihB false (some (B+1)) _ (λhh=>by cases hh) (asg body) a1 _ _ [] e1 a1 w2 (λt ht=>ht) ?_ ⟨ha1.ag,rfl,ha1.defs,λ_ _=>rfl⟩ (hq w2 hk12 hsz12);intro ex ds3 e3 a3 w3 _ ha3 hq3;have fin:∀(jump:Option Code),CA B w2 w3->
       (Instr.endRound (B+1) jump).run P w3=.ok (.bool jump.isNone) (w3.putObj (B+1) (.loop (rec (if jump.isNone then .ready else .done) jump)))/\
       (w3.putObj (B+1) (.loop (rec (if jump.isNone then .ready else .done) jump))).heap[B+1]? = some (.loop (rec (if jump.isNone then .ready else .done) jump))/\
       (w3.putObj (B+1) (.loop (rec (if jump.isNone then .ready else .done) jump))).heap[B]? = some (.deferred (some [])):=λjump hk3=>by
       have hl3:=hk3.l.trans hl2;have:=run_endRound (P:=P) jump hl3;rw [hrec] at this ⊢;exact⟨this,World.putObj_heap_same (FK.1 hl3).1,(World.putObj_heap_other (by omega)).trans (hk3.d.trans hd2)⟩
      have kyP:∀(jump:Option Code),DL (λb=>Y b\/R b) W w3->DL (λb=>Y b\/R b) W (w3.putObj (B+1) (.loop (rec (if jump.isNone then .ready else .done) jump))):=λjump hky=>by
       refine⟨by have:=hky.sz;simpa using this,λb hb=>?_⟩;rw [<- hky.blk b hb];refine World.putObj_heap_other λhbe=>?_;rcases hb with hb|hb
       .have:=hY b hb;omega
       .have:=hRlt b hb;omega
      have eYP:∀(o:Obj),(λb=>Y b\/(w3.heap.size<=b/\b<(w3.putObj (B+1) o).heap.size))=Y:=λo=>by
       funext b;simp only [World.putObj_size,eq_iff_iff];exact⟨λh=>h.elim id (λh=>by omega),.inl⟩
      have hszP:CA B w2 w3->∀(o:Obj),B+2<=(w3.putObj (B+1) o).heap.size:=λhk3 o=>by
       have:=hk3.sz;have:=hrk.sz;simp;omega
      cases ex with
      | normal=>
       obtain⟨hk3,hky,hi3⟩:=hq3;obtain⟨hrun3,hl4,hd4⟩:=fin none hk3;refine⟨_,_,hrun3,kyP none hky,.inl ⟨rfl,?_,hl4,hd4,hY,hszP hk3 _⟩⟩;have:=hab _ _ _ _ hi3 hY (J6 (w:=w3) (l:=B+1) (o:=.loop (rec (if (none:Option Code).isNone then .ready else .done) none)) (X:=EB B Y) (.inr (.inl rfl)));rw [eYP] at this;exact this
      | ret=>
       obtain⟨hk3,hky,hx3⟩:=hq3;obtain⟨hrun3,hl4,hd4⟩:=fin (some .ret) hk3;refine⟨_,_,hrun3,kyP (some .ret) hky,.inr ⟨rfl,.ret,0,.inl ⟨rfl,rfl⟩,?_,hl4,hd4,hY,hszP hk3 _⟩⟩;have:=hxab _ _ _ _ hx3 hY (J6 (w:=w3) (l:=B+1) (o:=.loop (rec (if (some Code.ret:Option Code).isNone then .ready else .done) (some .ret))) (X:=EB B Y) (.inr (.inl rfl)));rw [eYP] at this;exact this
      | exit id=>
       dsimp only at hq3;split at hq3
       .rename_i hmem;obtain⟨hk3,hky,hx3⟩:=hq3;obtain⟨hrun3,hl4,hd4⟩:=fin (some (.exit id)) hk3;refine⟨_,_,hrun3,kyP (some (.exit id)) hky,.inr ⟨rfl,.exit id,id+1,.inr ⟨id,rfl,rfl,A6i hmem⟩,?_,hl4,hd4,hY,hszP hk3 _⟩⟩;have:=hxab _ _ _ _ hx3 hY (J6 (w:=w3) (l:=B+1) (o:=.loop (rec (if (some (Code.exit id):Option Code).isNone then .ready else .done) (some (.exit id)))) (X:=EB B Y) (.inr (.inl rfl)));rw [eYP] at this;exact this
       .exact hq3.elim
      | _=>exact hq3.elim
     | _=>exact hq.elim
   .exact h.elim
  .exact h.elim
 | scope x ih=>
  intro T r n hT S a0 QW Q ds e a w hS hQ ha h;unfold EZ at h;split at h
  .have hr0:=hT rfl;subst hr0;rw [B3v];refine wpIn_wide.2 (wp_scope_straight ((wpIn_wide (n:=n)).1 ?_));rw [<- B3v];refine ih true none n (λ_=>rfl) S a0 _ _ ds e a w hS ?_ ha h;intro ex ds' e' a' w' hd ha' hq
   cases ex with
   | goto l=>exact hq.elim
   | _=>exact hQ _ _ _ _ _ hd ha' hq
  .exact h.elim
 | label l=>intro T r n hT S a0 QW Q ds e a w _ hQ ha h;exact wpIn_label (hQ _ _ _ _ _ (λ_=>rfl) ha h)
 | _=>intro T r n hT S a0 QW Q ds e a w _ _ _ h;exact h.elim
def A9w(P:Program)(e:Env)(w:World):List ResultVar->(List Value->Prop)->Prop
 | [],k=>k []
 | .tmp t::r,k=>(match rdO [] e (.tmp t) with|some v=>A9w P e w r λvs=>k (v::vs)|none=>False)
 | .cell s t::r,k=>(match rdO [] e (.tmp s) with
  | some x=>(B4l P t x).den w (λv _=>A9w P e w r λvs=>k (v::vs)) (λ_=>True)
  | none=>False)
def QI:List Value->Value
 | [v]=>v
 | vs=>.tuple vs.toArray
def PD(n:Nat):List Value->Env
 | []=>List.replicate n none
 | v::vs=>some ⟨none,v,none⟩::PD (n-1) vs
def A9x(P:Program)(H:Hand)(J:List Nat)(fn:Func)(c:Code)(args:List Value)(w:World)(K:Value->World->Prop):Prop:=
 match EC c with
 | false=>EZ P H J true c (λex _ e w'=>match ex with
  | .normal=>A9w P e w' fn.results.toList λvs=>K (QI vs) w'
  | .ret=>A9w P e w' fn.results.toList λvs=>K (QI vs) w'
  | _=>False) [] (PD fn.ntmps args) w
 | true=>EZ P H J true c (λex ds e w'=>match ex with
  | .normal=>CV ds w'/\∀w2,AB (λb=>b∈ds) w' w2->w2.heap.size=w'.heap.size->A9w P e w2 fn.results.toList λvs=>K (QI vs) w2
  | .ret=>CV ds w'/\∀w2,AB (λb=>b∈ds) w' w2->w2.heap.size=w'.heap.size->A9w P e w2 fn.results.toList λvs=>K (QI vs) w2
  | _=>False) [] (PD fn.ntmps args) w
theorem A0f{P:Program}{w:World}{t:TypeId}{x v:Value}(h:(Instr.loadAt t x).run P w=.ok v w):((do loadVar t (<- asAddr x):Sem Value)).run P w=.ok v w:=by
 cases x <;> simp [Instr.loadAt,Instr.sureAddr] at h
 rename_i p
 cases p with
 | none=>simp at h
 | some a=>simpa [asAddr] using h
def B9x(ts:Array Value):ResultVar->Sem Value
 | .tmp t=>pure (ts.getD t undef)
 | .cell s t=>do loadVar t (<- asAddr (ts.getD s undef))
theorem A79(fn:Func)(ts:Array Value):results fn ts=(do
 let vs <- fn.results.mapM (B9x ts)
 pure (if h:vs.size=1 then vs[0] else .tuple vs)):=by
 have:(λr:ResultVar=>match r with
  | .tmp t=>(pure (ts.getD t undef):Sem Value)
  | .cell a t=>do loadVar t (<- asAddr (ts.getD a undef)))=B9x ts:=by
  funext r;cases r <;> rfl
 rw [<- this];rfl
theorem A7r{P:Program}{e:Env}{a:Act}{w:World}(ha:BN e a):∀(rs:List ResultVar) (k:List Value->Prop),A9w P e w rs k->
 ∃vs,k vs/\vs.length=rs.length/\(rs.mapM (B9x a.tmps)).run P w=.ok vs w:=by
 intro rs
 induction rs with
 | nil=>intro k h;exact⟨[],h,rfl,rfl⟩
 | cons r rs ih=>
  intro k h
  cases r with
  | tmp t=>
   simp only [A9w] at h;split at h
   .rename_i v hv;have hv':=CC ha (by simp) _ _ hv;simp only [Act.eval] at hv';obtain⟨vs,hk,hl,hr⟩:=ih _ h;refine⟨v::vs,hk,by simp [hl],?_⟩;simp only [List.mapM_cons,B9x,srb,srp,ato,hv',hr]
   .exact h.elim
  | cell s t=>
   simp only [A9w] at h;split at h
   .rename_i x hx;have hx':=CC ha (by simp) _ _ hx;simp only [Act.eval] at hx';obtain⟨v,c',hs,hc,c'',hn,_⟩:=BZ.O9 h;have hv:=A0f (QD hs hc);obtain⟨vs,hk,hl,hr⟩:=ih _ hn;refine⟨v::vs,hk,by simp [hl],?_⟩;have hv2:(B9x a.tmps (.cell s t)).run P w=.ok v w:=by
     show((do loadVar t (<- asAddr (a.tmps.getD s undef)):Sem Value)).run P w=_
     rw [hx',hv]
    rw [List.mapM_cons,srb,hv2,ato,srb,hr]
    rfl
   .exact h.elim
theorem B54:∀(args:List Value) (n:Nat),args.length<=n->(PD n args).length=n:=by
 intro args
 induction args with
 | nil=>intro n _;simp [PD]
 | cons v vs ih=>intro n h;simp at h;simp [PD,ih (n-1) (by omega)];omega
theorem A66:∀(args:List Value) (n t:Nat) (m:Ent),(PD n args)[t]? = some (some m)->m.need=none/\args[t]? = some m.val/\m.fix=none:=by
 intro args
 induction args with
 | nil=>
  intro n t m h;simp only [PD,List.getElem?_replicate] at h;split at h <;> simp at h
 | cons v vs ih=>
  intro n t m h
  cases t with
  | zero=>simp [PD] at h;subst h;exact⟨rfl,rfl,rfl⟩
  | succ t=>simp only [PD,List.getElem?_cons_succ] at h;simpa using ih _ _ _ h
theorem NW{P:Program}{fn:Func}{tmps:Array Value}{R:Ending->World->Prop}:∀(ds:List Nat) (w:World),CV ds w->
 (∀w',AB (λb=>b∈ds) w w'->w'.heap.size=w.heap.size->∃v,(results fn tmps).run P w'=.ok v w'/\R (.returned v) w')->LeavesInM (FR none) 0 P fn tmps R (marks ds) .returning w
 | [],w,_,h=>h w ⟨rfl,rfl,rfl,nlr _,λ_ _ _=>rfl⟩ rfl
 | D::ds,w,hd,h=>by
  refine⟨by simp,.inl ⟨D,w.putObj D (.deferred none),rfl,run_takeDeferred (hd.all D (by simp)),?_⟩⟩;have hnd:=List.nodup_cons.1 hd.nd;refine NW ds _ ⟨hnd.2,λD' hD'=>?_⟩ λw' hk hs=>h w' ?_ (by rw [hs];simp)
  .exact(World.putObj_heap_other λ(e:D'=D)=>hnd.1 (by rw [<- e];exact hD')).trans (hd.all D' (mcm _ hD'))
  .refine⟨hk.os,hk.tape,hk.out,by have:=hk.sz;simpa using this,λb hb hn=>?_⟩;rw [hk.blk b (by simpa using hb) λh=>hn (mcm _ h)];exact World.putObj_heap_other λe=>hn (by rw [e];simp)
theorem PV{P:Program}{H:Hand}(hH:GJ P H)(hmix:P.follows .mixedOrders=true){J:List Nat}{f:FuncId}{fn:Func}{c:Code}(hf:P.funcs[f]? = some fn)(hb:fn.body=some c){args:List Value}{w:World}
 (hn:args.length<=fn.ntmps) {K:Value->World->Prop} (h:A9x P H J fn c args w K):Calls P f args.toArray w (λe w'=>∃v,e=.returned v/\K v w'):=by
 refine(MR (r:=none) (n:=0)).1 (callsIn_of_wp_marks hf hb (RD none f) ?_ rfl)
 let a:Act:={tmps:=args.toArray++Array.replicate (fn.ntmps-args.toArray.size) undef,defers:=[]}
 have hag:BN (PD fn.ntmps args) a:=by
  refine⟨?_,λt n ht=>?_,λt n b ht hb=>?_⟩
  .rw [B54 _ _ hn];simp [a];omega
  rotate_left
  .have:=(A66 _ _ _ _ ht).2.2;rw [this] at hb;cases hb
  .obtain⟨h1,h2,_⟩:=A66 _ _ _ _ ht;have hlt:t<args.length:=(DC.1 h2).1;unfold EV;rw [h1];simp only [a];rw [Array.getElem?_append_left (by simpa using hlt)];simpa using h2
 have hres:∀e a w,BN e a->A9w P e w fn.results.toList (λvs=>K (QI vs) w)->∃v,(results fn a.tmps).run P w=.ok v w/\K v w:=by
  intro e a w ha hr;obtain⟨vs,hk,hl,hrun⟩:=A7r ha _ _ hr;refine⟨QI vs,?_,hk⟩;rw [A79,srb];have hrun':(fn.results.mapM (B9x a.tmps)).run P w=.ok vs.toArray w:=by
   rw [Array.mapM_eq_mapM_toList,Sem.run_map,hrun];rfl
  rw [hrun',ato]
  match vs with
  | []=>rfl
  | [v]=>rfl
  | v::v'::r=>simp [QI]
 unfold A9x at h;split at h
 .rename_i hrf;refine PT hH hmix c true none 0 (λ_=>rfl) (asg c) a _ _ [] (PD fn.ntmps args) a w (λt ht=>ht) ?_ ⟨hag,rfl,rfl,λ_ _=>rfl⟩ h;intro ex ds e a w hd ha hq;have:=hd hrf;subst this
  cases ex with
  | normal=>
   obtain⟨v,hv,hk⟩:=hres e a w ha.ag hq
   show LeavesInM _ _ _ _ _ _ a.defers .returning w
   rw [ha.defs];exact⟨v,hv,v,rfl,hk⟩
  | ret=>
   obtain⟨v,hv,hk⟩:=hres e a w ha.ag hq
   show LeavesInM _ _ _ _ _ _ a.defers .returning w
   rw [ha.defs];exact⟨v,hv,v,rfl,hk⟩
  | _=>exact hq.elim
 .refine PT hH hmix c true none 0 (λ_=>rfl) (asg c) a _ _ [] (PD fn.ntmps args) a w (λt ht=>ht) ?_ ⟨hag,rfl,rfl,λ_ _=>rfl⟩ h;intro ex ds e a w _ ha hq;have key:CV ds w/\(∀w2,AB (λb=>b∈ds) w w2->w2.heap.size=w.heap.size->A9w P e w2 fn.results.toList λvs=>K (QI vs) w2)->LeavesInM (FR none) 0 P fn a.tmps (λe w'=>∃v,e=.returned v/\K v w') a.defers .returning w:=by
   rintro ⟨hd,hq⟩;rw [ha.defs];refine NW ds w hd λw' hk hs=>?_;obtain⟨v,hv,hk⟩:=hres e a w' ha.ag (hq w' hk hs);exact⟨v,hv,v,rfl,hk⟩
  cases ex with
  | normal=>exact key hq
  | ret=>exact key hq
  | _=>exact hq.elim
def inline(P:Program)(inl:List Nat)(H:Hand):Hand:=λf args w K=>
 match NS f inl with
 | false=>H f args w K
 | true=>match P.funcs[f]? with
  | some fn=>(match fn.body,decide (args.length<=fn.ntmps) with
   | some c,true=>A9x P H [] fn c args w K
   | _,_=>False)
  | none=>False
theorem A3h{P:Program}{inl:List Nat}{H:Hand}(hH:GJ P H)(hmix:P.follows .mixedOrders=true):GJ P (inline P inl H):=by
 intro f args w K h hc;unfold inline at h;split at h
 .exact hH f args w K h hc
 .split at h
  .rename_i fn hf;split at h
   .rename_i c hb hn;exact PV hH hmix hf hb (of_decide_eq_true hn) h
   .exact h.elim
  .exact h.elim
def A7h(fn:Func):Code:=match fn.body with
 | some c=>c
 | none=>.skip
def A6v(P:Program)(inl:List Nat):Nat->Hand
 | 0=>H0 P
 | n+1=>inline P inl (A6v P inl n)
theorem O5{P:Program}(hmix:P.follows .mixedOrders=true)(inl:List Nat):∀n,GJ P (A6v P inl n)
 | 0=>HX P
 | n+1=>A3h (O5 hmix inl n) hmix
theorem vc_of{P:Program}(inl:List Nat)(d:Nat)(J:List Nat){f:FuncId}{fn:Func}(hmix:P.follows .mixedOrders=true)(hf:P.funcs[f]? = some fn){args:List Value}{w:World}{K:Value->World->Prop}{X:Prop}
 (hb:fn.body.isSome=true) (hn:decide (args.length<=fn.ntmps)=true) (hX:X=A9x P (A6v P inl d) J fn (A7h fn) args w K) (h:X) :
 Calls P f args.toArray w (λe w'=>∃v,e=.returned v/\K v w'):=by
 obtain⟨c,hc⟩:=Option.isSome_iff_exists.1 hb;have hc':A7h fn=c:=by simp [A7h,hc]
 rw [hc'] at hX;exact PV (O5 hmix inl d) hmix hf hc (of_decide_eq_true hn) (hX▸h)
