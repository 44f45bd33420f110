/- Part of an engine. Proved: its laws. Conditions: those in each theorem. -/
import Derived.Test.YtdgbechegbmpcaaGreatDoorEngF
import Derived.OrdersHeld
import Derived.RangeFuncSeq
import Derived.RangeFuncLeaves
import Derived.TacticsIn
import Derived.OrdersIn
import Derived.Scope
set_option linter.unusedVariables false
set_option linter.unusedSimpArgs false
namespace Go.Eng
structure AgK(S:List Nat)(a0:Act)(D:List Deferred)(e:Env)(a:Act):Prop where
 ag:BH e a
 size:a.tmps.size=a0.tmps.size
 defs:a.defers=D
 keep:∀t,t∉S->a.tmps[t]? = a0.tmps[t]?
theorem AgK.put{S:List Nat}{a0:Act}{D:List Deferred}{e e':Env}{a:Act}(h:AgK S a0 D e a){d:Option Tmp}{v:Value}(hd:∀t,d=some t->t∈S)(h':BH e' (a.put d v)):AgK S a0 D e' (a.put d v):=by
 refine⟨h',by rw [<- h.size];cases d <;> simp [Act.put],by rw [<- h.defs];cases d <;> rfl,fun t ht=>?_⟩;rw [<- h.keep t ht]
 cases d with
 | none=>rfl
 | some d=>
  have:d≠t:=fun hx=>ht (hx▸hd d rfl);simp [Act.put,Array.getElem?_setIfInBounds_ne this]
def FR(r:Option Nat):Fence:={Fence.wide with round:=r}
@[simp] theorem FR_round (r:Option Nat):(FR r).round=r:=rfl
theorem FR_none:FR none=Fence.wide:=rfl
theorem PU(r:Option Nat)(f:FuncId):(FR r).fn f:=trivial
theorem LV{r:Option Nat}{n:Nat}{P:Program}{f:FuncId}{args:Array Value}{w:World}{R:Ending->World->Prop}:CallsIn (FR r) n P f args w R↔Calls P f args w R:=
 ⟨fun h=>(callsIn_wide (n:=n)).1 h,fun h=>(callsIn_wide (n:=n)).2 h⟩
theorem rowsIn_FR{r:Option Nat}{n:Nat}{P:Program}{row:String}{args:Array Value}{w:World}{R:Value->World->Prop}(h:Rows P row args w R):RowsIn (FR r) n P row args w R:=fun c cs _=>by
 obtain⟨v,w',hr,hs⟩:=h c cs;exact⟨v,w',hr,stepsIn_wide.2 hs⟩
def II:Op->Bool
 | .defer _=>false
 | _=>true
theorem PA{o:Op}(h:II o=true):∀c,o≠.defer c:=fun c e=>by subst e;cases h
theorem op_in{r:Option Nat}{n:Nat}{P:Program}{o:Oper}{a:Act}{w:World}{K:Act->World->Prop}{Q:Exit->Act->World->Prop}(hd:II o.op=true)(h:o.wp P a w K Q):o.wpIn (FR r) n P a w K Q:=by
 refine⟨fun f _=>PU r f,?_⟩;rw [FR_round,Oper.semAt_eq r a.eval o (PA hd)];unfold Oper.wp at h;generalize (execOp a.eval o).run P w=x at h ⊢;unfold Oper.upon at h;unfold Oper.uponIn;split at h <;> first|exact h|skip
 ·exact⟨fun hh=>(by cases hh),LV.2 h⟩
 ·exact⟨fun hh=>(by cases hh),rowsIn_FR h⟩
 ·exact h.elim
theorem any_in{r:Option Nat}{n:Nat}{P:Program}{md:Region.Mode}{ops:Array Oper}{Q:Exit->Act->World->Prop}(hq:¬LetsOut Q)(hd:∀o∈ops.toList,II o.op=true) :
 ∀(fuel:Nat) (listed:Array Bool) (a:Act) (w:World),wpAny P md ops Q fuel listed a w->wpAnyIn (FR r) n P md ops Q fuel listed a w
 | 0,_,_,_,h=>h
 | fuel+1,listed,a,w,h=>by
  refine⟨h.1,fun i hi=>?_⟩;have h2:=h.2 i hi;unfold wpOp at h2;unfold wpOpIn
  cases ho:ops[i]? with
  | none=>
   rw [ho] at h2;exact any_in hq hd fuel _ _ _ h2
  | some o=>
   rw [ho] at h2;dsimp only at h2 ⊢;have hm:o∈ops.toList:=by
    obtain⟨hlt,e⟩:=F3.1 ho;rw [<- e];simp
   split
   ·rename_i hw;rw [if_pos hw] at h2;rcases h2 with h2|⟨_,h2⟩
    ·exact op_in (hd o hm) (Oper.wp_mono (fun a w hh=>any_in hq hd fuel _ a w hh) h2)
    ·exact absurd h2 hq
   ·rename_i hw;rw [if_neg hw] at h2;exact⟨fun f _=>PU r f,any_in hq hd fuel _ _ _ h2⟩
def opqC(ys:List Nat)(o:Oper):Bool:=
 match o.op with
 | .call {callee:=.value (.tmp t),..}=>ys.any (·==t+1000000)
 | _=>false
def eOpO(P:Program)(H:Hand)(ys:List Nat)(ρ:Operand->Option Value)(o:Oper)(w:World)(K:Value->World->Prop):Prop:=
 match opqC ys o with
 | true=>
  (match o.op with
   | .call {callee:=.value x,args:=args,..}=>
    (match ρ x,ID ρ args.toList with
     | some v,some vs=>AM P v vs w fun e w'=>retE P (resT P o.type) fun u=>e=.returned u/\K u w'
     | _,_=>False)
   | _=>False)
 | false=>eOp P H ρ o w K
theorem LQ{P:Program}{w:World}{H:Hand}(hH:FZ P H){ys:List Nat}{ρ:Operand->Option Value}{a:Act}(hρ:∀x u,ρ x=some u->a.eval x=u){o:Oper}{K:Value->World->Prop}
 (h:eOpO P H ys ρ o w K) {next:Act->World->Prop}{Q:Exit->Act->World->Prop} (hK:∀v w',K v w'->next (a.put o.dst v) w'):o.wp P a w next Q:=by
 unfold eOpO at h;split at h
 ·split at h
  ·rename_i x args ts ho;split at h
   ·rename_i v vs hx hvs;have h1:args.map a.eval=vs.toArray:=by rw [<- CX hρ hvs,<- Array.toList_map]
    obtain⟨f,p,c,rfl,hcb,h⟩:=h;unfold Oper.wp;simp only [execOp,ho,resolve,hρ _ _ hx,Deferred.ofValue,srb,srp,ato,invoke,h1,EF hcb];rw [Oper.upon_enter];refine h.mono fun e w' he=>?_;obtain⟨v,rfl,hk⟩:=O6 he;exact hK _ _ hk
   ·exact h.elim
  ·exact h.elim
 ·exact eOp_sound hH hρ h hK
def wLoudO(P:Program)(H:Hand)(ys:List Nat)(e:Env)(o:Oper)(g:Option (Nat×Bool))(w:World)(next:Env->World->Prop):Prop:=
 match g with
 | none=>eOpO P H ys (rdO [] e) o w fun v w'=>next (I1 e o.dst ⟨none,v,none⟩) w'
 | some p=>O0 (fun e'=>eOpO P H ys (rdO [] e') o w fun v w'=>next (I1 e' o.dst ⟨none,v,none⟩) w') (fun e'=>next (I1 e' o.dst ⟨none,undef,none⟩) w) 8 e p
theorem ME{P:Program}{H:Hand}(hH:FZ P H){ys:List Nat}{ops:List Oper}{e:Env}{a:Act}{o:Oper}{g:Option (Nat×Bool)}{w:World}{next:Env->World->Prop}
 (h:BH e a) (hg:LJ ops o=some g) (hw:wLoudO P H ys e o g w next) {K:Act->World->Prop}{Q:Exit->Act->World->Prop}
 (hK:∀e' v w',next e' w'->BH e' (a.put o.dst v)->K (a.put o.dst v) w') :
 (Region.wanted o (yielded ops.toArray a.tmps)=true/\o.wp P a w K Q)\/(Region.wanted o (yielded ops.toArray a.tmps)=false/\K (a.put o.dst undef) w):=by
 have hwi:=FE hg a;unfold wLoudO at hw;split at hw
 ·exact .inl ⟨hwi.2 trivial,LQ hH (BV h (by simp)) hw fun v w' hn=>hK _ _ _ hn (h.put _ _ rfl)⟩
 ·rename_i p;rcases OU 8 e p h hw with⟨hp,e',he',hx⟩|⟨hp,e',he',hx⟩
  ·exact .inl ⟨hwi.2 hp,LQ hH (BV he' (by simp)) hx fun v w' hn=>hK _ _ _ hn (he'.put _ _ rfl)⟩
  ·refine .inr ⟨?_,hK _ _ _ hx (he'.put _ _ rfl)⟩
   cases hy:Region.wanted o (yielded ops.toArray a.tmps) with
   | false=>rfl
   | true=>exact absurd (hwi.1 hy) hp
structure E8(P:Program)(l:Nat)(args:List Value)(w:World)(R:Ending->World->Prop):Prop where
 run:YieldAt Fence.wide 0 P l args.toArray w R
def yieldC(ys:List Nat)(ρ:Operand->Option Value)(o:Oper):Option (Nat×List Value):=
 match o.op with
 | .call {callee:=.value (.tmp t),args:=args,..}=>
  (match ys.any (·==t) with
   | true=>(match ρ (.tmp t),ID ρ args.toList with
    | some (.func (.yield l) f c),some vs=>(match f.toList,c.toList with|[],[]=>some (l,vs)|_,_=>none)
    | _,_=>none)
   | false=>none)
 | _=>none
def yieldV(ys:List Nat)(ρ:Operand->Option Value)(o:Oper):Option (Value×List Value):=
 match o.op with
 | .call {callee:=.value (.tmp t),args:=args,..}=>
  (match ys.any (·==t+2000000) with
   | true=>(match ρ (.tmp t),ID ρ args.toList with
    | some v,some vs=>some (v,vs)
    | _,_=>none)
   | false=>none)
 | _=>none
def hintY(ys:List Nat)(o:Oper):Bool:=
 match o.op with
 | .call {callee:=.value (.tmp t),..}=>ys.any (·==t)
 | _=>false
def eOpY(P:Program)(H:Hand)(ys:List Nat)(e:Env)(o:Oper)(w:World)(next:Env->World->Prop):Prop:=
 match yieldC ys (rdO [] e) o with
 | some (l,vs)=>E8 P l vs w fun r w'=>∃b:Bool,r=.returned (.bool b)/\next (I1 e o.dst ⟨none,.bool b,none⟩) w'
 | none=>eOpO P H ys (rdO [] e) o w fun v w'=>next (I1 e o.dst ⟨none,v,none⟩) w'
def wLoudY(P:Program)(H:Hand)(ys:List Nat)(e:Env)(o:Oper)(g:Option (Nat×Bool))(w:World)(next:Env->World->Prop):Prop:=
 match g,yieldC ys (rdO [] e) o with
 | none,some (l,vs)=>E8 P l vs w fun r w'=>∃b:Bool,r=.returned (.bool b)/\next (I1 e o.dst ⟨none,.bool b,none⟩) w'
 | g,_=>(match g,yieldV ys (rdO [] e) o with
  | none,some (v,vs)=>∃l:Nat,v=.func (.yield l) #[] #[]/\E8 P l vs w fun r w'=>∃b:Bool,r=.returned (.bool b)/\next (I1 e o.dst ⟨none,.bool b,none⟩) w'
  | g,_=>(match g,hintY ys o with
   | some p,true=>O0 (fun e'=>eOpY P H ys e' o w next) (fun e'=>next (I1 e' o.dst ⟨none,undef,none⟩) w) 8 e p
   | g,_=>wLoudO P H ys e o g w next))
def wOpsY(P:Program)(H:Hand)(ys:List Nat)(ops:List Oper)(QN:Env->World->Prop):List Oper->Env->World->Prop
 | [],e,w=>QN e w
 | o::rest,e,w=>
  match LJ ops o with
  | none=>False
  | some g=>
   match quietB P o.op with
   | true=>wQuiet P (extTy ops o.dst) e o g w fun e' _=>wOpsY P H ys ops QN rest e' w
   | false=>wLoudY P H ys e o g w fun e' w'=>wOpsY P H ys ops QN rest e' w'
theorem yield_run{P:Program}{o:Oper}{a:Act}{w:World}{t:Tmp}{args:Array Operand}{ts:Array TypeId}{l:Nat}{fn:FuncId}{tmps:Array Value}{assign body:Code}{vs:List Value}
 (ho:o.op=.call {callee:=.value (.tmp t),args:=args,argTypes:=ts}) (ht:a.eval (.tmp t)=.func (.yield l) #[] #[]) (hv:args.map a.eval=vs.toArray)
 (hy:(Instr.yield l vs.toArray).run P w=.ok (.round l fn tmps assign body) w):(execOp a.eval o).run P w=.ok (.round l fn tmps assign body) w:=by
 simp only [execOp,ho,resolve,srb,srp,ato,hv,ht];simp [Deferred.ofValue,invoke,hy,go_sem]
theorem wOpsY_sound{P:Program}{H:Hand}(hH:FZ P H){ys:List Nat}{ops:List Oper}{QN:Env->World->Prop}{Q:Exit->Act->World->Prop}{S:List Nat}{a0:Act}{D:List Deferred}{r:Option Nat}{n:Nat}
 (hQ:∀e a w,AgK S a0 D e a->QN e w->Q .normal a w) (hdef:∀o∈ops,II o.op=true):∀(l:List Oper),(∀o∈l,o∈ops)->(∀o∈l,∀t,o.dst=some t->t∈S)->∀(e:Env) (a:Act) (w:World),
  AgK S a0 D e a->wOpsY P H ys ops QN l e w->wpListIn (FR r) n P ops.toArray Q l a w:=by
 intro l
 induction l with
 | nil=>intro _ _ e a w h hw;exact hQ _ _ _ h hw
 | cons o rest ih=>
  intro hin hS e a w h hw;have ih':=ih (fun o' ho'=>hin o' (mcm _ ho')) (fun o' ho'=>hS o' (mcm _ ho'));have hd:=hS o mcs;have hnd:=hdef o (hin o mcs);unfold wOpsY at hw;split at hw
  ·exact hw.elim
  ·rename_i g hg;split at hw
   ·obtain⟨v,e',c,hn,hSc,hag,hr⟩:=MC h.ag hg hw;have hnx:=ih' e' (a.put o.dst v) w (h.put hd hag) hn;unfold wpListIn;rcases hr with⟨hwt,hrun⟩|⟨hwt,rfl⟩
    ·rw [if_pos hwt];refine op_in hnd ?_;unfold Oper.wp;rw [hrun w hSc];exact hnx
    ·rw [if_neg (by simp [hwt])];exact⟨fun f _=>PU r f,hnx⟩
   ·have key:∀(t:Tmp) (args:Array Operand) (ts:Array TypeId) (ll:Nat) (vs:List Value),o.op=.call {callee:=.value (.tmp t),args:=args,argTypes:=ts}->Region.wanted o (yielded ops.toArray a.tmps)=true->
     a.eval (.tmp t)=.func (.yield ll) #[] #[]->args.map a.eval=vs.toArray->∀e:Env,BH e a->
     (E8 P ll vs w fun r w'=>∃b:Bool,r=.returned (.bool b)/\wOpsY P H ys ops QN rest (I1 e o.dst ⟨none,.bool b,none⟩) w')->wpListIn (FR r) n P ops.toArray Q (o::rest) a w:=by
     intro t args ts ll vs hop hwt hf h1 e hea hyl;clear hw;unfold wpListIn;rw [if_pos hwt];obtain⟨fn,tmps,assign,body,hy,hR⟩:=hyl.run;have hrun:=yield_run (a:=a) hop hf h1 hy;refine⟨fun f _=>PU r f,?_⟩;rw [FR_round,Oper.semAt_eq r a.eval o (PA hnd),hrun,Oper.uponIn_round];refine⟨fun hh=>(by cases hh),hR.1,fun cc cs _=>?_⟩;obtain⟨en,w',hRe,hs⟩:=hR.2 cc cs (room_wide _);refine⟨en,w',?_,hs⟩;obtain⟨b,rfl,hnx⟩:=hRe;exact ih' _ _ w' (h.put hd (hea.put o.dst ⟨none,.bool b,none⟩ rfl)) hnx
    have hρ:∀x u,rdO [] e x=some u->a.eval x=u:=fun x u hx=>BV h.ag (by simp) _ _ hx;unfold wLoudY at hw;split at hw
    ·rename_i ll vs hyc;unfold yieldC at hyc;split at hyc
     ·rename_i t args ts hop;split at hyc
      ·split at hyc
       ·rename_i l' f c vs' hf hvs;split at hyc
        ·rename_i hf0 hc0;simp only [Option.some.injEq,Prod.mk.injEq] at hyc;obtain⟨rfl,rfl⟩:=hyc;have hf1:f=#[]:=by cases f;simp_all
         have hc1:c=#[]:=by cases c;simp_all
         subst hf1 hc1;exact key t args ts _ _ hop ((FE hg a).2 trivial) (hρ _ _ hf) (by rw [<- CX hρ hvs,<- Array.toList_map]) e h.ag hw
        ·cases hyc
       ·cases hyc
      ·cases hyc
     ·cases hyc
    ·split at hw
     ·rename_i v vs hyv hno;obtain⟨ll,hv,hw⟩:=hw;unfold yieldV at hyv;split at hyv
      ·rename_i t args ts hop;split at hyv
       ·split at hyv
        ·rename_i v' vs' hf hvs;simp only [Option.some.injEq,Prod.mk.injEq] at hyv;obtain⟨rfl,rfl⟩:=hyv;exact key t args ts _ _ hop ((FE hg a).2 trivial) (by rw [hρ _ _ hf,hv]) (by rw [<- CX hρ hvs,<- Array.toList_map]) e h.ag hw
        ·cases hyv
       ·cases hyv
      ·cases hyv
     ·split at hw
      ·rename_i p _ _ _;rcases OU 8 e p h.ag hw with⟨hp,e',he',hx⟩|⟨hp,e',he',hx⟩
       ·have hwt:Region.wanted o (yielded ops.toArray a.tmps)=true:=(FE hg a).2 hp;have hρ':∀x u,rdO [] e' x=some u->a.eval x=u:=fun x u hx=>BV he' (by simp) _ _ hx;unfold eOpY at hx;split at hx
        ·rename_i ll vs hyc;unfold yieldC at hyc;split at hyc
         ·rename_i t args ts hop;split at hyc
          ·split at hyc
           ·rename_i l' f c vs' hf hvs;split at hyc
            ·rename_i hf0 hc0;simp only [Option.some.injEq,Prod.mk.injEq] at hyc;obtain⟨rfl,rfl⟩:=hyc;have hf1:f=#[]:=by cases f;simp_all
             have hc1:c=#[]:=by cases c;simp_all
             subst hf1 hc1;exact key t args ts _ _ hop hwt (hρ' _ _ hf) (by rw [<- CX hρ' hvs,<- Array.toList_map]) e' he' hx
            ·cases hyc
           ·cases hyc
          ·cases hyc
         ·cases hyc
        ·unfold wpListIn;rw [if_pos hwt];exact op_in hnd (LQ hH hρ' hx fun v w' hn=>ih' _ _ w' (h.put hd (he'.put _ _ rfl)) hn)
       ·have hwt:Region.wanted o (yielded ops.toArray a.tmps)=false:=by
         cases hy:Region.wanted o (yielded ops.toArray a.tmps) with
         | false=>rfl
         | true=>exact absurd ((FE hg a).1 hy) hp
        unfold wpListIn;rw [if_neg (by simp [hwt])];exact⟨fun f _=>PU r f,ih' _ _ w (h.put hd (he'.put _ _ rfl)) hx⟩
      ·rcases ME hH h.ag hg hw (K:=wpListIn (FR r) n P ops.toArray Q rest) (Q:=Q) (fun e' v w' hn hag=>ih' e' _ w' (h.put hd hag) hn) with⟨hwt,hx⟩|⟨hwt,hx⟩
       ·unfold wpListIn;rw [if_pos hwt];exact op_in hnd hx
       ·unfold wpListIn;rw [if_neg (by simp [hwt])];exact⟨fun f _=>PU r f,hx⟩
section
variable {P:Program}{ops:Array Oper}{L:List Nat}{Q:Exit->Act->World->Prop}
def depN(ops:Array Oper):Nat->Nat->Nat->Bool
 | 0,_,_=>false
 | n+1,k,i=>match ops[i]? with
  | none=>false
  | some o=>o.after.toList.any fun e=>Region.binds .any e&&(e.on==k||depN ops n k e.on)
def NM(ops:Array Oper)(k i:Nat):Bool:=depN ops 5 k i
def G0(ops:Array Oper)(listed:Array Bool):Prop:=
 ∀j oj,ops[j]? = some oj->listed.getD j false=true->∀e∈oj.after,Region.binds .any e=true->listed.getD e.on false=true
theorem depN_closed{ops:Array Oper}{listed:Array Bool}(hc:G0 ops listed){k:Nat}:∀(n j:Nat),listed.getD j false=true->depN ops n k j=true->listed.getD k false=true:=by
 intro n
 induction n with
 | zero=>intro j _ h;simp [depN] at h
 | succ n ih=>
  intro j hj h;unfold depN at h
  cases ho:ops[j]? with
  | none=>simp [ho] at h
  | some o=>
   rw [ho] at h;dsimp only at h;rw [List.any_eq_true] at h;obtain⟨e,he,h⟩:=h;simp only [Bool.and_eq_true,Bool.or_eq_true,beq_iff_eq] at h;have hl:=hc j o ho hj e (by simpa using he) h.1;rcases h.2 with rfl|h2
   ·exact hl
   ·exact ih _ hl h2
def FA(ops:Array Oper)(L:List Nat)(listed:Array Bool)(k:Nat):Bool:=L.any fun i=>listed.getD i false&&NM ops k i
def CR(ops:Array Oper)(L:List Nat)(listed:Array Bool)(w:World):List (Nat×(World->Prop))->Prop
 | []=>True
 | (k,c)::r=>match FA ops L listed k with
  | true=>CR ops L listed w r
  | false=>c w/\CR ops L listed w r
theorem FM{listed:Array Bool}{i m:Nat}(h:listed.getD m false=true):(listed.setIfInBounds i true).getD m false=true:=by
 have hm:m<listed.size:=by
  rcases Nat.lt_or_ge m listed.size with h'|h'
  ·exact h'
  ·simp [Array.getElem?_eq_none h'] at h
 by_cases him:i=m
 ·subst him;simp [hm]
 ·simpa [Array.getElem?_setIfInBounds_ne him] using h
theorem DN{listed:Array Bool}{i m:Nat}(h:(listed.setIfInBounds i true).getD m false=true):m=i\/listed.getD m false=true:=by
 by_cases him:i=m
 ·exact .inl him.symm
 ·right;simpa [Array.getElem?_setIfInBounds_ne him] using h
theorem dischB_set{ops:Array Oper}{L:List Nat}{listed:Array Bool}{i k:Nat}(h:FA ops L listed k=true):FA ops L (listed.setIfInBounds i true) k=true:=by
 unfold FA at *;rw [List.any_eq_true] at *;obtain⟨m,hm,h⟩:=h;simp only [Bool.and_eq_true] at h;exact⟨m,hm,by simp only [Bool.and_eq_true];exact⟨FM h.1,h.2⟩⟩
theorem HB{ops:Array Oper}{L:List Nat}{listed:Array Bool}{i:Nat}{w:World}:∀{pend:List (Nat×(World->Prop))},CR ops L listed w pend->CR ops L (listed.setIfInBounds i true) w pend:=by
 intro pend
 induction pend with
 | nil=>intro h;exact h
 | cons p r ih=>
  obtain⟨k,c⟩:=p;intro h;rw [CR] at h;rw [CR]
  cases hd:FA ops L listed k with
  | true=>
   rw [hd] at h;rw [dischB_set hd];exact ih h
  | false=>
   rw [hd] at h;split
   ·exact ih h.2
   ·exact⟨h.1,ih h.2⟩
theorem PendOk_unset{ops:Array Oper}{L:List Nat}{listed:Array Bool}{i:Nat}{w:World}(hi:L.contains i=false):∀{pend:List (Nat×(World->Prop))},CR ops L (listed.setIfInBounds i true) w pend->CR ops L listed w pend:=by
 intro pend;have hde:∀k,FA ops L (listed.setIfInBounds i true) k=true->FA ops L listed k=true:=by
  intro k h;unfold FA at *;rw [List.any_eq_true] at *;obtain⟨m,hm,h⟩:=h;simp only [Bool.and_eq_true] at h;rcases DN h.1 with rfl|h1
  ·simp at hi;exact absurd hm hi
  ·exact⟨m,hm,by simp only [Bool.and_eq_true];exact⟨h1,h.2⟩⟩
 induction pend with
 | nil=>intro h;exact h
 | cons p r ih=>
  obtain⟨k,c⟩:=p;intro h;rw [CR] at h;rw [CR]
  cases hd:FA ops L (listed.setIfInBounds i true) k with
  | true=>
   rw [hd] at h;rw [hde k hd];exact ih h
  | false=>
   rw [hd] at h;split
   ·exact ih h.2
   ·exact⟨h.1,ih h.2⟩
def GO(P:Program)(ops:Array Oper)(L:List Nat)(Q:Exit->Act->World->Prop)(pend:List (Nat×(World->Prop))):Nat->Array Bool->Act->World->Prop
 | 0,listed,a,w=>Region.ready .any ops listed=[]/\Q .normal a w
 | fuel+1,listed,a,w=>
  (Region.ready .any ops listed=[]->Q .normal a w)/\
  ∀i∈Region.ready .any ops listed,wpOp P ops Q i (fun a' w'=>CR ops L (listed.setIfInBounds i true) w' pend/\GO P ops L Q pend fuel (listed.setIfInBounds i true) a' w') a w
theorem KL{pend:List (Nat×(World->Prop))}:∀(fuel:Nat) (listed:Array Bool) (a:Act) (w:World),GO P ops L Q pend fuel listed a w->wpAny P .any ops Q fuel listed a w
 | 0,_,_,_,h=>h
 | fuel+1,_,_,_,h=>⟨h.1,fun i hi=>wpOp_mono (fun a' w' h'=>KL fuel _ a' w' h'.2) (h.2 i hi)⟩
theorem PT{listed:Array Bool}{w:World}{p:Nat×(World->Prop)}{pend:List (Nat×(World->Prop))}(h:CR ops L listed w (p::pend)):CR ops L listed w pend:=by
 obtain⟨k,c⟩:=p;unfold CR at h;split at h
 ·exact h
 ·exact h.2
theorem OR{p:Nat×(World->Prop)}{pend:List (Nat×(World->Prop))}:∀(fuel:Nat) (listed:Array Bool) (a:Act) (w:World),GO P ops L Q (p::pend) fuel listed a w->GO P ops L Q pend fuel listed a w
 | 0,_,_,_,h=>h
 | fuel+1,_,_,_,h=>⟨h.1,fun i hi=>wpOp_mono (fun _ _ h'=>⟨PT h'.1,OR fuel _ _ _ h'.2⟩) (h.2 i hi)⟩
theorem G0.set{listed:Array Bool}(hc:G0 ops listed){j:Nat}(hj:j∈Region.ready .any ops listed):G0 ops (listed.setIfInBounds j true):=by
 intro i oi hi hl e he hb;obtain⟨_,oj,hoj,hall⟩:=mem_ready.1 hj;rcases DN hl with rfl|hl
 ·rw [hoj] at hi
  cases hi
  exact FM (hall e he hb)
 ·exact FM (hc i oi hi hl e he hb)
theorem MH{listed:Array Bool}{i:Nat}(hi:i∈Region.ready .any ops listed):listed.getD i false=false:=by
 have h0:=(mem_ready.1 hi).1;rcases Nat.lt_or_ge i listed.size with h'|h'
 ·simp [h'] at h0 ⊢;exact h0
 ·simp [Array.getElem?_eq_none h'] at h0
theorem depB_not{listed:Array Bool}(hc:G0 ops listed){k j:Nat}(hk:listed.getD k false=false)(hj:listed.getD j false=true):NM ops k j=false:=by
 cases h:NM ops k j with
 | false=>rfl
 | true=>
  have:=depN_closed hc _ _ hj h;rw [hk] at this
  cases this
theorem wpAnyP_take{pend:List (Nat×(World->Prop))}{i:Nat}{oi:Oper}{v:Value}{S:World->Prop}(hi:ops[i]? = some oi)(hsel:∀(j:Nat) (o:Oper) cs b,ops[j]? = some o->o.op≠.select cs b)
 (hQ:∀c a w,Q (.panic c) (a.put oi.dst v) w->Q (.panic c) a w) (hiL:L.contains i=false) :
 ∀(fuel:Nat) (listed:Array Bool) (a:Act) (w:World),
  (∀j oj,ops[j]? = some oj->j≠i->listed.getD j true=false->(∀e∈oj.after,Region.binds .any e=true->e.on≠i)->oi.apart ops oj=true)->
  i∈Region.ready .any ops listed->YieldsIf P ops S oi v a->S w->CR ops L listed w pend->G0 ops listed->
  GO P ops L Q ((i,S)::pend) fuel (listed.setIfInBounds i true) (a.put oi.dst v) w->GO P ops L Q pend (fuel+1) listed a w:=by
 intro fuel
 induction fuel with
 | zero=>
  intro listed a w _ hr hy hS hp _ H;refine⟨fun h=>(by rw [h] at hr;cases hr),fun j hj=>?_⟩;by_cases hji:j=i
  ·subst hji;exact hy.wpOp hi hS ⟨HB hp,H⟩
  ·have:=ready_mono hj hji;rw [H.1] at this
   cases this
 | succ fuel ih=>
  intro listed a w hfree hr hy hS hp hfr H;refine⟨fun h=>(by rw [h] at hr;cases hr),fun j hj=>?_⟩;by_cases hji:j=i
  ·subst hji;exact hy.wpOp hi hS ⟨HB hp,OR _ _ _ _ H⟩
  ·have h1:=H.2 j (ready_mono hj hji);obtain⟨hjun,oj,hoj,hall⟩:=mem_ready.1 hj;have hnot:∀e∈oj.after,Region.binds .any e=true->e.on≠i:=fun e he hb heq=>by
    have h1:=hall e he hb;have h0:=(mem_ready.1 hr).1;rw [heq] at h1;rcases Nat.lt_or_ge i listed.size with h'|h'
    ·simp [h'] at h0 h1;rw [h0] at h1;cases h1
    ·simp [Array.getElem?_eq_none h'] at h1
   have h2:=wpOp_putIf hoj (hfree j oj hoj hji hjun hnot) (fun cs b=>hsel i oi cs b hi) (fun cs b=>hsel j oj cs b hoj) hQ hy h1;have hfree':∀k ok,ops[k]? = some ok->k≠i->(listed.setIfInBounds j true).getD k true=false->
    (∀e∈ok.after,Region.binds .any e=true->e.on≠i)->oi.apart ops ok=true:=fun k ok hk hki hun hno=>by
    refine hfree k ok hk hki ?_ hno;by_cases hjk:j=k
    ·subst hjk;exact hjun
    ·rw [getD_set_ne true hjk] at hun;exact hun
   have hfr':G0 ops (listed.setIfInBounds j true):=hfr.set hj;have hui:(listed.setIfInBounds j true).getD i false=false:=by
    cases hx:(listed.setIfInBounds j true).getD i false with
    | false=>rfl
    | true=>
     rcases DN hx with h|h
     ·exact absurd h.symm hji
     ·rw [MH hr] at h;cases h
   have hlj:(listed.setIfInBounds j true).getD j false=true:=by
    have h0:=(mem_ready.1 hj).1;rcases Nat.lt_or_ge j listed.size with h'|h'
    ·simp [h']
    ·simp [Array.getElem?_eq_none h'] at h0
   refine wpOp_mono (fun a' w' h3=>?_) h2;obtain⟨hy',hpk,H'⟩:=h3;have hnd:FA ops L ((listed.setIfInBounds i true).setIfInBounds j true) i=false:=by
    unfold FA;rw [List.any_eq_false];intro m hmL;simp only [Bool.and_eq_true,not_and,Bool.not_eq_true];intro hm;rcases DN hm with rfl|hm
    ·exact depB_not hfr' hui hlj
    ·rcases DN hm with rfl|hm
     ·simp at hiL;exact absurd hmL hiL
     ·exact depB_not hfr' hui (FM hm)
   have hS':S w':=by
    rw [CR,hnd] at hpk;exact hpk.1
   have hcomm:(listed.setIfInBounds i true).setIfInBounds j true=(listed.setIfInBounds j true).setIfInBounds i true:=Array.setIfInBounds_comm _ _ (Ne.symm hji);have hpt:CR ops L (listed.setIfInBounds j true) w' pend:=by
    have:=PT hpk;rw [hcomm] at this;exact PendOk_unset hiL this
   refine⟨hpt,ih (listed.setIfInBounds j true) a' w' hfree' (ready_mono hr (Ne.symm hji)) hy' hS' hpt hfr' ?_⟩;rw [<- hcomm];exact H'
theorem OQ{k:Nat}{pend:List (Nat×(World->Prop))}:∀(fuel:Nat) (listed:Array Bool) (a:Act) (w:World),GO P ops L Q pend fuel listed a w->GO P ops L Q ((k,fun _=>True)::pend) fuel listed a w
 | 0,_,_,_,h=>h
 | fuel+1,_,_,_,h=>⟨h.1,fun i hi=>wpOp_mono (fun _ _ h'=>⟨by rw [CR];split;exact h'.1;exact⟨trivial,h'.1⟩,OQ fuel _ _ _ h'.2⟩) (h.2 i hi)⟩
end
def loudL(P:Program)(ops:List Oper):List Nat:=(List.range ops.length).filter fun i=>match ops[i]? with|some o=>!quietB P o.op|none=>true
def KG(ops:Array Oper)(L:List Nat)(listed:Array Bool)(w:World)(X:Prop):List (Nat×(World->Prop))->Prop
 | []=>X
 | (k,c)::r=>match FA ops L listed k with
  | true=>KG ops L listed w X r
  | false=>c w/\KG ops L listed w X r
theorem PendAnd_elim{ops:Array Oper}{L:List Nat}{listed:Array Bool}{w:World}{X:Prop}:∀{pend:List (Nat×(World->Prop))},KG ops L listed w X pend->CR ops L listed w pend/\X:=by
 intro pend
 induction pend with
 | nil=>intro h;exact⟨trivial,h⟩
 | cons p r ih=>
  obtain⟨k,c⟩:=p;intro h;rw [KG] at h;rw [CR];split at h
  ·exact ih h
  ·exact⟨⟨h.1,(ih h.2).1⟩,(ih h.2).2⟩
def findQ(ops:Array Oper)(L:List Nat)(listed:Array Bool):List Nat->Option Nat
 | []=>none
 | j::r=>
  match !L.contains j&&(Region.free .any ops listed j&&!FA ops L listed j) with
  | true=>some j
  | false=>findQ ops L listed r
def eachP(f:Nat->Prop):List Nat->Prop
 | []=>True
 | [j]=>f j
 | j::j'::r=>f j/\eachP f (j'::r)
theorem eachP_mem{f:Nat->Prop}:∀{l:List Nat},eachP f l->∀j∈l,f j:=by
 intro l
 induction l with
 | nil=>intro _ j hj;simp at hj
 | cons x r ih=>
  intro h j hj
  cases r with
  | nil=>simp at hj;subst hj;exact h
  | cons y s=>
   rcases List.mem_cons.1 hj with rfl|hj
   ·exact h.1
   ·exact ih h.2 j hj
theorem findQ_spec{ops:Array Oper}{L:List Nat}{listed:Array Bool}{j:Nat}:∀{l:List Nat},findQ ops L listed l=some j->
 j∈l/\L.contains j=false/\Region.free .any ops listed j=true/\FA ops L listed j=false:=by
 intro l
 induction l with
 | nil=>intro h;simp [findQ] at h
 | cons x r ih=>
  intro h;unfold findQ at h;split at h
  ·rename_i hb;simp at h;subst h;simp only [Bool.and_eq_true,Bool.not_eq_true'] at hb;exact⟨mcs,hb.1,hb.2.1,hb.2.2⟩
  ·obtain⟨h1,h2⟩:=ih h;exact⟨mcm _ h1,h2⟩
def addP(j:Nat)(c:Option (World->Prop))(pend:List (Nat×(World->Prop))):List (Nat×(World->Prop)):=
 match c with
 | none=>pend
 | some c=>(j,c)::pend
def wDraw(P:Program)(H:Hand)(ys:List Nat)(ops:List Oper)(L:List Nat)(QN:Env->World->Prop):Nat->List (Nat×(World->Prop))->Array Bool->Env->World->Prop
 | 0,_,listed,e,w=>(match Region.ready .any ops.toArray listed with|[]=>QN e w|_::_=>False)
 | fuel+1,pend,listed,e,w=>
  match Region.ready .any ops.toArray listed with
  | []=>QN e w
  | i::r=>
   match findQ ops.toArray L listed (i::r) with
   | some j=>
    (match ops[j]? with
     | none=>False
     | some o=>(match LJ ops o with
      | none=>False
      | some g=>wQuiet P (extTy ops o.dst) e o g w fun e' c=>wDraw P H ys ops L QN fuel (addP j c pend) (listed.setIfInBounds j true) e' w))
   | none=>eachP (fun j=>
    match ops[j]? with
    | none=>False
    | some o=>(match LJ ops o with
     | none=>False
     | some g=>wLoudO P H ys e o g w fun e' w'=>KG ops.toArray L (listed.setIfInBounds j true) w' (wDraw P H ys ops L QN fuel pend (listed.setIfInBounds j true) e' w') pend)) (i::r)
theorem wDraw_sound{P:Program}{H:Hand}(hH:FZ P H){ys:List Nat}{ops:List Oper}{L:List Nat}{QN:Env->World->Prop}{Q:Exit->Act->World->Prop}{S:List Nat}{a0:Act}{D:List Deferred}
 (hQ:∀e a w,AgK S a0 D e a->QN e w->Q .normal a w) (hQp:∀c a w,¬Q (.panic c) a w) (hS:∀o∈ops,∀t,o.dst=some t->t∈S)
 (hsel:Region.noSelect ops.toArray=true) :
 ∀(fuel:Nat) (pend:List (Nat×(World->Prop))) (listed:Array Bool) (e:Env) (a:Act) (w:World),
  AgK S a0 D e a->G0 ops.toArray listed->CR ops.toArray L listed w pend->wDraw P H ys ops L QN fuel pend listed e w->GO P ops.toArray L Q pend fuel listed a w:=by
 intro fuel
 induction fuel with
 | zero=>
  intro pend listed e a w hag _ _ h;unfold wDraw at h;split at h
  ·rename_i hr;exact⟨hr,hQ _ _ _ hag h⟩
  ·exact h.elim
 | succ fuel ih=>
  intro pend listed e a w hag hcl hp h;unfold wDraw at h;split at h
  ·rename_i hr;exact⟨fun _=>hQ _ _ _ hag h,by rw [hr];simp⟩
  ·rename_i i r hr;split at h
   ·rename_i j hj;obtain⟨hjm,hjL,hjf,hjd⟩:=findQ_spec hj;split at h
    ·exact h.elim
    ·rename_i o ho;have ho':ops.toArray[j]? = some o:=by simpa using ho
     have hoS:=hS o (mog ho);split at h
     ·exact h.elim
     ·rename_i g hg;obtain⟨v,e',c,hn,hSc,hag',hrun⟩:=MC hag.ag hg h;have hy:YieldsIf P ops.toArray (SOf c) o v a:=hrun;have hcl':G0 ops.toArray (listed.setIfInBounds j true):=hcl.set (by rw [hr];exact hjm);refine wpAnyP_take ho' (Region.noSelect_spec hsel) (fun c a w hx=>absurd hx (hQp _ _ _)) hjL fuel listed a w (fun k ok hk hkj hun hno=>Region.free_spec ho' hjf k ok hk hkj hun hno)
       (by rw [hr];exact hjm) hy hSc hp hcl ?_
      have hagk:=hag.put hoS hag'
      cases c with
      | none=>exact OQ _ _ _ _ (ih pend _ e' _ w hagk hcl' (HB hp) hn)
      | some c=>
       refine ih _ _ e' _ w hagk hcl' ?_ hn
       show CR ops.toArray L _ w ((j,c)::pend)
       rw [CR];split
       ·exact HB hp
       ·exact⟨hSc,HB hp⟩
   ·refine⟨fun h0=>(by rw [h0] at hr;cases hr),fun j hj=>?_⟩;rw [hr] at hj;have h:=eachP_mem h j hj;split at h
    ·exact h.elim
    ·rename_i o ho;have ho':ops.toArray[j]? = some o:=by simpa using ho
     have hoS:=hS o (mog ho);split at h
     ·exact h.elim
     ·rename_i g hg;have hnext:∀e' v w',KG ops.toArray L (listed.setIfInBounds j true) w' (wDraw P H ys ops L QN fuel pend (listed.setIfInBounds j true) e' w') pend->BH e' (a.put o.dst v)->
       CR ops.toArray L (listed.setIfInBounds j true) w' pend/\GO P ops.toArray L Q pend fuel (listed.setIfInBounds j true) (a.put o.dst v) w':=by
       intro e' v w' hx hag';obtain⟨h1,h2⟩:=PendAnd_elim hx;exact⟨h1,ih _ _ e' _ w' (hag.put hoS hag') (hcl.set (by rw [hr];exact hj)) h1 h2⟩
      unfold wpOp;rw [ho'];dsimp only;rcases ME hH hag.ag hg h (K:=fun a' w'=>CR ops.toArray L (listed.setIfInBounds j true) w' pend/\GO P ops.toArray L Q pend fuel (listed.setIfInBounds j true) a' w') (Q:=Q) hnext with⟨hwt,hx⟩|⟨hwt,hx⟩
      ·rw [if_pos hwt];exact .inl hx
      ·rw [if_neg (by simp [hwt])];exact hx
inductive Shp where
 | int (k:IntKind)|bool|str|ptr|sl|mp|val
def shpOf:Value->Option Shp
 | .int k _=>some (.int k)
 | .bool _=>some .bool
 | .string _=>some .str
 | .pointer _=>some .ptr
 | .slice _ _ _=>some .sl
 | .map _=>some .mp
 | .func _ _ _=>some .val
 | .nilFunc=>some .val
 | .iface _ _=>some .val
 | .nilIface=>some .val
 | _=>none
def ITy(T:Type):List (Nat×Shp)->Type
 | []=>T
 | (_,.int _)::r=>Int->ITy T r
 | (_,.bool)::r=>Bool->ITy T r
 | (_,.str)::r=>ByteArray->ITy T r
 | (_,.ptr)::r=>Option Addr->ITy T r
 | (_,.sl)::r=>Option Addr->Nat->Nat->ITy T r
 | (_,.mp)::r=>Option Nat->ITy T r
 | (_,.val)::r=>Value->ITy T r
def D6{T:Type}(e:Env)(k:T->Prop):(l:List (Nat×Shp))->ITy T l->Prop
 | [],I=>k I
 | (t,.int kd)::r,I=>(match KI e t with
  | some ⟨none,.int k' n,_⟩=>(match decide (k'=kd) with|true=>D6 e k r (I n)|false=>False)
  | _=>False)
 | (t,.bool)::r,I=>(match KI e t with|some ⟨none,.bool b,_⟩=>D6 e k r (I b)|_=>False)
 | (t,.str)::r,I=>(match KI e t with|some ⟨none,.string b,_⟩=>D6 e k r (I b)|_=>False)
 | (t,.ptr)::r,I=>(match KI e t with|some ⟨none,.pointer b,_⟩=>D6 e k r (I b)|_=>False)
 | (t,.sl)::r,I=>(match KI e t with|some ⟨none,.slice a l c,_⟩=>D6 e k r (I a l c)|_=>False)
 | (t,.mp)::r,I=>(match KI e t with|some ⟨none,.map b,_⟩=>D6 e k r (I b)|_=>False)
 | (t,.val)::r,I=>(match KI e t with|some ⟨none,v,_⟩=>D6 e k r (I v)|_=>False)
def LB(e:Env)(t:Nat)(v:Value):Env:=e.set t (some ⟨none,v,none⟩)
def LM{T:Type}(k:Env->T->Prop):(l:List (Nat×Shp))->ITy T l->Env->Prop
 | [],I,e=>k e I
 | (t,.int kd)::r,I,e=>∀n:Int,LM k r (I n) (LB e t (.int kd n))
 | (t,.bool)::r,I,e=>∀b:Bool,LM k r (I b) (LB e t (.bool b))
 | (t,.str)::r,I,e=>∀s:ByteArray,LM k r (I s) (LB e t (.string s))
 | (t,.ptr)::r,I,e=>∀p:Option Addr,LM k r (I p) (LB e t (.pointer p))
 | (t,.sl)::r,I,e=>∀(a:Option Addr) (l c:Nat),LM k r (I a l c) (LB e t (.slice a l c))
 | (t,.mp)::r,I,e=>∀m:Option Nat,LM k r (I m) (LB e t (.map m))
 | (t,.val)::r,I,e=>∀v:Value,LM k r (I v) (LB e t v)
theorem BH.LB{e:Env}{a:Act}(h:BH e a){t:Nat}{v:Value}(hv:a.tmps[t]? = some v):BH (Eng.LB e t v) a:=by
 refine⟨by simp [Eng.LB,h.len],fun s n hn=>?_,fun s n b hn hb=>?_⟩
 case refine_2=>
  unfold Eng.LB at hn;by_cases hs:t=s
  ·subst hs;rw [List.getElem?_set_self'] at hn
   cases hx:e[t]? with
   | none=>simp [hx] at hn
   | some y=>simp [hx] at hn;subst hn;cases hb
  ·rw [List.getElem?_set_ne hs] at hn;exact h.fx s n b hn hb
 unfold Eng.LB at hn;by_cases hs:t=s
 ·subst hs;rw [List.getElem?_set_self'] at hn
  cases hx:e[t]? with
  | none=>simp [hx] at hn
  | some y=>simp [hx] at hn;subst hn;exact hv
 ·rw [List.getElem?_set_ne hs] at hn;exact h.ent s n hn
theorem KD{T:Type}{e2:Env}{a:Act}{k:T->Prop}{kk:Env->T->Prop}(h2:BH e2 a):∀(l:List (Nat×Shp)) (I:ITy T l) (e0:Env),BH e0 a->
 D6 e2 k l I->LM kk l I e0->∃e' J,BH e' a/\k J/\kk e' J:=by
 have hget:∀t v k,KI e2 t=some ⟨none,v,k⟩->a.tmps[t]? = some v:=fun t v k h=>by
  have:=h2.ent _ _ (DM h);simpa only [ET] using this
 intro l
 induction l with
 | nil=>intro I e0 h0 ha hg;exact⟨e0,I,h0,ha,hg⟩
 | cons p r ih=>
  obtain⟨t,s⟩:=p;intro I e0 h0 ha hg
  cases s <;> simp only [D6] at ha <;> simp only [LM] at hg
  case int kd=>
   split at ha
   ·rename_i k' n kk hn;split at ha
    ·rename_i hk;have hk:=of_decide_eq_true hk;subst hk;exact ih _ _ (h0.LB (hget _ _ _ hn)) ha (hg n)
    ·exact ha.elim
   ·exact ha.elim
  all_goals
   split at ha
   ·rename_i hn
    first
     | exact ih _ _ (h0.LB (hget _ _ _ hn)) ha (hg _)
     | exact ih _ _ (h0.LB (hget _ _ _ hn)) ha (hg _ _ _)
   ·exact ha.elim
def dstsOf:List Oper->List Nat
 | []=>[]
 | o::r=>(match o.dst with|some d=>d::dstsOf r|none=>dstsOf r)
def asg:Code->List Nat
 | .region _ ops _=>dstsOf ops.toList
 | .seq a b=>asg a++asg b
 | .cond _ a b=>asg a++asg b
 | .block _ b=>asg b
 | .loop b=>asg b
 | .scope b=>asg b
 | _=>[]
theorem dstsOf_mem{l:List Oper}{o:Oper}{t:Nat}(ho:o∈l)(ht:o.dst=some t):t∈dstsOf l:=by
 induction l with
 | nil=>simp at ho
 | cons x r ih=>
  unfold dstsOf;rcases List.mem_cons.1 ho with rfl|ho
  ·rw [ht];exact mcs
  ·split
   ·exact mcm _ (ih ho)
   ·exact ih ho
def MW(t:Nat):List Nat->Bool
 | []=>false
 | s::r=>s==t||MW t r
theorem memN_of{t:Nat}:∀{l:List Nat},t∈l->MW t l=true:=by
 intro l
 induction l with
 | nil=>intro h;simp at h
 | cons s r ih=>
  intro h;rcases List.mem_cons.1 h with rfl|h
  ·simp [MW]
  ·simp [MW,ih h]
def EE(S:List Nat):Nat->Env->Env
 | _,[]=>[]
 | i,x::r=>(match x with
  | some ⟨none,v,k⟩=>(match MW i S with|true=>none|false=>some ⟨none,v,k⟩)
  | _=>none)::EE S (i+1) r
def forget(S:List Nat)(e:Env):Env:=EE S 0 e
theorem JL{S:List Nat}:∀(e:Env) (i t:Nat) (n:Ent),(EE S i e)[t]? = some (some n)->e[t]? = some (some n)/\n.need=none/\MW (i+t) S=false:=by
 intro e
 induction e with
 | nil=>intro i t n h;simp [EE] at h
 | cons x r ih=>
  intro i t n h
  cases t with
  | zero=>
   simp only [EE,List.getElem?_cons_zero,Option.some.injEq] at h;split at h
   ·rename_i v k;split at h
    ·simp at h
    ·rename_i hm;simp at h;subst h;exact⟨rfl,rfl,hm⟩
   ·simp at h
  | succ t=>
   simp only [EE,List.getElem?_cons_succ] at h;have:=ih (i+1) t n h;refine⟨by simpa using this.1,this.2.1,?_⟩;rw [show i+(t+1)=i+1+t by omega];exact this.2.2
theorem forgetFrom_len{S:List Nat}:∀(e:Env) (i:Nat),(EE S i e).length=e.length:=by
 intro e
 induction e with
 | nil=>intro i;rfl
 | cons x r ih=>intro i;simp [EE,ih]
theorem BH.forget{S:List Nat}{e:Env}{a a':Act}(h:BH e a)(hs:a'.tmps.size=a.tmps.size)(hk:∀t,t∉S->a'.tmps[t]? = a.tmps[t]?):BH (Eng.forget S e) a':=by
 refine⟨by simp [Eng.forget,forgetFrom_len,h.len,hs],fun t n hn=>?_,fun t n b hn hb=>?_⟩
 case refine_2=>
  obtain⟨h1,h2,h3⟩:=JL e 0 t n hn;have ht:t∉S:=fun hm=>by
   rw [za,memN_of hm] at h3;cases h3
  have:=h.fx t n b h1 hb;unfold AZ at this ⊢;rw [hk t ht];exact this
 obtain⟨h1,h2,h3⟩:=JL e 0 t n hn;have he:=h.ent t n h1;unfold ET at *;rw [h2] at he ⊢;have ht:t∉S:=fun hm=>by
  rw [za,memN_of hm] at h3;cases h3
 rw [hk t ht];exact he
def IL(S:List Nat):Nat->Env->List (Nat×Shp)
 | _,[]=>[]
 | i,x::r=>
  (match x with
   | some ⟨none,v,_⟩=>
    (match MW i S with
     | true=>(match shpOf v with|some s=>(i,s)::IL S (i+1) r|none=>IL S (i+1) r)
     | false=>IL S (i+1) r)
   | _=>IL S (i+1) r)
def GZ(S:List Nat)(e:Env):List (Nat×Shp):=IL S 0 e
def JN:Code->Option Nat
 | .region id _ _=>some id
 | .seq a b=>(match JN a with|some i=>some i|none=>JN b)
 | .cond _ a b=>(match JN a with|some i=>some i|none=>JN b)
 | .block _ b=>JN b
 | .loop b=>JN b
 | .scope b=>JN b
 | _=>none
def inJ(J:List Nat):Option Nat->Bool
 | some i=>MW i J
 | none=>false
def leafA(d:TypeDesc)(k:Value->Prop):Prop:=
 match d with
 | .bool=>∀b:Bool,k (.bool b)
 | .int kd=>∀n:Int,k (.int kd n)
 | .string=>∀s:ByteArray,k (.string s)
 | .pointer _=>∀p:Option Addr,k (.pointer p)
 | .slice _=>∀(a:Option Addr) (l c:Nat),k (.slice a l c)
 | .map _ _=>∀r:Option Nat,k (.map r)
 | .func _ _ _=>∀v:Value,k v
 | .interface _=>∀v:Value,k v
 | _=>True
theorem leafEA{d:TypeDesc}{k1 k2:Value->Prop}(h1:leafE d k1)(h2:leafA d k2):∃v,k1 v/\k2 v:=by
 cases d <;> simp only [leafE] at h1 <;> simp only [leafA] at h2 <;> first|exact h1.elim|skip
 case slice=>obtain⟨a,l,c,h⟩:=h1;exact⟨_,h,h2 a l c⟩
 all_goals (obtain⟨b,h⟩:=h1;exact⟨_,h,h2 b⟩)
def repA(d:TypeDesc):Nat->(List Value->Prop)->Prop
 | 0,k=>k []
 | n+1,k=>leafA d fun v=>repA d n fun vs=>k (v::vs)
def grpA:List (Nat×TypeDesc)->(List Value->Prop)->Prop
 | [],k=>k []
 | (n,d)::gs,k=>
  match d,decide (8<=n) with
  | .int kd,true=>∀f:Nat->Int,grpA gs fun vs=>k (AK kd f 0 n++vs)
  | d,_=>repA d n fun us=>grpA gs fun vs=>k (us++vs)
theorem repEA{d:TypeDesc}:∀{n:Nat}{k1 k2:List Value->Prop},repE d n k1->repA d n k2->∃vs,k1 vs/\k2 vs
 | 0,_,_,h1,h2=>⟨_,h1,h2⟩
 | n+1,k1,k2,h1,h2=>by
  obtain⟨v,h1,h2⟩:=leafEA h1 h2;obtain⟨vs,h1,h2⟩:=repEA h1 h2;exact⟨_,h1,h2⟩
theorem grpEA:∀{gs:List (Nat×TypeDesc)}{k1 k2:List Value->Prop},grpE gs k1->grpA gs k2->∃vs,k1 vs/\k2 vs
 | [],_,_,h1,h2=>⟨_,h1,h2⟩
 | (n,d)::gs,k1,k2,h1,h2=>by
  unfold grpE at h1;unfold grpA at h2;have other:∀(h1:repE d n fun us=>grpE gs fun vs=>k1 (us++vs)) (h2:repA d n fun us=>grpA gs fun vs=>k2 (us++vs)),∃vs,k1 vs/\k2 vs:=fun h1 h2=>by
   obtain⟨us,h1,h2⟩:=repEA h1 h2;obtain⟨vs,h1,h2⟩:=grpEA h1 h2;exact⟨_,h1,h2⟩
  cases hn:decide (8<=n)
  ·cases d <;> simp only [hn] at h1 h2 <;> exact other h1 h2
  ·cases d
   case int kd=>
    simp only [hn] at h1 h2;obtain⟨f,h1⟩:=h1;obtain⟨vs,h1,h2⟩:=grpEA h1 (h2 f);exact⟨_,h1,h2⟩
   all_goals (simp only [hn] at h1 h2;exact other h1 h2)
def valA(P:Program)(t:TypeId)(k:Value->Prop):Prop:=
 match P.underlying t with
 | some (.struct _)|some (.array _ _)=>
  (match leaves P 12 t with
   | some ds=>grpA (grp ds) fun vs=>k (.agg vs.toArray)
   | none=>True)
 | some d=>leafA d k
 | none=>True
theorem valEA{P:Program}{t:TypeId}{k1 k2:Value->Prop}(h1:valE P t k1)(h2:valA P t k2):∃v,k1 v/\k2 v:=by
 unfold valE at h1;unfold valA at h2
 cases hu:P.underlying t with
 | none=>rw [hu] at h1;exact h1.elim
 | some d=>
  rw [hu] at h1 h2
  cases d
  case struct=>
   dsimp only at h1 h2
   cases hl:leaves P 12 t with
   | none=>rw [hl] at h1;exact h1.elim
   | some ds=>
    rw [hl] at h1 h2;obtain⟨vs,h1,h2⟩:=grpEA h1 h2;exact⟨_,h1,h2⟩
  case array=>
   dsimp only at h1 h2
   cases hl:leaves P 12 t with
   | none=>rw [hl] at h1;exact h1.elim
   | some ds=>
    rw [hl] at h1 h2;obtain⟨vs,h1,h2⟩:=grpEA h1 h2;exact⟨_,h1,h2⟩
  all_goals exact leafEA h1 h2
def hintE(P:Program)(t:Option TypeId)(k:Value->Prop):Prop:=
 match t with
 | some t=>valE P t k
 | none=>∃v:Value,k v
def hintA(P:Program)(t:Option TypeId)(k:Value->Prop):Prop:=
 match t with
 | some t=>valA P t k
 | none=>∀v:Value,k v
def rowE(P:Program):List (Option TypeId)->(List Value->Prop)->Prop
 | [],k=>k []
 | t::ts,k=>hintE P t fun v=>rowE P ts fun vs=>k (v::vs)
def rowA(P:Program):List (Option TypeId)->(List Value->Prop)->Prop
 | [],k=>k []
 | t::ts,k=>hintA P t fun v=>rowA P ts fun vs=>k (v::vs)
theorem rowEA{P:Program}:∀{ts:List (Option TypeId)}{k1 k2:List Value->Prop},rowE P ts k1->rowA P ts k2->∃vs,k1 vs/\k2 vs
 | [],_,_,h1,h2=>⟨_,h1,h2⟩
 | t::ts,k1,k2,h1,h2=>by
  have:∃v,(rowE P ts fun vs=>k1 (v::vs))/\(rowA P ts fun vs=>k2 (v::vs)):=by
   unfold rowE hintE at h1;unfold rowA hintA at h2
   cases t with
   | none=>obtain⟨v,h1⟩:=h1;exact⟨v,h1,h2 v⟩
   | some t=>exact valEA h1 h2
  obtain⟨v,h1,h2⟩:=this;obtain⟨vs,h1,h2⟩:=rowEA h1 h2;exact⟨_,h1,h2⟩
def opTy(p:Nat)(o:Oper):Option TypeId:=
 match o.op with
 | .move (.tmp t)=>(match t==p with|true=>some o.type|false=>none)
 | .assign (.tmp t)=>(match t==p with|true=>some o.type|false=>none)
 | .store ty _ (.tmp t)=>(match t==p with|true=>some ty|false=>none)
 | .field s (.tmp t) _=>(match t==p with|true=>some s|false=>none)
 | _=>none
def opsTy(p:Nat):List Oper->Option TypeId
 | []=>none
 | o::r=>(match opTy p o with|some t=>some t|none=>opsTy p r)
def JR(p:Nat):Code->Option TypeId
 | .region _ ops _=>opsTy p ops.toList
 | .seq a b=>(match JR p a with|some t=>some t|none=>JR p b)
 | .cond _ a b=>(match JR p a with|some t=>some t|none=>JR p b)
 | .block _ b=>JR p b
 | .loop b=>JR p b
 | .scope b=>JR p b
 | _=>none
def psTys(c:Code):List Nat->List (Option TypeId)
 | []=>[]
 | p::ps=>JR p c::psTys c ps
def E7:Code->Bool
 | .rangeFunc _ _ _ _=>true
 | .seq a b=>E7 a||E7 b
 | .cond _ a b=>E7 a||E7 b
 | .block _ b=>E7 b
 | .loop b=>E7 b
 | .scope b=>E7 b
 | _=>false
def FN:Code->List Nat
 | .exit id=>[id]
 | .seq a b=>FN a++FN b
 | .cond _ a b=>FN a++FN b
 | .block _ b=>FN b
 | .loop b=>FN b
 | .scope b=>FN b
 | _=>[]
def ysOf:List Nat->List Nat
 | []=>[]
 | j::r=>(match Nat.ble 1000000 j with|true=>(j-1000000)::ysOf r|false=>ysOf r)
def marks(ds:List Nat):List Deferred:=ds.map fun D=>{target:=.collected D,args:=#[]}
structure DA(Y:Nat->Prop)(W W':World):Prop where
 sz:W.heap.size<=W'.heap.size
 blk:∀b,Y b->W'.heap[b]? = W.heap[b]?
structure BN(B:Nat)(W W':World):Prop where
 sz:W.heap.size<=W'.heap.size
 d:W'.heap[B]? = W.heap[B]?
 l:W'.heap[B+1]? = W.heap[B+1]?
def DJ(B:Nat)(Y:Nat->Prop):Nat->Prop:=fun b=>b=B\/b=B+1\/Y b
structure DW(P:Program)(gf:FuncId)(lb:List Value)(xss:List (List Value))(R:Nat->Prop)(w0:World):Prop where
 run:∀(l:Nat) (J:(Nat->Prop)->Nat->World->Prop) (Jx:(Nat->Prop)->World->Prop) (W:World),Kept AB w0 W->
  (∀Y i W W',J Y i W->Kept Y W W'->J (fun b=>Y b\/(W.heap.size<=b/\b<W'.heap.size)) i W')->
  (∀Y W W',Jx Y W->Kept Y W W'->Jx (fun b=>Y b\/(W.heap.size<=b/\b<W'.heap.size)) W')->
  (∀Y i xs W1,xss[i]? = some xs->J Y i W1->E8 P l xs W1 fun e W'=>
   DA (fun b=>Y b\/R b) W1 W'/\((e=.returned (.bool true)/\J Y (i+1) W')\/(e=.returned (.bool false)/\Jx Y W')))->
  J (fun _=>False) 0 W->
  Calls P gf (#[.func (.yield l) #[] #[]]++lb.toArray) W fun e W'=>(∃v,e=.returned v)/\((∃Y,J Y xss.length W')\/∃Y,Jx Y W')
structure DC(B:Nat)(W:World):Prop where
 at_:W.heap[B]? = some (.deferred (some []))
structure CG(ds:List Nat)(W:World):Prop where
 nd:ds.Nodup
 all:∀D∈ds,W.heap[D]? = some (.deferred (some []))
def setPs(e:Env):List Nat->List Value->Env
 | p::ps,x::xs=>setPs (I1 e (some p) ⟨none,x,none⟩) ps xs
 | _,_=>e
def eachX(f:Nat->Prop):List Nat->Prop
 | []=>True
 | [i]=>f i
 | i::j::r=>f i/\eachX f (j::r)
theorem eachX_of{f:Nat->Prop}:∀{l:List Nat},eachX f l->∀i∈l,f i
 | [],_,i,hi=>by cases hi
 | [j],h,i,hi=>by simp at hi;subst hi;exact h
 | j::k::r,h,i,hi=>by
  rcases List.mem_cons.1 hi with rfl|hi
  ·exact h.1
  ·exact eachX_of h.2 i hi
def regCut(J:List Nat)(id:Nat):Nat:=
 match MW (4000000+id) J with
 | true=>1
 | false=>(match MW (5000000+id) J with|true=>2|false=>0)
def shpN:Nat->Shp
 | 0=>.int .i64
 | 1=>.ptr
 | 2=>.sl
 | 3=>.mp
 | 4=>.bool
 | 5=>.int .u8
 | _=>.val
def FT(id:Nat):List Nat->List (Nat×Shp)
 | []=>[]
 | n::r=>(match n/100000==1000+id with|true=>(n%100000/10,shpN (n%10))::FT id r|false=>FT id r)
def wReg(P:Program)(H:Hand)(J:List Nat)(ops:Array Oper)(d:Bool)(QN:Env->World->Prop)(e:Env)(w:World):Prop:=
 match d with
 | false=>wOpsY P H (ysOf J) ops.toList QN ops.toList e w
 | true=>(match Region.noSelect ops with
  | true=>∀w1,w1=w.drew->wDraw P H (ysOf J) ops.toList (loudL P ops.toList) QN ops.toList.length [] (Array.replicate ops.toList.length false) e w1
  | false=>False)
structure SemReg(P:Program)(ops:List Oper)(S:List Nat)(e:Env)(hs:List (Nat×Shp))(I:ITy (World->Prop) hs)(w:World):Prop where
 run:∀a,BH e a->∀Q:Exit->Act->World->Prop,(∀e' a' w',AgK S a a.defers e' a'->D6 e' (fun K=>K w') hs I->Q .normal a' w')->
  wpAny P .any ops.toArray Q ops.length (Array.replicate ops.length false) a w.drew
def EY (P:Program) (H:Hand) (J:List Nat) (T:Bool):Code->(Exit->List Nat->Env->World->Prop)->List Nat->Env->World->Prop
 | .skip,Q,ds,e,w=>Q .normal ds e w
 | .ret,Q,ds,e,w=>Q .ret ds e w
 | .exit id,Q,ds,e,w=>Q (.exit id) ds e w
 | .seq a b,Q,ds,e,w=>EY P H J T a (fun ex ds' e' w'=>match ex with
  | .normal=>EY P H J T b Q ds' e' w'
  | ex=>Q ex ds' e' w') ds e w
 | .cond c x y,Q,ds,e,w=>
  (match rdO [] e c with
   | some (.bool b)=>
    (match inJ J (JN (.seq x y)) with
     | false=>Wif b (EY P H J T x Q ds e w) (EY P H J T y Q ds e w)
     | true=>(match E7 (.seq x y) with
      | true=>False
      | false=>∃I:ITy (World->Prop) (GZ (asg x++asg y) e),
       Wif b
        (EY P H J T x (fun ex ds' e' w'=>match ex with
         | .normal=>D6 e' (fun K=>K w') (GZ (asg x++asg y) e) I
         | ex=>Q ex ds' e' w') ds e w)
        (EY P H J T y (fun ex ds' e' w'=>match ex with
         | .normal=>D6 e' (fun K=>K w') (GZ (asg x++asg y) e) I
         | ex=>Q ex ds' e' w') ds e w)/\
       LM (fun e' K=>∀w',K w'->Q .normal ds e' w') (GZ (asg x++asg y) e) I (forget (asg x++asg y) e)))
   | _=>False)
 | .block id x,Q,ds,e,w=>EY P H J T x (fun ex ds' e' w'=>match ex with
  | .exit i=>(match i==id with|true=>Q .normal ds' e' w'|false=>Q (.exit i) ds' e' w')
  | ex=>Q ex ds' e' w') ds e w
 | .region id ops d,Q,ds,e,w=>
  (match ops.toList.all (fun o=>II o.op) with
   | false=>False
   | true=>(match regCut J id with
    | 0=>wReg P H J ops d (fun e' w'=>Q .normal ds (forget [] e') w') e w
    | 1 => ∃ I : ITy (World -> Prop) (FT id J), wReg P H J ops d (fun e' w' => D6 e' (fun K => K w') (FT id J) I) e w /\
     LM (fun e' K => ∀ w', K w' -> Q .normal ds e' w') (FT id J) I (forget (dstsOf ops.toList) e)
    | _ => (match d, Region.noSelect ops with
     | true, true => ∃ I : ITy (World -> Prop) (FT id J), SemReg P ops.toList (dstsOf ops.toList) e (FT id J) I w /\
      LM (fun e' K=>∀w',K w'->Q .normal ds e' w') (FT id J) I (forget (dstsOf ops.toList) e)
     | _,_=>False)))
 | .loop x,Q,ds,e,w=>
  (match E7 x with
   | false => ∃ I : ITy (World -> Nat -> Prop) (GZ (asg x) e),
    (∃ n, D6 e (fun K => K w n) (GZ (asg x) e) I) /\
    LM (fun e' K=>∀w' n,K w' n->EY P H J T x (fun ex ds2 e2 w2=>match ex with
     | .normal=>∃m,m<n/\D6 e2 (fun K=>K w2 m) (GZ (asg x) e) I
     | ex=>Q ex ds2 e2 w2) ds e' w') (GZ (asg x) e) I (forget (asg x) e)
   | true => ∃ I : ITy (List Nat -> World -> Nat -> Prop) (GZ (asg x) e),
    (∃ n, D6 e (fun K => K ds w n) (GZ (asg x) e) I) /\
    LM (fun e' K=>∀ds' w' n,K ds' w' n->EY P H J T x (fun ex ds2 e2 w2=>match ex with
     | .normal=>∃m,m<n/\D6 e2 (fun K=>K ds2 w2 m) (GZ (asg x) e) I
     | ex=>Q ex ds2 e2 w2) ds' e' w') (GZ (asg x) e) I (forget (asg x) e))
 | .rangeFunc g ps assign body,Q,ds,e,w=>
  (match T,E7 assign||E7 body,rdO [] e g with
   | true,false,some (.func (.func gf) fst lb)=>
    (match fst.toList,callB P gf with
     | [],true=>∃(xss:List (List Value)) (R:Nat->Prop) (I:(Nat->Prop)->Nat->World->Prop) (X:Nat->(Nat->Prop)->World->Prop),
      (DW P gf lb.toList xss R w/\(∀xs,xs∈xss->xs.length=ps.toList.length/\rowE P (psTys (.seq assign body) ps.toList) fun ys=>xs=ys)/\(∀b,R b->b<w.heap.size))/\
      (∀w1,Kept AB w w1->w1.heap.size=w.heap.size+2->I (fun _=>False) 0 w1)/\
      (∀Y i W W',I Y i W->(∀b,Y b->w.heap.size+2<=b)->Kept (DJ w.heap.size Y) W W'->I (fun b=>Y b\/(W.heap.size<=b/\b<W'.heap.size)) i W')/\
      (∀k Y W W',X k Y W->(∀b,Y b->w.heap.size+2<=b)->Kept (DJ w.heap.size Y) W W'->X k (fun b=>Y b\/(W.heap.size<=b/\b<W'.heap.size)) W')/\
      (∀(Y:Nat->Prop) i W,I Y i W->(∀b,Y b->w.heap.size+2<=b)->w.heap.size+2<=W.heap.size->
       rowA P (psTys (.seq assign body) ps.toList) fun xs=>xss[i]? = some xs->EY P H J false assign (fun ex _ e1 w1=>match ex with
        | .normal=>BN w.heap.size W w1/\∀w2,Kept (fun b=>b=w.heap.size+1) w1 w2->w2.heap.size=w1.heap.size->
         EY P H J false body (fun ex _ e2 w3=>match ex with
          | .normal=>BN w.heap.size w2 w3/\DA (fun b=>Y b\/R b) W w3/\I Y (i+1) w3
          | .ret=>BN w.heap.size w2 w3/\DA (fun b=>Y b\/R b) W w3/\X 0 Y w3
          | .exit id=>(match MW id (FN body) with|true=>BN w.heap.size w2 w3/\DA (fun b=>Y b\/R b) W w3/\X (id+1) Y w3|false=>False)
          | _=>False) [] e1 w2
        | _=>False) [] (setPs e ps.toList xs) W)/\
      (∀Y W,I Y xss.length W->DC w.heap.size W->Q .normal (w.heap.size::ds) e W)/\
      (∀Y W,X 0 Y W->DC w.heap.size W->Q .ret (w.heap.size::ds) e W)/\
      eachX (fun id=>∀Y W,X (id+1) Y W->DC w.heap.size W->Q (.exit id) (w.heap.size::ds) e W) (FN body)
     | _,_=>False)
   | _,_,_=>False)
 | .scope x,Q,ds,e,w=>
  (match T with
   | true => EY P H J true x (fun ex ds' e' w' => match ex with
    | .goto _ => False
    | ex=>Q ex ds' e' w') ds e w
   | false=>False)
 | .label _,Q,ds,e,w=>Q .normal ds e w
 | _,_,_,_,_=>False
noncomputable def leastN (p:Nat->Prop):Nat:=Classical.epsilon fun n=>p n/\∀m,p m->n<=m
theorem HP{p:Nat->Prop}(h:∃n,p n):p (leastN p)/\∀m,p m->leastN p<=m:=by
 have:∃n,p n/\∀m,p m->n<=m:=by
  obtain⟨n,hn⟩:=h
  induction n using Nat.strongRecOn with
  | _ n ih=>
   by_cases hx:∃m,m<n/\p m
   ·obtain⟨m,hm,hp⟩:=hx;exact ih m hm hp
   ·exact⟨n,hn,fun m hm=>Nat.le_of_not_lt fun hlt=>hx ⟨m,hlt,hm⟩⟩
 exact Classical.epsilon_spec this
def NoP(Q:Exit->Act->World->Prop):Exit->Act->World->Prop
 | .panic _,_,_=>False
 | .outgrown,_,_=>False
 | e,a,w=>Q e a w
theorem NoP.imp{Q:Exit->Act->World->Prop}:∀(e:Exit) (a:Act) (w:World),NoP Q e a w->Q e a w:=fun e a w h=>by
 cases e <;> first|exact h|exact(h:False).elim
theorem memN_mem{t:Nat}:∀{l:List Nat},MW t l=true->t∈l
 | [],h=>by cases h
 | s::r,h=>by
  unfold MW at h;rw [Bool.or_eq_true] at h;rcases h with h|h
  ·have:s=t:=by simpa using h
   subst this;simp
  ·exact mcm _ (memN_mem h)
theorem NoP.noOut{Q:Exit->Act->World->Prop}:¬LetsOut (NoP Q):=fun⟨_,_,h⟩=>h
theorem marks_cons(B:Nat)(ds:List Nat):marks (B::ds)=[{target:=.collected B,args:=#[]}]++marks ds:=rfl
theorem IK{w:World}{l:Nat}{o:Obj}{X:Nat->Prop}(hx:X l):Kept X w (w.putObj l o):=
 ⟨rfl,rfl,rfl,by simp,fun b _ hn=>World.putObj_heap_other fun e=>hn (e▸hx)⟩
theorem OW:∀(ps:List Nat) (xs:List Value) (e:Env) (a:Act),BH e a->BH (setPs e ps xs) {a with tmps:=(ps.zip xs).foldl (fun t (p,v)=>t.setIfInBounds p v) a.tmps}
 | [],_,e,a,h=>by simpa [setPs] using h
 | p::ps,[],e,a,h=>by simpa [setPs] using h
 | p::ps,x::xs,e,a,h=>by
  have:=OW ps xs _ _ (h.put (some p) ⟨none,x,none⟩ (v:=x) rfl);exact this
theorem LX{e:Env}{a:Act}(h:BH e a)(ds:List Deferred):BH e {a with defers:=ds}:=⟨h.len,h.ent,h.fx⟩
theorem OS {P:Program}{H:Hand} (hH:FZ P H) (hmix:P.follows .mixedOrders=true) {J:List Nat}:∀(c:Code) (T:Bool) (r:Option Nat) (n:Nat),(T=true->r=none)->∀(S:List Nat) (a0:Act) (QW:Exit->List Nat->Env->World->Prop) (Q:Exit->Act->World->Prop) (ds:List Nat) (e:Env) (a:Act) (w:World),
 (∀t∈asg c,t∈S)->(∀ex ds' e a w,(E7 c=false->ds'=ds)->AgK S a0 (marks ds') e a->QW ex ds' e w->Q ex a w)->AgK S a0 (marks ds) e a->EY P H J T c QW ds e w->c.wpIn (FR r) n P Q a w:=by
 intro c
 induction c with
 | skip=>intro T r n hT S a0 QW Q ds e a w _ hQ ha h;exact wpIn_skip (hQ _ _ _ _ _ (fun _=>rfl) ha h)
 | ret=>intro T r n hT S a0 QW Q ds e a w _ hQ ha h;exact wpIn_ret (hQ _ _ _ _ _ (fun _=>rfl) ha h)
 | exit id=>intro T r n hT S a0 QW Q ds e a w _ hQ ha h;exact wpIn_exit (hQ _ _ _ _ _ (fun _=>rfl) ha h)
 | seq x y ihx ihy=>
  intro T r n hT S a0 QW Q ds e a w hS hQ ha h;have hrf:E7 (.seq x y)=(E7 x||E7 y):=rfl;refine wpIn_seq (ihx T r n hT S a0 _ _ ds e a w (fun t ht=>hS t (List.mem_append_left _ ht)) ?_ ha h);intro ex ds' e' a' w' hd ha' hq
  cases ex with
  | normal=>
   refine ihy T r n hT S a0 QW Q ds' e' a' w' (fun t ht=>hS t (List.mem_append_right _ ht)) (fun ex ds2 e2 a2 w2 hd2 ha2 hq2=>hQ _ _ _ _ _ (fun hf=>?_) ha2 hq2) ha' hq;rw [hrf,Bool.or_eq_false_iff] at hf;rw [hd2 hf.2,hd hf.1]
  | _=>exact hQ _ _ _ _ _ (fun hf=>hd (by rw [hrf,Bool.or_eq_false_iff] at hf;exact hf.1)) ha' hq
 | cond c x y ihx ihy=>
  intro T r n hT S a0 QW Q ds e a w hS hQ ha h;have hSx:∀t∈asg x,t∈S:=fun t ht=>hS t (List.mem_append_left _ ht);have hSy:∀t∈asg y,t∈S:=fun t ht=>hS t (List.mem_append_right _ ht);have hrf:E7 (.cond c x y)=(E7 x||E7 y):=rfl;unfold EY at h;split at h
  ·rename_i b hb;have hc:=BV ha.ag (by simp) _ _ hb;split at h
   ·rcases FV h with⟨rfl,h⟩|⟨rfl,h⟩
    ·exact wpIn_cond_true hc (ihx T r n hT S a0 QW Q ds e a w hSx (fun ex ds' e a w hd=>hQ ex ds' e a w fun hf=>hd (by rw [hrf,Bool.or_eq_false_iff] at hf;exact hf.1)) ha h)
    ·exact wpIn_cond_false hc (ihy T r n hT S a0 QW Q ds e a w hSy (fun ex ds' e a w hd=>hQ ex ds' e a w fun hf=>hd (by rw [hrf,Bool.or_eq_false_iff] at hf;exact hf.2)) ha h)
   ·split at h
    ·exact h.elim
    ·rename_i hnrf;have hnrf':E7 x=false/\E7 y=false:=by
      have:(E7 x||E7 y)=false:=hnrf
      rwa [Bool.or_eq_false_iff] at this
     obtain⟨I,h,hg⟩:=h;have hS':∀t∈asg x++asg y,t∈S:=hS;have key : ∀ ex ds' e' a' w', ds' = ds -> AgK (asg x ++ asg y) a (marks ds') e' a' -> (match ex with
      | Exit.normal => D6 e' (fun K => K w') (GZ (asg x ++ asg y) e) I
      | ex=>QW ex ds' e' w')->Q ex a' w':=by
      intro ex ds' e' a' w' hd ha' hq;subst hd;have hk:∀e2,BH e2 a'->AgK S a0 (marks ds') e2 a':=fun e2 h2=>⟨h2,by rw [ha'.size,ha.size],ha'.defs,fun t ht=>by
       rw [ha'.keep t (fun hm=>ht (hS' t hm)),ha.keep t ht]⟩
      cases ex with
      | normal=>
       obtain⟨e2,K,h2,hK,hx⟩:=KD ha'.ag _ I _ (ha.ag.forget ha'.size ha'.keep) hq hg;exact hQ _ _ _ _ _ (fun _=>rfl) (hk e2 h2) (hx w' hK)
      | _=>exact hQ _ _ _ _ _ (fun _=>rfl) (hk e' ha'.ag) hq
     have ha':AgK (asg x++asg y) a (marks ds) e a:=⟨ha.ag,rfl,ha.defs,fun _ _=>rfl⟩;rcases FV h with⟨rfl,h⟩|⟨rfl,h⟩
     ·exact wpIn_cond_true hc (ihx T r n hT (asg x++asg y) a _ Q ds e a w (fun t ht=>List.mem_append_left _ ht) (fun ex ds' e' a' w' hd=>key ex ds' e' a' w' (hd hnrf'.1)) ha' h)
     ·exact wpIn_cond_false hc (ihy T r n hT (asg x++asg y) a _ Q ds e a w (fun t ht=>List.mem_append_right _ ht) (fun ex ds' e' a' w' hd=>key ex ds' e' a' w' (hd hnrf'.2)) ha' h)
  ·exact h.elim
 | block id x ih=>
  intro T r n hT S a0 QW Q ds e a w hS hQ ha h;refine wpIn_block (ih T r n hT S a0 _ _ ds e a w hS ?_ ha h);intro ex ds' e' a' w' hd ha' hq
  cases ex with
  | exit i=>
   dsimp only at hq;simp only [Exit.inBlock];split at hq
   ·rename_i hi;rw [if_pos (by simpa using hi)];exact hQ _ _ _ _ _ hd ha' hq
   ·rename_i hi;rw [if_neg (by simpa using hi)];exact hQ _ _ _ _ _ hd ha' hq
  | _=>exact hQ _ _ _ _ _ hd ha' hq
 | region id ops d=>
  intro T r n hT S a0 QW Q ds e a w hS hQ ha h;have hS':∀o∈ops.toList,∀t,o.dst=some t->t∈S:=fun o ho t ht=>hS t (dstsOf_mem ho ht);have hfin:∀e a w,AgK S a0 (marks ds) e a->QW .normal ds (forget [] e) w->Q .normal a w:=fun e a w ha hq=>
   hQ _ _ _ _ _ (fun _=>rfl) ⟨ha.ag.forget rfl (fun _ _=>rfl),ha.size,ha.defs,ha.keep⟩ hq
  have hcut:∀(hs:List (Nat×Shp)) (I:ITy (World->Prop) hs),LM (fun e' K=>∀w',K w'->QW .normal ds e' w') hs I (forget (dstsOf ops.toList) e)->
   ∀e' a' w',AgK (dstsOf ops.toList) a (marks ds) e' a'->D6 e' (fun K=>K w') hs I->Q .normal a' w':=by
   intro hs I hg e' a' w' ha' hq;obtain⟨e2,K,h2,hK,hx⟩:=KD ha'.ag _ I _ (ha.ag.forget ha'.size ha'.keep) hq hg;exact hQ _ _ _ _ _ (fun _=>rfl) ⟨h2,by rw [ha'.size,ha.size],ha'.defs,fun t ht=>by
    rw [ha'.keep t (fun hm=>ht (hS t hm)),ha.keep t ht]⟩ (hx w' hK)
  have haS:AgK (dstsOf ops.toList) a (marks ds) e a:=⟨ha.ag,rfl,ha.defs,fun _ _=>rfl⟩;unfold EY at h;split at h
  ·exact h.elim
  ·rename_i hnd;have hdef:∀o∈ops.toList,II o.op=true:=List.all_eq_true.1 hnd;have reg:∀(S2:List Nat) (a2:Act) (QN:Env->World->Prop),(∀o∈ops.toList,∀t,o.dst=some t->t∈S2)->(∀e a w,AgK S2 a2 (marks ds) e a->QN e w->Q .normal a w)->AgK S2 a2 (marks ds) e a->
    wReg P H J ops d QN e w->(Code.region id ops d).wpIn (FR r) n P Q a w:=by
    intro S2 a2 QN hS2 hfin ha h;unfold wReg at h;split at h
    ·exact wpIn_region_list (by
      have:=wOpsY_sound (r:=r) (n:=n) hH (ops:=ops.toList) (Q:=Q) hfin hdef ops.toList (fun _ h=>h) hS2 e a w ha h;simpa using this)
    ·split at h
     ·rename_i hns;have:=wDraw_sound hH (ops:=ops.toList) (L:=loudL P ops.toList) (Q:=NoP Q) (S:=S2) (a0:=a2) (D:=marks ds) (fun e a w h1 h2=>hfin e a w h1 h2) (fun c a w hx=>hx) hS2 (by simpa using hns)
       ops.toList.length [] (Array.replicate ops.toList.length false) e a w.drew ha (fun j _ _ hl=>by simp [Array.getElem?_replicate] at hl;split at hl <;> simp at hl) trivial (h _ rfl)
      have h2:=KL _ _ _ _ this;rw [Array.toArray_toList] at h2;have h2':=any_in (r:=r) (n:=n) NoP.noOut hdef _ _ _ _ h2
      have h3:(Code.region id ops true).wpIn (FR r) n P (NoP Q) a w:=wpIn_region_any hmix (by
       rw [<- Array.length_toList];exact h2')
      exact wpIn_mono h3 NoP.imp
     ·exact h.elim
   split at h
   ·exact reg S a0 _ hS' hfin ha h
   ·obtain⟨I,h1,hg⟩:=h;exact reg (dstsOf ops.toList) a _ (fun o ho t ht=>dstsOf_mem ho ht) (fun e' a' w' ha' hq=>hcut _ I hg e' a' w' ha' hq) haS h1
   ·split at h
    ·obtain⟨I,h1,hg⟩:=h;have hd:a.defers=marks ds:=ha.defs;have h2:=h1.run a ha.ag (NoP Q) (fun e' a' w' ha' hq=>hcut _ I hg e' a' w' (by rw [<- hd];exact ha') hq);rw [Array.toArray_toList] at h2;have h2':=any_in (r:=r) (n:=n) NoP.noOut hdef _ _ _ _ h2
     have h3:(Code.region id ops true).wpIn (FR r) n P (NoP Q) a w:=wpIn_region_any hmix (by
      rw [<- Array.length_toList];exact h2')
     exact wpIn_mono h3 NoP.imp
    ·exact h.elim
 | loop x ih=>
  intro T r n hT S a0 QW Q ds e a w hS hQ ha h;unfold EY at h;split at h
  ·rename_i hrf;obtain⟨I,⟨n0,h0⟩,hg⟩:=h
   let X:Act->World->Nat->Prop:=fun a' w' n=>a'.tmps.size=a.tmps.size/\a'.defers=marks ds/\(∀t,t∉asg x->a'.tmps[t]? = a.tmps[t]?)/\∃e2,BH e2 a'/\D6 e2 (fun K=>K w' n) (GZ (asg x) e) I
   refine wpIn_loop (fun a' w'=>∃n,X a' w' n) (fun a' w'=>leastN (X a' w')) ⟨n0,rfl,ha.defs,fun _ _=>rfl,e,ha.ag,h0⟩ ?_;intro a1 w1 hX;obtain⟨hx1,hxd,hx2,e2,he2,hap⟩:=(HP hX).1;obtain⟨e',K,he',hK,hk⟩:=KD he2 _ I _ (ha.ag.forget hx1 hx2) hap hg;have hb:=hk w1 _ hK;refine ih T r n hT (asg x) a _ _ ds e' a1 w1 (fun t ht=>ht) ?_ ⟨he',hx1,hxd,hx2⟩ hb;intro ex ds3 e3 a3 w3 hd3 ha3 hq;have:=hd3 hrf;subst this
   cases ex with
   | normal=>
    obtain⟨m,hm,hap3⟩:=hq;have hX3:X a3 w3 m:=⟨ha3.size,ha3.defs,ha3.keep,e3,ha3.ag,hap3⟩;exact⟨⟨m,hX3⟩,Nat.lt_of_le_of_lt ((HP ⟨m,hX3⟩).2 m hX3) hm⟩
   | _=>
    exact hQ _ _ _ _ _ (fun _=>rfl) ⟨ha3.ag,by rw [ha3.size,ha.size],ha3.defs,fun t ht=>by rw [ha3.keep t (fun hm=>ht (hS t hm)),ha.keep t ht]⟩ hq
  ·rename_i hrf;obtain⟨I,⟨n0,h0⟩,hg⟩:=h
   let X:Act->World->Nat->Prop:=fun a' w' n=>∃ds',a'.tmps.size=a.tmps.size/\a'.defers=marks ds'/\(∀t,t∉asg x->a'.tmps[t]? = a.tmps[t]?)/\∃e2,BH e2 a'/\D6 e2 (fun K=>K ds' w' n) (GZ (asg x) e) I
   refine wpIn_loop (fun a' w'=>∃n,X a' w' n) (fun a' w'=>leastN (X a' w')) ⟨n0,ds,rfl,ha.defs,fun _ _=>rfl,e,ha.ag,h0⟩ ?_;intro a1 w1 hX;obtain⟨ds1,hx1,hxd,hx2,e2,he2,hap⟩:=(HP hX).1;obtain⟨e',K,he',hK,hk⟩:=KD he2 _ I _ (ha.ag.forget hx1 hx2) hap hg;have hb:=hk ds1 w1 _ hK;refine ih T r n hT (asg x) a _ _ ds1 e' a1 w1 (fun t ht=>ht) ?_ ⟨he',hx1,hxd,hx2⟩ hb;intro ex ds3 e3 a3 w3 hd3 ha3 hq;have hrf':E7 (.loop x)=true:=hrf
   cases ex with
   | normal=>
    obtain⟨m,hm,hap3⟩:=hq;have hX3:X a3 w3 m:=⟨ds3,ha3.size,ha3.defs,ha3.keep,e3,ha3.ag,hap3⟩;exact⟨⟨m,hX3⟩,Nat.lt_of_le_of_lt ((HP ⟨m,hX3⟩).2 m hX3) hm⟩
   | _=>
    exact hQ _ _ _ _ _ (fun hf=>by rw [hrf'] at hf;cases hf) ⟨ha3.ag,by rw [ha3.size,ha.size],ha3.defs,fun t ht=>by rw [ha3.keep t (fun hm=>ht (hS t hm)),ha.keep t ht]⟩ hq
 | rangeFunc g ps assign body ihA ihB=>
  intro T r n hT S a0 QW Q ds e a w hS hQ ha h;unfold EY at h;split at h
  ·rename_i gf fst lb hor hg;rw [Bool.or_eq_false_iff] at hor;have hr0:=hT rfl;subst hr0;split at h
   ·rename_i hfst hcb;have hfst':fst=#[]:=by cases fst;simp_all
    subst hfst';obtain⟨xss,R,I,X,⟨hgv,hlen,hRlt⟩,h0,hab,hxab,hbody,hdone,hret,hexit⟩:=h;have hge:=BV ha.ag (by simp) _ _ hg;refine wpIn_rangeFunc fun fn _=>?_;obtain⟨B,hB⟩:∃B,B=w.heap.size:=⟨_,rfl⟩;rw [<- hB] at hRlt h0 hab hxab hbody hdone hret hexit;obtain⟨rec,hrec⟩:∃rec:LoopState->Option Code->Loop,rec=fun st pe=>{state:=st,pending:=pe,fn,tmps:=a.tmps,params:=ps,assign,body,defers:=B}:=⟨_,rfl⟩;obtain⟨W1,hW1⟩:∃W1,W1=(w.alloc (.deferred (some []))).alloc (.loop (rec .ready none)):=⟨_,rfl⟩;have hsz1:W1.heap.size=B+2:=by rw [hW1,hB];simp
    have hk1:Kept AB w W1:=by
     refine⟨by rw [hW1];rfl,by rw [hW1];rfl,by rw [hW1];rfl,by omega,fun b hb _=>?_⟩;rw [hW1];simp only [World.alloc,Array.getElem?_push,Array.size_push];rw [if_neg (by omega),if_neg (by omega)]
    have hl1:W1.heap[B+1]? = some (.loop (rec .ready none)):=by
     have:=World.alloc_heap_new (w.alloc (.deferred (some []))) (.loop (rec .ready none));rw [World.size_alloc] at this;rw [hW1,hB];exact this
    have hd1:W1.heap[B]? = some (.deferred (some [])):=by
     rw [hW1,hB];exact(RowKit.Below.heap_alloc _ _ _ (by simp)).trans (World.alloc_heap_new w _)
    have hrun:(Instr.enterLoop fn a.tmps ps assign body (FR none).round).run P w=.ok (B+1,[{target:=.collected B,args:=#[]}]) W1:=by
     rw [FR_round,run_enterLoop_outer,hW1,hrec,hB]
    refine⟨B+1,[{target:=.collected B,args:=#[]}],W1,{target:=.fn (.func gf) lb,args:=#[.func (.yield (B+1)) #[] #[]]},W1,gf,#[.func (.yield (B+1)) #[] #[]]++lb,W1,hrun,?_,fun f _=>PU none f,?_,fun hh=>(by cases hh),?_⟩
    ·simp only [resolve,hge];simp [go_sem]
    ·simp [invoke,go_sem,EF hcb]
    refine LV.2 ?_;have hJ:=hgv.run (B+1)
     (fun Y i W=>I Y i W/\W.heap[B+1]? = some (.loop (rec .ready none))/\W.heap[B]? = some (.deferred (some []))/\(∀b,Y b->B+2<=b)/\B+2<=W.heap.size)
     (fun Y W=>∃c k,((c=Code.ret/\k=0)\/(∃id,c=Code.exit id/\k=id+1/\id∈FN body))/\X k Y W/\W.heap[B+1]? = some (.loop (rec .done (some c)))/\W.heap[B]? = some (.deferred (some []))/\(∀b,Y b->B+2<=b)/\B+2<=W.heap.size)
     W1 hk1 ?_ ?_ ?_ ⟨h0 W1 hk1 hsz1,hl1,hd1,fun b hb=>hb.elim,by omega⟩
    ·rw [Array.toArray_toList] at hJ;refine hJ.mono ?_;rintro en W2 ⟨⟨v,rfl⟩,hend⟩;rcases hend with⟨Y,hi,hl,hd,hY,hsz⟩|⟨Y,c,k,hck,hx,hl,hd,hY,hsz⟩
     ·have he:(Instr.endLoop (B+1)).run P W2=.ok none (W2.putObj (B+1) (.loop {rec .ready none with state:=.exhausted})):=by
       have:=run_endLoop (P:=P) hl (by rw [hrec];simp);rw [hrec] at this ⊢;exact this
      refine⟨none,_,he,?_⟩;have hK:Kept (DJ B Y) W2 (W2.putObj (B+1) (.loop {rec .ready none with state:=.exhausted})):=IK (.inr (.inl rfl));refine hQ _ (B::ds) e _ _ (fun hf=>by cases hf) ⟨LX ha.ag _,ha.size,by rw [marks_cons,ha.defs],ha.keep⟩ (hdone _ _ (hab _ _ _ _ hi hY hK) ⟨?_⟩);exact(World.putObj_heap_other (by omega)).trans hd
     ·have he:(Instr.endLoop (B+1)).run P W2=.ok (some c) (W2.putObj (B+1) (.loop {rec .done (some c) with state:=.exhausted})):=by
       have:=run_endLoop (P:=P) hl (by rw [hrec];simp);rw [hrec] at this ⊢;exact this
      refine⟨some c,_,he,?_⟩;have hK:Kept (DJ B Y) W2 (W2.putObj (B+1) (.loop {rec .done (some c) with state:=.exhausted})):=IK (.inr (.inl rfl));have hX:=hxab _ _ _ _ hx hY hK;have hD:DC B (W2.putObj (B+1) (.loop {rec .done (some c) with state:=.exhausted})):=⟨(World.putObj_heap_other (by omega)).trans hd⟩;have hA:AgK S a0 (marks (B::ds)) e {a with defers:=[{target:=.collected B,args:=#[]}]++a.defers}:=⟨LX ha.ag _,ha.size,by rw [marks_cons,ha.defs],ha.keep⟩;rcases hck with⟨rfl,rfl⟩|⟨id,rfl,rfl,hid⟩
      ·exact wpIn_ret (hQ _ (B::ds) e _ _ (fun hf=>by cases hf) hA (hret _ _ hX hD))
      ·exact wpIn_exit (hQ _ (B::ds) e _ _ (fun hf=>by cases hf) hA (eachX_of hexit id hid _ _ hX hD))
    ·rintro Y i W W' ⟨hi,hl,hd,hY,hsz⟩ hk;have:=hk.sz;have n0:¬Y B:=fun hb=>by have:=hY _ hb;omega
     have n1:¬Y (B+1):=fun hb=>by have:=hY _ hb;omega
     refine⟨hab _ _ _ _ hi hY ⟨hk.os,hk.tape,hk.out,hk.sz,fun b hb hn=>hk.blk b hb fun hy=>hn (.inr (.inr hy))⟩,(hk.blk _ (by omega) n1).trans hl,(hk.blk _ (by omega) n0).trans hd,fun b hb=>?_,by omega⟩;rcases hb with hb|⟨hb,_⟩
     ·exact hY b hb
     ·omega
    ·rintro Y W W' ⟨c,k,hck,hx,hl,hd,hY,hsz⟩ hk;have:=hk.sz;have n0:¬Y B:=fun hb=>by have:=hY _ hb;omega
     have n1:¬Y (B+1):=fun hb=>by have:=hY _ hb;omega
     refine⟨c,k,hck,hxab _ _ _ _ hx hY ⟨hk.os,hk.tape,hk.out,hk.sz,fun b hb hn=>hk.blk b hb fun hy=>hn (.inr (.inr hy))⟩,(hk.blk _ (by omega) n1).trans hl,(hk.blk _ (by omega) n0).trans hd,fun b hb=>?_,by omega⟩;rcases hb with hb|⟨hb,_⟩
     ·exact hY b hb
     ·omega
    ·rintro Y i xs W hxs ⟨hi,hl,hd,hY,hsz⟩;have hxl:=(hlen xs (mog hxs)).1;have hy:=run_yield (P:=P) (args:=xs.toArray) hl (by rw [hrec];simpa using hxl);rw [hrec] at hy;refine⟨fn,_,assign,body,hy,roundIn_of_wpIn (F:=Fence.wide) trivial ?_⟩;obtain⟨ys,hxy,hb⟩:=rowEA (hlen xs (mog hxs)).2 (hbody Y i W hi hY hsz);have hxy':xs=ys:=hxy;rw [<- hxy'] at hb;replace hb:=hb hxs;have hag:BH (setPs e ps.toList xs) {tmps:=(ps.zip xs.toArray).foldl (fun tmps (t,a)=>tmps.setIfInBounds t a) a.tmps,defers:=[]}:=by
      have:=OW ps.toList xs e a ha.ag;have e1:(ps.zip xs.toArray).foldl (fun tmps (t,a)=>tmps.setIfInBounds t a) a.tmps=(ps.toList.zip xs).foldl (fun t (p,v)=>t.setIfInBounds p v) a.tmps:=by
       rw [<- Array.foldl_toList];simp
      rw [e1];exact LX this []
     refine ihA false (some (B+1)) _ (fun hh=>by cases hh) (asg assign) {tmps:=(ps.zip xs.toArray).foldl (fun tmps (t,a)=>tmps.setIfInBounds t a) a.tmps,defers:=[]} _ _ [] _ _ W (fun t ht=>ht) ?_ ⟨hag,rfl,rfl,fun _ _=>rfl⟩ hb;intro ex ds1 e1 a1 w1 hd1 ha1 hq;have hds1:=hd1 hor.1;subst hds1
     cases ex with
     | normal=>
      obtain⟨hrk,hq⟩:=hq;have hl1':w1.heap[B+1]? = some (.loop (rec .ready none)):=hrk.l.trans hl;have hlt1:=(F3.1 hl1').1;refine⟨_,run_beginRound hl1' (by rw [hrec]),?_⟩;obtain⟨w2,hw2⟩:∃w2,w2=w1.putObj (B+1) (.loop {rec .ready none with state:=.busy}):=⟨_,rfl⟩;rw [<- hw2];have hk12:Kept (fun b=>b=B+1) w1 w2:=by rw [hw2];exact IK rfl
      have hsz12:w2.heap.size=w1.heap.size:=by rw [hw2];simp
      have hl2:w2.heap[B+1]? = some (.loop {rec .ready none with state:=.busy}):=by rw [hw2];exact World.putObj_heap_same hlt1
      have hd2:w2.heap[B]? = some (.deferred (some [])):=by rw [hw2];exact(World.putObj_heap_other (by omega)).trans (hrk.d.trans hd)
      refine ihB false (some (B+1)) _ (fun hh=>by cases hh) (asg body) a1 _ _ [] e1 a1 w2 (fun t ht=>ht) ?_ ⟨ha1.ag,rfl,ha1.defs,fun _ _=>rfl⟩ (hq w2 hk12 hsz12);intro ex ds3 e3 a3 w3 _ ha3 hq3;have fin:∀(jump:Option Code),BN B w2 w3->
       (Instr.endRound (B+1) jump).run P w3=.ok (.bool jump.isNone) (w3.putObj (B+1) (.loop (rec (if jump.isNone then .ready else .done) jump)))/\
       (w3.putObj (B+1) (.loop (rec (if jump.isNone then .ready else .done) jump))).heap[B+1]? = some (.loop (rec (if jump.isNone then .ready else .done) jump))/\
       (w3.putObj (B+1) (.loop (rec (if jump.isNone then .ready else .done) jump))).heap[B]? = some (.deferred (some [])):=fun jump hk3=>by
       have hl3:=hk3.l.trans hl2;have:=run_endRound (P:=P) jump hl3;rw [hrec] at this ⊢;exact⟨this,World.putObj_heap_same (F3.1 hl3).1,(World.putObj_heap_other (by omega)).trans (hk3.d.trans hd2)⟩
      have kyP:∀(jump:Option Code),DA (fun b=>Y b\/R b) W w3->DA (fun b=>Y b\/R b) W (w3.putObj (B+1) (.loop (rec (if jump.isNone then .ready else .done) jump))):=fun jump hky=>by
       refine⟨by have:=hky.sz;simpa using this,fun b hb=>?_⟩;rw [<- hky.blk b hb];refine World.putObj_heap_other fun hbe=>?_;rcases hb with hb|hb
       ·have:=hY b hb;omega
       ·have:=hRlt b hb;omega
      have eYP:∀(o:Obj),(fun b=>Y b\/(w3.heap.size<=b/\b<(w3.putObj (B+1) o).heap.size))=Y:=fun o=>by
       funext b;simp only [World.putObj_size,eq_iff_iff];exact⟨fun h=>h.elim id (fun h=>by omega),.inl⟩
      have hszP:BN B w2 w3->∀(o:Obj),B+2<=(w3.putObj (B+1) o).heap.size:=fun hk3 o=>by
       have:=hk3.sz;have:=hrk.sz;simp;omega
      cases ex with
      | normal=>
       obtain⟨hk3,hky,hi3⟩:=hq3;obtain⟨hrun3,hl4,hd4⟩:=fin none hk3;refine⟨_,_,hrun3,kyP none hky,.inl ⟨rfl,?_,hl4,hd4,hY,hszP hk3 _⟩⟩;have:=hab _ _ _ _ hi3 hY (IK (w:=w3) (l:=B+1) (o:=.loop (rec (if (none:Option Code).isNone then .ready else .done) none)) (X:=DJ B Y) (.inr (.inl rfl)));rw [eYP] at this;exact this
      | ret=>
       obtain⟨hk3,hky,hx3⟩:=hq3;obtain⟨hrun3,hl4,hd4⟩:=fin (some .ret) hk3;refine⟨_,_,hrun3,kyP (some .ret) hky,.inr ⟨rfl,.ret,0,.inl ⟨rfl,rfl⟩,?_,hl4,hd4,hY,hszP hk3 _⟩⟩;have:=hxab _ _ _ _ hx3 hY (IK (w:=w3) (l:=B+1) (o:=.loop (rec (if (some Code.ret:Option Code).isNone then .ready else .done) (some .ret))) (X:=DJ B Y) (.inr (.inl rfl)));rw [eYP] at this;exact this
      | exit id=>
       dsimp only at hq3;split at hq3
       ·rename_i hmem;obtain⟨hk3,hky,hx3⟩:=hq3;obtain⟨hrun3,hl4,hd4⟩:=fin (some (.exit id)) hk3;refine⟨_,_,hrun3,kyP (some (.exit id)) hky,.inr ⟨rfl,.exit id,id+1,.inr ⟨id,rfl,rfl,memN_mem hmem⟩,?_,hl4,hd4,hY,hszP hk3 _⟩⟩;have:=hxab _ _ _ _ hx3 hY (IK (w:=w3) (l:=B+1) (o:=.loop (rec (if (some (Code.exit id):Option Code).isNone then .ready else .done) (some (.exit id)))) (X:=DJ B Y) (.inr (.inl rfl)));rw [eYP] at this;exact this
       ·exact hq3.elim
      | _=>exact hq3.elim
     | _=>exact hq.elim
   ·exact h.elim
  ·exact h.elim
 | scope x ih=>
  intro T r n hT S a0 QW Q ds e a w hS hQ ha h;unfold EY at h;split at h
  ·have hr0:=hT rfl;subst hr0;rw [FR_none];refine wpIn_wide.2 (wp_scope_straight ((wpIn_wide (n:=n)).1 ?_));rw [<- FR_none];refine ih true none n (fun _=>rfl) S a0 _ _ ds e a w hS ?_ ha h;intro ex ds' e' a' w' hd ha' hq
   cases ex with
   | goto l=>exact hq.elim
   | _=>exact hQ _ _ _ _ _ hd ha' hq
  ·exact h.elim
 | label l=>intro T r n hT S a0 QW Q ds e a w _ hQ ha h;exact wpIn_label (hQ _ _ _ _ _ (fun _=>rfl) ha h)
 | _=>intro T r n hT S a0 QW Q ds e a w _ _ _ h;exact h.elim
def wRes(P:Program)(e:Env)(w:World):List ResultVar->(List Value->Prop)->Prop
 | [],k=>k []
 | .tmp t::r,k=>(match rdO [] e (.tmp t) with|some v=>wRes P e w r fun vs=>k (v::vs)|none=>False)
 | .cell s t::r,k=>(match rdO [] e (.tmp s) with
  | some x=>(qLoad P t x).den w (fun v _=>wRes P e w r fun vs=>k (v::vs)) (fun _=>True)
  | none=>False)
def P9:List Value->Value
 | [v]=>v
 | vs=>.tuple vs.toArray
def OJ(n:Nat):List Value->Env
 | []=>List.replicate n none
 | v::vs=>some ⟨none,v,none⟩::OJ (n-1) vs
def wBody(P:Program)(H:Hand)(J:List Nat)(fn:Func)(c:Code)(args:List Value)(w:World)(K:Value->World->Prop):Prop:=
 match E7 c with
 | false=>EY P H J true c (fun ex _ e w'=>match ex with
  | .normal=>wRes P e w' fn.results.toList fun vs=>K (P9 vs) w'
  | .ret=>wRes P e w' fn.results.toList fun vs=>K (P9 vs) w'
  | _=>False) [] (OJ fn.ntmps args) w
 | true=>EY P H J true c (fun ex ds e w'=>match ex with
  | .normal=>CG ds w'/\∀w2,Kept (fun b=>b∈ds) w' w2->w2.heap.size=w'.heap.size->wRes P e w2 fn.results.toList fun vs=>K (P9 vs) w2
  | .ret=>CG ds w'/\∀w2,Kept (fun b=>b∈ds) w' w2->w2.heap.size=w'.heap.size->wRes P e w2 fn.results.toList fun vs=>K (P9 vs) w2
  | _=>False) [] (OJ fn.ntmps args) w
theorem loadAt_loadVar{P:Program}{w:World}{t:TypeId}{x v:Value}(h:(Instr.loadAt t x).run P w=.ok v w):((do loadVar t (<- asAddr x):Sem Value)).run P w=.ok v w:=by
 cases x <;> simp [Instr.loadAt,Instr.sureAddr] at h
 rename_i p
 cases p with
 | none=>simp at h
 | some a=>simpa [asAddr] using h
def resV(ts:Array Value):ResultVar->Sem Value
 | .tmp t=>pure (ts.getD t undef)
 | .cell s t=>do loadVar t (<- asAddr (ts.getD s undef))
theorem results_eq(fn:Func)(ts:Array Value):results fn ts=(do
 let vs <- fn.results.mapM (resV ts)
 pure (if h:vs.size=1 then vs[0] else .tuple vs)):=by
 have:(fun r:ResultVar=>match r with
  | .tmp t=>(pure (ts.getD t undef):Sem Value)
  | .cell a t=>do loadVar t (<- asAddr (ts.getD a undef)))=resV ts:=by
  funext r;cases r <;> rfl
 rw [<- this];rfl
theorem wRes_sound{P:Program}{e:Env}{a:Act}{w:World}(ha:BH e a):∀(rs:List ResultVar) (k:List Value->Prop),wRes P e w rs k->
 ∃vs,k vs/\vs.length=rs.length/\(rs.mapM (resV a.tmps)).run P w=.ok vs w:=by
 intro rs
 induction rs with
 | nil=>intro k h;exact⟨[],h,rfl,rfl⟩
 | cons r rs ih=>
  intro k h
  cases r with
  | tmp t=>
   simp only [wRes] at h;split at h
   ·rename_i v hv;have hv':=BV ha (by simp) _ _ hv;simp only [Act.eval] at hv';obtain⟨vs,hk,hl,hr⟩:=ih _ h;refine⟨v::vs,hk,by simp [hl],?_⟩;simp only [List.mapM_cons,resV,srb,srp,ato,hv',hr]
   ·exact h.elim
  | cell s t=>
   simp only [wRes] at h;split at h
   ·rename_i x hx;have hx':=BV ha (by simp) _ _ hx;simp only [Act.eval] at hx';obtain⟨v,c',hs,hc,c'',hn,_⟩:=BU.NN h;have hv:=loadAt_loadVar (P4 hs hc);obtain⟨vs,hk,hl,hr⟩:=ih _ hn;refine⟨v::vs,hk,by simp [hl],?_⟩;have hv2:(resV a.tmps (.cell s t)).run P w=.ok v w:=by
     show((do loadVar t (<- asAddr (a.tmps.getD s undef)):Sem Value)).run P w=_
     rw [hx',hv]
    rw [List.mapM_cons,srb,hv2,ato,srb,hr]
    rfl
   ·exact h.elim
theorem env0_len:∀(args:List Value) (n:Nat),args.length<=n->(OJ n args).length=n:=by
 intro args
 induction args with
 | nil=>intro n _;simp [OJ]
 | cons v vs ih=>intro n h;simp at h;simp [OJ,ih (n-1) (by omega)];omega
theorem env0_get:∀(args:List Value) (n t:Nat) (m:Ent),(OJ n args)[t]? = some (some m)->m.need=none/\args[t]? = some m.val/\m.fix=none:=by
 intro args
 induction args with
 | nil=>
  intro n t m h;simp only [OJ,List.getElem?_replicate] at h;split at h <;> simp at h
 | cons v vs ih=>
  intro n t m h
  cases t with
  | zero=>simp [OJ] at h;subst h;exact⟨rfl,rfl,rfl⟩
  | succ t=>simp only [OJ,List.getElem?_cons_succ] at h;simpa using ih _ _ _ h
theorem NA{P:Program}{fn:Func}{tmps:Array Value}{R:Ending->World->Prop}:∀(ds:List Nat) (w:World),CG ds w->
 (∀w',Kept (fun b=>b∈ds) w w'->w'.heap.size=w.heap.size->∃v,(results fn tmps).run P w'=.ok v w'/\R (.returned v) w')->LeavesInM (FR none) 0 P fn tmps R (marks ds) .returning w
 | [],w,_,h=>h w ⟨rfl,rfl,rfl,nlr _,fun _ _ _=>rfl⟩ rfl
 | D::ds,w,hd,h=>by
  refine⟨by simp,.inl ⟨D,w.putObj D (.deferred none),rfl,run_takeDeferred (hd.all D (by simp)),?_⟩⟩;have hnd:=List.nodup_cons.1 hd.nd;refine NA ds _ ⟨hnd.2,fun D' hD'=>?_⟩ fun w' hk hs=>h w' ?_ (by rw [hs];simp)
  ·exact(World.putObj_heap_other fun(e:D'=D)=>hnd.1 (by rw [<- e];exact hD')).trans (hd.all D' (mcm _ hD'))
  ·refine⟨hk.os,hk.tape,hk.out,by have:=hk.sz;simpa using this,fun b hb hn=>?_⟩;rw [hk.blk b (by simpa using hb) fun h=>hn (mcm _ h)];exact World.putObj_heap_other fun e=>hn (by rw [e];simp)
theorem OT{P:Program}{H:Hand}(hH:FZ P H)(hmix:P.follows .mixedOrders=true){J:List Nat}{f:FuncId}{fn:Func}{c:Code}(hf:P.funcs[f]? = some fn)(hb:fn.body=some c){args:List Value}{w:World}
 (hn:args.length<=fn.ntmps) {K:Value->World->Prop} (h:wBody P H J fn c args w K):Calls P f args.toArray w (fun e w'=>∃v,e=.returned v/\K v w'):=by
 refine(LV (r:=none) (n:=0)).1 (callsIn_of_wp_marks hf hb (PU none f) ?_ rfl)
 let a:Act:={tmps:=args.toArray++Array.replicate (fn.ntmps-args.toArray.size) undef,defers:=[]}
 have hag:BH (OJ fn.ntmps args) a:=by
  refine⟨?_,fun t n ht=>?_,fun t n b ht hb=>?_⟩
  ·rw [env0_len _ _ hn];simp [a];omega
  rotate_left
  ·have:=(env0_get _ _ _ _ ht).2.2;rw [this] at hb;cases hb
  ·obtain⟨h1,h2,_⟩:=env0_get _ _ _ _ ht;have hlt:t<args.length:=(D5.1 h2).1;unfold ET;rw [h1];simp only [a];rw [Array.getElem?_append_left (by simpa using hlt)];simpa using h2
 have hres:∀e a w,BH e a->wRes P e w fn.results.toList (fun vs=>K (P9 vs) w)->∃v,(results fn a.tmps).run P w=.ok v w/\K v w:=by
  intro e a w ha hr;obtain⟨vs,hk,hl,hrun⟩:=wRes_sound ha _ _ hr;refine⟨P9 vs,?_,hk⟩;rw [results_eq,srb];have hrun':(fn.results.mapM (resV a.tmps)).run P w=.ok vs.toArray w:=by
   rw [Array.mapM_eq_mapM_toList,Sem.run_map,hrun];rfl
  rw [hrun',ato]
  match vs with
  | []=>rfl
  | [v]=>rfl
  | v::v'::r=>simp [P9]
 unfold wBody at h;split at h
 ·rename_i hrf;refine OS hH hmix c true none 0 (fun _=>rfl) (asg c) a _ _ [] (OJ fn.ntmps args) a w (fun t ht=>ht) ?_ ⟨hag,rfl,rfl,fun _ _=>rfl⟩ h;intro ex ds e a w hd ha hq;have:=hd hrf;subst this
  cases ex with
  | normal=>
   obtain⟨v,hv,hk⟩:=hres e a w ha.ag hq
   show LeavesInM _ _ _ _ _ _ a.defers .returning w
   rw [ha.defs];exact⟨v,hv,v,rfl,hk⟩
  | ret=>
   obtain⟨v,hv,hk⟩:=hres e a w ha.ag hq
   show LeavesInM _ _ _ _ _ _ a.defers .returning w
   rw [ha.defs];exact⟨v,hv,v,rfl,hk⟩
  | _=>exact hq.elim
 ·refine OS hH hmix c true none 0 (fun _=>rfl) (asg c) a _ _ [] (OJ fn.ntmps args) a w (fun t ht=>ht) ?_ ⟨hag,rfl,rfl,fun _ _=>rfl⟩ h;intro ex ds e a w _ ha hq;have key:CG ds w/\(∀w2,Kept (fun b=>b∈ds) w w2->w2.heap.size=w.heap.size->wRes P e w2 fn.results.toList fun vs=>K (P9 vs) w2)->LeavesInM (FR none) 0 P fn a.tmps (fun e w'=>∃v,e=.returned v/\K v w') a.defers .returning w:=by
   rintro ⟨hd,hq⟩;rw [ha.defs];refine NA ds w hd fun w' hk hs=>?_;obtain⟨v,hv,hk⟩:=hres e a w' ha.ag (hq w' hk hs);exact⟨v,hv,v,rfl,hk⟩
  cases ex with
  | normal=>exact key hq
  | ret=>exact key hq
  | _=>exact hq.elim
def inline(P:Program)(inl:List Nat)(H:Hand):Hand:=fun f args w K=>
 match MW f inl with
 | false=>H f args w K
 | true=>match P.funcs[f]? with
  | some fn=>(match fn.body,decide (args.length<=fn.ntmps) with
   | some c,true=>wBody P H [] fn c args w K
   | _,_=>False)
  | none=>False
theorem inline_sound{P:Program}{inl:List Nat}{H:Hand}(hH:FZ P H)(hmix:P.follows .mixedOrders=true):FZ P (inline P inl H):=by
 intro f args w K h hc;unfold inline at h;split at h
 ·exact hH f args w K h hc
 ·split at h
  ·rename_i fn hf;split at h
   ·rename_i c hb hn;exact OT hH hmix hf hb (of_decide_eq_true hn) h
   ·exact h.elim
  ·exact h.elim
def bodyOf(fn:Func):Code:=match fn.body with
 | some c=>c
 | none=>.skip
def handOf(P:Program)(inl:List Nat):Nat->Hand
 | 0=>H0 P
 | n+1=>inline P inl (handOf P inl n)
theorem NJ{P:Program}(hmix:P.follows .mixedOrders=true)(inl:List Nat):∀n,FZ P (handOf P inl n)
 | 0=>HE P
 | n+1=>inline_sound (NJ hmix inl n) hmix
theorem vc_of{P:Program}(inl:List Nat)(d:Nat)(J:List Nat){f:FuncId}{fn:Func}(hmix:P.follows .mixedOrders=true)(hf:P.funcs[f]? = some fn){args:List Value}{w:World}{K:Value->World->Prop}{X:Prop}
 (hb:fn.body.isSome=true) (hn:decide (args.length<=fn.ntmps)=true) (hX:X=wBody P (handOf P inl d) J fn (bodyOf fn) args w K) (h:X) :
 Calls P f args.toArray w (fun e w'=>∃v,e=.returned v/\K v w'):=by
 obtain⟨c,hc⟩:=Option.isSome_iff_exists.1 hb;have hc':bodyOf fn=c:=by simp [bodyOf,hc]
 rw [hc'] at hX;exact OT (NJ hmix inl d) hmix hf hc (of_decide_eq_true hn) (hX▸h)
end Go.Eng
