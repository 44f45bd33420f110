/- Part of an engine. Proved: its laws. Conditions: those in each theorem. -/
import Derived.Test.YtdgbechegbmpcaaGreatDoorEngA
import Derived.RowKit
set_option linter.unusedVariables false
set_option linter.unusedSimpArgs false
namespace Go.Eng
structure Ent where
 need:Option (Nat×Bool)
 val:Value
 fix:Option Bool
abbrev Env:=List (Option Ent)
def AZ(ts:Array Value)(p:Nat×Bool):Prop:=ts[p.1]? = some (.bool p.2)
def ET(ts:Array Value)(t:Nat)(n:Ent):Prop:=
 match n.need with
 | none=>ts[t]? = some n.val
 | some p=>(AZ ts p->ts[t]? = some n.val)/\(¬AZ ts p->ts[t]? = some undef)
structure BH(e:Env)(a:Act):Prop where
 len:e.length=a.tmps.size
 ent:∀t n,e[t]? = some (some n)->ET a.tmps t n
 fx:∀t n b,e[t]? = some (some n)->n.fix=some b->AZ a.tmps (t,b)
def KI(e:Env)(t:Nat):Option Ent:=
 match e[t]? with
 | some (some n)=>some n
 | _=>none
def IB(d:Nat):Option Ent->Option Ent
 | some ⟨some (s,b),v,k⟩=>(match s==d with|true=>none|false=>some ⟨some (s,b),v,k⟩)
 | x=>x
def I1(e:Env)(d:Option Tmp)(n:Ent):Env:=
 match d with
 | none=>e
 | some d=>
  match n.need with
  | none=>(e.map (IB d)).set d (some n)
  | some (s,_)=>
   match s==d with
   | true=>(e.map (IB d)).set d none
   | false=>(e.map (IB d)).set d (some n)
theorem DM{e:Env}{t:Nat}{n:Ent}(h:KI e t=some n):e[t]? = some (some n):=by
 unfold KI at h;split at h
 ·rename_i m hm;simp at h;subst h;exact hm
 ·simp at h
theorem PL{d:Nat}{x:Option Ent}{n:Ent}(h:IB d x=some n):x=some n/\∀p,n.need=some p->p.1≠d:=by
 unfold IB at h;split at h
 ·rename_i s b v k;split at h
  ·simp at h
  ·rename_i hs;simp at h;subst h;refine⟨rfl,fun p hp=>?_⟩;simp at hp;subst hp;simpa using hs
 ·rename_i hn;subst h;refine⟨rfl,fun p hp=>?_⟩;obtain⟨nd,v,k⟩:=n;simp at hp;subst hp;obtain⟨s,b⟩:=p;exact absurd rfl (hn s b v k)
theorem LZ{a:Act}{d:Nat}{v:Value}{p:Nat×Bool}(h:p.1≠d):AZ (a.put (some d) v).tmps p↔AZ a.tmps p:=by
 simp [AZ,Act.put,Array.getElem?_setIfInBounds_ne (Ne.symm h)]
theorem Q0{a:Act}{d t:Nat}{v:Value}{n:Ent}(h:ET a.tmps t n)(ht:t≠d)(hn:∀p,n.need=some p->p.1≠d):ET (a.put (some d) v).tmps t n:=by
 unfold ET at *;have hg:(a.put (some d) v).tmps[t]? = a.tmps[t]? := by simp [Act.put,Array.getElem?_setIfInBounds_ne (Ne.symm ht)]
 split
 ·rename_i h0;rw [h0] at h;rw [hg];exact h
 ·rename_i p h0;rw [h0] at h;rw [hg,LZ (hn p h0)];exact h
theorem BH.put{e:Env}{a:Act}(h:BH e a)(d:Option Tmp)(n:Ent){v:Value}
 (hv:match n.need with
  | none=>v=n.val
  | some p=>(AZ a.tmps p->v=n.val)/\(¬AZ a.tmps p->v=undef)) (hfn:n.fix=none:=by rfl):BH (I1 e d n) (a.put d v):=by
 cases d with
 | none=>exact h
 | some d=>
  have hlen:∀x:Option Ent,((e.map (IB d)).set d x).length=(a.put (some d) v).tmps.size:=by
   intro x;simp [Act.put,h.len]
  have hoth:∀(x:Option Ent) t m,((e.map (IB d)).set d x)[t]? = some (some m)->t≠d->ET (a.put (some d) v).tmps t m:=by
   intro x t m hm ht;rw [List.getElem?_set_ne (Ne.symm ht),gmp] at hm
   cases hx:e[t]? with
   | none=>simp [hx] at hm
   | some y=>
    simp only [hx,Option.map_some,Option.some.injEq] at hm;obtain⟨rfl,hn⟩:=PL hm;exact Q0 (h.ent t m hx) ht hn
  have hself:∀t m (x:Option Ent),((e.map (IB d)).set d x)[t]? = some (some m)->t=d->x=some m/\d<a.tmps.size:=by
   intro t m x hm ht;subst ht;rw [List.getElem?_set_self'] at hm
   cases hx:(e.map (IB t))[t]? with
   | none=>simp [hx] at hm
   | some y=>
    simp [hx] at hm;refine⟨hm,?_⟩;have:=(D5.1 hx).1;simpa [h.len] using this
  have hfx:∀(x:Option Ent),(x=none\/x=some n)->∀t m b,((e.map (IB d)).set d x)[t]? = some (some m)->m.fix=some b->AZ (a.put (some d) v).tmps (t,b):=by
   intro x hx t m b hm hb;by_cases ht:t=d
   ·obtain⟨h1,_⟩:=hself t m _ hm ht;subst h1;rcases hx with hx|hx
    ·cases hx
    ·cases hx;rw [hfn] at hb;cases hb
   ·rw [LZ (p:=(t,b)) ht];rw [List.getElem?_set_ne (Ne.symm ht),gmp] at hm
    cases hy:e[t]? with
    | none=>simp [hy] at hm
    | some y=>
     simp only [hy,Option.map_some,Option.some.injEq] at hm;obtain⟨rfl,_⟩:=PL hm;exact h.fx t m b hy hb
  unfold I1;dsimp only
  cases hneed:n.need with
  | none=>
   rw [hneed] at hv;refine⟨hlen _,fun t m hm=>?_,hfx _ (.inr rfl)⟩;by_cases ht:t=d
   ·obtain⟨hx,hlt⟩:=hself t m _ hm ht;simp at hx;subst hx;subst ht;simp only [ET,hneed,Act.put];rw [hv];simp [hlt]
   ·exact hoth _ t m hm ht
  | some p=>
   obtain⟨s,b⟩:=p;rw [hneed] at hv;dsimp only;split
   ·refine⟨hlen _,fun t m hm=>?_,hfx _ (.inl rfl)⟩;by_cases ht:t=d
    ·obtain⟨hx,hlt⟩:=hself t m _ hm ht;simp at hx
    ·exact hoth _ t m hm ht
   ·rename_i hs;have hs:s≠d:=by simpa using hs
    refine⟨hlen _,fun t m hm=>?_,hfx _ (.inr rfl)⟩;by_cases ht:t=d
    ·obtain⟨hx,hlt⟩:=hself t m _ hm ht;simp at hx;subst hx;subst ht;simp only [ET,hneed];have hH:AZ (a.put (some t) v).tmps (s,b)↔AZ a.tmps (s,b):=LZ hs;have hg:(a.put (some t) v).tmps[t]? = some v:=by simp [Act.put,hlt]
     rw [hH,hg];exact⟨fun x=>by rw [hv.1 x],fun x=>by rw [hv.2 x]⟩
    ·exact hoth _ t m hm ht
def DG(e:Env):Nat->Nat×Bool->List (Nat×Bool)
 | 0,p=>[p]
 | n+1,p=>
  p::(match KI e p.1 with
   | some ⟨some q,_,_⟩=>DG e n q
   | _=>[])
def memB(p:Nat×Bool):List (Nat×Bool)->Bool
 | []=>false
 | (s,b)::r=>(s==p.1&&b==p.2)||memB p r
theorem memB_spec{p:Nat×Bool}:∀{l:List (Nat×Bool)},memB p l=true->p∈l:=by
 intro l
 induction l with
 | nil=>intro h;simp [memB] at h
 | cons q r ih=>
  obtain⟨s,b⟩:=q;intro h;simp only [memB,Bool.or_eq_true,Bool.and_eq_true,beq_iff_eq] at h;rcases h with⟨h1,h2⟩|h
  ·subst h1;subst h2;exact mcs
  ·exact mcm _ (ih h)
def rdO(cx:List (Nat×Bool))(e:Env):Operand->Option Value
 | .tmp t=>
  (match KI e t with
   | some ⟨none,v,_⟩=>some v
   | some ⟨some q,v,_⟩=>(match memB q cx with|true=>some v|false=>none)
   | none=>none)
 | .const v=>some v
 | .global g=>some (.pointer (some ⟨g,0,none⟩))
 | .func f=>some (.func (.func f) #[] #[])
theorem E1{e:Env}{a:Act}(h:BH e a):∀(n:Nat) (p:Nat×Bool),AZ a.tmps p->∀q∈DG e n p,AZ a.tmps q:=by
 intro n
 induction n with
 | zero=>intro p hp q hq;simp [DG] at hq;subst hq;exact hp
 | succ n ih=>
  intro p hp q hq;unfold DG at hq;rcases List.mem_cons.1 hq with rfl|hq
  ·exact hp
  ·split at hq
   ·rename_i r v kk hr;have he:=h.ent _ _ (DM hr);simp only [ET] at he;have hr':AZ a.tmps r:=by
     refine Classical.byContradiction fun hn=>?_;have h1:=he.2 hn;unfold AZ at hp;rw [h1] at hp;simp [undef] at hp
    exact ih r hr' q hq
   ·simp at hq
theorem BV{e:Env}{a:Act}{cx:List (Nat×Bool)}(h:BH e a)(hcx:∀p∈cx,AZ a.tmps p):∀x u,rdO cx e x=some u->a.eval x=u:=by
 intro x u hx
 cases x with
 | tmp t=>
  simp only [rdO] at hx;split at hx
  ·rename_i v kk hv;simp at hx;subst hx;have:=h.ent _ _ (DM hv);simp only [ET] at this;simp [Act.eval,this]
  ·rename_i q v kk hv;split at hx
   ·rename_i hm;simp at hx;subst hx;have:=h.ent _ _ (DM hv);simp only [ET] at this;simp [Act.eval,this.1 (hcx _ (memB_spec hm))]
   ·simp at hx
  ·simp at hx
 | const v=>simp [rdO] at hx;subst hx;rfl
 | global g=>simp [rdO] at hx;subst hx;rfl
 | func f=>simp [rdO] at hx;subst hx;rfl
def PQ(e:Env):Nat->Nat×Bool->Prop
 | 0,_=>True
 | n+1,p=>
  match KI e p.1 with
  | some ⟨none,.bool b,_⟩=>b=p.2
  | some ⟨some q,.bool b,_⟩=>PQ e n q/\b=p.2
  | _=>True
theorem condF_of{e:Env}{a:Act}(h:BH e a):∀(n:Nat) (p:Nat×Bool),AZ a.tmps p->PQ e n p:=by
 intro n
 induction n with
 | zero=>intro p _;trivial
 | succ n ih=>
  intro p hp;unfold PQ;split
  ·rename_i b kk hb;have:=h.ent _ _ (DM hb);simp only [ET] at this;unfold AZ at hp;rw [this] at hp;simpa using hp
  ·rename_i q b kk hb;have hq:AZ a.tmps q:=E1 h 1 p hp q (by simp [DG,hb]);have:=h.ent _ _ (DM hb);simp only [ET] at this;have:=this.1 hq;unfold AZ at hp;rw [this] at hp;exact⟨ih q hq,by simpa using hp⟩
  ·trivial
def MN(s:Nat)(b:Bool):Option Ent->Option Ent
 | some ⟨some (s',b'),v,k⟩=>
  (match s'==s with
   | true=>(match b'==b with|true=>some ⟨none,v,k⟩|false=>some ⟨none,undef,k⟩)
   | false=>some ⟨some (s',b'),v,k⟩)
 | x=>x
def G6(e:Env)(s:Nat)(b:Bool):Env:=(e.map (MN s b)).set s (some ⟨none,.bool b,some b⟩)
theorem BH.settle{e:Env}{a:Act}(h:BH e a){s:Nat}{b:Bool}(hs:AZ a.tmps (s,b)):BH (G6 e s b) a:=by
 have hfx:∀t n c,(G6 e s b)[t]? = some (some n)->n.fix=some c->AZ a.tmps (t,c):=by
  intro t n c hn hc;unfold G6 at hn;by_cases ht:s=t
  ·subst ht;rw [List.getElem?_set_self'] at hn
   cases hx:(e.map (MN s b))[s]? with
   | none=>simp [hx] at hn
   | some y=>simp [hx] at hn;subst hn;cases hc;exact hs
  ·rw [List.getElem?_set_ne ht,gmp] at hn
   cases hx:e[t]? with
   | none=>simp [hx] at hn
   | some y=>
    simp only [hx,Option.map_some,Option.some.injEq] at hn;unfold MN at hn;split at hn
    ·rename_i s' b' v k;split at hn
     ·split at hn
      ·simp at hn;subst hn;exact h.fx t _ c hx hc
      ·simp at hn;subst hn;exact h.fx t _ c hx hc
     ·simp at hn;subst hn;exact h.fx t _ c hx hc
    ·subst hn;exact h.fx t _ c hx hc
 refine⟨by simp [G6,h.len],fun t n hn=>?_,hfx⟩;unfold G6 at hn;by_cases ht:s=t
 ·subst ht;rw [List.getElem?_set_self'] at hn
  cases hx:(e.map (MN s b))[s]? with
  | none=>simp [hx] at hn
  | some y=>simp [hx] at hn;subst hn;exact hs
 ·rw [List.getElem?_set_ne ht,gmp] at hn
  cases hx:e[t]? with
  | none=>simp [hx] at hn
  | some y=>
   simp only [hx,Option.map_some,Option.some.injEq] at hn;unfold MN at hn;split at hn
   ·rename_i s' b' v k;have he:=h.ent _ _ hx;simp only [ET] at he;split at hn
    ·rename_i hs';have hs':s'=s:=by simpa using hs'
     subst hs';split at hn
     ·rename_i hb;have hb:b'=b:=by simpa using hb
      subst hb;simp at hn;subst hn;exact he.1 hs
     ·rename_i hb;have hb:b'≠b:=by simpa using hb
      simp at hn;subst hn;refine he.2 fun hh=>hb ?_;unfold AZ at hh hs;rw [hs] at hh;simpa using hh.symm
    ·simp at hn;subst hn;simpa only [ET] using he
   ·subst hn;exact h.ent _ _ hx
def O0(yes no:Env->Prop):Nat->Env->Nat×Bool->Prop
 | 0,_,_=>False
 | n+1,e,p=>
  match KI e p.1 with
  | some ⟨none,.bool b,_⟩=>
   (match p.2 with
    | true=>Wif b (yes (G6 e p.1 true)) (no (G6 e p.1 false))
    | false=>Wif b (no (G6 e p.1 true)) (yes (G6 e p.1 false)))
  | some ⟨none,.tuple _,_⟩=>no e
  | some ⟨some q,_,_⟩=>O0 (fun e'=>O0 yes no n e' p) no n e q
  | _=>False
theorem OU{yes no:Env->Prop}{a:Act}:∀(n:Nat) (e:Env) (p:Nat×Bool),BH e a->O0 yes no n e p->
 (AZ a.tmps p/\∃e',BH e' a/\yes e')\/(¬AZ a.tmps p/\∃e',BH e' a/\no e'):=by
 intro n
 induction n generalizing yes no with
 | zero=>intro e p _ h;exact h.elim
 | succ n ih=>
  intro e p ha h;obtain⟨s,want⟩:=p;unfold O0 at h;split at h
  ·rename_i b kk hb;have he:=ha.ent _ _ (DM hb);simp only [ET] at he;have hs:AZ a.tmps (s,b):=he;dsimp only at h;have hno:∀x y:Bool,x≠y->AZ a.tmps (s,x)->¬AZ a.tmps (s,y):=by
    intro x y hxy h1 h2;unfold AZ at h1 h2;rw [h1] at h2;simp at h2;exact hxy h2
   split at h
   ·rcases FV h with⟨rfl,h⟩|⟨rfl,h⟩
    ·exact .inl ⟨hs,_,ha.settle hs,h⟩
    ·exact .inr ⟨hno _ _ (by simp) hs,_,ha.settle hs,h⟩
   ·rcases FV h with⟨rfl,h⟩|⟨rfl,h⟩
    ·exact .inr ⟨hno _ _ (by simp) hs,_,ha.settle hs,h⟩
    ·exact .inl ⟨hs,_,ha.settle hs,h⟩
  ·rename_i vs kk hb;have he:=ha.ent _ _ (DM hb);simp only [ET] at he;refine .inr ⟨fun hh=>?_,e,ha,h⟩;unfold AZ at hh;rw [he] at hh;simp at hh
  ·rename_i q v kk hb;rcases ih e q ha h with⟨hq,e',ha',h⟩|⟨hq,e',ha',h⟩
   ·exact ih e' (s,want) ha' h
   ·refine .inr ⟨fun hh=>hq ?_,e',ha',h⟩;exact E1 ha 1 (s,want) hh q (by simp [DG,hb])
  ·exact h.elim
def OH(e:Env):Operand->Option Bool
 | .tmp t=>(match KI e t with|some ⟨_,_,k⟩=>k|none=>none)
 | .const (.bool b)=>some b
 | _=>none
theorem DV{e:Env}{a:Act}(h:BH e a){x:Operand}{b:Bool}(hx:OH e x=some b):a.eval x=.bool b:=by
 cases x with
 | tmp t=>
  simp only [OH] at hx;split at hx
  ·rename_i nd v k hk;have:=h.fx t _ b (DM hk) hx;unfold AZ at this;simp [Act.eval,this]
  ·cases hx
 | const v=>
  cases v <;> simp [OH] at hx
  subst hx;rfl
 | global g=>simp [OH] at hx
 | func f=>simp [OH] at hx
def gkn(e:Env):Nat->Nat×Bool->Option Bool
 | 0,_=>none
 | n+1,p=>
  match KI e p.1 with
  | some ⟨nd,_,some b⟩=>some (b==p.2)
  | some ⟨some q,_,none⟩=>(match gkn e n q with|some false=>some false|_=>none)
  | some ⟨none,.tuple _,none⟩=>some false
  | _=>none
theorem gkn_sound{e:Env}{a:Act}(h:BH e a):∀(n:Nat) (p:Nat×Bool) (r:Bool),gkn e n p=some r->(AZ a.tmps p↔r=true):=by
 intro n
 induction n with
 | zero=>intro p r hr;simp [gkn] at hr
 | succ n ih=>
  intro p r hr;unfold gkn at hr;split at hr
  ·rename_i nd v b hb;have:=h.fx _ _ b (DM hb) rfl;simp at hr;subst hr;unfold AZ at this ⊢;rw [this];simp
  ·rename_i q v hq;split at hr
   ·rename_i hf;simp at hr;subst hr;have hn:¬AZ a.tmps q:=fun hh=>by simpa using (ih _ _ hf).1 hh
    constructor
    ·intro hp;exact absurd (E1 h 1 p hp q (by simp [DG,hq])) hn
    ·intro hh;cases hh
   ·cases hr
  ·rename_i vs hq;simp at hr;subst hr;have he:=h.ent _ _ (DM hq);simp only [ET] at he;constructor
   ·intro hh;unfold AZ at hh;rw [he] at hh;simp at hh
   ·intro hh;cases hh
  ·cases hr
def fixE(e:Env)(d:Option Tmp)(k:Option Bool):Env:=
 match d,k with
 | some d,some b=>(match e[d]? with|some (some n)=>e.set d (some ⟨n.need,n.val,some b⟩)|_=>e)
 | _,_=>e
theorem BH.fixE{e:Env}{a:Act}(h:BH e a){d:Option Tmp}{k:Option Bool}(hk:∀t b,d=some t->k=some b->t<a.tmps.size->AZ a.tmps (t,b)):BH (Eng.fixE e d k) a:=by
 unfold Eng.fixE;split
 ·rename_i d b;split
  ·rename_i n hn;have hd:d<a.tmps.size:=by rw [<- h.len];exact(D5.1 hn).1
   refine⟨by simp [h.len],fun t m hm=>?_,fun t m c hm hc=>?_⟩
   ·by_cases ht:d=t
    ·subst ht;rw [List.getElem?_set_self'] at hm;simp [hn] at hm;subst hm;have:=h.ent _ _ hn;unfold ET at this ⊢;exact this
    ·rw [List.getElem?_set_ne ht] at hm;exact h.ent _ _ hm
   ·by_cases ht:d=t
    ·subst ht;rw [List.getElem?_set_self'] at hm;simp [hn] at hm;subst hm
     cases hc
     exact hk d b rfl rfl hd
    ·rw [List.getElem?_set_ne ht] at hm;exact h.fx _ _ _ hm hc
  ·exact h
 ·exact h
abbrev Hand:=FuncId->List Value->World->(Value->World->Prop)->Prop
def callB(P:Program)(f:FuncId):Bool:=
 match P.funcs[f]? with
 | some fn=>fn.body.isSome&&!(fn.name == "runtime.NumGoroutine")
 | none=>false
def FZ(P:Program)(H:Hand):Prop:=
 ∀f args w K,H f args w K->callB P f=true->Calls P f args.toArray w (fun e w'=>∃v,e=.returned v/\K v w')
def callRes(P:Program)(f:FuncId)(K:Value->World->Prop)(e:Ending)(w':World):Prop:=
 match P.funcs[f]? with
 | some fn=>retE P fn.resultTypes.toList fun v=>e=.returned v/\K v w'
 | none=>False
def H0(P:Program):Hand:=fun f args w K=>Calls P f args.toArray w (callRes P f K)
theorem HE(P:Program):FZ P (H0 P):=by
 intro f args w K h _;refine h.mono fun e w' he=>?_;unfold callRes at he;split at he
 ·obtain⟨v,h1,h2⟩:=O6 he;exact⟨v,h1,h2⟩
 ·exact he.elim
inductive AM (P:Program) (v:Value) (args:List Value) (w:World) (R:Ending->World->Prop):Prop
 | mk (f:FuncId) (a c:Array Value) (h1:v=.func (.func f) a c) (h2:callB P f=true) (h3:Calls P f (a++args.toArray++c) w R)
def resT(P:Program)(t:TypeId):List TypeId:=
 match P.underlying t with
 | some (.tuple ts)=>ts.toList
 | _=>[t]
def F0(w:World)(b o:Nat):List Value->World
 | []=>w
 | [v]=>st w b o v
 | v::v'::vs=>F0 (st w b o v) b (o+1) (v'::vs)
def DF(w:World)(b o:Nat):List Value->Prop
 | []=>True
 | [_]=>wr w b o
 | _::v'::vs=>wr w b o/\DF w b (o+1) (v'::vs)
def oneB:List Value->Bool
 | []=>true
 | v::vs=>v.oneCell'&&oneB vs
def I6(bytes:Nat)(l c:Int):Bool:=decide (0<=l/\l<=c/\(bytes:Int)*c<=281474976710656/\c<=9223372036854775807)
def HG(z:Array Value)(n:Nat):Array Value:=(Array.range n).map (z[· % z.size]!)
def DK(z:Array Value)(size n:Nat):Array Value:=
 match size,z.toList with
 | 1,[v]=>Array.replicate n v
 | _,_=>HG z (n*size)
structure BF(P:Program)(ts:Array TypeId)(ty:TypeId)(s x v:Value)(w w':World):Prop where
 run:(Builtin.append_ ts ty #[s,x]).run P w=.ok v w'
structure PM(P:Program)(ts:Array TypeId)(ty:TypeId)(s x v:Value)(w w':World):Prop where
 run:(Builtin.copy_ ts ty #[s,x]).run P w=.ok v w'
structure JA(P:Program)(ts:Array TypeId)(ty:TypeId)(s:Value)(w w':World):Prop where
 run:(Builtin.clear_ ts ty #[s]).run P w=.ok (.tuple #[]) w'
structure HS(P:Program)(ts:Array TypeId)(ty:TypeId)(m k:Value)(w w':World):Prop where
 run:(Builtin.delete_ ts ty #[m,k]).run P w=.ok (.tuple #[]) w'
structure EA(P:Program)(t:TypeId)(m k x:Value)(w w':World):Prop where
 run:(Instr.mapUpdate t m k x).run P w=.ok () w'
structure rngIs(P:Program)(t:TypeId)(x v:Value)(w w':World):Prop where
 run:(Instr.range t x).run P w=.ok v w'
structure KR(P:Program)(it:Value)(str:Bool)(ty:TypeId)(v:Value)(w w':World):Prop where
 run:(Instr.next it str ty).run P w=.ok v w'
def nextTys(P:Program)(ty:TypeId):Option (TypeId×TypeId):=
 match P.underlying ty with
 | some (.tuple ts)=>(match ts.toList with|[_,a,b]=>some (a,b)|_=>none)
 | _=>none
def eBuiltin(P:Program)(b:Builtin)(ts:Array TypeId)(ty:TypeId)(args:List Value)(w:World)(K:Value->World->Prop):Prop:=
 match b,args with
 | .append,[s,x]=>∃a:Option Addr,∃l c:Nat,∃w':World,BF P ts ty s x (.slice a l c) w w'/\K (.slice a l c) w'
 | .copy,[s,x]=>∃n:Int,∃w':World,PM P ts ty s x (.int .i64 n) w w'/\K (.int .i64 n) w'
 | .clear,[s]=>∃w':World,JA P ts ty s w w'/\K (.tuple #[]) w'
 | .delete,[m,k]=>∃w':World,HS P ts ty m k w w'/\K (.tuple #[]) w'
 | _,_=>False
theorem okF_cells{v:Value}(h:okF v=true):v.cells.toList=[v]/\oneB v.cells.toList=true:=by
 cases v <;> simp only [okF,Bool.false_eq_true] at h
 ·exact⟨rfl,rfl⟩
 ·exact⟨rfl,rfl⟩
def eOp (P:Program) (H:Hand) (ρ:Operand->Option Value) (o:Oper) (w:World) (K:Value->World->Prop):Prop:=
 match o.op with
 | .alloc t=>
  (match P.info? t with
   | some i=>(match i.zero with
    | some z=>∀w',w'=w.alloc (.cells z.cells t)->K (.pointer (some ⟨w.heap.size,0,none⟩)) w'
    | none=>False)
   | none=>False)
 | .box t x=>(match ρ x with|some v=>∀w',w'=w.alloc (.cells v.cells t)->K (.pointer (some ⟨w.heap.size,0,none⟩)) w'|none=>False)
 | .buildSlice t len parts=>
  (match P.underlying t,OB ρ parts.toList with
   | some (.slice e),some ps=>
    (match P.info? e with
     | some i=>
      (match i.zero,decide (len*i.size<=16777216) with
       | some z,true=>
        (match Instr.fill (fun j=>some (j*i.size,i.size)) (match decide (len*i.size=0) with|true=>#[]|false=>HG z.cells (len*i.size)) ps with
         | some cells=>∀w',w'=w.alloc (.cells cells e)->K (.slice (some ⟨w.heap.size,0,none⟩) len len) w'
         | none=>False)
       | _,_=>False)
     | none=>False)
   | _,_=>False)
 | .makeSlice t l c=>
  (match P.underlying t,ρ l,ρ c with
   | some (.slice e),some (.int _ l),some (.int _ c)=>
    (match P.info? e with
     | some i=>
      (match i.zero with
       | some z=>Wif (I6 i.bytes l c) (∀w',w'=w.alloc (.cells (DK z.cells i.size c.toNat) e)->K (.slice (some ⟨w.heap.size,0,none⟩) l.toNat c.toNat) w') False
       | none=>False)
     | none=>False)
   | _,_,_=>False)
 | .makeMap t r=>
  (match r with
   | none=>∀w',w'=w.alloc (.map #[] 0)->K (.map (some w.heap.size)) w'
   | some x=>(match P.underlying t,ρ x with
    | some (.map _ _),some (.int _ _)=>∀w',w'=w.alloc (.map #[] 0)->K (.map (some w.heap.size)) w'
    | _,_=>False))
 | .store t a x=>
  (match ρ a,ρ x with
   | some (.pointer p),some v=>
    (match funT P t with
     | true=>Wif (isP p&&okF v) (wr w (pb p) (po p)/\∀w',w'=st w (pb p) (po p) v->K undef w') False
     | false=>
      (match hasT P t&&v.cells.toList.length==szT P t with
       | true=>Wif (isP p&&oneB v.cells.toList) (DF w (pb p) (po p) v.cells.toList/\∀w',w'=F0 w (pb p) (po p) v.cells.toList->K undef w') False
       | false=>False))
   | _,_=>False)
 | .mapUpdate t m k x=>
  (match ρ m,ρ k,ρ x with
   | some m,some k,some x=>∃w':World,EA P t m k x w w'/\K undef w'
   | _,_,_=>False)
 | .range t x=>
  (match ρ x with
   | some x=>∃p:Option Addr,∃w':World,rngIs P t x (.pointer p) w w'/\K (.pointer p) w'
   | none=>False)
 | .next it str=>
  (match ρ it,nextTys P o.type with
   | some it, some (t1, t2) =>
    (∃ w' : World, KR P it str o.type (.tuple #[.bool false]) w w' /\ K (.tuple #[.bool false]) w') \/
    valE P t1 fun k=>valE P t2 fun v=>∃w':World,KR P it str o.type (.tuple #[.bool true,k,v]) w w'/\K (.tuple #[.bool true,k,v]) w'
   | some it,none=>
    (match str with
     | true=>(∃w':World,KR P it true o.type (.tuple #[.bool false]) w w'/\K (.tuple #[.bool false]) w')\/
      ∃k v:Int,∃w':World,KR P it true o.type (.tuple #[.bool true,.int .i64 k,.int .i32 v]) w w'/\K (.tuple #[.bool true,.int .i64 k,.int .i32 v]) w'
     | false=>(∃w':World,KR P it false o.type (.tuple #[.bool false]) w w'/\K (.tuple #[.bool false]) w')\/
      ∃k v:Value,∃w':World,KR P it false o.type (.tuple #[.bool true,k,v]) w w'/\K (.tuple #[.bool true,k,v]) w')
   | none,_=>False)
 | .call {callee:=.builtin b,args:=args,argTypes:=ts}=>
  (match ID ρ args.toList with|some vs=>eBuiltin P b ts o.type vs w K|none=>False)
 | .call {callee:=.value (.func f),args:=args,..}=>
  (match ID ρ args.toList,callB P f with
   | some vs,true=>H f vs w K
   | _,_=>False)
 | .call {callee:=.value x,args:=args,..}=>
  (match ρ x,ID ρ args.toList with
   | some (.func (.func f) a c),some vs=>(match callB P f with|true=>H f (a.toList++vs++c.toList) w K|false=>False)
   | some v,some vs=>AM P v vs w fun e w'=>retE P (resT P o.type) fun u=>e=.returned u/\K u w'
   | _,_=>False)
 | _=>False
section
variable {P:Program}{w:World}
theorem run_stores{b:Nat}:∀(vs:List Value) (o i:Nat) (w:World),oneB vs=true->DF w b (o+i) vs->
 (storeCells ⟨b,o,none⟩ vs i).run P w=.ok () (F0 w b (o+i) vs):=by
 intro vs
 induction vs with
 | nil=>intro o i w _ _;simp [storeCells,F0]
 | cons v vs ih=>
  intro o i w h1 hw;simp only [oneB,Bool.and_eq_true] at h1;have h1':v.oneCell'=true:=h1.1;have hone:wr w b (o+i):=by cases vs with|nil=>exact hw|cons y ys=>exact hw.1
  have hst:(store (Addr.add ⟨b,o,none⟩ i) v).run P w=.ok () (st w b (o+i) v):=by
   rw [Addr.add_lit,run_store P w _ v _ h1'];obtain⟨⟨u,hu⟩,hf⟩:=hone;unfold rd at hu;simp [hu,hf,st]
  simp only [storeCells,srb,hst,ato]
  cases vs with
  | nil=>simp [storeCells,F0]
  | cons y ys=>
   have hrest:DF (st w b (o+i) v) b (o+(i+1)) (y::ys):=by
    have h0:DF w b (o+i+1) (y::ys):=hw.2;have hkeep:∀(zs:List Value) (q:Nat),DF w b q zs->DF (st w b (o+i) v) b q zs:=by
     have h1:∀q,wr w b q->wr (st w b (o+i) v) b q:=by
      intro q ⟨⟨u,hu⟩,hf⟩;refine⟨?_,by simpa [st] using hf⟩;unfold rd at *;obtain⟨u',hu'⟩:=Go.RowKit.cell?_setCell_some (w:=w) (p:=⟨b,o+i,none⟩) (x:=v) (q:=⟨b,q,none⟩) (v:=u) hu;exact⟨u',hu'⟩
     intro zs
     induction zs with
     | nil=>intro q _;trivial
     | cons z zs ih2=>
      intro q hq
      cases zs with
      | nil=>exact h1 q hq
      | cons z' zs'=>exact⟨h1 q hq.1,ih2 (q+1) hq.2⟩
    exact hkeep _ _ h0
   rw [ih o (i+1) (st w b (o+i) v) h1.2 hrest]
   rfl
theorem OY{t:TypeId}{p:Option Addr}{v:Value}(hT:hasT P t=true)(hl:v.cells.toList.length=szT P t)(hp:isP p=true)(ho:oneB v.cells.toList=true)
 (hw:DF w (pb p) (po p) v.cells.toList):(Instr.storeAt t (.pointer p) v).run P w=.ok () (F0 w (pb p) (po p) v.cells.toList):=by
 obtain⟨i,hi,hs⟩:=PE hT;have hp':=GX hp;generalize pb p=b at *;generalize po p=o at *;subst hp';have hl':¬v.cells.size≠i.size:=by
  intro hne;exact hne (by rw [<- hs,<- hl];simp)
 simp only [Instr.storeAt,Instr.sureAddr,storeVar,srb,srp,ato,BY hi,if_neg hl'];exact run_stores _ o 0 w ho hw
theorem EF{f:FuncId}{args:Array Value}(h:callB P f=true):(callFunc f args).run P w=.ok (.enter f args) w:=by
 unfold callB at h;split at h
 ·rename_i fn hf;simp only [Bool.and_eq_true,Bool.not_eq_true',Option.isSome_iff_exists] at h;obtain⟨⟨c,hc⟩,hn⟩:=h;have hn':(fn.name == "runtime.NumGoroutine")=false:=by simpa using hn
  simp only [callFunc,srb,run_program,ato,hf];rw [hn',hc]
  rfl
 ·simp at h
theorem I0{t:TypeId}{i:TypeInfo}{z:Value}(hi:P.info? t=some i)(hz:i.zero=some z):(zeroValue t).run P w=.ok z w:=by
 simp [zeroValue,typeInfo,hi,hz]
theorem run_makeSlice{t e:TypeId}{i:TypeInfo}{z:Value}{k k':IntKind}{l c:Int}(hu:P.underlying t=some (.slice e))(hi:P.info? e=some i)(hz:i.zero=some z)(h:I6 i.bytes l c=true) :
 (Instr.makeSlice t (.int k l) (.int k' c)).run P w=.ok (.slice (some ⟨w.heap.size,0,none⟩) l.toNat c.toNat) (w.alloc (.cells (DK z.cells i.size c.toNat) e)):=by
 have h:=of_decide_eq_true h;obtain⟨h1,h2,h3,h4⟩:=h;have hl:IntKind.i64.wrap l=l:=IntWalk.i64_in _ (by omega);have hc:IntKind.i64.wrap c=c:=IntWalk.i64_in _ (by omega);have hti:(typeInfo e).run P w=.ok i w:=by simp [typeInfo,hi]
 simp only [Instr.makeSlice,srb,run_underlying hu,ato,asInt,asIntOf,srp,hti,hl,hc,Sem.run_ite];have hcond:¬((c<0||(i.bytes:Int)*c>2^48)||l<0||l>c)=true:=by
  simp only [Bool.or_eq_true,decide_eq_true_eq];omega
 rw [if_neg (by simpa using hcond)];simp only [ato,run_askRoom,BY hi];have hrow:∀zz:Array Value,(newRow e zz).run P w=.ok ⟨w.heap.size,0,none⟩ (w.alloc (.cells zz e)):=by
  intro zz;simp [newRow]
 by_cases hn:c.toNat*i.size=0
 ·have hm:DK z.cells i.size c.toNat=#[]:=by
   unfold DK;split
   ·rename_i h1 h2;rw [h1] at hn;have:c.toNat=0:=by omega
    rw [this];rfl
   ·rw [hn];simp [HG,Array.range_zero']
  rw [if_pos hn];simp only [ato,hn,hrow,hm];simp [Array.range_zero']
 ·rw [if_neg hn];simp only [I0 hi hz,ato,hrow];congr 3;unfold DK;split
  ·rename_i v h1 h2;have hz1:z.cells=#[v]:=by apply Array.toList_inj.1;rw [h2]
   rw [h1,hz1];apply Array.ext';simp;apply List.ext_getElem
   ·simp
   ·intro n h1 h2;simp [Nat.mod_one]
  ·rfl
theorem eOp_sound{H:Hand}(hH:FZ P H){ρ:Operand->Option Value}{a:Act}(hρ:∀x u,ρ x=some u->a.eval x=u){o:Oper}{K:Value->World->Prop}
 (h:eOp P H ρ o w K) {next:Act->World->Prop}{Q:Exit->Act->World->Prop} (hK:∀v w',K v w'->next (a.put o.dst v) w'):o.wp P a w next Q:=by
 unfold Oper.wp;unfold eOp at h;split at h
 ·rename_i t ho;split at h
  ·rename_i i hi;split at h
   ·rename_i z hz;simp only [execOp,ho,Instr.alloc,srb,I0 hi hz,ato,newVar,newRow,srp,run_newObj,World.alloc_eq];exact hK _ _ (h _ rfl)
   ·exact h.elim
  ·exact h.elim
 ·rename_i t x ho;split at h
  ·rename_i v hx;simp only [execOp,ho,Instr.box,srb,ato,newVar,newRow,srp,run_newObj,World.alloc_eq,hρ _ _ hx];exact hK _ _ (h _ rfl)
  ·exact h.elim
 ·rename_i t len parts ho;split at h
  ·rename_i e ps hu hps;split at h
   ·rename_i i hi;split at h
    ·rename_i z hz hsm;have hsm:=of_decide_eq_true hsm;split at h
     ·rename_i cells hcells;have hp:=JJ hρ hps;have hpl:(Array.map (fun x=>(x.1,a.eval x.2)) parts).toList=ps:=by rw [Array.toList_map,hp]
      simp only [execOp,ho,Instr.buildSlice,srb,run_underlying hu,ato,BY hi,Sem.run_ite];rw [if_neg (by omega)];simp only [srp,ato];by_cases h0:len*i.size=0
      ·rw [if_pos h0];simp only [decide_eq_true h0] at hcells;simp only [h0];have:(Array.map (fun x=>(#[]:Array Value)[x%(#[]:Array Value).size]!) (Array.range 0))=#[]:=by simp [Array.range_zero']
       simp only [this,hpl,hcells];simp only [newRow,srb,run_newObj,ato,srp,World.alloc_eq];exact hK _ _ (h _ rfl)
      ·rw [if_neg h0];simp only [decide_eq_false h0] at hcells;simp only [ato,I0 hi hz];unfold HG at hcells;simp only [hpl,hcells];simp only [newRow,srb,run_newObj,ato,srp,World.alloc_eq];exact hK _ _ (h _ rfl)
     ·exact h.elim
    ·exact h.elim
   ·exact h.elim
  ·exact h.elim
 ·rename_i t l c ho;split at h
  ·rename_i e k l' k' c' hu hl hc;split at h
   ·rename_i i hi;split at h
    ·rename_i z hz;rcases FV h with⟨hok,h⟩|⟨_,h⟩
     ·simp only [execOp,ho,hρ _ _ hl,hρ _ _ hc,srb,run_makeSlice hu hi hz hok,ato,srp];exact hK _ _ (h _ rfl)
     ·exact h.elim
    ·exact h.elim
   ·exact h.elim
  ·exact h.elim
 ·rename_i t r ho;split at h
  ·simp only [execOp,ho,Option.map_none,Instr.makeMap,srb,srp,ato,run_newObj,World.alloc_eq];exact hK _ _ (h _ rfl)
  ·rename_i x;split at h
   ·rename_i hu hx;simp only [execOp,ho,Option.map_some,Instr.makeMap,srb,srp,ato,run_newObj,World.alloc_eq,run_underlying hu,hρ _ _ hx,asInt,asIntOf];exact hK _ _ (h _ rfl)
   ·exact h.elim
 ·rename_i t x y ho;split at h
  ·rename_i p v hx hy;split at h
   ·rename_i hF;obtain⟨h1,h2⟩:=funT_sz hF;rcases FV h with⟨hb,h⟩|⟨_,h⟩
    ·simp only [Bool.and_eq_true] at hb;obtain⟨c1,c2⟩:=okF_cells hb.2;have hr:=OY (P:=P) (w:=w) (v:=v) h1 (by rw [c1,h2];rfl) hb.1 c2 (by rw [c1];exact h.1);rw [c1] at hr;simp only [execOp,ho,hρ _ _ hx,hρ _ _ hy,srb,hr,ato,srp];exact hK _ _ (h.2 _ rfl)
    ·exact h.elim
   ·split at h
    ·rename_i hT;simp only [Bool.and_eq_true,beq_iff_eq] at hT;rcases FV h with⟨hb,h⟩|⟨_,h⟩
     ·simp only [Bool.and_eq_true] at hb;simp only [execOp,ho,hρ _ _ hx,hρ _ _ hy,srb,OY hT.1 hT.2 hb.1 hb.2 h.1,ato,srp];exact hK _ _ (h.2 _ rfl)
     ·exact h.elim
    ·exact h.elim
  ·exact h.elim
 ·rename_i t m k x ho;split at h
  ·rename_i m' k' x' hm hk hx;obtain⟨w',hu,h⟩:=h;replace hu:=hu.run;simp only [execOp,ho,hρ _ _ hm,hρ _ _ hk,hρ _ _ hx,srb,hu,ato,srp];exact hK _ _ h
  ·exact h.elim
 ·rename_i t x ho;split at h
  ·rename_i x' hx;obtain⟨p,w',hu,h⟩:=h;replace hu:=hu.run;simp only [execOp,ho,hρ _ _ hx,srb,hu,ato,srp];exact hK _ _ h
  ·exact h.elim
 ·rename_i it str ho;split at h
  ·rename_i it' t1 t2 hx hu;rcases h with⟨w',hu,h⟩|h
   ·replace hu:=hu.run;simp only [execOp,ho,hρ _ _ hx,srb,hu,ato,srp];exact hK _ _ h
   ·obtain⟨k,h⟩:=JU h;obtain⟨v,h⟩:=JU h;obtain⟨w',hu,h⟩:=h;replace hu:=hu.run;simp only [execOp,ho,hρ _ _ hx,srb,hu,ato,srp];exact hK _ _ h
  ·rename_i it' hx hnt;split at h
   all_goals
    rcases h with⟨w',hu,h⟩|⟨k,v,w',hu,h⟩
    ·replace hu:=hu.run;simp only [execOp,ho,hρ _ _ hx,srb,hu,ato,srp];exact hK _ _ h
    ·replace hu:=hu.run;simp only [execOp,ho,hρ _ _ hx,srb,hu,ato,srp];exact hK _ _ h
  ·exact h.elim
 ·rename_i b args ts ho;split at h
  ·rename_i vs hvs;have h1:args.map a.eval=vs.toArray:=by rw [<- CX hρ hvs,<- Array.toList_map]
   simp only [execOp,ho,resolve,srb,srp,ato,invoke,h1];unfold eBuiltin at h;split at h
   ·obtain⟨p,l,c,w',hu,h⟩:=h;replace hu:=hu.run;simp only [builtin,srb,hu,ato,srp];exact hK _ _ h
   ·obtain⟨n,w',hu,h⟩:=h;replace hu:=hu.run;simp only [builtin,srb,hu,ato,srp];exact hK _ _ h
   ·obtain⟨w',hu,h⟩:=h;replace hu:=hu.run;simp only [builtin,srb,hu,ato,srp];exact hK _ _ h
   ·obtain⟨w',hu,h⟩:=h;replace hu:=hu.run;simp only [builtin,srb,hu,ato,srp];exact hK _ _ h
   ·exact h.elim
  ·exact h.elim
 ·rename_i f args ts ho;split at h
  ·rename_i vs hvs hcb;have h1:args.map a.eval=vs.toArray:=by rw [<- CX hρ hvs,<- Array.toList_map]
   simp only [execOp,ho,resolve,Act.eval,Deferred.ofValue,srb,srp,ato,invoke,h1,Array.empty_append,Array.append_empty,EF hcb];rw [Oper.upon_enter];refine(hH f vs w K h hcb).mono fun e w' he=>?_;obtain⟨v,rfl,hk⟩:=he;exact hK _ _ hk
  ·exact h.elim
 ·rename_i x args ts hnf ho;split at h
  ·rename_i f p c vs hx hvs;have h1:args.map a.eval=vs.toArray:=by rw [<- CX hρ hvs,<- Array.toList_map]
   split at h
   ·rename_i hcb;simp only [execOp,ho,resolve,hρ _ _ hx,Deferred.ofValue,srb,srp,ato,invoke,h1,EF hcb];rw [Oper.upon_enter];have hargs:p++vs.toArray++c=(p.toList++vs++c.toList).toArray:=by apply Array.ext';simp
    rw [hargs];refine(hH f _ w K h hcb).mono fun e w' he=>?_;obtain⟨v,rfl,hk⟩:=he;exact hK _ _ hk
   ·exact h.elim
  ·rename_i v vs _ hx hvs;have h1:args.map a.eval=vs.toArray:=by rw [<- CX hρ hvs,<- Array.toList_map]
   obtain⟨f,p,c,rfl,hcb,h⟩:=h;simp only [execOp,ho,resolve,hρ _ _ hx,Deferred.ofValue,srb,srp,ato,invoke,h1,EF hcb];rw [Oper.upon_enter];refine h.mono fun e w' he=>?_;obtain⟨v,rfl,hk⟩:=O6 he;exact hK _ _ hk
  ·exact h.elim
 ·exact h.elim
end
def pickV0(e:Env)(cx:List (Nat×Bool))(c x y:Operand):Option Value:=
 match c with
 | .tmp s=>
  (match rdO cx e (.tmp s) with
   | some (.bool bc)=>
    (match rdO (DG e 8 (s,true)++cx) e x,rdO (DG e 8 (s,false)++cx) e y with
     | some (.bool p),some (.bool q)=>
      (match x,y with
       | .const (.bool true),_=>some (.bool (bc||q))
       | _,.const (.bool false)=>some (.bool (bc&&p))
       | _,_=>some (.bool (cond bc p q)))
     | some u,some v=>(match bc with|true=>some u|false=>some v)
     | some u,none=>(match bc with|true=>some u|false=>none)
     | none,some v=>(match bc with|true=>none|false=>some v)
     | none,none=>none)
   | _=>none)
 | _=>none
def pickV(e:Env)(cx:List (Nat×Bool))(c x y:Operand):Option Value:=
 match OH e c with
 | some true=>rdO cx e x
 | some false=>rdO cx e y
 | none=>pickV0 e cx c x y
theorem pickV0_sound{e:Env}{a:Act}{cx:List (Nat×Bool)}(h:BH e a)(hcx:∀p∈cx,AZ a.tmps p){c x y:Operand}{v:Value}(hv:pickV0 e cx c x y=some v) :
 ∃bc,a.eval c=.bool bc/\v=(if bc then a.eval x else a.eval y):=by
 unfold pickV0 at hv;split at hv
 ·rename_i s;split at hv
  ·rename_i bc hbc;have hc:=BV h hcx _ _ hbc;have hs:AZ a.tmps (s,bc):=by
    simp only [Act.eval] at hc;unfold AZ;rw [Array.getD_eq_getD_getElem?] at hc
    cases hx:a.tmps[s]? with
    | none=>rw [hx] at hc;simp [undef] at hc
    | some u=>rw [hx] at hc;simp at hc;simp [hc]
   refine⟨bc,hc,?_⟩;have hx:bc=true->∀u,rdO (DG e 8 (s,true)++cx) e x=some u->a.eval x=u:=by
    intro hb u hu;subst hb;refine BV h (fun p hp=>?_) _ _ hu;rcases List.mem_append.1 hp with hp|hp
    ·exact E1 h _ _ hs _ hp
    ·exact hcx _ hp
   have hy:bc=false->∀u,rdO (DG e 8 (s,false)++cx) e y=some u->a.eval y=u:=by
    intro hb u hu;subst hb;refine BV h (fun p hp=>?_) _ _ hu;rcases List.mem_append.1 hp with hp|hp
    ·exact E1 h _ _ hs _ hp
    ·exact hcx _ hp
   split at hv
   ·rename_i p q hp hq;split at hv
    ·simp at hv;subst hv
     cases bc
     ·simp [hy rfl _ hq]
     ·simp [Act.eval]
    ·simp at hv;subst hv
     cases bc
     ·simp [Act.eval]
     ·simp [hx rfl _ hp]
    ·simp at hv;subst hv
     cases bc
     ·simp [hy rfl _ hq]
     ·simp [hx rfl _ hp]
   ·rename_i u v' _ hu hv'
    cases bc
    ·simp at hv;subst hv;simp [hy rfl _ hv']
    ·simp at hv;subst hv;simp [hx rfl _ hu]
   ·rename_i u hu hn
    cases bc
    ·simp at hv
    ·simp at hv;subst hv;simp [hx rfl _ hu]
   ·rename_i v' hn hv'
    cases bc
    ·simp at hv;subst hv;simp [hy rfl _ hv']
    ·simp at hv
   ·simp at hv
  ·simp at hv
 ·simp at hv
theorem P5{e:Env}{a:Act}{cx:List (Nat×Bool)}(h:BH e a)(hcx:∀p∈cx,AZ a.tmps p){c x y:Operand}{v:Value}(hv:pickV e cx c x y=some v) :
 ∃bc,a.eval c=.bool bc/\v=(if bc then a.eval x else a.eval y):=by
 unfold pickV at hv;split at hv
 ·rename_i hb;exact⟨true,DV h hb,by rw [if_pos rfl];exact(BV h hcx _ _ hv).symm⟩
 ·rename_i hb;exact⟨false,DV h hb,by rw [if_neg (by simp)];exact(BV h hcx _ _ hv).symm⟩
 ·exact pickV0_sound h hcx hv
def BU.noR:BU->Bool
 | .fail=>true
 | .ret _=>true
 | .chk _ r=>r.noR
 | .rdc _ _=>false
 | .ex _=>false
theorem BU.noR_spec{r:BU}{c:World->Prop}{v:Value}(h:Spec r c v)(hn:r.noR=true):∀w,c w:=by
 induction h with
 | ret v=>intro w;trivial
 | chk _ ih=>exact ih hn
 | rdc _ _=>simp [BU.noR] at hn
 | ex _ _ _=>simp [BU.noR] at hn
def opF(e:Env)(o:Oper):Option Bool:=
 match o.op with
 | .move x=>OH e x
 | .assign x=>OH e x
 | .unOp .not _ x=>(OH e x).map not
 | _=>none
def pickF(e:Env)(c x y:Operand):Option Bool:=
 match OH e c with
 | some true=>OH e x
 | some false=>OH e y
 | none=>none
def MD(P:Program)(τ:Nat->Option TypeId)(e:Env)(o:Oper)(g:Option (Nat×Bool))(w:World)(next:Env->Option (World->Prop)->Prop):Prop:=
 match o.op with
 | .pick c x y=>
  (match g with
   | none=>(match pickV e [] c x y with|some v=>next (fixE (I1 e o.dst ⟨none,v,none⟩) o.dst (pickF e c x y)) none|none=>False)
   | some p=>(match pickV e (DG e 8 p) c x y with|some v=>next (I1 e o.dst ⟨some p,v,none⟩) none|none=>(PQ e 8 p->False)/\next (I1 e o.dst ⟨some p,undef,none⟩) none))
 | _=>
  match g with
  | none=>
   (match (qOp P τ (rdO [] e) o).noR with
    | true=>(qOp P τ (rdO [] e) o).den w (fun v _=>next (fixE (I1 e o.dst ⟨none,v,none⟩) o.dst (opF e o)) none) (fun _=>True)
    | false=>(qOp P τ (rdO [] e) o).den w (fun v c=>next (fixE (I1 e o.dst ⟨none,v,none⟩) o.dst (opF e o)) (some c)) (fun _=>True))
  | some p=>
   (match (qOp P τ (rdO (DG e 8 p) e) o).noR with
    | true=>(qOp P τ (rdO (DG e 8 p) e) o).denIf (PQ e 8 p) w (fun v _=>next (I1 e o.dst ⟨some p,v,none⟩) none) (fun _=>True)
    | false=>(qOp P τ (rdO (DG e 8 p) e) o).denIf (PQ e 8 p) w (fun v c=>next (I1 e o.dst ⟨some p,v,none⟩) (some fun w'=>PQ e 8 p->c w')) (fun _=>True))
def wQuiet(P:Program)(τ:Nat->Option TypeId)(e:Env)(o:Oper)(g:Option (Nat×Bool))(w:World)(next:Env->Option (World->Prop)->Prop):Prop:=
 match g with
 | none=>MD P τ e o none w next
 | some p=>match gkn e 8 p with
  | some true=>MD P τ e o none w next
  | some false=>next (I1 e o.dst ⟨none,undef,none⟩) none
  | none=>MD P τ e o (some p) w next
def quietB(P:Program)(op:Op):Bool:=
 match op with
 | .pick _ _ _=>true
 | op=>quiet P op
def LJ(ops:List Oper)(o:Oper):Option (Option (Nat×Bool)):=
 match o.guard with
 | none=>some none
 | some (j,want)=>
  match ops[j]? with
  | some oj=>(match oj.dst with|some s=>some (some (s,want))|none=>none)
  | none=>none
def SOf:Option (World->Prop)->World->Prop
 | none,_=>True
 | some c,w=>c w
theorem FE{ops:List Oper}{o:Oper}{g:Option (Nat×Bool)}(hg:LJ ops o=some g)(a:Act) :
 Region.wanted o (yielded ops.toArray a.tmps)=true↔(match g with|none=>True|some p=>AZ a.tmps p):=by
 unfold LJ at hg;split at hg
 ·rename_i h0;simp at hg;subst hg;simp [Region.wanted,h0]
 ·rename_i j want h0;split at hg
  ·rename_i oj hj;split at hg
   ·rename_i s hs;simp at hg;subst hg;have hj':ops.toArray[j]? = some oj:=by simpa using hj
    simp only [Region.wanted,h0,yielded,hj',hs,Option.bind_some,AZ];split
    ·rename_i b hb;rw [hb];simp
    ·rename_i hnb;constructor
     ·intro h;simp at h
     ·intro h;exact absurd h (hnb _)
   ·simp at hg
  ·simp at hg
theorem opF_sound{P:Program}{e:Env}{a:Act}(h:BH e a){o:Oper}{v:Value}{w:World}{b:Bool}(hr:(execOp a.eval o).run P w=.ok (.value v) w)(hb:opF e o=some b):v=.bool b:=by
 unfold opF at hb;split at hb
 ·rename_i x ho;have:=DV h hb;simp [execOp,ho,this] at hr;exact hr.symm
 ·rename_i x ho;have:=DV h hb;simp [execOp,ho,this] at hr;exact hr.symm
 ·rename_i t x ho
  cases hx:OH e x with
  | none=>rw [hx] at hb;cases hb
  | some c=>
   rw [hx] at hb;simp at hb;have:=DV h hx;simp [execOp,ho,this,Op.unary] at hr;rw [<- hr,hb];simp
 ·cases hb
theorem put_opF{P:Program}{e:Env}{a:Act}(h:BH e a){o:Oper}{v:Value}{w:World}(hr:(execOp a.eval o).run P w=.ok (.value v) w):BH (fixE (I1 e o.dst ⟨none,v,none⟩) o.dst (opF e o)) (a.put o.dst v):=by
 refine(h.put _ ⟨none,v,none⟩ rfl).fixE fun t b ht hb hlt=>?_;have h3:=opF_sound h hr hb;unfold AZ;rw [ht] at hlt ⊢;simp only [Act.put] at hlt ⊢;have hlt':t<a.tmps.size:=by simpa using hlt
 simp [hlt',h3]
theorem HZ{P:Program}{τ:Nat->Option TypeId}{ops:List Oper}{e:Env}{a:Act}{o:Oper}{g:Option (Nat×Bool)}{w:World}{next:Env->Option (World->Prop)->Prop}
 (h:BH e a) (hwi:Region.wanted o (yielded ops.toArray a.tmps)=true↔(match g with|none=>True|some p=>AZ a.tmps p)) (hw:MD P τ e o g w next) :
 ∃v e' c,next e' c/\SOf c w/\BH e' (a.put o.dst v)/\
  ((Region.wanted o (yielded ops.toArray a.tmps)=true/\∀w',SOf c w'->(execOp a.eval o).run P w'=.ok (.value v) w')\/
   (Region.wanted o (yielded ops.toArray a.tmps)=false/\v=undef)):=by
 have hH:∀p,AZ a.tmps p->∀q∈DG e 8 p,AZ a.tmps q:=fun p hp=>E1 h 8 p hp;unfold MD at hw;split at hw
 ·rename_i c x y ho;have hrun:∀v w',(∃bc,a.eval c=.bool bc/\v=(if bc then a.eval x else a.eval y))->(execOp a.eval o).run P w'=.ok (.value v) w':=by
   rintro v w' ⟨bc,h1,rfl⟩;simp only [execOp,ho,h1,asBool,srb,srp,ato]
  split at hw
  ·split at hw
   ·rename_i v hv;have hp:=P5 h (by simp) hv;refine⟨v,_,none,hw,trivial,(h.put _ ⟨none,v,none⟩ rfl).fixE fun t b ht hb hlt=>?_,.inl ⟨hwi.2 trivial,fun w' _=>hrun v w' hp⟩⟩;obtain⟨bc,h1,h2⟩:=hp;have h3:v=.bool b:=by
     unfold pickF at hb;split at hb
     ·rename_i hc;have:=DV h hc;rw [this] at h1
      cases h1
      rw [h2,if_pos rfl];exact DV h hb
     ·rename_i hc;have:=DV h hc;rw [this] at h1
      cases h1
      rw [h2,if_neg (by simp)];exact DV h hb
     ·cases hb
    unfold AZ;rw [ht] at hlt ⊢;simp only [Act.put] at hlt ⊢;have hlt':t<a.tmps.size:=by simpa using hlt
    simp [hlt',h3]
   ·exact hw.elim
  ·rename_i p;split at hw
   ·rename_i v hv;by_cases hp:AZ a.tmps p
    ·have hpk:=P5 h (hH p hp) hv;exact⟨v,_,none,hw,trivial,h.put _ ⟨some p,v,none⟩ ⟨fun _=>rfl,fun hn=>absurd hp hn⟩,.inl ⟨hwi.2 hp,fun w' _=>hrun v w' hpk⟩⟩
    ·refine⟨undef,_,none,hw,trivial,h.put _ ⟨some p,v,none⟩ ⟨fun hx=>absurd hx hp,fun _=>rfl⟩,.inr ⟨?_,rfl⟩⟩
     cases hx:Region.wanted o (yielded ops.toArray a.tmps) with
     | false=>rfl
     | true=>exact absurd (hwi.1 hx) hp
   ·have hp:¬AZ a.tmps p:=fun hp=>hw.1 (condF_of h 8 p hp);refine⟨undef,_,none,hw.2,trivial,h.put _ ⟨some p,undef,none⟩ ⟨fun hx=>absurd hx hp,fun _=>rfl⟩,.inr ⟨?_,rfl⟩⟩
    cases hx:Region.wanted o (yielded ops.toArray a.tmps) with
    | false=>rfl
    | true=>exact absurd (hwi.1 hx) hp
 ·split at hw
  ·have hρ:=BV h (cx:=[]) (by simp);split at hw
   ·rename_i hn;obtain⟨v,c',hs,hc,c'',hnx,_⟩:=BU.NN hw;exact⟨v,_,none,hnx,trivial,put_opF h (FG (w:=w) hρ hs (BU.noR_spec hs hn w)),.inl ⟨hwi.2 trivial,fun w' _=>FG hρ hs (BU.noR_spec hs hn w')⟩⟩
   ·obtain⟨v,c',hs,hc,c'',hnx,hcc⟩:=BU.NN hw;exact⟨v,_,some c'',hnx,(hcc w).1 ⟨hc,trivial⟩,put_opF h (FG (w:=w) hρ hs hc),.inl ⟨hwi.2 trivial,fun w' hw'=>FG hρ hs ((hcc w').2 hw').1⟩⟩
  ·rename_i p;split at hw
   ·rename_i hn;obtain⟨v,c'',hnx,hs⟩:=BU.denIf_spec hw;by_cases hp:AZ a.tmps p
    ·have hρ:=BV h (hH p hp);obtain⟨c',hs,hc,hcc⟩:=hs (condF_of h 8 p hp);exact⟨v,_,none,hnx,trivial,h.put _ ⟨some p,v,none⟩ ⟨fun _=>rfl,fun hn=>absurd hp hn⟩,.inl ⟨hwi.2 hp,fun w' _=>FG hρ hs (BU.noR_spec hs hn w')⟩⟩
    ·refine⟨undef,_,none,hnx,trivial,h.put _ ⟨some p,v,none⟩ ⟨fun hx=>absurd hx hp,fun _=>rfl⟩,.inr ⟨?_,rfl⟩⟩
     cases hx:Region.wanted o (yielded ops.toArray a.tmps) with
     | false=>rfl
     | true=>exact absurd (hwi.1 hx) hp
   ·obtain⟨v,c'',hnx,hs⟩:=BU.denIf_spec hw;by_cases hp:AZ a.tmps p
    ·have hρ:=BV h (hH p hp);have hC:=condF_of h 8 p hp;obtain⟨c',hs,hc,hcc⟩:=hs hC;refine⟨v,_,_,hnx,fun _=>(hcc w).1 ⟨hc,trivial⟩,h.put _ ⟨some p,v,none⟩ ⟨fun _=>rfl,fun hn=>absurd hp hn⟩,.inl ⟨hwi.2 hp,fun w' hw'=>?_⟩⟩;exact FG hρ hs ((hcc w').2 (hw' hC)).1
    ·by_cases hC:PQ e 8 p
     ·obtain⟨c',hs,hc,hcc⟩:=hs hC;refine⟨undef,_,_,hnx,fun _=>(hcc w).1 ⟨hc,trivial⟩,h.put _ ⟨some p,v,none⟩ ⟨fun hx=>absurd hx hp,fun _=>rfl⟩,.inr ⟨?_,rfl⟩⟩
      cases hx:Region.wanted o (yielded ops.toArray a.tmps) with
      | false=>rfl
      | true=>exact absurd (hwi.1 hx) hp
     ·refine⟨undef,_,_,hnx,fun hx=>absurd hx hC,h.put _ ⟨some p,v,none⟩ ⟨fun hx=>absurd hx hp,fun _=>rfl⟩,.inr ⟨?_,rfl⟩⟩
      cases hx:Region.wanted o (yielded ops.toArray a.tmps) with
      | false=>rfl
      | true=>exact absurd (hwi.1 hx) hp
theorem MC{P:Program}{τ:Nat->Option TypeId}{ops:List Oper}{e:Env}{a:Act}{o:Oper}{g:Option (Nat×Bool)}{w:World}{next:Env->Option (World->Prop)->Prop}
 (h:BH e a) (hg:LJ ops o=some g) (hw:wQuiet P τ e o g w next) :
 ∃v e' c,next e' c/\SOf c w/\BH e' (a.put o.dst v)/\
  ((Region.wanted o (yielded ops.toArray a.tmps)=true/\∀w',SOf c w'->(execOp a.eval o).run P w'=.ok (.value v) w')\/
   (Region.wanted o (yielded ops.toArray a.tmps)=false/\v=undef)):=by
 have hwi:=FE hg a;unfold wQuiet at hw;split at hw
 ·exact HZ h (g:=none) hwi hw
 ·rename_i p;split at hw
  ·rename_i hk;have:=(gkn_sound h _ _ _ hk).2 rfl;exact HZ h (g:=none) ⟨fun _=>trivial,fun _=>hwi.2 this⟩ hw
  ·rename_i hk;have hn:¬AZ a.tmps p:=fun hh=>by simpa using (gkn_sound h _ _ _ hk).1 hh
   refine⟨undef,_,none,hw,trivial,h.put _ _ rfl,.inr ⟨?_,rfl⟩⟩
   cases hx:Region.wanted o (yielded ops.toArray a.tmps) with
   | false=>rfl
   | true=>exact absurd (hwi.1 hx) hn
  ·exact HZ h (g:=some p) hwi hw
end Go.Eng
