/- Part of an engine. Proved: its laws. Conditions: those in each theorem. -/
import Derived.Test.YtdgbechegbmpcaaGreatDoorEngA
import Derived.RowKit
set_option linter.unusedSimpArgs false
set_option linter.unusedVariables false
namespace Go.Eng
structure Ent where
 need:Option (Nat×Bool)
 val:Value
 fix:Option Bool
abbrev Env:=List (Option Ent)
def BF(ts:Array Value)(p:Nat×Bool):Prop:=ts[p.1]? = some (.bool p.2)
def EV(ts:Array Value)(t:Nat)(n:Ent):Prop:=
 match n.need with
 | none=>ts[t]? = some n.val
 | some p=>(BF ts p->ts[t]? = some n.val)/\(¬BF ts p->ts[t]? = some undef)
structure BN(e:Env)(a:Act):Prop where
 len:e.length=a.tmps.size
 ent:∀t n,e[t]? = some (some n)->EV a.tmps t n
 fx:∀t n b,e[t]? = some (some n)->n.fix=some b->BF a.tmps (t,b)
def LC(e:Env)(t:Nat):Option Ent:=
 match e[t]? with
 | some (some n)=>some n
 | _=>none
def IW(d:Nat):Option Ent->Option Ent
 | some ⟨some (s,b),v,k⟩=>(match s==d with|true=>none|false=>some ⟨some (s,b),v,k⟩)
 | x=>x
def IT(e:Env)(d:Option Tmp)(n:Ent):Env:=
 match d with
 | none=>e
 | some d=>
  match n.need with
  | none=>(e.map (IW d)).set d (some n)
  | some (s,_)=>
   match s==d with
   | true=>(e.map (IW d)).set d none
   | false=>(e.map (IW d)).set d (some n)
theorem DP{e:Env}{t:Nat}{n:Ent}(h:LC e t=some n):e[t]? = some (some n):=by
 unfold LC at h;split at h
 .rename_i m hm;simp at h;subst h;exact hm
 .simp at h
theorem QV{d:Nat}{x:Option Ent}{n:Ent}(h:IW d x=some n):x=some n/\∀p,n.need=some p->p.1≠d:=by
 unfold IW at h;split at h
 .rename_i s b v k;split at h
  .simp at h
  .rename_i hs;simp at h;subst h;refine⟨rfl,λp hp=>?_⟩;simp at hp;subst hp;simpa using hs
 .rename_i hn;subst h;refine⟨rfl,λp hp=>?_⟩;obtain⟨nd,v,k⟩:=n;simp at hp;subst hp;obtain⟨s,b⟩:=p;exact absurd rfl (hn s b v k)
theorem MU{a:Act}{d:Nat}{v:Value}{p:Nat×Bool}(h:p.1≠d):BF (a.put (some d) v).tmps p↔BF a.tmps p:=by
 simp [BF,Act.put,Array.getElem?_setIfInBounds_ne (Ne.symm h)]
theorem RO{a:Act}{d t:Nat}{v:Value}{n:Ent}(h:EV a.tmps t n)(ht:t≠d)(hn:∀p,n.need=some p->p.1≠d):EV (a.put (some d) v).tmps t n:=by
 unfold EV at *;have hg:(a.put (some d) v).tmps[t]? = a.tmps[t]? := by simp [Act.put,Array.getElem?_setIfInBounds_ne (Ne.symm ht)]
 split
 .rename_i h0;rw [h0] at h;rw [hg];exact h
 .rename_i p h0;rw [h0] at h;rw [hg,MU (hn p h0)];exact h
theorem BN.put{e:Env}{a:Act}(h:BN e a)(d:Option Tmp)(n:Ent){v:Value}
 (hv:match n.need with
  | none=>v=n.val
  | some p=>(BF a.tmps p->v=n.val)/\(¬BF a.tmps p->v=undef)) (hfn:n.fix=none:=by rfl):BN (IT e d n) (a.put d v):=by
 cases d with
 | none=>exact h
 | some d=>
  have hlen:∀x:Option Ent,((e.map (IW d)).set d x).length=(a.put (some d) v).tmps.size:=by
   intro x;simp [Act.put,h.len]
  have hoth:∀(x:Option Ent) t m,((e.map (IW d)).set d x)[t]? = some (some m)->t≠d->EV (a.put (some d) v).tmps t m:=by
   intro x t m hm ht;rw [List.getElem?_set_ne (Ne.symm ht),gmp] at hm
   cases hx:e[t]? with
   | none=>simp [hx] at hm
   | some y=>
    simp only [hx,Option.map_some,Option.some.injEq] at hm;obtain⟨rfl,hn⟩:=QV hm;exact RO (h.ent t m hx) ht hn
  have hself:∀t m (x:Option Ent),((e.map (IW d)).set d x)[t]? = some (some m)->t=d->x=some m/\d<a.tmps.size:=by
   intro t m x hm ht;subst ht;rw [List.getElem?_set_self'] at hm
   cases hx:(e.map (IW t))[t]? with
   | none=>simp [hx] at hm
   | some y=>
    simp [hx] at hm;refine⟨hm,?_⟩;have:=(DC.1 hx).1;simpa [h.len] using this
  have hfx:∀(x:Option Ent),(x=none\/x=some n)->∀t m b,((e.map (IW d)).set d x)[t]? = some (some m)->m.fix=some b->BF (a.put (some d) v).tmps (t,b):=by
   intro x hx t m b hm hb;by_cases ht:t=d
   .obtain⟨h1,_⟩:=hself t m _ hm ht;subst h1;rcases hx with hx|hx
    .cases hx
    .cases hx;rw [hfn] at hb;cases hb
   .rw [MU (p:=(t,b)) ht];rw [List.getElem?_set_ne (Ne.symm ht),gmp] at hm
    cases hy:e[t]? with
    | none=>simp [hy] at hm
    | some y=>
     simp only [hy,Option.map_some,Option.some.injEq] at hm;obtain⟨rfl,_⟩:=QV hm;exact h.fx t m b hy hb
  unfold IT;dsimp only
  cases hneed:n.need with
  | none=>
   rw [hneed] at hv;refine⟨hlen _,λt m hm=>?_,hfx _ (.inr rfl)⟩;by_cases ht:t=d
   .obtain⟨hx,hlt⟩:=hself t m _ hm ht;simp at hx;subst hx;subst ht;simp only [EV,hneed,Act.put];rw [hv];simp [hlt]
   .exact hoth _ t m hm ht
  | some p=>
   obtain⟨s,b⟩:=p;rw [hneed] at hv;dsimp only;split
   .refine⟨hlen _,λt m hm=>?_,hfx _ (.inl rfl)⟩;by_cases ht:t=d
    .obtain⟨hx,hlt⟩:=hself t m _ hm ht;simp at hx
    .exact hoth _ t m hm ht
   .rename_i hs;have hs:s≠d:=by simpa using hs
    refine⟨hlen _,λt m hm=>?_,hfx _ (.inr rfl)⟩;by_cases ht:t=d
    .obtain⟨hx,hlt⟩:=hself t m _ hm ht;simp at hx;subst hx;subst ht;simp only [EV,hneed];have hH:BF (a.put (some t) v).tmps (s,b)↔BF a.tmps (s,b):=MU hs;have hg:(a.put (some t) v).tmps[t]? = some v:=by simp [Act.put,hlt]
     rw [hH,hg];exact⟨λx=>by rw [hv.1 x],λx=>by rw [hv.2 x]⟩
    .exact hoth _ t m hm ht
def DM(e:Env):Nat->Nat×Bool->List (Nat×Bool)
 | 0,p=>[p]
 | n+1,p=>
  p::(match LC e p.1 with
   | some ⟨some q,_,_⟩=>DM e n q
   | _=>[])
def C09(p:Nat×Bool):List (Nat×Bool)->Bool
 | []=>false
 | (s,b)::r=>(s==p.1&&b==p.2)||C09 p r
theorem B1n{p:Nat×Bool}:∀{l:List (Nat×Bool)},C09 p l=true->p∈l:=by
 intro l
 induction l with
 | nil=>intro h;simp [C09] at h
 | cons q r ih=>
  obtain⟨s,b⟩:=q;intro h;simp only [C09,Bool.or_eq_true,Bool.and_eq_true,beq_iff_eq] at h;rcases h with⟨h1,h2⟩|h
  .subst h1;subst h2;exact mcs
  .exact mcm _ (ih h)
def rdO(cx:List (Nat×Bool))(e:Env):Operand->Option Value
 | .tmp t=>
  (match LC e t with
   | some ⟨none,v,_⟩=>some v
   | some ⟨some q,v,_⟩=>(match C09 q cx with|true=>some v|false=>none)
   | none=>none)
 | .const v=>some v
 | .global g=>some (.pointer (some ⟨g,0,none⟩))
 | .func f=>some (.func (.func f) #[] #[])
theorem E9{e:Env}{a:Act}(h:BN e a):∀(n:Nat) (p:Nat×Bool),BF a.tmps p->∀q∈DM e n p,BF a.tmps q:=by
 intro n
 induction n with
 | zero=>intro p hp q hq;simp [DM] at hq;subst hq;exact hp
 | succ n ih=>
  intro p hp q hq;unfold DM at hq;rcases List.mem_cons.1 hq with rfl|hq
  .exact hp
  .split at hq
   .rename_i r v kk hr;have he:=h.ent _ _ (DP hr);simp only [EV] at he;have hr':BF a.tmps r:=by
     refine Classical.byContradiction λhn=>?_;have h1:=he.2 hn;unfold BF at hp;rw [h1] at hp;simp [undef] at hp
    exact ih r hr' q hq
   .simp at hq
theorem CC{e:Env}{a:Act}{cx:List (Nat×Bool)}(h:BN e a)(hcx:∀p∈cx,BF a.tmps p):∀x u,rdO cx e x=some u->a.eval x=u:=by
 intro x u hx
 cases x with
 | tmp t=>
  simp only [rdO] at hx;split at hx
  .rename_i v kk hv;simp at hx;subst hx;have:=h.ent _ _ (DP hv);simp only [EV] at this;simp [Act.eval,this]
  .rename_i q v kk hv;split at hx
   .rename_i hm;simp at hx;subst hx;have:=h.ent _ _ (DP hv);simp only [EV] at this;simp [Act.eval,this.1 (hcx _ (B1n hm))]
   .simp at hx
  .simp at hx
 | const v=>simp [rdO] at hx;subst hx;rfl
 | global g=>simp [rdO] at hx;subst hx;rfl
 | func f=>simp [rdO] at hx;subst hx;rfl
def QZ(e:Env):Nat->Nat×Bool->Prop
 | 0,_=>True
 | n+1,p=>
  match LC e p.1 with
  | some ⟨none,.bool b,_⟩=>b=p.2
  | some ⟨some q,.bool b,_⟩=>QZ e n q/\b=p.2
  | _=>True
theorem A1y{e:Env}{a:Act}(h:BN e a):∀(n:Nat) (p:Nat×Bool),BF a.tmps p->QZ e n p:=by
 intro n
 induction n with
 | zero=>intro p _;trivial
 | succ n ih=>
  intro p hp;unfold QZ;split
  .rename_i b kk hb;have:=h.ent _ _ (DP hb);simp only [EV] at this;unfold BF at hp;rw [this] at hp;simpa using hp
  .rename_i q b kk hb;have hq:BF a.tmps q:=E9 h 1 p hp q (by simp [DM,hb]);have:=h.ent _ _ (DP hb);simp only [EV] at this;have:=this.1 hq;unfold BF at hp;rw [this] at hp;exact⟨ih q hq,by simpa using hp⟩
  .trivial
def NG(s:Nat)(b:Bool):Option Ent->Option Ent
 | some ⟨some (s',b'),v,k⟩=>
  (match s'==s with
   | true=>(match b'==b with|true=>some ⟨none,v,k⟩|false=>some ⟨none,undef,k⟩)
   | false=>some ⟨some (s',b'),v,k⟩)
 | x=>x
def GO(e:Env)(s:Nat)(b:Bool):Env:=(e.map (NG s b)).set s (some ⟨none,.bool b,some b⟩)
theorem BN.settle{e:Env}{a:Act}(h:BN e a){s:Nat}{b:Bool}(hs:BF a.tmps (s,b)):BN (GO e s b) a:=by
 have hfx:∀t n c,(GO e s b)[t]? = some (some n)->n.fix=some c->BF a.tmps (t,c):=by
  intro t n c hn hc;unfold GO at hn;by_cases ht:s=t
  .subst ht;rw [List.getElem?_set_self'] at hn
   cases hx:(e.map (NG s b))[s]? with
   | none=>simp [hx] at hn
   | some y=>simp [hx] at hn;subst hn;cases hc;exact hs
  .rw [List.getElem?_set_ne ht,gmp] at hn
   cases hx:e[t]? with
   | none=>simp [hx] at hn
   | some y=>
    simp only [hx,Option.map_some,Option.some.injEq] at hn;unfold NG at hn;split at hn
    .rename_i s' b' v k;split at hn
     .split at hn
      .simp at hn;subst hn;exact h.fx t _ c hx hc
      .simp at hn;subst hn;exact h.fx t _ c hx hc
     .simp at hn;subst hn;exact h.fx t _ c hx hc
    .subst hn;exact h.fx t _ c hx hc
 refine⟨by simp [GO,h.len],λt n hn=>?_,hfx⟩;unfold GO at hn;by_cases ht:s=t
 .subst ht;rw [List.getElem?_set_self'] at hn
  cases hx:(e.map (NG s b))[s]? with
  | none=>simp [hx] at hn
  | some y=>simp [hx] at hn;subst hn;exact hs
 .rw [List.getElem?_set_ne ht,gmp] at hn
  cases hx:e[t]? with
  | none=>simp [hx] at hn
  | some y=>
   simp only [hx,Option.map_some,Option.some.injEq] at hn;unfold NG at hn;split at hn
   .rename_i s' b' v k;have he:=h.ent _ _ hx;simp only [EV] at he;split at hn
    .rename_i hs';have hs':s'=s:=by simpa using hs'
     subst hs';split at hn
     .rename_i hb;have hb:b'=b:=by simpa using hb
      subst hb;simp at hn;subst hn;exact he.1 hs
     .rename_i hb;have hb:b'≠b:=by simpa using hb
      simp at hn;subst hn;refine he.2 λhh=>hb ?_;unfold BF at hh hs;rw [hs] at hh;simpa using hh.symm
    .simp at hn;subst hn;simpa only [EV] using he
   .subst hn;exact h.ent _ _ hx
def ON(yes no:Env->Prop):Nat->Env->Nat×Bool->Prop
 | 0,_,_=>False
 | n+1,e,p=>
  match LC e p.1 with
  | some ⟨none,.bool b,_⟩=>
   (match p.2 with
    | true=>Wif b (yes (GO e p.1 true)) (no (GO e p.1 false))
    | false=>Wif b (no (GO e p.1 true)) (yes (GO e p.1 false)))
  | some ⟨none,.tuple _,_⟩=>no e
  | some ⟨some q,_,_⟩=>ON (λe'=>ON yes no n e' p) no n e q
  | _=>False
theorem PW{yes no:Env->Prop}{a:Act}:∀(n:Nat) (e:Env) (p:Nat×Bool),BN e a->ON yes no n e p->
 (BF a.tmps p/\∃e',BN e' a/\yes e')\/(¬BF a.tmps p/\∃e',BN e' a/\no e'):=by
 intro n
 induction n generalizing yes no with
 | zero=>intro e p _ h;exact h.elim
 | succ n ih=>
  intro e p ha h;obtain⟨s,want⟩:=p;unfold ON at h;split at h
  .rename_i b kk hb;have he:=ha.ent _ _ (DP hb);simp only [EV] at he;have hs:BF a.tmps (s,b):=he;dsimp only at h;have hno:∀x y:Bool,x≠y->BF a.tmps (s,x)->¬BF a.tmps (s,y):=by
    intro x y hxy h1 h2;unfold BF at h1 h2;rw [h1] at h2;simp at h2;exact hxy h2
   split at h
   .rcases GC h with⟨rfl,h⟩|⟨rfl,h⟩
    .exact .inl ⟨hs,_,ha.settle hs,h⟩
    .exact .inr ⟨hno _ _ (by simp) hs,_,ha.settle hs,h⟩
   .rcases GC h with⟨rfl,h⟩|⟨rfl,h⟩
    .exact .inr ⟨hno _ _ (by simp) hs,_,ha.settle hs,h⟩
    .exact .inl ⟨hs,_,ha.settle hs,h⟩
  .rename_i vs kk hb;have he:=ha.ent _ _ (DP hb);simp only [EV] at he;refine .inr ⟨λhh=>?_,e,ha,h⟩;unfold BF at hh;rw [he] at hh;simp at hh
  .rename_i q v kk hb;rcases ih e q ha h with⟨hq,e',ha',h⟩|⟨hq,e',ha',h⟩
   .exact ih e' (s,want) ha' h
   .refine .inr ⟨λhh=>hq ?_,e',ha',h⟩;exact E9 ha 1 (s,want) hh q (by simp [DM,hb])
  .exact h.elim
def PB(e:Env):Operand->Option Bool
 | .tmp t=>(match LC e t with|some ⟨_,_,k⟩=>k|none=>none)
 | .const (.bool b)=>some b
 | _=>none
theorem E1{e:Env}{a:Act}(h:BN e a){x:Operand}{b:Bool}(hx:PB e x=some b):a.eval x=.bool b:=by
 cases x with
 | tmp t=>
  simp only [PB] at hx;split at hx
  .rename_i nd v k hk;have:=h.fx t _ b (DP hk) hx;unfold BF at this;simp [Act.eval,this]
  .cases hx
 | const v=>
  cases v <;> simp [PB] at hx
  subst hx;rfl
 | global g=>simp [PB] at hx
 | func f=>simp [PB] at hx
def gkn(e:Env):Nat->Nat×Bool->Option Bool
 | 0,_=>none
 | n+1,p=>
  match LC e p.1 with
  | some ⟨nd,_,some b⟩=>some (b==p.2)
  | some ⟨some q,_,none⟩=>(match gkn e n q with|some false=>some false|_=>none)
  | some ⟨none,.tuple _,none⟩=>some false
  | _=>none
theorem A3l{e:Env}{a:Act}(h:BN e a):∀(n:Nat) (p:Nat×Bool) (r:Bool),gkn e n p=some r->(BF a.tmps p↔r=true):=by
 intro n
 induction n with
 | zero=>intro p r hr;simp [gkn] at hr
 | succ n ih=>
  intro p r hr;unfold gkn at hr;split at hr
  .rename_i nd v b hb;have:=h.fx _ _ b (DP hb) rfl;simp at hr;subst hr;unfold BF at this ⊢;rw [this];simp
  .rename_i q v hq;split at hr
   .rename_i hf;simp at hr;subst hr;have hn:¬BF a.tmps q:=λhh=>by simpa using (ih _ _ hf).1 hh
    constructor
    .intro hp;exact absurd (E9 h 1 p hp q (by simp [DM,hq])) hn
    .intro hh;cases hh
   .cases hr
  .rename_i vs hq;simp at hr;subst hr;have he:=h.ent _ _ (DP hq);simp only [EV] at he;constructor
   .intro hh;unfold BF at hh;rw [he] at hh;simp at hh
   .intro hh;cases hh
  .cases hr
def B5z(e:Env)(d:Option Tmp)(k:Option Bool):Env:=
 match d,k with
 | some d,some b=>(match e[d]? with|some (some n)=>e.set d (some ⟨n.need,n.val,some b⟩)|_=>e)
 | _,_=>e
theorem BN.B5z{e:Env}{a:Act}(h:BN e a){d:Option Tmp}{k:Option Bool}(hk:∀t b,d=some t->k=some b->t<a.tmps.size->BF a.tmps (t,b)):BN (Eng.B5z e d k) a:=by
 unfold Eng.B5z;split
 .rename_i d b;split
  .rename_i n hn;have hd:d<a.tmps.size:=by rw [<- h.len];exact(DC.1 hn).1
   refine⟨by simp [h.len],λt m hm=>?_,λt m c hm hc=>?_⟩
   .by_cases ht:d=t
    .subst ht;rw [List.getElem?_set_self'] at hm;simp [hn] at hm;subst hm;have:=h.ent _ _ hn;unfold EV at this ⊢;exact this
    .rw [List.getElem?_set_ne ht] at hm;exact h.ent _ _ hm
   .by_cases ht:d=t
    .subst ht;rw [List.getElem?_set_self'] at hm;simp [hn] at hm;subst hm
     cases hc
     exact hk d b rfl rfl hd
    .rw [List.getElem?_set_ne ht] at hm;exact h.fx _ _ _ hm hc
  .exact h
 .exact h
abbrev Hand:=FuncId->List Value->World->(Value->World->Prop)->Prop
def A5n(P:Program)(f:FuncId):Bool:=
 match P.funcs[f]? with
 | some fn=>fn.body.isSome&&!(fn.name == "runtime.NumGoroutine")
 | none=>false
def GJ(P:Program)(H:Hand):Prop:=
 ∀f args w K,H f args w K->A5n P f=true->Calls P f args.toArray w (λe w'=>∃v,e=.returned v/\K v w')
def B3h(P:Program)(f:FuncId)(K:Value->World->Prop)(e:Ending)(w':World):Prop:=
 match P.funcs[f]? with
 | some fn=>C0y P fn.resultTypes.toList λv=>e=.returned v/\K v w'
 | none=>False
def H0(P:Program):Hand:=λf args w K=>Calls P f args.toArray w (B3h P f K)
theorem HX(P:Program):GJ P (H0 P):=by
 intro f args w K h _;refine h.AE λe w' he=>?_;unfold B3h at he;split at he
 .obtain⟨v,h1,h2⟩:=OS he;exact⟨v,h1,h2⟩
 .exact he.elim
inductive AN (P:Program) (v:Value) (args:List Value) (w:World) (R:Ending->World->Prop):Prop
 | mk (f:FuncId) (a c:Array Value) (h1:v=.func (.func f) a c) (h2:A5n P f=true) (h3:Calls P f (a++args.toArray++c) w R)
def C64(P:Program)(t:TypeId):List TypeId:=
 match P.underlying t with
 | some (.tuple ts)=>ts.toList
 | _=>[t]
def F5(w:World)(b o:Nat):List Value->World
 | []=>w
 | [v]=>st w b o v
 | v::v'::vs=>F5 (st w b o v) b (o+1) (v'::vs)
def DJ(w:World)(b o:Nat):List Value->Prop
 | []=>True
 | [_]=>wr w b o
 | _::v'::vs=>wr w b o/\DJ w b (o+1) (v'::vs)
def B90:List Value->Bool
 | []=>true
 | v::vs=>v.oneCell'&&B90 vs
def IU(bytes:Nat)(l c:Int):Bool:=decide (0<=l/\l<=c/\(bytes:Int)*c<=281474976710656/\c<=9223372036854775807)
def HY(z:Array Value)(n:Nat):Array Value:=(Array.range n).map (z[· % z.size]!)
def DO(z:Array Value)(size n:Nat):Array Value:=
 match size,z.toList with
 | 1,[v]=>Array.replicate n v
 | _,_=>HY z (n*size)
structure BL(P:Program)(ts:Array TypeId)(ty:TypeId)(s x v:Value)(w w':World):Prop where
 run:(Builtin.append_ ts ty #[s,x]).run P w=.ok v w'
structure QX(P:Program)(ts:Array TypeId)(ty:TypeId)(s x v:Value)(w w':World):Prop where
 run:(Builtin.copy_ ts ty #[s,x]).run P w=.ok v w'
structure JS(P:Program)(ts:Array TypeId)(ty:TypeId)(s:Value)(w w':World):Prop where
 run:(Builtin.clear_ ts ty #[s]).run P w=.ok (.tuple #[]) w'
structure IG(P:Program)(ts:Array TypeId)(ty:TypeId)(m k:Value)(w w':World):Prop where
 run:(Builtin.delete_ ts ty #[m,k]).run P w=.ok (.tuple #[]) w'
structure EF(P:Program)(t:TypeId)(m k x:Value)(w w':World):Prop where
 run:(Instr.mapUpdate t m k x).run P w=.ok () w'
structure B73(P:Program)(t:TypeId)(x v:Value)(w w':World):Prop where
 run:(Instr.range t x).run P w=.ok v w'
structure LP(P:Program)(it:Value)(str:Bool)(ty:TypeId)(v:Value)(w w':World):Prop where
 run:(Instr.next it str ty).run P w=.ok v w'
def B8l(P:Program)(ty:TypeId):Option (TypeId×TypeId):=
 match P.underlying ty with
 | some (.tuple ts)=>(match ts.toList with|[_,a,b]=>some (a,b)|_=>none)
 | _=>none
def A68(P:Program)(b:Builtin)(ts:Array TypeId)(ty:TypeId)(args:List Value)(w:World)(K:Value->World->Prop):Prop:=
 match b,args with
 | .append,[s,x]=>∃a:Option Addr,∃l c:Nat,∃w':World,BL P ts ty s x (.slice a l c) w w'/\K (.slice a l c) w'
 | .copy,[s,x]=>∃n:Int,∃w':World,QX P ts ty s x (.int .i64 n) w w'/\K (.int .i64 n) w'
 | .clear,[s]=>∃w':World,JS P ts ty s w w'/\K (.tuple #[]) w'
 | .delete,[m,k]=>∃w':World,IG P ts ty m k w w'/\K (.tuple #[]) w'
 | _,_=>False
theorem B1b{v:Value}(h:okF v=true):v.cells.toList=[v]/\B90 v.cells.toList=true:=by
 cases v <;> simp only [okF,Bool.false_eq_true] at h
 .exact⟨rfl,rfl⟩
 .exact⟨rfl,rfl⟩
def eOp (P:Program) (H:Hand) (ρ:Operand->Option Value) (o:Oper) (w:World) (K:Value->World->Prop):Prop:=
 match o.op with
 | .alloc t=>
  (match P.info? t with
   | some i=>(match i.zero with
    | some z=>∀w',w'=w.alloc (.cells z.cells t)->K (.pointer (some ⟨w.heap.size,0,none⟩)) w'
    | none=>False)
   | none=>False)
 | .box t x=>(match ρ x with|some v=>∀w',w'=w.alloc (.cells v.cells t)->K (.pointer (some ⟨w.heap.size,0,none⟩)) w'|none=>False)
 | .buildSlice t len parts=>
  (match P.underlying t,OW ρ parts.toList with
   | some (.slice e),some ps=>
    (match P.info? e with
     | some i=>
      (match i.zero,decide (len*i.size<=16777216) with
       | some z,true=>
        (match Instr.fill (λj=>some (j*i.size,i.size)) (match decide (len*i.size=0) with|true=>#[]|false=>HY z.cells (len*i.size)) ps with
         | some cells=>∀w',w'=w.alloc (.cells cells e)->K (.slice (some ⟨w.heap.size,0,none⟩) len len) w'
         | none=>False)
       | _,_=>False)
     | none=>False)
   | _,_=>False)
 | .makeSlice t l c=>
  (match P.underlying t,ρ l,ρ c with
   | some (.slice e),some (.int _ l),some (.int _ c)=>
    (match P.info? e with
     | some i=>
      (match i.zero with
       | some z=>Wif (IU i.bytes l c) (∀w',w'=w.alloc (.cells (DO z.cells i.size c.toNat) e)->K (.slice (some ⟨w.heap.size,0,none⟩) l.toNat c.toNat) w') False
       | none=>False)
     | none=>False)
   | _,_,_=>False)
 | .makeMap t r=>
  (match r with
   | none=>∀w',w'=w.alloc (.map #[] 0)->K (.map (some w.heap.size)) w'
   | some x=>(match P.underlying t,ρ x with
    | some (.map _ _),some (.int _ _)=>∀w',w'=w.alloc (.map #[] 0)->K (.map (some w.heap.size)) w'
    | _,_=>False))
 | .store t a x=>
  (match ρ a,ρ x with
   | some (.pointer p),some v=>
    (match C3t P t with
     | true=>Wif (isP p&&okF v) (wr w (pb p) (po p)/\∀w',w'=st w (pb p) (po p) v->K undef w') False
     | false=>
      (match B94 P t&&v.cells.toList.length==szT P t with
       | true=>Wif (isP p&&B90 v.cells.toList) (DJ w (pb p) (po p) v.cells.toList/\∀w',w'=F5 w (pb p) (po p) v.cells.toList->K undef w') False
       | false=>False))
   | _,_=>False)
 | .mapUpdate t m k x=>
  (match ρ m,ρ k,ρ x with
   | some m,some k,some x=>∃w':World,EF P t m k x w w'/\K undef w'
   | _,_,_=>False)
 | .range t x=>
  (match ρ x with
   | some x=>∃p:Option Addr,∃w':World,B73 P t x (.pointer p) w w'/\K (.pointer p) w'
   | none=>False)
 | .next it str=>
  (match ρ it,B8l P o.type with
   | some it, some (t1, t2) =>
    (∃ w' : World, LP P it str o.type (.tuple #[.bool false]) w w' /\ K (.tuple #[.bool false]) w') \/
    B33 P t1 λk=>B33 P t2 λv=>∃w':World,LP P it str o.type (.tuple #[.bool true,k,v]) w w'/\K (.tuple #[.bool true,k,v]) w'
   | some it,none=>
    (match str with
     | true=>(∃w':World,LP P it true o.type (.tuple #[.bool false]) w w'/\K (.tuple #[.bool false]) w')\/
      ∃k v:Int,∃w':World,LP P it true o.type (.tuple #[.bool true,.int .i64 k,.int .i32 v]) w w'/\K (.tuple #[.bool true,.int .i64 k,.int .i32 v]) w'
     | false=>(∃w':World,LP P it false o.type (.tuple #[.bool false]) w w'/\K (.tuple #[.bool false]) w')\/
      ∃k v:Value,∃w':World,LP P it false o.type (.tuple #[.bool true,k,v]) w w'/\K (.tuple #[.bool true,k,v]) w')
   | none,_=>False)
 | .call {callee:=.builtin b,args:=args,argTypes:=ts}=>
  (match IZ ρ args.toList with|some vs=>A68 P b ts o.type vs w K|none=>False)
 | .call {callee:=.value (.func f),args:=args,..}=>
  (match IZ ρ args.toList,A5n P f with
   | some vs,true=>H f vs w K
   | _,_=>False)
 | .call {callee:=.value x,args:=args,..}=>
  (match ρ x,IZ ρ args.toList with
   | some (.func (.func f) a c),some vs=>(match A5n P f with|true=>H f (a.toList++vs++c.toList) w K|false=>False)
   | some v,some vs=>AN P v vs w λe w'=>C0y P (C64 P o.type) λu=>e=.returned u/\K u w'
   | _,_=>False)
 | _=>False
section
variable {P:Program}{w:World}
theorem A76{b:Nat}:∀(vs:List Value) (o i:Nat) (w:World),B90 vs=true->DJ w b (o+i) vs->
 (storeCells ⟨b,o,none⟩ vs i).run P w=.ok () (F5 w b (o+i) vs):=by
 intro vs
 induction vs with
 | nil=>intro o i w _ _;simp [storeCells,F5]
 | cons v vs ih=>
  intro o i w h1 hw;simp only [B90,Bool.and_eq_true] at h1;have h1':v.oneCell'=true:=h1.1;have hone:wr w b (o+i):=by cases vs with|nil=>exact hw|cons y ys=>exact hw.1
  have hst:(store (Addr.add ⟨b,o,none⟩ i) v).run P w=.ok () (st w b (o+i) v):=by
   rw [Addr.add_lit,run_store P w _ v _ h1'];obtain⟨⟨u,hu⟩,hf⟩:=hone;unfold rd at hu;simp [hu,hf,st]
  simp only [storeCells,srb,hst,ato]
  cases vs with
  | nil=>simp [storeCells,F5]
  | cons y ys=>
   have hrest:DJ (st w b (o+i) v) b (o+(i+1)) (y::ys):=by
    have h0:DJ w b (o+i+1) (y::ys):=hw.2;have hkeep:∀(zs:List Value) (q:Nat),DJ w b q zs->DJ (st w b (o+i) v) b q zs:=by
     have h1:∀q,wr w b q->wr (st w b (o+i) v) b q:=by
      intro q ⟨⟨u,hu⟩,hf⟩;refine⟨?_,by simpa [st] using hf⟩;unfold rd at *;obtain⟨u',hu'⟩:=Go.RowKit.cell?_setCell_some (w:=w) (p:=⟨b,o+i,none⟩) (x:=v) (q:=⟨b,q,none⟩) (v:=u) hu;exact⟨u',hu'⟩
     intro zs
     induction zs with
     | nil=>intro q _;trivial
     | cons z zs ih2=>
      intro q hq
      cases zs with
      | nil=>exact h1 q hq
      | cons z' zs'=>exact⟨h1 q hq.1,ih2 (q+1) hq.2⟩
    exact hkeep _ _ h0
   rw [ih o (i+1) (st w b (o+i) v) h1.2 hrest]
   rfl
theorem QA{t:TypeId}{p:Option Addr}{v:Value}(hT:B94 P t=true)(hl:v.cells.toList.length=szT P t)(hp:isP p=true)(ho:B90 v.cells.toList=true)
 (hw:DJ w (pb p) (po p) v.cells.toList):(Instr.storeAt t (.pointer p) v).run P w=.ok () (F5 w (pb p) (po p) v.cells.toList):=by
 obtain⟨i,hi,hs⟩:=QP hT;have hp':=GB hp;generalize pb p=b at *;generalize po p=o at *;subst hp';have hl':¬v.cells.size≠i.size:=by
  intro hne;exact hne (by rw [<- hs,<- hl];simp)
 simp only [Instr.storeAt,Instr.sureAddr,storeVar,srb,srp,ato,CF hi,if_neg hl'];exact A76 _ o 0 w ho hw
theorem EK{f:FuncId}{args:Array Value}(h:A5n P f=true):(callFunc f args).run P w=.ok (.enter f args) w:=by
 unfold A5n at h;split at h
 .rename_i fn hf;simp only [Bool.and_eq_true,Bool.not_eq_true',Option.isSome_iff_exists] at h;obtain⟨⟨c,hc⟩,hn⟩:=h;have hn':(fn.name == "runtime.NumGoroutine")=false:=by simpa using hn
  simp only [callFunc,srb,run_program,ato,hf];rw [hn',hc]
  rfl
 .simp at h
theorem IS{t:TypeId}{i:TypeInfo}{z:Value}(hi:P.info? t=some i)(hz:i.zero=some z):(zeroValue t).run P w=.ok z w:=by
 simp [zeroValue,typeInfo,hi,hz]
theorem run_makeSlice{t e:TypeId}{i:TypeInfo}{z:Value}{k k':IntKind}{l c:Int}(hu:P.underlying t=some (.slice e))(hi:P.info? e=some i)(hz:i.zero=some z)(h:IU i.bytes l c=true) :
 (Instr.makeSlice t (.int k l) (.int k' c)).run P w=.ok (.slice (some ⟨w.heap.size,0,none⟩) l.toNat c.toNat) (w.alloc (.cells (DO z.cells i.size c.toNat) e)):=by
 have h:=of_decide_eq_true h;obtain⟨h1,h2,h3,h4⟩:=h;have hl:IntKind.i64.wrap l=l:=IntWalk.i64_in _ (by omega);have hc:IntKind.i64.wrap c=c:=IntWalk.i64_in _ (by omega);have hti:(typeInfo e).run P w=.ok i w:=by simp [typeInfo,hi]
 simp only [Instr.makeSlice,srb,run_underlying hu,ato,asInt,asIntOf,srp,hti,hl,hc,Sem.run_ite];have hcond:¬((c<0||(i.bytes:Int)*c>2^48)||l<0||l>c)=true:=by
  simp only [Bool.or_eq_true,decide_eq_true_eq];omega
 rw [if_neg (by simpa using hcond)];simp only [ato,run_askRoom,CF hi];have hrow:∀zz:Array Value,(newRow e zz).run P w=.ok ⟨w.heap.size,0,none⟩ (w.alloc (.cells zz e)):=by
  intro zz;simp [newRow]
 by_cases hn:c.toNat*i.size=0
 .have hm:DO z.cells i.size c.toNat=#[]:=by
   unfold DO;split
   .rename_i h1 h2;rw [h1] at hn;have:c.toNat=0:=by omega
    rw [this];rfl
   .rw [hn];simp [HY,Array.range_zero']
  rw [if_pos hn];simp only [ato,hn,hrow,hm];simp [Array.range_zero']
 .rw [if_neg hn];simp only [IS hi hz,ato,hrow];congr 3;unfold DO;split
  .rename_i v h1 h2;have hz1:z.cells=#[v]:=by apply Array.toList_inj.1;rw [h2]
   rw [h1,hz1];apply Array.ext';simp;apply List.ext_getElem
   .simp
   .intro n h1 h2;simp [Nat.mod_one]
  .rfl
theorem A3v{H:Hand}(hH:GJ P H){ρ:Operand->Option Value}{a:Act}(hρ:∀x u,ρ x=some u->a.eval x=u){o:Oper}{K:Value->World->Prop}
 (h:eOp P H ρ o w K) {next:Act->World->Prop}{Q:Exit->Act->World->Prop} (hK:∀v w',K v w'->next (a.put o.dst v) w'):o.wp P a w next Q:=by
 unfold Oper.wp;unfold eOp at h;split at h
 .rename_i t ho;split at h
  .rename_i i hi;split at h
   .rename_i z hz;simp only [execOp,ho,Instr.alloc,srb,IS hi hz,ato,newVar,newRow,srp,run_newObj,World.alloc_eq];exact hK _ _ (h _ rfl)
   .exact h.elim
  .exact h.elim
 .rename_i t x ho;split at h
  .rename_i v hx;simp only [execOp,ho,Instr.box,srb,ato,newVar,newRow,srp,run_newObj,World.alloc_eq,hρ _ _ hx];exact hK _ _ (h _ rfl)
  .exact h.elim
 .rename_i t len parts ho;split at h
  .rename_i e ps hu hps;split at h
   .rename_i i hi;split at h
    .rename_i z hz hsm;have hsm:=of_decide_eq_true hsm;split at h
     .rename_i cells hcells;have hp:=K9 hρ hps;have hpl:(Array.map (λx=>(x.1,a.eval x.2)) parts).toList=ps:=by rw [Array.toList_map,hp]
      simp only [execOp,ho,Instr.buildSlice,srb,run_underlying hu,ato,CF hi,Sem.run_ite];rw [if_neg (by omega)];simp only [srp,ato];by_cases h0:len*i.size=0
      .rw [if_pos h0];simp only [decide_eq_true h0] at hcells;simp only [h0];have:(Array.map (λx=>(#[]:Array Value)[x%(#[]:Array Value).size]!) (Array.range 0))=#[]:=by simp [Array.range_zero']
       simp only [this,hpl,hcells];simp only [newRow,srb,run_newObj,ato,srp,World.alloc_eq];exact hK _ _ (h _ rfl)
      .rw [if_neg h0];simp only [decide_eq_false h0] at hcells;simp only [ato,IS hi hz];unfold HY at hcells;simp only [hpl,hcells];simp only [newRow,srb,run_newObj,ato,srp,World.alloc_eq];exact hK _ _ (h _ rfl)
     .exact h.elim
    .exact h.elim
   .exact h.elim
  .exact h.elim
 .rename_i t l c ho;split at h
  .rename_i e k l' k' c' hu hl hc;split at h
   .rename_i i hi;split at h
    .rename_i z hz;rcases GC h with⟨hok,h⟩|⟨_,h⟩
     .simp only [execOp,ho,hρ _ _ hl,hρ _ _ hc,srb,run_makeSlice hu hi hz hok,ato,srp];exact hK _ _ (h _ rfl)
     .exact h.elim
    .exact h.elim
   .exact h.elim
  .exact h.elim
 .rename_i t r ho;split at h
  .simp only [execOp,ho,Option.map_none,Instr.makeMap,srb,srp,ato,run_newObj,World.alloc_eq];exact hK _ _ (h _ rfl)
  .rename_i x;split at h
   .rename_i hu hx;simp only [execOp,ho,Option.map_some,Instr.makeMap,srb,srp,ato,run_newObj,World.alloc_eq,run_underlying hu,hρ _ _ hx,asInt,asIntOf];exact hK _ _ (h _ rfl)
   .exact h.elim
 .rename_i t x y ho;split at h
  .rename_i p v hx hy;split at h
   .rename_i hF;obtain⟨h1,h2⟩:=B82 hF;rcases GC h with⟨hb,h⟩|⟨_,h⟩
    .simp only [Bool.and_eq_true] at hb;obtain⟨c1,c2⟩:=B1b hb.2;have hr:=QA (P:=P) (w:=w) (v:=v) h1 (by rw [c1,h2];rfl) hb.1 c2 (by rw [c1];exact h.1);rw [c1] at hr;simp only [execOp,ho,hρ _ _ hx,hρ _ _ hy,srb,hr,ato,srp];exact hK _ _ (h.2 _ rfl)
    .exact h.elim
   .split at h
    .rename_i hT;simp only [Bool.and_eq_true,beq_iff_eq] at hT;rcases GC h with⟨hb,h⟩|⟨_,h⟩
     .simp only [Bool.and_eq_true] at hb;simp only [execOp,ho,hρ _ _ hx,hρ _ _ hy,srb,QA hT.1 hT.2 hb.1 hb.2 h.1,ato,srp];exact hK _ _ (h.2 _ rfl)
     .exact h.elim
    .exact h.elim
  .exact h.elim
 .rename_i t m k x ho;split at h
  .rename_i m' k' x' hm hk hx;obtain⟨w',hu,h⟩:=h;replace hu:=hu.run;simp only [execOp,ho,hρ _ _ hm,hρ _ _ hk,hρ _ _ hx,srb,hu,ato,srp];exact hK _ _ h
  .exact h.elim
 .rename_i t x ho;split at h
  .rename_i x' hx;obtain⟨p,w',hu,h⟩:=h;replace hu:=hu.run;simp only [execOp,ho,hρ _ _ hx,srb,hu,ato,srp];exact hK _ _ h
  .exact h.elim
 .rename_i it str ho;split at h
  .rename_i it' t1 t2 hx hu;rcases h with⟨w',hu,h⟩|h
   .replace hu:=hu.run;simp only [execOp,ho,hρ _ _ hx,srb,hu,ato,srp];exact hK _ _ h
   .obtain⟨k,h⟩:=KJ h;obtain⟨v,h⟩:=KJ h;obtain⟨w',hu,h⟩:=h;replace hu:=hu.run;simp only [execOp,ho,hρ _ _ hx,srb,hu,ato,srp];exact hK _ _ h
  .rename_i it' hx hnt;split at h
   all_goals
    rcases h with⟨w',hu,h⟩|⟨k,v,w',hu,h⟩
    .replace hu:=hu.run;simp only [execOp,ho,hρ _ _ hx,srb,hu,ato,srp];exact hK _ _ h
    .replace hu:=hu.run;simp only [execOp,ho,hρ _ _ hx,srb,hu,ato,srp];exact hK _ _ h
  .exact h.elim
 .rename_i b args ts ho;split at h
  .rename_i vs hvs;have h1:args.map a.eval=vs.toArray:=by rw [<- D7 hρ hvs,<- Array.toList_map]
   simp only [execOp,ho,resolve,srb,srp,ato,invoke,h1];unfold A68 at h;split at h
   .obtain⟨p,l,c,w',hu,h⟩:=h;replace hu:=hu.run;simp only [builtin,srb,hu,ato,srp];exact hK _ _ h
   .obtain⟨n,w',hu,h⟩:=h;replace hu:=hu.run;simp only [builtin,srb,hu,ato,srp];exact hK _ _ h
   .obtain⟨w',hu,h⟩:=h;replace hu:=hu.run;simp only [builtin,srb,hu,ato,srp];exact hK _ _ h
   .obtain⟨w',hu,h⟩:=h;replace hu:=hu.run;simp only [builtin,srb,hu,ato,srp];exact hK _ _ h
   .exact h.elim
  .exact h.elim
 .rename_i f args ts ho;split at h
  .rename_i vs hvs hcb;have h1:args.map a.eval=vs.toArray:=by rw [<- D7 hρ hvs,<- Array.toList_map]
   simp only [execOp,ho,resolve,Act.eval,Deferred.ofValue,srb,srp,ato,invoke,h1,Array.empty_append,Array.append_empty,EK hcb];rw [Oper.upon_enter];refine(hH f vs w K h hcb).AE λe w' he=>?_;obtain⟨v,rfl,hk⟩:=he;exact hK _ _ hk
  .exact h.elim
 .rename_i x args ts hnf ho;split at h
  .rename_i f p c vs hx hvs;have h1:args.map a.eval=vs.toArray:=by rw [<- D7 hρ hvs,<- Array.toList_map]
   split at h
   .rename_i hcb;simp only [execOp,ho,resolve,hρ _ _ hx,Deferred.ofValue,srb,srp,ato,invoke,h1,EK hcb];rw [Oper.upon_enter];have hargs:p++vs.toArray++c=(p.toList++vs++c.toList).toArray:=by apply Array.ext';simp
    rw [hargs];refine(hH f _ w K h hcb).AE λe w' he=>?_;obtain⟨v,rfl,hk⟩:=he;exact hK _ _ hk
   .exact h.elim
  .rename_i v vs _ hx hvs;have h1:args.map a.eval=vs.toArray:=by rw [<- D7 hρ hvs,<- Array.toList_map]
   obtain⟨f,p,c,rfl,hcb,h⟩:=h;simp only [execOp,ho,resolve,hρ _ _ hx,Deferred.ofValue,srb,srp,ato,invoke,h1,EK hcb];rw [Oper.upon_enter];refine h.AE λe w' he=>?_;obtain⟨v,rfl,hk⟩:=OS he;exact hK _ _ hk
  .exact h.elim
 .exact h.elim
end
def B03(e:Env)(cx:List (Nat×Bool))(c x y:Operand):Option Value:=
 match c with
 | .tmp s=>
  (match rdO cx e (.tmp s) with
   | some (.bool bc)=>
    (match rdO (DM e 8 (s,true)++cx) e x,rdO (DM e 8 (s,false)++cx) e y with
     | some (.bool p),some (.bool q)=>
      (match x,y with
       | .const (.bool true),_=>some (.bool (bc||q))
       | _,.const (.bool false)=>some (.bool (bc&&p))
       | _,_=>some (.bool (cond bc p q)))
     | some u,some v=>(match bc with|true=>some u|false=>some v)
     | some u,none=>(match bc with|true=>some u|false=>none)
     | none,some v=>(match bc with|true=>none|false=>some v)
     | none,none=>none)
   | _=>none)
 | _=>none
def B4s(e:Env)(cx:List (Nat×Bool))(c x y:Operand):Option Value:=
 match PB e c with
 | some true=>rdO cx e x
 | some false=>rdO cx e y
 | none=>B03 e cx c x y
theorem A26{e:Env}{a:Act}{cx:List (Nat×Bool)}(h:BN e a)(hcx:∀p∈cx,BF a.tmps p){c x y:Operand}{v:Value}(hv:B03 e cx c x y=some v) :
 ∃bc,a.eval c=.bool bc/\v=(if bc then a.eval x else a.eval y):=by
 unfold B03 at hv;split at hv
 .rename_i s;split at hv
  .rename_i bc hbc;have hc:=CC h hcx _ _ hbc;have hs:BF a.tmps (s,bc):=by
    simp only [Act.eval] at hc;unfold BF;rw [Array.getD_eq_getD_getElem?] at hc
    cases hx:a.tmps[s]? with
    | none=>rw [hx] at hc;simp [undef] at hc
    | some u=>rw [hx] at hc;simp at hc;simp [hc]
   refine⟨bc,hc,?_⟩;have hx:bc=true->∀u,rdO (DM e 8 (s,true)++cx) e x=some u->a.eval x=u:=by
    intro hb u hu;subst hb;refine CC h (λp hp=>?_) _ _ hu;rcases List.mem_append.1 hp with hp|hp
    .exact E9 h _ _ hs _ hp
    .exact hcx _ hp
   have hy:bc=false->∀u,rdO (DM e 8 (s,false)++cx) e y=some u->a.eval y=u:=by
    intro hb u hu;subst hb;refine CC h (λp hp=>?_) _ _ hu;rcases List.mem_append.1 hp with hp|hp
    .exact E9 h _ _ hs _ hp
    .exact hcx _ hp
   split at hv
   .rename_i p q hp hq;split at hv
    .simp at hv;subst hv
     cases bc
     .simp [hy rfl _ hq]
     .simp [Act.eval]
    .simp at hv;subst hv
     cases bc
     .simp [Act.eval]
     .simp [hx rfl _ hp]
    .simp at hv;subst hv
     cases bc
     .simp [hy rfl _ hq]
     .simp [hx rfl _ hp]
   .rename_i u v' _ hu hv'
    cases bc
    .simp at hv;subst hv;simp [hy rfl _ hv']
    .simp at hv;subst hv;simp [hx rfl _ hu]
   .rename_i u hu hn
    cases bc
    .simp at hv
    .simp at hv;subst hv;simp [hx rfl _ hu]
   .rename_i v' hn hv'
    cases bc
    .simp at hv;subst hv;simp [hy rfl _ hv']
    .simp at hv
   .simp at hv
  .simp at hv
 .simp at hv
theorem QE{e:Env}{a:Act}{cx:List (Nat×Bool)}(h:BN e a)(hcx:∀p∈cx,BF a.tmps p){c x y:Operand}{v:Value}(hv:B4s e cx c x y=some v) :
 ∃bc,a.eval c=.bool bc/\v=(if bc then a.eval x else a.eval y):=by
 unfold B4s at hv;split at hv
 .rename_i hb;exact⟨true,E1 h hb,by rw [if_pos rfl];exact(CC h hcx _ _ hv).symm⟩
 .rename_i hb;exact⟨false,E1 h hb,by rw [if_neg (by simp)];exact(CC h hcx _ _ hv).symm⟩
 .exact A26 h hcx hv
def BZ.noR:BZ->Bool
 | .fail=>true
 | .ret _=>true
 | .chk _ r=>r.noR
 | .rdc _ _=>false
 | .ex _=>false
theorem BZ.A1l{r:BZ}{c:World->Prop}{v:Value}(h:Spec r c v)(hn:r.noR=true):∀w,c w:=by
 induction h with
 | ret v=>intro w;trivial
 | chk _ ih=>exact ih hn
 | rdc _ _=>simp [BZ.noR] at hn
 | ex _ _ _=>simp [BZ.noR] at hn
def opF(e:Env)(o:Oper):Option Bool:=
 match o.op with
 | .move x=>PB e x
 | .assign x=>PB e x
 | .unOp .not _ x=>(PB e x).map not
 | _=>none
def C02(e:Env)(c x y:Operand):Option Bool:=
 match PB e c with
 | some true=>PB e x
 | some false=>PB e y
 | none=>none
def MY(P:Program)(τ:Nat->Option TypeId)(e:Env)(o:Oper)(g:Option (Nat×Bool))(w:World)(next:Env->Option (World->Prop)->Prop):Prop:=
 match o.op with
 | .pick c x y=>
  (match g with
   | none=>(match B4s e [] c x y with|some v=>next (B5z (IT e o.dst ⟨none,v,none⟩) o.dst (C02 e c x y)) none|none=>False)
   | some p=>(match B4s e (DM e 8 p) c x y with|some v=>next (IT e o.dst ⟨some p,v,none⟩) none|none=>(QZ e 8 p->False)/\next (IT e o.dst ⟨some p,undef,none⟩) none))
 | _=>
  match g with
  | none=>
   (match (qOp P τ (rdO [] e) o).noR with
    | true=>(qOp P τ (rdO [] e) o).den w (λv _=>next (B5z (IT e o.dst ⟨none,v,none⟩) o.dst (opF e o)) none) (λ_=>True)
    | false=>(qOp P τ (rdO [] e) o).den w (λv c=>next (B5z (IT e o.dst ⟨none,v,none⟩) o.dst (opF e o)) (some c)) (λ_=>True))
  | some p=>
   (match (qOp P τ (rdO (DM e 8 p) e) o).noR with
    | true=>(qOp P τ (rdO (DM e 8 p) e) o).A82 (QZ e 8 p) w (λv _=>next (IT e o.dst ⟨some p,v,none⟩) none) (λ_=>True)
    | false=>(qOp P τ (rdO (DM e 8 p) e) o).A82 (QZ e 8 p) w (λv c=>next (IT e o.dst ⟨some p,v,none⟩) (some λw'=>QZ e 8 p->c w')) (λ_=>True))
def A5z(P:Program)(τ:Nat->Option TypeId)(e:Env)(o:Oper)(g:Option (Nat×Bool))(w:World)(next:Env->Option (World->Prop)->Prop):Prop:=
 match g with
 | none=>MY P τ e o none w next
 | some p=>match gkn e 8 p with
  | some true=>MY P τ e o none w next
  | some false=>next (IT e o.dst ⟨none,undef,none⟩) none
  | none=>MY P τ e o (some p) w next
def B6z(P:Program)(op:Op):Bool:=
 match op with
 | .pick _ _ _=>true
 | op=>quiet P op
def MI(ops:List Oper)(o:Oper):Option (Option (Nat×Bool)):=
 match o.guard with
 | none=>some none
 | some (j,want)=>
  match ops[j]? with
  | some oj=>(match oj.dst with|some s=>some (some (s,want))|none=>none)
  | none=>none
def SOf:Option (World->Prop)->World->Prop
 | none,_=>True
 | some c,w=>c w
theorem FN{ops:List Oper}{o:Oper}{g:Option (Nat×Bool)}(hg:MI ops o=some g)(a:Act) :
 Region.wanted o (yielded ops.toArray a.tmps)=true↔(match g with|none=>True|some p=>BF a.tmps p):=by
 unfold MI at hg;split at hg
 .rename_i h0;simp at hg;subst hg;simp [Region.wanted,h0]
 .rename_i j want h0;split at hg
  .rename_i oj hj;split at hg
   .rename_i s hs;simp at hg;subst hg;have hj':ops.toArray[j]? = some oj:=by simpa using hj
    simp only [Region.wanted,h0,yielded,hj',hs,Option.bind_some,BF];split
    .rename_i b hb;rw [hb];simp
    .rename_i hnb;constructor
     .intro h;simp at h
     .intro h;exact absurd h (hnb _)
   .simp at hg
  .simp at hg
theorem B09{P:Program}{e:Env}{a:Act}(h:BN e a){o:Oper}{v:Value}{w:World}{b:Bool}(hr:(execOp a.eval o).run P w=.ok (.value v) w)(hb:opF e o=some b):v=.bool b:=by
 unfold opF at hb;split at hb
 .rename_i x ho;have:=E1 h hb;simp [execOp,ho,this] at hr;exact hr.symm
 .rename_i x ho;have:=E1 h hb;simp [execOp,ho,this] at hr;exact hr.symm
 .rename_i t x ho
  cases hx:PB e x with
  | none=>rw [hx] at hb;cases hb
  | some c=>
   rw [hx] at hb;simp at hb;have:=E1 h hx;simp [execOp,ho,this,Op.unary] at hr;rw [<- hr,hb];simp
 .cases hb
theorem B0x{P:Program}{e:Env}{a:Act}(h:BN e a){o:Oper}{v:Value}{w:World}(hr:(execOp a.eval o).run P w=.ok (.value v) w):BN (B5z (IT e o.dst ⟨none,v,none⟩) o.dst (opF e o)) (a.put o.dst v):=by
 refine(h.put _ ⟨none,v,none⟩ rfl).B5z λt b ht hb hlt=>?_;have h3:=B09 h hr hb;unfold BF;rw [ht] at hlt ⊢;simp only [Act.put] at hlt ⊢;have hlt':t<a.tmps.size:=by simpa using hlt
 simp [hlt',h3]
theorem IP{P:Program}{τ:Nat->Option TypeId}{ops:List Oper}{e:Env}{a:Act}{o:Oper}{g:Option (Nat×Bool)}{w:World}{next:Env->Option (World->Prop)->Prop}
 (h:BN e a) (hwi:Region.wanted o (yielded ops.toArray a.tmps)=true↔(match g with|none=>True|some p=>BF a.tmps p)) (hw:MY P τ e o g w next) :
 ∃v e' c,next e' c/\SOf c w/\BN e' (a.put o.dst v)/\
  ((Region.wanted o (yielded ops.toArray a.tmps)=true/\∀w',SOf c w'->(execOp a.eval o).run P w'=.ok (.value v) w')\/
   (Region.wanted o (yielded ops.toArray a.tmps)=false/\v=undef)):=by
 have hH:∀p,BF a.tmps p->∀q∈DM e 8 p,BF a.tmps q:=λp hp=>E9 h 8 p hp;unfold MY at hw;split at hw
 .rename_i c x y ho;have hrun:∀v w',(∃bc,a.eval c=.bool bc/\v=(if bc then a.eval x else a.eval y))->(execOp a.eval o).run P w'=.ok (.value v) w':=by
   rintro v w' ⟨bc,h1,rfl⟩;simp only [execOp,ho,h1,asBool,srb,srp,ato]
  split at hw
  .split at hw
   .rename_i v hv;have hp:=QE h (by simp) hv;refine⟨v,_,none,hw,trivial,(h.put _ ⟨none,v,none⟩ rfl).B5z λt b ht hb hlt=>?_,.inl ⟨hwi.2 trivial,λw' _=>hrun v w' hp⟩⟩;obtain⟨bc,h1,h2⟩:=hp;have h3:v=.bool b:=by
     unfold C02 at hb;split at hb
     .rename_i hc;have:=E1 h hc;rw [this] at h1
      cases h1
      rw [h2,if_pos rfl];exact E1 h hb
     .rename_i hc;have:=E1 h hc;rw [this] at h1
      cases h1
      rw [h2,if_neg (by simp)];exact E1 h hb
     .cases hb
    unfold BF;rw [ht] at hlt ⊢;simp only [Act.put] at hlt ⊢;have hlt':t<a.tmps.size:=by simpa using hlt
    simp [hlt',h3]
   .exact hw.elim
  .rename_i p;split at hw
   .rename_i v hv;by_cases hp:BF a.tmps p
    .have hpk:=QE h (hH p hp) hv;exact⟨v,_,none,hw,trivial,h.put _ ⟨some p,v,none⟩ ⟨λ_=>rfl,λhn=>absurd hp hn⟩,.inl ⟨hwi.2 hp,λw' _=>hrun v w' hpk⟩⟩
    .refine⟨undef,_,none,hw,trivial,h.put _ ⟨some p,v,none⟩ ⟨λhx=>absurd hx hp,λ_=>rfl⟩,.inr ⟨?_,rfl⟩⟩
     cases hx:Region.wanted o (yielded ops.toArray a.tmps) with
     | false=>rfl
     | true=>exact absurd (hwi.1 hx) hp
   .have hp:¬BF a.tmps p:=λhp=>hw.1 (A1y h 8 p hp);refine⟨undef,_,none,hw.2,trivial,h.put _ ⟨some p,undef,none⟩ ⟨λhx=>absurd hx hp,λ_=>rfl⟩,.inr ⟨?_,rfl⟩⟩
    cases hx:Region.wanted o (yielded ops.toArray a.tmps) with
    | false=>rfl
    | true=>exact absurd (hwi.1 hx) hp
 .split at hw
  .have hρ:=CC h (cx:=[]) (by simp);split at hw
   .rename_i hn;obtain⟨v,c',hs,hc,c'',hnx,_⟩:=BZ.O9 hw;exact⟨v,_,none,hnx,trivial,B0x h (FP (w:=w) hρ hs (BZ.A1l hs hn w)),.inl ⟨hwi.2 trivial,λw' _=>FP hρ hs (BZ.A1l hs hn w')⟩⟩
   .obtain⟨v,c',hs,hc,c'',hnx,hcc⟩:=BZ.O9 hw;exact⟨v,_,some c'',hnx,(hcc w).1 ⟨hc,trivial⟩,B0x h (FP (w:=w) hρ hs hc),.inl ⟨hwi.2 trivial,λw' hw'=>FP hρ hs ((hcc w').2 hw').1⟩⟩
  .rename_i p;split at hw
   .rename_i hn;obtain⟨v,c'',hnx,hs⟩:=BZ.A0x hw;by_cases hp:BF a.tmps p
    .have hρ:=CC h (hH p hp);obtain⟨c',hs,hc,hcc⟩:=hs (A1y h 8 p hp);exact⟨v,_,none,hnx,trivial,h.put _ ⟨some p,v,none⟩ ⟨λ_=>rfl,λhn=>absurd hp hn⟩,.inl ⟨hwi.2 hp,λw' _=>FP hρ hs (BZ.A1l hs hn w')⟩⟩
    .refine⟨undef,_,none,hnx,trivial,h.put _ ⟨some p,v,none⟩ ⟨λhx=>absurd hx hp,λ_=>rfl⟩,.inr ⟨?_,rfl⟩⟩
     cases hx:Region.wanted o (yielded ops.toArray a.tmps) with
     | false=>rfl
     | true=>exact absurd (hwi.1 hx) hp
   .obtain⟨v,c'',hnx,hs⟩:=BZ.A0x hw;by_cases hp:BF a.tmps p
    .have hρ:=CC h (hH p hp);have hC:=A1y h 8 p hp;obtain⟨c',hs,hc,hcc⟩:=hs hC;refine⟨v,_,_,hnx,λ_=>(hcc w).1 ⟨hc,trivial⟩,h.put _ ⟨some p,v,none⟩ ⟨λ_=>rfl,λhn=>absurd hp hn⟩,.inl ⟨hwi.2 hp,λw' hw'=>?_⟩⟩;exact FP hρ hs ((hcc w').2 (hw' hC)).1
    .by_cases hC:QZ e 8 p
     .obtain⟨c',hs,hc,hcc⟩:=hs hC;refine⟨undef,_,_,hnx,λ_=>(hcc w).1 ⟨hc,trivial⟩,h.put _ ⟨some p,v,none⟩ ⟨λhx=>absurd hx hp,λ_=>rfl⟩,.inr ⟨?_,rfl⟩⟩
      cases hx:Region.wanted o (yielded ops.toArray a.tmps) with
      | false=>rfl
      | true=>exact absurd (hwi.1 hx) hp
     .refine⟨undef,_,_,hnx,λhx=>absurd hx hC,h.put _ ⟨some p,v,none⟩ ⟨λhx=>absurd hx hp,λ_=>rfl⟩,.inr ⟨?_,rfl⟩⟩
      cases hx:Region.wanted o (yielded ops.toArray a.tmps) with
      | false=>rfl
      | true=>exact absurd (hwi.1 hx) hp
theorem MX{P:Program}{τ:Nat->Option TypeId}{ops:List Oper}{e:Env}{a:Act}{o:Oper}{g:Option (Nat×Bool)}{w:World}{next:Env->Option (World->Prop)->Prop}
 (h:BN e a) (hg:MI ops o=some g) (hw:A5z P τ e o g w next) :
 ∃v e' c,next e' c/\SOf c w/\BN e' (a.put o.dst v)/\
  ((Region.wanted o (yielded ops.toArray a.tmps)=true/\∀w',SOf c w'->(execOp a.eval o).run P w'=.ok (.value v) w')\/
   (Region.wanted o (yielded ops.toArray a.tmps)=false/\v=undef)):=by
 have hwi:=FN hg a;unfold A5z at hw;split at hw
 .exact IP h (g:=none) hwi hw
 .rename_i p;split at hw
  .rename_i hk;have:=(A3l h _ _ _ hk).2 rfl;exact IP h (g:=none) ⟨λ_=>trivial,λ_=>hwi.2 this⟩ hw
  .rename_i hk;have hn:¬BF a.tmps p:=λhh=>by simpa using (A3l h _ _ _ hk).1 hh
   refine⟨undef,_,none,hw,trivial,h.put _ _ rfl,.inr ⟨?_,rfl⟩⟩
   cases hx:Region.wanted o (yielded ops.toArray a.tmps) with
   | false=>rfl
   | true=>exact absurd (hwi.1 hx) hn
  .exact IP h (g:=some p) hwi hw
