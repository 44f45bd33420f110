/- Part of an engine. Proved: its laws. Conditions: those in each theorem. -/
import Derived.WalkKit
import Derived.WalkSpells
import Derived.WalkLawsBesides
set_option linter.unusedVariables false
set_option linter.unusedSimpArgs false
namespace Go.Eng
theorem _root_.Go.Calls.AE:type_of% @Go.Calls.mono:=@Go.Calls.mono
theorem tnc(n:Nat):Int.toNat (n:Int)=n:=Int.toNat_natCast n
theorem za(n:Nat):0+n=n:=Nat.zero_add n
theorem mo(n:Nat):n*1=n:=Nat.mul_one n
theorem gar:type_of% @List.getElem?_append_right:=@List.getElem?_append_right
theorem gal:type_of% @List.getElem?_append_left:=@List.getElem?_append_left
theorem lap:type_of% @List.length_append:=@List.length_append
theorem gmp:type_of% @List.getElem?_map:=@List.getElem?_map
theorem DC:type_of% @List.getElem?_eq_some_iff:=@List.getElem?_eq_some_iff
theorem FK:type_of% @Array.getElem?_eq_some_iff:=@Array.getElem?_eq_some_iff
theorem geg:type_of% @List.getElem?_eq_getElem:=@List.getElem?_eq_getElem
theorem lmp:type_of% @List.length_map:=@List.length_map
theorem nll:type_of% @Nat.lt_of_lt_of_le:=@Nat.lt_of_lt_of_le
theorem mcm:type_of% @List.mem_cons_of_mem:=@List.mem_cons_of_mem
theorem nlz:type_of% @Nat.not_lt_zero:=@Nat.not_lt_zero
theorem nlr:type_of% @Nat.le_refl:=@Nat.le_refl
theorem F6:type_of% @List.map_append:=@List.map_append
theorem mcs:type_of% @List.mem_cons_self:=@List.mem_cons_self
theorem mog:type_of% @List.mem_of_getElem?:=@List.mem_of_getElem?
theorem gen:type_of% @List.getElem?_eq_none:=@List.getElem?_eq_none
theorem ato:type_of% @Result.andThen_ok:=@Result.andThen_ok
theorem srb:type_of% @Sem.run_bind:=@Sem.run_bind
theorem srp:type_of% @Sem.run_pure:=@Sem.run_pure
def rd(w:World)(b o:Nat):Option Value:=w.cell? ⟨b,o,none⟩
structure wr(w:World)(b o:Nat):Prop where
 cell:∃v,rd w b o=some v
 free:w.frozen? ⟨b,o,none⟩=false
def st(w:World)(b o:Nat)(v:Value):World:=w.setCell ⟨b,o,none⟩ v
def BB(w:World)(b o:Nat):List Value->Prop
 | []=>True
 | [v]=>rd w b o=some v
 | v::v'::vs=>rd w b o=some v/\BB w b (o+1) (v'::vs)
def pb:Option Addr->Nat
 | some a=>a.block
 | none=>0
def po:Option Addr->Nat
 | some a=>a.off
 | none=>0
def isP:Option Addr->Bool
 | some ⟨_,_,none⟩=>true
 | _=>false
def inB(i:Int)(n:Nat):Bool:=decide (0<=i/\i<(n:Int))
def CZ(l h c:Int):Bool:=decide (0<=l/\l<=h/\h<=c)
def BS(a:Option Addr)(c l s:Nat):Option Addr:=if c=l then a else a.map (·.add (l*s))
def CD(op:BinOp)(k:IntKind)(x y:Int):Int:=
 let a:=BitVec.ofInt k.bits x
 let b:=BitVec.ofInt k.bits y
 match op with
 | .and=>k.wrap (a &&& b).toNat
 | .or=>k.wrap (a ||| b).toNat
 | .xor=>k.wrap (a ^^^ b).toNat
 | _=>k.wrap (a &&& ~~~b).toNat
theorem GB{p:Option Addr}(h:isP p=true):p=some ⟨pb p,po p,none⟩:=by
 cases p with
 | none=>simp [isP] at h
 | some a=>
  obtain⟨b,o,s⟩:=a
  cases s with
  | none=>rfl
  | some x=>simp [isP] at h
structure AB(X:Nat->Prop)(w w':World):Prop where
 os:w'.os=w.os
 tape:w'.tape=w.tape
 out:w'.output=w.output
 sz:w.heap.size<=w'.heap.size
 blk:∀b,b<w.heap.size->¬X b->w'.heap[b]? = w.heap[b]?
abbrev AD:Nat->Prop:=λ_=>False
inductive BZ:Type 1 where
 | fail
 | ret (v:Value)
 | chk (b:Bool) (r:BZ)
 | rdc (c:World->Prop) (r:BZ)
 | ex {α:Type} (f:α->BZ)
inductive Spec:BZ->(World->Prop)->Value->Prop
 | ret (v:Value):Spec (.ret v) (λ_=>True) v
 | chk {r:BZ}{c:World->Prop}{v:Value}:Spec r c v->Spec (.chk true r) c v
 | rdc {r:BZ}{c c0:World->Prop}{v:Value}:Spec r c v->Spec (.rdc c0 r) (λw=>c0 w/\c w) v
 | ex {α:Type}{f:α->BZ}{c:World->Prop}{v:Value} (x:α):Spec (f x) c v->Spec (.ex f) c v
def Wif(b:Bool)(x y:Prop):Prop:=match b with
 | true=>x
 | false=>y
theorem GC{b:Bool}{x y:Prop}(h:Wif b x y):(b=true/\x)\/(b=false/\y):=by
 cases b <;> simp [Wif] at h <;> simp [h]
def BZ.den(w:World)(next:Value->(World->Prop)->Prop):BZ->(World->Prop)->Prop
 | .fail,_=>False
 | .ret v,c=>next v c
 | .chk b r,c=>Wif b (r.den w next c) False
 | .rdc c0 r,c=>c0 w/\r.den w next (λw=>c0 w/\c w)
 | .ex f,c=>∃x,(f x).den w next c
def gIf(b:Bool)(C x:Prop):Prop:=match b with
 | true=>x
 | false=>(C->False)/\x
theorem B5w{b:Bool}{C x:Prop}(h:gIf b C x):(C->b=true)/\x:=by
 cases b
 .exact⟨λhC=>(h.1 hC).elim,h.2⟩
 .exact⟨λ_=>rfl,h⟩
def BZ.A82(C:Prop)(w:World)(next:Value->(World->Prop)->Prop):BZ->(World->Prop)->Prop
 | .fail,c=>(C->False)/\next undef c
 | .ret v,c=>next v c
 | .chk b r,c=>gIf b C (r.A82 C w next c)
 | .rdc c0 r,c=>(C->c0 w)/\r.A82 C w next (λw=>c0 w/\c w)
 | .ex f,c=>∃x,(f x).A82 C w next c
theorem BZ.O9{w:World}{next:Value->(World->Prop)->Prop}:∀{r:BZ}{c:World->Prop},r.den w next c->
 ∃v c',Spec r c' v/\c' w/\∃c'',next v c''/\∀w',c' w'/\c w'↔c'' w':=by
 intro r
 induction r with
 | fail=>intro c h;exact h.elim
 | ret v=>intro c h;exact⟨v,_,.ret v,trivial,c,h,λw'=>by simp⟩
 | chk b r ih=>
  intro c h;rcases GC h with⟨rfl,h⟩|⟨_,h⟩
  .obtain⟨v,c',hs,hc,rest⟩:=ih h;exact⟨v,c',.chk hs,hc,rest⟩
  .exact h.elim
 | rdc c0 r ih=>
  intro c h;obtain⟨h0,h⟩:=h;obtain⟨v,c',hs,hc,c'',hn,hi⟩:=ih h;refine⟨v,_,.rdc hs,⟨h0,hc⟩,c'',hn,λw'=>?_⟩;rw [<- hi w'];constructor
  .rintro ⟨⟨a,b⟩,d⟩;exact⟨b,a,d⟩
  .rintro ⟨b,a,d⟩;exact⟨⟨a,b⟩,d⟩
 | ex f ih=>
  intro c h;obtain⟨x,h⟩:=h;obtain⟨v,c',hs,hc,rest⟩:=ih x h;exact⟨v,c',.ex x hs,hc,rest⟩
theorem BZ.A0x{C:Prop}{w:World}{next:Value->(World->Prop)->Prop}:∀{r:BZ}{c:World->Prop},r.A82 C w next c->
 ∃v c'',next v c''/\(C->∃c',Spec r c' v/\c' w/\∀w',c' w'/\c w'↔c'' w'):=by
 intro r
 induction r with
 | fail=>intro c h;exact⟨undef,c,h.2,λhC=>(h.1 hC).elim⟩
 | ret v=>intro c h;exact⟨v,c,h,λ_=>⟨_,.ret v,trivial,λw'=>by simp⟩⟩
 | chk b r ih=>
  intro c h;obtain⟨hb,h⟩:=B5w h;obtain⟨v,c'',hn,hs⟩:=ih h;refine⟨v,c'',hn,λhC=>?_⟩;obtain⟨c',hs,rest⟩:=hs hC;rw [hb hC];exact⟨c',.chk hs,rest⟩
 | rdc c0 r ih=>
  intro c h;obtain⟨h0,h⟩:=h;obtain⟨v,c'',hn,hs⟩:=ih h;refine⟨v,c'',hn,λhC=>?_⟩;obtain⟨c',hs,hc,hi⟩:=hs hC;refine⟨_,.rdc hs,⟨h0 hC,hc⟩,λw'=>?_⟩;rw [<- hi w'];constructor
  .rintro ⟨⟨a,b⟩,d⟩;exact⟨b,a,d⟩
  .rintro ⟨b,a,d⟩;exact⟨⟨a,b⟩,d⟩
 | ex f ih=>
  intro c h;obtain⟨x,h⟩:=h;obtain⟨v,c'',hn,hs⟩:=ih x h;refine⟨v,c'',hn,λhC=>?_⟩;obtain⟨c',hs,rest⟩:=hs hC;exact⟨c',.ex x hs,rest⟩
def A8k(d:TypeDesc)(k:Value->BZ):BZ:=
 match d with
 | .bool=>.ex λb:Bool=>k (.bool b)
 | .int kd=>.ex λn:Int=>k (.int kd n)
 | .string=>.ex λs:ByteArray=>k (.string s)
 | .pointer _=>.ex λp:Option Addr=>k (.pointer p)
 | .slice _=>.ex λa:Option Addr=>.ex λl:Nat=>.ex λc:Nat=>k (.slice a l c)
 | .map _ _=>.ex λr:Option Nat=>k (.map r)
 | .func _ _ _=>.ex λv:Value=>k v
 | .interface _=>.ex λv:Value=>k v
 | _=>.fail
def A8l(d:TypeDesc)(k:Value->Prop):Prop:=
 match d with
 | .bool=>∃b:Bool,k (.bool b)
 | .int kd=>∃n:Int,k (.int kd n)
 | .string=>∃s:ByteArray,k (.string s)
 | .pointer _=>∃p:Option Addr,k (.pointer p)
 | .slice _=>∃a:Option Addr,∃l c:Nat,k (.slice a l c)
 | .map _ _=>∃r:Option Nat,k (.map r)
 | .func _ _ _=>∃v:Value,k v
 | .interface _=>∃v:Value,k v
 | _=>False
theorem A0o{d:TypeDesc}{k:Value->Prop}(h:A8l d k):∃v,k v:=by
 cases d <;> simp only [A8l] at h <;> first|exact h.elim|skip
 case bool=>obtain⟨b,h⟩:=h;exact⟨_,h⟩
 case int=>obtain⟨b,h⟩:=h;exact⟨_,h⟩
 case string=>obtain⟨b,h⟩:=h;exact⟨_,h⟩
 case pointer=>obtain⟨b,h⟩:=h;exact⟨_,h⟩
 case slice=>obtain⟨a,l,c,h⟩:=h;exact⟨_,h⟩
 case map=>obtain⟨b,h⟩:=h;exact⟨_,h⟩
 case func=>exact h
 case interface=>exact h
def leaves(P:Program):Nat->TypeId->Option (List TypeDesc)
 | 0,_=>none
 | n+1,t=>
  match P.underlying t with
  | some (.struct fs)=>(fs.toList.mapM λf=>leaves P n f.type).map List.flatten
  | some (.array k e)=>(leaves P n e).map λl=>(List.replicate k l).flatten
  | some d=>some [d]
  | none=>none
def AQ(kd:IntKind)(f:Nat->Int):Nat->Nat->List Value
 | _,0=>[]
 | i,n+1=>.int kd (f i)::AQ kd f (i+1) n
theorem AM(kd:IntKind)(f:Nat->Int):∀i n,(AQ kd f i n).length=n
 | _,0=>rfl
 | i,n+1=>by simp [AQ,AM kd f (i+1) n]
theorem AZ(kd:IntKind)(f:Nat->Int):∀i n j,j<n->(AQ kd f i n)[j]? = some (.int kd (f (i+j)))
 | _,0,_,h=>absurd h (nlz _)
 | i,n+1,0,_=>rfl
 | i,n+1,j+1,h=>by
  have:=AZ kd f (i+1) n j (by omega);simp only [AQ,List.getElem?_cons_succ];rw [this,Nat.add_assoc,Nat.add_comm 1 j]
def C0s:TypeDesc->TypeDesc->Bool
 | .int a,.int b=>decide (a=b)
 | _,_=>false
def grp:List TypeDesc->List (Nat×TypeDesc)
 | []=>[]
 | d::ds=>
  match grp ds with
  | []=>[(1,d)]
  | (n,d')::gs=>(match C0s d d' with|true=>(n+1,d')::gs|false=>(1,d)::(n,d')::gs)
def MJ:List (Nat×TypeDesc)->Nat
 | []=>0
 | (n,_)::gs=>n+MJ gs
theorem B2b:∀ds,MJ (grp ds)=ds.length
 | []=>rfl
 | d::ds=>by
  have ih:=B2b ds;simp only [grp]
  cases h:grp ds with
  | nil=>
   rw [h] at ih;simp only [MJ,List.length_cons] at ih ⊢;omega
  | cons g gs=>
   obtain⟨n,d'⟩:=g;rw [h] at ih;dsimp only
   cases C0s d d' <;> (simp only [MJ,List.length_cons] at ih ⊢;omega)
def C4o(d:TypeDesc):Nat->(List Value->BZ)->BZ
 | 0,k=>k []
 | n+1,k=>A8k d λv=>C4o d n λvs=>k (v::vs)
def C00(d:TypeDesc):Nat->(List Value->Prop)->Prop
 | 0,k=>k []
 | n+1,k=>A8l d λv=>C00 d n λvs=>k (v::vs)
def C1t:List (Nat×TypeDesc)->(List Value->BZ)->BZ
 | [],k=>k []
 | (n,d)::gs,k=>
  match d,decide (8<=n) with
  | .int kd,true=>.ex λf:Nat->Int=>C1t gs λvs=>k (AQ kd f 0 n++vs)
  | d,_=>C4o d n λus=>C1t gs λvs=>k (us++vs)
def B7a:List (Nat×TypeDesc)->(List Value->Prop)->Prop
 | [],k=>k []
 | (n,d)::gs,k=>
  match d,decide (8<=n) with
  | .int kd,true=>∃f:Nat->Int,B7a gs λvs=>k (AQ kd f 0 n++vs)
  | d,_=>C00 d n λus=>B7a gs λvs=>k (us++vs)
def A41(ds:List TypeDesc)(k:List Value->BZ):BZ:=C1t (grp ds) k
def B10(ds:List TypeDesc)(k:List Value->Prop):Prop:=B7a (grp ds) k
theorem A2u{d:TypeDesc}:∀{n:Nat}{k:List Value->Prop},C00 d n k->∃vs,k vs
 | 0,_,h=>⟨_,h⟩
 | n+1,k,h=>by
  obtain⟨v,h⟩:=A0o h;obtain⟨vs,h⟩:=A2u h;exact⟨_,h⟩
theorem P0:∀{gs:List (Nat×TypeDesc)}{k:List Value->Prop},B7a gs k->∃vs,k vs
 | [],_,h=>⟨_,h⟩
 | (n,d)::gs,k,h=>by
  unfold B7a at h;split at h
  .obtain⟨f,h⟩:=h;obtain⟨vs,h⟩:=P0 h;exact⟨_,h⟩
  .obtain⟨us,h⟩:=A2u h;obtain⟨vs,h⟩:=P0 h;exact⟨_,h⟩
theorem NZ{k:List Value->Prop}{ds:List TypeDesc}(h:B10 ds k):∃vs,k vs:=P0 h
def B7e(P:Program)(t:TypeId):Bool:=
 match P.underlying t with
 | some (.struct _)|some (.array _ _)=>true
 | _=>false
def B33(P:Program)(t:TypeId)(k:Value->Prop):Prop:=
 match P.underlying t with
 | some (.struct _)|some (.array _ _)=>
  (match leaves P 12 t with
   | some ds=>B10 ds λvs=>k (.agg vs.toArray)
   | none=>False)
 | some d=>A8l d k
 | none=>False
theorem KJ{P:Program}{t:TypeId}{k:Value->Prop}(h:B33 P t k):∃v,k v:=by
 unfold B33 at h;split at h
 .split at h
  .obtain⟨vs,h⟩:=NZ h;exact⟨_,h⟩
  .exact h.elim
 .split at h
  .obtain⟨vs,h⟩:=NZ h;exact⟨_,h⟩
  .exact h.elim
 .exact A0o h
 .exact h.elim
def B7q(P:Program):List TypeId->(List Value->Prop)->Prop
 | [],k=>k []
 | t::ts,k=>B33 P t λv=>B7q P ts λvs=>k (v::vs)
theorem A7t{P:Program}{k:List Value->Prop}:∀{ts:List TypeId},B7q P ts k->∃vs,k vs:=by
 intro ts
 induction ts generalizing k with
 | nil=>intro h;exact⟨_,h⟩
 | cons d ds ih=>
  intro h;obtain⟨v,h⟩:=KJ h;obtain⟨vs,h⟩:=ih h;exact⟨_,h⟩
def C0y(P:Program)(ts:List TypeId)(k:Value->Prop):Prop:=
 match ts with
 | [t]=>B33 P t k
 | ts=>B7q P ts λvs=>k (.tuple vs.toArray)
theorem OS{P:Program}{ts:List TypeId}{k:Value->Prop}(h:C0y P ts k):∃v,k v:=by
 unfold C0y at h;split at h
 .exact KJ h
 .obtain⟨vs,h⟩:=A7t h;exact⟨_,h⟩
def szT(P:Program)(t:TypeId):Nat:=((P.info? t).map (·.size)).getD 0
def B94(P:Program)(t:TypeId):Bool:=(P.info? t).isSome
def LO(P:Program)(t:TypeId)(cs:List Value)(off:Nat):Option Value:=
 match P.info? t with
 | none=>none
 | some i=>
  match B7e P t with
  | true=>some (.agg ((cs.drop off).take i.size).toArray)
  | false=>cs[off]?
def B87(f:TypeId->Value->Value->Option Bool)(P:Program)(xs ys:List Value):List Field->Option Bool
 | []=>some true
 | fd::fs=>
  match fd.name == "_" with
  | true=>B87 f P xs ys fs
  | false=>
   match LO P fd.type xs fd.offset,LO P fd.type ys fd.offset with
   | some a,some b=>
    (match f fd.type a b,B87 f P xs ys fs with
     | some r,some s=>some (r&&s)
     | _,_=>none)
   | _,_=>none
def B97(f:Value->Value->Option Bool)(P:Program)(e:TypeId)(xs ys:List Value)(n:Nat):Nat->Nat->Option Bool
 | _,0=>some true
 | i,k+1=>
  match LO P e xs (i*n),LO P e ys (i*n) with
  | some a,some b=>
   (match f a b,B97 f P e xs ys n (i+1) k with
    | some r,some s=>some (r&&s)
    | _,_=>none)
  | _,_=>none
def eqT(P:Program):Nat->TypeId->Value->Value->Option Bool
 | 0,_,_,_=>none
 | d+1,t,x,y=>
  match P.underlying t,x,y with
  | some .bool,.bool a,.bool b=>some (a==b)
  | some (.int _),.int k a,.int k' b=>(match decide (k=k') with|true=>some (a==b)|false=>none)
  | some (.struct fs),.agg xs,.agg ys=>
   (match P.stoodInHeld t with
    | true=>none
    | false=>B87 (eqT P d) P xs.toList ys.toList fs.toList)
  | some (.array len e),.agg xs,.agg ys=>
   (match P.info? e with
    | none=>none
    | some i=>B97 (eqT P d e) P e xs.toList ys.toList i.size 0 len)
  | _,_,_=>none
section
variable {P:Program}{w:World}
theorem KN{t:TypeId}{d:TypeDesc}(h:P.underlying t=some d):(isAgg t).run P w=.ok (B7e P t) w:=by
 simp only [isAgg,srb,run_underlying h,ato,B7e,h]
 cases d <;> rfl
theorem CF{t:TypeId}{i:TypeInfo}(h:P.info? t=some i):(sizeOf t).run P w=.ok i.size w:=by
 simp [sizeOf,typeInfo,h]
theorem GZ{t:TypeId}{d:TypeDesc}(hu:P.underlying t=some d){cs:Array Value}{off:Nat}{v:Value}(h:LO P t cs.toList off=some v) :
 (part t cs off).run P w=.ok v w:=by
 unfold LO at h
 cases hi:P.info? t with
 | none=>simp [hi] at h
 | some i=>
  rw [hi] at h;simp only [part,srb,KN hu,ato]
  cases ha:B7e P t with
  | true=>
   simp only [ha] at h;simp only [if_true,srb,CF hi,ato,srp]
   cases h
   congr 2;apply Array.ext';simp [List.take_drop,Array.toList_extract]
  | false=>
   simp only [ha] at h;simp only [Bool.false_eq_true,if_false];simp at h;rw [h]
   rfl
theorem B52{d:Nat}{xs ys:Array Value}(hf:∀t x y r w,eqT P d t x y=some r->(Op.equalIn d t x y).run P w=.ok r w)
 (hu:∀t x y r,eqT P d t x y=some r->(P.underlying t).isSome=true) :
 ∀(fs:List Field) (r:Bool) (w:World),B87 (eqT P d) P xs.toList ys.toList fs=some r->(Op.eqFields d xs ys fs).run P w=.ok r w:=by
 intro fs
 induction fs with
 | nil=>intro r w h;simp [B87] at h;subst h;simp [Op.eqFields]
 | cons f fs ih=>
  intro r w h;unfold B87 at h;unfold Op.eqFields
  cases hn:f.name == "_" with
  | true=>
   rw [hn] at h;have hn':f.name = "_" := by simpa using hn
   simp only [hn',ne_eq,not_true_eq_false,if_false];exact ih _ _ h
  | false=>
   rw [hn] at h;have hn':f.name ≠ "_" := by simpa using hn
   rw [if_pos hn']
   cases ha:LO P f.type xs.toList f.offset with
   | none=>simp [ha] at h
   | some a=>
    cases hb:LO P f.type ys.toList f.offset with
    | none=>simp [ha,hb] at h
    | some b=>
     simp only [ha,hb] at h
     cases h1:eqT P d f.type a b with
     | none=>simp [h1] at h
     | some r1=>
      cases h2:B87 (eqT P d) P xs.toList ys.toList fs with
      | none=>simp [h1,h2] at h
      | some r2=>
       simp only [h1,h2] at h;obtain⟨du,hdu⟩:=Option.isSome_iff_exists.1 (hu _ _ _ _ h1);simp only [srb,GZ hdu ha,GZ hdu hb,ato,hf _ _ _ _ _ h1]
       cases r1
       .simp at h;subst h;simp
       .simp at h;subst h;simpa using ih _ _ h2
theorem B53{d:Nat}{e:TypeId}{n:Nat}{xs ys:Array Value}(hf:∀x y r w,eqT P d e x y=some r->(Op.equalIn d e x y).run P w=.ok r w)
 (hu:∀t x y r,eqT P d t x y=some r->(P.underlying t).isSome=true) :
 ∀(k i:Nat) (r:Bool) (w:World),B97 (eqT P d e) P e xs.toList ys.toList n i k=some r->
  (forIn (List.range' i k) ((none,()):Option Bool×Unit) λi _=>do
   let __do_lift <- part e xs (i*n)
   let __do_lift_1 <- part e ys (i*n)
   let __do_lift <- Op.equalIn d e __do_lift __do_lift_1
   if (!__do_lift)=true then pure (ForInStep.done (some false,())) else pure (ForInStep.yield (none,()))).run P w=.ok (if r then(none,()) else(some false,())) w:=by
 intro k
 induction k with
 | zero=>intro i r w h;simp [B97] at h;subst h;simp
 | succ k ih=>
  intro i r w h;unfold B97 at h
  cases ha:LO P e xs.toList (i*n) with
  | none=>simp [ha] at h
  | some a=>
   cases hb:LO P e ys.toList (i*n) with
   | none=>simp [ha,hb] at h
   | some b=>
    simp only [ha,hb] at h
    cases h1:eqT P d e a b with
    | none=>simp [h1] at h
    | some r1=>
     cases h2:B97 (eqT P d e) P e xs.toList ys.toList n (i+1) k with
     | none=>simp [h1,h2] at h
     | some r2=>
      simp only [h1,h2] at h;obtain⟨du,hdu⟩:=Option.isSome_iff_exists.1 (hu _ _ _ _ h1);rw [List.range'_succ,List.forIn_cons];simp only [srb,GZ hdu ha,GZ hdu hb,ato,hf _ _ _ _ h1]
      cases r1
      .simp at h;subst h;simp
      .simp at h;subst h;simp only [Bool.not_true,Bool.false_eq_true,if_false,srp,ato];exact ih _ _ _ h2
theorem A64{d:Nat}{t:TypeId}{x y:Value}{r:Bool}(h:eqT P d t x y=some r):(P.underlying t).isSome=true:=by
 cases d with
 | zero=>simp [eqT] at h
 | succ d=>
  unfold eqT at h
  cases hu:P.underlying t with
  | none=>simp [hu] at h
  | some d=>rfl
theorem A5a:∀(d:Nat) (t:TypeId) (x y:Value) (r:Bool) (w:World),eqT P d t x y=some r->(Op.equalIn d t x y).run P w=.ok r w:=by
 intro d
 induction d with
 | zero=>intro t x y r w h;simp [eqT] at h
 | succ d ih=>
  intro t x y r w h;unfold eqT at h;split at h
  .rename_i hu;simp at h;subst h;simp [Op.equalIn,run_underlying hu]
  .rename_i hu;split at h
   .rename_i hk;have hk:=of_decide_eq_true hk;subst hk;simp at h;subst h;simp [Op.equalIn,run_underlying hu]
   .simp at h
  .rename_i fs xs ys hu;split at h
   .simp at h
   .rename_i hs;have hfs:P.fieldsOf t=fs:=by simp [Program.fieldsOf,hu]
    rw [run_equalIn_struct w d t xs ys (by rw [hfs];exact hu) hs,hfs];exact B52 (λt x y r w h=>ih t x y r w h) (λt x y r h=>A64 h) _ _ _ h
  .rename_i len e xs ys hu;split at h
   .simp at h
   .rename_i i hi;have:=B53 (λx y r w h=>ih e x y r w h) (λt x y r h=>A64 h) len 0 r w h;simp only [Op.equalIn,srb,run_underlying hu,ato,CF hi];rw [Std.Legacy.Range.forIn_eq_forIn_range'];simp only [Std.Legacy.Range.size,Nat.sub_zero,Nat.add_sub_cancel,Nat.div_one];rw [this]
    cases r <;> rfl
  .simp at h
end
def C4q(P:Program)(op:BinOp)(t:TypeId)(x y:Value):BZ:=
 match x,y with
 | .int k a,.int k' b=>
  (match op with
   | .shl=>.chk (decide (0<=b)) (.ret (.int k (k.wrap (a*2^(min b.toNat k.bits)))))
   | .shr=>.chk (decide (0<=b)) (.ret (.int k (a.fdiv (2^(min b.toNat k.bits)))))
   | op=>
    match decide (k=k') with
    | false=>.fail
    | true=>
     match op with
     | .add=>.ret (.int k (k.wrap (a+b)))
     | .sub=>.ret (.int k (k.wrap (a-b)))
     | .mul=>.ret (.int k (k.wrap (a*b)))
     | .quo=>.chk (b != 0) (.ret (.int k (k.wrap (a.tdiv b))))
     | .rem=>.chk (b != 0) (.ret (.int k (a.tmod b)))
     | .and=>.ret (.int k (CD .and k a b))
     | .or=>.ret (.int k (CD .or k a b))
     | .xor=>.ret (.int k (CD .xor k a b))
     | .andNot=>.ret (.int k (CD .andNot k a b))
     | .eql=>.ret (.bool (a==b))
     | .neq=>.ret (.bool (a != b))
     | .lss=>.ret (.bool (decide (a<b)))
     | .leq=>.ret (.bool (decide (a<=b)))
     | .gtr=>.ret (.bool (decide (a>b)))
     | .geq=>.ret (.bool (decide (a>=b)))
     | _=>.fail)
 | .bool a,.bool b=>
  (match P.underlying t,op with
   | some .bool,.eql=>.ret (.bool (a==b))
   | some .bool,.neq=>.ret (.bool (!(a==b)))
   | _,_=>.fail)
 | .pointer p,.pointer none=>
  (match P.underlying t,op with
   | some (.pointer _),.eql=>.ret (.bool p.isNone)
   | some (.pointer _),.neq=>.ret (.bool (!p.isNone))
   | _,_=>.fail)
 | .slice a _ _,.slice none _ _=>
  (match P.underlying t,op with
   | some (.slice _),.eql=>.ret (.bool a.isNone)
   | some (.slice _),.neq=>.ret (.bool (!a.isNone))
   | _,_=>.fail)
 | .map r,.map none=>
  (match P.underlying t,op with
   | some (.map _ _),.eql=>.ret (.bool r.isNone)
   | some (.map _ _),.neq=>.ret (.bool (!r.isNone))
   | _,_=>.fail)
 | .agg xs,.agg ys=>
  (match P.eqGuardType P.depth t,op with
   | false,.eql=>(match eqT P 10000 t (.agg xs) (.agg ys) with|some r=>.ret (.bool r)|none=>.fail)
   | false,.neq=>(match eqT P 10000 t (.agg xs) (.agg ys) with|some r=>.ret (.bool (!r))|none=>.fail)
   | _,_=>.fail)
 | _,_=>.fail
section
variable {P:Program}{w:World}
theorem QB{t:TypeId}{xs ys:Array Value}{r:Bool}(h:eqT P 10000 t (.agg xs) (.agg ys)=some r):(Op.equal t (.agg xs) (.agg ys)).run P w=.ok r w:=
 A5a 10000 t _ _ r w h
theorem A3u(d:Nat){t:TypeId}(hu:P.underlying t=some .bool)(a b:Bool):(Op.equalIn (d+1) t (.bool a) (.bool b)).run P w=.ok (a==b) w:=by
 simp [Op.equalIn,run_underlying hu]
theorem O6(d:Nat){t e:TypeId}(hu:P.underlying t=some (.pointer e))(p:Option Addr):(Op.equalIn (d+1) t (.pointer p) (.pointer none)).run P w=.ok p.isNone w:=by
 cases p <;> simp [Op.equalIn,run_underlying hu]
theorem A0u(d:Nat){t e:TypeId}(hu:P.underlying t=some (.slice e))(p:Option Addr)(a b c f:Nat):(Op.equalIn (d+1) t (.slice p a b) (.slice none c f)).run P w=.ok p.isNone w:=by
 cases p <;> simp [Op.equalIn,run_underlying hu]
theorem A65(d:Nat){t e f:TypeId}(hu:P.underlying t=some (.map e f))(p:Option Nat):(Op.equalIn (d+1) t (.map p) (.map none)).run P w=.ok p.isNone w:=by
 cases p <;> simp [Op.equalIn,run_underlying hu]
theorem A3t(d:Nat){t:TypeId}{ps rs:Array TypeId}{va:Bool}(hu:P.underlying t=some (.func ps rs va))(f:Fn)(a c:Array Value):(Op.equalIn (d+1) t (.func f a c) .nilFunc).run P w=.ok false w:=by
 simp [Op.equalIn,run_underlying hu]
theorem O7(d:Nat){t:TypeId}{ps rs:Array TypeId}{va:Bool}(hu:P.underlying t=some (.func ps rs va)):(Op.equalIn (d+1) t .nilFunc .nilFunc).run P w=.ok true w:=by
 simp [Op.equalIn,run_underlying hu]
theorem PC{t:TypeId}{x y:Value}{r:Bool}(hd:binOp .eql t x y=(do pure (.bool (<- Op.equal t x y)):Sem Value))(h:(Op.equalIn (9999+1) t x y).run P w=.ok r w) :
 (binOp .eql t x y).run P w=.ok (.bool r) w:=by
 rw [hd,srb]
 show(Result.andThen ((Op.equalIn (9999+1) t x y).run P w) _)=_
 rw [h];rfl
theorem OY{t:TypeId}{x y:Value}{r:Bool}(hd:binOp .neq t x y=(do pure (.bool (!(<- Op.equal t x y))):Sem Value))(h:(Op.equalIn (9999+1) t x y).run P w=.ok r w) :
 (binOp .neq t x y).run P w=.ok (.bool (!r)) w:=by
 rw [hd,srb]
 show(Result.andThen ((Op.equalIn (9999+1) t x y).run P w) _)=_
 rw [h];rfl
theorem A8a {op:BinOp}{t:TypeId}{x y:Value}{c:World->Prop}{v:Value} (h:Spec (C4q P op t x y) c v) (ox oy:Operand) :
 ((do eqGuard op t ox oy x y;binOp op t x y:Sem Value)).run P w=.ok v w:=by
 unfold C4q at h;split at h
 ·
  rename_i k a k' b;simp only [eqGuard_at_int,srb,srp,ato];split at h
  .generalize hb:decide (0<=b)=z at h
   cases h with|chk h=>cases h;have hb:=of_decide_eq_true hb;simp [binOp,Op.shift,Int.not_lt.2 hb]
  .generalize hb:decide (0<=b)=z at h
   cases h with|chk h=>cases h;have hb:=of_decide_eq_true hb;simp [binOp,Op.shift,Int.not_lt.2 hb]
  .rename_i hs1 hs2;split at h
   .cases h
   .rename_i hk;have hk:=of_decide_eq_true hk;subst hk;split at h
    .cases h;simp [binOp,Op.intArith]
    .cases h;simp [binOp,Op.intArith]
    .cases h;simp [binOp,Op.intArith]
    .generalize hb:(b != 0)=z at h
     cases h with | chk h => cases h;have hb:¬b=0:=(by simpa using hb);simp [binOp,Op.intDiv,hb]
    .generalize hb:(b != 0)=z at h
     cases h with | chk h => cases h;have hb:¬b=0:=(by simpa using hb);simp [binOp,Op.intDiv,hb]
    .cases h;simp [binOp,Op.intBits,CD]
    .cases h;simp [binOp,Op.intBits,CD]
    .cases h;simp [binOp,Op.intBits,CD]
    .cases h;simp [binOp,Op.intBits,CD]
    .cases h;simp [binOp,Op.intCmp]
    .cases h;simp [binOp,Op.intCmp]
    .cases h;simp [binOp,Op.intCmp]
    .cases h;simp [binOp,Op.intCmp]
    .cases h;simp [binOp,Op.intCmp]
    .cases h;simp [binOp,Op.intCmp]
    .cases h
 .rename_i a b;simp only [eqGuard_at_bool,srb,srp,ato];split at h
  .rename_i hu;cases h;exact PC rfl (A3u _ hu _ _)
  .rename_i hu;cases h;exact OY rfl (A3u _ hu _ _)
  .cases h
 .rename_i p;simp only [eqGuard_at_pointer,srb,srp,ato];split at h
  .rename_i hu;cases h;exact PC rfl (O6 _ hu _)
  .rename_i hu;cases h;exact OY rfl (O6 _ hu _)
  .cases h
 .rename_i a _ _ _ _;simp only [eqGuard_at_slice,srb,srp,ato];split at h
  .rename_i hu;cases h;exact PC rfl (A0u _ hu _ _ _ _ _)
  .rename_i hu;cases h;exact OY rfl (A0u _ hu _ _ _ _ _)
  .cases h
 .rename_i a;simp only [eqGuard_at_map,srb,srp,ato];split at h
  .rename_i hu;cases h;exact PC rfl (A65 _ hu _)
  .rename_i hu;cases h;exact OY rfl (A65 _ hu _)
  .cases h
 .rename_i xs ys;split at h
  .rename_i hg;split at h
   .rename_i r hr;cases h;simp [eqGuard,hg,binOp,QB hr]
   .cases h
  .rename_i hg;split at h
   .rename_i r hr;cases h;simp [eqGuard,hg,binOp,QB hr]
   .cases h
  .cases h
 .cases h
end
def isF:Value->Bool
 | .func _ _ _=>true
 | _=>false
def okF:Value->Bool
 | .func _ _ _=>true
 | .nilFunc=>true
 | _=>false
def C1j:Operand->Bool
 | .const .nilFunc=>true
 | _=>false
def B75(P:Program)(op:BinOp)(t:TypeId)(a:Value):BZ:=
 match P.underlying t,op with
 | some (.func _ _ _),.eql=>.chk (okF a) (.ret (.bool (!isF a)))
 | some (.func _ _ _),.neq=>.chk (okF a) (.ret (.bool (isF a)))
 | _,_=>.fail
def C3t(P:Program)(t:TypeId):Bool:=
 match P.underlying t with
 | some (.func _ _ _)=>B94 P t&&szT P t==1
 | _=>false
theorem B82{P:Program}{t:TypeId}(h:C3t P t=true):B94 P t=true/\szT P t=1:=by
 unfold C3t at h;split at h
 .simpa using h
 .cases h
theorem DG{v:Value}(h:okF v=true):v.cells=#[v]:=by
 cases v <;> simp only [okF,Bool.false_eq_true] at h
 .rfl
 .rfl
def fnP(P:Program)(t:TypeId)(i:Nat):Bool:=
 match P.underlying t with
 | some (.struct fs)=>(match fs.toList[i]? with|some fd=>C3t P fd.type|none=>false)
 | _=>false
def B30(P:Program)(t:TypeId):List (Nat×Value)->List (Nat×Value)
 | []=>[]
 | (i,v)::r=>(i,match fnP P t i with|true=>.agg #[v]|false=>v)::B30 P t r
def KC(P:Program)(t:TypeId):List (Nat×Value)->List Value
 | []=>[]
 | (i,v)::r=>match fnP P t i with|true=>v::KC P t r|false=>KC P t r
def B9t:List Value->Bool
 | []=>true
 | [v]=>okF v
 | v::v'::vs=>okF v&&B9t (v'::vs)
theorem A7k:∀{vs:List Value},B9t vs=true->∀v∈vs,okF v=true
 | [],_,v,hv=>by cases hv
 | [u],h,v,hv=>by simp at hv;subst hv;exact h
 | u::u'::us,h,v,hv=>by
  simp only [B9t,Bool.and_eq_true] at h;rcases List.mem_cons.1 hv with rfl|hv
  .exact h.1
  .exact A7k h.2 v hv
theorem A0t(P:Program)(t:TypeId)(place:Nat->Option (Nat×Nat)):∀(ps:List (Nat×Value)) (cs:Array Value),(∀v∈KC P t ps,okF v=true)->Instr.fill place cs (B30 P t ps)=Instr.fill place cs ps
 | [],_,_=>rfl
 | (i,v)::r,cs,h=>by
  have e:(match fnP P t i with|true=>Value.agg #[v]|false=>v).cells=v.cells:=by
   cases hf:fnP P t i with
   | false=>rfl
   | true=>
    have:v∈KC P t ((i,v)::r):=by simp [KC,hf]
    exact(DG (h v this)).symm
  have hr:∀u∈KC P t r,okF u=true:=λu hu=>h u (by
   unfold KC
   cases fnP P t i with
   | false=>exact hu
   | true=>exact mcm _ hu)
  simp only [B30,Instr.fill];rw [e]
  cases place i with
  | none=>rfl
  | some x=>
   obtain⟨off,size⟩:=x;simp only;split
   .rfl
   .exact A0t P t place r _ hr
def IZ(ρ:Operand->Option Value):List Operand->Option (List Value)
 | []=>some []
 | x::xs=>
  match ρ x,IZ ρ xs with
  | some v,some vs=>some (v::vs)
  | _,_=>none
def OW(ρ:Operand->Option Value):List (Nat×Operand)->Option (List (Nat×Value))
 | []=>some []
 | (i,x)::xs=>
  match ρ x,OW ρ xs with
  | some v,some vs=>some ((i,v)::vs)
  | _,_=>none
def qUn(op:UnOp)(x:Value):BZ:=
 match op,x with
 | .neg,.int k n=>.ret (.int k (k.wrap (0-n)))
 | .not,.bool b=>.ret (.bool (!b))
 | _,_=>.fail
def B76(P:Program)(src dst:TypeId)(x:Value):BZ:=
 match P.underlying src,P.underlying dst,x with
 | some (.int _),some (.int k),.int _ n=>.ret (.int k (k.wrap n))
 | _,_,_=>.fail
def C0f(P:Program)(t:TypeId)(k:Value->BZ):BZ:=
 match P.underlying t with
 | some (.struct _)|some (.array _ _)=>
  (match leaves P 12 t with
   | some ds=>A41 ds λvs=>k (.agg vs.toArray)
   | none=>.fail)
 | some d=>A8k d k
 | none=>.fail
def B4l(P:Program)(t:TypeId)(x:Value):BZ:=
 match x with
 | .pointer p=>
  .chk (isP p) (match B7e P t with
   | true=>
    (match leaves P 12 t with
     | some ds=>
      (match ds.length==szT P t&&B94 P t with
       | true=>A41 ds λvs=>.rdc (λw=>BB w (pb p) (po p) vs) (.ret (.agg vs.toArray))
       | false=>.fail)
     | none=>.fail)
   | false=>
    match P.underlying t with
    | some d=>A8k d λv=>.rdc (λw=>rd w (pb p) (po p)=some v) (.ret v)
    | none=>.fail)
 | _=>.fail
def ME(P:Program)(s:TypeId)(x:Value)(f:Nat):BZ:=
 match P.underlying s,x with
 | some (.struct fs),.pointer p=>
  (match fs.toList[f]? with
   | some fd=>
    (match P.info? fd.type with
     | some i=>(match i.size==0 with
      | false=>.chk (isP p) (.ret (.pointer (some ⟨pb p,po p+fd.offset,none⟩)))
      | true=>.fail)
     | none=>.fail)
   | none=>.fail)
 | _,_=>.fail
def MD(P:Program)(t:TypeId)(x ix:Value):BZ:=
 match P.underlying t,x,ix with
 | some (.array n e),.pointer p,.int _ i=>
  (match P.info? e with
   | some ti=>.chk (isP p) (.chk (inB i n) (.ret (.pointer (some ⟨pb p,po p+i.toNat*ti.size,none⟩))))
   | none=>.fail)
 | some (.slice e),.slice a l _,.int _ i=>
  (match P.info? e with
   | some ti=>.chk (isP a) (.chk (inB i l) (.ret (.pointer (some ⟨pb a,po a+i.toNat*ti.size,none⟩))))
   | none=>.fail)
 | _,_,_=>.fail
def B0v(P:Program)(t:TypeId)(x ix:Value):BZ:=
 match P.underlying t,x,ix with
 | some (.array n e),.agg cs,.int _ i=>
  (match B7e P e,P.underlying e,P.info? e with
   | false,some d,some ti=>.chk (inB i n) (A8k d λv=>.rdc (λ_=>cs.toList[i.toNat*ti.size]? = some v) (.ret v))
   | _,_,_=>.fail)
 | _,_,_=>.fail
def A1c(x:Value)(i:Nat):BZ:=
 match x with
 | .tuple vs=>(match vs.toList[i]? with|some v=>.ret v|none=>.fail)
 | _=>.fail
def OT(P:Program)(t:TypeId)(x:Value)(lo hi:Option Value):BZ:=
 match P.underlying t,x with
 | some (.slice e),.slice a l c=>
  (match P.info? e,lo,hi with
   | some _,none,none=>.chk (CZ 0 l c) (.ret (.slice a l c))
   | some _,none,some (.int _ h)=>.chk (CZ 0 h c) (.ret (.slice a h.toNat c))
   | some ti,some (.int _ k),none=>.chk (CZ k l c) (.ret (.slice (BS a c k.toNat ti.size) (l-k.toNat) (c-k.toNat)))
   | some ti,some (.int _ k),some (.int _ h)=>.chk (CZ k h c) (.ret (.slice (BS a c k.toNat ti.size) (h.toNat-k.toNat) (c-k.toNat)))
   | _,_,_=>.fail)
 | some (.array n e),.pointer p=>
  (match P.info? e,lo,hi with
   | some _,none,none=>.chk (isP p) (.ret (.slice p n n))
   | some _,none,some (.int _ h)=>.chk (isP p) (.chk (CZ 0 h n) (.ret (.slice p h.toNat n)))
   | some ti,some (.int _ k),none=>.chk (isP p) (.chk (CZ k n n) (.ret (.slice (BS p n k.toNat ti.size) (n-k.toNat) (n-k.toNat))))
   | some ti,some (.int _ k),some (.int _ h)=>.chk (isP p) (.chk (CZ k h n) (.ret (.slice (BS p n k.toNat ti.size) (h.toNat-k.toNat) (n-k.toNat))))
   | _,_,_=>.fail)
 | _,_=>.fail
def A4m(P:Program)(t:TypeId)(x lo hi mx:Value):BZ:=
 match P.underlying t,x,lo,hi,mx with
 | some (.slice e),.slice a _ c,.int _ k,.int _ h,.int _ m=>
  (match P.info? e with
   | some ti=>.chk (CZ k h m) (.chk (CZ 0 m c) (.ret (.slice (BS a m.toNat k.toNat ti.size) (h.toNat-k.toNat) (m.toNat-k.toNat))))
   | none=>.fail)
 | _,_,_,_,_=>.fail
structure EA(P:Program)(t:TypeId)(m k:Value)(two:Bool)(v:Value)(w:World):Prop where
 run:(Instr.lookup t m k two).run P w=.ok v w
def A4o(P:Program)(t:TypeId)(m k:Value)(two:Bool):BZ:=
 match P.underlying t with
 | some (.map _ e)=>
  (match two with
   | true=>C0f P e λv=>.ex λb:Bool=>.rdc (EA P t m k true (.tuple #[v,.bool b])) (.ret (.tuple #[v,.bool b]))
   | false=>C0f P e λv=>.rdc (EA P t m k false v) (.ret v))
 | _=>.fail
structure B88(P:Program)(it v:Value)(w:World):Prop where
 run:(Instr.entry it).run P w=.ok v w
def B5i(P:Program)(t:Option TypeId)(k:Value->BZ):BZ:=
 match t with
 | some t=>C0f P t k
 | none=>.ex λv:Value=>k v
def B60(P:Program)(τ:Nat->Option TypeId)(ρ:Operand->Option Value)(it:Operand):BZ:=
 match ρ it with
 | some a=>B5i P (τ 0) λk=>B5i P (τ 1) λv=>.rdc (B88 P a (.tuple #[k,v])) (.ret (.tuple #[k,v]))
 | none=>.fail
def C13(ops:List Oper)(d:Option Tmp)(i:Nat):Option TypeId:=
 match d with
 | none=>none
 | some s=>(ops.find? λo=>match o.op with|.extract (.tmp s') i'=>s'==s&&i'==i|_=>false).map (·.type)
structure QO(P:Program)(ts:Array TypeId)(t:TypeId)(m:Value)(n:Int)(w:World):Prop where
 run:(Builtin.len_ ts t #[m]).run P w=.ok (.int .i64 n) w
def A1d(P:Program)(b:Builtin)(ts:Array TypeId)(ty:TypeId)(args:List Value):BZ:=
 match b,ts.toList,args with
 | .len,t::_,[x]=>
  (match P.underlying t,x with
   | some (.slice _),.slice _ n _=>.ret (.int .i64 n)
   | some .string,.string s=>.ret (.int .i64 s.size)
   | some (.array n _),_=>.ret (.int .i64 n)
   | some (.map _ _),.map r=>.ex λn:Int=>.rdc (QO P ts ty (.map r) n) (.ret (.int .i64 n))
   | _,_=>.fail)
 | .cap,t::_,[x]=>
  (match P.underlying t,x with
   | some (.slice _),.slice _ _ c=>.ret (.int .i64 c)
   | _,_=>.fail)
 | .min,_,[.int k x,.int _ y]=>.ret (.int k (if y<x then y else x))
 | .max,_,[.int k x,.int _ y]=>.ret (.int k (if y>x then y else x))
 | _,_,_=>.fail
def B0w(P:Program)(arr:TypeId)(x:Value):BZ:=
 match P.underlying arr,x with
 | some (.array n _),.slice a l _=>.chk (decide (n<=l)) (.ret (.pointer a))
 | _,_=>.fail
def qOp(P:Program)(τ:Nat->Option TypeId)(ρ:Operand->Option Value)(o:Oper):BZ:=
 match o.op with
 | .move x=>(match ρ x with|some v=>.ret v|none=>.fail)
 | .assign x=>(match ρ x with|some v=>.ret v|none=>.fail)
 | .nilCheck x=>
  (match ρ x with
   | some (.pointer p)=>.chk (isP p) (.ret (.pointer (some ⟨pb p,po p,none⟩)))
   | some (.func (.func f) a c)=>.ret (.func (.func f) a c)
   | _=>.fail)
 | .binOp op t x y _=>
  (match C1j y with
   | true=>(match ρ x,ρ y with|some a,some .nilFunc=>B75 P op t a|_,_=>.fail)
   | false=>(match ρ x,ρ y with|some a,some b=>C4q P op t a b|_,_=>.fail))
 | .unOp op _ x=>(match ρ x with|some a=>qUn op a|none=>.fail)
 | .convert s d x=>(match ρ x with|some a=>B76 P s d a|none=>.fail)
 | .fieldAddr s x f=>(match ρ x with|some a=>ME P s a f|none=>.fail)
 | .indexAddr t x i=>(match ρ x,ρ i with|some a,some b=>MD P t a b|_,_=>.fail)
 | .index t x i=>(match ρ x,ρ i with|some a,some b=>B0v P t a b|_,_=>.fail)
 | .extract x i=>(match ρ x with|some a=>A1c a i|none=>.fail)
 | .slice t x lo hi none=>
  (match ρ x,lo,hi with
   | some a,none,none=>OT P t a none none
   | some a,some l,none=>(match ρ l with|some l=>OT P t a (some l) none|none=>.fail)
   | some a,none,some h=>(match ρ h with|some h=>OT P t a none (some h)|none=>.fail)
   | some a,some l,some h=>(match ρ l,ρ h with|some l,some h=>OT P t a (some l) (some h)|_,_=>.fail)
   | _,_,_=>.fail)
 | .slice t x (some lo) (some hi) (some mx)=>
  (match ρ x,ρ lo,ρ hi,ρ mx with
   | some a,some l,some h,some m=>A4m P t a l h m
   | _,_,_,_=>.fail)
 | .build t parts=>
  (match OW ρ parts.toList with
   | some ps=>
    (match KC P t ps with
     | []=>(match P.built t ps with|some cells=>.ret (.agg cells)|none=>.fail)
     | v::vs=>.chk (B9t (v::vs)) (match P.built t (B30 P t ps) with|some cells=>.ret (.agg cells)|none=>.fail))
   | none=>.fail)
 | .makeFunc fn first cap=>
  (match IZ ρ first.toList,IZ ρ cap.toList with
   | some a,some b=>.ret (.func fn a.toArray b.toArray)
   | _,_=>.fail)
 | .makeInterface t x=>
  (match ρ x,P.underlying t with
   | some _,some (.interface _)=>.fail
   | some a,some _=>.ret (.iface t a)
   | _,_=>.fail)
 | .load t x=>(match ρ x with|some a=>B4l P t a|none=>.fail)
 | .lookup t m k two=>(match ρ m,ρ k with|some a,some b=>A4o P t a b two|_,_=>.fail)
 | .call {callee:=.builtin b,args:=args,argTypes:=ts}=>
  (match IZ ρ args.toList with|some vs=>A1d P b ts o.type vs|none=>.fail)
 | .entry it=>B60 P τ ρ it
 | .sliceToArrayPointer arr x=>(match ρ x with|some a=>B0w P arr a|none=>.fail)
 | _=>.fail
def quiet(P:Program):Op->Bool
 | .move _|.assign _|.nilCheck _|.binOp ..|.unOp ..|.fieldAddr ..|.indexAddr ..|.index ..|.extract ..|.build ..|.makeFunc ..|.makeInterface ..
 | .load ..|.lookup ..|.entry _|.sliceToArrayPointer ..=>true
 | .convert s d _=>(match P.underlying s,P.underlying d with|_,some (.int _)=>true|some (.slice _),some .string=>true|_,_=>false)
 | .slice _ _ _ _ none=>true
 | .slice _ _ (some _) (some _) (some _)=>true
 | .call {callee:=.builtin .len,..}|.call {callee:=.builtin .cap,..}|.call {callee:=.builtin .min,..}|.call {callee:=.builtin .max,..}=>true
 | _=>false
section
variable {P:Program}{w:World}
theorem JH{d:TypeDesc}{k:Value->BZ}{c:World->Prop}{v:Value}(h:Spec (A8k d k) c v):∃u,Spec (k u) c v:=by
 cases d <;> simp only [A8k] at h <;> first|(cases h;done)|skip
 all_goals first
  | (cases h with|ex x h=>exact⟨_,h⟩)
  | (cases h with|ex x h=>cases h with|ex y h=>cases h with|ex z h=>exact⟨_,h⟩)
theorem A2h{d:TypeDesc}{c:World->Prop}{v:Value}:∀{n:Nat}{k:List Value->BZ},Spec (C4o d n k) c v->∃us,us.length=n/\Spec (k us) c v
 | 0,k,h=>⟨[],rfl,h⟩
 | n+1,k,h=>by
  obtain⟨u,h⟩:=JH h;obtain⟨us,hl,h⟩:=A2h h;exact⟨u::us,by simp [hl],h⟩
theorem OQ{c:World->Prop}{v:Value}:∀{gs:List (Nat×TypeDesc)}{k:List Value->BZ},Spec (C1t gs k) c v->∃us,us.length=MJ gs/\Spec (k us) c v
 | [],k,h=>⟨[],rfl,h⟩
 | (n,d)::gs,k,h=>by
  unfold C1t at h;split at h
  .cases h with
   | ex f h=>
    obtain⟨us,hl,h⟩:=OQ h;exact⟨_,by simp [AM,MJ,hl],h⟩
  .obtain⟨us,hl,h⟩:=A2h h;obtain⟨us',hl',h⟩:=OQ h;exact⟨_,by simp [MJ,hl,hl'],h⟩
theorem JG{k:List Value->BZ}{c:World->Prop}{v:Value}{ds:List TypeDesc}(h:Spec (A41 ds k) c v):∃us,us.length=ds.length/\Spec (k us) c v:=by
 obtain⟨us,hl,h⟩:=OQ h;exact⟨us,by rw [hl,B2b],h⟩
theorem OP{t:TypeId}{k:Value->BZ}{c:World->Prop}{v:Value}(h:Spec (C0f P t k) c v):∃u,Spec (k u) c v:=by
 unfold C0f at h;split at h
 .split at h
  .obtain⟨us,_,h⟩:=JG h;exact⟨_,h⟩
  .cases h
 .split at h
  .obtain⟨us,_,h⟩:=JG h;exact⟨_,h⟩
  .cases h
 .exact JH h
 .cases h
theorem BH{b:Bool}{r:BZ}{c:World->Prop}{v:Value}(h:Spec (.chk b r) c v):b=true/\Spec r c v:=by
 generalize hb:b=z at h
 cases h with|chk h=>exact⟨rfl,h⟩
theorem BG{u v:Value}{c:World->Prop}(h:Spec (.ret u) c v):u=v:=by cases h;rfl
theorem HF{r:BZ}{c0 c:World->Prop}{v:Value}(h:Spec (.rdc c0 r) c v):∃c1,Spec r c1 v/\∀w,c w->c0 w/\c1 w:=by
 cases h with|rdc h=>exact⟨_,h,λw hw=>hw⟩
theorem A4g{α:Type}{f:α->BZ}{c:World->Prop}{v:Value}(h:Spec (.ex f) c v):∃x,Spec (f x) c v:=by
 cases h with|ex x h=>exact⟨x,h⟩
theorem B0u{op:UnOp}{x:Value}{c:World->Prop}{v:Value}(h:Spec (qUn op x) c v):(Op.unary op x).run P w=.ok v w:=by
 unfold qUn at h;split at h
 .cases h;simp [Op.unary,Op.intArith]
 .cases h;simp [Op.unary]
 .cases h
theorem A4p{s d:TypeId}{x:Value}{c:World->Prop}{v:Value}(h:Spec (B76 P s d x) c v)(hc:c w):(convert s d x).run P w=.ok v w:=by
 unfold B76 at h;split at h
 .rename_i hs hd;cases h;simp [convert,run_underlying hs,run_underlying hd,Conv.intToInt]
 .cases h
theorem B4k{b:Nat}:∀(vs:List Value) (o:Nat),BB w b o vs->∀j v,vs[j]? = some v->rd w b (o+j)=some v:=by
 intro vs
 induction vs with
 | nil=>intro o _ j v h;simp at h
 | cons x xs ih=>
  intro o h j v hj
  cases xs with
  | nil=>
   cases j with
   | zero=>simp at hj;subst hj;exact h
   | succ j=>simp at hj
  | cons y ys=>
   obtain⟨h1,h2⟩:=h
   cases j with
   | zero=>simp at hj;subst hj;exact h1
   | succ j=>
    have:=ih (o+1) h2 j v (by simpa using hj);rw [show o+(j+1)=o+1+j by omega];exact this
theorem QP{t:TypeId}(h:B94 P t=true):∃i,P.info? t=some i/\szT P t=i.size:=by
 obtain⟨i,hi⟩:=Option.isSome_iff_exists.1 h;exact⟨i,hi,by simp [szT,hi]⟩
theorem A4d{t:TypeId}(h:B7e P t=true):∃d,P.underlying t=some d:=by
 unfold B7e at h
 cases hu:P.underlying t with
 | none=>simp [hu] at h
 | some d=>exact⟨d,rfl⟩
theorem QD{t:TypeId}{x:Value}{c:World->Prop}{v:Value}(h:Spec (B4l P t x) c v)(hc:c w):(Instr.loadAt t x).run P w=.ok v w:=by
 unfold B4l at h;split at h
 .rename_i p;have hp:=(BH h).1;replace h:=(BH h).2;have hp:=GB hp;generalize pb p=b at *;generalize po p=o at *;subst hp;split at h
  .rename_i ha;split at h
   .rename_i ds hds;split at h
    .rename_i hl;simp only [Bool.and_eq_true,beq_iff_eq] at hl;obtain⟨us,hlen,h⟩:=JG h;obtain⟨c1,h,hcc⟩:=HF h;have:=BG h;subst this;obtain⟨d,hu⟩:=A4d ha;obtain⟨i,hi,hs⟩:=QP hl.2;have hr:=(hcc w hc).1;have hcells:=run_loadCells_list (P:=P) (w:=w) ⟨b,o,none⟩ us (λj v hj=>by
      rw [Addr.add_lit];exact B4k us o hr j v hj)
     simp only [Instr.loadAt,Instr.sureAddr,loadVar,srb,srp,ato,KN hu,ha,if_true,CF hi];rw [<- hs,<- hl.1,<- hlen,hcells]
     rfl
    .cases h
   .cases h
  .rename_i ha;split at h
   .rename_i d hu;obtain⟨u,h⟩:=JH h;obtain⟨c1,h,hcc⟩:=HF h;have:=BG h;subst this;have hr:w.cell? ⟨b,o,none⟩=some u:=(hcc w hc).1;simp only [Instr.loadAt,Instr.sureAddr,loadVar,srb,srp,ato,KN hu,ha,Bool.false_eq_true,if_false,run_load,hr]
   .cases h
 .cases h
theorem OV{s:TypeId}{x:Value}{f:Nat}{c:World->Prop}{v:Value}(h:Spec (ME P s x f) c v):(Instr.fieldAt s x f).run P w=.ok v w:=by
 unfold ME at h;split at h
 .rename_i fs p hu;split at h
  .rename_i fd hfd;split at h
   .rename_i i hi;split at h
    .rename_i hz;have hp:=(BH h).1;replace h:=(BH h).2;have:=BG h;subst this;have hp:=GB hp;generalize pb p=b at *;generalize po p=o at *;subst hp;have hz':¬i.size=0:=by simpa using hz
     have hfd':fs[f]? = some fd:=by simpa using hfd
     simp [Instr.fieldAt,run_underlying hu,hfd',Instr.sureAddr,fieldPlace,CF hi,hz',Addr.add_lit]
    .cases h
   .cases h
  .cases h
 .cases h
theorem A1s{i:Int}{n:Nat}(h:inB i n=true):0<=i/\i<(n:Int):=of_decide_eq_true h
theorem J4{l h c:Int}(hh:CZ l h c=true):0<=l/\l<=h/\h<=c:=of_decide_eq_true hh
theorem OU{t:TypeId}{x ix:Value}{c:World->Prop}{v:Value}(h:Spec (MD P t x ix) c v):(Instr.indexAt t x ix).run P w=.ok v w:=by
 unfold MD at h;split at h
 .rename_i n e p k i hu;split at h
  .rename_i ti hi;have hp:=(BH h).1;replace h:=(BH h).2;obtain⟨hb,h⟩:=BH h;have:=BG h;subst this;have hb:=A1s hb;have hp:=GB hp;generalize pb p=b at *;generalize po p=o at *;subst hp;simp [Instr.indexAt,run_underlying hu,asIntOf,Instr.sureAddr,hb,CF hi,Addr.add_lit]
  .cases h
 .rename_i e a l cp k i hu;split at h
  .rename_i ti hi;have hp:=(BH h).1;replace h:=(BH h).2;obtain⟨hb,h⟩:=BH h;have:=BG h;subst this;have hb:=A1s hb;have hp:=GB hp;generalize pb a=b at *;generalize po a=o at *;subst hp;simp [Instr.indexAt,run_underlying hu,asIntOf,hb,CF hi,Addr.add_lit]
  .cases h
 .cases h
theorem A2w{t:TypeId}{x ix:Value}{c:World->Prop}{v:Value}(h:Spec (B0v P t x ix) c v)(hc:c w):(Instr.index t x ix).run P w=.ok v w:=by
 unfold B0v at h;split at h
 .rename_i n e cs k i hu;split at h
  .rename_i d ti ha hd hi;obtain⟨hb,h⟩:=BH h;obtain⟨u,h⟩:=JH h;obtain⟨c1,h,hcc⟩:=HF h;have:=BG h;subst this;have hb:=A1s hb;have hr:cs[i.toNat*ti.size]? = some u:=by simpa using (hcc w hc).1
   simp [Instr.index,run_underlying hu,asIntOf,hb,CF hi,part,KN hd,ha,hr]
  .cases h
 .cases h
theorem A0d{x:Value}{i:Nat}{c:World->Prop}{v:Value}(h:Spec (A1c x i) c v):(Instr.extract x i).run P w=.ok v w:=by
 unfold A1c at h;split at h
 .split at h
  .rename_i u hv;have:=BG h;subst this;have hv':=hv;rw [Array.getElem?_toList] at hv';simp [Instr.extract,hv']
  .cases h
 .cases h
theorem C0l(a:Option Addr)(n:Nat)(h:n=0):a.map (·.add n)=a:=by
 subst h
 cases a with
 | none=>rfl
 | some a=>simp [Addr.add]
theorem C63(isS:Bool)(len cap:Nat):(Instr.sliceBounds isS len cap none none none).run P w=.ok (0,len,cap) w:=by
 simp [Instr.sliceBounds]
theorem C62(isS:Bool)(len cap:Nat){k:IntKind}{h:Int}(hh:CZ 0 h cap=true):(Instr.sliceBounds isS len cap none (some (.int k h)) none).run P w=.ok (0,h.toNat,cap) w:=by
 have hb:=J4 hh;simp only [Instr.sliceBounds,srb,srp,ato,run_sliceBound (w:=w) (P:=P) k h cap _ hb.2.1 hb.2.2]
theorem C61(isS:Bool)(len cap:Nat){k:IntKind}{l:Int}(hh:CZ l len cap=true):(Instr.sliceBounds isS len cap (some (.int k l)) none none).run P w=.ok (l.toNat,len,cap) w:=by
 have hb:=J4 hh;simp only [Instr.sliceBounds,srb,srp,ato,run_sliceBound (w:=w) (P:=P) k l len _ hb.1 hb.2.1]
theorem C60(isS:Bool)(len cap:Nat){k k':IntKind}{l h:Int}(hh:CZ l h cap=true):(Instr.sliceBounds isS len cap (some (.int k l)) (some (.int k' h)) none).run P w=.ok (l.toNat,h.toNat,cap) w:=by
 have hb:=J4 hh;have h2:l<=((h.toNat:Nat):Int):=by omega
 simp only [Instr.sliceBounds,srb,srp,ato,run_sliceBound (w:=w) (P:=P) k' h cap _ (by omega) hb.2.2,run_sliceBound (w:=w) (P:=P) k l h.toNat _ hb.1 h2]
theorem A57{t e:TypeId}{i:TypeInfo}{a:Option Addr}{len cap:Nat}{lo hi:Option Value}{l h:Nat}(hu:P.underlying t=some (.slice e))(hi':P.info? e=some i)
 (hb:(Instr.sliceBounds true len cap lo hi none).run P w=.ok (l,h,cap) w) :
 (Instr.sliceAt t (.slice a len cap) lo hi none).run P w=.ok (.slice (BS a cap l i.size) (h-l) (cap-l)) w:=by
 simp only [Instr.sliceAt,srb,run_underlying hu,ato,Instr.slice,hb,srp,CF hi',BS]
theorem RX{t e:TypeId}{n:Nat}{i:TypeInfo}{a:Addr}{lo hi:Option Value}{l h:Nat}(hu:P.underlying t=some (.array n e))(hi':P.info? e=some i)
 (hb:(Instr.sliceBounds false n n lo hi none).run P w=.ok (l,h,n) w) :
 (Instr.sliceAt t (.pointer (some a)) lo hi none).run P w=.ok (.slice (BS (some a) n l i.size) (h-l) (n-l)) w:=by
 simp only [Instr.sliceAt,srb,run_underlying hu,ato,hb,srp,CF hi',BS,Instr.sureAddr];congr 2;split <;> rfl
theorem KO(a:Option Addr)(c s:Nat):BS a c 0 s=a:=by
 unfold BS;rw [Nat.zero_mul,C0l a 0 rfl];simp
theorem GQ{t:TypeId}{x:Value}{lo hi:Option Value}{c:World->Prop}{v:Value}(h:Spec (OT P t x lo hi) c v):(Instr.sliceAt t x lo hi none).run P w=.ok v w:=by
 unfold OT at h;split at h
 .rename_i e a l cp hu;split at h <;> rename_i hi' <;> first|(cases h;done)|skip
  all_goals
   have hb:=(BH h).1;have hv:=BG (BH h).2;subst hv
  .rw [A57 hu hi' (C63 _ _ _),KO];simp
  .rw [A57 hu hi' (C62 _ _ _ hb),KO];simp
  .rw [A57 hu hi' (C61 _ _ _ hb)]
  .rw [A57 hu hi' (C60 _ _ _ hb)]
 .rename_i n e p hu;split at h <;> rename_i hi' <;> first|(cases h;done)|skip
  all_goals
   have hp:=GB (BH h).1;replace h:=(BH h).2
  .have hv:=BG h;subst hv;rw [hp,RX hu hi' (C63 _ _ _),KO];simp
  .have hb:=(BH h).1;have hv:=BG (BH h).2;subst hv;rw [hp,RX hu hi' (C62 _ _ _ hb),KO];simp
  .have hb:=(BH h).1;have hv:=BG (BH h).2;subst hv;rw [hp,RX hu hi' (C61 _ _ _ hb)]
  .have hb:=(BH h).1;have hv:=BG (BH h).2;subst hv;rw [hp,RX hu hi' (C60 _ _ _ hb)]
 .cases h
theorem C4l(isS:Bool)(len cap:Nat){k k' k'':IntKind}{l h m:Int}(hh:CZ l h m=true)(hm:CZ 0 m cap=true):(Instr.sliceBounds isS len cap (some (.int k l)) (some (.int k' h)) (some (.int k'' m))).run P w=.ok (l.toNat,h.toNat,m.toNat) w:=by
 have hb:=J4 hh;have hb2:=J4 hm;have h2:l<=((h.toNat:Nat):Int):=by omega
 have h3:h<=((m.toNat:Nat):Int):=by omega
 simp only [Instr.sliceBounds,srb,srp,ato,run_sliceBound (w:=w) (P:=P) k'' m cap _ hb2.2.1 hb2.2.2,run_sliceBound (w:=w) (P:=P) k' h m.toNat _ (by omega) h3,run_sliceBound (w:=w) (P:=P) k l h.toNat _ hb.1 h2]
theorem B71{t e:TypeId}{i:TypeInfo}{a:Option Addr}{len cap:Nat}{lo hi mx:Option Value}{l h m:Nat}(hu:P.underlying t=some (.slice e))(hi':P.info? e=some i)
 (hb:(Instr.sliceBounds true len cap lo hi mx).run P w=.ok (l,h,m) w) :
 (Instr.sliceAt t (.slice a len cap) lo hi mx).run P w=.ok (.slice (BS a m l i.size) (h-l) (m-l)) w:=by
 simp only [Instr.sliceAt,srb,run_underlying hu,ato,Instr.slice,hb,srp,CF hi',BS]
theorem A1a{t:TypeId}{x lo hi mx:Value}{c:World->Prop}{v:Value}(h:Spec (A4m P t x lo hi mx) c v):(Instr.sliceAt t x (some lo) (some hi) (some mx)).run P w=.ok v w:=by
 unfold A4m at h;split at h
 .rename_i hu;split at h
  .rename_i hi';have hb:=(BH h).1;have hm:=(BH (BH h).2).1;have hv:=BG (BH (BH h).2).2;subst hv;rw [B71 hu hi' (C4l _ _ _ hb hm)]
  .cases h
 .cases h
theorem A1b{t:TypeId}{m k:Value}{two:Bool}{c:World->Prop}{v:Value}(h:Spec (A4o P t m k two) c v)(hc:c w):(Instr.lookup t m k two).run P w=.ok v w:=by
 unfold A4o at h;split at h
 .split at h
  .obtain⟨u,h⟩:=OP h;obtain⟨b,h⟩:=A4g h;obtain⟨c1,h,hcc⟩:=HF h;have hv:=BG h;subst hv;exact(hcc w hc).1.run
  .obtain⟨u,h⟩:=OP h;obtain⟨c1,h,hcc⟩:=HF h;have hv:=BG h;subst hv;exact(hcc w hc).1.run
 .cases h
theorem A0e{b:Builtin}{ts:Array TypeId}{ty:TypeId}{args:List Value}{cs:Array Bool}{c:World->Prop}{v:Value}(h:Spec (A1d P b ts ty args) c v)(hc:c w) :
 (builtin b ts ty cs args.toArray).run P w=.ok (.value v) w:=by
 unfold A1d at h;split at h
 .rename_i t rest x hts;have h0:ts[0]? = some t:=by
   have:ts.toList[0]? = some t:=by rw [hts];rfl
   simpa using this
  split at h
  .rename_i hu;have hv:=BG h;subst hv;simp [builtin,Builtin.len_,h0,run_underlying hu,goInt]
  .rename_i hu;have hv:=BG h;subst hv;simp [builtin,Builtin.len_,h0,run_underlying hu,goInt]
  .rename_i hu;have hv:=BG h;subst hv;simp [builtin,Builtin.len_,h0,run_underlying hu,goInt]
  .obtain⟨n,h⟩:=A4g h;obtain⟨c1,h,hcc⟩:=HF h;have hv:=BG h;subst hv;have:=(hcc w hc).1.run;simp [builtin,this]
  .cases h
 .rename_i t rest x hts;have h0:ts[0]? = some t:=by
   have:ts.toList[0]? = some t:=by rw [hts];rfl
   simpa using this
  split at h
  .rename_i hu;have hv:=BG h;subst hv;simp [builtin,Builtin.cap_,h0,run_underlying hu,goInt]
  .cases h
 .have hv:=BG h;subst hv;simp [builtin,Builtin.min_,Builtin.min2]
 .have hv:=BG h;subst hv;simp [builtin,Builtin.max_,Builtin.max2]
 .cases h
theorem D7{ρ:Operand->Option Value}{ρa:Operand->Value}(hρ:∀x u,ρ x=some u->ρa x=u):∀{xs:List Operand}{vs:List Value},IZ ρ xs=some vs->xs.map ρa=vs:=by
 intro xs
 induction xs with
 | nil=>intro vs h;simp [IZ] at h;subst h;rfl
 | cons x xs ih=>
  intro vs h;unfold IZ at h;split at h
  .rename_i v ws hv hw;simp at h;subst h;simp [hρ _ _ hv,ih hw]
  .simp at h
theorem K9{ρ:Operand->Option Value}{ρa:Operand->Value}(hρ:∀x u,ρ x=some u->ρa x=u):∀{xs:List (Nat×Operand)}{vs:List (Nat×Value)},OW ρ xs=some vs->xs.map (λp=>(p.1,ρa p.2))=vs:=by
 intro xs
 induction xs with
 | nil=>intro vs h;simp [OW] at h;subst h;rfl
 | cons x xs ih=>
  intro vs h;obtain⟨i,x⟩:=x;unfold OW at h;split at h
  .rename_i v ws hv hw;simp at h;subst h;simp [hρ _ _ hv,ih hw]
  .simp at h
theorem A0j{t:Option TypeId}{k:Value->BZ}{c:World->Prop}{v:Value}(h:Spec (B5i P t k) c v):∃u,Spec (k u) c v:=by
 unfold B5i at h;split at h
 .exact OP h
 .exact A4g h
theorem A4n{op:BinOp}{t:TypeId}{a:Value}{c:World->Prop}{v:Value}(h:Spec (B75 P op t a) c v)(ox oy:Operand) :
 ((do eqGuard op t ox oy a .nilFunc;binOp op t a .nilFunc:Sem Value)).run P w=.ok v w:=by
 unfold B75 at h;split at h
 .rename_i hu;obtain⟨hk,h⟩:=BH h;have:=BG h;subst this
  cases a <;> simp only [okF,Bool.false_eq_true] at hk
  .simp only [eqGuard_at_func,srb,srp,ato];exact PC rfl (A3t _ hu _ _ _)
  .simp only [eqGuard_at_nilFunc,srb,srp,ato];exact PC rfl (O7 _ hu)
 .rename_i hu;obtain⟨hk,h⟩:=BH h;have:=BG h;subst this
  cases a <;> simp only [okF,Bool.false_eq_true] at hk
  .simp only [eqGuard_at_func,srb,srp,ato];exact OY rfl (A3t _ hu _ _ _)
  .simp only [eqGuard_at_nilFunc,srb,srp,ato];exact OY rfl (O7 _ hu)
 .cases h
theorem A2x{arr:TypeId}{x:Value}{c:World->Prop}{v:Value}(h:Spec (B0w P arr x) c v):(Instr.arrayAt arr x).run P w=.ok v w:=by
 unfold B0w at h;split at h
 .rename_i n e a l cp hu;obtain⟨hb,h⟩:=BH h;have hv:=BG h;subst hv;have hb:n<=l:=of_decide_eq_true hb;simp only [Instr.arrayAt,srb,run_underlying hu,ato,if_neg (Nat.not_lt.2 hb),srp]
 .cases h
theorem FP{τ:Nat->Option TypeId}{ρ:Operand->Option Value}{ρa:Operand->Value}(hρ:∀x u,ρ x=some u->ρa x=u){o:Oper}{c:World->Prop}{v:Value}(h:Spec (qOp P τ ρ o) c v)(hc:c w) :
 (execOp ρa o).run P w=.ok (.value v) w:=by
 unfold qOp at h;split at h
 .rename_i x ho;split at h
  .rename_i u hx;have hv:=BG h;subst hv;simp [execOp,ho,hρ _ _ hx]
  .cases h
 .rename_i x ho;split at h
  .rename_i u hx;have hv:=BG h;subst hv;simp [execOp,ho,hρ _ _ hx]
  .cases h
 .rename_i x ho;split at h
  .rename_i p hx;have hp:=GB (BH h).1;have hv:=BG (BH h).2;subst hv;rw [<- hp];simp only [execOp,ho,hρ _ _ hx];rw [hp];rfl
  .rename_i hx;have hv:=BG h;subst hv;simp [execOp,ho,hρ _ _ hx]
  .cases h
 .rename_i op t x y z ho;split at h
  .split at h
   .rename_i a hx hy;have:=A4n (w:=w) h x y;simp only [execOp,ho,hρ _ _ hx,hρ _ _ hy];rw [srb,this];rfl
   .cases h
  .split at h
   .rename_i a b hx hy;have:=A8a (w:=w) h x y;simp only [execOp,ho,hρ _ _ hx,hρ _ _ hy];rw [srb,this];rfl
   .cases h
 .rename_i op t x ho;split at h
  .rename_i a hx;have:=B0u (P:=P) (w:=w) h;simp only [execOp,ho,hρ _ _ hx];rw [srb,this];rfl
  .cases h
 .rename_i s d x ho;split at h
  .rename_i a hx;have:=A4p (w:=w) h hc;simp only [execOp,ho,hρ _ _ hx];rw [srb,this];rfl
  .cases h
 .rename_i s x f ho;split at h
  .rename_i a hx;have:=OV (w:=w) h;simp only [execOp,ho,hρ _ _ hx];rw [srb,this];rfl
  .cases h
 .rename_i t x i ho;split at h
  .rename_i a b hx hy;have:=OU (w:=w) h;simp only [execOp,ho,hρ _ _ hx,hρ _ _ hy];rw [srb,this];rfl
  .cases h
 .rename_i t x i ho;split at h
  .rename_i a b hx hy;have:=A2w (w:=w) h hc;simp only [execOp,ho,hρ _ _ hx,hρ _ _ hy];rw [srb,this];rfl
  .cases h
 .rename_i x i ho;split at h
  .rename_i a hx;have:=A0d (P:=P) (w:=w) h;simp only [execOp,ho,hρ _ _ hx];rw [srb,this];rfl
  .cases h
 .rename_i t x lo hi ho;split at h
  .rename_i a hx;have:=GQ (w:=w) h;simp only [execOp,ho,hρ _ _ hx,Option.map_none];rw [srb,this];rfl
  .rename_i a l hx;split at h
   .rename_i l' hl;have:=GQ (w:=w) h;simp only [execOp,ho,hρ _ _ hx,hρ _ _ hl,Option.map_none,Option.map_some];rw [srb,this];rfl
   .cases h
  .rename_i a l hx;split at h
   .rename_i l' hl;have:=GQ (w:=w) h;simp only [execOp,ho,hρ _ _ hx,hρ _ _ hl,Option.map_none,Option.map_some];rw [srb,this];rfl
   .cases h
  .rename_i a l l2 hx;split at h
   .rename_i l' l2' hl hl2;have:=GQ (w:=w) h;simp only [execOp,ho,hρ _ _ hx,hρ _ _ hl,hρ _ _ hl2,Option.map_none,Option.map_some];rw [srb,this];rfl
   .cases h
  .cases h
 .rename_i t x lo hi mx ho;split at h
  .rename_i a l l2 l3 hx hl hl2 hl3;have:=A1a (w:=w) h;simp only [execOp,ho,hρ _ _ hx,hρ _ _ hl,hρ _ _ hl2,hρ _ _ hl3,Option.map_some];rw [srb,this];rfl
  .cases h
 .rename_i t parts ho;split at h
  .rename_i ps hps;split at h
   .split at h
    .rename_i cells hb;have hv:=BG h;subst hv;have hp:=K9 hρ hps;have:=run_build (P:=P) w t (parts.map λp=>(p.1,ρa p.2)) cells (by rw [Array.toList_map,hp];exact hb);simp only [execOp,ho];rw [srb,this];rfl
    .cases h
   .rename_i v0 vs0 hfv;obtain⟨hk,h⟩:=BH h;split at h
    .rename_i cells hb;have hv:=BG h;subst hv;have hp:=K9 hρ hps;have hb:P.built t ps=some cells:=by
      have hf:=λplace cs=>A0t P t place ps cs (by rw [hfv];exact A7k hk);unfold Program.built at hb ⊢;simp only [hf] at hb;exact hb
     have:=run_build (P:=P) w t (parts.map λp=>(p.1,ρa p.2)) cells (by rw [Array.toList_map,hp];exact hb);simp only [execOp,ho];rw [srb,this];rfl
    .cases h
  .cases h
 .rename_i fn first cap ho
  split at h
  .rename_i a b ha hb;have hv:=BG h;subst hv;have h1:first.map ρa=a.toArray:=by rw [<- D7 hρ ha,<- Array.toList_map]
   have h2:cap.map ρa=b.toArray:=by rw [<- D7 hρ hb,<- Array.toList_map]
   simp [execOp,ho,Instr.makeFunc,h1,h2]
  .cases h
 .rename_i t x ho;split at h
  .cases h
  .rename_i a d hni hx hu;have hv:=BG h;subst hv;simp only [execOp,ho,hρ _ _ hx,Instr.makeInterface,srb,run_underlying hu,ato]
   cases d <;> first|rfl|exact(hni _ rfl).elim
  .cases h
 .rename_i t x ho;split at h
  .rename_i a hx;have:=QD (w:=w) h hc;simp only [execOp,ho,hρ _ _ hx];rw [srb,this];rfl
  .cases h
 .rename_i t m k two ho;split at h
  .rename_i a b hx hy;have:=A1b (w:=w) h hc;simp only [execOp,ho,hρ _ _ hx,hρ _ _ hy];rw [srb,this];rfl
  .cases h
 .rename_i b args ts ho;split at h
  .rename_i vs hvs;have h1:args.map ρa=vs.toArray:=by rw [<- D7 hρ hvs,<- Array.toList_map]
   have:=A0e (w:=w) (cs:=args.map λ|.const _=>true|_=>false) h hc;simp only [execOp,ho,resolve,srb,srp,ato,invoke,h1];exact this
  .cases h
 .rename_i it ho;unfold B60 at h;split at h
  .rename_i a ha;obtain⟨k,h⟩:=A0j h;obtain⟨v,h⟩:=A0j h;obtain⟨c1,h,hcc⟩:=HF h;have hv:=BG h;subst hv;have:=(hcc w hc).1.run;simp only [execOp,ho,hρ _ _ ha];rw [srb,this];rfl
  .cases h
 .rename_i arr x ho;split at h
  .rename_i a hx;have:=A2x (w:=w) h;simp only [execOp,ho,hρ _ _ hx];rw [srb,this];rfl
  .cases h
 .cases h
