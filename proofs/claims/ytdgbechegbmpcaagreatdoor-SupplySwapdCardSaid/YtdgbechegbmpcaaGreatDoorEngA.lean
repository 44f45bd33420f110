/- Part of an engine. Proved: its laws. Conditions: those in each theorem. -/
import Derived.WalkKit
import Derived.WalkSpells
import Derived.WalkLawsBesides
set_option linter.unusedVariables false
set_option linter.unusedSimpArgs false
namespace Go.Eng
theorem tnc(n:Nat):Int.toNat (n:Int)=n:=Int.toNat_natCast n
theorem za(n:Nat):0+n=n:=Nat.zero_add n
theorem mo(n:Nat):n*1=n:=Nat.mul_one n
theorem gar:type_of% @List.getElem?_append_right:=@List.getElem?_append_right
theorem gal:type_of% @List.getElem?_append_left:=@List.getElem?_append_left
theorem lap:type_of% @List.length_append:=@List.length_append
theorem gmp:type_of% @List.getElem?_map:=@List.getElem?_map
theorem D5:type_of% @List.getElem?_eq_some_iff:=@List.getElem?_eq_some_iff
theorem F3:type_of% @Array.getElem?_eq_some_iff:=@Array.getElem?_eq_some_iff
theorem geg:type_of% @List.getElem?_eq_getElem:=@List.getElem?_eq_getElem
theorem lmp:type_of% @List.length_map:=@List.length_map
theorem nll:type_of% @Nat.lt_of_lt_of_le:=@Nat.lt_of_lt_of_le
theorem mcm:type_of% @List.mem_cons_of_mem:=@List.mem_cons_of_mem
theorem nlz:type_of% @Nat.not_lt_zero:=@Nat.not_lt_zero
theorem nlr:type_of% @Nat.le_refl:=@Nat.le_refl
theorem FU:type_of% @List.map_append:=@List.map_append
theorem mcs:type_of% @List.mem_cons_self:=@List.mem_cons_self
theorem mog:type_of% @List.mem_of_getElem?:=@List.mem_of_getElem?
theorem gen:type_of% @List.getElem?_eq_none:=@List.getElem?_eq_none
theorem ato:type_of% @Result.andThen_ok:=@Result.andThen_ok
theorem srb:type_of% @Sem.run_bind:=@Sem.run_bind
theorem srp:type_of% @Sem.run_pure:=@Sem.run_pure
def rd(w:World)(b o:Nat):Option Value:=w.cell? ⟨b,o,none⟩
structure wr(w:World)(b o:Nat):Prop where
 cell:∃v,rd w b o=some v
 free:w.frozen? ⟨b,o,none⟩=false
def st(w:World)(b o:Nat)(v:Value):World:=w.setCell ⟨b,o,none⟩ v
def AS(w:World)(b o:Nat):List Value->Prop
 | []=>True
 | [v]=>rd w b o=some v
 | v::v'::vs=>rd w b o=some v/\AS w b (o+1) (v'::vs)
def pb:Option Addr->Nat
 | some a=>a.block
 | none=>0
def po:Option Addr->Nat
 | some a=>a.off
 | none=>0
def isP:Option Addr->Bool
 | some ⟨_,_,none⟩=>true
 | _=>false
def inB(i:Int)(n:Nat):Bool:=decide (0<=i/\i<(n:Int))
def CN(l h c:Int):Bool:=decide (0<=l/\l<=h/\h<=c)
def BJ(a:Option Addr)(c l s:Nat):Option Addr:=if c=l then a else a.map (·.add (l*s))
def BW(op:BinOp)(k:IntKind)(x y:Int):Int:=
 let a:=BitVec.ofInt k.bits x
 let b:=BitVec.ofInt k.bits y
 match op with
 | .and=>k.wrap (a &&& b).toNat
 | .or=>k.wrap (a ||| b).toNat
 | .xor=>k.wrap (a ^^^ b).toNat
 | _=>k.wrap (a &&& ~~~b).toNat
theorem GX{p:Option Addr}(h:isP p=true):p=some ⟨pb p,po p,none⟩:=by
 cases p with
 | none=>simp [isP] at h
 | some a=>
  obtain⟨b,o,s⟩:=a
  cases s with
  | none=>rfl
  | some x=>simp [isP] at h
structure Kept(X:Nat->Prop)(w w':World):Prop where
 os:w'.os=w.os
 tape:w'.tape=w.tape
 out:w'.output=w.output
 sz:w.heap.size<=w'.heap.size
 blk:∀b,b<w.heap.size->¬X b->w'.heap[b]? = w.heap[b]?
abbrev AB:Nat->Prop:=fun _=>False
inductive BU:Type 1 where
 | fail
 | ret (v:Value)
 | chk (b:Bool) (r:BU)
 | rdc (c:World->Prop) (r:BU)
 | ex {α:Type} (f:α->BU)
inductive Spec:BU->(World->Prop)->Value->Prop
 | ret (v:Value):Spec (.ret v) (fun _=>True) v
 | chk {r:BU}{c:World->Prop}{v:Value}:Spec r c v->Spec (.chk true r) c v
 | rdc {r:BU}{c c0:World->Prop}{v:Value}:Spec r c v->Spec (.rdc c0 r) (fun w=>c0 w/\c w) v
 | ex {α:Type}{f:α->BU}{c:World->Prop}{v:Value} (x:α):Spec (f x) c v->Spec (.ex f) c v
def Wif(b:Bool)(x y:Prop):Prop:=match b with
 | true=>x
 | false=>y
theorem FV{b:Bool}{x y:Prop}(h:Wif b x y):(b=true/\x)\/(b=false/\y):=by
 cases b <;> simp [Wif] at h <;> simp [h]
def BU.den(w:World)(next:Value->(World->Prop)->Prop):BU->(World->Prop)->Prop
 | .fail,_=>False
 | .ret v,c=>next v c
 | .chk b r,c=>Wif b (r.den w next c) False
 | .rdc c0 r,c=>c0 w/\r.den w next (fun w=>c0 w/\c w)
 | .ex f,c=>∃x,(f x).den w next c
def gIf(b:Bool)(C x:Prop):Prop:=match b with
 | true=>x
 | false=>(C->False)/\x
theorem gIf_elim{b:Bool}{C x:Prop}(h:gIf b C x):(C->b=true)/\x:=by
 cases b
 ·exact⟨fun hC=>(h.1 hC).elim,h.2⟩
 ·exact⟨fun _=>rfl,h⟩
def BU.denIf(C:Prop)(w:World)(next:Value->(World->Prop)->Prop):BU->(World->Prop)->Prop
 | .fail,c=>(C->False)/\next undef c
 | .ret v,c=>next v c
 | .chk b r,c=>gIf b C (r.denIf C w next c)
 | .rdc c0 r,c=>(C->c0 w)/\r.denIf C w next (fun w=>c0 w/\c w)
 | .ex f,c=>∃x,(f x).denIf C w next c
theorem BU.NN{w:World}{next:Value->(World->Prop)->Prop}:∀{r:BU}{c:World->Prop},r.den w next c->
 ∃v c',Spec r c' v/\c' w/\∃c'',next v c''/\∀w',c' w'/\c w'↔c'' w':=by
 intro r
 induction r with
 | fail=>intro c h;exact h.elim
 | ret v=>intro c h;exact⟨v,_,.ret v,trivial,c,h,fun w'=>by simp⟩
 | chk b r ih=>
  intro c h;rcases FV h with⟨rfl,h⟩|⟨_,h⟩
  ·obtain⟨v,c',hs,hc,rest⟩:=ih h;exact⟨v,c',.chk hs,hc,rest⟩
  ·exact h.elim
 | rdc c0 r ih=>
  intro c h;obtain⟨h0,h⟩:=h;obtain⟨v,c',hs,hc,c'',hn,hi⟩:=ih h;refine⟨v,_,.rdc hs,⟨h0,hc⟩,c'',hn,fun w'=>?_⟩;rw [<- hi w'];constructor
  ·rintro ⟨⟨a,b⟩,d⟩;exact⟨b,a,d⟩
  ·rintro ⟨b,a,d⟩;exact⟨⟨a,b⟩,d⟩
 | ex f ih=>
  intro c h;obtain⟨x,h⟩:=h;obtain⟨v,c',hs,hc,rest⟩:=ih x h;exact⟨v,c',.ex x hs,hc,rest⟩
theorem BU.denIf_spec{C:Prop}{w:World}{next:Value->(World->Prop)->Prop}:∀{r:BU}{c:World->Prop},r.denIf C w next c->
 ∃v c'',next v c''/\(C->∃c',Spec r c' v/\c' w/\∀w',c' w'/\c w'↔c'' w'):=by
 intro r
 induction r with
 | fail=>intro c h;exact⟨undef,c,h.2,fun hC=>(h.1 hC).elim⟩
 | ret v=>intro c h;exact⟨v,c,h,fun _=>⟨_,.ret v,trivial,fun w'=>by simp⟩⟩
 | chk b r ih=>
  intro c h;obtain⟨hb,h⟩:=gIf_elim h;obtain⟨v,c'',hn,hs⟩:=ih h;refine⟨v,c'',hn,fun hC=>?_⟩;obtain⟨c',hs,rest⟩:=hs hC;rw [hb hC];exact⟨c',.chk hs,rest⟩
 | rdc c0 r ih=>
  intro c h;obtain⟨h0,h⟩:=h;obtain⟨v,c'',hn,hs⟩:=ih h;refine⟨v,c'',hn,fun hC=>?_⟩;obtain⟨c',hs,hc,hi⟩:=hs hC;refine⟨_,.rdc hs,⟨h0 hC,hc⟩,fun w'=>?_⟩;rw [<- hi w'];constructor
  ·rintro ⟨⟨a,b⟩,d⟩;exact⟨b,a,d⟩
  ·rintro ⟨b,a,d⟩;exact⟨⟨a,b⟩,d⟩
 | ex f ih=>
  intro c h;obtain⟨x,h⟩:=h;obtain⟨v,c'',hn,hs⟩:=ih x h;refine⟨v,c'',hn,fun hC=>?_⟩;obtain⟨c',hs,rest⟩:=hs hC;exact⟨c',.ex x hs,rest⟩
def leafQ(d:TypeDesc)(k:Value->BU):BU:=
 match d with
 | .bool=>.ex fun b:Bool=>k (.bool b)
 | .int kd=>.ex fun n:Int=>k (.int kd n)
 | .string=>.ex fun s:ByteArray=>k (.string s)
 | .pointer _=>.ex fun p:Option Addr=>k (.pointer p)
 | .slice _=>.ex fun a:Option Addr=>.ex fun l:Nat=>.ex fun c:Nat=>k (.slice a l c)
 | .map _ _=>.ex fun r:Option Nat=>k (.map r)
 | .func _ _ _=>.ex fun v:Value=>k v
 | .interface _=>.ex fun v:Value=>k v
 | _=>.fail
def leafE(d:TypeDesc)(k:Value->Prop):Prop:=
 match d with
 | .bool=>∃b:Bool,k (.bool b)
 | .int kd=>∃n:Int,k (.int kd n)
 | .string=>∃s:ByteArray,k (.string s)
 | .pointer _=>∃p:Option Addr,k (.pointer p)
 | .slice _=>∃a:Option Addr,∃l c:Nat,k (.slice a l c)
 | .map _ _=>∃r:Option Nat,k (.map r)
 | .func _ _ _=>∃v:Value,k v
 | .interface _=>∃v:Value,k v
 | _=>False
theorem leafE_elim{d:TypeDesc}{k:Value->Prop}(h:leafE d k):∃v,k v:=by
 cases d <;> simp only [leafE] at h <;> first|exact h.elim|skip
 case bool=>obtain⟨b,h⟩:=h;exact⟨_,h⟩
 case int=>obtain⟨b,h⟩:=h;exact⟨_,h⟩
 case string=>obtain⟨b,h⟩:=h;exact⟨_,h⟩
 case pointer=>obtain⟨b,h⟩:=h;exact⟨_,h⟩
 case slice=>obtain⟨a,l,c,h⟩:=h;exact⟨_,h⟩
 case map=>obtain⟨b,h⟩:=h;exact⟨_,h⟩
 case func=>exact h
 case interface=>exact h
def leaves(P:Program):Nat->TypeId->Option (List TypeDesc)
 | 0,_=>none
 | n+1,t=>
  match P.underlying t with
  | some (.struct fs)=>(fs.toList.mapM fun f=>leaves P n f.type).map List.flatten
  | some (.array k e)=>(leaves P n e).map fun l=>(List.replicate k l).flatten
  | some d=>some [d]
  | none=>none
def AK(kd:IntKind)(f:Nat->Int):Nat->Nat->List Value
 | _,0=>[]
 | i,n+1=>.int kd (f i)::AK kd f (i+1) n
theorem AI(kd:IntKind)(f:Nat->Int):∀i n,(AK kd f i n).length=n
 | _,0=>rfl
 | i,n+1=>by simp [AK,AI kd f (i+1) n]
theorem AT(kd:IntKind)(f:Nat->Int):∀i n j,j<n->(AK kd f i n)[j]? = some (.int kd (f (i+j)))
 | _,0,_,h=>absurd h (nlz _)
 | i,n+1,0,_=>rfl
 | i,n+1,j+1,h=>by
  have:=AT kd f (i+1) n j (by omega);simp only [AK,List.getElem?_cons_succ];rw [this,Nat.add_assoc,Nat.add_comm 1 j]
def sameI:TypeDesc->TypeDesc->Bool
 | .int a,.int b=>decide (a=b)
 | _,_=>false
def grp:List TypeDesc->List (Nat×TypeDesc)
 | []=>[]
 | d::ds=>
  match grp ds with
  | []=>[(1,d)]
  | (n,d')::gs=>(match sameI d d' with|true=>(n+1,d')::gs|false=>(1,d)::(n,d')::gs)
def LK:List (Nat×TypeDesc)->Nat
 | []=>0
 | (n,_)::gs=>n+LK gs
theorem grp_len:∀ds,LK (grp ds)=ds.length
 | []=>rfl
 | d::ds=>by
  have ih:=grp_len ds;simp only [grp]
  cases h:grp ds with
  | nil=>
   rw [h] at ih;simp only [LK,List.length_cons] at ih ⊢;omega
  | cons g gs=>
   obtain⟨n,d'⟩:=g;rw [h] at ih;dsimp only
   cases sameI d d' <;> (simp only [LK,List.length_cons] at ih ⊢;omega)
def repQ(d:TypeDesc):Nat->(List Value->BU)->BU
 | 0,k=>k []
 | n+1,k=>leafQ d fun v=>repQ d n fun vs=>k (v::vs)
def repE(d:TypeDesc):Nat->(List Value->Prop)->Prop
 | 0,k=>k []
 | n+1,k=>leafE d fun v=>repE d n fun vs=>k (v::vs)
def grpQ:List (Nat×TypeDesc)->(List Value->BU)->BU
 | [],k=>k []
 | (n,d)::gs,k=>
  match d,decide (8<=n) with
  | .int kd,true=>.ex fun f:Nat->Int=>grpQ gs fun vs=>k (AK kd f 0 n++vs)
  | d,_=>repQ d n fun us=>grpQ gs fun vs=>k (us++vs)
def grpE:List (Nat×TypeDesc)->(List Value->Prop)->Prop
 | [],k=>k []
 | (n,d)::gs,k=>
  match d,decide (8<=n) with
  | .int kd,true=>∃f:Nat->Int,grpE gs fun vs=>k (AK kd f 0 n++vs)
  | d,_=>repE d n fun us=>grpE gs fun vs=>k (us++vs)
def leavesQ(ds:List TypeDesc)(k:List Value->BU):BU:=grpQ (grp ds) k
def leavesE(ds:List TypeDesc)(k:List Value->Prop):Prop:=grpE (grp ds) k
theorem repE_elim{d:TypeDesc}:∀{n:Nat}{k:List Value->Prop},repE d n k->∃vs,k vs
 | 0,_,h=>⟨_,h⟩
 | n+1,k,h=>by
  obtain⟨v,h⟩:=leafE_elim h;obtain⟨vs,h⟩:=repE_elim h;exact⟨_,h⟩
theorem OF:∀{gs:List (Nat×TypeDesc)}{k:List Value->Prop},grpE gs k->∃vs,k vs
 | [],_,h=>⟨_,h⟩
 | (n,d)::gs,k,h=>by
  unfold grpE at h;split at h
  ·obtain⟨f,h⟩:=h;obtain⟨vs,h⟩:=OF h;exact⟨_,h⟩
  ·obtain⟨us,h⟩:=repE_elim h;obtain⟨vs,h⟩:=OF h;exact⟨_,h⟩
theorem ND{k:List Value->Prop}{ds:List TypeDesc}(h:leavesE ds k):∃vs,k vs:=OF h
def aggT(P:Program)(t:TypeId):Bool:=
 match P.underlying t with
 | some (.struct _)|some (.array _ _)=>true
 | _=>false
def valE(P:Program)(t:TypeId)(k:Value->Prop):Prop:=
 match P.underlying t with
 | some (.struct _)|some (.array _ _)=>
  (match leaves P 12 t with
   | some ds=>leavesE ds fun vs=>k (.agg vs.toArray)
   | none=>False)
 | some d=>leafE d k
 | none=>False
theorem JU{P:Program}{t:TypeId}{k:Value->Prop}(h:valE P t k):∃v,k v:=by
 unfold valE at h;split at h
 ·split at h
  ·obtain⟨vs,h⟩:=ND h;exact⟨_,h⟩
  ·exact h.elim
 ·split at h
  ·obtain⟨vs,h⟩:=ND h;exact⟨_,h⟩
  ·exact h.elim
 ·exact leafE_elim h
 ·exact h.elim
def valsE(P:Program):List TypeId->(List Value->Prop)->Prop
 | [],k=>k []
 | t::ts,k=>valE P t fun v=>valsE P ts fun vs=>k (v::vs)
theorem valsE_elim{P:Program}{k:List Value->Prop}:∀{ts:List TypeId},valsE P ts k->∃vs,k vs:=by
 intro ts
 induction ts generalizing k with
 | nil=>intro h;exact⟨_,h⟩
 | cons d ds ih=>
  intro h;obtain⟨v,h⟩:=JU h;obtain⟨vs,h⟩:=ih h;exact⟨_,h⟩
def retE(P:Program)(ts:List TypeId)(k:Value->Prop):Prop:=
 match ts with
 | [t]=>valE P t k
 | ts=>valsE P ts fun vs=>k (.tuple vs.toArray)
theorem O6{P:Program}{ts:List TypeId}{k:Value->Prop}(h:retE P ts k):∃v,k v:=by
 unfold retE at h;split at h
 ·exact JU h
 ·obtain⟨vs,h⟩:=valsE_elim h;exact⟨_,h⟩
def szT(P:Program)(t:TypeId):Nat:=((P.info? t).map (·.size)).getD 0
def hasT(P:Program)(t:TypeId):Bool:=(P.info? t).isSome
def KQ(P:Program)(t:TypeId)(cs:List Value)(off:Nat):Option Value:=
 match P.info? t with
 | none=>none
 | some i=>
  match aggT P t with
  | true=>some (.agg ((cs.drop off).take i.size).toArray)
  | false=>cs[off]?
def eqFs(f:TypeId->Value->Value->Option Bool)(P:Program)(xs ys:List Value):List Field->Option Bool
 | []=>some true
 | fd::fs=>
  match fd.name == "_" with
  | true=>eqFs f P xs ys fs
  | false=>
   match KQ P fd.type xs fd.offset,KQ P fd.type ys fd.offset with
   | some a,some b=>
    (match f fd.type a b,eqFs f P xs ys fs with
     | some r,some s=>some (r&&s)
     | _,_=>none)
   | _,_=>none
def eqAr(f:Value->Value->Option Bool)(P:Program)(e:TypeId)(xs ys:List Value)(n:Nat):Nat->Nat->Option Bool
 | _,0=>some true
 | i,k+1=>
  match KQ P e xs (i*n),KQ P e ys (i*n) with
  | some a,some b=>
   (match f a b,eqAr f P e xs ys n (i+1) k with
    | some r,some s=>some (r&&s)
    | _,_=>none)
  | _,_=>none
def eqT(P:Program):Nat->TypeId->Value->Value->Option Bool
 | 0,_,_,_=>none
 | d+1,t,x,y=>
  match P.underlying t,x,y with
  | some .bool,.bool a,.bool b=>some (a==b)
  | some (.int _),.int k a,.int k' b=>(match decide (k=k') with|true=>some (a==b)|false=>none)
  | some (.struct fs),.agg xs,.agg ys=>
   (match P.stoodInHeld t with
    | true=>none
    | false=>eqFs (eqT P d) P xs.toList ys.toList fs.toList)
  | some (.array len e),.agg xs,.agg ys=>
   (match P.info? e with
    | none=>none
    | some i=>eqAr (eqT P d e) P e xs.toList ys.toList i.size 0 len)
  | _,_,_=>none
section
variable {P:Program}{w:World}
theorem JX{t:TypeId}{d:TypeDesc}(h:P.underlying t=some d):(isAgg t).run P w=.ok (aggT P t) w:=by
 simp only [isAgg,srb,run_underlying h,ato,aggT,h]
 cases d <;> rfl
theorem BY{t:TypeId}{i:TypeInfo}(h:P.info? t=some i):(sizeOf t).run P w=.ok i.size w:=by
 simp [sizeOf,typeInfo,h]
theorem GJ{t:TypeId}{d:TypeDesc}(hu:P.underlying t=some d){cs:Array Value}{off:Nat}{v:Value}(h:KQ P t cs.toList off=some v) :
 (part t cs off).run P w=.ok v w:=by
 unfold KQ at h
 cases hi:P.info? t with
 | none=>simp [hi] at h
 | some i=>
  rw [hi] at h;simp only [part,srb,JX hu,ato]
  cases ha:aggT P t with
  | true=>
   simp only [ha] at h;simp only [if_true,srb,BY hi,ato,srp]
   cases h
   congr 2;apply Array.ext';simp [List.take_drop,Array.toList_extract]
  | false=>
   simp only [ha] at h;simp only [Bool.false_eq_true,if_false];simp at h;rw [h]
   rfl
theorem eqFs_run{d:Nat}{xs ys:Array Value}(hf:∀t x y r w,eqT P d t x y=some r->(Op.equalIn d t x y).run P w=.ok r w)
 (hu:∀t x y r,eqT P d t x y=some r->(P.underlying t).isSome=true) :
 ∀(fs:List Field) (r:Bool) (w:World),eqFs (eqT P d) P xs.toList ys.toList fs=some r->(Op.eqFields d xs ys fs).run P w=.ok r w:=by
 intro fs
 induction fs with
 | nil=>intro r w h;simp [eqFs] at h;subst h;simp [Op.eqFields]
 | cons f fs ih=>
  intro r w h;unfold eqFs at h;unfold Op.eqFields
  cases hn:f.name == "_" with
  | true=>
   rw [hn] at h;have hn':f.name = "_" := by simpa using hn
   simp only [hn',ne_eq,not_true_eq_false,if_false];exact ih _ _ h
  | false=>
   rw [hn] at h;have hn':f.name ≠ "_" := by simpa using hn
   rw [if_pos hn']
   cases ha:KQ P f.type xs.toList f.offset with
   | none=>simp [ha] at h
   | some a=>
    cases hb:KQ P f.type ys.toList f.offset with
    | none=>simp [ha,hb] at h
    | some b=>
     simp only [ha,hb] at h
     cases h1:eqT P d f.type a b with
     | none=>simp [h1] at h
     | some r1=>
      cases h2:eqFs (eqT P d) P xs.toList ys.toList fs with
      | none=>simp [h1,h2] at h
      | some r2=>
       simp only [h1,h2] at h;obtain⟨du,hdu⟩:=Option.isSome_iff_exists.1 (hu _ _ _ _ h1);simp only [srb,GJ hdu ha,GJ hdu hb,ato,hf _ _ _ _ _ h1]
       cases r1
       ·simp at h;subst h;simp
       ·simp at h;subst h;simpa using ih _ _ h2
theorem eqAr_run{d:Nat}{e:TypeId}{n:Nat}{xs ys:Array Value}(hf:∀x y r w,eqT P d e x y=some r->(Op.equalIn d e x y).run P w=.ok r w)
 (hu:∀t x y r,eqT P d t x y=some r->(P.underlying t).isSome=true) :
 ∀(k i:Nat) (r:Bool) (w:World),eqAr (eqT P d e) P e xs.toList ys.toList n i k=some r->
  (forIn (List.range' i k) ((none,()):Option Bool×Unit) fun i _=>do
   let __do_lift <- part e xs (i*n)
   let __do_lift_1 <- part e ys (i*n)
   let __do_lift <- Op.equalIn d e __do_lift __do_lift_1
   if (!__do_lift)=true then pure (ForInStep.done (some false,())) else pure (ForInStep.yield (none,()))).run P w=.ok (if r then(none,()) else(some false,())) w:=by
 intro k
 induction k with
 | zero=>intro i r w h;simp [eqAr] at h;subst h;simp
 | succ k ih=>
  intro i r w h;unfold eqAr at h
  cases ha:KQ P e xs.toList (i*n) with
  | none=>simp [ha] at h
  | some a=>
   cases hb:KQ P e ys.toList (i*n) with
   | none=>simp [ha,hb] at h
   | some b=>
    simp only [ha,hb] at h
    cases h1:eqT P d e a b with
    | none=>simp [h1] at h
    | some r1=>
     cases h2:eqAr (eqT P d e) P e xs.toList ys.toList n (i+1) k with
     | none=>simp [h1,h2] at h
     | some r2=>
      simp only [h1,h2] at h;obtain⟨du,hdu⟩:=Option.isSome_iff_exists.1 (hu _ _ _ _ h1);rw [List.range'_succ,List.forIn_cons];simp only [srb,GJ hdu ha,GJ hdu hb,ato,hf _ _ _ _ h1]
      cases r1
      ·simp at h;subst h;simp
      ·simp at h;subst h;simp only [Bool.not_true,Bool.false_eq_true,if_false,srp,ato];exact ih _ _ _ h2
theorem eqT_some{d:Nat}{t:TypeId}{x y:Value}{r:Bool}(h:eqT P d t x y=some r):(P.underlying t).isSome=true:=by
 cases d with
 | zero=>simp [eqT] at h
 | succ d=>
  unfold eqT at h
  cases hu:P.underlying t with
  | none=>simp [hu] at h
  | some d=>rfl
theorem eqT_run:∀(d:Nat) (t:TypeId) (x y:Value) (r:Bool) (w:World),eqT P d t x y=some r->(Op.equalIn d t x y).run P w=.ok r w:=by
 intro d
 induction d with
 | zero=>intro t x y r w h;simp [eqT] at h
 | succ d ih=>
  intro t x y r w h;unfold eqT at h;split at h
  ·rename_i hu;simp at h;subst h;simp [Op.equalIn,run_underlying hu]
  ·rename_i hu;split at h
   ·rename_i hk;have hk:=of_decide_eq_true hk;subst hk;simp at h;subst h;simp [Op.equalIn,run_underlying hu]
   ·simp at h
  ·rename_i fs xs ys hu;split at h
   ·simp at h
   ·rename_i hs;have hfs:P.fieldsOf t=fs:=by simp [Program.fieldsOf,hu]
    rw [run_equalIn_struct w d t xs ys (by rw [hfs];exact hu) hs,hfs];exact eqFs_run (fun t x y r w h=>ih t x y r w h) (fun t x y r h=>eqT_some h) _ _ _ h
  ·rename_i len e xs ys hu;split at h
   ·simp at h
   ·rename_i i hi;have:=eqAr_run (fun x y r w h=>ih e x y r w h) (fun t x y r h=>eqT_some h) len 0 r w h;simp only [Op.equalIn,srb,run_underlying hu,ato,BY hi];rw [Std.Legacy.Range.forIn_eq_forIn_range'];simp only [Std.Legacy.Range.size,Nat.sub_zero,Nat.add_sub_cancel,Nat.div_one];rw [this]
    cases r <;> rfl
  ·simp at h
end
def qBin(P:Program)(op:BinOp)(t:TypeId)(x y:Value):BU:=
 match x,y with
 | .int k a,.int k' b=>
  (match op with
   | .shl=>.chk (decide (0<=b)) (.ret (.int k (k.wrap (a*2^(min b.toNat k.bits)))))
   | .shr=>.chk (decide (0<=b)) (.ret (.int k (a.fdiv (2^(min b.toNat k.bits)))))
   | op=>
    match decide (k=k') with
    | false=>.fail
    | true=>
     match op with
     | .add=>.ret (.int k (k.wrap (a+b)))
     | .sub=>.ret (.int k (k.wrap (a-b)))
     | .mul=>.ret (.int k (k.wrap (a*b)))
     | .quo=>.chk (b != 0) (.ret (.int k (k.wrap (a.tdiv b))))
     | .rem=>.chk (b != 0) (.ret (.int k (a.tmod b)))
     | .and=>.ret (.int k (BW .and k a b))
     | .or=>.ret (.int k (BW .or k a b))
     | .xor=>.ret (.int k (BW .xor k a b))
     | .andNot=>.ret (.int k (BW .andNot k a b))
     | .eql=>.ret (.bool (a==b))
     | .neq=>.ret (.bool (a != b))
     | .lss=>.ret (.bool (decide (a<b)))
     | .leq=>.ret (.bool (decide (a<=b)))
     | .gtr=>.ret (.bool (decide (a>b)))
     | .geq=>.ret (.bool (decide (a>=b)))
     | _=>.fail)
 | .bool a,.bool b=>
  (match P.underlying t,op with
   | some .bool,.eql=>.ret (.bool (a==b))
   | some .bool,.neq=>.ret (.bool (!(a==b)))
   | _,_=>.fail)
 | .pointer p,.pointer none=>
  (match P.underlying t,op with
   | some (.pointer _),.eql=>.ret (.bool p.isNone)
   | some (.pointer _),.neq=>.ret (.bool (!p.isNone))
   | _,_=>.fail)
 | .slice a _ _,.slice none _ _=>
  (match P.underlying t,op with
   | some (.slice _),.eql=>.ret (.bool a.isNone)
   | some (.slice _),.neq=>.ret (.bool (!a.isNone))
   | _,_=>.fail)
 | .map r,.map none=>
  (match P.underlying t,op with
   | some (.map _ _),.eql=>.ret (.bool r.isNone)
   | some (.map _ _),.neq=>.ret (.bool (!r.isNone))
   | _,_=>.fail)
 | .agg xs,.agg ys=>
  (match P.eqGuardType P.depth t,op with
   | false,.eql=>(match eqT P 10000 t (.agg xs) (.agg ys) with|some r=>.ret (.bool r)|none=>.fail)
   | false,.neq=>(match eqT P 10000 t (.agg xs) (.agg ys) with|some r=>.ret (.bool (!r))|none=>.fail)
   | _,_=>.fail)
 | _,_=>.fail
section
variable {P:Program}{w:World}
theorem OZ{t:TypeId}{xs ys:Array Value}{r:Bool}(h:eqT P 10000 t (.agg xs) (.agg ys)=some r):(Op.equal t (.agg xs) (.agg ys)).run P w=.ok r w:=
 eqT_run 10000 t _ _ r w h
theorem eqIn_bool(d:Nat){t:TypeId}(hu:P.underlying t=some .bool)(a b:Bool):(Op.equalIn (d+1) t (.bool a) (.bool b)).run P w=.ok (a==b) w:=by
 simp [Op.equalIn,run_underlying hu]
theorem NK(d:Nat){t e:TypeId}(hu:P.underlying t=some (.pointer e))(p:Option Addr):(Op.equalIn (d+1) t (.pointer p) (.pointer none)).run P w=.ok p.isNone w:=by
 cases p <;> simp [Op.equalIn,run_underlying hu]
theorem eqIn_slice(d:Nat){t e:TypeId}(hu:P.underlying t=some (.slice e))(p:Option Addr)(a b c f:Nat):(Op.equalIn (d+1) t (.slice p a b) (.slice none c f)).run P w=.ok p.isNone w:=by
 cases p <;> simp [Op.equalIn,run_underlying hu]
theorem eqIn_map(d:Nat){t e f:TypeId}(hu:P.underlying t=some (.map e f))(p:Option Nat):(Op.equalIn (d+1) t (.map p) (.map none)).run P w=.ok p.isNone w:=by
 cases p <;> simp [Op.equalIn,run_underlying hu]
theorem eqIn_func(d:Nat){t:TypeId}{ps rs:Array TypeId}{va:Bool}(hu:P.underlying t=some (.func ps rs va))(f:Fn)(a c:Array Value):(Op.equalIn (d+1) t (.func f a c) .nilFunc).run P w=.ok false w:=by
 simp [Op.equalIn,run_underlying hu]
theorem NL(d:Nat){t:TypeId}{ps rs:Array TypeId}{va:Bool}(hu:P.underlying t=some (.func ps rs va)):(Op.equalIn (d+1) t .nilFunc .nilFunc).run P w=.ok true w:=by
 simp [Op.equalIn,run_underlying hu]
theorem OI{t:TypeId}{x y:Value}{r:Bool}(hd:binOp .eql t x y=(do pure (.bool (<- Op.equal t x y)):Sem Value))(h:(Op.equalIn (9999+1) t x y).run P w=.ok r w) :
 (binOp .eql t x y).run P w=.ok (.bool r) w:=by
 rw [hd,srb]
 show(Result.andThen ((Op.equalIn (9999+1) t x y).run P w) _)=_
 rw [h];rfl
theorem OD{t:TypeId}{x y:Value}{r:Bool}(hd:binOp .neq t x y=(do pure (.bool (!(<- Op.equal t x y))):Sem Value))(h:(Op.equalIn (9999+1) t x y).run P w=.ok r w) :
 (binOp .neq t x y).run P w=.ok (.bool (!r)) w:=by
 rw [hd,srb]
 show(Result.andThen ((Op.equalIn (9999+1) t x y).run P w) _)=_
 rw [h];rfl
theorem qBin_sound {op:BinOp}{t:TypeId}{x y:Value}{c:World->Prop}{v:Value} (h:Spec (qBin P op t x y) c v) (ox oy:Operand) :
 ((do eqGuard op t ox oy x y;binOp op t x y:Sem Value)).run P w=.ok v w:=by
 unfold qBin at h;split at h
 ·
  rename_i k a k' b;simp only [eqGuard_at_int,srb,srp,ato];split at h
  ·generalize hb:decide (0<=b)=z at h
   cases h with|chk h=>cases h;have hb:=of_decide_eq_true hb;simp [binOp,Op.shift,Int.not_lt.2 hb]
  ·generalize hb:decide (0<=b)=z at h
   cases h with|chk h=>cases h;have hb:=of_decide_eq_true hb;simp [binOp,Op.shift,Int.not_lt.2 hb]
  ·rename_i hs1 hs2;split at h
   ·cases h
   ·rename_i hk;have hk:=of_decide_eq_true hk;subst hk;split at h
    ·cases h;simp [binOp,Op.intArith]
    ·cases h;simp [binOp,Op.intArith]
    ·cases h;simp [binOp,Op.intArith]
    ·generalize hb:(b != 0)=z at h
     cases h with | chk h => cases h;have hb:¬b=0:=(by simpa using hb);simp [binOp,Op.intDiv,hb]
    ·generalize hb:(b != 0)=z at h
     cases h with | chk h => cases h;have hb:¬b=0:=(by simpa using hb);simp [binOp,Op.intDiv,hb]
    ·cases h;simp [binOp,Op.intBits,BW]
    ·cases h;simp [binOp,Op.intBits,BW]
    ·cases h;simp [binOp,Op.intBits,BW]
    ·cases h;simp [binOp,Op.intBits,BW]
    ·cases h;simp [binOp,Op.intCmp]
    ·cases h;simp [binOp,Op.intCmp]
    ·cases h;simp [binOp,Op.intCmp]
    ·cases h;simp [binOp,Op.intCmp]
    ·cases h;simp [binOp,Op.intCmp]
    ·cases h;simp [binOp,Op.intCmp]
    ·cases h
 ·rename_i a b;simp only [eqGuard_at_bool,srb,srp,ato];split at h
  ·rename_i hu;cases h;exact OI rfl (eqIn_bool _ hu _ _)
  ·rename_i hu;cases h;exact OD rfl (eqIn_bool _ hu _ _)
  ·cases h
 ·rename_i p;simp only [eqGuard_at_pointer,srb,srp,ato];split at h
  ·rename_i hu;cases h;exact OI rfl (NK _ hu _)
  ·rename_i hu;cases h;exact OD rfl (NK _ hu _)
  ·cases h
 ·rename_i a _ _ _ _;simp only [eqGuard_at_slice,srb,srp,ato];split at h
  ·rename_i hu;cases h;exact OI rfl (eqIn_slice _ hu _ _ _ _ _)
  ·rename_i hu;cases h;exact OD rfl (eqIn_slice _ hu _ _ _ _ _)
  ·cases h
 ·rename_i a;simp only [eqGuard_at_map,srb,srp,ato];split at h
  ·rename_i hu;cases h;exact OI rfl (eqIn_map _ hu _)
  ·rename_i hu;cases h;exact OD rfl (eqIn_map _ hu _)
  ·cases h
 ·rename_i xs ys;split at h
  ·rename_i hg;split at h
   ·rename_i r hr;cases h;simp [eqGuard,hg,binOp,OZ hr]
   ·cases h
  ·rename_i hg;split at h
   ·rename_i r hr;cases h;simp [eqGuard,hg,binOp,OZ hr]
   ·cases h
  ·cases h
 ·cases h
end
def isF:Value->Bool
 | .func _ _ _=>true
 | _=>false
def okF:Value->Bool
 | .func _ _ _=>true
 | .nilFunc=>true
 | _=>false
def isNilC:Operand->Bool
 | .const .nilFunc=>true
 | _=>false
def qNilF(P:Program)(op:BinOp)(t:TypeId)(a:Value):BU:=
 match P.underlying t,op with
 | some (.func _ _ _),.eql=>.chk (okF a) (.ret (.bool (!isF a)))
 | some (.func _ _ _),.neq=>.chk (okF a) (.ret (.bool (isF a)))
 | _,_=>.fail
def funT(P:Program)(t:TypeId):Bool:=
 match P.underlying t with
 | some (.func _ _ _)=>hasT P t&&szT P t==1
 | _=>false
theorem funT_sz{P:Program}{t:TypeId}(h:funT P t=true):hasT P t=true/\szT P t=1:=by
 unfold funT at h;split at h
 ·simpa using h
 ·cases h
theorem EV{v:Value}(h:okF v=true):v.cells=#[v]:=by
 cases v <;> simp only [okF,Bool.false_eq_true] at h
 ·rfl
 ·rfl
def fnP(P:Program)(t:TypeId)(i:Nat):Bool:=
 match P.underlying t with
 | some (.struct fs)=>(match fs.toList[i]? with|some fd=>funT P fd.type|none=>false)
 | _=>false
def wrapF(P:Program)(t:TypeId):List (Nat×Value)->List (Nat×Value)
 | []=>[]
 | (i,v)::r=>(i,match fnP P t i with|true=>.agg #[v]|false=>v)::wrapF P t r
def JM(P:Program)(t:TypeId):List (Nat×Value)->List Value
 | []=>[]
 | (i,v)::r=>match fnP P t i with|true=>v::JM P t r|false=>JM P t r
def allF:List Value->Bool
 | []=>true
 | [v]=>okF v
 | v::v'::vs=>okF v&&allF (v'::vs)
theorem allF_mem:∀{vs:List Value},allF vs=true->∀v∈vs,okF v=true
 | [],_,v,hv=>by cases hv
 | [u],h,v,hv=>by simp at hv;subst hv;exact h
 | u::u'::us,h,v,hv=>by
  simp only [allF,Bool.and_eq_true] at h;rcases List.mem_cons.1 hv with rfl|hv
  ·exact h.1
  ·exact allF_mem h.2 v hv
theorem fill_wrapF(P:Program)(t:TypeId)(place:Nat->Option (Nat×Nat)):∀(ps:List (Nat×Value)) (cs:Array Value),(∀v∈JM P t ps,okF v=true)->Instr.fill place cs (wrapF P t ps)=Instr.fill place cs ps
 | [],_,_=>rfl
 | (i,v)::r,cs,h=>by
  have e:(match fnP P t i with|true=>Value.agg #[v]|false=>v).cells=v.cells:=by
   cases hf:fnP P t i with
   | false=>rfl
   | true=>
    have:v∈JM P t ((i,v)::r):=by simp [JM,hf]
    exact(EV (h v this)).symm
  have hr:∀u∈JM P t r,okF u=true:=fun u hu=>h u (by
   unfold JM
   cases fnP P t i with
   | false=>exact hu
   | true=>exact mcm _ hu)
  simp only [wrapF,Instr.fill];rw [e]
  cases place i with
  | none=>rfl
  | some x=>
   obtain⟨off,size⟩:=x;simp only;split
   ·rfl
   ·exact fill_wrapF P t place r _ hr
def ID(ρ:Operand->Option Value):List Operand->Option (List Value)
 | []=>some []
 | x::xs=>
  match ρ x,ID ρ xs with
  | some v,some vs=>some (v::vs)
  | _,_=>none
def OB(ρ:Operand->Option Value):List (Nat×Operand)->Option (List (Nat×Value))
 | []=>some []
 | (i,x)::xs=>
  match ρ x,OB ρ xs with
  | some v,some vs=>some ((i,v)::vs)
  | _,_=>none
def qUn(op:UnOp)(x:Value):BU:=
 match op,x with
 | .neg,.int k n=>.ret (.int k (k.wrap (0-n)))
 | .not,.bool b=>.ret (.bool (!b))
 | _,_=>.fail
def qConv(P:Program)(src dst:TypeId)(x:Value):BU:=
 match P.underlying src,P.underlying dst,x with
 | some (.int _),some (.int k),.int _ n=>.ret (.int k (k.wrap n))
 | _,_,_=>.fail
def valQ(P:Program)(t:TypeId)(k:Value->BU):BU:=
 match P.underlying t with
 | some (.struct _)|some (.array _ _)=>
  (match leaves P 12 t with
   | some ds=>leavesQ ds fun vs=>k (.agg vs.toArray)
   | none=>.fail)
 | some d=>leafQ d k
 | none=>.fail
def qLoad(P:Program)(t:TypeId)(x:Value):BU:=
 match x with
 | .pointer p=>
  .chk (isP p) (match aggT P t with
   | true=>
    (match leaves P 12 t with
     | some ds=>
      (match ds.length==szT P t&&hasT P t with
       | true=>leavesQ ds fun vs=>.rdc (fun w=>AS w (pb p) (po p) vs) (.ret (.agg vs.toArray))
       | false=>.fail)
     | none=>.fail)
   | false=>
    match P.underlying t with
    | some d=>leafQ d fun v=>.rdc (fun w=>rd w (pb p) (po p)=some v) (.ret v)
    | none=>.fail)
 | _=>.fail
def LF(P:Program)(s:TypeId)(x:Value)(f:Nat):BU:=
 match P.underlying s,x with
 | some (.struct fs),.pointer p=>
  (match fs.toList[f]? with
   | some fd=>
    (match P.info? fd.type with
     | some i=>(match i.size==0 with
      | false=>.chk (isP p) (.ret (.pointer (some ⟨pb p,po p+fd.offset,none⟩)))
      | true=>.fail)
     | none=>.fail)
   | none=>.fail)
 | _,_=>.fail
def LD(P:Program)(t:TypeId)(x ix:Value):BU:=
 match P.underlying t,x,ix with
 | some (.array n e),.pointer p,.int _ i=>
  (match P.info? e with
   | some ti=>.chk (isP p) (.chk (inB i n) (.ret (.pointer (some ⟨pb p,po p+i.toNat*ti.size,none⟩))))
   | none=>.fail)
 | some (.slice e),.slice a l _,.int _ i=>
  (match P.info? e with
   | some ti=>.chk (isP a) (.chk (inB i l) (.ret (.pointer (some ⟨pb a,po a+i.toNat*ti.size,none⟩))))
   | none=>.fail)
 | _,_,_=>.fail
def qIndex(P:Program)(t:TypeId)(x ix:Value):BU:=
 match P.underlying t,x,ix with
 | some (.array n e),.agg cs,.int _ i=>
  (match aggT P e,P.underlying e,P.info? e with
   | false,some d,some ti=>.chk (inB i n) (leafQ d fun v=>.rdc (fun _=>cs.toList[i.toNat*ti.size]? = some v) (.ret v))
   | _,_,_=>.fail)
 | _,_,_=>.fail
def qExtract(x:Value)(i:Nat):BU:=
 match x with
 | .tuple vs=>(match vs.toList[i]? with|some v=>.ret v|none=>.fail)
 | _=>.fail
def O7(P:Program)(t:TypeId)(x:Value)(lo hi:Option Value):BU:=
 match P.underlying t,x with
 | some (.slice e),.slice a l c=>
  (match P.info? e,lo,hi with
   | some _,none,none=>.chk (CN 0 l c) (.ret (.slice a l c))
   | some _,none,some (.int _ h)=>.chk (CN 0 h c) (.ret (.slice a h.toNat c))
   | some ti,some (.int _ k),none=>.chk (CN k l c) (.ret (.slice (BJ a c k.toNat ti.size) (l-k.toNat) (c-k.toNat)))
   | some ti,some (.int _ k),some (.int _ h)=>.chk (CN k h c) (.ret (.slice (BJ a c k.toNat ti.size) (h.toNat-k.toNat) (c-k.toNat)))
   | _,_,_=>.fail)
 | some (.array n e),.pointer p=>
  (match P.info? e,lo,hi with
   | some _,none,none=>.chk (isP p) (.ret (.slice p n n))
   | some _,none,some (.int _ h)=>.chk (isP p) (.chk (CN 0 h n) (.ret (.slice p h.toNat n)))
   | some ti,some (.int _ k),none=>.chk (isP p) (.chk (CN k n n) (.ret (.slice (BJ p n k.toNat ti.size) (n-k.toNat) (n-k.toNat))))
   | some ti,some (.int _ k),some (.int _ h)=>.chk (isP p) (.chk (CN k h n) (.ret (.slice (BJ p n k.toNat ti.size) (h.toNat-k.toNat) (n-k.toNat))))
   | _,_,_=>.fail)
 | _,_=>.fail
def qSlice3(P:Program)(t:TypeId)(x lo hi mx:Value):BU:=
 match P.underlying t,x,lo,hi,mx with
 | some (.slice e),.slice a _ c,.int _ k,.int _ h,.int _ m=>
  (match P.info? e with
   | some ti=>.chk (CN k h m) (.chk (CN 0 m c) (.ret (.slice (BJ a m.toNat k.toNat ti.size) (h.toNat-k.toNat) (m.toNat-k.toNat))))
   | none=>.fail)
 | _,_,_,_,_=>.fail
structure E5(P:Program)(t:TypeId)(m k:Value)(two:Bool)(v:Value)(w:World):Prop where
 run:(Instr.lookup t m k two).run P w=.ok v w
def qLookup(P:Program)(t:TypeId)(m k:Value)(two:Bool):BU:=
 match P.underlying t with
 | some (.map _ e)=>
  (match two with
   | true=>valQ P e fun v=>.ex fun b:Bool=>.rdc (E5 P t m k true (.tuple #[v,.bool b])) (.ret (.tuple #[v,.bool b]))
   | false=>valQ P e fun v=>.rdc (E5 P t m k false v) (.ret v))
 | _=>.fail
structure entIs(P:Program)(it v:Value)(w:World):Prop where
 run:(Instr.entry it).run P w=.ok v w
def hintQ(P:Program)(t:Option TypeId)(k:Value->BU):BU:=
 match t with
 | some t=>valQ P t k
 | none=>.ex fun v:Value=>k v
def qEntry(P:Program)(τ:Nat->Option TypeId)(ρ:Operand->Option Value)(it:Operand):BU:=
 match ρ it with
 | some a=>hintQ P (τ 0) fun k=>hintQ P (τ 1) fun v=>.rdc (entIs P a (.tuple #[k,v])) (.ret (.tuple #[k,v]))
 | none=>.fail
def extTy(ops:List Oper)(d:Option Tmp)(i:Nat):Option TypeId:=
 match d with
 | none=>none
 | some s=>(ops.find? fun o=>match o.op with|.extract (.tmp s') i'=>s'==s&&i'==i|_=>false).map (·.type)
structure PD(P:Program)(ts:Array TypeId)(t:TypeId)(m:Value)(n:Int)(w:World):Prop where
 run:(Builtin.len_ ts t #[m]).run P w=.ok (.int .i64 n) w
def qBuiltin(P:Program)(b:Builtin)(ts:Array TypeId)(ty:TypeId)(args:List Value):BU:=
 match b,ts.toList,args with
 | .len,t::_,[x]=>
  (match P.underlying t,x with
   | some (.slice _),.slice _ n _=>.ret (.int .i64 n)
   | some .string,.string s=>.ret (.int .i64 s.size)
   | some (.array n _),_=>.ret (.int .i64 n)
   | some (.map _ _),.map r=>.ex fun n:Int=>.rdc (PD P ts ty (.map r) n) (.ret (.int .i64 n))
   | _,_=>.fail)
 | .cap,t::_,[x]=>
  (match P.underlying t,x with
   | some (.slice _),.slice _ _ c=>.ret (.int .i64 c)
   | _,_=>.fail)
 | .min,_,[.int k x,.int _ y]=>.ret (.int k (if y<x then y else x))
 | .max,_,[.int k x,.int _ y]=>.ret (.int k (if y>x then y else x))
 | _,_,_=>.fail
def qArrAt(P:Program)(arr:TypeId)(x:Value):BU:=
 match P.underlying arr,x with
 | some (.array n _),.slice a l _=>.chk (decide (n<=l)) (.ret (.pointer a))
 | _,_=>.fail
def qOp(P:Program)(τ:Nat->Option TypeId)(ρ:Operand->Option Value)(o:Oper):BU:=
 match o.op with
 | .move x=>(match ρ x with|some v=>.ret v|none=>.fail)
 | .assign x=>(match ρ x with|some v=>.ret v|none=>.fail)
 | .nilCheck x=>
  (match ρ x with
   | some (.pointer p)=>.chk (isP p) (.ret (.pointer (some ⟨pb p,po p,none⟩)))
   | some (.func (.func f) a c)=>.ret (.func (.func f) a c)
   | _=>.fail)
 | .binOp op t x y _=>
  (match isNilC y with
   | true=>(match ρ x,ρ y with|some a,some .nilFunc=>qNilF P op t a|_,_=>.fail)
   | false=>(match ρ x,ρ y with|some a,some b=>qBin P op t a b|_,_=>.fail))
 | .unOp op _ x=>(match ρ x with|some a=>qUn op a|none=>.fail)
 | .convert s d x=>(match ρ x with|some a=>qConv P s d a|none=>.fail)
 | .fieldAddr s x f=>(match ρ x with|some a=>LF P s a f|none=>.fail)
 | .indexAddr t x i=>(match ρ x,ρ i with|some a,some b=>LD P t a b|_,_=>.fail)
 | .index t x i=>(match ρ x,ρ i with|some a,some b=>qIndex P t a b|_,_=>.fail)
 | .extract x i=>(match ρ x with|some a=>qExtract a i|none=>.fail)
 | .slice t x lo hi none=>
  (match ρ x,lo,hi with
   | some a,none,none=>O7 P t a none none
   | some a,some l,none=>(match ρ l with|some l=>O7 P t a (some l) none|none=>.fail)
   | some a,none,some h=>(match ρ h with|some h=>O7 P t a none (some h)|none=>.fail)
   | some a,some l,some h=>(match ρ l,ρ h with|some l,some h=>O7 P t a (some l) (some h)|_,_=>.fail)
   | _,_,_=>.fail)
 | .slice t x (some lo) (some hi) (some mx)=>
  (match ρ x,ρ lo,ρ hi,ρ mx with
   | some a,some l,some h,some m=>qSlice3 P t a l h m
   | _,_,_,_=>.fail)
 | .build t parts=>
  (match OB ρ parts.toList with
   | some ps=>
    (match JM P t ps with
     | []=>(match P.built t ps with|some cells=>.ret (.agg cells)|none=>.fail)
     | v::vs=>.chk (allF (v::vs)) (match P.built t (wrapF P t ps) with|some cells=>.ret (.agg cells)|none=>.fail))
   | none=>.fail)
 | .makeFunc fn first cap=>
  (match ID ρ first.toList,ID ρ cap.toList with
   | some a,some b=>.ret (.func fn a.toArray b.toArray)
   | _,_=>.fail)
 | .makeInterface t x=>
  (match ρ x,P.underlying t with
   | some _,some (.interface _)=>.fail
   | some a,some _=>.ret (.iface t a)
   | _,_=>.fail)
 | .load t x=>(match ρ x with|some a=>qLoad P t a|none=>.fail)
 | .lookup t m k two=>(match ρ m,ρ k with|some a,some b=>qLookup P t a b two|_,_=>.fail)
 | .call {callee:=.builtin b,args:=args,argTypes:=ts}=>
  (match ID ρ args.toList with|some vs=>qBuiltin P b ts o.type vs|none=>.fail)
 | .entry it=>qEntry P τ ρ it
 | .sliceToArrayPointer arr x=>(match ρ x with|some a=>qArrAt P arr a|none=>.fail)
 | _=>.fail
def quiet(P:Program):Op->Bool
 | .move _|.assign _|.nilCheck _|.binOp ..|.unOp ..|.fieldAddr ..|.indexAddr ..|.index ..|.extract ..|.build ..|.makeFunc ..|.makeInterface ..
 | .load ..|.lookup ..|.entry _|.sliceToArrayPointer ..=>true
 | .convert s d _=>(match P.underlying s,P.underlying d with|_,some (.int _)=>true|some (.slice _),some .string=>true|_,_=>false)
 | .slice _ _ _ _ none=>true
 | .slice _ _ (some _) (some _) (some _)=>true
 | .call {callee:=.builtin .len,..}|.call {callee:=.builtin .cap,..}|.call {callee:=.builtin .min,..}|.call {callee:=.builtin .max,..}=>true
 | _=>false
section
variable {P:Program}{w:World}
theorem J0{d:TypeDesc}{k:Value->BU}{c:World->Prop}{v:Value}(h:Spec (leafQ d k) c v):∃u,Spec (k u) c v:=by
 cases d <;> simp only [leafQ] at h <;> first|(cases h;done)|skip
 all_goals first
  | (cases h with|ex x h=>exact⟨_,h⟩)
  | (cases h with|ex x h=>cases h with|ex y h=>cases h with|ex z h=>exact⟨_,h⟩)
theorem spec_repQ{d:TypeDesc}{c:World->Prop}{v:Value}:∀{n:Nat}{k:List Value->BU},Spec (repQ d n k) c v->∃us,us.length=n/\Spec (k us) c v
 | 0,k,h=>⟨[],rfl,h⟩
 | n+1,k,h=>by
  obtain⟨u,h⟩:=J0 h;obtain⟨us,hl,h⟩:=spec_repQ h;exact⟨u::us,by simp [hl],h⟩
theorem O3{c:World->Prop}{v:Value}:∀{gs:List (Nat×TypeDesc)}{k:List Value->BU},Spec (grpQ gs k) c v->∃us,us.length=LK gs/\Spec (k us) c v
 | [],k,h=>⟨[],rfl,h⟩
 | (n,d)::gs,k,h=>by
  unfold grpQ at h;split at h
  ·cases h with
   | ex f h=>
    obtain⟨us,hl,h⟩:=O3 h;exact⟨_,by simp [AI,LK,hl],h⟩
  ·obtain⟨us,hl,h⟩:=spec_repQ h;obtain⟨us',hl',h⟩:=O3 h;exact⟨_,by simp [LK,hl,hl'],h⟩
theorem IZ{k:List Value->BU}{c:World->Prop}{v:Value}{ds:List TypeDesc}(h:Spec (leavesQ ds k) c v):∃us,us.length=ds.length/\Spec (k us) c v:=by
 obtain⟨us,hl,h⟩:=O3 h;exact⟨us,by rw [hl,grp_len],h⟩
theorem O1{t:TypeId}{k:Value->BU}{c:World->Prop}{v:Value}(h:Spec (valQ P t k) c v):∃u,Spec (k u) c v:=by
 unfold valQ at h;split at h
 ·split at h
  ·obtain⟨us,_,h⟩:=IZ h;exact⟨_,h⟩
  ·cases h
 ·split at h
  ·obtain⟨us,_,h⟩:=IZ h;exact⟨_,h⟩
  ·cases h
 ·exact J0 h
 ·cases h
theorem BB{b:Bool}{r:BU}{c:World->Prop}{v:Value}(h:Spec (.chk b r) c v):b=true/\Spec r c v:=by
 generalize hb:b=z at h
 cases h with|chk h=>exact⟨rfl,h⟩
theorem BA{u v:Value}{c:World->Prop}(h:Spec (.ret u) c v):u=v:=by cases h;rfl
theorem GP{r:BU}{c0 c:World->Prop}{v:Value}(h:Spec (.rdc c0 r) c v):∃c1,Spec r c1 v/\∀w,c w->c0 w/\c1 w:=by
 cases h with|rdc h=>exact⟨_,h,fun w hw=>hw⟩
theorem spec_ex{α:Type}{f:α->BU}{c:World->Prop}{v:Value}(h:Spec (.ex f) c v):∃x,Spec (f x) c v:=by
 cases h with|ex x h=>exact⟨x,h⟩
theorem qUn_sound{op:UnOp}{x:Value}{c:World->Prop}{v:Value}(h:Spec (qUn op x) c v):(Op.unary op x).run P w=.ok v w:=by
 unfold qUn at h;split at h
 ·cases h;simp [Op.unary,Op.intArith]
 ·cases h;simp [Op.unary]
 ·cases h
theorem qConv_sound{s d:TypeId}{x:Value}{c:World->Prop}{v:Value}(h:Spec (qConv P s d x) c v)(hc:c w):(convert s d x).run P w=.ok v w:=by
 unfold qConv at h;split at h
 ·rename_i hs hd;cases h;simp [convert,run_underlying hs,run_underlying hd,Conv.intToInt]
 ·cases h
theorem rdAll_at{b:Nat}:∀(vs:List Value) (o:Nat),AS w b o vs->∀j v,vs[j]? = some v->rd w b (o+j)=some v:=by
 intro vs
 induction vs with
 | nil=>intro o _ j v h;simp at h
 | cons x xs ih=>
  intro o h j v hj
  cases xs with
  | nil=>
   cases j with
   | zero=>simp at hj;subst hj;exact h
   | succ j=>simp at hj
  | cons y ys=>
   obtain⟨h1,h2⟩:=h
   cases j with
   | zero=>simp at hj;subst hj;exact h1
   | succ j=>
    have:=ih (o+1) h2 j v (by simpa using hj);rw [show o+(j+1)=o+1+j by omega];exact this
theorem PE{t:TypeId}(h:hasT P t=true):∃i,P.info? t=some i/\szT P t=i.size:=by
 obtain⟨i,hi⟩:=Option.isSome_iff_exists.1 h;exact⟨i,hi,by simp [szT,hi]⟩
theorem und_of_info{t:TypeId}(h:aggT P t=true):∃d,P.underlying t=some d:=by
 unfold aggT at h
 cases hu:P.underlying t with
 | none=>simp [hu] at h
 | some d=>exact⟨d,rfl⟩
theorem P4{t:TypeId}{x:Value}{c:World->Prop}{v:Value}(h:Spec (qLoad P t x) c v)(hc:c w):(Instr.loadAt t x).run P w=.ok v w:=by
 unfold qLoad at h;split at h
 ·rename_i p;have hp:=(BB h).1;replace h:=(BB h).2;have hp:=GX hp;generalize pb p=b at *;generalize po p=o at *;subst hp;split at h
  ·rename_i ha;split at h
   ·rename_i ds hds;split at h
    ·rename_i hl;simp only [Bool.and_eq_true,beq_iff_eq] at hl;obtain⟨us,hlen,h⟩:=IZ h;obtain⟨c1,h,hcc⟩:=GP h;have:=BA h;subst this;obtain⟨d,hu⟩:=und_of_info ha;obtain⟨i,hi,hs⟩:=PE hl.2;have hr:=(hcc w hc).1;have hcells:=run_loadCells_list (P:=P) (w:=w) ⟨b,o,none⟩ us (fun j v hj=>by
      rw [Addr.add_lit];exact rdAll_at us o hr j v hj)
     simp only [Instr.loadAt,Instr.sureAddr,loadVar,srb,srp,ato,JX hu,ha,if_true,BY hi];rw [<- hs,<- hl.1,<- hlen,hcells]
     rfl
    ·cases h
   ·cases h
  ·rename_i ha;split at h
   ·rename_i d hu;obtain⟨u,h⟩:=J0 h;obtain⟨c1,h,hcc⟩:=GP h;have:=BA h;subst this;have hr:w.cell? ⟨b,o,none⟩=some u:=(hcc w hc).1;simp only [Instr.loadAt,Instr.sureAddr,loadVar,srb,srp,ato,JX hu,ha,Bool.false_eq_true,if_false,run_load,hr]
   ·cases h
 ·cases h
theorem O9{s:TypeId}{x:Value}{f:Nat}{c:World->Prop}{v:Value}(h:Spec (LF P s x f) c v):(Instr.fieldAt s x f).run P w=.ok v w:=by
 unfold LF at h;split at h
 ·rename_i fs p hu;split at h
  ·rename_i fd hfd;split at h
   ·rename_i i hi;split at h
    ·rename_i hz;have hp:=(BB h).1;replace h:=(BB h).2;have:=BA h;subst this;have hp:=GX hp;generalize pb p=b at *;generalize po p=o at *;subst hp;have hz':¬i.size=0:=by simpa using hz
     have hfd':fs[f]? = some fd:=by simpa using hfd
     simp [Instr.fieldAt,run_underlying hu,hfd',Instr.sureAddr,fieldPlace,BY hi,hz',Addr.add_lit]
    ·cases h
   ·cases h
  ·cases h
 ·cases h
theorem inB_spec{i:Int}{n:Nat}(h:inB i n=true):0<=i/\i<(n:Int):=of_decide_eq_true h
theorem IH{l h c:Int}(hh:CN l h c=true):0<=l/\l<=h/\h<=c:=of_decide_eq_true hh
theorem O8{t:TypeId}{x ix:Value}{c:World->Prop}{v:Value}(h:Spec (LD P t x ix) c v):(Instr.indexAt t x ix).run P w=.ok v w:=by
 unfold LD at h;split at h
 ·rename_i n e p k i hu;split at h
  ·rename_i ti hi;have hp:=(BB h).1;replace h:=(BB h).2;obtain⟨hb,h⟩:=BB h;have:=BA h;subst this;have hb:=inB_spec hb;have hp:=GX hp;generalize pb p=b at *;generalize po p=o at *;subst hp;simp [Instr.indexAt,run_underlying hu,asIntOf,Instr.sureAddr,hb,BY hi,Addr.add_lit]
  ·cases h
 ·rename_i e a l cp k i hu;split at h
  ·rename_i ti hi;have hp:=(BB h).1;replace h:=(BB h).2;obtain⟨hb,h⟩:=BB h;have:=BA h;subst this;have hb:=inB_spec hb;have hp:=GX hp;generalize pb a=b at *;generalize po a=o at *;subst hp;simp [Instr.indexAt,run_underlying hu,asIntOf,hb,BY hi,Addr.add_lit]
  ·cases h
 ·cases h
theorem qIndex_sound{t:TypeId}{x ix:Value}{c:World->Prop}{v:Value}(h:Spec (qIndex P t x ix) c v)(hc:c w):(Instr.index t x ix).run P w=.ok v w:=by
 unfold qIndex at h;split at h
 ·rename_i n e cs k i hu;split at h
  ·rename_i d ti ha hd hi;obtain⟨hb,h⟩:=BB h;obtain⟨u,h⟩:=J0 h;obtain⟨c1,h,hcc⟩:=GP h;have:=BA h;subst this;have hb:=inB_spec hb;have hr:cs[i.toNat*ti.size]? = some u:=by simpa using (hcc w hc).1
   simp [Instr.index,run_underlying hu,asIntOf,hb,BY hi,part,JX hd,ha,hr]
  ·cases h
 ·cases h
theorem qExtract_sound{x:Value}{i:Nat}{c:World->Prop}{v:Value}(h:Spec (qExtract x i) c v):(Instr.extract x i).run P w=.ok v w:=by
 unfold qExtract at h;split at h
 ·split at h
  ·rename_i u hv;have:=BA h;subst this;have hv':=hv;rw [Array.getElem?_toList] at hv';simp [Instr.extract,hv']
  ·cases h
 ·cases h
theorem sl_add(a:Option Addr)(n:Nat)(h:n=0):a.map (·.add n)=a:=by
 subst h
 cases a with
 | none=>rfl
 | some a=>simp [Addr.add]
theorem sb00(isS:Bool)(len cap:Nat):(Instr.sliceBounds isS len cap none none none).run P w=.ok (0,len,cap) w:=by
 simp [Instr.sliceBounds]
theorem sb01(isS:Bool)(len cap:Nat){k:IntKind}{h:Int}(hh:CN 0 h cap=true):(Instr.sliceBounds isS len cap none (some (.int k h)) none).run P w=.ok (0,h.toNat,cap) w:=by
 have hb:=IH hh;simp only [Instr.sliceBounds,srb,srp,ato,run_sliceBound (w:=w) (P:=P) k h cap _ hb.2.1 hb.2.2]
theorem sb10(isS:Bool)(len cap:Nat){k:IntKind}{l:Int}(hh:CN l len cap=true):(Instr.sliceBounds isS len cap (some (.int k l)) none none).run P w=.ok (l.toNat,len,cap) w:=by
 have hb:=IH hh;simp only [Instr.sliceBounds,srb,srp,ato,run_sliceBound (w:=w) (P:=P) k l len _ hb.1 hb.2.1]
theorem sb11(isS:Bool)(len cap:Nat){k k':IntKind}{l h:Int}(hh:CN l h cap=true):(Instr.sliceBounds isS len cap (some (.int k l)) (some (.int k' h)) none).run P w=.ok (l.toNat,h.toNat,cap) w:=by
 have hb:=IH hh;have h2:l<=((h.toNat:Nat):Int):=by omega
 simp only [Instr.sliceBounds,srb,srp,ato,run_sliceBound (w:=w) (P:=P) k' h cap _ (by omega) hb.2.2,run_sliceBound (w:=w) (P:=P) k l h.toNat _ hb.1 h2]
theorem run_sl{t e:TypeId}{i:TypeInfo}{a:Option Addr}{len cap:Nat}{lo hi:Option Value}{l h:Nat}(hu:P.underlying t=some (.slice e))(hi':P.info? e=some i)
 (hb:(Instr.sliceBounds true len cap lo hi none).run P w=.ok (l,h,cap) w) :
 (Instr.sliceAt t (.slice a len cap) lo hi none).run P w=.ok (.slice (BJ a cap l i.size) (h-l) (cap-l)) w:=by
 simp only [Instr.sliceAt,srb,run_underlying hu,ato,Instr.slice,hb,srp,BY hi',BJ]
theorem QD{t e:TypeId}{n:Nat}{i:TypeInfo}{a:Addr}{lo hi:Option Value}{l h:Nat}(hu:P.underlying t=some (.array n e))(hi':P.info? e=some i)
 (hb:(Instr.sliceBounds false n n lo hi none).run P w=.ok (l,h,n) w) :
 (Instr.sliceAt t (.pointer (some a)) lo hi none).run P w=.ok (.slice (BJ (some a) n l i.size) (h-l) (n-l)) w:=by
 simp only [Instr.sliceAt,srb,run_underlying hu,ato,hb,srp,BY hi',BJ,Instr.sureAddr];congr 2;split <;> rfl
theorem JY(a:Option Addr)(c s:Nat):BJ a c 0 s=a:=by
 unfold BJ;rw [Nat.zero_mul,sl_add a 0 rfl];simp
theorem GA{t:TypeId}{x:Value}{lo hi:Option Value}{c:World->Prop}{v:Value}(h:Spec (O7 P t x lo hi) c v):(Instr.sliceAt t x lo hi none).run P w=.ok v w:=by
 unfold O7 at h;split at h
 ·rename_i e a l cp hu;split at h <;> rename_i hi' <;> first|(cases h;done)|skip
  all_goals
   have hb:=(BB h).1;have hv:=BA (BB h).2;subst hv
  ·rw [run_sl hu hi' (sb00 _ _ _),JY];simp
  ·rw [run_sl hu hi' (sb01 _ _ _ hb),JY];simp
  ·rw [run_sl hu hi' (sb10 _ _ _ hb)]
  ·rw [run_sl hu hi' (sb11 _ _ _ hb)]
 ·rename_i n e p hu;split at h <;> rename_i hi' <;> first|(cases h;done)|skip
  all_goals
   have hp:=GX (BB h).1;replace h:=(BB h).2
  ·have hv:=BA h;subst hv;rw [hp,QD hu hi' (sb00 _ _ _),JY];simp
  ·have hb:=(BB h).1;have hv:=BA (BB h).2;subst hv;rw [hp,QD hu hi' (sb01 _ _ _ hb),JY];simp
  ·have hb:=(BB h).1;have hv:=BA (BB h).2;subst hv;rw [hp,QD hu hi' (sb10 _ _ _ hb)]
  ·have hb:=(BB h).1;have hv:=BA (BB h).2;subst hv;rw [hp,QD hu hi' (sb11 _ _ _ hb)]
 ·cases h
theorem sb111(isS:Bool)(len cap:Nat){k k' k'':IntKind}{l h m:Int}(hh:CN l h m=true)(hm:CN 0 m cap=true):(Instr.sliceBounds isS len cap (some (.int k l)) (some (.int k' h)) (some (.int k'' m))).run P w=.ok (l.toNat,h.toNat,m.toNat) w:=by
 have hb:=IH hh;have hb2:=IH hm;have h2:l<=((h.toNat:Nat):Int):=by omega
 have h3:h<=((m.toNat:Nat):Int):=by omega
 simp only [Instr.sliceBounds,srb,srp,ato,run_sliceBound (w:=w) (P:=P) k'' m cap _ hb2.2.1 hb2.2.2,run_sliceBound (w:=w) (P:=P) k' h m.toNat _ (by omega) h3,run_sliceBound (w:=w) (P:=P) k l h.toNat _ hb.1 h2]
theorem run_sl3{t e:TypeId}{i:TypeInfo}{a:Option Addr}{len cap:Nat}{lo hi mx:Option Value}{l h m:Nat}(hu:P.underlying t=some (.slice e))(hi':P.info? e=some i)
 (hb:(Instr.sliceBounds true len cap lo hi mx).run P w=.ok (l,h,m) w) :
 (Instr.sliceAt t (.slice a len cap) lo hi mx).run P w=.ok (.slice (BJ a m l i.size) (h-l) (m-l)) w:=by
 simp only [Instr.sliceAt,srb,run_underlying hu,ato,Instr.slice,hb,srp,BY hi',BJ]
theorem qSlice3_sound{t:TypeId}{x lo hi mx:Value}{c:World->Prop}{v:Value}(h:Spec (qSlice3 P t x lo hi mx) c v):(Instr.sliceAt t x (some lo) (some hi) (some mx)).run P w=.ok v w:=by
 unfold qSlice3 at h;split at h
 ·rename_i hu;split at h
  ·rename_i hi';have hb:=(BB h).1;have hm:=(BB (BB h).2).1;have hv:=BA (BB (BB h).2).2;subst hv;rw [run_sl3 hu hi' (sb111 _ _ _ hb hm)]
  ·cases h
 ·cases h
theorem qLookup_sound{t:TypeId}{m k:Value}{two:Bool}{c:World->Prop}{v:Value}(h:Spec (qLookup P t m k two) c v)(hc:c w):(Instr.lookup t m k two).run P w=.ok v w:=by
 unfold qLookup at h;split at h
 ·split at h
  ·obtain⟨u,h⟩:=O1 h;obtain⟨b,h⟩:=spec_ex h;obtain⟨c1,h,hcc⟩:=GP h;have hv:=BA h;subst hv;exact(hcc w hc).1.run
  ·obtain⟨u,h⟩:=O1 h;obtain⟨c1,h,hcc⟩:=GP h;have hv:=BA h;subst hv;exact(hcc w hc).1.run
 ·cases h
theorem qBuiltin_sound{b:Builtin}{ts:Array TypeId}{ty:TypeId}{args:List Value}{cs:Array Bool}{c:World->Prop}{v:Value}(h:Spec (qBuiltin P b ts ty args) c v)(hc:c w) :
 (builtin b ts ty cs args.toArray).run P w=.ok (.value v) w:=by
 unfold qBuiltin at h;split at h
 ·rename_i t rest x hts;have h0:ts[0]? = some t:=by
   have:ts.toList[0]? = some t:=by rw [hts];rfl
   simpa using this
  split at h
  ·rename_i hu;have hv:=BA h;subst hv;simp [builtin,Builtin.len_,h0,run_underlying hu,goInt]
  ·rename_i hu;have hv:=BA h;subst hv;simp [builtin,Builtin.len_,h0,run_underlying hu,goInt]
  ·rename_i hu;have hv:=BA h;subst hv;simp [builtin,Builtin.len_,h0,run_underlying hu,goInt]
  ·obtain⟨n,h⟩:=spec_ex h;obtain⟨c1,h,hcc⟩:=GP h;have hv:=BA h;subst hv;have:=(hcc w hc).1.run;simp [builtin,this]
  ·cases h
 ·rename_i t rest x hts;have h0:ts[0]? = some t:=by
   have:ts.toList[0]? = some t:=by rw [hts];rfl
   simpa using this
  split at h
  ·rename_i hu;have hv:=BA h;subst hv;simp [builtin,Builtin.cap_,h0,run_underlying hu,goInt]
  ·cases h
 ·have hv:=BA h;subst hv;simp [builtin,Builtin.min_,Builtin.min2]
 ·have hv:=BA h;subst hv;simp [builtin,Builtin.max_,Builtin.max2]
 ·cases h
theorem CX{ρ:Operand->Option Value}{ρa:Operand->Value}(hρ:∀x u,ρ x=some u->ρa x=u):∀{xs:List Operand}{vs:List Value},ID ρ xs=some vs->xs.map ρa=vs:=by
 intro xs
 induction xs with
 | nil=>intro vs h;simp [ID] at h;subst h;rfl
 | cons x xs ih=>
  intro vs h;unfold ID at h;split at h
  ·rename_i v ws hv hw;simp at h;subst h;simp [hρ _ _ hv,ih hw]
  ·simp at h
theorem JJ{ρ:Operand->Option Value}{ρa:Operand->Value}(hρ:∀x u,ρ x=some u->ρa x=u):∀{xs:List (Nat×Operand)}{vs:List (Nat×Value)},OB ρ xs=some vs->xs.map (fun p=>(p.1,ρa p.2))=vs:=by
 intro xs
 induction xs with
 | nil=>intro vs h;simp [OB] at h;subst h;rfl
 | cons x xs ih=>
  intro vs h;obtain⟨i,x⟩:=x;unfold OB at h;split at h
  ·rename_i v ws hv hw;simp at h;subst h;simp [hρ _ _ hv,ih hw]
  ·simp at h
theorem spec_hintQ{t:Option TypeId}{k:Value->BU}{c:World->Prop}{v:Value}(h:Spec (hintQ P t k) c v):∃u,Spec (k u) c v:=by
 unfold hintQ at h;split at h
 ·exact O1 h
 ·exact spec_ex h
theorem qNilF_sound{op:BinOp}{t:TypeId}{a:Value}{c:World->Prop}{v:Value}(h:Spec (qNilF P op t a) c v)(ox oy:Operand) :
 ((do eqGuard op t ox oy a .nilFunc;binOp op t a .nilFunc:Sem Value)).run P w=.ok v w:=by
 unfold qNilF at h;split at h
 ·rename_i hu;obtain⟨hk,h⟩:=BB h;have:=BA h;subst this
  cases a <;> simp only [okF,Bool.false_eq_true] at hk
  ·simp only [eqGuard_at_func,srb,srp,ato];exact OI rfl (eqIn_func _ hu _ _ _)
  ·simp only [eqGuard_at_nilFunc,srb,srp,ato];exact OI rfl (NL _ hu)
 ·rename_i hu;obtain⟨hk,h⟩:=BB h;have:=BA h;subst this
  cases a <;> simp only [okF,Bool.false_eq_true] at hk
  ·simp only [eqGuard_at_func,srb,srp,ato];exact OD rfl (eqIn_func _ hu _ _ _)
  ·simp only [eqGuard_at_nilFunc,srb,srp,ato];exact OD rfl (NL _ hu)
 ·cases h
theorem qArrAt_sound{arr:TypeId}{x:Value}{c:World->Prop}{v:Value}(h:Spec (qArrAt P arr x) c v):(Instr.arrayAt arr x).run P w=.ok v w:=by
 unfold qArrAt at h;split at h
 ·rename_i n e a l cp hu;obtain⟨hb,h⟩:=BB h;have hv:=BA h;subst hv;have hb:n<=l:=of_decide_eq_true hb;simp only [Instr.arrayAt,srb,run_underlying hu,ato,if_neg (Nat.not_lt.2 hb),srp]
 ·cases h
theorem FG{τ:Nat->Option TypeId}{ρ:Operand->Option Value}{ρa:Operand->Value}(hρ:∀x u,ρ x=some u->ρa x=u){o:Oper}{c:World->Prop}{v:Value}(h:Spec (qOp P τ ρ o) c v)(hc:c w) :
 (execOp ρa o).run P w=.ok (.value v) w:=by
 unfold qOp at h;split at h
 ·rename_i x ho;split at h
  ·rename_i u hx;have hv:=BA h;subst hv;simp [execOp,ho,hρ _ _ hx]
  ·cases h
 ·rename_i x ho;split at h
  ·rename_i u hx;have hv:=BA h;subst hv;simp [execOp,ho,hρ _ _ hx]
  ·cases h
 ·rename_i x ho;split at h
  ·rename_i p hx;have hp:=GX (BB h).1;have hv:=BA (BB h).2;subst hv;rw [<- hp];simp only [execOp,ho,hρ _ _ hx];rw [hp];rfl
  ·rename_i hx;have hv:=BA h;subst hv;simp [execOp,ho,hρ _ _ hx]
  ·cases h
 ·rename_i op t x y z ho;split at h
  ·split at h
   ·rename_i a hx hy;have:=qNilF_sound (w:=w) h x y;simp only [execOp,ho,hρ _ _ hx,hρ _ _ hy];rw [srb,this];rfl
   ·cases h
  ·split at h
   ·rename_i a b hx hy;have:=qBin_sound (w:=w) h x y;simp only [execOp,ho,hρ _ _ hx,hρ _ _ hy];rw [srb,this];rfl
   ·cases h
 ·rename_i op t x ho;split at h
  ·rename_i a hx;have:=qUn_sound (P:=P) (w:=w) h;simp only [execOp,ho,hρ _ _ hx];rw [srb,this];rfl
  ·cases h
 ·rename_i s d x ho;split at h
  ·rename_i a hx;have:=qConv_sound (w:=w) h hc;simp only [execOp,ho,hρ _ _ hx];rw [srb,this];rfl
  ·cases h
 ·rename_i s x f ho;split at h
  ·rename_i a hx;have:=O9 (w:=w) h;simp only [execOp,ho,hρ _ _ hx];rw [srb,this];rfl
  ·cases h
 ·rename_i t x i ho;split at h
  ·rename_i a b hx hy;have:=O8 (w:=w) h;simp only [execOp,ho,hρ _ _ hx,hρ _ _ hy];rw [srb,this];rfl
  ·cases h
 ·rename_i t x i ho;split at h
  ·rename_i a b hx hy;have:=qIndex_sound (w:=w) h hc;simp only [execOp,ho,hρ _ _ hx,hρ _ _ hy];rw [srb,this];rfl
  ·cases h
 ·rename_i x i ho;split at h
  ·rename_i a hx;have:=qExtract_sound (P:=P) (w:=w) h;simp only [execOp,ho,hρ _ _ hx];rw [srb,this];rfl
  ·cases h
 ·rename_i t x lo hi ho;split at h
  ·rename_i a hx;have:=GA (w:=w) h;simp only [execOp,ho,hρ _ _ hx,Option.map_none];rw [srb,this];rfl
  ·rename_i a l hx;split at h
   ·rename_i l' hl;have:=GA (w:=w) h;simp only [execOp,ho,hρ _ _ hx,hρ _ _ hl,Option.map_none,Option.map_some];rw [srb,this];rfl
   ·cases h
  ·rename_i a l hx;split at h
   ·rename_i l' hl;have:=GA (w:=w) h;simp only [execOp,ho,hρ _ _ hx,hρ _ _ hl,Option.map_none,Option.map_some];rw [srb,this];rfl
   ·cases h
  ·rename_i a l l2 hx;split at h
   ·rename_i l' l2' hl hl2;have:=GA (w:=w) h;simp only [execOp,ho,hρ _ _ hx,hρ _ _ hl,hρ _ _ hl2,Option.map_none,Option.map_some];rw [srb,this];rfl
   ·cases h
  ·cases h
 ·rename_i t x lo hi mx ho;split at h
  ·rename_i a l l2 l3 hx hl hl2 hl3;have:=qSlice3_sound (w:=w) h;simp only [execOp,ho,hρ _ _ hx,hρ _ _ hl,hρ _ _ hl2,hρ _ _ hl3,Option.map_some];rw [srb,this];rfl
  ·cases h
 ·rename_i t parts ho;split at h
  ·rename_i ps hps;split at h
   ·split at h
    ·rename_i cells hb;have hv:=BA h;subst hv;have hp:=JJ hρ hps;have:=run_build (P:=P) w t (parts.map fun p=>(p.1,ρa p.2)) cells (by rw [Array.toList_map,hp];exact hb);simp only [execOp,ho];rw [srb,this];rfl
    ·cases h
   ·rename_i v0 vs0 hfv;obtain⟨hk,h⟩:=BB h;split at h
    ·rename_i cells hb;have hv:=BA h;subst hv;have hp:=JJ hρ hps;have hb:P.built t ps=some cells:=by
      have hf:=fun place cs=>fill_wrapF P t place ps cs (by rw [hfv];exact allF_mem hk);unfold Program.built at hb ⊢;simp only [hf] at hb;exact hb
     have:=run_build (P:=P) w t (parts.map fun p=>(p.1,ρa p.2)) cells (by rw [Array.toList_map,hp];exact hb);simp only [execOp,ho];rw [srb,this];rfl
    ·cases h
  ·cases h
 ·rename_i fn first cap ho
  split at h
  ·rename_i a b ha hb;have hv:=BA h;subst hv;have h1:first.map ρa=a.toArray:=by rw [<- CX hρ ha,<- Array.toList_map]
   have h2:cap.map ρa=b.toArray:=by rw [<- CX hρ hb,<- Array.toList_map]
   simp [execOp,ho,Instr.makeFunc,h1,h2]
  ·cases h
 ·rename_i t x ho;split at h
  ·cases h
  ·rename_i a d hni hx hu;have hv:=BA h;subst hv;simp only [execOp,ho,hρ _ _ hx,Instr.makeInterface,srb,run_underlying hu,ato]
   cases d <;> first|rfl|exact(hni _ rfl).elim
  ·cases h
 ·rename_i t x ho;split at h
  ·rename_i a hx;have:=P4 (w:=w) h hc;simp only [execOp,ho,hρ _ _ hx];rw [srb,this];rfl
  ·cases h
 ·rename_i t m k two ho;split at h
  ·rename_i a b hx hy;have:=qLookup_sound (w:=w) h hc;simp only [execOp,ho,hρ _ _ hx,hρ _ _ hy];rw [srb,this];rfl
  ·cases h
 ·rename_i b args ts ho;split at h
  ·rename_i vs hvs;have h1:args.map ρa=vs.toArray:=by rw [<- CX hρ hvs,<- Array.toList_map]
   have:=qBuiltin_sound (w:=w) (cs:=args.map fun|.const _=>true|_=>false) h hc;simp only [execOp,ho,resolve,srb,srp,ato,invoke,h1];exact this
  ·cases h
 ·rename_i it ho;unfold qEntry at h;split at h
  ·rename_i a ha;obtain⟨k,h⟩:=spec_hintQ h;obtain⟨v,h⟩:=spec_hintQ h;obtain⟨c1,h,hcc⟩:=GP h;have hv:=BA h;subst hv;have:=(hcc w hc).1.run;simp only [execOp,ho,hρ _ _ ha];rw [srb,this];rfl
  ·cases h
 ·rename_i arr x ho;split at h
  ·rename_i a hx;have:=qArrAt_sound (w:=w) h;simp only [execOp,ho,hρ _ _ hx];rw [srb,this];rfl
  ·cases h
 ·cases h
end
end Go.Eng
