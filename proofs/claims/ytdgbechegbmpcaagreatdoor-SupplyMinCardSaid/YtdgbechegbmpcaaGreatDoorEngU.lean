/- Part of an engine. Proved: its laws. Conditions: those in each theorem. -/
import Derived.Test.YtdgbechegbmpcaaGreatDoorEngI
import Derived.Laws.AppendOwn
import Derived.ProofKit
import Derived.OpenShut
import Derived.Carry
import Derived.Lib.SliceRun
import Derived.Deep.Slices
import Derived.Laws.BytesArg
import Derived.Laws.OwnMore
set_option linter.unusedSimpArgs false
set_option linter.unusedVariables false
namespace Go.Eng
abbrev NP:=Nat->Prop
abbrev NI:=Nat->Int
abbrev WD:=Go.World
@[simp] theorem Wif_true (x y:Prop):Wif true x y=x:=rfl
@[simp] theorem Wif_false (x y:Prop):Wif false x y=y:=rfl
@[simp] theorem gIf_true (C x:Prop):gIf true C x=x:=rfl
theorem AH{b:Bool}{x y:Prop}(h1:b=true->x)(h2:b=false->y):Wif b x y:=by
 cases b
 .exact h2 rfl
 .exact h1 rfl
theorem AA{b:Bool}{x y:Prop}(h:b=true)(hx:x):Wif b x y:=by subst h;exact hx
theorem AL{b:Bool}{x y:Prop}(h:b=false)(hy:y):Wif b x y:=by subst h;exact hy
theorem AJ{b:Bool}{C x:Prop}(h:C->b=true)(hx:x):gIf b C x:=by
 cases b
 .exact⟨λhC=>by simp at h;exact h hC,hx⟩
 .exact hx
@[simp] theorem inB_iff (i:Int) (n:Nat):(inB i n=true)=(0<=i/\i<(n:Int)):=by simp [inB]
theorem DZ{i:Int}{n:Nat}(h0:0<=i:=by omega)(h1:i<(n:Int):=by omega):inB i n=true:=by simp [h0,h1]
theorem BR{l h c:Int}(h0:0<=l:=by omega)(h1:l<=h:=by omega)(h2:h<=c:=by omega):CZ l h c=true:=by simp [CZ,h0,h1,h2]
@[simp] theorem isP_some (b o:Nat):isP (some ⟨b,o,none⟩)=true:=rfl
@[simp] theorem pb_some (a:Addr):pb (some a)=a.block:=rfl
@[simp] theorem po_some (a:Addr):po (some a)=a.off:=rfl
theorem FG(w:WD)(b o:Nat):rd w b o=match w.heap[b]? with|some (.cells c _ _)=>c[o]? | _=>none:=by
 unfold rd World.cell?
 cases w.heap[b]? with
 | none=>rfl
 | some x=>cases x <;> rfl
@[simp] theorem rd_drew (w:WD) (b o:Nat):rd w.drew b o=rd w b o:=rfl
@[simp] theorem rd_alloc_new (w:WD) (c:Array Value) (t:TypeId) (o:Nat):rd (w.alloc (.cells c t)) w.heap.size o=c[o]? := by
 simp [rd]
theorem J3{w:WD}{b o:Nat}{v:Value}(h:rd w b o=some v):b<w.heap.size:=World.block_lt_of_cell? w _ h
@[simp] theorem size_st (w:WD) (b o:Nat) (v:Value):(st w b o v).heap.size=w.heap.size:=World.size_setCell w _ v
@[simp] theorem frozen_st (w:WD) (b o:Nat) (v:Value) (a:Addr):(st w b o v).frozen? a=w.frozen? a:=World.frozen?_setCell w _ _ v
theorem AB.refl(X:Nat->Prop)(w:WD):AB X w w:=⟨rfl,rfl,rfl,nlr _,λ_ _ _=>rfl⟩
theorem AB.AE{X Y:Nat->Prop}{w w':WD}(h:AB X w w')(hx:∀b,b<w.heap.size->X b->Y b):AB Y w w':=
 ⟨h.os,h.tape,h.out,h.sz,λb hb hn=>h.blk b hb λhxb=>hn (hx b hb hxb)⟩
theorem AB.trans{X Y:Nat->Prop}{w w1 w2:WD}(h:AB X w w1)(h2:AB Y w1 w2)(hy:∀b,b<w.heap.size->Y b->X b):AB X w w2:=
 ⟨h2.os.trans h.os,h2.tape.trans h.tape,h2.out.trans h.out,Nat.le_trans h.sz h2.sz,λb hb hn=>(h2.blk b (nll hb h.sz) λhyb=>hn (hy b hb hyb)).trans (h.blk b hb hn)⟩
theorem AB.drew{X:Nat->Prop}{w w':WD}(h:AB X w w'):AB X w w'.drew:=⟨h.os,h.tape,h.out,h.sz,h.blk⟩
theorem AB.alloc{X:Nat->Prop}{w w':WD}(h:AB X w w')(c:Array Value)(t:TypeId):AB X w (w'.alloc (.cells c t)):=by
 refine⟨h.os,h.tape,h.out,by simp;exact Nat.le_succ_of_le h.sz,λb hb hn=>?_⟩;rw [<- h.blk b hb hn];simp only [World.alloc,Array.getElem?_push];rw [if_neg (by have:=h.sz;omega)]
theorem AB.st{X:Nat->Prop}{w w':WD}(h:AB X w w'){b o:Nat}{v:Value}(hb:X b\/w.heap.size<=b):AB X w (Eng.st w' b o v):=by
 refine⟨h.os,h.tape,h.out,by simp;exact h.sz,λb' hb' hn=>?_⟩;rw [<- h.blk b' hb' hn];have hne:b≠b':=by
  rintro rfl;rcases hb with hb|hb
  .exact hn hb
  .omega
 simp [Eng.st,World.setCell,Array.getElem?_modify,hne]
theorem AB.rd{X:Nat->Prop}{w w':WD}(h:AB X w w'){b:Nat}(hb:b<w.heap.size)(hx:¬X b)(o:Nat):Eng.rd w' b o=Eng.rd w b o:=by
 rw [FG,FG,h.blk b hb hx]
theorem AB.AV{X:Nat->Prop}{w w':WD}(h:AB X w w'){b o:Nat}{v:Value}(hr:Eng.rd w b o=some v)(hx:¬X b):Eng.rd w' b o=some v:=by
 rw [h.rd (J3 hr) hx];exact hr
theorem AB.keptBut{w w':WD}(h:AB AD w w')(may:MemPlace->Prop):w.keptBut w' may:=by
 refine⟨h.os,h.out,λi hi=>?_⟩;rw [h.blk i hi (λx=>x)];generalize w.heap[i]? = o
 cases o with
 | none=>rfl
 | some x=>
  cases x
  case cells=>exact⟨rfl,rfl,rfl,λ_ _=>rfl⟩
  case map=>exact .inr ⟨rfl,rfl⟩
  all_goals rfl
theorem AB.grownBy{w w':WD}{row:Option Nat}(h:w.grownBy w' row):AB (λb=>row=some b) w w':=
 ⟨h.os,h.tape,h.output,h.size,λb hb hn=>h.block b hb λe=>hn e.symm⟩
theorem AB.below{w w':WD}(h:AB AD w w'):RowKit.Below w.heap.size w w':=
 ⟨h.os,h.tape,h.out,h.sz,λk hk=>h.blk k hk id⟩
theorem AB.allocMap{X:Nat->Prop}{w w':WD}(h:AB X w w')(es:Array MapEntry)(c:Nat):AB X w (w'.alloc (.map es c)):=by
 refine⟨h.os,h.tape,h.out,by simp;exact Nat.le_succ_of_le h.sz,λb hb hn=>?_⟩;rw [<- h.blk b hb hn];simp only [World.alloc,Array.getElem?_push];rw [if_neg (by have:=h.sz;omega)]
def AX(w:WD)(b:Nat)(cs:List Value):Prop:=∃t,w.heap[b]? = some (.cells cs.toArray t (0,0))
theorem AX.lt{w:WD}{b:Nat}{cs:List Value}(h:AX w b cs):b<w.heap.size:=by
 obtain⟨t,h⟩:=h;exact(FK.1 h).1
theorem AX.rd{w:WD}{b:Nat}{cs:List Value}(h:AX w b cs)(o:Nat):Eng.rd w b o=cs[o]? := by
 obtain⟨t,h⟩:=h;rw [FG,h];simp
theorem AX.wr{w:WD}{b:Nat}{cs:List Value}(h:AX w b cs){o:Nat}(ho:o<cs.length):Eng.wr w b o:=by
 refine⟨⟨cs[o],by rw [h.rd];simp [ho]⟩,?_⟩;obtain⟨t,h⟩:=h;simp [World.frozen?,h]
theorem B8c(w:WD)(c:Array Value)(t:TypeId):AX (w.alloc (.cells c t)) w.heap.size c.toList:=⟨t,by simp only [World.alloc];simp⟩
theorem AX.alloc{w:WD}{b:Nat}{cs:List Value}(h:AX w b cs)(x:Obj):AX (w.alloc x) b cs:=by
 have hl:=h.lt;obtain⟨t,h⟩:=h;refine⟨t,?_⟩;simp only [World.alloc,Array.getElem?_push];rw [if_neg (by omega)];exact h
theorem AX.drew{w:WD}{b:Nat}{cs:List Value}(h:AX w b cs):AX w.drew b cs:=h
theorem AX.BT{w:WD}{b o:Nat}{cs:List Value}{v:Value}(h:AX w b cs):AX (Eng.st w b o v) b (cs.set o v):=by
 obtain⟨t,h⟩:=h;refine⟨t,?_⟩;simp [Eng.st,World.setCell,Array.getElem?_modify,h]
theorem AX.C38{w:WD}{b b' o:Nat}{cs:List Value}{v:Value}(h:AX w b cs)(hn:b≠b'):AX (Eng.st w b' o v) b cs:=by
 obtain⟨t,h⟩:=h;refine⟨t,?_⟩;simp [Eng.st,World.setCell,Array.getElem?_modify,Ne.symm hn,h]
theorem AX.kept{w w':WD}{b:Nat}{cs:List Value}{X:Nat->Prop}(h:AX w b cs)(k:AB X w w')(hx:¬X b):AX w' b cs:=by
 have hl:=h.lt;obtain⟨t,h⟩:=h;exact⟨t,by rw [k.blk b hl hx];exact h⟩
@[simp] theorem wr_drew (w:WD) (b o:Nat):wr w.drew b o=wr w b o:=propext ⟨λh=>⟨h.1,h.2⟩,λh=>⟨h.1,h.2⟩⟩
theorem AB.rdE{w w':WD}(h:AB AD w w')(b o:Nat)(hb:b<w.heap.size):Eng.rd w' b o=Eng.rd w b o:=h.rd hb id o
theorem AB.wrE{w w':WD}(h:AB AD w w')(b o:Nat)(hb:b<w.heap.size):Eng.wr w' b o=Eng.wr w b o:=by
 refine propext ⟨λ⟨⟨u,hu⟩,h2⟩=>⟨⟨u,?_⟩,?_⟩,λ⟨⟨u,hu⟩,h2⟩=>⟨⟨u,?_⟩,?_⟩⟩
 .rw [h.rdE b o hb] at hu;exact hu
 .simp only [World.frozen?,h.blk b hb id] at h2 ⊢;exact h2
 .rw [h.rdE b o hb];exact hu
 .simp only [World.frozen?,h.blk b hb id] at h2 ⊢;exact h2
theorem AG{w w1:WD}{c:List Value}{t:TypeId}(e:w1=w.alloc (.cells c.toArray t)):AX w1 w.heap.size c:=by
 subst e;simpa using B8c w c.toArray t
theorem AX.al{w w1:WD}{x:Obj}{b:Nat}{cs:List Value}(h:AX w b cs)(e:w1=w.alloc x):AX w1 b cs:=e▸h.alloc x
theorem AX.dr{w w1:WD}{b:Nat}{cs:List Value}(h:AX w b cs)(e:w1=w.drew):AX w1 b cs:=e▸h.drew
theorem AX.s1{w w1:WD}{b o:Nat}{v:Value}{cs:List Value}(h:AX w b cs)(e:w1=Eng.st w b o v):AX w1 b (cs.set o v):=e▸h.BT
theorem AX.s2{w w1:WD}{b o o':Nat}{v v':Value}{cs:List Value}(h:AX w b cs)(e:w1=Eng.st (Eng.st w b o v) b o' v'):AX w1 b ((cs.set o v).set o' v'):=e▸h.BT.BT
theorem AX.n1{w w1:WD}{b b' o:Nat}{v:Value}{cs:List Value}(h:AX w b cs)(e:w1=Eng.st w b' o v)(hn:b≠b'):AX w1 b cs:=e▸h.C38 hn
theorem AB.al{X:Nat->Prop}{w0 w w1:WD}{c:Array Value}{t:TypeId}(h:AB X w0 w)(e:w1=w.alloc (.cells c t)):AB X w0 w1:=e▸h.alloc c t
theorem AB.dr{X:Nat->Prop}{w0 w w1:WD}(h:AB X w0 w)(e:w1=w.drew):AB X w0 w1:=e▸h.drew
theorem AB.s1{X:Nat->Prop}{w0 w w1:WD}{b o:Nat}{v:Value}(h:AB X w0 w)(e:w1=Eng.st w b o v)(hb:X b\/w0.heap.size<=b):AB X w0 w1:=e▸h.st hb
theorem AB.s2{X:Nat->Prop}{w0 w w1:WD}{b o o':Nat}{v v':Value}(h:AB X w0 w)(e:w1=Eng.st (Eng.st w b o v) b o' v')(hb:X b\/w0.heap.size<=b):AB X w0 w1:=e▸(h.st hb).st hb
theorem AB.tr{X:Nat->Prop}{w0 w w1:WD}(h:AB X w0 w)(h2:AB AD w w1):AB X w0 w1:=h.trans h2 (λ_ _ h=>h.elim)
theorem AX.k{w w1:WD}{b:Nat}{cs:List Value}(h:AX w b cs)(k:AB AD w w1):AX w1 b cs:=h.kept k id
theorem wi{x:Int}(h:-9223372036854775808<=x/\x<=9223372036854775807):IntKind.wrap .i64 x=x:=IntWalk.i64_in _ (by omega)
theorem wu{x:Int}(h:0<=x/\x<=18446744073709551615):IntKind.wrap .u64 x=x:=by
 simp only [IntKind.wrap,IntKind.bits,IntKind.signed,Bool.false_and,Bool.false_eq_true,if_false];omega
theorem wb{x:Int}(h:0<=x/\x<=255):IntKind.wrap .u8 x=x:=by
 simp only [IntKind.wrap,IntKind.bits,IntKind.signed,Bool.false_and,Bool.false_eq_true,if_false];omega
theorem wzz{q:Nat}(h:(q:Int)<9223372036854775807:=by omega):IntKind.wrap .i64 ((q:Int)+1)=((q+1:Nat):Int):=by rw [wi (by omega)];rfl
theorem kr{X:Nat->Prop}{w:WD}:AB X w w:=AB.refl _ _
theorem kal{w w1:WD}{c:Array Value}{t:TypeId}(e:w1=w.alloc (.cells c t)):AB AD w w1:=(AB.refl _ _).al e
theorem kdr{w w1:WD}(e:w1=w.drew):AB AD w w1:=(AB.refl _ _).dr e
theorem Wi{i:Int}{n:Nat}{x y:Prop}(h:x)(h0:0<=i:=by omega)(h1:i<(n:Int):=by omega):Wif (inB i n) x y:=AA (DZ h0 h1) h
open Go.ChangeShapes Go.WideShapes Go.ChangeAt Go.RowKit
section
variable {H:Type}{enc:TypeId×Value->H}{P:Program}
theorem A04(hl:laidOutB P=true){W W':WD}(hb:Below W.heap.size W W') :
 ∀(ts:List TypeId) (vs:List Value) (ds:List (DataW H)) (ps:List MemPlace),(∀t∈ts,P.readableRec t=true/\t<P.types.size)->
 DataW.TrodAll enc P W 0 (λ_=>true) true ts vs ds ps->(∀x∈ps,x.block<W.heap.size)->
 DataW.TrodAll enc P W' 0 (λb=>decide (b<W.heap.size)) true ts vs ds ps:=by
 intro ts
 induction ts with
 | nil=>
  intro vs ds ps _ h _;obtain⟨rfl,rfl,rfl⟩:=trodAll_nil h;exact trodAll_mk0
 | cons t ts ih=>
  intro vs ds ps hr h hlt;obtain⟨v,vs',d,ds',p,q,rfl,rfl,rfl,h0,h1⟩:=trodAll_cons h;have r0:=hr t (mcs ..);exact trodAll_cons_mk (Below.trod hl r0.1 r0.2 h0 hb λx hx=>hlt x (List.mem_append_left _ hx))
   (ih vs' ds' q (λt ht=>hr t (mcm _ ht)) h1 λx hx=>hlt x (List.mem_append_right _ hx))
end
def C03(P:Program)(f:Func):Bool:=f.params.toList.all λt=>P.readableRec t&&decide (t<P.types.size)
end Go.Eng
namespace Go.Eng
def upd{α:Type}(f:Nat->α)(i:Nat)(v:α):Nat->α:=λj=>if j=i then v else f j
@[simp] theorem AF {α:Type} (f:Nat->α) (i:Nat) (v:α):upd f i v i=v:=by simp [upd]
theorem AI{α:Type}(f:Nat->α){i j:Nat}(v:α)(h:j≠i):upd f i v j=f j:=by simp [upd,h]
theorem AX.kx{X:NP}{w w1:WD}{b:Nat}{cs:List Value}(h:AX w b cs)(k:AB X w w1)(hx:¬X b):AX w1 b cs:=h.kept k hx
theorem MB{w:WD}{B:Nat}{cs ds:List Value}(h:AX w B cs):AX (w.setRow B ds.toArray) B ds:=by
 obtain⟨t,h⟩:=h;exact⟨t,by simp [World.setRow,Array.getElem?_modify,h]⟩
theorem JY(w:WD)(B:Nat)(cs:Array Value):AB (·=B) w (w.setRow B cs):=by
 refine⟨rfl,rfl,rfl,by simp [World.setRow],λb hb hn=>?_⟩;have hne:B≠b:=λe=>hn e.symm;simp [World.setRow,Array.getElem?_modify,hne]
theorem B9d{P:Program}{t e ty:TypeId}{z:Value}(ht:P.underlying t=some (.slice e))(hv:∀w,(zeroValue e).run P w=.ok z w)(hz:z.cells=#[z])(h1:z.oneCell'=true)
 {w:WD}{B:Nat}{cs:List Value} (h:AX w B cs) (o n c:Nat) (hn:o+n<=cs.length) :
 ∃w',JS P #[t] ty (.slice (some ⟨B,o,none⟩) n c) w w'/\AX w' B (cs.take o++List.replicate n z++cs.drop (o+n))/\AB (·=B) w w':=by
 cases n with
 | zero=>
  refine⟨w,⟨by simp [Builtin.clear_,run_underlying ht]⟩,?_,AB.refl _ _⟩;simpa using h
 | succ m=>
  have hzc:(Builtin.zeroCells z.cells (m+1)).toList=List.replicate (m+1) z:=by
   rw [hz];simp [Builtin.zeroCells];apply List.ext_getElem
   .simp
   .intro i h1 h2;simp [Nat.mod_one]
  obtain⟨et,hB⟩:=h;have hst:=run_storeCells_at P B o et (List.replicate (m+1) z) 0 cs.toArray w hB (by simpa using hn) (by intro v hv';rw [List.eq_of_mem_replicate hv'];exact h1);simp only [Nat.add_zero,List.length_replicate] at hst;refine⟨_,⟨?_⟩,MB ⟨et,hB⟩,JY _ _ _⟩;simp [Builtin.clear_,run_underlying ht,hv,hzc,hst]
theorem A5p{P:Program}{base:Nat}{t ty e:TypeId}{i:TypeInfo}{z:Value}{size:Nat}(ht:P.underlying t=some (.slice e))(hi:P.info? e=some i)(hz:i.zero=some z)
 (hsize:i.size=size) (hzs:z.cells.size=size) (hsz:0<size)
 {w:WD}{v:Value}{n:Nat}{xs:List Value} (ho:w.ownsRow base e size v n xs) {X m c off:Nat}{news ys:List Value} (hx:AX w X ys) (hys:(ys.drop off).take (m*size)=news) (hl:news.length=m*size)
 (h1:∀u∈news,u.oneCell'=true) (h63:n+m<=1000000) (hby:i.bytes<=1000000) (hbase:base<=w.heap.size) :
 ∃a l c' w',BL P #[t,t] ty v (.slice (some ⟨X,off,none⟩) m c) (.slice a l c') w w'/\l=n+m/\w'.ownsRow base e size (.slice a l c') (n+m) (xs++news)/\AB (λb=>v.ownBlock=some b) w w':=by
 have hnews:∀j u,news[j]? = some u->w.cell? ((⟨X,off,none⟩:Addr).add j)=some u:=by
  intro j u hu;have hadd:(⟨X,off,none⟩:Addr).add j=⟨X,off+j,none⟩:=by unfold Addr.add;split <;> simp_all
  rw [hadd];have:=hx.rd (off+j);unfold rd at this;rw [this];rw [<- hys,List.getElem?_take] at hu;split at hu
  .simpa using hu
  .cases hu
 have hmul:(n+m)*i.bytes<=1000000*1000000:=Nat.mul_le_mul h63 hby;obtain⟨v',w',hr,hown,hg,_⟩:=run_append_own (P:=P) w base t ty e i z size i.bytes ht hi hz hsize rfl hzs hsz v n xs ho ⟨X,off,none⟩ m c news hl hnews h1 (by simp only [maxLen];omega) (by omega) hbase;have hsl:∃a c',v'=.slice a (n+m) c':=by
  rcases hown.2 with⟨rfl,h0⟩|⟨g,cap,cur,rfl,_⟩
  .exact⟨none,0,by rw [h0]⟩
  .exact⟨_,_,rfl⟩
 obtain⟨a,c',rfl⟩:=hsl;exact⟨a,n+m,c',w',⟨hr⟩,rfl,hown,AB.grownBy hg⟩
theorem BA{X:NP}{w w':WD}{base e size n:Nat}{v:Value}{xs:List Value}(h:w.ownsRow base e size v n xs)(k:AB X w w')(hx:∀b,base<=b->b<w.heap.size->v.ownBlock=some b->¬X b):w'.ownsRow base e size v n xs:=by
 refine⟨h.1,?_⟩;rcases h.2 with hn|⟨g,cap,cur,rfl,hb,hgg,rest⟩
 .exact .inl hn
 .have hl:=(FK.1 hgg).1;exact .inr ⟨g,cap,cur,rfl,hb,(k.blk g hl (hx g hb hl rfl)).trans hgg,rest⟩
theorem CN{w:WD}{base e size n l c:Nat}{a:Option Addr}{xs:List Value}(h:w.ownsRow base e size (.slice a l c) n xs) :
 l=n/\((a=none/\n=0/\c=0)\/∃g cs,a=some ⟨g,0,none⟩/\base<=g/\AX w g cs/\cs.take (n*size)=xs/\n<=c/\cs.length=c*size):=by
 rcases h.2 with⟨hv,h0⟩|⟨g,cap,cur,hv,hb,hgg,hnc,hm,hsz,htk⟩
 .cases hv
  exact⟨h0.symm,.inl ⟨rfl,h0,rfl⟩⟩
 .cases hv
  exact⟨rfl,.inr ⟨g,cur.toList,rfl,hb,⟨e,by simpa using hgg⟩,htk,hnc,by simpa using hsz⟩⟩
def bytes(w:WD)(B:Nat)(f:NI):Prop:=∃cs,AX w B cs/\256<=cs.length/\∀i,i<256->cs[i]? = some (.int .u8 (f i))
def DA(f:NI)(a n:Nat):NI:=λj=>if a<=j/\j<a+n then 0 else f j
open Go.ChangeShapes Go.WideShapes Go.ChangeAt Go.RowKit Go.Deep
theorem B3g{w:WD}{a:Addr}{v:Value}(h:w.cell? a=some v):a.spot=none/\rd w a.block a.off=some v:=by
 obtain⟨b,o,s⟩:=a
 cases s with
 | none=>exact⟨rfl,h⟩
 | some k=>
  exfalso;simp only [World.cell?,Option.isSome_some,if_true] at h;split at h <;> cases h
section
variable {H:Type}{enc:TypeId×Value->H}{P:Program}
theorem NN{t e:TypeId}(ht:P.underlying t=some (.slice e)){W:WD}{fuel:Nat}{vs:List Value}{q:DataW H×List MemPlace}
 (hf:DataW.trod enc P W 0 (λ_=>true) true fuel t vs=some q) (hpos:0<P.cellsOf e) :
 ∃a l c,vs=[.slice a l c]/\l<=c/\c<=maxLen/\(0<l->isP a=true)/\(a=none->l=0/\c=0)/\
  ∀i,i<l->∃cs n x,cs.length=P.cellsOf e/\(∀j,j<P.cellsOf e->rd W (pb a) (po a+i*P.cellsOf e+j)=cs[j]?)/\DataW.trod enc P W 0 (λ_=>true) true n e cs=some x:=by
 rcases open_slice ht hf with⟨rfl,_⟩|⟨a,l0,c0,m,n,D,Pl,rfl,_,hl,hm,hmm,_,hx⟩
 .exact⟨none,0,0,rfl,nlr _,Nat.zero_le _,λh=>absurd h (Nat.lt_irrefl _),λ_=>⟨rfl,rfl⟩,λi hi=>absurd hi (nlz _)⟩
 .simp only [if_true] at hmm;have key:∀i,i<l0->∃cs n x,a.spot=none/\cs.length=P.cellsOf e/\(∀j,j<P.cellsOf e->rd W a.block (a.off+i*P.cellsOf e+j)=cs[j]?)/\DataW.trod enc P W 0 (λ_=>true) true n e cs=some x:=by
   intro i hi;obtain⟨cs,hc,ht⟩:=hx i (by omega);obtain⟨_,hlen,hcell⟩:=World.cells?_some hc;have hj:∀j,j<P.cellsOf e->∃u,cs[j]? = some u/\W.cell? ((a.add (i*P.cellsOf e)).add j)=some u:=λj hj=>by
    have:=hcell j hj;rw [geg (by omega)] at this ⊢;exact⟨_,rfl,this⟩
   have hadd:∀x y:Nat,((a.add x).add y).block=a.block/\((a.add x).add y).off=a.off+x+y:=by
    intro x y;unfold Addr.add;constructor <;> (split <;> split <;> simp_all)
   refine⟨cs,n,_,?_,hlen,λj hjj=>?_,ht⟩
   .obtain⟨u,_,hu⟩:=(hcell 0 hpos▸hj 0 hpos);obtain⟨cs0,hc0,_⟩:=hx 0 (by omega);obtain⟨_,hlen0,hcell0⟩:=World.cells?_some hc0;have h00:=hcell0 0 hpos;rw [geg (by omega),Nat.zero_mul] at h00;have hz:(a.add 0).add 0=a:=rfl;rw [hz] at h00;exact(B3g h00).1
   .obtain⟨u,hu1,hu2⟩:=hj j hjj;have:=(B3g hu2).2;rw [(hadd _ _).1,(hadd _ _).2] at this;rw [this,hu1]
  refine⟨some a,l0,c0,rfl,hl,hm,λhlt=>?_,λh=>(by cases h),λi hi=>?_⟩
  .obtain⟨_,_,_,hs,_⟩:=key 0 hlt;obtain⟨b,o,s⟩:=a
   cases s with
   | none=>rfl
   | some k=>cases hs
  .obtain⟨cs,n,x,_,r1,r2,r3⟩:=key i hi;exact⟨cs,n,x,r1,r2,r3⟩
structure FZ(w:WD)(a:Option Addr)(l c:Nat)(f:NI):Prop where
 le:l<=c
 mx:c<=maxLen
 isp:0<l->isP a=true
 rd:∀i,i<l->Eng.rd w (pb a) (po a+i)=some (.int .u8 (f i))
 by0:∀i,i<l->0<=f i/\f i<=255
 nil:a=none->l=0/\c=0
structure OpAt(w:WD)(a:Option Addr)(i:Nat)(k j t:Int)(b:Option Addr)(l c:Nat)(f:NI):Prop where
 r0:Eng.rd w (pb a) (po a+i*4)=some (.int .i64 k)
 r1:Eng.rd w (pb a) (po a+i*4+1)=some (.int .i64 j)
 r2:Eng.rd w (pb a) (po a+i*4+2)=some (.int .u64 t)
 r3:Eng.rd w (pb a) (po a+i*4+3)=some (.slice b l c)
 k64:-9223372036854775808<=k/\k<=9223372036854775807
 j64:-9223372036854775808<=j/\j<=9223372036854775807
 t64:0<=t/\t<=18446744073709551615
 by':FZ w b l c f
end
end Go.Eng
namespace Go.Eng
open Go.RowKit
structure Src(w:WD)(a:Option Addr)(l c:Nat)(xs:List Value):Prop where
 nil:a=none->l=0/\c=0
 AP:0<xs.length->∃X off,a=some ⟨X,off,none⟩/\∀(j:Nat) u,xs[j]? = some u->rd w X (off+j)=some u
theorem HS(X off j:Nat):(⟨X,off,none⟩:Addr).add j=⟨X,off+j,none⟩:=by unfold Addr.add;split <;> simp_all
theorem Src.kx{X:NP}{w w':WD}{a:Option Addr}{l c:Nat}{xs:List Value}(h:Src w a l c xs)(k:AB X w w')(hx:∀b,b<w.heap.size->X b->pb a≠b):Src w' a l c xs:=by
 refine⟨h.nil,λhl=>?_⟩;obtain⟨Y,off,e,hr⟩:=h.AP hl;refine⟨Y,off,e,λj u hj=>?_⟩;have h1:=hr j u hj;exact k.AV h1 λhX=>hx Y (J3 h1) hX (by rw [e];rfl)
theorem Src.k{w w':WD}{a:Option Addr}{l c:Nat}{xs:List Value}(h:Src w a l c xs)(k:AB AD w w'):Src w' a l c xs:=h.kx k (λ_ _ h=>h.elim)
theorem Src.rd{w:WD}{a:Option Addr}{l c:Nat}{xs:List Value}(h:Src w a l c xs){j:Nat}{u:Value}(hj:xs[j]? = some u):Eng.rd w (pb a) (po a+j)=some u:=by
 have hl:0<xs.length:=by have:=(DC.1 hj).1;omega
 obtain⟨Y,off,rfl,hr⟩:=h.AP hl;exact hr j u hj
theorem Src.isp{w:WD}{a:Option Addr}{l c:Nat}{xs:List Value}(h:Src w a l c xs)(hl:0<xs.length):isP a=true:=by
 obtain⟨Y,off,rfl,_⟩:=h.AP hl
 rfl
theorem Src.B63{w:WD}{base e size n l c:Nat}{a:Option Addr}{xs:List Value}(h:w.ownsRow base e size (.slice a l c) n xs):Src w a l c xs:=by
 obtain⟨hl,hh⟩:=CN h;rcases hh with⟨rfl,h0,hc⟩|⟨g,cs,rfl,hb,ho,htk,_,_⟩
 .refine⟨λ_=>⟨by omega,hc⟩,λhx=>?_⟩;have:=h.1;rw [h0,Nat.zero_mul] at this;omega
 .refine⟨λh=>(by cases h),λ_=>⟨g,0,rfl,λj u hj=>?_⟩⟩;rw [ho.rd,za];rw [<- htk,List.getElem?_take] at hj;split at hj
  .exact hj
  .cases hj
theorem Src.MG{w:WD}:Src w none 0 0 []:=⟨λ_=>⟨rfl,rfl⟩,λh=>absurd h (Nat.lt_irrefl _)⟩
theorem Src.B64{w:WD}{X off l c:Nat}{cs xs:List Value}(h:AX w X cs)(hx:∀(j:Nat) u,xs[j]? = some u->cs[off+j]? = some u):Src w (some ⟨X,off,none⟩) l c xs:=
 ⟨λh=>(by cases h),λ_=>⟨X,off,rfl,λj u hj=>by rw [h.rd];exact hx j u hj⟩⟩
theorem app{P:Program}{base:Nat}{t ty e:TypeId}{i:TypeInfo}{z:Value}{size:Nat}(ht:P.underlying t=some (.slice e))(hi:P.info? e=some i)(hz:i.zero=some z)
 (hsize:i.size=size) (hzs:z.cells.size=size) (hsz:0<size)
 {w:WD}{da:Option Addr}{dl dc:Nat}{xs:List Value} (ho:w.ownsRow base e size (.slice da dl dc) dl xs) {a:Option Addr}{l c:Nat}{news:List Value} (hs:Src w a l c news) (hl:news.length=l*size)
 (h1:∀u∈news,u.oneCell'=true) (h63:dl+l<=1000000) (hby:i.bytes<=1000000) (hbase:base<=w.heap.size) :
 ∃a' c' w',BL P #[t,t] ty (.slice da dl dc) (.slice a l c) (.slice a' (dl+l) c') w w'/\w'.ownsRow base e size (.slice a' (dl+l) c') (dl+l) (xs++news)/\AB (λb=>(Value.slice da dl dc).ownBlock=some b) w w':=by
 cases a with
 | none=>
  obtain⟨rfl,rfl⟩:=hs.nil rfl;have hn:news=[]:=List.eq_nil_of_length_eq_zero (by rw [hl,Nat.zero_mul]);subst hn;exact⟨da,dc,w,⟨run_append_owned_none w base t ty e i size ht hi _ _ _ ho⟩,by simpa using ho,AB.refl _ _⟩
 | some x=>
  have hnews:∀j u,news[j]? = some u->w.cell? (x.add j)=some u:=by
   intro j u hj;obtain⟨X,off,e,hr⟩:=hs.AP (by have:=(DC.1 hj).1;omega)
   cases e
   rw [HS];exact hr j u hj
  have hmul:(dl+l)*i.bytes<=1000000*1000000:=Nat.mul_le_mul h63 hby;obtain⟨v',w',hr,hown,hg,_⟩:=run_append_own (P:=P) w base t ty e i z size i.bytes ht hi hz hsize rfl hzs hsz _ dl xs ho x l c news hl hnews h1 (by simp only [maxLen];omega) (by omega) hbase;have hsl:∃a c',v'=.slice a (dl+l) c':=by
   rcases hown.2 with⟨rfl,h0⟩|⟨g,cap,cur,rfl,_⟩
   .exact⟨none,0,by rw [h0]⟩
   .exact⟨_,_,rfl⟩
  obtain⟨a',c',rfl⟩:=hsl;exact⟨a',c',w',⟨hr⟩,hown,AB.grownBy hg⟩
