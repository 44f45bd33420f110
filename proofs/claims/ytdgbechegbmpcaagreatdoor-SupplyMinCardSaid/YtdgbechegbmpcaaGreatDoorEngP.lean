/- Part of an engine. Proved: its laws. Conditions: those in each theorem. -/
import Derived.Test.YtdgbechegbmpcaaGreatDoorEngU
import Derived.MapKept
import Derived.Maps.RangeRun
import Derived.WideKeyEntry
set_option linter.unusedSimpArgs false
set_option linter.unusedVariables false
namespace Go.Eng
open Go.MapKept
abbrev enE(e:MapEntry):Value×Value:=(e.key,e.val)
structure B6n(P:Program)(kt:TypeId){κ:Type} [DecidableEq κ](enc:κ->Value):Prop where
 inj:∀a b,enc a=enc b->a=b
 chk:∀(e:Bool) (a:κ) (w:WD),(Instr.checkKey e 10000 kt (enc a)).run P w=.ok () w
 und:∃d,P.underlying kt=some d/\∀a b,Instr.sameNow d (enc a) (enc b)=none\/Instr.sameNow d (enc a) (enc b)=some (decide (a=b))
 eq:∀(a b:κ) (w:WD),(Op.equal kt (enc a) (enc b)).run P w=.ok (decide (a=b)) w
 same:∀a,Instr.sameBits 10000 (enc a) (enc a)=true
section
variable {P:Program}{kt:TypeId}{κ:Type} [DecidableEq κ] {enc:κ->Value} (K:B6n P kt enc)
include K
theorem QS{d:TypeDesc}(hd:∀a b,Instr.sameNow d (enc a) (enc b)=none\/Instr.sameNow d (enc a) (enc b)=some (decide (a=b)))(a:κ):∀(l:List MapEntry) (i:Nat),(∀x∈l,∃q,x.key=enc q)->
 Instr.findNow d (enc a) l i=none\/(Instr.findNow d (enc a) l i=some none/\∀x∈l,x.key≠enc a)\/∃j e,Instr.findNow d (enc a) l i=some (some (i+j,e.val))/\l[j]? = some e/\e.key=enc a
 | [],i,_=>.inr (.inl ⟨rfl,by simp⟩)
 | e::es,i,h=>by
  obtain⟨q,hq⟩:=h e (.head _);unfold Instr.findNow;rw [hq];rcases hd a q with h0|h0
  .rw [h0];exact .inl rfl
  .rw [h0];by_cases haq:a=q
   .subst haq;simp only [decide_true];exact .inr (.inr ⟨0,e,rfl,rfl,hq⟩)
   .simp only [haq,decide_false];rcases QS hd a es (i+1) (λx hx=>h x (.tail _ hx)) with h1|⟨h1,h2⟩|⟨j,e',h1,h2,h3⟩
    .exact .inl h1
    .refine .inr (.inl ⟨h1,λx hx=>?_⟩);rcases List.mem_cons.1 hx with rfl|hx
     .rw [hq];exactλhh=>haq (K.inj _ _ hh).symm
     .exact h2 x hx
    .exact .inr (.inr ⟨j+1,e',by rw [h1];simp only [Option.some.injEq,Prod.mk.injEq,and_true];omega,h2,h3⟩)
theorem KE(w:WD)(a:κ):∀(l:List MapEntry) (i:Nat),(∀x∈l,∃q,x.key=enc q)->
 ((Instr.findAsking kt (enc a) l i).run P w=.ok none w/\∀x∈l,x.key≠enc a)\/∃j e,(Instr.findAsking kt (enc a) l i).run P w=.ok (some (i+j,e.val)) w/\l[j]? = some e/\e.key=enc a
 | [],i,_=>.inl ⟨by simp [Instr.findAsking],by simp⟩
 | e::es,i,h=>by
  obtain⟨q,hq⟩:=h e (.head _);unfold Instr.findAsking;rw [hq];simp only [srb,K.eq,ato];by_cases haq:a=q
  .subst haq;refine .inr ⟨0,e,?_,rfl,hq⟩;simp
  .have e0:decide (a=q)=false:=by simp [haq]
   rw [e0];rcases KE w a es (i+1) (λx hx=>h x (.tail _ hx)) with⟨h1,h2⟩|⟨j,e',h1,h2,h3⟩
   .refine .inl ⟨by simpa using h1,λx hx=>?_⟩;rcases List.mem_cons.1 hx with rfl|hx
    .rw [hq];exactλhh=>haq (K.inj _ _ hh).symm
    .exact h2 x hx
   .exact .inr ⟨j+1,e',by
     simp only [Bool.false_eq_true,if_false];rw [h1];simp only [Result.ok.injEq,Option.some.injEq,Prod.mk.injEq,and_true];omega,h2,h3⟩
theorem A49(w:WD)(a:κ)(l:List MapEntry)(h:∀x∈l,∃q,x.key=enc q) :
 ((Instr.findKey kt (enc a) l).run P w=.ok none w/\∀x∈l,x.key≠enc a)\/∃j e,(Instr.findKey kt (enc a) l).run P w=.ok (some (j,e.val)) w/\l[j]? = some e/\e.key=enc a:=by
 obtain⟨d,hd,hs⟩:=K.und;rcases QS K hs a l 0 h with h1|⟨h1,h2⟩|⟨j,e,h1,h2,h3⟩
 .rcases KE K w a l 0 h with⟨g1,g2⟩|⟨j,e,g1,g2,g3⟩
  .exact .inl ⟨by simp only [Instr.findKey,srb,run_underlying hd,ato,h1];exact g1,g2⟩
  .refine .inr ⟨j,e,?_,g2,g3⟩;simp only [Instr.findKey,srb,run_underlying hd,ato,h1];rw [g1,za]
 .exact .inl ⟨by simp [Instr.findKey,run_underlying hd,Result.andThen,h1],h2⟩
 .refine .inr ⟨j,e,?_,h2,h3⟩;rw [za] at h1;simp [Instr.findKey,run_underlying hd,Result.andThen,h1]
theorem A3g (a:κ) (w:WD):(Instr.keyThatStays (enc a) (enc a)).run P w=.ok (enc a) w:=by
 simp [Instr.keyThatStays,K.same]
end
theorem IA{w:WD}{b:Nat}{es es':Array MapEntry}{c c':Nat}(h:w.heap[b]? = some (.map es c)):AB (·=b) w {w with heap:=w.heap.setIfInBounds b (.map es' c')}:=by
 refine⟨rfl,rfl,rfl,by simp,λb' hb hn=>?_⟩;exact(heap_set h).2 b' hn
theorem A0n{κ:Type} [DecidableEq κ] [B:BEq κ] [LawfulBEq κ](m:List (κ×Value))(k:κ):@List.lookup κ Value instBEqOfDecidableEq k m=@List.lookup κ Value B k m:=by
 induction m with
 | nil=>rfl
 | cons p m ih=>
  obtain⟨k',v⟩:=p;rw [@List.lookup_cons _ _ _ _ _ instBEqOfDecidableEq,@List.lookup_cons _ _ _ _ _ B,ih];have:(@BEq.beq κ instBEqOfDecidableEq k k')=(@BEq.beq κ B k k'):=by
   by_cases h:k=k'
   .subst h;have h1:(@BEq.beq κ B k k)=true:=by simp
    have h2:(@BEq.beq κ instBEqOfDecidableEq k k)=true:=decide_eq_true rfl;rw [h1,h2]
   .have h1:(@BEq.beq κ B k k')=false:=by simpa using h
    have h2:(@BEq.beq κ instBEqOfDecidableEq k k')=false:=decide_eq_false h;rw [h1,h2]
  rw [this]
section
variable {κ:Type}{enc:κ->Value}
abbrev enG(enc:κ->Value)(p:κ×Value):Value×Value:=(enc p.1,p.2)
structure F8(enc:κ->Value)(w:WD)(b:Nat)(m:List (κ×Value)):Prop where
 ex:∃es clock,w.heap[b]? = some (.map es clock)/\Stamped es clock/\(es.toList.map enE).Perm (m.map (enG enc))
 nd:(m.map (·.1)).Nodup
section
variable {w w':WD}{b:Nat}{m:List (κ×Value)}
theorem F8.perm {m':List (κ × Value)} (h:F8 enc w b m) (p:m.Perm m'):F8 enc w b m':=by
 obtain⟨es,c,h1,h2,h3⟩:=h.ex;exact⟨⟨es,c,h1,h2,h3.trans (p.map _)⟩,(p.map _).nodup_iff.1 h.nd⟩
theorem F8.lt(h:F8 enc w b m):b<w.heap.size:=by
 obtain⟨es,c,h1,_⟩:=h.ex;exact(FK.1 h1).1
theorem F8.kx{X:NP}(h:F8 enc w b m)(k:AB X w w')(hx:¬X b):F8 enc w' b m:=by
 have hl:=h.lt;obtain⟨es,c,h1,h2⟩:=h.ex;exact⟨⟨es,c,(k.blk b hl hx).trans h1,h2⟩,h.nd⟩
theorem F8.k(h:F8 enc w b m)(k:AB AD w w'):F8 enc w' b m:=h.kx k id
theorem F8.al {x:Obj} (h:F8 enc w b m) (e:w'=w.alloc x):F8 enc w' b m:=by
 have hl:=h.lt;obtain⟨es,c,h1,h2⟩:=h.ex;refine⟨⟨es,c,?_,h2⟩,h.nd⟩;rw [e];simp only [World.alloc,Array.getElem?_push];rw [if_neg (by omega)];exact h1
theorem A1q(e:w'=w.alloc (.map #[] 0)):F8 enc w' w.heap.size []:=
 ⟨⟨#[],0,by rw [e];exact(heap_alloc w _).1,⟨by simp,by simp,by simp⟩,List.Perm.refl _⟩,List.nodup_nil⟩
theorem F8.C4t{es:Array MapEntry}(hp:(es.toList.map enE).Perm (m.map (enG enc))):∀x∈es.toList,∃q,x.key=enc q:=λx hx=>by
 have:enE x∈m.map (enG enc):=hp.mem_iff.1 (List.mem_map.2 ⟨x,hx,rfl⟩);obtain⟨q,_,hq⟩:=List.mem_map.1 this;exact⟨q.1,(congrArg Prod.fst hq).symm⟩
end
end
section
variable {κ:Type} [DecidableEq κ] {enc:κ->Value}
theorem GU{m:List (κ×Value)}(h:(m.map (·.1)).Nodup){k:κ}{v:Value}(hm:(k,v)∈m):m.lookup k=some v:=by
 induction m with
 | nil=>cases hm
 | cons p m ih=>
  obtain⟨k',v'⟩:=p;simp only [List.map_cons,List.nodup_cons] at h;rw [List.lookup_cons];rcases List.mem_cons.1 hm with e|hm
  .cases e;simp
  .have:k≠k':=λe=>h.1 (List.mem_map.2 ⟨(k,v),hm,e⟩);rw [show(k==k')=false by simpa using this];exact ih h.2 hm
theorem LR{m:List (κ×Value)}{k:κ}(h:∀v,(k,v)∉m):m.lookup k=none:=by
 induction m with
 | nil=>rfl
 | cons p m ih=>
  obtain⟨k',v'⟩:=p;rw [List.lookup_cons];have:k≠k':=λe=>h v' (by subst e;exact mcs ..);rw [show(k==k')=false by simpa using this];exact ih λv hv=>h v (mcm _ hv)
theorem A3a {m:List (κ × Value)}{k:κ}{v:Value} (h:m.lookup k=some v):(k,v) ∈ m:=by
 induction m with
 | nil=>cases h
 | cons p m ih =>
  obtain⟨k',v'⟩:=p;rw [List.lookup_cons] at h;by_cases e:k=k'
  .subst e;simp at h;subst h;exact mcs ..
  .rw [show (k == k')=false by simpa using e] at h;exact mcm _ (ih h)
section
variable {P:Program}{mt kt vt:TypeId} (hm:P.underlying mt=some (.map kt vt)) (K:B6n P kt enc)
variable {w:WD}{b:Nat}{m:List (κ×Value)}
include K
theorem F8.find(h:F8 enc w b m)(k:κ):∃es c,w.heap[b]? = some (.map es c)/\Stamped es c/\(es.toList.map enE).Perm (m.map (enG enc))/\
 (((Instr.findKey kt (enc k) es.toList).run P w=.ok none w/\m.lookup k=none/\∀x∈es.toList,x.key≠enc k)\/
  ∃(j:Nat) (e:MapEntry),(Instr.findKey kt (enc k) es.toList).run P w=.ok (some (j,e.val)) w/\es[j]? = some e/\e.key=enc k/\m.lookup k=some e.val):=by
 obtain⟨es,c,h1,h2,h3⟩:=h.ex;refine⟨es,c,h1,h2,h3,?_⟩;rcases A49 K w k es.toList (F8.C4t h3) with⟨f1,f2⟩|⟨j,e,f1,f2,f3⟩
 .refine .inl ⟨f1,LR λv hv=>?_,f2⟩;have:enG enc (k,v)∈es.toList.map enE:=h3.mem_iff.2 (List.mem_map.2 ⟨_,hv,rfl⟩);obtain⟨x,hx,hxe⟩:=List.mem_map.1 this;exact f2 x hx (congrArg Prod.fst hxe)
 .refine .inr ⟨j,e,f1,by simpa using f2,f3,GU h.nd ?_⟩;have hm:e∈es.toList:=mog f2;have:enE e∈m.map (enG enc):=h3.mem_iff.1 (List.mem_map.2 ⟨e,hm,rfl⟩);obtain⟨⟨k',v'⟩,hq,hqe⟩:=List.mem_map.1 this;simp only [enG,enE,f3,Prod.mk.injEq] at hqe;obtain⟨q1,rfl⟩:=hqe;have:=K.inj _ _ q1;subst this;exact hq
include hm
theorem C1c (h:F8 enc w b m) (k:κ) {z:Value} (hz:(zeroValue vt).run P w=.ok z w):EA P mt (.map (some b)) (enc k) false ((m.lookup k).getD z) w:=by
 obtain⟨es,c,h1,h2,h3,hf⟩:=h.find K k;rcases hf with⟨f1,f2,_⟩|⟨j,e,f1,_,_,f2⟩
 .exact⟨by simp [Instr.lookup,run_underlying hm,MapKept.run_getObj_map h1,K.chk,f1,hz,f2,Result.andThen]⟩
 .exact⟨by simp [Instr.lookup,run_underlying hm,MapKept.run_getObj_map h1,K.chk,f1,f2,Result.andThen]⟩
theorem B68(h:F8 enc w b m)(k:κ){z:Value}(hz:(zeroValue vt).run P w=.ok z w):EA P mt (.map (some b)) (enc k) true (.tuple #[(m.lookup k).getD z,.bool (m.lookup k).isSome]) w:=by
 obtain⟨es,c,h1,h2,h3,hf⟩:=h.find K k;rcases hf with⟨f1,f2,_⟩|⟨j,e,f1,_,_,f2⟩
 .exact⟨by simp [Instr.lookup,run_underlying hm,MapKept.run_getObj_map h1,K.chk,f1,hz,f2,Result.andThen]⟩
 .exact⟨by simp [Instr.lookup,run_underlying hm,MapKept.run_getObj_map h1,K.chk,f1,f2,Result.andThen]⟩
theorem B35 (h:F8 enc w b m) (k:κ) (x:Value) (hin:(m.lookup k).isSome=true) :
 ∃w',EF P mt (.map (some b)) (enc k) x w w'/\F8 enc w' b (m.map λp=>if p.1=k then (k,x) else p)/\AB (·=b) w w':=by
 classical
 obtain⟨es,c,h1,h2,h3,hf⟩:=h.find K k;rcases hf with⟨f1,f2,_⟩|⟨j,e,f1,hj,hke,f2⟩
 .rw [f2] at hin;cases hin
 .have hkey:∀e',es[j]? =some e'->({ e' with key:=enc k,val:=x}:MapEntry).key=e'.key:=λe' he'=>by rw [hj] at he';cases he';exact hke.symm
  refine⟨_,⟨by simp [Instr.mapUpdate,run_underlying hm,MapKept.run_getObj_map h1,K.chk,f1,hj,hke,A3g K,MapKept.run_setObj_map _ h1,Result.andThen] <;> rfl⟩,⟨⟨_,_,(heap_set h1).1,stamped_modify h2 j (λe=>{e with key:=enc k,val:=x}) (λ_ _=>rfl) (λe' _ he'=>hkey e' he'),?_⟩,?_⟩,IA h1⟩
  .have hA:((es.modify j λe=>{e with key:=enc k,val:=x}).toList.map enE)=(es.toList.map enE).map λq=>if q.1=enc k then (enc k,x) else q:=by
    apply List.ext_getElem?;intro i;rw [gmp,Array.getElem?_toList,Array.getElem?_modify,gmp,gmp,Array.getElem?_toList];by_cases hij:j=i
    .subst hij;rw [if_pos rfl,hj];simp [enE,hke]
    .rw [if_neg hij]
     cases hi:es[i]? with
     | none=>rfl
     | some e' =>
      have hne:e'.key≠enc k:=by
       intro hk';have hp:=((stamped_iff es c).1 h2).2.2;have hil:i<es.toList.length:=by have:=(FK.1 hi).1;simpa using this
       have hjl:j<es.toList.length:=by have:=(FK.1 hj).1;simpa using this
       have e1:es.toList[i]=e':=by have:=(FK.1 hi).2;simpa using this
       have e2:es.toList[j]=e:=by have:=(FK.1 hj).2;simpa using this
       rcases Nat.lt_or_gt_of_ne hij with hlt | hlt
       .exact (List.pairwise_iff_getElem.1 hp j i hjl hil hlt) (by rw [e1,e2,hke,hk'])
       .exact (List.pairwise_iff_getElem.1 hp i j hil hjl hlt) (by rw [e1,e2,hke,hk'])
      simp [enE,hne]
   rw [hA];refine (h3.map _).trans (List.Perm.of_eq ?_);rw [List.map_map,List.map_map];refine List.map_congr_left λp _=>?_;by_cases hp:p.1=k
   .simp [enG,hp]
   .have hne:enc p.1≠enc k:=λe=>hp (K.inj _ _ e);simp [enG,hp,hne]
  .have:(m.map λp=>if p.1=k then (k,x) else p).map (·.1)=m.map (·.1):=by
    rw [List.map_map];refine List.map_congr_left λp _=>?_;by_cases hp:p.1=k
    .simp [hp]
    .simp [hp]
   rw [this];exact h.nd
theorem A51(h:F8 enc w b m)(k:κ)(x:Value)(hin:m.lookup k=none) :
 ∃w',EF P mt (.map (some b)) (enc k) x w w'/\F8 enc w' b (m++[(k,x)])/\AB (·=b) w w':=by
 obtain⟨es,c,h1,h2,h3,hf⟩:=h.find K k;rcases hf with⟨f1,f2,f3⟩|⟨j,e,f1,hj,hke,f2⟩
 .refine⟨_,⟨by simp [Instr.mapUpdate,run_underlying hm,MapKept.run_getObj_map h1,K.chk,f1,MapKept.run_setObj_map _ h1,Result.andThen] <;> rfl⟩,⟨⟨_,_,(heap_set h1).1,stamped_push h2 f3,?_⟩,?_⟩,IA h1⟩
  .rw [Array.toList_push,F6,F6];exact h3.append (List.Perm.refl _)
  .rw [F6,List.nodup_append];refine⟨h.nd,by simp,?_⟩;intro a ha c hc;simp at hc;subst hc;intro e;subst e;obtain⟨q,hq,rfl⟩:=List.mem_map.1 ha;have:=GU h.nd (k:=q.1) (v:=q.2) hq;rw [hin] at this
   cases this
 .rw [f2] at hin;cases hin
theorem C2r(h:F8 enc w b m)(k:κ){ty:TypeId}:∃w',IG P #[mt,kt] ty (.map (some b)) (enc k) w w'/\F8 enc w' b (m.filter λp=>p.1 != k)/\AB (·=b) w w':=by
 classical
 obtain⟨es,c,h1,h2,h3,hf⟩:=h.find K k;have hnd:((m.filter λp=>p.1 != k).map (·.1)).Nodup:=List.Nodup.sublist ((List.filter_sublist (l:=m)).map (·.1)) h.nd;rcases hf with⟨f1,f2,f3⟩|⟨j,e,f1,hj,hke,f2⟩
 .refine⟨_,⟨by simp [Builtin.delete_,run_underlying hm,MapKept.run_getObj_map h1,K.chk,f1,MapKept.run_setObj_map _ h1,Result.andThen] <;> rfl⟩,⟨⟨_,_,(heap_set h1).1,h2,?_⟩,hnd⟩,IA h1⟩;have:(m.filter λp=>p.1 != k)=m:=by
   rw [List.filter_eq_self];intro p hp;simp only [bne_iff_ne,ne_eq];intro e;have:=GU h.nd (k:=p.1) (v:=p.2) hp;rw [e,f2] at this
   cases this
  rw [this];exact h3
 .refine⟨_,⟨by simp [Builtin.delete_,run_underlying hm,MapKept.run_getObj_map h1,K.chk,f1,MapKept.run_setObj_map _ h1,Result.andThen] <;> rfl⟩,⟨⟨_,_,(heap_set h1).1,stamped_erase h2 _,?_⟩,hnd⟩,IA h1⟩;have hjl:j<es.toList.length:=by have:=(FK.1 hj).1;simpa using this
  have e2:es.toList[j]=e:=by have:=(FK.1 hj).2;simpa using this
  have hE:(es.eraseIdxIfInBounds j).toList=es.toList.eraseIdx j:=by
   unfold Array.eraseIdxIfInBounds;rw [dif_pos (by simpa using hjl)];simp
  have hp:=((stamped_iff es c).1 h2).2.2;have hF:es.toList.eraseIdx j=es.toList.filter λx=>decide (x.key≠enc k):=by
   rw [List.eraseIdx_eq_take_drop_succ];have hsplit:es.toList=es.toList.take j++e::es.toList.drop (j+1):=by
    rw [<- e2];rw [List.getElem_cons_drop];exact(List.take_append_drop j es.toList).symm
   have hp':=hp;rw [hsplit,List.pairwise_append] at hp';obtain⟨_,q2,q3⟩:=hp';have q4:=(List.pairwise_cons.1 q2).1;have t1:(es.toList.take j).filter (λx=>decide (x.key≠enc k))=es.toList.take j:=by
    rw [List.filter_eq_self];intro x hx;simp only [decide_eq_true_eq];have:=q3 x hx e (mcs ..);rw [hke] at this;exact this
   have t2:(es.toList.drop (j+1)).filter (λx=>decide (x.key≠enc k))=es.toList.drop (j+1):=by
    rw [List.filter_eq_self];intro x hx;simp only [decide_eq_true_eq];have:=q4 x hx;rw [hke] at this;exact Ne.symm this
   conv=>rhs;rw [hsplit]
   rw [List.filter_append,List.filter_cons,t1,t2,if_neg (by simp [hke])]
  rw [hE,hF];have hG:(es.toList.filter λx=>decide (x.key≠enc k)).map enE=(es.toList.map enE).filter λq=>decide (q.1≠enc k):=by
   rw [List.filter_map]
   rfl
  rw [hG];refine(h3.filter _).trans (List.Perm.of_eq ?_);rw [List.filter_map];congr 1;refine List.filter_congr λp _=>?_
  show decide ((enG enc p).1≠enc k)=(p.1 != k)
  by_cases hpk:p.1=k
  .simp [enG,hpk]
  .have hne:enc p.1≠enc k:=λe=>hpk (K.inj _ _ e);simp [enG,hpk,hne]
end
end
abbrev enK:=enG (Value.int .i64)
structure BJ(w:WD)(b:Nat)(m:List (Int×Value)):Prop where
 g:F8 (.int .i64) w b m
 rg:∀p∈m,-9223372036854775808<=p.1/\p.1<=9223372036854775807
section
variable {w w':WD}{b:Nat}{m:List (Int×Value)}
theorem BJ.nd(h:BJ w b m):(m.map (·.1)).Nodup:=h.g.nd
theorem BJ.ex(h:BJ w b m):∃es clock,w.heap[b]? = some (.map es clock)/\Stamped es clock/\(es.toList.map enE).Perm (m.map enK):=h.g.ex
theorem BJ.perm{m':List (Int×Value)}(h:BJ w b m)(p:m.Perm m'):BJ w b m':=⟨h.g.perm p,λq hq=>h.rg q (p.mem_iff.2 hq)⟩
theorem BJ.lt(h:BJ w b m):b<w.heap.size:=h.g.lt
theorem BJ.kx{X:NP}(h:BJ w b m)(k:AB X w w')(hx:¬X b):BJ w' b m:=⟨h.g.kx k hx,h.rg⟩
theorem BJ.k(h:BJ w b m)(k:AB AD w w'):BJ w' b m:=h.kx k id
theorem BJ.al{x:Obj}(h:BJ w b m)(e:w'=w.alloc x):BJ w' b m:=⟨h.g.al e,h.rg⟩
theorem JL(e:w'=w.alloc (.map #[] 0)):BJ w' w.heap.size []:=⟨A1q e,λp hp=>by cases hp⟩
end
theorem A1r{m:List (Int×Value)}(h:(m.map (·.1)).Nodup){k:Int}{v:Value}(hm:(k,v)∈m):m.lookup k=some v:=GU h hm
theorem EH{m:List (Int×Value)}{k:Int}(h:∀v,(k,v)∉m):m.lookup k=none:=LR h
theorem LQ{m:List (Int×Value)}{k:Int}{v:Value}(h:m.lookup k=some v):(k,v)∈m:=A3a h
theorem C1h{P:Program}{kt:TypeId}(hk:P.underlying kt=some (.int .i64)):B6n P kt (Value.int .i64):=by
 have hd:∀a b:Int,Instr.sameNow (.int .i64) (.int .i64 a) (.int .i64 b)=some (decide (a=b)):=λa b=>by simp [Instr.sameNow];rfl
 refine⟨λa b h=>by cases h;rfl,λe a w=>MapKept.run_checkKey (d:=.int .i64) hk (by simp [IsKey]) e 9999,⟨_,hk,λa b=>.inr (hd a b)⟩,λa b w=>?_,λa=>by simp [Instr.sameBits]⟩;have h:eqT P 10000 kt (.int .i64 a) (.int .i64 b)=some (decide (a=b)):=by simp [eqT,hk];rfl
 exact A5a 10000 kt _ _ _ w h
section
variable {P:Program}{mt kt vt:TypeId} (hm:P.underlying mt=some (.map kt vt)) (hk:P.underlying kt=some (.int .i64))
variable {w:WD}{b:Nat}{m:List (Int×Value)}
include hm hk
theorem B1x(h:BJ w b m)(k:Int){z:Value}(hz:(zeroValue vt).run P w=.ok z w):EA P mt (.map (some b)) (.int .i64 k) false ((m.lookup k).getD z) w:=C1c hm (C1h hk) h.g k hz
theorem B8r(h:BJ w b m)(k:Int){z:Value}(hz:(zeroValue vt).run P w=.ok z w):EA P mt (.map (some b)) (.int .i64 k) true (.tuple #[(m.lookup k).getD z,.bool (m.lookup k).isSome]) w:=B68 hm (C1h hk) h.g k hz
theorem B7s(h:BJ w b m)(k:Int)(x:Value)(hin:(m.lookup k).isSome=true) :
 ∃w',EF P mt (.map (some b)) (.int .i64 k) x w w'/\BJ w' b (m.map λp=>if p.1=k then(k,x) else p)/\AB (·=b) w w':=by
 obtain⟨w',h1,h2,h3⟩:=B35 hm (C1h hk) h.g k x hin;refine⟨w',h1,⟨h2,λp hp=>?_⟩,h3⟩;obtain⟨q,hq,rfl⟩:=List.mem_map.1 hp;have:=h.rg q hq;by_cases hqk:q.1=k
 .simp only [hqk,if_true];rw [hqk] at this;exact this
 .simp only [hqk,if_false];exact this
theorem KL(h:BJ w b m)(k:Int)(x:Value)(hr:-9223372036854775808<=k/\k<=9223372036854775807)(hin:m.lookup k=none) :
 ∃w',EF P mt (.map (some b)) (.int .i64 k) x w w'/\BJ w' b (m++[(k,x)])/\AB (·=b) w w':=by
 obtain⟨w',h1,h2,h3⟩:=A51 hm (C1h hk) h.g k x hin;refine⟨w',h1,⟨h2,λp hp=>?_⟩,h3⟩;rcases List.mem_append.1 hp with hp|hp
 .exact h.rg p hp
 .simp at hp;subst hp;exact hr
theorem C5l(h:BJ w b m)(k:Int){ty:TypeId}:∃w',IG P #[mt,kt] ty (.map (some b)) (.int .i64 k) w w'/\BJ w' b (m.filter λp=>p.1 != k)/\AB (·=b) w w':=by
 obtain⟨w',h1,h2,h3⟩:=C2r hm (C1h hk) h.g k (ty:=ty);exact⟨w',h1,⟨h2,λp hp=>h.rg p (List.mem_filter.1 hp).1⟩,h3⟩
end
end Go.Eng
namespace Go.Eng
open Go.MapKept Go.ChangeMaps
section
variable {w w':WD}{b:Nat}{cs vs:List Value}
theorem A6a(b:Nat):∀(vs:List Value) (o:Nat),(∀j,j<vs.length->rd w b (o+j)=vs[j]?)->BB w b o vs
 | [],_,_=>trivial
 | [v],o,h=>h 0 (by simp)
 | v::v'::vs,o,h=>⟨h 0 (by simp),A6a b (v'::vs) (o+1) λj hj=>by
  have:=h (j+1) (by simp at hj ⊢;omega);rw [Nat.add_assoc,Nat.add_comm 1 j];simpa using this⟩
theorem A5w(b:Nat):∀(vs:List Value) (o:Nat),(∀j,j<vs.length->wr w b (o+j))->DJ w b o vs
 | [],_,_=>trivial
 | [v],o,h=>h 0 (by simp)
 | v::v'::vs,o,h=>⟨h 0 (by simp),A5w b (v'::vs) (o+1) λj hj=>by
  have:=h (j+1) (by simp at hj ⊢;omega);rw [Nat.add_assoc,Nat.add_comm 1 j];exact this⟩
theorem AX.BB(h:AX w b cs)(o:Nat)(hl:∀j,j<vs.length->cs[o+j]? = vs[j]?):BB w b o vs:=
 A6a b vs o λj hj=>(h.rd _).trans (hl j hj)
theorem AX.DJ(h:AX w b cs)(o:Nat)(hl:o+vs.length<=cs.length):DJ w b o vs:=
 A5w b vs o λj hj=>h.wr (by omega)
theorem KM(b:Nat):∀(vs:List Value) (o:Nat) (w:WD) (cs:List Value),AX w b cs->AX (F5 w b o vs) b (vs.zipIdx o |>.foldl (λc p=>c.set p.2 p.1) cs)
 | [],_,_,_,h=>h
 | [v],o,w,cs,h=>h.BT
 | v::v'::vs,o,w,cs,h=>KM b (v'::vs) (o+1) (st w b o v) (cs.set o v) h.BT
theorem JF(b:Nat):∀(vs:List Value) (o:Nat) (w:WD),AB (·=b) w (F5 w b o vs)
 | [],_,w=>AB.refl _ _
 | [v],o,w=>kr.st (.inl rfl)
 | v::v'::vs,o,w=>((AB.refl _ w).st (X:=(·=b)) (b:=b) (o:=o) (v:=v) (.inl rfl)).trans (JF b (v'::vs) (o+1) (st w b o v)) λ_ _ h=>h
theorem PZ:∀(vs:List Value) (o:Nat) (cs:List Value),(vs.zipIdx o |>.foldl (λc p=>c.set p.2 p.1) cs).length=cs.length
 | [],_,_=>rfl
 | v::vs,o,cs=>by rw [List.zipIdx_cons,List.foldl_cons,PZ vs (o+1)];simp
theorem IC:∀(vs:List Value) (o:Nat) (cs:List Value) (j:Nat),o+vs.length<=cs.length->
 (vs.zipIdx o |>.foldl (λc p=>c.set p.2 p.1) cs)[j]? = if o<=j/\j<o+vs.length then vs[j-o]? else cs[j]?
 | [],o,cs,j,_=>by rw [if_neg (by simp only [List.length_nil];omega)];rfl
 | v::vs,o,cs,j,h=>by
  simp only [List.length_cons] at h;rw [List.zipIdx_cons,List.foldl_cons,IC vs (o+1) (cs.set o v) j (by simp;omega)];by_cases h1:o+1<=j/\j<o+1+vs.length
  .rw [if_pos h1,if_pos (by simp;omega),show j-o=j-(o+1)+1 by omega,List.getElem?_cons_succ]
  .rw [if_neg h1];by_cases h2:j=o
   .subst h2;rw [if_pos (by simp),Nat.sub_self,List.getElem?_set_self (by omega)]
    rfl
   .rw [if_neg (by simp;omega),List.getElem?_set_ne (Ne.symm h2)]
theorem F4(h:AX w b cs)(e:w'=F5 w b 0 vs)(hl:vs.length=cs.length):AX w' b vs/\AB (·=b) w w':=by
 subst e;refine⟨?_,JF b vs 0 w⟩;have:=KM b vs 0 w cs h;have he:(vs.zipIdx 0 |>.foldl (λc p=>c.set p.2 p.1) cs)=vs:=by
  apply List.ext_getElem?;intro j;rw [IC vs 0 cs j (by omega)];split
  .simp
  .rw [gen (by omega),gen (by omega)]
 rw [he] at this;exact this
theorem NH{kd:IntKind}{f g:NI}:∀{i n:Nat},(∀j,j<n->f (i+j)=g (i+j))->AQ kd f i n=AQ kd g i n
 | _,0,_=>rfl
 | i,n+1,h=>by
  have h0:f i=g i:=h 0 (by omega);have h1:AQ kd f (i+1) n=AQ kd g (i+1) n:=NH (i:=i+1) (n:=n) λj hj=>by
   have:=h (j+1) (by omega);rw [show i+1+j=i+(j+1) by omega];exact this
  simp only [AQ];rw [h0,h1]
theorem DX{kd:IntKind}{f:NI}{n:Nat}{l:List Value}(hl:l.length=n)(h:∀j,j<n->l[j]? = some (.int kd (f j))):l=AQ kd f 0 n:=by
 apply List.ext_getElem?;intro j;by_cases hj:j<n
 .rw [h j hj,AZ _ _ _ _ _ hj,za]
 .rw [gen (by omega),gen (by rw [AM];omega)]
theorem AX.run(h:AX w b cs)(o:Nat){kd:IntKind}{f:NI}{n:Nat}(hl:∀j,j<n->cs[o+j]? = some (.int kd (f j))):Eng.BB w b o (AQ kd f 0 n):=
 h.BB o λj hj=>by rw [AM] at hj;rw [hl j hj,AZ _ _ _ _ _ hj,za]
theorem AX.rI{kd:IntKind}{f:NI}{n:Nat}(h:AX w b (AQ kd f 0 n)){j:Nat}(hj:j<n):Eng.rd w b j=some (.int kd (f j)):=by
 rw [h.rd,AZ _ _ _ _ _ hj,za]
theorem AX.DW{kd:IntKind}{f:NI}{n:Nat}(h:AX w b (AQ kd f 0 n)):Eng.BB w b 0 (AQ kd f 0 n):=h.run 0 λj hj=>by rw [za,AZ _ _ _ _ _ hj,za]
end
theorem DV.k{B:Nat}{X:NP}{w w':WD}(h:DV B w)(k:AB X w w')(hx:¬X B):DV B w':=⟨(k.blk B (FK.1 h.at_).1 hx).trans h.at_⟩
theorem B6c{P:Program}{t e ty:TypeId}{z u:Value}{s:Nat}(ht:P.underlying t=some (.slice e))(hv:∀w,(zeroValue e).run P w=.ok z w)(hz:z.cells=(List.replicate s u).toArray)(h1:u.oneCell'=true)
 {w:WD}{B:Nat}{cs:List Value} (h:AX w B cs) (o n c:Nat) (hn:o+n*s<=cs.length) :
 ∃w',JS P #[t] ty (.slice (some ⟨B,o,none⟩) n c) w w'/\AX w' B (cs.take o++List.replicate (n*s) u++cs.drop (o+n*s))/\AB (·=B) w w':=by
 cases n with
 | zero=>
  refine⟨w,⟨by simp [Builtin.clear_,run_underlying ht]⟩,?_,AB.refl _ _⟩;simpa using h
 | succ m=>
  have hzc:(Builtin.zeroCells z.cells (m+1)).toList=List.replicate ((m+1)*s) u:=by
   rw [hz];simp only [Builtin.zeroCells,List.size_toArray,List.length_replicate];apply List.ext_getElem
   .simp
   .intro i h1 h2;have hs:0<s:=by
     rcases Nat.eq_zero_or_pos s with h|h
     .subst h;simp at h2
     .exact h
    have hlt:=Nat.mod_lt i hs;simp [hlt]
  obtain⟨et,hB⟩:=h;have hst:=run_storeCells_at P B o et (List.replicate ((m+1)*s) u) 0 cs.toArray w hB (by simpa using hn) (by intro v hv';rw [List.eq_of_mem_replicate hv'];exact h1);simp only [Nat.add_zero,List.length_replicate] at hst;refine⟨_,⟨?_⟩,MB ⟨et,hB⟩,JY _ _ _⟩;simp [Builtin.clear_,run_underlying ht,hv,hzc,hst]
structure GI(w:WD)(r b:Nat)(m R:List (Int×Value)):Prop where
 ex:∃es clock since seen c0,w.heap[b]? = some (.map es clock)/\w.heap[r]? = some (.mapIter (some b) since seen c0)/\Stamped es clock/\(es.toList.map enE).Perm (m.map enK)/\(∀x∈es.toList,x.born<since)/\
  since<=c0/\since<=clock/\((leftOf es seen).toList.map enE).Perm (R.map enK)
section
variable {w w':WD}{r b:Nat}{m R:List (Int×Value)}
theorem GI.lt(h:GI w r b m R):r<w.heap.size/\b<w.heap.size:=by
 obtain⟨es,clock,since,seen,c0,h1,h2,_⟩:=h.ex;exact⟨(FK.1 h2).1,(FK.1 h1).1⟩
theorem GI.kx{X:NP}(h:GI w r b m R)(k:AB X w w')(hr:¬X r)(hb:¬X b):GI w' r b m R:=by
 have hl:=h.lt;obtain⟨es,clock,since,seen,c0,h1,h2,rest⟩:=h.ex;exact⟨es,clock,since,seen,c0,(k.blk b hl.2 hb).trans h1,(k.blk r hl.1 hr).trans h2,rest⟩
theorem GI.k(h:GI w r b m R)(k:AB AD w w'):GI w' r b m R:=h.kx k id id
theorem B0t{P:Program}{t kt e:TypeId}(ht:P.underlying t=some (.map kt e))(h:BJ w b m) :
 ∃w',B73 P t (.map (some b)) (.pointer (some ⟨w.heap.size,0,none⟩)) w w'/\AB AD w w'/\GI w' w.heap.size b m m:=by
 have hl:=h.lt;obtain⟨es,c,h1,h2,h3⟩:=h.ex;have hk:AB AD w (w.alloc (.mapIter (some b) c #[] c)):=by
  refine⟨rfl,rfl,rfl,by simp,λb' hb hn=>?_⟩;simp only [World.alloc,Array.getElem?_push];rw [if_neg (by omega)]
 refine⟨_,⟨run_range_map w t kt e b es c ht h1⟩,hk,⟨es,c,c,#[],c,(hk.blk b hl id).trans h1,(heap_alloc w _).1,h2,h3,h2.1,nlr _,nlr _,?_⟩⟩;have:leftOf es #[]=es:=by simp [leftOf]
 rw [this];exact h3
theorem B42{P:Program}{ty:TypeId}(h:GI w r b m R) :
 (R=[]/\LP P (.pointer (some ⟨r,0,none⟩)) false ty (.tuple #[.bool false]) w w)\/
 ∃p R' w',R.Perm (p::R')/\LP P (.pointer (some ⟨r,0,none⟩)) false ty (.tuple #[.bool true,.int .i64 p.1,p.2]) w w'/\AB (·=r) w w'/\GI w' r b m R'/\
  B88 P (.pointer (some ⟨r,0,none⟩)) (.tuple #[.int .i64 p.1,p.2]) w':=by
 have hl:=h.lt;obtain⟨es,clock,since,seen,c0,h1,h2,h3,h4,h5,h6,h7,h8⟩:=h.ex;have hrb:r≠b:=λe=>by rw [e,h1] at h2;cases h2
 rcases run_next_at (P:=P) w ty r b since c0 seen es clock h2 h1 h5 h6 with⟨h0,hrun⟩|⟨e,he,w1,hw1,hrun⟩
 .left;refine⟨?_,⟨hrun⟩⟩;have:(R.map enK).length=0:=by rw [<- h8.length_eq];simpa using h0
  simpa using this
 .right;have hme:=mem_left he;obtain⟨_,hnd,_⟩:=(stamped_iff es clock).1 h3;have hperm:(leftOf es seen).toList.Perm (e::(leftOf es (seen.push e.born)).toList):=by
   have key:∀l:List MapEntry,(l.map (·.born)).Nodup->e∈l->(l.filter λx=>!seen.contains x.born).Perm (e::l.filter λx=>!(seen.push e.born).contains x.born):=by
    intro l
    induction l with
    | nil=>intro _ h;cases h
    | cons x l ih=>
     intro hn hm;simp only [List.map_cons,List.nodup_cons] at hn;by_cases hx:x=e
     .subst hx;rw [List.filter_cons_of_pos (by rw [hme.2];rfl),List.filter_cons_of_neg (by rw [contains_push];simp)];refine List.Perm.cons _ (List.Perm.of_eq ?_);apply List.filter_congr;intro y hy;rw [contains_push];have:(y.born==x.born)=false:=by
       simp only [beq_eq_false_iff_ne,ne_eq];intro e';exact hn.1 (List.mem_map.2 ⟨y,hy,e'⟩)
      rw [this,Bool.or_false]
     .have hm':e∈l:=by rcases List.mem_cons.1 hm with h|h;exact absurd h.symm hx;exact h
      have hb:(x.born==e.born)=false:=by
       simp only [beq_eq_false_iff_ne,ne_eq];intro e';exact hn.1 (List.mem_map.2 ⟨e,hm',e'.symm⟩)
      by_cases hs:seen.contains x.born=true
      .rw [List.filter_cons_of_neg (by rw [hs];simp),List.filter_cons_of_neg (by rw [contains_push,hs];simp)];exact ih hn.2 hm'
      .have hs':seen.contains x.born=false:=by simpa using hs
       rw [List.filter_cons_of_pos (by rw [hs'];rfl),List.filter_cons_of_pos (by rw [contains_push,hs',hb];rfl)];exact((ih hn.2 hm').cons x).trans (List.Perm.swap ..)
   have:=key es.toList hnd hme.1;unfold leftOf;rw [Array.toList_filter,Array.toList_filter];exact this
  have hem:enE e∈R.map enK:=h8.mem_iff.1 (List.mem_map.2 ⟨e,he,rfl⟩);obtain⟨p,hp,hpe⟩:=List.mem_map.1 hem;have hk:e.key=.int .i64 p.1:=(congrArg Prod.fst hpe).symm;have hv:e.val=p.2:=(congrArg Prod.snd hpe).symm;obtain⟨A,B,rfl⟩:=List.append_of_mem hp;have hpR:(A++p::B).Perm (p::(A++B)):=List.perm_middle;have hK:AB (·=r) w (setBlock w1 r (.mapIter (some b) since (seen.push e.born) clock)):=by
   have hz:w1.heap=w.heap/\w1.os=w.os/\w1.tape=w.tape/\w1.output=w.output:=by rcases hw1 with rfl|rfl <;> exact⟨rfl,rfl,rfl,rfl⟩
   refine⟨hz.2.1,hz.2.2.1,hz.2.2.2,by simp [setBlock,hz.1],λb' hb hn=>?_⟩;simp only [setBlock,hz.1];rw [Array.getElem?_setIfInBounds_ne (λe=>hn e.symm)]
  have hr2:(setBlock w1 r (.mapIter (some b) since (seen.push e.born) clock)).heap[r]? = some (.mapIter (some b) since (seen.push e.born) clock):=by
   have hz:w1.heap=w.heap:=by rcases hw1 with rfl|rfl <;> rfl
   simp [setBlock,hz,hl.1]
  have hb2:=(hK.blk b hl.2 (Ne.symm hrb)).trans h1;refine⟨p,A++B,_,hpR,⟨by rw [<- hk,<- hv];exact hrun⟩,hK,⟨es,clock,since,seen.push e.born,clock,hb2,hr2,h3,h4,h5,h7,h7,?_⟩,⟨?_⟩⟩
  .have e1:((leftOf es seen).toList.map enE).Perm (enE e::(leftOf es (seen.push e.born)).toList.map enE):=hperm.map _;have e2:((A++p::B).map enK).Perm (enE e::(A++B).map enK):=by
    rw [<- hpe];exact hpR.map enK
   exact(List.perm_cons (enE e)).1 (e1.symm.trans (h8.trans e2))
  .rw [<- hk,<- hv];exact run_entry_at _ r b since seen es clock e hr2 hb2 hme.1 hnd
end
end Go.Eng
namespace Go.Eng
theorem JP{P:Program}{base:Nat}{t e:TypeId}{i:TypeInfo}{z:Value}{size:Nat}(ht:P.underlying t=some (.slice e))(hi:P.info? e=some i)(hz:i.zero=some z)
 (hsize:i.size=size) (hzs:z.cells.size=size) (hsz:0<size)
 {w:WD}{v:Value}{n:Nat}{xs:List Value} (ho:w.ownsRow base e size v n xs) {X m c off:Nat}{news ys:List Value} (hx:AX w X ys) (hys:(ys.drop off).take (m*size)=news) (hl:news.length=m*size)
 (h1:∀u∈news,u.oneCell'=true) (h63:n+m<=1000000000) (hby:i.bytes<=1000) (hbase:base<=w.heap.size) :
 ∃a l c' w',BL P #[t,t] t v (.slice (some ⟨X,off,none⟩) m c) (.slice a l c') w w'/\l=n+m/\w'.ownsRow base e size (.slice a l c') (n+m) (xs++news)/\AB (λb=>v.ownBlock=some b) w w'/\
  ((Value.slice a l c').ownBlock=v.ownBlock\/∀g,(Value.slice a l c').ownBlock=some g->w.heap.size<=g):=by
 have hnews:∀j u,news[j]? = some u->w.cell? ((⟨X,off,none⟩:Addr).add j)=some u:=by
  intro j u hu;have hadd:(⟨X,off,none⟩:Addr).add j=⟨X,off+j,none⟩:=by unfold Addr.add;split <;> simp_all
  rw [hadd];have:=hx.rd (off+j);unfold rd at this;rw [this];rw [<- hys,List.getElem?_take] at hu;split at hu
  .simpa using hu
  .cases hu
 have hmul:(n+m)*i.bytes<=1000000000*1000:=Nat.mul_le_mul h63 hby;have key:∀(base':Nat) (v:Value) (xs:List Value),w.ownsRow base' e size v n xs->base'<=w.heap.size->∃a l c' w',BL P #[t,t] t v (.slice (some ⟨X,off,none⟩) m c) (.slice a l c') w w'/\l=n+m/\w'.ownsRow base' e size (.slice a l c') (n+m) (xs++news)/\AB (λb=>v.ownBlock=some b) w w':=by
  intro base' v xs ho hb;obtain⟨v',w',hr,hown,hg,_⟩:=run_append_own (P:=P) w base' t t e i z size i.bytes ht hi hz hsize rfl hzs hsz v n xs ho ⟨X,off,none⟩ m c news hl hnews h1 (by simp only [maxLen];omega) (by omega) hb;have hsl:∃a c',v'=.slice a (n+m) c':=by
   rcases hown.2 with⟨rfl,h0⟩|⟨g,cap,cur,rfl,_⟩
   .exact⟨none,0,by rw [h0]⟩
   .exact⟨_,_,rfl⟩
  obtain⟨a,c',rfl⟩:=hsl;exact⟨a,n+m,c',w',⟨hr⟩,rfl,hown,AB.grownBy hg⟩
 obtain⟨a,l,c',w',happ,hl',row,k⟩:=key base v xs ho hbase;refine⟨a,l,c',w',happ,hl',row,k,?_⟩;have det:∀{v1 v2:Value}{w1 w2:WD},BL P #[t,t] t v (.slice (some ⟨X,off,none⟩) m c) v1 w w1->BL P #[t,t] t v (.slice (some ⟨X,off,none⟩) m c) v2 w w2->v1=v2:=λh1 h2=>by
  have:=h1.run.symm.trans h2.run
  cases this
  rfl
 rcases ho.2 with⟨rfl,rfl⟩|⟨g,cap,cur,rfl,hbg,hg,hnc,hcm,hcs,htake⟩
 .have hxs:xs=[]:=List.eq_nil_of_length_eq_zero (by simpa using ho.1);subst hxs;obtain⟨a2,l2,c2,w2,happ2,_,row2,_⟩:=key w.heap.size _ _ (World.ownsRow_nil w w.heap.size e size) (nlr _);have e:=det happ happ2;right;intro g hg;rw [e] at hg;obtain⟨hh,_⟩:=row2.lt g hg;exact hh
 .by_cases hroom:n+m<=cap
  .left;have hfit:n*i.size+news.length<=cur.size:=by rw [hl,hcs,hsize,<- Nat.add_mul];exact Nat.mul_le_mul_right _ hroom
   have hr:=run_append_room (P:=P) w t t e i ht hi g n cap cur hg ⟨X,off,none⟩ m c news (by rw [hsize];exact hl) hnews h1 hroom hfit;have e:=det happ ⟨hr⟩;rw [e];rfl
  .right;have holds:∀j u,xs[j]? = some u->w.cell? ((⟨g,0,none⟩:Addr).add j)=some u:=ho.cells (g:=g) rfl;have hr:=run_append_grow (P:=P) w t t e i _ ht hi hz ⟨g,0,none⟩ n cap xs (by rw [hsize];exact ho.1) holds ⟨X,off,none⟩ m c news (by rw [hsize];exact hl) hnews (by omega) (by omega) (growslice_fits (by omega) (by omega));have e:=det happ ⟨hr⟩;intro g' hg';rw [e] at hg'
   cases hg'
   exact nlr _
def QC:Code->Nat->Option (Array Oper)
 | .region id ops _,n=>if id==n then some ops else none
 | .seq a b,n=>(match QC a n with|some x=>some x|none=>QC b n)
 | .cond _ a b,n=>(match QC a n with|some x=>some x|none=>QC b n)
 | .block _ b,n=>QC b n
 | .loop b,n=>QC b n
 | .scope b,n=>QC b n
 | _,_=>none
def A59(f:Func)(id:Nat):List Oper:=
 match f.body with
 | some c=>(match QC c id with|some ops=>ops.toList|none=>[])
 | none=>[]
def CM(ops:Array Oper)(i k:Nat):Bool:=
 match ops[i]? with
 | some o=>o.after.any λe=>Region.binds .any e&&e.on==k
 | none=>false
theorem QQ{ops:Array Oper}{i k:Nat}(h:CM ops i k=true):∃o,ops[i]? = some o/\∃e∈o.after,Region.binds .any e=true/\e.on=k:=by
 unfold CM at h;split at h
 .rename_i o ho;refine⟨o,ho,?_⟩;rw [Array.any_eq_true] at h;obtain⟨j,hj,he⟩:=h;simp only [Bool.and_eq_true,beq_iff_eq] at he;exact⟨o.after[j],Array.getElem_mem hj,he.1,he.2⟩
 .cases h
theorem GK.dep{ops:Array Oper}{listed:Array Bool}(hc:GK ops listed){i k:Nat}(hi:listed.getD i false=true)(hd:CM ops i k=true):listed.getD k false=true:=by
 obtain⟨o,ho,e,he,hb,rfl⟩:=QQ hd;exact hc i o ho hi e he hb
theorem B0s{ops:Array Oper}{listed:Array Bool}{i k:Nat}(hi:i∈Region.ready .any ops listed)(hd:CM ops i k=true):listed.getD k false=true:=by
 obtain⟨o,ho,e,he,hb,rfl⟩:=QQ hd;obtain⟨_,o',ho',hall⟩:=mem_ready.1 hi;rw [ho] at ho'
 cases ho'
 exact hall e he hb
theorem NK{ops:Array Oper}{listed:Array Bool}{i:Nat}(hi:i∈Region.ready .any ops listed):listed.getD i false=false/\i<listed.size:=by
 have h0:=(mem_ready.1 hi).1;rcases Nat.lt_or_ge i listed.size with h'|h'
 .simp [h'] at h0 ⊢;exact h0
 .simp [Array.getElem?_eq_none h'] at h0
def unl(listed:Array Bool):Nat:=(listed.toList.filter (!·)).length
theorem A53:∀(L:List Bool) (i:Nat),L[i]? = some false->((L.set i true).filter (!·)).length+1=(L.filter (!·)).length
 | [],i,h=>by simp at h
 | a::L,0,h=>by simp at h;subst h;simp
 | a::L,i+1,h=>by
  have:=A53 L i (by simpa using h)
  cases a
  .rw [List.set_cons_succ,List.filter_cons_of_pos (by rfl),List.filter_cons_of_pos (by rfl),List.length_cons,List.length_cons];omega
  .rw [List.set_cons_succ,List.filter_cons_of_neg (by simp),List.filter_cons_of_neg (by simp)];exact this
theorem A9y{listed:Array Bool}{i:Nat}(hi:i<listed.size)(h:listed.getD i false=false):unl (listed.setIfInBounds i true)+1=unl listed:=by
 unfold unl;have e:(listed.setIfInBounds i true).toList=listed.toList.set i true:=by simp
 rw [e];have h':listed.toList[i]? = some false:=by
  have:listed[i]? = some false:=by
   simp [hi] at h ⊢;exact h
  simpa using this
 exact A53 _ _ h'
theorem A18{P:Program}{ops:Array Oper}{Q:Exit->Act->WD->Prop}(Inv:Array Bool->Act->WD->Prop)
 (hstep:∀listed a w i,Inv listed a w->i∈Region.ready .any ops listed->wpOp P ops Q i (λa' w'=>Inv (listed.setIfInBounds i true) a' w') a w)
 (hfin:∀listed a w,Inv listed a w->Region.ready .any ops listed=[]->Q .normal a w) :
 ∀(fuel:Nat) (listed:Array Bool) (a:Act) (w:WD),unl listed<=fuel->Inv listed a w->wpAny P .any ops Q fuel listed a w
 | 0,listed,a,w,hu,h=>by
  have hr:Region.ready .any ops listed=[]:=by
   cases hR:Region.ready .any ops listed with
   | nil=>rfl
   | cons i r=>
    have hi:i∈Region.ready .any ops listed:=by rw [hR];simp
    obtain⟨h1,h2⟩:=NK hi;have:=A9y h2 h1;omega
  exact⟨hr,hfin _ _ _ h hr⟩
 | fuel+1,listed,a,w,hu,h=>by
  refine⟨hfin _ _ _ h,λi hi=>?_⟩;obtain⟨h1,h2⟩:=NK hi;have:=A9y h2 h1;exact wpOp_mono (λa' w' h'=>A18 Inv hstep hfin fuel _ a' w' (by omega) h') (hstep listed a w i h hi)
def D5(n:Nat)(L:List (Nat×Value)):Env:=(List.range n).map λt=>(L.lookup t).map λv=>⟨none,v,none⟩
theorem KF{n:Nat}{L:List (Nat×Value)}{a:Act}(hn:a.tmps.size=n)(h:∀p∈L,a.tmps[p.1]? = some p.2):BN (D5 n L) a:=by
 have key:∀(t:Nat) (m:Ent),(D5 n L)[t]? = some (some m)->∃v,m=⟨none,v,none⟩/\a.tmps[t]? = some v:=by
  intro t m hm;unfold D5 at hm;rw [gmp] at hm
  cases hr:(List.range n)[t]? with
  | none=>rw [hr] at hm;cases hm
  | some t'=>
   have ht:t'=t:=by
    have:=DC.1 hr;obtain⟨h1,h2⟩:=this;simp at h2;exact h2.symm
   subst ht;rw [hr] at hm;simp only [Option.map_some,Option.some.injEq] at hm
   cases hl:L.lookup t' with
   | none=>rw [hl] at hm;cases hm
   | some v=>
    rw [hl] at hm;simp only [Option.map_some,Option.some.injEq] at hm;refine⟨v,hm.symm,?_⟩;have:(t',v)∈L:=by
     clear h hm hn hr
     induction L with
     | nil=>cases hl
     | cons q L ih=>
      obtain⟨c,d⟩:=q;rw [List.lookup_cons] at hl;by_cases e:t'=c
      .subst e;simp at hl;subst hl;simp
      .rw [show(t'==c)=false by simpa using e] at hl;exact mcm _ (ih hl)
    exact h _ this
 refine⟨by simp [D5,hn],λt m hm=>?_,λt m b hm hb=>?_⟩
 .obtain⟨v,rfl,hv⟩:=key t m hm;exact hv
 .obtain⟨v,rfl,hv⟩:=key t m hm
  cases hb
theorem GX{P:Program}{H:Hand}(hH:GJ P H){ops:Array Oper}{i:Nat}{o:Oper}(hi:ops[i]? = some o)(hg:o.guard=none){e:Env}{a:Act}(hag:BN e a){w:WD}{K':Value->WD->Prop}(h:eOp P H (rdO [] e) o w K'){K:Act->WD->Prop}{Q:Exit->Act->WD->Prop}(hK:∀v w',K' v w'->K (a.put o.dst v) w') :
 wpOp P ops Q i K a w:=by
 unfold wpOp;rw [hi];dsimp only;rw [if_pos (by simp [Region.wanted,hg])];exact .inl (A3v hH (CC hag (by simp)) h hK)
theorem B31{P:Program}{ops:Array Oper}{i:Nat}{o:Oper}(hi:ops[i]? = some o)(hg:o.guard=none){a:Act}{w:WD}{v:Value}(hr:(execOp a.eval o).run P w=.ok (.value v) w){K:Act->WD->Prop}{Q:Exit->Act->WD->Prop}(hK:K (a.put o.dst v) w) :
 wpOp P ops Q i K a w:=by
 unfold wpOp;rw [hi];dsimp only;rw [if_pos (by simp [Region.wanted,hg])];refine .inl ?_;unfold Oper.wp;rw [hr];exact hK
theorem CH{P:Program}{ops:Array Oper}{i:Nat}{o:Oper}(hi:ops[i]? = some o)(hg:o.guard=none){e:Env}{a:Act}(hag:BN e a){w:WD}{τ:Nat->Option TypeId}{N:Value->Prop}(h:(qOp P τ (rdO [] e) o).den w (λv _=>N v) (λ_=>True))
 {K:Act->WD->Prop}{Q:Exit->Act->WD->Prop} (hK:∀v,N v->K (a.put o.dst v) w):wpOp P ops Q i K a w:=by
 obtain⟨v,c',hs,hc,c'',hn,_⟩:=BZ.O9 h;exact B31 hi hg (FP (CC hag (by simp)) hs hc) (hK v hn)
