/-
  Part U of an engine: words for the proofs over such conditions. Proved: small laws of worlds, blocks and numbers. Conditions: none beyond each theorem's own.
-/
import Derived.Test.YtklmokolnakkoaaGreatDoorEngJ
import Derived.Laws.AppendOwn
set_option linter.unusedVariables false
set_option linter.unusedSimpArgs false
namespace Go.Eng

@[simp] theorem Wif_true (x y : Prop) : Wif true x y = x := rfl
@[simp] theorem Wif_false (x y : Prop) : Wif false x y = y := rfl
@[simp] theorem gIf_true (C x : Prop) : gIf true C x = x := rfl
theorem Wif_intro {b : Bool} {x y : Prop} (h1 : b = true → x) (h2 : b = false → y) : Wif b x y := by
  cases b
  · exact h2 rfl
  · exact h1 rfl
theorem Wif_yes {b : Bool} {x y : Prop} (h : b = true) (hx : x) : Wif b x y := by subst h; exact hx
theorem Wif_no {b : Bool} {x y : Prop} (h : b = false) (hy : y) : Wif b x y := by subst h; exact hy
theorem gIf_intro {b : Bool} {C x : Prop} (h : C → b = true) (hx : x) : gIf b C x := by
  cases b
  · exact ⟨fun hC => by simp at h; exact h hC, hx⟩
  · exact hx

@[simp] theorem inB_iff (i : Int) (n : Nat) : (inB i n = true) = (0 ≤ i ∧ i < (n : Int)) := by simp [inB]
theorem inB_of {i : Int} {n : Nat} (h0 : 0 ≤ i) (h1 : i < (n : Int)) : inB i n = true := by simp [h0, h1]
theorem okSl_of {l h c : Int} (h0 : 0 ≤ l) (h1 : l ≤ h) (h2 : h ≤ c) : okSl l h c = true := by simp [okSl, h0, h1, h2]
@[simp] theorem isP_some (b o : Nat) : isP (some ⟨b, o, none⟩) = true := rfl
@[simp] theorem pb_some (a : Addr) : pb (some a) = a.block := rfl
@[simp] theorem po_some (a : Addr) : po (some a) = a.off := rfl

theorem rd_def (w : World) (b o : Nat) : rd w b o = match w.heap[b]? with | some (.cells c _ _) => c[o]? | _ => none := by
  unfold rd World.cell?
  cases w.heap[b]? with
  | none => rfl
  | some x => cases x <;> rfl
@[simp] theorem rd_drew (w : World) (b o : Nat) : rd w.drew b o = rd w b o := rfl
@[simp] theorem rd_alloc_new (w : World) (c : Array Value) (t : TypeId) (o : Nat) : rd (w.alloc (.cells c t)) w.heap.size o = c[o]? := by
  simp [rd]
theorem rd_lt {w : World} {b o : Nat} {v : Value} (h : rd w b o = some v) : b < w.heap.size := World.block_lt_of_cell? w _ h
theorem rd_st_same {w : World} {b o : Nat} {u v : Value} (h : rd w b o = some u) : rd (st w b o v) b o = some v := World.cell?_setCell_same w _ v h
theorem rd_st_off {w : World} {b b' o o' : Nat} {v : Value} (h : b ≠ b' ∨ o ≠ o') : rd (st w b o v) b' o' = rd w b' o' := by
  refine World.cell?_setCell_other w _ _ v fun hx => ?_
  simp at hx
  rcases h with h | h
  · exact h hx.1
  · exact h hx.2
@[simp] theorem size_st (w : World) (b o : Nat) (v : Value) : (st w b o v).heap.size = w.heap.size := World.size_setCell w _ v
@[simp] theorem frozen_st (w : World) (b o : Nat) (v : Value) (a : Addr) : (st w b o v).frozen? a = w.frozen? a := World.frozen?_setCell w _ _ v
theorem rd_st (w : World) (b o : Nat) (v : Value) (b' o' : Nat) : rd (st w b o v) b' o' = if b = b' ∧ o = o' then (if (rd w b o).isSome then some v else none) else rd w b' o' := by
  split
  · rename_i h
    obtain ⟨rfl, rfl⟩ := h
    cases hr : rd w b o with
    | some u => simp [rd_st_same hr]
    | none =>
      simp
      unfold rd st at *
      unfold World.cell? at *
      simp only [World.setCell, Array.getElem?_modify, if_true]
      cases hb : w.heap[b]? with
      | none => rfl
      | some x =>
        cases x with
        | cells c e f =>
          rw [hb] at hr
          simp at hr
          simp [hr]
        | _ => rfl
  · rename_i h
    refine rd_st_off ?_
    by_cases hb : b = b'
    · right; intro ho; exact h ⟨hb, ho⟩
    · left; exact hb

theorem Kept.refl (X : Nat → Prop) (w : World) : Kept X w w := ⟨rfl, rfl, rfl, Nat.le_refl _, fun _ _ _ => rfl⟩
theorem Kept.mono {X Y : Nat → Prop} {w w' : World} (h : Kept X w w') (hx : ∀ b, b < w.heap.size → X b → Y b) : Kept Y w w' :=
  ⟨h.os, h.tape, h.out, h.sz, fun b hb hn => h.blk b hb fun hxb => hn (hx b hb hxb)⟩
theorem Kept.trans {X Y : Nat → Prop} {w w1 w2 : World} (h : Kept X w w1) (h2 : Kept Y w1 w2) (hy : ∀ b, b < w.heap.size → Y b → X b) : Kept X w w2 :=
  ⟨h2.os.trans h.os, h2.tape.trans h.tape, h2.out.trans h.out, Nat.le_trans h.sz h2.sz, fun b hb hn => (h2.blk b (Nat.lt_of_lt_of_le hb h.sz) fun hyb => hn (hy b hb hyb)).trans (h.blk b hb hn)⟩
theorem Kept.drew {X : Nat → Prop} {w w' : World} (h : Kept X w w') : Kept X w w'.drew := ⟨h.os, h.tape, h.out, h.sz, h.blk⟩
theorem Kept.alloc {X : Nat → Prop} {w w' : World} (h : Kept X w w') (c : Array Value) (t : TypeId) : Kept X w (w'.alloc (.cells c t)) := by
  refine ⟨h.os, h.tape, h.out, by simp; exact Nat.le_succ_of_le h.sz, fun b hb hn => ?_⟩
  rw [← h.blk b hb hn]
  simp only [World.alloc, Array.getElem?_push]
  rw [if_neg (by have := h.sz; omega)]
theorem Kept.st {X : Nat → Prop} {w w' : World} (h : Kept X w w') {b o : Nat} {v : Value} (hb : X b ∨ w.heap.size ≤ b) : Kept X w (Eng.st w' b o v) := by
  refine ⟨h.os, h.tape, h.out, by simp; exact h.sz, fun b' hb' hn => ?_⟩
  rw [← h.blk b' hb' hn]
  have hne : b ≠ b' := by
    rintro rfl
    rcases hb with hb | hb
    · exact hn hb
    · omega
  simp [Eng.st, World.setCell, Array.getElem?_modify, hne]
theorem Kept.rd {X : Nat → Prop} {w w' : World} (h : Kept X w w') {b : Nat} (hb : b < w.heap.size) (hx : ¬ X b) (o : Nat) : Eng.rd w' b o = Eng.rd w b o := by
  rw [rd_def, rd_def, h.blk b hb hx]
theorem Kept.rd_some {X : Nat → Prop} {w w' : World} (h : Kept X w w') {b o : Nat} {v : Value} (hr : Eng.rd w b o = some v) (hx : ¬ X b) : Eng.rd w' b o = some v := by
  rw [h.rd (rd_lt hr) hx]; exact hr
theorem Kept.keptBut {w w' : World} (h : Kept none' w w') (may : MemPlace → Prop) : w.keptBut w' may := by
  refine ⟨h.os, h.out, fun i hi => ?_⟩
  rw [h.blk i hi (fun x => x)]
  generalize w.heap[i]? = o
  cases o with
  | none => rfl
  | some x =>
    cases x
    case cells => exact ⟨rfl, rfl, rfl, fun _ _ => rfl⟩
    case map => exact .inr ⟨rfl, rfl⟩
    all_goals rfl
theorem Kept.grownBy {w w' : World} {row : Option Nat} (h : w.grownBy w' row) : Kept (fun b => row = some b) w w' :=
  ⟨h.os, h.tape, h.output, h.size, fun b hb hn => h.block b hb fun e => hn e.symm⟩
theorem Kept.below {w w' : World} (h : Kept none' w w') : RowKit.Below w.heap.size w w' :=
  ⟨h.os, h.tape, h.out, h.sz, fun k hk => h.blk k hk id⟩
theorem Kept.allocMap {X : Nat → Prop} {w w' : World} (h : Kept X w w') (es : Array MapEntry) (c : Nat) : Kept X w (w'.alloc (.map es c)) := by
  refine ⟨h.os, h.tape, h.out, by simp; exact Nat.le_succ_of_le h.sz, fun b hb hn => ?_⟩
  rw [← h.blk b hb hn]
  simp only [World.alloc, Array.getElem?_push]
  rw [if_neg (by have := h.sz; omega)]

def own (w : World) (b : Nat) (cs : List Value) : Prop := ∃ t, w.heap[b]? = some (.cells cs.toArray t (0, 0))
theorem own.lt {w : World} {b : Nat} {cs : List Value} (h : own w b cs) : b < w.heap.size := by
  obtain ⟨t, h⟩ := h
  exact (Array.getElem?_eq_some_iff.1 h).1
theorem own.rd {w : World} {b : Nat} {cs : List Value} (h : own w b cs) (o : Nat) : Eng.rd w b o = cs[o]? := by
  obtain ⟨t, h⟩ := h
  rw [rd_def, h]; simp
theorem own.wr {w : World} {b : Nat} {cs : List Value} (h : own w b cs) {o : Nat} (ho : o < cs.length) : Eng.wr w b o := by
  refine ⟨⟨cs[o], by rw [h.rd]; simp [ho]⟩, ?_⟩
  obtain ⟨t, h⟩ := h
  simp [World.frozen?, h]
theorem own_new (w : World) (c : Array Value) (t : TypeId) : own (w.alloc (.cells c t)) w.heap.size c.toList := ⟨t, by simp only [World.alloc]; simp⟩
theorem own.alloc {w : World} {b : Nat} {cs : List Value} (h : own w b cs) (x : Obj) : own (w.alloc x) b cs := by
  have hl := h.lt
  obtain ⟨t, h⟩ := h
  refine ⟨t, ?_⟩
  simp only [World.alloc, Array.getElem?_push]
  rw [if_neg (by omega)]; exact h
theorem own.drew {w : World} {b : Nat} {cs : List Value} (h : own w b cs) : own w.drew b cs := h
theorem own.st_same {w : World} {b o : Nat} {cs : List Value} {v : Value} (h : own w b cs) : own (Eng.st w b o v) b (cs.set o v) := by
  obtain ⟨t, h⟩ := h
  refine ⟨t, ?_⟩
  simp [Eng.st, World.setCell, Array.getElem?_modify, h]
theorem own.st_ne {w : World} {b b' o : Nat} {cs : List Value} {v : Value} (h : own w b cs) (hn : b ≠ b') : own (Eng.st w b' o v) b cs := by
  obtain ⟨t, h⟩ := h
  refine ⟨t, ?_⟩
  simp [Eng.st, World.setCell, Array.getElem?_modify, Ne.symm hn, h]
theorem own.kept {w w' : World} {b : Nat} {cs : List Value} {X : Nat → Prop} (h : own w b cs) (k : Kept X w w') (hx : ¬ X b) : own w' b cs := by
  have hl := h.lt
  obtain ⟨t, h⟩ := h
  exact ⟨t, by rw [k.blk b hl hx]; exact h⟩
@[simp] theorem wr_drew (w : World) (b o : Nat) : wr w.drew b o = wr w b o := propext ⟨fun h => ⟨h.1, h.2⟩, fun h => ⟨h.1, h.2⟩⟩
theorem wr_st_of {w : World} {b o : Nat} {v : Value} {b' o' : Nat} (h : wr w b' o') : wr (st w b o v) b' o' := by
  obtain ⟨⟨u, hu⟩, hf⟩ := h
  refine ⟨?_, by simpa using hf⟩
  rw [rd_st]
  split
  · rename_i hx
    obtain ⟨rfl, rfl⟩ := hx
    simp [hu]
  · exact ⟨u, hu⟩
theorem Kept.rdE {w w' : World} (h : Kept none' w w') (b o : Nat) (hb : b < w.heap.size) : Eng.rd w' b o = Eng.rd w b o := h.rd hb id o
theorem Kept.wrE {w w' : World} (h : Kept none' w w') (b o : Nat) (hb : b < w.heap.size) : Eng.wr w' b o = Eng.wr w b o := by
  refine propext ⟨fun ⟨⟨u, hu⟩, h2⟩ => ⟨⟨u, ?_⟩, ?_⟩, fun ⟨⟨u, hu⟩, h2⟩ => ⟨⟨u, ?_⟩, ?_⟩⟩
  · rw [h.rdE b o hb] at hu; exact hu
  · simp only [World.frozen?, h.blk b hb id] at h2 ⊢; exact h2
  · rw [h.rdE b o hb]; exact hu
  · simp only [World.frozen?, h.blk b hb id] at h2 ⊢; exact h2
theorem own_alloc {w w1 : World} {c : List Value} {t : TypeId} (e : w1 = w.alloc (.cells c.toArray t)) : own w1 w.heap.size c := by
  subst e; simpa using own_new w c.toArray t
theorem own.al {w w1 : World} {x : Obj} {b : Nat} {cs : List Value} (h : own w b cs) (e : w1 = w.alloc x) : own w1 b cs := e ▸ h.alloc x
theorem own.dr {w w1 : World} {b : Nat} {cs : List Value} (h : own w b cs) (e : w1 = w.drew) : own w1 b cs := e ▸ h.drew
theorem own.s1 {w w1 : World} {b o : Nat} {v : Value} {cs : List Value} (h : own w b cs) (e : w1 = Eng.st w b o v) : own w1 b (cs.set o v) := e ▸ h.st_same
theorem own.s2 {w w1 : World} {b o o' : Nat} {v v' : Value} {cs : List Value} (h : own w b cs) (e : w1 = Eng.st (Eng.st w b o v) b o' v') : own w1 b ((cs.set o v).set o' v') := e ▸ h.st_same.st_same
theorem own.n1 {w w1 : World} {b b' o : Nat} {v : Value} {cs : List Value} (h : own w b cs) (e : w1 = Eng.st w b' o v) (hn : b ≠ b') : own w1 b cs := e ▸ h.st_ne hn
theorem Kept.al {X : Nat → Prop} {w0 w w1 : World} {c : Array Value} {t : TypeId} (h : Kept X w0 w) (e : w1 = w.alloc (.cells c t)) : Kept X w0 w1 := e ▸ h.alloc c t
theorem Kept.dr {X : Nat → Prop} {w0 w w1 : World} (h : Kept X w0 w) (e : w1 = w.drew) : Kept X w0 w1 := e ▸ h.drew
theorem Kept.s1 {X : Nat → Prop} {w0 w w1 : World} {b o : Nat} {v : Value} (h : Kept X w0 w) (e : w1 = Eng.st w b o v) (hb : X b ∨ w0.heap.size ≤ b) : Kept X w0 w1 := e ▸ h.st hb
theorem Kept.s2 {X : Nat → Prop} {w0 w w1 : World} {b o o' : Nat} {v v' : Value} (h : Kept X w0 w) (e : w1 = Eng.st (Eng.st w b o v) b o' v') (hb : X b ∨ w0.heap.size ≤ b) : Kept X w0 w1 := e ▸ (h.st hb).st hb
theorem Kept.tr {X : Nat → Prop} {w0 w w1 : World} (h : Kept X w0 w) (h2 : Kept none' w w1) : Kept X w0 w1 := h.trans h2 (fun _ _ h => h.elim)
theorem own.k {w w1 : World} {b : Nat} {cs : List Value} (h : own w b cs) (k : Kept none' w w1) : own w1 b cs := h.kept k id
theorem wi {x : Int} (h : -9223372036854775808 ≤ x ∧ x ≤ 9223372036854775807) : IntKind.wrap .i64 x = x := IntWalk.i64_in _ (by omega)
theorem wu {x : Int} (h : 0 ≤ x ∧ x ≤ 18446744073709551615) : IntKind.wrap .u64 x = x := by
  simp only [IntKind.wrap, IntKind.bits, IntKind.signed, Bool.false_and, Bool.false_eq_true, if_false]
  omega
end Go.Eng
