/-
  A part of a proof that a law of this seat returns true at every input. Conditions: those in each theorem.
-/
import Derived.Test.YtklmokolnakkoaaGreatDoorBV3
import Derived.Test.YtklmokolnakkoaaGreatDoorZC4
import Derived.Test.YtklmokolnakkoaaGreatDoorB0
namespace Go.Proofs.YtklmokolnakkoaaGreatDoor
open Go Eng
set_option linter.unusedSimpArgs false
set_option linter.unusedVariables false
set_option maxRecDepth 100000
section
variable {w w' : World}
theorem own_heap {b : Nat} {cs : List Value} (e : w'.heap = w.heap) (h : own w b cs) : own w' b cs := by
  obtain ⟨t, h⟩ := h
  exact ⟨t, by rw [e]; exact h⟩
theorem map_heap {b : Nat} {es : List (Int × Value)} (e : w'.heap = w.heap) (h : MapIs w b es) : MapIs w' b es := by
  obtain ⟨a, c, h1, h2⟩ := h.ex
  exact ⟨⟨a, c, by rw [e]; exact h1, h2⟩, h.nd, h.rg⟩
theorem bat_heap {b t : Nat} {m : Nat → Nat} {s : Bst} (e : w'.heap = w.heap) (h : BAt w b m t s) : BAt w' b m t s :=
  ⟨own_heap e h.so, fun o ho => map_heap e (h.mf o ho), map_heap e h.mt, h.dm, h.dt, h.db⟩
theorem zat_heap {z : Nat} {S : Zs} {L : Nat → List Bk} (e : w'.heap = w.heap) (h : ZAt w z S L) : ZAt w' z S L := by
  obtain ⟨cs, h1, h2⟩ := h.sg
  exact ⟨own_heap e h.so, ⟨cs, own_heap e h1, h2⟩, fun i hi => bat_heap e (h.bt i hi), h.iv, h.ap, h.zb, h.kc, h.my⟩
theorem zat_ky {z : Nat} {S : Zs} {L : Nat → List Bk} {Y : Nat → Prop} (h : ZAt w z S L) (k : KeptY Y w w') (hy : ∀ x, S.all z x → Y x) : ZAt w' z S L := by
  have k2 : Kept (fun b => ¬ Y b) w { w with heap := w'.heap } := ⟨rfl, rfl, rfl, k.sz, fun b _ hn => k.blk b (Classical.not_not.1 hn)⟩
  exact zat_heap (w := { w with heap := w'.heap }) rfl (h.kx k2 fun x hx ha => hx (hy x ha))
theorem rd_ky {Y : Nat → Prop} {b o : Nat} {v : Value} (h : rd w b o = some v) (k : KeptY Y w w') (hy : Y b) : rd w' b o = some v := by
  rw [rd_def] at h ⊢
  rw [k.blk b hy]
  exact h
theorem defs_ky {Y : Nat → Prop} {ds : List Nat} (h : DefsAt ds w) (k : KeptY Y w w') (hy : ∀ D ∈ ds, Y D) : DefsAt ds w' := ⟨h.nd, fun D hD => (k.blk D (hy D hD)).trans (h.all D hD)⟩
end
structure ZCm (c z : Nat) (S : Zs) (L : Nat → List Bk) (l p0 : Nat) (dl : List Nat) (f : Int) (Y : Nat → Prop) (W : World) : Prop where
  rng : ∀ b, Y b → p0 ≤ b ∧ b < W.heap.size
  oy : own W p0 [.func (.yield l) #[] #[]]
  of : own W (p0 + 1) [.int .i64 f]
  y0 : Y p0
  y1 : Y (p0 + 1)
  rc : rd W c 0 = some (ptr z)
  za : ZAt W z S L
  cl : c < p0
  al : ∀ x, S.all z x → x < p0
  df : DefsAt dl W
  dy : ∀ D ∈ dl, Y D ∧ p0 + 2 ≤ D
def newY (Y : Nat → Prop) (W W' : World) : Nat → Prop := fun b => Y b ∨ (W.heap.size ≤ b ∧ b < W'.heap.size)
section
variable {c z l p0 : Nat} {S : Zs} {L : Nat → List Bk} {dl : List Nat} {f : Int} {Y : Nat → Prop} {W W' : World}
theorem ZCm.kx {X : Nat → Prop} (h : ZCm c z S L l p0 dl f Y W) (k : Kept X W W') (hx : ∀ x, X x → p0 + 2 ≤ x ∧ x ∉ dl) : ZCm c z S L l p0 dl f (newY Y W W') W' := by
  have hs := k.sz
  have h1 := h.of.lt
  refine ⟨fun b hb => ?_, h.oy.kx k fun e => by have := (hx _ e).1; omega, h.of.kx k fun e => by have := (hx _ e).1; omega, .inl h.y0, .inl h.y1, ?_, h.za.kx k fun x e ha => by have := (hx _ e).1; have := h.al x ha; omega, h.cl, h.al, ⟨h.df.nd, fun D hD => (k.blk D (h.rng D (h.dy D hD).1).2 fun e => (hx D e).2 hD).trans (h.df.all D hD)⟩, fun D hD => ⟨.inl (h.dy D hD).1, (h.dy D hD).2⟩⟩
  · rcases hb with hb | hb
    · have := h.rng b hb; omega
    · omega
  · exact k.rd_some h.rc fun e => by have := (hx _ e).1; have := h.cl; omega
theorem ZCm.ky (h : ZCm c z S L l p0 dl f Y W) (k : KeptY (fun b => Y b ∨ (b = c ∨ S.all z b)) W W') : ZCm c z S L l p0 dl f Y W' := by
  have hs := k.sz
  exact ⟨fun b hb => by have := h.rng b hb; omega, KeptY.own k (.inl h.y0) h.oy, KeptY.own k (.inl h.y1) h.of, h.y0, h.y1, rd_ky h.rc k (.inr (.inl rfl)), zat_ky h.za k fun x hx => .inr (.inr hx), h.cl, h.al, defs_ky h.df k fun D hD => .inl (h.dy D hD).1, h.dy⟩
end
def zxs (S : Zs) (L : Nat → List Bk) : List (List Value) := (zsh S.c L S.k).map fun y => [Value.agg #[.int .i64 (y.1 : Int), .int .i64 (y.2 : Int)]]
theorem zsh_pre {c : Nat → Int} {L : Nat → List Bk} : ∀ {k q i : Nat}, q < k → i < (bks (L q)).length → (zsh c L k)[(zsh c L q).length + i]? = ((bks (L q))[i]?).map fun y => ((fstF c q).toNat + y.1, y.2)
  | 0, q, i, hq, _ => absurd hq (Nat.not_lt_zero _)
  | k + 1, q, i, hq, hi => by
    have e0 : zsh c L (k + 1) = zsh c L k ++ (bks (L k)).map fun y => ((fstF c k).toNat + y.1, y.2) := rfl
    rw [e0]
    by_cases e : q = k
    · subst e
      rw [List.getElem?_append_right (by omega)]
      rw [show (zsh c L q).length + i - (zsh c L q).length = i by omega, List.getElem?_map]
    · have ih := zsh_pre (c := c) (L := L) (k := k) (q := q) (i := i) (by omega) hi
      have hlt : (zsh c L q).length + i < (zsh c L k).length := by
        have : (((bks (L q))[i]?).map fun y => ((fstF c q).toNat + y.1, y.2)) ≠ none := by
          rw [List.getElem?_eq_getElem hi]; simp
        rw [← ih] at this
        rcases Nat.lt_or_ge ((zsh c L q).length + i) (zsh c L k).length with h | h
        · exact h
        · exact absurd (List.getElem?_eq_none h) this
      rw [List.getElem?_append_left hlt]
      exact ih
theorem zblocks_gives {w : World} {c z : Nat} {S : Zs} {L : Nat → List Bk} (h : ZAt w z S L) (hc : rd w c 0 = some (ptr z)) (hcl : c < w.heap.size) :
    GivesV Tryz.prog 122 [.pointer (some ⟨c, 0, none⟩)] (zxs S L) (fun x => x = c ∨ S.all z x) w := by
  refine ⟨fun l J Jx W hk hab habx hY h0 => ?_⟩
  refine (vc122 l (some ⟨c, 0, none⟩) W (fun v w' => (∃ Y, J Y (zxs S L).length w') ∨ ∃ Y, Jx Y w') ?_).mono ?_
  rotate_left
  · rintro e w' ⟨v, rfl, hw⟩
    exact ⟨⟨v, rfl⟩, hw⟩
  have hW := h.k hk
  have hks := hk.sz
  have h8 := h.k8
  unfold vcP122
  intro w1 e1
  have oy1 := own_alloc (c := [.func (.yield l) #[] #[]]) e1
  have k1 : Kept none' W w1 := (Kept.refl _ _).al e1
  have s1 : w1.heap.size = W.heap.size + 1 := by rw [e1]; simp only [World.alloc, Array.size_push]
  have hc1 : rd w1 c 0 = some (ptr z) := (hk.tr k1).rd_some hc id
  have hz1 := hW.k k1
  simp only [isP_some, Wif_true, gIf_true, pb_some, po_some, Nat.zero_add]
  refine ⟨_, hc1, ?_⟩
  simp only [isP_some, Wif_true, gIf_true, pb_some, po_some, Nat.zero_add]
  refine ⟨_, _, _, fun _ => hz1.r94, Wif_no rfl (fun w2 e2 => ?_)⟩
  have of2 := own_alloc (c := [.int .i64 0]) e2
  have k12 : Kept none' w1 w2 := (Kept.refl _ _).al e2
  have s2 : w2.heap.size = W.heap.size + 2 := by rw [e2]; simp only [World.alloc, Array.size_push]; omega
  rw [s1] at of2
  rw [s1]
  refine ⟨of2.wr (by simp), fun w3 e3 => ?_⟩
  have of3 := of2.s1 e3
  have k23 : Kept (· = W.heap.size + 1) w2 w3 := (Kept.refl _ _).s1 e3 (.inl rfl)
  have K3 : Kept none' W w3 := own0 (k1.tr k12) k23 fun x hx => by omega
  have oy3 := (oy1.k k12).kx k23 (by omega)
  have s3 : w3.heap.size = W.heap.size + 2 := by rw [e3]; simp [s2]
  have hz3 := hW.k K3
  have hc3 : rd w3 c 0 = some (ptr z) := (hk.tr K3).rd_some hc id
  have hJ3 := hab _ _ _ _ h0 K3.toY
  have hall : ∀ x, S.all z x → x < W.heap.size := fun x hx => hW.lt hx
  clear e1 e2 e3
  generalize hp0 : W.heap.size = p0 at *
  refine ⟨_, hc3, ?_⟩
  simp only [isP_some, Wif_true, gIf_true, pb_some, po_some, Nat.zero_add]
  refine ⟨_, _, _, hz3.r94, ?_⟩
  refine ⟨fun k ds w' M => ∃ (q : Nat) (Y : Nat → Prop), k = (q : Int) ∧ q ≤ S.k ∧ M = S.k - q ∧ J Y (zsh S.c L q).length w' ∧ ZCm c z S L l p0 ds (fstF S.c q) Y w',
    ⟨S.k, 0, _, rfl, by omega, rfl, hJ3, ⟨fun b hb => ?_, oy3, of3, .inr (by omega), .inr (by omega), hc3, hz3, by omega, hall, ⟨List.nodup_nil, fun D hD => by cases hD⟩, fun D hD => by cases hD⟩⟩, ?_⟩
  · rcases hb with hb | hb
    · exact hb.elim
    · omega
  clear hJ3 oy3 of3 hc3 hz3 K3 of2 oy1 k1 k12 k23 hc1 hz1
  rintro _ ds w4 _ ⟨q, Y4, rfl, hq, rfl, hJ4, C4⟩
  have hlenz : (zxs S L).length = (zsh S.c L S.k).length := by unfold zxs; simp
  simp only [isP_some, Wif_true, gIf_true, pb_some, po_some, Nat.zero_add]
  refine Wif_intro (fun hc4 => ?_) (fun hc4 => ?_)
  rotate_left
  · have : q = S.k := by simp at hc4; omega
    subst this
    refine ⟨C4.df, fun w5 k5 _ => .inl ⟨newY Y4 w4 w5, ?_⟩⟩
    rw [hlenz]
    exact hab _ _ _ _ hJ4 (k5.mono fun b _ hb => (C4.dy b hb).1)
  have hqk : q < S.k := by simp at hc4; omega
  have eB : inB (q : Int) S.k = true := inB_of (by omega) (by omega)
  have hvq := h.iv q hqk
  have hfst := fst_128 h (i := q) (by omega)
  have hfst1 := fst_128 h (i := q + 1) (by omega)
  have hn := n_int h hqk
  have hrg := C4.za.rg hqk
  simp only [eB, Wif_true]
  rw [Nat.zero_add] at hrg
  refine ⟨_, hrg, fun w5 e5 => ?_⟩
  have oc5 := own_alloc (c := [ptr (S.B q)]) e5
  have k45 : Kept none' w4 w5 := (Kept.refl _ _).al e5
  have s5 : w5.heap.size = w4.heap.size + 1 := by rw [e5]; simp only [World.alloc, Array.size_push]
  have C5 := C4.kx k45 fun x hx => hx.elim
  have hJ5 : J (newY Y4 w4 w5) (zsh S.c L q).length w5 := hab _ _ _ _ hJ4 k45.toY
  have hp4 : p0 + 2 ≤ w4.heap.size := by have := C4.of.lt; omega
  clear e5
  generalize hB : w5.heap.size = B at *
  -- the state within node q
  let In : (Nat → Prop) → (Nat → Prop) → World → Prop := fun Y1 Y W' => (∀ b, Y1 b → Y b) ∧ Y B ∧ Y (B + 1) ∧ ZCm c z S L l p0 ds (fstF S.c q) Y W'
  have hdsB : ∀ D ∈ ds, D < B := fun D hD => by have := (C4.rng D (C4.dy D hD).1).2; omega
  have inK : ∀ {Y1 Y : Nat → Prop} {W1 W2 : World}, In Y1 Y W1 → (∀ b, Y1 b → B + 2 ≤ b) → Kept (recsY B Y1) W1 W2 → In (newY Y1 W1 W2) (newY Y W1 W2) W2 ∧ Kept Y W1 W2 := by
    rintro Y1 Y W1 W2 ⟨i1, i2, i3, i4⟩ hy1 k
    refine ⟨⟨fun b hb => ?_, .inl i2, .inl i3, i4.kx k fun x hx => ?_⟩, k.mono fun b _ hb => ?_⟩
    · rcases hb with hb | hb
      · exact .inl (i1 b hb)
      · exact .inr hb
    · rcases hx with rfl | rfl | hx
      · exact ⟨by omega, fun hm => by have := hdsB _ hm; omega⟩
      · exact ⟨by omega, fun hm => by have := hdsB _ hm; omega⟩
      · have := hy1 x hx
        exact ⟨by omega, fun hm => by have := hdsB _ hm; omega⟩
    · rcases hb with rfl | rfl | hb
      · exact i2
      · exact i3
      · exact i1 b hb
  have hbl : (bks (L q)).length = (frB (L q)).length := bks_len _
  refine ⟨(frB (L q)).map fun x => [blkV x], fun _ => False, fun Y1 i W' => i ≤ (frB (L q)).length ∧ ∃ Y, In Y1 Y W' ∧ J Y ((zsh S.c L q).length + i) W', fun k Y1 W' => k = 1 ∧ ∃ Y, In Y1 Y W' ∧ Jx Y W',
    ⟨blocks_gives (sort_says (L q)) (C5.za.bt q hqk) hvq (by rw [oc5.rd]; rfl), fun xs hx => ?_, fun b h => h.elim⟩, fun w6 k56 s6 => ?_, ?_, ?_, ?_, ?_, ?_, ?_⟩
  · obtain ⟨x, _, rfl⟩ := List.mem_map.1 hx
    exact ⟨rfl, _, _, rfl⟩
  · have C6 := C5.kx k56 fun x hx => hx.elim
    have hJ6 : J (newY (newY Y4 w4 w5) w5 w6) (zsh S.c L q).length w6 := hab _ _ _ _ hJ5 k56.toY
    exact ⟨by omega, _, ⟨fun b hb => hb.elim, .inr (by omega), .inr (by omega), C6⟩, by rw [Nat.add_zero]; exact hJ6⟩
  · rintro Y1 i W1 W2 ⟨hi, Y, hin, hJ⟩ hy1 k
    obtain ⟨a1, a2⟩ := inK hin hy1 k
    exact ⟨hi, _, a1, hab _ _ _ _ hJ a2⟩
  · rintro k Y1 W1 W2 ⟨rfl, Y, hin, hJ⟩ hy1 kk
    obtain ⟨a1, a2⟩ := inK hin hy1 kk
    exact ⟨rfl, _, a1, habx _ _ _ hJ a2⟩
  · rintro Y1 i W1 ⟨hi, Y, ⟨i1, i2, i3, i4⟩, hJ⟩ hy1 hsz p o hv w6 e6
    obtain ⟨x, hxx, hpo⟩ : ∃ x, (frB (L q))[i]? = some x ∧ [blkV x] = [Value.agg #[.int .i64 p, .int .i64 o]] := by
      rw [List.getElem?_map] at hv
      cases hh : (frB (L q))[i]? with
      | none => rw [hh] at hv; cases hv
      | some x => rw [hh] at hv; exact ⟨x, rfl, Option.some.inj hv⟩
    simp [blkV] at hpo
    obtain ⟨rfl, rfl⟩ := hpo
    have hil := (List.getElem?_eq_some_iff.1 hxx).1
    have hbi : (bks (L q))[i]? = some (x.p, x.o) := by unfold bks; rw [List.getElem?_map, hxx]; rfl
    have hxp : x.p < S.n q := by
      have hm : x ∈ frB (L q) := List.mem_iff_getElem?.2 ⟨i, hxx⟩
      have := tile_mem hvq.tl (List.mem_filter.1 hm).1
      have := p2 x.o
      omega
    have o6 := own_alloc (c := [.int .i64 0, .int .i64 0]) e6
    have k6 : Kept none' W1 w6 := (Kept.refl _ _).al e6
    have s6 : w6.heap.size = W1.heap.size + 1 := by rw [e6]; simp only [World.alloc, Array.size_push]
    refine ⟨⟨o6.wr (by simp), o6.wr (by simp)⟩, fun w7 e7 => ?_⟩
    have o7 : own w7 W1.heap.size [.int .i64 (x.p : Int), .int .i64 (x.o : Int)] := o6.s2 e7
    have k7 : Kept none' W1 w7 := own0 k6 ((Kept.refl (· = W1.heap.size) _).s2 e7 (.inl rfl)) fun x hx => by omega
    have s7 := k7.sz
    have l7 := o7.lt
    refine ⟨recKept_of k7 (by omega) id id, fun w8 k78 s8 => ?_⟩
    have o8 := o7.kx k78 (by omega)
    have kW8 : Kept (· = B + 1) W1 w8 := (k7.mono fun _ _ h => h.elim).trans k78 fun _ _ h => h
    have C8 := i4.kx kW8 fun y hy => by subst hy; exact ⟨by omega, fun hm => by have := hdsB _ hm; omega⟩
    refine ⟨_, by rw [o8.rd]; rfl, fstF S.c q, by rw [C8.of.rd]; rfl, o8.wr (by simp), fun w9 e9 => ?_⟩
    have exf : IntKind.wrap .i64 ((x.p : Int) + fstF S.c q) = (((fstF S.c q).toNat + x.p : Nat) : Int) := by rw [wi (by omega)]; omega
    rw [exf] at e9
    have o9 := o8.s1 e9
    have k89 : Kept (· = W1.heap.size) w8 w9 := (Kept.refl _ _).s1 e9 (.inl rfl)
    have kW9 : Kept (fun b => b = B + 1 ∨ b = W1.heap.size) W1 w9 := (kW8.mono fun _ _ h => .inl h).trans k89 fun _ _ h => .inr h
    have kY9 : Kept Y W1 w9 := kW9.mono fun b hb hh => by
      rcases hh with rfl | rfl
      · exact i3
      · omega
    have C9 := i4.kx kW9 fun y hy => by rcases hy with rfl | rfl <;> exact ⟨by omega, fun hm => by have := hdsB _ hm; omega⟩
    have hJ9 := hab _ _ _ _ hJ kY9
    have s9 := kW9.sz
    refine ⟨_, by rw [C9.oy.rd]; rfl, _, _, ⟨by rw [o9.rd]; rfl, by rw [o9.rd]; rfl⟩, l, rfl, ?_⟩
    have hxs : (zxs S L)[(zsh S.c L q).length + i]? = some [Value.agg #[.int .i64 (((fstF S.c q).toNat + x.p : Nat) : Int), .int .i64 (x.o : Int)]] := by
      unfold zxs
      rw [List.getElem?_map, zsh_pre hqk (by omega), hbi]
      rfl
    have hy := hY _ _ _ w9 hxs hJ9
    obtain ⟨fn, tm, asg', bo, hrun, hR⟩ := hy.run
    refine ⟨fn, tm, asg', bo, hrun, hR.mono ?_⟩
    rintro en w10 ⟨ky, hres⟩
    have C10 := C9.ky ky
    have hYs : ∀ b, Y b → newY Y W1 w9 b := fun b hb => .inl hb
    have rk : RecKept B w8 w10 := by
      have r1 : RecKept B w8 w9 := recKept_of k89 (by have := kW8.sz; omega) (by omega) (by omega)
      have b0 := ky.blk B (.inl (hYs _ i2))
      have b1 := ky.blk (B + 1) (.inl (hYs _ i3))
      exact ⟨by have := r1.sz; have := ky.sz; omega, b0.trans r1.d, b1.trans r1.l⟩
    have kyW : KeptY (fun b => Y1 b ∨ False) W1 w10 := by
      refine ⟨by have := ky.sz; omega, fun b hb => ?_⟩
      rcases hb with hb | hb
      · have hb2 := hy1 b hb
        have hb3 := (i4.rng b (i1 b hb)).2
        exact (ky.blk b (.inl (hYs _ (i1 b hb)))).trans (kW9.blk b hb3 (by omega))
      · exact hb.elim
    have hin : In Y1 (newY Y W1 w9) w10 := ⟨fun b hb => .inl (i1 b hb), .inl i2, .inl i3, C10⟩
    rcases hres with ⟨rfl, hJ10⟩ | ⟨rfl, hJ10⟩
    · exact ⟨true, rfl, Wif_no rfl ⟨rk, kyW, by omega, _, hin, by rw [← Nat.add_assoc]; exact hJ10⟩⟩
    · exact ⟨false, rfl, Wif_yes rfl ⟨rk, kyW, rfl, _, hin, hJ10⟩⟩
  · rintro Y1 W1 ⟨_, Y, ⟨i1, i2, i3, i4⟩, hJ⟩ hd w6 e6
    have k6 : Kept none' W1 w6 := (Kept.refl _ _).dr e6
    have C6 := i4.kx k6 fun x hx => hx.elim
    have hJ6 := hab _ _ _ _ hJ k6.toY
    have hd6 := hd.k k6 id
    have sB := (Array.getElem?_eq_some_iff.1 hd.at_).1
    refine ⟨_, by rw [C6.of.rd]; rfl, ?_⟩
    refine ⟨_, C6.rc, ?_⟩
    simp only [isP_some, Wif_true, gIf_true, pb_some, po_some, Nat.zero_add]
    refine Wif_yes (inB_of (by omega) (by omega)) ⟨S.c (18 + q), by rw [Int.toNat_natCast, Nat.mul_one]; exact C6.za.r (by omega), C6.of.wr (by simp), fun w7 e7 => ?_⟩
    have ef : IntKind.wrap .i64 (fstF S.c q + S.c (18 + q)) = fstF S.c (q + 1) := by
      have : fstF S.c (q + 1) = fstF S.c q + S.c (18 + q) := rfl
      rw [← this, wi (by omega)]
    rw [ef] at e7
    have k67 : Kept (· = p0 + 1) w6 w7 := (Kept.refl _ _).s1 e7 (.inl rfl)
    have of7 := C6.of.s1 e7
    have s6 := k6.sz
    have s7 : w7.heap.size = w6.heap.size := by rw [e7]; simp
    have hJ7 := hab _ _ _ _ hJ6 (k67.mono fun b _ hb => by subst hb; exact C6.y1)
    have hd7 := hd6.k k67 (by omega)
    have hl : (zsh S.c L q).length + ((frB (L q)).map fun x => [blkV x]).length = (zsh S.c L (q + 1)).length := by
      simp [zsh, hbl]
    rw [hl] at hJ7
    have eY : newY (newY Y W1 w6) w6 w7 = newY Y W1 w6 := by
      funext b
      simp only [newY, eq_iff_iff]
      constructor
      · rintro (hb | hb)
        · exact hb
        · omega
      · exact .inl
    have hJ7' : J (newY Y W1 w6) (zsh S.c L (q + 1)).length w7 := by rw [← eY]; exact hJ7
    refine ⟨S.k - (q + 1), by omega, q + 1, newY Y W1 w6, by rw [wi (by omega)]; rfl, by omega, rfl, hJ7', ⟨fun b hb => by have := C6.rng b hb; omega, C6.oy.kx k67 (by omega), of7, C6.y0, C6.y1, k67.rd_some C6.rc (by have := C6.cl; omega), C6.za.kx k67 fun x hx ha => by have := C6.al x ha; omega, C6.cl, C6.al, ⟨List.nodup_cons.2 ⟨fun hm => by have := hdsB _ hm; omega, C6.df.nd⟩, fun D hD => ?_⟩, fun D hD => ?_⟩⟩
    · rcases List.mem_cons.1 hD with rfl | hD
      · exact hd7.at_
      · exact (k67.blk D (C6.rng D (C6.dy D hD).1).2 (by have := (C6.dy D hD).2; omega)).trans (C6.df.all D hD)
    · rcases List.mem_cons.1 hD with rfl | hD
      · exact ⟨.inl i2, by omega⟩
      · exact C6.dy D hD
  · rintro Y1 W1 ⟨h1, _⟩ _
    cases h1
  · rintro Y1 W1 ⟨_, Y, ⟨i1, i2, i3, i4⟩, hJ⟩ hd
    have hds : DefsAt (B :: ds) W1 := ⟨List.nodup_cons.2 ⟨fun hm => by have := hdsB _ hm; omega, i4.df.nd⟩, fun D hD => by
      rcases List.mem_cons.1 hD with rfl | hD
      · exact hd.at_
      · exact i4.df.all D hD⟩
    refine ⟨hds, fun w6 k6 _ => .inr ⟨_, habx _ _ _ hJ (k6.mono fun b _ hb => ?_)⟩⟩
    have hb' : b ∈ B :: ds := hb
    rcases List.mem_cons.1 hb' with rfl | hb'
    · exact i2
    · exact (i4.dy b hb').1
end Go.Proofs.YtklmokolnakkoaaGreatDoor
set_option linter.unusedVariables false
set_option maxRecDepth 100000
namespace Go.Proofs.YtklmokolnakkoaaGreatDoor
open Go Go.Eng
open Go.Value (slice pointer)
/- slices.Collect[byre/api.Block] -/
def vcP65 (seq : Value) (w : World) (K : KV) : Prop := Calls Tryz.prog 121 #[slice none 0 0, seq] w fun e w' => ∃ (a : OA) (l c : Nat), e = .returned (slice a l c) ∧ K (slice a l c) w'
theorem vc65 (seq : Value) (w : World) (K : KV) (h : vcP65 seq w K) : Calls Tryz.prog 65 #[seq] w (fun e w' => ∃ v, e = .returned v ∧ K v w') := Eng.vc_of [] 2 [] Tryz.mixes Tryz.func65 (by kernel_rfl) (by kernel_rfl) (by kernel_rfl) h
/- slices.Sorted[int] -/
def vcP76 (seq : Value) (w : World) (K : KV) : Prop := Calls Tryz.prog 172 #[slice none 0 0, seq] w fun e w' => ∃ (a : OA) (l c : Nat), e = .returned (slice a l c) ∧ Calls Tryz.prog 131 #[slice a l c] w' fun e w' => e = .returned (.tuple #[]) ∧ K (slice a l c) w'
theorem vc76 (seq : Value) (w : World) (K : KV) (h : vcP76 seq w K) : Calls Tryz.prog 76 #[seq] w (fun e w' => ∃ v, e = .returned v ∧ K v w') := Eng.vc_of [124] 2 [] Tryz.mixes Tryz.func76 (by kernel_rfl) (by kernel_rfl) (by kernel_rfl) h
/- slices.AppendSeq[[]byre/api.Block,byre/api.Block] -/
def vcP121 (s : OA) (sL sC : Nat) (c1_0 : OA) (w : World) (K : KV) : Prop := ∀ w', w' = w.alloc (.cells #[slice s sL sC] 62) → ∃ (xss : List (List Value)), ∃ (R : Nat → Prop), ∃ (I : (Nat → Prop) → Nat → World → Prop), ∃ (X : Nat → (Nat → Prop) → World → Prop), (GivesV Tryz.prog 122 [pointer c1_0] xss R w' ∧ (∀ (xs : List Value), List.Mem xs xss → List.length xs = 1 ∧ ∃ (n n_1 : Int), xs = [Value.agg #[vi n, vi n_1]]) ∧ ∀ (b : Nat), R b → Nat.succ b ≤ Array.size (World.heap w')) ∧ (∀ (w1 : World), Kept none' w' w1 → Array.size (World.heap w1) = Array.size (World.heap w') + 2 → I (fun (x : Nat) => False) 0 w1) ∧ (∀ (Y : Nat → Prop) (i : Nat) (W W' : World), I Y i W → (∀ (b : Nat), Y b → Array.size (World.heap w') + 2 ≤ b) → Kept (recsY w'.heap.size Y) W W' → I (fun (b : Nat) => Y b ∨ Array.size (World.heap W) ≤ b ∧ Nat.succ b ≤ Array.size (World.heap W')) i W') ∧ (∀ (k : Nat) (Y : Nat → Prop) (W W' : World), X k Y W → (∀ (b : Nat), Y b → Array.size (World.heap w') + 2 ≤ b) → Kept (recsY w'.heap.size Y) W W' → X k (fun (b : Nat) => Y b ∨ Array.size (World.heap W) ≤ b ∧ Nat.succ b ≤ Array.size (World.heap W')) W') ∧ (∀ (Y : Nat → Prop) (i : Nat) (W : World), I Y i W → (∀ (b : Nat), Y b → Array.size (World.heap w') + 2 ≤ b) → Array.size (World.heap w') + 2 ≤ Array.size (World.heap W) → ∀ (n n_1 : Int), xss[i]? = some [Value.agg #[vi n, vi n_1]] → ∀ w'_1, w'_1 = W.alloc (.cells #[vi 0, vi 0] 87) → (wr w'_1 W.heap.size 0 ∧ wr w'_1 W.heap.size 1) ∧ ∀ w'_2, w'_2 = st (st w'_1 W.heap.size 0 (vi n)) W.heap.size 1 (vi n_1) → RecKept w'.heap.size W w'_2 ∧ ∀ (w2 : World), Kept (fun (b : Nat) => b = Array.size (World.heap w') + 1) w'_2 w2 → Array.size (World.heap w2) = Array.size (World.heap w'_2) → ∃ (x : OA) (x_1 x_2 : Nat), rd w2 w.heap.size 0 = some (.slice x x_1 x_2) ∧ ∃ (x_3 x_4 : Int), (rd w2 W.heap.size 0 = some (.int .i64 x_3) ∧ rd w2 W.heap.size 1 = some (.int .i64 x_4)) ∧ ∀ w'_3, w'_3 = w2.alloc (.cells #[vi x_3, vi x_4] 87) → ∃ (a : OA) (l c : Nat) (w'_4 : World), appIs Tryz.prog #[62, 62] 62 (slice x x_1 x_2) (slice (some (Addr.mk w2.heap.size 0 none)) 1 1) (slice a l c) w'_3 w'_4 ∧ wr w'_4 w.heap.size 0 ∧ ∀ w'_5, w'_5 = st w'_4 w.heap.size 0 (slice a l c) → RecKept w'.heap.size w2 w'_5 ∧ KeptY (fun (b : Nat) => Y b ∨ R b) W w'_5 ∧ I Y (i + 1) w'_5) ∧ (∀ (Y : Nat → Prop) (W : World), I Y (List.length xss) W → DefAt w'.heap.size W → ∃ (x : OA) (x_1 x_2 : Nat), rd W w.heap.size 0 = some (.slice x x_1 x_2) ∧ DefsAt [Array.size (World.heap w')] W ∧ ∀ (w2 : World), Kept (fun (b : Nat) => List.Mem b [Array.size (World.heap w')]) W w2 → Array.size (World.heap w2) = Array.size (World.heap W) → K (slice x x_1 x_2) w2) ∧ (∀ (Y : Nat → Prop) (W : World), X 0 Y W → DefAt w'.heap.size W → DefsAt [Array.size (World.heap w')] W ∧ ∀ (w2 : World), Kept (fun (b : Nat) => List.Mem b [Array.size (World.heap w')]) W w2 → Array.size (World.heap w2) = Array.size (World.heap W) → K (slice none 0 0) w2) ∧ True
theorem vc121 (s : OA) (sL sC : Nat) (c1_0 : OA) (w : World) (K : KV) (h : vcP121 s sL sC c1_0 w K) : Calls Tryz.prog 121 #[slice s sL sC, Value.func (Fn.func 122) #[] #[pointer c1_0]] w (fun e w' => ∃ v, e = .returned v ∧ K v w') := Eng.vc_of [] 2 [] Tryz.mixes Tryz.func121 (by kernel_rfl) (by kernel_rfl) (by kernel_rfl) h
/- slices.AppendSeq[[]int,int] -/
def vcP172 (s : OA) (sL sC : Nat) (c1_0 : OA) (w : World) (K : KV) : Prop := ∀ w', w' = w.alloc (.cells #[slice s sL sC] 51) → ∃ (xss : List (List Value)), ∃ (R : Nat → Prop), ∃ (I : (Nat → Prop) → Nat → World → Prop), ∃ (X : Nat → (Nat → Prop) → World → Prop), (GivesV Tryz.prog 132 [pointer c1_0] xss R w' ∧ (∀ (xs : List Value), List.Mem xs xss → List.length xs = 1 ∧ ∃ (n : Int), xs = [vi n]) ∧ ∀ (b : Nat), R b → Nat.succ b ≤ Array.size (World.heap w')) ∧ (∀ (w1 : World), Kept none' w' w1 → Array.size (World.heap w1) = Array.size (World.heap w') + 2 → I (fun (x : Nat) => False) 0 w1) ∧ (∀ (Y : Nat → Prop) (i : Nat) (W W' : World), I Y i W → (∀ (b : Nat), Y b → Array.size (World.heap w') + 2 ≤ b) → Kept (recsY w'.heap.size Y) W W' → I (fun (b : Nat) => Y b ∨ Array.size (World.heap W) ≤ b ∧ Nat.succ b ≤ Array.size (World.heap W')) i W') ∧ (∀ (k : Nat) (Y : Nat → Prop) (W W' : World), X k Y W → (∀ (b : Nat), Y b → Array.size (World.heap w') + 2 ≤ b) → Kept (recsY w'.heap.size Y) W W' → X k (fun (b : Nat) => Y b ∨ Array.size (World.heap W) ≤ b ∧ Nat.succ b ≤ Array.size (World.heap W')) W') ∧ (∀ (Y : Nat → Prop) (i : Nat) (W : World), I Y i W → (∀ (b : Nat), Y b → Array.size (World.heap w') + 2 ≤ b) → Array.size (World.heap w') + 2 ≤ Array.size (World.heap W) → ∀ (n : Int), xss[i]? = some [vi n] → RecKept w'.heap.size W W ∧ ∀ (w2 : World), Kept (fun (b : Nat) => b = Array.size (World.heap w') + 1) W w2 → Array.size (World.heap w2) = Array.size (World.heap W) → ∃ (x : OA) (x_1 x_2 : Nat), rd w2 w.heap.size 0 = some (.slice x x_1 x_2) ∧ ∀ w'_1, w'_1 = w2.alloc (.cells #[vi n] 3) → ∃ (a : OA) (l c : Nat) (w'_2 : World), appIs Tryz.prog #[51, 51] 51 (slice x x_1 x_2) (slice (some (Addr.mk w2.heap.size 0 none)) 1 1) (slice a l c) w'_1 w'_2 ∧ wr w'_2 w.heap.size 0 ∧ ∀ w'_3, w'_3 = st w'_2 w.heap.size 0 (slice a l c) → RecKept w'.heap.size w2 w'_3 ∧ KeptY (fun (b : Nat) => Y b ∨ R b) W w'_3 ∧ I Y (i + 1) w'_3) ∧ (∀ (Y : Nat → Prop) (W : World), I Y (List.length xss) W → DefAt w'.heap.size W → ∃ (x : OA) (x_1 x_2 : Nat), rd W w.heap.size 0 = some (.slice x x_1 x_2) ∧ DefsAt [Array.size (World.heap w')] W ∧ ∀ (w2 : World), Kept (fun (b : Nat) => List.Mem b [Array.size (World.heap w')]) W w2 → Array.size (World.heap w2) = Array.size (World.heap W) → K (slice x x_1 x_2) w2) ∧ (∀ (Y : Nat → Prop) (W : World), X 0 Y W → DefAt w'.heap.size W → DefsAt [Array.size (World.heap w')] W ∧ ∀ (w2 : World), Kept (fun (b : Nat) => List.Mem b [Array.size (World.heap w')]) W w2 → Array.size (World.heap w2) = Array.size (World.heap W) → K (slice none 0 0) w2) ∧ True
theorem vc172 (s : OA) (sL sC : Nat) (c1_0 : OA) (w : World) (K : KV) (h : vcP172 s sL sC c1_0 w K) : Calls Tryz.prog 172 #[slice s sL sC, Value.func (Fn.func 132) #[] #[pointer c1_0]] w (fun e w' => ∃ v, e = .returned v ∧ K v w') := Eng.vc_of [] 2 [] Tryz.mixes Tryz.func172 (by kernel_rfl) (by kernel_rfl) (by kernel_rfl) h
/- (*byre/clock.Clock).All$1 -/
def vcP132 (l0 : Nat) (c1_0 : OA) (w : World) (K : KV) : Prop := Wif (isP c1_0) (∃ (x : OA), rd w (pb c1_0) (po c1_0) = some (.pointer x) ∧ gIf (isP x) (Option.isNone x = false) (∃ (x_1 : Option Nat), (Option.isNone x = false → rd w (pb x) (po x + 1) = some (.map x_1)) ∧ Wif (Option.isNone x || Option.isNone x_1) (K (.tuple #[]) w) (Wif (isP c1_0) (∃ (x : OA), rd w (pb c1_0) (po c1_0) = some (.pointer x) ∧ Wif (isP x) (∃ (x_2 : OA) (x_3 x_4 : Nat), rd w (pb x) (po x) = some (.slice x_2 x_3 x_4) ∧ Calls Tryz.prog 69 #[slice x_2 x_3 x_4] w fun e w' => ∃ (a : OA) (l c : Nat), e = .returned (slice a l c) ∧ ∃ (I : Int → World → Nat → Prop), (∃ (n : Nat), I 0 w' n) ∧ ∀ (n : Int) (w' : World) (n_1 : Nat), I n w' n_1 → Wif (decide (n < (↑l : Int))) (Wif (isP a) (Wif (inB n l) (∃ (x : Int), rd w' (pb a) (po a + Int.toNat n * 1) = some (.int .i64 x) ∧ YieldIs Tryz.prog l0 [vi x] w' fun (r : Ending) (w' : World) => ∃ (b : Bool), r = Ending.returned (Value.bool b) ∧ Wif (!b) (K (.tuple #[]) w') (∃ m, Nat.succ m ≤ n_1 ∧ I (IntKind.wrap .i64 (n + 1)) w' m)) False) False) (K (.tuple #[]) w')) False) False))) False
theorem vc132 (l0 : Nat) (c1_0 : OA) (w : World) (K : KV) (h : vcP132 l0 c1_0 w K) : Calls Tryz.prog 132 #[Value.func (Fn.yield l0) #[] #[], pointer c1_0] w (fun e w' => ∃ v, e = .returned v ∧ K v w') := Eng.vc_of [133] 2 [1000017] Tryz.mixes Tryz.func132 (by kernel_rfl) (by kernel_rfl) (by kernel_rfl) h
end Go.Proofs.YtklmokolnakkoaaGreatDoor
