/-
  A part of a proof that a law of this seat returns true at every input. Conditions: those in each theorem.
-/
import Derived.Test.YtkmcmkimeibjdaaZC6
import Derived.Test.YtkmcmkimeibjdaaZV5
import Derived.Test.YtkmcmkimeibjdaaBP2
import Derived.Test.YtkmcmkimeibjdaaZR4
namespace Go.Proofs.Ytkmcmkimeibjdaa
open Go Eng
set_option linter.unusedSimpArgs false
set_option linter.unusedVariables false
set_option maxRecDepth 100000
/-! ### zones that are not there, or were not made -/
def NoZ (w : World) (x : Option Addr) : Prop := x = none ∨ ∃ b, x = some ⟨b, 0, none⟩ ∧ rd w b 94 = some (.slice none 0 0)
theorem NoZ.k {w w' : World} {x : Option Addr} (h : NoZ w x) (k : Kept none' w w') : NoZ w' x := by
  rcases h with rfl | ⟨b, rfl, h⟩
  · exact .inl rfl
  · exact .inr ⟨b, rfl, k.rd_some h id⟩
section
variable {w : World} {x : Option Addr}
theorem NoZ.go (h : NoZ w x) {f : Option Addr → Nat → Nat → Prop} (hf : f none 0 0) : gIf (isP x) ((!Option.isNone x) = true) (∃ (y : Option Addr), ∃ (l : Nat), ∃ (c : Nat), ((!Option.isNone x) = true → rd w (pb x) (po x + 94) = some (.slice y l c)) ∧ f y l c) := by
  refine gIf_intro (fun hc => ?_) ⟨none, 0, 0, fun hc => ?_, hf⟩
  · rcases h with rfl | ⟨b, rfl, h⟩
    · simp at hc
    · rfl
  · rcases h with rfl | ⟨b, rfl, h⟩
    · simp at hc
    · simpa [po, pb] using h
theorem nz_take (h : NoZ w x) (a : Option Addr) (l c : Nat) (f : Int) (hi : Bool) : Calls Try.prog 22 #[.pointer x, .slice a l c, .int .i64 f, .bool hi] w fun r w' => r = .returned (.tuple #[.int .i64 0, .int .i64 1]) ∧ w' = w := by
  refine (vc22 _ _ _ _ _ _ w (fun v w' => v = .tuple #[.int .i64 0, .int .i64 1] ∧ w' = w) ?_).mono ?_
  · exact h.go (Wif_yes (by simp) ⟨rfl, rfl⟩)
  · rintro e w' ⟨v, rfl, rfl, hw⟩
    exact ⟨rfl, hw⟩
theorem nz_takeOf (h : NoZ w x) (n o : Int) (hi : Bool) : Calls Try.prog 26 #[.pointer x, .int .i64 n, .int .i64 o, .bool hi] w fun r w' => r = .returned (.tuple #[.int .i64 0, .int .i64 1]) ∧ w' = w := by
  refine (vc26 _ _ _ _ w (fun v w' => v = .tuple #[.int .i64 0, .int .i64 1] ∧ w' = w) ?_).mono ?_
  · exact h.go (Wif_yes (by simp) ⟨rfl, rfl⟩)
  · rintro e w' ⟨v, rfl, rfl, hw⟩
    exact ⟨rfl, hw⟩
theorem nz_give (h : NoZ w x) (f o : Int) : Calls Try.prog 24 #[.pointer x, .int .i64 f, .int .i64 o] w fun r w' => r = .returned (.int .i64 1) ∧ w' = w := by
  refine (vc24 _ _ _ w (fun v w' => v = .int .i64 1 ∧ w' = w) ?_).mono ?_
  · exact h.go (Wif_yes (by simp) ⟨rfl, rfl⟩)
  · rintro e w' ⟨v, rfl, rfl, hw⟩
    exact ⟨rfl, hw⟩
theorem nz_free (h : NoZ w x) (n : Int) : Calls Try.prog 23 #[.pointer x, .int .i64 n] w fun r w' => r = .returned (.int .i64 0) ∧ w' = w := by
  refine (vc23 _ _ w (fun v w' => v = .int .i64 0 ∧ w' = w) ?_).mono ?_
  · refine h.go (gIf_intro (fun hc => by simp at hc) ⟨none, 0, 0, fun hc => by simp at hc, Wif_yes (by simp) ⟨rfl, rfl⟩⟩)
  · rintro e w' ⟨v, rfl, rfl, hw⟩
    exact ⟨rfl, hw⟩
theorem nz_state (h : NoZ w x) (n : Int) : Calls Try.prog 25 #[.pointer x, .int .i64 n] w fun r w' => r = .returned (.int .i64 0) ∧ w' = w := by
  refine (vc25 _ _ w (fun v w' => v = .int .i64 0 ∧ w' = w) ?_).mono ?_
  · unfold vcP25
    refine (nz_free h n).mono ?_
    rintro _ wq ⟨rfl, hq⟩
    rw [hq]
    refine ⟨_, rfl, h.go (gIf_intro (fun hc => by simp at hc) ⟨none, 0, 0, fun hc => by simp at hc, gIf_intro (fun hc => by simp at hc) ⟨0, fun hc => by simp at hc, Wif_yes (by simp) ⟨rfl, rfl⟩⟩⟩)⟩
  · rintro e w' ⟨v, rfl, rfl, hw⟩
    exact ⟨rfl, hw⟩
theorem nz_copy (h : NoZ w x) : Calls Try.prog 42 #[.pointer x] w fun r w' => r = .returned (.pointer none) ∧ w' = w := by
  refine (vc42 _ w (fun v w' => v = .pointer none ∧ w' = w) ?_).mono ?_
  · exact h.go (Wif_yes (by simp) ⟨rfl, rfl⟩)
  · rintro e w' ⟨v, rfl, rfl, hw⟩
    exact ⟨rfl, hw⟩
theorem nz_gives {c : Nat} (h : NoZ w x) (hc : rd w c 0 = some (.pointer x)) : GivesV Try.prog 64 [.pointer (some ⟨c, 0, none⟩)] [] (fun _ => False) w := by
  refine ⟨fun l J Jx W hk hab _ _ h0 => ?_⟩
  refine (vc64 l (some ⟨c, 0, none⟩) W (fun v w' => ∃ Y, J Y 0 w') ?_).mono ?_
  · unfold vcP64
    simp only [isP_some, Wif_true, pb_some, po_some]
    intro w1 e1
    have k1 : Kept none' W w1 := (Kept.refl _ _).al e1
    refine ⟨x, (hk.tr k1).rd_some hc id, ((h.k hk).k k1).go (Wif_yes (by simp) ⟨⟨List.nodup_nil, fun D hD => by cases hD⟩, fun w2 k2 _ => ?_⟩)⟩
    have k12 : Kept none' w1 w2 := k2.mono fun _ _ hm => by cases hm
    exact ⟨_, hab _ _ _ _ h0 (k1.tr k12).toY⟩
  · rintro e w' ⟨v, rfl, Y, hJ⟩
    exact ⟨⟨v, rfl⟩, .inl ⟨Y, hJ⟩⟩
end
theorem znone_law (x0 x1 x2 x3 : Int) (x4 : Option Addr) (l4 c4 : Nat) (x5 : Bool) (W : World) : Calls Try.prog 12 #[.agg #[.int .i64 x0, .int .i64 x1, .int .i64 x2, .int .i64 x3, .slice x4 l4 c4, .bool x5]] W fun r w' => r = .returned (.bool true) ∧ Kept none' W w' := by
  refine (vc12 x0 x1 x2 x3 x4 l4 c4 x5 W (fun v w' => v = .bool true ∧ Kept none' W w') ?_).mono ?_
  · unfold vcP12
    intro w1 e1 w2 e2
    have o1 := own_alloc (c := [.int .i64 x0, .int .i64 x1, .int .i64 x2, .int .i64 x3, .slice x4 l4 c4, .bool x5]) e1
    have o2 := own_alloc (c := [.bool false]) e2
    have k2 : Kept none' W w2 := ((Kept.refl _ _).al e1).al e2
    have p2 := o1.al e2
    have s1 : w1.heap.size = W.heap.size + 1 := by rw [e1]; simp only [World.alloc, Array.size_push]
    have s2 : w2.heap.size = W.heap.size + 2 := by rw [e2]; simp only [World.alloc, Array.size_push]; omega
    clear e1 e2 o1
    generalize hb1 : W.heap.size = p at *
    generalize hb2 : w1.heap.size = r at *
    have fin : ∀ (w5 : World) (ds : List Nat), Kept none' w2 w5 → DefsAt ds w5 → (∀ D ∈ ds, w2.heap.size ≤ D) → Calls Try.prog 21 #[] w5 fun (e : Ending) (w6 : World) => ∃ (b : Bool), e = Ending.returned (Value.bool b) ∧ wr w6 r 0 ∧
        ∀ (w7 : World), w7 = st w6 r 0 (.bool b) → DefsAt ds w7 ∧ ∀ (w8 : World), Kept (fun (b : Nat) => List.Mem b ds) w7 w8 → w8.heap.size = w7.heap.size → ∃ (x : Bool), rd w8 r 0 = some (Value.bool x) ∧ Value.bool x = .bool true ∧ Kept none' W w8 := by
      intro w5 ds k5 hds hdl
      refine (zknown_spec w5).mono ?_
      rintro _ w6 ⟨rfl, k6⟩
      have K6 := k5.tr k6
      have r6 := o2.k K6
      refine ⟨true, rfl, r6.wr (by simp), ?_⟩
      intro w7 e7
      have r7 := r6.s1 e7
      have k67 : Kept (· = r) w6 w7 := (Kept.refl _ _).s1 e7 (.inl rfl)
      have hr : r < w2.heap.size := o2.lt
      have d7 := (hds.k k6 fun _ _ => id).k k67 fun D hD e => by have := hdl D hD; omega
      refine ⟨d7, fun w8 k8 hs8 => ⟨true, ?_, rfl, ?_⟩⟩
      · rw [(r7.kx k8 fun h => by have := hdl r h; omega).rd]; rfl
      · exact own0 (own0 (k2.tr K6) k67 fun b e => by omega) k8 fun b hb => by have := hdl b hb; omega
    refine ⟨x4, l4, c4, by rw [p2.rd]; rfl, Wif_intro (fun _ => fin w2 [] (Kept.refl _ _) ⟨List.nodup_nil, fun D hD => by cases hD⟩ fun D hD => by cases hD) (fun _ => ?_)⟩
    intro w3 e3 w4 e4
    have o3 := own_alloc (c := List.replicate 94 (Value.int .i64 0) ++ [Value.slice none 0 0]) e3
    have o4 := own_alloc (c := [Value.pointer none, .pointer (some ⟨w2.heap.size, 0, none⟩)]) e4
    have k24 : Kept none' w2 w4 := ((Kept.refl _ _).al e3).al e4
    have k4 := k2.tr k24
    have p4 := p2.k k24
    have z4 := o3.al e4
    have s3 : w3.heap.size = W.heap.size + 3 := by rw [e3]; simp only [World.alloc, Array.size_push]; omega
    have s4 : w4.heap.size = W.heap.size + 4 := by rw [e4]; simp only [World.alloc, Array.size_push]; omega
    clear e3 e4
    generalize hb3 : w2.heap.size = z at *
    generalize hb4 : w3.heap.size = la at *
    refine ⟨fun n ds w' N => ∃ q : Nat, n = q ∧ q ≤ 2 ∧ N = 2 - q ∧ Kept none' w4 w' ∧ DefsAt ds w' ∧ ∀ D ∈ ds, w4.heap.size ≤ D, ⟨2, 0, rfl, by omega, rfl, Kept.refl _ _, ⟨List.nodup_nil, fun D hD => by cases hD⟩, fun D hD => by cases hD⟩, ?_⟩
    rintro _ ds w5 _ ⟨q, rfl, hq, rfl, k5, hds, hdl⟩
    refine Wif_intro (fun hc => ?_) (fun hc => fin w5 ds (k24.tr k5) hds fun D hD => by have := hdl D hD; omega)
    simp only [decide_eq_true_eq] at hc
    have hx : ∃ x, rd w5 la (0 + Int.toNat (q : Int) * 1) = some (.pointer x) ∧ NoZ w5 x := by
      have : q = 0 ∨ q = 1 := by omega
      rcases this with rfl | rfl
      · exact ⟨none, k5.rd_some (by rw [o4.rd]; rfl) id, .inl rfl⟩
      · exact ⟨some ⟨z, 0, none⟩, k5.rd_some (by rw [o4.rd]; rfl) id, .inr ⟨z, rfl, k5.rd_some (by rw [z4.rd]; rfl) id⟩⟩
    obtain ⟨x, hx1, hx2⟩ := hx
    have rp : ∀ {w'}, Kept none' w4 w' → rd w' p 1 = some (.int .i64 x1) ∧ rd w' p 2 = some (.int .i64 x2) ∧ rd w' p 3 = some (.int .i64 x3) ∧ rd w' p 4 = some (.slice x4 l4 c4) ∧ rd w' p 5 = some (.bool x5) := fun k => ⟨k.rd_some (by rw [p4.rd]; rfl) id, k.rd_some (by rw [p4.rd]; rfl) id, k.rd_some (by rw [p4.rd]; rfl) id, k.rd_some (by rw [p4.rd]; rfl) id, k.rd_some (by rw [p4.rd]; rfl) id⟩
    refine Wif_yes (inB_of (by omega) (by omega)) ⟨x, hx1, x4, l4, c4, (rp k5).2.2.2.1, x3, (rp k5).2.2.1, x5, (rp k5).2.2.2.2, (nz_take hx2 x4 l4 c4 x3 x5).mono ?_⟩
    rintro _ wq ⟨rfl, hq5⟩
    rw [hq5]
    refine ⟨_, _, rfl, x1, (rp k5).1, x2, (rp k5).2.1, x5, (rp k5).2.2.2.2, (nz_takeOf hx2 x1 x2 x5).mono ?_⟩
    rintro _ wq2 ⟨rfl, hq6⟩
    rw [hq6]
    clear hq5 hq6 wq wq2
    refine ⟨_, _, rfl, ?_⟩
    intro w7 e7 w8 e8
    have k7 : Kept none' w5 w7 := (Kept.refl _ _).al e7
    have c8 := own_alloc (c := [.pointer x]) e8
    have k8 : Kept none' w5 w8 := k7.al e8
    have hx8 := hx2.k k8
    have sz8 := k8.sz
    generalize hc0 : w7.heap.size = c0 at *
    refine ⟨[], fun _ => False, fun _ _ W' => Kept none' w8 W', fun _ _ _ => False, ⟨nz_gives hx8 (by rw [c8.rd]; rfl), fun xs h => (by cases h), fun b h => h.elim⟩, fun w9 k _ => k, fun Y i W1 W2 k hY k' => own0 k k' fun b hb => (by rcases hb with rfl | rfl | hb; omega; omega; have := hY b hb; omega), fun _ _ _ _ h => h.elim, ?_, ?_, fun _ _ h => h.elim, trivial⟩
    · intro Y i W1 _ _ _ v hv
      simp at hv
    intro Y w9 k9 hd9
    have k59 := k8.tr k9
    have K9 := k5.tr k59
    have hx9 := hx8.k k9
    have hB : w8.heap.size ∉ ds := fun hm => by have := defs_lt hds hm; omega
    have hds9 : DefsAt (w8.heap.size :: ds) w9 := ⟨List.nodup_cons.2 ⟨hB, hds.nd⟩, fun D hD => by
      rcases List.mem_cons.1 hD with rfl | hD
      · exact hd9.at_
      · exact (hds.k k59 fun _ _ => id).all D hD⟩
    refine ⟨x1, fun _ => (rp K9).1, x2, fun _ => (rp K9).2.1, Wif_no rfl ((nz_give hx9 x1 x2).mono ?_)⟩
    rintro _ wq ⟨rfl, hq⟩
    rw [hq]
    refine ⟨_, rfl, x1, fun _ => (rp K9).1, Wif_no rfl ((nz_free hx9 x1).mono ?_)⟩
    rintro _ wq ⟨rfl, hq⟩
    rw [hq]
    refine ⟨_, rfl, x1, fun _ => (rp K9).1, Wif_no rfl ((nz_state hx9 x1).mono ?_)⟩
    rintro _ wq ⟨rfl, hq⟩
    rw [hq]
    refine ⟨_, rfl, Wif_no rfl ((nz_copy hx9).mono ?_)⟩
    rintro _ wq ⟨rfl, hq⟩
    rw [hq]
    exact ⟨_, rfl, Wif_no rfl ⟨2 - (q + 1), by omega, q + 1, by rw [wi (by omega)]; rfl, by omega, rfl, K9, hds9, fun D hD => by
      rcases List.mem_cons.1 hD with rfl | hD
      · have := k5.sz; omega
      · exact hdl D hD⟩⟩
  · rintro e w' ⟨v, rfl, rfl, hw⟩
    exact ⟨rfl, hw⟩
end Go.Proofs.Ytkmcmkimeibjdaa
namespace Go.Proofs.Ytkmcmkimeibjdaa
open Go Eng
set_option linter.unusedSimpArgs false
set_option linter.unusedVariables false
set_option maxRecDepth 100000
/-! ### what zones.Blocks tells -/
section
variable {w w' : World}
theorem own_heap {b : Nat} {cs : List Value} (e : w'.heap = w.heap) (h : own w b cs) : own w' b cs := by
  obtain ⟨t, h⟩ := h
  exact ⟨t, by rw [e]; exact h⟩
theorem map_heap {b : Nat} {es : List (Int × Value)} (e : w'.heap = w.heap) (h : MapIs w b es) : MapIs w' b es := by
  obtain ⟨a, c, h1, h2⟩ := h.ex
  exact ⟨⟨a, c, by rw [e]; exact h1, h2⟩, h.nd, h.rg⟩
theorem bat_heap {b t : Nat} {m : Nat → Nat} {s : Bst} (e : w'.heap = w.heap) (h : BAt w b m t s) : BAt w' b m t s :=
  ⟨own_heap e h.so, fun o ho => map_heap e (h.mf o ho), map_heap e h.mt, h.dm, h.dt, h.db⟩
theorem zat_heap {z : Nat} {S : Zs} {L : Nat → List Bk} (e : w'.heap = w.heap) (h : ZAt w z S L) : ZAt w' z S L := by
  obtain ⟨cs, h1, h2⟩ := h.sg
  exact ⟨own_heap e h.so, ⟨cs, own_heap e h1, h2⟩, fun i hi => bat_heap e (h.bt i hi), h.iv, h.ap, h.zb, h.kc, h.my⟩
theorem zat_ky {z : Nat} {S : Zs} {L : Nat → List Bk} {Y : Nat → Prop} (h : ZAt w z S L) (k : KeptY Y w w') (hy : ∀ x, S.all z x → Y x) : ZAt w' z S L := by
  have k2 : Kept (fun b => ¬ Y b) w { w with heap := w'.heap } := ⟨rfl, rfl, rfl, k.sz, fun b _ hn => k.blk b (Classical.not_not.1 hn)⟩
  exact zat_heap (w := { w with heap := w'.heap }) rfl (h.kx k2 fun x hx ha => hx (hy x ha))
theorem rd_ky {Y : Nat → Prop} {b o : Nat} {v : Value} (h : rd w b o = some v) (k : KeptY Y w w') (hy : Y b) : rd w' b o = some v := by
  rw [rd_def] at h ⊢
  rw [k.blk b hy]
  exact h
theorem defs_ky {Y : Nat → Prop} {ds : List Nat} (h : DefsAt ds w) (k : KeptY Y w w') (hy : ∀ D ∈ ds, Y D) : DefsAt ds w' := ⟨h.nd, fun D hD => (k.blk D (hy D hD)).trans (h.all D hD)⟩
end
structure ZCm (c z : Nat) (S : Zs) (L : Nat → List Bk) (l p0 : Nat) (dl : List Nat) (f : Int) (Y : Nat → Prop) (W : World) : Prop where
  rng : ∀ b, Y b → p0 ≤ b ∧ b < W.heap.size
  oy : own W p0 [.func (.yield l) #[] #[]]
  of : own W (p0 + 1) [.int .i64 f]
  y0 : Y p0
  y1 : Y (p0 + 1)
  rc : rd W c 0 = some (ptr z)
  za : ZAt W z S L
  cl : c < p0
  al : ∀ x, S.all z x → x < p0
  df : DefsAt dl W
  dy : ∀ D ∈ dl, Y D ∧ p0 + 2 ≤ D
def newY (Y : Nat → Prop) (W W' : World) : Nat → Prop := fun b => Y b ∨ (W.heap.size ≤ b ∧ b < W'.heap.size)
section
variable {c z l p0 : Nat} {S : Zs} {L : Nat → List Bk} {dl : List Nat} {f : Int} {Y : Nat → Prop} {W W' : World}
theorem ZCm.kx {X : Nat → Prop} (h : ZCm c z S L l p0 dl f Y W) (k : Kept X W W') (hx : ∀ x, X x → p0 + 2 ≤ x ∧ x ∉ dl) : ZCm c z S L l p0 dl f (newY Y W W') W' := by
  have hs := k.sz
  have h1 := h.of.lt
  refine ⟨fun b hb => ?_, h.oy.kx k fun e => by have := (hx _ e).1; omega, h.of.kx k fun e => by have := (hx _ e).1; omega, .inl h.y0, .inl h.y1, ?_, h.za.kx k fun x e ha => by have := (hx _ e).1; have := h.al x ha; omega, h.cl, h.al, ⟨h.df.nd, fun D hD => (k.blk D (h.rng D (h.dy D hD).1).2 fun e => (hx D e).2 hD).trans (h.df.all D hD)⟩, fun D hD => ⟨.inl (h.dy D hD).1, (h.dy D hD).2⟩⟩
  · rcases hb with hb | hb
    · have := h.rng b hb; omega
    · omega
  · exact k.rd_some h.rc fun e => by have := (hx _ e).1; have := h.cl; omega
theorem ZCm.ky (h : ZCm c z S L l p0 dl f Y W) (k : KeptY (fun b => Y b ∨ (b = c ∨ S.all z b)) W W') : ZCm c z S L l p0 dl f Y W' := by
  have hs := k.sz
  exact ⟨fun b hb => by have := h.rng b hb; omega, KeptY.own k (.inl h.y0) h.oy, KeptY.own k (.inl h.y1) h.of, h.y0, h.y1, rd_ky h.rc k (.inr (.inl rfl)), zat_ky h.za k fun x hx => .inr (.inr hx), h.cl, h.al, defs_ky h.df k fun D hD => .inl (h.dy D hD).1, h.dy⟩
end
def zxs (S : Zs) (L : Nat → List Bk) : List (List Value) := (zsh S.c L S.k).map fun y => [Value.agg #[.int .i64 (y.1 : Int), .int .i64 (y.2 : Int)]]
theorem zsh_pre {c : Nat → Int} {L : Nat → List Bk} : ∀ {k q i : Nat}, q < k → i < (bks (L q)).length → (zsh c L k)[(zsh c L q).length + i]? = ((bks (L q))[i]?).map fun y => ((fstF c q).toNat + y.1, y.2)
  | 0, q, i, hq, _ => absurd hq (Nat.not_lt_zero _)
  | k + 1, q, i, hq, hi => by
    have e0 : zsh c L (k + 1) = zsh c L k ++ (bks (L k)).map fun y => ((fstF c k).toNat + y.1, y.2) := rfl
    rw [e0]
    by_cases e : q = k
    · subst e
      rw [List.getElem?_append_right (by omega)]
      rw [show (zsh c L q).length + i - (zsh c L q).length = i by omega, List.getElem?_map]
    · have ih := zsh_pre (c := c) (L := L) (k := k) (q := q) (i := i) (by omega) hi
      have hlt : (zsh c L q).length + i < (zsh c L k).length := by
        have : (((bks (L q))[i]?).map fun y => ((fstF c q).toNat + y.1, y.2)) ≠ none := by
          rw [List.getElem?_eq_getElem hi]; simp
        rw [← ih] at this
        rcases Nat.lt_or_ge ((zsh c L q).length + i) (zsh c L k).length with h | h
        · exact h
        · exact absurd (List.getElem?_eq_none h) this
      rw [List.getElem?_append_left hlt]
      exact ih
theorem zblocks_gives {w : World} {c z : Nat} {S : Zs} {L : Nat → List Bk} (h : ZAt w z S L) (hc : rd w c 0 = some (ptr z)) (hcl : c < w.heap.size) :
    GivesV Try.prog 64 [.pointer (some ⟨c, 0, none⟩)] (zxs S L) (fun x => x = c ∨ S.all z x) w := by
  refine ⟨fun l J Jx W hk hab habx hY h0 => ?_⟩
  refine (vc64 l (some ⟨c, 0, none⟩) W (fun v w' => (∃ Y, J Y (zxs S L).length w') ∨ ∃ Y, Jx Y w') ?_).mono ?_
  rotate_left
  · rintro e w' ⟨v, rfl, hw⟩
    exact ⟨⟨v, rfl⟩, hw⟩
  have hW := h.k hk
  have hks := hk.sz
  have h8 := h.k8
  unfold vcP64
  intro w1 e1
  have oy1 := own_alloc (c := [.func (.yield l) #[] #[]]) e1
  have k1 : Kept none' W w1 := (Kept.refl _ _).al e1
  have s1 : w1.heap.size = W.heap.size + 1 := by rw [e1]; simp only [World.alloc, Array.size_push]
  have hc1 : rd w1 c 0 = some (ptr z) := (hk.tr k1).rd_some hc id
  have hz1 := hW.k k1
  simp only [isP_some, Wif_true, gIf_true, pb_some, po_some, Nat.zero_add]
  refine ⟨_, hc1, ?_⟩
  simp only [isP_some, Wif_true, gIf_true, pb_some, po_some, Nat.zero_add]
  refine ⟨_, _, _, fun _ => hz1.r94, Wif_no rfl (fun w2 e2 => ?_)⟩
  have of2 := own_alloc (c := [.int .i64 0]) e2
  have k12 : Kept none' w1 w2 := (Kept.refl _ _).al e2
  have s2 : w2.heap.size = W.heap.size + 2 := by rw [e2]; simp only [World.alloc, Array.size_push]; omega
  rw [s1] at of2
  rw [s1]
  refine ⟨of2.wr (by simp), fun w3 e3 => ?_⟩
  have of3 := of2.s1 e3
  have k23 : Kept (· = W.heap.size + 1) w2 w3 := (Kept.refl _ _).s1 e3 (.inl rfl)
  have K3 : Kept none' W w3 := own0 (k1.tr k12) k23 fun x hx => by omega
  have oy3 := (oy1.k k12).kx k23 (by omega)
  have s3 : w3.heap.size = W.heap.size + 2 := by rw [e3]; simp [s2]
  have hz3 := hW.k K3
  have hc3 : rd w3 c 0 = some (ptr z) := (hk.tr K3).rd_some hc id
  have hJ3 := hab _ _ _ _ h0 K3.toY
  have hall : ∀ x, S.all z x → x < W.heap.size := fun x hx => hW.lt hx
  clear e1 e2 e3
  generalize hp0 : W.heap.size = p0 at *
  refine ⟨_, hc3, ?_⟩
  simp only [isP_some, Wif_true, gIf_true, pb_some, po_some, Nat.zero_add]
  refine ⟨_, _, _, hz3.r94, ?_⟩
  refine ⟨fun k ds w' M => ∃ (q : Nat) (Y : Nat → Prop), k = (q : Int) ∧ q ≤ S.k ∧ M = S.k - q ∧ J Y (zsh S.c L q).length w' ∧ ZCm c z S L l p0 ds (fstF S.c q) Y w',
    ⟨S.k, 0, _, rfl, by omega, rfl, hJ3, ⟨fun b hb => ?_, oy3, of3, .inr (by omega), .inr (by omega), hc3, hz3, by omega, hall, ⟨List.nodup_nil, fun D hD => by cases hD⟩, fun D hD => by cases hD⟩⟩, ?_⟩
  · rcases hb with hb | hb
    · exact hb.elim
    · omega
  clear hJ3 oy3 of3 hc3 hz3 K3 of2 oy1 k1 k12 k23 hc1 hz1
  rintro _ ds w4 _ ⟨q, Y4, rfl, hq, rfl, hJ4, C4⟩
  have hlenz : (zxs S L).length = (zsh S.c L S.k).length := by unfold zxs; simp
  simp only [isP_some, Wif_true, gIf_true, pb_some, po_some, Nat.zero_add]
  refine Wif_intro (fun hc4 => ?_) (fun hc4 => ?_)
  rotate_left
  · have : q = S.k := by simp at hc4; omega
    subst this
    refine ⟨C4.df, fun w5 k5 _ => .inl ⟨newY Y4 w4 w5, ?_⟩⟩
    rw [hlenz]
    exact hab _ _ _ _ hJ4 (k5.mono fun b _ hb => (C4.dy b hb).1)
  have hqk : q < S.k := by simp at hc4; omega
  have eB : inB (q : Int) S.k = true := inB_of (by omega) (by omega)
  have hvq := h.iv q hqk
  have hfst := fst_128 h (i := q) (by omega)
  have hfst1 := fst_128 h (i := q + 1) (by omega)
  have hn := n_int h hqk
  have hrg := C4.za.rg hqk
  simp only [eB, Wif_true]
  rw [Nat.zero_add] at hrg
  refine ⟨_, hrg, fun w5 e5 => ?_⟩
  have oc5 := own_alloc (c := [ptr (S.B q)]) e5
  have k45 : Kept none' w4 w5 := (Kept.refl _ _).al e5
  have s5 : w5.heap.size = w4.heap.size + 1 := by rw [e5]; simp only [World.alloc, Array.size_push]
  have C5 := C4.kx k45 fun x hx => hx.elim
  have hJ5 : J (newY Y4 w4 w5) (zsh S.c L q).length w5 := hab _ _ _ _ hJ4 k45.toY
  have hp4 : p0 + 2 ≤ w4.heap.size := by have := C4.of.lt; omega
  clear e5
  generalize hB : w5.heap.size = B at *
  -- the state within node q
  let In : (Nat → Prop) → (Nat → Prop) → World → Prop := fun Y1 Y W' => (∀ b, Y1 b → Y b) ∧ Y B ∧ Y (B + 1) ∧ ZCm c z S L l p0 ds (fstF S.c q) Y W'
  have hdsB : ∀ D ∈ ds, D < B := fun D hD => by have := (C4.rng D (C4.dy D hD).1).2; omega
  have inK : ∀ {Y1 Y : Nat → Prop} {W1 W2 : World}, In Y1 Y W1 → (∀ b, Y1 b → B + 2 ≤ b) → Kept (recsY B Y1) W1 W2 → In (newY Y1 W1 W2) (newY Y W1 W2) W2 ∧ Kept Y W1 W2 := by
    rintro Y1 Y W1 W2 ⟨i1, i2, i3, i4⟩ hy1 k
    refine ⟨⟨fun b hb => ?_, .inl i2, .inl i3, i4.kx k fun x hx => ?_⟩, k.mono fun b _ hb => ?_⟩
    · rcases hb with hb | hb
      · exact .inl (i1 b hb)
      · exact .inr hb
    · rcases hx with rfl | rfl | hx
      · exact ⟨by omega, fun hm => by have := hdsB _ hm; omega⟩
      · exact ⟨by omega, fun hm => by have := hdsB _ hm; omega⟩
      · have := hy1 x hx
        exact ⟨by omega, fun hm => by have := hdsB _ hm; omega⟩
    · rcases hb with rfl | rfl | hb
      · exact i2
      · exact i3
      · exact i1 b hb
  have hbl : (bks (L q)).length = (frB (L q)).length := bks_len _
  refine ⟨(frB (L q)).map fun x => [blkV x], fun _ => False, fun Y1 i W' => i ≤ (frB (L q)).length ∧ ∃ Y, In Y1 Y W' ∧ J Y ((zsh S.c L q).length + i) W', fun k Y1 W' => k = 1 ∧ ∃ Y, In Y1 Y W' ∧ Jx Y W',
    ⟨blocks_gives (sort_says (L q)) (C5.za.bt q hqk) hvq (by rw [oc5.rd]; rfl), fun xs hx => ?_, fun b h => h.elim⟩, fun w6 k56 s6 => ?_, ?_, ?_, ?_, ?_, ?_, ?_⟩
  · obtain ⟨x, _, rfl⟩ := List.mem_map.1 hx
    exact ⟨rfl, _, _, rfl⟩
  · have C6 := C5.kx k56 fun x hx => hx.elim
    have hJ6 : J (newY (newY Y4 w4 w5) w5 w6) (zsh S.c L q).length w6 := hab _ _ _ _ hJ5 k56.toY
    exact ⟨by omega, _, ⟨fun b hb => hb.elim, .inr (by omega), .inr (by omega), C6⟩, by rw [Nat.add_zero]; exact hJ6⟩
  · rintro Y1 i W1 W2 ⟨hi, Y, hin, hJ⟩ hy1 k
    obtain ⟨a1, a2⟩ := inK hin hy1 k
    exact ⟨hi, _, a1, hab _ _ _ _ hJ a2⟩
  · rintro k Y1 W1 W2 ⟨rfl, Y, hin, hJ⟩ hy1 kk
    obtain ⟨a1, a2⟩ := inK hin hy1 kk
    exact ⟨rfl, _, a1, habx _ _ _ hJ a2⟩
  · rintro Y1 i W1 ⟨hi, Y, ⟨i1, i2, i3, i4⟩, hJ⟩ hy1 hsz p o hv w6 e6
    obtain ⟨x, hxx, hpo⟩ : ∃ x, (frB (L q))[i]? = some x ∧ [blkV x] = [Value.agg #[.int .i64 p, .int .i64 o]] := by
      rw [List.getElem?_map] at hv
      cases hh : (frB (L q))[i]? with
      | none => rw [hh] at hv; cases hv
      | some x => rw [hh] at hv; exact ⟨x, rfl, Option.some.inj hv⟩
    simp [blkV] at hpo
    obtain ⟨rfl, rfl⟩ := hpo
    have hil := (List.getElem?_eq_some_iff.1 hxx).1
    have hbi : (bks (L q))[i]? = some (x.p, x.o) := by unfold bks; rw [List.getElem?_map, hxx]; rfl
    have hxp : x.p < S.n q := by
      have hm : x ∈ frB (L q) := List.mem_iff_getElem?.2 ⟨i, hxx⟩
      have := tile_mem hvq.tl (List.mem_filter.1 hm).1
      have := p2 x.o
      omega
    have o6 := own_alloc (c := [.int .i64 0, .int .i64 0]) e6
    have k6 : Kept none' W1 w6 := (Kept.refl _ _).al e6
    have s6 : w6.heap.size = W1.heap.size + 1 := by rw [e6]; simp only [World.alloc, Array.size_push]
    refine ⟨⟨o6.wr (by simp), o6.wr (by simp)⟩, fun w7 e7 => ?_⟩
    have o7 : own w7 W1.heap.size [.int .i64 (x.p : Int), .int .i64 (x.o : Int)] := o6.s2 e7
    have k7 : Kept none' W1 w7 := own0 k6 ((Kept.refl (· = W1.heap.size) _).s2 e7 (.inl rfl)) fun x hx => by omega
    have s7 := k7.sz
    have l7 := o7.lt
    refine ⟨recKept_of k7 (by omega) id id, fun w8 k78 s8 => ?_⟩
    have o8 := o7.kx k78 (by omega)
    have kW8 : Kept (· = B + 1) W1 w8 := (k7.mono fun _ _ h => h.elim).trans k78 fun _ _ h => h
    have C8 := i4.kx kW8 fun y hy => by subst hy; exact ⟨by omega, fun hm => by have := hdsB _ hm; omega⟩
    refine ⟨_, by rw [o8.rd]; rfl, fstF S.c q, by rw [C8.of.rd]; rfl, o8.wr (by simp), fun w9 e9 => ?_⟩
    have exf : IntKind.wrap .i64 ((x.p : Int) + fstF S.c q) = (((fstF S.c q).toNat + x.p : Nat) : Int) := by rw [wi (by omega)]; omega
    rw [exf] at e9
    have o9 := o8.s1 e9
    have k89 : Kept (· = W1.heap.size) w8 w9 := (Kept.refl _ _).s1 e9 (.inl rfl)
    have kW9 : Kept (fun b => b = B + 1 ∨ b = W1.heap.size) W1 w9 := (kW8.mono fun _ _ h => .inl h).trans k89 fun _ _ h => .inr h
    have kY9 : Kept Y W1 w9 := kW9.mono fun b hb hh => by
      rcases hh with rfl | rfl
      · exact i3
      · omega
    have C9 := i4.kx kW9 fun y hy => by rcases hy with rfl | rfl <;> exact ⟨by omega, fun hm => by have := hdsB _ hm; omega⟩
    have hJ9 := hab _ _ _ _ hJ kY9
    have s9 := kW9.sz
    refine ⟨_, by rw [C9.oy.rd]; rfl, _, _, ⟨by rw [o9.rd]; rfl, by rw [o9.rd]; rfl⟩, l, rfl, ?_⟩
    have hxs : (zxs S L)[(zsh S.c L q).length + i]? = some [Value.agg #[.int .i64 (((fstF S.c q).toNat + x.p : Nat) : Int), .int .i64 (x.o : Int)]] := by
      unfold zxs
      rw [List.getElem?_map, zsh_pre hqk (by omega), hbi]
      rfl
    have hy := hY _ _ _ w9 hxs hJ9
    obtain ⟨fn, tm, asg', bo, hrun, hR⟩ := hy.run
    refine ⟨fn, tm, asg', bo, hrun, hR.mono ?_⟩
    rintro en w10 ⟨ky, hres⟩
    have C10 := C9.ky ky
    have hYs : ∀ b, Y b → newY Y W1 w9 b := fun b hb => .inl hb
    have rk : RecKept B w8 w10 := by
      have r1 : RecKept B w8 w9 := recKept_of k89 (by have := kW8.sz; omega) (by omega) (by omega)
      have b0 := ky.blk B (.inl (hYs _ i2))
      have b1 := ky.blk (B + 1) (.inl (hYs _ i3))
      exact ⟨by have := r1.sz; have := ky.sz; omega, b0.trans r1.d, b1.trans r1.l⟩
    have kyW : KeptY (fun b => Y1 b ∨ False) W1 w10 := by
      refine ⟨by have := ky.sz; omega, fun b hb => ?_⟩
      rcases hb with hb | hb
      · have hb2 := hy1 b hb
        have hb3 := (i4.rng b (i1 b hb)).2
        exact (ky.blk b (.inl (hYs _ (i1 b hb)))).trans (kW9.blk b hb3 (by omega))
      · exact hb.elim
    have hin : In Y1 (newY Y W1 w9) w10 := ⟨fun b hb => .inl (i1 b hb), .inl i2, .inl i3, C10⟩
    rcases hres with ⟨rfl, hJ10⟩ | ⟨rfl, hJ10⟩
    · exact ⟨true, rfl, Wif_no rfl ⟨rk, kyW, by omega, _, hin, by rw [← Nat.add_assoc]; exact hJ10⟩⟩
    · exact ⟨false, rfl, Wif_yes rfl ⟨rk, kyW, rfl, _, hin, hJ10⟩⟩
  · rintro Y1 W1 ⟨_, Y, ⟨i1, i2, i3, i4⟩, hJ⟩ hd w6 e6
    have k6 : Kept none' W1 w6 := (Kept.refl _ _).dr e6
    have C6 := i4.kx k6 fun x hx => hx.elim
    have hJ6 := hab _ _ _ _ hJ k6.toY
    have hd6 := hd.k k6 id
    have sB := (Array.getElem?_eq_some_iff.1 hd.at_).1
    refine ⟨_, by rw [C6.of.rd]; rfl, ?_⟩
    refine ⟨_, C6.rc, ?_⟩
    simp only [isP_some, Wif_true, gIf_true, pb_some, po_some, Nat.zero_add]
    refine Wif_yes (inB_of (by omega) (by omega)) ⟨S.c (18 + q), by rw [Int.toNat_natCast, Nat.mul_one]; exact C6.za.r (by omega), C6.of.wr (by simp), fun w7 e7 => ?_⟩
    have ef : IntKind.wrap .i64 (fstF S.c q + S.c (18 + q)) = fstF S.c (q + 1) := by
      have : fstF S.c (q + 1) = fstF S.c q + S.c (18 + q) := rfl
      rw [← this, wi (by omega)]
    rw [ef] at e7
    have k67 : Kept (· = p0 + 1) w6 w7 := (Kept.refl _ _).s1 e7 (.inl rfl)
    have of7 := C6.of.s1 e7
    have s6 := k6.sz
    have s7 : w7.heap.size = w6.heap.size := by rw [e7]; simp
    have hJ7 := hab _ _ _ _ hJ6 (k67.mono fun b _ hb => by subst hb; exact C6.y1)
    have hd7 := hd6.k k67 (by omega)
    have hl : (zsh S.c L q).length + ((frB (L q)).map fun x => [blkV x]).length = (zsh S.c L (q + 1)).length := by
      simp [zsh, hbl]
    rw [hl] at hJ7
    have eY : newY (newY Y W1 w6) w6 w7 = newY Y W1 w6 := by
      funext b
      simp only [newY, eq_iff_iff]
      constructor
      · rintro (hb | hb)
        · exact hb
        · omega
      · exact .inl
    have hJ7' : J (newY Y W1 w6) (zsh S.c L (q + 1)).length w7 := by rw [← eY]; exact hJ7
    refine ⟨S.k - (q + 1), by omega, q + 1, newY Y W1 w6, by rw [wi (by omega)]; rfl, by omega, rfl, hJ7', ⟨fun b hb => by have := C6.rng b hb; omega, C6.oy.kx k67 (by omega), of7, C6.y0, C6.y1, k67.rd_some C6.rc (by have := C6.cl; omega), C6.za.kx k67 fun x hx ha => by have := C6.al x ha; omega, C6.cl, C6.al, ⟨List.nodup_cons.2 ⟨fun hm => by have := hdsB _ hm; omega, C6.df.nd⟩, fun D hD => ?_⟩, fun D hD => ?_⟩⟩
    · rcases List.mem_cons.1 hD with rfl | hD
      · exact hd7.at_
      · exact (k67.blk D (C6.rng D (C6.dy D hD).1).2 (by have := (C6.dy D hD).2; omega)).trans (C6.df.all D hD)
    · rcases List.mem_cons.1 hD with rfl | hD
      · exact ⟨.inl i2, by omega⟩
      · exact C6.dy D hD
  · rintro Y1 W1 ⟨h1, _⟩ _
    cases h1
  · rintro Y1 W1 ⟨_, Y, ⟨i1, i2, i3, i4⟩, hJ⟩ hd
    have hds : DefsAt (B :: ds) W1 := ⟨List.nodup_cons.2 ⟨fun hm => by have := hdsB _ hm; omega, i4.df.nd⟩, fun D hD => by
      rcases List.mem_cons.1 hD with rfl | hD
      · exact hd.at_
      · exact i4.df.all D hD⟩
    refine ⟨hds, fun w6 k6 _ => .inr ⟨_, habx _ _ _ hJ (k6.mono fun b _ hb => ?_)⟩⟩
    have hb' : b ∈ B :: ds := hb
    rcases List.mem_cons.1 hb' with rfl | hb'
    · exact i2
    · exact (i4.dy b hb').1
end Go.Proofs.Ytkmcmkimeibjdaa
