/-
  A part of a proof that a law of this seat returns true at every input. Conditions: those in each theorem.
-/
import Derived.Test.YtkmcmkimeibjdaaBK2
import Derived.Test.YtkmcmkimeibjdaaBQA
namespace Go.Proofs.Ytkmcmkimeibjdaa
open Go Eng
set_option linter.unusedSimpArgs false
set_option linter.unusedVariables false
set_option maxRecDepth 100000
/-! ### BuddyApart -/
def freeM (l : List Bk) : List ((Int × Int) × Value) := l.map fun x => (((x.p : Int), (x.o : Int)), .int .i64 1)
theorem freeM_look {l : List Bk} {k : Int × Int} : (∃ x ∈ l, ((x.p : Int), (x.o : Int)) = k ∧ (freeM l).lookup k = some (.int .i64 1)) ∨ ((∀ x ∈ l, ((x.p : Int), (x.o : Int)) ≠ k) ∧ (freeM l).lookup k = none) := by
  induction l with
  | nil => exact .inr ⟨fun x hx => (by cases hx), rfl⟩
  | cons x l ih =>
    have e : freeM (x :: l) = (((x.p : Int), (x.o : Int)), Value.int .i64 1) :: freeM l := rfl
    rw [e, List.lookup_cons]
    by_cases h : k = ((x.p : Int), (x.o : Int))
    · subst h
      exact .inl ⟨x, by simp, rfl, by simp⟩
    · rw [show (k == ((x.p : Int), (x.o : Int))) = false by simpa using h]
      rcases ih with ⟨y, hy, e1, e2⟩ | ⟨h1, h2⟩
      · exact .inl ⟨y, List.mem_cons_of_mem _ hy, e1, e2⟩
      · refine .inr ⟨fun y hy => ?_, h2⟩
        rcases List.mem_cons.1 hy with rfl | hy
        · exact fun e => h e.symm
        · exact h1 y hy
/-- a free block's other half is not free -/
theorem no_bud {n : Nat} {L : List Bk} (hi : Inv n L) {x y : Bk} (hx : x ∈ L) (hy : y ∈ L) (gx : x.g = 0) (gy : y.g = 0) (eo : y.o = x.o) (ep : y.p = bud x.p x.o) (ho : x.o < 10) : False := by
  have mx := tile_mem hi.tl hx
  have my := tile_mem hi.tl hy
  have hp := p2 x.o
  unfold bud at ep
  split at ep <;> rename_i hev
  · exact hi.nb x hx y hy gx gy eo.symm ho ep ((half_even mx.2.2.1).1 hev)
  · have hle : 2 ^ x.o ≤ x.p := by
      refine Nat.le_of_not_lt fun hlt => ?_
      rw [Nat.div_eq_of_lt hlt] at hev
      exact hev rfl
    refine hi.nb y hy x hx gy gx eo (by omega) (by rw [eo]; omega) ?_
    have e1 : y.p % 2 ^ x.o = 0 := by rw [← eo]; exact my.2.2.1
    rw [eo]
    refine (half_even e1).1 ?_
    have e2 : x.p / 2 ^ x.o = y.p / 2 ^ x.o + 1 := by
      have : x.p = y.p + 2 ^ x.o := by omega
      rw [this, Nat.add_div_right _ hp]
    omega
structure Mk (B0 : Nat) (ds : List Nat) (w : World) : Prop where
  nd : ds.Nodup
  at_ : ∀ D ∈ ds, DefAt D w ∧ B0 ≤ D
theorem Mk.kx {B0 : Nat} {ds : List Nat} {w w' : World} {X : Nat → Prop} (h : Mk B0 ds w) (k : Kept X w w') (hx : ∀ x, X x → x < B0 ∨ ∀ D ∈ ds, x ≠ D) : Mk B0 ds w' :=
  ⟨h.nd, fun D hD => ⟨(h.at_ D hD).1.k k fun hh => by
    rcases hx D hh with h1 | h1
    · have := (h.at_ D hD).2; omega
    · exact h1 D hD rfl, (h.at_ D hD).2⟩⟩
theorem Mk.k {B0 : Nat} {ds : List Nat} {w w' : World} (h : Mk B0 ds w) (k : Kept none' w w') : Mk B0 ds w' := h.kx k fun _ h => h.elim
theorem Mk.lt {B0 : Nat} {ds : List Nat} {w : World} (h : Mk B0 ds w) : ∀ D ∈ ds, D < w.heap.size := fun D hD => (Array.getElem?_eq_some_iff.1 (h.at_ D hD).1.at_).1
theorem Mk.cons {B0 B : Nat} {ds : List Nat} {w : World} (h : Mk B0 ds w) (hd : DefAt B w) (hB : B0 ≤ B) (hn : B ∉ ds) : Mk B0 (B :: ds) w :=
  ⟨List.nodup_cons.2 ⟨hn, h.nd⟩, fun D hD => by
    rcases List.mem_cons.1 hD with rfl | hD
    · exact ⟨hd, hB⟩
    · exact h.at_ D hD⟩
theorem Mk.defs {B0 : Nat} {ds : List Nat} {w : World} (h : Mk B0 ds w) : DefsAt ds w := ⟨h.nd, fun D hD => (h.at_ D hD).1.at_⟩
structure Cr (W0 : World) (B0 kb N : Nat) (b : Nat) (m : Nat → Nat) (t : Nat) (L : List Bk) (ds : List Nat) (W : World) : Prop where
  k0 : Kept none' W0 W
  on : own W kb [.int .i64 (N : Int)]
  or : own W (kb + 1) [.bool false]
  ba : BAt W b m t (stOf N L)
  mks : Mk B0 ds W
  sz : B0 ≤ W.heap.size
theorem Cr.kx {W0 W W' : World} {B0 kb N b t : Nat} {m : Nat → Nat} {L : List Bk} {ds : List Nat} {X : Nat → Prop} (h : Cr W0 B0 kb N b m t L ds W) (k : Kept X W W') (hk : kb + 2 ≤ B0) (h0 : W0.heap.size ≤ B0) (hb : ∀ x, bblk b m t x → x < B0) (hx : ∀ x, X x → B0 ≤ x ∧ x ∉ ds) : Cr W0 B0 kb N b m t L ds W' :=
  ⟨own0 h.k0 k fun x h => by have := (hx x h).1; omega, h.on.kx k fun h => by have := (hx _ h).1; omega, h.or.kx k fun h => by have := (hx _ h).1; omega,
    h.ba.kx k fun x h1 h2 => by have := (hx x h1).1; have := hb x h2; omega, h.mks.kx k fun x h => .inr fun D hD e => (hx x h).2 (e ▸ hD), by have := h.sz; have := k.sz; omega⟩
theorem apart_law (n : Int) (l : Option Addr) (lL lC : Nat) (W : World) (hp : 0 < lL → isP l = true) (hx : ∀ i, i < lL → ∃ k p o h, BOp W l i k p o h) :
    Calls Try.prog 8 #[.int .i64 n, .slice l lL lC] W fun r w' => r = .returned (.bool true) ∧ Kept none' W w' := by
  refine (vc8 n l lL lC W (fun v w' => v = .bool true ∧ Kept none' W w') ?_).mono ?_
  · unfold vcP8
    intro w1 e1 w2 e2
    have on1 := own_alloc (c := [.int .i64 n]) e1
    have k1 : Kept none' W w1 := (Kept.refl _ _).al e1
    have or2 := own_alloc (c := [.bool false]) e2
    have k12 : Kept none' w1 w2 := (Kept.refl _ _).al e2
    have s1 : w1.heap.size = W.heap.size + 1 := by rw [e1]; simp only [World.alloc, Array.size_push]
    have s2 : w2.heap.size = W.heap.size + 2 := by rw [e2]; simp only [World.alloc, Array.size_push]; omega
    have on2 := on1.k k12
    have K2 := k1.tr k12
    rw [s1] at or2
    rw [s1]
    generalize hkb : W.heap.size = kb at *
    clear e1 e2 on1
    refine ⟨n, by rw [on2.rd]; rfl, (new_spec w2 n).mono ?_⟩
    -- the end of it
    have fin : ∀ (w3 : World) (ds : List Nat), Kept none' W w3 → own w3 (kb + 1) [.bool false] → Mk (kb + 2) ds w3 → Calls Try.prog 14 #[] w3 fun (e : Ending) (w4 : World) => ∃ (b : Bool), e = Ending.returned (Value.bool b) ∧ wr w4 (kb + 1) 0 ∧
        ∀ (w5 : World), w5 = st w4 (kb + 1) 0 (.bool b) → DefsAt ds w5 ∧ ∀ (w6 : World), Kept (fun (b : Nat) => List.Mem b ds) w5 w6 → w6.heap.size = w5.heap.size → ∃ (x : Bool), rd w6 (kb + 1) 0 = some (Value.bool x) ∧ Value.bool x = .bool true ∧ Kept none' W w6 := by
      intro w3 ds k3 o3 m3
      refine (known_spec w3).mono ?_
      rintro _ w4 ⟨rfl, k34⟩
      have o4 := o3.k k34
      refine ⟨_, rfl, o4.wr (by simp), fun w5 e5 => ?_⟩
      have o5 := o4.s1 e5
      have k45 : Kept (· = kb + 1) w4 w5 := (Kept.refl _ _).s1 e5 (.inl rfl)
      have m5 := (m3.k k34).kx k45 fun x h => .inl (by omega)
      refine ⟨m5.defs, fun w6 k6 _ => ⟨true, ?_, rfl, ?_⟩⟩
      · rw [(o5.kx k6 fun h => ?_).rd]
        · rfl
        · have : kb + 1 ∈ ds := h
          have := (m5.at_ _ this).2
          omega
      · refine own0 (own0 (k3.tr k34) k45 fun x h => by omega) k6 fun x h => ?_
        have : x ∈ ds := h
        have := (m5.at_ _ this).2
        omega
    have mk0 : ∀ w, Mk (kb + 2) [] w := fun w => ⟨List.nodup_nil, fun D hD => by cases hD⟩
    rintro _ w3 (⟨hn, rfl, hw⟩ | ⟨N, b, m, t, L, rfl, rfl, k3, h3, i3, g3, fr3⟩)
    · rw [hw]
      exact ⟨_, _, rfl, Wif_yes (by simp) (fin w2 [] K2 or2 (mk0 _))⟩
    have hN := i3.n1
    have K3 := K2.tr k3
    have on3 := on2.k k3
    have or3 := or2.k k3
    refine ⟨_, _, rfl, Wif_intro (fun _ => fin w3 [] K3 or3 (mk0 _)) (fun hc => ?_)⟩
    simp at hc
    have hb3 : ∀ x, bblk b m t x → x < w3.heap.size := fun x hx => h3.lt hx
    have hs3 := k3.sz
    generalize hB0 : w3.heap.size = B0 at *
    have fr : ∀ x, bblk b m t x → kb ≤ x := fun x hx => by have := fr3 x hx; omega
    refine ⟨fun k ds w' M => ∃ (q : Nat) (L : List Bk), k = (q : Int) ∧ q ≤ lL ∧ M = lL - q ∧ Cr W B0 kb N b m t L ds w' ∧ Inv N L, ⟨lL, 0, L, rfl, by omega, rfl, ⟨K3, on3, or3, h3, ⟨List.nodup_nil, fun D hD => by cases hD⟩, by omega⟩, i3⟩, ?_⟩
    clear h3 i3 g3 L
    rintro _ ds w4 _ ⟨q, L, rfl, hq, rfl, c4, i4⟩
    have mk2 : ∀ {w : World} {ds : List Nat}, Mk B0 ds w → Mk (kb + 2) ds w := fun h => ⟨h.nd, fun D hD => ⟨(h.at_ D hD).1, by have := (h.at_ D hD).2; omega⟩⟩
    refine Wif_intro (fun hc2 => ?_) (fun _ => fin w4 ds c4.k0 c4.or (mk2 c4.mks))
    simp only [decide_eq_true_eq] at hc2
    obtain ⟨k, p, o, hh, hop⟩ := hx q (by omega)
    have hop4 := hop.k c4.k0
    have hP := hp (by omega)
    have eP : ∀ {x y : Prop}, Wif (isP l) x y = x := by intro x y; rw [hP]; rfl
    have eB : ∀ {x y : Prop}, Wif (inB (q : Int) lL) x y = x := by intro x y; rw [inB_of (by omega) (by omega)]; rfl
    have ew : IntKind.wrap .i64 ((q : Int) + 1) = ((q + 1 : Nat) : Int) := by rw [wi (by omega)]; rfl
    simp only [eP, eB, Int.toNat_natCast, ew]
    have hkB : kb + 2 ≤ B0 := by omega
    have h0B : W.heap.size ≤ B0 := by omega
    -- a call's own blocks
    have crB : ∀ {w w' : World} {L L' : List Bk}, Cr W B0 kb N b m t L ds w → Kept (bblk b m t) w w' → BAt w' b m t (stOf N L') → Cr W B0 kb N b m t L' ds w' := fun {w w' L L'} c k hb' =>
      have hne : ∀ x, bblk b m t x → x ≠ kb ∧ x ≠ kb + 1 := fun x hx => by have := fr3 x hx; omega
      ⟨own0 c.k0 k fun x hx => by have := fr x hx; omega, c.on.kx k fun h => (hne _ h).1 rfl, c.or.kx k fun h => (hne _ h).2 rfl, hb', c.mks.kx k fun x hx => .inl (hb3 x hx), by have := c.sz; have := k.sz; omega⟩
    refine ⟨k, hop4.r0, fun w' => ∃ L, Cr W B0 kb N b m t L ds w' ∧ Inv N L, ?_, ?_⟩
    · refine Wif_intro (fun _ => ?_) (fun _ => Wif_intro (fun _ => ?_) (fun _ => ⟨L, c4, i4⟩))
      · intro w5 e5
        have k45 : Kept none' w4 w5 := (Kept.refl _ _).dr e5
        have hop5 := hop4.k k45
        have c5 := c4.kx k45 hkB h0B hb3 fun x h => h.elim
        refine ⟨_, hop5.r2, _, hop5.r3, (take_spec c5.ba i4 o hh).mono ?_⟩
        rintro _ w6 ⟨a, e, L', rfl, k6, h6, i6, _⟩
        exact ⟨_, _, rfl, L', crB c5 k6 h6, i6⟩
      · intro w5 e5
        have k45 : Kept none' w4 w5 := (Kept.refl _ _).dr e5
        have hop5 := hop4.k k45
        have c5 := c4.kx k45 hkB h0B hb3 fun x h => h.elim
        refine ⟨_, hop5.r1, _, hop5.r2, (give_spec c5.ba i4 p o).mono ?_⟩
        rintro _ w6 ⟨e, L', rfl, k6, h6, i6, _⟩
        exact ⟨_, rfl, L', crB c5 k6 h6, i6⟩
    clear c4 i4 hop4 L w4
    rintro w4 ⟨L, c4, i4⟩
    have hL128 : L.length ≤ 128 := by have := tile_le i4.tl; omega
    have hs4 : B0 ≤ w4.heap.size := c4.sz
    have hds : ∀ D ∈ ds, D < w4.heap.size := c4.mks.lt
    intro w5 e5 w6 e6
    have oa5 := own_alloc (c := List.replicate 128 (.int .i64 0)) e5
    have k45 : Kept none' w4 w5 := (Kept.refl _ _).al e5
    have of6 := own_alloc (c := [.nilFunc]) e6
    have k56 : Kept none' w5 w6 := (Kept.refl _ _).al e6
    have hs5 : w5.heap.size = w4.heap.size + 1 := by rw [e5]; simp only [World.alloc, Array.size_push]
    have hs6 : w6.heap.size = w4.heap.size + 2 := by rw [e6]; simp only [World.alloc, Array.size_push]; omega
    refine ⟨of6.wr (by simp), fun w7 e7 w8 e8 w9 e9 => ?_⟩
    have of7 := of6.s1 e7
    have k67 : Kept (· = w5.heap.size) w6 w7 := (Kept.refl _ _).s1 e7 (.inl rfl)
    have hs7 : w7.heap.size = w4.heap.size + 2 := by rw [e7]; simp [hs6]
    have m8 := mapG_new (enc := encBk) e8
    have k78 : Kept none' w7 w8 := e8 ▸ (Kept.refl _ _).allocMap _ _
    have hs8 : w8.heap.size = w4.heap.size + 3 := by rw [e8]; simp only [World.alloc, Array.size_push]; omega
    have om9 := own_alloc (c := [.map none]) e9
    have k89 : Kept none' w8 w9 := (Kept.refl _ _).al e9
    have hs9 : w9.heap.size = w4.heap.size + 4 := by rw [e9]; simp only [World.alloc, Array.size_push]; omega
    refine ⟨om9.wr (by simp), fun w10 e10 w11 e11 w12 e12 => ?_⟩
    have om10 := om9.s1 e10
    have k910 : Kept (· = w8.heap.size) w9 w10 := (Kept.refl _ _).s1 e10 (.inl rfl)
    have hs10 : w10.heap.size = w4.heap.size + 4 := by rw [e10]; simp [hs9]
    have k1011 : Kept none' w10 w11 := (Kept.refl _ _).al e11
    have hs11 : w11.heap.size = w4.heap.size + 5 := by rw [e11]; simp only [World.alloc, Array.size_push]; omega
    have oc12 := own_alloc (c := [ptr b]) e12
    have k1112 : Kept none' w11 w12 := (Kept.refl _ _).al e12
    have hs12 : w12.heap.size = w4.heap.size + 6 := by rw [e12]; simp only [World.alloc, Array.size_push]; omega
    have oa12 := ((((((oa5.k k56).kx k67 (by omega)).k k78).k k89).kx k910 (by omega)).k k1011).k k1112
    have of12 := ((((of7.k k78).k k89).kx k910 (by omega)).k k1011).k k1112
    have m12 := (((m8.k k89).kx k910 (by omega)).k k1011).k k1112
    have om12 := (om10.k k1011).k k1112
    have K412 : Kept none' w4 w12 := ((own0 ((own0 (k45.tr k56) k67 fun x h => by omega).tr k78 |>.tr k89) k910 fun x h => by omega).tr k1011).tr k1112
    have c12 := c4.kx K412 hkB h0B hb3 fun x h => h.elim
    rw [hs5, hs8, hs11, hs12]
    rw [hs5] at of12
    rw [hs7] at m12
    rw [hs7, hs8] at om12
    rw [hs11] at oc12
    have hc12 : rd w12 (w4.heap.size + 5) 0 = some (ptr b) := by rw [oc12.rd]; rfl
    clear e5 e6 e7 e8 e9 e10 e11 e12 oa5 of6 of7 m8 om9 om10 oc12 k45 k56 k67 k78 k89 k910 k1011 k1112
    generalize hs : w4.heap.size = s at *
    have oa12' : own w12 s (runI .i64 (fun k => ((cov ((frB L).take 0) k : Nat) : Int)) 0 128) := by
      have : List.replicate 128 (Value.int .i64 0) = runI .i64 (fun k => ((cov ((frB L).take 0) k : Nat) : Int)) 0 128 :=
        runI_of (by simp) fun j hj => by rw [List.getElem?_replicate, if_pos hj]; rfl
      rw [← this]; exact oa12
    let St : Nat → World → Prop := fun i W' => Cr W B0 kb N b m t L ds W' ∧ own W' (s + 1) [.func (.func 29) #[] #[ptr kb, ptr s]] ∧ own W' (s + 3) [.map (some (s + 2))] ∧ MapG encBk W' (s + 2) (freeM ((frB L).take i)) ∧ own W' s (runI .i64 (fun k => ((cov ((frB L).take i) k : Nat) : Int)) 0 128) ∧ s + 6 ≤ W'.heap.size
    have stK : ∀ {i : Nat} {W1 W2 : World} {X : Nat → Prop}, St i W1 → Kept X W1 W2 → (∀ x, X x → s + 4 ≤ x) → St i W2 := by
      rintro i W1 W2 X ⟨a1, a2, a3, a4, a5, a6⟩ k hx
      have hk := k.sz
      exact ⟨a1.kx k hkB h0B hb3 fun x h => ⟨by have := hx x h; omega, fun hd => by have := hx x h; have := hds x hd; omega⟩, a2.kx k fun h => by have := hx _ h; omega, a3.kx k fun h => by have := hx _ h; omega, a4.kx k fun h => by have := hx _ h; omega, a5.kx k fun h => by have := hx _ h; omega, by omega⟩
    refine ⟨(frB L).map fun x => [blkV x], fun _ => False, fun Y i W' => St i W' ∧ ∀ x, Y x → x < W'.heap.size, fun _ _ => False, ⟨blocks_gives (sort_says L) c12.ba i4 hc12, fun xs hx => ?_, fun b h => h.elim⟩, fun w13 k13 _ => ⟨stK ⟨c12, of12, om12, m12, oa12', by omega⟩ k13 fun x h => h.elim, fun x h => h.elim⟩, ?_, fun _ _ _ h => h.elim, ?_, ?_, fun _ h => h.elim, trivial⟩
    · obtain ⟨x, _, rfl⟩ := List.mem_map.1 hx
      exact ⟨rfl, _, _, rfl⟩
    · rintro Y i W1 W2 ⟨g1, g3⟩ k'
      have hsz := k'.sz
      refine ⟨stK g1 k' fun x hx => by rcases hx with rfl | rfl <;> omega, fun x hx => ?_⟩
      rcases hx with hx | hx
      · have := g3 x hx; omega
      · exact hx.2
    · rintro Y i W1 ⟨g1, g3⟩ hY hsz p1 o1 hv w13 e13
      obtain ⟨x, hxx, hpo⟩ : ∃ x, (frB L)[i]? = some x ∧ [blkV x] = [Value.agg #[.int .i64 p1, .int .i64 o1]] := by
        rw [List.getElem?_map] at hv
        cases hh : (frB L)[i]? with
        | none => rw [hh] at hv; cases hv
        | some x => rw [hh] at hv; exact ⟨x, rfl, Option.some.inj hv⟩
      simp [blkV] at hpo
      obtain ⟨rfl, rfl⟩ := hpo
      have hmf : x ∈ frB L := List.mem_iff_getElem?.2 ⟨i, hxx⟩
      have hxL : x ∈ L := (List.mem_filter.1 hmf).1
      have hxg : x.g = 0 := by have := (List.mem_filter.1 hmf).2; simpa using this
      have mx := tile_mem i4.tl hxL
      have hx7 : 2 ^ x.o ≤ 128 := by omega
      have ox13 := own_alloc (c := [.int .i64 0, .int .i64 0]) e13
      have k13 : Kept none' W1 w13 := (Kept.refl _ _).al e13
      have hs13 : w13.heap.size = W1.heap.size + 1 := by rw [e13]; simp only [World.alloc, Array.size_push]
      refine ⟨⟨ox13.wr (by simp), ox13.wr (by simp)⟩, fun w14 e14 => ?_⟩
      have ox14 : own w14 W1.heap.size [.int .i64 (x.p : Int), .int .i64 (x.o : Int)] := ox13.s2 e14
      have k14 : Kept none' W1 w14 := own0 k13 ((Kept.refl (· = W1.heap.size) _).s2 e14 (.inl rfl)) fun x hx => by omega
      have hs14 := k14.sz
      refine ⟨recKept_of k14 (by omega) id id, fun w15 k15 hs15 w16 e16 => ?_⟩
      have k1516 : Kept none' w15 w16 := (Kept.refl _ _).dr e16
      have ox16 := (ox14.kx k15 (by omega)).k k1516
      have kW16 : Kept (· = s + 6 + 1) W1 w16 := ((k14.mono fun _ _ h => h.elim).trans k15 fun _ _ h => h).tr k1516
      obtain ⟨c16, of16, om16, m16, oa16, hz16⟩ := stK g1 kW16 fun x hx => by omega
      have hW16 := kW16.sz
      refine ⟨_, by rw [of16.rd]; rfl, (x.p : Int), (x.o : Int), ⟨by rw [ox16.rd]; rfl, by rw [ox16.rd]; rfl⟩, ?_⟩
      refine CallsV.mk 29 #[] #[ptr kb, ptr s] rfl (by kernel_rfl) ?_
      refine (mark_spec (by omega) c16.on oa16 (by omega) mx.2.2.2 mx.2.2.1 mx.2.1 (f := cov ((frB L).take i)) fun k => ?_).mono ?_
      · have := cov_le ((frB L).take i) k
        have h1 : ((frB L).take i).length ≤ (frB L).length := by rw [List.length_take]; omega
        have h2 := frB_len L
        omega
      rintro _ w17 ⟨rfl, k17, oa17⟩
      have hs17 := k17.sz
      have ox17 := ox16.kx k17 (by omega)
      have om17 := om16.kx k17 (by omega)
      have m17 := m16.kx k17 (by omega)
      have of17 := of16.kx k17 (by omega)
      have c17 := c16.kx k17 hkB h0B hb3 fun x h => ⟨by omega, fun hd => by have := hds x hd; omega⟩
      refine ⟨_, rfl, some (s + 2), fun _ => by rw [om17.rd]; rfl, (x.p : Int), fun _ => by rw [ox17.rd]; rfl, (x.o : Int), fun _ => by rw [ox17.rd]; rfl, gIf_intro (fun _ => by simp) ⟨(x.o : Int), fun _ => by rw [ox17.rd]; rfl, ?_⟩⟩
      rw [shl1 mx.2.2.2, bud_xor mx.2.2.1 (by omega) mx.2.2.2]
      have hlk := lookG1 (mt := 67) (vt := 3) Try.underlying67 keyBk m17 (((bud x.p x.o : Nat) : Int), (x.o : Int)) (zero3 w17)
      obtain ⟨r, hr, hrb⟩ : ∃ r : Int, ((freeM ((frB L).take i)).lookup (((bud x.p x.o : Nat) : Int), (x.o : Int))).getD (.int .i64 0) = .int .i64 r ∧ (r = 1 → 10 ≤ x.o) := by
        rcases freeM_look (l := (frB L).take i) (k := (((bud x.p x.o : Nat) : Int), (x.o : Int))) with ⟨y, hy, hye, he⟩ | ⟨_, he⟩
        · refine ⟨1, by rw [he]; rfl, fun _ => Nat.le_of_not_lt fun hlt => ?_⟩
          have hyF : y ∈ frB L := List.mem_of_mem_take hy
          have hyL := (List.mem_filter.1 hyF).1
          have hyg : y.g = 0 := by have := (List.mem_filter.1 hyF).2; simpa using this
          simp only [Prod.mk.injEq] at hye
          exact no_bud i4 hxL hyL hxg hyg (by omega) (by omega) hlt
        · exact ⟨0, by rw [he]; rfl, fun h => by cases h⟩
      rw [lookup_beq, hr] at hlk
      refine ⟨r, fun _ => hlk, (x.o : Int), fun _ => by rw [ox17.rd]; rfl, Wif_no ?_ ?_⟩
      · by_cases h1 : r = 1
        · have := hrb h1
          simp; omega
        · simp [h1]
      refine ⟨some (s + 2), by rw [om17.rd]; rfl, (x.p : Int), (x.o : Int), ⟨by rw [ox17.rd]; rfl, by rw [ox17.rd]; rfl⟩, ?_⟩
      have hnew : (freeM ((frB L).take i)).lookup ((x.p : Int), (x.o : Int)) = none := by
        rcases freeM_look (l := (frB L).take i) (k := ((x.p : Int), (x.o : Int))) with ⟨y, hy, hye, he⟩ | ⟨_, he⟩
        · exfalso
          obtain ⟨j, hj⟩ := List.mem_iff_getElem?.1 hy
          have hji : j < i := by
            have := (List.getElem?_eq_some_iff.1 hj).1
            rw [List.length_take] at this
            omega
          rw [List.getElem?_take, if_pos hji] at hj
          have hpw : (frB L).Pairwise fun x y => x.p + 2 ^ x.o ≤ y.p := (tile_pw i4.tl).filter _
          have hjl := (List.getElem?_eq_some_iff.1 hj).1
          have hil := (List.getElem?_eq_some_iff.1 hxx).1
          have := List.pairwise_iff_getElem.1 hpw j i hjl hil hji
          rw [(List.getElem?_eq_some_iff.1 hj).2, (List.getElem?_eq_some_iff.1 hxx).2] at this
          simp only [Prod.mk.injEq] at hye
          have := p2 y.o
          omega
        · exact he
      obtain ⟨w18, hu, m18, k18⟩ := updG_new (mt := 67) (vt := 3) Try.underlying67 keyBk m17 ((x.p : Int), (x.o : Int)) (.int .i64 1) ((lookup_beq _ _).trans hnew)
      have hfr : frB L = frB L := rfl
      have hsn := take_snoc hxx
      have em : freeM ((frB L).take i) ++ [(((x.p : Int), (x.o : Int)), Value.int .i64 1)] = freeM ((frB L).take (i + 1)) := by
        rw [hsn]; simp [freeM]
      rw [em] at m18
      have hs18 := k18.sz
      have k1618 : Kept (fun x => x = s ∨ x = s + 2) w16 w18 := (k17.mono fun _ _ h => .inl h).trans k18 fun _ _ h => .inr h
      have k1518 : Kept (fun x => x = s ∨ x = s + 2) w15 w18 := (k1516.mono fun _ _ h => h.elim).trans k1618 fun _ _ h => h
      have kW18 : Kept (fun x => x = s + 6 + 1 ∨ x = s ∨ x = s + 2) W1 w18 := (kW16.mono fun _ _ h => .inl h).trans k1618 fun _ _ h => .inr h
      refine ⟨w18, hu, recKept_of k1518 (by omega) (by omega) (by omega), keptY_of kW18 fun y hy => ?_, ⟨c17.kx k18 hkB h0B hb3 fun x h => ⟨by omega, fun hd => by have := hds x hd; omega⟩, of17.kx k18 (by omega), om17.kx k18 (by omega), m18, ?_, by omega⟩, fun y hy => ?_⟩
      · rcases hy with hy | hy
        · have h1 := hY y hy
          have h2 := g3 y hy
          exact ⟨h2, by omega⟩
        · exact hy.elim
      · have : runI .i64 (fun k => ((cov ((frB L).take (i + 1)) k : Nat) : Int)) 0 128 = runI .i64 (fun k => ((cov ((frB L).take i) k + ind ⟨x.p, x.o, 0⟩ k : Nat) : Int)) 0 128 := runI_ext fun j _ => by
          rw [hsn, cov_app]
          show (((cov ((frB L).take i) (0 + j) + (ind x (0 + j) + 0) : Nat)) : Int) = _
          have : ind x (0 + j) = ind ⟨x.p, x.o, 0⟩ (0 + j) := rfl
          rw [this]
          rfl
        rw [this]
        exact oa17.kx k18 (by omega)
      · have := g3 y hy; omega
    · rintro Y W1 ⟨g1, g3⟩ hd
      have hfl : ((frB L).map fun x => [blkV x]).length = (frB L).length := by simp
      rw [hfl] at g1
      obtain ⟨c13, of13, om13, m13, oa13, hz13⟩ := g1
      rw [List.take_length] at oa13
      clear g3 m12 oa12 oa12' of12 om12 m13
      refine ⟨(N : Int), by rw [c13.on.rd]; rfl, ?_⟩
      have hB : s + 6 < W1.heap.size := (Array.getElem?_eq_some_iff.1 hd.at_).1
      refine ⟨fun k w' M => ∃ q1 : Nat, k = (q1 : Int) ∧ q1 ≤ N ∧ M = N - q1 ∧ Cr W B0 kb N b m t L ds w' ∧ own w' (s + 1) [.func (.func 29) #[] #[ptr kb, ptr s]] ∧ DefAt (s + 6) w' ∧ own w' s (runI .i64 (fun k => ((cov (frB L) k + cov (tkq L q1) k : Nat) : Int)) 0 128),
        ⟨N, 0, rfl, by omega, rfl, c13, of13, hd, ?_⟩, ?_⟩
      · have : runI .i64 (fun k => ((cov (frB L) k + cov (tkq L 0) k : Nat) : Int)) 0 128 = runI .i64 (fun k => ((cov (frB L) k : Nat) : Int)) 0 128 := runI_ext fun j _ => by rw [tkq_zero]; rfl
        rw [this]; exact oa13
      rintro _ w14 _ ⟨q1, rfl, hq1, rfl, c14, of14, d14, oa14⟩
      have ew1 : IntKind.wrap .i64 ((q1 : Int) + 1) = ((q1 + 1 : Nat) : Int) := by rw [wi (by omega)]; rfl
      rw [ew1]
      refine Wif_intro (fun hc3 => ?_) (fun hc3 => ?_)
      · have hlt : q1 < N := by simp at hc3; omega
        refine (taken_spec c14.ba (q1 : Int)).mono ?_
        rintro _ w15 ⟨o1, is, rfl, hw15, htk⟩
        rw [hw15]
        clear hw15 w15
        refine ⟨_, _, rfl, _, fun _ => by rw [of14.rd]; rfl, ?_⟩
        rcases htk with ⟨rfl, hm⟩ | ⟨rfl, rfl, hm⟩
        · obtain ⟨⟨yp, yo, yg⟩, hy, gy, py, oy⟩ := mem_tk.1 hm
          dsimp only at gy py oy
          have : yp = q1 := by omega
          subst gy this oy
          have my := tile_mem i4.tl hy
          dsimp only at my
          refine Wif_yes rfl (CallsV.mk 29 #[] #[ptr kb, ptr s] rfl (by kernel_rfl) ?_)
          refine (mark_spec (by omega) c14.on oa14 (by omega) my.2.2.2 my.2.2.1 my.2.1 (f := fun k => cov (frB L) k + cov (tkq L yp) k) fun k => ?_).mono ?_
          · have h1 := cov_le (frB L) k
            have h2 := frB_len L
            have h3 := cov_le (tkq L yp) k
            have h4 := tkq_len L yp
            omega
          rintro _ w16 ⟨rfl, k16, oa16⟩
          refine ⟨_, rfl, Wif_no rfl ⟨N - (yp + 1), by omega, yp + 1, rfl, by omega, rfl, c14.kx k16 hkB h0B hb3 fun x h => ⟨by omega, fun hd => by have := hds x hd; omega⟩, of14.kx k16 (by omega), d14.k k16 (by omega), ?_⟩⟩
          have : runI .i64 (fun k => ((cov (frB L) k + cov (tkq L (yp + 1)) k : Nat) : Int)) 0 128 = runI .i64 (fun k => ((cov (frB L) k + cov (tkq L yp) k + ind ⟨yp, yo, 0⟩ k : Nat) : Int)) 0 128 := runI_ext fun j _ => by
            rw [tkq_yes i4.tl hy, Nat.add_assoc]
            rfl
          rw [this]; exact oa16
        · refine Wif_no rfl ⟨N - (q1 + 1), by omega, q1 + 1, rfl, by omega, rfl, c14, of14, d14, ?_⟩
          rw [tkq_no fun x hx gx e => hm x.o (mem_tk.2 ⟨x, hx, gx, by omega, rfl⟩)]
          exact oa14
      have : q1 = N := by simp at hc3; omega
      subst this
      refine ⟨(q1 : Int), by rw [c14.on.rd]; rfl, ?_⟩
      refine ⟨fun k w' M => ∃ q2 : Nat, k = (q2 : Int) ∧ q2 ≤ q1 ∧ M = q1 - q2 ∧ w' = w14, ⟨q1, 0, rfl, by omega, rfl, rfl⟩, ?_⟩
      rintro _ w15 _ ⟨q2, rfl, hq2, rfl, hw15⟩
      rw [hw15]
      clear hw15 w15
      have ew2 : IntKind.wrap .i64 ((q2 : Int) + 1) = ((q2 + 1 : Nat) : Int) := by rw [wi (by omega)]; rfl
      rw [ew2]
      refine Wif_intro (fun hc4 => ?_) (fun hc4 => ?_)
      · have hlt : q2 < q1 := by simp at hc4; omega
        refine Wif_yes (inB_of (by omega) (by omega)) ⟨1, ?_, Wif_no rfl ⟨q1 - (q2 + 1), by omega, q2 + 1, rfl, by omega, rfl, rfl⟩⟩
        have hcv : cov (frB L) q2 + cov (tkq L q1) q2 = 1 := by
          rw [tkq_end i4.tl]
          have := cov_split L q2 i4.g01
          rw [cov_tile L 0 q1 q2 i4.tl (by omega) hlt] at this
          exact this
        rw [Int.toNat_natCast, Nat.zero_add, Nat.mul_one, oa14.rI (by omega)]
        rw [hcv]
        rfl
      · refine ⟨lL - (q + 1), by omega, q + 1, L, rfl, by omega, rfl, ⟨c14.k0, c14.on, c14.or, c14.ba, c14.mks.cons d14 (by omega) fun hm => by have := hds _ hm; omega, c14.sz⟩, i4⟩
  · rintro e w' ⟨v, rfl, rfl, hw⟩
    exact ⟨rfl, hw⟩
end Go.Proofs.Ytkmcmkimeibjdaa
