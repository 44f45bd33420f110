/-
  A part of a proof that a law of this seat returns true at every input. Conditions: those in each theorem.
-/
import Derived.Test.YtkmcmkimeibjdaaBQ4
namespace Go.Proofs.Ytkmcmkimeibjdaa
open Go Eng
set_option linter.unusedSimpArgs false
set_option linter.unusedVariables false
set_option maxRecDepth 100000
/-! ### the document's Take -/
theorem RAt.off {w w' : World} {z N D : Nat} {F T : List (Nat × Nat)} (h : RAt w z N F T) (f : Off w z D) (hz : z ≠ D) (k : Kept (· = D) w w') : RAt w' z N F T := by
  obtain ⟨fa, fc, ta, tc, o, r1, r2⟩ := h.one
  exact ⟨fa, _, fc, ta, _, tc, o.kx k hz, rfl, rfl, ownsRow_kx r1 k fun x _ _ hx hh => f 1 (.slice fa F.length fc) (by rw [o.rd]; rfl) (by rw [hx, hh]), ownsRow_kx r2 k fun x _ _ hx hh => f 2 (.slice ta T.length tc) (by rw [o.rd]; rfl) (by rw [hx, hh])⟩
/-- one more behind a row, out of a block that lies there -/
theorem row_add2 {w : World} {base P : Nat} {v : Value} {n : Nat} {d : List (Nat × Nat)} {p o : Nat} (row : w.ownsRow base 58 2 v n (tkC d)) (p1 : own w P [.int .i64 (p : Int), .int .i64 (o : Int)]) (hb : base ≤ w.heap.size) (hn : n ≤ 1000) :
    ∃ a l c w2, appIs Try.prog #[56, 56] 56 v (.slice (some ⟨P, 0, none⟩) 1 1) (.slice a l c) w w2 ∧ l = n + 1 ∧ w2.ownsRow base 58 2 (.slice a l c) (n + 1) (tkC (d ++ [(p, o)])) ∧ Kept (fun b => v.ownBlock = some b) w w2 := by
  obtain ⟨a, l, c, w2, happ, rfl, row2, k2⟩ := app_blk row p1 (m := 1) (off := 0) (c := 1) (news := [Value.int .i64 (p : Int), .int .i64 (o : Int)]) rfl rfl (fun u hu => by simp at hu; rcases hu with rfl | rfl <;> rfl) (by omega) (by omega)
  refine ⟨a, _, c, w2, happ, rfl, ?_, k2⟩
  have : tkC (d ++ [(p, o)]) = tkC d ++ [Value.int .i64 (p : Int), .int .i64 (o : Int)] := by simp [tkC]
  rw [this]; exact row2
theorem take_end {w1 : World} {z D N aa kk : Nat} {F T : List (Nat × Nat)} {K : Value → World → Prop} (h9 : RAt w1 z N F T) (o9 : own w1 D [.int .i64 (aa : Int), .int .i64 (kk : Int)]) (hzD : z ≠ D) (hT : T.length ≤ 800)
    (hK : ∀ w10, Kept (· = z) w1 w10 → RAt w10 z N F (T ++ [(aa, kk)]) → K (.tuple #[.int .i64 (aa : Int), .int .i64 0]) w10) :
    ∃ (x : Option Addr), ∃ (x_11 : Nat), ∃ (x_12 : Nat), rd w1 z 2 = some (Value.slice x x_11 x_12) ∧ ∃ (x_13 : Int), ∃ (x_14 : Int), (rd w1 D 0 = some (Value.int IntKind.i64 x_13) ∧ rd w1 D 1 = some (Value.int IntKind.i64 x_14)) ∧
      (∀ (w6 : World), w6 = World.alloc w1 (Obj.cells #[] 58) → ((rd w6 D 0 = some (Value.int IntKind.i64 x_13) ∧ rd w6 D 1 = some (Value.int IntKind.i64 x_14)) ∧ True) ∧ (rd w6 z 2 = some (Value.slice x x_11 x_12) ∧ True) ∧
        (∃ (a : Option Addr), ∃ (l : Nat), ∃ (c : Nat), ∃ (w7 : World), appIs Try.prog #[56, 56] 56 (Value.slice (some (Addr.mk w1.heap.size 0 none)) 0 0) (Value.slice x x_11 x_12) (Value.slice a l c) w6 w7 ∧
          ((rd w7 D 0 = some (Value.int IntKind.i64 x_13) ∧ rd w7 D 1 = some (Value.int IntKind.i64 x_14)) ∧ True) ∧ ∀ (w8 : World), w8 = World.alloc w7 (Obj.cells #[Value.int IntKind.i64 x_13, Value.int IntKind.i64 x_14] 58) →
            ∃ (a_1 : Option Addr), ∃ (l_1 : Nat), ∃ (c_1 : Nat), ∃ (w9 : World), appIs Try.prog #[56, 56] 56 (Value.slice a l c) (Value.slice (some (Addr.mk w7.heap.size 0 none)) 1 1) (Value.slice a_1 l_1 c_1) w8 w9 ∧
              (wr w9 z 2 ∧ ∀ (w10 : World), w10 = st w9 z 2 (Value.slice a_1 l_1 c_1) → ∃ (x : Int), rd w10 D 0 = some (Value.int IntKind.i64 x) ∧ K (Value.tuple #[Value.int IntKind.i64 x, Value.int IntKind.i64 0]) w10)) ∧
        ∀ (w7 : World), w7 = World.alloc w6 (Obj.cells #[Value.int IntKind.i64 x_13, Value.int IntKind.i64 x_14] 58) → (rd w7 z 2 = some (Value.slice x x_11 x_12) ∧ True) ∧
          ∃ (a : Option Addr), ∃ (l : Nat), ∃ (c : Nat), ∃ (w8 : World), appIs Try.prog #[56, 56] 56 (Value.slice (some (Addr.mk w1.heap.size 0 none)) 0 0) (Value.slice x x_11 x_12) (Value.slice a l c) w7 w8 ∧
            ∃ (a_1 : Option Addr), ∃ (l_1 : Nat), ∃ (c_1 : Nat), ∃ (w9 : World), appIs Try.prog #[56, 56] 56 (Value.slice a l c) (Value.slice (some (Addr.mk w6.heap.size 0 none)) 1 1) (Value.slice a_1 l_1 c_1) w8 w9 ∧
              (wr w9 z 2 ∧ ∀ (w10 : World), w10 = st w9 z 2 (Value.slice a_1 l_1 c_1) → ∃ (x : Int), rd w10 D 0 = some (Value.int IntKind.i64 x) ∧ K (Value.tuple #[Value.int IntKind.i64 x, Value.int IntKind.i64 0]) w10)) ∧
      ∀ (w6 : World), w6 = World.alloc w1 (Obj.cells #[Value.int IntKind.i64 x_13, Value.int IntKind.i64 x_14] 58) → (rd w6 z 2 = some (Value.slice x x_11 x_12) ∧ True) ∧
        ∀ (w7 : World), w7 = World.alloc w6 (Obj.cells #[] 58) → (rd w7 z 2 = some (Value.slice x x_11 x_12) ∧ True) ∧
          ∃ (a : Option Addr), ∃ (l : Nat), ∃ (c : Nat), ∃ (w8 : World), appIs Try.prog #[56, 56] 56 (Value.slice (some (Addr.mk w6.heap.size 0 none)) 0 0) (Value.slice x x_11 x_12) (Value.slice a l c) w7 w8 ∧
            ∃ (a_1 : Option Addr), ∃ (l_1 : Nat), ∃ (c_1 : Nat), ∃ (w9 : World), appIs Try.prog #[56, 56] 56 (Value.slice a l c) (Value.slice (some (Addr.mk w1.heap.size 0 none)) 1 1) (Value.slice a_1 l_1 c_1) w8 w9 ∧
              (wr w9 z 2 ∧ ∀ (w10 : World), w10 = st w9 z 2 (Value.slice a_1 l_1 c_1) → ∃ (x : Int), rd w10 D 0 = some (Value.int IntKind.i64 x) ∧ K (Value.tuple #[Value.int IntKind.i64 x, Value.int IntKind.i64 0]) w10) := by
  have fin : ∀ (u : World) (a : Option Addr) (l c base : Nat), l = T.length + 1 → Kept none' w1 u → u.ownsRow base 58 2 (.slice a l c) (T.length + 1) (tkC (T ++ [(aa, kk)])) →
      (wr u z 2 ∧ ∀ (w10 : World), w10 = st u z 2 (.slice a l c) → ∃ (x : Int), rd w10 D 0 = some (.int .i64 x) ∧ K (.tuple #[.int .i64 x, .int .i64 0]) w10) := by
    intro u a l c base hl hk row
    have hR := h9.k hk
    have hlen' : (T ++ [(aa, kk)]).length = T.length + 1 := by simp
    obtain ⟨_, _, _, _, oz', _, _⟩ := hR.one
    refine ⟨oz'.wr (by simp), fun w10 e10 => ⟨(aa : Int), ?_, ?_⟩⟩
    · rw [((o9.k hk).kx ((Kept.refl (· = z) _).s1 e10 (.inl rfl)) fun e => hzD e.symm).rd]; rfl
    · refine hK w10 ((hk.mono fun _ _ h => h.elim).trans ((Kept.refl (· = z) _).s1 e10 (.inl rfl)) fun _ _ h => h) ?_
      rw [← hlen'] at hl row
      subst hl
      exact hR.setT row e10
  have hz9 : z < w1.heap.size := by obtain ⟨_, _, _, _, oo, _⟩ := h9.one; exact oo.lt
  have hD9 := o9.lt
  obtain ⟨ga, gc, sa, sc, oz9, _, rT9⟩ := h9.one
  refine ⟨sa, T.length, sc, by rw [oz9.rd]; rfl, (aa : Int), (kk : Int), ⟨by rw [o9.rd]; rfl, by rw [o9.rd]; rfl⟩, ?_, ?_⟩
  · intro w10 e10
    have k10 : Kept none' w1 w10 := (Kept.refl _ _).al e10
    have h10 := h9.k k10
    have o10 := o9.k k10
    have oz10 := oz9.k k10
    have hs10 : w10.heap.size = w1.heap.size + 1 := by rw [e10]; simp only [World.alloc, Array.size_push]
    have hX : w10.heap[w1.heap.size]? = some (.cells #[] 58 (0, 0)) := by rw [e10]; simp only [World.alloc]; simp
    have rT10 := ownsRow_kx rT9 k10 fun _ _ _ _ => id
    refine ⟨⟨⟨by rw [o10.rd]; rfl, by rw [o10.rd]; rfl⟩, trivial⟩, ⟨by rw [oz10.rd]; rfl, trivial⟩, ?_, ?_⟩
    · obtain ⟨a, c, w11, happ, row11, k11, s11⟩ := copy_row hX rT10 (by omega)
      have k911 : Kept none' w1 w11 := own0 k10 k11 fun x hx => by omega
      have h11 := h9.k k911
      have o11 := o9.k k911
      refine ⟨a, T.length, c, w11, happ, ⟨⟨by rw [o11.rd]; rfl, by rw [o11.rd]; rfl⟩, trivial⟩, fun w12 e12 => ?_⟩
      obtain ⟨a2, l2, c2, w13, happ2, hl2, row13, k13, s13⟩ := row_add row11 e12 (by omega) (by omega)
      have k913 : Kept none' w1 w13 := own0 k911 k13 fun x hx => by have := (rowTy row11 hx).1; omega
      refine ⟨a2, l2, c2, w13, happ2, ?_⟩
      exact fin w13 a2 l2 c2 _ hl2 k913 row13
    · intro w11 e11
      have k11 : Kept none' w10 w11 := (Kept.refl _ _).al e11
      have o11 := own_alloc (c := [.int .i64 (aa : Int), .int .i64 (kk : Int)]) e11
      have rT11 := ownsRow_kx rT10 k11 fun _ _ _ _ => id
      have hX11 : w11.heap[w1.heap.size]? = some (.cells #[] 58 (0, 0)) := by rw [← hX]; exact (k11.blk _ (by omega) id)
      refine ⟨⟨by rw [(oz10.k k11).rd]; rfl, trivial⟩, ?_⟩
      obtain ⟨a, c, w12, happ, row12, k12, s12⟩ := copy_row hX11 rT11 (by omega)
      have hs11 := k11.sz
      have k912 : Kept none' w1 w12 := own0 (k10.tr k11) k12 fun x hx => by omega
      have o12 := o11.kx k12 (by omega)
      obtain ⟨a2, l2, c2, w13, happ2, hl2, row13, k13⟩ := row_add2 row12 o12 (by omega) (by omega)
      have k913 : Kept none' w1 w13 := own0 k912 k13 fun x hx => by have := (rowTy row12 hx).1; omega
      refine ⟨a, T.length, c, w12, happ, a2, l2, c2, w13, happ2, ?_⟩
      exact fin w13 a2 l2 c2 _ hl2 k913 row13
  · intro w10 e10
    have k10 : Kept none' w1 w10 := (Kept.refl _ _).al e10
    have o10 := own_alloc (c := [.int .i64 (aa : Int), .int .i64 (kk : Int)]) e10
    have oz10 := oz9.k k10
    have hs10 := k10.sz
    refine ⟨⟨by rw [oz10.rd]; rfl, trivial⟩, fun w11 e11 => ?_⟩
    have k11 : Kept none' w10 w11 := (Kept.refl _ _).al e11
    have hX11 : w11.heap[w10.heap.size]? = some (.cells #[] 58 (0, 0)) := by rw [e11]; simp only [World.alloc]; simp
    have hs11 : w11.heap.size = w10.heap.size + 1 := by rw [e11]; simp only [World.alloc, Array.size_push]
    have rT11 := ownsRow_kx (ownsRow_kx rT9 k10 fun _ _ _ _ => id) k11 fun _ _ _ _ => id
    have o11 := o10.k k11
    refine ⟨⟨by rw [(oz10.k k11).rd]; rfl, trivial⟩, ?_⟩
    obtain ⟨a, c, w12, happ, row12, k12, s12⟩ := copy_row hX11 rT11 (by omega)
    have k912 : Kept none' w1 w12 := own0 (k10.tr k11) k12 fun x hx => by omega
    have ol := o10.lt
    have o12 := o11.kx k12 (by omega)
    obtain ⟨a2, l2, c2, w13, happ2, hl2, row13, k13⟩ := row_add2 row12 o12 (by omega) (by omega)
    have k913 : Kept none' w1 w13 := own0 k912 k13 fun x hx => by have := (rowTy row12 hx).1; omega
    refine ⟨a, T.length, c, w12, happ, a2, l2, c2, w13, happ2, ?_⟩
    exact fin w13 a2 l2 c2 _ hl2 k913 row13
section
variable {w : World} {z n N : Nat} {L : List Bk} {T : List (Nat × Nat)}
theorem rtake_spec (h : RAt w z N (bks L) T) (hi : Inv n L) (ht : Tks L T) (hT : T.length ≤ 800) (order : Int) (high : Bool) :
    Calls Try.prog 33 #[ptr z, .int .i64 order, .bool high] w fun r w' => ∃ a e L' T', r = .returned (.tuple #[.int .i64 a, .int .i64 e]) ∧ Kept (· = z) w w' ∧ RAt w' z N (bks L') T' ∧ Inv n L' ∧ Tks L' T' ∧ T'.length ≤ T.length + 1 ∧ TakeR L order high a e L' := by
  refine (vc33 (some ⟨z, 0, none⟩) order high w (fun v w' => ∃ a e L' T', v = .tuple #[.int .i64 a, .int .i64 e] ∧ Kept (· = z) w w' ∧ RAt w' z N (bks L') T' ∧ Inv n L' ∧ Tks L' T' ∧ T'.length ≤ T.length + 1 ∧ TakeR L order high a e L') ?_).mono ?_
  · unfold vcP33
    have hz : z < w.heap.size := by obtain ⟨_, _, _, _, o, _⟩ := h.one; exact o.lt
    have hlen : (bks L).length ≤ 128 := by have := bks_le hi.tl; have := hi.n1; omega
    refine Wif_intro (fun hc => ?_) (fun hc => ?_)
    · simp at hc
      exact ⟨0, 2, L, T, rfl, Kept.refl _ _, h, hi, ht, by omega, .inl ⟨by omega, rfl, rfl, rfl⟩⟩
    simp at hc
    obtain ⟨o, rfl⟩ : ∃ o : Nat, order = (o : Int) := ⟨order.toNat, by omega⟩
    refine ⟨fun nn k w' M => ∃ i : Nat, k = (i : Int) ∧ i ≤ (bks L).length ∧ (bks L).length - i = M ∧ Kept none' w w' ∧ PickI (bks L) o high nn i,
      ⟨(bks L).length, 0, rfl, by omega, rfl, Kept.refl _ _, PickI.zero⟩, ?_⟩
    rintro nn _ w2 _ ⟨i, rfl, hil, rfl, k2, hpk⟩
    simp only [isP_some, Wif_true, gIf_true, pb_some, po_some, Nat.zero_add]
    obtain ⟨fa, fc, ta, tc, oz, rF, rT⟩ := (h.k k2).one
    refine ⟨_, _, _, by rw [oz.rd]; rfl, Wif_intro (fun hc2 => ?_) (fun hc2 => ?_)⟩
    · have hi2 : i < (bks L).length := by simp at hc2; omega
      have ew : IntKind.wrap .i64 ((i : Int) + 1) = ((i + 1 : Nat) : Int) := by rw [wi (by omega)]; rfl
      have eB : ∀ {x y : Prop}, Wif (inB (i : Int) (bks L).length) x y = x := by intro x y; rw [inB_of (by omega) (by omega)]; rfl
      obtain ⟨g, rfl, _, _, _, p1, p2⟩ := row2_rd rF hi2
      obtain ⟨⟨yp, yo⟩, hpo⟩ : ∃ x, (bks L)[i]? = some x := ⟨(bks L)[i], List.getElem?_eq_getElem hi2⟩
      obtain ⟨cc1, cc2⟩ := tkC_get _ i _ hpo
      rw [cc1] at p1
      rw [cc2] at p2
      refine ⟨_, _, _, by rw [oz.rd]; rfl, ?_⟩
      simp only [isP_some, Wif_true, gIf_true, pb_some, po_some, Nat.zero_add, eB, Int.toNat_natCast, ew]
      refine ⟨_, _, ⟨p1, p2⟩, fun w3 e3 => ?_⟩
      have o3 := own_alloc (c := [.int .i64 0, .int .i64 0]) e3
      have k3 : Kept none' w2 w3 := (Kept.refl _ _).al e3
      refine ⟨⟨o3.wr (by simp), o3.wr (by simp)⟩, fun w4 e4 => ?_⟩
      have o4 : own w4 w2.heap.size [.int .i64 (yp : Int), .int .i64 (yo : Int)] := o3.s2 e4
      have k4 : Kept none' w2 w4 := own0 k3 ((Kept.refl (· = w2.heap.size) _).s2 e4 (.inl rfl)) fun x hx => by omega
      have K4 := k2.tr k4
      refine ⟨(yo : Int), by rw [o4.rd]; rfl, Wif_intro (fun hs => ?_) (fun hs => ?_)⟩
      · have hs' : yo < o := by simp at hs; omega
        exact ⟨(bks L).length - (i + 1), by omega, i + 1, rfl, by omega, rfl, K4, hpk.small hpo hs'⟩
      have hs' : o ≤ yo := by simp at hs; omega
      intro w5 e5
      have k45 : Kept none' w4 w5 := (Kept.refl _ _).dr e5
      have K5 := K4.tr k45
      have o5 := o4.k k45
      have oz5 := (oz.k k4).k k45
      have rF5 := ownsRow_kx (ownsRow_kx rF k4 fun _ _ _ _ => id) k45 fun _ _ _ _ => id
      refine ⟨(yo : Int), fun _ => by rw [o5.rd]; rfl, some ⟨g, 0, none⟩, (bks L).length, fc, fun _ => by rw [oz5.rd]; rfl, ?_⟩
      simp only [isP_some, Wif_true, gIf_true, pb_some, po_some, Nat.zero_add]
      rcases hpk.at with rfl | ⟨k, ⟨kp, ko⟩, rfl, hk, hky⟩
      · have e0 : decide ((-1 : Int) < 0) = true := rfl
        simp only [e0]
        have no : ¬ (true = false) := by decide
        have no2 : ∀ q : Bool, ¬ ((true || q) = false ∧ high = true) := fun q hq => by simp at hq
        refine gIf_intro (fun hc => absurd hc no) ⟨0, fun hc => absurd hc no, 0, fun hc => absurd hc (no2 _), none, 0, 0, fun hc => absurd hc (no2 _), gIf_intro (fun hc => absurd hc (no2 _)) (gIf_intro (fun hc => absurd hc (no2 _)) ⟨0, fun hc => absurd hc (no2 _), Wif_yes (by simp) ?_⟩)⟩
        exact ⟨(bks L).length - (i + 1), by omega, i + 1, rfl, by omega, rfl, K5, hpk.new hpo hs' (.inl rfl)⟩
      · obtain ⟨g', hg', _, _, _, q1, q2⟩ := row2_rd rF5 (show k < (bks L).length by omega)
        cases hg'
        obtain ⟨c1, c2⟩ := tkC_get _ k _ hky
        rw [c2] at q2
        have e0 : decide ((k : Int) < 0) = false := by simp
        have eG : ∀ {x y : Prop}, gIf (inB (k : Int) (bks L).length) y x = x := by intro x y; rw [inB_of (by omega) (by omega)]; simp [gIf]
        simp only [e0, eG, Int.toNat_natCast]
        refine ⟨(ko : Int), fun _ => q2, (yo : Int), fun _ => by rw [o5.rd]; rfl, some ⟨g, 0, none⟩, (bks L).length, fc, fun _ => by rw [oz5.rd]; rfl, ?_⟩
        simp only [isP_some, Wif_true, gIf_true, pb_some, po_some, Nat.zero_add, eG]
        refine ⟨(ko : Int), fun _ => q2, Wif_intro (fun hh => ?_) (fun hh => ?_)⟩
        · refine ⟨(bks L).length - (i + 1), by omega, i + 1, rfl, by omega, rfl, K5, hpk.new hpo hs' (.inr ⟨k, _, rfl, hky, ?_⟩)⟩
          simp at hh
          rcases hh with h1 | ⟨h1, h2⟩
          · left; dsimp only; omega
          · right; exact ⟨h1, by dsimp only; omega⟩
        · refine ⟨(bks L).length - (i + 1), by omega, i + 1, rfl, by omega, rfl, K5, hpk.old hpo hs' ⟨k, _, rfl, hky, ?_, ?_⟩⟩
          · simp at hh; dsimp only; omega
          · rintro ⟨h1, h2⟩
            subst h1
            dsimp only at h2
            simp at hh
            omega
    have hil' : i = (bks L).length := by simp at hc2; omega
    subst hil'
    refine Wif_intro (fun hc3 => ?_) (fun hc3 => ?_)
    · refine ⟨0, 6, L, T, rfl, k2.mono fun _ _ h => h.elim, h.k k2, hi, ht, by omega, .inr (.inl ⟨o, rfl, by omega, fun x hx hg => ?_, rfl, rfl, rfl⟩)⟩
      rcases hpk with ⟨_, hall⟩ | ⟨k, y, rfl, _⟩
      · obtain ⟨j, hj⟩ := List.mem_iff_getElem?.1 (mem_bks.2 ⟨x, hx, hg, rfl⟩)
        exact hall j _ (List.getElem?_eq_some_iff.1 hj).1 hj
      · simp at hc3; omega
    have hnn : nn ≠ -1 := fun e => by subst e; simp at hc3
    obtain ⟨k, ⟨_, _⟩, rfl, hkl, _⟩ : ∃ (k : Nat) (y : Nat × Nat), nn = (k : Int) ∧ k < (bks L).length ∧ (bks L)[k]? = some y := hpk.at.resolve_left hnn
    obtain ⟨⟨xp, xo, xg⟩, hx, gx, hkx, hox, hmin, hend⟩ := pick_found hi.tl hpk
    dsimp only at gx hkx hox hmin hend
    subst gx
    obtain ⟨A, B, rfl⟩ := List.append_of_mem hx
    have m0 : Mid n A ⟨xp, xo, 2⟩ B := hi.mid rfl rfl
    obtain ⟨g, rfl, _, _, _, p1, p2⟩ := row2_rd rF hkl
    obtain ⟨cc1, cc2⟩ := tkC_get _ k _ hkx
    rw [cc1] at p1
    rw [cc2] at p2
    have eB : ∀ {x y : Prop}, Wif (inB (k : Int) (bks (A ++ ⟨xp, xo, 0⟩ :: B)).length) x y = x := by intro x y; rw [inB_of (by omega) (by omega)]; rfl
    refine ⟨_, _, _, by rw [oz.rd]; rfl, ?_⟩
    simp only [isP_some, Wif_true, gIf_true, pb_some, po_some, Nat.zero_add, eB, Int.toNat_natCast]
    refine ⟨_, _, ⟨p1, p2⟩, fun w3 e3 => ?_⟩
    have o3 := own_alloc (c := [.int .i64 0, .int .i64 0]) e3
    have k3 : Kept none' w2 w3 := (Kept.refl _ _).al e3
    refine ⟨⟨o3.wr (by simp), o3.wr (by simp)⟩, fun w4 e4 w5 e5 => ?_⟩
    have o4 : own w4 w2.heap.size [.int .i64 (xp : Int), .int .i64 (xo : Int)] := o3.s2 e4
    have k4 : Kept none' w2 w4 := own0 k3 ((Kept.refl (· = w2.heap.size) _).s2 e4 (.inl rfl)) fun x hx => by omega
    have k45 : Kept none' w4 w5 := (Kept.refl _ _).dr e5
    have o5 := o4.k k45
    have K5 := (k2.tr k4).tr k45
    have oz5 := (oz.k k4).k k45
    have rF5 := ownsRow_kx (ownsRow_kx rF k4 fun _ _ _ _ => id) k45 fun _ _ _ _ => id
    refine ⟨_, _, _, by rw [oz5.rd]; rfl, (xp : Int), (xo : Int), ⟨by rw [o5.rd]; rfl, by rw [o5.rd]; rfl⟩, ?_⟩
    refine (drop_spec rF5 (by omega) _ _).mono ?_
    rintro _ w6 ⟨a', l', c', rfl, k6, rfl, row6⟩
    rw [filt_bks hi.tl] at row6 ⊢
    have K6 := K5.tr k6
    have h6 := h.k K6
    have o6 := o5.k k6
    obtain ⟨_, _, _, _, oz6, _, _⟩ := h6.one
    refine ⟨_, _, _, _, rfl, oz6.wr (by simp), fun w7 e7 => ?_⟩
    have h7 := h6.setF row6 e7
    have k67 : Kept (· = z) w6 w7 := (Kept.refl _ _).s1 e7 (.inl rfl)
    have hD : w.heap.size ≤ w2.heap.size := k2.sz
    have o7 := o6.kx k67 (by omega)
    have K7 : Kept (· = z) w w7 := (K6.mono fun _ _ h => h.elim).trans k67 fun _ _ h => h
    have hoff0 : Off w z w2.heap.size := by
      obtain ⟨fa, fc, ta, tc, oz0, r1, r2⟩ := h.one
      intro j v hv e
      rw [oz0.rd] at hv
      have hs := hD
      match j with
      | 0 => simp at hv; subst hv; cases e
      | 1 => simp at hv; subst hv; have := (r1.lt _ e).2; omega
      | 2 => simp at hv; subst hv; have := (r2.lt _ e).2; omega
      | j + 3 => simp at hv
    have off7 : Off w7 z w2.heap.size := (hoff0.k K6 hz id).set oz6 e7 fun hx => by have := (rowTy row6 hx).1; have := o5.lt; omega
    generalize w2.heap.size = D at *
    have hn128 := hi.n1.2
    refine ⟨fun w' M => ∃ (A' B' : List Bk) (kk aa : Nat), kk - o = M ∧ o ≤ kk ∧ kk ≤ xo ∧ Mid n A' ⟨aa, kk, 2⟩ B' ∧ RAt w' z N (bks (A' ++ B')) T ∧ own w' D [.int .i64 (aa : Int), .int .i64 (kk : Int)] ∧ Off w' z D ∧ Kept (· = z) w w' ∧
        (if high then aa + 2 ^ kk = xp + 2 ^ xo else aa = xp) ∧ (∀ y : Bk, y.g = 1 → (y ∈ A' ++ B' ↔ y ∈ A ++ B)) ∧ fsum (A' ++ B') + 2 ^ kk = fsum (A ++ B) + 2 ^ xo,
      ⟨xo - o, A, B, xo, xp, rfl, hox, Nat.le_refl _, m0, h7, o7, off7, K7, by cases high <;> simp, fun y _ => Iff.rfl, rfl⟩, ?_⟩
    rintro w8 _ ⟨A', B', kk, aa, rfl, hok, hkx', m8, h8, o8, f8, K8, hform, hset, hsum⟩
    have hnum := m8.num
    dsimp only at hnum
    have hzD : z ≠ D := by omega
    refine ⟨(kk : Int), by rw [o8.rd]; rfl, Wif_intro (fun hc4 => ?_) (fun hc4 => ?_)⟩
    · obtain ⟨k1, rfl⟩ : ∃ k1, kk = k1 + 1 := ⟨kk - 1, by simp at hc4; omega⟩
      have hok1 : o ≤ k1 := by simp at hc4; omega
      have e2 : 2 ^ (k1 + 1) = 2 ^ k1 + 2 ^ k1 := by rw [Nat.pow_succ]; omega
      have hp := Nat.two_pow_pos k1
      have ew : IntKind.wrap .i64 (((k1 + 1 : Nat) : Int) - 1) = (k1 : Int) := by rw [wi (by omega)]; omega
      refine ⟨((k1 + 1 : Nat) : Int), by rw [o8.rd]; rfl, o8.wr (by simp), fun w9 e9 => ?_⟩
      rw [ew] at e9
      have o9 : own w9 D [.int .i64 (aa : Int), .int .i64 (k1 : Int)] := o8.s1 e9
      have k89 : Kept (· = D) w8 w9 := (Kept.refl _ _).s1 e9 (.inl rfl)
      have h9 := h8.off f8 hzD k89
      have hzs : z < w8.heap.size := by obtain ⟨_, _, _, _, oo, _⟩ := h8.one; exact oo.lt
      have f9 := f8.k k89 hzs hzD
      refine ⟨(aa : Int), by rw [o9.rd]; rfl, (k1 : Int), by rw [o9.rd]; rfl, ?_⟩
      rw [shlU (by omega)]
      have ea : IntKind.wrap .i64 ((aa : Int) + ((2 ^ k1 : Nat) : Int)) = ((aa + 2 ^ k1 : Nat) : Int) := by rw [wi (by omega)]; omega
      rw [ea]
      refine Wif_yes (by rw [wu (by omega)]; simp) ⟨(k1 : Int), by rw [o9.rd]; rfl, fun w10 e10 => ?_⟩
      have o10 := own_alloc (c := [.int .i64 0, .int .i64 0]) e10
      have k10 : Kept none' w9 w10 := (Kept.refl _ _).al e10
      refine ⟨⟨o10.wr (by simp), o10.wr (by simp)⟩, fun w11 e11 => ?_⟩
      have o11 : own w11 w9.heap.size [.int .i64 ((aa + 2 ^ k1 : Nat) : Int), .int .i64 (k1 : Int)] := o10.s2 e11
      have k11 : Kept none' w9 w11 := own0 k10 ((Kept.refl (· = w9.heap.size) _).s2 e11 (.inl rfl)) fun x hx => by omega
      have h11 := h9.k k11
      have hs9 := k89.sz
      have f11 := f9.k k11 (by omega) id
      have p11 := o9.k k11
      have hDlt := o9.lt
      have hs11 := k11.sz
      have hFl : (bks (A' ++ B')).length ≤ 900 := by
        have := m8.tl
        have e : bks (A' ++ ⟨aa, k1 + 1, 2⟩ :: B') = bks (A' ++ B') := bks_any_hold A' B' aa (k1 + 1) 2 (by decide)
        have := bks_le m8.tl
        rw [e] at this
        omega
      refine Wif_intro (fun hh => ?_) (fun hh => ?_)
      · subst hh
        refine ⟨_, _, ⟨by rw [p11.rd]; rfl, by rw [p11.rd]; rfl⟩, (put_spec h11 hFl aa k1).mono ?_⟩
        rintro _ w12 ⟨rfl, k12, h12, foff⟩
        have o12 := o11.kx k12 (by omega)
        have p12 := p11.kx k12 (fun e => hzD e.symm)
        have f12 := foff D (by omega) f11
        refine ⟨rfl, _, _, ⟨by rw [o12.rd]; rfl, by rw [o12.rd]; rfl⟩, ⟨p12.wr (by simp), p12.wr (by simp)⟩, fun w13 e13 => ?_⟩
        have k13 : Kept (· = D) w12 w13 := (Kept.refl (· = D) _).s2 e13 (.inl rfl)
        have mh : Mid n (A' ++ [⟨aa, k1, 0⟩]) ⟨aa + 2 ^ k1, k1, 2⟩ B' := m8.hi
        have tl : Tile 0 (A' ++ ⟨aa, k1, 0⟩ :: (⟨aa + 2 ^ k1, k1, 2⟩ :: B')) n := by
          have := mh.tl
          rwa [List.append_assoc] at this
        have ei : ins (aa, k1) (bks (A' ++ B')) = bks ((A' ++ [⟨aa, k1, 0⟩]) ++ B') := by
          have := ins_bks tl
          rw [bks_any_hold A' B' (aa + 2 ^ k1) k1 2 (by decide)] at this
          rw [this, List.append_assoc, bks_app, bks_app, List.singleton_append, bks_free (x := ⟨aa, k1, 0⟩) rfl, bks_free (x := ⟨aa, k1, 0⟩) rfl, bks_held (x := ⟨aa + 2 ^ k1, k1, 2⟩) (show (2 : Nat) ≠ 0 by decide)]
        rw [ei] at h12
        have h13 := h12.off f12 hzD k13
        have p13 : own w13 D [.int .i64 ((aa + 2 ^ k1 : Nat) : Int), .int .i64 (k1 : Int)] := p12.s2 e13
        have off13 := f12.k k13 (by have := k12.sz; omega) hzD
        have K13 : Kept (· = z) w w13 := (((K8.trans k89 fun x hl hx => by omega).tr k11).trans k12 fun x _ hx => hx).trans k13 fun x hl hx => by omega
        refine ⟨k1 - o, by omega, A' ++ [⟨aa, k1, 0⟩], B', k1, aa + 2 ^ k1, rfl, by omega, by omega, mh, h13, p13, off13, K13, ?_, fun y hy => ?_, ?_⟩
        · simp only [if_true] at hform ⊢; omega
        · rw [← hset y hy]
          simp only [List.mem_append, List.mem_cons, List.not_mem_nil, or_false]
          constructor
          · rintro ((h | rfl) | h)
            · exact .inl h
            · cases hy
            · exact .inr h
          · rintro (h | h)
            · exact .inl (.inl h)
            · exact .inr h
        · rw [← hsum]; simp only [fsum_app, fsum_cons, fsum]; simp; omega
      · have hh' : high = false := by simpa using hh
        subst hh'
        refine ⟨_, _, ⟨by rw [o11.rd]; rfl, by rw [o11.rd]; rfl⟩, (put_spec h11 hFl (aa + 2 ^ k1) k1).mono ?_⟩
        rintro _ w12 ⟨rfl, k12, h12, foff⟩
        have p12 := p11.kx k12 (fun e => hzD e.symm)
        have f12 := foff D (by omega) f11
        have ml : Mid n A' ⟨aa, k1, 2⟩ (⟨aa + 2 ^ k1, k1, 0⟩ :: B') := m8.lo
        have tl : Tile 0 ((A' ++ [⟨aa, k1, 2⟩]) ++ ⟨aa + 2 ^ k1, k1, 0⟩ :: B') n := by
          rw [List.append_assoc]; exact ml.tl
        have ei : ins (aa + 2 ^ k1, k1) (bks (A' ++ B')) = bks (A' ++ ⟨aa + 2 ^ k1, k1, 0⟩ :: B') := by
          have := ins_bks tl
          rw [List.append_assoc, List.append_assoc, List.singleton_append, List.singleton_append, bks_any_hold A' B' aa k1 2 (by decide), bks_any_hold A' (⟨aa + 2 ^ k1, k1, 0⟩ :: B') aa k1 2 (by decide)] at this
          exact this
        rw [ei] at h12
        have K12 : Kept (· = z) w w12 := ((K8.trans k89 fun x hl hx => by omega).tr k11).trans k12 fun x _ hx => hx
        refine ⟨rfl, k1 - o, by omega, A', ⟨aa + 2 ^ k1, k1, 0⟩ :: B', k1, aa, rfl, by omega, by omega, ml, h12, p12, f12, K12, ?_, fun y hy => ?_, ?_⟩
        · simp at hform ⊢; exact hform
        · rw [← hset y hy]
          simp only [List.mem_append, List.mem_cons, List.not_mem_nil, or_false]
          constructor
          · rintro (h | rfl | h)
            · exact .inl h
            · cases hy
            · exact .inr h
          · rintro (h | h)
            · exact .inl h
            · exact .inr (.inr h)
        · rw [← hsum]; simp only [fsum_app, fsum_cons, fsum]; simp; omega
    · have hko : kk = o := by simp at hc4; omega
      subst hko
      intro w9 e9
      have k9 : Kept none' w8 w9 := (Kept.refl _ _).dr e9
      have h9 := h8.k k9
      have o9 := o8.k k9
      have hL' : Inv n (A' ++ ⟨aa, kk, 1⟩ :: B') := m8.take
      have hbk : bks (A' ++ ⟨aa, kk, 1⟩ :: B') = bks (A' ++ B') := bks_any_hold A' B' aa kk 1 (by decide)
      have hnew : (⟨aa, kk, 1⟩ : Bk) ∉ A ++ ⟨xp, xo, 0⟩ :: B := fun hm => by
        have hm' : (⟨aa, kk, 1⟩ : Bk) ∈ A' ++ B' := (hset _ rfl).2 (by
          simp only [List.mem_append, List.mem_cons] at hm ⊢
          rcases hm with h | h | h
          · exact .inl h
          · cases h
          · exact .inr h)
        have := tile_sep m8.tl
        dsimp only at this
        have hp := Nat.two_pow_pos kk
        rcases List.mem_append.1 hm' with h | h
        · have := this.1 _ h; dsimp only at this; omega
        · have := this.2 _ h; dsimp only at this; omega
      have hiff : ∀ y : Bk, y.g = 1 → (y ∈ A' ++ ⟨aa, kk, 1⟩ :: B' ↔ y ∈ A ++ ⟨xp, xo, 0⟩ :: B ∨ y = ⟨aa, kk, 1⟩) := fun y hy => by
        have := hset y hy
        simp only [List.mem_append, List.mem_cons] at this ⊢
        constructor
        · rintro (h | h | h)
          · rcases this.1 (.inl h) with h | h
            · exact .inl (.inl h)
            · exact .inl (.inr (.inr h))
          · exact .inr h
          · rcases this.1 (.inr h) with h | h
            · exact .inl (.inl h)
            · exact .inl (.inr (.inr h))
        · rintro ((h | h | h) | h)
          · rcases this.2 (.inl h) with h | h
            · exact .inl h
            · exact .inr (.inr h)
          · subst h; cases hy
          · rcases this.2 (.inr h) with h | h
            · exact .inl h
            · exact .inr (.inr h)
          · exact .inr (.inl h)
      have hT' := ht.take hnew hiff
      have htake : TakeR (A ++ ⟨xp, xo, 0⟩ :: B) (kk : Int) high (aa : Int) 0 (A' ++ ⟨aa, kk, 1⟩ :: B') := by
        refine .inr (.inr ⟨kk, ⟨xp, xo, 0⟩, aa, rfl, hox, by simp, rfl, hmin, hend, rfl, hform, rfl, hiff, ?_⟩)
        simp only [fsum_app, fsum_cons, fsum] at hsum ⊢
        simp
        omega
      have hbk' := hbk
      refine take_end h9 o9 hzD (by omega) (K := fun v w' => ∃ a e L' T', v = .tuple #[.int .i64 a, .int .i64 e] ∧ Kept (· = z) w w' ∧ RAt w' z N (bks L') T' ∧ Inv n L' ∧ Tks L' T' ∧ T'.length ≤ T.length + 1 ∧ TakeR (A ++ ⟨xp, xo, 0⟩ :: B) (kk : Int) high a e L') fun w10 hK10 h10 => ?_
      refine ⟨_, _, A' ++ ⟨aa, kk, 1⟩ :: B', T ++ [(aa, kk)], rfl, (K8.tr k9).trans hK10 fun _ _ h => h, ?_, hL', hT', by simp, htake⟩
      rw [hbk]
      exact h10
  · rintro e w' ⟨v, rfl, a, e, L', T', rfl, hw⟩
    exact ⟨a, e, L', T', rfl, hw⟩
end
end Go.Proofs.Ytkmcmkimeibjdaa
