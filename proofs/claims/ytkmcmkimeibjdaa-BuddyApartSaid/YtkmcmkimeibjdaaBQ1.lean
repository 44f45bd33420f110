/-
  A part of a proof that a law of this seat returns true at every input. Conditions: those in each theorem.
-/
import Derived.Test.YtkmcmkimeibjdaaBB2
import Derived.Test.YtkmcmkimeibjdaaBV6
namespace Go.Proofs.Ytkmcmkimeibjdaa
open Go Eng
set_option linter.unusedSimpArgs false
set_option linter.unusedVariables false
set_option maxRecDepth 100000
/-! ### the document's node at a world -/
structure RAt (w : World) (z N : Nat) (F T : List (Nat × Nat)) : Prop where
  ex : ∃ fa fl fc ta tl tc, own w z [.int .i64 (N : Int), .slice fa fl fc, .slice ta tl tc] ∧ fl = F.length ∧ tl = T.length ∧ w.ownsRow 0 58 2 (.slice fa fl fc) fl (tkC F) ∧ w.ownsRow 0 58 2 (.slice ta tl tc) tl (tkC T)
theorem row_odd {w : World} {base z n : Nat} {v : Value} {xs cs : List Value} (h : w.ownsRow base 58 2 v n xs) (ho : own w z cs) (hc : cs.length % 2 = 1) : v.ownBlock ≠ some z := fun e => by
  rcases h.2 with ⟨rfl, _⟩ | ⟨g, cap, cur, rfl, hb, hg, _, _, hs, _⟩
  · cases e
  · cases e
    obtain ⟨ty, ho⟩ := ho
    rw [hg] at ho
    have e := Option.some.inj ho
    injection e with e1 e2
    have : cur.size = cs.length := by rw [e1]; simp
    omega
theorem row_map {w : World} {base z n : Nat} {v : Value} {xs : List Value} {es : List (Int × Value)} (h : w.ownsRow base 58 2 v n xs) (ho : MapIs w z es) : v.ownBlock ≠ some z := fun e => by
  obtain ⟨_, cur, hc⟩ := rowTy h e
  obtain ⟨⟨es', clk, hm, _⟩, _, _⟩ := ho
  rw [hc] at hm
  cases hm
theorem RAt.kx {X : Nat → Prop} {w w' : World} {z N : Nat} {F T : List (Nat × Nat)} (h : RAt w z N F T) (k : Kept X w w') (hz : ¬ X z) (hr : ∀ v n xs, w.ownsRow 0 58 2 v n xs → ∀ x, v.ownBlock = some x → ¬ X x) : RAt w' z N F T := by
  obtain ⟨fa, fl, fc, ta, tl, tc, o, e1, e2, r1, r2⟩ := h.ex
  exact ⟨fa, fl, fc, ta, tl, tc, o.kx k hz, e1, e2, ownsRow_kx r1 k fun x _ _ hx => hr _ _ _ r1 x hx, ownsRow_kx r2 k fun x _ _ hx => hr _ _ _ r2 x hx⟩
theorem RAt.k {w w' : World} {z N : Nat} {F T : List (Nat × Nat)} (h : RAt w z N F T) (k : Kept none' w w') : RAt w' z N F T := h.kx k id fun _ _ _ _ _ _ => id
/-! ### drop -/
def hit (x0 x1 : Int) (y : Nat × Nat) : Bool := x0 == (y.1 : Int) && x1 == (y.2 : Int)
theorem row_add {w : World} {base : Nat} {v : Value} {n : Nat} {d : List (Nat × Nat)} {p o : Nat} {w1 : World} (row : w.ownsRow base 58 2 v n (tkC d)) (e : w1 = w.alloc (.cells #[.int .i64 (p : Int), .int .i64 (o : Int)] 58)) (hb : base ≤ w.heap.size) (hn : n ≤ 1000) :
    ∃ a l c w2, appIs Try.prog #[56, 56] 56 v (.slice (some ⟨w.heap.size, 0, none⟩) 1 1) (.slice a l c) w1 w2 ∧ l = n + 1 ∧ w2.ownsRow base 58 2 (.slice a l c) (n + 1) (tkC (d ++ [(p, o)])) ∧ Kept (fun b => v.ownBlock = some b) w w2 ∧ w.heap.size + 1 ≤ w2.heap.size := by
  have k1 : Kept none' w w1 := (Kept.refl _ _).al e
  have p1 := own_alloc (c := [.int .i64 (p : Int), .int .i64 (o : Int)]) e
  have hs : w1.heap.size = w.heap.size + 1 := by rw [e]; simp only [World.alloc, Array.size_push]
  obtain ⟨a, l, c, w2, happ, rfl, row2, k2⟩ := app_blk (ownsRow_kx row k1 fun _ _ _ _ => id) p1 (m := 1) (off := 0) (c := 1) (news := [Value.int .i64 (p : Int), .int .i64 (o : Int)]) rfl rfl (fun u hu => by simp at hu; rcases hu with rfl | rfl <;> rfl) (by omega) (by omega)
  refine ⟨a, _, c, w2, happ, rfl, ?_, (k1.mono fun _ _ h => h.elim).trans k2 fun _ _ h => h, by have := k2.sz; omega⟩
  have : tkC (d ++ [(p, o)]) = tkC d ++ [Value.int .i64 (p : Int), .int .i64 (o : Int)] := by simp [tkC]
  rw [this]; exact row2
theorem filter_snoc {d : List (Nat × Nat)} {i : Nat} {y : Nat × Nat} (f : Nat × Nat → Bool) (h : d[i]? = some y) : (d.take (i + 1)).filter f = (d.take i).filter f ++ if f y then [y] else [] := by
  rw [List.take_add_one, h, List.filter_append]
  congr 1
  show [y].filter f = _
  cases hf : f y <;> simp [hf]
theorem any_snoc {d : List (Nat × Nat)} {i : Nat} {y : Nat × Nat} (f : Nat × Nat → Bool) (h : d[i]? = some y) : (d.take (i + 1)).any f = ((d.take i).any f || f y) := by
  rw [List.take_add_one, h, List.any_append]
  simp
section
variable {w : World}
theorem drop_spec {base l c : Nat} {a : Option Addr} {d : List (Nat × Nat)} (row : w.ownsRow base 58 2 (.slice a l c) l (tkC d)) (hl : l ≤ 900) (x0 x1 : Int) :
    Calls Try.prog 57 #[.slice a l c, .agg #[.int .i64 x0, .int .i64 x1]] w fun r w' => ∃ a' l' c', r = .returned (.tuple #[.slice a' l' c', .bool (d.any (hit x0 x1))]) ∧ Kept none' w w' ∧ l' = (d.filter fun y => !hit x0 x1 y).length ∧ w'.ownsRow (w.heap.size + 1) 58 2 (.slice a' l' c') l' (tkC (d.filter fun y => !hit x0 x1 y)) := by
  refine (vc57 a l c x0 x1 w (fun v w' => ∃ a' l' c', v = .tuple #[.slice a' l' c', .bool (d.any (hit x0 x1))] ∧ Kept none' w w' ∧ l' = (d.filter fun y => !hit x0 x1 y).length ∧ w'.ownsRow (w.heap.size + 1) 58 2 (.slice a' l' c') l' (tkC (d.filter fun y => !hit x0 x1 y))) ?_).mono ?_
  · unfold vcP57
    have hd : d.length = l := by have := row.1; rw [tkC_len] at this; omega
    intro w1 e1
    have o1 := own_alloc (c := [.int .i64 x0, .int .i64 x1]) e1
    have k1 : Kept none' w w1 := (Kept.refl _ _).al e1
    refine ⟨fun a' l' c' f k w' M => ∃ i : Nat, k = (i : Int) ∧ i ≤ l ∧ l - i = M ∧ f = (d.take i).any (hit x0 x1) ∧ Kept none' w w' ∧ own w' w.heap.size [.int .i64 x0, .int .i64 x1] ∧ l' = ((d.take i).filter fun y => !hit x0 x1 y).length ∧ w'.ownsRow (w.heap.size + 1) 58 2 (.slice a' l' c') l' (tkC ((d.take i).filter fun y => !hit x0 x1 y)),
      ⟨l, 0, rfl, by omega, rfl, rfl, k1, o1, rfl, World.ownsRow_nil _ _ _ _⟩, ?_⟩
    rintro a' _ c' _ _ w2 _ ⟨i, rfl, hi, rfl, rfl, k2, o2, rfl, row2⟩
    refine Wif_intro (fun hc => ?_) (fun hc => ?_)
    · have hil : i < l := by simp at hc; omega
      intro w3 e3
      have K3 := k2.dr e3
      have k23 : Kept none' w2 w3 := (Kept.refl _ _).dr e3
      have rowA := ownsRow_kx row K3 fun _ _ _ _ => id
      obtain ⟨g, rfl, _, _, _, p1, p2⟩ := row2_rd rowA hil
      obtain ⟨⟨p, o⟩, hpo⟩ : ∃ x, d[i]? = some x := ⟨d[i]'(by omega), List.getElem?_eq_getElem _⟩
      obtain ⟨cc1, cc2⟩ := tkC_get _ i _ hpo
      rw [cc1] at p1
      rw [cc2] at p2
      have o3 := o2.k k23
      have row3 := ownsRow_kx row2 k23 fun _ _ _ _ => id
      have ew : IntKind.wrap .i64 ((i : Int) + 1) = ((i + 1 : Nat) : Int) := by rw [wi (by omega)]; rfl
      have eB : ∀ {x y : Prop}, Wif (inB (i : Int) l) x y = x := by intro x y; rw [inB_of (by omega) (by omega)]; rfl
      simp only [eB, isP_some, Wif_true, pb_some, po_some, Nat.zero_add, Int.toNat_natCast, ew]
      refine ⟨_, _, ⟨p1, p2⟩, x0, x1, ⟨by rw [o3.rd]; rfl, by rw [o3.rd]; rfl⟩, ?_⟩
      have eh : ((p : Int) == x0 && ((o : Int) == x1 && true)) = hit x0 x1 (p, o) := by
        unfold hit
        rw [Bool.and_true, BEq.comm (a := (p : Int)), BEq.comm (a := (o : Int))]
      rw [eh]
      refine Wif_intro (fun hh => ?_) (fun hh => ?_)
      · refine ⟨l - (i + 1), by omega, i + 1, rfl, by omega, rfl, ?_, K3, o3, ?_, ?_⟩
        · rw [any_snoc _ hpo, hh]; simp
        · rw [filter_snoc _ hpo]; simp [hh]
        · rw [filter_snoc _ hpo]; simp only [hh, Bool.not_true, Bool.false_eq_true, if_false, List.append_nil]; exact row3
      · have hh' : hit x0 x1 (p, o) = false := by simpa using hh
        refine ⟨_, _, ⟨p1, p2⟩, fun w4 e4 => ?_⟩
        have hln : ((d.take i).filter fun y => !hit x0 x1 y).length ≤ 1000 := by
          have := List.length_filter_le (fun y => !hit x0 x1 y) (d.take i)
          rw [List.length_take] at this
          omega
        have hs3 := o3.lt
        obtain ⟨a2, l2, c2, w5, happ, rfl, row5, k5, hs5⟩ := row_add row3 e4 hs3 hln
        have hb3 : ∀ x, (Value.slice a' ((d.take i).filter fun y => !hit x0 x1 y).length c').ownBlock = some x → w.heap.size + 1 ≤ x := fun x hx => (rowTy row3 hx).1
        refine ⟨a2, _, c2, w5, happ, l - (i + 1), by omega, i + 1, rfl, by omega, rfl, ?_, own0 K3 k5 (fun x hx => by have := hb3 x hx; omega), o3.kx k5 (fun hx => by have := hb3 _ hx; omega), ?_, ?_⟩
        · rw [any_snoc _ hpo, hh']; simp
        · rw [filter_snoc _ hpo]; simp [hh']
        · rw [filter_snoc _ hpo]; simp only [hh', Bool.not_false, if_true]
          exact row5
    · have hil : i = l := by simp at hc; omega
      subst hil
      rw [List.take_of_length_le (by omega)] at *
      exact ⟨a', _, c', rfl, k2, rfl, row2⟩
  · rintro e w' ⟨v, rfl, a', l', c', rfl, hw⟩
    exact ⟨a', l', c', rfl, hw⟩
end
end Go.Proofs.Ytkmcmkimeibjdaa
