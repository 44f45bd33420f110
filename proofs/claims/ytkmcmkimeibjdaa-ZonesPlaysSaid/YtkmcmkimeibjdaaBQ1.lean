/-
  A part of a proof that a law of this seat returns true at every input. Conditions: those in each theorem.
-/
import Derived.Test.YtkmcmkimeibjdaaBB0
import Derived.Test.YtkmcmkimeibjdaaBV6
namespace Go.Proofs.Ytkmcmkimeibjdaa
open Go Eng
set_option linter.unusedSimpArgs false
set_option linter.unusedVariables false
set_option maxRecDepth 100000
/-! ### the document's node at a world -/
structure RAt (w : World) (z N : Nat) (F T : List (Nat × Nat)) : Prop where
  ex : ∃ fa fl fc ta tl tc, own w z [.int .i64 (N : Int), .slice fa fl fc, .slice ta tl tc] ∧ fl = F.length ∧ tl = T.length ∧ w.ownsRow 0 58 2 (.slice fa fl fc) fl (tkC F) ∧ w.ownsRow 0 58 2 (.slice ta tl tc) tl (tkC T)
theorem row_odd {w : World} {base z n : Nat} {v : Value} {xs cs : List Value} (h : w.ownsRow base 58 2 v n xs) (ho : own w z cs) (hc : cs.length % 2 = 1) : v.ownBlock ≠ some z := fun e => by
  rcases h.2 with ⟨rfl, _⟩ | ⟨g, cap, cur, rfl, hb, hg, _, _, hs, _⟩
  · cases e
  · cases e
    obtain ⟨ty, ho⟩ := ho
    rw [hg] at ho
    have e := Option.some.inj ho
    injection e with e1 e2
    have : cur.size = cs.length := by rw [e1]; simp
    omega
theorem row_map {w : World} {base z n : Nat} {v : Value} {xs : List Value} {es : List (Int × Value)} (h : w.ownsRow base 58 2 v n xs) (ho : MapIs w z es) : v.ownBlock ≠ some z := fun e => by
  obtain ⟨_, cur, hc⟩ := rowTy h e
  obtain ⟨⟨es', clk, hm, _⟩, _, _⟩ := ho
  rw [hc] at hm
  cases hm
theorem RAt.kx {X : Nat → Prop} {w w' : World} {z N : Nat} {F T : List (Nat × Nat)} (h : RAt w z N F T) (k : Kept X w w') (hz : ¬ X z) (hr : ∀ v n xs, w.ownsRow 0 58 2 v n xs → ∀ x, v.ownBlock = some x → ¬ X x) : RAt w' z N F T := by
  obtain ⟨fa, fl, fc, ta, tl, tc, o, e1, e2, r1, r2⟩ := h.ex
  exact ⟨fa, fl, fc, ta, tl, tc, o.kx k hz, e1, e2, ownsRow_kx r1 k fun x _ _ hx => hr _ _ _ r1 x hx, ownsRow_kx r2 k fun x _ _ hx => hr _ _ _ r2 x hx⟩
theorem RAt.k {w w' : World} {z N : Nat} {F T : List (Nat × Nat)} (h : RAt w z N F T) (k : Kept none' w w') : RAt w' z N F T := h.kx k id fun _ _ _ _ _ _ => id
/-! ### drop -/
def hit (x0 x1 : Int) (y : Nat × Nat) : Bool := x0 == (y.1 : Int) && x1 == (y.2 : Int)
theorem row_add {w : World} {base : Nat} {v : Value} {n : Nat} {d : List (Nat × Nat)} {p o : Nat} {w1 : World} (row : w.ownsRow base 58 2 v n (tkC d)) (e : w1 = w.alloc (.cells #[.int .i64 (p : Int), .int .i64 (o : Int)] 58)) (hb : base ≤ w.heap.size) (hn : n ≤ 1000) :
    ∃ a l c w2, appIs Try.prog #[56, 56] 56 v (.slice (some ⟨w.heap.size, 0, none⟩) 1 1) (.slice a l c) w1 w2 ∧ l = n + 1 ∧ w2.ownsRow base 58 2 (.slice a l c) (n + 1) (tkC (d ++ [(p, o)])) ∧ Kept (fun b => v.ownBlock = some b) w w2 ∧ w.heap.size + 1 ≤ w2.heap.size := by
  have k1 : Kept none' w w1 := (Kept.refl _ _).al e
  have p1 := own_alloc (c := [.int .i64 (p : Int), .int .i64 (o : Int)]) e
  have hs : w1.heap.size = w.heap.size + 1 := by rw [e]; simp only [World.alloc, Array.size_push]
  obtain ⟨a, l, c, w2, happ, rfl, row2, k2⟩ := app_blk (ownsRow_kx row k1 fun _ _ _ _ => id) p1 (m := 1) (off := 0) (c := 1) (news := [Value.int .i64 (p : Int), .int .i64 (o : Int)]) rfl rfl (fun u hu => by simp at hu; rcases hu with rfl | rfl <;> rfl) (by omega) (by omega)
  refine ⟨a, _, c, w2, happ, rfl, ?_, (k1.mono fun _ _ h => h.elim).trans k2 fun _ _ h => h, by have := k2.sz; omega⟩
  have : tkC (d ++ [(p, o)]) = tkC d ++ [Value.int .i64 (p : Int), .int .i64 (o : Int)] := by simp [tkC]
  rw [this]; exact row2
theorem filter_snoc {d : List (Nat × Nat)} {i : Nat} {y : Nat × Nat} (f : Nat × Nat → Bool) (h : d[i]? = some y) : (d.take (i + 1)).filter f = (d.take i).filter f ++ if f y then [y] else [] := by
  rw [List.take_add_one, h, List.filter_append]
  congr 1
  show [y].filter f = _
  cases hf : f y <;> simp [hf]
theorem any_snoc {d : List (Nat × Nat)} {i : Nat} {y : Nat × Nat} (f : Nat × Nat → Bool) (h : d[i]? = some y) : (d.take (i + 1)).any f = ((d.take i).any f || f y) := by
  rw [List.take_add_one, h, List.any_append]
  simp
section
variable {w : World}
theorem drop_spec {base l c : Nat} {a : Option Addr} {d : List (Nat × Nat)} (row : w.ownsRow base 58 2 (.slice a l c) l (tkC d)) (hl : l ≤ 900) (x0 x1 : Int) :
    Calls Try.prog 57 #[.slice a l c, .agg #[.int .i64 x0, .int .i64 x1]] w fun r w' => ∃ a' l' c', r = .returned (.tuple #[.slice a' l' c', .bool (d.any (hit x0 x1))]) ∧ Kept none' w w' ∧ l' = (d.filter fun y => !hit x0 x1 y).length ∧ w'.ownsRow (w.heap.size + 1) 58 2 (.slice a' l' c') l' (tkC (d.filter fun y => !hit x0 x1 y)) := by
  refine (vc57 a l c x0 x1 w (fun v w' => ∃ a' l' c', v = .tuple #[.slice a' l' c', .bool (d.any (hit x0 x1))] ∧ Kept none' w w' ∧ l' = (d.filter fun y => !hit x0 x1 y).length ∧ w'.ownsRow (w.heap.size + 1) 58 2 (.slice a' l' c') l' (tkC (d.filter fun y => !hit x0 x1 y))) ?_).mono ?_
  · unfold vcP57
    have hd : d.length = l := by have := row.1; rw [tkC_len] at this; omega
    intro w1 e1
    have o1 := own_alloc (c := [.int .i64 x0, .int .i64 x1]) e1
    have k1 : Kept none' w w1 := (Kept.refl _ _).al e1
    refine ⟨fun a' l' c' f k w' M => ∃ i : Nat, k = (i : Int) ∧ i ≤ l ∧ l - i = M ∧ f = (d.take i).any (hit x0 x1) ∧ Kept none' w w' ∧ own w' w.heap.size [.int .i64 x0, .int .i64 x1] ∧ l' = ((d.take i).filter fun y => !hit x0 x1 y).length ∧ w'.ownsRow (w.heap.size + 1) 58 2 (.slice a' l' c') l' (tkC ((d.take i).filter fun y => !hit x0 x1 y)),
      ⟨l, 0, rfl, by omega, rfl, rfl, k1, o1, rfl, World.ownsRow_nil _ _ _ _⟩, ?_⟩
    rintro a' _ c' _ _ w2 _ ⟨i, rfl, hi, rfl, rfl, k2, o2, rfl, row2⟩
    refine Wif_intro (fun hc => ?_) (fun hc => ?_)
    · have hil : i < l := by simp at hc; omega
      intro w3 e3
      have K3 := k2.dr e3
      have k23 : Kept none' w2 w3 := (Kept.refl _ _).dr e3
      have rowA := ownsRow_kx row K3 fun _ _ _ _ => id
      obtain ⟨g, rfl, _, _, _, p1, p2⟩ := row2_rd rowA hil
      obtain ⟨⟨p, o⟩, hpo⟩ : ∃ x, d[i]? = some x := ⟨d[i]'(by omega), List.getElem?_eq_getElem _⟩
      obtain ⟨cc1, cc2⟩ := tkC_get _ i _ hpo
      rw [cc1] at p1
      rw [cc2] at p2
      have o3 := o2.k k23
      have row3 := ownsRow_kx row2 k23 fun _ _ _ _ => id
      have ew : IntKind.wrap .i64 ((i : Int) + 1) = ((i + 1 : Nat) : Int) := by rw [wi (by omega)]; rfl
      have eB : ∀ {x y : Prop}, Wif (inB (i : Int) l) x y = x := by intro x y; rw [inB_of (by omega) (by omega)]; rfl
      simp only [eB, isP_some, Wif_true, pb_some, po_some, Nat.zero_add, Int.toNat_natCast, ew]
      refine ⟨_, _, ⟨p1, p2⟩, x0, x1, ⟨by rw [o3.rd]; rfl, by rw [o3.rd]; rfl⟩, ?_⟩
      have eh : ((p : Int) == x0 && ((o : Int) == x1 && true)) = hit x0 x1 (p, o) := by
        unfold hit
        rw [Bool.and_true, BEq.comm (a := (p : Int)), BEq.comm (a := (o : Int))]
      rw [eh]
      refine Wif_intro (fun hh => ?_) (fun hh => ?_)
      · refine ⟨l - (i + 1), by omega, i + 1, rfl, by omega, rfl, ?_, K3, o3, ?_, ?_⟩
        · rw [any_snoc _ hpo, hh]; simp
        · rw [filter_snoc _ hpo]; simp [hh]
        · rw [filter_snoc _ hpo]; simp only [hh, Bool.not_true, Bool.false_eq_true, if_false, List.append_nil]; exact row3
      · have hh' : hit x0 x1 (p, o) = false := by simpa using hh
        refine ⟨_, _, ⟨p1, p2⟩, fun w4 e4 => ?_⟩
        have hln : ((d.take i).filter fun y => !hit x0 x1 y).length ≤ 1000 := by
          have := List.length_filter_le (fun y => !hit x0 x1 y) (d.take i)
          rw [List.length_take] at this
          omega
        have hs3 := o3.lt
        obtain ⟨a2, l2, c2, w5, happ, rfl, row5, k5, hs5⟩ := row_add row3 e4 hs3 hln
        have hb3 : ∀ x, (Value.slice a' ((d.take i).filter fun y => !hit x0 x1 y).length c').ownBlock = some x → w.heap.size + 1 ≤ x := fun x hx => (rowTy row3 hx).1
        refine ⟨a2, _, c2, w5, happ, l - (i + 1), by omega, i + 1, rfl, by omega, rfl, ?_, own0 K3 k5 (fun x hx => by have := hb3 x hx; omega), o3.kx k5 (fun hx => by have := hb3 _ hx; omega), ?_, ?_⟩
        · rw [any_snoc _ hpo, hh']; simp
        · rw [filter_snoc _ hpo]; simp [hh']
        · rw [filter_snoc _ hpo]; simp only [hh', Bool.not_false, if_true]
          exact row5
    · have hil : i = l := by simp at hc; omega
      subst hil
      rw [List.take_of_length_le (by omega)] at *
      exact ⟨a', _, c', rfl, k2, rfl, row2⟩
  · rintro e w' ⟨v, rfl, a', l', c', rfl, hw⟩
    exact ⟨a', l', c', rfl, hw⟩
end
end Go.Proofs.Ytkmcmkimeibjdaa
namespace Go.Proofs.Ytkmcmkimeibjdaa
open Go Eng
set_option linter.unusedSimpArgs false
set_option linter.unusedVariables false
set_option maxRecDepth 100000
/-! ### put -/
def ins (x : Nat × Nat) : List (Nat × Nat) → List (Nat × Nat)
  | [] => [x]
  | y :: r => if y.1 > x.1 then x :: y :: r else y :: ins x r
theorem ins_len (x : Nat × Nat) : ∀ l, (ins x l).length = l.length + 1
  | [] => rfl
  | y :: r => by
    unfold ins
    split
    · rfl
    · simp [ins_len x r]
theorem row_weak {w : World} {base e size n : Nat} {v : Value} {xs : List Value} (h : w.ownsRow base e size v n xs) : w.ownsRow 0 e size v n xs := ⟨h.1, by
  rcases h.2 with h | ⟨g, cap, cur, q1, q2, q3⟩
  · exact .inl h
  · exact .inr ⟨g, cap, cur, q1, by omega, q3⟩⟩
section
variable {w w' : World} {z N : Nat} {F T : List (Nat × Nat)}
theorem RAt.one (h : RAt w z N F T) : ∃ fa fc ta tc, own w z [.int .i64 (N : Int), .slice fa F.length fc, .slice ta T.length tc] ∧ w.ownsRow 0 58 2 (.slice fa F.length fc) F.length (tkC F) ∧ w.ownsRow 0 58 2 (.slice ta T.length tc) T.length (tkC T) := by
  obtain ⟨fa, _, fc, ta, _, tc, o, rfl, rfl, r1, r2⟩ := h.ex
  exact ⟨fa, fc, ta, tc, o, r1, r2⟩
theorem RAt.setF (h : RAt w z N F T) {F' : List (Nat × Nat)} {a : Option Addr} {c base : Nat} (row : w.ownsRow base 58 2 (.slice a F'.length c) F'.length (tkC F')) (e : w' = st w z 1 (.slice a F'.length c)) : RAt w' z N F' T := by
  obtain ⟨fa, fc, ta, tc, o, r1, r2⟩ := h.one
  have k : Kept (· = z) w w' := (Kept.refl _ _).s1 e (.inl rfl)
  refine ⟨a, _, c, ta, _, tc, o.s1 e, rfl, rfl, ?_, ?_⟩
  · exact ownsRow_kx (row_weak row) k fun x _ _ hx hh => row_odd row o (by simp) (by rw [hx, hh])
  · exact ownsRow_kx r2 k fun x _ _ hx hh => row_odd r2 o (by simp) (by rw [hx, hh])
theorem RAt.setT (h : RAt w z N F T) {T' : List (Nat × Nat)} {a : Option Addr} {c base : Nat} (row : w.ownsRow base 58 2 (.slice a T'.length c) T'.length (tkC T')) (e : w' = st w z 2 (.slice a T'.length c)) : RAt w' z N F T' := by
  obtain ⟨fa, fc, ta, tc, o, r1, r2⟩ := h.one
  have k : Kept (· = z) w w' := (Kept.refl _ _).s1 e (.inl rfl)
  refine ⟨fa, _, fc, a, _, c, o.s1 e, rfl, rfl, ?_, ?_⟩
  · exact ownsRow_kx r1 k fun x _ _ hx hh => row_odd r1 o (by simp) (by rw [hx, hh])
  · exact ownsRow_kx (row_weak row) k fun x _ _ hx hh => row_odd row o (by simp) (by rw [hx, hh])
def Off (w : World) (z D : Nat) : Prop := ∀ j v, rd w z j = some v → v.ownBlock ≠ some D
theorem Off.k {X : Nat → Prop} {D : Nat} (h : Off w z D) (k : Kept X w w') (hz : z < w.heap.size) (hx : ¬ X z) : Off w' z D := fun j v hv => h j v (by rw [← k.rd hz hx j]; exact hv)
theorem Off.set {D i : Nat} {v : Value} {cs : List Value} (h : Off w z D) (ho : own w z cs) (e : w' = st w z i v) (hv : v.ownBlock ≠ some D) : Off w' z D := fun j u hu => by
  rw [(ho.s1 e).rd] at hu
  by_cases hj : i = j
  · subst hj
    rw [List.getElem?_set] at hu
    simp at hu
    rw [← hu.2]
    exact hv
  · rw [List.getElem?_set_ne hj] at hu
    exact h j u (by rw [ho.rd]; exact hu)
theorem put_spec (h : RAt w z N F T) (hl : F.length ≤ 900) (p o : Nat) :
    Calls Try.prog 58 #[ptr z, .agg #[.int .i64 (p : Int), .int .i64 (o : Int)]] w fun r w' => r = .returned (.tuple #[]) ∧ Kept (· = z) w w' ∧ RAt w' z N (ins (p, o) F) T ∧ ∀ D, D ≤ w.heap.size → Off w z D → Off w' z D := by
  refine (vc58 (some ⟨z, 0, none⟩) (p : Int) (o : Int) w (fun v w' => v = .tuple #[] ∧ Kept (· = z) w w' ∧ RAt w' z N (ins (p, o) F) T ∧ ∀ D, D ≤ w.heap.size → Off w z D → Off w' z D) ?_).mono ?_
  · unfold vcP58
    have hz : z < w.heap.size := by obtain ⟨_, _, _, _, o, _⟩ := h.one; exact o.lt
    intro w1 e1
    have o1 := own_alloc (c := [.int .i64 (p : Int), .int .i64 (o : Int)]) e1
    have k1 : Kept none' w w1 := (Kept.refl _ _).al e1
    refine ⟨fun a l c f k w' M => ∃ (i : Nat) (out : List (Nat × Nat)), k = (i : Int) ∧ i ≤ F.length ∧ F.length - i = M ∧ Kept none' w w' ∧ own w' w.heap.size [.int .i64 (p : Int), .int .i64 (o : Int)] ∧ l = out.length ∧ (out.length ≤ if f then i + 1 else i) ∧ w'.ownsRow (w.heap.size + 1) 58 2 (.slice a l c) l (tkC out) ∧
        out ++ (if f then F.drop i else ins (p, o) (F.drop i)) = ins (p, o) F,
      ⟨F.length, 0, [], rfl, by omega, rfl, k1, o1, rfl, by simp, World.ownsRow_nil _ _ _ _, by simp⟩, ?_⟩
    rintro a _ c f _ w2 _ ⟨i, out, rfl, hi, rfl, k2, o2, rfl, hout0, row2, heq⟩
    have hout : out.length ≤ i + 1 := by cases f <;> simp at hout0 <;> omega
    simp only [isP_some, Wif_true, gIf_true, pb_some, po_some, Nat.zero_add]
    obtain ⟨fa, fc, ta, tc, oz, rF, rT⟩ := (h.k k2).one
    refine ⟨_, _, _, by rw [oz.rd]; rfl, Wif_intro (fun hc => ?_) (fun hc => ?_)⟩
    · have hil : i < F.length := by simp at hc; omega
      intro w3 e3
      have K3 := k2.dr e3
      have k23 : Kept none' w2 w3 := (Kept.refl _ _).dr e3
      have o3 := o2.k k23
      have oz3 := oz.k k23
      have row3 := ownsRow_kx row2 k23 fun _ _ _ _ => id
      have rF3 := ownsRow_kx rF k23 fun _ _ _ _ => id
      obtain ⟨g, rfl, _, _, _, p1, p2⟩ := row2_rd rF3 hil
      obtain ⟨⟨yp, yo⟩, hpo⟩ : ∃ x, F[i]? = some x := ⟨F[i]'(by omega), List.getElem?_eq_getElem _⟩
      obtain ⟨cc1, cc2⟩ := tkC_get _ i _ hpo
      rw [cc1] at p1
      rw [cc2] at p2
      have hdr : F.drop i = (yp, yo) :: F.drop (i + 1) := by
        rw [List.drop_eq_getElem_cons hil]
        congr 1
        have := List.getElem?_eq_getElem hil
        rw [this] at hpo
        exact Option.some.inj hpo
      have ew : IntKind.wrap .i64 ((i : Int) + 1) = ((i + 1 : Nat) : Int) := by rw [wi (by omega)]; rfl
      have eB : ∀ {x y : Prop}, Wif (inB (i : Int) F.length) x y = x := by intro x y; rw [inB_of (by omega) (by omega)]; rfl
      have eG : ∀ {x y : Prop}, gIf (inB (i : Int) F.length) y x = x := by intro x y; rw [inB_of (by omega) (by omega)]; simp [gIf]
      have hsl := o3.lt
      rw [hdr] at heq
      refine ⟨_, _, _, fun _ => by rw [oz3.rd]; rfl, ?_⟩
      simp only [isP_some, Wif_true, gIf_true, pb_some, po_some, Nat.zero_add, eB, eG, Int.toNat_natCast, ew]
      refine ⟨_, fun _ => p1, (p : Int), fun _ => by rw [o3.rd]; rfl, Wif_intro (fun hh => ?_) (fun hh => ?_)⟩
      · simp at hh
        obtain ⟨rfl, hgt⟩ := hh
        refine ⟨_, _, ⟨by rw [o3.rd]; rfl, by rw [o3.rd]; rfl⟩, fun w4 e4 => ?_⟩
        obtain ⟨a2, l2, c2, w5, happ, rfl, row5, k5, hs5⟩ := row_add row3 e4 hsl (by omega)
        have hb3 : ∀ x, (Value.slice a out.length c).ownBlock = some x → w.heap.size + 1 ≤ x := fun x hx => (rowTy row3 hx).1
        have K5 := own0 K3 k5 fun x hx => by have := hb3 x hx; omega
        have o5 := o3.kx k5 fun hx => by have := hb3 _ hx; omega
        refine ⟨a2, _, c2, w5, happ, ?_⟩
        obtain ⟨fa', fc', ta', tc', oz5, rF5, rT5⟩ := (h.k K5).one
        obtain ⟨g', rfl, _, _, _, p1', p2'⟩ := row2_rd rF5 hil
        rw [cc1] at p1'
        rw [cc2] at p2'
        refine ⟨_, _, _, by rw [oz5.rd]; rfl, ?_⟩
        simp only [isP_some, Wif_true, gIf_true, pb_some, po_some, Nat.zero_add, eB, eG, Int.toNat_natCast]
        refine ⟨_, _, ⟨p1', p2'⟩, fun w6 e6 => ?_⟩
        have hsl5 := o5.lt
        obtain ⟨a3, l3, c3, w7, happ3, rfl, row7, k7, hs7⟩ := row_add row5 e6 hsl5 (by omega)
        have hb5 : ∀ x, (Value.slice a2 (out.length + 1) c2).ownBlock = some x → w.heap.size + 1 ≤ x := fun x hx => (rowTy row5 hx).1
        refine ⟨a3, _, c3, w7, happ3, F.length - (i + 1), by omega, i + 1, out ++ [(p, o)] ++ [(yp, yo)], rfl, by omega, rfl, own0 K5 k7 fun x hx => by have := hb5 x hx; omega, o5.kx k7 fun hx => by have := hb5 _ hx; omega, by simp, by simp at hout0 ⊢; omega, row7, ?_⟩
        rw [← heq]
        have e : ins (p, o) ((yp, yo) :: F.drop (i + 1)) = (p, o) :: (yp, yo) :: F.drop (i + 1) := by
          unfold ins
          rw [if_pos (by dsimp only; omega)]
        simp [e]
      · refine ⟨_, _, _, by rw [oz3.rd]; rfl, ?_⟩
        simp only [isP_some, Wif_true, gIf_true, pb_some, po_some, Nat.zero_add, eB, eG, Int.toNat_natCast]
        refine ⟨_, _, ⟨p1, p2⟩, fun w4 e4 => ?_⟩
        obtain ⟨a2, l2, c2, w5, happ, rfl, row5, k5, hs5⟩ := row_add row3 e4 hsl (by omega)
        have hb3 : ∀ x, (Value.slice a out.length c).ownBlock = some x → w.heap.size + 1 ≤ x := fun x hx => (rowTy row3 hx).1
        refine ⟨a2, _, c2, w5, happ, F.length - (i + 1), by omega, i + 1, out ++ [(yp, yo)], rfl, by omega, rfl, own0 K3 k5 fun x hx => by have := hb3 x hx; omega, o3.kx k5 fun hx => by have := hb3 _ hx; omega, by simp, by cases f <;> simp at hout0 ⊢ <;> omega, row5, ?_⟩
        rw [← heq]
        cases f with
        | true => simp
        | false =>
          have e : ins (p, o) ((yp, yo) :: F.drop (i + 1)) = (yp, yo) :: ins (p, o) (F.drop (i + 1)) := by
            conv => lhs; unfold ins
            rw [if_neg (by dsimp only; simp at hh; omega)]
          simp [e]
    · have hil : i = F.length := by simp at hc; omega
      subst hil
      rw [List.drop_length] at heq
      have hsl := o2.lt
      refine Wif_intro (fun hf => ?_) (fun hf => ?_)
      · have hf' : f = false := by simpa using hf
        subst hf'
        refine ⟨_, _, ⟨by rw [o2.rd]; rfl, by rw [o2.rd]; rfl⟩, fun w4 e4 => ?_⟩
        obtain ⟨a2, l2, c2, w5, happ, rfl, row5, k5, hs5⟩ := row_add row2 e4 hsl (by omega)
        have hb3 : ∀ x, (Value.slice a out.length c).ownBlock = some x → w.heap.size + 1 ≤ x := fun x hx => (rowTy row2 hx).1
        have K5 := own0 k2 k5 fun x hx => by have := hb3 x hx; omega
        refine ⟨a2, _, c2, w5, happ, ?_⟩
        obtain ⟨_, _, _, _, oz5, _, _⟩ := (h.k K5).one
        have he : out ++ [(p, o)] = ins (p, o) F := by simpa [ins] using heq
        refine ⟨oz5.wr (by simp), fun w6 e6 => ⟨trivial, (K5.mono fun _ _ h => h.elim).s1 e6 (.inl rfl), ?_⟩⟩
        have hll : out.length + 1 = (ins (p, o) F).length := by rw [← he]; simp
        rw [he, hll] at row5
        rw [hll] at e6
        exact ⟨(h.k K5).setF row5 e6, fun D hD hoff => (hoff.k K5 hz id).set oz5 e6 fun hx => by have := (rowTy row5 hx).1; omega⟩
      · have hf' : f = true := by simpa using hf
        subst hf'
        have he : out = ins (p, o) F := by simpa using heq
        subst he
        refine ⟨oz.wr (by simp), fun w6 e6 => ⟨trivial, (k2.mono fun _ _ h => h.elim).s1 e6 (.inl rfl), (h.k k2).setF row2 e6, fun D hD hoff => (hoff.k k2 hz id).set oz e6 fun hx => by have := (rowTy row2 hx).1; omega⟩⟩
  · rintro e w' ⟨v, rfl, rfl, hw⟩
    exact ⟨rfl, hw⟩
end
end Go.Proofs.Ytkmcmkimeibjdaa
namespace Go.Proofs.Ytkmcmkimeibjdaa
open Go Eng
set_option linter.unusedSimpArgs false
set_option linter.unusedVariables false
set_option maxRecDepth 100000
/-! ### the document's New -/
theorem bks_app (A B : List Bk) : bks (A ++ B) = bks A ++ bks B := by simp [bks, frB]
theorem bks_free {x : Bk} (h : x.g = 0) (B : List Bk) : bks (x :: B) = (x.p, x.o) :: bks B := by simp [bks, frB, h]
theorem bks_held {x : Bk} (h : x.g ≠ 0) (B : List Bk) : bks (x :: B) = bks B := by simp [bks, frB, h]
theorem bks_nil : bks [] = [] := rfl
theorem mem_bks {L : List Bk} {y : Nat × Nat} : y ∈ bks L ↔ ∃ x ∈ L, x.g = 0 ∧ (x.p, x.o) = y := by
  simp only [bks, List.mem_map, mem_frB]
  constructor
  · rintro ⟨x, ⟨h1, h2⟩, h3⟩; exact ⟨x, h1, h2, h3⟩
  · rintro ⟨x, h1, h2, h3⟩; exact ⟨x, ⟨h1, h2⟩, h3⟩
theorem bks_le {L : List Bk} {n : Nat} (h : Tile 0 L n) : (bks L).length ≤ n := by
  have := tile_le h; have := frB_len L; have := bks_len L; omega
theorem shlU {o : Nat} (ho : o ≤ 10) : IntKind.wrap .i64 (1 * 2 ^ min (Int.toNat (IntKind.wrap .u64 (o : Int))) 64) = ((2 ^ o : Nat) : Int) := by
  rw [wu (by omega)]; exact shl1 ho
theorem rnew_spec (w : World) (n : Nat) (hn : 1 ≤ n ∧ n ≤ 128) : Calls Try.prog 31 #[.int .i64 (n : Int)] w fun r w' => ∃ l, r = .returned (ptr w.heap.size) ∧ Kept none' w w' ∧ RAt w' w.heap.size n (bks l) [] ∧ Inv n l ∧ ∀ x ∈ l, x.g = 0 := by
  refine (vc31 (n : Int) w (fun v w' => ∃ l, v = ptr w.heap.size ∧ Kept none' w w' ∧ RAt w' w.heap.size n (bks l) [] ∧ Inv n l ∧ ∀ x ∈ l, x.g = 0) ?_).mono ?_
  · unfold vcP31
    intro w1 e1
    have o1 := own_alloc (c := [.int .i64 (n : Int), .slice none 0 0, .slice none 0 0]) e1
    have k1 : Kept none' w w1 := (Kept.refl _ _).al e1
    generalize hz : w.heap.size = z at *
    refine ⟨fun k w' M => ∃ (at' : Nat) (l : List Bk) (fa : Option Addr) (fc : Nat), k = (at' : Int) ∧ at' ≤ n ∧ n - at' = M ∧ Kept none' w w' ∧ Tile 0 l at' ∧ (∀ x ∈ l, x.g = 0) ∧ (∀ x ∈ l, Mx n x) ∧ own w' z [.int .i64 (n : Int), .slice fa (bks l).length fc, .slice none 0 0] ∧ w'.ownsRow (z + 1) 58 2 (.slice fa (bks l).length fc) (bks l).length (tkC (bks l)),
      ⟨n, 0, [], none, 0, rfl, by omega, rfl, k1, by simp [Tile], by simp, by simp, o1, World.ownsRow_nil _ _ _ _⟩, ?_⟩
    rintro _ w2 _ ⟨at', l, fa, fc, rfl, hat, rfl, k2, htl, hg, hm, o2, row2⟩
    refine Wif_intro (fun hc => ?_) (fun hc => ?_)
    · have hlt : at' < n := by simp at hc; omega
      refine ⟨fun best o w' M => ∃ (bb oo : Nat), best = (bb : Int) ∧ o = (oo : Int) ∧ oo ≤ 11 ∧ 11 - oo = M ∧ w' = w2 ∧ bb ≤ 10 ∧ at' % 2 ^ bb = 0 ∧ at' + 2 ^ bb ≤ n ∧ ∀ j, j < oo → at' % 2 ^ j = 0 → at' + 2 ^ j ≤ n → j ≤ bb,
        ⟨11, 0, 0, rfl, rfl, by omega, rfl, rfl, by omega, by simp [Nat.mod_one], by simp; omega, fun j hj => by omega⟩, ?_⟩
      rintro _ _ _ _ ⟨bb, oo, rfl, rfl, hoo, rfl, rfl, hbb, hb1, hb2, hmax⟩
      refine Wif_intro (fun hc2 => ?_) (fun hc2 => ?_)
      · have hoo' : oo ≤ 10 := by simp at hc2; omega
        have hp := p2 oo
        have hp10 := pow10 hoo'
        have ew : IntKind.wrap .i64 ((oo : Int) + 1) = ((oo + 1 : Nat) : Int) := by rw [wi (by omega)]; rfl
        have et : Int.tmod (at' : Int) ((2 ^ oo : Nat) : Int) = ((at' % 2 ^ oo : Nat) : Int) := by rw [Int.tmod_eq_emod_of_nonneg (by omega)]; rfl
        have ea : IntKind.wrap .i64 ((at' : Int) + ((2 ^ oo : Nat) : Int)) = ((at' + 2 ^ oo : Nat) : Int) := by rw [wi (by omega)]; rfl
        rw [shlU hoo', wu (by omega), ew, et, ea]
        refine Wif_yes (by simp) (Wif_yes (by rw [bne_iff_ne]; omega) (Wif_intro (fun hh => ?_) (fun hh => ?_)))
        · simp only [Bool.and_eq_true, beq_iff_eq, decide_eq_true_eq] at hh
          exact ⟨11 - (oo + 1), by omega, oo, oo + 1, rfl, rfl, by omega, rfl, rfl, hoo', by omega, by omega, fun j hj _ _ => by omega⟩
        · refine ⟨11 - (oo + 1), by omega, bb, oo + 1, rfl, rfl, by omega, rfl, rfl, hbb, hb1, hb2, fun j hj h1 h2 => ?_⟩
          by_cases e : j = oo
          · subst e
            simp only [Bool.and_eq_false_iff, beq_eq_false_iff_ne, decide_eq_false_iff_not] at hh
            rcases hh with h | h <;> omega
          · exact hmax j (by omega) h1 h2
      · have hoo' : oo = 11 := by simp at hc2; omega
        subst hoo'
        rename_i w2
        refine ⟨_, _, _, by rw [o2.rd]; rfl, fun w3 e3 => ?_⟩
        have hlen := tile_le htl
        have hlen2 := bks_le htl
        obtain ⟨a2, l2, c2, w4, happ, rfl, row4, k4, hs4⟩ := row_add row2 e3 (show z + 1 ≤ w2.heap.size from o2.lt) (by omega)
        have hb : ∀ x, (Value.slice fa (bks l).length fc).ownBlock = some x → z + 1 ≤ x := fun x hx => (rowTy row2 hx).1
        have o4 := o2.kx k4 fun hx => by have := hb _ hx; omega
        have K4 := own0 k2 k4 fun x hx => by have := hb x hx; omega
        refine ⟨a2, _, c2, w4, happ, o4.wr (by simp), fun w5 e5 => ?_⟩
        have o5 := o4.s1 e5
        have k5 : Kept (· = z) w4 w5 := (Kept.refl _ _).s1 e5 (.inl rfl)
        have row5 := ownsRow_kx row4 k5 fun x hx _ _ hh => by omega
        have K5 := own0 K4 k5 fun x hx => by omega
        have hp10 := pow10 hbb
        rw [shlU hbb, wu (by omega)]
        have ea : IntKind.wrap .i64 ((at' : Int) + ((2 ^ bb : Nat) : Int)) = ((at' + 2 ^ bb : Nat) : Int) := by rw [wi (by omega)]; rfl
        rw [ea]
        have hp := p2 bb
        have ebk : bks (l ++ [⟨at', bb, 0⟩]) = bks l ++ [(at', bb)] := by rw [bks_app]; rfl
        have hll : (bks (l ++ [⟨at', bb, 0⟩])).length = (bks l).length + 1 := by rw [ebk]; simp
        refine Wif_yes (by simp) ⟨n - (at' + 2 ^ bb), by omega, at' + 2 ^ bb, l ++ [⟨at', bb, 0⟩], a2, c2, rfl, by omega, rfl, K5, ?_, ?_, ?_, ?_, ?_⟩
        · exact tile_app.2 ⟨at', htl, ⟨rfl, hb1, hbb, rfl⟩⟩
        · intro x hx
          rcases List.mem_append.1 hx with h | h
          · exact hg x h
          · simp at h; subst h; rfl
        · intro x hx
          rcases List.mem_append.1 hx with h | h
          · exact hm x h
          · simp at h
            subst h
            unfold Mx
            dsimp only
            by_cases h10 : bb = 10
            · exact .inl h10
            · right
              by_cases h1 : at' % 2 ^ (bb + 1) = 0
              · right
                have := hmax (bb + 1) (by omega) h1
                omega
              · exact .inl h1
        · rw [hll]; exact o5
        · rw [hll, ebk]; exact row5
    · have hat' : at' = n := by simp at hc; omega
      subst hat'
      exact ⟨l, rfl, k2, ⟨fa, _, fc, none, _, 0, o2, rfl, rfl, row_weak row2, World.ownsRow_nil _ _ _ _⟩, inv_new hn htl hg hm, hg⟩
  · rintro e w' ⟨v, rfl, l, rfl, hw⟩
    exact ⟨l, rfl, hw⟩
end Go.Proofs.Ytkmcmkimeibjdaa
