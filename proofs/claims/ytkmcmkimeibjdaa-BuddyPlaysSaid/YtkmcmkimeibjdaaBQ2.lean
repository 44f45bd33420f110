/-
  A part of a proof that a law of this seat returns true at every input. Conditions: those in each theorem.
-/
import Derived.Test.YtkmcmkimeibjdaaBQ1
namespace Go.Proofs.Ytkmcmkimeibjdaa
open Go Eng
set_option linter.unusedSimpArgs false
set_option linter.unusedVariables false
set_option maxRecDepth 100000
/-! ### put -/
def ins (x : Nat × Nat) : List (Nat × Nat) → List (Nat × Nat)
  | [] => [x]
  | y :: r => if y.1 > x.1 then x :: y :: r else y :: ins x r
theorem ins_len (x : Nat × Nat) : ∀ l, (ins x l).length = l.length + 1
  | [] => rfl
  | y :: r => by
    unfold ins
    split
    · rfl
    · simp [ins_len x r]
theorem row_weak {w : World} {base e size n : Nat} {v : Value} {xs : List Value} (h : w.ownsRow base e size v n xs) : w.ownsRow 0 e size v n xs := ⟨h.1, by
  rcases h.2 with h | ⟨g, cap, cur, q1, q2, q3⟩
  · exact .inl h
  · exact .inr ⟨g, cap, cur, q1, by omega, q3⟩⟩
section
variable {w w' : World} {z N : Nat} {F T : List (Nat × Nat)}
theorem RAt.one (h : RAt w z N F T) : ∃ fa fc ta tc, own w z [.int .i64 (N : Int), .slice fa F.length fc, .slice ta T.length tc] ∧ w.ownsRow 0 58 2 (.slice fa F.length fc) F.length (tkC F) ∧ w.ownsRow 0 58 2 (.slice ta T.length tc) T.length (tkC T) := by
  obtain ⟨fa, _, fc, ta, _, tc, o, rfl, rfl, r1, r2⟩ := h.ex
  exact ⟨fa, fc, ta, tc, o, r1, r2⟩
theorem RAt.setF (h : RAt w z N F T) {F' : List (Nat × Nat)} {a : Option Addr} {c base : Nat} (row : w.ownsRow base 58 2 (.slice a F'.length c) F'.length (tkC F')) (e : w' = st w z 1 (.slice a F'.length c)) : RAt w' z N F' T := by
  obtain ⟨fa, fc, ta, tc, o, r1, r2⟩ := h.one
  have k : Kept (· = z) w w' := (Kept.refl _ _).s1 e (.inl rfl)
  refine ⟨a, _, c, ta, _, tc, o.s1 e, rfl, rfl, ?_, ?_⟩
  · exact ownsRow_kx (row_weak row) k fun x _ _ hx hh => row_odd row o (by simp) (by rw [hx, hh])
  · exact ownsRow_kx r2 k fun x _ _ hx hh => row_odd r2 o (by simp) (by rw [hx, hh])
theorem RAt.setT (h : RAt w z N F T) {T' : List (Nat × Nat)} {a : Option Addr} {c base : Nat} (row : w.ownsRow base 58 2 (.slice a T'.length c) T'.length (tkC T')) (e : w' = st w z 2 (.slice a T'.length c)) : RAt w' z N F T' := by
  obtain ⟨fa, fc, ta, tc, o, r1, r2⟩ := h.one
  have k : Kept (· = z) w w' := (Kept.refl _ _).s1 e (.inl rfl)
  refine ⟨fa, _, fc, a, _, c, o.s1 e, rfl, rfl, ?_, ?_⟩
  · exact ownsRow_kx r1 k fun x _ _ hx hh => row_odd r1 o (by simp) (by rw [hx, hh])
  · exact ownsRow_kx (row_weak row) k fun x _ _ hx hh => row_odd row o (by simp) (by rw [hx, hh])
def Off (w : World) (z D : Nat) : Prop := ∀ j v, rd w z j = some v → v.ownBlock ≠ some D
theorem Off.k {X : Nat → Prop} {D : Nat} (h : Off w z D) (k : Kept X w w') (hz : z < w.heap.size) (hx : ¬ X z) : Off w' z D := fun j v hv => h j v (by rw [← k.rd hz hx j]; exact hv)
theorem Off.set {D i : Nat} {v : Value} {cs : List Value} (h : Off w z D) (ho : own w z cs) (e : w' = st w z i v) (hv : v.ownBlock ≠ some D) : Off w' z D := fun j u hu => by
  rw [(ho.s1 e).rd] at hu
  by_cases hj : i = j
  · subst hj
    rw [List.getElem?_set] at hu
    simp at hu
    rw [← hu.2]
    exact hv
  · rw [List.getElem?_set_ne hj] at hu
    exact h j u (by rw [ho.rd]; exact hu)
theorem put_spec (h : RAt w z N F T) (hl : F.length ≤ 900) (p o : Nat) :
    Calls Try.prog 58 #[ptr z, .agg #[.int .i64 (p : Int), .int .i64 (o : Int)]] w fun r w' => r = .returned (.tuple #[]) ∧ Kept (· = z) w w' ∧ RAt w' z N (ins (p, o) F) T ∧ ∀ D, D ≤ w.heap.size → Off w z D → Off w' z D := by
  refine (vc58 (some ⟨z, 0, none⟩) (p : Int) (o : Int) w (fun v w' => v = .tuple #[] ∧ Kept (· = z) w w' ∧ RAt w' z N (ins (p, o) F) T ∧ ∀ D, D ≤ w.heap.size → Off w z D → Off w' z D) ?_).mono ?_
  · unfold vcP58
    have hz : z < w.heap.size := by obtain ⟨_, _, _, _, o, _⟩ := h.one; exact o.lt
    intro w1 e1
    have o1 := own_alloc (c := [.int .i64 (p : Int), .int .i64 (o : Int)]) e1
    have k1 : Kept none' w w1 := (Kept.refl _ _).al e1
    refine ⟨fun a l c f k w' M => ∃ (i : Nat) (out : List (Nat × Nat)), k = (i : Int) ∧ i ≤ F.length ∧ F.length - i = M ∧ Kept none' w w' ∧ own w' w.heap.size [.int .i64 (p : Int), .int .i64 (o : Int)] ∧ l = out.length ∧ (out.length ≤ if f then i + 1 else i) ∧ w'.ownsRow (w.heap.size + 1) 58 2 (.slice a l c) l (tkC out) ∧
        out ++ (if f then F.drop i else ins (p, o) (F.drop i)) = ins (p, o) F,
      ⟨F.length, 0, [], rfl, by omega, rfl, k1, o1, rfl, by simp, World.ownsRow_nil _ _ _ _, by simp⟩, ?_⟩
    rintro a _ c f _ w2 _ ⟨i, out, rfl, hi, rfl, k2, o2, rfl, hout0, row2, heq⟩
    have hout : out.length ≤ i + 1 := by cases f <;> simp at hout0 <;> omega
    simp only [isP_some, Wif_true, gIf_true, pb_some, po_some, Nat.zero_add]
    obtain ⟨fa, fc, ta, tc, oz, rF, rT⟩ := (h.k k2).one
    refine ⟨_, _, _, by rw [oz.rd]; rfl, Wif_intro (fun hc => ?_) (fun hc => ?_)⟩
    · have hil : i < F.length := by simp at hc; omega
      intro w3 e3
      have K3 := k2.dr e3
      have k23 : Kept none' w2 w3 := (Kept.refl _ _).dr e3
      have o3 := o2.k k23
      have oz3 := oz.k k23
      have row3 := ownsRow_kx row2 k23 fun _ _ _ _ => id
      have rF3 := ownsRow_kx rF k23 fun _ _ _ _ => id
      obtain ⟨g, rfl, _, _, _, p1, p2⟩ := row2_rd rF3 hil
      obtain ⟨⟨yp, yo⟩, hpo⟩ : ∃ x, F[i]? = some x := ⟨F[i]'(by omega), List.getElem?_eq_getElem _⟩
      obtain ⟨cc1, cc2⟩ := tkC_get _ i _ hpo
      rw [cc1] at p1
      rw [cc2] at p2
      have hdr : F.drop i = (yp, yo) :: F.drop (i + 1) := by
        rw [List.drop_eq_getElem_cons hil]
        congr 1
        have := List.getElem?_eq_getElem hil
        rw [this] at hpo
        exact Option.some.inj hpo
      have ew : IntKind.wrap .i64 ((i : Int) + 1) = ((i + 1 : Nat) : Int) := by rw [wi (by omega)]; rfl
      have eB : ∀ {x y : Prop}, Wif (inB (i : Int) F.length) x y = x := by intro x y; rw [inB_of (by omega) (by omega)]; rfl
      have eG : ∀ {x y : Prop}, gIf (inB (i : Int) F.length) y x = x := by intro x y; rw [inB_of (by omega) (by omega)]; simp [gIf]
      have hsl := o3.lt
      rw [hdr] at heq
      refine ⟨_, _, _, fun _ => by rw [oz3.rd]; rfl, ?_⟩
      simp only [isP_some, Wif_true, gIf_true, pb_some, po_some, Nat.zero_add, eB, eG, Int.toNat_natCast, ew]
      refine ⟨_, fun _ => p1, (p : Int), fun _ => by rw [o3.rd]; rfl, Wif_intro (fun hh => ?_) (fun hh => ?_)⟩
      · simp at hh
        obtain ⟨rfl, hgt⟩ := hh
        refine ⟨_, _, ⟨by rw [o3.rd]; rfl, by rw [o3.rd]; rfl⟩, fun w4 e4 => ?_⟩
        obtain ⟨a2, l2, c2, w5, happ, rfl, row5, k5, hs5⟩ := row_add row3 e4 hsl (by omega)
        have hb3 : ∀ x, (Value.slice a out.length c).ownBlock = some x → w.heap.size + 1 ≤ x := fun x hx => (rowTy row3 hx).1
        have K5 := own0 K3 k5 fun x hx => by have := hb3 x hx; omega
        have o5 := o3.kx k5 fun hx => by have := hb3 _ hx; omega
        refine ⟨a2, _, c2, w5, happ, ?_⟩
        obtain ⟨fa', fc', ta', tc', oz5, rF5, rT5⟩ := (h.k K5).one
        obtain ⟨g', rfl, _, _, _, p1', p2'⟩ := row2_rd rF5 hil
        rw [cc1] at p1'
        rw [cc2] at p2'
        refine ⟨_, _, _, by rw [oz5.rd]; rfl, ?_⟩
        simp only [isP_some, Wif_true, gIf_true, pb_some, po_some, Nat.zero_add, eB, eG, Int.toNat_natCast]
        refine ⟨_, _, ⟨p1', p2'⟩, fun w6 e6 => ?_⟩
        have hsl5 := o5.lt
        obtain ⟨a3, l3, c3, w7, happ3, rfl, row7, k7, hs7⟩ := row_add row5 e6 hsl5 (by omega)
        have hb5 : ∀ x, (Value.slice a2 (out.length + 1) c2).ownBlock = some x → w.heap.size + 1 ≤ x := fun x hx => (rowTy row5 hx).1
        refine ⟨a3, _, c3, w7, happ3, F.length - (i + 1), by omega, i + 1, out ++ [(p, o)] ++ [(yp, yo)], rfl, by omega, rfl, own0 K5 k7 fun x hx => by have := hb5 x hx; omega, o5.kx k7 fun hx => by have := hb5 _ hx; omega, by simp, by simp at hout0 ⊢; omega, row7, ?_⟩
        rw [← heq]
        have e : ins (p, o) ((yp, yo) :: F.drop (i + 1)) = (p, o) :: (yp, yo) :: F.drop (i + 1) := by
          unfold ins
          rw [if_pos (by dsimp only; omega)]
        simp [e]
      · refine ⟨_, _, _, by rw [oz3.rd]; rfl, ?_⟩
        simp only [isP_some, Wif_true, gIf_true, pb_some, po_some, Nat.zero_add, eB, eG, Int.toNat_natCast]
        refine ⟨_, _, ⟨p1, p2⟩, fun w4 e4 => ?_⟩
        obtain ⟨a2, l2, c2, w5, happ, rfl, row5, k5, hs5⟩ := row_add row3 e4 hsl (by omega)
        have hb3 : ∀ x, (Value.slice a out.length c).ownBlock = some x → w.heap.size + 1 ≤ x := fun x hx => (rowTy row3 hx).1
        refine ⟨a2, _, c2, w5, happ, F.length - (i + 1), by omega, i + 1, out ++ [(yp, yo)], rfl, by omega, rfl, own0 K3 k5 fun x hx => by have := hb3 x hx; omega, o3.kx k5 fun hx => by have := hb3 _ hx; omega, by simp, by cases f <;> simp at hout0 ⊢ <;> omega, row5, ?_⟩
        rw [← heq]
        cases f with
        | true => simp
        | false =>
          have e : ins (p, o) ((yp, yo) :: F.drop (i + 1)) = (yp, yo) :: ins (p, o) (F.drop (i + 1)) := by
            conv => lhs; unfold ins
            rw [if_neg (by dsimp only; simp at hh; omega)]
          simp [e]
    · have hil : i = F.length := by simp at hc; omega
      subst hil
      rw [List.drop_length] at heq
      have hsl := o2.lt
      refine Wif_intro (fun hf => ?_) (fun hf => ?_)
      · have hf' : f = false := by simpa using hf
        subst hf'
        refine ⟨_, _, ⟨by rw [o2.rd]; rfl, by rw [o2.rd]; rfl⟩, fun w4 e4 => ?_⟩
        obtain ⟨a2, l2, c2, w5, happ, rfl, row5, k5, hs5⟩ := row_add row2 e4 hsl (by omega)
        have hb3 : ∀ x, (Value.slice a out.length c).ownBlock = some x → w.heap.size + 1 ≤ x := fun x hx => (rowTy row2 hx).1
        have K5 := own0 k2 k5 fun x hx => by have := hb3 x hx; omega
        refine ⟨a2, _, c2, w5, happ, ?_⟩
        obtain ⟨_, _, _, _, oz5, _, _⟩ := (h.k K5).one
        have he : out ++ [(p, o)] = ins (p, o) F := by simpa [ins] using heq
        refine ⟨oz5.wr (by simp), fun w6 e6 => ⟨trivial, (K5.mono fun _ _ h => h.elim).s1 e6 (.inl rfl), ?_⟩⟩
        have hll : out.length + 1 = (ins (p, o) F).length := by rw [← he]; simp
        rw [he, hll] at row5
        rw [hll] at e6
        exact ⟨(h.k K5).setF row5 e6, fun D hD hoff => (hoff.k K5 hz id).set oz5 e6 fun hx => by have := (rowTy row5 hx).1; omega⟩
      · have hf' : f = true := by simpa using hf
        subst hf'
        have he : out = ins (p, o) F := by simpa using heq
        subst he
        refine ⟨oz.wr (by simp), fun w6 e6 => ⟨trivial, (k2.mono fun _ _ h => h.elim).s1 e6 (.inl rfl), (h.k k2).setF row2 e6, fun D hD hoff => (hoff.k k2 hz id).set oz e6 fun hx => by have := (rowTy row2 hx).1; omega⟩⟩
  · rintro e w' ⟨v, rfl, rfl, hw⟩
    exact ⟨rfl, hw⟩
end
end Go.Proofs.Ytkmcmkimeibjdaa
