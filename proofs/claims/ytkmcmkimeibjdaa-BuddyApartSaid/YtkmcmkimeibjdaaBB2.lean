/-
  A part of a proof that a law of this seat returns true at every input. Conditions: those in each theorem.
-/
import Derived.Test.YtkmcmkimeibjdaaBB0
namespace Go.Proofs.Ytkmcmkimeibjdaa
open Go Eng
set_option linter.unusedSimpArgs false
set_option linter.unusedVariables false
set_option maxRecDepth 100000
/-! ### BuddyBack -/
theorem Tks.giveAt {L L' : List Bk} {A B : List (Nat × Nat)} {p o : Nat} (h : Tks L (A ++ (p, o) :: B)) (hs : ∀ y : Bk, y.g = 1 → (y ∈ L' ↔ y ∈ L ∧ y ≠ ⟨p, o, 1⟩)) : Tks L' (A ++ B) := by
  have hp : (A ++ (p, o) :: B).Perm ((p, o) :: (A ++ B)) := List.perm_middle
  have h1 : Tks L ((p, o) :: (A ++ B)) := ⟨hp.nodup_iff.1 h.1, fun y hy => by rw [h.2 y hy]; exact hp.mem_iff⟩
  exact h1.give hs
theorem tile_sumB : ∀ (l : List Bk) (a b : Nat), Tile a l b → (∀ x ∈ l, x.g = 0) → a + fsum l = b
  | [], a, b, h, _ => by simp [Tile] at h; simp [fsum]; omega
  | x :: l, a, b, h, hg => by
    have := tile_sumB l _ _ h.2.2.2 fun y hy => hg y (List.mem_cons_of_mem _ hy)
    rw [fsum_cons, if_pos (hg x (by simp))]
    omega
section
variable {w : World} {b t : Nat} {m : Nat → Nat} {n : Nat} {L : List Bk} {A B : List (Nat × Nat)} {p o : Nat}
/-- one of those that are out, given back -/
theorem give_in (h : BAt w b m t (stOf n L)) (hi : Inv n L) (ht : Tks L (A ++ (p, o) :: B)) :
    Calls Try.prog 16 #[ptr b, .int .i64 (p : Int), .int .i64 (o : Int)] w fun r w' => ∃ L', r = .returned (.int .i64 0) ∧ Kept (bblk b m t) w w' ∧ BAt w' b m t (stOf n L') ∧ Inv n L' ∧ Tks L' (A ++ B) ∧ (⟨p, o, 1⟩ : Bk) ∉ L' := by
  refine (give_spec h hi _ _).mono ?_
  rintro _ w' ⟨e, L', rfl, k, h', i', r⟩
  have hin : (⟨p, o, 1⟩ : Bk) ∈ L := (ht.2 _ rfl).2 (by simp)
  rcases r with ⟨hh, _⟩ | ⟨x, b1, b2, b3, b4, rfl, b6, b7⟩
  · exact absurd (mem_tk.2 ⟨_, hin, rfl, rfl, rfl⟩) hh
  have hxx : (⟨p, o, 1⟩ : Bk) = x := (eqBk _ _).2 ⟨by dsimp only; omega, by dsimp only; omega, b2.symm⟩
  subst hxx
  exact ⟨L', rfl, k, h', i', ht.giveAt b6, fun hm => ((b6 _ rfl).1 hm).2 rfl⟩
/-- .. and once more: refused -/
theorem give_out (h : BAt w b m t (stOf n L)) (hi : Inv n L) (hn : (⟨p, o, 1⟩ : Bk) ∉ L) :
    Calls Try.prog 16 #[ptr b, .int .i64 (p : Int), .int .i64 (o : Int)] w fun r w' => r = .returned (.int .i64 2) ∧ Kept (bblk b m t) w w' ∧ BAt w' b m t (stOf n L) := by
  refine (give_spec h hi _ _).mono ?_
  rintro _ w' ⟨e, L', rfl, k, h', i', r⟩
  rcases r with ⟨hh, rfl, rfl⟩ | ⟨x, b1, b2, b3, b4, rfl, b6, b7⟩
  · exact ⟨rfl, k, h'⟩
  have hxx : (⟨p, o, 1⟩ : Bk) = x := (eqBk _ _).2 ⟨by dsimp only; omega, by dsimp only; omega, b2.symm⟩
  exact absurd (hxx ▸ b1) hn
/-- a row without one of its elements -/
theorem drain_app {w1 : World} {base g l c k : Nat} {T : List (Nat × Nat)} (row : w1.ownsRow base 58 2 (.slice (some ⟨g, 0, none⟩) l c) l (tkC T)) (hk : k < l) (hl : l ≤ 100) (hb : base ≤ w1.heap.size) :
    okSl 0 (k : Int) (c : Int) = true ∧ okSl ((k + 1 : Nat) : Int) (l : Int) (c : Int) = true ∧
    ∀ w2, w2 = World.alloc w1 (.cells #[] 58) → ∃ (a1 : Option Addr), ∃ (l1 : Nat), ∃ (c1 : Nat), ∃ (w3 : World),
      appIs Try.prog #[56, 56] 56 (.slice (some ⟨w1.heap.size, 0, none⟩) 0 0) (.slice (some ⟨g, 0, none⟩) k c) (.slice a1 l1 c1) w2 w3 ∧
      ∃ (a2 : Option Addr), ∃ (l2 : Nat), ∃ (c2 : Nat), ∃ (w4 : World),
        appIs Try.prog #[56, 56] 56 (.slice a1 l1 c1) (.slice (offA (some ⟨g, 0, none⟩) c (k + 1) 2) (l - (k + 1)) (c - (k + 1))) (.slice a2 l2 c2) w3 w4 ∧
        l2 = l - 1 ∧ w4.ownsRow base 58 2 (.slice a2 l2 c2) l2 (tkC (T.take k ++ T.drop (k + 1))) ∧ Kept none' w1 w4 := by
  obtain ⟨_, hh⟩ := ownsRow_own row
  rcases hh with ⟨_, h0, _⟩ | ⟨g', cs, hg, hbg, og, htk, hlc, hcs⟩
  · omega
  cases hg
  have hT : T.length = l := by have := row.1; rw [tkC_len] at this; omega
  refine ⟨okSl_of (by omega) (by omega) (by omega), okSl_of (by omega) (by omega) (by omega), fun w2 e2 => ?_⟩
  have k2 : Kept none' w1 w2 := (Kept.refl _ _).al e2
  have r2 : w2.ownsRow w1.heap.size 58 2 (.slice (some ⟨w1.heap.size, 0, none⟩) 0 0) 0 [] := by
    refine ⟨rfl, .inr ⟨_, 0, #[], rfl, Nat.le_refl _, ?_, by decide, by decide, rfl, rfl⟩⟩
    rw [e2]
    simp only [World.alloc]
    simp
  have htc : tkC T = cs.take (l * 2) := htk.symm
  have one' : ∀ (d : List (Nat × Nat)) (u : Value), u ∈ tkC d → u.oneCell' = true := fun d u hu => by
    simp only [tkC, List.mem_flatMap] at hu
    obtain ⟨x, _, hx⟩ := hu
    simp at hx
    rcases hx with rfl | rfl <;> rfl
  have split : ∀ j, tkC (T.take j) = (tkC T).take (j * 2) ∧ tkC (T.drop j) = (tkC T).drop (j * 2) := by
    intro j
    have e : tkC T = tkC (T.take j) ++ tkC (T.drop j) := by rw [← tkC_app, List.take_append_drop]
    by_cases hj : j ≤ T.length
    · have h1 : (tkC (T.take j)).length = j * 2 := by rw [tkC_len, List.length_take]; omega
      constructor
      · rw [e, ← h1, List.take_left]
      · rw [e, ← h1, List.drop_left]
    · rw [List.take_of_length_le (by omega), List.drop_of_length_le (by omega)]
      have := tkC_len T
      exact ⟨(List.take_of_length_le (by omega)).symm, (List.drop_of_length_le (by omega)).symm⟩
  have hs2 := k2.sz
  have n1 : (cs.drop 0).take (k * 2) = tkC (T.take k) := by
    rw [(split k).1, htc, List.take_take, List.drop_zero]
    congr 1; omega
  obtain ⟨a1, l1, c1, w3, happ, rfl, row3, k3⟩ := app_blk r2 (og.k k2) (m := k) (off := 0) (c := c) n1 (by rw [tkC_len, List.length_take]; omega) (one' _) (by omega) (by omega)
  have K3 : Kept none' w1 w3 := own0 k2 k3 fun x hx => by simp [Value.ownBlock] at hx; omega
  refine ⟨a1, _, c1, w3, happ, ?_⟩
  have hs3 := K3.sz
  have og3 := og.k K3
  have n2 : (cs.drop ((k + 1) * 2)).take ((l - (k + 1)) * 2) = tkC (T.drop (k + 1)) := by
    rw [(split (k + 1)).2, htc, List.drop_take]
    congr 1; omega
  obtain ⟨X, off, hoff, hxx⟩ : ∃ X off, offA (some ⟨g, 0, none⟩) c (k + 1) 2 = some ⟨X, off, none⟩ ∧ (own w3 X cs ∧ (cs.drop off).take ((l - (k + 1)) * 2) = tkC (T.drop (k + 1))) := by
    unfold offA
    split
    · refine ⟨g, 0, rfl, og3, ?_⟩
      have e1 : l - (k + 1) = 0 := by omega
      have e2 : T.drop (k + 1) = [] := List.drop_of_length_le (by omega)
      rw [e1, e2]; simp [tkC]
    · refine ⟨g, (k + 1) * 2, ?_, og3, n2⟩
      rw [Option.map_some]
      unfold Addr.add
      simp
  rw [hoff]
  have row3' := row3
  obtain ⟨a2, l2, c2, w4, happ2, rfl, row4, k4⟩ := app_blk row3 hxx.1 (m := l - (k + 1)) (off := off) (c := c - (k + 1)) hxx.2 (by rw [tkC_len, List.length_drop]; omega) (one' _) (by omega) (by omega)
  have K4 : Kept none' w1 w4 := own0 K3 k4 fun x hx => (rowTy row3 hx).1
  have hbase : ∀ {v : Value} {n : Nat} {xs : List Value}, w4.ownsRow w1.heap.size 58 2 v n xs → w4.ownsRow base 58 2 v n xs := fun h => ⟨h.1, by
    rcases h.2 with h | ⟨g, cap, cur, q1, q2, q3⟩
    · exact .inl h
    · exact .inr ⟨g, cap, cur, q1, by omega, q3⟩⟩
  refine ⟨a2, _, c2, w4, happ2, by omega, ?_, K4⟩
  rw [tkC_app]
  have := hbase row4
  rw [List.nil_append] at this
  exact this
end
end Go.Proofs.Ytkmcmkimeibjdaa
