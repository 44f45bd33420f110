/-
  A part of a proof that a law of this seat returns true at every input. Conditions: those in each theorem.
-/
import Derived.Test.YtkmcmkimeibjdaaBQ2
namespace Go.Proofs.Ytkmcmkimeibjdaa
open Go Eng
set_option linter.unusedSimpArgs false
set_option linter.unusedVariables false
set_option maxRecDepth 100000
/-! ### the document's New -/
theorem bks_app (A B : List Bk) : bks (A ++ B) = bks A ++ bks B := by simp [bks, frB]
theorem bks_free {x : Bk} (h : x.g = 0) (B : List Bk) : bks (x :: B) = (x.p, x.o) :: bks B := by simp [bks, frB, h]
theorem bks_held {x : Bk} (h : x.g ≠ 0) (B : List Bk) : bks (x :: B) = bks B := by simp [bks, frB, h]
theorem bks_nil : bks [] = [] := rfl
theorem mem_bks {L : List Bk} {y : Nat × Nat} : y ∈ bks L ↔ ∃ x ∈ L, x.g = 0 ∧ (x.p, x.o) = y := by
  simp only [bks, List.mem_map, mem_frB]
  constructor
  · rintro ⟨x, ⟨h1, h2⟩, h3⟩; exact ⟨x, h1, h2, h3⟩
  · rintro ⟨x, h1, h2, h3⟩; exact ⟨x, ⟨h1, h2⟩, h3⟩
theorem bks_le {L : List Bk} {n : Nat} (h : Tile 0 L n) : (bks L).length ≤ n := by
  have := tile_le h; have := frB_len L; have := bks_len L; omega
theorem shlU {o : Nat} (ho : o ≤ 10) : IntKind.wrap .i64 (1 * 2 ^ min (Int.toNat (IntKind.wrap .u64 (o : Int))) 64) = ((2 ^ o : Nat) : Int) := by
  rw [wu (by omega)]; exact shl1 ho
theorem rnew_spec (w : World) (n : Nat) (hn : 1 ≤ n ∧ n ≤ 128) : Calls Try.prog 31 #[.int .i64 (n : Int)] w fun r w' => ∃ l, r = .returned (ptr w.heap.size) ∧ Kept none' w w' ∧ RAt w' w.heap.size n (bks l) [] ∧ Inv n l ∧ ∀ x ∈ l, x.g = 0 := by
  refine (vc31 (n : Int) w (fun v w' => ∃ l, v = ptr w.heap.size ∧ Kept none' w w' ∧ RAt w' w.heap.size n (bks l) [] ∧ Inv n l ∧ ∀ x ∈ l, x.g = 0) ?_).mono ?_
  · unfold vcP31
    intro w1 e1
    have o1 := own_alloc (c := [.int .i64 (n : Int), .slice none 0 0, .slice none 0 0]) e1
    have k1 : Kept none' w w1 := (Kept.refl _ _).al e1
    generalize hz : w.heap.size = z at *
    refine ⟨fun k w' M => ∃ (at' : Nat) (l : List Bk) (fa : Option Addr) (fc : Nat), k = (at' : Int) ∧ at' ≤ n ∧ n - at' = M ∧ Kept none' w w' ∧ Tile 0 l at' ∧ (∀ x ∈ l, x.g = 0) ∧ (∀ x ∈ l, Mx n x) ∧ own w' z [.int .i64 (n : Int), .slice fa (bks l).length fc, .slice none 0 0] ∧ w'.ownsRow (z + 1) 58 2 (.slice fa (bks l).length fc) (bks l).length (tkC (bks l)),
      ⟨n, 0, [], none, 0, rfl, by omega, rfl, k1, by simp [Tile], by simp, by simp, o1, World.ownsRow_nil _ _ _ _⟩, ?_⟩
    rintro _ w2 _ ⟨at', l, fa, fc, rfl, hat, rfl, k2, htl, hg, hm, o2, row2⟩
    refine Wif_intro (fun hc => ?_) (fun hc => ?_)
    · have hlt : at' < n := by simp at hc; omega
      refine ⟨fun best o w' M => ∃ (bb oo : Nat), best = (bb : Int) ∧ o = (oo : Int) ∧ oo ≤ 11 ∧ 11 - oo = M ∧ w' = w2 ∧ bb ≤ 10 ∧ at' % 2 ^ bb = 0 ∧ at' + 2 ^ bb ≤ n ∧ ∀ j, j < oo → at' % 2 ^ j = 0 → at' + 2 ^ j ≤ n → j ≤ bb,
        ⟨11, 0, 0, rfl, rfl, by omega, rfl, rfl, by omega, by simp [Nat.mod_one], by simp; omega, fun j hj => by omega⟩, ?_⟩
      rintro _ _ _ _ ⟨bb, oo, rfl, rfl, hoo, rfl, rfl, hbb, hb1, hb2, hmax⟩
      refine Wif_intro (fun hc2 => ?_) (fun hc2 => ?_)
      · have hoo' : oo ≤ 10 := by simp at hc2; omega
        have hp := p2 oo
        have hp10 := pow10 hoo'
        have ew : IntKind.wrap .i64 ((oo : Int) + 1) = ((oo + 1 : Nat) : Int) := by rw [wi (by omega)]; rfl
        have et : Int.tmod (at' : Int) ((2 ^ oo : Nat) : Int) = ((at' % 2 ^ oo : Nat) : Int) := by rw [Int.tmod_eq_emod_of_nonneg (by omega)]; rfl
        have ea : IntKind.wrap .i64 ((at' : Int) + ((2 ^ oo : Nat) : Int)) = ((at' + 2 ^ oo : Nat) : Int) := by rw [wi (by omega)]; rfl
        rw [shlU hoo', wu (by omega), ew, et, ea]
        refine Wif_yes (by simp) (Wif_yes (by rw [bne_iff_ne]; omega) (Wif_intro (fun hh => ?_) (fun hh => ?_)))
        · simp only [Bool.and_eq_true, beq_iff_eq, decide_eq_true_eq] at hh
          exact ⟨11 - (oo + 1), by omega, oo, oo + 1, rfl, rfl, by omega, rfl, rfl, hoo', by omega, by omega, fun j hj _ _ => by omega⟩
        · refine ⟨11 - (oo + 1), by omega, bb, oo + 1, rfl, rfl, by omega, rfl, rfl, hbb, hb1, hb2, fun j hj h1 h2 => ?_⟩
          by_cases e : j = oo
          · subst e
            simp only [Bool.and_eq_false_iff, beq_eq_false_iff_ne, decide_eq_false_iff_not] at hh
            rcases hh with h | h <;> omega
          · exact hmax j (by omega) h1 h2
      · have hoo' : oo = 11 := by simp at hc2; omega
        subst hoo'
        rename_i w2
        refine ⟨_, _, _, by rw [o2.rd]; rfl, fun w3 e3 => ?_⟩
        have hlen := tile_le htl
        have hlen2 := bks_le htl
        obtain ⟨a2, l2, c2, w4, happ, rfl, row4, k4, hs4⟩ := row_add row2 e3 (show z + 1 ≤ w2.heap.size from o2.lt) (by omega)
        have hb : ∀ x, (Value.slice fa (bks l).length fc).ownBlock = some x → z + 1 ≤ x := fun x hx => (rowTy row2 hx).1
        have o4 := o2.kx k4 fun hx => by have := hb _ hx; omega
        have K4 := own0 k2 k4 fun x hx => by have := hb x hx; omega
        refine ⟨a2, _, c2, w4, happ, o4.wr (by simp), fun w5 e5 => ?_⟩
        have o5 := o4.s1 e5
        have k5 : Kept (· = z) w4 w5 := (Kept.refl _ _).s1 e5 (.inl rfl)
        have row5 := ownsRow_kx row4 k5 fun x hx _ _ hh => by omega
        have K5 := own0 K4 k5 fun x hx => by omega
        have hp10 := pow10 hbb
        rw [shlU hbb, wu (by omega)]
        have ea : IntKind.wrap .i64 ((at' : Int) + ((2 ^ bb : Nat) : Int)) = ((at' + 2 ^ bb : Nat) : Int) := by rw [wi (by omega)]; rfl
        rw [ea]
        have hp := p2 bb
        have ebk : bks (l ++ [⟨at', bb, 0⟩]) = bks l ++ [(at', bb)] := by rw [bks_app]; rfl
        have hll : (bks (l ++ [⟨at', bb, 0⟩])).length = (bks l).length + 1 := by rw [ebk]; simp
        refine Wif_yes (by simp) ⟨n - (at' + 2 ^ bb), by omega, at' + 2 ^ bb, l ++ [⟨at', bb, 0⟩], a2, c2, rfl, by omega, rfl, K5, ?_, ?_, ?_, ?_, ?_⟩
        · exact tile_app.2 ⟨at', htl, ⟨rfl, hb1, hbb, rfl⟩⟩
        · intro x hx
          rcases List.mem_append.1 hx with h | h
          · exact hg x h
          · simp at h; subst h; rfl
        · intro x hx
          rcases List.mem_append.1 hx with h | h
          · exact hm x h
          · simp at h
            subst h
            unfold Mx
            dsimp only
            by_cases h10 : bb = 10
            · exact .inl h10
            · right
              by_cases h1 : at' % 2 ^ (bb + 1) = 0
              · right
                have := hmax (bb + 1) (by omega) h1
                omega
              · exact .inl h1
        · rw [hll]; exact o5
        · rw [hll, ebk]; exact row5
    · have hat' : at' = n := by simp at hc; omega
      subst hat'
      exact ⟨l, rfl, k2, ⟨fa, _, fc, none, _, 0, o2, rfl, rfl, row_weak row2, World.ownsRow_nil _ _ _ _⟩, inv_new hn htl hg hm, hg⟩
  · rintro e w' ⟨v, rfl, l, rfl, hw⟩
    exact ⟨l, rfl, hw⟩
end Go.Proofs.Ytkmcmkimeibjdaa
