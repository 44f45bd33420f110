/-
  A part of a proof that a law of this seat returns true at every input. Conditions: those in each theorem.
-/
import Derived.Test.YtkancagfhbkhiaaK3
namespace Go.Proofs.Ytkancagfhbkhiaa
open Go Eng
set_option linter.unusedSimpArgs false
set_option linter.unusedVariables false
set_option maxRecDepth 10000

theorem newGood {z c : Nat} {f : Nat → Int} (hm : mayBe z c) (lk : linked c z f (List.range ((256 - c) / z))) : Good (newSl z c) f := by
  obtain ⟨m1, m2, m3, m4, m5, m6⟩ := hm
  have hmod : ((256 % z : Nat) : Int) = 256 % (z : Int) := Int.natCast_emod 256 z
  have hc : c ≤ 256 % z := by
    rw [← hmod] at m6
    generalize 256 % z = q at *
    omega
  refine ⟨by show 8 ≤ z; omega, by show z ≤ 128; omega, hc, rfl, fun i hi => ?_, List.nodup_range, lk, fun i => ?_, fun i hi => absurd rfl hi, fun i => ⟨Int.le_refl 0, by show (0 : Int) ≤ _; omega⟩⟩
  · simp only [newSl, List.mem_range] at hi
    exact hi
  · simp [newSl]
theorem rnew_no {w : World} (b : Option Addr) (bL bC : Nat) (size colour : Int) (hn : ¬ (bL = 256 ∧ mayBe size colour)) : Calls Try.prog 28 #[.slice b bL bC, .int .i64 size, .int .i64 colour] w fun e w' =>
    e = .returned (.tuple #[.pointer none, .int .i64 2]) ∧ w' = w := by
  refine (vc28 b bL bC size colour w (fun v w' => v = .tuple #[.pointer none, .int .i64 2] ∧ w' = w) ?_).mono ?_
  · unfold vcP28
    refine Wif_intro (fun h => ⟨rfl, rfl⟩) (fun h => Wif_intro (fun h2 => ⟨rfl, rfl⟩) (fun h2 => gIf_intro (fun _ => ?_) (Wif_yes ?_ ⟨rfl, rfl⟩)))
    · simp at h2 ⊢; omega
    · refine Decidable.byContradiction fun h3 => hn ?_
      simp at h h2 h3
      obtain ⟨⟨h4, h5⟩, h6⟩ := h2
      obtain ⟨⟨h7, h8⟩, h9⟩ := h3
      rw [Int.tmod_eq_emod_of_nonneg (by omega)] at h6 h8 h9
      exact ⟨by omega, h4, h5, h6, h7, h8, h9⟩
  · rintro e w' ⟨v, rfl, rfl, h⟩
    exact ⟨rfl, h⟩
theorem rnew_ok {w : World} {B bc : Nat} {f0 : Nat → Int} (z c : Nat) (hb : Eng.bytes w B f0) (hbc : 256 ≤ bc) (hm : mayBe z c) : Calls Try.prog 28 #[.slice (some ⟨B, 0, none⟩) 256 bc, .int .i64 z, .int .i64 c] w fun e w' =>
    e = .returned (.tuple #[.pointer (some ⟨w.heap.size, 0, none⟩), .int .i64 0]) ∧ Kept (· = B) w w' ∧
      ∃ a lc f, RAt w' w.heap.size B bc a lc (newSl z c) f ∧ w.heap.size ≤ pb a ∧ ∀ j, (∀ i, i < (256 - c) / z → j ≠ c + i * z) → f j = f0 j := by
  refine (vc28 _ _ _ _ _ w (fun v w' => v = .tuple #[.pointer (some ⟨w.heap.size, 0, none⟩), .int .i64 0] ∧ Kept (· = B) w w' ∧
      ∃ a lc f, RAt w' w.heap.size B bc a lc (newSl z c) f ∧ w.heap.size ≤ pb a ∧ ∀ j, (∀ i, i < (256 - c) / z → j ≠ c + i * z) → f j = f0 j) ?_).mono ?_
  · unfold vcP28
    have hm' := hm
    obtain ⟨m1, m2, m3, m4, m5, m6⟩ := hm
    have hmod : ((256 % z : Nat) : Int) = 256 % (z : Int) := Int.natCast_emod 256 z
    have hc : c ≤ 256 % z := by
      rw [← hmod] at m6
      generalize 256 % z = q at *
      omega
    have hcz : c < z := Nat.lt_of_le_of_lt hc (Nat.mod_lt _ (by omega))
    have hn1 : (256 - c) / z ≤ 32 := by
      calc (256 - c) / z ≤ 256 / z := Nat.div_le_div_right (by omega)
        _ ≤ 256 / 8 := Nat.div_le_div_left (by omega) (by omega)
        _ = 32 := rfl
    have hn0 : 1 ≤ (256 - c) / z := (Nat.le_div_iff_mul_le (by omega)).2 (by omega)
    have hfit : (256 - c) / z * z ≤ 256 - c := Nat.div_mul_le_self _ _
    have hnd : ((256 - c : Nat) : Int) = 256 - (c : Int) := by omega
    have hq : IntKind.wrap .i64 (((256 - c) / z : Nat) : Int) = (((256 - c) / z : Nat) : Int) := by
      clear hfit hmod
      generalize (256 - c) / z = q at *
      exact wi (by omega)
    have hcount : IntKind.wrap .i64 (Int.tdiv (IntKind.wrap .i64 (256 - (c : Int))) z) = (((256 - c) / z : Nat) : Int) := by
      rw [wi (x := 256 - (c : Int)) (by omega), Int.tdiv_eq_ediv_of_nonneg (by omega), ← hnd, ← Int.natCast_ediv, hq]
    rw [hcount]
    clear hcount hq
    have hlt := hb.lt
    have hsz : w.heap.size ≠ B := by omega
    refine Wif_no rfl (Wif_no ?_ (gIf_intro (fun h => by simp; omega) (Wif_no ?_ (Wif_yes (by simp; omega) ?_))))
    · simp
      rw [Int.tmod_eq_emod_of_nonneg (by omega)]
      omega
    · simp
      rw [Int.tmod_eq_emod_of_nonneg (by omega), Int.tmod_eq_emod_of_nonneg (by omega)]
      omega
    have hch : (newSl z c).ch = List.range ((256 - c) / z) := rfl
    have hct : (newSl z c).count = (256 - c) / z := rfl
    generalize hN : (256 - c) / z = N at *
    intro w1 e1
    have o1 := own_alloc e1
    have b1 := hb.al e1
    have k1 := (Kept.refl none' w).al e1
    have z1 : w1.heap.size = w.heap.size + 1 := by rw [e1]; simp
    have o1 : own w1 w.heap.size (rraw B bc z c N none 0 0 (fun _ => false) (fun _ => 0)) := by
      have he : rraw B bc z c N none 0 0 (fun _ => false) (fun _ => 0) = [Value.slice (some ⟨B, 0, none⟩) 256 bc, .int .i64 z, .int .i64 c, .int .i64 N, .slice none 0 0] ++ (List.replicate 32 (.bool false) ++ List.replicate 32 (.int .u64 0)) := by
        unfold rraw
        rw [List.map_const', List.map_const']
        simp
      rw [he]; exact o1
    clear e1
    refine ⟨fun n w' m => ∃ (k : Nat) (a : Option Addr) (lc : Nat), n = k ∧ k ≤ N ∧ m = N - k ∧ Kept none' w w' ∧ own w' w.heap.size (rraw B bc z c N a k lc (fun _ => false) (fun _ => 0)) ∧ Eng.bytes w' B f0 ∧ w'.ownsRow (w.heap.size + 1) 3 1 (.slice a k lc) k (ints (List.range k)) ∧ w.heap.size + 1 ≤ w'.heap.size,
      ⟨N, 0, none, 0, rfl, by omega, by omega, k1, o1, b1, World.ownsRow_nil _ _ _ _, by omega⟩, ?_⟩
    rintro n w2 m ⟨k, a, lc, rfl, hk, rfl, k2, o2, b2, row2, z2⟩
    refine ⟨_, (o2.rd 3).trans (rraw_3 ..), Wif_intro (fun hkn => ?_) (fun hkn => ?_)⟩
    · simp at hkn
      refine ⟨_, _, _, (o2.rd 4).trans (rraw_4 ..), ?_⟩
      intro w3 e3
      have o3 := o2.al e3
      have b3 := b2.al e3
      have k3 := k2.al (c := #[.int .i64 (k : Int)]) e3
      have row3 : w3.ownsRow (w.heap.size + 1) 3 1 (.slice a k lc) k (ints (List.range k)) := by rw [e3]; exact row2.alloc _
      have z3 : w3.heap.size = w2.heap.size + 1 := by rw [e3]; simp
      have sc : Src w3 (some ⟨w2.heap.size, 0, none⟩) 1 1 (ints [k]) := one_src e3
      obtain ⟨a', c', w4, ha, row4, k4⟩ := app_ints row3 sc rfl (by omega) (by omega)
      have hX : ∀ b, (Value.slice a k lc).ownBlock = some b → w.heap.size + 1 ≤ b := fun b hb => (row3.lt b hb).1
      have o4 := o3.kx k4 (fun x => by have := hX _ x; omega)
      have b4 := b3.kx k4 (fun x => by have := hX _ x; omega)
      have k4' := k3.go k4 (fun b hb => .inr (by have := hX _ hb; omega))
      refine ⟨a', k + 1, c', w4, ha, o4.wr (by rw [rraw_len]; simp), ?_⟩
      intro w5 e5
      have o5 := o4.s1 e5
      rw [rraw_set4] at o5
      have z5 : w5.heap.size = w4.heap.size := by rw [e5]; simp
      have z4 := k4.sz
      have row5 : w5.ownsRow (w.heap.size + 1) 3 1 (.slice a' (k + 1) c') (k + 1) (ints (List.range (k + 1))) := by
        have := ownsRow_kx row4 ((Kept.refl (· = w.heap.size) w4).s1 e5 (.inl rfl)) (fun b hb _ _ => by omega)
        rw [List.range_succ]
        simpa [ints] using this
      exact ⟨N - (k + 1), by omega, k + 1, a', c', by rw [wi (by omega)]; rfl, by omega, rfl, k4'.s1 e5 (.inr (Nat.le_refl _)), o5, b4.n1 e5 (Ne.symm hsz), row5, by omega⟩
    · simp at hkn
      have : k = N := by omega
      subst this
      have hpb : w.heap.size + 1 ≤ pb a := by
        rcases (ownsRow_own row2).2 with ⟨_, h0, _⟩ | ⟨g, cs, rfl, hg, _⟩
        · omega
        · exact hg
      have ras : RAs w2 w.heap.size B bc a lc (newSl z c) := by
        refine ⟨?_, ?_, ?_, hsz, fun x => by omega, fun x => by omega⟩
        · rw [hch, hct, List.length_range]; exact o2
        · rw [hch, List.length_range]; exact Src.of_row row2
        · rw [hch, List.length_range]; exact (row_len row2).2
      have hz0 : 0 < z := by omega
      have gd := newGood (f := wrote c z (List.range k) f0 k) hm' (by rw [hN]; have := wrote_linked (f := f0) (c := c) hz0 (List.nodup_range (n := k)); simpa using this)
      refine (write_spec ras b2 (fun i hi => ?_) (fun i hi => ?_) gd.s128 ?_ ?_).mono ?_
      · have h1 := gd.fits (gd.lt i hi)
        have h8 := gd.s8
        omega
      · have := gd.lt i hi
        omega
      · show c ≤ 128
        omega
      · rw [hch, List.length_range]; exact hn1
      rintro _ w5 ⟨rfl, k5, as5, b5⟩
      have hb5 : wrote (newSl z c).colour (newSl z c).size (newSl z c).ch f0 (newSl z c).ch.length = wrote c z (List.range k) f0 k := by
        rw [hch, List.length_range]; rfl
      rw [hb5] at b5
      refine ⟨rfl, rfl, (k2.weak (fun b hb => hb.elim)).go k5 (fun b hb => .inl hb), a, lc, _, ⟨as5.so, b5, as5.ch, as5.le, hsz, as5.nR, as5.nB, hbc, gd⟩, by omega, fun j hj => ?_⟩
      refine wrote_off _ fun i hi => ?_
      have : (List.range k).getD i 0 = i := by simp [List.getD, hi]
      rw [this]
      exact hj i hi
  · rintro e w' ⟨v, rfl, rfl, h⟩
    exact ⟨rfl, h⟩
/-- two ways to lay the first chain come to the same bytes -/
theorem new_same {z c : Nat} {f f' f0 : Nat → Int} (g : Good (newSl z c) f) (g' : Good (newSl z c) f') (h : ∀ j, (∀ i, i < (256 - c) / z → j ≠ c + i * z) → f j = f0 j) (h' : ∀ j, (∀ i, i < (256 - c) / z → j ≠ c + i * z) → f' j = f0 j) : f = f' := by
  funext j
  by_cases hj : ∃ i, i < (256 - c) / z ∧ j = c + i * z
  · obtain ⟨i, hi, rfl⟩ := hj
    have hl : (newSl z c).ch.length = (256 - c) / z := by simp [newSl]
    have h1 := linked_get.1 g.link i (by rw [hl]; exact hi)
    have h2 := linked_get.1 g'.link i (by rw [hl]; exact hi)
    have hg : (newSl z c).ch.getD i 0 = i := by simp [newSl, List.getD, hi]
    rw [hg] at h1 h2
    exact h1.trans h2.symm
  · have hx : ∀ i, i < (256 - c) / z → j ≠ c + i * z := fun i hi e => hj ⟨i, hi, e⟩
    rw [h j hx, h' j hx]
end Go.Proofs.Ytkancagfhbkhiaa
