/-
  A part of a proof that a law of this seat returns true at every input. Conditions: those in each theorem.
-/
import Derived.Test.YtkancagfhbkhiaaD2c
namespace Go.Proofs.Ytkancagfhbkhiaa
open Go Eng
set_option linter.unusedSimpArgs false
set_option linter.unusedVariables false
set_option maxRecDepth 10000

/-! ### Add -/
def insL (e : Slb) : List Slb → List Slb
  | [] => [e]
  | x :: l => if x.fr < e.fr then x :: insL e l else e :: x :: l
theorem insL_perm (e : Slb) (L : List Slb) : (insL e L).Perm (e :: L) := by
  induction L with
  | nil => exact List.Perm.refl _
  | cons x l ih =>
    unfold insL
    split
    · exact (List.Perm.cons x ih).trans (List.Perm.swap e x l)
    · exact List.Perm.refl _
theorem insL_mem {e x : Slb} {L : List Slb} : x ∈ insL e L ↔ x = e ∨ x ∈ L := by rw [(insL_perm e L).mem_iff, List.mem_cons]
theorem insL_sorted {e : Slb} {L : List Slb} (h : (L.map (·.fr)).Pairwise (· < ·)) (hn : ∀ x ∈ L, x.fr ≠ e.fr) : ((insL e L).map (·.fr)).Pairwise (· < ·) := by
  induction L with
  | nil => simp [insL]
  | cons x l ih =>
    rw [List.map_cons, List.pairwise_cons] at h
    have hx := hn x (List.mem_cons_self ..)
    unfold insL
    split
    · rename_i hlt
      rw [List.map_cons, List.pairwise_cons]
      refine ⟨fun n hm => ?_, ih h.2 fun y hy => hn y (List.mem_cons_of_mem _ hy)⟩
      obtain ⟨y, hy, rfl⟩ := List.mem_map.1 hm
      rcases insL_mem.1 hy with rfl | hy
      · exact hlt
      · exact h.1 _ (List.mem_map.2 ⟨y, hy, rfl⟩)
    · rename_i hge
      rw [List.map_cons, List.pairwise_cons, List.map_cons, List.pairwise_cons]
      refine ⟨fun n hm => ?_, h⟩
      rcases List.mem_cons.1 hm with rfl | hm
      · omega
      · have := h.1 n hm
        omega
theorem insL_len (e : Slb) (L : List Slb) : (insL e L).length = L.length + 1 := by rw [(insL_perm e L).length_eq]; rfl
theorem apart_symm {a b : Nat × Nat} (h : apart a b) : apart b a := ⟨Ne.symm h.1, Ne.symm h.2.2.1, Ne.symm h.2.1, Ne.symm h.2.2.2⟩
def nextCol (z c : Nat) : Nat := if c + 8 ≤ 256 % z then c + 8 else 0
theorem mayBe_next {z c : Nat} (h : mayBe z c) : mayBe z (nextCol z c) := by
  obtain ⟨m1, m2, m3, m4, m5, m6⟩ := h
  have hmod : ((256 % z : Nat) : Int) = 256 % (z : Int) := Int.natCast_emod 256 z
  unfold nextCol
  split
  · refine ⟨m1, m2, m3, by omega, by omega, ?_⟩
    rw [← hmod]; omega
  · refine ⟨m1, m2, m3, by omega, by omega, ?_⟩
    rw [← hmod]; omega
section
variable {w w' : World} {C M z c : Nat} {L L1 L2 : List Slb}
theorem cadd_bad (h : CAt w C M z c L) (fr : Int) (b : Option Addr) (bl bc : Nat) (hb : fr < 0 ∨ bl ≠ 256) : Calls Try.prog 37 #[ptr C, .int .i64 fr, .slice b bl bc] w fun r w' => r = .returned (.int .i64 2) ∧ w' = w := by
  refine (vc37 _ _ _ _ _ w (fun v w' => v = .int .i64 2 ∧ w' = w) ?_).mono ?_
  · unfold vcP37
    exact gIf_intro (fun _ => rfl) ⟨some M, fun _ => h.rC2, Wif_no rfl (Wif_yes (by simp; omega) ⟨rfl, rfl⟩)⟩
  · rintro e w' ⟨v, rfl, rfl, h⟩
    exact ⟨rfl, h⟩
theorem cadd_twice {e : Slb} (h : CAt w C M z c L) (he : e ∈ L) (b : Option Addr) (bc : Nat) : Calls Try.prog 37 #[ptr C, .int .i64 e.fr, .slice b 256 bc] w fun r w' => r = .returned (.int .i64 8) ∧ w' = w := by
  refine (vc37 _ _ _ _ _ w (fun v w' => v = .int .i64 8 ∧ w' = w) ?_).mono ?_
  · unfold vcP37
    have := h.nn e he
    exact gIf_intro (fun _ => rfl) ⟨some M, fun _ => h.rC2, Wif_no rfl (Wif_no (by simp; omega) (Wif_yes rfl ⟨_, h.rC2, _, h.l1 he, Wif_yes rfl ⟨rfl, rfl⟩⟩))⟩
  · rintro e w' ⟨v, rfl, rfl, h⟩
    exact ⟨rfl, h⟩
theorem cadd_ok (h : CAt w C M z c L) (fr : Int) (h0 : 0 ≤ fr) (h1 : fr ≤ 9223372036854775807) (hn : ∀ e ∈ L, e.fr ≠ fr) {B bc : Nat} {f0 : Nat → Int} (hb : Eng.bytes w B f0) (hbc : 256 ≤ bc) (hB : ¬ blk C M L B) :
    Calls Try.prog 37 #[ptr C, .int .i64 fr, .slice (some ⟨B, 0, none⟩) 256 bc] w fun r w' => r = .returned (.int .i64 0) ∧ Kept (fun b => b = B ∨ b = C ∨ b = M) w w' ∧
      ∃ S f, w.heap.size ≤ S ∧ CAt w' C M z (nextCol z c) (insL ⟨fr, S, B, bc, newSl z c, f⟩ L) ∧ ∀ j, (∀ i, i < (256 - c) / z → j ≠ c + i * z) → f j = f0 j := by
  refine (vc37 _ _ _ _ _ w (fun v w' => v = .int .i64 0 ∧ Kept (fun b => b = B ∨ b = C ∨ b = M) w w' ∧
      ∃ S f, w.heap.size ≤ S ∧ CAt w' C M z (nextCol z c) (insL ⟨fr, S, B, bc, newSl z c, f⟩ L) ∧ ∀ j, (∀ i, i < (256 - c) / z → j ≠ c + i * z) → f j = f0 j) ?_).mono ?_
  · unfold vcP37
    simp only [isP_some, Wif_true, gIf_true, pb_some, po_some, Nat.zero_add, Nat.mul_one]
    have hzc := h.zc
    obtain ⟨m1, m2, m3, m4, m5, m6⟩ := hzc
    have hmod : ((256 % z : Nat) : Int) = 256 % (z : Int) := Int.natCast_emod 256 z
    have hc256 : c ≤ 256 % z := by rw [← hmod] at m6; omega
    have hmz : 256 % z < z := Nat.mod_lt _ (by omega)
    refine ⟨some M, fun _ => h.rC2, Wif_no rfl (Wif_no (by simp; omega) ⟨_, h.rC2, _, h.l1n hn, Wif_no rfl ?_⟩)⟩
    intro w1 e1
    have k1 : Kept none' w w1 := (Kept.refl _ _).dr e1
    have h1' := h.k k1
    have hz1 : w1.heap.size = w.heap.size := by rw [e1]; rfl
    refine ⟨_, h1'.rC0, _, h1'.rC1, (new_ok (w := w1) (B := B) z c (hb.k k1) hbc h.zc).mono ?_⟩
    rintro _ w2 ⟨rfl, k2, f, a2, hf⟩
    rw [hz1] at a2 ⊢
    have hlt : ∀ b, blk C M L b → b < w.heap.size := fun b hb => h.lt hb
    have h2 := h1'.kx k2 (fun b hb hx => hB (by rw [← hb]; exact hx))
    refine ⟨_, _, rfl, Wif_no rfl ⟨_, h2.rC2, ?_⟩⟩
    obtain ⟨w3, hu, hm3, k3⟩ := upd_new (vt := 23) (kt := 3) (mt := 76) Try.underlying76 Try.underlying3 h2.mp fr (ptr w.heap.size) ⟨by omega, h1⟩ (h2.look_out hn)
    have hSn : ∀ b, blk C M L b → b ≠ w.heap.size := fun b hb => by have := hlt b hb; omega
    have hSC := hSn C (.inl rfl)
    have hSM := hSn M (.inr (.inl rfl))
    have hBC : B ≠ C := fun e => hB (.inl e)
    have hBM : B ≠ M := fun e => hB (.inr (.inl e))
    have o3 := h2.co.kx k3 h.cm
    refine ⟨w3, hu, _, by rw [o3.rd]; rfl, o3.wr (by simp), ?_⟩
    intro w4 e4
    have o4 := o3.s1 e4
    have hw8 : IntKind.wrap .i64 ((c : Int) + 8) = ((c + 8 : Nat) : Int) := by rw [wi (by omega)]; rfl
    rw [hw8] at o4 e4
    simp only [List.set_cons_succ, List.set_cons_zero] at o4
    intro w5 e5
    have o5 := o4.dr e5
    have k35 : Kept (· = C) w3 w5 := ((Kept.refl (· = C) w3).s1 e4 (.inl rfl)).dr e5
    -- what is there now, whatever the colour
    have fin : ∀ w6 : World, Kept (· = C) w3 w6 → own w6 C [.int .i64 z, .int .i64 (nextCol z c : Nat), .map (some M)] →
        Kept (fun b => b = B ∨ b = C ∨ b = M) w w6 ∧ ∃ S f, w.heap.size ≤ S ∧ CAt w6 C M z (nextCol z c) (insL ⟨fr, S, B, bc, newSl z c, f⟩ L) ∧ ∀ j, (∀ i, i < (256 - c) / z → j ≠ c + i * z) → f j = f0 j := by
      intro w6 k6 o6
      have ka : Kept (fun b => b = B ∨ b = C ∨ b = M) w w2 := (k1.weak (fun b hb => hb.elim)).go k2 (fun b hb => .inl (.inl hb))
      have kb := ka.go k3 (fun b hb => .inl (.inr (.inr hb)))
      have kc := kb.go k6 (fun b hb => .inl (.inr (.inl hb)))
      refine ⟨kc, w.heap.size, f, Nat.le_refl _, ?_, hf⟩
      have hperm := insL_perm (⟨fr, w.heap.size, B, bc, newSl z c, f⟩ : Slb) L
      have k36 : Kept (fun b => b = C ∨ b = M) w2 w6 := (k3.weak (fun b hb => .inl (.inr hb))).go k6 (fun b hb => .inl (.inl hb))
      refine ⟨o6, ?_, ?_, insL_sorted h.so hn, ?_, ?_, ?_, h.cm, mayBe_next h.zc⟩
      · have hm6 := hm3.kx k6 (Ne.symm h.cm)
        refine hm6.perm ?_
        refine (List.perm_append_comm).trans ?_
        exact (hperm.map fun e : Slb => (e.fr, ptr e.S)).symm
      · intro x hx
        rcases insL_mem.1 hx with rfl | hx
        · exact ⟨a2.kx k36 (by rintro (h | h) <;> omega) (by rintro (h | h) <;> omega), rfl⟩
        · obtain ⟨n1, n2, n3, n4⟩ := h.nC x hx
          exact ⟨(h2.sl x hx).1.kx k36 (by rintro (h | h) <;> omega) (by rintro (h | h) <;> omega), (h2.sl x hx).2⟩
      · intro x hx
        rcases insL_mem.1 hx with rfl | hx
        · exact h0
        · exact h.nn x hx
      · have hp := (hperm.map fun e : Slb => (e.S, e.B)).pairwise_iff (R := apart) (fun {a b} h => apart_symm h)
        refine hp.2 ?_
        rw [List.map_cons, List.pairwise_cons]
        refine ⟨fun q hq => ?_, h.ap⟩
        obtain ⟨x, hx, rfl⟩ := List.mem_map.1 hq
        have e1 := hSn x.S (.inr (.inr ⟨x, hx, .inl rfl⟩))
        have e2 := hSn x.B (.inr (.inr ⟨x, hx, .inr rfl⟩))
        have e3 : B ≠ x.S := fun e => hB (.inr (.inr ⟨x, hx, .inl e⟩))
        have e4 : B ≠ x.B := fun e => hB (.inr (.inr ⟨x, hx, .inr e⟩))
        exact ⟨Ne.symm e1, Ne.symm e2, e3, e4⟩
      · intro x hx
        rcases insL_mem.1 hx with rfl | hx
        · exact ⟨Ne.symm hSC, hBC, Ne.symm hSM, hBM⟩
        · exact h.nC x hx
    have htm : Int.tmod 256 (z : Int) = ((256 % z : Nat) : Int) := by rw [Int.tmod_eq_emod_of_nonneg (by omega), hmod]
    refine ⟨_, by rw [o5.rd]; rfl, _, by rw [o5.rd]; rfl, Wif_yes (by simp; omega) ?_⟩
    rw [htm]
    refine Wif_intro (fun hgt => ?_) (fun hle => ?_)
    · simp only [decide_eq_true_eq] at hgt
      refine ⟨o5.wr (by simp), ?_⟩
      intro w6 e6
      have o6 := o5.s1 e6
      simp only [List.set_cons_succ, List.set_cons_zero] at o6
      have hnc : nextCol z c = 0 := by unfold nextCol; rw [if_neg (by omega)]
      exact ⟨trivial, fin w6 (k35.s1 e6 (.inl rfl)) (by rw [hnc]; exact o6)⟩
    · simp only [decide_eq_false_iff_not] at hle
      have hnc : nextCol z c = c + 8 := by unfold nextCol; rw [if_pos (by omega)]
      exact ⟨trivial, fin w5 k35 (by rw [hnc]; exact o5)⟩
  · rintro e w' ⟨v, rfl, rfl, h⟩
    exact ⟨rfl, h⟩
/-! ### New -/
theorem cnew_no (size : Int) (hm : ¬ mayBe size 0) (w : World) : Calls Try.prog 35 #[.int .i64 size] w fun r w' => r = .returned (.tuple #[.pointer none, .int .i64 2]) ∧ Kept none' w w' := by
  refine (vc35 _ w (fun v w' => v = .tuple #[.pointer none, .int .i64 2] ∧ Kept none' w w') ?_).mono ?_
  · unfold vcP35
    intro w1 e1
    have k1 := (Kept.refl none' w).al e1
    refine (new_no (w := w1) _ _ _ _ _ (fun h => hm h.2)).mono ?_
    rintro _ w2 ⟨rfl, rfl⟩
    exact ⟨_, _, rfl, Wif_yes rfl ⟨rfl, k1⟩⟩
  · rintro e w' ⟨v, rfl, rfl, h⟩
    exact ⟨rfl, h⟩
theorem cnew_ok (z : Nat) (hm : mayBe z 0) (w : World) : Calls Try.prog 35 #[.int .i64 z] w fun r w' => ∃ C M, r = .returned (.tuple #[ptr C, .int .i64 0]) ∧ Kept none' w w' ∧ w.heap.size ≤ C ∧ w.heap.size ≤ M ∧ CAt w' C M z 0 [] := by
  refine (vc35 _ w (fun v w' => ∃ C M, v = .tuple #[ptr C, .int .i64 0] ∧ Kept none' w w' ∧ w.heap.size ≤ C ∧ w.heap.size ≤ M ∧ CAt w' C M z 0 []) ?_).mono ?_
  · unfold vcP35
    intro w1 e1
    have k1 := (Kept.refl none' w).al e1
    have b1 := bytes_new e1
    have hlt := b1.lt
    refine (new_ok (w := w1) (B := w.heap.size) z 0 b1 (Nat.le_refl _) hm).mono ?_
    rintro _ w2 ⟨rfl, k2, f, a2, _⟩
    have k2' := k1.go k2 (fun b hb => .inr (by omega))
    refine ⟨_, _, rfl, Wif_no rfl ?_⟩
    intro w3 e3
    have k3 : Kept none' w w3 := by rw [e3]; exact k2'.allocMap _ _
    have m3 := map_new e3
    have z3 : w3.heap.size = w2.heap.size + 1 := by rw [e3]; simp
    intro w4 e4
    have k4 := k3.al (c := #[.int .i64 z, .int .i64 0, .map (some w2.heap.size)]) e4
    have o4 : own w4 w3.heap.size [.int .i64 z, .int .i64 0, .map (some w2.heap.size)] := own_alloc e4
    have s2 := k2'.sz
    exact ⟨w3.heap.size, w2.heap.size, rfl, k4, by omega, s2, o4, m3.al e4, fun x hx => (by cases hx), List.Pairwise.nil, fun x hx => (by cases hx), List.Pairwise.nil, fun x hx => (by cases hx), by omega, hm⟩
  · rintro e w' ⟨v, rfl, C, M, rfl, h⟩
    exact ⟨C, M, rfl, h⟩
end
end Go.Proofs.Ytkancagfhbkhiaa
