/-
  A part of a proof that a law of this seat returns true at every input. Conditions: those in each theorem.
-/
import Derived.Test.YtkancagfhbkhiaaC2
namespace Go.Proofs.Ytkancagfhbkhiaa
open Go Eng
set_option linter.unusedSimpArgs false
set_option linter.unusedVariables false
set_option maxRecDepth 10000

/-! ### New -/
def mayBe (size colour : Int) : Prop := 8 ≤ size ∧ size ≤ 128 ∧ size % 8 = 0 ∧ 0 ≤ colour ∧ colour % 8 = 0 ∧ colour ≤ 256 % size
instance (size colour : Int) : Decidable (mayBe size colour) := by unfold mayBe; infer_instance
def newSl (z c : Nat) : Sl := { size := z, colour := c, count := (256 - c) / z, ch := List.range ((256 - c) / z), out := fun _ => false, turn := fun _ => 0 }
theorem fst_range' (k m : Nat) : fst (List.range' k m) = if m = 0 then 255 else (k : Int) := by
  cases m with
  | zero => rfl
  | succ m => simp [List.range'_succ, fst]
theorem new_no {w : World} (b : Option Addr) (bL bC : Nat) (size colour : Int) (hn : ¬ (bL = 256 ∧ mayBe size colour)) : Calls Try.prog 15 #[.slice b bL bC, .int .i64 size, .int .i64 colour] w fun e w' =>
    e = .returned (.tuple #[.pointer none, .int .i64 2]) ∧ w' = w := by
  refine (vc15 b bL bC size colour w (fun v w' => v = .tuple #[.pointer none, .int .i64 2] ∧ w' = w) ?_).mono ?_
  · unfold vcP15
    refine gIf_intro (fun h => ?_) (Wif_yes ?_ ⟨rfl, rfl⟩)
    · simp at h ⊢; omega
    · refine Decidable.byContradiction fun h => hn ?_
      simp at h
      obtain ⟨⟨⟨⟨⟨⟨h1, h2⟩, h3⟩, h4⟩, h5⟩, h6⟩, h7⟩ := h
      rw [Int.tmod_eq_emod_of_nonneg (by omega)] at h4 h6 h7
      exact ⟨by omega, h2, h3, h4, h5, h6, h7⟩
  · rintro e w' ⟨v, rfl, rfl, h⟩
    exact ⟨rfl, h⟩
/-- what the loop has laid when it comes to n -/
structure Lays (w : World) (S B bc : Nat) (f0 : Nat → Int) (z c n : Nat) (k : Int) (w' : World) (m : Nat) : Prop where
  lo : 0 ≤ k + 1
  hi : k + 1 ≤ n
  dec : (m : Int) = k + 1
  fr : Kept (· = B) w w'
  new : w.heap.size ≤ S
  so : ∃ f, own w' S (raw B bc z c n (fst (List.range' (k + 1).toNat (n - (k + 1).toNat))) ((n - (k + 1).toNat : Nat) : Int) (fun _ => false) (fun _ => 0)) ∧ Eng.bytes w' B f ∧ linked c z f (List.range' (k + 1).toNat (n - (k + 1).toNat)) ∧
    ∀ j, (∀ i, i < n → j ≠ c + i * z) → f j = f0 j
theorem new_ok {w : World} {B bc : Nat} {f0 : Nat → Int} (z c : Nat) (hb : Eng.bytes w B f0) (hbc : 256 ≤ bc) (hm : mayBe z c) : Calls Try.prog 15 #[.slice (some ⟨B, 0, none⟩) 256 bc, .int .i64 z, .int .i64 c] w fun e w' =>
    e = .returned (.tuple #[.pointer (some ⟨w.heap.size, 0, none⟩), .int .i64 0]) ∧ Kept (· = B) w w' ∧
      ∃ f, At w' w.heap.size B bc (newSl z c) f ∧ ∀ j, (∀ i, i < (256 - c) / z → j ≠ c + i * z) → f j = f0 j := by
  refine (vc15 _ _ _ _ _ w (fun v w' => v = .tuple #[.pointer (some ⟨w.heap.size, 0, none⟩), .int .i64 0] ∧ Kept (· = B) w w' ∧
      ∃ f, At w' w.heap.size B bc (newSl z c) f ∧ ∀ j, (∀ i, i < (256 - c) / z → j ≠ c + i * z) → f j = f0 j) ?_).mono ?_
  · unfold vcP15
    obtain ⟨m1, m2, m3, m4, m5, m6⟩ := hm
    have hmod : ((256 % z : Nat) : Int) = 256 % (z : Int) := Int.natCast_emod 256 z
    have hc : c ≤ 256 % z := by
      rw [← hmod] at m6
      generalize 256 % z = q at *
      omega
    have hcz : c < z := Nat.lt_of_le_of_lt hc (Nat.mod_lt _ (by omega))
    have hn1 : (256 - c) / z ≤ 32 := by
      calc (256 - c) / z ≤ 256 / z := Nat.div_le_div_right (by omega)
        _ ≤ 256 / 8 := Nat.div_le_div_left (by omega) (by omega)
        _ = 32 := rfl
    have hfit : (256 - c) / z * z ≤ 256 - c := Nat.div_mul_le_self _ _
    have hnd : ((256 - c : Nat) : Int) = 256 - (c : Int) := by omega
    have hq : IntKind.wrap .i64 (((256 - c) / z : Nat) : Int) = (((256 - c) / z : Nat) : Int) := by
      clear hfit hmod
      generalize (256 - c) / z = q at *
      exact wi (by omega)
    have hcount : IntKind.wrap .i64 (Int.tdiv (IntKind.wrap .i64 (256 - (c : Int))) z) = (((256 - c) / z : Nat) : Int) := by
      rw [wi (x := 256 - (c : Int)) (by omega), Int.tdiv_eq_ediv_of_nonneg (by omega), ← hnd, ← Int.natCast_ediv, hq]
    rw [hcount]
    clear hcount hq
    have hlt := hb.lt
    have hsz : w.heap.size ≠ B := by omega
    refine gIf_intro (fun h => by simp; omega) (Wif_no ?_ (Wif_yes (by simp; omega) ?_))
    · simp
      rw [Int.tmod_eq_emod_of_nonneg (by omega), Int.tmod_eq_emod_of_nonneg (by omega), Int.tmod_eq_emod_of_nonneg (by omega)]
      omega
    generalize hN : (256 - c) / z = N at *
    intro w1 e1
    have o1 := own_alloc e1
    have b1 := hb.al e1
    have k1 := (Kept.refl (· = B) w).al e1
    have o1 : own w1 w.heap.size (raw B bc z c N 255 0 (fun _ => false) (fun _ => 0)) := by
      have he : raw B bc z c N 255 0 (fun _ => false) (fun _ => 0) = [Value.slice (some ⟨B, 0, none⟩) 256 bc, .int .i64 z, .int .i64 c, .int .i64 N, .int .u8 255, .int .i64 0] ++ (List.replicate 32 (.bool false) ++ List.replicate 32 (.int .u64 0)) := by
        unfold raw
        rw [List.map_const', List.map_const']
        simp
      rw [he]; exact o1
    clear e1
    have hle : w.heap.size ≤ w.heap.size := Nat.le_refl _
    generalize hS : w.heap.size = S at *
    refine ⟨N, by simp [o1.rd]; rfl, fun k w' m => Lays w S B bc f0 z c N k w' m, ⟨N, ?_⟩, ?_⟩
    · rw [wi (by omega)]
      refine ⟨by omega, by omega, by omega, k1, by omega, f0, ?_, b1, ?_, fun _ _ => rfl⟩
      · have h1 : N - ((N : Int) - 1 + 1).toNat = 0 := by omega
        rw [h1]
        exact o1
      · have h1 : N - ((N : Int) - 1 + 1).toNat = 0 := by omega
        rw [h1]
        trivial
    · intro k w2 m hL
      obtain ⟨l0, l1, l2, k2, l3, f, o2, b2, lk, same⟩ := hL
      refine Wif_intro (fun hk => ?_) (fun hk => ?_)
      · simp at hk
        obtain ⟨i, rfl⟩ := Int.eq_ofNat_of_zero_le hk
        have hi : i < N := by omega
        have hmul : (i + 1) * z ≤ N * z := Nat.mul_le_mul_right _ (by omega)
        have hadd : (i + 1) * z = i * z + z := by rw [Nat.add_mul, Nat.one_mul]
        have htn : ((i : Int) + 1).toNat = i + 1 := by omega
        rw [htn] at o2 lk
        intro w3 e3
        have o3 := o2.dr e3
        have b3 := b2.dr e3
        have k3 := k2.dr e3
        clear e3 o2 b2 k2
        have hmc : ((i * z : Nat) : Int) = (i : Int) * (z : Int) := Int.natCast_mul _ _
        have hw : IntKind.wrap .i64 ((c : Int) + IntKind.wrap .i64 ((i : Int) * z)) = ((c + i * z : Nat) : Int) := by
          rw [wi (x := (i : Int) * z) (by omega), wi (by omega)]; omega
        have hwk : IntKind.wrap .u8 (i : Int) = i := wb (by omega)
        have hwd : IntKind.wrap .i64 ((i : Int) - 1) = (i : Int) - 1 := wi (by omega)
        refine ⟨some ⟨B, 0, none⟩, 256, bc, (o3.rd 0).trans (raw_0 _ _ _ _ _ _ _ _ _), c, by simp [o3.rd]; rfl, z, by simp [o3.rd]; rfl, _, (o3.rd 4).trans (raw_4 _ _ _ _ _ _ _ _ _), ?_⟩
        rw [hw, hwk, hwd]
        clear hw hwk hwd
        refine Wif_yes rfl (Wif_yes (inB_of (by omega) (by omega)) ⟨?_, ?_⟩)
        · simp only [pb_some, po_some, Int.toNat_natCast, Nat.mul_one, Nat.zero_add]
          exact b3.wr (by omega)
        intro w4 e4
        simp only [pb_some, po_some, Int.toNat_natCast, Nat.mul_one, Nat.zero_add] at e4
        have b4 := b3.s1 e4
        have o4 := o3.n1 e4 hsz
        have k4 := k3.s1 e4 (.inl rfl)
        refine ⟨o4.wr (by rw [raw_len]; simp), ?_⟩
        intro w5 e5
        have o5 := o4.s1 e5
        rw [raw_set4] at o5
        have b5 := b4.n1 e5 (Ne.symm hsz)
        have k5 := k4.s1 e5 (.inr (by omega))
        refine ⟨_, (o5.rd 5).trans (raw_5 _ _ _ _ _ _ _ _ _), o5.wr (by rw [raw_len]; simp), ?_⟩
        intro w6 e6
        have o6 := o5.s1 e6
        rw [raw_set5] at o6
        have b6 := b5.n1 e6 (Ne.symm hsz)
        have k6 := k5.s1 e6 (.inr (by omega))
        have htn2 : ((i : Int) - 1 + 1).toNat = i := by omega
        have hr : N - i = (N - (i + 1)) + 1 := by omega
        refine ⟨i, by omega, by omega, by omega, by omega, k6, l3, _, ?_, b6, ?_, ?_⟩
        · rw [htn2, hr, List.range'_succ]
          rw [wi (by omega)] at o6
          exact o6
        · rw [htn2, hr, List.range'_succ]
          refine ⟨upd_same _ _ _, linked_upd (by omega) ?_ lk⟩
          intro hmem
          rw [List.mem_range'_1] at hmem
          omega
        · intro j hj
          rw [upd_ne _ _ (hj i hi)]
          exact same j hj
      · simp at hk
        have hkk : k = -1 := by omega
        subst hkk
        have h1 : ((-1 : Int) + 1).toNat = 0 := rfl
        rw [h1] at o2 lk
        refine ⟨rfl, k2, f, ⟨?_, b2, hsz, hbc, ?_⟩, same⟩
        · simp only [slRaw, newSl, hN, List.range_eq_range', List.length_range', Nat.sub_zero] at o2 ⊢
          exact o2
        · refine ⟨by show 8 ≤ z; omega, by show z ≤ 128; omega, hc, rfl, fun i hi => ?_, ?_, ?_, fun i => ?_, fun i hi => absurd rfl hi, fun i => ⟨Int.le_refl 0, by show (0 : Int) ≤ _; omega⟩⟩
          · simp only [newSl, List.mem_range] at hi
            exact hi
          · exact List.nodup_range
          · simp only [newSl, hN, List.range_eq_range']
            simpa using lk
          · simp [newSl]
  · rintro e w' ⟨v, rfl, rfl, h⟩
    exact ⟨rfl, h⟩
end Go.Proofs.Ytkancagfhbkhiaa
