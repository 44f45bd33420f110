/-
  A part of a proof that a law of this seat returns true at every input. Conditions: those in each theorem.
-/
import Derived.Test.YtkancagfhbkhiaaC1
namespace Go.Proofs.Ytkancagfhbkhiaa
open Go Eng
set_option linter.unusedSimpArgs false
set_option linter.unusedVariables false
set_option maxRecDepth 10000

/-! ### Give -/
def giveOf (s : Sl) (i : Int) : Int := if 0 ≤ i ∧ i < s.count then (if s.out i.toNat = true then (if s.turn i.toNat = 0 then 0 else 80) else 8) else 2
def gave (s : Sl) (i : Nat) : Sl := { s with ch := i :: s.ch, out := upd s.out i false }
theorem Good.chlen {s : Sl} {f : Nat → Int} (g : Good s f) : s.ch.length ≤ s.count := by
  have := g.nd.length_le_of_subset (l₂ := List.range s.count) (fun x hx => by simp; exact g.lt x hx)
  simpa using this
theorem Good.gave {s : Sl} {f : Nat → Int} (g : Good s f) {i : Nat} (ho : s.out i = true) (ht : s.turn i = 0) : Good (gave s i) (upd f (s.colour + i * s.size) (fst s.ch)) := by
  have hz := g.s8
  have hi := (g.outs i).1 ho
  refine ⟨g.s8, g.s128, g.col, g.cnt, fun k hk => ?_, List.nodup_cons.2 ⟨hi.2, g.nd⟩, ⟨upd_same _ _ _, linked_upd (Nat.lt_of_lt_of_le (by decide) hz) hi.2 g.link⟩, fun k => ?_, fun k hk => ?_, g.tr⟩
  · rcases List.mem_cons.1 hk with rfl | hk
    · exact hi.1
    · exact g.lt k hk
  · show upd s.out i false k = true ↔ k < s.count ∧ k ∉ i :: s.ch
    by_cases h : k = i
    · subst h; simp
    · rw [upd_ne _ _ h, g.outs k]
      simp [h]
  · show upd s.out i false k = true
    by_cases h : k = i
    · subst h; exact absurd ht hk
    · rw [upd_ne _ _ h]; exact g.tur k hk
theorem give_no {w : World} {S B bc : Nat} {s : Sl} {f : Nat → Int} (a : At w S B bc s f) (i : Int) (hn : giveOf s i ≠ 0) : Calls Try.prog 21 #[.pointer (some ⟨S, 0, none⟩), .int .i64 i] w fun e w' =>
    e = .returned (.int .i64 (giveOf s i)) ∧ Kept none' w w' := by
  refine (vc21 _ i w (fun v w' => v = .int .i64 (giveOf s i) ∧ Kept none' w w') ?_).mono ?_
  · unfold vcP21
    refine (none_spec a).mono ?_
    rintro _ w1 ⟨rfl, rfl⟩
    refine ⟨_, rfl, Wif_no rfl (gIf_intro (fun _ => rfl) ⟨s.count, fun _ => by simp [a.so.rd]; rfl, Wif_intro (fun h => ?_) (fun h => ?_)⟩)⟩
    · refine ⟨?_, Kept.refl _ _⟩
      simp at h
      unfold giveOf
      rw [if_neg (by omega)]
    · simp at h
      obtain ⟨k, rfl⟩ := Int.eq_ofNat_of_zero_le h.1
      have hk : k < s.count := by omega
      have h32 := a.good.count32
      have hg : giveOf s (k : Int) = if s.out k = true then (if s.turn k = 0 then 0 else 80) else 8 := by
        unfold giveOf
        rw [if_pos (by omega), Int.toNat_natCast]
      have hro : rd w1 S (6 + k) = some (.bool (s.out k)) := by rw [a.so.rd]; exact raw_out _ _ _ _ _ _ _ _ _ (by omega)
      have hrt : rd w1 S (38 + k) = some (.int .u64 (s.turn k)) := by rw [a.so.rd]; exact raw_turn _ _ _ _ _ _ _ _ _ (by omega)
      refine Wif_yes rfl (Wif_yes (inB_of (by omega) (by omega)) ⟨s.out k, by simp [hro], Wif_intro (fun ho => ?_) (fun ho => ?_)⟩)
      · simp at ho
        rw [hg, ho]
        exact ⟨by simp, Kept.refl _ _⟩
      · simp at ho
        refine Wif_yes rfl (Wif_yes (inB_of (by omega) (by omega)) ⟨s.turn k, by simp [hrt], Wif_intro (fun ht => ?_) (fun ht => ?_)⟩)
        · simp at ht
          rw [hg, ho]
          exact ⟨by simp [ht], Kept.refl _ _⟩
        · simp at ht
          rw [hg, ho] at hn
          simp [ht] at hn
  · rintro e w' ⟨v, rfl, rfl, h⟩
    exact ⟨rfl, h⟩
theorem giveOf_zero {s : Sl} {i : Int} (h : giveOf s i = 0) : ∃ k : Nat, i = k ∧ k < s.count ∧ s.out k = true ∧ s.turn k = 0 := by
  unfold giveOf at h
  split at h
  · rename_i hr
    obtain ⟨k, rfl⟩ := Int.eq_ofNat_of_zero_le hr.1
    rw [Int.toNat_natCast] at h
    split at h
    · rename_i ho
      split at h
      · rename_i ht
        exact ⟨k, rfl, by omega, ho, ht⟩
      · cases h
    · cases h
  · cases h
theorem give_ok {w : World} {S B bc : Nat} {s : Sl} {f : Nat → Int} (a : At w S B bc s f) (k : Nat) (hk : k < s.count) (ho : s.out k = true) (ht : s.turn k = 0) : Calls Try.prog 21 #[.pointer (some ⟨S, 0, none⟩), .int .i64 k] w fun e w' =>
    e = .returned (.int .i64 0) ∧ Kept (two S B) w w' ∧ At w' S B bc (gave s k) (upd f (s.colour + k * s.size) (fst s.ch)) := by
  refine (vc21 _ k w (fun v w' => v = .int .i64 0 ∧ Kept (two S B) w w' ∧ At w' S B bc (gave s k) (upd f (s.colour + k * s.size) (fst s.ch))) ?_).mono ?_
  · unfold vcP21
    refine (none_spec a).mono ?_
    rintro _ w1 ⟨rfl, rfl⟩
    have h32 := a.good.count32
    have h8 := a.good.s8
    have hf := a.good.fits hk
    have hch := a.good.chlen
    have hro : rd w1 S (6 + k) = some (.bool (s.out k)) := by rw [a.so.rd]; exact raw_out _ _ _ _ _ _ _ _ _ (by omega)
    have hrt : rd w1 S (38 + k) = some (.int .u64 (s.turn k)) := by rw [a.so.rd]; exact raw_turn _ _ _ _ _ _ _ _ _ (by omega)
    rw [ho] at hro
    rw [ht] at hrt
    refine ⟨_, rfl, Wif_no rfl (gIf_intro (fun _ => rfl) ⟨s.count, fun _ => by simp [a.so.rd]; rfl, Wif_no (by simp; omega) ?_⟩)⟩
    refine Wif_yes rfl (Wif_yes (inB_of (by omega) (by omega)) ⟨true, by simp [hro], Wif_no rfl ?_⟩)
    refine Wif_yes rfl (Wif_yes (inB_of (by omega) (by omega)) ⟨0, by simp [hrt], Wif_no rfl ?_⟩)
    clear hro hrt
    refine Wif_yes rfl (Wif_yes (inB_of (by omega) (by omega)) ⟨a.so.wr (by rw [slRaw, raw_len]; simp; omega), ?_⟩)
    intro w2 e2
    simp at e2
    have o2 := a.so.s1 e2
    rw [slRaw, raw_set_out _ _ _ _ _ _ _ _ _ (by omega)] at o2
    have b2 := a.by'.n1 e2 (Ne.symm a.ne)
    have k2 := (Kept.refl (two S B) w1).s1 e2 (.inl (.inl rfl))
    intro w3 e3
    have o3 := o2.dr e3
    have b3 := b2.dr e3
    have k3 := k2.dr e3
    clear o2 b2 k2 e2 e3
    have hm : ((k * s.size : Nat) : Int) = (k : Int) * (s.size : Int) := Int.natCast_mul _ _
    have hw : IntKind.wrap .i64 ((s.colour : Int) + IntKind.wrap .i64 ((k : Int) * s.size)) = ((s.colour + k * s.size : Nat) : Int) := by
      rw [wi (x := (k : Int) * s.size) (by omega), wi (by omega)]; omega
    have hwk : IntKind.wrap .u8 (k : Int) = k := wb (by omega)
    refine Wif_yes rfl ⟨some ⟨B, 0, none⟩, 256, bc, (o3.rd 0).trans (raw_0 _ _ _ _ _ _ _ _ _), Wif_yes rfl ⟨s.colour, by simp [o3.rd]; rfl, Wif_yes rfl ⟨s.size, by simp [o3.rd]; rfl, Wif_yes rfl ⟨fst s.ch, by simp [o3.rd]; rfl, ?_⟩⟩⟩⟩
    rw [hw, hwk]
    clear hw hwk
    refine Wif_yes rfl (Wif_yes (inB_of (by omega) (by omega)) ⟨?_, ?_⟩)
    · simp only [pb_some, po_some, Int.toNat_natCast, Nat.mul_one, Nat.zero_add]
      exact b3.wr (by omega)
    intro w4 e4
    simp only [pb_some, po_some, Int.toNat_natCast, Nat.mul_one, Nat.zero_add] at e4
    have b4 := b3.s1 e4
    have o4 := o3.n1 e4 a.ne
    have k4 := k3.s1 e4 (.inl (.inr rfl))
    refine Wif_yes rfl ⟨o4.wr (by rw [raw_len]; simp), ?_⟩
    intro w5 e5
    simp at e5
    have o5 := o4.s1 e5
    rw [raw_set4] at o5
    have b5 := b4.n1 e5 (Ne.symm a.ne)
    have k5 := k4.s1 e5 (.inl (.inl rfl))
    refine Wif_yes rfl ⟨s.ch.length, by simp [o5.rd]; rfl, Wif_yes rfl ⟨o5.wr (by rw [raw_len]; simp), ?_⟩⟩
    intro w6 e6
    simp at e6
    have o6 := o5.s1 e6
    rw [raw_set5] at o6
    have b6 := b5.n1 e6 (Ne.symm a.ne)
    have k6 := k5.s1 e6 (.inl (.inl rfl))
    refine ⟨rfl, k6, ?_, b6, a.ne, a.cap, a.good.gave ho ht⟩
    rw [wi (by omega)] at o6
    exact o6
  · rintro e w' ⟨v, rfl, rfl, h⟩
    exact ⟨rfl, h⟩
end Go.Proofs.Ytkancagfhbkhiaa
