/-
  A part of a proof that a law of this seat returns true at every input. Conditions: those in each theorem.
-/
import Derived.Test.YtkancagfhbkhiaaC5
namespace Go.Proofs.Ytkancagfhbkhiaa
open Go Eng
set_option linter.unusedSimpArgs false
set_option linter.unusedVariables false
set_option maxRecDepth 10000

/-! ### Mark, Clear -/
def marked (s : Sl) (i : Nat) (t : Int) : Sl := { s with turn := upd s.turn i t }
theorem Good.marked {s : Sl} {f : Nat → Int} (g : Good s f) {i : Nat} {t : Int} (h : t ≠ 0 → s.out i = true) (h0 : 0 ≤ t) (h1 : t ≤ 18446744073709551615) : Good (marked s i t) f := by
  refine ⟨g.s8, g.s128, g.col, g.cnt, g.lt, g.nd, g.link, g.outs, fun k hk => ?_, fun k => ?_⟩
  · show s.out k = true
    by_cases e : k = i
    · subst e
      exact h (by simpa [Ytkancagfhbkhiaa.marked] using hk)
    · have : (upd s.turn i t) k ≠ 0 := hk
      rw [upd_ne _ _ e] at this
      exact g.tur k this
  · show 0 ≤ upd s.turn i t k ∧ upd s.turn i t k ≤ _
    by_cases e : k = i
    · subst e; rw [upd_same]; exact ⟨h0, h1⟩
    · rw [upd_ne _ _ e]; exact g.tr k
def markOf (s : Sl) (i t : Int) : Int :=
  if 0 ≤ i ∧ i < s.count then (if t = 0 then 2 else (if s.out i.toNat = true then (if s.turn i.toNat = 0 then 0 else 8) else 7)) else 2
theorem mark_spec {w : World} {S B bc : Nat} {s : Sl} {f : Nat → Int} (a : At w S B bc s f) (i t : Int) (h0 : 0 ≤ t) (h1 : t ≤ 18446744073709551615) : Calls Try.prog 25 #[.pointer (some ⟨S, 0, none⟩), .int .i64 i, .int .u64 t] w fun e w' =>
    e = .returned (.int .i64 (markOf s i t)) ∧ Kept (two S B) w w' ∧ At w' S B bc (if markOf s i t = 0 then marked s i.toNat t else s) f := by
  refine (vc25 _ i t w (fun v w' => v = .int .i64 (markOf s i t) ∧ Kept (two S B) w w' ∧ At w' S B bc (if markOf s i t = 0 then marked s i.toNat t else s) f) ?_).mono ?_
  · unfold vcP25
    refine (none_spec a).mono ?_
    rintro _ w1 ⟨rfl, rfl⟩
    refine ⟨_, rfl, Wif_no rfl (gIf_intro (fun _ => rfl) ⟨s.count, fun _ => by simp [a.so.rd]; rfl, Wif_intro (fun h => ?_) (fun h => ?_)⟩)⟩
    · simp at h
      have : markOf s i t = 2 := by unfold markOf; rw [if_neg (by omega)]
      rw [this]
      exact ⟨rfl, Kept.refl _ _, a⟩
    · simp at h
      obtain ⟨k, rfl⟩ := Int.eq_ofNat_of_zero_le h.1
      have hk : k < s.count := by omega
      have h32 := a.good.count32
      have hro : rd w1 S (6 + k) = some (.bool (s.out k)) := by rw [a.so.rd]; exact raw_out _ _ _ _ _ _ _ _ _ (by omega)
      have hrt : rd w1 S (38 + k) = some (.int .u64 (s.turn k)) := by rw [a.so.rd]; exact raw_turn _ _ _ _ _ _ _ _ _ (by omega)
      have hg : markOf s (k : Int) t = if t = 0 then 2 else (if s.out k = true then (if s.turn k = 0 then 0 else 8) else 7) := by
        unfold markOf
        rw [if_pos (by omega), Int.toNat_natCast]
      refine Wif_intro (fun ht => ?_) (fun ht => ?_)
      · simp at ht
        rw [hg, ht]
        exact ⟨rfl, Kept.refl _ _, a⟩
      simp at ht
      refine Wif_yes rfl (Wif_yes (inB_of (by omega) (by omega)) ⟨s.out k, by simp [hro], Wif_intro (fun ho => ?_) (fun ho => ?_)⟩)
      · simp at ho
        rw [hg, ho, if_neg ht]
        exact ⟨by simp, Kept.refl _ _, a⟩
      simp at ho
      refine Wif_yes rfl (Wif_yes (inB_of (by omega) (by omega)) ⟨s.turn k, by simp [hrt], Wif_intro (fun hu => ?_) (fun hu => ?_)⟩)
      · simp at hu
        rw [hg, ho, if_neg ht]
        simp only [if_true, if_neg hu]
        exact ⟨trivial, Kept.refl _ _, a⟩
      · simp at hu
        rw [hg, ho, if_neg ht]
        simp only [if_true, if_pos hu]
        refine Wif_yes rfl (Wif_yes (inB_of (by omega) (by omega)) ⟨a.so.wr (by rw [slRaw, raw_len]; simp; omega), ?_⟩)
        intro w2 e2
        simp at e2
        have o2 := a.so.s1 e2
        rw [slRaw, raw_set_turn _ _ _ _ _ _ _ _ _ (by omega)] at o2
        refine ⟨trivial, (Kept.refl (two S B) w1).s1 e2 (.inl (.inl rfl)), o2, a.by'.n1 e2 (Ne.symm a.ne), a.ne, a.cap, ?_⟩
        rw [Int.toNat_natCast]
        exact a.good.marked (fun _ => ho) h0 h1
  · rintro e w' ⟨v, rfl, rfl, h⟩
    exact ⟨rfl, h⟩
def clearOf (s : Sl) (i : Int) : Int := if 0 ≤ i ∧ i < s.count then (if s.turn i.toNat = 0 then 7 else 0) else 2
theorem clear_spec {w : World} {S B bc : Nat} {s : Sl} {f : Nat → Int} (a : At w S B bc s f) (i : Int) : Calls Try.prog 26 #[.pointer (some ⟨S, 0, none⟩), .int .i64 i] w fun e w' =>
    e = .returned (.int .i64 (clearOf s i)) ∧ Kept (two S B) w w' ∧ At w' S B bc (if clearOf s i = 0 then marked s i.toNat 0 else s) f := by
  refine (vc26 _ i w (fun v w' => v = .int .i64 (clearOf s i) ∧ Kept (two S B) w w' ∧ At w' S B bc (if clearOf s i = 0 then marked s i.toNat 0 else s) f) ?_).mono ?_
  · unfold vcP26
    refine (none_spec a).mono ?_
    rintro _ w1 ⟨rfl, rfl⟩
    refine ⟨_, rfl, Wif_no rfl (gIf_intro (fun _ => rfl) ⟨s.count, fun _ => by simp [a.so.rd]; rfl, Wif_intro (fun h => ?_) (fun h => ?_)⟩)⟩
    · simp at h
      have : clearOf s i = 2 := by unfold clearOf; rw [if_neg (by omega)]
      rw [this]
      exact ⟨rfl, Kept.refl _ _, a⟩
    · simp at h
      obtain ⟨k, rfl⟩ := Int.eq_ofNat_of_zero_le h.1
      have hk : k < s.count := by omega
      have h32 := a.good.count32
      have hrt : rd w1 S (38 + k) = some (.int .u64 (s.turn k)) := by rw [a.so.rd]; exact raw_turn _ _ _ _ _ _ _ _ _ (by omega)
      have hg : clearOf s (k : Int) = if s.turn k = 0 then 7 else 0 := by
        unfold clearOf
        rw [if_pos (by omega), Int.toNat_natCast]
      refine Wif_yes rfl (Wif_yes (inB_of (by omega) (by omega)) ⟨s.turn k, by simp [hrt], Wif_intro (fun hu => ?_) (fun hu => ?_)⟩)
      · simp at hu
        rw [hg, if_pos hu]
        exact ⟨rfl, Kept.refl _ _, a⟩
      · simp at hu
        rw [hg, if_neg hu]
        refine Wif_yes rfl (Wif_yes (inB_of (by omega) (by omega)) ⟨a.so.wr (by rw [slRaw, raw_len]; simp; omega), ?_⟩)
        intro w2 e2
        simp at e2
        have o2 := a.so.s1 e2
        rw [slRaw, raw_set_turn _ _ _ _ _ _ _ _ _ (by omega)] at o2
        refine ⟨rfl, (Kept.refl (two S B) w1).s1 e2 (.inl (.inl rfl)), o2, a.by'.n1 e2 (Ne.symm a.ne), a.ne, a.cap, ?_⟩
        rw [Int.toNat_natCast]
        exact a.good.marked (fun h => absurd rfl h) (by omega) (by omega)
  · rintro e w' ⟨v, rfl, rfl, h⟩
    exact ⟨rfl, h⟩
end Go.Proofs.Ytkancagfhbkhiaa
