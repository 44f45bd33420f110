/-
  A part of a proof that a law of this seat returns true at every input. Conditions: those in each theorem.
-/
import Derived.Test.YtkancagfhbkhiaaK1
namespace Go.Proofs.Ytkancagfhbkhiaa
open Go Eng
set_option linter.unusedSimpArgs false
set_option linter.unusedVariables false
set_option maxRecDepth 10000

/-! ### what 'write' comes to -/
theorem linked_get {c z : Nat} {f : Nat → Int} : ∀ {l : List Nat}, linked c z f l ↔ ∀ k, k < l.length → f (c + l.getD k 0 * z) = fst (l.drop (k + 1)) := by
  intro l
  induction l with
  | nil => simp [linked]
  | cons i l ih =>
    simp only [linked, ih]
    constructor
    · rintro ⟨h1, h2⟩ k hk
      cases k with
      | zero => simpa using h1
      | succ k => simpa using h2 k (by simpa using hk)
    · intro h
      refine ⟨by simpa using h 0 (by simp), fun k hk => by simpa using h (k + 1) (by simpa using hk)⟩
theorem slot_inj {c z i j : Nat} (hz : 0 < z) (h : c + i * z = c + j * z) : i = j := by
  have : i * z = j * z := by omega
  exact Nat.eq_of_mul_eq_mul_right hz this
theorem wrote_off {c z : Nat} {ch : List Nat} {f : Nat → Int} {j : Nat} : ∀ (n : Nat), (∀ k, k < n → j ≠ c + ch.getD k 0 * z) → wrote c z ch f n j = f j := by
  intro n
  induction n with
  | zero => intro _; rfl
  | succ n ih =>
    intro h
    rw [wrote, upd_ne _ _ (h n (by omega))]
    exact ih fun k hk => h k (by omega)
theorem getD_inj {l : List Nat} (h : l.Nodup) {i j : Nat} (hi : i < l.length) (hj : j < l.length) (e : l.getD i 0 = l.getD j 0) : i = j := by
  have h1 : l.getD i 0 = l[i] := by simp [List.getD, hi]
  have h2 : l.getD j 0 = l[j] := by simp [List.getD, hj]
  rw [h1, h2] at e
  have hp := List.pairwise_iff_getElem.1 h
  rcases Nat.lt_trichotomy i j with hlt | rfl | hlt
  · exact absurd e (hp i j hi hj hlt)
  · rfl
  · exact absurd e.symm (hp j i hj hi hlt)
theorem wrote_at {c z : Nat} {ch : List Nat} {f : Nat → Int} (hz : 0 < z) (hnd : ch.Nodup) : ∀ (n : Nat), n ≤ ch.length → ∀ k, k < n → wrote c z ch f n (c + ch.getD k 0 * z) = fst (ch.drop (k + 1)) := by
  intro n
  induction n with
  | zero => intro _ k hk; omega
  | succ n ih =>
    intro hn k hk
    rw [wrote]
    by_cases e : k = n
    · subst e; rw [upd_same]
    · rw [upd_ne]
      · exact ih (by omega) k (by omega)
      · intro he
        exact e (getD_inj hnd (by omega) (by omega) (slot_inj hz he))
theorem wrote_linked {c z : Nat} {ch : List Nat} {f : Nat → Int} (hz : 0 < z) (hnd : ch.Nodup) : linked c z (wrote c z ch f ch.length) ch :=
  linked_get.2 fun k hk => wrote_at hz hnd _ (Nat.le_refl _) k hk
theorem wrote_gave {c z i : Nat} {ch : List Nat} {f : Nat → Int} (hz : 0 < z) (hnd : (i :: ch).Nodup) (h : linked c z f ch) : wrote c z (i :: ch) f (i :: ch).length = upd f (c + i * z) (fst ch) := by
  funext j
  by_cases hj : ∃ k, k < (i :: ch).length ∧ j = c + (i :: ch).getD k 0 * z
  · obtain ⟨k, hk, rfl⟩ := hj
    rw [wrote_at hz hnd _ (Nat.le_refl _) k hk]
    cases k with
    | zero => simp
    | succ k =>
      have hk' : k < ch.length := by simpa using hk
      have hne : c + (i :: ch).getD (k + 1) 0 * z ≠ c + i * z := fun e => by
        have := getD_inj hnd (i := k + 1) (j := 0) hk (by simp) (by simpa using slot_inj hz e)
        omega
      rw [upd_ne _ _ hne]
      have := linked_get.1 h k hk'
      simpa using this.symm
  · rw [wrote_off _ fun k hk e => hj ⟨k, hk, e⟩, upd_ne]
    intro e
    exact hj ⟨0, by simp, by simpa using e⟩

/-! ### the small ones -/
section
variable {w : World} {R B bc lc : Nat} {a : Option Addr} {s : Sl} {f : Nat → Int}
theorem RAt.r3 (h : RAt w R B bc a lc s f) : rd w R 3 = some (.int .i64 s.count) := (h.so.rd 3).trans (rraw_3 ..)
theorem RAt.ro (h : RAt w R B bc a lc s f) {k : Nat} (hk : k < 32) : rd w R (5 + k) = some (.bool (s.out k)) := (h.so.rd _).trans (rraw_out _ _ _ _ _ _ _ _ _ _ hk)
theorem RAt.rt (h : RAt w R B bc a lc s f) {k : Nat} (hk : k < 32) : rd w R (37 + k) = some (.int .u64 (s.turn k)) := (h.so.rd _).trans (rraw_turn _ _ _ _ _ _ _ _ _ _ hk)
theorem rat_spec (h : RAt w R B bc a lc s f) (i : Int) : Calls Try.prog 34 #[.pointer (some ⟨R, 0, none⟩), .int .i64 i] w fun e w' => e = .returned (.tuple #[.int .i64 (atOf s i).1, .int .i64 (atOf s i).2]) ∧ Kept none' w w' := by
  refine (vc34 _ i w (fun v w' => v = .tuple #[.int .i64 (atOf s i).1, .int .i64 (atOf s i).2] ∧ Kept none' w w') ?_).mono ?_
  · unfold vcP34
    simp only [isP_some, Wif_true, gIf_true, pb_some, po_some, Nat.zero_add, Nat.mul_one]
    refine ⟨_, fun _ => h.r3, Wif_intro (fun hi => ?_) (fun hi => ?_)⟩
    · simp at hi
      unfold atOf
      rw [if_neg (by omega)]
      exact ⟨rfl, Kept.refl _ _⟩
    · simp at hi
      obtain ⟨k, rfl⟩ := Int.eq_ofNat_of_zero_le hi.1
      have hk : k < s.count := by omega
      have hf := h.good.fits hk
      have h32 := h.good.count32
      have h128 := h.good.s128
      intro w2 e2
      have k2 := (Kept.refl none' w).dr e2
      have h2 := h.k k2
      refine ⟨_, (h2.so.rd 2).trans (rraw_2 ..), _, (h2.so.rd 1).trans (rraw_1 ..), _, (h2.so.rd 2).trans (rraw_2 ..), _, (h2.so.rd 1).trans (rraw_1 ..), ?_, k2⟩
      have hm : ((k * s.size : Nat) : Int) = (k : Int) * (s.size : Int) := Int.natCast_mul _ _
      have hm2 : (((k : Int) + 1) * (s.size : Int)) = (k : Int) * s.size + s.size := by rw [Int.add_mul, Int.one_mul]
      rw [atOf_nat hk, wi (x := (k : Int) * s.size) (by omega), wi (x := (s.colour : Int) + k * s.size) (by omega), wi (x := (k : Int) + 1) (by omega), wi (x := ((k : Int) + 1) * s.size) (by omega), wi (by omega)]
      rw [hm2, ← hm]
      simp
      omega
  · rintro e w' ⟨v, rfl, rfl, h⟩
    exact ⟨rfl, h⟩
theorem rlive_spec (h : RAt w R B bc a lc s f) (i : Int) : Calls Try.prog 58 #[.pointer (some ⟨R, 0, none⟩), .int .i64 i] w fun e w' => e = .returned (.tuple #[.int .u64 (liveOf s i), .bool (liveOf s i != 0)]) ∧ w' = w := by
  refine (vc58 _ i w (fun v w' => v = .tuple #[.int .u64 (liveOf s i), .bool (liveOf s i != 0)] ∧ w' = w) ?_).mono ?_
  · unfold vcP58
    simp only [isP_some, Wif_true, gIf_true, pb_some, po_some, Nat.zero_add, Nat.mul_one]
    refine ⟨_, fun _ => h.r3, ?_⟩
    by_cases hi : 0 ≤ i ∧ i < s.count
    · obtain ⟨k, rfl⟩ := Int.eq_ofNat_of_zero_le hi.1
      have h32 := h.good.count32
      have hk : k < 32 := by omega
      have hl : liveOf s k = s.turn k := by
        unfold liveOf
        rw [if_pos hi, Int.toNat_natCast]
      have hd : (decide ((k : Int) < 0) || decide ((k : Int) ≥ (s.count : Int))) = false := by simp; omega
      rw [hd]
      refine gIf_intro (fun _ => inB_of (by omega) (by omega)) ⟨s.turn k, fun _ => by rw [Int.toNat_natCast]; exact h.rt hk, ?_⟩
      rw [hl]
      by_cases ht : s.turn k = 0
      · rw [ht]; exact ⟨rfl, trivial⟩
      · refine Wif_no (by simp [ht]) (Wif_yes (inB_of (by omega) (by omega)) ⟨s.turn k, by rw [Int.toNat_natCast]; exact h.rt hk, ?_, trivial⟩)
        simp [ht]
    · have hl : liveOf s i = 0 := by
        unfold liveOf
        rw [if_neg hi]
      have hd : (decide (i < 0) || decide (i ≥ (s.count : Int))) = true := by simp; omega
      rw [hd, hl]
      refine gIf_intro (fun hx => by cases hx) ⟨0, fun hx => (by cases hx), rfl, trivial⟩
  · rintro e w' ⟨v, rfl, rfl, h⟩
    exact ⟨rfl, h⟩
theorem RAt.mark (h : RAt w R B bc a lc s f) {w' : World} {i : Nat} {t : Int} (hi : i < 32) (e : w' = st w R (37 + i) (.int .u64 t)) (hg : Good (marked s i t) f) : RAt w' R B bc a lc (marked s i t) f := by
  have so := h.so.s1 e
  rw [rraw_set_turn _ _ _ _ _ _ _ _ _ _ hi] at so
  have k : Kept (· = R) w w' := (Kept.refl _ _).s1 e (.inl rfl)
  refine ⟨so, h.by'.kx k (Ne.symm h.ne), ?_, h.le, h.ne, h.nR, h.nB, h.cap, hg⟩
  by_cases e : s.ch = []
  · have h1 := h.ch
    show Src w' a s.ch.length lc (ints s.ch)
    rw [e] at h1 ⊢
    exact ⟨h1.nil, fun hl => absurd hl (by simp)⟩
  · exact h.ch.kx k fun b hb hX e' => e (h.nR (by rw [e']; exact hX))
theorem rmark_spec (h : RAt w R B bc a lc s f) (i t : Int) (h0 : 0 ≤ t) (h1 : t ≤ 18446744073709551615) : Calls Try.prog 32 #[.pointer (some ⟨R, 0, none⟩), .int .i64 i, .int .u64 t] w fun e w' =>
    e = .returned (.int .i64 (markOf s i t)) ∧ Kept (two R B) w w' ∧ RAt w' R B bc a lc (if markOf s i t = 0 then marked s i.toNat t else s) f := by
  refine (vc32 _ i t w (fun v w' => v = .int .i64 (markOf s i t) ∧ Kept (two R B) w w' ∧ RAt w' R B bc a lc (if markOf s i t = 0 then marked s i.toNat t else s) f) ?_).mono ?_
  · unfold vcP32
    simp only [isP_some, Wif_true, gIf_true, pb_some, po_some, Nat.zero_add, Nat.mul_one]
    refine ⟨_, fun _ => h.r3, Wif_intro (fun hi => ?_) (fun hi => ?_)⟩
    · have : markOf s i t = 2 := by
        simp at hi
        unfold markOf
        split
        · rename_i hx
          rw [if_pos]
          rcases hi with hi | hi
          · omega
          · exact hi
        · rfl
      rw [this]
      exact ⟨rfl, Kept.refl _ _, h⟩
    · simp at hi
      obtain ⟨k, rfl⟩ := Int.eq_ofNat_of_zero_le hi.1.1
      have h32 := h.good.count32
      have hk : k < 32 := by omega
      have hg : markOf s (k : Int) t = if s.out k = true then (if s.turn k = 0 then 0 else 8) else 7 := by
        unfold markOf
        rw [if_pos (by omega), if_neg hi.2, Int.toNat_natCast]
      refine Wif_yes (inB_of (by omega) (by omega)) ⟨_, by rw [Int.toNat_natCast]; exact h.ro hk, Wif_intro (fun ho => ?_) (fun ho => ?_)⟩
      · simp at ho
        rw [hg, ho]
        exact ⟨rfl, Kept.refl _ _, h⟩
      simp at ho
      refine Wif_yes (inB_of (by omega) (by omega)) ⟨_, by rw [Int.toNat_natCast]; exact h.rt hk, Wif_intro (fun hu => ?_) (fun hu => ?_)⟩
      · simp at hu
        rw [hg, ho, if_pos rfl, if_neg hu]
        exact ⟨rfl, Kept.refl _ _, h⟩
      · simp at hu
        rw [hg, ho, if_pos rfl, if_pos hu]
        refine Wif_yes (inB_of (by omega) (by omega)) ⟨h.so.wr (by rw [rraw_len, Int.toNat_natCast]; omega), ?_⟩
        intro w2 e2
        rw [Int.toNat_natCast] at e2
        refine ⟨rfl, (Kept.refl _ _).s1 e2 (.inl (.inl rfl)), ?_⟩
        rw [if_pos rfl, Int.toNat_natCast]
        exact h.mark hk e2 (h.good.marked (fun _ => ho) h0 h1)
  · rintro e w' ⟨v, rfl, rfl, h⟩
    exact ⟨rfl, h⟩
theorem rclear_spec (h : RAt w R B bc a lc s f) (i : Int) : Calls Try.prog 33 #[.pointer (some ⟨R, 0, none⟩), .int .i64 i] w fun e w' =>
    e = .returned (.int .i64 (clearOf s i)) ∧ Kept (two R B) w w' ∧ RAt w' R B bc a lc (if clearOf s i = 0 then marked s i.toNat 0 else s) f := by
  refine (vc33 _ i w (fun v w' => v = .int .i64 (clearOf s i) ∧ Kept (two R B) w w' ∧ RAt w' R B bc a lc (if clearOf s i = 0 then marked s i.toNat 0 else s) f) ?_).mono ?_
  · unfold vcP33
    simp only [isP_some, Wif_true, gIf_true, pb_some, po_some, Nat.zero_add, Nat.mul_one]
    refine ⟨_, fun _ => h.r3, Wif_intro (fun hi => ?_) (fun hi => ?_)⟩
    · simp at hi
      have : clearOf s i = 2 := by
        unfold clearOf
        rw [if_neg (by omega)]
      rw [this]
      exact ⟨rfl, Kept.refl _ _, h⟩
    · simp at hi
      obtain ⟨k, rfl⟩ := Int.eq_ofNat_of_zero_le hi.1
      have h32 := h.good.count32
      have hk : k < 32 := by omega
      have hg : clearOf s (k : Int) = if s.turn k = 0 then 7 else 0 := by
        unfold clearOf
        rw [if_pos (by omega), Int.toNat_natCast]
      refine Wif_yes (inB_of (by omega) (by omega)) ⟨_, by rw [Int.toNat_natCast]; exact h.rt hk, Wif_intro (fun hu => ?_) (fun hu => ?_)⟩
      · simp at hu
        rw [hg, if_pos hu]
        exact ⟨rfl, Kept.refl _ _, h⟩
      · simp at hu
        rw [hg, if_neg hu]
        refine Wif_yes (inB_of (by omega) (by omega)) ⟨h.so.wr (by rw [rraw_len, Int.toNat_natCast]; omega), ?_⟩
        intro w2 e2
        rw [Int.toNat_natCast] at e2
        refine ⟨rfl, (Kept.refl _ _).s1 e2 (.inl (.inl rfl)), ?_⟩
        rw [if_pos rfl, Int.toNat_natCast]
        exact h.mark hk e2 (h.good.marked (fun h => absurd rfl h) (Int.le_refl 0) (by omega))
  · rintro e w' ⟨v, rfl, rfl, h⟩
    exact ⟨rfl, h⟩
end
end Go.Proofs.Ytkancagfhbkhiaa
