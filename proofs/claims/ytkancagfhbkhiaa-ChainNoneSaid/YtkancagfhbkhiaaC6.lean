/-
  A part of a proof that a law of this seat returns true at every input. Conditions: those in each theorem.
-/
import Derived.Test.YtkancagfhbkhiaaC4
namespace Go.Proofs.Ytkancagfhbkhiaa
open Go Eng
set_option linter.unusedSimpArgs false
set_option linter.unusedVariables false
set_option maxRecDepth 10000

/-- there is no slab -/
def NoSlab (w : World) (x : Option Addr) : Prop := x = none ∨ ∃ S cs, x = some ⟨S, 0, none⟩ ∧ own w S cs ∧ cs[1]? = some (.int .i64 0)
theorem NoSlab.k {w w' : World} {x : Option Addr} (h : NoSlab w x) (k : Kept none' w w') : NoSlab w' x := by
  rcases h with h | ⟨S, cs, e, o, r⟩
  · exact .inl h
  · exact .inr ⟨S, cs, e, o.k k, r⟩
section
variable {w : World} {x : Option Addr}
theorem NoSlab.head {A B : Prop} (h : NoSlab w x) (hA : A) :
    gIf (isP x) (Option.isNone x = false) (∃ n : Int, (Option.isNone x = false → rd w (pb x) (po x + 1) = some (.int .i64 n)) ∧ Wif (Option.isNone x || n == 0) A B) := by
  rcases h with rfl | ⟨S, cs, rfl, o, q⟩
  · exact gIf_intro (fun hh => by cases hh) ⟨0, (fun hh => by cases hh), hA⟩
  · exact gIf_intro (fun _ => rfl) ⟨0, fun _ => by simp [o.rd, q], hA⟩
theorem none_none (h : NoSlab w x) : Calls Try.prog 55 #[.pointer x] w fun e w' => e = .returned (.bool true) ∧ w' = w := by
  refine (vc55 _ w (fun v w' => v = .bool true ∧ w' = w) ?_).mono ?_
  · unfold vcP55
    rcases h with rfl | ⟨S, cs, rfl, o, q⟩
    · exact gIf_intro (fun hh => by cases hh) ⟨0, (fun hh => by cases hh), rfl, rfl⟩
    · exact gIf_intro (fun _ => rfl) ⟨0, fun _ => by simp [o.rd, q], rfl, rfl⟩
  · rintro e w' ⟨v, rfl, rfl, rfl⟩
    exact ⟨rfl, rfl⟩
theorem none_17 (h : NoSlab w x) : Calls Try.prog 17 #[.pointer x] w fun e w' => e = .returned (.int .i64 0) ∧ w' = w := by
  refine (vc17 _ w (fun v w' => v = .int .i64 0 ∧ w' = w) ?_).mono ?_
  · unfold vcP17
    exact h.head ⟨rfl, rfl⟩
  · rintro e w' ⟨v, rfl, rfl, rfl⟩
    exact ⟨rfl, rfl⟩
theorem none_18 (h : NoSlab w x) : Calls Try.prog 18 #[.pointer x] w fun e w' => e = .returned (.int .i64 0) ∧ w' = w := by
  refine (vc18 _ w (fun v w' => v = .int .i64 0 ∧ w' = w) ?_).mono ?_
  · unfold vcP18
    exact h.head ⟨rfl, rfl⟩
  · rintro e w' ⟨v, rfl, rfl, rfl⟩
    exact ⟨rfl, rfl⟩
theorem none_23 (h : NoSlab w x) : Calls Try.prog 23 #[.pointer x] w fun e w' => e = .returned (.int .i64 0) ∧ w' = w := by
  refine (vc23 _ w (fun v w' => v = .int .i64 0 ∧ w' = w) ?_).mono ?_
  · unfold vcP23
    exact h.head ⟨rfl, rfl⟩
  · rintro e w' ⟨v, rfl, rfl, rfl⟩
    exact ⟨rfl, rfl⟩
theorem none_24 (h : NoSlab w x) : Calls Try.prog 24 #[.pointer x] w fun e w' => e = .returned (.int .i64 0) ∧ w' = w := by
  refine (vc24 _ w (fun v w' => v = .int .i64 0 ∧ w' = w) ?_).mono ?_
  · unfold vcP24
    exact h.head ⟨rfl, rfl⟩
  · rintro e w' ⟨v, rfl, rfl, rfl⟩
    exact ⟨rfl, rfl⟩
theorem none_19 (h : NoSlab w x) : Calls Try.prog 19 #[.pointer x] w fun e w' => e = .returned (.tuple #[.int .i64 0, .int .i64 1]) ∧ w' = w := by
  refine (vc19 _ w (fun v w' => v = .tuple #[.int .i64 0, .int .i64 1] ∧ w' = w) ?_).mono ?_
  · unfold vcP19
    exact h.head ⟨rfl, rfl⟩
  · rintro e w' ⟨v, rfl, rfl, rfl⟩
    exact ⟨rfl, rfl⟩
theorem none_22 (h : NoSlab w x) : Calls Try.prog 22 #[.pointer x] w fun e w' => e = .returned (.slice none 0 0) ∧ w' = w := by
  refine (vc22 _ w (fun v w' => v = .slice none 0 0 ∧ w' = w) ?_).mono ?_
  · unfold vcP22
    exact h.head ⟨rfl, rfl⟩
  · rintro e w' ⟨v, rfl, rfl, rfl⟩
    exact ⟨rfl, rfl⟩
theorem none_20 (h : NoSlab w x) (i : Int) : Calls Try.prog 20 #[.pointer x, .int .i64 i] w fun e w' => e = .returned (.tuple #[.int .i64 0, .int .i64 0]) ∧ w' = w := by
  refine (vc20 _ i w (fun v w' => v = .tuple #[.int .i64 0, .int .i64 0] ∧ w' = w) ?_).mono ?_
  · unfold vcP20
    refine (none_none h).mono ?_
    rintro _ w1 ⟨rfl, rfl⟩
    exact ⟨true, rfl, Wif_yes rfl ⟨rfl, rfl⟩⟩
  · rintro e w' ⟨v, rfl, rfl, rfl⟩
    exact ⟨rfl, rfl⟩
theorem none_21 (h : NoSlab w x) (i : Int) : Calls Try.prog 21 #[.pointer x, .int .i64 i] w fun e w' => e = .returned (.int .i64 1) ∧ w' = w := by
  refine (vc21 _ i w (fun v w' => v = .int .i64 1 ∧ w' = w) ?_).mono ?_
  · unfold vcP21
    refine (none_none h).mono ?_
    rintro _ w1 ⟨rfl, rfl⟩
    exact ⟨true, rfl, Wif_yes rfl ⟨rfl, rfl⟩⟩
  · rintro e w' ⟨v, rfl, rfl, rfl⟩
    exact ⟨rfl, rfl⟩
theorem none_25 (h : NoSlab w x) (i : Int) (t : Int) : Calls Try.prog 25 #[.pointer x, .int .i64 i, .int .u64 t] w fun e w' => e = .returned (.int .i64 1) ∧ w' = w := by
  refine (vc25 _ i t w (fun v w' => v = .int .i64 1 ∧ w' = w) ?_).mono ?_
  · unfold vcP25
    refine (none_none h).mono ?_
    rintro _ w1 ⟨rfl, rfl⟩
    exact ⟨true, rfl, Wif_yes rfl ⟨rfl, rfl⟩⟩
  · rintro e w' ⟨v, rfl, rfl, rfl⟩
    exact ⟨rfl, rfl⟩
theorem none_26 (h : NoSlab w x) (i : Int) : Calls Try.prog 26 #[.pointer x, .int .i64 i] w fun e w' => e = .returned (.int .i64 1) ∧ w' = w := by
  refine (vc26 _ i w (fun v w' => v = .int .i64 1 ∧ w' = w) ?_).mono ?_
  · unfold vcP26
    refine (none_none h).mono ?_
    rintro _ w1 ⟨rfl, rfl⟩
    exact ⟨true, rfl, Wif_yes rfl ⟨rfl, rfl⟩⟩
  · rintro e w' ⟨v, rfl, rfl, rfl⟩
    exact ⟨rfl, rfl⟩
theorem none_27 (h : NoSlab w x) (i : Int) : Calls Try.prog 27 #[.pointer x, .int .i64 i] w fun e w' => e = .returned (.tuple #[.int .u64 0, .bool false]) ∧ w' = w := by
  refine (vc27 _ i w (fun v w' => v = .tuple #[.int .u64 0, .bool false] ∧ w' = w) ?_).mono ?_
  · unfold vcP27
    refine (none_none h).mono ?_
    rintro _ w1 ⟨rfl, rfl⟩
    exact ⟨true, rfl, Wif_yes rfl ⟨rfl, rfl⟩⟩
  · rintro e w' ⟨v, rfl, rfl, rfl⟩
    exact ⟨rfl, rfl⟩
end
theorem fin_known' {w0 w : World} (k : Kept none' w0 w) : Calls Try.prog 16 #[] w fun e w' => ∃ b : Bool, e = .returned (.bool b) ∧ (Value.bool b = .bool true ∧ Kept none' w0 w') := by
  refine (known_spec w).mono ?_
  rintro _ w' ⟨rfl, k'⟩
  exact ⟨true, rfl, rfl, k.tr k'⟩

theorem none_law (i turn : Int) (w : World) : Calls Try.prog 8 #[.int .i64 i, .int .u64 turn] w fun e w' => e = .returned (.bool true) ∧ Kept none' w w' := by
  refine (vc8 i turn w (fun v w' => v = .bool true ∧ Kept none' w w') ?_).mono ?_
  · unfold vcP8
    intro w1 e1
    have p1 := own_alloc e1
    have k1 := (Kept.refl none' w).al e1
    clear e1
    intro w2 e2
    have q2 := own_alloc (c := [.pointer none, .pointer (some ⟨w.heap.size, 0, none⟩)]) e2
    have p2 := p1.al e2
    have k2 := k1.al (c := #[.pointer none, .pointer (some ⟨w.heap.size, 0, none⟩)]) e2
    clear e2 p1 k1
    have hno : NoSlab w2 (some ⟨w.heap.size, 0, none⟩) := .inr ⟨_, _, rfl, p2, rfl⟩
    refine ⟨fun b n w' m => 0 ≤ n ∧ n ≤ 2 ∧ (m : Int) = 2 - n ∧ w' = w2, ⟨2, by omega, by omega, by omega, rfl⟩, ?_⟩
    rintro b n w3 m ⟨h0, h2, hm, rfl⟩
    refine Wif_intro (fun hn => ?_) (fun hn => fin_known' k2)
    simp at hn
    have hsl : ∃ x, rd w3 w1.heap.size (0 + Int.toNat n * 1) = some (.pointer x) ∧ NoSlab w3 x := by
      have : n = 0 ∨ n = 1 := by omega
      rcases this with rfl | rfl
      · exact ⟨none, by rw [q2.rd]; rfl, .inl rfl⟩
      · exact ⟨_, by rw [q2.rd]; rfl, hno⟩
    obtain ⟨x, hx, hnx⟩ := hsl
    refine Wif_yes (inB_of (by omega) (by omega)) ⟨x, hx, ?_⟩
    refine (none_19 hnx).mono ?_
    rintro _ _ ⟨rfl, rfl⟩
    refine ⟨_, _, rfl, (none_27 hnx i).mono ?_⟩
    rintro _ _ ⟨rfl, rfl⟩
    refine ⟨_, _, rfl, (none_20 hnx i).mono ?_⟩
    rintro _ _ ⟨rfl, rfl⟩
    refine ⟨_, _, rfl, Wif_no rfl ((none_21 hnx i).mono ?_)⟩
    rintro _ _ ⟨rfl, rfl⟩
    refine ⟨_, rfl, Wif_no rfl ((none_25 hnx i turn).mono ?_)⟩
    rintro _ _ ⟨rfl, rfl⟩
    refine ⟨_, rfl, Wif_no rfl ((none_26 hnx i).mono ?_)⟩
    rintro _ _ ⟨rfl, rfl⟩
    refine ⟨_, rfl, Wif_no rfl ((none_17 hnx).mono ?_)⟩
    rintro _ _ ⟨rfl, rfl⟩
    refine ⟨_, rfl, (none_23 hnx).mono ?_⟩
    rintro _ _ ⟨rfl, rfl⟩
    refine ⟨_, rfl, (none_24 hnx).mono ?_⟩
    rintro _ _ ⟨rfl, rfl⟩
    refine ⟨_, rfl, (none_18 hnx).mono ?_⟩
    rintro _ _ ⟨rfl, rfl⟩
    refine ⟨_, rfl, Wif_no (by decide) ((none_22 hnx).mono ?_)⟩
    rintro _ _ ⟨rfl, rfl⟩
    refine ⟨_, _, _, rfl, Wif_no rfl ⟨(1 - n).toNat, by omega, ?_⟩⟩
    rw [wi (by omega)]
    exact ⟨by omega, by omega, by omega, rfl⟩
  · rintro e w' ⟨v, rfl, rfl, h⟩
    exact ⟨rfl, h⟩
end Go.Proofs.Ytkancagfhbkhiaa
