/-
  A part of a proof that a law of this seat returns true at every input. Conditions: those in each theorem.
-/
import Derived.Test.YtkancagfhbkhiaaV2b
import Derived.Test.YtkancagfhbkhiaaC8
import Derived.Test.YtkancagfhbkhiaaEngM
namespace Go.Proofs.Ytkancagfhbkhiaa
open Go Eng
set_option linter.unusedSimpArgs false
set_option linter.unusedVariables false
set_option maxRecDepth 10000

/-! ### ChainLive: object 0 is live, and stays -/
structure Lives (w0 w : World) (S B z : Nat) (t : Int) (g : Nat → Int) (s : Sl) (f : Nat → Int) : Prop where
  at' : At w S B 256 s f
  size : s.size = z
  colour : s.colour = 0
  turn : s.turn 0 = t
  same : ∀ j, j < z → f j = g j
  fr : Kept none' w0 w
section
variable {w0 w w' : World} {S B z : Nat} {t : Int} {g : Nat → Int} {s : Sl} {f : Nat → Int}
theorem Lives.out (h : Lives w0 w S B z t g s f) (ht : t ≠ 0) : s.out 0 = true := h.at'.good.tur 0 (by rw [h.turn]; exact ht)
theorem Lives.k (h : Lives w0 w S B z t g s f) (k : Kept none' w w') : Lives w0 w' S B z t g s f := ⟨h.at'.k k, h.size, h.colour, h.turn, h.same, h.fr.tr k⟩
theorem Lives.took (h : Lives w0 w S B z t g s f) (ht : t ≠ 0) (hS : w0.heap.size ≤ S) (hB : w0.heap.size ≤ B) {i : Nat} {l : List Nat} (e : s.ch = i :: l) (k : Kept (two S B) w w') (a : At w' S B 256 (took s i l) (blanked f (s.colour + i * s.size) s.size)) :
    Lives w0 w' S B z t g (took s i l) (blanked f (s.colour + i * s.size) s.size) := by
  refine ⟨a, h.size, h.colour, h.turn, fun j hj => ?_, h.fr.go k (fun b hb => .inr (by rcases hb with rfl | rfl <;> omega))⟩
  have hi : i ≠ 0 := by
    rintro rfl
    have := ((h.at'.good.outs 0).1 (h.out ht)).2
    rw [e] at this
    exact this (List.mem_cons_self ..)
  rw [← h.same j hj]
  unfold blanked
  rw [if_neg]
  rintro ⟨h1, _⟩
  rw [h.colour, h.size] at h1
  have : 1 * z ≤ i * z := Nat.mul_le_mul_right _ (by omega)
  omega
theorem Lives.gave (h : Lives w0 w S B z t g s f) (ht : t ≠ 0) (hS : w0.heap.size ≤ S) (hB : w0.heap.size ≤ B) {i : Nat} (hi : s.turn i = 0) (k : Kept (two S B) w w') (a : At w' S B 256 (gave s i) (upd f (s.colour + i * s.size) (fst s.ch))) :
    Lives w0 w' S B z t g (gave s i) (upd f (s.colour + i * s.size) (fst s.ch)) := by
  refine ⟨a, h.size, h.colour, h.turn, fun j hj => ?_, h.fr.go k (fun b hb => .inr (by rcases hb with rfl | rfl <;> omega))⟩
  have hi : i ≠ 0 := by
    rintro rfl
    exact ht (h.turn.symm.trans hi)
  rw [← h.same j hj, upd_ne]
  rw [h.colour, h.size]
  have : 1 * z ≤ i * z := Nat.mul_le_mul_right _ (by omega)
  omega
theorem Lives.marked (h : Lives w0 w S B z t g s f) (hS : w0.heap.size ≤ S) (hB : w0.heap.size ≤ B) {i : Nat} {u : Int} (hi : i ≠ 0) (k : Kept (two S B) w w') (a : At w' S B 256 (marked s i u) f) :
    Lives w0 w' S B z t g (marked s i u) f := by
  refine ⟨a, h.size, h.colour, ?_, h.same, h.fr.go k (fun b hb => .inr (by rcases hb with rfl | rfl <;> omega))⟩
  show upd s.turn i u 0 = t
  rw [upd_ne _ _ (Ne.symm hi)]
  exact h.turn
theorem Lives.stays (h : Lives w0 w S B z t g s f) (hS : w0.heap.size ≤ S) (hB : w0.heap.size ≤ B) (k : Kept (two S B) w w') (a : At w' S B 256 s f) : Lives w0 w' S B z t g s f :=
  ⟨a, h.size, h.colour, h.turn, h.same, h.fr.go k (fun b hb => .inr (by rcases hb with rfl | rfl <;> omega))⟩
/-- what each round asks at its end -/
theorem Lives.tail (h : Lives w0 w S B z t g s f) (ht : t ≠ 0) {v : ByteArray} (hv : v = strOf z g) {Z : World → Prop} {Y : World → Prop} (hZ : ∀ w', Lives w0 w' S B z t g s f → Z w') :
    Calls Try.prog 27 #[.pointer (some ⟨S, 0, none⟩), .int .i64 0] w fun e w' => ∃ (n : Int) (b : Bool), e = .returned (.tuple #[.int .u64 n, .bool b]) ∧
      gIf (okSl 0 (z : Int) 256) ((!b || n != t) = false) (Wif (!b || n != t) False (∃ (u : ByteArray) (w1 : World),
        cnvIs Try.prog 22 9 (.slice (offA (some ⟨B, 0, none⟩) 256 (Int.toNat 0) 1) (Int.toNat (z : Int) - Int.toNat 0) (256 - Int.toNat 0)) (.string u) w' w1 ∧
          Wif (!u.toList == v.toList) False (Calls Try.prog 21 #[.pointer (some ⟨S, 0, none⟩), .int .i64 0] w1 fun e w' => ∃ n : Int, e = .returned (.int .i64 n) ∧ Wif (n != 80) (Y w') (Z w')))) := by
  have g8 := h.at'.good.s8
  have g128 := h.at'.good.s128
  have gc := h.at'.good.count1
  refine (live_spec h.at' 0).mono ?_
  rintro _ w1 ⟨rfl, k1⟩
  have h1 := h.k k1
  have hl : liveOf s 0 = t := by
    unfold liveOf
    rw [if_pos (by omega)]
    exact h.turn
  rw [hl]
  refine ⟨_, _, rfl, gIf_intro (fun _ => okSl_of (by omega) (by omega) (by have := h.size; omega)) (Wif_no (by simp [ht]) ?_)⟩
  have hoff : offA (some ⟨B, 0, none⟩) 256 (Int.toNat 0) 1 = some ⟨B, 0, none⟩ := offA_0 (by decide)
  rw [hoff]
  have hc : cnvIs Try.prog 22 9 (.slice (some ⟨B, 0, none⟩) z 256) (.string (strOf z g)) w1 w1 := by
    refine cnv_bytes Try.underlying22 Try.underlying5 Try.underlying9 fun i hi => ?_
    rw [Nat.zero_add, h1.at'.by'.rd (by have := h.size; omega), h1.same i hi]
  refine ⟨_, w1, hc, Wif_no (by rw [hv]; simp) ?_⟩
  have hg : giveOf s 0 = 80 := by
    unfold giveOf
    rw [if_pos (by omega)]
    have e0 : Int.toNat 0 = 0 := rfl
    rw [e0, h.out ht, h.turn, if_pos rfl, if_neg ht]
  refine (give_no h1.at' 0 (by rw [hg]; decide)).mono ?_
  rintro _ w2 ⟨rfl, k2⟩
  rw [hg]
  exact ⟨_, rfl, Wif_no rfl (hZ _ (h1.k k2))⟩
end
end Go.Proofs.Ytkancagfhbkhiaa
