/-
  A part of a proof that a law of this seat returns true at every input. Conditions: those in each theorem.
-/
import Derived.Test.YtkancagfhbkhiaaK6
namespace Go.Proofs.Ytkancagfhbkhiaa
open Go Eng
set_option linter.unusedSimpArgs false
set_option linter.unusedVariables false
set_option maxRecDepth 10000

/-! ### ChainBytes: what a round ends with -/
abbrev rng (f : Nat → Int) : Prop := ∀ j, 0 ≤ f j ∧ f j ≤ 255
theorem strOf_at {f : Nat → Int} (h : rng f) {n i : Nat} (hi : i < n) : (((strOf n f).data.toList.getD i 0).toNat : Int) = f i := by
  have h1 : (strOf n f).data.toList = ((List.range n).map f).map fun n => UInt8.ofNat n.toNat := rfl
  rw [h1]
  obtain ⟨a, b⟩ := h i
  simp [List.getD, hi]
  omega
theorem strOf_size (n : Nat) (f : Nat → Int) : (strOf n f).size = n := by
  show (strOfNums _).size = n
  rw [strOfNums_size]; simp
theorem cmp_tail {B : Nat} {x : ByteArray} {b0 : Bool} {w : World} {f f' : Nat → Int} (fr to : Int) (hx : x = strOf 256 f) (hb : Eng.bytes w B f') (hr : rng f) (same : ∀ j : Nat, ((j : Int) < fr ∨ (j : Int) ≥ to) → f' j = f j)
    {Y : World → Prop} {Z : Bool → World → Prop} (hZ : ∀ b w', Kept none' w w' → Z b w') :
    ∃ I : Bool → Int → World → Nat → Prop, (∃ n, I b0 0 w n) ∧ ∀ (b : Bool) (n : Int) (w' : World) (m : Nat), I b n w' m →
      Wif (decide (n < 256)) (∀ w1, w1 = World.drew w' → gIf (inB n 256) ((decide (n < fr) || decide (n ≥ to)) = true)
        (∃ y : Int, ((decide (n < fr) || decide (n ≥ to)) = true → rd w1 B (0 + Int.toNat n * 1) = some (.int .u8 y)) ∧
          gIf (inB n x.size) ((decide (n < fr) || decide (n ≥ to)) = true)
            (Wif ((decide (n < fr) || decide (n ≥ to)) && y != (((x.data.toList.getD (Int.toNat n) 0).toNat : Nat) : Int)) (Y w1) (∃ m', Nat.succ m' ≤ m ∧ I b (IntKind.wrap .i64 (n + 1)) w1 m')))) (Z b w') := by
  subst hx
  refine ⟨fun b n w' m => ∃ k : Nat, n = k ∧ k ≤ 256 ∧ m = 256 - k ∧ Kept none' w w', ⟨256, 0, rfl, by omega, rfl, Kept.refl _ _⟩, ?_⟩
  rintro b n w1 m ⟨k, rfl, hk, rfl, k1⟩
  refine Wif_intro (fun hlt => ?_) (fun _ => hZ _ _ k1)
  simp only [decide_eq_true_eq] at hlt
  have hk' : k < 256 := by omega
  intro w2 e2
  have k2 := k1.dr e2
  refine gIf_intro (fun _ => inB_of (by omega) (by omega)) ⟨f' k, fun _ => ?_, gIf_intro (fun _ => ?_) (Wif_no ?_ ⟨256 - (k + 1), by omega, k + 1, by rw [wi (by omega)]; rfl, by omega, rfl, k2⟩)⟩
  · rw [Int.toNat_natCast, Nat.zero_add, Nat.mul_one]
    exact (hb.k k2).rd hk'
  · rw [strOf_size]; exact inB_of (by omega) (by omega)
  · rw [Int.toNat_natCast, strOf_at hr hk']
    by_cases hc : (k : Int) < fr ∨ (k : Int) ≥ to
    · rw [same k hc]; simp
    · have : (decide ((k : Int) < fr) || decide ((k : Int) ≥ to)) = false := by simp; omega
      rw [this]; rfl
theorem fst_rng {l : List Nat} (h : ∀ i ∈ l, i < 32) : 0 ≤ fst l ∧ fst l ≤ 255 := by
  cases l with
  | nil => exact ⟨by decide, by decide⟩
  | cons y ys =>
    have := h y (List.mem_cons_self ..)
    exact ⟨by show (0 : Int) ≤ (y : Int); omega, by show (y : Int) ≤ 255; omega⟩
theorem Good.first (s : Sl) {f : Nat → Int} (g : Good s f) : 0 ≤ fst s.ch ∧ fst s.ch ≤ 255 := fst_rng fun i hi => by
  have := g.lt i hi
  have := g.count32
  omega
theorem rng_new {z c : Nat} {f : Nat → Int} (g : Good (newSl z c) f) (h : ∀ j, (∀ i, i < (256 - c) / z → j ≠ c + i * z) → f j = 0) : rng f := by
  intro j
  by_cases hj : ∃ i, i < (256 - c) / z ∧ j = c + i * z
  · obtain ⟨i, hi, rfl⟩ := hj
    have hl : (newSl z c).ch.length = (256 - c) / z := by simp [newSl]
    have h1 := linked_get.1 g.link i (by rw [hl]; exact hi)
    have hg : (newSl z c).ch.getD i 0 = i := by simp [newSl, List.getD, hi]
    rw [hg] at h1
    have h1 : f (c + i * z) = _ := h1
    rw [h1]
    exact fst_rng fun k hk => by
      have := g.lt k (List.mem_of_mem_drop hk)
      have := g.count32
      omega
  · rw [h j fun i hi e => hj ⟨i, hi, e⟩]
    exact ⟨by decide, by decide⟩
theorem rng_upd {f : Nat → Int} (h : rng f) {i : Nat} {v : Int} (hv : 0 ≤ v ∧ v ≤ 255) : rng (upd f i v) := fun j => by
  unfold upd
  split
  · exact hv
  · exact h j
theorem rng_blank {f : Nat → Int} (h : rng f) (a n : Nat) : rng (blanked f a n) := fun j => by
  unfold blanked
  split
  · exact ⟨by decide, by decide⟩
  · exact h j
abbrev outs (s : Sl) : List Value := (List.range 32).map fun i => Value.bool (s.out i)
structure Bys (w0 w : World) (S B O : Nat) (s : Sl) (f : Nat → Int) : Prop where
  p : At w S B 256 s f
  o : own w O (outs s)
  r : rng f
  fr : Kept none' w0 w
  ge : w0.heap.size ≤ S ∧ w0.heap.size ≤ B ∧ w0.heap.size ≤ O
  ap : O ≠ S ∧ O ≠ B
section
variable {w0 w w' : World} {S B O : Nat} {s s' : Sl} {f f' : Nat → Int}
theorem Bys.k (h : Bys w0 w S B O s f) (k : Kept none' w w') : Bys w0 w' S B O s f := ⟨h.p.k k, h.o.k k, h.r, h.fr.tr k, h.ge, h.ap⟩
theorem outs_set {i : Nat} (s : Sl) (x : Bool) (ch : List Nat) : (outs s).set i (.bool x) = outs { s with ch := ch, out := upd s.out i x } := by
  show ((List.range 32).map fun i => Value.bool (s.out i)).set i (.bool x) = _
  rw [map_set _ (fun _ _ => fun _ => .bool x), upd_map Value.bool]
theorem Bys.go (h : Bys w0 w S B O s f) (k : Kept (two S B) w w') (p : At w' S B 256 s' f') (hr : rng f') {i : Nat} {x : Bool} {ch : List Nat} (hs : s' = { s with ch := ch, out := upd s.out i x }) :
    ∀ w2, w2 = st w' O i (.bool x) → Bys w0 w2 S B O s' f' := by
  intro w2 e
  obtain ⟨g1, g2, g3⟩ := h.ge
  obtain ⟨a1, a2⟩ := h.ap
  have o1 := (h.o.kx k (by rintro (h | h) <;> omega)).s1 e
  rw [outs_set s x ch, ← hs] at o1
  have k1 : Kept none' w0 w' := h.fr.go k (fun b hb => .inr (by rcases hb with rfl | rfl <;> omega))
  exact ⟨⟨p.so.n1 e (Ne.symm a1), p.by'.n1 e (Ne.symm a2), p.ne, p.cap, p.good⟩, o1, hr, k1.s1 e (.inr g3), h.ge, h.ap⟩
end
theorem atOf_m1 (s : Sl) : atOf s (-1) = (0, 0) := by
  unfold atOf
  rw [if_neg (by omega)]
end Go.Proofs.Ytkancagfhbkhiaa
