/-
  Part M of an engine: arguments that are rows, opened; bytes made a string. Proved: what a reading tells of their cells. Conditions: those in each theorem.
-/
import Derived.Test.YtklmokolnakkoaaGreatDoorEngL
import Derived.Deep.Slices
import Derived.Laws.BytesArg
import Derived.Test.YtklmokolnakkoaaGreatDoorEngV
set_option linter.unusedVariables false
set_option linter.unusedSimpArgs false
namespace Go.Eng
open Go.ChangeShapes Go.WideShapes Go.ChangeAt Go.RowKit Go.Deep

theorem cell_rd {w : World} {a : Addr} {v : Value} (h : w.cell? a = some v) : a.spot = none ∧ rd w a.block a.off = some v := by
  obtain ⟨b, o, s⟩ := a
  cases s with
  | none => exact ⟨rfl, h⟩
  | some k =>
    exfalso
    simp only [World.cell?, Option.isSome_some, if_true] at h
    split at h <;> cases h
section
variable {H : Type} {enc : TypeId × Value → H} {P : Program}
theorem open_row {t e : TypeId} (ht : P.underlying t = some (.slice e)) {W : World} {fuel : Nat} {vs : List Value} {q : DataW H × List MemPlace}
    (hf : DataW.trod enc P W 0 (fun _ => true) true fuel t vs = some q) (hpos : 0 < P.cellsOf e) :
    ∃ a l c, vs = [.slice a l c] ∧ l ≤ c ∧ c ≤ maxLen ∧ (0 < l → isP a = true) ∧ (a = none → l = 0 ∧ c = 0) ∧
      ∀ i, i < l → ∃ cs n x, cs.length = P.cellsOf e ∧ (∀ j, j < P.cellsOf e → rd W (pb a) (po a + i * P.cellsOf e + j) = cs[j]?) ∧ DataW.trod enc P W 0 (fun _ => true) true n e cs = some x := by
  rcases open_slice ht hf with ⟨rfl, _⟩ | ⟨a, l0, c0, m, n, D, Pl, rfl, _, hl, hm, hmm, _, hx⟩
  · exact ⟨none, 0, 0, rfl, Nat.le_refl _, Nat.zero_le _, fun h => absurd h (Nat.lt_irrefl _), fun _ => ⟨rfl, rfl⟩, fun i hi => absurd hi (Nat.not_lt_zero _)⟩
  · simp only [if_true] at hmm
    have key : ∀ i, i < l0 → ∃ cs n x, a.spot = none ∧ cs.length = P.cellsOf e ∧ (∀ j, j < P.cellsOf e → rd W a.block (a.off + i * P.cellsOf e + j) = cs[j]?) ∧ DataW.trod enc P W 0 (fun _ => true) true n e cs = some x := by
      intro i hi
      obtain ⟨cs, hc, ht⟩ := hx i (by omega)
      obtain ⟨_, hlen, hcell⟩ := World.cells?_some hc
      have hj : ∀ j, j < P.cellsOf e → ∃ u, cs[j]? = some u ∧ W.cell? ((a.add (i * P.cellsOf e)).add j) = some u := fun j hj => by
        have := hcell j hj
        rw [List.getElem?_eq_getElem (by omega)] at this ⊢
        exact ⟨_, rfl, this⟩
      have hadd : ∀ x y : Nat, ((a.add x).add y).block = a.block ∧ ((a.add x).add y).off = a.off + x + y := by
        intro x y
        unfold Addr.add
        constructor <;> (split <;> split <;> simp_all)
      refine ⟨cs, n, _, ?_, hlen, fun j hjj => ?_, ht⟩
      · obtain ⟨u, _, hu⟩ := (hcell 0 hpos ▸ hj 0 hpos)
        -- the first element's first cell tells of the address itself
        obtain ⟨cs0, hc0, _⟩ := hx 0 (by omega)
        obtain ⟨_, hlen0, hcell0⟩ := World.cells?_some hc0
        have h00 := hcell0 0 hpos
        rw [List.getElem?_eq_getElem (by omega), Nat.zero_mul] at h00
        have hz : (a.add 0).add 0 = a := rfl
        rw [hz] at h00
        exact (cell_rd h00).1
      · obtain ⟨u, hu1, hu2⟩ := hj j hjj
        have := (cell_rd hu2).2
        rw [(hadd _ _).1, (hadd _ _).2] at this
        rw [this, hu1]
    refine ⟨some a, l0, c0, rfl, hl, hm, fun hlt => ?_, fun h => (by cases h), fun i hi => ?_⟩
    · obtain ⟨_, _, _, hs, _⟩ := key 0 hlt
      obtain ⟨b, o, s⟩ := a
      cases s with
      | none => rfl
      | some k => cases hs
    · obtain ⟨cs, n, x, _, r1, r2, r3⟩ := key i hi
      exact ⟨cs, n, x, r1, r2, r3⟩
structure BytesAt (w : World) (a : Option Addr) (l c : Nat) (f : Nat → Int) : Prop where
  le : l ≤ c
  mx : c ≤ maxLen
  isp : 0 < l → isP a = true
  rd : ∀ i, i < l → Eng.rd w (pb a) (po a + i) = some (.int .u8 (f i))
  by0 : ∀ i, i < l → 0 ≤ f i ∧ f i ≤ 255
  nil : a = none → l = 0 ∧ c = 0
structure OpAt (w : World) (a : Option Addr) (i : Nat) (k j t : Int) (b : Option Addr) (l c : Nat) (f : Nat → Int) : Prop where
  r0 : Eng.rd w (pb a) (po a + i * 4) = some (.int .i64 k)
  r1 : Eng.rd w (pb a) (po a + i * 4 + 1) = some (.int .i64 j)
  r2 : Eng.rd w (pb a) (po a + i * 4 + 2) = some (.int .u64 t)
  r3 : Eng.rd w (pb a) (po a + i * 4 + 3) = some (.slice b l c)
  k64 : -9223372036854775808 ≤ k ∧ k ≤ 9223372036854775807
  j64 : -9223372036854775808 ≤ j ∧ j ≤ 9223372036854775807
  t64 : 0 ≤ t ∧ t ≤ 18446744073709551615
  by' : BytesAt w b l c f
end
end Go.Eng
