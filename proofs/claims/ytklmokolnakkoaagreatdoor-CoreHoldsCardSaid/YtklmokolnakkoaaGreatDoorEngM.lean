/-
  Part M of an engine: arguments that are rows, opened; bytes made a string. Proved: what a reading tells of their cells. Conditions: those in each theorem.
-/
import Derived.Test.YtklmokolnakkoaaGreatDoorEngL
import Derived.Deep.Slices
import Derived.Laws.BytesArg
import Derived.Test.YtklmokolnakkoaaGreatDoorEngV
set_option linter.unusedVariables false
set_option linter.unusedSimpArgs false
namespace Go.Eng
open Go.ChangeShapes Go.WideShapes Go.ChangeAt Go.RowKit Go.Deep

theorem cell_rd {w : World} {a : Addr} {v : Value} (h : w.cell? a = some v) : a.spot = none ∧ rd w a.block a.off = some v := by
  obtain ⟨b, o, s⟩ := a
  cases s with
  | none => exact ⟨rfl, h⟩
  | some k =>
    exfalso
    simp only [World.cell?, Option.isSome_some, if_true] at h
    split at h <;> cases h
section
variable {H : Type} {enc : TypeId × Value → H} {P : Program}
theorem open_row {t e : TypeId} (ht : P.underlying t = some (.slice e)) {W : World} {fuel : Nat} {vs : List Value} {q : DataW H × List MemPlace}
    (hf : DataW.trod enc P W 0 (fun _ => true) true fuel t vs = some q) (hpos : 0 < P.cellsOf e) :
    ∃ a l c, vs = [.slice a l c] ∧ l ≤ c ∧ c ≤ maxLen ∧ (0 < l → isP a = true) ∧ (a = none → l = 0 ∧ c = 0) ∧
      ∀ i, i < l → ∃ cs n x, cs.length = P.cellsOf e ∧ (∀ j, j < P.cellsOf e → rd W (pb a) (po a + i * P.cellsOf e + j) = cs[j]?) ∧ DataW.trod enc P W 0 (fun _ => true) true n e cs = some x := by
  rcases open_slice ht hf with ⟨rfl, _⟩ | ⟨a, l0, c0, m, n, D, Pl, rfl, _, hl, hm, hmm, _, hx⟩
  · exact ⟨none, 0, 0, rfl, Nat.le_refl _, Nat.zero_le _, fun h => absurd h (Nat.lt_irrefl _), fun _ => ⟨rfl, rfl⟩, fun i hi => absurd hi (Nat.not_lt_zero _)⟩
  · simp only [if_true] at hmm
    have key : ∀ i, i < l0 → ∃ cs n x, a.spot = none ∧ cs.length = P.cellsOf e ∧ (∀ j, j < P.cellsOf e → rd W a.block (a.off + i * P.cellsOf e + j) = cs[j]?) ∧ DataW.trod enc P W 0 (fun _ => true) true n e cs = some x := by
      intro i hi
      obtain ⟨cs, hc, ht⟩ := hx i (by omega)
      obtain ⟨_, hlen, hcell⟩ := World.cells?_some hc
      have hj : ∀ j, j < P.cellsOf e → ∃ u, cs[j]? = some u ∧ W.cell? ((a.add (i * P.cellsOf e)).add j) = some u := fun j hj => by
        have := hcell j hj
        rw [List.getElem?_eq_getElem (by omega)] at this ⊢
        exact ⟨_, rfl, this⟩
      have hadd : ∀ x y : Nat, ((a.add x).add y).block = a.block ∧ ((a.add x).add y).off = a.off + x + y := by
        intro x y
        unfold Addr.add
        constructor <;> (split <;> split <;> simp_all)
      refine ⟨cs, n, _, ?_, hlen, fun j hjj => ?_, ht⟩
      · obtain ⟨u, _, hu⟩ := (hcell 0 hpos ▸ hj 0 hpos)
        -- the first element's first cell tells of the address itself
        obtain ⟨cs0, hc0, _⟩ := hx 0 (by omega)
        obtain ⟨_, hlen0, hcell0⟩ := World.cells?_some hc0
        have h00 := hcell0 0 hpos
        rw [List.getElem?_eq_getElem (by omega), Nat.zero_mul] at h00
        have hz : (a.add 0).add 0 = a := rfl
        rw [hz] at h00
        exact (cell_rd h00).1
      · obtain ⟨u, hu1, hu2⟩ := hj j hjj
        have := (cell_rd hu2).2
        rw [(hadd _ _).1, (hadd _ _).2] at this
        rw [this, hu1]
    refine ⟨some a, l0, c0, rfl, hl, hm, fun hlt => ?_, fun h => (by cases h), fun i hi => ?_⟩
    · obtain ⟨_, _, _, hs, _⟩ := key 0 hlt
      obtain ⟨b, o, s⟩ := a
      cases s with
      | none => rfl
      | some k => cases hs
    · obtain ⟨cs, n, x, _, r1, r2, r3⟩ := key i hi
      exact ⟨cs, n, x, r1, r2, r3⟩
structure BytesAt (w : World) (a : Option Addr) (l c : Nat) (f : Nat → Int) : Prop where
  le : l ≤ c
  mx : c ≤ maxLen
  isp : 0 < l → isP a = true
  rd : ∀ i, i < l → Eng.rd w (pb a) (po a + i) = some (.int .u8 (f i))
  by0 : ∀ i, i < l → 0 ≤ f i ∧ f i ≤ 255
  nil : a = none → l = 0 ∧ c = 0
theorem open_bytes {t e : TypeId} (ht : P.underlying t = some (.slice e)) (he : P.underlying e = some (.int .u8)) (hc : P.cellsOf e = 1) {W : World} {fuel : Nat} {vs : List Value} {q : DataW H × List MemPlace}
    (hf : DataW.trod enc P W 0 (fun _ => true) true fuel t vs = some q) : ∃ a l c f, vs = [.slice a l c] ∧ BytesAt W a l c f := by
  obtain ⟨a, l, c, rfl, hl, hm, hp, hnil, hx⟩ := open_row ht hf (by omega)
  have each : ∀ i, i < l → ∃ n : Int, Eng.rd W (pb a) (po a + i) = some (.int .u8 n) ∧ 0 ≤ n ∧ n ≤ 255 := by
    intro i hi
    obtain ⟨cs, n, x, hlen, hcell, htr⟩ := hx i hi
    obtain ⟨k, rfl, _, hw⟩ := DataW.trod_int he htr
    have := hcell 0 (by omega)
    rw [hc, Nat.mul_one] at this
    refine ⟨k, this, ?_⟩
    simpa [Lit.wf, IntKind.min, IntKind.max, IntKind.signed, IntKind.bits] using hw
  refine ⟨a, l, c, fun i => if h : i < l then (each i h).choose else 0, rfl, hl, hm, hp, fun i hi => ?_, fun i hi => ?_, hnil⟩
  · simp only [hi, dif_pos]
    exact (each i hi).choose_spec.1
  · simp only [hi, dif_pos]
    exact (each i hi).choose_spec.2
structure OpAt (w : World) (a : Option Addr) (i : Nat) (k j t : Int) (b : Option Addr) (l c : Nat) (f : Nat → Int) : Prop where
  r0 : Eng.rd w (pb a) (po a + i * 4) = some (.int .i64 k)
  r1 : Eng.rd w (pb a) (po a + i * 4 + 1) = some (.int .i64 j)
  r2 : Eng.rd w (pb a) (po a + i * 4 + 2) = some (.int .u64 t)
  r3 : Eng.rd w (pb a) (po a + i * 4 + 3) = some (.slice b l c)
  k64 : -9223372036854775808 ≤ k ∧ k ≤ 9223372036854775807
  j64 : -9223372036854775808 ≤ j ∧ j ≤ 9223372036854775807
  t64 : 0 ≤ t ∧ t ≤ 18446744073709551615
  by' : BytesAt w b l c f
theorem open_ops {t e te : TypeId} {f0 f1 f2 f3 : Field} (ht : P.underlying t = some (.slice e)) (he : P.underlying e = some (.struct #[f0, f1, f2, f3])) (ce : P.cellsOf e = 4)
    (o0 : f0.offset = 0) (o1 : f1.offset = 1) (o2 : f2.offset = 2) (o3 : f3.offset = 3) (c0 : P.cellsOf f0.type = 1) (c1 : P.cellsOf f1.type = 1) (c2 : P.cellsOf f2.type = 1) (c3 : P.cellsOf f3.type = 1)
    (h0 : P.underlying f0.type = some (.int .i64)) (h1 : P.underlying f1.type = some (.int .i64)) (h2 : P.underlying f2.type = some (.int .u64)) (h3 : P.underlying f3.type = some (.slice te)) (hte : P.underlying te = some (.int .u8)) (cte : P.cellsOf te = 1)
    {W : World} {fuel : Nat} {vs : List Value} {q : DataW H × List MemPlace} (hf : DataW.trod enc P W 0 (fun _ => true) true fuel t vs = some q) :
    ∃ a l c, vs = [.slice a l c] ∧ l ≤ c ∧ c ≤ maxLen ∧ (0 < l → isP a = true) ∧ ∀ i, i < l → ∃ k j u b bl bc f, OpAt W a i k j u b bl bc f := by
  obtain ⟨a, l, c, rfl, hl, hm, hp, hnil, hx⟩ := open_row ht hf (by omega)
  refine ⟨a, l, c, rfl, hl, hm, hp, fun i hi => ?_⟩
  obtain ⟨cs, n, x, hlen, hcell, htr⟩ := hx i hi
  obtain ⟨xs, k, _, _, _, hxl, hfs⟩ := DataW.trod_struct he htr
  rw [ce] at hlen hcell
  match xs, hxl, cs, hlen with
  | [y0, y1, y2, y3], _, [v0, v1, v2, v3], _ =>
    have g0 := hfs 0 f0 rfl
    have g1 := hfs 1 f1 rfl
    have g2 := hfs 2 f2 rfl
    have g3 := hfs 3 f3 rfl
    simp [o0, o1, o2, o3, c0, c1, c2, c3] at g0 g1 g2 g3
    obtain ⟨k0, e0, _, w0⟩ := DataW.trod_int h0 g0
    obtain ⟨k1, e1, _, w1⟩ := DataW.trod_int h1 g1
    obtain ⟨k2, e2, _, w2⟩ := DataW.trod_int h2 g2
    obtain ⟨b, bl, bc, f, e3, hb⟩ := open_bytes h3 hte cte g3
    simp at e0 e1 e2 e3
    subst e0 e1 e2 e3
    have r0 := hcell 0 (by omega)
    have r1 := hcell 1 (by omega)
    have r2 := hcell 2 (by omega)
    have r3 := hcell 3 (by omega)
    refine ⟨k0, k1, k2, b, bl, bc, f, r0, r1, r2, r3, ?_, ?_, ?_, hb⟩
    · simpa [Lit.wf, IntKind.min, IntKind.max, IntKind.signed, IntKind.bits] using w0
    · simpa [Lit.wf, IntKind.min, IntKind.max, IntKind.signed, IntKind.bits] using w1
    · simpa [Lit.wf, IntKind.min, IntKind.max, IntKind.signed, IntKind.bits] using w2
end
def strOf (n : Nat) (f : Nat → Int) : ByteArray := strOfNums ((List.range n).map f)
theorem cnv_bytes {P : Program} {src e dst : TypeId} (hs : P.underlying src = some (.slice e)) (he : P.underlying e = some (.int .u8)) (hd : P.underlying dst = some .string) {w : World} {B off len cap : Nat} {f : Nat → Int}
    (h : ∀ i, i < len → rd w B (off + i) = some (.int .u8 (f i))) : cnvIs P src dst (.slice (some ⟨B, off, none⟩) len cap) (.string (strOf len f)) w w := by
  refine ⟨run_convert_bytes_arg w src e hs he B off len cap ((List.range len).map f) (by rw [List.length_map, List.length_range]) (fun i hi => ?_) dst hd⟩
  have := h i hi
  unfold rd at this
  rw [this]
  simp [List.getD, hi]
end Go.Eng
