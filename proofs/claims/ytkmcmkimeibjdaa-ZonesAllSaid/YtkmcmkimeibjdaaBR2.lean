/-
  A part of a proof that a law of this seat returns true at every input. Conditions: those in each theorem.
-/
import Derived.Test.YtkmcmkimeibjdaaBR1
import Derived.Test.YtkmcmkimeibjdaaZC1
namespace Go.Proofs.Ytkmcmkimeibjdaa
open Go.ChangeShapes Go.WideShapes Go.ChangeAt Go.RowKit Go.Eng
set_option linter.unusedSimpArgs false
set_option linter.unusedVariables false
set_option maxRecDepth 100000
/-! ### a config that is handed in; a row of numbers -/
def Ints (cs : List Value) : Prop := ∀ j, j < cs.length → ∃ n : Int, cs[j]? = some (.int .i64 n) ∧ -9223372036854775808 ≤ n ∧ n ≤ 9223372036854775807
section
variable {H : Type} {enc : TypeId × Value → H} {P : Program} {W : World}
abbrev Tr (H : Type) (enc : TypeId × Value → H) (P : Program) (W : World) (t : TypeId) : Prop := ∀ (fuel : Nat) (cs : List Value) (x : DataW H × List MemPlace), DataW.trod enc P W 0 (fun _ => true) true fuel t cs = some x → Ints cs ∧ cs.length = P.cellsOf t
theorem tr_int {t : TypeId} (ht : P.underlying t = some (.int .i64)) (hc : P.cellsOf t = 1) : Tr H enc P W t := fun fuel cs x h => by
  obtain ⟨n, rfl, _, hw⟩ := DataW.trod_int ht h
  refine ⟨fun j hj => ⟨n, ?_, wf_i64 hw⟩, by rw [hc]; rfl⟩
  have : j = 0 := by simp at hj; omega
  subst this; rfl
theorem tr_part {cs ds : List Value} {o s : Nat} (h : Ints ((cs.drop o).take s)) {j : Nat} (h1 : o ≤ j) (h2 : j < o + s) (h3 : j < cs.length) : ∃ n : Int, cs[j]? = some (.int .i64 n) ∧ -9223372036854775808 ≤ n ∧ n ≤ 9223372036854775807 := by
  obtain ⟨n, h4, h5⟩ := h (j - o) (by simp; omega)
  rw [List.getElem?_take, if_pos (by omega), List.getElem?_drop, show o + (j - o) = j by omega] at h4
  exact ⟨n, h4, h5⟩
theorem tr_arr {t e : TypeId} {n s : Nat} (ht : P.underlying t = some (.array n e)) (hs : P.cellsOf e = s) (hc : P.cellsOf t = n * s) (he : Tr H enc P W e) : Tr H enc P W t := fun fuel cs x h => by
  obtain ⟨xs, m, _, _, hl, hxl, hx⟩ := DataW.trod_array ht h
  refine ⟨fun j hj => ?_, hl⟩
  rw [hl, hc] at hj
  have hs0 : 0 < s := by
    rcases Nat.eq_zero_or_pos s with h0 | h0
    · subst h0; simp at hj
    · exact h0
  have hi : j / s < n := (Nat.div_lt_iff_lt_mul hs0).2 hj
  have h1 := hx (j / s) hi
  rw [List.getElem?_eq_getElem (by omega), hs] at h1
  have h2 := (he _ _ _ h1).1
  have hd := Nat.div_add_mod j s
  have hm := Nat.mod_lt j hs0
  exact tr_part (ds := []) h2 (by rw [Nat.mul_comm] at hd; omega) (by rw [Nat.mul_comm] at hd; omega) (by rw [hl, hc]; exact hj)
end
section
variable {H : Type} {enc : TypeId × Value → H}
theorem cells_41 : Try.prog.cellsOf 41 = 94 := by kernel_rfl
theorem cells_37 : Try.prog.cellsOf 37 = 16 * 1 := by kernel_rfl
theorem cells_38 : Try.prog.cellsOf 38 = 8 * 1 := by kernel_rfl
theorem cells_39 : Try.prog.cellsOf 39 = 8 * 8 := by kernel_rfl
theorem tr3 (W : World) : Tr H enc Try.prog W 3 := tr_int Try.underlying3 cells_3
theorem tr37 (W : World) : Tr H enc Try.prog W 37 := tr_arr Try.underlying37 cells_3 cells_37 (tr3 W)
theorem tr38 (W : World) : Tr H enc Try.prog W 38 := tr_arr Try.underlying38 cells_3 cells_38 (tr3 W)
theorem tr39 (W : World) : Tr H enc Try.prog W 39 := tr_arr Try.underlying39 cells_38 cells_39 (tr38 W)
theorem tr41 (W : World) : Tr H enc Try.prog W 41 := fun fuel cs x h => by
  obtain ⟨xs, m, _, _, hl, hxl, hx⟩ := DataW.trod_struct Try.underlying41 h
  refine ⟨fun j hj => ?_, hl⟩
  have hxl' : xs.length = 9 := hxl
  rw [hl, cells_41] at hj
  have go : ∀ (i : Nat) (f : Field) (o s : Nat), i < 9 → f.offset = o → Try.prog.cellsOf f.type = s → Tr H enc Try.prog W f.type → DataW.trod enc Try.prog W 0 (fun _ => true) true m f.type ((cs.drop f.offset).take (Try.prog.cellsOf f.type)) = xs[i]? → o ≤ j → j < o + s → ∃ n : Int, cs[j]? = some (.int .i64 n) ∧ -9223372036854775808 ≤ n ∧ n ≤ 9223372036854775807 := by
    intro i f o s hi ho hs ht hf h1 h2
    rw [List.getElem?_eq_getElem (by omega)] at hf
    have := (ht _ _ _ hf).1
    rw [ho, hs] at this
    exact tr_part (ds := []) this h1 h2 (by rw [hl, cells_41]; exact hj)
  by_cases e0 : j < 1
  · exact go 0 _ 0 1 (by omega) rfl cells_3 (tr3 W) (hx 0 _ rfl) (by omega) (by omega)
  by_cases e1 : j < 2
  · exact go 1 _ 1 1 (by omega) rfl cells_3 (tr3 W) (hx 1 _ rfl) (by omega) (by omega)
  by_cases e2 : j < 18
  · exact go 2 _ 2 16 (by omega) rfl cells_37 (tr37 W) (hx 2 _ rfl) (by omega) (by omega)
  by_cases e3 : j < 26
  · exact go 3 _ 18 8 (by omega) rfl cells_38 (tr38 W) (hx 3 _ rfl) (by omega) (by omega)
  by_cases e4 : j < 90
  · exact go 4 _ 26 64 (by omega) rfl cells_39 (tr39 W) (hx 4 _ rfl) (by omega) (by omega)
  by_cases e5 : j < 91
  · exact go 5 _ 90 1 (by omega) rfl cells_3 (tr3 W) (hx 5 _ rfl) (by omega) (by omega)
  by_cases e6 : j < 92
  · exact go 6 _ 91 1 (by omega) rfl cells_3 (tr3 W) (hx 6 _ rfl) (by omega) (by omega)
  by_cases e7 : j < 93
  · exact go 7 _ 92 1 (by omega) rfl cells_3 (tr3 W) (hx 7 _ rfl) (by omega) (by omega)
  · exact go 8 _ 93 1 (by omega) rfl cells_3 (tr3 W) (hx 8 _ rfl) (by omega) (by omega)
theorem open_cfg {W : World} {base : Nat} {v : Value} {d : DataW H} {p : List MemPlace} (hv : Value.okWide Try.prog W .any base 41 v) (h : DataW.Trod enc Try.prog W 0 (fun _ => true) true 41 v d p) :
    ∃ c, v = cfgV c ∧ ∀ j, j < 94 → -9223372036854775808 ≤ c j ∧ c j ≤ 9223372036854775807 := by
  obtain ⟨cs, rfl, hsz⟩ := okWide_struct Try.underlying41 hv
  obtain ⟨fuel, hf⟩ := h
  obtain ⟨hi, hl⟩ := tr41 W _ _ _ hf
  have hcs : (Value.agg cs).cells = cs := rfl
  rw [hcs] at hi hl
  rw [cells_41] at hl
  have each : ∀ j, j < 94 → ∃ n : Int, cs.toList[j]? = some (.int .i64 n) ∧ -9223372036854775808 ≤ n ∧ n ≤ 9223372036854775807 := fun j hj => hi j (by omega)
  obtain ⟨f, hff⟩ : ∃ f : Nat → Int, ∀ j, j < 94 → cs.toList[j]? = some (.int .i64 (f j)) ∧ -9223372036854775808 ≤ f j ∧ f j ≤ 9223372036854775807 :=
    ⟨fun j => if h : j < 94 then (each j h).choose else 0, fun j hj => by simp only [hj, dif_pos]; exact (each j hj).choose_spec⟩
  refine ⟨f, ?_, fun j hj => (hff j hj).2⟩
  have : cs.toList = cfg f := runI_of hl fun j hj => (hff j hj).1
  show Value.agg cs = Value.agg (cfg f).toArray
  rw [← this]
/-- numbers, handed in as a row -/
structure IntsAt (w : World) (a : Option Addr) (l : Nat) (f : Nat → Int) : Prop where
  isp : 0 < l → isP a = true
  rd : ∀ i, i < l → Eng.rd w (pb a) (po a + i) = some (.int .i64 (f i))
  r64 : ∀ i, i < l → -9223372036854775808 ≤ f i ∧ f i ≤ 9223372036854775807
  mx : l ≤ maxLen
theorem open_ints {W : World} {base : Nat} {v : Value} {d : DataW H} {p : List MemPlace} (hv : Value.okWide Try.prog W .any base 42 v) (h : DataW.Trod enc Try.prog W 0 (fun _ => true) true 42 v d p) :
    ∃ a l c f, v = .slice a l c ∧ IntsAt W a l f := by
  obtain ⟨a0, l0, c0, rfl⟩ := okWide_slice Try.underlying42 hv
  obtain ⟨fuel, hf⟩ := h
  obtain ⟨a, l, c, e, hle, hmx, hp, _, hx⟩ := open_row Try.underlying42 hf (by rw [cells_3]; omega)
  simp [Value.cells] at e
  obtain ⟨rfl, rfl, rfl⟩ := e
  have each : ∀ i, i < l0 → ∃ n : Int, Eng.rd W (pb a0) (po a0 + i) = some (.int .i64 n) ∧ -9223372036854775808 ≤ n ∧ n ≤ 9223372036854775807 := by
    intro i hi
    obtain ⟨cs, n, x, hlen, hcell, htr⟩ := hx i hi
    obtain ⟨k, rfl, _, hw⟩ := DataW.trod_int Try.underlying3 htr
    have := hcell 0 (by rw [cells_3]; omega)
    rw [cells_3, Nat.mul_one] at this
    refine ⟨k, this, ?_⟩
    simpa [Lit.wf, IntKind.min, IntKind.max, IntKind.signed, IntKind.bits] using hw
  refine ⟨a0, l0, c0, fun i => if h : i < l0 then (each i h).choose else 0, rfl, hp, fun i hi => ?_, fun i hi => ?_, by omega⟩
  · simp only [hi, dif_pos]
    exact (each i hi).choose_spec.1
  · simp only [hi, dif_pos]
    exact (each i hi).choose_spec.2
theorem open_bool {W : World} {base : Nat} {v : Value} {d : DataW H} {p : List MemPlace} (hv : Value.okWide Try.prog W .any base 4 v) (h : DataW.Trod enc Try.prog W 0 (fun _ => true) true 4 v d p) : ∃ b, v = .bool b :=
  okWide_bool Try.underlying4 hv
end
end Go.Proofs.Ytkmcmkimeibjdaa
