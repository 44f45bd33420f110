/-
  A part of a proof that a law of this seat returns true at every input. Conditions: those in each theorem.
-/
import Derived.Test.YtikjgeenhbnkkaaGreatDoorRows
import Derived.Test.YtikjgeenhbnkkaaGreatDoorEngM
import Derived.Test.YtikjgeenhbnkkaaGreatDoorBA1
namespace Go.Proofs.YtikjgeenhbnkkaaGreatDoor
open Go.ChangeShapes Go.WideShapes Go.ChangeAt Go.RowKit Go.Eng Go.Deep
set_option linter.unusedSimpArgs false
set_option linter.unusedVariables false
set_option maxRecDepth 100000
def I64 (n : Int) : Prop := -9223372036854775808 ≤ n ∧ n ≤ 9223372036854775807
theorem wf_i64 {x : Int} (h : (Lit.int .i64 x).wf = true) : I64 x := by
  simpa [I64, Lit.wf, IntKind.min, IntKind.max, IntKind.signed, IntKind.bits] using h
theorem wf_u8 {x : Int} (h : (Lit.int .u8 x).wf = true) : 0 ≤ x ∧ x ≤ 255 := by
  simpa [Lit.wf, IntKind.min, IntKind.max, IntKind.signed, IntKind.bits] using h
section
variable {H : Type} {enc : TypeId × Value → H} {P : Program} {W : World}
theorem one_le (d : DataW H) : 1 ≤ Rows.uptoBulk d := by
  cases d with
  | lit l => cases l <;> simp [Rows.uptoBulk]
  | nil => simp [Rows.uptoBulk]
  | ptr d => simp [Rows.uptoBulk]
  | slice elems spare => simp [Rows.uptoBulk]
  | agg parts => simp [Rows.uptoBulk]
  | iface t d => simp [Rows.uptoBulk]
  | map entries => simp [Rows.uptoBulk]
  | held h => simp [Rows.uptoBulk]
def Op (enc : TypeId × Value → H) (P : Program) (W : World) (t : TypeId) (s : Nat) {α : Type} (R : Rd α) (Pr : α → Prop) (μ : α → Nat) : Prop :=
  P.cellsOf t = s ∧ 0 < s ∧ ∀ (n : Nat) (cs : List Value) (x : DataW H × List MemPlace), DataW.trod enc P W 0 (fun _ => true) true n t cs = some x → ∃ y, R W cs y ∧ Pr y ∧ μ y ≤ Rows.uptoBulk x.1
theorem bulk_range (D : Nat → DataW H) (μ : Nat → Nat) : ∀ l, (∀ i, i < l → μ i ≤ Rows.uptoBulk (D i)) → sumN μ (List.range l) ≤ Rows.uptoBulkAll ((List.range l).map D)
  | 0, _ => by simp [sumN, Rows.uptoBulkAll]
  | l + 1, h => by
    have app : ∀ (a b : List (DataW H)), Rows.uptoBulkAll (a ++ b) = Rows.uptoBulkAll a + Rows.uptoBulkAll b := fun a b => by
      induction a with
      | nil => simp [Rows.uptoBulkAll]
      | cons x a ih => simp only [List.cons_append, Rows.uptoBulkAll, ih]; omega
    have h1 := bulk_range D μ l fun i hi => h i (by omega)
    have h2 := h l (by omega)
    rw [List.range_succ, List.map_append, app, sumN_app]
    have e1 : sumN μ [l] = μ l := by simp [sumN]
    have e2 : Rows.uptoBulkAll (List.map D [l]) = Rows.uptoBulk (D l) := by simp [Rows.uptoBulkAll]
    omega
theorem op_slice {α : Type} {R : Rd α} {Pr : α → Prop} {μ : α → Nat} {t e : TypeId} {s : Nat} (ht : P.underlying t = some (.slice e)) (hc : P.cellsOf t = 1) (he : Op enc P W e s R Pr μ) :
    Op enc P W t 1 (RL R s) (fun xs => ∀ x ∈ xs, Pr x) (fun xs => 1 + sumN μ xs) := by
  obtain ⟨hs, hs0, hel⟩ := he
  refine ⟨hc, by decide, fun n cs x hf => ?_⟩
  obtain ⟨a', l', c', e', hlc', hmx', hisp', hnil', hrow'⟩ := open_row ht hf (by omega)
  rcases open_slice ht hf with ⟨rfl, rfl⟩ | ⟨a, l0, c0, m, n', D, Pl, rfl, _, hl, hm, hmm, rfl, hx⟩
  · exact ⟨[], ⟨none, 0, 0, rfl, SlR.nil'⟩, fun x hx => (by cases hx), by simp [sumN, Rows.uptoBulk]⟩
  · simp at e'
    obtain ⟨rfl, rfl, rfl⟩ := e'
    simp only [if_true] at hmm
    have each : ∀ i, i < l0 → ∃ (y : α) (cs : List Value), cs.length = s ∧ R W cs y ∧ Pr y ∧ μ y ≤ Rows.uptoBulk (D i) ∧ ∀ (j : Nat) (u : Value), cs[j]? = some u → rd W (pb (some a)) (po (some a) + i * s + j) = some u := by
      intro i hi
      obtain ⟨ds, nn, xx, hdl, hcell, htr'⟩ := hrow' i hi
      obtain ⟨cs, hcs, htr⟩ := hx i (by omega)
      obtain ⟨_, hlen, hc2⟩ := World.cells?_some hcs
      obtain ⟨y, hy1, hy2, hy3⟩ := hel _ _ _ htr
      refine ⟨y, cs, by omega, hy1, hy2, hy3, fun j u hu => ?_⟩
      have hj : j < s := by have := (List.getElem?_eq_some_iff.1 hu).1; omega
      have h1 := hc2 j (by omega)
      rw [hu] at h1
      have h2 := cell_rd h1
      have hsp : a.spot = none := by
        have := hisp' (by omega)
        obtain ⟨b, o, sp⟩ := a
        cases sp with
        | none => rfl
        | some k => cases this
      have := h2.2
      obtain ⟨b, o, sp⟩ := a
      simp only at hsp
      subst hsp
      rw [addr_add, addr_add, hs] at this
      exact this
    rcases Nat.eq_zero_or_pos l0 with h0 | h0
    · subst h0
      exact ⟨[], ⟨some a, 0, c0, rfl, ⟨rfl, hisp', fun h => (by cases h), hl, hm, fun i x hx => by simp at hx⟩⟩, fun x hx => (by cases hx), by simp [sumN, Rows.uptoBulk]⟩
    have hch : ∃ f : Nat → α, ∀ i, i < l0 → ∃ (cs : List Value), cs.length = s ∧ R W cs (f i) ∧ Pr (f i) ∧ μ (f i) ≤ Rows.uptoBulk (D i) ∧ ∀ (j : Nat) (u : Value), cs[j]? = some u → rd W (pb (some a)) (po (some a) + i * s + j) = some u := by
      exact ⟨fun i => if h : i < l0 then (each i h).choose else (each 0 h0).choose, fun i hi => by simp only [hi, dif_pos]; exact (each i hi).choose_spec⟩
    obtain ⟨f, hf'⟩ := hch
    refine ⟨(List.range l0).map f, ⟨some a, l0, c0, rfl, ⟨by simp, hisp', fun h => (by cases h), hl, hm, fun i x hx => ?_⟩⟩, fun x hx => ?_, ?_⟩
    · rw [List.getElem?_map] at hx
      obtain ⟨j, hj, rfl⟩ := Option.map_eq_some_iff.1 hx
      obtain ⟨hj1, rfl⟩ := List.getElem?_eq_some_iff.1 hj
      rw [List.getElem_range]
      obtain ⟨cs, h1, h2, h3, h4, h5⟩ := hf' i (by simpa using hj1)
      exact ⟨cs, h1, h2, h5⟩
    · obtain ⟨j, hj, rfl⟩ := List.mem_map.1 hx
      obtain ⟨cs, h1, h2, h3, h4, h5⟩ := hf' j (List.mem_range.1 hj)
      exact h3
    · have h1 := bulk_range D (fun i => μ (f i)) l0 fun i hi => by
        obtain ⟨cs, h1, h2, h3, h4, h5⟩ := hf' i hi
        exact h4
      have e1 : sumN μ ((List.range l0).map f) = sumN (fun i => μ (f i)) (List.range l0) := by
        unfold sumN
        rw [List.map_map]
        rfl
      simp only [Rows.uptoBulk]
      rw [e1]
      omega
theorem op_int {t : TypeId} (ht : P.underlying t = some (.int .i64)) (hc : P.cellsOf t = 1) : Op enc P W t 1 RInt I64 (fun _ => 1) := by
  refine ⟨hc, by decide, fun n cs x hf => ?_⟩
  obtain ⟨k, rfl, rfl, hw⟩ := DataW.trod_int ht hf
  exact ⟨k, rfl, wf_i64 hw, one_le _⟩
end
section
variable {H : Type} {enc : TypeId × Value → H} {W : World}
theorem cells_3 : Tryz.prog.cellsOf 3 = 1 := by kernel_rfl
theorem cells_5 : Tryz.prog.cellsOf 5 = 1 := by kernel_rfl
theorem cells_50 : Tryz.prog.cellsOf 50 = 2 := by kernel_rfl
theorem cells_56 : Tryz.prog.cellsOf 56 = 1 := by kernel_rfl
theorem cells_58 : Tryz.prog.cellsOf 58 = 1 := by kernel_rfl
theorem cells_59 : Tryz.prog.cellsOf 59 = 1 := by kernel_rfl
theorem cells_31 : Tryz.prog.cellsOf 31 = 1 := by kernel_rfl
theorem cells_44 : Tryz.prog.cellsOf 44 = 1 := by kernel_rfl
theorem cells_45 : Tryz.prog.cellsOf 45 = 1 := by kernel_rfl
theorem cells_46 : Tryz.prog.cellsOf 46 = 1 := by kernel_rfl
theorem cells_53 : Tryz.prog.cellsOf 53 = 1 := by kernel_rfl
theorem cells_28 : Tryz.prog.cellsOf 28 = 1 := by kernel_rfl
theorem cells_29 : Tryz.prog.cellsOf 29 = 1 := by kernel_rfl
theorem cells_30 : Tryz.prog.cellsOf 30 = 1 := by kernel_rfl
theorem cells_32 : Tryz.prog.cellsOf 32 = 1 := by kernel_rfl
theorem cells_33 : Tryz.prog.cellsOf 33 = 1 := by kernel_rfl
theorem cells_34 : Tryz.prog.cellsOf 34 = 1 := by kernel_rfl
theorem cells_35 : Tryz.prog.cellsOf 35 = 1 := by kernel_rfl
theorem cells_27 : Tryz.prog.cellsOf 27 = 1 := by kernel_rfl
theorem cells_43 : Tryz.prog.cellsOf 43 = 2 := by kernel_rfl
theorem cells_113 : Tryz.prog.cellsOf 113 = 2 := by kernel_rfl
theorem cells_61 : Tryz.prog.cellsOf 61 = 5 := by kernel_rfl
theorem cells_63 : Tryz.prog.cellsOf 63 = 3 := by kernel_rfl
theorem cells_71 : Tryz.prog.cellsOf 71 = 2 := by kernel_rfl
theorem cells_75 : Tryz.prog.cellsOf 75 = 2 := by kernel_rfl
theorem cells_79 : Tryz.prog.cellsOf 79 = 3 := by kernel_rfl
theorem cells_52 : Tryz.prog.cellsOf 52 = 3 := by kernel_rfl
theorem cells_55 : Tryz.prog.cellsOf 55 = 7 := by kernel_rfl
theorem cells_48 : Tryz.prog.cellsOf 48 = 6 := by kernel_rfl
theorem cells_26 : Tryz.prog.cellsOf 26 = 94 := by kernel_rfl
theorem cells_37 : Tryz.prog.cellsOf 37 = 107 := by kernel_rfl
theorem cells_22 : Tryz.prog.cellsOf 22 = 16 * 1 := by kernel_rfl
theorem cells_23 : Tryz.prog.cellsOf 23 = 8 * 1 := by kernel_rfl
theorem cells_24 : Tryz.prog.cellsOf 24 = 8 * 8 := by kernel_rfl
theorem op3 : Op enc Tryz.prog W 3 1 RInt I64 (fun _ => 1) := op_int Tryz.underlying3 cells_3
theorem op31 : Op enc Tryz.prog W 31 1 (RL RInt 1) (fun xs => ∀ x ∈ xs, I64 x) (fun xs => 1 + sumN (fun _ => 1) xs) := op_slice Tryz.underlying31 cells_31 op3
theorem op43 : Op enc Tryz.prog W 43 2 RPair (fun p => I64 p.1 ∧ I64 p.2) (fun _ => 1) := by
  refine ⟨cells_43, by decide, fun n cs x h => ?_⟩
  obtain ⟨xs, k, _, rfl, hl, hxl, hfs⟩ := DataW.trod_struct Tryz.underlying43 h
  rw [cells_43] at hl
  match xs, hxl, cs, hl with
  | [y0, y1], _, [v0, v1], _ =>
    have g0 := hfs 0 _ rfl
    have g1 := hfs 1 _ rfl
    simp [cells_3, cells_5, cells_50, cells_58, cells_59, cells_31, cells_44, cells_45, cells_46, cells_53] at g0 g1
    obtain ⟨k0, e0, d0, w0⟩ := DataW.trod_int Tryz.underlying3 g0
    obtain ⟨k1, e1, d1, w1⟩ := DataW.trod_int Tryz.underlying3 g1
    simp at e0
    simp at e1
    subst e0 e1
    exact ⟨(k0, k1), rfl, ⟨wf_i64 w0, wf_i64 w1⟩, one_le _⟩
theorem op113 : Op enc Tryz.prog W 113 2 RPair (fun p => I64 p.1 ∧ I64 p.2) (fun _ => 1) := by
  refine ⟨cells_113, by decide, fun n cs x h => ?_⟩
  obtain ⟨xs, k, _, rfl, hl, hxl, hfs⟩ := DataW.trod_struct Tryz.underlying113 h
  rw [cells_113] at hl
  match xs, hxl, cs, hl with
  | [y0, y1], _, [v0, v1], _ =>
    have g0 := hfs 0 _ rfl
    have g1 := hfs 1 _ rfl
    simp [cells_3, cells_5, cells_50, cells_58, cells_59, cells_31, cells_44, cells_45, cells_46, cells_53] at g0 g1
    obtain ⟨k0, e0, d0, w0⟩ := DataW.trod_int Tryz.underlying3 g0
    obtain ⟨k1, e1, d1, w1⟩ := DataW.trod_int Tryz.underlying3 g1
    simp at e0
    simp at e1
    subst e0 e1
    exact ⟨(k0, k1), rfl, ⟨wf_i64 w0, wf_i64 w1⟩, one_le _⟩
theorem op75 : Op enc Tryz.prog W 75 2 RPair (fun p => I64 p.1 ∧ I64 p.2) (fun _ => 1) := by
  refine ⟨cells_75, by decide, fun n cs x h => ?_⟩
  obtain ⟨xs, k, _, rfl, hl, hxl, hfs⟩ := DataW.trod_struct Tryz.underlying75 h
  rw [cells_75] at hl
  match xs, hxl, cs, hl with
  | [y0, y1], _, [v0, v1], _ =>
    have g0 := hfs 0 _ rfl
    have g1 := hfs 1 _ rfl
    simp [cells_3, cells_5, cells_50, cells_58, cells_59, cells_31, cells_44, cells_45, cells_46, cells_53] at g0 g1
    obtain ⟨k0, e0, d0, w0⟩ := DataW.trod_int Tryz.underlying3 g0
    obtain ⟨k1, e1, d1, w1⟩ := DataW.trod_int Tryz.underlying3 g1
    simp at e0
    simp at e1
    subst e0 e1
    exact ⟨(k0, k1), rfl, ⟨wf_i64 w0, wf_i64 w1⟩, one_le _⟩
theorem op61 : Op enc Tryz.prog W 61 5 RMark (fun m => 0 ≤ m.role ∧ m.role ≤ 255) (fun _ => 1) := by
  refine ⟨cells_61, by decide, fun n cs x h => ?_⟩
  obtain ⟨xs, k, _, rfl, hl, hxl, hfs⟩ := DataW.trod_struct Tryz.underlying61 h
  rw [cells_61] at hl
  match xs, hxl, cs, hl with
  | [y0, y1, y2, y3, y4], _, [v0, v1, v2, v3, v4], _ =>
    have g0 := hfs 0 _ rfl
    have g1 := hfs 1 _ rfl
    have g2 := hfs 2 _ rfl
    have g3 := hfs 3 _ rfl
    have g4 := hfs 4 _ rfl
    simp [cells_3, cells_5, cells_50, cells_58, cells_59, cells_31, cells_44, cells_45, cells_46, cells_53] at g0 g1 g2 g3 g4
    obtain ⟨k0, e0, d0, w0⟩ := DataW.trod_int Tryz.underlying59 g0
    obtain ⟨k1, e1, d1, w1⟩ := DataW.trod_int Tryz.underlying3 g1
    obtain ⟨k2, e2, d2, w2⟩ := DataW.trod_int Tryz.underlying3 g2
    obtain ⟨k3, e3, d3, w3⟩ := DataW.trod_int Tryz.underlying3 g3
    obtain ⟨k4, e4, d4, w4⟩ := DataW.trod_int Tryz.underlying3 g4
    simp at e0
    simp at e1
    simp at e2
    simp at e3
    simp at e4
    subst e0 e1 e2 e3 e4
    exact ⟨⟨k0, k1, k2, k3, k4⟩, rfl, wf_u8 w0, one_le _⟩
theorem op63 : Op enc Tryz.prog W 63 3 ROwn (fun _ => True) (fun _ => 1) := by
  refine ⟨cells_63, by decide, fun n cs x h => ?_⟩
  obtain ⟨xs, k, _, rfl, hl, hxl, hfs⟩ := DataW.trod_struct Tryz.underlying63 h
  rw [cells_63] at hl
  match xs, hxl, cs, hl with
  | [y0, y1, y2], _, [v0, v1, v2], _ =>
    have g0 := hfs 0 _ rfl
    have g1 := hfs 1 _ rfl
    have g2 := hfs 2 _ rfl
    simp [cells_3, cells_5, cells_50, cells_58, cells_59, cells_31, cells_44, cells_45, cells_46, cells_53] at g0 g1 g2
    obtain ⟨k0, e0, d0, w0⟩ := DataW.trod_int Tryz.underlying3 g0
    obtain ⟨k1, e1, d1, w1⟩ := DataW.trod_int Tryz.underlying3 g1
    obtain ⟨k2, e2, d2, w2⟩ := DataW.trod_int Tryz.underlying3 g2
    simp at e0
    simp at e1
    simp at e2
    subst e0 e1 e2
    exact ⟨⟨k0, k1, k2⟩, rfl, trivial, one_le _⟩
theorem op71 : Op enc Tryz.prog W 71 2 RAlive (fun _ => True) (fun _ => 1) := by
  refine ⟨cells_71, by decide, fun n cs x h => ?_⟩
  obtain ⟨xs, k, _, rfl, hl, hxl, hfs⟩ := DataW.trod_struct Tryz.underlying71 h
  rw [cells_71] at hl
  match xs, hxl, cs, hl with
  | [y0, y1], _, [v0, v1], _ =>
    have g0 := hfs 0 _ rfl
    have g1 := hfs 1 _ rfl
    simp [cells_3, cells_5, cells_50, cells_58, cells_59, cells_31, cells_44, cells_45, cells_46, cells_53] at g0 g1
    obtain ⟨k0, e0, d0, w0⟩ := DataW.trod_int Tryz.underlying3 g0
    obtain ⟨k1, e1, d1, w1⟩ := DataW.trod_int Tryz.underlying58 g1
    simp at e0
    simp at e1
    subst e0 e1
    exact ⟨(k0, k1), rfl, trivial, one_le _⟩
theorem op79 : Op enc Tryz.prog W 79 3 RRun (fun _ => True) (fun _ => 1) := by
  refine ⟨cells_79, by decide, fun n cs x h => ?_⟩
  obtain ⟨xs, k, _, rfl, hl, hxl, hfs⟩ := DataW.trod_struct Tryz.underlying79 h
  rw [cells_79] at hl
  match xs, hxl, cs, hl with
  | [y0, y1, y2], _, [v0, v1, v2], _ =>
    have g0 := hfs 0 _ rfl
    have g1 := hfs 1 _ rfl
    have g2 := hfs 2 _ rfl
    simp [cells_3, cells_5, cells_50, cells_58, cells_59, cells_31, cells_44, cells_45, cells_46, cells_53] at g0 g1 g2
    obtain ⟨k0, e0, d0, w0⟩ := DataW.trod_int Tryz.underlying3 g0
    obtain ⟨k1, e1, d1, w1⟩ := DataW.trod_int Tryz.underlying3 g1
    obtain ⟨k2, e2, d2, w2⟩ := DataW.trod_int Tryz.underlying5 g2
    simp at e0
    simp at e1
    simp at e2
    subst e0 e1 e2
    exact ⟨⟨k0, k1, k2⟩, rfl, trivial, one_le _⟩
theorem op52 : Op enc Tryz.prog W 52 3 RMapped (fun _ => True) (fun _ => 1) := by
  refine ⟨cells_52, by decide, fun n cs x h => ?_⟩
  obtain ⟨xs, k, _, rfl, hl, hxl, hfs⟩ := DataW.trod_struct Tryz.underlying52 h
  rw [cells_52] at hl
  match xs, hxl, cs, hl with
  | [y0, y1], _, [v0, v1, v2], _ =>
    have g0 := hfs 0 _ rfl
    have g1 := hfs 1 _ rfl
    simp [cells_3, cells_50] at g0 g1
    obtain ⟨k0, e0, d0, w0⟩ := DataW.trod_int Tryz.underlying3 g0
    obtain ⟨zs, k', _, d1, hl1, hxl1, hfs1⟩ := DataW.trod_struct Tryz.underlying50 g1
    match zs, hxl1 with
    | [z0, z1], _ =>
      have f0 := hfs1 0 _ rfl
      have f1 := hfs1 1 _ rfl
      simp [cells_3, cells_5] at f0 f1
      obtain ⟨k1, e1, d1, w1⟩ := DataW.trod_int Tryz.underlying5 f0
      obtain ⟨k2, e2, d2, w2⟩ := DataW.trod_int Tryz.underlying3 f1
      simp at e0 e1 e2
      subst e0 e1 e2
      exact ⟨⟨k0, k1, k2⟩, rfl, trivial, one_le _⟩
theorem op28 : Op enc Tryz.prog W 28 1 (RL RPair 2) (fun xs => ∀ x ∈ xs, (fun p => I64 p.1 ∧ I64 p.2) x) (fun xs => 1 + sumN (fun _ => 1) xs) := op_slice Tryz.underlying28 cells_28 op43
theorem op56 : Op enc Tryz.prog W 56 1 (RL RPair 2) (fun xs => ∀ x ∈ xs, (fun p => I64 p.1 ∧ I64 p.2) x) (fun xs => 1 + sumN (fun _ => 1) xs) := op_slice Tryz.underlying56 cells_56 op113
theorem op44 : Op enc Tryz.prog W 44 1 (RL RPair 2) (fun xs => ∀ x ∈ xs, (fun p => I64 p.1 ∧ I64 p.2) x) (fun xs => 1 + sumN (fun _ => 1) xs) := op_slice Tryz.underlying44 cells_44 op75
theorem op27 : Op enc Tryz.prog W 27 1 (RL RMark 5) (fun xs => ∀ x ∈ xs, (fun m => 0 ≤ m.role ∧ m.role ≤ 255) x) (fun xs => 1 + sumN (fun _ => 1) xs) := op_slice Tryz.underlying27 cells_27 op61
theorem op33 : Op enc Tryz.prog W 33 1 (RL ROwn 3) (fun xs => ∀ x ∈ xs, (fun _ => True) x) (fun xs => 1 + sumN (fun _ => 1) xs) := op_slice Tryz.underlying33 cells_33 op63
theorem op53 : Op enc Tryz.prog W 53 1 (RL RAlive 2) (fun xs => ∀ x ∈ xs, (fun _ => True) x) (fun xs => 1 + sumN (fun _ => 1) xs) := op_slice Tryz.underlying53 cells_53 op71
theorem op46 : Op enc Tryz.prog W 46 1 (RL RRun 3) (fun xs => ∀ x ∈ xs, (fun _ => True) x) (fun xs => 1 + sumN (fun _ => 1) xs) := op_slice Tryz.underlying46 cells_46 op79
theorem op45 : Op enc Tryz.prog W 45 1 (RL RMapped 3) (fun xs => ∀ x ∈ xs, (fun _ => True) x) (fun xs => 1 + sumN (fun _ => 1) xs) := op_slice Tryz.underlying45 cells_45 op52
theorem op29 : Op enc Tryz.prog W 29 1 (RL (RL RInt 1) 1) (fun xs => ∀ x ∈ xs, ∀ y ∈ x, I64 y) (fun xs => 1 + sumN (fun l => 1 + sumN (fun _ => 1) l) xs) := op_slice Tryz.underlying29 cells_29 op31
theorem op30 : Op enc Tryz.prog W 30 1 (RL (RL RPair 2) 1) (fun xs => ∀ x ∈ xs, ∀ y ∈ x, (fun p => I64 p.1 ∧ I64 p.2) y) (fun xs => 1 + sumN (fun l => 1 + sumN (fun _ => 1) l) xs) := op_slice Tryz.underlying30 cells_30 op56
theorem op35 : Op enc Tryz.prog W 35 1 (RL (RL (RL RPair 2) 1) 1) (fun xs => ∀ x ∈ xs, ∀ y ∈ x, ∀ z ∈ y, (fun p => I64 p.1 ∧ I64 p.2) z) (fun xs => 1 + sumN (fun m => 1 + sumN (fun l => 1 + sumN (fun _ => 1) l) m) xs) := op_slice Tryz.underlying35 cells_35 op30
theorem sum1 {α : Type} (L : List α) : sumN (fun _ => 1) L = L.length := by unfold sumN; rw [List.map_const', List.sum_replicate_nat, Nat.mul_one]
theorem op55 : Op enc Tryz.prog W 55 7 RSlab (fun s => I64 s.frame) (slabN) := by
  refine ⟨cells_55, by decide, fun n cs x h => ?_⟩
  obtain ⟨xs, k, _, rfl, hl, hxl, hfs⟩ := DataW.trod_struct Tryz.underlying55 h
  rw [cells_55] at hl
  match xs, hxl, cs, hl with
  | [y0, y1, y2, y3, y4, y5, y6], _, [v0, v1, v2, v3, v4, v5, v6], _ =>
    have g0 := hfs 0 _ rfl
    have g1 := hfs 1 _ rfl
    have g2 := hfs 2 _ rfl
    have g3 := hfs 3 _ rfl
    have g4 := hfs 4 _ rfl
    have g5 := hfs 5 _ rfl
    have g6 := hfs 6 _ rfl
    simp [cells_3, cells_5, cells_50, cells_58, cells_59, cells_31, cells_44, cells_45, cells_46, cells_53] at g0 g1 g2 g3 g4 g5 g6
    obtain ⟨k0, e0, d0, w0⟩ := DataW.trod_int Tryz.underlying3 g0
    obtain ⟨k1, e1, d1, w1⟩ := DataW.trod_int Tryz.underlying3 g1
    obtain ⟨k2, e2, d2, w2⟩ := DataW.trod_int Tryz.underlying3 g2
    obtain ⟨k3, e3, d3, w3⟩ := DataW.trod_int Tryz.underlying3 g3
    obtain ⟨k4, e4, d4, w4⟩ := DataW.trod_int Tryz.underlying3 g4
    obtain ⟨k5, e5, w5, m5⟩ := (op31 (enc := enc) (W := W)).2.2 _ _ _ g5
    obtain ⟨k6, e6, w6, m6⟩ := (op53 (enc := enc) (W := W)).2.2 _ _ _ g6
    simp at e0
    simp at e1
    simp at e2
    simp at e3
    simp at e4
    obtain ⟨a5, l5, c5, e5, s5⟩ := e5
    simp at e5
    obtain ⟨a6, l6, c6, e6, s6⟩ := e6
    simp at e6
    subst e0 e1 e2 e3 e4 e5 e6
    exact ⟨⟨k0, k1, k2, k3, k4, k5, k6⟩, ⟨a5, l5, c5, a6, l6, c6, rfl, s5, s6⟩, wf_i64 w2, by
      simp only [sum1] at m5 m6
      show slabN _ ≤ Rows.uptoBulk (.agg [y0.1, y1.1, y2.1, y3.1, y4.1, y5.1, y6.1])
      simp only [Rows.uptoBulk, Rows.uptoBulkAll, slabN]
      omega⟩
theorem op48 : Op enc Tryz.prog W 48 6 RProc (fun _ => True) (procN) := by
  refine ⟨cells_48, by decide, fun n cs x h => ?_⟩
  obtain ⟨xs, k, _, rfl, hl, hxl, hfs⟩ := DataW.trod_struct Tryz.underlying48 h
  rw [cells_48] at hl
  match xs, hxl, cs, hl with
  | [y0, y1, y2, y3, y4, y5], _, [v0, v1, v2, v3, v4, v5], _ =>
    have g0 := hfs 0 _ rfl
    have g1 := hfs 1 _ rfl
    have g2 := hfs 2 _ rfl
    have g3 := hfs 3 _ rfl
    have g4 := hfs 4 _ rfl
    have g5 := hfs 5 _ rfl
    simp [cells_3, cells_5, cells_50, cells_58, cells_59, cells_31, cells_44, cells_45, cells_46, cells_53] at g0 g1 g2 g3 g4 g5
    obtain ⟨k0, e0, d0, w0⟩ := DataW.trod_int Tryz.underlying3 g0
    obtain ⟨k1, e1, d1, w1⟩ := DataW.trod_int Tryz.underlying3 g1
    obtain ⟨k2, e2, w2, m2⟩ := (op44 (enc := enc) (W := W)).2.2 _ _ _ g2
    obtain ⟨k3, e3, w3, m3⟩ := (op45 (enc := enc) (W := W)).2.2 _ _ _ g3
    obtain ⟨k4, e4, w4, m4⟩ := (op31 (enc := enc) (W := W)).2.2 _ _ _ g4
    obtain ⟨k5, e5, w5, m5⟩ := (op46 (enc := enc) (W := W)).2.2 _ _ _ g5
    simp at e0
    simp at e1
    obtain ⟨a2, l2, c2, e2, s2⟩ := e2
    simp at e2
    obtain ⟨a3, l3, c3, e3, s3⟩ := e3
    simp at e3
    obtain ⟨a4, l4, c4, e4, s4⟩ := e4
    simp at e4
    obtain ⟨a5, l5, c5, e5, s5⟩ := e5
    simp at e5
    subst e0 e1 e2 e3 e4 e5
    exact ⟨⟨k0, k1, k2, k3, k4, k5⟩, ⟨a2, l2, c2, a3, l3, c3, a4, l4, c4, a5, l5, c5, rfl, s2, s3, s4, s5⟩, trivial, by
      simp only [sum1] at m2 m3 m4 m5
      show procN _ ≤ Rows.uptoBulk (.agg [y0.1, y1.1, y2.1, y3.1, y4.1, y5.1])
      simp only [Rows.uptoBulk, Rows.uptoBulkAll, procN]
      omega⟩
theorem op34 : Op enc Tryz.prog W 34 1 (RL RSlab 7) (fun xs => ∀ x ∈ xs, I64 x.frame) (fun xs => 1 + sumN slabN xs) := op_slice Tryz.underlying34 cells_34 op55
theorem op32 : Op enc Tryz.prog W 32 1 (RL RProc 6) (fun xs => ∀ x ∈ xs, True) (fun xs => 1 + sumN procN xs) := op_slice Tryz.underlying32 cells_32 op48
end
def Ints (cs : List Value) : Prop := ∀ j, j < cs.length → ∃ n : Int, cs[j]? = some (.int .i64 n) ∧ -9223372036854775808 ≤ n ∧ n ≤ 9223372036854775807
section
variable {H : Type} {enc : TypeId × Value → H} {P : Program} {W : World}
abbrev Tr (H : Type) (enc : TypeId × Value → H) (P : Program) (W : World) (t : TypeId) : Prop := ∀ (fuel : Nat) (cs : List Value) (x : DataW H × List MemPlace), DataW.trod enc P W 0 (fun _ => true) true fuel t cs = some x → Ints cs ∧ cs.length = P.cellsOf t
theorem tr_int {t : TypeId} (ht : P.underlying t = some (.int .i64)) (hc : P.cellsOf t = 1) : Tr H enc P W t := fun fuel cs x h => by
  obtain ⟨n, rfl, _, hw⟩ := DataW.trod_int ht h
  refine ⟨fun j hj => ⟨n, ?_, wf_i64 hw⟩, by rw [hc]; rfl⟩
  have : j = 0 := by simp at hj; omega
  subst this; rfl
theorem tr_part {cs ds : List Value} {o s : Nat} (h : Ints ((cs.drop o).take s)) {j : Nat} (h1 : o ≤ j) (h2 : j < o + s) (h3 : j < cs.length) : ∃ n : Int, cs[j]? = some (.int .i64 n) ∧ -9223372036854775808 ≤ n ∧ n ≤ 9223372036854775807 := by
  obtain ⟨n, h4, h5⟩ := h (j - o) (by simp; omega)
  rw [List.getElem?_take, if_pos (by omega), List.getElem?_drop, show o + (j - o) = j by omega] at h4
  exact ⟨n, h4, h5⟩
theorem tr_arr {t e : TypeId} {n s : Nat} (ht : P.underlying t = some (.array n e)) (hs : P.cellsOf e = s) (hc : P.cellsOf t = n * s) (he : Tr H enc P W e) : Tr H enc P W t := fun fuel cs x h => by
  obtain ⟨xs, m, _, _, hl, hxl, hx⟩ := DataW.trod_array ht h
  refine ⟨fun j hj => ?_, hl⟩
  rw [hl, hc] at hj
  have hs0 : 0 < s := by
    rcases Nat.eq_zero_or_pos s with h0 | h0
    · subst h0; simp at hj
    · exact h0
  have hi : j / s < n := (Nat.div_lt_iff_lt_mul hs0).2 hj
  have h1 := hx (j / s) hi
  rw [List.getElem?_eq_getElem (by omega), hs] at h1
  have h2 := (he _ _ _ h1).1
  have hd := Nat.div_add_mod j s
  have hm := Nat.mod_lt j hs0
  exact tr_part (ds := []) h2 (by rw [Nat.mul_comm] at hd; omega) (by rw [Nat.mul_comm] at hd; omega) (by rw [hl, hc]; exact hj)
end
section
variable {H : Type} {enc : TypeId × Value → H}
theorem tr3 (W : World) : Tr H enc Tryz.prog W 3 := tr_int Tryz.underlying3 cells_3
theorem tr22 (W : World) : Tr H enc Tryz.prog W 22 := tr_arr Tryz.underlying22 cells_3 cells_22 (tr3 W)
theorem tr23 (W : World) : Tr H enc Tryz.prog W 23 := tr_arr Tryz.underlying23 cells_3 cells_23 (tr3 W)
theorem tr24 (W : World) : Tr H enc Tryz.prog W 24 := tr_arr Tryz.underlying24 cells_23 cells_24 (tr23 W)
theorem tr26 (W : World) : Tr H enc Tryz.prog W 26 := fun fuel cs x h => by
  obtain ⟨xs, m, _, _, hl, hxl, hx⟩ := DataW.trod_struct Tryz.underlying26 h
  refine ⟨fun j hj => ?_, hl⟩
  have hxl' : xs.length = 9 := hxl
  rw [hl, cells_26] at hj
  have go : ∀ (i : Nat) (f : Field) (o s : Nat), i < 9 → f.offset = o → Tryz.prog.cellsOf f.type = s → Tr H enc Tryz.prog W f.type → DataW.trod enc Tryz.prog W 0 (fun _ => true) true m f.type ((cs.drop f.offset).take (Tryz.prog.cellsOf f.type)) = xs[i]? → o ≤ j → j < o + s → ∃ n : Int, cs[j]? = some (.int .i64 n) ∧ -9223372036854775808 ≤ n ∧ n ≤ 9223372036854775807 := by
    intro i f o s hi ho hs ht hf h1 h2
    rw [List.getElem?_eq_getElem (by omega)] at hf
    have := (ht _ _ _ hf).1
    rw [ho, hs] at this
    exact tr_part (ds := []) this h1 h2 (by rw [hl, cells_26]; exact hj)
  by_cases e0 : j < 1
  · exact go 0 _ 0 1 (by omega) rfl cells_3 (tr3 W) (hx 0 _ rfl) (by omega) (by omega)
  by_cases e1 : j < 2
  · exact go 1 _ 1 1 (by omega) rfl cells_3 (tr3 W) (hx 1 _ rfl) (by omega) (by omega)
  by_cases e2 : j < 18
  · exact go 2 _ 2 16 (by omega) rfl cells_22 (tr22 W) (hx 2 _ rfl) (by omega) (by omega)
  by_cases e3 : j < 26
  · exact go 3 _ 18 8 (by omega) rfl cells_23 (tr23 W) (hx 3 _ rfl) (by omega) (by omega)
  by_cases e4 : j < 90
  · exact go 4 _ 26 64 (by omega) rfl cells_24 (tr24 W) (hx 4 _ rfl) (by omega) (by omega)
  by_cases e5 : j < 91
  · exact go 5 _ 90 1 (by omega) rfl cells_3 (tr3 W) (hx 5 _ rfl) (by omega) (by omega)
  by_cases e6 : j < 92
  · exact go 6 _ 91 1 (by omega) rfl cells_3 (tr3 W) (hx 6 _ rfl) (by omega) (by omega)
  by_cases e7 : j < 93
  · exact go 7 _ 92 1 (by omega) rfl cells_3 (tr3 W) (hx 7 _ rfl) (by omega) (by omega)
  · exact go 8 _ 93 1 (by omega) rfl cells_3 (tr3 W) (hx 8 _ rfl) (by omega) (by omega)
end
section
variable {H : Type} {enc : TypeId × Value → H} {W : World}
structure PicW (x : Pic) : Prop where
  slabs : ∀ s ∈ x.slabs, I64 s.frame
  marks : ∀ m ∈ x.marks, 0 ≤ m.role ∧ m.role ≤ 255
theorem open_pic {base : Nat} {v : Value} {d : DataW H} {p : List MemPlace} (hv : Value.okWide Tryz.prog W .any base 37 v) (h : DataW.Trod enc Tryz.prog W 0 (fun _ => true) true 37 v d p) :
    ∃ S x, v = picV S x.c ∧ PicR W S x ∧ PicW x ∧ sizeN x ≤ Rows.uptoBulk d := by
  obtain ⟨cs, rfl, hsz⟩ := okWide_struct Tryz.underlying37 hv
  obtain ⟨fuel, hf⟩ := h
  obtain ⟨xs, k, _, hd, hl, hxl, hfs⟩ := DataW.trod_struct Tryz.underlying37 hf
  have hcs : (Value.agg cs).cells = cs := rfl
  rw [hcs] at hl hfs
  rw [cells_37] at hl
  obtain ⟨l, rfl⟩ : ∃ l : List Value, cs = l.toArray := ⟨cs.toList, by simp⟩
  simp only [] at hl hfs
  have hs94 : l = l.take 94 ++ l.drop 94 := (List.take_append_drop 94 l).symm
  have hln : (l.drop 94).length = 13 := by rw [List.length_drop]; omega
  match xs, hxl with
  | [y0, y1, y2, y3, y4, y5, y6, y7, y8, y9, y10, y11, y12, y13], _ =>
    have g0 : DataW.trod enc Tryz.prog W 0 (fun _ => true) true k 26 ((l.drop 0).take (Tryz.prog.cellsOf 26)) = some y0 := hfs 0 _ rfl
    rw [cells_26] at g0
    have g1 : DataW.trod enc Tryz.prog W 0 (fun _ => true) true k 27 ((l.drop 94).take (Tryz.prog.cellsOf 27)) = some y1 := hfs 1 _ rfl
    rw [cells_27] at g1
    have g2 : DataW.trod enc Tryz.prog W 0 (fun _ => true) true k 28 ((l.drop 95).take (Tryz.prog.cellsOf 28)) = some y2 := hfs 2 _ rfl
    rw [cells_28] at g2
    have g3 : DataW.trod enc Tryz.prog W 0 (fun _ => true) true k 29 ((l.drop 96).take (Tryz.prog.cellsOf 29)) = some y3 := hfs 3 _ rfl
    rw [cells_29] at g3
    have g4 : DataW.trod enc Tryz.prog W 0 (fun _ => true) true k 30 ((l.drop 97).take (Tryz.prog.cellsOf 30)) = some y4 := hfs 4 _ rfl
    rw [cells_30] at g4
    have g5 : DataW.trod enc Tryz.prog W 0 (fun _ => true) true k 31 ((l.drop 98).take (Tryz.prog.cellsOf 31)) = some y5 := hfs 5 _ rfl
    rw [cells_31] at g5
    have g6 : DataW.trod enc Tryz.prog W 0 (fun _ => true) true k 32 ((l.drop 99).take (Tryz.prog.cellsOf 32)) = some y6 := hfs 6 _ rfl
    rw [cells_32] at g6
    have g7 : DataW.trod enc Tryz.prog W 0 (fun _ => true) true k 33 ((l.drop 100).take (Tryz.prog.cellsOf 33)) = some y7 := hfs 7 _ rfl
    rw [cells_33] at g7
    have g8 : DataW.trod enc Tryz.prog W 0 (fun _ => true) true k 29 ((l.drop 101).take (Tryz.prog.cellsOf 29)) = some y8 := hfs 8 _ rfl
    rw [cells_29] at g8
    have g9 : DataW.trod enc Tryz.prog W 0 (fun _ => true) true k 33 ((l.drop 102).take (Tryz.prog.cellsOf 33)) = some y9 := hfs 9 _ rfl
    rw [cells_33] at g9
    have g10 : DataW.trod enc Tryz.prog W 0 (fun _ => true) true k 34 ((l.drop 103).take (Tryz.prog.cellsOf 34)) = some y10 := hfs 10 _ rfl
    rw [cells_34] at g10
    have g11 : DataW.trod enc Tryz.prog W 0 (fun _ => true) true k 35 ((l.drop 104).take (Tryz.prog.cellsOf 35)) = some y11 := hfs 11 _ rfl
    rw [cells_35] at g11
    have g12 : DataW.trod enc Tryz.prog W 0 (fun _ => true) true k 35 ((l.drop 105).take (Tryz.prog.cellsOf 35)) = some y12 := hfs 12 _ rfl
    rw [cells_35] at g12
    have g13 : DataW.trod enc Tryz.prog W 0 (fun _ => true) true k 31 ((l.drop 106).take (Tryz.prog.cellsOf 31)) = some y13 := hfs 13 _ rfl
    rw [cells_31] at g13
    obtain ⟨hi, _⟩ := tr26 W _ _ _ g0
    generalize hL : l.drop 94 = M at hs94 hln
    match M, hln with
    | [v1, v2, v3, v4, v5, v6, v7, v8, v9, v10, v11, v12, v13], _ =>
      have q1 : (l.drop 94).take 1 = [v1] := by rw [show 94 = 94 + 0 from rfl, ← List.drop_drop, hL]; rfl
      rw [q1] at g1
      obtain ⟨z1, ⟨a1, l1, c1, e1, s1⟩, w1, m1⟩ := (op27 (enc := enc) (W := W)).2.2 _ _ _ g1
      cases e1
      have q2 : (l.drop 95).take 1 = [v2] := by rw [show 95 = 94 + 1 from rfl, ← List.drop_drop, hL]; rfl
      rw [q2] at g2
      obtain ⟨z2, ⟨a2, l2, c2, e2, s2⟩, w2, m2⟩ := (op28 (enc := enc) (W := W)).2.2 _ _ _ g2
      cases e2
      have q3 : (l.drop 96).take 1 = [v3] := by rw [show 96 = 94 + 2 from rfl, ← List.drop_drop, hL]; rfl
      rw [q3] at g3
      obtain ⟨z3, ⟨a3, l3, c3, e3, s3⟩, w3, m3⟩ := (op29 (enc := enc) (W := W)).2.2 _ _ _ g3
      cases e3
      have q4 : (l.drop 97).take 1 = [v4] := by rw [show 97 = 94 + 3 from rfl, ← List.drop_drop, hL]; rfl
      rw [q4] at g4
      obtain ⟨z4, ⟨a4, l4, c4, e4, s4⟩, w4, m4⟩ := (op30 (enc := enc) (W := W)).2.2 _ _ _ g4
      cases e4
      have q5 : (l.drop 98).take 1 = [v5] := by rw [show 98 = 94 + 4 from rfl, ← List.drop_drop, hL]; rfl
      rw [q5] at g5
      obtain ⟨z5, ⟨a5, l5, c5, e5, s5⟩, w5, m5⟩ := (op31 (enc := enc) (W := W)).2.2 _ _ _ g5
      cases e5
      have q6 : (l.drop 99).take 1 = [v6] := by rw [show 99 = 94 + 5 from rfl, ← List.drop_drop, hL]; rfl
      rw [q6] at g6
      obtain ⟨z6, ⟨a6, l6, c6, e6, s6⟩, w6, m6⟩ := (op32 (enc := enc) (W := W)).2.2 _ _ _ g6
      cases e6
      have q7 : (l.drop 100).take 1 = [v7] := by rw [show 100 = 94 + 6 from rfl, ← List.drop_drop, hL]; rfl
      rw [q7] at g7
      obtain ⟨z7, ⟨a7, l7, c7, e7, s7⟩, w7, m7⟩ := (op33 (enc := enc) (W := W)).2.2 _ _ _ g7
      cases e7
      have q8 : (l.drop 101).take 1 = [v8] := by rw [show 101 = 94 + 7 from rfl, ← List.drop_drop, hL]; rfl
      rw [q8] at g8
      obtain ⟨z8, ⟨a8, l8, c8, e8, s8⟩, w8, m8⟩ := (op29 (enc := enc) (W := W)).2.2 _ _ _ g8
      cases e8
      have q9 : (l.drop 102).take 1 = [v9] := by rw [show 102 = 94 + 8 from rfl, ← List.drop_drop, hL]; rfl
      rw [q9] at g9
      obtain ⟨z9, ⟨a9, l9, c9, e9, s9⟩, w9, m9⟩ := (op33 (enc := enc) (W := W)).2.2 _ _ _ g9
      cases e9
      have q10 : (l.drop 103).take 1 = [v10] := by rw [show 103 = 94 + 9 from rfl, ← List.drop_drop, hL]; rfl
      rw [q10] at g10
      obtain ⟨z10, ⟨a10, l10, c10, e10, s10⟩, w10, m10⟩ := (op34 (enc := enc) (W := W)).2.2 _ _ _ g10
      cases e10
      have q11 : (l.drop 104).take 1 = [v11] := by rw [show 104 = 94 + 10 from rfl, ← List.drop_drop, hL]; rfl
      rw [q11] at g11
      obtain ⟨z11, ⟨a11, l11, c11, e11, s11⟩, w11, m11⟩ := (op35 (enc := enc) (W := W)).2.2 _ _ _ g11
      cases e11
      have q12 : (l.drop 105).take 1 = [v12] := by rw [show 105 = 94 + 11 from rfl, ← List.drop_drop, hL]; rfl
      rw [q12] at g12
      obtain ⟨z12, ⟨a12, l12, c12, e12, s12⟩, w12, m12⟩ := (op35 (enc := enc) (W := W)).2.2 _ _ _ g12
      cases e12
      have q13 : (l.drop 106).take 1 = [v13] := by rw [show 106 = 94 + 12 from rfl, ← List.drop_drop, hL]; rfl
      rw [q13] at g13
      obtain ⟨z13, ⟨a13, l13, c13, e13, s13⟩, w13, m13⟩ := (op31 (enc := enc) (W := W)).2.2 _ _ _ g13
      cases e13
      have ht : (l.take 94).length = 94 := by rw [List.length_take]; omega
      have each : ∀ j, j < 94 → ∃ n : Int, (l.take 94)[j]? = some (.int .i64 n) ∧ -9223372036854775808 ≤ n ∧ n ≤ 9223372036854775807 := fun j hj => hi j (by show j < (l.take 94).length; omega)
      obtain ⟨f, hff⟩ : ∃ f : Nat → Int, ∀ j, j < 94 → (l.take 94)[j]? = some (.int .i64 (f j)) :=
        ⟨fun j => if h : j < 94 then (each j h).choose else 0, fun j hj => by simp only [hj, dif_pos]; exact (each j hj).choose_spec.1⟩
      have hrun : l.take 94 = runI .i64 f 0 94 := runI_of ht fun j hj => hff j hj
      refine ⟨⟨fun i => match i with | 0 => a1 | 1 => a2 | 2 => a3 | 3 => a4 | 4 => a5 | 5 => a6 | 6 => a7 | 7 => a8 | 8 => a9 | 9 => a10 | 10 => a11 | 11 => a12 | 12 => a13 | _ => none, fun i => match i with | 0 => l1 | 1 => l2 | 2 => l3 | 3 => l4 | 4 => l5 | 5 => l6 | 6 => l7 | 7 => l8 | 8 => l9 | 9 => l10 | 10 => l11 | 11 => l12 | 12 => l13 | _ => 0, fun i => match i with | 0 => c1 | 1 => c2 | 2 => c3 | 3 => c4 | 4 => c5 | 5 => c6 | 6 => c7 | 7 => c8 | 8 => c9 | 9 => c10 | 10 => c11 | 11 => c12 | 12 => c13 | _ => 0⟩, ⟨f, z1, z2, z3, z4, z5, z6, z7, z8, z9, z10, z11, z12, z13⟩, ?_, ⟨s1, s2, s3, s4, s5, s6, s7, s8, s9, s10, s11, s12, s13⟩, ⟨w10, w1⟩, ?_⟩
      · show Value.agg l.toArray = Value.agg _
        rw [hs94, hrun]
        rfl
      · have e : Rows.uptoBulk d = Rows.uptoBulk y0.1 + (Rows.uptoBulk y1.1 + (Rows.uptoBulk y2.1 + (Rows.uptoBulk y3.1 + (Rows.uptoBulk y4.1 + (Rows.uptoBulk y5.1 + (Rows.uptoBulk y6.1 + (Rows.uptoBulk y7.1 + (Rows.uptoBulk y8.1 + (Rows.uptoBulk y9.1 + (Rows.uptoBulk y10.1 + (Rows.uptoBulk y11.1 + (Rows.uptoBulk y12.1 + (Rows.uptoBulk y13.1 + 0))))))))))))) + 1 := by
          cases hd
          rfl
        have one : ∀ {α : Type} (L : List (List α)), sumN (fun l => 1 + sumN (fun _ => 1) l) L = L.length + sumN List.length L := fun L => by
          induction L with
          | nil => rfl
          | cons a L ih =>
            have h1 : sumN (fun _ => 1) a = a.length := sum1 a
            unfold sumN at *
            simp only [List.map_cons, List.sum_cons, List.length_cons]
            omega
        have two : ∀ (L : List (List (List (Int × Int)))), sumN (fun m => 1 + sumN (fun l => 1 + sumN (fun _ => 1) l) m) L = L.length + sumN magN L := fun L => by
          induction L with
          | nil => rfl
          | cons a L ih =>
            have h1 : sumN (fun (l : List (Int × Int)) => 1 + sumN (fun _ => 1) l) a = magN a := by
              unfold magN
              refine sumN_congr fun l _ => ?_
              rw [sum1]
              rfl
            unfold sumN at ih h1 ⊢
            simp only [List.map_cons, List.sum_cons, List.length_cons]
            unfold sumN at *
            omega
        simp only [one] at m3 m4 m8
        simp only [two] at m11 m12
        simp only [sum1] at m1 m2 m5 m7 m9 m13
        simp only [] at m6 m10
        rw [e]
        unfold sizeN lensN
        simp only []
        omega
end
end Go.Proofs.YtikjgeenhbnkkaaGreatDoor
