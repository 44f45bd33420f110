/-
  A part of a proof that a law of this seat returns true at every input. Conditions: those in each theorem.
-/
import Derived.Test.YtikjgeenhbnkkaaGreatDoorCards
import Derived.Test.YtikjgeenhbnkkaaGreatDoorTie
import Derived.ProofKit
import Derived.OpenShut
import Derived.Deep.DeepHandedRow
import Derived.Lib.LaidTab
import Derived.Test.YtikjgeenhbnkkaaGreatDoorEngL
import Derived.Test.YtikjgeenhbnkkaaGreatDoorBR7
import Derived.Test.YtikjgeenhbnkkaaGreatDoorBA1
namespace Go.Proofs.YtikjgeenhbnkkaaGreatDoor
open Go Go.ChangeShapes Go.WideShapes Go.ChangeAt Go.RowKit Go.Eng
set_option linter.unusedSimpArgs false
set_option linter.unusedVariables false
set_option maxRecDepth 100000
theorem ownKnobs : ownKnob Tryz.prog.godebug = none := by kernel_rfl
theorem laidOut : laidOutB Tryz.prog = true := by kernel_rfl
theorem gSiz : Tryz.prog.globalNamed "byre/api.Sizes" = some 0 := by kernel_rfl
theorem gSizType : (Tryz.prog.globals[0]?).map (·.type) = some 23 := by kernel_rfl

abbrev theLaid {H : Type} : List (String × DataW H) := [("byre/api.Sizes", Rows.laid_byre_api_Sizes)]
theorem table {W : World} (h : laidMetH Tryz.prog theLaid W) : SizR W := by
  have t : Lib.TabIs Tryz.prog W "byre/api.Sizes" .i64 [8, 16, 24, 40, 56, 72, 104, 128] := Lib.tabIs_of_head (rest := []) gSiz gSizType Tryz.underlying23 Tryz.underlying3 cells_3 cells_23 h
  intro i hi
  have h1 := t.cell gSiz i (by simpa using hi)
  have h2 := (cell_rd h1).2
  have e : ([8, 16, 24, 40, 56, 72, 104, 128] : List Int).getD i 0 = sz i := by
    match i, hi with
    | 0, _ | 1, _ | 2, _ | 3, _ | 4, _ | 5, _ | 6, _ | 7, _ => rfl
  rw [e] at h2
  exact h2
theorem lift_row {k : FuncId} {f : Func} (hf : Tryz.checked.prog.funcs[k]? = some f) (noInit : Tryz.checked.prog.inits.idxOf? k = none)
    {bt : TypeId} (hbt : Tryz.prog.underlying bt = some .bool) (hres : f.resultTypes = #[bt]) (hpar : parsOk Tryz.prog f = true)
    {s : ChangeSpec} (hvars : s.vars = []) {dom : List PathCond}
    (hfn : ∀ (H : Type) (ds : List (DataW H)), ds.length = f.params.size → s.fn H ds = { results := [.lit (.bool true)], args := ds })
    (walk : ∀ (H : Type) (enc : TypeId × Value → H) (W : World) (base : Nat) (args : Array Value) (ds : List (DataW H)) (p : List MemPlace),
      (∀ (j : Nat) t v, f.params[j]? = some t → args[j]? = some v → Value.okWide Tryz.prog W .any base t v) →
      DataW.TrodAll enc Tryz.prog W 0 (fun _ => true) true f.params.toList args.toList ds p → SizR W → Rows.uptoBulkAll ds ≤ 1048576 →
      Calls Tryz.prog k args W fun e W' => e = .returned (.bool true) ∧ Kept none' W W')
    (os : Os) (started : os.Started) (H : Type) (enc : TypeId × Value → H) (F : Stop.Interp)
    (wit : ∃ (w : World) (tape : Tape) (i : Input), w.os = os ∧ (w.forCall tape i).Shaped Tryz.checked.prog ∧ i.vars = [] ∧ Input.okWide Tryz.checked.prog (w.forCall tape i) .any w.heap.size k i ∧
      (Rows.OpenSpec.upto s).preRow enc Tryz.checked.prog f dom false theLaid (w.forCall tape i).memory i.args ∧ ({} : Assume).holds Tryz.checked.prog (lone (Frame.enter Tryz.checked.prog k i.args .normal) [] (w.forCall tape i))) :
    ReturnsInHanded {} Tryz.checked os k .any ((Rows.OpenSpec.upto s).preRow enc Tryz.prog f dom false theLaid) (((Rows.OpenSpec.upto s).at F).post enc Tryz.prog f false true false false) := by
  refine returnsInHanded_of_row (C := Tryz.checked) (s := Rows.OpenSpec.upto s) ownKnobs started noInit hf wit ?_
  intro W base args ds gs before hval hW _ hcond _ hL _ _
  have hW' := hW
  obtain ⟨p, q, hA, hV, rfl, hfz, hnd⟩ := hW
  have hlt : ∀ x ∈ p ++ q, x.block < W.heap.size := fun x hx => by simpa using hW'.lt x hx
  have hv0 : (Rows.OpenSpec.upto s).vars = [] := hvars
  rw [hv0] at hV
  obtain ⟨rfl, rfl⟩ := trodVars_none hV
  simp only [List.append_nil] at hlt
  have hk := hcond _ rfl
  rw [List.append_nil] at hk
  have hbulk : Rows.uptoBulkAll ds ≤ 1048576 := of_decide_eq_true hk
  refine (walk H enc W base args ds p hval hA (table hL) hbulk).mono fun e W' ⟨he, hg⟩ => ?_
  subst he
  have hlen : ds.length = f.params.size := by
    have : ∀ (ts : List TypeId) (vs : List Value) (ds : List (DataW H)) (ps : List MemPlace), DataW.TrodAll enc Tryz.prog W 0 (fun _ => true) true ts vs ds ps → ds.length = ts.length := by
      intro ts
      induction ts with
      | nil => intro vs ds ps h; obtain ⟨_, rfl, _⟩ := trodAll_nil h; rfl
      | cons t ts ih =>
        intro vs ds ps h
        obtain ⟨v, vs', d, ds', p, q, rfl, rfl, rfl, h0, h1⟩ := trodAll_cons h
        simp [ih _ _ _ h1]
    rw [this _ _ _ _ hA]; simp
  have hs : s.fn H (ds ++ []) = { results := [.lit (.bool true)], args := ds } := by rw [List.append_nil]; exact hfn H ds hlen
  show ∃ v, _ ∧ s.post enc Tryz.prog f false true false false W args v W'
  refine ⟨_, rfl, ds, [], p ++ [], [], p, [], hW', ?_, ?_, ?_, hg.keptBut _, fun h => by cases h⟩
  · rw [hs, hres]
    exact trodAll_mk1 (shut_bool hbt _)
  · rw [hs]
    refine trodAll_stays laidOut hg.below _ _ _ _ (fun t ht => ?_) hA hlt
    have := List.all_eq_true.1 hpar t ht
    simpa using this
  · rw [hs, hvars]
    rfl
theorem open_i64 {H : Type} {enc : TypeId × Value → H} {W : World} {base : Nat} {v : Value} {d : DataW H} {p : List MemPlace} (hv : Value.okWide Tryz.prog W .any base 3 v) (h : DataW.Trod enc Tryz.prog W 0 (fun _ => true) true 3 v d p) :
    ∃ a, v = .int .i64 a ∧ -9223372036854775808 ≤ a ∧ a ≤ 9223372036854775807 := by
  obtain ⟨a, rfl, rfl, rfl, w0⟩ := open_int Tryz.underlying3 hv h
  exact ⟨a, rfl, wf_i64 w0⟩
def zeroPic : Value := .agg (Array.replicate 94 (.int .i64 0) ++ Array.replicate 13 (.slice none 0 0))
def zi {H : Type} : DataW H := .lit (.int .i64 0)
def zeroCfgD {H : Type} : DataW H := .agg [zi, zi, .agg (List.replicate 16 zi), .agg (List.replicate 8 zi), .agg (List.replicate 8 (.agg (List.replicate 8 zi))), zi, zi, zi, zi]
def zeroPicD {H : Type} : DataW H := .agg [zeroCfgD, .nil, .nil, .nil, .nil, .nil, .nil, .nil, .nil, .nil, .nil, .nil, .nil, .nil]
noncomputable def laidWorld (os : Os) : World :=
  { World.holding Tryz.prog os ⟨#[], #[], []⟩ with heap := (World.holding Tryz.prog os ⟨#[], #[], []⟩).heap.modify 0 fun
      | .cells _ t frozen => .cells #[.int .i64 8, .int .i64 16, .int .i64 24, .int .i64 40, .int .i64 56, .int .i64 72, .int .i64 104, .int .i64 128] t frozen
      | o => o }
theorem laid_met (os : Os) (args : Array Value) : laidMet Tryz.prog theLaid ((laidWorld os).forCall (fun _ _ => 0) ⟨#[], args, []⟩).memory :=
  laidMet_of_run' 8 (by kernel_rfl) (by kernel_rfl)
end Go.Proofs.YtikjgeenhbnkkaaGreatDoor
set_option linter.unusedSimpArgs false
set_option linter.unusedVariables false
set_option maxRecDepth 100000
namespace Go.Proofs.YtikjgeenhbnkkaaGreatDoor
open Go Eng
theorem row0 {w w' : World} {t : TypeId} {s : Nat} (e : w' = w.alloc (.cells #[] t)) : w'.ownsRow w.heap.size t s (.slice (some ⟨w.heap.size, 0, none⟩) 0 0) 0 [] := by
  refine ⟨by simp, .inr ⟨_, 0, #[], rfl, Nat.le_refl _, ?_, by decide, by decide, by simp, by simp⟩⟩
  rw [e]
  simp only [World.alloc]
  simp
theorem src_any {α : Type} {R : Rd α} {s : Nat} {w : World} {a : Option Addr} {l c : Nat} {xs : List α} (hs0 : 0 < s) (h : SlR R s w a l c xs) :
    ∃ vs : List Value, vs.length = l * s ∧ Eng.Src w a l c vs ∧ ∀ (i : Nat) (x : α), xs[i]? = some x → ∃ cs : List Value, cs.length = s ∧ R w cs x ∧ ∀ (j : Nat) (u : Value), cs[j]? = some u → vs[i * s + j]? = some u := by
  have hlen := h.len
  have key : ∀ n, n ≤ xs.length → ∃ vs : List Value, vs.length = n * s ∧ (∀ (j : Nat) u, vs[j]? = some u → rd w (pb a) (po a + j) = some u) ∧ ∀ (i : Nat) (x : α), i < n → xs[i]? = some x → ∃ cs : List Value, cs.length = s ∧ R w cs x ∧ ∀ (j : Nat) (u : Value), cs[j]? = some u → vs[i * s + j]? = some u := by
    intro n
    induction n with
    | zero => exact fun _ => ⟨[], by simp, fun j u hu => by simp at hu, fun i x hi => absurd hi (Nat.not_lt_zero _)⟩
    | succ n ih =>
      intro hn
      obtain ⟨vs, h1, h2, h3⟩ := ih (by omega)
      obtain ⟨cs, g1, g2, g3⟩ := h.el n xs[n] (List.getElem?_eq_getElem (by omega))
      refine ⟨vs ++ cs, by rw [List.length_append, h1, g1, Nat.succ_mul], fun j u hu => ?_, fun i x hi hx => ?_⟩
      · rcases Nat.lt_or_ge j vs.length with hlt | hge
        · rw [List.getElem?_append_left hlt] at hu
          exact h2 j u hu
        · rw [List.getElem?_append_right hge, h1] at hu
          have := g3 _ _ hu
          rw [show po a + n * s + (j - n * s) = po a + j by omega] at this
          exact this
      · rcases Nat.lt_or_ge i n with hlt | hge
        · obtain ⟨ds, f1, f2, f3⟩ := h3 i x hlt hx
          refine ⟨ds, f1, f2, fun j u hu => ?_⟩
          have := f3 j u hu
          rw [List.getElem?_append_left (List.getElem?_eq_some_iff.1 this).1]
          exact this
        · have : i = n := by omega
          subst this
          rw [List.getElem?_eq_getElem (by omega)] at hx
          cases hx
          refine ⟨cs, g1, g2, fun j u hu => ?_⟩
          rw [List.getElem?_append_right (by omega), h1, Nat.add_sub_cancel_left]
          exact hu
  obtain ⟨vs, h1, h2, h3⟩ := key xs.length (Nat.le_refl _)
  refine ⟨vs, by rw [h1, hlen], ⟨fun hn => ?_, fun hp => ?_⟩, fun i x hx => h3 i x (List.getElem?_eq_some_iff.1 hx).1 hx⟩
  · have hc := h.nil hn
    have := h.lc
    exact ⟨by omega, hc⟩
  · have hl : 0 < l := by
      rcases Nat.eq_zero_or_pos l with h0 | h0
      · rw [h1, ← hlen, h0, Nat.zero_mul] at hp
        omega
      · exact h0
    exact ⟨pb a, po a, isP_spec (h.isp hl), h2⟩
structure RowG {α : Type} (R : Rd α) (v : World) (e : TypeId) (s : Nat) (w : World) (base : Nat) (a : Option Addr) (l c : Nat) (xs : List α) : Prop where
  ex : ∃ vs : List Value, w.ownsRow base e s (.slice a l c) l vs ∧ l = xs.length ∧ ∀ (i : Nat) (x : α), xs[i]? = some x → ∃ cs : List Value, cs.length = s ∧ R v cs x ∧ ∀ (j : Nat) (u : Value), cs[j]? = some u → vs[i * s + j]? = some u
theorem RowG.len {α : Type} {R : Rd α} {v : World} {e : TypeId} {s : Nat} {w : World} {base : Nat} {a : Option Addr} {l c : Nat} {xs : List α} (h : RowG R v e s w base a l c xs) : l = xs.length := by
  obtain ⟨vs, _, h, _⟩ := h.ex
  exact h
theorem RowG.nil' {α : Type} {R : Rd α} {v : World} {e : TypeId} {s : Nat} {w : World} {base : Nat} : RowG R v e s w base none 0 0 ([] : List α) :=
  ⟨[], World.ownsRow_nil _ _ _ _, rfl, fun i x hx => by simp at hx⟩
theorem RowG.zero {α : Type} {R : Rd α} {v w w' : World} {t : TypeId} {s : Nat} (e : w' = w.alloc (.cells #[] t)) : RowG R v t s w' w.heap.size (some ⟨w.heap.size, 0, none⟩) 0 0 ([] : List α) :=
  ⟨[], row0 e, rfl, fun i x hx => by simp at hx⟩
theorem RowG.v {α : Type} {R : Rd α} {v v' : World} {e : TypeId} {s : Nat} {w : World} {base : Nat} {a : Option Addr} {l c : Nat} {xs : List α} (h : RowG R v e s w base a l c xs) (hs : Stab R) (k : Kept none' v v') : RowG R v' e s w base a l c xs := by
  obtain ⟨vs, h1, h2, h3⟩ := h.ex
  exact ⟨vs, h1, h2, fun i x hx => by
    obtain ⟨cs, g1, g2, g3⟩ := h3 i x hx
    exact ⟨cs, g1, hs _ _ _ _ g2 k, g3⟩⟩
theorem RowG.kx {α : Type} {R : Rd α} {v : World} {e : TypeId} {s : Nat} {w w' : World} {base : Nat} {a : Option Addr} {l c : Nat} {xs : List α} {X : Nat → Prop} (h : RowG R v e s w base a l c xs) (k : Kept X w w')
    (hx : ∀ b, base ≤ b → b < w.heap.size → (Value.slice a l c).ownBlock = some b → ¬ X b) : RowG R v e s w' base a l c xs := by
  obtain ⟨vs, h1, h2, h3⟩ := h.ex
  exact ⟨vs, ownsRow_kx h1 k hx, h2, h3⟩
theorem RowG.k {α : Type} {R : Rd α} {v : World} {e : TypeId} {s : Nat} {w w' : World} {base : Nat} {a : Option Addr} {l c : Nat} {xs : List α} (h : RowG R v e s w base a l c xs) (k : Kept none' w w') : RowG R v e s w' base a l c xs := h.kx k fun _ _ _ _ => id
theorem RowG.ge {α : Type} {R : Rd α} {v : World} {e : TypeId} {s : Nat} {w : World} {base : Nat} {a : Option Addr} {l c : Nat} {xs : List α} (h : RowG R v e s w base a l c xs) {b : Nat} (hb : (Value.slice a l c).ownBlock = some b) : base ≤ b ∧ b < w.heap.size := by
  obtain ⟨vs, h1, _⟩ := h.ex
  exact h1.lt b hb
theorem RowG.sl {α : Type} {R : Rd α} {v : World} {e : TypeId} {s : Nat} {w : World} {base : Nat} {a : Option Addr} {l c : Nat} {xs : List α} (h : RowG R v e s w base a l c xs) (hs : Stab R) (k : Kept none' v w) : SlR R s w a l c xs := by
  obtain ⟨vs, row, rfl, h3⟩ := h.ex
  rcases row.2 with ⟨h0, h1⟩ | ⟨g, cap, cur, h0, hb, hgg, hnc, hm, hsz, htk⟩
  · have : xs = [] := List.length_eq_zero_iff.1 h1
    subst this
    cases h0
    exact SlR.nil'
  · cases h0
    refine ⟨rfl, fun _ => rfl, fun h => (by cases h), hnc, hm, fun i x hx => ?_⟩
    obtain ⟨cs, g1, g2, g3⟩ := h3 i x hx
    refine ⟨cs, g1, hs _ _ _ _ g2 k, fun j u hu => ?_⟩
    have h4 := g3 j u hu
    have h5 : (cur.toList.take (xs.length * s))[i * s + j]? = some u := by rw [htk]; exact h4
    rw [List.getElem?_take] at h5
    split at h5
    · show rd w g (0 + i * s + j) = _
      rw [Nat.zero_add, rd_def, hgg]
      rw [Array.getElem?_toList] at h5
      exact h5
    · cases h5
theorem RowG.one {α : Type} {R : Rd α} {v : World} {t e : TypeId} {s : Nat} {w : World} {base : Nat} {a : Option Addr} {l c : Nat} {xs : List α} {i : TypeInfo} {z : Value} (ht : Tryz.prog.underlying t = some (.slice e)) (hi : Tryz.prog.info? e = some i) (hz : i.zero = some z)
    (hsize : i.size = s) (hzs : z.cells.size = s) (hs0 : 0 < s) (hby : i.bytes ≤ 1000) (h : RowG R v e s w base a l c xs) {x : α} {cs : List Value} (hc : cs.length = s) (hR : R v cs x) {X : Nat} (ho : own w X cs) (h1 : ∀ u ∈ cs, u.oneCell' = true) (hl : xs.length ≤ 900000000) (hb : base ≤ w.heap.size) :
    ∃ a' l' c' w', appIs Tryz.prog #[t, t] t (.slice a l c) (.slice (some ⟨X, 0, none⟩) 1 1) (.slice a' l' c') w w' ∧ RowG R v e s w' base a' l' c' (xs ++ [x]) ∧ Kept (fun b => (Value.slice a l c).ownBlock = some b) w w' ∧
      ((Value.slice a' l' c').ownBlock = (Value.slice a l c).ownBlock ∨ ∀ g, (Value.slice a' l' c').ownBlock = some g → w.heap.size ≤ g) := by
  obtain ⟨vs, row, hlen, hel⟩ := h.ex
  obtain ⟨a', l', c', w', happ, rfl, row', k, hb'⟩ := app_any (P := Tryz.prog) (t := t) (e := e) (i := i) (z := z) (size := s) ht hi hz hsize hzs hs0 row ho (m := 1) (off := 0) (c := 1) (news := cs) (by rw [List.drop_zero, Nat.one_mul, List.take_of_length_le (by omega)]) (by omega) h1 (by omega) hby hb
  refine ⟨a', _, c', w', happ, ⟨_, row', by rw [List.length_append, hlen]; rfl, fun j y hy => ?_⟩, k, hb'⟩
  rcases Nat.lt_or_ge j xs.length with hlt | hge
  · rw [List.getElem?_append_left hlt] at hy
    obtain ⟨ds, g1, g2, g3⟩ := hel j y hy
    refine ⟨ds, g1, g2, fun m u hu => ?_⟩
    have := g3 m u hu
    rw [List.getElem?_append_left (List.getElem?_eq_some_iff.1 this).1]
    exact this
  · rw [List.getElem?_append_right hge] at hy
    have hj : j - xs.length = 0 := by have := (List.getElem?_eq_some_iff.1 hy).1; simp at this; omega
    rw [hj] at hy
    cases hy
    have hj : j = xs.length := by omega
    subst hj
    refine ⟨cs, hc, hR, fun m u hu => ?_⟩
    rw [List.getElem?_append_right (by rw [row.1, hlen]; omega), row.1, hlen, Nat.add_sub_cancel_left]
    exact hu
theorem RowG.cat {α : Type} {R : Rd α} {v : World} {t e : TypeId} {s : Nat} {w : World} {base : Nat} {a : Option Addr} {l c : Nat} {xs ys : List α} {i : TypeInfo} {z : Value} (ht : Tryz.prog.underlying t = some (.slice e)) (hi : Tryz.prog.info? e = some i) (hz : i.zero = some z)
    (hsize : i.size = s) (hzs : z.cells.size = s) (hs0 : 0 < s) (hby : i.bytes ≤ 1000) (h : RowG R v e s w base a l c xs) {a2 : Option Addr} {l2 c2 : Nat} (h2 : SlR R s v a2 l2 c2 ys) (kv : Kept none' v w) (h1 : ∀ cs x, R v cs x → ∀ u ∈ cs, u.oneCell' = true) (hl : xs.length + ys.length ≤ 1000000) (hb : base ≤ w.heap.size) :
    ∃ a' l' c' w', appIs Tryz.prog #[t, t] t (.slice a l c) (.slice a2 l2 c2) (.slice a' l' c') w w' ∧ RowG R v e s w' base a' l' c' (xs ++ ys) ∧ Kept (fun b => (Value.slice a l c).ownBlock = some b) w w' := by
  obtain ⟨vs, row, hlen, hel⟩ := h.ex
  obtain ⟨us, hul, hus, hur⟩ := src_any hs0 h2
  have hl2 := h2.len
  have hone : ∀ u ∈ us, u.oneCell' = true := by
    intro u hu
    obtain ⟨m, hm⟩ := List.mem_iff_getElem?.1 hu
    have hml := (List.getElem?_eq_some_iff.1 hm).1
    have hdiv : m / s < ys.length := by
      rw [Nat.div_lt_iff_lt_mul hs0, ← hl2, ← hul]
      exact hml
    obtain ⟨cs, g1, g2, g3⟩ := hur (m / s) _ (List.getElem?_eq_getElem hdiv)
    have hmod := Nat.mod_lt m hs0
    have hdm : m / s * s + m % s = m := by rw [Nat.mul_comm]; exact Nat.div_add_mod m s
    have := g3 (m % s) _ (List.getElem?_eq_getElem (by omega))
    rw [hdm, hm] at this
    cases this
    exact h1 cs _ g2 _ (List.getElem_mem _)
  obtain ⟨a', c', w', happ, row', k⟩ := Eng.app (P := Tryz.prog) (t := t) (ty := t) (e := e) (i := i) (z := z) (size := s) ht hi hz hsize hzs hs0 row (hus.k kv) hul hone (by omega) (by omega) hb
  refine ⟨a', _, c', w', happ, ⟨_, row', by rw [List.length_append]; omega, fun j y hy => ?_⟩, k⟩
  rcases Nat.lt_or_ge j xs.length with hlt | hge
  · rw [List.getElem?_append_left hlt] at hy
    obtain ⟨ds, g1, g2, g3⟩ := hel j y hy
    refine ⟨ds, g1, g2, fun m u hu => ?_⟩
    have := g3 m u hu
    rw [List.getElem?_append_left (List.getElem?_eq_some_iff.1 this).1]
    exact this
  · rw [List.getElem?_append_right hge] at hy
    obtain ⟨ds, g1, g2, g3⟩ := hur _ y hy
    refine ⟨ds, g1, g2, fun m u hu => ?_⟩
    have e0 : vs.length = xs.length * s := by rw [row.1, hlen]
    have e1 : j * s = xs.length * s + (j - xs.length) * s := by rw [← Nat.add_mul]; congr 1; omega
    rw [List.getElem?_append_right (by omega), e0, show j * s + m - xs.length * s = (j - xs.length) * s + m by omega]
    exact g3 m u hu
theorem RowG.cv {α : Type} {R : Rd α} {v v' : World} {e : TypeId} {s : Nat} {w : World} {base : Nat} {a : Option Addr} {l c : Nat} {xs : List α} (h : RowG R v e s w base a l c xs) (hR : ∀ cs x, R v cs x → R v' cs x) : RowG R v' e s w base a l c xs := by
  obtain ⟨vs, h1, h2, h3⟩ := h.ex
  exact ⟨vs, h1, h2, fun i x hx => by
    obtain ⟨cs, g1, g2, g3⟩ := h3 i x hx
    exact ⟨cs, g1, hR _ _ g2, g3⟩⟩
theorem RowG.weak {α : Type} {R : Rd α} {v : World} {e : TypeId} {s : Nat} {w : World} {base base' : Nat} {a : Option Addr} {l c : Nat} {xs : List α} (h : RowG R v e s w base a l c xs) (hb : base' ≤ base) : RowG R v e s w base' a l c xs := by
  obtain ⟨vs, h1, h2, h3⟩ := h.ex
  refine ⟨vs, ⟨h1.1, ?_⟩, h2, h3⟩
  rcases h1.2 with h | ⟨g, cap, cur, hv, hg, rest⟩
  · exact .inl h
  · exact .inr ⟨g, cap, cur, hv, by omega, rest⟩
theorem RowG.wrt {α : Type} {R : Rd α} {v : World} {e : TypeId} {s : Nat} {w : World} {base : Nat} {a : Option Addr} {l c : Nat} {xs : List α} (h : RowG R v e s w base a l c xs) {i j : Nat} (hil : i < xs.length) (hj : j < s) : wr w (pb a) (po a + i * s + j) := by
  obtain ⟨vs, row, hlen, hel⟩ := h.ex
  rcases row.2 with ⟨h0, h1⟩ | ⟨g, cap, cur, h0, hb, hgg, hnc, hm, hsz, htk⟩
  · omega
  · cases h0
    have hg : own w g cur.toList := ⟨e, by simpa using hgg⟩
    have hle : i * s + j < l * s := by
      have : i * s + s ≤ l * s := by rw [← Nat.succ_mul]; exact Nat.mul_le_mul_right _ (by omega)
      omega
    have hle2 : l * s ≤ c * s := Nat.mul_le_mul_right _ hnc
    show wr w g (0 + i * s + j)
    rw [Nat.zero_add]
    exact hg.wr (by rw [Array.length_toList]; omega)
theorem RowG.blk {α : Type} {R : Rd α} {v : World} {e : TypeId} {s : Nat} {w : World} {base : Nat} {a : Option Addr} {l c : Nat} {xs : List α} (h : RowG R v e s w base a l c xs) (hp : isP a = true) : base ≤ pb a ∧ pb a < w.heap.size := by
  refine h.ge ?_
  rw [isP_spec hp]
  rfl
theorem RowG.set {α : Type} {R : Rd α} {v : World} {e : TypeId} {s : Nat} {w : World} {base : Nat} {a : Option Addr} {l c : Nat} {xs : List α} (h : RowG R v e s w base a l c xs) {i j : Nat} {x y : α} {u : Value} (hx : xs[i]? = some x) (hj : j < s) (hy : ∀ cs : List Value, cs.length = s → R v cs x → R v (cs.set j u) y) :
    wr w (pb a) (po a + i * s + j) ∧ ∀ w', w' = st w (pb a) (po a + i * s + j) u → RowG R v e s w' base a l c (xs.set i y) ∧ Kept (fun b => (Value.slice a l c).ownBlock = some b) w w' := by
  obtain ⟨vs, row, hlen, hel⟩ := h.ex
  have hil := (List.getElem?_eq_some_iff.1 hx).1
  rcases row.2 with ⟨h0, h1⟩ | ⟨g, cap, cur, h0, hb, hgg, hnc, hm, hsz, htk⟩
  · omega
  · cases h0
    have hg : own w g cur.toList := ⟨e, by simpa using hgg⟩
    have hle : i * s + j < l * s := by
      have : i * s + s ≤ l * s := by rw [← Nat.succ_mul]; exact Nat.mul_le_mul_right _ (by omega)
      omega
    have hle2 : l * s ≤ c * s := Nat.mul_le_mul_right _ hnc
    refine ⟨?_, fun w' ew => ?_⟩
    · show wr w g (0 + i * s + j)
      rw [Nat.zero_add]
      exact hg.wr (by rw [Array.length_toList]; omega)
    · have ew' : w' = st w g (i * s + j) u := by rw [ew]; show st w g (0 + i * s + j) u = _; rw [Nat.zero_add]
      refine ⟨⟨vs.set (i * s + j) u, ⟨by rw [List.length_set]; exact row.1, .inr ⟨g, c, cur.setIfInBounds (i * s + j) u, rfl, hb, ?_, hnc, hm, by simpa using hsz, ?_⟩⟩, by rw [List.length_set]; exact hlen, fun m z hz => ?_⟩, (Kept.refl _ _).s1 ew' (.inl rfl)⟩
      · rw [ew']
        simp [Eng.st, World.setCell, Array.getElem?_modify, hgg]
      · rw [Array.toList_setIfInBounds, ← htk, List.take_set]
      · rw [List.getElem?_set] at hz
        split at hz
        · rename_i him
          subst him
          first | rw [if_pos hil] at hz | skip
          cases hz
          obtain ⟨cs, g1, g2, g3⟩ := hel i x hx
          refine ⟨cs.set j u, by rw [List.length_set]; exact g1, hy cs g1 g2, fun o t ht => ?_⟩
          rw [List.getElem?_set] at ht ⊢
          by_cases hjo : j = o
          · subst hjo
            rw [if_pos rfl, if_pos (by omega)] at ht
            rw [if_pos rfl, if_pos (by rw [row.1]; omega)]
            exact ht
          · rw [if_neg hjo] at ht
            rw [if_neg (by omega)]
            exact g3 o t ht
        · rename_i him
          obtain ⟨cs, g1, g2, g3⟩ := hel m z hz
          refine ⟨cs, g1, g2, fun o t ht => ?_⟩
          have ho := (List.getElem?_eq_some_iff.1 ht).1
          have hne : i * s + j ≠ m * s + o := by
            intro e
            rcases Nat.lt_or_gt_of_ne him with hlt | hgt
            · have : i * s + s ≤ m * s := by rw [← Nat.succ_mul]; exact Nat.mul_le_mul_right _ hlt
              omega
            · have : m * s + s ≤ i * s := by rw [← Nat.succ_mul]; exact Nat.mul_le_mul_right _ hgt
              omega
          rw [List.getElem?_set, if_neg hne]
          exact g3 o t ht
end Go.Proofs.YtikjgeenhbnkkaaGreatDoor
