/-
  A part of a proof that a law of this seat returns true at every input. Conditions: those in each theorem.
-/
import Derived.Test.YtkancagfhbkhiaaD3c
namespace Go.Proofs.Ytkancagfhbkhiaa
open Go Eng
set_option linter.unusedSimpArgs false
set_option linter.unusedVariables false
set_option maxRecDepth 10000

/-! ### Empty -/
section
variable {w w' : World} {C M z c : Nat} {L L1 L2 : List Slb}
theorem clo_spec (h : CAt w C M z c L) {X : Nat} (hx : rd w X 0 = some (ptr C)) {e : Slb} (he : e ∈ L) : Calls Try.prog 66 #[.int .i64 e.fr, ptr X] w fun r w' => r = .returned (.bool (!isEmp e)) ∧ w' = w := by
  refine (vc66 _ _ w (fun v w' => v = .bool (!isEmp e) ∧ w' = w) ?_).mono ?_
  · unfold vcP66
    refine Wif_yes rfl ⟨_, hx, Wif_yes rfl ⟨_, h.rC2, _, h.l1 he, (isemp_spec (h.sl e he).1).mono ?_⟩⟩
    rintro _ w1 ⟨rfl, rfl⟩
    exact ⟨_, rfl, rfl, rfl⟩
  · rintro e w' ⟨v, rfl, rfl, h⟩
    exact ⟨rfl, h⟩
theorem idx_spec (h : CAt w C M z c L) (hl : L.length ≤ 1000) {X : Nat} (hx : rd w X 0 = some (ptr C)) {a : Option Addr} {cp : Nat} (hs : Src w a L.length cp (frL L)) :
    Calls Try.prog 72 #[.slice a L.length cp, .func (.func 66) #[] #[ptr X]] w fun r w' => w' = w ∧ ((r = .returned (.int .i64 (-1)) ∧ ∀ e ∈ L, isEmp e = true) ∨ ∃ (k : Nat) (hk : k < L.length), r = .returned (.int .i64 k) ∧ isEmp L[k] = false ∧ ∀ e ∈ L.take k, isEmp e = true) := by
  refine (vc72 _ _ _ _ w (fun v w' => w' = w ∧ ((v = .int .i64 (-1) ∧ ∀ e ∈ L, isEmp e = true) ∨ ∃ (k : Nat) (hk : k < L.length), v = .int .i64 k ∧ isEmp L[k] = false ∧ ∀ e ∈ L.take k, isEmp e = true)) ?_).mono ?_
  · unfold vcP72
    refine ⟨fun _ n w' m => w' = w ∧ ∃ k : Nat, n = k ∧ k ≤ L.length ∧ m = L.length - k ∧ ∀ e ∈ L.take k, isEmp e = true, ⟨_, rfl, 0, rfl, by omega, rfl, by simp⟩, ?_⟩
    rintro _ n w1 m ⟨rfl, k, rfl, hk, rfl, hall⟩
    refine Wif_intro (fun hlt => ?_) (fun hge => ?_)
    · simp only [decide_eq_true_eq] at hlt
      have hk' : k < L.length := by omega
      refine Wif_yes (hs.isp (by simp [frL]; omega)) (Wif_yes (inB_of (by omega) (by omega)) ⟨_, by rw [Int.toNat_natCast, Nat.mul_one]; exact hs.rd (frL_get hk'), (clo_spec h hx (List.getElem_mem hk')).mono ?_⟩)
      rintro _ w2 ⟨rfl, rfl⟩
      refine ⟨_, rfl, Wif_intro (fun hb => ?_) (fun hb => ?_)⟩
      · exact ⟨rfl, .inr ⟨k, hk', rfl, by simpa using hb, hall⟩⟩
      · refine ⟨L.length - (k + 1), by omega, rfl, k + 1, by rw [wi (by omega)]; rfl, by omega, rfl, fun e he => ?_⟩
        rw [List.take_succ_eq_append_getElem hk'] at he
        rcases List.mem_append.1 he with he | he
        · exact hall e he
        · simp at he
          subst he
          simpa using hb
    · simp only [decide_eq_false_iff_not] at hge
      have : k = L.length := by omega
      subst this
      exact ⟨rfl, .inl ⟨rfl, by simpa using hall⟩⟩
  · rintro e w' ⟨v, rfl, rfl, ⟨rfl, hh⟩ | ⟨k, hk, rfl, hh⟩⟩
    · exact ⟨rfl, .inl ⟨rfl, hh⟩⟩
    · exact ⟨rfl, .inr ⟨k, hk, rfl, hh⟩⟩
theorem zero3 (w : World) : (zeroValue 3).run Try.prog w = .ok (.int .i64 0) w := Try.zeroValue3 w
theorem delf_spec (h : CAt w C M z c L) (hl : L.length ≤ 1000) {X base : Nat} (hx : rd w X 0 = some (ptr C)) {a : Option Addr} {cp : Nat} (row : w.ownsRow base 3 1 (.slice a L.length cp) L.length (frL L))
    (hX : X < base) (hC : ∀ b, blk C M L b → b < base) :
    Calls Try.prog 65 #[.slice a L.length cp, .func (.func 66) #[] #[ptr X]] w fun r w' => ∃ cp', r = .returned (.slice a (L.filter isEmp).length cp') ∧
      w'.ownsRow base 3 1 (.slice a (L.filter isEmp).length cp') (L.filter isEmp).length (frL (L.filter isEmp)) ∧ Kept (fun b => base ≤ b) w w' := by
  refine (vc65 _ _ _ _ w (fun v w' => ∃ cp', v = .slice a (L.filter isEmp).length cp' ∧ w'.ownsRow base 3 1 (.slice a (L.filter isEmp).length cp') (L.filter isEmp).length (frL (L.filter isEmp)) ∧ Kept (fun b => base ≤ b) w w') ?_).mono ?_
  · unfold vcP65
    refine (idx_spec h hl hx (Src.of_row row)).mono ?_
    rintro _ w1 ⟨rfl, ⟨rfl, hall⟩ | ⟨k, hk, rfl, hke, hall⟩⟩
    · have hf : L.filter isEmp = L := List.filter_eq_self.2 hall
      rw [hf]
      exact ⟨_, rfl, Wif_yes rfl ⟨cp, rfl, row, Kept.refl _ _⟩⟩
    · refine ⟨_, rfl, Wif_no (by simp <;> omega) ?_⟩
      obtain ⟨_, hh⟩ := ownsRow_own row
      rcases hh with ⟨_, h0, _⟩ | ⟨g, cs, rfl, hg, og, htk, hcp, hcs⟩
      · omega
      have hfk : (L.take k).filter isEmp = L.take k := List.filter_eq_self.2 hall
      have hfk1 : (L.take (k + 1)).filter isEmp = L.take k := by
        rw [List.take_succ_eq_append_getElem hk, List.filter_append, hfk]
        simp [hke]
      have row' := row
      have hrg : ∃ t, w1.heap[g]? = some (.cells cs.toArray t (0, 0)) := og
      have hcell : ∀ t (ht : t < L.length), cs[t]? = some (.int .i64 (L[t]).fr) := by
        intro t ht
        have h1 : (cs.take (L.length * 1))[t]? = (frL L)[t]? := by rw [htk]
        rw [List.getElem?_take, if_pos (by omega), frL_get ht] at h1
        exact h1
      have htyp : ∃ cur, w1.heap[g]? = some (.cells cur 3 (0, 0)) ∧ cp ≤ maxLen ∧ cur.toList = cs := by
        obtain ⟨t, hgt⟩ := og
        rcases row.2 with ⟨hv, _⟩ | ⟨g', cap, cur, hv, _, hgg, _, hm, _, _⟩
        · cases hv
        · cases hv
          rw [hgt] at hgg
          cases hgg
          exact ⟨_, hgt, hm, by simp⟩
      obtain ⟨cur0, hcur0, hmax, _⟩ := htyp
      refine ⟨fun i j w' m => ∃ (p q : Nat) (ds : List Value), i = p ∧ j = q ∧ q ≤ L.length ∧ p < q ∧ m = L.length - q ∧ Kept (fun b => base ≤ b) w1 w' ∧ w'.heap[g]? = some (.cells ds.toArray 3 (0, 0)) ∧ ds.length = cs.length ∧
          p = ((L.take q).filter isEmp).length ∧ ds.take p = frL ((L.take q).filter isEmp) ∧ ∀ t, q ≤ t → ds[t]? = cs[t]?,
        ⟨_, k, k + 1, cs, rfl, by rw [wi (by omega)]; rfl, by omega, by omega, rfl, Kept.refl _ _, by obtain ⟨t, ht⟩ := og; rw [hcur0] at ht; cases ht; exact hcur0, rfl, by rw [hfk1]; simp; omega, ?_, fun _ _ => rfl⟩, ?_⟩
      · rw [hfk1]
        have h1 := congrArg (List.take k) htk
        rw [List.take_take, Nat.mul_one, Nat.min_eq_left (by omega)] at h1
        rw [h1]
        simp [frL, List.map_take]
      rintro i j w2 m ⟨p, q, ds, rfl, rfl, hq, hpq, rfl, k2, hds, hdl, hp, htake, hrest⟩
      have h2 := h.kx k2 (fun b hb hx => by have := hC b hx; omega)
      have hx2 : rd w2 X 0 = some (ptr C) := k2.rd_some hx (by omega)
      have og2 : own w2 g ds := ⟨3, hds⟩
      refine Wif_intro (fun hlt => ?_) (fun hge => ?_)
      · simp only [decide_eq_true_eq] at hlt
        have hq' : q < L.length := by omega
        refine Wif_yes rfl (Wif_yes (inB_of (by omega) (by omega)) ⟨.ofNat 0 + (L[q]).fr, ?_, ?_⟩)
        · simp only [pb_some, po_some, Nat.zero_add, Int.toNat_natCast, Nat.mul_one]
          rw [og2.rd, hrest q (Nat.le_refl _), hcell q hq']
          simp
        have hfr0 : (Int.ofNat 0 + (L[q]).fr) = (L[q]).fr := by simp
        rw [hfr0]
        refine (clo_spec h2 hx2 (List.getElem_mem hq')).mono ?_
        rintro _ w3 ⟨rfl, rfl⟩
        refine ⟨_, rfl, Wif_intro (fun hb => ?_) (fun hb => ?_)⟩
        · have hE : isEmp L[q] = true := by simpa using hb
          refine Wif_yes rfl (Wif_yes (inB_of (by omega) (by omega)) ⟨?_, ?_⟩)
          · simp only [pb_some, po_some, Nat.zero_add, Int.toNat_natCast, Nat.mul_one]
            exact og2.wr (by omega)
          intro w4 e4
          simp only [pb_some, po_some, Nat.zero_add, Int.toNat_natCast, Nat.mul_one] at e4
          have hfq : (L.take (q + 1)).filter isEmp = (L.take q).filter isEmp ++ [L[q]] := by
            rw [List.take_succ_eq_append_getElem hq', List.filter_append]
            simp [hE]
          refine ⟨L.length - (q + 1), by omega, p + 1, q + 1, ds.set p (.int .i64 (L[q]).fr), by rw [wi (by omega)]; rfl, by rw [wi (by omega)]; rfl, by omega, by omega, rfl, k2.s1 e4 (.inl hg), ?_, by simp [hdl], by rw [hfq]; simp; omega, ?_, ?_⟩
          · rw [e4]
            simp [Eng.st, World.setCell, Array.getElem?_modify, hds]
          · rw [hfq]
            have hpl : p < ds.length := by omega
            rw [List.take_succ_eq_append_getElem (by simpa using hpl), List.take_set_of_le (by omega), htake]
            simp [frL]
          · intro t ht
            rw [List.getElem?_set_ne (by omega)]
            exact hrest t (by omega)
        · have hE : isEmp L[q] = false := by simpa using hb
          have hfq : (L.take (q + 1)).filter isEmp = (L.take q).filter isEmp := by
            rw [List.take_succ_eq_append_getElem hq', List.filter_append]
            simp [hE]
          exact ⟨L.length - (q + 1), by omega, p, q + 1, ds, rfl, by rw [wi (by omega)]; rfl, by omega, by omega, rfl, k2, hds, hdl, by rw [hfq]; exact hp, by rw [hfq]; exact htake, fun t ht => hrest t (by omega)⟩
      · simp only [decide_eq_false_iff_not] at hge
        have hqL : q = L.length := by omega
        subst hqL
        rw [List.take_length] at hp htake
        refine Wif_yes (okSl_of (by omega) (by omega) (by omega)) ?_
        have hoff : offA (some ⟨g, 0, none⟩) cp (Int.toNat (p : Int)) 1 = some ⟨g, p, none⟩ := by
          rw [Int.toNat_natCast]
          exact offA_0 (by omega)
        rw [hoff, Int.toNat_natCast]
        obtain ⟨w3, hcl, o3, k3⟩ := clr_own (P := Try.prog) (t := 33) (e := 3) (ty := 0) (z := .int .i64 0) Try.underlying33 zero3 rfl rfl og2 p (L.length - p) (cp - p) (by omega)
        refine ⟨w3, hcl, Wif_yes (okSl_of (by omega) (by omega) (by omega)) ⟨cp, by rw [hp], ?_, k2.go k3 (fun b hb => .inl (by omega))⟩⟩
        rw [← hp]
        have htyp3 : ∃ cur, w3.heap[g]? = some (.cells cur 3 (0, 0)) ∧ cur.toList = ds.take p ++ List.replicate (L.length - p) (.int .i64 0) ++ ds.drop (p + (L.length - p)) := by
          obtain ⟨t3, h3⟩ := o3
          refine ⟨(ds.take p ++ List.replicate (L.length - p) (Value.int .i64 0) ++ ds.drop (p + (L.length - p))).toArray, ?_, by simp⟩
          have hrun := hcl.run
          have ht3 : t3 = 3 := by
            obtain ⟨w3', hcl', o3', hty⟩ : ∃ w3', clrIs Try.prog #[33] 0 (.slice (some ⟨g, p, none⟩) (L.length - p) (cp - p)) w2 w3' ∧ w3' = w3 ∧ ∃ cc, w3'.heap[g]? = some (.cells cc 3 (0, 0)) := by
              refine ⟨w3, hcl, rfl, ?_⟩
              have hsz := List.length_replicate (n := L.length - p) (a := Value.int .i64 0)
              obtain ⟨m, hm⟩ : ∃ m, L.length - p = m + 1 := ⟨L.length - p - 1, by omega⟩
              have hzc : (Builtin.zeroCells (Value.int .i64 0).cells (m + 1)).toList = List.replicate (m + 1) (.int .i64 0) := by
                simp [Builtin.zeroCells, Value.cells]
                apply List.ext_getElem
                · simp
                · intro i h1 h2
                  simp [Nat.mod_one]
              have hst := run_storeCells_at Try.prog g p 3 (List.replicate (m + 1) (.int .i64 0)) 0 ds.toArray w2 hds (by simp; omega) (by intro v hv'; rw [List.eq_of_mem_replicate hv']; rfl)
              rw [hm] at hrun
              simp only [Nat.add_zero, List.length_replicate] at hst
              simp [Builtin.clear_, run_underlying Try.underlying33, zero3, hzc, hst] at hrun
              rw [← hrun]
              exact ⟨_, by simp [World.setRow, Array.getElem?_modify, hds]; rfl⟩
            subst o3'
            obtain ⟨cc, hcc⟩ := hty
            rw [h3] at hcc
            cases hcc
            rfl
          rw [ht3] at h3
          exact h3
        obtain ⟨cur3, hcur3, hcl3⟩ := htyp3
        refine ⟨by simp [frL]; omega, .inr ⟨g, cp, cur3, rfl, hg, hcur3, by omega, hmax, ?_, ?_⟩⟩
        · have := congrArg List.length hcl3
          simp at this
          omega
        · rw [hcl3, Nat.mul_one, List.append_assoc, List.take_append_of_le_length (by simp; omega), List.take_take, Nat.min_self]
          exact htake
  · rintro e w' ⟨v, rfl, cp', rfl, h⟩
    exact ⟨cp', rfl, h⟩
theorem cempty_spec (h : CAt w C M z c L) (hl : L.length ≤ 1000) : Calls Try.prog 44 #[ptr C] w fun r w' => ∃ (a : Option Addr) (cp : Nat), r = .returned (.slice a (L.filter isEmp).length cp) ∧
    w'.ownsRow w.heap.size 3 1 (.slice a (L.filter isEmp).length cp) (L.filter isEmp).length (frL (L.filter isEmp)) ∧ Kept none' w w' := by
  refine (vc44 _ w (fun v w' => ∃ (a : Option Addr) (cp : Nat), v = .slice a (L.filter isEmp).length cp ∧ w'.ownsRow w.heap.size 3 1 (.slice a (L.filter isEmp).length cp) (L.filter isEmp).length (frL (L.filter isEmp)) ∧ Kept none' w w') ?_).mono ?_
  · unfold vcP44
    intro w1 e1
    have k1 := (Kept.refl none' w).al (c := #[ptr C]) e1
    have o1 : own w1 w.heap.size [ptr C] := own_alloc e1
    have z1 : w1.heap.size = w.heap.size + 1 := by rw [e1]; simp
    have h1 := h.k k1
    refine ⟨_, by rw [o1.rd]; rfl, (frames_spec h1 hl).mono ?_⟩
    rintro _ w2 ⟨a, cp, rfl, row2, k2⟩
    have h2 := h1.k k2
    have o2 := o1.k k2
    refine ⟨_, _, _, rfl, (delf_spec (X := w.heap.size) (base := w1.heap.size) h2 hl (by rw [o2.rd]; rfl) row2 (by omega) (fun b hb => by have := h.lt hb; omega)).mono ?_⟩
    rintro _ w3 ⟨cp', rfl, row3, k3⟩
    refine ⟨_, _, _, rfl, a, cp', rfl, ?_, (k1.tr k2).go k3 (fun b hb => .inr (by omega))⟩
    refine ⟨row3.1, ?_⟩
    rcases row3.2 with hn | ⟨g, cap, cur, hv, hb, rest⟩
    · exact .inl hn
    · exact .inr ⟨g, cap, cur, hv, by omega, rest⟩
  · rintro e w' ⟨v, rfl, a, cp, rfl, h⟩
    exact ⟨a, cp, rfl, h⟩
end
end Go.Proofs.Ytkancagfhbkhiaa
