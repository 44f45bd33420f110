/-
  A part of a proof that a law of this seat returns true at every input. Conditions: those in each theorem.
-/
import Derived.Test.YtkmcmkimeibjdaaBL9
import Derived.Test.YtkmcmkimeibjdaaBV3
import Derived.Test.YtkmcmkimeibjdaaEngQ
namespace Go.Proofs.Ytkmcmkimeibjdaa
open Go Eng
set_option linter.unusedSimpArgs false
set_option linter.unusedVariables false
set_option maxRecDepth 100000
/-! ### a node that is not there, or was not made -/
/-- no node: none, or one that was not made -/
def NoB (w : World) (x : Option Addr) : Prop := x = none ∨ ∃ b, x = some ⟨b, 0, none⟩ ∧ rd w b 12 = some (.map none)
theorem NoB.k {w w' : World} {x : Option Addr} (h : NoB w x) (k : Kept none' w w') : NoB w' x := by
  rcases h with rfl | ⟨b, rfl, h⟩
  · exact .inl rfl
  · exact .inr ⟨b, rfl, k.rd_some h id⟩
section
variable {w : World} {x : Option Addr}
theorem NoB.go (h : NoB w x) {f : Option Nat → Prop} (hf : f none) : gIf (isP x) ((!Option.isNone x) = true) (∃ (y : Option Nat), ((!Option.isNone x) = true → rd w (pb x) (po x + 12) = some (.map y)) ∧ f y) := by
  refine gIf_intro (fun hc => ?_) ⟨none, fun hc => ?_, hf⟩
  · rcases h with rfl | ⟨b, rfl, h⟩
    · simp at hc
    · rfl
  · rcases h with rfl | ⟨b, rfl, h⟩
    · simp at hc
    · simpa [po, pb] using h
theorem none_take (h : NoB w x) (o : Int) (hi : Bool) : Calls Try.prog 15 #[.pointer x, .int .i64 o, .bool hi] w fun r w' => r = .returned (.tuple #[.int .i64 0, .int .i64 1]) ∧ w' = w := by
  refine (vc15 _ _ _ w (fun v w' => v = .tuple #[.int .i64 0, .int .i64 1] ∧ w' = w) ?_).mono ?_
  · exact h.go (Wif_yes (by simp) ⟨rfl, rfl⟩)
  · rintro e w' ⟨v, rfl, rfl, hw⟩
    exact ⟨rfl, hw⟩
theorem none_taken (h : NoB w x) (a : Int) : Calls Try.prog 30 #[.pointer x, .int .i64 a] w fun r w' => r = .returned (.tuple #[.int .i64 0, .bool false]) ∧ w' = w := by
  refine (vc30 _ _ w (fun v w' => v = .tuple #[.int .i64 0, .bool false] ∧ w' = w) ?_).mono ?_
  · exact h.go (Wif_yes (by simp) ⟨rfl, rfl⟩)
  · rintro e w' ⟨v, rfl, rfl, hw⟩
    exact ⟨rfl, hw⟩
theorem none_give (h : NoB w x) (a o : Int) : Calls Try.prog 16 #[.pointer x, .int .i64 a, .int .i64 o] w fun r w' => r = .returned (.int .i64 1) ∧ w' = w := by
  refine (vc16 _ _ _ w (fun v w' => v = .int .i64 1 ∧ w' = w) ?_).mono ?_
  · exact h.go (Wif_yes (by simp) ⟨rfl, rfl⟩)
  · rintro e w' ⟨v, rfl, rfl, hw⟩
    exact ⟨rfl, hw⟩
theorem none_frames (h : NoB w x) : Calls Try.prog 35 #[.pointer x] w fun r w' => r = .returned (.int .i64 0) ∧ w' = w := by
  refine (vc35 _ w (fun v w' => v = .int .i64 0 ∧ w' = w) ?_).mono ?_
  · exact h.go (Wif_yes (by simp) ⟨rfl, rfl⟩)
  · rintro e w' ⟨v, rfl, rfl, hw⟩
    exact ⟨rfl, hw⟩
theorem none_free (h : NoB w x) : Calls Try.prog 19 #[.pointer x] w fun r w' => r = .returned (.int .i64 0) ∧ w' = w := by
  refine (vc19 _ w (fun v w' => v = .int .i64 0 ∧ w' = w) ?_).mono ?_
  · exact h.go (Wif_yes (by simp) ⟨rfl, rfl⟩)
  · rintro e w' ⟨v, rfl, rfl, hw⟩
    exact ⟨rfl, hw⟩
theorem none_copy (h : NoB w x) : Calls Try.prog 18 #[.pointer x] w fun r w' => r = .returned (.pointer none) ∧ w' = w := by
  refine (vc18 _ w (fun v w' => v = .pointer none ∧ w' = w) ?_).mono ?_
  · exact h.go (Wif_yes (by simp) ⟨rfl, rfl⟩)
  · rintro e w' ⟨v, rfl, rfl, hw⟩
    exact ⟨rfl, hw⟩
theorem none_most (h : NoB w x) : Calls Try.prog 17 #[.pointer x] w fun r w' => r = .returned (.int .i64 (-1)) ∧ w' = w := by
  refine (vc17 _ w (fun v w' => v = .int .i64 (-1) ∧ w' = w) ?_).mono ?_
  · unfold vcP17
    refine ⟨fun _ k w' _ => w' = w, ⟨0, rfl⟩, ?_⟩
    rintro _ k _ _ rfl
    exact h.go (Wif_no (by simp) ⟨rfl, rfl⟩)
  · rintro e w' ⟨v, rfl, rfl, hw⟩
    exact ⟨rfl, hw⟩
/-- such a node's blocks: none -/
theorem none_gives {c : Nat} (h : NoB w x) (hc : rd w c 0 = some (.pointer x)) : GivesV Try.prog 54 [.pointer (some ⟨c, 0, none⟩)] [] (fun _ => False) w := by
  refine ⟨fun l J Jx W hk _ _ _ h0 => ?_⟩
  refine (vc54 l (some ⟨c, 0, none⟩) W (fun v w' => w' = W) ?_).mono ?_
  · unfold vcP54
    simp only [isP_some, Wif_true, pb_some, po_some]
    exact ⟨x, hk.rd_some hc id, (h.k hk).go (Wif_yes (by simp) trivial)⟩
  · rintro e w' ⟨v, rfl, rfl⟩
    exact ⟨⟨v, rfl⟩, .inl ⟨_, h0⟩⟩
end
theorem none_law (x0 x1 x2 : Int) (x3 : Bool) (W : World) : Calls Try.prog 10 #[.agg #[.int .i64 x0, .int .i64 x1, .int .i64 x2, .bool x3]] W fun r w' => r = .returned (.bool true) ∧ Kept none' W w' := by
  refine (vc10 x0 x1 x2 x3 W (fun v w' => v = .bool true ∧ Kept none' W w') ?_).mono ?_
  · unfold vcP10
    intro w1 e1 w2 e2 w3 e3 w4 e4
    have o1 := own_alloc (c := [.int .i64 x0, .int .i64 x1, .int .i64 x2, .bool x3]) e1
    have o2 := own_alloc (c := [.bool false]) e2
    have o3 := own_alloc (c := [Value.int .i64 0] ++ List.replicate 12 (Value.map none)) e3
    have o4 := own_alloc (c := [Value.pointer none, .pointer (some ⟨w2.heap.size, 0, none⟩)]) e4
    have k4 : Kept none' W w4 := ((((Kept.refl _ _).al e1).al e2).al e3).al e4
    have p4 := ((o1.al e2).al e3).al e4
    have r4 := (o2.al e3).al e4
    have z4 := o3.al e4
    have s1 : w1.heap.size = W.heap.size + 1 := by rw [e1]; simp only [World.alloc, Array.size_push]
    have s2 : w2.heap.size = W.heap.size + 2 := by rw [e2]; simp only [World.alloc, Array.size_push]; omega
    have s3 : w3.heap.size = W.heap.size + 3 := by rw [e3]; simp only [World.alloc, Array.size_push]; omega
    have s4 : w4.heap.size = W.heap.size + 4 := by rw [e4]; simp only [World.alloc, Array.size_push]; omega
    clear e1 e2 e3 e4
    generalize hb1 : W.heap.size = p at *
    generalize hb2 : w1.heap.size = r at *
    generalize hb3 : w2.heap.size = z at *
    generalize hb4 : w3.heap.size = la at *
    refine ⟨fun n ds w' N => ∃ q : Nat, n = q ∧ q ≤ 2 ∧ N = 2 - q ∧ Kept none' w4 w' ∧ DefsAt ds w' ∧ ∀ D ∈ ds, w4.heap.size ≤ D, ⟨2, 0, rfl, by omega, rfl, Kept.refl _ _, ⟨List.nodup_nil, fun D hD => by cases hD⟩, fun D hD => by cases hD⟩, ?_⟩
    rintro _ ds w5 _ ⟨q, rfl, hq, rfl, k5, hds, hdl⟩
    refine Wif_intro (fun hc => ?_) (fun hc => ?_)
    · simp only [decide_eq_true_eq] at hc
      have hx : ∃ x, rd w5 la (0 + Int.toNat (q : Int) * 1) = some (.pointer x) ∧ NoB w5 x := by
        have : q = 0 ∨ q = 1 := by omega
        rcases this with rfl | rfl
        · exact ⟨none, k5.rd_some (by rw [o4.rd]; rfl) id, .inl rfl⟩
        · exact ⟨some ⟨z, 0, none⟩, k5.rd_some (by rw [o4.rd]; rfl) id, .inr ⟨z, rfl, k5.rd_some (by rw [z4.rd]; rfl) id⟩⟩
      obtain ⟨x, hx1, hx2⟩ := hx
      have rp : ∀ {w'}, Kept none' w4 w' → rd w' p 1 = some (.int .i64 x1) ∧ rd w' p 2 = some (.int .i64 x2) ∧ rd w' p 3 = some (.bool x3) := fun k => ⟨k.rd_some (by rw [p4.rd]; rfl) id, k.rd_some (by rw [p4.rd]; rfl) id, k.rd_some (by rw [p4.rd]; rfl) id⟩
      refine Wif_yes (inB_of (by omega) (by omega)) ⟨x, hx1, x2, (rp k5).2.1, x3, (rp k5).2.2, (none_take hx2 x2 x3).mono ?_⟩
      rintro _ _ ⟨rfl, rfl⟩
      refine ⟨_, _, rfl, x1, (rp k5).1, (none_taken hx2 x1).mono ?_⟩
      rintro _ _ ⟨rfl, rfl⟩
      rename_i w5
      refine ⟨_, _, rfl, ?_⟩
      intro w7 e7 w8 e8
      have k7 : Kept none' w5 w7 := (Kept.refl _ _).al e7
      have c8 := own_alloc (c := [.pointer x]) e8
      have k8 : Kept none' w5 w8 := k7.al e8
      have hx8 := hx2.k k8
      have sz8 := k8.sz
      generalize hc0 : w7.heap.size = c0 at *
      refine ⟨[], fun _ => False, fun _ _ W' => Kept none' w8 W', fun _ _ _ => False, ⟨none_gives hx8 (by rw [c8.rd]; rfl), fun xs h => (by cases h), fun b h => h.elim⟩, fun w9 k _ => k, fun Y i W1 W2 k hY k' => own0 k k' fun b hb => (by rcases hb with rfl | rfl | hb; omega; omega; have := hY b hb; omega), fun _ _ _ _ h => h.elim, ?_, ?_, fun _ _ h => h.elim, trivial⟩
      · intro Y i W1 _ _ _ v hv
        simp at hv
      intro Y w9 k9 hd9
      have k59 := k8.tr k9
      have K9 := k5.tr k59
      have hx9 := hx8.k k9
      have hB : w8.heap.size ∉ ds := fun hm => by have := defs_lt hds hm; omega
      have hds9 : DefsAt (w8.heap.size :: ds) w9 := ⟨List.nodup_cons.2 ⟨hB, hds.nd⟩, fun D hD => by
        rcases List.mem_cons.1 hD with rfl | hD
        · exact hd9.at_
        · exact (hds.k k59 fun _ _ => id).all D hD⟩
      refine ⟨x1, fun _ => (rp K9).1, x2, fun _ => (rp K9).2.1, Wif_no rfl ((none_give hx9 x1 x2).mono ?_)⟩
      rintro _ _ ⟨rfl, rfl⟩
      refine ⟨_, rfl, Wif_no rfl ((none_frames hx9).mono ?_)⟩
      rintro _ _ ⟨rfl, rfl⟩
      refine ⟨_, rfl, (none_free hx9).mono ?_⟩
      rintro _ _ ⟨rfl, rfl⟩
      refine ⟨_, rfl, Wif_no rfl ((none_most hx9).mono ?_)⟩
      rintro _ _ ⟨rfl, rfl⟩
      refine ⟨_, rfl, Wif_no rfl ((none_copy hx9).mono ?_)⟩
      rintro _ _ ⟨rfl, rfl⟩
      exact ⟨_, rfl, Wif_no rfl ⟨2 - (q + 1), by omega, q + 1, by rw [wi (by omega)]; rfl, by omega, rfl, K9, hds9, fun D hD => by
        rcases List.mem_cons.1 hD with rfl | hD
        · have := k5.sz; omega
        · exact hdl D hD⟩⟩
    · refine (known_spec w5).mono ?_
      rintro _ w6 ⟨rfl, k6⟩
      have K6 := k5.tr k6
      have r6 := r4.k K6
      refine ⟨true, rfl, r6.wr (by simp), ?_⟩
      intro w7 e7
      have r7 := r6.s1 e7
      have k67 : Kept (· = r) w6 w7 := (Kept.refl _ _).s1 e7 (.inl rfl)
      have hr : r < w4.heap.size := r4.lt
      have d7 := (hds.k k6 fun _ _ => id).k k67 fun D hD e => by have := hdl D hD; omega
      refine ⟨d7, fun w8 k8 hs8 => ⟨true, ?_, rfl, ?_⟩⟩
      · rw [(r7.kx k8 fun h => by have := hdl r h; omega).rd]; rfl
      · exact own0 (own0 (k4.tr K6) k67 fun b e => by omega) k8 fun b hb => by have := hdl b hb; omega
  · rintro e w' ⟨v, rfl, rfl, hw⟩
    exact ⟨rfl, hw⟩
end Go.Proofs.Ytkmcmkimeibjdaa
