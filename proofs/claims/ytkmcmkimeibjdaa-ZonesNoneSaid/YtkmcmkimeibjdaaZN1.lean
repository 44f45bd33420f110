/-
  A part of a proof that a law of this seat returns true at every input. Conditions: those in each theorem.
-/
import Derived.Test.YtkmcmkimeibjdaaZC7
import Derived.Test.YtkmcmkimeibjdaaZV5
import Derived.Test.YtkmcmkimeibjdaaBS4
namespace Go.Proofs.Ytkmcmkimeibjdaa
open Go Eng
set_option linter.unusedSimpArgs false
set_option linter.unusedVariables false
set_option maxRecDepth 100000
/-! ### zones that are not there, or were not made -/
def NoZ (w : World) (x : Option Addr) : Prop := x = none ∨ ∃ b, x = some ⟨b, 0, none⟩ ∧ rd w b 94 = some (.slice none 0 0)
theorem NoZ.k {w w' : World} {x : Option Addr} (h : NoZ w x) (k : Kept none' w w') : NoZ w' x := by
  rcases h with rfl | ⟨b, rfl, h⟩
  · exact .inl rfl
  · exact .inr ⟨b, rfl, k.rd_some h id⟩
section
variable {w : World} {x : Option Addr}
theorem NoZ.go (h : NoZ w x) {f : Option Addr → Nat → Nat → Prop} (hf : f none 0 0) : gIf (isP x) ((!Option.isNone x) = true) (∃ (y : Option Addr), ∃ (l : Nat), ∃ (c : Nat), ((!Option.isNone x) = true → rd w (pb x) (po x + 94) = some (.slice y l c)) ∧ f y l c) := by
  refine gIf_intro (fun hc => ?_) ⟨none, 0, 0, fun hc => ?_, hf⟩
  · rcases h with rfl | ⟨b, rfl, h⟩
    · simp at hc
    · rfl
  · rcases h with rfl | ⟨b, rfl, h⟩
    · simp at hc
    · simpa [po, pb] using h
theorem nz_take (h : NoZ w x) (a : Option Addr) (l c : Nat) (f : Int) (hi : Bool) : Calls Try.prog 22 #[.pointer x, .slice a l c, .int .i64 f, .bool hi] w fun r w' => r = .returned (.tuple #[.int .i64 0, .int .i64 1]) ∧ w' = w := by
  refine (vc22 _ _ _ _ _ _ w (fun v w' => v = .tuple #[.int .i64 0, .int .i64 1] ∧ w' = w) ?_).mono ?_
  · exact h.go (Wif_yes (by simp) ⟨rfl, rfl⟩)
  · rintro e w' ⟨v, rfl, rfl, hw⟩
    exact ⟨rfl, hw⟩
theorem nz_takeOf (h : NoZ w x) (n o : Int) (hi : Bool) : Calls Try.prog 26 #[.pointer x, .int .i64 n, .int .i64 o, .bool hi] w fun r w' => r = .returned (.tuple #[.int .i64 0, .int .i64 1]) ∧ w' = w := by
  refine (vc26 _ _ _ _ w (fun v w' => v = .tuple #[.int .i64 0, .int .i64 1] ∧ w' = w) ?_).mono ?_
  · exact h.go (Wif_yes (by simp) ⟨rfl, rfl⟩)
  · rintro e w' ⟨v, rfl, rfl, hw⟩
    exact ⟨rfl, hw⟩
theorem nz_give (h : NoZ w x) (f o : Int) : Calls Try.prog 24 #[.pointer x, .int .i64 f, .int .i64 o] w fun r w' => r = .returned (.int .i64 1) ∧ w' = w := by
  refine (vc24 _ _ _ w (fun v w' => v = .int .i64 1 ∧ w' = w) ?_).mono ?_
  · exact h.go (Wif_yes (by simp) ⟨rfl, rfl⟩)
  · rintro e w' ⟨v, rfl, rfl, hw⟩
    exact ⟨rfl, hw⟩
theorem nz_free (h : NoZ w x) (n : Int) : Calls Try.prog 23 #[.pointer x, .int .i64 n] w fun r w' => r = .returned (.int .i64 0) ∧ w' = w := by
  refine (vc23 _ _ w (fun v w' => v = .int .i64 0 ∧ w' = w) ?_).mono ?_
  · refine h.go (gIf_intro (fun hc => by simp at hc) ⟨none, 0, 0, fun hc => by simp at hc, Wif_yes (by simp) ⟨rfl, rfl⟩⟩)
  · rintro e w' ⟨v, rfl, rfl, hw⟩
    exact ⟨rfl, hw⟩
theorem nz_state (h : NoZ w x) (n : Int) : Calls Try.prog 25 #[.pointer x, .int .i64 n] w fun r w' => r = .returned (.int .i64 0) ∧ w' = w := by
  refine (vc25 _ _ w (fun v w' => v = .int .i64 0 ∧ w' = w) ?_).mono ?_
  · unfold vcP25
    refine (nz_free h n).mono ?_
    rintro _ wq ⟨rfl, hq⟩
    rw [hq]
    refine ⟨_, rfl, h.go (gIf_intro (fun hc => by simp at hc) ⟨none, 0, 0, fun hc => by simp at hc, gIf_intro (fun hc => by simp at hc) ⟨0, fun hc => by simp at hc, Wif_yes (by simp) ⟨rfl, rfl⟩⟩⟩)⟩
  · rintro e w' ⟨v, rfl, rfl, hw⟩
    exact ⟨rfl, hw⟩
theorem nz_copy (h : NoZ w x) : Calls Try.prog 42 #[.pointer x] w fun r w' => r = .returned (.pointer none) ∧ w' = w := by
  refine (vc42 _ w (fun v w' => v = .pointer none ∧ w' = w) ?_).mono ?_
  · exact h.go (Wif_yes (by simp) ⟨rfl, rfl⟩)
  · rintro e w' ⟨v, rfl, rfl, hw⟩
    exact ⟨rfl, hw⟩
theorem nz_gives {c : Nat} (h : NoZ w x) (hc : rd w c 0 = some (.pointer x)) : GivesV Try.prog 64 [.pointer (some ⟨c, 0, none⟩)] [] (fun _ => False) w := by
  refine ⟨fun l J Jx W hk hab _ _ h0 => ?_⟩
  refine (vc64 l (some ⟨c, 0, none⟩) W (fun v w' => ∃ Y, J Y 0 w') ?_).mono ?_
  · unfold vcP64
    simp only [isP_some, Wif_true, pb_some, po_some]
    intro w1 e1
    have k1 : Kept none' W w1 := (Kept.refl _ _).al e1
    refine ⟨x, (hk.tr k1).rd_some hc id, ((h.k hk).k k1).go (Wif_yes (by simp) ⟨⟨List.nodup_nil, fun D hD => by cases hD⟩, fun w2 k2 _ => ?_⟩)⟩
    have k12 : Kept none' w1 w2 := k2.mono fun _ _ hm => by cases hm
    exact ⟨_, hab _ _ _ _ h0 (k1.tr k12).toY⟩
  · rintro e w' ⟨v, rfl, Y, hJ⟩
    exact ⟨⟨v, rfl⟩, .inl ⟨Y, hJ⟩⟩
end
theorem znone_law (x0 x1 x2 x3 : Int) (x4 : Option Addr) (l4 c4 : Nat) (x5 : Bool) (W : World) : Calls Try.prog 12 #[.agg #[.int .i64 x0, .int .i64 x1, .int .i64 x2, .int .i64 x3, .slice x4 l4 c4, .bool x5]] W fun r w' => r = .returned (.bool true) ∧ Kept none' W w' := by
  refine (vc12 x0 x1 x2 x3 x4 l4 c4 x5 W (fun v w' => v = .bool true ∧ Kept none' W w') ?_).mono ?_
  · unfold vcP12
    intro w1 e1 w2 e2
    have o1 := own_alloc (c := [.int .i64 x0, .int .i64 x1, .int .i64 x2, .int .i64 x3, .slice x4 l4 c4, .bool x5]) e1
    have o2 := own_alloc (c := [.bool false]) e2
    have k2 : Kept none' W w2 := ((Kept.refl _ _).al e1).al e2
    have p2 := o1.al e2
    have s1 : w1.heap.size = W.heap.size + 1 := by rw [e1]; simp only [World.alloc, Array.size_push]
    have s2 : w2.heap.size = W.heap.size + 2 := by rw [e2]; simp only [World.alloc, Array.size_push]; omega
    clear e1 e2 o1
    generalize hb1 : W.heap.size = p at *
    generalize hb2 : w1.heap.size = r at *
    have fin : ∀ (w5 : World) (ds : List Nat), Kept none' w2 w5 → DefsAt ds w5 → (∀ D ∈ ds, w2.heap.size ≤ D) → Calls Try.prog 21 #[] w5 fun (e : Ending) (w6 : World) => ∃ (b : Bool), e = Ending.returned (Value.bool b) ∧ wr w6 r 0 ∧
        ∀ (w7 : World), w7 = st w6 r 0 (.bool b) → DefsAt ds w7 ∧ ∀ (w8 : World), Kept (fun (b : Nat) => List.Mem b ds) w7 w8 → w8.heap.size = w7.heap.size → ∃ (x : Bool), rd w8 r 0 = some (Value.bool x) ∧ Value.bool x = .bool true ∧ Kept none' W w8 := by
      intro w5 ds k5 hds hdl
      refine (zknown_spec w5).mono ?_
      rintro _ w6 ⟨rfl, k6⟩
      have K6 := k5.tr k6
      have r6 := o2.k K6
      refine ⟨true, rfl, r6.wr (by simp), ?_⟩
      intro w7 e7
      have r7 := r6.s1 e7
      have k67 : Kept (· = r) w6 w7 := (Kept.refl _ _).s1 e7 (.inl rfl)
      have hr : r < w2.heap.size := o2.lt
      have d7 := (hds.k k6 fun _ _ => id).k k67 fun D hD e => by have := hdl D hD; omega
      refine ⟨d7, fun w8 k8 hs8 => ⟨true, ?_, rfl, ?_⟩⟩
      · rw [(r7.kx k8 fun h => by have := hdl r h; omega).rd]; rfl
      · exact own0 (own0 (k2.tr K6) k67 fun b e => by omega) k8 fun b hb => by have := hdl b hb; omega
    refine ⟨x4, l4, c4, by rw [p2.rd]; rfl, Wif_intro (fun _ => fin w2 [] (Kept.refl _ _) ⟨List.nodup_nil, fun D hD => by cases hD⟩ fun D hD => by cases hD) (fun _ => ?_)⟩
    intro w3 e3 w4 e4
    have o3 := own_alloc (c := List.replicate 94 (Value.int .i64 0) ++ [Value.slice none 0 0]) e3
    have o4 := own_alloc (c := [Value.pointer none, .pointer (some ⟨w2.heap.size, 0, none⟩)]) e4
    have k24 : Kept none' w2 w4 := ((Kept.refl _ _).al e3).al e4
    have k4 := k2.tr k24
    have p4 := p2.k k24
    have z4 := o3.al e4
    have s3 : w3.heap.size = W.heap.size + 3 := by rw [e3]; simp only [World.alloc, Array.size_push]; omega
    have s4 : w4.heap.size = W.heap.size + 4 := by rw [e4]; simp only [World.alloc, Array.size_push]; omega
    clear e3 e4
    generalize hb3 : w2.heap.size = z at *
    generalize hb4 : w3.heap.size = la at *
    refine ⟨fun n ds w' N => ∃ q : Nat, n = q ∧ q ≤ 2 ∧ N = 2 - q ∧ Kept none' w4 w' ∧ DefsAt ds w' ∧ ∀ D ∈ ds, w4.heap.size ≤ D, ⟨2, 0, rfl, by omega, rfl, Kept.refl _ _, ⟨List.nodup_nil, fun D hD => by cases hD⟩, fun D hD => by cases hD⟩, ?_⟩
    rintro _ ds w5 _ ⟨q, rfl, hq, rfl, k5, hds, hdl⟩
    refine Wif_intro (fun hc => ?_) (fun hc => fin w5 ds (k24.tr k5) hds fun D hD => by have := hdl D hD; omega)
    simp only [decide_eq_true_eq] at hc
    have hx : ∃ x, rd w5 la (0 + Int.toNat (q : Int) * 1) = some (.pointer x) ∧ NoZ w5 x := by
      have : q = 0 ∨ q = 1 := by omega
      rcases this with rfl | rfl
      · exact ⟨none, k5.rd_some (by rw [o4.rd]; rfl) id, .inl rfl⟩
      · exact ⟨some ⟨z, 0, none⟩, k5.rd_some (by rw [o4.rd]; rfl) id, .inr ⟨z, rfl, k5.rd_some (by rw [z4.rd]; rfl) id⟩⟩
    obtain ⟨x, hx1, hx2⟩ := hx
    have rp : ∀ {w'}, Kept none' w4 w' → rd w' p 1 = some (.int .i64 x1) ∧ rd w' p 2 = some (.int .i64 x2) ∧ rd w' p 3 = some (.int .i64 x3) ∧ rd w' p 4 = some (.slice x4 l4 c4) ∧ rd w' p 5 = some (.bool x5) := fun k => ⟨k.rd_some (by rw [p4.rd]; rfl) id, k.rd_some (by rw [p4.rd]; rfl) id, k.rd_some (by rw [p4.rd]; rfl) id, k.rd_some (by rw [p4.rd]; rfl) id, k.rd_some (by rw [p4.rd]; rfl) id⟩
    refine Wif_yes (inB_of (by omega) (by omega)) ⟨x, hx1, x4, l4, c4, (rp k5).2.2.2.1, x3, (rp k5).2.2.1, x5, (rp k5).2.2.2.2, (nz_take hx2 x4 l4 c4 x3 x5).mono ?_⟩
    rintro _ wq ⟨rfl, hq5⟩
    rw [hq5]
    refine ⟨_, _, rfl, x1, (rp k5).1, x2, (rp k5).2.1, x5, (rp k5).2.2.2.2, (nz_takeOf hx2 x1 x2 x5).mono ?_⟩
    rintro _ wq2 ⟨rfl, hq6⟩
    rw [hq6]
    clear hq5 hq6 wq wq2
    refine ⟨_, _, rfl, ?_⟩
    intro w7 e7 w8 e8
    have k7 : Kept none' w5 w7 := (Kept.refl _ _).al e7
    have c8 := own_alloc (c := [.pointer x]) e8
    have k8 : Kept none' w5 w8 := k7.al e8
    have hx8 := hx2.k k8
    have sz8 := k8.sz
    generalize hc0 : w7.heap.size = c0 at *
    refine ⟨[], fun _ => False, fun _ _ W' => Kept none' w8 W', fun _ _ _ => False, ⟨nz_gives hx8 (by rw [c8.rd]; rfl), fun xs h => (by cases h), fun b h => h.elim⟩, fun w9 k _ => k, fun Y i W1 W2 k hY k' => own0 k k' fun b hb => (by rcases hb with rfl | rfl | hb; omega; omega; have := hY b hb; omega), fun _ _ _ _ h => h.elim, ?_, ?_, fun _ _ h => h.elim, trivial⟩
    · intro Y i W1 _ _ _ v hv
      simp at hv
    intro Y w9 k9 hd9
    have k59 := k8.tr k9
    have K9 := k5.tr k59
    have hx9 := hx8.k k9
    have hB : w8.heap.size ∉ ds := fun hm => by have := defs_lt hds hm; omega
    have hds9 : DefsAt (w8.heap.size :: ds) w9 := ⟨List.nodup_cons.2 ⟨hB, hds.nd⟩, fun D hD => by
      rcases List.mem_cons.1 hD with rfl | hD
      · exact hd9.at_
      · exact (hds.k k59 fun _ _ => id).all D hD⟩
    refine ⟨x1, fun _ => (rp K9).1, x2, fun _ => (rp K9).2.1, Wif_no rfl ((nz_give hx9 x1 x2).mono ?_)⟩
    rintro _ wq ⟨rfl, hq⟩
    rw [hq]
    refine ⟨_, rfl, x1, fun _ => (rp K9).1, Wif_no rfl ((nz_free hx9 x1).mono ?_)⟩
    rintro _ wq ⟨rfl, hq⟩
    rw [hq]
    refine ⟨_, rfl, x1, fun _ => (rp K9).1, Wif_no rfl ((nz_state hx9 x1).mono ?_)⟩
    rintro _ wq ⟨rfl, hq⟩
    rw [hq]
    refine ⟨_, rfl, Wif_no rfl ((nz_copy hx9).mono ?_)⟩
    rintro _ wq ⟨rfl, hq⟩
    rw [hq]
    exact ⟨_, rfl, Wif_no rfl ⟨2 - (q + 1), by omega, q + 1, by rw [wi (by omega)]; rfl, by omega, rfl, K9, hds9, fun D hD => by
      rcases List.mem_cons.1 hD with rfl | hD
      · have := k5.sz; omega
      · exact hdl D hD⟩⟩
  · rintro e w' ⟨v, rfl, rfl, hw⟩
    exact ⟨rfl, hw⟩
end Go.Proofs.Ytkmcmkimeibjdaa
