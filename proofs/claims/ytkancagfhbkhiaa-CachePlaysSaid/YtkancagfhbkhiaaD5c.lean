/-
  A part of a proof that a law of this seat returns true at every input. Conditions: those in each theorem.
-/
import Derived.Test.YtkancagfhbkhiaaD4c
namespace Go.Proofs.Ytkancagfhbkhiaa
open Go Eng
set_option linter.unusedSimpArgs false
set_option linter.unusedVariables false
set_option maxRecDepth 10000

/-! ### a cache within a law -/
def setL (L : List Slb) (e : Slb) : List Slb := L.map fun x => if x.fr = e.fr then e else x
theorem setL_split {L1 L2 : List Slb} {e e' : Slb} (h : ((L1 ++ e :: L2).map (·.fr)).Pairwise (· < ·)) (he : e'.fr = e.fr) : setL (L1 ++ e :: L2) e' = L1 ++ e' :: L2 := by
  obtain ⟨f1, f2⟩ := frs_ne h
  have t1 : L1.map (fun x => if x.fr = e'.fr then e' else x) = L1 := by
    conv => rhs; rw [← List.map_id L1]
    refine List.map_congr_left fun x hx => ?_
    rw [if_neg (by rw [he]; exact f1 x hx)]; rfl
  have t2 : L2.map (fun x => if x.fr = e'.fr then e' else x) = L2 := by
    conv => rhs; rw [← List.map_id L2]
    refine List.map_congr_left fun x hx => ?_
    rw [if_neg (by rw [he]; exact f2 x hx)]; rfl
  unfold setL
  rw [List.map_append, List.map_cons, t1, t2, if_pos he.symm]
theorem setL_len (L : List Slb) (e : Slb) : (setL L e).length = L.length := List.length_map _
theorem setL_fr (L : List Slb) (e : Slb) : (setL L e).map (·.fr) = L.map (·.fr) := by
  unfold setL
  rw [List.map_map]
  refine List.map_congr_left fun x _ => ?_
  by_cases h : x.fr = e.fr
  · simp [h]
  · simp [h]
theorem mem_setL {L : List Slb} {e x : Slb} (h : x ∈ setL L e) : (x = e) ∨ (x ∈ L ∧ x.fr ≠ e.fr) := by
  obtain ⟨y, hy, rfl⟩ := List.mem_map.1 h
  by_cases h : y.fr = e.fr
  · rw [if_pos h]; exact .inl rfl
  · rw [if_neg h]; exact .inr ⟨hy, h⟩
theorem pick_mem {L : List Slb} {e : Slb} (h : pick L = some e) : e ∈ L ∧ (isPart e = true ∨ isEmp e = true) := by
  unfold pick at h
  cases h1 : L.find? isPart with
  | none =>
    rw [h1] at h
    have h : L.find? isEmp = some e := by simpa using h
    exact ⟨List.mem_of_find?_eq_some h, .inr (List.find?_some h)⟩
  | some x =>
    rw [h1] at h
    simp at h
    subst h
    exact ⟨List.mem_of_find?_eq_some h1, .inl (List.find?_some h1)⟩
structure CIs (w0 w : World) (C M z c : Nat) (L : List Slb) : Prop where
  at' : CAt w C M z c L
  fr : Kept none' w0 w
  ge : ∀ b, blk C M L b → w0.heap.size ≤ b
section
variable {w0 w w' : World} {C M z c : Nat} {L : List Slb}
theorem CIs.k (h : CIs w0 w C M z c L) (k : Kept none' w w') : CIs w0 w' C M z c L := ⟨h.at'.k k, h.fr.tr k, h.ge⟩
theorem CIs.kx {X : Nat → Prop} (h : CIs w0 w C M z c L) (k : Kept X w w') (hx : ∀ b, X b → ¬ blk C M L b) (hg : ∀ b, X b → w0.heap.size ≤ b) : CIs w0 w' C M z c L := ⟨h.at'.kx k hx, h.fr.go k fun b hb => .inr (hg b hb), h.ge⟩
theorem blk_setL {e : Slb} {s : Sl} {f : Nat → Int} (hso : (L.map (·.fr)).Pairwise (· < ·)) (he : e ∈ L) {b : Nat} : blk C M (setL L (set1 e s f)) b ↔ blk C M L b := by
  unfold blk
  constructor
  · rintro (h | h | ⟨x, hx, h⟩)
    · exact .inl h
    · exact .inr (.inl h)
    · rcases mem_setL hx with rfl | ⟨hx, _⟩
      · exact .inr (.inr ⟨e, he, h⟩)
      · exact .inr (.inr ⟨x, hx, h⟩)
  · rintro (h | h | ⟨x, hx, h⟩)
    · exact .inl h
    · exact .inr (.inl h)
    · refine .inr (.inr ?_)
      by_cases hf : x.fr = e.fr
      · refine ⟨set1 e s f, List.mem_map.2 ⟨x, hx, if_pos hf⟩, ?_⟩
        have : x = e := by
          obtain ⟨L1, L2, rfl⟩ := List.append_of_mem he
          obtain ⟨f1, f2⟩ := frs_ne hso
          rcases List.mem_append.1 hx with hx | hx
          · exact absurd hf (f1 x hx)
          · rcases List.mem_cons.1 hx with rfl | hx
            · rfl
            · exact absurd hf (f2 x hx)
        subst this
        exact h
      · exact ⟨x, List.mem_map.2 ⟨x, hx, if_neg hf⟩, h⟩
theorem CIs.set {e : Slb} {s : Sl} {f : Nat → Int} (h : CIs w0 w C M z c L) (he : e ∈ L) (k : Kept (two e.S e.B) w w') (a : CAt w' C M z c (setL L (set1 e s f))) : CIs w0 w' C M z c (setL L (set1 e s f)) ∧ Kept (blk C M L) w w' := by
  refine ⟨⟨a, h.fr.go k fun b hb => .inr (h.ge b (.inr (.inr ⟨e, he, hb⟩))), fun b hb => h.ge b ((blk_setL h.at'.so he).1 hb)⟩, k.weak fun b hb => .inl (.inr (.inr ⟨e, he, hb⟩))⟩
theorem take_cis (h : CIs w0 w C M z c L) (hl : L.length ≤ 1000) : Calls Try.prog 41 #[ptr C] w fun r w' => Kept (blk C M L) w w' ∧
    ((pick L = none ∧ r = .returned (.tuple #[.int .i64 0, .int .i64 0, .int .i64 7]) ∧ CIs w0 w' C M z c L) ∨
     ∃ (e : Slb) (k : Nat) (l : List Nat), pick L = some e ∧ e ∈ L ∧ r = .returned (.tuple #[.int .i64 e.fr, .int .i64 k, .int .i64 0]) ∧ e.s.ch = k :: l ∧ CIs w0 w' C M z c (setL L (set1 e (took e.s k l) (blanked e.f (e.s.colour + k * e.s.size) e.s.size)))) := by
  cases hp : pick L with
  | none =>
    refine (pick_none h.at' hl hp).mono ?_
    rintro _ w1 ⟨rfl, k1⟩
    exact ⟨k1.weak fun b hb => hb.elim, .inl ⟨rfl, rfl, h.k k1⟩⟩
  | some e =>
    refine (ctake_some h.at' hl hp).mono ?_
    rintro _ w2 ⟨i, rfl, w1, k1, ⟨L1, L2, e', k, l, rfl, hp', hfr, rfl, hch, k2, a2⟩⟩
    rw [hp] at hp'
    cases hp'
    have he := (pick_mem hp).1
    have k12 : Kept (two e.S e.B) w w2 := (k1.weak fun b hb => hb.elim).go k2 fun b hb => .inl hb
    rw [← setL_split (e' := set1 e (took e.s k l) (blanked e.f (e.s.colour + k * e.s.size) e.s.size)) h.at'.so rfl] at a2
    obtain ⟨h', k'⟩ := h.set he k12 a2
    exact ⟨k', .inr ⟨e, k, l, rfl, he, rfl, hch, h'⟩⟩
theorem give_cis {e : Slb} (h : CIs w0 w C M z c L) (he : e ∈ L) (i : Int) : Calls Try.prog 38 #[ptr C, .int .i64 e.fr, .int .i64 i] w fun r w' => r = .returned (.int .i64 (giveOf e.s i)) ∧ Kept (blk C M L) w w' ∧
    (if giveOf e.s i = 0 then CIs w0 w' C M z c (setL L (set1 e (gave e.s i.toNat) (upd e.f (e.s.colour + i.toNat * e.s.size) (Ytkancagfhbkhiaa.fst e.s.ch)))) else CIs w0 w' C M z c L) := by
  by_cases hg : giveOf e.s i = 0
  · obtain ⟨q, rfl, hqc, hqo, hqt⟩ := giveOf_zero hg
    obtain ⟨L1, L2, rfl⟩ := List.append_of_mem he
    refine (cgive_ok h.at' q hqc hqo hqt).mono ?_
    rintro _ w1 ⟨rfl, k1, a1⟩
    rw [← setL_split (e' := set1 e (gave e.s q) (upd e.f (e.s.colour + q * e.s.size) (Ytkancagfhbkhiaa.fst e.s.ch))) h.at'.so rfl] at a1
    obtain ⟨h', k'⟩ := h.set he k1 a1
    rw [if_pos hg, hg, Int.toNat_natCast]
    exact ⟨rfl, k', h'⟩
  · refine (cgive_no h.at' he i hg).mono ?_
    rintro _ w1 ⟨rfl, k1⟩
    rw [if_neg hg]
    exact ⟨rfl, k1.weak fun b hb => hb.elim, h.k k1⟩
theorem add_cis (h : CIs w0 w C M z c L) (fr : Int) (f0 : 0 ≤ fr) (f1 : fr ≤ 9223372036854775807) (hn : ∀ e ∈ L, e.fr ≠ fr) {w1 : World} {t : TypeId} (e1 : w1 = w.alloc (.cells (List.replicate 256 (Value.int .u8 0)).toArray t)) :
    Calls Try.prog 37 #[ptr C, .int .i64 fr, .slice (some ⟨w.heap.size, 0, none⟩) 256 256] w1 fun r w' => r = .returned (.int .i64 0) ∧ Kept (blk C M L) w w' ∧ ∃ S f, CIs w0 w' C M z (nextCol z c) (insL ⟨fr, S, w.heap.size, 256, newSl z c, f⟩ L) := by
  have k1 : Kept none' w w1 := (Kept.refl _ _).al e1
  have b1 := bytes_new e1
  have h1 := h.k k1
  refine (cadd_ok h1.at' fr f0 f1 hn b1 (Nat.le_refl _) (fun hb => by have := h.at'.lt hb; omega)).mono ?_
  rintro _ w2 ⟨rfl, k2, S, f, hS, a2, hf⟩
  have hw := h.fr.sz
  have z1 : w.heap.size ≤ w1.heap.size := k1.sz
  refine ⟨rfl, ?_, S, f, a2, h1.fr.go k2 fun b hb => .inr ?_, fun b hb => ?_⟩
  · refine (k1.weak fun b hb => hb.elim).go k2 fun b hb => ?_
    rcases hb with rfl | rfl | rfl
    · exact .inr (Nat.le_refl _)
    · exact .inl (.inl rfl)
    · exact .inl (.inr (.inl rfl))
  · rcases hb with rfl | rfl | rfl
    · exact hw
    · exact h.ge _ (.inl rfl)
    · exact h.ge _ (.inr (.inl rfl))
  · rcases hb with rfl | rfl | ⟨x, hx, hb⟩
    · exact h.ge _ (.inl rfl)
    · exact h.ge _ (.inr (.inl rfl))
    · rcases insL_mem.1 hx with rfl | hx
      · rcases hb with hb | hb
        · have : b = S := hb
          omega
        · have : b = w.heap.size := hb
          omega
      · exact h.ge _ (.inr (.inr ⟨x, hx, hb⟩))
theorem drop_cis {L1 L2 : List Slb} {e : Slb} (h : CIs w0 w C M z c (L1 ++ e :: L2)) (hx : e.s.ch.length = e.s.count) : Calls Try.prog 42 #[ptr C, .int .i64 e.fr] w fun r w' => r = .returned (.int .i64 0) ∧ Kept (blk C M (L1 ++ e :: L2)) w w' ∧ CIs w0 w' C M z c (L1 ++ L2) := by
  refine (cdrop_ok h.at' hx).mono ?_
  rintro _ w1 ⟨rfl, k1, a1⟩
  refine ⟨rfl, k1.weak fun b hb => .inl (.inr (.inl hb)), a1, h.fr.go k1 fun b hb => .inr (h.ge b (.inr (.inl hb))), fun b hb => ?_⟩
  rcases hb with rfl | rfl | ⟨x, hx, hb⟩
  · exact h.ge _ (.inl rfl)
  · exact h.ge _ (.inr (.inl rfl))
  · refine h.ge _ (.inr (.inr ⟨x, ?_, hb⟩))
    rcases List.mem_append.1 hx with hx | hx
    · simp [hx]
    · simp [hx]
theorem new_cis {w0 w : World} (k : Kept none' w0 w) (z : Nat) (hm : mayBe z 0) : Calls Try.prog 35 #[.int .i64 z] w fun r w' => ∃ C M, r = .returned (.tuple #[ptr C, .int .i64 0]) ∧ Kept none' w w' ∧ CIs w0 w' C M z 0 [] ∧ w.heap.size ≤ C ∧ w.heap.size ≤ M := by
  refine (cnew_ok z hm w).mono ?_
  rintro _ w1 ⟨C, M, rfl, k1, hC, hM, a1⟩
  have := k.sz
  refine ⟨C, M, rfl, k1, ⟨a1, k.tr k1, fun b hb => ?_⟩, hC, hM⟩
  rcases hb with rfl | rfl | ⟨x, hx, _⟩
  · omega
  · omega
  · cases hx
end
/-! ### the known case -/
theorem cknown_spec (w : World) : Calls Try.prog 36 #[] w fun e w' => e = .returned (.bool true) ∧ Kept none' w w' := by
  refine (vc36 w (fun v w' => v = .bool true ∧ Kept none' w w') ?_).mono ?_
  · unfold vcP36
    refine (new_cis (Kept.refl _ w) 128 (by decide)).mono ?_
    rintro _ w1 ⟨C, M, rfl, _, h1, _, _⟩
    refine ⟨_, _, rfl, Wif_no rfl ?_⟩
    intro w2 e2
    refine (add_cis h1 3 (by decide) (by decide) (fun e he => by cases he) e2).mono ?_
    rintro _ w3 ⟨rfl, _, S3, f3, h3⟩
    refine ⟨_, rfl, Wif_no rfl ?_⟩
    intro w4 e4
    refine (add_cis h3 5 (by decide) (by decide) (fun e he => by simp [insL] at he; subst he; show (3 : Int) ≠ 5; decide) e4).mono ?_
    rintro _ w5 ⟨rfl, _, S5, f5, h5⟩
    refine ⟨_, rfl, Wif_no rfl ?_⟩
    have hL : insL ⟨5, S5, w3.heap.size, 256, newSl 128 (nextCol 128 0), f5⟩ (insL ⟨3, S3, w1.heap.size, 256, newSl 128 0, f3⟩ []) = [⟨3, S3, w1.heap.size, 256, newSl 128 0, f3⟩, ⟨5, S5, w3.heap.size, 256, newSl 128 0, f5⟩] := by
      simp [insL, nextCol]
    rw [hL] at h5
    clear hL h3 h1 e2 e4
    generalize w1.heap.size = B3 at *
    generalize w3.heap.size = B5 at *
    have hn : (newSl 128 0).ch = [0, 1] := by decide
    have hc : (newSl 128 0).count = 2 := by decide
    refine (take_cis h5 (by simp)).mono ?_
    rintro _ w6 ⟨_, ⟨hp, _⟩ | ⟨e, k, l, hp, _, rfl, hch, h6⟩⟩
    · simp [pick, isPart, isEmp, hn, hc] at hp
    simp [pick, isPart, isEmp, hn, hc] at hp
    subst hp
    rw [hn] at hch
    cases hch
    refine ⟨_, _, _, rfl, ?_⟩
    simp only [setL, set1, List.map_cons, List.map_nil, if_true, show ((5 : Int) = 3) = False by simp, if_false] at h6
    have t1h : (took (newSl 128 0) 0 [1]).ch = [1] := rfl
    have t1c : (took (newSl 128 0) 0 [1]).count = 2 := by decide
    have t2h : (took (took (newSl 128 0) 0 [1]) 1 []).ch = [] := rfl
    have t2c : (took (took (newSl 128 0) 0 [1]) 1 []).count = 2 := by decide
    refine (take_cis h6 (by simp)).mono ?_
    rintro _ w7 ⟨_, ⟨hp, _⟩ | ⟨e, k, l, hp, _, rfl, hch, h7⟩⟩
    · simp [pick, isPart, isEmp, hn, hc, t1h, t1c] at hp
    simp [pick, isPart, isEmp, hn, hc, t1h, t1c] at hp
    subst hp
    rw [t1h] at hch
    cases hch
    refine ⟨_, _, _, rfl, ?_⟩
    simp only [setL, set1, List.map_cons, List.map_nil, if_true, show ((5 : Int) = 3) = False by simp, if_false] at h7
    refine (take_cis h7 (by simp)).mono ?_
    rintro _ w8 ⟨_, ⟨hp, _⟩ | ⟨e, k, l, hp, _, rfl, hch, h8⟩⟩
    · simp [pick, isPart, isEmp, hn, hc, t2h, t2c] at hp
    simp [pick, isPart, isEmp, hn, hc, t2h, t2c] at hp
    subst hp
    rw [hn] at hch
    cases hch
    refine ⟨_, _, _, rfl, ?_⟩
    simp only [setL, set1, List.map_cons, List.map_nil, if_true, show ((3 : Int) = 5) = False by simp, if_false] at h8
    refine Wif_yes rfl ((give_cis h8 (List.mem_cons_self ..) 1).mono ?_)
    rintro _ w9 ⟨rfl, _, h9⟩
    have hg : giveOf (took (took (newSl 128 0) 0 [1]) 1 []) 1 = 0 := by decide
    dsimp only at h9
    rw [if_pos hg] at h9
    refine ⟨_, rfl, Wif_yes (by rw [hg]; rfl) ?_⟩
    simp only [setL, set1, List.map_cons, List.map_nil, if_true, show ((5 : Int) = 3) = False by simp, if_false] at h9
    refine (cdrop_no (e := ⟨5, S5, B5, 256, took (newSl 128 0) 0 [1], _⟩) h9.at' (by simp; rfl) (show (took (newSl 128 0) 0 [1]).ch.length ≠ (took (newSl 128 0) 0 [1]).count by decide)).mono ?_
    rintro _ w10 ⟨rfl, rfl⟩
    exact ⟨_, rfl, rfl, h9.fr⟩
  · rintro e w' ⟨v, rfl, rfl, h⟩
    exact ⟨rfl, h⟩
theorem fin_cknown {w0 w : World} (k : Kept none' w0 w) : Calls Try.prog 36 #[] w fun e w' => ∃ b : Bool, e = .returned (.bool b) ∧ (Value.bool b = .bool true ∧ Kept none' w0 w') := by
  refine (cknown_spec w).mono ?_
  rintro _ w' ⟨rfl, k'⟩
  exact ⟨true, rfl, rfl, k.tr k'⟩
end Go.Proofs.Ytkancagfhbkhiaa
