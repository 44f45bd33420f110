/-
  A part of a proof that a law of this seat returns true at every input. Conditions: those in each theorem.
-/
import Derived.Test.YtklmokolnakkoaaGreatDoorBL3
import Derived.Test.YtklmokolnakkoaaGreatDoorZV2
import Derived.Maps.Range
import Derived.Maps.Keyed

namespace Go.Proofs.YtklmokolnakkoaaGreatDoor
open Go Eng
open Go.RowKit Go.Maps Go.Sort Go.Shelf
set_option linter.unusedSimpArgs false
set_option linter.unusedVariables false
set_option maxRecDepth 100000

theorem sortsA (m : Nat) : AnyZI.SortsIn Tryz.prog Tryz.sortedA_ren Fence.wide m :=
  ⟨fun blk off cap ss W hH hblk hsz => callsIn_wide.2 (AnyM.slices_Sort_int Tryz.sortA blk off cap ss W hH hblk hsz),
   fun p cap W => callsIn_wide.2 (AnyM.slices_Sort_int_none Tryz.sortA p cap W)⟩
theorem keys_call (mb : Option Nat) (w : World) : Calls Tryz.prog 215 #[.map mb] w fun e w' => e = .returned (.func (.func 234) #[] #[.pointer (some ⟨w.heap.size, 0, none⟩)]) ∧ w' = w.alloc (.cells #[.map mb] 284) := by
  refine (callsIn_wide (n := 6)).1 ?_
  exact AnyZI.keys_in Tryz.keysB Fence.wide 6 trivial rfl mb w
theorem sorted_call {w w1 : World} {b : Nat} {m : List (Int × Value)} (h : MapIs w b m) (hs : m.length ≤ 1000000) (e : w1 = w.alloc (.cells #[.map (some b)] 284)) :
    Calls Tryz.prog 76 #[.func (.func 234) #[] #[.pointer (some ⟨w.heap.size, 0, none⟩)]] w1 fun e w' => ∃ (a : Option Addr) (c : Nat) (ks : List Int), e = .returned (.slice a ks.length c) ∧ ks = (m.map (·.1)).mergeSort (fun x y => decide (x ≤ y)) ∧
      w'.ownsRow w.heap.size 3 1 (.slice a ks.length c) ks.length (ks.map (Value.int .i64)) ∧ Kept none' w w' := by
  subst e
  obtain ⟨D, hown, hperm, hsz⟩ := map_owns (P := Tryz.prog) (kt := 3) Tryz.underlying3 h (by unfold maxLen; omega)
  have hbl := h.lt
  have hseq : SeqGives Fence.wide 3 Tryz.prog 234 #[.pointer (some ⟨w.heap.size, 0, none⟩)] encZ (fun ss => ss.Perm (intKeys D)) (Maps.size D) (w.alloc (.cells #[.map (some b)] 284)) :=
    AnyZI.keys_gives (ρ := Tryz.keysB_ren) { Tryz.keysB with } Fence.wide _ trivial rfl (by omega) w.heap.size b m.length D _ (by simp) (by simp) (by
      obtain ⟨es, clock, hb, Ft, hs, hD⟩ := hown
      exact ⟨es, clock, (Below.heap_alloc _ _ b hbl).trans hb, Ft, hs, hD⟩)
  have cS := AnyZI.sorted_in Tryz.sortedA Fence.wide 6 trivial trivial trivial trivial rfl (by omega) (sortsA _) (enters_of Tryz.func131 (by kernel_rfl) rfl) 234 #[.pointer (some ⟨w.heap.size, 0, none⟩)] trivial (enters_of Tryz.func234 (by kernel_rfl) rfl) _ _ (by rw [hsz]; unfold maxLen; omega) (by rw [hsz]; omega) _ hseq
  change CallsIn _ _ Tryz.prog 76 _ _ _ at cS
  refine ((callsIn_wide (n := 6)).1 cS).mono ?_
  rintro e w' ⟨v, ss, rfl, hS, hrow, hnil, hb⟩
  have hks : ss.mergeSort (fun x y => decide (x ≤ y)) = (m.map (·.1)).mergeSort (fun x y => decide (x ≤ y)) := mergeSort_of_perm_i (hS.trans hperm)
  have hlen : ss.length = ((m.map (·.1)).mergeSort (fun x y => decide (x ≤ y))).length := by rw [← hks, List.length_mergeSort]
  rw [hks, hlen] at hrow
  have hv : ∃ a c, v = .slice a ((m.map (·.1)).mergeSort (fun x y => decide (x ≤ y))).length c := by
    rcases hrow.2 with ⟨rfl, h0⟩ | ⟨g, cap, cur, rfl, _⟩
    · exact ⟨none, 0, by rw [h0]⟩
    · exact ⟨_, _, rfl⟩
  obtain ⟨a, c, rfl⟩ := hv
  refine ⟨a, c, _, rfl, rfl, ownsRow_base_a hrow (by simp), ?_⟩
  have k1 : Kept none' w (w.alloc (.cells #[.map (some b)] 284)) := (Kept.refl _ _).alloc _ _
  exact k1.trans (X := none') (Y := none') ⟨hb.os, hb.tape, hb.output, hb.size, fun i hi _ => hb.block i hi⟩ (fun _ _ h => h)
set_option linter.unusedSimpArgs false
set_option linter.unusedVariables false
set_option maxRecDepth 100000
section
variable {w w' : World} {b t : Nat} {m : Nat → Nat} {s : Bst}
theorem pick_spec (h : BAt w b m t s) (hs : Small s) {o : Nat} (ho : o < 11) (hne : s.F o ≠ []) (high : Bool) :
    Calls Tryz.prog 188 #[ptr b, .int .i64 (o : Int), .bool high] w fun r w' => ∃ a, r = .returned (.int .i64 a) ∧ a ∈ s.F o ∧ (∀ x ∈ s.F o, if high then x ≤ a else a ≤ x) ∧ Kept none' w w' := by
  refine (vc188 _ _ _ w (fun v w' => ∃ a, v = .int .i64 a ∧ a ∈ s.F o ∧ (∀ x ∈ s.F o, if high then x ≤ a else a ≤ x) ∧ Kept none' w w') ?_).mono ?_
  · unfold vcP188
    simp only [isP_some, Wif_true, gIf_true, pb_some, po_some, Nat.zero_add]
    refine Wif_yes (inB_of (by omega) (by omega)) ⟨_, by rw [Int.toNat_natCast, Nat.mul_one]; exact h.rm ho, (keys_call _ w).mono ?_⟩
    rintro _ w1 ⟨rfl, e1⟩
    refine ⟨_, rfl, (sorted_call (h.mf o ho) (by simpa using hs o ho) e1).mono ?_⟩
    rintro _ w2 ⟨a, c, ks, rfl, hks, row, k2⟩
    refine ⟨_, _, _, rfl, ?_⟩
    have hm1 : (ent1 (s.F o)).map (·.1) = s.F o := by simp [ent1, Function.comp_def]
    rw [hm1] at hks
    have hperm : ks.Perm (s.F o) := by rw [hks]; exact List.mergeSort_perm _ _
    have hlen : ks.length = (s.F o).length := hperm.length_eq
    have hpos : 0 < ks.length := by rw [hlen]; exact List.length_pos_iff.2 hne
    have hl := hs o ho
    have hsorted : ks.Pairwise (fun x y => x ≤ y) := by
      have := List.pairwise_mergeSort (le := fun (x y : Int) => decide (x ≤ y)) (by intro a b c h1 h2; simp at *; omega) (by intro a b; simp; omega) (s.F o)
      rw [← hks] at this
      exact this.imp fun h => by simpa using h
    obtain ⟨_, hh⟩ := ownsRow_own row
    rcases hh with ⟨_, h0, _⟩ | ⟨g, cs, rfl, hg, og, htk, _, _⟩
    · omega
    have hrd : ∀ i (hi : i < ks.length), rd w2 g i = some (.int .i64 ks[i]) := fun i hi => by
      rw [og.rd]
      have : (cs.take (ks.length * 1))[i]? = some (.int .i64 ks[i]) := by rw [htk]; simp [hi]
      rw [List.getElem?_take] at this
      split at this
      · exact this
      · cases this
    cases high
    · simp only [Wif_false, isP_some, Wif_true]
      refine Wif_yes (inB_of (by omega) (by omega)) ⟨_, hrd 0 hpos, _, rfl, hperm.mem_iff.1 (List.getElem_mem _), fun x hx => ?_, k2⟩
      simp only [Bool.false_eq_true, if_false]
      obtain ⟨i, hi, rfl⟩ := List.mem_iff_getElem.1 (hperm.mem_iff.2 hx)
      rcases Nat.eq_zero_or_pos i with rfl | hp
      · exact Int.le_refl _
      · exact List.pairwise_iff_getElem.1 hsorted 0 i hpos hi hp
    · simp only [isP_some, Wif_true, pb_some, po_some]
      have ew : IntKind.wrap .i64 ((ks.length : Int) - 1) = ((ks.length - 1 : Nat) : Int) := by rw [wi (by omega)]; omega
      rw [ew]
      refine Wif_yes (inB_of (by omega) (by omega)) ⟨_, by rw [Int.toNat_natCast, Nat.mul_one, Nat.zero_add]; exact hrd _ (by omega), _, rfl, hperm.mem_iff.1 (List.getElem_mem _), fun x hx => ?_, k2⟩
      simp only [if_true]
      obtain ⟨i, hi, rfl⟩ := List.mem_iff_getElem.1 (hperm.mem_iff.2 hx)
      rcases Nat.lt_or_ge i (ks.length - 1) with hp | hp
      · exact List.pairwise_iff_getElem.1 hsorted i _ hi (by omega) hp
      · have : i = ks.length - 1 := by omega
        subst this
        exact Int.le_refl _
  · rintro e w' ⟨v, rfl, a, rfl, hw⟩
    exact ⟨a, rfl, hw⟩
end
set_option linter.unusedSimpArgs false
set_option linter.unusedVariables false
set_option maxRecDepth 100000
def TakeR (l : List Bk) (order : Int) (high : Bool) (a e : Int) (l' : List Bk) : Prop :=
  ((order < 0 ∨ 10 < order) ∧ a = 0 ∧ e = 2 ∧ l' = l) ∨
  (∃ o : Nat, order = (o : Int) ∧ o ≤ 10 ∧ (∀ x ∈ l, x.g = 0 → x.o < o) ∧ a = 0 ∧ e = 6 ∧ l' = l) ∨
  (∃ (o : Nat) (x : Bk) (r : Nat), order = (o : Int) ∧ o ≤ x.o ∧ x ∈ l ∧ x.g = 0 ∧ (∀ y ∈ l, y.g = 0 → o ≤ y.o → x.o ≤ y.o) ∧ (∀ y ∈ l, y.g = 0 → y.o = x.o → if high then y.p ≤ x.p else x.p ≤ y.p) ∧
    a = (r : Int) ∧ (if high then r + 2 ^ o = x.p + 2 ^ x.o else r = x.p) ∧ e = 0 ∧ (∀ y : Bk, y.g = 1 → (y ∈ l' ↔ y ∈ l ∨ y = ⟨r, o, 1⟩)) ∧ fsum l' + 2 ^ o = fsum l)
theorem pow10 {o : Nat} (h : o ≤ 10) : 2 ^ o ≤ 1024 := Nat.pow_le_pow_right (n := 2) (by omega) h
theorem shl1 {o : Nat} (ho : o ≤ 10) : IntKind.wrap .i64 (1 * 2 ^ min (Int.toNat (o : Int)) 64) = ((2 ^ o : Nat) : Int) := by
  have := shl_small (x := 1) (o := o) (by omega) (by omega)
  simpa using this
section
variable {w w1 w' : World} {b t : Nat} {m : Nat → Nat} {n : Nat} {l : List Bk}
theorem kbm {o : Nat} (h : Kept (bblk b m t) w w1) (ho : o < 11) (k : Kept (· = m o) w1 w') : Kept (bblk b m t) w w' := h.trans k fun x _ e => .inr (.inr ⟨o, ho, e⟩)
theorem kbt (h : Kept (bblk b m t) w w1) (k : Kept (· = t) w1 w') : Kept (bblk b m t) w w' := h.trans k fun x _ e => .inr (.inl e)
theorem take_spec (h : BAt w b m t (stOf n l)) (hi : Inv n l) (order : Int) (high : Bool) :
    Calls Tryz.prog 144 #[ptr b, .int .i64 order, .bool high] w fun r w' => ∃ a e l', r = .returned (.tuple #[.int .i64 a, .int .i64 e]) ∧ Kept (bblk b m t) w w' ∧ BAt w' b m t (stOf n l') ∧ Inv n l' ∧ TakeR l order high a e l' := by
  refine (vc144 _ _ _ w (fun v w' => ∃ a e l', v = .tuple #[.int .i64 a, .int .i64 e] ∧ Kept (bblk b m t) w w' ∧ BAt w' b m t (stOf n l') ∧ Inv n l' ∧ TakeR l order high a e l') ?_).mono ?_
  · have hs := small_st hi.tl hi.n1.2
    unfold vcP144
    simp only [isP_some, Wif_true, gIf_true, pb_some, po_some, Nat.zero_add]
    refine ⟨_, fun _ => h.r12, Wif_no rfl ?_⟩
    refine Wif_intro (fun hc => ?_) (fun hc => ?_)
    · simp at hc
      exact ⟨_, _, l, rfl, Kept.refl _ _, h, hi, .inl ⟨by omega, rfl, rfl, rfl⟩⟩
    simp at hc
    obtain ⟨o, rfl⟩ : ∃ o : Nat, order = (o : Int) := ⟨order.toNat, by omega⟩
    have ho10 : o ≤ 10 := by omega
    refine ⟨fun k w' N => w' = w ∧ ∃ q : Nat, k = q ∧ q ≤ 11 ∧ N = 11 - q ∧ o ≤ q ∧ ∀ j, o ≤ j → j < q → fr j l = [], ⟨11 - o, rfl, o, rfl, by omega, rfl, Nat.le_refl _, fun j h1 h2 => by omega⟩, ?_⟩
    rintro _ w1 _ ⟨rfl, q, rfl, hq, rfl, hoq, hem⟩
    refine gIf_intro (fun hc => by simp at hc; exact inB_of (by omega) (by omega)) ?_
    refine ⟨some (m q), fun hc => ?_, ((fr q l).length : Int), fun hc => ?_, ?_⟩
    · simp at hc
      rw [Int.toNat_natCast, Nat.mul_one]
      exact h.rm (by omega)
    · simp at hc
      exact h.len hs (by omega)
    refine Wif_intro (fun hc => ?_) (fun hc => ?_)
    · simp only [Bool.and_eq_true, decide_eq_true_eq, beq_iff_eq] at hc
      refine ⟨11 - (q + 1), by omega, rfl, q + 1, by rw [wi (by omega)]; rfl, by omega, rfl, by omega, fun j h1 h2 => ?_⟩
      rcases Nat.lt_or_ge j q with hlt | hge
      · exact hem j h1 hlt
      · have : j = q := by omega
        subst this
        exact List.length_eq_zero_iff.1 (by omega)
    refine Wif_intro (fun hc2 => ?_) (fun hc2 => ?_)
    · simp only [decide_eq_true_eq] at hc2
      refine ⟨_, _, l, rfl, Kept.refl _ _, h, hi, .inr (.inl ⟨o, rfl, ho10, fun x hx hg => ?_, rfl, rfl, rfl⟩)⟩
      refine Nat.lt_of_not_le fun hle => ?_
      have hx10 := (tile_mem hi.tl hx).2.2.2
      have := hem x.o hle (by omega)
      have h2 := (fr_pos (j := x.o) (l := l)).2 ⟨x, hx, hg, rfl⟩
      rw [this] at h2
      simp at h2
    have hq10 : q ≤ 10 := by simp at hc2; omega
    have hne : fr q l ≠ [] := by
      intro e
      rw [e] at hc
      simp at hc
      omega
    refine (pick_spec h hs (o := q) (by omega) hne high).mono ?_
    rintro _ w2 ⟨a, rfl, ham, hext, k2⟩
    refine ⟨_, rfl, ?_⟩
    have h2 := h.k k2
    obtain ⟨⟨xp, xo, xg⟩, hx, gx, ox, rfl⟩ := mem_fr.1 ham
    dsimp only at gx ox
    subst gx ox
    obtain ⟨A, B, rfl⟩ := List.append_of_mem hx
    refine Wif_yes (inB_of (by omega) (by omega)) ⟨_, by rw [Int.toNat_natCast, Nat.mul_one]; exact h2.rm (by omega), ?_⟩
    obtain ⟨w3, hd, k3, h3⟩ := h2.hold hi.tl
    refine ⟨w3, hd, ?_⟩
    have m3 : Mid n A ⟨xp, xo, 2⟩ B := hi.mid rfl rfl
    have K3 : Kept (bblk b m t) w1 w3 := kbm (k2.mono fun _ _ h => h.elim) (by omega) k3
    refine ⟨fun k at' w' N => ∃ (A' B' : List Bk) (kk aa : Nat), k = kk ∧ at' = aa ∧ N = kk - o ∧ o ≤ kk ∧ kk ≤ xo ∧ Mid n A' ⟨aa, kk, 2⟩ B' ∧ BAt w' b m t (stOf n (A' ++ ⟨aa, kk, 2⟩ :: B')) ∧ Kept (bblk b m t) w1 w' ∧
        (if high then aa + 2 ^ kk = xp + 2 ^ xo else aa = xp) ∧ (∀ y : Bk, y.g = 1 → (y ∈ A' ++ B' ↔ y ∈ A ++ B)) ∧ fsum (A' ++ B') + 2 ^ kk = fsum (A ++ B) + 2 ^ xo,
      ⟨xo - o, A, B, xo, xp, rfl, rfl, rfl, hoq, Nat.le_refl _, m3, h3, K3, by cases high <;> simp, fun y _ => Iff.rfl, rfl⟩, ?_⟩
    rintro _ _ w4 _ ⟨A', B', kk, aa, rfl, rfl, rfl, hok, hkx, m4, h4, K4, hform, hset, hsum⟩
    have hnum := m4.num
    dsimp only at hnum
    have hn128 := hi.n1.2
    refine Wif_intro (fun hc3 => ?_) (fun hc3 => ?_)
    · simp only [decide_eq_true_eq] at hc3
      obtain ⟨k1, rfl⟩ : ∃ k1, kk = k1 + 1 := ⟨kk - 1, by omega⟩
      have ew : IntKind.wrap .i64 (((k1 + 1 : Nat) : Int) - 1) = (k1 : Int) := by rw [wi (by omega)]; omega
      rw [ew]
      have e2 : 2 ^ (k1 + 1) = 2 ^ k1 + 2 ^ k1 := by rw [Nat.pow_succ]; omega
      have hp := p2 k1
      rw [shl1 (by omega)]
      have ea : IntKind.wrap .i64 ((aa : Int) + ((2 ^ k1 : Nat) : Int)) = ((aa + 2 ^ k1 : Nat) : Int) := by rw [wi (by omega)]; omega
      rw [ea]
      refine Wif_intro (fun hh => ?_) (fun hh => ?_)
      · subst hh
        refine Wif_yes (inB_of (by omega) (by omega)) ⟨_, by rw [Int.toNat_natCast, Nat.mul_one]; exact h4.rm (by omega), ?_⟩
        obtain ⟨w5, hu, k5, h5⟩ := h4.hi m4.tl hn128
        refine ⟨w5, hu, Wif_yes (by simp) ⟨k1 - o, by omega, _, _, k1, aa + 2 ^ k1, rfl, rfl, rfl, by omega, by omega, m4.hi, h5, kbm K4 (by omega) k5, ?_, fun y hy => ?_, ?_⟩⟩
        · simp only [if_true] at hform ⊢; omega
        · rw [← hset y hy]
          simp only [List.mem_append, List.mem_cons, List.not_mem_nil, or_false]
          constructor
          · rintro ((h | rfl) | h)
            · exact .inl h
            · cases hy
            · exact .inr h
          · rintro (h | h)
            · exact .inl (.inl h)
            · exact .inr h
        · rw [← hsum]; simp only [fsum_app, fsum_cons, fsum]; simp; omega
      · subst hh
        intro w5 e5
        have h4' := h4.k ((Kept.refl _ _).dr e5)
        refine Wif_yes (inB_of (by omega) (by omega)) ⟨_, by rw [Int.toNat_natCast, Nat.mul_one]; exact h4'.rm (by omega), Wif_yes (by simp) ?_⟩
        obtain ⟨w6, hu, k6, h6⟩ := h4'.lo m4.tl hn128
        refine ⟨w6, hu, k1 - o, by omega, _, _, k1, aa, rfl, rfl, rfl, by omega, by omega, m4.lo, h6, kbm (K4.dr e5) (by omega) k6, ?_, fun y hy => ?_, ?_⟩
        · simp at hform ⊢; exact hform
        · rw [← hset y hy]
          simp only [List.mem_append, List.mem_cons, List.not_mem_nil, or_false]
          constructor
          · rintro (h | rfl | h)
            · exact .inl h
            · cases hy
            · exact .inr h
          · rintro (h | h)
            · exact .inl h
            · exact .inr (.inr h)
        · rw [← hsum]; simp only [fsum_app, fsum_cons, fsum]; simp; omega
    · have hkk : kk = o := by simp at hc3; omega
      subst hkk
      refine ⟨_, h4.r12, ?_⟩
      obtain ⟨w5, hu, k5, h5⟩ := h4.take m4.tl hn128
      refine ⟨w5, hu, _, _, _, rfl, kbt K4 k5, h5, m4.take, .inr (.inr ⟨kk, ⟨xp, xo, 0⟩, aa, rfl, hoq, hx, rfl, fun y hy gy oy => ?_, fun y hy gy oy => ?_, rfl, hform, rfl, fun y hy => ?_, ?_⟩)⟩
      · refine Nat.le_of_not_lt fun hlt => ?_
        have := hem y.o oy hlt
        have h2 := (fr_pos (j := y.o)).2 ⟨y, hy, gy, rfl⟩
        rw [this] at h2
        simp at h2
      · have := hext y.p (mem_fr.2 ⟨y, hy, gy, oy, rfl⟩)
        cases high <;> simp at this ⊢ <;> omega
      · have := hset y hy
        simp only [List.mem_append, List.mem_cons] at this ⊢
        constructor
        · rintro (h | rfl | h)
          · rcases this.1 (.inl h) with h | h
            · exact .inl (.inl h)
            · exact .inl (.inr (.inr h))
          · exact .inr rfl
          · rcases this.1 (.inr h) with h | h
            · exact .inl (.inl h)
            · exact .inl (.inr (.inr h))
        · rintro ((h | rfl | h) | rfl)
          · rcases this.2 (.inl h) with h | h
            · exact .inl h
            · exact .inr (.inr h)
          · cases hy
          · rcases this.2 (.inr h) with h | h
            · exact .inl h
            · exact .inr (.inr h)
          · exact .inr (.inl rfl)
      · simp only [fsum_app, fsum_cons] at hsum ⊢
        simp
        omega
  · rintro e w' ⟨v, rfl, a, e, l', rfl, hw⟩
    exact ⟨a, e, l', rfl, hw⟩
end
set_option linter.unusedSimpArgs false
set_option linter.unusedVariables false
set_option maxRecDepth 100000
def GiveR (l : List Bk) (a order e : Int) (l' : List Bk) : Prop :=
  ((a, order) ∉ tk l ∧ e = 2 ∧ l' = l) ∨
  (∃ x ∈ l, x.g = 1 ∧ a = (x.p : Int) ∧ order = (x.o : Int) ∧ e = 0 ∧ (∀ y : Bk, y.g = 1 → (y ∈ l' ↔ y ∈ l ∧ y ≠ x)) ∧ fsum l' = fsum l + 2 ^ x.o)
theorem q_of {a o : Nat} (h : a % 2 ^ o = 0) : a = a / 2 ^ o * 2 ^ o := by
  have e := Nat.div_add_mod a (2 ^ o)
  rw [h, Nat.add_zero, Nat.mul_comm] at e
  exact e.symm
theorem bud_xor {a o : Nat} (h : a % 2 ^ o = 0) (ha : a ≤ 1000000) (ho : o ≤ 10) : bitsI .xor .i64 (a : Int) ((2 ^ o : Nat) : Int) = ((bud a o : Nat) : Int) := by
  have := pow10 ho
  rw [xor_nat (by omega) (by omega)]
  congr 1
  have hq := q_of h
  unfold bud
  generalize a / 2 ^ o = q at *
  subst hq
  rw [xor_pow]
  split
  · rw [Nat.add_mul, Nat.one_mul]
  · rw [Nat.sub_mul, Nat.one_mul]
theorem bud_not {a o : Nat} (h : a % 2 ^ o = 0) (ha : a ≤ 1000000) (ho : o ≤ 10) : bitsI .andNot .i64 (a : Int) ((2 ^ o : Nat) : Int) = ((if a / 2 ^ o % 2 = 0 then a else a - 2 ^ o : Nat) : Int) := by
  have := pow10 ho
  rw [andNot_nat (by omega) (by omega)]
  congr 1
  have hq := q_of h
  generalize a / 2 ^ o = q at *
  subst hq
  rw [andNot_pow]
  split <;> rename_i hc
  · rw [hc, Nat.sub_zero]
  · rw [show q % 2 = 1 by omega, Nat.sub_mul, Nat.one_mul]
theorem look_ent1 (l : List Int) (k : Int) : ((ent1 l).lookup k).getD (.bool false) = .bool (decide (k ∈ l)) := by
  cases h : (ent1 l).lookup k with
  | none =>
    have : k ∉ l := fun hm => by
      induction l with
      | nil => cases hm
      | cons x l ih =>
        simp only [ent1, List.map_cons, List.lookup_cons] at h
        by_cases e : k = x
        · subst e; simp at h
        · rw [show (k == x) = false by simpa using e] at h
          rcases List.mem_cons.1 hm with rfl | hm
          · exact e rfl
          · exact ih h hm
    simp [this]
  | some v =>
    obtain ⟨x, hx, e⟩ := List.mem_map.1 (mem_of_lookup h)
    cases e
    simp [hx]
theorem look_entT (l : List (Int × Int)) (k : Int) : (∃ j, (k, j) ∈ l ∧ (entT l).lookup k = some (.int .i64 j)) ∨ ((∀ j, (k, j) ∉ l) ∧ (entT l).lookup k = none) := by
  cases h : (entT l).lookup k with
  | none =>
    refine .inr ⟨fun j hm => ?_, rfl⟩
    induction l with
    | nil => cases hm
    | cons x l ih =>
      simp only [entT, List.map_cons, List.lookup_cons] at h
      by_cases e : k = x.1
      · subst e; simp at h
      · rw [show (k == x.1) = false by simpa using e] at h
        rcases List.mem_cons.1 hm with rfl | hm
        · exact e rfl
        · exact ih h hm
  | some v =>
    obtain ⟨⟨x, y⟩, hx, e⟩ := List.mem_map.1 (mem_of_lookup h)
    cases e
    exact .inl ⟨y, hx, rfl⟩
section
variable {w w1 w' : World} {b t : Nat} {m : Nat → Nat} {n : Nat} {l : List Bk}
theorem zero4 (w : World) : (zeroValue 4).run Tryz.prog w = .ok (.bool false) w := Tryz.zeroValue4 w
theorem zero3 (w : World) : (zeroValue 3).run Tryz.prog w = .ok (.int .i64 0) w := Tryz.zeroValue3 w
theorem give_spec (h : BAt w b m t (stOf n l)) (hi : Inv n l) (a order : Int) :
    Calls Tryz.prog 163 #[ptr b, .int .i64 a, .int .i64 order] w fun r w' => ∃ e l', r = .returned (.int .i64 e) ∧ Kept (bblk b m t) w w' ∧ BAt w' b m t (stOf n l') ∧ Inv n l' ∧ GiveR l a order e l' := by
  refine (vc163 _ _ _ w (fun v w' => ∃ e l', v = .int .i64 e ∧ Kept (bblk b m t) w w' ∧ BAt w' b m t (stOf n l') ∧ Inv n l' ∧ GiveR l a order e l') ?_).mono ?_
  · have hn128 := hi.n1.2
    unfold vcP163
    simp only [isP_some, Wif_true, gIf_true, pb_some, po_some, Nat.zero_add]
    refine ⟨_, fun _ => h.r12, Wif_no rfl ⟨_, h.r12, ?_⟩⟩
    have hlk := look2 (mt := 101) (vt := 3) (kt := 3) Tryz.underlying101 Tryz.underlying3 h.mt a (zero3 w)
    rcases look_entT (tk l) a with ⟨j, hj, e⟩ | ⟨hj, e⟩
    rotate_left
    · have e' : (entT (stOf n l).T).lookup a = none := e
      rw [e'] at hlk
      refine ⟨0, false, hlk, Wif_yes (by simp) ⟨_, l, rfl, Kept.refl _ _, h, hi, .inl ⟨hj _, rfl, rfl⟩⟩⟩
    have e' : (entT (stOf n l).T).lookup a = some (.int .i64 j) := e
    rw [e'] at hlk
    refine ⟨j, true, hlk, Wif_intro (fun hc => ?_) (fun hc => ?_)⟩
    · simp at hc
      refine ⟨_, l, rfl, Kept.refl _ _, h, hi, .inl ⟨fun hm => ?_, rfl, rfl⟩⟩
      obtain ⟨x, hx, gx, px, ox⟩ := mem_tk.1 hj
      obtain ⟨y, hy, gy, py, oy⟩ := mem_tk.1 hm
      have := tile_start hi.tl hx hy (by omega)
      subst this
      omega
    simp at hc
    subst hc
    obtain ⟨⟨xp, xo, xg⟩, hx, gx, px, ox⟩ := mem_tk.1 hj
    dsimp only at gx px ox
    subst gx px ox
    obtain ⟨A, B, rfl⟩ := List.append_of_mem hx
    refine ⟨_, h.r12, ?_⟩
    obtain ⟨w2, hd, k2, h2⟩ := h.give hi.tl
    refine ⟨w2, hd, ?_⟩
    have m2 : Mid n A ⟨xp, xo, 2⟩ B := hi.mid rfl rfl
    refine ⟨fun at' k w' N => ∃ (A' B' : List Bk) (kk aa : Nat), k = kk ∧ at' = aa ∧ N = 10 - kk ∧ kk ≤ 10 ∧ Mid n A' ⟨aa, kk, 2⟩ B' ∧ BAt w' b m t (stOf n (A' ++ ⟨aa, kk, 2⟩ :: B')) ∧ Kept (bblk b m t) w w' ∧
        (∀ y : Bk, y.g = 1 → (y ∈ A' ++ B' ↔ y ∈ A ++ B)) ∧ fsum (A' ++ B') + 2 ^ kk = fsum (A ++ B) + 2 ^ xo,
      ⟨10 - xo, A, B, xo, xp, rfl, rfl, rfl, by have := m2.num; dsimp only at this; omega, m2, h2, kbt (Kept.refl _ _) k2, fun y _ => Iff.rfl, rfl⟩, ?_⟩
    rintro _ _ w3 _ ⟨A', B', kk, aa, rfl, rfl, rfl, hk10, m3, h3, K3, hset, hsum⟩ w4 e4
    have hnum := m3.num
    dsimp only at hnum
    have h4 := h3.k ((Kept.refl _ _).dr e4)
    have K4 := K3.dr e4
    refine gIf_intro (fun hc => by simp at hc; exact inB_of (by omega) (by omega)) ?_
    refine ⟨some (m kk), fun hc => by rw [Int.toNat_natCast, Nat.mul_one]; exact h4.rm (by omega), ?_⟩
    refine gIf_intro (fun hc => by simp) ?_
    rw [shl1 hk10, bud_xor hnum.2.2 (by omega) hk10]
    have hfr : fr kk (A' ++ ⟨aa, kk, 2⟩ :: B') = fr kk (A' ++ B') := by simp only [fr_app, fr_cons]; simp
    have hlk := look1 (mt := 284) (vt := 4) (kt := 3) Tryz.underlying284 Tryz.underlying3 (h4.mf kk (by omega)) ((bud aa kk : Nat) : Int) (zero4 w4)
    rw [look_ent1] at hlk
    have ef : (stOf n (A' ++ ⟨aa, kk, 2⟩ :: B')).F kk = fr kk (A' ++ B') := hfr
    rw [ef] at hlk
    refine ⟨_, fun _ => hlk, Wif_intro (fun hc => ?_) (fun hc => ?_)⟩
    · simp only [Bool.and_eq_true, decide_eq_true_eq] at hc
      obtain ⟨hc1, hc2⟩ := hc
      have hk1 : kk < 10 := by omega
      intro w5 e5
      have h5 := h4.k ((Kept.refl _ _).dr e5)
      have K5 := K4.dr e5
      refine Wif_yes (inB_of (by omega) (by omega)) ⟨_, by rw [Int.toNat_natCast, Nat.mul_one]; exact h5.rm (by omega), Wif_yes (by simp) ?_⟩
      rw [bud_not hnum.2.2 (by omega) hk10]
      have e2 : 2 ^ (kk + 1) = 2 ^ kk + 2 ^ kk := by rw [Nat.pow_succ]; omega
      rcases m3.one (g' := 2) hk1 hc2 with ⟨hev, B1, rfl, m6⟩ | ⟨hod, A1, rfl, hle, m6⟩
      · rw [if_pos hev]
        have eb : bud aa kk = aa + 2 ^ kk := by unfold bud; rw [if_pos hev]
        rw [eb]
        obtain ⟨w6, hd6, k6, h6⟩ := h5.oneL hk1 m6.tl
        refine ⟨w6, hd6, Wif_yes (by simp) ⟨10 - (kk + 1), by omega, A', B1, kk + 1, aa, by rw [wi (by omega)]; rfl, rfl, rfl, by omega, m6, h6, kbm K5 (by omega) k6, fun y hy => ?_, ?_⟩⟩
        · rw [← hset y hy]
          simp only [List.mem_append, List.mem_cons]
          constructor
          · rintro (h | h)
            · exact .inl h
            · exact .inr (.inr h)
          · rintro (h | rfl | h)
            · exact .inl h
            · cases hy
            · exact .inr h
        · simp only [fsum_app, fsum_cons] at hsum ⊢
          simp at hsum
          omega
      · rw [if_neg (by omega)]
        have eb : bud aa kk = aa - 2 ^ kk := by unfold bud; rw [if_neg (by omega)]
        rw [eb]
        obtain ⟨w6, hd6, k6, h6⟩ := h5.oneU hk1 m6.tl
        refine ⟨w6, hd6, Wif_yes (by simp) ⟨10 - (kk + 1), by omega, A1, B', kk + 1, aa - 2 ^ kk, by rw [wi (by omega)]; rfl, rfl, rfl, by omega, m6, h6, kbm K5 (by omega) k6, fun y hy => ?_, ?_⟩⟩
        · rw [← hset y hy]
          simp only [List.mem_append, List.mem_cons, List.not_mem_nil, or_false]
          constructor
          · rintro (h | h)
            · exact .inl (.inl h)
            · exact .inr h
          · rintro ((h | rfl) | h)
            · exact .inl h
            · cases hy
            · exact .inr h
        · simp only [fsum_app, fsum_cons, fsum] at hsum ⊢
          simp at hsum
          omega
    · refine Wif_yes (inB_of (by omega) (by omega)) ⟨_, by rw [Int.toNat_natCast, Nat.mul_one]; exact h4.rm (by omega), ?_⟩
      obtain ⟨w5, hu, k5, h5⟩ := h4.free m3.tl hn128
      refine ⟨w5, hu, _, _, rfl, kbm K4 (by omega) k5, h5, m3.free fun hlt hm => ?_, .inr ⟨⟨xp, xo, 1⟩, hx, rfl, rfl, rfl, rfl, fun y hy => ?_, ?_⟩⟩
      · simp [hm] at hc; omega
      · have hs := hset y hy
        have hsep := sep_ne hi.tl (k := xp) (Nat.le_refl _) (by have := p2 xo; dsimp only; omega)
        simp only [List.mem_append, List.mem_cons] at hs ⊢
        constructor
        · intro hm
          have hm' : y ∈ A ∨ y ∈ B := by
            rcases hm with h | rfl | h
            · exact hs.1 (.inl h)
            · cases hy
            · exact hs.1 (.inr h)
          refine ⟨by rcases hm' with h | h <;> simp [h], fun e => ?_⟩
          subst e
          rcases hm' with h | h
          · exact hsep.1 _ h rfl
          · exact hsep.2 _ h rfl
        · rintro ⟨hm, hne⟩
          have hm' : y ∈ A ∨ y ∈ B := by
            rcases hm with h | h | h
            · exact .inl h
            · exact absurd h hne
            · exact .inr h
          rcases hs.2 hm' with h | h
          · exact .inl h
          · exact .inr (.inr h)
      · simp only [fsum_app, fsum_cons] at hsum ⊢
        simp
        omega
  · rintro e w' ⟨v, rfl, e, l', rfl, hw⟩
    exact ⟨e, l', rfl, hw⟩
end
set_option linter.unusedSimpArgs false
set_option linter.unusedVariables false
set_option maxRecDepth 100000
def Mx (n : Nat) (x : Bk) : Prop := x.o = 10 ∨ x.p % 2 ^ (x.o + 1) ≠ 0 ∨ n < x.p + 2 ^ (x.o + 1)
theorem inv_new {n : Nat} {l : List Bk} (hn : 1 ≤ n ∧ n ≤ 128) (ht : Tile 0 l n) (hg : ∀ x ∈ l, x.g = 0) (hm : ∀ x ∈ l, Mx n x) : Inv n l := by
  refine ⟨hn, ht, fun x hx y hy gx gy eo lt ep em => ?_, fun x hx => .inl (hg x hx)⟩
  have h1 := (tile_mem ht hy).2.1
  have e2 : 2 ^ (x.o + 1) = 2 ^ x.o + 2 ^ x.o := by rw [Nat.pow_succ]; omega
  rw [← eo] at h1
  rcases hm x hx with h | h | h <;> omega
theorem mask_mod (x o : Nat) : x &&& (2 ^ o - 1) = x % 2 ^ o := Nat.and_two_pow_sub_one_eq_mod x o
theorem new_spec (w : World) (n : Int) : Calls Tryz.prog 118 #[.int .i64 n] w fun r w' =>
    ((n < 1 ∨ 128 < n) ∧ r = .returned (.tuple #[.pointer none, .int .i64 2]) ∧ w' = w) ∨
    ∃ (N : Nat) (b : Nat) (m : Nat → Nat) (t : Nat) (l : List Bk), n = (N : Int) ∧ r = .returned (.tuple #[ptr b, .int .i64 0]) ∧ Kept none' w w' ∧ BAt w' b m t (stOf N l) ∧ Inv N l ∧ (∀ x ∈ l, x.g = 0) ∧ ∀ x, bblk b m t x → w.heap.size ≤ x := by
  refine (vc118 _ w (fun v w' => ((n < 1 ∨ 128 < n) ∧ v = (.tuple #[.pointer none, .int .i64 2]) ∧ w' = w) ∨
    ∃ (N : Nat) (b : Nat) (m : Nat → Nat) (t : Nat) (l : List Bk), n = (N : Int) ∧ v = (.tuple #[ptr b, .int .i64 0]) ∧ Kept none' w w' ∧ BAt w' b m t (stOf N l) ∧ Inv N l ∧ (∀ x ∈ l, x.g = 0) ∧ ∀ x, bblk b m t x → w.heap.size ≤ x) ?_).mono ?_
  · unfold vcP118
    refine Wif_intro (fun hc => ?_) (fun hc => ?_)
    · simp at hc
      exact .inl ⟨by omega, rfl, rfl⟩
    simp at hc
    obtain ⟨N, rfl⟩ : ∃ N : Nat, n = (N : Int) := ⟨n.toNat, by omega⟩
    have hN : 1 ≤ N ∧ N ≤ 128 := by omega
    intro w1 e1
    have k1 : Kept none' w w1 := e1 ▸ (Kept.refl _ _).allocMap _ _
    have mt1 := map_new e1
    intro w2 e2
    have o2 := own_alloc (c := [Value.int .i64 (N : Int)] ++ (List.replicate 11 (.map none) ++ [.map (some w.heap.size)])) e2
    have k2 : Kept none' w w2 := k1.al e2
    have mt2 := mt1.al e2
    have z1 : w1.heap.size = w.heap.size + 1 := by rw [e1]; simp only [World.alloc, Array.size_push]
    generalize ht : w.heap.size = t at *
    generalize hb' : w1.heap.size = b' at *
    have z2 : w2.heap.size = b' + 1 := by rw [e2, ← hb']; simp only [World.alloc, Array.size_push]
    refine ⟨fun k w' M => ∃ (q : Nat) (m' : Nat → Nat), k = q ∧ q ≤ 11 ∧ M = 11 - q ∧ Kept none' w w' ∧ own w' b' (brawN (N : Int) m' t q) ∧ MapIs w' t [] ∧ (∀ o, o < q → MapIs w' (m' o) [] ∧ b' < m' o) ∧ (∀ o o', o < q → o' < q → o ≠ o' → m' o ≠ m' o'),
      ⟨11, 0, fun _ => 0, rfl, by omega, rfl, k2, by rw [brawN_0]; exact o2, mt2, fun o ho => by omega, fun o o' ho => by omega⟩, ?_⟩
    rintro k w4 _ ⟨q, m', rfl, hq, rfl, k4, o4, mt4, mf4, dm4⟩
    refine Wif_intro (fun hc2 => ?_) (fun hc2 => ?_)
    · have hq0 : q < 11 := by simp at hc2; omega
      intro w5 e5
      have m5 := map_new e5
      have k45 : Kept none' w4 w5 := e5 ▸ (Kept.refl _ _).allocMap _ _
      have o5 := o4.al e5
      have z4 := k4.sz
      have ob4 := o4.lt
      refine Wif_yes (inB_of (by omega) (by omega)) ⟨by rw [Int.toNat_natCast, Nat.mul_one]; exact o5.wr (by rw [brawN_len]; omega), ?_⟩
      intro w7 e7
      rw [Int.toNat_natCast, Nat.mul_one] at e7
      have o7 := o5.s1 e7
      rw [brawN_set _ _ _ hq0] at o7
      have k57 : Kept (· = b') w5 w7 := (Kept.refl _ _).s1 e7 (.inl rfl)
      have hm4 : ∀ o, o < q → m' o < w4.heap.size := fun o ho => (mf4 o ho).1.lt
      refine ⟨11 - (q + 1), by omega, q + 1, upd m' q w4.heap.size, by rw [wi (by omega)]; rfl, by omega, rfl, (k4.tr k45).s1 e7 (.inr (by omega)), o7, (mt4.k k45).kx k57 (by omega), fun o ho => ?_, fun o o' ho ho' hne => ?_⟩
      · by_cases hoq : o = q
        · subst hoq
          rw [upd_same]
          exact ⟨m5.kx k57 (by omega), by omega⟩
        · rw [upd_ne _ _ hoq]
          have := mf4 o (by omega)
          exact ⟨(this.1.k k45).kx k57 (by omega), this.2⟩
      · by_cases hoq : o = q
        · subst hoq
          rw [upd_same, upd_ne _ _ (Ne.symm hne)]
          have := hm4 o' (by omega)
          omega
        · rw [upd_ne _ _ hoq]
          by_cases hoq' : o' = q
          · subst hoq'
            rw [upd_same]
            have := hm4 o (by omega)
            omega
          · rw [upd_ne _ _ hoq']
            exact dm4 o o' (by omega) (by omega) hne
    have hq0 : q = 11 := by simp at hc2; omega
    subst hq0
    rw [brawN_11] at o4
    have hB : BAt w4 b' m' t (stOf N []) := ⟨o4, fun o ho => (mf4 o ho).1, mt4, fun o o' ho ho' hne => dm4 o o' ho ho' hne, fun o ho => ⟨by have := (mf4 o ho).2; omega, by have := (mf4 o ho).2; omega⟩, by omega⟩
    have hfresh : ∀ x, bblk b' m' t x → t ≤ x := fun x hx => by
      rcases hx with rfl | rfl | ⟨o, ho, rfl⟩
      · omega
      · omega
      · have := (mf4 o ho).2; omega
    refine ⟨fun at' w' M => ∃ (a : Nat) (L : List Bk), at' = a ∧ a ≤ N ∧ M = N - a ∧ Kept none' w w' ∧ BAt w' b' m' t (stOf N L) ∧ Tile 0 L a ∧ (∀ x ∈ L, x.g = 0) ∧ (∀ x ∈ L, Mx N x),
      ⟨N, 0, [], rfl, by omega, rfl, k4, hB, rfl, fun x hx => (by cases hx), fun x hx => (by cases hx)⟩, ?_⟩
    rintro _ w5 _ ⟨a, L, rfl, ha, rfl, k5, h5, t5, g5, x5⟩
    refine Wif_intro (fun hc3 => ?_) (fun hc3 => ?_)
    · simp at hc3
      refine ⟨fun o w' M => ∃ q : Nat, o = q ∧ q ≤ 10 ∧ w' = w5 ∧ M = 10 - q ∧ a % 2 ^ q = 0 ∧ a + 2 ^ q ≤ N, ⟨10, 0, rfl, by omega, rfl, rfl, Nat.mod_one _, by simp; omega⟩, ?_⟩
      rintro _ _ _ ⟨q, rfl, hq, rfl, rfl, hmod, hfit⟩
      have ew : IntKind.wrap .i64 ((q : Int) + 1) = ((q + 1 : Nat) : Int) := by rw [wi (by omega)]; rfl
      rw [ew]
      refine gIf_intro (fun _ => by simp; omega) ?_
      refine gIf_intro (fun _ => by simp; omega) ?_
      refine Wif_intro (fun hc4 => ?_) (fun hc4 => ?_)
      · simp only [Bool.and_eq_true, decide_eq_true_eq, beq_iff_eq] at hc4
        obtain ⟨⟨c1, c2⟩, c3⟩ := hc4
        have hp := pow10 (o := q + 1) (by omega)
        have hp0 := p2 (q + 1)
        rw [shl1 (by omega), show ((2 ^ (q + 1) : Nat) : Int) - 1 = ((2 ^ (q + 1) - 1 : Nat) : Int) by omega, wi (by omega), and_nat (by omega) (by omega), mask_mod] at c2
        rw [shl1 (by omega), wi (by omega)] at c3
        exact ⟨10 - (q + 1), by omega, q + 1, rfl, by omega, rfl, rfl, by omega, by omega⟩
      · have hmx : Mx N ⟨a, q, 0⟩ := by
          rcases Nat.lt_or_ge q 10 with hlt | hge
          · have hp := pow10 (o := q + 1) (by omega)
            have hp0 := p2 (q + 1)
            rw [shl1 (by omega), show ((2 ^ (q + 1) : Nat) : Int) - 1 = ((2 ^ (q + 1) - 1 : Nat) : Int) by omega, wi (x := ((2 ^ (q + 1) - 1 : Nat) : Int)) (by omega), and_nat (by omega) (by omega), mask_mod, wi (by omega)] at hc4
            by_cases hz : a % 2 ^ (q + 1) = 0
            · refine .inr (.inr (Nat.lt_of_not_le fun hle => ?_))
              dsimp only at hle
              rw [hz, decide_eq_true (show (q : Int) < 10 by omega), decide_eq_true (show (a : Int) + ((2 ^ (q + 1) : Nat) : Int) ≤ (N : Int) by omega)] at hc4
              simp at hc4
            · exact .inr (.inl hz)
          · exact .inl (by dsimp only; omega)
        refine Wif_yes (inB_of (by omega) (by omega)) ⟨_, by rw [Int.toNat_natCast, Nat.mul_one]; exact h5.rm (o := q) (by omega), ?_⟩
        have hp := pow10 (o := q) (by omega)
        have hp0 := p2 q
        obtain ⟨w6, hu, k6, h6⟩ := h5.ins (l' := L ++ [⟨a, q, 0⟩]) (o := q) (by omega) (a := a) (fun hm => by
          obtain ⟨y, hy, _, _, e⟩ := mem_fr.1 hm
          have := (tile_mem t5 hy).2.1
          have := p2 y.o
          omega) (by omega) (by simp only [fr_app, fr_cons]; simp) (fun j _ hj => by simp only [fr_app, fr_cons]; simp [Ne.symm hj]) (by simp [tk_app, tk_cons])
        refine ⟨w6, hu, Wif_yes (by simp) ⟨N - (a + 2 ^ q), by omega, a + 2 ^ q, L ++ [⟨a, q, 0⟩], by rw [shl1 (by omega), wi (by omega)]; omega, hfit, rfl, ?_, h6, tile_app.2 ⟨a, t5, by refine ⟨rfl, hmod, ?_, rfl⟩; dsimp only; omega⟩, fun x hx => ?_, fun x hx => ?_⟩⟩
        · refine k5.trans k6 (fun x hx e => ?_)
          have := hfresh x (.inr (.inr ⟨q, by omega, e⟩))
          omega
        · simp at hx
          rcases hx with h | rfl
          · exact g5 x h
          · rfl
        · simp at hx
          rcases hx with h | rfl
          · exact x5 x h
          · exact hmx
    · simp at hc3
      have : a = N := by omega
      subst this
      exact .inr ⟨a, b', m', t, L, rfl, rfl, k5, h5, inv_new hN t5 g5 x5, g5, hfresh⟩
  · rintro e w' ⟨v, rfl, hw⟩
    rcases hw with ⟨h1, rfl, h2⟩ | ⟨N, b, m, t, l, h1, rfl, h2⟩
    · exact .inl ⟨h1, rfl, h2⟩
    · exact .inr ⟨N, b, m, t, l, h1, rfl, h2⟩
set_option linter.unusedSimpArgs false
set_option linter.unusedVariables false
set_option maxRecDepth 100000
theorem own0 {X : Nat → Prop} {w w1 w2 : World} (k : Kept none' w w1) (k2 : Kept X w1 w2) (hx : ∀ x, X x → w.heap.size ≤ x) : Kept none' w w2 :=
  k.trans k2 fun x hl h => absurd (hx x h) (by omega)
section
variable {w w' : World} {b t : Nat} {m : Nat → Nat} {n : Nat} {l : List Bk}
theorem free_st (h : BAt w b m t (stOf n l)) (hi : Inv n l) : Calls Tryz.prog 151 #[ptr b] w fun r w' => r = .returned (.int .i64 (fsum l : Nat)) ∧ w' = w := by
  have := free_spec h (small_st hi.tl hi.n1.2)
  rw [freeOf_st n l fun x hx => (tile_mem hi.tl hx).2.2.2] at this
  exact this
end
end Go.Proofs.YtklmokolnakkoaaGreatDoor
