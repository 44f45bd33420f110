/-
  A part of a proof that a law of this seat returns true at every input. Conditions: those in each theorem.
-/
import Derived.Test.YtklmokolnakkoaaGreatDoorBL3
import Derived.Test.YtklmokolnakkoaaGreatDoorZV2
import Derived.Maps.Range
import Derived.Maps.Keyed

namespace Go.Proofs.YtklmokolnakkoaaGreatDoor
open Go Eng
open Go.RowKit Go.Maps Go.Sort Go.Shelf
set_option linter.unusedSimpArgs false
set_option linter.unusedVariables false
set_option maxRecDepth 100000

theorem sortsA (m : Nat) : AnyZI.SortsIn Tryz.prog Tryz.sortedA_ren Fence.wide m :=
  ⟨fun blk off cap ss W hH hblk hsz => callsIn_wide.2 (AnyM.slices_Sort_int Tryz.sortA blk off cap ss W hH hblk hsz),
   fun p cap W => callsIn_wide.2 (AnyM.slices_Sort_int_none Tryz.sortA p cap W)⟩
theorem keys_call (mb : Option Nat) (w : World) : Calls Tryz.prog 215 #[.map mb] w fun e w' => e = .returned (.func (.func 234) #[] #[.pointer (some ⟨w.heap.size, 0, none⟩)]) ∧ w' = w.alloc (.cells #[.map mb] 284) := by
  refine (callsIn_wide (n := 6)).1 ?_
  exact AnyZI.keys_in Tryz.keysB Fence.wide 6 trivial rfl mb w
theorem sorted_call {w w1 : World} {b : Nat} {m : List (Int × Value)} (h : MapIs w b m) (hs : m.length ≤ 1000000) (e : w1 = w.alloc (.cells #[.map (some b)] 284)) :
    Calls Tryz.prog 76 #[.func (.func 234) #[] #[.pointer (some ⟨w.heap.size, 0, none⟩)]] w1 fun e w' => ∃ (a : Option Addr) (c : Nat) (ks : List Int), e = .returned (.slice a ks.length c) ∧ ks = (m.map (·.1)).mergeSort (fun x y => decide (x ≤ y)) ∧
      w'.ownsRow w.heap.size 3 1 (.slice a ks.length c) ks.length (ks.map (Value.int .i64)) ∧ Kept none' w w' := by
  subst e
  obtain ⟨D, hown, hperm, hsz⟩ := map_owns (P := Tryz.prog) (kt := 3) Tryz.underlying3 h (by unfold maxLen; omega)
  have hbl := h.lt
  have hseq : SeqGives Fence.wide 3 Tryz.prog 234 #[.pointer (some ⟨w.heap.size, 0, none⟩)] encZ (fun ss => ss.Perm (intKeys D)) (Maps.size D) (w.alloc (.cells #[.map (some b)] 284)) :=
    AnyZI.keys_gives (ρ := Tryz.keysB_ren) { Tryz.keysB with } Fence.wide _ trivial rfl (by omega) w.heap.size b m.length D _ (by simp) (by simp) (by
      obtain ⟨es, clock, hb, Ft, hs, hD⟩ := hown
      exact ⟨es, clock, (Below.heap_alloc _ _ b hbl).trans hb, Ft, hs, hD⟩)
  have cS := AnyZI.sorted_in Tryz.sortedA Fence.wide 6 trivial trivial trivial trivial rfl (by omega) (sortsA _) (enters_of Tryz.func131 (by kernel_rfl) rfl) 234 #[.pointer (some ⟨w.heap.size, 0, none⟩)] trivial (enters_of Tryz.func234 (by kernel_rfl) rfl) _ _ (by rw [hsz]; unfold maxLen; omega) (by rw [hsz]; omega) _ hseq
  change CallsIn _ _ Tryz.prog 76 _ _ _ at cS
  refine ((callsIn_wide (n := 6)).1 cS).mono ?_
  rintro e w' ⟨v, ss, rfl, hS, hrow, hnil, hb⟩
  have hks : ss.mergeSort (fun x y => decide (x ≤ y)) = (m.map (·.1)).mergeSort (fun x y => decide (x ≤ y)) := mergeSort_of_perm_i (hS.trans hperm)
  have hlen : ss.length = ((m.map (·.1)).mergeSort (fun x y => decide (x ≤ y))).length := by rw [← hks, List.length_mergeSort]
  rw [hks, hlen] at hrow
  have hv : ∃ a c, v = .slice a ((m.map (·.1)).mergeSort (fun x y => decide (x ≤ y))).length c := by
    rcases hrow.2 with ⟨rfl, h0⟩ | ⟨g, cap, cur, rfl, _⟩
    · exact ⟨none, 0, by rw [h0]⟩
    · exact ⟨_, _, rfl⟩
  obtain ⟨a, c, rfl⟩ := hv
  refine ⟨a, c, _, rfl, rfl, ownsRow_base_a hrow (by simp), ?_⟩
  have k1 : Kept none' w (w.alloc (.cells #[.map (some b)] 284)) := (Kept.refl _ _).alloc _ _
  exact k1.trans (X := none') (Y := none') ⟨hb.os, hb.tape, hb.output, hb.size, fun i hi _ => hb.block i hi⟩ (fun _ _ h => h)
end Go.Proofs.YtklmokolnakkoaaGreatDoor
namespace Go.Proofs.YtklmokolnakkoaaGreatDoor
open Go Eng
set_option linter.unusedSimpArgs false
set_option linter.unusedVariables false
set_option maxRecDepth 100000
section
variable {w w' : World} {b t : Nat} {m : Nat → Nat} {s : Bst}
theorem ptrB (b : Nat) : ptr b = .pointer (some ⟨b, 0, none⟩) := rfl
theorem pick_spec (h : BAt w b m t s) (hs : Small s) {o : Nat} (ho : o < 11) (hne : s.F o ≠ []) (high : Bool) :
    Calls Tryz.prog 188 #[ptr b, .int .i64 (o : Int), .bool high] w fun r w' => ∃ a, r = .returned (.int .i64 a) ∧ a ∈ s.F o ∧ (∀ x ∈ s.F o, if high then x ≤ a else a ≤ x) ∧ Kept none' w w' := by
  refine (vc188 _ _ _ w (fun v w' => ∃ a, v = .int .i64 a ∧ a ∈ s.F o ∧ (∀ x ∈ s.F o, if high then x ≤ a else a ≤ x) ∧ Kept none' w w') ?_).mono ?_
  · unfold vcP188
    simp only [isP_some, Wif_true, gIf_true, pb_some, po_some, Nat.zero_add]
    refine Wif_yes (inB_of (by omega) (by omega)) ⟨_, by rw [Int.toNat_natCast, Nat.mul_one]; exact h.rm ho, (keys_call _ w).mono ?_⟩
    rintro _ w1 ⟨rfl, e1⟩
    refine ⟨_, rfl, (sorted_call (h.mf o ho) (by simpa using hs o ho) e1).mono ?_⟩
    rintro _ w2 ⟨a, c, ks, rfl, hks, row, k2⟩
    refine ⟨_, _, _, rfl, ?_⟩
    have hm1 : (ent1 (s.F o)).map (·.1) = s.F o := by simp [ent1, Function.comp_def]
    rw [hm1] at hks
    have hperm : ks.Perm (s.F o) := by rw [hks]; exact List.mergeSort_perm _ _
    have hlen : ks.length = (s.F o).length := hperm.length_eq
    have hpos : 0 < ks.length := by rw [hlen]; exact List.length_pos_iff.2 hne
    have hl := hs o ho
    have hsorted : ks.Pairwise (fun x y => x ≤ y) := by
      have := List.pairwise_mergeSort (le := fun (x y : Int) => decide (x ≤ y)) (by intro a b c h1 h2; simp at *; omega) (by intro a b; simp; omega) (s.F o)
      rw [← hks] at this
      exact this.imp fun h => by simpa using h
    obtain ⟨_, hh⟩ := ownsRow_own row
    rcases hh with ⟨_, h0, _⟩ | ⟨g, cs, rfl, hg, og, htk, _, _⟩
    · omega
    have hrd : ∀ i (hi : i < ks.length), rd w2 g i = some (.int .i64 ks[i]) := fun i hi => by
      rw [og.rd]
      have : (cs.take (ks.length * 1))[i]? = some (.int .i64 ks[i]) := by rw [htk]; simp [hi]
      rw [List.getElem?_take] at this
      split at this
      · exact this
      · cases this
    cases high
    · simp only [Wif_false, isP_some, Wif_true]
      refine Wif_yes (inB_of (by omega) (by omega)) ⟨_, hrd 0 hpos, _, rfl, hperm.mem_iff.1 (List.getElem_mem _), fun x hx => ?_, k2⟩
      simp only [Bool.false_eq_true, if_false]
      obtain ⟨i, hi, rfl⟩ := List.mem_iff_getElem.1 (hperm.mem_iff.2 hx)
      rcases Nat.eq_zero_or_pos i with rfl | hp
      · exact Int.le_refl _
      · exact List.pairwise_iff_getElem.1 hsorted 0 i hpos hi hp
    · simp only [isP_some, Wif_true, pb_some, po_some]
      have ew : IntKind.wrap .i64 ((ks.length : Int) - 1) = ((ks.length - 1 : Nat) : Int) := by rw [wi (by omega)]; omega
      rw [ew]
      refine Wif_yes (inB_of (by omega) (by omega)) ⟨_, by rw [Int.toNat_natCast, Nat.mul_one, Nat.zero_add]; exact hrd _ (by omega), _, rfl, hperm.mem_iff.1 (List.getElem_mem _), fun x hx => ?_, k2⟩
      simp only [if_true]
      obtain ⟨i, hi, rfl⟩ := List.mem_iff_getElem.1 (hperm.mem_iff.2 hx)
      rcases Nat.lt_or_ge i (ks.length - 1) with hp | hp
      · exact List.pairwise_iff_getElem.1 hsorted i _ hi (by omega) hp
      · have : i = ks.length - 1 := by omega
        subst this
        exact Int.le_refl _
  · rintro e w' ⟨v, rfl, a, rfl, hw⟩
    exact ⟨a, rfl, hw⟩
end
end Go.Proofs.YtklmokolnakkoaaGreatDoor
namespace Go.Proofs.YtklmokolnakkoaaGreatDoor
open Go Eng
set_option linter.unusedSimpArgs false
set_option linter.unusedVariables false
set_option maxRecDepth 100000
def TakeR (l : List Bk) (order : Int) (high : Bool) (a e : Int) (l' : List Bk) : Prop :=
  ((order < 0 ∨ 10 < order) ∧ a = 0 ∧ e = 2 ∧ l' = l) ∨
  (∃ o : Nat, order = (o : Int) ∧ o ≤ 10 ∧ (∀ x ∈ l, x.g = 0 → x.o < o) ∧ a = 0 ∧ e = 6 ∧ l' = l) ∨
  (∃ (o : Nat) (x : Bk) (r : Nat), order = (o : Int) ∧ o ≤ x.o ∧ x ∈ l ∧ x.g = 0 ∧ (∀ y ∈ l, y.g = 0 → o ≤ y.o → x.o ≤ y.o) ∧ (∀ y ∈ l, y.g = 0 → y.o = x.o → if high then y.p ≤ x.p else x.p ≤ y.p) ∧
    a = (r : Int) ∧ (if high then r + 2 ^ o = x.p + 2 ^ x.o else r = x.p) ∧ e = 0 ∧ (∀ y : Bk, y.g = 1 → (y ∈ l' ↔ y ∈ l ∨ y = ⟨r, o, 1⟩)) ∧ fsum l' + 2 ^ o = fsum l)
theorem pow10 {o : Nat} (h : o ≤ 10) : 2 ^ o ≤ 1024 := Nat.pow_le_pow_right (n := 2) (by omega) h
theorem shl1 {o : Nat} (ho : o ≤ 10) : IntKind.wrap .i64 (1 * 2 ^ min (Int.toNat (o : Int)) 64) = ((2 ^ o : Nat) : Int) := by
  have := shl_small (x := 1) (o := o) (by omega) (by omega)
  simpa using this
section
variable {w w1 w' : World} {b t : Nat} {m : Nat → Nat} {n : Nat} {l : List Bk}
theorem kbm {o : Nat} (h : Kept (bblk b m t) w w1) (ho : o < 11) (k : Kept (· = m o) w1 w') : Kept (bblk b m t) w w' := h.trans k fun x _ e => .inr (.inr ⟨o, ho, e⟩)
theorem kbt (h : Kept (bblk b m t) w w1) (k : Kept (· = t) w1 w') : Kept (bblk b m t) w w' := h.trans k fun x _ e => .inr (.inl e)
theorem take_spec (h : BAt w b m t (stOf n l)) (hi : Inv n l) (order : Int) (high : Bool) :
    Calls Tryz.prog 144 #[ptr b, .int .i64 order, .bool high] w fun r w' => ∃ a e l', r = .returned (.tuple #[.int .i64 a, .int .i64 e]) ∧ Kept (bblk b m t) w w' ∧ BAt w' b m t (stOf n l') ∧ Inv n l' ∧ TakeR l order high a e l' := by
  refine (vc144 _ _ _ w (fun v w' => ∃ a e l', v = .tuple #[.int .i64 a, .int .i64 e] ∧ Kept (bblk b m t) w w' ∧ BAt w' b m t (stOf n l') ∧ Inv n l' ∧ TakeR l order high a e l') ?_).mono ?_
  · have hs := small_st hi.tl hi.n1.2
    unfold vcP144
    simp only [isP_some, Wif_true, gIf_true, pb_some, po_some, Nat.zero_add]
    refine ⟨_, fun _ => h.r12, Wif_no rfl ?_⟩
    refine Wif_intro (fun hc => ?_) (fun hc => ?_)
    · simp at hc
      exact ⟨_, _, l, rfl, Kept.refl _ _, h, hi, .inl ⟨by omega, rfl, rfl, rfl⟩⟩
    simp at hc
    obtain ⟨o, rfl⟩ : ∃ o : Nat, order = (o : Int) := ⟨order.toNat, by omega⟩
    have ho10 : o ≤ 10 := by omega
    refine ⟨fun k w' N => w' = w ∧ ∃ q : Nat, k = q ∧ q ≤ 11 ∧ N = 11 - q ∧ o ≤ q ∧ ∀ j, o ≤ j → j < q → fr j l = [], ⟨11 - o, rfl, o, rfl, by omega, rfl, Nat.le_refl _, fun j h1 h2 => by omega⟩, ?_⟩
    rintro _ w1 _ ⟨rfl, q, rfl, hq, rfl, hoq, hem⟩
    refine gIf_intro (fun hc => by simp at hc; exact inB_of (by omega) (by omega)) ?_
    refine ⟨some (m q), fun hc => ?_, ((fr q l).length : Int), fun hc => ?_, ?_⟩
    · simp at hc
      rw [Int.toNat_natCast, Nat.mul_one]
      exact h.rm (by omega)
    · simp at hc
      exact h.len hs (by omega)
    refine Wif_intro (fun hc => ?_) (fun hc => ?_)
    · simp only [Bool.and_eq_true, decide_eq_true_eq, beq_iff_eq] at hc
      refine ⟨11 - (q + 1), by omega, rfl, q + 1, by rw [wi (by omega)]; rfl, by omega, rfl, by omega, fun j h1 h2 => ?_⟩
      rcases Nat.lt_or_ge j q with hlt | hge
      · exact hem j h1 hlt
      · have : j = q := by omega
        subst this
        exact List.length_eq_zero_iff.1 (by omega)
    refine Wif_intro (fun hc2 => ?_) (fun hc2 => ?_)
    · simp only [decide_eq_true_eq] at hc2
      refine ⟨_, _, l, rfl, Kept.refl _ _, h, hi, .inr (.inl ⟨o, rfl, ho10, fun x hx hg => ?_, rfl, rfl, rfl⟩)⟩
      refine Nat.lt_of_not_le fun hle => ?_
      have hx10 := (tile_mem hi.tl hx).2.2.2
      have := hem x.o hle (by omega)
      have h2 := (fr_pos (j := x.o) (l := l)).2 ⟨x, hx, hg, rfl⟩
      rw [this] at h2
      simp at h2
    have hq10 : q ≤ 10 := by simp at hc2; omega
    have hne : fr q l ≠ [] := by
      intro e
      rw [e] at hc
      simp at hc
      omega
    refine (pick_spec h hs (o := q) (by omega) hne high).mono ?_
    rintro _ w2 ⟨a, rfl, ham, hext, k2⟩
    refine ⟨_, rfl, ?_⟩
    have h2 := h.k k2
    obtain ⟨⟨xp, xo, xg⟩, hx, gx, ox, rfl⟩ := mem_fr.1 ham
    dsimp only at gx ox
    subst gx ox
    obtain ⟨A, B, rfl⟩ := List.append_of_mem hx
    refine Wif_yes (inB_of (by omega) (by omega)) ⟨_, by rw [Int.toNat_natCast, Nat.mul_one]; exact h2.rm (by omega), ?_⟩
    obtain ⟨w3, hd, k3, h3⟩ := h2.hold hi.tl
    refine ⟨w3, hd, ?_⟩
    have m3 : Mid n A ⟨xp, xo, 2⟩ B := hi.mid rfl rfl
    have K3 : Kept (bblk b m t) w1 w3 := kbm (k2.mono fun _ _ h => h.elim) (by omega) k3
    refine ⟨fun k at' w' N => ∃ (A' B' : List Bk) (kk aa : Nat), k = kk ∧ at' = aa ∧ N = kk - o ∧ o ≤ kk ∧ kk ≤ xo ∧ Mid n A' ⟨aa, kk, 2⟩ B' ∧ BAt w' b m t (stOf n (A' ++ ⟨aa, kk, 2⟩ :: B')) ∧ Kept (bblk b m t) w1 w' ∧
        (if high then aa + 2 ^ kk = xp + 2 ^ xo else aa = xp) ∧ (∀ y : Bk, y.g = 1 → (y ∈ A' ++ B' ↔ y ∈ A ++ B)) ∧ fsum (A' ++ B') + 2 ^ kk = fsum (A ++ B) + 2 ^ xo,
      ⟨xo - o, A, B, xo, xp, rfl, rfl, rfl, hoq, Nat.le_refl _, m3, h3, K3, by cases high <;> simp, fun y _ => Iff.rfl, rfl⟩, ?_⟩
    rintro _ _ w4 _ ⟨A', B', kk, aa, rfl, rfl, rfl, hok, hkx, m4, h4, K4, hform, hset, hsum⟩
    have hnum := m4.num
    dsimp only at hnum
    have hn128 := hi.n1.2
    refine Wif_intro (fun hc3 => ?_) (fun hc3 => ?_)
    · simp only [decide_eq_true_eq] at hc3
      obtain ⟨k1, rfl⟩ : ∃ k1, kk = k1 + 1 := ⟨kk - 1, by omega⟩
      have ew : IntKind.wrap .i64 (((k1 + 1 : Nat) : Int) - 1) = (k1 : Int) := by rw [wi (by omega)]; omega
      rw [ew]
      have e2 : 2 ^ (k1 + 1) = 2 ^ k1 + 2 ^ k1 := by rw [Nat.pow_succ]; omega
      have hp := p2 k1
      rw [shl1 (by omega)]
      have ea : IntKind.wrap .i64 ((aa : Int) + ((2 ^ k1 : Nat) : Int)) = ((aa + 2 ^ k1 : Nat) : Int) := by rw [wi (by omega)]; omega
      rw [ea]
      refine Wif_intro (fun hh => ?_) (fun hh => ?_)
      · subst hh
        refine Wif_yes (inB_of (by omega) (by omega)) ⟨_, by rw [Int.toNat_natCast, Nat.mul_one]; exact h4.rm (by omega), ?_⟩
        obtain ⟨w5, hu, k5, h5⟩ := h4.hi m4.tl hn128
        refine ⟨w5, hu, Wif_yes (by simp) ⟨k1 - o, by omega, _, _, k1, aa + 2 ^ k1, rfl, rfl, rfl, by omega, by omega, m4.hi, h5, kbm K4 (by omega) k5, ?_, fun y hy => ?_, ?_⟩⟩
        · simp only [if_true] at hform ⊢; omega
        · rw [← hset y hy]
          simp only [List.mem_append, List.mem_cons, List.not_mem_nil, or_false]
          constructor
          · rintro ((h | rfl) | h)
            · exact .inl h
            · cases hy
            · exact .inr h
          · rintro (h | h)
            · exact .inl (.inl h)
            · exact .inr h
        · rw [← hsum]; simp only [fsum_app, fsum_cons, fsum]; simp; omega
      · subst hh
        intro w5 e5
        have h4' := h4.k ((Kept.refl _ _).dr e5)
        refine Wif_yes (inB_of (by omega) (by omega)) ⟨_, by rw [Int.toNat_natCast, Nat.mul_one]; exact h4'.rm (by omega), Wif_yes (by simp) ?_⟩
        obtain ⟨w6, hu, k6, h6⟩ := h4'.lo m4.tl hn128
        refine ⟨w6, hu, k1 - o, by omega, _, _, k1, aa, rfl, rfl, rfl, by omega, by omega, m4.lo, h6, kbm (K4.dr e5) (by omega) k6, ?_, fun y hy => ?_, ?_⟩
        · simp at hform ⊢; exact hform
        · rw [← hset y hy]
          simp only [List.mem_append, List.mem_cons, List.not_mem_nil, or_false]
          constructor
          · rintro (h | rfl | h)
            · exact .inl h
            · cases hy
            · exact .inr h
          · rintro (h | h)
            · exact .inl h
            · exact .inr (.inr h)
        · rw [← hsum]; simp only [fsum_app, fsum_cons, fsum]; simp; omega
    · have hkk : kk = o := by simp at hc3; omega
      subst hkk
      refine ⟨_, h4.r12, ?_⟩
      obtain ⟨w5, hu, k5, h5⟩ := h4.take m4.tl hn128
      refine ⟨w5, hu, _, _, _, rfl, kbt K4 k5, h5, m4.take, .inr (.inr ⟨kk, ⟨xp, xo, 0⟩, aa, rfl, hoq, hx, rfl, fun y hy gy oy => ?_, fun y hy gy oy => ?_, rfl, hform, rfl, fun y hy => ?_, ?_⟩)⟩
      · refine Nat.le_of_not_lt fun hlt => ?_
        have := hem y.o oy hlt
        have h2 := (fr_pos (j := y.o)).2 ⟨y, hy, gy, rfl⟩
        rw [this] at h2
        simp at h2
      · have := hext y.p (mem_fr.2 ⟨y, hy, gy, oy, rfl⟩)
        cases high <;> simp at this ⊢ <;> omega
      · have := hset y hy
        simp only [List.mem_append, List.mem_cons] at this ⊢
        constructor
        · rintro (h | rfl | h)
          · rcases this.1 (.inl h) with h | h
            · exact .inl (.inl h)
            · exact .inl (.inr (.inr h))
          · exact .inr rfl
          · rcases this.1 (.inr h) with h | h
            · exact .inl (.inl h)
            · exact .inl (.inr (.inr h))
        · rintro ((h | rfl | h) | rfl)
          · rcases this.2 (.inl h) with h | h
            · exact .inl h
            · exact .inr (.inr h)
          · cases hy
          · rcases this.2 (.inr h) with h | h
            · exact .inl h
            · exact .inr (.inr h)
          · exact .inr (.inl rfl)
      · simp only [fsum_app, fsum_cons] at hsum ⊢
        simp
        omega
  · rintro e w' ⟨v, rfl, a, e, l', rfl, hw⟩
    exact ⟨a, e, l', rfl, hw⟩
end
end Go.Proofs.YtklmokolnakkoaaGreatDoor
