/-
  A part of a proof that a law of this seat returns true at every input. Conditions: those in each theorem.
-/
import Derived.Test.YtkancagfhbkhiaaD6c
namespace Go.Proofs.Ytkancagfhbkhiaa
open Go Eng
set_option linter.unusedSimpArgs false
set_option linter.unusedVariables false
set_option maxRecDepth 10000

/-! ### CacheDrops: slabs of the frames 0 to N - 1 -/
structure Idx (L : List Slb) (N : Nat) : Prop where
  len : L.length = N
  at' : ∀ i (h : i < L.length), (L[i]).fr = i
  nt : ∀ e ∈ L, ∀ i, e.s.turn i = 0
def outv (e : Slb) : Int := (e.s.count : Int) - e.s.ch.length
abbrev outL (L : List Slb) : List Value := L.map fun e => .int .i64 (outv e)
theorem setL_get {L : List Slb} {N : Nat} (h : Idx L N) {i : Nat} (hi : i < N) (e : Slb) (he : e.fr = i) {j : Nat} (hj : j < L.length) : (setL L e)[j]'(by rw [setL_len]; exact hj) = if j = i then e else L[j] := by
  simp only [setL, List.getElem_map]
  have := h.at' j hj
  by_cases hji : j = i
  · rw [if_pos (by omega), if_pos hji]
  · rw [if_neg (by omega), if_neg hji]
theorem outL_set {L : List Slb} {N : Nat} (h : Idx L N) {i : Nat} (hi : i < N) (e : Slb) (he : e.fr = i) : outL (setL L e) = (outL L).set i (.int .i64 (outv e)) := by
  apply List.ext_getElem
  · simp [setL_len]
  · intro j h1 h2
    have hj : j < L.length := by simpa [setL_len] using h1
    simp only [List.getElem_map, List.getElem_set]
    rw [setL_get h hi e he hj]
    by_cases hji : j = i
    · rw [if_pos hji, if_pos hji.symm]
    · rw [if_neg hji, if_neg (Ne.symm hji)]
theorem Idx.set {L : List Slb} {N : Nat} (h : Idx L N) {i : Nat} (hi : i < N) (e : Slb) (he : e.fr = i) (ht : ∀ k, e.s.turn k = 0) : Idx (setL L e) N := by
  refine ⟨by rw [setL_len]; exact h.len, fun j hj => ?_, fun x hx => ?_⟩
  · have hj' : j < L.length := by rw [setL_len] at hj; exact hj
    rw [setL_get h hi e he hj']
    by_cases hji : j = i
    · rw [if_pos hji, he, hji]
    · rw [if_neg hji]; exact h.at' j hj'
  · rcases mem_setL hx with rfl | ⟨hx, _⟩
    · exact ht
    · exact h.nt x hx
theorem Idx.mem {L : List Slb} {N : Nat} (h : Idx L N) {e : Slb} (he : e ∈ L) : ∃ i, i < N ∧ e.fr = i ∧ ∃ hi : i < L.length, L[i] = e := by
  obtain ⟨i, hi, rfl⟩ := List.getElem_of_mem he
  exact ⟨i, by rw [← h.len]; exact hi, h.at' i hi, hi, rfl⟩
theorem outv_nonneg {w : World} {S B bc : Nat} {s : Sl} {f : Nat → Int} (a : At w S B bc s f) : (s.ch.length : Int) ≤ s.count ∧ s.count ≤ 32 := by
  have := a.good.chlen
  have := a.good.count32
  omega
structure Drp (w0 w : World) (C M O z c N : Nat) (L : List Slb) : Prop where
  ci : CIs w0 w C M z c L
  ix : Idx L N
  o : own w O (outL L)
  nO : ¬ blk C M L O
  gO : w0.heap.size ≤ O
theorem Drp.k {w0 w w' : World} {C M O z c N : Nat} {L : List Slb} (h : Drp w0 w C M O z c N L) (k : Kept none' w w') : Drp w0 w' C M O z c N L := ⟨h.ci.k k, h.ix, h.o.k k, h.nO, h.gO⟩
/-- one slab has turned, and its number with it -/
theorem Drp.go {w0 w w1 w' : World} {C M O z c N : Nat} {L : List Slb} (h : Drp w0 w C M O z c N L) {e : Slb} {s : Sl} {f : Nat → Int} (he : e ∈ L) {i : Nat} (hi : i < N) (hfr : e.fr = i)
    (ci : CIs w0 w1 C M z c (setL L (set1 e s f))) (k : Kept (blk C M L) w w1) (ht : ∀ j, s.turn j = 0) (e' : w' = st w1 O i (.int .i64 ((s.count : Int) - s.ch.length))) : Drp w0 w' C M O z c N (setL L (set1 e s f)) := by
  have hb : ∀ b, blk C M (setL L (set1 e s f)) b ↔ blk C M L b := fun b => blk_setL h.ci.at'.so he
  have o1 := (h.o.kx k h.nO).s1 e'
  rw [show ((s.count : Int) - s.ch.length) = outv (set1 e s f) from rfl, ← outL_set h.ix hi (set1 e s f) hfr] at o1
  exact ⟨ci.kx ((Kept.refl (· = O) w1).s1 e' (.inl rfl)) (fun b hb' hx => h.nO (by rw [← hb']; exact (hb b).1 hx)) (fun b hb' => by rw [hb']; exact h.gO), h.ix.set hi _ hfr ht, o1, fun hx => h.nO ((hb O).1 hx), h.gO⟩

theorem drops_tail {w0 w : World} {C M O z c N : Nat} {L : List Slb} (h : Drp w0 w C M O z c N L) (hN : N ≤ 8) {q : Nat} (hq : q < N) {b0 : Bool} {Y : World → Prop} {Z : World → Prop} (hZ : ∀ w', Kept none' w0 w' → Z w') :
    Calls Try.prog 42 #[ptr C, .int .i64 q] w fun r w1 => ∃ n9 : Int, r = .returned (.int .i64 n9) ∧ Wif (inB (q : Int) (Int.toNat (N : Int)))
      (∃ x : Int, rd w1 O (0 + Int.toNat (q : Int) * 1) = some (.int .i64 x) ∧ Wif (!(n9 == 0) == (x == 0) || n9 != 0 && n9 != 80) (Y w1)
        (∃ I : Bool → Int → World → Nat → Prop, (∃ n, I b0 0 w1 n) ∧ ∀ (b : Bool) (n10 : Int) (w6 : World) (n11 : Nat), I b n10 w6 n11 →
          Wif (decide (n10 < (N : Int)))
            (Calls Try.prog 40 #[ptr C, .int .i64 n10] w6 fun r w7 => ∃ (p : Option Addr) (n12 : Int), r = .returned (.tuple #[.pointer p, .int .i64 n12]) ∧
              Wif (n10 == (q : Int) && n9 == 0) (Wif (n12 != 7) (Y w7) (∃ m, Nat.succ m ≤ n11 ∧ I b (IntKind.wrap .i64 (n10 + 1)) w7 m))
                (∀ w1, w1 = World.drew w7 → gIf (inB n10 (Int.toNat (N : Int))) ((n12 != 0) = false)
                  (∃ x : Int, ((n12 != 0) = false → rd w1 O (0 + Int.toNat n10 * 1) = some (.int .i64 x)) ∧
                    Wif (n12 != 0) (((n12 != 0) = false → rd w1 O (0 + Int.toNat n10 * 1) = some (.int .i64 x) ∧ True) ∧ ((n12 != 0) = false → rd w1 O (0 + Int.toNat n10 * 1) = some (.int .i64 x) ∧ True) ∧ Y w1)
                      (Calls Try.prog 18 #[.pointer p] w1 fun r w8 => ∃ n : Int, r = .returned (.int .i64 n) ∧ ((n12 != 0) = false → rd w8 O (0 + Int.toNat n10 * 1) = some (.int .i64 x) ∧ True) ∧
                        Calls Try.prog 17 #[.pointer p] w8 fun r w9 => ∃ n13 : Int, r = .returned (.int .i64 n13) ∧ ((n12 != 0) = false → rd w9 O (0 + Int.toNat n10 * 1) = some (.int .i64 x) ∧ True) ∧
                          Wif (n != IntKind.wrap .i64 (n13 - x)) (Y w9) (∃ m, Nat.succ m ≤ n11 ∧ I b (IntKind.wrap .i64 (n10 + 1)) w9 m)))))
            (Z w6))) False := by
  have hql : q < L.length := by rw [h.ix.len]; exact hq
  have hmem : L[q] ∈ L := List.getElem_mem hql
  have hfr : (L[q]).fr = q := h.ix.at' q hql
  have hbnd := outv_nonneg (h.ci.at'.sl _ hmem).1
  have hoq : (outL L)[q]? = some (.int .i64 (outv L[q])) := by simp [outL, hql]
  have htn : Int.toNat (N : Int) = N := Int.toNat_natCast N
  rw [htn]
  -- the loop at the end, whatever is there
  have fin : ∀ (w1 : World) (n9 : Int) (L' : List Slb), CIs w0 w1 C M z c L' → own w1 O (outL L) →
      (∀ i (hi : i < L.length), ¬ (i = q ∧ n9 = 0) → ∃ e ∈ L', e = L[i]) → (n9 = 0 → ∀ e ∈ L', e.fr ≠ q) →
      ∃ I : Bool → Int → World → Nat → Prop, (∃ n, I b0 0 w1 n) ∧ ∀ (b : Bool) (n10 : Int) (w6 : World) (n11 : Nat), I b n10 w6 n11 →
          Wif (decide (n10 < (N : Int)))
            (Calls Try.prog 40 #[ptr C, .int .i64 n10] w6 fun r w7 => ∃ (p : Option Addr) (n12 : Int), r = .returned (.tuple #[.pointer p, .int .i64 n12]) ∧
              Wif (n10 == (q : Int) && n9 == 0) (Wif (n12 != 7) (Y w7) (∃ m, Nat.succ m ≤ n11 ∧ I b (IntKind.wrap .i64 (n10 + 1)) w7 m))
                (∀ w1, w1 = World.drew w7 → gIf (inB n10 N) ((n12 != 0) = false)
                  (∃ x : Int, ((n12 != 0) = false → rd w1 O (0 + Int.toNat n10 * 1) = some (.int .i64 x)) ∧
                    Wif (n12 != 0) (((n12 != 0) = false → rd w1 O (0 + Int.toNat n10 * 1) = some (.int .i64 x) ∧ True) ∧ ((n12 != 0) = false → rd w1 O (0 + Int.toNat n10 * 1) = some (.int .i64 x) ∧ True) ∧ Y w1)
                      (Calls Try.prog 18 #[.pointer p] w1 fun r w8 => ∃ n : Int, r = .returned (.int .i64 n) ∧ ((n12 != 0) = false → rd w8 O (0 + Int.toNat n10 * 1) = some (.int .i64 x) ∧ True) ∧
                        Calls Try.prog 17 #[.pointer p] w8 fun r w9 => ∃ n13 : Int, r = .returned (.int .i64 n13) ∧ ((n12 != 0) = false → rd w9 O (0 + Int.toNat n10 * 1) = some (.int .i64 x) ∧ True) ∧
                          Wif (n != IntKind.wrap .i64 (n13 - x)) (Y w9) (∃ m, Nat.succ m ≤ n11 ∧ I b (IntKind.wrap .i64 (n10 + 1)) w9 m)))))
            (Z w6) := by
    intro w1 n9 L' ci o1 hin hout
    refine ⟨fun b n w' m => ∃ k : Nat, n = k ∧ k ≤ N ∧ m = N - k ∧ Kept none' w1 w', ⟨N, 0, rfl, by omega, rfl, Kept.refl _ _⟩, ?_⟩
    rintro b n w2 m ⟨k, rfl, hk, rfl, k2⟩
    have ci2 := ci.k k2
    have o2 := o1.k k2
    refine Wif_intro (fun hlt => ?_) (fun _ => hZ _ ci2.fr)
    simp only [decide_eq_true_eq] at hlt
    have hkN : k < N := by omega
    have hkl : k < L.length := by rw [h.ix.len]; exact hkN
    by_cases hcase : k = q ∧ n9 = 0
    · obtain ⟨rfl, rfl⟩ := hcase
      refine (slab_out ci2.at' (hout rfl)).mono ?_
      rintro _ w3 ⟨rfl, rfl⟩
      exact ⟨_, _, rfl, Wif_yes (by simp) (Wif_no rfl ⟨N - (k + 1), by omega, k + 1, by rw [wi (by omega)]; rfl, by omega, rfl, k2⟩)⟩
    · obtain ⟨e, he, rfl⟩ := hin k hkl hcase
      have hfk : (L[k]).fr = k := h.ix.at' k hkl
      have hs := slab_in ci2.at' he
      rw [hfk] at hs
      refine hs.mono ?_
      rintro _ w3 ⟨rfl, rfl⟩
      refine ⟨_, _, rfl, Wif_no (by simp; omega) ?_⟩
      intro w4 e4
      have k4 : Kept none' w3 w4 := (Kept.refl _ _).dr e4
      have ci4 := ci2.k k4
      have o4 := o2.k k4
      have hr : rd w4 O (0 + Int.toNat (k : Int) * 1) = some (.int .i64 (outv L[k])) := by
        rw [Int.toNat_natCast, Nat.zero_add, Nat.mul_one, o4.rd]
        simp [outL, hkl]
      have a4 := (ci4.at'.sl _ he).1
      have hbk := outv_nonneg a4
      refine gIf_intro (fun _ => inB_of (by omega) (by omega)) ⟨_, fun _ => hr, Wif_no rfl ((free_spec a4).mono ?_)⟩
      rintro _ w5 ⟨rfl, rfl⟩
      refine ⟨_, rfl, fun _ => ⟨hr, trivial⟩, (count_spec a4).mono ?_⟩
      rintro _ w5 ⟨rfl, rfl⟩
      refine ⟨_, rfl, fun _ => ⟨hr, trivial⟩, Wif_no ?_ ⟨N - (k + 1), by omega, k + 1, by rw [wi (by omega)]; rfl, by omega, rfl, k2.tr k4⟩⟩
      unfold outv
      rw [wi (by omega)]
      simp
      omega
  by_cases hx : (L[q]).s.ch.length = (L[q]).s.count
  · obtain ⟨L1, L2, hL⟩ := List.append_of_mem hmem
    have ci := h.ci
    rw [hL] at ci
    have hd := drop_cis ci hx
    rw [hfr] at hd
    refine hd.mono ?_
    rintro _ w1 ⟨rfl, k1, ci1⟩
    have o1 := h.o.kx k1 (by rw [← hL]; exact h.nO)
    refine ⟨_, rfl, Wif_yes (inB_of (by omega) (by omega)) ⟨_, by rw [Int.toNat_natCast, Nat.zero_add, Nat.mul_one, o1.rd]; exact hoq, Wif_no (by simp [outv]; omega) (fin w1 0 _ ci1 o1 (fun i hi hne => ?_) (fun _ e he => ?_))⟩⟩
    · have hiq : i ≠ q := fun e => hne ⟨e, rfl⟩
      have hi' : L[i] ∈ L1 ++ L[q] :: L2 := by rw [← hL]; exact List.getElem_mem hi
      have hfi := h.ix.at' i hi
      refine ⟨_, ?_, rfl⟩
      rcases List.mem_append.1 hi' with hm | hm
      · exact List.mem_append_left _ hm
      · rcases List.mem_cons.1 hm with hm | hm
        · rw [hm] at hfi
          omega
        · exact List.mem_append_right _ hm
    · obtain ⟨f1, f2⟩ := frs_ne ci.at'.so
      rw [hfr] at f1 f2
      rcases List.mem_append.1 he with he | he
      · exact f1 e he
      · exact f2 e he
  · have hd := cdrop_no h.ci.at' hmem hx
    rw [hfr] at hd
    refine hd.mono ?_
    rintro _ w1 ⟨rfl, rfl⟩
    refine ⟨_, rfl, Wif_yes (inB_of (by omega) (by omega)) ⟨_, by rw [Int.toNat_natCast, Nat.zero_add, Nat.mul_one, h.o.rd]; exact hoq, Wif_no (by simp [outv]; omega) (fin w1 80 _ h.ci h.o (fun i hi _ => ⟨_, List.getElem_mem hi, rfl⟩) (fun h => by cases h))⟩⟩
theorem drops_law (size n taken back frame : Int) (w : World) : Calls Try.prog 10 #[.int .i64 size, .int .i64 n, .int .i64 taken, .int .u64 back, .int .i64 frame] w fun e w' => e = .returned (.bool true) ∧ Kept none' w w' := by
  refine (vc10 size n taken back frame w (fun v w' => v = .bool true ∧ Kept none' w w') ?_).mono ?_
  · unfold vcP10
    by_cases hm : mayBe size 0
    · obtain ⟨z, c0, rfl, hc0, h8, h128, _⟩ := mayBe_nat hm
      refine (new_cis (Kept.refl _ w) z hm).mono ?_
      rintro _ w1 ⟨C, M, rfl, k1, h1, _, _⟩
      refine ⟨_, _, rfl, Wif_intro (fun _ => fin_cknown h1.fr) (fun hn => ?_)⟩
      simp at hn
      obtain ⟨⟨⟨hn1, hn8⟩, ht0⟩, ht60⟩ := hn
      obtain ⟨N, rfl⟩ := Int.eq_ofNat_of_zero_le (show 0 ≤ n by omega)
      have hq : ∃ q : Nat, q < N ∧ IntKind.wrap .i64 (Int.tmod (IntKind.wrap .u64 frame) (IntKind.wrap .u64 (N : Int))) = (q : Int) := by
        have hu : 0 ≤ IntKind.wrap .u64 frame := by
          simp only [IntKind.wrap, IntKind.bits, IntKind.signed, Bool.false_and, Bool.false_eq_true, if_false]
          omega
        rw [wu (x := (N : Int)) (by omega), Int.tmod_eq_emod_of_nonneg hu]
        have h1 := Int.emod_nonneg (IntKind.wrap .u64 frame) (show (N : Int) ≠ 0 by omega)
        have h2 := Int.emod_lt_of_pos (IntKind.wrap .u64 frame) (show (0 : Int) < N by omega)
        generalize IntKind.wrap .u64 frame % (N : Int) = r at *
        obtain ⟨q, rfl⟩ := Int.eq_ofNat_of_zero_le h1
        exact ⟨q, by omega, wi (by omega)⟩
      obtain ⟨q, hqN, hq⟩ := hq
      rw [hq]
      have hwn : (IntKind.wrap .u64 (N : Int) != 0) = true := by rw [wu (by omega)]; simp; omega
      rw [hwn]
      clear hq hwn
      refine Wif_yes (by simp only [okMk, decide_eq_true_eq]; omega) ?_
      intro w2 e2
      have htn : Int.toNat (N : Int) = N := Int.toNat_natCast N
      have o2 : own w2 w1.heap.size (List.replicate N (.int .i64 0)) := by rw [htn] at e2; exact own_alloc e2
      have k12 : Kept none' w1 w2 := (Kept.refl _ _).al e2
      have h2 := h1.k k12
      have hge : w.heap.size ≤ w1.heap.size := k1.sz
      have hO : ∀ b, blk C M [] b → b < w1.heap.size := fun b hb => h1.at'.lt hb
      generalize hOO : w1.heap.size = O at *
      refine ⟨fun b n w' m => ∃ (k c : Nat) (L : List Slb), n = k ∧ k ≤ N ∧ m = N - k ∧ CIs w w' C M z c L ∧ Idx L k ∧ (∀ e ∈ L, outv e = 0) ∧ own w' O (List.replicate N (.int .i64 0)) ∧ ¬ blk C M L O, ⟨_, 0, 0, [], rfl, by omega, rfl, h2, ⟨rfl, fun i h => absurd h (by simp), by simp⟩, by simp, o2, fun hb => by have := hO O hb; omega⟩, ?_⟩
      rintro b n w3 m ⟨k, c, L, rfl, hk, rfl, h3, ix3, z3, o3, nO3⟩
      refine Wif_intro (fun hlt => ?_) (fun hge2 => ?_)
      · simp only [decide_eq_true_eq] at hlt
        have hkN : k < N := by omega
        intro w4 e4
        have hOl := o3.lt
        refine (add_cis h3 k (by omega) (by omega) (fun e he => by obtain ⟨i, hi, hf, _⟩ := ix3.mem he; omega) e4).mono ?_
        rintro _ w5 ⟨rfl, k5, S, f, h5⟩
        have hins : insL ⟨k, S, w3.heap.size, 256, newSl z c, f⟩ L = L ++ [⟨k, S, w3.heap.size, 256, newSl z c, f⟩] := by
          have : ∀ L : List Slb, (∀ e ∈ L, e.fr < k) → insL ⟨k, S, w3.heap.size, 256, newSl z c, f⟩ L = L ++ [⟨k, S, w3.heap.size, 256, newSl z c, f⟩] := by
            intro L
            induction L with
            | nil => intro _; rfl
            | cons x l ih =>
              intro h
              unfold insL
              rw [if_pos (h x (List.mem_cons_self ..)), ih fun e he => h e (List.mem_cons_of_mem _ he)]
              rfl
          exact this L fun e he => by obtain ⟨i, hi, hf, _⟩ := ix3.mem he; omega
        rw [hins] at h5
        refine ⟨_, rfl, Wif_no rfl ⟨N - (k + 1), by omega, k + 1, _, L ++ [⟨k, S, w3.heap.size, 256, newSl z c, f⟩], by rw [wi (by omega)]; rfl, by omega, rfl, h5, ⟨by simp [ix3.len], fun i hi => ?_, fun e he => ?_⟩, fun e he => ?_, o3.kx k5 nO3, fun hb => ?_⟩⟩
        · have hl := ix3.len
          by_cases hik : i < L.length
          · rw [List.getElem_append_left hik]; exact ix3.at' i hik
          · have : i = k := by simp at hi; omega
            subst this
            rw [List.getElem_append_right (by omega)]
            simp [hl]
        · rcases List.mem_append.1 he with he | he
          · exact ix3.nt e he
          · simp at he; subst he; intro i; rfl
        · rcases List.mem_append.1 he with he | he
          · exact z3 e he
          · simp at he; subst he
            simp [outv, newSl]
        · rcases hb with hb | hb | ⟨x, hx, hb⟩
          · exact nO3 (.inl hb)
          · exact nO3 (.inr (.inl hb))
          · rcases List.mem_append.1 hx with hx | hx
            · exact nO3 (.inr (.inr ⟨x, hx, hb⟩))
            · simp at hx
              subst hx
              have h5S := (h5.at'.sl ⟨k, S, w3.heap.size, 256, newSl z c, f⟩ (by simp)).1
              rcases hb with hb | hb
              · -- the slab's struct is new
                have := h5.ge S (.inr (.inr ⟨⟨k, S, w3.heap.size, 256, newSl z c, f⟩, by simp, .inl rfl⟩))
                have hOS : O = S := hb
                have o5 := o3.kx k5 nO3
                have r1 := h5S.so.rd 1
                rw [← hOS, o5.rd] at r1
                have r2 := h5S.so.rd 0
                rw [← hOS, o5.rd] at r2
                rw [List.getElem?_replicate] at r2
                split at r2
                · have : (slRaw w3.heap.size 256 (newSl z c))[0]? = some (.slice (some ⟨w3.heap.size, 0, none⟩) 256 256) := rfl
                  rw [this] at r2
                  cases r2
                · omega
              · have : O = w3.heap.size := hb
                omega
      · simp only [decide_eq_false_iff_not] at hge2
        have hkN : k = N := by omega
        subst hkN
        have d3 : Drp w w3 C M O z c k L := by
          refine ⟨h3, ix3, ?_, nO3, hge⟩
          have : outL L = List.replicate k (.int .i64 0) := by
            rw [List.eq_replicate_iff]
            refine ⟨by simp [ix3.len], fun v hv => ?_⟩
            obtain ⟨e, he, rfl⟩ := List.mem_map.1 hv
            rw [z3 e he]
          rw [this]; exact o3
        clear o3 h3 z3 nO3 ix3
        refine ⟨fun b n w' m => ∃ (t : Nat) (L : List Slb), n = t ∧ (t : Int) ≤ taken ∧ m = (taken - t).toNat ∧ Drp w w' C M O z c k L, ⟨_, 0, L, rfl, by omega, rfl, d3⟩, ?_⟩
        rintro b n w4 m ⟨t, L4, rfl, htt, rfl, d4⟩
        have hlen4 : L4.length ≤ 1000 := by rw [d4.ix.len]; omega
        refine Wif_intro (fun htl => ?_) (fun htl => ?_)
        · simp only [decide_eq_true_eq] at htl
          refine (take_cis d4.ci hlen4).mono ?_
          rintro _ w5 ⟨k5, ⟨_, rfl, ci5⟩ | ⟨e, i, l, hp, he, rfl, hch, ci5⟩⟩
          · refine ⟨_, _, _, rfl, Wif_yes rfl (Wif_yes rfl ?_)⟩
            have d5 : Drp w w5 C M O z c k L4 := ⟨ci5, d4.ix, d4.o.kx k5 d4.nO, d4.nO, d4.gO⟩
            exact drops_tail d5 (by omega) hqN fun w' k' => fin_cknown k'
          · obtain ⟨fi, hfi, hfr, hfl, hLe⟩ := d4.ix.mem he
            refine ⟨_, _, _, rfl, Wif_no rfl ?_⟩
            rw [hfr, htn]
            have ht1 : ∀ j, (took e.s i l).turn j = 0 := fun j => d4.ix.nt e he j
            have a4 := (d4.ci.at'.sl e he).1
            have hb4 := outv_nonneg a4
            have hil : (e.s.ch.length : Int) = l.length + 1 := by rw [hch]; simp
            have oO5 := d4.o.kx k5 d4.nO
            have hov : (outL L4)[fi]? = some (.int .i64 (outv e)) := by
              rw [← hLe]; simp [outL, hfl]
            have hol : fi < (outL L4).length := by simpa using hfl
            refine Wif_no (by simp; omega) (Wif_yes (inB_of (by omega) (by omega)) ⟨_, by rw [Int.toNat_natCast, Nat.zero_add, Nat.mul_one, oO5.rd]; exact hov, Wif_yes (inB_of (by omega) (by omega)) ⟨by rw [Int.toNat_natCast, Nat.zero_add, Nat.mul_one]; exact oO5.wr hol, ?_⟩⟩)
            intro w6 e6
            rw [Int.toNat_natCast, Nat.zero_add, Nat.mul_one] at e6
            have hv6 : IntKind.wrap .i64 (outv e + 1) = ((took e.s i l).count : Int) - (took e.s i l).ch.length := by
              have h1 : ((took e.s i l).count : Int) = e.s.count := rfl
              have h2 : ((took e.s i l).ch.length : Int) = l.length := rfl
              rw [h1, h2]
              unfold outv
              rw [wi (by omega)]
              omega
            rw [hv6] at e6
            have d6 := d4.go he hfi hfr ci5 k5 ht1 e6
            refine Wif_yes (by simp) (Wif_intro (fun hback => ?_) (fun hback => ?_))
            · have hin6 : set1 e (took e.s i l) (blanked e.f (e.s.colour + i * e.s.size) e.s.size) ∈ setL L4 (set1 e (took e.s i l) (blanked e.f (e.s.colour + i * e.s.size) e.s.size)) :=
                List.mem_map.2 ⟨e, he, if_pos rfl⟩
              have hg := give_cis d6.ci hin6 i
              have hfr6 : (set1 e (took e.s i l) (blanked e.f (e.s.colour + i * e.s.size) e.s.size)).fr = fi := hfr
              rw [hfr6] at hg
              have hic : i < e.s.count := a4.good.lt i (by rw [hch]; simp)
              have hgo : giveOf (set1 e (took e.s i l) (blanked e.f (e.s.colour + i * e.s.size) e.s.size)).s i = 0 := by
                show giveOf (took e.s i l) i = 0
                unfold giveOf
                have h1 : ((took e.s i l).count : Int) = e.s.count := rfl
                rw [h1, if_pos (by omega), Int.toNat_natCast, ht1]
                have : (took e.s i l).out i = true := upd_same _ _ _
                rw [this]
                rfl
              refine hg.mono ?_
              rintro _ w7 ⟨rfl, k7, h7⟩
              rw [if_pos hgo] at h7
              rw [Int.toNat_natCast] at h7
              rw [hgo]
              have o7 := d6.o.kx k7 d6.nO
              have hov7 : (outL (setL L4 (set1 e (took e.s i l) (blanked e.f (e.s.colour + i * e.s.size) e.s.size))))[fi]? = some (.int .i64 (((took e.s i l).count : Int) - (took e.s i l).ch.length)) := by
                rw [outL_set d4.ix hfi _ hfr6]
                rw [List.getElem?_set_self (by exact hol)]
                rfl
              refine ⟨_, rfl, Wif_no rfl (Wif_yes (inB_of (by omega) (by omega)) ⟨_, by rw [Int.toNat_natCast, Nat.zero_add, Nat.mul_one, o7.rd]; exact hov7, Wif_yes (inB_of (by omega) (by omega)) ⟨by rw [Int.toNat_natCast, Nat.zero_add, Nat.mul_one]; exact o7.wr (by simpa [setL_len] using hfl), ?_⟩⟩)⟩
              intro w8 e8
              rw [Int.toNat_natCast, Nat.zero_add, Nat.mul_one] at e8
              have hv8 : IntKind.wrap .i64 (((took e.s i l).count : Int) - (took e.s i l).ch.length - 1) = ((gave (took e.s i l) i).count : Int) - (gave (took e.s i l) i).ch.length := by
                have h1 : ((took e.s i l).count : Int) = e.s.count := rfl
                have h2 : ((took e.s i l).ch.length : Int) = l.length := rfl
                have h3 : ((gave (took e.s i l) i).count : Int) = e.s.count := rfl
                have h4 : ((gave (took e.s i l) i).ch.length : Int) = l.length + 1 := rfl
                rw [h1, h2, h3, h4, wi (by omega)]
                omega
              rw [hv8] at e8
              have d8 := d6.go hin6 hfi hfr6 h7 k7 ht1 e8
              exact ⟨(taken - (t + 1 : Nat)).toNat, by omega, t + 1, _, by rw [wi (by omega)]; rfl, by omega, rfl, d8⟩
            · exact ⟨(taken - (t + 1 : Nat)).toNat, by omega, t + 1, _, by rw [wi (by omega)]; rfl, by omega, rfl, d6⟩
        · exact Wif_yes rfl (drops_tail d4 (by omega) hqN fun w' k' => fin_cknown k')
    · refine (cnew_no size hm w).mono ?_
      rintro _ w1 ⟨rfl, k1⟩
      exact ⟨_, _, rfl, Wif_yes rfl (fin_cknown k1)⟩
  · rintro e w' ⟨v, rfl, rfl, h⟩
    exact ⟨rfl, h⟩
end Go.Proofs.Ytkancagfhbkhiaa
