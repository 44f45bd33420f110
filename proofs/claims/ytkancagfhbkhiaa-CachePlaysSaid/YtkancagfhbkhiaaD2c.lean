/-
  A part of a proof that a law of this seat returns true at every input. Conditions: those in each theorem.
-/
import Derived.Test.YtkancagfhbkhiaaD1c
namespace Go.Proofs.Ytkancagfhbkhiaa
open Go Eng
set_option linter.unusedSimpArgs false
set_option linter.unusedVariables false
set_option maxRecDepth 10000

section
variable {w w' : World} {C M z c : Nat} {L L1 L2 : List Slb}
theorem mem_mid (L1 L2 : List Slb) (e : Slb) : e ∈ L1 ++ e :: L2 := by simp
/-! ### Give -/
def set1 (e : Slb) (s : Sl) (f : Nat → Int) : Slb := { e with s := s, f := f }
theorem cgive_out (h : CAt w C M z c L) {n : Int} (hn : ∀ e ∈ L, e.fr ≠ n) (i : Int) : Calls Try.prog 38 #[ptr C, .int .i64 n, .int .i64 i] w fun r w' => r = .returned (.int .i64 7) ∧ w' = w := by
  refine (vc38 _ _ _ w (fun v w' => v = .int .i64 7 ∧ w' = w) ?_).mono ?_
  · unfold vcP38
    refine (slab_out h hn).mono ?_
    rintro _ w1 ⟨rfl, rfl⟩
    exact ⟨_, _, rfl, Wif_yes rfl ⟨rfl, rfl⟩⟩
  · rintro e w' ⟨v, rfl, rfl, h⟩
    exact ⟨rfl, h⟩
theorem cgive_no {e : Slb} (h : CAt w C M z c L) (he : e ∈ L) (i : Int) (hg : giveOf e.s i ≠ 0) : Calls Try.prog 38 #[ptr C, .int .i64 e.fr, .int .i64 i] w fun r w' => r = .returned (.int .i64 (giveOf e.s i)) ∧ Kept none' w w' := by
  refine (vc38 _ _ _ w (fun v w' => v = .int .i64 (giveOf e.s i) ∧ Kept none' w w') ?_).mono ?_
  · unfold vcP38
    refine (slab_in h he).mono ?_
    rintro _ w1 ⟨rfl, rfl⟩
    refine ⟨_, _, rfl, Wif_no rfl ((give_no (h.sl e he).1 i hg).mono ?_)⟩
    rintro _ w2 ⟨rfl, k⟩
    exact ⟨_, rfl, rfl, k⟩
  · rintro e w' ⟨v, rfl, rfl, h⟩
    exact ⟨rfl, h⟩
theorem cgive_ok {e : Slb} (h : CAt w C M z c (L1 ++ e :: L2)) (k : Nat) (hk : k < e.s.count) (ho : e.s.out k = true) (ht : e.s.turn k = 0) : Calls Try.prog 38 #[ptr C, .int .i64 e.fr, .int .i64 k] w fun r w' =>
    r = .returned (.int .i64 0) ∧ Kept (two e.S e.B) w w' ∧ CAt w' C M z c (L1 ++ set1 e (gave e.s k) (upd e.f (e.s.colour + k * e.s.size) (Ytkancagfhbkhiaa.fst e.s.ch)) :: L2) := by
  have he := mem_mid L1 L2 e
  refine (vc38 _ _ _ w (fun v w' => v = .int .i64 0 ∧ Kept (two e.S e.B) w w' ∧ CAt w' C M z c (L1 ++ set1 e (gave e.s k) (upd e.f (e.s.colour + k * e.s.size) (Ytkancagfhbkhiaa.fst e.s.ch)) :: L2)) ?_).mono ?_
  · unfold vcP38
    refine (slab_in h he).mono ?_
    rintro _ w1 ⟨rfl, rfl⟩
    refine ⟨_, _, rfl, Wif_no rfl ((give_ok (h.sl e he).1 k hk ho ht).mono ?_)⟩
    rintro _ w2 ⟨rfl, k2, a2⟩
    exact ⟨_, rfl, rfl, k2, h.step k2 a2 rfl⟩
  · rintro e w' ⟨v, rfl, rfl, h⟩
    exact ⟨rfl, h⟩
/-! ### Drop -/
theorem cdrop_out (h : CAt w C M z c L) {n : Int} (hn : ∀ e ∈ L, e.fr ≠ n) : Calls Try.prog 42 #[ptr C, .int .i64 n] w fun r w' => r = .returned (.int .i64 7) ∧ w' = w := by
  refine (vc42 _ _ w (fun v w' => v = .int .i64 7 ∧ w' = w) ?_).mono ?_
  · unfold vcP42
    refine (slab_out h hn).mono ?_
    rintro _ w1 ⟨rfl, rfl⟩
    exact ⟨_, _, rfl, Wif_yes rfl ⟨rfl, rfl⟩⟩
  · rintro e w' ⟨v, rfl, rfl, h⟩
    exact ⟨rfl, h⟩
theorem cdrop_no {e : Slb} (h : CAt w C M z c L) (he : e ∈ L) (hx : e.s.ch.length ≠ e.s.count) : Calls Try.prog 42 #[ptr C, .int .i64 e.fr] w fun r w' => r = .returned (.int .i64 80) ∧ w' = w := by
  refine (vc42 _ _ w (fun v w' => v = .int .i64 80 ∧ w' = w) ?_).mono ?_
  · unfold vcP42
    refine (slab_in h he).mono ?_
    rintro _ w1 ⟨rfl, rfl⟩
    refine ⟨_, _, rfl, Wif_no rfl ((isemp_spec (h.sl e he).1).mono ?_)⟩
    rintro _ w2 ⟨rfl, rfl⟩
    exact ⟨_, rfl, Wif_yes (by simp [hx]) ⟨rfl, rfl⟩⟩
  · rintro e w' ⟨v, rfl, rfl, h⟩
    exact ⟨rfl, h⟩
theorem frs_ne {e : Slb} (h : ((L1 ++ e :: L2).map (·.fr)).Pairwise (· < ·)) : (∀ x ∈ L1, x.fr ≠ e.fr) ∧ (∀ x ∈ L2, x.fr ≠ e.fr) := by
  rw [List.map_append, List.map_cons, List.pairwise_append, List.pairwise_cons] at h
  obtain ⟨_, ⟨h2, _⟩, h3⟩ := h
  refine ⟨fun x hx => ?_, fun x hx => ?_⟩
  · have := h3 x.fr (List.mem_map.2 ⟨x, hx, rfl⟩) e.fr (List.mem_cons_self ..)
    omega
  · have := h2 x.fr (List.mem_map.2 ⟨x, hx, rfl⟩)
    omega
theorem CAt.drop {e : Slb} (h : CAt w C M z c (L1 ++ e :: L2)) (k : Kept (· = M) w w') (m : MapIs w' M ((entM (L1 ++ e :: L2)).filter fun p => p.1 != e.fr)) : CAt w' C M z c (L1 ++ L2) := by
  obtain ⟨f1, f2⟩ := frs_ne h.so
  have hfl : (entM (L1 ++ e :: L2)).filter (fun p => p.1 != e.fr) = entM (L1 ++ L2) := by
    have t1 : (entM L1).filter (fun p => p.1 != e.fr) = entM L1 := by
      rw [List.filter_eq_self]
      intro p hp
      obtain ⟨x, hx, rfl⟩ := List.mem_map.1 hp
      simpa using f1 x hx
    have t2 : (entM L2).filter (fun p => p.1 != e.fr) = entM L2 := by
      rw [List.filter_eq_self]
      intro p hp
      obtain ⟨x, hx, rfl⟩ := List.mem_map.1 hp
      simpa using f2 x hx
    show ((L1 ++ e :: L2).map fun e => (e.fr, ptr e.S)).filter _ = (L1 ++ L2).map fun e => (e.fr, ptr e.S)
    rw [List.map_append, List.map_cons, List.filter_append, List.filter_cons, List.map_append]
    rw [if_neg (by simp)]
    exact congr (congrArg _ t1) t2
  rw [hfl] at m
  have sub : (L1 ++ L2).Sublist (L1 ++ e :: L2) := List.Sublist.append (List.Sublist.refl _) (List.sublist_cons_self _ _)
  refine ⟨h.co.kx k h.cm, m, fun x hx => ?_, h.so.sublist (sub.map _), fun x hx => h.nn x (sub.subset hx), h.ap.sublist (sub.map _), fun x hx => h.nC x (sub.subset hx), h.cm, h.zc⟩
  obtain ⟨n1, n2, n3, n4⟩ := h.nC x (sub.subset hx)
  exact ⟨(h.sl x (sub.subset hx)).1.kx k n3 n4, (h.sl x (sub.subset hx)).2⟩
theorem cdrop_ok {e : Slb} (h : CAt w C M z c (L1 ++ e :: L2)) (hx : e.s.ch.length = e.s.count) : Calls Try.prog 42 #[ptr C, .int .i64 e.fr] w fun r w' => r = .returned (.int .i64 0) ∧ Kept (· = M) w w' ∧ CAt w' C M z c (L1 ++ L2) := by
  have he := mem_mid L1 L2 e
  refine (vc42 _ _ w (fun v w' => v = .int .i64 0 ∧ Kept (· = M) w w' ∧ CAt w' C M z c (L1 ++ L2)) ?_).mono ?_
  · unfold vcP42
    refine (slab_in h he).mono ?_
    rintro _ w1 ⟨rfl, rfl⟩
    refine ⟨_, _, rfl, Wif_no rfl ((isemp_spec (h.sl e he).1).mono ?_)⟩
    rintro _ w2 ⟨rfl, rfl⟩
    obtain ⟨w3, hd, hm, k3⟩ := del1 (vt := 23) (kt := 3) (mt := 76) (ty := 0) Try.underlying76 Try.underlying3 h.mp e.fr
    exact ⟨_, rfl, Wif_no (by simp [hx]) (Wif_yes rfl ⟨_, h.rC2, w3, hd, rfl, k3, h.drop k3 hm⟩)⟩
  · rintro e w' ⟨v, rfl, rfl, h⟩
    exact ⟨rfl, h⟩
/-! ### Take -/
abbrev isPart (e : Slb) : Bool := decide (0 < e.s.ch.length) && decide (e.s.ch.length < e.s.count)
abbrev isEmp (e : Slb) : Bool := decide (e.s.ch.length = e.s.count)
def pick (L : List Slb) : Option Slb := (L.find? isPart).or (L.find? isEmp)
theorem find_split {p : Slb → Bool} {L : List Slb} {k : Nat} (hk : k < L.length) (hn : ∀ j (hj : j < L.length), j < k → p (L[j]'hj) = false) (hp : p (L[k]'hk) = true) : L.find? p = some (L[k]'hk) := by
  induction L generalizing k with
  | nil => exact absurd hk (by simp)
  | cons x L ih =>
    cases k with
    | zero => simp at hp ⊢; simp [hp]
    | succ k =>
      have h0 : p x = false := hn 0 (by simp) (by omega)
      rw [List.find?_cons, h0]
      simp only [List.getElem_cons_succ] at hp ⊢
      exact ih (by simpa using hk) (fun j hj hjk => hn (j + 1) (by simpa using hj) (by omega)) hp
theorem find_none {p : Slb → Bool} {L : List Slb} (hn : ∀ j (hj : j < L.length), p (L[j]'hj) = false) : L.find? p = none := by
  rw [List.find?_eq_none]
  intro x hx
  obtain ⟨j, hj, rfl⟩ := List.getElem_of_mem hx
  rw [hn j hj]
  simp
/-- a search through the frames, as the code does it -/
theorem frL_get {k : Nat} (hk : k < L.length) : (frL L)[k]? = some (.int .i64 (L[k]).fr) := by simp [frL, hk]
theorem pick_none (h : CAt w C M z c L) (hl : L.length ≤ 1000) (hp : pick L = none) : Calls Try.prog 41 #[ptr C] w fun r w' => r = .returned (.tuple #[.int .i64 0, .int .i64 0, .int .i64 7]) ∧ Kept none' w w' := by
  obtain ⟨hp1, hp2⟩ : L.find? isPart = none ∧ L.find? isEmp = none := by
    unfold pick at hp
    cases h1 : L.find? isPart with
    | none => rw [h1] at hp; exact ⟨rfl, by simpa using hp⟩
    | some x => rw [h1] at hp; simp at hp
  rw [List.find?_eq_none] at hp1 hp2
  refine (vc41 _ w (fun v w' => v = .tuple #[.int .i64 0, .int .i64 0, .int .i64 7] ∧ Kept none' w w') ?_).mono ?_
  · unfold vcP41
    refine gIf_intro (fun _ => rfl) ⟨some M, fun _ => h.rC2, Wif_no rfl ((frames_spec h hl).mono ?_)⟩
    rintro _ w1 ⟨a, cp, rfl, row1, k1⟩
    refine ⟨a, _, cp, rfl, fun _ _ n w' m => ∃ k : Nat, n = k ∧ k ≤ L.length ∧ m = L.length - k ∧ Kept none' w1 w', ⟨_, 0, rfl, by omega, rfl, Kept.refl _ _⟩, ?_⟩
    rintro _ _ n w2 m ⟨k, rfl, hk, rfl, k2⟩
    refine Wif_intro (fun hlt => ?_) (fun hge => ?_)
    · simp only [decide_eq_true_eq] at hlt
      have hk' : k < L.length := by omega
      have h2 := (h.k k1).k k2
      have s2 := (Src.of_row row1).k k2
      refine Wif_yes (s2.isp (by simp [frL]; omega)) (Wif_yes (inB_of (by omega) (by omega)) ⟨_, by rw [Int.toNat_natCast, Nat.mul_one]; exact s2.rd (frL_get hk'), Wif_yes rfl ⟨_, h2.rC2, _, h2.l1 (List.getElem_mem hk'), (part_spec (h2.sl _ (List.getElem_mem hk')).1).mono ?_⟩⟩)
      rintro _ w3 ⟨rfl, rfl⟩
      have := hp1 _ (List.getElem_mem hk')
      exact ⟨_, rfl, Wif_no (by simpa using this) ⟨L.length - (k + 1), by omega, k + 1, by rw [wi (by omega)]; rfl, by omega, rfl, k2⟩⟩
    · have h2 := (h.k k1).k k2
      have k12 := k1.tr k2
      refine (frames_spec h2 hl).mono ?_
      rintro _ w3 ⟨a', cp', rfl, row3, k3⟩
      refine ⟨a', _, cp', rfl, fun _ _ n w' m => ∃ k : Nat, n = k ∧ k ≤ L.length ∧ m = L.length - k ∧ Kept none' w3 w', ⟨_, 0, rfl, by omega, rfl, Kept.refl _ _⟩, ?_⟩
      rintro _ _ n w4 m ⟨q, rfl, hq, rfl, k4⟩
      refine Wif_intro (fun hlt => ?_) (fun hge => ⟨rfl, (k12.tr k3).tr k4⟩)
      simp only [decide_eq_true_eq] at hlt
      have hq' : q < L.length := by omega
      have h4 := (h2.k k3).k k4
      have s4 := (Src.of_row row3).k k4
      refine Wif_yes (s4.isp (by simp [frL]; omega)) (Wif_yes (inB_of (by omega) (by omega)) ⟨_, by rw [Int.toNat_natCast, Nat.mul_one]; exact s4.rd (frL_get hq'), Wif_yes rfl ⟨_, h4.rC2, _, h4.l1 (List.getElem_mem hq'), (isemp_spec (h4.sl _ (List.getElem_mem hq')).1).mono ?_⟩⟩)
      rintro _ w5 ⟨rfl, rfl⟩
      have := hp2 _ (List.getElem_mem hq')
      exact ⟨_, rfl, Wif_no (by simpa using this) ⟨L.length - (q + 1), by omega, q + 1, by rw [wi (by omega)]; rfl, by omega, rfl, k4⟩⟩
  · rintro e w' ⟨v, rfl, rfl, h⟩
    exact ⟨rfl, h⟩
/-- what Take leaves -/
structure Taken (w w' : World) (C M z c : Nat) (L : List Slb) (fr i : Int) : Prop where
  ex : ∃ (L1 L2 : List Slb) (e : Slb) (k : Nat) (l : List Nat), L = L1 ++ e :: L2 ∧ pick L = some e ∧ fr = e.fr ∧ i = k ∧ e.s.ch = k :: l ∧ Kept (two e.S e.B) w w' ∧
    CAt w' C M z c (L1 ++ set1 e (took e.s k l) (blanked e.f (e.s.colour + k * e.s.size) e.s.size) :: L2)
theorem take_at (h : CAt w C M z c L) {e : Slb} (he : e ∈ L) (hp : pick L = some e) (hch : e.s.ch ≠ []) : Calls Try.prog 19 #[ptr e.S] w fun r w' => ∃ i : Int, r = .returned (.tuple #[.int .i64 i, .int .i64 0]) ∧ Taken w w' C M z c L e.fr i := by
  obtain ⟨L1, L2, rfl⟩ := List.append_of_mem he
  obtain ⟨k, l, hkl⟩ : ∃ k l, e.s.ch = k :: l := by
    cases h : e.s.ch with
    | nil => exact absurd h hch
    | cons k l => exact ⟨k, l, rfl⟩
  refine (take_some (h.sl e he).1 hkl).mono ?_
  rintro _ w1 ⟨rfl, k1, a1⟩
  exact ⟨_, rfl, L1, L2, e, k, l, rfl, hp, rfl, rfl, hkl, k1, h.step k1 a1 rfl⟩
theorem ctake_some (h : CAt w C M z c L) (hl : L.length ≤ 1000) {e : Slb} (hp : pick L = some e) : Calls Try.prog 41 #[ptr C] w fun r w' => ∃ i : Int, r = .returned (.tuple #[.int .i64 e.fr, .int .i64 i, .int .i64 0]) ∧ ∃ w1, Kept none' w w1 ∧ Taken w1 w' C M z c L e.fr i := by
  refine (vc41 _ w (fun v w' => ∃ i : Int, v = .tuple #[.int .i64 e.fr, .int .i64 i, .int .i64 0] ∧ ∃ w1, Kept none' w w1 ∧ Taken w1 w' C M z c L e.fr i) ?_).mono ?_
  · unfold vcP41
    refine gIf_intro (fun _ => rfl) ⟨some M, fun _ => h.rC2, Wif_no rfl ((frames_spec h hl).mono ?_)⟩
    rintro _ w1 ⟨a, cp, rfl, row1, k1⟩
    refine ⟨a, _, cp, rfl, fun _ _ n w' m => ∃ k : Nat, n = k ∧ k ≤ L.length ∧ m = L.length - k ∧ Kept none' w1 w' ∧ ∀ j (hj : j < L.length), j < k → isPart (L[j]'hj) = false, ⟨_, 0, rfl, by omega, rfl, Kept.refl _ _, fun j hj h => by omega⟩, ?_⟩
    rintro _ _ n w2 m ⟨k, rfl, hk, rfl, k2, hno⟩
    have h2 := (h.k k1).k k2
    have k12 := k1.tr k2
    refine Wif_intro (fun hlt => ?_) (fun hge => ?_)
    · simp only [decide_eq_true_eq] at hlt
      have hk' : k < L.length := by omega
      have s2 := (Src.of_row row1).k k2
      refine Wif_yes (s2.isp (by simp [frL]; omega)) (Wif_yes (inB_of (by omega) (by omega)) ⟨_, by rw [Int.toNat_natCast, Nat.mul_one]; exact s2.rd (frL_get hk'), Wif_yes rfl ⟨_, h2.rC2, _, h2.l1 (List.getElem_mem hk'), (part_spec (h2.sl _ (List.getElem_mem hk')).1).mono ?_⟩⟩)
      rintro _ w3 ⟨rfl, rfl⟩
      refine ⟨_, rfl, Wif_intro (fun hpart => ?_) (fun hpart => ?_)⟩
      · have hf : L.find? isPart = some L[k] := find_split hk' hno hpart
        have hpk : pick L = some L[k] := by unfold pick; rw [hf]; rfl
        have hee : L[k] = e := by rw [hpk] at hp; exact Option.some.inj hp
        refine Wif_yes rfl ⟨_, h2.rC2, _, h2.l1 (List.getElem_mem hk'), (take_at h2 (List.getElem_mem hk') hpk ?_).mono ?_⟩
        · intro hx
          simp [isPart, hx] at hpart
        · rintro _ w4 ⟨i, rfl, ht⟩
          rw [hee] at ht
          refine ⟨_, _, rfl, i, ?_, _, k12, ht⟩
          rw [hee]
      · exact ⟨L.length - (k + 1), by omega, k + 1, by rw [wi (by omega)]; rfl, by omega, rfl, k2, fun j hj hjk => by
          by_cases e : j = k
          · subst e; exact hpart
          · exact hno j hj (by omega)⟩
    · simp only [decide_eq_false_iff_not] at hge
      have hf1 : L.find? isPart = none := find_none fun j hj => hno j hj (by omega)
      refine (frames_spec h2 hl).mono ?_
      rintro _ w3 ⟨a', cp', rfl, row3, k3⟩
      refine ⟨a', _, cp', rfl, fun _ _ n w' m => ∃ k : Nat, n = k ∧ k ≤ L.length ∧ m = L.length - k ∧ Kept none' w3 w' ∧ ∀ j (hj : j < L.length), j < k → isEmp (L[j]'hj) = false, ⟨_, 0, rfl, by omega, rfl, Kept.refl _ _, fun j hj h => by omega⟩, ?_⟩
      rintro _ _ n w4 m ⟨q, rfl, hq, rfl, k4, hno2⟩
      have h4 := (h2.k k3).k k4
      have k14 := (k12.tr k3).tr k4
      refine Wif_intro (fun hlt => ?_) (fun hge2 => ?_)
      · simp only [decide_eq_true_eq] at hlt
        have hq' : q < L.length := by omega
        have s4 := (Src.of_row row3).k k4
        refine Wif_yes (s4.isp (by simp [frL]; omega)) (Wif_yes (inB_of (by omega) (by omega)) ⟨_, by rw [Int.toNat_natCast, Nat.mul_one]; exact s4.rd (frL_get hq'), Wif_yes rfl ⟨_, h4.rC2, _, h4.l1 (List.getElem_mem hq'), (isemp_spec (h4.sl _ (List.getElem_mem hq')).1).mono ?_⟩⟩)
        rintro _ w5 ⟨rfl, rfl⟩
        refine ⟨_, rfl, Wif_intro (fun hpart => ?_) (fun hpart => ?_)⟩
        · have hf : L.find? isEmp = some L[q] := find_split hq' hno2 hpart
          have hpk : pick L = some L[q] := by unfold pick; rw [hf1, hf]; rfl
          have hee : L[q] = e := by rw [hpk] at hp; exact Option.some.inj hp
          refine Wif_yes rfl ⟨_, h4.rC2, _, h4.l1 (List.getElem_mem hq'), (take_at h4 (List.getElem_mem hq') hpk ?_).mono ?_⟩
          · intro hx
            have := (h4.sl _ (List.getElem_mem hq')).1.good.count1
            simp [isEmp, hx] at hpart
            omega
          · rintro _ w6 ⟨i, rfl, ht⟩
            rw [hee] at ht
            refine ⟨_, _, rfl, i, ?_, _, k14, ht⟩
            rw [hee]
        · exact ⟨L.length - (q + 1), by omega, q + 1, by rw [wi (by omega)]; rfl, by omega, rfl, k4, fun j hj hjk => by
            by_cases e : j = q
            · subst e; exact hpart
            · exact hno2 j hj (by omega)⟩
      · simp only [decide_eq_false_iff_not] at hge2
        have hf2 : L.find? isEmp = none := find_none fun j hj => hno2 j hj (by omega)
        unfold pick at hp
        rw [hf1, hf2] at hp
        cases hp
  · rintro e w' ⟨v, rfl, i, rfl, h⟩
    exact ⟨i, rfl, h⟩
end
end Go.Proofs.Ytkancagfhbkhiaa
