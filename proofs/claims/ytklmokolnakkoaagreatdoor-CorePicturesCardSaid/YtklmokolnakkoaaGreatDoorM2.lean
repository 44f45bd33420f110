/-
  A part of a proof that a law of this seat returns true at every input. Conditions: those in each theorem.
-/
import Derived.Test.YtklmokolnakkoaaGreatDoorMV1
import Derived.Test.YtklmokolnakkoaaGreatDoorMV2
set_option linter.unusedSimpArgs false
set_option linter.unusedVariables false
set_option maxRecDepth 100000
namespace Go.Proofs.YtklmokolnakkoaaGreatDoor
open Go Go.Eng
def mayM (x : Mark) : Bool := decide (1 ≤ x.role ∧ x.role ≤ 5 ∧ 0 ≤ x.order ∧ x.order ≤ 10 ∧ 0 ≤ x.owner ∧ x.owner ≤ 65535 ∧ 0 ≤ x.page ∧ x.page ≤ 65535 ∧ 0 ≤ x.index)
theorem mmay_spec (x : Mark) (w : World) : Calls Tryz.prog 146 #[.agg (markV x).toArray] w fun e w' => e = .returned (.bool (mayM x)) ∧ Kept none' w w' := by
  refine (vc146 x.role x.order x.owner x.page x.index w (fun v w' => v = .bool (mayM x) ∧ Kept none' w w') ?_).mono ?_
  rotate_left
  · rintro e w' ⟨v, rfl, rfl, h⟩
    exact ⟨rfl, h⟩
  unfold vcP146
  intro w1 e1
  have o1 := own_alloc (c := markV x) e1
  have k1 : Kept none' w w1 := (Kept.refl _ _).al e1
  obtain ⟨r0, r1, r2, r3, r4⟩ := rd5 o1
  have no : ∀ {b : Bool}, b = false → (¬ (1 ≤ x.role ∧ x.role ≤ 5 ∧ 0 ≤ x.order ∧ x.order ≤ 10 ∧ 0 ≤ x.owner ∧ x.owner ≤ 65535 ∧ 0 ≤ x.page ∧ x.page ≤ 65535 ∧ 0 ≤ x.index)) → b = mayM x := fun h1 h2 => by rw [h1]; unfold mayM; simp only [h2, decide_false]
  refine ⟨_, r0, _, fun _ => r0, _, fun _ => r1, Wif_intro (fun h1 => ⟨_, fun _ => r2, Wif_intro (fun h2 => ⟨_, fun _ => r3, Wif_intro (fun h3 => ⟨_, fun _ => r4, ?_, k1⟩) (fun h3 => ⟨?_, k1⟩)⟩) (fun h2 => ⟨?_, k1⟩)⟩) (fun h1 => ⟨?_, k1⟩)⟩
  · simp only [Bool.and_eq_true, decide_eq_true_eq] at h1 h2 h3
    congr 1
    unfold mayM
    rw [Bool.eq_iff_iff]
    simp only [Bool.and_eq_true, decide_eq_true_eq]
    omega
  · simp only [Bool.and_eq_false_iff, decide_eq_false_iff_not] at h3
    rw [← no (b := false) rfl (by omega)]
  · simp only [Bool.and_eq_false_iff, decide_eq_false_iff_not] at h2
    rw [← no (b := false) rfl (by omega)]
  · simp only [Bool.and_eq_false_iff, decide_eq_false_iff_not] at h1
    rw [← no (b := false) rfl (by omega)]
theorem upd_upd {α : Type} (f : Nat → α) (i : Nat) (a b : α) : upd (upd f i a) i b = upd f i b := by
  funext j
  by_cases h : j = i
  · subst h; rw [upd_same, upd_same]
  · rw [upd_ne _ _ h, upd_ne _ _ h, upd_ne _ _ h]
theorem own_put5 {w w' : World} {b n i : Nat} {f : Nat → List Value} {v0 v1 v2 v3 v4 : Value} (h : own w b (rowL n f)) (hf : ∀ j, j < n → (f j).length = 5) (hi : i < n)
    (e : w' = st (st (st (st (st w b (0 + i * 5) v0) b (0 + i * 5 + 1) v1) b (0 + i * 5 + 2) v2) b (0 + i * 5 + 3) v3) b (0 + i * 5 + 4) v4) : own w' b (rowL n (upd f i [v0, v1, v2, v3, v4])) ∧ Kept (· = b) w w' := by
  subst e
  rw [Nat.zero_add]
  have hu : ∀ {l : List Value}, l.length = 5 → ∀ j, j < n → (upd f i l j).length = 5 := fun hl j hj => by
    by_cases e : j = i
    · subst e; rw [upd_same]; exact hl
    · rw [upd_ne _ _ e]; exact hf j hj
  have h0 := h.st_same (o := i * 5) (v := v0)
  obtain ⟨a0, a1, a2, a3, a4, ha⟩ : ∃ a0 a1 a2 a3 a4, f i = [a0, a1, a2, a3, a4] := by
    have := hf i hi
    match f i, this with
    | [a0, a1, a2, a3, a4], _ => exact ⟨a0, a1, a2, a3, a4, rfl⟩
  have s0 := rowL_set hf hi (j := 0) (v := v0) (by decide)
  rw [Nat.add_zero, ha] at s0
  have s1 := rowL_set (f := upd f i [v0, a1, a2, a3, a4]) (hu rfl) hi (j := 1) (v := v1) (by decide)
  have s2 := rowL_set (f := upd f i [v0, v1, a2, a3, a4]) (hu rfl) hi (j := 2) (v := v2) (by decide)
  have s3 := rowL_set (f := upd f i [v0, v1, v2, a3, a4]) (hu rfl) hi (j := 3) (v := v3) (by decide)
  have s4 := rowL_set (f := upd f i [v0, v1, v2, v3, a4]) (hu rfl) hi (j := 4) (v := v4) (by decide)
  rw [upd_same, upd_upd] at s1 s2 s3 s4
  have o := h.st_same (o := i * 5) (v := v0) |>.st_same (o := i * 5 + 1) (v := v1) |>.st_same (o := i * 5 + 2) (v := v2) |>.st_same (o := i * 5 + 3) (v := v3) |>.st_same (o := i * 5 + 4) (v := v4)
  rw [s0] at o
  simp only [List.set_cons_zero, List.set_cons_succ] at o s1 s2 s3 s4
  rw [s1, s2, s3, s4] at o
  exact ⟨o, ((((Kept.refl (· = b) w).st (.inl rfl)).st (.inl rfl)).st (.inl rfl)).st (.inl rfl) |>.st (.inl rfl)⟩
theorem own_put2 {w w' : World} {b n i : Nat} {f : Nat → List Value} {v0 v1 : Value} (h : own w b (rowL n f)) (hf : ∀ j, j < n → (f j).length = 2) (hi : i < n)
    (e : w' = st (st w b (0 + i * 2) v0) b (0 + i * 2 + 1) v1) : own w' b (rowL n (upd f i [v0, v1])) ∧ Kept (· = b) w w' := by
  subst e
  rw [Nat.zero_add]
  have hu : ∀ {l : List Value}, l.length = 2 → ∀ j, j < n → (upd f i l j).length = 2 := fun hl j hj => by
    by_cases e : j = i
    · subst e; rw [upd_same]; exact hl
    · rw [upd_ne _ _ e]; exact hf j hj
  obtain ⟨a0, a1, ha⟩ : ∃ a0 a1, f i = [a0, a1] := by
    have := hf i hi
    match f i, this with
    | [a0, a1], _ => exact ⟨a0, a1, rfl⟩
  have s0 := rowL_set hf hi (j := 0) (v := v0) (by decide)
  rw [Nat.add_zero, ha] at s0
  have s1 := rowL_set (f := upd f i [v0, a1]) (hu rfl) hi (j := 1) (v := v1) (by decide)
  rw [upd_same, upd_upd] at s1
  have o := h.st_same (o := i * 2) (v := v0) |>.st_same (o := i * 2 + 1) (v := v1)
  rw [s0] at o
  simp only [List.set_cons_zero, List.set_cons_succ] at o s1
  rw [s1] at o
  exact ⟨o, ((Kept.refl (· = b) w).st (.inl rfl)).st (.inl rfl)⟩
def smE (n : Nat) (frame : Int) (x : Mark) : Int := if frame < 0 ∨ frame ≥ n then 7 else if mayM x then 0 else 2
def smS (mk : Nat → Mark) (n : Nat) (frame : Int) (x : Mark) : Nat → Mark := if smE n frame x = 0 then upd mk frame.toNat x else mk
section
variable {w : World} {m bb mb : Nat} {c : Nat → Int} {n : Nat} {by' : Nat → Int} {mk : Nat → Mark}
theorem setMark_spec (h : MemAt w m bb mb c n by' mk) (frame : Int) (x : Mark) :
    Calls Tryz.prog 95 #[ptr m, vi frame, .agg (markV x).toArray] w fun e w' => e = .returned (vi (smE n frame x)) ∧ Kept (· = mb) w w' ∧ MemAt w' m bb mb c n by' (smS mk n frame x) := by
  refine (vc95 _ frame x.role x.order x.owner x.page x.index w (fun v w' => v = vi (smE n frame x) ∧ Kept (· = mb) w w' ∧ MemAt w' m bb mb c n by' (smS mk n frame x)) ?_).mono ?_
  rotate_left
  · rintro e w' ⟨v, rfl, rfl, h⟩
    exact ⟨rfl, h⟩
  have hl := h.ms.lt
  unfold vcP95
  intro w1 e1
  have o1 := own_alloc (c := markV x) e1
  have k1 : Kept none' w w1 := (Kept.refl _ _).al e1
  have h1 := h.k k1
  have h95 : ∀ {W : World}, Kept none' w1 W → rd W m (0 + 95) = some (.slice (some ⟨mb, 0, none⟩) n n) := fun kk => by rw [Nat.zero_add]; exact (h1.k kk).r95
  have kr := Kept.refl none' w1
  refine gIf_intro (fun _ => rfl) ⟨_, _, _, fun _ => h95 kr, Wif_no rfl (gIf_intro (fun _ => rfl) ⟨_, _, _, fun _ => h95 kr, Wif_intro (fun hf => ?_) (fun hf => ?_)⟩)⟩
  · have e7 : smE n frame x = 7 := by unfold smE; rw [if_pos (by simpa using hf)]
    have es : smS mk n frame x = mk := by unfold smS; rw [e7]; rfl
    rw [e7, es]
    exact ⟨rfl, k1.mono fun _ _ e => e.elim, h1⟩
  have hf' : 0 ≤ frame ∧ frame < n := by simp at hf; omega
  obtain ⟨f, rfl⟩ : ∃ f : Nat, frame = f := ⟨frame.toNat, by omega⟩
  have hfn : f < n := by omega
  refine ⟨_, _, _, _, _, rd5 o1, (mmay_spec x w1).mono ?_⟩
  rintro _ w2 ⟨rfl, k2⟩
  refine ⟨_, rfl, Wif_intro (fun hb => ?_) (fun hb => ?_)⟩
  · have e2 : smE n (f : Int) x = 2 := by unfold smE; rw [if_neg (by omega), if_neg (by simpa using hb)]
    have es : smS mk n (f : Int) x = mk := by unfold smS; rw [e2]; rfl
    rw [e2, es]
    exact ⟨rfl, (k1.tr k2).mono fun _ _ e => e.elim, h1.k k2⟩
  have e0 : smE n (f : Int) x = 0 := by unfold smE; rw [if_neg (by omega), if_pos (by simpa using hb)]
  have es : smS mk n (f : Int) x = upd mk f x := by unfold smS; rw [if_pos e0]; rfl
  rw [e0, es]
  intro w3 e3
  have k3 : Kept none' w1 w3 := k2.dr e3
  have h3 := h1.k k3
  have hf5 : ∀ j, j < n → (markV (mk j)).length = 5 := fun _ _ => rfl
  have hlen : (rowL n fun i => markV (mk i)).length = n * 5 := rowL_len hf5
  refine Wif_yes rfl ⟨_, _, _, h95 k3, _, _, _, _, _, rd5 (o1.k k3), Wif_yes rfl (Wif_yes (inB_of (by omega) (by omega)) ⟨?_, fun w4 e4 => ?_⟩)⟩
  · rw [Int.toNat_natCast]
    exact ⟨h3.ms.wr (by rw [hlen]; show 0 + f * 5 < _; omega), h3.ms.wr (by rw [hlen]; show 0 + f * 5 + 1 < _; omega), h3.ms.wr (by rw [hlen]; show 0 + f * 5 + 2 < _; omega), h3.ms.wr (by rw [hlen]; show 0 + f * 5 + 3 < _; omega), h3.ms.wr (by rw [hlen]; show 0 + f * 5 + 4 < _; omega)⟩
  · rw [Int.toNat_natCast] at e4
    obtain ⟨o4, k4⟩ := own_put5 h3.ms hf5 hfn e4
    refine ⟨rfl, ((k1.tr k3).mono fun _ _ e => e.elim).trans k4 fun _ _ e => e, ⟨h3.so.kx k4 h.ne.2.1, h3.bs.kx k4 h.ne.2.2, ?_, h.ne⟩⟩
    have : (fun i => markV (upd mk f x i)) = upd (fun i => markV (mk i)) f [.int .u8 x.role, vi x.order, vi x.owner, vi x.page, vi x.index] := by
      funext j
      by_cases e : j = f
      · subst e; rw [upd_same, upd_same]; rfl
      · rw [upd_ne _ _ e, upd_ne _ _ e]
    rw [this]
    exact o4
end
def ewE (k N : Int) : Int := if k = 0 then (if N = 0 then 0 else 2) else if k = 1 ∨ k = 2 ∨ k = 3 then (if 0 ≤ N ∧ N ≤ 65535 then 0 else 2) else 2
def ewF (k N : Int) : Int := if ewE k N = 0 then k + 4 * N else 0
theorem or_small {k N : Int} (hk : 0 ≤ k ∧ k ≤ 3) (hN : 0 ≤ N ∧ N ≤ 65535) : bitsI .or .u64 (IntKind.wrap .u64 k) (IntKind.wrap .u64 (IntKind.wrap .u64 N * 4)) = k + 4 * N := by
  obtain ⟨m, rfl⟩ := Int.eq_ofNat_of_zero_le hk.1
  obtain ⟨y, rfl⟩ := Int.eq_ofNat_of_zero_le hN.1
  have e2 : (y : Int) * 4 = ((2 ^ 2 * y : Nat) : Int) := by omega
  rw [wu (x := (m : Int)) (by omega), wu (x := (y : Int)) (by omega), e2, wu (x := ((2 ^ 2 * y : Nat) : Int)) (by omega)]
  generalize hq : 2 ^ 2 * y = q at *
  have h3 : (BitVec.ofInt 64 (m : Int) ||| BitVec.ofInt 64 (q : Int)).toNat = m + q := by
    rw [BitVec.toNat_or, BitVec.toNat_ofInt, BitVec.toNat_ofInt, show ((m : Int) % ((2 ^ 64 : Nat) : Int)).toNat = m by omega, show ((q : Int) % ((2 ^ 64 : Nat) : Int)).toNat = q by omega, ← hq, Nat.or_comm, ← Nat.two_pow_add_eq_or_of_lt (by omega)]
    omega
  show IntKind.wrap .u64 ((BitVec.ofInt 64 (m : Int) ||| BitVec.ofInt 64 (q : Int)).toNat : Int) = _
  rw [h3, wu (by omega)]
  omega
theorem and_three {a : Int} (h : 0 ≤ a ∧ a ≤ 18446744073709551615) : bitsI .and .u64 a 3 = a % 4 := by
  obtain ⟨m, rfl⟩ := Int.eq_ofNat_of_zero_le h.1
  have hx : (BitVec.ofInt 64 (m : Int) &&& BitVec.ofInt 64 (3 : Int)).toNat = m % 4 := by
    rw [BitVec.toNat_and, BitVec.toNat_ofInt, BitVec.toNat_ofInt, show ((m : Int) % ((2 ^ 64 : Nat) : Int)).toNat = m by omega, show ((3 : Int) % ((2 ^ 64 : Nat) : Int)).toNat = 2 ^ 2 - 1 by decide, Nat.and_two_pow_sub_one_eq_mod]
  show IntKind.wrap .u64 ((BitVec.ofInt 64 (m : Int) &&& BitVec.ofInt 64 (3 : Int)).toNat : Int) = _
  rw [hx, wu (by omega)]
  omega
theorem eword_spec (k N : Int) (w : World) : Calls Tryz.prog 149 #[.agg #[.int .u8 k, vi N]] w fun e w' => e = .returned (.tuple #[.int .u64 (ewF k N), vi (ewE k N)]) ∧ Kept none' w w' := by
  refine (vc149 k N w (fun (v : Value) (w' : World) => v = .tuple #[.int .u64 (ewF k N), vi (ewE k N)] ∧ Kept none' w w') ?_).mono ?_
  rotate_left
  · rintro e w' ⟨v, rfl, rfl, h⟩
    exact ⟨rfl, h⟩
  unfold vcP149
  intro w1 e1
  have o1 := own_alloc (c := [.int .u8 k, vi N]) e1
  have k1 : Kept none' w w1 := (Kept.refl _ _).al e1
  have r0 : rd w1 w.heap.size 0 = some (.int .u8 k) := by rw [o1.rd]; rfl
  have r1 : rd w1 w.heap.size 1 = some (vi N) := by rw [o1.rd]; rfl
  have bad : ewE k N = 2 → (fun (v : Value) (w' : World) => v = .tuple #[.int .u64 (ewF k N), vi (ewE k N)] ∧ Kept none' w w') (.tuple #[.int .u64 0, vi 2]) w1 := fun h => by
    have : ewF k N = 0 := by unfold ewF; rw [h]; rfl
    rw [h, this]; exact ⟨rfl, k1⟩
  have good : ewE k N = 0 → 0 ≤ k ∧ k ≤ 3 → 0 ≤ N ∧ N ≤ 65535 → (fun (v : Value) (w' : World) => v = .tuple #[.int .u64 (ewF k N), vi (ewE k N)] ∧ Kept none' w w') (.tuple #[.int .u64 (bitsI .or .u64 (IntKind.wrap .u64 k) (IntKind.wrap .u64 (IntKind.wrap .u64 N * 4))), vi 0]) w1 := fun h h1 h2 => by
    have : ewF k N = k + 4 * N := by unfold ewF; rw [if_pos h]
    rw [h, this, or_small h1 h2]; exact ⟨rfl, k1⟩
  have body : (1 ≤ k ∧ k ≤ 3) → ∃ x, rd w1 w.heap.size 1 = some (vi x) ∧ ∃ x_1, (decide (x ≥ 0) = true → rd w1 w.heap.size 1 = some (vi x_1)) ∧
      Wif (decide (x ≥ 0) && decide (x_1 ≤ 65535)) (∃ x, rd w1 w.heap.size 0 = some (.int .u8 x) ∧ ∃ x_2, rd w1 w.heap.size 1 = some (vi x_2) ∧ (fun (v : Value) (w' : World) => v = .tuple #[.int .u64 (ewF k N), vi (ewE k N)] ∧ Kept none' w w') (.tuple #[.int .u64 (bitsI .or .u64 (IntKind.wrap .u64 x) (IntKind.wrap .u64 (IntKind.wrap .u64 x_2 * 4))), vi 0]) w1)
        ((fun (v : Value) (w' : World) => v = .tuple #[.int .u64 (ewF k N), vi (ewE k N)] ∧ Kept none' w w') (.tuple #[.int .u64 0, vi 2]) w1) := fun hk => by
    refine ⟨N, r1, N, fun _ => r1, Wif_intro (fun h => ?_) (fun h => ?_)⟩
    · have hN : 0 ≤ N ∧ N ≤ 65535 := by simpa using h
      exact ⟨k, r0, N, r1, good (by unfold ewE; rw [if_neg (by omega), if_pos (by omega), if_pos hN]) (by omega) hN⟩
    · have hN : ¬ (0 ≤ N ∧ N ≤ 65535) := fun e => by simp [e.1, e.2] at h
      exact bad (by unfold ewE; rw [if_neg (by omega), if_pos (by omega), if_neg hN])
  refine ⟨k, r0, Wif_intro (fun h0 => ?_) (fun h0 => ?_)⟩
  · have hk : k = 0 := by simpa using h0
    refine ⟨N, r1, Wif_intro (fun h => ?_) (fun h => ?_)⟩
    · exact bad (by unfold ewE; rw [if_pos hk, if_neg (by simpa using h)])
    · have hN : N = 0 := by simpa using h
      subst hN hk
      exact ⟨0, r1, 0, fun _ => r1, Wif_yes (by decide) ⟨0, r0, 0, r1, good (by decide) (by omega) (by omega)⟩⟩
  · have hk0 : k ≠ 0 := by simpa using h0
    refine Wif_intro (fun h1 => ?_) (fun h1 => ?_)
    · have hk : k = 1 := by simpa using h1
      exact Wif_yes h1 (body (by omega))
    · have hk1 : k ≠ 1 := by simpa using h1
      refine Wif_intro (fun h2 => ?_) (fun h2 => ?_)
      · have hk : k = 2 := by simpa using h2
        exact Wif_yes h2 (body (by omega))
      · have hk2 : k ≠ 2 := by simpa using h2
        refine Wif_intro (fun h3 => ?_) (fun h3 => ?_)
        · have hk : k = 3 := by simpa using h3
          exact body (by omega)
        · have hk3 : k ≠ 3 := by simpa using h3
          exact bad (by unfold ewE; rw [if_neg hk0, if_neg (by omega)])
def enE (x : Int) : Int := if x / 4 > 65535 ∨ (x ≠ 0 ∧ x % 4 = 0) then 5 else 0
def rdE (by' : Nat → Int) (n : Nat) (frame i : Int) : Int := if wdE n frame i ≠ 0 then wdE n frame i else enE (wdF by' n frame i)
def rdK (by' : Nat → Int) (n : Nat) (frame i : Int) : Int := if rdE by' n frame i = 0 then wdF by' n frame i % 4 else 0
def rdN (by' : Nat → Int) (n : Nat) (frame i : Int) : Int := if rdE by' n frame i = 0 then wdF by' n frame i / 4 else 0
def lfE (by' : Nat → Int) (n : Nat) (root page : Int) : Int :=
  if page < 0 ∨ page ≥ 1024 then 2 else if rdE by' n root (Int.tdiv page 32) ≠ 0 then rdE by' n root (Int.tdiv page 32) else if rdK by' n root (Int.tdiv page 32) = 0 then 7 else if rdK by' n root (Int.tdiv page 32) = 1 then 0 else 5
def lfN (by' : Nat → Int) (n : Nat) (root page : Int) : Int := if lfE by' n root page = 0 then rdN by' n root (Int.tdiv page 32) else 0
def lack (by' : Nat → Int) (n : Nat) (root page : Int) : Bool := decide (wdE n root (Int.tdiv page 32) = 0 ∧ wdF by' n root (Int.tdiv page 32) = 0)
def gtE (by' : Nat → Int) (n : Nat) (root page : Int) : Int := if lfE by' n root page = 7 ∧ lack by' n root page = true then 0 else if lfE by' n root page ≠ 0 then lfE by' n root page else rdE by' n (lfN by' n root page) (Int.tmod page 32)
def gtK (by' : Nat → Int) (n : Nat) (root page : Int) : Int := if lfE by' n root page = 0 then rdK by' n (lfN by' n root page) (Int.tmod page 32) else 0
def gtN (by' : Nat → Int) (n : Nat) (root page : Int) : Int := if lfE by' n root page = 0 then rdN by' n (lfN by' n root page) (Int.tmod page 32) else 0
def stE (by' : Nat → Int) (n : Nat) (root page k N : Int) : Int := if page < 0 ∨ page ≥ 1024 ∨ ewE k N ≠ 0 then 2 else if lfE by' n root page ≠ 0 then lfE by' n root page else wdE n (lfN by' n root page) (Int.tmod page 32)
def stS (by' : Nat → Int) (n : Nat) (root page k N : Int) : Nat → Int := if stE by' n root page k N = 0 then wdS by' n (lfN by' n root page) (Int.tmod page 32) (ewF k N) else by'
def slE (n : Nat) (root page leaf : Int) : Int := if page < 0 ∨ page ≥ 1024 ∨ leaf < -1 ∨ leaf > 65535 then 2 else wdE n root (Int.tdiv page 32)
def slS (by' : Nat → Int) (n : Nat) (root page leaf : Int) : Nat → Int := if slE n root page leaf = 0 then wdS by' n root (Int.tdiv page 32) (if leaf < 0 then 0 else 1 + 4 * leaf) else by'
theorem tdiv_r {page : Int} (h : 0 ≤ page ∧ page < 1024) : 0 ≤ Int.tdiv page 32 ∧ Int.tdiv page 32 ≤ 31 := by
  rw [Int.tdiv_eq_ediv_of_nonneg h.1]; omega
section
variable {w : World} {m bb mb : Nat} {c : Nat → Int} {n : Nat} {by' : Nat → Int} {mk : Nat → Mark}
theorem st2w {w w' : World} {b : Nat} {v0 v1 u0 u1 : Value} (h : own w b [v0, v1]) (e : w' = st (st w b 0 u0) b 1 u1) : own w' b [u0, u1] ∧ Kept (· = b) w w' := st2 h rfl e
theorem rd2 {w : World} {b : Nat} {v0 v1 : Value} (h : own w b [v0, v1]) : rd w b 0 = some v0 ∧ rd w b 1 = some v1 := ⟨by rw [h.rd]; rfl, by rw [h.rd]; rfl⟩
theorem wr2 {w : World} {b : Nat} {v0 v1 : Value} (h : own w b [v0, v1]) : wr w b 0 ∧ wr w b 1 := ⟨h.wr (by show 0 < 2; decide), h.wr (by show 1 < 2; decide)⟩
theorem read_spec (h : MemAt w m bb mb c n by' mk) (hb : ByR by') (hn : n ≤ 1024) (frame i : Int) :
    Calls Tryz.prog 161 #[ptr m, vi frame, vi i] w fun e w' => e = .returned (.tuple #[.agg #[.int .u8 (rdK by' n frame i), vi (rdN by' n frame i)], vi (rdE by' n frame i)]) ∧ Kept none' w w' := by
  refine (vc161 _ frame i w (fun (v : Value) (w' : World) => v = .tuple #[.agg #[.int .u8 (rdK by' n frame i), vi (rdN by' n frame i)], vi (rdE by' n frame i)] ∧ Kept none' w w') ?_).mono ?_
  rotate_left
  · rintro e w' ⟨v, rfl, rfl, h⟩
    exact ⟨rfl, h⟩
  unfold vcP161
  intro w1 e1
  have o1 : own w1 w.heap.size [.int .u8 0, vi 0] := own_alloc e1
  have k1 : Kept none' w w1 := (Kept.refl _ _).al e1
  have hsz := o1.lt
  clear e1
  generalize hb0 : w.heap.size = b0 at *
  refine (word_spec (h.k k1) hb hn frame i).mono ?_
  rintro _ wx ⟨rfl, hx⟩
  rw [hx]
  clear hx
  refine ⟨_, _, rfl, Wif_intro (fun he => ?_) (fun he => ?_)⟩
  · have hne : wdE n frame i ≠ 0 := by simpa using he
    have e1 : rdE by' n frame i = wdE n frame i := by unfold rdE; rw [if_pos hne]
    have e2 : rdK by' n frame i = 0 := by unfold rdK; rw [e1, if_neg hne]
    have e3 : rdN by' n frame i = 0 := by unfold rdN; rw [e1, if_neg hne]
    rw [e1, e2, e3]
    refine ⟨wr2 o1, fun w2 e4 => ?_⟩
    obtain ⟨o2, k2⟩ := st2w o1 e4
    exact ⟨_, _, rd2 o2, rfl, own0 k1 k2 fun x e => by omega⟩
  have hz : wdE n frame i = 0 := by simpa using he
  have e1 : rdE by' n frame i = enE (wdF by' n frame i) := by unfold rdE; rw [hz]; rfl
  have hr := wdF_r hb n frame i
  unfold rdK rdN
  rw [e1]
  generalize wdF by' n frame i = x at *
  intro w2 e2
  have o2 : own w2 w1.heap.size [.int .u8 0, vi 0] := own_alloc e2
  have k2 : Kept none' w1 w2 := (Kept.refl _ _).al e2
  have hsz2 := o2.lt
  have p2 := o1.k k2
  clear e2
  generalize hb1 : w1.heap.size = b1 at *
  have hfd : Int.fdiv x 4 = x / 4 := Int.fdiv_eq_ediv_of_nonneg _ (by decide)
  rw [and_three hr, hfd, w8, wi (x := x / 4) (by omega)]
  have fin : ∀ {y0 y1 e : Int},
      (wr w2 b1 0 ∧ wr w2 b1 1) ∧ ∀ w_2, w_2 = st (st w2 b1 0 (.int .u8 y0)) b1 1 (vi y1) → ∃ x x_1, (rd w_2 b1 0 = some (.int .u8 x) ∧ rd w_2 b1 1 = some (vi x_1)) ∧ (wr w_2 b0 0 ∧ wr w_2 b0 1) ∧
        ∀ w', w' = st (st w_2 b0 0 (.int .u8 x)) b0 1 (vi x_1) → ∃ x x_2, (rd w' b0 0 = some (.int .u8 x) ∧ rd w' b0 1 = some (vi x_2)) ∧ (fun (v : Value) (w' : World) => v = .tuple #[.agg #[.int .u8 y0, vi y1], vi e] ∧ Kept none' w w') (.tuple #[.agg #[.int .u8 x, vi x_2], vi e]) w' := by
    intro y0 y1 e
    refine ⟨wr2 o2, fun w3 e3 => ?_⟩
    obtain ⟨o3, k3⟩ := st2w o2 e3
    have p3 := p2.kx k3 (by omega)
    refine ⟨_, _, rd2 o3, wr2 p3, fun w4 e4 => ?_⟩
    obtain ⟨o4, k4⟩ := st2w p3 e4
    exact ⟨_, _, rd2 o4, rfl, (own0 (own0 (k1.tr k2) k3 fun x e => by omega) k4 fun x e => by omega)⟩
  refine Wif_intro (fun hc => ?_) (fun hc => ?_)
  · have h5 : enE x = 5 := by
      unfold enE
      rw [if_pos]
      simpa using hc
    rw [h5, if_neg (by decide), if_neg (by decide)]
    exact fin
  · have h5 : enE x = 0 := by
      unfold enE
      rw [if_neg]
      intro hh
      rw [show (decide (x / 4 > 65535) || x != 0 && x % 4 == 0) = true by simpa using hh] at hc
      cases hc
    rw [h5, if_pos rfl, if_pos rfl, show x % 4 % 256 = x % 4 by omega]
    exact fin
theorem lacks_spec (h : MemAt w m bb mb c n by' mk) (hb : ByR by') (hn : n ≤ 1024) {root page : Int} (hp : 0 ≤ page ∧ page < 1024) :
    Calls Tryz.prog 164 #[ptr m, vi root, vi page] w fun e w' => e = .returned (.bool (lack by' n root page)) ∧ Kept none' w w' := by
  refine (vc164 _ root page w (fun v w' => v = .bool (lack by' n root page) ∧ Kept none' w w') ?_).mono ?_
  rotate_left
  · rintro e w' ⟨v, rfl, rfl, h⟩
    exact ⟨rfl, h⟩
  unfold vcP164
  have := tdiv_r hp
  rw [wi (by omega)]
  refine (word_spec h hb hn root _).mono ?_
  rintro _ wx ⟨rfl, hx⟩
  rw [hx]
  refine ⟨_, _, rfl, ?_, Kept.refl _ _⟩
  congr 1
  unfold lack
  rw [Bool.eq_iff_iff]
  simp
theorem leaf_spec (h : MemAt w m bb mb c n by' mk) (hb : ByR by') (hn : n ≤ 1024) (root page : Int) :
    Calls Tryz.prog 105 #[ptr m, vi root, vi page] w fun e w' => e = .returned (.tuple #[vi (lfN by' n root page), vi (lfE by' n root page)]) ∧ Kept none' w w' := by
  refine (vc105 _ root page w (fun (v : Value) (w' : World) => v = .tuple #[vi (lfN by' n root page), vi (lfE by' n root page)] ∧ Kept none' w w') ?_).mono ?_
  rotate_left
  · rintro e w' ⟨v, rfl, rfl, h⟩
    exact ⟨rfl, h⟩
  unfold vcP105
  refine Wif_intro (fun hc => ?_) (fun hc => ?_)
  · have e2 : lfE by' n root page = 2 := by unfold lfE; rw [if_pos (by simpa using hc)]
    have e3 : lfN by' n root page = 0 := by unfold lfN; rw [e2]; rfl
    rw [e2, e3]
    exact ⟨rfl, Kept.refl _ _⟩
  have hp : 0 ≤ page ∧ page < 1024 := by simp at hc; omega
  have ht := tdiv_r hp
  rw [wi (by omega)]
  refine (read_spec h hb hn root _).mono ?_
  rintro _ w1 ⟨rfl, k1⟩
  have eL : lfE by' n root page = if rdE by' n root (Int.tdiv page 32) ≠ 0 then rdE by' n root (Int.tdiv page 32) else if rdK by' n root (Int.tdiv page 32) = 0 then 7 else if rdK by' n root (Int.tdiv page 32) = 1 then 0 else 5 := by unfold lfE; rw [if_neg (by omega)]
  unfold lfN
  rw [eL]
  generalize Int.tdiv page 32 = q at *
  refine ⟨_, _, _, rfl, fun w2 e2 => ?_⟩
  have o2 : own w2 w1.heap.size [.int .u8 0, vi 0] := own_alloc e2
  have k2 : Kept none' w1 w2 := (Kept.refl _ _).al e2
  refine ⟨wr2 o2, fun w3 e3 => ?_⟩
  obtain ⟨o3, k3⟩ := st2w o2 e3
  have K3 : Kept none' w w3 := k1.tr (own0 k2 k3 fun x e => by omega)
  obtain ⟨r0, r1⟩ := rd2 o3
  refine Wif_intro (fun hc => ?_) (fun hc => ?_)
  · have hne : rdE by' n root q ≠ 0 := by simpa using hc
    rw [if_pos hne, if_neg hne]
    exact ⟨rfl, K3⟩
  · have hz : rdE by' n root q = 0 := by simpa using hc
    rw [if_neg (show ¬ (rdE by' n root q ≠ 0) from fun e => e hz)]
    refine ⟨_, r0, Wif_intro (fun hc => ?_) (fun hc => ?_)⟩
    · have h0 : rdK by' n root q = 0 := by simpa using hc
      rw [if_pos h0]
      exact ⟨rfl, K3⟩
    · have h0 : rdK by' n root q ≠ 0 := by simpa using hc
      rw [if_neg h0]
      refine ⟨_, r0, Wif_intro (fun hc => ?_) (fun hc => ?_)⟩
      · have h1 : rdK by' n root q ≠ 1 := by simpa using hc
        rw [if_neg h1]
        exact ⟨rfl, K3⟩
      · have h1 : rdK by' n root q = 1 := by simpa using hc
        rw [if_pos h1]
        exact ⟨_, r1, rfl, K3⟩
theorem lfE_page {root page : Int} (h : lfE by' n root page ≠ 2) : 0 ≤ page ∧ page < 1024 := by
  unfold lfE at h
  split at h
  · exact absurd rfl h
  · omega
theorem get_spec (h : MemAt w m bb mb c n by' mk) (hb : ByR by') (hn : n ≤ 1024) (root page : Int) :
    Calls Tryz.prog 110 #[ptr m, vi root, vi page] w fun e w' => e = .returned (.tuple #[.agg #[.int .u8 (gtK by' n root page), vi (gtN by' n root page)], vi (gtE by' n root page)]) ∧ Kept none' w w' := by
  refine (vc110 _ root page w (fun (v : Value) (w' : World) => v = .tuple #[.agg #[.int .u8 (gtK by' n root page), vi (gtN by' n root page)], vi (gtE by' n root page)] ∧ Kept none' w w') ?_).mono ?_
  rotate_left
  · rintro e w' ⟨v, rfl, rfl, h⟩
    exact ⟨rfl, h⟩
  unfold vcP110
  intro w1 e1
  have o1 : own w1 w.heap.size [.int .u8 0, vi 0] := own_alloc e1
  have k1 : Kept none' w w1 := (Kept.refl _ _).al e1
  clear e1
  refine (leaf_spec (h.k k1) hb hn root page).mono ?_
  rintro _ w2 ⟨rfl, k2⟩
  have fin : ∀ {W : World} {y0 y1 e : Int}, Kept none' w1 W → gtK by' n root page = y0 → gtN by' n root page = y1 → gtE by' n root page = e →
      (wr W w.heap.size 0 ∧ wr W w.heap.size 1) ∧ ∀ w_1, w_1 = st (st W w.heap.size 0 (.int .u8 y0)) w.heap.size 1 (vi y1) → ∃ x x_1, (rd w_1 w.heap.size 0 = some (.int .u8 x) ∧ rd w_1 w.heap.size 1 = some (vi x_1)) ∧
        (fun (v : Value) (w' : World) => v = .tuple #[.agg #[.int .u8 (gtK by' n root page), vi (gtN by' n root page)], vi (gtE by' n root page)] ∧ Kept none' w w') (.tuple #[.agg #[.int .u8 x, vi x_1], vi e]) w_1 := by
    rintro W y0 y1 e kW rfl rfl rfl
    have oW := o1.k kW
    refine ⟨wr2 oW, fun w3 e3 => ?_⟩
    obtain ⟨o3, k3⟩ := st2w oW e3
    exact ⟨_, _, rd2 o3, rfl, own0 (k1.tr kW) k3 fun x e => by omega⟩
  have rest : lfE by' n root page = 0 → Calls Tryz.prog 161 #[ptr m, vi (lfN by' n root page), vi (Int.tmod page 32)] w2 fun e w' => ∃ n_1 n_2 n_3, e = .returned (.tuple #[.agg #[.int .u8 n_1, vi n_2], vi n_3]) ∧
      (wr w' w.heap.size 0 ∧ wr w' w.heap.size 1) ∧ ∀ w_1, w_1 = st (st w' w.heap.size 0 (.int .u8 n_1)) w.heap.size 1 (vi n_2) → ∃ x x_1, (rd w_1 w.heap.size 0 = some (.int .u8 x) ∧ rd w_1 w.heap.size 1 = some (vi x_1)) ∧
        (fun (v : Value) (w' : World) => v = .tuple #[.agg #[.int .u8 (gtK by' n root page), vi (gtN by' n root page)], vi (gtE by' n root page)] ∧ Kept none' w w') (.tuple #[.agg #[.int .u8 x, vi x_1], vi n_3]) w_1 := fun h0 => by
    refine (read_spec ((h.k k1).k k2) hb hn _ _).mono ?_
    rintro _ w3 ⟨rfl, k3⟩
    exact ⟨_, _, _, rfl, fin (k2.tr k3) (by unfold gtK; rw [if_pos h0]) (by unfold gtN; rw [if_pos h0]) (by unfold gtE; rw [if_neg (by omega), if_neg (by omega)])⟩
  refine ⟨_, _, rfl, Wif_intro (fun hc => ?_) (fun hc => ?_)⟩
  · have h7 : lfE by' n root page = 7 := by simpa using hc
    refine (lacks_spec ((h.k k1).k k2) hb hn (lfE_page (by' := by') (n := n) (root := root) (by omega))).mono ?_
    rintro _ w3 ⟨rfl, k3⟩
    refine ⟨_, rfl, Wif_intro (fun hl => ?_) (fun hl => Wif_yes (by rw [h7]; rfl) ?_)⟩
    · exact fin (k2.tr k3) (by unfold gtK; rw [if_neg (by omega)]) (by unfold gtN; rw [if_neg (by omega)]) (by unfold gtE; rw [if_pos ⟨h7, hl⟩])
    · exact fin (k2.tr k3) (by unfold gtK; rw [if_neg (by omega)]) (by unfold gtN; rw [if_neg (by omega)]) (by unfold gtE; rw [if_neg (fun e => by rw [e.2] at hl; cases hl), if_pos (by omega)])
  · have h7 : lfE by' n root page ≠ 7 := by simpa using hc
    refine Wif_intro (fun hc => ?_) (fun hc => ?_)
    · have hne : lfE by' n root page ≠ 0 := by simpa using hc
      exact fin k2 (by unfold gtK; rw [if_neg (by omega)]) (by unfold gtN; rw [if_neg (by omega)]) (by unfold gtE; rw [if_neg (fun e => h7 e.1), if_pos hne])
    · exact rest (by simpa using hc)
theorem set_spec (h : MemAt w m bb mb c n by' mk) (hb : ByR by') (hn : n ≤ 1024) (root page k N : Int) :
    Calls Tryz.prog 107 #[ptr m, vi root, vi page, .agg #[.int .u8 k, vi N]] w fun e w' => e = .returned (vi (stE by' n root page k N)) ∧ Kept (· = bb) w w' ∧ MemAt w' m bb mb c n (stS by' n root page k N) mk := by
  refine (vc107 _ root page k N w (fun v w' => v = vi (stE by' n root page k N) ∧ Kept (· = bb) w w' ∧ MemAt w' m bb mb c n (stS by' n root page k N) mk) ?_).mono ?_
  rotate_left
  · rintro e w' ⟨v, rfl, rfl, h⟩
    exact ⟨rfl, h⟩
  unfold vcP107
  intro w1 e1
  have o1 : own w1 w.heap.size [.int .u8 k, vi N] := own_alloc e1
  have k1 : Kept none' w w1 := (Kept.refl _ _).al e1
  refine ⟨_, _, rd2 o1, (eword_spec k N w1).mono ?_⟩
  rintro _ w2 ⟨rfl, k2⟩
  refine ⟨_, _, rfl, Wif_intro (fun hc => ?_) (fun hc => ?_)⟩
  · have e2 : stE by' n root page k N = 2 := by unfold stE; rw [if_pos (by simpa [or_assoc] using hc)]
    have e3 : stS by' n root page k N = by' := by unfold stS; rw [e2]; rfl
    rw [e2, e3]
    exact ⟨rfl, (k1.tr k2).mono fun _ _ e => e.elim, (h.k k1).k k2⟩
  have hg : ¬ (page < 0 ∨ page ≥ 1024 ∨ ewE k N ≠ 0) := fun hh => by
    rw [show (decide (page < 0) || decide (page ≥ 1024) || ewE k N != 0) = true by simpa [or_assoc] using hh] at hc
    cases hc
  refine (leaf_spec ((h.k k1).k k2) hb hn root page).mono ?_
  rintro _ w3 ⟨rfl, k3⟩
  have K3 := (k1.tr k2).tr k3
  refine ⟨_, _, rfl, Wif_intro (fun hc => ?_) (fun hc => ?_)⟩
  · have hne : lfE by' n root page ≠ 0 := by simpa using hc
    have e2 : stE by' n root page k N = lfE by' n root page := by unfold stE; rw [if_neg hg, if_pos hne]
    have e3 : stS by' n root page k N = by' := by unfold stS; rw [e2, if_neg hne]
    rw [e2, e3]
    exact ⟨rfl, K3.mono fun _ _ e => e.elim, h.k K3⟩
  · have hz : lfE by' n root page = 0 := by simpa using hc
    have e2 : stE by' n root page k N = wdE n (lfN by' n root page) (Int.tmod page 32) := by unfold stE; rw [if_neg hg, if_neg (fun e => e hz)]
    have e3 : stS by' n root page k N = wdS by' n (lfN by' n root page) (Int.tmod page 32) (ewF k N) := by
      unfold stS
      rw [e2]
      unfold wdS
      split <;> rfl
    rw [e2, e3]
    refine (setWord_spec (h.k K3) hn _ _ _).mono ?_
    rintro _ w4 ⟨rfl, k4, h4⟩
    exact ⟨_, rfl, rfl, (K3.mono fun _ _ e => e.elim).trans k4 fun _ _ e => e, h4⟩
theorem setLeaf_spec (h : MemAt w m bb mb c n by' mk) (hn : n ≤ 1024) (root page leaf : Int) :
    Calls Tryz.prog 97 #[ptr m, vi root, vi page, vi leaf] w fun e w' => e = .returned (vi (slE n root page leaf)) ∧ Kept (· = bb) w w' ∧ MemAt w' m bb mb c n (slS by' n root page leaf) mk := by
  refine (vc97 _ root page leaf w (fun v w' => v = vi (slE n root page leaf) ∧ Kept (· = bb) w w' ∧ MemAt w' m bb mb c n (slS by' n root page leaf) mk) ?_).mono ?_
  rotate_left
  · rintro e w' ⟨v, rfl, rfl, h⟩
    exact ⟨rfl, h⟩
  unfold vcP97
  refine Wif_intro (fun hc => ?_) (fun hc => ?_)
  · have e2 : slE n root page leaf = 2 := by unfold slE; rw [if_pos (by simpa [or_assoc] using hc)]
    have e3 : slS by' n root page leaf = by' := by unfold slS; rw [e2]; rfl
    rw [e2, e3]
    exact ⟨rfl, Kept.refl _ _, h⟩
  have hg : ¬ (page < 0 ∨ page ≥ 1024 ∨ leaf < -1 ∨ leaf > 65535) := fun hh => by
    rw [show (decide (page < 0) || decide (page ≥ 1024) || decide (leaf < -1) || decide (leaf > 65535)) = true by simpa [or_assoc] using hh] at hc
    cases hc
  have ht := tdiv_r (page := page) (by omega)
  have e2 : slE n root page leaf = wdE n root (Int.tdiv page 32) := by unfold slE; rw [if_neg hg]
  have e3 : slS by' n root page leaf = wdS by' n root (Int.tdiv page 32) (if leaf < 0 then 0 else 1 + 4 * leaf) := by
    unfold slS
    rw [e2]
    unfold wdS
    split <;> rfl
  rw [e2, e3, wi (by omega)]
  intro w1 e1
  have o1 : own w1 w.heap.size [.int .u8 0, vi 0] := own_alloc e1
  have k1 : Kept none' w w1 := (Kept.refl _ _).al e1
  refine ⟨wr2 o1, fun w2 e4 => ?_⟩
  obtain ⟨o2, k2'⟩ := st2w o1 e4
  have k2 : Kept none' w w2 := own0 k1 k2' fun x e => by omega
  refine Wif_intro (fun hl => ⟨wr2 o2, fun w3 e5 => ?_⟩) (fun hl => ?_)
  · obtain ⟨o3, k3'⟩ := st2w o2 e5
    have k3 : Kept none' w w3 := own0 k2 k3' fun x e => by omega
    refine ⟨_, _, rd2 o3, (eword_spec 0 0 w3).mono ?_⟩
    rintro _ w4 ⟨rfl, k4⟩
    refine ⟨_, _, rfl, (setWord_spec ((h.k k3).k k4) hn _ _ _).mono ?_⟩
    rintro _ w5 ⟨rfl, k5, h5⟩
    rw [if_pos (by simpa using hl)]
    exact ⟨_, rfl, rfl, ((k3.tr k4).mono fun _ _ e => e.elim).trans k5 fun _ _ e => e, h5⟩
  · have hl0 : ¬ leaf < 0 := by simpa using hl
    refine ⟨_, _, rd2 o2, (eword_spec 1 leaf w2).mono ?_⟩
    rintro _ w4 ⟨rfl, k4⟩
    refine ⟨_, _, rfl, (setWord_spec ((h.k k2).k k4) hn _ _ _).mono ?_⟩
    rintro _ w5 ⟨rfl, k5, h5⟩
    have hE : ewE 1 leaf = 0 := by
      unfold ewE
      rw [if_neg (by decide), if_pos (.inl rfl), if_pos (by omega)]
    have : ewF 1 leaf = 1 + 4 * leaf := by
      unfold ewF
      rw [if_pos hE]
    rw [this] at h5
    rw [if_neg hl0]
    exact ⟨_, rfl, rfl, ((k2.tr k4).mono fun _ _ e => e.elim).trans k5 fun _ _ e => e, h5⟩
end
end Go.Proofs.YtklmokolnakkoaaGreatDoor
