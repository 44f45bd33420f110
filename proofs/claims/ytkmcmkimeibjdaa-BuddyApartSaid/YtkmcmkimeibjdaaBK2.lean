/-
  A part of a proof that a law of this seat returns true at every input. Conditions: those in each theorem.
-/
import Derived.Test.YtkmcmkimeibjdaaBK1
import Derived.Test.YtkmcmkimeibjdaaBV7
namespace Go.Proofs.Ytkmcmkimeibjdaa
open Go Eng
set_option linter.unusedSimpArgs false
set_option linter.unusedVariables false
set_option maxRecDepth 100000
/-! ### how many blocks a frame is in -/
def ind (x : Bk) (k : Nat) : Nat := if x.p ≤ k ∧ k < x.p + 2 ^ x.o then 1 else 0
def cov : List Bk → Nat → Nat
  | [], _ => 0
  | x :: l, k => ind x k + cov l k
theorem cov_app (A B : List Bk) (k : Nat) : cov (A ++ B) k = cov A k + cov B k := by
  induction A with
  | nil => simp [cov]
  | cons x A ih => simp only [List.cons_append, cov, ih]; omega
theorem cov_le (l : List Bk) (k : Nat) : cov l k ≤ l.length := by
  induction l with
  | nil => simp [cov]
  | cons x l ih => simp only [cov, List.length_cons]; have : ind x k ≤ 1 := by unfold ind; split <;> omega
                   omega
theorem cov_below : ∀ (l : List Bk) (a b k : Nat), Tile a l b → k < a → cov l k = 0
  | [], _, _, _, _, _ => rfl
  | x :: l, a, b, k, h, hk => by
    obtain ⟨h1, h2, h3, h4⟩ := h
    have hp := p2 x.o
    simp only [cov]
    rw [cov_below l _ b k h4 (by omega)]
    unfold ind
    rw [if_neg (by omega)]
theorem cov_tile : ∀ (l : List Bk) (a b k : Nat), Tile a l b → a ≤ k → k < b → cov l k = 1
  | [], a, b, k, h, h1, h2 => by simp [Tile] at h; omega
  | x :: l, a, b, k, h, h1, h2 => by
    obtain ⟨e1, e2, e3, e4⟩ := h
    simp only [cov]
    by_cases hk : k < a + 2 ^ x.o
    · rw [cov_below l _ b k e4 hk]
      unfold ind
      rw [if_pos (by omega)]
    · rw [cov_tile l _ b k e4 (by omega) h2]
      unfold ind
      rw [if_neg (by omega)]
def tkq (L : List Bk) (q : Nat) : List Bk := L.filter fun x => x.g == 1 && decide (x.p < q)
theorem cov_split (L : List Bk) (k : Nat) (h : Fr01 L) : cov (L.filter fun x => x.g == 0) k + cov (L.filter fun x => x.g == 1) k = cov L k := by
  induction L with
  | nil => rfl
  | cons x L ih =>
    have ih' := ih fun y hy => h y (List.mem_cons_of_mem _ hy)
    rcases h x (by simp) with hg | hg
    · rw [List.filter_cons_of_pos (by simp [hg]), List.filter_cons_of_neg (by simp [hg])]
      simp only [cov]; omega
    · rw [List.filter_cons_of_neg (by simp [hg]), List.filter_cons_of_pos (by simp [hg])]
      simp only [cov]; omega
theorem tkq_end {L : List Bk} {n : Nat} (h : Tile 0 L n) : tkq L n = L.filter fun x => x.g == 1 := by
  unfold tkq
  refine List.filter_congr fun x hx => ?_
  have := tile_mem h hx
  have hp := p2 x.o
  have e : decide (x.p < n) = true := by simp; omega
  rw [e, Bool.and_true]
theorem tkq_zero (L : List Bk) : tkq L 0 = [] := by
  unfold tkq
  rw [List.filter_eq_nil_iff]
  intro x _
  simp
theorem tkq_no {L : List Bk} {q : Nat} (h : ∀ x ∈ L, x.g = 1 → x.p ≠ q) : tkq L (q + 1) = tkq L q := by
  unfold tkq
  refine List.filter_congr fun x hx => ?_
  have := h x hx
  by_cases hg : x.g = 1
  · have := this hg
    have e : decide (x.p < q + 1) = decide (x.p < q) := by by_cases h : x.p < q <;> simp [h] <;> omega
    rw [e]
  · have e : (x.g == 1) = false := by simpa using hg
    rw [e]; rfl
theorem tkq_yes {L : List Bk} {n q o : Nat} (h : Tile 0 L n) (hm : (⟨q, o, 1⟩ : Bk) ∈ L) (k : Nat) : cov (tkq L (q + 1)) k = cov (tkq L q) k + ind ⟨q, o, 1⟩ k := by
  obtain ⟨A, B, rfl⟩ := List.append_of_mem hm
  obtain ⟨s1, s2⟩ := sep_ne h (k := q) (Nat.le_refl _) (by have := p2 o; dsimp only; omega)
  have eA : tkq A (q + 1) = tkq A q := tkq_no fun x hx _ => s1 x hx
  have eB : tkq B (q + 1) = tkq B q := tkq_no fun x hx _ => s2 x hx
  have e1 : ∀ r, tkq (A ++ ⟨q, o, 1⟩ :: B) r = tkq A r ++ tkq (⟨q, o, 1⟩ :: B) r := fun r => by unfold tkq; rw [List.filter_append]
  have e2 : tkq (⟨q, o, 1⟩ :: B) (q + 1) = ⟨q, o, 1⟩ :: tkq B (q + 1) := by unfold tkq; rw [List.filter_cons_of_pos (by simp)]
  have e3 : tkq (⟨q, o, 1⟩ :: B) q = tkq B q := by unfold tkq; rw [List.filter_cons_of_neg (by simp)]
  rw [e1, e1, e2, e3, eA, eB, cov_app, cov_app]
  simp only [cov]
  omega
theorem tkq_len (L : List Bk) (q : Nat) : (tkq L q).length ≤ L.length := List.length_filter_le _ _
/-! ### mark -/
section
variable {w : World}
theorem mark_spec {bn bs N : Nat} {f : Nat → Nat} (hN : N ≤ 128) (on : own w bn [.int .i64 (N : Int)]) (os : own w bs (runI .i64 (fun k => (f k : Int)) 0 128)) (hne : bn ≠ bs) {p o : Nat} (ho : o ≤ 10) (hm : p % 2 ^ o = 0) (hle : p + 2 ^ o ≤ N) (hf : ∀ k, f k ≤ 1000) :
    Calls Try.prog 29 #[.agg #[.int .i64 (p : Int), .int .i64 (o : Int)], ptr bn, ptr bs] w fun r w' => r = .returned (.bool true) ∧ Kept (· = bs) w w' ∧ own w' bs (runI .i64 (fun k => ((f k + ind ⟨p, o, 0⟩ k : Nat) : Int)) 0 128) := by
  refine (vc29 (p : Int) (o : Int) (some ⟨bn, 0, none⟩) (some ⟨bs, 0, none⟩) w (fun v w' => v = .bool true ∧ Kept (· = bs) w w' ∧ own w' bs (runI .i64 (fun k => ((f k + ind ⟨p, o, 0⟩ k : Nat) : Int)) 0 128)) ?_).mono ?_
  · unfold vcP29
    intro w1 e1 w2 e2
    have ox1 := own_alloc (c := [.int .i64 (p : Int), .int .i64 (o : Int)]) e1
    have k1 : Kept none' w w1 := (Kept.refl _ _).al e1
    have k12 : Kept none' w1 w2 := (Kept.refl _ _).dr e2
    have ox := ox1.k k12
    have k2 := k1.tr k12
    have on2 := on.k k2
    have os2 := os.k k2
    have hbs := os.lt
    have hbn := on.lt
    have hp := p2 o
    have hpo := pow10 ho
    have ho7 : 2 ^ o ≤ 128 := by omega
    have sh := shl1 ho
    unfold ind
    dsimp only
    clear hpo
    obtain ⟨S, hS⟩ : ∃ S, S = 2 ^ o := ⟨_, rfl⟩
    rw [← hS] at hm hle hp ho7 sh
    simp only [← hS]
    generalize hX : w.heap.size = X at *
    clear e1 e2 ox1
    refine ⟨(p : Int), by rw [ox.rd]; rfl, (o : Int), fun _ => by rw [ox.rd]; rfl, (o : Int), fun _ => by rw [ox.rd]; rfl, (p : Int), fun _ => by rw [ox.rd]; rfl, (o : Int), fun _ => by rw [ox.rd]; rfl, ?_⟩
    have e1 : decide ((p : Int) < 0) = false := by simp
    have e2 : decide ((o : Int) < 0) = false := by simp
    have e3 : decide ((o : Int) > 10) = false := by simp; omega
    have e4 : decide (0 ≤ (o : Int)) = true := by simp
    have e5 : ((S : Int) != 0) = true := by
      have : (S : Int) ≠ 0 := by omega
      simpa using this
    have e6 : (Int.tmod (p : Int) (S : Int) != 0) = false := by
      rw [Int.tmod_eq_emod_of_nonneg (Int.natCast_nonneg _)]
      have : (p : Int) % (S : Int) = ((p % S : Nat) : Int) := rfl
      rw [this, hm]; rfl
    have e7 : IntKind.wrap .i64 ((p : Int) + (S : Int)) = ((p + S : Nat) : Int) := by rw [wi (by omega)]; rfl
    simp only [sh, e1, e2, e3, e4, e5, e6, gIf_true, isP_some, pb_some, po_some, Nat.zero_add, Bool.or_false, Bool.false_or]
    refine ⟨(p : Int), fun _ => by rw [ox.rd]; rfl, (o : Int), fun _ => by rw [ox.rd]; rfl, ?_⟩
    simp only [sh, e4, e7, gIf_true]
    refine ⟨(N : Int), fun _ => by rw [on2.rd]; rfl, Wif_no (by simp; omega) ⟨(p : Int), by rw [ox.rd]; rfl, ?_⟩⟩
    refine ⟨fun k w' M => ∃ q : Nat, k = (q : Int) ∧ p ≤ q ∧ q ≤ p + S ∧ M = p + S - q ∧ Kept (· = bs) w w' ∧ own w' X [.int .i64 (p : Int), .int .i64 (o : Int)] ∧ own w' bs (runI .i64 (fun k => ((f k + if p ≤ k ∧ k < q then 1 else 0 : Nat) : Int)) 0 128),
      ⟨S, p, rfl, Nat.le_refl _, by omega, by omega, k2.mono fun _ _ h => h.elim, ox, ?_⟩, ?_⟩
    · have : runI .i64 (fun k => ((f k + if p ≤ k ∧ k < p then 1 else 0 : Nat) : Int)) 0 128 = runI .i64 (fun k => (f k : Int)) 0 128 := runI_ext fun j _ => by
        rw [if_neg (by omega)]; rfl
      rw [this]; exact os2
    rintro _ w3 _ ⟨q, rfl, hq1, hq2, rfl, k3, ox3, os3⟩ w4 e4'
    have k34 : Kept none' w3 w4 := (Kept.refl _ _).dr e4'
    have ox4 := ox3.k k34
    have os4 := os3.k k34
    have k4 := k3.tr k34
    clear e4'
    refine ⟨(p : Int), by rw [ox4.rd]; rfl, (o : Int), by rw [ox4.rd]; rfl, ?_⟩
    simp only [sh, e4, e7, Wif_true]
    refine Wif_intro (fun hc => ?_) (fun hc => ?_)
    · simp at hc
      have eB : ∀ {x y : Prop}, Wif (inB (q : Int) 128) x y = x := by intro x y; rw [inB_of (by omega) (by omega)]; rfl
      simp only [eB, Int.toNat_natCast, Nat.mul_one]
      refine ⟨_, os4.rI (by omega), os4.wr (by rw [runI_len]; omega), fun w5 e5' => ?_⟩
      have os5 := os4.s1 e5'
      have k45 : Kept (· = bs) w4 w5 := (Kept.refl _ _).s1 e5' (.inl rfl)
      have hfq := hf q
      have ew : ((runI .i64 (fun k => ((f k + if p ≤ k ∧ k < q then 1 else 0 : Nat) : Int)) 0 128).set q (.int .i64 (IntKind.wrap .i64 (((f q + if p ≤ q ∧ q < q then 1 else 0 : Nat) : Int) + 1)))) = runI .i64 (fun k => ((f k + if p ≤ k ∧ k < q + 1 then 1 else 0 : Nat) : Int)) 0 128 := by
        refine runI_of (by rw [List.length_set, runI_len]) fun j hj => ?_
        rw [List.getElem?_set, runI_len]
        by_cases hjq : q = j
        · subst hjq
          rw [if_pos rfl, if_pos hj, if_neg (by omega), if_pos (by omega), wi (by omega)]
          rfl
        · rw [if_neg hjq, runI_get _ _ _ _ _ hj, Nat.zero_add]
          by_cases h1 : p ≤ j ∧ j < q
          · rw [if_pos h1, if_pos (by omega)]
          · rw [if_neg h1, if_neg (by omega)]
      rw [ew] at os5
      refine ⟨p + S - (q + 1), by omega, q + 1, by rw [wi (by omega)]; rfl, by omega, by omega, rfl, k4.trans k45 fun _ _ h => h, ox4.kx k45 (by omega), os5⟩
    · have : q = p + S := by simp at hc; omega
      subst this
      refine ⟨trivial, k4, ?_⟩
      exact os4
  · rintro e w' ⟨v, rfl, rfl, hw⟩
    exact ⟨rfl, hw⟩
end
end Go.Proofs.Ytkmcmkimeibjdaa
