/-
  A part of a proof that a law of this seat returns true at every input. Conditions: those in each theorem.
-/
import Derived.Test.YtkancagfhbkhiaaD8c
namespace Go.Proofs.Ytkancagfhbkhiaa
open Go Eng
set_option linter.unusedSimpArgs false
set_option linter.unusedVariables false
set_option maxRecDepth 10000

/-! ### pairs of numbers, as rows -/
def flat : List (Int × Int) → List Value
  | [] => []
  | p :: l => .int .i64 p.1 :: .int .i64 p.2 :: flat l
theorem flat_len (O : List (Int × Int)) : (flat O).length = O.length * 2 := by
  induction O with
  | nil => rfl
  | cons p l ih => simp [flat, ih]; omega
theorem flat_app (A B : List (Int × Int)) : flat (A ++ B) = flat A ++ flat B := by
  induction A with
  | nil => rfl
  | cons p l ih => simp [flat, ih]
theorem flat_take (O : List (Int × Int)) (h : Nat) : (flat O).take (h * 2) = flat (O.take h) := by
  induction O generalizing h with
  | nil => simp [flat]
  | cons p l ih =>
    cases h with
    | zero => simp [flat]
    | succ h =>
      rw [show (h + 1) * 2 = h * 2 + 1 + 1 by omega]
      simp [flat, ih]
theorem flat_drop (O : List (Int × Int)) (h : Nat) : (flat O).drop (h * 2) = flat (O.drop h) := by
  induction O generalizing h with
  | nil => simp [flat]
  | cons p l ih =>
    cases h with
    | zero => simp
    | succ h =>
      rw [show (h + 1) * 2 = h * 2 + 1 + 1 by omega]
      simp [flat, ih]
theorem flat_get {O : List (Int × Int)} {h : Nat} (hh : h < O.length) : (flat O)[h * 2]? = some (.int .i64 (O[h]).1) ∧ (flat O)[h * 2 + 1]? = some (.int .i64 (O[h]).2) := by
  induction O generalizing h with
  | nil => exact absurd hh (by simp)
  | cons p l ih =>
    cases h with
    | zero => exact ⟨rfl, rfl⟩
    | succ h =>
      rw [show (h + 1) * 2 = h * 2 + 1 + 1 by omega]
      have := ih (h := h) (by simpa using hh)
      simpa [flat] using this
theorem flat_one (O : List (Int × Int)) : ∀ u ∈ flat O, u.oneCell' = true := by
  induction O with
  | nil => intro u hu; cases hu
  | cons p l ih =>
    intro u hu
    simp only [flat, List.mem_cons] at hu
    rcases hu with rfl | rfl | hu
    · rfl
    · rfl
    · exact ih u hu
theorem srcPre {w : World} {a : Option Addr} {l c : Nat} {xs : List Value} (h : Src w a l c xs) {l' n : Nat} (hl : l' ≤ l) : Src w a l' c (xs.take n) := by
  refine ⟨fun hn => ?_, fun hx => ?_⟩
  · obtain ⟨h1, h2⟩ := h.nil hn
    omega
  · rw [List.length_take] at hx
    obtain ⟨X, off, e, hr⟩ := h.ptr (by omega)
    refine ⟨X, off, e, fun j u hj => ?_⟩
    rw [List.getElem?_take] at hj
    split at hj
    · exact hr j u hj
    · cases hj
theorem info_74 : (Try.prog.info? 74).map (fun i => (i.zero.map fun z => z.cells.size, i.size, i.bytes)) = some (some 2, 2, 16) := by kernel_rfl
theorem app_pairs {w : World} {base : Nat} {da : Option Addr} {dl dc : Nat} {xs : List Value} (ho : w.ownsRow base 74 2 (.slice da dl dc) dl xs) {a : Option Addr} {l c : Nat} {O : List (Int × Int)} (hs : Src w a l c (flat O)) (hl : O.length = l)
    (h63 : dl + l ≤ 1000000) (hbase : base ≤ w.heap.size) :
    ∃ a' c' w', appIs Try.prog #[73, 73] 73 (.slice da dl dc) (.slice a l c) (.slice a' (dl + l) c') w w' ∧ w'.ownsRow base 74 2 (.slice a' (dl + l) c') (dl + l) (xs ++ flat O) ∧ Kept (fun b => (Value.slice da dl dc).ownBlock = some b) w w' := by
  have h := info_74
  cases hi : Try.prog.info? 74 with
  | none => rw [hi] at h; cases h
  | some i =>
    rw [hi] at h
    simp only [Option.map_some, Option.some.injEq, Prod.mk.injEq] at h
    obtain ⟨h1, h2, h3⟩ := h
    cases hz : i.zero with
    | none => rw [hz] at h1; cases h1
    | some z =>
      rw [hz] at h1
      simp only [Option.map_some, Option.some.injEq] at h1
      exact app (t := 73) (ty := 73) Try.underlying73 hi hz h2 h1 (by decide) ho hs (by rw [flat_len, hl]) (flat_one O) h63 (by omega) hbase

/-! ### what is out -/
def outP (L : List Slb) (p : Int × Int) : Prop := ∃ e ∈ L, ∃ k : Nat, p = (e.fr, (k : Int)) ∧ e.s.out k = true
theorem fr_inj {L : List Slb} (h : (L.map (·.fr)).Pairwise (· < ·)) {x y : Slb} (hx : x ∈ L) (hy : y ∈ L) (e : x.fr = y.fr) : x = y := by
  obtain ⟨L1, L2, rfl⟩ := List.append_of_mem hy
  obtain ⟨f1, f2⟩ := frs_ne h
  rcases List.mem_append.1 hx with hx | hx
  · exact absurd e (f1 x hx)
  · rcases List.mem_cons.1 hx with rfl | hx
    · rfl
    · exact absurd e (f2 x hx)
theorem outP_set {L : List Slb} (hso : (L.map (·.fr)).Pairwise (· < ·)) {e : Slb} (he : e ∈ L) {s' : Sl} {f' : Nat → Int} {k : Nat} {v : Bool} (ho : s'.out = upd e.s.out k v) (p : Int × Int) :
    outP (setL L (set1 e s' f')) p ↔ (p = (e.fr, (k : Int)) ∧ v = true) ∨ (p ≠ (e.fr, (k : Int)) ∧ outP L p) := by
  constructor
  · rintro ⟨x, hx, j, rfl, hj⟩
    rcases mem_setL hx with rfl | ⟨hx, hne⟩
    · have hj : s'.out j = true := hj
      rw [ho] at hj
      by_cases hjk : j = k
      · subst hjk
        rw [upd_same] at hj
        exact .inl ⟨rfl, hj⟩
      · rw [upd_ne _ _ hjk] at hj
        refine .inr ⟨fun h => hjk ?_, e, he, j, rfl, hj⟩
        have h2 : (j : Int) = k := congrArg Prod.snd h
        omega
    · refine .inr ⟨fun h => hne (congrArg Prod.fst h), x, hx, j, rfl, hj⟩
  · rintro (⟨rfl, rfl⟩ | ⟨hne, x, hx, j, rfl, hj⟩)
    · refine ⟨set1 e s' f', List.mem_map.2 ⟨e, he, if_pos rfl⟩, k, rfl, ?_⟩
      show s'.out k = true
      rw [ho, upd_same]
    · by_cases hf : x.fr = e.fr
      · have := fr_inj hso hx he hf
        subst this
        refine ⟨set1 x s' f', List.mem_map.2 ⟨x, hx, if_pos rfl⟩, j, rfl, ?_⟩
        show s'.out j = true
        rw [ho, upd_ne]
        · exact hj
        · intro e; subst e; exact hne rfl
      · exact ⟨x, List.mem_map.2 ⟨x, hx, if_neg hf⟩, j, rfl, hj⟩
def sumO (L : List Slb) : Int := (L.map outv).sum
theorem sumO_set {L : List Slb} (hso : (L.map (·.fr)).Pairwise (· < ·)) {e : Slb} (he : e ∈ L) (s' : Sl) (f' : Nat → Int) : sumO (setL L (set1 e s' f')) = sumO L - outv e + outv (set1 e s' f') := by
  obtain ⟨L1, L2, rfl⟩ := List.append_of_mem he
  rw [setL_split (e' := set1 e s' f') hso rfl]
  unfold sumO
  simp only [List.map_append, List.map_cons, List.sum_append, List.sum_cons]
  omega
theorem sumO_full {L : List Slb} {n : Nat} (h : ∀ e ∈ L, e.s.ch = [] ∧ e.s.count = n) : sumO L = (L.length * n : Nat) := by
  induction L with
  | nil => simp [sumO]
  | cons e l ih =>
    have h0 := h e (List.mem_cons_self ..)
    have := ih fun x hx => h x (List.mem_cons_of_mem _ hx)
    unfold sumO at *
    rw [List.map_cons, List.sum_cons, this]
    unfold outv
    rw [h0.1, h0.2, List.length_cons, Nat.succ_mul]
    simp
    omega
/-- slabs, and what is out of them -/
structure Kp (w0 w : World) (C M z c N : Nat) (L : List Slb) (O : List (Int × Int)) : Prop where
  ci : CIs w0 w C M z c L
  nt : ∀ e ∈ L, ∀ i, e.s.turn i = 0
  mem : ∀ p, p ∈ O ↔ outP L p
  nd : O.Nodup
  cnt : (O.length : Int) = sumO L
  col : ∀ e ∈ L, e.s.count = 256 / z
  len : L.length = N
section
variable {w0 w w' : World} {C M z c N : Nat} {L : List Slb} {O : List (Int × Int)}
theorem Kp.k (h : Kp w0 w C M z c N L O) (k : Kept none' w w') : Kp w0 w' C M z c N L O := ⟨h.ci.k k, h.nt, h.mem, h.nd, h.cnt, h.col, h.len⟩
theorem Kp.take (h : Kp w0 w C M z c N L O) {e : Slb} {k : Nat} {l : List Nat} (he : e ∈ L) (hch : e.s.ch = k :: l) {f : Nat → Int} (ci : CIs w0 w' C M z c (setL L (set1 e (took e.s k l) f))) :
    Kp w0 w' C M z c N (setL L (set1 e (took e.s k l) f)) (O ++ [(e.fr, (k : Int))]) ∧ (e.fr, (k : Int)) ∉ O := by
  have a := (h.ci.at'.sl e he).1
  have hout : e.s.out k = false := by
    cases ho : e.s.out k with
    | false => rfl
    | true =>
      have := ((a.good.outs k).1 ho).2
      rw [hch] at this
      exact absurd (List.mem_cons_self ..) this
  have hnot : (e.fr, (k : Int)) ∉ O := fun hin => by
    obtain ⟨x, hx, j, hp, hj⟩ := (h.mem _).1 hin
    have h1 : e.fr = x.fr := congrArg Prod.fst hp
    have h2 : (k : Int) = j := congrArg Prod.snd hp
    have := fr_inj h.ci.at'.so he hx h1
    subst this
    have : k = j := by omega
    subst this
    rw [hout] at hj; cases hj
  refine ⟨⟨ci, fun x hx => ?_, fun p => ?_, ?_, ?_, fun x hx => ?_, by rw [setL_len]; exact h.len⟩, hnot⟩
  · rcases mem_setL hx with rfl | ⟨hx, _⟩
    · exact h.nt e he
    · exact h.nt x hx
  · rw [outP_set h.ci.at'.so he (v := true) rfl, List.mem_append, List.mem_singleton, h.mem p]
    constructor
    · rintro (hp | rfl)
      · by_cases hpe : p = (e.fr, (k : Int))
        · exact .inl ⟨hpe, rfl⟩
        · exact .inr ⟨hpe, hp⟩
      · exact .inl ⟨rfl, rfl⟩
    · rintro (⟨rfl, _⟩ | ⟨_, hp⟩)
      · exact .inr rfl
      · exact .inl hp
  · rw [List.nodup_append]
    refine ⟨h.nd, by simp, fun a ha b hb => ?_⟩
    simp at hb
    subst hb
    rintro rfl
    exact hnot ha
  · rw [sumO_set h.ci.at'.so he, List.length_append, ← h.cnt]
    have h1 : outv (set1 e (took e.s k l) f) = outv e + 1 := by
      show ((took e.s k l).count : Int) - (took e.s k l).ch.length = _
      unfold outv
      rw [hch]
      simp [took]
      omega
    rw [h1]
    simp
    omega
  · rcases mem_setL hx with rfl | ⟨hx, _⟩
    · exact h.col e he
    · exact h.col x hx
/-- one that is out may be given back -/
theorem Kp.may (h : Kp w0 w C M z c N L O) {p : Int × Int} (hp : p ∈ O) : ∃ e ∈ L, ∃ k : Nat, p = (e.fr, (k : Int)) ∧ k < e.s.count ∧ e.s.out k = true ∧ e.s.turn k = 0 ∧ giveOf e.s k = 0 := by
  obtain ⟨e, he, k, rfl, ho⟩ := (h.mem p).1 hp
  have a := (h.ci.at'.sl e he).1
  have hk := ((a.good.outs k).1 ho).1
  refine ⟨e, he, k, rfl, hk, ho, h.nt e he k, ?_⟩
  unfold giveOf
  rw [if_pos (by omega), Int.toNat_natCast, ho, h.nt e he k]
  rfl
theorem Kp.give (h : Kp w0 w C M z c N L O) {e : Slb} {k : Nat} (he : e ∈ L) (ho : e.s.out k = true) {f : Nat → Int} (ci : CIs w0 w' C M z c (setL L (set1 e (gave e.s k) f))) {A B : List (Int × Int)} (hO : O = A ++ (e.fr, (k : Int)) :: B) :
    Kp w0 w' C M z c N (setL L (set1 e (gave e.s k) f)) (A ++ B) := by
  have hnd := h.nd
  rw [hO] at hnd
  have hnd2 := List.nodup_append.1 hnd
  obtain ⟨nA, nB, nAB⟩ := hnd2
  obtain ⟨nx, nB'⟩ := List.nodup_cons.1 nB
  refine ⟨ci, fun x hx => ?_, fun p => ?_, ?_, ?_, fun x hx => ?_, by rw [setL_len]; exact h.len⟩
  · rcases mem_setL hx with rfl | ⟨hx, _⟩
    · exact h.nt e he
    · exact h.nt x hx
  · rw [outP_set h.ci.at'.so he (v := false) rfl, ← h.mem p, hO]
    simp only [List.mem_append, List.mem_cons]
    constructor
    · rintro (hp | hp)
      · exact .inr ⟨fun e' => nAB p hp _ (List.mem_cons_self ..) e', .inl hp⟩
      · exact .inr ⟨fun e' => nx (by rw [← e']; exact hp), .inr (.inr hp)⟩
    · rintro (⟨_, hp⟩ | ⟨hne, hp | hp | hp⟩)
      · cases hp
      · exact .inl hp
      · exact absurd hp hne
      · exact .inr hp
  · rw [List.nodup_append]
    exact ⟨nA, nB', fun a ha b hb => nAB a ha b (List.mem_cons_of_mem _ hb)⟩
  · have hc := h.cnt
    rw [hO] at hc
    rw [sumO_set h.ci.at'.so he]
    have h1 : outv (set1 e (gave e.s k) f) = outv e - 1 := by
      show ((gave e.s k).count : Int) - (gave e.s k).ch.length = _
      unfold outv
      simp [gave]
      omega
    rw [h1]
    simp at hc ⊢
    omega
  · rcases mem_setL hx with rfl | ⟨hx, _⟩
    · exact h.col e he
    · exact h.col x hx
/-- none is out: all are empty -/
theorem Kp.all_empty (h : Kp w0 w C M z c N L []) : L.filter isEmp = L := by
  rw [List.filter_eq_self]
  intro e he
  have a := (h.ci.at'.sl e he).1
  have hall : ∀ i, i < e.s.count → i ∈ e.s.ch := by
    intro i hi
    refine Decidable.byContradiction fun hn => ?_
    have : e.s.out i = true := (a.good.outs i).2 ⟨hi, hn⟩
    have := (h.mem (e.fr, (i : Int))).2 ⟨e, he, i, rfl, this⟩
    cases this
  have h1 := a.good.chlen
  have h2 : e.s.count ≤ e.s.ch.length := by
    have := (List.nodup_range (n := e.s.count)).length_le_of_subset (l₂ := e.s.ch) (fun x hx => hall x (by simpa using hx))
    simpa using this
  simp [isEmp]
  omega
end
end Go.Proofs.Ytkancagfhbkhiaa
