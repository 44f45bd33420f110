/-
  A part of a proof that a law of this seat returns true at every input. Conditions: those in each theorem.
-/
import Derived.Test.YtikjgeenhbnkkaaGreatDoorBD1
set_option linter.unusedSimpArgs false
set_option linter.unusedVariables false
set_option maxRecDepth 100000
set_option maxHeartbeats 1000000
namespace Go.Proofs.YtikjgeenhbnkkaaGreatDoor
open Go Eng
theorem idx_rev {n i : Nat} (hi : i < n) (hn : n ≤ 1000000) : IntKind.wrap .i64 (IntKind.wrap .i64 ((n : Int) - 1) - (i : Int)) = ((n - 1 - i : Nat) : Int) := by
  rw [wi (x := (n : Int) - 1) (by omega), wi (by omega)]
  omega
theorem take_rev {α : Type} {xs : List α} {i : Nat} {x : α} (hi : i < xs.length) (hx : xs[xs.length - 1 - i]? = some x) : xs.reverse.take (i + 1) = xs.reverse.take i ++ [x] := by
  rw [List.take_add_one, List.getElem?_reverse hi, hx]
  rfl
theorem inf3 : (Tryz.prog.info? 3).map (fun i => (i.zero, i.size, i.bytes)) = some (some (.int .i64 0), 1, 8) := by kernel_rfl
theorem inf43 : (Tryz.prog.info? 43).map (fun i => (i.zero, i.size, i.bytes)) = some (some (.agg #[.int .i64 0, .int .i64 0]), 2, 16) := by kernel_rfl
theorem inf63 : (Tryz.prog.info? 63).map (fun i => (i.zero, i.size, i.bytes)) = some (some (.agg #[.int .i64 0, .int .i64 0, .int .i64 0]), 3, 24) := by kernel_rfl
theorem inf55 : (Tryz.prog.info? 55).map (fun i => (i.zero, i.size, i.bytes)) = some (some (.agg #[.int .i64 0, .int .i64 0, .int .i64 0, .int .i64 0, .int .i64 0, .slice none 0 0, .slice none 0 0]), 7, 88) := by kernel_rfl
theorem inf71 : (Tryz.prog.info? 71).map (fun i => (i.zero, i.size, i.bytes)) = some (some (.agg #[.int .i64 0, .int .u64 0]), 2, 16) := by kernel_rfl
theorem inf75 : (Tryz.prog.info? 75).map (fun i => (i.zero, i.size, i.bytes)) = some (some (.agg #[.int .i64 0, .int .i64 0]), 2, 16) := by kernel_rfl
theorem inf52 : (Tryz.prog.info? 52).map (fun i => (i.zero, i.size, i.bytes)) = some (some (.agg #[.int .i64 0, .int .u8 0, .int .i64 0]), 3, 24) := by kernel_rfl
theorem inf79 : (Tryz.prog.info? 79).map (fun i => (i.zero, i.size, i.bytes)) = some (some (.agg #[.int .i64 0, .int .i64 0, .int .u8 0]), 3, 24) := by kernel_rfl
theorem turned9 {v0 w : World} {a : Option Addr} {l c : Nat} {xs : List (Int × Int)} (h : SlR RPair 2 v0 a l c xs) (kv : Kept none' v0 w) (hl : xs.length ≤ 1000000) :
    Calls Tryz.prog 9 #[.slice a l c] w fun e w' => ∃ (a' : Option Addr) (l' c' : Nat), e = .returned (.slice a' l' c') ∧ Kept none' w w' ∧ RowG RPair v0 43 2 w' w.heap.size a' l' c' xs.reverse := by
  refine (vc9 a l c w (fun v w' => ∃ (a' : Option Addr) (l' c' : Nat), v = .slice a' l' c' ∧ Kept none' w w' ∧ RowG RPair v0 43 2 w' w.heap.size a' l' c' xs.reverse) ?_).mono ?_
  rotate_left
  · rintro e w' ⟨v, rfl, a', l', c', rfl, hw⟩
    exact ⟨a', l', c', rfl, hw⟩
  unfold vcP9
  have hlen := h.len
  subst hlen
  have hinfo := inf43
  cases hi : Tryz.prog.info? 43 with
  | none => rw [hi] at hinfo; cases hinfo
  | some i0 =>
  rw [hi] at hinfo
  simp at hinfo
  refine ⟨fun a' l' c' n w' M => ∃ i : Nat, n = (i : Int) ∧ i ≤ xs.length ∧ M = xs.length - i ∧ Kept none' w w' ∧ RowG RPair v0 43 2 w' w.heap.size a' l' c' (xs.reverse.take i), ⟨xs.length, 0, rfl, by omega, rfl, Kept.refl _ _, RowG.nil'⟩, ?_⟩
  rintro a' l' c' _ w1 _ ⟨i, rfl, hi2, rfl, k1, row⟩
  refine Wif_intro (fun hc => ?_) (fun hc => ?_)
  · have hil : i < xs.length := by simp at hc; omega
    obtain ⟨x, hx⟩ : ∃ x, xs[xs.length - 1 - i]? = some x := ⟨_, List.getElem?_eq_getElem (by omega)⟩
    obtain ⟨cs, hcl, hR, hr⟩ := h.el _ x hx
    have hR0 := hR
    obtain rfl : cs = [vi x.1, vi x.2] := hR0
    rw [idx_rev hil hl]
    refine Wif_yes (h.isp (by omega)) (Wif_yes (inB_of (by omega) (by omega)) ?_)
    rw [Int.toNat_natCast]
    have kr := fun (j : Nat) (u : Value) hu => (kv.tr k1).rd_some (hr j u hu) id
    refine ⟨x.1, x.2, ⟨kr 0 _ rfl, kr 1 _ rfl⟩, fun w2 e2 => ?_⟩
    have o2 := own_alloc (c := [vi x.1, vi x.2]) e2
    have k2 : Kept none' w1 w2 := (Kept.refl _ _).al e2
    have hs := (k1.tr k2).sz
    obtain ⟨a3, l3, c3, w3, happ, row3, k3, -⟩ := (row.k k2).one (t := 28) Tryz.underlying28 hi hinfo.1 hinfo.2.1 rfl (by decide) (by omega) hcl hR o2 (fun u hu => by simp at hu; rcases hu with rfl | rfl <;> rfl) (by rw [List.length_take]; omega) hs
    refine ⟨a3, l3, c3, w3, happ, xs.length - (i + 1), by omega, i + 1, by rw [wi (by omega)]; rfl, by omega, rfl, own0 (k1.tr k2) k3 fun b hb => (row.ge hb).1, ?_⟩
    rw [take_rev hil hx]
    exact row3
  · have hil : i = xs.length := by simp at hc; omega
    subst hil
    rw [List.take_of_length_le (by simp)] at row
    exact ⟨a', l', c', rfl, k1, row⟩
theorem turned10 {v0 w : World} {a : Option Addr} {l c : Nat} {xs : List Own} (h : SlR ROwn 3 v0 a l c xs) (kv : Kept none' v0 w) (hl : xs.length ≤ 1000000) :
    Calls Tryz.prog 10 #[.slice a l c] w fun e w' => ∃ (a' : Option Addr) (l' c' : Nat), e = .returned (.slice a' l' c') ∧ Kept none' w w' ∧ RowG ROwn v0 63 3 w' w.heap.size a' l' c' xs.reverse := by
  refine (vc10 a l c w (fun v w' => ∃ (a' : Option Addr) (l' c' : Nat), v = .slice a' l' c' ∧ Kept none' w w' ∧ RowG ROwn v0 63 3 w' w.heap.size a' l' c' xs.reverse) ?_).mono ?_
  rotate_left
  · rintro e w' ⟨v, rfl, a', l', c', rfl, hw⟩
    exact ⟨a', l', c', rfl, hw⟩
  unfold vcP10
  have hlen := h.len
  subst hlen
  have hinfo := inf63
  cases hi : Tryz.prog.info? 63 with
  | none => rw [hi] at hinfo; cases hinfo
  | some i0 =>
  rw [hi] at hinfo
  simp at hinfo
  refine ⟨fun a' l' c' n w' M => ∃ i : Nat, n = (i : Int) ∧ i ≤ xs.length ∧ M = xs.length - i ∧ Kept none' w w' ∧ RowG ROwn v0 63 3 w' w.heap.size a' l' c' (xs.reverse.take i), ⟨xs.length, 0, rfl, by omega, rfl, Kept.refl _ _, RowG.nil'⟩, ?_⟩
  rintro a' l' c' _ w1 _ ⟨i, rfl, hi2, rfl, k1, row⟩
  refine Wif_intro (fun hc => ?_) (fun hc => ?_)
  · have hil : i < xs.length := by simp at hc; omega
    obtain ⟨x, hx⟩ : ∃ x, xs[xs.length - 1 - i]? = some x := ⟨_, List.getElem?_eq_getElem (by omega)⟩
    obtain ⟨cs, hcl, hR, hr⟩ := h.el _ x hx
    have hR0 := hR
    obtain rfl : cs = [vi x.n, vi x.pid, vi x.page] := hR0
    rw [idx_rev hil hl]
    refine Wif_yes (h.isp (by omega)) (Wif_yes (inB_of (by omega) (by omega)) ?_)
    rw [Int.toNat_natCast]
    have kr := fun (j : Nat) (u : Value) hu => (kv.tr k1).rd_some (hr j u hu) id
    refine ⟨x.n, x.pid, x.page, ⟨kr 0 _ rfl, kr 1 _ rfl, kr 2 _ rfl⟩, fun w2 e2 => ?_⟩
    have o2 := own_alloc (c := [vi x.n, vi x.pid, vi x.page]) e2
    have k2 : Kept none' w1 w2 := (Kept.refl _ _).al e2
    have hs := (k1.tr k2).sz
    obtain ⟨a3, l3, c3, w3, happ, row3, k3, -⟩ := (row.k k2).one (t := 33) Tryz.underlying33 hi hinfo.1 hinfo.2.1 rfl (by decide) (by omega) hcl hR o2 (fun u hu => by simp at hu; rcases hu with rfl | rfl | rfl <;> rfl) (by rw [List.length_take]; omega) hs
    refine ⟨a3, l3, c3, w3, happ, xs.length - (i + 1), by omega, i + 1, by rw [wi (by omega)]; rfl, by omega, rfl, own0 (k1.tr k2) k3 fun b hb => (row.ge hb).1, ?_⟩
    rw [take_rev hil hx]
    exact row3
  · have hil : i = xs.length := by simp at hc; omega
    subst hil
    rw [List.take_of_length_le (by simp)] at row
    exact ⟨a', l', c', rfl, k1, row⟩
theorem turned11 {v0 w : World} {a : Option Addr} {l c : Nat} {xs : List Slab} (h : SlR RSlab 7 v0 a l c xs) (kv : Kept none' v0 w) (hl : xs.length ≤ 1000000) :
    Calls Tryz.prog 11 #[.slice a l c] w fun e w' => ∃ (a' : Option Addr) (l' c' : Nat), e = .returned (.slice a' l' c') ∧ Kept none' w w' ∧ RowG RSlab v0 55 7 w' w.heap.size a' l' c' xs.reverse := by
  refine (vc11 a l c w (fun v w' => ∃ (a' : Option Addr) (l' c' : Nat), v = .slice a' l' c' ∧ Kept none' w w' ∧ RowG RSlab v0 55 7 w' w.heap.size a' l' c' xs.reverse) ?_).mono ?_
  rotate_left
  · rintro e w' ⟨v, rfl, a', l', c', rfl, hw⟩
    exact ⟨a', l', c', rfl, hw⟩
  unfold vcP11
  have hlen := h.len
  subst hlen
  have hinfo := inf55
  cases hi : Tryz.prog.info? 55 with
  | none => rw [hi] at hinfo; cases hinfo
  | some i0 =>
  rw [hi] at hinfo
  simp at hinfo
  refine ⟨fun a' l' c' n w' M => ∃ i : Nat, n = (i : Int) ∧ i ≤ xs.length ∧ M = xs.length - i ∧ Kept none' w w' ∧ RowG RSlab v0 55 7 w' w.heap.size a' l' c' (xs.reverse.take i), ⟨xs.length, 0, rfl, by omega, rfl, Kept.refl _ _, RowG.nil'⟩, ?_⟩
  rintro a' l' c' _ w1 _ ⟨i, rfl, hi2, rfl, k1, row⟩
  refine Wif_intro (fun hc => ?_) (fun hc => ?_)
  · have hil : i < xs.length := by simp at hc; omega
    obtain ⟨x, hx⟩ : ∃ x, xs[xs.length - 1 - i]? = some x := ⟨_, List.getElem?_eq_getElem (by omega)⟩
    obtain ⟨cs, hcl, hR, hr⟩ := h.el _ x hx
    have hR0 := hR
    obtain ⟨a1, l1, c1, a2, l2, c2, rfl, g1, g2⟩ := hR0
    rw [idx_rev hil hl]
    refine Wif_yes (h.isp (by omega)) (Wif_yes (inB_of (by omega) (by omega)) ?_)
    rw [Int.toNat_natCast]
    have kr := fun (j : Nat) (u : Value) hu => (kv.tr k1).rd_some (hr j u hu) id
    refine ⟨x.node, x.cls, x.frame, x.colour, x.count, a1, l1, c1, a2, l2, c2, ⟨kr 0 _ rfl, kr 1 _ rfl, kr 2 _ rfl, kr 3 _ rfl, kr 4 _ rfl, kr 5 _ rfl, kr 6 _ rfl⟩, fun w2 e2 => ?_⟩
    have o2 := own_alloc (c := [vi x.node, vi x.cls, vi x.frame, vi x.colour, vi x.count, .slice a1 l1 c1, .slice a2 l2 c2]) e2
    have k2 : Kept none' w1 w2 := (Kept.refl _ _).al e2
    have hs := (k1.tr k2).sz
    obtain ⟨a3, l3, c3, w3, happ, row3, k3, -⟩ := (row.k k2).one (t := 34) Tryz.underlying34 hi hinfo.1 hinfo.2.1 rfl (by decide) (by omega) hcl hR o2 (fun u hu => by simp at hu; rcases hu with rfl | rfl | rfl | rfl | rfl | rfl | rfl <;> rfl) (by rw [List.length_take]; omega) hs
    refine ⟨a3, l3, c3, w3, happ, xs.length - (i + 1), by omega, i + 1, by rw [wi (by omega)]; rfl, by omega, rfl, own0 (k1.tr k2) k3 fun b hb => (row.ge hb).1, ?_⟩
    rw [take_rev hil hx]
    exact row3
  · have hil : i = xs.length := by simp at hc; omega
    subst hil
    rw [List.take_of_length_le (by simp)] at row
    exact ⟨a', l', c', rfl, k1, row⟩
theorem turned12 {v0 w : World} {a : Option Addr} {l c : Nat} {xs : List Int} (h : SlR RInt 1 v0 a l c xs) (kv : Kept none' v0 w) (hl : xs.length ≤ 1000000) :
    Calls Tryz.prog 12 #[.slice a l c] w fun e w' => ∃ (a' : Option Addr) (l' c' : Nat), e = .returned (.slice a' l' c') ∧ Kept none' w w' ∧ RowG RInt v0 3 1 w' w.heap.size a' l' c' xs.reverse := by
  refine (vc12 a l c w (fun v w' => ∃ (a' : Option Addr) (l' c' : Nat), v = .slice a' l' c' ∧ Kept none' w w' ∧ RowG RInt v0 3 1 w' w.heap.size a' l' c' xs.reverse) ?_).mono ?_
  rotate_left
  · rintro e w' ⟨v, rfl, a', l', c', rfl, hw⟩
    exact ⟨a', l', c', rfl, hw⟩
  unfold vcP12
  have hlen := h.len
  subst hlen
  have hinfo := inf3
  cases hi : Tryz.prog.info? 3 with
  | none => rw [hi] at hinfo; cases hinfo
  | some i0 =>
  rw [hi] at hinfo
  simp at hinfo
  refine ⟨fun a' l' c' n w' M => ∃ i : Nat, n = (i : Int) ∧ i ≤ xs.length ∧ M = xs.length - i ∧ Kept none' w w' ∧ RowG RInt v0 3 1 w' w.heap.size a' l' c' (xs.reverse.take i), ⟨xs.length, 0, rfl, by omega, rfl, Kept.refl _ _, RowG.nil'⟩, ?_⟩
  rintro a' l' c' _ w1 _ ⟨i, rfl, hi2, rfl, k1, row⟩
  refine Wif_intro (fun hc => ?_) (fun hc => ?_)
  · have hil : i < xs.length := by simp at hc; omega
    obtain ⟨x, hx⟩ : ∃ x, xs[xs.length - 1 - i]? = some x := ⟨_, List.getElem?_eq_getElem (by omega)⟩
    obtain ⟨cs, hcl, hR, hr⟩ := h.el _ x hx
    have hR0 := hR
    obtain rfl : cs = [vi x] := hR0
    rw [idx_rev hil hl]
    refine Wif_yes (h.isp (by omega)) (Wif_yes (inB_of (by omega) (by omega)) ?_)
    rw [Int.toNat_natCast]
    have kr := fun (j : Nat) (u : Value) hu => (kv.tr k1).rd_some (hr j u hu) id
    refine ⟨x, kr 0 _ rfl, fun w2 e2 => ?_⟩
    have o2 := own_alloc (c := [vi x]) e2
    have k2 : Kept none' w1 w2 := (Kept.refl _ _).al e2
    have hs := (k1.tr k2).sz
    obtain ⟨a3, l3, c3, w3, happ, row3, k3, -⟩ := (row.k k2).one (t := 31) Tryz.underlying31 hi hinfo.1 hinfo.2.1 rfl (by decide) (by omega) hcl hR o2 (fun u hu => by simp at hu; rcases hu with rfl <;> rfl) (by rw [List.length_take]; omega) hs
    refine ⟨a3, l3, c3, w3, happ, xs.length - (i + 1), by omega, i + 1, by rw [wi (by omega)]; rfl, by omega, rfl, own0 (k1.tr k2) k3 fun b hb => (row.ge hb).1, ?_⟩
    rw [take_rev hil hx]
    exact row3
  · have hil : i = xs.length := by simp at hc; omega
    subst hil
    rw [List.take_of_length_le (by simp)] at row
    exact ⟨a', l', c', rfl, k1, row⟩
theorem turned13 {v0 w : World} {a : Option Addr} {l c : Nat} {xs : List (Int × Int)} (h : SlR RAlive 2 v0 a l c xs) (kv : Kept none' v0 w) (hl : xs.length ≤ 1000000) :
    Calls Tryz.prog 13 #[.slice a l c] w fun e w' => ∃ (a' : Option Addr) (l' c' : Nat), e = .returned (.slice a' l' c') ∧ Kept none' w w' ∧ RowG RAlive v0 71 2 w' w.heap.size a' l' c' xs.reverse := by
  refine (vc13 a l c w (fun v w' => ∃ (a' : Option Addr) (l' c' : Nat), v = .slice a' l' c' ∧ Kept none' w w' ∧ RowG RAlive v0 71 2 w' w.heap.size a' l' c' xs.reverse) ?_).mono ?_
  rotate_left
  · rintro e w' ⟨v, rfl, a', l', c', rfl, hw⟩
    exact ⟨a', l', c', rfl, hw⟩
  unfold vcP13
  have hlen := h.len
  subst hlen
  have hinfo := inf71
  cases hi : Tryz.prog.info? 71 with
  | none => rw [hi] at hinfo; cases hinfo
  | some i0 =>
  rw [hi] at hinfo
  simp at hinfo
  refine ⟨fun a' l' c' n w' M => ∃ i : Nat, n = (i : Int) ∧ i ≤ xs.length ∧ M = xs.length - i ∧ Kept none' w w' ∧ RowG RAlive v0 71 2 w' w.heap.size a' l' c' (xs.reverse.take i), ⟨xs.length, 0, rfl, by omega, rfl, Kept.refl _ _, RowG.nil'⟩, ?_⟩
  rintro a' l' c' _ w1 _ ⟨i, rfl, hi2, rfl, k1, row⟩
  refine Wif_intro (fun hc => ?_) (fun hc => ?_)
  · have hil : i < xs.length := by simp at hc; omega
    obtain ⟨x, hx⟩ : ∃ x, xs[xs.length - 1 - i]? = some x := ⟨_, List.getElem?_eq_getElem (by omega)⟩
    obtain ⟨cs, hcl, hR, hr⟩ := h.el _ x hx
    have hR0 := hR
    obtain rfl : cs = [vi x.1, .int .u64 x.2] := hR0
    rw [idx_rev hil hl]
    refine Wif_yes (h.isp (by omega)) (Wif_yes (inB_of (by omega) (by omega)) ?_)
    rw [Int.toNat_natCast]
    have kr := fun (j : Nat) (u : Value) hu => (kv.tr k1).rd_some (hr j u hu) id
    refine ⟨x.1, x.2, ⟨kr 0 _ rfl, kr 1 _ rfl⟩, fun w2 e2 => ?_⟩
    have o2 := own_alloc (c := [vi x.1, .int .u64 x.2]) e2
    have k2 : Kept none' w1 w2 := (Kept.refl _ _).al e2
    have hs := (k1.tr k2).sz
    obtain ⟨a3, l3, c3, w3, happ, row3, k3, -⟩ := (row.k k2).one (t := 53) Tryz.underlying53 hi hinfo.1 hinfo.2.1 rfl (by decide) (by omega) hcl hR o2 (fun u hu => by simp at hu; rcases hu with rfl | rfl <;> rfl) (by rw [List.length_take]; omega) hs
    refine ⟨a3, l3, c3, w3, happ, xs.length - (i + 1), by omega, i + 1, by rw [wi (by omega)]; rfl, by omega, rfl, own0 (k1.tr k2) k3 fun b hb => (row.ge hb).1, ?_⟩
    rw [take_rev hil hx]
    exact row3
  · have hil : i = xs.length := by simp at hc; omega
    subst hil
    rw [List.take_of_length_le (by simp)] at row
    exact ⟨a', l', c', rfl, k1, row⟩
theorem turned14 {v0 w : World} {a : Option Addr} {l c : Nat} {xs : List (Int × Int)} (h : SlR RPair 2 v0 a l c xs) (kv : Kept none' v0 w) (hl : xs.length ≤ 1000000) :
    Calls Tryz.prog 14 #[.slice a l c] w fun e w' => ∃ (a' : Option Addr) (l' c' : Nat), e = .returned (.slice a' l' c') ∧ Kept none' w w' ∧ RowG RPair v0 75 2 w' w.heap.size a' l' c' xs.reverse := by
  refine (vc14 a l c w (fun v w' => ∃ (a' : Option Addr) (l' c' : Nat), v = .slice a' l' c' ∧ Kept none' w w' ∧ RowG RPair v0 75 2 w' w.heap.size a' l' c' xs.reverse) ?_).mono ?_
  rotate_left
  · rintro e w' ⟨v, rfl, a', l', c', rfl, hw⟩
    exact ⟨a', l', c', rfl, hw⟩
  unfold vcP14
  have hlen := h.len
  subst hlen
  have hinfo := inf75
  cases hi : Tryz.prog.info? 75 with
  | none => rw [hi] at hinfo; cases hinfo
  | some i0 =>
  rw [hi] at hinfo
  simp at hinfo
  refine ⟨fun a' l' c' n w' M => ∃ i : Nat, n = (i : Int) ∧ i ≤ xs.length ∧ M = xs.length - i ∧ Kept none' w w' ∧ RowG RPair v0 75 2 w' w.heap.size a' l' c' (xs.reverse.take i), ⟨xs.length, 0, rfl, by omega, rfl, Kept.refl _ _, RowG.nil'⟩, ?_⟩
  rintro a' l' c' _ w1 _ ⟨i, rfl, hi2, rfl, k1, row⟩
  refine Wif_intro (fun hc => ?_) (fun hc => ?_)
  · have hil : i < xs.length := by simp at hc; omega
    obtain ⟨x, hx⟩ : ∃ x, xs[xs.length - 1 - i]? = some x := ⟨_, List.getElem?_eq_getElem (by omega)⟩
    obtain ⟨cs, hcl, hR, hr⟩ := h.el _ x hx
    have hR0 := hR
    obtain rfl : cs = [vi x.1, vi x.2] := hR0
    rw [idx_rev hil hl]
    refine Wif_yes (h.isp (by omega)) (Wif_yes (inB_of (by omega) (by omega)) ?_)
    rw [Int.toNat_natCast]
    have kr := fun (j : Nat) (u : Value) hu => (kv.tr k1).rd_some (hr j u hu) id
    refine ⟨x.1, x.2, ⟨kr 0 _ rfl, kr 1 _ rfl⟩, fun w2 e2 => ?_⟩
    have o2 := own_alloc (c := [vi x.1, vi x.2]) e2
    have k2 : Kept none' w1 w2 := (Kept.refl _ _).al e2
    have hs := (k1.tr k2).sz
    obtain ⟨a3, l3, c3, w3, happ, row3, k3, -⟩ := (row.k k2).one (t := 44) Tryz.underlying44 hi hinfo.1 hinfo.2.1 rfl (by decide) (by omega) hcl hR o2 (fun u hu => by simp at hu; rcases hu with rfl | rfl <;> rfl) (by rw [List.length_take]; omega) hs
    refine ⟨a3, l3, c3, w3, happ, xs.length - (i + 1), by omega, i + 1, by rw [wi (by omega)]; rfl, by omega, rfl, own0 (k1.tr k2) k3 fun b hb => (row.ge hb).1, ?_⟩
    rw [take_rev hil hx]
    exact row3
  · have hil : i = xs.length := by simp at hc; omega
    subst hil
    rw [List.take_of_length_le (by simp)] at row
    exact ⟨a', l', c', rfl, k1, row⟩
theorem turned15 {v0 w : World} {a : Option Addr} {l c : Nat} {xs : List Mapped} (h : SlR RMapped 3 v0 a l c xs) (kv : Kept none' v0 w) (hl : xs.length ≤ 1000000) :
    Calls Tryz.prog 15 #[.slice a l c] w fun e w' => ∃ (a' : Option Addr) (l' c' : Nat), e = .returned (.slice a' l' c') ∧ Kept none' w w' ∧ RowG RMapped v0 52 3 w' w.heap.size a' l' c' xs.reverse := by
  refine (vc15 a l c w (fun v w' => ∃ (a' : Option Addr) (l' c' : Nat), v = .slice a' l' c' ∧ Kept none' w w' ∧ RowG RMapped v0 52 3 w' w.heap.size a' l' c' xs.reverse) ?_).mono ?_
  rotate_left
  · rintro e w' ⟨v, rfl, a', l', c', rfl, hw⟩
    exact ⟨a', l', c', rfl, hw⟩
  unfold vcP15
  have hlen := h.len
  subst hlen
  have hinfo := inf52
  cases hi : Tryz.prog.info? 52 with
  | none => rw [hi] at hinfo; cases hinfo
  | some i0 =>
  rw [hi] at hinfo
  simp at hinfo
  refine ⟨fun a' l' c' n w' M => ∃ i : Nat, n = (i : Int) ∧ i ≤ xs.length ∧ M = xs.length - i ∧ Kept none' w w' ∧ RowG RMapped v0 52 3 w' w.heap.size a' l' c' (xs.reverse.take i), ⟨xs.length, 0, rfl, by omega, rfl, Kept.refl _ _, RowG.nil'⟩, ?_⟩
  rintro a' l' c' _ w1 _ ⟨i, rfl, hi2, rfl, k1, row⟩
  refine Wif_intro (fun hc => ?_) (fun hc => ?_)
  · have hil : i < xs.length := by simp at hc; omega
    obtain ⟨x, hx⟩ : ∃ x, xs[xs.length - 1 - i]? = some x := ⟨_, List.getElem?_eq_getElem (by omega)⟩
    obtain ⟨cs, hcl, hR, hr⟩ := h.el _ x hx
    have hR0 := hR
    obtain rfl : cs = [vi x.page, .int .u8 x.kind, vi x.n] := hR0
    rw [idx_rev hil hl]
    refine Wif_yes (h.isp (by omega)) (Wif_yes (inB_of (by omega) (by omega)) ?_)
    rw [Int.toNat_natCast]
    have kr := fun (j : Nat) (u : Value) hu => (kv.tr k1).rd_some (hr j u hu) id
    refine ⟨x.page, x.kind, x.n, ⟨kr 0 _ rfl, kr 1 _ rfl, kr 2 _ rfl⟩, fun w2 e2 => ?_⟩
    have o2 := own_alloc (c := [vi x.page, .int .u8 x.kind, vi x.n]) e2
    have k2 : Kept none' w1 w2 := (Kept.refl _ _).al e2
    have hs := (k1.tr k2).sz
    obtain ⟨a3, l3, c3, w3, happ, row3, k3, -⟩ := (row.k k2).one (t := 45) Tryz.underlying45 hi hinfo.1 hinfo.2.1 rfl (by decide) (by omega) hcl hR o2 (fun u hu => by simp at hu; rcases hu with rfl | rfl | rfl <;> rfl) (by rw [List.length_take]; omega) hs
    refine ⟨a3, l3, c3, w3, happ, xs.length - (i + 1), by omega, i + 1, by rw [wi (by omega)]; rfl, by omega, rfl, own0 (k1.tr k2) k3 fun b hb => (row.ge hb).1, ?_⟩
    rw [take_rev hil hx]
    exact row3
  · have hil : i = xs.length := by simp at hc; omega
    subst hil
    rw [List.take_of_length_le (by simp)] at row
    exact ⟨a', l', c', rfl, k1, row⟩
theorem turned16 {v0 w : World} {a : Option Addr} {l c : Nat} {xs : List Run} (h : SlR RRun 3 v0 a l c xs) (kv : Kept none' v0 w) (hl : xs.length ≤ 1000000) :
    Calls Tryz.prog 16 #[.slice a l c] w fun e w' => ∃ (a' : Option Addr) (l' c' : Nat), e = .returned (.slice a' l' c') ∧ Kept none' w w' ∧ RowG RRun v0 79 3 w' w.heap.size a' l' c' xs.reverse := by
  refine (vc16 a l c w (fun v w' => ∃ (a' : Option Addr) (l' c' : Nat), v = .slice a' l' c' ∧ Kept none' w w' ∧ RowG RRun v0 79 3 w' w.heap.size a' l' c' xs.reverse) ?_).mono ?_
  rotate_left
  · rintro e w' ⟨v, rfl, a', l', c', rfl, hw⟩
    exact ⟨a', l', c', rfl, hw⟩
  unfold vcP16
  have hlen := h.len
  subst hlen
  have hinfo := inf79
  cases hi : Tryz.prog.info? 79 with
  | none => rw [hi] at hinfo; cases hinfo
  | some i0 =>
  rw [hi] at hinfo
  simp at hinfo
  refine ⟨fun a' l' c' n w' M => ∃ i : Nat, n = (i : Int) ∧ i ≤ xs.length ∧ M = xs.length - i ∧ Kept none' w w' ∧ RowG RRun v0 79 3 w' w.heap.size a' l' c' (xs.reverse.take i), ⟨xs.length, 0, rfl, by omega, rfl, Kept.refl _ _, RowG.nil'⟩, ?_⟩
  rintro a' l' c' _ w1 _ ⟨i, rfl, hi2, rfl, k1, row⟩
  refine Wif_intro (fun hc => ?_) (fun hc => ?_)
  · have hil : i < xs.length := by simp at hc; omega
    obtain ⟨x, hx⟩ : ∃ x, xs[xs.length - 1 - i]? = some x := ⟨_, List.getElem?_eq_getElem (by omega)⟩
    obtain ⟨cs, hcl, hR, hr⟩ := h.el _ x hx
    have hR0 := hR
    obtain rfl : cs = [vi x.page, vi x.count, .int .u8 x.rights] := hR0
    rw [idx_rev hil hl]
    refine Wif_yes (h.isp (by omega)) (Wif_yes (inB_of (by omega) (by omega)) ?_)
    rw [Int.toNat_natCast]
    have kr := fun (j : Nat) (u : Value) hu => (kv.tr k1).rd_some (hr j u hu) id
    refine ⟨x.page, x.count, x.rights, ⟨kr 0 _ rfl, kr 1 _ rfl, kr 2 _ rfl⟩, fun w2 e2 => ?_⟩
    have o2 := own_alloc (c := [vi x.page, vi x.count, .int .u8 x.rights]) e2
    have k2 : Kept none' w1 w2 := (Kept.refl _ _).al e2
    have hs := (k1.tr k2).sz
    obtain ⟨a3, l3, c3, w3, happ, row3, k3, -⟩ := (row.k k2).one (t := 46) Tryz.underlying46 hi hinfo.1 hinfo.2.1 rfl (by decide) (by omega) hcl hR o2 (fun u hu => by simp at hu; rcases hu with rfl | rfl | rfl <;> rfl) (by rw [List.length_take]; omega) hs
    refine ⟨a3, l3, c3, w3, happ, xs.length - (i + 1), by omega, i + 1, by rw [wi (by omega)]; rfl, by omega, rfl, own0 (k1.tr k2) k3 fun b hb => (row.ge hb).1, ?_⟩
    rw [take_rev hil hx]
    exact row3
  · have hil : i = xs.length := by simp at hc; omega
    subst hil
    rw [List.take_of_length_le (by simp)] at row
    exact ⟨a', l', c', rfl, k1, row⟩
theorem same_spec {w : World} {a b : Option Addr} {l c l' c' : Nat} {L : List (Int × Int)} (h1 : SlR RFault 2 w a l c L) (h2 : SlR RFault 2 w b l' c' L) :
    Calls Tryz.prog 17 #[.slice a l c, .slice b l' c'] w fun e w' => e = .returned (.bool true) ∧ Kept none' w w' := by
  refine (vc17 a l c b l' c' w (fun v w' => v = .bool true ∧ Kept none' w w') ?_).mono ?_
  rotate_left
  · rintro e w' ⟨v, rfl, rfl, hw⟩
    exact ⟨rfl, hw⟩
  unfold vcP17
  have e1 := h1.len
  have e2 := h2.len
  subst e1 e2
  have hmx := h1.mx
  have hlc := h1.lc
  unfold maxLen at hmx
  refine Wif_no (by simp) ⟨fun _ n w' M => ∃ i : Nat, n = (i : Int) ∧ i ≤ L.length ∧ M = L.length - i ∧ Kept none' w w', ⟨L.length, 0, rfl, by omega, rfl, Kept.refl _ _⟩, ?_⟩
  rintro _ _ w1 _ ⟨i, rfl, hi, rfl, k1⟩
  refine Wif_intro (fun hc => ?_) (fun hc => ?_)
  · have hil : i < L.length := by simp at hc; omega
    intro w2 e2
    have k2 := k1.dr e2
    obtain ⟨x, cs, hx, hR, hr⟩ := (h1.k RFault.stab k2).at hil
    obtain rfl : cs = [.int .u8 x.1, vi x.2] := hR
    obtain ⟨y, ds, hy, hR2, hr2⟩ := (h2.k RFault.stab k2).at hil
    obtain rfl : ds = [.int .u8 y.1, vi y.2] := hR2
    rw [hx] at hy
    cases hy
    refine Wif_yes (h1.isp (by omega)) (Wif_yes (inB_of (by omega) (by omega)) ?_)
    rw [Int.toNat_natCast]
    refine ⟨x.1, x.2, ⟨hr 0 _ rfl, hr 1 _ rfl⟩, Wif_yes (h2.isp (by omega)) (Wif_yes (inB_of (by omega) (by omega)) ⟨x.1, x.2, ⟨hr2 0 _ rfl, hr2 1 _ rfl⟩, Wif_no (by simp) ⟨L.length - (i + 1), by omega, i + 1, by rw [wi (by omega)]; rfl, by omega, rfl, k2⟩⟩)⟩
  · exact ⟨rfl, k1⟩
end Go.Proofs.YtikjgeenhbnkkaaGreatDoor
set_option linter.unusedSimpArgs false
set_option linter.unusedVariables false
set_option maxRecDepth 100000
namespace Go.Proofs.YtikjgeenhbnkkaaGreatDoor
open Go Eng
def Fut {α : Type} (X : Nat → Prop) (R : Rd α) : Rd α := fun v cs x => ∀ w', Kept X v w' → R w' cs x
theorem Fut.step {α : Type} {X : Nat → Prop} {R : Rd α} {v v' : World} {cs : List Value} {x : α} (h : Fut X R v cs x) (k : Kept X v v') : Fut X R v' cs x := fun w' k' => h w' (k.trans k' fun _ _ h => h)
theorem Fut.stab {α : Type} {X : Nat → Prop} {R : Rd α} : Stab (Fut X R) := fun _ _ _ _ h k => h.step (k.mono fun _ _ h => h.elim)
theorem Fut.now {α : Type} {X : Nat → Prop} {R : Rd α} {v : World} {cs : List Value} {x : α} (h : Fut X R v cs x) : R v cs x := h v (Kept.refl _ _)
theorem RowG.cr {α : Type} {R R' : Rd α} {v v' : World} {e : TypeId} {s : Nat} {w : World} {base : Nat} {a : Option Addr} {l c : Nat} {xs : List α} (h : RowG R v e s w base a l c xs) (hR : ∀ cs x, R v cs x → R' v' cs x) : RowG R' v' e s w base a l c xs := by
  obtain ⟨vs, h1, h2, h3⟩ := h.ex
  exact ⟨vs, h1, h2, fun i x hx => by
    obtain ⟨cs, g1, g2, g3⟩ := h3 i x hx
    exact ⟨cs, g1, hR _ _ g2, g3⟩⟩
theorem RowG.own' {α : Type} {R : Rd α} {v : World} {e : TypeId} {s : Nat} {w : World} {base : Nat} {a : Option Addr} {l c : Nat} {xs : List α} (h : RowG R v e s w base a l c xs) (hl : 0 < xs.length) : (Value.slice a l c).ownBlock = some (pb a) := by
  obtain ⟨vs, row, hlen, _⟩ := h.ex
  rcases row.2 with ⟨h0, h1⟩ | ⟨g, cap, cur, h0, _⟩
  · omega
  · cases h0
    rfl
theorem fut_set {α : Type} {X : Nat → Prop} {R : Rd α} {e : TypeId} {s : Nat} {w : World} {base : Nat} {a : Option Addr} {l c : Nat} {xs : List α} (h : RowG (Fut X R) w e s w base a l c xs) (hX : ∀ b, (Value.slice a l c).ownBlock = some b → X b)
    {i j : Nat} {x y : α} {u : Value} (hx : xs[i]? = some x) (hj : j < s) (hy : ∀ (cs : List Value) (w' : World), cs.length = s → Kept X w w' → R w' cs x → R w' (cs.set j u) y) :
    wr w (pb a) (po a + i * s + j) ∧ ∀ w', w' = st w (pb a) (po a + i * s + j) u → RowG (Fut X R) w' e s w' base a l c (xs.set i y) ∧ Kept (fun b => (Value.slice a l c).ownBlock = some b) w w' := by
  have hil := (List.getElem?_eq_some_iff.1 hx).1
  refine ⟨h.wrt hil hj, fun w' ew => ?_⟩
  have k : Kept (fun b => (Value.slice a l c).ownBlock = some b) w w' := (Kept.refl _ w).s1 ew (.inl (h.own' (by omega)))
  have k' : Kept X w w' := k.mono fun b _ hb => hX b hb
  have h' : RowG (Fut X R) w' e s w base a l c xs := h.cr fun cs x hf => hf.step k'
  exact (h'.set hx hj fun cs hc hf w'' k'' => hy cs w'' hc (k'.trans k'' fun _ _ h => h) (hf w'' k'')).2 w' ew
def half {α : Type} (f : α → α) (L : List α) (i : Nat) : List α := (L.take i).map f ++ L.drop i
theorem half_zero {α : Type} (f : α → α) (L : List α) : half f L 0 = L := by simp [half]
theorem half_all {α : Type} (f : α → α) (L : List α) : half f L L.length = L.map f := by simp [half]
theorem half_len {α : Type} (f : α → α) (L : List α) (i : Nat) : (half f L i).length = L.length := by simp [half]; omega
theorem half_get {α : Type} (f : α → α) {L : List α} {i : Nat} {x : α} (h : L[i]? = some x) : (half f L i)[i]? = some x := by
  have hi := (List.getElem?_eq_some_iff.1 h).1
  unfold half
  rw [List.getElem?_append_right (by simp; omega)]
  simp
  rw [Nat.min_eq_left (by omega), Nat.sub_self, Nat.add_zero]
  exact h
theorem half_set {α : Type} (f : α → α) {L : List α} {i : Nat} {x : α} (h : L[i]? = some x) : (half f L i).set i (f x) = half f L (i + 1) := by
  have hi := (List.getElem?_eq_some_iff.1 h).1
  unfold half
  rw [List.set_append_right _ _ (by simp; omega), List.take_add_one, h, List.map_append, List.append_assoc]
  congr 1
  have e : L.drop i = x :: L.drop (i + 1) := by
    rw [List.drop_eq_getElem_cons hi]
    congr 1
    rw [List.getElem?_eq_getElem hi] at h
    exact Option.some.inj h
  rw [e]
  simp
  rw [Nat.min_eq_left (by omega), Nat.sub_self]
  rfl
def RTI (β : Nat) : Rd (List Int) := fun w cs xs => ∃ (a : Option Addr) (l c : Nat), cs = [.slice a l c] ∧ RowI w β a l c xs
theorem RowG.toI {v : World} {w : World} {base : Nat} {a : Option Addr} {l c : Nat} {xs : List Int} (h : RowG RInt v 3 1 w base a l c xs) : RowI w base a l c xs := by
  obtain ⟨vs, row, hlen, hel⟩ := h.ex
  refine ⟨hlen, ?_⟩
  have : vs = xs.map vi := by
    refine List.ext_getElem? fun i => ?_
    rw [List.getElem?_map]
    rcases Nat.lt_or_ge i xs.length with hlt | hge
    · obtain ⟨cs, _, hR, h3⟩ := hel i _ (List.getElem?_eq_getElem hlt)
      obtain rfl : cs = [vi _] := hR
      have := h3 0 _ rfl
      rw [Nat.mul_one, Nat.add_zero] at this
      rw [this, List.getElem?_eq_getElem hlt]
      rfl
    · rw [List.getElem?_eq_none (by rw [row.1]; omega), List.getElem?_eq_none (by omega)]
      rfl
  rw [← this]
  exact row
theorem RowI.weak {w : World} {base base' : Nat} {a : Option Addr} {l c : Nat} {xs : List Int} (h : RowI w base a l c xs) (hb : base' ≤ base) : RowI w base' a l c xs := by
  refine ⟨h.1, h.2.1, ?_⟩
  rcases h.2.2 with h | ⟨g, cap, cur, hv, hg, rest⟩
  · exact .inl h
  · exact .inr ⟨g, cap, cur, hv, by omega, rest⟩
theorem row_ne {w : World} {b1 e1 s1 n1 b2 e2 s2 n2 : Nat} {v1 v2 : Value} {xs ys : List Value} (h1 : w.ownsRow b1 e1 s1 v1 n1 xs) (h2 : w.ownsRow b2 e2 s2 v2 n2 ys) (hn : e1 ≠ e2) {g : Nat} (hg : v1.ownBlock = some g) : v2.ownBlock ≠ some g := by
  intro hg2
  rcases h1.2 with ⟨rfl, _⟩ | ⟨g1, cap, cur, rfl, _, hgg, _⟩
  · cases hg
  · rcases h2.2 with ⟨rfl, _⟩ | ⟨g2, cap2, cur2, rfl, _, hgg2, _⟩
    · cases hg2
    · have e1 : g1 = g := Option.some.inj hg
      have e2 : g2 = g := Option.some.inj hg2
      subst e1 e2
      rw [hgg] at hgg2
      cases hgg2
      exact hn rfl
theorem RTI.stab {β : Nat} : Stab (RTI β) := fun w w' cs x h k => by
  obtain ⟨a, l, c, e, h⟩ := h
  exact ⟨a, l, c, e, h.k k⟩
theorem RTI.kx {β : Nat} {X : Nat → Prop} {w w' : World} {cs : List Value} {x : List Int} (h : RTI β w cs x) (k : Kept X w w') (hX : ∀ b, X b → b < β) : RTI β w' cs x := by
  obtain ⟨a, l, c, e, h⟩ := h
  exact ⟨a, l, c, e, h.1, ownsRow_kx h.2 k fun b hb _ _ hx => by have := hX b hx; omega⟩
theorem RTI.own {β : Nat} {w w' : World} {cs : List Value} {x : List Int} (h : RTI β w cs x) {b2 s2 n2 : Nat} {v2 : Value} {ys : List Value} (row : w.ownsRow b2 31 s2 v2 n2 ys) (k : Kept (fun b => v2.ownBlock = some b) w w') : RTI β w' cs x := by
  obtain ⟨a, l, c, e, h⟩ := h
  exact ⟨a, l, c, e, h.1, ownsRow_kx h.2 k fun b _ _ hb => row_ne h.2 row (by decide) hb⟩
theorem RTI.sl {β : Nat} {w : World} {cs : List Value} {x : List Int} (h : RTI β w cs x) : RL RInt 1 w cs x := by
  obtain ⟨a, l, c, e, h⟩ := h
  exact ⟨a, l, c, e, sl_of_row h.1 h.2⟩
theorem sizeN_turn (x : Pic) : sizeN (turnPic x) = sizeN x := by
  have rv : ∀ {α : Type} (f : α → Nat) (L : List α), sumN f L.reverse = sumN f L := fun f L => by
    unfold sumN
    rw [List.map_reverse, List.sum_reverse]
  have mp : ∀ {α β : Type} (g : α → β) (f : β → Nat) (L : List α), sumN f (L.map g) = sumN (fun a => f (g a)) L := fun g f L => by
    unfold sumN
    rw [List.map_map]
    rfl
  have e1 : sumN procN (x.procs.map turnProc) = sumN procN x.procs := by
    rw [mp]
    exact sumN_congr fun p _ => by simp [procN, turnProc]
  have e2 : sumN slabN (x.slabs.reverse.map turnSlab) = sumN slabN x.slabs := by
    rw [mp, rv]
    exact sumN_congr fun p _ => by simp [slabN, turnSlab]
  have e3 : ∀ L : List (List Int), sumN List.length (L.map List.reverse) = sumN List.length L := fun L => by
    rw [mp]
    exact sumN_congr fun p _ => by simp
  unfold sizeN lensN turnPic
  simp only [List.length_reverse, List.length_map, e1, e2, e3]
end Go.Proofs.YtikjgeenhbnkkaaGreatDoor
