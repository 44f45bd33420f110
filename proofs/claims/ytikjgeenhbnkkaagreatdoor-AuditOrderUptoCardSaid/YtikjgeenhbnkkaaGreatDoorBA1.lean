/-
  A part of a proof that a law of this seat returns true at every input. Conditions: those in each theorem.
-/
import Derived.Test.YtikjgeenhbnkkaaGreatDoorAI4
set_option linter.unusedSimpArgs false
set_option linter.unusedVariables false
set_option maxRecDepth 100000
set_option maxHeartbeats 2000000
namespace Go.Proofs.YtikjgeenhbnkkaaGreatDoor
open Go Eng
def sumN {α : Type} (f : α → Nat) (L : List α) : Nat := (L.map f).sum
theorem sumN_take {α : Type} (f : α → Nat) {L : List α} {i : Nat} {x : α} (h : L[i]? = some x) : sumN f (L.take (i + 1)) = sumN f (L.take i) + f x := by
  unfold sumN
  rw [List.take_add_one, h]
  simp
theorem sumN_le {α : Type} (f : α → Nat) (L : List α) (i : Nat) : sumN f (L.take i) ≤ sumN f L := by
  conv => rhs; rw [← List.take_append_drop i L]
  unfold sumN
  rw [List.map_append, List.sum_append]
  omega
theorem sumN_mem {α : Type} (f : α → Nat) {L : List α} {x : α} (h : x ∈ L) : f x ≤ sumN f L := by
  induction L with
  | nil => cases h
  | cons a L ih =>
    unfold sumN at *
    rw [List.map_cons, List.sum_cons]
    rcases List.mem_cons.1 h with rfl | h
    · omega
    · have := ih h; omega
theorem sumN_take_le {α : Type} (f : α → Nat) {L : List α} {i : Nat} {x : α} (h : L[i]? = some x) : sumN f (L.take i) + f x ≤ sumN f L := by
  rw [← sumN_take f h]
  exact sumN_le f L _
theorem sumN_len {α : Type} (f : α → Nat) (h : ∀ x, 1 ≤ f x) : ∀ (L : List α), L.length ≤ sumN f L
  | [] => Nat.le_refl _
  | a :: L => by
    have := sumN_len f h L
    have := h a
    unfold sumN at *
    rw [List.map_cons, List.sum_cons, List.length_cons]
    omega
theorem sumN_nil {α : Type} (f : α → Nat) : sumN f ([] : List α) = 0 := rfl
def procN (p : Proc) : Nat := 1 + p.leaves.length + p.pages.length + p.pinned.length + p.runs.length
def slabN (s : Slab) : Nat := 1 + s.chain.length + s.alive.length
def oneN {α : Type} (l : List α) : Nat := 1 + l.length
def magN (m : List (List (Int × Int))) : Nat := sumN oneN m
def lensN (x : Pic) : Nat := x.marks.length + x.free.length + x.held.length + x.flying.length + x.flight.length + x.frames.length + x.clocks.length + x.slots.length + x.mags.length + x.depots.length + x.holders.length
def sizeN (x : Pic) : Nat := lensN x + sumN List.length x.held + sumN List.length x.flying + sumN procN x.procs + sumN List.length x.clocks + sumN slabN x.slabs + sumN magN x.mags + sumN magN x.depots
theorem SlR.at {α : Type} {R : Rd α} {s : Nat} {w : World} {a : Option Addr} {l c : Nat} {xs : List α} (h : SlR R s w a l c xs) {i : Nat} (hi : i < xs.length) : ∃ x cs, xs[i]? = some x ∧ R w cs x ∧ ∀ (j : Nat) (u : Value), cs[j]? = some u → rd w (pb a) (po a + i * s + j) = some u := by
  obtain ⟨cs, h1, h2, h3⟩ := h.el i _ (List.getElem?_eq_getElem hi)
  exact ⟨_, cs, List.getElem?_eq_getElem hi, h2, h3⟩
theorem picAt {w1 w' : World} {b : Nat} {S : PicS} {c : Nat → Int} (o : own w1 b (picC S c)) (k : Kept none' w1 w') {i : Nat} (hi : i < 13) : rd w' b (94 + i) = some (.slice (S.a i) (S.l i) (S.c i)) := by
  rw [(o.k k).rd, picC_s S c hi]
  rfl
theorem size_spec {w : World} {S : PicS} {x : Pic} (P : PicR w S x) (hN : sizeN x ≤ 1000000000) : Calls Tryz.prog 6 #[picV S x.c] w fun e w' => e = .returned (vi (sizeN x)) ∧ Kept none' w w' := by
  refine (vc6 x.c (S.a 0) (S.l 0) (S.c 0) (S.a 1) (S.l 1) (S.c 1) (S.a 2) (S.l 2) (S.c 2) (S.a 3) (S.l 3) (S.c 3) (S.a 4) (S.l 4) (S.c 4) (S.a 5) (S.l 5) (S.c 5) (S.a 6) (S.l 6) (S.c 6) (S.a 7) (S.l 7) (S.c 7) (S.a 8) (S.l 8) (S.c 8) (S.a 9) (S.l 9) (S.c 9) (S.a 10) (S.l 10) (S.c 10) (S.a 11) (S.l 11) (S.c 11) (S.a 12) (S.l 12) (S.c 12) w
    (fun v w' => v = vi (sizeN x) ∧ Kept none' w w') ?_).mono ?_
  rotate_left
  · rintro e w' ⟨v, rfl, rfl, hw⟩
    exact ⟨rfl, hw⟩
  unfold vcP6
  intro w1 e1
  have o1 : own w1 w.heap.size (picC S x.c) := own_alloc e1
  have k1 : Kept none' w w1 := (Kept.refl _ _).al e1
  have P1 := P.k k1
  have sl : ∀ {w' : World}, Kept none' w1 w' → ∀ i, i < 13 → rd w' w.heap.size (94 + i) = some (.slice (S.a i) (S.l i) (S.c i)) := fun k i hi => picAt o1 k hi
  have r0 := Kept.refl none' w1
  have l0 := P.marks.len; have l1 := P.free.len; have l2 := P.held.len; have l3 := P.flying.len; have l4 := P.flight.len; have l6 := P.frames.len; have l7 := P.clocks.len; have l8 := P.slots.len; have l10 := P.mags.len; have l11 := P.depots.len; have l12 := P.holders.len; have l5 := P.procs.len; have l9 := P.slabs.len
  have hN' := hN
  unfold sizeN lensN at hN'
  have hpl := sumN_len procN (fun p => by unfold procN; omega) x.procs
  have hsbl := sumN_len slabN (fun p => by unfold slabN; omega) x.slabs
  refine ⟨_, _, _, sl r0 0 (by decide), _, _, _, sl r0 1 (by decide), _, _, _, sl r0 2 (by decide), _, _, _, sl r0 3 (by decide), _, _, _, sl r0 4 (by decide), _, _, _, sl r0 6 (by decide), _, _, _, sl r0 7 (by decide), _, _, _, sl r0 8 (by decide), _, _, _, sl r0 10 (by decide), _, _, _, sl r0 11 (by decide), _, _, _, sl r0 12 (by decide), ?_⟩
  have e0 : IntKind.wrap .i64 (IntKind.wrap .i64 (IntKind.wrap .i64 (IntKind.wrap .i64 (IntKind.wrap .i64 (IntKind.wrap .i64 (IntKind.wrap .i64 (IntKind.wrap .i64 (IntKind.wrap .i64 (IntKind.wrap .i64 ((S.l 0 : Int) + (S.l 1 : Int)) + (S.l 2 : Int)) + (S.l 3 : Int)) + (S.l 4 : Int)) + (S.l 6 : Int)) + (S.l 7 : Int)) + (S.l 8 : Int)) + (S.l 10 : Int)) + (S.l 11 : Int)) + (S.l 12 : Int)) = (lensN x : Int) := by
    unfold lensN
    have g1 : IntKind.wrap .i64 ((S.l 0 : Int) + (S.l 1 : Int)) = _ := wi (by omega)
    have g2 : IntKind.wrap .i64 ((S.l 0 : Int) + (S.l 1 : Int) + (S.l 2 : Int)) = _ := wi (by omega)
    have g3 : IntKind.wrap .i64 ((S.l 0 : Int) + (S.l 1 : Int) + (S.l 2 : Int) + (S.l 3 : Int)) = _ := wi (by omega)
    have g4 : IntKind.wrap .i64 ((S.l 0 : Int) + (S.l 1 : Int) + (S.l 2 : Int) + (S.l 3 : Int) + (S.l 4 : Int)) = _ := wi (by omega)
    have g5 : IntKind.wrap .i64 ((S.l 0 : Int) + (S.l 1 : Int) + (S.l 2 : Int) + (S.l 3 : Int) + (S.l 4 : Int) + (S.l 6 : Int)) = _ := wi (by omega)
    have g6 : IntKind.wrap .i64 ((S.l 0 : Int) + (S.l 1 : Int) + (S.l 2 : Int) + (S.l 3 : Int) + (S.l 4 : Int) + (S.l 6 : Int) + (S.l 7 : Int)) = _ := wi (by omega)
    have g7 : IntKind.wrap .i64 ((S.l 0 : Int) + (S.l 1 : Int) + (S.l 2 : Int) + (S.l 3 : Int) + (S.l 4 : Int) + (S.l 6 : Int) + (S.l 7 : Int) + (S.l 8 : Int)) = _ := wi (by omega)
    have g8 : IntKind.wrap .i64 ((S.l 0 : Int) + (S.l 1 : Int) + (S.l 2 : Int) + (S.l 3 : Int) + (S.l 4 : Int) + (S.l 6 : Int) + (S.l 7 : Int) + (S.l 8 : Int) + (S.l 10 : Int)) = _ := wi (by omega)
    have g9 : IntKind.wrap .i64 ((S.l 0 : Int) + (S.l 1 : Int) + (S.l 2 : Int) + (S.l 3 : Int) + (S.l 4 : Int) + (S.l 6 : Int) + (S.l 7 : Int) + (S.l 8 : Int) + (S.l 10 : Int) + (S.l 11 : Int)) = _ := wi (by omega)
    have g10 : IntKind.wrap .i64 ((S.l 0 : Int) + (S.l 1 : Int) + (S.l 2 : Int) + (S.l 3 : Int) + (S.l 4 : Int) + (S.l 6 : Int) + (S.l 7 : Int) + (S.l 8 : Int) + (S.l 10 : Int) + (S.l 11 : Int) + (S.l 12 : Int)) = _ := wi (by omega)
    rw [g1, g2, g3, g4, g5, g6, g7, g8, g9, g10]
    omega
  rw [e0]
  clear e0
  -- held
  refine ⟨fun n m w' M => ∃ i : Nat, m = (i : Int) ∧ i ≤ x.held.length ∧ M = x.held.length - i ∧ n = ((lensN x + sumN List.length (x.held.take i) : Nat) : Int) ∧ Kept none' w1 w', ⟨x.held.length, 0, rfl, by omega, rfl, by simp [sumN], r0⟩, ?_⟩
  rintro _ _ w2 _ ⟨i, rfl, hi, rfl, rfl, k2⟩
  refine ⟨_, _, _, sl k2 2 (by decide), Wif_intro (fun hc => ?_) (fun hc => ?_)⟩
  · have hil : i < x.held.length := by simp at hc; omega
    obtain ⟨l, cs, hl, hR, hr⟩ := (P1.k k2).held.at hil
    obtain ⟨a, ll, c, rfl, hs⟩ := hR
    have hle := sumN_take_le List.length hl
    refine ⟨_, _, _, sl k2 2 (by decide), Wif_yes ((P1.k k2).held.isp (by omega)) (Wif_yes (inB_of (by omega) (by omega)) ?_)⟩
    rw [Int.toNat_natCast]
    have hsl := hs.len
    refine ⟨_, _, _, hr 0 _ rfl, x.held.length - (i + 1), by omega, i + 1, by rw [wi (by omega)]; rfl, by omega, rfl, ?_, k2⟩
    rw [sumN_take _ hl, wi (by unfold lensN; omega)]
    omega
  have hil : i = x.held.length := by simp at hc; omega
  subst hil
  rw [List.take_length]
  clear hi hc
  -- flying
  refine ⟨fun n m w' M => ∃ i : Nat, m = (i : Int) ∧ i ≤ x.flying.length ∧ M = x.flying.length - i ∧ n = ((lensN x + sumN List.length x.held + sumN List.length (x.flying.take i) : Nat) : Int) ∧ Kept none' w1 w', ⟨x.flying.length, 0, rfl, by omega, rfl, by simp [sumN], k2⟩, ?_⟩
  rintro _ _ w3 _ ⟨i, rfl, hi, rfl, rfl, k3⟩
  refine ⟨_, _, _, sl k3 3 (by decide), Wif_intro (fun hc => ?_) (fun hc => ?_)⟩
  · have hil : i < x.flying.length := by simp at hc; omega
    obtain ⟨l, cs, hl, hR, hr⟩ := (P1.k k3).flying.at hil
    obtain ⟨a, ll, c, rfl, hs⟩ := hR
    have hle := sumN_take_le List.length hl
    refine ⟨_, _, _, sl k3 3 (by decide), Wif_yes ((P1.k k3).flying.isp (by omega)) (Wif_yes (inB_of (by omega) (by omega)) ?_)⟩
    rw [Int.toNat_natCast]
    have hsl := hs.len
    refine ⟨_, _, _, hr 0 _ rfl, x.flying.length - (i + 1), by omega, i + 1, by rw [wi (by omega)]; rfl, by omega, rfl, ?_, k3⟩
    rw [sumN_take _ hl, wi (by unfold lensN; omega)]
    omega
  have hil : i = x.flying.length := by simp at hc; omega
  subst hil
  rw [List.take_length]
  clear hi hc
  -- processes
  refine ⟨fun n m w' M => ∃ i : Nat, m = (i : Int) ∧ i ≤ x.procs.length ∧ M = x.procs.length - i ∧ n = ((lensN x + sumN List.length x.held + sumN List.length x.flying + sumN procN (x.procs.take i) : Nat) : Int) ∧ Kept none' w1 w', ⟨x.procs.length, 0, rfl, by omega, rfl, by simp [sumN], k3⟩, ?_⟩
  rintro _ _ w4 _ ⟨i, rfl, hi, rfl, rfl, k4⟩
  refine ⟨_, _, _, sl k4 5 (by decide), Wif_intro (fun hc => ?_) (fun hc => ?_)⟩
  · have hil : i < x.procs.length := by simp at hc; omega
    obtain ⟨p, cs, hl, hR, hr⟩ := (P1.k k4).procs.at hil
    obtain ⟨a1, n1, c1, a2, n2, c2, a3, n3, c3, a4, n4, c4, rfl, h1, h2, h3, h4⟩ := hR
    have hle := sumN_take_le procN hl
    have f1 := h1.len; have f2 := h2.len; have f3 := h3.len; have f4 := h4.len
    have hpN : procN p = 1 + n1 + n2 + n3 + n4 := by unfold procN; omega
    have hlim : 0 ≤ lensN x := Nat.zero_le _
    have hLN : lensN x + sumN List.length x.held + sumN List.length x.flying + sumN procN x.procs ≤ 1000000000 := by unfold lensN; omega
    refine ⟨_, _, _, sl k4 5 (by decide), Wif_yes ((P1.k k4).procs.isp (by omega)) (Wif_yes (inB_of (by omega) (by omega)) ?_)⟩
    rw [Int.toNat_natCast]
    refine ⟨p.pid, p.root, a1, n1, c1, a2, n2, c2, a3, n3, c3, a4, n4, c4, ⟨hr 0 _ rfl, hr 1 _ rfl, hr 2 _ rfl, hr 3 _ rfl, hr 4 _ rfl, hr 5 _ rfl⟩, ?_⟩
    intro w5 e5
    have o5 := own_alloc (c := [vi 0, vi 0, .slice none 0 0, .slice none 0 0, .slice none 0 0, .slice none 0 0]) e5
    have k5 := k4.al e5
    refine ⟨⟨o5.wr (by decide), o5.wr (by decide), o5.wr (by decide), o5.wr (by decide), o5.wr (by decide), o5.wr (by decide)⟩, ?_⟩
    intro w6 e6
    have o6 : own w6 w4.heap.size [vi p.pid, vi p.root, .slice a1 n1 c1, .slice a2 n2 c2, .slice a3 n3 c3, .slice a4 n4 c4] := by rw [e6]; exact (((((o5.st_same).st_same).st_same).st_same).st_same).st_same
    have hs4 := k4.sz
    have k6 : Kept none' w1 w6 := by rw [e6]; exact (((((k5.st (.inr hs4)).st (.inr hs4)).st (.inr hs4)).st (.inr hs4)).st (.inr hs4)).st (.inr hs4)
    refine ⟨_, _, _, o6.rd 2, _, _, _, o6.rd 3, _, _, _, o6.rd 4, _, _, _, o6.rd 5, x.procs.length - (i + 1), by omega, i + 1, by rw [wi (by omega)]; rfl, by omega, rfl, ?_, k6⟩
    rw [sumN_take _ hl, hpN]
    have hB : lensN x + sumN List.length x.held + sumN List.length x.flying + sumN procN (x.procs.take i) + (1 + n1 + n2 + n3 + n4) ≤ 1000000000 := by omega
    obtain ⟨B, hBe⟩ : ∃ B, B = lensN x + sumN List.length x.held + sumN List.length x.flying + sumN procN (x.procs.take i) := ⟨_, rfl⟩
    rw [← hBe] at hB ⊢
    have g1 : IntKind.wrap .i64 ((B : Int) + 1) = _ := wi (by omega)
    have g2 : IntKind.wrap .i64 ((B : Int) + 1 + (n1 : Int)) = _ := wi (by omega)
    have g3 : IntKind.wrap .i64 ((B : Int) + 1 + (n1 : Int) + (n2 : Int)) = _ := wi (by omega)
    have g4 : IntKind.wrap .i64 ((B : Int) + 1 + (n1 : Int) + (n2 : Int) + (n3 : Int)) = _ := wi (by omega)
    have g5 : IntKind.wrap .i64 ((B : Int) + 1 + (n1 : Int) + (n2 : Int) + (n3 : Int) + (n4 : Int)) = _ := wi (by omega)
    rw [g1, g2, g3, g4, g5]
    omega
  have hil : i = x.procs.length := by simp at hc; omega
  subst hil
  rw [List.take_length]
  clear hi hc
  -- clocks
  refine ⟨fun n m w' M => ∃ i : Nat, m = (i : Int) ∧ i ≤ x.clocks.length ∧ M = x.clocks.length - i ∧ n = ((lensN x + sumN List.length x.held + sumN List.length x.flying + sumN procN x.procs + sumN List.length (x.clocks.take i) : Nat) : Int) ∧ Kept none' w1 w', ⟨x.clocks.length, 0, rfl, by omega, rfl, by simp [sumN], k4⟩, ?_⟩
  rintro _ _ w5 _ ⟨i, rfl, hi, rfl, rfl, k5⟩
  refine ⟨_, _, _, sl k5 7 (by decide), Wif_intro (fun hc => ?_) (fun hc => ?_)⟩
  · have hil : i < x.clocks.length := by simp at hc; omega
    obtain ⟨l, cs, hl, hR, hr⟩ := (P1.k k5).clocks.at hil
    obtain ⟨a, ll, c, rfl, hs⟩ := hR
    have hle := sumN_take_le List.length hl
    refine ⟨_, _, _, sl k5 7 (by decide), Wif_yes ((P1.k k5).clocks.isp (by omega)) (Wif_yes (inB_of (by omega) (by omega)) ?_)⟩
    rw [Int.toNat_natCast]
    have hsl := hs.len
    refine ⟨_, _, _, hr 0 _ rfl, x.clocks.length - (i + 1), by omega, i + 1, by rw [wi (by omega)]; rfl, by omega, rfl, ?_, k5⟩
    rw [sumN_take _ hl, wi (by unfold lensN; omega)]
    omega
  have hil : i = x.clocks.length := by simp at hc; omega
  subst hil
  rw [List.take_length]
  clear hi hc
  -- slabs
  refine ⟨fun n m w' M => ∃ i : Nat, m = (i : Int) ∧ i ≤ x.slabs.length ∧ M = x.slabs.length - i ∧ n = ((lensN x + sumN List.length x.held + sumN List.length x.flying + sumN procN x.procs + sumN List.length x.clocks + sumN slabN (x.slabs.take i) : Nat) : Int) ∧ Kept none' w1 w', ⟨x.slabs.length, 0, rfl, by omega, rfl, by simp [sumN], k5⟩, ?_⟩
  rintro _ _ w6 _ ⟨i, rfl, hi, rfl, rfl, k6⟩
  refine ⟨_, _, _, sl k6 9 (by decide), Wif_intro (fun hc => ?_) (fun hc => ?_)⟩
  · have hil : i < x.slabs.length := by simp at hc; omega
    intro w7 e7
    have k7 := k6.dr e7
    obtain ⟨l, cs, hl, hR, hr⟩ := (P1.k k7).slabs.at hil
    obtain ⟨a1, n1, c1, a2, n2, c2, rfl, h1, h2⟩ := hR
    have hle := sumN_take_le slabN hl
    have f1 := h1.len; have f2 := h2.len
    have hsN : slabN l = 1 + n1 + n2 := by unfold slabN; omega
    have hLN : lensN x + sumN List.length x.held + sumN List.length x.flying + sumN procN x.procs + sumN List.length x.clocks + sumN slabN x.slabs ≤ 1000000000 := by unfold lensN; omega
    have hip := (P1.k k7).slabs.isp (show 0 < S.l 9 by omega)
    refine ⟨_, _, _, sl k7 9 (by decide), Wif_yes hip (Wif_yes (inB_of (by omega) (by omega)) ?_)⟩
    rw [Int.toNat_natCast]
    refine ⟨_, _, _, hr 5 _ rfl, _, _, _, sl k7 9 (by decide), Wif_yes hip (Wif_yes (inB_of (by omega) (by omega)) ⟨_, _, _, hr 6 _ rfl, x.slabs.length - (i + 1), by omega, i + 1, by rw [wi (by omega)]; rfl, by omega, rfl, ?_, k7⟩)⟩
    rw [sumN_take _ hl, hsN]
    have hB : lensN x + sumN List.length x.held + sumN List.length x.flying + sumN procN x.procs + sumN List.length x.clocks + sumN slabN (x.slabs.take i) + (1 + n1 + n2) ≤ 1000000000 := by omega
    obtain ⟨B, hBe⟩ : ∃ B, B = lensN x + sumN List.length x.held + sumN List.length x.flying + sumN procN x.procs + sumN List.length x.clocks + sumN slabN (x.slabs.take i) := ⟨_, rfl⟩
    rw [← hBe] at hB ⊢
    have g1 : IntKind.wrap .i64 ((B : Int) + 1) = _ := wi (by omega)
    have g2 : IntKind.wrap .i64 ((B : Int) + 1 + (n1 : Int)) = _ := wi (by omega)
    have g3 : IntKind.wrap .i64 ((B : Int) + 1 + (n1 : Int) + (n2 : Int)) = _ := wi (by omega)
    rw [g1, g2, g3]
    omega
  have hil : i = x.slabs.length := by simp at hc; omega
  subst hil
  rw [List.take_length]
  clear hi hc
  -- magazines
  have hLM : lensN x + sumN List.length x.held + sumN List.length x.flying + sumN procN x.procs + sumN List.length x.clocks + sumN slabN x.slabs + sumN magN x.mags + sumN magN x.depots ≤ 1000000000 := by unfold lensN; omega
  have hml : x.mags.length ≤ 1000000000 := by omega
  have hdl : x.depots.length ≤ 1000000000 := by omega
  clear hN'
  generalize hA : lensN x + sumN List.length x.held + sumN List.length x.flying + sumN procN x.procs + sumN List.length x.clocks + sumN slabN x.slabs = A at *
  have hsz : sizeN x = A + sumN magN x.mags + sumN magN x.depots := by unfold sizeN; omega
  refine ⟨fun n m w' M => ∃ i : Nat, m = (i : Int) ∧ i ≤ x.mags.length ∧ M = x.mags.length - i ∧ n = ((A + sumN magN (x.mags.take i) : Nat) : Int) ∧ Kept none' w1 w', ⟨x.mags.length, 0, rfl, by omega, rfl, by simp [sumN], k6⟩, ?_⟩
  rintro _ _ w7 _ ⟨i, rfl, hi, rfl, rfl, k7⟩
  refine ⟨_, _, _, sl k7 10 (by decide), Wif_intro (fun hc => ?_) (fun hc => ?_)⟩
  · have hil : i < x.mags.length := by simp at hc; omega
    obtain ⟨m, cs, hm, -, -⟩ := (P1.k k7).mags.at hil
    have hle := sumN_take_le magN hm
    refine ⟨fun n q w' M => ∃ j : Nat, q = (j : Int) ∧ j ≤ m.length ∧ M = m.length - j ∧ n = ((A + sumN magN (x.mags.take i) + sumN oneN (m.take j) : Nat) : Int) ∧ Kept none' w1 w', ⟨m.length, 0, rfl, by omega, rfl, by simp [sumN], k7⟩, ?_⟩
    rintro _ _ w8 _ ⟨j, rfl, hj, rfl, rfl, k8⟩
    have hip := (P1.k k8).mags.isp (show 0 < S.l 10 by omega)
    obtain ⟨m', cs', hm', hR, hr⟩ := (P1.k k8).mags.at hil
    rw [hm] at hm'
    cases hm'
    obtain ⟨a, ll, c, rfl, hs⟩ := hR
    have hsl := hs.len
    refine ⟨_, _, _, sl k8 10 (by decide), Wif_yes hip (Wif_yes (inB_of (by omega) (by omega)) ?_)⟩
    rw [Int.toNat_natCast]
    refine ⟨_, _, _, hr 0 _ rfl, Wif_intro (fun hc2 => ?_) (fun hc2 => ?_)⟩
    · have hjl : j < m.length := by simp at hc2; omega
      obtain ⟨l, cs, hl, hR2, hr2⟩ := hs.at hjl
      obtain ⟨a2, l2, c2, rfl, hs2⟩ := hR2
      have hs2l := hs2.len
      have hle2 := sumN_take_le oneN hl
      have hone : oneN l = 1 + l2 := by unfold oneN; omega
      have hmN : magN m = sumN oneN m := rfl
      have hmx := hs.mx
      have hmlc := hs.lc
      unfold maxLen at hmx
      refine ⟨_, _, _, sl k8 10 (by decide), Wif_yes hip (Wif_yes (inB_of (by omega) (by omega)) ?_)⟩
      rw [Int.toNat_natCast]
      refine ⟨_, _, _, hr 0 _ rfl, Wif_yes (hs.isp (by omega)) (Wif_yes (inB_of (by omega) (by omega)) ?_)⟩
      refine ⟨_, _, _, hr2 0 _ rfl, m.length - (j + 1), by omega, j + 1, by rw [wi (by omega)]; rfl, by omega, rfl, ?_, k8⟩
      rw [sumN_take _ hl, hone]
      have hB : A + sumN magN (x.mags.take i) + sumN oneN (m.take j) + (1 + l2) ≤ 1000000000 := by omega
      obtain ⟨B, hBe⟩ : ∃ B, B = A + sumN magN (x.mags.take i) + sumN oneN (m.take j) := ⟨_, rfl⟩
      rw [← hBe] at hB ⊢
      have g1 : IntKind.wrap .i64 ((B : Int) + 1) = _ := wi (by omega)
      have g2 : IntKind.wrap .i64 ((B : Int) + 1 + (l2 : Int)) = _ := wi (by omega)
      rw [g1, g2]
      omega
    · have hjl : j = m.length := by simp at hc2; omega
      subst hjl
      rw [List.take_length]
      refine ⟨x.mags.length - (i + 1), by omega, i + 1, by rw [wi (by omega)]; rfl, by omega, rfl, ?_, k8⟩
      rw [sumN_take _ hm]
      show _ = ((A + (sumN magN (x.mags.take i) + sumN oneN m) : Nat) : Int)
      omega
  have hil : i = x.mags.length := by simp at hc; omega
  subst hil
  rw [List.take_length]
  clear hi hc
  -- depots
  refine ⟨fun n m w' M => ∃ i : Nat, m = (i : Int) ∧ i ≤ x.depots.length ∧ M = x.depots.length - i ∧ n = ((A + sumN magN x.mags + sumN magN (x.depots.take i) : Nat) : Int) ∧ Kept none' w1 w', ⟨x.depots.length, 0, rfl, by omega, rfl, by simp [sumN], k7⟩, ?_⟩
  rintro _ _ w8 _ ⟨i, rfl, hi, rfl, rfl, k8⟩
  refine ⟨_, _, _, sl k8 11 (by decide), Wif_intro (fun hc => ?_) (fun hc => ?_)⟩
  · have hil : i < x.depots.length := by simp at hc; omega
    obtain ⟨m, cs, hm, -, -⟩ := (P1.k k8).depots.at hil
    have hle := sumN_take_le magN hm
    refine ⟨fun n q w' M => ∃ j : Nat, q = (j : Int) ∧ j ≤ m.length ∧ M = m.length - j ∧ n = ((A + sumN magN x.mags + sumN magN (x.depots.take i) + sumN oneN (m.take j) : Nat) : Int) ∧ Kept none' w1 w', ⟨m.length, 0, rfl, by omega, rfl, by simp [sumN], k8⟩, ?_⟩
    rintro _ _ w9 _ ⟨j, rfl, hj, rfl, rfl, k9⟩
    have hip := (P1.k k9).depots.isp (show 0 < S.l 11 by omega)
    obtain ⟨m', cs', hm', hR, hr⟩ := (P1.k k9).depots.at hil
    rw [hm] at hm'
    cases hm'
    obtain ⟨a, ll, c, rfl, hs⟩ := hR
    have hsl := hs.len
    refine ⟨_, _, _, sl k9 11 (by decide), Wif_yes hip (Wif_yes (inB_of (by omega) (by omega)) ?_)⟩
    rw [Int.toNat_natCast]
    refine ⟨_, _, _, hr 0 _ rfl, Wif_intro (fun hc2 => ?_) (fun hc2 => ?_)⟩
    · have hjl : j < m.length := by simp at hc2; omega
      obtain ⟨l, cs, hl, hR2, hr2⟩ := hs.at hjl
      obtain ⟨a2, l2, c2, rfl, hs2⟩ := hR2
      have hs2l := hs2.len
      have hle2 := sumN_take_le oneN hl
      have hone : oneN l = 1 + l2 := by unfold oneN; omega
      have hmN : magN m = sumN oneN m := rfl
      have hmx := hs.mx
      have hmlc := hs.lc
      unfold maxLen at hmx
      refine ⟨_, _, _, sl k9 11 (by decide), Wif_yes hip (Wif_yes (inB_of (by omega) (by omega)) ?_)⟩
      rw [Int.toNat_natCast]
      refine ⟨_, _, _, hr 0 _ rfl, Wif_yes (hs.isp (by omega)) (Wif_yes (inB_of (by omega) (by omega)) ?_)⟩
      refine ⟨_, _, _, hr2 0 _ rfl, m.length - (j + 1), by omega, j + 1, by rw [wi (by omega)]; rfl, by omega, rfl, ?_, k9⟩
      rw [sumN_take _ hl, hone]
      have hB : A + sumN magN x.mags + sumN magN (x.depots.take i) + sumN oneN (m.take j) + (1 + l2) ≤ 1000000000 := by omega
      obtain ⟨B, hBe⟩ : ∃ B, B = A + sumN magN x.mags + sumN magN (x.depots.take i) + sumN oneN (m.take j) := ⟨_, rfl⟩
      rw [← hBe] at hB ⊢
      have g1 : IntKind.wrap .i64 ((B : Int) + 1) = _ := wi (by omega)
      have g2 : IntKind.wrap .i64 ((B : Int) + 1 + (l2 : Int)) = _ := wi (by omega)
      rw [g1, g2]
      omega
    · have hjl : j = m.length := by simp at hc2; omega
      subst hjl
      rw [List.take_length]
      refine ⟨x.depots.length - (i + 1), by omega, i + 1, by rw [wi (by omega)]; rfl, by omega, rfl, ?_, k9⟩
      rw [sumN_take _ hm]
      show _ = ((A + sumN magN x.mags + (sumN magN (x.depots.take i) + sumN oneN m) : Nat) : Int)
      omega
  have hil : i = x.depots.length := by simp at hc; omega
  subst hil
  rw [List.take_length, hsz]
  exact ⟨rfl, k1.tr k8⟩
end Go.Proofs.YtikjgeenhbnkkaaGreatDoor
set_option linter.unusedSimpArgs false
set_option linter.unusedVariables false
set_option maxRecDepth 100000
namespace Go.Proofs.YtikjgeenhbnkkaaGreatDoor
open Go Eng
theorem len_fm {α β : Type} (f : α → List β) (L : List α) : (L.flatMap f).length = sumN (fun a => (f a).length) L := List.length_flatMap
theorem sumN_mono {α : Type} {f g : α → Nat} {L : List α} (h : ∀ a ∈ L, f a ≤ g a) : sumN f L ≤ sumN g L := by
  induction L with
  | nil => exact Nat.le_refl _
  | cons a L ih =>
    have h1 := h a (by simp)
    have h2 := ih fun b hb => h b (by simp [hb])
    unfold sumN at *
    rw [List.map_cons, List.sum_cons, List.map_cons, List.sum_cons]
    omega
theorem sumN_congr {α : Type} {f g : α → Nat} {L : List α} (h : ∀ a ∈ L, f a = g a) : sumN f L = sumN g L := by
  unfold sumN
  rw [List.map_congr_left h]
theorem sumN_app {α : Type} (f : α → Nat) (L M : List α) : sumN f (L ++ M) = sumN f L + sumN f M := by
  unfold sumN
  rw [List.map_append, List.sum_append]
theorem small_of {x : Pic} (h : sizeN x ≤ 2000) : Small x := by
  have h5 := sumN_len procN (fun p => by unfold procN; omega) x.procs
  have h6 := sumN_len slabN (fun p => by unfold slabN; omega) x.slabs
  have hp : ∀ {β : Type} (f : Proc → List β), (∀ p, (f p).length ≤ procN p) → (x.procs.flatMap f).length ≤ sumN procN x.procs := fun f hf => by
    rw [len_fm]
    exact sumN_mono fun p _ => hf p
  have h1 := hp Proc.leaves fun p => by unfold procN; omega
  have h2 := hp Proc.pages fun p => by unfold procN; omega
  have h3 := hp Proc.pinned fun p => by unfold procN; omega
  have h4 : (x.held.flatMap id).length = sumN List.length x.held := len_fm _ _
  have h7 : (x.flying.flatMap id).length = sumN List.length x.flying := len_fm _ _
  have h8 : (x.slabs.flatMap slabO).length ≤ sumN slabN x.slabs := by
    rw [len_fm]
    refine sumN_mono fun s _ => ?_
    unfold slabO slabN
    rw [List.length_append, List.length_map, List.length_map]
    omega
  have h9 : ((x.mags ++ x.depots).flatMap fun m => m.flatMap id).length ≤ sumN magN x.mags + sumN magN x.depots := by
    rw [len_fm, sumN_app]
    refine Nat.add_le_add ?_ ?_ <;>
    · refine sumN_mono fun m _ => ?_
      show (m.flatMap id).length ≤ sumN oneN m
      rw [len_fm]
      exact sumN_mono fun l _ => by unfold oneN; simp
  have hs := h
  unfold sizeN lensN at hs
  refine ⟨by omega, by omega, by omega, by omega, by omega, by omega, by omega, by omega, by omega, by omega, by omega, fun c hc => ?_, by omega, by omega, ?_⟩
  · have := sumN_mem List.length hc
    omega
  · unfold manyL
    rw [List.length_append, List.length_append]
    omega
theorem no_faults {x : Pic} {rows : Nat → List Int} (h : RowsOk x rows 8) (h0 : faultsOf rows 8 = []) : ∀ i, i < 8 → ∀ n, ¬ lookF x i n := by
  intro i hi n hn
  have h1 := ((h i hi).2 n).2 hn
  unfold faultsOf at h0
  rw [List.flatMap_eq_nil_iff] at h0
  have h2 := h0 i (List.mem_range.2 hi)
  rw [List.map_eq_nil_iff] at h2
  rw [h2] at h1
  cases h1
theorem nodup_of_one {α : Type} [DecidableEq α] : ∀ {L : List α}, (∀ k ∈ L, (L.filter fun y => decide (y = k)).length = 1) → L.Nodup
  | [], _ => List.nodup_nil
  | a :: L, h => by
    have ha := h a (by simp)
    simp at ha
    refine List.nodup_cons.2 ⟨fun hm => ha a hm rfl, nodup_of_one fun k hk => ?_⟩
    have := h k (by simp [hk])
    have hne : a ≠ k := fun e => ha k hk e.symm
    rw [List.filter_cons_of_neg (by simpa using hne)] at this
    exact this
theorem same_len {α : Type} [DecidableEq α] {L M : List α} (h1 : L.Nodup) (h2 : M.Nodup) (h : ∀ k, k ∈ L ↔ k ∈ M) : L.length = M.length :=
  Nat.le_antisymm (nodup_sub_len h1 fun k hk => (h k).1 hk) (nodup_sub_len h2 fun k hk => (h k).2 hk)
theorem mem_of_one {α : Type} [DecidableEq α] {L : List α} {k : α} (h : (L.filter fun y => decide (y = k)).length ≠ 0) : k ∈ L := by
  rcases List.exists_mem_of_length_pos (Nat.pos_of_ne_zero h) with ⟨a, ha⟩
  simp at ha
  exact ha.2 ▸ ha.1
theorem one_of_mem {α : Type} [DecidableEq α] {L : List α} {k : α} (h : k ∈ L) : (L.filter fun y => decide (y = k)).length ≠ 0 := by
  intro h0
  have : k ∈ L.filter fun y => decide (y = k) := by simp [h]
  rw [List.length_eq_zero_iff.1 h0] at this
  cases this
theorem gOf_cnt (A : List (Int × Int)) (f : Nat) : (gOf A f).length = ((A.map Prod.fst).filter fun y => decide (y = (f : Int))).length := by
  unfold gOf
  rw [List.length_map, List.filter_map, List.length_map]
  rfl
structure SumsOk (x : Pic) : Prop where
  frames : sumN (fun b => 2 ^ b.2.toNat) x.free + sumN List.length x.held + sumN (fun p => 1 + p.leaves.length) x.procs + (x.frames.length + x.slabs.length) = x.marks.length
  slots : sumN (fun p => (slotL p).length) x.procs + (x.flight.filter fun f => decide (f ≥ 0)).length = x.slots.length
  objs : sumN (fun s => s.chain.length + s.alive.length) x.slabs + sumN List.length x.flying + sumN (fun m => sumN List.length m) (x.mags ++ x.depots) = sumN (fun s => s.count.toNat) x.slabs
theorem adds_len (x : Pic) : (addsP x).length = sumN (fun b => 2 ^ b.2.toNat) x.free + sumN List.length x.held + sumN (fun p => 1 + p.leaves.length) x.procs + (x.frames.length + x.slabs.length) := by
  unfold addsP
  simp only [List.length_append]
  have h1 : (freeA x.free).length = sumN (fun b => 2 ^ b.2.toNat) x.free := by
    unfold freeA
    rw [len_fm]
    exact sumN_congr fun b _ => by simp
  have h2 : (heldA x.held).length = sumN List.length x.held := by
    unfold heldA
    rw [len_fm]
    exact sumN_congr fun b _ => by simp
  have h3 : (procA x.procs).length = sumN (fun p => 1 + p.leaves.length) x.procs := by
    unfold procA
    rw [len_fm]
    exact sumN_congr fun b _ => by simp; omega
  have h4 : (pageA x.frames).length = x.frames.length := by simp [pageA]
  have h5 : (slabA x.slabs).length = x.slabs.length := by simp [slabA]
  omega
theorem frames_all {x : Pic} (hs : ShapeP x) (sm : Small x) (hn : ∀ n, ¬ lookF x 0 n) : ∀ i, i < x.marks.length → (gOf (addsP x) i).length = 1 := by
  intro i hi
  refine Classical.byContradiction fun h => hn i ⟨i, gOf (addsP x) i, rfl, ?_, h⟩
  rw [List.getElem?_map, List.getElem?_range hi]
  rfl
def objL (x : Pic) : List (Int × Int) := x.slabs.flatMap fun s => (List.range s.count.toNat).map fun (i : Nat) => (s.frame, (i : Int))
theorem mem_objL {x : Pic} {o : Int × Int} : o ∈ objL x ↔ ObP x.slabs o := by
  unfold objL ObP
  rw [List.mem_flatMap]
  constructor
  · rintro ⟨s, hs, h⟩
    obtain ⟨i, hi, rfl⟩ := List.mem_map.1 h
    have hi := List.mem_range.1 hi
    exact ⟨s, hs, rfl, by simp; omega⟩
  · rintro ⟨s, hs, h1, h2, h3⟩
    refine ⟨s, hs, List.mem_map.2 ⟨o.2.toNat, List.mem_range.2 (by omega), ?_⟩⟩
    rw [Int.toNat_of_nonneg h2, h1]
theorem objL_nodup {x : Pic} (h : (x.slabs.map Slab.frame).Nodup) : (objL x).Nodup := by
  unfold objL List.Nodup
  rw [List.pairwise_flatMap]
  refine ⟨fun s _ => ?_, ?_⟩
  · rw [List.pairwise_map]
    exact List.nodup_range.imp fun hne e => hne (Int.ofNat_inj.1 (by simpa using e))
  · unfold List.Nodup at h
    rw [List.pairwise_map] at h
    refine h.imp fun hne a ha b hb e => hne ?_
    obtain ⟨i, _, rfl⟩ := List.mem_map.1 ha
    obtain ⟨j, _, rfl⟩ := List.mem_map.1 hb
    exact (Prod.ext_iff.1 e).1
theorem many_ob {x : Pic} (hs : ShapeP x) : ∀ o ∈ manyL x, ObP x.slabs o := by
  obtain ⟨-, -, -, t1, t2, t3, t4, t5, t6, t7, t8, t9, t10, t11⟩ := hs
  intro o ho
  unfold manyL at ho
  simp only [List.mem_append] at ho
  rcases ho with (ho | ho) | ho
  · obtain ⟨s, hs, ho⟩ := List.mem_flatMap.1 ho
    obtain ⟨-, g1, g2⟩ := t8 s hs
    unfold slabO at ho
    rcases List.mem_append.1 ho with ho | ho
    · obtain ⟨i, hi, rfl⟩ := List.mem_map.1 ho
      exact ⟨s, hs, rfl, g1 i hi⟩
    · obtain ⟨a, ha, rfl⟩ := List.mem_map.1 ho
      exact ⟨s, hs, rfl, g2 a ha⟩
  · obtain ⟨l, hl, ho⟩ := List.mem_flatMap.1 ho
    exact t4 l hl o ho
  · obtain ⟨m, hm, ho⟩ := List.mem_flatMap.1 ho
    obtain ⟨l, hl, ho⟩ := List.mem_flatMap.1 ho
    rcases List.mem_append.1 hm with hm | hm
    · exact (t5 m hm).2 l hl o ho
    · exact (t7 m hm).2 l hl o ho
theorem many_one {x : Pic} (hs : ShapeP x) (hn : ∀ n, ¬ lookF x 5 n) : ∀ o, ObP x.slabs o → cnO (manyL x) o = 1 := by
  rintro ⟨f, i⟩ ⟨s, hs, h1, h2, h3⟩
  simp only at h1 h2 h3
  subst h1
  refine Classical.byContradiction fun h => hn s.frame (.inr ⟨s, hs, rfl, i.toNat, by omega, ?_⟩)
  rw [Int.toNat_of_nonneg h2]
  exact h
theorem sums_ok {x : Pic} (hs : ShapeP x) (sm : Small x) (hn : ∀ i, i < 8 → ∀ n, ¬ lookF x i n) : SumsOk x := by
  have hct := hs.ct sm
  refine ⟨?_, ?_, ?_⟩
  · rw [← adds_len]
    have h1 := frames_all hs sm (hn 0 (by decide))
    have h2 : ((addsP x).map Prod.fst).Nodup := nodup_of_one fun k hk => by
      obtain ⟨p, hp, rfl⟩ := List.mem_map.1 hk
      have := hct.1 p hp
      have e : p.1 = ((p.1.toNat : Nat) : Int) := by omega
      rw [e, ← gOf_cnt]
      exact h1 _ (by omega)
    have h3 : ((List.range x.marks.length).map fun (i : Nat) => (i : Int)).Nodup := by
      unfold List.Nodup
      rw [List.pairwise_map]
      exact List.nodup_range.imp fun hne e => hne (Int.ofNat_inj.1 (by simpa using e))
    have := same_len h2 h3 fun k => by
      constructor
      · intro hk
        obtain ⟨p, hp, rfl⟩ := List.mem_map.1 hk
        have := hct.1 p hp
        exact List.mem_map.2 ⟨p.1.toNat, List.mem_range.2 (by omega), by omega⟩
      · intro hk
        obtain ⟨i, hi, rfl⟩ := List.mem_map.1 hk
        have := h1 i (List.mem_range.1 hi)
        rw [gOf_cnt] at this
        exact mem_of_one (by omega)
    simpa using this
  · have h3 := hn 3 (by decide)
    have h1 : ∀ s, cn (takenL x) s ≠ 0 ∨ cn (usedL x) s ≠ 0 → cn (takenL x) s = 1 ∧ cn (usedL x) s = 1 := fun s h => Classical.byContradiction fun h' => h3 s ⟨h, h'⟩
    have hT : (takenL x).Nodup := nodup_of_one fun k hk => (h1 k (.inl (one_of_mem hk))).1
    have hU : (usedL x).Nodup := nodup_of_one fun k hk => (h1 k (.inr (one_of_mem hk))).2
    have hl := same_len hT hU fun k => ⟨fun hk => mem_of_one (by have := (h1 k (.inl (one_of_mem hk))).2; unfold cn at this; omega), fun hk => mem_of_one (by have := (h1 k (.inr (one_of_mem hk))).1; unfold cn at this; omega)⟩
    unfold takenL usedL at hl
    rw [List.length_map, List.length_append, len_fm] at hl
    omega
  · have h1 := many_one hs (hn 5 (by decide))
    have hM : (manyL x).Nodup := nodup_of_one fun k hk => h1 k (many_ob hs k hk)
    have hl := same_len hM (objL_nodup hs.2.2.1) fun k => by
      rw [mem_objL]
      exact ⟨many_ob hs k, fun hk => mem_of_one (by have := h1 k hk; unfold cnO at this; omega)⟩
    unfold manyL objL at hl
    rw [List.length_append, List.length_append, len_fm, len_fm, len_fm, len_fm] at hl
    have e1 : sumN (fun a => (slabO a).length) x.slabs = sumN (fun s => s.chain.length + s.alive.length) x.slabs := sumN_congr fun s _ => by simp [slabO]
    have e2 : sumN (fun (m : List (List (Int × Int))) => (m.flatMap id).length) (x.mags ++ x.depots) = sumN (fun m => sumN List.length m) (x.mags ++ x.depots) := sumN_congr fun m _ => len_fm _ _
    have e3 : sumN (fun s => ((List.range s.count.toNat).map fun (i : Nat) => (s.frame, (i : Int))).length) x.slabs = sumN (fun s => s.count.toNat) x.slabs := sumN_congr fun s _ => by simp
    have e4 : sumN (fun (a : List (Int × Int)) => (id a).length) x.flying = sumN List.length x.flying := rfl
    rw [e1, e2, e3, e4] at hl
    exact hl
end Go.Proofs.YtikjgeenhbnkkaaGreatDoor
