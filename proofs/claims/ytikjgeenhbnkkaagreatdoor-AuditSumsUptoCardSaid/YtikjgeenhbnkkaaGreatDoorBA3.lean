/-
  A part of a proof that a law of this seat returns true at every input. Conditions: those in each theorem.
-/
import Derived.Test.YtikjgeenhbnkkaaGreatDoorBA1
import Derived.Test.YtikjgeenhbnkkaaGreatDoorBR8
set_option linter.unusedSimpArgs false
set_option linter.unusedVariables false
set_option maxRecDepth 100000
set_option maxHeartbeats 4000000
namespace Go.Proofs.YtikjgeenhbnkkaaGreatDoor
open Go Eng
/-! ### AuditSums -/
theorem known_k {w w1 : World} (hz : SizR w) (k : Kept none' w w1) : Calls Tryz.prog 8 #[] w1 fun e w' => ∃ b : Bool, e = .returned (.bool b) ∧ Value.bool b = .bool true ∧ Kept none' w w' := by
  refine (known_spec (hz.k k)).mono ?_
  rintro _ w2 ⟨rfl, k2⟩
  exact ⟨true, rfl, rfl, k.tr k2⟩
theorem own_row0 {w w' : World} {t : TypeId} {s : Nat} (e : w' = w.alloc (.cells #[] t)) : w'.ownsRow w.heap.size t s (.slice (some ⟨w.heap.size, 0, none⟩) 0 0) 0 [] := by
  refine ⟨by simp, .inr ⟨_, 0, #[], rfl, Nat.le_refl _, ?_, by decide, by decide, by simp, by simp⟩⟩
  rw [e]
  simp only [World.alloc]
  simp
theorem cells1 {α : Type} {R : Rd α} {w : World} {zs : List (List α)} {ws : List Value} {s : Nat} (hl : ws.length = zs.length) (hr : ∀ (i : Nat) (x : List α), zs[i]? = some x → ∃ u, ws[i]? = some u ∧ RL R s w [u] x) : ∀ u ∈ ws, u.oneCell' = true := by
  intro u hu
  obtain ⟨j, hj⟩ := List.mem_iff_getElem?.1 hu
  have hjl := (List.getElem?_eq_some_iff.1 hj).1
  obtain ⟨v, g1, a, l, c, g2, _⟩ := hr j zs[j] (List.getElem?_eq_getElem (by omega))
  rw [hj] at g1
  cases g1
  cases g2
  rfl
theorem sums_walk {w : World} {S : PicS} {x : Pic} (P : PicR w S x) (hz : SizR w) (hrg : ∀ s ∈ x.slabs, -9223372036854775808 ≤ s.frame ∧ s.frame ≤ 9223372036854775807) (hN : sizeN x ≤ 1000000000) :
    Calls Tryz.prog 3 #[picV S x.c] w fun e w' => e = .returned (.bool true) ∧ Kept none' w w' := by
  refine (vc3 x.c (S.a 0) (S.l 0) (S.c 0) (S.a 1) (S.l 1) (S.c 1) (S.a 2) (S.l 2) (S.c 2) (S.a 3) (S.l 3) (S.c 3) (S.a 4) (S.l 4) (S.c 4) (S.a 5) (S.l 5) (S.c 5) (S.a 6) (S.l 6) (S.c 6) (S.a 7) (S.l 7) (S.c 7) (S.a 8) (S.l 8) (S.c 8) (S.a 9) (S.l 9) (S.c 9) (S.a 10) (S.l 10) (S.c 10) (S.a 11) (S.l 11) (S.c 11) (S.a 12) (S.l 12) (S.c 12) w
    (fun v w' => v = .bool true ∧ Kept none' w w') ?_).mono ?_
  rotate_left
  · rintro e w' ⟨v, rfl, rfl, hw⟩
    exact ⟨rfl, hw⟩
  unfold vcP3
  intro w1 e1
  have o1 : own w1 w.heap.size (picC S x.c) := own_alloc e1
  have k1 : Kept none' w w1 := (Kept.refl _ _).al e1
  have P1 := P.k k1
  have sl : ∀ {w' : World}, Kept none' w1 w' → ∀ i, i < 13 → rd w' w.heap.size (94 + i) = some (.slice (S.a i) (S.l i) (S.c i)) := fun k i hi => picAt o1 k hi
  have r0 := Kept.refl none' w1
  refine ⟨_, _, _, sl r0 5 (by decide), _, _, _, fun _ => sl r0 9 (by decide), x.c, S.a 0, S.l 0, S.c 0, S.a 1, S.l 1, S.c 1, S.a 2, S.l 2, S.c 2, S.a 3, S.l 3, S.c 3, S.a 4, S.l 4, S.c 4, S.a 5, S.l 5, S.c 5, S.a 6, S.l 6, S.c 6, S.a 7, S.l 7, S.c 7, S.a 8, S.l 8, S.c 8, S.a 9, S.l 9, S.c 9, S.a 10, S.l 10, S.c 10, S.a 11, S.l 11, S.c 11, S.a 12, S.l 12, S.c 12, fun _ => o1.rdAll (vs := picC S x.c) 0 (fun j _ => by rw [Nat.zero_add]), Wif_intro (fun _ => known_k hz k1) (fun _ => ?_)⟩
  refine (size_spec P1 hN).mono ?_
  rintro _ w2 ⟨rfl, k2⟩
  have o2 := o1.k k2
  refine ⟨_, rfl, x.c, S.a 0, S.l 0, S.c 0, S.a 1, S.l 1, S.c 1, S.a 2, S.l 2, S.c 2, S.a 3, S.l 3, S.c 3, S.a 4, S.l 4, S.c 4, S.a 5, S.l 5, S.c 5, S.a 6, S.l 6, S.c 6, S.a 7, S.l 7, S.c 7, S.a 8, S.l 8, S.c 8, S.a 9, S.l 9, S.c 9, S.a 10, S.l 10, S.c 10, S.a 11, S.l 11, S.c 11, S.a 12, S.l 12, S.c 12, fun _ => o2.rdAll (vs := picC S x.c) 0 (fun j _ => by rw [Nat.zero_add]), Wif_intro (fun _ => known_k hz (k1.tr k2)) (fun hc2 => ?_)⟩
  have hsz : sizeN x ≤ 2000 := by simp at hc2; omega
  refine (check_spec (P1.k k2) (hz.k (k1.tr k2)) hrg (fun _ => small_of hsz)).mono ?_
  rintro _ w3 ⟨a, l, c, L, rfl, k3, hL, hno, hyes⟩
  refine ⟨a, l, c, rfl, Wif_intro (fun _ => known_k hz ((k1.tr k2).tr k3)) (fun hc3 => ?_)⟩
  have hl0 : l = 0 := by simp at hc3; omega
  subst hl0
  have hLn : L = [] := List.length_eq_zero_iff.1 hL.len.symm
  subst hLn
  have hS : ShapeP x := Classical.byContradiction fun h => by have := hno h; cases this
  obtain ⟨rows, hr, hLr⟩ := hyes hS
  have hn := no_faults hr hLr.symm
  have sm := small_of hsz
  have ok := sums_ok hS sm hn
  obtain ⟨okf, oks, oko⟩ := ok
  have tot := hS.tot
  have k13 : Kept none' w1 w3 := k2.tr k3
  clear hLr hr hn hno hyes hL hc3 hc2 k3 k2 o2
  obtain ⟨-, -, -, t1, t2, t3, t4, t5, t6, t7, t8, t9, t10, t11⟩ := hS
  have l0 := P.marks.len; have l1 := P.free.len; have l2 := P.held.len; have l3 := P.flying.len; have l4 := P.flight.len; have l6 := P.frames.len; have l7 := P.clocks.len; have l8 := P.slots.len; have l10 := P.mags.len; have l11 := P.depots.len; have l12 := P.holders.len; have l5 := P.procs.len; have l9 := P.slabs.len
  have hs' := hsz
  unfold sizeN lensN at hs'
  have hpl := sumN_len procN (fun p => by unfold procN; omega) x.procs
  have hsbl := sumN_len slabN (fun p => by unfold slabN; omega) x.slabs
  -- free
  refine ⟨_, _, _, sl k13 1 (by decide), ?_⟩
  refine ⟨fun n m w' M => ∃ i : Nat, m = (i : Int) ∧ i ≤ x.free.length ∧ M = x.free.length - i ∧ n = ((sumN (fun b => 2 ^ b.2.toNat) (x.free.take i) : Nat) : Int) ∧ Kept none' w1 w', ⟨x.free.length, 0, rfl, by omega, rfl, by simp [sumN], k13⟩, ?_⟩
  rintro _ _ w4 _ ⟨i, rfl, hi, rfl, rfl, k4⟩
  refine Wif_intro (fun hc => ?_) (fun hc => ?_)
  · have hil : i < x.free.length := by simp at hc; omega
    obtain ⟨b, cs, hl, hR, hr⟩ := (P1.k k4).free.at hil
    obtain rfl : cs = [vi b.1, vi b.2] := hR
    have hle := sumN_take_le (fun b : Int × Int => 2 ^ b.2.toNat) hl
    have hb := t1 b (List.mem_of_getElem? hl)
    obtain ⟨g1, g2, -⟩ := hb
    refine Wif_yes ((P1.k k4).free.isp (by omega)) (Wif_yes (inB_of (by omega) (by omega)) ?_)
    rw [Int.toNat_natCast]
    refine ⟨b.1, b.2, ⟨hr 0 _ rfl, hr 1 _ rfl⟩, fun w5 e5 => ?_⟩
    have o5 := own_alloc (c := [vi 0, vi 0]) e5
    have k5 := k4.al e5
    refine ⟨⟨o5.wr (by decide), o5.wr (by decide)⟩, fun w6 e6 => ?_⟩
    have o6 : own w6 w4.heap.size [vi b.1, vi b.2] := by rw [e6]; exact (o5.st_same).st_same
    have hs4 := k4.sz
    have k6 : Kept none' w1 w6 := by rw [e6]; exact (k5.st (.inr hs4)).st (.inr hs4)
    refine ⟨b.2, o6.rd 1, Wif_yes (by simpa using g1) ⟨x.free.length - (i + 1), by omega, i + 1, by rw [wi (by omega)]; rfl, by omega, rfl, ?_, k6⟩⟩
    have hp : (1 : Int) * 2 ^ min b.2.toNat 64 = ((2 ^ b.2.toNat : Nat) : Int) := by
      rw [Nat.min_eq_left (by omega), Int.one_mul]
      simp
    have h10 : 2 ^ b.2.toNat ≤ 2 ^ 10 := Nat.pow_le_pow_right (by omega) (by omega)
    have h1024 : (2 : Nat) ^ 10 = 1024 := rfl
    rw [hp, sumN_take _ hl]
    generalize hq : 2 ^ b.2.toNat = q at *
    rw [wi (x := (q : Int)) (by omega), wi (by omega)]
    omega
  have hil : i = x.free.length := by simp at hc; omega
  subst hil
  rw [List.take_length]
  clear hi hc
  -- held
  obtain ⟨A1, hA1⟩ : ∃ A, A = sumN (fun b : Int × Int => 2 ^ b.2.toNat) x.free := ⟨_, rfl⟩
  rw [← hA1] at okf ⊢
  refine ⟨_, _, _, sl k4 2 (by decide), ?_⟩
  refine ⟨fun n m w' M => ∃ i : Nat, m = (i : Int) ∧ i ≤ x.held.length ∧ M = x.held.length - i ∧ n = ((A1 + sumN List.length (x.held.take i) : Nat) : Int) ∧ Kept none' w1 w', ⟨x.held.length, 0, rfl, by omega, rfl, by simp [sumN], k4⟩, ?_⟩
  rintro _ _ w5 _ ⟨i, rfl, hi, rfl, rfl, k5⟩
  refine Wif_intro (fun hc => ?_) (fun hc => ?_)
  · have hil : i < x.held.length := by simp at hc; omega
    obtain ⟨l, cs, hl, hR, hr⟩ := (P1.k k5).held.at hil
    obtain ⟨a, ll, c, rfl, hs⟩ := hR
    have hle := sumN_take_le List.length hl
    refine Wif_yes ((P1.k k5).held.isp (by omega)) (Wif_yes (inB_of (by omega) (by omega)) ?_)
    rw [Int.toNat_natCast]
    have hsl := hs.len
    refine ⟨_, _, _, hr 0 _ rfl, x.held.length - (i + 1), by omega, i + 1, by rw [wi (by omega)]; rfl, by omega, rfl, ?_, k5⟩
    rw [sumN_take _ hl, wi (by omega)]
    omega
  have hil : i = x.held.length := by simp at hc; omega
  subst hil
  rw [List.take_length]
  clear hi hc
  -- processes
  obtain ⟨A2, hA2⟩ : ∃ A, A = A1 + sumN List.length x.held := ⟨_, rfl⟩
  rw [← hA2] at okf ⊢
  refine ⟨_, _, _, sl k5 5 (by decide), ?_⟩
  refine ⟨fun n s m w' M => ∃ i : Nat, m = (i : Int) ∧ i ≤ x.procs.length ∧ M = x.procs.length - i ∧ n = ((A2 + sumN (fun p => 1 + p.leaves.length) (x.procs.take i) : Nat) : Int) ∧ s = ((sumN (fun p => (slotL p).length) (x.procs.take i) : Nat) : Int) ∧ Kept none' w1 w', ⟨x.procs.length, 0, rfl, by omega, rfl, by simp [sumN], by simp [sumN], k5⟩, ?_⟩
  rintro _ _ _ w6 _ ⟨i, rfl, hi, rfl, rfl, rfl, k6⟩
  refine Wif_intro (fun hc => ?_) (fun hc => ?_)
  · have hil : i < x.procs.length := by simp at hc; omega
    obtain ⟨p, cs, hl, hR, hr⟩ := (P1.k k6).procs.at hil
    obtain ⟨a1, n1, c1, a2, n2, c2, a3, n3, c3, a4, n4, c4, rfl, h1, h2, h3, h4⟩ := hR
    have hle := sumN_take_le (fun p : Proc => 1 + p.leaves.length) hl
    have hle2 := sumN_take_le (fun p : Proc => (slotL p).length) hl
    have f1 := h1.len; have f2 := h2.len
    have hpN := sumN_mem procN (List.mem_of_getElem? hl)
    have hpD : procN p = 1 + p.leaves.length + p.pages.length + p.pinned.length + p.runs.length := rfl
    refine Wif_yes ((P1.k k6).procs.isp (by omega)) (Wif_yes (inB_of (by omega) (by omega)) ?_)
    rw [Int.toNat_natCast]
    refine ⟨p.pid, p.root, a1, n1, c1, a2, n2, c2, a3, n3, c3, a4, n4, c4, ⟨hr 0 _ rfl, hr 1 _ rfl, hr 2 _ rfl, hr 3 _ rfl, hr 4 _ rfl, hr 5 _ rfl⟩, ?_⟩
    intro w7 e7
    have o7 := own_alloc (c := [vi 0, vi 0, .slice none 0 0, .slice none 0 0, .slice none 0 0, .slice none 0 0]) e7
    have k7 := k6.al e7
    refine ⟨⟨o7.wr (by decide), o7.wr (by decide), o7.wr (by decide), o7.wr (by decide), o7.wr (by decide), o7.wr (by decide)⟩, ?_⟩
    intro w8 e8
    have o8 : own w8 w6.heap.size [vi p.pid, vi p.root, .slice a1 n1 c1, .slice a2 n2 c2, .slice a3 n3 c3, .slice a4 n4 c4] := by rw [e8]; exact (((((o7.st_same).st_same).st_same).st_same).st_same).st_same
    have hs6 := k6.sz
    have k8 : Kept none' w1 w8 := by rw [e8]; exact (((((k7.st (.inr hs6)).st (.inr hs6)).st (.inr hs6)).st (.inr hs6)).st (.inr hs6)).st (.inr hs6)
    have k68 : Kept none' w6 w8 := by rw [e8]; exact (((((((Kept.refl none' w6).al e7).st (.inr (Nat.le_refl _))).st (.inr (Nat.le_refl _))).st (.inr (Nat.le_refl _))).st (.inr (Nat.le_refl _))).st (.inr (Nat.le_refl _))).st (.inr (Nat.le_refl _))
    have h28 := h2.k RMapped.stab k68
    refine ⟨_, _, _, o8.rd 2, _, _, _, o8.rd 3, ?_⟩
    obtain ⟨Q, hQ⟩ : ∃ Q, Q = sumN (fun p => (slotL p).length) (x.procs.take i) := ⟨_, rfl⟩
    rw [← hQ] at hle2 ⊢
    refine ⟨fun s m w' M => ∃ j : Nat, m = (j : Int) ∧ j ≤ p.pages.length ∧ M = p.pages.length - j ∧ s = ((Q + ((p.pages.take j).filter fun m => decide (m.kind = 2)).length : Nat) : Int) ∧ Kept none' w8 w', ⟨p.pages.length, 0, rfl, by omega, rfl, by simp, Kept.refl _ _⟩, ?_⟩
    rintro _ _ w9 _ ⟨j, rfl, hj, rfl, rfl, k9⟩
    refine Wif_intro (fun hc2 => ?_) (fun hc2 => ?_)
    · have hjl : j < p.pages.length := by simp at hc2; omega
      obtain ⟨m, cs, hm, hR2, hr2⟩ := (h28.k RMapped.stab k9).at hjl
      obtain rfl : cs = [vi m.page, .int .u8 m.kind, vi m.n] := hR2
      refine Wif_yes (h28.isp (by omega)) (Wif_yes (inB_of (by omega) (by omega)) ?_)
      rw [Int.toNat_natCast]
      refine ⟨m.page, m.kind, m.n, ⟨hr2 0 _ rfl, hr2 1 _ rfl, hr2 2 _ rfl⟩, fun w10 e10 => ?_⟩
      have o10 := own_alloc (c := [vi 0, .int .u8 0, vi 0]) e10
      have k10 := k9.al e10
      refine ⟨⟨o10.wr (by decide), o10.wr (by decide), o10.wr (by decide)⟩, fun w11 e11 => ?_⟩
      have o11 : own w11 w9.heap.size [vi m.page, .int .u8 m.kind, vi m.n] := by rw [e11]; exact ((o10.st_same).st_same).st_same
      have hs9 := k9.sz
      have k11 : Kept none' w8 w11 := by rw [e11]; exact ((k10.st (.inr hs9)).st (.inr hs9)).st (.inr hs9)
      have hcl := List.length_filter_le (fun m : Mapped => decide (m.kind = 2)) (p.pages.take j)
      rw [List.length_take] at hcl
      have htk : p.pages.take (j + 1) = p.pages.take j ++ [m] := by rw [List.take_add_one, hm]; rfl
      have hQ0 : Q ≤ 2000 := by
        have : sumN (fun p : Proc => (slotL p).length) x.procs ≤ sumN procN x.procs := sumN_mono fun p _ => by
          have := List.length_filter_le (fun m : Mapped => decide (m.kind = 2)) p.pages
          unfold slotL procN
          rw [List.length_map]
          omega
        omega
      refine ⟨m.kind, o11.rd 1, Wif_intro (fun hk => ?_) (fun hk => ?_)⟩
      · have hk : m.kind = 2 := by simpa using hk
        refine ⟨p.pages.length - (j + 1), by omega, j + 1, by rw [wi (by omega)]; rfl, by omega, rfl, ?_, k11⟩
        rw [htk, List.filter_append, List.length_append, wi (by omega)]
        simp [hk]
        omega
      · have hk : ¬ m.kind = 2 := by simpa using hk
        refine ⟨p.pages.length - (j + 1), by omega, j + 1, by rw [wi (by omega)]; rfl, by omega, rfl, ?_, k11⟩
        rw [htk, List.filter_append, List.length_append]
        simp [hk]
    · have hjl : j = p.pages.length := by simp at hc2; omega
      subst hjl
      rw [List.take_length]
      refine ⟨x.procs.length - (i + 1), by omega, i + 1, by rw [wi (by omega)]; rfl, by omega, rfl, ?_, ?_, k8.tr k9⟩
      · rw [sumN_take _ hl, wi (x := 1 + (n1 : Int)) (by omega), wi (by omega)]
        omega
      · rw [sumN_take _ hl, ← hQ]
        show _ = ((Q + (slotL p).length : Nat) : Int)
        unfold slotL
        rw [List.length_map]
  have hil : i = x.procs.length := by simp at hc; omega
  subst hil
  rw [List.take_length]
  clear hi hc
  obtain ⟨A3, hA3⟩ : ∃ A, A = A2 + sumN (fun p : Proc => 1 + p.leaves.length) x.procs := ⟨_, rfl⟩
  rw [← hA3] at okf ⊢
  obtain ⟨Q, hQ⟩ : ∃ Q, Q = sumN (fun p : Proc => (slotL p).length) x.procs := ⟨_, rfl⟩
  rw [← hQ] at oks ⊢
  -- flight
  refine ⟨_, _, _, sl k6 6 (by decide), _, _, _, sl k6 9 (by decide), _, _, _, sl k6 4 (by decide), ?_⟩
  refine ⟨fun s m w' M => ∃ j : Nat, m = (j : Int) ∧ j ≤ x.flight.length ∧ M = x.flight.length - j ∧ s = ((Q + ((x.flight.take j).filter fun f => decide (f ≥ 0)).length : Nat) : Int) ∧ Kept none' w1 w', ⟨x.flight.length, 0, rfl, by omega, rfl, by simp, k6⟩, ?_⟩
  rintro _ _ w7 _ ⟨j, rfl, hj, rfl, rfl, k7⟩
  refine Wif_intro (fun hc2 => ?_) (fun hc2 => ?_)
  · have hjl : j < x.flight.length := by simp at hc2; omega
    obtain ⟨m, cs, hm, hR2, hr2⟩ := (P1.k k7).flight.at hjl
    obtain rfl : cs = [vi m] := hR2
    refine Wif_yes ((P1.k k7).flight.isp (by omega)) (Wif_yes (inB_of (by omega) (by omega)) ?_)
    rw [Int.toNat_natCast]
    have hcl := List.length_filter_le (fun f : Int => decide (f ≥ 0)) (x.flight.take j)
    rw [List.length_take] at hcl
    have htk : x.flight.take (j + 1) = x.flight.take j ++ [m] := by rw [List.take_add_one, hm]; rfl
    refine ⟨m, hr2 0 _ rfl, Wif_intro (fun hk => ?_) (fun hk => ?_)⟩
    · have hk : m ≥ 0 := by simpa using hk
      refine ⟨x.flight.length - (j + 1), by omega, j + 1, by rw [wi (by omega)]; rfl, by omega, rfl, ?_, k7⟩
      rw [htk, List.filter_append, List.length_append, wi (by omega)]
      simp [hk]
      omega
    · have hk : ¬ m ≥ 0 := by simpa using hk
      refine ⟨x.flight.length - (j + 1), by omega, j + 1, by rw [wi (by omega)]; rfl, by omega, rfl, ?_, k7⟩
      rw [htk, List.filter_append, List.length_append]
      simp [hk]
  have hjl : j = x.flight.length := by simp at hc2; omega
  subst hjl
  rw [List.take_length]
  clear hj hc2
  rw [oks]
  -- slabs
  refine ⟨_, _, _, sl k7 9 (by decide), ?_⟩
  have hcs : sumN (fun s => s.count.toNat) x.slabs ≤ 256 * x.slabs.length := by
    have : sumN (fun s => s.count.toNat) x.slabs ≤ sumN (fun _ => 256) x.slabs := sumN_mono fun s hs => by
      have := slb_count (t8 s hs)
      omega
    have e : sumN (fun _ => 256) x.slabs = 256 * x.slabs.length := by
      unfold sumN
      rw [List.map_const', List.sum_replicate_nat, Nat.mul_comm]
    omega
  have hca : sumN (fun s => s.chain.length + s.alive.length) x.slabs ≤ 2000 := by
    have : sumN (fun s => s.chain.length + s.alive.length) x.slabs ≤ sumN slabN x.slabs := sumN_mono fun s _ => by unfold slabN; omega
    omega
  refine ⟨fun n m w' M => ∃ i : Nat, m = (i : Int) ∧ i ≤ x.slabs.length ∧ M = x.slabs.length - i ∧ n = ((sumN (fun s => s.chain.length + s.alive.length) (x.slabs.take i) : Nat) : Int) - ((sumN (fun s => s.count.toNat) (x.slabs.take i) : Nat) : Int) ∧ Kept none' w1 w', ⟨x.slabs.length, 0, rfl, by omega, rfl, by simp [sumN], k7⟩, ?_⟩
  rintro _ _ w8 _ ⟨i, rfl, hi, rfl, rfl, k8⟩
  refine Wif_intro (fun hc => ?_) (fun hc => ?_)
  · have hil : i < x.slabs.length := by simp at hc; omega
    obtain ⟨s, cs, hl, hR, hr⟩ := (P1.k k8).slabs.at hil
    obtain ⟨a1, n1, c1, a2, n2, c2, rfl, h1, h2⟩ := hR
    have hle := sumN_take_le (fun s : Slab => s.chain.length + s.alive.length) hl
    have hle2 := sumN_take_le (fun s : Slab => s.count.toNat) hl
    have hcnt := slb_count (t8 s (List.mem_of_getElem? hl))
    have f1 := h1.len; have f2 := h2.len
    refine Wif_yes ((P1.k k8).slabs.isp (by omega)) (Wif_yes (inB_of (by omega) (by omega)) ?_)
    rw [Int.toNat_natCast]
    refine ⟨s.node, s.cls, s.frame, s.colour, s.count, a1, n1, c1, a2, n2, c2, ⟨hr 0 _ rfl, hr 1 _ rfl, hr 2 _ rfl, hr 3 _ rfl, hr 4 _ rfl, hr 5 _ rfl, hr 6 _ rfl⟩, ?_⟩
    intro w9 e9
    have o9 := own_alloc (c := [vi 0, vi 0, vi 0, vi 0, vi 0, .slice none 0 0, .slice none 0 0]) e9
    have k9 := k8.al e9
    refine ⟨⟨o9.wr (by decide), o9.wr (by decide), o9.wr (by decide), o9.wr (by decide), o9.wr (by decide), o9.wr (by decide), o9.wr (by decide)⟩, ?_⟩
    intro w10 e10
    have o10 : own w10 w8.heap.size [vi s.node, vi s.cls, vi s.frame, vi s.colour, vi s.count, .slice a1 n1 c1, .slice a2 n2 c2] := by rw [e10]; exact ((((((o9.st_same).st_same).st_same).st_same).st_same).st_same).st_same
    have hs8 := k8.sz
    have k10 : Kept none' w1 w10 := by rw [e10]; exact ((((((k9.st (.inr hs8)).st (.inr hs8)).st (.inr hs8)).st (.inr hs8)).st (.inr hs8)).st (.inr hs8)).st (.inr hs8)
    refine ⟨_, _, _, o10.rd 5, _, _, _, o10.rd 6, _, o10.rd 4, x.slabs.length - (i + 1), by omega, i + 1, by rw [wi (by omega)]; rfl, by omega, rfl, ?_, k10⟩
    rw [sumN_take _ hl, sumN_take _ hl, wi (x := (n1 : Int) + (n2 : Int)) (by omega), wi (x := (n1 : Int) + (n2 : Int) - s.count) (by omega), wi (by omega)]
    omega
  have hil : i = x.slabs.length := by simp at hc; omega
  subst hil
  rw [List.take_length]
  clear hi hc
  obtain ⟨C, hC⟩ : ∃ C : Int, C = ((sumN (fun s => s.chain.length + s.alive.length) x.slabs : Nat) : Int) - ((sumN (fun s => s.count.toNat) x.slabs : Nat) : Int) := ⟨_, rfl⟩
  rw [← hC]
  -- flying
  refine ⟨_, _, _, sl k8 3 (by decide), ?_⟩
  refine ⟨fun n m w' M => ∃ i : Nat, m = (i : Int) ∧ i ≤ x.flying.length ∧ M = x.flying.length - i ∧ n = C + ((sumN List.length (x.flying.take i) : Nat) : Int) ∧ Kept none' w1 w', ⟨x.flying.length, 0, rfl, by omega, rfl, by simp [sumN], k8⟩, ?_⟩
  rintro _ _ w9 _ ⟨i, rfl, hi, rfl, rfl, k9⟩
  refine Wif_intro (fun hc => ?_) (fun hc => ?_)
  · have hil : i < x.flying.length := by simp at hc; omega
    obtain ⟨l, cs, hl, hR, hr⟩ := (P1.k k9).flying.at hil
    obtain ⟨a, ll, c, rfl, hs⟩ := hR
    have hle := sumN_take_le List.length hl
    refine Wif_yes ((P1.k k9).flying.isp (by omega)) (Wif_yes (inB_of (by omega) (by omega)) ?_)
    rw [Int.toNat_natCast]
    have hsl := hs.len
    refine ⟨_, _, _, hr 0 _ rfl, x.flying.length - (i + 1), by omega, i + 1, by rw [wi (by omega)]; rfl, by omega, rfl, ?_, k9⟩
    rw [sumN_take _ hl, wi (by omega)]
    omega
  have hil : i = x.flying.length := by simp at hc; omega
  subst hil
  rw [List.take_length]
  clear hi hc
  -- magazines and depots
  intro w10 e10
  have k10 := k9.dr e10
  refine ⟨_, _, _, sl k10 10 (by decide), _, _, _, sl k10 11 (by decide), fun w11 e11 => ?_⟩
  have k11 := k10.al e11
  have row11 := own_row0 (s := 1) e11
  refine ⟨⟨sl k11 11 (by decide), trivial⟩, ⟨sl k11 10 (by decide), trivial⟩, ?_⟩
  have hinfo := info_objs
  cases hi : Tryz.prog.info? 30 with
  | none => rw [hi] at hinfo; cases hinfo
  | some i0 =>
  rw [hi] at hinfo
  simp at hinfo
  have hmg : SlR RObjs 1 w10 (S.a 10) (S.l 10) (S.c 10) x.mags := (P1.k k10).mags
  have hdp : SlR RObjs 1 w10 (S.a 11) (S.l 11) (S.c 11) x.depots := (P1.k k10).depots
  obtain ⟨vs, hvl, hvs, hvr⟩ := sl_src hmg
  obtain ⟨us, hul, hus, hur⟩ := sl_src hdp
  have k1011 : Kept none' w10 w11 := (Kept.refl _ _).al e11
  have hs11 := k1011.sz
  obtain ⟨a12, c12, w12, happ12, row12, k12⟩ := Eng.app (P := Tryz.prog) (t := 35) (ty := 35) (e := 30) (i := i0) (z := .slice none 0 0) (size := 1) Tryz.underlying35 hi hinfo.1 hinfo.2.1 rfl (by decide) row11 (hvs.k k1011) (by omega) (cells1 hvl hvr) (by omega) (by omega) hs11
  have k1012 : Kept none' w10 w12 := own0 k1011 k12 fun b hb => (row11.lt b hb).1
  have k012 : Kept none' w1 w12 := k10.tr k1012
  refine ⟨a12, _, c12, w12, happ12, ⟨sl k012 11 (by decide), trivial⟩, ?_⟩
  have hs12 := k1012.sz
  obtain ⟨a13, c13, w13, happ13, row13, k13'⟩ := Eng.app (P := Tryz.prog) (t := 35) (ty := 35) (e := 30) (i := i0) (z := .slice none 0 0) (size := 1) Tryz.underlying35 hi hinfo.1 hinfo.2.1 rfl (by decide) row12 (hus.k k1012) (by omega) (cells1 hul hur) (by omega) (by omega) hs12
  have k1013 : Kept none' w10 w13 := own0 k1012 k13' fun b hb => (row12.lt b hb).1
  have k013 : Kept none' w1 w13 := k10.tr k1013
  have hall : SlR RObjs 1 w13 a13 (0 + S.l 10 + S.l 11) c13 (x.mags ++ x.depots) := by
    refine sl_rows (w0 := w10) RObjs.stab row13 (by rw [List.length_append]; omega) fun i y hy => ?_
    rw [List.nil_append]
    rcases Nat.lt_or_ge i x.mags.length with hlt | hge
    · rw [List.getElem?_append_left hlt] at hy
      obtain ⟨u, g1, g2⟩ := hvr i y hy
      exact ⟨u, by rw [List.getElem?_append_left (by omega)]; exact g1, RObjs.stab _ _ _ _ g2 k1013⟩
    · rw [List.getElem?_append_right hge] at hy
      obtain ⟨u, g1, g2⟩ := hur _ y hy
      exact ⟨u, by rw [List.getElem?_append_right (by omega), hvl]; exact g1, RObjs.stab _ _ _ _ g2 k1013⟩
  refine ⟨a13, _, c13, w13, happ13, ?_⟩
  obtain ⟨MD, hMD⟩ : ∃ MD, MD = x.mags ++ x.depots := ⟨_, rfl⟩
  rw [← hMD] at hall oko
  have hml := hall.len
  have hmlen : MD.length ≤ 2000 := by rw [hMD, List.length_append]; omega
  have hmsum : sumN (fun m => sumN List.length m) MD ≤ 2000 := by
    rw [hMD, sumN_app]
    have g : ∀ L : List (List (List (Int × Int))), sumN (fun m => sumN List.length m) L ≤ sumN magN L := fun L => sumN_mono fun m _ => sumN_mono fun l _ => by unfold oneN; omega
    have := g x.mags
    have := g x.depots
    omega
  have hmN : ∀ m ∈ MD, m.length ≤ 2000 := fun m hm => by
    have h1 := sumN_len oneN (fun l => by unfold oneN; omega) m
    rw [hMD] at hm
    rcases List.mem_append.1 hm with hm | hm
    · have : magN m ≤ _ := sumN_mem magN hm
      have e : magN m = sumN oneN m := rfl
      omega
    · have : magN m ≤ _ := sumN_mem magN hm
      have e : magN m = sumN oneN m := rfl
      omega
  obtain ⟨D, hD⟩ : ∃ D : Int, D = C + ((sumN List.length x.flying : Nat) : Int) := ⟨_, rfl⟩
  rw [← hD]
  have hDb : -3000000 ≤ D ∧ D ≤ 10000 := by omega
  refine ⟨fun n m w' M => ∃ i : Nat, m = (i : Int) ∧ i ≤ MD.length ∧ M = MD.length - i ∧ n = D + ((sumN (fun m => sumN List.length m) (MD.take i) : Nat) : Int) ∧ Kept none' w13 w', ⟨MD.length, 0, rfl, by omega, rfl, by simp [sumN], Kept.refl _ _⟩, ?_⟩
  rintro _ _ w14 _ ⟨i, rfl, hi2, rfl, rfl, k14⟩
  refine Wif_intro (fun hc => ?_) (fun hc => ?_)
  · have hil : i < MD.length := by simp at hc; omega
    obtain ⟨m, cs, hl, hR, hr⟩ := (hall.k RObjs.stab k14).at hil
    obtain ⟨a, ll, c, rfl, hs⟩ := hR
    have hle := sumN_take_le (fun m : List (List (Int × Int)) => sumN List.length m) hl
    have hsl := hs.len
    have hmm := hmN m (List.mem_of_getElem? hl)
    refine Wif_yes (hall.isp (by omega)) (Wif_yes (inB_of (by omega) (by omega)) ?_)
    rw [Int.toNat_natCast]
    refine ⟨_, _, _, hr 0 _ rfl, ?_⟩
    obtain ⟨T, hT⟩ : ∃ T : Int, T = D + ((sumN (fun m => sumN List.length m) (MD.take i) : Nat) : Int) := ⟨_, rfl⟩
    have hT' := hT
    rw [← hT]
    refine ⟨fun n q w' M => ∃ j : Nat, q = (j : Int) ∧ j ≤ m.length ∧ M = m.length - j ∧ n = T + ((sumN List.length (m.take j) : Nat) : Int) ∧ Kept none' w14 w', ⟨m.length, 0, rfl, by omega, rfl, by simp [sumN], Kept.refl _ _⟩, ?_⟩
    rintro _ _ w15 _ ⟨j, rfl, hj, rfl, rfl, k15⟩
    refine Wif_intro (fun hc2 => ?_) (fun hc2 => ?_)
    · have hjl : j < m.length := by simp at hc2; omega
      obtain ⟨l, cs, hl2, hR2, hr2⟩ := (hs.k (RL.stab RPair.stab) k15).at hjl
      obtain ⟨a2, l2, c2, rfl, hs2⟩ := hR2
      have hs2l := hs2.len
      have hle2 := sumN_take_le List.length hl2
      refine Wif_yes (hs.isp (by omega)) (Wif_yes (inB_of (by omega) (by omega)) ?_)
      rw [Int.toNat_natCast]
      refine ⟨_, _, _, hr2 0 _ rfl, m.length - (j + 1), by omega, j + 1, by rw [wi (by omega)]; rfl, by omega, rfl, ?_, k15⟩
      rw [sumN_take _ hl2, wi (by omega)]
      omega
    · have hjl : j = m.length := by simp at hc2; omega
      subst hjl
      rw [List.take_length]
      refine ⟨MD.length - (i + 1), by omega, i + 1, by rw [wi (by omega)]; rfl, by omega, rfl, ?_, k14.tr k15⟩
      rw [sumN_take _ hl, hT]
      omega
  have hil : i = MD.length := by simp at hc; omega
  subst hil
  rw [List.take_length]
  have kk : Kept none' w1 w14 := k013.tr k14
  refine ⟨_, _, _, sl kk 0 (by decide), _, _, _, fun _ => sl kk 8 (by decide), Wif_yes ?_ (known_k hz (k1.tr kk))⟩
  rw [wi (x := (S.l 6 : Int) + (S.l 9 : Int)) (by omega), wi (by omega)]
  simp only [Bool.and_eq_true, beq_iff_eq]
  omega
end Go.Proofs.YtikjgeenhbnkkaaGreatDoor
