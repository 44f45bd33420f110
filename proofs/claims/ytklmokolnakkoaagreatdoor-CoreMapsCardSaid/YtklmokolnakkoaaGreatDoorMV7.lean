/-
  A part of a proof that a law of this seat returns true at every input. Conditions: those in each theorem.
-/
import Derived.Test.YtklmokolnakkoaaGreatDoorB0
import Derived.Test.YtklmokolnakkoaaGreatDoorN12
import Derived.Test.YtklmokolnakkoaaGreatDoorN3
set_option linter.unusedVariables false
set_option maxRecDepth 100000
namespace Go.Proofs.YtklmokolnakkoaaGreatDoor
open Go Go.Eng
open Go.Value (slice pointer)
/- byre/byrelaw21.CoreMaps -/
def vcP7 (c0 : Nat → Int) (l : OA) (lL lC : Nat) (w : World) (K : KV) : Prop := ∀ w', w' = w.alloc (.cells (List.toArray (runI .i64 c0 0 94)) 31) → ∃ (x : Nat → Int), rdAll w' w.heap.size 0 (runI .i64 x 0 94) ∧ Calls Tryz.prog 12 #[Value.agg (List.toArray (runI .i64 x 0 94))] w' fun e w' => ∃ (b : Bool), e = .returned (.bool b) ∧ Wif (!b || decide ((↑lL : Int) > 100)) (Calls Tryz.prog 10 #[] w' fun e w' => ∃ (b : Bool), e = .returned (.bool b) ∧ K (.bool b) w') (∃ (x : Nat → Int), rdAll w' w.heap.size 0 (runI .i64 x 0 94) ∧ Calls Tryz.prog 22 #[Value.agg (List.toArray (runI .i64 x 0 94))] w' fun e w' => ∃ (p : OA) (b : Bool), e = .returned (.tuple #[pointer p, Value.bool b]) ∧ Wif (!b) (K (.bool false) w') (Calls Tryz.prog 27 #[pointer p] w' fun e w' => ∃ (b : Bool), e = .returned (.bool b) ∧ Wif (!b) (K (.bool false) w') (∀ w'_1, w'_1 = w'.alloc (.map #[] 0) → ∃ (I : Bool → Int → World → Nat → Prop), (∃ (n : Nat), I false 0 w'_1 n) ∧ ∀ (b : Bool) (n : Int) (w'_2 : World) (n_1 : Nat), I b n w'_2 n_1 → Wif (decide (n < (↑lL : Int))) (Wif (isP l) (Wif (inB n lL) (∃ (x x_1 x_2 : Int), (rd w'_2 (pb l) (po l + Int.toNat n * 3) = some (.int .i64 x) ∧ rd w'_2 (pb l) (po l + Int.toNat n * 3 + 1) = some (.int .i64 x_1) ∧ rd w'_2 (pb l) (po l + Int.toNat n * 3 + 2) = some (.int .i64 x_2)) ∧ ∀ w'_3, w'_3 = w'_2.alloc (.cells #[vi 0, vi 0, vi 0] 78) → (wr w'_3 w'_2.heap.size 0 ∧ wr w'_3 w'_2.heap.size 1 ∧ wr w'_3 w'_2.heap.size 2) ∧ ∀ w'_4, w'_4 = st (st (st w'_3 w'_2.heap.size 0 (vi x)) w'_2.heap.size 1 (vi x_1)) w'_2.heap.size 2 (vi x_2) → ∃ (x : Int), rd w'_4 w'_2.heap.size 1 = some (.int .i64 x) ∧ ∃ (x_3 : Int), (decide (x ≥ 0) = true → rd w'_4 w'_2.heap.size 1 = some (.int .i64 x_3)) ∧ ∃ (x_4 : Int), rd w'_4 w'_2.heap.size 0 = some (.int .i64 x_4) ∧ Wif (x_4 == 1) (∀ w1, w1 = w'_4.drew → Wif (isP p) (∃ (x_5 : OA), rd w1 (pb p) (po p + 95) = some (.pointer x_5) ∧ ∃ (x_6 : Int), rd w1 w'_2.heap.size 1 = some (.int .i64 x_6) ∧ Calls Tryz.prog 24 #[pointer p, vi 0, vi 1, vi (if 0 > x_6 then 0 else x_6)] w1 fun (e : Ending) (w'_5 : World) => ∃ (a : OA) (l c : Nat), e = .returned (slice a l c) ∧ (rd w'_5 (pb p) (po p + 95) = some (.pointer x_5) ∧ True) ∧ Calls Tryz.prog 23 #[pointer x_5, slice a l c, vi 0, Value.bool true] w'_5 fun (e : Ending) (w'_6 : World) => ∃ (n_2 n_3 : Int), e = .returned (.tuple #[vi n_2, vi n_3]) ∧ Wif (n_3 != 0) (∃ m, Nat.succ m ≤ n_1 ∧ I b (IntKind.wrap .i64 (n + 1)) w'_6 m) (∃ (x_7 : Int), rd w'_6 w'_2.heap.size 1 = some (.int .i64 x_7) ∧ Calls Tryz.prog 25 #[pointer p, vi 1, vi x_7, vi n_2] w'_6 fun (e : Ending) (w'_7 : World) => ∃ (n_4 : Int), e = Ending.returned (vi n_4) ∧ ∃ (x_8 : Int), ((decide (x ≥ 0) && decide (x_3 < 32)) = true → rd w'_7 w'_2.heap.size 1 = some (.int .i64 x_8)) ∧ ∃ (x_9 : Int), ((decide (x ≥ 0) && decide (x_3 < 32)) = true → lookIs Tryz.prog 101 (Value.map (some w'.heap.size)) (vi x_8) false (vi x_9) w'_7) ∧ Wif (!(n_4 == 0) == (decide (x ≥ 0) && decide (x_3 < 32) && x_9 == 0)) (K (.bool false) w'_7) (Wif (n_4 == 0) (∃ (x : Int), rd w'_7 w'_2.heap.size 1 = some (.int .i64 x) ∧ ∃ (w'_8 : World), updIs Tryz.prog 101 (Value.map (some w'.heap.size)) (vi x) (vi 1) w'_7 w'_8 ∧ Calls Tryz.prog 27 #[pointer p] w'_8 fun e w' => ∃ (b_1 : Bool), e = .returned (.bool b_1) ∧ Wif (!b_1) (K (.bool false) w') (∃ m, Nat.succ m ≤ n_1 ∧ I b (IntKind.wrap .i64 (n + 1)) w' m)) (Calls Tryz.prog 26 #[pointer p, vi n_2] w'_7 fun e w' => ∃ (n_5 : Int), e = Ending.returned (vi n_5) ∧ Wif (n_5 != 0) (K (.bool false) w') (Calls Tryz.prog 26 #[pointer p, vi n_2] w' fun e w' => ∃ (n_6 : Int), e = Ending.returned (vi n_6) ∧ Wif (n_6 != 2) (K (.bool false) w') (Calls Tryz.prog 27 #[pointer p] w' fun e w' => ∃ (b_1 : Bool), e = .returned (.bool b_1) ∧ Wif (!b_1) (K (.bool false) w') (∃ m, Nat.succ m ≤ n_1 ∧ I b (IntKind.wrap .i64 (n + 1)) w' m))))))) False) (Wif (x_4 == 2) (∃ (x : Int), rd w'_4 w'_2.heap.size 1 = some (.int .i64 x) ∧ Calls Tryz.prog 28 #[pointer p, vi 1, vi x] w'_4 fun (e : Ending) (w'_5 : World) => ∃ (n_2 n_3 : Int), e = .returned (.tuple #[vi n_2, vi n_3]) ∧ ∃ (x : Int), rd w'_5 w'_2.heap.size 1 = some (.int .i64 x) ∧ ∃ (x_5 : Int), lookIs Tryz.prog 101 (Value.map (some w'.heap.size)) (vi x) false (vi x_5) w'_5 ∧ Wif (!(n_3 == 0) == (x_5 == 1)) (K (.bool false) w'_5) (Wif (n_3 == 0) (Calls Tryz.prog 26 #[pointer p, vi n_2] w'_5 fun (e : Ending) (w'_6 : World) => ∃ (n_4 : Int), e = Ending.returned (vi n_4) ∧ Wif (n_4 != 0) (K (.bool false) w'_6) (∃ (x : Int), rd w'_6 w'_2.heap.size 1 = some (.int .i64 x) ∧ ∃ (w'_7 : World), updIs Tryz.prog 101 (Value.map (some w'.heap.size)) (vi x) (vi 0) w'_6 w'_7 ∧ Calls Tryz.prog 27 #[pointer p] w'_7 fun e w' => ∃ (b_1 : Bool), e = .returned (.bool b_1) ∧ Wif (!b_1) (K (.bool false) w') (∃ m, Nat.succ m ≤ n_1 ∧ I b (IntKind.wrap .i64 (n + 1)) w' m))) (∃ (x : Int), rd w'_5 w'_2.heap.size 1 = some (.int .i64 x) ∧ ∃ (w'_6 : World), updIs Tryz.prog 101 (Value.map (some w'.heap.size)) (vi x) (vi 0) w'_5 w'_6 ∧ Calls Tryz.prog 27 #[pointer p] w'_6 fun e w' => ∃ (b_1 : Bool), e = .returned (.bool b_1) ∧ Wif (!b_1) (K (.bool false) w') (∃ m, Nat.succ m ≤ n_1 ∧ I b (IntKind.wrap .i64 (n + 1)) w' m)))) (Wif (x_4 == 3) (∃ (x : Int), rd w'_4 w'_2.heap.size 1 = some (.int .i64 x) ∧ Calls Tryz.prog 28 #[pointer p, vi 1, vi x] w'_4 fun (e : Ending) (w'_5 : World) => ∃ (n_2 n_3 : Int), e = .returned (.tuple #[vi n_2, vi n_3]) ∧ ∃ (x : Int), rd w'_5 w'_2.heap.size 1 = some (.int .i64 x) ∧ ∃ (x_5 : Int), lookIs Tryz.prog 101 (Value.map (some w'.heap.size)) (vi x) false (vi x_5) w'_5 ∧ Wif (!(n_3 == 0) == (x_5 == 1)) (K (.bool false) w'_5) (Wif (n_3 != 0) (∃ m, Nat.succ m ≤ n_1 ∧ I b (IntKind.wrap .i64 (n + 1)) w'_5 m) (∃ (x : Int), rd w'_5 w'_2.heap.size 1 = some (.int .i64 x) ∧ ∃ (w'_6 : World), updIs Tryz.prog 101 (Value.map (some w'.heap.size)) (vi x) (vi 0) w'_5 w'_6 ∧ ∃ (x : Int), rd w'_6 w'_2.heap.size 2 = some (.int .i64 x) ∧ ∃ (x_6 : Int), (decide (x ≥ 0) = true → rd w'_6 w'_2.heap.size 2 = some (.int .i64 x_6)) ∧ ∃ (x_7 : Int), ((decide (x ≥ 0) && decide (x_6 < 32)) = true → rd w'_6 w'_2.heap.size 2 = some (.int .i64 x_7)) ∧ ∃ (x_8 : Int), ((decide (x ≥ 0) && decide (x_6 < 32)) = true → lookIs Tryz.prog 101 (Value.map (some w'.heap.size)) (vi x_7) false (vi x_8) w'_6) ∧ ∃ (x_9 : Int), rd w'_6 w'_2.heap.size 2 = some (.int .i64 x_9) ∧ Calls Tryz.prog 25 #[pointer p, vi 1, vi x_9, vi n_2] w'_6 fun (e : Ending) (w'_7 : World) => ∃ (n_4 : Int), e = Ending.returned (vi n_4) ∧ Wif (!(n_4 == 0) == (decide (x ≥ 0) && decide (x_6 < 32) && x_8 == 0)) (K (.bool false) w'_7) (Wif (!(decide (x ≥ 0) && decide (x_6 < 32) && x_8 == 0)) (Calls Tryz.prog 26 #[pointer p, vi n_2] w'_7 fun (e : Ending) (w'_8 : World) => ∃ (n_5 : Int), e = Ending.returned (vi n_5) ∧ Wif (n_5 != 0) (K (.bool false) w'_8) (Wif (decide (x ≥ 0) && decide (x_6 < 32) && x_8 == 0) (∃ (x : Int), rd w'_8 w'_2.heap.size 2 = some (.int .i64 x) ∧ ∃ (w'_9 : World), updIs Tryz.prog 101 (Value.map (some w'.heap.size)) (vi x) (vi 1) w'_8 w'_9 ∧ Calls Tryz.prog 27 #[pointer p] w'_9 fun e w' => ∃ (b_1 : Bool), e = .returned (.bool b_1) ∧ Wif (!b_1) (K (.bool false) w') (∃ m, Nat.succ m ≤ n_1 ∧ I b (IntKind.wrap .i64 (n + 1)) w' m)) (Calls Tryz.prog 27 #[pointer p] w'_8 fun e w' => ∃ (b_1 : Bool), e = .returned (.bool b_1) ∧ Wif (!b_1) (K (.bool false) w') (∃ m, Nat.succ m ≤ n_1 ∧ I b (IntKind.wrap .i64 (n + 1)) w' m)))) (Wif (decide (x ≥ 0) && decide (x_6 < 32) && x_8 == 0) (∃ (x : Int), rd w'_7 w'_2.heap.size 2 = some (.int .i64 x) ∧ ∃ (w'_8 : World), updIs Tryz.prog 101 (Value.map (some w'.heap.size)) (vi x) (vi 1) w'_7 w'_8 ∧ Calls Tryz.prog 27 #[pointer p] w'_8 fun e w' => ∃ (b_1 : Bool), e = .returned (.bool b_1) ∧ Wif (!b_1) (K (.bool false) w') (∃ m, Nat.succ m ≤ n_1 ∧ I b (IntKind.wrap .i64 (n + 1)) w' m)) (Calls Tryz.prog 27 #[pointer p] w'_7 fun e w' => ∃ (b_1 : Bool), e = .returned (.bool b_1) ∧ Wif (!b_1) (K (.bool false) w') (∃ m, Nat.succ m ≤ n_1 ∧ I b (IntKind.wrap .i64 (n + 1)) w' m))))))) (Calls Tryz.prog 27 #[pointer p] w'_4 fun e w' => ∃ (b_1 : Bool), e = .returned (.bool b_1) ∧ Wif (!b_1) (K (.bool false) w') (∃ m, Nat.succ m ≤ n_1 ∧ I b (IntKind.wrap .i64 (n + 1)) w' m))))) False) False) (Calls Tryz.prog 28 #[pointer p, vi 2, vi 0] w'_2 fun e w' => ∃ (n n_2 : Int), e = .returned (.tuple #[vi n, vi n_2]) ∧ Calls Tryz.prog 28 #[pointer none, vi 1, vi 0] w' fun e w' => ∃ (n n_3 : Int), e = .returned (.tuple #[vi n, vi n_3]) ∧ Wif (n_2 == 7 && n_3 == 1) (Calls Tryz.prog 25 #[pointer p, vi 2, vi 0, vi 0] w' fun e w' => ∃ (n : Int), e = Ending.returned (vi n) ∧ Wif (n == 7) (Calls Tryz.prog 25 #[pointer p, vi 1, vi 0, vi (-1)] w' fun e w' => ∃ (n : Int), e = Ending.returned (vi n) ∧ Wif (n == 2) (Calls Tryz.prog 25 #[pointer none, vi 1, vi 0, vi 0] w' fun e w' => ∃ (n : Int), e = Ending.returned (vi n) ∧ Wif (n == 1) (Calls Tryz.prog 26 #[pointer none, vi 0] w' fun e w' => ∃ (n : Int), e = Ending.returned (vi n) ∧ Wif (n == 1) (Calls Tryz.prog 10 #[] w' fun e w' => ∃ (b : Bool), e = .returned (.bool b) ∧ K (.bool b) w') (K (.bool false) w')) (K (.bool false) w')) (K (.bool false) w')) (K (.bool false) w')) (K (.bool false) w')))))
theorem vc7 (c0 : Nat → Int) (l : OA) (lL lC : Nat) (w : World) (K : KV) (h : vcP7 c0 l lL lC w K) : Calls Tryz.prog 7 #[Value.agg (List.toArray (runI .i64 c0 0 94)), slice l lL lC] w (fun e w' => ∃ v, e = .returned v ∧ K v w') := Eng.vc_of [167, 120, 130, 61, 133, 143, 134, 91, 103, 113, 98, 99, 169] 2 [] Tryz.mixes Tryz.func7 (by kernel_rfl) (by kernel_rfl) (by kernel_rfl) h
end Go.Proofs.YtklmokolnakkoaaGreatDoor
set_option linter.unusedSimpArgs false
set_option linter.unusedVariables false
set_option maxRecDepth 100000
namespace Go.Proofs.YtklmokolnakkoaaGreatDoor
open Go Go.Eng
def onI (pg : Nat → Option Nat) (x : Int) : Int := if 0 ≤ x ∧ (pg x.toNat).isSome = true then 1 else 0
theorem onI_some {pg : Nat → Option Nat} {p f : Nat} (h : pg p = some f) : onI pg p = 1 := by
  unfold onI; rw [Int.toNat_natCast, h]; exact if_pos ⟨by omega, rfl⟩
theorem onI_none {pg : Nat → Option Nat} {x : Int} (h : ∀ p : Nat, x = p → pg p = none) : onI pg x = 0 := by
  unfold onI
  refine if_neg fun ⟨h1, h2⟩ => ?_
  rw [h x.toNat (by omega)] at h2
  cases h2
theorem onI_upd {pg : Nat → Option Nat} {p : Nat} {v : Option Nat} (y : Int) : onI (upd pg p v) y = if y = (p : Int) then (if v.isSome then 1 else 0) else onI pg y := by
  unfold onI
  by_cases e : y = (p : Int)
  · subst e
    rw [if_pos rfl, Int.toNat_natCast, upd_same]
    by_cases h : v.isSome = true
    · rw [if_pos ⟨by omega, h⟩, if_pos h]
    · rw [if_neg fun hh => h hh.2, if_neg h]
  · rw [if_neg e]
    by_cases h : 0 ≤ y
    · rw [upd_ne _ _ (show y.toNat ≠ p by omega)]
    · rw [if_neg fun hh => h hh.1, if_neg fun hh => h hh.1]
def OnP (w : World) (m : Nat) (pg : Nat → Option Nat) : Prop := ∃ M, MapIs w m M ∧ ∀ x : Int, (M.lookup x).getD (vi 0) = vi (onI pg x)
theorem OnP.kx {w w' : World} {m : Nat} {pg : Nat → Option Nat} {X : Nat → Prop} (h : OnP w m pg) (k : Kept X w w') (hx : ¬ X m) : OnP w' m pg := by
  obtain ⟨M, h1, h2⟩ := h
  exact ⟨M, h1.kx k hx, h2⟩
theorem OnP.lt {w : World} {m : Nat} {pg : Nat → Option Nat} (h : OnP w m pg) : m < w.heap.size := by
  obtain ⟨M, h1, h2⟩ := h
  exact h1.lt
theorem OnP.look {w : World} {m : Nat} {pg : Nat → Option Nat} (h : OnP w m pg) (x : Int) : lookIs Tryz.prog 101 (.map (some m)) (vi x) false (vi (onI pg x)) w := by
  obtain ⟨M, h1, h2⟩ := h
  have := look1 (P := Tryz.prog) (mt := 101) (vt := 3) (kt := 3) Tryz.underlying101 Tryz.underlying3 h1 x (Tryz.zeroValue3 w)
  rw [h2 x] at this
  exact this
theorem OnP.upd {w : World} {m : Nat} {pg pg' : Nat → Option Nat} (h : OnP w m pg) {x : Int} (hx : -9223372036854775808 ≤ x ∧ x ≤ 9223372036854775807) {v : Int} (hp : ∀ y, onI pg' y = if y = x then v else onI pg y) :
    ∃ w', updIs Tryz.prog 101 (.map (some m)) (vi x) (vi v) w w' ∧ OnP w' m pg' ∧ Kept (· = m) w w' := by
  obtain ⟨M, h1, h2⟩ := h
  cases e : M.lookup x with
  | none =>
    obtain ⟨w', hu, m', k'⟩ := upd_new (mt := 101) (vt := 3) (kt := 3) Tryz.underlying101 Tryz.underlying3 h1 x (vi v) hx e
    refine ⟨w', hu, ⟨_, m', fun y => ?_⟩, k'⟩
    rw [look_appI, hp y]
    by_cases hy : y = x
    · subst hy
      rw [e]
      simp
    · have := h2 y
      cases hl : M.lookup y with
      | none =>
        rw [hl] at this
        simp only [if_neg hy]
        exact this
      | some u => rw [hl] at this; simp only [if_neg hy]; exact this
  | some u =>
    obtain ⟨w', hu, m', k'⟩ := upd_old (mt := 101) (vt := 3) (kt := 3) Tryz.underlying101 Tryz.underlying3 h1 x (vi v) (by rw [e]; rfl)
    refine ⟨w', hu, ⟨_, m', fun y => ?_⟩, k'⟩
    have := lookG_map M x (vi v) y (by rw [e]; rfl)
    rw [this, hp y]
    by_cases hy : y = x
    · rw [if_pos hy, if_pos hy]; rfl
    · rw [if_neg hy, if_neg hy]; exact h2 y
structure MI (w : World) (k m bq : Nat) (c : Nat → Int) (rt lf : Nat) (x1 x2 x3 : Int) (S : Mach) (fp : Prt → Nat → Prop) (pg : Nat → Option Nat) (hd : Option Nat) (cnt : Nat) (on : Nat → Option Nat) (W : World) : Prop where
  kp : Kept none' w W
  C : CoreAt W k S fp
  L : LSt S rt lf pg hd cnt
  hc : S.c = c
  lo : ∀ p x, fp p x → w.heap.size ≤ x
  nm : ∀ p, ¬ fp p m
  nb : ∀ p, ¬ fp p bq
  o : own W bq [vi x1, vi x2, vi x3]
  on : OnP W m on
  hm : w.heap.size ≤ m
  hbm : bq ≠ m
section
variable {w : World} {k m bq : Nat} {c : Nat → Int} {rt lf : Nat} {x1 x2 x3 : Int} {S : Mach} {fp : Prt → Nat → Prop} {pg : Nat → Option Nat} {hd : Option Nat} {cnt : Nat} {on : Nat → Option Nat} {W W' : World}
theorem MI.kept (h : MI w k m bq c rt lf x1 x2 x3 S fp pg hd cnt on W) (kk : Kept none' W W') : MI w k m bq c rt lf x1 x2 x3 S fp pg hd cnt on W' :=
  ⟨h.kp.tr kk, h.C.k kk, h.L, h.hc, h.lo, h.nm, h.nb, h.o.k kk, h.on.kx kk id, h.hm, h.hbm⟩
theorem MI.step {S' : Mach} {pg' : Nat → Option Nat} {hd' : Option Nat} {cnt' : Nat} (h : MI w k m bq c rt lf x1 x2 x3 S fp pg hd cnt on W) (T : Step W W' k S' fp) (hc : S'.c = S.c) (L' : LSt S' rt lf pg' hd' cnt') :
    ∃ fp', MI w k m bq c rt lf x1 x2 x3 S' fp' pg' hd' cnt' on W' := by
  obtain ⟨fp', C', f'⟩ := T.ex
  have hs := h.kp.sz
  have hml := h.on.lt
  have hbl := h.o.lt
  refine ⟨fp', own0 h.kp T.kp fun x ⟨p, hp⟩ => h.lo p x hp, C', L', hc.trans h.hc, fun p x hx => ?_, fun p hp => ?_, fun p hp => ?_, h.o.kx T.kp fun ⟨p, hp⟩ => h.nb p hp, h.on.kx T.kp fun ⟨p, hp⟩ => h.nm p hp, h.hm, h.hbm⟩
  · rcases f' p x hx with h1 | h1
    · exact h.lo p x h1
    · have := h1.1; omega
  · rcases f' p m hp with h1 | h1
    · exact h.nm p h1
    · have := h1.1; omega
  · rcases f' p bq hp with h1 | h1
    · exact h.nb p h1
    · have := h1.1; omega
theorem MI.upd {on' : Nat → Option Nat} (h : MI w k m bq c rt lf x1 x2 x3 S fp pg hd cnt on W) {x : Int} (hx : -9223372036854775808 ≤ x ∧ x ≤ 9223372036854775807) {v : Int} (hp : ∀ y, onI on' y = if y = x then v else onI on y) :
    ∃ W', updIs Tryz.prog 101 (.map (some m)) (vi x) (vi v) W W' ∧ MI w k m bq c rt lf x1 x2 x3 S fp pg hd cnt on' W' := by
  obtain ⟨W', hu, o', kk⟩ := h.on.upd hx hp
  refine ⟨W', hu, own0 h.kp kk fun x e => by have := h.hm; omega, h.C.kx kk fun x p h1 h2 => h.nm p (h1 ▸ h2), h.L, h.hc, h.lo, h.nm, h.nb, h.o.kx kk h.hbm, o', h.hm, h.hbm⟩
theorem MI.r (h : MI w k m bq c rt lf x1 x2 x3 S fp pg hd cnt on W) : rd W bq 0 = some (vi x1) ∧ rd W bq 1 = some (vi x2) ∧ rd W bq 2 = some (vi x3) :=
  ⟨by rw [h.o.rd]; rfl, by rw [h.o.rd]; rfl, by rw [h.o.rd]; rfl⟩
end
end Go.Proofs.YtklmokolnakkoaaGreatDoor
set_option linter.unusedSimpArgs false
set_option linter.unusedVariables false
set_option maxRecDepth 100000
namespace Go.Proofs.YtklmokolnakkoaaGreatDoor
open Go Go.Eng
section
variable {w : World} {k : Nat} {S : Mach} {fp : Prt → Nat → Prop}
theorem unmap2 (h : CoreAt w k S fp) (hs : S.sp 2 = none) : Calls Tryz.prog 28 #[ptr k, vi 2, vi 0] w fun e w' => e = .returned (.tuple #[vi 0, vi 7]) ∧ Kept none' w w' := by
  refine (vc28 _ 2 0 w (fun v w' => v = (.tuple #[vi 0, vi 7]) ∧ Kept none' w w') ?_).mono ?_
  rotate_left
  · rintro e w' ⟨v, rfl, rfl, hk⟩
    exact ⟨rfl, hk⟩
  unfold vcP28
  refine Wif_no rfl (Wif_no rfl (Wif_yes rfl (Wif_yes rfl ⟨none, ?_, Wif_yes rfl ⟨rfl, Kept.refl _ _⟩⟩)))
  have := h.rt (j := 13) (v := spV (S.sp 2)) rfl
  rw [hs] at this
  exact this
theorem unmapN (w : World) : Calls Tryz.prog 28 #[.pointer none, vi 1, vi 0] w fun e w' => e = .returned (.tuple #[vi 0, vi 1]) ∧ Kept none' w w' := by
  refine (vc28 _ 1 0 w (fun v w' => v = (.tuple #[vi 0, vi 1]) ∧ Kept none' w w') ?_).mono ?_
  rotate_left
  · rintro e w' ⟨v, rfl, rfl, hk⟩
    exact ⟨rfl, hk⟩
  unfold vcP28
  exact Wif_yes rfl ⟨rfl, Kept.refl _ _⟩
theorem map2 (h : CoreAt w k S fp) (hs : S.sp 2 = none) : Calls Tryz.prog 25 #[ptr k, vi 2, vi 0, vi 0] w fun e w' => e = .returned (vi 7) ∧ Kept none' w w' := by
  refine (vc25 _ 2 0 0 w (fun v w' => v = (vi 7) ∧ Kept none' w w') ?_).mono ?_
  rotate_left
  · rintro e w' ⟨v, rfl, rfl, hk⟩
    exact ⟨rfl, hk⟩
  have hn := h.n4
  have hsz := h.sizes
  have hf := h.fst (i := 0) (by omega)
  have hle := fst_le h.my (i := 1) (j := S.nodes) (by omega) (Nat.le_refl _)
  have e0 : fstF S.c 0 = 0 := rfl
  unfold vcP25
  refine Wif_no rfl (Wif_no rfl (Wif_yes rfl (Wif_yes rfl ⟨none, ?_, (core_node h 0 (by omega)).mono ?_⟩)))
  · have := h.rt (j := 13) (v := spV (S.sp 2)) rfl
    rw [hs] at this
    exact this
  rintro _ w1 ⟨k1, ⟨i, hi, q1, q2, rfl⟩ | ⟨q1, rfl⟩⟩
  · exact ⟨_, rfl, Wif_no (by simp) (Wif_yes rfl ⟨rfl, k1⟩)⟩
  · exfalso
    have : fstF S.c (0 + 1) = fstF S.c 1 := rfl
    omega
theorem mapNeg (h : CoreAt w k S fp) {b : Nat} (hb : S.sp 1 = some b) : Calls Tryz.prog 25 #[ptr k, vi 1, vi 0, vi (-1)] w fun e w' => e = .returned (vi 2) ∧ Kept none' w w' := by
  refine (vc25 _ 1 0 (-1) w (fun v w' => v = (vi 2) ∧ Kept none' w w') ?_).mono ?_
  rotate_left
  · rintro e w' ⟨v, rfl, rfl, hk⟩
    exact ⟨rfl, hk⟩
  unfold vcP25
  refine Wif_no rfl (Wif_no rfl (Wif_yes rfl (Wif_yes rfl ⟨some ⟨b, 0, none⟩, ?_, (core_node h (-1) (by omega)).mono ?_⟩)))
  · have := h.rt (j := 12) (v := spV (S.sp 1)) rfl
    rw [hb] at this
    exact this
  rintro _ w1 ⟨k1, ⟨i, hi, q1, q2, rfl⟩ | ⟨q1, rfl⟩⟩
  · exfalso
    have := (h.fst hi).1
    omega
  · exact ⟨_, rfl, Wif_yes rfl ⟨rfl, k1⟩⟩
theorem mapN (w : World) : Calls Tryz.prog 25 #[.pointer none, vi 1, vi 0, vi 0] w fun e w' => e = .returned (vi 1) ∧ Kept none' w w' := by
  refine (vc25 _ 1 0 0 w (fun v w' => v = (vi 1) ∧ Kept none' w w') ?_).mono ?_
  rotate_left
  · rintro e w' ⟨v, rfl, rfl, hk⟩
    exact ⟨rfl, hk⟩
  unfold vcP25
  exact Wif_yes rfl ⟨rfl, Kept.refl _ _⟩
theorem releaseN (w : World) : Calls Tryz.prog 26 #[.pointer none, vi 0] w fun e w' => e = .returned (vi 1) ∧ Kept none' w w' := by
  refine (vc26 _ 0 w (fun v w' => v = (vi 1) ∧ Kept none' w w') ?_).mono ?_
  rotate_left
  · rintro e w' ⟨v, rfl, rfl, hk⟩
    exact ⟨rfl, hk⟩
  unfold vcP26
  exact Wif_yes rfl ⟨rfl, Kept.refl _ _⟩
end
end Go.Proofs.YtklmokolnakkoaaGreatDoor
set_option linter.unusedSimpArgs false
set_option linter.unusedVariables false
set_option maxRecDepth 100000
namespace Go.Proofs.YtklmokolnakkoaaGreatDoor
open Go Go.Eng
def mapL (pg : Nat → Option Nat) (q : Nat) : List Mapped := (List.range q).filterMap fun j => (pg j).map fun f : Nat => ⟨(j : Int), 1, (f : Int)⟩
theorem mapL_succ (pg : Nat → Option Nat) (q : Nat) : mapL pg (q + 1) = mapL pg q ++ (match pg q with | some f => [⟨(q : Int), 1, (f : Int)⟩] | none => []) := by
  unfold mapL
  rw [List.range_succ, List.filterMap_append]
  congr 1
  cases h : pg q <;> simp [h]
theorem mapL_len (pg : Nat → Option Nat) : ∀ q, (mapL pg q).length = ((List.range q).filter fun j => (pg j).isSome).length
  | 0 => rfl
  | q + 1 => by
    rw [mapL_succ, List.length_append, mapL_len pg q, List.range_succ, List.filter_append, List.length_append]
    congr 1
    cases h : pg q <;> simp [h]
theorem mapL_mem {pg : Nat → Option Nat} {q : Nat} {x : Mapped} (h : x ∈ mapL pg q) : ∃ j f : Nat, j < q ∧ pg j = some f ∧ x = ⟨j, 1, f⟩ := by
  obtain ⟨j, hj, hx⟩ := List.mem_filterMap.1 h
  cases e : pg j with
  | none => rw [e] at hx; cases hx
  | some f =>
    rw [e] at hx
    exact ⟨j, f, List.mem_range.1 hj, e, (Option.some.inj hx).symm⟩
theorem mapL_mem' {pg : Nat → Option Nat} {q j f : Nat} (hj : j < q) (h : pg j = some f) : (⟨(j : Int), 1, (f : Int)⟩ : Mapped) ∈ mapL pg q :=
  List.mem_filterMap.2 ⟨j, List.mem_range.2 hj, by rw [h]; rfl⟩
section
variable {w : World} {k : Nat} {S : Mach} {fp : Prt → Nat → Prop} {rt lf cnt : Nat} {pg : Nat → Option Nat} {hd : Option Nat}
theorem LSt.pages (L : LSt S rt lf pg hd cnt) (h : CoreAt w k S fp) : pagesOf S.by' S.n (S.root 1) 1024 = mapL pg 32 := by
  have lo : ∀ q, q ≤ 32 → pagesOf S.by' S.n (S.root 1) q = mapL pg q := fun q hq => by
    induction q with
    | zero => rfl
    | succ q ih =>
      obtain ⟨g1, g2, g3⟩ := L.get h (j := q) (by omega)
      rw [pagesOf_succ, mapL_succ, ih (by omega), g1, g2, g3]
      cases pg q <;> simp
  have hi : ∀ q, 32 ≤ q → q ≤ 1024 → pagesOf S.by' S.n (S.root 1) q = mapL pg 32 := fun q h1 h2 => by
    induction q with
    | zero => omega
    | succ q ih =>
      by_cases e : q + 1 = 32
      · rw [e]; exact lo 32 (by omega)
      · obtain ⟨g1, g2⟩ := L.get0 h (page := q) (by omega)
        rw [pagesOf_succ, ih (by omega) (by omega), if_neg (fun e => e.2 g2), List.append_nil]
  exact hi 1024 (by omega) (by omega)
theorem LSt.procs (L : LSt S rt lf pg hd cnt) : procs S (procOf S) 9 = [procOf S 1] := by
  obtain ⟨b, hb⟩ := L.sp
  unfold Go.Proofs.YtklmokolnakkoaaGreatDoor.procs
  rw [hb]
  rfl
theorem LSt.own_mem (L : LSt S rt lf pg hd cnt) {x : Own} (hx : x ∈ owns S.n S.rof) : ∃ j f : Nat, pg j = some f ∧ x = ⟨f, 1, j⟩ := by
  unfold owns at hx
  obtain ⟨f, hf, rfl⟩ := List.mem_map.1 hx
  obtain ⟨h1, h2⟩ := List.mem_filter.1 hf
  obtain ⟨j, hj⟩ := L.rof2 f (List.mem_range.1 h1) (by simpa using h2)
  exact ⟨j, f, hj, by rw [L.rof1 j f hj]⟩
theorem zsh_mem {c : Nat → Int} {L : Nat → List Bk} : ∀ {q : Nat} {y : Nat × Nat}, y ∈ zsh c L q → ∃ i x, i < q ∧ x ∈ L i ∧ x.g = 0 ∧ y = ((fstF c i).toNat + x.p, x.o)
  | 0, y, h => by simp [zsh] at h
  | q + 1, y, h => by
    have e0 : zsh c L (q + 1) = zsh c L q ++ (bks (L q)).map fun y => ((fstF c q).toNat + y.1, y.2) := rfl
    rw [e0, List.mem_append] at h
    rcases h with h | h
    · obtain ⟨i, x, h1, h2⟩ := zsh_mem h
      exact ⟨i, x, by omega, h2⟩
    · obtain ⟨z, hz, rfl⟩ := List.mem_map.1 h
      obtain ⟨x, hx, rfl⟩ := List.mem_map.1 hz
      obtain ⟨h1, h2⟩ := mem_frB.1 hx
      exact ⟨q, x, by omega, h1, h2, rfl⟩
theorem zsh_sumN {c : Nat → Int} {L : Nat → List Bk} : ∀ q : Nat, ((zsh c L q).map fun y => 2 ^ y.2).sum = sumN q fun i => fsum (L i)
  | 0 => rfl
  | q + 1 => by
    have e0 : zsh c L (q + 1) = zsh c L q ++ (bks (L q)).map fun y => ((fstF c q).toNat + y.1, y.2) := rfl
    have e2 : (((bks (L q)).map fun y => ((fstF c q).toNat + y.1, y.2)).map fun y : Nat × Nat => 2 ^ y.2) = (bks (L q)).map fun y => 2 ^ y.2 := by rw [List.map_map]; rfl
    rw [e0, List.map_append, List.sum_append, e2, bks_sum, zsh_sumN q, sumN_succ]
theorem LSt.free_mk (L : LSt S rt lf pg none cnt) (h : CoreAt w k S fp) {y : Nat × Nat} (hy : y ∈ zsh S.Z.c S.L S.Z.k) : y.2 ≤ 10 ∧ y.1 + 2 ^ y.2 ≤ S.n ∧ ∀ f, y.1 ≤ f → f < y.1 + 2 ^ y.2 → S.mks f = mark0 := by
  obtain ⟨_, hc, hk⟩ := h.zn
  rw [hc] at hy
  obtain ⟨i, x, hi, hx, hg, rfl⟩ := zsh_mem hy
  have hi : i < S.nodes := by omega
  have hf := h.fst hi
  have hxt := tile_mem (h.tile hi) hx
  refine ⟨hxt.2.2.2, by show (fstF S.c i).toNat + x.p + 2 ^ x.o ≤ S.n; omega, fun f h1 h2 => ?_⟩
  have h1 : (fstF S.c i).toNat + x.p ≤ f := h1
  have h2 : f < (fstF S.c i).toNat + x.p + 2 ^ x.o := h2
  refine L.mk3 f (by omega) fun hu => ?_
  obtain ⟨j, z, hj, hz, hzg, he⟩ := L.tk2 f hu
  have hzo := (L.tk1 j hj z hz hzg).1
  have hzt := tile_mem (h.tile hj) hz
  rw [hzo] at hzt
  have hfj := h.fst hj
  unfold gfr at he
  have : j = i := node_uniq h.my (f := (f : Int)) (by unfold Mach.nodes at hj; exact hj) (by unfold Mach.nodes at hi; exact hi) (by omega) (by omega) (by omega) (by omega)
  subst this
  have : x = z := tile_one (h.tile hj) hx hz (f := z.p) (by omega) (by omega) (Nat.le_refl _) (by rw [hzo]; omega)
  subst this
  omega
end
end Go.Proofs.YtklmokolnakkoaaGreatDoor
set_option linter.unusedSimpArgs false
set_option linter.unusedVariables false
set_option maxRecDepth 100000
namespace Go.Proofs.YtklmokolnakkoaaGreatDoor
open Go Go.Eng
theorem sumN_le {n : Nat} {f : Nat → Nat} {i : Nat} (hi : i < n) : f i ≤ sumN n f := by
  induction n with
  | zero => omega
  | succ n ih =>
    rw [sumN_succ]
    by_cases e : i = n
    · subst e; omega
    · have := ih (by omega); omega
theorem mapL_pw (pg : Nat → Option Nat) : ∀ q, (mapL pg q).Pairwise fun x y => x.page < y.page
  | 0 => List.Pairwise.nil
  | q + 1 => by
    rw [mapL_succ, List.pairwise_append]
    refine ⟨mapL_pw pg q, by cases pg q <;> simp, fun x hx y hy => ?_⟩
    obtain ⟨j, f, hj, _, rfl⟩ := mapL_mem hx
    cases h : pg q with
    | none => rw [h] at hy; cases hy
    | some g =>
      rw [h] at hy
      simp at hy
      subst hy
      show (j : Int) < (q : Int)
      omega
def atL (M : List Mapped) : List (Int × Value) := M.map fun x => (x.n, vi x.page)
section
variable {S : Mach} {rt lf cnt : Nat} {pg : Nat → Option Nat} {hd : Option Nat}
theorem LSt.at_none (L : LSt S rt lf pg hd cnt) {q : Nat} {x : Mapped} (hx : (mapL pg 32)[q]? = some x) : (atL ((mapL pg 32).take q)).lookup x.n = none := by
  refine lookup_none_of fun v hv => ?_
  obtain ⟨y, hy, he⟩ := List.mem_map.1 hv
  obtain ⟨i, hyi⟩ := List.mem_iff_getElem?.1 hy
  have hi := (List.getElem?_eq_some_iff.1 hyi).1
  rw [List.length_take] at hi
  rw [List.getElem?_take_of_lt (by omega)] at hyi
  have hq := (List.getElem?_eq_some_iff.1 hx).1
  have hlt := List.pairwise_iff_getElem.1 (mapL_pw pg 32) i q (by omega) hq (by omega)
  have e1 : (mapL pg 32)[i] = y := (List.getElem?_eq_some_iff.1 hyi).2
  have e2 : (mapL pg 32)[q] = x := (List.getElem?_eq_some_iff.1 hx).2
  rw [e1, e2] at hlt
  obtain ⟨j, f, _, hj, rfl⟩ := mapL_mem (List.mem_of_getElem? hx)
  obtain ⟨j', f', _, hj', rfl⟩ := mapL_mem (List.mem_of_mem_take hy)
  have he : ((f' : Int), vi (j' : Int)) = ((f : Int), v) := he
  have hff : f' = f := by
    have h9 : ((f' : Nat) : Int) = ((f : Nat) : Int) := congrArg Prod.fst he
    omega
  subst hff
  have := L.inj _ _ _ hj hj'
  subst this
  exact absurd hlt (by show ¬ ((j : Int) < (j : Int)); omega)
theorem LSt.at_some (L : LSt S rt lf pg hd cnt) {w : World} {m : Nat} (M : MapIs w m (atL (mapL pg 32))) {j f : Nat} (h : pg j = some f) : (atL (mapL pg 32)).lookup (f : Int) = some (vi j) :=
  lookup_of_mem M.nd (List.mem_map.2 ⟨_, mapL_mem' (L.pgo j f h).1 h, rfl⟩)
theorem LSt.cntM (L : LSt S rt lf pg hd cnt) : (mapL pg 32).length = cnt := by rw [mapL_len, L.cp]
theorem LSt.cnt32 (L : LSt S rt lf pg hd cnt) : cnt ≤ 32 := by
  rw [← L.cp]
  exact Nat.le_trans (List.length_filter_le _ _) (by simp)
theorem LSt.ring_len (L : LSt S rt lf pg hd cnt) {i : Nat} (hi : i < S.nodes) : (S.ring i).length ≤ 32 := by
  have := sumN_le (f := fun i => (S.ring i).length) hi
  have := L.cc
  have := L.cnt32
  omega
theorem sortI_mem {xs : List Int} {x : Int} : x ∈ sortI xs ↔ x ∈ xs := (List.mergeSort_perm xs _).mem_iff
end
end Go.Proofs.YtklmokolnakkoaaGreatDoor
