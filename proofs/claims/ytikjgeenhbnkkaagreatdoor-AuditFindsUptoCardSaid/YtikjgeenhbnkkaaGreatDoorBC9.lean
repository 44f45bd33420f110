/-
  A part of a proof that a law of this seat returns true at every input. Conditions: those in each theorem.
-/
import Derived.Test.YtikjgeenhbnkkaaGreatDoorBR8
import Derived.Test.YtikjgeenhbnkkaaGreatDoorAVK
set_option linter.unusedSimpArgs false
set_option linter.unusedVariables false
set_option maxRecDepth 100000
set_option maxHeartbeats 4000000
namespace Go.Proofs.YtikjgeenhbnkkaaGreatDoor
open Go Eng
/-! ### AuditFinds -/
def setS0 (S : PicS) (a : Option Addr) (l c : Nat) : PicS :=
  ⟨fun i => match i with | 0 => a | i => S.a i, fun i => match i with | 0 => l | i => S.l i, fun i => match i with | 0 => c | i => S.c i⟩
theorem set_pic0 (S : PicS) (f : Nat → Int) (a : Option Addr) (l c : Nat) : (picC S f).set 94 (.slice a l c) = picC (setS0 S a l c) f := by
  unfold picC
  rw [List.set_append_right _ _ (by rw [runI_len]; omega), runI_len]
  rfl
def setS2 (S : PicS) (a : Option Addr) (l c : Nat) : PicS :=
  ⟨fun i => match i with | 2 => a | i => S.a i, fun i => match i with | 2 => l | i => S.l i, fun i => match i with | 2 => c | i => S.c i⟩
theorem set_pic2 (S : PicS) (f : Nat → Int) (a : Option Addr) (l c : Nat) : (picC S f).set 96 (.slice a l c) = picC (setS2 S a l c) f := by
  unfold picC
  rw [List.set_append_right _ _ (by rw [runI_len]; omega), runI_len]
  rfl
def setS8 (S : PicS) (a : Option Addr) (l c : Nat) : PicS :=
  ⟨fun i => match i with | 8 => a | i => S.a i, fun i => match i with | 8 => l | i => S.l i, fun i => match i with | 8 => c | i => S.c i⟩
theorem set_pic8 (S : PicS) (f : Nat → Int) (a : Option Addr) (l c : Nat) : (picC S f).set 102 (.slice a l c) = picC (setS8 S a l c) f := by
  unfold picC
  rw [List.set_append_right _ _ (by rw [runI_len]; omega), runI_len]
  rfl
def setS12 (S : PicS) (a : Option Addr) (l c : Nat) : PicS :=
  ⟨fun i => match i with | 12 => a | i => S.a i, fun i => match i with | 12 => l | i => S.l i, fun i => match i with | 12 => c | i => S.c i⟩
theorem set_pic12 (S : PicS) (f : Nat → Int) (a : Option Addr) (l c : Nat) : (picC S f).set 106 (.slice a l c) = picC (setS12 S a l c) f := by
  unfold picC
  rw [List.set_append_right _ _ (by rw [runI_len]; omega), runI_len]
  rfl
theorem known_b {w w1 : World} (hz : SizR w) (k : Kept none' w w1) : Calls Tryz.prog 8 #[] w1 fun e w' => ∃ b : Bool, e = .returned (.bool b) ∧ Value.bool b = .bool true ∧ Kept none' w w' := by
  refine (known_spec (hz.k k)).mono ?_
  rintro _ w2 ⟨rfl, k2⟩
  exact ⟨true, rfl, rfl, k.tr k2⟩
def TailF (w wz : World) (b : Nat) : Prop :=
    ∃ (f : Nat → Int) (a0 : Option Addr) (l0 c0 : Nat) (a1 : Option Addr) (l1 c1 : Nat) (a2 : Option Addr) (l2 c2 : Nat) (a3 : Option Addr) (l3 c3 : Nat) (a4 : Option Addr) (l4 c4 : Nat) (a5 : Option Addr) (l5 c5 : Nat) (a6 : Option Addr) (l6 c6 : Nat) (a7 : Option Addr) (l7 c7 : Nat) (a8 : Option Addr) (l8 c8 : Nat) (a9 : Option Addr) (l9 c9 : Nat) (a10 : Option Addr) (l10 c10 : Nat) (a11 : Option Addr) (l11 c11 : Nat) (a12 : Option Addr) (l12 c12 : Nat), rdAll wz b 0 (runI IntKind.i64 f 0 94 ++ [Value.slice a0 l0 c0, Value.slice a1 l1 c1, Value.slice a2 l2 c2, Value.slice a3 l3 c3, Value.slice a4 l4 c4, Value.slice a5 l5 c5, Value.slice a6 l6 c6, Value.slice a7 l7 c7, Value.slice a8 l8 c8, Value.slice a9 l9 c9, Value.slice a10 l10 c10, Value.slice a11 l11 c11, Value.slice a12 l12 c12]) ∧ Calls Tryz.prog 7 #[Value.agg (runI IntKind.i64 f 0 94 ++ [Value.slice a0 l0 c0, Value.slice a1 l1 c1, Value.slice a2 l2 c2, Value.slice a3 l3 c3, Value.slice a4 l4 c4, Value.slice a5 l5 c5, Value.slice a6 l6 c6, Value.slice a7 l7 c7, Value.slice a8 l8 c8, Value.slice a9 l9 c9, Value.slice a10 l10 c10, Value.slice a11 l11 c11, Value.slice a12 l12 c12]).toArray] wz fun e w' => ∃ (a : Option Addr) (l c : Nat), e = .returned (.slice a l c) ∧
      Wif (decide ((l : Int) > 0)) (Calls Tryz.prog 8 #[] w' fun e w' => ∃ b : Bool, e = .returned (.bool b) ∧ Value.bool b = .bool true ∧ Kept none' w w') (Value.bool false = .bool true ∧ Kept none' w w')
theorem finds_tail {w wz : World} {b : Nat} {S : PicS} {y : Pic} (o : own wz b (picC S y.c)) (P : PicR wz S y) (hz : SizR w) (k : Kept none' w wz) (hrg : ∀ s ∈ y.slabs, -9223372036854775808 ≤ s.frame ∧ s.frame ≤ 9223372036854775807) (sm : Small y) (hb : BadP y) : TailF w wz b := by
  refine ⟨y.c, S.a 0, S.l 0, S.c 0, S.a 1, S.l 1, S.c 1, S.a 2, S.l 2, S.c 2, S.a 3, S.l 3, S.c 3, S.a 4, S.l 4, S.c 4, S.a 5, S.l 5, S.c 5, S.a 6, S.l 6, S.c 6, S.a 7, S.l 7, S.c 7, S.a 8, S.l 8, S.c 8, S.a 9, S.l 9, S.c 9, S.a 10, S.l 10, S.c 10, S.a 11, S.l 11, S.c 11, S.a 12, S.l 12, S.c 12, o.rdAll (vs := picC S y.c) 0 (fun j _ => by rw [Nat.zero_add]), ?_⟩
  refine (check_spec P (hz.k k) hrg (fun _ => sm)).mono ?_
  rintro _ w1 ⟨a, l, c, L, rfl, k1, hL, hno, hyes⟩
  refine ⟨a, l, c, rfl, Wif_yes ?_ (known_b hz (k.tr k1))⟩
  have hl := hL.len
  have : L ≠ [] := by
    by_cases hS : ShapeP y
    · obtain ⟨rows, hr, rfl⟩ := hyes hS
      exact bad_len hr hb
    · rw [hno hS]
      decide
  have : 0 < L.length := List.length_pos_iff.2 this
  simp
  omega
theorem pick_f (x : Int) {l : Nat} (h0 : 0 < l) (h1 : l ≤ 1000000) : ∃ k : Nat, k < l ∧ IntKind.wrap .i64 (Int.tmod (IntKind.wrap .u64 x) (IntKind.wrap .u64 (l : Int))) = (k : Int) ∧ (IntKind.wrap .u64 (l : Int) != 0) = true := by
  have hw : 0 ≤ IntKind.wrap .u64 x := by simp [IntKind.wrap, IntKind.bits, IntKind.signed]; omega
  rw [wu (x := (l : Int)) (by omega)]
  have h2 : 0 ≤ Int.tmod (IntKind.wrap .u64 x) (l : Int) := Int.tmod_nonneg _ hw
  have h3 : Int.tmod (IntKind.wrap .u64 x) (l : Int) < l := Int.tmod_lt_of_pos _ (by omega)
  refine ⟨(Int.tmod (IntKind.wrap .u64 x) (l : Int)).toNat, by omega, ?_, by simp; omega⟩
  rw [wi (by omega)]
  omega
theorem info_own' : (Tryz.prog.info? 63).map (fun i => (i.zero, i.size, i.bytes)) = some (some (.agg #[.int .i64 0, .int .i64 0, .int .i64 0]), 3, 24) := by kernel_rfl
theorem info_mark' : (Tryz.prog.info? 61).map (fun i => (i.zero, i.size, i.bytes)) = some (some (.agg #[.int .u8 0, .int .i64 0, .int .i64 0, .int .i64 0, .int .i64 0]), 5, 40) := by kernel_rfl
theorem info_int' : (Tryz.prog.info? 3).map (fun i => (i.zero, i.size, i.bytes)) = some (some (.int .i64 0), 1, 8) := by kernel_rfl
theorem info_ints' : (Tryz.prog.info? 31).map (fun i => (i.zero, i.size, i.bytes)) = some (some (.slice none 0 0), 1, 24) := by kernel_rfl
theorem finds_walk {w : World} {S : PicS} {x : Pic} (P : PicR w S x) (pm : ∀ m ∈ x.marks, 0 ≤ m.role ∧ m.role ≤ 255) (hz : SizR w) (what n : Int) (hrg : ∀ s ∈ x.slabs, -9223372036854775808 ≤ s.frame ∧ s.frame ≤ 9223372036854775807) (hN : sizeN x ≤ 1000000000) :
    Calls Tryz.prog 4 #[picV S x.c, vi what, vi n] w fun e w' => e = .returned (.bool true) ∧ Kept none' w w' := by
  refine (vc4 x.c (S.a 0) (S.l 0) (S.c 0) (S.a 1) (S.l 1) (S.c 1) (S.a 2) (S.l 2) (S.c 2) (S.a 3) (S.l 3) (S.c 3) (S.a 4) (S.l 4) (S.c 4) (S.a 5) (S.l 5) (S.c 5) (S.a 6) (S.l 6) (S.c 6) (S.a 7) (S.l 7) (S.c 7) (S.a 8) (S.l 8) (S.c 8) (S.a 9) (S.l 9) (S.c 9) (S.a 10) (S.l 10) (S.c 10) (S.a 11) (S.l 11) (S.c 11) (S.a 12) (S.l 12) (S.c 12) what n w (fun v w' => v = .bool true ∧ Kept none' w w') ?_).mono ?_
  rotate_left
  · rintro e w' ⟨v, rfl, rfl, hw⟩
    exact ⟨rfl, hw⟩
  unfold vcP4
  intro w1 e1
  have o1 : own w1 w.heap.size (picC S x.c) := own_alloc e1
  have k1 : Kept none' w w1 := (Kept.refl _ _).al e1
  have P1 := P.k k1
  have sl : ∀ {w' : World}, Kept none' w1 w' → ∀ i, i < 13 → rd w' w.heap.size (94 + i) = some (.slice (S.a i) (S.l i) (S.c i)) := fun k i hi => picAt o1 k hi
  have r0 := Kept.refl none' w1
  refine ⟨_, _, _, sl r0 5 (by decide), _, _, _, fun _ => sl r0 9 (by decide), x.c, S.a 0, S.l 0, S.c 0, S.a 1, S.l 1, S.c 1, S.a 2, S.l 2, S.c 2, S.a 3, S.l 3, S.c 3, S.a 4, S.l 4, S.c 4, S.a 5, S.l 5, S.c 5, S.a 6, S.l 6, S.c 6, S.a 7, S.l 7, S.c 7, S.a 8, S.l 8, S.c 8, S.a 9, S.l 9, S.c 9, S.a 10, S.l 10, S.c 10, S.a 11, S.l 11, S.c 11, S.a 12, S.l 12, S.c 12, fun _ => o1.rdAll (vs := picC S x.c) 0 (fun j _ => by rw [Nat.zero_add]), Wif_intro (fun _ => known_b hz k1) (fun _ => ?_)⟩
  refine (size_spec P1 hN).mono ?_
  rintro _ w2 ⟨rfl, k2⟩
  have o2 := o1.k k2
  refine ⟨_, rfl, x.c, S.a 0, S.l 0, S.c 0, S.a 1, S.l 1, S.c 1, S.a 2, S.l 2, S.c 2, S.a 3, S.l 3, S.c 3, S.a 4, S.l 4, S.c 4, S.a 5, S.l 5, S.c 5, S.a 6, S.l 6, S.c 6, S.a 7, S.l 7, S.c 7, S.a 8, S.l 8, S.c 8, S.a 9, S.l 9, S.c 9, S.a 10, S.l 10, S.c 10, S.a 11, S.l 11, S.c 11, S.a 12, S.l 12, S.c 12, fun _ => o2.rdAll (vs := picC S x.c) 0 (fun j _ => by rw [Nat.zero_add]), Wif_intro (fun _ => known_b hz (k1.tr k2)) (fun hc2 => ?_)⟩
  have hsz : sizeN x ≤ 2000 := by simp at hc2; omega
  refine (check_spec (P1.k k2) (hz.k (k1.tr k2)) hrg (fun _ => small_of hsz)).mono ?_
  rintro _ w3 ⟨a, l, c, L, rfl, k3, hL, hno, hyes⟩
  have k13 : Kept none' w1 w3 := k2.tr k3
  refine ⟨a, l, c, rfl, _, _, _, fun _ => sl k13 0 (by decide), Wif_intro (fun _ => known_b hz (k1.tr k13)) (fun hc3 => ?_)⟩
  have hl0 : l = 0 := by simp at hc3; omega
  subst hl0
  have hLn : L = [] := List.length_eq_zero_iff.1 hL.len.symm
  subst hLn
  have hS : ShapeP x := Classical.byContradiction fun h => by have := hno h; cases this
  obtain ⟨rows, hr, hLr⟩ := hyes hS
  have hn := no_faults hr hLr.symm
  have sm := small_of hsz
  have tot := hS.tot
  clear hLr hr hno hyes hL hc3 hc2 k3 k2 o2
  have hct := hS.2.1
  have hmay := hS.1
  have l0 := P.marks.len; have l2 := P.held.len; have l8 := P.slots.len; have l12 := P.holders.len
  have hs' := hsz
  unfold sizeN lensN at hs'
  obtain ⟨f, hf, hfe, hfn⟩ := pick_f n (l := S.l 0) (by omega) (by omega)
  refine ⟨_, _, _, sl k13 0 (by decide), Wif_yes hfn ?_⟩
  rw [hfe]
  have o3 := o1.k k13
  refine ⟨x.c, S.a 0, S.l 0, S.c 0, S.a 1, S.l 1, S.c 1, S.a 2, S.l 2, S.c 2, S.a 3, S.l 3, S.c 3, S.a 4, S.l 4, S.c 4, S.a 5, S.l 5, S.c 5, S.a 6, S.l 6, S.c 6, S.a 7, S.l 7, S.c 7, S.a 8, S.l 8, S.c 8, S.a 9, S.l 9, S.c 9, S.a 10, S.l 10, S.c 10, S.a 11, S.l 11, S.c 11, S.a 12, S.l 12, S.c 12, o3.rdAll (vs := picC S x.c) 0 (fun j _ => by rw [Nat.zero_add]), fun w4 e4 => ?_⟩
  have o4 := own_alloc (c := List.replicate 94 (Value.int .i64 0) ++ List.replicate 13 (.slice none 0 0)) e4
  have k34 : Kept none' w3 w4 := (Kept.refl _ _).al e4
  refine ⟨o4.wrAll (vs := picC S x.c) 0 (by rw [picC_len]; simp), fun w5 e5 => ?_⟩
  obtain ⟨o5, k45⟩ := stAll_whole (vs := picC S x.c) o4 e5 (by rw [picC_len]; simp)
  have s4 : w3.heap.size < w4.heap.size := o4.lt
  have k35 : Kept none' w3 w5 := own0 k34 k45 fun b hb => by omega
  have k15 : Kept none' w1 w5 := k13.tr k35
  have s5 : w3.heap.size < w5.heap.size := o5.lt
  have s3 := k13.sz
  generalize hY : w3.heap.size = Y at *
  -- what the tail asks
  have tail : ∀ {w6 : World} {S' : PicS} {y : Pic}, y.c = x.c → y.slabs = x.slabs → own w6 Y (picC S' y.c) → PicR w6 S' y → Kept none' w1 w6 → Small y → BadP y → TailF w w6 Y := fun {w6 S' y} hc hsl o P k sm hb => finds_tail (w := w) o P hz (k1.tr k) (by rw [hsl]; exact hrg) sm hb
  have smM : ∀ m, Small { x with marks := m } := fun m => ⟨sm.free, sm.held, sm.flight, sm.frames, sm.clocks, sm.slots, sm.slabs, sm.procs, sm.leaves, sm.pages, sm.pinned, sm.cl, sm.mags, sm.depots, sm.many⟩
  refine Wif_intro (fun hc0 => ?_) (fun hc0 => Wif_intro (fun hc1 => ?_) (fun hc1 => Wif_intro (fun hc2 => ?_) (fun hc2 => ?_)))
  · -- a role
    intro w6 e6
    have k56 : Kept none' w5 w6 := (Kept.refl _ _).al e6
    have k16 := k15.tr k56
    have hinfo := info_mark'
    cases hi : Tryz.prog.info? 61 with
    | none => rw [hi] at hinfo; cases hinfo
    | some i0 =>
    rw [hi] at hinfo
    simp at hinfo
    have row6 : RowG RMark w1 61 5 w6 w5.heap.size (some ⟨w5.heap.size, 0, none⟩) 0 0 [] := RowG.zero e6
    refine ⟨_, _, _, sl k16 0 (by decide), ?_⟩
    obtain ⟨a, l, c, w7, happ, row7, k67⟩ := row6.cat (t := 27) Tryz.underlying27 hi hinfo.1 hinfo.2.1 rfl (by decide) (by omega) P1.marks k16 (fun cs x h u hu => by
      obtain rfl : cs = _ := h
      simp at hu
      rcases hu with rfl | rfl | rfl | rfl | rfl <;> rfl) (by simp; omega) k56.sz
    rw [List.nil_append] at row7
    have k57 : Kept none' w5 w7 := own0 k56 k67 fun b hb => (row6.ge hb).1
    have o7 := o5.k k57
    refine ⟨a, l, c, w7, happ, o7.wr (by rw [picC_len]; omega), fun w8 e8 => ?_⟩
    have o8 := o7.s1 e8
    rw [set_pic0] at o8
    have k78 : Kept (· = Y) w7 w8 := (Kept.refl (· = Y) w7).s1 e8 (.inl rfl)
    have k38 : Kept none' w3 w8 := own0 (k35.tr k57) k78 fun b hb => by omega
    have k18 : Kept none' w1 w8 := k13.tr k38
    have row8 := row7.kx k78 fun b hb _ _ e => by omega
    refine ⟨_, _, _, sl k18 2 (by decide), ?_⟩
    refine ⟨fun b m w' M => ∃ i : Nat, m = (i : Int) ∧ i ≤ x.held.length ∧ M = x.held.length - i ∧ (b = true ↔ ∃ l ∈ x.held.take i, (f : Int) ∈ l) ∧ Kept none' w8 w', ⟨x.held.length, 0, rfl, by omega, rfl, by simp, Kept.refl _ _⟩, ?_⟩
    rintro b _ w9 _ ⟨i, rfl, hi2, rfl, hb, k9⟩
    refine Wif_intro (fun hc => ?_) (fun hc => ?_)
    · have hil : i < x.held.length := by simp at hc; omega
      obtain ⟨h, cs, hl, hR, hrr⟩ := (P1.k (k18.tr k9)).held.at hil
      obtain ⟨a2, ll, c2, rfl, hs⟩ := hR
      refine Wif_yes ((P1.k k18).held.isp (by omega)) (Wif_yes (inB_of (by omega) (by omega)) ?_)
      rw [Int.toNat_natCast]
      have hsl := hs.len
      have hmem := sumN_mem List.length (List.mem_of_getElem? hl)
      refine ⟨_, _, _, hrr 0 _ rfl, fun b' m w' M => ∃ j : Nat, m = (j : Int) ∧ j ≤ h.length ∧ M = h.length - j ∧ (b' = true ↔ b = true ∨ (f : Int) ∈ h.take j) ∧ Kept none' w9 w', ⟨h.length, 0, rfl, by omega, rfl, by simp, Kept.refl _ _⟩, ?_⟩
      rintro b' _ w10 _ ⟨j, rfl, hj, rfl, hb', k10⟩
      refine Wif_intro (fun hcc => ?_) (fun hcc => ?_)
      · have hjl : j < h.length := by simp at hcc; omega
        obtain ⟨z, cs, hzz, hR2, hr2⟩ := (hs.k RInt.stab k10).at hjl
        obtain rfl : cs = [vi z] := hR2
        refine Wif_yes (hs.isp (by omega)) (Wif_yes (inB_of (by omega) (by omega)) ?_)
        rw [Int.toNat_natCast]
        refine ⟨z, hr2 0 _ rfl, h.length - (j + 1), by omega, j + 1, by rw [wi (by omega)]; rfl, by omega, rfl, ?_, k10⟩
        rw [List.take_add_one, hzz]
        simp only [Option.toList_some, List.mem_append, List.mem_singleton, Bool.or_eq_true, beq_iff_eq, hb']
        constructor
        · rintro ((h | h) | h)
          · exact .inl h
          · exact .inr (.inl h)
          · exact .inr (.inr h.symm)
        · rintro (h | h | h)
          · exact .inl (.inl h)
          · exact .inl (.inr h)
          · exact .inr h.symm
      · have hjl : j = h.length := by simp at hcc; omega
        subst hjl
        rw [List.take_length] at hb'
        refine ⟨x.held.length - (i + 1), by omega, i + 1, by rw [wi (by omega)]; rfl, by omega, rfl, ?_, k9.tr k10⟩
        rw [hb', hb, List.take_add_one, hl]
        simp only [Option.toList_some, List.mem_append, List.mem_singleton]
        constructor
        · rintro (⟨l, h1, h2⟩ | hq)
          · exact ⟨l, .inl h1, h2⟩
          · exact ⟨h, .inr rfl, hq⟩
        · rintro ⟨l, h1 | rfl, h2⟩
          · exact .inl ⟨l, h1, h2⟩
          · exact .inr h2
    have hil : i = x.held.length := by simp at hc; omega
    subst hil
    rw [List.take_length] at hb
    have o9 := o8.k k9
    have row9 := row8.k k9
    have hlm := row9.len
    obtain ⟨m, hm⟩ : ∃ m, x.marks[f]? = some m := ⟨_, List.getElem?_eq_getElem (by omega)⟩
    have hrole := pm m (List.mem_of_getElem? hm)
    have r9 : rd w9 Y 94 = some (.slice a l c) := (o9.rd 94).trans ((picC_s (setS0 S a l c) x.c (i := 0) (by decide)))
    have setr : ∀ (r : Int) (wq : World), Kept none' w8 wq → wr wq (pb a) (po a + f * 5 + 0) ∧ ∀ w', w' = st wq (pb a) (po a + f * 5 + 0) (.int .u8 r) → RowG RMark w1 61 5 w' w5.heap.size a l c (x.marks.set f { m with role := r }) ∧ Kept (fun b => (Value.slice a l c).ownBlock = some b) wq w' := fun r wq kq => (row8.k kq).set hm (by decide) fun cs _ hR => by
      obtain rfl : cs = _ := hR
      rfl
    have fin : ∀ (r : Int) (wq w' : World), Kept none' w8 wq → w' = st wq (pb a) (po a + f * 5 + 0) (.int .u8 r) → BadP { x with marks := x.marks.set f { m with role := r } } → TailF w w' Y := fun r wq w' kq ew hbad => by
      obtain ⟨row', k'⟩ := (setr r wq kq).2 w' ew
      have kk : Kept none' w1 w' := k13.tr (own0 (k38.tr kq) k' fun b hb => by have := (row8.ge hb).1; omega)
      have oo : own w' Y (picC (setS0 S a l c) x.c) := (o8.k kq).kx k' fun hb => by have := (row8.ge hb).1; omega
      have PP := P1.k kk
      exact tail (S' := setS0 S a l c) (y := { x with marks := x.marks.set f { m with role := r } }) rfl rfl oo ⟨row'.sl RMark.stab kk, PP.free, PP.held, PP.flying, PP.flight, PP.procs, PP.frames, PP.clocks, PP.slots, PP.slabs, PP.mags, PP.depots, PP.holders⟩ kk (smM _) hbad
    have hisp : isP a = true := (row9.sl RMark.stab (k18.tr k9)).isp (by omega)
    refine Wif_intro (fun hb1 => ?_) (fun hb1 => ?_)
    · refine ⟨a, l, c, r9, Wif_yes hisp (Wif_yes (inB_of (by omega) (by omega)) ?_)⟩
      rw [Int.toNat_natCast]
      exact ⟨(setr 1 w9 k9).1, fun w' ew => fin 1 w9 w' k9 ew (bad_role hS sm hn hm (fun _ => rfl) (fun h => absurd (hb.1 hb1) h) hrole.1)⟩
    · intro w10 e10
      have k10 := k9.dr e10
      refine ⟨a, l, c, by rw [((o8.k k10).rd 94)]; exact picC_s (setS0 S a l c) x.c (i := 0) (by decide), S.a 0, S.l 0, S.c 0, sl (k18.tr k10) 0 (by decide), Wif_yes (P1.marks.isp (by omega)) (Wif_yes (inB_of (by omega) (by omega)) ?_)⟩
      rw [Int.toNat_natCast]
      obtain ⟨cs, _, hR, hrr⟩ := (P1.k (k18.tr k10)).marks.el f m hm
      obtain rfl : cs = [.int .u8 m.role, vi m.order, vi m.owner, vi m.page, vi m.index] := hR
      refine ⟨m.role, hrr 0 _ rfl, Wif_yes hisp (Wif_yes (inB_of (by omega) (by omega)) ?_)⟩
      have hm5 : 0 ≤ Int.tmod m.role 5 := Int.tmod_nonneg _ hrole.1
      have hm6 : Int.tmod m.role 5 < 5 := Int.tmod_lt_of_pos _ (by decide)
      have hw8 : IntKind.wrap .u8 (Int.tmod m.role 5 + 1) = Int.tmod m.role 5 + 1 := by
        rw [IntKind.wrap_u8]; omega
      rw [hw8]
      exact ⟨(setr (Int.tmod m.role 5 + 1) w10 k10).1, fun w' ew => fin (Int.tmod m.role 5 + 1) w10 w' k10 ew (bad_role hS sm hn hm (fun h => absurd (hb.2 h) (by simpa using hb1)) (fun _ => rfl) hrole.1)⟩
  · -- a frame held
    have hhp : 1 ≤ x.held.length := by have := hct.held; have := hmay.2.1; omega
    refine ⟨_, _, _, sl k15 2 (by decide), Wif_no (by simp; omega) (fun w6 e6 => ?_)⟩
    have k56 : Kept none' w5 w6 := (Kept.refl _ _).al e6
    have k16 := k15.tr k56
    have hinfo := info_ints'
    cases hi : Tryz.prog.info? 31 with
    | none => rw [hi] at hinfo; cases hinfo
    | some i0 =>
    rw [hi] at hinfo
    simp at hinfo
    have row6 : RowG (RL RInt 1) w1 31 1 w6 w5.heap.size (some ⟨w5.heap.size, 0, none⟩) 0 0 [] := RowG.zero e6
    obtain ⟨a, l, c, w7, happ, row7, k67⟩ := row6.cat (t := 29) Tryz.underlying29 hi hinfo.1 hinfo.2.1 rfl (by decide) (by omega) P1.held k16 (fun cs x h u hu => by
      obtain ⟨_, _, _, rfl, _⟩ := h
      simp at hu
      subst hu
      rfl) (by simp; omega) k56.sz
    rw [List.nil_append] at row7
    have k57 : Kept none' w5 w7 := own0 k56 k67 fun b hb => (row6.ge hb).1
    have o7 := o5.k k57
    refine ⟨_, _, _, sl k16 2 (by decide), a, l, c, w7, happ, o7.wr (by rw [picC_len]; omega), fun w8 e8 => ?_⟩
    have o8 := o7.s1 e8
    rw [set_pic2] at o8
    have k78 : Kept (· = Y) w7 w8 := (Kept.refl (· = Y) w7).s1 e8 (.inl rfl)
    have k38 : Kept none' w3 w8 := own0 (k35.tr k57) k78 fun b hb => by omega
    have k18 : Kept none' w1 w8 := k13.tr k38
    have row8 := row7.kx k78 fun b hb _ _ e => by omega
    intro w9 e9
    have k89 : Kept none' w8 w9 := (Kept.refl _ _).dr e9
    have k19 := k18.tr k89
    have row9 := row8.k k89
    have hlm := row9.len
    obtain ⟨h0, hd, hx⟩ : ∃ h0 hd, x.held = h0 :: hd := by
      cases hh : x.held with
      | nil => rw [hh] at hhp; simp at hhp
      | cons a b => exact ⟨a, b, rfl⟩
    have hh0 : x.held[0]? = some h0 := by rw [hx]; rfl
    have hlen : x.held.length = hd.length + 1 := by rw [hx]; rfl
    have y96 : ∀ {wq : World}, Kept none' w8 wq → rd wq Y 96 = some (.slice a l c) := fun kq => ((o8.k kq).rd 96).trans (picC_s (setS2 S a l c) x.c (i := 2) (by decide))
    obtain ⟨cs, _, hR, hrr⟩ := (P1.k k19).held.el 0 h0 hh0
    obtain ⟨a0, l0', c0, rfl, hs0⟩ := hR
    have hl0' := hs0.len
    have r0 : ∀ {wq : World}, Kept none' w9 wq → rd wq (pb (S.a 2)) (po (S.a 2)) = some (.slice a0 l0' c0) := fun kq => kq.rd_some (hrr 0 _ rfl) id
    have hisp : isP a = true := (row9.sl (RL.stab RInt.stab) k19).isp (by omega)
    refine ⟨a, l, c, y96 k89, _, _, _, sl k19 2 (by decide), Wif_yes (P1.held.isp (by omega)) (Wif_yes (inB_of (by omega) (by omega)) ⟨a0, l0', c0, r0 (Kept.refl _ _), ?_⟩)⟩
    have hinfo3 := info_int'
    cases hi3 : Tryz.prog.info? 3 with
    | none => rw [hi3] at hinfo3; cases hinfo3
    | some i3 =>
    rw [hi3] at hinfo3
    simp at hinfo3
    have h0l : h0.length ≤ 2000 := by
      have := sumN_mem List.length (List.mem_of_getElem? hh0)
      omega
    -- what is left when the new row is laid and the number's box, too
    have first : ∀ {wA : World} {p : Nat}, RowG RInt w9 3 1 wA w9.heap.size (some ⟨p, 0, none⟩) 0 0 [] → Kept none' w9 wA → ∃ (a2 : Option Addr) (l2 c2 : Nat) (wB : World), appIs Tryz.prog #[31, 31] 31 (.slice (some ⟨p, 0, none⟩) 0 0) (.slice a0 l0' c0) (.slice a2 l2 c2) wA wB ∧ RowG RInt w9 3 1 wB w9.heap.size a2 l2 c2 h0 ∧ Kept (· = p) wA wB ∧ Kept none' w9 wB := fun {wA p} row kA => by
      obtain ⟨a2, l2, c2, wB, h1, h2, h3⟩ := row.cat (t := 31) Tryz.underlying31 hi3 hinfo3.1 hinfo3.2.1 rfl (by decide) (by omega) hs0 kA (fun cs x h u hu => by
        obtain rfl : cs = [vi x] := h
        simp at hu
        subst hu
        rfl) (by simp; omega) kA.sz
      rw [List.nil_append] at h2
      exact ⟨a2, l2, c2, wB, h1, h2, h3.mono fun b _ hb => by simpa [Value.ownBlock] using hb.symm, own0 kA h3 fun b hb => (row.ge hb).1⟩
    have last : ∀ {wB : World} {X : Nat} {a2 : Option Addr} {l2 c2 : Nat}, RowG RInt w9 3 1 wB w9.heap.size a2 l2 c2 h0 → own wB X [vi f] → Kept none' w9 wB →
        ∃ (a3 : Option Addr) (l3 c3 : Nat) (wC : World), appIs Tryz.prog #[31, 31] 31 (.slice a2 l2 c2) (.slice (some ⟨X, 0, none⟩) 1 1) (.slice a3 l3 c3) wB wC ∧ (rd wC Y 96 = some (.slice a l c) ∧ True) ∧
          Wif (isP a) (Wif (inB 0 l) (wr wC (pb a) (po a) ∧ ∀ w', w' = st wC (pb a) (po a) (.slice a3 l3 c3) → TailF w w' Y) False) False := fun {wB X a2 l2 c2} row oX kB => by
      obtain ⟨a3, l3, c3, wC, h1, h2, h3, -⟩ := row.one (t := 31) Tryz.underlying31 hi3 hinfo3.1 hinfo3.2.1 rfl (by decide) (by omega) (x := (f : Int)) (cs := [vi f]) rfl rfl oX (fun u hu => by simp at hu; subst hu; rfl) (by omega) kB.sz
      have kC : Kept none' w9 wC := own0 kB h3 fun b hb => (row.ge hb).1
      have kC1 := k19.tr kC
      have rowC := row9.k kC
      refine ⟨a3, l3, c3, wC, h1, ⟨y96 (k89.tr kC), trivial⟩, Wif_yes hisp (Wif_yes (inB_of (by omega) (by omega)) ⟨by simpa using rowC.wrt (i := 0) (j := 0) (by omega) (by decide), fun w' ew => ?_⟩)⟩
      have hba := rowC.blk hisp
      have hba9 := row9.blk hisp
      have kw : Kept (· = pb a) wC w' := (Kept.refl _ _).s1 ew (.inl rfl)
      have s1 := k19.sz
      have s15 := k15.sz
      have kk1 : Kept none' w1 w' := own0 kC1 kw fun b hb => by omega
      have row3 := (h2.kx kw fun b hb1 hb2 hb e => by omega).cv (v' := w') fun cs x h => h
      have sl3 := row3.sl RInt.stab (Kept.refl _ _)
      obtain ⟨row', -⟩ := ((rowC.v (RL.stab RInt.stab) kk1).set (i := 0) (j := 0) (u := .slice a3 l3 c3) (y := h0 ++ [(f : Int)]) hh0 (by decide) (fun cs hc hR => by
        obtain ⟨aa, ll, cc, rfl, hh⟩ := hR
        exact ⟨a3, l3, c3, rfl, sl3⟩)).2 w' (by simpa using ew)
      have hset : x.held.set 0 (h0 ++ [(f : Int)]) = (h0 ++ [(f : Int)]) :: hd := by rw [hx]; rfl
      rw [hset] at row'
      have oo : own w' Y (picC (setS2 S a l c) x.c) := ((o8.k k89).k kC).kx kw fun hb => by omega
      have PP := P1.k kk1
      have hfm : (x.held.flatMap id).length = sumN List.length x.held := len_fm _ _
      refine tail (S' := setS2 S a l c) (y := { x with held := (h0 ++ [(f : Int)]) :: hd }) rfl rfl oo ⟨PP.marks, PP.free, row'.sl (RL.stab RInt.stab) (Kept.refl _ _), PP.flying, PP.flight, PP.procs, PP.frames, PP.clocks, PP.slots, PP.slabs, PP.mags, PP.depots, PP.holders⟩ kk1 ⟨sm.free, ?_, sm.flight, sm.frames, sm.clocks, sm.slots, sm.slabs, sm.procs, sm.leaves, sm.pages, sm.pinned, sm.cl, sm.mags, sm.depots, sm.many⟩ (bad_held hS sm hn (by omega) hx)
      rw [hx] at hfm
      show (((h0 ++ [(f : Int)]) :: hd).flatMap id).length ≤ _
      rw [hx] at hs'
      simp only [List.flatMap_cons, id, List.length_append, List.length_cons, List.length_nil] at hfm ⊢
      omega
    have three : ∀ {wq : World}, Kept none' w9 wq → (rd wq (pb (S.a 2)) (po (S.a 2)) = some (.slice a0 l0' c0) ∧ True) ∧ (rd wq w.heap.size 96 = some (.slice (S.a 2) (S.l 2) (S.c 2)) ∧ True) ∧ (rd wq Y 96 = some (.slice a l c) ∧ True) := fun kq => ⟨⟨r0 kq, trivial⟩, ⟨sl (k19.tr kq) 2 (by decide), trivial⟩, ⟨y96 (k89.tr kq), trivial⟩⟩
    refine ⟨fun w10 e10 => ?_, fun w10 e10 => ?_⟩
    · have k10 : Kept none' w9 w10 := (Kept.refl _ _).al e10
      have z10 : RowG RInt w9 3 1 w10 w9.heap.size (some ⟨w9.heap.size, 0, none⟩) 0 0 [] := RowG.zero e10
      obtain ⟨t1, t2, t3⟩ := three k10
      refine ⟨t1, t2, t3, ?_, fun w11 e11 => ?_⟩
      · obtain ⟨a2, l2, c2, w11, h1, h2, h3, h4⟩ := first z10 k10
        refine ⟨a2, l2, c2, w11, h1, ⟨y96 (k89.tr h4), trivial⟩, fun w12 e12 => ?_⟩
        have k12 : Kept none' w11 w12 := (Kept.refl _ _).al e12
        exact ⟨⟨y96 ((k89.tr h4).tr k12), trivial⟩, last (h2.k k12) (own_alloc (c := [vi f]) e12) (h4.tr k12)⟩
      · have k11 : Kept none' w10 w11 := (Kept.refl _ _).al e11
        have o11 := own_alloc (c := [vi f]) e11
        obtain ⟨u1, u2, u3⟩ := three (k10.tr k11)
        obtain ⟨a2, l2, c2, w12, h1, h2, h3, h4⟩ := first (z10.k k11) (k10.tr k11)
        have hz9 := (z10.blk rfl).2
        exact ⟨u1, u2, u3, a2, l2, c2, w12, h1, ⟨y96 (k89.tr h4), trivial⟩, last h2 (o11.kx h3 fun hb => by have : w10.heap.size = w9.heap.size := hb; change w9.heap.size < _ at hz9; omega) h4⟩
    · have k10 : Kept none' w9 w10 := (Kept.refl _ _).al e10
      have o10 := own_alloc (c := [vi f]) e10
      obtain ⟨t1, t2, t3⟩ := three k10
      refine ⟨t1, t2, t3, fun w11 e11 => ?_⟩
      have k11 : Kept none' w10 w11 := (Kept.refl _ _).al e11
      have z11 : RowG RInt w9 3 1 w11 w10.heap.size (some ⟨w10.heap.size, 0, none⟩) 0 0 [] := RowG.zero e11
      obtain ⟨u1, u2, u3⟩ := three (k10.tr k11)
      have s10 := o10.lt
      obtain ⟨a2, l2, c2, w12, h1, h2, h3, h4⟩ := first (z11.weak (by omega)) (k10.tr k11)
      exact ⟨u1, u2, u3, a2, l2, c2, w12, h1, ⟨y96 (k89.tr h4), trivial⟩, last h2 ((o10.k k11).kx h3 fun hb => by have : w9.heap.size = w10.heap.size := hb; omega) h4⟩
  · -- a slot taken
    have c90 : 0 ≤ x.c 90 ∧ x.c 90 ≤ 1024 := hmay.2.2.1
    refine ⟨x.c 90, ((o1.k k15).rd 90).trans (picC_c S x.c (by decide)), ?_⟩
    refine ⟨fun fr s w' M => ∃ i : Nat, s = (i : Int) ∧ (i : Int) ≤ x.c 90 ∧ M = (x.c 90).toNat - i ∧ (fr = -1 ∨ (0 ≤ fr ∧ ∀ o ∈ x.slots, o.n ≠ fr)) ∧ Kept none' w5 w', ⟨(x.c 90).toNat, 0, rfl, by omega, rfl, .inl rfl, Kept.refl _ _⟩, ?_⟩
    rintro fr _ w6 _ ⟨i, rfl, hi, rfl, hfr, k56⟩
    have k16 := k15.tr k56
    refine Wif_intro (fun hc => ?_) (fun hc => ?_)
    · have hic : (i : Int) < x.c 90 := by simpa using hc
      refine ⟨_, _, _, sl k16 8 (by decide), ?_⟩
      refine ⟨fun b m w' M => ∃ j : Nat, m = (j : Int) ∧ j ≤ x.slots.length ∧ M = x.slots.length - j ∧ (b = true ↔ ∃ o ∈ x.slots.take j, o.n = (i : Int)) ∧ Kept none' w6 w', ⟨x.slots.length, 0, rfl, by omega, rfl, by simp, Kept.refl _ _⟩, ?_⟩
      rintro b _ w7 _ ⟨j, rfl, hj, rfl, hb, k67⟩
      have k17 := k16.tr k67
      refine Wif_intro (fun hcc => ?_) (fun hcc => ?_)
      · have hjl : j < x.slots.length := by simp at hcc; omega
        obtain ⟨q, cs, hq, hR, hr2⟩ := (P1.k k17).slots.at hjl
        obtain rfl : cs = [vi q.n, vi q.pid, vi q.page] := hR
        refine Wif_yes (P1.slots.isp (by omega)) (Wif_yes (inB_of (by omega) (by omega)) ?_)
        rw [Int.toNat_natCast]
        refine ⟨q.n, q.pid, q.page, ⟨hr2 0 _ rfl, hr2 1 _ rfl, hr2 2 _ rfl⟩, fun w8 e8 => ?_⟩
        have o8 := own_alloc (c := [vi 0, vi 0, vi 0]) e8
        have k8 := k67.al e8
        refine ⟨⟨o8.wr (by decide), o8.wr (by decide), o8.wr (by decide)⟩, fun w9 e9 => ?_⟩
        have o9 : own w9 w7.heap.size [vi q.n, vi q.pid, vi q.page] := by rw [e9]; exact ((o8.st_same).st_same).st_same
        have hs7 := k67.sz
        have k9 : Kept none' w6 w9 := by rw [e9]; exact ((k8.st (.inr hs7)).st (.inr hs7)).st (.inr hs7)
        refine ⟨q.n, fun _ => o9.rd 0, x.slots.length - (j + 1), by omega, j + 1, by rw [wi (by omega)]; rfl, by omega, rfl, ?_, k9⟩
        rw [List.take_add_one, hq]
        simp only [Option.toList_some, List.mem_append, List.mem_singleton, Bool.or_eq_true, beq_iff_eq, hb]
        constructor
        · rintro (⟨o, h1, h2⟩ | h)
          · exact ⟨o, .inl h1, h2⟩
          · exact ⟨q, .inr rfl, h⟩
        · rintro ⟨o, h1 | rfl, h2⟩
          · exact .inl ⟨o, h1, h2⟩
          · exact .inr h2
      · have hjl : j = x.slots.length := by simp at hcc; omega
        subst hjl
        rw [List.take_length] at hb
        refine Wif_intro (fun hnb => ?_) (fun hnb => ?_)
        · refine ⟨(x.c 90).toNat - (i + 1), by omega, i + 1, by rw [wi (by omega)]; rfl, by omega, rfl, .inr ⟨by omega, fun o ho e => ?_⟩, k56.tr k67⟩
          have := hb.2 ⟨o, ho, e⟩
          rw [this] at hnb
          cases hnb
        · exact ⟨(x.c 90).toNat - (i + 1), by omega, i + 1, by rw [wi (by omega)]; rfl, by omega, rfl, hfr, k56.tr k67⟩
    refine Wif_intro (fun _ => known_b hz (k1.tr k16)) (fun hc3 => ?_)
    have hfr0 : 0 ≤ fr ∧ ∀ o ∈ x.slots, o.n ≠ fr := by
      rcases hfr with h | h
      · rw [h] at hc3; cases hc3
      · exact h
    have s56 := k56.sz
    have o6 := o5.k k56
    intro w7 e7
    have k67 : Kept none' w6 w7 := (Kept.refl _ _).al e7
    have k17 := k16.tr k67
    have hinfo := info_own'
    cases hi : Tryz.prog.info? 63 with
    | none => rw [hi] at hinfo; cases hinfo
    | some i0 =>
    rw [hi] at hinfo
    simp at hinfo
    have row7 : RowG ROwn w1 63 3 w7 w6.heap.size (some ⟨w6.heap.size, 0, none⟩) 0 0 [] := RowG.zero e7
    obtain ⟨a, l, c, w8, happ, row8, k78⟩ := row7.cat (t := 33) Tryz.underlying33 hi hinfo.1 hinfo.2.1 rfl (by decide) (by omega) P1.slots k17 (fun cs x h u hu => by
      obtain rfl : cs = _ := h
      simp at hu
      rcases hu with rfl | rfl | rfl <;> rfl) (by simp; omega) k67.sz
    rw [List.nil_append] at row8
    have k68 : Kept none' w6 w8 := own0 k67 k78 fun b hb => (row7.ge hb).1
    refine ⟨_, _, _, sl k17 8 (by decide), a, l, c, w8, happ, fun w9 e9 => ?_⟩
    have k89 : Kept none' w8 w9 := (Kept.refl _ _).al e9
    have o9 := own_alloc (c := [vi fr, vi 1, vi 0]) e9
    obtain ⟨a2, l2, c2, w10, happ2, row10, k910, -⟩ := (row8.k k89).one (t := 33) Tryz.underlying33 hi hinfo.1 hinfo.2.1 rfl (by decide) (by omega) (x := ⟨fr, 1, 0⟩) (cs := [vi fr, vi 1, vi 0]) rfl rfl o9 (fun u hu => by simp at hu; rcases hu with rfl | rfl | rfl <;> rfl) (by omega) (by have := k68.sz; have := k89.sz; omega)
    have k610 : Kept none' w6 w10 := own0 (k68.tr k89) k910 fun b hb => (row8.ge hb).1
    have o10 := o6.k k610
    refine ⟨a2, l2, c2, w10, happ2, o10.wr (by rw [picC_len]; omega), fun w11 e11 => ?_⟩
    have o11 := o10.s1 e11
    rw [set_pic8] at o11
    have kY : Kept (· = Y) w10 w11 := (Kept.refl (· = Y) w10).s1 e11 (.inl rfl)
    have kk1 : Kept none' w1 w11 := k13.tr (own0 (k35.tr (k56.tr k610)) kY fun b hb => by omega)
    have row11 := row10.kx kY fun b hb _ _ e => by omega
    have PP := P1.k kk1
    refine tail (S' := setS8 S a2 l2 c2) (y := { x with slots := x.slots ++ [⟨fr, 1, 0⟩] }) rfl rfl o11 ⟨PP.marks, PP.free, PP.held, PP.flying, PP.flight, PP.procs, PP.frames, PP.clocks, row11.sl ROwn.stab kk1, PP.slabs, PP.mags, PP.depots, PP.holders⟩ kk1 ⟨sm.free, sm.held, sm.flight, sm.frames, sm.clocks, ?_, sm.slabs, sm.procs, sm.leaves, sm.pages, sm.pinned, sm.cl, sm.mags, sm.depots, sm.many⟩ (bad_slot hn hfr0.2)
    show (x.slots ++ [_]).length ≤ _
    rw [List.length_append]
    simp
    omega
  · -- a lock held
    have hhp : 1 ≤ x.holders.length := by have := hct.holders; have := hmay.1; omega
    refine ⟨_, _, _, sl k15 12 (by decide), Wif_no (by simp; omega) (fun w6 e6 => ?_)⟩
    have k56 : Kept none' w5 w6 := (Kept.refl _ _).al e6
    have k16 := k15.tr k56
    have hinfo := info_int'
    cases hi : Tryz.prog.info? 3 with
    | none => rw [hi] at hinfo; cases hinfo
    | some i0 =>
    rw [hi] at hinfo
    simp at hinfo
    have row6 : RowG RInt w1 3 1 w6 w5.heap.size (some ⟨w5.heap.size, 0, none⟩) 0 0 [] := RowG.zero e6
    obtain ⟨a, l, c, w7, happ, row7, k67⟩ := row6.cat (t := 31) Tryz.underlying31 hi hinfo.1 hinfo.2.1 rfl (by decide) (by omega) P1.holders k16 (fun cs x h u hu => by
      obtain rfl : cs = [vi x] := h
      simp at hu
      subst hu
      rfl) (by simp; omega) k56.sz
    rw [List.nil_append] at row7
    have k57 : Kept none' w5 w7 := own0 k56 k67 fun b hb => (row6.ge hb).1
    have o7 := o5.k k57
    refine ⟨_, _, _, sl k16 12 (by decide), a, l, c, w7, happ, o7.wr (by rw [picC_len]; omega), fun w8 e8 => ?_⟩
    have o8 := o7.s1 e8
    rw [set_pic12] at o8
    have k78 : Kept (· = Y) w7 w8 := (Kept.refl (· = Y) w7).s1 e8 (.inl rfl)
    have k38 : Kept none' w3 w8 := own0 (k35.tr k57) k78 fun b hb => by omega
    have k18 : Kept none' w1 w8 := k13.tr k38
    have row8 := row7.kx k78 fun b hb _ _ e => by omega
    intro w9 e9
    have k89 : Kept none' w8 w9 := (Kept.refl _ _).dr e9
    have k19 := k18.tr k89
    have row9 := row8.k k89
    have hlm := row9.len
    have y106 : rd w9 Y 106 = some (.slice a l c) := ((o8.k k89).rd 106).trans (picC_s (setS12 S a l c) x.c (i := 12) (by decide))
    have hisp : isP a = true := (row9.sl RInt.stab k19).isp (by omega)
    have hidx : Int.tmod (f : Int) (l : Int) = ((f % l : Nat) : Int) := by
      rw [Int.tmod_eq_emod_of_nonneg (by omega), ← Int.natCast_emod]
    have hml : f % l < l := Nat.mod_lt _ (by omega)
    refine ⟨a, l, c, y106, a, l, c, y106, Wif_yes (by simp; omega) ⟨x.c 1, ((o1.k k19).rd 1).trans (picC_c S x.c (by decide)), Wif_yes hisp ?_⟩⟩
    rw [hidx]
    refine Wif_yes (inB_of (by omega) (by omega)) ?_
    rw [Int.toNat_natCast]
    refine ⟨by simpa using row9.wrt (i := f % l) (j := 0) (by omega) (by decide), fun w10 e10 => ?_⟩
    obtain ⟨z, hzz⟩ : ∃ z, x.holders[f % l]? = some z := ⟨_, List.getElem?_eq_getElem (by omega)⟩
    obtain ⟨row10, k910⟩ := (row9.set (i := f % l) (j := 0) (u := vi (x.c 1)) (y := x.c 1) hzz (by decide) (fun cs hc hR => by
      obtain rfl : cs = [vi z] := hR
      rfl)).2 w10 (by simpa using e10)
    have kk1 : Kept none' w1 w10 := own0 k19 k910 fun b hb => by have := (row9.ge hb).1; have := k15.sz; omega
    have oo : own w10 Y (picC (setS12 S a l c) x.c) := (o8.k k89).kx k910 fun hb => by have := (row9.ge hb).1; omega
    have PP := P1.k kk1
    exact tail (S' := setS12 S a l c) (y := { x with holders := x.holders.set (f % l) (x.c 1) }) rfl rfl oo ⟨PP.marks, PP.free, PP.held, PP.flying, PP.flight, PP.procs, PP.frames, PP.clocks, PP.slots, PP.slabs, PP.mags, PP.depots, row10.sl RInt.stab kk1⟩ kk1 ⟨sm.free, sm.held, sm.flight, sm.frames, sm.clocks, sm.slots, sm.slabs, sm.procs, sm.leaves, sm.pages, sm.pinned, sm.cl, sm.mags, sm.depots, sm.many⟩ (bad_lock (by omega))
end Go.Proofs.YtikjgeenhbnkkaaGreatDoor
