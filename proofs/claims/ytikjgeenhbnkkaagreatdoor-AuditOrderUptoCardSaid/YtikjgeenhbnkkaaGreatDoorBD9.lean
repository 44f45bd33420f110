/-
  A part of a proof that a law of this seat returns true at every input. Conditions: those in each theorem.
-/
import Derived.Test.YtikjgeenhbnkkaaGreatDoorBD2
import Derived.Test.YtikjgeenhbnkkaaGreatDoorAVL
set_option linter.unusedSimpArgs false
set_option linter.unusedVariables false
set_option maxRecDepth 100000
set_option maxHeartbeats 4000000
namespace Go.Proofs.YtikjgeenhbnkkaaGreatDoor
open Go Eng
def setS1 (S : PicS) (a : Option Addr) (l c : Nat) : PicS :=
  ⟨fun i => match i with | 1 => a | i => S.a i, fun i => match i with | 1 => l | i => S.l i, fun i => match i with | 1 => c | i => S.c i⟩
theorem set_pic1 (S : PicS) (f : Nat → Int) (a : Option Addr) (l c : Nat) : (picC S f).set 95 (.slice a l c) = picC (setS1 S a l c) f := by
  unfold picC
  rw [List.set_append_right _ _ (by rw [runI_len]; omega), runI_len]
  rfl
def setS2 (S : PicS) (a : Option Addr) (l c : Nat) : PicS :=
  ⟨fun i => match i with | 2 => a | i => S.a i, fun i => match i with | 2 => l | i => S.l i, fun i => match i with | 2 => c | i => S.c i⟩
theorem set_pic2 (S : PicS) (f : Nat → Int) (a : Option Addr) (l c : Nat) : (picC S f).set 96 (.slice a l c) = picC (setS2 S a l c) f := by
  unfold picC
  rw [List.set_append_right _ _ (by rw [runI_len]; omega), runI_len]
  rfl
def setS5 (S : PicS) (a : Option Addr) (l c : Nat) : PicS :=
  ⟨fun i => match i with | 5 => a | i => S.a i, fun i => match i with | 5 => l | i => S.l i, fun i => match i with | 5 => c | i => S.c i⟩
theorem set_pic5 (S : PicS) (f : Nat → Int) (a : Option Addr) (l c : Nat) : (picC S f).set 99 (.slice a l c) = picC (setS5 S a l c) f := by
  unfold picC
  rw [List.set_append_right _ _ (by rw [runI_len]; omega), runI_len]
  rfl
def setS6 (S : PicS) (a : Option Addr) (l c : Nat) : PicS :=
  ⟨fun i => match i with | 6 => a | i => S.a i, fun i => match i with | 6 => l | i => S.l i, fun i => match i with | 6 => c | i => S.c i⟩
theorem set_pic6 (S : PicS) (f : Nat → Int) (a : Option Addr) (l c : Nat) : (picC S f).set 100 (.slice a l c) = picC (setS6 S a l c) f := by
  unfold picC
  rw [List.set_append_right _ _ (by rw [runI_len]; omega), runI_len]
  rfl
def setS7 (S : PicS) (a : Option Addr) (l c : Nat) : PicS :=
  ⟨fun i => match i with | 7 => a | i => S.a i, fun i => match i with | 7 => l | i => S.l i, fun i => match i with | 7 => c | i => S.c i⟩
theorem set_pic7 (S : PicS) (f : Nat → Int) (a : Option Addr) (l c : Nat) : (picC S f).set 101 (.slice a l c) = picC (setS7 S a l c) f := by
  unfold picC
  rw [List.set_append_right _ _ (by rw [runI_len]; omega), runI_len]
  rfl
def setS8 (S : PicS) (a : Option Addr) (l c : Nat) : PicS :=
  ⟨fun i => match i with | 8 => a | i => S.a i, fun i => match i with | 8 => l | i => S.l i, fun i => match i with | 8 => c | i => S.c i⟩
theorem set_pic8 (S : PicS) (f : Nat → Int) (a : Option Addr) (l c : Nat) : (picC S f).set 102 (.slice a l c) = picC (setS8 S a l c) f := by
  unfold picC
  rw [List.set_append_right _ _ (by rw [runI_len]; omega), runI_len]
  rfl
def setS9 (S : PicS) (a : Option Addr) (l c : Nat) : PicS :=
  ⟨fun i => match i with | 9 => a | i => S.a i, fun i => match i with | 9 => l | i => S.l i, fun i => match i with | 9 => c | i => S.c i⟩
theorem set_pic9 (S : PicS) (f : Nat → Int) (a : Option Addr) (l c : Nat) : (picC S f).set 103 (.slice a l c) = picC (setS9 S a l c) f := by
  unfold picC
  rw [List.set_append_right _ _ (by rw [runI_len]; omega), runI_len]
  rfl
theorem setS2_v (S : PicS) (a : Option Addr) (l c : Nat) : ∀ i, i < 13 → i ≠ 2 → (setS2 S a l c).v i = S.v i := by
  intro i hi hn
  match i, hi, hn with
  | 0, _, _ | 1, _, _ | 3, _, _ | 4, _, _ | 5, _, _ | 6, _, _ | 7, _, _ | 8, _, _ | 9, _, _ | 10, _, _ | 11, _, _ | 12, _, _ => rfl
theorem setS5_v (S : PicS) (a : Option Addr) (l c : Nat) : ∀ i, i < 13 → i ≠ 5 → (setS5 S a l c).v i = S.v i := by
  intro i hi hn
  match i, hi, hn with
  | 0, _, _ | 1, _, _ | 2, _, _ | 3, _, _ | 4, _, _ | 6, _, _ | 7, _, _ | 8, _, _ | 9, _, _ | 10, _, _ | 11, _, _ | 12, _, _ => rfl
theorem setS7_v (S : PicS) (a : Option Addr) (l c : Nat) : ∀ i, i < 13 → i ≠ 7 → (setS7 S a l c).v i = S.v i := by
  intro i hi hn
  match i, hi, hn with
  | 0, _, _ | 1, _, _ | 2, _, _ | 3, _, _ | 4, _, _ | 5, _, _ | 6, _, _ | 8, _, _ | 9, _, _ | 10, _, _ | 11, _, _ | 12, _, _ => rfl
theorem slv {α : Type} {R : Rd α} {s : Nat} {w : World} {a : Option Addr} {l c : Nat} {xs : List α} {S : PicS} {k : Nat} (h : S.v k = .slice a l c) (hs : SlR R s w a l c xs) : SlR R s w (S.a k) (S.l k) (S.c k) xs := by
  unfold PicS.v at h
  cases h
  exact hs
theorem rdv {w : World} {Y : Nat} {S : PicS} {f : Nat → Int} {a : Option Addr} {l c k : Nat} (o : own w Y (picC S f)) (hk : k < 13) (h : S.v k = .slice a l c) : rd w Y (94 + k) = some (.slice a l c) := by
  rw [o.rd, picC_s S f hk, h]
theorem inf31' : (Tryz.prog.info? 31).map (fun i => (i.zero, i.size, i.bytes)) = some (some (.slice none 0 0), 1, 24) := by kernel_rfl
theorem inf48' : (Tryz.prog.info? 48).map (fun i => (i.zero, i.size, i.bytes)) = some (some (.agg #[.int .i64 0, .int .i64 0, .slice none 0 0, .slice none 0 0, .slice none 0 0, .slice none 0 0]), 6, 112) := by kernel_rfl
theorem known_b {w w1 : World} (hz : SizR w) (k : Kept none' w w1) : Calls Tryz.prog 8 #[] w1 fun e w' => ∃ b : Bool, e = .returned (.bool b) ∧ Value.bool b = .bool true ∧ Kept none' w w' := by
  refine (known_spec (hz.k k)).mono ?_
  rintro _ w2 ⟨rfl, k2⟩
  exact ⟨true, rfl, rfl, k.tr k2⟩
theorem order_walk {w : World} {S : PicS} {x : Pic} (P : PicR w S x) (hz : SizR w) (hrg : ∀ s ∈ x.slabs, -9223372036854775808 ≤ s.frame ∧ s.frame ≤ 9223372036854775807) (hN : sizeN x ≤ 1000000000) :
    Calls Tryz.prog 5 #[picV S x.c] w fun e w' => e = .returned (.bool true) ∧ Kept none' w w' := by
  refine (vc5 x.c (S.a 0) (S.l 0) (S.c 0) (S.a 1) (S.l 1) (S.c 1) (S.a 2) (S.l 2) (S.c 2) (S.a 3) (S.l 3) (S.c 3) (S.a 4) (S.l 4) (S.c 4) (S.a 5) (S.l 5) (S.c 5) (S.a 6) (S.l 6) (S.c 6) (S.a 7) (S.l 7) (S.c 7) (S.a 8) (S.l 8) (S.c 8) (S.a 9) (S.l 9) (S.c 9) (S.a 10) (S.l 10) (S.c 10) (S.a 11) (S.l 11) (S.c 11) (S.a 12) (S.l 12) (S.c 12) w (fun v w' => v = .bool true ∧ Kept none' w w') ?_).mono ?_
  rotate_left
  · rintro e w' ⟨v, rfl, rfl, hw⟩
    exact ⟨rfl, hw⟩
  unfold vcP5
  intro w1 e1
  have o1 : own w1 w.heap.size (picC S x.c) := own_alloc e1
  have k1 : Kept none' w w1 := (Kept.refl _ _).al e1
  have P1 := P.k k1
  have sl : ∀ {w' : World}, Kept none' w1 w' → ∀ i, i < 13 → rd w' w.heap.size (94 + i) = some (.slice (S.a i) (S.l i) (S.c i)) := fun k i hi => picAt o1 k hi
  have r0 := Kept.refl none' w1
  refine ⟨_, _, _, sl r0 5 (by decide), _, _, _, fun _ => sl r0 9 (by decide), x.c, S.a 0, S.l 0, S.c 0, S.a 1, S.l 1, S.c 1, S.a 2, S.l 2, S.c 2, S.a 3, S.l 3, S.c 3, S.a 4, S.l 4, S.c 4, S.a 5, S.l 5, S.c 5, S.a 6, S.l 6, S.c 6, S.a 7, S.l 7, S.c 7, S.a 8, S.l 8, S.c 8, S.a 9, S.l 9, S.c 9, S.a 10, S.l 10, S.c 10, S.a 11, S.l 11, S.c 11, S.a 12, S.l 12, S.c 12, fun _ => o1.rdAll (vs := picC S x.c) 0 (fun j _ => by rw [Nat.zero_add]), Wif_intro (fun _ => known_b hz k1) (fun _ => ?_)⟩
  refine (size_spec P1 hN).mono ?_
  rintro _ w2 ⟨rfl, k12⟩
  have o2 := o1.k k12
  refine ⟨_, rfl, Wif_intro (fun _ => known_b hz (k1.tr k12)) (fun hc2 => ?_)⟩
  have hsz : sizeN x ≤ 2000 := by simp at hc2; omega
  have sm := small_of hsz
  have smy : Small (turnPic x) := small_of (by rw [sizeN_turn]; exact hsz)
  have l5 := P.procs.len; have l7 := P.clocks.len; have l2 := P.held.len; have l9 := P.slabs.len
  have hs' := hsz
  unfold sizeN lensN at hs'
  have hpl := sumN_len procN (fun p => by unfold procN; omega) x.procs
  have hsbl := sumN_len slabN (fun p => by unfold slabN; omega) x.slabs
  refine ⟨x.c, S.a 0, S.l 0, S.c 0, S.a 1, S.l 1, S.c 1, S.a 2, S.l 2, S.c 2, S.a 3, S.l 3, S.c 3, S.a 4, S.l 4, S.c 4, S.a 5, S.l 5, S.c 5, S.a 6, S.l 6, S.c 6, S.a 7, S.l 7, S.c 7, S.a 8, S.l 8, S.c 8, S.a 9, S.l 9, S.c 9, S.a 10, S.l 10, S.c 10, S.a 11, S.l 11, S.c 11, S.a 12, S.l 12, S.c 12, o2.rdAll (vs := picC S x.c) 0 (fun j _ => by rw [Nat.zero_add]), fun w3 e3 => ?_⟩
  have o3 := own_alloc (c := List.replicate 94 (Value.int .i64 0) ++ List.replicate 13 (.slice none 0 0)) e3
  have k23 : Kept none' w2 w3 := (Kept.refl _ _).al e3
  refine ⟨o3.wrAll (vs := picC S x.c) 0 (by rw [picC_len]; simp), fun w4 e4 => ?_⟩
  obtain ⟨o4, k34⟩ := stAll_whole (vs := picC S x.c) o3 e4 (by rw [picC_len]; simp)
  have s3 : w2.heap.size < w3.heap.size := o3.lt
  have k24 : Kept none' w2 w4 := own0 k23 k34 fun b hb => by omega
  intro w5 e5
  have k45 : Kept none' w4 w5 := (Kept.refl _ _).dr e5
  have k15 : Kept none' w1 w5 := (k12.tr k24).tr k45
  have o5 := o4.k k45
  have s5 : w2.heap.size < w5.heap.size := o5.lt
  have s12 := k12.sz
  generalize hY : w2.heap.size = Y at *
  refine ⟨_, _, _, sl k15 1 (by decide), _, _, _, sl k15 6 (by decide), _, _, _, sl k15 8 (by decide), _, _, _, sl k15 9 (by decide), ?_⟩
  refine (turned9 P1.free k15 (by omega)).mono ?_
  rintro _ w6 ⟨a1, L1, c1, rfl, k56, rowF⟩
  have k16 := k15.tr k56
  refine ⟨a1, L1, c1, rfl, ⟨sl k16 9 (by decide), trivial⟩, ⟨sl k16 8 (by decide), trivial⟩, ⟨sl k16 6 (by decide), trivial⟩, ?_⟩
  refine (turned10 P1.frames k16 (by omega)).mono ?_
  rintro _ w7 ⟨a6, L6, c6, rfl, k67, rowR⟩
  have k17 := k16.tr k67
  refine ⟨a6, L6, c6, rfl, ⟨sl k17 9 (by decide), trivial⟩, ⟨sl k17 8 (by decide), trivial⟩, ?_⟩
  refine (turned10 P1.slots k17 (by omega)).mono ?_
  rintro _ w8 ⟨a8, L8, c8, rfl, k78, rowS⟩
  have k18 := k17.tr k78
  refine ⟨a8, L8, c8, rfl, ⟨sl k18 9 (by decide), trivial⟩, ?_⟩
  refine (turned11 P1.slabs k18 (by omega)).mono ?_
  rintro _ w9 ⟨a9, L9, c9, rfl, k89, rowB⟩
  have k19 := k18.tr k89
  have k59 : Kept none' w5 w9 := ((k56.tr k67).tr k78).tr k89
  have o9 := o5.k k59
  refine ⟨a9, L9, c9, rfl, o9.wr (by rw [picC_len]; omega), fun w10 e10 => ?_⟩
  have o10 := o9.s1 e10
  rw [set_pic1] at o10
  refine ⟨o10.wr (by rw [picC_len]; omega), fun w11 e11 => ?_⟩
  have o11 := o10.s1 e11
  rw [set_pic6] at o11
  refine ⟨o11.wr (by rw [picC_len]; omega), fun w12 e12 => ?_⟩
  have o12 := o11.s1 e12
  rw [set_pic8] at o12
  refine ⟨o12.wr (by rw [picC_len]; omega), fun w13 e13 => ?_⟩
  have o13 := o12.s1 e13
  rw [set_pic9] at o13
  generalize hS4 : setS9 (setS8 (setS6 (setS1 S a1 L1 c1) a6 L6 c6) a8 L8 c8) a9 L9 c9 = S4 at o13
  have kY : Kept (· = Y) w9 w13 := ((((Kept.refl (· = Y) w9).s1 e10 (.inl rfl)).s1 e11 (.inl rfl)).s1 e12 (.inl rfl)).s1 e13 (.inl rfl)
  have k113 : Kept none' w1 w13 := own0 k19 kY fun b hb => by omega
  have z6 := k56.sz; have z7 := k67.sz; have z8 := k78.sz; have z9 := k89.sz; have z13 := kY.sz
  have gF : ∀ b, (Value.slice a1 L1 c1).ownBlock = some b → w5.heap.size ≤ b ∧ b < w6.heap.size := fun b hb => rowF.ge hb
  have gR : ∀ b, (Value.slice a6 L6 c6).ownBlock = some b → w6.heap.size ≤ b ∧ b < w7.heap.size := fun b hb => rowR.ge hb
  have gS : ∀ b, (Value.slice a8 L8 c8).ownBlock = some b → w7.heap.size ≤ b ∧ b < w8.heap.size := fun b hb => rowS.ge hb
  have gB : ∀ b, (Value.slice a9 L9 c9).ownBlock = some b → w8.heap.size ≤ b ∧ b < w9.heap.size := fun b hb => rowB.ge hb
  have rowF := (rowF.k ((k67.tr k78).tr k89)).kx kY fun b hb _ _ e => by omega
  have rowR := (rowR.k (k78.tr k89)).kx kY fun b hb _ _ e => by omega
  have rowS := (rowS.k k89).kx kY fun b hb _ _ e => by omega
  have rowB := rowB.kx kY fun b hb _ _ e => by omega
  have hlB : L9 = x.slabs.length := by have := rowB.len; rw [List.length_reverse] at this; exact this
  obtain ⟨X1, hX1⟩ : ∃ X1 : Nat → Prop, X1 = fun b => b = Y ∨ (Value.slice a9 L9 c9).ownBlock = some b := ⟨_, rfl⟩
  have X1lo : ∀ b, X1 b → Y ≤ b := fun b hb => by
    rw [hX1] at hb
    rcases hb with rfl | hb
    · exact Nat.le_refl _
    · have := (gB b hb).1; omega
  have X1hi : ∀ b, X1 b → b < w13.heap.size := fun b hb => by
    rw [hX1] at hb
    rcases hb with rfl | hb
    · omega
    · have := (gB b hb).2; omega
  have X1B : ∀ b, (Value.slice a9 L9 c9).ownBlock = some b → X1 b := fun b hb => by rw [hX1]; exact .inr hb
  have X1Y : X1 Y := by rw [hX1]; exact .inl rfl
  have X1no : ∀ b, X1 b → b ≠ Y → w8.heap.size ≤ b := fun b hb hn => by
    rw [hX1] at hb
    rcases hb with rfl | hb
    · exact absurd rfl hn
    · exact (gB b hb).1
  have rowB' : RowG (Fut X1 RSlab) w13 55 7 w13 w8.heap.size a9 L9 c9 x.slabs.reverse := rowB.cr fun cs s h w' k => RSlab.stab _ _ _ _ h (own0 k113 k fun b hb => by have := X1lo b hb; omega)
  have hv9 : S4.v 9 = .slice a9 L9 c9 := by rw [← hS4]; rfl
  have r103 : ∀ {w' : World}, own w' Y (picC S4 x.c) → rd w' Y 103 = some (.slice a9 L9 c9) := fun oo => (oo.rd 103).trans ((picC_s S4 x.c (i := 9) (by decide)).trans (by rw [hv9]))
  refine ⟨a9, L9, c9, r103 o13, ?_⟩
  refine ⟨fun n w' M => ∃ i : Nat, n = (i : Int) ∧ i ≤ x.slabs.length ∧ M = x.slabs.length - i ∧ Kept X1 w13 w' ∧ own w' Y (picC S4 x.c) ∧ RowG (Fut X1 RSlab) w' 55 7 w' w8.heap.size a9 L9 c9 (half turnSlab x.slabs.reverse i), ⟨x.slabs.length, 0, rfl, by omega, rfl, Kept.refl _ _, o13, by rw [half_zero]; exact rowB'⟩, ?_⟩
  rintro _ w14 _ ⟨i, rfl, hi, rfl, k14, oY, row⟩
  have z14 := k14.sz
  refine Wif_intro (fun hc => ?_) (fun hc => ?_)
  · have hil : i < x.slabs.length := by simp at hc; omega
    intro w15 e15
    have k1415 : Kept none' w14 w15 := (Kept.refl _ _).dr e15
    have oY15 := oY.k k1415
    have row15 := (row.k k1415).v Fut.stab k1415
    obtain ⟨s, hs⟩ : ∃ s, x.slabs.reverse[i]? = some s := ⟨_, List.getElem?_eq_getElem (by simpa using hil)⟩
    have hh := half_get turnSlab hs
    have hsm : s ∈ x.slabs := List.mem_reverse.1 (List.mem_of_getElem? hs)
    have hsN := sumN_mem slabN hsm
    have hsD : slabN s = 1 + s.chain.length + s.alive.length := rfl
    have sl15 := row15.sl Fut.stab (Kept.refl _ _)
    obtain ⟨cs, _, hR, hr⟩ := sl15.el i s hh
    obtain ⟨ac, lc, cc, aa, la, ca, rfl, h1, h2⟩ := hR.now
    have hisp : isP a9 = true := sl15.isp (by omega)
    refine ⟨a9, L9, c9, r103 oY15, a9, L9, c9, r103 oY15, a9, L9, c9, r103 oY15, Wif_yes hisp (Wif_yes (inB_of (by omega) (by omega)) ?_)⟩
    rw [Int.toNat_natCast]
    refine ⟨ac, lc, cc, hr 5 _ rfl, a9, L9, c9, r103 oY15, Wif_yes hisp (Wif_yes (inB_of (by omega) (by omega)) ⟨aa, la, ca, hr 6 _ rfl, ?_⟩)⟩
    refine (turned12 h1 (Kept.refl _ _) (by omega)).mono ?_
    rintro _ w16 ⟨at1, lt1, ct1, rfl, k1516, rowc⟩
    have oY16 := oY15.k k1516
    refine ⟨at1, lt1, ct1, rfl, ⟨k1516.rd_some (hr 6 _ rfl) id, trivial⟩, ⟨r103 oY16, trivial⟩, ⟨r103 oY16, trivial⟩, ⟨r103 oY16, trivial⟩, ?_⟩
    refine (turned13 h2 k1516 (by omega)).mono ?_
    rintro _ w17 ⟨at2, lt2, ct2, rfl, k1617, rowa⟩
    have oY17 := oY16.k k1617
    have row17 := (row15.k (k1516.tr k1617)).v Fut.stab (k1516.tr k1617)
    have z15 := k1415.sz
    have z16 := k1516.sz
    have futc : ∀ w', Kept X1 w17 w' → SlR RInt 1 w' at1 lt1 ct1 s.chain.reverse := fun w' k => (((rowc.k k1617).kx k fun b hb _ _ e => by have := X1hi b e; omega).cr (R' := RInt) (v' := w') fun _ _ h => h).sl RInt.stab (Kept.refl _ _)
    have futa : ∀ w', Kept X1 w17 w' → SlR RAlive 2 w' at2 lt2 ct2 s.alive.reverse := fun w' k => ((rowa.kx k fun b hb _ _ e => by have := X1hi b e; omega).cr (R' := RAlive) (v' := w') fun _ _ h => h).sl RAlive.stab (Kept.refl _ _)
    obtain ⟨hw1, hst1⟩ := fut_set row17 X1B (u := .slice at1 lt1 ct1) (y := { s with chain := s.chain.reverse }) hh (j := 5) (by decide) (fun cs w' hcl k hR => by
      obtain ⟨b1, m1, d1, b2, m2, d2, rfl, g1, g2⟩ := hR
      exact ⟨at1, lt1, ct1, b2, m2, d2, rfl, futc w' k, g2⟩)
    refine ⟨at2, lt2, ct2, rfl, ⟨r103 oY17, trivial⟩, ⟨r103 oY17, trivial⟩, Wif_yes hisp (Wif_yes (inB_of (by omega) (by omega)) ?_)⟩
    refine ⟨hw1, fun w18 e18 => ?_⟩
    obtain ⟨row18, kb18⟩ := hst1 w18 e18
    have oY18 := oY17.kx kb18 fun hb => by have := (gB _ hb).1; omega
    have kX18 : Kept X1 w17 w18 := kb18.mono fun b _ hb => X1B b hb
    have hh2 : ((half turnSlab x.slabs.reverse i).set i { s with chain := s.chain.reverse })[i]? = some { s with chain := s.chain.reverse } := by
      rw [List.getElem?_set_self]
      exact (List.getElem?_eq_some_iff.1 hh).1
    obtain ⟨hw2, hst2⟩ := fut_set row18 X1B (u := .slice at2 lt2 ct2) (y := turnSlab s) hh2 (j := 6) (by decide) (fun cs w' hcl k hR => by
      obtain ⟨b1, m1, d1, b2, m2, d2, rfl, g1, g2⟩ := hR
      exact ⟨b1, m1, d1, at2, lt2, ct2, rfl, g1, futa w' (kX18.trans k fun _ _ h => h)⟩)
    refine ⟨⟨r103 oY18, trivial⟩, Wif_yes hisp (Wif_yes (inB_of (by omega) (by omega)) ⟨hw2, fun w19 e19 => ?_⟩)⟩
    obtain ⟨row19, kb19⟩ := hst2 w19 e19
    rw [List.set_set, half_set turnSlab hs] at row19
    exact ⟨x.slabs.length - (i + 1), by omega, i + 1, by rw [wi (by omega)]; rfl, by omega, rfl, (((k14.tr k1415).tr (k1516.tr k1617)).trans kX18 fun _ _ h => h).trans (kb19.mono fun b _ hb => X1B b hb) fun _ _ h => h, oY18.kx kb19 fun hb => by have := (gB _ hb).1; omega, row19⟩
  have hil : i = x.slabs.length := by simp at hc; omega
  subst hil
  have hRl : x.slabs.reverse.length = x.slabs.length := List.length_reverse
  rw [← hRl, half_all] at row
  have kyX : ∀ {w w' : World}, Kept (· = Y) w w' → Kept X1 w w' := fun k => k.mono fun b _ hb => hb ▸ X1Y
  have FS : ∀ w', Kept (· = Y) w14 w' → SlR RSlab 7 w' a9 L9 c9 (turnPic x).slabs := fun w' k => ((row.kx k fun b hb _ _ e => by omega).cr (R' := RSlab) (v' := w') fun cs s h => h w' (kyX k)).sl RSlab.stab (Kept.refl _ _)
  have F1 : ∀ w', Kept (· = Y) w14 w' → SlR RPair 2 w' a1 L1 c1 (turnPic x).free := fun w' k => (((rowF.kx k14 fun b hb _ hb2 e => by have := (gF b hb2); have := X1no b e (by omega); omega).kx k fun b hb _ _ e => by omega).cr (R' := RPair) (v' := w') fun _ _ h => h).sl RPair.stab (Kept.refl _ _)
  have F6 : ∀ w', Kept (· = Y) w14 w' → SlR ROwn 3 w' a6 L6 c6 (turnPic x).frames := fun w' k => (((rowR.kx k14 fun b hb _ hb2 e => by have := (gR b hb2); have := X1no b e (by omega); omega).kx k fun b hb _ _ e => by omega).cr (R' := ROwn) (v' := w') fun _ _ h => h).sl ROwn.stab (Kept.refl _ _)
  have F8 : ∀ w', Kept (· = Y) w14 w' → SlR ROwn 3 w' a8 L8 c8 (turnPic x).slots := fun w' k => (((rowS.kx k14 fun b hb _ hb2 e => by have := (gS b hb2); have := X1no b e (by omega); omega).kx k fun b hb _ _ e => by omega).cr (R' := ROwn) (v' := w') fun _ _ h => h).sl ROwn.stab (Kept.refl _ _)
  have k114 : Kept none' w1 w14 := own0 k113 k14 fun b hb => by have := X1lo b hb; omega
  refine ⟨oY.wr (by rw [picC_len]; omega), fun w15 e15 => ?_⟩
  have o15 := oY.s1 e15
  rw [set_pic7] at o15
  refine ⟨o15.wr (by rw [picC_len]; omega), fun w16 e16 => ?_⟩
  have o16 := o15.s1 e16
  rw [set_pic2] at o16
  have k1416 : Kept (· = Y) w14 w16 := ((Kept.refl (· = Y) w14).s1 e15 (.inl rfl)).s1 e16 (.inl rfl)
  have k116 : Kept none' w1 w16 := own0 k114 k1416 fun b hb => by omega
  have z16 := k1416.sz
  have hinfo31 := inf31'
  cases hi31 : Tryz.prog.info? 31 with
  | none => rw [hi31] at hinfo31; cases hinfo31
  | some i31 =>
  rw [hi31] at hinfo31
  simp at hinfo31
  refine ⟨_, _, _, sl k116 7 (by decide), ?_⟩
  obtain ⟨βA, hβA⟩ : ∃ β, β = w16.heap.size := ⟨_, rfl⟩
  refine ⟨fun n w' M => ∃ (i : Nat) (Sx : PicS) (a : Option Addr) (l c : Nat), n = (i : Int) ∧ i ≤ x.clocks.length ∧ M = x.clocks.length - i ∧ Kept (· = Y) w16 w' ∧ own w' Y (picC Sx x.c) ∧ Sx.v 7 = .slice a l c ∧ (∀ k, k < 13 → k ≠ 7 → Sx.v k = (setS2 (setS7 S4 none 0 0) none 0 0).v k) ∧ RowG (RTI βA) w' 31 1 w' βA a l c ((x.clocks.take i).map List.reverse), ⟨x.clocks.length, 0, setS2 (setS7 S4 none 0 0) none 0 0, none, 0, 0, rfl, by omega, rfl, Kept.refl _ _, o16, rfl, fun _ _ _ => rfl, by simpa using RowG.nil'⟩, ?_⟩
  rintro _ uA _ ⟨i, SA, aA, lA, cA, rfl, hiA, rfl, kvA, ovA, hvA, hrA, rowA⟩
  have k1vA : Kept none' w1 uA := own0 k116 kvA fun b hb => by omega
  have zvA := kvA.sz
  refine Wif_intro (fun hc => ?_) (fun hc => ?_)
  · have hil : i < x.clocks.length := by simp at hc; omega
    obtain ⟨h, cs, hh, hR, hr⟩ := (P1.k k1vA).clocks.at hil
    obtain ⟨b0, m0, d0, rfl, hs0⟩ := hR
    have hmem := sumN_mem List.length (List.mem_of_getElem? hh)
    refine Wif_yes (P1.clocks.isp (by omega)) (Wif_yes (inB_of (by omega) (by omega)) ?_)
    rw [Int.toNat_natCast]
    refine ⟨b0, m0, d0, hr 0 _ rfl, fun v1 ev1 => ?_⟩
    have q1 : Kept none' uA v1 := (Kept.refl _ _).dr ev1
    refine ⟨aA, lA, cA, rdv (ovA.k q1) (by decide) hvA, ?_⟩
    refine (turned12 hs0 q1 (by omega)).mono ?_
    rintro _ v2 ⟨b1, m1, d1, rfl, q2, rowc⟩
    have q02 : Kept none' uA v2 := q1.tr q2
    refine ⟨b1, m1, d1, rfl, ⟨rdv (ovA.k q02) (by decide) hvA, trivial⟩, fun v3 ev3 => ?_⟩
    have q3 : Kept none' v2 v3 := (Kept.refl _ _).al ev3
    have q03 := q02.tr q3
    have ob := own_alloc (c := [.slice b1 m1 d1]) ev3
    refine ⟨⟨rdv (ovA.k q03) (by decide) hvA, trivial⟩, ?_⟩
    have z1 := q1.sz
    have z03 := q03.sz
    have row3 := (rowA.k q03).v RTI.stab q03
    have rti : RTI βA v3 [.slice b1 m1 d1] h.reverse := ⟨b1, m1, d1, rfl, ((rowc.k q3).toI).weak (by omega)⟩
    obtain ⟨a4, l4, c4, v4, happ, row4, q4, -⟩ := row3.one (t := 29) Tryz.underlying29 hi31 hinfo31.1 hinfo31.2.1 rfl (by decide) (by omega) rfl rti ob (fun u hu => by simp at hu; subst hu; rfl) (by simp; omega) (by omega)
    have row4' : RowG (RTI βA) v4 31 1 v4 βA a4 l4 c4 ((x.clocks.take i).map List.reverse ++ [h.reverse]) := by
      obtain ⟨vs3, ro3, _⟩ := row3.ex
      exact row4.cr fun cs y hy => hy.own ro3 q4
    have ov4 := (ovA.k q03).kx q4 fun hb => by have := (row3.ge hb).1; omega
    refine ⟨a4, l4, c4, v4, happ, ov4.wr (by rw [picC_len]; omega), fun v5 ev5 => ?_⟩
    have ov5 := ov4.s1 ev5
    rw [set_pic7] at ov5
    have q5 : Kept (· = Y) v4 v5 := (Kept.refl (· = Y) v4).s1 ev5 (.inl rfl)
    have row5 := (row4'.kx q5 fun b hb _ _ e => by omega).cr (R' := RTI βA) (v' := v5) fun cs y hy => hy.kx q5 fun b hb => by omega
    refine ⟨x.clocks.length - (i + 1), by omega, i + 1, setS7 SA a4 l4 c4, a4, l4, c4, by rw [wi (by omega)]; rfl, by omega, rfl, ((kvA.tr q03).trans q4 fun b hb hb2 => by have := (row3.ge hb2).1; omega).trans q5 fun _ _ h => h, ov5, rfl, fun k hk hn => by rw [setS7_v _ _ _ _ k hk hn]; exact hrA k hk hn, ?_⟩
    rw [List.take_add_one, hh, List.map_append]
    exact row5
  have hil : i = x.clocks.length := by simp at hc; omega
  subst hil
  rw [List.take_length] at rowA
  have FFA : ∀ w', Kept (· = Y) uA w' → SlR (RL RInt 1) 1 w' aA lA cA (x.clocks.map List.reverse) := fun w' k => ((rowA.kx k fun b hb _ _ e => by omega).cr (R' := RL RInt 1) (v' := w') fun cs y hy => (hy.kx k fun b hb => by omega).sl).sl (RL.stab RInt.stab) (Kept.refl _ _)
  refine ⟨_, _, _, sl k1vA 2 (by decide), ?_⟩
  obtain ⟨βB, hβB⟩ : ∃ β, β = uA.heap.size := ⟨_, rfl⟩
  refine ⟨fun n w' M => ∃ (i : Nat) (Sx : PicS) (a : Option Addr) (l c : Nat), n = (i : Int) ∧ i ≤ x.held.length ∧ M = x.held.length - i ∧ Kept (· = Y) uA w' ∧ own w' Y (picC Sx x.c) ∧ Sx.v 2 = .slice a l c ∧ (∀ k, k < 13 → k ≠ 2 → Sx.v k = (SA).v k) ∧ RowG (RTI βB) w' 31 1 w' βB a l c ((x.held.take i).map List.reverse), ⟨x.held.length, 0, SA, none, 0, 0, rfl, by omega, rfl, Kept.refl _ _, ovA, (hrA 2 (by decide) (by decide)).trans rfl, fun _ _ _ => rfl, by simpa using RowG.nil'⟩, ?_⟩
  rintro _ uB _ ⟨i, SB, aB, lB, cB, rfl, hiB, rfl, kvB, ovB, hvB, hrB, rowB⟩
  have k1vB : Kept none' w1 uB := own0 k1vA kvB fun b hb => by omega
  have zvB := kvB.sz
  refine Wif_intro (fun hc => ?_) (fun hc => ?_)
  · have hil : i < x.held.length := by simp at hc; omega
    obtain ⟨h, cs, hh, hR, hr⟩ := (P1.k k1vB).held.at hil
    obtain ⟨b0, m0, d0, rfl, hs0⟩ := hR
    have hmem := sumN_mem List.length (List.mem_of_getElem? hh)
    refine Wif_yes (P1.held.isp (by omega)) (Wif_yes (inB_of (by omega) (by omega)) ?_)
    rw [Int.toNat_natCast]
    refine ⟨b0, m0, d0, hr 0 _ rfl, fun v1 ev1 => ?_⟩
    have q1 : Kept none' uB v1 := (Kept.refl _ _).dr ev1
    refine ⟨aB, lB, cB, rdv (ovB.k q1) (by decide) hvB, ?_⟩
    refine (turned12 hs0 q1 (by omega)).mono ?_
    rintro _ v2 ⟨b1, m1, d1, rfl, q2, rowc⟩
    have q02 : Kept none' uB v2 := q1.tr q2
    refine ⟨b1, m1, d1, rfl, ⟨rdv (ovB.k q02) (by decide) hvB, trivial⟩, fun v3 ev3 => ?_⟩
    have q3 : Kept none' v2 v3 := (Kept.refl _ _).al ev3
    have q03 := q02.tr q3
    have ob := own_alloc (c := [.slice b1 m1 d1]) ev3
    refine ⟨⟨rdv (ovB.k q03) (by decide) hvB, trivial⟩, ?_⟩
    have z1 := q1.sz
    have z03 := q03.sz
    have row3 := (rowB.k q03).v RTI.stab q03
    have rti : RTI βB v3 [.slice b1 m1 d1] h.reverse := ⟨b1, m1, d1, rfl, ((rowc.k q3).toI).weak (by omega)⟩
    obtain ⟨a4, l4, c4, v4, happ, row4, q4, -⟩ := row3.one (t := 29) Tryz.underlying29 hi31 hinfo31.1 hinfo31.2.1 rfl (by decide) (by omega) rfl rti ob (fun u hu => by simp at hu; subst hu; rfl) (by simp; omega) (by omega)
    have row4' : RowG (RTI βB) v4 31 1 v4 βB a4 l4 c4 ((x.held.take i).map List.reverse ++ [h.reverse]) := by
      obtain ⟨vs3, ro3, _⟩ := row3.ex
      exact row4.cr fun cs y hy => hy.own ro3 q4
    have ov4 := (ovB.k q03).kx q4 fun hb => by have := (row3.ge hb).1; omega
    refine ⟨a4, l4, c4, v4, happ, ov4.wr (by rw [picC_len]; omega), fun v5 ev5 => ?_⟩
    have ov5 := ov4.s1 ev5
    rw [set_pic2] at ov5
    have q5 : Kept (· = Y) v4 v5 := (Kept.refl (· = Y) v4).s1 ev5 (.inl rfl)
    have row5 := (row4'.kx q5 fun b hb _ _ e => by omega).cr (R' := RTI βB) (v' := v5) fun cs y hy => hy.kx q5 fun b hb => by omega
    refine ⟨x.held.length - (i + 1), by omega, i + 1, setS2 SB a4 l4 c4, a4, l4, c4, by rw [wi (by omega)]; rfl, by omega, rfl, ((kvB.tr q03).trans q4 fun b hb hb2 => by have := (row3.ge hb2).1; omega).trans q5 fun _ _ h => h, ov5, rfl, fun k hk hn => by rw [setS2_v _ _ _ _ k hk hn]; exact hrB k hk hn, ?_⟩
    rw [List.take_add_one, hh, List.map_append]
    exact row5
  have hil : i = x.held.length := by simp at hc; omega
  subst hil
  rw [List.take_length] at rowB
  have FFB : ∀ w', Kept (· = Y) uB w' → SlR (RL RInt 1) 1 w' aB lB cB (x.held.map List.reverse) := fun w' k => ((rowB.kx k fun b hb _ _ e => by omega).cr (R' := RL RInt 1) (v' := w') fun cs y hy => (hy.kx k fun b hb => by omega).sl).sl (RL.stab RInt.stab) (Kept.refl _ _)
  intro p1 ep1
  have kp1 : Kept none' uB p1 := (Kept.refl _ _).al ep1
  have k1p1 := k1vB.tr kp1
  have hinfo48 := inf48'
  cases hi48 : Tryz.prog.info? 48 with
  | none => rw [hi48] at hinfo48; cases hinfo48
  | some i48 =>
  rw [hi48] at hinfo48
  simp at hinfo48
  have rowZ : RowG RProc w1 48 6 p1 uB.heap.size (some ⟨uB.heap.size, 0, none⟩) 0 0 [] := RowG.zero ep1
  obtain ⟨aP, lP, cP, p2, happ, rowP, kp12⟩ := rowZ.cat (t := 32) Tryz.underlying32 hi48 hinfo48.1 hinfo48.2.1 rfl (by decide) (by omega) P1.procs k1p1 (fun cs x h u hu => by
    obtain ⟨_, _, _, _, _, _, _, _, _, _, _, _, rfl, _⟩ := h
    simp at hu
    rcases hu with rfl | rfl | rfl | rfl | rfl | rfl <;> rfl) (by simp; omega) kp1.sz
  rw [List.nil_append] at rowP
  have kB2 : Kept none' uB p2 := own0 kp1 kp12 fun b hb => (rowZ.ge hb).1
  have op2 := ovB.k kB2
  refine ⟨_, _, _, sl k1p1 5 (by decide), aP, lP, cP, p2, happ, op2.wr (by rw [picC_len]; omega), fun p3 ep3 => ?_⟩
  have op3 := op2.s1 ep3
  rw [set_pic5] at op3
  have kp23 : Kept (· = Y) p2 p3 := (Kept.refl (· = Y) p2).s1 ep3 (.inl rfl)
  have gP : ∀ b, (Value.slice aP lP cP).ownBlock = some b → uB.heap.size ≤ b ∧ b < p2.heap.size := fun b hb => rowP.ge hb
  have rowP3 := rowP.kx kp23 fun b hb _ _ e => by omega
  have zB2 := kB2.sz
  have zp3 := kp23.sz
  have kB3 : Kept (· = Y) uB p3 := (kB2.mono fun _ _ h => h.elim).trans kp23 fun _ _ h => h
  have k1p3 : Kept none' w1 p3 := own0 (k1vB.tr kB2) kp23 fun b hb => by omega
  have hlP : lP = x.procs.length := rowP.len
  obtain ⟨X3, hX3⟩ : ∃ X3 : Nat → Prop, X3 = fun b => b = Y ∨ (Value.slice aP lP cP).ownBlock = some b := ⟨_, rfl⟩
  have X3lo : ∀ b, X3 b → Y ≤ b := fun b hb => by
    rw [hX3] at hb
    rcases hb with rfl | hb
    · exact Nat.le_refl _
    · have := (gP b hb).1; omega
  have X3hi : ∀ b, X3 b → b < p3.heap.size := fun b hb => by
    rw [hX3] at hb
    rcases hb with rfl | hb
    · omega
    · have := (gP b hb).2; omega
  have X3B : ∀ b, (Value.slice aP lP cP).ownBlock = some b → X3 b := fun b hb => by rw [hX3]; exact .inr hb
  have X3no : ∀ b, b < uB.heap.size → X3 b → b = Y := fun b hlt hb => by
    rw [hX3] at hb
    rcases hb with rfl | hb
    · rfl
    · have := (gP b hb).1; omega
  have rowQ : RowG (Fut X3 RProc) p3 48 6 p3 uB.heap.size aP lP cP x.procs := rowP3.cr fun cs s h w' k => RProc.stab _ _ _ _ h (own0 k1p3 k fun b hb => by have := X3lo b hb; omega)
  have r99 : ∀ {w' : World}, own w' Y (picC (setS5 SB aP lP cP) x.c) → rd w' Y 99 = some (.slice aP lP cP) := fun oo => rdv oo (k := 5) (by decide) rfl
  refine ⟨aP, lP, cP, r99 op3, ?_⟩
  refine ⟨fun n w' M => ∃ i : Nat, n = (i : Int) ∧ i ≤ x.procs.length ∧ M = x.procs.length - i ∧ Kept X3 p3 w' ∧ own w' Y (picC (setS5 SB aP lP cP) x.c) ∧ RowG (Fut X3 RProc) w' 48 6 w' uB.heap.size aP lP cP (half turnProc x.procs i), ⟨x.procs.length, 0, rfl, by omega, rfl, Kept.refl _ _, op3, by rw [half_zero]; exact rowQ⟩, ?_⟩
  rintro _ t0 _ ⟨i, rfl, hi, rfl, kt, ot, rowt⟩
  have zt := kt.sz
  refine Wif_intro (fun hc => ?_) (fun hc => ?_)
  · have hil : i < x.procs.length := by simp at hc; omega
    obtain ⟨p, hp⟩ : ∃ p, x.procs[i]? = some p := ⟨_, List.getElem?_eq_getElem hil⟩
    have hpN := sumN_mem procN (List.mem_of_getElem? hp)
    have hpD : procN p = 1 + p.leaves.length + p.pages.length + p.pinned.length + p.runs.length := rfl
    have hisp : isP aP = true := (rowt.sl Fut.stab (Kept.refl _ _)).isp (by omega)
    refine ⟨aP, lP, cP, r99 ot, Wif_yes hisp (Wif_yes (inB_of (by omega) (by omega)) ?_)⟩
    rw [Int.toNat_natCast]
    intro t1 et1
    have q1 : Kept none' t0 t1 := (Kept.refl _ _).dr et1
    have row1 := (rowt.k q1).v Fut.stab q1
    have hh := half_get turnProc hp
    obtain ⟨cs, _, hR, hr⟩ := (row1.sl Fut.stab (Kept.refl _ _)).el i p hh
    obtain ⟨b1, m1, d1, b2, m2, d2, b3, m3, d3, b4, m4, d4, rfl, h1, h2, h3, h4⟩ := hR.now
    have f1 := h1.len; have f2 := h2.len; have f3 := h3.len; have f4 := h4.len
    refine ⟨b1, m1, d1, hr 2 _ rfl, b2, m2, d2, hr 3 _ rfl, b3, m3, d3, hr 4 _ rfl, b4, m4, d4, hr 5 _ rfl, ?_⟩
    refine (turned14 h1 (Kept.refl _ _) (by omega)).mono ?_
    rintro _ t2 ⟨n1, j1, y1, rfl, q2, rw1⟩
    refine ⟨n1, j1, y1, rfl, ⟨q2.rd_some (hr 5 _ rfl) id, trivial⟩, ⟨q2.rd_some (hr 4 _ rfl) id, trivial⟩, ⟨q2.rd_some (hr 3 _ rfl) id, trivial⟩, ?_⟩
    refine (turned15 h2 q2 (by omega)).mono ?_
    rintro _ t3 ⟨n2, j2, y2, rfl, q3, rw2⟩
    have q13 := q2.tr q3
    refine ⟨n2, j2, y2, rfl, ⟨q13.rd_some (hr 5 _ rfl) id, trivial⟩, ⟨q13.rd_some (hr 4 _ rfl) id, trivial⟩, ?_⟩
    refine (turned12 h3 q13 (by omega)).mono ?_
    rintro _ t4 ⟨n3, j3, y3, rfl, q4, rw3⟩
    have q14 := q13.tr q4
    refine ⟨n3, j3, y3, rfl, ⟨q14.rd_some (hr 5 _ rfl) id, trivial⟩, ?_⟩
    refine (turned16 h4 q14 (by omega)).mono ?_
    rintro _ t5 ⟨n4, j4, y4, rfl, q5, rw4⟩
    have q15 := q14.tr q5
    have row5 := (row1.k q15).v Fut.stab q15
    have o5' := (ot.k q1).k q15
    have zz1 := q1.sz; have zz2 := q2.sz; have zz3 := q3.sz; have zz4 := q4.sz; have zz5 := q5.sz
    have u1 : ∀ w', Kept X3 t5 w' → SlR RPair 2 w' n1 j1 y1 p.leaves.reverse := fun w' k => (((rw1.k ((q3.tr q4).tr q5)).kx k fun b hb _ _ e => by have := X3hi b e; omega).cr (R' := RPair) (v' := w') fun _ _ h => h).sl RPair.stab (Kept.refl _ _)
    have u2 : ∀ w', Kept X3 t5 w' → SlR RMapped 3 w' n2 j2 y2 p.pages.reverse := fun w' k => (((rw2.k (q4.tr q5)).kx k fun b hb _ _ e => by have := X3hi b e; omega).cr (R' := RMapped) (v' := w') fun _ _ h => h).sl RMapped.stab (Kept.refl _ _)
    have u3 : ∀ w', Kept X3 t5 w' → SlR RInt 1 w' n3 j3 y3 p.pinned.reverse := fun w' k => (((rw3.k q5).kx k fun b hb _ _ e => by have := X3hi b e; omega).cr (R' := RInt) (v' := w') fun _ _ h => h).sl RInt.stab (Kept.refl _ _)
    have u4 : ∀ w', Kept X3 t5 w' → SlR RRun 3 w' n4 j4 y4 p.runs.reverse := fun w' k => ((rw4.kx k fun b hb _ _ e => by have := X3hi b e; omega).cr (R' := RRun) (v' := w') fun _ _ h => h).sl RRun.stab (Kept.refl _ _)
    have hself : ∀ (q : Proc) (L : List Proc), L.length = x.procs.length → (L.set i q)[i]? = some q := fun q L hL => by
      rw [List.getElem?_set_self]
      omega
    have hlen0 := half_len turnProc x.procs i
    obtain ⟨hw1, hs1⟩ := fut_set row5 X3B (u := .slice n1 j1 y1) (y := { p with leaves := p.leaves.reverse }) hh (j := 2) (by decide) (fun cs w' hcl k hR => by
      obtain ⟨_, _, _, e2, g2, r2, e3, g3, r3, e4, g4, r4, rfl, _, s2, s3, s4⟩ := hR
      exact ⟨n1, j1, y1, e2, g2, r2, e3, g3, r3, e4, g4, r4, rfl, u1 w' k, s2, s3, s4⟩)
    refine ⟨n4, j4, y4, rfl, hw1, fun t6 et6 => ?_⟩
    obtain ⟨row6, kb6⟩ := hs1 t6 et6
    have kX6 : Kept X3 t5 t6 := kb6.mono fun b _ hb => X3B b hb
    obtain ⟨hw2, hs2⟩ := fut_set row6 X3B (u := .slice n2 j2 y2) (y := { p with leaves := p.leaves.reverse, pages := p.pages.reverse }) (hself _ _ hlen0) (j := 3) (by decide) (fun cs w' hcl k hR => by
      obtain ⟨e1, g1, r1, _, _, _, e3, g3, r3, e4, g4, r4, rfl, s1, _, s3, s4⟩ := hR
      exact ⟨e1, g1, r1, n2, j2, y2, e3, g3, r3, e4, g4, r4, rfl, s1, u2 w' (kX6.trans k fun _ _ h => h), s3, s4⟩)
    refine ⟨hw2, fun t7 et7 => ?_⟩
    obtain ⟨row7, kb7⟩ := hs2 t7 et7
    rw [List.set_set] at row7
    have kX7 : Kept X3 t5 t7 := kX6.trans (kb7.mono fun b _ hb => X3B b hb) fun _ _ h => h
    obtain ⟨hw3, hs3⟩ := fut_set row7 X3B (u := .slice n3 j3 y3) (y := { p with leaves := p.leaves.reverse, pages := p.pages.reverse, pinned := p.pinned.reverse }) (hself _ _ hlen0) (j := 4) (by decide) (fun cs w' hcl k hR => by
      obtain ⟨e1, g1, r1, e2, g2, r2, _, _, _, e4, g4, r4, rfl, s1, s2, _, s4⟩ := hR
      exact ⟨e1, g1, r1, e2, g2, r2, n3, j3, y3, e4, g4, r4, rfl, s1, s2, u3 w' (kX7.trans k fun _ _ h => h), s4⟩)
    refine ⟨hw3, fun t8 et8 => ?_⟩
    obtain ⟨row8, kb8⟩ := hs3 t8 et8
    rw [List.set_set] at row8
    have kX8 : Kept X3 t5 t8 := kX7.trans (kb8.mono fun b _ hb => X3B b hb) fun _ _ h => h
    obtain ⟨hw4, hs4⟩ := fut_set row8 X3B (u := .slice n4 j4 y4) (y := turnProc p) (hself _ _ hlen0) (j := 5) (by decide) (fun cs w' hcl k hR => by
      obtain ⟨e1, g1, r1, e2, g2, r2, e3, g3, r3, _, _, _, rfl, s1, s2, s3, _⟩ := hR
      exact ⟨e1, g1, r1, e2, g2, r2, e3, g3, r3, n4, j4, y4, rfl, s1, s2, s3, u4 w' (kX8.trans k fun _ _ h => h)⟩)
    refine ⟨hw4, fun t9 et9 => ?_⟩
    obtain ⟨row9, kb9⟩ := hs4 t9 et9
    rw [List.set_set, half_set turnProc hp] at row9
    have kX9 : Kept X3 t5 t9 := kX8.trans (kb9.mono fun b _ hb => X3B b hb) fun _ _ h => h
    have nY : ¬ (Value.slice aP lP cP).ownBlock = some Y := fun hb => by have := (gP _ hb).1; omega
    exact ⟨x.procs.length - (i + 1), by omega, i + 1, by rw [wi (by omega)]; rfl, by omega, rfl, ((kt.tr q1).tr q15).trans kX9 fun _ _ h => h, (((o5'.kx kb6 nY).kx kb7 nY).kx kb8 nY).kx kb9 nY, row9⟩
  have hil : i = x.procs.length := by simp at hc; omega
  subst hil
  rw [half_all] at rowt
  have FP := (rowt.cr (R' := RProc) (v' := t0) fun cs s h => h.now).sl RProc.stab (Kept.refl _ _)
  have kBt : Kept (· = Y) uB t0 := kB3.trans kt fun b hb hb2 => X3no b hb hb2
  have kAt : Kept (· = Y) uA t0 := kvB.trans kBt fun _ _ h => h
  have k14t : Kept (· = Y) w14 t0 := (k1416.trans kvA fun _ _ h => h).trans kAt fun _ _ h => h
  have k1t : Kept none' w1 t0 := own0 k1p3 kt fun b hb => by have := X3lo b hb; omega
  have cv : ∀ k, k < 13 → k ≠ 2 → k ≠ 5 → k ≠ 7 → (setS5 SB aP lP cP).v k = S4.v k := fun k hk n2 n5 n7 => by
    rw [setS5_v _ _ _ _ k hk n5, hrB k hk n2, hrA k hk n7, setS2_v _ _ _ _ k hk n2, setS7_v _ _ _ _ k hk n7]
  have PT := P1.k k1t
  have Py : PicR t0 (setS5 SB aP lP cP) (turnPic x) := by
    have e : ∀ k, k < 13 → k ≠ 2 → k ≠ 5 → k ≠ 7 → k ≠ 1 → k ≠ 6 → k ≠ 8 → k ≠ 9 → S4.v k = .slice (S.a k) (S.l k) (S.c k) := fun k hk n2 n5 n7 n1 n6 n8 n9 => by
      rw [← hS4]
      match k, hk, n1, n2, n5, n6, n7, n8, n9 with
      | 0, _, _, _, _, _, _, _, _ | 3, _, _, _, _, _, _, _, _ | 4, _, _, _, _, _, _, _, _ | 10, _, _, _, _, _, _, _, _ | 11, _, _, _, _, _, _, _, _ | 12, _, _, _, _, _, _, _, _ => rfl
    have c : ∀ k, k < 13 → k ≠ 2 → k ≠ 5 → k ≠ 7 → k ≠ 1 → k ≠ 6 → k ≠ 8 → k ≠ 9 → (setS5 SB aP lP cP).v k = .slice (S.a k) (S.l k) (S.c k) := fun k hk n2 n5 n7 n1 n6 n8 n9 => (cv k hk n2 n5 n7).trans (e k hk n2 n5 n7 n1 n6 n8 n9)
    refine ⟨slv (c 0 (by decide) (by decide) (by decide) (by decide) (by decide) (by decide) (by decide) (by decide)) PT.marks, slv ((cv 1 (by decide) (by decide) (by decide) (by decide)).trans (by rw [← hS4]; rfl)) (F1 t0 k14t), slv (k := 2) ((setS5_v _ _ _ _ 2 (by decide) (by decide)).trans hvB) (FFB t0 kBt), slv (c 3 (by decide) (by decide) (by decide) (by decide) (by decide) (by decide) (by decide) (by decide)) PT.flying, slv (c 4 (by decide) (by decide) (by decide) (by decide) (by decide) (by decide) (by decide) (by decide)) PT.flight, slv (k := 5) rfl FP, slv ((cv 6 (by decide) (by decide) (by decide) (by decide)).trans (by rw [← hS4]; rfl)) (F6 t0 k14t), slv (k := 7) (((setS5_v _ _ _ _ 7 (by decide) (by decide)).trans (hrB 7 (by decide) (by decide))).trans hvA) (FFA t0 kAt), slv ((cv 8 (by decide) (by decide) (by decide) (by decide)).trans (by rw [← hS4]; rfl)) (F8 t0 k14t), slv ((cv 9 (by decide) (by decide) (by decide) (by decide)).trans hv9) (FS t0 k14t), slv (c 10 (by decide) (by decide) (by decide) (by decide) (by decide) (by decide) (by decide) (by decide)) PT.mags, slv (c 11 (by decide) (by decide) (by decide) (by decide) (by decide) (by decide) (by decide) (by decide)) PT.depots, slv (c 12 (by decide) (by decide) (by decide) (by decide) (by decide) (by decide) (by decide) (by decide)) PT.holders⟩
  intro t1 et1
  have q1 : Kept none' t0 t1 := (Kept.refl _ _).dr et1
  have k1t1 := k1t.tr q1
  have oy1 := ot.k q1
  refine ⟨x.c, S.a 0, S.l 0, S.c 0, S.a 1, S.l 1, S.c 1, S.a 2, S.l 2, S.c 2, S.a 3, S.l 3, S.c 3, S.a 4, S.l 4, S.c 4, S.a 5, S.l 5, S.c 5, S.a 6, S.l 6, S.c 6, S.a 7, S.l 7, S.c 7, S.a 8, S.l 8, S.c 8, S.a 9, S.l 9, S.c 9, S.a 10, S.l 10, S.c 10, S.a 11, S.l 11, S.c 11, S.a 12, S.l 12, S.c 12, (o1.k k1t1).rdAll (vs := picC S x.c) 0 (fun j _ => by rw [Nat.zero_add]), x.c, (setS5 SB aP lP cP).a 0, (setS5 SB aP lP cP).l 0, (setS5 SB aP lP cP).c 0, (setS5 SB aP lP cP).a 1, (setS5 SB aP lP cP).l 1, (setS5 SB aP lP cP).c 1, (setS5 SB aP lP cP).a 2, (setS5 SB aP lP cP).l 2, (setS5 SB aP lP cP).c 2, (setS5 SB aP lP cP).a 3, (setS5 SB aP lP cP).l 3, (setS5 SB aP lP cP).c 3, (setS5 SB aP lP cP).a 4, (setS5 SB aP lP cP).l 4, (setS5 SB aP lP cP).c 4, (setS5 SB aP lP cP).a 5, (setS5 SB aP lP cP).l 5, (setS5 SB aP lP cP).c 5, (setS5 SB aP lP cP).a 6, (setS5 SB aP lP cP).l 6, (setS5 SB aP lP cP).c 6, (setS5 SB aP lP cP).a 7, (setS5 SB aP lP cP).l 7, (setS5 SB aP lP cP).c 7, (setS5 SB aP lP cP).a 8, (setS5 SB aP lP cP).l 8, (setS5 SB aP lP cP).c 8, (setS5 SB aP lP cP).a 9, (setS5 SB aP lP cP).l 9, (setS5 SB aP lP cP).c 9, (setS5 SB aP lP cP).a 10, (setS5 SB aP lP cP).l 10, (setS5 SB aP lP cP).c 10, (setS5 SB aP lP cP).a 11, (setS5 SB aP lP cP).l 11, (setS5 SB aP lP cP).c 11, (setS5 SB aP lP cP).a 12, (setS5 SB aP lP cP).l 12, (setS5 SB aP lP cP).c 12, oy1.rdAll (vs := picC (setS5 SB aP lP cP) x.c) 0 (fun j _ => by rw [Nat.zero_add]), ?_⟩
  refine (check_spec (P1.k k1t1) (hz.k (k1.tr k1t1)) hrg (fun _ => sm)).mono ?_
  rintro _ t2 ⟨ra, rl, rc, L, rfl, q2, hL, hno, hyes⟩
  have q02 := q1.tr q2
  refine ⟨ra, rl, rc, rfl, ⟨(ot.k q02).rdAll (vs := picC (setS5 SB aP lP cP) x.c) 0 (fun j _ => by rw [Nat.zero_add]), trivial⟩, ?_⟩
  refine (check_spec (x := turnPic x) (Py.k q02) (hz.k (k1.tr (k1t.tr q02))) (fun s hs => by
    obtain ⟨s0, hs0, rfl⟩ := mem_slabs.1 hs
    exact hrg s0 hs0) (fun _ => smy)).mono ?_
  rintro _ t3 ⟨ra2, rl2, rc2, L2, rfl, q3, hL2, hno2, hyes2⟩
  have hEq : L = L2 := by
    by_cases hS : ShapeP x
    · obtain ⟨r1, h1, rfl⟩ := hyes hS
      obtain ⟨r2, h2, rfl⟩ := hyes2 ((shape_iff x).2 hS)
      exact faults_turn h1 h2
    · rw [hno hS, hno2 fun h => hS ((shape_iff x).1 h)]
  subst hEq
  refine ⟨ra2, rl2, rc2, rfl, ?_⟩
  refine (same_spec (hL.k RFault.stab q3) hL2).mono ?_
  rintro _ t4 ⟨rfl, q4⟩
  exact ⟨true, rfl, Wif_yes rfl (known_b hz (k1.tr (k1t.tr ((q02.tr q3).tr q4))))⟩
end Go.Proofs.YtikjgeenhbnkkaaGreatDoor
