/-
  A part of a proof that a law of this seat returns true at every input. Conditions: those in each theorem.
-/
import Derived.Test.YtikjgeenhbnkkaaGreatDoorAC1
import Derived.Test.YtikjgeenhbnkkaaGreatDoorAU3
set_option linter.unusedSimpArgs false
set_option linter.unusedVariables false
set_option maxRecDepth 100000
namespace Go.Proofs.YtikjgeenhbnkkaaGreatDoor
open Go Eng
def ProcP (c : Nat → Int) (F : Int) (p : Proc) : Prop := FrP F p.root ∧ (∀ l ∈ p.leaves, FrP F l.2) ∧ (∀ q ∈ p.pinned, PgP q) ∧ ∀ m ∈ p.pages, EnP c F m
def BlP (F : Int) (b : Int × Int) : Prop := 0 ≤ b.2 ∧ b.2 ≤ 10 ∧ 0 ≤ b.1 ∧ b.1 ≤ F ∧ b.1 + 2 ^ b.2.toNat ≤ F
section
variable {w : World} {z b : Nat} {c : Nat → Int} {F : Int} {L : List Slab} (h : ShAt w z c F L) (hb : rd w b 0 = some (pt z))
include h
theorem lists_spec {a : Option Addr} {l k : Nat} {xs : List (List (Int × Int))} (hs : SlR (RL RPair 2) 1 w a l k xs) : Calls Tryz.prog 48 #[pt z, .slice a l k] w (Tells w (xs.length = 8 ∧ ∀ m ∈ xs, ∀ o ∈ m, ObP L o)) := by
  refine (vc48 (some ⟨z, 0, none⟩) a l k w (TellsV w (xs.length = 8 ∧ ∀ m ∈ xs, ∀ o ∈ m, ObP L o)) ?_).mono fun e w' => tells_of
  unfold vcP48
  intro w1 e1
  have o1 := own_alloc (c := [pt z]) e1
  have k1 : Kept none' w w1 := (Kept.refl _ _).al e1
  have hlen := hs.len
  refine Wif_intro (fun hc => ?_) (fun hc => ?_)
  · have hc : l = 8 := by simp at hc; omega
    refine (allP_objs (P := fun m => ∀ o ∈ m, ObP L o) rfl (hs.k (RL.stab RPair.stab) k1) ?_).mono ?_
    · rintro x w' cs _ kk ⟨a', l', c', rfl, hx⟩
      exact CallsV.mk 94 #[] #[pt w.heap.size] rfl (by kernel_rfl) (c94_spec ((h.k k1).k kk) (by rw [(o1.k kk).rd]; rfl) hx)
    · rintro _ w2 ⟨u, rfl, k2, hu⟩
      exact ⟨u, rfl, u, rfl, k1.tr k2, hu.trans ⟨fun g => ⟨by omega, g⟩, fun g => g.2⟩⟩
  · have hc : l ≠ 8 := by
      intro g
      subst g
      simp at hc
    exact ⟨false, rfl, k1, ⟨fun g => by simp at g, fun g => absurd g.1 (by omega)⟩⟩
include hb
theorem c81_spec (m : Mapped) : Calls Tryz.prog 81 #[.agg #[vi m.page, .int .u8 m.kind, vi m.n], pt b] w (Tells w (EnP c F m)) := by
  refine (vc81 m.page m.kind m.n (some ⟨b, 0, none⟩) w (TellsV w (EnP c F m)) ?_).mono fun e w' => tells_of
  unfold vcP81
  intro w1 e1
  have o1 := own_alloc (c := [vi m.page, .int .u8 m.kind, vi m.n]) e1
  have k1 : Kept none' w w1 := (Kept.refl _ _).al e1
  refine ⟨m.page, by rw [o1.rd]; rfl, (page_spec _).mono ?_⟩
  rintro _ w2 ⟨u, rfl, k2, hu⟩
  have o2 := o1.k k2
  have k12 := k1.tr k2
  refine ⟨u, rfl, m.kind, fun _ => by rw [o2.rd]; rfl, ?_⟩
  rw [isP_some, gIf_true]
  refine ⟨_, fun _ => k12.rd_some hb id, m.n, fun _ => by rw [o2.rd]; rfl, Wif_intro (fun hc => ?_) (fun hc => ?_)⟩
  · have hp := hu.1 hc
    refine Wif_intro (fun h1 => ?_) (fun h1 => ?_)
    · have h1 : m.kind ≠ 1 := by simpa using h1
      refine ⟨m.kind, by rw [o2.rd]; rfl, ?_⟩
      refine ⟨_, fun _ => k12.rd_some hb id, m.n, fun _ => by rw [o2.rd]; rfl, Wif_intro (fun h2 => ?_) (fun h2 => ?_)⟩
      · have h2 : m.kind ≠ 2 := by simpa using h2
        exact ⟨true, rfl, k12, ⟨fun _ => ⟨hp, .inl h1, .inl h2⟩, fun _ => rfl⟩⟩
      · have h2 : m.kind = 2 := by simpa using h2
        refine (slot_spec (h.k k12) _).mono ?_
        rintro _ w3 ⟨v, rfl, k3, hv⟩
        exact ⟨v, rfl, v, rfl, k12.tr k3, hv.trans ⟨fun g => ⟨hp, .inl h1, .inr g⟩, fun g => g.2.2.resolve_left fun n => n h2⟩⟩
    · have h1 : m.kind = 1 := by simpa using h1
      refine (frame_spec (h.k k12) _).mono ?_
      rintro _ w3 ⟨v, rfl, k3, hv⟩
      have o3 := o2.k k3
      have k13 := k12.tr k3
      refine ⟨v, rfl, m.kind, fun _ => by rw [o3.rd]; rfl, ?_⟩
      refine ⟨_, fun _ => k13.rd_some hb id, m.n, fun _ => by rw [o3.rd]; rfl, Wif_intro (fun h3 => ?_) (fun h3 => ?_)⟩
      · refine Wif_yes (by simp [h1]) ?_
        exact ⟨true, rfl, k13, ⟨fun _ => ⟨hp, .inr (hv.1 h3), .inl (by omega)⟩, fun _ => rfl⟩⟩
      · exact ⟨false, rfl, k13, ⟨fun g => by simp at g, fun g => by rw [hv.2 (g.2.1.resolve_left fun n => n h1)] at h3; exact absurd h3 (by simp)⟩⟩
  · exact ⟨false, rfl, k12, ⟨fun g => by simp at g, fun g => by rw [hu.2 g.1] at hc; exact absurd hc (by simp)⟩⟩
omit hb
theorem process_spec {p : Proc} {cs : List Value} (hp : RProc w cs p) : Calls Tryz.prog 34 #[pt z, valC cs] w (Tells w (ProcP c F p)) := by
  obtain ⟨a1, l1, c1, a2, l2, c2, a3, l3, c3, a4, l4, c4, rfl, h1, h2, h3, h4⟩ := hp
  refine (vc34 (some ⟨z, 0, none⟩) p.pid p.root a1 l1 c1 a2 l2 c2 a3 l3 c3 a4 l4 c4 w (TellsV w (ProcP c F p)) ?_).mono fun e w' => tells_of
  unfold vcP34
  intro w1 e1 w2 e2
  have ob1 := own_alloc (c := [pt z]) e1
  have k1 : Kept none' w w1 := (Kept.refl _ _).al e1
  have op2 := own_alloc (c := [vi p.pid, vi p.root, .slice a1 l1 c1, .slice a2 l2 c2, .slice a3 l3 c3, .slice a4 l4 c4]) e2
  have ob2 := ob1.al e2
  have k2 : Kept none' w w2 := k1.al e2
  refine ⟨_, by rw [ob2.rd]; rfl, p.root, by rw [op2.rd]; rfl, (frame_spec (h.k k2) _).mono ?_⟩
  rintro _ w3 ⟨u3, rfl, k23, hu3⟩
  have k3 := k2.tr k23
  have op3 := op2.k k23
  have ob3 := ob2.k k23
  refine ⟨u3, rfl, a1, l1, c1, fun _ => by rw [op3.rd]; rfl, Wif_intro (fun t3 => ?_) (fun t3 => ?_)⟩
  rotate_left
  · exact ⟨false, rfl, k3, ⟨fun g => by simp at g, fun g => by rw [hu3.2 g.1] at t3; exact absurd t3 (by simp)⟩⟩
  refine (allP_leaf (P := fun l => FrP F l.2) rfl (h1.k RPair.stab k3) ?_).mono ?_
  · intro x w' cs _ kk hr
    obtain rfl : cs = [vi x.1, vi x.2] := hr
    exact CallsV.mk 79 #[] #[pt w.heap.size] rfl (by kernel_rfl) (c79_spec ((h.k k3).k kk) (by rw [(ob3.k kk).rd]; rfl) x)
  rintro _ w4 ⟨u4, rfl, k34, hu4⟩
  have k4 := k3.tr k34
  have op4 := op3.k k34
  have ob4 := ob3.k k34
  refine ⟨u4, rfl, a3, l3, c3, fun _ => by rw [op4.rd]; rfl, Wif_intro (fun t4 => ?_) (fun t4 => ?_)⟩
  rotate_left
  · exact ⟨false, rfl, k4, ⟨fun g => by simp at g, fun g => by rw [hu4.2 g.2.1] at t4; exact absurd t4 (by simp)⟩⟩
  refine (allP_int (P := PgP) rfl (h3.k RInt.stab k4) ?_).mono ?_
  · intro x w' cs _ kk hr
    obtain rfl : cs = [vi x] := hr
    exact CallsV.mk 54 #[] #[] rfl (by kernel_rfl) (page_spec x)
  rintro _ w5 ⟨u5, rfl, k45, hu5⟩
  have k5 := k4.tr k45
  have op5 := op4.k k45
  have ob5 := ob4.k k45
  refine ⟨u5, rfl, a2, l2, c2, fun _ => by rw [op5.rd]; rfl, Wif_intro (fun t5 => ?_) (fun t5 => ?_)⟩
  rotate_left
  · exact ⟨false, rfl, k5, ⟨fun g => by simp at g, fun g => by rw [hu5.2 g.2.2.1] at t5; exact absurd t5 (by simp)⟩⟩
  refine (allP_mapped (P := EnP c F) rfl (h2.k RMapped.stab k5) ?_).mono ?_
  · intro x w' cs _ kk hr
    obtain rfl : cs = [vi x.page, .int .u8 x.kind, vi x.n] := hr
    exact CallsV.mk 81 #[] #[pt w.heap.size] rfl (by kernel_rfl) (c81_spec ((h.k k5).k kk) (by rw [(ob5.k kk).rd]; rfl) x)
  rintro _ w6 ⟨u6, rfl, k56, hu6⟩
  exact ⟨u6, rfl, u6, rfl, k5.tr k56, hu6.trans ⟨fun g => ⟨hu3.1 t3, hu4.1 t4, hu5.1 t5, g⟩, fun g => g.2.2.2⟩⟩
include hb
theorem block_spec (hF : F ≤ 1024) (x : Int × Int) : Calls Tryz.prog 38 #[.agg #[vi x.1, vi x.2], pt b] w (Tells w (BlP F x)) := by
  refine (vc38 x.1 x.2 (some ⟨b, 0, none⟩) w (TellsV w (BlP F x)) ?_).mono fun e w' => tells_of
  unfold vcP38
  intro w1 e1 w2 e2
  have o1 := (own_alloc (c := [vi x.1, vi x.2]) e1).dr e2
  have k1 : Kept none' w w2 := ((Kept.refl _ _).al e1).dr e2
  have hr0 : rd w2 w.heap.size 0 = some (vi x.1) := by rw [o1.rd]; rfl
  have hr1 : rd w2 w.heap.size 1 = some (vi x.2) := by rw [o1.rd]; rfl
  have hbz := k1.rd_some hb id
  have hfr := (h.k k1).fr
  refine ⟨x.2, hr1, x.2, fun _ => hr1, x.1, fun _ => hr0, x.1, fun _ => hr0, ?_⟩
  refine gIf_intro (fun _ => rfl) ⟨_, fun _ => hbz, gIf_intro (fun _ => rfl) ⟨F, fun _ => hfr, x.1, fun _ => hr0, x.2, fun _ => hr1, gIf_intro (fun g => ?_) (gIf_intro (fun _ => rfl) ⟨_, fun _ => hbz, gIf_intro (fun _ => rfl) ⟨F, fun _ => hfr, _, rfl, k1, ?_⟩⟩)⟩⟩
  · simp at g ⊢
    exact g.1.1.1
  · unfold BlP
    simp only [Bool.and_eq_true, decide_eq_true_eq]
    have e : ∀ n : Nat, n ≤ 10 → IntKind.wrap .i64 (1 * 2 ^ min n 64) = 2 ^ n ∧ (2 : Int) ^ n ≤ 1024 := by decide
    constructor
    · rintro ⟨⟨⟨⟨g1, g2⟩, g3⟩, g4⟩, g5⟩
      obtain ⟨e1, e2⟩ := e x.2.toNat (by omega)
      have e3 : (0 : Int) ≤ 2 ^ x.2.toNat := Int.le_of_lt (Int.pow_pos (by decide))
      rw [e1, wi (by omega)] at g5
      exact ⟨g1, g2, g3, g4, g5⟩
    · rintro ⟨g1, g2, g3, g4, g5⟩
      obtain ⟨e1, e2⟩ := e x.2.toNat (by omega)
      have e3 : (0 : Int) ≤ 2 ^ x.2.toNat := Int.le_of_lt (Int.pow_pos (by decide))
      refine ⟨⟨⟨⟨g1, g2⟩, g3⟩, g4⟩, ?_⟩
      rw [e1, wi (by omega)]
      exact g5
end
end Go.Proofs.YtikjgeenhbnkkaaGreatDoor
set_option linter.unusedSimpArgs false
set_option linter.unusedVariables false
set_option maxRecDepth 100000
namespace Go.Proofs.YtikjgeenhbnkkaaGreatDoor
open Go Eng
def sz (k : Nat) : Int := [8, 16, 24, 40, 56, 72, 104, 128].getD k 1
theorem sz_pos (k : Nat) : 0 < sz k := by
  match k with
  | 0 | 1 | 2 | 3 | 4 | 5 | 6 | 7 => decide
  | k + 8 => simp [sz]
def SizR (w : World) : Prop := ∀ i, i < 8 → rd w 0 i = some (vi (sz i))
theorem SizR.k {w w' : World} (h : SizR w) (k : Kept none' w w') : SizR w' := fun i hi => k.rd_some (h i hi) id
def InP (n i : Int) : Prop := 0 ≤ i ∧ i < n
def NodeP (c : Nat → Int) (n : Int) (fr : Int) : Prop := ∃ i : Nat, n = i ∧ (i : Int) < c 0 ∧ fstF c i ≤ fr ∧ fr < fstF c (i + 1)
def SlbN (c : Nat → Int) (s : Slab) : Prop := NodeP c s.node s.frame ∧ (0 ≤ s.cls ∧ s.cls < 8) ∧ (0 ≤ s.colour ∧ s.colour ≤ 256) ∧ s.count = (256 - s.colour) / sz s.cls.toNat
def SlbP (c : Nat → Int) (s : Slab) : Prop := SlbN c s ∧ (∀ i ∈ s.chain, InP s.count i) ∧ ∀ a ∈ s.alive, InP s.count a.1
theorem c97_spec {w : World} {b : Nat} {n : Int} (hb : rd w b 4 = some (vi n)) (i : Int) : Calls Tryz.prog 97 #[vi i, pt b] w (Tells w (InP n i)) := by
  refine (vc97 i (some ⟨b, 0, none⟩) w (TellsV w (InP n i)) ?_).mono fun e w' => tells_of
  unfold vcP97
  rw [isP_some, gIf_true]
  exact ⟨n, fun _ => hb, _, rfl, Kept.refl _ _, by simp [InP]⟩
theorem c99_spec {w : World} {b b' : Nat} {n : Int} (hb : rd w b 4 = some (vi n)) (hf : rd w b' 0 = some (.func (.func 97) #[] #[pt b])) (x : Int × Int) : Calls Tryz.prog 99 #[.agg #[vi x.1, .int .u64 x.2], pt b'] w (Tells w (InP n x.1)) := by
  refine (vc99 x.1 x.2 (some ⟨b', 0, none⟩) w (TellsV w (InP n x.1)) ?_).mono fun e w' => tells_of
  unfold vcP99
  intro w1 e1
  have o1 := own_alloc (c := [vi x.1, .int .u64 x.2]) e1
  have k1 : Kept none' w w1 := (Kept.refl _ _).al e1
  refine Wif_yes rfl ⟨_, k1.rd_some hf id, x.1, by rw [o1.rd]; rfl, CallsV.mk 97 #[] #[pt b] rfl (by kernel_rfl) ((c97_spec (k1.rd_some hb id) x.1).mono ?_)⟩
  rintro _ w2 ⟨u, rfl, k2, hu⟩
  exact ⟨u, rfl, u, rfl, k1.tr k2, hu⟩
theorem slab_spec {w : World} {z : Nat} {c : Nat → Int} {F : Int} {L : List Slab} (h : ShAt w z c F L) (hm : MayP c) (hz : SizR w) {s : Slab} (hin : s ∈ L) {cs : List Value} (hp : RSlab w cs s) : Calls Tryz.prog 50 #[pt z, valC cs] w (Tells w (SlbP c s)) := by
  obtain ⟨a1, l1, c1, a2, l2, c2, rfl, h1, h2⟩ := hp
  have hrg : -9223372036854775808 ≤ s.frame ∧ s.frame ≤ 9223372036854775807 := by
    obtain ⟨m, _, hM⟩ := h.cn
    exact hM.rg (s.frame, vi s.count) (List.mem_map.2 ⟨s, hin, rfl⟩)
  refine (vc50 (some ⟨z, 0, none⟩) s.node s.cls s.frame s.colour s.count a1 l1 c1 a2 l2 c2 w (TellsV w (SlbP c s)) ?_).mono fun e w' => tells_of
  unfold vcP50
  intro w1 e1 w2 e2
  have o2 := (own_alloc (c := [vi s.node, vi s.cls, vi s.frame, vi s.colour, vi s.count, .slice a1 l1 c1, .slice a2 l2 c2]) e1).dr e2
  have k2 : Kept none' w w2 := ((Kept.refl _ _).al e1).dr e2
  generalize hB : w.heap.size = B at *
  refine Wif_yes rfl ⟨c, rdAll_of _ _ _ fun j hj => ?_, s.frame, by rw [o2.rd]; rfl, (node_spec c hm w2 s.frame hrg.2).mono ?_⟩
  · rw [runI_len] at hj
    rw [runI_get _ _ _ _ _ hj, Nat.zero_add]
    have := (h.k k2).cf j hj
    rw [show po (some ⟨z, 0, none⟩) + j = j from Nat.zero_add j]
    exact this
  rintro e w3 ⟨k23, hn⟩
  have hq : ∃ n n1 : Int, e = .returned (.tuple #[vi n, vi n1]) ∧ ((n1 = 0 ∧ NodeP c n s.frame) ∨ (n1 ≠ 0 ∧ ∀ n, ¬ NodeP c n s.frame)) := by
    rcases hn with ⟨i, g1, g2, g3, rfl⟩ | ⟨g, rfl⟩
    · exact ⟨i, 0, rfl, .inl ⟨rfl, i, rfl, g1, g2, g3⟩⟩
    · refine ⟨0, 7, rfl, .inr ⟨by decide, ?_⟩⟩
      rintro n ⟨i, rfl, g1, g2, g3⟩
      have f0 := (hm.fst (k := i) (by omega)).1
      have f1 := fstF_mono hm (i := i + 1) (k := (c 0).toNat) (by omega) (by have := hm.1; omega)
      rcases g with g | g <;> omega
  obtain ⟨n, n1, rfl, hq⟩ := hq
  clear hn
  refine ⟨n, n1, rfl, ?_⟩
  intro w4 e4
  have k24 := k23.dr e4
  have o4 := o2.k k24
  have k4 := k2.tr k24
  have r (j : Nat) : rd w4 B j = [vi s.node, vi s.cls, vi s.frame, vi s.colour, vi s.count, .slice a1 l1 c1, .slice a2 l2 c2][j]? := o4.rd j
  refine ⟨s.node, fun _ => r 0, s.cls, fun _ => r 1, s.cls, fun _ => r 1, s.colour, fun _ => r 3, s.colour, fun _ => r 3, s.count, fun _ => r 4, s.colour, fun _ => r 3, s.cls, fun _ => r 1, ?_⟩
  have hG : ((n1 != 0 || s.node != n || decide (s.cls < 0) || decide (s.cls ≥ 8) || decide (s.colour < 0) || decide (s.colour > 256)) = false) ↔ (n1 = 0 ∧ s.node = n ∧ (0 ≤ s.cls ∧ s.cls < 8) ∧ (0 ≤ s.colour ∧ s.colour ≤ 256)) := by
    simp only [Bool.or_eq_false_iff, bne_eq_false_iff_eq, decide_eq_false_iff_not]
    omega
  have hN : (NodeP c s.node s.frame) ↔ (n1 = 0 ∧ s.node = n) := by
    rcases hq with ⟨g1, g2⟩ | ⟨g1, g2⟩
    · refine ⟨fun g => ⟨g1, ?_⟩, fun g => g.2 ▸ g2⟩
      obtain ⟨i, e1, q1, q2, q3⟩ := g2
      obtain ⟨i', e1', q1', q2', q3'⟩ := g
      have := node_one hm q1 q1' q2 q3 q2' q3'
      omega
    · exact ⟨fun g => absurd g (g2 _), fun g => absurd g.1 g1⟩
  generalize hg : (n1 != 0 || s.node != n || decide (s.cls < 0) || decide (s.cls ≥ 8) || decide (s.colour < 0) || decide (s.colour > 256)) = G at *
  refine gIf_intro (fun g => ?_) ⟨sz s.cls.toNat, fun g => ?_, gIf_intro (fun g => ?_) (Wif_intro (fun bad => ?_) (fun good => ?_))⟩
  · obtain ⟨_, _, q, _⟩ := hG.1 g
    exact inB_of (by omega) (by omega)
  · obtain ⟨_, _, q, _⟩ := hG.1 g
    rw [Nat.zero_add, Nat.mul_one]
    exact (hz.k k4) _ (by omega)
  · have := sz_pos s.cls.toNat
    simp; omega
  · refine ⟨false, rfl, k4, ⟨fun g => by simp at g, ?_⟩⟩
    rintro ⟨⟨g1, g2, g3, g4⟩, -⟩
    have hGf := hG.2 ⟨(hN.1 g1).1, (hN.1 g1).2, g2, g3⟩
    rw [hGf, Bool.false_or] at bad
    have p1 := sz_pos s.cls.toNat
    have p2 : 0 ≤ (256 - s.colour) / sz s.cls.toNat := Int.ediv_nonneg (by omega) (by omega)
    have p3 : (256 - s.colour) / sz s.cls.toNat ≤ 256 - s.colour := Int.ediv_le_self _ (by omega)
    rw [wi (x := 256 - s.colour) (by omega), Int.tdiv_eq_ediv_of_nonneg (by omega), wi (by omega), ← g4] at bad
    simp at bad
  · rw [Bool.or_eq_false_iff] at good
    obtain ⟨q1, q2, q3, q4⟩ := hG.1 good.1
    have hSN : SlbN c s := by
      refine ⟨hN.2 ⟨q1, q2⟩, q3, q4, ?_⟩
      have p1 := sz_pos s.cls.toNat
      have p2 : 0 ≤ (256 - s.colour) / sz s.cls.toNat := Int.ediv_nonneg (by omega) (by omega)
      have p3 : (256 - s.colour) / sz s.cls.toNat ≤ 256 - s.colour := Int.ediv_le_self _ (by omega)
      have good := good.2
      rw [wi (x := 256 - s.colour) (by omega), Int.tdiv_eq_ediv_of_nonneg (by omega), wi (by omega)] at good
      simpa using good
    intro w5 e5
    have of5 := own_alloc (c := [.nilFunc]) e5
    have o5 := o4.al e5
    have k5 := k4.al e5
    refine ⟨of5.wr (by decide), ?_⟩
    intro w6 e6
    have hne : B ≠ w4.heap.size := o4.ne_new
    have of6 := of5.s1 e6
    have o6 := o5.n1 e6 hne
    have hsz : w.heap.size ≤ w4.heap.size := k4.sz
    have k6 := k5.s1 e6 (.inr hsz)
    refine ⟨a1, l1, c1, by rw [o6.rd]; rfl, _, by rw [of6.rd]; rfl, (allP_int (P := InP s.count) rfl (h1.k RInt.stab k6) ?_).mono ?_⟩
    · intro x w' cs _ kk hr
      obtain rfl : cs = [vi x] := hr
      exact CallsV.mk 97 #[] #[pt B] rfl (by kernel_rfl) (c97_spec (by rw [(o6.k kk).rd]; rfl) x)
    rintro _ w7 ⟨u7, rfl, k67, hu7⟩
    have o7 := o6.k k67
    have of7 := of6.k k67
    have k7 := k6.tr k67
    refine ⟨u7, rfl, a2, l2, c2, fun _ => by rw [o7.rd]; rfl, Wif_intro (fun t7 => ?_) (fun t7 => ?_)⟩
    · refine (allP_alive (P := fun a => InP s.count a.1) rfl (h2.k RAlive.stab k7) ?_).mono ?_
      · intro x w' cs _ kk hr
        obtain rfl : cs = [vi x.1, .int .u64 x.2] := hr
        exact CallsV.mk 99 #[] #[pt w4.heap.size] rfl (by kernel_rfl) (c99_spec (b := B) (by rw [(o7.k kk).rd]; rfl) (by rw [(of7.k kk).rd]; rfl) x)
      rintro _ w8 ⟨u8, rfl, k78, hu8⟩
      exact ⟨u8, rfl, u8, rfl, k7.tr k78, hu8.trans ⟨fun g => ⟨hSN, hu7.1 t7, g⟩, fun g => g.2.2⟩⟩
    · exact ⟨false, rfl, k7, ⟨fun g => by simp at g, fun g => by rw [hu7.2 g.2.1] at t7; exact absurd t7 (by simp)⟩⟩
end Go.Proofs.YtikjgeenhbnkkaaGreatDoor
set_option linter.unusedSimpArgs false
set_option linter.unusedVariables false
set_option maxRecDepth 100000
namespace Go.Proofs.YtikjgeenhbnkkaaGreatDoor
open Go Eng
theorem all_procB {X : Nat → Prop} {J : Nat → World → Prop} {B : Nat → World → Prop} {w0 w : World} {a : Option Addr} {l c : Nat} {xs : List (Proc)} {v : Value} (hv : v.cells = #[v]) (hX : ∀ x, X x → x < w.heap.size) (hs : SlR RProc 6 w0 a l c xs) (hK : ∀ w', Kept X w w' → Kept none' w0 w') (h0 : ∀ w', Kept none' w w' → J 0 w') (hJ : ∀ i w1 w2, J i w1 → Kept none' w1 w2 → J i w2)
    (hp : ∀ (i : Nat) (x : Proc) (w' : World) (cs : List Value), xs[i]? = some x → Kept X w w' → (RProc) w0 cs x → J i w' → CallsV Tryz.prog v [valC cs] w' fun e w'' => ∃ b : Bool, e = .returned (.bool b) ∧ Kept X w' w'' ∧ (b = true → J (i + 1) w'') ∧ (b = false → B i w'')) :
    Calls Tryz.prog 51 #[.slice a l c, v] w fun r w' => ∃ b : Bool, r = .returned (.bool b) ∧ Kept X w w' ∧ (b = true → J xs.length w') ∧ (b = false → ∃ i, i < xs.length ∧ B i w') := by
  refine (vc51 a l c v w (fun u w' => ∃ b : Bool, u = .bool b ∧ Kept X w w' ∧ (b = true → J xs.length w') ∧ (b = false → ∃ i, i < xs.length ∧ B i w')) ?_).mono ?_
  · unfold vcP51
    rw [hv]
    intro w1 e1
    have ob1 := own_alloc (c := [v]) e1
    have k1 : Kept none' w w1 := (Kept.refl _ _).al e1
    refine ⟨fun n k w' M => ∃ i : Nat, k = (i : Int) ∧ i ≤ xs.length ∧ M = xs.length - i ∧ Kept X w w' ∧ own w' w.heap.size [v] ∧ J i w', ⟨xs.length, 0, rfl, by omega, rfl, k1.mono fun _ _ h => h.elim, ob1, h0 w1 k1⟩, ?_⟩
    rintro n _ w2 _ ⟨i, rfl, hi, rfl, k2, ob2, hj⟩
    have kz := hK w2 k2
    have hlen := hs.len
    have h63 := hs.lt63
    refine Wif_intro (fun hc => ?_) (fun hc => ?_)
    · have hil : i < xs.length := by simp at hc; omega
      obtain ⟨x, hx⟩ : ∃ x, xs[i]? = some x := ⟨xs[i], List.getElem?_eq_getElem hil⟩
      obtain ⟨cs, hcs, hRx, hr⟩ := hs.el i x hx
      have hr := fun j u hu => kz.rd_some (hr j u hu) id
      have hq := hp i x w2 cs hx k2 hRx hj
      have hR2 := hRx
      refine Wif_yes (hs.isp (by omega)) (Wif_yes (inB_of (by omega) (by omega)) ?_)
      rw [Int.toNat_natCast]
      obtain ⟨a1, l1, c1, a2, l2, c2, a3, l3, c3, a4, l4, c4, rfl, hx1, hx2, hx3, hx4⟩ := hRx
      refine ⟨_, _, _, _, _, _, _, _, _, _, _, _, _, _, ⟨hr 0 _ rfl, hr 1 _ rfl, hr 2 _ rfl, hr 3 _ rfl, hr 4 _ rfl, hr 5 _ rfl⟩, (vc101 _ _ _ _ _ _ _ _ _ _ _ _ _ _ (some ⟨w.heap.size, 0, none⟩) w2 (fun u w' => ∃ b : Bool, u = .bool (!b) ∧ Kept X w2 w' ∧ (b = true → J (i + 1) w') ∧ (b = false → B i w')) ?_).mono ?_⟩
      · unfold vcP101
        intro w3 e3
        have ox3 := own_alloc (c := [vi x.pid, vi x.root, .slice a1 l1 c1, .slice a2 l2 c2, .slice a3 l3 c3, .slice a4 l4 c4]) e3
        have k23 : Kept none' w2 w3 := (Kept.refl _ _).al e3
        have hq3 := hp i x w3 _ hx (k2.tr k23) hR2 (hJ _ _ _ hj k23)
        refine Wif_yes rfl ⟨v, by rw [show po (some ⟨w.heap.size, 0, none⟩) = 0 from rfl, show pb (some ⟨w.heap.size, 0, none⟩) = w.heap.size from rfl, (ob2.k k23).rd]; rfl, _, _, _, _, _, _, _, _, _, _, _, _, _, _, ⟨by rw [ox3.rd]; rfl, by rw [ox3.rd]; rfl, by rw [ox3.rd]; rfl, by rw [ox3.rd]; rfl, by rw [ox3.rd]; rfl, by rw [ox3.rd]; rfl⟩, CallsV.mono hq3 ?_⟩
        rintro e w4 ⟨b, rfl, k4, g1, g2⟩
        exact ⟨b, rfl, b, rfl, (k23.mono fun _ _ h => h.elim).trans k4 fun _ _ h => h, g1, g2⟩
      · rintro e w3 ⟨u, rfl, b, rfl, k3, g1, g2⟩
        have K3 : Kept X w w3 := k2.trans k3 fun _ _ h => h
        refine ⟨!b, rfl, ?_⟩
        cases b with
        | true =>
          refine Wif_no rfl ⟨xs.length - (i + 1), by omega, i + 1, by rw [wi (by omega)]; rfl, by omega, rfl, K3, ob2.kx k3 fun h => by have := hX _ h; omega, g1 rfl⟩
        | false =>
          refine Wif_yes rfl ⟨false, by simp, K3, fun h => (by cases h), fun _ => ⟨i, hil, g2 rfl⟩⟩
    · have hie : i = xs.length := by simp at hc; omega
      subst hie
      exact ⟨true, rfl, k2, fun _ => hj, fun h => by cases h⟩
  · rintro e w' ⟨u, rfl, b, rfl, hw⟩
    exact ⟨b, rfl, hw⟩
end Go.Proofs.YtikjgeenhbnkkaaGreatDoor
set_option linter.unusedSimpArgs false
set_option linter.unusedVariables false
set_option maxRecDepth 100000
namespace Go.Proofs.YtikjgeenhbnkkaaGreatDoor
open Go Eng
def RiseP (c : Nat → Int) (F : Int) : Int → List Proc → Prop
  | _, [] => True
  | last, p :: ps => ((last < p.pid ∧ p.pid ≤ 8) ∧ ProcP c F p) ∧ RiseP c F p.pid ps
theorem ShAt.kb {w w' : World} {z b : Nat} {c : Nat → Int} {F : Int} {L : List Slab} {v : Value} (h : ShAt w z c F L) (o : own w b [v]) (k : Kept (· = b) w w') : ShAt w' z c F L := by
  have hz : z ≠ b := by
    rintro rfl
    have := h.fr
    rw [o.rd] at this
    simp at this
  refine ⟨fun i hi => k.rd_some (h.cf i hi) hz, k.rd_some h.fr hz, ?_⟩
  obtain ⟨m, h1, h2⟩ := h.cn
  refine ⟨m, k.rd_some h1 hz, h2.kx k ?_⟩
  rintro rfl
  obtain ⟨es, cl, g, _⟩ := h2.ex
  obtain ⟨t, g'⟩ := o
  rw [g] at g'
  cases g'
theorem rise_spec {w : World} {z b1 b2 : Nat} {c : Nat → Int} {F : Int} {L : List Slab} (h : ShAt w z c F L) {last : Int} (o1 : own w b1 [vi last]) (hb2 : rd w b2 0 = some (pt z)) {p : Proc} {cs : List Value} (hp : RProc w cs p) (hpk : ∀ w', Kept (· = b1) w w' → RProc w' cs p) :
    Calls Tryz.prog 33 #[valC cs, pt b1, pt b2] w fun r w' => ∃ b : Bool, r = .returned (.bool b) ∧ Kept (· = b1) w w' ∧ own w' b1 [vi p.pid] ∧ (b = true ↔ (last < p.pid ∧ p.pid ≤ 8) ∧ ProcP c F p) := by
  obtain ⟨a1, l1, c1, a2, l2, c2, a3, l3, c3, a4, l4, c4, rfl, h1, h2, h3, h4⟩ := hp
  refine (vc33 p.pid p.root a1 l1 c1 a2 l2 c2 a3 l3 c3 a4 l4 c4 (some ⟨b1, 0, none⟩) (some ⟨b2, 0, none⟩) w (fun v w' => ∃ b : Bool, v = .bool b ∧ Kept (· = b1) w w' ∧ own w' b1 [vi p.pid] ∧ (b = true ↔ (last < p.pid ∧ p.pid ≤ 8) ∧ ProcP c F p)) ?_).mono ?_
  · unfold vcP33
    intro w1 e1
    have op1 := own_alloc (c := [vi p.pid, vi p.root, .slice a1 l1 c1, .slice a2 l2 c2, .slice a3 l3 c3, .slice a4 l4 c4]) e1
    have ob1 := o1.al e1
    have k1 : Kept none' w w1 := (Kept.refl _ _).al e1
    have hne : w.heap.size ≠ b1 := fun g => by have := o1.lt; omega
    have hb21 : b2 ≠ b1 := by
      rintro rfl
      rw [o1.rd] at hb2
      simp at hb2
    have r0 : rd w1 w.heap.size 0 = some (vi p.pid) := by rw [op1.rd]; rfl
    refine ⟨p.pid, r0, Wif_yes rfl ⟨last, by rw [show po (some ⟨b1, 0, none⟩) = 0 from rfl, show pb (some ⟨b1, 0, none⟩) = b1 from rfl, ob1.rd]; rfl, p.pid, fun _ => r0, p.pid, r0, Wif_yes rfl ⟨ob1.wr (Nat.zero_lt_one), ?_⟩⟩⟩
    intro w2 e2
    have ob2 := ob1.s1 e2
    have op2 := op1.n1 e2 hne
    have k12 : Kept (· = b1) w1 w2 := (Kept.refl _ _).s1 e2 (.inl rfl)
    have k2 : Kept (· = b1) w w2 := (k1.mono fun _ _ g => g.elim).trans k12 fun _ _ g => g
    have h2' := (h.k k1).kb ob1 k12
    have r (j : Nat) : rd w2 w.heap.size j = [vi p.pid, vi p.root, .slice a1 l1 c1, .slice a2 l2 c2, .slice a3 l3 c3, .slice a4 l4 c4][j]? := op2.rd j
    refine gIf_intro (fun _ => rfl) ⟨some ⟨z, 0, none⟩, fun _ => k2.rd_some hb2 hb21, p.pid, p.root, a1, l1, c1, a2, l2, c2, a3, l3, c3, a4, l4, c4, fun _ => ⟨r 0, r 1, r 2, r 3, r 4, r 5⟩, Wif_intro (fun hc => ?_) (fun hc => ?_)⟩
    · simp at hc
      refine (process_spec h2' (hpk w2 k2)).mono ?_
      rintro _ w3 ⟨u, rfl, k3, hu⟩
      exact ⟨u, rfl, u, rfl, k2.tr k3, ob2.k k3, hu.trans ⟨fun g => ⟨by omega, g⟩, fun g => g.2⟩⟩
    · refine ⟨false, rfl, k2, ob2, ⟨fun g => by simp at g, fun g => ?_⟩⟩
      have hc' : ¬ (p.pid > last ∧ p.pid ≤ 8) := by simpa using hc
      exact absurd ⟨by omega, by omega⟩ hc'
  · rintro e w' ⟨v, rfl, b, rfl, hw⟩
    exact ⟨b, rfl, hw⟩
theorem rise_all {w0 w : World} {z b1 b2 : Nat} {c : Nat → Int} {F : Int} {L : List Slab} (h : ShAt w z c F L) (o1 : own w b1 [vi 0]) (hb2 : rd w b2 0 = some (pt z)) {a : Option Addr} {l k : Nat} {xs : List Proc} (hs : SlR RProc 6 w0 a l k xs) (hK : ∀ w', Kept (· = b1) w w' → Kept none' w0 w') :
    Calls Tryz.prog 51 #[.slice a l k, .func (.func 33) #[] #[pt b1, pt b2]] w fun r w' => ∃ b : Bool, r = .returned (.bool b) ∧ Kept (· = b1) w w' ∧ (b = true ↔ RiseP c F 0 xs) := by
  have hb21 : b2 ≠ b1 := by
    rintro rfl
    rw [o1.rd] at hb2
    simp at hb2
  refine (all_procB (X := (· = b1)) (J := fun i w' => ShAt w' z c F L ∧ rd w' b2 0 = some (pt z) ∧ ∃ last, own w' b1 [vi last] ∧ (RiseP c F 0 xs ↔ RiseP c F last (xs.drop i))) (B := fun i w' => ¬ RiseP c F 0 xs) rfl (fun x hx => hx ▸ o1.lt) hs hK (fun w' k => ⟨h.k k, k.rd_some hb2 id, 0, o1.k k, by simp⟩) ?_ ?_).mono ?_
  · rintro i w1 w2 ⟨g1, g2, last, g3, g4⟩ k
    exact ⟨g1.k k, k.rd_some g2 id, last, g3.k k, g4⟩
  · rintro i x w1 cs hx k1 hr ⟨g1, g2, last, g3, g4⟩
    refine CallsV.mk 33 #[] #[pt b1, pt b2] rfl (by kernel_rfl) ((rise_spec g1 g3 g2 (RProc.stab _ _ _ _ hr (hK w1 k1)) fun w2 k2 => RProc.stab _ _ _ _ hr (hK w2 (k1.trans k2 fun _ _ g => g))).mono ?_)
    rintro _ w2 ⟨b, rfl, k2, o2, hb⟩
    have hd : xs.drop i = x :: xs.drop (i + 1) := by
      obtain ⟨hi, rfl⟩ := List.getElem?_eq_some_iff.1 hx
      exact List.drop_eq_getElem_cons hi
    rw [hd] at g4
    refine ⟨b, rfl, k2, fun hbt => ⟨g1.kb g3 k2, k2.rd_some g2 hb21, x.pid, o2, g4.trans ⟨fun g => g.2, fun g => ⟨hb.1 hbt, g⟩⟩⟩, fun hbf hn => ?_⟩
    rw [hb.2 (g4.1 hn).1] at hbf
    exact absurd hbf (by simp)
  · rintro e w' ⟨b, rfl, k, ht, hf⟩
    refine ⟨b, rfl, k, fun g => ?_, fun g => ?_⟩
    · obtain ⟨_, _, last, _, g4⟩ := ht g
      rw [List.drop_length] at g4
      exact g4.2 trivial
    · cases b with
      | true => rfl
      | false =>
        obtain ⟨i, _, hn⟩ := hf rfl
        exact absurd g hn
end Go.Proofs.YtikjgeenhbnkkaaGreatDoor
