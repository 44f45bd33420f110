/-
  A part of a proof that a law of this seat returns true at every input. Conditions: those in each theorem.
-/
import Derived.Test.YtikjgeenhbnkkaaGreatDoorBR8
import Derived.Test.YtikjgeenhbnkkaaGreatDoorA0
set_option linter.unusedSimpArgs false
set_option linter.unusedVariables false
set_option maxRecDepth 100000
namespace Go.Proofs.YtikjgeenhbnkkaaGreatDoor
open Go Eng
def turnSlab (s : Slab) : Slab := { s with chain := s.chain.reverse, alive := s.alive.reverse }
def turnProc (p : Proc) : Proc := { p with leaves := p.leaves.reverse, pages := p.pages.reverse, pinned := p.pinned.reverse, runs := p.runs.reverse }
def turnPic (x : Pic) : Pic := { x with free := x.free.reverse, frames := x.frames.reverse, slots := x.slots.reverse, slabs := x.slabs.reverse.map turnSlab, clocks := x.clocks.map List.reverse, held := x.held.map List.reverse, procs := x.procs.map turnProc }
theorem turnSlab2 (s : Slab) : turnSlab (turnSlab s) = s := by simp [turnSlab]
theorem turnProc2 (p : Proc) : turnProc (turnProc p) = p := by simp [turnProc]
theorem map_id2 {α : Type} {f : α → α} (h : ∀ a, f (f a) = a) (L : List α) : (L.map f).map f = L := by
  rw [List.map_map]
  conv => rhs; rw [← List.map_id L]
  exact List.map_congr_left fun a _ => h a
theorem turnPic2 (x : Pic) : turnPic (turnPic x) = x := by
  unfold turnPic
  simp only [List.reverse_reverse, map_id2 turnProc2, map_id2 (f := List.reverse) List.reverse_reverse, List.map_reverse, map_id2 turnSlab2]
theorem mem_slabs {x : Pic} {s : Slab} : s ∈ (turnPic x).slabs ↔ ∃ t ∈ x.slabs, turnSlab t = s := by
  show s ∈ x.slabs.reverse.map turnSlab ↔ _
  simp
theorem mem_procs {x : Pic} {p : Proc} : p ∈ (turnPic x).procs ↔ ∃ q ∈ x.procs, turnProc q = p := by
  show p ∈ x.procs.map turnProc ↔ _
  simp
theorem fm_perm {α β : Type} {f g : α → List β} : ∀ {L : List α}, (∀ a ∈ L, (f a).Perm (g a)) → (L.flatMap f).Perm (L.flatMap g)
  | [], _ => List.Perm.refl _
  | a :: L, h => by
    rw [List.flatMap_cons, List.flatMap_cons]
    exact (h a (by simp)).append (fm_perm fun b hb => h b (by simp [hb]))
theorem fm_map {α β γ : Type} (f : α → β) (g : β → List γ) (L : List α) : (L.map f).flatMap g = L.flatMap fun a => g (f a) := by
  induction L with
  | nil => rfl
  | cons a L ih => rw [List.map_cons, List.flatMap_cons, List.flatMap_cons, ih]
theorem adds_perm (x : Pic) : (addsP (turnPic x)).Perm (addsP x) := by
  unfold addsP
  refine List.Perm.append (List.Perm.append (List.Perm.append (List.Perm.append ?_ ?_) ?_) ?_) ?_
  · exact (List.reverse_perm x.free).flatMap_right _
  · show ((x.held.map List.reverse).flatMap _).Perm _
    rw [fm_map]
    exact fm_perm fun l _ => by rw [List.map_reverse]; exact List.reverse_perm _
  · show ((x.procs.map turnProc).flatMap _).Perm _
    rw [fm_map]
    exact fm_perm fun p _ => by
      refine List.Perm.cons _ ?_
      show (p.leaves.reverse.map _).Perm _
      rw [List.map_reverse]
      exact List.reverse_perm _
  · exact (List.reverse_perm x.frames).map _
  · show ((x.slabs.reverse.map turnSlab).map _).Perm _
    rw [List.map_map]
    exact (List.reverse_perm x.slabs).map _
theorem gOf_perm (x : Pic) (f : Nat) : (gOf (addsP (turnPic x)) f).Perm (gOf (addsP x) f) := ((adds_perm x).filter _).map _
theorem taken_perm (x : Pic) : (takenL (turnPic x)).Perm (takenL x) := (List.reverse_perm x.slots).map _
theorem used_perm (x : Pic) : (usedL (turnPic x)).Perm (usedL x) := by
  unfold usedL
  refine List.Perm.append (List.Perm.refl _) ?_
  show ((x.procs.map turnProc).flatMap _).Perm _
  rw [fm_map]
  refine fm_perm fun p _ => ?_
  show ((p.pages.reverse.filter _).map _).Perm _
  exact ((List.reverse_perm p.pages).filter _).map _
theorem many_perm (x : Pic) : (manyL (turnPic x)).Perm (manyL x) := by
  unfold manyL
  refine List.Perm.append (List.Perm.append ?_ (List.Perm.refl _)) (List.Perm.refl _)
  show ((x.slabs.reverse.map turnSlab).flatMap _).Perm _
  rw [fm_map]
  refine ((List.reverse_perm x.slabs).flatMap_right _).trans (fm_perm fun s _ => ?_)
  show (s.chain.reverse.map _ ++ s.alive.reverse.map _).Perm _
  exact ((List.reverse_perm _).map _).append ((List.reverse_perm _).map _)
theorem cn_perm {L M : List Int} (h : L.Perm M) (k : Int) : cn L k = cn M k := (h.filter _).length_eq
theorem cnO_perm {L M : List (Int × Int)} (h : L.Perm M) (k : Int × Int) : cnO L k = cnO M k := (h.filter _).length_eq
theorem sortI_perm {L M : List Int} (h : L.Perm M) : sortI L = sortI M := by
  unfold sortI
  have pw : ∀ L : List Int, (L.mergeSort fun x y => decide (x ≤ y)).Pairwise fun a b => decide (a ≤ b) = true := fun L =>
    List.pairwise_mergeSort (fun a b c h1 h2 => by simp at *; omega) (fun a b => by simp; omega) L
  refine List.Perm.eq_of_pairwise (le := fun a b => decide (a ≤ b) = true) ?_ (pw L) (pw M) (((List.mergeSort_perm L _).trans h).trans (List.mergeSort_perm M _).symm)
  intro a b _ _ h1 h2
  simp at h1 h2
  omega
theorem own_perm (x : Pic) (i : Nat) : (ownC (turnPic x) i).Perm (ownC x i) := ((List.reverse_perm x.frames).filter _).map _
theorem just_turn {L : List Own} {o : Own} (h : JustP L o) : JustP L.reverse o := by
  obtain ⟨h1, h2⟩ := h
  exact ⟨by rw [((List.reverse_perm L).filter _).length_eq]; exact h1, by simpa using h2⟩
theorem just_iff {L : List Own} {o : Own} : JustP L.reverse o ↔ JustP L o := ⟨fun h => by simpa using just_turn h, just_turn⟩
theorem right_turn {x : Pic} {p : Proc} {m : Mapped} : RightP (turnPic x) (turnProc p) m ↔ RightP x p m := by
  unfold RightP
  show ((∃ r ∈ p.runs.reverse, InRun m.page r) ∧ (_ ∧ JustP x.frames.reverse _ ∨ _ ∧ JustP x.slots.reverse _)) ↔ _
  rw [just_iff, just_iff]
  simp only [List.mem_reverse]
  exact Iff.rfl
theorem last_one {L : List Own} {f : Int} (h : (L.filter fun o => decide (o.n = f)).length = 1) : lastO L.reverse f = lastO L f := by
  unfold lastO
  rw [List.reverse_reverse]
  obtain ⟨o, ho⟩ := List.length_eq_one_iff.1 h
  have h1 : ∀ M : List Own, M.filter (fun o => decide (o.n = f)) = [o] → M.find? (fun o => decide (o.n = f)) = some o := fun M hM => by
    rw [← List.head?_filter, hM]
    rfl
  rw [h1 L ho, h1 L.reverse (by rw [List.filter_reverse, ho]; rfl)]
theorem page_one {x : Pic} {f : Nat} (h : gOf (addsP x) f = [3]) : (x.frames.filter fun o => decide (o.n = (f : Int))).length = 1 := by
  have h3 : ((gOf (addsP x) f).filter fun t => decide (t = 3)).length = 1 := by rw [h]; rfl
  have key : ((gOf (addsP x) f).filter fun t => decide (t = 3)).length = (x.frames.filter fun o => decide (o.n = (f : Int))).length := by
    unfold gOf addsP
    simp only [List.filter_append, List.map_append, List.length_append]
    have z : ∀ A : List (Int × Int), (∀ p ∈ A, p.2 ≠ 3) → (((A.filter fun p => decide (p.1 = (f : Int))).map Prod.snd).filter fun t => decide (t = 3)).length = 0 := fun A hA => by
      rw [List.length_eq_zero_iff, List.filter_eq_nil_iff]
      intro t ht
      obtain ⟨p, hp, rfl⟩ := List.mem_map.1 ht
      simpa using hA p (List.mem_filter.1 hp).1
    rw [z (freeA x.free) (fun p hp => ?_), z (heldA x.held) (fun p hp => ?_), z (procA x.procs) (fun p hp => ?_), z (slabA x.slabs) (fun p hp => ?_)]
    · simp only [pageA, List.filter_map, List.length_map, List.map_map, List.filter_filter, Nat.zero_add, Nat.add_zero]
      congr 1
    · obtain ⟨o, _, rfl⟩ := List.mem_map.1 hp
      simp
    · obtain ⟨q, _, hp⟩ := List.mem_flatMap.1 hp
      rcases List.mem_cons.1 hp with rfl | hp
      · simp
      · obtain ⟨l, _, rfl⟩ := List.mem_map.1 hp
        simp
    · obtain ⟨q, _, hp⟩ := List.mem_flatMap.1 hp
      obtain ⟨l, _, rfl⟩ := List.mem_map.1 hp
      simp
    · obtain ⟨q, _, hp⟩ := List.mem_flatMap.1 hp
      obtain ⟨l, _, rfl⟩ := List.mem_map.1 hp
      simp
  rw [← key, h3]
theorem marked_turn {x : Pic} {i : Nat} {t : Int} (h : gOf (addsP x) i = [t]) (hm : MarkedP (turnPic x) i t) : MarkedP x i t := by
  obtain ⟨m, h1, h2⟩ := hm
  refine ⟨m, h1, ?_⟩
  by_cases t0 : t = 0
  · subst t0; simpa using h2
  by_cases t1 : t = 1
  · subst t1; simpa using h2
  by_cases t2 : t = 2
  · subst t2; simpa using h2
  by_cases t3 : t = 3
  · subst t3
    have hl : lastO (turnPic x).frames (i : Int) = lastO x.frames i := last_one (page_one h)
    simp at h2 ⊢
    rw [hl] at h2
    exact h2
  · simp [t0, t1, t2, t3] at h2 ⊢
    refine ⟨h2.1, ?_⟩
    rcases h2.2 with ⟨s, hs, g1, g2⟩ | ⟨g1, g2⟩
    · obtain ⟨s0, hs0, rfl⟩ := mem_slabs.1 hs
      exact .inl ⟨s0, hs0, g1, g2⟩
    · exact .inr ⟨fun s hs => g1 (turnSlab s) (mem_slabs.2 ⟨s, hs, rfl⟩), g2⟩
theorem ob_turn {x : Pic} {o : Int × Int} (h : ObP x.slabs o) : ObP (turnPic x).slabs o := by
  obtain ⟨s, hs, h⟩ := h
  exact ⟨turnSlab s, mem_slabs.2 ⟨s, hs, rfl⟩, h⟩
theorem cls_turn {x : Pic} {f c : Int} : ClsIs (turnPic x) f c ↔ ClsIs x f c := by
  unfold ClsIs
  constructor
  · rintro (⟨s, hs, g1, g2⟩ | ⟨g1, g2⟩)
    · obtain ⟨s0, hs0, rfl⟩ := mem_slabs.1 hs
      exact .inl ⟨s0, hs0, g1, g2⟩
    · exact .inr ⟨fun s hs => g1 (turnSlab s) (mem_slabs.2 ⟨s, hs, rfl⟩), g2⟩
  · rintro (⟨s, hs, g1, g2⟩ | ⟨g1, g2⟩)
    · exact .inl ⟨turnSlab s, mem_slabs.2 ⟨s, hs, rfl⟩, g1, g2⟩
    · exact .inr ⟨fun s hs => by
        obtain ⟨s0, hs0, rfl⟩ := mem_slabs.1 hs
        exact g1 s0 hs0, g2⟩
theorem rise_turn {c : Nat → Int} {F : Int} : ∀ {last : Int} {ps : List Proc}, RiseP c F last ps → RiseP c F last (ps.map turnProc)
  | _, [], _ => trivial
  | last, p :: ps, h => by
    obtain ⟨⟨h1, h2, h3, h4, h5⟩, h6⟩ := h
    exact ⟨⟨h1, h2, fun l hl => h3 l (List.mem_reverse.1 hl), fun q hq => h4 q (List.mem_reverse.1 hq), fun m hm => h5 m (List.mem_reverse.1 hm)⟩, rise_turn h6⟩
theorem shape_turn {x : Pic} (h : ShapeP x) : ShapeP (turnPic x) := by
  obtain ⟨hm, hl, hnd, t1, t2, t3, t4, t5, t6, t7, t8, t9, t10, t11⟩ := h
  refine ⟨hm, ⟨hl.marks, ?_, hl.flying, hl.flight, hl.mags, ?_, hl.depots, hl.holders⟩, ?_, fun b hb => t1 b (List.mem_reverse.1 hb), fun l hl f hf => ?_, t3, fun l hl o ho => ob_turn (t4 l hl o ho), fun l hl => ⟨(t5 l hl).1, fun m hm o ho => ob_turn ((t5 l hl).2 m hm o ho)⟩, fun l hl f hf => ?_, fun l hl => ⟨(t7 l hl).1, fun m hm o ho => ob_turn ((t7 l hl).2 m hm o ho)⟩, fun s hs => ?_, rise_turn t9, fun o ho => t10 o (List.mem_reverse.1 ho), fun o ho => t11 o (List.mem_reverse.1 ho)⟩
  · show ((x.held.map List.reverse).length : Int) = _
    rw [List.length_map]
    exact hl.held
  · show ((x.clocks.map List.reverse).length : Int) = _
    rw [List.length_map]
    exact hl.clocks
  · show ((x.slabs.reverse.map turnSlab).map Slab.frame).Nodup
    rw [List.map_map]
    exact ((List.reverse_perm x.slabs).map _).nodup_iff.2 hnd
  · obtain ⟨l0, hl0, rfl⟩ := List.mem_map.1 hl
    exact t2 l0 hl0 f (List.mem_reverse.1 hf)
  · obtain ⟨l0, hl0, rfl⟩ := List.mem_map.1 hl
    exact t6 l0 hl0 f (List.mem_reverse.1 hf)
  · obtain ⟨s0, hs0, rfl⟩ := mem_slabs.1 hs
    obtain ⟨g1, g2, g3⟩ := t8 s0 hs0
    exact ⟨g1, fun i hi => g2 i (List.mem_reverse.1 hi), fun a ha => g3 a (List.mem_reverse.1 ha)⟩
theorem shape_iff (x : Pic) : ShapeP (turnPic x) ↔ ShapeP x := ⟨fun h => by have := shape_turn h; rwa [turnPic2] at this, shape_turn⟩
theorem look_turn {x : Pic} : ∀ i, i < 8 → ∀ n, lookF x i n → lookF (turnPic x) i n := by
  intro i hi n h
  match i, hi with
  | 0, _ =>
    obtain ⟨i, l, rfl, h1, h2⟩ := h
    rw [List.getElem?_map] at h1
    obtain ⟨j, hj, rfl⟩ := Option.map_eq_some_iff.1 h1
    refine ⟨i, gOf (addsP (turnPic x)) j, rfl, ?_, by rw [(gOf_perm x j).length_eq]; exact h2⟩
    show ((List.range x.marks.length).map _)[i]? = _
    rw [List.getElem?_map, hj]
    rfl
  | 1, _ =>
    obtain ⟨i, t, rfl, hi, h1, h2⟩ := h
    have hp := gOf_perm x i
    rw [h1] at hp
    exact ⟨i, t, rfl, hi, List.perm_singleton.1 hp, fun hm => h2 (marked_turn h1 hm)⟩
  | 2, _ =>
    rcases h with (⟨p, hp, rfl, h⟩ | ⟨o, ho, rfl, h⟩) | ⟨o, ho, rfl, h⟩
    · refine .inl (.inl ⟨turnProc p, mem_procs.2 ⟨p, hp, rfl⟩, rfl, ?_⟩)
      rcases h with h | ⟨m, hm, h⟩
      · refine .inl fun hnd => h ?_
        have : (p.pages.reverse.map Mapped.page).Nodup := hnd
        exact ((List.reverse_perm p.pages).map _).nodup_iff.1 this
      · exact .inr ⟨m, List.mem_reverse.2 hm, fun hr => h (right_turn.1 hr)⟩
    · refine .inl (.inr ⟨o, List.mem_reverse.2 ho, rfl, ?_⟩)
      rintro ⟨p, hp, h1, h2⟩
      obtain ⟨q, hq, rfl⟩ := mem_procs.1 hp
      exact h ⟨q, hq, h1, List.mem_reverse.1 h2⟩
    · refine .inr ⟨o, List.mem_reverse.2 ho, rfl, fun p hp => ?_⟩
      obtain ⟨q, hq, rfl⟩ := mem_procs.1 hp
      exact h q hq
  | 3, _ =>
    obtain ⟨h1, h2⟩ := h
    show (_ ∨ _) ∧ _
    rw [cn_perm (taken_perm x), cn_perm (used_perm x)]
    exact ⟨h1, h2⟩
  | 4, _ =>
    obtain ⟨i, cl, rfl, h1, h2⟩ := h
    refine ⟨i, cl.reverse, rfl, ?_, ?_⟩
    · show (x.clocks.map List.reverse)[i]? = _
      rw [List.getElem?_map, h1]
      rfl
    · rw [sortI_perm (own_perm x i), sortI_perm (List.reverse_perm cl)]
      exact h2
  | 5, _ =>
    rcases h with ⟨m, hm, cls, l, h1, o, ho, rfl, h2⟩ | ⟨s, hs, rfl, i, hi, h⟩
    · exact .inl ⟨m, hm, cls, l, h1, o, ho, rfl, fun hc => h2 (cls_turn.1 hc)⟩
    · exact .inr ⟨turnSlab s, mem_slabs.2 ⟨s, hs, rfl⟩, rfl, i, hi, by rw [cnO_perm (many_perm x)]; exact h⟩
  | 6, _ =>
    obtain ⟨p, hp, rfl, h1, q, hq, h2⟩ := h
    refine ⟨turnProc p, mem_procs.2 ⟨p, hp, rfl⟩, rfl, h1, q, List.mem_reverse.2 hq, ?_⟩
    rintro ⟨m, hm, h3⟩
    exact h2 ⟨m, List.mem_reverse.1 hm, h3⟩
  | 7, _ => exact h
theorem look_iff (x : Pic) {i : Nat} (hi : i < 8) (n : Int) : lookF (turnPic x) i n ↔ lookF x i n := ⟨fun h => by have := look_turn i hi n h; rwa [turnPic2] at this, look_turn i hi n⟩
theorem faults_turn {x : Pic} {r1 r2 : Nat → List Int} (h1 : RowsOk x r1 8) (h2 : RowsOk (turnPic x) r2 8) : faultsOf r1 8 = faultsOf r2 8 := by
  unfold faultsOf
  refine flatMap_congr' fun i hi => ?_
  have hi := List.mem_range.1 hi
  rw [sorted_ext (h1 i hi).1 (h2 i hi).1 fun n => by rw [(h1 i hi).2, (h2 i hi).2, look_iff x hi]]
end Go.Proofs.YtikjgeenhbnkkaaGreatDoor
set_option linter.unusedVariables false
set_option maxRecDepth 100000
namespace Go.Proofs.YtikjgeenhbnkkaaGreatDoor
open Go Go.Eng
open Go.Value (slice)
/- byre/byrelaw28.turned[byre/api.Slab] -/
def vcP11 (l : Option Addr) (lL : Nat) (lC : Nat) (w : World) (K : Value → World → Prop) : Prop := ∃ (I : Option Addr → Nat → Nat → Int → World → Nat → Prop), (∃ (n : Nat), I none 0 0 0 w n) ∧ ∀ (a : Option Addr) (l_1 c : Nat) (n : Int) (w' : World) (n_1 : Nat), I a l_1 c n w' n_1 → Wif (decide (n < (↑lL : Int))) (Wif (isP l) (Wif (inB (IntKind.wrap .i64 (IntKind.wrap .i64 ((↑lL : Int) - 1) - n)) lL) (∃ (x x_1 x_2 x_3 x_4 : Int) (x_5 : Option Addr) (x_6 x_7 : Nat) (x_8 : Option Addr) (x_9 x_10 : Nat), (rd w' (pb l) (po l + Int.toNat (IntKind.wrap .i64 (IntKind.wrap .i64 ((↑lL : Int) - 1) - n)) * 7) = some (.int .i64 x) ∧ rd w' (pb l) (po l + Int.toNat (IntKind.wrap .i64 (IntKind.wrap .i64 ((↑lL : Int) - 1) - n)) * 7 + 1) = some (.int .i64 x_1) ∧ rd w' (pb l) (po l + Int.toNat (IntKind.wrap .i64 (IntKind.wrap .i64 ((↑lL : Int) - 1) - n)) * 7 + 2) = some (.int .i64 x_2) ∧ rd w' (pb l) (po l + Int.toNat (IntKind.wrap .i64 (IntKind.wrap .i64 ((↑lL : Int) - 1) - n)) * 7 + 3) = some (.int .i64 x_3) ∧ rd w' (pb l) (po l + Int.toNat (IntKind.wrap .i64 (IntKind.wrap .i64 ((↑lL : Int) - 1) - n)) * 7 + 4) = some (.int .i64 x_4) ∧ rd w' (pb l) (po l + Int.toNat (IntKind.wrap .i64 (IntKind.wrap .i64 ((↑lL : Int) - 1) - n)) * 7 + 5) = some (.slice x_5 x_6 x_7) ∧ rd w' (pb l) (po l + Int.toNat (IntKind.wrap .i64 (IntKind.wrap .i64 ((↑lL : Int) - 1) - n)) * 7 + 6) = some (.slice x_8 x_9 x_10)) ∧ ∀ (w'_1 : World), w'_1 = World.alloc w' (Obj.cells #[Value.int .i64 x, Value.int .i64 x_1, Value.int .i64 x_2, Value.int .i64 x_3, Value.int .i64 x_4, slice x_5 x_6 x_7, slice x_8 x_9 x_10] 55) → ∃ (a_1 : Option Addr) (l c_1 : Nat) (w'_2 : World), appIs Tryz.prog #[34, 34] 34 (slice a l_1 c) (slice (some (Addr.mk w'.heap.size 0 none)) 1 1) (slice a_1 l c_1) w'_1 w'_2 ∧ ∃ (m : Nat), Nat.succ m ≤ n_1 ∧ I a_1 l c_1 (IntKind.wrap .i64 (n + 1)) w'_2 m) False) False) (K (slice a l_1 c) w')
theorem vcE11 (l : Option Addr) (lL : Nat) (lC : Nat) (w : World) (K : Value → World → Prop) : vcP11 l lL lC w K = Eng.wBody Tryz.prog (Eng.handOf Tryz.prog [] 1) [] Tryz.f11 (Eng.bodyOf Tryz.f11) [slice l lL lC] w K := by kernel_rfl
theorem vc11 (l : Option Addr) (lL : Nat) (lC : Nat) (w : World) (K : Value → World → Prop) (h : vcP11 l lL lC w K) : Calls Tryz.prog 11 #[slice l lL lC] w (fun e w' => ∃ v, e = .returned v ∧ K v w') := Eng.vc_of [] 1 [] Tryz.mixes Tryz.func11 (by kernel_rfl) (by kernel_rfl) (vcE11 l lL lC w K) h
end Go.Proofs.YtikjgeenhbnkkaaGreatDoor
set_option linter.unusedVariables false
set_option maxRecDepth 100000
namespace Go.Proofs.YtikjgeenhbnkkaaGreatDoor
open Go Go.Eng
open Go.Value (slice)
/- byre/byreref28.Same -/
def vcP17 (a : Option Addr) (aL : Nat) (aC : Nat) (b : Option Addr) (bL : Nat) (bC : Nat) (w : World) (K : Value → World → Prop) : Prop := Wif ((↑aL : Int) != (↑bL : Int)) (K (Value.bool false) w) (∃ (I : Bool → Int → World → Nat → Prop), (∃ (n : Nat), I false 0 w n) ∧ ∀ (b_1 : Bool) (n : Int) (w' : World) (n_1 : Nat), I b_1 n w' n_1 → Wif (decide (n < (↑aL : Int))) (∀ (w1 : World), w1 = World.drew w' → Wif (isP a) (Wif (inB n aL) (∃ (x x_1 : Int), (rd w1 (pb a) (po a + Int.toNat n * 2) = some (.int .u8 x) ∧ rd w1 (pb a) (po a + Int.toNat n * 2 + 1) = some (.int .i64 x_1)) ∧ Wif (isP b) (Wif (inB n bL) (∃ (x_2 x_3 : Int), (rd w1 (pb b) (po b + Int.toNat n * 2) = some (.int .u8 x_2) ∧ rd w1 (pb b) (po b + Int.toNat n * 2 + 1) = some (.int .i64 x_3)) ∧ Wif (!(x == x_2 && (x_1 == x_3 && true))) (K (Value.bool false) w1) (∃ (m : Nat), Nat.succ m ≤ n_1 ∧ I b_1 (IntKind.wrap .i64 (n + 1)) w1 m)) False) False) False) False) (K (Value.bool true) w'))
theorem vcE17 (a : Option Addr) (aL : Nat) (aC : Nat) (b : Option Addr) (bL : Nat) (bC : Nat) (w : World) (K : Value → World → Prop) : vcP17 a aL aC b bL bC w K = Eng.wBody Tryz.prog (Eng.handOf Tryz.prog [] 1) [] Tryz.f17 (Eng.bodyOf Tryz.f17) [slice a aL aC, slice b bL bC] w K := by kernel_rfl
theorem vc17 (a : Option Addr) (aL : Nat) (aC : Nat) (b : Option Addr) (bL : Nat) (bC : Nat) (w : World) (K : Value → World → Prop) (h : vcP17 a aL aC b bL bC w K) : Calls Tryz.prog 17 #[slice a aL aC, slice b bL bC] w (fun e w' => ∃ v, e = .returned v ∧ K v w') := Eng.vc_of [] 1 [] Tryz.mixes Tryz.func17 (by kernel_rfl) (by kernel_rfl) (vcE17 a aL aC b bL bC w K) h
/- byre/byrelaw28.turned[byre/api.Block] -/
def vcP9 (l : Option Addr) (lL : Nat) (lC : Nat) (w : World) (K : Value → World → Prop) : Prop := ∃ (I : Option Addr → Nat → Nat → Int → World → Nat → Prop), (∃ (n : Nat), I none 0 0 0 w n) ∧ ∀ (a : Option Addr) (l_1 c : Nat) (n : Int) (w' : World) (n_1 : Nat), I a l_1 c n w' n_1 → Wif (decide (n < (↑lL : Int))) (Wif (isP l) (Wif (inB (IntKind.wrap .i64 (IntKind.wrap .i64 ((↑lL : Int) - 1) - n)) lL) (∃ (x x_1 : Int), (rd w' (pb l) (po l + Int.toNat (IntKind.wrap .i64 (IntKind.wrap .i64 ((↑lL : Int) - 1) - n)) * 2) = some (.int .i64 x) ∧ rd w' (pb l) (po l + Int.toNat (IntKind.wrap .i64 (IntKind.wrap .i64 ((↑lL : Int) - 1) - n)) * 2 + 1) = some (.int .i64 x_1)) ∧ ∀ (w'_1 : World), w'_1 = World.alloc w' (Obj.cells #[Value.int .i64 x, Value.int .i64 x_1] 43) → ∃ (a_1 : Option Addr) (l c_1 : Nat) (w'_2 : World), appIs Tryz.prog #[28, 28] 28 (slice a l_1 c) (slice (some (Addr.mk w'.heap.size 0 none)) 1 1) (slice a_1 l c_1) w'_1 w'_2 ∧ ∃ (m : Nat), Nat.succ m ≤ n_1 ∧ I a_1 l c_1 (IntKind.wrap .i64 (n + 1)) w'_2 m) False) False) (K (slice a l_1 c) w')
theorem vcE9 (l : Option Addr) (lL : Nat) (lC : Nat) (w : World) (K : Value → World → Prop) : vcP9 l lL lC w K = Eng.wBody Tryz.prog (Eng.handOf Tryz.prog [] 1) [] Tryz.f9 (Eng.bodyOf Tryz.f9) [slice l lL lC] w K := by kernel_rfl
theorem vc9 (l : Option Addr) (lL : Nat) (lC : Nat) (w : World) (K : Value → World → Prop) (h : vcP9 l lL lC w K) : Calls Tryz.prog 9 #[slice l lL lC] w (fun e w' => ∃ v, e = .returned v ∧ K v w') := Eng.vc_of [] 1 [] Tryz.mixes Tryz.func9 (by kernel_rfl) (by kernel_rfl) (vcE9 l lL lC w K) h
/- byre/byrelaw28.turned[byre/api.Owned] -/
def vcP10 (l : Option Addr) (lL : Nat) (lC : Nat) (w : World) (K : Value → World → Prop) : Prop := ∃ (I : Option Addr → Nat → Nat → Int → World → Nat → Prop), (∃ (n : Nat), I none 0 0 0 w n) ∧ ∀ (a : Option Addr) (l_1 c : Nat) (n : Int) (w' : World) (n_1 : Nat), I a l_1 c n w' n_1 → Wif (decide (n < (↑lL : Int))) (Wif (isP l) (Wif (inB (IntKind.wrap .i64 (IntKind.wrap .i64 ((↑lL : Int) - 1) - n)) lL) (∃ (x x_1 x_2 : Int), (rd w' (pb l) (po l + Int.toNat (IntKind.wrap .i64 (IntKind.wrap .i64 ((↑lL : Int) - 1) - n)) * 3) = some (.int .i64 x) ∧ rd w' (pb l) (po l + Int.toNat (IntKind.wrap .i64 (IntKind.wrap .i64 ((↑lL : Int) - 1) - n)) * 3 + 1) = some (.int .i64 x_1) ∧ rd w' (pb l) (po l + Int.toNat (IntKind.wrap .i64 (IntKind.wrap .i64 ((↑lL : Int) - 1) - n)) * 3 + 2) = some (.int .i64 x_2)) ∧ ∀ (w'_1 : World), w'_1 = World.alloc w' (Obj.cells #[Value.int .i64 x, Value.int .i64 x_1, Value.int .i64 x_2] 63) → ∃ (a_1 : Option Addr) (l c_1 : Nat) (w'_2 : World), appIs Tryz.prog #[33, 33] 33 (slice a l_1 c) (slice (some (Addr.mk w'.heap.size 0 none)) 1 1) (slice a_1 l c_1) w'_1 w'_2 ∧ ∃ (m : Nat), Nat.succ m ≤ n_1 ∧ I a_1 l c_1 (IntKind.wrap .i64 (n + 1)) w'_2 m) False) False) (K (slice a l_1 c) w')
theorem vcE10 (l : Option Addr) (lL : Nat) (lC : Nat) (w : World) (K : Value → World → Prop) : vcP10 l lL lC w K = Eng.wBody Tryz.prog (Eng.handOf Tryz.prog [] 1) [] Tryz.f10 (Eng.bodyOf Tryz.f10) [slice l lL lC] w K := by kernel_rfl
theorem vc10 (l : Option Addr) (lL : Nat) (lC : Nat) (w : World) (K : Value → World → Prop) (h : vcP10 l lL lC w K) : Calls Tryz.prog 10 #[slice l lL lC] w (fun e w' => ∃ v, e = .returned v ∧ K v w') := Eng.vc_of [] 1 [] Tryz.mixes Tryz.func10 (by kernel_rfl) (by kernel_rfl) (vcE10 l lL lC w K) h
/- byre/byrelaw28.turned[int] -/
def vcP12 (l : Option Addr) (lL : Nat) (lC : Nat) (w : World) (K : Value → World → Prop) : Prop := ∃ (I : Option Addr → Nat → Nat → Int → World → Nat → Prop), (∃ (n : Nat), I none 0 0 0 w n) ∧ ∀ (a : Option Addr) (l_1 c : Nat) (n : Int) (w' : World) (n_1 : Nat), I a l_1 c n w' n_1 → Wif (decide (n < (↑lL : Int))) (Wif (isP l) (Wif (inB (IntKind.wrap .i64 (IntKind.wrap .i64 ((↑lL : Int) - 1) - n)) lL) (∃ (x : Int), rd w' (pb l) (po l + Int.toNat (IntKind.wrap .i64 (IntKind.wrap .i64 ((↑lL : Int) - 1) - n)) * 1) = some (.int .i64 x) ∧ ∀ (w'_1 : World), w'_1 = World.alloc w' (Obj.cells #[Value.int .i64 x] 3) → ∃ (a_1 : Option Addr) (l c_1 : Nat) (w'_2 : World), appIs Tryz.prog #[31, 31] 31 (slice a l_1 c) (slice (some (Addr.mk w'.heap.size 0 none)) 1 1) (slice a_1 l c_1) w'_1 w'_2 ∧ ∃ (m : Nat), Nat.succ m ≤ n_1 ∧ I a_1 l c_1 (IntKind.wrap .i64 (n + 1)) w'_2 m) False) False) (K (slice a l_1 c) w')
theorem vcE12 (l : Option Addr) (lL : Nat) (lC : Nat) (w : World) (K : Value → World → Prop) : vcP12 l lL lC w K = Eng.wBody Tryz.prog (Eng.handOf Tryz.prog [] 1) [] Tryz.f12 (Eng.bodyOf Tryz.f12) [slice l lL lC] w K := by kernel_rfl
theorem vc12 (l : Option Addr) (lL : Nat) (lC : Nat) (w : World) (K : Value → World → Prop) (h : vcP12 l lL lC w K) : Calls Tryz.prog 12 #[slice l lL lC] w (fun e w' => ∃ v, e = .returned v ∧ K v w') := Eng.vc_of [] 1 [] Tryz.mixes Tryz.func12 (by kernel_rfl) (by kernel_rfl) (vcE12 l lL lC w K) h
/- byre/byrelaw28.turned[byre/api.Alive] -/
def vcP13 (l : Option Addr) (lL : Nat) (lC : Nat) (w : World) (K : Value → World → Prop) : Prop := ∃ (I : Option Addr → Nat → Nat → Int → World → Nat → Prop), (∃ (n : Nat), I none 0 0 0 w n) ∧ ∀ (a : Option Addr) (l_1 c : Nat) (n : Int) (w' : World) (n_1 : Nat), I a l_1 c n w' n_1 → Wif (decide (n < (↑lL : Int))) (Wif (isP l) (Wif (inB (IntKind.wrap .i64 (IntKind.wrap .i64 ((↑lL : Int) - 1) - n)) lL) (∃ (x x_1 : Int), (rd w' (pb l) (po l + Int.toNat (IntKind.wrap .i64 (IntKind.wrap .i64 ((↑lL : Int) - 1) - n)) * 2) = some (.int .i64 x) ∧ rd w' (pb l) (po l + Int.toNat (IntKind.wrap .i64 (IntKind.wrap .i64 ((↑lL : Int) - 1) - n)) * 2 + 1) = some (.int .u64 x_1)) ∧ ∀ (w'_1 : World), w'_1 = World.alloc w' (Obj.cells #[Value.int .i64 x, Value.int .u64 x_1] 71) → ∃ (a_1 : Option Addr) (l c_1 : Nat) (w'_2 : World), appIs Tryz.prog #[53, 53] 53 (slice a l_1 c) (slice (some (Addr.mk w'.heap.size 0 none)) 1 1) (slice a_1 l c_1) w'_1 w'_2 ∧ ∃ (m : Nat), Nat.succ m ≤ n_1 ∧ I a_1 l c_1 (IntKind.wrap .i64 (n + 1)) w'_2 m) False) False) (K (slice a l_1 c) w')
theorem vcE13 (l : Option Addr) (lL : Nat) (lC : Nat) (w : World) (K : Value → World → Prop) : vcP13 l lL lC w K = Eng.wBody Tryz.prog (Eng.handOf Tryz.prog [] 1) [] Tryz.f13 (Eng.bodyOf Tryz.f13) [slice l lL lC] w K := by kernel_rfl
theorem vc13 (l : Option Addr) (lL : Nat) (lC : Nat) (w : World) (K : Value → World → Prop) (h : vcP13 l lL lC w K) : Calls Tryz.prog 13 #[slice l lL lC] w (fun e w' => ∃ v, e = .returned v ∧ K v w') := Eng.vc_of [] 1 [] Tryz.mixes Tryz.func13 (by kernel_rfl) (by kernel_rfl) (vcE13 l lL lC w K) h
/- byre/byrelaw28.turned[byre/api.Leaf] -/
def vcP14 (l : Option Addr) (lL : Nat) (lC : Nat) (w : World) (K : Value → World → Prop) : Prop := ∃ (I : Option Addr → Nat → Nat → Int → World → Nat → Prop), (∃ (n : Nat), I none 0 0 0 w n) ∧ ∀ (a : Option Addr) (l_1 c : Nat) (n : Int) (w' : World) (n_1 : Nat), I a l_1 c n w' n_1 → Wif (decide (n < (↑lL : Int))) (Wif (isP l) (Wif (inB (IntKind.wrap .i64 (IntKind.wrap .i64 ((↑lL : Int) - 1) - n)) lL) (∃ (x x_1 : Int), (rd w' (pb l) (po l + Int.toNat (IntKind.wrap .i64 (IntKind.wrap .i64 ((↑lL : Int) - 1) - n)) * 2) = some (.int .i64 x) ∧ rd w' (pb l) (po l + Int.toNat (IntKind.wrap .i64 (IntKind.wrap .i64 ((↑lL : Int) - 1) - n)) * 2 + 1) = some (.int .i64 x_1)) ∧ ∀ (w'_1 : World), w'_1 = World.alloc w' (Obj.cells #[Value.int .i64 x, Value.int .i64 x_1] 75) → ∃ (a_1 : Option Addr) (l c_1 : Nat) (w'_2 : World), appIs Tryz.prog #[44, 44] 44 (slice a l_1 c) (slice (some (Addr.mk w'.heap.size 0 none)) 1 1) (slice a_1 l c_1) w'_1 w'_2 ∧ ∃ (m : Nat), Nat.succ m ≤ n_1 ∧ I a_1 l c_1 (IntKind.wrap .i64 (n + 1)) w'_2 m) False) False) (K (slice a l_1 c) w')
theorem vcE14 (l : Option Addr) (lL : Nat) (lC : Nat) (w : World) (K : Value → World → Prop) : vcP14 l lL lC w K = Eng.wBody Tryz.prog (Eng.handOf Tryz.prog [] 1) [] Tryz.f14 (Eng.bodyOf Tryz.f14) [slice l lL lC] w K := by kernel_rfl
theorem vc14 (l : Option Addr) (lL : Nat) (lC : Nat) (w : World) (K : Value → World → Prop) (h : vcP14 l lL lC w K) : Calls Tryz.prog 14 #[slice l lL lC] w (fun e w' => ∃ v, e = .returned v ∧ K v w') := Eng.vc_of [] 1 [] Tryz.mixes Tryz.func14 (by kernel_rfl) (by kernel_rfl) (vcE14 l lL lC w K) h
/- byre/byrelaw28.turned[byre/api.Mapped] -/
def vcP15 (l : Option Addr) (lL : Nat) (lC : Nat) (w : World) (K : Value → World → Prop) : Prop := ∃ (I : Option Addr → Nat → Nat → Int → World → Nat → Prop), (∃ (n : Nat), I none 0 0 0 w n) ∧ ∀ (a : Option Addr) (l_1 c : Nat) (n : Int) (w' : World) (n_1 : Nat), I a l_1 c n w' n_1 → Wif (decide (n < (↑lL : Int))) (Wif (isP l) (Wif (inB (IntKind.wrap .i64 (IntKind.wrap .i64 ((↑lL : Int) - 1) - n)) lL) (∃ (x x_1 x_2 : Int), (rd w' (pb l) (po l + Int.toNat (IntKind.wrap .i64 (IntKind.wrap .i64 ((↑lL : Int) - 1) - n)) * 3) = some (.int .i64 x) ∧ rd w' (pb l) (po l + Int.toNat (IntKind.wrap .i64 (IntKind.wrap .i64 ((↑lL : Int) - 1) - n)) * 3 + 1) = some (.int .u8 x_1) ∧ rd w' (pb l) (po l + Int.toNat (IntKind.wrap .i64 (IntKind.wrap .i64 ((↑lL : Int) - 1) - n)) * 3 + 2) = some (.int .i64 x_2)) ∧ ∀ (w'_1 : World), w'_1 = World.alloc w' (Obj.cells #[Value.int .i64 x, Value.int .u8 x_1, Value.int .i64 x_2] 52) → ∃ (a_1 : Option Addr) (l c_1 : Nat) (w'_2 : World), appIs Tryz.prog #[45, 45] 45 (slice a l_1 c) (slice (some (Addr.mk w'.heap.size 0 none)) 1 1) (slice a_1 l c_1) w'_1 w'_2 ∧ ∃ (m : Nat), Nat.succ m ≤ n_1 ∧ I a_1 l c_1 (IntKind.wrap .i64 (n + 1)) w'_2 m) False) False) (K (slice a l_1 c) w')
theorem vcE15 (l : Option Addr) (lL : Nat) (lC : Nat) (w : World) (K : Value → World → Prop) : vcP15 l lL lC w K = Eng.wBody Tryz.prog (Eng.handOf Tryz.prog [] 1) [] Tryz.f15 (Eng.bodyOf Tryz.f15) [slice l lL lC] w K := by kernel_rfl
theorem vc15 (l : Option Addr) (lL : Nat) (lC : Nat) (w : World) (K : Value → World → Prop) (h : vcP15 l lL lC w K) : Calls Tryz.prog 15 #[slice l lL lC] w (fun e w' => ∃ v, e = .returned v ∧ K v w') := Eng.vc_of [] 1 [] Tryz.mixes Tryz.func15 (by kernel_rfl) (by kernel_rfl) (vcE15 l lL lC w K) h
/- byre/byrelaw28.turned[byre/api.Run] -/
def vcP16 (l : Option Addr) (lL : Nat) (lC : Nat) (w : World) (K : Value → World → Prop) : Prop := ∃ (I : Option Addr → Nat → Nat → Int → World → Nat → Prop), (∃ (n : Nat), I none 0 0 0 w n) ∧ ∀ (a : Option Addr) (l_1 c : Nat) (n : Int) (w' : World) (n_1 : Nat), I a l_1 c n w' n_1 → Wif (decide (n < (↑lL : Int))) (Wif (isP l) (Wif (inB (IntKind.wrap .i64 (IntKind.wrap .i64 ((↑lL : Int) - 1) - n)) lL) (∃ (x x_1 x_2 : Int), (rd w' (pb l) (po l + Int.toNat (IntKind.wrap .i64 (IntKind.wrap .i64 ((↑lL : Int) - 1) - n)) * 3) = some (.int .i64 x) ∧ rd w' (pb l) (po l + Int.toNat (IntKind.wrap .i64 (IntKind.wrap .i64 ((↑lL : Int) - 1) - n)) * 3 + 1) = some (.int .i64 x_1) ∧ rd w' (pb l) (po l + Int.toNat (IntKind.wrap .i64 (IntKind.wrap .i64 ((↑lL : Int) - 1) - n)) * 3 + 2) = some (.int .u8 x_2)) ∧ ∀ (w'_1 : World), w'_1 = World.alloc w' (Obj.cells #[Value.int .i64 x, Value.int .i64 x_1, Value.int .u8 x_2] 79) → ∃ (a_1 : Option Addr) (l c_1 : Nat) (w'_2 : World), appIs Tryz.prog #[46, 46] 46 (slice a l_1 c) (slice (some (Addr.mk w'.heap.size 0 none)) 1 1) (slice a_1 l c_1) w'_1 w'_2 ∧ ∃ (m : Nat), Nat.succ m ≤ n_1 ∧ I a_1 l c_1 (IntKind.wrap .i64 (n + 1)) w'_2 m) False) False) (K (slice a l_1 c) w')
theorem vcE16 (l : Option Addr) (lL : Nat) (lC : Nat) (w : World) (K : Value → World → Prop) : vcP16 l lL lC w K = Eng.wBody Tryz.prog (Eng.handOf Tryz.prog [] 1) [] Tryz.f16 (Eng.bodyOf Tryz.f16) [slice l lL lC] w K := by kernel_rfl
theorem vc16 (l : Option Addr) (lL : Nat) (lC : Nat) (w : World) (K : Value → World → Prop) (h : vcP16 l lL lC w K) : Calls Tryz.prog 16 #[slice l lL lC] w (fun e w' => ∃ v, e = .returned v ∧ K v w') := Eng.vc_of [] 1 [] Tryz.mixes Tryz.func16 (by kernel_rfl) (by kernel_rfl) (vcE16 l lL lC w K) h
end Go.Proofs.YtikjgeenhbnkkaaGreatDoor
