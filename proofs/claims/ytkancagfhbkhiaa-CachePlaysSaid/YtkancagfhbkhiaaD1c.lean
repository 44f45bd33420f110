/-
  A part of a proof that a law of this seat returns true at every input. Conditions: those in each theorem.
-/
import Derived.Test.YtkancagfhbkhiaaW1
import Derived.Test.YtkancagfhbkhiaaS2
import Derived.Test.YtkancagfhbkhiaaC8
namespace Go.Proofs.Ytkancagfhbkhiaa
open Go Eng
set_option linter.unusedSimpArgs false
set_option linter.unusedVariables false
set_option maxRecDepth 10000

/-! ### a cache -/
structure Slb where
  fr : Int
  S : Nat
  B : Nat
  bc : Nat
  s : Sl
  f : Nat → Int
abbrev ptr (b : Nat) : Value := .pointer (some ⟨b, 0, none⟩)
abbrev apart (a b : Nat × Nat) : Prop := a.1 ≠ b.1 ∧ a.1 ≠ b.2 ∧ a.2 ≠ b.1 ∧ a.2 ≠ b.2
abbrev entM (L : List Slb) : List (Int × Value) := L.map fun e => (e.fr, ptr e.S)
abbrev skel (L : List Slb) : List (Nat × Nat) := L.map fun e => (e.S, e.B)
structure CAt (w : World) (C M z c : Nat) (L : List Slb) : Prop where
  co : own w C [.int .i64 z, .int .i64 c, .map (some M)]
  mp : MapIs w M (entM L)
  sl : ∀ e ∈ L, At w e.S e.B e.bc e.s e.f ∧ e.s.size = z
  so : (L.map (·.fr)).Pairwise (· < ·)
  nn : ∀ e ∈ L, 0 ≤ e.fr
  ap : (skel L).Pairwise apart
  nC : ∀ e ∈ L, e.S ≠ C ∧ e.B ≠ C ∧ e.S ≠ M ∧ e.B ≠ M
  cm : C ≠ M
  zc : mayBe z c
/-- the blocks of it -/
def blk (C M : Nat) (L : List Slb) (b : Nat) : Prop := b = C ∨ b = M ∨ ∃ e ∈ L, b = e.S ∨ b = e.B
section
variable {w w' : World} {C M z c : Nat} {L L1 L2 : List Slb}
theorem CAt.kx {X : Nat → Prop} (h : CAt w C M z c L) (k : Kept X w w') (hx : ∀ b, X b → ¬ blk C M L b) : CAt w' C M z c L :=
  ⟨h.co.kx k fun x => hx _ x (.inl rfl), h.mp.kx k fun x => hx _ x (.inr (.inl rfl)),
   fun e he => ⟨(h.sl e he).1.kx k (fun x => hx _ x (.inr (.inr ⟨e, he, .inl rfl⟩))) (fun x => hx _ x (.inr (.inr ⟨e, he, .inr rfl⟩))), (h.sl e he).2⟩, h.so, h.nn, h.ap, h.nC, h.cm, h.zc⟩
theorem CAt.k (h : CAt w C M z c L) (k : Kept none' w w') : CAt w' C M z c L := h.kx k fun _ h => h.elim
theorem CAt.lt (h : CAt w C M z c L) {b : Nat} (hb : blk C M L b) : b < w.heap.size := by
  rcases hb with rfl | rfl | ⟨e, he, rfl | rfl⟩
  · exact h.co.lt
  · exact h.mp.lt
  · exact (h.sl e he).1.so.lt
  · exact (h.sl e he).1.by'.lt
theorem CAt.rC0 (h : CAt w C M z c L) : rd w C 0 = some (.int .i64 z) := by rw [h.co.rd]; rfl
theorem CAt.rC1 (h : CAt w C M z c L) : rd w C 1 = some (.int .i64 c) := by rw [h.co.rd]; rfl
theorem CAt.rC2 (h : CAt w C M z c L) : rd w C 2 = some (.map (some M)) := by rw [h.co.rd]; rfl
/-- one slab has turned -/
theorem CAt.step {e : Slb} (h : CAt w C M z c (L1 ++ e :: L2)) {s' : Sl} {f' : Nat → Int} (k : Kept (two e.S e.B) w w') (a : At w' e.S e.B e.bc s' f') (hz : s'.size = e.s.size) :
    CAt w' C M z c (L1 ++ { e with s := s', f := f' } :: L2) := by
  have hsk : skel (L1 ++ { e with s := s', f := f' } :: L2) = skel (L1 ++ e :: L2) := by simp [skel]
  have hfr : (L1 ++ { e with s := s', f := f' } :: L2).map (·.fr) = (L1 ++ e :: L2).map (·.fr) := by simp
  have hen : entM (L1 ++ { e with s := s', f := f' } :: L2) = entM (L1 ++ e :: L2) := by simp [entM]
  have he : e ∈ L1 ++ e :: L2 := by simp
  obtain ⟨n1, n2, n3, n4⟩ := h.nC e he
  have hap := h.ap
  rw [skel, List.map_append, List.map_cons, List.pairwise_append, List.pairwise_cons] at hap
  obtain ⟨_, ⟨p2, _⟩, p3⟩ := hap
  refine ⟨h.co.kx k (by rintro (h | h) <;> omega), by rw [hen]; exact h.mp.kx k (by rintro (h | h) <;> omega), ?_, by rw [hfr]; exact h.so, ?_, by rw [hsk]; exact h.ap, ?_, h.cm, h.zc⟩
  · intro x hx
    rcases List.mem_append.1 hx with hx | hx
    · have hx' : x ∈ L1 ++ e :: L2 := by simp [hx]
      have := p3 (x.S, x.B) (List.mem_map.2 ⟨x, hx, rfl⟩) (e.S, e.B) (List.mem_cons_self ..)
      obtain ⟨q1, q2, q3, q4⟩ := this
      exact ⟨(h.sl x hx').1.kx k (by rintro (h | h) <;> omega) (by rintro (h | h) <;> omega), (h.sl x hx').2⟩
    · rcases List.mem_cons.1 hx with rfl | hx
      · exact ⟨a, hz.trans (h.sl e he).2⟩
      · have hx' : x ∈ L1 ++ e :: L2 := by simp [hx]
        have := p2 (x.S, x.B) (List.mem_map.2 ⟨x, hx, rfl⟩)
        obtain ⟨q1, q2, q3, q4⟩ := this
        dsimp only at q1 q2 q3 q4
        exact ⟨(h.sl x hx').1.kx k (by rintro (h | h) <;> omega) (by rintro (h | h) <;> omega), (h.sl x hx').2⟩
  · intro x hx
    rcases List.mem_append.1 hx with hx | hx
    · exact h.nn x (by simp [hx])
    · rcases List.mem_cons.1 hx with rfl | hx
      · exact h.nn e he
      · exact h.nn x (by simp [hx])
  · intro x hx
    rcases List.mem_append.1 hx with hx | hx
    · exact h.nC x (by simp [hx])
    · rcases List.mem_cons.1 hx with rfl | hx
      · exact h.nC e he
      · exact h.nC x (by simp [hx])
theorem zero23 (w : World) : (zeroValue 23).run Try.prog w = .ok (.pointer none) w := Try.zeroValue23 w
theorem CAt.look_in (h : CAt w C M z c L) {e : Slb} (he : e ∈ L) : (entM L).lookup e.fr = some (ptr e.S) :=
  lookup_of_mem h.mp.nd (List.mem_map.2 ⟨e, he, rfl⟩)
theorem CAt.look_out (h : CAt w C M z c L) {n : Int} (hn : ∀ e ∈ L, e.fr ≠ n) : (entM L).lookup n = none :=
  lookup_none_of fun v hv => by
    obtain ⟨e, he, hx⟩ := List.mem_map.1 hv
    exact hn e he (congrArg Prod.fst hx)
theorem CAt.l1 (h : CAt w C M z c L) {e : Slb} (he : e ∈ L) : lookIs Try.prog 76 (.map (some M)) (.int .i64 e.fr) false (ptr e.S) w := by
  have := look1 (vt := 23) (kt := 3) Try.underlying76 Try.underlying3 h.mp e.fr (zero23 w)
  rw [h.look_in he] at this
  exact this
theorem CAt.l1n (h : CAt w C M z c L) {n : Int} (hn : ∀ e ∈ L, e.fr ≠ n) : lookIs Try.prog 76 (.map (some M)) (.int .i64 n) false (.pointer none) w := by
  have := look1 (vt := 23) (kt := 3) Try.underlying76 Try.underlying3 h.mp n (zero23 w)
  rw [h.look_out hn] at this
  exact this
theorem CAt.l2 (h : CAt w C M z c L) {e : Slb} (he : e ∈ L) : lookIs Try.prog 76 (.map (some M)) (.int .i64 e.fr) true (.tuple #[ptr e.S, .bool true]) w := by
  have := look2 (vt := 23) (kt := 3) Try.underlying76 Try.underlying3 h.mp e.fr (zero23 w)
  rw [h.look_in he] at this
  exact this
theorem CAt.l2n (h : CAt w C M z c L) {n : Int} (hn : ∀ e ∈ L, e.fr ≠ n) : lookIs Try.prog 76 (.map (some M)) (.int .i64 n) true (.tuple #[.pointer none, .bool false]) w := by
  have := look2 (vt := 23) (kt := 3) Try.underlying76 Try.underlying3 h.mp n (zero23 w)
  rw [h.look_out hn] at this
  exact this

/-! ### the small ones -/
theorem csize_spec (h : CAt w C M z c L) : Calls Try.prog 45 #[ptr C] w fun e w' => e = .returned (.int .i64 z) ∧ w' = w := by
  refine (vc45 _ w (fun v w' => v = .int .i64 z ∧ w' = w) ?_).mono ?_
  · unfold vcP45
    exact gIf_intro (fun _ => rfl) ⟨some M, fun _ => h.rC2, Wif_no rfl (Wif_yes rfl ⟨_, h.rC0, rfl, rfl⟩)⟩
  · rintro e w' ⟨v, rfl, rfl, h⟩
    exact ⟨rfl, h⟩
theorem slab_in (h : CAt w C M z c L) {e : Slb} (he : e ∈ L) : Calls Try.prog 40 #[ptr C, .int .i64 e.fr] w fun r w' => r = .returned (.tuple #[ptr e.S, .int .i64 0]) ∧ w' = w := by
  refine (vc40 _ _ w (fun v w' => v = .tuple #[ptr e.S, .int .i64 0] ∧ w' = w) ?_).mono ?_
  · unfold vcP40
    exact gIf_intro (fun _ => rfl) ⟨some M, fun _ => h.rC2, Wif_no rfl (Wif_yes rfl ⟨_, h.rC2, _, _, h.l2 he, Wif_no rfl ⟨rfl, rfl⟩⟩)⟩
  · rintro e w' ⟨v, rfl, rfl, h⟩
    exact ⟨rfl, h⟩
theorem slab_out (h : CAt w C M z c L) {n : Int} (hn : ∀ e ∈ L, e.fr ≠ n) : Calls Try.prog 40 #[ptr C, .int .i64 n] w fun r w' => r = .returned (.tuple #[.pointer none, .int .i64 7]) ∧ w' = w := by
  refine (vc40 _ _ w (fun v w' => v = .tuple #[.pointer none, .int .i64 7] ∧ w' = w) ?_).mono ?_
  · unfold vcP40
    exact gIf_intro (fun _ => rfl) ⟨some M, fun _ => h.rC2, Wif_no rfl (Wif_yes rfl ⟨_, h.rC2, _, _, h.l2n hn, Wif_yes rfl ⟨rfl, rfl⟩⟩)⟩
  · rintro e w' ⟨v, rfl, rfl, h⟩
    exact ⟨rfl, h⟩
theorem part_spec {S B bc : Nat} {s : Sl} {f : Nat → Int} (a : At w S B bc s f) : Calls Try.prog 63 #[ptr S] w fun e w' => e = .returned (.bool (decide (0 < s.ch.length) && decide (s.ch.length < s.count))) ∧ w' = w := by
  refine (vc63 _ w (fun v w' => v = .bool (decide (0 < s.ch.length) && decide (s.ch.length < s.count)) ∧ w' = w) ?_).mono ?_
  · unfold vcP63
    refine (free_spec a).mono ?_
    rintro _ w1 ⟨rfl, rfl⟩
    refine ⟨_, rfl, Wif_intro (fun hp => ?_) (fun hp => ?_)⟩
    · simp only [decide_eq_true_eq] at hp
      refine (free_spec a).mono ?_
      rintro _ w1 ⟨rfl, rfl⟩
      refine ⟨_, rfl, (count_spec a).mono ?_⟩
      rintro _ w1 ⟨rfl, rfl⟩
      refine ⟨_, rfl, ?_, rfl⟩
      have : 0 < s.ch.length := by omega
      congr 1
      rw [show decide (0 < s.ch.length) = true by simpa using this, Bool.true_and]
      congr 1
      exact propext ⟨fun h => by omega, fun h => by omega⟩
    · simp only [decide_eq_false_iff_not] at hp
      refine ⟨?_, rfl⟩
      have : ¬ 0 < s.ch.length := by omega
      rw [show decide (0 < s.ch.length) = false by simpa using this, Bool.false_and]
  · rintro e w' ⟨v, rfl, rfl, h⟩
    exact ⟨rfl, h⟩
theorem isemp_spec {S B bc : Nat} {s : Sl} {f : Nat → Int} (a : At w S B bc s f) : Calls Try.prog 64 #[ptr S] w fun e w' => e = .returned (.bool (decide (s.ch.length = s.count))) ∧ w' = w := by
  refine (vc64 _ w (fun v w' => v = .bool (decide (s.ch.length = s.count)) ∧ w' = w) ?_).mono ?_
  · unfold vcP64
    refine (free_spec a).mono ?_
    rintro _ w1 ⟨rfl, rfl⟩
    refine ⟨_, rfl, (count_spec a).mono ?_⟩
    rintro _ w1 ⟨rfl, rfl⟩
    refine ⟨_, rfl, ?_, rfl⟩
    congr 1
    rw [Bool.eq_iff_iff]
    simp
    omega
  · rintro e w' ⟨v, rfl, rfl, h⟩
    exact ⟨rfl, h⟩
theorem keys_sorted (h : CAt w C M z c L) : ((entM L).map (·.1)).mergeSort (fun x y => decide (x ≤ y)) = L.map (·.fr) := by
  have : (entM L).map (·.1) = L.map (·.fr) := by rw [List.map_map]; rfl
  rw [this]
  refine List.mergeSort_of_pairwise ?_
  exact h.so.imp fun hlt => by simp; omega
abbrev frL (L : List Slb) : List Value := (L.map (·.fr)).map (Value.int .i64)
theorem frames_spec (h : CAt w C M z c L) (hl : L.length ≤ 1000) : Calls Try.prog 39 #[ptr C] w fun e w' => ∃ (a : Option Addr) (cp : Nat), e = .returned (.slice a L.length cp) ∧
    w'.ownsRow w.heap.size 3 1 (.slice a L.length cp) L.length (frL L) ∧ Kept none' w w' := by
  refine (vc39 _ w (fun v w' => ∃ (a : Option Addr) (cp : Nat), v = .slice a L.length cp ∧ w'.ownsRow w.heap.size 3 1 (.slice a L.length cp) L.length (frL L) ∧ Kept none' w w') ?_).mono ?_
  · unfold vcP39
    refine gIf_intro (fun _ => rfl) ⟨some M, fun _ => h.rC2, Wif_no rfl (Wif_yes rfl ⟨_, h.rC2, (keys_call (some M) w).mono ?_⟩)⟩
    rintro _ w1 ⟨rfl, e1⟩
    refine ⟨_, rfl, (sorted_call h.mp (by simp [entM]; omega) e1).mono ?_⟩
    rintro _ w2 ⟨a, cp, ks, rfl, hks, row, k2⟩
    rw [keys_sorted h] at hks
    subst hks
    have hlen : (L.map (·.fr)).length = L.length := List.length_map _
    rw [hlen] at row ⊢
    exact ⟨_, _, _, rfl, a, cp, rfl, row, k2⟩
  · rintro e w' ⟨v, rfl, a, cp, rfl, h⟩
    exact ⟨a, cp, rfl, h⟩
end
end Go.Proofs.Ytkancagfhbkhiaa
