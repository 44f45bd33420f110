/-
  A part of a proof that a law of this seat returns true at every input. Conditions: those in each theorem.
-/
import Derived.Test.YtklmokolnakkoaaGreatDoorY3
set_option linter.unusedSimpArgs false
set_option linter.unusedVariables false
set_option maxRecDepth 100000
namespace Go.Proofs.YtklmokolnakkoaaGreatDoor
open Go Go.Eng
open Go.Shelf
abbrev nilS : Value := .slice none 0 0
theorem concat_nilsC {w : World} {X m cp : Nat} {cs : List Value} (hm : m ≤ 2) (ho : own w X cs) (hc : ∀ j, j < m → cs[j]? = some nilS) :
    Calls Tryz.prog 141 #[.slice (some ⟨X, 0, none⟩) m cp] w fun e w' => ∃ (a : Option Addr) (c : Nat), e = .returned (.slice a 0 c) ∧ w'.ownsRow w.heap.size 165 2 (.slice a 0 c) 0 [] ∧ Kept none' w w' := by
  refine (vc141 (some ⟨X, 0, none⟩) m cp w (fun v w' => ∃ (a : Option Addr) (c : Nat), v = (.slice a 0 c) ∧ w'.ownsRow w.heap.size 165 2 (.slice a 0 c) 0 [] ∧ Kept none' w w') ?_).mono ?_
  rotate_left
  · rintro e w' ⟨v, rfl, a, c, rfl, h⟩
    exact ⟨a, c, rfl, h⟩
  unfold vcP141
  have hrd : ∀ {w' : World}, Kept none' w w' → ∀ q, q < m → rd w' X (0 + Int.toNat (q : Int) * 1) = some nilS := fun k q hq => by
    rw [Int.toNat_natCast, Nat.mul_one, Nat.zero_add, (ho.k k).rd, hc q hq]
  refine ⟨fun n k w' N => ∃ q : Nat, n = 0 ∧ k = q ∧ q ≤ m ∧ N = m - q ∧ w' = w, ⟨m, 0, rfl, rfl, Nat.zero_le _, rfl, rfl⟩, ?_⟩
  rintro _ _ w1 _ ⟨q, rfl, rfl, hq, rfl, rfl⟩
  refine Wif_intro (fun hc1 => ?_) (fun hc1 => ?_)
  · have hqm : q < m := by simp at hc1; omega
    refine Wif_yes rfl (Wif_yes (inB_of (by omega) (by omega)) ⟨none, 0, 0, hrd (Kept.refl _ _) q hqm, Wif_no (by decide) ⟨m - (q + 1), by omega, q + 1, rfl, by rw [wi (by omega)]; rfl, by omega, rfl, rfl⟩⟩)
  refine (Any8.slices_Grow_room Tryz.growO none 0 0 0 w1 (by omega) (by omega) (by omega) (by omega)).mono ?_
  rintro e wx ⟨rfl, hx⟩
  rw [hx]
  clear hx
  refine ⟨none, 0, 0, rfl, fun a l c k w' N => ∃ q : Nat, l = 0 ∧ k = q ∧ q ≤ m ∧ N = m - q ∧ w'.ownsRow w1.heap.size 165 2 (.slice a 0 c) 0 [] ∧ Kept none' w1 w', ⟨m, 0, rfl, rfl, Nat.zero_le _, rfl, World.ownsRow_nil _ _ _ _, Kept.refl _ _⟩, ?_⟩
  rintro a _ c _ w2 _ ⟨q, rfl, rfl, hq, rfl, row2, k2⟩
  refine Wif_intro (fun hc2 => ?_) (fun hc2 => ⟨a, c, rfl, row2, k2⟩)
  have hqm : q < m := by simp at hc2; omega
  refine Wif_yes rfl (Wif_yes (inB_of (by omega) (by omega)) ⟨none, 0, 0, hrd k2 q hqm, ?_⟩)
  obtain ⟨i, z, hi, hz, hsz, hzs, hby⟩ := (elT (S := 147) (T := 165) (z := .agg #[.int .i64 0, .int .i64 0]) (s := 2) Tryz.underlying147 (by kernel_rfl) rfl (by decide)).ex
  obtain ⟨a', c', w3, happ, row, k3⟩ := Eng.app (P := Tryz.prog) (t := 147) (ty := 147) (e := 165) (i := i) (z := z) (size := 2) Tryz.underlying147 hi hz hsz hzs (by decide) row2 (Eng.Src.nil' (w := w2)) rfl (fun u hu => by simp at hu) (by omega) (by omega) k2.sz
  exact ⟨a', 0, c', w3, happ, m - (q + 1), by omega, q + 1, rfl, by rw [wi (by omega)]; rfl, by omega, rfl, by simpa using row, own0 k2 k3 fun x e => (row2.lt x e).1⟩
theorem concat_nils {w : World} {X m : Nat} {cs : List Value} (hm : m ≤ 2) (ho : own w X cs) (hc : ∀ j, j < m → cs[j]? = some nilS) :
    Calls Tryz.prog 141 #[.slice (some ⟨X, 0, none⟩) m m] w fun e w' => ∃ (a : Option Addr) (c : Nat), e = .returned (.slice a 0 c) ∧ w'.ownsRow w.heap.size 165 2 (.slice a 0 c) 0 [] ∧ Kept none' w w' := concat_nilsC hm ho hc
theorem row_told {w : World} {base : Nat} {a : Option Addr} {c : Nat} (row : w.ownsRow base 165 2 (.slice a 0 c) 0 []) : At (fun x => (Value.slice a 0 c).ownBlock = some x) (fun W => RL RPair 2 W [.slice a 0 c] []) w :=
  (at_flat (f := fun x : Int × Int => [vi x.1, vi x.2]) (fun _ => rfl) (xs := []) row rfl).imp fun W hW => ⟨a, 0, c, rfl, hW⟩
theorem magAll_nil {w : World} {u : Value} {H : Nat → Prop} (h : Bin0 u H w) : Calls Tryz.prog 84 #[u] w fun e w' => ∃ (a : Option Addr) (c : Nat), e = .returned (.slice a 0 c) ∧ w'.ownsRow w.heap.size 165 2 (.slice a 0 c) 0 [] ∧ Kept none' w w' := by
  obtain ⟨b, rfl, o, _⟩ := h.ex
  refine (vc84 (some ⟨b, 0, none⟩) w (fun v w' => ∃ (a : Option Addr) (c : Nat), v = (.slice a 0 c) ∧ w'.ownsRow w.heap.size 165 2 (.slice a 0 c) 0 [] ∧ Kept none' w w') ?_).mono ?_
  rotate_left
  · rintro e w' ⟨v, rfl, a, c, rfl, h⟩
    exact ⟨a, c, rfl, h⟩
  unfold vcP84
  refine Wif_no rfl fun w1 e1 => ?_
  have o1 := o.dr e1
  have k1 : Kept none' w w1 := (Kept.refl _ _).dr e1
  have s1 : w1.heap.size = w.heap.size := by rw [e1]; rfl
  refine Wif_yes rfl ⟨none, 0, 0, by show rd w1 b (0 + 2) = _; rw [o1.rd]; rfl, Wif_yes rfl ⟨none, 0, 0, by show rd w1 b (0 + 1) = _; rw [o1.rd]; rfl, fun w2 e2 => ?_⟩⟩
  have o2 := own_alloc (c := [nilS, nilS]) e2
  have k2 : Kept none' w1 w2 := (Kept.refl _ _).al e2
  refine (concat_nils (m := 2) (by omega) o2 fun j hj => by match j, hj with | 0, _ | 1, _ => rfl).mono ?_
  rintro _ w3 ⟨a, c, rfl, row, k3⟩
  exact ⟨a, 0, c, rfl, a, c, rfl, ownsRow_base_a row (by have := k1.sz; have := k2.sz; omega), (k1.tr k2).tr k3⟩
theorem clone_nil (w : World) : Calls Tryz.prog 142 #[nilS] w fun e w' => e = .returned nilS ∧ w' = w := by
  refine (vc142 none 0 0 w (fun v w' => v = nilS ∧ w' = w) ?_).mono ?_
  · unfold vcP142
    exact Wif_yes rfl ⟨rfl, rfl⟩
  · rintro e w' ⟨v, rfl, rfl, rfl⟩
    exact ⟨rfl, rfl⟩
theorem depAll_nil {w : World} {u : Value} {H : Nat → Prop} (h : Bin0 u H w) : Calls Tryz.prog 87 #[u] w fun e w' => ∃ (a : Option Addr) (c : Nat), e = .returned (.slice a 0 c) ∧ w'.ownsRow w.heap.size 165 2 (.slice a 0 c) 0 [] ∧ Kept none' w w' := by
  obtain ⟨b, rfl, o, _⟩ := h.ex
  refine (vc87 (some ⟨b, 0, none⟩) w (fun v w' => ∃ (a : Option Addr) (c : Nat), v = (.slice a 0 c) ∧ w'.ownsRow w.heap.size 165 2 (.slice a 0 c) 0 [] ∧ Kept none' w w') ?_).mono ?_
  rotate_left
  · rintro e w' ⟨v, rfl, a, c, rfl, h⟩
    exact ⟨a, c, rfl, h⟩
  unfold vcP87
  refine Wif_no rfl fun w1 e1 => ?_
  have o1 := o.dr e1
  have k1 : Kept none' w w1 := (Kept.refl _ _).dr e1
  have r1 : ∀ {w' : World}, Kept none' w1 w' → rd w' b (0 + 1) = some nilS := fun k => by rw [(o1.k k).rd]; rfl
  have r2 : ∀ {w' : World}, Kept none' w1 w' → rd w' b (0 + 2) = some nilS := fun k => by rw [(o1.k k).rd]; rfl
  have fin : ∀ {X : Nat} {w2 : World}, Kept none' w1 w2 → own w2 X [nilS] → ∃ (a1 : Option Addr) (l1 c1 : Nat) (w3 : World), appIs Tryz.prog #[50, 50] 50 nilS (.slice (some ⟨X, 0, none⟩) 1 1) (.slice a1 l1 c1) w2 w3 ∧
      Calls Tryz.prog 141 #[.slice a1 l1 c1] w3 fun e w' => ∃ (a : Option Addr) (l c : Nat), e = .returned (.slice a l c) ∧ ∃ (a' : Option Addr) (c' : Nat), (Value.slice a l c) = (.slice a' 0 c') ∧ w'.ownsRow w.heap.size 165 2 (.slice a' 0 c') 0 [] ∧ Kept none' w w' := by
    intro X w2 k2 ox
    obtain ⟨i, z, hi, hz, hsz, hzs, hby⟩ := elT70.ex
    obtain ⟨a1, l1, c1, w3, happ, rfl, row, k3, _⟩ := app_any (P := Tryz.prog) (t := 50) (e := 147) (i := i) (z := z) (size := 1) Tryz.underlying50 hi hz hsz hzs (by decide) (World.ownsRow_nil w2 w2.heap.size 147 1) ox (m := 1) (off := 0) (c := 1) (news := [nilS]) rfl rfl (fun u hu => by simp at hu; subst hu; rfl) (by omega) hby (Nat.le_refl _)
    have k3' : Kept none' w2 w3 := k3.mono fun x _ e => by simp [Value.ownBlock] at e
    obtain ⟨_, hh⟩ := ownsRow_own row
    rcases hh with ⟨_, h0, _⟩ | ⟨g, cs, rfl, hgb, og, htk, hnc, hcl⟩
    · omega
    refine ⟨_, _, _, w3, happ, ?_⟩
    have hc0 : cs[0]? = some nilS := by
      have : (cs.take ((0 + 1) * 1))[0]? = some nilS := by rw [htk]; rfl
      rw [List.getElem?_take] at this
      split at this
      · exact this
      · cases this
    have hgen : Calls Tryz.prog 141 #[.slice (some ⟨g, 0, none⟩) 1 c1] w3 fun e w' => ∃ (a : Option Addr) (c : Nat), e = .returned (.slice a 0 c) ∧ w'.ownsRow w3.heap.size 165 2 (.slice a 0 c) 0 [] ∧ Kept none' w3 w' := concat_nilsC (by omega) og fun j hj => by
      match j, hj with
      | 0, _ => exact hc0
    refine hgen.mono ?_
    rintro _ w4 ⟨a, c, rfl, row4, k4⟩
    exact ⟨a, 0, c, rfl, a, c, rfl, ownsRow_base_a row4 (by have := k1.sz; have := k2.sz; have := k3'.sz; omega), ((k1.tr k2).tr k3').tr k4⟩
  refine Wif_yes rfl ⟨none, 0, 0, r1 (Kept.refl _ _), Wif_yes rfl ⟨none, 0, 0, r2 (Kept.refl _ _), (clone_nil w1).mono ?_, fun w2 e2 => ⟨⟨r1 ((Kept.refl _ _).al e2), trivial⟩, (clone_nil w2).mono ?_⟩⟩⟩
  · rintro _ _ ⟨rfl, rfl⟩
    refine ⟨none, 0, 0, rfl, ⟨r2 (Kept.refl _ _), trivial⟩, fun w2 e2 => fin ((Kept.refl _ _).al e2) (own_alloc e2)⟩
  · rintro _ w3 ⟨rfl, e3⟩
    rw [e3]
    exact ⟨none, 0, 0, rfl, fin ((Kept.refl _ _).al e2) (own_alloc e2)⟩
section
variable {w : World} {k kb : Nat} {S : Mach} {fp : Prt → Nat → Prop}
theorem mags_pic (h : CoreAt w k S fp) (hk : rd w kb 0 = some (ptr k)) :
    Calls Tryz.prog 81 #[vi (S.c 1), .func (.func 82) #[] #[ptr kb]] w fun e w' => ∃ a l c, e = .returned (.slice a l c) ∧ Kept none' w w' ∧ At (rng w w') (fun W => SlR (RL (RL RPair 2) 1) 1 W a l c ((List.range S.cpus).map fun _ => (List.range 8).map fun _ => [])) w' := by
  have hs := h.sizes
  rw [← hs.2.1.2.2]
  refine (sev81 (n := S.cpus) (w0 := w) (by omega) (makes_row (A := fun j => ToldA (RL (RL RPair 2) 1) ((List.range 8).map fun _ => [])) (fun _ _ => ToldA.stb) fun i w1 hi k1 => CallsV.mk _ #[] #[_] rfl (by kernel_rfl) ?_) jrow0).mono ?_
  · refine (vc82 i (some ⟨kb, 0, none⟩) w1 (fun v w' => ∃ a l c, v = (.slice a l c) ∧ Kept none' w1 w' ∧ ∃ H : Nat → Prop, At H (fun W => RL (RL RPair 2) 1 W [.slice a l c] ((List.range 8).map fun _ => [])) w' ∧ ∀ x, H x → w1.heap.size ≤ x) ?_).mono ?_
    · unfold vcP82
      intro w2 e2
      have o2 := own_alloc (c := [vi i]) e2
      have k2 : Kept none' w1 w2 := (Kept.refl _ _).al e2
      refine (sev70 (n := 8) (w0 := w2) (by omega) (makes_row (A := fun j => ToldA (RL RPair 2) []) (fun _ _ => ToldA.stb) fun j w3 hj k3 => CallsV.mk _ #[] #[_, _] rfl (by kernel_rfl) ?_) jrow0).mono ?_
      · have C3 := h.k ((k1.tr k2).tr k3)
        have hh : RowA (fun i => RowA (fun _ => Bin0) 8) S.cpus S.vma (fp .mags) w3 := C3.at' .mags
        obtain ⟨g, cp, u, H, hv, hr, hA, _, _⟩ := hh.one (B := fun i => RowA (fun _ => Bin0) 8) (w' := w3) (fun _ _ => RowA.stb fun _ _ => Bin0.stb) hi fun _ _ => rfl
        obtain ⟨g2, cp2, u2, H2, rfl, hr2, hB, _, _⟩ := hA.one (B := fun i => Bin0) (w' := w3) (fun _ _ => Bin0.stb) hj fun _ _ => rfl
        obtain ⟨b, rfl, _⟩ := hB.ex
        refine (vc83 j (some ⟨kb, 0, none⟩) (some ⟨w1.heap.size, 0, none⟩) w3 (fun v w' => ∃ (a : Option Addr) (c : Nat), v = (.slice a 0 c) ∧ w'.ownsRow w3.heap.size 165 2 (.slice a 0 c) 0 [] ∧ Kept none' w3 w') ?_).mono ?_
        · unfold vcP83
          intro w4 e4
          have k4 : Kept none' w3 w4 := (Kept.refl _ _).dr e4
          have s4 : w4.heap.size = w3.heap.size := by rw [e4]; rfl
          have hk4 : rd w4 kb 0 = some (ptr k) := (((k1.tr k2).tr k3).tr k4).rd_some hk id
          refine Wif_yes rfl ⟨_, hk4, Wif_yes rfl ⟨some ⟨g, 0, none⟩, S.cpus, cp, ?_, Wif_yes rfl ⟨(i : Int), ?_, Wif_yes rfl (Wif_yes (inB_of (by omega) (by omega)) ⟨some ⟨g2, 0, none⟩, 8, cp2, ?_, Wif_yes rfl (Wif_yes (inB_of (by omega) (by omega)) ⟨some ⟨b, 0, none⟩, ?_, (magAll_nil (Bin0.stb.kx _ _ _ _ _ hB k4 fun _ e _ => e.elim)).mono ?_⟩)⟩)⟩⟩⟩
          · have := (C3.k k4).rt (j := 9) (v := S.vma) rfl
            rw [hv] at this
            show rd w4 k (0 + 103) = _
            rw [Nat.zero_add]
            exact this
          · show rd w4 w1.heap.size 0 = _
            rw [((o2.k k3).k k4).rd]
            rfl
          · rw [Int.toNat_natCast, Nat.mul_one]
            show rd w4 g (0 + i) = _
            rw [Nat.zero_add]
            exact k4.rd_some hr id
          · rw [Int.toNat_natCast, Nat.mul_one]
            show rd w4 g2 (0 + j) = _
            rw [Nat.zero_add]
            exact k4.rd_some hr2 id
          · rintro _ w5 ⟨a, c, rfl, row, k5⟩
            exact ⟨a, 0, c, rfl, ⟨k5.rd_some hk4 id, trivial⟩, a, c, rfl, ownsRow_base_a row (by omega), k4.tr k5⟩
        · rintro e w' ⟨v, rfl, a, c, rfl, row, k5⟩
          exact ⟨_, _, ⟨_, _, _, rfl, rfl⟩, rfl, k5, row_told row, fun x hx => (row.lt x hx).1⟩
      · rintro e w' ⟨a, c, F, vs, rfl, kk, row, hj, hF, _⟩
        have h2 := k2.sz
        exact ⟨a, 8, c, rfl, a, 8, c, rfl, k2.tr kk, rng w2 w', (pics_row row hj hF).imp fun W hW => ⟨a, 8, c, rfl, hW⟩, fun x hx => by have := hx.1; omega⟩
    · rintro e w' ⟨v, rfl, a, l, c, rfl, kk, H, hA, hx⟩
      exact ⟨_, H, ⟨_, _, _, rfl, rfl⟩, rfl, kk, hA, hx⟩
  · rintro e w' ⟨a, c, F, vs, rfl, kk, row, hj, hF, _⟩
    exact ⟨a, _, c, rfl, kk, pics_row row hj hF⟩
end
section
variable {w : World} {k kb : Nat} {S : Mach} {fp : Prt → Nat → Prop}
theorem depots_pic (h : CoreAt w k S fp) (hk : rd w kb 0 = some (ptr k)) :
    Calls Tryz.prog 81 #[vi (S.c 0), .func (.func 85) #[] #[ptr kb]] w fun e w' => ∃ a l c, e = .returned (.slice a l c) ∧ Kept none' w w' ∧ At (rng w w') (fun W => SlR (RL (RL RPair 2) 1) 1 W a l c ((List.range S.nodes).map fun _ => (List.range 8).map fun _ => [])) w' := by
  have hs := h.sizes
  rw [← hs.1.2.2]
  refine (sev81 (n := S.nodes) (w0 := w) (by omega) (makes_row (A := fun j => ToldA (RL (RL RPair 2) 1) ((List.range 8).map fun _ => [])) (fun _ _ => ToldA.stb) fun i w1 hi k1 => CallsV.mk _ #[] #[_] rfl (by kernel_rfl) ?_) jrow0).mono ?_
  · refine (vc85 i (some ⟨kb, 0, none⟩) w1 (fun v w' => ∃ a l c, v = (.slice a l c) ∧ Kept none' w1 w' ∧ ∃ H : Nat → Prop, At H (fun W => RL (RL RPair 2) 1 W [.slice a l c] ((List.range 8).map fun _ => [])) w' ∧ ∀ x, H x → w1.heap.size ≤ x) ?_).mono ?_
    · unfold vcP85
      intro w2 e2
      have o2 := own_alloc (c := [vi i]) e2
      have k2 : Kept none' w1 w2 := (Kept.refl _ _).al e2
      refine (sev70 (n := 8) (w0 := w2) (by omega) (makes_row (A := fun j => ToldA (RL RPair 2) []) (fun _ _ => ToldA.stb) fun j w3 hj k3 => CallsV.mk _ #[] #[_, _] rfl (by kernel_rfl) ?_) jrow0).mono ?_
      · have C3 := h.k ((k1.tr k2).tr k3)
        have hh : RowA (fun i => RowA (fun _ => Bin0) 8) S.nodes S.vde (fp .depots) w3 := C3.at' .depots
        obtain ⟨g, cp, u, H, hv, hr, hA, _, _⟩ := hh.one (B := fun i => RowA (fun _ => Bin0) 8) (w' := w3) (fun _ _ => RowA.stb fun _ _ => Bin0.stb) hi fun _ _ => rfl
        obtain ⟨g2, cp2, u2, H2, rfl, hr2, hB, _, _⟩ := hA.one (B := fun i => Bin0) (w' := w3) (fun _ _ => Bin0.stb) hj fun _ _ => rfl
        obtain ⟨b, rfl, _⟩ := hB.ex
        refine (vc86 j (some ⟨kb, 0, none⟩) (some ⟨w1.heap.size, 0, none⟩) w3 (fun v w' => ∃ (a : Option Addr) (c : Nat), v = (.slice a 0 c) ∧ w'.ownsRow w3.heap.size 165 2 (.slice a 0 c) 0 [] ∧ Kept none' w3 w') ?_).mono ?_
        · unfold vcP86
          intro w4 e4
          have k4 : Kept none' w3 w4 := (Kept.refl _ _).dr e4
          have s4 : w4.heap.size = w3.heap.size := by rw [e4]; rfl
          have hk4 : rd w4 kb 0 = some (ptr k) := (((k1.tr k2).tr k3).tr k4).rd_some hk id
          refine Wif_yes rfl ⟨_, hk4, Wif_yes rfl ⟨some ⟨g, 0, none⟩, S.nodes, cp, ?_, Wif_yes rfl ⟨(i : Int), ?_, Wif_yes rfl (Wif_yes (inB_of (by omega) (by omega)) ⟨some ⟨g2, 0, none⟩, 8, cp2, ?_, Wif_yes rfl (Wif_yes (inB_of (by omega) (by omega)) ⟨some ⟨b, 0, none⟩, ?_, (depAll_nil (Bin0.stb.kx _ _ _ _ _ hB k4 fun _ e _ => e.elim)).mono ?_⟩)⟩)⟩⟩⟩
          · have := (C3.k k4).rt (j := 8) (v := S.vde) rfl
            rw [hv] at this
            show rd w4 k (0 + 102) = _
            rw [Nat.zero_add]
            exact this
          · show rd w4 w1.heap.size 0 = _
            rw [((o2.k k3).k k4).rd]
            rfl
          · rw [Int.toNat_natCast, Nat.mul_one]
            show rd w4 g (0 + i) = _
            rw [Nat.zero_add]
            exact k4.rd_some hr id
          · rw [Int.toNat_natCast, Nat.mul_one]
            show rd w4 g2 (0 + j) = _
            rw [Nat.zero_add]
            exact k4.rd_some hr2 id
          · rintro _ w5 ⟨a, c, rfl, row, k5⟩
            exact ⟨a, 0, c, rfl, ⟨k5.rd_some hk4 id, trivial⟩, a, c, rfl, ownsRow_base_a row (by omega), k4.tr k5⟩
        · rintro e w' ⟨v, rfl, a, c, rfl, row, k5⟩
          exact ⟨_, _, ⟨_, _, _, rfl, rfl⟩, rfl, k5, row_told row, fun x hx => (row.lt x hx).1⟩
      · rintro e w' ⟨a, c, F, vs, rfl, kk, row, hj, hF, _⟩
        have h2 := k2.sz
        exact ⟨a, 8, c, rfl, a, 8, c, rfl, k2.tr kk, rng w2 w', (pics_row row hj hF).imp fun W hW => ⟨a, 8, c, rfl, hW⟩, fun x hx => by have := hx.1; omega⟩
    · rintro e w' ⟨v, rfl, a, l, c, rfl, kk, H, hA, hx⟩
      exact ⟨_, H, ⟨_, _, _, rfl, rfl⟩, rfl, kk, hA, hx⟩
  · rintro e w' ⟨a, c, F, vs, rfl, kk, row, hj, hF, _⟩
    exact ⟨a, _, c, rfl, kk, pics_row row hj hF⟩
end
end Go.Proofs.YtklmokolnakkoaaGreatDoor
set_option linter.unusedSimpArgs false
set_option linter.unusedVariables false
set_option maxRecDepth 100000
namespace Go.Proofs.YtklmokolnakkoaaGreatDoor
open Go Go.Eng
open Go.RowKit Go.Maps Go.Sort Go.Shelf
def intP (x : Nat × Nat) : Int × Int := (x.1, x.2)
theorem blocks_pic {w : World} {z : Nat} {Z : Zs} {L : Nat → List Bk} (h : ZAt w z Z L) :
    Calls Tryz.prog 66 #[ptr z] w fun e w1 => ∃ v, e = .returned v ∧ Calls Tryz.prog 65 #[v] w1 fun e w' => ∃ a l c, e = .returned (.slice a l c) ∧ Kept none' w w' ∧ At (rng w w') (fun W => SlR RPair 2 W a l c ((zsh Z.c L Z.k).map intP)) w' := by
  have hl : (zsh Z.c L Z.k).length ≤ 100000 := by
    have h8 := h.k8
    have := zsh_len (c := Z.c) (L := L) (k := Z.k) fun i hi => by
      have h1 := bks_le (h.iv i hi).tl
      have := (n_int h hi).2.2
      omega
    omega
  refine (vc66 (some ⟨z, 0, none⟩) w (fun v w' => v = .func (.func 122) #[] #[ptr w.heap.size] ∧ w' = w.alloc (.cells #[ptr z] 37)) ?_).mono ?_
  · unfold vcP66
    rintro w1 rfl
    exact ⟨rfl, rfl⟩
  rintro e w1 ⟨v, rfl, rfl, e1⟩
  have k1 : Kept none' w w1 := (Kept.refl _ _).al e1
  have o1 := own_alloc (c := [ptr z]) e1
  refine ⟨_, rfl, (vc65 _ w1 (fun v w' => ∃ a l c, v = (.slice a l c) ∧ Kept none' w w' ∧ At (rng w w') (fun W => SlR RPair 2 W a l c ((zsh Z.c L Z.k).map intP)) w') ?_).mono ?_⟩
  · unfold vcP65
    refine (appB_ok (h.k k1) (by rw [o1.rd]; rfl) hl).mono ?_
    rintro _ w2 ⟨a, l, c, rfl, hl2, row, k2⟩
    have e2 : (zsh Z.c L Z.k).flatMap blkC = ((zsh Z.c L Z.k).map intP).flatMap fun x => [vi x.1, vi x.2] := by rw [List.flatMap_map]; rfl
    rw [e2] at row
    refine ⟨a, l, c, rfl, a, l, c, rfl, k1.tr k2, (at_flat (f := fun x : Int × Int => [vi x.1, vi x.2]) (fun _ => rfl) row (by rw [List.length_map]; exact hl2)).mono (fun x hx => ?_) fun x hx => hx.2⟩
    have := row.lt x hx
    have := k1.sz
    exact ⟨by omega, by omega⟩
  · rintro e w' ⟨v, rfl, a, l, c, rfl, h⟩
    exact ⟨a, l, c, rfl, h⟩
theorem keysS_call (mb : Option Nat) (w : World) : Calls Tryz.prog 135 #[.map mb] w fun e w' => e = .returned (.func (.func 183) #[] #[.pointer (some ⟨w.heap.size, 0, none⟩)]) ∧ w' = w.alloc (.cells #[.map mb] 144) := by
  refine (callsIn_wide (n := 6)).1 ?_
  exact AnyZI.keys_in Tryz.keysA Fence.wide 6 trivial rfl mb w
theorem sortedS_call {w w1 : World} {b : Nat} {m : List (Int × Value)} (h : MapIs w b m) (hs : m.length ≤ 1000000) (e : w1 = w.alloc (.cells #[.map (some b)] 144)) :
    Calls Tryz.prog 76 #[.func (.func 183) #[] #[.pointer (some ⟨w.heap.size, 0, none⟩)]] w1 fun e w' => ∃ (a : Option Addr) (c : Nat) (ks : List Int), e = .returned (.slice a ks.length c) ∧ ks = (m.map (·.1)).mergeSort (fun x y => decide (x ≤ y)) ∧
      w'.ownsRow w.heap.size 3 1 (.slice a ks.length c) ks.length (ks.map (Value.int .i64)) ∧ Kept none' w w' := by
  subst e
  obtain ⟨D, hown, hperm, hsz⟩ := map_owns (P := Tryz.prog) (kt := 3) Tryz.underlying3 h (by unfold maxLen; omega)
  have hbl := h.lt
  have hseq : SeqGives Fence.wide 3 Tryz.prog 183 #[.pointer (some ⟨w.heap.size, 0, none⟩)] encZ (fun ss => ss.Perm (intKeys D)) (Maps.size D) (w.alloc (.cells #[.map (some b)] 144)) :=
    AnyZI.keys_gives (ρ := Tryz.keysA_ren) { Tryz.keysA with } Fence.wide _ trivial rfl (by omega) w.heap.size b m.length D _ (by simp) (by simp) (by
      obtain ⟨es, clock, hb, Ft, hs, hD⟩ := hown
      exact ⟨es, clock, (Below.heap_alloc _ _ b hbl).trans hb, Ft, hs, hD⟩)
  have cS := AnyZI.sorted_in Tryz.sortedA Fence.wide 6 trivial trivial trivial trivial rfl (by omega) (sortsA _) (enters_of Tryz.func131 (by kernel_rfl) rfl) 183 #[.pointer (some ⟨w.heap.size, 0, none⟩)] trivial (enters_of Tryz.func183 (by kernel_rfl) rfl) _ _ (by rw [hsz]; unfold maxLen; omega) (by rw [hsz]; omega) _ hseq
  change CallsIn _ _ Tryz.prog 76 _ _ _ at cS
  refine ((callsIn_wide (n := 6)).1 cS).mono ?_
  rintro e w' ⟨v, ss, rfl, hS, hrow, hnil, hb⟩
  have hks : ss.mergeSort (fun x y => decide (x ≤ y)) = (m.map (·.1)).mergeSort (fun x y => decide (x ≤ y)) := mergeSort_of_perm_i (hS.trans hperm)
  have hlen : ss.length = ((m.map (·.1)).mergeSort (fun x y => decide (x ≤ y))).length := by rw [← hks, List.length_mergeSort]
  rw [hks, hlen] at hrow
  have hv : ∃ a c, v = .slice a ((m.map (·.1)).mergeSort (fun x y => decide (x ≤ y))).length c := by
    rcases hrow.2 with ⟨rfl, h0⟩ | ⟨g, cap, cur, rfl, _⟩
    · exact ⟨none, 0, by rw [h0]⟩
    · exact ⟨_, _, rfl⟩
  obtain ⟨a, c, rfl⟩ := hv
  refine ⟨a, c, _, rfl, rfl, ownsRow_base_a hrow (by simp), ?_⟩
  have k1 : Kept none' w (w.alloc (.cells #[.map (some b)] 144)) := (Kept.refl _ _).alloc _ _
  exact k1.trans (X := none') (Y := none') ⟨hb.os, hb.tape, hb.output, hb.size, fun i hi _ => hb.block i hi⟩ (fun _ _ h => h)
theorem frames0 {w : World} {size : Int} {u : Value} {H : Nat → Prop} (h : Cache0 size u H w) : Calls Tryz.prog 79 #[u] w fun e w' => ∃ a c, e = .returned (.slice a 0 c) ∧ Kept none' w w' := by
  obtain ⟨b, m, rfl, o, M, _⟩ := h.ex
  refine (vc79 (some ⟨b, 0, none⟩) w (fun v w' => ∃ a c, v = (.slice a 0 c) ∧ Kept none' w w') ?_).mono ?_
  · unfold vcP79
    have h2 : rd w b (0 + 2) = some (.map (some m)) := by rw [o.rd]; rfl
    refine ⟨_, fun _ => h2, Wif_no rfl (Wif_yes rfl ⟨_, h2, (keysS_call (some m) w).mono ?_⟩)⟩
    rintro _ w1 ⟨rfl, e1⟩
    refine ⟨_, rfl, (sortedS_call M (by simp) e1).mono ?_⟩
    rintro _ w2 ⟨a, c, ks, rfl, hks, _, k2⟩
    have : ks.length = 0 := by rw [hks]; simp
    rw [this]
    exact ⟨a, 0, c, rfl, a, c, rfl, k2⟩
  · rintro e w' ⟨v, rfl, a, c, rfl, h⟩
    exact ⟨a, c, rfl, h⟩
end Go.Proofs.YtklmokolnakkoaaGreatDoor
