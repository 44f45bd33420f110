/-
  A part of a proof that a law of this seat returns true at every input. Conditions: those in each theorem.
-/
import Derived.Test.YtklmokolnakkoaaGreatDoorM6
set_option linter.unusedSimpArgs false
set_option linter.unusedVariables false
set_option maxRecDepth 100000
namespace Go.Proofs.YtklmokolnakkoaaGreatDoor
open Go Go.Eng
theorem elLeaf : ElT Tryz.prog 88 246 2 := elT (z := .agg #[.int .i64 0, .int .i64 0]) Tryz.underlying88 (by kernel_rfl) rfl (by decide)
theorem elMapped : ElT Tryz.prog 89 96 3 := elT (z := .agg #[.int .i64 0, .int .u8 0, .int .i64 0]) Tryz.underlying89 (by kernel_rfl) rfl (by decide)
def leafV (x : Int × Int) : List Value := [vi x.1, vi x.2]
def mapV (x : Mapped) : List Value := [vi x.page, .int .u8 x.kind, vi x.n]
theorem st6 {w w' : World} {b : Nat} {cs : List Value} {v0 v1 v2 v3 v4 v5 : Value} (h : own w b cs) (hl : cs.length = 6) (e : w' = st (st (st (st (st (st w b 0 v0) b 1 v1) b 2 v2) b 3 v3) b 4 v4) b 5 v5) : own w' b [v0, v1, v2, v3, v4, v5] ∧ Kept (· = b) w w' := by
  subst e
  match cs, hl with
  | [a, c, d, e, f, g], _ => exact ⟨h.st_same.st_same.st_same.st_same.st_same.st_same, ((((((Kept.refl (· = b) w).st (.inl rfl)).st (.inl rfl)).st (.inl rfl)).st (.inl rfl)).st (.inl rfl)).st (.inl rfl)⟩
theorem wr6 {w : World} {b : Nat} {cs : List Value} (h : own w b cs) (hl : cs.length = 6) : wr w b 0 ∧ wr w b 1 ∧ wr w b 2 ∧ wr w b 3 ∧ wr w b 4 ∧ wr w b 5 := ⟨h.wr (by omega), h.wr (by omega), h.wr (by omega), h.wr (by omega), h.wr (by omega), h.wr (by omega)⟩
theorem rd6 {w : World} {b : Nat} {v0 v1 v2 v3 v4 v5 : Value} (h : own w b [v0, v1, v2, v3, v4, v5]) : rd w b 0 = some v0 ∧ rd w b 1 = some v1 ∧ rd w b 2 = some v2 ∧ rd w b 3 = some v3 ∧ rd w b 4 = some v4 ∧ rd w b 5 = some v5 := ⟨by rw [h.rd]; rfl, by rw [h.rd]; rfl, by rw [h.rd]; rfl, by rw [h.rd]; rfl, by rw [h.rd]; rfl, by rw [h.rd]; rfl⟩
abbrev zero6 : List Value := [vi 0, vi 0, .slice none 0 0, .slice none 0 0, .slice none 0 0, .slice none 0 0]
def procOf (S : Mach) (i : Nat) : Proc := ⟨i, S.root i, leavesOf S.by' S.n (S.root i) 32, pagesOf S.by' S.n (S.root i) 1024, [], []⟩
set_option maxHeartbeats 4000000 in
theorem process_spec {w : World} {k b : Nat} {S : Mach} {fp : Prt → Nat → Prop} (h : CoreAt w k S fp) {i : Nat} (hi : i < 9) (hb : S.sp i = some b) (hby : ByR S.by') :
    Calls Tryz.prog 73 #[ptr k, vi i, ptr b] w fun e w' => ∃ (x y : Int) (a1 : Option Addr) (l1 c1 : Nat) (a2 : Option Addr) (l2 c2 : Nat) (a3 : Option Addr) (l3 c3 : Nat) (a4 : Option Addr) (l4 c4 : Nat),
      e = .returned (.agg #[vi x, vi y, .slice a1 l1 c1, .slice a2 l2 c2, .slice a3 l3 c3, .slice a4 l4 c4]) ∧ Kept none' w w' ∧ At (rng w w') (fun W' => RProc W' [vi x, vi y, .slice a1 l1 c1, .slice a2 l2 c2, .slice a3 l3 c3, .slice a4 l4 c4] (procOf S i)) w' := by
  refine (vc73 _ i _ w (fun v w' => ∃ (x y : Int) (a1 : Option Addr) (l1 c1 : Nat) (a2 : Option Addr) (l2 c2 : Nat) (a3 : Option Addr) (l3 c3 : Nat) (a4 : Option Addr) (l4 c4 : Nat),
      v = (.agg #[vi x, vi y, .slice a1 l1 c1, .slice a2 l2 c2, .slice a3 l3 c3, .slice a4 l4 c4]) ∧ Kept none' w w' ∧ At (rng w w') (fun W' => RProc W' [vi x, vi y, .slice a1 l1 c1, .slice a2 l2 c2, .slice a3 l3 c3, .slice a4 l4 c4] (procOf S i)) w') ?_).mono ?_
  rotate_left
  · rintro e w' ⟨v, rfl, x, y, a1, l1, c1, a2, l2, c2, a3, l3, c3, a4, l4, c4, rfl, hw⟩
    exact ⟨x, y, a1, l1, c1, a2, l2, c2, a3, l3, c3, a4, l4, c4, rfl, hw⟩
  unfold vcP73
  intro w1 e1
  have or1 : own w1 w.heap.size zero6 := own_alloc e1
  have k1 : Kept none' w w1 := (Kept.refl _ _).al e1
  have hs1 := or1.lt
  clear e1
  have SP0 : SpaceAt w1 (fp (.space i)) b (S.root i) := (h.k k1).at' (.space i) b hb
  obtain ⟨ab, pb', wb, mb', s1, s2, s3, s4, _, _⟩ := SP0.ex
  obtain ⟨bb, mb, M0, hm1, hm2, hm3⟩ := (h.k k1).at' .mem
  have hl1 := h.lt _ _ hm1
  have hl2 := h.lt _ _ hm2
  have hl3 := h.lt _ _ hm3
  have r0 : ∀ {W : World}, Kept none' w1 W → rd W b 0 = some (ptr ab) := fun kk => by rw [(s1.k kk).rd]; rfl
  have r1 : ∀ {W : World}, Kept none' w1 W → rd W b (0 + 1) = some (vi (S.root i)) := fun kk => by rw [(s1.k kk).rd]; rfl
  have r2 : ∀ {W : World}, Kept none' w1 W → rd W b (0 + 2) = some (ptr pb') := fun kk => by rw [(s1.k kk).rd]; rfl
  have pins : ∀ {W : World} {cb : Nat}, Kept none' w1 W → own W cb [ptr pb'] → Calls Tryz.prog 124 #[.func (.func 173) #[] #[ptr cb]] W fun e w' => ∃ a l c, e = .returned (.slice a l c) ∧ Kept none' W w' ∧ NoL a l c := fun kk o => pins_spec (by rw [o.rd]; rfl) (s3.k kk) (s4.k kk)
  have runs : ∀ {W : World} {cb : Nat}, Kept none' w1 W → own W cb [ptr ab] → Calls Tryz.prog 126 #[.func (.func 177) #[] #[ptr cb]] W fun e w' => ∃ a l c, e = .returned (.slice a l c) ∧ Kept none' W w' ∧ NoL a l c := fun kk o => runs_spec (by rw [o.rd]; rfl) (s2.k kk)
  refine ⟨fun p W => ∃ (b1 : Nat) (a : Option Addr) (l c : Nat) (a' : Option Addr) (l' c' : Nat), p = some ⟨b1, 0, none⟩ ∧ Kept none' w1 W ∧ own W b1 [vi i, vi (S.root i), .slice none 0 0, .slice none 0 0, .slice a l c, .slice a' l' c'] ∧ w1.heap.size ≤ b1 ∧ NoL a l c ∧ NoL a' l' c', ?_, ?_⟩
  · -- the orders
    have fin : ∀ {W : World} {bx : Nat} {a : Option Addr} {l c : Nat} {a' : Option Addr} {l' c' : Nat}, own W bx zero6 → Kept none' w1 W → w1.heap.size ≤ bx → NoL a l c → NoL a' l' c' →
        (wr W bx 0 ∧ wr W bx 1 ∧ wr W bx 2 ∧ wr W bx 3 ∧ wr W bx 4 ∧ wr W bx 5) ∧ ∀ w_3 : World, w_3 = st (st (st (st (st (st W bx 0 (vi i)) bx 1 (vi (S.root i))) bx 2 (.slice none 0 0)) bx 3 (.slice none 0 0)) bx 4 (.slice a l c)) bx 5 (.slice a' l' c') →
          (fun (p : Option Addr) (W : World) => ∃ (b1 : Nat) (a : Option Addr) (l c : Nat) (a' : Option Addr) (l' c' : Nat), p = some ⟨b1, 0, none⟩ ∧ Kept none' w1 W ∧ own W b1 [vi i, vi (S.root i), .slice none 0 0, .slice none 0 0, .slice a l c, .slice a' l' c'] ∧ w1.heap.size ≤ b1 ∧ NoL a l c ∧ NoL a' l' c') (some ⟨bx, 0, none⟩) w_3 := fun o kk hx N1 N2 => by
      refine ⟨wr6 o rfl, fun w3 e3 => ?_⟩
      obtain ⟨o3, k3⟩ := st6 o rfl e3
      exact ⟨_, _, _, _, _, _, _, rfl, own0 kk k3 fun x e => by omega, o3, hx, N1, N2⟩
    intro w2 e2
    have k2 : Kept none' w1 w2 := (Kept.refl _ _).dr e2
    have hs2 := k2.sz
    refine Wif_yes rfl ⟨_, r1 k2, Wif_yes rfl ⟨_, r2 k2, Wif_yes rfl ⟨_, r0 k2, fun w3 e3 => ?_, fun w3 e3 => ?_⟩⟩⟩
    · have o3 : own w3 w2.heap.size [ptr pb'] := own_alloc e3
      have k3 : Kept none' w1 w3 := k2.al e3
      have hs3 := k3.sz
      refine ⟨⟨r0 k3, trivial⟩, ⟨r1 k3, trivial⟩, (pins k3 o3).mono ?_, fun w4 e4 => ?_⟩
      · rintro _ w4 ⟨a, l, c, rfl, k34, N1⟩
        have k4 := k3.tr k34
        have hs4 := k4.sz
        refine ⟨a, l, c, rfl, ⟨r0 k4, trivial⟩, ⟨r1 k4, trivial⟩, fun w5 e5 => ?_, fun w5 e5 => ?_⟩
        · have o5 : own w5 w4.heap.size [ptr ab] := own_alloc e5
          have k5 : Kept none' w1 w5 := k4.al e5
          have hs5 := k5.sz
          refine ⟨⟨r1 k5, trivial⟩, (runs k5 o5).mono ?_, fun w6 e6 => ?_⟩
          · rintro _ w6 ⟨a', l', c', rfl, k56, N2⟩
            have k6 := k5.tr k56
            refine ⟨a', l', c', rfl, ⟨r1 k6, trivial⟩, fun w7 e7 => ?_⟩
            have o7 : own w7 w6.heap.size zero6 := own_alloc e7
            have k7 : Kept none' w1 w7 := k6.al e7
            exact ⟨⟨r1 k7, trivial⟩, fin o7 k7 k6.sz N1 N2⟩
          · have o6 : own w6 w5.heap.size zero6 := own_alloc e6
            have k6 : Kept none' w1 w6 := k5.al e6
            refine ⟨⟨r1 k6, trivial⟩, (runs k6 (o5.al e6)).mono ?_⟩
            rintro _ w7 ⟨a', l', c', rfl, k67, N2⟩
            have k7 := k6.tr k67
            exact ⟨a', l', c', rfl, ⟨r1 k7, trivial⟩, fin (o6.k k67) k7 k5.sz N1 N2⟩
        · have o5 : own w5 w4.heap.size zero6 := own_alloc e5
          have k5 : Kept none' w1 w5 := k4.al e5
          refine ⟨⟨r0 k5, trivial⟩, ⟨r1 k5, trivial⟩, fun w6 e6 => ?_⟩
          have o6 : own w6 w5.heap.size [ptr ab] := own_alloc e6
          have k6 : Kept none' w1 w6 := k5.al e6
          refine ⟨⟨r1 k6, trivial⟩, (runs k6 o6).mono ?_⟩
          rintro _ w7 ⟨a', l', c', rfl, k67, N2⟩
          have k7 := k6.tr k67
          exact ⟨a', l', c', rfl, ⟨r1 k7, trivial⟩, fin ((o5.al e6).k k67) k7 k4.sz N1 N2⟩
      · have o4 : own w4 w3.heap.size zero6 := own_alloc e4
        have k4 : Kept none' w1 w4 := k3.al e4
        refine ⟨⟨r0 k4, trivial⟩, ⟨r1 k4, trivial⟩, (pins k4 (o3.al e4)).mono ?_⟩
        rintro _ w5 ⟨a, l, c, rfl, k45, N1⟩
        have k5 := k4.tr k45
        refine ⟨a, l, c, rfl, ⟨r0 k5, trivial⟩, ⟨r1 k5, trivial⟩, fun w6 e6 => ?_⟩
        have o6 : own w6 w5.heap.size [ptr ab] := own_alloc e6
        have k6 : Kept none' w1 w6 := k5.al e6
        refine ⟨⟨r1 k6, trivial⟩, (runs k6 o6).mono ?_⟩
        rintro _ w7 ⟨a', l', c', rfl, k67, N2⟩
        have k7 := k6.tr k67
        exact ⟨a', l', c', rfl, ⟨r1 k7, trivial⟩, fin (((o4.k k45).al e6).k k67) k7 k3.sz N1 N2⟩
    · have o3 : own w3 w2.heap.size zero6 := own_alloc e3
      have k3 : Kept none' w1 w3 := k2.al e3
      refine ⟨⟨r0 k3, trivial⟩, ⟨r2 k3, trivial⟩, ⟨r1 k3, trivial⟩, fun w4 e4 => ?_⟩
      have o4 : own w4 w3.heap.size [ptr pb'] := own_alloc e4
      have k4 : Kept none' w1 w4 := k3.al e4
      refine ⟨⟨r0 k4, trivial⟩, ⟨r1 k4, trivial⟩, (pins k4 o4).mono ?_⟩
      rintro _ w5 ⟨a, l, c, rfl, k45, N1⟩
      have k5 := k4.tr k45
      refine ⟨a, l, c, rfl, ⟨r0 k5, trivial⟩, ⟨r1 k5, trivial⟩, fun w6 e6 => ?_⟩
      have o6 : own w6 w5.heap.size [ptr ab] := own_alloc e6
      have k6 : Kept none' w1 w6 := k5.al e6
      refine ⟨⟨r1 k6, trivial⟩, (runs k6 o6).mono ?_⟩
      rintro _ w7 ⟨a', l', c', rfl, k67, N2⟩
      have k7 := k6.tr k67
      exact ⟨a', l', c', rfl, ⟨r1 k7, trivial⟩, fin ((((o3.al e4).k k45).al e6).k k67) k7 hs2 N1 N2⟩
  rintro _ w2 ⟨b1, a, l, c, a', l', c', rfl, k2, ob, hb1, N1, N2⟩
  intro w3 e3
  have k3 : Kept none' w1 w3 := k2.dr e3
  have ob3 := ob.dr e3
  have rk : ∀ {W : World}, Kept none' w1 W → rd W k (0 + 94) = some (ptr S.pm) := fun kk => by rw [Nat.zero_add]; exact ((h.k k1).k kk).rt (j := 0) rfl
  refine Wif_yes rfl ⟨_, rk k3, Wif_yes rfl ⟨_, r1 k3, fun w4 e4 w5 e5 => ?_⟩⟩
  have x4 : own w4 w3.heap.size [ptr S.pm] := own_alloc e4
  have x4' := x4.al e5
  have x5 : own w5 w4.heap.size [vi (S.root i)] := own_alloc e5
  have k5 : Kept none' w1 w5 := (k3.al e4).al e5
  have ob5 := (ob3.al e4).al e5
  have hc1 := x4.lt
  have hc2 := x5.lt
  have hbl := ob3.lt
  have hs3 := k3.sz
  clear e3 e4 e5 x4 ob ob3 k2
  generalize w3.heap.size = c1 at *
  generalize w4.heap.size = c2 at *
  have hn := h.n4
  have hR : ∀ x, memR c1 c2 S.pm bb mb x → x < w5.heap.size ∧ x ≠ b1 := fun x hx => by
    rcases hx with hx | hx | hx | hx | hx <;> omega
  have fl2 : ∀ x : Int × Int, (leafV x).length = 2 := fun _ => rfl
  have fl3 : ∀ x : Mapped, (mapV x).length = 3 := fun _ => rfl
  have hl32 := leavesOf_len S.by' S.n (S.root i) 32
  have hl1024 := pagesOf_len S.by' S.n (S.root i) 1024
  refine ⟨(leavesOf S.by' S.n (S.root i) 32).map fun x => [vi x.1, vi x.2], memR c1 c2 S.pm bb mb, SeqJ b1 w5.heap.size [vi i, vi (S.root i), .slice none 0 0, .slice none 0 0, .slice a l c, .slice a' l' c'] 2 w5 246 2 leafV (leavesOf S.by' S.n (S.root i) 32), fun _ _ _ => False,
    ⟨leaves_gives (M0.k k5) hby (by omega) x4' x5, fun ys hx => ?_, fun x hx => (hR x hx).1⟩, fun W kW _ => ?_, fun Y j W W' h hY k' => h.ab (by omega) rfl hY k', fun _ _ _ _ h => h.elim, fun Y j W h hY hsz n1 n2 hv => ?_, fun Y W h hd => ?_, fun _ _ h => h.elim, trivial⟩
  · obtain ⟨x, _, rfl⟩ := List.mem_map.1 hx
    exact ⟨rfl, _, _, rfl⟩
  · exact ⟨kW.mono fun _ _ h => h.elim, Nat.zero_le _, none, 0, ob5.k kW, World.ownsRow_nil _ _ _ _, fun x h => h.elim⟩
  · have hx : (leavesOf S.by' S.n (S.root i) 32)[j]? = some (n1, n2) := by
      rw [List.getElem?_map] at hv
      cases hh : (leavesOf S.by' S.n (S.root i) 32)[j]? with
      | none => rw [hh] at hv; cases hv
      | some x =>
        rw [hh] at hv
        simp at hv
        rw [← hv.1, ← hv.2]
    refine ⟨recKept_of (Kept.refl none' W) (by omega) id id, fun w7 k7 hs7 => ?_⟩
    obtain ⟨a2, cc, h1, h2⟩ := h.step elLeaf (by show 2 < 6; decide) (by omega) rfl hY hsz (by omega) hR hx fl2 (fun u hu => by simp [leafV] at hu; rcases hu with rfl | rfl <;> rfl) k7 fun b hb => .inl hb
    refine Wif_yes rfl ⟨a2, j, cc, h1, fun w8 e8 => ?_⟩
    obtain ⟨a3, l3, c3, w9, p1, p2, p3⟩ := h2 w8 e8
    exact ⟨a3, l3, c3, w9, p1, Wif_yes rfl ⟨p2, p3⟩⟩
  · rw [List.length_map] at h
    obtain ⟨a2, cc, oW, row⟩ := h.fin
    have kW : Kept none' w1 W := own0 k5 h.kp fun x e => by omega
    have hkp := h.kp
    clear h
    intro w6 e6
    have k6 : Kept none' w1 w6 := kW.dr e6
    have o6 := oW.dr e6
    have row6 := ownsRow_kx row ((Kept.refl none' W).dr e6) fun _ _ _ _ => id
    have hs6 : w6.heap.size = W.heap.size := by rw [e6]; rfl
    have d6 : DefAt w5.heap.size w6 := hd.k ((Kept.refl none' W).dr e6) id
    refine Wif_yes rfl ⟨_, rk k6, Wif_yes rfl ⟨_, r1 k6, fun w7 e7 w8 e8 => ?_⟩⟩
    have y7 : own w7 w6.heap.size [ptr S.pm] := own_alloc e7
    have y7' := y7.al e8
    have y8 : own w8 w7.heap.size [vi (S.root i)] := own_alloc e8
    have k68 : Kept none' w6 w8 := ((Kept.refl _ _).al e7).al e8
    have k8 := k6.tr k68
    have o8 := o6.k k68
    have row8 := ownsRow_kx row6 k68 fun _ _ _ _ => id
    have d8 : DefAt w5.heap.size w8 := d6.k k68 id
    have hd1 := y7.lt
    have hd2 := y8.lt
    have hsW := hkp.sz
    have hB1 : w5.heap.size < w6.heap.size := (Array.getElem?_eq_some_iff.1 d6.at_).1
    clear e6 e7 e8 y7 oW row hd
    generalize w6.heap.size = c3 at *
    generalize w7.heap.size = c4 at *
    have hR2 : ∀ x, memR c3 c4 S.pm bb mb x → x < w8.heap.size ∧ x ≠ b1 := fun x hx => by
      rcases hx with hx | hx | hx | hx | hx <;> omega
    refine ⟨(pagesOf S.by' S.n (S.root i) 1024).map fun x => [vi x.page, .agg #[.int .u8 x.kind, vi x.n]], memR c3 c4 S.pm bb mb, SeqJ b1 w8.heap.size [vi i, vi (S.root i), .slice a2 (leavesOf S.by' S.n (S.root i) 32).length cc, .slice none 0 0, .slice a l c, .slice a' l' c'] 3 w8 96 3 mapV (pagesOf S.by' S.n (S.root i) 1024), fun _ _ _ => False,
      ⟨pages_gives (M0.k k8) hby (by omega) y7' y8, fun ys hx => ?_, fun x hx => (hR2 x hx).1⟩, fun V kV _ => ?_, fun Y j W W' h hY k' => h.ab (by omega) rfl hY k', fun _ _ _ _ h => h.elim, fun Y j V h hY hsz n1 n2 n3 hv => ?_, fun Y V h hd => ?_, fun _ _ h => h.elim, trivial⟩
    · obtain ⟨x, _, rfl⟩ := List.mem_map.1 hx
      exact ⟨rfl, _, _, _, rfl⟩
    · exact ⟨kV.mono fun _ _ h => h.elim, Nat.zero_le _, none, 0, o8.k kV, World.ownsRow_nil _ _ _ _, fun x h => h.elim⟩
    · have hx : (pagesOf S.by' S.n (S.root i) 1024)[j]? = some ⟨n1, n2, n3⟩ := by
        rw [List.getElem?_map] at hv
        cases hh : (pagesOf S.by' S.n (S.root i) 1024)[j]? with
        | none => rw [hh] at hv; cases hv
        | some x =>
          rw [hh] at hv
          simp at hv
          rw [← hv.1, ← hv.2.1, ← hv.2.2]
      intro v1 f1
      have z1 : own v1 V.heap.size [.int .u8 0, vi 0] := own_alloc f1
      have kv1 : Kept none' V v1 := (Kept.refl _ _).al f1
      refine ⟨wr2 z1, fun v2 f2 => ?_⟩
      obtain ⟨z2, kv2'⟩ := st2w z1 f2
      have kv2 : Kept none' V v2 := own0 kv1 kv2' fun x e => by omega
      have hz2 := z2.lt
      refine ⟨recKept_of kv2 (by omega) id id, fun w7 k7 hs7 => ?_⟩
      have k7V : Kept (fun b => b = w8.heap.size + 1) V w7 := (kv2.mono fun _ _ e => e.elim).trans k7 fun _ _ e => e
      have z7 := z2.kx k7 (by omega)
      obtain ⟨a3, cc3, h1, h2⟩ := h.step elMapped (by show 3 < 6; decide) (by omega) rfl hY hsz (by omega) hR2 hx fl3 (fun u hu => by simp [mapV] at hu; rcases hu with rfl | rfl | rfl <;> rfl) k7V fun b hb => .inl hb
      refine Wif_yes rfl ⟨a3, j, cc3, h1, n2, n3, rd2 z7, fun w9 e9 => ?_⟩
      obtain ⟨a4, l4, c4, w10, p1, p2, p3⟩ := h2 w9 e9
      exact ⟨a4, l4, c4, w10, p1, Wif_yes rfl ⟨p2, p3⟩⟩
    · rw [List.length_map] at h
      obtain ⟨a3, cc3, oV, rowP⟩ := h.fin
      have hkV := h.kp
      have kV : Kept none' w1 V := own0 k8 hkV fun x e => by omega
      have rowL := ownsRow_kx row8 hkV fun x hx _ _ e => by omega
      have dB : DefAt w5.heap.size V := d8.k hkV (by omega)
      clear h
      have hB2 : w8.heap.size < V.heap.size := (Array.getElem?_eq_some_iff.1 hd.at_).1
      have orV := or1.k kV
      refine Wif_yes rfl ⟨_, _, _, _, _, _, _, _, _, _, _, _, _, _, rd6 oV, wr6 orV rfl, fun v1 f1 => ?_⟩
      obtain ⟨or2, kr2⟩ := st6 orV rfl f1
      have dV : DefAt w8.heap.size v1 := hd.k kr2 (by omega)
      have dB1 : DefAt w5.heap.size v1 := dB.k kr2 (by omega)
      refine ⟨⟨by simp; omega, fun D hD => ?_⟩, fun v2 kv2 hsv => ?_⟩
      · simp at hD
        rcases hD with rfl | rfl
        · exact dV.at_
        · exact dB1.at_
      · have hmem : ∀ x : Nat, List.Mem x [w8.heap.size, w5.heap.size] → x = w8.heap.size ∨ x = w5.heap.size := fun x hx => by
          have : x ∈ [w8.heap.size, w5.heap.size] := hx
          simpa using this
        have or3 := or2.kx kv2 fun hx => by rcases hmem _ hx with h | h <;> omega
        have rowP2 := ownsRow_kx (ownsRow_kx rowP kr2 fun x hx _ _ e => by omega) kv2 fun x hx _ _ e => by rcases hmem _ e with h | h <;> omega
        have rowL2 := ownsRow_kx (ownsRow_kx rowL kr2 fun x hx _ _ e => by omega) kv2 fun x hx _ hh e => by
          have := (row8.lt x hh).2
          rcases hmem _ e with h | h <;> omega
        have Kf : Kept none' w v2 := own0 (own0 (k1.tr kV) kr2 fun x e => by omega) kv2 fun x e => by rcases hmem _ e with h | h <;> omega
        have hsz1 := kr2.sz
        have hsz2 := kv2.sz
        refine ⟨_, _, _, _, _, _, _, _, _, _, _, _, _, _, rd6 or3, _, _, _, _, _, _, _, _, _, _, _, _, _, _, rfl, Kf, ?_⟩
        have A1 := at_flat (f := leafV) fl2 rowL2 rfl
        have A2 := at_flat (f := mapV) fl3 rowP2 rfl
        refine ((A1.and A2).imp fun W' hW => ?_).mono (fun x hx => ?_) fun x hx => hx.2
        · exact ⟨a2, _, cc, a3, _, cc3, a, l, c, a', l', c', rfl, hW.1, hW.2, N1.slR, N2.slR⟩
        · rcases hx with hx | hx
          · have := (rowL2.lt x hx); exact ⟨by omega, this.2⟩
          · have := (rowP2.lt x hx); exact ⟨by omega, this.2⟩
theorem procC_of {w : World} {k : Nat} {S : Mach} {fp : Prt → Nat → Prop} (h : CoreAt w k S fp) (hby : ByR S.by') : ProcC S (procOf S) k w := fun i b W hi hb kk => process_spec (h.k kk) hi hb hby
abbrev Mach.setRm (S : Mach) (of : Nat → Int × Int) (at' : List ((Int × Int) × Value)) : Mach := { S with rof := of, rat := at' }
abbrev Mach.setBy (S : Mach) (b : Nat → Int) : Mach := { S with by' := b }
abbrev Mach.setMk (S : Mach) (m : Nat → Mark) : Mach := { S with mks := m }
abbrev Mach.setCk (S : Mach) (i : Nat) (r : List Int) (o : List (Int × Value)) : Mach := { S with ring := upd S.ring i r, cof := upd S.cof i o }
abbrev Mach.setL (S : Mach) (L : Nat → List Bk) : Mach := { S with L := L }
structure Step (w w' : World) (k : Nat) (S' : Mach) (fp : Prt → Nat → Prop) : Prop where
  kp : Kept (fun x => ∃ p, fp p x) w w'
  ex : ∃ fp', CoreAt w' k S' fp' ∧ ∀ p x, fp' p x → fp p x ∨ rng w w' x
section
variable {w w' : World} {k : Nat} {S : Mach} {fp : Prt → Nat → Prop}
theorem CoreAt.step0 (h : CoreAt w k S fp) (kk : Kept none' w w') : Step w w' k S fp := ⟨kk.mono fun _ _ e => e.elim, fp, h.k kk, fun _ _ h => .inl h⟩
theorem CoreAt.step1 {S' : Mach} {X : Nat → Prop} (h : CoreAt w k S fp) (q : Prt) (kk : Kept X w w') (hX : ∀ x, X x → fp q x) (hc : S'.c = S.c) (hS : ∀ p F w, ¬ p = q → PAt S k p F w → PAt S' k p F w) (hq : PAt S' k q (fun x => fp q x ∨ rng w w' x) w') : Step w w' k S' fp := by
  refine ⟨kk.mono fun x _ e => ⟨q, hX x e⟩, _, h.upd (· = q) q kk (fun x hx _ => ⟨q, rfl, hX x hx⟩) hc hS rfl fun p hp => ?_, fun p x hx => hx.imp id fun e => e.2⟩
  subst hp
  have e : (fun x => fp p x ∨ (p = p ∧ rng w w' x)) = fun x => fp p x ∨ rng w w' x := by funext x; simp
  rw [e]
  exact hq
theorem Step.tr {w2 : World} {S1 S2 : Mach} {fp1 : Prt → Nat → Prop} (h : Step w w' k S1 fp) (hf : ∀ p x, fp1 p x → fp p x ∨ rng w w' x) (h2 : Step w' w2 k S2 fp1) : Step w w2 k S2 fp := by
  have s1 := h.kp.sz
  have s2 := h2.kp.sz
  obtain ⟨fp2, C2, g2⟩ := h2.ex
  refine ⟨h.kp.trans h2.kp fun x hx e => ?_, fp2, C2, fun p x hx => ?_⟩
  · obtain ⟨p, hp⟩ := e
    rcases hf p x hp with h | h
    · exact ⟨p, h⟩
    · have := h.1; omega
  · rcases g2 p x hx with h | h
    · rcases hf p x h with h | h
      · exact .inl h
      · exact .inr ⟨h.1, by have := h.2; omega⟩
    · exact .inr ⟨by have := h.1; omega, h.2⟩
theorem CoreAt.mem (h : CoreAt w k S fp) : ∃ bb mb, MemAt w S.pm bb mb S.c S.n S.by' S.mks ∧ fp .mem S.pm ∧ fp .mem bb ∧ fp .mem mb := h.at' .mem
theorem core_set (h : CoreAt w k S fp) (hb : ByR S.by') (root page ek eN : Int) :
    Calls Tryz.prog 107 #[ptr S.pm, vi root, vi page, .agg #[.int .u8 ek, vi eN]] w fun e w' => e = .returned (vi (stE S.by' S.n root page ek eN)) ∧ Step w w' k (S.setBy (stS S.by' S.n root page ek eN)) fp := by
  obtain ⟨bb, mb, M, f1, f2, f3⟩ := h.mem
  refine (set_spec M hb h.n4.2.2 root page ek eN).mono ?_
  rintro e w' ⟨he, kk, M'⟩
  exact ⟨he, h.step1 .mem kk (fun x e => e ▸ f2) rfl (fun p F w hp hq => by cases p <;> first | exact hq | exact absurd rfl hp) ⟨bb, mb, M', .inl f1, .inl f2, .inl f3⟩⟩
theorem core_setLeaf (h : CoreAt w k S fp) (root page leaf : Int) :
    Calls Tryz.prog 97 #[ptr S.pm, vi root, vi page, vi leaf] w fun e w' => e = .returned (vi (slE S.n root page leaf)) ∧ Step w w' k (S.setBy (slS S.by' S.n root page leaf)) fp := by
  obtain ⟨bb, mb, M, f1, f2, f3⟩ := h.mem
  refine (setLeaf_spec M h.n4.2.2 root page leaf).mono ?_
  rintro e w' ⟨he, kk, M'⟩
  exact ⟨he, h.step1 .mem kk (fun x e => e ▸ f2) rfl (fun p F w hp hq => by cases p <;> first | exact hq | exact absurd rfl hp) ⟨bb, mb, M', .inl f1, .inl f2, .inl f3⟩⟩
theorem core_setMark (h : CoreAt w k S fp) (frame : Int) (x : Mark) :
    Calls Tryz.prog 95 #[ptr S.pm, vi frame, .agg (markV x).toArray] w fun e w' => e = .returned (vi (smE S.n frame x)) ∧ Step w w' k (S.setMk (smS S.mks S.n frame x)) fp := by
  obtain ⟨bb, mb, M, f1, f2, f3⟩ := h.mem
  refine (setMark_spec M frame x).mono ?_
  rintro e w' ⟨he, kk, M'⟩
  exact ⟨he, h.step1 .mem kk (fun x e => e ▸ f3) rfl (fun p F w hp hq => by cases p <;> first | exact hq | exact absurd rfl hp) ⟨bb, mb, M', .inl f1, .inl f2, .inl f3⟩⟩
theorem core_leaf (h : CoreAt w k S fp) (hb : ByR S.by') (root page : Int) : Calls Tryz.prog 105 #[ptr S.pm, vi root, vi page] w fun e w' => e = .returned (.tuple #[vi (lfN S.by' S.n root page), vi (lfE S.by' S.n root page)]) ∧ Kept none' w w' := by
  obtain ⟨bb, mb, M, _⟩ := h.mem
  exact leaf_spec M hb h.n4.2.2 root page
theorem core_rset (h : CoreAt w k S fp) {i : Nat} (hi : i < S.n) {pid page : Int} (hp : 1 ≤ pid ∧ pid ≤ 8) (hg : 0 ≤ page ∧ page < 1024) (hv : ∀ k v, S.rat.lookup k = some v → ∃ x : Int, v = vi x) :
    Calls Tryz.prog 106 #[ptr S.pr, vi i, vi pid, vi page] w fun e w' =>
      ((S.rof i).1 ≠ 0 ∧ e = .returned (vi 80) ∧ Step w w' k S fp) ∨ ((S.rof i).1 = 0 ∧ (S.rat.lookup (pid, page)).isSome = true ∧ e = .returned (vi 8) ∧ Step w w' k S fp) ∨
       ((S.rof i).1 = 0 ∧ S.rat.lookup (pid, page) = none ∧ e = .returned (vi 0) ∧ Step w w' k (S.setRm (upd S.rof i (pid, page)) (S.rat ++ [((pid, page), vi i)])) fp) := by
  obtain ⟨fb, mb, R, f1, f2, f3⟩ : ∃ fb mb, RmapAt w S.pr fb mb S.n S.rof S.rat ∧ fp .rmap S.pr ∧ fp .rmap fb ∧ fp .rmap mb := h.at' .rmap
  have hX : ∀ x, (x = fb ∨ x = mb) → fp .rmap x := fun x e => by rcases e with rfl | rfl <;> assumption
  refine (rset_spec R hi hp hg hv).mono ?_
  rintro e w' ⟨kk, ⟨h1, he, R'⟩ | ⟨h1, h2, he, R'⟩ | ⟨h1, h2, he, R'⟩⟩
  · exact .inl ⟨h1, he, h.step1 .rmap kk hX rfl (fun p F w hp hq => hq) ⟨fb, mb, R', .inl f1, .inl f2, .inl f3⟩⟩
  · exact .inr (.inl ⟨h1, h2, he, h.step1 .rmap kk hX rfl (fun p F w hp hq => hq) ⟨fb, mb, R', .inl f1, .inl f2, .inl f3⟩⟩)
  · exact .inr (.inr ⟨h1, h2, he, h.step1 .rmap kk hX rfl (fun p F w hp hq => by cases p <;> first | exact hq | exact absurd rfl hp) ⟨fb, mb, R', .inl f1, .inl f2, .inl f3⟩⟩)
theorem core_clk (h : CoreAt w k S fp) {i : Nat} (hi : i < S.nodes) : ∃ (g cp cb : Nat), S.vck = .slice (some ⟨g, 0, none⟩) S.nodes cp ∧ rd w g i = some (ptr cb) ∧
    (∀ {fr : Int}, ClOk (S.ring i) (S.cof i) → 0 ≤ fr ∧ fr ≤ 9223372036854775807 → fr ∉ S.ring i → (S.ring i).length ≤ 100000 →
      Calls Tryz.prog 108 #[ptr cb, vi fr] w fun e w' => e = .returned (vi 0) ∧ Step w w' k (S.setCk i (S.ring i ++ [fr]) (S.cof i ++ [(fr, mk2)])) fp) ∧
    (∀ {fr : Int} {j : Nat}, ClOk (S.ring i) (S.cof i) → FirstAt (S.ring i) fr j → (S.ring i).length ≤ 100000 →
      Calls Tryz.prog 112 #[ptr cb, vi fr] w fun e w' => e = .returned (vi 0) ∧ Step w w' k (S.setCk i (del (S.ring i) j) ((S.cof i).filter fun p => p.1 != fr)) fp) := by
  have R : RowA (fun i => ClockAt (S.ring i) (S.cof i)) S.nodes S.vck (fp .clocks) w := h.at' .clocks
  obtain ⟨g, cp, u, H, hv, hr, hA, hH, _⟩ := R.one (B := fun i => ClockAt (S.ring i) (S.cof i)) (w' := w) (fun _ _ => ClockAt.stb) hi fun _ _ => rfl
  obtain ⟨cb, _, _, _, _, rfl, _⟩ := hA.ex
  refine ⟨g, cp, cb, hv, hr, fun {fr} ok h1 h2 h3 => ?_, fun {fr j} ok h1 h2 => ?_⟩
  · obtain ⟨g2, cp2, u2, H2, hv2, hr2, hA2, hH2, hput⟩ := R.one (B := fun j => ClockAt (upd S.ring i (S.ring i ++ [fr]) j) (upd S.cof i (S.cof i ++ [(fr, mk2)]) j)) (w' := w) (fun _ _ => ClockAt.stb) hi fun j hj => by rw [upd_ne _ _ hj, upd_ne _ _ hj]
    have : u2 = ptr cb := by rw [hv] at hv2; cases hv2; rw [hr] at hr2; exact (Option.some.inj hr2).symm
    subst this
    refine (cadd_spec hA2 ok h1 h2 h3).mono ?_
    rintro e w' ⟨he, kk, A'⟩
    exact ⟨he, h.step1 .clocks kk (fun x hx => (hH2 x hx).1) rfl (fun p F w hp hq => by cases p <;> first | exact hq | exact absurd rfl hp) (hput w' kk (by rw [upd_same, upd_same]; exact A'))⟩
  · obtain ⟨g2, cp2, u2, H2, hv2, hr2, hA2, hH2, hput⟩ := R.one (B := fun t => ClockAt (upd S.ring i (del (S.ring i) j) t) (upd S.cof i ((S.cof i).filter fun p => p.1 != fr) t)) (w' := w) (fun _ _ => ClockAt.stb) hi fun t ht => by rw [upd_ne _ _ ht, upd_ne _ _ ht]
    have : u2 = ptr cb := by rw [hv] at hv2; cases hv2; rw [hr] at hr2; exact (Option.some.inj hr2).symm
    subst this
    refine (cremove_spec hA2 ok h1 h2).mono ?_
    rintro e w' ⟨he, kk, A'⟩
    exact ⟨he, h.step1 .clocks kk (fun x hx => (hH2 x hx).1) rfl (fun p F w hp hq => by cases p <;> first | exact hq | exact absurd rfl hp) (hput w' kk (by rw [upd_same, upd_same]; exact A'))⟩
theorem zbl_all {z i : Nat} (hi : i < S.Z.k) {x : Nat} (hx : S.Z.bl i x) : S.Z.all z x := .inr (.inr ⟨i, hi, hx⟩)
theorem core_zstep (h : CoreAt w k S fp) {i : Nat} (hi : i < S.Z.k) {l' : List Bk} (kk : Kept (S.Z.bl i) w w') (Z' : ZAt w' S.pz S.Z (upd S.L i l')) : Step w w' k (S.setL (upd S.L i l')) fp := by
  obtain ⟨Z, hZ, hc⟩ : ZAt w S.pz S.Z S.L ∧ (∀ x, S.Z.all S.pz x → fp .zones x) ∧ S.Z.c = S.c := h.at' .zones
  exact h.step1 .zones kk (fun x hx => hZ x (zbl_all hi hx)) rfl (fun p F w hp hq => by cases p <;> first | exact hq | exact absurd rfl hp) ⟨Z', fun x hx => .inl (hZ x hx), hc⟩
theorem CoreAt.zn (h : CoreAt w k S fp) : ZAt w S.pz S.Z S.L ∧ S.Z.c = S.c ∧ S.Z.k = S.nodes := by
  obtain ⟨Z, hZ, hc⟩ : ZAt w S.pz S.Z S.L ∧ (∀ x, S.Z.all S.pz x → fp .zones x) ∧ S.Z.c = S.c := h.at' .zones
  have := Z.kc
  rw [hc] at this
  have := h.sizes.1.2.2
  exact ⟨Z, hc, by omega⟩
theorem core_takeOf (h : CoreAt w k S fp) {i : Nat} (hi : i < S.nodes) (order : Int) (high : Bool) :
    Calls Tryz.prog 94 #[ptr S.pz, vi i, vi order, .bool high] w fun r w' => ∃ a e l', r = .returned (.tuple #[vi (if e = 0 then fstF S.c i + a else 0), vi e]) ∧ Step w w' k (S.setL (upd S.L i l')) fp ∧ TakeR (S.L i) order high a e l' := by
  obtain ⟨Z, hc, hk⟩ := h.zn
  refine (ztakeOf_spec Z (by omega) order high).mono ?_
  rintro r w' ⟨a, e, l', hr, kk, Z', T⟩
  rw [hc] at hr
  exact ⟨a, e, l', hr, core_zstep h (by omega) kk Z', T⟩
theorem core_give (h : CoreAt w k S fp) (fr order : Int) (hfr : -9223372036854775808 ≤ fr ∧ fr ≤ 9223372036854775807) :
    Calls Tryz.prog 109 #[ptr S.pz, vi fr, vi order] w fun r w' =>
      (∃ i e l', i < S.nodes ∧ fstF S.c i ≤ fr ∧ fr < fstF S.c (i + 1) ∧ r = .returned (vi e) ∧ Step w w' k (S.setL (upd S.L i l')) fp ∧ GiveR (S.L i) (fr - fstF S.c i) order e l') ∨
      ((fr < 0 ∨ fstF S.c S.nodes ≤ fr) ∧ r = .returned (vi 7) ∧ Step w w' k S fp) := by
  obtain ⟨Z, hc, hk⟩ := h.zn
  refine (zgive_spec Z fr order hfr).mono ?_
  rintro r w' (⟨i, e, l', hi, h1, h2, hr, kk, Z', G⟩ | ⟨h1, hr, kk⟩)
  · rw [hc] at h1 h2 G
    exact .inl ⟨i, e, l', by omega, h1, h2, hr, core_zstep h hi kk Z', G⟩
  · rw [hc, hk] at h1
    exact .inr ⟨h1, hr, h.step0 kk⟩
theorem core_node (h : CoreAt w k S fp) (fr : Int) (hfr : fr ≤ 9223372036854775807) : Calls Tryz.prog 104 #[ptr k, vi fr] w fun e w' => Kept none' w w' ∧
    ((∃ i : Nat, i < S.nodes ∧ fstF S.c i ≤ fr ∧ fr < fstF S.c (i + 1) ∧ e = .returned (vi i)) ∨ ((fr < 0 ∨ fstF S.c S.nodes ≤ fr) ∧ e = .returned (vi (-1)))) := by
  have hn := h.sizes.1.2.2
  refine (vc104 _ fr w (fun v w' => Kept none' w w' ∧ ((∃ i : Nat, i < S.nodes ∧ fstF S.c i ≤ fr ∧ fr < fstF S.c (i + 1) ∧ v = vi i) ∨ ((fr < 0 ∨ fstF S.c S.nodes ≤ fr) ∧ v = vi (-1)))) ?_).mono ?_
  · unfold vcP104
    refine Wif_no rfl (Wif_yes rfl ⟨S.c, h.rcfg, (node_spec S.c h.my w fr hfr).mono ?_⟩)
    rintro _ w1 ⟨k1, ⟨i, hi, h1, h2, rfl⟩ | ⟨h1, rfl⟩⟩
    · exact ⟨_, _, rfl, Wif_no rfl ⟨k1, .inl ⟨i, by omega, h1, h2, rfl⟩⟩⟩
    · exact ⟨_, _, rfl, Wif_yes rfl ⟨k1, .inr ⟨h1, rfl⟩⟩⟩
  · rintro e w' ⟨v, rfl, hk, ⟨i, h1, h2, h3, rfl⟩ | ⟨h1, rfl⟩⟩
    · exact ⟨hk, .inl ⟨i, h1, h2, h3, rfl⟩⟩
    · exact ⟨hk, .inr ⟨h1, rfl⟩⟩
end
theorem fst_le {c : Nat → Int} (hm : MayP c) {i j : Nat} (hij : i ≤ j) (hj : j ≤ (c 0).toNat) : fstF c i ≤ fstF c j := by
  induction j with
  | zero => rw [show i = 0 by omega]; exact Int.le_refl _
  | succ j ih =>
    by_cases h : i = j + 1
    · rw [h]; exact Int.le_refl _
    · have h1 := ih (by omega) (by omega)
      have h2 : fstF c (j + 1) = fstF c j + c (18 + j) := rfl
      have h3 := (hm.2.2.2.2.2.1 j (by omega)).1.1
      omega
section
variable {w w' : World} {k : Nat} {S : Mach} {fp : Prt → Nat → Prop}
theorem CoreAt.rtW (h : CoreAt w k S fp) {W : World} (kk : Kept none' w W) {j : Nat} {v : Value} (hj : (coreT S)[j]? = some v) : rd W k (0 + (94 + j)) = some v := by rw [Nat.zero_add]; exact (h.k kk).rt hj
theorem node_uniq {c : Nat → Int} (hm : MayP c) {i j : Nat} {f : Int} (hi : i < (c 0).toNat) (hj : j < (c 0).toNat) (h1 : fstF c i ≤ f) (h2 : f < fstF c (i + 1)) (h3 : fstF c j ≤ f) (h4 : f < fstF c (j + 1)) : i = j := by
  rcases Nat.lt_trichotomy i j with h | h | h
  · have := fst_le hm (i := i + 1) (j := j) (by omega) (by omega); omega
  · exact h
  · have := fst_le hm (i := j + 1) (j := i) (by omega) (by omega); omega
abbrev Mach.mapped (S : Mach) (i : Nat) (page : Int) (f : Nat) : Mach :=
  ((((S.setRm (upd S.rof f (1, page)) (S.rat ++ [((1, page), vi f)])).setBy (stS S.by' S.n (S.root 1) page 1 f)).setMk (smS S.mks S.n f ⟨4, 0, 1, page, 0⟩)).setCk i (S.ring i ++ [(f : Int)]) (S.cof i ++ [((f : Int), mk2)]))
set_option maxHeartbeats 2000000 in
theorem map_spec (h : CoreAt w k S fp) {b : Nat} (hb : S.sp 1 = some b) (hby : ByR S.by') (hv : ∀ kk v, S.rat.lookup kk = some v → ∃ x : Int, v = vi x) {f i : Nat} (hf : f < S.n) (hi : i < S.nodes) (h1 : fstF S.c i ≤ f) (h2 : (f : Int) < fstF S.c (i + 1))
    (ok : ClOk (S.ring i) (S.cof i)) (hno : (S.rof f).1 = 0 → (f : Int) ∉ S.ring i) (hl : (S.ring i).length ≤ 100000) (page : Int) :
    Calls Tryz.prog 25 #[ptr k, vi 1, vi page, vi f] w fun e w' =>
      ((page < 0 ∨ page ≥ 1024) ∧ e = .returned (vi 2) ∧ Step w w' k S fp) ∨
      ((0 ≤ page ∧ page < 1024) ∧ lfE S.by' S.n (S.root 1) page ≠ 0 ∧ e = .returned (vi 7) ∧ Step w w' k S fp) ∨
      ((0 ≤ page ∧ page < 1024) ∧ lfE S.by' S.n (S.root 1) page = 0 ∧ (S.rof f).1 ≠ 0 ∧ e = .returned (vi 80) ∧ Step w w' k S fp) ∨
      ((0 ≤ page ∧ page < 1024) ∧ lfE S.by' S.n (S.root 1) page = 0 ∧ (S.rof f).1 = 0 ∧ (S.rat.lookup (1, page)).isSome = true ∧ e = .returned (vi 8) ∧ Step w w' k S fp) ∨
      ((0 ≤ page ∧ page < 1024) ∧ lfE S.by' S.n (S.root 1) page = 0 ∧ (S.rof f).1 = 0 ∧ S.rat.lookup (1, page) = none ∧ e = .returned (vi 0) ∧ Step w w' k (S.mapped i page f) fp) := by
  refine (vc25 _ 1 page f w (fun v w' => ((page < 0 ∨ page ≥ 1024) ∧ v = (vi 2) ∧ Step w w' k S fp) ∨
      ((0 ≤ page ∧ page < 1024) ∧ lfE S.by' S.n (S.root 1) page ≠ 0 ∧ v = (vi 7) ∧ Step w w' k S fp) ∨
      ((0 ≤ page ∧ page < 1024) ∧ lfE S.by' S.n (S.root 1) page = 0 ∧ (S.rof f).1 ≠ 0 ∧ v = (vi 80) ∧ Step w w' k S fp) ∨
      ((0 ≤ page ∧ page < 1024) ∧ lfE S.by' S.n (S.root 1) page = 0 ∧ (S.rof f).1 = 0 ∧ (S.rat.lookup (1, page)).isSome = true ∧ v = (vi 8) ∧ Step w w' k S fp) ∨
      ((0 ≤ page ∧ page < 1024) ∧ lfE S.by' S.n (S.root 1) page = 0 ∧ (S.rof f).1 = 0 ∧ S.rat.lookup (1, page) = none ∧ v = (vi 0) ∧ Step w w' k (S.mapped i page f) fp)) ?_).mono ?_
  rotate_left
  · rintro e w' ⟨v, rfl, ⟨g1, rfl, g2⟩ | ⟨g1, g2, rfl, g3⟩ | ⟨g1, g2, g3, rfl, g4⟩ | ⟨g1, g2, g3, g4, rfl, g5⟩ | ⟨g1, g2, g3, g4, rfl, g5⟩⟩
    · exact .inl ⟨g1, rfl, g2⟩
    · exact .inr (.inl ⟨g1, g2, rfl, g3⟩)
    · exact .inr (.inr (.inl ⟨g1, g2, g3, rfl, g4⟩))
    · exact .inr (.inr (.inr (.inl ⟨g1, g2, g3, g4, rfl, g5⟩)))
    · exact .inr (.inr (.inr (.inr ⟨g1, g2, g3, g4, rfl, g5⟩)))
  have hn := h.n4
  have hs := h.sizes
  have esp : ∀ {W : World} {S' : Mach} {fp' : Prt → Nat → Prop}, CoreAt W k S' fp' → S'.sp 1 = some b → rd W k (0 + 105 + Int.toNat 1 * 1) = some (ptr b) := fun C e => by
    have := C.rt (j := 12) (v := spV (_)) rfl
    rw [e] at this
    exact this
  have ert : ∀ {W : World} {S' : Mach} {fp' : Prt → Nat → Prop}, CoreAt W k S' fp' → S'.sp 1 = some b → rd W b (0 + 1) = some (vi (S'.root 1)) := fun {W S' fp'} C e => by
    have SP : SpaceAt W (fp' (.space 1)) b (S'.root 1) := C.at' (.space 1) b e
    obtain ⟨_, _, _, _, a1, _⟩ := SP.ex
    rw [a1.rd]; rfl
  unfold vcP25
  refine Wif_no rfl (Wif_no rfl (Wif_yes rfl (Wif_yes rfl ⟨_, esp h hb, (core_node h f (by omega)).mono ?_⟩)))
  rintro _ w1 ⟨k1, ⟨i', hi', q1, q2, rfl⟩ | ⟨q1, rfl⟩⟩
  rotate_left
  · exfalso
    have := fst_le h.my (i := i + 1) (j := S.nodes) (by omega) (Nat.le_refl _)
    omega
  have : i' = i := node_uniq h.my hi' hi q1 q2 h1 h2
  subst this
  have C1 := h.k k1
  refine ⟨_, rfl, Wif_intro (fun hc => .inl ⟨by simp at hc; omega, rfl, h.step0 k1⟩) (fun hc => ?_)⟩
  have hp : 0 ≤ page ∧ page < 1024 := by simp at hc; omega
  refine Wif_no rfl fun w2 e2 => ?_
  have k2 : Kept none' w w2 := k1.dr e2
  have C2 := h.k k2
  refine Wif_yes rfl ⟨_, by have := h.rtW k2 (j := 0) rfl; exact this, Wif_yes rfl ⟨_, ert C2 hb, (core_leaf C2 hby _ page).mono ?_⟩⟩
  rintro _ w3 ⟨rfl, k23⟩
  have k3 := k2.tr k23
  have C3 := h.k k3
  refine ⟨_, _, rfl, Wif_intro (fun hc => .inr (.inl ⟨hp, by simpa using hc, rfl, h.step0 k3⟩)) (fun hc => ?_)⟩
  have hle : lfE S.by' S.n (S.root 1) page = 0 := by simpa using hc
  refine Wif_yes rfl ⟨_, by have := h.rtW k3 (j := 4) rfl; exact this, (core_rset C3 hf (pid := 1) (page := page) (by omega) hp hv).mono ?_⟩
  have S3 := h.step0 k3
  have id3 : ∀ (p : Prt) (x : Nat), fp p x → fp p x ∨ rng w w3 x := fun _ _ => .inl
  rintro _ w4 (⟨g1, rfl, T4⟩ | ⟨g1, g2, rfl, T4⟩ | ⟨g1, g2, rfl, T4⟩)
  · exact ⟨_, rfl, Wif_yes rfl (.inr (.inr (.inl ⟨hp, hle, g1, rfl, S3.tr id3 T4⟩)))⟩
  · exact ⟨_, rfl, Wif_yes rfl (.inr (.inr (.inr (.inl ⟨hp, hle, g1, g2, rfl, S3.tr id3 T4⟩))))⟩
  have S4 := S3.tr id3 T4
  obtain ⟨fp4, C4, f4⟩ := S4.ex
  refine ⟨_, rfl, Wif_no rfl fun w5 e5 => ?_⟩
  have k45 : Kept none' w4 w5 := (Kept.refl _ _).dr e5
  have C5 := C4.k k45
  have S5 := S4.tr f4 (C4.step0 k45)
  have f5 : ∀ p x, fp4 p x → fp p x ∨ rng w w5 x := fun p x hx => (f4 p x hx).imp id fun e => ⟨e.1, by have := k45.sz; have := e.2; omega⟩
  refine Wif_yes rfl ⟨_, by have := C4.rtW k45 (j := 0) rfl; exact this, Wif_yes rfl ⟨_, ert C5 hb, (core_set C5 hby _ page 1 f).mono ?_⟩⟩
  rintro _ w6 ⟨rfl, T6⟩
  have S6 := S5.tr f5 T6
  obtain ⟨fp6, C6, f6⟩ := S6.ex
  refine ⟨_, rfl, Wif_yes rfl ⟨_, by have := C6.rtW (Kept.refl _ _) (j := 0) rfl; exact this, (core_setMark C6 f ⟨4, 0, 1, page, 0⟩).mono ?_⟩⟩
  rintro _ w7 ⟨rfl, T7⟩
  have S7 := S6.tr f6 T7
  obtain ⟨fp7, C7, f7⟩ := S7.ex
  obtain ⟨g, cp, cb, hvk, hrd, hadd, _⟩ := core_clk C7 (i := i') hi
  have r7 : rd w7 k (0 + 100) = some (.slice (some ⟨g, 0, none⟩) S.nodes cp) := by
    have := C7.rtW (Kept.refl _ _) (j := 6) rfl
    rw [hvk] at this
    exact this
  refine ⟨_, rfl, Wif_yes rfl ⟨_, _, _, r7, Wif_yes rfl (Wif_yes (inB_of (by omega) (by omega)) ⟨_, by rw [Int.toNat_natCast, Nat.mul_one]; show rd w7 g (0 + i') = _; rw [Nat.zero_add]; exact hrd, (hadd ok (by omega) (hno g1) hl).mono ?_⟩)⟩⟩
  rintro _ w8 ⟨rfl, T8⟩
  exact ⟨_, rfl, .inr (.inr (.inr (.inr ⟨hp, hle, g1, g2, rfl, S7.tr f7 T8⟩)))⟩
theorem release_spec (h : CoreAt w k S fp) {fr : Int} (hfr : -9223372036854775808 ≤ fr ∧ fr ≤ 9223372036854775807) : Calls Tryz.prog 26 #[ptr k, vi fr] w fun e w' =>
    (∃ i l', i < S.nodes ∧ fstF S.c i ≤ fr ∧ fr < fstF S.c (i + 1) ∧ e = .returned (vi 0) ∧ GiveR (S.L i) (fr - fstF S.c i) 0 0 l' ∧ Step w w' k ((S.setL (upd S.L i l')).setMk (smS S.mks S.n fr mark0)) fp) ∨
    (∃ i, i < S.nodes ∧ fstF S.c i ≤ fr ∧ fr < fstF S.c (i + 1) ∧ e = .returned (vi 2) ∧ (fr - fstF S.c i, 0) ∉ tk (S.L i) ∧ Step w w' k S fp) ∨
    ((fr < 0 ∨ fstF S.c S.nodes ≤ fr) ∧ e = .returned (vi 2) ∧ Step w w' k S fp) := by
  refine (vc26 _ fr w (fun v w' => (∃ i l', i < S.nodes ∧ fstF S.c i ≤ fr ∧ fr < fstF S.c (i + 1) ∧ v = (vi 0) ∧ GiveR (S.L i) (fr - fstF S.c i) 0 0 l' ∧ Step w w' k ((S.setL (upd S.L i l')).setMk (smS S.mks S.n fr mark0)) fp) ∨
    (∃ i, i < S.nodes ∧ fstF S.c i ≤ fr ∧ fr < fstF S.c (i + 1) ∧ v = (vi 2) ∧ (fr - fstF S.c i, 0) ∉ tk (S.L i) ∧ Step w w' k S fp) ∨
    ((fr < 0 ∨ fstF S.c S.nodes ≤ fr) ∧ v = (vi 2) ∧ Step w w' k S fp)) ?_).mono ?_
  rotate_left
  · rintro e w' ⟨v, rfl, ⟨i, l', g1, g2, g3, rfl, g4⟩ | ⟨i, g1, g2, g3, rfl, g4⟩ | ⟨g1, rfl, g2⟩⟩
    · exact .inl ⟨i, l', g1, g2, g3, rfl, g4⟩
    · exact .inr (.inl ⟨i, g1, g2, g3, rfl, g4⟩)
    · exact .inr (.inr ⟨g1, rfl, g2⟩)
  unfold vcP26
  refine Wif_no rfl (Wif_yes rfl ⟨_, by have := h.rtW (Kept.refl _ _) (j := 1) rfl; exact this, (core_give h fr 0 hfr).mono ?_⟩)
  rintro _ w1 (⟨i, e, l', hi, h1, h2, rfl, T1, G⟩ | ⟨h1, rfl, T1⟩)
  · rcases G with ⟨g1, rfl, rfl⟩ | ⟨x, g1, g2, g3, g4, rfl, g5⟩
    · refine ⟨_, rfl, Wif_yes rfl (.inr (.inl ⟨i, hi, h1, h2, rfl, g1, ?_⟩))⟩
      have : upd S.L i (S.L i) = S.L := by
        funext j
        by_cases e : j = i
        · subst e; rw [upd_same]
        · rw [upd_ne _ _ e]
      have e : S.setL (upd S.L i (S.L i)) = S := by rw [this]
      rw [e] at T1
      exact T1
    · obtain ⟨fp1, C1, f1⟩ := T1.ex
      refine ⟨_, rfl, Wif_no rfl (Wif_yes rfl ⟨_, by have := C1.rtW (Kept.refl _ _) (j := 0) rfl; exact this, (core_setMark C1 fr mark0).mono ?_⟩)⟩
      rintro _ w2 ⟨rfl, T2⟩
      exact ⟨_, rfl, .inl ⟨i, l', hi, h1, h2, rfl, .inr ⟨x, g1, g2, g3, g4, rfl, g5⟩, T1.tr f1 T2⟩⟩
  · exact ⟨_, rfl, Wif_yes rfl (.inr (.inr ⟨h1, rfl, T1⟩))⟩
end
end Go.Proofs.YtklmokolnakkoaaGreatDoor
