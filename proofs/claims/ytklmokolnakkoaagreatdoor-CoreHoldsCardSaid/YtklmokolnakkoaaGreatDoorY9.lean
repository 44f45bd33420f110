/-
  A part of a proof that a law of this seat returns true at every input. Conditions: those in each theorem.
-/
import Derived.Test.YtklmokolnakkoaaGreatDoorY8
import Derived.Shelf.Slices.Delete
import Derived.Test.YtklmokolnakkoaaGreatDoorProg
set_option linter.unusedSimpArgs false
set_option linter.unusedVariables false
set_option maxRecDepth 100000
namespace Go.Proofs.YtklmokolnakkoaaGreatDoor
open Go Go.Eng
theorem fsum_all {l : List Bk} {a b : Nat} (h : Tile a l b) (hg : ∀ x ∈ l, x.g = 0) : a + fsum l = b := by
  induction l generalizing a with
  | nil => simp [Tile] at h; simp [fsum]; omega
  | cons x l ih =>
    have h1 := ih h.2.2.2 fun y hy => hg y (by simp [hy])
    rw [fsum_cons, if_pos (hg x (by simp))]
    omega
theorem bks_sum (l : List Bk) : ((bks l).map fun y => 2 ^ y.2).sum = fsum l := by
  induction l with
  | nil => rfl
  | cons x l ih =>
    rw [fsum_cons]
    by_cases h : x.g = 0
    · rw [bks_free h, if_pos h, List.map_cons, List.sum_cons, ih]
    · rw [bks_held h, if_neg h, ih, Nat.zero_add]
theorem zsh_sum {c : Nat → Int} {L : Nat → List Bk} : ∀ {k : Nat}, (∀ i, i < k → fsum (L i) = (c (18 + i)).toNat ∧ 0 ≤ c (18 + i)) → ((((zsh c L k).map fun y => 2 ^ y.2).sum : Nat) : Int) = fstF c k
  | 0, _ => rfl
  | k + 1, h => by
    have ih := zsh_sum (c := c) (L := L) (k := k) fun i hi => h i (by omega)
    have hk := h k (by omega)
    have e0 : zsh c L (k + 1) = zsh c L k ++ (bks (L k)).map fun y => ((fstF c k).toNat + y.1, y.2) := rfl
    have e1 : fstF c (k + 1) = fstF c k + c (18 + k) := rfl
    have e2 : (((bks (L k)).map fun y => ((fstF c k).toNat + y.1, y.2)).map fun y : Nat × Nat => 2 ^ y.2) = (bks (L k)).map fun y => 2 ^ y.2 := by rw [List.map_map]; rfl
    rw [e0, e1, List.map_append, List.sum_append, e2, bks_sum]
    omega
theorem zsh_ord {c : Nat → Int} {L : Nat → List Bk} : ∀ {k : Nat}, (∀ i, i < k → ∀ x ∈ L i, x.o ≤ 10) → ∀ y ∈ zsh c L k, y.2 ≤ 10
  | 0, _, y, hy => by simp [zsh] at hy
  | k + 1, h, y, hy => by
    have e0 : zsh c L (k + 1) = zsh c L k ++ (bks (L k)).map fun y => ((fstF c k).toNat + y.1, y.2) := rfl
    rw [e0, List.mem_append] at hy
    rcases hy with hy | hy
    · exact zsh_ord (fun i hi => h i (by omega)) y hy
    · obtain ⟨z, hz, rfl⟩ := List.mem_map.1 hy
      obtain ⟨x, hx, rfl⟩ := List.mem_map.1 hz
      exact h k (by omega) x (mem_frB.1 hx).1
theorem owns0 (n : Nat) : owns n (fun _ => (0, 0)) = [] := by simp [owns]
theorem map_rep {α : Type} (n : Nat) (x : α) : (List.range n).map (fun _ => x) = List.replicate n x := by
  refine List.ext_getElem? fun i => ?_
  rw [List.getElem?_map, List.getElem?_replicate]
  by_cases h : i < n
  · rw [List.getElem?_range h, if_pos h]; rfl
  · rw [if_neg h, List.getElem?_eq_none (by simpa using h)]; rfl
theorem fresh_empty {w : World} {k : Nat} {S : Mach} {fp : Prt → Nat → Prop} {P : Nat → Proc} {c : Nat → Int} (h : CoreAt w k S fp) (F : Fresh S) (hc : S.c = c) : EmptyP c (picOf S P) := by
  subst hc
  obtain ⟨Z, _, hZc⟩ := h.at' .zones
  have hs := h.sizes
  have hk : S.Z.k = (S.c 0).toNat := by have := Z.kc; rw [hZc] at this; omega
  have hN : ∀ i, i < S.Z.k → fsum (S.L i) = (S.Z.c (18 + i)).toNat ∧ 0 ≤ S.Z.c (18 + i) := fun i hi => by
    have h1 := fsum_all (Z.iv i hi).tl (F.L i hi)
    have h2 := (n_int Z hi).1
    unfold Zs.n at h1 h2
    omega
  have hl : (zsh S.Z.c S.L S.Z.k).length ≤ 1024 := by
    have h8 := Z.k8
    have := zsh_len (c := S.Z.c) (L := S.L) (k := S.Z.k) fun i hi => by
      have h1 := bks_le (Z.iv i hi).tl
      have := (n_int Z hi).2.2
      omega
    omega
  refine ⟨rfl, ?_, ?_, map_rep _ _, ?_, ?_, ?_, ?_, ?_, ?_, ?_, ?_, rfl, ?_, by show ((zsh S.Z.c S.L S.Z.k).map intP).length ≤ 1024; rw [List.length_map]; exact hl, ?_⟩
  · show (List.range S.n).map S.mks = _
    rw [F.mks]
    exact map_rep _ _
  · show (List.range S.cpus).map S.held = _
    rw [F.held]
    exact map_rep _ _
  · exact F.fli
  · show (List.range S.nodes).map (fun i => sortI (S.ring i)) = _
    rw [F.ring]
    simp only [show sortI [] = [] by simp [sortI]]
    exact map_rep _ _
  · show (List.range S.cpus).map (fun _ => (List.range 8).map fun _ => []) = _
    rw [map_rep, map_rep]; rfl
  · show (List.range S.nodes).map (fun _ => (List.range 8).map fun _ => []) = _
    rw [map_rep, map_rep]; rfl
  · show (List.range (9 + S.nodes)).map (fun i => IntKind.wrap .i64 (S.lh i - 1)) = _
    rw [F.lh]
    simp only [show IntKind.wrap .i64 (0 - 1) = -1 by decide]
    exact map_rep _ _
  · show procs S P 9 = []
    simp [procs, F.sp]
  · show owns S.n S.rof = []
    rw [F.rof]
    exact owns0 _
  · show owns S.slots S.sof = []
    rw [F.sof]
    exact owns0 _
  · intro y hy
    obtain ⟨z, hz, rfl⟩ := List.mem_map.1 hy
    exact ⟨z.2, rfl, zsh_ord (fun i hi x hx => (tile_mem (Z.iv i hi).tl hx).2.2.2) z hz⟩
  · show ((((zsh S.Z.c S.L S.Z.k).map intP).map fun y => 2 ^ y.2.toNat).sum : Nat) = _
    have := zsh_sum hN
    rw [List.map_map]
    have e : ((fun y : Int × Int => 2 ^ y.2.toNat) ∘ intP) = fun y : Nat × Nat => 2 ^ y.2 := by funext y; simp [intP]
    rw [e]
    have e2 : fstF S.c (S.c 0).toNat = fstF S.Z.c S.Z.k := by rw [hk, hZc]
    rw [e2]
    omega
theorem procC0 {S : Mach} {P : Nat → Proc} {k : Nat} {w : World} (F : Fresh S) : ProcC S P k w := fun i b W _ hb _ => by rw [F.sp] at hb; cases hb
theorem fresh_pic {w : World} {k : Nat} {S : Mach} {fp : Prt → Nat → Prop} {P : Nat → Proc} (h : CoreAt w k S fp) (F : Fresh S) : Calls Tryz.prog 19 #[ptr k] w fun e w' => ∃ PS : PicS, e = .returned (picV PS S.c) ∧ Kept none' w w' ∧ At (rng w w') (fun W => PicR W PS (picOf S P)) w' := by
  have hs := h.sizes
  refine picture_spec h (procC0 F) (fun i _ => ?_) (fun i _ => ?_) ?_
  · rw [F.held]; exact Nat.zero_le _
  · rw [F.ring]; exact Nat.zero_le _
  · rw [F.fli, List.length_replicate]; omega
def leastF : Nat → Int := fun i => if i = 0 then 1 else if i = 1 then 1 else if i = 18 then 4 else if i = 90 then 2 else 0
theorem least_may : MayP leastF := by
  refine ⟨by decide, by decide, by decide, fun i hi => ?_, fun i hi => ?_, fun i hi => ?_, ?_, by decide, by decide, by decide⟩
  · revert i; decide
  · have e : (leastF 1).toNat = 1 := rfl
    rw [e] at hi
    obtain rfl : i = 0 := by omega
    decide
  · have e : (leastF 0).toNat = 1 := rfl
    rw [e] at hi
    obtain rfl : i = 0 := by omega
    decide
  · intro i k hi hk
    have e : (leastF 0).toNat = 1 := rfl
    rw [e] at hi hk
    obtain rfl : i = 0 := by omega
    obtain rfl : k = 0 := by omega
    unfold nearO
    decide
theorem least_cells : ([Value.int .i64 1, Value.int .i64 1] ++ (List.replicate 88 (Value.int .i64 0) ++ [Value.int .i64 2, Value.int .i64 0, Value.int .i64 0, Value.int .i64 0])).set 18 (.int .i64 4) = cfg leastF := by
  kernel_rfl
theorem least_spec (w : World) : Calls Tryz.prog 31 #[] w fun e w' => e = .returned (cfgV leastF) ∧ Kept none' w w' := by
  refine (vc31 w (fun v w' => v = cfgV leastF ∧ Kept none' w w') ?_).mono ?_
  · unfold vcP31
    intro w1 e1 w2 e2
    have o1 := (own_alloc e1).al e2
    have o2 : own w2 w1.heap.size _ := own_alloc e2
    have k2 : Kept none' w w2 := ((Kept.refl _ _).al e1).al e2
    have hne : w.heap.size < w1.heap.size := (own_alloc e1).lt
    refine ⟨o2.wrAll 0 (by simp), fun w3 e3 => ?_⟩
    obtain ⟨o3, k3⟩ := stAll_whole o2 e3 (by simp)
    refine ⟨o3.wr (by simp), fun w4 e4 => ?_⟩
    have o4 := o3.s1 e4
    have k4 : Kept (· = w1.heap.size) w3 w4 := (Kept.refl _ _).s1 e4 (.inl rfl)
    have K4 : Kept none' w w4 := own0 (own0 k2 k3 fun x e => by omega) k4 fun x e => by omega
    have o14 := (o1.kx k3 (by omega)).kx k4 (by omega)
    rw [least_cells] at o4
    refine ⟨leastF, o4.rIall, o14.wrAll 0 (by simp [runI_len]), fun w5 e5 => ?_⟩
    obtain ⟨o5, k5⟩ := stAll_whole o14 e5 (by simp [runI_len])
    exact ⟨leastF, o5.rIall, rfl, own0 K4 k5 fun x e => Nat.le_of_eq e.symm⟩
  · rintro e w' ⟨v, rfl, rfl, h⟩
    exact ⟨rfl, h⟩
def P0 : Nat → Proc := fun _ => ⟨0, 0, [], [], [], []⟩
theorem known_spec {w : World} (hz : SizR w) (hw : 0 < w.heap.size) : Calls Tryz.prog 10 #[] w fun e w' => e = .returned (.bool true) ∧ Kept none' w w' := by
  refine (vc10 w (fun v w' => v = .bool true ∧ Kept none' w w') ?_).mono ?_
  rotate_left
  · rintro e w' ⟨v, rfl, rfl, h⟩
    exact ⟨rfl, h⟩
  unfold vcP10
  refine (least_spec w).mono ?_
  rintro _ w1 ⟨rfl, k1⟩
  refine ⟨leastF, rfl, (core_new leastF (hz.k k1) (by have := k1.sz; omega)).mono ?_⟩
  rintro _ w2 ⟨k2, ⟨hno, _⟩ | ⟨_, k, S, fp, rfl, C2, hc, F, hfp⟩⟩
  · exact absurd least_may hno
  refine ⟨_, _, rfl, (class_spec ((hz.k k1).k k2) 9).mono ?_⟩
  rintro _ w3 ⟨rfl, k3⟩
  have C3 := C2.k k3
  refine ⟨1, 0, rfl, Wif_yes rfl ((least_spec w3).mono ?_)⟩
  rintro _ w4 ⟨rfl, k4⟩
  have C4 := C3.k k4
  refine ⟨leastF, rfl, (fresh_pic (P := P0) C4 F).mono ?_⟩
  rintro _ w5 ⟨PS, rfl, k5, A5⟩
  have C5 := C4.k k5
  rw [hc]
  refine ⟨_, _, _, _, _, _, _, _, _, _, _, _, _, _, _, _, _, _, _, _, _, _, _, _, _, _, _, _, _, _, _, _, _, _, _, _, _, _, _, _, rfl, (empty_spec least_may A5.now (fresh_empty C4 F hc)).mono ?_⟩
  rintro _ w6 ⟨rfl, k6⟩
  have C6 := C5.k k6
  have hn : S.nodes = 1 := by unfold Mach.nodes; rw [hc]; rfl
  obtain ⟨g, cp, u, H, hv, hr, hA, _, _⟩ := (C6.at' .depots).one (B := fun _ => RowA (fun _ => Bin0) 8) (w' := w6) (i := 0) (fun _ _ => RowA.stb fun _ _ => Bin0.stb) (by omega) fun _ _ => rfl
  obtain ⟨g2, cp2, _, _, rfl, _, _, _, _⟩ := hA.one (B := fun _ => Bin0) (w' := w6) (i := 0) (fun _ _ => Bin0.stb) (by omega) fun _ _ => rfl
  rw [hn] at hv
  have hd : rd w6 k (0 + 102) = some (.slice (some ⟨g, 0, none⟩) 1 cp) := by
    have := C6.rt (j := 8) (v := S.vde) rfl
    rw [hv] at this
    rw [Nat.zero_add]
    exact this
  refine ⟨true, rfl, gIf_intro (fun _ => rfl) ⟨_, _, _, fun _ => hd, gIf_intro (fun _ => rfl) ⟨_, _, _, fun _ => hd, gIf_intro (fun _ => rfl) (gIf_intro (fun _ => rfl) ⟨_, _, _, fun _ => hr, rfl, ?_⟩)⟩⟩⟩
  exact ((((k1.tr k2).tr k3).tr k4).tr k5).tr k6
theorem known_k {w w1 : World} (hz : SizR w) (hw : 0 < w.heap.size) (k : Kept none' w w1) : Calls Tryz.prog 10 #[] w1 fun e w' => ∃ b : Bool, e = .returned (.bool b) ∧ Value.bool b = .bool true ∧ Kept none' w w' := by
  refine (known_spec (hz.k k) (Nat.lt_of_lt_of_le hw k.sz)).mono ?_
  rintro _ w2 ⟨rfl, k2⟩
  exact ⟨true, rfl, rfl, k.tr k2⟩
theorem coreClass_walk {w : World} (hz : SizR w) (hw : 0 < w.heap.size) (size : Int) : Calls Tryz.prog 3 #[vi size] w fun e w' => e = .returned (.bool true) ∧ Kept none' w w' := by
  refine (vc3 size w (fun v w' => v = .bool true ∧ Kept none' w w') ?_).mono ?_
  rotate_left
  · rintro e w' ⟨v, rfl, rfl, h⟩
    exact ⟨rfl, h⟩
  unfold vcP3
  refine (class_spec hz size).mono ?_
  rintro _ w1 ⟨rfl, k1⟩
  have hx : ∃ a b : Int, clsV size = .tuple #[vi a, vi b] := by
    unfold clsV
    split
    · exact ⟨_, _, rfl⟩
    · exact ⟨_, _, rfl⟩
  obtain ⟨a, b, hab⟩ := hx
  rw [hab]
  refine ⟨a, b, rfl, (rclass_spec w1 size).mono ?_⟩
  rintro _ w2 ⟨rfl, k2⟩
  rw [hab]
  exact ⟨a, b, rfl, Wif_yes (by simp) (known_k hz hw (k1.tr k2))⟩
theorem coreNew_walk {w : World} (hz : SizR w) (hw : 0 < w.heap.size) (c : Nat → Int) : Calls Tryz.prog 4 #[cfgV c] w fun e w' => e = .returned (.bool true) ∧ Kept none' w w' := by
  refine (vc4 c w (fun v w' => v = .bool true ∧ Kept none' w w') ?_).mono ?_
  rotate_left
  · rintro e w' ⟨v, rfl, rfl, h⟩
    exact ⟨rfl, h⟩
  unfold vcP4
  intro w1 e1
  have o1 := own_alloc e1
  have k1 : Kept none' w w1 := (Kept.refl _ _).al e1
  clear e1
  generalize hb0 : w.heap.size = b0 at *
  refine ⟨c, o1.rIall, (core_new c (hz.k k1) (by have := k1.sz; omega)).mono ?_⟩
  rintro _ w2 ⟨k2, ⟨hno, rfl⟩ | ⟨hm, k, S, fp, rfl, C2, hc, F, hfp⟩⟩
  · refine ⟨_, _, rfl, c, (o1.k k2).rIall, (rmay_spec c w2).mono ?_⟩
    rintro _ w3 ⟨b, rfl, hb, k3⟩
    have : b = false := by
      cases b
      · rfl
      · exact absurd (hb.1 rfl) hno
    subst this
    exact ⟨_, rfl, Wif_yes rfl (Wif_yes rfl (known_k hz (by omega) ((k1.tr k2).tr k3)))⟩
  refine ⟨_, _, rfl, c, (o1.k k2).rIall, (rmay_spec c w2).mono ?_⟩
  rintro _ w3 ⟨b, rfl, hb, k3⟩
  have hbt : b = true := hb.2 hm
  subst hbt
  refine ⟨_, rfl, Wif_no rfl fun w4 e4 => ?_⟩
  have k4 : Kept none' w3 w4 := (Kept.refl _ _).dr e4
  have K24 := k3.tr k4
  have C4 := C2.k K24
  have o4 := (o1.k k2).k K24
  have K4 := (k1.tr k2).tr K24
  have hs := C4.sizes
  have hn4 := C4.n4
  have rp : ∀ {W : World}, Kept none' w4 W → ∀ {j : Nat} {v : Value}, (coreT S)[j]? = some v → rd W k (0 + (94 + j)) = some v := fun kk j v hv => by rw [Nat.zero_add]; exact (C4.k kk).rt hv
  have kr := Kept.refl none' w4
  obtain ⟨bb, mb, M4, _⟩ := C4.at' .mem
  refine gIf_intro (fun _ => rfl) ⟨_, fun _ => rp kr (j := 0) rfl, c, fun _ => o4.rIall, Wif_no rfl ((frames_spec M4).mono ?_)⟩
  rintro _ wx ⟨rfl, hx⟩
  rw [hx]
  clear hx
  refine ⟨_, rfl, fun _ => ⟨o4.rIall, trivial⟩, (rframes_spec c hm w4).mono ?_⟩
  rintro _ w5 ⟨fa, fcp, rfl, k5, _⟩
  have C5 := C4.k k5
  obtain ⟨db, D5, _⟩ := C5.at' .dev
  have o5 := o4.k k5
  have hr0 : rd w5 S.pd 0 = some (.slice (some ⟨db, 0, none⟩) S.slots S.slots) := by rw [D5.so.rd]; rfl
  have h90 : ∀ {W : World}, Kept none' w5 W → rd W b0 90 = some (vi (c 90)) := fun kk => (o5.k kk).rI (by omega)
  have h00 : ∀ {W : World}, Kept none' w5 W → rd W b0 0 = some (vi (c 0)) := fun kk => (o5.k kk).rI (by omega)
  have eN : ((S.n : Int) != (((fstF c (c 0).toNat).toNat : Nat) : Int)) = false := by
    have : S.n = (fstF c (c 0).toNat).toNat := by unfold Mach.n; rw [hc]
    rw [this]; simp
  refine ⟨_, _, _, rfl, gIf_intro (fun _ => rfl) ⟨_, fun _ => rp k5 (j := 2) rfl, c 90, fun _ => h90 (Kept.refl _ _), Wif_no eN ?_⟩⟩
  refine (vc15 _ w5 (fun v w' => v = vi S.slots ∧ w' = w5) (by unfold vcP15; exact Wif_no rfl (Wif_yes rfl ⟨_, _, _, hr0, rfl, rfl⟩))).mono ?_
  rintro _ wx ⟨v, rfl, rfl, hx⟩
  rw [hx]
  clear hx
  have hca : ∀ {W : World}, Kept none' w5 W → ∃ g cp, rd W k (0 + 101) = some (.slice (some ⟨g, 0, none⟩) S.nodes cp) ∧ S.vca = .slice (some ⟨g, 0, none⟩) S.nodes cp := fun kk => by
    obtain ⟨g, cp, u, H, hv, hr, hA, _, _⟩ := (C5.at' .caches).one (B := fun _ => RowA (fun i => Cache0 (sz i)) 8) (w' := w5) (i := 0) (fun _ _ => RowA.stb fun _ _ => Cache0.stb) (by omega) fun _ _ => rfl
    refine ⟨g, cp, ?_, hv⟩
    have := rp (k5.tr kk) (j := 7) (v := S.vca) rfl
    rw [hv] at this
    exact this
  obtain ⟨ga, ca, hra, hva⟩ := hca (Kept.refl _ w5)
  have hra' : ∀ {W : World}, Kept none' w5 W → rd W k (0 + 101) = some (.slice (some ⟨ga, 0, none⟩) S.nodes ca) := fun kk => by
    obtain ⟨g, cp, h1, h2⟩ := hca kk
    rw [hva] at h2
    cases h2
    exact h1
  have e90 : ((S.slots : Int) != c 90) = false := by rw [hs.2.2.2, hc]; simp
  refine ⟨_, rfl, fun _ => ⟨h90 (Kept.refl _ _), trivial⟩, gIf_intro (fun _ => rfl) ⟨_, _, _, fun _ => hra, c 0, fun _ => h00 (Kept.refl _ _), Wif_no (by rw [e90, ← hc, ← hs.1.2.2]; simp) (Wif_yes rfl ⟨_, _, _, hra, ?_⟩)⟩⟩
  refine ⟨fun _ n W N => ∃ q : Nat, n = q ∧ q ≤ S.nodes ∧ N = S.nodes - q ∧ Kept none' w5 W, ⟨S.nodes, 0, rfl, by omega, rfl, Kept.refl _ _⟩, ?_⟩
  rintro _ _ w6 _ ⟨q, rfl, hq, rfl, k6⟩
  refine Wif_intro (fun hcq => ?_) (fun hcq => ?_)
  · have hqn : q < S.nodes := by simp at hcq; omega
    refine ⟨fun _ n W N => ∃ r : Nat, n = r ∧ r ≤ 8 ∧ N = 8 - r ∧ Kept none' w5 W, ⟨8, 0, rfl, by omega, rfl, k6⟩, ?_⟩
    rintro _ _ w7 _ ⟨r, rfl, hr8, rfl, k7⟩
    refine Wif_intro (fun hcr => ?_) (fun hcr => ⟨S.nodes - (q + 1), by omega, q + 1, by rw [wi (by omega)]; rfl, hqn, rfl, k7⟩)
    have hr8' : r < 8 := by simp at hcr; omega
    intro w8 e8
    have k8 : Kept none' w5 w8 := k7.dr e8
    have C8 := C5.k k8
    obtain ⟨g3, cp3, u3, H3, hv3, hr3, hA3, _, _⟩ := (C8.at' .caches).one (B := fun _ => RowA (fun i => Cache0 (sz i)) 8) (w' := w8) (i := q) (fun _ _ => RowA.stb fun _ _ => Cache0.stb) hqn fun _ _ => rfl
    have eg : g3 = ga := by rw [hva] at hv3; cases hv3; rfl
    subst eg
    obtain ⟨g4, cp4, u4, H4, rfl, hr4, hA4, _, _⟩ := hA3.one (B := fun i => Cache0 (sz i)) (w' := w8) (i := r) (fun _ _ => Cache0.stb) hr8' fun _ _ => rfl
    obtain ⟨b, m, rfl, ob, _⟩ := hA4.ex
    obtain ⟨g5, cp5, u5, H5, hv5, hr5, hA5, _, _⟩ := (C8.at' .depots).one (B := fun _ => RowA (fun _ => Bin0) 8) (w' := w8) (i := q) (fun _ _ => RowA.stb fun _ _ => Bin0.stb) hqn fun _ _ => rfl
    obtain ⟨g6, cp6, u6, H6, rfl, hr6, hA6, _, _⟩ := hA5.one (B := fun _ => Bin0) (w' := w8) (i := r) (fun _ _ => Bin0.stb) hr8' fun _ _ => rfl
    obtain ⟨b6, rfl, ob6, _⟩ := hA6.ex
    have z8 : rd w8 0 (0 + Int.toNat (r : Int) * 1) = some (vi (sz r)) := by rw [Int.toNat_natCast, Nat.mul_one, Nat.zero_add]; exact (hz.k (((K4.tr k5)).tr k8)) r hr8'
    have cg : ∀ {g i : Nat} {v : Value}, rd w8 g i = some v → rd w8 g (0 + Int.toNat (i : Int) * 1) = some v := fun h => by rw [Int.toNat_natCast, Nat.mul_one, Nat.zero_add]; exact h
    have h2 : rd w8 b (0 + 2) = some (.map (some m)) := by rw [ob.rd]; rfl
    have h0 : rd w8 b 0 = some (vi (sz r)) := by rw [ob.rd]; rfl
    refine Wif_yes rfl ⟨_, _, _, hra' k8, Wif_yes rfl (Wif_yes (inB_of (by omega) (by omega)) ⟨_, _, _, cg hr3, Wif_yes rfl (Wif_yes (inB_of (by omega) (by omega)) ⟨_, cg hr4, Wif_yes (inB_of (by omega) (by omega)) ⟨_, z8, ?_⟩⟩)⟩)⟩
    refine (vc16 _ w8 (fun v w' => v = vi (sz r) ∧ w' = w8) (by unfold vcP16; exact ⟨_, fun _ => h2, Wif_no rfl (Wif_yes rfl ⟨_, h0, rfl, rfl⟩)⟩)).mono ?_
    rintro _ wx ⟨v, rfl, rfl, hx⟩
    rw [hx]
    clear hx
    have hde : rd w8 k (0 + 102) = some (.slice (some ⟨g5, 0, none⟩) S.nodes cp5) := by
      have := rp (k5.tr k8) (j := 8) (v := S.vde) rfl
      rw [hv5] at this
      exact this
    refine ⟨_, rfl, ⟨z8, trivial⟩, gIf_intro (fun _ => rfl) ⟨_, _, _, fun _ => hde, gIf_intro (fun _ => rfl) (gIf_intro (fun _ => inB_of (by omega) (by omega)) ⟨_, _, _, fun _ => cg hr5, gIf_intro (fun _ => rfl) (gIf_intro (fun _ => inB_of (by omega) (by omega)) ⟨_, fun _ => cg hr6, Wif_no (by simp) ?_⟩)⟩)⟩⟩
    refine (vc17 _ w8 (fun v w' => v = vi 4 ∧ w' = w8) (by unfold vcP17; exact Wif_no rfl (Wif_yes rfl ⟨_, by show rd w8 b6 0 = _; rw [ob6.rd]; rfl, rfl, rfl⟩))).mono ?_
    rintro _ wx ⟨v, rfl, rfl, hx⟩
    rw [hx]
    exact ⟨4, rfl, Wif_no rfl ⟨8 - (r + 1), by omega, r + 1, by rw [wi (by omega)]; rfl, hr8', rfl, k8⟩⟩
  · intro w7 e7
    have k7 : Kept none' w5 w7 := k6.dr e7
    have C7 := C5.k k7
    refine ⟨c, (o5.k k7).rIall, (fresh_pic (P := P0) C7 F).mono ?_⟩
    rintro _ w8 ⟨PS, rfl, k8, A8⟩
    rw [hc]
    refine ⟨_, _, _, _, _, _, _, _, _, _, _, _, _, _, _, _, _, _, _, _, _, _, _, _, _, _, _, _, _, _, _, _, _, _, _, _, _, _, _, _, rfl, ⟨(o5.k (k7.tr k8)).rIall, trivial⟩, (empty_spec hm A8.now (fresh_empty C7 F hc)).mono ?_⟩
    rintro _ w9 ⟨rfl, k9⟩
    exact ⟨true, rfl, Wif_yes rfl (known_k hz (by omega) ((((K4.tr k5).tr k7).tr k8).tr k9))⟩
end Go.Proofs.YtklmokolnakkoaaGreatDoor
/-
  DERIVED: THE SHELF's CONTRACTS AT THIS DUMP, IN PLAIN WORDS (tools/lay-plain.mjs out of 'S5.lean', which tools/lay-shelf.mjs wrote): THE SAME DECLARATIONS UNDER THE SAME NAMES: 'import', 'namespace', 'open', 'def', 'theorem' AND NOTHING ELSE: no command of the shelf's: FOR A HAND-IN. Each laying: the table of numbers ('.._ren') and one theorem, a field a fact of the dump's own or the kernel's comparison; each contract: ONE APPLICATION.
-/
namespace Go.Proofs
open Go.Shelf
def Tryz.delI_ren : Go.Shelf.Ren := ⟨fun | 23 => 93 | n => n, fun | 22 => 51 | 3 => 3 | 4 => 4 | 0 => 0 | n => n, fun | n => n⟩
theorem Tryz.delI : Go.Proofs.Lays2.n23 Tryz.prog Tryz.delI_ren := {
  mixed := by kernel_rfl
  f23 := Tryz.func93.trans (congrArg some (by kernel_rfl))
  t0 := Tryz.underlying0
  a0 := Tryz.isAgg0
  z0 := Tryz.sizeOf0
  v0 := Tryz.zeroValue0
  t3 := Tryz.underlying3
  a3 := Tryz.isAgg3
  z3 := Tryz.sizeOf3
  v3 := Tryz.zeroValue3
  t4 := Tryz.underlying4
  a4 := Tryz.isAgg4
  z4 := Tryz.sizeOf4
  v4 := Tryz.zeroValue4
  t22 := Tryz.underlying51
  a22 := Tryz.isAgg51
  z22 := Tryz.sizeOf51
  v22 := Tryz.zeroValue51
  i3 := by kernel_rfl }
end Go.Proofs
