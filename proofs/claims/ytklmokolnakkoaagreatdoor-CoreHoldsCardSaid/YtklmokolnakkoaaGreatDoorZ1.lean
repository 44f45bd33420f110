/-
  A part of a proof that a law of this seat returns true at every input. Conditions: those in each theorem.
-/
import Derived.Test.YtklmokolnakkoaaGreatDoorY9
import Derived.Test.YtklmokolnakkoaaGreatDoorXV7
set_option linter.unusedSimpArgs false
set_option linter.unusedVariables false
set_option maxRecDepth 100000
namespace Go.Proofs.YtklmokolnakkoaaGreatDoor
open Go Go.Eng
theorem RowA.put {A B : Nat → Thing} {n : Nat} {v : Value} {G : Nat → Prop} {w : World} {i : Nat} (hA : ∀ j, j < n → Stb (A j)) (h : RowA A n v G w) (hi : i < n) (hB : ∀ j, j ≠ i → B j = A j) :
    ∃ (g cp : Nat) (u : Value) (H : Nat → Prop), v = .slice (some ⟨g, 0, none⟩) n cp ∧ G g ∧ rd w g i = some u ∧ A i u H w ∧ (∀ x, H x → G x ∧ x ≠ g) ∧
      ∀ w1, Kept H w w1 → wr w1 g i ∧ ∀ (w' : World) (u' : Value), w' = st w1 g i u' → B i u' (fun x => H x ∨ rng w w1 x) w' → RowA B n v (fun x => G x ∨ rng w w' x) w' := by
  obtain ⟨g, cp, cs, u, H, h1, h2, h3, h4, h5, h6, h7⟩ := h.ex
  have hcl : i < cs.length := (List.getElem?_eq_some_iff.1 (h3 i hi)).1
  have hg := h.lt g h4
  refine ⟨g, cp, u i, H i, h1, h4, by rw [h2.rd]; exact h3 i hi, h5 i hi, h6 i hi, fun w1 k1 => ?_⟩
  have o1 := h2.kx k1 fun e => (h6 i hi _ e).2 rfl
  refine ⟨o1.wr hcl, fun w' u' e hb => ?_⟩
  have k2 : Kept (· = g) w1 w' := (Kept.refl _ _).s1 e (.inl rfl)
  have k : Kept (fun x => H i x ∨ x = g) w w' := (k1.mono fun _ _ h => .inl h).trans k2 fun _ _ h => .inr h
  have hs1 : w'.heap.size = w1.heap.size := by rw [e]; simp
  have hs := k.sz
  refine ⟨⟨g, cp, cs.set i u', upd u i u', upd H i (fun x => H i x ∨ rng w w1 x), h1, o1.s1 e, fun j hj => ?_, .inl h4, fun j hj => ?_, fun j hj x hx => ?_, fun a b ha hb' hab x hx => ?_⟩, fun x hx => ?_⟩
  · rw [List.getElem?_set]
    by_cases e2 : i = j
    · subst e2; simp [hcl]
    · rw [if_neg e2, upd_ne _ _ (Ne.symm e2)]; exact h3 j hj
  · by_cases e2 : j = i
    · subst e2; rw [upd_same, upd_same]; exact hb
    · rw [upd_ne _ _ e2, upd_ne _ _ e2, hB j e2]
      refine (hA j hj).kx _ _ _ _ _ (h5 j hj) k fun x e1 e3 => ?_
      rcases e1 with e1 | e1
      · exact h7 i j hi hj (Ne.symm e2) x e1 e3
      · exact (h6 j hj x e3).2 e1
  · by_cases e2 : j = i
    · subst e2
      rw [upd_same] at hx
      rcases hx with hx | hx
      · exact ⟨.inl (h6 j hj x hx).1, (h6 j hj x hx).2⟩
      · exact ⟨.inr ⟨hx.1, by have := hx.2; omega⟩, by have := hx.1; omega⟩
    · rw [upd_ne _ _ e2] at hx
      exact ⟨.inl (h6 j hj x hx).1, (h6 j hj x hx).2⟩
  · by_cases e2 : a = i
    · subst e2
      rw [upd_same] at hx
      rw [upd_ne _ _ (Ne.symm hab)]
      intro hx2
      rcases hx with hx | hx
      · exact h7 a b ha hb' hab x hx hx2
      · have := h.lt x (h6 b hb' x hx2).1; have := hx.1; omega
    · rw [upd_ne _ _ e2] at hx
      by_cases e3 : b = i
      · subst e3
        rw [upd_same]
        rintro (hx2 | hx2)
        · exact h7 a b ha hb' hab x hx hx2
        · have := h.lt x (h6 a ha x hx).1; have := hx2.1; omega
      · rw [upd_ne _ _ e3]
        exact h7 a b ha hb' hab x hx
  · rcases hx with hx | hx
    · exact Nat.lt_of_lt_of_le (h.lt x hx) hs
    · exact hx.2
theorem elInt : ElT Tryz.prog 51 3 1 := elT59
theorem RowI.app {w : World} {base : Nat} {a1 a2 : Option Addr} {l1 c1 l2 c2 : Nat} {xs ys : List Int} (h : RowI w base a1 l1 c1 xs) (hs : Eng.Src w a2 l2 c2 (ys.map vi)) (hl2 : l2 = ys.length) (hb : base ≤ w.heap.size) (hl : xs.length + ys.length ≤ 1000000) :
    ∃ a l c w', appIs Tryz.prog #[51, 51] 51 (.slice a1 l1 c1) (.slice a2 l2 c2) (.slice a l c) w w' ∧ RowI w' base a l c (xs ++ ys) ∧ Kept (fun b => (Value.slice a1 l1 c1).ownBlock = some b) w w' := by
  obtain ⟨i, z, hi, hz, hsz, hzs, hby⟩ := elInt.ex
  obtain ⟨rfl, row⟩ := h
  subst hl2
  obtain ⟨a', c', w', happ, row', k⟩ := Eng.app (P := Tryz.prog) (t := 51) (ty := 51) (e := 3) (i := i) (z := z) (size := 1) Tryz.underlying51 hi hz hsz hzs (by decide) row hs (by simp) (fun u hu => by
    obtain ⟨x, _, rfl⟩ := List.mem_map.1 hu
    rfl) (by omega) (by omega) hb
  refine ⟨a', _, c', w', happ, ⟨by simp, ?_⟩, k⟩
  rw [List.map_append]
  exact row'
theorem RowI.src {w : World} {base : Nat} {a : Option Addr} {l c : Nat} {xs : List Int} (h : RowI w base a l c xs) : Eng.Src w a l c (xs.map vi) := by
  obtain ⟨rfl, h⟩ := h
  exact Eng.Src.of_row h
theorem RowI.rd {w : World} {base : Nat} {a : Option Addr} {l c : Nat} {xs : List Int} (h : RowI w base a l c xs) {i : Nat} {x : Int} (hx : xs[i]? = some x) : isP a = true ∧ Eng.rd w (pb a) (po a + Int.toNat (i : Int) * 1) = some (vi x) := by
  have hu : (xs.map vi)[i]? = some (vi x) := by rw [List.getElem?_map, hx]; rfl
  have hl := (List.getElem?_eq_some_iff.1 hx).1
  rw [Int.toNat_natCast, Nat.mul_one]
  exact ⟨h.src.isp (by rw [List.length_map]; omega), h.src.rd hu⟩
def del (xs : List Int) (i : Nat) : List Int := xs.take i ++ xs.drop (i + 1)
def FirstAt (xs : List Int) (v : Int) (i : Nat) : Prop := xs[i]? = some v ∧ ∀ j, j < i → xs[j]? ≠ some v
theorem FirstAt.uniq {xs : List Int} {v : Int} {i j : Nat} (h : FirstAt xs v i) (h2 : FirstAt xs v j) : i = j := by
  rcases Nat.lt_trichotomy i j with h3 | h3 | h3
  · exact absurd h.1 (h2.2 i h3)
  · exact h3
  · exact absurd h2.1 (h.2 j h3)
theorem index_spec {w : World} {base : Nat} {a : Option Addr} {l c : Nat} {xs : List Int} (h : RowI w base a l c xs) (v : Int) (hl : xs.length ≤ 1000000) :
    Calls Tryz.prog 92 #[.slice a l c, vi v] w fun e w' => w' = w ∧ ((∃ i, FirstAt xs v i ∧ e = .returned (vi i)) ∨ ((∀ j : Nat, xs[j]? ≠ some v) ∧ e = .returned (vi (-1)))) := by
  refine (vc92 a l c v w (fun r w' => w' = w ∧ ((∃ i, FirstAt xs v i ∧ r = vi i) ∨ ((∀ j : Nat, xs[j]? ≠ some v) ∧ r = vi (-1)))) ?_).mono ?_
  rotate_left
  · rintro e w' ⟨r, rfl, rfl, ⟨i, h1, rfl⟩ | ⟨h1, rfl⟩⟩
    · exact ⟨rfl, .inl ⟨i, h1, rfl⟩⟩
    · exact ⟨rfl, .inr ⟨h1, rfl⟩⟩
  have hlen := h.1
  subst hlen
  unfold vcP92
  refine ⟨fun _ n w' N => ∃ q : Nat, n = q ∧ q ≤ xs.length ∧ N = xs.length - q ∧ w' = w ∧ ∀ j, j < q → xs[j]? ≠ some v, ⟨xs.length, 0, rfl, by omega, rfl, rfl, fun j h => absurd h (Nat.not_lt_zero _)⟩, ?_⟩
  rintro _ _ w1 _ ⟨q, rfl, hq, rfl, hw, hno⟩
  rw [hw]
  refine Wif_intro (fun hc => ?_) (fun hc => ?_)
  · have hql : q < xs.length := by simp at hc; omega
    obtain ⟨x, hx⟩ : ∃ x, xs[q]? = some x := ⟨_, List.getElem?_eq_getElem hql⟩
    obtain ⟨hp, hr⟩ := h.rd hx
    refine Wif_yes hp (Wif_yes (inB_of (by omega) (by omega)) ⟨x, hr, Wif_intro (fun he => ?_) (fun he => ?_)⟩)
    · have : v = x := by simpa using he
      subst this
      exact ⟨rfl, .inl ⟨q, ⟨hx, hno⟩, rfl⟩⟩
    · have hvx : v ≠ x := by simpa using he
      refine ⟨xs.length - (q + 1), by omega, q + 1, by rw [wi (by omega)]; rfl, by omega, rfl, rfl, fun j hj => ?_⟩
      rcases Nat.lt_or_ge j q with h3 | h3
      · exact hno j h3
      · rw [show j = q by omega, hx]
        exact fun e => hvx (Option.some.inj e).symm
  · have hql : q = xs.length := by simp at hc; omega
    refine ⟨rfl, .inr ⟨fun j => ?_, rfl⟩⟩
    rcases Nat.lt_or_ge j q with h3 | h3
    · exact hno j h3
    · rw [List.getElem?_eq_none (by omega)]
      exact fun e => by cases e
section
open Go.RowKit Go.Maps Go.Sort Go.Shelf
theorem delete_spec {w : World} {base : Nat} {a : Option Addr} {l c : Nat} {xs : List Int} {i : Nat} (h : RowI w base a l c xs) (hi : i < xs.length) :
    Calls Tryz.prog 93 #[.slice a l c, vi i, vi (i + 1 : Nat)] w fun e w' => ∃ l', e = .returned (.slice a l' c) ∧ RowI w' base a l' c (del xs i) ∧ Kept (fun b => (Value.slice a l c).ownBlock = some b) w w' := by
  obtain ⟨rfl, h⟩ := h
  rcases h.2 with ⟨h0, h1⟩ | ⟨g, cap, cur, hv, hb, hgg, hnc, hm, hsz, htk⟩
  · omega
  · cases hv
    have hglt : g < w.heap.size := (Array.getElem?_eq_some_iff.1 hgg).1
    have hH : Holds (Value.int .i64) w g 0 xs.toArray := by
      intro j hj
      have hj' : j < xs.length := by simpa using hj
      refine ⟨?_, by simp [World.frozen?, hgg]⟩
      have h1 : (cur.toList.take (xs.length * 1))[j]? = (xs.map vi)[j]? := by rw [htk]
      rw [List.getElem?_take_of_lt (by omega)] at h1
      simp only [World.cell?, hgg, Nat.zero_add]
      simp only [Option.isSome_none, Bool.false_eq_true, if_false]
      rw [← Array.getElem?_toList, h1]
      simp [hj']
    refine (Any.slices_Delete_int (ρ := Tryz.delI_ren) Tryz.delI g 0 c i (i + 1) xs w hH hnc (by unfold maxLen at hm; omega) (by omega) (by omega)).mono ?_
    rintro e w' ⟨rfl, m, rfl⟩
    have e1 : i + 1 - i = 1 := by omega
    rw [e1]
    have hd : (del xs i).length = xs.length - 1 := by unfold del; rw [List.length_append, List.length_take, List.length_drop]; omega
    have hg2 := heap_sortI (n := m) (os := #[]) (xs.take i ++ xs.drop (i + 1) ++ List.replicate 1 0).toArray hgg
    have eg : ∀ w : World, grow w #[] = w := fun w => by simp [grow]
    rw [eg] at hg2
    have hkk := grownBy_sortI (w := w) (g := g) (n := m) (os := #[]) (xs.take i ++ xs.drop (i + 1) ++ List.replicate 1 0).toArray
    rw [eg] at hkk
    refine ⟨_, rfl, ⟨hd.symm, by simp [hd], .inr ⟨g, c, _, rfl, hb, hg2, by omega, hm, by simpa [putCells] using hsz, ?_⟩⟩, (Kept.grownBy hkk).mono fun b _ h => by simpa [Value.ownBlock] using h⟩
    have ht := take_putI cur (xs.take i ++ xs.drop (i + 1) ++ List.replicate 1 0).toArray (by
      have : cur.size = c := by simpa using hsz
      simp
      omega)
    have h2 := congrArg (List.take (xs.length - 1)) ht
    rw [List.take_take, Nat.min_eq_left (by simp; omega)] at h2
    rw [Nat.mul_one, h2]
    simp only [List.toList_toArray]
    rw [List.map_append, List.take_append_of_le_length (by rw [List.length_map]; have : (xs.take i ++ xs.drop (i + 1)).length = xs.length - 1 := hd; omega), List.take_of_length_le (by rw [List.length_map]; exact Nat.le_of_eq hd)]
    rfl
end
section
variable {w : World} {k : Nat} {S : Mach} {fp : Prt → Nat → Prop}
theorem CoreAt.heldRow (h : CoreAt w k S fp) : RowA (fun i => IntsA (S.held i)) S.cpus S.vhe (fp .held) w := h.at' .held
def setHeld (S : Mach) (f : Nat → List Int) : Mach := { S with held := f }
theorem CoreAt.setHeld {X : Nat → Prop} {w' : World} {f : Nat → List Int} (h : CoreAt w k S fp) (kk : Kept X w w') (hX : ∀ x, X x → x < w.heap.size → fp .held x) (hr : RowA (fun i => IntsA (f i)) S.cpus S.vhe (fun x => fp .held x ∨ rng w w' x) w') :
    CoreAt w' k (setHeld S f) (fun p x => fp p x ∨ (p = .held ∧ rng w w' x)) := by
  refine h.upd (· = .held) .held kk (fun x hx hl => ⟨_, rfl, hX x hx hl⟩) rfl (fun p F W hp hq => ?_) rfl fun p hp => ?_
  · cases p <;> first | exact hq | exact absurd rfl hp
  · subst hp
    have e : (fun x => fp .held x ∨ ((Prt.held : Prt) = .held ∧ rng w w' x)) = fun x => fp .held x ∨ rng w w' x := by funext x; simp
    rw [e]
    exact hr
def inC (S : Mach) (cpu : Int) : Prop := 0 ≤ cpu ∧ cpu < S.cpus
theorem hold_spec (h : CoreAt w k S fp) (cpu fr : Int) (hl : ∀ i, i < S.cpus → (S.held i).length ≤ 100000) :
    Calls Tryz.prog 20 #[ptr k, vi cpu, vi fr] w fun e w' => e = .returned (.tuple #[]) ∧ Kept (fp .held) w w' ∧ ∃ fp', CoreAt w' k (setHeld S (if 0 ≤ cpu ∧ cpu < S.cpus then upd S.held cpu.toNat (S.held cpu.toNat ++ [fr]) else S.held)) fp' ∧ ∀ p x, fp' p x → fp p x ∨ rng w w' x := by
  refine (vc20 _ cpu fr w (fun v w' => v = .tuple #[] ∧ Kept (fp .held) w w' ∧ ∃ fp', CoreAt w' k (setHeld S (if 0 ≤ cpu ∧ cpu < S.cpus then upd S.held cpu.toNat (S.held cpu.toNat ++ [fr]) else S.held)) fp' ∧ ∀ p x, fp' p x → fp p x ∨ rng w w' x) ?_).mono ?_
  rotate_left
  · rintro e w' ⟨v, rfl, rfl, h⟩
    exact ⟨rfl, h⟩
  have hs := h.sizes
  obtain ⟨g, cp, u, H, hv, _, _, _, _, _⟩ := h.heldRow.put (B := fun i => IntsA (S.held i)) (i := 0) (fun _ _ => IntsA.stb) (by omega) fun _ _ => rfl
  have hr : ∀ {W : World}, Kept none' w W → rd W k (0 + 114) = some (.slice (some ⟨g, 0, none⟩) S.cpus cp) := fun kk => by
    rw [Nat.zero_add, ← hv]
    exact (h.k kk).rt (j := 20) rfl
  unfold vcP20
  refine gIf_intro (fun _ => rfl) ⟨_, _, _, fun _ => hr (Kept.refl _ _), Wif_intro (fun hc => ?_) (fun hc => ?_)⟩
  · have hin : 0 ≤ cpu ∧ cpu < S.cpus := by simpa using hc
    rw [if_pos hin]
    obtain ⟨i, rfl⟩ : ∃ i : Nat, cpu = i := ⟨cpu.toNat, by omega⟩
    have hi : i < S.cpus := by omega
    rw [Int.toNat_natCast]
    intro w1 e1
    have k1 : Kept none' w w1 := (Kept.refl _ _).dr e1
    have s1 : w1.heap.size = w.heap.size := by rw [e1]; rfl
    have C1 := h.k k1
    obtain ⟨g2, cp2, u, H, hv2, hgG, hru, hA, hH, hput⟩ := C1.heldRow.put (B := fun j => IntsA (upd S.held i (S.held i ++ [fr]) j)) (i := i) (fun _ _ => IntsA.stb) hi fun j hj => by rw [upd_ne _ _ hj]
    have eg : g2 = g := by rw [hv] at hv2; cases hv2; rfl
    subst eg
    obtain ⟨a, l, c, rfl, R, hown⟩ := hA.ex
    have cg : ∀ {W : World}, Kept none' w1 W → rd W g2 (0 + Int.toNat (i : Int) * 1) = some (.slice a l c) := fun kk => by rw [Int.toNat_natCast, Nat.mul_one, Nat.zero_add]; exact kk.rd_some hru id
    refine Wif_yes rfl ⟨_, _, _, hr k1, Wif_yes rfl ⟨_, _, _, hr k1, Wif_yes rfl (Wif_yes (inB_of (by omega) (by omega)) ⟨a, l, c, cg (Kept.refl _ _), fun w2 e2 => ?_⟩)⟩⟩
    have k2 : Kept none' w1 w2 := (Kept.refl _ _).al e2
    have o2 := own_alloc (c := [vi fr]) e2
    refine ⟨⟨cg k2, trivial⟩, ⟨hr (k1.tr k2), trivial⟩, ⟨hr (k1.tr k2), trivial⟩, ?_⟩
    obtain ⟨t0, z, hi0, hz, hsz, hzs, hby⟩ := elInt.ex
    have row2 := (R.k k2).2
    have hlen := R.1
    have hli := hl i hi
    obtain ⟨a', l', c', w3, happ, rfl, row3, k3, hb3⟩ := app_any (P := Tryz.prog) (t := 51) (e := 3) (i := t0) (z := z) (size := 1) Tryz.underlying51 hi0 hz hsz hzs (by decide) row2 o2 (m := 1) (off := 0) (c := 1) (news := [vi fr]) rfl rfl oneV (by omega) hby (by omega)
    have R3 : RowI w3 0 a' (l + 1) c' (S.held i ++ [fr]) := ⟨by rw [List.length_append, hlen]; rfl, by rw [List.map_append]; exact row3⟩
    have K13 : Kept H w1 w3 := k2.mono (fun _ _ e => e.elim) |>.trans k3 fun x hx e => hown x e
    have hgk : ∀ x, H x → x ≠ k := fun x hx e => by
      have h1 := C1.dj _ _ x (hH x hx).1 (show fp .core x by rw [e]; exact (C1.at' .core).2)
      cases h1
    refine ⟨a', _, c', w3, happ, ⟨?_, trivial⟩, Wif_yes rfl (Wif_yes (inB_of (by omega) (by omega)) ⟨?_, fun w4 e4 => ?_⟩)⟩
    · exact K13.rd_some (hr k1) fun hx => hgk _ hx rfl
    · rw [Nat.mul_one]
      show wr w3 g2 (0 + i)
      rw [Nat.zero_add]
      exact (hput w3 K13).1
    · have e4 : w4 = st w3 g2 i (.slice a' (l + 1) c') := by rw [e4, Nat.mul_one]; show st w3 g2 (0 + i) _ = _; rw [Nat.zero_add]
      have k4 : Kept (· = g2) w3 w4 := (Kept.refl _ _).s1 e4 (.inl rfl)
      have hs4 : w4.heap.size = w3.heap.size := by rw [e4]; simp
      have K14 : Kept (fp .held) w1 w4 := (K13.mono fun x _ hx => (hH x hx).1).trans k4 fun x _ e => e ▸ hgG
      have K : Kept (fp .held) w w4 := (k1.mono fun _ _ e => e.elim).trans K14 fun _ _ h => h
      have R4 : RowI w4 0 a' (l + 1) c' (S.held i ++ [fr]) := R3.kx k4 fun x e ho => by
        subst e
        rcases hb3 with hb3 | hb3
        · rw [hb3] at ho; exact (hH _ (hown _ ho)).2 rfl
        · have := hb3 _ ho
          have := C1.lt _ _ hgG
          have := k2.sz
          omega
      have hrow := (hput w3 K13).2 w4 (.slice a' (l + 1) c') e4 ⟨⟨a', _, c', rfl, by rw [upd_same]; exact R4, fun x hx => ?_⟩, fun x hx => ?_⟩
      · refine ⟨rfl, K, _, C1.setHeld K14 (fun x hx _ => hx) hrow, fun p x hx => hx.imp id fun e => ⟨by have := e.2.1; omega, e.2.2⟩⟩
      · rcases hb3 with hb3 | hb3
        · rw [hb3] at hx; exact .inl (hown x hx)
        · have h1 := hb3 x hx
          have h2 := (row3.lt x hx).2
          have := k2.sz
          exact .inr ⟨by omega, h2⟩
      · rcases hx with hx | hx
        · have := (C1.lt _ _ (hH x hx).1).2; have := K14.sz; omega
        · have := hx.2; omega
  · have hno : ¬ (0 ≤ cpu ∧ cpu < S.cpus) := fun hh => by rw [show (!Option.isNone (some (Addr.mk k 0 none)) && decide (cpu ≥ 0) && decide (cpu < ((S.cpus : Nat) : Int))) = true by simp [hh.1, hh.2]] at hc; cases hc
    rw [if_neg hno]
    exact ⟨rfl, Kept.refl _ _, fp, h, fun p x hx => .inl hx⟩
theorem drop_spec (h : CoreAt w k S fp) (cpu fr : Int) (hl : ∀ i, i < S.cpus → (S.held i).length ≤ 100000) :
    Calls Tryz.prog 21 #[ptr k, vi cpu, vi fr] w fun e w' => e = .returned (.tuple #[]) ∧ Kept (fp .held) w w' ∧ ∃ fp' f', CoreAt w' k (setHeld S f') fp' ∧ (∀ p x, fp' p x → fp p x ∨ rng w w' x) ∧
      ((∃ (i j : Nat), cpu = i ∧ i < S.cpus ∧ FirstAt (S.held i) fr j ∧ f' = upd S.held i (del (S.held i) j)) ∨ ((∀ i : Nat, cpu = i → i < S.cpus → ∀ j : Nat, (S.held i)[j]? ≠ some fr) ∧ f' = S.held)) := by
  refine (vc21 _ cpu fr w (fun v w' => v = .tuple #[] ∧ Kept (fp .held) w w' ∧ ∃ fp' f', CoreAt w' k (setHeld S f') fp' ∧ (∀ p x, fp' p x → fp p x ∨ rng w w' x) ∧
      ((∃ (i j : Nat), cpu = i ∧ i < S.cpus ∧ FirstAt (S.held i) fr j ∧ f' = upd S.held i (del (S.held i) j)) ∨ ((∀ i : Nat, cpu = i → i < S.cpus → ∀ j : Nat, (S.held i)[j]? ≠ some fr) ∧ f' = S.held))) ?_).mono ?_
  rotate_left
  · rintro e w' ⟨v, rfl, rfl, h⟩
    exact ⟨rfl, h⟩
  have hs := h.sizes
  obtain ⟨g, cp, u, H, hv, _, _, _, _, _⟩ := h.heldRow.put (B := fun i => IntsA (S.held i)) (i := 0) (fun _ _ => IntsA.stb) (by omega) fun _ _ => rfl
  have hr : ∀ {W : World}, Kept none' w W → rd W k (0 + 114) = some (.slice (some ⟨g, 0, none⟩) S.cpus cp) := fun kk => by
    rw [Nat.zero_add, ← hv]
    exact (h.k kk).rt (j := 20) rfl
  unfold vcP21
  refine gIf_intro (fun _ => rfl) ⟨_, _, _, fun _ => hr (Kept.refl _ _), Wif_intro (fun hc => ?_) (fun hc => ?_)⟩
  · refine ⟨rfl, Kept.refl _ _, fp, S.held, h, fun p x hx => .inl hx, .inr ⟨fun i hi hi2 => ?_, rfl⟩⟩
    exfalso
    subst hi
    rw [show (!(!Option.isNone (some (Addr.mk k 0 none)) && decide ((i : Int) ≥ 0) && decide ((i : Int) < ((S.cpus : Nat) : Int)))) = false by simp; omega] at hc
    cases hc
  · have hin : 0 ≤ cpu ∧ cpu < S.cpus := by simpa using hc
    obtain ⟨i, rfl⟩ : ∃ i : Nat, cpu = i := ⟨cpu.toNat, by omega⟩
    have hi : i < S.cpus := by omega
    have hli := hl i hi
    obtain ⟨g0, cp0, u0, H0, hv0, _, hru0, hA0, _, _⟩ := h.heldRow.put (B := fun i => IntsA (S.held i)) (i := i) (fun _ _ => IntsA.stb) hi fun _ _ => rfl
    have eg : g0 = g := by rw [hv] at hv0; cases hv0; rfl
    subst eg
    obtain ⟨a0, l0, c0, rfl, R0, _⟩ := hA0.ex
    refine Wif_yes rfl ⟨_, _, _, hr (Kept.refl _ _), Wif_yes rfl (Wif_yes (inB_of (by omega) (by omega)) ⟨a0, l0, c0, by rw [Int.toNat_natCast, Nat.mul_one]; show rd w g0 (0 + i) = _; rw [Nat.zero_add]; exact hru0, (index_spec R0 fr (by omega)).mono ?_⟩)⟩
    rintro _ wx ⟨hx, ⟨j, hj, rfl⟩ | ⟨hno, rfl⟩⟩
    · rw [hx]
      clear hx
      have hjl := (List.getElem?_eq_some_iff.1 hj.1).1
      refine ⟨_, rfl, Wif_yes (by simp) fun w1 e1 => ?_⟩
      have k1 : Kept none' w w1 := (Kept.refl _ _).dr e1
      have s1 : w1.heap.size = w.heap.size := by rw [e1]; rfl
      have C1 := h.k k1
      obtain ⟨g2, cp2, u, H, hv2, hgG, hru, hA, hH, hput⟩ := C1.heldRow.put (B := fun m => IntsA (upd S.held i (del (S.held i) j) m)) (i := i) (fun _ _ => IntsA.stb) hi fun m hm => by rw [upd_ne _ _ hm]
      have eg : g2 = g0 := by rw [hv] at hv2; cases hv2; rfl
      subst eg
      obtain ⟨a, l, c, rfl, R, hown⟩ := hA.ex
      refine Wif_yes rfl ⟨_, _, _, hr k1, Wif_yes rfl ⟨_, _, _, hr k1, Wif_yes rfl (Wif_yes (inB_of (by omega) (by omega)) ⟨a, l, c, by rw [Int.toNat_natCast, Nat.mul_one]; show rd w1 g2 (0 + i) = _; rw [Nat.zero_add]; exact hru, (clone_ints R (by omega)).mono ?_⟩)⟩⟩
      rintro _ w2 ⟨a2, c2, rfl, k2, R2⟩
      rw [wi (by omega)]
      refine ⟨_, _, _, rfl, ⟨hr (k1.tr k2), trivial⟩, (delete_spec R2 hjl).mono ?_⟩
      rintro _ w3 ⟨l3, rfl, R3, k3⟩
      have K13 : Kept none' w1 w3 := own0 k2 k3 fun x e => (R2.lt e).1
      have K13H : Kept H w1 w3 := K13.mono fun _ _ e => e.elim
      refine ⟨_, _, _, rfl, ⟨hr (k1.tr K13), trivial⟩, Wif_yes rfl (Wif_yes (inB_of (by omega) (by omega)) ⟨?_, fun w4 e4 => ?_⟩)⟩
      · rw [Int.toNat_natCast, Nat.mul_one]
        show wr w3 g2 (0 + i)
        rw [Nat.zero_add]
        exact (hput w3 K13H).1
      · have e4 : w4 = st w3 g2 i (.slice a2 l3 c2) := by rw [e4, Int.toNat_natCast, Nat.mul_one]; show st w3 g2 (0 + i) _ = _; rw [Nat.zero_add]
        have k4 : Kept (· = g2) w3 w4 := (Kept.refl _ _).s1 e4 (.inl rfl)
        have hs4 : w4.heap.size = w3.heap.size := by rw [e4]; simp
        have hgl := C1.lt _ _ hgG
        have K14 : Kept (fp .held) w1 w4 := (K13.mono fun _ _ e => e.elim).trans k4 fun x _ e => e ▸ hgG
        have K : Kept (fp .held) w w4 := (k1.mono fun _ _ e => e.elim).trans K14 fun _ _ h => h
        have R4 := R3.kx k4 fun x e ho => by have := (R3.lt ho).1; omega
        have hrow := (hput w3 K13H).2 w4 (.slice a2 l3 c2) e4 ⟨⟨a2, _, c2, rfl, by rw [upd_same]; exact R4.weak (Nat.zero_le _), fun x hx => .inr ⟨(R3.lt hx).1, (R3.lt hx).2⟩⟩, fun x hx => ?_⟩
        · exact ⟨rfl, K, _, _, C1.setHeld K14 (fun x hx _ => hx) hrow, fun p x hx => hx.imp id fun e => ⟨by have := e.2.1; omega, e.2.2⟩, .inl ⟨i, j, rfl, hi, hj, rfl⟩⟩
        · rcases hx with hx | hx
          · have := (C1.lt _ _ (hH x hx).1).2; have := K14.sz; omega
          · have := hx.2; omega
    · rw [hx]
      refine ⟨_, rfl, Wif_no (by decide) ⟨rfl, Kept.refl _ _, fp, S.held, h, fun p x hx => .inl hx, .inr ⟨fun m hm _ => ?_, rfl⟩⟩⟩
      have : m = i := by omega
      subst this
      exact hno
end
end Go.Proofs.YtklmokolnakkoaaGreatDoor
set_option linter.unusedSimpArgs false
set_option linter.unusedVariables false
set_option maxRecDepth 100000
namespace Go.Proofs.YtklmokolnakkoaaGreatDoor
open Go Go.Eng
theorem st3 {w w' : World} {b : Nat} {cs : List Value} {v0 v1 v2 : Value} (h : own w b cs) (hl : cs.length = 3) (e : w' = st (st (st w b 0 v0) b 1 v1) b 2 v2) : own w' b [v0, v1, v2] ∧ Kept (· = b) w w' := by
  subst e
  match cs, hl with
  | [a, c, d], _ => exact ⟨h.st_same.st_same.st_same, (((Kept.refl (· = b) w).st (.inl rfl)).st (.inl rfl)).st (.inl rfl)⟩
abbrev WantA (n g : Nat) (f : Nat → List Int) (G : Nat → Prop) (W : World) : Prop := RowA (fun j => IntsA (f j)) n (.slice (some ⟨g, 0, none⟩) n n) G W
section
variable {W : World} {n g i : Nat} {f : Nat → List Int} {G : Nat → Prop}
theorem WantA.get (R : WantA n g f G W) (hi : i < n) : ∃ a l c, rd W g i = some (.slice a l c) ∧ RowI W 0 a l c (f i) ∧ G g := by
  obtain ⟨g2, cp, u, H, hv, hg, hr, hA, _, _⟩ := R.put (B := fun j => IntsA (f j)) (i := i) (fun _ _ => IntsA.stb) hi fun _ _ => rfl
  cases hv
  obtain ⟨a, l, c, rfl, R, _⟩ := hA.ex
  exact ⟨a, l, c, hr, R, hg⟩
theorem WantA.app (R : WantA n g f G W) (hi : i < n) (fr : Int) (hl : (f i).length ≤ 100000) : ∃ a l c, rd W g i = some (.slice a l c) ∧ ∀ w2, w2 = W.alloc (.cells #[vi fr] 3) → ∃ a' l' c' w3, appIs Tryz.prog #[51, 51] 51 (.slice a l c) (.slice (some ⟨W.heap.size, 0, none⟩) 1 1) (.slice a' l' c') w2 w3 ∧
    Kept (fun x => G x ∧ x ≠ g) W w3 ∧ wr w3 g i ∧ ∀ w4, w4 = st w3 g i (.slice a' l' c') → Kept G W w4 ∧ WantA n g (upd f i (f i ++ [fr])) (fun x => G x ∨ rng W w4 x) w4 := by
  obtain ⟨g2, cp2, u, H, hv2, hgG, hru, hA, hH, hput⟩ := R.put (B := fun j => IntsA (upd f i (f i ++ [fr]) j)) (i := i) (fun _ _ => IntsA.stb) hi fun j hj => by rw [upd_ne _ _ hj]
  cases hv2
  obtain ⟨a, l, c, rfl, R0, hown⟩ := hA.ex
  refine ⟨a, l, c, hru, fun w2 e2 => ?_⟩
  have k2 : Kept none' W w2 := (Kept.refl _ _).al e2
  have o2 := own_alloc (c := [vi fr]) e2
  obtain ⟨t0, z, hi0, hz, hsz, hzs, hby⟩ := elInt.ex
  have row2 := (R0.k k2).2
  have hlen := R0.1
  obtain ⟨a', l', c', w3, happ, rfl, row3, k3, hb3⟩ := app_any (P := Tryz.prog) (t := 51) (e := 3) (i := t0) (z := z) (size := 1) Tryz.underlying51 hi0 hz hsz hzs (by decide) row2 o2 (m := 1) (off := 0) (c := 1) (news := [vi fr]) rfl rfl oneV (by omega) hby (by omega)
  have R3 : RowI w3 0 a' (l + 1) c' (f i ++ [fr]) := ⟨by rw [List.length_append, hlen]; rfl, by rw [List.map_append]; exact row3⟩
  have K13 : Kept H W w3 := k2.mono (fun _ _ e => e.elim) |>.trans k3 fun x hx e => hown x e
  have hgl := R.lt _ hgG
  refine ⟨a', _, c', w3, happ, K13.mono fun x _ hx => hH x hx, (hput w3 K13).1, fun w4 e4 => ?_⟩
  have k4 : Kept (· = g) w3 w4 := (Kept.refl _ _).s1 e4 (.inl rfl)
  have hs4 : w4.heap.size = w3.heap.size := by rw [e4]; simp
  have K14 : Kept G W w4 := (K13.mono fun x _ hx => (hH x hx).1).trans k4 fun x _ e => e ▸ hgG
  have R4 : RowI w4 0 a' (l + 1) c' (f i ++ [fr]) := R3.kx k4 fun x e ho => by
    subst e
    rcases hb3 with hb3 | hb3
    · rw [hb3] at ho; exact (hH _ (hown _ ho)).2 rfl
    · have := hb3 _ ho
      have := k2.sz
      omega
  refine ⟨K14, (hput w3 K13).2 w4 (.slice a' (l + 1) c') e4 ⟨⟨a', _, c', rfl, by rw [upd_same]; exact R4, fun x hx => ?_⟩, fun x hx => ?_⟩⟩
  · rcases hb3 with hb3 | hb3
    · rw [hb3] at hx; exact .inl (hown x hx)
    · have h1 := hb3 x hx
      have h2 := (row3.lt x hx).2
      have := k2.sz
      exact .inr ⟨by omega, h2⟩
  · rcases hx with hx | hx
    · have := R.lt _ (hH x hx).1; have := K14.sz; omega
    · have := hx.2; omega
theorem ownsRow_lc {w : World} {base e s n l c : Nat} {a : Option Addr} {xs : List Value} (h : w.ownsRow base e s (.slice a l c) n xs) (hn : n = l) : l ≤ c ∧ c ≤ maxLen := by
  rcases h.2 with ⟨h0, h1⟩ | ⟨g, cap, cur, hv, hb, hgg, hnc, hm, hsz, htk⟩
  · cases h0; exact ⟨Nat.le_refl _, Nat.zero_le _⟩
  · cases hv; exact ⟨by omega, hm⟩
theorem Src.short {w : World} {a : Option Addr} {l c l' : Nat} {xs ys : List Value} (h : Eng.Src w a l c xs) (hl : l' ≤ l) (hy : ∀ (j : Nat) u, ys[j]? = some u → xs[j]? = some u) : Eng.Src w a l' c ys := by
  refine ⟨fun e => ?_, fun hp => ?_⟩
  · have := h.nil e; omega
  · obtain ⟨u, hu⟩ : ∃ u, ys[0]? = some u := ⟨_, List.getElem?_eq_getElem hp⟩
    obtain ⟨X, off, e, hr⟩ := h.ptr (List.getElem?_eq_some_iff.1 (hy 0 u hu)).1
    exact ⟨X, off, e, fun j u hu => hr j u (hy j u hu)⟩
theorem WantA.cut (R : WantA n g f G W) (hi : i < n) {j : Nat} (hj : j < (f i).length) (hl : (f i).length ≤ 100000) : ∃ a l c, rd W g i = some (.slice a l c) ∧ l = (f i).length ∧ l ≤ c ∧ c ≤ maxLen ∧ ∀ w2, w2 = W.alloc (.cells #[] 3) →
    ∃ a1 l1 c1 w3, appIs Tryz.prog #[51, 51] 51 (.slice (some ⟨W.heap.size, 0, none⟩) 0 0) (.slice a j c) (.slice a1 l1 c1) w2 w3 ∧ Kept none' W w3 ∧
    ∃ a2 l2 c2 w4, appIs Tryz.prog #[51, 51] 51 (.slice a1 l1 c1) (.slice (offA a c (j + 1) 1) (l - (j + 1)) (c - (j + 1))) (.slice a2 l2 c2) w3 w4 ∧ Kept none' W w4 ∧ wr w4 g i ∧
    ∀ w5, w5 = st w4 g i (.slice a2 l2 c2) → Kept G W w5 ∧ WantA n g (upd f i (del (f i) j)) (fun x => G x ∨ rng W w5 x) w5 := by
  obtain ⟨g2, cp2, u, H, hv2, hgG, hru, hA, hH, hput⟩ := R.put (B := fun m => IntsA (upd f i (del (f i) j) m)) (i := i) (fun _ _ => IntsA.stb) hi fun j hj => by rw [upd_ne _ _ hj]
  cases hv2
  obtain ⟨a, l, c, rfl, R0, hown⟩ := hA.ex
  have hlen := R0.1
  have hlc := (ownsRow_lc R0.2 rfl).1
  have hcm := (ownsRow_lc R0.2 rfl).2
  refine ⟨a, l, c, hru, hlen, hlc, hcm, fun w2 e2 => ?_⟩
  have k2 : Kept none' W w2 := (Kept.refl _ _).al e2
  have r2 : RowI w2 W.heap.size (some ⟨W.heap.size, 0, none⟩) 0 0 [] := ⟨rfl, row0 e2⟩
  have s2 := (R0.k k2).src
  obtain ⟨a1, l1, c1, w3, p1, r3, k3⟩ := r2.app (ys := (f i).take j) (a2 := a) (l2 := j) (c2 := c) (Src.short s2 (by omega) fun m v hv => by
    rw [List.map_take] at hv
    rw [List.getElem?_take] at hv
    split at hv
    · exact hv
    · cases hv) (by rw [List.length_take]; omega) k2.sz (by rw [List.length_take]; simp; omega)
  have K3 : Kept none' W w3 := own0 k2 k3 fun x e => (r2.lt e).1
  have s3 := (R0.k K3).src.part (j + 1) 1 (l - (j + 1)) (by omega) hlc (by omega)
  have e3 : (((f i).map vi).drop ((j + 1) * 1)).take ((l - (j + 1)) * 1) = ((f i).drop (j + 1)).map vi := by
    rw [Nat.mul_one, Nat.mul_one, ← List.map_drop, List.take_of_length_le (by rw [List.length_map, List.length_drop]; omega)]
  rw [e3] at s3
  obtain ⟨a2, l2, c2, w4, p2, r4, k4⟩ := r3.app s3 (by rw [List.length_drop]; omega) K3.sz (by simp; omega)
  have K4 : Kept none' W w4 := own0 K3 k4 fun x e => (r3.lt e).1
  rw [List.nil_append] at r4
  have K4H : Kept H W w4 := K4.mono fun _ _ e => e.elim
  have hgl := R.lt _ hgG
  refine ⟨a1, l1, c1, w3, p1, K3, a2, l2, c2, w4, p2, K4, (hput w4 K4H).1, fun w5 e5 => ?_⟩
  have k5 : Kept (· = g) w4 w5 := (Kept.refl _ _).s1 e5 (.inl rfl)
  have hs5 : w5.heap.size = w4.heap.size := by rw [e5]; simp
  have K5 : Kept G W w5 := (K4.mono fun _ _ e => e.elim).trans k5 fun x _ e => e ▸ hgG
  have R5 := r4.kx k5 fun x e ho => by have := (r4.lt ho).1; omega
  refine ⟨K5, (hput w4 K4H).2 w5 (.slice a2 l2 c2) e5 ⟨⟨a2, _, c2, rfl, by rw [upd_same]; exact R5.weak (Nat.zero_le _), fun x hx => .inr ⟨(r4.lt hx).1, (r4.lt hx).2⟩⟩, fun x hx => ?_⟩⟩
  rcases hx with hx | hx
  · have := R.lt _ (hH x hx).1; have := K5.sz; omega
  · have := hx.2; omega
end
theorem del_len {xs : List Int} {j : Nat} : (del xs j).length ≤ xs.length := by unfold del; rw [List.length_append, List.length_take, List.length_drop]; omega
structure HI (w1 : World) (k : Nat) (S : Mach) (g q : Nat) (f : Nat → List Int) (W : World) : Prop where
  kp : Kept none' w1 W
  ex : ∃ fp G, CoreAt W k (setHeld S f) fp ∧ WantA S.cpus g f G W ∧ (∀ p x, fp p x → w1.heap.size ≤ x ∧ ¬ G x) ∧ ∀ x, G x → w1.heap.size ≤ x
  len : ∀ i, (f i).length ≤ q
theorem HI.k {w1 W W' : World} {k g q : Nat} {S : Mach} {f : Nat → List Int} (h : HI w1 k S g q f W) (kk : Kept none' W W') : HI w1 k S g q f W' := by
  obtain ⟨fp, G, C, R, d1, d2⟩ := h.ex
  exact ⟨h.kp.tr kk, ⟨fp, G, C.k kk, (RowA.stb fun _ _ => IntsA.stb).kx _ _ _ _ none' R kk fun _ e => e.elim, d1, d2⟩, h.len⟩
theorem HI.mono {w1 W : World} {k g q q' : Nat} {S : Mach} {f : Nat → List Int} (h : HI w1 k S g q f W) (hq : q ≤ q') : HI w1 k S g q' f W := ⟨h.kp, h.ex, fun i => Nat.le_trans (h.len i) hq⟩
theorem range_get {α : Type} {n i : Nat} {f : Nat → α} (hi : i < n) : ((List.range n).map f)[i]? = some (f i) := by rw [List.getElem?_map, List.getElem?_range hi]; rfl
structure XOp (w : World) (l : Option Addr) (q : Nat) (x1 x2 x3 : Int) : Prop where
  r0 : rd w (pb l) (po l + q * 3) = some (vi x1)
  r1 : rd w (pb l) (po l + q * 3 + 1) = some (vi x2)
  r2 : rd w (pb l) (po l + q * 3 + 2) = some (vi x3)
end Go.Proofs.YtklmokolnakkoaaGreatDoor
