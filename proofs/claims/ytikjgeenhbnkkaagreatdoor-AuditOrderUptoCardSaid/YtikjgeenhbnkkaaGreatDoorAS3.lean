/-
  A part of a proof that a law of this seat returns true at every input. Conditions: those in each theorem.
-/
import Derived.Test.YtikjgeenhbnkkaaGreatDoorAF5
import Derived.Test.YtikjgeenhbnkkaaGreatDoorAVB
set_option linter.unusedSimpArgs false
set_option linter.unusedVariables false
set_option maxRecDepth 100000
namespace Go.Proofs.YtikjgeenhbnkkaaGreatDoor
open Go Eng
def ownT (t : TypeId) (w : World) (b : Nat) (cs : List Value) : Prop := w.heap[b]? = some (.cells cs.toArray t (0, 0))
theorem ownT.own {t : TypeId} {w : World} {b : Nat} {cs : List Value} (h : ownT t w b cs) : own w b cs := ⟨t, h⟩
theorem ownT.st {t : TypeId} {w w' : World} {b o : Nat} {cs : List Value} {v : Value} (h : ownT t w b cs) (e : w' = st w b o v) : ownT t w' b (cs.set o v) := by
  subst e
  unfold ownT at *
  simp [Eng.st, World.setCell, Array.getElem?_modify, h]
theorem ownT.kx {t : TypeId} {X : Nat → Prop} {w w1 : World} {b : Nat} {cs : List Value} (h : ownT t w b cs) (k : Kept X w w1) (hx : ¬ X b) : ownT t w1 b cs :=
  (k.blk b (Array.getElem?_eq_some_iff.1 h).1 hx).trans h
theorem ownT.dr {t : TypeId} {w w1 : World} {b : Nat} {cs : List Value} (h : ownT t w b cs) (e : w1 = w.drew) : ownT t w1 b cs := by subst e; exact h
theorem ownT.clr {P : Program} {t e ty u : TypeId} {z : Value} (ht : P.underlying t = some (.slice e)) (hv : ∀ w, (zeroValue e).run P w = .ok z w) (hz : z.cells = #[z]) (h1 : z.oneCell' = true)
    {w : World} {B : Nat} {cs : List Value} (h : ownT u w B cs) (o n c : Nat) (hn : o + n ≤ cs.length) :
    ∃ w', clrIs P #[t] ty (.slice (some ⟨B, o, none⟩) n c) w w' ∧ ownT u w' B (cs.take o ++ List.replicate n z ++ cs.drop (o + n)) ∧ Kept (· = B) w w' := by
  obtain ⟨w', hc, ⟨t', ho⟩, hk⟩ := clr_own (ty := ty) ht hv hz h1 h.own o n c hn
  refine ⟨w', hc, ?_, hk⟩
  cases n with
  | zero =>
    have hc2 : clrIs P #[t] ty (.slice (some ⟨B, o, none⟩) 0 c) w w := ⟨by simp [Builtin.clear_, run_underlying ht]⟩
    have := hc.run.symm.trans hc2.run
    simp at this
    unfold ownT at *
    rw [this, h] at ho
    rw [this]
    simp at ho ⊢
    exact h
  | succ m =>
    have hzc : (Builtin.zeroCells z.cells (m + 1)).toList = List.replicate (m + 1) z := by
      rw [hz]
      simp [Builtin.zeroCells]
      apply List.ext_getElem
      · simp
      · intro i h1 h2
        simp [Nat.mod_one]
    have hst := run_storeCells_at P B o u (List.replicate (m + 1) z) 0 cs.toArray w h (by simpa using hn) (by intro v hv'; rw [List.eq_of_mem_replicate hv']; exact h1)
    simp only [Nat.add_zero, List.length_replicate] at hst
    have hc2 : clrIs P #[t] ty (.slice (some ⟨B, o, none⟩) (m + 1) c) w (w.setRow B (cs.take o ++ List.replicate (m + 1) z ++ cs.drop (o + (m + 1))).toArray) := ⟨by simp [Builtin.clear_, run_underlying ht, hv, hzc, hst]⟩
    have := hc.run.symm.trans hc2.run
    simp at this
    rw [this] at ho ⊢
    unfold ownT at *
    simp [World.setRow, Array.getElem?_modify, h] at ho ⊢
theorem RowI.typed {w : World} {base : Nat} {a : Option Addr} {l c : Nat} {xs : List Int} (h : RowI w base a l c xs) :
    (a = none ∧ xs = [] ∧ l = 0 ∧ c = 0) ∨ ∃ g cs, a = some ⟨g, 0, none⟩ ∧ base ≤ g ∧ ownT 3 w g cs ∧ cs.take xs.length = xs.map vi ∧ xs.length ≤ c ∧ c ≤ maxLen ∧ cs.length = c := by
  obtain ⟨rfl, h⟩ := h
  rcases h.2 with ⟨h0, h1⟩ | ⟨g, cap, cur, hv, hb, hgg, hnc, hm, hsz, htk⟩
  · have hx0 : xs = [] := List.length_eq_zero_iff.1 h1
    subst hx0
    cases h0
    exact .inl ⟨rfl, rfl, rfl, rfl⟩
  · cases hv
    exact .inr ⟨g, cur.toList, rfl, hb, by unfold ownT; simpa using hgg, by simpa using htk, hnc, hm, by simpa using hsz⟩
theorem RowI.mk' {w : World} {base g c : Nat} {cs : List Value} {xs : List Int} (h : ownT 3 w g cs) (hb : base ≤ g) (ht : cs.take xs.length = xs.map vi) (hc : xs.length ≤ c) (hm : c ≤ maxLen) (hl : cs.length = c) : RowI w base (some ⟨g, 0, none⟩) xs.length c xs :=
  ⟨rfl, by simp, .inr ⟨g, c, cs.toArray, rfl, hb, h, hc, hm, by simpa using hl, by simpa using ht⟩⟩
theorem take_get {cs : List Value} {xs : List Int} (h : cs.take xs.length = xs.map vi) {j : Nat} {n : Int} (hj : xs[j]? = some n) : cs[j]? = some (vi n) := by
  have hl := (List.getElem?_eq_some_iff.1 hj).1
  have : (cs.take xs.length)[j]? = (xs.map vi)[j]? := by rw [h]
  rw [List.getElem?_take_of_lt hl] at this
  rw [this]
  simp [hj]
theorem compact_row {w : World} {base : Nat} {a : Option Addr} {l c : Nat} {xs : List Int} (h : RowI w base a l c xs) (hs : xs.Pairwise (· ≤ ·)) (hl : xs.length ≤ 1000000000) :
    Calls Tryz.prog 29 #[.slice a l c] w fun e w' => ∃ (l' : Nat) (ys : List Int), e = .returned (.slice a l' c) ∧ RowI w' base a l' c ys ∧ ys.Pairwise (· < ·) ∧ (∀ n, n ∈ ys ↔ n ∈ xs) ∧ Kept (fun b => (Value.slice a l c).ownBlock = some b) w w' := by
  have hlen := h.1
  subst hlen
  refine (vc29 a xs.length c w (fun v w' => ∃ (l' : Nat) (ys : List Int), v = .slice a l' c ∧ RowI w' base a l' c ys ∧ ys.Pairwise (· < ·) ∧ (∀ n, n ∈ ys ↔ n ∈ xs) ∧ Kept (fun b => (Value.slice a xs.length c).ownBlock = some b) w w') ?_).mono ?_
  · unfold vcP29
    have hle : ∀ (i j : Nat) (x y : Int), i ≤ j → xs[i]? = some x → xs[j]? = some y → x ≤ y := by
      intro i j x y hij hx hy
      rcases Nat.lt_or_eq_of_le hij with hlt | rfl
      · obtain ⟨h1, rfl⟩ := List.getElem?_eq_some_iff.1 hx
        obtain ⟨h2, rfl⟩ := List.getElem?_eq_some_iff.1 hy
        exact List.pairwise_iff_getElem.1 hs i j h1 h2 hlt
      · rw [hx] at hy; cases hy; exact Int.le_refl _
    refine Wif_intro (fun hc => ?_) (fun hc => ?_)
    · have hl2 : xs.length < 2 := by simp at hc; omega
      refine ⟨_, xs, rfl, h, ?_, fun n => Iff.rfl, Kept.refl _ _⟩
      match xs, hl2 with
      | [], _ => exact List.Pairwise.nil
      | [x], _ => exact List.pairwise_singleton _ _
    have hl2 : 2 ≤ xs.length := by simp at hc; omega
    rcases h.typed with ⟨_, h0, _⟩ | ⟨g, cs, rfl, hb, ho, htk, hxc, hm, hcl⟩
    · rw [h0] at hl2; simp at hl2
    refine ⟨fun _ _ _ n w' M => ∃ i : Nat, n = (i : Int) ∧ 1 ≤ i ∧ i ≤ xs.length ∧ M = xs.length - i ∧ (xs.take i).Pairwise (· < ·) ∧ Kept none' w w', ⟨xs.length - 1, 1, rfl, Nat.le_refl _, by omega, rfl, ?_, Kept.refl _ _⟩, ?_⟩
    · match xs, hl2 with
      | x :: _, _ => exact List.pairwise_singleton _ _
    rintro _ _ _ _ w' _ ⟨i, rfl, hi1, hi, rfl, hpw, k1⟩
    refine Wif_intro (fun hc => ?_) (fun hc => ?_)
    · have hil : i < xs.length := by simp at hc; omega
      intro w1 e1
      have k1 := k1.dr e1
      have o1 := ho.kx k1 id
      obtain ⟨x, hx⟩ : ∃ x, xs[i]? = some x := ⟨xs[i], List.getElem?_eq_getElem hil⟩
      obtain ⟨y, hy⟩ : ∃ y, xs[i - 1]? = some y := ⟨xs[i - 1], List.getElem?_eq_getElem (by omega)⟩
      have hd : xs.take (i + 1) = xs.take i ++ [x] := by rw [List.take_add_one, hx]; rfl
      have hym : y ∈ xs.take i := List.mem_of_getElem? (i := i - 1) (by rw [List.getElem?_take, if_pos (by omega)]; exact hy)
      have hwi : IntKind.wrap .i64 ((i : Int) - 1) = ((i - 1 : Nat) : Int) := by rw [wi (by omega)]; omega
      refine Wif_yes rfl (Wif_yes (inB_of (by omega) (by omega)) ⟨x, ?_, Wif_yes rfl ?_⟩)
      · rw [Int.toNat_natCast]
        exact (o1.own.rd (0 + i * 1)).trans (by simpa using take_get htk hx)
      rw [hwi]
      refine Wif_yes (inB_of (by omega) (by omega)) ⟨y, ?_, ?_⟩
      · rw [Int.toNat_natCast]
        exact (o1.own.rd (0 + (i - 1) * 1)).trans (by simpa using take_get htk hy)
      refine Wif_intro (fun he => ?_) (fun he => ?_)
      · have hxy : x = y := by simpa using he
        subst hxy
        refine Wif_yes (okSl_of (by omega) (by omega) (by omega)) ?_
        rw [Int.toNat_natCast, offA_0 (by omega)]
        refine ⟨fun p k w' M => ∃ (P K : Nat) (D : List Value) (ys : List Int), p = (P : Int) ∧ k = (K : Int) ∧ 1 ≤ K ∧ i + K ≤ xs.length ∧ M = xs.length - (i + K) ∧ i ≤ P ∧ P < i + K ∧ ys.length = P ∧ ownT 3 w' g D ∧ D.length = c ∧ D.take P = ys.map vi ∧ ys.Pairwise (· < ·) ∧ (∀ n, n ∈ ys ↔ n ∈ xs.take (i + K)) ∧ (∀ j, i + K ≤ j + 1 → D[j]? = cs[j]?) ∧ Kept (· = g) w w',
          ⟨xs.length - (i + 1), i, 1, cs, xs.take i, rfl, rfl, Nat.le_refl _, by omega, rfl, Nat.le_refl _, by omega, by simp; omega, o1, hcl, ?_, hpw, fun n => ?_, fun _ _ => rfl, k1.weak fun b hb => hb.elim⟩, ?_⟩
        · have := congrArg (List.take i) htk
          rw [List.take_take, Nat.min_eq_left (by omega)] at this
          rw [this, List.map_take]
        · rw [hd, List.mem_append, List.mem_singleton]
          exact ⟨.inl, fun g => g.elim id fun g => g ▸ hym⟩
        rintro _ _ w2 _ ⟨P, K, D, ys, rfl, rfl, hK1, hK, rfl, hiP, hPK, hyl, oD, hDl, hDt, hyp, hym2, hDc, k2⟩
        refine Wif_intro (fun hc2 => ?_) (fun hc2 => ?_)
        · have hKl : i + K < xs.length := by simp at hc2; omega
          intro w3 e3
          have oD3 := oD.dr e3
          have k3 := k2.dr e3
          obtain ⟨u, hu⟩ : ∃ u, xs[i + K]? = some u := ⟨xs[i + K], List.getElem?_eq_getElem hKl⟩
          obtain ⟨v, hv⟩ : ∃ v, xs[i + K - 1]? = some v := ⟨xs[i + K - 1], List.getElem?_eq_getElem (by omega)⟩
          have hd2 : xs.take (i + (K + 1)) = xs.take (i + K) ++ [u] := by rw [← Nat.add_assoc, List.take_add_one, hu]; rfl
          have hwi2 : IntKind.wrap .i64 ((K : Int) - 1) = ((K - 1 : Nat) : Int) := by rw [wi (by omega)]; omega
          have ru : rd w3 g (i + K * 1) = some (vi u) := by
            rw [oD3.own.rd, Nat.mul_one, hDc _ (by omega)]; exact take_get htk hu
          have rv : rd w3 g (i + (K - 1) * 1) = some (vi v) := by
            rw [oD3.own.rd, Nat.mul_one, hDc _ (by omega), show i + (K - 1) = i + K - 1 by omega]; exact take_get htk hv
          have hvm : v ∈ xs.take (i + K) := List.mem_of_getElem? (i := i + K - 1) (by rw [List.getElem?_take, if_pos (by omega)]; exact hv)
          refine Wif_yes rfl (Wif_yes (inB_of (by omega) (by omega)) ⟨u, ?_, Wif_yes rfl ?_⟩)
          · rw [Int.toNat_natCast]; exact ru
          rw [hwi2]
          refine Wif_yes (inB_of (by omega) (by omega)) ⟨v, ?_, ?_⟩
          · rw [Int.toNat_natCast]; exact rv
          refine Wif_intro (fun he2 => ?_) (fun he2 => ?_)
          · have hne : u ≠ v := by simpa using he2
            refine Wif_yes rfl (Wif_yes (inB_of (by omega) (by omega)) ⟨u, ?_, Wif_yes rfl (Wif_yes (inB_of (by omega) (by omega)) ⟨?_, ?_⟩)⟩)
            · rw [Int.toNat_natCast]; exact ru
            · rw [Int.toNat_natCast]
              exact oD3.own.wr (by simp; omega)
            intro w4 e4
            rw [Int.toNat_natCast] at e4
            have e4 : w4 = st w3 g P (vi u) := by simpa using e4
            have oD4 := oD3.st e4
            have k4 : Kept (· = g) w w4 := by rw [e4]; exact k3.st (.inl rfl)
            refine ⟨xs.length - (i + (K + 1)), by omega, P + 1, K + 1, D.set P (vi u), ys ++ [u], by rw [wi (by omega)]; rfl, by rw [wi (by omega)]; rfl, by omega, by omega, rfl, by omega, by omega, by simp [hyl], oD4, by simpa using hDl, ?_, ?_, fun n => ?_, fun j hj => ?_, k4⟩
            · rw [List.map_append, ← hDt]
              rw [List.take_add_one, List.getElem?_set_self (by omega)]
              congr 1
              rw [List.take_set_of_le (Nat.le_refl _)]
            · rw [List.pairwise_append]
              refine ⟨hyp, List.pairwise_singleton _ _, fun z hz q hq => ?_⟩
              have hq : q = u := by simpa using hq
              subst hq
              have hz := (hym2 z).1 hz
              obtain ⟨j, hj⟩ := List.mem_iff_getElem?.1 hz
              rw [List.getElem?_take] at hj
              split at hj
              · have h1 := hle j (i + K - 1) _ _ (by omega) hj hv
                have h2 := hle (i + K - 1) (i + K) _ _ (by omega) hv hu
                have : v ≠ q := Ne.symm hne
                omega
              · cases hj
            · rw [hd2, List.mem_append, List.mem_append, hym2 n]
            · rw [List.getElem?_set_ne (by omega)]
              exact hDc j (by omega)
          · have hne : u = v := by simpa using he2
            subst hne
            refine ⟨xs.length - (i + (K + 1)), by omega, P, K + 1, D, ys, rfl, by rw [wi (by omega)]; rfl, by omega, by omega, rfl, hiP, by omega, hyl, oD3, hDl, hDt, hyp, fun n => ?_, fun j hj => hDc j (by omega), k3⟩
            rw [hd2, List.mem_append, hym2 n, List.mem_singleton]
            exact ⟨.inl, fun g => g.elim id fun g => g ▸ hvm⟩
        · have hKl : i + K = xs.length := by simp at hc2; omega
          refine Wif_yes (okSl_of (by omega) (by omega) (by omega)) ?_
          rw [Int.toNat_natCast, offA_0 (by omega)]
          obtain ⟨w3, hclr, oD3, k3⟩ := oD.clr (P := Tryz.prog) (t := 31) (e := 3) (ty := 0) (z := vi 0) Tryz.underlying31 Tryz.zeroValue3 rfl rfl P (xs.length - P) (c - P) (by omega)
          refine ⟨w3, hclr, Wif_yes (okSl_of (by omega) (by omega) (by omega)) ?_⟩
          refine ⟨P, ys, rfl, ?_, hyp, fun n => by rw [hym2 n, hKl, List.take_length], ?_⟩
          · have := RowI.mk' (xs := ys) (c := c) oD3 hb ?_ (by omega) hm (by simp; omega)
            · rw [hyl] at this; exact this
            · rw [hyl, List.append_assoc, List.take_append_of_le_length (by simp; omega), List.take_take, Nat.min_self]
              exact hDt
          · refine (k2.trans (X := (· = g)) k3 fun _ _ h => h).mono fun b _ hb => ?_
            simp [Value.ownBlock, hb]
      · have hxy : x ≠ y := by simpa using he
        refine ⟨xs.length - (i + 1), by omega, i + 1, by rw [wi (by omega)]; rfl, by omega, by omega, rfl, ?_, k1⟩
        rw [hd, List.pairwise_append]
        refine ⟨hpw, List.pairwise_singleton _ _, fun z hz q hq => ?_⟩
        have hq : q = x := by simpa using hq
        subst hq
        obtain ⟨j, hj⟩ := List.mem_iff_getElem?.1 hz
        rw [List.getElem?_take] at hj
        split at hj
        · have h1 := hle j (i - 1) _ _ (by omega) hj hy
          have h2 := hle (i - 1) i _ _ (by omega) hy hx
          have : y ≠ q := Ne.symm hxy
          omega
        · cases hj
    · have hil : i = xs.length := by simp at hc; omega
      subst hil
      rw [List.take_length] at hpw
      exact ⟨_, xs, rfl, h.k k1, hpw, fun n => Iff.rfl, k1.mono fun _ _ h => h.elim⟩
  · rintro e w' ⟨v, rfl, l', ys, rfl, hw⟩
    exact ⟨l', ys, rfl, hw⟩
end Go.Proofs.YtikjgeenhbnkkaaGreatDoor
set_option linter.unusedSimpArgs false
set_option linter.unusedVariables false
set_option maxRecDepth 100000
namespace Go.Proofs.YtikjgeenhbnkkaaGreatDoor
open Go Eng
open Go.Shelf
theorem nsc_zero (n : Nat) (h : 0 < n) : n * 8 ≤ 140737488355328 → True := fun _ => trivial
theorem grow_nil {w : World} {n : Int} (h0 : 0 ≤ n) (hn : n ≤ 1000000000) : Calls Tryz.prog 109 #[.slice none 0 0, vi n] w fun e w' => ∃ (a : Option Addr) (c : Nat), e = .returned (.slice a 0 c) ∧ RowI w' w.heap.size a 0 c [] ∧ Kept none' w w' := by
  obtain ⟨k, rfl⟩ : ∃ k : Nat, n = k := ⟨n.toNat, by omega⟩
  rcases Nat.eq_zero_or_pos k with rfl | hk
  · refine (Any8.slices_Grow_room Tryz.growI none 0 0 0 w (by omega) (by omega) (by omega) (by omega)).mono ?_
    rintro e w' ⟨rfl, rfl⟩
    exact ⟨none, 0, rfl, RowI.nil', Kept.refl _ _⟩
  · have hinfo := info_int
    cases hi : Tryz.prog.info? 3 with
    | none => rw [hi] at hinfo; cases hinfo
    | some i0 =>
    rw [hi] at hinfo
    simp at hinfo
    have hmx : 0 + k ≤ maxLen := by unfold maxLen; omega
    have hG := grownCap_ge w (0 + k) 0 3
    have hG2 := grownCap_le_maxLen w (0 + k) 0 3 hmx
    refine (Any8.slices_Grow_grow Tryz.growI i0 (vi 0) hi hinfo.1 (by rw [hinfo.2.1]; decide) none 0 0 k [] w (by omega) (by omega) (by rw [hinfo.2.2]; omega) (by omega) (by simp) (fun _ => rfl) (fun a h => (by cases h))).mono ?_
    change ∀ (e : Ending) (w' : World), _ ∧ w' = w.drew.alloc (Obj.cells _ 3) → _
    rintro e w' ⟨rfl, rfl⟩
    have k1 : Kept none' w (w.drew.alloc (.cells ((#[] ++ Builtin.zeroCells #[vi 0] (0 + k - 0) ++ Builtin.zeroCells #[vi 0] (grownCap w (0 + k) 0 3 - (0 + k))) : Array Value) 3)) := ((Kept.refl none' w).drew).alloc _ _
    have hz : ∀ m, (Builtin.zeroCells #[vi 0] m).size = m := fun m => by simp [Builtin.zeroCells]
    refine ⟨_, _, rfl, ⟨rfl, by simp, .inr ⟨w.heap.size, grownCap w (0 + k) 0 3, _, rfl, Nat.le_refl _, World.alloc_heap_new w.drew _, Nat.zero_le _, hG2, ?_, by simp⟩⟩, k1⟩
    have h1 := hz (0 + k - 0)
    have h2 := hz (grownCap w (0 + k) 0 3 - (0 + k))
    show (#[] ++ Builtin.zeroCells #[vi 0] (0 + k - 0) ++ Builtin.zeroCells #[vi 0] (grownCap w (0 + k) 0 3 - (0 + k))).size = _
    rw [Array.size_append, Array.size_append, h1, h2]
    show 0 + _ + _ = _
    omega
theorem RowI.src {w : World} {base : Nat} {a : Option Addr} {l c : Nat} {xs : List Int} (h : RowI w base a l c xs) : Eng.Src w a l c (xs.map vi) := by
  obtain ⟨rfl, h⟩ := h
  exact Eng.Src.of_row h
theorem RowI.app {w : World} {base : Nat} {a1 a2 : Option Addr} {l1 c1 l2 c2 : Nat} {xs ys : List Int} (h : RowI w base a1 l1 c1 xs) (hs : Eng.Src w a2 l2 c2 (ys.map vi)) (hl2 : l2 = ys.length) (hb : base ≤ w.heap.size) (hl : xs.length + ys.length ≤ 1000000) :
    ∃ a l c w', appIs Tryz.prog #[31, 31] 31 (.slice a1 l1 c1) (.slice a2 l2 c2) (.slice a l c) w w' ∧ RowI w' base a l c (xs ++ ys) ∧ Kept (fun b => (Value.slice a1 l1 c1).ownBlock = some b) w w' := by
  have hinfo := info_int
  cases hi : Tryz.prog.info? 3 with
  | none => rw [hi] at hinfo; cases hinfo
  | some i0 =>
  rw [hi] at hinfo
  simp at hinfo
  obtain ⟨rfl, h⟩ := h
  obtain ⟨a, c, w', h1, h2, h3⟩ := Eng.app (P := Tryz.prog) (t := 31) (ty := 31) (e := 3) (i := i0) (z := vi 0) (size := 1) Tryz.underlying31 hi hinfo.1 hinfo.2.1 rfl (by decide) h hs (by simp; omega) (fun u hu => by obtain ⟨x, _, rfl⟩ := List.mem_map.1 hu; rfl) (by omega) (by omega) hb
  subst hl2
  exact ⟨a, _, c, w', h1, ⟨by simp, by rw [List.map_append]; exact h2⟩, h3⟩
theorem concat_rows {w : World} {base B : Nat} {a1 a2 : Option Addr} {l1 c1 l2 c2 : Nat} {xs ys : List Int} (h1 : RowI w base a1 l1 c1 xs) (h2 : RowI w base a2 l2 c2 ys) (hB : own w B [.slice a1 l1 c1, .slice a2 l2 c2]) (hl : xs.length + ys.length ≤ 1000000) :
    Calls Tryz.prog 62 #[.slice (some ⟨B, 0, none⟩) 2 2] w fun e w' => ∃ (a : Option Addr) (l c : Nat), e = .returned (.slice a l c) ∧ RowI w' w.heap.size a l c (xs ++ ys) ∧ Kept none' w w' := by
  have hlx := h1.1
  have hly := h2.1
  refine (vc62 (some ⟨B, 0, none⟩) 2 2 w (fun v w' => ∃ (a : Option Addr) (l c : Nat), v = .slice a l c ∧ RowI w' w.heap.size a l c (xs ++ ys) ∧ Kept none' w w') ?_).mono ?_
  · unfold vcP62
    have hb2 : B < w.heap.size := hB.lt
    have r0 : ∀ w', Kept none' w w' → rd w' B (0 + (0 : Int).toNat * 1) = some (.slice a1 l1 c1) := fun w' k => ((hB.k k).rd _).trans rfl
    have r1 : ∀ w', Kept none' w w' → rd w' B (0 + (1 : Int).toNat * 1) = some (.slice a2 l2 c2) := fun w' k => ((hB.k k).rd _).trans rfl
    refine ⟨fun n i w' M => w' = w ∧ ((n = 0 ∧ i = 0 ∧ M = 2) ∨ (n = (l1 : Int) ∧ i = 1 ∧ M = 1) ∨ (n = (l1 : Int) + l2 ∧ i = 2 ∧ M = 0)), ⟨2, rfl, .inl ⟨rfl, rfl, rfl⟩⟩, ?_⟩
    rintro n i w1 M ⟨rfl, ⟨rfl, rfl, rfl⟩ | ⟨rfl, rfl, rfl⟩ | ⟨rfl, rfl, rfl⟩⟩
    · refine Wif_yes rfl (Wif_yes rfl (Wif_yes rfl ⟨a1, l1, c1, r0 _ (Kept.refl _ _), ?_⟩))
      rw [wi (by omega)]
      exact Wif_no (by simp <;> omega) ⟨1, by omega, rfl, .inr (.inl ⟨by omega, rfl, rfl⟩)⟩
    · refine Wif_yes rfl (Wif_yes rfl (Wif_yes rfl ⟨a2, l2, c2, r1 _ (Kept.refl _ _), ?_⟩))
      rw [wi (by omega)]
      exact Wif_no (by simp; omega) ⟨0, by omega, rfl, .inr (.inr ⟨rfl, rfl, rfl⟩)⟩
    refine Wif_no rfl ((grow_nil (n := (l1 : Int) + l2) (by omega) (by omega)).mono ?_)
    rintro _ w2 ⟨a, c, rfl, row, k2⟩
    refine ⟨a, 0, c, rfl, fun a l c i w' M => ∃ zs, ((zs = [] ∧ i = 0 ∧ M = 2) ∨ (zs = xs ∧ i = 1 ∧ M = 1) ∨ (zs = xs ++ ys ∧ i = 2 ∧ M = 0)) ∧ RowI w' w1.heap.size a l c zs ∧ Kept none' w1 w', ⟨2, [], .inl ⟨rfl, rfl, rfl⟩, row, k2⟩, ?_⟩
    rintro a l c i w3 M ⟨zs, hz, row3, k3⟩
    have hs3 := k3.sz
    have hown : ∀ b, (Value.slice a l c).ownBlock = some b → w1.heap.size ≤ b := fun b hb => by
      obtain ⟨rfl, h3⟩ := row3
      exact (h3.lt b hb).1
    rcases hz with ⟨rfl, rfl, rfl⟩ | ⟨rfl, rfl, rfl⟩ | ⟨rfl, rfl, rfl⟩
    · refine Wif_yes rfl (Wif_yes rfl (Wif_yes rfl ⟨a1, l1, c1, r0 _ k3, ?_⟩))
      obtain ⟨a', l', c', w4, happ, row4, k4⟩ := row3.app (h1.src.k k3) hlx (by omega) (by simp; omega)
      exact ⟨a', l', c', w4, happ, 1, by omega, xs, .inr (.inl ⟨rfl, rfl, rfl⟩), by simpa using row4, own0 k3 k4 hown⟩
    · refine Wif_yes rfl (Wif_yes rfl (Wif_yes rfl ⟨a2, l2, c2, r1 _ k3, ?_⟩))
      obtain ⟨a', l', c', w4, happ, row4, k4⟩ := row3.app (h2.src.k k3) hly (by omega) (by omega)
      exact ⟨a', l', c', w4, happ, 0, by omega, _, .inr (.inr ⟨rfl, rfl, rfl⟩), row4, own0 k3 k4 hown⟩
    · exact Wif_no rfl ⟨a, l, c, rfl, row3, k3⟩
  · rintro e w' ⟨v, rfl, a, l, c, rfl, hw⟩
    exact ⟨a, l, c, rfl, hw⟩
theorem delete_row {w : World} {base b1 b2 : Nat} {a : Option Addr} {l c : Nat} {xs : List Int} {P : Int → Prop} (h : RowI w base a l c xs) (hl : xs.length ≤ 1000000000)
    (hp : ∀ (x : Int) (w' : World), Kept (fun b => (Value.slice a l c).ownBlock = some b) w w' → Calls Tryz.prog 66 #[vi x, pt b1, pt b2] w' (Tells w' (P x))) :
    Calls Tryz.prog 65 #[.slice a l c, .func (.func 66) #[] #[pt b1, pt b2]] w fun e w' => ∃ (l' : Nat) (ys : List Int), e = .returned (.slice a l' c) ∧ RowI w' base a l' c ys ∧ ys.length ≤ xs.length ∧ (∀ n, n ∈ ys ↔ n ∈ xs ∧ ¬ P n) ∧ Kept (fun b => (Value.slice a l c).ownBlock = some b) w w' := by
  have hlen := h.1
  subst hlen
  refine (vc65 a xs.length c (some ⟨b1, 0, none⟩) (some ⟨b2, 0, none⟩) w (fun v w' => ∃ (l' : Nat) (ys : List Int), v = .slice a l' c ∧ RowI w' base a l' c ys ∧ ys.length ≤ xs.length ∧ (∀ n, n ∈ ys ↔ n ∈ xs ∧ ¬ P n) ∧ Kept (fun b => (Value.slice a xs.length c).ownBlock = some b) w w') ?_).mono ?_
  · unfold vcP65
    refine ⟨fun _ n w' M => ∃ i : Nat, n = (i : Int) ∧ i ≤ xs.length ∧ M = xs.length - i ∧ (∀ n ∈ xs.take i, ¬ P n) ∧ Kept none' w w', ⟨xs.length, 0, rfl, by omega, rfl, fun n hn => by simp at hn, Kept.refl _ _⟩, ?_⟩
    rintro _ _ w1 _ ⟨i, rfl, hi, rfl, hno, k1⟩
    refine Wif_intro (fun hc => ?_) (fun hc => ?_)
    · have hil : i < xs.length := by simp at hc; omega
      rcases h.typed with ⟨_, h0, _⟩ | ⟨g, cs, rfl, hb, ho, htk, hxc, hm, hcl⟩
      · rw [h0] at hil; simp at hil
      have hob : ∀ b, (Value.slice (some ⟨g, 0, none⟩) xs.length c).ownBlock = some b ↔ b = g := fun b => by simp [Value.ownBlock, eq_comm]
      have o1 := ho.kx k1 id
      obtain ⟨x, hx⟩ : ∃ x, xs[i]? = some x := ⟨xs[i], List.getElem?_eq_getElem hil⟩
      have hd : xs.take (i + 1) = xs.take i ++ [x] := by rw [List.take_add_one, hx]; rfl
      refine Wif_yes rfl (Wif_yes (inB_of (by omega) (by omega)) ⟨x, ?_, (hp x w1 (k1.mono fun _ _ h => h.elim)).mono ?_⟩)
      · rw [Int.toNat_natCast]
        exact (o1.own.rd (0 + i * 1)).trans (by simpa using take_get htk hx)
      rintro _ w2 ⟨b, rfl, k12, hbP⟩
      refine ⟨b, rfl, Wif_intro (fun hbt => ?_) (fun hbf => ?_)⟩
      · have hPx := hbP.1 hbt
        have k2 := k1.tr k12
        refine Wif_no (by simp <;> omega) ?_
        refine ⟨fun p k w' M => ∃ (Q K : Nat) (D : List Value) (ys : List Int), p = (Q : Int) ∧ k = (K : Int) ∧ Q < K ∧ K ≤ xs.length ∧ M = xs.length - K ∧ ys.length = Q ∧ ownT 3 w' g D ∧ D.length = c ∧ D.take Q = ys.map vi ∧ (∀ n, n ∈ ys ↔ n ∈ xs.take K ∧ ¬ P n) ∧ (∀ j, K ≤ j → D[j]? = cs[j]?) ∧ Kept (· = g) w w',
          ⟨xs.length - (i + 1), i, i + 1, cs, xs.take i, rfl, by rw [wi (by omega)]; rfl, by omega, by omega, rfl, by simp; omega, ho.kx k2 id, hcl, ?_, fun n => ?_, fun _ _ => rfl, k2.weak fun b hb => hb.elim⟩, ?_⟩
        · have := congrArg (List.take i) htk
          rw [List.take_take, Nat.min_eq_left (by omega)] at this
          rw [this, List.map_take]
        · rw [hd, List.mem_append, List.mem_singleton]
          exact ⟨fun g => ⟨.inl g, hno n g⟩, fun g => g.1.elim id fun e => absurd (e ▸ hPx) g.2⟩
        rintro _ _ w3 _ ⟨Q, K, D, ys, rfl, rfl, hQK, hK, rfl, hyl, oD, hDl, hDt, hym, hDc, k3⟩
        refine Wif_intro (fun hc2 => ?_) (fun hc2 => ?_)
        · have hKl : K < xs.length := by simp at hc2; omega
          obtain ⟨u, hu⟩ : ∃ u, xs[K]? = some u := ⟨xs[K], List.getElem?_eq_getElem hKl⟩
          have hd2 : xs.take (K + 1) = xs.take K ++ [u] := by rw [List.take_add_one, hu]; rfl
          refine Wif_yes rfl (Wif_yes (inB_of (by omega) (by omega)) ⟨u, ?_, (hp u w3 (k3.mono fun b _ hb => (hob b).2 hb)).mono ?_⟩)
          · rw [Int.toNat_natCast]
            exact (oD.own.rd (0 + K * 1)).trans (by rw [Nat.zero_add, Nat.mul_one, hDc _ (Nat.le_refl _)]; exact take_get htk hu)
          rintro _ w4 ⟨b', rfl, k34, hbP'⟩
          have oD4 := oD.kx k34 id
          have k4 : Kept (· = g) w w4 := k3.trans (X := (· = g)) k34 fun _ _ h => h.elim
          refine ⟨b', rfl, Wif_intro (fun hb' => ?_) (fun hb' => ?_)⟩
          · have hnP : ¬ P u := fun hP => by rw [hbP'.2 hP] at hb'; cases hb'
            refine Wif_yes rfl (Wif_yes (inB_of (by omega) (by omega)) ⟨?_, ?_⟩)
            · rw [Int.toNat_natCast]
              exact oD4.own.wr (by simp; omega)
            intro w5 e5
            rw [Int.toNat_natCast] at e5
            have e5 : w5 = st w4 g Q (vi u) := by simpa using e5
            have oD5 := oD4.st e5
            have k5 : Kept (· = g) w w5 := by rw [e5]; exact k4.st (.inl rfl)
            refine ⟨xs.length - (K + 1), by omega, Q + 1, K + 1, D.set Q (vi u), ys ++ [u], by rw [wi (by omega)]; rfl, by rw [wi (by omega)]; rfl, by omega, by omega, rfl, by simp [hyl], oD5, by simpa using hDl, ?_, fun n => ?_, fun j hj => ?_, k5⟩
            · rw [List.map_append, ← hDt]
              rw [List.take_add_one, List.getElem?_set_self (by omega)]
              congr 1
              rw [List.take_set_of_le (Nat.le_refl _)]
            · rw [hd2, List.mem_append, List.mem_append, hym n, List.mem_singleton]
              exact ⟨fun g => g.elim (fun g => ⟨.inl g.1, g.2⟩) fun e => ⟨.inr e, e ▸ hnP⟩, fun g => g.1.elim (fun h => .inl ⟨h, g.2⟩) .inr⟩
            · rw [List.getElem?_set_ne (by omega)]
              exact hDc j (by omega)
          · have hPu : P u := hbP'.1 (by simpa using hb')
            refine ⟨xs.length - (K + 1), by omega, Q, K + 1, D, ys, rfl, by rw [wi (by omega)]; rfl, by omega, by omega, rfl, hyl, oD4, hDl, hDt, fun n => ?_, fun j hj => hDc j (by omega), k4⟩
            rw [hd2, List.mem_append, hym n, List.mem_singleton]
            exact ⟨fun g => ⟨.inl g.1, g.2⟩, fun g => g.1.elim (fun h => ⟨h, g.2⟩) fun e => absurd (e ▸ hPu) g.2⟩
        · have hKl : K = xs.length := by simp at hc2; omega
          refine Wif_yes (okSl_of (by omega) (by omega) (by omega)) ?_
          rw [Int.toNat_natCast, offA_0 (by omega)]
          obtain ⟨w4, hclr, oD4, k4⟩ := oD.clr (P := Tryz.prog) (t := 31) (e := 3) (ty := 0) (z := vi 0) Tryz.underlying31 Tryz.zeroValue3 rfl rfl Q (xs.length - Q) (c - Q) (by omega)
          refine ⟨w4, hclr, Wif_yes (okSl_of (by omega) (by omega) (by omega)) ⟨Q, ys, rfl, ?_, by omega, fun n => by rw [hym n, hKl, List.take_length], ?_⟩⟩
          · have := RowI.mk' (xs := ys) (c := c) oD4 hb ?_ (by omega) hm (by simp; omega)
            · rw [hyl] at this; exact this
            · rw [hyl, List.append_assoc, List.take_append_of_le_length (by simp; omega), List.take_take, Nat.min_self]
              exact hDt
          · exact (k3.trans (X := (· = g)) k4 fun _ _ h => h).mono fun b _ hb => (hob b).2 hb
      · refine ⟨xs.length - (i + 1), by omega, i + 1, by rw [wi (by omega)]; rfl, by omega, rfl, fun n hn => ?_, k1.tr k12⟩
        rw [hd, List.mem_append, List.mem_singleton] at hn
        rcases hn with hn | rfl
        · exact hno n hn
        · exact fun hP => by rw [hbP.2 hP] at hbf; cases hbf
    · have hil : i = xs.length := by simp at hc; omega
      subst hil
      rw [List.take_length] at hno
      exact ⟨_, xs, rfl, h.k k1, Nat.le_refl _, fun n => ⟨fun g => ⟨g, hno n g⟩, And.left⟩, k1.mono fun _ _ h => h.elim⟩
  · rintro e w' ⟨v, rfl, l', ys, rfl, hw⟩
    exact ⟨l', ys, rfl, hw⟩
theorem equal_rows {w : World} {b1 b2 : Nat} {a1 a2 : Option Addr} {l1 c1 l2 c2 : Nat} {xs ys : List Int} (h1 : RowI w b1 a1 l1 c1 xs) (h2 : RowI w b2 a2 l2 c2 ys) :
    Calls Tryz.prog 68 #[.slice a1 l1 c1, .slice a2 l2 c2] w (Tells w (xs = ys)) := by
  have s1 := h1.src
  have s2 := h2.src
  obtain ⟨rfl, h1'⟩ := h1
  obtain ⟨rfl, h2'⟩ := h2
  refine (vc68 a1 xs.length c1 a2 ys.length c2 w (TellsV w (xs = ys)) ?_).mono fun e w' => tells_of
  unfold vcP68
  refine Wif_intro (fun hc => ?_) (fun hc => ?_)
  · exact ⟨false, rfl, Kept.refl _ _, by simp, fun e => by rw [e] at hc; simp at hc⟩
  have hll : xs.length = ys.length := by
    simp at hc
    omega
  have hmx : xs.length ≤ 9223372036854775807 := by
    rcases h1'.2 with ⟨_, h⟩ | ⟨g, cap, cur, hv, hb, hgg, hnc, hm, hsz, htk⟩
    · omega
    · unfold maxLen at hm; omega
  refine ⟨fun _ n w' M => ∃ i : Nat, n = (i : Int) ∧ i ≤ xs.length ∧ M = xs.length - i ∧ xs.take i = ys.take i ∧ Kept none' w w', ⟨xs.length, 0, rfl, by omega, rfl, rfl, Kept.refl _ _⟩, ?_⟩
  rintro _ _ w1 _ ⟨i, rfl, hi, rfl, he, k1⟩
  refine Wif_intro (fun hc => ?_) (fun hc => ?_)
  · have hil : i < xs.length := by simp at hc; omega
    intro w2 e2
    have k2 := k1.dr e2
    obtain ⟨x, hx⟩ : ∃ x, xs[i]? = some x := ⟨xs[i], List.getElem?_eq_getElem hil⟩
    obtain ⟨y, hy⟩ : ∃ y, ys[i]? = some y := ⟨ys[i], List.getElem?_eq_getElem (by omega)⟩
    refine Wif_yes (s1.isp (by simp; omega)) (Wif_yes (inB_of (by omega) (by omega)) ⟨x, ?_, Wif_yes (s2.isp (by simp; omega)) (Wif_yes (inB_of (by omega) (by omega)) ⟨y, ?_, ?_⟩)⟩)
    · rw [Int.toNat_natCast, Nat.mul_one]
      exact (s1.k k2).rd (by simp [hx])
    · rw [Int.toNat_natCast, Nat.mul_one]
      exact (s2.k k2).rd (by simp [hy])
    refine Wif_intro (fun hn => ?_) (fun hn => ?_)
    · refine ⟨false, rfl, k2, by simp, fun e => ?_⟩
      subst e
      rw [hx] at hy
      cases hy
      simp at hn
    · have hxy : x = y := by simpa using hn
      subst hxy
      refine ⟨xs.length - (i + 1), by omega, i + 1, by rw [wi (by omega)]; rfl, by omega, rfl, ?_, k2⟩
      rw [List.take_add_one, List.take_add_one, hx, hy, he]
  · have hil : i = xs.length := by simp at hc; omega
    subst hil
    rw [List.take_length, hll, List.take_length] at he
    exact ⟨true, rfl, k1, fun _ => he, fun _ => rfl⟩
end Go.Proofs.YtikjgeenhbnkkaaGreatDoor
set_option linter.unusedSimpArgs false
set_option linter.unusedVariables false
set_option maxRecDepth 100000
namespace Go.Proofs.YtikjgeenhbnkkaaGreatDoor
open Go Eng
theorem recKept_of {B : Nat} {X : Nat → Prop} {w w' : World} (k : Kept X w w') (hB : B + 1 < w.heap.size) (h1 : ¬ X B) (h2 : ¬ X (B + 1)) : RecKept B w w' := ⟨k.sz, k.blk B (by omega) h1, k.blk (B + 1) hB h2⟩
theorem keptY_of {Y X : Nat → Prop} {w w' : World} (k : Kept X w w') (h : ∀ b, Y b → b < w.heap.size ∧ ¬ X b) : KeptY Y w w' := ⟨k.sz, fun b hb => k.blk b (h b hb).1 (h b hb).2⟩
theorem keptX {X : Nat → Prop} {w w1 w2 : World} {kx : Nat} (k : Kept (· = kx) w w1) (k2 : Kept X w1 w2) (h : ∀ x, X x → x = kx ∨ w.heap.size ≤ x) : Kept (· = kx) w w2 :=
  k.trans k2 fun x hl hx => by rcases h x hx with h | h; exact h; omega
theorem rd_same {w w' : World} {b o : Nat} (h : w'.heap[b]? = w.heap[b]?) : rd w' b o = rd w b o := by rw [rd_def, rd_def, h]
theorem values_gives {w : World} {c : Nat} {a : Option Addr} {l cc : Nat} {xs : List Int} (h : SlR RInt 1 w a l cc xs) (hc : rd w c 0 = some (.slice a l cc)) :
    GivesV Tryz.prog 113 [pt c] (xs.map fun x => [vi x]) (fun b => 0 < xs.length ∧ b = pb a) w := by
  have hlen := h.len
  have h63 := h.lt63
  refine ⟨fun y J Jx W hk hab habx hY h0 => ?_⟩
  refine (vc113 y (some ⟨c, 0, none⟩) W (fun v w' => (∃ Y, J Y (xs.map fun x => [vi x]).length w') ∨ ∃ Y, Jx Y w') ?_).mono ?_
  rotate_left
  · rintro e w' ⟨v, rfl, hw⟩
    exact ⟨⟨v, rfl⟩, hw⟩
  unfold vcP113
  have hW := h.k RInt.stab hk
  refine Wif_yes rfl ⟨a, l, cc, hk.rd_some hc id, fun k w' N => ∃ (q : Nat) (Y : Nat → Prop), k = q ∧ q ≤ xs.length ∧ N = xs.length - q ∧ J Y q w' ∧ (0 < xs.length → w'.heap[pb a]? = W.heap[pb a]?),
    ⟨xs.length, 0, _, rfl, by omega, rfl, h0, fun _ => rfl⟩, ?_⟩
  rintro _ w3 _ ⟨q, Y, rfl, hq, rfl, hJ3, hkb⟩
  refine Wif_intro (fun hc3 => ?_) (fun hc3 => ?_)
  · have hqd : q < xs.length := by simp at hc3; omega
    obtain ⟨x, hx⟩ : ∃ x, xs[q]? = some x := ⟨xs[q], List.getElem?_eq_getElem hqd⟩
    obtain ⟨cs, _, hR, hr⟩ := hW.el q x hx
    obtain rfl : cs = [vi x] := hR
    refine Wif_yes (hW.isp (by omega)) (Wif_yes (inB_of (by omega) (by omega)) ⟨x, ?_, ?_⟩)
    · rw [Int.toNat_natCast]
      exact (rd_same (hkb (by omega))).trans (hr 0 _ rfl)
    have hy := hY _ q [vi x] w3 (by simp [hx]) hJ3
    obtain ⟨fn, tm, asg', bo, hrun, hR⟩ := hy.run
    refine ⟨fn, tm, asg', bo, hrun, hR.mono ?_⟩
    rintro en w6 ⟨k6, ⟨rfl, hJ6⟩ | ⟨rfl, hx6⟩⟩
    · exact ⟨true, rfl, Wif_no rfl ⟨xs.length - (q + 1), by omega, q + 1, _, by rw [wi (by omega)]; rfl, by omega, rfl, hJ6, fun h0 => (k6.blk _ (.inr ⟨h0, rfl⟩)).trans (hkb h0)⟩⟩
    · exact ⟨false, rfl, Wif_yes rfl (.inr ⟨_, hx6⟩)⟩
  · have : q = xs.length := by simp at hc3; omega
    subst this
    refine .inl ⟨Y, ?_⟩
    rw [List.length_map]
    exact hJ3
theorem appendSeq_values {w : World} {c : Nat} {a : Option Addr} {l cc : Nat} {xs : List Int} (h : SlR RInt 1 w a l cc xs) (hc : rd w c 0 = some (.slice a l cc)) (hl : xs.length ≤ 100000) :
    Calls Tryz.prog 110 #[.slice none 0 0, .func (.func 113) #[] #[pt c]] w fun e w' => ∃ (a : Option Addr) (l c : Nat), e = .returned (.slice a l c) ∧ RowI w' w.heap.size a l c xs ∧ Kept none' w w' := by
  refine (vc110 none 0 0 (some ⟨c, 0, none⟩) w (fun v w' => ∃ (a : Option Addr) (l c : Nat), v = .slice a l c ∧ RowI w' w.heap.size a l c xs ∧ Kept none' w w') ?_).mono ?_
  rotate_left
  · rintro e w' ⟨v, rfl, a, l, c, rfl, hw⟩
    exact ⟨a, l, c, rfl, hw⟩
  unfold vcP110
  intro w4 e4
  have hx := own_alloc (c := [.slice none 0 0]) e4
  have k4 : Kept none' w w4 := (Kept.refl _ _).al e4
  have hs4 : w4.heap.size = w.heap.size + 1 := by rw [e4]; simp only [World.alloc, Array.size_push]
  have h4 := h.k RInt.stab k4
  have hc4 := k4.rd_some hc id
  generalize hkx : w.heap.size = kx at *
  generalize hB : w4.heap.size = B at *
  have hrow : ∀ {w : World} {a : Option Addr} {l c : Nat} {xs : List Int}, RowI w (B + 2) a l c xs → ∀ x, (Value.slice a l c).ownBlock = some x → B + 2 ≤ x ∧ x < w.heap.size := fun h x hx => by
    obtain ⟨rfl, h⟩ := h
    exact h.lt x hx
  have hR : ∀ b, (0 < xs.length ∧ b = pb a) → b < w4.heap.size := by
    rintro b ⟨h0, rfl⟩
    obtain ⟨cs, _, hRx, hr⟩ := h4.el 0 _ (List.getElem?_eq_getElem h0)
    obtain rfl : cs = _ := hRx
    exact rd_lt (hr 0 _ rfl)
  have hRk : ∀ b, (0 < xs.length ∧ b = pb a) → b ≠ kx := by
    rintro b ⟨h0, rfl⟩ e
    obtain ⟨cs, _, hRx, hr⟩ := h.el 0 _ (List.getElem?_eq_getElem h0)
    obtain rfl : cs = _ := hRx
    have := rd_lt (hr 0 _ rfl)
    omega
  refine ⟨xs.map fun x => [vi x], fun b => 0 < xs.length ∧ b = pb a, fun Y i W => Kept (· = kx) w4 W ∧ ∃ a l cc, own W kx [.slice a l cc] ∧ i ≤ xs.length ∧ RowI W (B + 2) a l cc (xs.take i) ∧ (∀ x, Y x → x < W.heap.size ∧ (Value.slice a l cc).ownBlock ≠ some x), fun _ _ _ => False,
    ⟨values_gives h4 hc4, fun ys hx => ?_, fun b h => by have := hR b h; omega⟩, fun w1 k1 _ => ?_, ?_, fun _ _ _ _ h => h.elim, ?_, ?_, fun _ _ h => h.elim, trivial⟩
  · obtain ⟨x, _, rfl⟩ := List.mem_map.1 hx
    exact ⟨rfl, x, rfl⟩
  · exact ⟨k1.mono fun _ _ h => h.elim, none, 0, 0, hx.k k1, by omega, by simpa using RowI.nil', fun x h => h.elim⟩
  · rintro Y i W W' ⟨g1, a, l, cc, g2, hil, g3, g4⟩ hY k'
    have hsz := k'.sz
    refine ⟨keptX g1 k' fun x hx => .inr (by rcases hx with rfl | rfl | h; omega; omega; have := hY x h; omega), a, l, cc, g2.kx k' (fun hx => by rcases hx with h | h | h; omega; omega; have := hY _ h; omega), hil, ⟨g3.1, ownsRow_kx g3.2 k' fun x hx _ hb hh => (by rcases hh with h | h | h; omega; omega; exact (g4 x h).2 hb)⟩, fun x hx => ?_⟩
    rcases hx with hx | hx
    · have := g4 x hx; exact ⟨by omega, this.2⟩
    · refine ⟨hx.2, fun e => ?_⟩
      have := (hrow g3 x e).2
      omega
  · rintro Y i W ⟨g1, a, l, cc, g2, hil, g3, g4⟩ hY hsz p hv
    obtain ⟨hx⟩ : Nonempty (xs[i]? = some p) := by
      rw [List.getElem?_map] at hv
      cases hh : xs[i]? with
      | none => rw [hh] at hv; cases hv
      | some x => rw [hh] at hv; simp at hv; exact ⟨by rw [hv]⟩
    have hll := (List.getElem?_eq_some_iff.1 hx).1
    refine ⟨recKept_of (Kept.refl none' W) (by omega) id id, fun w7 k7 hs7 => ?_⟩
    have kW7 : Kept (· = B + 1) W w7 := k7
    have hW7 := kW7.sz
    refine ⟨a, l, cc, by rw [(g2.kx kW7 (by omega)).rd]; rfl, fun w8 e8 => ?_⟩
    have k8 : Kept none' w7 w8 := (Kept.refl _ _).al e8
    have p8 := own_alloc (c := [vi p]) e8
    have row7 : RowI w7 (B + 2) a l cc (xs.take i) := ⟨g3.1, ownsRow_kx g3.2 kW7 fun x hx _ _ hh => by omega⟩
    have row8 := row7.k k8
    have hs8 := k8.sz
    have hinfo := info_int
    cases hi : Tryz.prog.info? 3 with
    | none => rw [hi] at hinfo; cases hinfo
    | some i0 =>
    rw [hi] at hinfo
    simp at hinfo
    have hlt : l = (xs.take i).length := row8.1
    have hltx : l ≤ xs.length := by rw [hlt]; simp; omega
    obtain ⟨a', l', c', w9, happ, rfl, row9, k9, hon⟩ := app_any (P := Tryz.prog) (t := 31) (e := 3) (i := i0) (z := vi 0) (size := 1) Tryz.underlying31 hi hinfo.1 hinfo.2.1 rfl (by decide) row8.2 p8 (m := 1) (off := 0) (c := 1) (news := [vi p]) rfl rfl (fun u hu => by simp at hu; subst hu; rfl) (by omega) (by omega) (by omega)
    have row8' := hrow row8
    have g9 := ((g2.kx kW7 (by omega)).k k8).kx k9 fun e => by have := (row8' _ e).1; omega
    refine ⟨a', _, c', w9, happ, g9.wr (by simp), fun w10 e10 => ?_⟩
    have k10 : Kept (· = kx) w9 w10 := (Kept.refl _ _).s1 e10 (.inl rfl)
    have g10 := g9.s1 e10
    have K710 : Kept (fun x => x = kx ∨ (Value.slice a l cc).ownBlock = some x) w7 w10 := ((k8.mono fun _ _ h => h.elim).trans k9 fun x _ h => .inr h).trans k10 fun x _ h => .inl h
    have KW10 : Kept (fun x => x = B + 1 ∨ x = kx ∨ (Value.slice a l cc).ownBlock = some x) W w10 := (kW7.mono fun _ _ h => .inl h).trans K710 fun x _ h => .inr h
    have hl10 := KW10.sz
    have hgB := g1.sz
    refine ⟨recKept_of K710 (by omega) (fun h => ?_) (fun h => ?_), keptY_of KW10 fun y hy => ?_, ?_, a', _, c', g10, by omega, ⟨by rw [hlt]; simp; omega, ?_⟩, fun y hy => ?_⟩
    · rcases h with h | h
      · omega
      · have := (hrow row7 _ h).1; omega
    · rcases h with h | h
      · omega
      · have := (hrow row7 _ h).1; omega
    · rcases hy with hy | hy
      · have h1 := hY y hy
        have h2 := g4 y hy
        refine ⟨h2.1, fun hh => ?_⟩
        rcases hh with h | h | h
        · omega
        · omega
        · exact h2.2 h
      · have h1 := hR y hy
        have h2 := hRk y hy
        refine ⟨by omega, fun hh => ?_⟩
        rcases hh with h | h | h
        · omega
        · exact h2 h
        · have := (hrow g3 _ h).1; omega
    · refine keptX g1 KW10 fun y hy => ?_
      rcases hy with h | h | h
      · right; omega
      · exact .inl h
      · right; have := (hrow g3 _ h).1; omega
    · have e1 : (xs.take (i + 1)).map vi = (xs.take i).map vi ++ [vi p] := by
        rw [List.take_add_one, hx, List.map_append]; rfl
      rw [e1]
      exact ownsRow_kx row9 k10 fun y hy _ _ h => by omega
    · have h1 := hY y hy
      have h2 := g4 y hy
      refine ⟨by omega, fun e => ?_⟩
      rcases hon with h3 | h3
      · rw [h3] at e; exact h2.2 e
      · have := h3 y e; omega
  · rintro Y W ⟨g1, a, l, cc, g2, hil, g3, g4⟩ hd
    rw [List.length_map, List.take_length] at g3
    have hgB := g1.sz
    refine ⟨a, l, cc, by rw [g2.rd]; rfl, ⟨by simp, fun D hD => by simp at hD; subst hD; exact hd.at_⟩, fun w2 k2 hs2 => ?_⟩
    have k2' : Kept (· = B) W w2 := k2.mono fun b _ hb => by
      have hb : b ∈ [B] := hb
      simpa using hb
    have hbase : RowI w2 kx a l cc xs := by
      have r2 : RowI w2 (B + 2) a l cc xs := ⟨g3.1, ownsRow_kx g3.2 k2' fun x hx _ _ h => by omega⟩
      exact ⟨r2.1, ownsRow_base_a r2.2 (by omega)⟩
    exact ⟨a, l, cc, rfl, hbase, own0 (k4.trans (X := none') (Y := none') (Kept.refl none' w4) fun _ _ h => h) ((g1.mono fun x _ hx => (show x = kx ∨ x = B from .inl hx)).trans k2' fun x _ hx => .inr hx) fun x hx => by omega⟩
theorem sorted_values {w : World} {c : Nat} {a : Option Addr} {l cc : Nat} {xs : List Int} (h : SlR RInt 1 w a l cc xs) (hc : rd w c 0 = some (.slice a l cc)) (hl : xs.length ≤ 100000) :
    Calls Tryz.prog 69 #[.func (.func 113) #[] #[pt c]] w fun e w' => ∃ (a : Option Addr) (l c : Nat), e = .returned (.slice a l c) ∧ RowI w' w.heap.size a l c (sortI xs) ∧ Kept none' w w' := by
  refine (vc69 (some ⟨c, 0, none⟩) w (fun v w' => ∃ (a : Option Addr) (l c : Nat), v = .slice a l c ∧ RowI w' w.heap.size a l c (sortI xs) ∧ Kept none' w w') ?_).mono ?_
  rotate_left
  · rintro e w' ⟨v, rfl, a, l, c, rfl, hw⟩
    exact ⟨a, l, c, rfl, hw⟩
  unfold vcP69
  refine (appendSeq_values h hc hl).mono ?_
  rintro _ w1 ⟨a1, l1, c1, rfl, row, k1⟩
  refine ⟨a1, l1, c1, rfl, (sort_row row (by omega)).mono ?_⟩
  rintro _ w2 ⟨rfl, row2, k2⟩
  exact ⟨rfl, a1, l1, c1, rfl, row2, own0 k1 k2 fun b hb => by
    obtain ⟨rfl, r⟩ := row
    exact (r.lt b hb).1⟩
theorem values_call (a : Option Addr) (l c : Nat) (w : World) : Calls Tryz.prog 70 #[.slice a l c] w fun e w' => e = .returned (.func (.func 113) #[] #[pt w.heap.size]) ∧ own w' w.heap.size [.slice a l c] ∧ Kept none' w w' := by
  refine (vc70 a l c w (fun v w' => v = .func (.func 113) #[] #[pt w.heap.size] ∧ own w' w.heap.size [.slice a l c] ∧ Kept none' w w') ?_).mono ?_
  · unfold vcP70
    intro w1 e1
    exact ⟨rfl, own_alloc (c := [.slice a l c]) e1, (Kept.refl _ _).al e1⟩
  · rintro e w' ⟨v, rfl, rfl, hw⟩
    exact ⟨rfl, hw⟩
end Go.Proofs.YtikjgeenhbnkkaaGreatDoor
set_option linter.unusedSimpArgs false
set_option linter.unusedVariables false
set_option maxRecDepth 100000
namespace Go.Proofs.YtikjgeenhbnkkaaGreatDoor
open Go Eng
theorem contains_own {w : World} {a : Option Addr} {l c : Nat} {xs : List Own} (h : SlR ROwn 3 w a l c xs) (o : Own) :
    Calls Tryz.prog 140 #[.slice a l c, .agg #[vi o.n, vi o.pid, vi o.page]] w (Tells w (o ∈ xs)) := by
  have hlen := h.len
  have h63 := h.lt63
  refine (vc140 a l c o.n o.pid o.page w (TellsV w (o ∈ xs)) ?_).mono fun e w' => tells_of
  unfold vcP140
  intro w1 e1
  have o1 := own_alloc (c := [vi o.n, vi o.pid, vi o.page]) e1
  have k1 : Kept none' w w1 := (Kept.refl _ _).al e1
  refine ⟨o.n, o.pid, o.page, ⟨by rw [o1.rd]; rfl, by rw [o1.rd]; rfl, by rw [o1.rd]; rfl⟩, ?_⟩
  intro w2 e2
  have o2 := own_alloc (c := [vi o.n, vi o.pid, vi o.page]) e2
  have k2 := k1.al e2
  refine ⟨fun _ n w' M => ∃ i : Nat, n = (i : Int) ∧ i ≤ xs.length ∧ M = xs.length - i ∧ (∀ x ∈ xs.take i, x ≠ o) ∧ Kept none' w2 w', ⟨xs.length, 0, rfl, by omega, rfl, fun x hx => by simp at hx, Kept.refl _ _⟩, ?_⟩
  rintro _ _ w3 _ ⟨i, rfl, hi, rfl, hno, k3⟩
  refine Wif_intro (fun hc => ?_) (fun hc => ?_)
  · have hil : i < xs.length := by simp at hc; omega
    intro w4 e4
    have k4 := k3.dr e4
    have o4 := o2.k k4
    have h4 := h.k ROwn.stab (k2.tr k4)
    obtain ⟨x, hx⟩ : ∃ x, xs[i]? = some x := ⟨xs[i], List.getElem?_eq_getElem hil⟩
    obtain ⟨cs, _, hR, hr⟩ := h4.el i x hx
    obtain rfl : cs = [vi x.n, vi x.pid, vi x.page] := hR
    refine ⟨o.n, o.pid, o.page, ⟨by rw [o4.rd]; rfl, by rw [o4.rd]; rfl, by rw [o4.rd]; rfl⟩, Wif_yes (h4.isp (by omega)) (Wif_yes (inB_of (by omega) (by omega)) ?_)⟩
    rw [Int.toNat_natCast]
    refine ⟨x.n, x.pid, x.page, ⟨hr 0 _ rfl, hr 1 _ rfl, hr 2 _ rfl⟩, Wif_intro (fun he => ?_) (fun he => ?_)⟩
    · refine ⟨_, rfl, k2.tr k4, fun _ => ?_, fun _ => by simp⟩
      simp at he
      have : x = o := by
        cases x; cases o
        simp_all
      exact this ▸ List.mem_of_getElem? hx
    · refine ⟨xs.length - (i + 1), by omega, i + 1, by rw [wi (by omega)]; rfl, by omega, rfl, fun y hy => ?_, k4⟩
      rw [List.take_add_one, hx, List.mem_append] at hy
      rcases hy with hy | hy
      · exact hno y hy
      · have : y = x := by simpa using hy
        subst this
        intro e
        subst e
        simp at he
  · have hil : i = xs.length := by simp at hc; omega
    subst hil
    rw [List.take_length] at hno
    exact ⟨false, rfl, k2.tr k3, by simp, fun hm => absurd rfl (hno o hm)⟩
theorem contains_mapped {w : World} {a : Option Addr} {l c : Nat} {xs : List Mapped} (h : SlR RMapped 3 w a l c xs) (o : Mapped) :
    Calls Tryz.prog 61 #[.slice a l c, .agg #[vi o.page, .int .u8 o.kind, vi o.n]] w (Tells w (o ∈ xs)) := by
  have hlen := h.len
  have h63 := h.lt63
  refine (vc61 a l c o.page o.kind o.n w (TellsV w (o ∈ xs)) ?_).mono fun e w' => tells_of
  unfold vcP61
  intro w1 e1
  have o1 := own_alloc (c := [vi o.page, .int .u8 o.kind, vi o.n]) e1
  have k1 : Kept none' w w1 := (Kept.refl _ _).al e1
  refine ⟨o.page, o.kind, o.n, ⟨by rw [o1.rd]; rfl, by rw [o1.rd]; rfl, by rw [o1.rd]; rfl⟩, ?_⟩
  intro w2 e2
  have o2 := own_alloc (c := [vi o.page, .int .u8 o.kind, vi o.n]) e2
  have k2 := k1.al e2
  refine ⟨fun _ n w' M => ∃ i : Nat, n = (i : Int) ∧ i ≤ xs.length ∧ M = xs.length - i ∧ (∀ x ∈ xs.take i, x ≠ o) ∧ Kept none' w2 w', ⟨xs.length, 0, rfl, by omega, rfl, fun x hx => by simp at hx, Kept.refl _ _⟩, ?_⟩
  rintro _ _ w3 _ ⟨i, rfl, hi, rfl, hno, k3⟩
  refine Wif_intro (fun hc => ?_) (fun hc => ?_)
  · have hil : i < xs.length := by simp at hc; omega
    intro w4 e4
    have k4 := k3.dr e4
    have o4 := o2.k k4
    have h4 := h.k RMapped.stab (k2.tr k4)
    obtain ⟨x, hx⟩ : ∃ x, xs[i]? = some x := ⟨xs[i], List.getElem?_eq_getElem hil⟩
    obtain ⟨cs, _, hR, hr⟩ := h4.el i x hx
    obtain rfl : cs = [vi x.page, .int .u8 x.kind, vi x.n] := hR
    refine ⟨o.page, o.kind, o.n, ⟨by rw [o4.rd]; rfl, by rw [o4.rd]; rfl, by rw [o4.rd]; rfl⟩, Wif_yes (h4.isp (by omega)) (Wif_yes (inB_of (by omega) (by omega)) ?_)⟩
    rw [Int.toNat_natCast]
    refine ⟨x.page, x.kind, x.n, ⟨hr 0 _ rfl, hr 1 _ rfl, hr 2 _ rfl⟩, Wif_intro (fun he => ?_) (fun he => ?_)⟩
    · refine ⟨_, rfl, k2.tr k4, fun _ => ?_, fun _ => by simp⟩
      simp at he
      have : x = o := by
        cases x; cases o
        simp_all
      exact this ▸ List.mem_of_getElem? hx
    · refine ⟨xs.length - (i + 1), by omega, i + 1, by rw [wi (by omega)]; rfl, by omega, rfl, fun y hy => ?_, k4⟩
      rw [List.take_add_one, hx, List.mem_append] at hy
      rcases hy with hy | hy
      · exact hno y hy
      · have : y = x := by simpa using hy
        subst this
        intro e
        subst e
        simp at he
  · have hil : i = xs.length := by simp at hc; omega
    subst hil
    rw [List.take_length] at hno
    exact ⟨false, rfl, k2.tr k3, by simp, fun hm => absurd rfl (hno o hm)⟩
def JustP (L : List Own) (o : Own) : Prop := (L.filter fun x => decide (x.n = o.n)).length = 1 ∧ o ∈ L
theorem just_spec {w : World} {a : Option Addr} {l c : Nat} {xs : List Own} (h : SlR ROwn 3 w a l c xs) (o : Own) :
    Calls Tryz.prog 107 #[.slice a l c, .agg #[vi o.n, vi o.pid, vi o.page]] w (Tells w (JustP xs o)) := by
  have hlen := h.len
  have h63 := h.lt63
  refine (vc107 a l c o.n o.pid o.page w (TellsV w (JustP xs o)) ?_).mono fun e w' => tells_of
  unfold vcP107
  intro w1 e1
  have o1 := own_alloc (c := [vi o.n, vi o.pid, vi o.page]) e1
  have k1 : Kept none' w w1 := (Kept.refl _ _).al e1
  refine ⟨fun m n w' M => ∃ i : Nat, n = (i : Int) ∧ i ≤ xs.length ∧ M = xs.length - i ∧ m = (((xs.take i).filter fun x => decide (x.n = o.n)).length : Nat) ∧ Kept none' w1 w', ⟨xs.length, 0, rfl, by omega, rfl, rfl, Kept.refl _ _⟩, ?_⟩
  rintro _ _ w2 _ ⟨i, rfl, hi, rfl, rfl, k2⟩
  have o2 := o1.k k2
  have hcl : ((xs.take i).filter fun x => decide (x.n = o.n)).length ≤ i := by
    have := List.length_filter_le (fun x => decide (x.n = o.n)) (xs.take i)
    simp at this
    omega
  refine Wif_intro (fun hc => ?_) (fun hc => ?_)
  · have hil : i < xs.length := by simp at hc; omega
    have h2 := h.k ROwn.stab (k1.tr k2)
    obtain ⟨x, hx⟩ : ∃ x, xs[i]? = some x := ⟨xs[i], List.getElem?_eq_getElem hil⟩
    obtain ⟨cs, _, hR, hr⟩ := h2.el i x hx
    obtain rfl : cs = [vi x.n, vi x.pid, vi x.page] := hR
    refine Wif_yes (h2.isp (by omega)) (Wif_yes (inB_of (by omega) (by omega)) ?_)
    rw [Int.toNat_natCast]
    refine ⟨x.n, x.pid, x.page, ⟨hr 0 _ rfl, hr 1 _ rfl, hr 2 _ rfl⟩, ?_⟩
    intro w3 e3
    have o3 := own_alloc (c := [vi 0, vi 0, vi 0]) e3
    have k3 := k2.al e3
    refine ⟨⟨o3.wr (by decide), o3.wr (by decide), o3.wr (by decide)⟩, ?_⟩
    intro w4 e4
    have o4 : own w4 w2.heap.size [vi x.n, vi x.pid, vi x.page] := by rw [e4]; exact ((o3.st_same).st_same).st_same
    have hs2 := k2.sz
    have k4 : Kept none' w1 w4 := by rw [e4]; exact ((k3.st (.inr hs2)).st (.inr hs2)).st (.inr hs2)
    refine ⟨x.n, by rw [o4.rd]; rfl, o.n, by rw [(o1.k k4).rd]; rfl, ?_⟩
    have hd : xs.take (i + 1) = xs.take i ++ [x] := by rw [List.take_add_one, hx]; rfl
    refine Wif_intro (fun he => ?_) (fun he => ?_)
    · have he : x.n = o.n := by simpa using he
      refine ⟨xs.length - (i + 1), by omega, i + 1, by rw [wi (by omega)]; rfl, by omega, rfl, ?_, k4⟩
      rw [hd, List.filter_append, wi (by omega)]
      simp [he]
    · have he : ¬ x.n = o.n := by simpa using he
      refine ⟨xs.length - (i + 1), by omega, i + 1, by rw [wi (by omega)]; rfl, by omega, rfl, ?_, k4⟩
      rw [hd, List.filter_append]
      simp [he]
  · have hil : i = xs.length := by simp at hc; omega
    subst hil
    rw [List.take_length] at *
    refine ⟨o.n, o.pid, o.page, fun _ => ⟨by rw [o2.rd]; rfl, by rw [o2.rd]; rfl, by rw [o2.rd]; rfl⟩, Wif_intro (fun he => ?_) (fun he => ?_)⟩
    · have he : (xs.filter fun x => decide (x.n = o.n)).length = 1 := by simp at he; omega
      refine (contains_own (h.k ROwn.stab (k1.tr k2)) o).mono ?_
      rintro _ w3 ⟨b, rfl, k3, hb⟩
      exact ⟨b, rfl, b, rfl, (k1.tr k2).tr k3, fun g => ⟨he, hb.1 g⟩, fun g => hb.2 g.2⟩
    · have he : ¬ (xs.filter fun x => decide (x.n = o.n)).length = 1 := by
        intro g
        rw [g] at he
        simp at he
      exact ⟨false, rfl, k1.tr k2, by simp, fun g => absurd g.1 he⟩
end Go.Proofs.YtikjgeenhbnkkaaGreatDoor
