/-
  A part of a proof that a law of this seat returns true at every input. Conditions: those in each theorem.
-/
import Derived.Test.YtklmokolnakkoaaGreatDoorX5
import Derived.Test.YtklmokolnakkoaaGreatDoorXV2
set_option linter.unusedSimpArgs false
set_option linter.unusedVariables false
set_option maxRecDepth 100000
namespace Go.Proofs.YtklmokolnakkoaaGreatDoor
open Go Go.Eng
def RowI (w : World) (base : Nat) (a : Option Addr) (l c : Nat) (xs : List Int) : Prop := l = xs.length ∧ w.ownsRow base 3 1 (.slice a l c) l (xs.map vi)
theorem RowI.nil' {w : World} {base : Nat} : RowI w base none 0 0 [] := ⟨rfl, World.ownsRow_nil _ _ _ _⟩
theorem RowI.kx {X : Nat → Prop} {w w' : World} {base : Nat} {a : Option Addr} {l c : Nat} {xs : List Int} (h : RowI w base a l c xs) (k : Kept X w w') (hx : ∀ x, X x → (Value.slice a l c).ownBlock = some x → False) : RowI w' base a l c xs := ⟨h.1, ownsRow_kx h.2 k fun b _ _ e hb => hx b hb e⟩
theorem RowI.k {w w' : World} {base : Nat} {a : Option Addr} {l c : Nat} {xs : List Int} (h : RowI w base a l c xs) (k : Kept none' w w') : RowI w' base a l c xs := h.kx k fun _ e => e.elim
theorem RowI.lt {w : World} {base : Nat} {a : Option Addr} {l c : Nat} {xs : List Int} (h : RowI w base a l c xs) {x : Nat} (hx : (Value.slice a l c).ownBlock = some x) : base ≤ x ∧ x < w.heap.size := h.2.lt x hx
theorem RowI.weak {w : World} {base base' : Nat} {a : Option Addr} {l c : Nat} {xs : List Int} (h : RowI w base a l c xs) (hb : base' ≤ base) : RowI w base' a l c xs := by
  refine ⟨h.1, h.2.1, ?_⟩
  rcases h.2.2 with h | ⟨g, cap, cur, hv, hg, rest⟩
  · exact .inl h
  · exact .inr ⟨g, cap, cur, hv, by omega, rest⟩
abbrev Thing := Value → (Nat → Prop) → World → Prop
structure Stb (A : Thing) : Prop where
  kx : ∀ u H w w' X, A u H w → Kept X w w' → (∀ x, X x → H x → False) → A u H w'
  lt : ∀ u H w, A u H w → ∀ x, H x → x < w.heap.size
structure RowA (A : Nat → Thing) (n : Nat) (v : Value) (G : Nat → Prop) (w : World) : Prop where
  ex : ∃ (g cp : Nat) (cs : List Value) (u : Nat → Value) (H : Nat → Nat → Prop), v = .slice (some ⟨g, 0, none⟩) n cp ∧ own w g cs ∧ (∀ j, j < n → cs[j]? = some (u j)) ∧ G g ∧ (∀ j, j < n → A j (u j) (H j) w) ∧
    (∀ j, j < n → ∀ x, H j x → G x ∧ x ≠ g) ∧ ∀ i j, i < n → j < n → i ≠ j → ∀ x, H i x → ¬ H j x
  lt : ∀ x, G x → x < w.heap.size
theorem RowA.stb {A : Nat → Thing} {n : Nat} (hA : ∀ j, j < n → Stb (A j)) : Stb (RowA A n) where
  kx v G w w' X h k hx := by
    obtain ⟨g, cp, cs, u, H, h1, h2, h3, h4, h5, h6, h7⟩ := h.ex
    exact ⟨⟨g, cp, cs, u, H, h1, h2.kx k fun e => hx _ e h4, h3, h4, fun j hj => (hA j hj).kx _ _ _ _ _ (h5 j hj) k fun x e hh => hx x e (h6 j hj x hh).1, h6, h7⟩, fun x hg => Nat.lt_of_lt_of_le (h.lt x hg) k.sz⟩
  lt v G w h := h.lt
theorem RowA.one {A B : Nat → Thing} {n : Nat} {v : Value} {G : Nat → Prop} {w w' : World} {i : Nat} (hA : ∀ j, j < n → Stb (A j)) (h : RowA A n v G w) (hi : i < n) (hB : ∀ j, j ≠ i → B j = A j) :
    ∃ (g cp : Nat) (u : Value) (H : Nat → Prop), v = .slice (some ⟨g, 0, none⟩) n cp ∧ rd w g i = some u ∧ A i u H w ∧ (∀ x, H x → G x ∧ x ≠ g) ∧
      ∀ w', Kept H w w' → B i u (fun x => H x ∨ rng w w' x) w' → RowA B n v (fun x => G x ∨ rng w w' x) w' := by
  obtain ⟨g, cp, cs, u, H, h1, h2, h3, h4, h5, h6, h7⟩ := h.ex
  refine ⟨g, cp, u i, H i, h1, by rw [h2.rd]; exact h3 i hi, h5 i hi, h6 i hi, fun w' k hb => ⟨⟨g, cp, cs, u, upd H i (fun x => H i x ∨ rng w w' x), h1, h2.kx k fun e => (h6 i hi _ e).2 rfl, h3, .inl h4, fun j hj => ?_, fun j hj x hx => ?_, fun a b ha hb' hab x hx => ?_⟩, fun x hx => ?_⟩⟩
  · by_cases e : j = i
    · subst e; rw [upd_same]; exact hb
    · rw [upd_ne _ _ e, hB j e]
      exact (hA j hj).kx _ _ _ _ _ (h5 j hj) k fun x e1 e2 => h7 i j hi hj (Ne.symm e) x e1 e2
  · have hg := h.lt g h4
    by_cases e : j = i
    · subst e
      rw [upd_same] at hx
      rcases hx with hx | hx
      · exact ⟨.inl (h6 j hj x hx).1, (h6 j hj x hx).2⟩
      · exact ⟨.inr hx, by have := hx.1; omega⟩
    · rw [upd_ne _ _ e] at hx
      exact ⟨.inl (h6 j hj x hx).1, (h6 j hj x hx).2⟩
  · by_cases e : a = i
    · subst e
      rw [upd_same] at hx
      rw [upd_ne _ _ (Ne.symm hab)]
      intro hx2
      rcases hx with hx | hx
      · exact h7 a b ha hb' hab x hx hx2
      · have := h.lt x (h6 b hb' x hx2).1; have := hx.1; omega
    · rw [upd_ne _ _ e] at hx
      by_cases e2 : b = i
      · subst e2
        rw [upd_same]
        rintro (hx2 | hx2)
        · exact h7 a b ha hb' hab x hx hx2
        · have := h.lt x (h6 a ha x hx).1; have := hx2.1; omega
      · rw [upd_ne _ _ e2]
        exact h7 a b ha hb' hab x hx
  · rcases hx with hx | hx
    · exact Nat.lt_of_lt_of_le (h.lt x hx) k.sz
    · exact hx.2
def JRow (A : Nat → Thing) (F : Nat → Prop) (i : Nat) (vs : List Value) (w : World) : Prop :=
  ∃ (u : Nat → Value) (H : Nat → Nat → Prop), vs = (List.range i).map u ∧ (∀ j, j < i → A j (u j) (H j) w) ∧ (∀ j, j < i → ∀ x, H j x → F x) ∧ ∀ a b, a < i → b < i → a ≠ b → ∀ x, H a x → ¬ H b x
theorem makes_row {A : Nat → Thing} {n : Nat} (hA : ∀ j, j < n → Stb (A j)) {R : Ending → List Value → Prop} {mk : Value} {w0 : World}
    (hc : ∀ i w, i < n → Kept none' w0 w → CallsV Tryz.prog mk [.int .i64 i] w fun e w' => ∃ (u : Value) (H : Nat → Prop), R e [u] ∧ u.oneCell' = true ∧ Kept none' w w' ∧ A i u H w' ∧ ∀ x, H x → w.heap.size ≤ x) :
    Makes Tryz.prog mk n 1 w0 R (fun F i vs w => i ≤ n ∧ JRow A F i vs w) where
  st F i vs w w' X h k hx := by
    obtain ⟨hi, u, H, h1, h2, h3, h4⟩ := h
    exact ⟨hi, u, H, h1, fun j hj => (hA j (by omega)).kx _ _ _ _ _ (h2 j hj) k fun x e hh => hx x e (h3 j hj x hh), h3, h4⟩
  run F i vs w hi h k hF := by
    obtain ⟨_, u, H, rfl, h2, h3, h4⟩ := h
    refine callsV_mono (hc i w hi k) ?_
    rintro e w' ⟨y, K, hR, h1, k1, hA1, hK⟩
    refine ⟨[y], hR, rfl, fun z hz => by simp at hz; subst hz; exact h1, k1, hi, upd u i y, upd H i K, ?_, fun j hj => ?_, fun j hj x hx => ?_, fun a b ha hb hab x hx => ?_⟩
    · rw [List.range_succ, List.map_append]
      congr 1
      · refine List.map_congr_left fun j hj => ?_
        rw [upd_ne _ _ (by have := List.mem_range.1 hj; omega)]
      · simp
    · by_cases e : j = i
      · subst e; rw [upd_same, upd_same]; exact hA1
      · rw [upd_ne _ _ e, upd_ne _ _ e]
        exact (hA j (by omega)).kx _ _ _ _ _ (h2 j (by omega)) k1 fun x e1 _ => e1.elim
    · by_cases e : j = i
      · subst e
        rw [upd_same] at hx
        exact .inr ⟨hK x hx, (hA j hi).lt _ _ _ hA1 x hx⟩
      · rw [upd_ne _ _ e] at hx
        exact .inl (h3 j (by omega) x hx)
    · by_cases e : a = i
      · subst e
        rw [upd_same] at hx
        rw [upd_ne _ _ (Ne.symm hab)]
        intro hx2
        have := (hF x (h3 b (by omega) x hx2)).2
        have := hK x hx
        omega
      · rw [upd_ne _ _ e] at hx
        by_cases e2 : b = i
        · subst e2
          rw [upd_same]
          intro hx2
          have := (hF x (h3 a (by omega) x hx)).2
          have := hK x hx2
          omega
        · rw [upd_ne _ _ e2]
          exact h4 a b (by omega) (by omega) hab x hx
theorem row_of {A : Nat → Thing} {T n : Nat} (hA : ∀ j, j < n → Stb (A j)) (hn : 0 < n) {w0 w' : World} {a : Option Addr} {c : Nat} {F : Nat → Prop} {vs : List Value} (row : w'.ownsRow w0.heap.size T 1 (.slice a n c) n vs) (hj : n ≤ n ∧ JRow A F n vs w')
    (hF : ∀ x, F x → w0.heap.size ≤ x ∧ x < w'.heap.size) (hg : ∀ g, (Value.slice a n c).ownBlock = some g → ¬ F g) : RowA A n (.slice a n c) (rng w0 w') w' := by
  obtain ⟨_, u, H, rfl, h2, h3, h4⟩ := hj
  obtain ⟨_, hh⟩ := ownsRow_own row
  rcases hh with ⟨_, h0, _⟩ | ⟨g, cs, rfl, hgb, og, htk, _, _⟩
  · omega
  refine ⟨⟨g, c, cs, u, H, rfl, og, fun j hj => ?_, ⟨hgb, og.lt⟩, h2, fun j hj x hx => ⟨hF x (h3 j hj x hx), fun e => hg g rfl (by rw [← e]; exact h3 j hj x hx)⟩, h4⟩, fun x hx => hx.2⟩
  have : (cs.take (n * 1))[j]? = some (u j) := by rw [htk]; simp [hj]
  rw [List.getElem?_take] at this
  split at this
  · exact this
  · cases this
structure ClockAt (ring : List Int) (of : List (Int × Value)) (v : Value) (H : Nat → Prop) (w : World) : Prop where
  ex : ∃ (b : Nat) (a : Option Addr) (l cp m : Nat), v = ptr b ∧ own w b [.slice a l cp, .map (some m)] ∧ RowI w 0 a l cp ring ∧ MapIs w m of ∧ H b ∧ H m ∧ ∀ x, (Value.slice a l cp).ownBlock = some x → H x ∧ x ≠ b
  lt : ∀ x, H x → x < w.heap.size
theorem ClockAt.stb {ring : List Int} {of : List (Int × Value)} : Stb (ClockAt ring of) where
  kx v H w w' X h k hx := by
    obtain ⟨b, a, l, cp, m, h0, h1, h2, h3, h4, h5, h6⟩ := h.ex
    exact ⟨⟨b, a, l, cp, m, h0, h1.kx k fun e => hx _ e h4, h2.kx k fun x e ho => hx x e (h6 x ho).1, h3.kx k fun e => hx _ e h5, h4, h5, h6⟩, fun x hh => Nat.lt_of_lt_of_le (h.lt x hh) k.sz⟩
  lt v H w h := h.lt
structure Cache0 (size : Int) (v : Value) (H : Nat → Prop) (w : World) : Prop where
  ex : ∃ (b m : Nat), v = ptr b ∧ own w b [vi size, vi 0, .map (some m)] ∧ MapIs w m [] ∧ H b ∧ H m
  lt : ∀ x, H x → x < w.heap.size
theorem Cache0.stb {size : Int} : Stb (Cache0 size) where
  kx v H w w' X h k hx := by
    obtain ⟨b, m, h0, h1, h2, h3, h4⟩ := h.ex
    exact ⟨⟨b, m, h0, h1.kx k fun e => hx _ e h3, h2.kx k fun e => hx _ e h4, h3, h4⟩, fun x hh => Nat.lt_of_lt_of_le (h.lt x hh) k.sz⟩
  lt v H w h := h.lt
structure Bin0 (v : Value) (H : Nat → Prop) (w : World) : Prop where
  ex : ∃ b, v = ptr b ∧ own w b [vi 4, .slice none 0 0, .slice none 0 0] ∧ H b
  lt : ∀ x, H x → x < w.heap.size
theorem Bin0.stb : Stb Bin0 where
  kx v H w w' X h k hx := by
    obtain ⟨b, h0, h1, h2⟩ := h.ex
    exact ⟨⟨b, h0, h1.kx k fun e => hx _ e h2, h2⟩, fun x hh => Nat.lt_of_lt_of_le (h.lt x hh) k.sz⟩
  lt v H w h := h.lt
structure IntsA (xs : List Int) (v : Value) (H : Nat → Prop) (w : World) : Prop where
  ex : ∃ (a : Option Addr) (l c : Nat), v = .slice a l c ∧ RowI w 0 a l c xs ∧ ∀ x, (Value.slice a l c).ownBlock = some x → H x
  lt : ∀ x, H x → x < w.heap.size
theorem IntsA.stb {xs : List Int} : Stb (IntsA xs) where
  kx v H w w' X h k hx := by
    obtain ⟨a, l, c, h0, h1, h2⟩ := h.ex
    exact ⟨⟨a, l, c, h0, h1.kx k fun x e ho => hx x e (h2 x ho), h2⟩, fun x hh => Nat.lt_of_lt_of_le (h.lt x hh) k.sz⟩
  lt v H w h := h.lt
def NilA (v : Value) (H : Nat → Prop) (w : World) : Prop := v = .slice none 0 0 ∧ ∀ x, H x → x < w.heap.size
theorem NilA.stb : Stb NilA where
  kx v H w w' X h k hx := ⟨h.1, fun x hh => Nat.lt_of_lt_of_le (h.2 x hh) k.sz⟩
  lt v H w h := h.2
theorem sevRow {k : FuncId} {A : Nat → Thing} {T n : Nat} {w : World} {mk : Value} (hA : ∀ j, j < n → Stb (A j)) (hn : 0 < n)
    (h : Calls Tryz.prog k #[.int .i64 n, mk] w fun e w' => ∃ (a : Option Addr) (c : Nat) (F : Nat → Prop) (vs : List Value), e = .returned (.slice a n c) ∧ Kept none' w w' ∧ w'.ownsRow w.heap.size T 1 (.slice a n c) n vs ∧ (n ≤ n ∧ JRow A F n vs w') ∧
      (∀ x, F x → w.heap.size ≤ x ∧ x < w'.heap.size) ∧ ∀ g, (Value.slice a n c).ownBlock = some g → ¬ F g) :
    Calls Tryz.prog k #[.int .i64 n, mk] w fun e w' => ∃ (a : Option Addr) (c : Nat), e = .returned (.slice a n c) ∧ Kept none' w w' ∧ RowA A n (.slice a n c) (rng w w') w' := by
  refine h.mono ?_
  rintro e w' ⟨a, c, F, vs, rfl, k, row, hj, hF, hg⟩
  exact ⟨a, c, rfl, k, row_of hA hn row hj hF hg⟩
theorem jrow0 {A : Nat → Thing} {n : Nat} {w : World} : 0 ≤ n ∧ JRow A (fun _ => False) 0 [] w := ⟨Nat.zero_le _, fun _ => .bool false, fun _ _ => False, rfl, fun j hj => absurd hj (Nat.not_lt_zero _), fun j hj => absurd hj (Nat.not_lt_zero _), fun a b ha => absurd ha (Nat.not_lt_zero _)⟩
theorem clocks_new {n : Nat} (hn : 0 < n ∧ n ≤ 16) (w : World) : Calls Tryz.prog 39 #[.int .i64 n, .func (.func 40) #[] #[]] w fun e w' => ∃ (a : Option Addr) (c : Nat), e = .returned (.slice a n c) ∧ Kept none' w w' ∧ RowA (fun _ => ClockAt [] []) n (.slice a n c) (rng w w') w' := by
  refine sevRow (T := 114) (fun _ _ => ClockAt.stb) hn.1 (sev39 (by omega) (makes_row (fun _ _ => ClockAt.stb) fun i w1 hi k1 => CallsV.mk _ #[] #[] rfl (by kernel_rfl) ?_) jrow0)
  refine (vc40 i w1 (fun v w' => ∃ (b : Nat) (H : Nat → Prop), v = ptr b ∧ Kept none' w1 w' ∧ ClockAt [] [] (ptr b) H w' ∧ ∀ x, H x → w1.heap.size ≤ x) ?_).mono ?_
  · unfold vcP40
    refine (vc41 w1 (fun v w' => ∃ (b : Nat) (H : Nat → Prop), v = ptr b ∧ Kept none' w1 w' ∧ ClockAt [] [] (ptr b) H w' ∧ ∀ x, H x → w1.heap.size ≤ x) ?_).mono ?_
    · unfold vcP41
      intro w2 e2 w3 e3
      have k2 : Kept none' w1 w2 := e2 ▸ (Kept.refl _ _).allocMap #[] 0
      have k3 : Kept none' w2 w3 := (Kept.refl _ _).al e3
      have o3 := own_alloc (c := [.slice none 0 0, .map (some w1.heap.size)]) e3
      have m3 := (map_new e2).k k3
      have := k2.sz
      exact ⟨_, fun x => x = w2.heap.size ∨ x = w1.heap.size, rfl, k2.tr k3, ⟨⟨_, none, 0, 0, _, rfl, o3, RowI.nil', m3, .inl rfl, .inr rfl, fun x hx => by simp [Value.ownBlock] at hx⟩, fun x hx => hx.elim (fun e => e ▸ o3.lt) fun e => e ▸ m3.lt⟩, fun x hx => by omega⟩
    · rintro e w' ⟨v, rfl, b, H, rfl, h⟩
      exact ⟨_, rfl, b, H, rfl, h⟩
  · rintro e w' ⟨v, rfl, b, H, rfl, hk, hc, hx⟩
    exact ⟨ptr b, H, ⟨_, rfl, rfl⟩, rfl, hk, hc, hx⟩
theorem cache_row {w : World} (hz : SizR w) : Calls Tryz.prog 44 #[.int .i64 (8 : Nat), .func (.func 45) #[] #[]] w fun e w' => ∃ (a : Option Addr) (c : Nat), e = .returned (.slice a 8 c) ∧ Kept none' w w' ∧ RowA (fun i => Cache0 (sz i)) 8 (.slice a 8 c) (rng w w') w' := by
  refine sevRow (T := 56) (fun _ _ => Cache0.stb) (by decide) (sev44 (by omega) (makes_row (fun _ _ => Cache0.stb) fun i w1 hi k1 => CallsV.mk _ #[] #[] rfl (by kernel_rfl) ?_) jrow0)
  refine (vc45 i w1 (fun v w' => ∃ (b : Nat) (H : Nat → Prop), v = ptr b ∧ Kept none' w1 w' ∧ Cache0 (sz i) (ptr b) H w' ∧ ∀ x, H x → w1.heap.size ≤ x) ?_).mono ?_
  · unfold vcP45
    refine Wif_yes (inB_of (by omega) (by omega)) ⟨sz i, by rw [Int.toNat_natCast, Nat.mul_one, Nat.zero_add]; exact hz.k k1 i hi, (canew_spec (sz_ok hi) w1).mono ?_⟩
    rintro _ w2 ⟨C, m, rfl, k2, o2, m2, hC, hm⟩
    exact ⟨_, _, rfl, _, fun x => x = C ∨ x = m, rfl, k2, ⟨⟨C, m, rfl, o2, m2, .inl rfl, .inr rfl⟩, fun x hx => hx.elim (fun e => e ▸ o2.lt) fun e => e ▸ m2.lt⟩, fun x hx => by rcases hx with rfl | rfl <;> omega⟩
  · rintro e w' ⟨v, rfl, b, H, rfl, hk, hc, hx⟩
    exact ⟨ptr b, H, ⟨_, rfl, rfl⟩, rfl, hk, hc, hx⟩
theorem caches_new {n : Nat} (hn : 0 < n ∧ n ≤ 16) {w : World} (hz : SizR w) : Calls Tryz.prog 42 #[.int .i64 n, .func (.func 43) #[] #[]] w fun e w' => ∃ (a : Option Addr) (c : Nat), e = .returned (.slice a n c) ∧ Kept none' w w' ∧ RowA (fun _ => RowA (fun i => Cache0 (sz i)) 8) n (.slice a n c) (rng w w') w' := by
  refine sevRow (T := 57) (fun _ _ => RowA.stb fun _ _ => Cache0.stb) hn.1 (sev42 (by omega) (makes_row (fun _ _ => RowA.stb fun _ _ => Cache0.stb) fun i w1 hi k1 => CallsV.mk _ #[] #[] rfl (by kernel_rfl) ?_) jrow0)
  refine (vc43 i w1 (fun v w' => ∃ (a : Option Addr) (c : Nat), v = .slice a 8 c ∧ Kept none' w1 w' ∧ RowA (fun i => Cache0 (sz i)) 8 (.slice a 8 c) (rng w1 w') w') ?_).mono ?_
  · unfold vcP43
    refine (cache_row (hz.k k1)).mono ?_
    rintro _ w2 ⟨a, c, rfl, h⟩
    exact ⟨a, 8, c, rfl, a, c, rfl, h⟩
  · rintro e w' ⟨v, rfl, a, c, rfl, hk, hr⟩
    exact ⟨_, rng w1 w', ⟨a, 8, c, rfl, rfl⟩, rfl, hk, hr, fun x hx => hx.1⟩
theorem depot_row {w : World} : Calls Tryz.prog 49 #[.int .i64 (8 : Nat), .func (.func 50) #[] #[]] w fun e w' => ∃ (a : Option Addr) (c : Nat), e = .returned (.slice a 8 c) ∧ Kept none' w w' ∧ RowA (fun _ => Bin0) 8 (.slice a 8 c) (rng w w') w' := by
  refine sevRow (T := 58) (fun _ _ => Bin0.stb) (by decide) (sev49 (by omega) (makes_row (fun _ _ => Bin0.stb) fun i w1 hi k1 => CallsV.mk _ #[] #[] rfl (by kernel_rfl) ?_) jrow0)
  refine (vc50 i w1 (fun v w' => ∃ (b : Nat) (H : Nat → Prop), v = ptr b ∧ Kept none' w1 w' ∧ Bin0 (ptr b) H w' ∧ ∀ x, H x → w1.heap.size ≤ x) ?_).mono ?_
  · unfold vcP50
    refine (vc51 4 w1 (fun v w' => ∃ (b : Nat) (H : Nat → Prop), v = ptr b ∧ Kept none' w1 w' ∧ Bin0 (ptr b) H w' ∧ ∀ x, H x → w1.heap.size ≤ x) ?_).mono ?_
    · unfold vcP51
      intro w2 e2
      have o2 := own_alloc (c := [vi 4, .slice none 0 0, .slice none 0 0]) e2
      exact ⟨_, fun x => x = w1.heap.size, rfl, (Kept.refl _ _).al e2, ⟨⟨_, rfl, o2, rfl⟩, fun x hx => hx ▸ o2.lt⟩, fun x hx => Nat.le_of_eq hx.symm⟩
    · rintro e w' ⟨v, rfl, b, H, rfl, h⟩
      exact ⟨_, rfl, b, H, rfl, h⟩
  · rintro e w' ⟨v, rfl, b, H, rfl, hk, hc, hx⟩
    exact ⟨ptr b, H, ⟨_, rfl, rfl⟩, rfl, hk, hc, hx⟩
theorem depots_new {n : Nat} (hn : 0 < n ∧ n ≤ 16) {w : World} : Calls Tryz.prog 47 #[.int .i64 n, .func (.func 48) #[] #[]] w fun e w' => ∃ (a : Option Addr) (c : Nat), e = .returned (.slice a n c) ∧ Kept none' w w' ∧ RowA (fun _ => RowA (fun _ => Bin0) 8) n (.slice a n c) (rng w w') w' := by
  refine sevRow (T := 59) (fun _ _ => RowA.stb fun _ _ => Bin0.stb) hn.1 (sev47 (by omega) (makes_row (fun _ _ => RowA.stb fun _ _ => Bin0.stb) fun i w1 hi k1 => CallsV.mk _ #[] #[] rfl (by kernel_rfl) ?_) jrow0)
  refine (vc48 i w1 (fun v w' => ∃ (a : Option Addr) (c : Nat), v = .slice a 8 c ∧ Kept none' w1 w' ∧ RowA (fun _ => Bin0) 8 (.slice a 8 c) (rng w1 w') w') ?_).mono ?_
  · unfold vcP48
    refine depot_row.mono ?_
    rintro _ w2 ⟨a, c, rfl, h⟩
    exact ⟨a, 8, c, rfl, a, c, rfl, h⟩
  · rintro e w' ⟨v, rfl, a, c, rfl, hk, hr⟩
    exact ⟨_, rng w1 w', ⟨a, 8, c, rfl, rfl⟩, rfl, hk, hr, fun x hx => hx.1⟩
theorem mag_row {w : World} : Calls Tryz.prog 54 #[.int .i64 (8 : Nat), .func (.func 55) #[] #[]] w fun e w' => ∃ (a : Option Addr) (c : Nat), e = .returned (.slice a 8 c) ∧ Kept none' w w' ∧ RowA (fun _ => Bin0) 8 (.slice a 8 c) (rng w w') w' := by
  refine sevRow (T := 130) (fun _ _ => Bin0.stb) (by decide) (sev54 (by omega) (makes_row (fun _ _ => Bin0.stb) fun i w1 hi k1 => CallsV.mk _ #[] #[] rfl (by kernel_rfl) ?_) jrow0)
  refine (vc55 i w1 (fun v w' => ∃ (b : Nat) (H : Nat → Prop), v = ptr b ∧ Kept none' w1 w' ∧ Bin0 (ptr b) H w' ∧ ∀ x, H x → w1.heap.size ≤ x) ?_).mono ?_
  · unfold vcP55
    refine (vc56 4 w1 (fun v w' => ∃ (b : Nat) (H : Nat → Prop), v = ptr b ∧ Kept none' w1 w' ∧ Bin0 (ptr b) H w' ∧ ∀ x, H x → w1.heap.size ≤ x) ?_).mono ?_
    · unfold vcP56
      intro w2 e2
      have o2 := own_alloc (c := [vi 4, .slice none 0 0, .slice none 0 0]) e2
      exact ⟨_, fun x => x = w1.heap.size, rfl, (Kept.refl _ _).al e2, ⟨⟨_, rfl, o2, rfl⟩, fun x hx => hx ▸ o2.lt⟩, fun x hx => Nat.le_of_eq hx.symm⟩
    · rintro e w' ⟨v, rfl, b, H, rfl, h⟩
      exact ⟨_, rfl, b, H, rfl, h⟩
  · rintro e w' ⟨v, rfl, b, H, rfl, hk, hc, hx⟩
    exact ⟨ptr b, H, ⟨_, rfl, rfl⟩, rfl, hk, hc, hx⟩
theorem mags_new {n : Nat} (hn : 0 < n ∧ n ≤ 16) {w : World} : Calls Tryz.prog 52 #[.int .i64 n, .func (.func 53) #[] #[]] w fun e w' => ∃ (a : Option Addr) (c : Nat), e = .returned (.slice a n c) ∧ Kept none' w w' ∧ RowA (fun _ => RowA (fun _ => Bin0) 8) n (.slice a n c) (rng w w') w' := by
  refine sevRow (T := 128) (fun _ _ => RowA.stb fun _ _ => Bin0.stb) hn.1 (sev52 (by omega) (makes_row (fun _ _ => RowA.stb fun _ _ => Bin0.stb) fun i w1 hi k1 => CallsV.mk _ #[] #[] rfl (by kernel_rfl) ?_) jrow0)
  refine (vc53 i w1 (fun v w' => ∃ (a : Option Addr) (c : Nat), v = .slice a 8 c ∧ Kept none' w1 w' ∧ RowA (fun _ => Bin0) 8 (.slice a 8 c) (rng w1 w') w') ?_).mono ?_
  · unfold vcP53
    refine mag_row.mono ?_
    rintro _ w2 ⟨a, c, rfl, h⟩
    exact ⟨a, 8, c, rfl, a, c, rfl, h⟩
  · rintro e w' ⟨v, rfl, a, c, rfl, hk, hr⟩
    exact ⟨_, rng w1 w', ⟨a, 8, c, rfl, rfl⟩, rfl, hk, hr, fun x hx => hx.1⟩
def ValA (u0 : Value) (u : Value) (H : Nat → Prop) (w : World) : Prop := u = u0 ∧ ∀ x, H x → x < w.heap.size
theorem ValA.stb {u0 : Value} : Stb (ValA u0) where
  kx v H w w' X h k hx := ⟨h.1, fun x hh => Nat.lt_of_lt_of_le (h.2 x hh) k.sz⟩
  lt v H w h := h.2
theorem turns_new {n : Nat} (hn : 0 < n ∧ n ≤ 16) (w : World) : Calls Tryz.prog 57 #[.int .i64 n, .func (.func 58) #[] #[]] w fun e w' => ∃ (a : Option Addr) (c : Nat), e = .returned (.slice a n c) ∧ Kept none' w w' ∧ RowA (fun _ => ValA (.int .u64 1)) n (.slice a n c) (rng w w') w' := by
  refine sevRow (T := 134) (fun _ _ => ValA.stb) hn.1 (sev57 (by omega) (makes_row (fun _ _ => ValA.stb) fun i w1 hi k1 => CallsV.mk _ #[] #[] rfl (by kernel_rfl) ?_) jrow0)
  refine (vc58 i w1 (fun v w' => v = .int .u64 1 ∧ w' = w1) ⟨rfl, rfl⟩).mono ?_
  rintro e w' ⟨v, rfl, rfl, rfl⟩
  exact ⟨_, fun _ => False, ⟨_, rfl, rfl⟩, rfl, Kept.refl _ _, ⟨rfl, fun x hx => hx.elim⟩, fun x hx => hx.elim⟩
theorem flight_new {n : Nat} (hn : 0 < n ∧ n ≤ 16) (w : World) : Calls Tryz.prog 59 #[.int .i64 n, .func (.func 60) #[] #[]] w fun e w' => ∃ (a : Option Addr) (c : Nat), e = .returned (.slice a n c) ∧ Kept none' w w' ∧ RowI w' w.heap.size a n c (List.replicate n (-1)) := by
  refine (sev59 (w0 := w) (J := fun F i vs w => vs = (List.replicate i (-1)).map vi) (by omega) ⟨fun F i vs w w' X h _ _ => h, fun F i vs w1 hi h k1 hF => CallsV.mk _ #[] #[] rfl (by kernel_rfl) ?_⟩ rfl).mono ?_
  · refine (vc60 i w1 (fun v w' => v = .int .i64 (-1) ∧ w' = w1) ⟨rfl, rfl⟩).mono ?_
    rintro e w' ⟨v, rfl, rfl, rfl⟩
    refine ⟨[vi (-1)], ⟨_, rfl, rfl⟩, rfl, fun u hu => by simp at hu; subst hu; rfl, Kept.refl _ _, ?_⟩
    rw [h, List.replicate_succ', List.map_append]
    rfl
  · rintro e w' ⟨a, c, F, vs, rfl, k, row, rfl, _⟩
    exact ⟨a, c, rfl, k, by simp, row⟩
inductive Prt where
  | core | mem | zones | dev | locks | rmap | slots | clocks | caches | depots | mags | turns | held | flying | flight
  | space (i : Nat)
deriving DecidableEq
structure Mach where
  c : Nat → Int
  pm : Nat
  pz : Nat
  pd : Nat
  pl : Nat
  pr : Nat
  ps : Nat
  vck : Value
  vca : Value
  vde : Value
  vma : Value
  vtu : Value
  vhe : Value
  vfl : Value
  vfi : Value
  sp : Nat → Option Nat
  by' : Nat → Int
  mks : Nat → Mark
  Z : Zs
  L : Nat → List Bk
  dv : Nat → Int
  lh : Nat → Int
  rof : Nat → Int × Int
  rat : List ((Int × Int) × Value)
  sof : Nat → Int × Int
  ring : Nat → List Int
  cof : Nat → List (Int × Value)
  held : Nat → List Int
  fli : List Int
  root : Nat → Int
namespace Mach
def n (S : Mach) : Nat := (fstF S.c (S.c 0).toNat).toNat
def nodes (S : Mach) : Nat := (S.c 0).toNat
def cpus (S : Mach) : Nat := (S.c 1).toNat
def slots (S : Mach) : Nat := (S.c 90).toNat
end Mach
def spV (o : Option Nat) : Value := .pointer (o.map fun b => ⟨b, 0, none⟩)
def coreT (S : Mach) : List Value :=
  [ptr S.pm, ptr S.pz, ptr S.pd, ptr S.pl, ptr S.pr, ptr S.ps, S.vck, S.vca, S.vde, S.vma, S.vtu, spV (S.sp 0), spV (S.sp 1), spV (S.sp 2), spV (S.sp 3), spV (S.sp 4), spV (S.sp 5), spV (S.sp 6), spV (S.sp 7), spV (S.sp 8), S.vhe, S.vfl, S.vfi]
structure SpaceAt (w : World) (F : Nat → Prop) (b : Nat) (root : Int) : Prop where
  ex : ∃ ab pb wb mb, own w b [ptr ab, vi root, ptr pb, .int .u8 0, .int .u8 0, .map (some mb)] ∧ own w ab [.slice none 0 0] ∧ own w pb [.slice (some ⟨wb, 0, none⟩) 16 16, vi 1024] ∧ own w wb (List.replicate 16 (.int .u64 0)) ∧ MapIs w mb [] ∧
    F b ∧ F ab ∧ F pb ∧ F wb ∧ F mb
def PAt (S : Mach) (k : Nat) : Prt → (Nat → Prop) → World → Prop
  | .core, F, w => own w k (cfg S.c ++ coreT S) ∧ F k
  | .mem, F, w => ∃ bb mb, MemAt w S.pm bb mb S.c S.n S.by' S.mks ∧ F S.pm ∧ F bb ∧ F mb
  | .zones, F, w => ZAt w S.pz S.Z S.L ∧ (∀ x, S.Z.all S.pz x → F x) ∧ S.Z.c = S.c
  | .dev, F, w => ∃ db, DevAt w S.pd db S.slots S.dv ∧ F S.pd ∧ F db
  | .locks, F, w => LocksAt w S.pl (9 + S.nodes) S.lh ∧ F S.pl
  | .rmap, F, w => ∃ fb mb, RmapAt w S.pr fb mb S.n S.rof S.rat ∧ F S.pr ∧ F fb ∧ F mb
  | .slots, F, w => ∃ fb, SlotsAt w S.ps fb S.slots S.sof ∧ F S.ps ∧ F fb
  | .clocks, F, w => RowA (fun i => ClockAt (S.ring i) (S.cof i)) S.nodes S.vck F w
  | .caches, F, w => RowA (fun _ => RowA (fun i => Cache0 (sz i)) 8) S.nodes S.vca F w
  | .depots, F, w => RowA (fun _ => RowA (fun _ => Bin0) 8) S.nodes S.vde F w
  | .mags, F, w => RowA (fun _ => RowA (fun _ => Bin0) 8) S.cpus S.vma F w
  | .turns, F, w => RowA (fun _ => ValA (.int .u64 1)) S.nodes S.vtu F w
  | .held, F, w => RowA (fun i => IntsA (S.held i)) S.cpus S.vhe F w
  | .flying, F, w => RowA (fun _ => NilA) S.cpus S.vfl F w
  | .flight, F, w => IntsA S.fli S.vfi F w
  | .space i, F, w => ∀ b, S.sp i = some b → SpaceAt w F b (S.root i)
theorem PAt.kx {S : Mach} {k : Nat} {p : Prt} {F X : Nat → Prop} {w w' : World} (h : PAt S k p F w) (kk : Kept X w w') (hx : ∀ x, X x → F x → False) : PAt S k p F w' := by
  cases p with
  | core => exact ⟨h.1.kx kk fun e => hx _ e h.2, h.2⟩
  | mem =>
    obtain ⟨bb, mb, h, h1, h2, h3⟩ := h
    exact ⟨bb, mb, ⟨h.so.kx kk fun e => hx _ e h1, h.bs.kx kk fun e => hx _ e h2, h.ms.kx kk fun e => hx _ e h3, h.ne⟩, h1, h2, h3⟩
  | zones => exact ⟨h.1.kx kk fun x e ha => hx x e (h.2.1 x ha), h.2⟩
  | dev =>
    obtain ⟨db, h, h1, h2⟩ := h
    exact ⟨db, ⟨h.so.kx kk fun e => hx _ e h1, h.bs.kx kk fun e => hx _ e h2, h.ne⟩, h1, h2⟩
  | locks => exact ⟨own.kx h.1 kk fun e => hx _ e h.2, h.2⟩
  | rmap =>
    obtain ⟨fb, mb, h, h1, h2, h3⟩ := h
    exact ⟨fb, mb, ⟨h.so.kx kk fun e => hx _ e h1, h.fs.kx kk fun e => hx _ e h2, h.mp.kx kk fun e => hx _ e h3, h.ne⟩, h1, h2, h3⟩
  | slots =>
    obtain ⟨fb, h, h1, h2⟩ := h
    exact ⟨fb, ⟨h.so.kx kk fun e => hx _ e h1, h.fs.kx kk fun e => hx _ e h2, h.ne⟩, h1, h2⟩
  | clocks => exact (RowA.stb fun _ _ => ClockAt.stb).kx _ _ _ _ _ h kk hx
  | caches => exact (RowA.stb fun _ _ => RowA.stb fun _ _ => Cache0.stb).kx _ _ _ _ _ h kk hx
  | depots => exact (RowA.stb fun _ _ => RowA.stb fun _ _ => Bin0.stb).kx _ _ _ _ _ h kk hx
  | mags => exact (RowA.stb fun _ _ => RowA.stb fun _ _ => Bin0.stb).kx _ _ _ _ _ h kk hx
  | turns => exact (RowA.stb fun _ _ => ValA.stb).kx _ _ _ _ _ h kk hx
  | held => exact (RowA.stb fun _ _ => IntsA.stb).kx _ _ _ _ _ h kk hx
  | flying => exact (RowA.stb fun _ _ => NilA.stb).kx _ _ _ _ _ h kk hx
  | flight => exact IntsA.stb.kx _ _ _ _ _ h kk hx
  | space i =>
    intro b hb
    obtain ⟨ab, pb, wb, mb, a1, a2, a3, a4, a5, f1, f2, f3, f4, f5⟩ := (h b hb).ex
    exact ⟨ab, pb, wb, mb, a1.kx kk fun e => hx _ e f1, a2.kx kk fun e => hx _ e f2, a3.kx kk fun e => hx _ e f3, a4.kx kk fun e => hx _ e f4, a5.kx kk fun e => hx _ e f5, f1, f2, f3, f4, f5⟩
structure CoreAt (w : World) (k : Nat) (S : Mach) (fp : Prt → Nat → Prop) : Prop where
  dj : ∀ p q x, fp p x → fp q x → p = q
  lt : ∀ p x, fp p x → 0 < x ∧ x < w.heap.size
  my : MayP S.c
  at' : ∀ p, PAt S k p (fp p) w
section
variable {w w' : World} {kb : Nat} {S S' : Mach} {fp : Prt → Nat → Prop}
theorem CoreAt.k (h : CoreAt w kb S fp) (kk : Kept none' w w') : CoreAt w' kb S fp :=
  ⟨h.dj, fun p x hx => ⟨(h.lt p x hx).1, Nat.lt_of_lt_of_le (h.lt p x hx).2 kk.sz⟩, h.my, fun p => (h.at' p).kx kk fun _ e => e.elim⟩
theorem CoreAt.kx {X : Nat → Prop} (h : CoreAt w kb S fp) (kk : Kept X w w') (hx : ∀ x p, X x → fp p x → False) : CoreAt w' kb S fp :=
  ⟨h.dj, fun p x hx => ⟨(h.lt p x hx).1, Nat.lt_of_lt_of_le (h.lt p x hx).2 kk.sz⟩, h.my, fun p => (h.at' p).kx kk fun x e hf => hx x p e hf⟩
theorem CoreAt.upd {X : Nat → Prop} (h : CoreAt w kb S fp) (T : Prt → Prop) (i : Prt) (kk : Kept X w w') (hX : ∀ x, X x → x < w.heap.size → ∃ p, T p ∧ fp p x) (hc : S'.c = S.c)
    (hS : ∀ p F w, ¬ T p → PAt S kb p F w → PAt S' kb p F w) (hi : T i) (hp : ∀ p, T p → PAt S' kb p (fun x => fp p x ∨ (p = i ∧ rng w w' x)) w') : CoreAt w' kb S' (fun p x => fp p x ∨ (p = i ∧ rng w w' x)) := by
  refine ⟨fun p q x h1 h2 => ?_, fun p x hx => ?_, hc ▸ h.my, fun p => ?_⟩
  · rcases h1 with h1 | ⟨rfl, h1⟩
    · rcases h2 with h2 | ⟨rfl, h2⟩
      · exact h.dj p q x h1 h2
      · have := (h.lt p x h1).2; have := h2.1; omega
    · rcases h2 with h2 | ⟨rfl, h2⟩
      · have := (h.lt q x h2).2; have := h1.1; omega
      · rfl
  · rcases hx with hx | ⟨rfl, hx⟩
    · exact ⟨(h.lt p x hx).1, Nat.lt_of_lt_of_le (h.lt p x hx).2 kk.sz⟩
    · have := (h.lt .core kb (h.at' .core).2).1
      have := (h.lt .core kb (h.at' .core).2).2
      exact ⟨by have := hx.1; omega, hx.2⟩
  · by_cases hT : T p
    · exact hp p hT
    · have e : (fun x => fp p x ∨ (p = i ∧ rng w w' x)) = fp p := by
        funext x
        refine propext ⟨fun hx => hx.resolve_right fun e => hT (e.1 ▸ hi), .inl⟩
      show PAt S' kb p (fun x => fp p x ∨ (p = i ∧ rng w w' x)) w'
      rw [e]
      exact hS p _ _ hT ((h.at' p).kx kk fun x e hf => by
        obtain ⟨q, hq, hf2⟩ := hX x e (h.lt p x hf).2
        have := h.dj p q x hf hf2
        subst this
        exact hT hq)
theorem CoreAt.so (h : CoreAt w kb S fp) : own w kb (cfg S.c ++ coreT S) := (h.at' .core).1
theorem CoreAt.rc (h : CoreAt w kb S fp) {j : Nat} (hj : j < 94) : rd w kb j = some (vi (S.c j)) := by
  rw [h.so.rd, List.getElem?_append_left (by rw [runI_len]; exact hj), runI_get _ _ _ _ _ hj, Nat.zero_add]
theorem CoreAt.rt (h : CoreAt w kb S fp) {j : Nat} {v : Value} (hj : (coreT S)[j]? = some v) : rd w kb (94 + j) = some v := by
  rw [h.so.rd, List.getElem?_append_right (by rw [runI_len]; omega), runI_len, Nat.add_sub_cancel_left]
  exact hj
theorem CoreAt.rcfg (h : CoreAt w kb S fp) : rdAll w kb 0 (cfg S.c) := h.so.run 0 fun j hj => by
  rw [Nat.zero_add, List.getElem?_append_left (by rw [runI_len]; exact hj), runI_get _ _ _ _ _ hj, Nat.zero_add]
theorem CoreAt.n4 (h : CoreAt w kb S fp) : (S.n : Int) = fstF S.c (S.c 0).toNat ∧ 4 ≤ S.n ∧ S.n ≤ 1024 := by
  have := h.my.tot
  unfold Mach.n
  omega
theorem CoreAt.sizes (h : CoreAt w kb S fp) : (1 ≤ S.nodes ∧ S.nodes ≤ 8 ∧ (S.nodes : Int) = S.c 0) ∧ (1 ≤ S.cpus ∧ S.cpus ≤ 16 ∧ (S.cpus : Int) = S.c 1) ∧ S.slots ≤ 1024 ∧ (S.slots : Int) = S.c 90 := by
  have h0 := h.my.1
  have h1 := h.my.2.1
  have h2 := h.my.2.2.1
  unfold Mach.nodes Mach.cpus Mach.slots
  omega
theorem CoreAt.k0 (h : CoreAt w kb S fp) : kb < w.heap.size := (h.lt .core kb (h.at' .core).2).2
end
end Go.Proofs.YtklmokolnakkoaaGreatDoor
