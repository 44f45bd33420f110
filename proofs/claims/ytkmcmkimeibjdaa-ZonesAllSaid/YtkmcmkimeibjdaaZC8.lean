/-
  A part of a proof that a law of this seat returns true at every input. Conditions: those in each theorem.
-/
import Derived.Test.YtkmcmkimeibjdaaZC7
import Derived.Test.YtkmcmkimeibjdaaZV3
import Derived.Test.YtkmcmkimeibjdaaBL9
namespace Go.Proofs.Ytkmcmkimeibjdaa
open Go Eng
set_option linter.unusedSimpArgs false
set_option linter.unusedVariables false
set_option maxRecDepth 100000
/-! ### ZonesStates -/
def stN (c : Nat → Int) (f : Nat) : Int := if (f : Int) ≤ c 91 then 0 else if (f : Int) ≤ c 92 then 1 else if (f : Int) ≤ c 93 then 2 else 3
theorem zst_stN (S : Zs) (L : Nat → List Bk) (i : Nat) : zst S L i = stN S.c (fsum (L i)) := rfl
theorem stN_mono (c : Nat → Int) (f : Nat) : stN c f ≤ stN c (f + 1) := by
  unfold stN
  split <;> split <;> (try split) <;> (try split) <;> (try split) <;> (try split) <;> omega
theorem takeR_new {n : Nat} {l l' : List Bk} {o : Int} {high : Bool} {a : Int} (hi : Inv n l) (h : TakeR l o high a 0 l') : ∃ (o' r : Nat), o = o' ∧ a = r ∧ (⟨r, o', 1⟩ : Bk) ∉ l ∧ (∀ y : Bk, y.g = 1 → (y ∈ l' ↔ y ∈ l ∨ y = ⟨r, o', 1⟩)) ∧ fsum l' + 2 ^ o' = fsum l := by
  rcases h with ⟨_, _, h, _⟩ | ⟨_, _, _, _, _, h, _⟩ | ⟨o', x, r, a1, a2, a3, a4, a5, a6, a7, a8, a9, a10, a11⟩
  · cases h
  · cases h
  have hxo : 2 ^ o' ≤ 2 ^ x.o := Nat.pow_le_pow_right (by omega) a2
  have hp := p2 o'
  refine ⟨o', r, a1, a7, fun hm => ?_, a10, a11⟩
  have := tile_over hi.tl a3 hm (by dsimp only; cases high <;> simp at a8 <;> omega) (by dsimp only; cases high <;> simp at a8 <;> omega)
  rw [this] at a4
  cases a4
theorem info_st : (Try.prog.info? 51).map (fun i => (i.zero, i.size, i.bytes)) = some (some (.int .i64 0), 1, 8) := by kernel_rfl
/-- the block that a row owns holds cells of its type -/
theorem row_ty {w : World} {base e size n g : Nat} {v : Value} {xs : List Value} (h : w.ownsRow base e size v n xs) (hg : v.ownBlock = some g) : base ≤ g ∧ ∃ cur, w.heap[g]? = some (.cells cur e (0, 0)) := by
  rcases h.2 with ⟨rfl, _⟩ | ⟨g', cap, cur, rfl, hb, hgg, _⟩
  · simp [Value.ownBlock] at hg
  · simp [Value.ownBlock] at hg
    subst hg
    exact ⟨hb, cur, hgg⟩
theorem row_sep {w : World} {base base' e e' size size' n n' g : Nat} {v v' : Value} {xs xs' : List Value} (h : w.ownsRow base e size v n xs) (h' : w.ownsRow base' e' size' v' n' xs') (he : e ≠ e') (hg : v.ownBlock = some g) : v'.ownBlock ≠ some g := fun hg' => by
  obtain ⟨_, cur, h1⟩ := row_ty h hg
  obtain ⟨_, cur', h2⟩ := row_ty h' hg'
  rw [h1] at h2
  cases h2
  exact he rfl
/-- reading a row -/
theorem row_rd {w : World} {base e l c n : Nat} {a : Option Addr} {xs : List Value} (h : w.ownsRow base e 1 (.slice a l c) n xs) {i : Nat} (hi : i < n) : isP a = true ∧ l = n ∧ rd w (pb a) (po a + i) = xs[i]? := by
  obtain ⟨hl, hh⟩ := ownsRow_own h
  rcases hh with ⟨_, h0, _⟩ | ⟨g, cs, rfl, hg, og, htk, _, _⟩
  · omega
  · refine ⟨rfl, hl, ?_⟩
    show rd w g (0 + i) = _
    rw [og.rd, Nat.zero_add, ← htk, List.getElem?_take, if_pos (by omega)]
theorem map_get {α : Type} (f : Nat → α) {i n : Nat} (h : i < n) : ((List.range n).map f)[i]? = some (f i) := by simp [h]
structure ZSt (w1 w' : World) (z : Nat) (S : Zs) (base node nn t : Nat) (L : Nat → List Bk) (al : Nat → Nat) : Prop where
  kp : Kept none' w1 w'
  za : ZAt w' z S L
  fs : fsum (L node) + t = nn
  tk : ∀ y : Bk, y.g = 1 → (y ∈ L node ↔ ∃ j, j < t ∧ y = ⟨al j, 0, 1⟩)
  inj : ∀ i j, i < t → j < t → al i = al j → i = j
  lt : ∀ j, j < t → al j < nn
theorem states_law (c : Nat → Int) (node : Int) (W : World) : Calls Try.prog 5 #[cfgV c, .int .i64 node] W fun r w' => r = .returned (.bool true) ∧ Kept none' W w' := by
  refine (vc5 c node W (fun v w' => v = .bool true ∧ Kept none' W w') ?_).mono ?_
  · unfold vcP5
    have hknown : ∀ w1, Kept none' W w1 → Calls Try.prog 21 #[] w1 fun (e : Ending) (w' : World) => ∃ (b : Bool), e = Ending.returned (Value.bool b) ∧ (Value.bool b = .bool true ∧ Kept none' W w') := fun w1 k1 => by
      refine (zknown_spec w1).mono ?_
      rintro _ w2 ⟨rfl, k2⟩
      exact ⟨_, rfl, rfl, k1.tr k2⟩
    intro w1 e1
    have o1 := own_alloc e1
    have k1 : Kept none' W w1 := (Kept.refl _ _).al e1
    generalize hb : W.heap.size = b0 at *
    refine ⟨c, o1.rIall, (znew_spec c w1).mono ?_⟩
    rintro _ w2 ⟨k2, ⟨hm, rfl⟩ | ⟨hm, z, S, L, rfl, h2, rfl, hfree, hfr⟩⟩
    · exact ⟨_, _, rfl, 0, fun h => by simp at h, Wif_yes (by simp) (hknown _ (k1.tr k2))⟩
    have o2 := o1.k k2
    refine ⟨_, _, rfl, S.c 0, fun _ => o2.rI (by omega), Wif_intro (fun _ => hknown _ (k1.tr k2)) (fun hc => ?_)⟩
    simp at hc
    obtain ⟨nd, rfl⟩ : ∃ nd : Nat, node = (nd : Int) := ⟨node.toNat, by omega⟩
    have hkc := h2.kc
    have hnd : nd < S.k := by omega
    have hk8 := h2.k8
    refine (zstate_spec h2 hnd).mono ?_
    rintro _ _ ⟨rfl, rfl⟩
    refine ⟨_, rfl, ?_⟩
    intro w3 e3
    rename_i w2
    have k23 : Kept none' w2 w3 := (Kept.refl _ _).al e3
    have h3 := h2.k k23
    have K3 := k2.tr k23
    have o3 := o2.k k23
    have hbase : ∀ x, S.all z x → x < w2.heap.size := fun x hx => h2.lt hx
    have q3 : w3.ownsRow w2.heap.size 51 1 (.slice (some ⟨w2.heap.size, 0, none⟩) 1 1) 1 [.int .i64 (zst S L nd)] := by
      refine ⟨rfl, .inr ⟨_, 1, #[.int .i64 (zst S L nd)], rfl, Nat.le_refl _, ?_, by decide, by decide, rfl, rfl⟩⟩
      rw [e3]
      simp only [World.alloc]
      simp
    generalize hbs : w2.heap.size = base at *
    have hs12 := k2.sz
    rw [hbs] at hs12
    obtain ⟨hn1, hn2, hn3⟩ := n_int h2 hnd
    have hfs : fsum (L nd) = S.n nd := by
      have hall : ∀ (l : List Bk) (a b : Nat), Tile a l b → (∀ x ∈ l, x.g = 0) → a + fsum l = b := by
        intro l
        induction l with
        | nil => intro a b h _; simp [Tile] at h; simp [fsum]; omega
        | cons x l ih =>
          intro a b h hg
          have := ih _ _ h.2.2.2 fun y hy => hg y (List.mem_cons_of_mem _ hy)
          rw [fsum_cons, if_pos (hg x (by simp))]
          omega
      have := hall _ _ _ (h2.iv nd hnd).tl (hfree nd hnd)
      omega
    have keepB : ∀ {wa wb : World}, Kept none' w1 wa → Kept (S.bl nd) wa wb → Kept none' w1 wb := fun ka k => keptZ ka k hnd hfr
    have keepR : ∀ {wa : World} {e : Nat} {v : Value} {n : Nat} {xs : List Value}, Kept none' w1 wa → wa.ownsRow base e 1 v n xs → Kept none' w1 wa := fun k _ => k
    have f1 := fst_128 h2 (i := nd) (by omega)
    refine Wif_yes (inB_of (by omega) (by omega)) ⟨S.c (18 + nd), by rw [Int.toNat_natCast, Nat.mul_one]; exact o3.rI (by omega), ?_⟩
    refine ⟨fun _ a l cc a1 l1 c1 k w' N => ∃ (t : Nat) (L : Nat → List Bk) (al : Nat → Nat), k = t ∧ t ≤ S.n nd ∧ N = S.n nd - t ∧ l = t + 1 ∧ t = l1 ∧ ZSt w1 w' z S base nd (S.n nd) t L al ∧
        w'.ownsRow base 51 1 (.slice a l cc) (t + 1) ((List.range (t + 1)).map fun j => .int .i64 (stN S.c (S.n nd - j))) ∧ w'.ownsRow base 3 1 (.slice a1 l1 c1) t ((List.range t).map fun j => .int .i64 (fstF S.c nd + (al j : Int))),
      ⟨S.n nd, 0, L, fun _ => 0, rfl, by omega, rfl, rfl, rfl, ⟨K3, h3, by omega, fun y hy => ⟨fun hm => by have := hfree nd hnd y hm; omega, fun ⟨j, hj, _⟩ => absurd hj (Nat.not_lt_zero _)⟩, fun i j hi => absurd hi (Nat.not_lt_zero _), fun i hi => absurd hi (Nat.not_lt_zero _)⟩, ?_, World.ownsRow_nil _ _ _ _⟩, ?_⟩
    · rw [zst_stN, hfs] at q3
      exact q3
    rintro _ a l cc a1 l1 c1 _ w4 _ ⟨t, L, al, rfl, ht, rfl, rfl, rfl, h4, rowS, rowL⟩
    have hbs4 : base ≤ w4.heap.size := by
      obtain ⟨_, hh⟩ := ownsRow_own rowS
      rcases hh with ⟨_, h0, _⟩ | ⟨g, cs, _, hg, og, _⟩
      · omega
      · have := og.lt; omega
    refine Wif_intro (fun hc2 => ?_) (fun hc2 => ?_)
    · simp only [decide_eq_true_eq] at hc2
      refine (ztakeOf_spec h4.za hnd 0 false).mono ?_
      rintro _ w5 ⟨r, e, l', rfl, k5, z5, r5⟩
      have hfz := h4.fs
      have he := takeR_ok r5 (by omega)
      subst he
      rw [if_pos rfl]
      obtain ⟨o', rr, ho', rfl, hnew, hset, hsum⟩ := takeR_new (h4.za.iv nd hnd) r5
      have : o' = 0 := by omega
      subst this
      have hin := takeR_in (h4.za.iv nd hnd) r5
      have hblk : ∀ x, S.bl nd x → x < base := fun x hx => hbase x (.inr (.inr ⟨nd, hnd, hx⟩))
      have rowS5 := ownsRow_kx rowS k5 (fun b hb _ _ hx => by have := hblk b hx; omega)
      have rowL5 := ownsRow_kx rowL k5 (fun b hb _ _ hx => by have := hblk b hx; omega)
      have K5 := keepB h4.kp k5
      refine ⟨_, _, rfl, ?_⟩
      intro w6 e6
      have k56 : Kept none' w5 w6 := (Kept.refl _ _).dr e6
      have z6 := z5.k k56
      have K6 := K5.tr k56
      have rowS6 := ownsRow_kx rowS5 k56 (fun _ _ _ _ => id)
      have rowL6 := ownsRow_kx rowL5 k56 (fun _ _ _ _ => id)
      have ew : IntKind.wrap .i64 (((t + 1 : Nat) : Int) - 1) = (t : Int) := by rw [wi (by omega)]; omega
      rw [ew]
      have hrd := row_rd rowS6 (i := t) (by omega)
      have hlast : ((List.range (t + 1)).map fun j => Value.int .i64 (stN S.c (S.n nd - j)))[t]? = some (.int .i64 (stN S.c (S.n nd - t))) := by simp
      rw [hlast] at hrd
      refine gIf_intro (fun _ => hrd.1) (gIf_intro (fun _ => inB_of (by omega) (by omega)) ?_)
      refine ⟨_, fun _ => by rw [Int.toNat_natCast, Nat.mul_one]; exact hrd.2.2, Wif_no rfl ((zstate_spec z6 hnd).mono ?_)⟩
      rintro _ _ ⟨rfl, rfl⟩
      rename_i w6
      have hfs' : fsum (upd L nd l' nd) = S.n nd - (t + 1) := by rw [upd_same]; simp at hsum; omega
      have est : zst S (upd L nd l') nd = stN S.c (S.n nd - (t + 1)) := by rw [zst_stN, hfs']
      have hmono := stN_mono S.c (S.n nd - (t + 1))
      rw [show S.n nd - (t + 1) + 1 = S.n nd - t by omega] at hmono
      rw [est]
      refine ⟨_, rfl, fun _ => ⟨by rw [Int.toNat_natCast, Nat.mul_one]; exact hrd.2.2, trivial⟩, Wif_no (by simp; omega) ?_⟩
      intro w7 e7
      have k67 : Kept none' w6 w7 := (Kept.refl _ _).al e7
      have p7 := own_alloc (c := [Value.int .i64 (fstF S.c nd + (rr : Int))]) e7
      have rowS7 := ownsRow_kx rowS6 k67 (fun _ _ _ _ => id)
      have rowL7 := ownsRow_kx rowL6 k67 (fun _ _ _ _ => id)
      have hs7 := (K6.tr k67).sz
      obtain ⟨a2, l2, c2, w8, happ, rfl, rowL8, k8⟩ := app_one (t := 42) (e := 3) Try.underlying42 info_int rfl rowL7 p7 (m := 1) (off := 0) (c := 1) (news := [.int .i64 (fstF S.c nd + (rr : Int))]) rfl rfl (fun u hu => by simp at hu; subst hu; rfl) (by omega) (by have := k5.sz; have := k56.sz; have := k67.sz; omega)
      refine ⟨a2, t + 1, c2, w8, happ, ?_⟩
      have hown : ∀ {v : Value} {e n : Nat} {xs : List Value} {wa : World}, wa.ownsRow base e 1 v n xs → ∀ x, v.ownBlock = some x → base ≤ x := fun h x hx => (row_ty h hx).1
      have z8 := (z6.k k67).kx k8 fun x hx hz => by have := hown rowL7 x hx; have := hbase x hz; omega
      have K8 : Kept none' w1 w8 := own0 (K6.tr k67) k8 fun x hx => by have := hown rowL7 x hx; omega
      have rowS8 := ownsRow_kx rowS7 k8 (fun b _ _ hb => row_sep rowS7 rowL7 (by decide) hb)
      refine (zstate_spec z8 hnd).mono ?_
      rintro _ _ ⟨rfl, rfl⟩
      rename_i w8
      rw [est]
      refine ⟨_, rfl, ?_⟩
      intro w9 e9
      have k89 : Kept none' w8 w9 := (Kept.refl _ _).al e9
      have p9 := own_alloc (c := [Value.int .i64 (stN S.c (S.n nd - (t + 1)))]) e9
      have rowS9 := ownsRow_kx rowS8 k89 (fun _ _ _ _ => id)
      have rowL9 := ownsRow_kx rowL8 k89 (fun _ _ _ _ => id)
      have hs9 := (K8.tr k89).sz
      obtain ⟨a3, l3, c3, w10, happ3, rfl, rowS10, k10⟩ := app_one (t := 53) (e := 51) Try.underlying53 info_st rfl rowS9 p9 (m := 1) (off := 0) (c := 1) (news := [.int .i64 (stN S.c (S.n nd - (t + 1)))]) rfl rfl (fun u hu => by simp at hu; subst hu; rfl) (by omega) (by have := k5.sz; have := k56.sz; have := k67.sz; have := k8.sz; have := k89.sz; omega)
      refine ⟨a3, _, c3, w10, happ3, ?_⟩
      have z10 := (z8.k k89).kx k10 fun x hx hz => by have := hown rowS9 x hx; have := hbase x hz; omega
      have K10 : Kept none' w1 w10 := own0 (K8.tr k89) k10 fun x hx => by have := hown rowS9 x hx; omega
      have rowL10 := ownsRow_kx rowL9 k10 (fun b _ _ hb => row_sep rowL9 rowS9 (by decide) hb)
      refine ⟨S.n nd - (t + 1), by omega, t + 1, upd L nd l', upd al t rr, by rw [wi (by omega)]; rfl, by omega, rfl, rfl, rfl, ⟨K10, z10, by omega, fun y hy => ?_, fun i j hi hj hij => ?_, fun j hj => ?_⟩, ?_, ?_⟩
      · rw [upd_same, hset y hy, h4.tk y hy]
        constructor
        · rintro (⟨j, hj, rfl⟩ | rfl)
          · exact ⟨j, by omega, by rw [upd_ne _ _ (by omega)]⟩
          · exact ⟨t, by omega, by rw [upd_same]⟩
        · rintro ⟨j, hj, rfl⟩
          by_cases e : j = t
          · subst e; right; rw [upd_same]
          · left; exact ⟨j, by omega, by rw [upd_ne _ _ e]⟩
      · have hnt : ∀ j, j < t → al j ≠ rr := fun j hj e => hnew ((h4.tk ⟨rr, 0, 1⟩ rfl).2 ⟨j, hj, by rw [e]⟩)
        by_cases e : i = t
        · subst e
          by_cases e' : j = i
          · exact e'.symm
          · rw [upd_same, upd_ne _ _ e'] at hij
            exact absurd hij.symm (hnt j (by omega))
        · by_cases e' : j = t
          · subst e'
            rw [upd_same, upd_ne _ _ e] at hij
            exact absurd hij (hnt i (by omega))
          · rw [upd_ne _ _ e, upd_ne _ _ e'] at hij
            exact h4.inj i j (by omega) (by omega) hij
      · by_cases e : j = t
        · subst e; rw [upd_same]; omega
        · rw [upd_ne _ _ e]; exact h4.lt j (by omega)
      · rw [List.range_succ, List.map_append]
        exact rowS10
      · have : (List.range (t + 1)).map (fun j => Value.int .i64 (fstF S.c nd + ((upd al t rr j : Nat) : Int))) = (List.range t).map (fun j => Value.int .i64 (fstF S.c nd + (al j : Int))) ++ [Value.int .i64 (fstF S.c nd + (rr : Int))] := by
          rw [List.range_succ, List.map_append]
          congr 1
          · apply List.map_congr_left
            intro i hi
            rw [upd_ne _ _ (by have := List.mem_range.1 hi; omega)]
          · simp
        rw [this]; exact rowL10
    have htn : t = S.n nd := by simp at hc2; omega
    have hz4 := h4.fs
    refine (zstate_spec h4.za hnd).mono ?_
    rintro _ _ ⟨rfl, rfl⟩
    rename_i w4
    have hf0 : fsum (L nd) = 0 := by omega
    have est0 : zst S L nd = 0 := by
      rw [zst_stN, hf0]
      unfold stN
      rw [if_pos]
      exact hm.2.2.2.2.2.2.2.1
    rw [est0]
    refine ⟨_, rfl, Wif_no rfl ?_⟩
    have ew : IntKind.wrap .i64 ((t : Int) - 1) = (t : Int) - 1 := wi (by omega)
    rw [ew]
    refine ⟨fun _ k w' N => ∃ (i : Nat) (L : Nat → List Bk), k = (i : Int) - 1 ∧ i ≤ t ∧ i = N ∧ ZSt w1 w' z S base nd (S.n nd) i L al ∧
        w'.ownsRow base 51 1 (.slice a (t + 1) cc) (t + 1) ((List.range (t + 1)).map fun j => .int .i64 (stN S.c (S.n nd - j))) ∧ w'.ownsRow base 3 1 (.slice a1 t c1) t ((List.range t).map fun j => .int .i64 (fstF S.c nd + (al j : Int))),
      ⟨t, t, L, rfl, Nat.le_refl _, rfl, h4, rowS, rowL⟩, ?_⟩
    rintro _ _ w5 _ ⟨i, L, rfl, hi, rfl, h5, rowS5, rowL5⟩
    refine Wif_intro (fun hc3 => ?_) (fun hc3 => ?_)
    · simp only [decide_eq_true_eq] at hc3
      obtain ⟨i, rfl⟩ : ∃ i', i = i' + 1 := ⟨i - 1, by omega⟩
      have ei : (((i + 1 : Nat) : Int) - 1) = (i : Int) := by omega
      rw [ei]
      intro w6 e6
      have k56 : Kept none' w5 w6 := (Kept.refl _ _).dr e6
      have z6 := h5.za.k k56
      have K6 := h5.kp.tr k56
      have rowS6 := ownsRow_kx rowS5 k56 (fun _ _ _ _ => id)
      have rowL6 := ownsRow_kx rowL5 k56 (fun _ _ _ _ => id)
      have hrl := row_rd rowL6 (i := i) (by omega)
      rw [map_get _ (by omega)] at hrl
      refine Wif_yes hrl.1 (Wif_yes (inB_of (by omega) (by omega)) ⟨_, by rw [Int.toNat_natCast, Nat.mul_one]; exact hrl.2.2, ?_⟩)
      have hal := h5.lt i (by omega)
      have hkk := hm.fst (k := nd + 1) (by omega)
      have efs : fstF S.c (nd + 1) = fstF S.c nd + S.c (18 + nd) := rfl
      refine (zgive_spec z6 (fstF S.c nd + (al i : Int)) 0 (by omega)).mono ?_
      rintro _ w7 (⟨i', e, l', hik, g1, g2, rfl, k7, z7, r7⟩ | ⟨hno, _⟩)
      rotate_left
      · have := fstF_mono hm (i := nd + 1) (k := S.k) (by omega) (by omega)
        omega
      have hii : i' = nd := node_one hm (by omega) (by omega) g1 g2 (by omega) (by omega)
      subst hii
      have hin : (⟨al i, 0, 1⟩ : Bk) ∈ L i' := (h5.tk _ rfl).2 ⟨i, by omega, rfl⟩
      have e1 : fstF S.c i' + (al i : Int) - fstF S.c i' = (al i : Int) := by omega
      rw [e1] at r7
      rcases r7 with ⟨h, _⟩ | ⟨x, b1, b2, b3, b4, rfl, b6, b7⟩
      · exact absurd (mem_tk.2 ⟨_, hin, rfl, rfl, rfl⟩) h
      have hx : (⟨al i, 0, 1⟩ : Bk) = x := tile_start (z6.iv i' hnd).tl hin b1 (by dsimp only; omega)
      subst hx
      have hblk : ∀ x, S.bl i' x → x < base := fun x hx => hbase x (.inr (.inr ⟨i', hnd, hx⟩))
      have rowS7 := ownsRow_kx rowS6 k7 (fun b hb _ _ hx => by have := hblk b hx; omega)
      have rowL7 := ownsRow_kx rowL6 k7 (fun b hb _ _ hx => by have := hblk b hx; omega)
      have K7 := keepB K6 k7
      refine ⟨_, rfl, ?_⟩
      have hrs := row_rd rowS7 (i := i) (by omega)
      rw [map_get _ (by omega)] at hrs
      refine gIf_intro (fun _ => hrs.1) (gIf_intro (fun _ => inB_of (by omega) (by omega)) ?_)
      refine ⟨_, fun _ => by rw [Int.toNat_natCast, Nat.mul_one]; exact hrs.2.2, Wif_no rfl ((zstate_spec z7 hnd).mono ?_)⟩
      rintro _ _ ⟨rfl, rfl⟩
      rename_i w7
      have hf5 := h5.fs
      have hfs' : fsum (upd L i' l' i') = S.n i' - i := by rw [upd_same]; simp at b7; omega
      rw [zst_stN, hfs']
      refine ⟨_, rfl, fun _ => ⟨by rw [Int.toNat_natCast, Nat.mul_one]; exact hrs.2.2, trivial⟩, Wif_no (by simp) ⟨i, by omega, i, upd L i' l', by rw [wi (by omega)], by omega, rfl, ⟨K7, z7, by omega, fun y hy => ?_, fun a b ha hb => h5.inj a b (by omega) (by omega), fun j hj => h5.lt j (by omega)⟩, rowS7, rowL7⟩⟩
      rw [upd_same, b6 y hy, h5.tk y hy]
      constructor
      · rintro ⟨⟨j, hj, rfl⟩, hne⟩
        refine ⟨j, ?_, rfl⟩
        have : j ≠ i := fun e => hne (by rw [e])
        omega
      · rintro ⟨j, hj, rfl⟩
        refine ⟨⟨j, by omega, rfl⟩, fun e => ?_⟩
        have : al j = al i := by
          have := congrArg Bk.p e
          exact this
        have := h5.inj j i (by omega) (by omega) this
        omega
    · exact hknown _ (k1.tr h5.kp)
  · rintro e w' ⟨v, rfl, rfl, hw⟩
    exact ⟨rfl, hw⟩
end Go.Proofs.Ytkmcmkimeibjdaa
