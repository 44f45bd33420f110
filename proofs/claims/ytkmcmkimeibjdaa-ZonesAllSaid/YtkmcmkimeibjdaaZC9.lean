/-
  A part of a proof that a law of this seat returns true at every input. Conditions: those in each theorem.
-/
import Derived.Test.YtkmcmkimeibjdaaZC8
import Derived.Test.YtkmcmkimeibjdaaZV4
namespace Go.Proofs.Ytkmcmkimeibjdaa
open Go Eng
set_option linter.unusedSimpArgs false
set_option linter.unusedVariables false
set_option maxRecDepth 100000
/-! ### sums -/
def sumTo (f : Nat → Nat) : Nat → Nat
  | 0 => 0
  | k + 1 => sumTo f k + f k
theorem sumTo_congr {f g : Nat → Nat} : ∀ {k : Nat}, (∀ j, j < k → f j = g j) → sumTo f k = sumTo g k
  | 0, _ => rfl
  | k + 1, h => by
    unfold sumTo
    rw [sumTo_congr fun j hj => h j (by omega), h k (by omega)]
theorem sumTo_one {f g : Nat → Nat} {i : Nat} : ∀ {k : Nat}, i < k → (∀ j, j < k → j ≠ i → g j = f j) → sumTo g k + f i = sumTo f k + g i
  | 0, h, _ => absurd h (Nat.not_lt_zero _)
  | k + 1, h, hg => by
    unfold sumTo
    by_cases e : i = k
    · subst e
      rw [sumTo_congr fun j hj => hg j (by omega) (by omega)]
      omega
    · have := sumTo_one (f := f) (g := g) (i := i) (k := k) (by omega) fun j hj hne => hg j (by omega) hne
      have := hg k (by omega) (fun x => e x.symm)
      omega
theorem sumTo_mem {f : Nat → Nat} {i : Nat} : ∀ {k : Nat}, i < k → f i ≤ sumTo f k
  | 0, h => absurd h (Nat.not_lt_zero _)
  | k + 1, h => by
    unfold sumTo
    by_cases e : i = k
    · subst e; omega
    · have := sumTo_mem (f := f) (i := i) (k := k) (by omega); omega
theorem sumTo_pos {f : Nat → Nat} : ∀ {k : Nat}, 0 < sumTo f k → ∃ i, i < k ∧ 0 < f i
  | 0, h => absurd h (Nat.lt_irrefl _)
  | k + 1, h => by
    unfold sumTo at h
    by_cases e : 0 < f k
    · exact ⟨k, by omega, e⟩
    · obtain ⟨i, h1, h2⟩ := sumTo_pos (f := f) (k := k) (by omega)
      exact ⟨i, by omega, h2⟩
theorem sumTo_le {f : Nat → Nat} {b : Nat} : ∀ {k : Nat}, (∀ j, j < k → f j ≤ b) → sumTo f k ≤ k * b
  | 0, _ => by simp [sumTo]
  | k + 1, h => by
    unfold sumTo
    have := sumTo_le (f := f) (b := b) (k := k) fun j hj => h j (by omega)
    have := h k (by omega)
    rw [Nat.add_mul]
    omega
/-! ### ZonesAll -/
theorem tile_sum : ∀ (l : List Bk) (a b : Nat), Tile a l b → (∀ x ∈ l, x.g = 0) → a + fsum l = b
  | [], a, b, h, _ => by simp [Tile] at h; simp [fsum]; omega
  | x :: l, a, b, h, hg => by
    have := tile_sum l _ _ h.2.2.2 fun y hy => hg y (List.mem_cons_of_mem _ hy)
    rw [fsum_cons, if_pos (hg x (by simp))]
    omega
def frees (L : Nat → List Bk) (i : Nat) : Nat := fsum (L i)
def excs (ak : Nat → Bool) (fl : Nat) (L : Nat → List Bk) (i : Nat) : Nat := if ak i then fsum (L i) - fl else 0
def bools (ak : Nat → Bool) : List Value := (List.range 8).map fun i => .bool (ak i)
theorem bools_get (ak : Nat → Bool) {i : Nat} (hi : i < 8) : (bools ak)[i]? = some (.bool (ak i)) := map_get _ hi
theorem bools_set (ak : Nat → Bool) {i : Nat} (hi : i < 8) (b : Bool) : (bools ak).set i (.bool b) = bools (upd ak i b) := by
  apply List.ext_getElem?
  intro j
  rw [List.getElem?_set]
  have hl : (bools ak).length = 8 := by simp [bools]
  by_cases e : i = j
  · subst e
    rw [if_pos rfl, if_pos (by omega), bools_get _ hi, upd_same]
  · rw [if_neg e]
    by_cases hj : j < 8
    · rw [bools_get _ hj, bools_get _ hj, upd_ne _ _ (Ne.symm e)]
    · rw [List.getElem?_eq_none (by omega), List.getElem?_eq_none (by simp [bools]; omega)]
abbrev ones (fl : List Int) : List (Int × Value) := fl.map fun f => (f, Value.int .i64 1)
/-- what is taken: just these frames, each by itself -/
def TakenAre (S : Zs) (L : Nat → List Bk) (P : Int → Prop) : Prop := ∀ i, i < S.k → ∀ y : Bk, y.g = 1 → (y ∈ L i ↔ y.o = 0 ∧ y.p < S.n i ∧ P (fstF S.c i + (y.p : Int)))
/-- a frame is somewhere -/
def InS (S : Zs) (f : Int) : Prop := ∃ i p : Nat, i < S.k ∧ p < S.n i ∧ f = fstF S.c i + (p : Int)
theorem place_one {w : World} {z : Nat} {S : Zs} {L : Nat → List Bk} (h : ZAt w z S L) {i j p q : Nat} (hi : i < S.k) (hj : j < S.k) (hp : p < S.n i) (hq : q < S.n j) (e : fstF S.c i + (p : Int) = fstF S.c j + (q : Int)) : i = j ∧ p = q := by
  have hni := n_int h hi
  have hnj := n_int h hj
  have hkc := h.kc
  have e1 : fstF S.c (i + 1) = fstF S.c i + S.c (18 + i) := rfl
  have e2 : fstF S.c (j + 1) = fstF S.c j + S.c (18 + j) := rfl
  have : i = j := node_one h.my (by omega) (by omega) (show fstF S.c i ≤ fstF S.c i + (p : Int) by omega) (by omega) (by omega) (by omega)
  subst this
  exact ⟨rfl, by omega⟩
/-- a frame more is taken -/
theorem take_more {w : World} {z : Nat} {S : Zs} {L : Nat → List Bk} (h : ZAt w z S L) {P : Int → Prop} (ht : TakenAre S L P) {i : Nat} (hi : i < S.k) {a : Int} {high : Bool} {l' : List Bk} (hr : TakeR (L i) 0 high a 0 l') :
    ∃ r : Nat, a = r ∧ r < S.n i ∧ ¬ P (fstF S.c i + (r : Int)) ∧ fsum l' + 1 = fsum (L i) ∧ TakenAre S (upd L i l') (fun f => P f ∨ f = fstF S.c i + (r : Int)) := by
  obtain ⟨o', r, ho', rfl, hnew, hset, hsum⟩ := takeR_new (h.iv i hi) hr
  have : o' = 0 := by omega
  subst this
  have hin := takeR_in (h.iv i hi) hr
  have hrn : r < S.n i := by omega
  refine ⟨r, rfl, hrn, fun hP => hnew ((ht i hi ⟨r, 0, 1⟩ rfl).2 ⟨rfl, hrn, hP⟩), by simpa using hsum, fun j hj y hy => ?_⟩
  by_cases e : j = i
  · subst e
    rw [upd_same, hset y hy, ht j hj y hy]
    constructor
    · rintro (⟨h1, h2, h3⟩ | rfl)
      · exact ⟨h1, h2, .inl h3⟩
      · exact ⟨rfl, hrn, .inr rfl⟩
    · rintro ⟨h1, h2, h3 | h3⟩
      · exact .inl ⟨h1, h2, h3⟩
      · right
        obtain ⟨yp, yo, yg⟩ := y
        dsimp only at h1 h3 hy
        have : yp = r := by omega
        subst this h1 hy
        rfl
  · rw [upd_ne _ _ e, ht j hj y hy]
    constructor
    · rintro ⟨h1, h2, h3⟩
      exact ⟨h1, h2, .inl h3⟩
    · rintro ⟨h1, h2, h3 | h3⟩
      · exact ⟨h1, h2, h3⟩
      · exact absurd (place_one h hj hi h2 hrn h3).1 e
/-- a frame less -/
theorem give_less {w : World} {z : Nat} {S : Zs} {L : Nat → List Bk} (h : ZAt w z S L) {P Q : Int → Prop} (ht : TakenAre S L P) {i r : Nat} (hi : i < S.k) (hrn : r < S.n i) (hP : P (fstF S.c i + (r : Int))) (hQ : ∀ f, Q f ↔ P f ∧ f ≠ fstF S.c i + (r : Int)) {e : Int} {l' : List Bk} (hg : GiveR (L i) (r : Int) 0 e l') :
    e = 0 ∧ TakenAre S (upd L i l') Q := by
  have hin : (⟨r, 0, 1⟩ : Bk) ∈ L i := (ht i hi ⟨r, 0, 1⟩ rfl).2 ⟨rfl, hrn, hP⟩
  rcases hg with ⟨hno, _⟩ | ⟨x, b1, b2, b3, b4, rfl, b6, b7⟩
  · exact absurd (mem_tk.2 ⟨_, hin, rfl, rfl, rfl⟩) hno
  have hx : (⟨r, 0, 1⟩ : Bk) = x := tile_start (h.iv i hi).tl hin b1 (by dsimp only; omega)
  subst hx
  refine ⟨rfl, fun j hj y hy => ?_⟩
  by_cases ej : j = i
  · subst ej
    rw [upd_same, b6 y hy, ht j hj y hy]
    constructor
    · rintro ⟨⟨h1, h2, h3⟩, hne⟩
      refine ⟨h1, h2, (hQ _).2 ⟨h3, fun e => hne ?_⟩⟩
      obtain ⟨yp, yo, yg⟩ := y
      dsimp only at h1 e hy
      have : yp = r := by omega
      subst this h1 hy
      rfl
    · rintro ⟨h1, h2, h3⟩
      obtain ⟨h4, h5⟩ := (hQ _).1 h3
      exact ⟨⟨h1, h2, h4⟩, fun e => h5 (by rw [e])⟩
  · rw [upd_ne _ _ ej, ht j hj y hy]
    constructor
    · rintro ⟨h1, h2, h3⟩
      exact ⟨h1, h2, (hQ _).2 ⟨h3, fun e => ej (place_one h hj hi h2 hrn e).1⟩⟩
    · rintro ⟨h1, h2, h3⟩
      exact ⟨h1, h2, ((hQ _).1 h3).1⟩
structure ZA (w1 w' : World) (z : Nat) (S : Zs) (base b0 bA : Nat) (ak : Nat → Bool) (L : Nat → List Bk) : Prop where
  kp : Kept none' w1 w'
  za : ZAt w' z S L
  ob : own w' b0 (cfg S.c)
  oa : own w' bA (bools ak)
  sz : base ≤ w'.heap.size
section
variable {w1 w' w'' : World} {z : Nat} {S : Zs} {base b0 bA : Nat} {ak : Nat → Bool} {L : Nat → List Bk}
theorem ZA.k (h : ZA w1 w' z S base b0 bA ak L) (k : Kept none' w' w'') : ZA w1 w'' z S base b0 bA ak L :=
  ⟨h.kp.tr k, h.za.k k, h.ob.k k, h.oa.k k, by have := k.sz; have := h.sz; omega⟩
end

theorem all_law (c : Nat → Int) (na : Option Addr) (nl nc : Nat) (nf : Nat → Int) (floor : Int) (high : Bool) (W : World) (hx : 0 < nl → isP na = true) (hr : ∀ i, i < nl → rd W (pb na) (po na + i) = some (.int .i64 (nf i))) :
    Calls Try.prog 4 #[cfgV c, .slice na nl nc, .int .i64 floor, .bool high] W fun r w' => r = .returned (.bool true) ∧ Kept none' W w' := by
  refine (vc4 c na nl nc floor high W (fun v w' => v = .bool true ∧ Kept none' W w') ?_).mono ?_
  · unfold vcP4
    have hknown : ∀ w1, Kept none' W w1 → Calls Try.prog 21 #[] w1 fun (e : Ending) (w' : World) => ∃ (b : Bool), e = Ending.returned (Value.bool b) ∧ (Value.bool b = .bool true ∧ Kept none' W w') := fun w1 k1 => by
      refine (zknown_spec w1).mono ?_
      rintro _ w2 ⟨rfl, k2⟩
      exact ⟨_, rfl, rfl, k1.tr k2⟩
    intro w1 e1
    have o1 := own_alloc e1
    have k1 : Kept none' W w1 := (Kept.refl _ _).al e1
    generalize hb : W.heap.size = b0 at *
    refine ⟨c, o1.rIall, (znew_spec c w1).mono ?_⟩
    rintro _ w2 ⟨k2, ⟨hm, rfl⟩ | ⟨hm, z, S, L, rfl, h2, rfl, hfree, hfr⟩⟩
    · exact ⟨_, _, rfl, Wif_yes (by simp) (hknown _ (k1.tr k2))⟩
    have o2 := o1.k k2
    refine ⟨_, _, rfl, Wif_intro (fun _ => hknown _ (k1.tr k2)) (fun hc => ?_)⟩
    simp at hc
    obtain ⟨⟨hl8, hf0⟩, hf200⟩ := hc
    obtain ⟨fl, rfl⟩ : ∃ fl : Nat, floor = (fl : Int) := ⟨floor.toNat, by omega⟩
    have hkc := h2.kc
    have hk8 := h2.k8
    intro w3 e3
    have k23 : Kept none' w2 w3 := (Kept.refl _ _).al e3
    have oA : own w3 w2.heap.size (bools fun _ => false) := own_alloc e3
    have hs3 : w3.heap.size = w2.heap.size + 1 := by rw [e3]; simp only [World.alloc, Array.size_push]
    have hbase : ∀ x, S.all z x → x < w2.heap.size := fun x hx => h2.lt hx
    have hb0 := o2.lt
    have hs12 := k2.sz
    generalize hbs : w2.heap.size = base at *
    have hbl : ∀ i, i < S.k → ∀ x, S.bl i x → x < base := fun i hi x hx => hbase x (.inr (.inr ⟨i, hi, hx⟩))
    have hb1 : b0 < w1.heap.size := o1.lt
    have Z3 : ZA w1 w3 z S base b0 base (fun _ => false) L := ⟨k2.tr k23, h2.k k23, o2.k k23, oA, by omega⟩
    -- a write to the zone's blocks of one node
    have zstep : ∀ {ak : Nat → Bool} {L : Nat → List Bk} {wa wb : World} {i : Nat} {l' : List Bk}, ZA w1 wa z S base b0 base ak L → i < S.k → Kept (S.bl i) wa wb → ZAt wb z S (upd L i l') → ZA w1 wb z S base b0 base ak (upd L i l') := fun h hi k hz =>
      ⟨keptZ h.kp k hi hfr, hz, h.ob.kx k (fun e => by have := hfr _ (.inr (.inr ⟨_, hi, e⟩)); omega), h.oa.kx k (fun e => by have := hbl _ hi _ e; omega), by have := k.sz; have := h.sz; omega⟩
    have hrW : ∀ {ak : Nat → Bool} {L : Nat → List Bk} {wa : World}, ZA w1 wa z S base b0 base ak L → ∀ i, i < nl → rd wa (pb na) (po na + i) = some (.int .i64 (nf i)) := fun h i hi => (k1.tr h.kp).rd_some (hr i hi) id
    refine ⟨fun _ k w' N => ∃ (q : Nat) (ak : Nat → Bool), k = q ∧ q ≤ nl ∧ N = nl - q ∧ ZA w1 w' z S base b0 base ak L ∧ (∀ j, j < q → 0 ≤ nf j ∧ nf j < (S.k : Int)) ∧ (∀ i, i < 8 → (ak i = true ↔ ∃ j, j < q ∧ nf j = (i : Int))), ⟨nl, 0, fun _ => false, rfl, by omega, rfl, Z3, fun j hj => absurd hj (Nat.not_lt_zero _), fun i hi => by simp⟩, ?_⟩
    rintro b _ w4 _ ⟨q, ak, rfl, hq, rfl, Z4, hval, hask⟩
    refine Wif_intro (fun hc2 => ?_) (fun hc2 => ?_)
    · simp only [decide_eq_true_eq] at hc2
      intro w5 e5
      have Z5 := Z4.k ((Kept.refl _ _).dr e5)
      have eP : ∀ {x y : Prop}, Wif (isP na) x y = x := by intro x y; rw [hx (by omega)]; rfl
      have eB : ∀ {x y : Prop}, Wif (inB (q : Int) nl) x y = x := by intro x y; rw [inB_of (by omega) (by omega)]; rfl
      simp only [eP, eB, Int.toNat_natCast]
      have hrq := hrW Z5 q (by omega)
      refine ⟨nf q, by rw [Nat.mul_one]; exact hrq, gIf_intro (fun _ => hx (by omega)) (gIf_intro (fun _ => inB_of (by omega) (by omega)) ⟨nf q, fun _ => by rw [Nat.mul_one]; exact hrq, S.c 0, fun _ => Z5.ob.rI (by omega), Wif_intro (fun hc3 => ?_) (fun hc3 => ?_)⟩)⟩
      · -- one that is no node
        have hbad : nf q < 0 ∨ (S.k : Int) ≤ nf q := by
          simp at hc3
          rcases hc3 with h | h
          · exact .inl h
          · exact .inr (by omega)
        refine (ztake_spec Z5.za (cap := nc) (nf := nf) (by omega) hx (hrW Z5) fl high).mono ?_
        rintro _ w6 ⟨v, rfl, ⟨_, rfl, rfl⟩ | ⟨h, _⟩ | ⟨h, _⟩⟩
        · exact ⟨_, _, rfl, Wif_yes rfl (hknown _ (k1.tr Z5.kp))⟩
        · have := h q (by omega); omega
        · have := h q (by omega); omega
      · simp at hc3
        obtain ⟨i, hi⟩ : ∃ i : Nat, nf q = (i : Int) := ⟨(nf q).toNat, by omega⟩
        refine ⟨nf q, by rw [Nat.mul_one]; exact hrq, ?_⟩
        rw [hi]
        refine Wif_yes (inB_of (by omega) (by omega)) ⟨by rw [Int.toNat_natCast, Nat.mul_one, Nat.zero_add]; exact Z5.oa.wr (by simp [bools]; omega), ?_⟩
        intro w6 e6
        rw [Int.toNat_natCast, Nat.mul_one, Nat.zero_add] at e6
        have oa6 := Z5.oa.s1 e6
        rw [bools_set ak (by omega)] at oa6
        have k56 : Kept (· = base) w5 w6 := (Kept.refl _ _).s1 e6 (.inl rfl)
        refine ⟨nl - (q + 1), by omega, q + 1, upd ak i true, by rw [wi (by omega)]; rfl, by omega, rfl, ⟨own0 Z5.kp k56 fun x e => by omega, Z5.za.kx k56 fun x e h => by have := hbase x h; omega, Z5.ob.kx k56 (by omega), oa6, by have := k56.sz; have := Z5.sz; omega⟩, fun j hj => ?_, fun i' hi' => ?_⟩
        · rcases Nat.lt_or_ge j q with hlt | hge
          · exact hval j hlt
          · have : j = q := by omega
            subst this; omega
        · by_cases e : i' = i
          · subst e
            rw [upd_same]
            exact ⟨fun _ => ⟨q, by omega, hi⟩, fun _ => rfl⟩
          · rw [upd_ne _ _ e, hask i' hi']
            constructor
            · rintro ⟨j, h1, h3⟩; exact ⟨j, by omega, h3⟩
            · rintro ⟨j, h1, h3⟩
              refine ⟨j, ?_, h3⟩
              have : j ≠ q := fun e' => by subst e'; omega
              omega
    have hql : nl = q := by simp at hc2; omega
    subst hql
    -- the sums
    have hfsum : ∀ i, i < S.k → fsum (L i) = S.n i := fun i hi => by have := tile_sum _ _ _ (h2.iv i hi).tl (hfree i hi); omega
    have hn8 : ∀ i, i < S.k → S.n i ≤ 128 := fun i hi => (n_int h2 hi).2.2
    refine ⟨S.c 0, Z4.ob.rI (by omega), ?_⟩
    refine ⟨fun was want k w' N => ∃ p : Nat, k = p ∧ (p : Int) ≤ S.c 0 ∧ N = S.k - p ∧ ZA w1 w' z S base b0 base ak L ∧ was = (sumTo (frees L) p : Nat) ∧ want = (sumTo (excs ak fl L) p : Nat), ⟨S.k, 0, rfl, by omega, rfl, Z4, rfl, rfl⟩, ?_⟩
    rintro _ _ _ w5 _ ⟨p, rfl, hp, rfl, Z5, rfl, rfl⟩
    have hb1 := sumTo_le (f := frees L) (b := 128) (k := p) fun j hj => by have := hfsum j (by omega); have := hn8 j (by omega); show fsum (L j) ≤ _; omega
    have hb2 := sumTo_le (f := excs ak fl L) (b := 128) (k := p) fun j hj => by
      have := hfsum j (by omega); have := hn8 j (by omega)
      unfold excs
      split <;> omega
    refine Wif_intro (fun hc3 => ?_) (fun hc3 => ?_)
    · simp only [decide_eq_true_eq] at hc3
      have hpk : p < S.k := by omega
      have hfp := hfsum p hpk
      have hnp := hn8 p hpk
      refine (zfree_spec Z5.za p).mono ?_
      rintro _ _ ⟨rfl, rfl⟩
      rename_i w5
      rw [zfr_in hpk]
      have e1 : sumTo (frees L) (p + 1) = sumTo (frees L) p + fsum (L p) := rfl
      have e2 : sumTo (excs ak fl L) (p + 1) = sumTo (excs ak fl L) p + excs ak fl L p := rfl
      have ewas : IntKind.wrap .i64 (((sumTo (frees L) p : Nat) : Int) + ((fsum (L p) : Nat) : Int)) = (sumTo (frees L) (p + 1) : Nat) := by rw [wi (by omega)]; omega
      have ep : IntKind.wrap .i64 ((p : Int) + 1) = ((p + 1 : Nat) : Int) := by rw [wi (by omega)]; rfl
      refine ⟨_, rfl, Wif_yes (inB_of (by omega) (by omega)) ⟨ak p, by rw [Int.toNat_natCast, Nat.mul_one, Nat.zero_add, Z5.oa.rd]; exact bools_get ak (by omega), Wif_intro (fun ha => ?_) (fun ha => ?_)⟩⟩
      · refine (zfree_spec Z5.za p).mono ?_
        rintro _ _ ⟨rfl, rfl⟩
        rw [zfr_in hpk]
        refine ⟨_, rfl, S.k - (p + 1), by omega, p + 1, ep, by omega, rfl, Z5, ewas, ?_⟩
        have ex : excs ak fl L p = fsum (L p) - fl := by unfold excs; rw [if_pos ha]
        rw [e2, ex]
        have ew : IntKind.wrap .i64 (((fsum (L p) : Nat) : Int) - (fl : Int)) = ((fsum (L p) : Nat) : Int) - (fl : Int) := wi (by omega)
        rw [ew]
        split
        · rw [wi (by omega)]; omega
        · rw [wi (by omega)]; omega
      · refine ⟨S.k - (p + 1), by omega, p + 1, ep, by omega, rfl, Z5, ewas, ?_⟩
        have ex : excs ak fl L p = 0 := by unfold excs; rw [if_neg (by simp [ha])]
        rw [e2, ex]; rfl
    have hpk : p = S.k := by simp at hc3; omega
    subst hpk
    clear hc2 hc3
    intro w6 e6
    have k56 : Kept none' w5 w6 := e6 ▸ (Kept.refl _ _).allocMap _ _
    have Z6 := Z5.k k56
    have M6 := map_new e6
    have hsb : base ≤ w5.heap.size := Z5.sz
    have hs6 : w6.heap.size = w5.heap.size + 1 := by rw [e6]; simp only [World.alloc, Array.size_push]
    have hsb2 : w5.heap.size ≠ base := by have := Z5.oa.lt; omega
    generalize hsbE : w5.heap.size = sb at *
    generalize hwas : sumTo (frees L) S.k = was at *
    generalize hwant : sumTo (excs ak fl L) S.k = want at *
    have T0 : TakenAre S L (fun f => f ∈ ([] : List Int)) := fun i hi y hy => ⟨fun h => by have := hfree i hi y h; omega, fun h => by simp at h⟩
    have zex : ∀ {Lz : Nat → List Bk} {i r : Nat} {l' : List Bk}, i < S.k → fl < fsum (Lz i) → fsum l' + 1 = fsum (Lz i) → ak i = true → sumTo (excs ak fl (upd Lz i l')) S.k + 1 = sumTo (excs ak fl Lz) S.k := fun {Lz i r l'} hi h1 h3 ha => by
      have := sumTo_one (f := excs ak fl Lz) (g := excs ak fl (upd Lz i l')) (i := i) hi fun j hj hne => by unfold excs; rw [upd_ne _ _ hne]
      have e1 : excs ak fl Lz i = fsum (Lz i) - fl := by unfold excs; rw [if_pos ha]
      have e2 : excs ak fl (upd Lz i l') i = fsum l' - fl := by unfold excs; rw [if_pos ha, upd_same]
      omega
    have zfs : ∀ {Lz : Nat → List Bk} {i : Nat} {l' : List Bk}, i < S.k → fsum l' + 1 = fsum (Lz i) → sumTo (frees (upd Lz i l')) S.k + 1 = sumTo (frees Lz) S.k := fun {Lz i l'} hi h3 => by
      have := sumTo_one (f := frees Lz) (g := frees (upd Lz i l')) (i := i) hi fun j hj hne => by unfold frees; rw [upd_ne _ _ hne]
      have e1 : frees Lz i = fsum (Lz i) := rfl
      have e2 : frees (upd Lz i l') i = fsum l' := by unfold frees; rw [upd_same]
      omega
    have askOf : ∀ {j i : Nat}, j < nl → nf j = (i : Int) → i < S.k → ak i = true := fun hj hji hi => (hask _ (by omega)).2 ⟨_, hj, hji⟩
    refine ⟨fun _ k w' N => ∃ (t : Nat) (Lz : Nat → List Bk) (fs : List Int), k = t ∧ t ≤ want ∧ N = want - t ∧ ZA w1 w' z S base b0 base ak Lz ∧ MapIs w' sb (ones fs) ∧ TakenAre S Lz (fun f => f ∈ fs) ∧ (∀ f ∈ fs, InS S f) ∧ sumTo (excs ak fl Lz) S.k + t = want ∧ sumTo (frees Lz) S.k + t = was,
      ⟨want, 0, L, [], rfl, by omega, rfl, Z6, M6, T0, fun f hf => (by cases hf), by omega, by omega⟩, ?_⟩
    rintro _ _ w7 _ ⟨t, Lz, fs, rfl, ht, rfl, Z7, M7, T7, I7, hX7, hF7⟩
    have hkt := (ztake_spec Z7.za (cap := nc) (nf := nf) (by omega) hx (hrW Z7) fl high)
    refine Wif_intro (fun hc3 => ?_) (fun hc3 => ?_)
    · simp only [decide_eq_true_eq] at hc3
      refine hkt.mono ?_
      rintro _ w8 ⟨v, rfl, hz⟩
      rcases hz with ⟨⟨i, hi, h⟩ | h, _⟩ | ⟨_, _, h, _⟩ | ⟨_, _, j, i, hj, hji, hik, hlt, hlow, a, l', rfl, k8, z8, r8⟩
      · have := hval i hi; omega
      · omega
      · -- one that is asked has more
        obtain ⟨i, hi, hpos⟩ := sumTo_pos (f := excs ak fl Lz) (k := S.k) (by omega)
        unfold excs at hpos
        split at hpos
        · rename_i ha
          obtain ⟨j, hj, hji⟩ := (hask i (by omega)).1 ha
          have := h j hj
          rw [hji, zfr_in hi] at this
          omega
        · omega
      · obtain ⟨r, rfl, hrn, hnP, hs, T8⟩ := take_more Z7.za T7 hik r8
        have Z8 := zstep Z7 hik k8 z8
        have M8 : MapIs w8 sb (ones fs) := M7.kx k8 fun e => by have := hbl _ hik _ e; omega
        have hfi := fst_128 Z7.za (i := i) (by omega)
        have hnn := hn8 i hik
        have hlook : (ones fs).lookup (fstF S.c i + (r : Int)) = none := lookup_none_of fun v hv => by
          obtain ⟨f, hf, e⟩ := List.mem_map.1 hv
          cases e
          exact hnP hf
        have hlk := look1 (mt := 49) (vt := 3) (kt := 3) Try.underlying49 Try.underlying3 M8 (fstF S.c i + (r : Int)) (zero3 w8)
        rw [hlook] at hlk
        refine ⟨_, _, rfl, 0, fun _ => hlk, Wif_no rfl ?_⟩
        obtain ⟨w9, hu, M9, k9⟩ := upd_new (mt := 49) (vt := 3) (kt := 3) Try.underlying49 Try.underlying3 M8 (fstF S.c i + (r : Int)) (.int .i64 1) (by omega) hlook
        refine ⟨w9, hu, want - (t + 1), by omega, t + 1, upd Lz i l', fs ++ [fstF S.c i + (r : Int)], by rw [wi (by have := sumTo_le (f := excs ak fl L) (b := 128) (k := S.k) (fun j hj => by have := hfsum j (by omega); have := hn8 j (by omega); unfold excs; split <;> omega); omega)]; rfl, by omega, rfl, ⟨own0 Z8.kp k9 fun x e => by omega, Z8.za.kx k9 fun x e h => by have := hbase x h; omega, Z8.ob.kx k9 (by omega), Z8.oa.kx k9 (by omega), by have := k9.sz; have := Z8.sz; omega⟩, ?_, ?_, ?_, ?_, ?_⟩
        · have : ones (fs ++ [fstF S.c i + (r : Int)]) = ones fs ++ [(fstF S.c i + (r : Int), Value.int .i64 1)] := by simp [ones]
          rw [this]; exact M9
        · intro j hj y hy
          rw [T8 j hj y hy]
          simp [List.mem_append]
        · intro f hf
          simp at hf
          rcases hf with h | rfl
          · exact I7 f h
          · exact ⟨i, r, hik, hrn, rfl⟩
        · have := zex (r := r) hik (by omega) hs (askOf hj hji hik); omega
        · have := zfs (Lz := Lz) hik hs; omega
    have htw : t = want := by simp at hc3; omega
    subst htw
    refine hkt.mono ?_
    rintro _ w8 ⟨v, rfl, hz⟩
    have hz' : v = .tuple #[.int .i64 0, .int .i64 6] ∧ w8 = w7 := by
      rcases hz with ⟨⟨i, hi, h⟩ | h, _⟩ | ⟨_, _, h, rfl, rfl⟩ | ⟨_, _, j, i, hj, hji, hik, hlt, hlow, a, l', rfl, k8, z8, r8⟩
      · have := hval i hi; omega
      · omega
      · exact ⟨rfl, rfl⟩
      · have h0 := sumTo_mem (f := excs ak fl Lz) (i := i) hik
        have e1 : excs ak fl Lz i = fsum (Lz i) - fl := by unfold excs; rw [if_pos (askOf hj hji hik)]
        omega
    obtain ⟨rfl, rfl⟩ := hz'
    refine ⟨_, _, rfl, Wif_no rfl ⟨S.c 0, Z7.ob.rI (by omega), ?_⟩⟩
    have hwasb := sumTo_le (f := frees L) (b := 128) (k := S.k) fun j hj => by have := hfsum j hj; have := hn8 j hj; show fsum (L j) ≤ _; omega
    have hwb := sumTo_le (f := excs ak fl L) (b := 128) (k := S.k) (fun j hj => by have := hfsum j (by omega); have := hn8 j (by omega); unfold excs; split <;> omega)
    have hfz : ∀ j, j < S.k → fsum (Lz j) ≤ 128 := fun j hj => by have := fsum_128 (Z7.za.iv j hj); omega
    refine ⟨fun now k w' N => ∃ p : Nat, k = p ∧ (p : Int) ≤ S.c 0 ∧ N = S.k - p ∧ w' = w8 ∧ now = (sumTo (frees Lz) p : Nat), ⟨S.k, 0, rfl, by omega, rfl, rfl, rfl⟩, ?_⟩
    rintro _ _ wx _ ⟨p, rfl, hp, rfl, rfl, rfl⟩
    have hb1 := sumTo_le (f := frees Lz) (b := 128) (k := p) fun j hj => hfz j (by omega)
    refine Wif_intro (fun hc4 => ?_) (fun hc4 => ?_)
    · simp only [decide_eq_true_eq] at hc4
      have hpk : p < S.k := by omega
      have := hfz p hpk
      refine (zfree_spec Z7.za p).mono ?_
      rintro _ _ ⟨rfl, rfl⟩
      rw [zfr_in hpk]
      have e1 : sumTo (frees Lz) (p + 1) = sumTo (frees Lz) p + fsum (Lz p) := rfl
      refine ⟨_, rfl, S.k - (p + 1), by omega, p + 1, by rw [wi (by omega)]; rfl, by omega, rfl, rfl, ?_⟩
      rw [wi (by omega)]; omega
    have hpk : p = S.k := by simp at hc4; omega
    subst hpk
    refine Wif_no ?_ ?_
    · rw [wi (by omega), bne_eq_false_iff_eq]; omega
    obtain ⟨w9, hrng, k9, I9⟩ := range_map (P := Try.prog) Try.underlying49 M7
    refine ⟨_, w9, hrng, ?_⟩
    have hs8 := M7.lt
    have hz8 := Z7.sz
    have hit := I9.lt.1
    generalize hr0 : wx.heap.size = r0 at *
    refine ⟨fun _ w' N => ∃ (Lz : Nat → List Bk) (R : List (Int × Value)), R.length = N ∧ ZA w1 w' z S base b0 base ak Lz ∧ IterAt w' r0 sb (ones fs) R ∧ (R.map (·.1)).Nodup ∧ TakenAre S Lz (fun f => ∃ v, (f, v) ∈ R) ∧ (∀ p ∈ R, InS S p.1),
      ⟨_, Lz, ones fs, rfl, Z7.k k9, I9, M7.nd, fun i hi y hy => by
        have hone : ∀ f, (∃ v, (f, v) ∈ ones fs) ↔ f ∈ fs := fun f => by
          constructor
          · rintro ⟨v, hv⟩
            obtain ⟨g, hg, e⟩ := List.mem_map.1 hv
            cases e; exact hg
          · intro h
            exact ⟨_, List.mem_map.2 ⟨f, h, rfl⟩⟩
        rw [T7 i hi y hy]
        dsimp only
        rw [hone], fun p hp => by obtain ⟨f, hf, rfl⟩ := List.mem_map.1 hp; exact I7 f hf⟩, ?_⟩
    rintro _ w10 _ ⟨Lz, R, rfl, Z10, I10, hnd, T10, P10⟩
    have hr0b : base < r0 := by have := Z7.oa.lt; omega
    rcases next_map (P := Try.prog) (ty := 0) I10 with ⟨rfl, hnx⟩ | ⟨⟨f, v⟩, R', w11, hperm, hnx, k11, I11, hent⟩
    · left
      refine ⟨w10, hnx, S.c 0, Z10.ob.rI (by omega), ?_⟩
      have hall : ∀ i, i < S.k → fsum (Lz i) = S.n i := fun i hi => by
        have := tile_sum _ _ _ (Z10.za.iv i hi).tl fun y hy => by
          rcases (Z10.za.iv i hi).g01 y hy with h | h
          · exact h
          · obtain ⟨_, _, v, hv⟩ := (T10 i hi y h).1 hy
            cases hv
        omega
      refine ⟨fun _ k w' N => ∃ p : Nat, k = p ∧ (p : Int) ≤ S.c 0 ∧ N = S.k - p ∧ ZA w1 w' z S base b0 base ak Lz, ⟨S.k, 0, rfl, by omega, rfl, Z10⟩, ?_⟩
      rintro _ _ w12 _ ⟨p, rfl, hp, rfl, Z12⟩
      refine Wif_intro (fun hc5 => ?_) (fun hc5 => ?_)
      · simp only [decide_eq_true_eq] at hc5
        have hpk : p < S.k := by omega
        intro w13 e13
        have Z13 := Z12.k ((Kept.refl _ _).dr e13)
        have hrd : rd w13 b0 (18 + Int.toNat (p : Int) * 1) = some (.int .i64 (S.c (18 + p))) := by rw [Int.toNat_natCast, Nat.mul_one]; exact Z13.ob.rI (by omega)
        refine Wif_yes (inB_of (by omega) (by omega)) ⟨_, hrd, (zfree_spec Z13.za p).mono ?_⟩
        rintro _ _ ⟨rfl, rfl⟩
        rw [zfr_in hpk, hall p hpk]
        have := (n_int h2 hpk).1
        refine ⟨_, rfl, ⟨hrd, trivial⟩, Wif_no ?_ ⟨S.k - (p + 1), by omega, p + 1, by rw [wi (by omega)]; rfl, by omega, rfl, Z13⟩⟩
        rw [bne_eq_false_iff_eq]; omega
      · exact hknown _ (k1.tr Z12.kp)
    · right
      have Z11 : ZA w1 w11 z S base b0 base ak Lz := ⟨own0 Z10.kp k11 fun x e => by omega, Z10.za.kx k11 fun x e h => by have := hbase x h; omega, Z10.ob.kx k11 (by omega), Z10.oa.kx k11 (by omega), by have := k11.sz; have := Z10.sz; omega⟩
      refine ⟨_, _, w11, hnx, f, v, hent, ?_⟩
      have hfR : (f, v) ∈ R := hperm.mem_iff.2 (by simp)
      obtain ⟨i, r, hi, hrn, hfe⟩ := P10 _ hfR
      dsimp only at hfe
      subst hfe
      have hfi := fst_128 Z11.za (i := i) (by omega)
      have hnn := n_int h2 hi
      refine (zgive_spec Z11.za (fstF S.c i + (r : Int)) 0 (by omega)).mono ?_
      have hkc' : ∀ {j : Nat}, j < S.k → (j : Int) < S.c 0 := fun h => by omega
      have e18 : fstF S.c (i + 1) = fstF S.c i + S.c (18 + i) := rfl
      rintro _ w12 (⟨i', e, l', hik, g1, g2, rfl, k12, z12, r12⟩ | ⟨hno, _⟩)
      rotate_left
      · have := fstF_mono hm (i := i + 1) (k := S.k) (by omega) (by omega)
        omega
      have hii : i' = i := node_one hm (hkc' hik) (hkc' hi) g1 g2 (by omega) (by omega)
      subst hii
      rw [show fstF S.c i' + (r : Int) - fstF S.c i' = (r : Int) by omega] at r12
      have hnd' : ((fstF S.c i' + (r : Int), v) :: R').map (·.1) |>.Nodup := (hperm.map _).nodup_iff.1 hnd
      simp only [List.map_cons, List.nodup_cons] at hnd'
      obtain ⟨rfl, T12⟩ := give_less Z11.za T10 hi hrn ⟨v, hfR⟩ (Q := fun f => ∃ v, (f, v) ∈ R') (fun f => by
        constructor
        · rintro ⟨u, hu⟩
          exact ⟨⟨u, hperm.mem_iff.2 (List.mem_cons_of_mem _ hu)⟩, fun e => hnd'.1 (List.mem_map.2 ⟨_, hu, e⟩)⟩
        · rintro ⟨⟨u, hu⟩, hne⟩
          rcases List.mem_cons.1 (hperm.mem_iff.1 hu) with h | h
          · cases h; exact absurd rfl hne
          · exact ⟨u, h⟩) r12
      refine ⟨_, rfl, Wif_no rfl ⟨R'.length, by rw [hperm.length_eq]; simp, upd Lz i' l', R', rfl, zstep Z11 hi k12 z12, I11.kx k12 (fun e => by have := hbl _ hi _ e; omega) (fun e => by have := hbl _ hi _ e; omega), hnd'.2, T12, fun p hp => P10 p (hperm.mem_iff.2 (List.mem_cons_of_mem _ hp))⟩⟩
  · rintro e w' ⟨v, rfl, rfl, hw⟩
    exact ⟨rfl, hw⟩
end Go.Proofs.Ytkmcmkimeibjdaa
