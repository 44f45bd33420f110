/-
  A part of a proof that a law of this seat returns true at every input. Conditions: those in each theorem.
-/
import Derived.Test.YtkmcmkimeibjdaaZC3
import Derived.Test.YtkmcmkimeibjdaaZV2
import Derived.Test.YtkmcmkimeibjdaaBL8
namespace Go.Proofs.Ytkmcmkimeibjdaa
open Go Eng
set_option linter.unusedSimpArgs false
set_option linter.unusedVariables false
set_option maxRecDepth 100000
/-! ### zones at a world -/
structure Zs where
  g : Nat
  cp : Nat
  c : Nat → Int
  k : Nat
  B : Nat → Nat
  T : Nat → Nat
  M : Nat → Nat → Nat
def Zs.n (S : Zs) (i : Nat) : Nat := (S.c (18 + i)).toNat
def Zs.bl (S : Zs) (i x : Nat) : Prop := bblk (S.B i) (S.M i) (S.T i) x
def Zs.all (S : Zs) (z x : Nat) : Prop := x = z ∨ x = S.g ∨ ∃ i, i < S.k ∧ S.bl i x
structure ZAt (w : World) (z : Nat) (S : Zs) (L : Nat → List Bk) : Prop where
  so : own w z (cfg S.c ++ [.slice (some ⟨S.g, 0, none⟩) S.k S.cp])
  sg : ∃ cs, own w S.g cs ∧ ∀ i, i < S.k → cs[i]? = some (ptr (S.B i))
  bt : ∀ i, i < S.k → BAt w (S.B i) (S.M i) (S.T i) (stOf (S.n i) (L i))
  iv : ∀ i, i < S.k → Inv (S.n i) (L i)
  ap : ∀ i j, i < S.k → j < S.k → i ≠ j → ∀ x, S.bl i x → ¬ S.bl j x
  zb : ∀ i, i < S.k → ∀ x, S.bl i x → x ≠ z ∧ x ≠ S.g
  kc : (S.k : Int) = S.c 0
  my : MayP S.c
section
variable {w w' : World} {z : Nat} {S : Zs} {L : Nat → List Bk}
theorem ZAt.kx {X : Nat → Prop} (h : ZAt w z S L) (k : Kept X w w') (hx : ∀ x, X x → ¬ S.all z x) : ZAt w' z S L := by
  obtain ⟨cs, h1, h2⟩ := h.sg
  exact ⟨h.so.kx k fun e => hx _ e (.inl rfl), ⟨cs, h1.kx k fun e => hx _ e (.inr (.inl rfl)), h2⟩, fun i hi => (h.bt i hi).kx k fun x e hb => hx _ e (.inr (.inr ⟨i, hi, hb⟩)), h.iv, h.ap, h.zb, h.kc, h.my⟩
theorem ZAt.k (h : ZAt w z S L) (k : Kept none' w w') : ZAt w' z S L := h.kx k fun _ e => e.elim
theorem ZAt.one (h : ZAt w z S L) {i : Nat} (hi : i < S.k) (k : Kept (bblk (S.B i) (S.M i) (S.T i)) w w') {l' : List Bk} (hb : BAt w' (S.B i) (S.M i) (S.T i) (stOf (S.n i) l')) (hv : Inv (S.n i) l') : ZAt w' z S (upd L i l') := by
  obtain ⟨cs, h1, h2⟩ := h.sg
  refine ⟨h.so.kx k fun e => (h.zb i hi _ e).1 rfl, ⟨cs, h1.kx k fun e => (h.zb i hi _ e).2 rfl, h2⟩, fun j hj => ?_, fun j hj => ?_, h.ap, h.zb, h.kc, h.my⟩
  · by_cases e : j = i
    · subst e; rw [upd_same]; exact hb
    · rw [upd_ne _ _ e]
      exact (h.bt j hj).kx k fun x e1 e2 => h.ap i j hi hj (Ne.symm e) x e1 e2
  · by_cases e : j = i
    · subst e; rw [upd_same]; exact hv
    · rw [upd_ne _ _ e]; exact h.iv j hj
theorem ZAt.k8 (h : ZAt w z S L) : 1 ≤ S.k ∧ S.k ≤ 8 := by have := h.my.1; have := h.kc; omega
theorem ZAt.r (h : ZAt w z S L) {j : Nat} (hj : j < 94) : rd w z j = some (.int .i64 (S.c j)) := by
  rw [h.so.rd, List.getElem?_append_left (by rw [runI_len]; exact hj), runI_get _ _ _ _ _ hj, Nat.zero_add]
theorem ZAt.r94 (h : ZAt w z S L) : rd w z 94 = some (.slice (some ⟨S.g, 0, none⟩) S.k S.cp) := by
  rw [h.so.rd, List.getElem?_append_right (by rw [runI_len]; omega), runI_len]; rfl
theorem ZAt.rc (h : ZAt w z S L) : rdAll w z 0 (cfg S.c) := h.so.run 0 fun j hj => by
  rw [Nat.zero_add, List.getElem?_append_left (by rw [runI_len]; exact hj), runI_get _ _ _ _ _ hj, Nat.zero_add]
theorem ZAt.rg (h : ZAt w z S L) {i : Nat} (hi : i < S.k) : rd w S.g (0 + Int.toNat (i : Int) * 1) = some (ptr (S.B i)) := by
  obtain ⟨cs, h1, h2⟩ := h.sg
  rw [Int.toNat_natCast, Nat.mul_one, Nat.zero_add, h1.rd, h2 i hi]
theorem ZAt.lt (h : ZAt w z S L) {x : Nat} (hx : S.all z x) : x < w.heap.size := by
  rcases hx with rfl | rfl | ⟨i, hi, hb⟩
  · exact h.so.lt
  · obtain ⟨cs, h1, _⟩ := h.sg; exact h1.lt
  · exact (h.bt i hi).lt hb
theorem ZAt.up (h : ZAt w z S L) (i : Nat) : ZAt w z S (upd L i (L i)) := by
  have : upd L i (L i) = L := by funext j; unfold upd; split <;> simp_all
  rw [this]; exact h
/-- free frames of a node -/
def zfr (S : Zs) (L : Nat → List Bk) (n : Int) : Nat := if 0 ≤ n ∧ n < (S.k : Int) then fsum (L n.toNat) else 0
theorem zfr_in {i : Nat} (hi : i < S.k) : zfr S L i = fsum (L i) := by unfold zfr; rw [if_pos (by omega), Int.toNat_natCast]
theorem isPz (b : Nat) : isP (some ⟨b, 0, none⟩) = true := rfl
theorem zfree_spec (h : ZAt w z S L) (n : Int) : Calls Try.prog 23 #[ptr z, .int .i64 n] w fun r w' => r = .returned (.int .i64 (zfr S L n : Nat)) ∧ w' = w := by
  refine (vc23 _ n w (fun v w' => v = .int .i64 (zfr S L n : Nat) ∧ w' = w) ?_).mono ?_
  · unfold vcP23
    simp only [isP_some, Wif_true, gIf_true, pb_some, po_some, Nat.zero_add, Option.isNone_some, Bool.not_false, Bool.true_and]
    refine ⟨_, _, _, fun _ => h.r94, ?_⟩
    simp only [Option.isNone_some, Bool.not_false, Bool.true_and]
    refine ⟨_, _, _, fun _ => h.r94, Wif_intro (fun hc => ?_) (fun hc => ?_)⟩
    · unfold zfr
      rw [if_neg (fun hh => ?_)]
      · exact ⟨rfl, trivial⟩
      · rw [decide_eq_true (show n ≥ 0 from hh.1), decide_eq_true hh.2] at hc; cases hc
    · simp at hc
      obtain ⟨i, rfl⟩ : ∃ i : Nat, n = (i : Int) := ⟨n.toNat, by omega⟩
      have hi : i < S.k := by omega
      refine ⟨_, _, _, h.r94, ?_⟩
      simp only [isP_some, Wif_true, pb_some, po_some]
      refine Wif_yes (inB_of (by omega) (by omega)) ⟨_, h.rg hi, (free_st (h.bt i hi) (h.iv i hi)).mono ?_⟩
      rintro _ w' ⟨rfl, rfl⟩
      exact ⟨_, rfl, by rw [zfr_in hi], rfl⟩
  · rintro e w' ⟨v, rfl, rfl, hw⟩
    exact ⟨rfl, hw⟩
/-- how a node is off -/
def zst (S : Zs) (L : Nat → List Bk) (i : Nat) : Int :=
  if (fsum (L i) : Int) ≤ S.c 91 then 0 else if (fsum (L i) : Int) ≤ S.c 92 then 1 else if (fsum (L i) : Int) ≤ S.c 93 then 2 else 3
theorem zstate_spec (h : ZAt w z S L) {i : Nat} (hi : i < S.k) : Calls Try.prog 25 #[ptr z, .int .i64 (i : Int)] w fun r w' => r = .returned (.int .i64 (zst S L i)) ∧ w' = w := by
  refine (vc25 _ _ w (fun v w' => v = .int .i64 (zst S L i) ∧ w' = w) ?_).mono ?_
  · unfold vcP25
    refine (zfree_spec h i).mono ?_
    rintro _ _ ⟨rfl, rfl⟩
    refine ⟨_, rfl, ?_⟩
    rw [zfr_in hi]
    simp only [isP_some, Wif_true, gIf_true, pb_some, po_some, Nat.zero_add, Option.isNone_some, Bool.not_false, Bool.true_and]
    refine ⟨_, _, _, fun _ => h.r94, ?_⟩
    simp only [Option.isNone_some, Bool.not_false, Bool.true_and]
    refine ⟨_, _, _, fun _ => h.r94, S.c 91, fun _ => h.r (by omega), ?_⟩
    rw [decide_eq_true (show (i : Int) ≥ 0 by omega), decide_eq_true (show (i : Int) < (S.k : Int) by omega)]
    simp only [Bool.and_self, Bool.not_true, Bool.false_or]
    unfold zst
    refine Wif_intro (fun hc => ?_) (fun hc => ⟨S.c 92, h.r (by omega), Wif_intro (fun hc2 => ?_) (fun hc2 => ⟨S.c 93, h.r (by omega), Wif_intro (fun hc3 => ?_) (fun hc3 => ?_)⟩)⟩)
    all_goals simp only [decide_eq_true_eq, decide_eq_false_iff_not] at *
    · rw [if_pos hc]; exact ⟨rfl, trivial⟩
    · rw [if_neg hc, if_pos hc2]; exact ⟨rfl, trivial⟩
    · rw [if_neg hc, if_neg hc2, if_pos hc3]; exact ⟨rfl, trivial⟩
    · rw [if_neg hc, if_neg hc2, if_neg hc3]; exact ⟨rfl, trivial⟩
  · rintro e w' ⟨v, rfl, rfl, hw⟩
    exact ⟨rfl, hw⟩
theorem takeR_in {n : Nat} {l l' : List Bk} {order a : Int} {high : Bool} (hi : Inv n l) (h : TakeR l order high a 0 l') : 0 ≤ a ∧ a < n := by
  rcases h with ⟨_, _, h, _⟩ | ⟨_, _, _, _, _, h, _⟩ | ⟨o, x, r, a1, a2, a3, a4, a5, a6, a7, a8, a9, a10, a11⟩
  · cases h
  · cases h
  · have := tile_mem hi.tl a3
    have := p2 o
    have := p2 x.o
    cases high <;> simp at a8 <;> omega
theorem fsum_pos {l : List Bk} (h : 0 < fsum l) : ∃ x ∈ l, x.g = 0 := by
  induction l with
  | nil => simp [fsum] at h
  | cons x l ih =>
    by_cases g : x.g = 0
    · exact ⟨x, by simp, g⟩
    · rw [fsum_cons, if_neg g] at h
      obtain ⟨y, hy, gy⟩ := ih (by omega)
      exact ⟨y, List.mem_cons_of_mem _ hy, gy⟩
theorem takeR_ok {l l' : List Bk} {a e : Int} {high : Bool} (h : TakeR l 0 high a e l') (hp : 0 < fsum l) : e = 0 := by
  rcases h with ⟨h, _⟩ | ⟨o, h1, _, h2, _⟩ | ⟨o, x, r, a1, a2, a3, a4, a5, a6, a7, a8, a9, a10, a11⟩
  · omega
  · obtain ⟨x, hx, gx⟩ := fsum_pos hp
    have := h2 x hx gx
    omega
  · exact a9
theorem fst_128 (h : ZAt w z S L) {i : Nat} (hi : i ≤ S.k) : 0 ≤ fstF S.c i ∧ fstF S.c i ≤ 1024 := by
  have := h.my.fst (k := i) (by have := h.kc; omega)
  have := h.k8
  omega
theorem n_int (h : ZAt w z S L) {i : Nat} (hi : i < S.k) : (S.n i : Int) = S.c (18 + i) ∧ 4 ≤ S.n i ∧ S.n i ≤ 128 := by
  have := h.my.fr (i := i) (by have := h.kc; omega)
  unfold Zs.n
  omega
theorem ztakeOf_spec (h : ZAt w z S L) {i : Nat} (hi : i < S.k) (order : Int) (high : Bool) :
    Calls Try.prog 26 #[ptr z, .int .i64 (i : Int), .int .i64 order, .bool high] w fun r w' => ∃ a e l', r = .returned (.tuple #[.int .i64 (if e = 0 then fstF S.c i + a else 0), .int .i64 e]) ∧ Kept (S.bl i) w w' ∧ ZAt w' z S (upd L i l') ∧ TakeR (L i) order high a e l' := by
  refine (vc26 _ _ _ _ w (fun v w' => ∃ a e l', v = (.tuple #[.int .i64 (if e = 0 then fstF S.c i + a else 0), .int .i64 e]) ∧ Kept (S.bl i) w w' ∧ ZAt w' z S (upd L i l') ∧ TakeR (L i) order high a e l') ?_).mono ?_
  · unfold vcP26
    simp only [isP_some, Wif_true, gIf_true, pb_some, po_some, Nat.zero_add, Option.isNone_some, Bool.not_false, Bool.true_and]
    refine ⟨_, _, _, fun _ => h.r94, Wif_no rfl ⟨_, _, _, fun _ => h.r94, ?_⟩⟩
    simp only [Option.isNone_some, Bool.not_false, Bool.true_and]
    refine ⟨_, _, _, fun _ => h.r94, Wif_no ?_ ⟨_, _, _, h.r94, ?_⟩⟩
    · rw [decide_eq_true (show (i : Int) ≥ 0 by omega), decide_eq_true (show (i : Int) < (S.k : Int) by omega)]; rfl
    simp only [isP_some, Wif_true, pb_some, po_some]
    refine Wif_yes (inB_of (by omega) (by omega)) ⟨_, h.rg hi, (take_spec (h.bt i hi) (h.iv i hi) order high).mono ?_⟩
    rintro _ w1 ⟨a, e, l', rfl, k1, h1, i1, r1⟩
    have z1 := h.one hi k1 h1 i1
    refine ⟨_, _, rfl, Wif_intro (fun hc => ?_) (fun hc => ?_)⟩
    · have he : e ≠ 0 := by simpa using hc
      exact ⟨a, e, l', by rw [if_neg he], k1, z1, r1⟩
    · have he : e = 0 := by simpa using hc
      subst he
      refine ⟨_, z1.rc, (first_spec S.c h.my w1 i (by have := h.kc; omega)).mono ?_⟩
      rintro _ w2 ⟨rfl, k2⟩
      have hf := fst_128 h (i := i) (by omega)
      have ha := takeR_in (h.iv i hi) r1
      have hn := n_int h hi
      refine ⟨_, _, rfl, a, 0, l', ?_, k1.tr k2, z1.k k2, r1⟩
      rw [if_pos rfl, wi (by omega)]
  · rintro e w' ⟨v, rfl, a, e, l', rfl, hw⟩
    exact ⟨a, e, l', rfl, hw⟩
theorem zgive_spec (h : ZAt w z S L) (fr order : Int) (hfr : -9223372036854775808 ≤ fr ∧ fr ≤ 9223372036854775807) :
    Calls Try.prog 24 #[ptr z, .int .i64 fr, .int .i64 order] w fun r w' =>
      (∃ i e l', i < S.k ∧ fstF S.c i ≤ fr ∧ fr < fstF S.c (i + 1) ∧ r = .returned (.int .i64 e) ∧ Kept (S.bl i) w w' ∧ ZAt w' z S (upd L i l') ∧ GiveR (L i) (fr - fstF S.c i) order e l') ∨
      ((fr < 0 ∨ fstF S.c S.k ≤ fr) ∧ r = .returned (.int .i64 7) ∧ Kept none' w w') := by
  have hkc := h.kc
  refine (vc24 _ _ _ w (fun v w' => (∃ i e l', i < S.k ∧ fstF S.c i ≤ fr ∧ fr < fstF S.c (i + 1) ∧ v = (.int .i64 e) ∧ Kept (S.bl i) w w' ∧ ZAt w' z S (upd L i l') ∧ GiveR (L i) (fr - fstF S.c i) order e l') ∨
      ((fr < 0 ∨ fstF S.c S.k ≤ fr) ∧ v = (.int .i64 7) ∧ Kept none' w w')) ?_).mono ?_
  · unfold vcP24
    simp only [isP_some, Wif_true, gIf_true, pb_some, po_some, Nat.zero_add, Option.isNone_some, Bool.not_false, Bool.true_and]
    refine ⟨_, _, _, fun _ => h.r94, Wif_no rfl ⟨_, h.rc, (node_spec S.c h.my w fr hfr.2).mono ?_⟩⟩
    rintro _ w1 ⟨k1, ⟨i, hi, h1, h2, rfl⟩ | ⟨hno, rfl⟩⟩
    · have z1 := h.k k1
      have hik : i < S.k := by omega
      refine ⟨_, _, rfl, Wif_no rfl ⟨_, z1.rc, (first_spec S.c h.my w1 i hi).mono ?_⟩⟩
      rintro _ w2 ⟨rfl, k2⟩
      have z2 := z1.k k2
      refine ⟨_, _, rfl, _, _, _, z2.r94, ?_⟩
      simp only [isP_some, Wif_true, pb_some, po_some]
      have hf := fst_128 h (i := i) (by omega)
      have ew : IntKind.wrap .i64 (fr - fstF S.c i) = fr - fstF S.c i := wi (by omega)
      rw [ew]
      refine Wif_yes (inB_of (by omega) (by omega)) ⟨_, z2.rg hik, (give_spec (z2.bt i hik) (z2.iv i hik) _ order).mono ?_⟩
      rintro _ w3 ⟨e, l', rfl, k3, h3, i3, r3⟩
      exact ⟨_, rfl, .inl ⟨i, e, l', hik, h1, h2, rfl, ((k1.tr k2).mono fun _ _ h => h.elim).trans k3 (fun x _ hx => hx), z2.one hik k3 h3 i3, r3⟩⟩
    · refine ⟨_, _, rfl, Wif_yes rfl (.inr ⟨?_, rfl, k1⟩)⟩
      have : (S.c 0).toNat = S.k := by omega
      rw [this] at hno
      exact hno
  · rintro e w' ⟨v, rfl, hw⟩
    rcases hw with ⟨i, e, l', h1, h2, h3, rfl, hw⟩ | ⟨h1, rfl, h2⟩
    · exact .inl ⟨i, e, l', h1, h2, h3, rfl, hw⟩
    · exact .inr ⟨h1, rfl, h2⟩
end
end Go.Proofs.Ytkmcmkimeibjdaa
