/-
  A part of a proof that a law of this seat returns true at every input. Conditions: those in each theorem.
-/
import Derived.Test.YtklmokolnakkoaaGreatDoorZC2
import Derived.Test.YtklmokolnakkoaaGreatDoorZV2
import Derived.Test.YtklmokolnakkoaaGreatDoorBL6
namespace Go.Proofs.YtklmokolnakkoaaGreatDoor
open Go Eng
set_option linter.unusedSimpArgs false
set_option linter.unusedVariables false
set_option maxRecDepth 100000
structure Zs where
  g : Nat
  cp : Nat
  c : Nat → Int
  k : Nat
  B : Nat → Nat
  T : Nat → Nat
  M : Nat → Nat → Nat
def Zs.n (S : Zs) (i : Nat) : Nat := (S.c (18 + i)).toNat
def Zs.bl (S : Zs) (i x : Nat) : Prop := bblk (S.B i) (S.M i) (S.T i) x
def Zs.all (S : Zs) (z x : Nat) : Prop := x = z ∨ x = S.g ∨ ∃ i, i < S.k ∧ S.bl i x
structure ZAt (w : World) (z : Nat) (S : Zs) (L : Nat → List Bk) : Prop where
  so : own w z (cfg S.c ++ [.slice (some ⟨S.g, 0, none⟩) S.k S.cp])
  sg : ∃ cs, own w S.g cs ∧ ∀ i, i < S.k → cs[i]? = some (ptr (S.B i))
  bt : ∀ i, i < S.k → BAt w (S.B i) (S.M i) (S.T i) (stOf (S.n i) (L i))
  iv : ∀ i, i < S.k → Inv (S.n i) (L i)
  ap : ∀ i j, i < S.k → j < S.k → i ≠ j → ∀ x, S.bl i x → ¬ S.bl j x
  zb : ∀ i, i < S.k → ∀ x, S.bl i x → x ≠ z ∧ x ≠ S.g
  kc : (S.k : Int) = S.c 0
  my : MayP S.c
section
variable {w w' : World} {z : Nat} {S : Zs} {L : Nat → List Bk}
theorem ZAt.kx {X : Nat → Prop} (h : ZAt w z S L) (k : Kept X w w') (hx : ∀ x, X x → ¬ S.all z x) : ZAt w' z S L := by
  obtain ⟨cs, h1, h2⟩ := h.sg
  exact ⟨h.so.kx k fun e => hx _ e (.inl rfl), ⟨cs, h1.kx k fun e => hx _ e (.inr (.inl rfl)), h2⟩, fun i hi => (h.bt i hi).kx k fun x e hb => hx _ e (.inr (.inr ⟨i, hi, hb⟩)), h.iv, h.ap, h.zb, h.kc, h.my⟩
theorem ZAt.k (h : ZAt w z S L) (k : Kept none' w w') : ZAt w' z S L := h.kx k fun _ e => e.elim
theorem ZAt.one (h : ZAt w z S L) {i : Nat} (hi : i < S.k) (k : Kept (bblk (S.B i) (S.M i) (S.T i)) w w') {l' : List Bk} (hb : BAt w' (S.B i) (S.M i) (S.T i) (stOf (S.n i) l')) (hv : Inv (S.n i) l') : ZAt w' z S (upd L i l') := by
  obtain ⟨cs, h1, h2⟩ := h.sg
  refine ⟨h.so.kx k fun e => (h.zb i hi _ e).1 rfl, ⟨cs, h1.kx k fun e => (h.zb i hi _ e).2 rfl, h2⟩, fun j hj => ?_, fun j hj => ?_, h.ap, h.zb, h.kc, h.my⟩
  · by_cases e : j = i
    · subst e; rw [upd_same]; exact hb
    · rw [upd_ne _ _ e]
      exact (h.bt j hj).kx k fun x e1 e2 => h.ap i j hi hj (Ne.symm e) x e1 e2
  · by_cases e : j = i
    · subst e; rw [upd_same]; exact hv
    · rw [upd_ne _ _ e]; exact h.iv j hj
theorem ZAt.k8 (h : ZAt w z S L) : 1 ≤ S.k ∧ S.k ≤ 8 := by have := h.my.1; have := h.kc; omega
theorem ZAt.r (h : ZAt w z S L) {j : Nat} (hj : j < 94) : rd w z j = some (.int .i64 (S.c j)) := by
  rw [h.so.rd, List.getElem?_append_left (by rw [runI_len]; exact hj), runI_get _ _ _ _ _ hj, Nat.zero_add]
theorem ZAt.r94 (h : ZAt w z S L) : rd w z 94 = some (.slice (some ⟨S.g, 0, none⟩) S.k S.cp) := by
  rw [h.so.rd, List.getElem?_append_right (by rw [runI_len]; omega), runI_len]; rfl
theorem ZAt.rc (h : ZAt w z S L) : rdAll w z 0 (cfg S.c) := h.so.run 0 fun j hj => by
  rw [Nat.zero_add, List.getElem?_append_left (by rw [runI_len]; exact hj), runI_get _ _ _ _ _ hj, Nat.zero_add]
theorem ZAt.rg (h : ZAt w z S L) {i : Nat} (hi : i < S.k) : rd w S.g (0 + Int.toNat (i : Int) * 1) = some (ptr (S.B i)) := by
  obtain ⟨cs, h1, h2⟩ := h.sg
  rw [Int.toNat_natCast, Nat.mul_one, Nat.zero_add, h1.rd, h2 i hi]
theorem ZAt.lt (h : ZAt w z S L) {x : Nat} (hx : S.all z x) : x < w.heap.size := by
  rcases hx with rfl | rfl | ⟨i, hi, hb⟩
  · exact h.so.lt
  · obtain ⟨cs, h1, _⟩ := h.sg; exact h1.lt
  · exact (h.bt i hi).lt hb
theorem ZAt.up (h : ZAt w z S L) (i : Nat) : ZAt w z S (upd L i (L i)) := by
  have : upd L i (L i) = L := by funext j; unfold upd; split <;> simp_all
  rw [this]; exact h
def zfr (S : Zs) (L : Nat → List Bk) (n : Int) : Nat := if 0 ≤ n ∧ n < (S.k : Int) then fsum (L n.toNat) else 0
theorem zfr_in {i : Nat} (hi : i < S.k) : zfr S L i = fsum (L i) := by unfold zfr; rw [if_pos (by omega), Int.toNat_natCast]
theorem isPz (b : Nat) : isP (some ⟨b, 0, none⟩) = true := rfl
theorem zfree_spec (h : ZAt w z S L) (n : Int) : Calls Tryz.prog 100 #[ptr z, .int .i64 n] w fun r w' => r = .returned (.int .i64 (zfr S L n : Nat)) ∧ w' = w := by
  refine (vc100 _ n w (fun v w' => v = .int .i64 (zfr S L n : Nat) ∧ w' = w) ?_).mono ?_
  · unfold vcP100
    simp only [isP_some, Wif_true, gIf_true, pb_some, po_some, Nat.zero_add, Option.isNone_some, Bool.not_false, Bool.true_and]
    refine ⟨_, _, _, fun _ => h.r94, ?_⟩
    simp only [Option.isNone_some, Bool.not_false, Bool.true_and]
    refine ⟨_, _, _, fun _ => h.r94, Wif_intro (fun hc => ?_) (fun hc => ?_)⟩
    · unfold zfr
      rw [if_neg (fun hh => ?_)]
      · exact ⟨rfl, trivial⟩
      · rw [decide_eq_true (show n ≥ 0 from hh.1), decide_eq_true hh.2] at hc; cases hc
    · simp at hc
      obtain ⟨i, rfl⟩ : ∃ i : Nat, n = (i : Int) := ⟨n.toNat, by omega⟩
      have hi : i < S.k := by omega
      refine ⟨_, _, _, h.r94, ?_⟩
      simp only [isP_some, Wif_true, pb_some, po_some]
      refine Wif_yes (inB_of (by omega) (by omega)) ⟨_, h.rg hi, (free_st (h.bt i hi) (h.iv i hi)).mono ?_⟩
      rintro _ w' ⟨rfl, rfl⟩
      exact ⟨_, rfl, by rw [zfr_in hi], rfl⟩
  · rintro e w' ⟨v, rfl, rfl, hw⟩
    exact ⟨rfl, hw⟩
theorem takeR_in {n : Nat} {l l' : List Bk} {order a : Int} {high : Bool} (hi : Inv n l) (h : TakeR l order high a 0 l') : 0 ≤ a ∧ a < n := by
  rcases h with ⟨_, _, h, _⟩ | ⟨_, _, _, _, _, h, _⟩ | ⟨o, x, r, a1, a2, a3, a4, a5, a6, a7, a8, a9, a10, a11⟩
  · cases h
  · cases h
  · have := tile_mem hi.tl a3
    have := p2 o
    have := p2 x.o
    cases high <;> simp at a8 <;> omega
theorem fsum_pos {l : List Bk} (h : 0 < fsum l) : ∃ x ∈ l, x.g = 0 := by
  induction l with
  | nil => simp [fsum] at h
  | cons x l ih =>
    by_cases g : x.g = 0
    · exact ⟨x, by simp, g⟩
    · rw [fsum_cons, if_neg g] at h
      obtain ⟨y, hy, gy⟩ := ih (by omega)
      exact ⟨y, List.mem_cons_of_mem _ hy, gy⟩
theorem takeR_ok {l l' : List Bk} {a e : Int} {high : Bool} (h : TakeR l 0 high a e l') (hp : 0 < fsum l) : e = 0 := by
  rcases h with ⟨h, _⟩ | ⟨o, h1, _, h2, _⟩ | ⟨o, x, r, a1, a2, a3, a4, a5, a6, a7, a8, a9, a10, a11⟩
  · omega
  · obtain ⟨x, hx, gx⟩ := fsum_pos hp
    have := h2 x hx gx
    omega
  · exact a9
theorem fst_128 (h : ZAt w z S L) {i : Nat} (hi : i ≤ S.k) : 0 ≤ fstF S.c i ∧ fstF S.c i ≤ 1024 := by
  have := h.my.fst (k := i) (by have := h.kc; omega)
  have := h.k8
  omega
theorem n_int (h : ZAt w z S L) {i : Nat} (hi : i < S.k) : (S.n i : Int) = S.c (18 + i) ∧ 4 ≤ S.n i ∧ S.n i ≤ 128 := by
  have := h.my.fr (i := i) (by have := h.kc; omega)
  unfold Zs.n
  omega
theorem ztakeOf_spec (h : ZAt w z S L) {i : Nat} (hi : i < S.k) (order : Int) (high : Bool) :
    Calls Tryz.prog 94 #[ptr z, .int .i64 (i : Int), .int .i64 order, .bool high] w fun r w' => ∃ a e l', r = .returned (.tuple #[.int .i64 (if e = 0 then fstF S.c i + a else 0), .int .i64 e]) ∧ Kept (S.bl i) w w' ∧ ZAt w' z S (upd L i l') ∧ TakeR (L i) order high a e l' := by
  refine (vc94 _ _ _ _ w (fun v w' => ∃ a e l', v = (.tuple #[.int .i64 (if e = 0 then fstF S.c i + a else 0), .int .i64 e]) ∧ Kept (S.bl i) w w' ∧ ZAt w' z S (upd L i l') ∧ TakeR (L i) order high a e l') ?_).mono ?_
  · unfold vcP94
    simp only [isP_some, Wif_true, gIf_true, pb_some, po_some, Nat.zero_add, Option.isNone_some, Bool.not_false, Bool.true_and]
    refine ⟨_, _, _, fun _ => h.r94, Wif_no rfl ⟨_, _, _, fun _ => h.r94, ?_⟩⟩
    simp only [Option.isNone_some, Bool.not_false, Bool.true_and]
    refine ⟨_, _, _, fun _ => h.r94, Wif_no ?_ ⟨_, _, _, h.r94, ?_⟩⟩
    · rw [decide_eq_true (show (i : Int) ≥ 0 by omega), decide_eq_true (show (i : Int) < (S.k : Int) by omega)]; rfl
    simp only [isP_some, Wif_true, pb_some, po_some]
    refine Wif_yes (inB_of (by omega) (by omega)) ⟨_, h.rg hi, (take_spec (h.bt i hi) (h.iv i hi) order high).mono ?_⟩
    rintro _ w1 ⟨a, e, l', rfl, k1, h1, i1, r1⟩
    have z1 := h.one hi k1 h1 i1
    refine ⟨_, _, rfl, Wif_intro (fun hc => ?_) (fun hc => ?_)⟩
    · have he : e ≠ 0 := by simpa using hc
      exact ⟨a, e, l', by rw [if_neg he], k1, z1, r1⟩
    · have he : e = 0 := by simpa using hc
      subst he
      refine ⟨_, z1.rc, (first_spec S.c h.my w1 i (by have := h.kc; omega)).mono ?_⟩
      rintro _ w2 ⟨rfl, k2⟩
      have hf := fst_128 h (i := i) (by omega)
      have ha := takeR_in (h.iv i hi) r1
      have hn := n_int h hi
      refine ⟨_, _, rfl, a, 0, l', ?_, k1.tr k2, z1.k k2, r1⟩
      rw [if_pos rfl, wi (by omega)]
  · rintro e w' ⟨v, rfl, a, e, l', rfl, hw⟩
    exact ⟨a, e, l', rfl, hw⟩
theorem zgive_spec (h : ZAt w z S L) (fr order : Int) (hfr : -9223372036854775808 ≤ fr ∧ fr ≤ 9223372036854775807) :
    Calls Tryz.prog 109 #[ptr z, .int .i64 fr, .int .i64 order] w fun r w' =>
      (∃ i e l', i < S.k ∧ fstF S.c i ≤ fr ∧ fr < fstF S.c (i + 1) ∧ r = .returned (.int .i64 e) ∧ Kept (S.bl i) w w' ∧ ZAt w' z S (upd L i l') ∧ GiveR (L i) (fr - fstF S.c i) order e l') ∨
      ((fr < 0 ∨ fstF S.c S.k ≤ fr) ∧ r = .returned (.int .i64 7) ∧ Kept none' w w') := by
  have hkc := h.kc
  refine (vc109 _ _ _ w (fun v w' => (∃ i e l', i < S.k ∧ fstF S.c i ≤ fr ∧ fr < fstF S.c (i + 1) ∧ v = (.int .i64 e) ∧ Kept (S.bl i) w w' ∧ ZAt w' z S (upd L i l') ∧ GiveR (L i) (fr - fstF S.c i) order e l') ∨
      ((fr < 0 ∨ fstF S.c S.k ≤ fr) ∧ v = (.int .i64 7) ∧ Kept none' w w')) ?_).mono ?_
  · unfold vcP109
    simp only [isP_some, Wif_true, gIf_true, pb_some, po_some, Nat.zero_add, Option.isNone_some, Bool.not_false, Bool.true_and]
    refine ⟨_, _, _, fun _ => h.r94, Wif_no rfl ⟨_, h.rc, (node_spec S.c h.my w fr hfr.2).mono ?_⟩⟩
    rintro _ w1 ⟨k1, ⟨i, hi, h1, h2, rfl⟩ | ⟨hno, rfl⟩⟩
    · have z1 := h.k k1
      have hik : i < S.k := by omega
      refine ⟨_, _, rfl, Wif_no rfl ⟨_, z1.rc, (first_spec S.c h.my w1 i hi).mono ?_⟩⟩
      rintro _ w2 ⟨rfl, k2⟩
      have z2 := z1.k k2
      refine ⟨_, _, rfl, _, _, _, z2.r94, ?_⟩
      simp only [isP_some, Wif_true, pb_some, po_some]
      have hf := fst_128 h (i := i) (by omega)
      have ew : IntKind.wrap .i64 (fr - fstF S.c i) = fr - fstF S.c i := wi (by omega)
      rw [ew]
      refine Wif_yes (inB_of (by omega) (by omega)) ⟨_, z2.rg hik, (give_spec (z2.bt i hik) (z2.iv i hik) _ order).mono ?_⟩
      rintro _ w3 ⟨e, l', rfl, k3, h3, i3, r3⟩
      exact ⟨_, rfl, .inl ⟨i, e, l', hik, h1, h2, rfl, ((k1.tr k2).mono fun _ _ h => h.elim).trans k3 (fun x _ hx => hx), z2.one hik k3 h3 i3, r3⟩⟩
    · refine ⟨_, _, rfl, Wif_yes rfl (.inr ⟨?_, rfl, k1⟩)⟩
      have : (S.c 0).toNat = S.k := by omega
      rw [this] at hno
      exact hno
  · rintro e w' ⟨v, rfl, hw⟩
    rcases hw with ⟨i, e, l', h1, h2, h3, rfl, hw⟩ | ⟨h1, rfl, h2⟩
    · exact .inl ⟨i, e, l', h1, h2, h3, rfl, hw⟩
    · exact .inr ⟨h1, rfl, h2⟩
end
end Go.Proofs.YtklmokolnakkoaaGreatDoor
namespace Go.Proofs.YtklmokolnakkoaaGreatDoor
open Go Eng
set_option linter.unusedSimpArgs false
set_option linter.unusedVariables false
set_option maxRecDepth 100000
theorem app_one {t e : TypeId} {z : Value} (ht : Tryz.prog.underlying t = some (.slice e)) (h : (Tryz.prog.info? e).map (fun i => (i.zero, i.size, i.bytes)) = some (some z, 1, 8)) (hz : z.cells.size = 1)
    {w : World} {base : Nat} {v : Value} {n : Nat} {xs : List Value} (ho : w.ownsRow base e 1 v n xs) {X m c off : Nat} {ys news : List Value} (hx : own w X ys) (hys : (ys.drop off).take m = news) (hl : news.length = m)
    (h1 : ∀ u ∈ news, u.oneCell' = true) (h63 : n + m ≤ 1000000) (hbase : base ≤ w.heap.size) :
    ∃ a l c' w', appIs Tryz.prog #[t, t] t v (.slice (some ⟨X, off, none⟩) m c) (.slice a l c') w w' ∧ l = n + m ∧ w'.ownsRow base e 1 (.slice a l c') (n + m) (xs ++ news) ∧ Kept (fun b => v.ownBlock = some b) w w' := by
  cases hi : Tryz.prog.info? e with
  | none => rw [hi] at h; cases h
  | some i =>
    rw [hi] at h
    simp at h
    exact app_own (P := Tryz.prog) (t := t) (ty := t) (e := e) (i := i) (z := z) (size := 1) ht hi h.1 h.2.1 hz (by decide) ho hx (by simpa using hys) (by simpa using hl) h1 h63 (by omega) hbase
theorem info_ptr : (Tryz.prog.info? 212).map (fun i => (i.zero, i.size, i.bytes)) = some (some (.pointer none), 1, 8) := by kernel_rfl
theorem info_int : (Tryz.prog.info? 3).map (fun i => (i.zero, i.size, i.bytes)) = some (some (.int .i64 0), 1, 8) := by kernel_rfl
theorem ptr_sep {w : World} {g x b t : Nat} {cs : List Value} {m : Nat → Nat} {s : Bst} (h : own w g cs) (hc : cs[0]? = some (ptr x)) (hb : BAt w b m t s) : ¬ bblk b m t g := by
  rintro (rfl | rfl | ⟨o, ho, rfl⟩)
  · have h1 := h.rd 0
    rw [hb.r0, hc] at h1
    cases h1
  · obtain ⟨ty, h⟩ := h
    obtain ⟨es, c, h1, _⟩ := hb.mt.ex
    rw [h] at h1; cases h1
  · obtain ⟨ty, h⟩ := h
    obtain ⟨es, c, h1, _⟩ := (hb.mf o ho).ex
    rw [h] at h1; cases h1
theorem run_sep {w : World} {g x b : Nat} {cs ds : List Value} {f : Nat → Int} (h : own w g cs) (hc : cs[0]? = some (ptr x)) (hb : own w b (cfg f ++ ds)) : g ≠ b := by
  rintro rfl
  have h1 := h.rd 0
  rw [hb.rd, hc, List.getElem?_append_left (by rw [runI_len]; omega), runI_get _ _ _ _ _ (by omega)] at h1
  cases h1
theorem zset {f : Nat → Int} {v v' : Value} : (cfg f ++ [v]).set 94 v' = cfg f ++ [v'] := by
  have hl : (cfg f).length = 94 := runI_len ..
  generalize cfg f = l at *
  rw [List.set_append, if_neg (by omega), hl]
  rfl
structure ZNew (w0 w : World) (z b0 base : Nat) (c : Nat → Int) (q : Nat) (a : Option Addr) (cp : Nat) (B T : Nat → Nat) (M : Nat → Nat → Nat) (L : Nat → List Bk) : Prop where
  kp : Kept none' w0 w
  ob : own w b0 (cfg c)
  so : own w z (cfg c ++ [.slice a q cp])
  row : w.ownsRow base 212 1 (.slice a q cp) q ((List.range q).map fun i => ptr (B i))
  bt : ∀ i, i < q → BAt w (B i) (M i) (T i) (stOf (c (18 + i)).toNat (L i))
  iv : ∀ i, i < q → Inv (c (18 + i)).toNat (L i)
  g0 : ∀ i, i < q → ∀ x ∈ L i, x.g = 0
  lo : ∀ i, i < q → ∀ x, bblk (B i) (M i) (T i) x → base ≤ x ∧ x ≠ z ∧ x ≠ b0
  ap : ∀ i j, i < q → j < q → i ≠ j → ∀ x, bblk (B i) (M i) (T i) x → ¬ bblk (B j) (M j) (T j) x
  sep : ∀ g, (Value.slice a q cp).ownBlock = some g → g ≠ z ∧ g ≠ b0 ∧ ∀ i, i < q → ¬ bblk (B i) (M i) (T i) g
theorem znew_spec (c : Nat → Int) (w : World) : Calls Tryz.prog 34 #[cfgV c] w fun r w' => Kept none' w w' ∧ ((¬ MayP c ∧ r = .returned (.tuple #[.pointer none, .int .i64 2])) ∨
    (MayP c ∧ ∃ z S L, r = .returned (.tuple #[ptr z, .int .i64 0]) ∧ ZAt w' z S L ∧ S.c = c ∧ (∀ i, i < S.k → ∀ x ∈ L i, x.g = 0) ∧ ∀ x, S.all z x → w.heap.size ≤ x)) := by
  refine (vc34 c w (fun v w' => Kept none' w w' ∧ ((¬ MayP c ∧ v = (.tuple #[.pointer none, .int .i64 2])) ∨
    (MayP c ∧ ∃ z S L, v = (.tuple #[ptr z, .int .i64 0]) ∧ ZAt w' z S L ∧ S.c = c ∧ (∀ i, i < S.k → ∀ x ∈ L i, x.g = 0) ∧ ∀ x, S.all z x → w.heap.size ≤ x))) ?_).mono ?_
  · unfold vcP34
    intro w1 e1
    have o1 := own_alloc e1
    have k1 : Kept none' w w1 := (Kept.refl _ _).al e1
    have z1 : w1.heap.size = w.heap.size + 1 := by rw [e1]; simp only [World.alloc, Array.size_push]
    generalize hb : w.heap.size = b0 at *
    refine ⟨c, o1.rIall, (may_spec c w1).mono ?_⟩
    rintro _ w2 ⟨mb, rfl, hmb, k2⟩
    have o2 := o1.k k2
    have K2 := k1.tr k2
    refine ⟨_, rfl, Wif_intro (fun hc => ?_) (fun hc => ?_)⟩
    · have : mb = false := by simpa using hc
      subst this
      exact ⟨K2, .inl ⟨by simpa using hmb, rfl⟩⟩
    have : mb = true := by simpa using hc
    subst this
    have hm : MayP c := hmb.1 rfl
    have h0 := hm.1
    refine ⟨c, o2.rIall, ?_⟩
    intro w3 e3
    have o3 := o2.al e3
    have p3 := own_alloc e3
    have K3 : Kept none' w w3 := K2.al e3
    have z2 := k2.sz
    have ob2 := o2.lt
    generalize hz : w2.heap.size = z at *
    have z3 : w3.heap.size = z + 1 := by rw [e3, ← hz]; simp only [World.alloc, Array.size_push]
    refine ⟨c 0, o3.rI (by omega), Wif_yes (okSl_of (by omega) (by omega) (by omega)) ?_⟩
    refine ⟨fun k w' N => ∃ (q : Nat) (a : Option Addr) (cp : Nat) (B T : Nat → Nat) (M : Nat → Nat → Nat) (L : Nat → List Bk), k = q ∧ (q : Int) ≤ c 0 ∧ N = (c 0).toNat - q ∧ ZNew w w' z b0 b0 c q a cp B T M L ∧ (q = 0 → a = none),
      ⟨(c 0).toNat, 0, none, 0, fun _ => 0, fun _ => 0, fun _ _ => 0, fun _ => [], rfl, by omega, rfl, ⟨K3, o3, p3, World.ownsRow_nil _ _ _ _, fun i hi => absurd hi (Nat.not_lt_zero _), fun i hi => absurd hi (Nat.not_lt_zero _), fun i hi => absurd hi (Nat.not_lt_zero _), fun i hi => absurd hi (Nat.not_lt_zero _), fun i j hi => absurd hi (Nat.not_lt_zero _), fun g hg => by simp [Value.ownBlock] at hg⟩, fun _ => rfl⟩, ?_⟩
    rintro _ w4 _ ⟨q, a, cp, B, T, M, L, rfl, hq, rfl, N4, ha⟩
    have hzb : z ≠ b0 := by omega
    refine Wif_intro (fun hc2 => ?_) (fun hc2 => ?_)
    · simp only [decide_eq_true_eq] at hc2
      refine Wif_yes (inB_of (by omega) (by omega)) ⟨c (18 + q), by rw [Int.toNat_natCast, Nat.mul_one]; exact N4.ob.rI (by omega), (new_spec w4 (c (18 + q))).mono ?_⟩
      have hfr := hm.fr (i := q) (by omega)
      rintro _ w5 (⟨h, _⟩ | ⟨Nn, b, m, t, l, hN, rfl, k5, h5, i5, g5, fr5⟩)
      · omega
      have eN : Nn = (c (18 + q)).toNat := by omega
      subst eN
      have so5 := N4.so.k k5
      refine ⟨_, _, rfl, a, q, cp, ?_, ?_⟩
      · rw [so5.rd, List.getElem?_append_right (by rw [runI_len]; omega), runI_len]; rfl
      intro w6 e6
      have k56 : Kept none' w5 w6 := (Kept.refl _ _).al e6
      have k46 := k5.tr k56
      have p6 := own_alloc (c := [ptr b]) e6
      have row6 := ownsRow_kx N4.row k46 (fun _ _ _ _ => id)
      have s46 := k46.sz
      have s04 := N4.kp.sz
      obtain ⟨a', l', c', w7, happ, rfl, row7, k7⟩ := app_one (t := 209) (e := 212) Tryz.underlying209 info_ptr rfl row6 p6 (m := 1) (off := 0) (c := 1) (news := [ptr b]) rfl rfl (fun u hu => by simp at hu; subst hu; rfl) (by omega) (by omega)
      refine ⟨a', q + 1, c', w7, happ, ?_⟩
      have so7 := (so5.k k56).kx k7 (fun e => (N4.sep _ e).1 rfl)
      have ob7 := (N4.ob.k k46).kx k7 (fun e => (N4.sep _ e).2.1 rfl)
      have bt7 : ∀ i, i < q → BAt w7 (B i) (M i) (T i) (stOf (c (18 + i)).toNat (L i)) := fun i hi => ((N4.bt i hi).k k46).kx k7 fun x e hx => (N4.sep x e).2.2 i hi hx
      have h7 : BAt w7 b m t (stOf (c (18 + q)).toNat l) := (h5.k k56).kx k7 fun x e hx => by
        -- the row's block is an old one
        have hf := fr5 x hx
        obtain ⟨_, hh⟩ := ownsRow_own N4.row
        rcases hh with ⟨rfl, _⟩ | ⟨g, cs, rfl, _, og, _⟩
        · simp [Value.ownBlock] at e
        · simp [Value.ownBlock] at e
          have := og.lt
          omega
      have hrow : (List.range q).map (fun i => ptr (B i)) ++ [ptr b] = (List.range (q + 1)).map fun i => ptr (upd B q b i) := by
        rw [List.range_succ, List.map_append]
        congr 1
        · apply List.map_congr_left
          intro i hi
          rw [upd_ne _ _ (by have := List.mem_range.1 hi; omega)]
        · simp
      rw [hrow] at row7
      obtain ⟨_, hh⟩ := ownsRow_own row7
      rcases hh with ⟨_, h00, _⟩ | ⟨g, cs, rfl, hgb, og, htk, _, _⟩
      · omega
      have hc0 : cs[0]? = some (ptr (upd B q b 0)) := by
        have : (cs.take ((q + 1) * 1))[0]? = some (ptr (upd B q b 0)) := by rw [htk]; simp
        rw [List.getElem?_take] at this
        split at this
        · exact this
        · cases this
      refine ⟨so7.wr (by simp [runI_len]), ?_⟩
      intro w8 e8
      have so8 := so7.s1 e8
      rw [zset] at so8
      have k78 : Kept (· = z) w7 w8 := (Kept.refl _ _).s1 e8 (.inl rfl)
      have ob8 := ob7.kx k78 (Ne.symm hzb)
      have hzl := N4.so.lt
      have hbl := N4.ob.lt
      have lo' : ∀ i, i < q + 1 → ∀ x, bblk (upd B q b i) (upd M q m i) (upd T q t i) x → b0 ≤ x ∧ x ≠ z ∧ x ≠ b0 := fun i hi x hx => by
        by_cases e : i = q
        · subst e
          simp only [upd_same] at hx
          have := fr5 x hx
          omega
        · simp only [upd_ne _ _ e] at hx
          exact N4.lo i (by omega) x hx
      refine ⟨(c 0).toNat - (q + 1), by omega, q + 1, some ⟨g, 0, none⟩, c', upd B q b, upd T q t, upd M q m, upd L q l, by rw [wi (by omega)]; rfl, by omega, rfl, ⟨?_, ob8, so8, ?_, fun i hi => ?_, fun i hi => ?_, fun i hi => ?_, lo', fun i j hi hj hij x hx hx' => ?_, fun g' hg' => ?_⟩, fun h => by omega⟩
      · refine (((N4.kp.tr k46).trans k7 fun x hx e => ?_).trans k78 fun x hx e => by omega)
        obtain ⟨_, hh⟩ := ownsRow_own N4.row
        rcases hh with ⟨rfl, _⟩ | ⟨g, cs, rfl, hgb, og, _⟩
        · simp [Value.ownBlock] at e
        · simp [Value.ownBlock] at e
          omega
      · exact ownsRow_kx row7 k78 fun x _ _ e hx => by
          simp [Value.ownBlock] at e
          subst e
          exact run_sep og hc0 so7 hx
      · by_cases e : i = q
        · subst e
          simp only [upd_same]
          exact h7.kx k78 fun x e hx => by have := fr5 x hx; omega
        · simp only [upd_ne _ _ e]
          exact (bt7 i (by omega)).kx k78 fun x e hx => (N4.lo i (by omega) x hx).2.1 e
      · by_cases e : i = q
        · subst e; simp only [upd_same]; exact i5
        · simp only [upd_ne _ _ e]; exact N4.iv i (by omega)
      · by_cases e : i = q
        · subst e; simp only [upd_same]; exact g5
        · simp only [upd_ne _ _ e]; exact N4.g0 i (by omega)
      · have hold : ∀ i, i < q → ∀ x, bblk (B i) (M i) (T i) x → x < w4.heap.size := fun i hi x hx => (N4.bt i hi).lt hx
        by_cases e : i = q
        · subst e
          simp only [upd_same, upd_ne _ _ (Ne.symm hij)] at hx hx'
          have := fr5 x hx
          have := hold j (by omega) x hx'
          omega
        · by_cases e' : j = q
          · subst e'
            simp only [upd_same, upd_ne _ _ e] at hx hx'
            have := fr5 x hx'
            have := hold i (by omega) x hx
            omega
          · simp only [upd_ne _ _ e, upd_ne _ _ e'] at hx hx'
            exact N4.ap i j (by omega) (by omega) hij x hx hx'
      · simp [Value.ownBlock] at hg'
        subst hg'
        refine ⟨run_sep og hc0 so7, run_sep (ds := []) og hc0 (by rw [List.append_nil]; exact ob7), fun i hi => ?_⟩
        by_cases e : i = q
        · subst e; simp only [upd_same]; exact ptr_sep og hc0 h7
        · simp only [upd_ne _ _ e]; exact ptr_sep og hc0 (bt7 i (by omega))
    · have hqk : (q : Int) = c 0 := by simp at hc2; omega
      obtain ⟨_, hh⟩ := ownsRow_own N4.row
      rcases hh with ⟨_, h00, _⟩ | ⟨g, cs, rfl, hgb, og, htk, _, _⟩
      · omega
      have hsep := N4.sep g (by simp [Value.ownBlock])
      refine ⟨N4.kp, .inr ⟨hm, z, ⟨g, cp, c, q, B, T, M⟩, L, rfl, ⟨N4.so, ⟨cs, og, fun i hi => ?_⟩, N4.bt, N4.iv, N4.ap, fun i hi x hx => ⟨(N4.lo i hi x hx).2.1, fun e => hsep.2.2 i hi (by rw [← (show x = g from e)]; exact hx)⟩, hqk, hm⟩, rfl, N4.g0, fun x hx => ?_⟩⟩
      · have : (cs.take (q * 1))[i]? = some (ptr (B i)) := by rw [htk]; simp [hi]
        rw [List.getElem?_take] at this
        split at this
        · exact this
        · cases this
      · rcases hx with rfl | rfl | ⟨i, hi, hx⟩
        · omega
        · exact hgb
        · exact (N4.lo i hi x hx).1
  · rintro e w' ⟨v, rfl, hk, hw⟩
    refine ⟨hk, ?_⟩
    rcases hw with ⟨h1, rfl⟩ | ⟨h1, z, S, L, rfl, hw⟩
    · exact .inl ⟨h1, rfl⟩
    · exact .inr ⟨h1, z, S, L, rfl, hw⟩
end Go.Proofs.YtklmokolnakkoaaGreatDoor
