/-
  A part of a proof that a law of this seat returns true at every input. Conditions: those in each theorem.
-/
import Derived.Test.YtklmokolnakkoaaGreatDoorZV1
import Derived.Test.YtklmokolnakkoaaGreatDoorZV2
import Derived.Test.YtklmokolnakkoaaGreatDoorBS2
import Derived.Test.YtklmokolnakkoaaGreatDoorX0
import Derived.Laws.CopyRow
import Derived.Laws.OwnMore
namespace Go.Proofs.YtklmokolnakkoaaGreatDoor
open Go Eng
set_option linter.unusedSimpArgs false
set_option linter.unusedVariables false
set_option maxRecDepth 100000
structure Zs where
  g : Nat
  cp : Nat
  c : Nat → Int
  k : Nat
  B : Nat → Nat
  T : Nat → Nat
  M : Nat → Nat → Nat
def Zs.n (S : Zs) (i : Nat) : Nat := (S.c (18 + i)).toNat
def Zs.bl (S : Zs) (i x : Nat) : Prop := bblk (S.B i) (S.M i) (S.T i) x
def Zs.all (S : Zs) (z x : Nat) : Prop := x = z ∨ x = S.g ∨ ∃ i, i < S.k ∧ S.bl i x
structure ZAt (w : World) (z : Nat) (S : Zs) (L : Nat → List Bk) : Prop where
  so : own w z (cfg S.c ++ [.slice (some ⟨S.g, 0, none⟩) S.k S.cp])
  sg : ∃ cs, own w S.g cs ∧ ∀ i, i < S.k → cs[i]? = some (ptr (S.B i))
  bt : ∀ i, i < S.k → BAt w (S.B i) (S.M i) (S.T i) (stOf (S.n i) (L i))
  iv : ∀ i, i < S.k → Inv (S.n i) (L i)
  ap : ∀ i j, i < S.k → j < S.k → i ≠ j → ∀ x, S.bl i x → ¬ S.bl j x
  zb : ∀ i, i < S.k → ∀ x, S.bl i x → x ≠ z ∧ x ≠ S.g
  kc : (S.k : Int) = S.c 0
  my : MayP S.c
section
variable {w w' : World} {z : Nat} {S : Zs} {L : Nat → List Bk}
theorem ZAt.kx {X : Nat → Prop} (h : ZAt w z S L) (k : Kept X w w') (hx : ∀ x, X x → ¬ S.all z x) : ZAt w' z S L := by
  obtain ⟨cs, h1, h2⟩ := h.sg
  exact ⟨h.so.kx k fun e => hx _ e (.inl rfl), ⟨cs, h1.kx k fun e => hx _ e (.inr (.inl rfl)), h2⟩, fun i hi => (h.bt i hi).kx k fun x e hb => hx _ e (.inr (.inr ⟨i, hi, hb⟩)), h.iv, h.ap, h.zb, h.kc, h.my⟩
theorem ZAt.k (h : ZAt w z S L) (k : Kept none' w w') : ZAt w' z S L := h.kx k fun _ e => e.elim
theorem ZAt.one (h : ZAt w z S L) {i : Nat} (hi : i < S.k) (k : Kept (bblk (S.B i) (S.M i) (S.T i)) w w') {l' : List Bk} (hb : BAt w' (S.B i) (S.M i) (S.T i) (stOf (S.n i) l')) (hv : Inv (S.n i) l') : ZAt w' z S (upd L i l') := by
  obtain ⟨cs, h1, h2⟩ := h.sg
  refine ⟨h.so.kx k fun e => (h.zb i hi _ e).1 rfl, ⟨cs, h1.kx k fun e => (h.zb i hi _ e).2 rfl, h2⟩, fun j hj => ?_, fun j hj => ?_, h.ap, h.zb, h.kc, h.my⟩
  · by_cases e : j = i
    · subst e; rw [upd_same]; exact hb
    · rw [upd_ne _ _ e]
      exact (h.bt j hj).kx k fun x e1 e2 => h.ap i j hi hj (Ne.symm e) x e1 e2
  · by_cases e : j = i
    · subst e; rw [upd_same]; exact hv
    · rw [upd_ne _ _ e]; exact h.iv j hj
theorem ZAt.k8 (h : ZAt w z S L) : 1 ≤ S.k ∧ S.k ≤ 8 := by have := h.my.1; have := h.kc; omega
theorem ZAt.r (h : ZAt w z S L) {j : Nat} (hj : j < 94) : rd w z j = some (.int .i64 (S.c j)) := by
  rw [h.so.rd, List.getElem?_append_left (by rw [runI_len]; exact hj), runI_get _ _ _ _ _ hj, Nat.zero_add]
theorem ZAt.r94 (h : ZAt w z S L) : rd w z 94 = some (.slice (some ⟨S.g, 0, none⟩) S.k S.cp) := by
  rw [h.so.rd, List.getElem?_append_right (by rw [runI_len]; omega), runI_len]; rfl
theorem ZAt.rc (h : ZAt w z S L) : rdAll w z 0 (cfg S.c) := h.so.run 0 fun j hj => by
  rw [Nat.zero_add, List.getElem?_append_left (by rw [runI_len]; exact hj), runI_get _ _ _ _ _ hj, Nat.zero_add]
theorem ZAt.rg (h : ZAt w z S L) {i : Nat} (hi : i < S.k) : rd w S.g (0 + Int.toNat (i : Int) * 1) = some (ptr (S.B i)) := by
  obtain ⟨cs, h1, h2⟩ := h.sg
  rw [Int.toNat_natCast, Nat.mul_one, Nat.zero_add, h1.rd, h2 i hi]
theorem ZAt.lt (h : ZAt w z S L) {x : Nat} (hx : S.all z x) : x < w.heap.size := by
  rcases hx with rfl | rfl | ⟨i, hi, hb⟩
  · exact h.so.lt
  · obtain ⟨cs, h1, _⟩ := h.sg; exact h1.lt
  · exact (h.bt i hi).lt hb
def zfr (S : Zs) (L : Nat → List Bk) (n : Int) : Nat := if 0 ≤ n ∧ n < (S.k : Int) then fsum (L n.toNat) else 0
theorem zfr_in {i : Nat} (hi : i < S.k) : zfr S L i = fsum (L i) := by unfold zfr; rw [if_pos (by omega), Int.toNat_natCast]
theorem zfree_spec (h : ZAt w z S L) (n : Int) : Calls Tryz.prog 100 #[ptr z, .int .i64 n] w fun r w' => r = .returned (.int .i64 (zfr S L n : Nat)) ∧ w' = w := by
  refine (vc100 _ n w (fun v w' => v = .int .i64 (zfr S L n : Nat) ∧ w' = w) ?_).mono ?_
  · unfold vcP100
    simp only [isP_some, Wif_true, gIf_true, pb_some, po_some, Nat.zero_add, Option.isNone_some, Bool.not_false, Bool.true_and]
    refine ⟨_, _, _, fun _ => h.r94, ?_⟩
    simp only [Option.isNone_some, Bool.not_false, Bool.true_and]
    refine ⟨_, _, _, fun _ => h.r94, Wif_intro (fun hc => ?_) (fun hc => ?_)⟩
    · unfold zfr
      rw [if_neg (fun hh => ?_)]
      · exact ⟨rfl, trivial⟩
      · rw [decide_eq_true (show n ≥ 0 from hh.1), decide_eq_true hh.2] at hc; cases hc
    · simp at hc
      obtain ⟨i, rfl⟩ : ∃ i : Nat, n = (i : Int) := ⟨n.toNat, by omega⟩
      have hi : i < S.k := by omega
      refine ⟨_, _, _, h.r94, ?_⟩
      simp only [isP_some, Wif_true, pb_some, po_some]
      refine Wif_yes (inB_of (by omega) (by omega)) ⟨_, h.rg hi, (free_st (h.bt i hi) (h.iv i hi)).mono ?_⟩
      rintro _ w' ⟨rfl, rfl⟩
      exact ⟨_, rfl, by rw [zfr_in hi], rfl⟩
  · rintro e w' ⟨v, rfl, rfl, hw⟩
    exact ⟨rfl, hw⟩
theorem takeR_in {n : Nat} {l l' : List Bk} {order a : Int} {high : Bool} (hi : Inv n l) (h : TakeR l order high a 0 l') : 0 ≤ a ∧ a < n := by
  rcases h with ⟨_, _, h, _⟩ | ⟨_, _, _, _, _, h, _⟩ | ⟨o, x, r, a1, a2, a3, a4, a5, a6, a7, a8, a9, a10, a11⟩
  · cases h
  · cases h
  · have := tile_mem hi.tl a3
    have := p2 o
    have := p2 x.o
    cases high <;> simp at a8 <;> omega
theorem fsum_pos {l : List Bk} (h : 0 < fsum l) : ∃ x ∈ l, x.g = 0 := by
  induction l with
  | nil => simp [fsum] at h
  | cons x l ih =>
    by_cases g : x.g = 0
    · exact ⟨x, by simp, g⟩
    · rw [fsum_cons, if_neg g] at h
      obtain ⟨y, hy, gy⟩ := ih (by omega)
      exact ⟨y, List.mem_cons_of_mem _ hy, gy⟩
theorem takeR_ok {l l' : List Bk} {a e : Int} {high : Bool} (h : TakeR l 0 high a e l') (hp : 0 < fsum l) : e = 0 := by
  rcases h with ⟨h, _⟩ | ⟨o, h1, _, h2, _⟩ | ⟨o, x, r, a1, a2, a3, a4, a5, a6, a7, a8, a9, a10, a11⟩
  · omega
  · obtain ⟨x, hx, gx⟩ := fsum_pos hp
    have := h2 x hx gx
    omega
  · exact a9
theorem fst_128 (h : ZAt w z S L) {i : Nat} (hi : i ≤ S.k) : 0 ≤ fstF S.c i ∧ fstF S.c i ≤ 1024 := by
  have := h.my.fst (k := i) (by have := h.kc; omega)
  have := h.k8
  omega
theorem n_int (h : ZAt w z S L) {i : Nat} (hi : i < S.k) : (S.n i : Int) = S.c (18 + i) ∧ 4 ≤ S.n i ∧ S.n i ≤ 128 := by
  have := h.my.fr (i := i) (by have := h.kc; omega)
  unfold Zs.n
  omega
theorem ztakeOf_spec (h : ZAt w z S L) {i : Nat} (hi : i < S.k) (order : Int) (high : Bool) :
    Calls Tryz.prog 94 #[ptr z, .int .i64 (i : Int), .int .i64 order, .bool high] w fun r w' => ∃ a e l', r = .returned (.tuple #[.int .i64 (if e = 0 then fstF S.c i + a else 0), .int .i64 e]) ∧ Kept (S.bl i) w w' ∧ ZAt w' z S (upd L i l') ∧ TakeR (L i) order high a e l' := by
  refine (vc94 _ _ _ _ w (fun v w' => ∃ a e l', v = (.tuple #[.int .i64 (if e = 0 then fstF S.c i + a else 0), .int .i64 e]) ∧ Kept (S.bl i) w w' ∧ ZAt w' z S (upd L i l') ∧ TakeR (L i) order high a e l') ?_).mono ?_
  · unfold vcP94
    simp only [isP_some, Wif_true, gIf_true, pb_some, po_some, Nat.zero_add, Option.isNone_some, Bool.not_false, Bool.true_and]
    refine ⟨_, _, _, fun _ => h.r94, Wif_no rfl ⟨_, _, _, fun _ => h.r94, ?_⟩⟩
    simp only [Option.isNone_some, Bool.not_false, Bool.true_and]
    refine ⟨_, _, _, fun _ => h.r94, Wif_no ?_ ⟨_, _, _, h.r94, ?_⟩⟩
    · rw [decide_eq_true (show (i : Int) ≥ 0 by omega), decide_eq_true (show (i : Int) < (S.k : Int) by omega)]; rfl
    simp only [isP_some, Wif_true, pb_some, po_some]
    refine Wif_yes (inB_of (by omega) (by omega)) ⟨_, h.rg hi, (take_spec (h.bt i hi) (h.iv i hi) order high).mono ?_⟩
    rintro _ w1 ⟨a, e, l', rfl, k1, h1, i1, r1⟩
    have z1 := h.one hi k1 h1 i1
    refine ⟨_, _, rfl, Wif_intro (fun hc => ?_) (fun hc => ?_)⟩
    · have he : e ≠ 0 := by simpa using hc
      exact ⟨a, e, l', by rw [if_neg he], k1, z1, r1⟩
    · have he : e = 0 := by simpa using hc
      subst he
      refine ⟨_, z1.rc, (first_spec S.c h.my w1 i (by have := h.kc; omega)).mono ?_⟩
      rintro _ w2 ⟨rfl, k2⟩
      have hf := fst_128 h (i := i) (by omega)
      have ha := takeR_in (h.iv i hi) r1
      have hn := n_int h hi
      refine ⟨_, _, rfl, a, 0, l', ?_, k1.tr k2, z1.k k2, r1⟩
      rw [if_pos rfl, wi (by omega)]
  · rintro e w' ⟨v, rfl, a, e, l', rfl, hw⟩
    exact ⟨a, e, l', rfl, hw⟩
theorem zgive_spec (h : ZAt w z S L) (fr order : Int) (hfr : -9223372036854775808 ≤ fr ∧ fr ≤ 9223372036854775807) :
    Calls Tryz.prog 109 #[ptr z, .int .i64 fr, .int .i64 order] w fun r w' =>
      (∃ i e l', i < S.k ∧ fstF S.c i ≤ fr ∧ fr < fstF S.c (i + 1) ∧ r = .returned (.int .i64 e) ∧ Kept (S.bl i) w w' ∧ ZAt w' z S (upd L i l') ∧ GiveR (L i) (fr - fstF S.c i) order e l') ∨
      ((fr < 0 ∨ fstF S.c S.k ≤ fr) ∧ r = .returned (.int .i64 7) ∧ Kept none' w w') := by
  have hkc := h.kc
  refine (vc109 _ _ _ w (fun v w' => (∃ i e l', i < S.k ∧ fstF S.c i ≤ fr ∧ fr < fstF S.c (i + 1) ∧ v = (.int .i64 e) ∧ Kept (S.bl i) w w' ∧ ZAt w' z S (upd L i l') ∧ GiveR (L i) (fr - fstF S.c i) order e l') ∨
      ((fr < 0 ∨ fstF S.c S.k ≤ fr) ∧ v = (.int .i64 7) ∧ Kept none' w w')) ?_).mono ?_
  · unfold vcP109
    simp only [isP_some, Wif_true, gIf_true, pb_some, po_some, Nat.zero_add, Option.isNone_some, Bool.not_false, Bool.true_and]
    refine ⟨_, _, _, fun _ => h.r94, Wif_no rfl ⟨_, h.rc, (node_spec S.c h.my w fr hfr.2).mono ?_⟩⟩
    rintro _ w1 ⟨k1, ⟨i, hi, h1, h2, rfl⟩ | ⟨hno, rfl⟩⟩
    · have z1 := h.k k1
      have hik : i < S.k := by omega
      refine ⟨_, _, rfl, Wif_no rfl ⟨_, z1.rc, (first_spec S.c h.my w1 i hi).mono ?_⟩⟩
      rintro _ w2 ⟨rfl, k2⟩
      have z2 := z1.k k2
      refine ⟨_, _, rfl, _, _, _, z2.r94, ?_⟩
      simp only [isP_some, Wif_true, pb_some, po_some]
      have hf := fst_128 h (i := i) (by omega)
      have ew : IntKind.wrap .i64 (fr - fstF S.c i) = fr - fstF S.c i := wi (by omega)
      rw [ew]
      refine Wif_yes (inB_of (by omega) (by omega)) ⟨_, z2.rg hik, (give_spec (z2.bt i hik) (z2.iv i hik) _ order).mono ?_⟩
      rintro _ w3 ⟨e, l', rfl, k3, h3, i3, r3⟩
      exact ⟨_, rfl, .inl ⟨i, e, l', hik, h1, h2, rfl, ((k1.tr k2).mono fun _ _ h => h.elim).trans k3 (fun x _ hx => hx), z2.one hik k3 h3 i3, r3⟩⟩
    · refine ⟨_, _, rfl, Wif_yes rfl (.inr ⟨?_, rfl, k1⟩)⟩
      have : (S.c 0).toNat = S.k := by omega
      rw [this] at hno
      exact hno
  · rintro e w' ⟨v, rfl, hw⟩
    rcases hw with ⟨i, e, l', h1, h2, h3, rfl, hw⟩ | ⟨h1, rfl, h2⟩
    · exact .inl ⟨i, e, l', h1, h2, h3, rfl, hw⟩
    · exact .inr ⟨h1, rfl, h2⟩
end
set_option linter.unusedSimpArgs false
set_option linter.unusedVariables false
set_option maxRecDepth 100000
theorem app_one {t e : TypeId} {z : Value} (ht : Tryz.prog.underlying t = some (.slice e)) (h : (Tryz.prog.info? e).map (fun i => (i.zero, i.size, i.bytes)) = some (some z, 1, 8)) (hz : z.cells.size = 1)
    {w : World} {base : Nat} {v : Value} {n : Nat} {xs : List Value} (ho : w.ownsRow base e 1 v n xs) {X m c off : Nat} {ys news : List Value} (hx : own w X ys) (hys : (ys.drop off).take m = news) (hl : news.length = m)
    (h1 : ∀ u ∈ news, u.oneCell' = true) (h63 : n + m ≤ 1000000) (hbase : base ≤ w.heap.size) :
    ∃ a l c' w', appIs Tryz.prog #[t, t] t v (.slice (some ⟨X, off, none⟩) m c) (.slice a l c') w w' ∧ l = n + m ∧ w'.ownsRow base e 1 (.slice a l c') (n + m) (xs ++ news) ∧ Kept (fun b => v.ownBlock = some b) w w' := by
  cases hi : Tryz.prog.info? e with
  | none => rw [hi] at h; cases h
  | some i =>
    rw [hi] at h
    simp at h
    exact app_own (P := Tryz.prog) (t := t) (ty := t) (e := e) (i := i) (z := z) (size := 1) ht hi h.1 h.2.1 hz (by decide) ho hx (by simpa using hys) (by simpa using hl) h1 h63 (by omega) hbase
theorem info_ptr : (Tryz.prog.info? 212).map (fun i => (i.zero, i.size, i.bytes)) = some (some (.pointer none), 1, 8) := by kernel_rfl
theorem info_int : (Tryz.prog.info? 3).map (fun i => (i.zero, i.size, i.bytes)) = some (some (.int .i64 0), 1, 8) := by kernel_rfl
theorem ptr_sep {w : World} {g x b t : Nat} {cs : List Value} {m : Nat → Nat} {s : Bst} (h : own w g cs) (hc : cs[0]? = some (ptr x)) (hb : BAt w b m t s) : ¬ bblk b m t g := by
  rintro (rfl | rfl | ⟨o, ho, rfl⟩)
  · have h1 := h.rd 0
    rw [hb.r0, hc] at h1
    cases h1
  · obtain ⟨ty, h⟩ := h
    obtain ⟨es, c, h1, _⟩ := hb.mt.ex
    rw [h] at h1; cases h1
  · obtain ⟨ty, h⟩ := h
    obtain ⟨es, c, h1, _⟩ := (hb.mf o ho).ex
    rw [h] at h1; cases h1
theorem run_sep {w : World} {g x b : Nat} {cs ds : List Value} {f : Nat → Int} (h : own w g cs) (hc : cs[0]? = some (ptr x)) (hb : own w b (cfg f ++ ds)) : g ≠ b := by
  rintro rfl
  have h1 := h.rd 0
  rw [hb.rd, hc, List.getElem?_append_left (by rw [runI_len]; omega), runI_get _ _ _ _ _ (by omega)] at h1
  cases h1
theorem zset {f : Nat → Int} {v v' : Value} : (cfg f ++ [v]).set 94 v' = cfg f ++ [v'] := by
  have hl : (cfg f).length = 94 := runI_len ..
  generalize cfg f = l at *
  rw [List.set_append, if_neg (by omega), hl]
  rfl
structure ZNew (w0 w : World) (z b0 base : Nat) (c : Nat → Int) (q : Nat) (a : Option Addr) (cp : Nat) (B T : Nat → Nat) (M : Nat → Nat → Nat) (L : Nat → List Bk) : Prop where
  kp : Kept none' w0 w
  ob : own w b0 (cfg c)
  so : own w z (cfg c ++ [.slice a q cp])
  row : w.ownsRow base 212 1 (.slice a q cp) q ((List.range q).map fun i => ptr (B i))
  bt : ∀ i, i < q → BAt w (B i) (M i) (T i) (stOf (c (18 + i)).toNat (L i))
  iv : ∀ i, i < q → Inv (c (18 + i)).toNat (L i)
  g0 : ∀ i, i < q → ∀ x ∈ L i, x.g = 0
  lo : ∀ i, i < q → ∀ x, bblk (B i) (M i) (T i) x → base ≤ x ∧ x ≠ z ∧ x ≠ b0
  ap : ∀ i j, i < q → j < q → i ≠ j → ∀ x, bblk (B i) (M i) (T i) x → ¬ bblk (B j) (M j) (T j) x
  sep : ∀ g, (Value.slice a q cp).ownBlock = some g → g ≠ z ∧ g ≠ b0 ∧ ∀ i, i < q → ¬ bblk (B i) (M i) (T i) g
theorem znew_spec (c : Nat → Int) (w : World) : Calls Tryz.prog 34 #[cfgV c] w fun r w' => Kept none' w w' ∧ ((¬ MayP c ∧ r = .returned (.tuple #[.pointer none, .int .i64 2])) ∨
    (MayP c ∧ ∃ z S L, r = .returned (.tuple #[ptr z, .int .i64 0]) ∧ ZAt w' z S L ∧ S.c = c ∧ (∀ i, i < S.k → ∀ x ∈ L i, x.g = 0) ∧ ∀ x, S.all z x → w.heap.size ≤ x)) := by
  refine (vc34 c w (fun v w' => Kept none' w w' ∧ ((¬ MayP c ∧ v = (.tuple #[.pointer none, .int .i64 2])) ∨
    (MayP c ∧ ∃ z S L, v = (.tuple #[ptr z, .int .i64 0]) ∧ ZAt w' z S L ∧ S.c = c ∧ (∀ i, i < S.k → ∀ x ∈ L i, x.g = 0) ∧ ∀ x, S.all z x → w.heap.size ≤ x))) ?_).mono ?_
  · unfold vcP34
    intro w1 e1
    have o1 := own_alloc e1
    have k1 : Kept none' w w1 := (Kept.refl _ _).al e1
    have z1 : w1.heap.size = w.heap.size + 1 := by rw [e1]; simp only [World.alloc, Array.size_push]
    generalize hb : w.heap.size = b0 at *
    refine ⟨c, o1.rIall, (may_spec c w1).mono ?_⟩
    rintro _ w2 ⟨mb, rfl, hmb, k2⟩
    have o2 := o1.k k2
    have K2 := k1.tr k2
    refine ⟨_, rfl, Wif_intro (fun hc => ?_) (fun hc => ?_)⟩
    · have : mb = false := by simpa using hc
      subst this
      exact ⟨K2, .inl ⟨by simpa using hmb, rfl⟩⟩
    have : mb = true := by simpa using hc
    subst this
    have hm : MayP c := hmb.1 rfl
    have h0 := hm.1
    refine ⟨c, o2.rIall, ?_⟩
    intro w3 e3
    have o3 := o2.al e3
    have p3 := own_alloc e3
    have K3 : Kept none' w w3 := K2.al e3
    have z2 := k2.sz
    have ob2 := o2.lt
    generalize hz : w2.heap.size = z at *
    have z3 : w3.heap.size = z + 1 := by rw [e3, ← hz]; simp only [World.alloc, Array.size_push]
    refine ⟨c 0, o3.rI (by omega), Wif_yes (okSl_of (by omega) (by omega) (by omega)) ?_⟩
    refine ⟨fun k w' N => ∃ (q : Nat) (a : Option Addr) (cp : Nat) (B T : Nat → Nat) (M : Nat → Nat → Nat) (L : Nat → List Bk), k = q ∧ (q : Int) ≤ c 0 ∧ N = (c 0).toNat - q ∧ ZNew w w' z b0 b0 c q a cp B T M L ∧ (q = 0 → a = none),
      ⟨(c 0).toNat, 0, none, 0, fun _ => 0, fun _ => 0, fun _ _ => 0, fun _ => [], rfl, by omega, rfl, ⟨K3, o3, p3, World.ownsRow_nil _ _ _ _, fun i hi => absurd hi (Nat.not_lt_zero _), fun i hi => absurd hi (Nat.not_lt_zero _), fun i hi => absurd hi (Nat.not_lt_zero _), fun i hi => absurd hi (Nat.not_lt_zero _), fun i j hi => absurd hi (Nat.not_lt_zero _), fun g hg => by simp [Value.ownBlock] at hg⟩, fun _ => rfl⟩, ?_⟩
    rintro _ w4 _ ⟨q, a, cp, B, T, M, L, rfl, hq, rfl, N4, ha⟩
    have hzb : z ≠ b0 := by omega
    refine Wif_intro (fun hc2 => ?_) (fun hc2 => ?_)
    · simp only [decide_eq_true_eq] at hc2
      refine Wif_yes (inB_of (by omega) (by omega)) ⟨c (18 + q), by rw [Int.toNat_natCast, Nat.mul_one]; exact N4.ob.rI (by omega), (new_spec w4 (c (18 + q))).mono ?_⟩
      have hfr := hm.fr (i := q) (by omega)
      rintro _ w5 (⟨h, _⟩ | ⟨Nn, b, m, t, l, hN, rfl, k5, h5, i5, g5, fr5⟩)
      · omega
      have eN : Nn = (c (18 + q)).toNat := by omega
      subst eN
      have so5 := N4.so.k k5
      refine ⟨_, _, rfl, a, q, cp, ?_, ?_⟩
      · rw [so5.rd, List.getElem?_append_right (by rw [runI_len]; omega), runI_len]; rfl
      intro w6 e6
      have k56 : Kept none' w5 w6 := (Kept.refl _ _).al e6
      have k46 := k5.tr k56
      have p6 := own_alloc (c := [ptr b]) e6
      have row6 := ownsRow_kx N4.row k46 (fun _ _ _ _ => id)
      have s46 := k46.sz
      have s04 := N4.kp.sz
      obtain ⟨a', l', c', w7, happ, rfl, row7, k7⟩ := app_one (t := 209) (e := 212) Tryz.underlying209 info_ptr rfl row6 p6 (m := 1) (off := 0) (c := 1) (news := [ptr b]) rfl rfl (fun u hu => by simp at hu; subst hu; rfl) (by omega) (by omega)
      refine ⟨a', q + 1, c', w7, happ, ?_⟩
      have so7 := (so5.k k56).kx k7 (fun e => (N4.sep _ e).1 rfl)
      have ob7 := (N4.ob.k k46).kx k7 (fun e => (N4.sep _ e).2.1 rfl)
      have bt7 : ∀ i, i < q → BAt w7 (B i) (M i) (T i) (stOf (c (18 + i)).toNat (L i)) := fun i hi => ((N4.bt i hi).k k46).kx k7 fun x e hx => (N4.sep x e).2.2 i hi hx
      have h7 : BAt w7 b m t (stOf (c (18 + q)).toNat l) := (h5.k k56).kx k7 fun x e hx => by
        -- the row's block is an old one
        have hf := fr5 x hx
        obtain ⟨_, hh⟩ := ownsRow_own N4.row
        rcases hh with ⟨rfl, _⟩ | ⟨g, cs, rfl, _, og, _⟩
        · simp [Value.ownBlock] at e
        · simp [Value.ownBlock] at e
          have := og.lt
          omega
      have hrow : (List.range q).map (fun i => ptr (B i)) ++ [ptr b] = (List.range (q + 1)).map fun i => ptr (upd B q b i) := by
        rw [List.range_succ, List.map_append]
        congr 1
        · apply List.map_congr_left
          intro i hi
          rw [upd_ne _ _ (by have := List.mem_range.1 hi; omega)]
        · simp
      rw [hrow] at row7
      obtain ⟨_, hh⟩ := ownsRow_own row7
      rcases hh with ⟨_, h00, _⟩ | ⟨g, cs, rfl, hgb, og, htk, _, _⟩
      · omega
      have hc0 : cs[0]? = some (ptr (upd B q b 0)) := by
        have : (cs.take ((q + 1) * 1))[0]? = some (ptr (upd B q b 0)) := by rw [htk]; simp
        rw [List.getElem?_take] at this
        split at this
        · exact this
        · cases this
      refine ⟨so7.wr (by simp [runI_len]), ?_⟩
      intro w8 e8
      have so8 := so7.s1 e8
      rw [zset] at so8
      have k78 : Kept (· = z) w7 w8 := (Kept.refl _ _).s1 e8 (.inl rfl)
      have ob8 := ob7.kx k78 (Ne.symm hzb)
      have hzl := N4.so.lt
      have hbl := N4.ob.lt
      have lo' : ∀ i, i < q + 1 → ∀ x, bblk (upd B q b i) (upd M q m i) (upd T q t i) x → b0 ≤ x ∧ x ≠ z ∧ x ≠ b0 := fun i hi x hx => by
        by_cases e : i = q
        · subst e
          simp only [upd_same] at hx
          have := fr5 x hx
          omega
        · simp only [upd_ne _ _ e] at hx
          exact N4.lo i (by omega) x hx
      refine ⟨(c 0).toNat - (q + 1), by omega, q + 1, some ⟨g, 0, none⟩, c', upd B q b, upd T q t, upd M q m, upd L q l, by rw [wi (by omega)]; rfl, by omega, rfl, ⟨?_, ob8, so8, ?_, fun i hi => ?_, fun i hi => ?_, fun i hi => ?_, lo', fun i j hi hj hij x hx hx' => ?_, fun g' hg' => ?_⟩, fun h => by omega⟩
      · refine (((N4.kp.tr k46).trans k7 fun x hx e => ?_).trans k78 fun x hx e => by omega)
        obtain ⟨_, hh⟩ := ownsRow_own N4.row
        rcases hh with ⟨rfl, _⟩ | ⟨g, cs, rfl, hgb, og, _⟩
        · simp [Value.ownBlock] at e
        · simp [Value.ownBlock] at e
          omega
      · exact ownsRow_kx row7 k78 fun x _ _ e hx => by
          simp [Value.ownBlock] at e
          subst e
          exact run_sep og hc0 so7 hx
      · by_cases e : i = q
        · subst e
          simp only [upd_same]
          exact h7.kx k78 fun x e hx => by have := fr5 x hx; omega
        · simp only [upd_ne _ _ e]
          exact (bt7 i (by omega)).kx k78 fun x e hx => (N4.lo i (by omega) x hx).2.1 e
      · by_cases e : i = q
        · subst e; simp only [upd_same]; exact i5
        · simp only [upd_ne _ _ e]; exact N4.iv i (by omega)
      · by_cases e : i = q
        · subst e; simp only [upd_same]; exact g5
        · simp only [upd_ne _ _ e]; exact N4.g0 i (by omega)
      · have hold : ∀ i, i < q → ∀ x, bblk (B i) (M i) (T i) x → x < w4.heap.size := fun i hi x hx => (N4.bt i hi).lt hx
        by_cases e : i = q
        · subst e
          simp only [upd_same, upd_ne _ _ (Ne.symm hij)] at hx hx'
          have := fr5 x hx
          have := hold j (by omega) x hx'
          omega
        · by_cases e' : j = q
          · subst e'
            simp only [upd_same, upd_ne _ _ e] at hx hx'
            have := fr5 x hx'
            have := hold i (by omega) x hx
            omega
          · simp only [upd_ne _ _ e, upd_ne _ _ e'] at hx hx'
            exact N4.ap i j (by omega) (by omega) hij x hx hx'
      · simp [Value.ownBlock] at hg'
        subst hg'
        refine ⟨run_sep og hc0 so7, run_sep (ds := []) og hc0 (by rw [List.append_nil]; exact ob7), fun i hi => ?_⟩
        by_cases e : i = q
        · subst e; simp only [upd_same]; exact ptr_sep og hc0 h7
        · simp only [upd_ne _ _ e]; exact ptr_sep og hc0 (bt7 i (by omega))
    · have hqk : (q : Int) = c 0 := by simp at hc2; omega
      obtain ⟨_, hh⟩ := ownsRow_own N4.row
      rcases hh with ⟨_, h00, _⟩ | ⟨g, cs, rfl, hgb, og, htk, _, _⟩
      · omega
      have hsep := N4.sep g (by simp [Value.ownBlock])
      refine ⟨N4.kp, .inr ⟨hm, z, ⟨g, cp, c, q, B, T, M⟩, L, rfl, ⟨N4.so, ⟨cs, og, fun i hi => ?_⟩, N4.bt, N4.iv, N4.ap, fun i hi x hx => ⟨(N4.lo i hi x hx).2.1, fun e => hsep.2.2 i hi (by rw [← (show x = g from e)]; exact hx)⟩, hqk, hm⟩, rfl, N4.g0, fun x hx => ?_⟩⟩
      · have : (cs.take (q * 1))[i]? = some (ptr (B i)) := by rw [htk]; simp [hi]
        rw [List.getElem?_take] at this
        split at this
        · exact this
        · cases this
      · rcases hx with rfl | rfl | ⟨i, hi, hx⟩
        · omega
        · exact hgb
        · exact (N4.lo i hi x hx).1
  · rintro e w' ⟨v, rfl, hk, hw⟩
    refine ⟨hk, ?_⟩
    rcases hw with ⟨h1, rfl⟩ | ⟨h1, z, S, L, rfl, hw⟩
    · exact .inl ⟨h1, rfl⟩
    · exact .inr ⟨h1, z, S, L, rfl, hw⟩
set_option linter.unusedSimpArgs false
set_option linter.unusedVariables false
set_option maxRecDepth 100000
section
variable {w w' : World} {z : Nat} {S : Zs} {L : Nat → List Bk}
def ZTakeR (w w' : World) (z : Nat) (S : Zs) (L : Nat → List Bk) (len : Nat) (nf : Nat → Int) (floor : Int) (high : Bool) (v : Value) : Prop :=
  (((∃ i, i < len ∧ (nf i < 0 ∨ (S.k : Int) ≤ nf i)) ∨ floor < 0) ∧ v = .tuple #[.int .i64 0, .int .i64 2] ∧ w' = w) ∨
  ((∀ i, i < len → 0 ≤ nf i ∧ nf i < (S.k : Int)) ∧ 0 ≤ floor ∧ (∀ i, i < len → (zfr S L (nf i) : Int) ≤ floor) ∧ v = .tuple #[.int .i64 0, .int .i64 6] ∧ w' = w) ∨
  ((∀ i, i < len → 0 ≤ nf i ∧ nf i < (S.k : Int)) ∧ 0 ≤ floor ∧ ∃ (j i : Nat), j < len ∧ nf j = (i : Int) ∧ i < S.k ∧ floor < (fsum (L i) : Int) ∧ (∀ j', j' < j → (zfr S L (nf j') : Int) ≤ floor) ∧
    ∃ a l', v = .tuple #[.int .i64 (fstF S.c i + a), .int .i64 0] ∧ Kept (S.bl i) w w' ∧ ZAt w' z S (upd L i l') ∧ TakeR (L i) 0 high a 0 l')
theorem ztake_spec (h : ZAt w z S L) {nodes : Option Addr} {len cap : Nat} {nf : Nat → Int} (hlen : len ≤ 1000000) (hP : 0 < len → isP nodes = true) (hr : ∀ i, i < len → rd w (pb nodes) (po nodes + i) = some (.int .i64 (nf i))) (floor : Int) (high : Bool) :
    Calls Tryz.prog 23 #[ptr z, .slice nodes len cap, .int .i64 floor, .bool high] w fun r w' => ∃ v, r = .returned v ∧ ZTakeR w w' z S L len nf floor high v := by
  refine vc23 _ _ _ _ _ _ w (fun v w' => ZTakeR w w' z S L len nf floor high v) ?_
  unfold vcP23
  simp only [isP_some, Wif_true, gIf_true, pb_some, po_some, Nat.zero_add, Option.isNone_some, Bool.not_false, Bool.true_and]
  refine ⟨_, _, _, fun _ => h.r94, Wif_no rfl ?_⟩
  refine ⟨fun _ _ k w' N => ∃ q : Nat, k = q ∧ q ≤ len ∧ N = len - q ∧ w' = w ∧ ∀ i, i < q → 0 ≤ nf i ∧ nf i < (S.k : Int), ⟨len, 0, rfl, by omega, rfl, rfl, fun i hi => absurd hi (Nat.not_lt_zero _)⟩, ?_⟩
  rintro _ _ _ w1 _ ⟨q, rfl, hq, rfl, rfl, hv⟩
  refine Wif_intro (fun hc => ?_) (fun hc => ?_)
  · simp only [decide_eq_true_eq] at hc
    refine Wif_yes (hP (by omega)) (Wif_yes (inB_of (by omega) (by omega)) ⟨nf q, by rw [Int.toNat_natCast, Nat.mul_one]; exact hr q (by omega), _, _, _, fun _ => h.r94, ?_⟩)
    simp only [Option.isNone_some, Bool.not_false, Bool.true_and]
    refine ⟨_, _, _, fun _ => h.r94, Wif_intro (fun hc2 => ?_) (fun hc2 => ?_)⟩
    · refine .inl ⟨.inl ⟨q, by omega, ?_⟩, rfl, rfl⟩
      rcases Int.lt_or_le (nf q) 0 with h1 | h1
      · exact .inl h1
      · rcases Int.lt_or_le (nf q) (S.k : Int) with h2 | h2
        · rw [decide_eq_true (show nf q ≥ 0 from h1), decide_eq_true h2] at hc2; cases hc2
        · exact .inr h2
    · simp at hc2
      refine ⟨len - (q + 1), by omega, q + 1, by rw [wi (by omega)]; rfl, by omega, rfl, trivial, fun i hi => ?_⟩
      rcases Nat.lt_or_ge i q with hlt | hge
      · exact hv i hlt
      · have : i = q := by omega
        subst this; exact ⟨hc2.1, hc2.2⟩
  have hql : q = len := by simp at hc; omega
  subst hql
  refine Wif_intro (fun hc2 => ?_) (fun hc2 => ?_)
  · exact .inl ⟨.inr (by simpa using hc2), rfl, rfl⟩
  have hfl : 0 ≤ floor := by simp at hc2; omega
  refine ⟨fun _ _ k w' N => ∃ p : Nat, k = p ∧ p ≤ q ∧ N = q - p ∧ w' = w1 ∧ ∀ i, i < p → (zfr S L (nf i) : Int) ≤ floor, ⟨q, 0, rfl, by omega, rfl, rfl, fun i hi => absurd hi (Nat.not_lt_zero _)⟩, ?_⟩
  rintro _ _ _ _ _ ⟨p, rfl, hp, rfl, rfl, hlow⟩
  refine Wif_intro (fun hc3 => ?_) (fun hc3 => ?_)
  · simp only [decide_eq_true_eq] at hc3
    refine Wif_yes (hP (by omega)) (Wif_yes (inB_of (by omega) (by omega)) ⟨nf p, by rw [Int.toNat_natCast, Nat.mul_one]; exact hr p (by omega), (zfree_spec h (nf p)).mono ?_⟩)
    rintro _ _ ⟨rfl, rfl⟩
    refine ⟨_, rfl, Wif_intro (fun hc4 => ?_) (fun hc4 => ?_)⟩
    · simp only [decide_eq_true_eq] at hc4
      have hvp := hv p (by omega)
      obtain ⟨i, hi⟩ : ∃ i : Nat, nf p = (i : Int) := ⟨(nf p).toNat, by omega⟩
      have hik : i < S.k := by omega
      rw [hi, zfr_in hik] at hc4
      rw [hi]
      refine (ztakeOf_spec h hik 0 high).mono ?_
      rintro _ w2 ⟨a, e, l', rfl, k2, z2, r2⟩
      have he := takeR_ok r2 (by omega)
      subst he
      rw [if_pos rfl]
      exact ⟨_, _, rfl, .inr (.inr ⟨hv, hfl, p, i, by omega, hi, hik, by omega, hlow, a, l', rfl, k2, z2, r2⟩)⟩
    · simp only [decide_eq_false_iff_not] at hc4
      refine ⟨q - (p + 1), by omega, p + 1, by rw [wi (by omega)]; rfl, by omega, rfl, rfl, fun i hi => ?_⟩
      rcases Nat.lt_or_ge i p with hlt | hge
      · exact hlow i hlt
      · have : i = p := by omega
        subst this; omega
  · have hpq : p = q := by simp at hc3; omega
    subst hpq
    exact .inr (.inl ⟨hv, hfl, hlow, rfl, rfl⟩)
end
end Go.Proofs.YtklmokolnakkoaaGreatDoor
set_option linter.unusedSimpArgs false
set_option linter.unusedVariables false
set_option maxRecDepth 100000
namespace Go.Proofs.YtklmokolnakkoaaGreatDoor
open Go Go.Eng
def rowL (n : Nat) (f : Nat → List Value) : List Value := (List.range n).flatMap f
theorem rowL_succ (n : Nat) (f : Nat → List Value) : rowL (n + 1) f = rowL n f ++ f n := by
  unfold rowL
  rw [List.range_succ, List.flatMap_append]
  simp
theorem rowL_len {s : Nat} {f : Nat → List Value} : ∀ {n : Nat}, (∀ i, i < n → (f i).length = s) → (rowL n f).length = n * s
  | 0, _ => by simp [rowL]
  | n + 1, h => by rw [rowL_succ, List.length_append, rowL_len fun i hi => h i (by omega), h n (by omega), Nat.succ_mul]
theorem rowL_get {s : Nat} {f : Nat → List Value} : ∀ {n : Nat}, (∀ i, i < n → (f i).length = s) → ∀ {i j : Nat}, i < n → j < s → (rowL n f)[i * s + j]? = (f i)[j]?
  | 0, _, i, j, hi, _ => absurd hi (Nat.not_lt_zero _)
  | n + 1, h, i, j, hi, hj => by
    have hl := rowL_len (s := s) (f := f) (n := n) fun i hi => h i (by omega)
    rw [rowL_succ]
    by_cases e : i = n
    · subst e
      rw [List.getElem?_append_right (by omega), hl]
      congr 1
      omega
    · have : (i + 1) * s ≤ n * s := Nat.mul_le_mul_right _ (by omega)
      rw [Nat.succ_mul] at this
      rw [List.getElem?_append_left (by omega)]
      exact rowL_get (fun i hi => h i (by omega)) (by omega) hj
theorem rowL_set {s : Nat} {f : Nat → List Value} {n : Nat} (h : ∀ i, i < n → (f i).length = s) {i j : Nat} {v : Value} (hi : i < n) (hj : j < s) : (rowL n f).set (i * s + j) v = rowL n (upd f i ((f i).set j v)) := by
  have h2 : ∀ k, k < n → (upd f i ((f i).set j v) k).length = s := fun k hk => by
    by_cases e : k = i
    · subst e; rw [upd_same, List.length_set, h k hk]
    · rw [upd_ne _ _ e, h k hk]
  have hl := rowL_len h
  have hl2 := rowL_len h2
  refine List.ext_getElem? fun k => ?_
  rcases Nat.lt_or_ge k (n * s) with hk | hk
  · have hs : 0 < s := by omega
    have hdm : k / s * s + k % s = k := by rw [Nat.mul_comm]; exact Nat.div_add_mod k s
    have hd : k / s < n := by rw [Nat.div_lt_iff_lt_mul hs]; exact hk
    have hm := Nat.mod_lt k hs
    rw [List.getElem?_set, hl, ← hdm, rowL_get h hd hm, rowL_get h2 hd hm, hdm]
    by_cases e : i * s + j = k
    · have e1 : k / s = i := by rw [← e, Nat.add_comm, Nat.add_mul_div_right _ _ hs, Nat.div_eq_of_lt hj, Nat.zero_add]
      have e2 : k % s = j := by rw [← e, Nat.add_comm, Nat.add_mul_mod_self_right, Nat.mod_eq_of_lt hj]
      rw [if_pos e, if_pos (by omega), e1, e2, upd_same, List.getElem?_set, if_pos rfl, if_pos (by rw [h i hi]; exact hj)]
    · rw [if_neg e]
      by_cases e1 : k / s = i
      · have e2 : j ≠ k % s := fun e2 => e (by rw [← e1, e2]; exact hdm)
        rw [e1, upd_same, List.getElem?_set, if_neg e2]
      · rw [upd_ne _ _ e1]
  · rw [List.getElem?_eq_none (by rw [List.length_set]; omega), List.getElem?_eq_none (by omega)]
theorem zeroRow_rows {z : Array Value} {s n : Nat} (hs : z.size = s) (h0 : 0 < s) : (zeroRow z (n * s)).toList = rowL n fun _ => z.toList := by
  have h : ∀ i, i < n → ((fun _ => z.toList) i : List Value).length = s := fun i _ => by simpa using hs
  refine List.ext_getElem? fun k => ?_
  rcases Nat.lt_or_ge k (n * s) with hk | hk
  · have hdm : k / s * s + k % s = k := by rw [Nat.mul_comm]; exact Nat.div_add_mod k s
    have hd : k / s < n := by rw [Nat.div_lt_iff_lt_mul h0]; exact hk
    have hm := Nat.mod_lt k h0
    have h1 := rowL_get h hd hm
    rw [hdm] at h1
    rw [h1, Array.getElem?_toList, Array.getElem?_toList]
    simp only [zeroRow, Array.getElem?_map, Array.getElem?_range, hk, if_true, Option.map_some, hs]
    rw [getElem!_pos z (k % s) (by omega), Array.getElem?_eq_getElem (by omega)]
  · rw [List.getElem?_eq_none (by simp [zeroRow]; omega), List.getElem?_eq_none (by rw [rowL_len h]; omega)]
theorem rowL_run {kd : IntKind} {s n : Nat} {x : Int} : (rowL n fun _ => List.replicate s (Value.int kd x)) = runI kd (fun _ => x) 0 (n * s) := by
  have h : ∀ i, i < n → ((fun _ => List.replicate s (Value.int kd x)) i : List Value).length = s := fun i _ => by simp
  refine runI_of (rowL_len h) fun k hk => ?_
  have hs : 0 < s := by
    rcases Nat.eq_zero_or_pos s with e | e
    · subst e; omega
    · exact e
  have hdm : k / s * s + k % s = k := by rw [Nat.mul_comm]; exact Nat.div_add_mod k s
  have hd : k / s < n := by rw [Nat.div_lt_iff_lt_mul hs]; exact hk
  have hm := Nat.mod_lt k hs
  have h1 := rowL_get h hd hm
  rw [hdm] at h1
  rw [h1, List.getElem?_replicate, if_pos hm]
theorem mkRow_ge {z : Array Value} {s n : Nat} (h : 1 < s) : mkRow z s n = zeroRow z (n * s) := by
  unfold mkRow
  split
  · omega
  · rfl
end Go.Proofs.YtklmokolnakkoaaGreatDoor
set_option linter.unusedSimpArgs false
set_option linter.unusedVariables false
set_option maxRecDepth 100000
namespace Go.Eng
open Go
theorem cpy_own {P : Program} {dT sT ty e : TypeId} {s : Nat} (hu : P.underlying dT = some (.slice e)) (hs : (P.info? e).map (·.size) = some s) {w : World} {X : Nat} {ds : List Value} (hd : own w X ds) (o dl dc : Nat)
    {Y oy sl sc q : Nat} {ys cs : List Value} (hq0 : Nat.min sl dl = q) (hy : own w Y ys) (hc : ∀ j, j < cs.length → ys[oy + j]? = cs[j]?) (hn : cs.length = q * s) (hfit : o + cs.length ≤ ds.length) (h1 : ∀ u ∈ cs, u.oneCell' = true) :
    ∃ w', cpyIs P #[dT, sT] ty (.slice (some ⟨X, o, none⟩) dl dc) (.slice (some ⟨Y, oy, none⟩) sl sc) (.int .i64 (q : Nat)) w w' ∧ own w' X (ds.take o ++ cs ++ ds.drop (o + cs.length)) ∧ Kept (· = X) w w' := by
  subst hq0
  obtain ⟨et, hB⟩ := hd
  have hsrc : ∀ j v, cs[j]? = some v → w.cell? ((⟨Y, oy, none⟩ : Addr).add j) = some v := by
    intro j v hj
    rw [addr_add]
    have := hy.rd (oy + j)
    unfold rd at this
    rw [this, hc j (List.getElem?_eq_some_iff.1 hj).1]
    exact hj
  have hl := run_loadCells_list (P := P) w ⟨Y, oy, none⟩ cs hsrc
  have hst := run_storeCells_at P X o et cs 0 ds.toArray w hB (by simpa using hfit) h1
  refine ⟨_, ⟨?_⟩, setRow_own ⟨et, hB⟩, setRow_kept _ _ _⟩
  cases hq : P.info? e with
  | none => simp [hq] at hs
  | some i =>
    have hi : i.size = s := by simpa [hq] using hs
    simp only [Nat.add_zero] at hst
    simp [Builtin.copy_, run_underlying hu, Builtin.lenOf, Builtin.firstCells, sizeOf, typeInfo, hq, hi, ← hn, hl, hst, goInt]
theorem bits_and {a : Int} (h : 0 ≤ a ∧ a < 4294967296) : bitsI .and .u64 a 4294967295 = a := by
  obtain ⟨m, rfl⟩ := Int.eq_ofNat_of_zero_le h.1
  have hm : m < 4294967296 := by omega
  have hx : (BitVec.ofInt 64 (m : Int) &&& BitVec.ofInt 64 (4294967295 : Int)).toNat = m := by
    rw [BitVec.toNat_and, BitVec.toNat_ofInt, BitVec.toNat_ofInt]
    have e1 : ((m : Int) % ((2 ^ 64 : Nat) : Int)).toNat = m := by omega
    rw [e1, show ((4294967295 : Int) % ((2 ^ 64 : Nat) : Int)).toNat = 2 ^ 32 - 1 by decide, Nat.and_two_pow_sub_one_eq_mod]
    omega
  show IntKind.wrap .u64 ((BitVec.ofInt 64 (m : Int) &&& BitVec.ofInt 64 (4294967295 : Int)).toNat : Int) = _
  rw [hx, wu (by omega)]
end Go.Eng
namespace Go.Proofs.YtklmokolnakkoaaGreatDoor
open Go Go.Eng
theorem fd0 {a : Int} (h : 0 ≤ a ∧ a < 4294967296) : Int.fdiv a 4294967296 = 0 := by
  rw [Int.fdiv_eq_ediv_of_nonneg _ (by decide)]
  omega
theorem mul_spec {y : Int} (hy : 0 ≤ y ∧ y ≤ 1000000) (w : World) : Calls Tryz.prog 165 #[.int .u64 1, .int .u64 y] w fun e w' => e = .returned (.tuple #[.int .u64 0, .int .u64 y]) ∧ w' = w := by
  have hb : Calls Tryz.prog 199 #[.int .u64 1, .int .u64 y] w fun e w' => e = .returned (.tuple #[.int .u64 0, .int .u64 y]) ∧ w' = w := by
    refine (vc199 1 y w (fun v w' => v = .tuple #[.int .u64 0, .int .u64 y] ∧ w' = w) ?_).mono ?_
    · unfold vcP199
      rw [fd0 (a := y) (by omega), fd0 (a := 1) (by omega), bits_and (a := y) (by omega), bits_and (a := 1) (by omega)]
      simp only [Int.zero_mul, Int.mul_zero, Int.one_mul]
      have e0 : IntKind.wrap .u64 0 = 0 := wu (by omega)
      have ey : IntKind.wrap .u64 y = y := wu (by omega)
      simp only [e0, ey, Int.zero_add, Int.add_zero, fd0 (a := y) (by omega), fd0 (a := 0) (by omega), bits_and (a := 0) (by omega)]
      exact ⟨trivial, trivial⟩
    · rintro e w' ⟨v, rfl, rfl, rfl⟩
      exact ⟨rfl, rfl⟩
  refine (vc165 1 y w (fun v w' => v = .tuple #[.int .u64 0, .int .u64 y] ∧ w' = w) ?_).mono ?_
  · unfold vcP165
    refine hb.mono ?_
    rintro _ _ ⟨rfl, rfl⟩
    exact ⟨_, _, rfl, rfl, rfl⟩
  · rintro e w' ⟨v, rfl, rfl, rfl⟩
    exact ⟨rfl, rfl⟩
theorem rep_spec {x : List Value} {Y : Nat} {n : Nat} {w : World} (hx : x.length = 5) (h1 : ∀ u ∈ x, u.oneCell' = true) (hy : own w Y x) (hn : 1 ≤ n ∧ n ≤ 100000) :
    Calls Tryz.prog 117 #[.slice (some ⟨Y, 0, none⟩) 1 1, .int .i64 n] w fun e w' => ∃ b, w.heap.size ≤ b ∧ e = .returned (.slice (some ⟨b, 0, none⟩) n n) ∧ own w' b (rowL n fun _ => x) ∧ Kept none' w w' := by
  refine (vc117 (some ⟨Y, 0, none⟩) 1 1 n w (fun v w' => ∃ b, w.heap.size ≤ b ∧ v = (.slice (some ⟨b, 0, none⟩) n n) ∧ own w' b (rowL n fun _ => x) ∧ Kept none' w w') ?_).mono ?_
  rotate_left
  · rintro e w' ⟨v, rfl, b, hb, rfl, h⟩
    exact ⟨b, hb, rfl, h⟩
  unfold vcP117
  have e1 : IntKind.wrap .u64 (((1 : Nat) : Int)) = 1 := wu (by omega)
  have e2 : IntKind.wrap .u64 (n : Int) = n := wu (by omega)
  have e3 : IntKind.wrap .i64 (n : Int) = n := wi (by omega)
  rw [e1, e2]
  refine Wif_no (by simp) ((mul_spec (by omega) w).mono ?_)
  rintro _ w1 ⟨rfl, rfl⟩
  refine ⟨_, _, rfl, Wif_no (by simp; omega) ?_⟩
  rw [e3]
  simp only [Int.toNat_natCast]
  refine Wif_yes (okm_of (by omega) (by omega) (by omega)) fun w2 e => ?_
  have hl0 : ∀ m, m ≤ n → (rowL m fun _ => x).length = m * 5 := fun m _ => rowL_len fun _ _ => hx
  have ez : (mkRow #[Value.int IntKind.u8 0, Value.int IntKind.i64 0, Value.int IntKind.i64 0, Value.int IntKind.i64 0, Value.int IntKind.i64 0] 5 n).toList.length = n * 5 := by
    rw [mkRow_ge (by decide), zeroRow_rows (s := 5) rfl (by decide)]
    exact rowL_len fun _ _ => rfl
  have o2 : own w2 w1.heap.size (mkRow #[Value.int IntKind.u8 0, Value.int IntKind.i64 0, Value.int IntKind.i64 0, Value.int IntKind.i64 0, Value.int IntKind.i64 0] 5 n).toList := own_alloc e
  generalize hzl : (mkRow #[Value.int IntKind.u8 0, Value.int IntKind.i64 0, Value.int IntKind.i64 0, Value.int IntKind.i64 0, Value.int IntKind.i64 0] 5 n).toList = z at *
  have k2 : Kept none' w1 w2 := (Kept.refl _ _).al e
  have y2 := hy.al e
  have hYb := hy.lt
  clear e
  generalize hb : w1.heap.size = b at *
  have info : (Tryz.prog.info? 85).map (·.size) = some 5 := by kernel_rfl
  obtain ⟨w3, hc, o3, k3⟩ := cpy_own (dT := 61) (sT := 61) (ty := 3) (e := 85) (s := 5) Tryz.underlying61 info o2 0 n n (oy := 0) (sl := 1) (sc := 1) (q := 1) (ys := x) (cs := x) (Nat.min_eq_left hn.1) y2 (fun j hj => by rw [Nat.zero_add]) (by rw [hx]) (by omega) h1
  refine ⟨1, w3, hc, ?_⟩
  have K3 : Kept none' w1 w3 := own0 k2 k3 fun x e => by omega
  have G : ∀ (m : Nat) (cs : List Value), cs.length = n * 5 → 1 ≤ m → m ≤ n → cs.take (m * 5) = rowL m (fun _ => x) → ∀ k, k ≤ n - m → k ≤ m → (cs.take (m * 5) ++ (rowL k fun _ => x) ++ cs.drop (m * 5 + (rowL k fun _ => x).length)).take ((m + k) * 5) = rowL (m + k) fun _ => x := by
    intro m cs hcs h1m hmn hm k hk hkm
    have e4 : (rowL (m + k) fun _ => x) = (rowL m fun _ => x) ++ rowL k fun _ => x := by
      clear hk hkm
      induction k with
      | zero => simp [rowL]
      | succ k ih => rw [← Nat.add_assoc, rowL_succ, ih, rowL_succ, List.append_assoc]
    rw [hm, ← e4, List.take_append_of_le_length (by rw [hl0 _ (by omega)]; omega), List.take_of_length_le (by rw [hl0 _ (by omega)]; omega)]
  refine ⟨fun k w' N => ∃ (m : Nat) (cs : List Value), k = m ∧ N = n - m ∧ 1 ≤ m ∧ m ≤ n ∧ Kept none' w1 w' ∧ own w' b cs ∧ cs.length = n * 5 ∧ cs.take (m * 5) = rowL m fun _ => x, ⟨n - 1, 1, _, rfl, rfl, by omega, hn.1, K3, o3, ?_, ?_⟩, ?_⟩
  · simp [hx, ez]; omega
  · rw [List.take_zero, List.nil_append, Nat.one_mul, List.take_append_of_le_length (by omega), List.take_of_length_le (by omega), rowL_succ]
    simp [rowL]
  rintro _ w4 _ ⟨m, cs, rfl, rfl, h1m, hmn, k4, o4, l4, t4⟩
  refine Wif_intro (fun hc2 => ?_) (fun hc2 => ?_)
  · have hmn' : m < n := by simp at hc2; omega
    intro w5 e5
    have o5 := o4.dr e5
    have k5 : Kept none' w1 w5 := k4.dr e5
    refine Wif_yes (okSl_of (by omega) (by omega) (by omega)) (Wif_yes (okSl_of (by omega) (by omega) (by omega)) ?_)
    have eo : offA (some (Addr.mk b 0 none)) n (Int.toNat (m : Int)) 5 = some ⟨b, m * 5, none⟩ := by
      unfold offA
      rw [Int.toNat_natCast, if_neg (by omega), Option.map_some, addr_add, Nat.zero_add]
    rw [eo]
    simp only [Int.toNat_natCast]
    obtain ⟨q, hq, hr, hl, hp⟩ : ∃ q, Nat.min m (n - m) = q ∧ q ≤ n - m ∧ q ≤ m ∧ 1 ≤ q := ⟨_, rfl, Nat.min_le_right _ _, Nat.min_le_left _ _, Nat.le_min.2 ⟨h1m, by omega⟩⟩
    have hlq : (rowL q fun _ => x).length = q * 5 := hl0 q (by omega)
    obtain ⟨w6, hc6, o6, k6⟩ := cpy_own (dT := 61) (sT := 61) (ty := 3) (e := 85) (s := 5) Tryz.underlying61 info o5 (m * 5) (n - m) (n - m) (oy := 0) (sl := m) (sc := n) (q := q) (ys := cs) (cs := rowL q fun _ => x) hq o5
      (fun j hj => by
        have hj' : j < q * 5 := by omega
        have h2 : (cs.take (m * 5))[j]? = cs[j]? := List.getElem?_take_of_lt (by omega)
        rw [Nat.zero_add, ← h2, t4]
        have hdm : j / 5 * 5 + j % 5 = j := by omega
        rw [← hdm, rowL_get (s := 5) (fun _ _ => hx) (by omega) (by omega), rowL_get (s := 5) (fun _ _ => hx) (by omega) (by omega)])
      hlq (by omega)
      (fun u hu => by
        simp only [rowL, List.mem_flatMap] at hu
        obtain ⟨_, _, hu⟩ := hu
        exact h1 u hu)
    refine ⟨_, w6, hc6, n - (m + q), by omega, m + q, _, by rw [wi (by omega)]; omega, rfl, by omega, by omega, own0 k5 k6 fun x e => by omega, o6, ?_, G m cs l4 h1m hmn t4 q hr hl⟩
    rw [List.length_append, List.length_append, List.length_take, List.length_drop, hl0 _ (by omega), l4]
    omega
  · have : m = n := by simp at hc2; omega
    subst this
    refine ⟨b, by omega, rfl, ?_, k4⟩
    rw [← t4, List.take_of_length_le (by omega)]
    exact o4
end Go.Proofs.YtklmokolnakkoaaGreatDoor
set_option linter.unusedSimpArgs false
set_option linter.unusedVariables false
namespace Go.Proofs.YtklmokolnakkoaaGreatDoor
open Go Eng
theorem _root_.Go.Eng.wr.lt {w : World} {b o : Nat} (h : wr w b o) : b < w.heap.size := rd_lt h.cell.choose_spec
abbrev Rd (α : Type) := World → List Value → α → Prop
structure SlR {α : Type} (R : Rd α) (s : Nat) (w : World) (a : Option Addr) (l c : Nat) (xs : List α) : Prop where
  len : l = xs.length
  isp : 0 < l → isP a = true
  nil : a = none → c = 0
  lc : l ≤ c
  mx : c ≤ maxLen
  el : ∀ (i : Nat) (x : α), xs[i]? = some x → ∃ cs : List Value, cs.length = s ∧ R w cs x ∧ ∀ (j : Nat) (u : Value), cs[j]? = some u → rd w (pb a) (po a + i * s + j) = some u
  wl : ∀ o : Nat, o < l * s → wr w (pb a) (po a + o)
def Stab {α : Type} (R : Rd α) : Prop := ∀ (w w' : World) (cs : List Value) (x : α), R w cs x → Kept none' w w' → R w' cs x
theorem SlR.k {α : Type} {R : Rd α} {s : Nat} {w w' : World} {a : Option Addr} {l c : Nat} {xs : List α} (h : SlR R s w a l c xs) (hs : Stab R) (k : Kept none' w w') : SlR R s w' a l c xs :=
  ⟨h.len, h.isp, h.nil, h.lc, h.mx, fun i x hx => by
    obtain ⟨cs, h1, h2, h3⟩ := h.el i x hx
    exact ⟨cs, h1, hs _ _ _ _ h2 k, fun j u hu => k.rd_some (h3 j u hu) id⟩, fun o ho => by
    have h1 := h.wl o ho
    rw [k.wrE _ _ h1.lt]
    exact h1⟩
theorem SlR.nil' {α : Type} {R : Rd α} {s : Nat} {w : World} : SlR R s w none 0 0 ([] : List α) :=
  ⟨rfl, fun h => absurd h (Nat.lt_irrefl _), fun _ => rfl, Nat.le_refl _, Nat.zero_le _, fun i x hx => by simp at hx, fun o ho => by rw [Nat.zero_mul] at ho; omega⟩
def RL {α : Type} (R : Rd α) (s : Nat) : Rd (List α) := fun w cs xs => ∃ (a : Option Addr) (l c : Nat), cs = [.slice a l c] ∧ SlR R s w a l c xs
theorem RL.stab {α : Type} {R : Rd α} {s : Nat} (hs : Stab R) : Stab (RL R s) := fun w w' cs x h k => by
  obtain ⟨a, l, c, e, h⟩ := h
  exact ⟨a, l, c, e, h.k hs k⟩
structure Mark where
  role : Int
  order : Int
  owner : Int
  page : Int
  index : Int
deriving DecidableEq
structure Own where
  n : Int
  pid : Int
  page : Int
deriving DecidableEq
structure Mapped where
  page : Int
  kind : Int
  n : Int
deriving DecidableEq
structure Run where
  page : Int
  count : Int
  rights : Int
deriving DecidableEq
structure Proc where
  pid : Int
  root : Int
  leaves : List (Int × Int)
  pages : List Mapped
  pinned : List Int
  runs : List Run
structure Slab where
  node : Int
  cls : Int
  frame : Int
  colour : Int
  count : Int
  chain : List Int
  alive : List (Int × Int)
def RInt : Rd Int := fun _ cs n => cs = [vi n]
def RPair : Rd (Int × Int) := fun _ cs x => cs = [vi x.1, vi x.2]
def RAlive : Rd (Int × Int) := fun _ cs x => cs = [vi x.1, .int .u64 x.2]
def ROwn : Rd Own := fun _ cs x => cs = [vi x.n, vi x.pid, vi x.page]
def RMark : Rd Mark := fun _ cs x => cs = [.int .u8 x.role, vi x.order, vi x.owner, vi x.page, vi x.index]
def RMapped : Rd Mapped := fun _ cs x => cs = [vi x.page, .int .u8 x.kind, vi x.n]
def RRun : Rd Run := fun _ cs x => cs = [vi x.page, vi x.count, .int .u8 x.rights]
theorem stab_eq {α : Type} {f : α → List Value} : Stab (fun _ cs x => cs = f x) := fun _ _ _ _ h _ => h
theorem RInt.stab : Stab RInt := stab_eq
theorem RPair.stab : Stab RPair := stab_eq
theorem RAlive.stab : Stab RAlive := stab_eq
theorem ROwn.stab : Stab ROwn := stab_eq
theorem RMark.stab : Stab RMark := stab_eq
theorem RMapped.stab : Stab RMapped := stab_eq
theorem RRun.stab : Stab RRun := stab_eq
def RProc : Rd Proc := fun w cs p => ∃ (a1 : Option Addr) (l1 c1 : Nat) (a2 : Option Addr) (l2 c2 : Nat) (a3 : Option Addr) (l3 c3 : Nat) (a4 : Option Addr) (l4 c4 : Nat),
  cs = [vi p.pid, vi p.root, .slice a1 l1 c1, .slice a2 l2 c2, .slice a3 l3 c3, .slice a4 l4 c4] ∧ SlR RPair 2 w a1 l1 c1 p.leaves ∧ SlR RMapped 3 w a2 l2 c2 p.pages ∧ SlR RInt 1 w a3 l3 c3 p.pinned ∧ SlR RRun 3 w a4 l4 c4 p.runs
theorem RProc.stab : Stab RProc := fun w w' cs x h k => by
  obtain ⟨a1, l1, c1, a2, l2, c2, a3, l3, c3, a4, l4, c4, e, h1, h2, h3, h4⟩ := h
  exact ⟨a1, l1, c1, a2, l2, c2, a3, l3, c3, a4, l4, c4, e, h1.k RPair.stab k, h2.k RMapped.stab k, h3.k RInt.stab k, h4.k RRun.stab k⟩
def RSlab : Rd Slab := fun w cs p => ∃ (a1 : Option Addr) (l1 c1 : Nat) (a2 : Option Addr) (l2 c2 : Nat),
  cs = [vi p.node, vi p.cls, vi p.frame, vi p.colour, vi p.count, .slice a1 l1 c1, .slice a2 l2 c2] ∧ SlR RInt 1 w a1 l1 c1 p.chain ∧ SlR RAlive 2 w a2 l2 c2 p.alive
theorem RSlab.stab : Stab RSlab := fun w w' cs x h k => by
  obtain ⟨a1, l1, c1, a2, l2, c2, e, h1, h2⟩ := h
  exact ⟨a1, l1, c1, a2, l2, c2, e, h1.k RInt.stab k, h2.k RAlive.stab k⟩
structure Pic where
  c : Nat → Int
  marks : List Mark
  free : List (Int × Int)
  held : List (List Int)
  flying : List (List (Int × Int))
  flight : List Int
  procs : List Proc
  frames : List Own
  clocks : List (List Int)
  slots : List Own
  slabs : List Slab
  mags : List (List (List (Int × Int)))
  depots : List (List (List (Int × Int)))
  holders : List Int
structure PicS where
  a : Nat → Option Addr
  l : Nat → Nat
  c : Nat → Nat
def PicS.v (S : PicS) (i : Nat) : Value := .slice (S.a i) (S.l i) (S.c i)
structure PicR (w : World) (S : PicS) (x : Pic) : Prop where
  marks : SlR RMark 5 w (S.a 0) (S.l 0) (S.c 0) x.marks
  free : SlR RPair 2 w (S.a 1) (S.l 1) (S.c 1) x.free
  held : SlR (RL RInt 1) 1 w (S.a 2) (S.l 2) (S.c 2) x.held
  flying : SlR (RL RPair 2) 1 w (S.a 3) (S.l 3) (S.c 3) x.flying
  flight : SlR RInt 1 w (S.a 4) (S.l 4) (S.c 4) x.flight
  procs : SlR RProc 6 w (S.a 5) (S.l 5) (S.c 5) x.procs
  frames : SlR ROwn 3 w (S.a 6) (S.l 6) (S.c 6) x.frames
  clocks : SlR (RL RInt 1) 1 w (S.a 7) (S.l 7) (S.c 7) x.clocks
  slots : SlR ROwn 3 w (S.a 8) (S.l 8) (S.c 8) x.slots
  slabs : SlR RSlab 7 w (S.a 9) (S.l 9) (S.c 9) x.slabs
  mags : SlR (RL (RL RPair 2) 1) 1 w (S.a 10) (S.l 10) (S.c 10) x.mags
  depots : SlR (RL (RL RPair 2) 1) 1 w (S.a 11) (S.l 11) (S.c 11) x.depots
  holders : SlR RInt 1 w (S.a 12) (S.l 12) (S.c 12) x.holders
theorem PicR.k {w w' : World} {S : PicS} {x : Pic} (h : PicR w S x) (k : Kept none' w w') : PicR w' S x :=
  ⟨h.marks.k RMark.stab k, h.free.k RPair.stab k, h.held.k (RL.stab RInt.stab) k, h.flying.k (RL.stab RPair.stab) k, h.flight.k RInt.stab k, h.procs.k RProc.stab k, h.frames.k ROwn.stab k, h.clocks.k (RL.stab RInt.stab) k, h.slots.k ROwn.stab k, h.slabs.k RSlab.stab k, h.mags.k (RL.stab (RL.stab RPair.stab)) k, h.depots.k (RL.stab (RL.stab RPair.stab)) k, h.holders.k RInt.stab k⟩
end Go.Proofs.YtklmokolnakkoaaGreatDoor
set_option linter.unusedSimpArgs false
set_option linter.unusedVariables false
set_option maxRecDepth 100000
namespace Go.Proofs.YtklmokolnakkoaaGreatDoor
open Go Go.Eng
def markV (m : Mark) : List Value := [.int .u8 m.role, vi m.order, vi m.owner, vi m.page, vi m.index]
structure MemAt (w : World) (m bb mb : Nat) (c : Nat → Int) (n : Nat) (by' : Nat → Int) (mk : Nat → Mark) : Prop where
  so : own w m (cfg c ++ [.slice (some ⟨bb, 0, none⟩) (n * 256) (n * 256), .slice (some ⟨mb, 0, none⟩) n n])
  bs : own w bb (runI .u8 by' 0 (n * 256))
  ms : own w mb (rowL n fun i => markV (mk i))
  ne : m ≠ bb ∧ m ≠ mb ∧ bb ≠ mb
structure DevAt (w : World) (d db n : Nat) (f : Nat → Int) : Prop where
  so : own w d [.slice (some ⟨db, 0, none⟩) n n, .bool true]
  bs : own w db (runI .u8 f 0 (n * 256))
  ne : d ≠ db
def pairV (x : Int × Int) : List Value := [vi x.1, vi x.2]
def pgV (x : Int × Int) : Value := .agg #[vi x.1, vi x.2]
structure RmapAt (w : World) (r fb mb n : Nat) (of : Nat → Int × Int) (at' : List ((Int × Int) × Value)) : Prop where
  so : own w r [.slice (some ⟨fb, 0, none⟩) n n, .map (some mb)]
  fs : own w fb (rowL n fun i => pairV (of i))
  mp : MapG pgV w mb at'
  ne : r ≠ fb ∧ r ≠ mb ∧ fb ≠ mb
structure SlotsAt (w : World) (s fb n : Nat) (of : Nat → Int × Int) : Prop where
  so : own w s [.slice (some ⟨fb, 0, none⟩) n n, .bool true]
  fs : own w fb (rowL n fun i => pairV (of i))
  ne : s ≠ fb
def LocksAt (w : World) (l n : Nat) (h : Nat → Int) : Prop := own w l ([vi n] ++ (runI .i64 h 0 64 ++ [.bool true]))
theorem total_spec (c : Nat → Int) (hm : MayP c) (w : World) : Calls Tryz.prog 116 #[cfgV c] w fun e w' => e = .returned (.int .i64 (fstF c (c 0).toNat)) ∧ Kept none' w w' := by
  refine (vc116 c w (fun v w' => v = .int .i64 (fstF c (c 0).toNat) ∧ Kept none' w w') ?_).mono ?_
  rotate_left
  · rintro e w' ⟨v, rfl, rfl, hw⟩
    exact ⟨rfl, hw⟩
  have h0 := hm.1
  unfold vcP116
  intro w1 e1
  have o1 := own_alloc e1
  have k1 : Kept none' w w1 := (Kept.refl _ _).al e1
  generalize hb : w.heap.size = b at *
  refine ⟨c, o1.rIall, (may_spec c w1).mono ?_⟩
  rintro _ w2 ⟨mb, rfl, hmb, k2⟩
  have : mb = true := hmb.2 hm
  subst this
  have o2 := o1.k k2
  have hz : ∀ i, (c 0).toNat ≤ i → i < 8 → c (18 + i) = 0 := fun i h1 h2 => by
    rw [hm.2.2.2.1 (18 + i) (by omega)]
    unfold bareF
    rw [if_pos (by omega)]
  refine ⟨true, rfl, Wif_no rfl ⟨fun i => c (18 + i), o2.run 18 (fun j hj => runI_get _ _ _ _ _ (by omega) |>.trans (by rw [Nat.zero_add])), ?_⟩⟩
  refine ⟨fun s k w' N => ∃ q : Nat, k = q ∧ q ≤ 8 ∧ N = 8 - q ∧ Kept none' w w' ∧ s = fstF c (min q (c 0).toNat), ⟨8, 0, rfl, by omega, rfl, k1.tr k2, by simp [fstF]⟩, ?_⟩
  rintro _ _ w3 _ ⟨q, rfl, hq, rfl, k3, rfl⟩
  have hf0 := hm.fst (k := min q (c 0).toNat) (by omega)
  refine Wif_intro (fun hc => ?_) (fun hc => ?_)
  · simp only [decide_eq_true_eq] at hc
    have f1 := hm.fst (k := min (q + 1) (c 0).toNat) (by omega)
    have hc1 : fstF c (min q (c 0).toNat) + c (18 + q) = fstF c (min (q + 1) (c 0).toNat) := by
      rcases Nat.lt_or_ge q (c 0).toNat with h | h
      · rw [Nat.min_eq_left (by omega), Nat.min_eq_left (by omega)]; rfl
      · rw [Nat.min_eq_right h, Nat.min_eq_right (by omega), hz q h (by omega)]; omega
    refine Wif_yes (inB_of (by omega) (by omega)) ⟨c (18 + q), ?_, 8 - (q + 1), by omega, q + 1, by rw [wi (by omega)]; rfl, by omega, rfl, k3, by rw [hc1, wi (by omega)]⟩
    rw [Int.toNat_natCast, Nat.mul_one]
    match q, (show q < 8 by omega) with
    | 0, _ | 1, _ | 2, _ | 3, _ | 4, _ | 5, _ | 6, _ | 7, _ => rfl
  · have : q = 8 := by simp at hc; omega
    subst this
    rw [Nat.min_eq_right (by omega)]
    exact ⟨rfl, k3⟩
theorem MayP.tot {c : Nat → Int} (hm : MayP c) : 4 ≤ fstF c (c 0).toNat ∧ fstF c (c 0).toNat ≤ 1024 := by
  have h0 := hm.1
  have h1 := hm.fst (k := (c 0).toNat) (by omega)
  have h2 := fstF_mono hm (i := 1) (k := (c 0).toNat) (by omega) (by omega)
  have h3 := hm.fr (i := 0) (by omega)
  have : fstF c 1 = 0 + c (18 + 0) := rfl
  omega
def mark0 : Mark := ⟨1, 0, 0, 0, 0⟩
theorem mnew_spec (c : Nat → Int) (hm : MayP c) (w : World) : Calls Tryz.prog 33 #[cfgV c] w fun e w' => ∃ m bb mb, e = .returned (.tuple #[ptr m, vi 0]) ∧ Kept none' w w' ∧ MemAt w' m bb mb c (fstF c (c 0).toNat).toNat (fun _ => 0) (fun _ => mark0) ∧
    (w.heap.size ≤ m ∧ w.heap.size ≤ bb ∧ w.heap.size ≤ mb) := by
  refine (vc33 c w (fun v w' => ∃ m bb mb, v = (.tuple #[ptr m, vi 0]) ∧ Kept none' w w' ∧ MemAt w' m bb mb c (fstF c (c 0).toNat).toNat (fun _ => 0) (fun _ => mark0) ∧
    (w.heap.size ≤ m ∧ w.heap.size ≤ bb ∧ w.heap.size ≤ mb)) ?_).mono ?_
  rotate_left
  · rintro e w' ⟨v, rfl, m, bb, mb, rfl, hw⟩
    exact ⟨m, bb, mb, rfl, hw⟩
  have ht := hm.tot
  unfold vcP33
  intro w1 e1
  have o1 := own_alloc e1
  have k1 : Kept none' w w1 := (Kept.refl _ _).al e1
  have s1 : w1.heap.size = w.heap.size + 1 := by rw [e1]; simp only [World.alloc, Array.size_push]
  clear e1
  generalize hb : w.heap.size = b at *
  refine ⟨c, o1.rIall, (may_spec c w1).mono ?_⟩
  rintro _ w2 ⟨ok, rfl, hmb, k2⟩
  have : ok = true := hmb.2 hm
  subst this
  have o2 := o1.k k2
  refine ⟨true, rfl, Wif_no rfl ⟨c, o2.rIall, (total_spec c hm w2).mono ?_⟩⟩
  rintro _ w3 ⟨rfl, k3⟩
  have o3 := o2.k k3
  refine ⟨_, rfl, fun w4 e4 => ⟨c, (o3.dr e4).rIall, ?_⟩⟩
  have o4 := o3.dr e4
  have k4 : Kept none' w w4 := ((k1.tr k2).tr k3).dr e4
  clear e4 hmb
  generalize hN : fstF c (c 0).toNat = N at *
  obtain ⟨n, rfl⟩ : ∃ n : Nat, N = n := ⟨N.toNat, by omega⟩
  rw [wi (by omega)]
  have hs4 := k4.sz
  have hen : ((n : Int) * 256).toNat = n * 256 := by omega
  rw [hen]
  have ok : okMk 1 ((n : Int) * 256) ((n : Int) * 256) = true := okm_of (by omega) (by omega) (by omega)
  have er : List.replicate (n * 256) (Value.int IntKind.u8 0) = runI .u8 (fun _ => 0) 0 (n * 256) := runI_of (by simp) fun j hj => by simp [hj]
  rw [er]
  simp only [ok, Wif_true, and_true]
  have on : ∀ {w' w'' : World}, Kept none' w4 w' → rdAll w' b 0 (cfg c) := fun k => (o4.k k).rIall
  have M5 : ([Value.int .u8 1, .int .i64 0, .int .i64 0, .int .i64 0, .int .i64 0] : List Value) = markV mark0 := rfl
  have fin : ∀ {w5 w6 : World} {bb mb : Nat} (k : Kept none' w4 w5), own w5 bb (runI .u8 (fun _ => 0) 0 (n * 256)) → own w5 mb (rowL n fun _ => [Value.int .u8 1, .int .i64 0, .int .i64 0, .int .i64 0, .int .i64 0]) → w4.heap.size ≤ bb → w4.heap.size ≤ mb → bb ≠ mb →
      w6 = World.alloc w5 (Obj.cells (List.toArray (cfg c ++ [Value.slice (some (Addr.mk bb 0 none)) (n * 256) (n * 256), Value.slice (some (Addr.mk mb 0 none)) n n])) 140) →
      ∃ m bb' mb', (Value.tuple #[Value.pointer (some (Addr.mk w5.heap.size 0 none)), Value.int IntKind.i64 0]) = (.tuple #[ptr m, vi 0]) ∧ Kept none' w w6 ∧ MemAt w6 m bb' mb' c ((n : Int)).toNat (fun _ => 0) (fun _ => mark0) ∧ (b ≤ m ∧ b ≤ bb' ∧ b ≤ mb') := by
    intro w5 w6 bb mb k ob om hbb hmb hne e6
    have := ob.lt
    have := om.lt
    have := k.sz
    have k6 : Kept none' w5 w6 := (Kept.refl _ _).al e6
    refine ⟨_, bb, mb, rfl, (k4.tr k).tr k6, ?_, by omega, by omega, by omega⟩
    rw [Int.toNat_natCast]
    exact ⟨own_alloc e6, ob.k k6, om.k k6, by omega, by omega, hne⟩
  refine ⟨fun w5 e5 => ⟨(on (w'' := w4) ((Kept.refl _ _).al e5)), fun w6 e6 => ⟨on (w'' := w4) (((Kept.refl _ _).al e5).al e6), (rep_spec (n := n) rfl (by decide) (own_alloc e6) (by omega)).mono ?_⟩⟩, fun w5 e5 => ⟨on (w'' := w4) ((Kept.refl _ _).al e5), fun w6 e6 => ⟨on (w'' := w4) (((Kept.refl _ _).al e5).al e6), (rep_spec (n := n) rfl (by decide) ((own_alloc e5).al e6) (by omega)).mono ?_⟩, (rep_spec (n := n) rfl (by decide) (own_alloc e5) (by omega)).mono ?_⟩⟩
  · rintro _ w7 ⟨mb, hmb, rfl, om, k7⟩
    have k5 : Kept none' w4 w5 := (Kept.refl _ _).al e5
    have k6 : Kept none' w5 w6 := (Kept.refl _ _).al e6
    refine ⟨_, _, _, rfl, on (w'' := w4) ((k5.tr k6).tr k7), fun w8 e8 => fin ((k5.tr k6).tr k7) (((own_alloc e5).k k6).k k7) om (Nat.le_refl _) ?_ ?_ e8⟩
    · have := k5.sz; have := k6.sz; omega
    · have := (own_alloc e5).lt; have := k6.sz; omega
  · rintro _ w7 ⟨mb, hmb, rfl, om, k7⟩
    have k5 : Kept none' w4 w5 := (Kept.refl _ _).al e5
    have k6 : Kept none' w5 w6 := (Kept.refl _ _).al e6
    refine ⟨_, _, _, rfl, on (w'' := w4) ((k5.tr k6).tr k7), fun w8 e8 => fin ((k5.tr k6).tr k7) ((own_alloc e6).k k7) om k5.sz ?_ ?_ e8⟩
    · have := k5.sz; have := k6.sz; omega
    · have := (own_alloc e6).lt; omega
  · rintro _ w7 ⟨mb, hmb, rfl, om, k7⟩
    have k5 : Kept none' w4 w5 := (Kept.refl _ _).al e5
    refine ⟨_, _, _, rfl, on (w'' := w4) (k5.tr k7), fun w8 e8 => ⟨on (w'' := w4) ((k5.tr k7).al e8), fun w9 e9 => ?_⟩⟩
    have k8 : Kept none' w7 w8 := (Kept.refl _ _).al e8
    exact fin ((k5.tr k7).tr k8) (own_alloc e8) (om.k k8) (by have := k5.sz; have := k7.sz; omega) (by have := k5.sz; omega) (by have := om.lt; omega) e9
end Go.Proofs.YtklmokolnakkoaaGreatDoor
