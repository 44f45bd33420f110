/-
  A part of a proof that a law of this seat returns true at every input. Conditions: those in each theorem.
-/
import Derived.Test.YtkmcmkimeibjdaaZC4
namespace Go.Proofs.Ytkmcmkimeibjdaa
open Go Eng
set_option linter.unusedSimpArgs false
set_option linter.unusedVariables false
set_option maxRecDepth 100000
/-! ### zones.New -/
theorem app_one {t e : TypeId} {z : Value} (ht : Try.prog.underlying t = some (.slice e)) (h : (Try.prog.info? e).map (fun i => (i.zero, i.size, i.bytes)) = some (some z, 1, 8)) (hz : z.cells.size = 1)
    {w : World} {base : Nat} {v : Value} {n : Nat} {xs : List Value} (ho : w.ownsRow base e 1 v n xs) {X m c off : Nat} {ys news : List Value} (hx : own w X ys) (hys : (ys.drop off).take m = news) (hl : news.length = m)
    (h1 : ∀ u ∈ news, u.oneCell' = true) (h63 : n + m ≤ 1000000) (hbase : base ≤ w.heap.size) :
    ∃ a l c' w', appIs Try.prog #[t, t] t v (.slice (some ⟨X, off, none⟩) m c) (.slice a l c') w w' ∧ l = n + m ∧ w'.ownsRow base e 1 (.slice a l c') (n + m) (xs ++ news) ∧ Kept (fun b => v.ownBlock = some b) w w' := by
  cases hi : Try.prog.info? e with
  | none => rw [hi] at h; cases h
  | some i =>
    rw [hi] at h
    simp at h
    exact app_own (P := Try.prog) (t := t) (ty := t) (e := e) (i := i) (z := z) (size := 1) ht hi h.1 h.2.1 hz (by decide) ho hx (by simpa using hys) (by simpa using hl) h1 h63 (by omega) hbase
theorem info_ptr : (Try.prog.info? 23).map (fun i => (i.zero, i.size, i.bytes)) = some (some (.pointer none), 1, 8) := by kernel_rfl
theorem info_int : (Try.prog.info? 3).map (fun i => (i.zero, i.size, i.bytes)) = some (some (.int .i64 0), 1, 8) := by kernel_rfl
theorem ptr_sep {w : World} {g x b t : Nat} {cs : List Value} {m : Nat → Nat} {s : Bst} (h : own w g cs) (hc : cs[0]? = some (ptr x)) (hb : BAt w b m t s) : ¬ bblk b m t g := by
  rintro (rfl | rfl | ⟨o, ho, rfl⟩)
  · have h1 := h.rd 0
    rw [hb.r0, hc] at h1
    cases h1
  · obtain ⟨ty, h⟩ := h
    obtain ⟨es, c, h1, _⟩ := hb.mt.ex
    rw [h] at h1; cases h1
  · obtain ⟨ty, h⟩ := h
    obtain ⟨es, c, h1, _⟩ := (hb.mf o ho).ex
    rw [h] at h1; cases h1
theorem run_sep {w : World} {g x b : Nat} {cs ds : List Value} {f : Nat → Int} (h : own w g cs) (hc : cs[0]? = some (ptr x)) (hb : own w b (cfg f ++ ds)) : g ≠ b := by
  rintro rfl
  have h1 := h.rd 0
  rw [hb.rd, hc, List.getElem?_append_left (by rw [runI_len]; omega), runI_get _ _ _ _ _ (by omega)] at h1
  cases h1
theorem zset {f : Nat → Int} {v v' : Value} : (cfg f ++ [v]).set 94 v' = cfg f ++ [v'] := by
  have hl : (cfg f).length = 94 := runI_len ..
  generalize cfg f = l at *
  rw [List.set_append, if_neg (by omega), hl]
  rfl
structure ZNew (w0 w : World) (z b0 base : Nat) (c : Nat → Int) (q : Nat) (a : Option Addr) (cp : Nat) (B T : Nat → Nat) (M : Nat → Nat → Nat) (L : Nat → List Bk) : Prop where
  kp : Kept none' w0 w
  ob : own w b0 (cfg c)
  so : own w z (cfg c ++ [.slice a q cp])
  row : w.ownsRow base 23 1 (.slice a q cp) q ((List.range q).map fun i => ptr (B i))
  bt : ∀ i, i < q → BAt w (B i) (M i) (T i) (stOf (c (18 + i)).toNat (L i))
  iv : ∀ i, i < q → Inv (c (18 + i)).toNat (L i)
  g0 : ∀ i, i < q → ∀ x ∈ L i, x.g = 0
  lo : ∀ i, i < q → ∀ x, bblk (B i) (M i) (T i) x → base ≤ x ∧ x ≠ z ∧ x ≠ b0
  ap : ∀ i j, i < q → j < q → i ≠ j → ∀ x, bblk (B i) (M i) (T i) x → ¬ bblk (B j) (M j) (T j) x
  sep : ∀ g, (Value.slice a q cp).ownBlock = some g → g ≠ z ∧ g ≠ b0 ∧ ∀ i, i < q → ¬ bblk (B i) (M i) (T i) g
theorem znew_spec (c : Nat → Int) (w : World) : Calls Try.prog 20 #[cfgV c] w fun r w' => Kept none' w w' ∧ ((¬ MayP c ∧ r = .returned (.tuple #[.pointer none, .int .i64 2])) ∨
    (MayP c ∧ ∃ z S L, r = .returned (.tuple #[ptr z, .int .i64 0]) ∧ ZAt w' z S L ∧ S.c = c ∧ (∀ i, i < S.k → ∀ x ∈ L i, x.g = 0) ∧ ∀ x, S.all z x → w.heap.size ≤ x)) := by
  refine (vc20 c w (fun v w' => Kept none' w w' ∧ ((¬ MayP c ∧ v = (.tuple #[.pointer none, .int .i64 2])) ∨
    (MayP c ∧ ∃ z S L, v = (.tuple #[ptr z, .int .i64 0]) ∧ ZAt w' z S L ∧ S.c = c ∧ (∀ i, i < S.k → ∀ x ∈ L i, x.g = 0) ∧ ∀ x, S.all z x → w.heap.size ≤ x))) ?_).mono ?_
  · unfold vcP20
    intro w1 e1
    have o1 := own_alloc e1
    have k1 : Kept none' w w1 := (Kept.refl _ _).al e1
    have z1 : w1.heap.size = w.heap.size + 1 := by rw [e1]; simp only [World.alloc, Array.size_push]
    generalize hb : w.heap.size = b0 at *
    refine ⟨c, o1.rIall, (may_spec c w1).mono ?_⟩
    rintro _ w2 ⟨mb, rfl, hmb, k2⟩
    have o2 := o1.k k2
    have K2 := k1.tr k2
    refine ⟨_, rfl, Wif_intro (fun hc => ?_) (fun hc => ?_)⟩
    · have : mb = false := by simpa using hc
      subst this
      exact ⟨K2, .inl ⟨by simpa using hmb, rfl⟩⟩
    have : mb = true := by simpa using hc
    subst this
    have hm : MayP c := hmb.1 rfl
    have h0 := hm.1
    refine ⟨c, o2.rIall, ?_⟩
    intro w3 e3
    have o3 := o2.al e3
    have p3 := own_alloc e3
    have K3 : Kept none' w w3 := K2.al e3
    have z2 := k2.sz
    have ob2 := o2.lt
    generalize hz : w2.heap.size = z at *
    have z3 : w3.heap.size = z + 1 := by rw [e3, ← hz]; simp only [World.alloc, Array.size_push]
    refine ⟨c 0, o3.rI (by omega), Wif_yes (okSl_of (by omega) (by omega) (by omega)) ?_⟩
    refine ⟨fun k w' N => ∃ (q : Nat) (a : Option Addr) (cp : Nat) (B T : Nat → Nat) (M : Nat → Nat → Nat) (L : Nat → List Bk), k = q ∧ (q : Int) ≤ c 0 ∧ N = (c 0).toNat - q ∧ ZNew w w' z b0 b0 c q a cp B T M L ∧ (q = 0 → a = none),
      ⟨(c 0).toNat, 0, none, 0, fun _ => 0, fun _ => 0, fun _ _ => 0, fun _ => [], rfl, by omega, rfl, ⟨K3, o3, p3, World.ownsRow_nil _ _ _ _, fun i hi => absurd hi (Nat.not_lt_zero _), fun i hi => absurd hi (Nat.not_lt_zero _), fun i hi => absurd hi (Nat.not_lt_zero _), fun i hi => absurd hi (Nat.not_lt_zero _), fun i j hi => absurd hi (Nat.not_lt_zero _), fun g hg => by simp [Value.ownBlock] at hg⟩, fun _ => rfl⟩, ?_⟩
    rintro _ w4 _ ⟨q, a, cp, B, T, M, L, rfl, hq, rfl, N4, ha⟩
    have hzb : z ≠ b0 := by omega
    refine Wif_intro (fun hc2 => ?_) (fun hc2 => ?_)
    · simp only [decide_eq_true_eq] at hc2
      refine Wif_yes (inB_of (by omega) (by omega)) ⟨c (18 + q), by rw [Int.toNat_natCast, Nat.mul_one]; exact N4.ob.rI (by omega), (new_spec w4 (c (18 + q))).mono ?_⟩
      have hfr := hm.fr (i := q) (by omega)
      rintro _ w5 (⟨h, _⟩ | ⟨Nn, b, m, t, l, hN, rfl, k5, h5, i5, g5, fr5⟩)
      · omega
      have eN : Nn = (c (18 + q)).toNat := by omega
      subst eN
      have so5 := N4.so.k k5
      refine ⟨_, _, rfl, a, q, cp, ?_, ?_⟩
      · rw [so5.rd, List.getElem?_append_right (by rw [runI_len]; omega), runI_len]; rfl
      intro w6 e6
      have k56 : Kept none' w5 w6 := (Kept.refl _ _).al e6
      have k46 := k5.tr k56
      have p6 := own_alloc (c := [ptr b]) e6
      have row6 := ownsRow_kx N4.row k46 (fun _ _ _ _ => id)
      have s46 := k46.sz
      have s04 := N4.kp.sz
      obtain ⟨a', l', c', w7, happ, rfl, row7, k7⟩ := app_one (t := 79) (e := 23) Try.underlying79 info_ptr rfl row6 p6 (m := 1) (off := 0) (c := 1) (news := [ptr b]) rfl rfl (fun u hu => by simp at hu; subst hu; rfl) (by omega) (by omega)
      refine ⟨a', q + 1, c', w7, happ, ?_⟩
      have so7 := (so5.k k56).kx k7 (fun e => (N4.sep _ e).1 rfl)
      have ob7 := (N4.ob.k k46).kx k7 (fun e => (N4.sep _ e).2.1 rfl)
      have bt7 : ∀ i, i < q → BAt w7 (B i) (M i) (T i) (stOf (c (18 + i)).toNat (L i)) := fun i hi => ((N4.bt i hi).k k46).kx k7 fun x e hx => (N4.sep x e).2.2 i hi hx
      have h7 : BAt w7 b m t (stOf (c (18 + q)).toNat l) := (h5.k k56).kx k7 fun x e hx => by
        -- the row's block is an old one
        have hf := fr5 x hx
        obtain ⟨_, hh⟩ := ownsRow_own N4.row
        rcases hh with ⟨rfl, _⟩ | ⟨g, cs, rfl, _, og, _⟩
        · simp [Value.ownBlock] at e
        · simp [Value.ownBlock] at e
          have := og.lt
          omega
      have hrow : (List.range q).map (fun i => ptr (B i)) ++ [ptr b] = (List.range (q + 1)).map fun i => ptr (upd B q b i) := by
        rw [List.range_succ, List.map_append]
        congr 1
        · apply List.map_congr_left
          intro i hi
          rw [upd_ne _ _ (by have := List.mem_range.1 hi; omega)]
        · simp
      rw [hrow] at row7
      obtain ⟨_, hh⟩ := ownsRow_own row7
      rcases hh with ⟨_, h00, _⟩ | ⟨g, cs, rfl, hgb, og, htk, _, _⟩
      · omega
      have hc0 : cs[0]? = some (ptr (upd B q b 0)) := by
        have : (cs.take ((q + 1) * 1))[0]? = some (ptr (upd B q b 0)) := by rw [htk]; simp
        rw [List.getElem?_take] at this
        split at this
        · exact this
        · cases this
      refine ⟨so7.wr (by simp [runI_len]), ?_⟩
      intro w8 e8
      have so8 := so7.s1 e8
      rw [zset] at so8
      have k78 : Kept (· = z) w7 w8 := (Kept.refl _ _).s1 e8 (.inl rfl)
      have ob8 := ob7.kx k78 (Ne.symm hzb)
      have hzl := N4.so.lt
      have hbl := N4.ob.lt
      have lo' : ∀ i, i < q + 1 → ∀ x, bblk (upd B q b i) (upd M q m i) (upd T q t i) x → b0 ≤ x ∧ x ≠ z ∧ x ≠ b0 := fun i hi x hx => by
        by_cases e : i = q
        · subst e
          simp only [upd_same] at hx
          have := fr5 x hx
          omega
        · simp only [upd_ne _ _ e] at hx
          exact N4.lo i (by omega) x hx
      refine ⟨(c 0).toNat - (q + 1), by omega, q + 1, some ⟨g, 0, none⟩, c', upd B q b, upd T q t, upd M q m, upd L q l, by rw [wi (by omega)]; rfl, by omega, rfl, ⟨?_, ob8, so8, ?_, fun i hi => ?_, fun i hi => ?_, fun i hi => ?_, lo', fun i j hi hj hij x hx hx' => ?_, fun g' hg' => ?_⟩, fun h => by omega⟩
      · refine (((N4.kp.tr k46).trans k7 fun x hx e => ?_).trans k78 fun x hx e => by omega)
        obtain ⟨_, hh⟩ := ownsRow_own N4.row
        rcases hh with ⟨rfl, _⟩ | ⟨g, cs, rfl, hgb, og, _⟩
        · simp [Value.ownBlock] at e
        · simp [Value.ownBlock] at e
          omega
      · exact ownsRow_kx row7 k78 fun x _ _ e hx => by
          simp [Value.ownBlock] at e
          subst e
          exact run_sep og hc0 so7 hx
      · by_cases e : i = q
        · subst e
          simp only [upd_same]
          exact h7.kx k78 fun x e hx => by have := fr5 x hx; omega
        · simp only [upd_ne _ _ e]
          exact (bt7 i (by omega)).kx k78 fun x e hx => (N4.lo i (by omega) x hx).2.1 e
      · by_cases e : i = q
        · subst e; simp only [upd_same]; exact i5
        · simp only [upd_ne _ _ e]; exact N4.iv i (by omega)
      · by_cases e : i = q
        · subst e; simp only [upd_same]; exact g5
        · simp only [upd_ne _ _ e]; exact N4.g0 i (by omega)
      · have hold : ∀ i, i < q → ∀ x, bblk (B i) (M i) (T i) x → x < w4.heap.size := fun i hi x hx => (N4.bt i hi).lt hx
        by_cases e : i = q
        · subst e
          simp only [upd_same, upd_ne _ _ (Ne.symm hij)] at hx hx'
          have := fr5 x hx
          have := hold j (by omega) x hx'
          omega
        · by_cases e' : j = q
          · subst e'
            simp only [upd_same, upd_ne _ _ e] at hx hx'
            have := fr5 x hx'
            have := hold i (by omega) x hx
            omega
          · simp only [upd_ne _ _ e, upd_ne _ _ e'] at hx hx'
            exact N4.ap i j (by omega) (by omega) hij x hx hx'
      · simp [Value.ownBlock] at hg'
        subst hg'
        refine ⟨run_sep og hc0 so7, run_sep (ds := []) og hc0 (by rw [List.append_nil]; exact ob7), fun i hi => ?_⟩
        by_cases e : i = q
        · subst e; simp only [upd_same]; exact ptr_sep og hc0 h7
        · simp only [upd_ne _ _ e]; exact ptr_sep og hc0 (bt7 i (by omega))
    · have hqk : (q : Int) = c 0 := by simp at hc2; omega
      obtain ⟨_, hh⟩ := ownsRow_own N4.row
      rcases hh with ⟨_, h00, _⟩ | ⟨g, cs, rfl, hgb, og, htk, _, _⟩
      · omega
      have hsep := N4.sep g (by simp [Value.ownBlock])
      refine ⟨N4.kp, .inr ⟨hm, z, ⟨g, cp, c, q, B, T, M⟩, L, rfl, ⟨N4.so, ⟨cs, og, fun i hi => ?_⟩, N4.bt, N4.iv, N4.ap, fun i hi x hx => ⟨(N4.lo i hi x hx).2.1, fun e => hsep.2.2 i hi (by rw [← (show x = g from e)]; exact hx)⟩, hqk, hm⟩, rfl, N4.g0, fun x hx => ?_⟩⟩
      · have : (cs.take (q * 1))[i]? = some (ptr (B i)) := by rw [htk]; simp [hi]
        rw [List.getElem?_take] at this
        split at this
        · exact this
        · cases this
      · rcases hx with rfl | rfl | ⟨i, hi, hx⟩
        · omega
        · exact hgb
        · exact (N4.lo i hi x hx).1
  · rintro e w' ⟨v, rfl, hk, hw⟩
    refine ⟨hk, ?_⟩
    rcases hw with ⟨h1, rfl⟩ | ⟨h1, z, S, L, rfl, hw⟩
    · exact .inl ⟨h1, rfl⟩
    · exact .inr ⟨h1, z, S, L, rfl, hw⟩
end Go.Proofs.Ytkmcmkimeibjdaa
