/-
  A part of a proof that a law of this seat returns true at every input. Conditions: those in each theorem.
-/
import Derived.Test.YtikjgeenhbnkkaaGreatDoorA0
import Derived.Test.YtikjgeenhbnkkaaGreatDoorAH2
set_option linter.unusedSimpArgs false
set_option linter.unusedVariables false
set_option maxRecDepth 100000
namespace Go.Proofs.YtikjgeenhbnkkaaGreatDoor
open Go Eng
def mark0 : Mark := ⟨1, 0, 0, 0, 0⟩
def freshP : Pic := { c := cfg4, marks := List.replicate 4 mark0, free := [(0, 2)], held := [[]], flying := [[]], flight := [-1], procs := [], frames := [], clocks := [[]], slots := [], slabs := [], mags := [List.replicate 8 []], depots := [List.replicate 8 []], holders := List.replicate 10 (-1) }
theorem sl_own {α : Type} {R : Rd α} {s : Nat} {w : World} {b : Nat} {cs : List Value} {xs : List α} (o : own w b cs) (hm : xs.length ≤ 1000) (h : ∀ (i : Nat) (x : α), xs[i]? = some x → ∃ ds : List Value, ds.length = s ∧ R w ds x ∧ ∀ (j : Nat) (u : Value), ds[j]? = some u → cs[i * s + j]? = some u) :
    SlR R s w (some ⟨b, 0, none⟩) xs.length xs.length xs := by
  refine ⟨rfl, fun _ => rfl, fun h => (by cases h), Nat.le_refl _, by unfold maxLen; omega, fun i x hx => ?_⟩
  obtain ⟨ds, h1, h2, h3⟩ := h i x hx
  refine ⟨ds, h1, h2, fun j u hu => ?_⟩
  show rd w b (0 + i * s + j) = some u
  rw [Nat.zero_add, o.rd]
  exact h3 j u hu
def picM (β : Nat → Nat) (m h : Value) : List Value := runI .i64 cfg4 0 94 ++ [m, sl (β 10) 1, sl (β 1) 1, sl (β 2) 1, sl (β 3) 1, nl, nl, sl (β 4) 1, nl, nl, sl (β 6) 1, sl (β 8) 1, h]
theorem picM_len (β : Nat → Nat) (m h : Value) : (picM β m h).length = 107 := by unfold picM; rw [List.length_append, runI_len]; rfl
theorem picM_set0 (β : Nat → Nat) (m h v : Value) : (picM β m h).set 94 v = picM β v h := by
  unfold picM
  rw [List.set_append_right _ _ (by rw [runI_len]; omega), runI_len]
  rfl
theorem picM_set12 (β : Nat → Nat) (m h v : Value) : (picM β m h).set 106 v = picM β m v := by
  unfold picM
  rw [List.set_append_right _ _ (by rw [runI_len]; omega), runI_len]
  rfl
theorem picM_0 (β : Nat → Nat) (m h : Value) : (picM β m h)[94]? = some m := by
  unfold picM
  rw [List.getElem?_append_right (by rw [runI_len]; omega), runI_len]
  rfl
theorem picM_12 (β : Nat → Nat) (m h : Value) : (picM β m h)[106]? = some h := by
  unfold picM
  rw [List.getElem?_append_right (by rw [runI_len]; omega), runI_len]
  rfl
def markC (q : Nat) : List Value := (List.replicate q [Value.int .u8 1, .int .i64 0, .int .i64 0, .int .i64 0, .int .i64 0]).flatMap id
theorem markC_succ (q : Nat) : markC (q + 1) = markC q ++ [Value.int .u8 1, .int .i64 0, .int .i64 0, .int .i64 0, .int .i64 0] := by
  unfold markC
  rw [List.replicate_succ', List.flatMap_append]
  rfl
theorem info_mark : (Tryz.prog.info? 61).map (fun i => (i.zero, i.size, i.bytes)) = some (some (.agg #[.int .u8 0, .int .i64 0, .int .i64 0, .int .i64 0, .int .i64 0]), 5, 40) := by kernel_rfl
structure FParts (w : World) (β : Nat → Nat) : Prop where
  cels : ∀ i, i < 12 → isAl i = true → own w (β i) (celF β i)
theorem FParts.kx {X : Nat → Prop} {w w' : World} {β : Nat → Nat} (h : FParts w β) (k : Kept X w w') (hx : ∀ i, i < 12 → isAl i = true → ¬ X (β i)) : FParts w' β := ⟨fun i hi ha => (h.cels i hi ha).kx k (hx i hi ha)⟩
def sliceS (a : Option Addr) (l c : Nat) (β : Nat → Nat) (a' : Option Addr) (l' c' : Nat) : PicS :=
  ⟨fun i => match i with | 0 => a | 1 => some ⟨β 10, 0, none⟩ | 2 => some ⟨β 1, 0, none⟩ | 3 => some ⟨β 2, 0, none⟩ | 4 => some ⟨β 3, 0, none⟩ | 7 => some ⟨β 4, 0, none⟩ | 10 => some ⟨β 6, 0, none⟩ | 11 => some ⟨β 8, 0, none⟩ | 12 => a' | _ => none,
   fun i => match i with | 0 => l | 1 => 1 | 2 => 1 | 3 => 1 | 4 => 1 | 7 => 1 | 10 => 1 | 11 => 1 | 12 => l' | _ => 0,
   fun i => match i with | 0 => c | 1 => 1 | 2 => 1 | 3 => 1 | 4 => 1 | 7 => 1 | 10 => 1 | 11 => 1 | 12 => c' | _ => 0⟩
theorem parts_picR {w : World} {β : Nat → Nat} {a a' : Option Addr} {l c l' c' : Nat} (h : FParts w β) (hm : SlR RMark 5 w a l c (List.replicate 4 mark0)) (hh : SlR RInt 1 w a' l' c' (List.replicate 10 (-1))) : PicR w (sliceS a l c β a' l' c') freshP := by
  have one : ∀ {α : Type} {R : Rd α} {x : α} {i : Nat} (hi : i < 12) (ha : isAl i = true), celF β i = [nl] → R w [nl] x → SlR R 1 w (some ⟨β i, 0, none⟩) 1 1 [x] := by
    intro α R x i hi ha hc hR
    refine sl_own (xs := [x]) (h.cels i hi ha) (by simp) fun j y hy => ?_
    have hj : j = 0 := by have := (List.getElem?_eq_some_iff.1 hy).1; simp at this; exact this
    subst hj
    simp at hy
    subst hy
    exact ⟨[nl], rfl, hR, fun j u hu => by rw [hc]; simpa using hu⟩
  have eight : ∀ (i : Nat), i < 12 → isAl i = true → celF β i = List.replicate 8 nl → SlR (RL RPair 2) 1 w (some ⟨β i, 0, none⟩) 8 8 (List.replicate 8 []) := by
    intro i hi ha hc
    refine sl_own (xs := List.replicate 8 ([] : List (Int × Int))) (h.cels i hi ha) (by simp) fun j y hy => ?_
    have hj := (List.getElem?_eq_some_iff.1 hy).1
    have hy : y = [] := List.eq_of_mem_replicate (List.mem_of_getElem? hy)
    subst hy
    refine ⟨[nl], rfl, ⟨none, 0, 0, rfl, SlR.nil'⟩, fun k u hu => ?_⟩
    have hk : k = 0 := by have := (List.getElem?_eq_some_iff.1 hu).1; simp at this; exact this
    subst hk
    simp at hu hj
    subst hu
    rw [hc, Nat.mul_one, Nat.add_zero, List.getElem?_replicate, if_pos hj]
  have depot : ∀ (i j : Nat), i < 12 → isAl i = true → celF β i = [sl (β j) 8] → SlR (RL RPair 2) 1 w (some ⟨β j, 0, none⟩) 8 8 (List.replicate 8 []) → SlR (RL (RL RPair 2) 1) 1 w (some ⟨β i, 0, none⟩) 1 1 [List.replicate 8 []] := by
    intro i j hi ha hc hs
    refine sl_own (xs := [List.replicate 8 ([] : List (Int × Int))]) (h.cels i hi ha) (by simp) fun k y hy => ?_
    have hk : k = 0 := by have := (List.getElem?_eq_some_iff.1 hy).1; simp at this; exact this
    subst hk
    simp only [List.getElem?_cons_zero, Option.some.injEq] at hy
    subst hy
    exact ⟨[sl (β j) 8], rfl, ⟨_, 8, 8, rfl, hs⟩, fun m u hu => by rw [hc]; simpa using hu⟩
  refine ⟨hm, ?_, one (i := 1) (by decide) rfl rfl ⟨none, 0, 0, rfl, SlR.nil'⟩, one (i := 2) (by decide) rfl rfl ⟨none, 0, 0, rfl, SlR.nil'⟩, ?_, SlR.nil', SlR.nil', one (i := 4) (by decide) rfl rfl ⟨none, 0, 0, rfl, SlR.nil'⟩, SlR.nil', SlR.nil',
    depot 6 5 (by decide) rfl rfl (eight 5 (by decide) rfl rfl), depot 8 7 (by decide) rfl rfl (eight 7 (by decide) rfl rfl), hh⟩
  · refine sl_own (xs := [((0 : Int), (2 : Int))]) (h.cels 10 (by decide) rfl) (by simp) fun j y hy => ?_
    have hj : j = 0 := by have := (List.getElem?_eq_some_iff.1 hy).1; simp at this; exact this
    subst hj
    simp only [List.getElem?_cons_zero, Option.some.injEq] at hy
    subst hy
    exact ⟨[vi 0, vi 2], rfl, rfl, fun m u hu => by simpa [celF] using hu⟩
  · refine sl_own (xs := [(-1 : Int)]) (h.cels 3 (by decide) rfl) (by simp) fun j y hy => ?_
    have hj : j = 0 := by have := (List.getElem?_eq_some_iff.1 hy).1; simp at this; exact this
    subst hj
    simp only [List.getElem?_cons_zero, Option.some.injEq] at hy
    subst hy
    exact ⟨[vi (-1)], rfl, rfl, fun m u hu => by simpa [celF] using hu⟩
theorem cfg_eq : (([Value.int .i64 1, .int .i64 1] ++ List.replicate 92 (Value.int .i64 0)).set 18 (.int .i64 4)) = runI .i64 cfg4 0 94 := by kernel_rfl
theorem markC_get (q i j : Nat) (hi : i < q) (hj : j < 5) : (markC q)[i * 5 + j]? = [Value.int .u8 1, .int .i64 0, .int .i64 0, .int .i64 0, .int .i64 0][j]? := by
  induction q with
  | zero => omega
  | succ q ih =>
    have hl : (markC q).length = q * 5 := by
      clear ih hi
      induction q with
      | zero => rfl
      | succ q ih => rw [markC_succ, List.length_append, ih]; simp; omega
    rw [markC_succ]
    by_cases h : i < q
    · rw [List.getElem?_append_left (by omega)]
      exact ih h
    · have : i = q := by omega
      subst this
      rw [List.getElem?_append_right (by omega), hl, Nat.add_sub_cancel_left]
theorem fresh_spec (w : World) : Calls Tryz.prog 30 #[] w fun e w' => ∃ S, e = .returned (picV S cfg4) ∧ Kept none' w w' ∧ PicR w' S freshP := by
  refine (vc30 w (fun v w' => ∃ S, v = picV S cfg4 ∧ Kept none' w w' ∧ PicR w' S freshP) ?_).mono ?_
  rotate_left
  · rintro e w' ⟨v, rfl, S, rfl, hw⟩
    exact ⟨S, rfl, hw⟩
  unfold vcP30
  intro w1 e1 w2 e2
  have o1 := own_alloc (c := List.replicate 94 (Value.int .i64 0) ++ List.replicate 13 nl) e1
  have k1 : Kept none' w w1 := (Kept.refl _ _).al e1
  have o2 := own_alloc (c := List.replicate 94 (Value.int .i64 0)) e2
  have o12 := o1.al e2
  have k2 := k1.al e2
  refine ⟨o2.wrAll 0 (by simp), fun w3 e3 => ?_⟩
  obtain ⟨o3, k23⟩ := stAll_whole o2 e3 (by simp)
  have h1lt := o12.lt
  have s2 : w1.heap.size < w2.heap.size := o2.lt
  have s1 : w.heap.size < w1.heap.size := o1.lt
  have o13 := o12.kx k23 (by omega)
  have k3 : Kept none' w w3 := own0 k2 k23 fun b hb => by omega
  refine ⟨o3.wr (by simp), fun w4 e4 => ?_⟩
  have o4 := o3.s1 e4
  rw [cfg_eq] at o4
  have o14 := o13.n1 e4 (by omega)
  have k4 : Kept none' w w4 := own0 k3 ((Kept.refl (· = w1.heap.size) w3).s1 e4 (.inl rfl)) fun b hb => by omega
  refine ⟨fun p w' => ∃ β, p = some ⟨β 12, 0, none⟩ ∧ FFin w4 β w', reg30 o4 rfl rfl fun β w' hf => ⟨β, rfl, hf⟩, ?_⟩
  rintro _ w5 ⟨β, rfl, hf⟩
  have k5 := k4.tr hf.kp
  have o15 := o14.k hf.kp
  have op5 : own w5 (β 12) (picM β nl nl) := hf.pic.1
  have hp5 : FParts w5 β := ⟨fun i hi ha => (hf.cels i hi ha).1⟩
  have hbn : ∀ i, i < 12 → isAl i = true → β i ≠ β 12 ∧ w4.heap.size ≤ β i ∧ β i < w5.heap.size := fun i hi ha => ⟨(hf.cels i hi ha).2.2, (hf.cels i hi ha).2.1, (hf.cels i hi ha).1.lt⟩
  have hb12 := hf.pic.2
  have h12lt := op5.lt
  have h14lt := o14.lt
  have hinfo := info_mark
  cases hi : Tryz.prog.info? 61 with
  | none => rw [hi] at hinfo; cases hinfo
  | some i0 =>
  rw [hi] at hinfo
  simp at hinfo
  refine ⟨fun n w' M => ∃ (q : Nat) (a : Option Addr) (c : Nat), n = (q : Int) ∧ q ≤ 4 ∧ M = 4 - q ∧ Kept (· = β 12) w5 w' ∧ own w' (β 12) (picM β (.slice a q c) nl) ∧ w'.ownsRow w5.heap.size 61 5 (.slice a q c) q (markC q), ⟨4, 0, none, 0, rfl, by omega, rfl, Kept.refl _ _, op5, World.ownsRow_nil _ _ _ _⟩, ?_⟩
  rintro _ w6 _ ⟨q, a, c, rfl, hq, rfl, k6, o6, row6⟩
  refine Wif_intro (fun hc => ?_) (fun hc => ?_)
  · have hq4 : q < 4 := by simp at hc; omega
    refine Wif_yes rfl ⟨a, q, c, (o6.rd 94).trans (picM_0 β _ _), fun w7 e7 => ?_⟩
    have o7 := own_alloc (c := [Value.int .u8 1, .int .i64 0, .int .i64 0, .int .i64 0, .int .i64 0]) e7
    have q7 : Kept none' w6 w7 := (Kept.refl _ _).al e7
    have s6 := k6.sz
    have row7 := ownsRow_kx row6 q7 fun _ _ _ _ => id
    obtain ⟨a', l', c', w8, happ, rfl, row8, k8, _⟩ := app_any (P := Tryz.prog) (t := 27) (e := 61) (i := i0) (z := .agg #[.int .u8 0, .int .i64 0, .int .i64 0, .int .i64 0, .int .i64 0]) (size := 5) Tryz.underlying27 hi hinfo.1 hinfo.2.1 rfl (by decide) row7 o7 (m := 1) (off := 0) (c := 1) (news := [Value.int .u8 1, .int .i64 0, .int .i64 0, .int .i64 0, .int .i64 0]) rfl rfl (fun u hu => by simp at hu; rcases hu with rfl | rfl <;> rfl) (by omega) (by omega) (by have := q7.sz; omega)
    have hne : ∀ b, (Value.slice a q c).ownBlock = some b → b ≠ β 12 := fun b hb => by have := (row7.lt b hb).1; omega
    have o8 := (o6.k q7).kx k8 fun hb => hne _ hb rfl
    refine ⟨a', _, c', w8, happ, Wif_yes rfl ⟨o8.wr (by show (0 : Nat) + 94 < _; rw [picM_len]; omega), fun w9 e9 => ?_⟩⟩
    have o9 := o8.s1 e9
    replace o9 : own w9 (β 12) ((picM β (.slice a q c) nl).set 94 (.slice a' (q + 1) c')) := by simpa [po] using o9
    rw [picM_set0] at o9
    have k9 : Kept (· = β 12) w8 w9 := (Kept.refl _ _).s1 e9 (.inl rfl)
    refine ⟨4 - (q + 1), by omega, q + 1, a', c', by rw [wi (by omega)]; rfl, by omega, rfl, ?_, o9, ?_⟩
    · exact ((k6.trans q7 fun _ _ h => h.elim).trans k8 fun b hb hh => by have := (row7.lt b hh).1; omega).trans k9 fun _ _ h => h
    · rw [markC_succ]
      exact ownsRow_kx row8 k9 fun b hb _ _ e => by omega
  have hq4 : q = 4 := by simp at hc; omega
  subst hq4
  have hmk : SlR RMark 5 w6 a 4 c (List.replicate 4 mark0) := by
    rcases row6.2 with ⟨hv, h0⟩ | ⟨g, cap, cur, hv, hb, hgg, hnc, hm, hsz, htk⟩
    · exact absurd h0 (by decide)
    · cases hv
      refine ⟨rfl, fun _ => rfl, fun h => (by cases h), hnc, hm, fun i x hx => ⟨[.int .u8 1, vi 0, vi 0, vi 0, vi 0], rfl, ?_, fun j u hu => ?_⟩⟩
      · have : x = mark0 := List.eq_of_mem_replicate (List.mem_of_getElem? hx)
        subst this
        rfl
      · have hi4 : i < 4 := by have := (List.getElem?_eq_some_iff.1 hx).1; simpa using this
        have hj5 : j < 5 := by have := (List.getElem?_eq_some_iff.1 hu).1; simpa using this
        show rd w6 g (0 + i * 5 + j) = _
        rw [Nat.zero_add, rd_def, hgg]
        have h1 : (cur.toList.take (4 * 5))[i * 5 + j]? = (markC 4)[i * 5 + j]? := by rw [htk]
        rw [List.getElem?_take_of_lt (by omega), markC_get 4 i j hi4 hj5] at h1
        show cur[i * 5 + j]? = some u
        rw [← Array.getElem?_toList, h1]
        exact hu
  clear hc hq
  -- holders
  have s6 := k6.sz
  refine ⟨fun n w' M => ∃ (q : Nat) (a' : Option Addr) (l' c' : Nat), n = (q : Int) ∧ q ≤ 10 ∧ M = 10 - q ∧ Kept (· = β 12) w6 w' ∧ own w' (β 12) (picM β (.slice a 4 c) (.slice a' l' c')) ∧ RowI w' w6.heap.size a' l' c' (List.replicate q (-1)), ⟨10, 0, none, 0, 0, rfl, by omega, rfl, Kept.refl _ _, o6, RowI.nil'⟩, ?_⟩
  rintro _ w7 _ ⟨q, a', l', c', rfl, hq, rfl, k7, o7, row7⟩
  refine Wif_intro (fun hc => ?_) (fun hc => ?_)
  · have hq10 : q < 10 := by simp at hc; omega
    refine Wif_yes rfl ⟨a', l', c', (o7.rd 106).trans (picM_12 β _ _), fun w8 e8 => ?_⟩
    obtain ⟨a2, l2, c2, w9, happ, row9, k9, k9', _⟩ := row7.add4 k7 e8 (by simp; omega)
    have hne : ∀ b, (Value.slice a' l' c').ownBlock = some b → b ≠ β 12 := fun b hb => by have := row7.ge hb; omega
    have o9 := o7.kx k9' fun hb => hne _ hb rfl
    refine ⟨a2, l2, c2, w9, happ, Wif_yes rfl ⟨o9.wr (by show (0 : Nat) + 106 < _; rw [picM_len]; omega), fun w10 e10 => ?_⟩⟩
    have o10 := o9.s1 e10
    replace o10 : own w10 (β 12) ((picM β (.slice a 4 c) (.slice a' l' c')).set 106 (.slice a2 l2 c2)) := by simpa [po] using o10
    rw [picM_set12] at o10
    have k10 : Kept (· = β 12) w9 w10 := (Kept.refl _ _).s1 e10 (.inl rfl)
    refine ⟨10 - (q + 1), by omega, q + 1, a2, l2, c2, by rw [wi (by omega)]; rfl, by omega, rfl, k9.trans k10 fun _ _ h => h, o10, ?_⟩
    rw [List.replicate_succ']
    exact ⟨row9.1, ownsRow_kx row9.2 k10 fun b hb _ _ e => by omega⟩
  have hq10 : q = 10 := by simp at hc; omega
  subst hq10
  have hhd : SlR RInt 1 w7 a' l' c' (List.replicate 10 (-1)) := sl_of_row row7.1 row7.2
  have k57 : Kept (· = β 12) w5 w7 := k6.trans k7 fun _ _ h => h
  have k07 : Kept none' w w7 := own0 k5 k57 fun b hb => by have := k4.sz; omega
  have hp7 := hp5.kx k57 fun i hi ha => (hbn i hi ha).1
  have hmk7 : SlR RMark 5 w7 a 4 c (List.replicate 4 mark0) := by
    refine ⟨hmk.len, hmk.isp, hmk.nil, hmk.lc, hmk.mx, fun i x hx => ?_⟩
    obtain ⟨cs, g1, g2, g3⟩ := hmk.el i x hx
    refine ⟨cs, g1, g2, fun j u hu => k7.rd_some (g3 j u hu) fun hb => ?_⟩
    rcases row6.2 with ⟨hv, h0⟩ | ⟨g, cap, cur, hv, hb', _⟩
    · exact absurd h0 (by decide)
    · cases hv
      have : g = β 12 := hb
      omega
  have hpic7 := parts_picR hp7 hmk7 hhd
  have o17 : own w7 w.heap.size (List.replicate 94 (Value.int .i64 0) ++ List.replicate 13 nl) := o15.kx k57 (by omega)
  have hrdl : picM β (.slice a 4 c) (.slice a' l' c') = picC (sliceS a 4 c β a' l' c') cfg4 := rfl
  refine Wif_yes rfl ⟨cfg4, a, 4, c, some ⟨β 10, 0, none⟩, 1, 1, some ⟨β 1, 0, none⟩, 1, 1, some ⟨β 2, 0, none⟩, 1, 1, some ⟨β 3, 0, none⟩, 1, 1, none, 0, 0, none, 0, 0, some ⟨β 4, 0, none⟩, 1, 1, none, 0, 0, none, 0, 0, some ⟨β 6, 0, none⟩, 1, 1, some ⟨β 8, 0, none⟩, 1, 1, a', l', c', o7.rdAll (vs := picM β (.slice a 4 c) (.slice a' l' c')) 0 (fun j _ => by rw [Nat.zero_add]), o17.wrAll (vs := picM β (.slice a 4 c) (.slice a' l' c')) 0 (by rw [picM_len]; simp), fun w8 e8 => ?_⟩
  obtain ⟨o8, k8⟩ := stAll_whole (vs := picM β (.slice a 4 c) (.slice a' l' c')) o17 e8 (by rw [picM_len]; simp)
  have k08 : Kept none' w w8 := own0 k07 k8 fun b hb => by omega
  have hne0 : ∀ i, i < 12 → isAl i = true → β i ≠ w.heap.size := fun i hi ha => by have := (hbn i hi ha).2.1; omega
  have hp8 := hp7.kx k8 hne0
  have hmk8 : SlR RMark 5 w8 a 4 c (List.replicate 4 mark0) := by
    refine ⟨hmk.len, hmk.isp, hmk.nil, hmk.lc, hmk.mx, fun i x hx => ?_⟩
    obtain ⟨cs, g1, g2, g3⟩ := hmk7.el i x hx
    refine ⟨cs, g1, g2, fun j u hu => k8.rd_some (g3 j u hu) fun hb => ?_⟩
    rcases row6.2 with ⟨hv, h0⟩ | ⟨g, cap, cur, hv, hb', _⟩
    · exact absurd h0 (by decide)
    · cases hv
      have : g = w.heap.size := hb
      omega
  have hhd8 : SlR RInt 1 w8 a' l' c' (List.replicate 10 (-1)) := by
    have row8 : RowI w8 w6.heap.size a' l' c' (List.replicate 10 (-1)) := ⟨row7.1, ownsRow_kx row7.2 k8 fun b hb _ _ e => by omega⟩
    exact sl_of_row row8.1 row8.2
  exact ⟨cfg4, a, 4, c, some ⟨β 10, 0, none⟩, 1, 1, some ⟨β 1, 0, none⟩, 1, 1, some ⟨β 2, 0, none⟩, 1, 1, some ⟨β 3, 0, none⟩, 1, 1, none, 0, 0, none, 0, 0, some ⟨β 4, 0, none⟩, 1, 1, none, 0, 0, none, 0, 0, some ⟨β 6, 0, none⟩, 1, 1, some ⟨β 8, 0, none⟩, 1, 1, a', l', c', o8.rdAll (vs := picM β (.slice a 4 c) (.slice a' l' c')) 0 (fun j _ => by rw [Nat.zero_add]), sliceS a 4 c β a' l' c', rfl, k08, parts_picR hp8 hmk8 hhd8⟩
end Go.Proofs.YtikjgeenhbnkkaaGreatDoor
set_option linter.unusedSimpArgs false
set_option linter.unusedVariables false
set_option maxRecDepth 100000
namespace Go.Proofs.YtikjgeenhbnkkaaGreatDoor
open Go Eng
theorem sorted_ext : ∀ {L M : List Int}, L.Pairwise (· < ·) → M.Pairwise (· < ·) → (∀ n, n ∈ L ↔ n ∈ M) → L = M
  | [], [], _, _, _ => rfl
  | [], b :: M, _, _, h => absurd ((h b).2 (by simp)) (by simp)
  | a :: L, [], _, _, h => absurd ((h a).1 (by simp)) (by simp)
  | a :: L, b :: M, h1, h2, h => by
    obtain ⟨g1, g2⟩ := List.pairwise_cons.1 h1
    obtain ⟨g3, g4⟩ := List.pairwise_cons.1 h2
    have e : a = b := by
      rcases List.mem_cons.1 ((h a).1 (by simp)) with e | e
      · exact e
      · rcases List.mem_cons.1 ((h b).2 (by simp)) with e' | e'
        · exact e'.symm
        · have := g1 b e'; have := g3 a e; omega
    subst e
    rw [sorted_ext g2 g4 fun n => ?_]
    constructor
    · intro hn
      rcases List.mem_cons.1 ((h n).1 (by simp [hn])) with e | e
      · have := g1 n hn; omega
      · exact e
    · intro hn
      rcases List.mem_cons.1 ((h n).2 (by simp [hn])) with e | e
      · have := g3 n hn; omega
      · exact e
theorem rows_nil {x : Pic} {rows : Nat → List Int} {q i : Nat} (h : RowsOk x rows q) (hi : i < q) (hn : ∀ n, ¬ lookF x i n) : rows i = [] := by
  apply List.eq_nil_iff_forall_not_mem.2
  intro n hm
  exact hn n (((h i hi).2 n).1 hm)
def frP (F : List (Int × Int)) : Pic := { freshP with free := F }
theorem may4 : MayP cfg4 := by
  refine ⟨by decide, by decide, by decide, by decide, by decide, by decide, ?_, by decide, by decide, by decide⟩
  intro i k hi hk
  have hi : i < 1 := hi
  have hk : k < 1 := hk
  have : i = 0 := by omega
  have : k = 0 := by omega
  subst i; subst k
  unfold nearO
  decide
theorem shape4 (F : List (Int × Int)) (hF : ∀ b ∈ F, BlP 4 b) : ShapeP (frP F) := by
  have ht : total cfg4 = 4 := by decide
  refine ⟨may4, ⟨?_, ?_, ?_, ?_, ?_, ?_, ?_, ?_⟩, List.nodup_nil, ?_⟩
  · show ((List.replicate 4 mark0).length : Int) = total cfg4
    rw [ht]; rfl
  · rfl
  · rfl
  · rfl
  · rfl
  · rfl
  · rfl
  · rfl
  · show TailP (frP F) (total cfg4)
    rw [ht]
    have h8 : LiP [] (List.replicate 8 []) := ⟨rfl, fun m hm o ho => by rw [List.eq_of_mem_replicate hm] at ho; cases ho⟩
    refine ⟨hF, fun l hl f hf => ?_, fun n hn => ?_, fun l hl o ho => ?_, fun l hl => ?_, fun l hl f hf => ?_, fun l hl => ?_, fun s hs => (by cases hs), trivial, fun o ho => (by cases ho), fun o ho => (by cases ho)⟩
    · have : l = [] := List.mem_singleton.1 hl
      subst this; cases hf
    · exact .inl (List.mem_singleton.1 hn)
    · have : l = [] := List.mem_singleton.1 hl
      subst this; cases ho
    · rw [List.mem_singleton.1 hl]; exact h8
    · have : l = [] := List.mem_singleton.1 hl
      subst this; cases hf
    · rw [List.mem_singleton.1 hl]; exact h8
theorem small4 (F : List (Int × Int)) (hF : F.length ≤ 1) : Small (frP F) :=
  by
  have h : Small (frP []) := ⟨by decide, by decide, by decide, by decide, by decide, by decide, by decide, by decide, by decide, by decide, by decide, by decide, by decide, by decide, by decide⟩
  exact ⟨by show F.length ≤ _; omega, h.held, h.flight, h.frames, h.clocks, h.slots, h.slabs, h.procs, h.leaves, h.pages, h.pinned, h.cl, h.mags, h.depots, h.many⟩
theorem no4 (F : List (Int × Int)) : ∀ i, 2 ≤ i → i < 8 → ∀ n, ¬ lookF (frP F) i n := by
  intro i h2 h8 n h
  match i, h2, h8 with
  | 2, _, _ =>
    rcases h with (⟨p, hp, _⟩ | ⟨p, hp, _⟩) | ⟨p, hp, _⟩ <;> cases hp
  | 3, _, _ =>
    obtain ⟨h1, _⟩ := h
    rcases h1 with h1 | h1 <;> exact h1 rfl
  | 4, _, _ =>
    obtain ⟨i, cl, rfl, h1, h2⟩ := h
    match i with
    | 0 => cases h1; exact h2 rfl
    | i + 1 => cases h1
  | 5, _, _ =>
    rcases h with ⟨m, hm, cls, l, h1, o, ho, _⟩ | ⟨s, hs, _⟩
    · have hm : m ∈ [List.replicate 8 ([] : List (Int × Int)), List.replicate 8 []] := hm
      have : m = List.replicate 8 [] := by simpa using hm
      subst this
      rw [List.eq_of_mem_replicate (List.mem_of_getElem? h1)] at ho
      cases ho
    · cases hs
  | 6, _, _ =>
    obtain ⟨p, hp, _⟩ := h
    cases hp
  | 7, _, _ =>
    obtain ⟨i, h, rfl, h1, h2⟩ := h
    have : h = -1 := List.eq_of_mem_replicate (List.mem_of_getElem? (h1 : (List.replicate 10 (-1 : Int))[i]? = some h))
    subst this
    rcases h2 with h2 | h2
    · omega
    · have h2 : (-1 : Int) ≥ cfg4 1 := h2
      exact absurd h2 (by decide)
theorem fresh_rows {rows : Nat → List Int} (h : RowsOk (frP [(0, 2)]) rows 8) : faultsOf rows 8 = [] := by
  have hg : ∀ i, i < 4 → gOf (addsP (frP [(0, 2)])) i = [0] := by decide
  have h0 : rows 0 = [] := rows_nil h (by decide) fun n hn => by
    obtain ⟨i, l, rfl, h1, h2⟩ := hn
    have h1 : ((List.range 4).map (gOf (addsP (frP [(0, 2)]))))[i]? = some l := h1
    rw [List.getElem?_map] at h1
    obtain ⟨j, hj, rfl⟩ := Option.map_eq_some_iff.1 h1
    have hj4 : j < 4 := List.mem_range.1 (List.mem_of_getElem? hj)
    rw [hg j hj4] at h2
    exact h2 rfl
  have h1 : rows 1 = [] := rows_nil h (by decide) fun n hn => by
    obtain ⟨i, t, rfl, hi, h1, h2⟩ := hn
    have hi4 : i < 4 := hi
    rw [hg i hi4] at h1
    cases h1
    refine h2 ⟨mark0, ?_, ?_⟩
    · show (List.replicate 4 mark0)[i]? = _
      rw [List.getElem?_replicate, if_pos hi4]
    · rw [if_pos rfl]; rfl
  have hr : ∀ i, i < 8 → rows i = [] := fun i hi => by
    rcases Nat.lt_or_ge i 2 with h' | h'
    · match i with
      | 0 => exact h0
      | 1 => exact h1
    · exact rows_nil h hi (no4 _ i h' hi)
  unfold faultsOf
  rw [List.flatMap_eq_nil_iff]
  intro i hi
  rw [hr i (List.mem_range.1 hi)]
  rfl
theorem empty_rows {rows : Nat → List Int} (h : RowsOk (frP []) rows 8) : faultsOf rows 8 = [(2, 0), (2, 1), (2, 2), (2, 3)] := by
  have hg : ∀ i, i < 4 → gOf (addsP (frP [])) i = [] := by decide
  have h0 : rows 0 = [0, 1, 2, 3] := sorted_ext (h 0 (by decide)).1 (by decide) fun n => by
    rw [(h 0 (by decide)).2 n]
    constructor
    · rintro ⟨i, l, rfl, h1, h2⟩
      have h1 : ((List.range 4).map (gOf (addsP (frP []))))[i]? = some l := h1
      have : i < 4 := by have := (List.getElem?_eq_some_iff.1 h1).1; simpa using this
      simp
      omega
    · intro hn
      simp at hn
      have hk : ∀ k : Nat, k < 4 → lookF (frP []) 0 (k : Int) := fun k hk => ⟨k, [], rfl, by
        show ((List.range 4).map (gOf (addsP (frP []))))[k]? = _
        rw [List.getElem?_map, List.getElem?_range hk]
        simp [hg k hk], by decide⟩
      rcases hn with rfl | rfl | rfl | rfl
      · exact hk 0 (by decide)
      · exact hk 1 (by decide)
      · exact hk 2 (by decide)
      · exact hk 3 (by decide)
  have h1 : rows 1 = [] := rows_nil h (by decide) fun n hn => by
    obtain ⟨i, t, rfl, hi, h1, h2⟩ := hn
    have hi4 : i < 4 := hi
    rw [hg i hi4] at h1
    cases h1
  have hr : ∀ i, 2 ≤ i → i < 8 → rows i = [] := fun i h' hi => rows_nil h hi (no4 _ i h' hi)
  unfold faultsOf
  have e : List.range 8 = [0, 1, 2, 3, 4, 5, 6, 7] := rfl
  rw [e]
  simp [h0, h1, hr]
def zap (S : PicS) : PicS :=
  ⟨fun i => match i with | 1 => none | i => S.a i, fun i => match i with | 1 => 0 | i => S.l i, fun i => match i with | 1 => 0 | i => S.c i⟩
theorem zap_set (S : PicS) (c : Nat → Int) : (picC S c).set 95 (.slice none 0 0) = picC (zap S) c := by
  unfold picC
  rw [List.set_append_right _ _ (by rw [runI_len]; omega), runI_len]
  rfl
theorem known_spec {w : World} (hz : SizR w) : Calls Tryz.prog 8 #[] w fun e w' => e = .returned (.bool true) ∧ Kept none' w w' := by
  refine (vc8 w (fun v w' => v = .bool true ∧ Kept none' w w') ?_).mono ?_
  rotate_left
  · rintro e w' ⟨v, rfl, rfl, hw⟩
    exact ⟨rfl, hw⟩
  unfold vcP8
  refine (fresh_spec w).mono ?_
  rintro _ w1 ⟨S, rfl, k1, P1⟩
  refine ⟨cfg4, S.a 0, S.l 0, S.c 0, S.a 1, S.l 1, S.c 1, S.a 2, S.l 2, S.c 2, S.a 3, S.l 3, S.c 3, S.a 4, S.l 4, S.c 4, S.a 5, S.l 5, S.c 5, S.a 6, S.l 6, S.c 6, S.a 7, S.l 7, S.c 7, S.a 8, S.l 8, S.c 8, S.a 9, S.l 9, S.c 9, S.a 10, S.l 10, S.c 10, S.a 11, S.l 11, S.c 11, S.a 12, S.l 12, S.c 12, rfl, fun w2 e2 => ?_⟩
  have o2 := own_alloc (c := List.replicate 94 (Value.int .i64 0) ++ List.replicate 13 nl) e2
  have k12 : Kept none' w1 w2 := (Kept.refl _ _).al e2
  refine ⟨o2.wrAll (vs := picC S cfg4) 0 (by rw [picC_len]; simp), fun w3 e3 => ?_⟩
  obtain ⟨o3, k23⟩ := stAll_whole (vs := picC S cfg4) o2 e3 (by rw [picC_len]; simp)
  have s2 : w1.heap.size < w2.heap.size := o2.lt
  have k13 : Kept none' w1 w3 := own0 k12 k23 fun b hb => by omega
  refine ⟨cfg4, S.a 0, S.l 0, S.c 0, S.a 1, S.l 1, S.c 1, S.a 2, S.l 2, S.c 2, S.a 3, S.l 3, S.c 3, S.a 4, S.l 4, S.c 4, S.a 5, S.l 5, S.c 5, S.a 6, S.l 6, S.c 6, S.a 7, S.l 7, S.c 7, S.a 8, S.l 8, S.c 8, S.a 9, S.l 9, S.c 9, S.a 10, S.l 10, S.c 10, S.a 11, S.l 11, S.c 11, S.a 12, S.l 12, S.c 12, o3.rdAll (vs := picC S cfg4) 0 (fun j _ => by rw [Nat.zero_add]), ?_⟩
  have hb4 : ∀ b ∈ [((0 : Int), (2 : Int))], BlP 4 b := fun b hb => by
    rw [List.mem_singleton.1 hb]
    unfold BlP
    decide
  have P3 : PicR w3 S (frP [(0, 2)]) := P1.k k13
  refine (check_spec P3 ((hz.k k1).k k13) (fun s hs => (by cases hs)) (fun _ => small4 _ (by decide))).mono ?_
  rintro _ w4 ⟨a, l, c, L, rfl, k34, hs4, -, hy⟩
  obtain ⟨rows, hr, rfl⟩ := hy (shape4 _ hb4)
  rw [fresh_rows hr] at hs4
  have hl4 : l = 0 := hs4.len
  subst hl4
  have o4 := o3.k k34
  refine ⟨a, 0, c, rfl, Wif_no rfl ⟨o4.wr (by rw [picC_len]; omega), fun w5 e5 => ?_⟩⟩
  have o5 := o4.s1 e5
  rw [zap_set] at o5
  have k14 : Kept none' w1 w4 := k13.tr k34
  have k15 : Kept none' w1 w5 := own0 k14 ((Kept.refl (· = w1.heap.size) w4).s1 e5 (.inl rfl)) fun b hb => by omega
  have P5' := P1.k k15
  have P5 : PicR w5 (zap S) (frP []) := ⟨P5'.marks, SlR.nil', P5'.held, P5'.flying, P5'.flight, P5'.procs, P5'.frames, P5'.clocks, P5'.slots, P5'.slabs, P5'.mags, P5'.depots, P5'.holders⟩
  refine ⟨cfg4, S.a 0, S.l 0, S.c 0, none, 0, 0, S.a 2, S.l 2, S.c 2, S.a 3, S.l 3, S.c 3, S.a 4, S.l 4, S.c 4, S.a 5, S.l 5, S.c 5, S.a 6, S.l 6, S.c 6, S.a 7, S.l 7, S.c 7, S.a 8, S.l 8, S.c 8, S.a 9, S.l 9, S.c 9, S.a 10, S.l 10, S.c 10, S.a 11, S.l 11, S.c 11, S.a 12, S.l 12, S.c 12, o5.rdAll (vs := picC (zap S) cfg4) 0 (fun j _ => by rw [Nat.zero_add]), ?_⟩
  refine (check_spec P5 ((hz.k k1).k k15) (fun s hs => (by cases hs)) (fun _ => small4 _ (by decide))).mono ?_
  rintro _ w6 ⟨a, l, c, L, rfl, k56, hs6, -, hy⟩
  obtain ⟨rows, hr, rfl⟩ := hy (shape4 _ (fun b hb => (by cases hb)))
  rw [empty_rows hr] at hs6
  have hl6 : l = 4 := hs6.len
  subst hl6
  obtain ⟨cs, _, hR, hrd⟩ := hs6.el 3 (2, 3) rfl
  obtain rfl : cs = [.int .u8 2, vi 3] := hR
  refine ⟨a, 4, c, rfl, ?_⟩
  rw [hs6.isp (by decide), gIf_true, inB_of (by decide) (by decide), gIf_true]
  exact ⟨2, 3, fun _ => ⟨hrd 0 _ rfl, hrd 1 _ rfl⟩, rfl, (k1.tr k15).tr k56⟩
end Go.Proofs.YtikjgeenhbnkkaaGreatDoor
set_option linter.unusedVariables false
set_option maxRecDepth 100000
namespace Go.Proofs.YtikjgeenhbnkkaaGreatDoor
open Go Go.Eng
open Go.Value (slice)
/- byre/byreref28.Size -/
def vcP6 (x0 : Nat → Int) (x94 : Option Addr) (x94L : Nat) (x94C : Nat) (x95 : Option Addr) (x95L : Nat) (x95C : Nat) (x96 : Option Addr) (x96L : Nat) (x96C : Nat) (x97 : Option Addr) (x97L : Nat) (x97C : Nat) (x98 : Option Addr) (x98L : Nat) (x98C : Nat) (x99 : Option Addr) (x99L : Nat) (x99C : Nat) (x100 : Option Addr) (x100L : Nat) (x100C : Nat) (x101 : Option Addr) (x101L : Nat) (x101C : Nat) (x102 : Option Addr) (x102L : Nat) (x102C : Nat) (x103 : Option Addr) (x103L : Nat) (x103C : Nat) (x104 : Option Addr) (x104L : Nat) (x104C : Nat) (x105 : Option Addr) (x105L : Nat) (x105C : Nat) (x106 : Option Addr) (x106L : Nat) (x106C : Nat) (w : World) (K : Value → World → Prop) : Prop := ∀ (w' : World), w' = World.alloc w (Obj.cells (List.toArray (runI .i64 x0 0 94 ++ [slice x94 x94L x94C, slice x95 x95L x95C, slice x96 x96L x96C, slice x97 x97L x97C, slice x98 x98L x98C, slice x99 x99L x99C, slice x100 x100L x100C, slice x101 x101L x101C, slice x102 x102L x102C, slice x103 x103L x103C, slice x104 x104L x104C, slice x105 x105L x105C, slice x106 x106L x106C])) 37) → ∃ (x : Option Addr) (x_1 x_2 : Nat), rd w' w.heap.size 94 = some (.slice x x_1 x_2) ∧ ∃ (x : Option Addr) (x_3 x_4 : Nat), rd w' w.heap.size 95 = some (.slice x x_3 x_4) ∧ ∃ (x : Option Addr) (x_5 x_6 : Nat), rd w' w.heap.size 96 = some (.slice x x_5 x_6) ∧ ∃ (x : Option Addr) (x_7 x_8 : Nat), rd w' w.heap.size 97 = some (.slice x x_7 x_8) ∧ ∃ (x : Option Addr) (x_9 x_10 : Nat), rd w' w.heap.size 98 = some (.slice x x_9 x_10) ∧ ∃ (x : Option Addr) (x_11 x_12 : Nat), rd w' w.heap.size 100 = some (.slice x x_11 x_12) ∧ ∃ (x : Option Addr) (x_13 x_14 : Nat), rd w' w.heap.size 101 = some (.slice x x_13 x_14) ∧ ∃ (x : Option Addr) (x_15 x_16 : Nat), rd w' w.heap.size 102 = some (.slice x x_15 x_16) ∧ ∃ (x : Option Addr) (x_17 x_18 : Nat), rd w' w.heap.size 104 = some (.slice x x_17 x_18) ∧ ∃ (x : Option Addr) (x_19 x_20 : Nat), rd w' w.heap.size 105 = some (.slice x x_19 x_20) ∧ ∃ (x : Option Addr) (x_21 x_22 : Nat), rd w' w.heap.size 106 = some (.slice x x_21 x_22) ∧ ∃ (I : Int → Int → World → Nat → Prop), (∃ (n : Nat), I (IntKind.wrap .i64 (IntKind.wrap .i64 (IntKind.wrap .i64 (IntKind.wrap .i64 (IntKind.wrap .i64 (IntKind.wrap .i64 (IntKind.wrap .i64 (IntKind.wrap .i64 (IntKind.wrap .i64 (IntKind.wrap .i64 ((↑x_1 : Int) + (↑x_3 : Int)) + (↑x_5 : Int)) + (↑x_7 : Int)) + (↑x_9 : Int)) + (↑x_11 : Int)) + (↑x_13 : Int)) + (↑x_15 : Int)) + (↑x_17 : Int)) + (↑x_19 : Int)) + (↑x_21 : Int))) 0 w' n) ∧ ∀ (n n_1 : Int) (w' : World) (n_2 : Nat), I n n_1 w' n_2 → ∃ (x : Option Addr) (x_23 x_24 : Nat), rd w' w.heap.size 96 = some (.slice x x_23 x_24) ∧ Wif (decide (n_1 < (↑x_23 : Int))) (∃ (x : Option Addr) (x_25 x_26 : Nat), rd w' w.heap.size 96 = some (.slice x x_25 x_26) ∧ Wif (isP x) (Wif (inB n_1 x_25) (∃ (x_27 : Option Addr) (x_28 x_29 : Nat), rd w' (pb x) (po x + Int.toNat n_1 * 1) = some (.slice x_27 x_28 x_29) ∧ ∃ (m : Nat), Nat.succ m ≤ n_2 ∧ I (IntKind.wrap .i64 (n + (↑x_28 : Int))) (IntKind.wrap .i64 (n_1 + 1)) w' m) False) False) (∃ (I : Int → Int → World → Nat → Prop), (∃ (n_3 : Nat), I n 0 w' n_3) ∧ ∀ (n n_3 : Int) (w' : World) (n_4 : Nat), I n n_3 w' n_4 → ∃ (x : Option Addr) (x_25 x_26 : Nat), rd w' w.heap.size 97 = some (.slice x x_25 x_26) ∧ Wif (decide (n_3 < (↑x_25 : Int))) (∃ (x : Option Addr) (x_27 x_28 : Nat), rd w' w.heap.size 97 = some (.slice x x_27 x_28) ∧ Wif (isP x) (Wif (inB n_3 x_27) (∃ (x_29 : Option Addr) (x_30 x_31 : Nat), rd w' (pb x) (po x + Int.toNat n_3 * 1) = some (.slice x_29 x_30 x_31) ∧ ∃ (m : Nat), Nat.succ m ≤ n_4 ∧ I (IntKind.wrap .i64 (n + (↑x_30 : Int))) (IntKind.wrap .i64 (n_3 + 1)) w' m) False) False) (∃ (I : Int → Int → World → Nat → Prop), (∃ (n_5 : Nat), I n 0 w' n_5) ∧ ∀ (n n_5 : Int) (w' : World) (n_6 : Nat), I n n_5 w' n_6 → ∃ (x : Option Addr) (x_27 x_28 : Nat), rd w' w.heap.size 99 = some (.slice x x_27 x_28) ∧ Wif (decide (n_5 < (↑x_27 : Int))) (∃ (x : Option Addr) (x_29 x_30 : Nat), rd w' w.heap.size 99 = some (.slice x x_29 x_30) ∧ Wif (isP x) (Wif (inB n_5 x_29) (∃ (x_31 x_32 : Int) (x_33 : Option Addr) (x_34 x_35 : Nat) (x_36 : Option Addr) (x_37 x_38 : Nat) (x_39 : Option Addr) (x_40 x_41 : Nat) (x_42 : Option Addr) (x_43 x_44 : Nat), (rd w' (pb x) (po x + Int.toNat n_5 * 6) = some (.int .i64 x_31) ∧ rd w' (pb x) (po x + Int.toNat n_5 * 6 + 1) = some (.int .i64 x_32) ∧ rd w' (pb x) (po x + Int.toNat n_5 * 6 + 2) = some (.slice x_33 x_34 x_35) ∧ rd w' (pb x) (po x + Int.toNat n_5 * 6 + 3) = some (.slice x_36 x_37 x_38) ∧ rd w' (pb x) (po x + Int.toNat n_5 * 6 + 4) = some (.slice x_39 x_40 x_41) ∧ rd w' (pb x) (po x + Int.toNat n_5 * 6 + 5) = some (.slice x_42 x_43 x_44)) ∧ ∀ (w'_1 : World), w'_1 = World.alloc w' (Obj.cells #[Value.int .i64 0, Value.int .i64 0, slice none 0 0, slice none 0 0, slice none 0 0, slice none 0 0] 48) → (wr w'_1 w'.heap.size 0 ∧ wr w'_1 w'.heap.size 1 ∧ wr w'_1 w'.heap.size 2 ∧ wr w'_1 w'.heap.size 3 ∧ wr w'_1 w'.heap.size 4 ∧ wr w'_1 w'.heap.size 5) ∧ ∀ (w'_2 : World), w'_2 = st (st (st (st (st (st w'_1 w'.heap.size 0 (Value.int .i64 x_31)) w'.heap.size 1 (Value.int .i64 x_32)) w'.heap.size 2 (slice x_33 x_34 x_35)) w'.heap.size 3 (slice x_36 x_37 x_38)) w'.heap.size 4 (slice x_39 x_40 x_41)) w'.heap.size 5 (slice x_42 x_43 x_44) → ∃ (x : Option Addr) (x_45 x_46 : Nat), rd w'_2 w'.heap.size 2 = some (.slice x x_45 x_46) ∧ ∃ (x : Option Addr) (x_47 x_48 : Nat), rd w'_2 w'.heap.size 3 = some (.slice x x_47 x_48) ∧ ∃ (x : Option Addr) (x_49 x_50 : Nat), rd w'_2 w'.heap.size 4 = some (.slice x x_49 x_50) ∧ ∃ (x : Option Addr) (x_51 x_52 : Nat), rd w'_2 w'.heap.size 5 = some (.slice x x_51 x_52) ∧ ∃ (m : Nat), Nat.succ m ≤ n_6 ∧ I (IntKind.wrap .i64 (IntKind.wrap .i64 (IntKind.wrap .i64 (IntKind.wrap .i64 (IntKind.wrap .i64 (n + 1) + (↑x_45 : Int)) + (↑x_47 : Int)) + (↑x_49 : Int)) + (↑x_51 : Int))) (IntKind.wrap .i64 (n_5 + 1)) w'_2 m) False) False) (∃ (I : Int → Int → World → Nat → Prop), (∃ (n_7 : Nat), I n 0 w' n_7) ∧ ∀ (n n_7 : Int) (w' : World) (n_8 : Nat), I n n_7 w' n_8 → ∃ (x : Option Addr) (x_29 x_30 : Nat), rd w' w.heap.size 101 = some (.slice x x_29 x_30) ∧ Wif (decide (n_7 < (↑x_29 : Int))) (∃ (x : Option Addr) (x_31 x_32 : Nat), rd w' w.heap.size 101 = some (.slice x x_31 x_32) ∧ Wif (isP x) (Wif (inB n_7 x_31) (∃ (x_33 : Option Addr) (x_34 x_35 : Nat), rd w' (pb x) (po x + Int.toNat n_7 * 1) = some (.slice x_33 x_34 x_35) ∧ ∃ (m : Nat), Nat.succ m ≤ n_8 ∧ I (IntKind.wrap .i64 (n + (↑x_34 : Int))) (IntKind.wrap .i64 (n_7 + 1)) w' m) False) False) (∃ (I : Int → Int → World → Nat → Prop), (∃ (n_9 : Nat), I n 0 w' n_9) ∧ ∀ (n n_9 : Int) (w' : World) (n_10 : Nat), I n n_9 w' n_10 → ∃ (x : Option Addr) (x_31 x_32 : Nat), rd w' w.heap.size 103 = some (.slice x x_31 x_32) ∧ Wif (decide (n_9 < (↑x_31 : Int))) (∀ (w1 : World), w1 = World.drew w' → ∃ (x : Option Addr) (x_33 x_34 : Nat), rd w1 w.heap.size 103 = some (.slice x x_33 x_34) ∧ Wif (isP x) (Wif (inB n_9 x_33) (∃ (x_35 : Option Addr) (x_36 x_37 : Nat), rd w1 (pb x) (po x + Int.toNat n_9 * 7 + 5) = some (.slice x_35 x_36 x_37) ∧ ∃ (x : Option Addr) (x_38 x_39 : Nat), rd w1 w.heap.size 103 = some (.slice x x_38 x_39) ∧ Wif (isP x) (Wif (inB n_9 x_38) (∃ (x_40 : Option Addr) (x_41 x_42 : Nat), rd w1 (pb x) (po x + Int.toNat n_9 * 7 + 6) = some (.slice x_40 x_41 x_42) ∧ ∃ (m : Nat), Nat.succ m ≤ n_10 ∧ I (IntKind.wrap .i64 (IntKind.wrap .i64 (IntKind.wrap .i64 (n + 1) + (↑x_36 : Int)) + (↑x_41 : Int))) (IntKind.wrap .i64 (n_9 + 1)) w1 m) False) False) False) False) (∃ (I : Int → Int → World → Nat → Prop), (∃ (n_11 : Nat), I n 0 w' n_11) ∧ ∀ (n n_11 : Int) (w' : World) (n_12 : Nat), I n n_11 w' n_12 → ∃ (x : Option Addr) (x_33 x_34 : Nat), rd w' w.heap.size 104 = some (.slice x x_33 x_34) ∧ Wif (decide (n_11 < (↑x_33 : Int))) (∃ (I_1 : Int → Int → World → Nat → Prop), (∃ (n_13 : Nat), I_1 n 0 w' n_13) ∧ ∀ (n n_13 : Int) (w' : World) (n_14 : Nat), I_1 n n_13 w' n_14 → ∃ (x : Option Addr) (x_35 x_36 : Nat), rd w' w.heap.size 104 = some (.slice x x_35 x_36) ∧ Wif (isP x) (Wif (inB n_11 x_35) (∃ (x_37 : Option Addr) (x_38 x_39 : Nat), rd w' (pb x) (po x + Int.toNat n_11 * 1) = some (.slice x_37 x_38 x_39) ∧ Wif (decide (n_13 < (↑x_38 : Int))) (∃ (x : Option Addr) (x_40 x_41 : Nat), rd w' w.heap.size 104 = some (.slice x x_40 x_41) ∧ Wif (isP x) (Wif (inB n_11 x_40) (∃ (x_42 : Option Addr) (x_43 x_44 : Nat), rd w' (pb x) (po x + Int.toNat n_11 * 1) = some (.slice x_42 x_43 x_44) ∧ Wif (isP x_42) (Wif (inB n_13 x_43) (∃ (x : Option Addr) (x_45 x_46 : Nat), rd w' (pb x_42) (po x_42 + Int.toNat n_13 * 1) = some (.slice x x_45 x_46) ∧ ∃ (m : Nat), Nat.succ m ≤ n_14 ∧ I_1 (IntKind.wrap .i64 (IntKind.wrap .i64 (n + 1) + (↑x_45 : Int))) (IntKind.wrap .i64 (n_13 + 1)) w' m) False) False) False) False) (∃ (m : Nat), Nat.succ m ≤ n_12 ∧ I n (IntKind.wrap .i64 (n_11 + 1)) w' m)) False) False) (∃ (I : Int → Int → World → Nat → Prop), (∃ (n_13 : Nat), I n 0 w' n_13) ∧ ∀ (n n_13 : Int) (w' : World) (n_14 : Nat), I n n_13 w' n_14 → ∃ (x : Option Addr) (x_35 x_36 : Nat), rd w' w.heap.size 105 = some (.slice x x_35 x_36) ∧ Wif (decide (n_13 < (↑x_35 : Int))) (∃ (I_1 : Int → Int → World → Nat → Prop), (∃ (n_15 : Nat), I_1 n 0 w' n_15) ∧ ∀ (n n_15 : Int) (w' : World) (n_16 : Nat), I_1 n n_15 w' n_16 → ∃ (x : Option Addr) (x_37 x_38 : Nat), rd w' w.heap.size 105 = some (.slice x x_37 x_38) ∧ Wif (isP x) (Wif (inB n_13 x_37) (∃ (x_39 : Option Addr) (x_40 x_41 : Nat), rd w' (pb x) (po x + Int.toNat n_13 * 1) = some (.slice x_39 x_40 x_41) ∧ Wif (decide (n_15 < (↑x_40 : Int))) (∃ (x : Option Addr) (x_42 x_43 : Nat), rd w' w.heap.size 105 = some (.slice x x_42 x_43) ∧ Wif (isP x) (Wif (inB n_13 x_42) (∃ (x_44 : Option Addr) (x_45 x_46 : Nat), rd w' (pb x) (po x + Int.toNat n_13 * 1) = some (.slice x_44 x_45 x_46) ∧ Wif (isP x_44) (Wif (inB n_15 x_45) (∃ (x : Option Addr) (x_47 x_48 : Nat), rd w' (pb x_44) (po x_44 + Int.toNat n_15 * 1) = some (.slice x x_47 x_48) ∧ ∃ (m : Nat), Nat.succ m ≤ n_16 ∧ I_1 (IntKind.wrap .i64 (IntKind.wrap .i64 (n + 1) + (↑x_47 : Int))) (IntKind.wrap .i64 (n_15 + 1)) w' m) False) False) False) False) (∃ (m : Nat), Nat.succ m ≤ n_14 ∧ I n (IntKind.wrap .i64 (n_13 + 1)) w' m)) False) False) (K (Value.int .i64 n) w')))))))
theorem vcE6 (x0 : Nat → Int) (x94 : Option Addr) (x94L : Nat) (x94C : Nat) (x95 : Option Addr) (x95L : Nat) (x95C : Nat) (x96 : Option Addr) (x96L : Nat) (x96C : Nat) (x97 : Option Addr) (x97L : Nat) (x97C : Nat) (x98 : Option Addr) (x98L : Nat) (x98C : Nat) (x99 : Option Addr) (x99L : Nat) (x99C : Nat) (x100 : Option Addr) (x100L : Nat) (x100C : Nat) (x101 : Option Addr) (x101L : Nat) (x101C : Nat) (x102 : Option Addr) (x102L : Nat) (x102C : Nat) (x103 : Option Addr) (x103L : Nat) (x103C : Nat) (x104 : Option Addr) (x104L : Nat) (x104C : Nat) (x105 : Option Addr) (x105L : Nat) (x105C : Nat) (x106 : Option Addr) (x106L : Nat) (x106C : Nat) (w : World) (K : Value → World → Prop) : vcP6 x0 x94 x94L x94C x95 x95L x95C x96 x96L x96C x97 x97L x97C x98 x98L x98C x99 x99L x99C x100 x100L x100C x101 x101L x101C x102 x102L x102C x103 x103L x103C x104 x104L x104C x105 x105L x105C x106 x106L x106C w K = Eng.wBody Tryz.prog (Eng.handOf Tryz.prog [] 1) [] Tryz.f6 (Eng.bodyOf Tryz.f6) [Value.agg (List.toArray (runI .i64 x0 0 94 ++ [slice x94 x94L x94C, slice x95 x95L x95C, slice x96 x96L x96C, slice x97 x97L x97C, slice x98 x98L x98C, slice x99 x99L x99C, slice x100 x100L x100C, slice x101 x101L x101C, slice x102 x102L x102C, slice x103 x103L x103C, slice x104 x104L x104C, slice x105 x105L x105C, slice x106 x106L x106C]))] w K := by kernel_rfl
theorem vc6 (x0 : Nat → Int) (x94 : Option Addr) (x94L : Nat) (x94C : Nat) (x95 : Option Addr) (x95L : Nat) (x95C : Nat) (x96 : Option Addr) (x96L : Nat) (x96C : Nat) (x97 : Option Addr) (x97L : Nat) (x97C : Nat) (x98 : Option Addr) (x98L : Nat) (x98C : Nat) (x99 : Option Addr) (x99L : Nat) (x99C : Nat) (x100 : Option Addr) (x100L : Nat) (x100C : Nat) (x101 : Option Addr) (x101L : Nat) (x101C : Nat) (x102 : Option Addr) (x102L : Nat) (x102C : Nat) (x103 : Option Addr) (x103L : Nat) (x103C : Nat) (x104 : Option Addr) (x104L : Nat) (x104C : Nat) (x105 : Option Addr) (x105L : Nat) (x105C : Nat) (x106 : Option Addr) (x106L : Nat) (x106C : Nat) (w : World) (K : Value → World → Prop) (h : vcP6 x0 x94 x94L x94C x95 x95L x95C x96 x96L x96C x97 x97L x97C x98 x98L x98C x99 x99L x99C x100 x100L x100C x101 x101L x101C x102 x102L x102C x103 x103L x103C x104 x104L x104C x105 x105L x105C x106 x106L x106C w K) : Calls Tryz.prog 6 #[Value.agg (List.toArray (runI .i64 x0 0 94 ++ [slice x94 x94L x94C, slice x95 x95L x95C, slice x96 x96L x96C, slice x97 x97L x97C, slice x98 x98L x98C, slice x99 x99L x99C, slice x100 x100L x100C, slice x101 x101L x101C, slice x102 x102L x102C, slice x103 x103L x103C, slice x104 x104L x104C, slice x105 x105L x105C, slice x106 x106L x106C]))] w (fun e w' => ∃ v, e = .returned v ∧ K v w') := Eng.vc_of [] 1 [] Tryz.mixes Tryz.func6 (by kernel_rfl) (by kernel_rfl) (vcE6 x0 x94 x94L x94C x95 x95L x95C x96 x96L x96C x97 x97L x97C x98 x98L x98C x99 x99L x99C x100 x100L x100C x101 x101L x101C x102 x102L x102C x103 x103L x103C x104 x104L x104C x105 x105L x105C x106 x106L x106C w K) h
end Go.Proofs.YtikjgeenhbnkkaaGreatDoor
