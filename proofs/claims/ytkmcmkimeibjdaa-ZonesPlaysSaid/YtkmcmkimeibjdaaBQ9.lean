/-
  A part of a proof that a law of this seat returns true at every input. Conditions: those in each theorem.
-/
import Derived.Test.YtkmcmkimeibjdaaBQ8
namespace Go.Proofs.Ytkmcmkimeibjdaa
open Go Eng
set_option linter.unusedSimpArgs false
set_option linter.unusedVariables false
set_option maxRecDepth 100000
/-! ### do both stand alike -/
def mxL (l : List (Nat × Nat)) : Int := l.foldl (fun m y => if (y.2 : Int) > m then (y.2 : Int) else m) (-1)
def smL (l : List (Nat × Nat)) : Nat := l.foldl (fun s y => s + 2 ^ y.2) 0
theorem take_snoc {α : Type} {d : List α} {i : Nat} {y : α} (h : d[i]? = some y) : d.take (i + 1) = d.take i ++ [y] := by
  rw [List.take_add_one, h]; rfl
theorem mxL_snoc {d : List (Nat × Nat)} {i : Nat} {y : Nat × Nat} (h : d[i]? = some y) : mxL (d.take (i + 1)) = if (y.2 : Int) > mxL (d.take i) then (y.2 : Int) else mxL (d.take i) := by
  unfold mxL
  rw [take_snoc h, List.foldl_append]
  rfl
theorem smL_snoc {d : List (Nat × Nat)} {i : Nat} {y : Nat × Nat} (h : d[i]? = some y) : smL (d.take (i + 1)) = smL (d.take i) + 2 ^ y.2 := by
  unfold smL
  rw [take_snoc h, List.foldl_append]
  rfl
theorem mx_fold (o : Nat) : ∀ (l : List (Nat × Nat)) (m : Int), ((o : Int) ≤ l.foldl (fun m y => if (y.2 : Int) > m then (y.2 : Int) else m) m ↔ (o : Int) ≤ m ∨ ∃ y ∈ l, o ≤ y.2)
  | [], m => by simp
  | y :: l, m => by
    rw [List.foldl_cons, mx_fold o l]
    simp only [List.mem_cons, exists_eq_or_imp]
    split <;> constructor
    · rintro (h | h)
      · exact .inr (.inl (by omega))
      · exact .inr (.inr h)
    · rintro (h | h | h)
      · exact .inl (by omega)
      · exact .inl (by omega)
      · exact .inr h
    · rintro (h | h)
      · exact .inl h
      · exact .inr (.inr h)
    · rintro (h | h | h)
      · exact .inl h
      · exact .inl (by omega)
      · exact .inr h
theorem mx_ge : ∀ (l : List (Nat × Nat)) (m : Int), -1 ≤ m → -1 ≤ l.foldl (fun m y => if (y.2 : Int) > m then (y.2 : Int) else m) m
  | [], m, h => h
  | y :: l, m, h => by
    rw [List.foldl_cons]
    refine mx_ge l _ ?_
    split <;> omega
theorem mxL_bks {n : Nat} {L : List Bk} (hi : Inv n L) : mxL (bks L) = mostOf (stOf n L) 11 := by
  have h1 : ∀ o : Nat, (o : Int) ≤ mxL (bks L) ↔ (o : Int) ≤ mostOf (stOf n L) 11 := fun o => by
    rw [most_st (fun x hx => (tile_mem hi.tl hx).2.2.2)]
    unfold mxL
    rw [mx_fold]
    constructor
    · rintro (h | ⟨y, hy, ho⟩)
      · omega
      · obtain ⟨x, hx, hg, rfl⟩ := mem_bks.1 hy
        exact ⟨x, hx, hg, ho⟩
    · rintro ⟨x, hx, hg, ho⟩
      exact .inr ⟨_, mem_bks.2 ⟨x, hx, hg, rfl⟩, ho⟩
  have h2 := mx_ge (bks L) (-1) (by omega)
  have h3 := (most_lt (stOf n L) 11).1
  have h2' : -1 ≤ mxL (bks L) := h2
  generalize mxL (bks L) = a at *
  generalize mostOf (stOf n L) 11 = b at *
  rcases Int.lt_trichotomy a b with h | h | h
  · have := (h1 b.toNat).2 (by omega); omega
  · exact h
  · have := (h1 a.toNat).1 (by omega); omega
theorem sm_fold : ∀ (l : List (Nat × Nat)) (s : Nat), l.foldl (fun s y => s + 2 ^ y.2) s = s + l.foldl (fun s y => s + 2 ^ y.2) 0
  | [], s => rfl
  | y :: l, s => by
    rw [List.foldl_cons, List.foldl_cons, sm_fold l (s + 2 ^ y.2), sm_fold l (0 + 2 ^ y.2)]
    omega
theorem smL_bks : ∀ L : List Bk, smL (bks L) = fsum L
  | [] => rfl
  | x :: L => by
    have ih := smL_bks L
    rw [fsum_cons]
    by_cases hg : x.g = 0
    · rw [bks_free hg, if_pos hg]
      unfold smL at ih ⊢
      rw [List.foldl_cons, sm_fold, ih]
      show 0 + 2 ^ x.o + fsum L = _
      omega
    · rw [bks_held hg, if_neg hg, ih]
      omega
theorem smL_le {d : List (Nat × Nat)} (i : Nat) : smL (d.take i) ≤ smL d := by
  have e : d = d.take i ++ d.drop i := (List.take_append_drop i d).symm
  conv => rhs; rw [e]
  unfold smL
  rw [List.foldl_append, sm_fold _ (List.foldl _ 0 _)]
  omega
section
variable {w : World} {b t z n : Nat} {m : Nat → Nat} {L : List Bk} {T : List (Nat × Nat)}
theorem frames_spec (h : BAt w b m t (stOf n L)) : Calls Try.prog 35 #[ptr b] w fun r w' => r = .returned (.int .i64 (n : Int)) ∧ w' = w := by
  refine (vc35 _ w (fun v w' => v = .int .i64 (n : Int) ∧ w' = w) ?_).mono ?_
  · unfold vcP35
    simp only [isP_some, Wif_true, gIf_true, pb_some, po_some, Nat.zero_add]
    exact ⟨_, fun _ => h.r12, Wif_no rfl ⟨_, h.r0, rfl, trivial⟩⟩
  · rintro e w' ⟨v, rfl, rfl, hw⟩
    exact ⟨rfl, hw⟩
theorem taken_spec (h : BAt w b m t (stOf n L)) (a : Int) : Calls Try.prog 30 #[ptr b, .int .i64 a] w fun r w' => ∃ o is, r = .returned (.tuple #[.int .i64 o, .bool is]) ∧ w' = w ∧ ((is = true ∧ (a, o) ∈ tk L) ∨ (is = false ∧ o = 0 ∧ ∀ j, (a, j) ∉ tk L)) := by
  refine (vc30 _ _ w (fun v w' => ∃ o is, v = .tuple #[.int .i64 o, .bool is] ∧ w' = w ∧ ((is = true ∧ (a, o) ∈ tk L) ∨ (is = false ∧ o = 0 ∧ ∀ j, (a, j) ∉ tk L))) ?_).mono ?_
  · unfold vcP30
    simp only [isP_some, Wif_true, gIf_true, pb_some, po_some, Nat.zero_add]
    refine ⟨_, fun _ => h.r12, Wif_no rfl ⟨_, h.r12, ?_⟩⟩
    have hlk := look2 (mt := 49) (vt := 3) (kt := 3) Try.underlying49 Try.underlying3 h.mt a (zero3 w)
    rcases look_entT (tk L) a with ⟨j, hj, e⟩ | ⟨hj, e⟩
    · have e' : (entT (stOf n L).T).lookup a = some (.int .i64 j) := e
      rw [e'] at hlk
      exact ⟨j, true, hlk, j, true, rfl, trivial, .inl ⟨rfl, hj⟩⟩
    · have e' : (entT (stOf n L).T).lookup a = none := e
      rw [e'] at hlk
      exact ⟨0, false, hlk, 0, false, rfl, trivial, .inr ⟨rfl, rfl, hj⟩⟩
  · rintro e w' ⟨v, rfl, o, is, rfl, hw⟩
    exact ⟨o, is, rfl, hw⟩
theorem same_spec (h : BAt w b m t (stOf n L)) (hi : Inv n L) (hR : RAt w z n (bks L) T) : Calls Try.prog 32 #[ptr b, ptr z] w fun r w' => r = .returned (.bool true) ∧ Kept none' w w' := by
  refine (vc32 _ _ w (fun v w' => v = .bool true ∧ Kept none' w w') ?_).mono ?_
  · have hn128 := hi.n1.2
    have hFl : (bks L).length ≤ 128 := by have := bks_le hi.tl; omega
    have hfs : fsum L ≤ 128 := fsum_128 hi
    unfold vcP32
    intro w1 e1
    have oz1 := own_alloc (c := [ptr z]) e1
    have k1 : Kept none' w w1 := (Kept.refl _ _).al e1
    intro w2 e2
    have or2 := own_alloc (c := [.bool false]) e2
    have k12 : Kept none' w1 w2 := (Kept.refl _ _).al e2
    intro w3 e3
    have on3 := own_alloc (c := [.int .i64 0]) e3
    have k23 : Kept none' w2 w3 := (Kept.refl _ _).al e3
    intro w4 e4
    have om4 := own_alloc (c := [.int .i64 0]) e4
    have k34 : Kept none' w3 w4 := (Kept.refl _ _).al e4
    intro w5 e5
    have of5 := own_alloc (c := [.int .i64 0]) e5
    have k45 : Kept none' w4 w5 := (Kept.refl _ _).al e5
    have s1 : w1.heap.size = w.heap.size + 1 := by rw [e1]; simp only [World.alloc, Array.size_push]
    have s2 : w2.heap.size = w.heap.size + 2 := by rw [e2]; simp only [World.alloc, Array.size_push]; omega
    have s3 : w3.heap.size = w.heap.size + 3 := by rw [e3]; simp only [World.alloc, Array.size_push]; omega
    have s4 : w4.heap.size = w.heap.size + 4 := by rw [e4]; simp only [World.alloc, Array.size_push]; omega
    have s5 : w5.heap.size = w.heap.size + 5 := by rw [e5]; simp only [World.alloc, Array.size_push]; omega
    have on5 := (on3.k k34).k k45
    have om5 := om4.k k45
    have or5 := ((or2.k k23).k k34).k k45
    have oz5 := (((oz1.k k12).k k23).k k34).k k45
    have K5 := (((k1.tr k12).tr k23).tr k34).tr k45
    rw [s1] at or5 or2
    rw [s2] at on5
    rw [s3] at om5
    rw [s4] at of5
    rw [s1, s2, s3, s4]
    generalize hkb : w.heap.size = kb at *
    refine ⟨on5.wr (by simp), fun w6 e6 => ?_⟩
    have on6 := on5.s1 e6
    have k56 : Kept (· = kb + 2) w5 w6 := (Kept.refl _ _).s1 e6 (.inl rfl)
    have om6 := om5.kx k56 (by omega)
    refine ⟨om6.wr (by simp), fun w7 e7 => ?_⟩
    have om7 := om6.s1 e7
    have k67 : Kept (· = kb + 3) w6 w7 := (Kept.refl _ _).s1 e7 (.inl rfl)
    have of7 := (of5.kx k56 (by omega)).kx k67 (by omega)
    refine ⟨of7.wr (by simp), fun w8 e8 => ?_⟩
    have of8 := of7.s1 e8
    have k78 : Kept (· = kb + 4) w7 w8 := (Kept.refl _ _).s1 e8 (.inl rfl)
    have on8 := (on6.kx k67 (by omega)).kx k78 (by omega)
    have om8 := om7.kx k78 (by omega)
    have or8 := ((or5.kx k56 (by omega)).kx k67 (by omega)).kx k78 (by omega)
    have oz8 := ((oz5.kx k56 (by omega)).kx k67 (by omega)).kx k78 (by omega)
    have K8 : Kept none' w w8 := own0 (own0 (own0 K5 k56 fun x h => by omega) k67 fun x h => by omega) k78 fun x h => by omega
    intro w9 e9 w10 e10
    have k89 : Kept none' w8 w9 := (Kept.refl _ _).al e9
    have k910 : Kept none' w9 w10 := (Kept.refl _ _).al e10
    have c10 := own_alloc (c := [ptr b]) e10
    have K10 := (K8.tr k89).tr k910
    have on10 := (on8.k k89).k k910
    have om10 := (om8.k k89).k k910
    have of10 := (of8.k k89).k k910
    have or10 := (or8.k k89).k k910
    have oz10 := (oz8.k k89).k k910
    have h10 := h.k K10
    have hz : z < w.heap.size := by obtain ⟨_, _, _, _, o, _⟩ := hR.one; exact o.lt
    have hs8 := k78.sz
    have hs7 := k67.sz
    have hs6 := k56.sz
    have hs9 : w9.heap.size = w8.heap.size + 1 := by rw [e9]; simp only [World.alloc, Array.size_push]
    have hs10 : w10.heap.size = w9.heap.size + 1 := by rw [e10]; simp only [World.alloc, Array.size_push]
    clear e1 e2 e3 e4 e5 e6 e7 e8 e9 e10 on5 om5 of5 or5 oz5 on6 om6 of7 om7 on8 om8 of8 or8 oz8 oz1 or2 on3 om4
    generalize hB : w10.heap.size = B at *
    -- the state
    have hB9 : kb + 6 ≤ B := by omega
    let St : Nat → World → Prop := fun i W => Kept none' w W ∧ own W kb [ptr z] ∧ own W (kb + 1) [.bool false] ∧ own W (kb + 2) [.int .i64 (i : Int)] ∧ own W (kb + 3) [.int .i64 (mxL ((bks L).take i))] ∧ own W (kb + 4) [.int .i64 (smL ((bks L).take i) : Nat)]
    have stK : ∀ {i : Nat} {W W' : World} {X : Nat → Prop}, St i W → Kept X W W' → (∀ x, X x → kb + 5 ≤ x) → St i W' := by
      rintro i W W' X ⟨a1, a2, a3, a4, a5, a6⟩ k hx
      exact ⟨own0 a1 k fun x h => by have := hx x h; omega, a2.kx k fun h => by have := hx _ h; omega, a3.kx k fun h => by have := hx _ h; omega, a4.kx k fun h => by have := hx _ h; omega, a5.kx k fun h => by have := hx _ h; omega, a6.kx k fun h => by have := hx _ h; omega⟩
    have hsv : ∀ i, smL ((bks L).take i) ≤ 128 := fun i => by have := smL_le (d := bks L) i; rw [smL_bks] at this; omega
    refine ⟨(frB L).map fun x => [blkV x], fun _ => False, fun Y i W => St i W ∧ B ≤ W.heap.size ∧ ∀ x, Y x → x < W.heap.size, fun _ _ _ => False, ⟨blocks_gives (sort_says L) h10 hi (by rw [show w9.heap.size = w9.heap.size from rfl, c10.rd]; rfl), fun xs hx => ?_, fun b h => h.elim⟩, fun w11 k11 hs11 => ⟨stK ⟨K10, oz10, or10, on10, om10, of10⟩ k11 fun x h => h.elim, by have := k11.sz; omega, fun x h => h.elim⟩, ?_, fun _ _ _ _ h => h.elim, ?_, ?_, fun _ _ h => h.elim, trivial⟩
    · obtain ⟨x, _, rfl⟩ := List.mem_map.1 hx
      exact ⟨rfl, _, _, rfl⟩
    · rintro Y i W W' ⟨g1, gs, g3⟩ hY k'
      have hsz := k'.sz
      refine ⟨stK g1 k' fun x hx => (by rcases hx with rfl | rfl | h; omega; omega; have := hY x h; omega), by omega, fun x hx => ?_⟩
      rcases hx with hx | hx
      · have := g3 x hx; omega
      · exact hx.2
    · rintro Y i W ⟨g1, gs, g3⟩ hY hsz p o hv w11 e11
      obtain ⟨x, hx, hpo⟩ : ∃ x, (frB L)[i]? = some x ∧ [blkV x] = [Value.agg #[.int .i64 p, .int .i64 o]] := by
        rw [List.getElem?_map] at hv
        cases hh : (frB L)[i]? with
        | none => rw [hh] at hv; cases hv
        | some x => rw [hh] at hv; exact ⟨x, rfl, Option.some.inj hv⟩
      simp [blkV] at hpo
      obtain ⟨rfl, rfl⟩ := hpo
      have hil : i < (bks L).length := by
        have := (List.getElem?_eq_some_iff.1 hx).1
        rw [bks_len]; exact this
      have hbi : (bks L)[i]? = some (x.p, x.o) := by unfold bks; rw [List.getElem?_map, hx]; rfl
      have hxo : x.o ≤ 10 := by
        have hm : x ∈ frB L := List.mem_iff_getElem?.2 ⟨i, hx⟩
        exact (tile_mem hi.tl (List.mem_filter.1 hm).1).2.2.2
      have ox11 := own_alloc (c := [.int .i64 0, .int .i64 0]) e11
      have k11 : Kept none' W w11 := (Kept.refl _ _).al e11
      refine ⟨⟨ox11.wr (by simp), ox11.wr (by simp)⟩, fun w12 e12 => ?_⟩
      have ox12 : own w12 W.heap.size [.int .i64 (x.p : Int), .int .i64 (x.o : Int)] := ox11.s2 e12
      have k12' : Kept none' W w12 := own0 k11 ((Kept.refl (· = W.heap.size) _).s2 e12 (.inl rfl)) fun x hx => by omega
      refine ⟨recKept_of k12' (by omega) id id, fun w13 k13 hs13 w14 e14 => ?_⟩
      have k1314 : Kept none' w13 w14 := (Kept.refl _ _).dr e14
      have ox14 := (ox12.kx k13 (by omega)).k k1314
      have kW14 : Kept (· = B + 1) W w14 := ((k12'.mono fun _ _ h => h.elim).trans k13 fun _ _ h => h).tr k1314
      have hWs := kW14.sz
      obtain ⟨K14, oz14, or14, on14, om14, of14⟩ := stK g1 kW14 fun x hx => by omega
      obtain ⟨fa, fc, ta, tc, ob14, rF14, rT14⟩ := (hR.k K14).one
      refine ⟨(i : Int), by rw [on14.rd]; rfl, some ⟨z, 0, none⟩, by rw [oz14.rd]; rfl, ?_⟩
      simp only [isP_some, Wif_true, gIf_true, pb_some, po_some, Nat.zero_add]
      refine ⟨fa, (bks L).length, fc, by rw [ob14.rd]; rfl, ?_⟩
      have e0 : decide ((i : Int) ≥ ((bks L).length : Int)) = false := by simp; omega
      simp only [e0]
      refine ⟨(x.p : Int), (x.o : Int), fun _ => ⟨by rw [ox14.rd]; rfl, by rw [ox14.rd]; rfl⟩, some ⟨z, 0, none⟩, fun _ => by rw [oz14.rd]; rfl, ?_⟩
      simp only [isP_some, Wif_true, gIf_true, pb_some, po_some, Nat.zero_add]
      refine ⟨fa, (bks L).length, fc, fun _ => by rw [ob14.rd]; rfl, (i : Int), fun _ => by rw [on14.rd]; rfl, ?_⟩
      obtain ⟨g, rfl, _, _, _, q1, q2⟩ := row2_rd rF14 hil
      obtain ⟨c1, c2⟩ := tkC_get _ i _ hbi
      rw [c1] at q1
      rw [c2] at q2
      have eG : ∀ {x y : Prop}, gIf (inB (i : Int) (bks L).length) y x = x := by intro x y; rw [inB_of (by omega) (by omega)]; simp [gIf]
      simp only [isP_some, Wif_true, gIf_true, pb_some, po_some, Nat.zero_add, eG, Int.toNat_natCast]
      refine ⟨(x.p : Int), (x.o : Int), fun _ => ⟨q1, q2⟩, Wif_no (by simp) ?_⟩
      refine ⟨(i : Int), by rw [on14.rd]; rfl, on14.wr (by simp), fun w15 e15 => ?_⟩
      rw [show IntKind.wrap .i64 ((i : Int) + 1) = ((i + 1 : Nat) : Int) by rw [wi (by omega)]; rfl] at e15
      have on15 := on14.s1 e15
      have k1415 : Kept (· = kb + 2) w14 w15 := (Kept.refl _ _).s1 e15 (.inl rfl)
      have om15 := om14.kx k1415 (by omega)
      have hsW : kb + 6 ≤ W.heap.size := by omega
      have ox15 := ox14.kx k1415 (by omega)
      refine ⟨_, by rw [om15.rd]; rfl, (x.o : Int), by rw [ox15.rd]; rfl, om15.wr (by simp), fun w16 e16 w17 e17 => ?_⟩
      have emx : (if (x.o : Int) > mxL ((bks L).take i) then (x.o : Int) else mxL ((bks L).take i)) = mxL ((bks L).take (i + 1)) := (mxL_snoc hbi).symm
      rw [emx] at e16
      have om16 := om15.s1 e16
      have k1516 : Kept (· = kb + 3) w15 w16 := (Kept.refl _ _).s1 e16 (.inl rfl)
      have k1617 : Kept none' w16 w17 := (Kept.refl _ _).dr e17
      have of17 := ((of14.kx k1415 (by omega)).kx k1516 (by omega)).k k1617
      have ox17 := (ox15.kx k1516 (by omega)).k k1617
      refine ⟨_, by rw [of17.rd]; rfl, (x.o : Int), by rw [ox17.rd]; rfl, Wif_yes (by simp) ⟨of17.wr (by simp), fun w18 e18 => ?_⟩⟩
      have hsv1 := hsv i
      have hpx := pow10 hxo
      have hpp := Nat.two_pow_pos x.o
      rw [shl1 hxo, show IntKind.wrap .i64 (((smL ((bks L).take i) : Nat) : Int) + ((2 ^ x.o : Nat) : Int)) = ((smL ((bks L).take (i + 1)) : Nat) : Int) by rw [wi (by omega), smL_snoc hbi]; rfl] at e18
      have of18 := of17.s1 e18
      have k1718 : Kept (· = kb + 4) w17 w18 := (Kept.refl _ _).s1 e18 (.inl rfl)
      have k1418 : Kept (fun x => x = kb + 2 ∨ x = kb + 3 ∨ x = kb + 4) w14 w18 := (((k1415.mono fun _ _ h => .inl h).trans k1516 fun _ _ h => .inr (.inl h)).tr k1617).trans k1718 fun _ _ h => .inr (.inr h)
      have k1318 : Kept (fun x => x = kb + 2 ∨ x = kb + 3 ∨ x = kb + 4) w13 w18 := (k1314.mono fun _ _ h => h.elim).trans k1418 fun _ _ h => h
      have kW18 : Kept (fun x => x = B + 1 ∨ x = kb + 2 ∨ x = kb + 3 ∨ x = kb + 4) W w18 := (kW14.mono fun _ _ h => .inl h).trans k1418 fun _ _ h => .inr h
      have hs18 := kW18.sz
      have hs12 := k12'.sz
      refine ⟨recKept_of k1318 (by omega) (by omega) (by omega), keptY_of kW18 fun y hy => ?_, ⟨own0 K14 k1418 fun x h => by omega, oz14.kx k1418 (by omega), or14.kx k1418 (by omega), ?_, ?_, of18⟩, by omega, fun y hy => ?_⟩
      · rcases hy with hy | hy
        · have h1 := hY y hy
          have h2 := g3 y hy
          exact ⟨h2, by omega⟩
        · exact hy.elim
      · exact ((on15.kx k1516 (by omega)).k k1617).kx k1718 (by omega)
      · exact (om16.k k1617).kx k1718 (by omega)
      · have := g3 y hy; omega
    · rintro Y W ⟨g1, gs, g3⟩ hd w11 e11 w12 e12
      rw [List.length_map] at g1
      have hlF : (frB L).length = (bks L).length := (bks_len L).symm
      rw [hlF] at g1
      have k11 : Kept none' W w11 := (Kept.refl _ _).al e11
      have k1112 : Kept none' w11 w12 := (Kept.refl _ _).al e12
      have c12 := own_alloc (c := [ptr b]) e12
      have k12' := k11.tr k1112
      have st12 := stK g1 k12' fun x h => h.elim
      have hd12 := hd.k k12' id
      have hdB : B < W.heap.size := (Array.getElem?_eq_some_iff.1 hd.at_).1
      have hs12 := k12'.sz
      clear e11 e12
      -- behind both
      have tail : ∀ W, St (bks L).length W → DefAt B W → DefAt w12.heap.size W → ∀ (w1 : World), w1 = World.drew W →
          ∃ (x : Int), rd w1 (kb + 2) 0 = some (Value.int IntKind.i64 x) ∧ ∃ (x_1 : Option Addr), rd w1 kb 0 = some (Value.pointer x_1) ∧ Wif (isP x_1) (∃ (x_2 : Option Addr), ∃ (x_3 : Nat), ∃ (x_4 : Nat), rd w1 (pb x_1) (po x_1 + 1) = some (Value.slice x_2 x_3 x_4) ∧ ∃ (x_5 : Int), ((x == (↑x_3 : Int)) = true → rd w1 (kb + 3) 0 = some (Value.int IntKind.i64 x_5)) ∧ Wif (x == (↑x_3 : Int)) (Calls Try.prog 17 #[Value.pointer (some ⟨b, 0, none⟩)] w1 fun (e : Ending) (w' : World) => ∃ (n_1 : Int), e = Ending.returned (Value.int IntKind.i64 n_1) ∧ ((x == (↑x_3 : Int)) = true → rd w' (kb + 3) 0 = some (Value.int IntKind.i64 x_5) ∧ True) ∧ (rd w' kb 0 = some (Value.pointer x_1) ∧ True) ∧ ∃ (x : Int), ((n_1 == x_5) = true → rd w' (kb + 4) 0 = some (Value.int IntKind.i64 x)) ∧ Wif (n_1 == x_5) (Calls Try.prog 19 #[Value.pointer (some ⟨b, 0, none⟩)] w' fun (e : Ending) (w' : World) => ∃ (n_2 : Int), e = Ending.returned (Value.int IntKind.i64 n_2) ∧ ((n_1 == x_5) = true → rd w' (kb + 4) 0 = some (Value.int IntKind.i64 x) ∧ True) ∧ (rd w' kb 0 = some (Value.pointer x_1) ∧ True) ∧ ∃ (x_6 : Option Addr), ((n_2 == x) = true → rd w' kb 0 = some (Value.pointer x_6)) ∧ gIf (isP x_6) ((n_2 == x) = true) (∃ (x_7 : Int), ((n_2 == x) = true → rd w' (pb x_6) (po x_6) = some (Value.int IntKind.i64 x_7)) ∧ Wif (n_2 == x) (Calls Try.prog 35 #[Value.pointer (some ⟨b, 0, none⟩)] w' fun (e : Ending) (w' : World) => ∃ (n : Int), e = Ending.returned (Value.int IntKind.i64 n) ∧ ((n_2 == x) = true → rd w' (pb x_6) (po x_6) = some (Value.int IntKind.i64 x_7) ∧ True) ∧ ((n_2 == x) = true → rd w' kb 0 = some (Value.pointer x_6) ∧ True) ∧ (rd w' kb 0 = some (Value.pointer x_1) ∧ True) ∧ wr w' (kb + 1) 0 ∧ ∀ (w'_12 : World), w'_12 = st w' (kb + 1) 0 (Value.bool (n == x_7)) → DefsAt [w12.heap.size, B] w'_12 ∧ ∀ (w2 : World), Kept (fun (b : Nat) => List.Mem b [w12.heap.size, B]) w'_12 w2 → w2.heap.size = w'_12.heap.size → ∃ (x : Bool), rd w2 (kb + 1) 0 = some (Value.bool x) ∧ Value.bool x = Value.bool true ∧ Kept none' w w2)
              (((n_2 == x) = true → rd w' (pb x_6) (po x_6) = some (Value.int IntKind.i64 x_7) ∧ True) ∧ ((n_2 == x) = true → rd w' kb 0 = some (Value.pointer x_6) ∧ True) ∧ (rd w' kb 0 = some (Value.pointer x_1) ∧ True) ∧ wr w' (kb + 1) 0 ∧ ∀ (w'_12 : World), w'_12 = st w' (kb + 1) 0 (Value.bool false) → DefsAt [w12.heap.size, B] w'_12 ∧ ∀ (w2 : World), Kept (fun (b : Nat) => List.Mem b [w12.heap.size, B]) w'_12 w2 → w2.heap.size = w'_12.heap.size → ∃ (x : Bool), rd w2 (kb + 1) 0 = some (Value.bool x) ∧ Value.bool x = Value.bool true ∧ Kept none' w w2)))
              (((n_1 == x_5) = true → rd w' (kb + 4) 0 = some (Value.int IntKind.i64 x) ∧ True) ∧ (rd w' kb 0 = some (Value.pointer x_1) ∧ True) ∧ (rd w' kb 0 = some (Value.pointer x_1) ∧ True) ∧ wr w' (kb + 1) 0 ∧ ∀ (w'_12 : World), w'_12 = st w' (kb + 1) 0 (Value.bool false) → DefsAt [w12.heap.size, B] w'_12 ∧ ∀ (w2 : World), Kept (fun (b : Nat) => List.Mem b [w12.heap.size, B]) w'_12 w2 → w2.heap.size = w'_12.heap.size → ∃ (x : Bool), rd w2 (kb + 1) 0 = some (Value.bool x) ∧ Value.bool x = Value.bool true ∧ Kept none' w w2))
              (((x == (↑x_3 : Int)) = true → rd w1 (kb + 3) 0 = some (Value.int IntKind.i64 x_5) ∧ True) ∧ (rd w1 kb 0 = some (Value.pointer x_1) ∧ True) ∧ (rd w1 kb 0 = some (Value.pointer x_1) ∧ True) ∧ (rd w1 kb 0 = some (Value.pointer x_1) ∧ True) ∧ wr w1 (kb + 1) 0 ∧ ∀ (w' : World), w' = st w1 (kb + 1) 0 (Value.bool false) → DefsAt [w12.heap.size, B] w' ∧ ∀ (w2 : World), Kept (fun (b : Nat) => List.Mem b [w12.heap.size, B]) w' w2 → w2.heap.size = w'.heap.size → ∃ (x : Bool), rd w2 (kb + 1) 0 = some (Value.bool x) ∧ Value.bool x = Value.bool true ∧ Kept none' w w2)) False := by
        intro W' st' d1 d2 w13 e13
        have k13 : Kept none' W' w13 := (Kept.refl _ _).dr e13
        obtain ⟨K13, oz13, or13, on13, om13, of13⟩ := stK st' k13 fun x h => h.elim
        have d1' := d1.k k13 id
        have d2' := d2.k k13 id
        obtain ⟨fa, fc, ta, tc, ob13, rF13, rT13⟩ := (hR.k K13).one
        have h13 := h.k K13
        refine ⟨_, by rw [on13.rd]; rfl, some ⟨z, 0, none⟩, by rw [oz13.rd]; rfl, ?_⟩
        simp only [isP_some, Wif_true, gIf_true, pb_some, po_some, Nat.zero_add]
        refine ⟨fa, (bks L).length, fc, by rw [ob13.rd]; rfl, _, fun _ => by rw [om13.rd]; rfl, Wif_yes (by simp) ?_⟩
        rw [List.take_length, mxL_bks hi] at *
        refine (most_sp h13 hi).mono ?_
        rintro _ wq ⟨rfl, hq⟩
        rw [hq]
        clear hq wq
        refine ⟨_, rfl, fun _ => ⟨by rw [om13.rd]; rfl, trivial⟩, ⟨by rw [oz13.rd]; rfl, trivial⟩, _, fun _ => by rw [of13.rd]; rfl, Wif_yes (by simp) ?_⟩
        rw [smL_bks] at *
        refine (free_st h13 hi).mono ?_
        rintro _ wq ⟨rfl, hq⟩
        rw [hq]
        clear hq wq
        refine ⟨_, rfl, fun _ => ⟨by rw [of13.rd]; rfl, trivial⟩, ⟨by rw [oz13.rd]; rfl, trivial⟩, some ⟨z, 0, none⟩, fun _ => by rw [oz13.rd]; rfl, ?_⟩
        simp only [isP_some, Wif_true, gIf_true, pb_some, po_some, Nat.zero_add]
        refine ⟨(n : Int), fun _ => by rw [ob13.rd]; rfl, Wif_yes (by simp) ?_⟩
        refine (frames_spec h13).mono ?_
        rintro _ wq ⟨rfl, hq⟩
        rw [hq]
        clear hq wq
        refine ⟨_, rfl, fun _ => ⟨by rw [ob13.rd]; rfl, trivial⟩, fun _ => ⟨by rw [oz13.rd]; rfl, trivial⟩, ⟨by rw [oz13.rd]; rfl, trivial⟩, or13.wr (by simp), fun w14 e14 => ?_⟩
        have or14 := or13.s1 e14
        have k14 : Kept (· = kb + 1) w13 w14 := (Kept.refl _ _).s1 e14 (.inl rfl)
        have d1'' := d1'.k k14 (by omega)
        have d2'' := d2'.k k14 (by omega)
        have hnm : ¬ List.Mem (kb + 1) [w12.heap.size, B] := fun hm => by
          have : kb + 1 = w12.heap.size ∨ kb + 1 = B := by simpa using (show (kb + 1) ∈ [w12.heap.size, B] from hm)
          omega
        refine ⟨⟨by simp; omega, fun D hD => ?_⟩, fun w15 k15 hs15 => ⟨_, by rw [(or14.kx k15 hnm).rd]; rfl, by simp, ?_⟩⟩
        · simp at hD
          rcases hD with rfl | rfl
          · exact d2''.at_
          · exact d1''.at_
        · have := own0 K13 k14 fun x h => by omega
          refine own0 this k15 fun x h => ?_
          have : x = w12.heap.size ∨ x = B := by simpa using (show x ∈ [w12.heap.size, B] from h)
          omega
      refine ⟨(frB L).map fun x => [blkV x], fun _ => False, fun Y i W => St (bks L).length W ∧ DefAt B W ∧ ∀ x, Y x → x < W.heap.size, fun k _ W => k = 3 ∧ St (bks L).length W ∧ DefAt B W, ⟨blocks_gives (sort_says L) (h.k (stK g1 k12' fun x h => h.elim).1) hi (by rw [c12.rd]; rfl), fun xs hx => ?_, fun b h => h.elim⟩, fun w13 k13 hs13 => ⟨stK st12 k13 fun x h => h.elim, hd12.k k13 id, fun x h => h.elim⟩, ?_, ?_, ?_, ?_, ?_, ?_⟩
      · obtain ⟨x, _, rfl⟩ := List.mem_map.1 hx
        exact ⟨rfl, _, rfl⟩
      · rintro Y i W W' ⟨q1, q2, q3⟩ hY k'
        have hsz := k'.sz
        refine ⟨stK q1 k' fun x hx => (by rcases hx with rfl | rfl | h; omega; omega; have := hY x h; omega), q2.k k' (fun h => by rcases h with h | h | h; omega; omega; have := hY _ h; omega), fun x hx => ?_⟩
        rcases hx with hx | hx
        · have := q3 x hx; omega
        · exact hx.2
      · rintro k Y W W' ⟨q0, q1, q2⟩ hY k'
        exact ⟨q0, stK q1 k' fun x hx => (by rcases hx with rfl | rfl | h; omega; omega; have := hY x h; omega), q2.k k' (fun h => by rcases h with h | h | h; omega; omega; have := hY _ h; omega)⟩
      · rintro Y i W ⟨q1, q2, q3⟩ hY hsz v hv
        refine ⟨recKept_refl _ _, fun w13 k13 hs13 => ⟨recKept_refl _ _, keptY_of k13 (fun b hb => ?_), rfl, stK q1 k13 fun x hx => by omega, q2.k k13 (by omega)⟩⟩
        rcases hb with hb | hb
        · have := hY b hb; have := q3 b hb; exact ⟨by omega, by omega⟩
        · exact hb.elim
      · rintro Y W ⟨q1, q2, q3⟩ hd2
        exact tail W q1 q2 hd2
      · rintro Y W ⟨q0, _⟩ hd2
        cases q0
      · rintro Y W ⟨_, q1, q2⟩ hd2
        exact tail W q1 q2 hd2
  · rintro e w' ⟨v, rfl, rfl, hw⟩
    exact ⟨rfl, hw⟩
end
end Go.Proofs.Ytkmcmkimeibjdaa
