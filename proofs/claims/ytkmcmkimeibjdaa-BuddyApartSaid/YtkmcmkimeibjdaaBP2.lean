/-
  A part of a proof that a law of this seat returns true at every input. Conditions: those in each theorem.
-/
import Derived.Test.YtkmcmkimeibjdaaBP1
import Derived.Test.YtkmcmkimeibjdaaBL9
namespace Go.Proofs.Ytkmcmkimeibjdaa
open Go Eng
set_option linter.unusedSimpArgs false
set_option linter.unusedVariables false
set_option maxRecDepth 100000
/-! ### BuddyPowers -/
theorem takeR_one {n : Nat} {l l' : List Bk} {o : Int} {high : Bool} {a : Int} (hi : Inv n l) (h : TakeR l o high a 0 l') : ∃ (o' r : Nat), o = o' ∧ a = r ∧ (⟨r, o', 1⟩ : Bk) ∉ l ∧ (∀ y : Bk, y.g = 1 → (y ∈ l' ↔ y ∈ l ∨ y = ⟨r, o', 1⟩)) ∧ fsum l' + 2 ^ o' = fsum l := by
  rcases h with ⟨_, _, h, _⟩ | ⟨_, _, _, _, _, h, _⟩ | ⟨o', x, r, a1, a2, a3, a4, a5, a6, a7, a8, a9, a10, a11⟩
  · cases h
  · cases h
  have hxo : 2 ^ o' ≤ 2 ^ x.o := Nat.pow_le_pow_right (by omega) a2
  have hp := p2 o'
  refine ⟨o', r, a1, a7, fun hm => ?_, a10, a11⟩
  have := tile_over hi.tl a3 hm (by dsimp only; cases high <;> simp at a8 <;> omega) (by dsimp only; cases high <;> simp at a8 <;> omega)
  rw [this] at a4
  cases a4
theorem takeR_no {l l' : List Bk} {o : Int} {high : Bool} {a e : Int} (h : TakeR l o high a e l') (he : e ≠ 0) : l' = l := by
  rcases h with ⟨_, _, h, rfl⟩ | ⟨_, _, _, _, _, h, rfl⟩ | ⟨o', x, r, a1, a2, a3, a4, a5, a6, a7, a8, a9, a10, a11⟩
  · rfl
  · rfl
  · exact absurd a9 he
/-- what is taken -/
def tkC (T : List (Nat × Nat)) : List Value := T.flatMap fun x => [.int .i64 (x.1 : Int), .int .i64 (x.2 : Int)]
theorem tkC_get : ∀ (d : List (Nat × Nat)) (i : Nat) (a : Nat × Nat), d[i]? = some a → (tkC d)[i * 2]? = some (.int .i64 (a.1 : Int)) ∧ (tkC d)[i * 2 + 1]? = some (.int .i64 (a.2 : Int))
  | [], i, a, h => by simp at h
  | x :: d, 0, a, h => by
    simp at h
    subst h
    exact ⟨rfl, rfl⟩
  | x :: d, i + 1, a, h => by
    have := tkC_get d i a (by simpa using h)
    have e1 : (i + 1) * 2 = i * 2 + 1 + 1 := by omega
    rw [e1]
    exact this
def Tks (L : List Bk) (T : List (Nat × Nat)) : Prop := T.Nodup ∧ ∀ y : Bk, y.g = 1 → (y ∈ L ↔ (y.p, y.o) ∈ T)
theorem Tks.none {n : Nat} {L : List Bk} (h : Tks L []) (hi : Inv n L) : ∀ x ∈ L, x.g = 0 := fun x hx => by
  rcases hi.g01 x hx with h1 | h1
  · exact h1
  · exact absurd ((h.2 x h1).1 hx) (by simp)
theorem Tks.take {L L' : List Bk} {T : List (Nat × Nat)} {r o : Nat} (h : Tks L T) (hn : (⟨r, o, 1⟩ : Bk) ∉ L) (hs : ∀ y : Bk, y.g = 1 → (y ∈ L' ↔ y ∈ L ∨ y = ⟨r, o, 1⟩)) : Tks L' (T ++ [(r, o)]) := by
  refine ⟨?_, fun y hy => ?_⟩
  · rw [List.nodup_append]
    refine ⟨h.1, by simp, fun x hx y hy e => ?_⟩
    simp at hy
    subst hy e
    exact hn ((h.2 ⟨r, o, 1⟩ rfl).2 hx)
  · rw [hs y hy, h.2 y hy, List.mem_append]
    constructor
    · rintro (h | rfl)
      · exact .inl h
      · exact .inr (by simp)
    · rintro (h | h)
      · exact .inl h
      · simp at h
        exact .inr ((eqBk _ _).2 ⟨h.1, h.2, hy⟩)
theorem Tks.give {L L' : List Bk} {T : List (Nat × Nat)} {p o : Nat} (h : Tks L ((p, o) :: T)) (hs : ∀ y : Bk, y.g = 1 → (y ∈ L' ↔ y ∈ L ∧ y ≠ ⟨p, o, 1⟩)) : Tks L' T := by
  obtain ⟨hn, hT⟩ := List.nodup_cons.1 h.1
  refine ⟨hT, fun y hy => ?_⟩
  rw [hs y hy, h.2 y hy, List.mem_cons]
  constructor
  · rintro ⟨h | h, hne⟩
    · simp at h
      exact absurd ((eqBk _ _).2 ⟨h.1, h.2, hy⟩) hne
    · exact h
  · intro hm
    refine ⟨.inr hm, fun e => ?_⟩
    rw [e] at hm
    exact hn hm
theorem powers_law (hs : ∀ n L, Inv n L → SortSays L) (n : Int) (l : Option Addr) (lL lC : Nat) (f : Nat → Int) (W : World) (hp : 0 < lL → isP l = true) (hx : ∀ i, i < lL → rd W (pb l) (po l + i) = some (.int .i64 (f i))) :
    Calls Try.prog 7 #[.int .i64 n, .slice l lL lC] W fun r w' => r = .returned (.bool true) ∧ Kept none' W w' := by
  refine (vc7 n l lL lC W (fun v w' => v = .bool true ∧ Kept none' W w') ?_).mono ?_
  · unfold vcP7
    have hknown : ∀ w1, Kept none' W w1 → Calls Try.prog 14 #[] w1 fun (e : Ending) (w' : World) => ∃ (b : Bool), e = Ending.returned (Value.bool b) ∧ (Value.bool b = .bool true ∧ Kept none' W w') := fun w1 k1 => by
      refine (known_spec w1).mono ?_
      rintro _ w2 ⟨rfl, k2⟩
      exact ⟨_, rfl, rfl, k1.tr k2⟩
    have start : ∀ {w1 w2 w3 : World} {x : Option Addr}, Kept none' W w1 → w2 = w1.alloc (.cells #[.pointer none] 23) → w3 = st w2 w1.heap.size 0 (.pointer x) → own w3 w1.heap.size [.pointer x] ∧ Kept none' w1 w3 := fun k e2 e3 => by
      have o2 := own_alloc (c := [.pointer none]) e2
      have o3 := o2.s1 e3
      exact ⟨o3, own0 ((Kept.refl _ _).al e2) ((Kept.refl (· = _) _).s1 e3 (.inl rfl)) fun x h => by subst h; exact Nat.le_refl _⟩
    refine (new_spec W n).mono ?_
    rintro _ w1 (⟨_, rfl, rfl⟩ | ⟨N, b, m, t, L, rfl, rfl, k1, h1, i1, g1, fr1⟩)
    · refine ⟨_, _, rfl, fun w2 e2 => ⟨(own_alloc (c := [.pointer none]) e2).wr (by simp), fun w3 e3 => ⟨none, fun h => by simp at h, Wif_yes (by simp) (hknown _ ?_)⟩⟩⟩
      exact (start (Kept.refl _ _) e2 e3).2
    refine ⟨_, _, rfl, fun w2 e2 => ⟨(own_alloc (c := [.pointer none]) e2).wr (by simp), fun w3 e3 => ?_⟩⟩
    obtain ⟨o3, k13⟩ := start k1 e2 e3
    have k3 := k1.tr k13
    have h3 := h1.k k13
    have hlt : ∀ x, bblk b m t x → x < w1.heap.size := fun x hx => h1.lt hx
    have hsz1 := k1.sz
    generalize hkb : w1.heap.size = kb at *
    refine ⟨_, fun _ => by rw [o3.rd]; rfl, Wif_intro (fun _ => hknown _ k3) (fun hc => ?_)⟩
    simp at hc
    have hL : lL ≤ 100 := by omega
    have hN := i1.n1
    refine ⟨fun ones nn w' M => ∃ k : Nat, nn = (k : Int) ∧ k ≤ 128 ∧ k = M ∧ w' = w3 ∧ ∃ q : Nat, ones = (q : Int) ∧ q + cnt k 8 = cnt N 8, ⟨N, N, rfl, by omega, rfl, rfl, 0, rfl, by omega⟩, ?_⟩
    rintro _ _ _ _ ⟨k, rfl, hk, rfl, rfl, q, rfl, hq⟩
    refine Wif_intro (fun hc2 => ?_) (fun hc2 => ?_)
    · simp only [decide_eq_true_eq] at hc2
      have hq8 := cnt_le N 8
      have e1 : Int.tmod (k : Int) 2 = ((k % 2 : Nat) : Int) := by rw [Int.tmod_eq_emod_of_nonneg (by omega)]; omega
      have e2 : Int.tdiv (k : Int) 2 = ((k / 2 : Nat) : Int) := by rw [Int.tdiv_eq_ediv_of_nonneg (by omega)]; omega
      rw [e1, e2, wi (by omega), wi (by omega)]
      have := cnt_step hk
      exact ⟨k / 2, by omega, k / 2, rfl, by omega, rfl, rfl, q + k % 2, by omega, by omega⟩
    have hk0 : k = 0 := by simp at hc2; omega
    subst hk0
    rename_i w3
    have hq' : q = cnt N 8 := by have : cnt 0 8 = 0 := by decide
                                 omega
    subst hq'
    refine (count_spec (hs _ _ i1) h3 i1 (by rw [o3.rd]; rfl)).mono ?_
    rintro _ w4 ⟨rfl, k4⟩
    rw [whole_cnt i1 g1]
    refine ⟨_, rfl, Wif_no (by simp) ?_⟩
    have o4 := o3.k k4
    have h4 := h3.k k4
    have K4 := k3.tr k4
    refine ⟨fun a l c k w' M => ∃ (q : Nat) (L : List Bk) (T : List (Nat × Nat)), k = (q : Int) ∧ q ≤ lL ∧ M = lL - q ∧ l = T.length ∧ l ≤ q ∧ Kept none' W w' ∧ own w' kb [ptr b] ∧ BAt w' b m t (stOf N L) ∧ Inv N L ∧ Tks L T ∧ w'.ownsRow (kb + 1) 58 2 (.slice a l c) l (tkC T),
      ⟨lL, 0, L, [], rfl, by omega, rfl, rfl, by simp, K4, o4, h4, i1, ⟨List.nodup_nil, fun y hy => ⟨fun hm => by have := g1 y hm; omega, fun h => by simp at h⟩⟩, World.ownsRow_nil _ _ _ _⟩, ?_⟩
    rintro a l1 c k w5 _ ⟨q, L, T, rfl, hq, rfl, rfl, hlq, k5, o5, h5, i5, t5, row5⟩
    have hrowB : ∀ {w : World} {v : Value} {n : Nat} {xs : List Value}, w.ownsRow (kb + 1) 58 2 v n xs → ∀ x, v.ownBlock = some x → kb + 1 ≤ x := fun h x hx => (rowTy h hx).1
    refine Wif_intro (fun hc3 => ?_) (fun hc3 => ?_)
    · simp only [decide_eq_true_eq] at hc3
      intro w6 e6
      have k56 : Kept none' w5 w6 := (Kept.refl _ _).dr e6
      have K6 := k5.tr k56
      have hP := hp (by omega)
      have eP : ∀ {x y : Prop}, Wif (isP l) x y = x := by intro x y; rw [hP]; rfl
      have eB : ∀ {x y : Prop}, Wif (inB (q : Int) lL) x y = x := by intro x y; rw [inB_of (by omega) (by omega)]; rfl
      simp only [eP, eB, Int.toNat_natCast, Nat.mul_one]
      have ew : IntKind.wrap .i64 ((q : Int) + 1) = ((q + 1 : Nat) : Int) := by rw [wi (by omega)]; rfl
      rw [ew]
      refine ⟨_, by rw [(o5.k k56).rd]; rfl, _, K6.rd_some (hx q (by omega)) id, (take_spec (h5.k k56) i5 (f q) _).mono ?_⟩
      rintro _ w7 ⟨r, e, L', rfl, k7, h7, i7, r7⟩
      have K7 : Kept none' W w7 := own0 K6 k7 fr1
      have o7 := (o5.k k56).kx k7 fun hx => by have := hlt _ hx; omega
      have row7 := ownsRow_kx (ownsRow_kx row5 k56 fun _ _ _ _ => id) k7 fun x hx _ _ hb => by have := hlt _ hb; omega
      refine ⟨_, _, rfl, Wif_intro (fun he => ?_) (fun he => ?_)⟩
      · have he0 : e = 0 := by simpa using he
        subst he0
        obtain ⟨o', rr, ho, rfl, hnew, hset, _⟩ := takeR_one i5 r7
        refine ⟨_, K7.rd_some (hx q (by omega)) id, ?_⟩
        rw [ho]
        intro w8 e8
        have k78 : Kept none' w7 w8 := (Kept.refl _ _).al e8
        have p8 := own_alloc (c := [Value.int .i64 (rr : Int), Value.int .i64 (o' : Int)]) e8
        have row8 := ownsRow_kx row7 k78 (fun _ _ _ _ => id)
        have hs8 : kb + 1 ≤ w8.heap.size := by have := o7.lt; have := p8.lt; omega
        obtain ⟨a2, l2, c2, w9, happ, rfl, row9, k9⟩ := app_blk row8 p8 (m := 1) (off := 0) (c := 1) (news := [Value.int .i64 (rr : Int), Value.int .i64 (o' : Int)]) rfl rfl (fun u hu => by simp at hu; rcases hu with rfl | rfl <;> rfl) (by omega) hs8
        refine ⟨a2, _, c2, w9, happ, lL - (q + 1), by omega, q + 1, L', T ++ [(rr, o')], rfl, by omega, rfl, by simp, by omega, own0 (K7.tr k78) k9 fun x hx => by have := hrowB row8 x hx; omega, (o7.k k78).kx k9 fun hx => by have := hrowB row8 _ hx; omega, (h7.k k78).kx k9 fun x hx hb => by have := hrowB row8 x hx; have := hlt x hb; omega, i7, t5.take hnew hset, ?_⟩
        have : tkC (T ++ [(rr, o')]) = tkC T ++ [Value.int .i64 (rr : Int), Value.int .i64 (o' : Int)] := by simp [tkC]
        rw [this]; exact row9
      · have he0 : e ≠ 0 := by simpa using he
        have := takeR_no r7 he0
        subst this
        exact ⟨lL - (q + 1), by omega, q + 1, L', T, rfl, by omega, rfl, rfl, by omega, K7, o7, h7, i7, t5, row7⟩
    refine ⟨fun _ k w' M => ∃ (i : Nat) (L : List Bk), k = (i : Int) ∧ i ≤ T.length ∧ M = T.length - i ∧ Kept none' W w' ∧ own w' kb [ptr b] ∧ BAt w' b m t (stOf N L) ∧ Inv N L ∧ Tks L (T.drop i) ∧ w'.ownsRow (kb + 1) 58 2 (.slice a T.length c) T.length (tkC T),
      ⟨T.length, 0, L, rfl, by omega, rfl, k5, o5, h5, i5, t5, row5⟩, ?_⟩
    rintro _ _ w6 _ ⟨i, L, rfl, hi, rfl, k6, o6, h6, i6, t6, row6⟩
    refine Wif_intro (fun hc4 => ?_) (fun hc4 => ?_)
    · have hil : i < T.length := by simp at hc4; omega
      intro w7 e7
      have k67 : Kept none' w6 w7 := (Kept.refl _ _).dr e7
      have K7 := k6.tr k67
      have row7 := ownsRow_kx row6 k67 fun _ _ _ _ => id
      obtain ⟨g, rfl, _, hg, _, q1, q2⟩ := row2_rd row7 hil
      obtain ⟨⟨p, o⟩, hpo⟩ : ∃ x, T[i]? = some x := ⟨T[i], by simp [hil]⟩
      obtain ⟨c1, c2⟩ := tkC_get T i _ hpo
      rw [c1] at q1
      rw [c2] at q2
      have hdr : T.drop i = (p, o) :: T.drop (i + 1) := by
        rw [List.drop_eq_getElem_cons hil]
        congr 1
        have := List.getElem?_eq_getElem hil
        rw [this] at hpo
        exact Option.some.inj hpo
      rw [hdr] at t6
      have eP : ∀ {x y : Prop}, Wif (isP (some (⟨g, 0, none⟩ : Addr))) x y = x := by intro x y; rfl
      have eB : ∀ {x y : Prop}, Wif (inB (i : Int) T.length) x y = x := by intro x y; rw [inB_of (by omega) (by omega)]; rfl
      have ew : IntKind.wrap .i64 ((i : Int) + 1) = ((i + 1 : Nat) : Int) := by rw [wi (by omega)]; rfl
      simp only [eP, eB, Int.toNat_natCast, pb_some, po_some, Nat.zero_add]
      rw [ew]
      refine ⟨_, by rw [(o6.k k67).rd]; rfl, _, q1, _, q2, (give_spec (h6.k k67) i6 _ _).mono ?_⟩
      rintro _ w8 ⟨e, L', rfl, k8, h8, i8, r8⟩
      have K8 : Kept none' W w8 := own0 K7 k8 fr1
      have o8 := (o6.k k67).kx k8 fun hx => by have := hlt _ hx; omega
      have row8 := ownsRow_kx row7 k8 fun x hx _ _ hb => by have := hlt _ hb; omega
      have hin : (⟨p, o, 1⟩ : Bk) ∈ L := (t6.2 _ rfl).2 (by simp)
      rcases r8 with ⟨h, _⟩ | ⟨x, b1, b2, b3, b4, rfl, b6, b7⟩
      · exact absurd (mem_tk.2 ⟨_, hin, rfl, rfl, rfl⟩) h
      have hxx : (⟨p, o, 1⟩ : Bk) = x := (eqBk _ _).2 ⟨by dsimp only; omega, by dsimp only; omega, b2.symm⟩
      subst hxx
      exact ⟨_, rfl, Wif_no rfl ⟨T.length - (i + 1), by omega, i + 1, L', rfl, by omega, rfl, K8, o8, h8, i8, t6.give b6, row8⟩⟩
    have hiT : i = T.length := by simp at hc4; omega
    subst hiT
    rw [List.drop_length] at t6
    refine (count_spec (hs _ _ i6) h6 i6 (by rw [o6.rd]; rfl)).mono ?_
    rintro _ w7 ⟨rfl, k7⟩
    rw [whole_cnt i6 (t6.none i6)]
    exact ⟨_, rfl, Wif_yes (by simp) (hknown _ (k6.tr k7))⟩
  · rintro e w' ⟨v, rfl, rfl, hw⟩
    exact ⟨rfl, hw⟩
end Go.Proofs.Ytkmcmkimeibjdaa
