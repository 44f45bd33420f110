/-
  A part of a proof that a law of this seat returns true at every input. Conditions: those in each theorem.
-/
import Derived.Test.YtkmcmkimeibjdaaBV4
import Derived.Test.YtkmcmkimeibjdaaBL9
import Derived.Test.YtkmcmkimeibjdaaBN1
import Derived.Shelf.SlSortCmp.InsertionK
import Derived.Sort.OwnSortedInts
import Derived.Test.YtkmcmkimeibjdaaProg
import Derived.Shelf.SlSortCmp.NoneTotal
namespace Go.Proofs.Ytkmcmkimeibjdaa
open Go Eng
set_option linter.unusedSimpArgs false
set_option linter.unusedVariables false
set_option maxRecDepth 100000
/-! ### BuddyPowers -/
theorem takeR_one {n : Nat} {l l' : List Bk} {o : Int} {high : Bool} {a : Int} (hi : Inv n l) (h : TakeR l o high a 0 l') : ∃ (o' r : Nat), o = o' ∧ a = r ∧ (⟨r, o', 1⟩ : Bk) ∉ l ∧ (∀ y : Bk, y.g = 1 → (y ∈ l' ↔ y ∈ l ∨ y = ⟨r, o', 1⟩)) ∧ fsum l' + 2 ^ o' = fsum l := by
  rcases h with ⟨_, _, h, _⟩ | ⟨_, _, _, _, _, h, _⟩ | ⟨o', x, r, a1, a2, a3, a4, a5, a6, a7, a8, a9, a10, a11⟩
  · cases h
  · cases h
  have hxo : 2 ^ o' ≤ 2 ^ x.o := Nat.pow_le_pow_right (by omega) a2
  have hp := p2 o'
  refine ⟨o', r, a1, a7, fun hm => ?_, a10, a11⟩
  have := tile_over hi.tl a3 hm (by dsimp only; cases high <;> simp at a8 <;> omega) (by dsimp only; cases high <;> simp at a8 <;> omega)
  rw [this] at a4
  cases a4
theorem takeR_no {l l' : List Bk} {o : Int} {high : Bool} {a e : Int} (h : TakeR l o high a e l') (he : e ≠ 0) : l' = l := by
  rcases h with ⟨_, _, h, rfl⟩ | ⟨_, _, _, _, _, h, rfl⟩ | ⟨o', x, r, a1, a2, a3, a4, a5, a6, a7, a8, a9, a10, a11⟩
  · rfl
  · rfl
  · exact absurd a9 he
/-- what is taken -/
def tkC (T : List (Nat × Nat)) : List Value := T.flatMap fun x => [.int .i64 (x.1 : Int), .int .i64 (x.2 : Int)]
theorem tkC_get : ∀ (d : List (Nat × Nat)) (i : Nat) (a : Nat × Nat), d[i]? = some a → (tkC d)[i * 2]? = some (.int .i64 (a.1 : Int)) ∧ (tkC d)[i * 2 + 1]? = some (.int .i64 (a.2 : Int))
  | [], i, a, h => by simp at h
  | x :: d, 0, a, h => by
    simp at h
    subst h
    exact ⟨rfl, rfl⟩
  | x :: d, i + 1, a, h => by
    have := tkC_get d i a (by simpa using h)
    have e1 : (i + 1) * 2 = i * 2 + 1 + 1 := by omega
    rw [e1]
    exact this
def Tks (L : List Bk) (T : List (Nat × Nat)) : Prop := T.Nodup ∧ ∀ y : Bk, y.g = 1 → (y ∈ L ↔ (y.p, y.o) ∈ T)
theorem Tks.none {n : Nat} {L : List Bk} (h : Tks L []) (hi : Inv n L) : ∀ x ∈ L, x.g = 0 := fun x hx => by
  rcases hi.g01 x hx with h1 | h1
  · exact h1
  · exact absurd ((h.2 x h1).1 hx) (by simp)
theorem Tks.take {L L' : List Bk} {T : List (Nat × Nat)} {r o : Nat} (h : Tks L T) (hn : (⟨r, o, 1⟩ : Bk) ∉ L) (hs : ∀ y : Bk, y.g = 1 → (y ∈ L' ↔ y ∈ L ∨ y = ⟨r, o, 1⟩)) : Tks L' (T ++ [(r, o)]) := by
  refine ⟨?_, fun y hy => ?_⟩
  · rw [List.nodup_append]
    refine ⟨h.1, by simp, fun x hx y hy e => ?_⟩
    simp at hy
    subst hy e
    exact hn ((h.2 ⟨r, o, 1⟩ rfl).2 hx)
  · rw [hs y hy, h.2 y hy, List.mem_append]
    constructor
    · rintro (h | rfl)
      · exact .inl h
      · exact .inr (by simp)
    · rintro (h | h)
      · exact .inl h
      · simp at h
        exact .inr ((eqBk _ _).2 ⟨h.1, h.2, hy⟩)
theorem Tks.give {L L' : List Bk} {T : List (Nat × Nat)} {p o : Nat} (h : Tks L ((p, o) :: T)) (hs : ∀ y : Bk, y.g = 1 → (y ∈ L' ↔ y ∈ L ∧ y ≠ ⟨p, o, 1⟩)) : Tks L' T := by
  obtain ⟨hn, hT⟩ := List.nodup_cons.1 h.1
  refine ⟨hT, fun y hy => ?_⟩
  rw [hs y hy, h.2 y hy, List.mem_cons]
  constructor
  · rintro ⟨h | h, hne⟩
    · simp at h
      exact absurd ((eqBk _ _).2 ⟨h.1, h.2, hy⟩) hne
    · exact h
  · intro hm
    refine ⟨.inr hm, fun e => ?_⟩
    rw [e] at hm
    exact hn hm
theorem powers_law (hs : ∀ n L, Inv n L → SortSays L) (n : Int) (l : Option Addr) (lL lC : Nat) (f : Nat → Int) (W : World) (hp : 0 < lL → isP l = true) (hx : ∀ i, i < lL → rd W (pb l) (po l + i) = some (.int .i64 (f i))) :
    Calls Try.prog 7 #[.int .i64 n, .slice l lL lC] W fun r w' => r = .returned (.bool true) ∧ Kept none' W w' := by
  refine (vc7 n l lL lC W (fun v w' => v = .bool true ∧ Kept none' W w') ?_).mono ?_
  · unfold vcP7
    have hknown : ∀ w1, Kept none' W w1 → Calls Try.prog 14 #[] w1 fun (e : Ending) (w' : World) => ∃ (b : Bool), e = Ending.returned (Value.bool b) ∧ (Value.bool b = .bool true ∧ Kept none' W w') := fun w1 k1 => by
      refine (known_spec w1).mono ?_
      rintro _ w2 ⟨rfl, k2⟩
      exact ⟨_, rfl, rfl, k1.tr k2⟩
    have start : ∀ {w1 w2 w3 : World} {x : Option Addr}, Kept none' W w1 → w2 = w1.alloc (.cells #[.pointer none] 23) → w3 = st w2 w1.heap.size 0 (.pointer x) → own w3 w1.heap.size [.pointer x] ∧ Kept none' w1 w3 := fun k e2 e3 => by
      have o2 := own_alloc (c := [.pointer none]) e2
      have o3 := o2.s1 e3
      exact ⟨o3, own0 ((Kept.refl _ _).al e2) ((Kept.refl (· = _) _).s1 e3 (.inl rfl)) fun x h => by subst h; exact Nat.le_refl _⟩
    refine (new_spec W n).mono ?_
    rintro _ w1 (⟨_, rfl, rfl⟩ | ⟨N, b, m, t, L, rfl, rfl, k1, h1, i1, g1, fr1⟩)
    · refine ⟨_, _, rfl, fun w2 e2 => ⟨(own_alloc (c := [.pointer none]) e2).wr (by simp), fun w3 e3 => ⟨none, fun h => by simp at h, Wif_yes (by simp) (hknown _ ?_)⟩⟩⟩
      exact (start (Kept.refl _ _) e2 e3).2
    refine ⟨_, _, rfl, fun w2 e2 => ⟨(own_alloc (c := [.pointer none]) e2).wr (by simp), fun w3 e3 => ?_⟩⟩
    obtain ⟨o3, k13⟩ := start k1 e2 e3
    have k3 := k1.tr k13
    have h3 := h1.k k13
    have hlt : ∀ x, bblk b m t x → x < w1.heap.size := fun x hx => h1.lt hx
    have hsz1 := k1.sz
    generalize hkb : w1.heap.size = kb at *
    refine ⟨_, fun _ => by rw [o3.rd]; rfl, Wif_intro (fun _ => hknown _ k3) (fun hc => ?_)⟩
    simp at hc
    have hL : lL ≤ 100 := by omega
    have hN := i1.n1
    refine ⟨fun ones nn w' M => ∃ k : Nat, nn = (k : Int) ∧ k ≤ 128 ∧ k = M ∧ w' = w3 ∧ ∃ q : Nat, ones = (q : Int) ∧ q + cnt k 8 = cnt N 8, ⟨N, N, rfl, by omega, rfl, rfl, 0, rfl, by omega⟩, ?_⟩
    rintro _ _ _ _ ⟨k, rfl, hk, rfl, rfl, q, rfl, hq⟩
    refine Wif_intro (fun hc2 => ?_) (fun hc2 => ?_)
    · simp only [decide_eq_true_eq] at hc2
      have hq8 := cnt_le N 8
      have e1 : Int.tmod (k : Int) 2 = ((k % 2 : Nat) : Int) := by rw [Int.tmod_eq_emod_of_nonneg (by omega)]; omega
      have e2 : Int.tdiv (k : Int) 2 = ((k / 2 : Nat) : Int) := by rw [Int.tdiv_eq_ediv_of_nonneg (by omega)]; omega
      rw [e1, e2, wi (by omega), wi (by omega)]
      have := cnt_step hk
      exact ⟨k / 2, by omega, k / 2, rfl, by omega, rfl, rfl, q + k % 2, by omega, by omega⟩
    have hk0 : k = 0 := by simp at hc2; omega
    subst hk0
    rename_i w3
    have hq' : q = cnt N 8 := by have : cnt 0 8 = 0 := by decide
                                 omega
    subst hq'
    refine (count_spec (hs _ _ i1) h3 i1 (by rw [o3.rd]; rfl)).mono ?_
    rintro _ w4 ⟨rfl, k4⟩
    rw [whole_cnt i1 g1]
    refine ⟨_, rfl, Wif_no (by simp) ?_⟩
    have o4 := o3.k k4
    have h4 := h3.k k4
    have K4 := k3.tr k4
    refine ⟨fun a l c k w' M => ∃ (q : Nat) (L : List Bk) (T : List (Nat × Nat)), k = (q : Int) ∧ q ≤ lL ∧ M = lL - q ∧ l = T.length ∧ l ≤ q ∧ Kept none' W w' ∧ own w' kb [ptr b] ∧ BAt w' b m t (stOf N L) ∧ Inv N L ∧ Tks L T ∧ w'.ownsRow (kb + 1) 58 2 (.slice a l c) l (tkC T),
      ⟨lL, 0, L, [], rfl, by omega, rfl, rfl, by simp, K4, o4, h4, i1, ⟨List.nodup_nil, fun y hy => ⟨fun hm => by have := g1 y hm; omega, fun h => by simp at h⟩⟩, World.ownsRow_nil _ _ _ _⟩, ?_⟩
    rintro a l1 c k w5 _ ⟨q, L, T, rfl, hq, rfl, rfl, hlq, k5, o5, h5, i5, t5, row5⟩
    have hrowB : ∀ {w : World} {v : Value} {n : Nat} {xs : List Value}, w.ownsRow (kb + 1) 58 2 v n xs → ∀ x, v.ownBlock = some x → kb + 1 ≤ x := fun h x hx => (rowTy h hx).1
    refine Wif_intro (fun hc3 => ?_) (fun hc3 => ?_)
    · simp only [decide_eq_true_eq] at hc3
      intro w6 e6
      have k56 : Kept none' w5 w6 := (Kept.refl _ _).dr e6
      have K6 := k5.tr k56
      have hP := hp (by omega)
      have eP : ∀ {x y : Prop}, Wif (isP l) x y = x := by intro x y; rw [hP]; rfl
      have eB : ∀ {x y : Prop}, Wif (inB (q : Int) lL) x y = x := by intro x y; rw [inB_of (by omega) (by omega)]; rfl
      simp only [eP, eB, Int.toNat_natCast, Nat.mul_one]
      have ew : IntKind.wrap .i64 ((q : Int) + 1) = ((q + 1 : Nat) : Int) := by rw [wi (by omega)]; rfl
      rw [ew]
      refine ⟨_, by rw [(o5.k k56).rd]; rfl, _, K6.rd_some (hx q (by omega)) id, (take_spec (h5.k k56) i5 (f q) _).mono ?_⟩
      rintro _ w7 ⟨r, e, L', rfl, k7, h7, i7, r7⟩
      have K7 : Kept none' W w7 := own0 K6 k7 fr1
      have o7 := (o5.k k56).kx k7 fun hx => by have := hlt _ hx; omega
      have row7 := ownsRow_kx (ownsRow_kx row5 k56 fun _ _ _ _ => id) k7 fun x hx _ _ hb => by have := hlt _ hb; omega
      refine ⟨_, _, rfl, Wif_intro (fun he => ?_) (fun he => ?_)⟩
      · have he0 : e = 0 := by simpa using he
        subst he0
        obtain ⟨o', rr, ho, rfl, hnew, hset, _⟩ := takeR_one i5 r7
        refine ⟨_, K7.rd_some (hx q (by omega)) id, ?_⟩
        rw [ho]
        intro w8 e8
        have k78 : Kept none' w7 w8 := (Kept.refl _ _).al e8
        have p8 := own_alloc (c := [Value.int .i64 (rr : Int), Value.int .i64 (o' : Int)]) e8
        have row8 := ownsRow_kx row7 k78 (fun _ _ _ _ => id)
        have hs8 : kb + 1 ≤ w8.heap.size := by have := o7.lt; have := p8.lt; omega
        obtain ⟨a2, l2, c2, w9, happ, rfl, row9, k9⟩ := app_blk row8 p8 (m := 1) (off := 0) (c := 1) (news := [Value.int .i64 (rr : Int), Value.int .i64 (o' : Int)]) rfl rfl (fun u hu => by simp at hu; rcases hu with rfl | rfl <;> rfl) (by omega) hs8
        refine ⟨a2, _, c2, w9, happ, lL - (q + 1), by omega, q + 1, L', T ++ [(rr, o')], rfl, by omega, rfl, by simp, by omega, own0 (K7.tr k78) k9 fun x hx => by have := hrowB row8 x hx; omega, (o7.k k78).kx k9 fun hx => by have := hrowB row8 _ hx; omega, (h7.k k78).kx k9 fun x hx hb => by have := hrowB row8 x hx; have := hlt x hb; omega, i7, t5.take hnew hset, ?_⟩
        have : tkC (T ++ [(rr, o')]) = tkC T ++ [Value.int .i64 (rr : Int), Value.int .i64 (o' : Int)] := by simp [tkC]
        rw [this]; exact row9
      · have he0 : e ≠ 0 := by simpa using he
        have := takeR_no r7 he0
        subst this
        exact ⟨lL - (q + 1), by omega, q + 1, L', T, rfl, by omega, rfl, rfl, by omega, K7, o7, h7, i7, t5, row7⟩
    refine ⟨fun _ k w' M => ∃ (i : Nat) (L : List Bk), k = (i : Int) ∧ i ≤ T.length ∧ M = T.length - i ∧ Kept none' W w' ∧ own w' kb [ptr b] ∧ BAt w' b m t (stOf N L) ∧ Inv N L ∧ Tks L (T.drop i) ∧ w'.ownsRow (kb + 1) 58 2 (.slice a T.length c) T.length (tkC T),
      ⟨T.length, 0, L, rfl, by omega, rfl, k5, o5, h5, i5, t5, row5⟩, ?_⟩
    rintro _ _ w6 _ ⟨i, L, rfl, hi, rfl, k6, o6, h6, i6, t6, row6⟩
    refine Wif_intro (fun hc4 => ?_) (fun hc4 => ?_)
    · have hil : i < T.length := by simp at hc4; omega
      intro w7 e7
      have k67 : Kept none' w6 w7 := (Kept.refl _ _).dr e7
      have K7 := k6.tr k67
      have row7 := ownsRow_kx row6 k67 fun _ _ _ _ => id
      obtain ⟨g, rfl, _, hg, _, q1, q2⟩ := row2_rd row7 hil
      obtain ⟨⟨p, o⟩, hpo⟩ : ∃ x, T[i]? = some x := ⟨T[i], by simp [hil]⟩
      obtain ⟨c1, c2⟩ := tkC_get T i _ hpo
      rw [c1] at q1
      rw [c2] at q2
      have hdr : T.drop i = (p, o) :: T.drop (i + 1) := by
        rw [List.drop_eq_getElem_cons hil]
        congr 1
        have := List.getElem?_eq_getElem hil
        rw [this] at hpo
        exact Option.some.inj hpo
      rw [hdr] at t6
      have eP : ∀ {x y : Prop}, Wif (isP (some (⟨g, 0, none⟩ : Addr))) x y = x := by intro x y; rfl
      have eB : ∀ {x y : Prop}, Wif (inB (i : Int) T.length) x y = x := by intro x y; rw [inB_of (by omega) (by omega)]; rfl
      have ew : IntKind.wrap .i64 ((i : Int) + 1) = ((i + 1 : Nat) : Int) := by rw [wi (by omega)]; rfl
      simp only [eP, eB, Int.toNat_natCast, pb_some, po_some, Nat.zero_add]
      rw [ew]
      refine ⟨_, by rw [(o6.k k67).rd]; rfl, _, q1, _, q2, (give_spec (h6.k k67) i6 _ _).mono ?_⟩
      rintro _ w8 ⟨e, L', rfl, k8, h8, i8, r8⟩
      have K8 : Kept none' W w8 := own0 K7 k8 fr1
      have o8 := (o6.k k67).kx k8 fun hx => by have := hlt _ hx; omega
      have row8 := ownsRow_kx row7 k8 fun x hx _ _ hb => by have := hlt _ hb; omega
      have hin : (⟨p, o, 1⟩ : Bk) ∈ L := (t6.2 _ rfl).2 (by simp)
      rcases r8 with ⟨h, _⟩ | ⟨x, b1, b2, b3, b4, rfl, b6, b7⟩
      · exact absurd (mem_tk.2 ⟨_, hin, rfl, rfl, rfl⟩) h
      have hxx : (⟨p, o, 1⟩ : Bk) = x := (eqBk _ _).2 ⟨by dsimp only; omega, by dsimp only; omega, b2.symm⟩
      subst hxx
      exact ⟨_, rfl, Wif_no rfl ⟨T.length - (i + 1), by omega, i + 1, L', rfl, by omega, rfl, K8, o8, h8, i8, t6.give b6, row8⟩⟩
    have hiT : i = T.length := by simp at hc4; omega
    subst hiT
    rw [List.drop_length] at t6
    refine (count_spec (hs _ _ i6) h6 i6 (by rw [o6.rd]; rfl)).mono ?_
    rintro _ w7 ⟨rfl, k7⟩
    rw [whole_cnt i6 (t6.none i6)]
    exact ⟨_, rfl, Wif_yes (by simp) (hknown _ (k6.tr k7))⟩
  · rintro e w' ⟨v, rfl, rfl, hw⟩
    exact ⟨rfl, hw⟩
end Go.Proofs.Ytkmcmkimeibjdaa
namespace Go.Proofs.Ytkmcmkimeibjdaa
open Go Eng Go.Sort
set_option linter.unusedSimpArgs false
set_option linter.unusedVariables false
set_option maxRecDepth 100000
/-! ### the sort's row -/
def encB (L : List Bk) (a : Fin 128) : List Value := [.int .i64 (a.1 : Int), .int .i64 (ordAt L a.1 : Nat)]
theorem holds_blk {w : World} {g : Nat} {cur : Array Value} {e : TypeId} {F : Array Value} (hb : w.heap[g]? = some (.cells cur e (0, 0))) (ht : cur.toList.take F.size = F.toList) : Holds id w g 0 F := by
  intro j hj
  refine ⟨?_, by simp [World.frozen?, hb]⟩
  have h1 : (cur.toList.take F.size)[j]? = F.toList[j]? := by rw [ht]
  rw [List.getElem?_take_of_lt hj] at h1
  simp only [World.cell?, hb, Nat.zero_add]
  simp only [Option.isSome_none, Bool.false_eq_true, if_false]
  rw [← Array.getElem?_toList, h1]
  simp [hj]
theorem heap_sortedV {w : World} {g n : Nat} {os : Array Obj} {cur : Array Value} {e : TypeId} {fr : Nat × Nat} (d : Array Value) (hb : w.heap[g]? = some (.cells cur e fr)) :
    (grow (putRow id (Sort.ahead w n) g 0 d) os).heap[g]? = some (.cells (putCells id 0 d cur) e fr) := by
  have hg : g < w.heap.size := (Array.getElem?_eq_some_iff.1 hb).1
  rw [heap_grow_old _ _ (by simpa using hg)]
  simp [putRow, mapBlock, Sort.ahead, Array.getElem?_modify, hb, onCells]
theorem grownBy_sortedV {w : World} {g n : Nat} {os : Array Obj} (d : Array Value) : w.grownBy (grow (putRow id (Sort.ahead w n) g 0 d) os) (some g) := by
  refine ⟨rfl, rfl, rfl, by simp, fun k hk hne => ?_⟩
  rw [heap_grow_old _ _ (by simpa using hk)]
  have : g ≠ k := fun e => hne (by rw [e])
  simp [putRow, mapBlock, Sort.ahead, Array.getElem?_modify, this]
theorem take_putCellsV (cur : Array Value) (F : Array Value) (h : F.size ≤ cur.size) : (putCells id 0 F cur).toList.take F.size = F.toList := by
  apply List.ext_getElem?
  intro j
  by_cases hj : j < F.size
  · rw [List.getElem?_take_of_lt hj, Array.getElem?_toList]
    simp [putCells, hj, show j < cur.size by omega]
  · rw [List.getElem?_take_eq_none (by omega), List.getElem?_eq_none (by simp; omega)]
theorem flat_row (L : List Bk) (d : List (Fin 128)) : (flatK (encB L) 2 d.toArray).toList = rowCells L (d.map (·.val)) := by
  have hlen := rowCells_len L (d.map (·.val))
  rw [List.length_map] at hlen
  apply List.ext_getElem?
  intro t
  by_cases ht : t < d.length * 2
  · have h1 : (flatK (encB L) 2 d.toArray).toList[t]? = some ((encB L d.toArray[t / 2]!)[t % 2]!) := by
      have := get_flatK (encB L) 2 d.toArray t (by simpa using ht)
      rw [Array.getElem?_toList, Array.getElem?_eq_getElem (by simpa using ht), ← this, getElem!_pos _ t (by simpa using ht)]
    rw [h1]
    have hi : t / 2 < d.length := by omega
    have hd : (d.map (·.val))[t / 2]? = some (d[t / 2]).val := by simp [hi]
    have hd2 : d.toArray[t / 2]! = d[t / 2] := by simp [hi]
    obtain ⟨c1, c2⟩ := rowCells_get L _ _ _ hd
    rw [hd2]
    rcases Nat.mod_two_eq_zero_or_one t with h | h
    · have e : t = t / 2 * 2 := by omega
      rw [h]
      conv => rhs; rw [e, c1]
      rfl
    · have e : t = t / 2 * 2 + 1 := by omega
      rw [h]
      conv => rhs; rw [e, c2]
      rfl
  · rw [List.getElem?_eq_none (by simp; omega), List.getElem?_eq_none (by omega)]
/-- what the sort leaves -/
theorem row_after {w : World} {base n c : Nat} {L : List Bk} {d d' : List (Fin 128)} {m : Nat} {os : Array Obj} {g : Nat} (h : w.ownsRow base 58 2 (.slice (some ⟨g, 0, none⟩) n c) n (rowCells L (d.map (·.val)))) (hl : d'.length = d.length) (hn : n = d.length) :
    (sortWorldK (encB L) 2 w g 0 m d'.toArray os).ownsRow base 58 2 (.slice (some ⟨g, 0, none⟩) n c) n (rowCells L (d'.map (·.val))) ∧ Kept (fun b => g = b) w (sortWorldK (encB L) 2 w g 0 m d'.toArray os) := by
  rcases h.2 with ⟨h0, _⟩ | ⟨g', cap, cur, hv, hb, hgg, hnc, hm, hsz, htk⟩
  · cases h0
  cases hv
  have hF : (flatK (encB L) 2 d'.toArray).size = n * 2 := by simp [hl, hn]
  constructor
  · refine ⟨by rw [rowCells_len, List.length_map]; omega, .inr ⟨g, c, _, rfl, hb, heap_sortedV _ hgg, hnc, hm, by simp [putCells, hsz], ?_⟩⟩
    rw [← flat_row, ← hF]
    exact take_putCellsV _ _ (by rw [hF, hsz]; omega)
  · have := Kept.grownBy (grownBy_sortedV (w := w) (g := g) (n := m) (os := os) (flatK (encB L) 2 d'.toArray))
    exact this.mono fun b _ h => by simpa using h
theorem cmp_lays (L : List Bk) (blk off size : Nat) (w : World) : CmpLays Try.prog 56 #[] (encB L) 2 (fun x y : Fin 128 => (x.1 : Int) - (y.1 : Int)) blk off size w := fun m os dk _ x y => by
  have H : ∀ W : World, Calls Try.prog 56 #[.agg #[.int .i64 (x.1 : Int), .int .i64 (ordAt L x.1 : Nat)], .agg #[.int .i64 (y.1 : Int), .int .i64 (ordAt L y.1 : Nat)]] W fun e w' => e = .returned (.int .i64 ((x.1 : Int) - (y.1 : Int))) ∧ ∃ q os', w' = grow (W.drewN q) os' := fun W => by
    refine (vc56 _ _ _ _ W (fun v w' => v = .int .i64 ((x.1 : Int) - (y.1 : Int)) ∧ ∃ q os', w' = grow (W.drewN q) os') ?_).mono ?_
    · unfold vcP56
      intro w1 e1 w2 e2
      have o1 := own_alloc (c := [.int .i64 (x.1 : Int), .int .i64 (ordAt L x.1 : Nat)]) e1
      have o2 := own_alloc (c := [.int .i64 (y.1 : Int), .int .i64 (ordAt L y.1 : Nat)]) e2
      refine ⟨_, by rw [(o1.al e2).rd]; rfl, _, by rw [o2.rd]; rfl, ?_, 0, #[.cells #[.int .i64 (x.1 : Int), .int .i64 (ordAt L x.1 : Nat)] 58, .cells #[.int .i64 (y.1 : Int), .int .i64 (ordAt L y.1 : Nat)] 58], ?_⟩
      · have := x.2; have := y.2
        rw [wi (by omega)]
      · rw [e2, e1, alloc_eq_grow, alloc_eq_grow, grow_grow]; rfl
    · rintro e w' ⟨v, rfl, rfl, h⟩
      exact ⟨rfl, h⟩
  exact H _
theorem ltB : ltOf (fun x y : Fin 128 => (x.1 : Int) - (y.1 : Int)) = fun x y => decide (x.1 < y.1) := by
  funext x y
  unfold ltOf
  exact decide_eq_decide.2 (by dsimp only; omega)
theorem swoB : SWO (ltOf fun x y : Fin 128 => (x.1 : Int) - (y.1 : Int)) := by
  rw [ltB]
  exact ⟨fun x => by simp, fun x y z h1 h2 => by simp at *; omega, fun x y z h1 h2 => by simp at *; omega⟩
theorem totB : ∀ x y : Fin 128, ltOf (fun x y : Fin 128 => (x.1 : Int) - (y.1 : Int)) x y = false → ltOf (fun x y : Fin 128 => (x.1 : Int) - (y.1 : Int)) y x = false → x = y := by
  rw [ltB]
  intro x y h1 h2
  simp at h1 h2
  exact Fin.ext (by omega)
theorem merge_map (d : List (Fin 128)) : (d.mergeSort fun x y => !(ltOf (fun x y : Fin 128 => (x.1 : Int) - (y.1 : Int))) y x).map (·.val) = (d.map (·.val)).mergeSort fun x y => decide (x ≤ y) := by
  rw [List.map_mergeSort (s := fun x y => decide (x ≤ y))]
  intro a _ b _
  rw [ltB]
  show (!decide (b.1 < a.1)) = decide (a.1 ≤ b.1)
  rw [← decide_not]
  exact decide_eq_decide.2 (by omega)
end Go.Proofs.Ytkmcmkimeibjdaa
/-
  DERIVED: THE SHELF's CONTRACTS AT THIS DUMP, IN PLAIN WORDS (tools/lay-plain.mjs out of 'S4r3.lean', which tools/lay-shelf.mjs wrote): THE SAME DECLARATIONS UNDER THE SAME NAMES: 'import', 'namespace', 'open', 'def', 'theorem' AND NOTHING ELSE: no command of the shelf's: FOR A HAND-IN. Each laying: the table of numbers ('.._ren') and one theorem, a field a fact of the dump's own or the kernel's comparison; each contract: ONE APPLICATION.
-/
namespace Go.Proofs
open Go.Shelf
def Try.sortFA_ren : Go.Shelf.Ren := ⟨fun | 6 => 55 | 15 => 72 | 14 => 71 | 28 => 84 | 29 => 85 | 20 => 76 | 21 => 77 | 22 => 78 | 23 => 79 | 24 => 80 | 25 => 81 | 26 => 82 | 27 => 83 | 46 => 88 | 47 => 89 | 48 => 90 | 49 => 91 | 50 => 92 | 57 => 102 | n => n, fun | 22 => 56 | 24 => 58 | 25 => 102 | 3 => 3 | 39 => 103 | 0 => 0 | 53 => 131 | 55 => 59 | 4 => 4 | 46 => 125 | 45 => 124 | 50 => 68 | 5 => 5 | 9 => 9 | 66 => 135 | 70 => 139 | 76 => 147 | 77 => 148 | n => n, fun | n => n⟩
theorem Try.sortFA : Go.Proofs.SlLaysF0.n6 Try.prog Try.sortFA_ren := {
  mixed := by kernel_rfl
  f6 := ⟨Try.f55.name, by decide, Try.func55.trans (congrArg some (by kernel_rfl))⟩
  f14 := ⟨Try.f71.name, by decide, Try.func71.trans (congrArg some (by kernel_rfl))⟩
  f15 := Try.func72.trans (congrArg some (by kernel_rfl))
  f20 := ⟨Try.f76.name, by decide, Try.func76.trans (congrArg some (by kernel_rfl))⟩
  f21 := ⟨Try.f77.name, by decide, Try.func77.trans (congrArg some (by kernel_rfl))⟩
  f22 := ⟨Try.f78.name, by decide, Try.func78.trans (congrArg some (by kernel_rfl))⟩
  f23 := ⟨Try.f79.name, by decide, Try.func79.trans (congrArg some (by kernel_rfl))⟩
  f24 := ⟨Try.f80.name, by decide, Try.func80.trans (congrArg some (by kernel_rfl))⟩
  f25 := ⟨Try.f81.name, by decide, Try.func81.trans (congrArg some (by kernel_rfl))⟩
  f26 := ⟨Try.f82.name, by decide, Try.func82.trans (congrArg some (by kernel_rfl))⟩
  f27 := ⟨Try.f83.name, by decide, Try.func83.trans (congrArg some (by kernel_rfl))⟩
  f28 := Try.func84.trans (congrArg some (by kernel_rfl))
  f29 := Try.func85.trans (congrArg some (by kernel_rfl))
  f46 := ⟨Try.f88.name, by decide, Try.func88.trans (congrArg some (by kernel_rfl))⟩
  f47 := Try.func89.trans (congrArg some (by kernel_rfl))
  f48 := Try.func90.trans (congrArg some (by kernel_rfl))
  f49 := ⟨Try.f91.name, by decide, Try.func91.trans (congrArg some (by kernel_rfl))⟩
  f50 := ⟨Try.f92.name, by decide, Try.func92.trans (congrArg some (by kernel_rfl))⟩
  f57 := ⟨Try.f102.name, by decide, Try.func102.trans (congrArg some (by kernel_rfl))⟩
  t0 := Try.underlying0
  a0 := Try.isAgg0
  z0 := Try.sizeOf0
  v0 := Try.zeroValue0
  t3 := Try.underlying3
  a3 := Try.isAgg3
  z3 := Try.sizeOf3
  v3 := Try.zeroValue3
  t4 := Try.underlying4
  a4 := Try.isAgg4
  z4 := Try.sizeOf4
  v4 := Try.zeroValue4
  t5 := Try.underlying5
  a5 := Try.isAgg5
  z5 := Try.sizeOf5
  v5 := Try.zeroValue5
  t9 := Try.underlying9
  a9 := Try.isAgg9
  z9 := Try.sizeOf9
  v9 := Try.zeroValue9
  t22 := Try.underlying56
  a22 := Try.isAgg56
  z22 := Try.sizeOf56
  v22 := Try.zeroValue56
  t25 := Try.underlying102
  a25 := Try.isAgg102
  z25 := Try.sizeOf102
  v25 := Try.zeroValue102
  t39 := Try.underlying103
  a39 := Try.isAgg103
  z39 := Try.sizeOf103
  v39 := Try.zeroValue103
  t45 := Try.underlying124
  a45 := Try.isAgg124
  z45 := Try.sizeOf124
  v45 := Try.zeroValue124
  t46 := Try.underlying125
  a46 := Try.isAgg125
  z46 := Try.sizeOf125
  v46 := Try.zeroValue125
  t50 := Try.underlying68
  a50 := Try.isAgg68
  z50 := Try.sizeOf68
  v50 := Try.zeroValue68
  t53 := Try.underlying131
  a53 := Try.isAgg131
  z53 := Try.sizeOf131
  v53 := Try.zeroValue131
  t55 := Try.underlying59
  a55 := Try.isAgg59
  z55 := Try.sizeOf59
  v55 := Try.zeroValue59
  t66 := Try.underlying135
  a66 := Try.isAgg135
  z66 := Try.sizeOf135
  v66 := Try.zeroValue135
  t70 := Try.underlying139
  a70 := Try.isAgg139
  z70 := Try.sizeOf139
  v70 := Try.zeroValue139
  t76 := Try.underlying147
  a76 := Try.isAgg147
  z76 := Try.sizeOf147
  v76 := Try.zeroValue147
  t77 := Try.underlying148
  a77 := Try.isAgg148
  z77 := Try.sizeOf148
  v77 := Try.zeroValue148 }
end Go.Proofs
namespace Go.Proofs.Ytkmcmkimeibjdaa
open Go Eng Go.Sort
set_option linter.unusedSimpArgs false
set_option linter.unusedVariables false
set_option maxRecDepth 100000
/-! ### slices.SortFunc at the blocks of a row -/
theorem enters56 : ∀ args w, (callFunc 56 args).run Try.prog w = .ok (.enter 56 args) w := enters_of Try.func56 (by kernel_rfl) rfl
theorem sort_says (L : List Bk) : SortSays L := fun w a n c base d h hd hn hl => by
  have hlen := h.1
  rw [rowCells_len] at hlen
  have hnd : n = d.length := by omega
  obtain ⟨d', rfl⟩ : ∃ d' : List (Fin 128), d = d'.map (·.val) := ⟨d.pmap (fun x hx => ⟨x, hx⟩) hd, by simp [List.map_pmap]⟩
  rw [List.length_map] at hnd hl
  rcases h.2 with ⟨h0, h1⟩ | ⟨g, cap, cur, hv, hb, hgg, hnc, hm, hsz, htk⟩
  · have hd0 : d' = [] := List.length_eq_zero_iff.1 (by omega)
    subst hd0
    cases h0
    refine (AnyF.slices_SortFunc_none (ρ := Try.sortFA_ren) Try.sortFA none 0 (.func (.func 56) #[] #[]) w).mono ?_
    rintro e w' ⟨rfl, rfl⟩
    exact ⟨rfl, by simpa using h, Kept.refl _ _⟩
  · cases hv
    have hglt : g < w.heap.size := (Array.getElem?_eq_some_iff.1 hgg).1
    have hH : HoldsK (encB L) 2 w g 0 d'.toArray := by
      refine holds_blk hgg ?_
      rw [flat_row, ← htk]
      simp [hnd]
    have hcon := AnyQ.slices_SortFunc_total (ρ := Try.sortFA_ren) Try.sortFA 2 Try.isAgg58 Try.sizeOf58 (encB L) (fun _ => rfl) (fun x v hv => by simp [encB] at hv; rcases hv with rfl | rfl <;> rfl) (fun x y => (x.1 : Int) - (y.1 : Int)) swoB 56 #[] g 0 c d'.toArray w enters56 (cmp_lays L g 0 _ w) hH hglt (by simp; omega) totB
    have hs : d'.toArray.size = n := by simp [hnd]
    rw [hs] at hcon
    refine hcon.mono ?_
    rintro e w' ⟨rfl, m, os, rfl⟩
    have := row_after (m := m) (os := os) (d' := (d'.mergeSort fun x y => !(ltOf (fun x y : Fin 128 => (x.1 : Int) - (y.1 : Int))) y x)) h (List.length_mergeSort _) hnd
    rw [merge_map] at this
    exact ⟨rfl, this.1, this.2.mono fun b _ hb => by simp [Value.ownBlock, hb]⟩
end Go.Proofs.Ytkmcmkimeibjdaa
namespace Go.Proofs.Ytkmcmkimeibjdaa
open Go Eng
theorem powers_all (n : Int) (l : Option Addr) (lL lC : Nat) (f : Nat → Int) (W : World) (hp : 0 < lL → isP l = true) (hx : ∀ i, i < lL → rd W (pb l) (po l + i) = some (.int .i64 (f i))) :
    Calls Try.prog 7 #[.int .i64 n, .slice l lL lC] W fun r w' => r = .returned (.bool true) ∧ Kept none' W w' :=
  powers_law (fun _ L _ => sort_says L) n l lL lC f W hp hx
end Go.Proofs.Ytkmcmkimeibjdaa
