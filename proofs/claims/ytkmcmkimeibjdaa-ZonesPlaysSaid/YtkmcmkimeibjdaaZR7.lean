/-
  A part of a proof that a law of this seat returns true at every input. Conditions: those in each theorem.
-/
import Derived.Test.YtkmcmkimeibjdaaZN1
import Derived.Test.YtkmcmkimeibjdaaBD3
namespace Go.Proofs.Ytkmcmkimeibjdaa
open Go Eng
set_option linter.unusedSimpArgs false
set_option linter.unusedVariables false
set_option maxRecDepth 100000
/-! ### zones.Copy; what is asked of nodes that there are not -/
structure ZCp (w0 w : World) (z : Nat) (c : Nat → Int) (q : Nat) (a : Option Addr) (cp : Nat) (B T : Nat → Nat) (M : Nat → Nat → Nat) (L : Nat → List Bk) : Prop where
  kp : Kept none' w0 w
  so : own w z (cfg c ++ [.slice a q cp])
  row : w.ownsRow (z + 1) 23 1 (.slice a q cp) q ((List.range q).map fun i => ptr (B i))
  bt : ∀ i, i < q → BAt w (B i) (M i) (T i) (stOf (c (18 + i)).toNat (L i))
  lo : ∀ i, i < q → ∀ x, bblk (B i) (M i) (T i) x → z < x
  ap : ∀ i j, i < q → j < q → i ≠ j → ∀ x, bblk (B i) (M i) (T i) x → ¬ bblk (B j) (M j) (T j) x
  sz : z + 1 ≤ w.heap.size
theorem row_sep {w : World} {base n : Nat} {v : Value} {B : Nat → Nat} {b t : Nat} {m : Nat → Nat} {s : Bst} (row : w.ownsRow base 23 1 v n ((List.range n).map fun i => ptr (B i))) (hb : BAt w b m t s) (h0 : n = 0 → v.ownBlock = none) {x : Nat} (hx : v.ownBlock = some x) : ¬ bblk b m t x := by
  have hn0 : n ≠ 0 := fun e => by rw [h0 e] at hx; cases hx
  rcases row.2 with ⟨rfl, _⟩ | ⟨g, cap, cur, rfl, hbb, hg, _, _, hs, ht⟩
  · cases hx
  · cases hx
    have h2 : (cur.toList.take (n * 1))[0]? = cur[0]? := by
      rw [List.getElem?_take, if_pos (by omega)]
      simp
    rw [ht] at h2
    have h3 : ((List.range n).map fun i => ptr (B i))[0]? = some (ptr (B 0)) := by
      cases n with
      | zero => exact absurd rfl hn0
      | succ n => simp
    rw [h3] at h2
    exact ptr_sep (x := B 0) (cs := cur.toList) ⟨23, by simpa using hg⟩ (by simpa using h2.symm) hb
section
variable {w w' : World} {z : Nat} {S : Zs} {L : Nat → List Bk}
theorem zcopy_spec (h : ZAt w z S L) : Calls Try.prog 42 #[ptr z] w fun r w' => ∃ z' S', r = .returned (ptr z') ∧ Kept none' w w' ∧ ZAt w' z' S' L ∧ S'.c = S.c ∧ ∀ x, S'.all z' x → w.heap.size ≤ x := by
  refine (vc42 _ w (fun v w' => ∃ z' S', v = ptr z' ∧ Kept none' w w' ∧ ZAt w' z' S' L ∧ S'.c = S.c ∧ ∀ x, S'.all z' x → w.heap.size ≤ x) ?_).mono ?_
  · unfold vcP42
    have h8 := h.k8
    simp only [isP_some, Wif_true, gIf_true, pb_some, po_some, Nat.zero_add, Option.isNone_some, Bool.not_false, Bool.true_and]
    refine ⟨_, _, _, fun _ => h.r94, Wif_no rfl ⟨S.c, h.rc, fun w1 e1 => ?_⟩⟩
    have o1 := own_alloc e1
    have k1 : Kept none' w w1 := (Kept.refl _ _).al e1
    have s1 : w1.heap.size = w.heap.size + 1 := by rw [e1]; simp only [World.alloc, Array.size_push]
    have hall : ∀ x, S.all z x → x < w.heap.size := fun x hx => h.lt hx
    clear e1
    generalize hz : w.heap.size = z1 at *
    have h1 := h.k k1
    refine ⟨_, _, _, h1.r94, ?_⟩
    refine ⟨fun k w' M => ∃ (q : Nat) (a : Option Addr) (cp : Nat) (B T : Nat → Nat) (M' : Nat → Nat → Nat), k = (q : Int) ∧ q ≤ S.k ∧ M = S.k - q ∧ ZCp w w' z1 S.c q a cp B T M' L ∧ (q = 0 → a = none),
      ⟨S.k, 0, none, 0, fun _ => 0, fun _ => 0, fun _ _ => 0, rfl, by omega, rfl, ⟨k1, o1, World.ownsRow_nil _ _ _ _, fun i hi => absurd hi (Nat.not_lt_zero _), fun i hi => absurd hi (Nat.not_lt_zero _), fun i j hi => absurd hi (Nat.not_lt_zero _), by omega⟩, fun _ => rfl⟩, ?_⟩
    rintro _ w2 _ ⟨q, a, cp, B, T, M, rfl, hq, rfl, N2, ha⟩
    have hs2 := N2.sz
    refine Wif_intro (fun hc => ?_) (fun hc => ?_)
    · have hqk : q < S.k := by simp at hc; omega
      have eB : inB (q : Int) S.k = true := inB_of (by omega) (by omega)
      have h2 := h.k N2.kp
      have hrg := h2.rg hqk
      rw [Nat.zero_add, Int.toNat_natCast, Nat.mul_one] at hrg
      simp only [isP_some, Wif_true, gIf_true, pb_some, po_some, Nat.zero_add, eB, Int.toNat_natCast, Nat.mul_one]
      refine ⟨_, hrg, fun w3 e3 => ?_⟩
      have k23 : Kept none' w2 w3 := (Kept.refl _ _).dr e3
      have hr94 : ∀ {u : World}, Kept none' w2 u → rd u z1 94 = some (.slice a q cp) := fun k => by
        rw [(N2.so.k k).rd, List.getElem?_append_right (by rw [runI_len]; omega), runI_len]; rfl
      refine ⟨a, q, cp, hr94 k23, (copy_spec (h2.k k23 |>.bt q hqk)).mono ?_⟩
      rintro _ w4 ⟨b, m, t, rfl, k34, h4, fr4⟩
      have k24 := k23.tr k34
      refine ⟨_, rfl, ⟨hr94 k24, trivial⟩, fun w5 e5 => ?_⟩
      have k45 : Kept none' w4 w5 := (Kept.refl _ _).al e5
      have k25 := k24.tr k45
      have p5 := own_alloc (c := [ptr b]) e5
      have h5 := h4.k k45
      have row5 := ownsRow_kx N2.row k25 fun _ _ _ _ => id
      have s23 := k23.sz
      have s25 := k25.sz
      clear e3 e5
      obtain ⟨a', l', c', w6, happ, rfl, row6, k6⟩ := app_one (t := 79) (e := 23) Try.underlying79 info_ptr rfl row5 p5 (m := 1) (off := 0) (c := 1) (news := [ptr b]) rfl rfl (fun u hu => by simp at hu; subst hu; rfl) (by omega) (by omega)
      refine ⟨⟨hr94 k25, trivial⟩, a', q + 1, c', w6, happ, ?_⟩
      have rowlt : ∀ x, (Value.slice a q cp).ownBlock = some x → z1 + 1 ≤ x ∧ x < w2.heap.size := fun x hx => N2.row.lt x hx
      have so6 := (N2.so.k k25).kx k6 fun hx => by have := rowlt _ hx; omega
      have hsep : ∀ {bb tt : Nat} {mm : Nat → Nat} {ss : Bst}, BAt w5 bb mm tt ss → BAt w6 bb mm tt ss := fun hb => hb.kx k6 fun x hx => row_sep row5 hb (fun e => by rw [ha e]; rfl) hx
      have bt6 : ∀ i, i < q + 1 → BAt w6 (upd B q b i) (upd M q m i) (upd T q t i) (stOf (S.c (18 + i)).toNat (L i)) := fun i hi => by
        by_cases e : i = q
        · subst e; simp only [upd_same]; exact hsep h5
        · simp only [upd_ne _ _ e]; exact hsep ((N2.bt i (by omega)).k k25)
      have hrow : (List.range q).map (fun i => ptr (B i)) ++ [ptr b] = (List.range (q + 1)).map fun i => ptr (upd B q b i) := by
        rw [List.range_succ, List.map_append]
        congr 1
        · apply List.map_congr_left
          intro i hi
          rw [upd_ne _ _ (by have := List.mem_range.1 hi; omega)]
        · simp
      rw [hrow] at row6
      refine ⟨so6.wr (by simp [runI_len]), fun w7 e7 => ?_⟩
      have so7 := so6.s1 e7
      rw [zset] at so7
      have k67 : Kept (· = z1) w6 w7 := (Kept.refl _ _).s1 e7 (.inl rfl)
      have rowlt6 := fun x hx => row6.lt x hx
      have lo' : ∀ i, i < q + 1 → ∀ x, bblk (upd B q b i) (upd M q m i) (upd T q t i) x → z1 < x := fun i hi x hx => by
        by_cases e : i = q
        · subst e; simp only [upd_same] at hx; have := fr4 x hx; omega
        · simp only [upd_ne _ _ e] at hx; exact N2.lo i (by omega) x hx
      have old : ∀ i, i < q → ∀ x, bblk (B i) (M i) (T i) x → x < w2.heap.size := fun i hi x hx => (N2.bt i hi).lt hx
      refine ⟨S.k - (q + 1), by omega, q + 1, a', c', upd B q b, upd T q t, upd M q m, by rw [wi (by omega)]; rfl, by omega, rfl, ⟨?_, so7, ?_, fun i hi => ?_, lo', fun i j hi hj hij x hx hx' => ?_, by have := k6.sz; have := k67.sz; omega⟩, fun h => by omega⟩
      · exact own0 (own0 (N2.kp.tr k25) k6 fun x hx => by have := rowlt x hx; omega) k67 fun x hx => by omega
      · exact ownsRow_kx row6 k67 fun x _ _ hx hy => by have := rowlt6 x hx; omega
      · exact (bt6 i hi).kx k67 fun x hx hb => by have := lo' i hi x hb; omega
      · by_cases e : i = q
        · subst e
          simp only [upd_same, upd_ne _ _ (Ne.symm hij)] at hx hx'
          have := fr4 x hx
          have := old j (by omega) x hx'
          omega
        · by_cases e' : j = q
          · subst e'
            simp only [upd_same, upd_ne _ _ e] at hx hx'
            have := fr4 x hx'
            have := old i (by omega) x hx
            omega
          · simp only [upd_ne _ _ e, upd_ne _ _ e'] at hx hx'
            exact N2.ap i j (by omega) (by omega) hij x hx hx'
    · have hqk : q = S.k := by simp at hc; omega
      subst hqk
      obtain ⟨_, hh⟩ := ownsRow_own N2.row
      rcases hh with ⟨_, h00, _⟩ | ⟨g, cs, rfl, hgb, og, htk, _, _⟩
      · omega
      have hcs : ∀ i, i < S.k → cs[i]? = some (ptr (B i)) := fun i hi => by
        have : (cs.take (S.k * 1))[i]? = some (ptr (B i)) := by rw [htk]; simp [hi]
        rw [List.getElem?_take] at this
        split at this
        · exact this
        · cases this
      refine ⟨z1, ⟨g, cp, S.c, S.k, B, T, M⟩, rfl, N2.kp, ⟨N2.so, ⟨cs, og, hcs⟩, N2.bt, h.iv, N2.ap, fun i hi x hx => ⟨by have := N2.lo i hi x hx; omega, fun e => ?_⟩, h.kc, h.my⟩, rfl, fun x hx => ?_⟩
      · exact row_sep N2.row (N2.bt i hi) (fun e => by omega) (x := g) rfl (by rw [← (show x = g from e)]; exact hx)
      · rcases hx with rfl | rfl | ⟨i, hi, hb⟩
        · exact Nat.le_refl _
        · omega
        · have := N2.lo i hi x hb; omega
  · rintro e w' ⟨v, rfl, z', S', rfl, hw⟩
    exact ⟨z', S', rfl, hw⟩
theorem zstate_any (h : ZAt w z S L) (n : Int) : Calls Try.prog 25 #[ptr z, .int .i64 n] w fun r w' => r = .returned (.int .i64 (rst S.c S.k L n)) ∧ w' = w := by
  refine (vc25 _ _ w (fun v w' => v = .int .i64 (rst S.c S.k L n) ∧ w' = w) ?_).mono ?_
  · unfold vcP25
    refine (zfree_spec h n).mono ?_
    rintro _ wq ⟨rfl, hq⟩
    rw [hq]
    clear hq wq
    refine ⟨_, rfl, ?_⟩
    have er : zfr S L n = rfr S.k L n := rfl
    rw [er]
    simp only [isP_some, Wif_true, gIf_true, pb_some, po_some, Nat.zero_add, Option.isNone_some, Bool.not_false, Bool.true_and]
    refine ⟨_, _, _, fun _ => h.r94, ?_⟩
    simp only [Option.isNone_some, Bool.not_false, Bool.true_and]
    refine ⟨_, _, _, fun _ => h.r94, S.c 91, fun _ => h.r (by omega), ?_⟩
    unfold rst
    have ek : (!(decide (n ≥ 0) && decide (n < (S.k : Int)))) = decide (n < 0 ∨ (S.k : Int) ≤ n) := by
      by_cases h1 : 0 ≤ n <;> by_cases h2 : n < (S.k : Int) <;> simp [h1, h2] <;> omega
    rw [ek]
    refine Wif_intro (fun hc => ?_) (fun hc => ⟨S.c 92, h.r (by omega), Wif_intro (fun hc2 => ?_) (fun hc2 => ⟨S.c 93, h.r (by omega), Wif_intro (fun hc3 => ?_) (fun hc3 => ?_)⟩)⟩)
    · rw [if_pos (by simp at hc; omega)]; exact ⟨rfl, trivial⟩
    all_goals rw [if_neg (by simp at hc; omega)]
    · rw [if_pos (by simpa using hc2)]; exact ⟨rfl, trivial⟩
    all_goals rw [if_neg (by simpa using hc2)]
    · rw [if_pos (by simpa using hc3)]; exact ⟨rfl, trivial⟩
    · rw [if_neg (by simpa using hc3)]; exact ⟨rfl, trivial⟩
  · rintro e w' ⟨v, rfl, rfl, hw⟩
    exact ⟨rfl, hw⟩
theorem ztakeOf_none (h : ZAt w z S L) {n : Int} (hn : n < 0 ∨ (S.k : Int) ≤ n) (order : Int) (high : Bool) :
    Calls Try.prog 26 #[ptr z, .int .i64 n, .int .i64 order, .bool high] w fun r w' => r = .returned (.tuple #[.int .i64 0, .int .i64 7]) ∧ w' = w := by
  refine (vc26 _ _ _ _ w (fun v w' => v = (.tuple #[.int .i64 0, .int .i64 7]) ∧ w' = w) ?_).mono ?_
  · unfold vcP26
    simp only [isP_some, Wif_true, gIf_true, pb_some, po_some, Nat.zero_add, Option.isNone_some, Bool.not_false, Bool.true_and]
    refine ⟨_, _, _, fun _ => h.r94, Wif_no rfl ⟨_, _, _, fun _ => h.r94, ?_⟩⟩
    simp only [Option.isNone_some, Bool.not_false, Bool.true_and]
    refine ⟨_, _, _, fun _ => h.r94, Wif_yes ?_ ⟨trivial, trivial⟩⟩
    by_cases h1 : 0 ≤ n <;> by_cases h2 : n < (S.k : Int) <;> simp [h1, h2] <;> omega
  · rintro e w' ⟨v, rfl, rfl, hw⟩
    exact ⟨rfl, hw⟩
end
end Go.Proofs.Ytkmcmkimeibjdaa
