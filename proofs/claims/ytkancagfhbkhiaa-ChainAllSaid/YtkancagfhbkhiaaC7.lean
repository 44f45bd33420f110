/-
  A part of a proof that a law of this seat returns true at every input. Conditions: those in each theorem.
-/
import Derived.Test.YtkancagfhbkhiaaC5
namespace Go.Proofs.Ytkancagfhbkhiaa
open Go Eng
set_option linter.unusedSimpArgs false
set_option linter.unusedVariables false
set_option maxRecDepth 10000

/-- what stays behind all that ChainAll does -/
structure Keep (s0 s : Sl) : Prop where
  size : s.size = s0.size
  colour : s.colour = s0.colour
  count : s.count = s0.count
  turn : ∀ i, s.turn i = 0
theorem took_all {z c : Nat} (k : Nat) : List.range' k ((256 - c) / z - k) = (newSl z c).ch.drop k := by
  simp [newSl, List.range_eq_range', List.drop_range']
theorem all_law (size colour turn : Int) (ht : -9223372036854775808 ≤ turn ∧ turn ≤ 9223372036854775807) (w : World) :
    Calls Try.prog 3 #[.int .i64 size, .int .i64 colour, .int .i64 turn] w fun e w' => e = .returned (.bool true) ∧ Kept none' w w' := by
  refine (vc3 size colour turn w (fun v w' => v = .bool true ∧ Kept none' w w') ?_).mono ?_
  · unfold vcP3
    intro w1 e1
    have b1 := bytes_new e1
    have k1 := (Kept.refl none' w).al e1
    clear e1
    have hle : w.heap.size ≤ w.heap.size := Nat.le_refl _
    have hlt := b1.lt
    generalize hB : w.heap.size = B at *
    by_cases hm : mayBe size colour
    · obtain ⟨z, c, rfl, rfl, h8, h128, hc⟩ := mayBe_nat hm
      refine (new_ok (w := w1) (B := B) z c b1 (Nat.le_refl _) hm).mono ?_
      rintro _ w2 ⟨rfl, k2, f, a2, _⟩
      have k2' := k1.go k2 (fun b hb => .inr (by omega))
      have hS : B < w1.heap.size := hlt
      generalize w1.heap.size = S at *
      refine ⟨_, _, rfl, Wif_no rfl ?_⟩
      have g1 := a2.good.count1
      have g32 := a2.good.count32
      have hcs : c < z := Nat.lt_of_le_of_lt hc (Nat.mod_lt _ (by omega))
      refine (count_spec a2).mono ?_
      rintro _ w3 ⟨rfl, rfl⟩
      refine ⟨_, rfl, Wif_no (by simp; omega) ?_⟩
      refine (free_spec a2).mono ?_
      rintro _ w4 ⟨rfl, rfl⟩
      have hcl : (newSl z c).ch.length = (newSl z c).count := by simp [newSl]
      refine ⟨_, rfl, Wif_no (by rw [hcl]; simp) ?_⟩
      have hfz : (newSl z c).count * z ≤ 256 - c := by exact Nat.div_mul_le_self _ _
      have hlast : 256 - c < ((newSl z c).count + 1) * z := by
        have := Nat.lt_div_mul_add (show 0 < z by omega) (a := 256 - c)
        rw [Nat.add_mul, Nat.one_mul]
        exact this
      have hch : (newSl z c).ch = List.range' 0 (newSl z c).count := by simp [newSl, List.range_eq_range']
      generalize hN : (newSl z c).count = N at *
      have keep0 : Keep (newSl z c) (newSl z c) := ⟨rfl, rfl, rfl, fun _ => rfl⟩
      -- all are taken, one by one
      refine ⟨fun b l i w' m => ∃ (j : Nat) (s : Sl) (f : Nat → Int), i = j ∧ j ≤ N ∧ m = N - j ∧ l = ((c + j * z : Nat) : Int) ∧ Keep (newSl z c) s ∧ s.ch = List.range' j (N - j) ∧ At w' S B 256 s f ∧ Kept none' w w',
        ⟨N, 0, newSl z c, f, rfl, by omega, by omega, by simp, keep0, hch, a2, k2'⟩, ?_⟩
      rintro b last i w5 m ⟨j, s, f5, rfl, hj, rfl, rfl, keep, hsch, a5, k5⟩
      refine Wif_intro (fun hlt => ?_) (fun hge => ?_)
      · simp at hlt
        have hjz : (j + 1) * z ≤ N * z := Nat.mul_le_mul_right _ (by omega)
        have hj1 : (j + 1) * z = j * z + z := by rw [Nat.add_mul, Nat.one_mul]
        have hcons : s.ch = j :: List.range' (j + 1) (N - (j + 1)) := by
          rw [hsch, show N - j = (N - (j + 1)) + 1 by omega, List.range'_succ]
        refine (take_some a5 hcons).mono ?_
        rintro _ w6 ⟨rfl, k6, a6⟩
        have k6' := k5.go k6 (fun b hb => .inr (by rcases hb with rfl | rfl <;> omega))
        refine ⟨_, _, rfl, (at_spec a6 _).mono ?_⟩
        rintro _ w7 ⟨rfl, k7⟩
        have a7 := a6.k k7
        have hat := atOf_nat (s := took s j (List.range' (j + 1) (N - (j + 1)))) (i := j) (by show j < s.count; rw [keep.count, hN]; exact hlt)
        have e1 : (took s j (List.range' (j + 1) (N - (j + 1)))).size = z := keep.size
        have e2 : (took s j (List.range' (j + 1) (N - (j + 1)))).colour = c := keep.colour
        rw [e1, e2] at hat
        rw [hat]
        refine ⟨_, _, rfl, Wif_no ?_ ?_⟩
        · have : IntKind.wrap .i64 (((c + j * z : Nat) : Int) + (z : Int)) = ((c + j * z + z : Nat) : Int) := by rw [wi (by omega)]; rfl
          dsimp only
          rw [this]
          simp
          omega
        · refine ⟨N - (j + 1), by omega, j + 1, took s j (List.range' (j + 1) (N - (j + 1))), _, ?_, by omega, rfl, ?_, ⟨keep.size, keep.colour, keep.count, keep.turn⟩, rfl, a7, k6'.tr k7⟩
          · rw [wi (by omega)]; rfl
          · dsimp only
            rw [hj1, Nat.add_assoc]
      · simp at hge
        have hjN : j = N := by omega
        subst hjN
        have hnil : s.ch = [] := by rw [hsch]; simp
        have hw : IntKind.wrap .i64 (256 - ((c + j * z : Nat) : Int)) = 256 - ((c + j * z : Nat) : Int) := wi (by omega)
        rw [hw]
        clear hw
        refine Wif_no ?_ ?_
        · simp
          rw [Nat.add_mul, Nat.one_mul] at hlast
          have : ((j * z : Nat) : Int) = (j : Int) * (z : Int) := Int.natCast_mul _ _
          omega
        refine (take_none a5 hnil).mono ?_
        rintro _ w6 ⟨rfl, rfl⟩
        refine ⟨_, _, rfl, Wif_no rfl ?_⟩
        -- they are given back
        have hN0 : IntKind.wrap .u64 (j : Int) = (j : Int) := wu (by omega)
        rw [hN0]
        clear hN0
        generalize ht1 : IntKind.wrap .i64 (1 + IntKind.wrap .i64 (Int.tmod (IntKind.wrap .u64 turn) 7)) = t1
        generalize ht2 : IntKind.wrap .i64 (Int.tmod (IntKind.wrap .u64 turn) (j : Int)) = t2
        have hu : 0 ≤ IntKind.wrap .u64 turn ∧ IntKind.wrap .u64 turn ≤ 18446744073709551615 := by
          simp only [IntKind.wrap, IntKind.bits, IntKind.signed, Bool.false_and, Bool.false_eq_true, if_false]
          omega
        have b1 : 1 ≤ t1 ∧ t1 ≤ 7 := by
          rw [Int.tmod_eq_emod_of_nonneg hu.1, wi (x := IntKind.wrap .u64 turn % 7) (by omega), wi (by omega)] at ht1
          omega
        have b2 : 0 ≤ t2 ∧ t2 < j := by
          have h1 := Int.emod_nonneg (IntKind.wrap .u64 turn) (show (j : Int) ≠ 0 by omega)
          have h2 := Int.emod_lt_of_pos (IntKind.wrap .u64 turn) (show (0 : Int) < j by omega)
          rw [Int.tmod_eq_emod_of_nonneg hu.1, wi (by omega)] at ht2
          omega
        clear ht1 ht2 hu
        refine ⟨fun a l cc i w' m => ∃ (n : Nat) (s : Sl) (f : Nat → Int) (xs : List Nat), i = n ∧ n ≤ j ∧ m = j - n ∧ Keep (newSl z c) s ∧ s.ch = xs.reverse ∧ At w' S B 256 s f ∧ Kept none' w w' ∧ l = xs.length ∧
            w'.ownsRow (max S B + 1) 3 1 (.slice a l cc) l (xs.map fun x : Nat => Value.int .i64 (x : Int)),
          ⟨j, 0, s, f5, [], rfl, by omega, by omega, keep, by rw [hnil]; rfl, a5, k5, rfl, World.ownsRow_nil _ _ _ _⟩, ?_⟩
        rintro a l cc i w7 m ⟨n, s7, f7, xs, rfl, hn, rfl, keep7, hch7, a7, k7, rfl, row⟩
        refine Wif_intro (fun hlt => ?_) (fun hge => ?_)
        · simp at hlt
          refine Wif_yes (by simp; omega) (Wif_yes (by simp; omega) ?_)
          have hp : 0 ≤ (n : Int) * t1 ∧ (n : Int) * t1 ≤ 32 * 7 := by
            constructor
            · exact Int.mul_nonneg (by omega) (by omega)
            · exact Int.mul_le_mul (by omega) (by omega) (by omega) (by omega)
          rw [wi (x := (n : Int) * t1) (by omega), wi (x := (n : Int) * t1 + t2) (by omega), Int.tmod_eq_emod_of_nonneg (by omega)]
          have hk0 := Int.emod_nonneg ((n : Int) * t1 + t2) (show (j : Int) ≠ 0 by omega)
          have hk1 := Int.emod_lt_of_pos ((n : Int) * t1 + t2) (show (0 : Int) < j by omega)
          generalize ((n : Int) * t1 + t2) % (j : Int) = kk at *
          obtain ⟨q, rfl⟩ := Int.eq_ofNat_of_zero_le hk0
          have hwn : IntKind.wrap .i64 ((n : Int) + 1) = ((n + 1 : Nat) : Int) := by rw [wi (by omega)]; rfl
          rw [hwn]
          clear hwn hp
          by_cases hg : giveOf s7 (q : Int) = 0
          · obtain ⟨q', hq, hqc, hqo, hqt⟩ := giveOf_zero hg
            have hq' : q = q' := by omega
            subst hq'
            refine (give_ok a7 q hqc hqo hqt).mono ?_
            rintro _ w8 ⟨rfl, k8, a8⟩
            have k8' := k7.go k8 (fun b hb => .inr (by rcases hb with rfl | rfl <;> omega))
            have row8 := ownsRow_kx row k8 (fun g hg1 _ _ hg2 => by rcases hg2 with rfl | rfl <;> omega)
            refine ⟨_, rfl, Wif_yes rfl ?_⟩
            intro w9 e9
            have hs8 := a8.so.lt
            have hb8 := a8.by'.lt
            have p9 : own w9 w8.heap.size [.int .i64 (q : Int)] := own_alloc (c := [.int .i64 (q : Int)]) e9
            have row9 : w9.ownsRow (max S B + 1) 3 1 (.slice a xs.length cc) xs.length (xs.map fun x : Nat => Value.int .i64 (x : Int)) := by rw [e9]; exact row8.alloc _
            have a9 := a8.al e9
            have k9 := k8'.al (c := #[.int .i64 (q : Int)]) e9
            have hs9 : w9.heap.size = w8.heap.size + 1 := by rw [e9]; simp
            have hlen : xs.length ≤ 32 := by
              have h1 := a7.good.chlen
              rw [hch7, List.length_reverse, keep7.count, hN] at h1
              omega
            obtain ⟨a10, l10, c10, w10, ha, hl10, row10, k10⟩ := app_int row9 (X := w8.heap.size) (m := 1) (c := 1) (off := 0) (news := [(q : Int)]) p9 rfl rfl (by omega) (by omega)
            refine ⟨a10, l10, c10, w10, ha, j - (n + 1), by omega, n + 1, gave s7 q, upd f7 (s7.colour + q * s7.size) (fst s7.ch), xs ++ [q], rfl, by omega, rfl, ⟨keep7.size, keep7.colour, keep7.count, keep7.turn⟩, ?_, ?_, ?_, ?_, ?_⟩
            · show q :: s7.ch = _
              rw [hch7]; simp
            · exact a9.kx k10 (fun h => by have := row9.lt _ h; omega) (fun h => by have := row9.lt _ h; omega)
            · exact k9.go k10 (fun g h => .inr (by have := row9.lt _ h; omega))
            · rw [hl10]; simp
            · rw [hl10] at row10 ⊢
              simpa using row10
          · refine (give_no a7 q hg).mono ?_
            rintro _ w8 ⟨rfl, k8⟩
            refine ⟨_, rfl, Wif_no (by simp [hg]) ⟨j - (n + 1), by omega, n + 1, s7, f7, xs, rfl, by omega, rfl, keep7, hch7, a7.k k8, k7.tr k8, rfl, ownsRow_kx row k8 (fun _ _ _ _ => id)⟩⟩
        · -- and come again
          simp at hge
          have hlen : xs.length ≤ 32 := by
            have h1 := a7.good.chlen
            rw [hch7, List.length_reverse, keep7.count, hN] at h1
            omega
          obtain ⟨_, hrow⟩ := ownsRow_own row
          refine ⟨fun b i w' m => ∃ (n : Nat) (s : Sl) (f : Nat → Int), i = n ∧ n ≤ xs.length ∧ m = xs.length - n ∧ s.ch = (xs.take (xs.length - n)).reverse ∧ At w' S B 256 s f ∧ Kept none' w w' ∧ Kept (two S B) w7 w',
            ⟨xs.length, 0, s7, f7, rfl, by omega, by omega, by simpa using hch7, a7, k7, Kept.refl _ _⟩, ?_⟩
          rintro b i w8 m ⟨n, s8, f8, rfl, hn8, rfl, hch8, a8, k8, kk8⟩
          refine Wif_intro (fun hlt => ?_) (fun hge => fin_known k8)
          simp at hlt
          have hne : xs ≠ [] := by rintro rfl; simp at hlt
          rcases hrow with ⟨_, h0, _⟩ | ⟨g, cs, rfl, hg, og, htk, _, _⟩
          · omega
          have hidx : xs.length - n - 1 < xs.length := by omega
          have hx := List.getElem?_eq_getElem hidx
          have hcons : s8.ch = xs[xs.length - n - 1] :: (xs.take (xs.length - (n + 1))).reverse := by
            have h1 : xs.take (xs.length - n - 1 + 1) = xs.take (xs.length - n - 1) ++ [xs[xs.length - n - 1]] := by rw [List.take_add_one, hx]; rfl
            have e : xs.length - n - 1 + 1 = xs.length - n := by omega
            rw [e] at h1
            rw [hch8, h1, List.reverse_append, show xs.length - (n + 1) = xs.length - n - 1 by omega]
            rfl
          refine (take_some a8 hcons).mono ?_
          rintro _ w9 ⟨rfl, k9, a9⟩
          have hw : IntKind.wrap .i64 (IntKind.wrap .i64 ((xs.length : Int) - 1) - (n : Int)) = ((xs.length - n - 1 : Nat) : Int) := by
            rw [wi (x := (xs.length : Int) - 1) (by omega), wi (by omega)]; omega
          rw [hw]
          clear hw
          have hrd : rd w9 g (xs.length - n - 1) = some (.int .i64 (xs[xs.length - n - 1] : Int)) := by
            have o9 := og.kx (kk8.trans k9 (fun _ _ h => h)) (fun h => by rcases h with rfl | rfl <;> omega)
            rw [o9.rd]
            have h2 : (cs.take (xs.length * 1))[xs.length - n - 1]? = some (.int .i64 (xs[xs.length - n - 1] : Int)) := by
              rw [htk, List.getElem?_map, hx]; rfl
            rw [List.getElem?_take, if_pos (by omega)] at h2
            exact h2
          refine ⟨_, _, rfl, gIf_intro (fun _ => rfl) (gIf_intro (fun _ => inB_of (by omega) (by omega)) ⟨(xs[xs.length - n - 1] : Int), fun _ => ?_, Wif_no (by simp) ?_⟩)⟩
          · simp only [pb_some, po_some, Int.toNat_natCast, Nat.mul_one, Nat.zero_add]
            exact hrd
          · refine ⟨xs.length - (n + 1), by omega, n + 1, took s8 xs[xs.length - n - 1] (xs.take (xs.length - (n + 1))).reverse, _, ?_, by omega, rfl, rfl, a9, k8.go k9 (fun b hb => .inr (by rcases hb with rfl | rfl <;> omega)), kk8.trans k9 (fun _ _ h => h)⟩
            rw [wi (by omega)]; rfl
    · refine (new_no (w := w1) _ _ _ _ _ (fun h => hm h.2)).mono ?_
      rintro _ w2 ⟨rfl, rfl⟩
      exact ⟨_, _, rfl, Wif_yes rfl (Wif_yes rfl (fin_known k1))⟩
  · rintro e w' ⟨v, rfl, rfl, h⟩
    exact ⟨rfl, h⟩
end Go.Proofs.Ytkancagfhbkhiaa
