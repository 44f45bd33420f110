/-
  A part of a proof that a law of this seat returns true at every input. Conditions: those in each theorem.
-/
import Derived.Test.YtkmcmkimeibjdaaZR7
import Derived.Test.YtkmcmkimeibjdaaZV7
namespace Go.Proofs.Ytkmcmkimeibjdaa
open Go Eng
set_option linter.unusedSimpArgs false
set_option linter.unusedVariables false
set_option maxRecDepth 100000
/-! ### do both zones stand alike -/
section
variable {w : World} {y z : Nat} {R : Rz} {S : Zs} {L : Nat → List Bk} {T : Nat → List (Nat × Nat)}
theorem zsame_spec (h : ZAt w z S L) (hR : RZ w y R L T) (ec : R.c = S.c) (en : ∀ i, i < R.k → Inv (R.n i) (L i)) : Calls Try.prog 38 #[ptr z, ptr y] w fun r w' => r = .returned (.bool true) ∧ Kept none' w w' := by
  have ek : R.k = S.k := by have := h.kc; have := hR.kc; rw [ec] at this; omega
  refine (vc38 _ _ w (fun v w' => v = .bool true ∧ Kept none' w w') ?_).mono ?_
  · have h8 := h.k8
    have hzl : (zsh S.c L S.k).length ≤ 1024 := by
      have := zsh_len (c := S.c) (L := L) (k := S.k) fun i hi => by
        have := bks_le (h.iv i hi).tl; have := (h.iv i hi).n1; omega
      omega
    unfold vcP38
    intro w1 e1
    have or1 := own_alloc (c := [.bool false]) e1
    have k1 : Kept none' w w1 := (Kept.refl _ _).al e1
    have s1 : w1.heap.size = w.heap.size + 1 := by rw [e1]; simp only [World.alloc, Array.size_push]
    generalize hkb : w.heap.size = kb at *
    clear e1
    refine (rblocks_spec (hR.k' k1) en).mono ?_
    rintro _ w2 ⟨a, cp, rfl, k12, row2⟩
    rw [ec, ek] at row2 ⊢
    generalize hll : zsh S.c L S.k = Z at *
    have or2 := or1.k k12
    have k2 := k1.tr k12
    have s12 := k12.sz
    have rowlt : ∀ x, (Value.slice a Z.length cp).ownBlock = some x → kb + 1 ≤ x ∧ x < w2.heap.size := fun x hx => by have := row2.lt x hx; omega
    refine ⟨a, Z.length, cp, rfl, fun w3 e3 => ?_⟩
    have ol3 := own_alloc (c := [.slice none 0 0]) e3
    have k23 : Kept none' w2 w3 := (Kept.refl _ _).al e3
    have s3 : w3.heap.size = w2.heap.size + 1 := by rw [e3]; simp only [World.alloc, Array.size_push]
    generalize hlb : w2.heap.size = lb at *
    refine ⟨ol3.wr (by simp), fun w4 e4 w5 e5 => ?_⟩
    have ol4 := ol3.s1 e4
    have k34 : Kept (· = lb) w3 w4 := (Kept.refl _ _).s1 e4 (.inl rfl)
    have s4 : w4.heap.size = lb + 1 := by rw [e4]; simp [s3]
    have on5 := own_alloc (c := [.int .i64 0]) e5
    have k45 : Kept none' w4 w5 := (Kept.refl _ _).al e5
    have s5 : w5.heap.size = lb + 2 := by rw [e5]; simp only [World.alloc, Array.size_push]; omega
    rw [s4] at on5
    rw [s4]
    refine ⟨on5.wr (by simp), fun w6 e6 w7 e7 w8 e8 => ?_⟩
    have on6 := on5.s1 e6
    have k56 : Kept (· = lb + 1) w5 w6 := (Kept.refl _ _).s1 e6 (.inl rfl)
    have s6 : w6.heap.size = lb + 2 := by rw [e6]; simp [s5]
    have k67 : Kept none' w6 w7 := (Kept.refl _ _).al e7
    have s7 : w7.heap.size = lb + 3 := by rw [e7]; simp only [World.alloc, Array.size_push]; omega
    have oc8 := own_alloc (c := [ptr z]) e8
    have k78 : Kept none' w7 w8 := (Kept.refl _ _).al e8
    have s8 : w8.heap.size = lb + 4 := by rw [e8]; simp only [World.alloc, Array.size_push]; omega
    rw [s7] at oc8
    rw [s7, s8]
    have K8 : Kept none' w w8 := ((own0 ((own0 (k2.tr k23) k34 fun x hx => by omega).tr k45) k56 fun x hx => by omega).tr k67).tr k78
    have or8 := (((((or2.k k23).kx k34 (by omega)).k k45).kx k56 (by omega)).k k67).k k78
    have ol8 := (((ol4.k k45).kx k56 (by omega)).k k67).k k78
    have on8 := (on6.k k67).k k78
    have row8 : w8.ownsRow (kb + 1) 58 2 (.slice a Z.length cp) Z.length (tkC Z) := by
      rw [← s1]
      exact ownsRow_kx (ownsRow_kx (ownsRow_kx (ownsRow_kx (ownsRow_kx (ownsRow_kx row2 k23 fun _ _ _ _ => id) k34 fun x _ _ hx hy => by have := rowlt x hx; omega) k45 fun _ _ _ _ => id) k56 fun x _ _ hx hy => by have := rowlt x hx; omega) k67 fun _ _ _ _ => id) k78 fun _ _ _ _ => id
    clear e3 e4 e5 e6 e7 e8 on5 on6 ol3 ol4 or1 or2 row2
    let St : Nat → World → Prop := fun i W => Kept none' w W ∧ own W kb [.bool false] ∧ own W lb [.slice a Z.length cp] ∧ own W (lb + 1) [.int .i64 (i : Int)] ∧ W.ownsRow (kb + 1) 58 2 (.slice a Z.length cp) Z.length (tkC Z)
    have stK : ∀ {i : Nat} {W W' : World} {X : Nat → Prop}, St i W → Kept X W W' → (∀ x, X x → lb + 2 ≤ x) → St i W' := by
      rintro i W W' X ⟨a1, a2, a3, a4, a5⟩ k hx
      exact ⟨own0 a1 k fun x h => by have := hx x h; omega, a2.kx k fun h => by have := hx _ h; omega, a3.kx k fun h => by have := hx _ h; omega, a4.kx k fun h => by have := hx _ h; omega, ownsRow_kx a5 k fun x _ _ hh hy => by have := rowlt x hh; have := hx x hy; omega⟩
    have zlt : ∀ x, S.all z x → x < kb := fun x hx => by have := h.lt hx; omega
    have hzx : zxs S L = Z.map fun y => [Value.agg #[.int .i64 (y.1 : Int), .int .i64 (y.2 : Int)]] := by unfold zxs; rw [hll]
    refine ⟨zxs S L, fun x => x = lb + 3 ∨ S.all z x, fun Y i W => i ≤ Z.length ∧ St i W ∧ ∀ x, Y x → x < W.heap.size, fun _ _ _ => False, ⟨zblocks_gives (h.k K8) (by rw [oc8.rd]; rfl) (by omega), fun xs hx => ?_, fun b hb => ?_⟩, fun w9 k9 s9 => ⟨Nat.zero_le _, stK ⟨K8, or8, ol8, on8, row8⟩ k9 fun x h => h.elim, fun x h => h.elim⟩, ?_, fun _ _ _ _ h => h.elim, ?_, ?_, fun _ _ h => h.elim, trivial⟩
    · rw [hzx] at hx
      obtain ⟨y, _, rfl⟩ := List.mem_map.1 hx
      exact ⟨rfl, _, _, rfl⟩
    · rcases hb with rfl | hb
      · omega
      · have := zlt b hb; omega
    · rintro Y i W W' ⟨hi, g1, g3⟩ hY k'
      have hsz := k'.sz
      refine ⟨hi, stK g1 k' fun x hx => (by rcases hx with rfl | rfl | h; omega; omega; have := hY x h; omega), fun x hx => ?_⟩
      rcases hx with hx | hx
      · have := g3 x hx; omega
      · exact hx.2
    · rintro Y i W ⟨hi, g1, g3⟩ hY hsz p o hv w9 e9
      rw [hzx, List.getElem?_map] at hv
      obtain ⟨⟨yp, yo⟩, hyy, hpo⟩ : ∃ y, Z[i]? = some y ∧ [Value.agg #[.int .i64 (y.1 : Int), .int .i64 (y.2 : Int)]] = [Value.agg #[.int .i64 p, .int .i64 o]] := by
        cases hh : Z[i]? with
        | none => rw [hh] at hv; cases hv
        | some y => rw [hh] at hv; exact ⟨y, rfl, Option.some.inj hv⟩
      simp at hpo
      obtain ⟨rfl, rfl⟩ := hpo
      have hil := (List.getElem?_eq_some_iff.1 hyy).1
      have ox9 := own_alloc (c := [.int .i64 0, .int .i64 0]) e9
      have k9 : Kept none' W w9 := (Kept.refl _ _).al e9
      refine ⟨⟨ox9.wr (by simp), ox9.wr (by simp)⟩, fun w10 e10 => ?_⟩
      have ox10 : own w10 W.heap.size [.int .i64 (yp : Int), .int .i64 (yo : Int)] := ox9.s2 e10
      have k10 : Kept none' W w10 := own0 k9 ((Kept.refl (· = W.heap.size) _).s2 e10 (.inl rfl)) fun x hx => by omega
      have s10 := k10.sz
      refine ⟨recKept_of k10 (by omega) id id, fun w11 k11 s11 w12 e12 => ?_⟩
      have k1112 : Kept none' w11 w12 := (Kept.refl _ _).dr e12
      have ox12 := (ox10.kx k11 (by omega)).k k1112
      have kW12 : Kept (· = lb + 4 + 1) W w12 := ((k10.mono fun _ _ h => h.elim).trans k11 fun _ _ h => h).tr k1112
      have hW12 := kW12.sz
      obtain ⟨K12, or12, ol12, on12, row12⟩ := stK g1 kW12 fun x hx => by omega
      obtain ⟨g, rfl, _, _, _, q1, q2⟩ := row2_rd row12 hil
      obtain ⟨c1, c2⟩ := tkC_get Z i _ hyy
      rw [c1] at q1
      rw [c2] at q2
      have e0 : decide ((i : Int) ≥ (Z.length : Int)) = false := by simp; omega
      refine ⟨(i : Int), by rw [on12.rd]; rfl, some ⟨g, 0, none⟩, Z.length, cp, by rw [ol12.rd]; rfl, ?_⟩
      simp only [e0]
      refine ⟨(yp : Int), (yo : Int), fun _ => ⟨by rw [ox12.rd]; rfl, by rw [ox12.rd]; rfl⟩, some ⟨g, 0, none⟩, Z.length, cp, fun _ => by rw [ol12.rd]; rfl, (i : Int), fun _ => by rw [on12.rd]; rfl, ?_⟩
      have eG : inB (i : Int) Z.length = true := inB_of (by omega) (by omega)
      simp only [isP_some, Wif_true, gIf_true, pb_some, po_some, Nat.zero_add, eG, Int.toNat_natCast]
      refine ⟨(yp : Int), (yo : Int), fun _ => ⟨q1, q2⟩, Wif_no (by simp) ?_⟩
      refine ⟨(i : Int), by rw [on12.rd]; rfl, on12.wr (by simp), fun w13 e13 => ?_⟩
      rw [show IntKind.wrap .i64 ((i : Int) + 1) = ((i + 1 : Nat) : Int) by rw [wi (by omega)]; rfl] at e13
      have on13 := on12.s1 e13
      have k1213 : Kept (· = lb + 1) w12 w13 := (Kept.refl _ _).s1 e13 (.inl rfl)
      have k1113 : Kept (· = lb + 1) w11 w13 := (k1112.mono fun _ _ h => h.elim).trans k1213 fun _ _ h => h
      have kW13 : Kept (fun x => x = lb + 4 + 1 ∨ x = lb + 1) W w13 := (kW12.mono fun _ _ h => .inl h).trans k1213 fun _ _ h => .inr h
      have s13 := kW13.sz
      refine ⟨recKept_of k1113 (by omega) (by omega) (by omega), keptY_of kW13 fun b hb => ?_, by omega, ⟨own0 K12 k1213 fun x h => by omega, or12.kx k1213 (by omega), ol12.kx k1213 (by omega), on13, ownsRow_kx row12 k1213 fun x _ _ hh hy => by have := rowlt x hh; omega⟩, fun b hb => ?_⟩
      · rcases hb with hb | hb | hb
        · have h1 := hY b hb
          have h2 := g3 b hb
          exact ⟨h2, by omega⟩
        · subst hb; exact ⟨by omega, by omega⟩
        · have := zlt b hb; exact ⟨by omega, by omega⟩
      · have := g3 b hb; omega
    · rintro Y W ⟨_, g1, g3⟩ hd w9 e9 w10 e10
      have elen : (zxs S L).length = Z.length := by rw [hzx]; simp
      rw [elen] at g1
      have k9 : Kept none' W w9 := (Kept.refl _ _).al e9
      have k910 : Kept none' w9 w10 := (Kept.refl _ _).al e10
      have c10 := own_alloc (c := [ptr z]) e10
      have k10 := k9.tr k910
      have st10 := stK g1 k10 fun x h => h.elim
      have hd10 := hd.k k10 id
      have hdB : lb + 4 < W.heap.size := (Array.getElem?_eq_some_iff.1 hd.at_).1
      have s10 := k10.sz
      have s9 : w9.heap.size < w10.heap.size := by rw [e10]; simp only [World.alloc, Array.size_push]; omega
      have s99 := k9.sz
      clear e9 e10
      generalize hB2 : w10.heap.size = B2 at *
      refine ⟨zxs S L, fun x => x = w9.heap.size ∨ S.all z x, fun Y i W => True ∧ St Z.length W ∧ DefAt (lb + 4) W ∧ ∀ x, Y x → x < W.heap.size, fun k Y W => k = 3 ∧ St Z.length W ∧ DefAt (lb + 4) W ∧ ∀ x, Y x → x < W.heap.size, ⟨zblocks_gives (h.k st10.1) (by rw [c10.rd]; rfl) (by omega), fun xs hx => ?_, fun b hb => ?_⟩, fun w11 k11 s11 => ⟨trivial, stK st10 k11 fun x h => h.elim, hd10.k k11 id, fun x h => h.elim⟩, ?_, ?_, ?_, ?ta, ?x0, ?tb⟩
      case x0 =>
        rintro Y W ⟨q0, _⟩ hd2
        cases q0
      · rw [hzx] at hx
        obtain ⟨y, _, rfl⟩ := List.mem_map.1 hx
        exact ⟨rfl, _, rfl⟩
      · rcases hb with rfl | hb
        · omega
        · have := zlt b hb; omega
      · rintro Y i W W' ⟨_, q1, q2, q3⟩ hY k'
        have hsz := k'.sz
        refine ⟨trivial, stK q1 k' fun x hx => (by rcases hx with rfl | rfl | h; omega; omega; have := hY x h; omega), q2.k k' (fun h => by rcases h with h | h | h; omega; omega; have := hY _ h; omega), fun x hx => ?_⟩
        rcases hx with hx | hx
        · have := q3 x hx; omega
        · exact hx.2
      · rintro k Y W W' ⟨q0, q1, q2, q3⟩ hY k'
        have hsz := k'.sz
        refine ⟨q0, stK q1 k' fun x hx => (by rcases hx with rfl | rfl | h; omega; omega; have := hY x h; omega), q2.k k' (fun h => by rcases h with h | h | h; omega; omega; have := hY _ h; omega), fun x hx => ?_⟩
        rcases hx with hx | hx
        · have := q3 x hx; omega
        · exact hx.2
      · rintro Y i W ⟨_, q1, q2, q3⟩ hY hsz v hv
        refine ⟨recKept_refl _ _, fun w11 k11 s11 => ⟨recKept_refl _ _, keptY_of k11 fun b hb => ?_, rfl, stK q1 k11 fun x hx => by omega, q2.k k11 (by omega), fun x hx => by have := q3 x hx; omega⟩⟩
        rcases hb with hb | hb | hb
        · have := hY b hb; have := q3 b hb; exact ⟨by omega, by omega⟩
        · exact ⟨by omega, by omega⟩
        · have := zlt b hb; exact ⟨by omega, by omega⟩
      all_goals
        rintro Y W ⟨_, q1, q2, _⟩ hd2
        obtain ⟨KW, orW, olW, onW, rowW⟩ := q1
        have hZ := h.k KW
        have hRW := hR.k' KW
        refine ⟨fun n w' M => ∃ q : Nat, n = (q : Int) - 1 ∧ q ≤ S.k + 2 ∧ M = S.k + 2 - q ∧ w' = W, ⟨S.k + 2, 0, rfl, by omega, rfl, rfl⟩, ?_⟩
        rintro _ wq _ ⟨q, rfl, hq, rfl, hwq⟩
        rw [hwq]
        clear hwq wq
        simp only [isP_some, Wif_true, gIf_true, pb_some, po_some, Nat.zero_add]
        refine ⟨_, _, _, hRW.r94, Wif_intro (fun hc => ?_) (fun hc => ?_)⟩
        · refine (zfree_spec hZ _).mono ?_
          rintro _ wq ⟨rfl, hwq⟩
          rw [hwq]
          clear hwq wq
          refine ⟨_, rfl, (rfree_spec hRW en _).mono ?_⟩
          rintro _ wq ⟨rfl, hwq⟩
          rw [hwq]
          clear hwq wq
          have er : zfr S L ((q : Int) - 1) = rfr R.k L ((q : Int) - 1) := by rw [ek]; rfl
          refine ⟨_, rfl, Wif_no (by rw [er]; simp) ((zstate_any hZ _).mono ?_)⟩
          rintro _ wq ⟨rfl, hwq⟩
          rw [hwq]
          clear hwq wq
          refine ⟨_, rfl, (rstate_spec hRW en _).mono ?_⟩
          rintro _ wq ⟨rfl, hwq⟩
          rw [hwq]
          clear hwq wq
          refine ⟨_, rfl, Wif_no (by rw [ec, ek]; simp) ⟨S.k + 2 - (q + 1), by simp at hc; omega, q + 1, by rw [wi (by omega)]; omega, by simp at hc; omega, rfl, rfl⟩⟩
        · refine ⟨_, by rw [onW.rd]; rfl, _, _, _, by rw [olW.rd]; rfl, orW.wr (by simp), fun w11 e11 => ?_⟩
          have or11 := orW.s1 e11
          have k11 : Kept (· = kb) W w11 := (Kept.refl _ _).s1 e11 (.inl rfl)
          have d1 := q2.k k11 (by omega)
          have d2 := hd2.k k11 (by omega)
          have hnm : ¬ List.Mem kb [B2, lb + 4] := fun hm => by
            have : kb = B2 ∨ kb = lb + 4 := by simpa using (show kb ∈ [B2, lb + 4] from hm)
            omega
          refine ⟨⟨by simp; omega, fun D hD => ?_⟩, fun w12 k12' _ => ⟨_, by rw [(or11.kx k12' hnm).rd]; rfl, by simp, ?_⟩⟩
          · simp at hD
            rcases hD with rfl | rfl
            · exact d2.at_
            · exact d1.at_
          · refine own0 (own0 KW k11 fun x h => by omega) k12' fun x h => ?_
            have : x = B2 ∨ x = lb + 4 := by simpa using (show x ∈ [B2, lb + 4] from h)
            omega
  · rintro e w' ⟨v, rfl, rfl, hw⟩
    exact ⟨rfl, hw⟩
end
end Go.Proofs.Ytkmcmkimeibjdaa
