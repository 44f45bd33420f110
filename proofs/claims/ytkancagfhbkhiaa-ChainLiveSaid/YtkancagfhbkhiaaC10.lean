/-
  A part of a proof that a law of this seat returns true at every input. Conditions: those in each theorem.
-/
import Derived.Test.YtkancagfhbkhiaaC9
namespace Go.Proofs.Ytkancagfhbkhiaa
open Go Eng
set_option linter.unusedSimpArgs false
set_option linter.unusedVariables false
set_option maxRecDepth 10000

theorem BytesAt.kr {w w' : World} {a : Option Addr} {l c : Nat} {f : Nat → Int} (h : BytesAt w a l c f) (k : Kept none' w w') {i : Nat} (hi : i < l) : rd w' (pb a) (po a + i) = some (.int .u8 (f i)) :=
  k.rd_some (h.rd i hi) id
theorem linked_in {c z : Nat} {f : Nat → Int} {l : List Nat} {i a : Nat} {v : Int} (hi : i ∉ l) (h1 : c + i * z ≤ a) (h2 : a < c + i * z + z) (h : linked c z f l) : linked c z (upd f a v) l := by
  induction l with
  | nil => trivial
  | cons k l ih =>
    obtain ⟨q1, q2⟩ := h
    simp only [List.mem_cons, not_or] at hi
    refine ⟨?_, ih hi.2 q2⟩
    rw [← q1, upd_ne]
    intro e
    rcases Nat.lt_or_gt_of_ne hi.1 with hlt | hgt
    · have : (i + 1) * z ≤ k * z := Nat.mul_le_mul_right _ hlt
      rw [Nat.add_mul] at this
      omega
    · have : (k + 1) * z ≤ i * z := Nat.mul_le_mul_right _ hgt
      rw [Nat.add_mul] at this
      omega
theorem Good.write {s : Sl} {f : Nat → Int} (g : Good s f) {i a : Nat} {v : Int} (ho : s.out i = true) (h1 : s.colour + i * s.size ≤ a) (h2 : a < s.colour + i * s.size + s.size) : Good s (upd f a v) :=
  ⟨g.s8, g.s128, g.col, g.cnt, g.lt, g.nd, linked_in ((g.outs i).1 ho).2 h1 h2 g.link, g.outs, g.tur, g.tr⟩

theorem live_law (size turn : Int) (bytes : Option Addr) (bL bC : Nat) (l : Option Addr) (lL lC : Nat) (w : World) {fb : Nat → Int} (hb : BytesAt w bytes bL bC fb) (hl : 0 < lL → isP l = true)
    (ho : ∀ i, i < lL → ∃ k j u b bl bc f, OpAt w l i k j u b bl bc f) (t0 : 0 ≤ turn) (t1 : turn ≤ 18446744073709551615) :
    Calls Try.prog 6 #[.int .i64 size, .int .u64 turn, .slice bytes bL bC, .slice l lL lC] w fun e w' => e = .returned (.bool true) ∧ Kept none' w w' := by
  refine (vc6 size turn bytes bL bC l lL lC w (fun v w' => v = .bool true ∧ Kept none' w w') ?_).mono ?_
  · unfold vcP6
    refine Wif_intro (fun h => fin_known (Kept.refl _ _)) (fun h => ?_)
    simp at h
    obtain ⟨⟨hl100, ht⟩, hb300⟩ := h
    intro w1 e1
    have b1 := bytes_new e1
    have k1 := (Kept.refl none' w).al e1
    clear e1
    have hlt := b1.lt
    have hle : w.heap.size ≤ w.heap.size := Nat.le_refl _
    generalize hB : w.heap.size = B at hlt b1 ⊢
    by_cases hm : mayBe size 0
    · obtain ⟨z, c, rfl, hc0, h8, h128, hc⟩ := mayBe_nat hm
      have hc0 : c = 0 := by omega
      subst hc0
      refine (new_ok (w := w1) (B := B) z 0 b1 (Nat.le_refl _) hm).mono ?_
      rintro _ w2 ⟨rfl, k2, f, a2, _⟩
      have k2' := k1.go k2 (fun b hb => .inr (by omega))
      have hS : B < w1.heap.size := hlt
      generalize w1.heap.size = S at *
      have g1 := a2.good.count1
      refine ⟨_, _, rfl, Wif_no rfl ?_⟩
      have hch : (newSl z 0).ch = 0 :: List.range' 1 ((newSl z 0).count - 1) := by
        have h1 : (newSl z 0).ch = List.range' 0 (newSl z 0).count := by simp [newSl, List.range_eq_range']
        obtain ⟨q, hq⟩ : ∃ q, (newSl z 0).count = q + 1 := ⟨(newSl z 0).count - 1, by omega⟩
        rw [h1, hq, List.range'_succ]
        rfl
      refine (take_some a2 hch).mono ?_
      rintro _ w3 ⟨rfl, k3, a3⟩
      have k3' := k2'.go k3 (fun b hb => .inr (by rcases hb with rfl | rfl <;> omega))
      refine ⟨_, _, rfl, (at_spec a3 _).mono ?_⟩
      rintro _ w4 ⟨rfl, k4⟩
      have a4 := a3.k k4
      have k4' := k3'.tr k4
      generalize hs : took (newSl z 0) 0 (List.range' 1 ((newSl z 0).count - 1)) = s at *
      have sz : s.size = z := by rw [← hs]; rfl
      have sc : s.colour = 0 := by rw [← hs]; rfl
      have sn : s.count = (newSl z 0).count := by rw [← hs]; rfl
      have so : s.out 0 = true := by rw [← hs]; rfl
      have st0 : s.turn 0 = 0 := by rw [← hs]; rfl
      have hat : atOf s ((0 : Nat) : Int) = (0, (z : Int)) := by
        rw [atOf_nat (by omega), sc, sz]
        simp
      rw [hat]
      refine ⟨_, _, rfl, Wif_no rfl ((mark_spec a4 _ turn t0 t1).mono ?_)⟩
      rintro _ w5 ⟨rfl, k5, a5⟩
      have hmk : markOf s ((0 : Nat) : Int) turn = 0 := by
        unfold markOf
        rw [if_pos (by omega), if_neg ht]
        have e0 : Int.toNat ((0 : Nat) : Int) = 0 := rfl
        rw [e0, so, st0]
        rfl
      rw [hmk] at a5 ⊢
      rw [if_pos rfl] at a5
      have e0 : Int.toNat ((0 : Nat) : Int) = 0 := rfl
      rw [e0] at a5
      have k5' := k4'.go k5 (fun b hb => .inr (by rcases hb with rfl | rfl <;> omega))
      generalize hs' : marked s 0 turn = s' at *
      have sz' : s'.size = z := by rw [← hs']; exact sz
      have sc' : s'.colour = 0 := by rw [← hs']; exact sc
      have so' : s'.out 0 = true := by rw [← hs']; exact so
      have st' : s'.turn 0 = turn := by rw [← hs']; exact upd_same s.turn 0 turn
      refine ⟨_, rfl, Wif_no ?_ ?_⟩
      · dsimp only
        rw [wi (by omega)]
        simp
        omega
      dsimp only
      refine ⟨fun n w' m => ∃ (q : Nat) (f : Nat → Int), n = q ∧ q ≤ bL ∧ m = bL - q ∧ At w' S B 256 s' f ∧ Kept none' w w', ⟨bL, 0, _, rfl, by omega, by omega, a5, k5'⟩, ?_⟩
      rintro n w6 m ⟨q, f6, rfl, hq, rfl, a6, k6⟩
      have hw0 : IntKind.wrap .i64 (0 + (q : Int)) = (q : Int) := by rw [Int.zero_add]; exact wi (by omega)
      rw [hw0]
      clear hw0
      refine Wif_intro (fun hlp => ?_) (fun hlp => ?_)
      · simp at hlp
        refine Wif_yes (hb.isp (by omega)) (Wif_yes (inB_of (by omega) (by omega)) ⟨fb q, ?_, Wif_yes (inB_of (by omega) (by omega)) ⟨?_, ?_⟩⟩)
        · rw [Int.toNat_natCast, Nat.mul_one]
          exact BytesAt.kr hb k6 (by omega)
        · rw [Int.toNat_natCast, Nat.mul_one, Nat.zero_add]
          exact a6.by'.wr (by omega)
        intro w7 e7
        rw [Int.toNat_natCast, Nat.mul_one, Nat.zero_add] at e7
        refine ⟨bL - (q + 1), by omega, q + 1, upd f6 q (fb q), ?_, by omega, rfl, ⟨a6.so.n1 e7 a6.ne, a6.by'.s1 e7, a6.ne, a6.cap, a6.good.write so' (by rw [sc', sz']; omega) (by rw [sc', sz']; omega)⟩, k6.s1 e7 (.inr (by omega))⟩
        rw [wi (by omega)]; rfl
      refine Wif_yes (okSl_of (by omega) (by omega) (by omega)) ?_
      have hoff : offA (some ⟨B, 0, none⟩) 256 (Int.toNat 0) 1 = some ⟨B, 0, none⟩ := offA_0 (by decide)
      refine ⟨strOf z f6, w6, ?_, ?_⟩
      · rw [hoff]
        refine cnv_bytes Try.underlying22 Try.underlying5 Try.underlying9 fun i hi => ?_
        rw [Nat.zero_add, a6.by'.rd (by have : i < z := hi; omega)]
      refine ⟨fun b n w' m => ∃ (q : Nat) (s : Sl) (f : Nat → Int), n = q ∧ q ≤ lL ∧ m = lL - q ∧ Lives w w' S B z turn f6 s f, ⟨lL, 0, s', f6, rfl, by omega, by omega, a6, sz', sc', st', fun _ _ => rfl, k6⟩, ?_⟩
      rintro b n w7 m ⟨i, s7, f7, rfl, hi, rfl, L7⟩
      have hBw : w.heap.size ≤ B := by omega
      have hSw : w.heap.size ≤ S := by omega
      refine Wif_intro (fun hlp => ?_) (fun hlp => ?_)
      · simp at hlp
        obtain ⟨ok, oj, ou, ob, obl, obc, of', op⟩ := ho i hlp
        have hwn : IntKind.wrap .i64 ((i : Int) + 1) = ((i + 1 : Nat) : Int) := by rw [wi (by omega)]; rfl
        rw [hwn]
        clear hwn
        have next : ∀ w' s f, Lives w w' S B z turn f6 s f → ∃ m, Nat.succ m ≤ lL - i ∧ ∃ (q : Nat) (s : Sl) (f : Nat → Int), ((i + 1 : Nat) : Int) = q ∧ q ≤ lL ∧ m = lL - q ∧ Lives w w' S B z turn f6 s f :=
          fun w' s f L => ⟨lL - (i + 1), by omega, i + 1, s, f, rfl, by omega, rfl, L⟩
        refine Wif_yes (hl (by omega)) (Wif_yes (inB_of (by omega) (by omega)) ⟨ok, oj, ou, ob, obl, obc, ⟨?_, ?_, ?_, ?_⟩, ?_⟩)
        · rw [Int.toNat_natCast]; exact L7.fr.rd_some op.r0 id
        · rw [Int.toNat_natCast]; exact L7.fr.rd_some op.r1 id
        · rw [Int.toNat_natCast]; exact L7.fr.rd_some op.r2 id
        · rw [Int.toNat_natCast]; exact L7.fr.rd_some op.r3 id
        intro w8 e8
        have p8 := own_alloc (c := [.int .i64 0, .int .i64 0, .int .u64 0, .slice none 0 0]) e8
        have k8 := (Kept.refl none' w7).al (c := #[.int .i64 0, .int .i64 0, .int .u64 0, .slice none 0 0]) e8
        refine ⟨⟨p8.wr (by simp), p8.wr (by simp), p8.wr (by simp), p8.wr (by simp)⟩, ?_⟩
        intro w9 e9
        generalize hx1 : Eng.st w8 w7.heap.size 0 (Value.int .i64 ok) = x1 at e9
        generalize hx2 : Eng.st x1 w7.heap.size 1 (Value.int .i64 oj) = x2 at e9
        generalize hx3 : Eng.st x2 w7.heap.size 2 (Value.int .u64 ou) = x3 at e9
        have p9 := (((p8.s1 hx1.symm).s1 hx2.symm).s1 hx3.symm).s1 e9
        have k9 := (((k8.s1 hx1.symm (.inr (Nat.le_refl _))).s1 hx2.symm (.inr (Nat.le_refl _))).s1 hx3.symm (.inr (Nat.le_refl _))).s1 e9 (.inr (Nat.le_refl _))
        have L9 := L7.k k9
        simp at p9
        clear hx1 hx2 hx3 e9 e8 p8 k8 k9
        generalize w7.heap.size = O at *
        have r0 : rd w9 O 0 = some (.int .i64 ok) := by rw [p9.rd]; rfl
        have r1 : rd w9 O 1 = some (.int .i64 oj) := by rw [p9.rd]; rfl
        have r2 : rd w9 O 2 = some (.int .u64 ou) := by rw [p9.rd]; rfl
        refine ⟨ok, r0, Wif_intro (fun c0 => ?_) (fun c0 => ?_)⟩
        · cases hcs : s7.ch with
          | nil =>
            refine (take_none L9.at' hcs).mono ?_
            rintro _ w10 ⟨rfl, rfl⟩
            exact ⟨_, _, rfl, L9.tail ht rfl (fun w' L => next w' _ _ L)⟩
          | cons y ys =>
            refine (take_some L9.at' hcs).mono ?_
            rintro _ w10 ⟨rfl, k10, a10⟩
            exact ⟨_, _, rfl, (L9.took ht hSw hBw hcs k10 a10).tail ht rfl (fun w' L => next w' _ _ L)⟩
        · refine ⟨oj, r1, Wif_intro (fun c1 => next _ _ _ L9) (fun c1 => ?_)⟩
          simp at c1
          refine ⟨ok, r0, Wif_intro (fun c2 => ?_) (fun c2 => ?_)⟩
          · refine ⟨oj, r1, ?_⟩
            by_cases hg : giveOf s7 oj = 0
            · obtain ⟨q', rfl, hqc, hqo, hqt⟩ := giveOf_zero hg
              refine (give_ok L9.at' q' hqc hqo hqt).mono ?_
              rintro _ w10 ⟨rfl, k10, a10⟩
              exact ⟨_, rfl, (L9.gave ht hSw hBw hqt k10 a10).tail ht rfl (fun w' L => next w' _ _ L)⟩
            · refine (give_no L9.at' oj hg).mono ?_
              rintro _ w10 ⟨rfl, k10⟩
              exact ⟨_, rfl, (L9.k k10).tail ht rfl (fun w' L => next w' _ _ L)⟩
          · refine ⟨ok, r0, Wif_intro (fun c3 => ?_) (fun c3 => ?_)⟩
            · refine ⟨oj, r1, ou, r2, (mark_spec L9.at' oj ou op.t64.1 op.t64.2).mono ?_⟩
              rintro _ w10 ⟨rfl, k10, a10⟩
              refine ⟨_, rfl, ?_⟩
              by_cases hg : markOf s7 oj ou = 0
              · rw [if_pos hg] at a10
                have h0 : 0 ≤ oj := Decidable.byContradiction fun hn => by
                  unfold markOf at hg
                  rw [if_neg (by omega)] at hg
                  cases hg
                exact (L9.marked hSw hBw (by omega) k10 a10).tail ht rfl (fun w' L => next w' _ _ L)
              · rw [if_neg hg] at a10
                exact (L9.stays hSw hBw k10 a10).tail ht rfl (fun w' L => next w' _ _ L)
            · refine ⟨ok, r0, Wif_intro (fun c4 => ?_) (fun c4 => ?_)⟩
              · refine ⟨oj, r1, (clear_spec L9.at' oj).mono ?_⟩
                rintro _ w10 ⟨rfl, k10, a10⟩
                refine ⟨_, rfl, ?_⟩
                by_cases hg : clearOf s7 oj = 0
                · rw [if_pos hg] at a10
                  have h0 : 0 ≤ oj := Decidable.byContradiction fun hn => by
                    unfold clearOf at hg
                    rw [if_neg (by omega)] at hg
                    cases hg
                  exact (L9.marked hSw hBw (by omega) k10 a10).tail ht rfl (fun w' L => next w' _ _ L)
                · rw [if_neg hg] at a10
                  exact (L9.stays hSw hBw k10 a10).tail ht rfl (fun w' L => next w' _ _ L)
              · exact L9.tail ht rfl (fun w' L => next w' _ _ L)
      · have gc := L7.at'.good.count1
        refine (clear_spec L7.at' _).mono ?_
        rintro _ w8 ⟨rfl, k8, a8⟩
        have hcl : clearOf s7 ((0 : Nat) : Int) = 0 := by
          unfold clearOf
          rw [if_pos (by omega), e0, L7.turn, if_neg ht]
        rw [hcl] at a8 ⊢
        rw [if_pos rfl, e0] at a8
        refine ⟨_, rfl, Wif_yes rfl ((give_ok a8 0 (by exact gc) (by exact L7.out ht) (by exact upd_same s7.turn 0 0)).mono ?_)⟩
        rintro _ w9 ⟨rfl, k9, a9⟩
        have k8' := L7.fr.go k8 (fun b hb => .inr (by rcases hb with rfl | rfl <;> omega))
        have k9' := k8'.go k9 (fun b hb => .inr (by rcases hb with rfl | rfl <;> omega))
        exact ⟨_, rfl, Wif_yes rfl (fin_known k9')⟩
    · refine (new_no (w := w1) _ _ _ _ _ (fun h => hm h.2)).mono ?_
      rintro _ w2 ⟨rfl, rfl⟩
      exact ⟨_, _, rfl, Wif_yes rfl (fin_known k1)⟩
  · rintro e w' ⟨v, rfl, rfl, h⟩
    exact ⟨rfl, h⟩
end Go.Proofs.Ytkancagfhbkhiaa
