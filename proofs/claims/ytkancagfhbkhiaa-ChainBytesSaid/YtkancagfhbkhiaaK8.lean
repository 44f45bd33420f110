/-
  A part of a proof that a law of this seat returns true at every input. Conditions: those in each theorem.
-/
import Derived.Test.YtkancagfhbkhiaaK7
import Derived.Test.YtkancagfhbkhiaaV6
namespace Go.Proofs.Ytkancagfhbkhiaa
open Go Eng
set_option linter.unusedSimpArgs false
set_option linter.unusedVariables false
set_option maxRecDepth 10000

theorem bytes_law (size colour : Int) (l : Option Addr) (lL lC : Nat) (w : World) (hl : 0 < lL → isP l = true) (ho : ∀ i, i < lL → ∃ k j u b bl bc f, OpAt w l i k j u b bl bc f) :
    Calls Try.prog 4 #[.int .i64 size, .int .i64 colour, .slice l lL lC] w fun e w' => e = .returned (.bool true) ∧ Kept none' w w' := by
  refine (vc4 size colour l lL lC w (fun v w' => v = .bool true ∧ Kept none' w w') ?_).mono ?_
  · unfold vcP4
    intro w1 e1
    have b1 := bytes_new e1
    have k1 := (Kept.refl none' w).al e1
    clear e1
    have hlt := b1.lt
    have hle : w.heap.size ≤ w.heap.size := Nat.le_refl _
    generalize hB : w.heap.size = B at hlt b1 ⊢
    by_cases hm : mayBe size colour
    · obtain ⟨z, c, rfl, rfl, h8, h128, hc⟩ := mayBe_nat hm
      refine (new_ok (w := w1) (B := B) z c b1 (Nat.le_refl _) hm).mono ?_
      rintro _ w2 ⟨rfl, k2, f, a2, hf⟩
      have k2' := k1.go k2 (fun b hb => .inr (by omega))
      have hS : B < w1.heap.size := hlt
      have hSz := a2.so.lt
      generalize w1.heap.size = S at *
      refine ⟨_, _, rfl, Wif_intro (fun _ => fin_known k2') (fun h60 => ?_)⟩
      simp at h60
      intro w3 e3
      have o3 := own_alloc (c := List.replicate 32 (.bool false)) e3
      have k3 : Kept none' w2 w3 := (Kept.refl none' w2).al (c := (List.replicate 32 (Value.bool false)).toArray) e3
      have hO : S < w2.heap.size := hSz
      have inv3 : Bys w w3 S B w2.heap.size (newSl z c) f := by
        refine ⟨a2.k k3, ?_, rng_new a2.good hf, k2'.tr k3, ⟨by omega, by omega, by omega⟩, ⟨by omega, by omega⟩⟩
        have : outs (newSl z c) = List.replicate 32 (.bool false) := by
          show (List.range 32).map (fun i => Value.bool false) = _
          rw [List.map_const']
          simp
        rw [this]; exact o3
      clear e3 o3 k3 k2' k2 a2 b1 k1 hf
      generalize w2.heap.size = O at *
      refine ⟨fun b n w' m => ∃ (q : Nat) (s : Sl) (f : Nat → Int), n = q ∧ q ≤ lL ∧ m = lL - q ∧ Bys w w' S B O s f, ⟨lL, 0, _, f, rfl, by omega, by omega, inv3⟩, ?_⟩
      clear inv3
      rintro b n w4 m ⟨i, s, f, rfl, hi, rfl, L⟩
      have gc := L.p.good.count32
      have hcl := L.p.good.chlen
      refine Wif_intro (fun hlp => ?_) (fun hlp => fin_known L.fr)
      simp at hlp
      obtain ⟨ok, oj, ou, ob, obl, obc, of', op⟩ := ho i hlp
      have hwn : IntKind.wrap .i64 ((i : Int) + 1) = ((i + 1 : Nat) : Int) := by rw [wi (by omega)]; rfl
      rw [hwn]
      clear hwn
      refine Wif_yes (hl (by omega)) (Wif_yes (inB_of (by omega) (by omega)) ⟨ok, oj, ou, ob, obl, obc, ⟨?_, ?_, ?_, ?_⟩, ?_⟩)
      · rw [Int.toNat_natCast]; exact L.fr.rd_some op.r0 id
      · rw [Int.toNat_natCast]; exact L.fr.rd_some op.r1 id
      · rw [Int.toNat_natCast]; exact L.fr.rd_some op.r2 id
      · rw [Int.toNat_natCast]; exact L.fr.rd_some op.r3 id
      intro x5 e5
      have p5 := own_alloc (c := [.int .i64 0, .int .i64 0, .int .u64 0, .slice none 0 0]) e5
      have k5 := (Kept.refl none' w4).al (c := #[.int .i64 0, .int .i64 0, .int .u64 0, .slice none 0 0]) e5
      refine ⟨⟨p5.wr (by simp), p5.wr (by simp), p5.wr (by simp), p5.wr (by simp)⟩, ?_⟩
      intro w6 e6
      generalize hx1 : Eng.st x5 w4.heap.size 0 (Value.int .i64 ok) = x1 at e6
      generalize hx2 : Eng.st x1 w4.heap.size 1 (Value.int .i64 oj) = x2 at e6
      generalize hx3 : Eng.st x2 w4.heap.size 2 (Value.int .u64 ou) = x3 at e6
      have p6 := (((p5.s1 hx1.symm).s1 hx2.symm).s1 hx3.symm).s1 e6
      have k6 := (((k5.s1 hx1.symm (.inr (Nat.le_refl _))).s1 hx2.symm (.inr (Nat.le_refl _))).s1 hx3.symm (.inr (Nat.le_refl _))).s1 e6 (.inr (Nat.le_refl _))
      have l4S := L.p.so.lt
      have l4B := L.p.by'.lt
      have l4O := L.o.lt
      have hQ : w.heap.size ≤ w4.heap.size := L.fr.sz
      replace L := L.k k6
      simp at p6
      clear hx1 hx2 hx3 e6 e5 p5 k5 k6
      generalize w4.heap.size = Q at *
      have r0 : rd w6 Q 0 = some (.int .i64 ok) := by rw [p6.rd]; rfl
      have r1 : rd w6 Q 1 = some (.int .i64 oj) := by rw [p6.rd]; rfl
      -- the end of each round
      have next : ∀ (w' : World) (s' : Sl) (f' : Nat → Int) (j : Int), Bys w w' S B O s' f' → (∀ t : Nat, ((t : Int) < (atOf s' j).1 ∨ (t : Int) ≥ (atOf s' j).2) → f' t = f t) → ∀ (b0 : Bool) (Y : World → Prop),
          Calls Try.prog 20 #[.pointer (some ⟨S, 0, none⟩), .int .i64 j] w' fun e w' => ∃ n4 n5 : Int, e = .returned (.tuple #[.int .i64 n4, .int .i64 n5]) ∧
            ∃ I : Bool → Int → World → Nat → Prop, (∃ n, I b0 0 w' n) ∧ ∀ (b : Bool) (n : Int) (w' : World) (m : Nat), I b n w' m →
              Wif (decide (n < 256)) (∀ w1, w1 = World.drew w' → gIf (inB n 256) ((decide (n < n4) || decide (n ≥ n5)) = true)
                (∃ y : Int, ((decide (n < n4) || decide (n ≥ n5)) = true → rd w1 B (0 + Int.toNat n * 1) = some (.int .u8 y)) ∧
                  gIf (inB n (strOf 256 f).size) ((decide (n < n4) || decide (n ≥ n5)) = true)
                    (Wif ((decide (n < n4) || decide (n ≥ n5)) && y != ((((strOf 256 f).data.toList.getD (Int.toNat n) 0).toNat : Nat) : Int)) (Y w1) (∃ m', Nat.succ m' ≤ m ∧ I b (IntKind.wrap .i64 (n + 1)) w1 m'))))
                (∃ m, Nat.succ m ≤ lL - i ∧ ∃ (q : Nat) (s : Sl) (f : Nat → Int), ((i + 1 : Nat) : Int) = q ∧ q ≤ lL ∧ m = lL - q ∧ Bys w w' S B O s f) := by
        intro w' s' f' j L' hsame b0 Y
        refine (at_spec L'.p j).mono ?_
        rintro _ w7 ⟨rfl, k7⟩
        have L7 := L'.k k7
        exact ⟨_, _, rfl, cmp_tail _ _ rfl L7.p.by' L.r hsame fun b w8 k8 => ⟨lL - (i + 1), by omega, i + 1, s', f', rfl, by omega, rfl, L7.k k8⟩⟩
      have none : ∀ (w' : World), Bys w w' S B O s f → ∀ t : Nat, ((t : Int) < (atOf s (-1)).1 ∨ (t : Int) ≥ (atOf s (-1)).2) → f t = f t := fun _ _ _ _ => rfl
      refine ⟨_, cnvS_bytes L.p.by' (Nat.le_refl _), ok, r0, Wif_intro (fun c0 => ?_) (fun c0 => Wif_intro (fun c1 => ?_) (fun c1 => Wif_intro (fun c4 => ?_) (fun c4 => ?_)))⟩
      · -- Take
        cases hcs : s.ch with
        | nil =>
          refine (take_none L.p hcs).mono ?_
          rintro _ w7 ⟨rfl, rfl⟩
          exact ⟨_, _, rfl, Wif_no rfl (next _ s f (-1) L (fun _ _ => rfl) _ _)⟩
        | cons y ys =>
          have hy : y < s.count := L.p.good.lt y (by rw [hcs]; simp)
          refine (take_some L.p hcs).mono ?_
          rintro _ w7 ⟨rfl, k7, p7⟩
          obtain ⟨a1, a2⟩ := L.ap
          have o7 := L.o.kx k7 (by rintro (h | h) <;> omega)
          refine ⟨_, _, rfl, Wif_yes rfl (Wif_no (by simp; omega) (Wif_yes (inB_of (by omega) (by omega)) ⟨?_, ?_⟩))⟩
          · rw [Int.toNat_natCast, Nat.zero_add, Nat.mul_one]
            exact o7.wr (by simp; omega)
          intro w8 e8
          rw [Int.toNat_natCast, Nat.zero_add, Nat.mul_one] at e8
          have L8 := L.go k7 p7 (rng_blank L.r _ _) (i := y) (x := true) (ch := ys) rfl w8 e8
          refine next w8 _ _ y L8 (fun t ht => ?_) _ _
          rw [atOf_nat (s := took s y ys) hy] at ht
          dsimp only at ht
          have e1 : (took s y ys).colour = s.colour := rfl
          have e2 : (took s y ys).size = s.size := rfl
          rw [e1, e2] at ht
          unfold blanked
          rw [if_neg (by omega)]
      · -- Give
        refine ⟨oj, r1, ?_⟩
        by_cases hg : giveOf s oj = 0
        · obtain ⟨q', rfl, hqc, hqo, hqt⟩ := giveOf_zero hg
          refine (give_ok L.p q' hqc hqo hqt).mono ?_
          rintro _ w7 ⟨rfl, k7, p7⟩
          obtain ⟨a1, a2⟩ := L.ap
          have o7 := L.o.kx k7 (by rintro (h | h) <;> omega)
          refine ⟨_, rfl, Wif_yes rfl ⟨_, k7.rd_some r1 (by rintro (h | h) <;> omega), Wif_no (by simp; omega) (Wif_yes (inB_of (by omega) (by omega)) ⟨?_, ?_⟩)⟩⟩
          · rw [Int.toNat_natCast, Nat.zero_add, Nat.mul_one]
            exact o7.wr (by simp; omega)
          intro w8 e8
          rw [Int.toNat_natCast, Nat.zero_add, Nat.mul_one] at e8
          have L8 := L.go k7 p7 (rng_upd L.r (Good.first s L.p.good)) (i := q') (x := false) (ch := q' :: s.ch) rfl w8 e8
          refine next w8 _ _ q' L8 (fun t ht => ?_) _ _
          rw [atOf_nat (s := gave s q') hqc] at ht
          dsimp only at ht
          have e1 : (gave s q').colour = s.colour := rfl
          have e2 : (gave s q').size = s.size := rfl
          rw [e1, e2] at ht
          have h8' := L.p.good.s8
          rw [upd_ne]
          omega
        · refine (give_no L.p oj hg).mono ?_
          rintro _ w7 ⟨rfl, k7⟩
          refine ⟨_, rfl, Wif_no (by simpa using hg) (next _ s f (-1) (L.k k7) (fun _ _ => rfl) _ _)⟩
      · -- bytes
        intro w7 e7
        have L7 := L.k ((Kept.refl _ _).dr e7)
        have p7 := p6.dr e7
        have q1 : rd w7 Q 1 = some (.int .i64 oj) := by rw [p7.rd]; rfl
        refine ⟨_, q1, _, fun _ => q1, Wif_intro (fun hj0 => ?_) (fun hj0 => ⟨fun _ => ⟨q1, trivial⟩, next _ s f (-1) L7 (fun _ _ => rfl) _ _⟩)⟩
        simp only [decide_eq_true_eq] at hj0
        obtain ⟨q, rfl⟩ := Int.eq_ofNat_of_zero_le hj0
        refine (count_spec L7.p).mono ?_
        rintro _ w7' ⟨rfl, rfl⟩
        refine ⟨_, rfl, fun _ => ⟨q1, trivial⟩, _, fun _ => q1, _, fun _ => q1, ?_⟩
        by_cases hin : q < s.count ∧ s.out q = true
        · obtain ⟨hq, hqo⟩ := hin
          have hfit := L7.p.good.fits hq
          refine gIf_intro (fun _ => inB_of (by omega) (by omega)) ⟨s.out q, fun _ => ?_, Wif_yes (by rw [hqo]; simp; omega) ?_⟩
          · rw [Int.toNat_natCast, Nat.zero_add, Nat.mul_one, L7.o.rd]
            have : q < 32 := by omega
            simp [this]
          refine (chain_spec L7.p).mono ?_
          rintro _ w8 ⟨ca, cc, rfl, row8, k8⟩
          have L8 := L7.k k8
          have p8 := p7.k k8
          have hle7 : w.heap.size ≤ w7'.heap.size := L7.fr.sz
          have hca : ∀ X, (Value.slice ca s.ch.length cc).ownBlock = some X → w7'.heap.size ≤ X := fun X hX => (row8.lt X hX).1
          have l7S := L7.p.so.lt
          have l7B := L7.p.by'.lt
          have l7O := L7.o.lt
          refine ⟨_, _, _, rfl, _, by rw [p8.rd]; rfl, (at_spec L8.p q).mono ?_⟩
          rintro _ w9 ⟨rfl, k9⟩
          have L9 := L8.k k9
          have p9 := p8.k k9
          have row9 := ownsRow_kx row8 k9 (fun _ _ _ _ => id)
          rw [atOf_nat hq]
          refine ⟨_, _, rfl, ?_⟩
          dsimp only
          refine ⟨fun n w' m => ∃ (t : Nat) (f' : Nat → Int), n = t ∧ t ≤ obl ∧ m = obl - t ∧ t ≤ s.size ∧ Bys w w' S B O s f' ∧ own w' Q [.int .i64 ok, .int .i64 q, .int .u64 ou, .slice ob obl obc] ∧ w'.ownsRow w7'.heap.size 3 1 (.slice ca s.ch.length cc) s.ch.length (ints s.ch) ∧
            ∀ j : Nat, (j < s.colour + q * s.size ∨ s.colour + q * s.size + s.size ≤ j) → f' j = f j, ⟨obl, 0, f, rfl, by omega, by omega, by omega, L9, p9, row9, fun _ _ => rfl⟩, ?_⟩
          rintro n w10 m ⟨t, f10, rfl, ht, rfl, hts, L10, p10, row10, same10⟩
          have q3 : rd w10 Q 3 = some (.slice ob obl obc) := by rw [p10.rd]; rfl
          have hobl : (obl : Int) ≤ 9223372036854775807 := by have := op.by'.le; have := op.by'.mx; unfold maxLen at this; omega
          refine ⟨_, _, _, q3, Wif_intro (fun hlt2 => ?_) (fun hlt2 => ?_)⟩
          · simp only [Bool.and_eq_true, decide_eq_true_eq] at hlt2
            obtain ⟨⟨hlt1, hlt2⟩, hlt3⟩ := hlt2
            have hw0 : IntKind.wrap .i64 (((s.colour + q * s.size : Nat) : Int) + (t : Int)) = ((s.colour + q * s.size + t : Nat) : Int) := by rw [wi (by omega)]; rfl
            rw [hw0] at hlt2 ⊢
            have hin : s.colour + q * s.size + t < 256 := by omega
            refine ⟨_, _, _, q3, Wif_yes (op.by'.isp (by omega)) (Wif_yes (inB_of (by omega) (by omega)) ⟨_, by rw [Int.toNat_natCast, Nat.mul_one]; exact bkr op.by' L10.fr (i := t) (by omega), Wif_yes (inB_of (by omega) (by omega)) ⟨by rw [Int.toNat_natCast, Nat.zero_add, Nat.mul_one]; exact L10.p.by'.wr hin, ?_⟩⟩)⟩
            intro w11 e11
            rw [Int.toNat_natCast, Nat.zero_add, Nat.mul_one] at e11
            obtain ⟨g1, g2, g3⟩ := L10.ge
            obtain ⟨a1, a2⟩ := L10.ap
            have hgd := L10.p.good.write (v := of' t) hqo (a := s.colour + q * s.size + t) (by omega) (by omega)
            have kk : Kept (· = B) w10 w11 := (Kept.refl _ _).s1 e11 (.inl rfl)
            have L11 : Bys w w11 S B O s (upd f10 (s.colour + q * s.size + t) (of' t)) :=
              ⟨⟨L10.p.so.n1 e11 L10.p.ne, L10.p.by'.s1 e11, L10.p.ne, L10.p.cap, hgd⟩, L10.o.n1 e11 a2, rng_upd L10.r (op.by'.by0 t (by omega)), L10.fr.s1 e11 (.inr g2), L10.ge, L10.ap⟩
            refine ⟨obl - (t + 1), by omega, t + 1, _, by rw [wi (by omega)]; rfl, by omega, rfl, by omega, L11, p10.n1 e11 (by omega), ownsRow_kx row10 kk (fun X h1 h2 h3 => by have := hca X h3; omega), fun j hj => ?_⟩
            rw [upd_ne _ _ (by omega)]
            exact same10 j hj
          · refine (chain_spec L10.p).mono ?_
            rintro _ w11 ⟨da, dc, rfl, row11, k11⟩
            have row11' := ownsRow_kx row10 k11 (fun _ _ _ _ => id)
            have L11 := L10.k k11
            have p11 := p10.k k11
            refine ⟨_, _, _, rfl, Wif_no (by simp) ?_⟩
            refine ⟨fun b n w' m => ∃ k : Nat, n = k ∧ k ≤ s.ch.length ∧ m = s.ch.length - k ∧ Kept none' w11 w', ⟨s.ch.length, 0, rfl, by omega, by omega, Kept.refl _ _⟩, ?_⟩
            rintro b' n w12 m ⟨k, rfl, hk, rfl, k12⟩
            refine Wif_intro (fun hlt4 => ?_) (fun hlt4 => ?_)
            · simp only [decide_eq_true_eq] at hlt4
              have hk' : k < s.ch.length := by omega
              intro w13 e13
              have k13 := k12.dr e13
              have s1 := (Src.of_row row11').k k13
              have s2 := (Src.of_row row11).k k13
              refine Wif_yes (s1.isp (by simp; omega)) (Wif_yes (inB_of (by omega) (by omega)) ⟨_, by rw [Int.toNat_natCast, Nat.mul_one]; exact s1.rd (ints_get hk'), Wif_yes (s2.isp (by simp; omega)) (Wif_yes (inB_of (by omega) (by omega)) ⟨_, by rw [Int.toNat_natCast, Nat.mul_one]; exact s2.rd (ints_get hk'), Wif_no (by simp) ⟨s.ch.length - (k + 1), by omega, k + 1, by rw [wi (by omega)]; rfl, by omega, rfl, k13⟩⟩)⟩)
            · have L12 := L11.k k12
              have p12 := p11.k k12
              refine ⟨_, by rw [p12.rd]; rfl, next w12 s f10 q L12 (fun j hj => same10 j ?_) _ _⟩
              rw [atOf_nat hq] at hj
              dsimp only at hj
              omega
        · refine gIf_intro (fun hd => ?_) ⟨s.out q, fun hd => ?_, Wif_no ?_ (next _ s f (-1) L7 (fun _ _ => rfl) _ _)⟩
          · simp at hd; exact inB_of (by omega) (by omega)
          · simp at hd
            rw [Int.toNat_natCast, Nat.zero_add, Nat.mul_one, L7.o.rd]
            have : q < 32 := by omega
            simp [this]
          · cases hx : s.out q with
            | false => simp
            | true =>
              have : ¬ q < s.count := fun h => hin ⟨h, hx⟩
              simp
              omega
      · exact next _ s f (-1) L (fun _ _ => rfl) _ _
    · refine (new_no (w := w1) _ _ _ _ _ (fun h => hm h.2)).mono ?_
      rintro _ w2 ⟨rfl, rfl⟩
      exact ⟨_, _, rfl, Wif_yes rfl (fin_known k1)⟩
  · rintro e w' ⟨v, rfl, rfl, h⟩
    exact ⟨rfl, h⟩
end Go.Proofs.Ytkancagfhbkhiaa
