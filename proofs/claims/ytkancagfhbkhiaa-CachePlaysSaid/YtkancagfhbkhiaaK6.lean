/-
  A part of a proof that a law of this seat returns true at every input. Conditions: those in each theorem.
-/
import Derived.Test.YtkancagfhbkhiaaK5
import Derived.Test.YtkancagfhbkhiaaV5
namespace Go.Proofs.Ytkancagfhbkhiaa
open Go Eng
set_option linter.unusedSimpArgs false
set_option linter.unusedVariables false
set_option maxRecDepth 10000

abbrev byteL (n : Nat) (f : Nat → Int) : List Value := (List.range n).map fun i => Value.int .u8 (f i)
theorem bsrc {w : World} {a : Option Addr} {l c : Nat} {f : Nat → Int} (h : BytesAt w a l c f) : Src w a l c (byteL l f) := by
  refine ⟨h.nil, fun hl => ?_⟩
  have hl' : 0 < l := by simpa [byteL] using hl
  have := isP_spec (h.isp hl')
  refine ⟨pb a, po a, this, fun j u hj => ?_⟩
  have hjl : j < l := by
    have := (List.getElem?_eq_some_iff.1 hj).1
    simpa [byteL] using this
  have : u = .int .u8 (f j) := by simpa [byteL, hjl] using hj.symm
  rw [this]
  exact h.rd j hjl
theorem bk {w w' : World} {a : Option Addr} {l c : Nat} {f : Nat → Int} (h : BytesAt w a l c f) (k : Kept none' w w') : BytesAt w' a l c f :=
  ⟨h.le, h.mx, h.isp, fun i hi => k.rd_some (h.rd i hi) id, h.by0, h.nil⟩
theorem bkr {w w' : World} {a : Option Addr} {l c : Nat} {f : Nat → Int} (h : BytesAt w a l c f) (k : Kept none' w w') {i : Nat} (hi : i < l) : rd w' (pb a) (po a + i) = some (.int .u8 (f i)) :=
  k.rd_some (h.rd i hi) id
theorem linked_in {c z : Nat} {f : Nat → Int} {l : List Nat} {i a : Nat} {v : Int} (hi : i ∉ l) (h1 : c + i * z ≤ a) (h2 : a < c + i * z + z) (h : linked c z f l) : linked c z (upd f a v) l := by
  induction l with
  | nil => trivial
  | cons k l ih =>
    obtain ⟨q1, q2⟩ := h
    simp only [List.mem_cons, not_or] at hi
    refine ⟨?_, ih hi.2 q2⟩
    rw [← q1, upd_ne]
    intro e
    rcases Nat.lt_or_gt_of_ne hi.1 with hlt | hgt
    · have : (i + 1) * z ≤ k * z := Nat.mul_le_mul_right _ hlt
      rw [Nat.add_mul] at this
      omega
    · have : (k + 1) * z ≤ i * z := Nat.mul_le_mul_right _ hgt
      rw [Nat.add_mul] at this
      omega
theorem Good.write {s : Sl} {f : Nat → Int} (g : Good s f) {i a : Nat} {v : Int} (ho : s.out i = true) (h1 : s.colour + i * s.size ≤ a) (h2 : a < s.colour + i * s.size + s.size) : Good s (upd f a v) :=
  ⟨g.s8, g.s128, g.col, g.cnt, g.lt, g.nd, linked_in ((g.outs i).1 ho).2 h1 h2 g.link, g.outs, g.tur, g.tr⟩

theorem info_u8 : (Try.prog.info? 5).map (fun i => (i.zero, i.size, i.bytes)) = some (some (.int .u8 0), 1, 1) := by kernel_rfl
theorem app_bytes {w : World} {base : Nat} {da : Option Addr} {dl dc : Nat} {xs : List Value} (ho : w.ownsRow base 5 1 (.slice da dl dc) dl xs) {a : Option Addr} {l c : Nat} {f : Nat → Int} (hs : Src w a l c (byteL l f))
    (h63 : dl + l ≤ 1000000) (hbase : base ≤ w.heap.size) :
    ∃ a' c' w', appIs Try.prog #[22, 22] 22 (.slice da dl dc) (.slice a l c) (.slice a' (dl + l) c') w w' ∧ w'.ownsRow base 5 1 (.slice a' (dl + l) c') (dl + l) (xs ++ byteL l f) ∧ Kept (fun b => (Value.slice da dl dc).ownBlock = some b) w w' := by
  have h := info_u8
  cases hi : Try.prog.info? 5 with
  | none => rw [hi] at h; cases h
  | some i =>
    rw [hi] at h
    simp at h
    exact app (t := 22) (ty := 22) Try.underlying22 hi h.1 h.2.1 rfl (by decide) ho hs (by simp) (fun u hu => by obtain ⟨k, _, rfl⟩ := List.mem_map.1 hu; rfl) h63 (by omega) hbase
theorem copy_bytes {w w1 : World} {a : Option Addr} {l c : Nat} {f : Nat → Int} (e : w1 = w.alloc (.cells #[] 5)) (h : BytesAt w a l c f) (hl : l ≤ 300) :
    ∃ a' c' w2, appIs Try.prog #[22, 22] 22 (.slice (some ⟨w.heap.size, 0, none⟩) 0 0) (.slice a l c) (.slice a' l c') w1 w2 ∧ w2.ownsRow w.heap.size 5 1 (.slice a' l c') l (byteL l f) ∧ Kept none' w w2 := by
  have k1 : Kept none' w w1 := (Kept.refl _ _).al e
  have row : w1.ownsRow w.heap.size 5 1 (.slice (some ⟨w.heap.size, 0, none⟩) 0 0) 0 [] := by
    rw [e]
    exact World.ownsRow_made (base := w.heap.size) (e := 5) (size := 1) w #[] 0 (Nat.le_refl _) (by decide) rfl
  obtain ⟨a', c', w2, ha, row2, k2⟩ := app_bytes row (bsrc (bk h k1)) (by omega) k1.sz
  rw [Nat.zero_add] at ha row2
  rw [List.nil_append] at row2
  exact ⟨a', c', w2, ha, row2, k1.go k2 fun b hb => .inr (by have := ownBlock_slice hb; simp at this; omega)⟩
theorem row_bytes {w : World} {base c : Nat} {a : Option Addr} {f : Nat → Int} (h : w.ownsRow base 5 1 (.slice a 256 c) 256 (byteL 256 f)) : ∃ g, a = some ⟨g, 0, none⟩ ∧ base ≤ g ∧ 256 ≤ c ∧ Eng.bytes w g f := by
  rcases (ownsRow_own h).2 with ⟨_, h0, _⟩ | ⟨g, cs, rfl, hg, og, htk, hc, hcs⟩
  · cases h0
  · refine ⟨g, rfl, hg, hc, cs, og, by omega, fun i hi => ?_⟩
    have : (cs.take (256 * 1))[i]? = (byteL 256 f)[i]? := by rw [htk]
    rw [List.getElem?_take, if_pos (by omega)] at this
    rw [this]
    simp [byteL, hi]

/-! ### ChainPlays: both stand alike -/
structure Both (w0 w : World) (S B bc R RB rbc : Nat) (a : Option Addr) (lc : Nat) (s : Sl) (f : Nat → Int) : Prop where
  p : At w S B bc s f
  r : RAt w R RB rbc a lc s f
  fr : Kept none' w0 w
  ge : w0.heap.size ≤ S ∧ w0.heap.size ≤ B ∧ w0.heap.size ≤ R ∧ w0.heap.size ≤ RB
  ap : S ≠ R ∧ S ≠ RB ∧ B ≠ R ∧ B ≠ RB
  ch : pb a = S ∨ pb a = B → s.ch = []
section
variable {w0 w w' : World} {S B bc R RB rbc lc lc' : Nat} {a a' : Option Addr} {s s' : Sl} {f f' : Nat → Int}
theorem Both.k (h : Both w0 w S B bc R RB rbc a lc s f) (k : Kept none' w w') : Both w0 w' S B bc R RB rbc a lc s f := ⟨h.p.k k, h.r.k k, h.fr.tr k, h.ge, h.ap, h.ch⟩
/-- the program's own has gone a step -/
theorem Both.fst (h : Both w0 w S B bc R RB rbc a lc s f) (k : Kept (two S B) w w') : RAt w' R RB rbc a lc s f ∧ Kept none' w0 w' := by
  obtain ⟨g1, g2, g3, g4⟩ := h.ge
  obtain ⟨a1, a2, a3, a4⟩ := h.ap
  exact ⟨h.r.kx k (by rintro (h | h) <;> omega) (by rintro (h | h) <;> omega) (fun hx => h.ch hx), h.fr.go k (fun b hb => .inr (by rcases hb with rfl | rfl <;> omega))⟩
/-- .. and the document's too -/
theorem Both.snd {w1 : World} (h : Both w0 w S B bc R RB rbc a lc s f) (k1 : Kept (two S B) w w1) (p1 : At w1 S B bc s' f') (k : Kept (two R RB) w1 w') (r : RAt w' R RB rbc a' lc' s' f') (hc : pb a' = S ∨ pb a' = B → s'.ch = []) : Both w0 w' S B bc R RB rbc a' lc' s' f' := by
  obtain ⟨g1, g2, g3, g4⟩ := h.ge
  obtain ⟨a1, a2, a3, a4⟩ := h.ap
  have k0 := (h.fst k1).2
  exact ⟨p1.kx k (by rintro (h | h) <;> omega) (by rintro (h | h) <;> omega), r, k0.go k (fun b hb => .inr (by rcases hb with rfl | rfl <;> omega)), h.ge, h.ap, hc⟩
/-- what each round asks at its end -/
theorem Both.tail (h : Both w0 w S B bc R RB rbc a lc s f) {Y Z : World → Prop} (hZ : ∀ w', Both w0 w' S B bc R RB rbc a lc s f → Z w') :
    Calls Try.prog 29 #[.pointer (some ⟨S, 0, none⟩), .pointer (some ⟨R, 0, none⟩), .slice (some ⟨B, 0, none⟩) 256 bc] w fun e w' => ∃ b : Bool, e = .returned (.bool b) ∧ Wif (!b) (Y w') (Z w') := by
  refine (same_spec h.p h.r).mono ?_
  rintro _ w1 ⟨rfl, k1⟩
  exact ⟨_, rfl, Wif_no rfl (hZ _ (h.k k1))⟩
end
theorem took_ch (s : Sl) (i : Nat) (l : List Nat) : (took s i l).ch = l := rfl

theorem plays_law (begin' : Option Addr) (beginL beginC : Nat) (size colour : Int) (l : Option Addr) (lL lC : Nat) (w : World) {fb : Nat → Int} (hb : BytesAt w begin' beginL beginC fb) (hl : 0 < lL → isP l = true)
    (ho : ∀ i, i < lL → ∃ k j u b bl bc f, OpAt w l i k j u b bl bc f) :
    Calls Try.prog 7 #[.slice begin' beginL beginC, .int .i64 size, .int .i64 colour, .slice l lL lC] w fun e w' => e = .returned (.bool true) ∧ Kept none' w w' := by
  refine (vc7 begin' beginL beginC size colour l lL lC w (fun v w' => v = .bool true ∧ Kept none' w w') ?_).mono ?_
  · unfold vcP7
    refine Wif_intro (fun h => fin_known (Kept.refl _ _)) (fun h => ?_)
    simp at h
    obtain ⟨hb300, hl150⟩ := h
    intro w1 e1
    obtain ⟨a2, c2, w2, ha2, row2, k2⟩ := copy_bytes e1 hb (by omega)
    refine ⟨a2, beginL, c2, w2, ha2, ?_⟩
    clear ha2 e1 w1
    by_cases hm : beginL = 256 ∧ mayBe size colour
    · obtain ⟨rfl, hm⟩ := hm
      obtain ⟨z, c, rfl, rfl, h8, h128, hc⟩ := mayBe_nat hm
      obtain ⟨B, rfl, hB, hbc, b2⟩ := row_bytes row2
      refine (new_ok (w := w2) (B := B) z c b2 hbc hm).mono ?_
      rintro _ w3 ⟨rfl, k3, f3, p3, hf3⟩
      have k3' := k2.go k3 (fun b hb => .inr (by omega))
      refine ⟨_, _, rfl, ?_⟩
      have hBS : B < w2.heap.size := b2.lt
      have hSz := p3.so.lt
      generalize hS : w2.heap.size = S at *
      intro w4 e4
      obtain ⟨a5, c5, w5, ha5, row5, k5⟩ := copy_bytes e4 (bk hb k3') (by omega)
      refine ⟨a5, _, c5, w5, ha5, ?_⟩
      clear ha5 e4 w4
      obtain ⟨RB, rfl, hRB, hrbc, b5⟩ := row_bytes row5
      have k5' := k3'.tr k5
      have p5 := p3.k k5
      refine (rnew_ok (w := w5) (B := RB) z c b5 hrbc hm).mono ?_
      rintro _ w6 ⟨rfl, k6, a6, lc6, f6, r6, hpb, hf6⟩
      refine ⟨_, _, rfl, Wif_no rfl (Wif_no rfl ?_)⟩
      have hR : w5.heap.size = w5.heap.size := rfl
      have hRBl := b5.lt
      have z5 := k5.sz
      generalize w5.heap.size = R at *
      have hff : f3 = f6 := new_same p3.good r6.good hf3 hf6
      subst hff
      have p6 := p5.kx k6 (fun h => by omega) (fun h => by omega)
      have both : Both w w6 S B c2 R RB c5 a6 lc6 (newSl z c) f3 := ⟨p6, r6, k5'.go k6 (fun b hb => .inr (by have := k3'.sz; omega)), ⟨by have := k2.sz; omega, by omega, by have := k3'.sz; omega, by have := k3'.sz; omega⟩, ⟨by omega, by omega, by omega, by omega⟩, fun h => by omega⟩
      refine both.tail fun w7 both7 => ?_
      clear both p6 r6 k6 p5 p3 k3 k5' k5 b5 row5 k3' b2 row2 k2 hf6 hf3
      refine ⟨fun b n w' m => ∃ (q : Nat) (a : Option Addr) (lc : Nat) (s : Sl) (f : Nat → Int), n = q ∧ q ≤ lL ∧ m = lL - q ∧ Both w w' S B c2 R RB c5 a lc s f, ⟨lL, 0, a6, lc6, _, f3, rfl, by omega, by omega, both7⟩, ?_⟩
      clear both7 hpb
      rintro b n w8 m ⟨i, a8, lc8, s, f, rfl, hi, rfl, L⟩
      have gc := L.p.good.count32
      refine Wif_intro (fun hlp => ?_) (fun hlp => fin_known L.fr)
      simp at hlp
      obtain ⟨ok, oj, ou, ob, obl, obc, of', op⟩ := ho i hlp
      have hwn : IntKind.wrap .i64 ((i : Int) + 1) = ((i + 1 : Nat) : Int) := by rw [wi (by omega)]; rfl
      rw [hwn]
      clear hwn
      have next : ∀ w' a lc s f, Both w w' S B c2 R RB c5 a lc s f → ∃ m, Nat.succ m ≤ lL - i ∧ ∃ (q : Nat) (a : Option Addr) (lc : Nat) (s : Sl) (f : Nat → Int), ((i + 1 : Nat) : Int) = q ∧ q ≤ lL ∧ m = lL - q ∧ Both w w' S B c2 R RB c5 a lc s f :=
        fun w' a lc s f L => ⟨lL - (i + 1), by omega, i + 1, a, lc, s, f, rfl, by omega, rfl, L⟩
      refine Wif_yes (hl (by omega)) (Wif_yes (inB_of (by omega) (by omega)) ⟨ok, oj, ou, ob, obl, obc, ⟨?_, ?_, ?_, ?_⟩, ?_⟩)
      · rw [Int.toNat_natCast]; exact L.fr.rd_some op.r0 id
      · rw [Int.toNat_natCast]; exact L.fr.rd_some op.r1 id
      · rw [Int.toNat_natCast]; exact L.fr.rd_some op.r2 id
      · rw [Int.toNat_natCast]; exact L.fr.rd_some op.r3 id
      intro x8 e8
      have p8 := own_alloc (c := [.int .i64 0, .int .i64 0, .int .u64 0, .slice none 0 0]) e8
      have k8 := (Kept.refl none' w8).al (c := #[.int .i64 0, .int .i64 0, .int .u64 0, .slice none 0 0]) e8
      refine ⟨⟨p8.wr (by simp), p8.wr (by simp), p8.wr (by simp), p8.wr (by simp)⟩, ?_⟩
      intro w9 e9
      generalize hx1 : Eng.st x8 w8.heap.size 0 (Value.int .i64 ok) = x1 at e9
      generalize hx2 : Eng.st x1 w8.heap.size 1 (Value.int .i64 oj) = x2 at e9
      generalize hx3 : Eng.st x2 w8.heap.size 2 (Value.int .u64 ou) = x3 at e9
      have p9 := (((p8.s1 hx1.symm).s1 hx2.symm).s1 hx3.symm).s1 e9
      have k9 := (((k8.s1 hx1.symm (.inr (Nat.le_refl _))).s1 hx2.symm (.inr (Nat.le_refl _))).s1 hx3.symm (.inr (Nat.le_refl _))).s1 e9 (.inr (Nat.le_refl _))
      have l8S := L.p.so.lt
      have l8B := L.p.by'.lt
      have l8R := L.r.so.lt
      have l8RB := L.r.by'.lt
      have hO : w.heap.size ≤ w8.heap.size := L.fr.sz
      replace L := L.k k9
      simp at p9
      clear hx1 hx2 hx3 e9 e8 p8 k8 k9
      generalize w8.heap.size = O at *
      have r0 : rd w9 O 0 = some (.int .i64 ok) := by rw [p9.rd]; rfl
      refine ⟨ok, r0, Wif_intro (fun c0 => ?_) (fun c0 => Wif_intro (fun c1 => ?_) (fun c1 => Wif_intro (fun c2' => ?_) (fun c2' => Wif_intro (fun c3 => ?_) (fun c3 => Wif_intro (fun c4 => ?_) (fun c4 => ?_)))))⟩
      · -- Take
        cases hcs : s.ch with
        | nil =>
          refine (take_none L.p hcs).mono ?_
          rintro _ w10 ⟨rfl, rfl⟩
          refine ⟨_, _, rfl, (rtake_none L.r hcs).mono ?_⟩
          rintro _ w11 ⟨rfl, rfl⟩
          exact ⟨_, _, rfl, Wif_no (by simp) (L.tail fun w' L => next w' _ _ _ _ L)⟩
        | cons y ys =>
          refine (take_some L.p hcs).mono ?_
          rintro _ w10 ⟨rfl, k10, p10⟩
          have r10 := (L.fst k10).1
          refine ⟨_, _, rfl, (rtake_some r10 hcs).mono ?_⟩
          rintro _ w11 ⟨rfl, k11, a11, lc11, r11, hpa⟩
          have L11 := L.snd k10 p10 k11 r11 (fun h => by rw [hpa] at h; have := L.ch h; rw [hcs] at this; cases this)
          exact ⟨_, _, rfl, Wif_no (by simp) (L11.tail fun w' L => next w' _ _ _ _ L)⟩
      · -- Give
        intro w10 e10
        have L10 := L.k ((Kept.refl _ _).dr e10)
        have p10 := p9.dr e10
        have q1 : rd w10 O 1 = some (.int .i64 oj) := by rw [p10.rd]; rfl
        have l10 : w9.heap.size = w10.heap.size := by rw [e10]; rfl
        refine ⟨_, q1, _, q1, ?_⟩
        by_cases hg : giveOf s oj = 0
        · obtain ⟨q', rfl, hqc, hqo, hqt⟩ := giveOf_zero hg
          refine (give_ok L10.p q' hqc hqo hqt).mono ?_
          rintro _ w11 ⟨rfl, k11, p11⟩
          refine ⟨_, rfl, ⟨k11.rd_some q1 (by rintro (h | h) <;> omega), trivial⟩, (rgive_ok (L10.fst k11).1 q' hqc hqo hqt).mono ?_⟩
          rintro _ w12 ⟨rfl, k12, a12, lc12, r12, hpa⟩
          have s11 := p11.so.lt
          have s11b := p11.by'.lt
          have L12 := L10.snd k11 p11 k12 r12 (fun h => by omega)
          exact ⟨_, rfl, Wif_no (by simp) (L12.tail fun w' L => next w' _ _ _ _ L)⟩
        · refine (give_no L10.p oj hg).mono ?_
          rintro _ w11 ⟨rfl, k11⟩
          have L11 := L10.k k11
          refine ⟨_, rfl, ⟨k11.rd_some q1 id, trivial⟩, (rgive_no L11.r oj hg).mono ?_⟩
          rintro _ w12 ⟨rfl, rfl⟩
          exact ⟨_, rfl, Wif_no (by simp) (L11.tail fun w' L => next w' _ _ _ _ L)⟩
      · -- Mark
        intro w10 e10
        have L10 := L.k ((Kept.refl _ _).dr e10)
        have p10 := p9.dr e10
        have q1 : rd w10 O 1 = some (.int .i64 oj) := by rw [p10.rd]; rfl
        have q2 : rd w10 O 2 = some (.int .u64 ou) := by rw [p10.rd]; rfl
        refine ⟨_, q1, _, q2, _, q1, _, q2, (mark_spec L10.p oj ou op.t64.1 op.t64.2).mono ?_⟩
        rintro _ w11 ⟨rfl, k11, p11⟩
        refine ⟨_, rfl, ⟨k11.rd_some q2 (by rintro (h | h) <;> omega), trivial⟩, ⟨k11.rd_some q1 (by rintro (h | h) <;> omega), trivial⟩, (rmark_spec (L10.fst k11).1 oj ou op.t64.1 op.t64.2).mono ?_⟩
        rintro _ w12 ⟨rfl, k12, r12⟩
        have L12 := L10.snd k11 p11 k12 r12 (fun h => by have := L10.ch h; split <;> exact this)
        exact ⟨_, rfl, Wif_no (by simp) (L12.tail fun w' L => next w' _ _ _ _ L)⟩
      · -- Clear
        intro w10 e10
        have L10 := L.k ((Kept.refl _ _).dr e10)
        have p10 := p9.dr e10
        have q1 : rd w10 O 1 = some (.int .i64 oj) := by rw [p10.rd]; rfl
        refine ⟨_, q1, _, q1, (clear_spec L10.p oj).mono ?_⟩
        rintro _ w11 ⟨rfl, k11, p11⟩
        refine ⟨_, rfl, ⟨k11.rd_some q1 (by rintro (h | h) <;> omega), trivial⟩, (rclear_spec (L10.fst k11).1 oj).mono ?_⟩
        rintro _ w12 ⟨rfl, k12, r12⟩
        have L12 := L10.snd k11 p11 k12 r12 (fun h => by have := L10.ch h; split <;> exact this)
        exact ⟨_, rfl, Wif_no (by simp) (L12.tail fun w' L => next w' _ _ _ _ L)⟩
      · -- bytes
        intro w10 e10
        have L10 := L.k ((Kept.refl _ _).dr e10)
        have p10 := p9.dr e10
        have q1 : rd w10 O 1 = some (.int .i64 oj) := by rw [p10.rd]; rfl
        simp only [isP_some, Wif_true, gIf_true, pb_some, po_some, Nat.zero_add, Nat.mul_one]
        refine ⟨_, q1, _, fun _ => q1, _, fun _ => L10.r.r3, _, fun _ => q1, ?_⟩
        by_cases hin : 0 ≤ oj ∧ oj < s.count ∧ s.out oj.toNat = true
        · obtain ⟨h0, h1, h2⟩ := hin
          obtain ⟨q, rfl⟩ := Int.eq_ofNat_of_zero_le h0
          rw [Int.toNat_natCast] at h2
          have hq : q < s.count := by omega
          have hfit := L10.p.good.fits hq
          refine gIf_intro (fun _ => inB_of (by omega) (by omega)) ⟨s.out q, fun _ => by rw [Int.toNat_natCast]; exact L10.r.ro (by omega), Wif_no (by rw [h2]; simp; omega) ?_⟩
          refine ⟨_, q1, (rat_spec L10.r q).mono ?_⟩
          rintro _ w11 ⟨rfl, k11⟩
          have L11 := L10.k k11
          have p11 := p10.k k11
          rw [atOf_nat hq]
          refine ⟨_, _, rfl, ?_⟩
          dsimp only
          refine ⟨fun n w' m => ∃ (t : Nat) (f : Nat → Int), n = t ∧ t ≤ obl ∧ m = obl - t ∧ t ≤ s.size ∧ Both w w' S B c2 R RB c5 a8 lc8 s f ∧ own w' O [.int .i64 ok, .int .i64 q, .int .u64 ou, .slice ob obl obc], ⟨obl, 0, f, rfl, by omega, by omega, by omega, L11, p11⟩, ?_⟩
          rintro n w12 m ⟨t, f12, rfl, ht, rfl, hts, L12, p12⟩
          have q3 : rd w12 O 3 = some (.slice ob obl obc) := by rw [p12.rd]; rfl
          have hobl : (obl : Int) ≤ 9223372036854775807 := by have := op.by'.le; have := op.by'.mx; unfold maxLen at this; omega
          have hpo : ∀ w', Kept none' w w' → ∀ j, j < obl → rd w' (pb ob) (po ob + j) = some (.int .u8 (of' j)) := fun w' k j hj => bkr op.by' k hj
          refine ⟨_, _, _, q3, Wif_intro (fun hlt => ?_) (fun hlt => L12.tail fun w' L => next w' _ _ _ _ L)⟩
          simp only [Bool.and_eq_true, decide_eq_true_eq] at hlt
          obtain ⟨hlt1, hlt2⟩ := hlt
          by_cases hbig : (s.colour + q * s.size : Nat) + (t : Int) ≤ 9223372036854775807
          · have hw0 : IntKind.wrap .i64 (((s.colour + q * s.size : Nat) : Int) + (t : Int)) = ((s.colour + q * s.size + t : Nat) : Int) := by rw [wi (by omega)]; rfl
            rw [hw0] at hlt2 ⊢
            have hin : s.colour + q * s.size + t < 256 := by omega
            refine ⟨_, _, _, q3, Wif_yes (op.by'.isp (by omega)) (Wif_yes (inB_of (by omega) (by omega)) ⟨_, by rw [Int.toNat_natCast]; exact hpo _ L12.fr t (by omega), Wif_yes (inB_of (by omega) (by omega)) ⟨by rw [Int.toNat_natCast]; exact L12.p.by'.wr hin, ?_⟩⟩)⟩
            intro w13 e13
            rw [Int.toNat_natCast] at e13
            intro w14 e14
            have kp : Kept (two S B) w12 w14 := ((Kept.refl _ _).s1 e13 (.inl (.inr rfl))).dr e14
            have hgd := L12.p.good.write (v := of' t) h2 (a := s.colour + q * s.size + t) (by omega) (by omega)
            have pr14 : At w14 S B c2 s (upd f12 (s.colour + q * s.size + t) (of' t)) := ⟨(L12.p.so.n1 e13 L12.p.ne).dr e14, (L12.p.by'.s1 e13).dr e14, L12.p.ne, L12.p.cap, hgd⟩
            obtain ⟨r14, k14⟩ := L12.fst kp
            have p14 := (p12.n1 e13 (by omega)).dr e14
            have q3' : rd w14 O 3 = some (.slice ob obl obc) := by rw [p14.rd]; rfl
            refine ⟨_, _, _, r14.r0, _, _, _, q3', Wif_yes (op.by'.isp (by omega)) (Wif_yes (inB_of (by omega) (by omega)) ⟨_, by rw [Int.toNat_natCast]; exact hpo _ k14 t (by omega), Wif_yes rfl (Wif_yes (inB_of (by omega) (by omega)) ⟨by rw [Int.toNat_natCast]; simp only [pb_some, po_some, Nat.zero_add]; exact r14.by'.wr hin, ?_⟩)⟩)⟩
            intro w15 e15
            simp only [pb_some, po_some, Nat.zero_add, Int.toNat_natCast] at e15
            have kr : Kept (two R RB) w14 w15 := (Kept.refl _ _).s1 e15 (.inl (.inr rfl))
            have kr' : Kept (· = RB) w14 w15 := (Kept.refl _ _).s1 e15 (.inl rfl)
            have r15 : RAt w15 R RB c5 a8 lc8 s (upd f12 (s.colour + q * s.size + t) (of' t)) := by
              have r15a := r14.as.kx kr' r14.ne r14.nB
              exact ⟨r15a.so, r14.by'.s1 e15, r15a.ch, r15a.le, r14.ne, r14.nR, r14.nB, r14.cap, hgd⟩
            have L15 := L12.snd kp pr14 kr r15 L12.ch
            refine ⟨obl - (t + 1), by omega, t + 1, _, ?_, by omega, rfl, by omega, L15, p14.n1 e15 (by omega)⟩
            rw [wi (by omega)]; rfl
          · exfalso
            omega
        · refine gIf_intro (fun hd => ?_) ⟨s.out oj.toNat, fun hd => ?_, Wif_yes ?_ (next _ _ _ _ _ L10)⟩
          · simp at hd; exact inB_of (by omega) (by omega)
          · simp at hd
            exact L10.r.ro (by omega)
          · simp
            by_cases h0 : 0 ≤ oj
            · by_cases h1 : oj < s.count
              · right
                cases ho : s.out oj.toNat with
                | false => rfl
                | true => exact absurd ⟨h0, h1, ho⟩ hin
              · left; right; omega
            · left; left; omega
      · exact L.tail fun w' L => next w' _ _ _ _ L
    · refine (new_no (w := w2) _ _ _ _ _ hm).mono ?_
      rintro _ w3 ⟨rfl, rfl⟩
      refine ⟨_, _, rfl, ?_⟩
      intro w4 e4
      obtain ⟨a5, c5, w5, ha5, row5, k5⟩ := copy_bytes e4 (bk hb k2) (by omega)
      refine ⟨a5, _, c5, w5, ha5, (rnew_no (w := w5) _ _ _ _ _ hm).mono ?_⟩
      rintro _ w6 ⟨rfl, rfl⟩
      have k6 := k2.tr k5
      refine ⟨_, _, rfl, Wif_no rfl (Wif_yes rfl ⟨_, fun _ => cnvS_src Try.underlying22 Try.underlying5 Try.underlying9 (f := fb) ?_, _, fun _ => cnvS_src Try.underlying22 Try.underlying5 Try.underlying9 (f := fb) (bsrc (bk hb k6)), Wif_yes (by simp) (fin_known k6)⟩)⟩
      exact (Src.of_row row2).k k5
  · rintro e w' ⟨v, rfl, rfl, h⟩
    exact ⟨rfl, h⟩
end Go.Proofs.Ytkancagfhbkhiaa
