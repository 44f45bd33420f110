/-
  A part of a proof that a law of this seat returns true at every input. Conditions: those in each theorem.
-/
import Derived.Test.YtkancagfhbkhiaaK2
namespace Go.Proofs.Ytkancagfhbkhiaa
open Go Eng
set_option linter.unusedSimpArgs false
set_option linter.unusedVariables false
set_option maxRecDepth 10000

theorem pb_offA (a : Option Addr) (c i n : Nat) : pb (offA a c i n) = pb a := by
  unfold offA
  split
  · rfl
  · cases a with
    | none => rfl
    | some x =>
      show (x.add _).block = x.block
      unfold Addr.add
      split <;> first | rfl | (split <;> rfl)
theorem blanked_0 (f : Nat → Int) (a : Nat) : blanked f a 0 = f := by
  funext j
  unfold blanked
  rw [if_neg (by omega)]
theorem blanked_succ (f : Nat → Int) (a k : Nat) : upd (blanked f a k) (a + k) 0 = blanked f a (k + 1) := by
  funext j
  by_cases h : j = a + k
  · subst h
    rw [upd_same]
    unfold blanked
    rw [if_pos (by omega)]
  · rw [upd_ne _ _ h]
    unfold blanked
    by_cases h2 : a ≤ j ∧ j < a + k
    · rw [if_pos h2, if_pos (by omega)]
    · rw [if_neg h2, if_neg (by omega)]
theorem Src.empty {w w1 : World} {a : Option Addr} {c : Nat} (h : Src w a 0 c []) : Src w1 a 0 c [] := ⟨h.nil, fun hl => absurd hl (by simp)⟩
section
variable {w : World} {R B bc lc : Nat} {a : Option Addr} {s : Sl} {f : Nat → Int}
theorem RAt.r4 (h : RAt w R B bc a lc s f) : rd w R 4 = some (.slice a s.ch.length lc) := (h.so.rd 4).trans (rraw_4 ..)
theorem rtake_none (h : RAt w R B bc a lc s f) (e : s.ch = []) : Calls Try.prog 30 #[.pointer (some ⟨R, 0, none⟩)] w fun e w' => e = .returned (.tuple #[.int .i64 0, .int .i64 9]) ∧ w' = w := by
  refine (vc30 _ w (fun v w' => v = .tuple #[.int .i64 0, .int .i64 9] ∧ w' = w) ?_).mono ?_
  · unfold vcP30
    simp only [isP_some, Wif_true, pb_some, po_some, Nat.zero_add, Nat.mul_one]
    exact ⟨_, _, _, h.r4, Wif_yes (by rw [e]; rfl) (by constructor <;> first | rfl | trivial)⟩
  · rintro e w' ⟨v, rfl, rfl, h⟩
    exact ⟨rfl, h⟩
theorem rtake_some (h : RAt w R B bc a lc s f) {i : Nat} {l : List Nat} (e : s.ch = i :: l) : Calls Try.prog 30 #[.pointer (some ⟨R, 0, none⟩)] w fun e w' =>
    e = .returned (.tuple #[.int .i64 i, .int .i64 0]) ∧ Kept (two R B) w w' ∧ ∃ a' lc', RAt w' R B bc a' lc' (took s i l) (blanked f (s.colour + i * s.size) s.size) ∧ pb a' = pb a := by
  refine (vc30 _ w (fun v w' => v = .tuple #[.int .i64 i, .int .i64 0] ∧ Kept (two R B) w w' ∧ ∃ a' lc', RAt w' R B bc a' lc' (took s i l) (blanked f (s.colour + i * s.size) s.size) ∧ pb a' = pb a) ?_).mono ?_
  · unfold vcP30
    simp only [isP_some, Wif_true, pb_some, po_some, Nat.zero_add, Nat.mul_one]
    have h8 := h.good.s8
    have h128 := h.good.s128
    have h32 := h.good.count32
    have hi : i < s.count := h.good.lt i (by rw [e]; simp)
    have hf := h.good.fits hi
    have hlen : s.ch.length = l.length + 1 := by rw [e]; simp
    have hle := h.le
    have hne : s.ch ≠ [] := by rw [e]; simp
    have hnR : pb a ≠ R := fun x => hne (h.nR x)
    have hnB : pb a ≠ B := fun x => hne (h.nB x)
    have h0 : rd w (pb a) (po a) = some (.int .i64 i) := by
      have := h.ch.rd (j := 0) (u := .int .i64 i) (by rw [e]; rfl)
      exact this
    refine ⟨_, _, _, h.r4, Wif_no (by simp [hne]) ⟨_, _, _, h.r4, Wif_yes (h.ch.isp (by simp; omega)) (Wif_yes (inB_of (by omega) (by omega)) ⟨_, h0, _, _, _, h.r4, Wif_yes (okSl_of (by omega) (by omega) (by omega)) ⟨h.so.wr (by rw [rraw_len]; simp), ?_⟩⟩)⟩⟩
    intro w1 e1
    have o1 := h.so.s1 e1
    rw [rraw_set4] at o1
    refine Wif_yes (inB_of (by omega) (by omega)) ⟨o1.wr (by rw [rraw_len, Int.toNat_natCast]; omega), ?_⟩
    intro w2 e2
    rw [Int.toNat_natCast] at e2
    have o2 := o1.s1 e2
    rw [rraw_set_out _ _ _ _ _ _ _ _ _ _ (by omega)] at o2
    have k2 : Kept (two R B) w w2 := ((Kept.refl _ _).s1 e1 (.inl (.inl rfl))).s1 e2 (.inl (.inl rfl))
    have b2 := (h.by'.n1 e1 (Ne.symm h.ne)).n1 e2 (Ne.symm h.ne)
    have hm : ((i * s.size : Nat) : Int) = (i : Int) * (s.size : Int) := Int.natCast_mul _ _
    refine ⟨fun n w' m => ∃ k : Nat, n = k ∧ k ≤ s.size ∧ m = s.size - k ∧ Kept (two R B) w w' ∧ own w' R (rraw B bc s.size s.colour s.count (offA a lc 1 1) (s.ch.length - 1) (lc - 1) (upd s.out i true) s.turn) ∧ Eng.bytes w' B (blanked f (s.colour + i * s.size) k),
      ⟨s.size, 0, rfl, by omega, by omega, k2, o2, by rw [blanked_0]; exact b2⟩, ?_⟩
    rintro n w3 m ⟨k, rfl, hk, rfl, k3, o3, b3⟩
    refine ⟨_, (o3.rd 1).trans (rraw_1 ..), Wif_intro (fun hks => ?_) (fun hks => ?_)⟩
    · simp at hks
      intro w4 e4
      have o4 := o3.dr e4
      have b4 := b3.dr e4
      have k4 := k3.dr e4
      have hw : IntKind.wrap .i64 (IntKind.wrap .i64 ((s.colour : Int) + IntKind.wrap .i64 ((i : Int) * (s.size : Int))) + (k : Int)) = ((s.colour + i * s.size + k : Nat) : Int) := by
        rw [← hm, wi (x := ((i * s.size : Nat) : Int)) (by omega), wi (x := (s.colour : Int) + ((i * s.size : Nat) : Int)) (by omega), wi (by omega)]; rfl
      refine ⟨_, _, _, (o4.rd 0).trans (rraw_0 ..), _, (o4.rd 2).trans (rraw_2 ..), _, (o4.rd 1).trans (rraw_1 ..), Wif_yes rfl ?_⟩
      rw [hw]
      refine Wif_yes (inB_of (by omega) (by omega)) ⟨?_, ?_⟩
      · simp only [pb_some, po_some, Int.toNat_natCast, Nat.zero_add]
        exact b4.wr (by omega)
      intro w5 e5
      simp only [pb_some, po_some, Int.toNat_natCast, Nat.zero_add] at e5
      have b5 := b4.s1 e5
      rw [blanked_succ] at b5
      exact ⟨s.size - (k + 1), by omega, k + 1, by rw [wi (by omega)]; rfl, by omega, rfl, k4.s1 e5 (.inl (.inr rfl)), o4.n1 e5 h.ne, b5⟩
    · simp at hks
      have : k = s.size := by omega
      subst this
      have hp := (h.ch.part 1 1 (s.ch.length - 1) (by omega) h.le (by omega)).kx k3 (fun b hb hX => by rw [pb_offA]; rcases hX with rfl | rfl <;> assumption)
      have hxs : ((ints s.ch).drop (1 * 1)).take ((s.ch.length - 1) * 1) = ints l := by
        rw [e, List.length_cons, Nat.add_sub_cancel, Nat.mul_one]
        exact List.take_of_length_le (by simp [ints])
      rw [hxs] at hp
      have hl1 : s.ch.length - 1 = l.length := by omega
      rw [hl1] at hp o3
      exact ⟨rfl, k3, offA a lc 1 1, lc - 1, ⟨o3, b3, hp, by show l.length ≤ lc - 1; omega, h.ne, fun x => absurd (by rw [← pb_offA a lc 1 1]; exact x) hnR, fun x => absurd (by rw [← pb_offA a lc 1 1]; exact x) hnB, h.cap, h.good.took e⟩, pb_offA _ _ _ _⟩
  · rintro e w' ⟨v, rfl, rfl, h⟩
    exact ⟨rfl, h⟩
theorem info3 : ∃ i, Try.prog.info? 3 = some i ∧ i.zero = some (.int .i64 0) ∧ i.size = 1 ∧ i.bytes ≤ 1000000 := by
  have h := info_int
  cases hi : Try.prog.info? 3 with
  | none => rw [hi] at h; cases h
  | some i =>
    rw [hi] at h
    simp at h
    exact ⟨i, rfl, h.1, h.2.1, by omega⟩
theorem one_cell_ints (l : List Nat) : ∀ u ∈ ints l, u.oneCell' = true := fun u hu => by
  obtain ⟨k, _, rfl⟩ := List.mem_map.1 hu; rfl
/-- append of numbers -/
theorem app_ints {w : World} {base : Nat} {da : Option Addr} {dl dc : Nat} {xs : List Value} (ho : w.ownsRow base 3 1 (.slice da dl dc) dl xs) {a : Option Addr} {l c : Nat} {news : List Nat} (hs : Src w a l c (ints news)) (hl : news.length = l)
    (h63 : dl + l ≤ 1000000) (hbase : base ≤ w.heap.size) :
    ∃ a' c' w', appIs Try.prog #[33, 33] 33 (.slice da dl dc) (.slice a l c) (.slice a' (dl + l) c') w w' ∧ w'.ownsRow base 3 1 (.slice a' (dl + l) c') (dl + l) (xs ++ ints news) ∧ Kept (fun b => (Value.slice da dl dc).ownBlock = some b) w w' := by
  obtain ⟨i, hi, hz, hsz, hby⟩ := info3
  exact app (t := 33) (ty := 33) Try.underlying33 hi hz hsz rfl (by decide) ho hs (by rw [List.length_map, hl, Nat.mul_one]) (one_cell_ints _) h63 hby hbase
/-- one number, laid into a block of its own -/
theorem one_row {w w1 : World} {v : Value} {t : TypeId} (e : w1 = w.alloc (.cells #[v] t)) : w1.ownsRow w.heap.size t 1 (.slice (some ⟨w.heap.size, 0, none⟩) 1 1) 1 [v] :=
  ⟨by simp, .inr ⟨w.heap.size, 1, #[v], rfl, Nat.le_refl _, by rw [e]; simp only [World.alloc, Array.getElem?_push, if_true], Nat.le_refl _, by decide, rfl, rfl⟩⟩
theorem one_src {w w1 : World} {v : Value} {t : TypeId} (e : w1 = w.alloc (.cells #[v] t)) : Src w1 (some ⟨w.heap.size, 0, none⟩) 1 1 [v] :=
  Src.of_row (one_row e)
theorem rgive_no (h : RAt w R B bc a lc s f) (i : Int) (hn : giveOf s i ≠ 0) : Calls Try.prog 31 #[.pointer (some ⟨R, 0, none⟩), .int .i64 i] w fun e w' => e = .returned (.int .i64 (giveOf s i)) ∧ w' = w := by
  refine (vc31 _ i w (fun v w' => v = .int .i64 (giveOf s i) ∧ w' = w) ?_).mono ?_
  · unfold vcP31
    simp only [isP_some, Wif_true, gIf_true, pb_some, po_some, Nat.zero_add, Nat.mul_one]
    refine ⟨_, fun _ => h.r3, Wif_intro (fun hi => ?_) (fun hi => ?_)⟩
    · simp at hi
      have : giveOf s i = 2 := by unfold giveOf; rw [if_neg (by omega)]
      rw [this]
      exact ⟨rfl, trivial⟩
    · simp at hi
      obtain ⟨k, rfl⟩ := Int.eq_ofNat_of_zero_le hi.1
      have h32 := h.good.count32
      have hk : k < 32 := by omega
      have hg : giveOf s (k : Int) = if s.out k = true then (if s.turn k = 0 then 0 else 80) else 8 := by
        unfold giveOf
        rw [if_pos (by omega), Int.toNat_natCast]
      refine Wif_yes (inB_of (by omega) (by omega)) ⟨_, by rw [Int.toNat_natCast]; exact h.ro hk, Wif_intro (fun ho => ?_) (fun ho => ?_)⟩
      · simp at ho
        rw [hg, ho]
        exact ⟨rfl, trivial⟩
      simp at ho
      refine Wif_yes (inB_of (by omega) (by omega)) ⟨_, by rw [Int.toNat_natCast]; exact h.rt hk, Wif_intro (fun hu => ?_) (fun hu => ?_)⟩
      · simp at hu
        rw [hg, ho, if_pos rfl, if_neg hu]
        exact ⟨rfl, trivial⟩
      · simp at hu
        rw [hg, ho, if_pos rfl, if_pos hu] at hn
        exact absurd rfl hn
  · rintro e w' ⟨v, rfl, rfl, h⟩
    exact ⟨rfl, h⟩
theorem rgive_ok (h : RAt w R B bc a lc s f) (k : Nat) (hk : k < s.count) (ho : s.out k = true) (ht : s.turn k = 0) : Calls Try.prog 31 #[.pointer (some ⟨R, 0, none⟩), .int .i64 k] w fun e w' =>
    e = .returned (.int .i64 0) ∧ Kept (two R B) w w' ∧ ∃ a' lc', RAt w' R B bc a' lc' (gave s k) (upd f (s.colour + k * s.size) (fst s.ch)) ∧ w.heap.size ≤ pb a' := by
  refine (vc31 _ k w (fun v w' => v = .int .i64 0 ∧ Kept (two R B) w w' ∧ ∃ a' lc', RAt w' R B bc a' lc' (gave s k) (upd f (s.colour + k * s.size) (fst s.ch)) ∧ w.heap.size ≤ pb a') ?_).mono ?_
  · unfold vcP31
    simp only [isP_some, Wif_true, gIf_true, pb_some, po_some, Nat.zero_add, Nat.mul_one]
    have h32 := h.good.count32
    have hg := h.good.gave ho ht
    have hcl := h.good.chlen
    have hRl := h.so.lt
    have hBl := h.by'.lt
    refine ⟨_, fun _ => h.r3, Wif_no (by simp; omega) (Wif_yes (inB_of (by omega) (by omega)) ⟨_, by rw [Int.toNat_natCast]; exact h.ro (by omega), Wif_no (by simp [ho]) (Wif_yes (inB_of (by omega) (by omega)) ⟨_, by rw [Int.toNat_natCast]; exact h.rt (by omega), Wif_no (by simp [ht])
      (Wif_yes (inB_of (by omega) (by omega)) ⟨h.so.wr (by rw [rraw_len, Int.toNat_natCast]; omega), ?_⟩)⟩)⟩)⟩
    intro w1 e1
    rw [Int.toNat_natCast] at e1
    have o1 := h.so.s1 e1
    rw [rraw_set_out _ _ _ _ _ _ _ _ _ _ (by omega)] at o1
    have b1 := h.by'.n1 e1 (Ne.symm h.ne)
    have k1 : Kept (· = R) w w1 := (Kept.refl _ _).s1 e1 (.inl rfl)
    have hz1 : w1.heap.size = w.heap.size := by rw [e1]; simp
    intro w2 e2
    have o2 := o1.al e2
    have b2 := b1.al e2
    have k2 : Kept (· = R) w w2 := k1.al (c := #[.int .i64 (k : Int)]) e2
    have row := one_row e2
    have sc : Src w2 a s.ch.length lc (ints s.ch) := by
      by_cases e : s.ch = []
      · have h1 := h.ch
        rw [e] at h1 ⊢
        exact Src.empty h1
      · exact h.ch.kx k2 fun b hb hX e' => e (h.nR (by rw [e']; exact hX))
    have hs2 : w2.heap.size = w1.heap.size + 1 := by rw [e2]; simp
    obtain ⟨a', c', w3, ha, row3, k3⟩ := app_ints row sc rfl (by omega) (by omega)
    have hX : ∀ b, (Value.slice (some ⟨w1.heap.size, 0, none⟩) 1 1).ownBlock = some b → b = w1.heap.size := fun b hb => (ownBlock_slice hb).symm
    have o3 := o2.kx k3 (fun x => by have := hX _ x; omega)
    have b3 := b2.kx k3 (fun x => by have := hX _ x; omega)
    have k13 : Kept (· = R) w w3 := k2.go k3 (fun b hb => .inr (by have := hX _ hb; omega))
    refine ⟨_, _, _, (o2.rd 4).trans (rraw_4 ..), a', _, c', w3, ha, o3.wr (by rw [rraw_len]; simp), ?_⟩
    intro w4 e4
    have o4 := o3.s1 e4
    rw [rraw_set4] at o4
    have b4 := b3.n1 e4 (Ne.symm h.ne)
    have k4 : Kept (· = R) w w4 := k13.s1 e4 (.inl rfl)
    have k34 : Kept (· = R) w3 w4 := (Kept.refl _ _).s1 e4 (.inl rfl)
    obtain ⟨hl5, hle5⟩ := row_len row3
    have hpb : w1.heap.size ≤ pb a' := by
      rcases (ownsRow_own row3).2 with ⟨_, h0, _⟩ | ⟨g, cs, rfl, hg, _⟩
      · omega
      · exact hg
    have hcons : ([Value.int .i64 (k : Int)] ++ ints s.ch) = ints (k :: s.ch) := rfl
    rw [hcons] at row3
    have hll : 1 + s.ch.length = (k :: s.ch).length := by simp; omega
    rw [hll] at row3 o4 hle5
    have sc4 : Src w4 a' (k :: s.ch).length c' (ints (k :: s.ch)) := (Src.of_row row3).kx k34 (fun b hb hX e' => by omega)
    have ras : RAs w4 R B bc a' c' (gave s k) := ⟨o4, sc4, hle5, h.ne, fun x => by omega, fun x => by omega⟩
    have hz := h.good.s8
    refine (write_spec ras b4 (fun i hi => ?_) (fun i hi => ?_) h.good.s128 ?_ ?_).mono ?_
    · have := hg.fits (hg.lt i hi)
      show s.colour + i * s.size < 256
      have hz' : 8 ≤ s.size := hz
      have : s.colour + i * s.size + s.size ≤ 256 := this
      omega
    · have := hg.lt i hi
      have : i < s.count := this
      omega
    · show s.colour ≤ 128
      have h2 : 256 % s.size < s.size := Nat.mod_lt _ (by omega)
      have h3 := h.good.col
      have h4 := h.good.s128
      omega
    · have := hg.chlen
      have : (gave s k).ch.length ≤ s.count := this
      omega
    rintro _ w5 ⟨rfl, k5, as5, b5⟩
    refine ⟨rfl, trivial, (k4.weak (fun b hb => .inl (.inl hb))).go k5 (fun b hb => .inl (.inr hb)), a', c', ⟨as5.so, ?_, as5.ch, as5.le, h.ne, as5.nR, as5.nB, h.cap, hg⟩, by omega⟩
    have : wrote (gave s k).colour (gave s k).size (gave s k).ch f (gave s k).ch.length = upd f (s.colour + k * s.size) (fst s.ch) := wrote_gave (by show 0 < s.size; omega) hg.nd h.good.link
    rw [this] at b5
    exact b5
  · rintro e w' ⟨v, rfl, rfl, h⟩
    exact ⟨rfl, h⟩
end
end Go.Proofs.Ytkancagfhbkhiaa
