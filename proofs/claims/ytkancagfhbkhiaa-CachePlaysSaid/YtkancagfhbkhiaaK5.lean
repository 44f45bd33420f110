/-
  A part of a proof that a law of this seat returns true at every input. Conditions: those in each theorem.
-/
import Derived.Test.YtkancagfhbkhiaaK4
import Derived.Test.YtkancagfhbkhiaaV4
namespace Go.Proofs.Ytkancagfhbkhiaa
open Go Eng
set_option linter.unusedSimpArgs false
set_option linter.unusedVariables false
set_option maxRecDepth 10000

theorem cnvS_bytes {w : World} {B n c : Nat} {f : Nat → Int} (h : Eng.bytes w B f) (hn : n ≤ 256) : cnvS Try.prog 22 9 (.slice (some ⟨B, 0, none⟩) n c) (strOf n f) w :=
  ⟨(cnv_bytes Try.underlying22 Try.underlying5 Try.underlying9 fun i hi => by rw [Nat.zero_add]; exact h.rd (by omega)).run⟩
section
variable {w : World} {R B bc lc : Nat} {a : Option Addr} {s : Sl} {f : Nat → Int}
theorem RAt.r0 (h : RAt w R B bc a lc s f) : rd w R 0 = some (.slice (some ⟨B, 0, none⟩) 256 bc) := (h.so.rd 0).trans (rraw_0 ..)
theorem RAt.r1 (h : RAt w R B bc a lc s f) : rd w R 1 = some (.int .i64 s.size) := (h.so.rd 1).trans (rraw_1 ..)
theorem RAt.r2 (h : RAt w R B bc a lc s f) : rd w R 2 = some (.int .i64 s.colour) := (h.so.rd 2).trans (rraw_2 ..)
end
theorem same_spec {w : World} {S B bc R RB rbc lc : Nat} {a : Option Addr} {s : Sl} {f : Nat → Int} (p : At w S B bc s f) (r : RAt w R RB rbc a lc s f) :
    Calls Try.prog 29 #[.pointer (some ⟨S, 0, none⟩), .pointer (some ⟨R, 0, none⟩), .slice (some ⟨B, 0, none⟩) 256 bc] w fun e w' => e = .returned (.bool true) ∧ Kept none' w w' := by
  refine (vc29 _ _ _ _ _ w (fun v w' => v = .bool true ∧ Kept none' w w') ?_).mono ?_
  · unfold vcP29
    simp only [isP_some, Wif_true, gIf_true, pb_some, po_some, Nat.zero_add, Nat.mul_one]
    have h32 := p.good.count32
    have hcl := p.good.chlen
    refine (chain_spec p).mono ?_
    rintro _ w1 ⟨ca, cc, rfl, row, k1⟩
    refine ⟨_, _, _, rfl, ?_⟩
    intro w2 e2
    have k2 := k1.dr e2
    have row2 : w2.ownsRow w.heap.size 3 1 (.slice ca s.ch.length cc) s.ch.length (ints s.ch) := by rw [e2]; exact row
    clear e2 row k1
    have p2 := p.k k2
    have r2 := r.k k2
    refine ⟨_, r2.r3, (count_spec p2).mono ?_⟩
    rintro _ w2 ⟨rfl, rfl⟩
    refine ⟨_, rfl, ⟨r2.r3, trivial⟩, _, fun _ => r2.r1, Wif_no (by simp) ((size_spec p2).mono ?_)⟩
    rintro _ w2 ⟨rfl, rfl⟩
    refine ⟨_, rfl, fun _ => ⟨r2.r1, trivial⟩, _, fun _ => r2.r2, Wif_no (by simp) ((colour_spec p2).mono ?_)⟩
    rintro _ w2 ⟨rfl, rfl⟩
    refine ⟨_, rfl, fun _ => ⟨r2.r2, trivial⟩, _, _, _, fun _ => r2.r4, Wif_no (by simp) ((free_spec p2).mono ?_)⟩
    rintro _ w2 ⟨rfl, rfl⟩
    refine ⟨_, rfl, fun _ => ⟨r2.r4, trivial⟩, _, _, _, fun _ => r2.r4, _, fun _ => cnvS_bytes p2.by' (Nat.le_refl _), _, _, _, fun _ => r2.r0, _, fun _ => cnvS_bytes r2.by' (Nat.le_refl _), Wif_no (by simp) ?_⟩
    have src := Src.of_row row2
    have hw2 : ∀ j, j < s.ch.length → wr w2 (pb ca) (po ca + j) := by
      intro j hj
      rcases (ownsRow_own row2).2 with ⟨_, h0, _⟩ | ⟨g, cs, rfl, hg, og, _, hlc, hcs⟩
      · omega
      · simp only [pb_some, po_some, Nat.zero_add]
        exact og.wr (o := j) (by rw [hcs]; omega)
    have hpb : 0 < s.ch.length → w.heap.size ≤ pb ca := by
      intro hl
      rcases (ownsRow_own row2).2 with ⟨_, h0, _⟩ | ⟨g, cs, rfl, hg, _⟩
      · omega
      · exact hg
    refine ⟨fun b n w' m => ∃ k : Nat, n = k ∧ k ≤ s.ch.length ∧ m = s.ch.length - k ∧ Kept none' w w' ∧ ∀ j, k ≤ j → j < s.ch.length → rd w' (pb ca) (po ca + j) = some (.int .i64 ((s.ch.getD j 0 : Nat) : Int)) ∧ wr w' (pb ca) (po ca + j),
      ⟨s.ch.length, 0, rfl, by omega, by omega, k2, fun j _ hj => ⟨src.rd (ints_get hj), hw2 j hj⟩⟩, ?_⟩
    rintro b n w3 m ⟨k, rfl, hk, rfl, k3, hr⟩
    refine Wif_intro (fun hkl => ?_) (fun hkl => ?_)
    · simp at hkl
      obtain ⟨h1, h2⟩ := hr k (Nat.le_refl _) hkl
      intro w4 e4
      have k4 := k3.dr e4
      have r4 := r.k k4
      have hx : rd w4 (pb ca) (po ca + k) = some (.int .i64 ((s.ch.getD k 0 : Nat) : Int)) := by rw [e4, rd_drew]; exact h1
      have hy : ∀ o, wr w3 (pb ca) o → wr w4 (pb ca) o := fun o h => by rw [e4, wr_drew]; exact h
      refine Wif_yes (src.isp (by simp; omega)) (Wif_yes (inB_of (by omega) (by omega)) ⟨_, by rw [Int.toNat_natCast]; exact hx, _, _, _, r4.r4, Wif_yes (r.ch.isp (by simp; omega)) (Wif_yes (inB_of (by omega) (by omega)) ⟨_, by rw [Int.toNat_natCast]; exact r4.ch.rd (ints_get hkl), Wif_no (by simp) (Wif_yes (src.isp (by simp; omega)) (Wif_yes (inB_of (by omega) (by omega)) ⟨by rw [Int.toNat_natCast]; exact hy _ h2, ?_⟩))⟩)⟩)
      intro w5 e5
      rw [Int.toNat_natCast] at e5
      refine ⟨s.ch.length - (k + 1), by omega, k + 1, by rw [wi (by omega)]; rfl, by omega, rfl, k4.s1 e5 (.inr (hpb (by omega))), fun j hj hjl => ?_⟩
      obtain ⟨h3, h4⟩ := hr j (by omega) hjl
      rw [e5]
      refine ⟨(rd_st_off (.inr (by omega))).trans ?_, wr_st_of (hy _ h4)⟩
      rw [e4, rd_drew]; exact h3
    · simp at hkl
      refine ⟨fun b n w' m => -1 ≤ n ∧ n ≤ s.count + 1 ∧ m = (s.count + 1 - n).toNat ∧ Kept none' w w', ⟨_, by omega, by omega, rfl, k3⟩, ?_⟩
      rintro b' n w4 m ⟨hn0, hn1, rfl, k4⟩
      have r4 := r.k k4
      refine ⟨_, r4.r3, Wif_intro (fun hnc => ?_) (fun hnc => ⟨trivial, k4⟩)⟩
      simp at hnc
      refine (live_spec (p.k k4) n).mono ?_
      rintro _ w5 ⟨rfl, k5⟩
      refine ⟨_, _, rfl, (rlive_spec (r.k (k4.tr k5)) n).mono ?_⟩
      rintro _ _ ⟨rfl, rfl⟩
      refine ⟨_, _, rfl, (at_spec (p.k (k4.tr k5)) n).mono ?_⟩
      rintro _ w6 ⟨rfl, k6⟩
      refine ⟨_, _, rfl, (rat_spec (r.k ((k4.tr k5).tr k6)) n).mono ?_⟩
      rintro _ w7 ⟨rfl, k7⟩
      refine ⟨_, _, rfl, Wif_no (by simp) ⟨(s.count + 1 - (n + 1)).toNat, by omega, ?_⟩⟩
      rw [wi (by omega)]
      exact ⟨by omega, by omega, rfl, ((k4.tr k5).tr k6).tr k7⟩
  · rintro e w' ⟨v, rfl, rfl, h⟩
    exact ⟨rfl, h⟩
end Go.Proofs.Ytkancagfhbkhiaa
