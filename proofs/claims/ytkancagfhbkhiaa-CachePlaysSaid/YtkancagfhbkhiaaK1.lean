/-
  A part of a proof that a law of this seat returns true at every input. Conditions: those in each theorem.
-/
import Derived.Test.YtkancagfhbkhiaaV3
import Derived.Test.YtkancagfhbkhiaaC5
import Derived.Test.YtkancagfhbkhiaaC8
import Derived.Test.YtkancagfhbkhiaaEngN
namespace Go.Proofs.Ytkancagfhbkhiaa
open Go Eng
set_option linter.unusedSimpArgs false
set_option linter.unusedVariables false
set_option maxRecDepth 10000

/-! ### the document's slab -/
def rraw (B bc : Nat) (z c n : Int) (a : Option Addr) (l lc : Nat) (out : Nat → Bool) (turn : Nat → Int) : List Value :=
  .slice (some ⟨B, 0, none⟩) 256 bc :: .int .i64 z :: .int .i64 c :: .int .i64 n :: .slice a l lc ::
    ((List.range 32).map (fun i => Value.bool (out i)) ++ (List.range 32).map fun i => Value.int .u64 (turn i))
section
variable (B bc : Nat) (z c n : Int) (a : Option Addr) (l lc : Nat) (out : Nat → Bool) (turn : Nat → Int)
theorem rraw_len : (rraw B bc z c n a l lc out turn).length = 69 := by simp [rraw]
theorem rraw_0 : (rraw B bc z c n a l lc out turn)[0]? = some (.slice (some ⟨B, 0, none⟩) 256 bc) := rfl
theorem rraw_1 : (rraw B bc z c n a l lc out turn)[1]? = some (.int .i64 z) := rfl
theorem rraw_2 : (rraw B bc z c n a l lc out turn)[2]? = some (.int .i64 c) := rfl
theorem rraw_3 : (rraw B bc z c n a l lc out turn)[3]? = some (.int .i64 n) := rfl
theorem rraw_4 : (rraw B bc z c n a l lc out turn)[4]? = some (.slice a l lc) := rfl
theorem rraw_out {i : Nat} (h : i < 32) : (rraw B bc z c n a l lc out turn)[5 + i]? = some (.bool (out i)) := by
  rw [Nat.add_comm]
  simp only [rraw, List.getElem?_cons_succ]
  rw [List.getElem?_append_left (by simpa using h)]
  simp [h]
theorem rraw_turn {i : Nat} (h : i < 32) : (rraw B bc z c n a l lc out turn)[37 + i]? = some (.int .u64 (turn i)) := by
  rw [show 37 + i = (32 + i) + 5 by omega]
  simp only [rraw, List.getElem?_cons_succ]
  rw [List.getElem?_append_right (by simp)]
  simp [h]
theorem rraw_set4 (b : Option Addr) (k kc : Nat) : (rraw B bc z c n a l lc out turn).set 4 (.slice b k kc) = rraw B bc z c n b k kc out turn := rfl
theorem rraw_set_out {i : Nat} (h : i < 32) (x : Bool) : (rraw B bc z c n a l lc out turn).set (5 + i) (.bool x) = rraw B bc z c n a l lc (upd out i x) turn := by
  rw [Nat.add_comm]
  simp only [rraw, List.set_cons_succ]
  rw [List.set_append_left _ _ (by simpa using h), map_set _ (fun _ _ => fun _ => .bool x)]
  rw [upd_map Value.bool]
theorem rraw_set_turn {i : Nat} (h : i < 32) (x : Int) : (rraw B bc z c n a l lc out turn).set (37 + i) (.int .u64 x) = rraw B bc z c n a l lc out (upd turn i x) := by
  rw [show 37 + i = (32 + i) + 5 by omega]
  simp only [rraw, List.set_cons_succ]
  rw [List.set_append_right _ _ (by simp), map_set _ (fun _ _ => fun _ => .bool true)]
  rw [upd_map (Value.int .u64)]
  simp
end
abbrev ints (l : List Nat) : List Value := l.map fun x : Nat => Value.int .i64 (x : Int)
/-- in this world, at R, the document's slab stands; its chain lies at a -/
structure RAt (w : World) (R B bc : Nat) (a : Option Addr) (lc : Nat) (s : Sl) (f : Nat → Int) : Prop where
  so : own w R (rraw B bc s.size s.colour s.count a s.ch.length lc s.out s.turn)
  by' : Eng.bytes w B f
  ch : Src w a s.ch.length lc (ints s.ch)
  le : s.ch.length ≤ lc
  ne : R ≠ B
  nR : pb a = R → s.ch = []
  nB : pb a = B → s.ch = []
  cap : 256 ≤ bc
  good : Good s f
theorem RAt.kx {X : Nat → Prop} {w w1 : World} {R B bc lc : Nat} {a : Option Addr} {s : Sl} {f : Nat → Int} (h : RAt w R B bc a lc s f) (k : Kept X w w1) (hr : ¬ X R) (hb : ¬ X B) (ha : X (pb a) → s.ch = []) : RAt w1 R B bc a lc s f := by
  refine ⟨h.so.kx k hr, h.by'.kx k hb, ?_, h.le, h.ne, h.nR, h.nB, h.cap, h.good⟩
  by_cases e : s.ch = []
  · have h1 := h.ch
    rw [e] at h1 ⊢
    exact ⟨h1.nil, fun hl => absurd hl (by simp)⟩
  · exact h.ch.kx k fun b hb hX e' => e (ha (by rw [e']; exact hX))
theorem RAt.k {w w1 : World} {R B bc lc : Nat} {a : Option Addr} {s : Sl} {f : Nat → Int} (h : RAt w R B bc a lc s f) (k : Kept none' w w1) : RAt w1 R B bc a lc s f := h.kx k id id (fun h => h.elim)
/-- what is held but for the chain's bytes: what 'write' begins with -/
structure RAs (w : World) (R B bc : Nat) (a : Option Addr) (lc : Nat) (s : Sl) : Prop where
  so : own w R (rraw B bc s.size s.colour s.count a s.ch.length lc s.out s.turn)
  ch : Src w a s.ch.length lc (ints s.ch)
  le : s.ch.length ≤ lc
  ne : R ≠ B
  nR : pb a = R → s.ch = []
  nB : pb a = B → s.ch = []
theorem RAt.as {w : World} {R B bc lc : Nat} {a : Option Addr} {s : Sl} {f : Nat → Int} (h : RAt w R B bc a lc s f) : RAs w R B bc a lc s := ⟨h.so, h.ch, h.le, h.ne, h.nR, h.nB⟩
theorem RAs.kx {X : Nat → Prop} {w w1 : World} {R B bc lc : Nat} {a : Option Addr} {s : Sl} (h : RAs w R B bc a lc s) (k : Kept X w w1) (hr : ¬ X R) (ha : X (pb a) → s.ch = []) : RAs w1 R B bc a lc s := by
  refine ⟨h.so.kx k hr, ?_, h.le, h.ne, h.nR, h.nB⟩
  by_cases e : s.ch = []
  · have h1 := h.ch
    rw [e] at h1 ⊢
    exact ⟨h1.nil, fun hl => absurd hl (by simp)⟩
  · exact h.ch.kx k fun b hb hX e' => e (ha (by rw [e']; exact hX))
/-- the bytes behind 'write', the first k done -/
def wrote (c z : Nat) (ch : List Nat) (f : Nat → Int) : Nat → (Nat → Int)
  | 0 => f
  | k + 1 => upd (wrote c z ch f k) (c + ch.getD k 0 * z) (fst (ch.drop (k + 1)))
theorem fst_drop (l : List Nat) (k : Nat) : fst (l.drop k) = if k < l.length then ((l.getD k 0 : Nat) : Int) else 255 := by
  by_cases h : k < l.length
  · rw [List.drop_eq_getElem_cons h, if_pos h]
    simp [fst, List.getD, h]
  · rw [List.drop_eq_nil_of_le (by omega), if_neg h]
    rfl
theorem ints_get {l : List Nat} {k : Nat} (h : k < l.length) : (ints l)[k]? = some (.int .i64 ((l.getD k 0 : Nat) : Int)) := by
  simp [ints, List.getD, h]
theorem write_spec {w : World} {R B bc lc : Nat} {a : Option Addr} {s : Sl} {f : Nat → Int} (h : RAs w R B bc a lc s) (hb : Eng.bytes w B f) (hlt : ∀ i ∈ s.ch, s.colour + i * s.size < 256) (h32 : ∀ i ∈ s.ch, i < 32) (hz : s.size ≤ 128) (hc : s.colour ≤ 128) (hl : s.ch.length ≤ 32) :
    Calls Try.prog 57 #[.pointer (some ⟨R, 0, none⟩)] w fun e w' => e = .returned (.tuple #[]) ∧ Kept (· = B) w w' ∧ RAs w' R B bc a lc s ∧ Eng.bytes w' B (wrote s.colour s.size s.ch f s.ch.length) := by
  refine (vc57 _ w (fun v w' => v = .tuple #[] ∧ Kept (· = B) w w' ∧ RAs w' R B bc a lc s ∧ Eng.bytes w' B (wrote s.colour s.size s.ch f s.ch.length)) ?_).mono ?_
  · unfold vcP57
    refine ⟨fun n w' m => ∃ k : Nat, n = k ∧ k ≤ s.ch.length ∧ m = s.ch.length - k ∧ Kept (· = B) w w' ∧ RAs w' R B bc a lc s ∧ Eng.bytes w' B (wrote s.colour s.size s.ch f k), ⟨s.ch.length, 0, rfl, by omega, by omega, Kept.refl _ _, h, hb⟩, ?_⟩
    rintro n w1 m ⟨k, rfl, hk, rfl, k1, h1, b1⟩
    simp only [isP_some, Wif_true, pb_some, po_some, Nat.zero_add, Nat.mul_one]
    refine ⟨_, _, _, (h1.so.rd 4).trans (rraw_4 ..), Wif_intro (fun hkl => ?_) (fun hkl => ?_)⟩
    · simp at hkl
      have hm : s.ch.getD k 0 ∈ s.ch := by
        have : s.ch.getD k 0 = s.ch[k] := by simp [List.getD, hkl]
        rw [this]; exact List.getElem_mem _
      have hx := hlt _ hm
      have hx3 := h32 _ hm
      have hne : s.ch ≠ [] := fun e => by rw [e] at hkl; exact absurd hkl (by simp)
      have hw : IntKind.wrap .i64 ((k : Int) + 1) = ((k + 1 : Nat) : Int) := by rw [wi (by omega)]; rfl
      have hmm : ((s.ch.getD k 0 * s.size : Nat) : Int) = ((s.ch.getD k 0 : Nat) : Int) * (s.size : Int) := Int.natCast_mul _ _
      have hw2 : IntKind.wrap .i64 ((s.colour : Int) + IntKind.wrap .i64 (((s.ch.getD k 0 : Nat) : Int) * (s.size : Int))) = ((s.colour + s.ch.getD k 0 * s.size : Nat) : Int) := by
        rw [← hmm, wi (x := ((s.ch.getD k 0 * s.size : Nat) : Int)) (by omega), wi (by omega)]; rfl
      have fin : ∀ w2, w2 = World.drew w1 → ∀ w3, w3 = st w2 B (s.colour + s.ch.getD k 0 * s.size) (.int .u8 (fst (s.ch.drop (k + 1)))) →
          ∃ m, Nat.succ m ≤ s.ch.length - k ∧ ∃ k_1 : Nat, ((k + 1 : Nat) : Int) = k_1 ∧ k_1 ≤ s.ch.length ∧ m = s.ch.length - k_1 ∧ Kept (· = B) w w3 ∧ RAs w3 R B bc a lc s ∧ Eng.bytes w3 B (wrote s.colour s.size s.ch f k_1) := by
        intro w2 e2 w3 e3
        have kk : Kept (· = B) w1 w3 := ((Kept.refl _ _).dr e2).s1 e3 (.inl rfl)
        refine ⟨s.ch.length - (k + 1), by omega, k + 1, rfl, by omega, rfl, k1.go kk (fun b hb => .inl hb), h1.kx kk h.ne h.nB, (b1.dr e2).s1 e3⟩
      refine ⟨_, _, _, (h1.so.rd 4).trans (rraw_4 ..), ?_⟩
      rw [hw]
      refine Wif_intro (fun hk2 => ?_) (fun hk2 => ?_)
      · simp only [decide_eq_true_eq] at hk2
        have hk3 : k + 1 < s.ch.length := by omega
        have hm2 : s.ch.getD (k + 1) 0 ∈ s.ch := by
          have : s.ch.getD (k + 1) 0 = s.ch[k + 1] := by simp [List.getD, hk3]
          rw [this]; exact List.getElem_mem _
        have hx2 := h32 _ hm2
        have hf : fst (s.ch.drop (k + 1)) = ((s.ch.getD (k + 1) 0 : Nat) : Int) := by rw [fst_drop, if_pos hk3]
        refine ⟨_, _, _, (h1.so.rd 4).trans (rraw_4 ..), Wif_yes (h1.ch.isp (by simp; omega)) (Wif_yes (inB_of (by omega) (by omega)) ⟨((s.ch.getD (k + 1) 0 : Nat) : Int), (by rw [Int.toNat_natCast]; exact h1.ch.rd (ints_get hk3)), ?_⟩)⟩
        intro w2 e2
        have h2 := h1.kx ((Kept.refl none' _).dr e2) id (fun h => h.elim)
        have b2 := b1.dr e2
        refine ⟨_, _, _, (h2.so.rd 0).trans (rraw_0 ..), _, (h2.so.rd 2).trans (rraw_2 ..), _, _, _, (h2.so.rd 4).trans (rraw_4 ..), Wif_yes (h1.ch.isp (by simp; omega)) (Wif_yes (inB_of (by omega) (by omega)) ⟨((s.ch.getD k 0 : Nat) : Int), (by rw [Int.toNat_natCast]; exact h2.ch.rd (ints_get hkl)), _, (h2.so.rd 1).trans (rraw_1 ..), ?_⟩)⟩
        rw [hw2]
        refine Wif_yes rfl (Wif_yes (inB_of (by omega) (by omega)) ⟨?_, ?_⟩)
        · simp only [pb_some, po_some, Int.toNat_natCast, Nat.zero_add]
          exact b2.wr hx
        intro w3 e3
        simp only [pb_some, po_some, Int.toNat_natCast, Nat.zero_add] at e3
        rw [wb (x := ((s.ch.getD (k + 1) 0 : Nat) : Int)) (by omega), ← hf] at e3
        exact fin w2 e2 w3 e3
      · simp only [decide_eq_false_iff_not] at hk2
        have hf : fst (s.ch.drop (k + 1)) = 255 := by rw [fst_drop, if_neg (by omega)]
        intro w2 e2
        have h2 := h1.kx ((Kept.refl none' _).dr e2) id (fun h => h.elim)
        have b2 := b1.dr e2
        refine ⟨_, _, _, (h2.so.rd 0).trans (rraw_0 ..), _, (h2.so.rd 2).trans (rraw_2 ..), _, _, _, (h2.so.rd 4).trans (rraw_4 ..), Wif_yes (h1.ch.isp (by simp; omega)) (Wif_yes (inB_of (by omega) (by omega)) ⟨((s.ch.getD k 0 : Nat) : Int), (by rw [Int.toNat_natCast]; exact h2.ch.rd (ints_get hkl)), _, (h2.so.rd 1).trans (rraw_1 ..), ?_⟩)⟩
        rw [hw2]
        refine Wif_yes rfl (Wif_yes (inB_of (by omega) (by omega)) ⟨?_, ?_⟩)
        · simp only [pb_some, po_some, Int.toNat_natCast, Nat.zero_add]
          exact b2.wr hx
        intro w3 e3
        simp only [pb_some, po_some, Int.toNat_natCast, Nat.zero_add] at e3
        rw [← hf] at e3
        exact fin w2 e2 w3 e3
    · simp at hkl
      have : k = s.ch.length := by omega
      subst this
      exact ⟨trivial, k1, h1, b1⟩
  · rintro e w' ⟨v, rfl, rfl, h⟩
    exact ⟨rfl, h⟩
end Go.Proofs.Ytkancagfhbkhiaa
