/-
  A part of a proof that a law of this seat returns true at every input. Conditions: those in each theorem.
-/
import Derived.Test.YtkmcmkimeibjdaaBS3
import Derived.Test.YtkmcmkimeibjdaaBV2
namespace Go.Proofs.Ytkmcmkimeibjdaa
open Go Eng
set_option linter.unusedSimpArgs false
set_option linter.unusedVariables false
set_option maxRecDepth 100000

/-! ### a buddy -/
abbrev ptr (b : Nat) : Value := .pointer (some ⟨b, 0, none⟩)
structure Bst where
  n : Int
  F : Nat → List Int
  T : List (Int × Int)
abbrev ent1 (l : List Int) : List (Int × Value) := l.map fun a => (a, Value.bool true)
abbrev entT (l : List (Int × Int)) : List (Int × Value) := l.map fun p => (p.1, Value.int .i64 p.2)
def braw (n : Int) (m : Nat → Nat) (t : Nat) : List Value := .int .i64 n :: ((List.range 11).map fun o => Value.map (some (m o))) ++ [.map (some t)]
theorem braw_len (n : Int) (m : Nat → Nat) (t : Nat) : (braw n m t).length = 13 := by simp [braw]
theorem braw_0 (n : Int) (m : Nat → Nat) (t : Nat) : (braw n m t)[0]? = some (.int .i64 n) := rfl
theorem braw_12 (n : Int) (m : Nat → Nat) (t : Nat) : (braw n m t)[12]? = some (.map (some t)) := rfl
theorem braw_m (n : Int) (m : Nat → Nat) (t : Nat) {o : Nat} (h : o < 11) : (braw n m t)[1 + o]? = some (.map (some (m o))) := by
  rw [Nat.add_comm]
  simp only [braw, List.cons_append, List.getElem?_cons_succ]
  rw [List.getElem?_append_left (by simpa using h)]
  simp [h]
structure BAt (w : World) (b : Nat) (m : Nat → Nat) (t : Nat) (s : Bst) : Prop where
  so : own w b (braw s.n m t)
  mf : ∀ o, o < 11 → MapIs w (m o) (ent1 (s.F o))
  mt : MapIs w t (entT s.T)
  dm : ∀ o o', o < 11 → o' < 11 → o ≠ o' → m o ≠ m o'
  dt : ∀ o, o < 11 → m o ≠ t ∧ m o ≠ b
  db : t ≠ b
/-- the blocks of it -/
def bblk (b : Nat) (m : Nat → Nat) (t : Nat) (x : Nat) : Prop := x = b ∨ x = t ∨ ∃ o, o < 11 ∧ x = m o
section
variable {w w' : World} {b t : Nat} {m : Nat → Nat} {s : Bst}
theorem BAt.kx {X : Nat → Prop} (h : BAt w b m t s) (k : Kept X w w') (hx : ∀ x, X x → ¬ bblk b m t x) : BAt w' b m t s :=
  ⟨h.so.kx k fun e => hx _ e (.inl rfl), fun o ho => (h.mf o ho).kx k fun e => hx _ e (.inr (.inr ⟨o, ho, rfl⟩)), h.mt.kx k fun e => hx _ e (.inr (.inl rfl)), h.dm, h.dt, h.db⟩
theorem BAt.k (h : BAt w b m t s) (k : Kept none' w w') : BAt w' b m t s := h.kx k fun _ e => e.elim
theorem BAt.lt (h : BAt w b m t s) {x : Nat} (hx : bblk b m t x) : x < w.heap.size := by
  rcases hx with rfl | rfl | ⟨o, ho, rfl⟩
  · exact h.so.lt
  · exact h.mt.lt
  · exact (h.mf o ho).lt
theorem BAt.r0 (h : BAt w b m t s) : rd w b 0 = some (.int .i64 s.n) := (h.so.rd 0).trans (braw_0 ..)
theorem BAt.r12 (h : BAt w b m t s) : rd w b 12 = some (.map (some t)) := (h.so.rd 12).trans (braw_12 ..)
theorem BAt.rm (h : BAt w b m t s) {o : Nat} (ho : o < 11) : rd w b (1 + o) = some (.map (some (m o))) := (h.so.rd _).trans (braw_m _ _ _ ho)
end
end Go.Proofs.Ytkmcmkimeibjdaa
namespace Go.Proofs.Ytkmcmkimeibjdaa
open Go Eng
set_option linter.unusedSimpArgs false
set_option linter.unusedVariables false
set_option maxRecDepth 100000
/-- no list is longer than a node has frames -/
def Small (s : Bst) : Prop := ∀ o, o < 11 → (s.F o).length ≤ 1000000
def mostOf (s : Bst) : Nat → Int
  | 0 => -1
  | o + 1 => if 0 < (s.F o).length then o else mostOf s o
section
variable {w w' : World} {b t : Nat} {m : Nat → Nat} {s : Bst}
theorem BAt.len (h : BAt w b m t s) (hs : Small s) {o : Nat} (ho : o < 11) {ty : TypeId} : lenIs Try.prog #[75] ty (.map (some (m o))) (s.F o).length w := by
  have := len_map Try.underlying75 Try.underlying3 (h.mf o ho) (by simpa using hs o ho) (ty := ty)
  simpa using this
theorem most_spec (h : BAt w b m t s) (hs : Small s) : Calls Try.prog 17 #[ptr b] w fun r w' => r = .returned (.int .i64 (mostOf s 11)) ∧ w' = w := by
  refine (vc17 _ w (fun v w' => v = .int .i64 (mostOf s 11) ∧ w' = w) ?_).mono ?_
  · unfold vcP17
    simp only [isP_some, Wif_true, gIf_true, pb_some, po_some, Nat.zero_add]
    refine ⟨fun _ k w' n => w' = w ∧ ∃ q : Nat, k = (q : Int) - 1 ∧ q ≤ 11 ∧ q = n ∧ mostOf s 11 = mostOf s q, ⟨11, rfl, 11, rfl, by omega, rfl, rfl⟩, ?_⟩
    rintro _ k w1 n ⟨rfl, q, rfl, hq, rfl, hm⟩
    refine ⟨_, fun _ => h.r12, Wif_intro (fun hc => ?_) (fun hc => ?_)⟩
    · have hq0 : 0 < q := by simp at hc; omega
      obtain ⟨o, rfl⟩ : ∃ o, q = o + 1 := ⟨q - 1, by omega⟩
      have e1 : (((o + 1 : Nat) : Int) - 1) = (o : Int) := by omega
      rw [e1]
      refine Wif_yes (inB_of (by omega) (by omega)) ⟨_, by rw [Int.toNat_natCast, Nat.mul_one]; exact h.rm (by omega), _, h.len hs (by omega), Wif_intro (fun hp => ?_) (fun hp => ?_)⟩
      · refine ⟨?_, rfl⟩
        rw [hm]
        unfold mostOf
        rw [if_pos (by simpa using hp)]
      · refine ⟨o, Nat.le_refl _, rfl, o, by rw [wi (by omega)], by omega, rfl, ?_⟩
        rw [hm]
        conv => lhs; unfold mostOf
        rw [if_neg (by simpa using hp)]
    · have hq0 : q = 0 := by simp at hc; omega
      subst hq0
      exact ⟨by rw [hm]; rfl, rfl⟩
  · rintro e w' ⟨v, rfl, rfl, hw⟩
    exact ⟨rfl, hw⟩
end
end Go.Proofs.Ytkmcmkimeibjdaa
