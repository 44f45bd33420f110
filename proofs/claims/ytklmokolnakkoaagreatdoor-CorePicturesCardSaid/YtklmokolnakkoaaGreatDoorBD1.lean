/-
  A part of a proof that a law of this seat returns true at every input. Conditions: those in each theorem.
-/
import Derived.Test.YtklmokolnakkoaaGreatDoorZV2
import Derived.Test.YtklmokolnakkoaaGreatDoorEngU
namespace Go.Proofs.YtklmokolnakkoaaGreatDoor
open Go Eng
set_option linter.unusedSimpArgs false
set_option linter.unusedVariables false
set_option maxRecDepth 100000

abbrev ptr (b : Nat) : Value := .pointer (some ⟨b, 0, none⟩)
structure Bst where
  n : Int
  F : Nat → List Int
  T : List (Int × Int)
abbrev ent1 (l : List Int) : List (Int × Value) := l.map fun a => (a, Value.bool true)
abbrev entT (l : List (Int × Int)) : List (Int × Value) := l.map fun p => (p.1, Value.int .i64 p.2)
def braw (n : Int) (m : Nat → Nat) (t : Nat) : List Value := .int .i64 n :: ((List.range 11).map fun o => Value.map (some (m o))) ++ [.map (some t)]
theorem braw_0 (n : Int) (m : Nat → Nat) (t : Nat) : (braw n m t)[0]? = some (.int .i64 n) := rfl
theorem braw_12 (n : Int) (m : Nat → Nat) (t : Nat) : (braw n m t)[12]? = some (.map (some t)) := rfl
theorem braw_m (n : Int) (m : Nat → Nat) (t : Nat) {o : Nat} (h : o < 11) : (braw n m t)[1 + o]? = some (.map (some (m o))) := by
  rw [Nat.add_comm]
  simp only [braw, List.cons_append, List.getElem?_cons_succ]
  rw [List.getElem?_append_left (by simpa using h)]
  simp [h]
structure BAt (w : World) (b : Nat) (m : Nat → Nat) (t : Nat) (s : Bst) : Prop where
  so : own w b (braw s.n m t)
  mf : ∀ o, o < 11 → MapIs w (m o) (ent1 (s.F o))
  mt : MapIs w t (entT s.T)
  dm : ∀ o o', o < 11 → o' < 11 → o ≠ o' → m o ≠ m o'
  dt : ∀ o, o < 11 → m o ≠ t ∧ m o ≠ b
  db : t ≠ b
def bblk (b : Nat) (m : Nat → Nat) (t : Nat) (x : Nat) : Prop := x = b ∨ x = t ∨ ∃ o, o < 11 ∧ x = m o
section
variable {w w' : World} {b t : Nat} {m : Nat → Nat} {s : Bst}
theorem BAt.kx {X : Nat → Prop} (h : BAt w b m t s) (k : Kept X w w') (hx : ∀ x, X x → ¬ bblk b m t x) : BAt w' b m t s :=
  ⟨h.so.kx k fun e => hx _ e (.inl rfl), fun o ho => (h.mf o ho).kx k fun e => hx _ e (.inr (.inr ⟨o, ho, rfl⟩)), h.mt.kx k fun e => hx _ e (.inr (.inl rfl)), h.dm, h.dt, h.db⟩
theorem BAt.k (h : BAt w b m t s) (k : Kept none' w w') : BAt w' b m t s := h.kx k fun _ e => e.elim
theorem BAt.lt (h : BAt w b m t s) {x : Nat} (hx : bblk b m t x) : x < w.heap.size := by
  rcases hx with rfl | rfl | ⟨o, ho, rfl⟩
  · exact h.so.lt
  · exact h.mt.lt
  · exact (h.mf o ho).lt
theorem BAt.r0 (h : BAt w b m t s) : rd w b 0 = some (.int .i64 s.n) := (h.so.rd 0).trans (braw_0 ..)
theorem BAt.r12 (h : BAt w b m t s) : rd w b 12 = some (.map (some t)) := (h.so.rd 12).trans (braw_12 ..)
theorem BAt.rm (h : BAt w b m t s) {o : Nat} (ho : o < 11) : rd w b (1 + o) = some (.map (some (m o))) := (h.so.rd _).trans (braw_m _ _ _ ho)
end
set_option linter.unusedSimpArgs false
set_option linter.unusedVariables false
set_option maxRecDepth 100000
def Small (s : Bst) : Prop := ∀ o, o < 11 → (s.F o).length ≤ 1000000
section
variable {w w' : World} {b t : Nat} {m : Nat → Nat} {s : Bst}
theorem BAt.len (h : BAt w b m t s) (hs : Small s) {o : Nat} (ho : o < 11) {ty : TypeId} : lenIs Tryz.prog #[284] ty (.map (some (m o))) (s.F o).length w := by
  have := len_map Tryz.underlying284 Tryz.underlying3 (h.mf o ho) (by simpa using hs o ho) (ty := ty)
  simpa using this
end
set_option linter.unusedSimpArgs false
set_option linter.unusedVariables false
set_option maxRecDepth 100000
def freeOf (s : Bst) : Nat → Nat
  | 0 => 0
  | o + 1 => freeOf s o + (s.F o).length * 2 ^ o
theorem freeOf_le {s : Bst} (hs : Small s) : ∀ k, k ≤ 11 → freeOf s k ≤ k * 1024000000
  | 0, _ => Nat.zero_le _
  | o + 1, h => by
    have ih := freeOf_le hs o (by omega)
    have h1 := hs o (by omega)
    have h2 : 2 ^ o ≤ 2 ^ 10 := Nat.pow_le_pow_right (by omega) (by omega)
    have h3 : (s.F o).length * 2 ^ o ≤ 1000000 * 2 ^ 10 := Nat.mul_le_mul h1 h2
    unfold freeOf
    omega
theorem shl_small {x o : Nat} (hx : x ≤ 1000000) (ho : o < 11) : IntKind.wrap .i64 ((x : Int) * 2 ^ min (Int.toNat (o : Int)) 64) = ((x * 2 ^ o : Nat) : Int) := by
  have h2 : 2 ^ o ≤ 2 ^ 10 := Nat.pow_le_pow_right (by omega) (by omega)
  have h3 : x * 2 ^ o ≤ 1000000 * 2 ^ 10 := Nat.mul_le_mul hx h2
  rw [Int.toNat_natCast, Nat.min_eq_left (by omega), show ((x : Int) * 2 ^ o) = ((x * 2 ^ o : Nat) : Int) by simp]
  rw [wi (by omega)]
section
variable {w w' : World} {b t : Nat} {m : Nat → Nat} {s : Bst}
theorem free_spec (h : BAt w b m t s) (hs : Small s) : Calls Tryz.prog 151 #[ptr b] w fun r w' => r = .returned (.int .i64 (freeOf s 11)) ∧ w' = w := by
  refine (vc151 _ w (fun v w' => v = .int .i64 (freeOf s 11) ∧ w' = w) ?_).mono ?_
  · unfold vcP151
    simp only [isP_some, Wif_true, gIf_true, pb_some, po_some, Nat.zero_add]
    refine ⟨_, fun _ => h.r12, Wif_no rfl ?_⟩
    refine ⟨_, _, _, _, _, _, _, _, _, _, _, ⟨h.rm (o := 0) (by omega), h.rm (o := 1) (by omega), h.rm (o := 2) (by omega), h.rm (o := 3) (by omega), h.rm (o := 4) (by omega), h.rm (o := 5) (by omega), h.rm (o := 6) (by omega), h.rm (o := 7) (by omega), h.rm (o := 8) (by omega), h.rm (o := 9) (by omega), h.rm (o := 10) (by omega)⟩, ?_⟩
    refine ⟨fun a k w' n => w' = w ∧ ∃ q : Nat, k = q ∧ q ≤ 11 ∧ n = 11 - q ∧ a = (freeOf s q : Nat), ⟨11, rfl, 0, rfl, by omega, rfl, rfl⟩, ?_⟩
    rintro _ k w1 n ⟨rfl, q, rfl, hq, rfl, rfl⟩
    refine Wif_intro (fun hc => ?_) (fun hc => ?_)
    · have hq0 : q < 11 := by simp at hc; omega
      refine Wif_yes (inB_of (by omega) (by omega)) ⟨some (m q), ?_, _, h.len hs hq0, Wif_yes (by simp) ⟨11 - (q + 1), by omega, rfl, q + 1, by rw [wi (by omega)]; rfl, by omega, rfl, ?_⟩⟩
      · rw [Int.toNat_natCast, Nat.mul_one]
        match q, hq0 with
        | 0, _ | 1, _ | 2, _ | 3, _ | 4, _ | 5, _ | 6, _ | 7, _ | 8, _ | 9, _ | 10, _ => rfl
      · have h1 := freeOf_le hs (q + 1) (by omega)
        rw [shl_small (hs q hq0) hq0]
        have e1 : freeOf s (q + 1) = freeOf s q + (s.F q).length * 2 ^ q := rfl
        rw [e1] at h1 ⊢
        rw [wi (by omega)]
        omega
    · have hq0 : q = 11 := by simp at hc; omega
      subst hq0
      exact ⟨rfl, rfl⟩
  · rintro e w' ⟨v, rfl, rfl, hw⟩
    exact ⟨rfl, hw⟩
end
theorem ofInt_nat (x : Nat) : BitVec.ofInt 64 (x : Int) = BitVec.ofNat 64 x := by simp
theorem xor_nat {x y : Nat} (hx : x < 2 ^ 62) (hy : y < 2 ^ 62) : bitsI .xor .i64 x y = ((x ^^^ y : Nat) : Int) := by
  have h : x ^^^ y < 2 ^ 62 := Nat.xor_lt_two_pow hx hy
  show IntKind.wrap .i64 ((BitVec.ofInt 64 (x : Int) ^^^ BitVec.ofInt 64 (y : Int)).toNat : Int) = _
  rw [ofInt_nat, ofInt_nat, BitVec.toNat_xor, BitVec.toNat_ofNat, BitVec.toNat_ofNat, Nat.mod_eq_of_lt (by omega), Nat.mod_eq_of_lt (by omega), wi (by omega)]
theorem and_nat {x y : Nat} (hx : x < 2 ^ 62) (hy : y < 2 ^ 62) : bitsI .and .i64 x y = ((x &&& y : Nat) : Int) := by
  have h : x &&& y < 2 ^ 62 := Nat.and_lt_two_pow _ hy
  show IntKind.wrap .i64 ((BitVec.ofInt 64 (x : Int) &&& BitVec.ofInt 64 (y : Int)).toNat : Int) = _
  rw [ofInt_nat, ofInt_nat, BitVec.toNat_and, BitVec.toNat_ofNat, BitVec.toNat_ofNat, Nat.mod_eq_of_lt (by omega), Nat.mod_eq_of_lt (by omega), wi (by omega)]
theorem xor_one (q : Nat) : q ^^^ 1 = if q % 2 = 0 then q + 1 else q - 1 := by
  apply Nat.eq_of_testBit_eq
  intro i
  cases i with
  | zero =>
    rw [Nat.testBit_xor]
    simp only [Nat.testBit_zero]
    split <;> rename_i h
    · rw [show (q + 1) % 2 = 1 by omega, h]; rfl
    · rw [show (q - 1) % 2 = 0 by omega, show q % 2 = 1 by omega]; rfl
  | succ i =>
    rw [Nat.testBit_xor, Nat.testBit_succ, Nat.testBit_succ, Nat.testBit_succ]
    split
    · rw [show (q + 1) / 2 = q / 2 by omega]; simp
    · rw [show (q - 1) / 2 = q / 2 by omega]; simp
theorem xor_pow (q o : Nat) : (q * 2 ^ o) ^^^ 2 ^ o = (if q % 2 = 0 then q + 1 else q - 1) * 2 ^ o := by
  have h := Nat.shiftLeft_xor_distrib (a := q) (b := 1) (i := o)
  rw [Nat.shiftLeft_eq, Nat.shiftLeft_eq, Nat.shiftLeft_eq, Nat.one_mul, xor_one] at h
  exact h.symm
theorem bv_andNot (a b : BitVec 64) : a &&& ~~~b = a ^^^ (a &&& b) := by
  ext i hi
  simp only [BitVec.getElem_and, BitVec.getElem_not, BitVec.getElem_xor]
  cases a[i] <;> cases b[i] <;> rfl
theorem andNot_nat {x y : Nat} (hx : x < 2 ^ 62) (hy : y < 2 ^ 62) : bitsI .andNot .i64 x y = ((x ^^^ (x &&& y) : Nat) : Int) := by
  have h1 : x &&& y < 2 ^ 62 := Nat.and_lt_two_pow _ hy
  have h : x ^^^ (x &&& y) < 2 ^ 62 := Nat.xor_lt_two_pow hx h1
  show IntKind.wrap .i64 ((BitVec.ofInt 64 (x : Int) &&& ~~~BitVec.ofInt 64 (y : Int)).toNat : Int) = _
  rw [bv_andNot, ofInt_nat, ofInt_nat, BitVec.toNat_xor, BitVec.toNat_and, BitVec.toNat_ofNat, BitVec.toNat_ofNat, Nat.mod_eq_of_lt (by omega), Nat.mod_eq_of_lt (by omega), wi (by omega)]
theorem and_pow (q o : Nat) : (q * 2 ^ o) &&& 2 ^ o = (q % 2) * 2 ^ o := by
  have h := Nat.shiftLeft_and_distrib (a := q) (b := 1) (i := o)
  rw [Nat.shiftLeft_eq, Nat.shiftLeft_eq, Nat.shiftLeft_eq, Nat.one_mul, Nat.and_one_is_mod] at h
  exact h.symm
theorem andNot_pow (q o : Nat) : (q * 2 ^ o) ^^^ ((q * 2 ^ o) &&& 2 ^ o) = (q - q % 2) * 2 ^ o := by
  rw [and_pow]
  by_cases h : q % 2 = 0
  · rw [h, Nat.zero_mul, Nat.xor_zero, Nat.sub_zero]
  · have h1 : q % 2 = 1 := by omega
    rw [h1, Nat.one_mul, xor_pow, if_neg h]
set_option linter.unusedSimpArgs false
set_option linter.unusedVariables false
set_option maxRecDepth 100000
def brawN (n : Int) (m : Nat → Nat) (t k : Nat) : List Value := .int .i64 n :: ((List.range 11).map fun o => if o < k then Value.map (some (m o)) else .map none) ++ [.map (some t)]
theorem brawN_0 (n : Int) (m : Nat → Nat) (t : Nat) : brawN n m t 0 = [Value.int .i64 n] ++ (List.replicate 11 (.map none) ++ [.map (some t)]) := rfl
theorem brawN_11 (n : Int) (m : Nat → Nat) (t : Nat) : brawN n m t 11 = braw n m t := by
  unfold brawN braw
  congr 2
theorem brawN_len (n : Int) (m : Nat → Nat) (t k : Nat) : (brawN n m t k).length = 13 := by simp [brawN]
theorem brawN_set (n : Int) (m : Nat → Nat) (t : Nat) {k : Nat} (hk : k < 11) (x : Nat) : (brawN n m t k).set (1 + k) (.map (some x)) = brawN n (upd m k x) t (k + 1) := by
  apply List.ext_getElem?
  intro i
  rw [List.getElem?_set, brawN_len]
  unfold brawN
  cases i with
  | zero => simp
  | succ j =>
    simp only [List.cons_append, List.getElem?_cons_succ]
    by_cases hj : j < 11
    · rw [List.getElem?_append_left (by simpa using hj), List.getElem?_append_left (by simpa using hj)]
      simp only [List.getElem?_map, List.getElem?_range hj, Option.map_some]
      by_cases hjk : j = k
      · subst hjk
        rw [if_pos (by omega), if_pos (by omega), if_pos (by omega), upd_same]
      · rw [if_neg (by omega)]
        by_cases hlt : j < k
        · rw [if_pos hlt, if_pos (by omega), upd_ne _ _ hjk]
        · rw [if_neg hlt, if_neg (by omega)]
    · rw [if_neg (by omega), List.getElem?_append_right (by simp; omega), List.getElem?_append_right (by simp; omega)]
      simp
end Go.Proofs.YtklmokolnakkoaaGreatDoor
set_option linter.unusedSimpArgs false
set_option linter.unusedVariables false
namespace Go.Proofs.YtklmokolnakkoaaGreatDoor
structure Bk where
  p : Nat
  o : Nat
  g : Nat
def Tile : Nat → List Bk → Nat → Prop
  | a, [], b => a = b
  | a, x :: l, b => x.p = a ∧ a % 2 ^ x.o = 0 ∧ x.o ≤ 10 ∧ Tile (a + 2 ^ x.o) l b
theorem p2 (o : Nat) : 0 < 2 ^ o := Nat.two_pow_pos o
theorem tile_app {l1 l2 : List Bk} {a b : Nat} : Tile a (l1 ++ l2) b ↔ ∃ c, Tile a l1 c ∧ Tile c l2 b := by
  induction l1 generalizing a with
  | nil => simp [Tile]
  | cons x l ih => simp only [List.cons_append, Tile, ih]; constructor
                   · rintro ⟨h1, h2, h3, c, h4, h5⟩; exact ⟨c, ⟨h1, h2, h3, h4⟩, h5⟩
                   · rintro ⟨c, ⟨h1, h2, h3, h4⟩, h5⟩; exact ⟨h1, h2, h3, c, h4, h5⟩
theorem tile_le {l : List Bk} {a b : Nat} (h : Tile a l b) : a + l.length ≤ b := by
  induction l generalizing a with
  | nil => simp [Tile] at h; simp; omega
  | cons x l ih => have := ih h.2.2.2; have := p2 x.o; simp; omega
theorem tile_mem {l : List Bk} {a b : Nat} (h : Tile a l b) {x : Bk} (hx : x ∈ l) : a ≤ x.p ∧ x.p + 2 ^ x.o ≤ b ∧ x.p % 2 ^ x.o = 0 ∧ x.o ≤ 10 := by
  induction l generalizing a with
  | nil => simp at hx
  | cons y l ih =>
    obtain ⟨h1, h2, h3, h4⟩ := h
    rcases List.mem_cons.1 hx with rfl | hx
    · have := tile_le h4; exact ⟨by omega, by omega, by rw [h1]; exact h2, h3⟩
    · have hh := ih h4 hx; have := p2 y.o; exact ⟨by omega, hh.2.1, hh.2.2⟩
theorem tile_pw {l : List Bk} {a b : Nat} (h : Tile a l b) : l.Pairwise fun x y => x.p + 2 ^ x.o ≤ y.p := by
  induction l generalizing a with
  | nil => exact List.Pairwise.nil
  | cons y l ih =>
    obtain ⟨h1, h2, h3, h4⟩ := h
    refine List.Pairwise.cons (fun x hx => ?_) (ih h4)
    have := (tile_mem h4 hx).1
    omega
theorem tile_start {l : List Bk} {a b : Nat} (h : Tile a l b) {x y : Bk} (hx : x ∈ l) (hy : y ∈ l) (e : x.p = y.p) : x = y := by
  induction l generalizing a with
  | nil => simp at hx
  | cons z l ih =>
    obtain ⟨h1, h2, h3, h4⟩ := h
    have hz := p2 z.o
    rcases List.mem_cons.1 hx with rfl | hx'
    · rcases List.mem_cons.1 hy with rfl | hy
      · rfl
      · have := (tile_mem h4 hy).1; omega
    · rcases List.mem_cons.1 hy with rfl | hy
      · have := (tile_mem h4 hx').1; omega
      · exact ih h4 hx' hy
theorem tile_mid {A B : List Bk} {x : Bk} {a b : Nat} (h : Tile a (A ++ x :: B) b) : Tile a A x.p ∧ Tile (x.p + 2 ^ x.o) B b ∧ x.p % 2 ^ x.o = 0 ∧ x.o ≤ 10 := by
  obtain ⟨c, h1, h2, h3, h4, h5⟩ := tile_app.1 h
  subst h2
  exact ⟨h1, h5, h3, h4⟩
theorem tile_mid' {A B : List Bk} {x : Bk} {a b : Nat} (h1 : Tile a A x.p) (h2 : Tile (x.p + 2 ^ x.o) B b) (h3 : x.p % 2 ^ x.o = 0) (h4 : x.o ≤ 10) : Tile a (A ++ x :: B) b :=
  tile_app.2 ⟨_, h1, rfl, h3, h4, h2⟩
theorem tile_sep {A B : List Bk} {x : Bk} {a b : Nat} (h : Tile a (A ++ x :: B) b) : (∀ y ∈ A, y.p + 2 ^ y.o ≤ x.p) ∧ (∀ y ∈ B, x.p + 2 ^ x.o ≤ y.p) := by
  obtain ⟨h1, h2, h3⟩ := tile_mid h
  exact ⟨fun y hy => (tile_mem h1 hy).2.1, fun y hy => (tile_mem h2 hy).1⟩
theorem tile_last {A : List Bk} {a b : Nat} (h : Tile a A b) (hne : a < b) : ∃ A' y, A = A' ++ [y] ∧ y.p + 2 ^ y.o = b ∧ Tile a A' y.p := by
  rcases List.eq_nil_or_concat A with rfl | ⟨A', y, rfl⟩
  · simp [Tile] at h; omega
  · rw [List.concat_eq_append] at h ⊢
    obtain ⟨c, h1, h2, h3, h4, h5⟩ := tile_app.1 h
    simp only [Tile] at h5
    exact ⟨A', y, rfl, by omega, by rw [h2]; exact h1⟩
theorem tile_first {B : List Bk} {a b : Nat} (h : Tile a B b) (hne : a < b) : ∃ y B', B = y :: B' ∧ y.p = a ∧ Tile (a + 2 ^ y.o) B' b := by
  cases B with
  | nil => simp [Tile] at h; omega
  | cons y B' => exact ⟨y, B', rfl, h.1, h.2.2.2⟩
def NB (l : List Bk) : Prop := ∀ x ∈ l, ∀ y ∈ l, x.g = 0 → y.g = 0 → x.o = y.o → x.o < 10 → y.p = x.p + 2 ^ x.o → x.p % 2 ^ (x.o + 1) = 0 → False
theorem NB.sub {l l' : List Bk} (h : NB l) (hs : ∀ x ∈ l', x.g = 0 → x ∈ l) : NB l' := fun x hx y hy gx gy => h x (hs x hx gx) y (hs y hy gy) gx gy
theorem mod_le {a o1 o2 : Nat} (h : a % 2 ^ o2 = 0) (hl : o1 ≤ o2) : a % 2 ^ o1 = 0 :=
  Nat.mod_eq_zero_of_dvd (Nat.dvd_trans (Nat.pow_dvd_pow 2 hl) (Nat.dvd_of_mod_eq_zero h))
theorem mod_add {a b o : Nat} (h : a % 2 ^ o = 0) (hb : b % 2 ^ o = 0) : (a + b) % 2 ^ o = 0 :=
  Nat.mod_eq_zero_of_dvd (Nat.dvd_add (Nat.dvd_of_mod_eq_zero h) (Nat.dvd_of_mod_eq_zero hb))
def Fr01 (l : List Bk) : Prop := ∀ x ∈ l, x.g = 0 ∨ x.g = 1
structure Inv (n : Nat) (l : List Bk) : Prop where
  n1 : 1 ≤ n ∧ n ≤ 128
  tl : Tile 0 l n
  nb : NB l
  g01 : Fr01 l
end Go.Proofs.YtklmokolnakkoaaGreatDoor
set_option linter.unusedSimpArgs false
set_option linter.unusedVariables false
namespace Go.Proofs.YtklmokolnakkoaaGreatDoor
def fr (o : Nat) (l : List Bk) : List Int := (l.filter fun x => x.g == 0 && x.o == o).map fun x => (x.p : Int)
def tk (l : List Bk) : List (Int × Int) := (l.filter fun x => x.g == 1).map fun x => ((x.p : Int), (x.o : Int))
def fsum : List Bk → Nat
  | [] => 0
  | x :: l => (if x.g = 0 then 2 ^ x.o else 0) + fsum l
@[simp] theorem fr_nil (o : Nat) : fr o [] = [] := rfl
@[simp] theorem tk_nil : tk [] = [] := rfl
theorem fr_app (o : Nat) (l l' : List Bk) : fr o (l ++ l') = fr o l ++ fr o l' := by simp [fr]
theorem tk_app (l l' : List Bk) : tk (l ++ l') = tk l ++ tk l' := by simp [tk]
theorem fr_yes {o : Nat} {x : Bk} (l : List Bk) (hg : x.g = 0) (ho : x.o = o) : fr o (x :: l) = (x.p : Int) :: fr o l := by simp [fr, hg, ho]
theorem fr_no {o : Nat} {x : Bk} (l : List Bk) (h : ¬ (x.g = 0 ∧ x.o = o)) : fr o (x :: l) = fr o l := by
  unfold fr
  rw [List.filter_cons_of_neg (by simpa using h)]
theorem tk_yes {x : Bk} (l : List Bk) (hg : x.g = 1) : tk (x :: l) = ((x.p : Int), (x.o : Int)) :: tk l := by simp [tk, hg]
theorem tk_no {x : Bk} (l : List Bk) (h : x.g ≠ 1) : tk (x :: l) = tk l := by
  unfold tk
  rw [List.filter_cons_of_neg (by simpa using h)]
theorem mem_fr {o : Nat} {l : List Bk} {k : Int} : k ∈ fr o l ↔ ∃ x ∈ l, x.g = 0 ∧ x.o = o ∧ (x.p : Int) = k := by
  unfold fr
  constructor
  · intro h
    obtain ⟨x, hx, e⟩ := List.mem_map.1 h
    obtain ⟨h1, h2⟩ := List.mem_filter.1 hx
    simp only [Bool.and_eq_true, beq_iff_eq] at h2
    exact ⟨x, h1, h2.1, h2.2, e⟩
  · rintro ⟨x, h1, h2, h3, e⟩
    exact List.mem_map.2 ⟨x, List.mem_filter.2 ⟨h1, by simp [h2, h3]⟩, e⟩
theorem mem_tk {l : List Bk} {k j : Int} : (k, j) ∈ tk l ↔ ∃ x ∈ l, x.g = 1 ∧ (x.p : Int) = k ∧ (x.o : Int) = j := by
  unfold tk
  constructor
  · intro h
    obtain ⟨x, hx, e⟩ := List.mem_map.1 h
    obtain ⟨h1, h2⟩ := List.mem_filter.1 hx
    simp only [beq_iff_eq] at h2
    simp only [Prod.mk.injEq] at e
    exact ⟨x, h1, h2, e.1, e.2⟩
  · rintro ⟨x, h1, h2, h3, e⟩
    exact List.mem_map.2 ⟨x, List.mem_filter.2 ⟨h1, by simp [h2]⟩, by simp [h3, e]⟩
theorem fsum_app (l l' : List Bk) : fsum (l ++ l') = fsum l + fsum l' := by
  induction l with
  | nil => simp [fsum]
  | cons x l ih => simp only [List.cons_append, fsum, ih]; omega
theorem sep_ne {A B : List Bk} {x : Bk} {a b : Nat} (h : Tile a (A ++ x :: B) b) {k : Nat} (h1 : x.p ≤ k) (h2 : k < x.p + 2 ^ x.o) : (∀ y ∈ A, y.p ≠ k) ∧ (∀ y ∈ B, y.p ≠ k) := by
  obtain ⟨hA, hB⟩ := tile_sep h
  refine ⟨fun y hy => ?_, fun y hy => ?_⟩
  · have := hA y hy; have := p2 y.o; omega
  · have := hB y hy; omega
structure Mid (n : Nat) (A : List Bk) (x : Bk) (B : List Bk) : Prop where
  n1 : 1 ≤ n ∧ n ≤ 128
  tl : Tile 0 (A ++ x :: B) n
  nb : NB (A ++ B)
  g01 : Fr01 (A ++ B)
theorem Inv.mid {n : Nat} {A B : List Bk} {x y : Bk} (h : Inv n (A ++ x :: B)) (e : y.p = x.p) (e' : y.o = x.o) : Mid n A y B := by
  refine ⟨h.n1, ?_, h.nb.sub fun z hz _ => by simp at hz ⊢; rcases hz with h | h <;> simp [h], fun z hz => h.g01 z (by simp at hz ⊢; rcases hz with h | h <;> simp [h])⟩
  obtain ⟨h1, h2, h3, h4⟩ := tile_mid h.tl
  exact tile_mid' (by rw [e]; exact h1) (by rw [e, e']; exact h2) (by rw [e, e']; exact h3) (by rw [e']; exact h4)
theorem Mid.num {n : Nat} {A B : List Bk} {x : Bk} (h : Mid n A x B) : x.p + 2 ^ x.o ≤ n ∧ x.o ≤ 7 ∧ x.p % 2 ^ x.o = 0 := by
  have := tile_mem h.tl (x := x) (by simp)
  refine ⟨this.2.1, ?_, this.2.2.1⟩
  refine Nat.le_of_not_lt fun hlt => ?_
  have h8 := Nat.pow_le_pow_right (n := 2) (by omega) (show 8 ≤ x.o from hlt)
  have := h.n1
  omega
theorem Mid.lo {n : Nat} {A B : List Bk} {a o g g' : Nat} (h : Mid n A ⟨a, o + 1, g⟩ B) : Mid n A ⟨a, o, g'⟩ (⟨a + 2 ^ o, o, 0⟩ :: B) := by
  obtain ⟨h1, h2, h3, h4⟩ := tile_mid h.tl
  dsimp only at h1 h2 h3 h4
  have e2 : 2 ^ (o + 1) = 2 ^ o + 2 ^ o := by rw [Nat.pow_succ]; omega
  refine ⟨h.n1, tile_mid' h1 ⟨rfl, mod_add (mod_le (o1 := o) h3 (by omega)) (Nat.mod_self _), by dsimp only; omega, by dsimp only; rw [Nat.add_assoc, ← e2]; exact h2⟩ (mod_le (o1 := o) h3 (by omega)) (by dsimp only; omega), ?_, ?_⟩
  · obtain ⟨hA, hB⟩ := tile_sep h.tl
    dsimp only at hA hB
    intro x hx y hy gx gy eo lt ep em
    have hp := p2 o
    have mx : x ∈ A ++ B ∨ x = ⟨a + 2 ^ o, o, 0⟩ := by simp at hx ⊢; rcases hx with h | h | h <;> simp [h]
    have my : y ∈ A ++ B ∨ y = ⟨a + 2 ^ o, o, 0⟩ := by simp at hy ⊢; rcases hy with h | h | h <;> simp [h]
    rcases mx with mx | rfl
    · rcases my with my | rfl
      · exact h.nb x mx y my gx gy eo lt ep em
      · dsimp only at eo ep
        have : x.p = a := by rw [eo] at ep; omega
        rcases List.mem_append.1 mx with hm | hm
        · have := hA x hm; have := p2 x.o; omega
        · have := hB x hm; have := p2 x.o; omega
    · rcases my with my | rfl
      · dsimp only at em
        have d := (Nat.dvd_add_right (Nat.dvd_of_mod_eq_zero h3)).1 (Nat.dvd_of_mod_eq_zero em)
        have := Nat.le_of_dvd hp d
        omega
      · dsimp only at ep; omega
  · intro x hx
    have mx : x ∈ A ++ B ∨ x = ⟨a + 2 ^ o, o, 0⟩ := by simp at hx ⊢; rcases hx with h | h | h <;> simp [h]
    rcases mx with mx | rfl
    · exact h.g01 x mx
    · exact .inl rfl
theorem Mid.hi {n : Nat} {A B : List Bk} {a o g g' : Nat} (h : Mid n A ⟨a, o + 1, g⟩ B) : Mid n (A ++ [⟨a, o, 0⟩]) ⟨a + 2 ^ o, o, g'⟩ B := by
  obtain ⟨h1, h2, h3, h4⟩ := tile_mid h.tl
  dsimp only at h1 h2 h3 h4
  have e2 : 2 ^ (o + 1) = 2 ^ o + 2 ^ o := by rw [Nat.pow_succ]; omega
  refine ⟨h.n1, tile_mid' (tile_app.2 ⟨a, h1, rfl, mod_le (o1 := o) h3 (by omega), by dsimp only; omega, rfl⟩) (by dsimp only; rw [Nat.add_assoc, ← e2]; exact h2) (mod_add (mod_le (o1 := o) h3 (by omega)) (Nat.mod_self _)) (by dsimp only; omega), ?_, ?_⟩
  · obtain ⟨hA, hB⟩ := tile_sep h.tl
    dsimp only at hA hB
    intro x hx y hy gx gy eo lt ep em
    have hp := p2 o
    have mx : x ∈ A ++ B ∨ x = ⟨a, o, 0⟩ := by simp at hx ⊢; rcases hx with h | h | h <;> simp [h]
    have my : y ∈ A ++ B ∨ y = ⟨a, o, 0⟩ := by simp at hy ⊢; rcases hy with h | h | h <;> simp [h]
    rcases mx with mx | rfl
    · rcases my with my | rfl
      · exact h.nb x mx y my gx gy eo lt ep em
      · dsimp only at eo ep
        rw [eo] at ep em
        have d := (Nat.dvd_add_right (Nat.dvd_of_mod_eq_zero em)).1 (by rw [← ep]; exact Nat.dvd_of_mod_eq_zero h3)
        have := Nat.le_of_dvd hp d
        omega
    · rcases my with my | rfl
      · dsimp only at ep
        rcases List.mem_append.1 my with hm | hm
        · have := hA y hm; have := p2 y.o; omega
        · have := hB y hm; have := p2 y.o; omega
      · dsimp only at ep; omega
  · intro x hx
    have mx : x ∈ A ++ B ∨ x = ⟨a, o, 0⟩ := by simp at hx ⊢; rcases hx with h | h | h <;> simp [h]
    rcases mx with mx | rfl
    · exact h.g01 x mx
    · exact .inl rfl
theorem Mid.take {n : Nat} {A B : List Bk} {a o g : Nat} (h : Mid n A ⟨a, o, g⟩ B) : Inv n (A ++ ⟨a, o, 1⟩ :: B) := by
  obtain ⟨h1, h2, h3, h4⟩ := tile_mid h.tl
  refine ⟨h.n1, tile_mid' h1 h2 h3 h4, h.nb.sub fun z hz gz => ?_, fun z hz => ?_⟩
  · simp at hz ⊢
    rcases hz with h | rfl | h
    · simp [h]
    · cases gz
    · simp [h]
  · simp at hz
    rcases hz with h' | rfl | h'
    · exact h.g01 z (by simp [h'])
    · exact .inr rfl
    · exact h.g01 z (by simp [h'])
def bud (a o : Nat) : Nat := if a / 2 ^ o % 2 = 0 then a + 2 ^ o else a - 2 ^ o
theorem half_even {a o : Nat} (h : a % 2 ^ o = 0) : a / 2 ^ o % 2 = 0 ↔ a % 2 ^ (o + 1) = 0 := by
  have hp := p2 o
  have e := Nat.div_add_mod a (2 ^ o)
  rw [h, Nat.add_zero] at e
  rw [Nat.pow_succ, Nat.mod_mul, h]
  simp only [Nat.zero_add, Nat.mul_eq_zero]
  omega
theorem Mid.free {n : Nat} {A B : List Bk} {a o g : Nat} (h : Mid n A ⟨a, o, g⟩ B) (hb : o < 10 → ((bud a o : Nat) : Int) ∉ fr o (A ++ B)) : Inv n (A ++ ⟨a, o, 0⟩ :: B) := by
  obtain ⟨h1, h2, h3, h4⟩ := tile_mid h.tl
  dsimp only at h3
  refine ⟨h.n1, tile_mid' h1 h2 h3 h4, ?_, fun z hz => ?_⟩
  · intro x hx y hy gx gy eo lt ep em
    have mx : x ∈ A ++ B ∨ x = ⟨a, o, 0⟩ := by simp at hx ⊢; rcases hx with h | h | h <;> simp [h]
    have my : y ∈ A ++ B ∨ y = ⟨a, o, 0⟩ := by simp at hy ⊢; rcases hy with h | h | h <;> simp [h]
    rcases mx with mx | rfl
    · rcases my with my | rfl
      · exact h.nb x mx y my gx gy eo lt ep em
      · dsimp only at eo ep
        rw [eo] at ep em lt
        refine hb lt (mem_fr.2 ⟨x, mx, gx, eo, ?_⟩)
        unfold bud
        rw [if_neg (fun e => ?_)]
        · omega
        · rw [half_even h3, ep] at e
          have d := (Nat.dvd_add_right (Nat.dvd_of_mod_eq_zero em)).1 (Nat.dvd_of_mod_eq_zero e)
          have := Nat.le_of_dvd (p2 o) d
          rw [Nat.pow_succ] at this
          have := p2 o
          omega
    · rcases my with my | rfl
      · dsimp only at eo ep em lt
        refine hb lt (mem_fr.2 ⟨y, my, gy, eo.symm, ?_⟩)
        unfold bud
        rw [if_pos ((half_even h3).2 em), ep]
      · have := p2 o
        dsimp only at ep; omega
  · simp at hz
    rcases hz with h' | rfl | h'
    · exact h.g01 z (by simp [h'])
    · exact .inl rfl
    · exact h.g01 z (by simp [h'])
theorem Mid.one {n : Nat} {A B : List Bk} {a o g g' : Nat} (h : Mid n A ⟨a, o, g⟩ B) (ho : o < 10) (hb : ((bud a o : Nat) : Int) ∈ fr o (A ++ B)) :
    (a / 2 ^ o % 2 = 0 ∧ ∃ B', B = ⟨a + 2 ^ o, o, 0⟩ :: B' ∧ Mid n A ⟨a, o + 1, g'⟩ B') ∨ (a / 2 ^ o % 2 = 1 ∧ ∃ A', A = A' ++ [⟨a - 2 ^ o, o, 0⟩] ∧ 2 ^ o ≤ a ∧ Mid n A' ⟨a - 2 ^ o, o + 1, g'⟩ B) := by
  obtain ⟨h1, h2, h3, h4⟩ := tile_mid h.tl
  dsimp only at h1 h2 h3 h4
  obtain ⟨⟨yp, yo, yg⟩, hy, gy, oy, py⟩ := mem_fr.1 hb
  dsimp only at gy oy py
  subst gy oy
  have hp := p2 yo
  have e2 : 2 ^ (yo + 1) = 2 ^ yo + 2 ^ yo := by rw [Nat.pow_succ]; omega
  have py' : yp = bud a yo := by omega
  obtain ⟨hA, hB⟩ := tile_sep h.tl
  dsimp only at hA hB
  unfold bud at py'
  split at py' <;> rename_i hev
  · left
    refine ⟨hev, ?_⟩
    rcases List.mem_append.1 hy with hm | hm
    · have := hA _ hm; dsimp only at this; omega
    · have hle := tile_mem h2 hm
      dsimp only at hle
      obtain ⟨z, B', rfl, ez, hz⟩ := tile_first h2 (by omega)
      have : z = ⟨yp, yo, 0⟩ := tile_start h2 (by simp) hm (by dsimp only; omega)
      subst this
      dsimp only at ez hz
      subst ez
      refine ⟨B', rfl, h.n1, tile_mid' h1 (by dsimp only; rw [e2, ← Nat.add_assoc]; exact hz) ((half_even h3).1 hev) (by dsimp only; omega), h.nb.sub fun z hz _ => ?_, fun z hz => h.g01 z ?_⟩ <;>
      · simp at hz ⊢
        rcases hz with h | h <;> simp [h]
  · right
    have hod : a / 2 ^ yo % 2 = 1 := by omega
    have hle : 2 ^ yo ≤ a := by
      refine Nat.le_of_not_lt fun hlt => ?_
      rw [Nat.div_eq_of_lt hlt] at hod
      cases hod
    refine ⟨hod, ?_⟩
    rcases List.mem_append.1 hy with hm | hm
    · obtain ⟨A', z, rfl, ez, hz⟩ := tile_last h1 (by omega)
      have hs := tile_pw h1
      have : z = ⟨yp, yo, 0⟩ := by
        simp at hm
        rcases hm with hm | hm
        · have := (List.pairwise_append.1 hs).2.2 _ hm z (by simp)
          dsimp only at this
          have := p2 z.o
          omega
        · exact hm.symm
      subst this
      dsimp only at ez hz
      subst py'
      have hm2 : (a - 2 ^ yo) % 2 ^ (yo + 1) = 0 := by
        have hm3 : (a - 2 ^ yo) % 2 ^ yo = 0 := by
          have := Nat.mod_eq_zero_of_dvd (Nat.dvd_sub (Nat.dvd_of_mod_eq_zero h3) (Nat.dvd_refl (2 ^ yo)))
          exact this
        rw [← half_even hm3]
        have : (a - 2 ^ yo) / 2 ^ yo = a / 2 ^ yo - 1 := by
          have := Nat.sub_mul_div a (2 ^ yo) 1
          rw [Nat.mul_one] at this
          exact this
        rw [this]
        omega
      refine ⟨A', rfl, hle, h.n1, tile_mid' hz (by dsimp only; rw [e2, ← Nat.add_assoc, Nat.sub_add_cancel hle]; exact h2) hm2 (by dsimp only; omega), h.nb.sub fun z hz _ => ?_, fun z hz => h.g01 z ?_⟩ <;>
      · simp at hz ⊢
        rcases hz with h | h <;> simp [h]
    · have := hB _ hm; dsimp only at this; omega
end Go.Proofs.YtklmokolnakkoaaGreatDoor
