/-
  A part of a proof that a law of this seat returns true at every input. Conditions: those in each theorem.
-/
import Derived.Test.YtikjgeenhbnkkaaGreatDoorAV5
import Derived.Test.YtikjgeenhbnkkaaGreatDoorEngS
import Derived.Test.YtikjgeenhbnkkaaGreatDoorA0
set_option linter.unusedSimpArgs false
set_option linter.unusedVariables false
set_option maxRecDepth 100000
namespace Go.Proofs.YtikjgeenhbnkkaaGreatDoor
open Go Eng
theorem info_thing : (Tryz.prog.info? 123).map (fun i => (i.zero, i.size, i.bytes)) = some (some (.int .i64 0), 1, 8) := by kernel_rfl
structure ThAt (w : World) (TB : Nat) (Z : Nat → Prop) (n : Nat) (g : Nat → List Int) : Prop where
  ex : ∃ vs : List Value, own w TB vs ∧ vs.length = n ∧ (∀ i, i < n → ∃ a l c, vs[i]? = some (.slice a l c) ∧ l = (g i).length ∧ w.ownsRow 0 123 1 (.slice a l c) l ((g i).map vi) ∧ ∀ b, (Value.slice a l c).ownBlock = some b → b ≠ TB ∧ ¬ Z b) ∧
    (∀ (i j : Nat) (u v : Value) (b : Nat), vs[i]? = some u → vs[j]? = some v → u.ownBlock = some b → v.ownBlock = some b → i = j)
  nz : ¬ Z TB
  lt : ∀ b, Z b → b < w.heap.size
theorem row_blk {w : World} {e s n : Nat} {v : Value} {xs : List Value} (h : w.ownsRow 0 e s v n xs) {b : Nat} (hb : v.ownBlock = some b) : b < w.heap.size := (h.lt b hb).2
theorem ThAt.kx {X : Nat → Prop} {w w' : World} {TB n : Nat} {Z : Nat → Prop} {g : Nat → List Int} (h : ThAt w TB Z n g) (k : Kept X w w') (hx : ∀ b, b < w.heap.size → X b → Z b) : ThAt w' TB Z n g := by
  obtain ⟨vs, ho, hl, hr, hd⟩ := h.ex
  refine ⟨⟨vs, ho.kx k fun hX => h.nz (hx _ ho.lt hX), hl, fun i hi => ?_, hd⟩, h.nz, fun b hb => Nat.lt_of_lt_of_le (h.lt b hb) k.sz⟩
  obtain ⟨a, l, c, h1, h2, h3, h4⟩ := hr i hi
  exact ⟨a, l, c, h1, h2, ownsRow_kx h3 k fun b _ hlt hb hX => (h4 b hb).2 (hx b hlt hX), h4⟩
theorem ThAt.k {w w' : World} {TB n : Nat} {Z : Nat → Prop} {g : Nat → List Int} (h : ThAt w TB Z n g) (k : Kept none' w w') : ThAt w' TB Z n g := h.kx k fun _ _ h => h.elim
theorem ThAt.ext {w w' : World} {TB n : Nat} {Z : Nat → Prop} {g : Nat → List Int} (h : ThAt w TB Z n g) (k : Kept none' w w') (hs : w.heap.size < w'.heap.size) : ThAt w' TB (fun b => Z b ∨ b = w.heap.size) n g := by
  have h2 := h.k k
  obtain ⟨vs, ho, hl, hr, hd⟩ := h.ex
  have hTB := ho.lt
  refine ⟨⟨vs, ho.kx k id, hl, fun i hi => ?_, hd⟩, fun hz => ?_, fun b hb => ?_⟩
  · obtain ⟨a, l, c, h1, h2, h3, h4⟩ := hr i hi
    refine ⟨a, l, c, h1, h2, ownsRow_kx h3 k fun b _ _ _ => id, fun b hb => ⟨(h4 b hb).1, fun hz => ?_⟩⟩
    rcases hz with hz | hz
    · exact (h4 b hb).2 hz
    · have := row_blk h3 hb; omega
  · rcases hz with hz | hz
    · exact h.nz hz
    · omega
  · rcases hb with hb | hb
    · exact h2.lt b hb
    · omega
theorem ThAt.weak {w : World} {TB n : Nat} {Z Z' : Nat → Prop} {g : Nat → List Int} (h : ThAt w TB Z n g) (hz : ∀ b, Z' b → Z b) : ThAt w TB Z' n g := by
  obtain ⟨vs, ho, hl, hr, hd⟩ := h.ex
  refine ⟨⟨vs, ho, hl, fun i hi => ?_, hd⟩, fun q => h.nz (hz _ q), fun b hb => h.lt b (hz b hb)⟩
  obtain ⟨a, l, c, h1, h2, h3, h4⟩ := hr i hi
  exact ⟨a, l, c, h1, h2, h3, fun b hb => ⟨(h4 b hb).1, fun q => (h4 b hb).2 (hz b q)⟩⟩
def gadd (g : Nat → List Int) (f : Nat) (t : Int) : Nat → List Int := fun i => if i = f then g i ++ [t] else g i
theorem add_spec {w : World} {TB n k cb f : Nat} {Z : Nat → Prop} {g : Nat → List Int} {t : Int} (h : ThAt w TB Z n g) (hk : Z k) (hc : Z cb) (rc : rd w cb 0 = some (pt k)) (rk : rd w k 107 = some (.slice (some ⟨TB, 0, none⟩) n n)) (hf : f < n) (hl : (g f).length ≤ 100000000) :
    Calls Tryz.prog 56 #[vi f, vi t, pt cb] w fun e w' => e = .returned (.tuple #[]) ∧ ThAt w' TB Z n (gadd g f t) ∧ Kept (fun b => ¬ Z b) w w' := by
  refine (vc56 f t (some ⟨cb, 0, none⟩) w (fun v w' => v = .tuple #[] ∧ ThAt w' TB Z n (gadd g f t) ∧ Kept (fun b => ¬ Z b) w w') ?_).mono ?_
  · unfold vcP56
    intro w1 e1
    have k1 : Kept none' w w1 := (Kept.refl _ _).dr e1
    have h1 := h.k k1
    obtain ⟨vs, ho, hvl, hr, hd⟩ := h1.ex
    obtain ⟨a, l, c, g1, rfl, g3, g4⟩ := hr f hf
    have rc1 := k1.rd_some rc id
    have rk1 := k1.rd_some rk id
    refine Wif_yes rfl ⟨some ⟨k, 0, none⟩, rc1, Wif_yes rfl ⟨_, _, _, rk1, Wif_yes rfl ⟨some ⟨k, 0, none⟩, rc1, Wif_yes rfl ⟨_, _, _, rk1, Wif_yes rfl (Wif_yes (inB_of (by omega) (by omega)) ⟨a, (g f).length, c, ?_, ?_⟩)⟩⟩⟩⟩
    · rw [Int.toNat_natCast]
      exact (ho.rd (0 + f * 1)).trans (by simpa using g1)
    intro w2 e2
    have k2 : Kept none' w1 w2 := (Kept.refl _ _).al e2
    have o2 := own_alloc (c := [vi t]) e2
    have ho2 := ho.al e2
    have g32 : w2.ownsRow 0 123 1 (.slice a (g f).length c) (g f).length ((g f).map vi) := ownsRow_kx g3 k2 fun _ _ _ _ => id
    have rc2 := k2.rd_some rc1 id
    have rk2 := k2.rd_some rk1 id
    have hs2 := k2.sz
    have rT2 : rd w2 TB f = some (.slice a (g f).length c) := by rw [ho2.rd]; exact g1
    cases hi : Tryz.prog.info? 123 with
    | none => have := info_thing; rw [hi] at this; cases this
    | some ii =>
    have hii := info_thing
    rw [hi] at hii
    simp at hii
    obtain ⟨a', l', c', w3, happ, rfl, row, k3, hsn⟩ := app_any (P := Tryz.prog) (t := 124) (e := 123) (i := ii) (z := vi 0) (size := 1) Tryz.underlying124 hi hii.1 hii.2.1 rfl (by decide) g32 o2 (m := 1) (off := 0) (c := 1) (news := [vi t]) rfl rfl (fun u hu => by simp at hu; subst hu; rfl) (by omega) (by omega) (by omega)
    have hnz : ∀ b, (Value.slice a (g f).length c).ownBlock = some b → ¬ Z b := fun b hb => (g4 b hb).2
    have rc3 := k3.rd_some rc2 fun hb => hnz _ hb hc
    have rk3 := k3.rd_some rk2 fun hb => hnz _ hb hk
    have hTB : ∀ b, (Value.slice a (g f).length c).ownBlock = some b → b ≠ TB := fun b hb => (g4 b hb).1
    have ho3 := ho2.kx k3 fun hb => hTB _ hb rfl
    refine ⟨⟨by rw [Int.toNat_natCast]; exact (ho2.rd (0 + f * 1)).trans (by simpa using g1), trivial⟩, ⟨rk2, trivial⟩, ⟨rc2, trivial⟩, ⟨rk2, trivial⟩, ⟨rc2, trivial⟩, a', _, c', w3, happ, ⟨rc3, trivial⟩, ⟨rk3, trivial⟩, ⟨rc3, trivial⟩, Wif_yes rfl (Wif_yes (inB_of (by omega) (by omega)) ⟨?_, ?_⟩)⟩
    · rw [Int.toNat_natCast]
      exact ho3.wr (by simpa [hvl] using hf)
    intro w4 e4
    rw [Int.toNat_natCast] at e4
    have e4 : w4 = st w3 TB f (.slice a' ((g f).length + 1) c') := by simpa using e4
    have ho4 := ho3.s1 e4
    have k4 : Kept (· = TB) w3 w4 := by rw [e4]; exact (Kept.refl _ _).st (.inl rfl)
    have hs3 := k3.sz
    have hsz1 : w1.heap.size = w.heap.size := by rw [e1]; rfl
    have hTBlt := ho.lt
    refine ⟨rfl, ⟨⟨_, ho4, by simpa using hvl, fun i hi => ?_, ?_⟩, h.nz, fun b hb => ?_⟩, ?_⟩
    · by_cases hif : i = f
      · subst hif
        refine ⟨a', _, c', by rw [List.getElem?_set_self (by omega)], by simp [gadd], ?_, ?_⟩
        · have : (gadd g i t i).map vi = (g i).map vi ++ [vi t] := by simp [gadd]
          rw [this]
          refine ownsRow_kx row k4 fun b _ _ hb e => ?_
          subst e
          rcases hsn with hsn | hsn
          · rw [hsn] at hb
            exact hTB _ hb rfl
          · have := hsn _ hb; omega
        · intro b hb
          rcases hsn with hsn | hsn
          · rw [hsn] at hb
            exact g4 b hb
          · have := hsn b hb
            exact ⟨by omega, fun hz => by have := h.lt b hz; omega⟩
      · obtain ⟨a2, l2, c2, q1, q2, q3, q4⟩ := hr i hi
        have hdis : ∀ b, (Value.slice a2 l2 c2).ownBlock = some b → (Value.slice a (g f).length c).ownBlock ≠ some b := fun b hb hb' => hif (hd i f _ _ b q1 g1 hb hb')
        refine ⟨a2, l2, c2, by rw [List.getElem?_set_ne (Ne.symm hif)]; exact q1, by simp [gadd, hif, q2], ?_, q4⟩
        have : (gadd g f t i).map vi = (g i).map vi := by simp [gadd, hif]
        rw [this]
        exact ownsRow_kx (ownsRow_kx (ownsRow_kx q3 k2 fun _ _ _ _ => id) k3 fun b _ _ hb hb' => hdis b hb hb') k4 fun b _ _ hb e => (q4 b hb).1 e
    · have old : ∀ (i : Nat) (u : Value) (b : Nat), vs[i]? = some u → i < n → u.ownBlock = some b → b < w2.heap.size := by
        intro i u b hu hi hb
        obtain ⟨a2, l2, c2, q1, q2, q3, q4⟩ := hr i hi
        rw [q1] at hu
        cases hu
        have := row_blk q3 hb
        omega
      have hlt : ∀ (i : Nat) (u : Value), vs[i]? = some u → i < n := fun i u hu => by have := (List.getElem?_eq_some_iff.1 hu).1; omega
      intro i j u v b hu hv hub hvb
      rw [List.getElem?_set] at hu hv
      split at hu <;> split at hv
      · omega
      · rename_i hi hj
        rw [if_pos (by omega)] at hu
        cases hu
        rcases hsn with hsn | hsn
        · rw [hsn] at hub
          rw [← hi]
          exact hd f j _ _ b g1 hv hub hvb
        · have := hsn b hub
          have := old j v b hv (hlt j v hv) hvb
          omega
      · rename_i hi hj
        rw [if_pos (by omega)] at hv
        cases hv
        rcases hsn with hsn | hsn
        · rw [hsn] at hvb
          rw [← hj]
          exact hd i f _ _ b hu g1 hub hvb
        · have := hsn b hvb
          have := old i u b hu (hlt i u hu) hub
          omega
      · exact hd i j u v b hu hv hub hvb
    · have := h.lt b hb
      have := k4.sz
      omega
    · refine (((k1.trans k2 fun _ _ h => h).weak (Y := fun b => ¬ Z b) fun b hb => hb.elim).go k3 fun b hb => .inl (hnz b hb)).go k4 fun b hb => .inl ?_
      subst hb
      exact h.nz
  · rintro e w' ⟨v, rfl, rfl, hw⟩
    exact ⟨rfl, hw⟩
end Go.Proofs.YtikjgeenhbnkkaaGreatDoor
set_option linter.unusedVariables false
set_option maxRecDepth 100000
namespace Go.Proofs.YtikjgeenhbnkkaaGreatDoor
open Go Go.Eng
open Go.Value (slice)
/- (*byre/audit.looker).count -/
def vcP19 (k : Option Addr) (w : World) (K : Value → World → Prop) : Prop := ∀ (w' : World), w' = World.alloc w (Obj.cells #[Value.pointer k] 84) → ∃ (x : Option Addr), rd w' w.heap.size 0 = some (.pointer x) ∧ Wif (isP x) (∃ (x_1 : Option Addr) (x_2 x_3 : Nat), rd w' (pb x) (po x + 95) = some (.slice x_1 x_2 x_3) ∧ ∃ (I : Int → World → Nat → Prop), (∃ (n : Nat), I 0 w' n) ∧ ∀ (n : Int) (w' : World) (n_1 : Nat), I n w' n_1 → Wif (decide (n < (↑x_2 : Int))) (Wif (isP x_1) (Wif (inB n x_2) (∃ (x x_4 : Int), (rd w' (pb x_1) (po x_1 + Int.toNat n * 2) = some (.int .i64 x) ∧ rd w' (pb x_1) (po x_1 + Int.toNat n * 2 + 1) = some (.int .i64 x_4)) ∧ ∀ (w'_1 : World), w'_1 = World.alloc w' (Obj.cells #[Value.int .i64 0, Value.int .i64 0] 43) → (wr w'_1 w'.heap.size 0 ∧ wr w'_1 w'.heap.size 1) ∧ ∀ (w'_2 : World), w'_2 = st (st w'_1 w'.heap.size 0 (Value.int .i64 x)) w'.heap.size 1 (Value.int .i64 x_4) → ∃ (x : Int), rd w'_2 w'.heap.size 1 = some (.int .i64 x) ∧ Wif (decide (0 ≤ x)) (∃ (I_1 : Int → World → Nat → Prop), (∃ (n : Nat), I_1 0 w'_2 n) ∧ ∀ (n_2 : Int) (w'_3 : World) (n_3 : Nat), I_1 n_2 w'_3 n_3 → Wif (decide (n_2 < IntKind.wrap .i64 (1 * 2 ^ min (Int.toNat x) 64))) (∃ (x : Int), rd w'_3 w'.heap.size 0 = some (.int .i64 x) ∧ Calls Tryz.prog 56 #[Value.int .i64 (IntKind.wrap .i64 (x + n_2)), Value.int .i64 0, Value.pointer (some (Addr.mk w.heap.size 0 none))] w'_3 fun (e : Ending) (w' : World) => e = Ending.returned (Value.tuple #[]) ∧ ∃ (m : Nat), Nat.succ m ≤ n_3 ∧ I_1 (IntKind.wrap .i64 (n_2 + 1)) w' m) (∃ (m : Nat), Nat.succ m ≤ n_1 ∧ I (IntKind.wrap .i64 (n + 1)) w'_3 m)) False) False) False) (∃ (x : Option Addr), rd w' w.heap.size 0 = some (.pointer x) ∧ Wif (isP x) (∃ (x_4 : Option Addr) (x_5 x_6 : Nat), rd w' (pb x) (po x + 96) = some (.slice x_4 x_5 x_6) ∧ ∃ (I : Int → World → Nat → Prop), (∃ (n : Nat), I 0 w' n) ∧ ∀ (n : Int) (w' : World) (n_2 : Nat), I n w' n_2 → Wif (decide (n < (↑x_5 : Int))) (Wif (isP x_4) (Wif (inB n x_5) (∃ (x : Option Addr) (x_7 x_8 : Nat), rd w' (pb x_4) (po x_4 + Int.toNat n * 1) = some (.slice x x_7 x_8) ∧ ∃ (I_1 : Int → World → Nat → Prop), (∃ (n : Nat), I_1 0 w' n) ∧ ∀ (n_3 : Int) (w' : World) (n_4 : Nat), I_1 n_3 w' n_4 → Wif (decide (n_3 < (↑x_7 : Int))) (Wif (isP x) (Wif (inB n_3 x_7) (∃ (x_9 : Int), rd w' (pb x) (po x + Int.toNat n_3 * 1) = some (.int .i64 x_9) ∧ Calls Tryz.prog 56 #[Value.int .i64 x_9, Value.int .i64 1, Value.pointer (some (Addr.mk w.heap.size 0 none))] w' fun (e : Ending) (w' : World) => e = Ending.returned (Value.tuple #[]) ∧ ∃ (m : Nat), Nat.succ m ≤ n_4 ∧ I_1 (IntKind.wrap .i64 (n_3 + 1)) w' m) False) False) (∃ (m : Nat), Nat.succ m ≤ n_2 ∧ I (IntKind.wrap .i64 (n + 1)) w' m)) False) False) (∃ (x : Option Addr), rd w' w.heap.size 0 = some (.pointer x) ∧ Wif (isP x) (∃ (x_7 : Option Addr) (x_8 x_9 : Nat), rd w' (pb x) (po x + 99) = some (.slice x_7 x_8 x_9) ∧ ∃ (I : Int → World → Nat → Prop), (∃ (n : Nat), I 0 w' n) ∧ ∀ (n : Int) (w' : World) (n_3 : Nat), I n w' n_3 → Wif (decide (n < (↑x_8 : Int))) (Wif (isP x_7) (Wif (inB n x_8) (∃ (x x_10 : Int) (x_11 : Option Addr) (x_12 x_13 : Nat) (x_14 : Option Addr) (x_15 x_16 : Nat) (x_17 : Option Addr) (x_18 x_19 : Nat) (x_20 : Option Addr) (x_21 x_22 : Nat), (rd w' (pb x_7) (po x_7 + Int.toNat n * 6) = some (.int .i64 x) ∧ rd w' (pb x_7) (po x_7 + Int.toNat n * 6 + 1) = some (.int .i64 x_10) ∧ rd w' (pb x_7) (po x_7 + Int.toNat n * 6 + 2) = some (.slice x_11 x_12 x_13) ∧ rd w' (pb x_7) (po x_7 + Int.toNat n * 6 + 3) = some (.slice x_14 x_15 x_16) ∧ rd w' (pb x_7) (po x_7 + Int.toNat n * 6 + 4) = some (.slice x_17 x_18 x_19) ∧ rd w' (pb x_7) (po x_7 + Int.toNat n * 6 + 5) = some (.slice x_20 x_21 x_22)) ∧ ∀ (w'_1 : World), w'_1 = World.alloc w' (Obj.cells #[Value.int .i64 0, Value.int .i64 0, slice none 0 0, slice none 0 0, slice none 0 0, slice none 0 0] 48) → (wr w'_1 w'.heap.size 0 ∧ wr w'_1 w'.heap.size 1 ∧ wr w'_1 w'.heap.size 2 ∧ wr w'_1 w'.heap.size 3 ∧ wr w'_1 w'.heap.size 4 ∧ wr w'_1 w'.heap.size 5) ∧ ∀ (w'_2 : World), w'_2 = st (st (st (st (st (st w'_1 w'.heap.size 0 (Value.int .i64 x)) w'.heap.size 1 (Value.int .i64 x_10)) w'.heap.size 2 (slice x_11 x_12 x_13)) w'.heap.size 3 (slice x_14 x_15 x_16)) w'.heap.size 4 (slice x_17 x_18 x_19)) w'.heap.size 5 (slice x_20 x_21 x_22) → ∃ (x : Int), rd w'_2 w'.heap.size 1 = some (.int .i64 x) ∧ Calls Tryz.prog 56 #[Value.int .i64 x, Value.int .i64 2, Value.pointer (some (Addr.mk w.heap.size 0 none))] w'_2 fun (e : Ending) (w'_3 : World) => e = Ending.returned (Value.tuple #[]) ∧ ∃ (x : Option Addr) (x_23 x_24 : Nat), rd w'_3 w'.heap.size 2 = some (.slice x x_23 x_24) ∧ ∃ (I_1 : Int → World → Nat → Prop), (∃ (n : Nat), I_1 0 w'_3 n) ∧ ∀ (n_4 : Int) (w'_4 : World) (n_5 : Nat), I_1 n_4 w'_4 n_5 → Wif (decide (n_4 < (↑x_23 : Int))) (Wif (isP x) (Wif (inB n_4 x_23) (∃ (x_25 x_26 : Int), (rd w'_4 (pb x) (po x + Int.toNat n_4 * 2) = some (.int .i64 x_25) ∧ rd w'_4 (pb x) (po x + Int.toNat n_4 * 2 + 1) = some (.int .i64 x_26)) ∧ ∀ (w' : World), w' = World.alloc w'_4 (Obj.cells #[Value.int .i64 0, Value.int .i64 0] 75) → (wr w' w'_4.heap.size 0 ∧ wr w' w'_4.heap.size 1) ∧ ∀ (w'_5 : World), w'_5 = st (st w' w'_4.heap.size 0 (Value.int .i64 x_25)) w'_4.heap.size 1 (Value.int .i64 x_26) → ∃ (x : Int), rd w'_5 w'_4.heap.size 1 = some (.int .i64 x) ∧ Calls Tryz.prog 56 #[Value.int .i64 x, Value.int .i64 2, Value.pointer (some (Addr.mk w.heap.size 0 none))] w'_5 fun (e : Ending) (w' : World) => e = Ending.returned (Value.tuple #[]) ∧ ∃ (m : Nat), Nat.succ m ≤ n_5 ∧ I_1 (IntKind.wrap .i64 (n_4 + 1)) w' m) False) False) (∃ (x x_25 : Int) (x_26 : Option Addr) (x_27 x_28 : Nat) (x_29 : Option Addr) (x_30 x_31 : Nat) (x_32 : Option Addr) (x_33 x_34 : Nat) (x_35 : Option Addr) (x_36 x_37 : Nat), (rd w'_4 w'.heap.size 0 = some (.int .i64 x) ∧ rd w'_4 w'.heap.size 1 = some (.int .i64 x_25) ∧ rd w'_4 w'.heap.size 2 = some (.slice x_26 x_27 x_28) ∧ rd w'_4 w'.heap.size 3 = some (.slice x_29 x_30 x_31) ∧ rd w'_4 w'.heap.size 4 = some (.slice x_32 x_33 x_34) ∧ rd w'_4 w'.heap.size 5 = some (.slice x_35 x_36 x_37)) ∧ ∀ (w'_5 : World), w'_5 = World.alloc w'_4 (Obj.map #[] 0) → ∀ (w'_6 : World), w'_6 = World.alloc w'_5 (Obj.cells #[Value.int .i64 x, Value.int .i64 x_25, slice x_26 x_27 x_28, slice x_29 x_30 x_31, slice x_32 x_33 x_34, slice x_35 x_36 x_37, Value.map (some w'_4.heap.size)] 129) → ∃ (x : Option Addr) (x_38 x_39 : Nat), rd w'_6 w'.heap.size 3 = some (.slice x x_38 x_39) ∧ ∃ (I_2 : Int → World → Nat → Prop), (∃ (n : Nat), I_2 0 w'_6 n) ∧ ∀ (n_6 : Int) (w'_7 : World) (n_7 : Nat), I_2 n_6 w'_7 n_7 → Wif (decide (n_6 < (↑x_38 : Int))) (Wif (isP x) (Wif (inB n_6 x_38) (∃ (x_40 x_41 x_42 : Int), (rd w'_7 (pb x) (po x + Int.toNat n_6 * 3) = some (.int .i64 x_40) ∧ rd w'_7 (pb x) (po x + Int.toNat n_6 * 3 + 1) = some (.int .u8 x_41) ∧ rd w'_7 (pb x) (po x + Int.toNat n_6 * 3 + 2) = some (.int .i64 x_42)) ∧ ∀ (w' : World), w' = World.alloc w'_7 (Obj.cells #[Value.int .i64 0, Value.int .u8 0, Value.int .i64 0] 52) → (wr w' w'_7.heap.size 0 ∧ wr w' w'_7.heap.size 1 ∧ wr w' w'_7.heap.size 2) ∧ ∀ (w'_8 : World), w'_8 = st (st (st w' w'_7.heap.size 0 (Value.int .i64 x_40)) w'_7.heap.size 1 (Value.int .u8 x_41)) w'_7.heap.size 2 (Value.int .i64 x_42) → ∀ (w1 : World), w1 = World.drew w'_8 → ∃ (x : Option Nat), rd w1 w'_5.heap.size 6 = some (.map x) ∧ ∃ (x_43 : Int), rd w1 w'_7.heap.size 0 = some (.int .i64 x_43) ∧ ∃ (x_44 x_45 : Int), (rd w1 w'_7.heap.size 1 = some (.int .u8 x_44) ∧ rd w1 w'_7.heap.size 2 = some (.int .i64 x_45)) ∧ ∃ (w' : World), updIs Tryz.prog 127 (Value.map x) (Value.int .i64 x_43) (Value.agg #[Value.int .u8 x_44, Value.int .i64 x_45]) w1 w' ∧ ∃ (m : Nat), Nat.succ m ≤ n_7 ∧ I_2 (IntKind.wrap .i64 (n_6 + 1)) w' m) False) False) (∀ (w1 : World), w1 = World.drew w'_7 → ∃ (x : Option Addr), rd w1 w.heap.size 0 = some (.pointer x) ∧ Wif (isP x) (∃ (x_40 : Option Nat), rd w1 (pb x) (po x + 110) = some (.map x_40) ∧ ∃ (x : Int), rd w1 w'.heap.size 0 = some (.int .i64 x) ∧ ∃ (w' : World), updIs Tryz.prog 88 (Value.map x_40) (Value.int .i64 x) (Value.pointer (some (Addr.mk w'_5.heap.size 0 none))) w1 w' ∧ ∃ (m : Nat), Nat.succ m ≤ n_3 ∧ I (IntKind.wrap .i64 (n + 1)) w' m) False))) False) False) (∃ (x : Option Addr), rd w' w.heap.size 0 = some (.pointer x) ∧ Wif (isP x) (∃ (x_10 : Option Addr) (x_11 x_12 : Nat), rd w' (pb x) (po x + 100) = some (.slice x_10 x_11 x_12) ∧ ∃ (I : Int → World → Nat → Prop), (∃ (n : Nat), I 0 w' n) ∧ ∀ (n : Int) (w' : World) (n_4 : Nat), I n w' n_4 → Wif (decide (n < (↑x_11 : Int))) (Wif (isP x_10) (Wif (inB n x_11) (∃ (x x_13 x_14 : Int), (rd w' (pb x_10) (po x_10 + Int.toNat n * 3) = some (.int .i64 x) ∧ rd w' (pb x_10) (po x_10 + Int.toNat n * 3 + 1) = some (.int .i64 x_13) ∧ rd w' (pb x_10) (po x_10 + Int.toNat n * 3 + 2) = some (.int .i64 x_14)) ∧ ∀ (w'_1 : World), w'_1 = World.alloc w' (Obj.cells #[Value.int .i64 0, Value.int .i64 0, Value.int .i64 0] 63) → (wr w'_1 w'.heap.size 0 ∧ wr w'_1 w'.heap.size 1 ∧ wr w'_1 w'.heap.size 2) ∧ ∀ (w'_2 : World), w'_2 = st (st (st w'_1 w'.heap.size 0 (Value.int .i64 x)) w'.heap.size 1 (Value.int .i64 x_13)) w'.heap.size 2 (Value.int .i64 x_14) → ∃ (x : Int), rd w'_2 w'.heap.size 0 = some (.int .i64 x) ∧ Calls Tryz.prog 56 #[Value.int .i64 x, Value.int .i64 3, Value.pointer (some (Addr.mk w.heap.size 0 none))] w'_2 fun (e : Ending) (w'_3 : World) => e = Ending.returned (Value.tuple #[]) ∧ ∀ (w1 : World), w1 = World.drew w'_3 → ∃ (x : Option Addr), rd w1 w.heap.size 0 = some (.pointer x) ∧ Wif (isP x) (∃ (x_15 : Option Nat), rd w1 (pb x) (po x + 108) = some (.map x_15) ∧ ∃ (x : Int), rd w1 w'.heap.size 0 = some (.int .i64 x) ∧ ∃ (x_16 x_17 x_18 : Int), (rd w1 w'.heap.size 0 = some (.int .i64 x_16) ∧ rd w1 w'.heap.size 1 = some (.int .i64 x_17) ∧ rd w1 w'.heap.size 2 = some (.int .i64 x_18)) ∧ ∃ (w' : World), updIs Tryz.prog 86 (Value.map x_15) (Value.int .i64 x) (Value.agg #[Value.int .i64 x_16, Value.int .i64 x_17, Value.int .i64 x_18]) w1 w' ∧ ∃ (m : Nat), Nat.succ m ≤ n_4 ∧ I (IntKind.wrap .i64 (n + 1)) w' m) False) False) False) (∃ (x : Option Addr), rd w' w.heap.size 0 = some (.pointer x) ∧ Wif (isP x) (∃ (x_13 : Option Addr) (x_14 x_15 : Nat), rd w' (pb x) (po x + 103) = some (.slice x_13 x_14 x_15) ∧ ∃ (I : Int → World → Nat → Prop), (∃ (n : Nat), I 0 w' n) ∧ ∀ (n : Int) (w' : World) (n_5 : Nat), I n w' n_5 → Wif (decide (n < (↑x_14 : Int))) (Wif (isP x_13) (Wif (inB n x_14) (∃ (x x_16 x_17 x_18 x_19 : Int) (x_20 : Option Addr) (x_21 x_22 : Nat) (x_23 : Option Addr) (x_24 x_25 : Nat), (rd w' (pb x_13) (po x_13 + Int.toNat n * 7) = some (.int .i64 x) ∧ rd w' (pb x_13) (po x_13 + Int.toNat n * 7 + 1) = some (.int .i64 x_16) ∧ rd w' (pb x_13) (po x_13 + Int.toNat n * 7 + 2) = some (.int .i64 x_17) ∧ rd w' (pb x_13) (po x_13 + Int.toNat n * 7 + 3) = some (.int .i64 x_18) ∧ rd w' (pb x_13) (po x_13 + Int.toNat n * 7 + 4) = some (.int .i64 x_19) ∧ rd w' (pb x_13) (po x_13 + Int.toNat n * 7 + 5) = some (.slice x_20 x_21 x_22) ∧ rd w' (pb x_13) (po x_13 + Int.toNat n * 7 + 6) = some (.slice x_23 x_24 x_25)) ∧ ∀ (w'_1 : World), w'_1 = World.alloc w' (Obj.cells #[Value.int .i64 0, Value.int .i64 0, Value.int .i64 0, Value.int .i64 0, Value.int .i64 0, slice none 0 0, slice none 0 0] 55) → (wr w'_1 w'.heap.size 0 ∧ wr w'_1 w'.heap.size 1 ∧ wr w'_1 w'.heap.size 2 ∧ wr w'_1 w'.heap.size 3 ∧ wr w'_1 w'.heap.size 4 ∧ wr w'_1 w'.heap.size 5 ∧ wr w'_1 w'.heap.size 6) ∧ ∀ (w'_2 : World), w'_2 = st (st (st (st (st (st (st w'_1 w'.heap.size 0 (Value.int .i64 x)) w'.heap.size 1 (Value.int .i64 x_16)) w'.heap.size 2 (Value.int .i64 x_17)) w'.heap.size 3 (Value.int .i64 x_18)) w'.heap.size 4 (Value.int .i64 x_19)) w'.heap.size 5 (slice x_20 x_21 x_22)) w'.heap.size 6 (slice x_23 x_24 x_25) → ∃ (x : Int), rd w'_2 w'.heap.size 2 = some (.int .i64 x) ∧ Calls Tryz.prog 56 #[Value.int .i64 x, Value.int .i64 4, Value.pointer (some (Addr.mk w.heap.size 0 none))] w'_2 fun (e : Ending) (w'_3 : World) => e = Ending.returned (Value.tuple #[]) ∧ ∀ (w1 : World), w1 = World.drew w'_3 → ∃ (x : Option Addr), rd w1 w.heap.size 0 = some (.pointer x) ∧ Wif (isP x) (∃ (x_26 : Option Nat), rd w1 (pb x) (po x + 109) = some (.map x_26) ∧ ∃ (x : Int), rd w1 w'.heap.size 2 = some (.int .i64 x) ∧ ∃ (x_27 x_28 x_29 x_30 x_31 : Int) (x_32 : Option Addr) (x_33 x_34 : Nat) (x_35 : Option Addr) (x_36 x_37 : Nat), (rd w1 w'.heap.size 0 = some (.int .i64 x_27) ∧ rd w1 w'.heap.size 1 = some (.int .i64 x_28) ∧ rd w1 w'.heap.size 2 = some (.int .i64 x_29) ∧ rd w1 w'.heap.size 3 = some (.int .i64 x_30) ∧ rd w1 w'.heap.size 4 = some (.int .i64 x_31) ∧ rd w1 w'.heap.size 5 = some (.slice x_32 x_33 x_34) ∧ rd w1 w'.heap.size 6 = some (.slice x_35 x_36 x_37)) ∧ ∃ (w' : World), updIs Tryz.prog 87 (Value.map x_26) (Value.int .i64 x) (Value.agg #[Value.int .i64 x_27, Value.int .i64 x_28, Value.int .i64 x_29, Value.int .i64 x_30, Value.int .i64 x_31, slice x_32 x_33 x_34, slice x_35 x_36 x_37]) w1 w' ∧ ∃ (m : Nat), Nat.succ m ≤ n_5 ∧ I (IntKind.wrap .i64 (n + 1)) w' m) False) False) False) (K (Value.tuple #[]) w')) False)) False)) False)) False)) False
theorem vcE19 (k : Option Addr) (w : World) (K : Value → World → Prop) : vcP19 k w K = Eng.wBody Tryz.prog (Eng.handOf Tryz.prog [] 1) [] Tryz.f19 (Eng.bodyOf Tryz.f19) [Value.pointer k] w K := by kernel_rfl
theorem vc19 (k : Option Addr) (w : World) (K : Value → World → Prop) (h : vcP19 k w K) : Calls Tryz.prog 19 #[Value.pointer k] w (fun e w' => ∃ v, e = .returned v ∧ K v w') := Eng.vc_of [] 1 [] Tryz.mixes Tryz.func19 (by kernel_rfl) (by kernel_rfl) (vcE19 k w K) h
end Go.Proofs.YtikjgeenhbnkkaaGreatDoor
