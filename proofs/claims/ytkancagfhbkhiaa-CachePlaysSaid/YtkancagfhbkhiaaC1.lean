/-
  A part of a proof that a law of this seat returns true at every input. Conditions: those in each theorem.
-/
import Derived.Test.YtkancagfhbkhiaaV2
import Derived.Test.YtkancagfhbkhiaaEngV
namespace Go.Proofs.Ytkancagfhbkhiaa
open Go Eng
set_option linter.unusedSimpArgs false
set_option linter.unusedVariables false
set_option maxRecDepth 10000

/-! ### a slab, as it is told -/
structure Sl where
  size : Nat
  colour : Nat
  count : Nat
  ch : List Nat
  out : Nat → Bool
  turn : Nat → Int

def fst : List Nat → Int
  | [] => 255
  | i :: _ => i
/-- the cells of a slab's struct -/
def raw (B bc : Nat) (z c n first free : Int) (out : Nat → Bool) (turn : Nat → Int) : List Value :=
  .slice (some ⟨B, 0, none⟩) 256 bc :: .int .i64 z :: .int .i64 c :: .int .i64 n :: .int .u8 first :: .int .i64 free ::
    ((List.range 32).map (fun i => Value.bool (out i)) ++ (List.range 32).map fun i => Value.int .u64 (turn i))
theorem raw_len (B bc : Nat) (z c n first free : Int) (out : Nat → Bool) (turn : Nat → Int) : (raw B bc z c n first free out turn).length = 70 := by simp [raw]
theorem raw_out (B bc : Nat) (z c n first free : Int) (out : Nat → Bool) (turn : Nat → Int) {i : Nat} (h : i < 32) : (raw B bc z c n first free out turn)[6 + i]? = some (.bool (out i)) := by
  rw [Nat.add_comm]
  simp only [raw, List.getElem?_cons_succ]
  rw [List.getElem?_append_left (by simpa using h)]
  simp [h]
theorem raw_turn (B bc : Nat) (z c n first free : Int) (out : Nat → Bool) (turn : Nat → Int) {i : Nat} (h : i < 32) : (raw B bc z c n first free out turn)[38 + i]? = some (.int .u64 (turn i)) := by
  rw [show 38 + i = (32 + i) + 6 by omega]
  simp only [raw, List.getElem?_cons_succ]
  rw [List.getElem?_append_right (by simp)]
  simp [h]
theorem map_set {α : Type} (g : Nat → α) (v : Nat → α → Nat → α) (n i : Nat) (x : α) : ((List.range n).map g).set i x = (List.range n).map (upd g i x) := by
  apply List.ext_getElem?
  intro j
  rw [List.getElem?_set]
  by_cases h : i = j
  · subst h
    by_cases hi : i < n
    · simp [hi]
    · simp [hi]
  · rw [if_neg h]
    by_cases hj : j < n
    · simp [hj, upd_ne _ _ (fun e => h e.symm)]
    · simp [hj]
theorem upd_map {α β : Type} (g : α → β) (f : Nat → α) (i : Nat) (x : α) : (upd (fun j => g (f j)) i (g x)) = fun j => g (upd f i x j) := by
  funext j
  unfold upd
  split <;> rfl
theorem raw_set_out (B bc : Nat) (z c n first free : Int) (out : Nat → Bool) (turn : Nat → Int) {i : Nat} (h : i < 32) (x : Bool) : (raw B bc z c n first free out turn).set (6 + i) (.bool x) = raw B bc z c n first free (upd out i x) turn := by
  rw [Nat.add_comm]
  simp only [raw, List.set_cons_succ]
  rw [List.set_append_left _ _ (by simpa using h), map_set _ (fun _ _ => fun _ => .bool x)]
  rw [upd_map Value.bool]
theorem raw_set_turn (B bc : Nat) (z c n first free : Int) (out : Nat → Bool) (turn : Nat → Int) {i : Nat} (h : i < 32) (x : Int) : (raw B bc z c n first free out turn).set (38 + i) (.int .u64 x) = raw B bc z c n first free out (upd turn i x) := by
  rw [show 38 + i = (32 + i) + 6 by omega]
  simp only [raw, List.set_cons_succ]
  rw [List.set_append_right _ _ (by simp), map_set _ (fun _ _ => fun _ => .bool true)]
  rw [upd_map (Value.int .u64)]
  simp
theorem raw_0 (B bc : Nat) (z c n first free : Int) (out : Nat → Bool) (turn : Nat → Int) : (raw B bc z c n first free out turn)[0]? = some (.slice (some ⟨B, 0, none⟩) 256 bc) := rfl
theorem raw_1 (B bc : Nat) (z c n first free : Int) (out : Nat → Bool) (turn : Nat → Int) : (raw B bc z c n first free out turn)[1]? = some (.int .i64 z) := rfl
theorem raw_2 (B bc : Nat) (z c n first free : Int) (out : Nat → Bool) (turn : Nat → Int) : (raw B bc z c n first free out turn)[2]? = some (.int .i64 c) := rfl
theorem raw_3 (B bc : Nat) (z c n first free : Int) (out : Nat → Bool) (turn : Nat → Int) : (raw B bc z c n first free out turn)[3]? = some (.int .i64 n) := rfl
theorem raw_4 (B bc : Nat) (z c n first free : Int) (out : Nat → Bool) (turn : Nat → Int) : (raw B bc z c n first free out turn)[4]? = some (.int .u8 first) := rfl
theorem raw_5 (B bc : Nat) (z c n first free : Int) (out : Nat → Bool) (turn : Nat → Int) : (raw B bc z c n first free out turn)[5]? = some (.int .i64 free) := rfl
theorem raw_set4 (B bc : Nat) (z c n first free : Int) (out : Nat → Bool) (turn : Nat → Int) (x : Int) : (raw B bc z c n first free out turn).set 4 (.int .u8 x) = raw B bc z c n x free out turn := rfl
theorem raw_set5 (B bc : Nat) (z c n first free : Int) (out : Nat → Bool) (turn : Nat → Int) (x : Int) : (raw B bc z c n first free out turn).set 5 (.int .i64 x) = raw B bc z c n first x out turn := rfl

/-- the free ones, as the bytes say -/
def linked (c z : Nat) (f : Nat → Int) : List Nat → Prop
  | [] => True
  | i :: l => f (c + i * z) = fst l ∧ linked c z f l
structure Good (s : Sl) (f : Nat → Int) : Prop where
  s8 : 8 ≤ s.size
  s128 : s.size ≤ 128
  col : s.colour ≤ 256 % s.size
  cnt : s.count = (256 - s.colour) / s.size
  lt : ∀ i ∈ s.ch, i < s.count
  nd : s.ch.Nodup
  link : linked s.colour s.size f s.ch
  outs : ∀ i, s.out i = true ↔ i < s.count ∧ i ∉ s.ch
  tur : ∀ i, s.turn i ≠ 0 → s.out i = true
  tr : ∀ i, 0 ≤ s.turn i ∧ s.turn i ≤ 18446744073709551615
def slRaw (B bc : Nat) (s : Sl) : List Value := raw B bc s.size s.colour s.count (fst s.ch) s.ch.length s.out s.turn
/-- in this world, at S, there is a slab of the bytes B -/
structure At (w : World) (S B bc : Nat) (s : Sl) (f : Nat → Int) : Prop where
  so : own w S (slRaw B bc s)
  by' : Eng.bytes w B f
  ne : S ≠ B
  cap : 256 ≤ bc
  good : Good s f
abbrev two (S B : Nat) : Nat → Prop := fun b => b = S ∨ b = B
theorem At.kx {X : Nat → Prop} {w w1 : World} {S B bc : Nat} {s : Sl} {f : Nat → Int} (h : At w S B bc s f) (k : Kept X w w1) (hs : ¬ X S) (hb : ¬ X B) : At w1 S B bc s f :=
  ⟨h.so.kx k hs, h.by'.kx k hb, h.ne, h.cap, h.good⟩
theorem At.k {w w1 : World} {S B bc : Nat} {s : Sl} {f : Nat → Int} (h : At w S B bc s f) (k : Kept none' w w1) : At w1 S B bc s f := h.kx k id id
theorem At.al {w w1 : World} {S B bc : Nat} {s : Sl} {f : Nat → Int} {x : Obj} (h : At w S B bc s f) (e : w1 = w.alloc x) : At w1 S B bc s f :=
  ⟨h.so.al e, h.by'.al e, h.ne, h.cap, h.good⟩
theorem At.dr {w w1 : World} {S B bc : Nat} {s : Sl} {f : Nat → Int} (h : At w S B bc s f) (e : w1 = w.drew) : At w1 S B bc s f :=
  ⟨h.so.dr e, h.by'.dr e, h.ne, h.cap, h.good⟩

theorem Good.fits {s : Sl} {f : Nat → Int} (g : Good s f) {i : Nat} (h : i < s.count) : s.colour + i * s.size + s.size ≤ 256 := by
  have h1 := g.s8
  have hc := g.cnt
  have hd : (256 - s.colour) / s.size * s.size ≤ 256 - s.colour := Nat.div_mul_le_self _ _
  have hm : (i + 1) * s.size ≤ (256 - s.colour) / s.size * s.size := Nat.mul_le_mul_right _ (by omega)
  have h2 : 256 % s.size < s.size := Nat.mod_lt _ (by omega)
  have h3 := g.col
  have h4 := g.s128
  rw [Nat.add_mul, Nat.one_mul] at hm
  omega
theorem Good.count32 {s : Sl} {f : Nat → Int} (g : Good s f) : s.count ≤ 32 := by
  rw [g.cnt]
  calc (256 - s.colour) / s.size ≤ 256 / s.size := Nat.div_le_div_right (by omega)
    _ ≤ 256 / 8 := Nat.div_le_div_left g.s8 (by omega)
    _ = 32 := rfl
theorem Good.count1 {s : Sl} {f : Nat → Int} (g : Good s f) : 1 ≤ s.count := by
  rw [g.cnt]
  have h1 := g.s8
  have h4 := g.s128
  have h2 : 256 % s.size < s.size := Nat.mod_lt _ (by omega)
  have h3 := g.col
  exact (Nat.le_div_iff_mul_le (by omega)).2 (by omega)

/-! ### the small ones -/
section
variable {w : World} {S B bc : Nat} {s : Sl} {f : Nat → Int}
theorem none_spec (a : At w S B bc s f) : Calls Try.prog 55 #[.pointer (some ⟨S, 0, none⟩)] w fun e w' => e = .returned (.bool false) ∧ w' = w := by
  refine (vc55 _ w (fun v w' => v = .bool false ∧ w' = w) ?_).mono ?_
  · unfold vcP55
    have := a.good.s8
    refine gIf_intro (fun _ => rfl) ⟨s.size, fun _ => by simp [a.so.rd]; rfl, ?_, rfl⟩
    simp; omega
  · rintro e w' ⟨v, rfl, rfl, rfl⟩
    exact ⟨rfl, rfl⟩
theorem count_spec (a : At w S B bc s f) : Calls Try.prog 17 #[.pointer (some ⟨S, 0, none⟩)] w fun e w' => e = .returned (.int .i64 s.count) ∧ w' = w := by
  refine (vc17 _ w (fun v w' => v = .int .i64 s.count ∧ w' = w) ?_).mono ?_
  · unfold vcP17
    have := a.good.s8
    refine gIf_intro (fun _ => rfl) ⟨s.size, fun _ => by simp [a.so.rd]; rfl, Wif_no (by simp; omega) (Wif_yes rfl ⟨s.count, by simp [a.so.rd]; rfl, rfl, rfl⟩)⟩
  · rintro e w' ⟨v, rfl, rfl, rfl⟩
    exact ⟨rfl, rfl⟩
theorem free_spec (a : At w S B bc s f) : Calls Try.prog 18 #[.pointer (some ⟨S, 0, none⟩)] w fun e w' => e = .returned (.int .i64 s.ch.length) ∧ w' = w := by
  refine (vc18 _ w (fun v w' => v = .int .i64 s.ch.length ∧ w' = w) ?_).mono ?_
  · unfold vcP18
    have := a.good.s8
    refine gIf_intro (fun _ => rfl) ⟨s.size, fun _ => by simp [a.so.rd]; rfl, Wif_no (by simp; omega) (Wif_yes rfl ⟨s.ch.length, by simp [a.so.rd]; rfl, rfl, rfl⟩)⟩
  · rintro e w' ⟨v, rfl, rfl, rfl⟩
    exact ⟨rfl, rfl⟩
theorem size_spec (a : At w S B bc s f) : Calls Try.prog 23 #[.pointer (some ⟨S, 0, none⟩)] w fun e w' => e = .returned (.int .i64 s.size) ∧ w' = w := by
  refine (vc23 _ w (fun v w' => v = .int .i64 s.size ∧ w' = w) ?_).mono ?_
  · unfold vcP23
    have := a.good.s8
    refine gIf_intro (fun _ => rfl) ⟨s.size, fun _ => by simp [a.so.rd]; rfl, Wif_no (by simp; omega) (Wif_yes rfl ⟨s.size, by simp [a.so.rd]; rfl, rfl, rfl⟩)⟩
  · rintro e w' ⟨v, rfl, rfl, rfl⟩
    exact ⟨rfl, rfl⟩
theorem colour_spec (a : At w S B bc s f) : Calls Try.prog 24 #[.pointer (some ⟨S, 0, none⟩)] w fun e w' => e = .returned (.int .i64 s.colour) ∧ w' = w := by
  refine (vc24 _ w (fun v w' => v = .int .i64 s.colour ∧ w' = w) ?_).mono ?_
  · unfold vcP24
    have := a.good.s8
    refine gIf_intro (fun _ => rfl) ⟨s.size, fun _ => by simp [a.so.rd]; rfl, Wif_no (by simp; omega) (Wif_yes rfl ⟨s.colour, by simp [a.so.rd]; rfl, rfl, rfl⟩)⟩
  · rintro e w' ⟨v, rfl, rfl, rfl⟩
    exact ⟨rfl, rfl⟩
end
/-- where an object stands, as told -/
def atOf (s : Sl) (i : Int) : Int × Int := if 0 ≤ i ∧ i < s.count then (s.colour + i * s.size, s.colour + i * s.size + s.size) else (0, 0)
theorem atOf_nat {s : Sl} {i : Nat} (h : i < s.count) : atOf s i = (((s.colour + i * s.size : Nat) : Int), ((s.colour + i * s.size + s.size : Nat) : Int)) := by
  unfold atOf
  rw [if_pos (by omega)]
  simp
theorem at_spec {w : World} {S B bc : Nat} {s : Sl} {f : Nat → Int} (a : At w S B bc s f) (i : Int) : Calls Try.prog 20 #[.pointer (some ⟨S, 0, none⟩), .int .i64 i] w fun e w' =>
    e = .returned (.tuple #[.int .i64 (atOf s i).1, .int .i64 (atOf s i).2]) ∧ Kept none' w w' := by
  refine (vc20 _ i w (fun v w' => v = .tuple #[.int .i64 (atOf s i).1, .int .i64 (atOf s i).2] ∧ Kept none' w w') ?_).mono ?_
  · unfold vcP20
    refine (none_spec a).mono ?_
    rintro _ w1 ⟨rfl, rfl⟩
    refine ⟨_, rfl, Wif_no rfl (gIf_intro (fun _ => rfl) ⟨s.count, fun _ => by simp [a.so.rd]; rfl, Wif_intro (fun h => ?_) (fun h => ?_)⟩)⟩
    · refine ⟨?_, Kept.refl _ _⟩
      simp at h
      unfold atOf
      rw [if_neg (by omega)]
    · simp at h
      obtain ⟨k, rfl⟩ := Int.eq_ofNat_of_zero_le h.1
      have hk : k < s.count := by omega
      have hf := a.good.fits hk
      intro w2 e2
      have a2 := a.dr e2
      have k2 := (Kept.refl none' w1).dr e2
      refine Wif_yes rfl ⟨s.colour, by simp [a2.so.rd]; rfl, Wif_yes rfl ⟨s.size, by simp [a2.so.rd]; rfl, ?_⟩⟩
      intro w3 e3
      have a3 := a2.dr e3
      have k3 := k2.dr e3
      refine Wif_yes rfl ⟨s.size, by simp [a3.so.rd]; rfl, ?_, k3⟩
      have hm : ((k * s.size : Nat) : Int) = (k : Int) * (s.size : Int) := Int.natCast_mul _ _
      rw [atOf_nat hk, wi (x := (k : Int) * s.size) (by omega), wi (x := (s.colour : Int) + k * s.size) (by omega), wi (by omega)]
      simp
  · rintro e w' ⟨v, rfl, rfl, h⟩
    exact ⟨rfl, h⟩

def liveOf (s : Sl) (i : Int) : Int := if 0 ≤ i ∧ i < s.count then s.turn i.toNat else 0
theorem live_spec {w : World} {S B bc : Nat} {s : Sl} {f : Nat → Int} (a : At w S B bc s f) (i : Int) : Calls Try.prog 27 #[.pointer (some ⟨S, 0, none⟩), .int .i64 i] w fun e w' =>
    e = .returned (.tuple #[.int .u64 (liveOf s i), .bool (liveOf s i != 0)]) ∧ Kept none' w w' := by
  refine (vc27 _ i w (fun v w' => v = .tuple #[.int .u64 (liveOf s i), .bool (liveOf s i != 0)] ∧ Kept none' w w') ?_).mono ?_
  · unfold vcP27
    refine (none_spec a).mono ?_
    rintro _ w1 ⟨rfl, rfl⟩
    refine ⟨_, rfl, Wif_no rfl (gIf_intro (fun _ => rfl) ⟨s.count, fun _ => by simp [a.so.rd]; rfl, Wif_intro (fun h => ?_) (fun h => ?_)⟩)⟩
    · refine ⟨?_, Kept.refl _ _⟩
      simp at h
      unfold liveOf
      rw [if_neg (by omega)]
      rfl
    · simp at h
      obtain ⟨k, rfl⟩ := Int.eq_ofNat_of_zero_le h.1
      have hk : k < s.count := by omega
      have h32 := a.good.count32
      intro w2 e2
      have a2 := a.dr e2
      have k2 := (Kept.refl none' w1).dr e2
      have ht : rd w2 S (38 + k) = some (.int .u64 (s.turn k)) := by rw [a2.so.rd]; exact raw_turn _ _ _ _ _ _ _ _ _ (by omega)
      refine Wif_yes rfl (Wif_yes (inB_of (by omega) (by omega)) ⟨s.turn k, by simp [ht], Wif_yes rfl (Wif_yes (inB_of (by omega) (by omega)) ⟨s.turn k, by simp [ht], ?_, k2⟩)⟩)
      have : liveOf s (k : Int) = s.turn k := by
        unfold liveOf
        rw [if_pos (by omega)]
        simp
      rw [this]
  · rintro e w' ⟨v, rfl, rfl, h⟩
    exact ⟨rfl, h⟩

/-! ### Take -/
theorem linked_blank {c z : Nat} {f : Nat → Int} {l : List Nat} {i : Nat} (hz : 0 < z) (hi : i ∉ l) (h : linked c z f l) : linked c z (blanked f (c + i * z) z) l := by
  induction l with
  | nil => trivial
  | cons k l ih =>
    obtain ⟨h1, h2⟩ := h
    simp only [List.mem_cons, not_or] at hi
    refine ⟨?_, ih hi.2 h2⟩
    rw [← h1]
    unfold blanked
    rw [if_neg]
    rintro ⟨ha, hb⟩
    have : i * z ≤ k * z := by omega
    have h1 : i ≤ k := Nat.le_of_mul_le_mul_right this hz
    have h2 : (i + 1) * z ≤ k * z := Nat.mul_le_mul_right _ (by omega)
    rw [Nat.add_mul] at h2
    omega
theorem linked_upd {c z : Nat} {f : Nat → Int} {l : List Nat} {i : Nat} {v : Int} (hz : 0 < z) (hi : i ∉ l) (h : linked c z f l) : linked c z (upd f (c + i * z) v) l := by
  induction l with
  | nil => trivial
  | cons k l ih =>
    obtain ⟨h1, h2⟩ := h
    simp only [List.mem_cons, not_or] at hi
    refine ⟨?_, ih hi.2 h2⟩
    rw [← h1, upd_ne]
    intro e
    have : k * z = i * z := by omega
    exact hi.1 (Nat.eq_of_mul_eq_mul_right hz this).symm
def took (s : Sl) (i : Nat) (l : List Nat) : Sl := { s with ch := l, out := upd s.out i true }
theorem Good.took {s : Sl} {f : Nat → Int} (g : Good s f) {i : Nat} {l : List Nat} (e : s.ch = i :: l) : Good (took s i l) (blanked f (s.colour + i * s.size) s.size) := by
  have hz := g.s8
  have hnd := g.nd
  have hlt := g.lt
  have hln := g.link
  rw [e] at hnd hlt hln
  simp only [List.nodup_cons] at hnd
  refine ⟨g.s8, g.s128, g.col, g.cnt, fun k hk => hlt k (List.mem_cons_of_mem _ hk), hnd.2, linked_blank (Nat.lt_of_lt_of_le (by decide) hz) hnd.1 hln.2, fun k => ?_, fun k hk => ?_, g.tr⟩
  · show upd s.out i true k = true ↔ _
    by_cases h : k = i
    · subst h
      simp only [upd_same, true_iff]
      exact ⟨hlt k (List.mem_cons_self ..), hnd.1⟩
    · rw [upd_ne _ _ h, g.outs k, e]
      simp [h]
      exact Iff.rfl
  · show upd s.out i true k = true
    by_cases h : k = i
    · subst h; simp
    · rw [upd_ne _ _ h]; exact g.tur k hk
theorem take_none {w : World} {S B bc : Nat} {s : Sl} {f : Nat → Int} (a : At w S B bc s f) (h : s.ch = []) : Calls Try.prog 19 #[.pointer (some ⟨S, 0, none⟩)] w fun e w' =>
    e = .returned (.tuple #[.int .i64 0, .int .i64 9]) ∧ w' = w := by
  refine (vc19 _ w (fun v w' => v = .tuple #[.int .i64 0, .int .i64 9] ∧ w' = w) ?_).mono ?_
  · unfold vcP19
    have := a.good.s8
    refine gIf_intro (fun _ => rfl) ⟨s.size, fun _ => by simp [a.so.rd]; rfl, Wif_no (by simp; omega) (Wif_yes rfl ⟨s.ch.length, by simp [a.so.rd]; rfl, Wif_yes (by simp [h]) ⟨rfl, rfl⟩⟩)⟩
  · rintro e w' ⟨v, rfl, rfl, h⟩
    exact ⟨rfl, h⟩
theorem take_some {w : World} {S B bc : Nat} {s : Sl} {f : Nat → Int} (a : At w S B bc s f) {i : Nat} {l : List Nat} (h : s.ch = i :: l) : Calls Try.prog 19 #[.pointer (some ⟨S, 0, none⟩)] w fun e w' =>
    e = .returned (.tuple #[.int .i64 i, .int .i64 0]) ∧ Kept (two S B) w w' ∧ At w' S B bc (took s i l) (blanked f (s.colour + i * s.size) s.size) := by
  refine (vc19 _ w (fun v w' => v = .tuple #[.int .i64 i, .int .i64 0] ∧ Kept (two S B) w w' ∧ At w' S B bc (took s i l) (blanked f (s.colour + i * s.size) s.size)) ?_).mono ?_
  · unfold vcP19
    have h8 := a.good.s8
    have h32 := a.good.count32
    have hi : i < s.count := a.good.lt i (by rw [h]; exact List.mem_cons_self ..)
    have hf := a.good.fits hi
    have hlen : s.ch.length = l.length + 1 := by rw [h]; rfl
    have hlink : f (s.colour + i * s.size) = fst l := by
      have := a.good.link
      rw [h] at this
      exact this.1
    have hfst : fst s.ch = i := by rw [h]; rfl
    have hnd : l.length ≤ 32 := by
      have h1 := a.good.nd
      have h2 := a.good.lt
      rw [h] at h1 h2
      have h3 : (List.range s.count).length = s.count := by simp
      have := (List.nodup_cons.1 h1).2.length_le_of_subset (l₂ := List.range s.count) (fun x hx => by simp; exact h2 x (List.mem_cons_of_mem _ hx))
      simp at this
      omega
    refine gIf_intro (fun _ => rfl) ⟨s.size, fun _ => by simp [a.so.rd]; rfl, Wif_no (by simp; omega) (Wif_yes rfl ⟨s.ch.length, by simp [a.so.rd]; rfl, Wif_no (by simp [h]; omega) ?_⟩)⟩
    refine Wif_yes rfl ⟨i, by simp [a.so.rd]; rw [← hfst]; rfl, ?_⟩
    have hw : IntKind.wrap .i64 (i : Int) = i := wi (by omega)
    rw [hw]
    clear hw hfst
    refine (at_spec a i).mono ?_
    rintro _ w1 ⟨rfl, k1⟩
    have a1 := a.k k1
    have k1 : Kept (two S B) w w1 := k1.weak (fun b hb => hb.elim)
    rw [atOf_nat hi]
    refine ⟨_, _, rfl, ?_⟩
    dsimp only
    refine Wif_yes rfl ⟨some ⟨B, 0, none⟩, 256, bc, (a1.so.rd 0).trans (raw_0 _ _ _ _ _ _ _ _ _), ?_⟩
    refine Wif_yes (isP_some _ _) ?_
    have hin : inB ((s.colour + i * s.size : Nat) : Int) 256 = true := by
      clear hlink k1 a1
      exact inB_of (Int.natCast_nonneg _) (by omega)
    refine Wif_yes hin ?_
    clear hin
    refine ⟨f (s.colour + i * s.size), ?_, ?_⟩
    · simp only [pb_some, po_some, Int.toNat_natCast, Nat.mul_one, Nat.zero_add]
      exact a1.by'.rd (by omega)
    refine Wif_yes (isP_some _ _) ?_
    refine ⟨a1.so.wr (by rw [slRaw, raw_len]; simp), ?_⟩
    intro w2 e2
    simp at e2
    have o2 := a1.so.s1 e2
    have b2 := a1.by'.n1 e2 (Ne.symm a1.ne)
    have k2 := k1.s1 e2 (.inl (.inl rfl))
    rw [slRaw, raw_set4] at o2
    refine Wif_yes rfl ⟨some ⟨B, 0, none⟩, 256, bc, (o2.rd 0).trans (raw_0 _ _ _ _ _ _ _ _ _), Wif_yes (okSl_of (by omega) (by omega) (by have := a.cap; omega)) ?_⟩
    have hoff : offA (some ⟨B, 0, none⟩) bc (Int.toNat ((s.colour + i * s.size : Nat) : Int)) 1 = some ⟨B, s.colour + i * s.size, none⟩ := by
      rw [Int.toNat_natCast]
      exact offA_0 (by have := a.cap; omega)
    have hsub : Int.toNat ((s.colour + i * s.size + s.size : Nat) : Int) - Int.toNat ((s.colour + i * s.size : Nat) : Int) = s.size := by
      simp; omega
    rw [hoff, hsub]
    obtain ⟨w3, hc, b3, kc⟩ := b2.clr (P := Try.prog) (t := 22) (e := 5) (ty := 0) Try.underlying22 (fun _ => rfl) (s.colour + i * s.size) s.size (bc - Int.toNat ((s.colour + i * s.size : Nat) : Int)) hf
    refine ⟨w3, hc, Wif_yes rfl (Wif_yes (inB_of (by omega) (by omega)) ⟨?_, ?_⟩)⟩
    · have o3 := o2.kx kc a.ne
      exact o3.wr (by rw [raw_len]; simp; omega)
    · have o3 := o2.kx kc a.ne
      have k3 := k2.go kc (fun b hb => .inl (.inr hb))
      intro w4 e4
      simp at e4
      have o4 := o3.s1 e4
      rw [raw_set_out _ _ _ _ _ _ _ _ _ (by omega)] at o4
      have b4 := b3.n1 e4 (Ne.symm a1.ne)
      have k4 := k3.s1 e4 (.inl (.inl rfl))
      refine Wif_yes rfl ⟨s.ch.length, by simp [o4.rd]; rfl, Wif_yes rfl ⟨o4.wr (by rw [raw_len]; simp), ?_⟩⟩
      intro w5 e5
      simp at e5
      have o5 := o4.s1 e5
      rw [raw_set5] at o5
      have b5 := b4.n1 e5 (Ne.symm a1.ne)
      have k5 := k4.s1 e5 (.inl (.inl rfl))
      refine ⟨rfl, k5, ?_, b5, a1.ne, a1.cap, a.good.took h⟩
      rw [hlink] at o5
      rw [hlen, wi (by omega)] at o5
      have he : (((l.length + 1 : Nat) : Int) - 1) = (l.length : Int) := by omega
      rw [he] at o5
      exact o5
  · rintro e w' ⟨v, rfl, rfl, h⟩
    exact ⟨rfl, h⟩
end Go.Proofs.Ytkancagfhbkhiaa
