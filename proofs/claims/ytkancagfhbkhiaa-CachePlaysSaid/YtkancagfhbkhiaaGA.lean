/-
  A part of a proof that a law of this seat returns true at every input. Conditions: those in each theorem.
-/
import Derived.Test.YtkancagfhbkhiaaD5c
import Derived.Test.YtkancagfhbkhiaaK5
import Derived.Test.YtkancagfhbkhiaaW3
namespace Go.Proofs.Ytkancagfhbkhiaa
open Go Eng
set_option linter.unusedSimpArgs false
set_option linter.unusedVariables false
set_option maxRecDepth 10000

/-! ### the document's cache -/
structure Dsl where
  fr : Int
  R : Nat
  B : Nat
  bc : Nat
  a : Option Addr
  lc : Nat
  s : Sl
  f : Nat → Int
def plD : List Dsl → List Value
  | [] => []
  | d :: D => .int .i64 d.fr :: ptr d.R :: plD D
theorem plD_len : ∀ D : List Dsl, (plD D).length = 2 * D.length
  | [] => rfl
  | d :: D => by simp only [plD, List.length_cons, plD_len D]; omega
theorem plD_0 : ∀ {D : List Dsl} {k : Nat} (h : k < D.length), (plD D)[k * 2]? = some (.int .i64 D[k].fr)
  | d :: D, 0, _ => rfl
  | d :: D, k + 1, h => by
    rw [show (k + 1) * 2 = k * 2 + 1 + 1 by omega]
    simp only [plD, List.getElem?_cons_succ, List.getElem_cons_succ]
    exact plD_0 (by simpa using h)
theorem plD_1 : ∀ {D : List Dsl} {k : Nat} (h : k < D.length), (plD D)[k * 2 + 1]? = some (ptr D[k].R)
  | d :: D, 0, _ => rfl
  | d :: D, k + 1, h => by
    rw [show (k + 1) * 2 + 1 = (k * 2 + 1) + 1 + 1 by omega]
    simp only [plD, List.getElem?_cons_succ, List.getElem_cons_succ]
    exact plD_1 (by simpa using h)
theorem plD_app : ∀ D1 D2 : List Dsl, plD (D1 ++ D2) = plD D1 ++ plD D2
  | [], D2 => rfl
  | d :: D1, D2 => by simp only [List.cons_append, plD, plD_app D1 D2]
theorem plD_drop (D1 D2 : List Dsl) : (plD (D1 ++ D2)).drop (D1.length * 2) = plD D2 := by
  rw [plD_app, List.drop_append_of_le_length (by rw [plD_len]; omega), List.drop_of_length_le (by rw [plD_len]; omega), List.nil_append]
theorem plD_take (D1 D2 : List Dsl) : (plD (D1 ++ D2)).take (D1.length * 2) = plD D1 := by
  rw [plD_app, List.take_append_of_le_length (by rw [plD_len]; omega), List.take_of_length_le (by rw [plD_len]; omega)]
theorem plD_one (D : List Dsl) : ∀ u ∈ plD D, u.oneCell' = true := by
  induction D with
  | nil => intro u hu; cases hu
  | cons d D ih =>
    intro u hu
    rcases List.mem_cons.1 hu with rfl | hu
    · rfl
    · rcases List.mem_cons.1 hu with rfl | hu
      · rfl
      · exact ih u hu
/-- what it writes, what it reads alone -/
def wbk (Q : Nat) (D : List Dsl) (b : Nat) : Prop := b = Q ∨ ∃ d ∈ D, b = d.R ∨ b = d.B
def rbk (pa : Option Addr) (D : List Dsl) (b : Nat) : Prop := (D ≠ [] ∧ b = pb pa) ∨ ∃ d ∈ D, d.s.ch ≠ [] ∧ b = pb d.a
abbrev skelD (D : List Dsl) : List (Nat × Nat) := D.map fun d => (d.R, d.B)
structure DAt (w : World) (Q z c : Nat) (pa : Option Addr) (pc : Nat) (D : List Dsl) : Prop where
  q : own w Q [.int .i64 z, .int .i64 c, .slice pa D.length pc]
  pl : Src w pa D.length pc (plD D)
  plc : D.length ≤ pc
  sl : ∀ d ∈ D, RAt w d.R d.B d.bc d.a d.lc d.s d.f ∧ d.s.size = z
  so : (D.map (·.fr)).Pairwise (· < ·)
  ap : (skelD D).Pairwise apart
  nQ : ∀ d ∈ D, d.R ≠ Q ∧ d.B ≠ Q
  rw' : ∀ b, rbk pa D b → ¬ wbk Q D b
section
variable {w w' : World} {Q z c pc : Nat} {pa : Option Addr} {D D1 D2 : List Dsl}
theorem DAt.kx {X : Nat → Prop} (h : DAt w Q z c pa pc D) (k : Kept X w w') (hx : ∀ b, X b → ¬ wbk Q D b ∧ ¬ rbk pa D b) : DAt w' Q z c pa pc D := by
  refine ⟨h.q.kx k fun x => (hx _ x).1 (.inl rfl), ?_, h.plc, fun d hd => ⟨(h.sl d hd).1.kx k (fun x => (hx _ x).1 (.inr ⟨d, hd, .inl rfl⟩)) (fun x => (hx _ x).1 (.inr ⟨d, hd, .inr rfl⟩)) (fun x => ?_), (h.sl d hd).2⟩, h.so, h.ap, h.nQ, h.rw'⟩
  · by_cases hD : D = []
    · subst hD
      exact ⟨h.pl.nil, fun hl => absurd hl (by simp [plD])⟩
    · exact h.pl.kx k fun b _ hb e => (hx b hb).2 (.inl ⟨hD, e.symm⟩)
  · by_cases hc : d.s.ch = []
    · exact hc
    · exact absurd (.inr ⟨d, hd, hc, rfl⟩) (hx _ x).2
theorem DAt.k (h : DAt w Q z c pa pc D) (k : Kept none' w w') : DAt w' Q z c pa pc D := h.kx k fun _ h => h.elim
theorem DAt.ltw (h : DAt w Q z c pa pc D) {b : Nat} (hb : wbk Q D b) : b < w.heap.size := by
  rcases hb with rfl | ⟨d, hd, rfl | rfl⟩
  · exact h.q.lt
  · exact (h.sl d hd).1.so.lt
  · exact (h.sl d hd).1.by'.lt
theorem DAt.ltr (h : DAt w Q z c pa pc D) {b : Nat} (hb : rbk pa D b) : b < w.heap.size := by
  rcases hb with ⟨hD, rfl⟩ | ⟨d, hd, hc, rfl⟩
  · have hl : 0 < D.length := List.length_pos_iff.2 hD
    exact rd_lt (h.pl.rd (plD_0 hl))
  · have hl : 0 < d.s.ch.length := List.length_pos_iff.2 hc
    exact rd_lt ((h.sl d hd).1.ch.rd (ints_get hl))
theorem DAt.r0 (h : DAt w Q z c pa pc D) : rd w Q 0 = some (.int .i64 z) := by rw [h.q.rd]; rfl
theorem DAt.r1 (h : DAt w Q z c pa pc D) : rd w Q 1 = some (.int .i64 c) := by rw [h.q.rd]; rfl
theorem DAt.r2 (h : DAt w Q z c pa pc D) : rd w Q 2 = some (.slice pa D.length pc) := by rw [h.q.rd]; rfl
theorem DAt.isp (h : DAt w Q z c pa pc D) (hD : 0 < D.length) : isP pa = true := h.pl.isp (by rw [plD_len]; omega)
theorem DAt.rf (h : DAt w Q z c pa pc D) {k : Nat} (hk : k < D.length) : rd w (pb pa) (po pa + k * 2) = some (.int .i64 D[k].fr) := h.pl.rd (plD_0 hk)
theorem DAt.rp (h : DAt w Q z c pa pc D) {k : Nat} (hk : k < D.length) : rd w (pb pa) (po pa + k * 2 + 1) = some (ptr D[k].R) := by
  rw [Nat.add_assoc]; exact h.pl.rd (plD_1 hk)

/-! ### Find -/
theorem frD_uniq (h : (D.map (·.fr)).Pairwise (· < ·)) {i j : Nat} (hi : i < D.length) (hj : j < D.length) (e : D[i].fr = D[j].fr) : i = j := by
  rw [List.pairwise_map, List.pairwise_iff_getElem] at h
  rcases Nat.lt_trichotomy i j with x | x | x
  · have := h i j hi hj x; omega
  · exact x
  · have := h j i hj hi x; omega
theorem find_spec (h : DAt w Q z c pa pc D) (hl : D.length ≤ 1000) (n : Int) : Calls Try.prog 52 #[ptr Q, .int .i64 n] w fun r w' => w' = w ∧
    ((∃ d ∈ D, d.fr = n ∧ r = .returned (ptr d.R)) ∨ ((∀ d ∈ D, d.fr ≠ n) ∧ r = .returned (.pointer none))) := by
  refine (vc52 _ n w (fun v w' => w' = w ∧ ((∃ d ∈ D, d.fr = n ∧ v = ptr d.R) ∨ ((∀ d ∈ D, d.fr ≠ n) ∧ v = .pointer none))) ?_).mono ?_
  · unfold vcP52
    simp only [isP_some, Wif_true, pb_some, po_some, Nat.zero_add]
    refine ⟨fun p k w' m => w' = w ∧ ∃ q : Nat, k = q ∧ q ≤ D.length ∧ m = D.length - q ∧ ∀ j (hj : j < D.length), j < q → D[j].fr ≠ n, ⟨D.length, rfl, 0, rfl, by omega, rfl, fun j _ hj => by omega⟩, ?_⟩
    rintro p k _ m ⟨rfl, q, rfl, hq, rfl, hn⟩
    refine ⟨_, _, _, h.r2, Wif_intro (fun hlt => ?_) (fun hlt => ?_)⟩
    · have hlt : q < D.length := by simpa using hlt
      refine ⟨_, _, _, h.r2, Wif_yes (h.isp (by omega)) (Wif_yes (inB_of (by omega) (by omega)) ⟨_, by rw [Int.toNat_natCast]; exact h.rf hlt, Wif_intro (fun he => ?_) (fun he => ?_)⟩)⟩
      · have he : D[q].fr = n := by simpa using he
        exact ⟨_, _, _, h.r2, Wif_yes (h.isp (by omega)) (Wif_yes (inB_of (by omega) (by omega)) ⟨_, by rw [Int.toNat_natCast]; exact h.rp hlt, rfl, .inl ⟨_, List.getElem_mem hlt, he, rfl⟩⟩)⟩
      · have he : D[q].fr ≠ n := by simpa using he
        refine ⟨D.length - (q + 1), by omega, rfl, q + 1, ?_, by omega, rfl, fun j hj hjq => ?_⟩
        · rw [wi (by omega)]; rfl
        · by_cases hjq' : j = q
          · subst hjq'; exact he
          · exact hn j hj (by omega)
    · have hlt : D.length ≤ q := by simpa using hlt
      refine ⟨rfl, .inr ⟨fun d hd => ?_, trivial⟩⟩
      obtain ⟨j, hj, rfl⟩ := List.getElem_of_mem hd
      exact hn j hj (by omega)
  · rintro e w' ⟨v, rfl, rfl, ⟨d, hd, h1, rfl⟩ | ⟨h1, rfl⟩⟩
    · exact ⟨rfl, .inl ⟨d, hd, h1, rfl⟩⟩
    · exact ⟨rfl, .inr ⟨h1, rfl⟩⟩
theorem find_in (h : DAt w Q z c pa pc D) (hl : D.length ≤ 1000) {d : Dsl} (hd : d ∈ D) : Calls Try.prog 52 #[ptr Q, .int .i64 d.fr] w fun r w' => r = .returned (ptr d.R) ∧ w' = w := by
  refine (find_spec h hl d.fr).mono ?_
  rintro r _ ⟨rfl, ⟨d', hd', he, rfl⟩ | ⟨hn, rfl⟩⟩
  · obtain ⟨i, hi, rfl⟩ := List.getElem_of_mem hd
    obtain ⟨j, hj, rfl⟩ := List.getElem_of_mem hd'
    have := frD_uniq h.so hj hi he
    subst this
    exact ⟨rfl, rfl⟩
  · exact absurd rfl (hn d hd)
theorem find_out (h : DAt w Q z c pa pc D) (hl : D.length ≤ 1000) {n : Int} (hn : ∀ d ∈ D, d.fr ≠ n) : Calls Try.prog 52 #[ptr Q, .int .i64 n] w fun r w' => r = .returned (.pointer none) ∧ w' = w := by
  refine (find_spec h hl n).mono ?_
  rintro r _ ⟨rfl, ⟨d', hd', he, rfl⟩ | ⟨_, rfl⟩⟩
  · exact absurd he (hn d' hd')
  · exact ⟨rfl, rfl⟩

/-! ### one slab goes a step -/
def setD1 (d : Dsl) (a : Option Addr) (lc : Nat) (s : Sl) (f : Nat → Int) : Dsl := { d with a := a, lc := lc, s := s, f := f }
theorem wbk_set {d : Dsl} {a : Option Addr} {lc : Nat} {s : Sl} {f : Nat → Int} {b : Nat} : wbk Q (D1 ++ setD1 d a lc s f :: D2) b ↔ wbk Q (D1 ++ d :: D2) b := by
  unfold wbk
  simp only [List.mem_append, List.mem_cons]
  constructor
  · rintro (h | ⟨x, hx | rfl | hx, h⟩)
    · exact .inl h
    · exact .inr ⟨x, .inl hx, h⟩
    · exact .inr ⟨d, .inr (.inl rfl), h⟩
    · exact .inr ⟨x, .inr (.inr hx), h⟩
  · rintro (h | ⟨x, hx | rfl | hx, h⟩)
    · exact .inl h
    · exact .inr ⟨x, .inl hx, h⟩
    · exact .inr ⟨_, .inr (.inl rfl), h⟩
    · exact .inr ⟨x, .inr (.inr hx), h⟩
theorem rbk_set {d : Dsl} {a : Option Addr} {lc : Nat} {s : Sl} {f : Nat → Int} {b : Nat} (h : rbk pa (D1 ++ setD1 d a lc s f :: D2) b) : rbk pa (D1 ++ d :: D2) b ∨ (s.ch ≠ [] ∧ b = pb a) := by
  rcases h with ⟨_, h⟩ | ⟨x, hx, hc, h⟩
  · exact .inl (.inl ⟨by simp, h⟩)
  · rcases List.mem_append.1 hx with hx | hx
    · exact .inl (.inr ⟨x, by simp [hx], hc, h⟩)
    · rcases List.mem_cons.1 hx with rfl | hx
      · exact .inr ⟨hc, h⟩
      · exact .inl (.inr ⟨x, by simp [hx], hc, h⟩)
theorem DAt.step {d : Dsl} (h : DAt w Q z c pa pc (D1 ++ d :: D2)) {a : Option Addr} {lc : Nat} {s : Sl} {f : Nat → Int} (k : Kept (two d.R d.B) w w') (r : RAt w' d.R d.B d.bc a lc s f) (hz : s.size = d.s.size)
    (ha : s.ch ≠ [] → w.heap.size ≤ pb a ∨ (d.s.ch ≠ [] ∧ pb a = pb d.a)) :
    DAt w' Q z c pa pc (D1 ++ setD1 d a lc s f :: D2) ∧ Kept (wbk Q (D1 ++ d :: D2)) w w' ∧ (∀ b, rbk pa (D1 ++ setD1 d a lc s f :: D2) b → rbk pa (D1 ++ d :: D2) b ∨ w.heap.size ≤ b) := by
  have hd : d ∈ D1 ++ d :: D2 := by simp
  have hX : ∀ b, two d.R d.B b → wbk Q (D1 ++ d :: D2) b := fun b hb => .inr ⟨d, hd, hb⟩
  have hrb : ∀ b, rbk pa (D1 ++ setD1 d a lc s f :: D2) b → rbk pa (D1 ++ d :: D2) b ∨ w.heap.size ≤ b := fun b hb => by
    rcases rbk_set hb with hb | ⟨hc, rfl⟩
    · exact .inl hb
    · rcases ha hc with h1 | ⟨h1, h2⟩
      · exact .inr h1
      · exact .inl (.inr ⟨d, hd, h1, h2⟩)
  have hap := h.ap
  unfold skelD at hap
  rw [List.map_append, List.map_cons, List.pairwise_append, List.pairwise_cons] at hap
  obtain ⟨_, ⟨ap2, _⟩, ap3⟩ := hap
  have hother : ∀ x, x ∈ D1 ∨ x ∈ D2 → apart (x.R, x.B) (d.R, d.B) := by
    rintro x (hx | hx)
    · exact ap3 _ (List.mem_map.2 ⟨x, hx, rfl⟩) _ (by simp)
    · have := ap2 _ (List.mem_map.2 ⟨x, hx, rfl⟩)
      exact ⟨Ne.symm this.1, Ne.symm this.2.2.1, Ne.symm this.2.1, Ne.symm this.2.2.2⟩
  have hsk : skelD (D1 ++ setD1 d a lc s f :: D2) = skelD (D1 ++ d :: D2) := by simp [skelD, setD1]
  have hpl : plD (D1 ++ setD1 d a lc s f :: D2) = plD (D1 ++ d :: D2) := by simp only [plD_app]; rfl
  have hln : (D1 ++ setD1 d a lc s f :: D2).length = (D1 ++ d :: D2).length := by simp
  refine ⟨⟨?_, ?_, ?_, ?_, ?_, ?_, ?_, ?_⟩, k.weak fun b hb => .inl (hX b hb), hrb⟩
  · rw [hln]
    exact h.q.kx k (fun x => by
      rcases x with x | x
      · exact (h.nQ d hd).1 x.symm
      · exact (h.nQ d hd).2 x.symm)
  · rw [hln, hpl]
    exact h.pl.kx k fun b _ hb e => h.rw' b (.inl ⟨by simp, e.symm⟩) (hX b hb)
  · rw [hln]; exact h.plc
  · intro x hx
    have oth : ∀ x, (x ∈ D1 ∨ x ∈ D2) → RAt w' x.R x.B x.bc x.a x.lc x.s x.f ∧ x.s.size = z := fun x hx => by
      have hxD : x ∈ D1 ++ d :: D2 := by rcases hx with hx | hx <;> simp [hx]
      obtain ⟨q1, q2, q3, q4⟩ := hother x hx
      refine ⟨(h.sl x hxD).1.kx k (fun t => ?_) (fun t => ?_) (fun t => ?_), (h.sl x hxD).2⟩
      · rcases t with t | t
        · exact q1 t
        · exact q2 t
      · rcases t with t | t
        · exact q3 t
        · exact q4 t
      · by_cases hc : x.s.ch = []
        · exact hc
        · exact absurd (hX _ t) (h.rw' _ (.inr ⟨x, hxD, hc, rfl⟩))
    rcases List.mem_append.1 hx with hx | hx
    · exact oth x (.inl hx)
    · rcases List.mem_cons.1 hx with rfl | hx
      · exact ⟨r, hz.trans (h.sl d hd).2⟩
      · exact oth x (.inr hx)
  · have : (D1 ++ setD1 d a lc s f :: D2).map (·.fr) = (D1 ++ d :: D2).map (·.fr) := by simp [setD1]
    rw [this]; exact h.so
  · rw [hsk]; exact h.ap
  · intro x hx
    rcases List.mem_append.1 hx with hx | hx
    · exact h.nQ x (by simp [hx])
    · rcases List.mem_cons.1 hx with rfl | hx
      · exact h.nQ d hd
      · exact h.nQ x (by simp [hx])
  · intro b hb hw
    rw [wbk_set] at hw
    rcases hrb b hb with hb | hb
    · exact h.rw' b hb hw
    · have := h.ltw hw
      omega
end
end Go.Proofs.Ytkancagfhbkhiaa
namespace Go.Proofs.Ytkancagfhbkhiaa
open Go Eng
set_option linter.unusedSimpArgs false
set_option linter.unusedVariables false
set_option maxRecDepth 10000

/-! ### what both tell -/
abbrev Key := Int × Sl × (Nat → Int)
abbrev keyL (e : Slb) : Key := (e.fr, e.s, e.f)
abbrev keyD (d : Dsl) : Key := (d.fr, d.s, d.f)
abbrev locL (L : List Slb) : List (Int × Nat) := L.map fun e => (e.fr, e.B)
abbrev locD (D : List Dsl) : List (Int × Nat) := D.map fun d => (d.fr, d.B)
def setK (ks : List Key) (k : Key) : List Key := ks.map fun x => if x.1 = k.1 then k else x
abbrev partK (k : Key) : Bool := decide (0 < k.2.1.ch.length) && decide (k.2.1.ch.length < k.2.1.count)
abbrev empK (k : Key) : Bool := decide (k.2.1.ch.length = k.2.1.count)
def pickK (ks : List Key) : Option Key := (ks.find? partK).or (ks.find? empK)
theorem pick_key (L : List Slb) : (pick L).map keyL = pickK (L.map keyL) := by
  unfold pick pickK
  rw [List.find?_map, List.find?_map, Option.map_or]
  rfl
theorem setL_key (L : List Slb) (e : Slb) : (setL L e).map keyL = setK (L.map keyL) (keyL e) := by
  unfold setL setK
  rw [List.map_map, List.map_map]
  refine List.map_congr_left fun x _ => ?_
  by_cases h : x.fr = e.fr
  · simp [h]
  · simp [h]
theorem setL_loc (L : List Slb) (e : Slb) (hL : ∀ x ∈ L, x.fr = e.fr → x.B = e.B) : locL (setL L e) = locL L := by
  unfold setL locL
  rw [List.map_map]
  refine List.map_congr_left fun x hx => ?_
  by_cases h : x.fr = e.fr
  · simp [h, hL x hx h]
  · simp [h]
/-- a step of the document -/
structure DS (w w' : World) (Q z c : Nat) (pa : Option Addr) (pc : Nat) (D : List Dsl) (c' : Nat) (pa' : Option Addr) (pc' : Nat) (D' : List Dsl) : Prop where
  k : Kept (wbk Q D) w w'
  da : DAt w' Q z c' pa' pc' D'
  wb : ∀ b, wbk Q D' b → wbk Q D b ∨ w.heap.size ≤ b
  rb : ∀ b, rbk pa' D' b → rbk pa D b ∨ w.heap.size ≤ b
section
variable {w w' : World} {Q z c pc : Nat} {pa : Option Addr} {D D1 D2 : List Dsl}
theorem DAt.same (h : DAt w Q z c pa pc D) (k : Kept none' w w') : DS w w' Q z c pa pc D c pa pc D :=
  ⟨k.weak fun b hb => hb.elim, h.k k, fun b hb => .inl hb, fun b hb => .inl hb⟩
theorem setK_mid {d : Dsl} (h : ((D1 ++ d :: D2).map (·.fr)).Pairwise (· < ·)) {a : Option Addr} {lc : Nat} {s : Sl} {f : Nat → Int} :
    (D1 ++ setD1 d a lc s f :: D2).map keyD = setK ((D1 ++ d :: D2).map keyD) (d.fr, s, f) := by
  rw [List.map_append, List.map_cons, List.pairwise_append, List.pairwise_cons] at h
  obtain ⟨_, ⟨h2, _⟩, h3⟩ := h
  have t1 : ∀ x ∈ D1, x.fr ≠ d.fr := fun x hx => by have := h3 _ (List.mem_map.2 ⟨x, hx, rfl⟩) d.fr (by simp); omega
  have t2 : ∀ x ∈ D2, x.fr ≠ d.fr := fun x hx => by have := h2 _ (List.mem_map.2 ⟨x, hx, rfl⟩); omega
  unfold setK
  simp only [List.map_append, List.map_cons, List.map_map, setD1, if_true]
  congr 1
  · refine List.map_congr_left fun x hx => ?_
    simp [t1 x hx]
  · congr 1
    refine List.map_congr_left fun x hx => ?_
    simp [t2 x hx]
/-- a slab of it goes a step -/
theorem DAt.go {d : Dsl} (h : DAt w Q z c pa pc D) (hd : d ∈ D) {a : Option Addr} {lc : Nat} {s : Sl} {f : Nat → Int} (k : Kept (two d.R d.B) w w') (r : RAt w' d.R d.B d.bc a lc s f) (hz : s.size = d.s.size)
    (ha : s.ch ≠ [] → w.heap.size ≤ pb a ∨ (d.s.ch ≠ [] ∧ pb a = pb d.a)) :
    ∃ D', DS w w' Q z c pa pc D c pa pc D' ∧ D'.map keyD = setK (D.map keyD) (d.fr, s, f) ∧ locD D' = locD D := by
  obtain ⟨D1, D2, rfl⟩ := List.append_of_mem hd
  obtain ⟨h1, h2, h3⟩ := h.step k r hz ha
  exact ⟨_, ⟨h2, h1, fun b hb => .inl (wbk_set.1 hb), h3⟩, setK_mid h.so, by simp [locD, setD1]⟩
/-! ### Give -/
theorem dgive_out (h : DAt w Q z c pa pc D) (hl : D.length ≤ 1000) {n : Int} (hn : ∀ d ∈ D, d.fr ≠ n) (i : Int) : Calls Try.prog 50 #[ptr Q, .int .i64 n, .int .i64 i] w fun r w' => r = .returned (.int .i64 7) ∧ w' = w := by
  refine (vc50 _ n i w (fun v w' => v = .int .i64 7 ∧ w' = w) ?_).mono ?_
  · unfold vcP50
    refine (find_out h hl hn).mono ?_
    rintro _ _ ⟨rfl, rfl⟩
    exact ⟨_, rfl, Wif_yes rfl ⟨rfl, rfl⟩⟩
  · rintro e w' ⟨v, rfl, rfl, hw⟩
    exact ⟨rfl, hw⟩
theorem dgive_in (h : DAt w Q z c pa pc D) (hl : D.length ≤ 1000) {d : Dsl} (hd : d ∈ D) (i : Int) : Calls Try.prog 50 #[ptr Q, .int .i64 d.fr, .int .i64 i] w fun r w' => r = .returned (.int .i64 (giveOf d.s i)) ∧
    ∃ D', DS w w' Q z c pa pc D c pa pc D' ∧ locD D' = locD D ∧ D'.map keyD = if giveOf d.s i = 0 then setK (D.map keyD) (d.fr, gave d.s i.toNat, upd d.f (d.s.colour + i.toNat * d.s.size) (Ytkancagfhbkhiaa.fst d.s.ch)) else D.map keyD := by
  refine (vc50 _ d.fr i w (fun v w' => v = .int .i64 (giveOf d.s i) ∧ ∃ D', DS w w' Q z c pa pc D c pa pc D' ∧ locD D' = locD D ∧ D'.map keyD = if giveOf d.s i = 0 then setK (D.map keyD) (d.fr, gave d.s i.toNat, upd d.f (d.s.colour + i.toNat * d.s.size) (Ytkancagfhbkhiaa.fst d.s.ch)) else D.map keyD) ?_).mono ?_
  · unfold vcP50
    refine (find_in h hl hd).mono ?_
    rintro _ _ ⟨rfl, rfl⟩
    refine ⟨_, rfl, Wif_no rfl ?_⟩
    have r := (h.sl d hd).1
    by_cases hg : giveOf d.s i = 0
    · obtain ⟨q, rfl, hqc, hqo, hqt⟩ := giveOf_zero hg
      refine (rgive_ok r q hqc hqo hqt).mono ?_
      rintro _ w1 ⟨rfl, k1, a1, lc1, r1, hpa⟩
      obtain ⟨D', h1, h2, h3⟩ := h.go hd k1 r1 rfl (fun _ => .inl hpa)
      refine ⟨_, rfl, by rw [hg], D', h1, h3, ?_⟩
      rw [if_pos hg, h2, Int.toNat_natCast]
    · refine (rgive_no r i hg).mono ?_
      rintro _ _ ⟨rfl, rfl⟩
      refine ⟨_, rfl, rfl, D, h.same (Kept.refl _ _), rfl, by rw [if_neg hg]⟩
  · rintro e w' ⟨v, rfl, rfl, hw⟩
    exact ⟨rfl, hw⟩
/-! ### Frames -/
theorem dframes_spec (h : DAt w Q z c pa pc D) (hl : D.length ≤ 1000) (empty : Bool) : Calls Try.prog 68 #[ptr Q, .bool empty] w fun r w' => ∃ (a : Option Addr) (l cp : Nat), r = .returned (.slice a l cp) ∧ Kept none' w w' ∧
    w'.ownsRow w.heap.size 3 1 (.slice a l cp) l ((D.filter fun d => !empty || decide (d.s.ch.length = d.s.count)).map fun d => Value.int .i64 d.fr) := by
  refine (vc68 _ empty w (fun v w' => ∃ (a : Option Addr) (l cp : Nat), v = .slice a l cp ∧ Kept none' w w' ∧
    w'.ownsRow w.heap.size 3 1 (.slice a l cp) l ((D.filter fun d => !empty || decide (d.s.ch.length = d.s.count)).map fun d => Value.int .i64 d.fr)) ?_).mono ?_
  · unfold vcP68
    simp only [isP_some, Wif_true, gIf_true, pb_some, po_some, Nat.zero_add]
    refine ⟨fun a l cp k w' m => ∃ q : Nat, k = q ∧ q ≤ D.length ∧ m = D.length - q ∧ Kept none' w w' ∧
      w'.ownsRow w.heap.size 3 1 (.slice a l cp) l (((D.take q).filter fun d => !empty || decide (d.s.ch.length = d.s.count)).map fun d => Value.int .i64 d.fr), ⟨D.length, 0, rfl, by omega, rfl, Kept.refl _ _, ?_⟩, ?_⟩
    · exact World.ownsRow_nil (base := w.heap.size) (e := 3) (size := 1) w
    rintro a l cp k w1 m ⟨q, rfl, hq, rfl, k1, row⟩
    have h1 := h.k k1
    refine ⟨_, _, _, h1.r2, Wif_intro (fun hlt => ?_) (fun hlt => ?_)⟩
    · have hlt : q < D.length := by simpa using hlt
      intro w2 e2
      have k12 : Kept none' w1 w2 := (Kept.refl _ _).dr e2
      have h2 := h1.k k12
      have k2 := k1.tr k12
      have row2 := ownsRow_kx row k12 (fun _ _ _ _ hx => hx)
      have hd := List.getElem_mem hlt
      have r := (h2.sl _ hd).1
      have hin : inB (q : Int) D.length = true := inB_of (by omega) (by omega)
      refine ⟨_, _, _, fun _ => h2.r2, gIf_intro (fun _ => h2.isp (by omega)) (gIf_intro (fun _ => hin) ⟨_, fun _ => by rw [Int.toNat_natCast]; exact h2.rp hlt, gIf_intro (fun _ => rfl) ⟨_, _, _, fun _ => by simp only [pb_some, po_some, Nat.zero_add]; exact r.r4,
        _, _, _, fun _ => h2.r2, gIf_intro (fun _ => h2.isp (by omega)) (gIf_intro (fun _ => hin) ⟨_, fun _ => by rw [Int.toNat_natCast]; exact h2.rp hlt, gIf_intro (fun _ => rfl) ⟨_, fun _ => by simp only [pb_some, po_some, Nat.zero_add]; exact r.r3, ?_⟩⟩)⟩⟩)⟩
      have htk : D.take (q + 1) = D.take q ++ [D[q]] := (List.take_append_getElem hlt).symm
      have hcond : (!empty || (((D[q]).s.ch.length : Int) == ((D[q]).s.count : Int))) = (!empty || decide ((D[q]).s.ch.length = (D[q]).s.count)) := by
        congr 1
        rw [Bool.eq_iff_iff]
        simp only [beq_iff_eq, decide_eq_true_eq]
        omega
      rw [hcond]
      refine Wif_intro (fun hc => ?_) (fun hc => ?_)
      · refine ⟨_, _, _, h2.r2, Wif_yes (h2.isp (by omega)) (Wif_yes hin ⟨_, by rw [Int.toNat_natCast]; exact h2.rf hlt, ?_⟩)⟩
        intro w3 e3
        have k23 : Kept none' w2 w3 := (Kept.refl _ _).al e3
        have row3 := ownsRow_kx row2 k23 (fun _ _ _ _ hx => hx)
        obtain ⟨i3, hi3, hz3, hs3, hb3⟩ := info3
        have ll := (row_len row3).1
        have hlen := row3.1
        have hfl : l ≤ 1000 := by
          have hxl := (ownsRow_own row3).1
          have h1' := row3.1
          rw [List.length_map] at h1'
          have h2' := List.length_filter_le (fun d : Dsl => !empty || decide (d.s.ch.length = d.s.count)) (D.take q)
          have h3' := List.length_take_le q D
          omega
        obtain ⟨a', c', w4, ha, row4, k4⟩ := app (ty := 33) (t := 33) Try.underlying33 hi3 hz3 hs3 rfl (by decide) row3 (one_src e3) (by simp) (fun u hu => by simp at hu; subst hu; rfl) (by omega) hb3 (by have := k2.sz; have := k23.sz; omega)
        refine ⟨a', _, c', w4, ha, D.length - (q + 1), by omega, q + 1, by rw [wi (by omega)]; rfl, by omega, rfl, (k2.tr k23).go k4 (fun b hb => .inr ?_), ?_⟩
        · rcases row3.2 with hx | ⟨g, cap, cur, hv, hg, _⟩
          · rw [hx.1] at hb; cases hb
          · rw [hv] at hb
            have : g = b := by simpa [Value.ownBlock] using hb
            omega
        · rw [htk, List.filter_append, List.map_append]
          simpa [hc] using row4
      · refine ⟨D.length - (q + 1), by omega, q + 1, by rw [wi (by omega)]; rfl, by omega, rfl, k2, ?_⟩
        rw [htk, List.filter_append]
        simpa [hc] using row2
    · have hlt : D.length ≤ q := by simpa using hlt
      rw [List.take_of_length_le hlt] at row
      exact ⟨a, l, cp, rfl, k1, row⟩
  · rintro e w' ⟨v, rfl, a, l, cp, rfl, hw⟩
    exact ⟨a, l, cp, rfl, hw⟩
end
end Go.Proofs.Ytkancagfhbkhiaa
namespace Go.Proofs.Ytkancagfhbkhiaa
open Go Eng
set_option linter.unusedSimpArgs false
set_option linter.unusedVariables false
set_option maxRecDepth 10000

/-! ### Take -/
theorem Good.count_pos {s : Sl} {f : Nat → Int} (g : Good s f) : 0 < s.count := by
  rw [g.cnt]
  have h1 := g.s8
  have h2 := g.s128
  have h3 := g.col
  have h4 : 256 % s.size < s.size := Nat.mod_lt _ (by omega)
  exact Nat.div_pos (by omega) (by omega)
theorem find_at {p : Key → Bool} {ks : List Key} {q : Nat} (hq : q < ks.length) (hn : ∀ j (hj : j < ks.length), j < q → p ks[j] = false) (hp : p ks[q] = true) : ks.find? p = some ks[q] := by
  rw [List.find?_eq_some_iff_getElem]
  exact ⟨hp, q, hq, rfl, fun j hj => by rw [hn j (by omega) hj]; rfl⟩
theorem find_no {p : Key → Bool} {ks : List Key} (hn : ∀ j (hj : j < ks.length), p ks[j] = false) : ks.find? p = none := by
  rw [List.find?_eq_none]
  intro x hx
  obtain ⟨j, hj, rfl⟩ := List.getElem_of_mem hx
  rw [hn j hj]
  simp
section
variable {w w' : World} {Q z c pc : Nat} {pa : Option Addr} {D D1 D2 : List Dsl}
def TakeD (w w' : World) (Q z c : Nat) (pa : Option Addr) (pc : Nat) (D : List Dsl) (v : Value) : Prop :=
  (pickK (D.map keyD) = none ∧ v = .tuple #[.int .i64 0, .int .i64 0, .int .i64 7] ∧ w' = w) ∨
  ∃ (k : Key) (i : Nat) (l : List Nat), pickK (D.map keyD) = some k ∧ k.2.1.ch = i :: l ∧ v = .tuple #[.int .i64 k.1, .int .i64 i, .int .i64 0] ∧
    ∃ D', DS w w' Q z c pa pc D c pa pc D' ∧ locD D' = locD D ∧ D'.map keyD = setK (D.map keyD) (k.1, took k.2.1 i l, blanked k.2.2 (k.2.1.colour + i * k.2.1.size) k.2.1.size)
theorem dtake_spec (h : DAt w Q z c pa pc D) (hl : D.length ≤ 1000) : Calls Try.prog 49 #[ptr Q] w fun r w' => ∃ v, r = .returned v ∧ TakeD w w' Q z c pa pc D v := by
  refine (vc49 _ w (fun v w' => TakeD w w' Q z c pa pc D v) ?_).mono ?_
  · unfold vcP49
    simp only [isP_some, Wif_true, gIf_true, pb_some, po_some, Nat.zero_add]
    refine ⟨fun _ _ _ k w' m => w' = w ∧ ∃ r : Nat, k = r ∧ r ≤ 2 ∧ m = 2 - r ∧ (0 < r → ∀ j (hj : j < D.length), partK (keyD D[j]) = false) ∧ (1 < r → ∀ j (hj : j < D.length), empK (keyD D[j]) = false),
      ⟨2, rfl, 0, rfl, by omega, rfl, fun h => by omega, fun h => by omega⟩, ?_⟩
    rintro _ _ _ k w1 m ⟨rfl, r, rfl, hr, rfl, hp0, hp1⟩
    refine Wif_intro (fun hr2 => ?_) (fun hr2 => ?_)
    · have hr2 : r < 2 := by simp at hr2; omega
      refine ⟨fun _ _ _ k w'' m => w'' = w1 ∧ ∃ q : Nat, k = q ∧ q ≤ D.length ∧ m = D.length - q ∧ ∀ j (hj : j < D.length), j < q → if r = 0 then partK (keyD D[j]) = false else empK (keyD D[j]) = false,
        ⟨D.length, rfl, 0, rfl, by omega, rfl, fun j _ hj => by omega⟩, ?_⟩
      rintro _ _ _ k w1 m ⟨rfl, q, rfl, hq, rfl, hj⟩
      refine ⟨_, _, _, h.r2, Wif_intro (fun hlt => ?_) (fun hlt => ?_)⟩
      · have hlt : q < D.length := by simpa using hlt
        have hd := List.getElem_mem hlt
        have rr := (h.sl _ hd).1
        have gp := rr.good.count_pos
        have gl := rr.good.chlen
        have hin : inB (q : Int) D.length = true := inB_of (by omega) (by omega)
        refine ⟨_, _, _, h.r2, Wif_yes (h.isp (by omega)) (Wif_yes hin ⟨_, by rw [Int.toNat_natCast]; exact h.rp hlt, Wif_yes rfl ⟨_, _, _, by simp only [pb_some, po_some, Nat.zero_add]; exact rr.r4, ?_⟩⟩)⟩
        refine ⟨_, _, _, fun _ => h.r2, gIf_intro (fun _ => h.isp (by omega)) (gIf_intro (fun _ => hin) ⟨_, fun _ => by rw [Int.toNat_natCast]; exact h.rp hlt, gIf_intro (fun _ => rfl) ⟨_, fun _ => by simp only [pb_some, po_some, Nat.zero_add]; exact rr.r3, ?_⟩⟩)⟩
        have found : (if r = 0 then partK (keyD D[q]) = true else partK (keyD D[q]) = false ∧ empK (keyD D[q]) = true) → pickK (D.map keyD) = some (keyD D[q]) := by
          intro hh
          have hq' : q < (D.map keyD).length := by simpa using hlt
          unfold pickK
          by_cases hr0 : r = 0
          · rw [if_pos hr0] at hh
            rw [find_at hq' (fun j hj' hjq => by have := hj j (by simpa using hj') hjq; rw [if_pos hr0] at this; simpa using this) (by simpa using hh)]
            simp
          · rw [if_neg hr0] at hh
            rw [find_no (p := partK) (fun j hj' => by simpa using hp0 (by omega) j (by simpa using hj')), find_at (p := empK) hq' (fun j hj' hjq => by have := hj j (by simpa using hj') hjq; rw [if_neg hr0] at this; simpa using this) (by simpa using hh.2)]
            simp
        refine Wif_intro (fun hc => ?_) (fun hc => ?_)
        · refine ⟨D.length - (q + 1), by omega, rfl, q + 1, by rw [wi (by omega)]; rfl, by omega, rfl, fun j hj' hjq => ?_⟩
          by_cases hjq' : j = q
          · subst hjq'
            simp only [Bool.or_eq_true, Bool.and_eq_true, beq_iff_eq, Bool.not_eq_true', Bool.and_eq_false_iff, decide_eq_false_iff_not] at hc
            have hr01 : r = 0 ∨ r = 1 := by omega
            rcases hr01 with rfl | rfl
            · rw [if_pos rfl]
              simp only [partK, Bool.and_eq_false_iff, decide_eq_false_iff_not]
              omega
            · rw [if_neg (by omega)]
              simp only [empK, decide_eq_false_iff_not]
              omega
          · exact hj j hj' (by omega)
        · have hfd : pickK (D.map keyD) = some (keyD D[q]) ∧ D[q].s.ch ≠ [] := by
            simp only [Bool.or_eq_false_iff, Bool.and_eq_false_iff, beq_eq_false_iff_ne, Bool.not_eq_false', Bool.and_eq_true, decide_eq_true_eq] at hc
            have hr01 : r = 0 ∨ r = 1 := by omega
            rcases hr01 with rfl | rfl
            · have h1 : 0 < D[q].s.ch.length ∧ D[q].s.ch.length < D[q].s.count := by
                rcases hc.1 with hx | hx
                · exact absurd rfl hx
                · omega
              refine ⟨found ?_, fun e => by rw [e] at h1; simp at h1⟩
              rw [if_pos rfl]
              simp only [partK, Bool.and_eq_true, decide_eq_true_eq]
              exact h1
            · have h0 : D[q].s.ch.length ≠ 0 := by
                rcases hc.2 with hx | hx
                · exact absurd rfl hx
                · omega
              have hnp := hp0 (by omega) q hlt
              refine ⟨found ?_, fun e => by rw [e] at h0; simp at h0⟩
              rw [if_neg (by omega)]
              refine ⟨hnp, ?_⟩
              simp only [partK, Bool.and_eq_false_iff, decide_eq_false_iff_not] at hnp
              simp only [empK, decide_eq_true_eq]
              omega
          obtain ⟨hpk, hne⟩ := hfd
          obtain ⟨i, l, hch⟩ := List.exists_cons_of_ne_nil hne
          refine ⟨_, _, _, h.r2, Wif_yes (h.isp (by omega)) (Wif_yes hin ⟨_, by rw [Int.toNat_natCast]; exact h.rp hlt, (rtake_some rr hch).mono ?_⟩)⟩
          rintro _ w1 ⟨rfl, k1, a1, lc1, r1, hpa⟩
          obtain ⟨D', ds, hk, hloc⟩ := h.go hd k1 r1 rfl (fun _ => .inr ⟨hne, hpa⟩)
          have h1 := ds.da
          have hln : D'.length = D.length := by have := congrArg List.length hloc; simpa using this
          have hfr : D'[q]'(by omega) = D'[q]'(by omega) := rfl
          have hfe : (D'[q]'(by omega)).fr = D[q].fr := by
            have := congrArg (fun l => l[q]?) hloc
            simp [hlt, hln] at this
            exact this.1
          refine ⟨_, _, rfl, _, _, _, h1.r2, Wif_yes (h1.isp (by omega)) (Wif_yes (by rw [hln]; exact hin) ⟨_, by rw [Int.toNat_natCast]; exact h1.rf (by omega), .inr ⟨keyD D[q], i, l, hpk, hch, by rw [hfe], D', ds, hloc, hk⟩⟩)⟩
      · have hlt : D.length ≤ q := by simpa using hlt
        refine ⟨2 - (r + 1), by omega, rfl, r + 1, by rw [wi (by omega)]; rfl, by omega, rfl, fun _ j hj' => ?_, fun h1r j hj' => ?_⟩
        · by_cases hr0 : r = 0
          · have := hj j hj' (by omega)
            rw [if_pos hr0] at this
            exact this
          · exact hp0 (by omega) j hj'
        · have := hj j hj' (by omega)
          rw [if_neg (by omega)] at this
          exact this
    · have hr2 : 2 ≤ r := by simp at hr2; omega
      refine .inl ⟨?_, rfl, rfl⟩
      unfold pickK
      rw [find_no (p := partK) (fun j hj' => by simpa using hp0 (by omega) j (by simpa using hj')), find_no (p := empK) (fun j hj' => by simpa using hp1 (by omega) j (by simpa using hj'))]
      rfl
  · rintro e w' ⟨v, rfl, hw⟩
    exact ⟨v, rfl, hw⟩
end
end Go.Proofs.Ytkancagfhbkhiaa
namespace Go.Proofs.Ytkancagfhbkhiaa
open Go Eng
set_option linter.unusedSimpArgs false
set_option linter.unusedVariables false
set_option maxRecDepth 10000

/-! ### rows of places -/
theorem info_pl : (Try.prog.info? 103).map (fun i => (i.zero, i.size, i.bytes)) = some (some (.agg #[.int .i64 0, .pointer none]), 2, 16) := by kernel_rfl
theorem Src.short {w : World} {a : Option Addr} {l c : Nat} {xs : List Value} (h : Src w a l c xs) {k : Nat} (hk : k ≤ l) (n : Nat) : Src w a k c (xs.take n) := by
  refine ⟨fun hn => ?_, fun hx => ?_⟩
  · obtain ⟨h1, h2⟩ := h.nil hn
    omega
  · obtain ⟨X, off, e, hr⟩ := h.ptr (by rw [List.length_take] at hx; omega)
    refine ⟨X, off, e, fun j u hj => ?_⟩
    rw [List.getElem?_take] at hj
    split at hj
    · exact hr j u hj
    · cases hj
/-- a row of places that is being made, since w0 -/
structure Row2 (w0 w : World) (base : Nat) (E : List Dsl) (a : Option Addr) (n c : Nat) : Prop where
  k : Kept none' w0 w
  b0 : w0.heap.size ≤ base
  b1 : base ≤ w.heap.size
  row : w.ownsRow base 103 2 (.slice a n c) n (plD E)
section
variable {w0 w w' w1 : World} {base n c m cb : Nat} {a b : Option Addr} {E F : List Dsl}
theorem Row2.new (k : Kept none' w0 w) (e : w1 = w.alloc (.cells #[] 103)) : Row2 w0 w1 w.heap.size [] (some ⟨w.heap.size, 0, none⟩) 0 0 := by
  refine ⟨k.al e, k.sz, ((Kept.refl none' w).al e).sz, ?_⟩
  rw [e]
  exact World.ownsRow_made (base := w.heap.size) (e := 103) (size := 2) w #[] 0 (Nat.le_refl _) (by decide) rfl
theorem Row2.kk (h : Row2 w0 w base E a n c) (k : Kept none' w w') : Row2 w0 w' base E a n c :=
  ⟨h.k.tr k, h.b0, by have := h.b1; have := k.sz; omega, ownsRow_kx h.row k (fun _ _ _ _ hx => hx)⟩
theorem Row2.from {wz : World} (k : Kept none' wz w0) (h : Row2 w0 w base E a n c) : Row2 wz w base E a n c := ⟨k.tr h.k, by have := k.sz; have := h.b0; omega, h.b1, h.row⟩
theorem Row2.len (h : Row2 w0 w base E a n c) : n = E.length := by
  have := h.row.1
  rw [plD_len] at this
  omega
theorem Row2.app (h : Row2 w0 w base E a n c) (hs : Src w b m cb (plD F)) (hm : m = F.length) (h63 : n + m ≤ 1000000) :
    ∃ a' c' w', appIs Try.prog #[99, 99] 99 (.slice a n c) (.slice b m cb) (.slice a' (n + m) c') w w' ∧ Row2 w0 w' base (E ++ F) a' (n + m) c' ∧ Kept (fun b => (Value.slice a n c).ownBlock = some b) w w' := by
  have hh := info_pl
  cases hi : Try.prog.info? 103 with
  | none => rw [hi] at hh; cases hh
  | some i =>
    rw [hi] at hh
    simp at hh
    obtain ⟨a', c', w', ha, row', k'⟩ := Eng.app (t := 99) (ty := 99) Try.underlying99 hi hh.1 hh.2.1 rfl (by decide) h.row hs (by rw [plD_len, hm]; omega) (plD_one F) h63 (by omega) h.b1
    refine ⟨a', c', w', ha, ⟨h.k.go k' fun b hb => .inr ?_, h.b0, by have := h.b1; have := k'.sz; omega, by rw [plD_app]; exact row'⟩, k'⟩
    have hb0 := h.b0
    rcases h.row.2 with hx | ⟨g, cap, cur, hv, hg, _⟩
    · rw [hx.1] at hb; cases hb
    · rw [hv] at hb
      have : g = b := by simpa [Value.ownBlock] using hb
      omega
end
/-- the new row is laid into the cache -/
theorem DAt.list {w0 w3 w4 : World} {Q z c base n cp : Nat} {a : Option Addr} {D : List Dsl} {v0 : Value} (q : own w3 Q [.int .i64 z, .int .i64 c, v0]) (row : Row2 w0 w3 base D a n cp)
    (e : w4 = st w3 Q 2 (.slice a n cp)) (sl : ∀ d ∈ D, RAt w3 d.R d.B d.bc d.a d.lc d.s d.f ∧ d.s.size = z) (so : (D.map (·.fr)).Pairwise (· < ·)) (ap : (skelD D).Pairwise apart) (nQ : ∀ d ∈ D, d.R ≠ Q ∧ d.B ≠ Q)
    (hb : ∀ b, wbk Q D b → b < base) (ra : ∀ d ∈ D, d.s.ch ≠ [] → ¬ wbk Q D (pb d.a)) : DAt w4 Q z c a cp D ∧ ∀ b, rbk a D b → base ≤ b ∨ ∃ d ∈ D, d.s.ch ≠ [] ∧ b = pb d.a := by
  have hn := row.len
  subst hn
  have kQ : Kept (· = Q) w3 w4 := (Kept.refl _ _).s1 e (.inl rfl)
  have hQb : Q < base := hb Q (.inl rfl)
  have hpa : D ≠ [] → base ≤ pb a := fun hD => by
    rcases (ownsRow_own row.row).2 with ⟨_, h0, _⟩ | ⟨g, cs, rfl, hg, _⟩
    · exact absurd (List.length_eq_zero_iff.1 h0) hD
    · exact hg
  have hrb : ∀ b, rbk a D b → base ≤ b ∨ ∃ d ∈ D, d.s.ch ≠ [] ∧ b = pb d.a := fun b hb => by
    rcases hb with ⟨hD, rfl⟩ | hb
    · exact .inl (hpa hD)
    · exact .inr hb
  refine ⟨⟨?_, ?_, (row_len row.row).2, fun d hd => ⟨(sl d hd).1.kx kQ (nQ d hd).1 (nQ d hd).2 (fun hx => ?_), (sl d hd).2⟩, so, ap, nQ, fun b hx hw => ?_⟩, hrb⟩
  · have := q.s1 e
    simpa using this
  · have s3 := Src.of_row row.row
    by_cases hD : D = []
    · subst hD
      exact ⟨s3.nil, fun hl => absurd hl (by simp [plD])⟩
    · exact s3.kx kQ fun b _ hbQ hpb => by have := hpa hD; omega
  · by_cases hc : d.s.ch = []
    · exact hc
    · exact absurd (.inl hx) (ra d hd hc)
  · rcases hrb b hx with h | ⟨d, hd, hc, rfl⟩
    · have := hb b hw; omega
    · exact ra d hd hc hw
/-! ### Drop -/
def dropK (ks : List Key) (n : Int) : List Key := ks.filter fun x => x.1 != n
section
variable {w w' : World} {Q z c pc : Nat} {pa : Option Addr} {D D1 D2 : List Dsl}
theorem frs_mid {d : Dsl} (h : ((D1 ++ d :: D2).map (·.fr)).Pairwise (· < ·)) : (∀ x ∈ D1, x.fr ≠ d.fr) ∧ (∀ x ∈ D2, x.fr ≠ d.fr) := by
  rw [List.map_append, List.map_cons, List.pairwise_append, List.pairwise_cons] at h
  obtain ⟨_, ⟨h2, _⟩, h3⟩ := h
  exact ⟨fun x hx => by have := h3 _ (List.mem_map.2 ⟨x, hx, rfl⟩) d.fr (by simp); omega, fun x hx => by have := h2 _ (List.mem_map.2 ⟨x, hx, rfl⟩); omega⟩
theorem dropK_mid {d : Dsl} (h : ((D1 ++ d :: D2).map (·.fr)).Pairwise (· < ·)) : (D1 ++ D2).map keyD = dropK ((D1 ++ d :: D2).map keyD) d.fr := by
  obtain ⟨t1, t2⟩ := frs_mid h
  unfold dropK
  simp only [List.map_append, List.map_cons, List.filter_append, List.filter_cons]
  rw [if_neg (by simp), List.filter_eq_self.2 (by intro x hx; obtain ⟨y, hy, rfl⟩ := List.mem_map.1 hx; simpa using t1 y hy), List.filter_eq_self.2 (by intro x hx; obtain ⟨y, hy, rfl⟩ := List.mem_map.1 hx; simpa using t2 y hy)]
def DropD (w w' : World) (Q z c : Nat) (pa : Option Addr) (pc : Nat) (D : List Dsl) (n : Int) (v : Value) : Prop :=
  ((∀ d ∈ D, d.fr ≠ n) ∧ v = .int .i64 7 ∧ w' = w) ∨
  ∃ d ∈ D, d.fr = n ∧ ((d.s.ch.length ≠ d.s.count ∧ v = .int .i64 80 ∧ Kept none' w w') ∨
    (d.s.ch.length = d.s.count ∧ v = .int .i64 0 ∧ ∃ D' pa' pc', DS w w' Q z c pa pc D c pa' pc' D' ∧ D'.map keyD = dropK (D.map keyD) n ∧ locD D' = ((locD D).filter fun x => x.1 != n) ∧ Kept (· = Q) w w' ∧ ∀ x ∈ D', x ∈ D ∧ x.fr ≠ n))
theorem ddrop_spec (h : DAt w Q z c pa pc D) (hl : D.length ≤ 1000) (n : Int) : Calls Try.prog 51 #[ptr Q, .int .i64 n] w fun r w' => ∃ v, r = .returned v ∧ DropD w w' Q z c pa pc D n v := by
  refine (vc51 _ n w (fun v w' => DropD w w' Q z c pa pc D n v) ?_).mono ?_
  · unfold vcP51
    simp only [isP_some, Wif_true, pb_some, po_some, Nat.zero_add]
    refine ⟨fun _ k w' m => w' = w ∧ ∃ q : Nat, k = q ∧ q ≤ D.length ∧ m = D.length - q ∧ ∀ j (hj : j < D.length), j < q → D[j].fr ≠ n, ⟨D.length, rfl, 0, rfl, by omega, rfl, fun j _ hj => by omega⟩, ?_⟩
    rintro _ k w1 m ⟨rfl, q, rfl, hq, rfl, hn⟩
    refine ⟨_, _, _, h.r2, Wif_intro (fun hlt => ?_) (fun hlt => ?_)⟩
    · have hlt : q < D.length := by simpa using hlt
      have hin : inB (q : Int) D.length = true := inB_of (by omega) (by omega)
      refine ⟨_, _, _, h.r2, Wif_yes (h.isp (by omega)) (Wif_yes hin ⟨_, by rw [Int.toNat_natCast]; exact h.rf hlt, Wif_intro (fun he => ?_) (fun he => ?_)⟩)⟩
      · have he : D[q].fr ≠ n := by simpa using he
        refine ⟨D.length - (q + 1), by omega, rfl, q + 1, by rw [wi (by omega)]; rfl, by omega, rfl, fun j hj hjq => ?_⟩
        by_cases hjq' : j = q
        · subst hjq'; exact he
        · exact hn j hj (by omega)
      · have he : D[q].fr = n := by simpa using he
        intro w2 e2
        have k2 : Kept none' w1 w2 := (Kept.refl _ _).dr e2
        have h2 := h.k k2
        have hd := List.getElem_mem hlt
        have rr := (h2.sl _ hd).1
        refine ⟨_, _, _, h2.r2, Wif_yes (h2.isp (by omega)) (Wif_yes hin ⟨_, by rw [Int.toNat_natCast]; exact h2.rp hlt, Wif_yes rfl ⟨_, _, _, by simp only [pb_some, po_some, Nat.zero_add]; exact rr.r4, ?_⟩⟩)⟩
        refine ⟨_, _, _, h2.r2, Wif_yes (h2.isp (by omega)) (Wif_yes hin ⟨_, by rw [Int.toNat_natCast]; exact h2.rp hlt, Wif_yes rfl ⟨_, by simp only [pb_some, po_some, Nat.zero_add]; exact rr.r3, ?_⟩⟩)⟩
        have gl := rr.good.chlen
        refine Wif_intro (fun hc => ?_) (fun hc => ?_)
        · have hc : D[q].s.ch.length < D[q].s.count := by simp at hc; omega
          exact .inr ⟨_, hd, he, .inl ⟨by omega, rfl, k2⟩⟩
        · have hc : D[q].s.ch.length = D[q].s.count := by simp at hc; omega
          intro w3 e3
          have k3 : Kept none' w1 w3 := k2.dr e3
          have h3 := h.k k3
          have hwi : IntKind.wrap .i64 ((q : Int) + 1) = ((q + 1 : Nat) : Int) := by rw [wi (by omega)]; rfl
          have hplc := h.plc
          refine ⟨_, _, _, h3.r2, Wif_yes (okSl_of (by omega) (by omega) (by omega)) ⟨_, _, _, h3.r2, Wif_yes (by rw [hwi]; exact okSl_of (by omega) (by omega) (by omega)) ?_⟩⟩
          intro w4 e4
          have k34 : Kept none' w3 w4 := (Kept.refl _ _).al e4
          have k4 := k3.tr k34
          have h4 := h.k k4
          have R4 := Row2.new k3 e4
          obtain ⟨D1, D2, hD, hD1⟩ : ∃ D1 D2, D = D1 ++ D[q] :: D2 ∧ D1.length = q := ⟨D.take q, D.drop (q + 1), by rw [List.getElem_cons_drop hlt, List.take_append_drop], by rw [List.length_take]; omega⟩
          have s1 : Src w4 pa q pc (plD D1) := by
            have := Src.short h4.pl (k := q) (by omega) (q * 2)
            have ht := plD_take D1 (D[q] :: D2)
            rw [hD1, ← hD] at ht
            rw [ht] at this
            exact this
          obtain ⟨a5, c5, w5, ha5, R5, _⟩ := R4.app s1 hD1.symm (by omega)
          rw [Nat.zero_add] at ha5 R5
          rw [List.nil_append] at R5
          have h5 := h.k R5.k
          refine ⟨⟨h4.r2, trivial⟩, ⟨h4.r2, trivial⟩, a5, _, c5, w5, by rw [Int.toNat_natCast]; exact ha5, ⟨h5.r2, trivial⟩, ?_⟩
          rw [hwi, Int.toNat_natCast]
          have hlen2 : D.length - (q + 1) = D2.length := by
            have := congrArg List.length hD
            simp at this
            omega
          have s2 : Src w5 (offA pa pc (q + 1) 2) (D.length - (q + 1)) (pc - (q + 1)) (plD D2) := by
            have := h5.pl.part (q + 1) 2 (D.length - (q + 1)) (by omega) h5.plc (by omega)
            rw [List.take_of_length_le (by rw [List.length_drop, plD_len]; omega)] at this
            have hx : (plD D).drop ((q + 1) * 2) = plD D2 := by
              have := plD_drop (D1 ++ [D[q]]) D2
              rw [List.length_append, hD1, List.append_assoc, List.singleton_append, ← hD] at this
              exact this
            rw [hx] at this
            exact this
          obtain ⟨a6, c6, w6, ha6, R6, _⟩ := R5.app s2 hlen2 (by omega)
          have h6 := h.k R6.k
          refine ⟨a6, _, c6, w6, ha6, h6.q.wr (by simp), ?_⟩
          intro w7 e7
          have hsub : ∀ x, x ∈ D1 ++ D2 → x ∈ D := fun x hx => by rw [hD]; rcases List.mem_append.1 hx with hx | hx <;> simp [hx]
          have hsl : (D1 ++ D2).Sublist D := by
            conv => rhs; rw [hD]
            exact List.Sublist.append (List.Sublist.refl _) (List.sublist_cons_self _ _)
          have hwb : ∀ b, wbk Q (D1 ++ D2) b → wbk Q D b := fun b hb => by
            rcases hb with hb | ⟨x, hx, hb⟩
            · exact .inl hb
            · exact .inr ⟨x, hsub x hx, hb⟩
          have hb0 := R6.b0
          obtain ⟨h7, hr7⟩ := DAt.list h6.q R6 e7 (fun d hd => h6.sl d (hsub d hd)) (h6.so.sublist (hsl.map _)) (h6.ap.sublist (hsl.map _)) (fun d hd => h6.nQ d (hsub d hd)) (fun b hb => by have := h.ltw (hwb b hb); omega)
            (fun d hd hc hw => h6.rw' _ (.inr ⟨d, hsub d hd, hc, rfl⟩) (hwb _ hw))
          refine .inr ⟨_, hd, he, .inr ⟨hc, rfl, D1 ++ D2, a6, c6, ⟨(R6.k.weak fun b hb => hb.elim).s1 e7 (.inl (.inl rfl)), h7, fun b hb => .inl (hwb b hb), fun b hb => ?_⟩, ?_, ?_, (R6.k.weak fun b hb => hb.elim).s1 e7 (.inl rfl), fun x hx => ?_⟩⟩
          · rcases hr7 b hb with hb | ⟨d, hd, hc, rfl⟩
            · exact .inr (by omega)
            · exact .inl (.inr ⟨d, hsub d hd, hc, rfl⟩)
          · have := h.so
            rw [hD] at this
            have := dropK_mid this
            rw [← hD, he] at this
            exact this
          · have hso := h.so
            rw [hD] at hso
            obtain ⟨t1, t2⟩ := frs_mid hso
            rw [he] at t1 t2
            conv => rhs; rw [hD]
            unfold locD
            simp only [List.map_append, List.map_cons, List.filter_append, List.filter_cons]
            rw [if_neg (by simp [he]), List.filter_eq_self.2 (by intro x hx; obtain ⟨y, hy, rfl⟩ := List.mem_map.1 hx; simpa using t1 y hy), List.filter_eq_self.2 (by intro x hx; obtain ⟨y, hy, rfl⟩ := List.mem_map.1 hx; simpa using t2 y hy)]
          · have hso := h.so
            rw [hD] at hso
            obtain ⟨t1, t2⟩ := frs_mid hso
            rw [he] at t1 t2
            refine ⟨hsub x hx, ?_⟩
            rcases List.mem_append.1 hx with hx | hx
            · exact t1 x hx
            · exact t2 x hx
    · have hlt : D.length ≤ q := by simpa using hlt
      refine .inl ⟨fun d hd => ?_, rfl, rfl⟩
      obtain ⟨j, hj, rfl⟩ := List.getElem_of_mem hd
      exact hn j hj (by omega)
  · rintro e w' ⟨v, rfl, hw⟩
    exact ⟨v, rfl, hw⟩
end
end Go.Proofs.Ytkancagfhbkhiaa
