/-
  A part of a proof that a law of this seat returns true at every input. Conditions: those in each theorem.
-/
import Derived.Test.YtkancagfhbkhiaaC3
namespace Go.Proofs.Ytkancagfhbkhiaa
open Go Eng
set_option linter.unusedSimpArgs false
set_option linter.unusedVariables false
set_option maxRecDepth 10000

/-! ### lists of numbers -/
theorem info_int : (Try.prog.info? 3).map (fun i => (i.zero, i.size, i.bytes)) = some (some (.int .i64 0), 1, 8) := by kernel_rfl
theorem app_int {w : World} {base : Nat} {v : Value} {n : Nat} {xs : List Value} (ho : w.ownsRow base 3 1 v n xs) {X m c off : Nat} {ys : List Value} {news : List Int} (hx : own w X ys) (hys : (ys.drop off).take m = news.map (Value.int .i64)) (hl : news.length = m)
    (h63 : n + m ≤ 1000000) (hbase : base ≤ w.heap.size) :
    ∃ a l c' w', appIs Try.prog #[33, 33] 33 v (.slice (some ⟨X, off, none⟩) m c) (.slice a l c') w w' ∧ l = n + m ∧ w'.ownsRow base 3 1 (.slice a l c') (n + m) (xs ++ news.map (Value.int .i64)) ∧ Kept (fun b => v.ownBlock = some b) w w' := by
  have h := info_int
  cases hi : Try.prog.info? 3 with
  | none => rw [hi] at h; cases h
  | some i =>
    rw [hi] at h
    simp at h
    exact app_own (P := Try.prog) (t := 33) (ty := 33) (e := 3) (i := i) (z := .int .i64 0) (size := 1) Try.underlying33 hi h.1 h.2.1 rfl (by decide) ho hx (by simpa using hys) (by simpa using hl)
      (fun u hu => by obtain ⟨k, _, rfl⟩ := List.mem_map.1 hu; rfl) h63 (by omega) hbase

theorem bytes_new {w w1 : World} {t : TypeId} (e : w1 = w.alloc (.cells (List.replicate 256 (Value.int .u8 0)).toArray t)) : Eng.bytes w1 w.heap.size (fun _ => 0) :=
  ⟨List.replicate 256 (.int .u8 0), own_alloc e, Nat.le_of_eq List.length_replicate.symm, fun i hi => by rw [List.getElem?_replicate, if_pos hi]⟩

/-! ### Chain -/
structure Told (w : World) (s : Sl) (a : Option Addr) (l c : Nat) (n : Int) (w' : World) (m : Nat) (xs ys : List Nat) : Prop where
  sp : s.ch = xs ++ ys
  ll : l = xs.length
  nn : n = fst ys
  mm : m = ys.length
  fr : Kept none' w w'
  row : w'.ownsRow w.heap.size 3 1 (.slice a l c) l (xs.map fun x : Nat => Value.int .i64 (x : Int))
theorem linked_tail {c z : Nat} {f : Nat → Int} {xs ys : List Nat} (h : linked c z f (xs ++ ys)) : linked c z f ys := by
  induction xs with
  | nil => exact h
  | cons x xs ih => exact ih h.2
theorem chain_spec {w : World} {S B bc : Nat} {s : Sl} {f : Nat → Int} (a : At w S B bc s f) : Calls Try.prog 22 #[.pointer (some ⟨S, 0, none⟩)] w fun e w' =>
    ∃ b c, e = .returned (.slice b s.ch.length c) ∧ w'.ownsRow w.heap.size 3 1 (.slice b s.ch.length c) s.ch.length (s.ch.map fun x : Nat => Value.int .i64 (x : Int)) ∧ Kept none' w w' := by
  refine (vc22 _ w (fun v w' => ∃ b c, v = .slice b s.ch.length c ∧ w'.ownsRow w.heap.size 3 1 (.slice b s.ch.length c) s.ch.length (s.ch.map fun x : Nat => Value.int .i64 (x : Int)) ∧ Kept none' w w') ?_).mono ?_
  · unfold vcP22
    have h8 := a.good.s8
    have h32 := a.good.count32
    have hlt := a.good.lt
    have hcl := a.good.chlen
    have hfs : ∀ ys : List Nat, (∀ y ∈ ys, y < s.count) → 0 ≤ fst ys ∧ fst ys ≤ 255 := by
      intro ys hy
      cases ys with
      | nil => exact ⟨by decide, by decide⟩
      | cons y ys =>
        have := hy y (List.mem_cons_self ..)
        exact ⟨by show (0 : Int) ≤ (y : Int); omega, by show (y : Int) ≤ 255; omega⟩
    refine gIf_intro (fun _ => rfl) ⟨s.size, fun _ => by simp [a.so.rd]; rfl, Wif_no (by simp; omega) (Wif_yes rfl ⟨fst s.ch, (a.so.rd 4).trans (raw_4 _ _ _ _ _ _ _ _ _), ?_⟩)⟩
    refine ⟨fun b l c n w' m => ∃ xs ys, Told w s b l c n w' m xs ys, ⟨s.ch.length, [], s.ch, rfl, rfl, ?_, rfl, Kept.refl _ _, World.ownsRow_nil _ _ _ _⟩, ?_⟩
    · have := hfs s.ch hlt
      exact wi (by omega)
    rintro b l c n w1 m ⟨xs, ys, sp, ll, nn, mm, fr, row⟩
    have a1 := a.k fr
    have hlen : s.ch.length = xs.length + ys.length := by rw [sp, List.length_append]
    refine Wif_yes rfl ⟨s.ch.length, (a1.so.rd 5).trans (raw_5 _ _ _ _ _ _ _ _ _), gIf_intro (fun _ => rfl) ⟨s.count, fun _ => (a1.so.rd 3).trans (raw_3 _ _ _ _ _ _ _ _ _), ?_⟩⟩
    cases ys with
    | nil =>
      simp at hlen sp
      refine Wif_no (by simp; omega) ?_
      have hl : l = s.ch.length := by omega
      subst hl
      exact ⟨b, c, rfl, by rw [sp] at row ⊢; exact row, fr⟩
    | cons y ys =>
      simp at hlen
      have hy : y < s.count := hlt y (by rw [sp]; simp)
      have hys : ∀ x ∈ ys, x < s.count := fun x hx => hlt x (by rw [sp]; simp [hx])
      have hlk : f (s.colour + y * s.size) = fst ys := by
        have := a.good.link
        rw [sp] at this
        exact (linked_tail this).1
      have hn : n = (y : Int) := nn
      subst hn
      refine Wif_yes (by simp; omega) ?_
      intro w2 e2
      have p2 : own w2 w1.heap.size [.int .i64 (y : Int)] := own_alloc (c := [.int .i64 (y : Int)]) e2
      have row2 : w2.ownsRow w.heap.size 3 1 (.slice b l c) l (xs.map fun x : Nat => Value.int .i64 (x : Int)) := by rw [e2]; exact row.alloc _
      have k2 := fr.al (c := #[.int .i64 (y : Int)]) e2
      have hsz : w.heap.size ≤ w2.heap.size := k2.sz
      obtain ⟨b3, l3, c3, w3, ha, hl3, row3, kk⟩ := app_int row2 (X := w1.heap.size) (m := 1) (c := 1) (off := 0) (news := [(y : Int)]) p2 rfl rfl (by omega) hsz
      refine ⟨b3, l3, c3, w3, ha, ?_⟩
      have k3 : Kept none' w w3 := k2.trans kk fun g hg hh => by
        have := row2.lt g hh
        omega
      have a3 := a.k k3
      refine (at_spec a3 _).mono ?_
      rintro _ w4 ⟨rfl, k4⟩
      have a4 := a3.k k4
      rw [atOf_nat hy]
      have hf := a.good.fits hy
      refine ⟨_, _, rfl, ?_⟩
      dsimp only
      refine Wif_yes rfl ⟨some ⟨B, 0, none⟩, 256, bc, (a4.so.rd 0).trans (raw_0 _ _ _ _ _ _ _ _ _), Wif_yes rfl (Wif_yes (inB_of (by omega) (by omega)) ⟨f (s.colour + y * s.size), ?_, ?_⟩)⟩
      · simp only [pb_some, po_some, Int.toNat_natCast, Nat.mul_one, Nat.zero_add]
        exact a4.by'.rd (by omega)
      · refine ⟨ys.length, by simp at mm; omega, xs ++ [y], ys, by rw [sp]; simp, ?_, ?_, rfl, k3.tr k4, ?_⟩
        · rw [hl3, ll]; simp
        · rw [hlk]
          have := hfs ys hys
          exact wi (by omega)
        · have h5 := ownsRow_kx row3 k4 (fun _ _ _ _ => id)
          rw [hl3] at h5 ⊢
          simpa using h5
  · rintro e w' ⟨v, rfl, b, c, rfl, h⟩
    exact ⟨b, c, rfl, h⟩

/-! ### the known case -/
theorem known_spec (w : World) : Calls Try.prog 16 #[] w fun e w' => e = .returned (.bool true) ∧ Kept none' w w' := by
  refine (vc16 w (fun v w' => v = .bool true ∧ Kept none' w w') ?_).mono ?_
  · unfold vcP16
    intro w1 e1
    have b1 := bytes_new e1
    have k1 := (Kept.refl none' w).al e1
    clear e1
    have hle : w.heap.size ≤ w.heap.size := Nat.le_refl _
    have hlt := b1.lt
    generalize hB : w.heap.size = B at *
    refine (new_ok (w := w1) (B := B) 24 16 b1 (Nat.le_refl _) (by decide)).mono ?_
    rintro _ w2 ⟨rfl, k2, f, a2, _⟩
    have k2' := k1.go k2 (fun b hb => .inr (by omega))
    have hS : B < w1.heap.size := hlt
    generalize w1.heap.size = S at *
    refine ⟨_, _, rfl, ?_⟩
    have c0 : (newSl 24 16).ch = 0 :: [1, 2, 3, 4, 5, 6, 7, 8, 9] := by decide
    refine (take_some a2 c0).mono ?_
    rintro _ w3 ⟨rfl, k3, a3⟩
    have k3' := k2'.go k3 (fun b hb => .inr (by rcases hb with rfl | rfl <;> omega))
    refine ⟨_, _, rfl, ?_⟩
    refine (take_some a3 (i := 1) (l := [2, 3, 4, 5, 6, 7, 8, 9]) rfl).mono ?_
    rintro _ w4 ⟨rfl, k4, a4⟩
    have k4' := k3'.go k4 (fun b hb => .inr (by rcases hb with rfl | rfl <;> omega))
    refine ⟨_, _, rfl, ?_⟩
    intro w5 e5
    have a5 := a4.al e5
    have k5 := k4'.al (c := #[]) e5
    have r5 : w5.ownsRow B 3 1 (.slice (some ⟨w4.heap.size, 0, none⟩) 0 0) 0 [] := by
      rw [e5]
      exact World.ownsRow_made (base := B) (e := 3) (size := 1) w4 #[] 0 (by have := k4'.sz; omega) (by decide) rfl
    have hs4 := a4.so.lt
    have hb4 := a4.by'.lt
    have hs5 : w5.heap.size = w4.heap.size + 1 := by rw [e5]; simp
    clear e5
    refine (chain_spec a5).mono ?_
    rintro _ w6 ⟨b, c, rfl, row, k6⟩
    have a6 := a5.k k6
    have k6' := k5.tr k6
    have r6 := ownsRow_kx r5 k6 (fun _ _ _ _ => id)
    refine ⟨_, _, _, rfl, ?_⟩
    have hch : (took (took (newSl 24 16) 0 [1, 2, 3, 4, 5, 6, 7, 8, 9]) 1 [2, 3, 4, 5, 6, 7, 8, 9]).ch = [2, 3, 4, 5, 6, 7, 8, 9] := rfl
    rw [hch] at row ⊢
    obtain ⟨_, hh⟩ := ownsRow_own row
    rcases hh with ⟨_, h0, _⟩ | ⟨g, cs, rfl, hg, og, htk, _, _⟩
    · cases h0
    obtain ⟨b7, l7, c7, w7, ha, hl7, row7, k7⟩ := app_int r6 (X := g) (m := 8) (c := c) (off := 0) (news := [2, 3, 4, 5, 6, 7, 8, 9]) og (by simpa using htk) rfl (by omega) (by have := k6'.sz; omega)
    refine ⟨b7, l7, c7, w7, ha, ?_⟩
    have hx : ∀ q : Nat, (Value.slice (some ⟨w4.heap.size, 0, none⟩) 0 0).ownBlock = some q → q = w4.heap.size := fun q hq => by simpa [Value.ownBlock, eq_comm] using hq
    have a7 := a6.kx k7 (fun h => by have := hx _ h; omega) (fun h => by have := hx _ h; omega)
    have k7' := k6'.go k7 (fun q hq => .inr (by have := hx _ hq; have := k4'.sz; omega))
    refine Wif_yes (by decide) ?_
    refine (count_spec a7).mono ?_
    rintro _ w8 ⟨rfl, rfl⟩
    refine ⟨_, rfl, ?_⟩
    have hl8 : l7 = 8 := by omega
    subst hl8
    obtain ⟨_, hh⟩ := ownsRow_own row7
    rcases hh with ⟨_, h0, _⟩ | ⟨g7, cs7, rfl, hg7, og7, htk7, _, hcs7⟩
    · cases h0
    have hc : (((took (took (newSl 24 16) 0 [1, 2, 3, 4, 5, 6, 7, 8, 9]) 1 [2, 3, 4, 5, 6, 7, 8, 9]).count : Nat) : Int) = 10 := rfl
    rw [hc]
    refine gIf_intro (fun _ => rfl) (gIf_intro (fun _ => rfl) ⟨2, fun _ => ?_, Wif_yes (by decide) ?_⟩)
    · have h0 : (cs7.take (8 * 1))[0]? = some (.int .i64 2) := by
        have : (0 + 8) * 1 = 8 * 1 := rfl
        rw [this] at htk7
        rw [htk7]; rfl
      rw [List.getElem?_take] at h0
      simp only [pb_some, po_some, og7.rd]
      simpa using h0
    refine (give_ok a7 0 (by decide) rfl rfl).mono ?_
    rintro _ w9 ⟨rfl, k9, a9⟩
    have k9' := k7'.go k9 (fun b hb => .inr (by rcases hb with rfl | rfl <;> omega))
    refine ⟨_, rfl, 2, fun _ => ?_, Wif_yes rfl ?_⟩
    · have := a9.by'.rd (i := 16) (by omega)
      rw [this]
      rfl
    refine (free_spec a9).mono ?_
    rintro _ w10 ⟨rfl, rfl⟩
    exact ⟨_, rfl, rfl, k9'⟩
  · rintro e w' ⟨v, rfl, rfl, h⟩
    exact ⟨rfl, h⟩
end Go.Proofs.Ytkancagfhbkhiaa
