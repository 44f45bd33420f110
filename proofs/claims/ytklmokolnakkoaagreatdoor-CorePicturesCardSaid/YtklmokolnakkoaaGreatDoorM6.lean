/-
  A part of a proof that a law of this seat returns true at every input. Conditions: those in each theorem.
-/
import Derived.Test.YtklmokolnakkoaaGreatDoorMV3
import Derived.Test.YtklmokolnakkoaaGreatDoorMV4
import Derived.Test.YtklmokolnakkoaaGreatDoorY3
import Derived.Test.YtklmokolnakkoaaGreatDoorY7
set_option linter.unusedSimpArgs false
set_option linter.unusedVariables false
set_option maxRecDepth 100000
namespace Go.Proofs.YtklmokolnakkoaaGreatDoor
open Go Go.Eng
theorem tz0 (w : World) : Calls Tryz.prog 227 #[.int .u64 0] w fun e w' => e = .returned (vi 64) ∧ w' = w := by
  refine (Eng.vc_of [] 1 [] Tryz.mixes Tryz.func227 (args := [.int .u64 0]) (K := fun v w' => v = .int .i64 64 ∧ w' = w) (by kernel_rfl) (by kernel_rfl) rfl ⟨rfl, rfl⟩).mono ?_
  rintro e w' ⟨v, rfl, rfl, h⟩
  exact ⟨rfl, h⟩
structure Bm0 (W : World) (s : Nat) (a : Option Addr) (c : Nat) : Prop where
  so : own W s [.slice a 16 c, vi 1024]
  ip : isP a = true
  z : ∀ j : Nat, j < 16 → rd W (pb a) (po a + j) = some (.int .u64 0)
theorem next_spec {W : World} {s c : Nat} {a : Option Addr} (h : Bm0 W s a c) : Calls Tryz.prog 175 #[ptr s, vi 0] W fun e w' => e = .returned (.tuple #[vi 0, .bool false]) ∧ w' = W := by
  refine (vc175 _ 0 W (fun v w' => v = .tuple #[vi 0, .bool false] ∧ w' = W) ?_).mono ?_
  rotate_left
  · rintro e w' ⟨v, rfl, rfl, h⟩
    exact ⟨rfl, h⟩
  unfold vcP175
  refine (vc202 _ 0 W (fun v w' => v = .tuple #[vi 0, .bool false] ∧ w' = W) ?_).mono ?_
  rotate_left
  · rintro e w' ⟨v, rfl, rfl, h⟩
    exact ⟨_, _, rfl, rfl, h⟩
  have r1 : rd W s (0 + 1) = some (vi 1024) := by rw [h.so.rd]; rfl
  have r0 : rd W s 0 = some (.slice a 16 c) := by rw [h.so.rd]; rfl
  unfold vcP202
  have e0 : (if (0 : Int) > 0 then (0 : Int) else 0) = 0 := rfl
  rw [e0]
  have eq0 : IntKind.wrap .i64 (Int.tdiv 0 64) = 0 := by decide
  rw [eq0]
  refine ⟨fun n b q w' N => n = 0 ∧ b = false ∧ ∃ j : Nat, q = j ∧ j ≤ 16 ∧ N = 16 - j ∧ w' = W, ⟨16, rfl, rfl, 0, rfl, by omega, rfl, rfl⟩, ?_⟩
  rintro _ _ _ w1 _ ⟨rfl, rfl, j, rfl, hj, rfl, hw⟩
  rw [hw]
  refine gIf_intro (fun _ => rfl) ⟨_, (fun _ => r1), gIf_intro (fun _ => rfl) ⟨_, _, _, (fun _ => r0), Wif_intro (fun hc => ?_) (fun hc => ⟨rfl, rfl⟩)⟩⟩
  have hj16 : j < 16 := by simp at hc; omega
  have hz : IntKind.wrap .u64 (Int.fdiv 0 (2 ^ min (Int.toNat (Int.tmod 0 64)) 64) * 2 ^ min (Int.toNat (Int.tmod 0 64)) 64) = 0 := by decide
  refine Wif_yes rfl ⟨_, _, _, r0, Wif_yes h.ip (Wif_yes (inB_of (by omega) (by omega)) ⟨0, by rw [Int.toNat_natCast, Nat.mul_one]; exact h.z j hj16, Wif_intro (fun _ => Wif_yes (by decide) (Wif_yes (by decide) ?_)) (fun _ => ?_)⟩)⟩
  · rw [hz]
    refine (tz0 W).mono ?_
    rintro _ wx ⟨rfl, hx⟩
    rw [hx]
    exact ⟨_, rfl, gIf_intro (fun e => by simp at e) ⟨0, (fun e => by simp at e), Wif_no rfl ⟨16 - (j + 1), by omega, rfl, rfl, j + 1, by rw [wi (by omega)]; rfl, by omega, rfl, rfl⟩⟩⟩
  · refine (tz0 W).mono ?_
    rintro _ wx ⟨rfl, hx⟩
    rw [hx]
    exact ⟨_, rfl, gIf_intro (fun e => by simp at e) ⟨0, (fun e => by simp at e), Wif_no rfl ⟨16 - (j + 1), by omega, rfl, rfl, j + 1, by rw [wi (by omega)]; rfl, by omega, rfl, rfl⟩⟩⟩
theorem elU64 : ElT Tryz.prog 46 134 1 := elT (z := .int .u64 0) Tryz.underlying46 (by kernel_rfl) rfl (by decide)
theorem bcopy_spec {W : World} {s wb : Nat} (h : own W s [.slice (some ⟨wb, 0, none⟩) 16 16, vi 1024]) (hw : own W wb (List.replicate 16 (.int .u64 0))) :
    Calls Tryz.prog 174 #[ptr s] W fun e w' => ∃ s' a c, e = .returned (ptr s') ∧ Kept none' W w' ∧ Bm0 w' s' a c := by
  refine (vc174 _ W (fun v w' => ∃ s' a c, v = ptr s' ∧ Kept none' W w' ∧ Bm0 w' s' a c) ?_).mono ?_
  rotate_left
  · rintro e w' ⟨v, rfl, s', a, c, rfl, h⟩
    exact ⟨s', a, c, rfl, h⟩
  unfold vcP174
  refine Wif_no rfl fun w1 e1 => ?_
  have k1 : Kept none' W w1 := (Kept.refl _ _).dr e1
  have h1 := h.k k1
  have r1 : rd w1 s (0 + 1) = some (vi 1024) := by rw [h1.rd]; rfl
  refine Wif_yes rfl ⟨_, _, _, by show rd w1 s 0 = _; rw [h1.rd]; rfl, Wif_yes rfl ⟨1024, r1, ?_⟩⟩
  refine (vc201 _ 16 16 w1 (fun v w' => ∃ a c, v = .slice a 16 c ∧ Kept none' w1 w' ∧ w'.ownsRow w1.heap.size 134 1 (.slice a 16 c) 16 (List.replicate 16 (.int .u64 0))) ?_).mono ?_
  · unfold vcP201
    refine Wif_no rfl fun w2 e2 => ?_
    have k2 : Kept none' w1 w2 := (Kept.refl _ _).al e2
    have row2 := row0 (t := 134) (s := 1) e2
    obtain ⟨i, z, hi, hz, hsz, hzs, hby⟩ := elU64.ex
    obtain ⟨a', c', w3, happ, row3, k3⟩ := Eng.app (P := Tryz.prog) (t := 46) (ty := 46) (e := 134) (i := i) (z := z) (size := 1) Tryz.underlying46 hi hz hsz hzs (by decide) row2 (Eng.Src.of_own (X := wb) (off := 0) (l := 16) (c := 16) ((hw.k k1).k k2) (xs := List.replicate 16 (.int .u64 0)) fun j u hu => by rw [Nat.zero_add]; exact hu) (by simp) (fun u hu => by
      have := List.eq_of_mem_replicate hu
      subst this; rfl) (by omega) (by omega) k2.sz
    exact ⟨a', _, c', w3, happ, a', c', rfl, own0 k2 k3 fun x e => by have := (row2.lt x e).1; exact this, by simpa using row3⟩
  · rintro e w2 ⟨v, rfl, a, c, rfl, k2, row⟩
    refine ⟨a, 16, c, rfl, ⟨k2.rd_some r1 id, trivial⟩, fun w3 e3 => ?_⟩
    have k3 : Kept none' w2 w3 := (Kept.refl _ _).al e3
    have S := (Eng.Src.of_row row).k k3
    refine ⟨_, a, c, rfl, (k1.tr k2).tr k3, own_alloc e3, S.isp (by simp), fun j hj => S.rd ?_⟩
    rw [List.getElem?_replicate, if_pos hj]
theorem pins_gives {w : World} {cb s wb : Nat} (hc : rd w cb 0 = some (ptr s)) (h : own w s [.slice (some ⟨wb, 0, none⟩) 16 16, vi 1024]) (hw : own w wb (List.replicate 16 (.int .u64 0))) : GivesV Tryz.prog 173 [ptr cb] (([] : List Int).map fun x => [vi x]) (fun _ => False) w := by
  refine ⟨fun y J Jx W hk hab habx hY h0 => ?_⟩
  refine (vc173 y (some ⟨cb, 0, none⟩) W (fun v w' => (∃ Y, J Y (([] : List Int).map fun x => [vi x]).length w') ∨ ∃ Y, Jx Y w') ?_).mono ?_
  rotate_left
  · rintro e w' ⟨v, rfl, hw⟩
    exact ⟨⟨v, rfl⟩, hw⟩
  unfold vcP173
  refine Wif_yes rfl ⟨_, hk.rd_some hc id, (bcopy_spec (h.k hk) (hw.k hk)).mono ?_⟩
  rintro _ w1 ⟨s', a, c, rfl, k1, B⟩
  refine ⟨_, rfl, (next_spec B).mono ?_⟩
  rintro _ wx ⟨rfl, hx⟩
  rw [hx]
  refine ⟨_, _, rfl, fun _ b W' _ => b = false ∧ W' = w1, ⟨0, rfl, rfl⟩, ?_⟩
  rintro _ _ w2 _ ⟨rfl, hw2⟩
  rw [hw2]
  exact Wif_no rfl (.inl ⟨_, hab _ _ _ _ h0 (k1.mono fun _ _ e => e.elim)⟩)
theorem runs_gives {w : World} {cb s : Nat} (hc : rd w cb 0 = some (ptr s)) (h : own w s [.slice none 0 0]) : GivesV Tryz.prog 177 [ptr cb] [] (fun _ => False) w := by
  refine ⟨fun y J Jx W hk hab habx hY h0 => ?_⟩
  refine (vc177 y (some ⟨cb, 0, none⟩) W (fun v w' => (∃ Y, J Y ([] : List (List Value)).length w') ∨ ∃ Y, Jx Y w') ?_).mono ?_
  rotate_left
  · rintro e w' ⟨v, rfl, hw⟩
    exact ⟨⟨v, rfl⟩, hw⟩
  unfold vcP177
  refine Wif_yes rfl ⟨_, hk.rd_some hc id, Wif_no rfl (Wif_yes rfl ⟨_, hk.rd_some hc id, Wif_yes rfl ⟨none, 0, 0, by show rd W s 0 = _; rw [(h.k hk).rd]; rfl, ?_⟩⟩)⟩
  refine (vc178 none 0 0 W (fun v w' => v = .slice none 0 0 ∧ w' = W) (by unfold vcP178; exact Wif_yes rfl ⟨rfl, rfl⟩)).mono ?_
  rintro _ wx ⟨v, rfl, rfl, hx⟩
  rw [hx]
  refine ⟨_, _, _, rfl, fun n W' _ => n = 0 ∧ W' = W, ⟨0, rfl, rfl⟩, ?_⟩
  rintro _ w2 _ ⟨rfl, hw2⟩
  rw [hw2]
  exact Wif_no rfl (.inl ⟨_, h0⟩)
theorem appP_ok {w : World} {c : Nat} {xs : List Int} {R : Nat → Prop} (hg : ∀ w', Kept none' w w' → GivesV Tryz.prog 173 [ptr c] (xs.map fun x => [vi x]) R w') (hR : ∀ b, R b → b < w.heap.size) (hl : xs.length ≤ 100000) :
    Calls Tryz.prog 172 #[.slice none 0 0, .func (.func 173) #[] #[ptr c]] w fun e w' => ∃ (a : Option Addr) (l c : Nat), e = .returned (.slice a l c) ∧ RowI w' w.heap.size a l c xs ∧ Kept none' w w' := by
  refine (vc172b none 0 0 (some ⟨c, 0, none⟩) w (fun v w' => ∃ (a : Option Addr) (l c : Nat), v = .slice a l c ∧ RowI w' w.heap.size a l c xs ∧ Kept none' w w') ?_).mono ?_
  rotate_left
  · rintro e w' ⟨v, rfl, a, l, c, rfl, hw⟩
    exact ⟨a, l, c, rfl, hw⟩
  unfold vcP172b
  intro w4 e4
  have hx := own_alloc (c := [.slice none 0 0]) e4
  have k4 : Kept none' w w4 := (Kept.refl _ _).al e4
  have hs4 : w4.heap.size = w.heap.size + 1 := by rw [e4]; simp only [World.alloc, Array.size_push]
  have hR' : ∀ b, R b → b < w4.heap.size ∧ b ≠ w.heap.size := fun b hb => by have := hR b hb; omega
  have eT : ElT Tryz.prog 51 3 1 := elT59
  refine ⟨xs.map fun x => [vi x], R, SeqI w.heap.size w4.heap.size w4 3 1 (fun x => [vi x]) xs, fun _ _ _ => False, ⟨hg w4 k4, fun ys hx => ?_, fun b h => (hR' b h).1⟩, fun w1 k1 _ => ?_, fun Y i W W' h hY k' => h.ab (by omega) rfl hY k', fun _ _ _ _ h => h.elim, fun Y i W h hY hsz p hv => ?_, fun Y W h hd => ?_, fun _ _ h => h.elim, trivial⟩
  · obtain ⟨x, _, rfl⟩ := List.mem_map.1 hx
    exact ⟨rfl, x, rfl⟩
  · exact ⟨k1.mono fun _ _ h => h.elim, Nat.zero_le _, none, 0, hx.k k1, World.ownsRow_nil _ _ _ _, fun x h => h.elim⟩
  · have hx : xs[i]? = some p := by
      rw [List.getElem?_map] at hv
      cases hh : xs[i]? with
      | none => rw [hh] at hv; cases hv
      | some x => rw [hh] at hv; simp at hv; rw [hv]
    refine ⟨recKept_of (Kept.refl none' W) (by omega) id id, fun w7 k7 hs7 => ?_⟩
    obtain ⟨a, cc, h1, h2⟩ := h.step eT (by omega) rfl hY hsz hl hR' hx (fun _ => rfl) oneV k7 fun b hb => .inl hb
    exact ⟨a, i, cc, h1, fun w8 e8 => h2 w8 e8⟩
  · rw [List.length_map] at h
    have hd' : DefsAt [w4.heap.size] W := ⟨by simp, fun D hD => by simp at hD; subst hD; exact hd.at_⟩
    obtain ⟨a, cc, hr, _⟩ := h.fin (w2 := W) (by omega) rfl k4 rfl ((Kept.refl (fun _ => False) W).mono fun _ _ e => e.elim)
    refine ⟨a, _, cc, hr, hd', fun w2 k2 hs2 => ?_⟩
    obtain ⟨a2, cc2, hr2, row, kk⟩ := h.fin (w2 := w2) (by omega) rfl k4 rfl k2
    rw [hr] at hr2
    cases hr2
    exact ⟨a, _, cc, rfl, ⟨rfl, by rw [map_flat]; exact row⟩, kk⟩
def NoL (a : Option Addr) (l c : Nat) : Prop := l = 0 ∧ (a = none → c = 0) ∧ c ≤ maxLen
theorem NoL.slR {α : Type} {R : Rd α} {s : Nat} {w : World} {a : Option Addr} {l c : Nat} (h : NoL a l c) : SlR R s w a l c ([] : List α) := by
  obtain ⟨rfl, h1, h2⟩ := h
  exact ⟨rfl, fun h => absurd h (Nat.lt_irrefl _), h1, Nat.zero_le _, h2, fun i x hx => by simp at hx, fun o ho => by rw [Nat.zero_mul] at ho; omega⟩
theorem noL_row {w : World} {base e s n l c : Nat} {a : Option Addr} {xs : List Value} (h : w.ownsRow base e s (.slice a l c) n xs) (hn : n = 0) : NoL a l c := by
  rcases h.2 with ⟨h0, _⟩ | ⟨g, cap, cur, hv, _, _, _, hm, _⟩
  · cases h0; exact ⟨rfl, fun _ => rfl, Nat.zero_le _⟩
  · cases hv; exact ⟨hn, (fun e => by cases e), hm⟩
theorem pins_spec {w : World} {cb s wb : Nat} (hc : rd w cb 0 = some (ptr s)) (h : own w s [.slice (some ⟨wb, 0, none⟩) 16 16, vi 1024]) (hw : own w wb (List.replicate 16 (.int .u64 0))) :
    Calls Tryz.prog 124 #[.func (.func 173) #[] #[ptr cb]] w fun e w' => ∃ a l c, e = .returned (.slice a l c) ∧ Kept none' w w' ∧ NoL a l c := by
  refine (vc124 _ w (fun v w' => ∃ a l c, v = .slice a l c ∧ Kept none' w w' ∧ NoL a l c) ?_).mono ?_
  rotate_left
  · rintro e w' ⟨v, rfl, a, l, c, rfl, h⟩
    exact ⟨a, l, c, rfl, h⟩
  unfold vcP124
  refine (appP_ok (xs := []) (fun w' k => pins_gives (k.rd_some hc id) (h.k k) (hw.k k)) (fun _ e => e.elim) (Nat.zero_le _)).mono ?_
  rintro _ w1 ⟨a, l, c, rfl, R, k⟩
  exact ⟨a, l, c, rfl, a, l, c, rfl, k, noL_row R.2 R.1⟩
theorem runs_spec {w : World} {cb s : Nat} (hc : rd w cb 0 = some (ptr s)) (h : own w s [.slice none 0 0]) :
    Calls Tryz.prog 126 #[.func (.func 177) #[] #[ptr cb]] w fun e w' => ∃ a l c, e = .returned (.slice a l c) ∧ Kept none' w w' ∧ NoL a l c := by
  refine (vc126 _ w (fun v w' => ∃ a l c, v = .slice a l c ∧ Kept none' w w' ∧ NoL a l c) ?_).mono ?_
  rotate_left
  · rintro e w' ⟨v, rfl, a, l, c, rfl, h⟩
    exact ⟨a, l, c, rfl, h⟩
  unfold vcP126
  refine (vc176 none 0 0 (some ⟨cb, 0, none⟩) w (fun v w' => ∃ a l c, v = .slice a l c ∧ Kept none' w w' ∧ NoL a l c) ?_).mono ?_
  rotate_left
  · rintro e w' ⟨v, rfl, a, l, c, rfl, h⟩
    exact ⟨a, l, c, rfl, a, l, c, rfl, h⟩
  unfold vcP176
  intro w4 e4
  have hx := own_alloc (c := [.slice none 0 0]) e4
  have k4 : Kept none' w w4 := (Kept.refl _ _).al e4
  have hs4 : w4.heap.size = w.heap.size + 1 := by rw [e4]; simp only [World.alloc, Array.size_push]
  refine ⟨[], fun _ => False, SeqI w.heap.size w4.heap.size w4 238 3 (fun x : Int => [vi x, vi x, .int .u8 x]) [], fun _ _ _ => False, ⟨runs_gives (k4.rd_some hc id) (h.k k4), (fun ys hx => by cases hx), fun b h => h.elim⟩, fun w1 k1 _ => ?_, fun Y i W W' h hY k' => h.ab (by omega) rfl hY k', fun _ _ _ _ h => h.elim, (fun Y i W h hY hsz n n1 n2 hv => by cases hv), fun Y W h hd => ?_, fun _ _ h => h.elim, trivial⟩
  · exact ⟨k1.mono fun _ _ h => h.elim, Nat.zero_le _, none, 0, hx.k k1, World.ownsRow_nil _ _ _ _, fun x h => h.elim⟩
  · have hd' : DefsAt [w4.heap.size] W := ⟨by simp, fun D hD => by simp at hD; subst hD; exact hd.at_⟩
    obtain ⟨a, cc, hr, _⟩ := h.fin (w2 := W) (by omega) rfl k4 rfl ((Kept.refl (fun _ => False) W).mono fun _ _ e => e.elim)
    refine ⟨a, _, cc, hr, hd', fun w2 k2 hs2 => ?_⟩
    obtain ⟨a2, cc2, hr2, row, kk⟩ := h.fin (w2 := w2) (by omega) rfl k4 rfl k2
    rw [hr] at hr2
    cases hr2
    exact ⟨a, _, cc, rfl, kk, noL_row row rfl⟩
def leavesOf (by' : Nat → Int) (n : Nat) (root : Int) (q : Nat) : List (Int × Int) := (List.range q).filterMap fun i : Nat => if lfE by' n root ((i : Int) * 32) = 0 then some ((i : Int), lfN by' n root ((i : Int) * 32)) else none
def pagesOf (by' : Nat → Int) (n : Nat) (root : Int) (q : Nat) : List Mapped := (List.range q).filterMap fun i : Nat => if gtE by' n root (i : Int) = 0 ∧ gtK by' n root (i : Int) ≠ 0 then some ⟨(i : Int), gtK by' n root (i : Int), gtN by' n root (i : Int)⟩ else none
theorem leavesOf_succ (by' : Nat → Int) (n : Nat) (root : Int) (q : Nat) : leavesOf by' n root (q + 1) = leavesOf by' n root q ++ (if lfE by' n root ((q : Int) * 32) = 0 then [((q : Int), lfN by' n root ((q : Int) * 32))] else []) := by
  unfold leavesOf
  rw [List.range_succ, List.filterMap_append]
  congr 1
  by_cases h : lfE by' n root ((q : Int) * 32) = 0 <;> simp [h]
theorem pagesOf_succ (by' : Nat → Int) (n : Nat) (root : Int) (q : Nat) : pagesOf by' n root (q + 1) = pagesOf by' n root q ++ (if gtE by' n root (q : Int) = 0 ∧ gtK by' n root (q : Int) ≠ 0 then [⟨(q : Int), gtK by' n root (q : Int), gtN by' n root (q : Int)⟩] else []) := by
  unfold pagesOf
  rw [List.range_succ, List.filterMap_append]
  congr 1
  by_cases h : gtE by' n root (q : Int) = 0 ∧ gtK by' n root (q : Int) ≠ 0
  · simp only [if_pos h, List.filterMap_cons, List.filterMap_nil]
  · simp only [if_neg h, List.filterMap_cons, List.filterMap_nil]
theorem leavesOf_len (by' : Nat → Int) (n : Nat) (root : Int) (q : Nat) : (leavesOf by' n root q).length ≤ q := Nat.le_trans (List.length_filterMap_le _ _) (by simp)
theorem pagesOf_len (by' : Nat → Int) (n : Nat) (root : Int) (q : Nat) : (pagesOf by' n root q).length ≤ q := Nat.le_trans (List.length_filterMap_le _ _) (by simp)
theorem leavesOf_pre (by' : Nat → Int) (n : Nat) (root : Int) (q : Nat) : ∀ {m : Nat}, q ≤ m → ∃ r, leavesOf by' n root m = leavesOf by' n root q ++ r
  | 0, h => ⟨[], by rw [show q = 0 by omega]; simp⟩
  | m + 1, h => by
    by_cases e : q = m + 1
    · exact ⟨[], by rw [e]; simp⟩
    · obtain ⟨r, hr⟩ := leavesOf_pre by' n root q (m := m) (by omega)
      exact ⟨r ++ _, by rw [leavesOf_succ, hr, List.append_assoc]⟩
theorem pagesOf_pre (by' : Nat → Int) (n : Nat) (root : Int) (q : Nat) : ∀ {m : Nat}, q ≤ m → ∃ r, pagesOf by' n root m = pagesOf by' n root q ++ r
  | 0, h => ⟨[], by rw [show q = 0 by omega]; simp⟩
  | m + 1, h => by
    by_cases e : q = m + 1
    · exact ⟨[], by rw [e]; simp⟩
    · obtain ⟨r, hr⟩ := pagesOf_pre by' n root q (m := m) (by omega)
      exact ⟨r ++ _, by rw [pagesOf_succ, hr, List.append_assoc]⟩
theorem at_len {α : Type} {l l' r : List α} {x : α} (h : l' = (l ++ [x]) ++ r) : l'[l.length]? = some x := by rw [h]; simp
def memR (c1 c2 m bb mb : Nat) (x : Nat) : Prop := x = c1 ∨ x = c2 ∨ x = m ∨ x = bb ∨ x = mb
section
variable {w : World} {m bb mb : Nat} {c : Nat → Int} {n : Nat} {by' : Nat → Int} {mk : Nat → Mark}
theorem keptY_own {Y : Nat → Prop} {W W' : World} {b : Nat} {cs : List Value} (k : KeptY Y W W') (hb : Y b) (o : own W b cs) : own W' b cs := by
  obtain ⟨t, h⟩ := o
  exact ⟨t, (k.blk b hb).trans h⟩
theorem MemAt.kY {Y : Nat → Prop} {W W' : World} (h : MemAt W m bb mb c n by' mk) (k : KeptY Y W W') (h1 : Y m) (h2 : Y bb) (h3 : Y mb) : MemAt W' m bb mb c n by' mk := ⟨keptY_own k h1 h.so, keptY_own k h2 h.bs, keptY_own k h3 h.ms, h.ne⟩
theorem leaves_gives (h : MemAt w m bb mb c n by' mk) (hb : ByR by') (hn : n ≤ 1024) {c1 c2 : Nat} {root : Int} (o1 : own w c1 [ptr m]) (o2 : own w c2 [vi root]) :
    GivesV Tryz.prog 179 [ptr c1, ptr c2] ((leavesOf by' n root 32).map fun x => [vi x.1, vi x.2]) (memR c1 c2 m bb mb) w := by
  refine ⟨fun y J Jx W hk hab habx hY h0 => ?_⟩
  refine (vc179 y (some ⟨c1, 0, none⟩) (some ⟨c2, 0, none⟩) W (fun v w' => (∃ Y, J Y ((leavesOf by' n root 32).map fun x => [vi x.1, vi x.2]).length w') ∨ ∃ Y, Jx Y w') ?_).mono ?_
  rotate_left
  · rintro e w' ⟨v, rfl, hw⟩
    exact ⟨⟨v, rfl⟩, hw⟩
  unfold vcP179
  refine ⟨fun q W' N => ∃ (j : Nat) (Y : Nat → Prop), q = j ∧ j ≤ 32 ∧ N = 32 - j ∧ J Y (leavesOf by' n root j).length W' ∧ MemAt W' m bb mb c n by' mk ∧ own W' c1 [ptr m] ∧ own W' c2 [vi root], ⟨32, 0, _, rfl, by omega, rfl, h0, h.k hk, o1.k hk, o2.k hk⟩, ?_⟩
  rintro _ w1 _ ⟨j, Y, rfl, hj, rfl, hJ, M, p1, p2⟩
  refine Wif_intro (fun hc => ?_) (fun hc => ?_)
  · have hj32 : j < 32 := by simp at hc; omega
    refine Wif_yes rfl ⟨_, by show rd w1 c1 0 = _; rw [p1.rd]; rfl, Wif_yes rfl ⟨_, by show rd w1 c2 0 = _; rw [p2.rd]; rfl, ?_⟩⟩
    rw [wi (x := (j : Int) * 32) (by omega)]
    refine (leaf_spec M hb hn root _).mono ?_
    rintro _ w2 ⟨rfl, k2⟩
    have M2 := M.k k2
    have q1 := p1.k k2
    have q2 := p2.k k2
    have hJ2 := hab _ _ _ _ hJ (k2.mono fun _ _ e => e.elim)
    have es := leavesOf_succ by' n root j
    refine ⟨_, _, rfl, Wif_intro (fun he => ?_) (fun he => ?_)⟩
    · have hz : lfE by' n root ((j : Int) * 32) = 0 := by simpa using he
      rw [if_pos hz] at es
      obtain ⟨r, hr⟩ := leavesOf_pre by' n root (j + 1) (m := 32) (by omega)
      rw [es] at hr
      have hy := hY _ _ [vi (j : Int), vi (lfN by' n root ((j : Int) * 32))] w2 (by rw [List.getElem?_map, at_len hr]; rfl) hJ2
      obtain ⟨fn, tm, asg', bo, hrun, hR⟩ := hy.run
      refine ⟨fn, tm, asg', bo, hrun, hR.mono ?_⟩
      rintro en w6 ⟨k6, ⟨rfl, hJ6⟩ | ⟨rfl, hx6⟩⟩
      · refine ⟨true, rfl, Wif_no rfl ⟨32 - (j + 1), by omega, j + 1, _, by rw [wi (by omega)]; rfl, hj32, rfl, by rw [es, List.length_append]; exact hJ6, M2.kY k6 (.inr (.inr (.inr (.inl rfl)))) (.inr (.inr (.inr (.inr (.inl rfl))))) (.inr (.inr (.inr (.inr (.inr rfl))))), keptY_own k6 (.inr (.inl rfl)) q1, keptY_own k6 (.inr (.inr (.inl rfl))) q2⟩⟩
      · exact ⟨false, rfl, Wif_yes rfl (.inr ⟨_, hx6⟩)⟩
    · have hz : lfE by' n root ((j : Int) * 32) ≠ 0 := by simpa using he
      rw [if_neg hz, List.append_nil] at es
      exact ⟨32 - (j + 1), by omega, j + 1, _, by rw [wi (by omega)]; rfl, hj32, rfl, by rw [es]; exact hJ2, M2, q1, q2⟩
  · have : j = 32 := by simp at hc; omega
    subst this
    exact .inl ⟨Y, by rw [List.length_map]; exact hJ⟩
theorem pages_gives (h : MemAt w m bb mb c n by' mk) (hb : ByR by') (hn : n ≤ 1024) {c1 c2 : Nat} {root : Int} (o1 : own w c1 [ptr m]) (o2 : own w c2 [vi root]) :
    GivesV Tryz.prog 180 [ptr c1, ptr c2] ((pagesOf by' n root 1024).map fun x => [vi x.page, .agg #[.int .u8 x.kind, vi x.n]]) (memR c1 c2 m bb mb) w := by
  refine ⟨fun y J Jx W hk hab habx hY h0 => ?_⟩
  refine (vc180 y (some ⟨c1, 0, none⟩) (some ⟨c2, 0, none⟩) W (fun v w' => (∃ Y, J Y ((pagesOf by' n root 1024).map fun x => [vi x.page, .agg #[.int .u8 x.kind, vi x.n]]).length w') ∨ ∃ Y, Jx Y w') ?_).mono ?_
  rotate_left
  · rintro e w' ⟨v, rfl, hw⟩
    exact ⟨⟨v, rfl⟩, hw⟩
  unfold vcP180
  refine ⟨fun q W' N => ∃ (j : Nat) (Y : Nat → Prop), q = j ∧ j ≤ 1024 ∧ N = 1024 - j ∧ J Y (pagesOf by' n root j).length W' ∧ MemAt W' m bb mb c n by' mk ∧ own W' c1 [ptr m] ∧ own W' c2 [vi root], ⟨1024, 0, _, rfl, by omega, rfl, h0, h.k hk, o1.k hk, o2.k hk⟩, ?_⟩
  rintro _ w1 _ ⟨j, Y, rfl, hj, rfl, hJ, M, p1, p2⟩
  refine Wif_intro (fun hc => ?_) (fun hc => ?_)
  · have hj32 : j < 1024 := by simp at hc; omega
    refine Wif_yes rfl ⟨_, by show rd w1 c1 0 = _; rw [p1.rd]; rfl, Wif_yes rfl ⟨_, by show rd w1 c2 0 = _; rw [p2.rd]; rfl, (get_spec M hb hn root _).mono ?_⟩⟩
    rintro _ w2 ⟨rfl, k2⟩
    refine ⟨_, _, _, rfl, fun w3 e3 => ?_⟩
    have x3 : own w3 w2.heap.size [.int .u8 0, vi 0] := own_alloc e3
    have k3 : Kept none' w2 w3 := (Kept.refl _ _).al e3
    refine ⟨wr2 x3, fun w4 e4 => ?_⟩
    obtain ⟨x4, k4'⟩ := st2w x3 e4
    have k4 : Kept none' w1 w4 := k2.tr (own0 k3 k4' fun x e => by omega)
    obtain ⟨r0, r1⟩ := rd2 x4
    have M2 := M.k k4
    have q1 := p1.k k4
    have q2 := p2.k k4
    have hJ2 := hab _ _ _ _ hJ (k4.mono fun _ _ e => e.elim)
    have es := pagesOf_succ by' n root j
    refine ⟨_, (fun _ => r0), _, _, (fun _ => ⟨r0, r1⟩), Wif_intro (fun he => ?_) (fun he => ?_)⟩
    · have hz : gtE by' n root (j : Int) = 0 ∧ gtK by' n root (j : Int) ≠ 0 := by simpa using he
      rw [if_pos hz] at es
      obtain ⟨r, hr⟩ := pagesOf_pre by' n root (j + 1) (m := 1024) (by omega)
      rw [es] at hr
      have hy := hY _ _ [vi (j : Int), .agg #[.int .u8 (gtK by' n root (j : Int)), vi (gtN by' n root (j : Int))]] w4 (by rw [List.getElem?_map, at_len hr]; rfl) hJ2
      obtain ⟨fn, tm, asg', bo, hrun, hR⟩ := hy.run
      refine ⟨fn, tm, asg', bo, hrun, hR.mono ?_⟩
      rintro en w6 ⟨k6, ⟨rfl, hJ6⟩ | ⟨rfl, hx6⟩⟩
      · refine ⟨true, rfl, Wif_no rfl ⟨1024 - (j + 1), by omega, j + 1, _, by rw [wi (by omega)]; rfl, hj32, rfl, by rw [es, List.length_append]; exact hJ6, M2.kY k6 (.inr (.inr (.inr (.inl rfl)))) (.inr (.inr (.inr (.inr (.inl rfl))))) (.inr (.inr (.inr (.inr (.inr rfl))))), keptY_own k6 (.inr (.inl rfl)) q1, keptY_own k6 (.inr (.inr (.inl rfl))) q2⟩⟩
      · exact ⟨false, rfl, Wif_yes rfl (.inr ⟨_, hx6⟩)⟩
    · have hz : ¬ (gtE by' n root (j : Int) = 0 ∧ gtK by' n root (j : Int) ≠ 0) := fun hh => by
        rw [show (gtE by' n root (j : Int) == 0 && gtK by' n root (j : Int) != 0) = true by simpa using hh] at he
        cases he
      rw [if_neg hz, List.append_nil] at es
      exact ⟨1024 - (j + 1), by omega, j + 1, _, by rw [wi (by omega)]; rfl, hj32, rfl, by rw [es]; exact hJ2, M2, q1, q2⟩
  · have : j = 1024 := by simp at hc; omega
    subst this
    exact .inl ⟨Y, by rw [List.length_map]; exact hJ⟩
end
structure SeqJ {α : Type} (kx B : Nat) (cs : List Value) (o : Nat) (w4 : World) (T s : Nat) (f : α → List Value) (xs : List α) (Y : Nat → Prop) (i : Nat) (W : World) : Prop where
  kp : Kept (· = kx) w4 W
  le : i ≤ xs.length
  ex : ∃ (a : Option Addr) (cc : Nat), own W kx (cs.set o (.slice a i cc)) ∧ W.ownsRow (B + 2) T s (.slice a i cc) i ((xs.take i).flatMap f) ∧ ∀ x, Y x → x < W.heap.size ∧ (Value.slice a i cc).ownBlock ≠ some x
section
variable {α : Type} {kx B : Nat} {cs : List Value} {o : Nat} {w4 : World} {T s : Nat} {f : α → List Value} {xs : List α} {Y : Nat → Prop} {i : Nat} {W : World}
theorem SeqJ.ab {W' : World} (h : SeqJ kx B cs o w4 T s f xs Y i W) (hk : kx < B) (hB : B = w4.heap.size) (hY : ∀ b, Y b → B + 2 ≤ b) (k' : Kept (recsY B Y) W W') : SeqJ kx B cs o w4 T s f xs (fun b => Y b ∨ (W.heap.size ≤ b ∧ b < W'.heap.size)) i W' := by
  obtain ⟨a, cc, g2, g3, g4⟩ := h.ex
  have hsz := k'.sz
  have h1 := h.kp.sz
  refine ⟨h.kp.trans k' fun x hx hh => ?_, h.le, a, cc, g2.kx k' (fun hx => by rcases hx with h | h | h; omega; omega; have := hY _ h; omega), ownsRow_kx g3 k' fun x hx _ hb hh => (by rcases hh with h | h | h; omega; omega; exact (g4 x h).2 hb), fun x hx => ?_⟩
  · rcases hh with rfl | rfl | h3
    · omega
    · omega
    · have := hY x h3
      omega
  · rcases hx with hx | hx
    · have := g4 x hx; exact ⟨by omega, this.2⟩
    · refine ⟨hx.2, fun e => ?_⟩
      have := (g3.lt x e).2
      omega
theorem SeqJ.step {S : Nat} (hT : ElT Tryz.prog S T s) (ho : o < cs.length) {R Z : Nat → Prop} {p : α} {w7 : World} (h : SeqJ kx B cs o w4 T s f xs Y i W) (hk : kx < B) (hB : B = w4.heap.size) (hY : ∀ b, Y b → B + 2 ≤ b) (hsz : B + 2 ≤ W.heap.size) (hl : xs.length ≤ 100000) (hR : ∀ b, R b → b < B ∧ b ≠ kx)
    (hp : xs[i]? = some p) (hs : ∀ x, (f x).length = s) (h1 : ∀ u ∈ f p, u.oneCell' = true) (k7 : Kept Z W w7) (hZ : ∀ b, Z b → b = B + 1 ∨ W.heap.size ≤ b) :
    ∃ (a : Option Addr) (cc : Nat), rd w7 kx o = some (.slice a i cc) ∧ ∀ w8, w8 = w7.alloc (.cells (f p).toArray T) → ∃ (a' : Option Addr) (l' c' : Nat) (w9 : World), appIs Tryz.prog #[S, S] S (.slice a i cc) (.slice (some ⟨w7.heap.size, 0, none⟩) 1 1) (.slice a' l' c') w8 w9 ∧ wr w9 kx o ∧
      ∀ w10, w10 = st w9 kx o (.slice a' l' c') → RecKept B w7 w10 ∧ KeptY (fun b => Y b ∨ R b) W w10 ∧ SeqJ kx B cs o w4 T s f xs Y (i + 1) w10 := by
  obtain ⟨a, cc, g2, g3, g4⟩ := h.ex
  have hil := (List.getElem?_eq_some_iff.1 hp).1
  have hW7 := k7.sz
  have hg := g2.lt
  have kW7 : Kept (· = B + 1) W w7 := k7.mono fun b hb hz => (hZ b hz).resolve_right (by omega)
  refine ⟨a, cc, by rw [(g2.kx kW7 (by omega)).rd, List.getElem?_set_self ho], fun w8 e8 => ?_⟩
  have k8 : Kept none' w7 w8 := (Kept.refl _ _).al e8
  have row7 := ownsRow_kx g3 kW7 fun x hx _ _ hh => by omega
  have row8 := ownsRow_kx row7 k8 fun _ _ _ _ => id
  have hs8 := k8.sz
  obtain ⟨t0, z, hi, hz, hsz0, hzs, hby⟩ := hT.ex
  obtain ⟨a', l', c', w9, happ, rfl, row9, k9, hon⟩ := app_any (P := Tryz.prog) (t := S) (e := T) (i := t0) (z := z) (size := s) hT.sl hi hz hsz0 hzs hT.pos row8 (own_alloc e8) (m := 1) (off := 0) (c := 1) (news := f p) (by rw [List.drop_zero, Nat.one_mul, List.take_of_length_le (Nat.le_of_eq (hs p))]) (by rw [hs, Nat.one_mul]) h1 (by omega) hby (by omega)
  have g9 := ((g2.kx kW7 (by omega)).k k8).kx k9 fun e => by have := (row8.lt _ e).1; omega
  refine ⟨a', _, c', w9, happ, g9.wr (by rw [List.length_set]; exact ho), fun w10 e10 => ?_⟩
  have k10 : Kept (· = kx) w9 w10 := (Kept.refl _ _).s1 e10 (.inl rfl)
  have g10 := g9.s1 e10
  rw [List.set_set] at g10
  have K710 : Kept (fun x => x = kx ∨ (Value.slice a i cc).ownBlock = some x) w7 w10 := ((k8.mono fun _ _ h => h.elim).trans k9 fun x _ h => .inr h).trans k10 fun x _ h => .inl h
  have KW10 : Kept (fun x => x = B + 1 ∨ x = kx ∨ (Value.slice a i cc).ownBlock = some x) W w10 := (kW7.mono fun _ _ h => .inl h).trans K710 fun x _ h => .inr h
  have hl10 := KW10.sz
  have hgB := h.kp.sz
  refine ⟨recKept_of K710 (by omega) (fun h => ?_) (fun h => ?_), keptY_of KW10 fun y hy => ?_, ?_, hil, a', c', g10, ?_, fun y hy => ?_⟩
  · rcases h with h | h
    · omega
    · have := (row7.lt _ h).1; omega
  · rcases h with h | h
    · omega
    · have := (row7.lt _ h).1; omega
  · rcases hy with hy | hy
    · have h1 := hY y hy
      have h2 := g4 y hy
      refine ⟨h2.1, fun hh => ?_⟩
      rcases hh with h | h | h
      · have h5 := h2.1; have : y = B + 1 := h; omega
      · omega
      · exact h2.2 h
    · have h1 := hR y hy
      refine ⟨by omega, fun hh => ?_⟩
      rcases hh with h | h | h
      · omega
      · omega
      · have := (g3.lt _ h).1; omega
  · refine keptX h.kp KW10 fun y hy => ?_
    rcases hy with h | h | h
    · right; omega
    · exact .inl h
    · right; have := (g3.lt _ h).1; omega
  · have e1 : (xs.take (i + 1)).flatMap f = (xs.take i).flatMap f ++ f p := by
      rw [List.take_add_one, hp, List.flatMap_append]
      simp
    rw [e1]
    exact ownsRow_kx row9 k10 fun y hy _ _ h => by omega
  · have h1 := hY y hy
    have h2 := g4 y hy
    refine ⟨by omega, fun e => ?_⟩
    rcases hon with h3 | h3
    · rw [h3] at e; exact h2.2 e
    · have := h3 y e; omega
theorem SeqJ.fin (h : SeqJ kx B cs o w4 T s f xs Y xs.length W) : ∃ (a : Option Addr) (cc : Nat), own W kx (cs.set o (.slice a xs.length cc)) ∧ W.ownsRow (B + 2) T s (.slice a xs.length cc) xs.length (xs.flatMap f) := by
  obtain ⟨a, cc, g2, g3, g4⟩ := h.ex
  rw [List.take_length] at g3
  exact ⟨a, cc, g2, g3⟩
end
end Go.Proofs.YtklmokolnakkoaaGreatDoor
