/-
  A part of a proof that a law of this seat returns true at every input. Conditions: those in each theorem.
-/
import Derived.Test.YtklmokolnakkoaaGreatDoorX9
import Derived.Test.YtklmokolnakkoaaGreatDoorEngN
set_option linter.unusedSimpArgs false
set_option linter.unusedVariables false
set_option maxRecDepth 100000
namespace Go.Proofs.YtklmokolnakkoaaGreatDoor
open Go Go.Eng
theorem at_slR {α : Type} {R : Rd α} {s : Nat} {w : World} {base T n : Nat} {a : Option Addr} {l c : Nat} {vs : List Value} {xs : List α} {F : Nat → Prop} (row : w.ownsRow base T s (.slice a l c) n vs) (hl : n = xs.length) (hF : ∀ x, F x → x < w.heap.size)
    (hel : ∀ (i : Nat) x, xs[i]? = some x → ∃ cs : List Value, cs.length = s ∧ (∀ (j : Nat) u, cs[j]? = some u → vs[i * s + j]? = some u) ∧ ∀ w', Kept (fun b => ¬ F b) w w' → R w' cs x) :
    At (fun x => (Value.slice a l c).ownBlock = some x ∨ F x) (fun W => SlR R s W a l c xs) w := by
  refine ⟨fun x hx => hx.elim (fun h => (row.lt x h).2) (hF x), fun w' k => ?_⟩
  have row' := ownsRow_kx row k fun b _ _ e hb => hb (.inl e)
  have kF : Kept (fun b => ¬ F b) w w' := k.mono fun b _ hb hf => hb (.inr hf)
  rcases row'.2 with ⟨h0, h1⟩ | ⟨g, cap, cur, h0, hb, hgg, hnc, hm, hsz, htk⟩
  · have : xs = [] := List.length_eq_zero_iff.1 (by omega)
    subst this
    cases h0
    exact SlR.nil'
  · cases h0
    subst hl
    refine ⟨rfl, fun _ => rfl, fun h => (by cases h), hnc, hm, fun i x hx => ?_⟩
    obtain ⟨cs, g1, g2, g3⟩ := hel i x hx
    refine ⟨cs, g1, g3 _ kF, fun j u hu => ?_⟩
    have h4 := g2 j u hu
    have h5 : (cur.toList.take (xs.length * s))[i * s + j]? = some u := by rw [htk]; exact h4
    rw [List.getElem?_take] at h5
    split at h5
    · show rd w' g (0 + i * s + j) = _
      rw [Nat.zero_add, rd_def, hgg]
      rw [Array.getElem?_toList] at h5
      exact h5
    · cases h5
theorem flat_get {α : Type} {f : α → List Value} {s : Nat} (h : ∀ x, (f x).length = s) : ∀ {xs : List α} {i : Nat} {x : α}, xs[i]? = some x → ∀ {j : Nat} {u : Value}, (f x)[j]? = some u → (xs.flatMap f)[i * s + j]? = some u
  | [], i, x, hx, j, u, hu => by simp at hx
  | y :: ys, 0, x, hx, j, u, hu => by
    simp at hx
    subst hx
    rw [List.flatMap_cons, Nat.zero_mul, Nat.zero_add, List.getElem?_append_left (List.getElem?_eq_some_iff.1 hu).1]
    exact hu
  | y :: ys, i + 1, x, hx, j, u, hu => by
    rw [List.flatMap_cons, List.getElem?_append_right (by rw [h, Nat.succ_mul]; omega), h, Nat.succ_mul, show i * s + s + j - s = i * s + j by omega]
    exact flat_get h (by simpa using hx) hu
theorem at_flat {α : Type} {f : α → List Value} {s : Nat} (h : ∀ x, (f x).length = s) {w : World} {base T : Nat} {a : Option Addr} {l c n : Nat} {xs : List α} (row : w.ownsRow base T s (.slice a l c) n (xs.flatMap f)) (hn : n = xs.length) :
    At (fun x => (Value.slice a l c).ownBlock = some x) (fun W => SlR (fun _ cs x => cs = f x) s W a l c xs) w :=
  (at_slR (F := fun _ => False) row hn (fun _ h => h.elim) fun i x hx => ⟨f x, h x, fun j u hu => flat_get h hx hu, fun _ _ => rfl⟩).mono (fun x hx => hx.resolve_right id) fun x hx => (row.lt x hx).2
theorem st5 {w w' : World} {b : Nat} {cs : List Value} {v0 v1 v2 v3 v4 : Value} (h : own w b cs) (hl : cs.length = 5) (e : w' = st (st (st (st (st w b 0 v0) b 1 v1) b 2 v2) b 3 v3) b 4 v4) : own w' b [v0, v1, v2, v3, v4] ∧ Kept (· = b) w w' := by
  subst e
  match cs, hl with
  | [a, c, d, f, g], _ =>
    exact ⟨h.st_same.st_same.st_same.st_same.st_same, ((((Kept.refl (· = b) w).st (.inl rfl)).st (.inl rfl)).st (.inl rfl) |>.st (.inl rfl)).st (.inl rfl)⟩
theorem wr5 {w : World} {b : Nat} {cs : List Value} (h : own w b cs) (hl : cs.length = 5) : wr w b 0 ∧ wr w b 1 ∧ wr w b 2 ∧ wr w b 3 ∧ wr w b 4 := ⟨h.wr (by omega), h.wr (by omega), h.wr (by omega), h.wr (by omega), h.wr (by omega)⟩
theorem rd5 {w : World} {b : Nat} {v0 v1 v2 v3 v4 : Value} (h : own w b [v0, v1, v2, v3, v4]) : rd w b 0 = some v0 ∧ rd w b 1 = some v1 ∧ rd w b 2 = some v2 ∧ rd w b 3 = some v3 ∧ rd w b 4 = some v4 := ⟨by rw [h.rd]; rfl, by rw [h.rd]; rfl, by rw [h.rd]; rfl, by rw [h.rd]; rfl, by rw [h.rd]; rfl⟩
theorem st2 {w w' : World} {b : Nat} {cs : List Value} {v0 v1 : Value} (h : own w b cs) (hl : cs.length = 2) (e : w' = st (st w b 0 v0) b 1 v1) : own w' b [v0, v1] ∧ Kept (· = b) w w' := by
  subst e
  match cs, hl with
  | [a, c], _ => exact ⟨h.st_same.st_same, ((Kept.refl (· = b) w).st (.inl rfl)).st (.inl rfl)⟩
theorem own_row {w : World} {b : Nat} {s n : Nat} {f : Nat → List Value} (h : own w b (rowL n f)) (hf : ∀ i, i < n → (f i).length = s) {i j : Nat} (hi : i < n) (hj : j < s) {v : Value} (hv : (f i)[j]? = some v) : rd w b (i * s + j) = some v := by
  rw [h.rd, rowL_get hf hi hj, hv]
section
variable {w : World} {m bb mb : Nat} {c : Nat → Int} {n : Nat} {by' : Nat → Int} {mk : Nat → Mark}
theorem MemAt.k {w' : World} (h : MemAt w m bb mb c n by' mk) (k : Kept none' w w') : MemAt w' m bb mb c n by' mk := ⟨h.so.k k, h.bs.k k, h.ms.k k, h.ne⟩
theorem MemAt.r95 (h : MemAt w m bb mb c n by' mk) : rd w m 95 = some (.slice (some ⟨mb, 0, none⟩) n n) := by
  rw [h.so.rd, List.getElem?_append_right (by rw [runI_len]; omega), runI_len]
  rfl
theorem MemAt.r94 (h : MemAt w m bb mb c n by' mk) : rd w m 94 = some (.slice (some ⟨bb, 0, none⟩) (n * 256) (n * 256)) := by
  rw [h.so.rd, List.getElem?_append_right (by rw [runI_len]; omega), runI_len]
  rfl
theorem MemAt.rm (h : MemAt w m bb mb c n by' mk) {i : Nat} (hi : i < n) : rd w mb (0 + i * 5) = some (.int .u8 (mk i).role) ∧ rd w mb (0 + i * 5 + 1) = some (vi (mk i).order) ∧ rd w mb (0 + i * 5 + 2) = some (vi (mk i).owner) ∧ rd w mb (0 + i * 5 + 3) = some (vi (mk i).page) ∧ rd w mb (0 + i * 5 + 4) = some (vi (mk i).index) := by
  have hf : ∀ i, i < n → (markV (mk i)).length = 5 := fun _ _ => rfl
  rw [Nat.zero_add]
  exact ⟨own_row h.ms hf hi (j := 0) (by omega) rfl, own_row h.ms hf hi (j := 1) (by omega) rfl, own_row h.ms hf hi (j := 2) (by omega) rfl, own_row h.ms hf hi (j := 3) (by omega) rfl, own_row h.ms hf hi (j := 4) (by omega) rfl⟩
theorem mark_spec (h : MemAt w m bb mb c n by' mk) {i : Nat} (hi : i < n) : Calls Tryz.prog 64 #[ptr m, vi i] w fun e w' => e = .returned (.tuple #[.agg (markV (mk i)).toArray, vi 0]) ∧ Kept none' w w' := by
  refine (vc64 _ i w (fun v w' => v = .tuple #[.agg (markV (mk i)).toArray, vi 0] ∧ Kept none' w w') ?_).mono ?_
  rotate_left
  · rintro e w' ⟨v, rfl, rfl, hk⟩
    exact ⟨rfl, hk⟩
  unfold vcP64
  intro w1 e1
  have o1 := own_alloc (c := [Value.int IntKind.u8 0, Value.int IntKind.i64 0, Value.int IntKind.i64 0, Value.int IntKind.i64 0, Value.int IntKind.i64 0]) e1
  have k1 : Kept none' w w1 := (Kept.refl _ _).al e1
  have h1 := h.k k1
  have h95 : rd w1 m (0 + 95) = some (.slice (some ⟨mb, 0, none⟩) n n) := by rw [Nat.zero_add]; exact h1.r95
  have hlt : (decide ((i : Int) < 0) || decide ((i : Int) ≥ (n : Int))) = false := by simp; omega
  refine ⟨_, _, _, fun _ => h95, Wif_no rfl ⟨_, _, _, fun _ => h95, Wif_no hlt (Wif_yes rfl ⟨_, _, _, h95, Wif_yes rfl (Wif_yes (inB_of (by omega) (by omega)) ?_)⟩)⟩⟩
  refine ⟨_, _, _, _, _, by rw [Int.toNat_natCast]; exact h1.rm hi, wr5 o1 rfl, fun w2 e2 => ?_⟩
  obtain ⟨o2, k2⟩ := st5 o1 rfl e2
  exact ⟨_, _, _, _, _, rd5 o2, rfl, own0 k1 k2 fun x e => by omega⟩
end
theorem p_c {b : Nat} : pb (some (Addr.mk b 0 none)) = b := rfl
theorem marks_pic {w : World} {k kb : Nat} {S : Mach} {fp : Prt → Nat → Prop} (h : CoreAt w k S fp) (hk : rd w kb 0 = some (ptr k)) :
    Calls Tryz.prog 62 #[vi S.n, .func (.func 63) #[] #[ptr kb]] w fun e w' => ∃ a l c, e = .returned (.slice a l c) ∧ Kept none' w w' ∧ At (rng w w') (fun W => SlR RMark 5 W a l c ((List.range S.n).map S.mks)) w' := by
  have h4 := h.n4
  refine (sev62 (n := S.n) (w0 := w) (J := fun F i vs w => vs = ((List.range i).map S.mks).flatMap markV) (by omega) ⟨fun F i vs w w' X h _ _ => h, fun F i vs w1 hi hv k1 hF => CallsV.mk _ #[] #[_] rfl (by kernel_rfl) ?_⟩ rfl).mono ?_
  · obtain ⟨bb, mb, M, _⟩ := (h.k k1).at' .mem
    refine (vc63 i (some ⟨kb, 0, none⟩) w1 (fun v w' => v = .agg (markV (S.mks i)).toArray ∧ Kept none' w1 w') ?_).mono ?_
    · unfold vcP63
      intro w2 e2
      have o2 := own_alloc (c := [Value.int IntKind.u8 0, Value.int IntKind.i64 0, Value.int IntKind.i64 0, Value.int IntKind.i64 0, Value.int IntKind.i64 0]) e2
      have k2 : Kept none' w1 w2 := (Kept.refl _ _).al e2
      have C2 := (h.k k1).k k2
      refine Wif_yes rfl ⟨_, (k1.tr k2).rd_some hk id, Wif_yes rfl ⟨_, by show rd w2 k (0 + 94) = _; rw [Nat.zero_add]; exact C2.rt (j := 0) rfl, (mark_spec (M.k k2) hi).mono ?_⟩⟩
      rintro _ w3 ⟨rfl, k3⟩
      have o3 := o2.k k3
      refine ⟨_, _, _, _, _, _, rfl, fun w4 e4 => ?_⟩
      have o4 := own_alloc (c := [Value.int IntKind.u8 0, Value.int IntKind.i64 0, Value.int IntKind.i64 0, Value.int IntKind.i64 0, Value.int IntKind.i64 0]) e4
      have k4 : Kept none' w3 w4 := (Kept.refl _ _).al e4
      refine ⟨wr5 o4 rfl, fun w5 e5 => ?_⟩
      obtain ⟨o5, k5⟩ := st5 o4 rfl e5
      have hne : w1.heap.size ≠ w3.heap.size := Nat.ne_of_lt o3.lt
      have o53 := (o3.k k4).kx k5 hne
      refine ⟨_, _, _, _, _, rd5 o5, wr5 o53 rfl, fun w6 e6 => ?_⟩
      obtain ⟨o6, k6⟩ := st5 o53 rfl e6
      refine ⟨_, _, _, _, _, rd5 o6, rfl, own0 (own0 ((k2.tr k3).tr k4) k5 fun x e => ?_) k6 fun x e => Nat.le_of_eq e.symm⟩
      have := o3.lt
      omega
    · rintro e w' ⟨v, rfl, rfl, k⟩
      refine ⟨markV (S.mks i), ⟨_, _, _, _, _, rfl, rfl⟩, rfl, fun u hu => ?_, k, ?_⟩
      · simp [markV] at hu
        rcases hu with rfl | rfl | rfl | rfl | rfl <;> rfl
      · rw [hv, List.range_succ, List.map_append, List.flatMap_append]
        simp
  · rintro e w' ⟨a, c, F, vs, rfl, kk, row, rfl, _, _⟩
    refine ⟨a, _, c, rfl, kk, ?_⟩
    exact (at_flat (f := markV) (fun _ => rfl) row (by simp)).mono (fun x hx => row.lt x hx) fun x hx => hx.2
end Go.Proofs.YtklmokolnakkoaaGreatDoor
set_option linter.unusedSimpArgs false
set_option linter.unusedVariables false
set_option maxRecDepth 100000
namespace Go.Proofs.YtklmokolnakkoaaGreatDoor
open Go Go.Eng
def ToldA {α : Type} (R : Rd α) (x : α) : Thing := fun u H w => At H (fun W => R W [u] x) w
theorem ToldA.stb {α : Type} {R : Rd α} {x : α} : Stb (ToldA R x) where
  kx v H w w' X h k hx := At.kx h k fun y e hy => hx y e hy
  lt v H w h := h.lt
theorem pics_row {α : Type} {R : Rd α} {xs : Nat → α} {T n : Nat} {w w' : World} {a : Option Addr} {c : Nat} {F : Nat → Prop} {vs : List Value} (row : w'.ownsRow w.heap.size T 1 (.slice a n c) n vs) (hj : n ≤ n ∧ JRow (fun j => ToldA R (xs j)) F n vs w') (hF : ∀ x, F x → w.heap.size ≤ x ∧ x < w'.heap.size) :
    At (rng w w') (fun W => SlR R 1 W a n c ((List.range n).map xs)) w' := by
  obtain ⟨_, u, H, rfl, h2, h3, _⟩ := hj
  refine (at_slR (F := F) row (by simp) (fun x hx => (hF x hx).2) fun i x hx => ?_).mono (fun x hx => hx.elim (fun e => row.lt x e) (hF x)) fun x hx => hx.2
  have hi : i < n := by simpa using (List.getElem?_eq_some_iff.1 hx).1
  simp [hi] at hx
  subst hx
  refine ⟨[u i], rfl, fun j v hv => ?_, fun w'' k => (h2 i hi).go w'' (k.mono fun b _ hb hH => hb (h3 i hi b hH))⟩
  have hj : j = 0 := by have := (List.getElem?_eq_some_iff.1 hv).1; simp at this; omega
  subst hj
  simp at hv
  simp [hi, hv]
theorem row0 {w w' : World} {t : TypeId} {s : Nat} (e : w' = w.alloc (.cells #[] t)) : w'.ownsRow w.heap.size t s (.slice (some ⟨w.heap.size, 0, none⟩) 0 0) 0 [] := by
  refine ⟨by simp, .inr ⟨_, 0, #[], rfl, Nat.le_refl _, ?_, by decide, by decide, by simp, by simp⟩⟩
  rw [e]
  simp only [World.alloc]
  simp
theorem map_flat : ∀ xs : List Int, xs.map vi = xs.flatMap fun x => [vi x]
  | [] => rfl
  | x :: xs => by rw [List.map_cons, List.flatMap_cons, map_flat xs]; rfl
theorem RowI.at {w : World} {base : Nat} {a : Option Addr} {l c : Nat} {xs : List Int} (h : RowI w base a l c xs) : At (fun x => (Value.slice a l c).ownBlock = some x) (fun W => SlR RInt 1 W a l c xs) w := by
  have row := h.2
  rw [map_flat] at row
  exact at_flat (f := fun x => [vi x]) (fun _ => rfl) row h.1
theorem clone_ints {w : World} {base : Nat} {a : Option Addr} {l c : Nat} {xs : List Int} (h : RowI w base a l c xs) (hl : xs.length ≤ 1000000) :
    Calls Tryz.prog 69 #[.slice a l c] w fun e w' => ∃ a' c', e = .returned (.slice a' xs.length c') ∧ Kept none' w w' ∧ RowI w' w.heap.size a' xs.length c' xs := by
  refine (vc69 a l c w (fun v w' => ∃ a' c', v = (.slice a' xs.length c') ∧ Kept none' w w' ∧ RowI w' w.heap.size a' xs.length c' xs) ?_).mono ?_
  rotate_left
  · rintro e w' ⟨v, rfl, a', c', rfl, h⟩
    exact ⟨a', c', rfl, h⟩
  unfold vcP69
  refine Wif_intro (fun hn => ?_) (fun hn => fun w1 e1 => ?_)
  · have : a = none := by simpa using hn
    subst this
    obtain ⟨hx, row⟩ := h
    have h0 : xs = [] := by
      rcases row.2 with ⟨_, h1⟩ | ⟨g, cap, cur, h0, _⟩
      · exact List.length_eq_zero_iff.1 (by omega)
      · cases h0
    subst h0
    exact ⟨none, 0, rfl, Kept.refl _ _, RowI.nil'⟩
  · have k1 : Kept none' w w1 := (Kept.refl _ _).al e1
    have r1 : w1.ownsRow w.heap.size 3 1 _ 0 [] := row0 e1
    have h1 := h.k k1
    have hsrc : Eng.Src w1 a l c (xs.map vi) := Eng.Src.of_row h1.2
    cases hi : Tryz.prog.info? 3 with
    | none => have : (Tryz.prog.info? 3).isSome = true := by kernel_rfl
              rw [hi] at this; cases this
    | some i =>
      have hinf := info_int
      rw [hi] at hinf
      simp at hinf
      obtain ⟨a', c', w2, happ, row, k2⟩ := Eng.app (P := Tryz.prog) (t := 51) (ty := 51) (e := 3) (i := i) (z := .int .i64 0) (size := 1) Tryz.underlying51 hi hinf.1 hinf.2.1 rfl (by decide) r1 hsrc (by simp [h.1]) (fun u hu => by
        obtain ⟨x, _, rfl⟩ := List.mem_map.1 hu
        rfl) (by rw [h.1]; omega) (by omega) k1.sz
      rw [Nat.zero_add, h.1] at happ row
      rw [h.1]
      refine ⟨a', _, c', w2, happ, a', c', rfl, own0 k1 k2 fun x e => ?_, rfl, by simpa using row⟩
      have := (r1.lt x e).1
      exact this
section
variable {w : World} {k kb : Nat} {S : Mach} {fp : Prt → Nat → Prop}
theorem held_pic (h : CoreAt w k S fp) (hk : rd w kb 0 = some (ptr k)) (hl : ∀ i, i < S.cpus → (S.held i).length ≤ 1000000) :
    Calls Tryz.prog 67 #[vi (S.c 1), .func (.func 68) #[] #[ptr kb]] w fun e w' => ∃ a l c, e = .returned (.slice a l c) ∧ Kept none' w w' ∧ At (rng w w') (fun W => SlR (RL RInt 1) 1 W a l c ((List.range S.cpus).map S.held)) w' := by
  have hs := h.sizes
  rw [← hs.2.1.2.2]
  refine (sev67 (n := S.cpus) (w0 := w) (by omega) (makes_row (A := fun j => ToldA (RL RInt 1) (S.held j)) (fun _ _ => ToldA.stb) fun i w1 hi k1 => CallsV.mk _ #[] #[_] rfl (by kernel_rfl) ?_) jrow0).mono ?_
  · have C1 := h.k k1
    have hh : RowA (fun i => IntsA (S.held i)) S.cpus S.vhe (fp .held) w1 := C1.at' .held
    obtain ⟨g, cp, u, H, hv, hr, hA, _, _⟩ := hh.one (B := fun i => IntsA (S.held i)) (w' := w1) (fun _ _ => IntsA.stb) hi fun _ _ => rfl
    obtain ⟨a, l, c, rfl, hR, _⟩ := hA.ex
    refine (vc68 i (some ⟨kb, 0, none⟩) w1 (fun v w' => ∃ a' c', v = (.slice a' (S.held i).length c') ∧ Kept none' w1 w' ∧ RowI w' w1.heap.size a' (S.held i).length c' (S.held i)) ?_).mono ?_
    · unfold vcP68
      refine Wif_yes rfl ⟨_, k1.rd_some hk id, Wif_yes rfl ⟨some ⟨g, 0, none⟩, S.cpus, cp, ?_, Wif_yes rfl (Wif_yes (inB_of (by omega) (by omega)) ⟨a, l, c, ?_, (clone_ints hR (hl i hi)).mono ?_⟩)⟩⟩
      · have := C1.rt (j := 20) (v := S.vhe) rfl
        rw [hv] at this
        show rd w1 k (0 + 114) = _
        rw [Nat.zero_add]
        exact this
      · rw [Int.toNat_natCast, Nat.mul_one]
        show rd w1 g (0 + i) = _
        rw [Nat.zero_add]
        exact hr
      · rintro _ w2 ⟨a', c', rfl, k2, R2⟩
        exact ⟨a', _, c', rfl, a', c', rfl, k2, R2⟩
    · rintro e w' ⟨v, rfl, a', c', rfl, k2, R2⟩
      exact ⟨_, _, ⟨_, _, _, rfl, rfl⟩, rfl, k2, R2.at.imp fun W hW => ⟨a', _, c', rfl, hW⟩, fun x hx => (R2.lt hx).1⟩
  · rintro e w' ⟨a, c, F, vs, rfl, kk, row, hj, hF, _⟩
    exact ⟨a, _, c, rfl, kk, pics_row row hj hF⟩
theorem flying_pic (h : CoreAt w k S fp) (hk : rd w kb 0 = some (ptr k)) :
    Calls Tryz.prog 70 #[vi (S.c 1), .func (.func 71) #[] #[ptr kb]] w fun e w' => ∃ a l c, e = .returned (.slice a l c) ∧ Kept none' w w' ∧ At (rng w w') (fun W => SlR (RL RPair 2) 1 W a l c ((List.range S.cpus).map fun _ => [])) w' := by
  have hs := h.sizes
  rw [← hs.2.1.2.2]
  refine (sev70 (n := S.cpus) (w0 := w) (by omega) (makes_row (A := fun j => ToldA (RL RPair 2) []) (fun _ _ => ToldA.stb) fun i w1 hi k1 => CallsV.mk _ #[] #[_] rfl (by kernel_rfl) ?_) jrow0).mono ?_
  · have C1 := h.k k1
    have hh : RowA (fun i => NilA) S.cpus S.vfl (fp .flying) w1 := C1.at' .flying
    obtain ⟨g, cp, u, H, hv, hr, hA, _, _⟩ := hh.one (B := fun i => NilA) (w' := w1) (fun _ _ => NilA.stb) hi fun _ _ => rfl
    obtain ⟨rfl, _⟩ := hA
    refine (vc71 i (some ⟨kb, 0, none⟩) w1 (fun v w' => v = .slice none 0 0 ∧ w' = w1) ?_).mono ?_
    · unfold vcP71
      refine Wif_yes rfl ⟨_, k1.rd_some hk id, Wif_yes rfl ⟨some ⟨g, 0, none⟩, S.cpus, cp, ?_, Wif_yes rfl (Wif_yes (inB_of (by omega) (by omega)) ⟨none, 0, 0, ?_, (vc72 none 0 0 w1 (fun v w' => v = .slice none 0 0 ∧ w' = w1) ?_).mono ?_⟩)⟩⟩
      · have := C1.rt (j := 21) (v := S.vfl) rfl
        rw [hv] at this
        show rd w1 k (0 + 115) = _
        rw [Nat.zero_add]
        exact this
      · rw [Int.toNat_natCast, Nat.mul_one]
        show rd w1 g (0 + i) = _
        rw [Nat.zero_add]
        exact hr
      · unfold vcP72
        exact Wif_yes rfl ⟨rfl, rfl⟩
      · rintro _ w2 ⟨v, rfl, rfl, rfl⟩
        exact ⟨none, 0, 0, rfl, rfl, rfl⟩
    · rintro e w' ⟨v, rfl, rfl, rfl⟩
      exact ⟨_, fun _ => False, ⟨_, _, _, rfl, rfl⟩, rfl, Kept.refl _ _, ⟨fun x hx => hx.elim, fun W hW => ⟨none, 0, 0, rfl, SlR.nil'⟩⟩, fun x hx => hx.elim⟩
  · rintro e w' ⟨a, c, F, vs, rfl, kk, row, hj, hF, _⟩
    exact ⟨a, _, c, rfl, kk, pics_row row hj hF⟩
theorem rget_spec {r fb mb n : Nat} {of : Nat → Int × Int} {at' : List ((Int × Int) × Value)} (h : RmapAt w r fb mb n of at') {i : Nat} (hi : i < n) :
    Calls Tryz.prog 74 #[ptr r, vi i] w fun e w' => e = .returned (.tuple #[vi (of i).1, vi (of i).2, .bool ((of i).1 != 0)]) ∧ Kept none' w w' := by
  refine (vc74 _ i w (fun v w' => v = .tuple #[vi (of i).1, vi (of i).2, .bool ((of i).1 != 0)] ∧ Kept none' w w') ?_).mono ?_
  rotate_left
  · rintro e w' ⟨v, rfl, rfl, hk⟩
    exact ⟨rfl, hk⟩
  unfold vcP74
  have h1 : rd w r (0 + 1) = some (.map (some mb)) := by rw [h.so.rd]; rfl
  have h0 : rd w r 0 = some (.slice (some ⟨fb, 0, none⟩) n n) := by rw [h.so.rd]; rfl
  have hlt : (decide ((i : Int) < 0) || decide ((i : Int) ≥ (n : Int))) = false := by simp; omega
  have hf : ∀ i, i < n → (pairV (of i)).length = 2 := fun _ _ => rfl
  have r0 : rd w fb (0 + i * 2) = some (vi (of i).1) := by rw [Nat.zero_add]; exact own_row h.fs hf hi (j := 0) (by omega) rfl
  have r1 : rd w fb (0 + i * 2 + 1) = some (vi (of i).2) := by rw [Nat.zero_add]; exact own_row h.fs hf hi (j := 1) (by omega) rfl
  refine ⟨_, fun _ => h1, Wif_no rfl ⟨_, _, _, fun _ => h0, Wif_no hlt (Wif_yes rfl ⟨_, _, _, h0, Wif_yes rfl (Wif_yes (inB_of (by omega) (by omega)) ⟨_, _, by rw [Int.toNat_natCast]; exact ⟨r0, r1⟩, fun w1 e1 => ?_⟩)⟩)⟩⟩
  have o1 := own_alloc (c := [Value.int IntKind.i64 0, Value.int IntKind.i64 0]) e1
  have k1 : Kept none' w w1 := (Kept.refl _ _).al e1
  refine ⟨⟨o1.wr (by simp), o1.wr (by simp)⟩, fun w2 e2 w3 e3 => ?_⟩
  obtain ⟨o2, k2⟩ := st2 o1 rfl e2
  have o3 := o2.dr e3
  exact ⟨_, by rw [o3.rd]; rfl, _, by rw [o3.rd]; rfl, _, by rw [o3.rd]; rfl, rfl, (own0 k1 k2 fun x e => Nat.le_of_eq e.symm).dr e3⟩
theorem owner_spec {s fb n : Nat} {of : Nat → Int × Int} (h : SlotsAt w s fb n of) {i : Nat} (hi : i < n) :
    Calls Tryz.prog 78 #[ptr s, vi i] w fun e w' => e = .returned (.tuple #[vi (of i).1, vi (of i).2, .bool ((of i).1 != 0)]) ∧ Kept none' w w' := by
  refine (vc78 _ i w (fun v w' => v = .tuple #[vi (of i).1, vi (of i).2, .bool ((of i).1 != 0)] ∧ Kept none' w w') ?_).mono ?_
  rotate_left
  · rintro e w' ⟨v, rfl, rfl, hk⟩
    exact ⟨rfl, hk⟩
  unfold vcP78
  have h0 : rd w s 0 = some (.slice (some ⟨fb, 0, none⟩) n n) := by rw [h.so.rd]; rfl
  have hf : ∀ i, i < n → (pairV (of i)).length = 2 := fun _ _ => rfl
  have r0 : rd w fb (0 + i * 2) = some (vi (of i).1) := by rw [Nat.zero_add]; exact own_row h.fs hf hi (j := 0) (by omega) rfl
  have r1 : rd w fb (0 + i * 2 + 1) = some (vi (of i).2) := by rw [Nat.zero_add]; exact own_row h.fs hf hi (j := 1) (by omega) rfl
  refine Wif_no (by simp) (Wif_no rfl (Wif_yes rfl ⟨_, _, _, h0, Wif_no (by simp; omega) (Wif_yes rfl ⟨_, _, _, h0, Wif_yes rfl (Wif_yes (inB_of (by omega) (by omega)) ⟨_, _, by rw [Int.toNat_natCast]; exact ⟨r0, r1⟩, fun w1 e1 => ?_⟩)⟩)⟩))
  have o1 := own_alloc (c := [Value.int IntKind.i64 0, Value.int IntKind.i64 0]) e1
  have k1 : Kept none' w w1 := (Kept.refl _ _).al e1
  refine ⟨⟨o1.wr (by simp), o1.wr (by simp)⟩, fun w2 e2 w3 e3 => ?_⟩
  obtain ⟨o2, k2⟩ := st2 o1 rfl e2
  have o3 := o2.dr e3
  exact ⟨_, by rw [o3.rd]; rfl, _, by rw [o3.rd]; rfl, _, by rw [o3.rd]; rfl, rfl, (own0 k1 k2 fun x e => Nat.le_of_eq e.symm).dr e3⟩
theorem nlocks_spec {l n : Nat} {f : Nat → Int} (h : LocksAt w l n f) : Calls Tryz.prog 88 #[ptr l] w fun e w' => e = .returned (vi n) ∧ w' = w := by
  have hr : rd w l 0 = some (vi n) := by rw [own.rd h]; rfl
  refine (vc88 _ w (fun v w' => v = vi n ∧ w' = w) ?_).mono ?_
  · unfold vcP88
    exact Wif_no rfl (Wif_yes rfl ⟨_, hr, rfl, rfl⟩)
  · rintro e w' ⟨v, rfl, rfl, rfl⟩
    exact ⟨rfl, rfl⟩
theorem LocksAt.r1 {l n : Nat} {f : Nat → Int} (h : LocksAt w l n f) {i : Nat} (hi : i < 64) : rd w l (1 + i) = some (vi (f i)) := by
  rw [own.rd h, List.getElem?_append_right (by simp), List.getElem?_append_left (by rw [runI_len]; simp; omega)]
  rw [show 1 + i - [vi n].length = i by simp, runI_get _ _ _ _ _ hi, Nat.zero_add]
theorem LocksAt.r65 {l n : Nat} {f : Nat → Int} (h : LocksAt w l n f) : rd w l 65 = some (.bool true) := by
  rw [own.rd h, List.getElem?_append_right (by simp), List.getElem?_append_right (by rw [runI_len]; simp), runI_len]
  rfl
theorem holder_spec {l n : Nat} {f : Nat → Int} (h : LocksAt w l n f) (hn : n ≤ 64) {i : Nat} (hi : i < n) : Calls Tryz.prog 90 #[ptr l, vi i] w fun e w' => e = .returned (vi (IntKind.wrap .i64 (f i - 1))) ∧ w' = w := by
  refine (vc90 _ i w (fun v w' => v = vi (IntKind.wrap .i64 (f i - 1)) ∧ w' = w) ?_).mono ?_
  · unfold vcP90
    have hr : rd w l 0 = some (vi n) := by rw [own.rd h]; rfl
    have h65 : rd w l (0 + 65) = some (.bool true) := by rw [Nat.zero_add]; exact h.r65
    refine ⟨_, fun _ => h65, Wif_no rfl ⟨_, fun _ => hr, Wif_no (by simp; omega) (Wif_yes rfl (Wif_yes (inB_of (by omega) (by omega)) ⟨_, ?_, rfl, rfl⟩))⟩⟩
    rw [Int.toNat_natCast, Nat.mul_one]
    show rd w l (0 + 1 + i) = _
    rw [Nat.zero_add]
    exact h.r1 (by omega)
  · rintro e w' ⟨v, rfl, rfl, rfl⟩
    exact ⟨rfl, rfl⟩
theorem holders_pic (h : CoreAt w k S fp) (hk : rd w kb 0 = some (ptr k)) :
    Calls Tryz.prog 59 #[vi (9 + S.nodes : Nat), .func (.func 89) #[] #[ptr kb]] w fun e w' => ∃ a l c, e = .returned (.slice a l c) ∧ Kept none' w w' ∧ At (rng w w') (fun W => SlR RInt 1 W a l c ((List.range (9 + S.nodes)).map fun i => IntKind.wrap .i64 (S.lh i - 1))) w' := by
  have hs := h.sizes
  refine (sev59 (n := 9 + S.nodes) (w0 := w) (J := fun F i vs w => vs = ((List.range i).map fun i => IntKind.wrap .i64 (S.lh i - 1)).map vi) (by omega) ⟨fun F i vs w w' X h _ _ => h, fun F i vs w1 hi hv k1 hF => CallsV.mk _ #[] #[_] rfl (by kernel_rfl) ?_⟩ rfl).mono ?_
  · have C1 := h.k k1
    obtain ⟨hL, _⟩ : LocksAt w1 S.pl (9 + S.nodes) S.lh ∧ _ := C1.at' .locks
    refine (vc89 i (some ⟨kb, 0, none⟩) w1 (fun v w' => v = vi (IntKind.wrap .i64 (S.lh i - 1)) ∧ w' = w1) ?_).mono ?_
    · unfold vcP89
      refine Wif_yes rfl ⟨_, k1.rd_some hk id, Wif_yes rfl ⟨_, by show rd w1 k (0 + 97) = _; rw [Nat.zero_add]; exact C1.rt (j := 3) rfl, (holder_spec hL (by omega) hi).mono ?_⟩⟩
      rintro _ _ ⟨rfl, rfl⟩
      exact ⟨_, rfl, rfl, rfl⟩
    · rintro e w' ⟨v, rfl, rfl, rfl⟩
      refine ⟨[_], ⟨_, rfl, rfl⟩, rfl, fun u hu => by simp at hu; subst hu; rfl, Kept.refl _ _, ?_⟩
      rw [hv, List.range_succ, List.map_append, List.map_append]
      rfl
  · rintro e w' ⟨a, c, F, vs, rfl, kk, row, rfl, _⟩
    have R : RowI w' w.heap.size a (9 + S.nodes) c ((List.range (9 + S.nodes)).map fun i => IntKind.wrap .i64 (S.lh i - 1)) := ⟨by simp, row⟩
    exact ⟨a, _, c, rfl, kk, R.at.mono (fun x hx => R.lt hx) fun x hx => hx.2⟩
end
end Go.Proofs.YtklmokolnakkoaaGreatDoor
