/-
  A part of a proof that a law of this seat returns true at every input. Conditions: those in each theorem.
-/
import Derived.Test.YtklmokolnakkoaaGreatDoorY8
import Derived.Test.YtklmokolnakkoaaGreatDoorXV7
import Derived.Test.YtklmokolnakkoaaGreatDoorM2
import Derived.Test.YtklmokolnakkoaaGreatDoorEngT
set_option linter.unusedSimpArgs false
set_option linter.unusedVariables false
set_option maxRecDepth 100000
namespace Go.Proofs.YtklmokolnakkoaaGreatDoor
open Go Go.Eng
theorem elInt : ElT Tryz.prog 51 3 1 := elT59
theorem RowI.app {w : World} {base : Nat} {a1 a2 : Option Addr} {l1 c1 l2 c2 : Nat} {xs ys : List Int} (h : RowI w base a1 l1 c1 xs) (hs : Eng.Src w a2 l2 c2 (ys.map vi)) (hl2 : l2 = ys.length) (hb : base ≤ w.heap.size) (hl : xs.length + ys.length ≤ 1000000) :
    ∃ a l c w', appIs Tryz.prog #[51, 51] 51 (.slice a1 l1 c1) (.slice a2 l2 c2) (.slice a l c) w w' ∧ RowI w' base a l c (xs ++ ys) ∧ Kept (fun b => (Value.slice a1 l1 c1).ownBlock = some b) w w' := by
  obtain ⟨i, z, hi, hz, hsz, hzs, hby⟩ := elInt.ex
  obtain ⟨rfl, row⟩ := h
  subst hl2
  obtain ⟨a', c', w', happ, row', k⟩ := Eng.app (P := Tryz.prog) (t := 51) (ty := 51) (e := 3) (i := i) (z := z) (size := 1) Tryz.underlying51 hi hz hsz hzs (by decide) row hs (by simp) (fun u hu => by
    obtain ⟨x, _, rfl⟩ := List.mem_map.1 hu
    rfl) (by omega) (by omega) hb
  refine ⟨a', _, c', w', happ, ⟨by simp, ?_⟩, k⟩
  rw [List.map_append]
  exact row'
theorem RowI.src {w : World} {base : Nat} {a : Option Addr} {l c : Nat} {xs : List Int} (h : RowI w base a l c xs) : Eng.Src w a l c (xs.map vi) := by
  obtain ⟨rfl, h⟩ := h
  exact Eng.Src.of_row h
theorem RowI.rd {w : World} {base : Nat} {a : Option Addr} {l c : Nat} {xs : List Int} (h : RowI w base a l c xs) {i : Nat} {x : Int} (hx : xs[i]? = some x) : isP a = true ∧ Eng.rd w (pb a) (po a + Int.toNat (i : Int) * 1) = some (vi x) := by
  have hu : (xs.map vi)[i]? = some (vi x) := by rw [List.getElem?_map, hx]; rfl
  have hl := (List.getElem?_eq_some_iff.1 hx).1
  rw [Int.toNat_natCast, Nat.mul_one]
  exact ⟨h.src.isp (by rw [List.length_map]; omega), h.src.rd hu⟩
def del (xs : List Int) (i : Nat) : List Int := xs.take i ++ xs.drop (i + 1)
def FirstAt (xs : List Int) (v : Int) (i : Nat) : Prop := xs[i]? = some v ∧ ∀ j, j < i → xs[j]? ≠ some v
theorem FirstAt.uniq {xs : List Int} {v : Int} {i j : Nat} (h : FirstAt xs v i) (h2 : FirstAt xs v j) : i = j := by
  rcases Nat.lt_trichotomy i j with h3 | h3 | h3
  · exact absurd h.1 (h2.2 i h3)
  · exact h3
  · exact absurd h2.1 (h.2 j h3)
theorem index_spec {w : World} {base : Nat} {a : Option Addr} {l c : Nat} {xs : List Int} (h : RowI w base a l c xs) (v : Int) (hl : xs.length ≤ 1000000) :
    Calls Tryz.prog 92 #[.slice a l c, vi v] w fun e w' => w' = w ∧ ((∃ i, FirstAt xs v i ∧ e = .returned (vi i)) ∨ ((∀ j : Nat, xs[j]? ≠ some v) ∧ e = .returned (vi (-1)))) := by
  refine (vc92 a l c v w (fun r w' => w' = w ∧ ((∃ i, FirstAt xs v i ∧ r = vi i) ∨ ((∀ j : Nat, xs[j]? ≠ some v) ∧ r = vi (-1)))) ?_).mono ?_
  rotate_left
  · rintro e w' ⟨r, rfl, rfl, ⟨i, h1, rfl⟩ | ⟨h1, rfl⟩⟩
    · exact ⟨rfl, .inl ⟨i, h1, rfl⟩⟩
    · exact ⟨rfl, .inr ⟨h1, rfl⟩⟩
  have hlen := h.1
  subst hlen
  unfold vcP92
  refine ⟨fun _ n w' N => ∃ q : Nat, n = q ∧ q ≤ xs.length ∧ N = xs.length - q ∧ w' = w ∧ ∀ j, j < q → xs[j]? ≠ some v, ⟨xs.length, 0, rfl, by omega, rfl, rfl, fun j h => absurd h (Nat.not_lt_zero _)⟩, ?_⟩
  rintro _ _ w1 _ ⟨q, rfl, hq, rfl, hw, hno⟩
  rw [hw]
  refine Wif_intro (fun hc => ?_) (fun hc => ?_)
  · have hql : q < xs.length := by simp at hc; omega
    obtain ⟨x, hx⟩ : ∃ x, xs[q]? = some x := ⟨_, List.getElem?_eq_getElem hql⟩
    obtain ⟨hp, hr⟩ := h.rd hx
    refine Wif_yes hp (Wif_yes (inB_of (by omega) (by omega)) ⟨x, hr, Wif_intro (fun he => ?_) (fun he => ?_)⟩)
    · have : v = x := by simpa using he
      subst this
      exact ⟨rfl, .inl ⟨q, ⟨hx, hno⟩, rfl⟩⟩
    · have hvx : v ≠ x := by simpa using he
      refine ⟨xs.length - (q + 1), by omega, q + 1, by rw [wi (by omega)]; rfl, by omega, rfl, rfl, fun j hj => ?_⟩
      rcases Nat.lt_or_ge j q with h3 | h3
      · exact hno j h3
      · rw [show j = q by omega, hx]
        exact fun e => hvx (Option.some.inj e).symm
  · have hql : q = xs.length := by simp at hc; omega
    refine ⟨rfl, .inr ⟨fun j => ?_, rfl⟩⟩
    rcases Nat.lt_or_ge j q with h3 | h3
    · exact hno j h3
    · rw [List.getElem?_eq_none (by omega)]
      exact fun e => by cases e
section
open Go.RowKit Go.Maps Go.Sort Go.Shelf
theorem delete_spec {w : World} {base : Nat} {a : Option Addr} {l c : Nat} {xs : List Int} {i : Nat} (h : RowI w base a l c xs) (hi : i < xs.length) :
    Calls Tryz.prog 93 #[.slice a l c, vi i, vi (i + 1 : Nat)] w fun e w' => ∃ l', e = .returned (.slice a l' c) ∧ RowI w' base a l' c (del xs i) ∧ Kept (fun b => (Value.slice a l c).ownBlock = some b) w w' := by
  obtain ⟨rfl, h⟩ := h
  rcases h.2 with ⟨h0, h1⟩ | ⟨g, cap, cur, hv, hb, hgg, hnc, hm, hsz, htk⟩
  · omega
  · cases hv
    have hglt : g < w.heap.size := (Array.getElem?_eq_some_iff.1 hgg).1
    have hH : Holds (Value.int .i64) w g 0 xs.toArray := by
      intro j hj
      have hj' : j < xs.length := by simpa using hj
      refine ⟨?_, by simp [World.frozen?, hgg]⟩
      have h1 : (cur.toList.take (xs.length * 1))[j]? = (xs.map vi)[j]? := by rw [htk]
      rw [List.getElem?_take_of_lt (by omega)] at h1
      simp only [World.cell?, hgg, Nat.zero_add]
      simp only [Option.isSome_none, Bool.false_eq_true, if_false]
      rw [← Array.getElem?_toList, h1]
      simp [hj']
    refine (Any.slices_Delete_int (ρ := Tryz.delI_ren) Tryz.delI g 0 c i (i + 1) xs w hH hnc (by unfold maxLen at hm; omega) (by omega) (by omega)).mono ?_
    rintro e w' ⟨rfl, m, rfl⟩
    have e1 : i + 1 - i = 1 := by omega
    rw [e1]
    have hd : (del xs i).length = xs.length - 1 := by unfold del; rw [List.length_append, List.length_take, List.length_drop]; omega
    have hg2 := heap_sortI (n := m) (os := #[]) (xs.take i ++ xs.drop (i + 1) ++ List.replicate 1 0).toArray hgg
    have eg : ∀ w : World, grow w #[] = w := fun w => by simp [grow]
    rw [eg] at hg2
    have hkk := grownBy_sortI (w := w) (g := g) (n := m) (os := #[]) (xs.take i ++ xs.drop (i + 1) ++ List.replicate 1 0).toArray
    rw [eg] at hkk
    refine ⟨_, rfl, ⟨hd.symm, by simp [hd], .inr ⟨g, c, _, rfl, hb, hg2, by omega, hm, by simpa [putCells] using hsz, ?_⟩⟩, (Kept.grownBy hkk).mono fun b _ h => by simpa [Value.ownBlock] using h⟩
    have ht := take_putI cur (xs.take i ++ xs.drop (i + 1) ++ List.replicate 1 0).toArray (by
      have : cur.size = c := by simpa using hsz
      simp
      omega)
    have h2 := congrArg (List.take (xs.length - 1)) ht
    rw [List.take_take, Nat.min_eq_left (by simp; omega)] at h2
    rw [Nat.mul_one, h2]
    simp only [List.toList_toArray]
    rw [List.map_append, List.take_append_of_le_length (by rw [List.length_map]; have : (xs.take i ++ xs.drop (i + 1)).length = xs.length - 1 := hd; omega), List.take_of_length_le (by rw [List.length_map]; exact Nat.le_of_eq hd)]
    rfl
end
section
variable {w : World} {k : Nat} {S : Mach} {fp : Prt → Nat → Prop}
def setHeld (S : Mach) (f : Nat → List Int) : Mach := { S with held := f }
end
end Go.Proofs.YtklmokolnakkoaaGreatDoor
set_option linter.unusedSimpArgs false
set_option linter.unusedVariables false
set_option maxRecDepth 100000
namespace Go.Proofs.YtklmokolnakkoaaGreatDoor
open Go Go.Eng MapKept Go.Shelf
theorem chk251 (e : Bool) (a : Int × Int) (w : World) : (Instr.checkKey e 10000 251 (pgV a)).run Tryz.prog w = .ok () w := by
  show (Instr.checkKey e (9998 + 1 + 1) 251 (.agg #[.int .i64 a.1, .int .i64 a.2])).run Tryz.prog w = .ok () w
  unfold Instr.checkKey
  simp only [Sem.run_bind, run_underlying Tryz.underlying251, Result.andThen_ok]
  have p0 : (part 3 #[Value.int .i64 a.1, .int .i64 a.2] 0).run Tryz.prog w = .ok (.int .i64 a.1) w := run_partV Tryz.underlying3 (by kernel_rfl)
  have p1 : (part 3 #[Value.int .i64 a.1, .int .i64 a.2] 1).run Tryz.prog w = .ok (.int .i64 a.2) w := run_partV Tryz.underlying3 (by kernel_rfl)
  have c0 : ∀ x : Int, (Instr.checkKey e (9998 + 1) 3 (.int .i64 x)).run Tryz.prog w = .ok () w := fun x => MapKept.run_checkKey (d := .int .i64) Tryz.underlying3 (by simp [IsKey]) e 9998
  simp [p0, p1, c0, Result.andThen]
theorem keyPg : KeyOk Tryz.prog 251 pgV := by
  refine ⟨?_, chk251, ⟨_, Tryz.underlying251, fun a b => .inl rfl⟩, ?_, ?_⟩
  · rintro ⟨a, b⟩ ⟨c, d⟩ h
    simp [pgV] at h
    exact Prod.ext h.1 h.2
  · rintro ⟨a, b⟩ ⟨c, d⟩ w
    have h : eqT Tryz.prog 10000 251 (pgV (a, b)) (pgV (c, d)) = some (a == c && (b == d && true)) := by kernel_rfl
    have := eqT_run (P := Tryz.prog) 10000 251 _ _ _ w h
    have e : (a == c && (b == d && true)) = decide ((a, b) = (c, d)) := by
      simp only [Prod.mk.injEq, Bool.and_true]
      by_cases h1 : a = c <;> by_cases h2 : b = d <;> simp [h1, h2]
    rw [e] at this
    exact this
  · rintro ⟨a, b⟩
    show Instr.sameBits (9998 + 1 + 1) (.agg #[.int .i64 a, .int .i64 b]) (.agg #[.int .i64 a, .int .i64 b]) = true
    simp [Instr.sameBits]
theorem rmap_look {w : World} {b : Nat} {M : List ((Int × Int) × Value)} (h : MapG pgV w b M) (k : Int × Int) : lookIs Tryz.prog 219 (.map (some b)) (pgV k) true (.tuple #[(M.lookup k).getD (vi 0), .bool (M.lookup k).isSome]) w := by
  have := lookG2 (P := Tryz.prog) (mt := 219) (vt := 3) (kt := 251) Tryz.underlying219 keyPg h k (z := vi 0) (Tryz.zeroValue3 w)
  rw [lookup_beq] at this
  exact this
section
variable {w : World} {r fb mb n : Nat} {of : Nat → Int × Int} {at' : List ((Int × Int) × Value)}
theorem RmapAt.k (h : RmapAt w r fb mb n of at') {w' : World} (k : Kept none' w w') : RmapAt w' r fb mb n of at' := ⟨h.so.k k, h.fs.k k, h.mp.k k, h.ne⟩
theorem rset_spec (h : RmapAt w r fb mb n of at') {i : Nat} (hi : i < n) {pid page : Int} (hp : 1 ≤ pid ∧ pid ≤ 8) (hg : 0 ≤ page ∧ page < 1024) (hv : ∀ k v, at'.lookup k = some v → ∃ x : Int, v = vi x) :
    Calls Tryz.prog 106 #[ptr r, vi i, vi pid, vi page] w fun e w' => Kept (fun x => x = fb ∨ x = mb) w w' ∧
      (((of i).1 ≠ 0 ∧ e = .returned (vi 80) ∧ RmapAt w' r fb mb n of at') ∨ ((of i).1 = 0 ∧ (at'.lookup (pid, page)).isSome = true ∧ e = .returned (vi 8) ∧ RmapAt w' r fb mb n of at') ∨
       ((of i).1 = 0 ∧ at'.lookup (pid, page) = none ∧ e = .returned (vi 0) ∧ RmapAt w' r fb mb n (upd of i (pid, page)) (at' ++ [((pid, page), vi i)]))) := by
  refine (vc106 _ i pid page w (fun v w' => Kept (fun x => x = fb ∨ x = mb) w w' ∧
      (((of i).1 ≠ 0 ∧ v = (vi 80) ∧ RmapAt w' r fb mb n of at') ∨ ((of i).1 = 0 ∧ (at'.lookup (pid, page)).isSome = true ∧ v = (vi 8) ∧ RmapAt w' r fb mb n of at') ∨
       ((of i).1 = 0 ∧ at'.lookup (pid, page) = none ∧ v = (vi 0) ∧ RmapAt w' r fb mb n (upd of i (pid, page)) (at' ++ [((pid, page), vi i)])))) ?_).mono ?_
  rotate_left
  · rintro e w' ⟨v, rfl, hk, ⟨h1, rfl, h2⟩ | ⟨h0, h1, rfl, h2⟩ | ⟨h0, h1, rfl, h2⟩⟩
    · exact ⟨hk, .inl ⟨h1, rfl, h2⟩⟩
    · exact ⟨hk, .inr (.inl ⟨h0, h1, rfl, h2⟩)⟩
    · exact ⟨hk, .inr (.inr ⟨h0, h1, rfl, h2⟩)⟩
  unfold vcP106
  have r1 : ∀ {W : World}, own W r [.slice (some ⟨fb, 0, none⟩) n n, .map (some mb)] → rd W r (0 + 1) = some (.map (some mb)) := fun o => by rw [o.rd]; rfl
  have r0 : ∀ {W : World}, own W r [.slice (some ⟨fb, 0, none⟩) n n, .map (some mb)] → rd W r 0 = some (.slice (some ⟨fb, 0, none⟩) n n) := fun o => by rw [o.rd]; rfl
  have hlt : (decide ((i : Int) < 0) || decide ((i : Int) ≥ (n : Int))) = false := by simp; omega
  have hf2 : ∀ j, j < n → (pairV (of j)).length = 2 := fun _ _ => rfl
  have hlen : (rowL n fun i => pairV (of i)).length = n * 2 := rowL_len hf2
  have hfl := h.fs.lt
  have hml := h.mp.lt
  have hrl := h.so.lt
  refine gIf_intro (fun _ => rfl) ⟨_, fun _ => r1 h.so, Wif_no rfl (gIf_intro (fun _ => rfl) ⟨_, _, _, fun _ => r0 h.so, Wif_no hlt fun w1 e1 => ?_⟩)⟩
  have o1 : own w1 w.heap.size [vi 0, vi 0] := own_alloc e1
  have k1 : Kept none' w w1 := (Kept.refl _ _).al e1
  refine ⟨wr2 o1, fun w2 e2 => ?_⟩
  obtain ⟨o2, k2'⟩ := st2w o1 e2
  have k2 : Kept none' w w2 := own0 k1 k2' fun x e => by omega
  clear e1 e2 k2' o1 k1
  generalize hb0 : w.heap.size = b0 at *
  have h2 := h.k k2
  have q0 : rd w2 fb (0 + i * 2) = some (vi (of i).1) := by rw [Nat.zero_add]; exact own_row h2.fs hf2 hi (j := 0) (by omega) rfl
  refine Wif_no (by simp; omega) (Wif_yes rfl ⟨_, _, _, r0 h2.so, Wif_yes rfl (Wif_yes (inB_of (by omega) (by omega)) ⟨_, by rw [Int.toNat_natCast]; exact q0, Wif_intro (fun hc => ?_) (fun hc => ?_)⟩)⟩)
  · exact ⟨k2.mono fun _ _ e => e.elim, .inl ⟨by simpa using hc, rfl, h2⟩⟩
  have hz : (of i).1 = 0 := by simpa using hc
  intro w3 e3
  have k3 : Kept none' w2 w3 := (Kept.refl _ _).dr e3
  have h3 := h2.k k3
  have o3 := o2.k k3
  clear e3
  have hlk := rmap_look h3.mp (pid, page)
  refine Wif_yes rfl ⟨_, r1 h3.so, pid, page, rd2 o3, ?_⟩
  cases hl : at'.lookup (pid, page) with
  | some v =>
    obtain ⟨x, rfl⟩ := hv _ _ hl
    rw [hl] at hlk
    exact ⟨x, true, hlk, Wif_yes rfl ⟨(k2.tr k3).mono fun _ _ e => e.elim, .inr (.inl ⟨hz, rfl, rfl, h3⟩)⟩⟩
  | none =>
    rw [hl] at hlk
    refine ⟨0, false, hlk, Wif_no rfl fun w4 e4 => ?_⟩
    have k4 : Kept none' w3 w4 := (Kept.refl _ _).dr e4
    have h4 := h3.k k4
    have o4 := o3.k k4
    have K4 : Kept none' w w4 := (k2.tr k3).tr k4
    clear e4
    refine Wif_yes rfl ⟨_, _, _, r0 h4.so, pid, page, rd2 o4, Wif_yes rfl (Wif_yes (inB_of (by omega) (by omega)) ⟨?_, fun w5 e5 => ?_⟩)⟩
    · rw [Int.toNat_natCast]
      exact ⟨h4.fs.wr (by rw [hlen]; show 0 + i * 2 < _; omega), h4.fs.wr (by rw [hlen]; show 0 + i * 2 + 1 < _; omega)⟩
    rw [Int.toNat_natCast] at e5
    obtain ⟨o5, k5⟩ := own_put2 h4.fs hf2 hi e5
    have eu : upd (fun i => pairV (of i)) i [vi pid, vi page] = fun j => pairV (upd of i (pid, page) j) := by
      funext j
      by_cases e : j = i
      · subst e; rw [upd_same, upd_same]; rfl
      · rw [upd_ne _ _ e, upd_ne _ _ e]
    rw [eu] at o5
    have h5 : RmapAt w5 r fb mb n (upd of i (pid, page)) at' := ⟨h4.so.kx k5 h.ne.1, o5, h4.mp.kx k5 (Ne.symm h.ne.2.2), h.ne⟩
    have p5 := o4.kx k5 (by omega)
    have K5 : Kept (fun x => x = fb ∨ x = mb) w w5 := (K4.mono fun _ _ e => e.elim).trans k5 fun _ _ e => .inl e
    intro w6 e6
    have k6 : Kept none' w5 w6 := (Kept.refl _ _).dr e6
    have h6 := h5.k k6
    obtain ⟨w7, hu, hm7, k7⟩ := updG_new Tryz.underlying219 keyPg h6.mp (pid, page) (vi i) (by rw [lookup_beq]; exact hl)
    refine Wif_yes rfl ⟨_, r1 h6.so, pid, page, rd2 (p5.k k6), w7, hu, ?_, .inr (.inr ⟨hz, rfl, rfl, ⟨h6.so.kx k7 h.ne.2.1, h6.fs.kx k7 h.ne.2.2, hm7, h.ne⟩⟩)⟩
    exact (K5.trans k6 fun _ _ e => e.elim).trans k7 fun _ _ e => .inr e
end
structure ClOk (ring : List Int) (of : List (Int × Value)) : Prop where
  v : ∀ k v, of.lookup k = some v → ∃ a b : Bool, v = .agg #[.bool a, .bool b]
  r : ∀ k, (of.lookup k).isSome = true ↔ k ∈ ring
  nd : ring.Nodup
def mk2 : Value := .agg #[.bool true, .bool true]
theorem map_ne_own {w : World} {m b : Nat} {of : List (Int × Value)} {cs : List Value} (h : MapIs w m of) (o : own w b cs) : b ≠ m := by
  rintro rfl
  obtain ⟨es, c, h1, _⟩ := h.ex
  obtain ⟨t, h2⟩ := o
  rw [h1] at h2
  cases h2
theorem map_ne_row {w : World} {m base l c : Nat} {a : Option Addr} {of : List (Int × Value)} {xs : List Int} (h : MapIs w m of) (R : RowI w base a l c xs) {x : Nat} (hx : (Value.slice a l c).ownBlock = some x) : x ≠ m := by
  rintro rfl
  obtain ⟨es, cc, h1, _⟩ := h.ex
  rcases R.2.2 with ⟨h2, _⟩ | ⟨g, cap, cur, h2, _, h3, _⟩
  · cases h2; cases hx
  · cases h2
    have : g = x := by simpa [Value.ownBlock] using hx
    subst this
    rw [h1] at h3
    cases h3
theorem clock_look {w : World} {m : Nat} {ring : List Int} {of : List (Int × Value)} (h : MapIs w m of) (ok : ClOk ring of) (k : Int) : ∃ a b : Bool, lookIs Tryz.prog 225 (.map (some m)) (vi k) true (.tuple #[.agg #[.bool a, .bool b], .bool (of.lookup k).isSome]) w := by
  have := look2 (P := Tryz.prog) (mt := 225) (vt := 279) (kt := 3) Tryz.underlying225 Tryz.underlying3 h k (Tryz.zeroValue279 w)
  cases hl : of.lookup k with
  | none => rw [hl] at this; exact ⟨_, _, this⟩
  | some v =>
    obtain ⟨a, b, rfl⟩ := ok.v _ _ hl
    rw [hl] at this
    exact ⟨a, b, this⟩
theorem st2b {w w' : World} {b : Nat} {v0 v1 u0 u1 : Value} (h : own w b [v0, v1]) (e : w' = st (st w b 0 u0) b 1 u1) : Kept (· = b) w w' := (st2w h e).2
theorem cadd_spec {w : World} {b : Nat} {ring : List Int} {of : List (Int × Value)} {H : Nat → Prop} (h : ClockAt ring of (ptr b) H w) (ok : ClOk ring of) {fr : Int} (hfr : 0 ≤ fr ∧ fr ≤ 9223372036854775807) (hno : fr ∉ ring) (hl : ring.length ≤ 100000) :
    Calls Tryz.prog 108 #[ptr b, vi fr] w fun e w' => e = .returned (vi 0) ∧ Kept H w w' ∧ ClockAt (ring ++ [fr]) (of ++ [(fr, mk2)]) (ptr b) (fun x => H x ∨ rng w w' x) w' := by
  refine (vc108 _ fr w (fun v w' => v = vi 0 ∧ Kept H w w' ∧ ClockAt (ring ++ [fr]) (of ++ [(fr, mk2)]) (ptr b) (fun x => H x ∨ rng w w' x) w') ?_).mono ?_
  rotate_left
  · rintro e w' ⟨v, rfl, rfl, h⟩
    exact ⟨rfl, h⟩
  obtain ⟨b', a, l, cp, m, hb', o, R, M, fb, fm, hown⟩ := h.ex
  have : b' = b := by cases hb'; rfl
  subst this
  have hbm := map_ne_own M o
  have hlk : of.lookup fr = none := by
    cases e : of.lookup fr with
    | none => rfl
    | some v => exact absurd ((ok.r fr).1 (by rw [e]; rfl)) hno
  have r1 : ∀ {W : World} {x : Value}, own W b' [x, .map (some m)] → rd W b' (0 + 1) = some (.map (some m)) := fun o => by rw [o.rd]; rfl
  unfold vcP108
  obtain ⟨y1, y2, hlook⟩ := clock_look M ok fr
  rw [hlk] at hlook
  refine gIf_intro (fun _ => rfl) ⟨_, fun _ => r1 o, Wif_no rfl (Wif_no (by simp; omega) (gIf_intro (fun _ => rfl) ⟨_, fun _ => r1 o, Wif_no rfl (Wif_yes rfl ⟨_, r1 o, y1, y2, false, hlook, fun w1 e1 => ?_⟩)⟩))⟩
  have o1 : own w1 w.heap.size [.bool false, .bool false] := own_alloc e1
  have k1 : Kept none' w w1 := (Kept.refl _ _).al e1
  refine ⟨wr2 o1, fun w2 e2 => ?_⟩
  have k2 : Kept none' w w2 := own0 k1 (st2b o1 e2) fun x e => by omega
  clear e1 e2 o1 k1
  have o2 := o.k k2
  have R2 := R.k k2
  refine Wif_no rfl (Wif_yes rfl ⟨a, l, cp, by show rd w2 b' 0 = _; rw [o2.rd]; rfl, fun w3 e3 => ?_⟩)
  have k3 : Kept none' w2 w3 := (Kept.refl _ _).al e3
  have x3 := own_alloc (c := [vi fr]) e3
  have hlen := R.1
  obtain ⟨t0, z, hi0, hz, hsz, hzs, hby⟩ := elInt.ex
  obtain ⟨a', l', c', w4, happ, rfl, row4, k4, hb4⟩ := app_any (P := Tryz.prog) (t := 51) (e := 3) (i := t0) (z := z) (size := 1) Tryz.underlying51 hi0 hz hsz hzs (by decide) (R2.k k3).2 x3 (m := 1) (off := 0) (c := 1) (news := [vi fr]) rfl rfl oneV (by omega) hby (by omega)
  have R4 : RowI w4 0 a' (l + 1) c' (ring ++ [fr]) := ⟨by rw [List.length_append, hlen]; rfl, by rw [List.map_append]; exact row4⟩
  have K23 := k2.tr k3
  have K4 : Kept H w w4 := (K23.mono fun _ _ e => e.elim).trans k4 fun x hx e => (hown x e).1
  have hs23 := K23.sz
  have o4 : own w4 b' [.slice a l cp, .map (some m)] := (o2.k k3).kx k4 fun e => (hown b' e).2 rfl
  have M4 : MapIs w4 m of := (M.k K23).kx k4 fun e => map_ne_row M R e rfl
  have hn4 : ∀ x, (Value.slice a' (l + 1) c').ownBlock = some x → (H x ∨ rng w w4 x) ∧ x ≠ b' := fun x hx => by
    rcases hb4 with hb4 | hb4
    · rw [hb4] at hx; exact ⟨.inl (hown x hx).1, (hown x hx).2⟩
    · have h1 := hb4 x hx
      have h2 := (R4.lt hx).2
      have := h.lt _ fb
      have := k3.sz
      exact ⟨.inr ⟨by omega, h2⟩, by omega⟩
  refine ⟨a', _, c', w4, happ, Wif_yes rfl ⟨o4.wr (by show 0 < 2; decide), fun w5 e5 => ?_⟩⟩
  have o5 : own w5 b' [.slice a' (l + 1) c', .map (some m)] := o4.s1 e5
  have k5 : Kept (· = b') w4 w5 := (Kept.refl _ _).s1 e5 (.inl rfl)
  have R5 := R4.kx k5 fun x e hx => (hn4 x hx).2 e
  have M5 := M4.kx k5 fun e => hbm e.symm
  obtain ⟨w6, hu, M6, k6⟩ := upd_new Tryz.underlying225 Tryz.underlying3 M5 fr mk2 (by omega) hlk
  have hs45 : w5.heap.size = w4.heap.size := by rw [e5]; simp
  have hs6 := k6.sz
  have K6 : Kept H w w6 := (K4.trans k5 fun x _ e => e ▸ fb).trans k6 fun x _ e => e ▸ fm
  refine Wif_yes rfl ⟨_, r1 o5, w6, hu, rfl, K6, ⟨b', a', l + 1, c', m, rfl, o5.kx k6 hbm, R5.kx k6 fun x e hx => map_ne_row M5 R5 hx e, M6, .inl fb, .inl fm, fun x hx => ⟨?_, (hn4 x hx).2⟩⟩, fun x hx => ?_⟩
  · exact (hn4 x hx).1.imp id fun e => ⟨e.1, by have := e.2; omega⟩
  · rcases hx with hx | hx
    · exact Nat.lt_of_lt_of_le (h.lt x hx) K6.sz
    · exact hx.2
theorem cremove_spec {w : World} {b : Nat} {ring : List Int} {of : List (Int × Value)} {H : Nat → Prop} (h : ClockAt ring of (ptr b) H w) (ok : ClOk ring of) {fr : Int} {i : Nat} (hi : FirstAt ring fr i) (hl : ring.length ≤ 100000) :
    Calls Tryz.prog 112 #[ptr b, vi fr] w fun e w' => e = .returned (vi 0) ∧ Kept H w w' ∧ ClockAt (del ring i) (of.filter fun p => p.1 != fr) (ptr b) (fun x => H x ∨ rng w w' x) w' := by
  refine (vc112 _ fr w (fun v w' => v = vi 0 ∧ Kept H w w' ∧ ClockAt (del ring i) (of.filter fun p => p.1 != fr) (ptr b) (fun x => H x ∨ rng w w' x) w') ?_).mono ?_
  rotate_left
  · rintro e w' ⟨v, rfl, rfl, h⟩
    exact ⟨rfl, h⟩
  obtain ⟨b', a, l, cp, m, hb', o, R, M, fb, fm, hown⟩ := h.ex
  have : b' = b := by cases hb'; rfl
  subst this
  have hbm := map_ne_own M o
  have hil := (List.getElem?_eq_some_iff.1 hi.1).1
  have hlk : (of.lookup fr).isSome = true := (ok.r fr).2 (List.mem_of_getElem? hi.1)
  have r1 : ∀ {W : World} {x : Value}, own W b' [x, .map (some m)] → rd W b' (0 + 1) = some (.map (some m)) := fun o => by rw [o.rd]; rfl
  have r0 : ∀ {W : World} {x : Value}, own W b' [x, .map (some m)] → rd W b' 0 = some x := fun o => by rw [o.rd]; rfl
  unfold vcP112
  obtain ⟨y1, y2, hlook⟩ := clock_look M ok fr
  rw [hlk] at hlook
  refine gIf_intro (fun _ => rfl) ⟨_, fun _ => r1 o, Wif_no rfl (gIf_intro (fun _ => rfl) ⟨_, fun _ => r1 o, Wif_no rfl (Wif_yes rfl ⟨_, r1 o, y1, y2, true, hlook, fun w1 e1 => ?_⟩)⟩)⟩
  have o1 : own w1 w.heap.size [.bool false, .bool false] := own_alloc e1
  have k1 : Kept none' w w1 := (Kept.refl _ _).al e1
  refine ⟨wr2 o1, fun w2 e2 => ?_⟩
  have k2 : Kept none' w w2 := own0 k1 (st2b o1 e2) fun x e => by omega
  clear e1 e2 o1 k1
  have o2 := o.k k2
  obtain ⟨w3, hd, M3, k3⟩ := del1 Tryz.underlying225 Tryz.underlying3 (M.k k2) fr (ty := 0)
  have o3 := o2.kx k3 hbm
  have R3 := (R.k k2).kx k3 fun x e hx => map_ne_row M R hx e
  refine Wif_no rfl (Wif_yes rfl ⟨_, r1 o2, w3, hd, Wif_yes rfl ⟨a, l, cp, r0 o3, (index_spec R3 fr (by omega)).mono ?_⟩⟩)
  rintro _ wx ⟨hx, ⟨j, hj, rfl⟩ | ⟨hno, rfl⟩⟩
  · rw [hx]
    clear hx
    have : j = i := FirstAt.uniq hj hi
    subst this
    refine ⟨_, rfl, Wif_yes rfl ⟨a, l, cp, r0 o3, ?_⟩⟩
    rw [wi (by omega)]
    refine (delete_spec R3 hil).mono ?_
    rintro _ w4 ⟨l4, rfl, R4, k4⟩
    have o4 := o3.kx k4 fun e => (hown b' e).2 rfl
    refine ⟨_, _, _, rfl, Wif_yes rfl ⟨o4.wr (by show 0 < 2; decide), fun w5 e5 => ?_⟩⟩
    have o5 : own w5 b' [.slice a l4 cp, .map (some m)] := o4.s1 e5
    have k5 : Kept (· = b') w4 w5 := (Kept.refl _ _).s1 e5 (.inl rfl)
    have eob : ∀ x, (Value.slice a l4 cp).ownBlock = some x → (Value.slice a l cp).ownBlock = some x := fun x hx => by cases a <;> exact hx
    have K5 : Kept H w w5 := (((k2.mono fun _ _ e => e.elim).trans k3 fun x _ e => e ▸ fm).trans k4 fun x _ e => (hown x e).1).trans k5 fun x _ e => e ▸ fb
    refine ⟨rfl, K5, ⟨b', a, l4, cp, m, rfl, o5, R4.kx k5 fun x e hx => (hown x (eob x hx)).2 e, (M3.kx k4 fun e => map_ne_row M R e rfl).kx k5 fun e => hbm e.symm, .inl fb, .inl fm, fun x hx => ⟨.inl (hown x (eob x hx)).1, (hown x (eob x hx)).2⟩⟩, fun x hx => ?_⟩
    rcases hx with hx | hx
    · exact Nat.lt_of_lt_of_le (h.lt x hx) K5.sz
    · exact hx.2
  · exact absurd hi.1 (hno i)
end Go.Proofs.YtklmokolnakkoaaGreatDoor
