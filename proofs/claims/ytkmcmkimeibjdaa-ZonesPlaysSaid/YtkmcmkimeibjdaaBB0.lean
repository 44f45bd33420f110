/-
  A part of a proof that a law of this seat returns true at every input. Conditions: those in each theorem.
-/
import Derived.Test.YtkmcmkimeibjdaaBN1
import Derived.Test.YtkmcmkimeibjdaaBP2
import Derived.Test.YtkmcmkimeibjdaaBV5
namespace Go.Proofs.Ytkmcmkimeibjdaa
open Go Eng
set_option linter.unusedSimpArgs false
set_option linter.unusedVariables false
set_option maxRecDepth 100000
/-- append to a row that is owned: the same block, or a new one -/
theorem app_blk2 {w : World} {base : Nat} {v : Value} {n : Nat} {xs : List Value} (ho : w.ownsRow base 58 2 v n xs) {X m c off : Nat} {ys news : List Value} (hx : own w X ys) (hys : (ys.drop off).take (m * 2) = news) (hl : news.length = m * 2)
    (h1 : ∀ u ∈ news, u.oneCell' = true) (h63 : n + m ≤ 1000000) (hbase : base ≤ w.heap.size) :
    ∃ a l c' w', appIs Try.prog #[56, 56] 56 v (.slice (some ⟨X, off, none⟩) m c) (.slice a l c') w w' ∧ l = n + m ∧ w'.ownsRow base 58 2 (.slice a l c') (n + m) (xs ++ news) ∧ Kept (fun b => v.ownBlock = some b) w w' ∧
      ((Value.slice a l c').ownBlock = v.ownBlock ∨ ∀ g, (Value.slice a l c').ownBlock = some g → w.heap.size ≤ g) := by
  obtain ⟨a, l, c', w', happ, hl', row, k⟩ := app_blk ho hx hys hl h1 h63 hbase
  refine ⟨a, l, c', w', happ, hl', row, k, ?_⟩
  have det : ∀ {v1 v2 : Value} {w1 w2 : World}, appIs Try.prog #[56, 56] 56 v (.slice (some ⟨X, off, none⟩) m c) v1 w w1 → appIs Try.prog #[56, 56] 56 v (.slice (some ⟨X, off, none⟩) m c) v2 w w2 → v1 = v2 := fun h1 h2 => by
    have := h1.run.symm.trans h2.run
    cases this
    rfl
  have hi := info_blk
  cases hii : Try.prog.info? 58 with
  | none => rw [hii] at hi; cases hi
  | some i =>
  rw [hii] at hi
  simp at hi
  have hnews : ∀ j u, news[j]? = some u → w.cell? ((⟨X, off, none⟩ : Addr).add j) = some u := by
    intro j u hu
    have hadd : (⟨X, off, none⟩ : Addr).add j = ⟨X, off + j, none⟩ := by unfold Addr.add; split <;> simp_all
    rw [hadd]
    have := hx.rd (off + j)
    unfold rd at this
    rw [this]
    rw [← hys, List.getElem?_take] at hu
    split at hu
    · simpa using hu
    · cases hu
  rcases ho.2 with ⟨rfl, rfl⟩ | ⟨g, cap, cur, rfl, hbg, hg, hnc, hcm, hcs, htake⟩
  · have hxs : xs = [] := List.eq_nil_of_length_eq_zero (by simpa using ho.1)
    subst hxs
    obtain ⟨a2, l2, c2, w2, happ2, _, row2, _⟩ := app_blk (World.ownsRow_nil w w.heap.size 58 2) hx hys hl h1 h63 (Nat.le_refl _)
    have e := det happ happ2
    right
    intro g hg
    rw [e] at hg
    obtain ⟨hh, _⟩ := row2.lt g hg
    exact hh
  · by_cases hroom : n + m ≤ cap
    · left
      have hfit : n * i.size + news.length ≤ cur.size := by rw [hl, hcs, hi.2.1, ← Nat.add_mul]; exact Nat.mul_le_mul_right _ hroom
      have hr := run_append_room (P := Try.prog) w 56 56 58 i Try.underlying56 hii g n cap cur hg ⟨X, off, none⟩ m c news (by rw [hi.2.1]; exact hl) hnews h1 hroom hfit
      have e := det happ ⟨hr⟩
      rw [e]; rfl
    · right
      have holds : ∀ j u, xs[j]? = some u → w.cell? ((⟨g, 0, none⟩ : Addr).add j) = some u := ho.cells (g := g) rfl
      have hr := run_append_grow (P := Try.prog) w 56 56 58 i _ Try.underlying56 hii hi.1 ⟨g, 0, none⟩ n cap xs (by rw [hi.2.1]; exact ho.1) holds ⟨X, off, none⟩ m c news (by rw [hi.2.1]; exact hl) hnews (by omega) (by omega) (growslice_fits (by omega) (by rw [hi.2.2]; omega))
      have e := det happ ⟨hr⟩
      intro g' hg'
      rw [e] at hg'
      cases hg'
      exact Nat.le_refl _
end Go.Proofs.Ytkmcmkimeibjdaa
namespace Go.Proofs.Ytkmcmkimeibjdaa
open Go Eng
set_option linter.unusedSimpArgs false
set_option linter.unusedVariables false
set_option maxRecDepth 100000
/-! ### the blocks, gathered into a row -/
def bks (L : List Bk) : List (Nat × Nat) := (frB L).map fun x => (x.p, x.o)
theorem bks_len (L : List Bk) : (bks L).length = (frB L).length := by simp [bks]
theorem tkC_app (d d' : List (Nat × Nat)) : tkC (d ++ d') = tkC d ++ tkC d' := by simp [tkC]
theorem tkC_len : ∀ d : List (Nat × Nat), (tkC d).length = d.length * 2
  | [] => rfl
  | x :: d => by
    have := tkC_len d
    have e : tkC (x :: d) = [Value.int .i64 (x.1 : Int), .int .i64 (x.2 : Int)] ++ tkC d := rfl
    have h2 : (x :: d).length = d.length + 1 := rfl
    rw [e, List.length_append, this, h2]
    show 2 + _ = _
    omega
theorem keptX {X : Nat → Prop} {w w1 w2 : World} {kx : Nat} (k : Kept (· = kx) w w1) (k2 : Kept X w1 w2) (h : ∀ x, X x → x = kx ∨ w.heap.size ≤ x) : Kept (· = kx) w w2 :=
  k.trans k2 fun x hl hx => by rcases h x hx with h | h; exact h; omega
section
variable {w4 : World} {b c kx t : Nat} {m : Nat → Nat} {n : Nat} {L : List Bk}
theorem collect (h : BAt w4 b m t (stOf n L)) (hi : Inv n L) (hc : rd w4 c 0 = some (ptr b)) (hx : own w4 kx [.slice none 0 0]) {E Z : World → Prop}
    (hE : ∀ W a l cc, Kept (· = kx) w4 W → own W kx [.slice a l cc] → l = (bks L).length → W.ownsRow (w4.heap.size + 2) 58 2 (.slice a l cc) l (tkC (bks L)) → DefAt w4.heap.size W → E W) :
    ∃ (xss : List (List Value)), ∃ (R : Nat → Prop), ∃ (I : (Nat → Prop) → Nat → World → Prop), ∃ (X : Nat → (Nat → Prop) → World → Prop),
      (GivesV Try.prog 54 [.pointer (some ⟨c, 0, none⟩)] xss R w4 ∧
        (∀ (xs : List Value), List.Mem xs xss → xs.length = 1 ∧ ∃ (n : Int), ∃ (o : Int), xs = [.agg #[.int .i64 n, .int .i64 o]]) ∧
        ∀ (b : Nat), R b → Nat.succ b ≤ w4.heap.size) ∧
      (∀ (w1 : World), Kept none' w4 w1 → w1.heap.size = w4.heap.size + 2 → I (fun (x : Nat) => False) 0 w1) ∧
      (∀ (Y : Nat → Prop) (i : Nat) (W W' : World), I Y i W → (∀ (b : Nat), Y b → w4.heap.size + 2 ≤ b) → Kept (recsY w4.heap.size Y) W W' → I (fun (b : Nat) => Y b ∨ W.heap.size ≤ b ∧ Nat.succ b ≤ W'.heap.size) i W') ∧
      (∀ (k : Nat) (Y : Nat → Prop) (W W' : World), X k Y W → (∀ (b : Nat), Y b → w4.heap.size + 2 ≤ b) → Kept (recsY w4.heap.size Y) W W' → X k (fun (b : Nat) => Y b ∨ W.heap.size ≤ b ∧ Nat.succ b ≤ W'.heap.size) W') ∧
      (∀ (Y : Nat → Prop) (i : Nat) (W : World), I Y i W → (∀ (b : Nat), Y b → w4.heap.size + 2 ≤ b) → w4.heap.size + 2 ≤ W.heap.size →
        ∀ (p o : Int), xss[i]? = some [.agg #[.int .i64 p, .int .i64 o]] →
        ∀ (w5 : World), w5 = World.alloc W (.cells #[.int .i64 0, .int .i64 0] 58) →
          (wr w5 W.heap.size 0 ∧ wr w5 W.heap.size 1) ∧
          ∀ (w6 : World), w6 = st (st w5 W.heap.size 0 (.int .i64 p)) W.heap.size 1 (.int .i64 o) →
            RecKept w4.heap.size W w6 ∧
            ∀ (w2 : World), Kept (fun (b : Nat) => b = w4.heap.size + 1) w6 w2 → w2.heap.size = w6.heap.size →
              ∃ (x : Option Addr), ∃ (x1 : Nat), ∃ (x2 : Nat), rd w2 kx 0 = some (.slice x x1 x2) ∧
              ∃ (x3 : Int), ∃ (x4 : Int), (rd w2 W.heap.size 0 = some (.int .i64 x3) ∧ rd w2 W.heap.size 1 = some (.int .i64 x4)) ∧
              ∀ (w7 : World), w7 = World.alloc w2 (.cells #[.int .i64 x3, .int .i64 x4] 58) →
                ∃ (a : Option Addr), ∃ (l : Nat), ∃ (c : Nat), ∃ (w8 : World),
                  appIs Try.prog #[56, 56] 56 (.slice x x1 x2) (.slice (some ⟨w2.heap.size, 0, none⟩) 1 1) (.slice a l c) w7 w8 ∧
                  wr w8 kx 0 ∧
                  ∀ (w9 : World), w9 = st w8 kx 0 (.slice a l c) → RecKept w4.heap.size w2 w9 ∧ KeptY (fun (b : Nat) => Y b ∨ R b) W w9 ∧ I Y (i + 1) w9) ∧
      (∀ (Y : Nat → Prop) (W : World), I Y xss.length W → DefAt w4.heap.size W → E W) ∧
      (∀ (Y : Nat → Prop) (W : World), X 0 Y W → DefAt w4.heap.size W → Z W) ∧ True := by
  have hkx : kx < w4.heap.size := hx.lt
  have hlen : (bks L).length ≤ 128 := by have := frB_len L; have := tile_le hi.tl; have := hi.n1; have := bks_len L; omega
  generalize hB : w4.heap.size = B at *
  have hrow : ∀ {w : World} {v : Value} {n : Nat} {xs : List Value}, w.ownsRow (B + 2) 58 2 v n xs → ∀ x, v.ownBlock = some x → B + 2 ≤ x ∧ x < w.heap.size := fun h x hx => ⟨(rowTy h hx).1, by
    obtain ⟨_, cur, hc⟩ := rowTy h hx
    exact (Array.getElem?_eq_some_iff.1 hc).1⟩
  refine ⟨(frB L).map fun x => [blkV x], fun _ => False, fun Y i W => Kept (· = kx) w4 W ∧ ∃ a l cc, own W kx [.slice a l cc] ∧ l = i ∧ i ≤ (bks L).length ∧ W.ownsRow (B + 2) 58 2 (.slice a l cc) i (tkC ((bks L).take i)) ∧ (∀ x, Y x → x < W.heap.size ∧ (Value.slice a l cc).ownBlock ≠ some x), fun _ _ _ => False,
    ⟨blocks_gives (sort_says L) h hi hc, fun xs hx => ?_, fun b h => h.elim⟩, fun w1 k1 _ => ?_, ?_, fun _ _ _ _ h => h.elim, ?_, ?_, fun _ _ h => h.elim, trivial⟩
  · obtain ⟨x, _, rfl⟩ := List.mem_map.1 hx
    exact ⟨rfl, _, _, rfl⟩
  · exact ⟨k1.mono fun _ _ h => h.elim, none, 0, 0, hx.k k1, rfl, by omega, World.ownsRow_nil _ _ _ _, fun x h => h.elim⟩
  · rintro Y i W W' ⟨g1, a, l, cc, g2, rfl, hil, g3, g4⟩ hY k'
    have hsz := k'.sz
    refine ⟨keptX g1 k' fun x hx => .inr (by rcases hx with rfl | rfl | h; omega; omega; have := hY x h; omega), a, l, cc, g2.kx k' (fun hx => by rcases hx with h | h | h; omega; omega; have := hY _ h; omega), rfl, hil, ownsRow_kx g3 k' fun x hx _ hb hh => (by rcases hh with h | h | h; omega; omega; exact (g4 x h).2 hb), fun x hx => ?_⟩
    rcases hx with hx | hx
    · have := g4 x hx; exact ⟨by omega, this.2⟩
    · refine ⟨hx.2, fun e => ?_⟩
      have := (hrow g3 x e).2
      omega
  · rintro Y i W ⟨g1, a, l, cc, g2, rfl, hil, g3, g4⟩ hY hsz p o hv w5 e5
    obtain ⟨x, hx, hpo⟩ : ∃ x, (frB L)[l]? = some x ∧ [blkV x] = [Value.agg #[.int .i64 p, .int .i64 o]] := by
      rw [List.getElem?_map] at hv
      cases hh : (frB L)[l]? with
      | none => rw [hh] at hv; cases hv
      | some x => rw [hh] at hv; exact ⟨x, rfl, Option.some.inj hv⟩
    simp [blkV] at hpo
    obtain ⟨rfl, rfl⟩ := hpo
    have hll : l < (bks L).length := by
      have := (List.getElem?_eq_some_iff.1 hx).1
      rw [bks_len]; exact this
    have o5 := own_alloc (c := [.int .i64 0, .int .i64 0]) e5
    have k5 : Kept none' W w5 := (Kept.refl _ _).al e5
    refine ⟨⟨o5.wr (by simp), o5.wr (by simp)⟩, fun w6 e6 => ?_⟩
    have o6 : own w6 W.heap.size [.int .i64 (x.p : Int), .int .i64 (x.o : Int)] := o5.s2 e6
    have k6 : Kept none' W w6 := own0 k5 ((Kept.refl (· = W.heap.size) _).s2 e6 (.inl rfl)) fun x hx => by omega
    refine ⟨recKept_of k6 (by omega) id id, fun w7 k7 hs7 => ?_⟩
    have o7 := o6.kx k7 (by omega)
    have kW7 : Kept (· = B + 1) W w7 := (k6.mono fun _ _ h => h.elim).trans k7 fun _ _ h => h
    have hW7 := kW7.sz
    refine ⟨a, l, cc, by rw [(g2.kx kW7 (by omega)).rd]; rfl, (x.p : Int), (x.o : Int), ⟨by rw [o7.rd]; rfl, by rw [o7.rd]; rfl⟩, fun w8 e8 => ?_⟩
    have k8 : Kept none' w7 w8 := (Kept.refl _ _).al e8
    have p8 := own_alloc (c := [.int .i64 (x.p : Int), .int .i64 (x.o : Int)]) e8
    have row7 := ownsRow_kx g3 kW7 fun x hx _ _ hh => by omega
    have row8 := ownsRow_kx row7 k8 fun _ _ _ _ => id
    have hs8 := k8.sz
    obtain ⟨a', l', c', w9, happ, rfl, row9, k9, hon⟩ := app_blk2 row8 p8 (m := 1) (off := 0) (c := 1) (news := [Value.int .i64 (x.p : Int), .int .i64 (x.o : Int)]) rfl rfl (fun u hu => by simp at hu; rcases hu with rfl | rfl <;> rfl) (by omega) (by omega)
    have g9 := ((g2.kx kW7 (by omega)).k k8).kx k9 fun e => by have := (hrow row8 _ e).1; omega
    refine ⟨a', _, c', w9, happ, g9.wr (by simp), fun w10 e10 => ?_⟩
    have k10 : Kept (· = kx) w9 w10 := (Kept.refl _ _).s1 e10 (.inl rfl)
    have g10 := g9.s1 e10
    have K710 : Kept (fun x => x = kx ∨ (Value.slice a l cc).ownBlock = some x) w7 w10 := ((k8.mono fun _ _ h => h.elim).trans k9 fun x _ h => .inr h).trans k10 fun x _ h => .inl h
    have KW10 : Kept (fun x => x = B + 1 ∨ x = kx ∨ (Value.slice a l cc).ownBlock = some x) W w10 := (kW7.mono fun _ _ h => .inl h).trans K710 fun x _ h => .inr h
    have hl10 := KW10.sz
    refine ⟨recKept_of K710 (by omega) (fun h => ?_) (fun h => ?_), keptY_of KW10 fun y hy => ?_, ?_, a', _, c', g10, rfl, by omega, ?_, fun y hy => ?_⟩
    · rcases h with h | h
      · omega
      · have := (hrow row7 _ h).1; omega
    · rcases h with h | h
      · omega
      · have := (hrow row7 _ h).1; omega
    · rcases hy with hy | hy
      · have h1 := hY y hy
        have h2 := g4 y hy
        refine ⟨h2.1, fun hh => ?_⟩
        rcases hh with h | h | h
        · omega
        · omega
        · exact h2.2 h
      · exact hy.elim
    · refine keptX g1 KW10 fun y hy => ?_
      rcases hy with h | h | h
      · right; omega
      · exact .inl h
      · right; have := (hrow g3 _ h).1; omega
    · have e1 : tkC ((bks L).take (l + 1)) = tkC ((bks L).take l) ++ [Value.int .i64 (x.p : Int), .int .i64 (x.o : Int)] := by
        have : (bks L)[l]? = some (x.p, x.o) := by simp [bks, hx]
        rw [List.take_add_one, this, tkC_app]; rfl
      rw [e1]
      exact ownsRow_kx row9 k10 fun y hy _ _ h => by omega
    · have h1 := hY y hy
      have h2 := g4 y hy
      refine ⟨by omega, fun e => ?_⟩
      rcases hon with h3 | h3
      · rw [h3] at e; exact h2.2 e
      · have := h3 y e; omega
  · rintro Y W ⟨g1, a, l, cc, g2, rfl, hil, g3, g4⟩ hd
    have hl : (List.map (fun x => [blkV x]) (frB L)).length = (bks L).length := by simp [bks]
    rw [hl] at g2 g3
    rw [List.take_length] at g3
    rw [hl] at *
    exact hE W a _ cc g1 g2 rfl g3 hd
end
end Go.Proofs.Ytkmcmkimeibjdaa
namespace Go.Proofs.Ytkmcmkimeibjdaa
open Go Eng
set_option linter.unusedSimpArgs false
set_option linter.unusedVariables false
set_option maxRecDepth 100000
/-! ### BuddyBack -/
theorem Tks.giveAt {L L' : List Bk} {A B : List (Nat × Nat)} {p o : Nat} (h : Tks L (A ++ (p, o) :: B)) (hs : ∀ y : Bk, y.g = 1 → (y ∈ L' ↔ y ∈ L ∧ y ≠ ⟨p, o, 1⟩)) : Tks L' (A ++ B) := by
  have hp : (A ++ (p, o) :: B).Perm ((p, o) :: (A ++ B)) := List.perm_middle
  have h1 : Tks L ((p, o) :: (A ++ B)) := ⟨hp.nodup_iff.1 h.1, fun y hy => by rw [h.2 y hy]; exact hp.mem_iff⟩
  exact h1.give hs
theorem tile_sumB : ∀ (l : List Bk) (a b : Nat), Tile a l b → (∀ x ∈ l, x.g = 0) → a + fsum l = b
  | [], a, b, h, _ => by simp [Tile] at h; simp [fsum]; omega
  | x :: l, a, b, h, hg => by
    have := tile_sumB l _ _ h.2.2.2 fun y hy => hg y (List.mem_cons_of_mem _ hy)
    rw [fsum_cons, if_pos (hg x (by simp))]
    omega
section
variable {w : World} {b t : Nat} {m : Nat → Nat} {n : Nat} {L : List Bk} {A B : List (Nat × Nat)} {p o : Nat}
/-- one of those that are out, given back -/
theorem give_in (h : BAt w b m t (stOf n L)) (hi : Inv n L) (ht : Tks L (A ++ (p, o) :: B)) :
    Calls Try.prog 16 #[ptr b, .int .i64 (p : Int), .int .i64 (o : Int)] w fun r w' => ∃ L', r = .returned (.int .i64 0) ∧ Kept (bblk b m t) w w' ∧ BAt w' b m t (stOf n L') ∧ Inv n L' ∧ Tks L' (A ++ B) ∧ (⟨p, o, 1⟩ : Bk) ∉ L' := by
  refine (give_spec h hi _ _).mono ?_
  rintro _ w' ⟨e, L', rfl, k, h', i', r⟩
  have hin : (⟨p, o, 1⟩ : Bk) ∈ L := (ht.2 _ rfl).2 (by simp)
  rcases r with ⟨hh, _⟩ | ⟨x, b1, b2, b3, b4, rfl, b6, b7⟩
  · exact absurd (mem_tk.2 ⟨_, hin, rfl, rfl, rfl⟩) hh
  have hxx : (⟨p, o, 1⟩ : Bk) = x := (eqBk _ _).2 ⟨by dsimp only; omega, by dsimp only; omega, b2.symm⟩
  subst hxx
  exact ⟨L', rfl, k, h', i', ht.giveAt b6, fun hm => ((b6 _ rfl).1 hm).2 rfl⟩
/-- .. and once more: refused -/
theorem give_out (h : BAt w b m t (stOf n L)) (hi : Inv n L) (hn : (⟨p, o, 1⟩ : Bk) ∉ L) :
    Calls Try.prog 16 #[ptr b, .int .i64 (p : Int), .int .i64 (o : Int)] w fun r w' => r = .returned (.int .i64 2) ∧ Kept (bblk b m t) w w' ∧ BAt w' b m t (stOf n L) := by
  refine (give_spec h hi _ _).mono ?_
  rintro _ w' ⟨e, L', rfl, k, h', i', r⟩
  rcases r with ⟨hh, rfl, rfl⟩ | ⟨x, b1, b2, b3, b4, rfl, b6, b7⟩
  · exact ⟨rfl, k, h'⟩
  have hxx : (⟨p, o, 1⟩ : Bk) = x := (eqBk _ _).2 ⟨by dsimp only; omega, by dsimp only; omega, b2.symm⟩
  exact absurd (hxx ▸ b1) hn
/-- a row without one of its elements -/
theorem drain_app {w1 : World} {base g l c k : Nat} {T : List (Nat × Nat)} (row : w1.ownsRow base 58 2 (.slice (some ⟨g, 0, none⟩) l c) l (tkC T)) (hk : k < l) (hl : l ≤ 100) (hb : base ≤ w1.heap.size) :
    okSl 0 (k : Int) (c : Int) = true ∧ okSl ((k + 1 : Nat) : Int) (l : Int) (c : Int) = true ∧
    ∀ w2, w2 = World.alloc w1 (.cells #[] 58) → ∃ (a1 : Option Addr), ∃ (l1 : Nat), ∃ (c1 : Nat), ∃ (w3 : World),
      appIs Try.prog #[56, 56] 56 (.slice (some ⟨w1.heap.size, 0, none⟩) 0 0) (.slice (some ⟨g, 0, none⟩) k c) (.slice a1 l1 c1) w2 w3 ∧
      ∃ (a2 : Option Addr), ∃ (l2 : Nat), ∃ (c2 : Nat), ∃ (w4 : World),
        appIs Try.prog #[56, 56] 56 (.slice a1 l1 c1) (.slice (offA (some ⟨g, 0, none⟩) c (k + 1) 2) (l - (k + 1)) (c - (k + 1))) (.slice a2 l2 c2) w3 w4 ∧
        l2 = l - 1 ∧ w4.ownsRow base 58 2 (.slice a2 l2 c2) l2 (tkC (T.take k ++ T.drop (k + 1))) ∧ Kept none' w1 w4 := by
  obtain ⟨_, hh⟩ := ownsRow_own row
  rcases hh with ⟨_, h0, _⟩ | ⟨g', cs, hg, hbg, og, htk, hlc, hcs⟩
  · omega
  cases hg
  have hT : T.length = l := by have := row.1; rw [tkC_len] at this; omega
  refine ⟨okSl_of (by omega) (by omega) (by omega), okSl_of (by omega) (by omega) (by omega), fun w2 e2 => ?_⟩
  have k2 : Kept none' w1 w2 := (Kept.refl _ _).al e2
  have r2 : w2.ownsRow w1.heap.size 58 2 (.slice (some ⟨w1.heap.size, 0, none⟩) 0 0) 0 [] := by
    refine ⟨rfl, .inr ⟨_, 0, #[], rfl, Nat.le_refl _, ?_, by decide, by decide, rfl, rfl⟩⟩
    rw [e2]
    simp only [World.alloc]
    simp
  have htc : tkC T = cs.take (l * 2) := htk.symm
  have one' : ∀ (d : List (Nat × Nat)) (u : Value), u ∈ tkC d → u.oneCell' = true := fun d u hu => by
    simp only [tkC, List.mem_flatMap] at hu
    obtain ⟨x, _, hx⟩ := hu
    simp at hx
    rcases hx with rfl | rfl <;> rfl
  have split : ∀ j, tkC (T.take j) = (tkC T).take (j * 2) ∧ tkC (T.drop j) = (tkC T).drop (j * 2) := by
    intro j
    have e : tkC T = tkC (T.take j) ++ tkC (T.drop j) := by rw [← tkC_app, List.take_append_drop]
    by_cases hj : j ≤ T.length
    · have h1 : (tkC (T.take j)).length = j * 2 := by rw [tkC_len, List.length_take]; omega
      constructor
      · rw [e, ← h1, List.take_left]
      · rw [e, ← h1, List.drop_left]
    · rw [List.take_of_length_le (by omega), List.drop_of_length_le (by omega)]
      have := tkC_len T
      exact ⟨(List.take_of_length_le (by omega)).symm, (List.drop_of_length_le (by omega)).symm⟩
  have hs2 := k2.sz
  have n1 : (cs.drop 0).take (k * 2) = tkC (T.take k) := by
    rw [(split k).1, htc, List.take_take, List.drop_zero]
    congr 1; omega
  obtain ⟨a1, l1, c1, w3, happ, rfl, row3, k3⟩ := app_blk r2 (og.k k2) (m := k) (off := 0) (c := c) n1 (by rw [tkC_len, List.length_take]; omega) (one' _) (by omega) (by omega)
  have K3 : Kept none' w1 w3 := own0 k2 k3 fun x hx => by simp [Value.ownBlock] at hx; omega
  refine ⟨a1, _, c1, w3, happ, ?_⟩
  have hs3 := K3.sz
  have og3 := og.k K3
  have n2 : (cs.drop ((k + 1) * 2)).take ((l - (k + 1)) * 2) = tkC (T.drop (k + 1)) := by
    rw [(split (k + 1)).2, htc, List.drop_take]
    congr 1; omega
  obtain ⟨X, off, hoff, hxx⟩ : ∃ X off, offA (some ⟨g, 0, none⟩) c (k + 1) 2 = some ⟨X, off, none⟩ ∧ (own w3 X cs ∧ (cs.drop off).take ((l - (k + 1)) * 2) = tkC (T.drop (k + 1))) := by
    unfold offA
    split
    · refine ⟨g, 0, rfl, og3, ?_⟩
      have e1 : l - (k + 1) = 0 := by omega
      have e2 : T.drop (k + 1) = [] := List.drop_of_length_le (by omega)
      rw [e1, e2]; simp [tkC]
    · refine ⟨g, (k + 1) * 2, ?_, og3, n2⟩
      rw [Option.map_some]
      unfold Addr.add
      simp
  rw [hoff]
  have row3' := row3
  obtain ⟨a2, l2, c2, w4, happ2, rfl, row4, k4⟩ := app_blk row3 hxx.1 (m := l - (k + 1)) (off := off) (c := c - (k + 1)) hxx.2 (by rw [tkC_len, List.length_drop]; omega) (one' _) (by omega) (by omega)
  have K4 : Kept none' w1 w4 := own0 K3 k4 fun x hx => (rowTy row3 hx).1
  have hbase : ∀ {v : Value} {n : Nat} {xs : List Value}, w4.ownsRow w1.heap.size 58 2 v n xs → w4.ownsRow base 58 2 v n xs := fun h => ⟨h.1, by
    rcases h.2 with h | ⟨g, cap, cur, q1, q2, q3⟩
    · exact .inl h
    · exact .inr ⟨g, cap, cur, q1, by omega, q3⟩⟩
  refine ⟨a2, _, c2, w4, happ2, by omega, ?_, K4⟩
  rw [tkC_app]
  have := hbase row4
  rw [List.nil_append] at this
  exact this
end
end Go.Proofs.Ytkmcmkimeibjdaa
