/-
  A part of a proof that a law of this seat returns true at every input. Conditions: those in each theorem.
-/
import Derived.Test.YtklmokolnakkoaaGreatDoorM9
set_option linter.unusedSimpArgs false
set_option linter.unusedVariables false
set_option maxRecDepth 100000
namespace Go.Proofs.YtklmokolnakkoaaGreatDoor
open Go Go.Eng
theorem tile_one {l : List Bk} {a b : Nat} (h : Tile a l b) {x y : Bk} (hx : x ∈ l) (hy : y ∈ l) {f : Nat} (h1 : x.p ≤ f) (h2 : f < x.p + 2 ^ x.o) (h3 : y.p ≤ f) (h4 : f < y.p + 2 ^ y.o) : x = y := by
  induction l generalizing a with
  | nil => cases hx
  | cons z l ih =>
    have ht := h.2.2.2
    rcases List.mem_cons.1 hx with e1 | hx'
    · rcases List.mem_cons.1 hy with e2 | hy'
      · rw [e1, e2]
      · have := (tile_mem ht hy').1
        have := h.1
        subst e1
        omega
    · rcases List.mem_cons.1 hy with e2 | hy'
      · have := (tile_mem ht hx').1
        have := h.1
        subst e2
        omega
      · exact ih ht hx' hy'
theorem fsum_free {l : List Bk} (h : 0 < fsum l) : ∃ x ∈ l, x.g = 0 := by
  induction l with
  | nil => exact absurd h (Nat.lt_irrefl _)
  | cons x l ih =>
    by_cases hx : x.g = 0
    · exact ⟨x, List.mem_cons_self, hx⟩
    · rw [fsum_cons, if_neg hx, Nat.zero_add] at h
      obtain ⟨y, hy, hg⟩ := ih h
      exact ⟨y, List.mem_cons_of_mem _ hy, hg⟩
theorem takeR_one {l l' : List Bk} {high : Bool} {a : Int} {n : Nat} (hT : Tile 0 l n) (h : TakeR l 0 high a 0 l') : ∃ r : Nat, a = r ∧ r < n ∧ (∃ x ∈ l, x.g = 0 ∧ x.p ≤ r ∧ r < x.p + 2 ^ x.o) ∧ (∀ y : Bk, y.g = 1 → (y ∈ l' ↔ y ∈ l ∨ y = ⟨r, 0, 1⟩)) ∧ fsum l' + 1 = fsum l := by
  rcases h with ⟨_, _, h, _⟩ | ⟨_, _, _, _, _, h, _⟩ | ⟨o, x, r, h0, h1, hx, hg, _, _, ha, hr, _, hm, hf⟩
  · cases h
  · cases h
  · have : o = 0 := by omega
    subst this
    have hp := tile_mem hT hx
    have h2 : x.p ≤ r ∧ r < x.p + 2 ^ x.o := by
      have := p2 x.o
      split at hr <;> omega
    exact ⟨r, ha, by omega, ⟨x, hx, hg, h2⟩, hm, by simpa using hf⟩
def tblM : Mark := ⟨3, 0, 0, 0, 0⟩
def pageM (j : Nat) : Mark := ⟨4, 0, 1, j, 0⟩
def gfr (S : Mach) (i : Nat) (y : Bk) : Nat := (fstF S.c i).toNat + y.p
def usedF (rt lf : Nat) (pg : Nat → Option Nat) (hd : Option Nat) (f : Nat) : Prop := f = rt ∨ f = lf ∨ (∃ j, pg j = some f) ∨ hd = some f
def sumN (n : Nat) (f : Nat → Nat) : Nat := ((List.range n).map f).sum
theorem sumN_succ (n : Nat) (f : Nat → Nat) : sumN (n + 1) f = sumN n f + f n := by unfold sumN; rw [List.range_succ, List.map_append, List.sum_append]; simp
theorem sumN_ext {n : Nat} {f g : Nat → Nat} (h : ∀ i, i < n → f i = g i) : sumN n f = sumN n g := by
  induction n with
  | zero => rfl
  | succ n ih => rw [sumN_succ, sumN_succ, ih fun i hi => h i (by omega), h n (by omega)]
theorem sumN_upd {n : Nat} {f : Nat → Nat} {i v : Nat} (hi : i < n) : sumN n (upd f i v) + f i = sumN n f + v := by
  induction n with
  | zero => omega
  | succ n ih =>
    rw [sumN_succ, sumN_succ]
    by_cases h : i = n
    · subst h
      rw [upd_same, sumN_ext (g := f) fun j hj => upd_ne _ _ (by omega)]
      omega
    · rw [upd_ne _ _ (Ne.symm h)]
      have := ih (by omega)
      omega
structure LSt (S : Mach) (rt lf : Nat) (pg : Nat → Option Nat) (hd : Option Nat) (cnt : Nat) : Prop where
  by' : ByR S.by'
  rl : rt < S.n ∧ lf < S.n ∧ rt ≠ lf
  sp : ∃ b, S.sp = fun i => if i = 1 then some b else none
  root : S.root 1 = rt
  w0 : wdF S.by' S.n rt 0 = 1 + 4 * (lf : Int)
  wz : ∀ j : Int, 1 ≤ j → j ≤ 31 → wdF S.by' S.n rt j = 0
  wl : ∀ j : Nat, j < 32 → wdF S.by' S.n lf j = match pg j with | some f => 1 + 4 * (f : Int) | none => 0
  pgo : ∀ j f, pg j = some f → j < 32 ∧ f < S.n ∧ f ≠ rt ∧ f ≠ lf ∧ hd ≠ some f
  inj : ∀ j j' f, pg j = some f → pg j' = some f → j = j'
  hdr : ∀ f, hd = some f → f < S.n ∧ f ≠ rt ∧ f ≠ lf
  rof1 : ∀ j f, pg j = some f → S.rof f = (1, (j : Int))
  rof2 : ∀ f, f < S.n → (S.rof f).1 ≠ 0 → ∃ j, pg j = some f
  rat1 : ∀ kk v, S.rat.lookup kk = some v → ∃ j f, kk = (1, ((j : Nat) : Int)) ∧ pg j = some f ∧ v = vi f
  rat2 : ∀ j f, pg j = some f → (S.rat.lookup (1, (j : Int))).isSome = true
  ck : ∀ i, i < S.nodes → ClOk (S.ring i) (S.cof i)
  ckm : ∀ i, i < S.nodes → ∀ x : Int, x ∈ S.ring i ↔ ∃ j f, pg j = some f ∧ x = (f : Nat) ∧ fstF S.c i ≤ f ∧ (f : Int) < fstF S.c (i + 1)
  mk1 : S.mks rt = tblM ∧ S.mks lf = tblM
  mk2 : ∀ j f, pg j = some f → S.mks f = pageM j
  mk3 : ∀ f, f < S.n → ¬ usedF rt lf pg hd f → S.mks f = mark0
  tk1 : ∀ i, i < S.nodes → ∀ y ∈ S.L i, y.g = 1 → y.o = 0 ∧ usedF rt lf pg hd (gfr S i y)
  tk2 : ∀ f, usedF rt lf pg hd f → ∃ i y, i < S.nodes ∧ y ∈ S.L i ∧ y.g = 1 ∧ gfr S i y = f
  cp : ((List.range 32).filter fun j => (pg j).isSome).length = cnt
  cr : (owns S.n S.rof).length = cnt
  cc : sumN S.nodes (fun i => (S.ring i).length) = cnt
  cf : sumN S.nodes (fun i => fsum (S.L i)) + cnt + 2 + (if hd.isSome then 1 else 0) = S.n
  held : S.held = fun _ => []
  fli : S.fli = List.replicate S.cpus (-1)
  lh : S.lh = fun _ => 0
section
variable {w : World} {k : Nat} {S : Mach} {fp : Prt → Nat → Prop} {rt lf cnt : Nat} {pg : Nat → Option Nat}
theorem CoreAt.tile (h : CoreAt w k S fp) {i : Nat} (hi : i < S.nodes) : Tile 0 (S.L i) (S.c (18 + i)).toNat := by
  obtain ⟨Z, hc, hk⟩ := h.zn
  have := (Z.iv i (by omega)).tl
  unfold Zs.n at this
  rw [hc] at this
  exact this
theorem CoreAt.fst (h : CoreAt w k S fp) {i : Nat} (hi : i < S.nodes) : 0 ≤ fstF S.c i ∧ fstF S.c (i + 1) = fstF S.c i + S.c (18 + i) ∧ 4 ≤ S.c (18 + i) ∧ S.c (18 + i) ≤ 128 ∧ fstF S.c (i + 1) ≤ S.n := by
  have hn := h.n4
  have hs := h.sizes.1.2.2
  have h1 := fst_le h.my (i := 0) (j := i) (by omega) (by unfold Mach.nodes at hi; omega)
  have h2 := fst_le h.my (i := i + 1) (j := (S.c 0).toNat) (by unfold Mach.nodes at hi; omega) (Nat.le_refl _)
  have h3 := (h.my.2.2.2.2.2.1 i (by unfold Mach.nodes at hi; omega)).1
  exact ⟨h1, rfl, h3.1, h3.2, by omega⟩
theorem LSt.take (L : LSt S rt lf pg none cnt) (h : CoreAt w k S fp) {i : Nat} (hi : i < S.nodes) {high : Bool} {a : Int} {l' : List Bk} (T : TakeR (S.L i) 0 high a 0 l') : ∃ f : Nat, fstF S.c i + a = f ∧ fstF S.c i ≤ f ∧ (f : Int) < fstF S.c (i + 1) ∧ f < S.n ∧ ¬ usedF rt lf pg none f ∧ LSt (S.setL (upd S.L i l')) rt lf pg (some f) cnt := by
  have ht := h.tile hi
  have hf := h.fst hi
  obtain ⟨r, rfl, hr, ⟨x, hx, hxg, hx1, hx2⟩, hm, hs⟩ := takeR_one ht T
  have hfe : fstF S.c i + (r : Int) = (((fstF S.c i).toNat + r : Nat) : Int) := by omega
  have hnu : ¬ usedF rt lf pg none ((fstF S.c i).toNat + r) := fun hu => by
    obtain ⟨j, y, hj, hy, hyg, he⟩ := L.tk2 _ hu
    unfold gfr at he
    have hfj := h.fst hj
    have hyt := tile_mem (h.tile hj) hy
    have hyo := (L.tk1 j hj y hy hyg).1
    rw [hyo] at hyt
    have : j = i := node_uniq h.my (f := (((fstF S.c i).toNat + r : Nat) : Int)) (by unfold Mach.nodes at hj; exact hj) (by unfold Mach.nodes at hi; exact hi) (by omega) (by omega) (by omega) (by omega)
    subst this
    have : x = y := tile_one ht hx hy (f := r) hx1 hx2 (by omega) (by rw [hyo]; omega)
    subst this
    omega
  have hu1 : ∀ f, usedF rt lf pg (some ((fstF S.c i).toNat + r)) f ↔ usedF rt lf pg none f ∨ f = (fstF S.c i).toNat + r := fun f => by
    unfold usedF
    constructor
    · rintro (e | e | e | e)
      · exact .inl (.inl e)
      · exact .inl (.inr (.inl e))
      · exact .inl (.inr (.inr (.inl e)))
      · exact .inr (Option.some.inj e).symm
    · rintro ((e | e | e | e) | e)
      · exact .inl e
      · exact .inr (.inl e)
      · exact .inr (.inr (.inl e))
      · cases e
      · exact .inr (.inr (.inr (by rw [e])))
  refine ⟨_, hfe, by omega, by omega, by omega, hnu, ?_⟩
  exact { L with
    pgo := fun j f hj => by
      obtain ⟨a1, a2, a3, a4, _⟩ := L.pgo j f hj
      refine ⟨a1, a2, a3, a4, fun e => hnu (.inr (.inr (.inl ⟨j, ?_⟩)))⟩
      rw [Option.some.inj e]; exact hj
    hdr := fun f e => by
      have : (fstF S.c i).toNat + r = f := Option.some.inj e
      subst this
      exact ⟨show _ < S.n by omega, fun e => hnu (.inl e), fun e => hnu (.inr (.inl e))⟩
    mk3 := fun f hf hn => L.mk3 f hf fun hu => hn ((hu1 f).2 (.inl hu))
    tk1 := fun j hj y hy hg => by
      by_cases e : j = i
      · subst e
        have hy : y ∈ upd S.L j l' j := hy
        rw [upd_same] at hy
        rcases (hm y hg).1 hy with hy | rfl
        · have := L.tk1 j hj y hy hg
          exact ⟨this.1, (hu1 _).2 (.inl this.2)⟩
        · exact ⟨rfl, (hu1 _).2 (.inr rfl)⟩
      · have hy : y ∈ upd S.L i l' j := hy
        rw [upd_ne _ _ e] at hy
        have := L.tk1 j hj y hy hg
        exact ⟨this.1, (hu1 _).2 (.inl this.2)⟩
    tk2 := fun f hu => by
      rcases (hu1 f).1 hu with hu | rfl
      · obtain ⟨j, y, hj, hy, hg, he⟩ := L.tk2 f hu
        refine ⟨j, y, hj, ?_, hg, he⟩
        show y ∈ upd S.L i l' j
        by_cases e : j = i
        · subst e
          rw [upd_same]
          exact (hm y hg).2 (.inl hy)
        · rw [upd_ne _ _ e]; exact hy
      · refine ⟨i, ⟨r, 0, 1⟩, hi, ?_, rfl, rfl⟩
        show _ ∈ upd S.L i l' i
        rw [upd_same]
        exact (hm _ rfl).2 (.inr rfl)
    cf := by
      have h1 := L.cf
      have e : (fun j => fsum (upd S.L i l' j)) = upd (fun j => fsum (S.L j)) i (fsum l') := by
        funext j
        by_cases e : j = i
        · subst e; rw [upd_same, upd_same]
        · rw [upd_ne _ _ e, upd_ne _ _ e]
      have h2 := sumN_upd (n := S.nodes) (f := fun j => fsum (S.L j)) (v := fsum l') hi
      show sumN S.nodes (fun j => fsum (upd S.L i l' j)) + cnt + 2 + 1 = S.n
      rw [e]
      simp at h1
      omega }
end
section
variable {w : World} {k : Nat} {S : Mach} {fp : Prt → Nat → Prop} {rt lf cnt : Nat} {pg : Nat → Option Nat} {hd : Option Nat}
theorem LSt.lfE0 (L : LSt S rt lf pg hd cnt) (h : CoreAt w k S fp) {page : Int} (hp : 0 ≤ page ∧ page < 32) : lfE S.by' S.n (S.root 1) page = 0 ∧ lfN S.by' S.n (S.root 1) page = lf := by
  have hn := h.n4
  have hl := L.rl
  have ht : Int.tdiv page 32 = 0 := by rw [Int.tdiv_eq_ediv_of_nonneg hp.1]; omega
  have hw : wdE S.n (rt : Int) 0 = 0 := wdE_of (by omega) (by omega) (by omega) (by omega)
  have he : enE (1 + 4 * (lf : Int)) = 0 := by unfold enE; rw [if_neg (by omega)]
  have hE : rdE S.by' S.n (rt : Int) 0 = 0 := by unfold rdE; rw [if_neg (by omega), L.w0, he]
  have hK : rdK S.by' S.n (rt : Int) 0 = 1 := by unfold rdK; rw [if_pos hE, L.w0]; omega
  have hN : rdN S.by' S.n (rt : Int) 0 = lf := by unfold rdN; rw [if_pos hE, L.w0]; omega
  have h0 : lfE S.by' S.n (S.root 1) page = 0 := by
    unfold lfE
    rw [L.root, ht, if_neg (by omega), hE, if_neg (by omega), hK, if_neg (by omega), if_pos rfl]
  refine ⟨h0, ?_⟩
  unfold lfN
  rw [if_pos h0, L.root, ht, hN]
theorem LSt.lfE7 (L : LSt S rt lf pg hd cnt) (h : CoreAt w k S fp) {page : Int} (hp : 32 ≤ page ∧ page < 1024) : lfE S.by' S.n (S.root 1) page = 7 ∧ lack S.by' S.n (S.root 1) page = true := by
  have hn := h.n4
  have hl := L.rl
  have ht : 1 ≤ Int.tdiv page 32 ∧ Int.tdiv page 32 ≤ 31 := by rw [Int.tdiv_eq_ediv_of_nonneg (by omega)]; omega
  have hz := L.wz _ ht.1 ht.2
  have hw : wdE S.n (rt : Int) (Int.tdiv page 32) = 0 := wdE_of (by omega) (by omega) (by omega) (by omega)
  have he : enE 0 = 0 := by decide
  have hE : rdE S.by' S.n (rt : Int) (Int.tdiv page 32) = 0 := by unfold rdE; rw [if_neg (by omega), hz, he]
  have hK : rdK S.by' S.n (rt : Int) (Int.tdiv page 32) = 0 := by unfold rdK; rw [if_pos hE, hz]; rfl
  refine ⟨?_, ?_⟩
  · unfold lfE
    rw [L.root, if_neg (by omega), hE, if_neg (by omega), hK, if_pos rfl]
  · unfold lack
    rw [L.root, hw, hz]
    rfl
theorem LSt.get (L : LSt S rt lf pg hd cnt) (h : CoreAt w k S fp) {j : Nat} (hj : j < 32) : gtE S.by' S.n (S.root 1) (j : Int) = 0 ∧ gtK S.by' S.n (S.root 1) (j : Int) = (match pg j with | some _ => 1 | none => 0) ∧ gtN S.by' S.n (S.root 1) (j : Int) = (match pg j with | some f => (f : Int) | none => 0) := by
  have hn := h.n4
  have hl := L.rl
  obtain ⟨h0, h1⟩ := L.lfE0 h (page := j) (by omega)
  have ht : Int.tmod (j : Int) 32 = j := by rw [Int.tmod_eq_emod_of_nonneg (by omega)]; omega
  have hw : wdE S.n (lf : Int) (j : Int) = 0 := wdE_of (by omega) (by omega) (by omega) (by omega)
  have hv := L.wl j hj
  unfold gtE gtK gtN
  rw [h0, h1, ht, if_neg (by omega), if_neg (by omega), if_pos rfl, if_pos rfl]
  cases hpj : pg j with
  | none =>
    rw [hpj] at hv
    have hv : wdF S.by' S.n (lf : Int) (j : Int) = 0 := hv
    have he : enE 0 = 0 := by decide
    have hE : rdE S.by' S.n (lf : Int) (j : Int) = 0 := by unfold rdE; rw [if_neg (by omega), hv, he]
    unfold rdK rdN
    rw [hE, hv]
    exact ⟨rfl, rfl, rfl⟩
  | some f =>
    rw [hpj] at hv
    have hv : wdF S.by' S.n (lf : Int) (j : Int) = 1 + 4 * (f : Int) := hv
    have hf := (L.pgo j f hpj).2.1
    have he : enE (1 + 4 * (f : Int)) = 0 := by unfold enE; rw [if_neg (by omega)]
    have hE : rdE S.by' S.n (lf : Int) (j : Int) = 0 := by unfold rdE; rw [if_neg (by omega), hv, he]
    unfold rdK rdN
    rw [hE, hv, if_pos rfl, if_pos rfl]
    refine ⟨rfl, ?_, ?_⟩
    · show (1 + 4 * (f : Int)) % 4 = 1; omega
    · show (1 + 4 * (f : Int)) / 4 = (f : Int); omega
theorem LSt.get0 (L : LSt S rt lf pg hd cnt) (h : CoreAt w k S fp) {page : Int} (hp : 32 ≤ page ∧ page < 1024) : gtE S.by' S.n (S.root 1) page = 0 ∧ gtK S.by' S.n (S.root 1) page = 0 := by
  obtain ⟨h0, h1⟩ := L.lfE7 h hp
  unfold gtE gtK
  rw [if_pos ⟨h0, h1⟩, if_neg (by omega)]
  exact ⟨rfl, rfl⟩
theorem smS_ok {mk : Nat → Mark} {n f : Nat} {x : Mark} (hf : f < n) (hx : mayM x = true) : smE n (f : Int) x = 0 ∧ smS mk n (f : Int) x = upd mk f x := by
  have : smE n (f : Int) x = 0 := by unfold smE; rw [if_neg (by omega), if_pos hx]
  refine ⟨this, ?_⟩
  unfold smS
  rw [if_pos this, Int.toNat_natCast]
theorem LSt.give {f : Nat} (L : LSt S rt lf pg (some f) cnt) (h : CoreAt w k S fp) {i : Nat} (hi : i < S.nodes) (h1 : fstF S.c i ≤ f) (h2 : (f : Int) < fstF S.c (i + 1)) :
    ((f : Int) - fstF S.c i, (0 : Int)) ∈ tk (S.L i) ∧ ∀ l', GiveR (S.L i) ((f : Int) - fstF S.c i) 0 0 l' → LSt ((S.setL (upd S.L i l')).setMk (smS S.mks S.n f mark0)) rt lf pg none cnt ∧ ((f : Int) - fstF S.c i, (0 : Int)) ∉ tk l' := by
  have hf := h.fst hi
  obtain ⟨hfn, hfr, hfl⟩ := L.hdr f rfl
  obtain ⟨j, y, hj, hy, hyg, he⟩ := L.tk2 f (.inr (.inr (.inr rfl)))
  have hyo := (L.tk1 j hj y hy hyg).1
  have hyt := tile_mem (h.tile hj) hy
  rw [hyo] at hyt
  have hfj := h.fst hj
  unfold gfr at he
  have : j = i := node_uniq h.my (f := (f : Int)) (by unfold Mach.nodes at hj; exact hj) (by unfold Mach.nodes at hi; exact hi) (by omega) (by omega) h1 h2
  subst this
  have hyp : ((y.p : Nat) : Int) = (f : Int) - fstF S.c j := by omega
  refine ⟨List.mem_map.2 ⟨y, List.mem_filter.2 ⟨hy, by simpa using hyg⟩, by rw [hyp, hyo]; rfl⟩, fun l' G => ?_⟩
  rcases G with ⟨_, e, _⟩ | ⟨x, hx, hxg, hxp, hxo, _, hm, hs⟩
  · cases e
  have hxo' : x.o = 0 := by omega
  have hu1 : ∀ g, usedF rt lf pg (some f) g ↔ usedF rt lf pg none g ∨ g = f := fun g => by
    unfold usedF
    constructor
    · rintro (e | e | e | e)
      · exact .inl (.inl e)
      · exact .inl (.inr (.inl e))
      · exact .inl (.inr (.inr (.inl e)))
      · exact .inr (Option.some.inj e).symm
    · rintro ((e | e | e | e) | e)
      · exact .inl e
      · exact .inr (.inl e)
      · exact .inr (.inr (.inl e))
      · cases e
      · exact .inr (.inr (.inr (by rw [e])))
  have hnf : ¬ usedF rt lf pg none f := by
    rintro (e | e | ⟨j, e⟩ | e)
    · exact hfr e
    · exact hfl e
    · exact (L.pgo j f e).2.2.2.2 rfl
    · cases e
  have hgx : gfr S j x = f := by unfold gfr; omega
  have hnl : ∀ z ∈ l', z.g = 1 → gfr S j z ≠ f := fun z hz hzg e => by
    obtain ⟨hz1, hz2⟩ := (hm z hzg).1 hz
    have hzo := (L.tk1 j hj z hz1 hzg).1
    refine hz2 (tile_one (h.tile hj) hz1 hx (f := z.p) (Nat.le_refl _) (by rw [hzo]; omega) ?_ ?_)
    · unfold gfr at e hgx; omega
    · unfold gfr at e hgx; rw [hxo']; omega
  obtain ⟨hsm, hse⟩ := smS_ok (mk := S.mks) (x := mark0) hfn (by decide)
  have hni : ((f : Int) - fstF S.c j, (0 : Int)) ∉ tk l' := fun hh => by
    obtain ⟨z, hz, hze⟩ := List.mem_map.1 hh
    obtain ⟨hz1, hz2⟩ := List.mem_filter.1 hz
    simp only [Prod.mk.injEq] at hze
    exact hnl z hz1 (by simpa using hz2) (by unfold gfr; omega)
  refine ⟨?_, hni⟩
  rw [hse]
  exact { L with
    pgo := fun j' g hj' => by
      obtain ⟨a1, a2, a3, a4, _⟩ := L.pgo j' g hj'
      exact ⟨a1, a2, a3, a4, by simp⟩
    hdr := fun g e => by cases e
    mk1 := by
      show upd S.mks f mark0 rt = tblM ∧ upd S.mks f mark0 lf = tblM
      rw [upd_ne _ _ (Ne.symm hfr), upd_ne _ _ (Ne.symm hfl)]
      exact L.mk1
    mk2 := fun j' g hj' => by
      show upd S.mks f mark0 g = _
      have : g ≠ f := fun e => (L.pgo j' g hj').2.2.2.2 (by rw [e])
      rw [upd_ne _ _ this]
      exact L.mk2 j' g hj'
    mk3 := fun g hg hn => by
      show upd S.mks f mark0 g = mark0
      by_cases e : g = f
      · subst e; rw [upd_same]
      · rw [upd_ne _ _ e]
        exact L.mk3 g hg fun hu => ((hu1 g).1 hu).elim hn e
    tk1 := fun j' hj' z hz hg => by
      by_cases e : j' = j
      · subst e
        have hz : z ∈ upd S.L j' l' j' := hz
        rw [upd_same] at hz
        obtain ⟨hz1, _⟩ := (hm z hg).1 hz
        have := L.tk1 j' hj' z hz1 hg
        exact ⟨this.1, ((hu1 _).1 this.2).resolve_right (hnl z hz hg)⟩
      · have hz : z ∈ upd S.L j l' j' := hz
        rw [upd_ne _ _ e] at hz
        have := L.tk1 j' hj' z hz hg
        refine ⟨this.1, ((hu1 _).1 this.2).resolve_right fun e2 => e ?_⟩
        have hzt := tile_mem (h.tile hj') hz
        have hfj' := h.fst hj'
        have hzo := this.1
        rw [hzo] at hzt
        unfold gfr at e2
        exact node_uniq h.my (f := (f : Int)) (by unfold Mach.nodes at hj'; exact hj') (by unfold Mach.nodes at hj; exact hj) (by omega) (by omega) h1 h2
    tk2 := fun g hu => by
      obtain ⟨j', z, hj', hz, hg, hez⟩ := L.tk2 g ((hu1 g).2 (.inl hu))
      refine ⟨j', z, hj', ?_, hg, hez⟩
      show z ∈ upd S.L j l' j'
      by_cases e : j' = j
      · subst e
        rw [upd_same]
        refine (hm z hg).2 ⟨hz, fun e2 => ?_⟩
        subst e2
        rw [hgx] at hez
        exact hnf (by rw [hez]; exact hu)
      · rw [upd_ne _ _ e]; exact hz
    cf := by
      have h3 := L.cf
      have e : (fun t => fsum (upd S.L j l' t)) = upd (fun t => fsum (S.L t)) j (fsum l') := by
        funext t
        by_cases e : t = j
        · subst e; rw [upd_same, upd_same]
        · rw [upd_ne _ _ e, upd_ne _ _ e]
      have h4 := sumN_upd (n := S.nodes) (f := fun t => fsum (S.L t)) (v := fsum l') hj
      show sumN S.nodes (fun t => fsum (upd S.L j l' t)) + cnt + 2 + 0 = S.n
      rw [e]
      rw [hxo'] at hs
      simp at h3 hs
      omega }
end
theorem filter_upd {pg : Nat → Option Nat} {p f : Nat} : ∀ {n : Nat}, pg p = none → ((List.range n).filter fun j => (upd pg p (some f) j).isSome).length = ((List.range n).filter fun j => (pg j).isSome).length + (if p < n then 1 else 0)
  | 0, _ => by simp
  | n + 1, h => by
    have ih := filter_upd (n := n) (f := f) h
    rw [List.range_succ, List.filter_append, List.filter_append, List.length_append, List.length_append, ih]
    by_cases e : n = p
    · subst e
      simp [upd_same, h]
    · have e2 : (upd pg p (some f) n) = pg n := upd_ne _ _ e
      simp only [List.filter_cons, List.filter_nil, e2]
      have : (if p < n + 1 then 1 else 0) = (if p < n then 1 else 0) := by
        by_cases h1 : p < n
        · rw [if_pos h1, if_pos (by omega)]
        · rw [if_neg h1, if_neg (by omega)]
      rw [this]
      omega
theorem owns_upd {of : Nat → Int × Int} {p : Nat} {v : Int × Int} (hv : v.1 ≠ 0) : ∀ {n : Nat}, (of p).1 = 0 → (owns n (upd of p v)).length = (owns n of).length + (if p < n then 1 else 0)
  | 0, _ => by simp [owns]
  | n + 1, h => by
    have ih := owns_upd hv (n := n) h
    rw [owns_succ, owns_succ, List.length_append, List.length_append, ih]
    by_cases e : n = p
    · subst e
      simp [upd_same, h, hv]
    · have e2 : upd of p v n = of n := upd_ne _ _ e
      rw [e2]
      have : (if p < n + 1 then 1 else 0) = (if p < n then 1 else 0) := by
        by_cases h1 : p < n
        · rw [if_pos h1, if_pos (by omega)]
        · rw [if_neg h1, if_neg (by omega)]
      rw [this]
      omega
section
variable {w : World} {k : Nat} {S : Mach} {fp : Prt → Nat → Prop} {rt lf cnt : Nat} {pg : Nat → Option Nat}
theorem look_app {M : List ((Int × Int) × Value)} {a b : Int × Int} {v : Value} : (M ++ [(a, v)]).lookup b = match M.lookup b with | some x => some x | none => if b = a then some v else none := by
  rw [List.lookup_append]
  cases M.lookup b with
  | some x => rfl
  | none =>
    by_cases h : b = a
    · subst h; simp
    · have : (b == a) = false := by simpa using h
      simp [List.lookup_cons, this, h]
theorem look_appI {M : List (Int × Value)} {a b : Int} {v : Value} : (M ++ [(a, v)]).lookup b = match M.lookup b with | some x => some x | none => if b = a then some v else none := by
  rw [List.lookup_append]
  cases M.lookup b with
  | some x => rfl
  | none =>
    by_cases h : b = a
    · subst h; simp
    · have : (b == a) = false := by simpa using h
      simp [List.lookup_cons, this, h]
theorem LSt.map {f p : Nat} (L : LSt S rt lf pg (some f) cnt) (h : CoreAt w k S fp) {i : Nat} (hi : i < S.nodes) (h1 : fstF S.c i ≤ f) (h2 : (f : Int) < fstF S.c (i + 1)) (hp : p < 32) (hpg : pg p = none) :
    LSt (S.mapped i p f) rt lf (upd pg p (some f)) none (cnt + 1) := by
  have hn := h.n4
  obtain ⟨hrt, hlf, hrl⟩ := L.rl
  obtain ⟨hfn, hfr, hfl⟩ := L.hdr f rfl
  have hnj : ∀ j, pg j ≠ some f := fun j e => (L.pgo j f e).2.2.2.2 rfl
  have hrof : (S.rof f).1 = 0 := by
    by_cases e : (S.rof f).1 = 0
    · exact e
    · obtain ⟨j, hj⟩ := L.rof2 f hfn e
      exact absurd hj (hnj j)
  obtain ⟨hE, hN⟩ := L.lfE0 h (page := p) (by omega)
  have htm : Int.tmod (p : Int) 32 = p := by rw [Int.tmod_eq_emod_of_nonneg (by omega)]; omega
  have hew : ewE 1 (f : Int) = 0 := by unfold ewE; rw [if_neg (by decide), if_pos (.inl rfl), if_pos (by omega)]
  have hewF : ewF 1 (f : Int) = 1 + 4 * (f : Int) := by unfold ewF; rw [if_pos hew]
  have hwl : wdE S.n (lf : Int) (p : Int) = 0 := wdE_of (by omega) (by omega) (by omega) (by omega)
  have hst : stS S.by' S.n (S.root 1) p 1 f = wdS S.by' S.n lf p (1 + 4 * (f : Int)) := by
    have : stE S.by' S.n (S.root 1) p 1 f = 0 := by unfold stE; rw [if_neg (by omega), hE, if_neg (by omega), hN, htm, hwl]
    unfold stS
    rw [if_pos this, hN, htm, hewF]
  have hx : 0 ≤ 1 + 4 * (f : Int) ∧ 1 + 4 * (f : Int) ≤ 18446744073709551615 := by omega
  obtain ⟨hsm, hse⟩ := smS_ok (mk := S.mks) (n := S.n) (x := ⟨4, 0, 1, (p : Int), 0⟩) hfn (by unfold mayM; simp; omega)
  have hinj : ∀ {j j' : Nat} {g : Nat}, upd pg p (some f) j = some g → (j = p ∧ g = f) ∨ (j ≠ p ∧ pg j = some g) := fun {j _ g} e => by
    by_cases e2 : j = p
    · subst e2; rw [upd_same] at e; exact .inl ⟨rfl, (Option.some.inj e).symm⟩
    · rw [upd_ne _ _ e2] at e; exact .inr ⟨e2, e⟩
  have hback : ∀ {j g : Nat}, pg j = some g → upd pg p (some f) j = some g := fun {j g} e => by
    have : j ≠ p := fun e2 => by rw [e2, hpg] at e; cases e
    rw [upd_ne _ _ this]; exact e
  have hu1 : ∀ g, usedF rt lf (upd pg p (some f)) none g ↔ usedF rt lf pg (some f) g := fun g => by
    unfold usedF
    constructor
    · rintro (e | e | ⟨j, e⟩ | e)
      · exact .inl e
      · exact .inr (.inl e)
      · rcases hinj (j' := 0) e with ⟨_, rfl⟩ | ⟨_, e⟩
        · exact .inr (.inr (.inr rfl))
        · exact .inr (.inr (.inl ⟨j, e⟩))
      · cases e
    · rintro (e | e | ⟨j, e⟩ | e)
      · exact .inl e
      · exact .inr (.inl e)
      · exact .inr (.inr (.inl ⟨j, hback e⟩))
      · exact .inr (.inr (.inl ⟨p, by rw [upd_same]; exact e⟩))
  have hnr : (f : Int) ∉ S.ring i := fun e => by
    obtain ⟨j, g, hj, hg, _⟩ := (L.ckm i hi _).1 e
    have : f = g := by omega
    subst this
    exact hnj j hj
  have hcl := L.ck i hi
  have hcn : (S.cof i).lookup (f : Int) = none := by
    cases e : (S.cof i).lookup (f : Int) with
    | none => rfl
    | some v => exact absurd ((hcl.r _).1 (by rw [e]; rfl)) hnr
  have wdk : ∀ {a b : Int}, wdE S.n a b = 0 → wdF (wdS S.by' S.n lf p (1 + 4 * (f : Int))) S.n a b = if a = lf ∧ b = p then 1 + 4 * (f : Int) else wdF S.by' S.n a b := fun hab => wdF_set hx hwl hab
  exact {
    by' := by show ByR (stS S.by' S.n (S.root 1) p 1 f); rw [hst]; exact wdS_r L.by' _ _ _ _
    rl := L.rl
    sp := L.sp
    root := L.root
    w0 := by
      show wdF (stS S.by' S.n (S.root 1) p 1 f) S.n rt 0 = _
      rw [hst, wdk (wdE_of (by omega) (by omega) (by omega) (by omega)), if_neg (by omega)]
      exact L.w0
    wz := fun j hj1 hj2 => by
      show wdF (stS S.by' S.n (S.root 1) p 1 f) S.n rt j = _
      rw [hst, wdk (wdE_of (by omega) (by omega) (by omega) (by omega)), if_neg (by omega)]
      exact L.wz j hj1 hj2
    wl := fun j hj => by
      show wdF (stS S.by' S.n (S.root 1) p 1 f) S.n lf j = _
      rw [hst, wdk (wdE_of (by omega) (by omega) (by omega) (by omega))]
      by_cases e : j = p
      · subst e; rw [if_pos ⟨rfl, rfl⟩, upd_same]
      · rw [if_neg (by omega), upd_ne _ _ e]
        exact L.wl j hj
    pgo := fun j g e => by
      rcases hinj (j' := 0) e with ⟨rfl, rfl⟩ | ⟨_, e⟩
      · exact ⟨hp, hfn, hfr, hfl, by simp⟩
      · obtain ⟨a1, a2, a3, a4, _⟩ := L.pgo j g e
        exact ⟨a1, a2, a3, a4, by simp⟩
    inj := fun j j' g e e' => by
      rcases hinj (j' := 0) e with ⟨rfl, rfl⟩ | ⟨_, _⟩
      · rcases hinj (j' := 0) e' with ⟨rfl, _⟩ | ⟨_, e'⟩
        · rfl
        · exact absurd e' (hnj j')
      · rename_i e1
        rcases hinj (j' := 0) e' with ⟨_, h8⟩ | ⟨_, e2⟩
        · exact absurd (h8 ▸ e1 : pg j = some f) (hnj j)
        · exact L.inj j j' g e1 e2
    hdr := fun g e => by cases e
    rof1 := fun j g e => by
      show upd S.rof f (1, (p : Int)) g = _
      rcases hinj (j' := 0) e with ⟨rfl, rfl⟩ | ⟨_, e⟩
      · rw [upd_same]
      · rw [upd_ne _ _ (show g ≠ f from fun e2 => hnj j (by rw [← e2]; exact e))]
        exact L.rof1 j g e
    rof2 := fun g hg e => by
      have e : (upd S.rof f (1, (p : Int)) g).1 ≠ 0 := e
      by_cases e2 : g = f
      · exact ⟨p, by rw [upd_same, e2]⟩
      · rw [upd_ne _ _ e2] at e
        obtain ⟨j, hj⟩ := L.rof2 g hg e
        exact ⟨j, hback hj⟩
    rat1 := fun kk v e => by
      have e : (S.rat ++ [((1, (p : Int)), vi f)]).lookup kk = some v := e
      rw [look_app] at e
      cases hl : S.rat.lookup kk with
      | some x =>
        rw [hl] at e
        cases e
        obtain ⟨j, g, h3, h4, h5⟩ := L.rat1 _ _ hl
        exact ⟨j, g, h3, hback h4, h5⟩
      | none =>
        rw [hl] at e
        simp only at e
        split at e
        · rename_i e2
          cases e
          exact ⟨p, f, e2, upd_same _ _ _, rfl⟩
        · cases e
    rat2 := fun j g e => by
      show ((S.rat ++ [((1, (p : Int)), vi f)]).lookup (1, (j : Int))).isSome = true
      rw [look_app]
      cases hl : S.rat.lookup (1, (j : Int)) with
      | some x => rfl
      | none =>
        rcases hinj (j' := 0) e with ⟨rfl, rfl⟩ | ⟨_, e⟩
        · simp
        · have := L.rat2 j g e
          rw [hl] at this
          cases this
    ck := fun t ht => by
      show ClOk (upd S.ring i _ t) (upd S.cof i _ t)
      by_cases e : t = i
      · subst e
        rw [upd_same, upd_same]
        refine ⟨fun kk v e => ?_, fun kk => ?_, ?_⟩
        · rw [look_appI] at e
          cases hl : (S.cof t).lookup kk with
          | some x => rw [hl] at e; cases e; exact hcl.v _ _ hl
          | none =>
            rw [hl] at e
            simp only at e
            split at e
            · cases e; exact ⟨true, true, rfl⟩
            · cases e
        · rw [look_appI, List.mem_append, List.mem_singleton, ← hcl.r kk]
          cases hl : (S.cof t).lookup kk with
          | some x => simp
          | none =>
            by_cases e : kk = (f : Int) <;> simp [e]
        · rw [List.nodup_append]
          refine ⟨hcl.nd, by simp, fun a ha b hb e => ?_⟩
          simp at hb
          subst hb
          exact hnr (e ▸ ha)
      · rw [upd_ne _ _ e, upd_ne _ _ e]
        exact L.ck t ht
    ckm := fun t ht x => by
      show x ∈ upd S.ring i _ t ↔ _
      by_cases e : t = i
      · subst e
        rw [upd_same, List.mem_append, List.mem_singleton, L.ckm t ht x]
        constructor
        · rintro (⟨j, g, a1, a2, a3⟩ | rfl)
          · exact ⟨j, g, hback a1, a2, a3⟩
          · exact ⟨p, f, upd_same _ _ _, rfl, h1, h2⟩
        · rintro ⟨j, g, a1, a2, a3⟩
          rcases hinj (j' := 0) a1 with ⟨_, rfl⟩ | ⟨_, a1⟩
          · exact .inr a2
          · exact .inl ⟨j, g, a1, a2, a3⟩
      · rw [upd_ne _ _ e, L.ckm t ht x]
        constructor
        · rintro ⟨j, g, a1, a2, a3⟩
          exact ⟨j, g, hback a1, a2, a3⟩
        · rintro ⟨j, g, a1, a2, a3, a4⟩
          rcases hinj (j' := 0) a1 with ⟨_, rfl⟩ | ⟨_, a1⟩
          · exact absurd (node_uniq h.my (f := (g : Int)) (by unfold Mach.nodes at ht; exact ht) (by unfold Mach.nodes at hi; exact hi) a3 a4 h1 h2) e
          · exact ⟨j, g, a1, a2, a3, a4⟩
    mk1 := by
      show smS S.mks S.n f _ rt = tblM ∧ smS S.mks S.n f _ lf = tblM
      rw [hse, upd_ne _ _ (Ne.symm hfr), upd_ne _ _ (Ne.symm hfl)]
      exact L.mk1
    mk2 := fun j g e => by
      show smS S.mks S.n f _ g = _
      rw [hse]
      rcases hinj (j' := 0) e with ⟨rfl, rfl⟩ | ⟨_, e⟩
      · rw [upd_same]; rfl
      · rw [upd_ne _ _ (show g ≠ f from fun e2 => hnj j (by rw [← e2]; exact e))]
        exact L.mk2 j g e
    mk3 := fun g hg hn => by
      show smS S.mks S.n f _ g = mark0
      rw [hse, upd_ne _ _ fun e2 => hn ((hu1 g).2 (.inr (.inr (.inr (by rw [e2])))))]
      exact L.mk3 g hg fun hu => hn ((hu1 g).2 hu)
    tk1 := fun t ht y hy hg => by
      have := L.tk1 t ht y hy hg
      exact ⟨this.1, (hu1 _).2 this.2⟩
    tk2 := fun g hu => L.tk2 g ((hu1 g).1 hu)
    cp := by rw [filter_upd hpg, if_pos hp, L.cp]
    cr := by
      show (owns S.n (upd S.rof f (1, (p : Int)))).length = _
      rw [owns_upd (by simp) hrof, if_pos hfn, L.cr]
    cc := by
      have e : (fun t => (upd S.ring i (S.ring i ++ [(f : Int)]) t).length) = upd (fun t => (S.ring t).length) i ((S.ring i).length + 1) := by
        funext t
        by_cases e : t = i
        · subst e; rw [upd_same, upd_same, List.length_append]; rfl
        · rw [upd_ne _ _ e, upd_ne _ _ e]
      have h4 := sumN_upd (n := S.nodes) (f := fun t => (S.ring t).length) (v := (S.ring i).length + 1) hi
      have h5 := L.cc
      show sumN S.nodes (fun t => (upd S.ring i (S.ring i ++ [(f : Int)]) t).length) = cnt + 1
      rw [e]
      omega
    cf := by
      have h3 := L.cf
      show sumN S.nodes (fun t => fsum (S.L t)) + (cnt + 1) + 2 + 0 = S.n
      simp at h3
      omega
    held := L.held
    fli := L.fli
    lh := L.lh }
end
section
variable {w : World} {k : Nat} {S : Mach} {fp : Prt → Nat → Prop} {rt lf cnt : Nat} {pg : Nat → Option Nat}
theorem take_law (h : CoreAt w k S fp) (L : LSt S rt lf pg none cnt) {base : Nat} {a : Option Addr} {l c : Nat} {xs : List Int} (R : RowI w base a l c xs) (hl : xs.length ≤ 8) :
    Calls Tryz.prog 23 #[ptr S.pz, .slice a l c, vi 0, .bool true] w fun e w' => (∃ er : Int, er ≠ 0 ∧ e = .returned (.tuple #[vi 0, vi er]) ∧ Step w w' k S fp) ∨
      ∃ (f i : Nat) (S' : Mach), e = .returned (.tuple #[vi f, vi 0]) ∧ Step w w' k S' fp ∧ S'.c = S.c ∧ S'.pz = S.pz ∧ i < S'.nodes ∧ fstF S'.c i ≤ f ∧ (f : Int) < fstF S'.c (i + 1) ∧ LSt S' rt lf pg (some f) cnt := by
  obtain ⟨Z, hc, hk⟩ := h.zn
  have hlen := R.1
  have hnf : ∀ i, i < l → rd w (pb a) (po a + i) = some (vi (xs.getD i 0)) := fun i hi => by
    have hx : xs[i]? = some (xs.getD i 0) := by rw [List.getD_eq_getElem?_getD, List.getElem?_eq_getElem (by omega)]; rfl
    have := (R.rd hx).2
    rw [Int.toNat_natCast, Nat.mul_one] at this
    exact this
  refine (ztake_spec Z (nf := fun i => xs.getD i 0) (by omega) (fun h0 => (R.rd (i := 0) (x := xs.getD 0 0) (by rw [List.getD_eq_getElem?_getD, List.getElem?_eq_getElem (by omega)]; rfl)).1) hnf 0 true).mono ?_
  rintro e w' ⟨v, rfl, ⟨_, rfl, hw⟩ | ⟨_, _, _, rfl, hw⟩ | ⟨_, _, j, i, hj, hij, hi, _, _, a', l', rfl, kk, Z', T⟩⟩
  · exact .inl ⟨2, by decide, rfl, h.step0 (hw ▸ Kept.refl _ _)⟩
  · exact .inl ⟨6, by decide, rfl, h.step0 (hw ▸ Kept.refl _ _)⟩
  · have hi' : i < S.nodes := by omega
    obtain ⟨f, e1, g1, g2, _, _, L'⟩ := L.take h hi' T
    refine .inr ⟨f, i, S.setL (upd S.L i l'), ?_, core_zstep h hi kk Z', rfl, rfl, hi', g1, g2, L'⟩
    rw [hc, e1]
theorem map_law (h : CoreAt w k S fp) {f i : Nat} (L : LSt S rt lf pg (some f) cnt) (hi : i < S.nodes) (h1 : fstF S.c i ≤ f) (h2 : (f : Int) < fstF S.c (i + 1)) (page : Int) :
    Calls Tryz.prog 25 #[ptr k, vi 1, vi page, vi f] w fun e w' => (∃ er : Int, er ≠ 0 ∧ e = .returned (vi er) ∧ (¬ ∃ p : Nat, page = p ∧ p < 32 ∧ pg p = none) ∧ Step w w' k S fp) ∨
      ∃ (p : Nat) (S' : Mach), page = p ∧ p < 32 ∧ pg p = none ∧ e = .returned (vi 0) ∧ S'.c = S.c ∧ S'.pz = S.pz ∧ Step w w' k S' fp ∧ LSt S' rt lf (upd pg p (some f)) none (cnt + 1) := by
  obtain ⟨hfn, hfr, hfl⟩ := L.hdr f rfl
  obtain ⟨b, hb⟩ := L.sp
  have hnj : ∀ j, pg j ≠ some f := fun j e => (L.pgo j f e).2.2.2.2 rfl
  have hrof : (S.rof f).1 = 0 := by
    by_cases e : (S.rof f).1 = 0
    · exact e
    · obtain ⟨j, hj⟩ := L.rof2 f hfn e
      exact absurd hj (hnj j)
  have hle : ∀ {t : Nat}, t ≤ S.nodes → sumN t (fun i => (S.ring i).length) ≤ sumN S.nodes fun i => (S.ring i).length := fun {t} ht => by
    have : ∀ d, sumN t (fun i => (S.ring i).length) ≤ sumN (t + d) fun i => (S.ring i).length := fun d => by
      induction d with
      | zero => exact Nat.le_refl _
      | succ d ih => rw [show t + (d + 1) = (t + d) + 1 by omega, sumN_succ]; omega
    have := this (S.nodes - t)
    rw [show t + (S.nodes - t) = S.nodes by omega] at this
    exact this
  have hrl : (S.ring i).length ≤ 100000 := by
    have h3 := sumN_succ i fun i => (S.ring i).length
    have h4 := hle (t := i + 1) (by omega)
    have h5 := L.cc
    have h6 : cnt ≤ 32 := by
      rw [← L.cp]
      exact Nat.le_trans (List.length_filter_le _ _) (by simp)
    omega
  refine (map_spec h (b := b) (by rw [hb]; rfl) L.by' (fun kk v e => by obtain ⟨j, g, _, _, rfl⟩ := L.rat1 kk v e; exact ⟨_, rfl⟩) hfn hi h1 h2 (L.ck i hi) (fun _ hm => by
    obtain ⟨j, g, hj, hg, _⟩ := (L.ckm i hi _).1 hm
    have : f = g := by omega
    subst this
    exact hnj j hj) hrl page).mono ?_
  rintro e w' (⟨g1, rfl, T⟩ | ⟨g1, g2, rfl, T⟩ | ⟨g1, g2, g3, rfl, T⟩ | ⟨g1, g2, g3, g4, rfl, T⟩ | ⟨g1, g2, g3, g4, rfl, T⟩)
  · exact .inl ⟨2, by decide, rfl, (fun ⟨p, e, hp, _⟩ => by omega), T⟩
  · refine .inl ⟨7, by decide, rfl, (fun ⟨p, e, hp, _⟩ => ?_), T⟩
    exact g2 (L.lfE0 h (page := page) (by omega)).1
  · exact absurd hrof g3
  · refine .inl ⟨8, by decide, rfl, (fun ⟨p, e, hp, hn⟩ => ?_), T⟩
    obtain ⟨v, hv⟩ := Option.isSome_iff_exists.1 g4
    obtain ⟨j, g, hkk, hj, _⟩ := L.rat1 _ _ hv
    have : page = (j : Int) := congrArg Prod.snd hkk
    have : j = p := by omega
    subst this
    rw [hn] at hj
    cases hj
  · have hp32 : page < 32 := by
      rcases Int.lt_or_le page 32 with h3 | h3
      · exact h3
      · have := (L.lfE7 h (page := page) (by omega)).1
        omega
    obtain ⟨p, rfl⟩ : ∃ p : Nat, page = p := ⟨page.toNat, by omega⟩
    have hpn : pg p = none := by
      cases e : pg p with
      | none => rfl
      | some g =>
        have := L.rat2 p g e
        rw [g4] at this
        cases this
    exact .inr ⟨p, S.mapped i (p : Int) f, rfl, by omega, hpn, rfl, rfl, rfl, T, L.map h hi h1 h2 (by omega) hpn⟩
theorem release_law (h : CoreAt w k S fp) {f i : Nat} (L : LSt S rt lf pg (some f) cnt) (hi : i < S.nodes) (h1 : fstF S.c i ≤ f) (h2 : (f : Int) < fstF S.c (i + 1)) :
    Calls Tryz.prog 26 #[ptr k, vi f] w fun e w' => ∃ S' : Mach, e = .returned (vi 0) ∧ S'.c = S.c ∧ S'.pz = S.pz ∧ Step w w' k S' fp ∧ LSt S' rt lf pg none cnt ∧ ((f : Int) - fstF S.c i, (0 : Int)) ∉ tk (S'.L i) := by
  have hf := h.fst hi
  have hn := h.n4
  obtain ⟨hm, hg⟩ := L.give h hi h1 h2
  refine (release_spec h (fr := f) (by omega)).mono ?_
  rintro e w' (⟨j, l', hj, q1, q2, rfl, G, T⟩ | ⟨j, hj, q1, q2, rfl, hno, _⟩ | ⟨q1, _⟩)
  · have : j = i := node_uniq h.my (f := (f : Int)) hj hi q1 q2 h1 h2
    subst this
    obtain ⟨L', hno⟩ := hg l' G
    exact ⟨(S.setL (upd S.L j l')).setMk (smS S.mks S.n f mark0), rfl, rfl, rfl, T, L', by show _ ∉ tk (upd S.L j l' j); rw [upd_same]; exact hno⟩
  · have : j = i := node_uniq h.my (f := (f : Int)) hj hi q1 q2 h1 h2
    subst this
    exact absurd hm hno
  · have := fst_le h.my (i := i + 1) (j := S.nodes) (by omega) (Nat.le_refl _)
    omega
end
theorem filter_del {pg : Nat → Option Nat} {p f : Nat} (hp : pg p = some f) : ∀ {n : Nat}, ((List.range n).filter fun j => (upd pg p none j).isSome).length + (if p < n then 1 else 0) = ((List.range n).filter fun j => (pg j).isSome).length
  | 0 => by simp
  | n + 1 => by
    have ih := filter_del hp (n := n)
    rw [List.range_succ, List.filter_append, List.filter_append, List.length_append, List.length_append]
    by_cases e : n = p
    · subst e
      simp [upd_same, hp] at ih ⊢
      omega
    · have e2 : (upd pg p none n) = pg n := upd_ne _ _ e
      simp only [List.filter_cons, List.filter_nil, e2]
      have : (if p < n + 1 then 1 else 0) = (if p < n then 1 else 0) := by
        by_cases h1 : p < n
        · rw [if_pos h1, if_pos (by omega)]
        · rw [if_neg h1, if_neg (by omega)]
      rw [this]
      omega
theorem owns_del {of : Nat → Int × Int} {p : Nat} : ∀ {n : Nat}, (of p).1 ≠ 0 → (owns n (upd of p (0, 0))).length + (if p < n then 1 else 0) = (owns n of).length
  | 0, h => by simp [owns]
  | n + 1, h => by
    have ih := owns_del (n := n) h
    rw [owns_succ, owns_succ, List.length_append, List.length_append]
    by_cases e : n = p
    · subst e
      simp [upd_same, h] at ih ⊢
      omega
    · have e2 : upd of p (0, 0) n = of n := upd_ne _ _ e
      rw [e2]
      have : (if p < n + 1 then 1 else 0) = (if p < n then 1 else 0) := by
        by_cases h1 : p < n
        · rw [if_pos h1, if_pos (by omega)]
        · rw [if_neg h1, if_neg (by omega)]
      rw [this]
      omega
theorem del_mem {xs : List Int} {j : Nat} {v x : Int} (nd : xs.Nodup) (h : xs[j]? = some v) : x ∈ del xs j ↔ x ∈ xs ∧ x ≠ v := by
  have hj := (List.getElem?_eq_some_iff.1 h).1
  have e : xs = xs.take j ++ v :: xs.drop (j + 1) := by
    conv => lhs; rw [← List.take_append_drop j xs]
    rw [List.drop_eq_getElem_cons hj, (List.getElem?_eq_some_iff.1 h).2]
  have nd2 := nd
  rw [e, List.nodup_append] at nd2
  obtain ⟨_, n2, n3⟩ := nd2
  have n4 := (List.nodup_cons.1 n2).1
  have hv : v ∉ xs.take j := fun hh => n3 v hh v (List.mem_cons_self) rfl
  unfold del
  rw [List.mem_append]
  constructor
  · rintro (hx | hx)
    · exact ⟨List.mem_of_mem_take hx, fun e => hv (e ▸ hx)⟩
    · exact ⟨List.mem_of_mem_drop hx, fun e => n4 (e ▸ hx)⟩
  · rintro ⟨hx, hne⟩
    rw [e, List.mem_append, List.mem_cons] at hx
    rcases hx with hx | rfl | hx
    · exact .inl hx
    · exact absurd rfl hne
    · exact .inr hx
theorem del_nd {xs : List Int} {j : Nat} (nd : xs.Nodup) : (del xs j).Nodup := by
  have : (del xs j).Sublist xs := by
    unfold del
    conv => rhs; rw [← List.take_append_drop j xs]
    exact (List.Sublist.refl _).append (List.drop_sublist_drop_left xs (by omega))
  exact nd.sublist this
theorem look_filter {M : List (Int × Value)} {k b : Int} : (M.filter fun p => p.1 != k).lookup b = if b = k then none else M.lookup b := by
  induction M with
  | nil => simp
  | cons p M ih =>
    obtain ⟨a, v⟩ := p
    by_cases h : a = k
    · subst h
      have e : ((a, v) :: M).filter (fun p => p.1 != a) = M.filter fun p => p.1 != a := by simp
      rw [e, ih]
      by_cases hb : b = a
      · rw [if_pos hb, if_pos hb]
      · rw [if_neg hb, if_neg hb, List.lookup_cons]
        have : (b == a) = false := by simpa using hb
        rw [this]
    · have e : ((a, v) :: M).filter (fun p => p.1 != k) = (a, v) :: M.filter fun p => p.1 != k := by simp [h]
      rw [e, List.lookup_cons, List.lookup_cons, ih]
      by_cases hb : b = a
      · subst hb
        simp [h]
      · have : (b == a) = false := by simpa using hb
        rw [this]
theorem look_filterG {M : List ((Int × Int) × Value)} {k b : Int × Int} : (M.filter fun p => p.1 != k).lookup b = if b = k then none else M.lookup b := by
  induction M with
  | nil => simp
  | cons p M ih =>
    obtain ⟨a, v⟩ := p
    by_cases h : a = k
    · subst h
      have e : ((a, v) :: M).filter (fun p => p.1 != a) = M.filter fun p => p.1 != a := by simp
      rw [e, ih]
      by_cases hb : b = a
      · rw [if_pos hb, if_pos hb]
      · rw [if_neg hb, if_neg hb, List.lookup_cons]
        have : (b == a) = false := by simpa using hb
        rw [this]
    · have e : ((a, v) :: M).filter (fun p => p.1 != k) = (a, v) :: M.filter fun p => p.1 != k := by simp [h]
      rw [e, List.lookup_cons, List.lookup_cons, ih]
      by_cases hb : b = a
      · subst hb
        simp [h]
      · have : (b == a) = false := by simpa using hb
        rw [this]
end Go.Proofs.YtklmokolnakkoaaGreatDoor
