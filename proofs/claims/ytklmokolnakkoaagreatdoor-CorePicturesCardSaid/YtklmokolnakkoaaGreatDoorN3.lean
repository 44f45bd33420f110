/-
  A part of a proof that a law of this seat returns true at every input. Conditions: those in each theorem.
-/
import Derived.Test.YtklmokolnakkoaaGreatDoorM9
set_option linter.unusedSimpArgs false
set_option linter.unusedVariables false
set_option maxRecDepth 100000
namespace Go.Proofs.YtklmokolnakkoaaGreatDoor
open Go Go.Eng
theorem tile_one {l : List Bk} {a b : Nat} (h : Tile a l b) {x y : Bk} (hx : x ∈ l) (hy : y ∈ l) {f : Nat} (h1 : x.p ≤ f) (h2 : f < x.p + 2 ^ x.o) (h3 : y.p ≤ f) (h4 : f < y.p + 2 ^ y.o) : x = y := by
  induction l generalizing a with
  | nil => cases hx
  | cons z l ih =>
    have ht := h.2.2.2
    rcases List.mem_cons.1 hx with e1 | hx'
    · rcases List.mem_cons.1 hy with e2 | hy'
      · rw [e1, e2]
      · have := (tile_mem ht hy').1
        have := h.1
        subst e1
        omega
    · rcases List.mem_cons.1 hy with e2 | hy'
      · have := (tile_mem ht hx').1
        have := h.1
        subst e2
        omega
      · exact ih ht hx' hy'
theorem fsum_free {l : List Bk} (h : 0 < fsum l) : ∃ x ∈ l, x.g = 0 := by
  induction l with
  | nil => exact absurd h (Nat.lt_irrefl _)
  | cons x l ih =>
    by_cases hx : x.g = 0
    · exact ⟨x, List.mem_cons_self, hx⟩
    · rw [fsum_cons, if_neg hx, Nat.zero_add] at h
      obtain ⟨y, hy, hg⟩ := ih h
      exact ⟨y, List.mem_cons_of_mem _ hy, hg⟩
theorem takeR_one {l l' : List Bk} {high : Bool} {a : Int} {n : Nat} (hT : Tile 0 l n) (h : TakeR l 0 high a 0 l') : ∃ r : Nat, a = r ∧ r < n ∧ (∃ x ∈ l, x.g = 0 ∧ x.p ≤ r ∧ r < x.p + 2 ^ x.o) ∧ (∀ y : Bk, y.g = 1 → (y ∈ l' ↔ y ∈ l ∨ y = ⟨r, 0, 1⟩)) ∧ fsum l' + 1 = fsum l := by
  rcases h with ⟨_, _, h, _⟩ | ⟨_, _, _, _, _, h, _⟩ | ⟨o, x, r, h0, h1, hx, hg, _, _, ha, hr, _, hm, hf⟩
  · cases h
  · cases h
  · have : o = 0 := by omega
    subst this
    have hp := tile_mem hT hx
    have h2 : x.p ≤ r ∧ r < x.p + 2 ^ x.o := by
      have := p2 x.o
      split at hr <;> omega
    exact ⟨r, ha, by omega, ⟨x, hx, hg, h2⟩, hm, by simpa using hf⟩
def tblM : Mark := ⟨3, 0, 0, 0, 0⟩
def pageM (j : Nat) : Mark := ⟨4, 0, 1, j, 0⟩
def gfr (S : Mach) (i : Nat) (y : Bk) : Nat := (fstF S.c i).toNat + y.p
def usedF (rt lf : Nat) (pg : Nat → Option Nat) (hd : Option Nat) (f : Nat) : Prop := f = rt ∨ f = lf ∨ (∃ j, pg j = some f) ∨ hd = some f
def sumN (n : Nat) (f : Nat → Nat) : Nat := ((List.range n).map f).sum
theorem sumN_succ (n : Nat) (f : Nat → Nat) : sumN (n + 1) f = sumN n f + f n := by unfold sumN; rw [List.range_succ, List.map_append, List.sum_append]; simp
theorem sumN_ext {n : Nat} {f g : Nat → Nat} (h : ∀ i, i < n → f i = g i) : sumN n f = sumN n g := by
  induction n with
  | zero => rfl
  | succ n ih => rw [sumN_succ, sumN_succ, ih fun i hi => h i (by omega), h n (by omega)]
theorem sumN_upd {n : Nat} {f : Nat → Nat} {i v : Nat} (hi : i < n) : sumN n (upd f i v) + f i = sumN n f + v := by
  induction n with
  | zero => omega
  | succ n ih =>
    rw [sumN_succ, sumN_succ]
    by_cases h : i = n
    · subst h
      rw [upd_same, sumN_ext (g := f) fun j hj => upd_ne _ _ (by omega)]
      omega
    · rw [upd_ne _ _ (Ne.symm h)]
      have := ih (by omega)
      omega
structure LSt (S : Mach) (rt lf : Nat) (pg : Nat → Option Nat) (hd : Option Nat) (cnt : Nat) : Prop where
  by' : ByR S.by'
  rl : rt < S.n ∧ lf < S.n ∧ rt ≠ lf
  sp : ∃ b, S.sp = fun i => if i = 1 then some b else none
  root : S.root 1 = rt
  w0 : wdF S.by' S.n rt 0 = 1 + 4 * (lf : Int)
  wz : ∀ j : Int, 1 ≤ j → j ≤ 31 → wdF S.by' S.n rt j = 0
  wl : ∀ j : Nat, j < 32 → wdF S.by' S.n lf j = match pg j with | some f => 1 + 4 * (f : Int) | none => 0
  pgo : ∀ j f, pg j = some f → j < 32 ∧ f < S.n ∧ f ≠ rt ∧ f ≠ lf ∧ hd ≠ some f
  inj : ∀ j j' f, pg j = some f → pg j' = some f → j = j'
  hdr : ∀ f, hd = some f → f < S.n ∧ f ≠ rt ∧ f ≠ lf
  rof1 : ∀ j f, pg j = some f → S.rof f = (1, (j : Int))
  rof2 : ∀ f, f < S.n → (S.rof f).1 ≠ 0 → ∃ j, pg j = some f
  rat1 : ∀ kk v, S.rat.lookup kk = some v → ∃ j f, kk = (1, ((j : Nat) : Int)) ∧ pg j = some f ∧ v = vi f
  rat2 : ∀ j f, pg j = some f → (S.rat.lookup (1, (j : Int))).isSome = true
  ck : ∀ i, i < S.nodes → ClOk (S.ring i) (S.cof i)
  ckm : ∀ i, i < S.nodes → ∀ x : Int, x ∈ S.ring i ↔ ∃ j f, pg j = some f ∧ x = (f : Nat) ∧ fstF S.c i ≤ f ∧ (f : Int) < fstF S.c (i + 1)
  mk1 : S.mks rt = tblM ∧ S.mks lf = tblM
  mk2 : ∀ j f, pg j = some f → S.mks f = pageM j
  mk3 : ∀ f, f < S.n → ¬ usedF rt lf pg hd f → S.mks f = mark0
  tk1 : ∀ i, i < S.nodes → ∀ y ∈ S.L i, y.g = 1 → y.o = 0 ∧ usedF rt lf pg hd (gfr S i y)
  tk2 : ∀ f, usedF rt lf pg hd f → ∃ i y, i < S.nodes ∧ y ∈ S.L i ∧ y.g = 1 ∧ gfr S i y = f
  cp : ((List.range 32).filter fun j => (pg j).isSome).length = cnt
  cr : (owns S.n S.rof).length = cnt
  cc : sumN S.nodes (fun i => (S.ring i).length) = cnt
  cf : sumN S.nodes (fun i => fsum (S.L i)) + cnt + 2 + (if hd.isSome then 1 else 0) = S.n
  held : S.held = fun _ => []
  fli : S.fli = List.replicate S.cpus (-1)
  lh : S.lh = fun _ => 0
section
variable {w : World} {k : Nat} {S : Mach} {fp : Prt → Nat → Prop} {rt lf cnt : Nat} {pg : Nat → Option Nat}
theorem CoreAt.tile (h : CoreAt w k S fp) {i : Nat} (hi : i < S.nodes) : Tile 0 (S.L i) (S.c (18 + i)).toNat := by
  obtain ⟨Z, hc, hk⟩ := h.zn
  have := (Z.iv i (by omega)).tl
  unfold Zs.n at this
  rw [hc] at this
  exact this
theorem CoreAt.fst (h : CoreAt w k S fp) {i : Nat} (hi : i < S.nodes) : 0 ≤ fstF S.c i ∧ fstF S.c (i + 1) = fstF S.c i + S.c (18 + i) ∧ 4 ≤ S.c (18 + i) ∧ S.c (18 + i) ≤ 128 ∧ fstF S.c (i + 1) ≤ S.n := by
  have hn := h.n4
  have hs := h.sizes.1.2.2
  have h1 := fst_le h.my (i := 0) (j := i) (by omega) (by unfold Mach.nodes at hi; omega)
  have h2 := fst_le h.my (i := i + 1) (j := (S.c 0).toNat) (by unfold Mach.nodes at hi; omega) (Nat.le_refl _)
  have h3 := (h.my.2.2.2.2.2.1 i (by unfold Mach.nodes at hi; omega)).1
  exact ⟨h1, rfl, h3.1, h3.2, by omega⟩
theorem LSt.take (L : LSt S rt lf pg none cnt) (h : CoreAt w k S fp) {i : Nat} (hi : i < S.nodes) {high : Bool} {a : Int} {l' : List Bk} (T : TakeR (S.L i) 0 high a 0 l') : ∃ f : Nat, fstF S.c i + a = f ∧ fstF S.c i ≤ f ∧ (f : Int) < fstF S.c (i + 1) ∧ f < S.n ∧ ¬ usedF rt lf pg none f ∧ LSt (S.setL (upd S.L i l')) rt lf pg (some f) cnt := by
  have ht := h.tile hi
  have hf := h.fst hi
  obtain ⟨r, rfl, hr, ⟨x, hx, hxg, hx1, hx2⟩, hm, hs⟩ := takeR_one ht T
  have hfe : fstF S.c i + (r : Int) = (((fstF S.c i).toNat + r : Nat) : Int) := by omega
  have hnu : ¬ usedF rt lf pg none ((fstF S.c i).toNat + r) := fun hu => by
    obtain ⟨j, y, hj, hy, hyg, he⟩ := L.tk2 _ hu
    unfold gfr at he
    have hfj := h.fst hj
    have hyt := tile_mem (h.tile hj) hy
    have hyo := (L.tk1 j hj y hy hyg).1
    rw [hyo] at hyt
    have : j = i := node_uniq h.my (f := (((fstF S.c i).toNat + r : Nat) : Int)) (by unfold Mach.nodes at hj; exact hj) (by unfold Mach.nodes at hi; exact hi) (by omega) (by omega) (by omega) (by omega)
    subst this
    have : x = y := tile_one ht hx hy (f := r) hx1 hx2 (by omega) (by rw [hyo]; omega)
    subst this
    omega
  have hu1 : ∀ f, usedF rt lf pg (some ((fstF S.c i).toNat + r)) f ↔ usedF rt lf pg none f ∨ f = (fstF S.c i).toNat + r := fun f => by
    unfold usedF
    constructor
    · rintro (e | e | e | e)
      · exact .inl (.inl e)
      · exact .inl (.inr (.inl e))
      · exact .inl (.inr (.inr (.inl e)))
      · exact .inr (Option.some.inj e).symm
    · rintro ((e | e | e | e) | e)
      · exact .inl e
      · exact .inr (.inl e)
      · exact .inr (.inr (.inl e))
      · cases e
      · exact .inr (.inr (.inr (by rw [e])))
  refine ⟨_, hfe, by omega, by omega, by omega, hnu, ?_⟩
  exact { L with
    pgo := fun j f hj => by
      obtain ⟨a1, a2, a3, a4, _⟩ := L.pgo j f hj
      refine ⟨a1, a2, a3, a4, fun e => hnu (.inr (.inr (.inl ⟨j, ?_⟩)))⟩
      rw [Option.some.inj e]; exact hj
    hdr := fun f e => by
      have : (fstF S.c i).toNat + r = f := Option.some.inj e
      subst this
      exact ⟨show _ < S.n by omega, fun e => hnu (.inl e), fun e => hnu (.inr (.inl e))⟩
    mk3 := fun f hf hn => L.mk3 f hf fun hu => hn ((hu1 f).2 (.inl hu))
    tk1 := fun j hj y hy hg => by
      by_cases e : j = i
      · subst e
        have hy : y ∈ upd S.L j l' j := hy
        rw [upd_same] at hy
        rcases (hm y hg).1 hy with hy | rfl
        · have := L.tk1 j hj y hy hg
          exact ⟨this.1, (hu1 _).2 (.inl this.2)⟩
        · exact ⟨rfl, (hu1 _).2 (.inr rfl)⟩
      · have hy : y ∈ upd S.L i l' j := hy
        rw [upd_ne _ _ e] at hy
        have := L.tk1 j hj y hy hg
        exact ⟨this.1, (hu1 _).2 (.inl this.2)⟩
    tk2 := fun f hu => by
      rcases (hu1 f).1 hu with hu | rfl
      · obtain ⟨j, y, hj, hy, hg, he⟩ := L.tk2 f hu
        refine ⟨j, y, hj, ?_, hg, he⟩
        show y ∈ upd S.L i l' j
        by_cases e : j = i
        · subst e
          rw [upd_same]
          exact (hm y hg).2 (.inl hy)
        · rw [upd_ne _ _ e]; exact hy
      · refine ⟨i, ⟨r, 0, 1⟩, hi, ?_, rfl, rfl⟩
        show _ ∈ upd S.L i l' i
        rw [upd_same]
        exact (hm _ rfl).2 (.inr rfl)
    cf := by
      have h1 := L.cf
      have e : (fun j => fsum (upd S.L i l' j)) = upd (fun j => fsum (S.L j)) i (fsum l') := by
        funext j
        by_cases e : j = i
        · subst e; rw [upd_same, upd_same]
        · rw [upd_ne _ _ e, upd_ne _ _ e]
      have h2 := sumN_upd (n := S.nodes) (f := fun j => fsum (S.L j)) (v := fsum l') hi
      show sumN S.nodes (fun j => fsum (upd S.L i l' j)) + cnt + 2 + 1 = S.n
      rw [e]
      simp at h1
      omega }
end
section
variable {w : World} {k : Nat} {S : Mach} {fp : Prt → Nat → Prop} {rt lf cnt : Nat} {pg : Nat → Option Nat} {hd : Option Nat}
theorem LSt.lfE0 (L : LSt S rt lf pg hd cnt) (h : CoreAt w k S fp) {page : Int} (hp : 0 ≤ page ∧ page < 32) : lfE S.by' S.n (S.root 1) page = 0 ∧ lfN S.by' S.n (S.root 1) page = lf := by
  have hn := h.n4
  have hl := L.rl
  have ht : Int.tdiv page 32 = 0 := by rw [Int.tdiv_eq_ediv_of_nonneg hp.1]; omega
  have hw : wdE S.n (rt : Int) 0 = 0 := wdE_of (by omega) (by omega) (by omega) (by omega)
  have he : enE (1 + 4 * (lf : Int)) = 0 := by unfold enE; rw [if_neg (by omega)]
  have hE : rdE S.by' S.n (rt : Int) 0 = 0 := by unfold rdE; rw [if_neg (by omega), L.w0, he]
  have hK : rdK S.by' S.n (rt : Int) 0 = 1 := by unfold rdK; rw [if_pos hE, L.w0]; omega
  have hN : rdN S.by' S.n (rt : Int) 0 = lf := by unfold rdN; rw [if_pos hE, L.w0]; omega
  have h0 : lfE S.by' S.n (S.root 1) page = 0 := by
    unfold lfE
    rw [L.root, ht, if_neg (by omega), hE, if_neg (by omega), hK, if_neg (by omega), if_pos rfl]
  refine ⟨h0, ?_⟩
  unfold lfN
  rw [if_pos h0, L.root, ht, hN]
theorem LSt.lfE7 (L : LSt S rt lf pg hd cnt) (h : CoreAt w k S fp) {page : Int} (hp : 32 ≤ page ∧ page < 1024) : lfE S.by' S.n (S.root 1) page = 7 ∧ lack S.by' S.n (S.root 1) page = true := by
  have hn := h.n4
  have hl := L.rl
  have ht : 1 ≤ Int.tdiv page 32 ∧ Int.tdiv page 32 ≤ 31 := by rw [Int.tdiv_eq_ediv_of_nonneg (by omega)]; omega
  have hz := L.wz _ ht.1 ht.2
  have hw : wdE S.n (rt : Int) (Int.tdiv page 32) = 0 := wdE_of (by omega) (by omega) (by omega) (by omega)
  have he : enE 0 = 0 := by decide
  have hE : rdE S.by' S.n (rt : Int) (Int.tdiv page 32) = 0 := by unfold rdE; rw [if_neg (by omega), hz, he]
  have hK : rdK S.by' S.n (rt : Int) (Int.tdiv page 32) = 0 := by unfold rdK; rw [if_pos hE, hz]; rfl
  refine ⟨?_, ?_⟩
  · unfold lfE
    rw [L.root, if_neg (by omega), hE, if_neg (by omega), hK, if_pos rfl]
  · unfold lack
    rw [L.root, hw, hz]
    rfl
theorem LSt.get (L : LSt S rt lf pg hd cnt) (h : CoreAt w k S fp) {j : Nat} (hj : j < 32) : gtE S.by' S.n (S.root 1) (j : Int) = 0 ∧ gtK S.by' S.n (S.root 1) (j : Int) = (match pg j with | some _ => 1 | none => 0) ∧ gtN S.by' S.n (S.root 1) (j : Int) = (match pg j with | some f => (f : Int) | none => 0) := by
  have hn := h.n4
  have hl := L.rl
  obtain ⟨h0, h1⟩ := L.lfE0 h (page := j) (by omega)
  have ht : Int.tmod (j : Int) 32 = j := by rw [Int.tmod_eq_emod_of_nonneg (by omega)]; omega
  have hw : wdE S.n (lf : Int) (j : Int) = 0 := wdE_of (by omega) (by omega) (by omega) (by omega)
  have hv := L.wl j hj
  unfold gtE gtK gtN
  rw [h0, h1, ht, if_neg (by omega), if_neg (by omega), if_pos rfl, if_pos rfl]
  cases hpj : pg j with
  | none =>
    rw [hpj] at hv
    have hv : wdF S.by' S.n (lf : Int) (j : Int) = 0 := hv
    have he : enE 0 = 0 := by decide
    have hE : rdE S.by' S.n (lf : Int) (j : Int) = 0 := by unfold rdE; rw [if_neg (by omega), hv, he]
    unfold rdK rdN
    rw [hE, hv]
    exact ⟨rfl, rfl, rfl⟩
  | some f =>
    rw [hpj] at hv
    have hv : wdF S.by' S.n (lf : Int) (j : Int) = 1 + 4 * (f : Int) := hv
    have hf := (L.pgo j f hpj).2.1
    have he : enE (1 + 4 * (f : Int)) = 0 := by unfold enE; rw [if_neg (by omega)]
    have hE : rdE S.by' S.n (lf : Int) (j : Int) = 0 := by unfold rdE; rw [if_neg (by omega), hv, he]
    unfold rdK rdN
    rw [hE, hv, if_pos rfl, if_pos rfl]
    refine ⟨rfl, ?_, ?_⟩
    · show (1 + 4 * (f : Int)) % 4 = 1; omega
    · show (1 + 4 * (f : Int)) / 4 = (f : Int); omega
theorem LSt.get0 (L : LSt S rt lf pg hd cnt) (h : CoreAt w k S fp) {page : Int} (hp : 32 ≤ page ∧ page < 1024) : gtE S.by' S.n (S.root 1) page = 0 ∧ gtK S.by' S.n (S.root 1) page = 0 := by
  obtain ⟨h0, h1⟩ := L.lfE7 h hp
  unfold gtE gtK
  rw [if_pos ⟨h0, h1⟩, if_neg (by omega)]
  exact ⟨rfl, rfl⟩
theorem smS_ok {mk : Nat → Mark} {n f : Nat} {x : Mark} (hf : f < n) (hx : mayM x = true) : smE n (f : Int) x = 0 ∧ smS mk n (f : Int) x = upd mk f x := by
  have : smE n (f : Int) x = 0 := by unfold smE; rw [if_neg (by omega), if_pos hx]
  refine ⟨this, ?_⟩
  unfold smS
  rw [if_pos this, Int.toNat_natCast]
theorem LSt.give {f : Nat} (L : LSt S rt lf pg (some f) cnt) (h : CoreAt w k S fp) {i : Nat} (hi : i < S.nodes) (h1 : fstF S.c i ≤ f) (h2 : (f : Int) < fstF S.c (i + 1)) :
    ((f : Int) - fstF S.c i, (0 : Int)) ∈ tk (S.L i) ∧ ∀ l', GiveR (S.L i) ((f : Int) - fstF S.c i) 0 0 l' → LSt ((S.setL (upd S.L i l')).setMk (smS S.mks S.n f mark0)) rt lf pg none cnt ∧ ((f : Int) - fstF S.c i, (0 : Int)) ∉ tk l' := by
  have hf := h.fst hi
  obtain ⟨hfn, hfr, hfl⟩ := L.hdr f rfl
  obtain ⟨j, y, hj, hy, hyg, he⟩ := L.tk2 f (.inr (.inr (.inr rfl)))
  have hyo := (L.tk1 j hj y hy hyg).1
  have hyt := tile_mem (h.tile hj) hy
  rw [hyo] at hyt
  have hfj := h.fst hj
  unfold gfr at he
  have : j = i := node_uniq h.my (f := (f : Int)) (by unfold Mach.nodes at hj; exact hj) (by unfold Mach.nodes at hi; exact hi) (by omega) (by omega) h1 h2
  subst this
  have hyp : ((y.p : Nat) : Int) = (f : Int) - fstF S.c j := by omega
  refine ⟨List.mem_map.2 ⟨y, List.mem_filter.2 ⟨hy, by simpa using hyg⟩, by rw [hyp, hyo]; rfl⟩, fun l' G => ?_⟩
  rcases G with ⟨_, e, _⟩ | ⟨x, hx, hxg, hxp, hxo, _, hm, hs⟩
  · cases e
  have hxo' : x.o = 0 := by omega
  have hu1 : ∀ g, usedF rt lf pg (some f) g ↔ usedF rt lf pg none g ∨ g = f := fun g => by
    unfold usedF
    constructor
    · rintro (e | e | e | e)
      · exact .inl (.inl e)
      · exact .inl (.inr (.inl e))
      · exact .inl (.inr (.inr (.inl e)))
      · exact .inr (Option.some.inj e).symm
    · rintro ((e | e | e | e) | e)
      · exact .inl e
      · exact .inr (.inl e)
      · exact .inr (.inr (.inl e))
      · cases e
      · exact .inr (.inr (.inr (by rw [e])))
  have hnf : ¬ usedF rt lf pg none f := by
    rintro (e | e | ⟨j, e⟩ | e)
    · exact hfr e
    · exact hfl e
    · exact (L.pgo j f e).2.2.2.2 rfl
    · cases e
  have hgx : gfr S j x = f := by unfold gfr; omega
  have hnl : ∀ z ∈ l', z.g = 1 → gfr S j z ≠ f := fun z hz hzg e => by
    obtain ⟨hz1, hz2⟩ := (hm z hzg).1 hz
    have hzo := (L.tk1 j hj z hz1 hzg).1
    refine hz2 (tile_one (h.tile hj) hz1 hx (f := z.p) (Nat.le_refl _) (by rw [hzo]; omega) ?_ ?_)
    · unfold gfr at e hgx; omega
    · unfold gfr at e hgx; rw [hxo']; omega
  obtain ⟨hsm, hse⟩ := smS_ok (mk := S.mks) (x := mark0) hfn (by decide)
  have hni : ((f : Int) - fstF S.c j, (0 : Int)) ∉ tk l' := fun hh => by
    obtain ⟨z, hz, hze⟩ := List.mem_map.1 hh
    obtain ⟨hz1, hz2⟩ := List.mem_filter.1 hz
    simp only [Prod.mk.injEq] at hze
    exact hnl z hz1 (by simpa using hz2) (by unfold gfr; omega)
  refine ⟨?_, hni⟩
  rw [hse]
  exact { L with
    pgo := fun j' g hj' => by
      obtain ⟨a1, a2, a3, a4, _⟩ := L.pgo j' g hj'
      exact ⟨a1, a2, a3, a4, by simp⟩
    hdr := fun g e => by cases e
    mk1 := by
      show upd S.mks f mark0 rt = tblM ∧ upd S.mks f mark0 lf = tblM
      rw [upd_ne _ _ (Ne.symm hfr), upd_ne _ _ (Ne.symm hfl)]
      exact L.mk1
    mk2 := fun j' g hj' => by
      show upd S.mks f mark0 g = _
      have : g ≠ f := fun e => (L.pgo j' g hj').2.2.2.2 (by rw [e])
      rw [upd_ne _ _ this]
      exact L.mk2 j' g hj'
    mk3 := fun g hg hn => by
      show upd S.mks f mark0 g = mark0
      by_cases e : g = f
      · subst e; rw [upd_same]
      · rw [upd_ne _ _ e]
        exact L.mk3 g hg fun hu => ((hu1 g).1 hu).elim hn e
    tk1 := fun j' hj' z hz hg => by
      by_cases e : j' = j
      · subst e
        have hz : z ∈ upd S.L j' l' j' := hz
        rw [upd_same] at hz
        obtain ⟨hz1, _⟩ := (hm z hg).1 hz
        have := L.tk1 j' hj' z hz1 hg
        exact ⟨this.1, ((hu1 _).1 this.2).resolve_right (hnl z hz hg)⟩
      · have hz : z ∈ upd S.L j l' j' := hz
        rw [upd_ne _ _ e] at hz
        have := L.tk1 j' hj' z hz hg
        refine ⟨this.1, ((hu1 _).1 this.2).resolve_right fun e2 => e ?_⟩
        have hzt := tile_mem (h.tile hj') hz
        have hfj' := h.fst hj'
        have hzo := this.1
        rw [hzo] at hzt
        unfold gfr at e2
        exact node_uniq h.my (f := (f : Int)) (by unfold Mach.nodes at hj'; exact hj') (by unfold Mach.nodes at hj; exact hj) (by omega) (by omega) h1 h2
    tk2 := fun g hu => by
      obtain ⟨j', z, hj', hz, hg, hez⟩ := L.tk2 g ((hu1 g).2 (.inl hu))
      refine ⟨j', z, hj', ?_, hg, hez⟩
      show z ∈ upd S.L j l' j'
      by_cases e : j' = j
      · subst e
        rw [upd_same]
        refine (hm z hg).2 ⟨hz, fun e2 => ?_⟩
        subst e2
        rw [hgx] at hez
        exact hnf (by rw [hez]; exact hu)
      · rw [upd_ne _ _ e]; exact hz
    cf := by
      have h3 := L.cf
      have e : (fun t => fsum (upd S.L j l' t)) = upd (fun t => fsum (S.L t)) j (fsum l') := by
        funext t
        by_cases e : t = j
        · subst e; rw [upd_same, upd_same]
        · rw [upd_ne _ _ e, upd_ne _ _ e]
      have h4 := sumN_upd (n := S.nodes) (f := fun t => fsum (S.L t)) (v := fsum l') hj
      show sumN S.nodes (fun t => fsum (upd S.L j l' t)) + cnt + 2 + 0 = S.n
      rw [e]
      rw [hxo'] at hs
      simp at h3 hs
      omega }
end
theorem filter_upd {pg : Nat → Option Nat} {p f : Nat} : ∀ {n : Nat}, pg p = none → ((List.range n).filter fun j => (upd pg p (some f) j).isSome).length = ((List.range n).filter fun j => (pg j).isSome).length + (if p < n then 1 else 0)
  | 0, _ => by simp
  | n + 1, h => by
    have ih := filter_upd (n := n) (f := f) h
    rw [List.range_succ, List.filter_append, List.filter_append, List.length_append, List.length_append, ih]
    by_cases e : n = p
    · subst e
      simp [upd_same, h]
    · have e2 : (upd pg p (some f) n) = pg n := upd_ne _ _ e
      simp only [List.filter_cons, List.filter_nil, e2]
      have : (if p < n + 1 then 1 else 0) = (if p < n then 1 else 0) := by
        by_cases h1 : p < n
        · rw [if_pos h1, if_pos (by omega)]
        · rw [if_neg h1, if_neg (by omega)]
      rw [this]
      omega
theorem owns_upd {of : Nat → Int × Int} {p : Nat} {v : Int × Int} (hv : v.1 ≠ 0) : ∀ {n : Nat}, (of p).1 = 0 → (owns n (upd of p v)).length = (owns n of).length + (if p < n then 1 else 0)
  | 0, _ => by simp [owns]
  | n + 1, h => by
    have ih := owns_upd hv (n := n) h
    rw [owns_succ, owns_succ, List.length_append, List.length_append, ih]
    by_cases e : n = p
    · subst e
      simp [upd_same, h, hv]
    · have e2 : upd of p v n = of n := upd_ne _ _ e
      rw [e2]
      have : (if p < n + 1 then 1 else 0) = (if p < n then 1 else 0) := by
        by_cases h1 : p < n
        · rw [if_pos h1, if_pos (by omega)]
        · rw [if_neg h1, if_neg (by omega)]
      rw [this]
      omega
section
variable {w : World} {k : Nat} {S : Mach} {fp : Prt → Nat → Prop} {rt lf cnt : Nat} {pg : Nat → Option Nat}
theorem look_app {M : List ((Int × Int) × Value)} {a b : Int × Int} {v : Value} : (M ++ [(a, v)]).lookup b = match M.lookup b with | some x => some x | none => if b = a then some v else none := by
  rw [List.lookup_append]
  cases M.lookup b with
  | some x => rfl
  | none =>
    by_cases h : b = a
    · subst h; simp
    · have : (b == a) = false := by simpa using h
      simp [List.lookup_cons, this, h]
theorem look_appI {M : List (Int × Value)} {a b : Int} {v : Value} : (M ++ [(a, v)]).lookup b = match M.lookup b with | some x => some x | none => if b = a then some v else none := by
  rw [List.lookup_append]
  cases M.lookup b with
  | some x => rfl
  | none =>
    by_cases h : b = a
    · subst h; simp
    · have : (b == a) = false := by simpa using h
      simp [List.lookup_cons, this, h]
theorem LSt.map {f p : Nat} (L : LSt S rt lf pg (some f) cnt) (h : CoreAt w k S fp) {i : Nat} (hi : i < S.nodes) (h1 : fstF S.c i ≤ f) (h2 : (f : Int) < fstF S.c (i + 1)) (hp : p < 32) (hpg : pg p = none) :
    LSt (S.mapped i p f) rt lf (upd pg p (some f)) none (cnt + 1) := by
  have hn := h.n4
  obtain ⟨hrt, hlf, hrl⟩ := L.rl
  obtain ⟨hfn, hfr, hfl⟩ := L.hdr f rfl
  have hnj : ∀ j, pg j ≠ some f := fun j e => (L.pgo j f e).2.2.2.2 rfl
  have hrof : (S.rof f).1 = 0 := by
    by_cases e : (S.rof f).1 = 0
    · exact e
    · obtain ⟨j, hj⟩ := L.rof2 f hfn e
      exact absurd hj (hnj j)
  obtain ⟨hE, hN⟩ := L.lfE0 h (page := p) (by omega)
  have htm : Int.tmod (p : Int) 32 = p := by rw [Int.tmod_eq_emod_of_nonneg (by omega)]; omega
  have hew : ewE 1 (f : Int) = 0 := by unfold ewE; rw [if_neg (by decide), if_pos (.inl rfl), if_pos (by omega)]
  have hewF : ewF 1 (f : Int) = 1 + 4 * (f : Int) := by unfold ewF; rw [if_pos hew]
  have hwl : wdE S.n (lf : Int) (p : Int) = 0 := wdE_of (by omega) (by omega) (by omega) (by omega)
  have hst : stS S.by' S.n (S.root 1) p 1 f = wdS S.by' S.n lf p (1 + 4 * (f : Int)) := by
    have : stE S.by' S.n (S.root 1) p 1 f = 0 := by unfold stE; rw [if_neg (by omega), hE, if_neg (by omega), hN, htm, hwl]
    unfold stS
    rw [if_pos this, hN, htm, hewF]
  have hx : 0 ≤ 1 + 4 * (f : Int) ∧ 1 + 4 * (f : Int) ≤ 18446744073709551615 := by omega
  obtain ⟨hsm, hse⟩ := smS_ok (mk := S.mks) (n := S.n) (x := ⟨4, 0, 1, (p : Int), 0⟩) hfn (by unfold mayM; simp; omega)
  have hinj : ∀ {j j' : Nat} {g : Nat}, upd pg p (some f) j = some g → (j = p ∧ g = f) ∨ (j ≠ p ∧ pg j = some g) := fun {j _ g} e => by
    by_cases e2 : j = p
    · subst e2; rw [upd_same] at e; exact .inl ⟨rfl, (Option.some.inj e).symm⟩
    · rw [upd_ne _ _ e2] at e; exact .inr ⟨e2, e⟩
  have hback : ∀ {j g : Nat}, pg j = some g → upd pg p (some f) j = some g := fun {j g} e => by
    have : j ≠ p := fun e2 => by rw [e2, hpg] at e; cases e
    rw [upd_ne _ _ this]; exact e
  have hu1 : ∀ g, usedF rt lf (upd pg p (some f)) none g ↔ usedF rt lf pg (some f) g := fun g => by
    unfold usedF
    constructor
    · rintro (e | e | ⟨j, e⟩ | e)
      · exact .inl e
      · exact .inr (.inl e)
      · rcases hinj (j' := 0) e with ⟨_, rfl⟩ | ⟨_, e⟩
        · exact .inr (.inr (.inr rfl))
        · exact .inr (.inr (.inl ⟨j, e⟩))
      · cases e
    · rintro (e | e | ⟨j, e⟩ | e)
      · exact .inl e
      · exact .inr (.inl e)
      · exact .inr (.inr (.inl ⟨j, hback e⟩))
      · exact .inr (.inr (.inl ⟨p, by rw [upd_same]; exact e⟩))
  have hnr : (f : Int) ∉ S.ring i := fun e => by
    obtain ⟨j, g, hj, hg, _⟩ := (L.ckm i hi _).1 e
    have : f = g := by omega
    subst this
    exact hnj j hj
  have hcl := L.ck i hi
  have hcn : (S.cof i).lookup (f : Int) = none := by
    cases e : (S.cof i).lookup (f : Int) with
    | none => rfl
    | some v => exact absurd ((hcl.r _).1 (by rw [e]; rfl)) hnr
  have wdk : ∀ {a b : Int}, wdE S.n a b = 0 → wdF (wdS S.by' S.n lf p (1 + 4 * (f : Int))) S.n a b = if a = lf ∧ b = p then 1 + 4 * (f : Int) else wdF S.by' S.n a b := fun hab => wdF_set hx hwl hab
  exact {
    by' := by show ByR (stS S.by' S.n (S.root 1) p 1 f); rw [hst]; exact wdS_r L.by' _ _ _ _
    rl := L.rl
    sp := L.sp
    root := L.root
    w0 := by
      show wdF (stS S.by' S.n (S.root 1) p 1 f) S.n rt 0 = _
      rw [hst, wdk (wdE_of (by omega) (by omega) (by omega) (by omega)), if_neg (by omega)]
      exact L.w0
    wz := fun j hj1 hj2 => by
      show wdF (stS S.by' S.n (S.root 1) p 1 f) S.n rt j = _
      rw [hst, wdk (wdE_of (by omega) (by omega) (by omega) (by omega)), if_neg (by omega)]
      exact L.wz j hj1 hj2
    wl := fun j hj => by
      show wdF (stS S.by' S.n (S.root 1) p 1 f) S.n lf j = _
      rw [hst, wdk (wdE_of (by omega) (by omega) (by omega) (by omega))]
      by_cases e : j = p
      · subst e; rw [if_pos ⟨rfl, rfl⟩, upd_same]
      · rw [if_neg (by omega), upd_ne _ _ e]
        exact L.wl j hj
    pgo := fun j g e => by
      rcases hinj (j' := 0) e with ⟨rfl, rfl⟩ | ⟨_, e⟩
      · exact ⟨hp, hfn, hfr, hfl, by simp⟩
      · obtain ⟨a1, a2, a3, a4, _⟩ := L.pgo j g e
        exact ⟨a1, a2, a3, a4, by simp⟩
    inj := fun j j' g e e' => by
      rcases hinj (j' := 0) e with ⟨rfl, rfl⟩ | ⟨_, _⟩
      · rcases hinj (j' := 0) e' with ⟨rfl, _⟩ | ⟨_, e'⟩
        · rfl
        · exact absurd e' (hnj j')
      · rename_i e1
        rcases hinj (j' := 0) e' with ⟨_, h8⟩ | ⟨_, e2⟩
        · exact absurd (h8 ▸ e1 : pg j = some f) (hnj j)
        · exact L.inj j j' g e1 e2
    hdr := fun g e => by cases e
    rof1 := fun j g e => by
      show upd S.rof f (1, (p : Int)) g = _
      rcases hinj (j' := 0) e with ⟨rfl, rfl⟩ | ⟨_, e⟩
      · rw [upd_same]
      · rw [upd_ne _ _ (show g ≠ f from fun e2 => hnj j (by rw [← e2]; exact e))]
        exact L.rof1 j g e
    rof2 := fun g hg e => by
      have e : (upd S.rof f (1, (p : Int)) g).1 ≠ 0 := e
      by_cases e2 : g = f
      · exact ⟨p, by rw [upd_same, e2]⟩
      · rw [upd_ne _ _ e2] at e
        obtain ⟨j, hj⟩ := L.rof2 g hg e
        exact ⟨j, hback hj⟩
    rat1 := fun kk v e => by
      have e : (S.rat ++ [((1, (p : Int)), vi f)]).lookup kk = some v := e
      rw [look_app] at e
      cases hl : S.rat.lookup kk with
      | some x =>
        rw [hl] at e
        cases e
        obtain ⟨j, g, h3, h4, h5⟩ := L.rat1 _ _ hl
        exact ⟨j, g, h3, hback h4, h5⟩
      | none =>
        rw [hl] at e
        simp only at e
        split at e
        · rename_i e2
          cases e
          exact ⟨p, f, e2, upd_same _ _ _, rfl⟩
        · cases e
    rat2 := fun j g e => by
      show ((S.rat ++ [((1, (p : Int)), vi f)]).lookup (1, (j : Int))).isSome = true
      rw [look_app]
      cases hl : S.rat.lookup (1, (j : Int)) with
      | some x => rfl
      | none =>
        rcases hinj (j' := 0) e with ⟨rfl, rfl⟩ | ⟨_, e⟩
        · simp
        · have := L.rat2 j g e
          rw [hl] at this
          cases this
    ck := fun t ht => by
      show ClOk (upd S.ring i _ t) (upd S.cof i _ t)
      by_cases e : t = i
      · subst e
        rw [upd_same, upd_same]
        refine ⟨fun kk v e => ?_, fun kk => ?_, ?_⟩
        · rw [look_appI] at e
          cases hl : (S.cof t).lookup kk with
          | some x => rw [hl] at e; cases e; exact hcl.v _ _ hl
          | none =>
            rw [hl] at e
            simp only at e
            split at e
            · cases e; exact ⟨true, true, rfl⟩
            · cases e
        · rw [look_appI, List.mem_append, List.mem_singleton, ← hcl.r kk]
          cases hl : (S.cof t).lookup kk with
          | some x => simp
          | none =>
            by_cases e : kk = (f : Int) <;> simp [e]
        · rw [List.nodup_append]
          refine ⟨hcl.nd, by simp, fun a ha b hb e => ?_⟩
          simp at hb
          subst hb
          exact hnr (e ▸ ha)
      · rw [upd_ne _ _ e, upd_ne _ _ e]
        exact L.ck t ht
    ckm := fun t ht x => by
      show x ∈ upd S.ring i _ t ↔ _
      by_cases e : t = i
      · subst e
        rw [upd_same, List.mem_append, List.mem_singleton, L.ckm t ht x]
        constructor
        · rintro (⟨j, g, a1, a2, a3⟩ | rfl)
          · exact ⟨j, g, hback a1, a2, a3⟩
          · exact ⟨p, f, upd_same _ _ _, rfl, h1, h2⟩
        · rintro ⟨j, g, a1, a2, a3⟩
          rcases hinj (j' := 0) a1 with ⟨_, rfl⟩ | ⟨_, a1⟩
          · exact .inr a2
          · exact .inl ⟨j, g, a1, a2, a3⟩
      · rw [upd_ne _ _ e, L.ckm t ht x]
        constructor
        · rintro ⟨j, g, a1, a2, a3⟩
          exact ⟨j, g, hback a1, a2, a3⟩
        · rintro ⟨j, g, a1, a2, a3, a4⟩
          rcases hinj (j' := 0) a1 with ⟨_, rfl⟩ | ⟨_, a1⟩
          · exact absurd (node_uniq h.my (f := (g : Int)) (by unfold Mach.nodes at ht; exact ht) (by unfold Mach.nodes at hi; exact hi) a3 a4 h1 h2) e
          · exact ⟨j, g, a1, a2, a3, a4⟩
    mk1 := by
      show smS S.mks S.n f _ rt = tblM ∧ smS S.mks S.n f _ lf = tblM
      rw [hse, upd_ne _ _ (Ne.symm hfr), upd_ne _ _ (Ne.symm hfl)]
      exact L.mk1
    mk2 := fun j g e => by
      show smS S.mks S.n f _ g = _
      rw [hse]
      rcases hinj (j' := 0) e with ⟨rfl, rfl⟩ | ⟨_, e⟩
      · rw [upd_same]; rfl
      · rw [upd_ne _ _ (show g ≠ f from fun e2 => hnj j (by rw [← e2]; exact e))]
        exact L.mk2 j g e
    mk3 := fun g hg hn => by
      show smS S.mks S.n f _ g = mark0
      rw [hse, upd_ne _ _ fun e2 => hn ((hu1 g).2 (.inr (.inr (.inr (by rw [e2])))))]
      exact L.mk3 g hg fun hu => hn ((hu1 g).2 hu)
    tk1 := fun t ht y hy hg => by
      have := L.tk1 t ht y hy hg
      exact ⟨this.1, (hu1 _).2 this.2⟩
    tk2 := fun g hu => L.tk2 g ((hu1 g).1 hu)
    cp := by rw [filter_upd hpg, if_pos hp, L.cp]
    cr := by
      show (owns S.n (upd S.rof f (1, (p : Int)))).length = _
      rw [owns_upd (by simp) hrof, if_pos hfn, L.cr]
    cc := by
      have e : (fun t => (upd S.ring i (S.ring i ++ [(f : Int)]) t).length) = upd (fun t => (S.ring t).length) i ((S.ring i).length + 1) := by
        funext t
        by_cases e : t = i
        · subst e; rw [upd_same, upd_same, List.length_append]; rfl
        · rw [upd_ne _ _ e, upd_ne _ _ e]
      have h4 := sumN_upd (n := S.nodes) (f := fun t => (S.ring t).length) (v := (S.ring i).length + 1) hi
      have h5 := L.cc
      show sumN S.nodes (fun t => (upd S.ring i (S.ring i ++ [(f : Int)]) t).length) = cnt + 1
      rw [e]
      omega
    cf := by
      have h3 := L.cf
      show sumN S.nodes (fun t => fsum (S.L t)) + (cnt + 1) + 2 + 0 = S.n
      simp at h3
      omega
    held := L.held
    fli := L.fli
    lh := L.lh }
end
theorem newSpace_spec (root : Int) (w : World) : Calls Tryz.prog 96 #[vi root] w fun e w' => ∃ b, e = .returned (ptr b) ∧ Kept none' w w' ∧ SpaceAt w' (rng w w') b root := by
  refine (vc96 root w (fun v w' => ∃ b, v = ptr b ∧ Kept none' w w' ∧ SpaceAt w' (rng w w') b root) ?_).mono ?_
  rotate_left
  · rintro e w' ⟨v, rfl, b, rfl, h⟩
    exact ⟨b, rfl, h⟩
  unfold vcP96
  refine (vc147 w (fun v w' => v = ptr w.heap.size ∧ w' = w.alloc (.cells #[.slice none 0 0] 302)) (by unfold vcP147; exact fun w1 e1 => ⟨rfl, e1⟩)).mono ?_
  rintro _ w1 ⟨v, rfl, rfl, e1⟩
  have o1 : own w1 w.heap.size [.slice none 0 0] := own_alloc e1
  have k1 : Kept none' w w1 := (Kept.refl _ _).al e1
  refine ⟨_, rfl, ?_⟩
  refine (vc148 1024 w1 (fun v w' => ∃ pb' wb, v = ptr pb' ∧ Kept none' w1 w' ∧ own w' pb' [.slice (some ⟨wb, 0, none⟩) 16 16, vi 1024] ∧ own w' wb (List.replicate 16 (.int .u64 0)) ∧ w1.heap.size ≤ pb' ∧ w1.heap.size ≤ wb) ?_).mono ?_
  · unfold vcP148
    simp only [gt_iff_lt, show ¬ ((1024 : Int) < 0) by decide, show ¬ ((65536 : Int) < 1024) by decide, if_false]
    have e2 : IntKind.wrap .i64 (Int.tdiv (IntKind.wrap .i64 (1024 + 63)) 64) = 16 := by decide
    rw [e2]
    refine Wif_yes (by decide) fun w2 e3 w3 e4 => ?_
    have o2 : own w2 w1.heap.size (List.replicate 16 (.int .u64 0)) := own_alloc e3
    have o3 : own w3 w2.heap.size [.slice (some ⟨w1.heap.size, 0, none⟩) 16 16, vi 1024] := own_alloc e4
    have k2 : Kept none' w1 w2 := (Kept.refl _ _).al e3
    exact ⟨_, _, rfl, k2.al e4, o3, o2.al e4, k2.sz, Nat.le_refl _⟩
  rintro _ w2 ⟨v, rfl, pb', wb, rfl, k2, p1, p2, hp1, hp2⟩
  refine ⟨_, rfl, fun w3 e3 w4 e4 => ?_⟩
  have m3 : MapIs w3 w2.heap.size [] := map_new e3
  have k3 : Kept none' w2 w3 := e3 ▸ (Kept.refl _ _).allocMap _ _
  have o4 : own w4 w3.heap.size [ptr w.heap.size, vi root, ptr pb', .int .u8 0, .int .u8 0, .map (some w2.heap.size)] := own_alloc e4
  have k4 : Kept none' w3 w4 := (Kept.refl _ _).al e4
  have s1 := k1.sz
  have s2 := k2.sz
  have s3 := k3.sz
  have l1 := o1.lt
  have l4 := o4.lt
  have lm := m3.lt
  have lp := p1.lt
  have lw := p2.lt
  have s4 := k4.sz
  have ka : Kept none' w2 w4 := k3.tr k4
  refine ⟨_, rfl, (k1.tr k2).tr ka, ⟨w.heap.size, pb', wb, w2.heap.size, o4, (o1.k k2).k ka, p1.k ka, p2.k ka, m3.k k4, ?_, ?_, ?_, ?_, ?_⟩⟩ <;> exact ⟨by omega, by omega⟩
section
variable {w : World} {k : Nat} {S : Mach} {fp : Prt → Nat → Prop}
abbrev Mach.setSp (S : Mach) (b : Nat) (rt : Int) : Mach := { S with sp := fun i => if i = 1 then some b else none, root := upd S.root 1 rt }
theorem core_space (h : CoreAt w k S fp) (hsp : S.sp = fun _ => none) {w1 w2 : World} {b : Nat} {rt : Int} (k1 : Kept none' w w1) (SP : SpaceAt w1 (rng w w1) b rt) (e : w2 = st w1 k 106 (ptr b)) : Step w w2 k (S.setSp b rt) fp := by
  have hk := h.at' .core
  have hk0 : k < w.heap.size := h.k0
  have k2 : Kept (· = k) w1 w2 := (Kept.refl _ _).s1 e (.inl rfl)
  have K2 : Kept (· = k) w w2 := (k1.mono fun _ _ e => e.elim).trans k2 fun _ _ e => e
  have hs2 : w2.heap.size = w1.heap.size := by rw [e]; simp
  refine ⟨K2.mono fun x _ e => ⟨.core, e ▸ hk.2⟩, _, h.upd (fun p => p = .core ∨ p = .space 1) (.space 1) K2 (fun x hx _ => ⟨.core, .inl rfl, hx ▸ hk.2⟩) rfl (fun p F W hp hq => ?_) (.inr rfl) fun p hp => ?_, fun p x hx => hx.imp id fun e => e.2⟩
  · cases p with
    | core => exact absurd (.inl rfl) hp
    | space i =>
      intro b' hb'
      have hb' : (if i = 1 then some b else none) = some b' := hb'
      have : i ≠ 1 := fun e => hp (.inr (by rw [e]))
      rw [if_neg this] at hb'
      cases hb'
    | _ => exact hq
  · rcases hp with rfl | rfl
    · refine ⟨?_, .inl hk.2⟩
      have o1 := (hk.1.k k1)
      have o2 := cset (i := 12) (v := ptr b) o1 (show w2 = st w1 k (94 + 12) (ptr b) from e)
      have : (coreT S).set 12 (ptr b) = coreT (S.setSp b rt) := by
        unfold coreT
        rw [hsp]
        rfl
      rw [this] at o2
      exact o2
    · intro b' hb'
      have hb' : (if 1 = 1 then some b else none) = some b' := hb'
      rw [if_pos rfl] at hb'
      cases hb'
      obtain ⟨ab, pb', wb, mb, a1, a2, a3, a4, a5, f1, f2, f3, f4, f5⟩ := SP.ex
      have ne : ∀ x, rng w w1 x → x ≠ k := fun x hx e => by have := hx.1; omega
      have fr : ∀ x, rng w w1 x → fp (.space 1) x ∨ (Prt.space 1 = Prt.space 1 ∧ rng w w2 x) := fun x hx => .inr ⟨rfl, hx.1, by have := hx.2; omega⟩
      have hrt : (S.setSp b rt).root 1 = rt := by show upd S.root 1 rt 1 = rt; exact upd_same _ _ _
      rw [hrt]
      exact ⟨ab, pb', wb, mb, a1.kx k2 (ne _ f1), a2.kx k2 (ne _ f2), a3.kx k2 (ne _ f3), a4.kx k2 (ne _ f4), a5.kx k2 (ne _ f5), fr _ f1, fr _ f2, fr _ f3, fr _ f4, fr _ f5⟩
end
theorem takeR_e0 {l l' : List Bk} {high : Bool} {a e : Int} (hs : 0 < fsum l) (T : TakeR l 0 high a e l') : e = 0 := by
  rcases T with ⟨h, _⟩ | ⟨o, h0, _, h, _⟩ | ⟨_, _, _, _, _, _, _, _, _, _, _, h, _⟩
  · omega
  · obtain ⟨x, hx, hg⟩ := fsum_free hs
    have := h x hx hg
    omega
  · exact h
theorem wordK_zero (o : Nat) : ∀ k, wordK (fun _ => 0) o k = 0
  | 0 => rfl
  | k + 1 => by unfold wordK; rw [wordK_zero o k, Int.zero_mul]; rfl
theorem wdF_zero (n : Nat) (a b : Int) : wdF (fun _ => 0) n a b = 0 := by
  unfold wdF
  split
  · exact wordK_zero _ _
  · rfl
section
variable {w : World} {k : Nat} {S : Mach} {fp : Prt → Nat → Prop}
theorem fresh_sum (h : CoreAt w k S fp) (F : Fresh S) : ∀ {q : Nat}, q ≤ S.nodes → ((sumN q (fun i => fsum (S.L i)) : Nat) : Int) = fstF S.c q
  | 0, _ => rfl
  | q + 1, hq => by
    obtain ⟨_, _, hk⟩ := h.zn
    have ih := fresh_sum h F (q := q) (by omega)
    have hf := h.fst (i := q) (by omega)
    have h1 := fsum_all (h.tile (i := q) (by omega)) (F.L q (by omega))
    rw [sumN_succ]
    omega
theorem LSt.begun (h : CoreAt w k S fp) (F : Fresh S) {l1 l2 : List Bk} {r1 r2 : Nat} {n0 : Nat} (hn0 : n0 = (S.c 18).toNat) (ht1 : Tile 0 l1 n0) (hr1 : r1 < n0) (hr2 : r2 < n0) (hm1 : ∀ y : Bk, y.g = 1 → (y ∈ l1 ↔ y ∈ S.L 0 ∨ y = ⟨r1, 0, 1⟩)) (hs1 : fsum l1 + 1 = fsum (S.L 0))
    (hx2 : ∃ x ∈ l1, x.g = 0 ∧ x.p ≤ r2 ∧ r2 < x.p + 2 ^ x.o) (hm2 : ∀ y : Bk, y.g = 1 → (y ∈ l2 ↔ y ∈ l1 ∨ y = ⟨r2, 0, 1⟩)) (hs2 : fsum l2 + 1 = fsum l1) (b : Nat) :
    LSt ((((((S.setL (upd S.L 0 l1)).setL (upd (upd S.L 0 l1) 0 l2)).setMk (smS S.mks S.n r1 tblM)).setMk (smS (smS S.mks S.n r1 tblM) S.n r2 tblM)).setSp b r1).setBy (slS S.by' S.n r1 0 r2)) r1 r2 (fun _ => none) none 0 := by
  have hs := h.sizes
  have hn := h.n4
  have hf0 := h.fst (i := 0) (by omega)
  have e0 : fstF S.c 0 = 0 := rfl
  have hn0' : (n0 : Int) ≤ S.n := by
    have : S.c (18 + 0) = S.c 18 := rfl
    omega
  obtain ⟨_, _, hk⟩ := h.zn
  have hne : r1 ≠ r2 := fun e => by
    obtain ⟨x, hx, hg, h3, h4⟩ := hx2
    have h5 : (⟨r1, 0, 1⟩ : Bk) ∈ l1 := (hm1 _ rfl).2 (.inr rfl)
    have : x = ⟨r1, 0, 1⟩ := tile_one ht1 hx h5 (f := r2) h3 h4 (by show r1 ≤ r2; omega) (by show r2 < r1 + 2 ^ 0; omega)
    subst this
    cases hg
  obtain ⟨_, hsm1⟩ := smS_ok (mk := S.mks) (n := S.n) (f := r1) (x := tblM) (by omega) (by decide)
  obtain ⟨_, hsm2⟩ := smS_ok (mk := smS S.mks S.n r1 tblM) (n := S.n) (f := r2) (x := tblM) (by omega) (by decide)
  have hmk : smS (smS S.mks S.n r1 tblM) S.n r2 tblM = upd (upd S.mks r1 tblM) r2 tblM := by rw [hsm2, hsm1]
  have hw : wdE S.n (r1 : Int) 0 = 0 := wdE_of (by omega) (by omega) (by omega) (by omega)
  have hby : slS S.by' S.n r1 0 r2 = wdS (fun _ => 0) S.n r1 0 (1 + 4 * (r2 : Int)) := by
    have : slE S.n r1 0 r2 = 0 := by unfold slE; rw [if_neg (by omega)]; exact hw
    unfold slS
    rw [if_pos this, if_neg (by omega), F.by']
    rfl
  have hx : 0 ≤ 1 + 4 * (r2 : Int) ∧ 1 + 4 * (r2 : Int) ≤ 18446744073709551615 := by omega
  have hL : upd (upd S.L 0 l1) 0 l2 = upd S.L 0 l2 := upd_upd _ _ _ _
  have tk : ∀ y : Bk, y.g = 1 → (y ∈ l2 ↔ y = ⟨r1, 0, 1⟩ ∨ y = ⟨r2, 0, 1⟩) := fun y hg => by
    rw [hm2 y hg, hm1 y hg]
    constructor
    · rintro ((hy | hy) | hy)
      · have := F.L 0 (by omega) y hy; omega
      · exact .inl hy
      · exact .inr hy
    · rintro (hy | hy)
      · exact .inl (.inr hy)
      · exact .inr hy
  exact {
    by' := by show ByR (slS S.by' S.n r1 0 r2); rw [hby]; exact wdS_r (fun _ => ⟨by decide, by decide⟩) _ _ _ _
    rl := ⟨by show r1 < S.n; omega, by show r2 < S.n; omega, hne⟩
    sp := ⟨b, rfl⟩
    root := by show upd S.root 1 _ 1 = _; exact upd_same _ _ _
    w0 := by
      show wdF (slS S.by' S.n r1 0 r2) S.n r1 0 = _
      rw [hby, wdF_set hx hw hw, if_pos ⟨rfl, rfl⟩]
    wz := fun j h1 h2 => by
      show wdF (slS S.by' S.n r1 0 r2) S.n r1 j = 0
      rw [hby, wdF_set hx hw (wdE_of (by omega) (by omega) (by omega) (by omega)), if_neg (by omega), wdF_zero]
    wl := fun j hj => by
      show wdF (slS S.by' S.n r1 0 r2) S.n r2 j = 0
      rw [hby, wdF_set hx hw (wdE_of (by omega) (by omega) (by omega) (by omega)), if_neg (by omega), wdF_zero]
    pgo := fun j f e => by cases e
    inj := fun j j' f e => by cases e
    hdr := fun f e => by cases e
    rof1 := fun j f e => by cases e
    rof2 := fun f _ e => by
      have e : (S.rof f).1 ≠ 0 := e
      rw [F.rof] at e
      exact absurd rfl e
    rat1 := fun kk v e => by
      have e : S.rat.lookup kk = some v := e
      rw [F.rat] at e
      cases e
    rat2 := fun j f e => by cases e
    ck := fun i hi => by
      show ClOk (S.ring i) (S.cof i)
      rw [F.ring, F.cof]
      exact ⟨(fun kk v e => by cases e), (fun kk => by simp), List.nodup_nil⟩
    ckm := fun i hi x => by
      show x ∈ S.ring i ↔ _
      rw [F.ring]
      simp
    mk1 := by
      show smS (smS S.mks S.n r1 tblM) S.n r2 tblM r1 = tblM ∧ smS (smS S.mks S.n r1 tblM) S.n r2 tblM r2 = tblM
      rw [hmk, upd_same, upd_ne _ _ hne, upd_same]
      exact ⟨rfl, rfl⟩
    mk2 := fun j f e => by cases e
    mk3 := fun f hf hn => by
      show smS (smS S.mks S.n r1 tblM) S.n r2 tblM f = mark0
      rw [hmk, upd_ne _ _ fun e => hn (.inr (.inl e)), upd_ne _ _ fun e => hn (.inl e), F.mks]
    tk1 := fun i hi y hy hg => by
      have hy : y ∈ upd (upd S.L 0 l1) 0 l2 i := hy
      rw [hL] at hy
      by_cases e : i = 0
      · subst e
        rw [upd_same] at hy
        rcases (tk y hg).1 hy with rfl | rfl
        · exact ⟨rfl, .inl (by show (fstF S.c 0).toNat + r1 = r1; rw [e0]; omega)⟩
        · exact ⟨rfl, .inr (.inl (by show (fstF S.c 0).toNat + r2 = r2; rw [e0]; omega))⟩
      · rw [upd_ne _ _ e] at hy
        have hi : i < S.nodes := hi
        have := F.L i (by omega) y hy
        omega
    tk2 := fun f hu => by
      have go : ∀ r : Nat, (⟨r, 0, 1⟩ : Bk) ∈ l2 → ∃ i y, i < S.nodes ∧ y ∈ upd (upd S.L 0 l1) 0 l2 i ∧ y.g = 1 ∧ (fstF S.c i).toNat + y.p = r := fun r hr => ⟨0, ⟨r, 0, 1⟩, by omega, by rw [upd_same]; exact hr, rfl, by show (fstF S.c 0).toNat + r = r; rw [e0]; omega⟩
      rcases hu with rfl | rfl | ⟨j, e⟩ | e
      · exact go _ ((tk _ rfl).2 (.inl rfl))
      · exact go _ ((tk _ rfl).2 (.inr rfl))
      · cases e
      · cases e
    cp := by simp
    cr := by
      show (owns S.n S.rof).length = 0
      rw [F.rof, owns0]
      rfl
    cc := by
      show sumN S.nodes (fun i => (S.ring i).length) = 0
      rw [F.ring]
      have : ∀ q, sumN q (fun _ : Nat => ([] : List Int).length) = 0 := fun q => by
        induction q with
        | zero => rfl
        | succ q ih => rw [sumN_succ, ih]; rfl
      exact this _
    cf := by
      show sumN S.nodes (fun i => fsum (upd (upd S.L 0 l1) 0 l2 i)) + 0 + 2 + 0 = S.n
      rw [hL]
      have e : (fun j => fsum (upd S.L 0 l2 j)) = upd (fun j => fsum (S.L j)) 0 (fsum l2) := by
        funext j
        by_cases e : j = 0
        · subst e; rw [upd_same, upd_same]
        · rw [upd_ne _ _ e, upd_ne _ _ e]
      have h2 := sumN_upd (n := S.nodes) (f := fun j => fsum (S.L j)) (i := 0) (v := fsum l2) (by omega)
      have h3 := fresh_sum h F (q := S.nodes) (Nat.le_refl _)
      have h4 : fstF S.c S.nodes = S.n := by have := hn.1; unfold Mach.nodes; omega
      rw [e]
      omega
    held := F.held
    fli := F.fli
    lh := F.lh }
end
set_option maxHeartbeats 2000000 in
theorem begun_spec {w : World} (hz : SizR w) (hw : 0 < w.heap.size) {c : Nat → Int} (hm : MayP c) : Calls Tryz.prog 22 #[cfgV c] w fun e w' => Kept none' w w' ∧ ∃ k S fp rt lf, e = .returned (.tuple #[ptr k, .bool true]) ∧ CoreAt w' k S fp ∧ S.c = c ∧ LSt S rt lf (fun _ => none) none 0 ∧ ∀ p x, fp p x → w.heap.size ≤ x := by
  refine (vc22 c w (fun v w' => Kept none' w w' ∧ ∃ k S fp rt lf, v = (.tuple #[ptr k, .bool true]) ∧ CoreAt w' k S fp ∧ S.c = c ∧ LSt S rt lf (fun _ => none) none 0 ∧ ∀ p x, fp p x → w.heap.size ≤ x) ?_).mono ?_
  rotate_left
  · rintro e w' ⟨v, rfl, hk, k, S, fp, rt, lf, rfl, h⟩
    exact ⟨hk, k, S, fp, rt, lf, rfl, h⟩
  unfold vcP22
  intro w1 e1
  have o1 := own_alloc e1
  have k1 : Kept none' w w1 := (Kept.refl _ _).al e1
  have hs1 := k1.sz
  refine ⟨c, o1.rIall, (core_new c (hz.k k1) (by omega)).mono ?_⟩
  rintro _ w2 ⟨k2, ⟨hno, _⟩ | ⟨_, k, S, fp, rfl, C2, hc, F, hfp⟩⟩
  · exact absurd hm hno
  have hs := C2.sizes
  have hf0 := C2.fst (i := 0) (by omega)
  have hr : ∀ {W : World} {S' : Mach} {fp' : Prt → Nat → Prop} (C : CoreAt W k S' fp') {j : Nat} {v : Value}, (coreT S')[j]? = some v → rd W k (0 + (94 + j)) = some v := fun C j v hv => C.rtW (Kept.refl _ _) hv
  have hfs : 0 < fsum (S.L 0) := by
    obtain ⟨_, _, hk⟩ := C2.zn
    have := fsum_all (C2.tile (i := 0) (by omega)) (F.L 0 (by omega))
    omega
  have hK : ∀ {W : World}, Kept (fun x => ∃ p, fp p x) w2 W → Kept none' w W := fun kk => own0 (k1.tr k2) kk fun x ⟨p, hp⟩ => by have := hfp p x hp; omega
  refine ⟨_, _, rfl, Wif_no rfl (Wif_yes rfl ⟨_, hr C2 (j := 1) rfl, (core_takeOf C2 (i := 0) (by omega) 0 false).mono ?_⟩)⟩
  rintro _ w3 ⟨a1, e1', l1, rfl, T3, R1⟩
  obtain rfl := takeR_e0 hfs R1
  obtain ⟨r1, rfl, hr1, hx1, hm1, hsum1⟩ := takeR_one (C2.tile (i := 0) (by omega)) R1
  obtain ⟨fp3, C3, f3⟩ := T3.ex
  have e3 : (S.setL (upd S.L 0 l1)).L 0 = l1 := by show upd S.L 0 l1 0 = l1; exact upd_same _ _ _
  have ht1 : Tile 0 l1 (S.c (18 + 0)).toNat := by have := C3.tile (i := 0) (by show 0 < S.nodes; omega); rw [e3] at this; exact this
  have hfs1 : 0 < fsum l1 := by
    obtain ⟨_, _, hk⟩ := C2.zn
    have := fsum_all (C2.tile (i := 0) (by omega)) (F.L 0 (by omega))
    omega
  refine ⟨_, _, rfl, Wif_yes rfl ⟨_, hr C3 (j := 1) rfl, (core_takeOf C3 (i := 0) (by show 0 < S.nodes; omega) 0 false).mono ?_⟩⟩
  rintro _ w4 ⟨a2, e2', l2, rfl, T4, R2⟩
  rw [e3] at R2
  obtain rfl := takeR_e0 hfs1 R2
  obtain ⟨r2, rfl, hr2, hx2, hm2, hsum2⟩ := takeR_one ht1 R2
  have S4 := T3.tr f3 T4
  obtain ⟨fp4, C4, f4⟩ := S4.ex
  have efst : fstF S.c 0 + (r1 : Int) = r1 := by show (0 : Int) + r1 = r1; omega
  have efst2 : fstF S.c 0 + (r2 : Int) = r2 := by show (0 : Int) + r2 = r2; omega
  have hn1 : r1 < S.n := by have := hf0.2.1; have : fstF S.c 0 = 0 := rfl; omega
  have hn2 : r2 < S.n := by have := hf0.2.1; have : fstF S.c 0 = 0 := rfl; omega
  have g1 := smS_ok (mk := S.mks) (n := S.n) (f := r1) (x := tblM) hn1 (by decide)
  have g2 := smS_ok (mk := smS S.mks S.n r1 tblM) (n := S.n) (f := r2) (x := tblM) hn2 (by decide)
  refine ⟨_, _, rfl, gIf_intro (fun _ => rfl) ⟨_, (fun _ => hr C4 (j := 0) rfl), Wif_no rfl ?_⟩⟩
  rw [if_pos rfl, if_pos rfl]
  show Calls Tryz.prog 95 #[ptr S.pm, vi (fstF S.c 0 + (r1 : Int)), .agg (markV tblM).toArray] w4 _
  rw [efst]
  refine (core_setMark C4 r1 tblM).mono ?_
  rintro _ w5 ⟨rfl, T5⟩
  have S5 := S4.tr f4 T5
  obtain ⟨fp5, C5, f5⟩ := S5.ex
  have z1 : smE S.n (r1 : Int) tblM = 0 := g1.1
  refine ⟨_, rfl, gIf_intro (fun _ => rfl) ⟨_, (fun _ => hr C5 (j := 0) rfl), Wif_no (by show (smE S.n (r1 : Int) tblM != 0) = false; rw [z1]; rfl) ?_⟩⟩
  show Calls Tryz.prog 95 #[ptr S.pm, vi (fstF S.c 0 + (r2 : Int)), .agg (markV tblM).toArray] w5 _
  rw [efst2]
  refine (core_setMark C5 r2 tblM).mono ?_
  rintro _ w6 ⟨rfl, T6⟩
  have S6 := S5.tr f5 T6
  obtain ⟨fp6, C6, f6⟩ := S6.ex
  have z2 : smE S.n (r2 : Int) tblM = 0 := g2.1
  refine ⟨_, rfl, Wif_no (by show (smE S.n (r2 : Int) tblM != 0) = false; rw [z2]; rfl) fun w7 e7 => ?_⟩
  have k7 : Kept none' w6 w7 := (Kept.refl _ _).dr e7
  have C7 := C6.k k7
  have hs7 : w7.heap.size = w6.heap.size := by rw [e7]; rfl
  refine Wif_yes rfl ?_
  have S7 := S6.tr f6 (C6.step0 k7)
  have f7 : ∀ p x, fp6 p x → fp p x ∨ rng w2 w7 x := fun p x hx => (f6 p x hx).imp id fun e => ⟨e.1, by have := e.2; omega⟩
  refine (newSpace_spec r1 w7).mono ?_
  rintro _ w8 ⟨b, rfl, k78, SP⟩
  have C8 := C7.k k78
  refine ⟨_, rfl, C8.so.wr (by rw [List.length_append, runI_len]; show 0 + 106 < 94 + 23; omega), fun w9 e9 => ?_⟩
  have T9 := core_space C7 (show (fun i => S.sp i) = fun _ => none from F.sp) k78 SP (show w9 = st w8 k 106 (ptr b) from e9)
  have S9 := S7.tr f7 T9
  obtain ⟨fp9, C9, f9⟩ := S9.ex
  refine Wif_yes rfl ⟨_, hr C9 (j := 12) rfl, gIf_intro (fun _ => rfl) ⟨_, (fun _ => hr C9 (j := 0) rfl), Wif_yes rfl ((core_setLeaf C9 r1 0 r2).mono ?_)⟩⟩
  rintro _ w10 ⟨rfl, T10⟩
  have S10 := S9.tr f9 T10
  obtain ⟨fp10, C10, f10⟩ := S10.ex
  have hsl : slE S.n (r1 : Int) 0 (r2 : Int) = 0 := by
    unfold slE
    rw [if_neg (by have := C2.n4; omega)]
    exact wdE_of (by omega) (by omega) (by decide) (by decide)
  refine ⟨_, rfl, hK S10.kp, k, _, fp10, r1, r2, ?_, C10, hc, LSt.begun C2 F (n0 := (S.c 18).toNat) rfl ht1 hr1 hr2 hm1 hsum1 hx2 hm2 hsum2 b, fun p x hx => ?_⟩
  · show Value.tuple #[_, Value.bool (slE S.n (r1 : Int) 0 (r2 : Int) == 0)] = _
    rw [hsl]
    rfl
  · rcases f10 p x hx with h | h
    · have := hfp p x h; omega
    · have := h.1; have := (k1.tr k2).sz; omega
def mapL (pg : Nat → Option Nat) (q : Nat) : List Mapped := (List.range q).filterMap fun j => (pg j).map fun f : Nat => ⟨(j : Int), 1, (f : Int)⟩
theorem mapL_succ (pg : Nat → Option Nat) (q : Nat) : mapL pg (q + 1) = mapL pg q ++ (match pg q with | some f => [⟨(q : Int), 1, (f : Int)⟩] | none => []) := by
  unfold mapL
  rw [List.range_succ, List.filterMap_append]
  congr 1
  cases h : pg q <;> simp [h]
theorem mapL_len (pg : Nat → Option Nat) : ∀ q, (mapL pg q).length = ((List.range q).filter fun j => (pg j).isSome).length
  | 0 => rfl
  | q + 1 => by
    rw [mapL_succ, List.length_append, mapL_len pg q, List.range_succ, List.filter_append, List.length_append]
    congr 1
    cases h : pg q <;> simp [h]
theorem mapL_mem {pg : Nat → Option Nat} {q : Nat} {x : Mapped} (h : x ∈ mapL pg q) : ∃ j f : Nat, j < q ∧ pg j = some f ∧ x = ⟨j, 1, f⟩ := by
  obtain ⟨j, hj, hx⟩ := List.mem_filterMap.1 h
  cases e : pg j with
  | none => rw [e] at hx; cases hx
  | some f =>
    rw [e] at hx
    exact ⟨j, f, List.mem_range.1 hj, e, (Option.some.inj hx).symm⟩
theorem mapL_mem' {pg : Nat → Option Nat} {q j f : Nat} (hj : j < q) (h : pg j = some f) : (⟨(j : Int), 1, (f : Int)⟩ : Mapped) ∈ mapL pg q :=
  List.mem_filterMap.2 ⟨j, List.mem_range.2 hj, by rw [h]; rfl⟩
section
variable {w : World} {k : Nat} {S : Mach} {fp : Prt → Nat → Prop} {rt lf cnt : Nat} {pg : Nat → Option Nat} {hd : Option Nat}
theorem LSt.pages (L : LSt S rt lf pg hd cnt) (h : CoreAt w k S fp) : pagesOf S.by' S.n (S.root 1) 1024 = mapL pg 32 := by
  have lo : ∀ q, q ≤ 32 → pagesOf S.by' S.n (S.root 1) q = mapL pg q := fun q hq => by
    induction q with
    | zero => rfl
    | succ q ih =>
      obtain ⟨g1, g2, g3⟩ := L.get h (j := q) (by omega)
      rw [pagesOf_succ, mapL_succ, ih (by omega), g1, g2, g3]
      cases pg q <;> simp
  have hi : ∀ q, 32 ≤ q → q ≤ 1024 → pagesOf S.by' S.n (S.root 1) q = mapL pg 32 := fun q h1 h2 => by
    induction q with
    | zero => omega
    | succ q ih =>
      by_cases e : q + 1 = 32
      · rw [e]; exact lo 32 (by omega)
      · obtain ⟨g1, g2⟩ := L.get0 h (page := q) (by omega)
        rw [pagesOf_succ, ih (by omega) (by omega), if_neg (fun e => e.2 g2), List.append_nil]
  exact hi 1024 (by omega) (by omega)
theorem LSt.procs (L : LSt S rt lf pg hd cnt) : procs S (procOf S) 9 = [procOf S 1] := by
  obtain ⟨b, hb⟩ := L.sp
  unfold Go.Proofs.YtklmokolnakkoaaGreatDoor.procs
  rw [hb]
  rfl
theorem LSt.own_mem (L : LSt S rt lf pg hd cnt) {x : Own} (hx : x ∈ owns S.n S.rof) : ∃ j f : Nat, pg j = some f ∧ x = ⟨f, 1, j⟩ := by
  unfold owns at hx
  obtain ⟨f, hf, rfl⟩ := List.mem_map.1 hx
  obtain ⟨h1, h2⟩ := List.mem_filter.1 hf
  obtain ⟨j, hj⟩ := L.rof2 f (List.mem_range.1 h1) (by simpa using h2)
  exact ⟨j, f, hj, by rw [L.rof1 j f hj]⟩
theorem zsh_mem {c : Nat → Int} {L : Nat → List Bk} : ∀ {q : Nat} {y : Nat × Nat}, y ∈ zsh c L q → ∃ i x, i < q ∧ x ∈ L i ∧ x.g = 0 ∧ y = ((fstF c i).toNat + x.p, x.o)
  | 0, y, h => by simp [zsh] at h
  | q + 1, y, h => by
    have e0 : zsh c L (q + 1) = zsh c L q ++ (bks (L q)).map fun y => ((fstF c q).toNat + y.1, y.2) := rfl
    rw [e0, List.mem_append] at h
    rcases h with h | h
    · obtain ⟨i, x, h1, h2⟩ := zsh_mem h
      exact ⟨i, x, by omega, h2⟩
    · obtain ⟨z, hz, rfl⟩ := List.mem_map.1 h
      obtain ⟨x, hx, rfl⟩ := List.mem_map.1 hz
      obtain ⟨h1, h2⟩ := mem_frB.1 hx
      exact ⟨q, x, by omega, h1, h2, rfl⟩
theorem zsh_sumN {c : Nat → Int} {L : Nat → List Bk} : ∀ q : Nat, ((zsh c L q).map fun y => 2 ^ y.2).sum = sumN q fun i => fsum (L i)
  | 0 => rfl
  | q + 1 => by
    have e0 : zsh c L (q + 1) = zsh c L q ++ (bks (L q)).map fun y => ((fstF c q).toNat + y.1, y.2) := rfl
    have e2 : (((bks (L q)).map fun y => ((fstF c q).toNat + y.1, y.2)).map fun y : Nat × Nat => 2 ^ y.2) = (bks (L q)).map fun y => 2 ^ y.2 := by rw [List.map_map]; rfl
    rw [e0, List.map_append, List.sum_append, e2, bks_sum, zsh_sumN q, sumN_succ]
theorem LSt.free_mk (L : LSt S rt lf pg none cnt) (h : CoreAt w k S fp) {y : Nat × Nat} (hy : y ∈ zsh S.Z.c S.L S.Z.k) : y.2 ≤ 10 ∧ y.1 + 2 ^ y.2 ≤ S.n ∧ ∀ f, y.1 ≤ f → f < y.1 + 2 ^ y.2 → S.mks f = mark0 := by
  obtain ⟨_, hc, hk⟩ := h.zn
  rw [hc] at hy
  obtain ⟨i, x, hi, hx, hg, rfl⟩ := zsh_mem hy
  have hi : i < S.nodes := by omega
  have hf := h.fst hi
  have hxt := tile_mem (h.tile hi) hx
  refine ⟨hxt.2.2.2, by show (fstF S.c i).toNat + x.p + 2 ^ x.o ≤ S.n; omega, fun f h1 h2 => ?_⟩
  have h1 : (fstF S.c i).toNat + x.p ≤ f := h1
  have h2 : f < (fstF S.c i).toNat + x.p + 2 ^ x.o := h2
  refine L.mk3 f (by omega) fun hu => ?_
  obtain ⟨j, z, hj, hz, hzg, he⟩ := L.tk2 f hu
  have hzo := (L.tk1 j hj z hz hzg).1
  have hzt := tile_mem (h.tile hj) hz
  rw [hzo] at hzt
  have hfj := h.fst hj
  unfold gfr at he
  have : j = i := node_uniq h.my (f := (f : Int)) (by unfold Mach.nodes at hj; exact hj) (by unfold Mach.nodes at hi; exact hi) (by omega) (by omega) (by omega) (by omega)
  subst this
  have : x = z := tile_one (h.tile hj) hx hz (f := z.p) (by omega) (by omega) (Nat.le_refl _) (by rw [hzo]; omega)
  subst this
  omega
end
theorem sumN_le {n : Nat} {f : Nat → Nat} {i : Nat} (hi : i < n) : f i ≤ sumN n f := by
  induction n with
  | zero => omega
  | succ n ih =>
    rw [sumN_succ]
    by_cases e : i = n
    · subst e; omega
    · have := ih (by omega); omega
theorem mapL_pw (pg : Nat → Option Nat) : ∀ q, (mapL pg q).Pairwise fun x y => x.page < y.page
  | 0 => List.Pairwise.nil
  | q + 1 => by
    rw [mapL_succ, List.pairwise_append]
    refine ⟨mapL_pw pg q, by cases pg q <;> simp, fun x hx y hy => ?_⟩
    obtain ⟨j, f, hj, _, rfl⟩ := mapL_mem hx
    cases h : pg q with
    | none => rw [h] at hy; cases hy
    | some g =>
      rw [h] at hy
      simp at hy
      subst hy
      show (j : Int) < (q : Int)
      omega
def atL (M : List Mapped) : List (Int × Value) := M.map fun x => (x.n, vi x.page)
section
variable {S : Mach} {rt lf cnt : Nat} {pg : Nat → Option Nat} {hd : Option Nat}
theorem LSt.at_none (L : LSt S rt lf pg hd cnt) {q : Nat} {x : Mapped} (hx : (mapL pg 32)[q]? = some x) : (atL ((mapL pg 32).take q)).lookup x.n = none := by
  refine lookup_none_of fun v hv => ?_
  obtain ⟨y, hy, he⟩ := List.mem_map.1 hv
  obtain ⟨i, hyi⟩ := List.mem_iff_getElem?.1 hy
  have hi := (List.getElem?_eq_some_iff.1 hyi).1
  rw [List.length_take] at hi
  rw [List.getElem?_take_of_lt (by omega)] at hyi
  have hq := (List.getElem?_eq_some_iff.1 hx).1
  have hlt := List.pairwise_iff_getElem.1 (mapL_pw pg 32) i q (by omega) hq (by omega)
  have e1 : (mapL pg 32)[i] = y := (List.getElem?_eq_some_iff.1 hyi).2
  have e2 : (mapL pg 32)[q] = x := (List.getElem?_eq_some_iff.1 hx).2
  rw [e1, e2] at hlt
  obtain ⟨j, f, _, hj, rfl⟩ := mapL_mem (List.mem_of_getElem? hx)
  obtain ⟨j', f', _, hj', rfl⟩ := mapL_mem (List.mem_of_mem_take hy)
  have he : ((f' : Int), vi (j' : Int)) = ((f : Int), v) := he
  have hff : f' = f := by
    have h9 : ((f' : Nat) : Int) = ((f : Nat) : Int) := congrArg Prod.fst he
    omega
  subst hff
  have := L.inj _ _ _ hj hj'
  subst this
  exact absurd hlt (by show ¬ ((j : Int) < (j : Int)); omega)
theorem LSt.at_some (L : LSt S rt lf pg hd cnt) {w : World} {m : Nat} (M : MapIs w m (atL (mapL pg 32))) {j f : Nat} (h : pg j = some f) : (atL (mapL pg 32)).lookup (f : Int) = some (vi j) :=
  lookup_of_mem M.nd (List.mem_map.2 ⟨_, mapL_mem' (L.pgo j f h).1 h, rfl⟩)
theorem LSt.cntM (L : LSt S rt lf pg hd cnt) : (mapL pg 32).length = cnt := by rw [mapL_len, L.cp]
theorem LSt.cnt32 (L : LSt S rt lf pg hd cnt) : cnt ≤ 32 := by
  rw [← L.cp]
  exact Nat.le_trans (List.length_filter_le _ _) (by simp)
theorem LSt.ring_len (L : LSt S rt lf pg hd cnt) {i : Nat} (hi : i < S.nodes) : (S.ring i).length ≤ 32 := by
  have := sumN_le (f := fun i => (S.ring i).length) hi
  have := L.cc
  have := L.cnt32
  omega
theorem sortI_mem {xs : List Int} {x : Int} : x ∈ sortI xs ↔ x ∈ xs := (List.mergeSort_perm xs _).mem_iff
end
end Go.Proofs.YtklmokolnakkoaaGreatDoor
