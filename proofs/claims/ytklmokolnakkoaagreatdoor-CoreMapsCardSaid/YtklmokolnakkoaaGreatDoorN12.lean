/-
  A part of a proof that a law of this seat returns true at every input. Conditions: those in each theorem.
-/
import Derived.Test.YtklmokolnakkoaaGreatDoorN3
import Derived.Test.YtklmokolnakkoaaGreatDoorB0
import Derived.Test.YtklmokolnakkoaaGreatDoorZ1
import Derived.Test.YtklmokolnakkoaaGreatDoorX5
set_option linter.unusedSimpArgs false
set_option linter.unusedVariables false
set_option maxRecDepth 100000
namespace Go.Proofs.YtklmokolnakkoaaGreatDoor
open Go Go.Eng
abbrev Mach.unmapped (S : Mach) (i : Nat) (page : Int) (f j : Nat) : Mach :=
  (((S.setBy (stS S.by' S.n (S.root 1) page 0 0)).setRm (upd S.rof f (0, 0)) (S.rat.filter fun p => p.1 != S.rof f)).setCk i (del (S.ring i) j) ((S.cof i).filter fun p => p.1 != (f : Int)))
section
variable {w : World} {k : Nat} {S : Mach} {fp : Prt → Nat → Prop} {rt lf cnt : Nat} {pg : Nat → Option Nat}
theorem LSt.unmap {f p : Nat} (L : LSt S rt lf pg none cnt) (h : CoreAt w k S fp) {i j : Nat} (hi : i < S.nodes) (h1 : fstF S.c i ≤ f) (h2 : (f : Int) < fstF S.c (i + 1)) (hpg : pg p = some f) (hj : (S.ring i)[j]? = some (f : Int)) :
    LSt (S.unmapped i p f j) rt lf (upd pg p none) (some f) (cnt - 1) := by
  have hn := h.n4
  obtain ⟨hrt, hlf, hrl⟩ := L.rl
  obtain ⟨hp, hfn, hfr, hfl, _⟩ := L.pgo p f hpg
  have hrof := L.rof1 p f hpg
  have hrz : (S.rof f).1 ≠ 0 := by rw [hrof]; exact (by decide : (1 : Int) ≠ 0)
  obtain ⟨hE, hN⟩ := L.lfE0 h (page := p) (by omega)
  have htm : Int.tmod (p : Int) 32 = p := by rw [Int.tmod_eq_emod_of_nonneg (by omega)]; omega
  have hwl : wdE S.n (lf : Int) (p : Int) = 0 := wdE_of (by omega) (by omega) (by omega) (by omega)
  have hst : stS S.by' S.n (S.root 1) p 0 0 = wdS S.by' S.n lf p 0 := by
    have e1 : ewE 0 0 = 0 := by decide
    have e2 : ewF 0 0 = 0 := by decide
    have : stE S.by' S.n (S.root 1) p 0 0 = 0 := by unfold stE; rw [if_neg (by omega), hE, if_neg (by omega), hN, htm, hwl]
    unfold stS
    rw [if_pos this, hN, htm, e2]
  have wdk : ∀ {a b : Int}, wdE S.n a b = 0 → wdF (wdS S.by' S.n lf p 0) S.n a b = if a = lf ∧ b = p then 0 else wdF S.by' S.n a b := fun hab => wdF_set (by omega) hwl hab
  have hfw : ∀ {t g : Nat}, upd pg p none t = some g → t ≠ p ∧ pg t = some g ∧ g ≠ f := fun {t g} e => by
    have ht : t ≠ p := fun e2 => by rw [e2, upd_same] at e; cases e
    rw [upd_ne _ _ ht] at e
    exact ⟨ht, e, fun e3 => ht (L.inj t p f (e3 ▸ e) hpg)⟩
  have hbk : ∀ {t g : Nat}, pg t = some g → g ≠ f → upd pg p none t = some g := fun {t g} e hg => by
    have ht : t ≠ p := fun e2 => by rw [e2, hpg] at e; exact hg (Option.some.inj e).symm
    rw [upd_ne _ _ ht]; exact e
  have hu1 : ∀ g, usedF rt lf (upd pg p none) (some f) g ↔ usedF rt lf pg none g := fun g => by
    unfold usedF
    constructor
    · rintro (e | e | ⟨t, e⟩ | e)
      · exact .inl e
      · exact .inr (.inl e)
      · exact .inr (.inr (.inl ⟨t, (hfw e).2.1⟩))
      · exact .inr (.inr (.inl ⟨p, by rw [hpg]; exact e⟩))
    · rintro (e | e | ⟨t, e⟩ | e)
      · exact .inl e
      · exact .inr (.inl e)
      · by_cases hg : g = f
        · exact .inr (.inr (.inr (by rw [hg])))
        · exact .inr (.inr (.inl ⟨t, hbk e hg⟩))
      · cases e
  have hcl := L.ck i hi
  have hpos : 1 ≤ (S.ring i).length := by have := (List.getElem?_eq_some_iff.1 hj).1; omega
  have hdl : (del (S.ring i) j).length + 1 = (S.ring i).length := by
    have := (List.getElem?_eq_some_iff.1 hj).1
    unfold del
    rw [List.length_append, List.length_take, List.length_drop]
    omega
  have hcp := filter_del hpg (n := 32)
  rw [L.cp, if_pos hp] at hcp
  exact {
    by' := by show ByR (stS S.by' S.n (S.root 1) p 0 0); rw [hst]; exact wdS_r L.by' _ _ _ _
    rl := L.rl
    sp := L.sp
    root := L.root
    w0 := by
      show wdF (stS S.by' S.n (S.root 1) p 0 0) S.n rt 0 = _
      rw [hst, wdk (wdE_of (by omega) (by omega) (by omega) (by omega)), if_neg (by omega)]
      exact L.w0
    wz := fun t ht1 ht2 => by
      show wdF (stS S.by' S.n (S.root 1) p 0 0) S.n rt t = _
      rw [hst, wdk (wdE_of (by omega) (by omega) (by omega) (by omega)), if_neg (by omega)]
      exact L.wz t ht1 ht2
    wl := fun t ht => by
      show wdF (stS S.by' S.n (S.root 1) p 0 0) S.n lf t = _
      rw [hst, wdk (wdE_of (by omega) (by omega) (by omega) (by omega))]
      by_cases e : t = p
      · subst e; rw [if_pos ⟨rfl, rfl⟩, upd_same]
      · rw [if_neg (by omega), upd_ne _ _ e]
        exact L.wl t ht
    pgo := fun t g e => by
      obtain ⟨_, e, hg⟩ := hfw e
      obtain ⟨a1, a2, a3, a4, _⟩ := L.pgo t g e
      exact ⟨a1, a2, a3, a4, fun e2 => hg (Option.some.inj e2).symm⟩
    inj := fun t t' g e e' => L.inj t t' g (hfw e).2.1 (hfw e').2.1
    hdr := fun g e => by
      have : f = g := Option.some.inj e
      subst this
      exact ⟨hfn, hfr, hfl⟩
    rof1 := fun t g e => by
      show upd S.rof f (0, 0) g = _
      obtain ⟨_, e, hg⟩ := hfw e
      rw [upd_ne _ _ hg]
      exact L.rof1 t g e
    rof2 := fun g hg e => by
      have e : (upd S.rof f (0, 0) g).1 ≠ 0 := e
      by_cases e2 : g = f
      · subst e2; rw [upd_same] at e; exact absurd rfl e
      · rw [upd_ne _ _ e2] at e
        obtain ⟨t, ht⟩ := L.rof2 g hg e
        exact ⟨t, hbk ht e2⟩
    rat1 := fun kk v e => by
      have e : (S.rat.filter fun p => p.1 != S.rof f).lookup kk = some v := e
      rw [look_filterG] at e
      split at e
      · cases e
      · rename_i hne
        obtain ⟨t, g, h3, h4, h5⟩ := L.rat1 _ _ e
        refine ⟨t, g, h3, hbk h4 fun e2 => hne ?_, h5⟩
        rw [hrof, h3, L.inj t p f (e2 ▸ h4) hpg]
    rat2 := fun t g e => by
      show ((S.rat.filter fun p => p.1 != S.rof f).lookup (1, (t : Int))).isSome = true
      obtain ⟨ht, e, _⟩ := hfw e
      rw [look_filterG, if_neg]
      · exact L.rat2 t g e
      · rw [hrof]
        intro e2
        have h9 : (t : Int) = (p : Int) := congrArg Prod.snd e2
        omega
    ck := fun t ht => by
      show ClOk (upd S.ring i _ t) (upd S.cof i _ t)
      by_cases e : t = i
      · subst e
        rw [upd_same, upd_same]
        refine ⟨fun kk v e => ?_, fun kk => ?_, del_nd hcl.nd⟩
        · rw [look_filter] at e
          split at e
          · cases e
          · exact hcl.v _ _ e
        · rw [look_filter, del_mem hcl.nd hj, ← hcl.r kk]
          by_cases e : kk = (f : Int) <;> simp [e]
      · rw [upd_ne _ _ e, upd_ne _ _ e]
        exact L.ck t ht
    ckm := fun t ht x => by
      show x ∈ upd S.ring i _ t ↔ _
      by_cases e : t = i
      · subst e
        rw [upd_same, del_mem hcl.nd hj, L.ckm t ht x]
        constructor
        · rintro ⟨⟨u, g, a1, rfl, a3⟩, hne⟩
          exact ⟨u, g, hbk a1 (by omega), rfl, a3⟩
        · rintro ⟨u, g, a1, rfl, a3⟩
          obtain ⟨_, a1, hg⟩ := hfw a1
          exact ⟨⟨u, g, a1, rfl, a3⟩, by omega⟩
      · rw [upd_ne _ _ e, L.ckm t ht x]
        constructor
        · rintro ⟨u, g, a1, a2, a3, a4⟩
          refine ⟨u, g, hbk a1 fun e3 => e ?_, a2, a3, a4⟩
          rw [e3] at a3 a4
          exact node_uniq h.my (f := (f : Int)) (by unfold Mach.nodes at ht; exact ht) (by unfold Mach.nodes at hi; exact hi) a3 a4 h1 h2
        · rintro ⟨u, g, a1, a2, a3⟩
          exact ⟨u, g, (hfw a1).2.1, a2, a3⟩
    mk1 := L.mk1
    mk2 := fun t g e => L.mk2 t g (hfw e).2.1
    mk3 := fun g hg hnu => L.mk3 g hg fun hu => hnu ((hu1 g).2 hu)
    tk1 := fun t ht y hy hg => by
      have := L.tk1 t ht y hy hg
      exact ⟨this.1, (hu1 _).2 this.2⟩
    tk2 := fun g hu => L.tk2 g ((hu1 g).1 hu)
    cp := by omega
    cr := by
      show (owns S.n (upd S.rof f (0, 0))).length = cnt - 1
      have := owns_del (n := S.n) hrz
      rw [if_pos hfn, L.cr] at this
      omega
    cc := by
      have e : (fun t => (upd S.ring i (del (S.ring i) j) t).length) = upd (fun t => (S.ring t).length) i ((del (S.ring i) j).length) := by
        funext t
        by_cases e : t = i
        · subst e; rw [upd_same, upd_same]
        · rw [upd_ne _ _ e, upd_ne _ _ e]
      have h4 := sumN_upd (n := S.nodes) (f := fun t => (S.ring t).length) (v := (del (S.ring i) j).length) hi
      have h5 := L.cc
      show sumN S.nodes (fun t => (upd S.ring i (del (S.ring i) j) t).length) = cnt - 1
      rw [e]
      omega
    cf := by
      have h3 := L.cf
      show sumN S.nodes (fun t => fsum (S.L t)) + (cnt - 1) + 2 + 1 = S.n
      simp at h3
      omega
    held := L.held
    fli := L.fli
    lh := L.lh }
end
open Go.Value (slice pointer)
/- (*byre/core.Core).Unmap -/
def vcP28 (k : OA) (pid page : Int) (w : World) (K : KV) : Prop := Wif (Option.isNone k) (K (.tuple #[vi 0, vi 1]) w) (Wif (decide (pid < 1) || decide (pid > 8)) (K (.tuple #[vi 0, vi 7]) w) (Wif (isP k) (Wif (inB pid 9) (∃ (x : OA), rd w (pb k) (po k + 105 + Int.toNat pid * 1) = some (.pointer x) ∧ Wif (Option.isNone x) (K (.tuple #[vi 0, vi 7]) w) (∃ (I : OA → Int → World → Prop), (∀ w1, w1 = w.drew → Wif (isP k) (∃ (x_1 : OA), rd w1 (pb k) (po k + 94) = some (.pointer x_1) ∧ Wif (isP x) (∃ (x_2 : Int), rd w1 (pb x) (po x + 1) = some (.int .i64 x_2) ∧ (Calls Tryz.prog 110 #[pointer x_1, vi x_2, vi page] w1 fun e w' => ∃ (n n_1 n_2 : Int), e = .returned (.tuple #[Value.agg #[Value.int .u8 n, vi n_1], vi n_2]) ∧ ∀ w'_1, w'_1 = w'.alloc (.cells #[Value.int .u8 0, vi 0] 94) → (wr w'_1 w'.heap.size 0 ∧ wr w'_1 w'.heap.size 1) ∧ ∀ w'_2, w'_2 = st (st w'_1 w'.heap.size 0 (Value.int .u8 n)) w'.heap.size 1 (vi n_1) → I (some (Addr.mk w'.heap.size 0 none)) n_2 w'_2) ∧ ∀ w', w' = w1.alloc (.cells #[Value.int .u8 0, vi 0] 94) → (rd w' (pb x) (po x + 1) = some (.int .i64 x_2) ∧ True) ∧ (rd w' (pb k) (po k + 94) = some (.pointer x_1) ∧ True) ∧ Calls Tryz.prog 110 #[pointer x_1, vi x_2, vi page] w' fun e w' => ∃ (n n_1 n_2 : Int), e = .returned (.tuple #[Value.agg #[Value.int .u8 n, vi n_1], vi n_2]) ∧ (wr w' w1.heap.size 0 ∧ wr w' w1.heap.size 1) ∧ ∀ w'_1, w'_1 = st (st w' w1.heap.size 0 (Value.int .u8 n)) w1.heap.size 1 (vi n_1) → I (some (Addr.mk w1.heap.size 0 none)) n_2 w'_1) False) False) ∧ ∀ (p : OA) (n : Int) (w' : World), I p n w' → ∀ w1, w1 = w'.drew → Wif (isP k) (∃ (x_1 : OA), rd w1 (pb k) (po k + 98) = some (.pointer x_1) ∧ Wif (isP p) (∃ (x_2 : Int), rd w1 (pb p) (po p + 1) = some (.int .i64 x_2) ∧ Calls Tryz.prog 74 #[pointer x_1, vi x_2] w1 fun e w' => ∃ (n_1 n_2 : Int) (b : Bool), e = .returned (.tuple #[vi n_1, vi n_2, Value.bool b]) ∧ gIf (isP p) ((n != 0) = false) (∃ (x_3 : Int), ((n != 0) = false → rd w' (pb p) (po p) = some (.int .u8 x_3)) ∧ Wif (n != 0 || x_3 != 1 || !b || n_1 != pid || n_2 != page) (K (.tuple #[vi 0, vi 7]) w') (∀ w1, w1 = w'.drew → Wif (isP k) (∃ (x_4 : OA), rd w1 (pb k) (po k + 94) = some (.pointer x_4) ∧ Wif (isP x) (∃ (x_5 : Int), rd w1 (pb x) (po x + 1) = some (.int .i64 x_5) ∧ Calls Tryz.prog 107 #[pointer x_4, vi x_5, vi page, Value.agg #[Value.int .u8 0, vi 0]] w1 fun e w' => ∃ (n : Int), e = Ending.returned (vi n) ∧ ∀ w1, w1 = w'.drew → Wif (isP k) (∃ (x : OA), rd w1 (pb k) (po k + 98) = some (.pointer x) ∧ Wif (isP p) (∃ (x_6 : Int), rd w1 (pb p) (po p + 1) = some (.int .i64 x_6) ∧ Calls Tryz.prog 111 #[pointer x, vi x_6] w1 fun e w' => ∃ (n : Int), e = Ending.returned (vi n) ∧ ∀ w1, w1 = w'.drew → Wif (isP k) (∃ (x : OA) (x_7 x_8 : Nat), rd w1 (pb k) (po k + 100) = some (.slice x x_7 x_8) ∧ Wif (isP p) (∃ (x_9 : Int), rd w1 (pb p) (po p + 1) = some (.int .i64 x_9) ∧ Wif (isP p) (∃ (x_10 : Int), rd w1 (pb p) (po p + 1) = some (.int .i64 x_10) ∧ Calls Tryz.prog 104 #[pointer k, vi x_9] w1 fun e w' => ∃ (n : Int), e = Ending.returned (vi n) ∧ (rd w' (pb p) (po p + 1) = some (.int .i64 x_10) ∧ True) ∧ (rd w' (pb k) (po k + 100) = some (.slice x x_7 x_8) ∧ True) ∧ Wif (isP x) (Wif (inB n x_7) (∃ (x_11 : OA), rd w' (pb x) (po x + Int.toNat n * 1) = some (.pointer x_11) ∧ Calls Tryz.prog 112 #[pointer x_11, vi x_10] w' fun e w' => ∃ (n : Int), e = Ending.returned (vi n) ∧ Wif (isP p) (∃ (x : Int), rd w' (pb p) (po p + 1) = some (.int .i64 x) ∧ K (.tuple #[vi x, vi 0]) w') False) False) False) False) False) False) False) False) False) False))) False) False)) False) False))
theorem vc28 (k : OA) (pid page : Int) (w : World) (K : KV) (h : vcP28 k pid page w K) : Calls Tryz.prog 28 #[pointer k, vi pid, vi page] w (fun e w' => ∃ v, e = .returned v ∧ K v w') := Eng.vc_of [167, 120, 130, 61, 133, 143, 134, 91, 103, 113, 98, 99, 169, 190, 216, 197, 162] 3 [4000006, 100600091, 100600100] Tryz.mixes Tryz.func28 (by kernel_rfl) (by kernel_rfl) (by kernel_rfl) h
section
variable {w : World} {k : Nat} {S : Mach} {fp : Prt → Nat → Prop} {rt lf cnt : Nat} {pg : Nat → Option Nat} {hd : Option Nat}
theorem LSt.getAny (L : LSt S rt lf pg hd cnt) (h : CoreAt w k S fp) (page : Int) :
    (∃ p f : Nat, page = p ∧ pg p = some f ∧ gtE S.by' S.n (S.root 1) page = 0 ∧ gtK S.by' S.n (S.root 1) page = 1 ∧ gtN S.by' S.n (S.root 1) page = f) ∨
    ((∀ p : Nat, page = p → pg p = none) ∧ gtN S.by' S.n (S.root 1) page = 0 ∧ (gtE S.by' S.n (S.root 1) page ≠ 0 ∨ gtK S.by' S.n (S.root 1) page ≠ 1)) := by
  by_cases h1 : 0 ≤ page ∧ page < 32
  · obtain ⟨p, rfl⟩ : ∃ p : Nat, page = p := ⟨page.toNat, by omega⟩
    obtain ⟨g1, g2, g3⟩ := L.get h (j := p) (by omega)
    cases e : pg p with
    | some f =>
      rw [e] at g2 g3
      exact .inl ⟨p, f, rfl, e, g1, g2, g3⟩
    | none =>
      rw [e] at g2 g3
      refine .inr ⟨fun q hq => ?_, g3, .inr (by rw [g2]; decide)⟩
      have : q = p := by omega
      rw [this]; exact e
  · have hno : ∀ p : Nat, page = p → pg p = none := fun p hp => by
      cases e : pg p with
      | none => rfl
      | some f => have := (L.pgo p f e).1; omega
    by_cases h2 : 32 ≤ page ∧ page < 1024
    · obtain ⟨g1, g2⟩ := L.get0 h h2
      obtain ⟨g3, _⟩ := L.lfE7 h h2
      refine .inr ⟨hno, ?_, .inr (by rw [g2]; decide)⟩
      unfold gtN
      rw [if_neg (by omega)]
    · have e2 : lfE S.by' S.n (S.root 1) page = 2 := by unfold lfE; rw [if_pos (by omega)]
      refine .inr ⟨hno, ?_, .inl ?_⟩
      · unfold gtN; rw [if_neg (by omega)]
      · unfold gtE; rw [if_neg (by omega), if_pos (by omega)]; omega
end
section
variable {w : World} {k : Nat} {S : Mach} {fp : Prt → Nat → Prop} {rt lf cnt : Nat} {pg : Nat → Option Nat}
set_option maxHeartbeats 2000000 in
theorem unmap_law (h : CoreAt w k S fp) (L : LSt S rt lf pg none cnt) (page : Int) :
    Calls Tryz.prog 28 #[ptr k, vi 1, vi page] w fun e w' =>
      (∃ (p f i : Nat) (S' : Mach), page = p ∧ pg p = some f ∧ e = .returned (.tuple #[vi f, vi 0]) ∧ S'.c = S.c ∧ S'.pz = S.pz ∧ i < S'.nodes ∧ fstF S'.c i ≤ f ∧ (f : Int) < fstF S'.c (i + 1) ∧ Step w w' k S' fp ∧ LSt S' rt lf (upd pg p none) (some f) (cnt - 1)) ∨
      ((∀ p : Nat, page = p → pg p = none) ∧ e = .returned (.tuple #[vi 0, vi 7]) ∧ Step w w' k S fp) := by
  refine (vc28 _ 1 page w (fun v w' => (∃ (p f i : Nat) (S' : Mach), page = p ∧ pg p = some f ∧ v = (.tuple #[vi f, vi 0]) ∧ S'.c = S.c ∧ S'.pz = S.pz ∧ i < S'.nodes ∧ fstF S'.c i ≤ f ∧ (f : Int) < fstF S'.c (i + 1) ∧ Step w w' k S' fp ∧ LSt S' rt lf (upd pg p none) (some f) (cnt - 1)) ∨
      ((∀ p : Nat, page = p → pg p = none) ∧ v = (.tuple #[vi 0, vi 7]) ∧ Step w w' k S fp)) ?_).mono ?_
  rotate_left
  · rintro e w' ⟨v, rfl, ⟨p, f, i, S', g1, g2, rfl, g3⟩ | ⟨g1, rfl, g2⟩⟩
    · exact .inl ⟨p, f, i, S', g1, g2, rfl, g3⟩
    · exact .inr ⟨g1, rfl, g2⟩
  have hn := h.n4
  have hs := h.sizes
  obtain ⟨b, hbs⟩ := L.sp
  have hb : S.sp 1 = some b := by rw [hbs]; rfl
  have esp : ∀ {W : World} {S' : Mach} {fp' : Prt → Nat → Prop}, CoreAt W k S' fp' → S'.sp 1 = some b → rd W k (0 + 105 + Int.toNat 1 * 1) = some (ptr b) := fun C e => by
    have := C.rt (j := 12) (v := spV (_)) rfl
    rw [e] at this
    exact this
  have ert : ∀ {W : World} {S' : Mach} {fp' : Prt → Nat → Prop}, CoreAt W k S' fp' → S'.sp 1 = some b → rd W b (0 + 1) = some (vi (S'.root 1)) := fun {W S' fp'} C e => by
    have SP : SpaceAt W (fp' (.space 1)) b (S'.root 1) := C.at' (.space 1) b e
    obtain ⟨_, _, _, _, a1, _⟩ := SP.ex
    rw [a1.rd]; rfl
  have e94 : ∀ {W : World}, Kept none' w W → rd W k (0 + 94) = some (ptr S.pm) := fun kk => h.rtW kk (j := 0) rfl
  unfold vcP28
  refine Wif_no rfl (Wif_no rfl (Wif_yes rfl (Wif_yes rfl ⟨_, esp h hb, Wif_no rfl ⟨fun p n W => ∃ b1 : Nat, p = some ⟨b1, 0, none⟩ ∧ n = gtE S.by' S.n (S.root 1) page ∧ Kept none' w W ∧ own W b1 [.int .u8 (gtK S.by' S.n (S.root 1) page), vi (gtN S.by' S.n (S.root 1) page)] ∧ w.heap.size ≤ b1, fun w1 e1 => ?_, ?_⟩⟩)))
  · have k1 : Kept none' w w1 := (Kept.refl _ _).dr e1
    have hs1 := k1.sz
    have C1 := h.k k1
    refine Wif_yes rfl ⟨_, e94 k1, Wif_yes rfl ⟨_, ert C1 hb, (core_get C1 L.by' _ page).mono ?_, fun w2 e2 => ?_⟩⟩
    · rintro _ w2 ⟨rfl, k12⟩
      have k2 := k1.tr k12
      have hs2 := k2.sz
      refine ⟨_, _, _, rfl, fun w3 e3 => ?_⟩
      have o3 : own w3 w2.heap.size [.int .u8 0, vi 0] := own_alloc e3
      have k3 : Kept none' w2 w3 := (Kept.refl _ _).al e3
      refine ⟨wr2 o3, fun w4 e4 => ?_⟩
      obtain ⟨o4, k4⟩ := st2w o3 e4
      exact ⟨_, rfl, rfl, k2.tr (own0 k3 k4 fun x e => by omega), o4, hs2⟩
    · have o2 : own w2 w1.heap.size [.int .u8 0, vi 0] := own_alloc e2
      have k2 : Kept none' w w2 := k1.al e2
      have C2 := h.k k2
      refine ⟨⟨ert C2 hb, trivial⟩, ⟨e94 k2, trivial⟩, (core_get C2 L.by' _ page).mono ?_⟩
      rintro _ w3 ⟨rfl, k23⟩
      have o3 := o2.k k23
      refine ⟨_, _, _, rfl, wr2 o3, fun w4 e4 => ?_⟩
      obtain ⟨o4, k4⟩ := st2w o3 e4
      exact ⟨_, rfl, rfl, own0 (k2.tr k23) k4 fun x e => by omega, o4, hs1⟩
  rintro _ _ w1 ⟨b1, rfl, rfl, k1, o1, hb1⟩
  intro w2 e2
  have k2 : Kept none' w w2 := k1.dr e2
  have o2 := o1.dr e2
  have C2 := h.k k2
  obtain ⟨r0, r1⟩ := rd2 o2
  have hkb : ∀ {W : World}, Kept (fun x => ∃ p, fp p x) w2 W → own W b1 [.int .u8 (gtK S.by' S.n (S.root 1) page), vi (gtN S.by' S.n (S.root 1) page)] := fun kk => o2.kx kk fun ⟨p, hp⟩ => by have := (h.lt p _ hp).2; omega
  refine Wif_yes rfl ⟨_, h.rtW k2 (j := 4) rfl, Wif_yes rfl ⟨_, r1, ?_⟩⟩
  rcases L.getAny h page with ⟨p, f, rfl, hpg, gE, gK, gN⟩ | ⟨hno, gN, gEK⟩
  rotate_left
  · rw [gN]
    refine (core_rget C2 (i := 0) (by omega)).mono ?_
    rintro _ w3 ⟨rfl, k3⟩
    have o3 := o2.k k3
    refine ⟨_, _, _, rfl, gIf_intro (fun _ => rfl) ⟨gtK S.by' S.n (S.root 1) page, (fun _ => (rd2 o3).1), Wif_yes ?_ (.inr ⟨hno, rfl, h.step0 (k2.tr k3)⟩)⟩⟩
    rcases gEK with h9 | h9
    · simp [h9]
    · simp [h9]
  obtain ⟨hp, hfn, hfr, hfl, _⟩ := L.pgo p f hpg
  have hrof := L.rof1 p f hpg
  rw [gN]
  refine (core_rget C2 hfn).mono ?_
  rintro _ w3 ⟨rfl, k3⟩
  have K3 := k2.tr k3
  have o3 := o2.k k3
  refine ⟨_, _, _, rfl, gIf_intro (fun _ => rfl) ⟨gtK S.by' S.n (S.root 1) p, (fun _ => (rd2 o3).1), Wif_no (by rw [gE, gK, hrof]; simp) fun w4 e4 => ?_⟩⟩
  have K4 : Kept none' w w4 := K3.dr e4
  have k24 : Kept none' w2 w4 := k3.dr e4
  have C4 := h.k K4
  have S4 := h.step0 K4
  refine Wif_yes rfl ⟨_, e94 K4, Wif_yes rfl ⟨_, ert C4 hb, (core_set C4 L.by' _ p 0 0).mono ?_⟩⟩
  rintro _ w5 ⟨rfl, T5⟩
  have S5 := S4.tr (fun _ _ => .inl) T5
  obtain ⟨fp5, C5, f5'⟩ := T5.ex
  have f5 : ∀ p x, fp5 p x → fp p x ∨ rng w w5 x := fun p x hx => (f5' p x hx).imp id fun e => ⟨by have := K4.sz; have := e.1; omega, e.2⟩
  have hb4 : b1 < w4.heap.size := (o2.k k24).lt
  have nb5 : ∀ p, ¬ fp5 p b1 := fun p hp => by
    rcases f5' p _ hp with h9 | h9
    · have := (h.lt p _ h9).2; omega
    · have := h9.1; omega
  have kb5 : Kept (fun x => ∃ p, fp p x) w2 w5 := (k24.mono fun _ _ e => e.elim).trans T5.kp fun _ _ e => e
  refine ⟨_, rfl, fun w6 e6 => ?_⟩
  have k56 : Kept none' w5 w6 := (Kept.refl _ _).dr e6
  have C6 := C5.k k56
  have S6 := S5.tr f5 (C5.step0 k56)
  have f6 : ∀ p x, fp5 p x → fp p x ∨ rng w w6 x := fun p x hx => (f5 p x hx).imp id fun e => ⟨e.1, by have := k56.sz; have := e.2; omega⟩
  have kb6 := kb5.trans (k56.mono fun _ _ e => e.elim) fun x _ (e : ∃ p, fp p x) => e
  have o6 := hkb kb6
  rw [gN] at o6
  refine Wif_yes rfl ⟨_, C5.rtW k56 (j := 4) rfl, Wif_yes rfl ⟨_, (rd2 o6).2, (core_rclear C6 (i := f) hfn (by show (S.rof f).1 ≠ 0; rw [hrof]; exact (by decide : (1 : Int) ≠ 0))).mono ?_⟩⟩
  rintro _ w7 ⟨rfl, T7⟩
  have S7 := S6.tr f6 T7
  obtain ⟨fp7, C7, f7'⟩ := T7.ex
  have s26 := S6.kp.sz
  have f7 : ∀ p x, fp7 p x → fp p x ∨ rng w w7 x := fun p x hx => by
    rcases f7' p x hx with h9 | h9
    · exact (f6 p x h9).imp id fun e => ⟨e.1, by have := T7.kp.sz; have := e.2; omega⟩
    · exact .inr ⟨by have := h9.1; omega, h9.2⟩
  have o7 := o6.kx T7.kp fun ⟨p, hp⟩ => nb5 p hp
  have hb6 : b1 < w6.heap.size := o6.lt
  have nb7 : ∀ p, ¬ fp7 p b1 := fun p hp => by
    rcases f7' p _ hp with h9 | h9
    · exact nb5 p h9
    · have := h9.1; omega
  refine ⟨_, rfl, fun w8 e8 => ?_⟩
  have k78 : Kept none' w7 w8 := (Kept.refl _ _).dr e8
  have C8 := C7.k k78
  have o8 := o7.k k78
  obtain ⟨i, hi, h1, h2⟩ : ∃ i, i < S.nodes ∧ fstF S.c i ≤ f ∧ (f : Int) < fstF S.c (i + 1) := by
    obtain ⟨t, y, ht, hy, hyg, he⟩ := L.tk2 f (.inr (.inr (.inl ⟨p, hpg⟩)))
    have hyo := (L.tk1 t ht y hy hyg).1
    have hyt := tile_mem (h.tile ht) hy
    rw [hyo] at hyt
    have hft := h.fst ht
    unfold gfr at he
    exact ⟨t, ht, by omega, by omega⟩
  have hfr' : (f : Int) ∈ S.ring i := (L.ckm i hi _).2 ⟨p, f, hpg, rfl, h1, h2⟩
  obtain ⟨j, hj⟩ := first_of hfr'
  have h32 : (S.ring i).length ≤ 100000 := by
    have h3 := L.cc
    have h4 : cnt ≤ 32 := by
      rw [← L.cp]
      exact Nat.le_trans (List.length_filter_le _ _) (by simp)
    have h5 : ∀ {t n : Nat}, t < n → (S.ring t).length ≤ sumN n fun i => (S.ring i).length := fun {t n} ht => by
      induction n with
      | zero => omega
      | succ n ih =>
        rw [sumN_succ]
        by_cases e : t = n
        · subst e; omega
        · have := ih (by omega); omega
    have := h5 hi
    omega
  obtain ⟨g, cp, cb, hvk, _, _, _⟩ := core_clk C8 (i := i) hi
  have r8 : ∀ {W : World}, Kept none' w8 W → rd W k (0 + 100) = some (.slice (some ⟨g, 0, none⟩) S.nodes cp) := fun kk => by
    have := C8.rtW kk (j := 6) rfl
    rw [hvk] at this
    exact this
  refine Wif_yes rfl ⟨_, _, _, r8 (Kept.refl _ _), Wif_yes rfl ⟨_, (rd2 o8).2, Wif_yes rfl ⟨_, (rd2 o8).2, (core_node C8 f (by omega)).mono ?_⟩⟩⟩
  rintro _ w9 ⟨k9, ⟨i', hi', q1, q2, rfl⟩ | ⟨q1, _⟩⟩
  rotate_left
  · exfalso
    have q1 : (f : Int) < 0 ∨ fstF S.c S.nodes ≤ f := q1
    have := fst_le h.my (i := i + 1) (j := S.nodes) (by omega) (Nat.le_refl _)
    omega
  have : i' = i := node_uniq h.my hi' hi q1 q2 h1 h2
  subst this
  have C9 := C8.k k9
  have o9 := o8.k k9
  obtain ⟨g2, cp2, cb2, hvk2, hrd2, _, hrem⟩ := core_clk C9 (i := i') hi
  have eg : g2 = g := by rw [hvk] at hvk2; cases hvk2; rfl
  subst eg
  refine ⟨_, rfl, ⟨(rd2 o9).2, trivial⟩, ⟨r8 k9, trivial⟩, Wif_yes rfl (Wif_yes (inB_of (by omega) (by omega)) ⟨_, by rw [Int.toNat_natCast, Nat.mul_one]; show rd w9 g2 (0 + i') = _; rw [Nat.zero_add]; exact hrd2, (hrem (L.ck i' hi) hj h32).mono ?_⟩)⟩
  rintro _ w10 ⟨rfl, T10⟩
  have o10 := o9.kx T10.kp fun ⟨p, hp⟩ => nb7 p hp
  have S9 := S7.tr f7 (C7.step0 (k78.tr k9))
  have f9 : ∀ p x, fp7 p x → fp p x ∨ rng w w9 x := fun p x hx => (f7 p x hx).imp id fun e => ⟨e.1, by have := (k78.tr k9).sz; have := e.2; omega⟩
  exact ⟨_, rfl, Wif_yes rfl ⟨_, (rd2 o10).2, .inl ⟨p, f, i', S.unmapped i' p f j, rfl, hpg, rfl, rfl, rfl, hi, h1, h2, S9.tr f9 T10, L.unmap h hi h1 h2 hpg hj.1⟩⟩⟩
end
theorem newSpace_spec (root : Int) (w : World) : Calls Tryz.prog 96 #[vi root] w fun e w' => ∃ b, e = .returned (ptr b) ∧ Kept none' w w' ∧ SpaceAt w' (rng w w') b root := by
  refine (vc96 root w (fun v w' => ∃ b, v = ptr b ∧ Kept none' w w' ∧ SpaceAt w' (rng w w') b root) ?_).mono ?_
  rotate_left
  · rintro e w' ⟨v, rfl, b, rfl, h⟩
    exact ⟨b, rfl, h⟩
  unfold vcP96
  refine (vc147 w (fun v w' => v = ptr w.heap.size ∧ w' = w.alloc (.cells #[.slice none 0 0] 302)) (by unfold vcP147; exact fun w1 e1 => ⟨rfl, e1⟩)).mono ?_
  rintro _ w1 ⟨v, rfl, rfl, e1⟩
  have o1 : own w1 w.heap.size [.slice none 0 0] := own_alloc e1
  have k1 : Kept none' w w1 := (Kept.refl _ _).al e1
  refine ⟨_, rfl, ?_⟩
  refine (vc148 1024 w1 (fun v w' => ∃ pb' wb, v = ptr pb' ∧ Kept none' w1 w' ∧ own w' pb' [.slice (some ⟨wb, 0, none⟩) 16 16, vi 1024] ∧ own w' wb (List.replicate 16 (.int .u64 0)) ∧ w1.heap.size ≤ pb' ∧ w1.heap.size ≤ wb) ?_).mono ?_
  · unfold vcP148
    simp only [gt_iff_lt, show ¬ ((1024 : Int) < 0) by decide, show ¬ ((65536 : Int) < 1024) by decide, if_false]
    have e2 : IntKind.wrap .i64 (Int.tdiv (IntKind.wrap .i64 (1024 + 63)) 64) = 16 := by decide
    rw [e2]
    refine Wif_yes (by decide) fun w2 e3 w3 e4 => ?_
    have o2 : own w2 w1.heap.size (List.replicate 16 (.int .u64 0)) := own_alloc e3
    have o3 : own w3 w2.heap.size [.slice (some ⟨w1.heap.size, 0, none⟩) 16 16, vi 1024] := own_alloc e4
    have k2 : Kept none' w1 w2 := (Kept.refl _ _).al e3
    exact ⟨_, _, rfl, k2.al e4, o3, o2.al e4, k2.sz, Nat.le_refl _⟩
  rintro _ w2 ⟨v, rfl, pb', wb, rfl, k2, p1, p2, hp1, hp2⟩
  refine ⟨_, rfl, fun w3 e3 w4 e4 => ?_⟩
  have m3 : MapIs w3 w2.heap.size [] := map_new e3
  have k3 : Kept none' w2 w3 := e3 ▸ (Kept.refl _ _).allocMap _ _
  have o4 : own w4 w3.heap.size [ptr w.heap.size, vi root, ptr pb', .int .u8 0, .int .u8 0, .map (some w2.heap.size)] := own_alloc e4
  have k4 : Kept none' w3 w4 := (Kept.refl _ _).al e4
  have s1 := k1.sz
  have s2 := k2.sz
  have s3 := k3.sz
  have l1 := o1.lt
  have l4 := o4.lt
  have lm := m3.lt
  have lp := p1.lt
  have lw := p2.lt
  have s4 := k4.sz
  have ka : Kept none' w2 w4 := k3.tr k4
  refine ⟨_, rfl, (k1.tr k2).tr ka, ⟨w.heap.size, pb', wb, w2.heap.size, o4, (o1.k k2).k ka, p1.k ka, p2.k ka, m3.k k4, ?_, ?_, ?_, ?_, ?_⟩⟩ <;> exact ⟨by omega, by omega⟩
section
variable {w : World} {k : Nat} {S : Mach} {fp : Prt → Nat → Prop}
abbrev Mach.setSp (S : Mach) (b : Nat) (rt : Int) : Mach := { S with sp := fun i => if i = 1 then some b else none, root := upd S.root 1 rt }
theorem core_space (h : CoreAt w k S fp) (hsp : S.sp = fun _ => none) {w1 w2 : World} {b : Nat} {rt : Int} (k1 : Kept none' w w1) (SP : SpaceAt w1 (rng w w1) b rt) (e : w2 = st w1 k 106 (ptr b)) : Step w w2 k (S.setSp b rt) fp := by
  have hk := h.at' .core
  have hk0 : k < w.heap.size := h.k0
  have k2 : Kept (· = k) w1 w2 := (Kept.refl _ _).s1 e (.inl rfl)
  have K2 : Kept (· = k) w w2 := (k1.mono fun _ _ e => e.elim).trans k2 fun _ _ e => e
  have hs2 : w2.heap.size = w1.heap.size := by rw [e]; simp
  refine ⟨K2.mono fun x _ e => ⟨.core, e ▸ hk.2⟩, _, h.upd (fun p => p = .core ∨ p = .space 1) (.space 1) K2 (fun x hx _ => ⟨.core, .inl rfl, hx ▸ hk.2⟩) rfl (fun p F W hp hq => ?_) (.inr rfl) fun p hp => ?_, fun p x hx => hx.imp id fun e => e.2⟩
  · cases p with
    | core => exact absurd (.inl rfl) hp
    | space i =>
      intro b' hb'
      have hb' : (if i = 1 then some b else none) = some b' := hb'
      have : i ≠ 1 := fun e => hp (.inr (by rw [e]))
      rw [if_neg this] at hb'
      cases hb'
    | _ => exact hq
  · rcases hp with rfl | rfl
    · refine ⟨?_, .inl hk.2⟩
      have o1 := (hk.1.k k1)
      have o2 := cset (i := 12) (v := ptr b) o1 (show w2 = st w1 k (94 + 12) (ptr b) from e)
      have : (coreT S).set 12 (ptr b) = coreT (S.setSp b rt) := by
        unfold coreT
        rw [hsp]
        rfl
      rw [this] at o2
      exact o2
    · intro b' hb'
      have hb' : (if 1 = 1 then some b else none) = some b' := hb'
      rw [if_pos rfl] at hb'
      cases hb'
      obtain ⟨ab, pb', wb, mb, a1, a2, a3, a4, a5, f1, f2, f3, f4, f5⟩ := SP.ex
      have ne : ∀ x, rng w w1 x → x ≠ k := fun x hx e => by have := hx.1; omega
      have fr : ∀ x, rng w w1 x → fp (.space 1) x ∨ (Prt.space 1 = Prt.space 1 ∧ rng w w2 x) := fun x hx => .inr ⟨rfl, hx.1, by have := hx.2; omega⟩
      have hrt : (S.setSp b rt).root 1 = rt := by show upd S.root 1 rt 1 = rt; exact upd_same _ _ _
      rw [hrt]
      exact ⟨ab, pb', wb, mb, a1.kx k2 (ne _ f1), a2.kx k2 (ne _ f2), a3.kx k2 (ne _ f3), a4.kx k2 (ne _ f4), a5.kx k2 (ne _ f5), fr _ f1, fr _ f2, fr _ f3, fr _ f4, fr _ f5⟩
end
theorem takeR_e0 {l l' : List Bk} {high : Bool} {a e : Int} (hs : 0 < fsum l) (T : TakeR l 0 high a e l') : e = 0 := by
  rcases T with ⟨h, _⟩ | ⟨o, h0, _, h, _⟩ | ⟨_, _, _, _, _, _, _, _, _, _, _, h, _⟩
  · omega
  · obtain ⟨x, hx, hg⟩ := fsum_free hs
    have := h x hx hg
    omega
  · exact h
theorem wordK_zero (o : Nat) : ∀ k, wordK (fun _ => 0) o k = 0
  | 0 => rfl
  | k + 1 => by unfold wordK; rw [wordK_zero o k, Int.zero_mul]; rfl
theorem wdF_zero (n : Nat) (a b : Int) : wdF (fun _ => 0) n a b = 0 := by
  unfold wdF
  split
  · exact wordK_zero _ _
  · rfl
section
variable {w : World} {k : Nat} {S : Mach} {fp : Prt → Nat → Prop}
theorem fresh_sum (h : CoreAt w k S fp) (F : Fresh S) : ∀ {q : Nat}, q ≤ S.nodes → ((sumN q (fun i => fsum (S.L i)) : Nat) : Int) = fstF S.c q
  | 0, _ => rfl
  | q + 1, hq => by
    obtain ⟨_, _, hk⟩ := h.zn
    have ih := fresh_sum h F (q := q) (by omega)
    have hf := h.fst (i := q) (by omega)
    have h1 := fsum_all (h.tile (i := q) (by omega)) (F.L q (by omega))
    rw [sumN_succ]
    omega
theorem LSt.begun (h : CoreAt w k S fp) (F : Fresh S) {l1 l2 : List Bk} {r1 r2 : Nat} {n0 : Nat} (hn0 : n0 = (S.c 18).toNat) (ht1 : Tile 0 l1 n0) (hr1 : r1 < n0) (hr2 : r2 < n0) (hm1 : ∀ y : Bk, y.g = 1 → (y ∈ l1 ↔ y ∈ S.L 0 ∨ y = ⟨r1, 0, 1⟩)) (hs1 : fsum l1 + 1 = fsum (S.L 0))
    (hx2 : ∃ x ∈ l1, x.g = 0 ∧ x.p ≤ r2 ∧ r2 < x.p + 2 ^ x.o) (hm2 : ∀ y : Bk, y.g = 1 → (y ∈ l2 ↔ y ∈ l1 ∨ y = ⟨r2, 0, 1⟩)) (hs2 : fsum l2 + 1 = fsum l1) (b : Nat) :
    LSt ((((((S.setL (upd S.L 0 l1)).setL (upd (upd S.L 0 l1) 0 l2)).setMk (smS S.mks S.n r1 tblM)).setMk (smS (smS S.mks S.n r1 tblM) S.n r2 tblM)).setSp b r1).setBy (slS S.by' S.n r1 0 r2)) r1 r2 (fun _ => none) none 0 := by
  have hs := h.sizes
  have hn := h.n4
  have hf0 := h.fst (i := 0) (by omega)
  have e0 : fstF S.c 0 = 0 := rfl
  have hn0' : (n0 : Int) ≤ S.n := by
    have : S.c (18 + 0) = S.c 18 := rfl
    omega
  obtain ⟨_, _, hk⟩ := h.zn
  have hne : r1 ≠ r2 := fun e => by
    obtain ⟨x, hx, hg, h3, h4⟩ := hx2
    have h5 : (⟨r1, 0, 1⟩ : Bk) ∈ l1 := (hm1 _ rfl).2 (.inr rfl)
    have : x = ⟨r1, 0, 1⟩ := tile_one ht1 hx h5 (f := r2) h3 h4 (by show r1 ≤ r2; omega) (by show r2 < r1 + 2 ^ 0; omega)
    subst this
    cases hg
  obtain ⟨_, hsm1⟩ := smS_ok (mk := S.mks) (n := S.n) (f := r1) (x := tblM) (by omega) (by decide)
  obtain ⟨_, hsm2⟩ := smS_ok (mk := smS S.mks S.n r1 tblM) (n := S.n) (f := r2) (x := tblM) (by omega) (by decide)
  have hmk : smS (smS S.mks S.n r1 tblM) S.n r2 tblM = upd (upd S.mks r1 tblM) r2 tblM := by rw [hsm2, hsm1]
  have hw : wdE S.n (r1 : Int) 0 = 0 := wdE_of (by omega) (by omega) (by omega) (by omega)
  have hby : slS S.by' S.n r1 0 r2 = wdS (fun _ => 0) S.n r1 0 (1 + 4 * (r2 : Int)) := by
    have : slE S.n r1 0 r2 = 0 := by unfold slE; rw [if_neg (by omega)]; exact hw
    unfold slS
    rw [if_pos this, if_neg (by omega), F.by']
    rfl
  have hx : 0 ≤ 1 + 4 * (r2 : Int) ∧ 1 + 4 * (r2 : Int) ≤ 18446744073709551615 := by omega
  have hL : upd (upd S.L 0 l1) 0 l2 = upd S.L 0 l2 := upd_upd _ _ _ _
  have tk : ∀ y : Bk, y.g = 1 → (y ∈ l2 ↔ y = ⟨r1, 0, 1⟩ ∨ y = ⟨r2, 0, 1⟩) := fun y hg => by
    rw [hm2 y hg, hm1 y hg]
    constructor
    · rintro ((hy | hy) | hy)
      · have := F.L 0 (by omega) y hy; omega
      · exact .inl hy
      · exact .inr hy
    · rintro (hy | hy)
      · exact .inl (.inr hy)
      · exact .inr hy
  exact {
    by' := by show ByR (slS S.by' S.n r1 0 r2); rw [hby]; exact wdS_r (fun _ => ⟨by decide, by decide⟩) _ _ _ _
    rl := ⟨by show r1 < S.n; omega, by show r2 < S.n; omega, hne⟩
    sp := ⟨b, rfl⟩
    root := by show upd S.root 1 _ 1 = _; exact upd_same _ _ _
    w0 := by
      show wdF (slS S.by' S.n r1 0 r2) S.n r1 0 = _
      rw [hby, wdF_set hx hw hw, if_pos ⟨rfl, rfl⟩]
    wz := fun j h1 h2 => by
      show wdF (slS S.by' S.n r1 0 r2) S.n r1 j = 0
      rw [hby, wdF_set hx hw (wdE_of (by omega) (by omega) (by omega) (by omega)), if_neg (by omega), wdF_zero]
    wl := fun j hj => by
      show wdF (slS S.by' S.n r1 0 r2) S.n r2 j = 0
      rw [hby, wdF_set hx hw (wdE_of (by omega) (by omega) (by omega) (by omega)), if_neg (by omega), wdF_zero]
    pgo := fun j f e => by cases e
    inj := fun j j' f e => by cases e
    hdr := fun f e => by cases e
    rof1 := fun j f e => by cases e
    rof2 := fun f _ e => by
      have e : (S.rof f).1 ≠ 0 := e
      rw [F.rof] at e
      exact absurd rfl e
    rat1 := fun kk v e => by
      have e : S.rat.lookup kk = some v := e
      rw [F.rat] at e
      cases e
    rat2 := fun j f e => by cases e
    ck := fun i hi => by
      show ClOk (S.ring i) (S.cof i)
      rw [F.ring, F.cof]
      exact ⟨(fun kk v e => by cases e), (fun kk => by simp), List.nodup_nil⟩
    ckm := fun i hi x => by
      show x ∈ S.ring i ↔ _
      rw [F.ring]
      simp
    mk1 := by
      show smS (smS S.mks S.n r1 tblM) S.n r2 tblM r1 = tblM ∧ smS (smS S.mks S.n r1 tblM) S.n r2 tblM r2 = tblM
      rw [hmk, upd_same, upd_ne _ _ hne, upd_same]
      exact ⟨rfl, rfl⟩
    mk2 := fun j f e => by cases e
    mk3 := fun f hf hn => by
      show smS (smS S.mks S.n r1 tblM) S.n r2 tblM f = mark0
      rw [hmk, upd_ne _ _ fun e => hn (.inr (.inl e)), upd_ne _ _ fun e => hn (.inl e), F.mks]
    tk1 := fun i hi y hy hg => by
      have hy : y ∈ upd (upd S.L 0 l1) 0 l2 i := hy
      rw [hL] at hy
      by_cases e : i = 0
      · subst e
        rw [upd_same] at hy
        rcases (tk y hg).1 hy with rfl | rfl
        · exact ⟨rfl, .inl (by show (fstF S.c 0).toNat + r1 = r1; rw [e0]; omega)⟩
        · exact ⟨rfl, .inr (.inl (by show (fstF S.c 0).toNat + r2 = r2; rw [e0]; omega))⟩
      · rw [upd_ne _ _ e] at hy
        have hi : i < S.nodes := hi
        have := F.L i (by omega) y hy
        omega
    tk2 := fun f hu => by
      have go : ∀ r : Nat, (⟨r, 0, 1⟩ : Bk) ∈ l2 → ∃ i y, i < S.nodes ∧ y ∈ upd (upd S.L 0 l1) 0 l2 i ∧ y.g = 1 ∧ (fstF S.c i).toNat + y.p = r := fun r hr => ⟨0, ⟨r, 0, 1⟩, by omega, by rw [upd_same]; exact hr, rfl, by show (fstF S.c 0).toNat + r = r; rw [e0]; omega⟩
      rcases hu with rfl | rfl | ⟨j, e⟩ | e
      · exact go _ ((tk _ rfl).2 (.inl rfl))
      · exact go _ ((tk _ rfl).2 (.inr rfl))
      · cases e
      · cases e
    cp := by simp
    cr := by
      show (owns S.n S.rof).length = 0
      rw [F.rof, owns0]
      rfl
    cc := by
      show sumN S.nodes (fun i => (S.ring i).length) = 0
      rw [F.ring]
      have : ∀ q, sumN q (fun _ : Nat => ([] : List Int).length) = 0 := fun q => by
        induction q with
        | zero => rfl
        | succ q ih => rw [sumN_succ, ih]; rfl
      exact this _
    cf := by
      show sumN S.nodes (fun i => fsum (upd (upd S.L 0 l1) 0 l2 i)) + 0 + 2 + 0 = S.n
      rw [hL]
      have e : (fun j => fsum (upd S.L 0 l2 j)) = upd (fun j => fsum (S.L j)) 0 (fsum l2) := by
        funext j
        by_cases e : j = 0
        · subst e; rw [upd_same, upd_same]
        · rw [upd_ne _ _ e, upd_ne _ _ e]
      have h2 := sumN_upd (n := S.nodes) (f := fun j => fsum (S.L j)) (i := 0) (v := fsum l2) (by omega)
      have h3 := fresh_sum h F (q := S.nodes) (Nat.le_refl _)
      have h4 : fstF S.c S.nodes = S.n := by have := hn.1; unfold Mach.nodes; omega
      rw [e]
      omega
    held := F.held
    fli := F.fli
    lh := F.lh }
end
set_option maxHeartbeats 2000000 in
theorem begun_spec {w : World} (hz : SizR w) (hw : 0 < w.heap.size) {c : Nat → Int} (hm : MayP c) : Calls Tryz.prog 22 #[cfgV c] w fun e w' => Kept none' w w' ∧ ∃ k S fp rt lf, e = .returned (.tuple #[ptr k, .bool true]) ∧ CoreAt w' k S fp ∧ S.c = c ∧ LSt S rt lf (fun _ => none) none 0 ∧ ∀ p x, fp p x → w.heap.size ≤ x := by
  refine (vc22 c w (fun v w' => Kept none' w w' ∧ ∃ k S fp rt lf, v = (.tuple #[ptr k, .bool true]) ∧ CoreAt w' k S fp ∧ S.c = c ∧ LSt S rt lf (fun _ => none) none 0 ∧ ∀ p x, fp p x → w.heap.size ≤ x) ?_).mono ?_
  rotate_left
  · rintro e w' ⟨v, rfl, hk, k, S, fp, rt, lf, rfl, h⟩
    exact ⟨hk, k, S, fp, rt, lf, rfl, h⟩
  unfold vcP22
  intro w1 e1
  have o1 := own_alloc e1
  have k1 : Kept none' w w1 := (Kept.refl _ _).al e1
  have hs1 := k1.sz
  refine ⟨c, o1.rIall, (core_new c (hz.k k1) (by omega)).mono ?_⟩
  rintro _ w2 ⟨k2, ⟨hno, _⟩ | ⟨_, k, S, fp, rfl, C2, hc, F, hfp⟩⟩
  · exact absurd hm hno
  have hs := C2.sizes
  have hf0 := C2.fst (i := 0) (by omega)
  have hr : ∀ {W : World} {S' : Mach} {fp' : Prt → Nat → Prop} (C : CoreAt W k S' fp') {j : Nat} {v : Value}, (coreT S')[j]? = some v → rd W k (0 + (94 + j)) = some v := fun C j v hv => C.rtW (Kept.refl _ _) hv
  have hfs : 0 < fsum (S.L 0) := by
    obtain ⟨_, _, hk⟩ := C2.zn
    have := fsum_all (C2.tile (i := 0) (by omega)) (F.L 0 (by omega))
    omega
  have hK : ∀ {W : World}, Kept (fun x => ∃ p, fp p x) w2 W → Kept none' w W := fun kk => own0 (k1.tr k2) kk fun x ⟨p, hp⟩ => by have := hfp p x hp; omega
  refine ⟨_, _, rfl, Wif_no rfl (Wif_yes rfl ⟨_, hr C2 (j := 1) rfl, (core_takeOf C2 (i := 0) (by omega) 0 false).mono ?_⟩)⟩
  rintro _ w3 ⟨a1, e1', l1, rfl, T3, R1⟩
  obtain rfl := takeR_e0 hfs R1
  obtain ⟨r1, rfl, hr1, hx1, hm1, hsum1⟩ := takeR_one (C2.tile (i := 0) (by omega)) R1
  obtain ⟨fp3, C3, f3⟩ := T3.ex
  have e3 : (S.setL (upd S.L 0 l1)).L 0 = l1 := by show upd S.L 0 l1 0 = l1; exact upd_same _ _ _
  have ht1 : Tile 0 l1 (S.c (18 + 0)).toNat := by have := C3.tile (i := 0) (by show 0 < S.nodes; omega); rw [e3] at this; exact this
  have hfs1 : 0 < fsum l1 := by
    obtain ⟨_, _, hk⟩ := C2.zn
    have := fsum_all (C2.tile (i := 0) (by omega)) (F.L 0 (by omega))
    omega
  refine ⟨_, _, rfl, Wif_yes rfl ⟨_, hr C3 (j := 1) rfl, (core_takeOf C3 (i := 0) (by show 0 < S.nodes; omega) 0 false).mono ?_⟩⟩
  rintro _ w4 ⟨a2, e2', l2, rfl, T4, R2⟩
  rw [e3] at R2
  obtain rfl := takeR_e0 hfs1 R2
  obtain ⟨r2, rfl, hr2, hx2, hm2, hsum2⟩ := takeR_one ht1 R2
  have S4 := T3.tr f3 T4
  obtain ⟨fp4, C4, f4⟩ := S4.ex
  have efst : fstF S.c 0 + (r1 : Int) = r1 := by show (0 : Int) + r1 = r1; omega
  have efst2 : fstF S.c 0 + (r2 : Int) = r2 := by show (0 : Int) + r2 = r2; omega
  have hn1 : r1 < S.n := by have := hf0.2.1; have : fstF S.c 0 = 0 := rfl; omega
  have hn2 : r2 < S.n := by have := hf0.2.1; have : fstF S.c 0 = 0 := rfl; omega
  have g1 := smS_ok (mk := S.mks) (n := S.n) (f := r1) (x := tblM) hn1 (by decide)
  have g2 := smS_ok (mk := smS S.mks S.n r1 tblM) (n := S.n) (f := r2) (x := tblM) hn2 (by decide)
  refine ⟨_, _, rfl, gIf_intro (fun _ => rfl) ⟨_, (fun _ => hr C4 (j := 0) rfl), Wif_no rfl ?_⟩⟩
  rw [if_pos rfl, if_pos rfl]
  show Calls Tryz.prog 95 #[ptr S.pm, vi (fstF S.c 0 + (r1 : Int)), .agg (markV tblM).toArray] w4 _
  rw [efst]
  refine (core_setMark C4 r1 tblM).mono ?_
  rintro _ w5 ⟨rfl, T5⟩
  have S5 := S4.tr f4 T5
  obtain ⟨fp5, C5, f5⟩ := S5.ex
  have z1 : smE S.n (r1 : Int) tblM = 0 := g1.1
  refine ⟨_, rfl, gIf_intro (fun _ => rfl) ⟨_, (fun _ => hr C5 (j := 0) rfl), Wif_no (by show (smE S.n (r1 : Int) tblM != 0) = false; rw [z1]; rfl) ?_⟩⟩
  show Calls Tryz.prog 95 #[ptr S.pm, vi (fstF S.c 0 + (r2 : Int)), .agg (markV tblM).toArray] w5 _
  rw [efst2]
  refine (core_setMark C5 r2 tblM).mono ?_
  rintro _ w6 ⟨rfl, T6⟩
  have S6 := S5.tr f5 T6
  obtain ⟨fp6, C6, f6⟩ := S6.ex
  have z2 : smE S.n (r2 : Int) tblM = 0 := g2.1
  refine ⟨_, rfl, Wif_no (by show (smE S.n (r2 : Int) tblM != 0) = false; rw [z2]; rfl) fun w7 e7 => ?_⟩
  have k7 : Kept none' w6 w7 := (Kept.refl _ _).dr e7
  have C7 := C6.k k7
  have hs7 : w7.heap.size = w6.heap.size := by rw [e7]; rfl
  refine Wif_yes rfl ?_
  have S7 := S6.tr f6 (C6.step0 k7)
  have f7 : ∀ p x, fp6 p x → fp p x ∨ rng w2 w7 x := fun p x hx => (f6 p x hx).imp id fun e => ⟨e.1, by have := e.2; omega⟩
  refine (newSpace_spec r1 w7).mono ?_
  rintro _ w8 ⟨b, rfl, k78, SP⟩
  have C8 := C7.k k78
  refine ⟨_, rfl, C8.so.wr (by rw [List.length_append, runI_len]; show 0 + 106 < 94 + 23; omega), fun w9 e9 => ?_⟩
  have T9 := core_space C7 (show (fun i => S.sp i) = fun _ => none from F.sp) k78 SP (show w9 = st w8 k 106 (ptr b) from e9)
  have S9 := S7.tr f7 T9
  obtain ⟨fp9, C9, f9⟩ := S9.ex
  refine Wif_yes rfl ⟨_, hr C9 (j := 12) rfl, gIf_intro (fun _ => rfl) ⟨_, (fun _ => hr C9 (j := 0) rfl), Wif_yes rfl ((core_setLeaf C9 r1 0 r2).mono ?_)⟩⟩
  rintro _ w10 ⟨rfl, T10⟩
  have S10 := S9.tr f9 T10
  obtain ⟨fp10, C10, f10⟩ := S10.ex
  have hsl : slE S.n (r1 : Int) 0 (r2 : Int) = 0 := by
    unfold slE
    rw [if_neg (by have := C2.n4; omega)]
    exact wdE_of (by omega) (by omega) (by decide) (by decide)
  refine ⟨_, rfl, hK S10.kp, k, _, fp10, r1, r2, ?_, C10, hc, LSt.begun C2 F (n0 := (S.c 18).toNat) rfl ht1 hr1 hr2 hm1 hsum1 hx2 hm2 hsum2 b, fun p x hx => ?_⟩
  · show Value.tuple #[_, Value.bool (slE S.n (r1 : Int) 0 (r2 : Int) == 0)] = _
    rw [hsl]
    rfl
  · rcases f10 p x hx with h | h
    · have := hfp p x h; omega
    · have := h.1; have := (k1.tr k2).sz; omega
abbrev WantA (n g : Nat) (f : Nat → List Int) (G : Nat → Prop) (W : World) : Prop := RowA (fun j => IntsA (f j)) n (.slice (some ⟨g, 0, none⟩) n n) G W
section
variable {W : World} {n g i : Nat} {f : Nat → List Int} {G : Nat → Prop}
end
structure HI (w1 : World) (k : Nat) (S : Mach) (g q : Nat) (f : Nat → List Int) (W : World) : Prop where
  kp : Kept none' w1 W
  ex : ∃ fp G, CoreAt W k (setHeld S f) fp ∧ WantA S.cpus g f G W ∧ (∀ p x, fp p x → w1.heap.size ≤ x ∧ ¬ G x) ∧ ∀ x, G x → w1.heap.size ≤ x
  len : ∀ i, (f i).length ≤ q
structure XOp (w : World) (l : Option Addr) (q : Nat) (x1 x2 x3 : Int) : Prop where
  r0 : rd w (pb l) (po l + q * 3) = some (vi x1)
  r1 : rd w (pb l) (po l + q * 3 + 1) = some (vi x2)
  r2 : rd w (pb l) (po l + q * 3 + 2) = some (vi x3)
end Go.Proofs.YtklmokolnakkoaaGreatDoor
namespace Go.Proofs.YtklmokolnakkoaaGreatDoor
open Go Go.ChangeShapes Go.WideShapes Go.ChangeAt Go.RowKit Go.Eng
set_option linter.unusedSimpArgs false
set_option linter.unusedVariables false
set_option maxRecDepth 100000
section
variable {H : Type} {enc : TypeId × Value → H}
end
end Go.Proofs.YtklmokolnakkoaaGreatDoor
set_option linter.unusedSimpArgs false
set_option linter.unusedVariables false
set_option maxRecDepth 100000
namespace Go.Proofs.YtklmokolnakkoaaGreatDoor
open Go Go.ChangeShapes Go.WideShapes Go.ChangeAt Go.RowKit Go.Eng
section
variable {H : Type} {enc : TypeId × Value → H}
theorem cells_78 : Tryz.prog.cellsOf 78 = 3 := by kernel_rfl
theorem open_ops {W : World} {base : Nat} {v : Value} {d : DataW H} {p : List MemPlace} (hv : Value.okWide Tryz.prog W .any base 74 v) (h : DataW.Trod enc Tryz.prog W 0 (fun _ => true) true 74 v d p) :
    ∃ a l c, v = .slice a l c ∧ (0 < l → isP a = true) ∧ ∀ q : Nat, q < l → ∃ x1 x2 x3 : Int, XOp W a q x1 x2 x3 ∧ (-9223372036854775808 ≤ x2 ∧ x2 ≤ 9223372036854775807) ∧ (-9223372036854775808 ≤ x3 ∧ x3 ≤ 9223372036854775807) := by
  obtain ⟨a0, l0, c0, rfl⟩ := okWide_slice Tryz.underlying74 hv
  obtain ⟨fuel, hf⟩ := h
  obtain ⟨a, l, c, e, _, _, hp, _, hx⟩ := open_row Tryz.underlying74 hf (by rw [cells_78]; decide)
  simp [Value.cells] at e
  obtain ⟨rfl, rfl, rfl⟩ := e
  refine ⟨_, _, _, rfl, hp, fun q hq => ?_⟩
  obtain ⟨cs, n, x, hlen, hcell, htr⟩ := hx q hq
  obtain ⟨xs, k, _, _, _, hxl, hfs⟩ := DataW.trod_struct Tryz.underlying78 htr
  rw [cells_78] at hcell hlen
  match xs, hxl, cs, hlen with
  | [y0, y1, y2], _, [v0, v1, v2], _ =>
    have g0 := hfs 0 _ rfl
    have g1 := hfs 1 _ rfl
    have g2 := hfs 2 _ rfl
    simp [cells_3] at g0 g1 g2
    obtain ⟨k0, e0, _, w0⟩ := DataW.trod_int Tryz.underlying3 g0
    obtain ⟨k1, e1, _, w1⟩ := DataW.trod_int Tryz.underlying3 g1
    obtain ⟨k2, e2, _, w2⟩ := DataW.trod_int Tryz.underlying3 g2
    simp at e0 e1 e2
    subst e0 e1 e2
    exact ⟨k0, k1, k2, ⟨hcell 0 (by omega), hcell 1 (by omega), hcell 2 (by omega)⟩, wf_i64 w1, wf_i64 w2⟩
end
end Go.Proofs.YtklmokolnakkoaaGreatDoor
