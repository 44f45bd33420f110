/-
  A part of a proof that a law of this seat returns true at every input. Conditions: those in each theorem.
-/
import Derived.Test.YtklmokolnakkoaaGreatDoorY3
set_option linter.unusedSimpArgs false
set_option linter.unusedVariables false
set_option maxRecDepth 100000
namespace Go.Proofs.YtklmokolnakkoaaGreatDoor
open Go Go.Eng
structure PI (w0 w : World) (kb kr k : Nat) (S : Mach) (fp : Prt → Nat → Prop) (T : List Value) : Prop where
  c0 : CoreAt w0 k S fp
  hb : w0.heap.size ≤ kb ∧ kb < kr
  K0 : Kept none' w0 w
  ob : own w kb [ptr k]
  okr : own w kr (cfg S.c ++ T)
structure Got (kr : Nat) (φ : World → Prop) (w : World) : Prop where
  ex : ∃ F, At F φ w ∧ ∀ x, F x → kr < x
section
variable {w0 w w1 w2 : World} {kb kr k : Nat} {S : Mach} {fp : Prt → Nat → Prop} {T : List Value} {φ ψ : World → Prop}
theorem PI.core (h : PI w0 w kb kr k S fp T) : CoreAt w k S fp := h.c0.k h.K0
theorem PI.hk (h : PI w0 w kb kr k S fp T) : rd w kb 0 = some (ptr k) := by rw [h.ob.rd]; rfl
theorem PI.kept (h : PI w0 w kb kr k S fp T) (kk : Kept none' w w1) : PI w0 w1 kb kr k S fp T := ⟨h.c0, h.hb, h.K0.tr kk, h.ob.k kk, h.okr.k kk⟩
theorem PI.kx {X : Nat → Prop} (h : PI w0 w kb kr k S fp T) (kk : Kept X w w1) (hX : ∀ x, X x → kr < x) : PI w0 w1 kb kr k S fp T := by
  have := h.hb
  exact ⟨h.c0, h.hb, own0 h.K0 kk fun x hx => by have := hX x hx; omega, h.ob.kx kk fun hx => by have := hX _ hx; omega, h.okr.kx kk fun hx => by have := hX _ hx; omega⟩
theorem PI.st {i : Nat} {v : Value} (h : PI w0 w kb kr k S fp T) (e : w1 = Eng.st w kr (94 + i) v) : PI w0 w1 kb kr k S fp (T.set i v) ∧ Kept (· = kr) w w1 := by
  have hb := h.hb
  have k1 : Kept (· = kr) w w1 := (Kept.refl _ _).s1 e (.inl rfl)
  exact ⟨⟨h.c0, h.hb, own0 h.K0 k1 fun x e => by omega, h.ob.kx k1 (by omega), cset h.okr e⟩, k1⟩
theorem PI.rs (h : PI w0 w kb kr k S fp T) {i : Nat} {v : Value} (hv : T[i]? = some v) : rd w kr (94 + i) = some v := by
  rw [h.okr.rd, List.getElem?_append_right (by rw [runI_len]; omega), runI_len, Nat.add_sub_cancel_left]
  exact hv
theorem PI.ws (h : PI w0 w kb kr k S fp T) {i : Nat} (hi : i < T.length) : wr w kr (94 + i) := h.okr.wr (by rw [List.length_append, runI_len]; omega)
theorem PI.krl (h : PI w0 w kb kr k S fp T) : kr < w.heap.size := h.okr.lt
theorem Got.kx {X : Nat → Prop} (h : Got kr φ w) (kk : Kept X w w1) (hX : ∀ x, X x → x = kr ∨ w.heap.size ≤ x) : Got kr φ w1 := by
  obtain ⟨F, hF, hk⟩ := h.ex
  exact ⟨F, hF.kx kk fun x hx hf => by have := hF.lt x hf; have := hk x hf; have := hX x hx; omega, hk⟩
theorem Got.and (h : Got kr φ w) (h2 : Got kr ψ w) : Got kr (fun W => φ W ∧ ψ W) w := by
  obtain ⟨F, hF, hk⟩ := h.ex
  obtain ⟨G, hG, hk2⟩ := h2.ex
  exact ⟨_, hF.and hG, fun x hx => hx.elim (hk x) (hk2 x)⟩
theorem PI.stp {i : Nat} {v : Value} (h : PI w0 w kb kr k S fp T) (g : Got kr φ w) (kk : Kept none' w w1) (hA : At (rng w w1) ψ w1) (e : w2 = Eng.st w1 kr (94 + i) v) : PI w0 w2 kb kr k S fp (T.set i v) ∧ Got kr (fun W => φ W ∧ ψ W) w2 := by
  obtain ⟨h2, q⟩ := (h.kept kk).st e
  have hkr := h.krl
  refine ⟨h2, ((g.kx kk fun x e => e.elim).kx q fun x e => .inl e).and ⟨rng w w1, hA.kx q fun x e hx => ?_, fun x hx => ?_⟩⟩
  · have := hx.1; omega
  · have := hx.1; omega
end
def ownV (x : Own) : List Value := [vi x.n, vi x.pid, vi x.page]
def owns (n : Nat) (of : Nat → Int × Int) : List Own := ((List.range n).filter fun i => (of i).1 != 0).map fun (i : Nat) => ⟨(i : Int), (of i).1, (of i).2⟩
theorem owns_succ (n : Nat) (of : Nat → Int × Int) : owns (n + 1) of = owns n of ++ if (of n).1 != 0 then [⟨n, (of n).1, (of n).2⟩] else [] := by
  unfold owns
  rw [List.range_succ, List.filter_append, List.map_append]
  congr 1
  by_cases h : (of n).1 = 0 <;> simp [h]
theorem owns_len (n : Nat) (of : Nat → Int × Int) : (owns n of).length ≤ n := by
  unfold owns
  rw [List.length_map]
  exact Nat.le_trans (List.length_filter_le _ _) (by simp)
theorem elOwn : ElT Tryz.prog 64 98 3 := elT (z := .agg #[.int .i64 0, .int .i64 0, .int .i64 0]) Tryz.underlying64 (by kernel_rfl) rfl (by decide)
theorem elProc : ElT Tryz.prog 63 92 6 := elT (z := .agg #[.int .i64 0, .int .i64 0, .slice none 0 0, .slice none 0 0, .slice none 0 0, .slice none 0 0]) Tryz.underlying63 (by kernel_rfl) rfl (by decide)
theorem PI.add {S0 T0 s i : Nat} (hT : ElT Tryz.prog S0 T0 s) {w0 w w1 : World} {kb kr k base : Nat} {S : Mach} {fp : Prt → Nat → Prop} {T vs cs : List Value} {a : Option Addr} {l c : Nat} (h : PI w0 w kb kr k S fp T) (hi : i < T.length) (row : w.ownsRow base T0 s (.slice a l c) l vs) (hbase : kr < base ∧ base ≤ w.heap.size)
    (hc : cs.length = s) (h1 : ∀ u ∈ cs, u.oneCell' = true) (hl : l ≤ 1000000) (e : w1 = w.alloc (.cells cs.toArray T0)) :
    ∃ (a' : Option Addr) (l' c' : Nat) (w2 : World), appIs Tryz.prog #[S0, S0] S0 (.slice a l c) (.slice (some ⟨w.heap.size, 0, none⟩) 1 1) (.slice a' l' c') w1 w2 ∧ wr w2 kr (94 + i) ∧ ∀ w3, w3 = Eng.st w2 kr (94 + i) (.slice a' l' c') →
      l' = l + 1 ∧ PI w0 w3 kb kr k S fp (T.set i (.slice a' l' c')) ∧ w3.ownsRow base T0 s (.slice a' l' c') l' (vs ++ cs) ∧ Kept (fun x => x = kr ∨ (Value.slice a l c).ownBlock = some x) w w3 ∧ ((Value.slice a' l' c').ownBlock = (Value.slice a l c).ownBlock ∨ ∀ g, (Value.slice a' l' c').ownBlock = some g → w.heap.size ≤ g) := by
  obtain ⟨t0, z, hi0, hz, hsz, hzs, hby⟩ := hT.ex
  have k1 : Kept none' w w1 := (Kept.refl _ _).al e
  have row1 := ownsRow_kx row k1 fun _ _ _ _ => id
  have s1 := k1.sz
  obtain ⟨a', l', c', w2, happ, rfl, row2, k2, hb⟩ := app_any (P := Tryz.prog) (t := S0) (e := T0) (i := t0) (z := z) (size := s) hT.sl hi0 hz hsz hzs hT.pos row1 (own_alloc e) (m := 1) (off := 0) (c := 1) (news := cs) (by rw [List.drop_zero, Nat.one_mul, List.take_of_length_le (Nat.le_of_eq hc)]) (by rw [hc, Nat.one_mul]) h1 (by omega) hby (by omega)
  have h2 := (h.kept k1).kx k2 fun x e => by have := (row1.lt x e).1; omega
  refine ⟨a', _, c', w2, happ, h2.ws hi, fun w3 e3 => ?_⟩
  obtain ⟨h3, q⟩ := h2.st e3
  have hkr := h.krl
  refine ⟨rfl, h3, ownsRow_kx row2 q fun x hx _ _ e => by omega, ((k1.mono fun _ _ e => e.elim).trans k2 fun x _ e => .inr e).trans q fun x _ e => .inl e, ?_⟩
  rcases hb with hb | hb
  · exact .inl hb
  · exact .inr fun g hg => by have := hb g hg; omega
def procs (S : Mach) (P : Nat → Proc) (q : Nat) : List Proc := (List.range q).filterMap fun i => (S.sp i).map fun _ => P i
theorem procs_succ (S : Mach) (P : Nat → Proc) (q : Nat) : procs S P (q + 1) = procs S P q ++ match S.sp q with | some _ => [P q] | none => [] := by
  unfold procs
  rw [List.range_succ, List.filterMap_append]
  congr 1
  cases h : S.sp q <;> simp [h]
theorem procs_len (S : Mach) (P : Nat → Proc) (q : Nat) : (procs S P q).length ≤ q := Nat.le_trans (List.length_filterMap_le _ _) (by simp)
def ProcC (S : Mach) (P : Nat → Proc) (k : Nat) (w0 : World) : Prop := ∀ (i b : Nat) (W : World), i < 9 → S.sp i = some b → Kept none' w0 W →
  Calls Tryz.prog 73 #[ptr k, vi i, ptr b] W fun e w' => ∃ (x y : Int) (a1 : Option Addr) (l1 c1 : Nat) (a2 : Option Addr) (l2 c2 : Nat) (a3 : Option Addr) (l3 c3 : Nat) (a4 : Option Addr) (l4 c4 : Nat),
    e = .returned (.agg #[vi x, vi y, .slice a1 l1 c1, .slice a2 l2 c2, .slice a3 l3 c3, .slice a4 l4 c4]) ∧ Kept none' W w' ∧ At (rng W w') (fun W' => RProc W' [vi x, vi y, .slice a1 l1 c1, .slice a2 l2 c2, .slice a3 l3 c3, .slice a4 l4 c4] (P i)) w'
structure PRow (W : World) (base : Nat) (a : Option Addr) (l c : Nat) (xs : List Proc) : Prop where
  ex : ∃ (vs : List Value) (G : Nat → Prop), W.ownsRow base 92 6 (.slice a l c) l vs ∧ l = xs.length ∧ (∀ (i : Nat) x, xs[i]? = some x → ∃ cs : List Value, cs.length = 6 ∧ (∀ (j : Nat) u, cs[j]? = some u → vs[i * 6 + j]? = some u) ∧ At G (fun W' => RProc W' cs x) W) ∧
    (∀ g, (Value.slice a l c).ownBlock = some g → ¬ G g) ∧ (∀ x, G x → base ≤ x ∧ x < W.heap.size)
theorem PRow.kx {X : Nat → Prop} {W W' : World} {base : Nat} {a : Option Addr} {l c : Nat} {xs : List Proc} (h : PRow W base a l c xs) (k : Kept X W W') (hX : ∀ x, X x → x < base) : PRow W' base a l c xs := by
  obtain ⟨vs, G, h1, h2, h3, h4, h5⟩ := h.ex
  refine ⟨vs, G, ownsRow_kx h1 k fun x hx _ _ e => by have := hX x e; omega, h2, fun i x hx => ?_, h4, fun x hx => ⟨(h5 x hx).1, Nat.lt_of_lt_of_le (h5 x hx).2 k.sz⟩⟩
  obtain ⟨cs, g1, g2, g3⟩ := h3 i x hx
  exact ⟨cs, g1, g2, g3.kx k fun y e hy => by have := hX y e; have := (h5 y hy).1; omega⟩
theorem PRow.got {W : World} {base kr : Nat} {a : Option Addr} {l c : Nat} {xs : List Proc} (h : PRow W base a l c xs) (hk : kr < base) : Got kr (fun W' => SlR RProc 6 W' a l c xs) W := by
  obtain ⟨vs, G, h1, h2, h3, h4, h5⟩ := h.ex
  refine ⟨_, at_slR (F := G) h1 h2 (fun x hx => (h5 x hx).2) fun i x hx => ?_, fun x hx => hx.elim (fun e => by have := (h1.lt x e).1; omega) fun e => by have := (h5 x e).1; omega⟩
  obtain ⟨cs, g1, g2, g3⟩ := h3 i x hx
  exact ⟨cs, g1, g2, g3.go⟩
def picOf (S : Mach) (P : Nat → Proc) : Pic :=
  ⟨S.c, (List.range S.n).map S.mks, (zsh S.Z.c S.L S.Z.k).map intP, (List.range S.cpus).map S.held, (List.range S.cpus).map fun _ => [], S.fli, procs S P 9, owns S.n S.rof, (List.range S.nodes).map fun i => sortI (S.ring i), owns S.slots S.sof, [],
    (List.range S.cpus).map fun _ => (List.range 8).map fun _ => [], (List.range S.nodes).map fun _ => (List.range 8).map fun _ => [], (List.range (9 + S.nodes)).map fun i => IntKind.wrap .i64 (S.lh i - 1)⟩
def sl13 (PS : PicS) : List Value := [PS.v 0, PS.v 1, PS.v 2, PS.v 3, PS.v 4, PS.v 5, PS.v 6, PS.v 7, PS.v 8, PS.v 9, PS.v 10, PS.v 11, PS.v 12]
def picV (PS : PicS) (c : Nat → Int) : Value := .agg (cfg c ++ sl13 PS).toArray
set_option maxHeartbeats 4000000 in
theorem picture_spec {w : World} {k : Nat} {S : Mach} {fp : Prt → Nat → Prop} {P : Nat → Proc} (h : CoreAt w k S fp) (hP : ProcC S P k w) (hh : ∀ i, i < S.cpus → (S.held i).length ≤ 1000000) (hr : ∀ i, i < S.nodes → (S.ring i).length ≤ 100000) (hf : S.fli.length ≤ 1000000) :
    Calls Tryz.prog 19 #[ptr k] w fun e w' => ∃ PS : PicS, e = .returned (picV PS S.c) ∧ Kept none' w w' ∧ At (rng w w') (fun W => PicR W PS (picOf S P)) w' := by
  refine (vc19 (some ⟨k, 0, none⟩) w (fun v w' => ∃ PS : PicS, v = picV PS S.c ∧ Kept none' w w' ∧ At (rng w w') (fun W => PicR W PS (picOf S P)) w') ?_).mono ?_
  rotate_left
  · rintro e w' ⟨v, rfl, PS, rfl, h⟩
    exact ⟨PS, rfl, h⟩
  unfold vcP19
  intro w1 e1 w2 e2
  have ob1 := own_alloc (c := [ptr k]) e1
  have ob2 := ob1.al e2
  have or2 := own_alloc e2
  have K2 : Kept none' w w2 := ((Kept.refl _ _).al e1).al e2
  have hkb : w.heap.size < w1.heap.size := ob1.lt
  clear e1 e2
  generalize hb0 : w.heap.size = kb at *
  generalize hr0 : w1.heap.size = kr at *
  have hs := h.sizes
  have hn := h.n4
  have C2 := h.k K2
  refine ⟨_, by rw [ob2.rd]; rfl, Wif_no rfl ⟨some ⟨k, 0, none⟩, by rw [ob2.rd]; rfl, Wif_yes rfl ⟨S.c, C2.rcfg, or2.wrAll 0 (by simp [runI_len]), fun w3 e3 => ?_⟩⟩⟩
  have q3 : Kept (· = kr) w2 w3 := e3 ▸ stAll_kept kr _ 0 w2
  have or3 : own w3 kr (cfg S.c ++ [nilS, nilS, nilS, nilS, nilS, nilS, nilS, nilS, nilS, nilS, nilS, nilS, nilS]) := by
    have := stAll_own kr (cfg S.c) 0 w2 _ or2
    have el : ∀ (A B C : List Value), A.length = B.length → (A.zipIdx 0 |>.foldl (fun c p => c.set p.2 p.1) (B ++ C)) = A ++ C := fun A B C hl => by
      apply List.ext_getElem?
      intro j
      rw [setFold_get A 0 _ j (by simp; omega)]
      split
      · rename_i hj
        rw [Nat.sub_zero, List.getElem?_append_left (by omega)]
      · rename_i hj
        rw [List.getElem?_append_right (by omega), List.getElem?_append_right (by omega), hl]
    have e4 : own (stAll w2 kr 0 (cfg S.c)) kr (cfg S.c ++ List.replicate 13 nilS) := by
      have h2 := this
      rw [el (cfg S.c) (List.replicate 94 (Value.int IntKind.i64 0)) (List.replicate 13 nilS) (by rw [runI_len]; simp)] at h2
      exact h2
    rw [← e3] at e4
    exact e4
  have I3 : PI w w3 kb kr k S fp [nilS, nilS, nilS, nilS, nilS, nilS, nilS, nilS, nilS, nilS, nilS, nilS, nilS] := ⟨h, ⟨by omega, hkb⟩, own0 K2 q3 fun x e => by omega, ob2.kx q3 (by omega), or3⟩
  have G3 : Got kr (fun _ => True) w3 := ⟨fun _ => False, ⟨fun x e => e.elim, fun _ _ => trivial⟩, fun x e => e.elim⟩
  clear e3 or3 or2 ob1 ob2 q3 K2 C2
  refine ⟨_, I3.hk, Wif_yes rfl ⟨_, by show rd w3 k (0 + 94) = _; rw [Nat.zero_add]; exact I3.core.rt (j := 0) rfl, ?_⟩⟩
  obtain ⟨bb, mb, M3, _⟩ := I3.core.at' .mem
  refine (frames_spec M3).mono ?_
  rintro _ wx ⟨rfl, hx⟩
  rw [hx]
  clear hx
  refine ⟨_, rfl, (marks_pic I3.core I3.hk).mono ?_⟩
  rintro _ w4 ⟨as0, ls0, cs0, rfl, k4, A4⟩
  refine ⟨_, _, _, rfl, (I3.kept k4).ws (i := 0) (by simp), fun w5 e5 => ?_⟩
  obtain ⟨I5, G5⟩ := I3.stp (i := 0) G3 k4 A4 e5
  clear e5 A4 k4 I3 G3
  replace I5 : PI w w5 kb kr k S fp [(.slice as0 ls0 cs0), nilS, nilS, nilS, nilS, nilS, nilS, nilS, nilS, nilS, nilS, nilS, nilS] := I5
  refine ⟨_, I5.hk, Wif_yes rfl ⟨_, by show rd w5 k (0 + 95) = _; rw [Nat.zero_add]; exact I5.core.rt (j := 1) rfl, (blocks_pic (I5.core.at' .zones).1).mono ?_⟩⟩
  rintro _ wy ⟨v, rfl, hcall⟩
  refine ⟨v, rfl, hcall.mono ?_⟩
  clear hcall
  rintro _ w6 ⟨as1, ls1, cs1, rfl, k6, A6⟩
  refine ⟨_, _, _, rfl, (I5.kept k6).ws (i := 1) (by simp), fun w7 e7 => ?_⟩
  obtain ⟨I7, G7⟩ := I5.stp (i := 1) G5 k6 A6 e7
  clear e7 A6 k6 I5 G5
  replace I7 : PI w w7 kb kr k S fp [(.slice as0 ls0 cs0), (.slice as1 ls1 cs1), nilS, nilS, nilS, nilS, nilS, nilS, nilS, nilS, nilS, nilS, nilS] := I7
  refine ⟨_, I7.hk, Wif_yes rfl ⟨S.c 1, by show rd w7 k (0 + 1) = _; rw [Nat.zero_add]; exact I7.core.rc (by omega), (held_pic I7.core I7.hk hh).mono ?_⟩⟩
  rintro _ w8 ⟨as2, ls2, cs2, rfl, k8, A8⟩
  refine ⟨_, _, _, rfl, (I7.kept k8).ws (i := 2) (by simp), fun w9 e9 => ?_⟩
  obtain ⟨I9, G9⟩ := I7.stp (i := 2) G7 k8 A8 e9
  clear e9 A8 k8 I7 G7
  replace I9 : PI w w9 kb kr k S fp [(.slice as0 ls0 cs0), (.slice as1 ls1 cs1), (.slice as2 ls2 cs2), nilS, nilS, nilS, nilS, nilS, nilS, nilS, nilS, nilS, nilS] := I9
  refine ⟨_, I9.hk, Wif_yes rfl ⟨S.c 1, by show rd w9 k (0 + 1) = _; rw [Nat.zero_add]; exact I9.core.rc (by omega), (flying_pic I9.core I9.hk).mono ?_⟩⟩
  rintro _ w10 ⟨as3, ls3, cs3, rfl, k10, A10⟩
  refine ⟨_, _, _, rfl, (I9.kept k10).ws (i := 3) (by simp), fun w11 e11 => ?_⟩
  obtain ⟨I11, G11⟩ := I9.stp (i := 3) G9 k10 A10 e11
  clear e11 A10 k10 I9 G9
  replace I11 : PI w w11 kb kr k S fp [(.slice as0 ls0 cs0), (.slice as1 ls1 cs1), (.slice as2 ls2 cs2), (.slice as3 ls3 cs3), nilS, nilS, nilS, nilS, nilS, nilS, nilS, nilS, nilS] := I11
  obtain ⟨afi, lfi, cfi, hvf, Rf, _⟩ := (I11.core.at' .flight).ex
  refine ⟨_, I11.hk, Wif_yes rfl ⟨afi, lfi, cfi, by
    show rd w11 k (0 + 116) = _
    rw [Nat.zero_add, ← hvf]
    exact I11.core.rt (j := 22) rfl, (clone_ints Rf hf).mono ?_⟩⟩
  rintro _ w12 ⟨as4, cs4, rfl, k12, R12⟩
  have A12 : At (rng w11 w12) (fun W => SlR RInt 1 W as4 S.fli.length cs4 S.fli) w12 := R12.at.mono (fun x hx => R12.lt hx) fun x hx => hx.2
  clear R12 Rf
  refine ⟨_, _, _, rfl, (I11.kept k12).ws (i := 4) (by simp), fun w13 e13 => ?_⟩
  obtain ⟨I13, G13⟩ := I11.stp (i := 4) G11 k12 A12 e13
  clear e13 A12 k12 I11 G11
  replace I13 : PI w w13 kb kr k S fp [(.slice as0 ls0 cs0), (.slice as1 ls1 cs1), (.slice as2 ls2 cs2), (.slice as3 ls3 cs3), (.slice as4 S.fli.length cs4), nilS, nilS, nilS, nilS, nilS, nilS, nilS, nilS] := I13
  refine ⟨_, I13.hk, Wif_yes rfl ⟨(S.sp 0).map fun b => ⟨b, 0, none⟩, (S.sp 1).map fun b => ⟨b, 0, none⟩, (S.sp 2).map fun b => ⟨b, 0, none⟩, (S.sp 3).map fun b => ⟨b, 0, none⟩, (S.sp 4).map fun b => ⟨b, 0, none⟩, (S.sp 5).map fun b => ⟨b, 0, none⟩, (S.sp 6).map fun b => ⟨b, 0, none⟩, (S.sp 7).map fun b => ⟨b, 0, none⟩, (S.sp 8).map fun b => ⟨b, 0, none⟩, ?_, ?_⟩⟩
  · refine I13.core.so.rdAll _ fun j hj => ?_
    rw [show po (some (Addr.mk k 0 none)) + 105 + j = 94 + (11 + j) by simp; omega, List.getElem?_append_right (by rw [runI_len]; omega), runI_len, Nat.add_sub_cancel_left]
    simp at hj
    match j, hj with
    | 0, _ | 1, _ | 2, _ | 3, _ | 4, _ | 5, _ | 6, _ | 7, _ | 8, _ => rfl
  refine ⟨fun n W N => ∃ (q : Nat) (pa : Option Addr) (pl pc : Nat), n = q ∧ q ≤ 9 ∧ N = 9 - q ∧ Kept (fun x => x = kr ∨ w13.heap.size ≤ x) w13 W ∧ PI w W kb kr k S fp [(.slice as0 ls0 cs0), (.slice as1 ls1 cs1), (.slice as2 ls2 cs2), (.slice as3 ls3 cs3), (.slice as4 S.fli.length cs4), (.slice pa pl pc), nilS, nilS, nilS, nilS, nilS, nilS, nilS] ∧ PRow W w13.heap.size pa pl pc (procs S P q),
    ⟨9, 0, none, 0, 0, rfl, by omega, rfl, Kept.refl _ _, I13, ⟨[], fun _ => False, World.ownsRow_nil _ _ _ _, rfl, fun i x hx => by simp [procs] at hx, fun g _ e => e, fun x e => e.elim⟩⟩, ?_⟩
  rintro _ w14 _ ⟨q, pa, pl, pc, rfl, hq, rfl, k14, I14, R14⟩
  have hkr13 := I13.krl
  have hsz14 := k14.sz
  refine Wif_intro (fun hc => ?_) (fun hc => ?_)
  · have hq9 : q < 9 := by simp at hc; omega
    refine Wif_yes (inB_of (by omega) (by omega)) ⟨(S.sp q).map fun b => ⟨b, 0, none⟩, ?_, ?_⟩
    · rw [Int.toNat_natCast, Nat.mul_one]
      match q, hq9 with
      | 0, _ | 1, _ | 2, _ | 3, _ | 4, _ | 5, _ | 6, _ | 7, _ | 8, _ => rfl
    cases hsp : S.sp q with
    | none =>
      refine Wif_no rfl ⟨9 - (q + 1), by omega, q + 1, pa, pl, pc, by rw [wi (by omega)]; rfl, hq9, rfl, k14, I14, ?_⟩
      rw [procs_succ, hsp]
      simpa using R14
    | some b =>
      refine Wif_yes rfl fun w15 e15 => ?_
      have k15 : Kept none' w14 w15 := (Kept.refl _ _).dr e15
      have I15 := I14.kept k15
      refine ⟨pa, pl, pc, I15.rs (i := 5) rfl, _, I15.hk, (hP q b w15 hq9 hsp I15.K0).mono ?_⟩
      rintro _ w16 ⟨x, y, a1, l1, c1, a2, l2, c2, a3, l3, c3, a4, l4, c4, rfl, k16, A16⟩
      have I16 := I15.kept k16
      refine ⟨x, y, a1, l1, c1, a2, l2, c2, a3, l3, c3, a4, l4, c4, rfl, ⟨I16.rs (i := 5) rfl, trivial⟩, fun w17 e17 => ⟨⟨(I16.kept ((Kept.refl _ _).al e17)).rs (i := 5) rfl, trivial⟩, ?_⟩⟩
      obtain ⟨vs, GG, row, hl, hel, hgG, hGb⟩ := ((R14.kx k15 fun x e => e.elim).kx k16 fun x e => e.elim).ex
      have hpl := procs_len S P q
      have hsz16 := I16.krl
      have hz3 := k16.sz
      have hz2 := k15.sz
      obtain ⟨a', l', c', w18, happ, hwr, hst⟩ := I16.add elProc (i := 5) (by simp) row ⟨by omega, by omega⟩ rfl (fun u hu => by simp at hu; rcases hu with rfl | rfl | rfl | rfl | rfl | rfl <;> rfl) (by omega) e17
      refine ⟨a', l', c', w18, happ, hwr, fun w19 e19 => ?_⟩
      obtain ⟨rfl, I19, row6, k19, hb6⟩ := hst w19 e19
      have K6 : Kept (fun x => x = kr ∨ w13.heap.size ≤ x) w13 w19 := (k14.tr (k15.tr k16)).trans k19 fun x _ e => e.imp id fun e => (row.lt x e).1
      refine ⟨9 - (q + 1), by omega, q + 1, a', _, c', by rw [wi (by omega)]; rfl, hq9, rfl, K6, I19, ⟨_, fun x => GG x ∨ rng w15 w16 x, row6, ?_, fun i z hz => ?_, fun g hg hG => ?_, fun z hz => ?_⟩⟩
      · rw [procs_succ, hsp, List.length_append, hl]; rfl
      · rw [procs_succ, hsp] at hz
        have hk6 := k19.sz
        rcases Nat.lt_or_ge i (procs S P q).length with hlt | hge
        · rw [List.getElem?_append_left hlt] at hz
          obtain ⟨ds, g1, g2, g3⟩ := hel i z hz
          refine ⟨ds, g1, fun j u hu => ?_, (g3.kx k19 fun y e hy => ?_).mono (fun _ h => .inl h) fun y hy => ?_⟩
          · have := g2 j u hu
            rw [List.getElem?_append_left (List.getElem?_eq_some_iff.1 this).1]
            exact this
          · rcases e with e | e
            · have := (hGb y hy).1; omega
            · exact hgG y e hy
          · rcases hy with hy | hy
            · have := (hGb y hy).2; omega
            · have := hy.2; omega
        · rw [List.getElem?_append_right hge] at hz
          have hj : i - (procs S P q).length = 0 := by have := (List.getElem?_eq_some_iff.1 hz).1; simp at this; omega
          rw [hj] at hz
          cases hz
          have hj : i = (procs S P q).length := by omega
          subst hj
          refine ⟨_, rfl, fun j u hu => ?_, (A16.kx k19 fun y e hy => ?_).mono (fun _ h => .inr h) fun y hy => ?_⟩
          · rw [List.getElem?_append_right (by rw [row.1, hl]; omega), row.1, hl, Nat.add_sub_cancel_left]
            exact hu
          · rcases e with e | e
            · have := hy.1; omega
            · have := (row.lt y e).2
              have h1 := hy.1
              -- the row's block is an older one
              have hold := ((R14.kx k15 fun x e => e.elim)).ex
              obtain ⟨_, _, row2, _⟩ := hold
              have := (row2.lt y e).2
              omega
          · rcases hy with hy | hy
            · have := (hGb y hy).2; omega
            · have := hy.2; omega
      · rcases hb6 with e | e
        · rw [e] at hg
          rcases hG with hG | hG
          · exact hgG g hg hG
          · obtain ⟨_, _, row2, _⟩ := ((R14.kx k15 fun x e => e.elim)).ex
            have := (row2.lt g hg).2
            have := hG.1
            omega
        · have := e g hg
          rcases hG with hG | hG
          · have := (hGb g hG).2; omega
          · have := hG.2; omega
      · have hk6 := k19.sz
        rcases hz with hz | hz
        · have := hGb z hz; exact ⟨this.1, by omega⟩
        · have h1 := hz.1; have h2 := hz.2; exact ⟨by omega, by omega⟩
  have hq9 : q = 9 := by simp at hc; omega
  subst hq9
  have G14 := (G13.kx k14 fun x e => e).and (R14.got (kr := kr) hkr13)
  clear k14 R14 G13 I13 hsz14 hq
  refine ⟨_, I14.hk, Wif_yes rfl ⟨_, by show rd w14 k (0 + 94) = _; rw [Nat.zero_add]; exact I14.core.rt (j := 0) rfl, ?_⟩⟩
  obtain ⟨bb2, mb2, M2, _⟩ := I14.core.at' .mem
  refine (frames_spec M2).mono ?_
  rintro _ wx ⟨rfl, hx⟩
  rw [hx]
  clear hx M2
  refine ⟨_, rfl, ?_⟩
  refine ⟨fun n W N => ∃ (q : Nat) (fa6 : Option Addr) (fc6 : Nat), n = q ∧ q ≤ S.n ∧ N = S.n - q ∧ Kept (fun x => x = kr ∨ w14.heap.size ≤ x) w14 W ∧ PI w W kb kr k S fp [(.slice as0 ls0 cs0), (.slice as1 ls1 cs1), (.slice as2 ls2 cs2), (.slice as3 ls3 cs3), (.slice as4 S.fli.length cs4), (.slice pa pl pc), (.slice fa6 (owns q S.rof).length fc6), nilS, nilS, nilS, nilS, nilS, nilS] ∧ W.ownsRow w14.heap.size 98 3 (.slice fa6 (owns q S.rof).length fc6) (owns q S.rof).length ((owns q S.rof).flatMap ownV),
    ⟨S.n, 0, none, 0, rfl, by omega, rfl, Kept.refl _ _, I14, World.ownsRow_nil _ _ _ _⟩, ?_⟩
  have hkr14 := I14.krl
  rintro _ w15 _ ⟨q, fa6, fc6, rfl, hq, rfl, k15, I15, R15⟩
  have hsz15 := k15.sz
  have hol := owns_len q S.rof
  refine Wif_intro (fun hc => ?_) (fun hc => ?_)
  · have hqn : q < S.n := by simp at hc; omega
    refine ⟨_, I15.hk, Wif_yes rfl ⟨_, by show rd w15 k (0 + 98) = _; rw [Nat.zero_add]; exact I15.core.rt (j := 4) rfl, ?_⟩⟩
    obtain ⟨fb, mb, RM, _⟩ := I15.core.at' .rmap
    refine (rget_spec RM hqn).mono ?_
    rintro _ w16 ⟨rfl, k16⟩
    have I16 := I15.kept k16
    have row := ownsRow_kx R15 k16 fun _ _ _ _ => id
    refine ⟨_, _, _, rfl, Wif_intro (fun hb => ?_) (fun hb => ?_)⟩
    · refine ⟨_, _, _, I16.rs (i := 6) rfl, fun w17 e17 => ?_⟩
      have hz2 := k16.sz
      obtain ⟨a', l', c', w18, happ, hwr, hst⟩ := I16.add elOwn (i := 6) (cs := ownV ⟨q, (S.rof q).1, (S.rof q).2⟩) (by simp) row ⟨by omega, by omega⟩ rfl (fun u hu => by simp [ownV] at hu; rcases hu with rfl | rfl | rfl <;> rfl) (by omega) e17
      refine ⟨a', l', c', w18, happ, hwr, fun w19 e19 => ?_⟩
      obtain ⟨rfl, I19, row5, k19, _⟩ := hst w19 e19
      have e1 : owns (q + 1) S.rof = owns q S.rof ++ [⟨q, (S.rof q).1, (S.rof q).2⟩] := by rw [owns_succ, if_pos hb]
      have e2 : (owns (q + 1) S.rof).length = (owns q S.rof).length + 1 := by rw [e1, List.length_append]; rfl
      refine ⟨S.n - (q + 1), by omega, q + 1, a', c', by rw [wi (by omega)]; rfl, hqn, rfl, (k15.tr k16).trans k19 fun x _ e => e.imp id fun e => (row.lt x e).1, ?_, ?_⟩
      · rw [e2]; exact I19
      · rw [e2, e1, List.flatMap_append]
        simpa using row5
    · have e1 : owns (q + 1) S.rof = owns q S.rof := by rw [owns_succ, if_neg (by simpa using hb), List.append_nil]
      refine ⟨S.n - (q + 1), by omega, q + 1, fa6, fc6, by rw [wi (by omega)]; rfl, hqn, rfl, k15.tr k16, ?_, ?_⟩
      · rw [e1]; exact I16
      · rw [e1]; exact row
  have hqe : q = S.n := by simp at hc; omega
  subst hqe
  have G15 := (G14.kx k15 fun x e => e).and (ψ := fun W => SlR ROwn 3 W fa6 (owns S.n S.rof).length fc6 (owns S.n S.rof)) ⟨_, at_flat (f := ownV) (fun _ => rfl) R15 rfl, fun x hx => by have := (R15.lt x hx).1; omega⟩
  clear k15 R15 G14 I14 hsz15 hq hol
  generalize hfl6 : (owns S.n S.rof).length = fl6 at *
  refine ⟨_, I15.hk, Wif_yes rfl ⟨S.c 0, by show rd w15 k 0 = _; exact I15.core.rc (by omega), (clocks_pic I15.core I15.hk hr).mono ?_⟩⟩
  rintro _ w16 ⟨as7, ls7, cs7, rfl, k16, A16⟩
  refine ⟨_, _, _, rfl, (I15.kept k16).ws (i := 7) (by simp), fun w17 e17 => ?_⟩
  obtain ⟨I17, G17⟩ := I15.stp (i := 7) G15 k16 A16 e17
  clear e17 A16 k16 I15 G15
  replace I17 : PI w w17 kb kr k S fp [(.slice as0 ls0 cs0), (.slice as1 ls1 cs1), (.slice as2 ls2 cs2), (.slice as3 ls3 cs3), (.slice as4 S.fli.length cs4), (.slice pa pl pc), (.slice fa6 fl6 fc6), (.slice as7 ls7 cs7), nilS, nilS, nilS, nilS, nilS] := I17
  refine ⟨_, I17.hk, Wif_yes rfl ⟨(S.slots : Int), by show rd w17 k (0 + 90) = _; rw [Nat.zero_add, I17.core.rc (by omega), hs.2.2.2], ?_⟩⟩
  refine ⟨fun n W N => ∃ (q : Nat) (fa8 : Option Addr) (fc8 : Nat), n = q ∧ q ≤ S.slots ∧ N = S.slots - q ∧ Kept (fun x => x = kr ∨ w17.heap.size ≤ x) w17 W ∧ PI w W kb kr k S fp [(.slice as0 ls0 cs0), (.slice as1 ls1 cs1), (.slice as2 ls2 cs2), (.slice as3 ls3 cs3), (.slice as4 S.fli.length cs4), (.slice pa pl pc), (.slice fa6 fl6 fc6), (.slice as7 ls7 cs7), (.slice fa8 (owns q S.sof).length fc8), nilS, nilS, nilS, nilS] ∧ W.ownsRow w17.heap.size 98 3 (.slice fa8 (owns q S.sof).length fc8) (owns q S.sof).length ((owns q S.sof).flatMap ownV),
    ⟨S.slots, 0, none, 0, rfl, by omega, rfl, Kept.refl _ _, I17, World.ownsRow_nil _ _ _ _⟩, ?_⟩
  have hkr17 := I17.krl
  rintro _ w18 _ ⟨q, fa8, fc8, rfl, hq, rfl, k18, I18, R18⟩
  have hsz18 := k18.sz
  have hol := owns_len q S.sof
  refine Wif_intro (fun hc => ?_) (fun hc => ?_)
  · have hqn : q < S.slots := by simp at hc; omega
    refine ⟨_, I18.hk, Wif_yes rfl ⟨_, by show rd w18 k (0 + 99) = _; rw [Nat.zero_add]; exact I18.core.rt (j := 5) rfl, ?_⟩⟩
    obtain ⟨fb, SM, _⟩ := I18.core.at' .slots
    refine (owner_spec SM hqn).mono ?_
    rintro _ w19 ⟨rfl, k19⟩
    have I19 := I18.kept k19
    have row := ownsRow_kx R18 k19 fun _ _ _ _ => id
    refine ⟨_, _, _, rfl, Wif_intro (fun hb => ?_) (fun hb => ?_)⟩
    · refine ⟨_, _, _, I19.rs (i := 8) rfl, fun w20 e20 => ?_⟩
      have hz2 := k19.sz
      obtain ⟨a', l', c', w21, happ, hwr, hst⟩ := I19.add elOwn (i := 8) (cs := ownV ⟨q, (S.sof q).1, (S.sof q).2⟩) (by simp) row ⟨by omega, by omega⟩ rfl (fun u hu => by simp [ownV] at hu; rcases hu with rfl | rfl | rfl <;> rfl) (by omega) e20
      refine ⟨a', l', c', w21, happ, hwr, fun w22 e22 => ?_⟩
      obtain ⟨rfl, I22, row5, k22, _⟩ := hst w22 e22
      have e1 : owns (q + 1) S.sof = owns q S.sof ++ [⟨q, (S.sof q).1, (S.sof q).2⟩] := by rw [owns_succ, if_pos hb]
      have e2 : (owns (q + 1) S.sof).length = (owns q S.sof).length + 1 := by rw [e1, List.length_append]; rfl
      refine ⟨S.slots - (q + 1), by omega, q + 1, a', c', by rw [wi (by omega)]; rfl, hqn, rfl, (k18.tr k19).trans k22 fun x _ e => e.imp id fun e => (row.lt x e).1, ?_, ?_⟩
      · rw [e2]; exact I22
      · rw [e2, e1, List.flatMap_append]
        simpa using row5
    · have e1 : owns (q + 1) S.sof = owns q S.sof := by rw [owns_succ, if_neg (by simpa using hb), List.append_nil]
      refine ⟨S.slots - (q + 1), by omega, q + 1, fa8, fc8, by rw [wi (by omega)]; rfl, hqn, rfl, k18.tr k19, ?_, ?_⟩
      · rw [e1]; exact I19
      · rw [e1]; exact row
  have hqe : q = S.slots := by simp at hc; omega
  subst hqe
  have G18 := (G17.kx k18 fun x e => e).and (ψ := fun W => SlR ROwn 3 W fa8 (owns S.slots S.sof).length fc8 (owns S.slots S.sof)) ⟨_, at_flat (f := ownV) (fun _ => rfl) R18 rfl, fun x hx => by have := (R18.lt x hx).1; omega⟩
  clear k18 R18 G17 I17 hsz18 hq hol
  generalize hfl8 : (owns S.slots S.sof).length = fl8 at *
  obtain ⟨g, cp, u0, H0, hvc, hrg, _, _, _⟩ := (I18.core.at' .caches).one (B := fun _ => RowA (fun i => Cache0 (sz i)) 8) (w' := w18) (i := 0) (fun _ _ => RowA.stb fun _ _ => Cache0.stb) (by omega) fun _ _ => rfl
  have hgl : g < w18.heap.size := rd_lt hrg
  refine ⟨_, I18.hk, Wif_yes rfl ⟨some ⟨g, 0, none⟩, S.nodes, cp, by
    show rd w18 k (0 + 101) = _
    rw [Nat.zero_add, ← hvc]
    exact I18.core.rt (j := 7) rfl, ?_⟩⟩
  refine ⟨fun n W N => ∃ q : Nat, n = q ∧ q ≤ S.nodes ∧ N = S.nodes - q ∧ Kept none' w18 W, ⟨S.nodes, 0, rfl, by omega, rfl, Kept.refl _ _⟩, ?_⟩
  rintro _ w19 _ ⟨q, rfl, hq, rfl, k19⟩
  refine Wif_intro (fun hc => ?_) (fun hc => ?_)
  · have hqn : q < S.nodes := by simp at hc; omega
    have C1 := (I18.kept k19).core
    obtain ⟨g1, cp1, u, H, hv1, hr1, hA1, _, _⟩ := (C1.at' .caches).one (B := fun _ => RowA (fun i => Cache0 (sz i)) 8) (w' := w19) (i := q) (fun _ _ => RowA.stb fun _ _ => Cache0.stb) hqn fun _ _ => rfl
    have eg : g1 = g := by rw [hvc] at hv1; cases hv1; rfl
    subst eg
    obtain ⟨g2, cp2, _, _, rfl, _, _, _, _⟩ := hA1.one (B := fun i => Cache0 (sz i)) (w' := w19) (i := 0) (fun _ _ => Cache0.stb) (by omega) fun _ _ => rfl
    refine Wif_yes rfl (Wif_yes (inB_of (by omega) (by omega)) ⟨some ⟨g2, 0, none⟩, 8, cp2, by rw [Int.toNat_natCast, Nat.mul_one]; show rd w19 g1 (0 + q) = _; rw [Nat.zero_add]; exact hr1, ?_⟩)
    refine ⟨fun n W N => ∃ r : Nat, n = r ∧ r ≤ 8 ∧ N = 8 - r ∧ Kept none' w18 W, ⟨8, 0, rfl, by omega, rfl, k19⟩, ?_⟩
    rintro _ w20 _ ⟨r, rfl, hr8, rfl, k20⟩
    refine Wif_intro (fun hc2 => ?_) (fun hc2 => ⟨S.nodes - (q + 1), by omega, q + 1, by rw [wi (by omega)]; rfl, hqn, rfl, k20⟩)
    have hr8' : r < 8 := by simp at hc2; omega
    have C2 := (I18.kept k20).core
    obtain ⟨g3, cp3, u3, H3, hv3, hr3, hA3, _, _⟩ := (C2.at' .caches).one (B := fun _ => RowA (fun i => Cache0 (sz i)) 8) (w' := w20) (i := q) (fun _ _ => RowA.stb fun _ _ => Cache0.stb) hqn fun _ _ => rfl
    have eg : g3 = g1 := by rw [hvc] at hv3; cases hv3; rfl
    subst eg
    obtain ⟨g4, cp4, u4, H4, rfl, hr4, hA4, _, _⟩ := hA3.one (B := fun i => Cache0 (sz i)) (w' := w20) (i := r) (fun _ _ => Cache0.stb) hr8' fun _ _ => rfl
    have eg42 : g4 = g2 := by
      -- the core's blocks are as they were
      have h1 := (k19.trans (X := none') (Y := none') (Kept.refl none' _) fun _ _ e => e).rdE g3 q
      have e1 := hr1
      have e3 := hr3
      rw [k19.rdE g3 q (hgl)] at e1
      rw [k20.rdE g3 q (hgl)] at e3
      rw [e1] at e3
      cases e3
      rfl
    subst eg42
    obtain ⟨b, _, rfl, _⟩ := hA4.ex
    refine Wif_yes rfl (Wif_yes (inB_of (by omega) (by omega)) ⟨some ⟨b, 0, none⟩, by rw [Int.toNat_natCast, Nat.mul_one]; show rd w20 g4 (0 + r) = _; rw [Nat.zero_add]; exact hr4, (frames0 hA4).mono ?_⟩)
    rintro _ w21 ⟨a0, c0, rfl, k21⟩
    refine ⟨_, _, _, rfl, fun n W N => n = 0 ∧ Kept none' w18 W, ⟨0, rfl, k20.tr k21⟩, ?_⟩
    rintro _ w22 _ ⟨rfl, k22⟩
    exact Wif_no (by simp) ⟨8 - (r + 1), by omega, r + 1, by rw [wi (by omega)]; rfl, hr8', rfl, k22⟩
  have hqe : q = S.nodes := by simp at hc; omega
  subst hqe
  have I19 := I18.kept k19
  have G19 := G18.kx k19 fun x e => e.elim
  clear I18 G18 k19 hq hc
  refine ⟨_, I19.hk, Wif_yes rfl ⟨S.c 1, by show rd w19 k (0 + 1) = _; rw [Nat.zero_add]; exact I19.core.rc (by omega), (mags_pic I19.core I19.hk).mono ?_⟩⟩
  rintro _ w20 ⟨as10, ls10, cs10, rfl, k20, A20⟩
  refine ⟨_, _, _, rfl, (I19.kept k20).ws (i := 10) (by simp), fun w21 e21 => ?_⟩
  obtain ⟨I21, G21⟩ := I19.stp (i := 10) G19 k20 A20 e21
  clear e21 A20 k20 I19 G19
  replace I21 : PI w w21 kb kr k S fp [(.slice as0 ls0 cs0), (.slice as1 ls1 cs1), (.slice as2 ls2 cs2), (.slice as3 ls3 cs3), (.slice as4 S.fli.length cs4), (.slice pa pl pc), (.slice fa6 fl6 fc6), (.slice as7 ls7 cs7), (.slice fa8 fl8 fc8), nilS, (.slice as10 ls10 cs10), nilS, nilS] := I21
  refine ⟨_, I21.hk, Wif_yes rfl ⟨S.c 0, by show rd w21 k 0 = _; exact I21.core.rc (by omega), (depots_pic I21.core I21.hk).mono ?_⟩⟩
  rintro _ w22 ⟨as11, ls11, cs11, rfl, k22, A22⟩
  refine ⟨_, _, _, rfl, (I21.kept k22).ws (i := 11) (by simp), fun w23 e23 => ?_⟩
  obtain ⟨I23, G23⟩ := I21.stp (i := 11) G21 k22 A22 e23
  clear e23 A22 k22 I21 G21
  replace I23 : PI w w23 kb kr k S fp [(.slice as0 ls0 cs0), (.slice as1 ls1 cs1), (.slice as2 ls2 cs2), (.slice as3 ls3 cs3), (.slice as4 S.fli.length cs4), (.slice pa pl pc), (.slice fa6 fl6 fc6), (.slice as7 ls7 cs7), (.slice fa8 fl8 fc8), nilS, (.slice as10 ls10 cs10), (.slice as11 ls11 cs11), nilS] := I23
  refine ⟨_, I23.hk, Wif_yes rfl ⟨_, by show rd w23 k (0 + 97) = _; rw [Nat.zero_add]; exact I23.core.rt (j := 3) rfl, (nlocks_spec (I23.core.at' .locks).1).mono ?_⟩⟩
  rintro _ wx ⟨rfl, hx⟩
  rw [hx]
  clear hx
  refine ⟨_, rfl, (holders_pic I23.core I23.hk).mono ?_⟩
  rintro _ w24 ⟨as12, ls12, cs12, rfl, k24, A24⟩
  refine ⟨_, _, _, rfl, (I23.kept k24).ws (i := 12) (by simp), fun w25 e25 => ?_⟩
  obtain ⟨I25, G25⟩ := I23.stp (i := 12) G23 k24 A24 e25
  clear e25 A24 k24 I23 G23
  replace I25 : PI w w25 kb kr k S fp [(.slice as0 ls0 cs0), (.slice as1 ls1 cs1), (.slice as2 ls2 cs2), (.slice as3 ls3 cs3), (.slice as4 S.fli.length cs4), (.slice pa pl pc), (.slice fa6 fl6 fc6), (.slice as7 ls7 cs7), (.slice fa8 fl8 fc8), nilS, (.slice as10 ls10 cs10), (.slice as11 ls11 cs11), (.slice as12 ls12 cs12)] := I25
  have whole := I25.okr
  refine ⟨S.c, as0, ls0, cs0, as1, ls1, cs1, as2, ls2, cs2, as3, ls3, cs3, as4, S.fli.length, cs4, pa, pl, pc, fa6, fl6, fc6, as7, ls7, cs7, fa8, fl8, fc8, none, 0, 0, as10, ls10, cs10, as11, ls11, cs11, as12, ls12, cs12, whole.rdAll 0 (fun j hj => by rw [Nat.zero_add]), whole.wrAll 0 (by rw [Nat.zero_add]; exact Nat.le_refl _), fun w26 e26 => ?_⟩
  obtain ⟨o26, q26⟩ := stAll_whole whole e26 rfl
  refine ⟨S.c, as0, ls0, cs0, as1, ls1, cs1, as2, ls2, cs2, as3, ls3, cs3, as4, S.fli.length, cs4, pa, pl, pc, fa6, fl6, fc6, as7, ls7, cs7, fa8, fl8, fc8, none, 0, 0, as10, ls10, cs10, as11, ls11, cs11, as12, ls12, cs12, o26.rdAll 0 (fun j hj => by rw [Nat.zero_add]), ?_⟩
  have G26 := G25.kx q26 fun x e => .inl e
  obtain ⟨F, hF, hFk⟩ := G26.ex
  refine ⟨⟨fun i => [as0, as1, as2, as3, as4, pa, fa6, as7, fa8, none, as10, as11, as12].getD i none, fun i => [ls0, ls1, ls2, ls3, S.fli.length, pl, fl6, ls7, fl8, 0, ls10, ls11, ls12].getD i 0, fun i => [cs0, cs1, cs2, cs3, cs4, pc, fc6, cs7, fc8, 0, cs10, cs11, cs12].getD i 0⟩, rfl, own0 I25.K0 q26 fun x e => by omega, (hF.imp fun W hW => ?_).mono (fun x hx => ⟨by have := hFk x hx; omega, hF.lt x hx⟩) fun x hx => hx.2⟩
  obtain ⟨⟨⟨⟨⟨⟨⟨⟨⟨⟨⟨⟨_, h0⟩, h1⟩, h2⟩, h3⟩, h4⟩, h5⟩, h6⟩, h7⟩, h8⟩, h10⟩, h11⟩, h12⟩ := hW
  exact ⟨h0, h1, h2, h3, h4, h5, h6, h7, h8, SlR.nil', h10, h11, h12⟩
def IL (B : Nat) (W : World) (b o : Nat) : Prop := B ≤ b ∧ wr W b o ∧ ∃ x : Int, rd W b o = some (vi x)
def UL (B : Nat) (W : World) (b o : Nat) : Prop := B ≤ b ∧ wr W b o ∧ ∃ x : Int, rd W b o = some (.int .u8 x)
structure Sm (B : Nat) (W W' : World) : Prop where
  kp : Kept (fun x => B ≤ x) W W'
  il : ∀ b o, IL B W b o → IL B W' b o
  ul : ∀ b o, UL B W b o → UL B W' b o
  sl : ∀ b o a l c, rd W b o = some (.slice a l c) → rd W' b o = some (.slice a l c)
theorem Sm.refl {B : Nat} {W : World} : Sm B W W := ⟨Kept.refl _ _, fun _ _ h => h, fun _ _ h => h, fun _ _ _ _ _ h => h⟩
theorem Sm.tr {B : Nat} {W W1 W2 : World} (h : Sm B W W1) (h2 : Sm B W1 W2) : Sm B W W2 :=
  ⟨h.kp.trans h2.kp fun _ _ h => h, fun b o hh => h2.il b o (h.il b o hh), fun b o hh => h2.ul b o (h.ul b o hh), fun b o a l c hh => h2.sl b o a l c (h.sl b o a l c hh)⟩
theorem Sm.st {B : Nat} {W W' : World} {b o : Nat} {x : Int} (h : IL B W b o) (e : W' = st W b o (vi x)) : Sm B W W' := by
  subst e
  obtain ⟨h1, h2, y, h3⟩ := h
  have off : ∀ b' o' v, rd W b' o' = some v → v ≠ vi y → rd (Eng.st W b o (vi x)) b' o' = some v := fun b' o' v hv hn => by
    rw [rd_st, if_neg fun e => hn (by rw [e.1, e.2, hv] at h3; exact Option.some.inj h3)]
    exact hv
  refine ⟨(Kept.refl _ _).st (.inl h1), fun b' o' ⟨g1, g2, z, g3⟩ => ⟨g1, wr_st_of g2, ?_⟩, fun b' o' ⟨g1, g2, z, g3⟩ => ⟨g1, wr_st_of g2, z, off _ _ _ g3 (fun e => by cases e)⟩, fun b' o' a l c hh => off _ _ _ hh (fun e => by cases e)⟩
  rw [rd_st]
  by_cases e : b = b' ∧ o = o'
  · rw [if_pos e, h3]; exact ⟨x, rfl⟩
  · rw [if_neg e]; exact ⟨z, g3⟩
theorem Sm.stu {B : Nat} {W W' : World} {b o : Nat} {x : Int} (h : UL B W b o) (e : W' = Eng.st W b o (.int .u8 x)) : Sm B W W' := by
  subst e
  obtain ⟨h1, h2, y, h3⟩ := h
  have off : ∀ b' o' v, rd W b' o' = some v → v ≠ .int .u8 y → rd (Eng.st W b o (.int .u8 x)) b' o' = some v := fun b' o' v hv hn => by
    rw [rd_st, if_neg fun e => hn (by rw [e.1, e.2, hv] at h3; exact Option.some.inj h3)]
    exact hv
  refine ⟨(Kept.refl _ _).st (.inl h1), fun b' o' ⟨g1, g2, z, g3⟩ => ⟨g1, wr_st_of g2, z, off _ _ _ g3 (fun e => by cases e)⟩, fun b' o' ⟨g1, g2, z, g3⟩ => ⟨g1, wr_st_of g2, ?_⟩, fun b' o' a l c hh => off _ _ _ hh (fun e => by cases e)⟩
  rw [rd_st]
  by_cases e : b = b' ∧ o = o'
  · rw [if_pos e, h3]; exact ⟨x, rfl⟩
  · rw [if_neg e]; exact ⟨z, g3⟩
def SW (E : World → Nat → Nat → Prop) (s : Nat) (W : World) (a : Option Addr) (l : Nat) : Prop := (0 < l → isP a = true) ∧ l ≤ maxLen ∧ ∀ i, i < l → E W (pb a) (po a + i * s)
theorem SW.to {E : World → Nat → Nat → Prop} {s : Nat} {W W' : World} {a : Option Addr} {l : Nat} (h : SW E s W a l) (hE : ∀ b o, E W b o → E W' b o) : SW E s W' a l := ⟨h.1, h.2.1, fun i hi => hE _ _ (h.2.2 i hi)⟩
structure Shp (B : Nat) (S : PicS) (W : World) : Prop where
  marks : SW (fun W b o => UL B W b o ∧ IL B W b (o + 1) ∧ IL B W b (o + 2) ∧ IL B W b (o + 3) ∧ IL B W b (o + 4)) 5 W (S.a 0) (S.l 0)
  free : SW (IL B) 2 W (S.a 1) (S.l 1)
  procs : SW (fun W b o => IL B W b (o + 1) ∧ ∃ a l c, rd W b (o + 3) = some (.slice a l c) ∧ SW (fun W b o => IL B W b (o + 2)) 3 W a l) 6 W (S.a 5) (S.l 5)
  clocks : SW (fun W b o => ∃ a l c, rd W b o = some (.slice a l c) ∧ SW (IL B) 1 W a l) 1 W (S.a 7) (S.l 7)
  frames : SW (fun W b o => IL B W b (o + 2)) 3 W (S.a 6) (S.l 6)
  hold : SW (IL B) 1 W (S.a 12) (S.l 12)
  fli : SW (IL B) 1 W (S.a 4) (S.l 4)
theorem Shp.sm {B : Nat} {S : PicS} {W W' : World} (h : Shp B S W) (k : Sm B W W') : Shp B S W' :=
  ⟨h.marks.to fun b o ⟨h1, h2, h3, h4, h5⟩ => ⟨k.ul _ _ h1, k.il _ _ h2, k.il _ _ h3, k.il _ _ h4, k.il _ _ h5⟩, h.free.to k.il,
    h.procs.to fun b o ⟨h1, a, l, c, h2, h3⟩ => ⟨k.il _ _ h1, a, l, c, k.sl _ _ _ _ _ h2, h3.to fun b o h => k.il _ _ h⟩,
    h.clocks.to fun b o ⟨a, l, c, h2, h3⟩ => ⟨a, l, c, k.sl _ _ _ _ _ h2, h3.to k.il⟩, h.frames.to fun b o h => k.il _ _ h, h.hold.to k.il, h.fli.to k.il⟩
section
variable {w w' w1 : World} {φ : World → Prop}
theorem _root_.Go.Eng.At.ge (A : At (rng w w') φ w1) {b o : Nat} (hw : wr w1 b o) (h : φ (st w1 b o (.bool true)) → rd (st w1 b o (.bool true)) b o ≠ some (.bool true)) : w.heap.size ≤ b := by
  rcases Nat.lt_or_ge b w.heap.size with hb | hb
  · exfalso
    obtain ⟨v, hv⟩ := hw.cell
    have hn : ¬ rng w w' b := fun e => by have := e.1; omega
    exact h (A.go _ ((Kept.refl _ _).st (.inl hn))) (rd_st_same hv)
  · exact hb
theorem _root_.Go.Eng.At.loc (A : At (rng w w') φ w1) {α : Type} {f : α → List Value} {s : Nat} {a : Option Addr} {l c : Nat} {xs : List α} (sl : ∀ W, φ W → SlR (fun _ cs x => cs = f x) s W a l c xs)
    {i : Nat} {x : α} (hx : xs[i]? = some x) {j : Nat} {u : Value} (hj : (f x)[j]? = some u) (hu : u ≠ .bool true) :
    w.heap.size ≤ pb a ∧ wr w1 (pb a) (po a + i * s + j) ∧ rd w1 (pb a) (po a + i * s + j) = some u := by
  have get : ∀ W, φ W → wr W (pb a) (po a + i * s + j) ∧ rd W (pb a) (po a + i * s + j) = some u := fun W hW => by
    have S := sl W hW
    obtain ⟨cs, hl, rfl, hr⟩ := S.el i x hx
    refine ⟨?_, hr j u hj⟩
    have h1 : j < s := by rw [← hl]; exact (List.getElem?_eq_some_iff.1 hj).1
    have h2 : i < l := by rw [S.len]; exact (List.getElem?_eq_some_iff.1 hx).1
    have h3 : i * s + s ≤ l * s := by rw [← Nat.succ_mul]; exact Nat.mul_le_mul_right s h2
    have := S.wl (i * s + j) (by omega)
    rw [← Nat.add_assoc] at this
    exact this
  obtain ⟨g1, g2⟩ := get w1 A.now
  refine ⟨A.ge g1 fun hφ => ?_, g1, g2⟩
  rw [(get _ hφ).2]
  exact fun e => hu (Option.some.inj e)
theorem _root_.Go.Eng.At.loc2 (A : At (rng w w') φ w1) {α : Type} {f : α → List Value} {s b0 o0 : Nat} {a : Option Addr} {l c : Nat} {xs : List α} (h0 : rd w1 b0 o0 = some (.slice a l c)) (sl : ∀ W, φ W → ∃ a l c, rd W b0 o0 = some (.slice a l c) ∧ SlR (fun _ cs x => cs = f x) s W a l c xs)
    {i : Nat} {x : α} (hx : xs[i]? = some x) {j : Nat} {u : Value} (hj : (f x)[j]? = some u) (hu : u ≠ .bool true) (hus : u ≠ .slice a l c) :
    w.heap.size ≤ pb a ∧ wr w1 (pb a) (po a + i * s + j) ∧ rd w1 (pb a) (po a + i * s + j) = some u := by
  have get : ∀ W, φ W → rd W b0 o0 = some (.slice a l c) → wr W (pb a) (po a + i * s + j) ∧ rd W (pb a) (po a + i * s + j) = some u := fun W hW he => by
    obtain ⟨a', l', c', g0, S⟩ := sl W hW
    rw [he] at g0
    cases g0
    obtain ⟨cs, hl, rfl, hr⟩ := S.el i x hx
    refine ⟨?_, hr j u hj⟩
    have h1 : j < s := by rw [← hl]; exact (List.getElem?_eq_some_iff.1 hj).1
    have h2 : i < l := by rw [S.len]; exact (List.getElem?_eq_some_iff.1 hx).1
    have h3 : i * s + s ≤ l * s := by rw [← Nat.succ_mul]; exact Nat.mul_le_mul_right s h2
    have := S.wl (i * s + j) (by omega)
    rw [← Nat.add_assoc] at this
    exact this
  obtain ⟨g1, g2⟩ := get w1 A.now h0
  refine ⟨A.ge g1 fun hφ => ?_, g1, g2⟩
  rw [(get _ hφ ?_).2]
  · exact fun e => hu (Option.some.inj e)
  · rw [rd_st, if_neg fun e => hus ?_]
    · exact h0
    · rw [e.1, e.2, h0] at g2
      exact (Option.some.inj g2).symm
end
theorem shp_of {w w' w1 : World} {PS : PicS} {x : Pic} (A : At (rng w w') (fun W => PicR W PS x) w1) : Shp w.heap.size PS w1 := by
  have P := A.now
  have g : ∀ {α : Type} {xs : List α} {l i : Nat}, l = xs.length → i < l → ∃ x, xs[i]? = some x := fun {α xs l i} e h => ⟨_, List.getElem?_eq_getElem (by omega)⟩
  refine ⟨⟨P.marks.isp, Nat.le_trans P.marks.lc P.marks.mx, fun i hi => ?_⟩, ⟨P.free.isp, Nat.le_trans P.free.lc P.free.mx, fun i hi => ?_⟩, ⟨P.procs.isp, Nat.le_trans P.procs.lc P.procs.mx, fun i hi => ?_⟩, ⟨P.clocks.isp, Nat.le_trans P.clocks.lc P.clocks.mx, fun i hi => ?_⟩, ⟨P.frames.isp, Nat.le_trans P.frames.lc P.frames.mx, fun i hi => ?_⟩, ⟨P.holders.isp, Nat.le_trans P.holders.lc P.holders.mx, fun i hi => ?_⟩, ⟨P.flight.isp, Nat.le_trans P.flight.lc P.flight.mx, fun i hi => ?_⟩⟩
  · obtain ⟨y, hy⟩ := g P.marks.len hi
    have G : ∀ {j : Nat} {u : Value}, _ → _ → _ := fun {j u} => A.loc (f := fun x : Mark => [.int .u8 x.role, vi x.order, vi x.owner, vi x.page, vi x.index]) (fun W h => h.marks) hy (j := j) (u := u)
    obtain ⟨a1, a2, a3⟩ := G (j := 0) rfl (fun e => by cases e)
    obtain ⟨b1, b2, b3⟩ := G (j := 1) rfl (fun e => by cases e)
    obtain ⟨c1, c2, c3⟩ := G (j := 2) rfl (fun e => by cases e)
    obtain ⟨d1, d2, d3⟩ := G (j := 3) rfl (fun e => by cases e)
    obtain ⟨e1, e2, e3⟩ := G (j := 4) rfl (fun e => by cases e)
    exact ⟨⟨a1, a2, _, a3⟩, ⟨b1, b2, _, b3⟩, ⟨c1, c2, _, c3⟩, ⟨d1, d2, _, d3⟩, ⟨e1, e2, _, e3⟩⟩
  · obtain ⟨y, hy⟩ := g P.free.len hi
    obtain ⟨a1, a2, a3⟩ := A.loc (f := fun x : Int × Int => [vi x.1, vi x.2]) (fun W h => h.free) hy (j := 0) rfl (fun e => by cases e)
    exact ⟨a1, a2, _, a3⟩
  · obtain ⟨y, hy⟩ := g P.procs.len hi
    obtain ⟨cs, _, hR, hr⟩ := P.procs.el i y hy
    obtain ⟨a1, l1, c1, a2, l2, c2, a3, l3, c3, a4, l4, c4, rfl, _, SP, _, _⟩ := hR
    have sl : ∀ W, PicR W PS x → ∃ a l c, rd W (pb (PS.a 5)) (po (PS.a 5) + i * 6 + 3) = some (.slice a l c) ∧ SlR (fun _ cs x => cs = (fun x : Mapped => [vi x.page, .int .u8 x.kind, vi x.n]) x) 3 W a l c y.pages := fun W h => by
      obtain ⟨cs, _, hR, hr⟩ := h.procs.el i y hy
      obtain ⟨a1, l1, c1, a2, l2, c2, a3, l3, c3, a4, l4, c4, rfl, _, SP, _, _⟩ := hR
      exact ⟨a2, l2, c2, hr 3 _ rfl, SP⟩
    have hwr : wr w1 (pb (PS.a 5)) (po (PS.a 5) + i * 6 + 1) := by
      have := P.procs.wl (i * 6 + 1) (by omega)
      rw [← Nat.add_assoc] at this
      exact this
    refine ⟨⟨A.ge hwr fun h => ?_, hwr, _, hr 1 _ rfl⟩, a2, l2, c2, hr 3 _ rfl, SP.isp, Nat.le_trans SP.lc SP.mx, fun n hn => ?_⟩
    · obtain ⟨cs, _, hR, hr⟩ := h.procs.el i y hy
      obtain ⟨a1, l1, c1, a2, l2, c2, a3, l3, c3, a4, l4, c4, rfl, _⟩ := hR
      rw [hr 1 _ rfl]
      exact fun e => by cases e
    · obtain ⟨z, hz⟩ := g SP.len hn
      obtain ⟨a1, a2, a3⟩ := A.loc2 (hr 3 _ rfl) sl hz (j := 2) rfl (fun e => by cases e) (fun e => by cases e)
      exact ⟨a1, a2, _, a3⟩
  · obtain ⟨y, hy⟩ := g P.clocks.len hi
    obtain ⟨cs, _, ⟨a, l, c, rfl, SP⟩, hr⟩ := P.clocks.el i y hy
    have h0 := hr 0 _ rfl
    rw [Nat.add_zero] at h0
    have sl : ∀ W, PicR W PS x → ∃ a l c, rd W (pb (PS.a 7)) (po (PS.a 7) + i * 1) = some (.slice a l c) ∧ SlR (fun _ cs x => cs = (fun x : Int => [vi x]) x) 1 W a l c y := fun W h => by
      obtain ⟨cs, _, ⟨a, l, c, rfl, SP⟩, hr⟩ := h.clocks.el i y hy
      have h0 := hr 0 _ rfl
      rw [Nat.add_zero] at h0
      exact ⟨a, l, c, h0, SP⟩
    refine ⟨a, l, c, h0, SP.isp, Nat.le_trans SP.lc SP.mx, fun n hn => ?_⟩
    obtain ⟨z, hz⟩ := g SP.len hn
    obtain ⟨a1, a2, a3⟩ := A.loc2 h0 sl hz (j := 0) rfl (fun e => by cases e) (fun e => by cases e)
    exact ⟨a1, a2, _, a3⟩
  · obtain ⟨y, hy⟩ := g P.frames.len hi
    obtain ⟨a1, a2, a3⟩ := A.loc (f := fun x : Own => [vi x.n, vi x.pid, vi x.page]) (fun W h => h.frames) hy (j := 2) rfl (fun e => by cases e)
    exact ⟨a1, a2, _, a3⟩
  · obtain ⟨y, hy⟩ := g P.holders.len hi
    obtain ⟨a1, a2, a3⟩ := A.loc (f := fun x : Int => [vi x]) (fun W h => h.holders) hy (j := 0) rfl (fun e => by cases e)
    exact ⟨a1, a2, _, a3⟩
  · obtain ⟨y, hy⟩ := g P.flight.len hi
    obtain ⟨a1, a2, a3⟩ := A.loc (f := fun x : Int => [vi x]) (fun W h => h.flight) hy (j := 0) rfl (fun e => by cases e)
    exact ⟨a1, a2, _, a3⟩
end Go.Proofs.YtklmokolnakkoaaGreatDoor
