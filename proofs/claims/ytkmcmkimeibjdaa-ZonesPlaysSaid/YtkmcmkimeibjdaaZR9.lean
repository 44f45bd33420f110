/-
  A part of a proof that a law of this seat returns true at every input. Conditions: those in each theorem.
-/
import Derived.Test.YtkmcmkimeibjdaaZR8
import Derived.Test.YtkmcmkimeibjdaaZC1
namespace Go.Proofs.Ytkmcmkimeibjdaa
open Go Eng
set_option linter.unusedSimpArgs false
set_option linter.unusedVariables false
set_option maxRecDepth 100000
/-! ### ZonesPlays -/
structure ZOp (w : World) (a : Option Addr) (i : Nat) (k nd o fl : Int) (na : Option Addr) (nl nc : Nat) (h : Bool) (nf : Nat → Int) : Prop where
  r0 : rd w (pb a) (po a + i * 6) = some (.int .i64 k)
  r1 : rd w (pb a) (po a + i * 6 + 1) = some (.int .i64 nd)
  r2 : rd w (pb a) (po a + i * 6 + 2) = some (.int .i64 o)
  r3 : rd w (pb a) (po a + i * 6 + 3) = some (.int .i64 fl)
  r4 : rd w (pb a) (po a + i * 6 + 4) = some (.slice na nl nc)
  r5 : rd w (pb a) (po a + i * 6 + 5) = some (.bool h)
  isp : 0 < nl → isP na = true
  nil : na = none → nl = 0 ∧ nc = 0
  nrd : ∀ j, j < nl → rd w (pb na) (po na + j) = some (.int .i64 (nf j))
  w1 : -9223372036854775808 ≤ nd ∧ nd ≤ 9223372036854775807
theorem ZOp.k {w w' : World} {a : Option Addr} {i : Nat} {k nd o fl : Int} {na : Option Addr} {nl nc : Nat} {h : Bool} {nf : Nat → Int} (x : ZOp w a i k nd o fl na nl nc h nf) (q : Kept none' w w') : ZOp w' a i k nd o fl na nl nc h nf :=
  ⟨q.rd_some x.r0 id, q.rd_some x.r1 id, q.rd_some x.r2 id, q.rd_some x.r3 id, q.rd_some x.r4 id, q.rd_some x.r5 id, x.isp, x.nil, fun j hj => q.rd_some (x.nrd j hj) id, x.w1⟩
theorem copy_ints {w : World} {X : Nat} {na : Option Addr} {nl nc : Nat} {nf : Nat → Int} (hX : w.heap[X]? = some (.cells #[] 3 (0, 0))) (hp : 0 < nl → isP na = true) (hn : na = none → nl = 0 ∧ nc = 0) (hr : ∀ j, j < nl → rd w (pb na) (po na + j) = some (.int .i64 (nf j))) (hl : nl ≤ 50) :
    ∃ a c w', appIs Try.prog #[42, 42] 42 (.slice (some ⟨X, 0, none⟩) 0 0) (.slice na nl nc) (.slice a nl c) w w' ∧ (0 < nl → isP a = true) ∧ (∀ j, j < nl → rd w' (pb a) (po a + j) = some (.int .i64 (nf j))) ∧ Kept (· = X) w w' := by
  have hlt : X < w.heap.size := (Array.getElem?_eq_some_iff.1 hX).1
  have rX : w.ownsRow X 3 1 (.slice (some ⟨X, 0, none⟩) 0 0) 0 [] := ⟨rfl, .inr ⟨X, 0, #[], rfl, Nat.le_refl _, hX, by decide, by decide, rfl, rfl⟩⟩
  have hs : Src w na nl nc ((List.range nl).map fun j => .int .i64 (nf j)) := by
    refine ⟨hn, fun h0 => ?_⟩
    have h0' : 0 < nl := by simpa using h0
    have hpp := isP_spec (hp h0')
    refine ⟨pb na, po na, hpp, fun j u hj => ?_⟩
    rw [List.getElem?_map] at hj
    cases hh : (List.range nl)[j]? with
    | none => rw [hh] at hj; cases hj
    | some x =>
      rw [hh] at hj
      have hx := List.getElem?_eq_some_iff.1 hh
      obtain ⟨h1, h2⟩ := hx
      simp at h1 h2
      subst h2
      cases hj
      exact hr j h1
  have hi3 := info_int
  cases hi : Try.prog.info? 3 with
  | none => rw [hi] at hi3; cases hi3
  | some i =>
    rw [hi] at hi3
    simp at hi3
    obtain ⟨a', c', w', happ, row, k⟩ := app (P := Try.prog) (t := 42) (ty := 42) (e := 3) (i := i) (z := .int .i64 0) (size := 1) Try.underlying42 hi hi3.1 hi3.2.1 rfl (by decide) rX hs (by simp) (fun u hu => by obtain ⟨j, _, rfl⟩ := List.mem_map.1 hu; rfl) (by omega) (by omega) (by omega)
    rw [Nat.zero_add] at happ row
    rw [List.nil_append] at row
    have sr := Src.of_row row
    refine ⟨a', c', w', happ, fun h0 => sr.isp (by simpa using h0), fun j hj => sr.rd (by rw [List.getElem?_map, List.getElem?_range hj]; rfl), k.mono fun x _ h => by simp [Value.ownBlock] at h; exact h.symm⟩
theorem zplays_law (c : Nat → Int) (l : Option Addr) (lL lC : Nat) (W : World) (hp : 0 < lL → isP l = true) (hx : ∀ i, i < lL → ∃ k nd o fl na nl nc h nf, ZOp W l i k nd o fl na nl nc h nf) :
    Calls Try.prog 11 #[cfgV c, .slice l lL lC] W fun r w' => r = .returned (.bool true) ∧ Kept none' W w' := by
  refine (vc11 c l lL lC W (fun v w' => v = .bool true ∧ Kept none' W w') ?_).mono ?_
  · unfold vcP11
    have hknown : ∀ w1, Kept none' W w1 → Calls Try.prog 21 #[] w1 fun (e : Ending) (w' : World) => ∃ (b : Bool), e = Ending.returned (Value.bool b) ∧ (Value.bool b = .bool true ∧ Kept none' W w') := fun w1 k1 => by
      refine (zknown_spec w1).mono ?_
      rintro _ w2 ⟨rfl, k2⟩
      exact ⟨_, rfl, rfl, k1.tr k2⟩
    intro w1 e1
    have o1 := own_alloc e1
    have k1 : Kept none' W w1 := (Kept.refl _ _).al e1
    have s1 : w1.heap.size = W.heap.size + 1 := by rw [e1]; simp only [World.alloc, Array.size_push]
    generalize hkb : W.heap.size = kb at *
    clear e1
    refine ⟨c, o1.rIall, (znew_spec c w1).mono ?_⟩
    rintro _ w2 ⟨k12, hnew⟩
    have o2 := o1.k k12
    have K2 := k1.tr k12
    rcases hnew with ⟨hno, rfl⟩ | ⟨hm, z, S, L, rfl, h2, rfl, g2, fr2⟩
    · refine ⟨_, _, rfl, c, o2.rIall, (rmay_spec c w2).mono ?_⟩
      rintro _ w3 ⟨mb, rfl, hmb, k23⟩
      have : mb = false := by
        cases mb with
        | false => rfl
        | true => exact absurd (hmb.1 rfl) hno
      subst this
      exact ⟨_, rfl, Wif_yes rfl (Wif_yes rfl (hknown _ (K2.tr k23)))⟩
    refine ⟨_, _, rfl, S.c, o2.rIall, (rmay_spec S.c w2).mono ?_⟩
    rintro _ w3 ⟨mb, rfl, hmb, k23⟩
    have : mb = true := hmb.2 hm
    subst this
    have o3 := o2.k k23
    have K3 := K2.tr k23
    have h3 := h2.k k23
    refine ⟨_, rfl, Wif_no rfl (Wif_intro (fun _ => hknown _ K3) (fun hc => ?_))⟩
    simp at hc
    refine ⟨S.c, o3.rIall, (rnew_zones S.c hm w3).mono ?_⟩
    rintro _ w4 ⟨y, R, L', rfl, k34, hR4, ec, iv4, g4, fy, fb, fn, frb⟩
    have h4 := h3.k k34
    have K4 := K3.tr k34
    have ek : R.k = S.k := by have := h4.kc; have := hR4.kc; rw [ec] at this; omega
    have enn : ∀ i, R.n i = S.n i := fun i => by unfold Rz.n Zs.n; rw [ec]
    have s3 := K3.sz
    have zlt3 : ∀ x, S.all z x → x < w3.heap.size := fun x hx => h3.lt hx
    -- all are free in both: they are alike
    have hLL : ∀ i, i < R.k → L' i = L i := fun i hi => by
      have h1 := iv4 i hi
      rw [enn] at h1
      exact h1.zero (h4.iv i (by omega)) (g4 i hi) (g2 i (by omega))
    have hR4' : RZ w4 y R L (fun _ => []) := ⟨hR4.so, hR4.sb, hR4.sn, fun i hi => by rw [← hLL i hi]; exact hR4.at_ i hi, hR4.ne, hR4.nj, hR4.kc, hR4.my⟩
    have ivR : ∀ {L : Nat → List Bk} {w : World}, ZAt w z S L → ∀ i, i < R.k → Inv (R.n i) (L i) := fun h i hi => by rw [enn]; exact h.iv i (by omega)
    refine ⟨_, rfl, Wif_no rfl ((zsame_spec h4 hR4' ec (ivR h4)).mono ?_)⟩
    rintro _ w5 ⟨rfl, k45⟩
    refine ⟨_, rfl, Wif_no rfl ?_⟩
    clear ivR
    refine ⟨fun _ p k w' M => ∃ (q z : Nat) (S' : Zs) (L : Nat → List Bk) (T : Nat → List (Nat × Nat)), p = some ⟨z, 0, none⟩ ∧ k = (q : Int) ∧ q ≤ lL ∧ M = lL - q ∧ Kept none' W w' ∧ ZAt w' z S' L ∧ S'.c = R.c ∧ Apart z y S' R ∧ (∀ x, S'.all z x → kb ≤ x) ∧ RZ w' y R L T ∧ (∀ i, i < R.k → Tks (L i) (T i)) ∧ ∀ i, i < R.k → (T i).length ≤ q,
      ⟨lL, 0, z, S, L, fun _ => [], rfl, rfl, by omega, rfl, K4.tr k45, h4.k k45, ec.symm, fun x hx => by have := zlt3 x hx; omega, fun x hx => by have := fr2 x hx; omega, hR4'.k' k45, fun i hi => ⟨List.nodup_nil, fun b hb => ⟨fun hm => by have := g2 i (by omega) b hm; omega, fun h => by simp at h⟩⟩, fun i hi => by simp⟩, ?_⟩
    clear h2 h3 h4 hR4 hR4' g2 g4 fr2 iv4 hLL ek enn zlt3 K4 k45 k34 K3 k23 K2 k12 o1 o2 o3 hmb hm ec
    clear L L' S z
    rintro bb _ _ w6 _ ⟨q, z, S, L, T, rfl, rfl, hq, rfl, k6, h6, ec, ap, fr, hR6, ht6, hT6⟩
    have ek : R.k = S.k := by have := h6.kc; have := hR6.kc; rw [← ec] at this; omega
    have enn : ∀ i, R.n i = S.n i := fun i => by unfold Rz.n Zs.n; rw [ec]
    have ivR : ∀ {L : Nat → List Bk} {w : World}, ZAt w z S L → ∀ i, i < R.k → Inv (R.n i) (L i) := fun h i hi => by rw [enn]; exact h.iv i (by omega)
    have frr : ∀ i, i < R.k → kb ≤ R.rb i := fun i hi => by have := frb i hi; omega
    refine Wif_intro (fun hc2 => ?_) (fun _ => hknown _ k6)
    simp only [decide_eq_true_eq] at hc2
    obtain ⟨k, nd, o, fl, na, nl, nc, hh, nf, hop⟩ := hx q (by omega)
    have hop6 := hop.k k6
    have hP := hp (by omega)
    have eP : ∀ {x y : Prop}, Wif (isP l) x y = x := by intro x y; rw [hP]; rfl
    have eB : ∀ {x y : Prop}, Wif (inB (q : Int) lL) x y = x := by intro x y; rw [inB_of (by omega) (by omega)]; rfl
    have ew : IntKind.wrap .i64 ((q : Int) + 1) = ((q + 1 : Nat) : Int) := by rw [wi (by omega)]; rfl
    simp only [eP, eB, Int.toNat_natCast, ew]
    refine ⟨k, nd, o, fl, na, nl, nc, hh, ⟨hop6.r0, hop6.r1, hop6.r2, hop6.r3, hop6.r4, hop6.r5⟩, fun w7 e7 => ?_⟩
    have o7 := own_alloc (c := [.int .i64 0, .int .i64 0, .int .i64 0, .int .i64 0, .slice none 0 0, .bool false]) e7
    have k67 : Kept none' w6 w7 := (Kept.refl _ _).al e7
    refine ⟨⟨o7.wr (by simp), o7.wr (by simp), o7.wr (by simp), o7.wr (by simp), o7.wr (by simp), o7.wr (by simp)⟩, fun w8 e8 => ?_⟩
    have o8 : own w8 w6.heap.size [.int .i64 k, .int .i64 nd, .int .i64 o, .int .i64 fl, .slice na nl nc, .bool hh] := by subst e8; exact (((((o7.st_same).st_same).st_same).st_same).st_same).st_same
    have k68 : Kept none' w6 w8 := by
      refine own0 (X := (· = w6.heap.size)) k67 ?_ fun x hx => by omega
      subst e8
      exact ((((((Kept.refl (· = w6.heap.size) w7).st (.inl rfl)).st (.inl rfl)).st (.inl rfl)).st (.inl rfl)).st (.inl rfl)).st (.inl rfl)
    have K8 := k6.tr k68
    have h8 := h6.k k68
    have hR8 := hR6.k' k68
    have hop8 := hop6.k k68
    have zlt : ∀ x, S.all z x → x < w6.heap.size := fun x hx => h6.lt hx
    have rlt : ∀ i, i < R.k → R.rb i < w6.heap.size := fun i hi => by obtain ⟨_, _, _, _, oo, _, _⟩ := (hR6.at_ i hi).one; exact oo.lt
    have sk6 := k6.sz
    clear e7 e8 o7
    generalize hD : w6.heap.size = D at *
    have nxt : ∀ (u : World), Kept none' W u → ZAt u z S L → RZ u y R L T → ∃ (mm : Nat), Nat.succ mm ≤ lL - q ∧ ∃ (q' z' : Nat) (S' : Zs) (L : Nat → List Bk) (T : Nat → List (Nat × Nat)), some (⟨z, 0, none⟩ : Addr) = some ⟨z', 0, none⟩ ∧ ((q + 1 : Nat) : Int) = (q' : Int) ∧ q' ≤ lL ∧ mm = lL - q' ∧ Kept none' W u ∧ ZAt u z' S' L ∧ S'.c = R.c ∧ Apart z' y S' R ∧ (∀ x, S'.all z' x → kb ≤ x) ∧ RZ u y R L T ∧ (∀ i, i < R.k → Tks (L i) (T i)) ∧ ∀ i, i < R.k → (T i).length ≤ q' :=
      fun u ku hu hRu => ⟨lL - (q + 1), by omega, q + 1, z, S, L, T, rfl, rfl, by omega, rfl, ku, hu, ec, ap, fr, hRu, ht6, fun i hi => by have := hT6 i hi; omega⟩
    have next : ∀ (u : World) (z' : Nat) (S' : Zs) (L' : Nat → List Bk) (T' : Nat → List (Nat × Nat)), Kept none' W u → ZAt u z' S' L' → S'.c = R.c → Apart z' y S' R → (∀ x, S'.all z' x → kb ≤ x) → RZ u y R L' T' → (∀ i, i < R.k → Tks (L' i) (T' i)) → (∀ i, i < R.k → (T' i).length ≤ q + 1) →
        Calls Try.prog 38 #[.pointer (some ⟨z', 0, none⟩), .pointer (some ⟨y, 0, none⟩)] u fun (e : Ending) (w' : World) => ∃ (b_1 : Bool), e = .returned (.bool b_1) ∧ Wif (!b_1) (Value.bool false = .bool true ∧ Kept none' W w') (∃ (mm : Nat), Nat.succ mm ≤ lL - q ∧ ∃ (q' z : Nat) (S' : Zs) (L : Nat → List Bk) (T : Nat → List (Nat × Nat)), some (⟨z', 0, none⟩ : Addr) = some ⟨z, 0, none⟩ ∧ ((q + 1 : Nat) : Int) = (q' : Int) ∧ q' ≤ lL ∧ mm = lL - q' ∧ Kept none' W w' ∧ ZAt w' z S' L ∧ S'.c = R.c ∧ Apart z y S' R ∧ (∀ x, S'.all z x → kb ≤ x) ∧ RZ w' y R L T ∧ (∀ i, i < R.k → Tks (L i) (T i)) ∧ ∀ i, i < R.k → (T i).length ≤ q') := by
      intro u z' S' L' T' ku hu ec' ap' fr' hRu htu hTu
      have enn' : ∀ i, R.n i = S'.n i := fun i => by unfold Rz.n Zs.n; rw [ec']
      have ek' : R.k = S'.k := by have := hu.kc; have := hRu.kc; rw [← ec'] at this; omega
      refine (zsame_spec hu hRu ec'.symm fun i hi => by rw [enn']; exact hu.iv i (by omega)).mono ?_
      rintro _ v ⟨rfl, kv⟩
      exact ⟨_, rfl, Wif_no rfl ⟨lL - (q + 1), by omega, q + 1, z', S', L', T', rfl, rfl, by omega, rfl, ku.tr kv, hu.k kv, ec', ap', fr', hRu.k' kv, htu, hTu⟩⟩
    have upT : ∀ {i : Nat} {l' : List Bk} {T' : List (Nat × Nat)}, Tks l' T' → T'.length ≤ (T i).length + 1 → i < R.k → (∀ j, j < R.k → Tks (upd L i l' j) (upd T i T' j)) ∧ ∀ j, j < R.k → (upd T i T' j).length ≤ q + 1 := fun {i l' T'} h1 h2 hi => by
      refine ⟨fun j hj => ?_, fun j hj => ?_⟩
      · by_cases e : j = i
        · subst e; rw [upd_same, upd_same]; exact h1
        · rw [upd_ne _ _ e, upd_ne _ _ e]; exact ht6 j hj
      · by_cases e : j = i
        · subst e; rw [upd_same]; have := hT6 j hj; omega
        · rw [upd_ne _ _ e]; have := hT6 j hj; omega
    have hT800 : ∀ i, i < R.k → (T i).length ≤ 800 := fun i hi => by have := hT6 i hi; omega
    have bl_kb : ∀ i, i < S.k → ∀ x, S.bl i x → kb ≤ x := fun i hi x hx => fr x (.inr (.inr ⟨i, hi, hx⟩))
    have bl_D : ∀ i, i < S.k → ∀ x, S.bl i x → x < D := fun i hi x hx => zlt x (.inr (.inr ⟨i, hi, hx⟩))
    refine ⟨na, nl, nc, by rw [o8.rd]; rfl, Wif_intro (fun _ => nxt w8 K8 h8 hR8) (fun hc3 => ?_)⟩
    have hnl : nl ≤ 50 := by simp at hc3; omega
    refine ⟨k, by rw [o8.rd]; rfl, Wif_intro (fun _ => ?_) (fun _ => ⟨k, by rw [o8.rd]; rfl, Wif_intro (fun _ => ?_) (fun _ => ⟨k, by rw [o8.rd]; rfl, Wif_intro (fun _ => ?_) (fun _ => ⟨k, by rw [o8.rd]; rfl, Wif_intro (fun _ => ?_) (fun _ => ?_)⟩)⟩)⟩)⟩
    · -- Take
      intro w9 e9
      have k89 : Kept none' w8 w9 := (Kept.refl _ _).dr e9
      have o9 := o8.k k89
      refine ⟨na, nl, nc, by rw [o9.rd]; rfl, fl, by rw [o9.rd]; rfl, hh, by rw [o9.rd]; rfl, fun w10 e10 => ?_⟩
      have k910 : Kept none' w9 w10 := (Kept.refl _ _).al e10
      have o10 := o9.k k910
      have hX : w10.heap[w9.heap.size]? = some (.cells #[] 3 (0, 0)) := by rw [e10]; exact (MapKept.heap_alloc _ _).1
      have k810 := k89.tr k910
      have hop10 := hop8.k k810
      have s810 := k810.sz
      have s68 := k68.sz
      have s89 := k89.sz
      obtain ⟨ca, cc, w11, happ, cp1, cr1, k1011⟩ := copy_ints hX hop10.isp hop10.nil hop10.nrd hnl
      have k811 : Kept none' w8 w11 := own0 k810 k1011 fun x hx => by omega
      have o11 := o8.k k811
      have h11 := h8.k k811
      have hR11 := hR8.k' k811
      have K11 := K8.tr k811
      refine ⟨⟨by rw [o10.rd]; rfl, trivial⟩, ⟨by rw [o10.rd]; rfl, trivial⟩, ⟨by rw [o10.rd]; rfl, trivial⟩, ca, nl, cc, w11, happ, ⟨by rw [o11.rd]; rfl, trivial⟩, ⟨by rw [o11.rd]; rfl, trivial⟩, (ztake_spec h11 (by omega) cp1 cr1 fl hh).mono ?_⟩
      rintro _ w12 ⟨v, rfl, r12⟩
      have hop11 := hop8.k k811
      rcases r12 with ⟨hbad, rfl, hw12⟩ | ⟨hall, hfl, hlow, rfl, hw12⟩ | ⟨hall, hfl, j, i, hj, hji, hik, hgt, hlow, a, l', rfl, k12, h12, t12⟩
      · rw [hw12]
        clear hw12 w12
        refine ⟨_, _, rfl, na, nl, nc, by rw [o11.rd]; rfl, fl, by rw [o11.rd]; rfl, hh, by rw [o11.rd]; rfl, (rztake_spec hR11 (ivR h11) ht6 hT800 (by omega) hop11.isp hop11.nrd fl hh).mono ?_⟩
        rintro _ w13 ⟨v2, rfl, r13⟩
        rcases r13 with ⟨_, rfl, k13⟩ | ⟨hall, hfl, _, rfl, k13⟩ | ⟨hall, hfl, j, i, hj, hji, hik, hgt, hlow, a, l', T', rfl, k13, h13, i13, t13, hl13, r13⟩
        · exact ⟨_, _, rfl, Wif_no (by simp) (next w13 z S L T (K11.tr k13) (h11.k k13) ec ap fr (hR11.k' k13) ht6 fun i hi => by have := hT6 i hi; omega)⟩
        · exfalso
          rcases hbad with ⟨i, hi, hb⟩ | hb
          · have := hall i hi; omega
          · omega
        · exfalso
          rcases hbad with ⟨i, hi, hb⟩ | hb
          · have := hall i hi; omega
          · omega
      · rw [hw12]
        clear hw12 w12
        refine ⟨_, _, rfl, na, nl, nc, by rw [o11.rd]; rfl, fl, by rw [o11.rd]; rfl, hh, by rw [o11.rd]; rfl, (rztake_spec hR11 (ivR h11) ht6 hT800 (by omega) hop11.isp hop11.nrd fl hh).mono ?_⟩
        rintro _ w13 ⟨v2, rfl, r13⟩
        rcases r13 with ⟨hbad, rfl, k13⟩ | ⟨_, _, _, rfl, k13⟩ | ⟨hall', hfl', j, i, hj, hji, hik, hgt, hlow', a, l', T', rfl, k13, h13, i13, t13, hl13, r13⟩
        · exfalso
          rcases hbad with ⟨i, hi, hb⟩ | hb
          · have := hall i hi; omega
          · omega
        · exact ⟨_, _, rfl, Wif_no (by simp) (next w13 z S L T (K11.tr k13) (h11.k k13) ec ap fr (hR11.k' k13) ht6 fun i hi => by have := hT6 i hi; omega)⟩
        · exfalso
          have := hlow j hj
          rw [hji, zfr_in (by omega)] at this
          omega
      · have hR12 := hR11.zat h11 ap hik k12
        have o12 := o11.kx k12 fun hx => by have := bl_D i hik _ hx; omega
        have hop12 : ∀ {P : Prop}, P → P := id
        have e12 : Kept none' W w12 := own0 K11 k12 fun x hx => by have := bl_kb i hik x hx; omega
        have hopW := hop.k e12
        refine ⟨_, _, rfl, na, nl, nc, by rw [o12.rd]; rfl, fl, by rw [o12.rd]; rfl, hh, by rw [o12.rd]; rfl, (rztake_spec hR12 (fun i hi => by rw [enn]; exact h11.iv i (by omega)) ht6 hT800 (by omega) hopW.isp hopW.nrd fl hh).mono ?_⟩
        rintro _ w13 ⟨v2, rfl, r13⟩
        rcases r13 with ⟨hbad, rfl, k13⟩ | ⟨_, _, hlow', rfl, k13⟩ | ⟨hall', hfl', j', i', hj', hji', hik', hgt', hlow', a', l'', T', rfl, k13, h13, i13, t13, hl13, r13⟩
        · exfalso
          rcases hbad with ⟨i, hi, hb⟩ | hb
          · have := hall i hi; omega
          · omega
        · exfalso
          have := hlow' j hj
          rw [hji, rfr_in (by omega)] at this
          omega
        · have ejj : j = j' := by
            rcases Nat.lt_trichotomy j j' with h | h | h
            · have := hlow' j h
              rw [hji, rfr_in (by omega)] at this
              omega
            · exact h
            · have := hlow j' h
              rw [hji', zfr_in (by omega)] at this
              omega
          subst ejj
          have eii : i = i' := by omega
          subst eii
          have hvi := h11.iv i hik
          have hvi' : Inv (S.n i) l' := by have := h12.iv i hik; rw [upd_same] at this; exact this
          rw [enn] at i13
          obtain ⟨rfl, _, rfl⟩ := takeR_uniq hvi hvi' i13 t12 r13
          obtain ⟨u1, u2⟩ := upT t13 hl13 hik'
          refine ⟨_, _, rfl, Wif_no (by rw [ec]; simp) (next w13 z S _ _ (own0 e12 k13 fun x hx => by subst hx; have := frr i hik'; omega) (h12.rz hR12 hik' k13) ec ap fr h13 u1 u2)⟩
    · -- TakeOf
      refine ⟨nd, by rw [o8.rd]; rfl, o, by rw [o8.rd]; rfl, hh, by rw [o8.rd]; rfl, ?_⟩
      by_cases hn : nd < 0 ∨ (S.k : Int) ≤ nd
      · refine (ztakeOf_none h8 hn o hh).mono ?_
        rintro _ wq ⟨rfl, hwq⟩
        rw [hwq]
        clear hwq wq
        refine ⟨_, _, rfl, nd, by rw [o8.rd]; rfl, o, by rw [o8.rd]; rfl, hh, by rw [o8.rd]; rfl, (rtakeOf_none hR8 (by omega) o hh).mono ?_⟩
        rintro _ wq ⟨rfl, hwq⟩
        rw [hwq]
        clear hwq wq
        exact ⟨_, _, rfl, Wif_no (by simp) (next w8 z S L T K8 h8 ec ap fr hR8 ht6 fun i hi => by have := hT6 i hi; omega)⟩
      · obtain ⟨i, rfl⟩ : ∃ i : Nat, nd = (i : Int) := ⟨nd.toNat, by omega⟩
        have hik : i < S.k := by omega
        refine (ztakeOf_spec h8 hik o hh).mono ?_
        rintro _ w9 ⟨a, e, l', rfl, k9, h9, t9⟩
        have hR9 := hR8.zat h8 ap hik k9
        have o9 := o8.kx k9 fun hx => by have := bl_D i hik _ hx; omega
        have K9 : Kept none' W w9 := own0 K8 k9 fun x hx => by have := bl_kb i hik x hx; omega
        have hikR : i < R.k := by omega
        refine ⟨_, _, rfl, (i : Int), by rw [o9.rd]; rfl, o, by rw [o9.rd]; rfl, hh, by rw [o9.rd]; rfl, (rtakeOf_spec hR9 hikR (by rw [enn]; exact h8.iv i hik) (ht6 i hikR) (hT800 i hikR) o hh).mono ?_⟩
        rintro _ w10 ⟨a', e', l'', T', rfl, k10, h10, i10, t10, hl10, r10⟩
        have hvi' : Inv (S.n i) l' := by have := h9.iv i hik; rw [upd_same] at this; exact this
        rw [enn] at i10
        obtain ⟨rfl, rfl, rfl⟩ := takeR_uniq (h8.iv i hik) hvi' i10 t9 r10
        obtain ⟨u1, u2⟩ := upT t10 hl10 hikR
        refine ⟨_, _, rfl, Wif_no (by rw [ec]; simp) (next w10 z S _ _ (own0 K9 k10 fun x hx => by subst hx; have := frr i hikR; omega) (h9.rz hR9 hikR k10) ec ap fr h10 u1 u2)⟩
    · -- Give
      intro w9 e9
      have k89 : Kept none' w8 w9 := (Kept.refl _ _).dr e9
      have o9 := o8.k k89
      have h9 := h8.k k89
      have hR9 := hR8.k' k89
      have K9 := K8.tr k89
      refine ⟨nd, by rw [o9.rd]; rfl, o, by rw [o9.rd]; rfl, nd, by rw [o9.rd]; rfl, o, by rw [o9.rd]; rfl, (zgive_spec h9 nd o hop.w1).mono ?_⟩
      rintro _ w10 (⟨i, e, l', hik, f1, f2, rfl, k10, h10, t10⟩ | ⟨hno, rfl, k10⟩)
      · have hR10 := hR9.zat h9 ap hik k10
        have o10 := o9.kx k10 fun hx => by have := bl_D i hik _ hx; omega
        have K10 : Kept none' W w10 := own0 K9 k10 fun x hx => by have := bl_kb i hik x hx; omega
        refine ⟨_, rfl, ⟨by rw [o10.rd]; rfl, trivial⟩, ⟨by rw [o10.rd]; rfl, trivial⟩, (rgive_spec' hR10 (fun i hi => by rw [enn]; exact h9.iv i (by omega)) ht6 hT800 nd o hop.w1).mono ?_⟩
        rintro _ w11 (⟨i', e', l'', T', hik', f1', f2', rfl, k11, h11, i11, t11, hl11, r11⟩ | ⟨hno, rfl, k11⟩)
        · have eii : i = i' := node_one h9.my (by have := h9.kc; omega) (by have := h9.kc; omega) f1 f2 (by rw [ec]; exact f1') (by rw [ec]; exact f2')
          subst eii
          have hvi' : Inv (S.n i) l' := by have := h10.iv i hik; rw [upd_same] at this; exact this
          rw [enn] at i11
          rw [← ec] at r11
          obtain ⟨rfl, rfl⟩ := giveR_uniq (h9.iv i hik) hvi' i11 t10 r11
          obtain ⟨u1, u2⟩ := upT t11 (by omega) hik'
          refine ⟨_, rfl, Wif_no (by simp) (next w11 z S _ _ (own0 K10 k11 fun x hx => by subst hx; have := frr i hik'; omega) (h10.rz hR10 hik' k11) ec ap fr h11 u1 u2)⟩
        · exfalso
          rw [← ec, ek] at hno
          have h1 := fst_128 h9 (i := i) (by omega)
          have h2 := fstF_mono h9.my (i := i + 1) (k := S.k) (by omega) (by have := h9.kc; omega)
          omega
      · refine ⟨_, rfl, ⟨by rw [(o9.k k10).rd]; rfl, trivial⟩, ⟨by rw [(o9.k k10).rd]; rfl, trivial⟩, (rgive_spec' (hR9.k' k10) (ivR (h9.k k10)) ht6 hT800 nd o hop.w1).mono ?_⟩
        rintro _ w11 (⟨i', e', l'', T', hik', f1', f2', rfl, k11, h11, i11, t11, hl11, r11⟩ | ⟨_, rfl, k11⟩)
        · exfalso
          rw [ec, ← ek] at hno
          have h1 := hR9.fst (i := i') (by omega)
          have h2 := fstF_mono hR9.my (i := i' + 1) (k := R.k) (by omega) (by have := hR9.kc; omega)
          omega
        · exact ⟨_, rfl, Wif_no (by simp) (next w11 z S L T ((K9.tr k10).tr k11) ((h9.k k10).k k11) ec ap fr ((hR9.k' k10).k' k11) ht6 fun i hi => by have := hT6 i hi; omega)⟩
    · -- Copy
      refine (zcopy_spec h8).mono ?_
      rintro _ w9 ⟨z', S', rfl, k9, h9, ec', fr9⟩
      have o9 := o8.k k9
      have h9' := h8.k k9
      have hR9 := hR8.k' k9
      have K9 := K8.tr k9
      have s8 := k68.sz
      have hy : y < w8.heap.size ∧ R.bg < w8.heap.size ∧ R.ng < w8.heap.size := by
        obtain ⟨_, hb1, _⟩ := hR8.sb
        obtain ⟨_, hb2, _⟩ := hR8.sn
        exact ⟨hR8.so.lt, hb1.lt, hb2.lt⟩
      have hk8 := h8.k8
      refine ⟨_, rfl, (ztakeOf_spec h9' (i := 0) (by omega) 0 true).mono ?_⟩
      rintro _ w10 ⟨a, e, l', rfl, k10, h10, t10⟩
      have hR10 := hR9.zat h9' ap (by omega) k10
      have o10 := o9.kx k10 fun hx => by have := bl_D 0 (by omega) _ hx; omega
      have K10 : Kept none' W w10 := own0 K9 k10 fun x hx => by have := bl_kb 0 (by omega) x hx; omega
      have z10 := h9.kx k10 fun x hx ha => by have := bl_D 0 (by omega) x hx; have := fr9 x ha; omega
      have K8l := K8.sz
      refine ⟨_, _, rfl, nd, by rw [o10.rd]; rfl, o, by rw [o10.rd]; rfl, (zgive_spec h10 nd o hop.w1).mono ?_⟩
      have fin : ∀ (e : Int) (w11 : World), Kept none' W w11 → ZAt w11 z' S' L → RZ w11 y R L T → ∃ (n_4 : Int), Ending.returned (Value.int .i64 e) = .returned (.int .i64 n_4) ∧ Wif (Option.isNone (some (⟨z', 0, none⟩ : Addr))) (Value.bool false = .bool true ∧ Kept none' W w11) _ := fun e w11 k11 hz11 hr11 =>
        ⟨e, rfl, Wif_no rfl (next w11 z' S' L T k11 hz11 (ec'.trans ec) (fun x hx => by have := fr9 x hx; omega) (fun x hx => by have := fr9 x hx; omega) hr11 ht6 fun i hi => by have := hT6 i hi; omega)⟩
      rintro _ w11 (⟨i, e, l'', hik, f1, f2, rfl, k11, h11, t11⟩ | ⟨hno, rfl, k11⟩)
      · refine fin _ w11 (own0 K10 k11 fun x hx => by have := bl_kb i hik x hx; omega) (z10.kx k11 fun x hx ha => by have := bl_D i hik x hx; have := fr9 x ha; omega) (hR10.zat h10 ap hik k11)
      · exact fin _ w11 (K10.tr k11) (z10.k k11) (hR10.k' k11)
    · exact next w8 z S L T K8 h8 ec ap fr hR8 ht6 fun i hi => by have := hT6 i hi; omega
  · rintro e w' ⟨v, rfl, rfl, hw⟩
    exact ⟨rfl, hw⟩
end Go.Proofs.Ytkmcmkimeibjdaa
namespace Go.Proofs.Ytkmcmkimeibjdaa
open Go.ChangeShapes Go.WideShapes Go.ChangeAt Go.RowKit Go.Eng
set_option linter.unusedSimpArgs false
set_option linter.unusedVariables false
set_option maxRecDepth 100000
/-! ### a row of calls on zones that is handed in -/
section
variable {H : Type} {enc : TypeId × Value → H}
theorem open_zops {W : World} {base : Nat} {v : Value} {d : DataW H} {p : List MemPlace} (hv : Value.okWide Try.prog W .any base 81 v) (h : DataW.Trod enc Try.prog W 0 (fun _ => true) true 81 v d p) :
    ∃ a l c, v = .slice a l c ∧ (0 < l → isP a = true) ∧ ∀ i, i < l → ∃ k nd o fl na nl nc h nf, ZOp W a i k nd o fl na nl nc h nf := by
  obtain ⟨a0, l0, c0, rfl⟩ := okWide_slice Try.underlying81 hv
  obtain ⟨fuel, hf⟩ := h
  obtain ⟨a, l, c, e, _, _, hp, _, hx⟩ := open_row Try.underlying81 hf (by rw [cells_87]; omega)
  simp [Value.cells] at e
  obtain ⟨rfl, rfl, rfl⟩ := e
  refine ⟨_, _, _, rfl, hp, fun i hi => ?_⟩
  obtain ⟨cs, n, x, hlen, hcell, htr⟩ := hx i hi
  obtain ⟨xs, k, _, _, hl, hxl, hfs⟩ := DataW.trod_struct Try.underlying87 htr
  rw [cells_87] at hlen hcell
  match xs, hxl, cs, hlen with
  | [y0, y1, y2, y3, y4, y5], _, [v0, v1, v2, v3, v4, v5], _ =>
    have g0 := hfs 0 _ rfl
    have g1 := hfs 1 _ rfl
    have g2 := hfs 2 _ rfl
    have g3 := hfs 3 _ rfl
    have g4 := hfs 4 _ rfl
    have g5 := hfs 5 _ rfl
    simp [cells_3, cells_4, cells_42] at g0 g1 g2 g3 g4 g5
    obtain ⟨k0, e0, _, w0⟩ := DataW.trod_int Try.underlying3 g0
    obtain ⟨k1, e1, _, w1⟩ := DataW.trod_int Try.underlying3 g1
    obtain ⟨k2, e2, _, w2⟩ := DataW.trod_int Try.underlying3 g2
    obtain ⟨k3, e3, _, w3⟩ := DataW.trod_int Try.underlying3 g3
    obtain ⟨na, nl, nc, e4, _, _, np, nn, nx⟩ := open_row Try.underlying42 g4 (by rw [cells_3]; omega)
    obtain ⟨k5, e5, _⟩ := DataW.trod_bool Try.underlying4 g5
    simp at e0 e1 e2 e3 e4 e5
    subst e0 e1 e2 e3 e4 e5
    have each : ∀ j, j < nl → ∃ m : Int, Eng.rd W (pb na) (po na + j) = some (.int .i64 m) := by
      intro j hj
      obtain ⟨cs, n, x, hlen, hcell, htr⟩ := nx j hj
      obtain ⟨m, rfl, _, hw⟩ := DataW.trod_int Try.underlying3 htr
      have := hcell 0 (by rw [cells_3]; omega)
      rw [cells_3, Nat.mul_one] at this
      exact ⟨m, this⟩
    refine ⟨k0, k1, k2, k3, na, nl, nc, k5, fun j => if h : j < nl then (each j h).choose else 0, hcell 0 (by omega), hcell 1 (by omega), hcell 2 (by omega), hcell 3 (by omega), hcell 4 (by omega), hcell 5 (by omega), np, nn, fun j hj => ?_, wf_i64 w1⟩
    simp only [hj, dif_pos]
    exact (each j hj).choose_spec
end
end Go.Proofs.Ytkmcmkimeibjdaa
