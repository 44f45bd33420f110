/-
  A part of a proof that a law of this seat returns true at every input. Conditions: those in each theorem.
-/
import Derived.Test.YtikjgeenhbnkkaaGreatDoorAF5
import Derived.Test.YtikjgeenhbnkkaaGreatDoorAS3
set_option linter.unusedSimpArgs false
set_option linter.unusedVariables false
set_option maxRecDepth 100000
namespace Go.Proofs.YtikjgeenhbnkkaaGreatDoor
open Go Eng
theorem inj_of_nodup {L : List Slab} (hn : (L.map Slab.frame).Nodup) {s s' : Slab} (h : s ∈ L) (h' : s' ∈ L) (he : s.frame = s'.frame) : s = s' := by
  induction L with
  | nil => cases h
  | cons a L ih =>
    simp only [List.map_cons, List.nodup_cons] at hn
    obtain ⟨h1, h2⟩ := hn
    have hin : ∀ t ∈ L, t.frame ≠ a.frame := fun t ht hf => h1 (List.mem_map.2 ⟨t, ht, hf⟩)
    rcases List.mem_cons.1 h with g | g <;> rcases List.mem_cons.1 h' with g' | g'
    · rw [g, g']
    · exact absurd (g ▸ he.symm) (hin _ g')
    · exact absurd (g' ▸ he) (hin _ g)
    · exact ih h2 g g'
theorem sl_of_row {w : World} {base e : Nat} {a : Option Addr} {l c : Nat} {xs : List Int} (hl : l = xs.length) (h : w.ownsRow base e 1 (.slice a l c) l (xs.map vi)) : SlR RInt 1 w a l c xs := by
  rcases h.2 with ⟨hv, h0⟩ | ⟨g, cap, cur, hv, hb, hgg, hnc, hm, hsz, htk⟩
  · cases hv
    have : xs = [] := List.length_eq_zero_iff.1 (by omega)
    subst this
    exact SlR.nil'
  · cases hv
    refine ⟨hl, fun _ => rfl, fun h => (by cases h), hnc, hm, fun i x hx => ⟨[vi x], rfl, rfl, fun j u hu => ?_⟩⟩
    cases j with
    | succ j => simp at hu
    | zero =>
      simp at hu
      subst hu
      have hi := (List.getElem?_eq_some_iff.1 hx).1
      have h1 : (cur.toList.take (l * 1))[i]? = (xs.map vi)[i]? := by rw [htk]
      rw [List.getElem?_take_of_lt (by omega)] at h1
      have h2 : rd w g i = cur[i]? := by rw [rd_def, hgg]
      show rd w g (0 + i * 1 + 0) = _
      rw [Nat.zero_add, Nat.mul_one, Nat.add_zero, h2, ← Array.getElem?_toList, h1]
      simp [hx]
structure BookR (w : World) (b : Nat) (p : Proc) : Prop where
  ex : ∃ (cs : List Value) (mm : Nat) (MM : List (Int × Value)), RProc w cs p ∧ cs.length = 6 ∧ (∀ j, j < 6 → rd w b j = cs[j]?) ∧ rd w b 6 = some (.map (some mm)) ∧ MapIs w mm MM ∧ MM.length ≤ p.pages.length ∧ (MM.length = p.pages.length ↔ (p.pages.map Mapped.page).Nodup)
theorem BookR.k {w w' : World} {b : Nat} {p : Proc} (h : BookR w b p) (k : Kept none' w w') : BookR w' b p := by
  obtain ⟨cs, mm, MM, h1, h2, h3, h4, h5, h6⟩ := h.ex
  refine ⟨cs, mm, MM, RProc.stab _ _ _ _ h1 k, h2, fun j hj => ?_, k.rd_some h4 id, h5.k k, h6⟩
  rw [← h3 j hj]
  have := h3 j hj
  rw [List.getElem?_eq_getElem (by omega)] at this
  rw [k.rd_some this id, this]
structure LkAt (w : World) (k : Nat) (S : PicS) (x : Pic) : Prop where
  pic : PicAt w k S x.c
  P : PicR w S x
  th : ∃ (ta : Option Addr) (tl tc : Nat), rd w k 107 = some (.slice ta tl tc) ∧ SlR (RL RInt 1) 1 w ta tl tc ((List.range x.marks.length).map (gOf (addsP x)))
  ow : ∃ m M, rd w k 108 = some (.map (some m)) ∧ MapIs w m M ∧ OwnM M x.frames
  sl : ∃ m M, rd w k 109 = some (.map (some m)) ∧ MapIs w m M ∧ SlabM M x.slabs
  pr : ∃ m M, rd w k 110 = some (.map (some m)) ∧ MapIs w m M ∧ (∀ p ∈ x.procs, ∃ b, M.lookup p.pid = some (pt b) ∧ BookR w b p) ∧ ∀ i v, M.lookup i = some v → ∃ p ∈ x.procs, p.pid = i
theorem LkAt.k {w w' : World} {k : Nat} {S : PicS} {x : Pic} (h : LkAt w k S x) (kk : Kept none' w w') : LkAt w' k S x := by
  obtain ⟨h1, h2, ⟨ta, tl, tc, h3, h4⟩, ⟨m1, M1, a1, a2, a3⟩, ⟨m2, M2, b1, b2, b3⟩, ⟨m3, M3, c1, c2, c3, c4⟩⟩ := h
  refine ⟨h1.k kk, h2.k kk, ⟨ta, tl, tc, kk.rd_some h3 id, h4.k (RL.stab RInt.stab) kk⟩, ⟨m1, M1, kk.rd_some a1 id, a2.k kk, a3⟩, ⟨m2, M2, kk.rd_some b1 id, b2.k kk, b3⟩, ⟨m3, M3, kk.rd_some c1 id, c2.k kk, fun p hp => ?_, c4⟩⟩
  obtain ⟨b, d1, d2⟩ := c3 p hp
  exact ⟨b, d1, d2.k kk⟩
theorem lkAt_of {wP w w' : World} {S : PicS} {x : Pic} {TB om sm pm k n : Nat} (h : CtR wP w w' x TB om sm pm n) (hn : n = x.marks.length) (hbig : n ≤ 1000000000) (hP : PicR wP S x) (kP : Kept none' wP w) (hnew : wP.heap.size ≤ TB ∧ wP.heap.size ≤ om ∧ wP.heap.size ≤ sm ∧ wP.heap.size ≤ pm) (pic : PicAt w k S x.c)
    (th : rd w k 107 = some (.slice (some ⟨TB, 0, none⟩) n n)) (ow : rd w k 108 = some (.map (some om))) (sb : rd w k 109 = some (.map (some sm))) (pr : rd w k 110 = some (.map (some pm)))
    (ne : k ≠ TB ∧ k ≠ om ∧ k ≠ sm ∧ k ≠ pm) : LkAt w' k S x ∧ Kept none' wP w' := by
  obtain ⟨w0, Z, O, L, Q, k0, c, hO, hL, hB⟩ := h.ex
  have kP0 := kP.tr k0
  have kPw : Kept none' wP w' := own0 kP0 c.ke fun b hb => by omega
  have hk : ∀ {o : Nat} {v : Value}, rd w k o = some v → rd w' k o = some v := fun hr => c.ke.rd_some (k0.rd_some hr id) (by omega)
  refine ⟨⟨⟨fun i hi => hk (pic.cf i hi), fun i hi => hk (pic.sl i hi)⟩, hP.k kPw, ⟨_, _, _, hk th, ?_⟩, ⟨om, O, hk ow, c.om, hO⟩, ⟨sm, L, hk sb, c.sm, hL⟩, ⟨pm, Q, hk pr, c.pm, fun p hp => ?_, hB.2⟩⟩, kPw⟩
  · obtain ⟨vs, ho, hvl, hr, _⟩ := c.th.ex
    refine ⟨by simp [hn], fun _ => rfl, fun h => (by cases h), Nat.le_refl _, by unfold maxLen; omega, fun i g hg => ?_⟩
    rw [List.getElem?_map] at hg
    have hin : i < n := by
      cases hh : (List.range x.marks.length)[i]? with
      | none => rw [hh] at hg; cases hg
      | some j => have := (List.getElem?_eq_some_iff.1 hh).1; simp at this; omega
    rw [List.getElem?_range (by omega)] at hg
    cases hg
    obtain ⟨a, l, c2, h1, h2, h3, _⟩ := hr i hin
    refine ⟨[.slice a l c2], rfl, ⟨a, l, c2, rfl, sl_of_row h2 h3⟩, fun j u hu => ?_⟩
    cases j with
    | succ j => simp at hu
    | zero =>
      simp at hu
      subst hu
      exact (ho.rd _).trans (by simpa using h1)
  · obtain ⟨b, h1, h2⟩ := hB.1 p hp
    obtain ⟨cs, mm, MM, g1, g2, g3, g4, g5, g6, _⟩ := h2.ex
    refine ⟨b, h1, ⟨cs, mm, MM, RProc.stab _ _ _ _ g1 kPw, g2, fun j hj => ?_, ?_, g4, g5, g6⟩⟩
    · rw [g3.rd, List.getElem?_append_left (by omega)]
    · rw [g3.rd, List.getElem?_append_right (by omega), g2]; rfl
def MarkedP (x : Pic) (i : Nat) (t : Int) : Prop := ∃ m, x.marks[i]? = some m ∧
  (if t = 0 then m.role = 1 else if t = 1 then m.role ≠ 1 else if t = 2 then m.role = 3 else if t = 3 then
    (m.role = 4 ∧ m.owner = ((lastO x.frames i).map Own.pid).getD 0 ∧ m.page = ((lastO x.frames i).map Own.page).getD 0) else (m.role = 2 ∧ ((∃ s ∈ x.slabs, s.frame = i ∧ m.owner = s.cls) ∨ ((∀ s ∈ x.slabs, s.frame ≠ i) ∧ m.owner = 0))))
theorem marked_spec {w : World} {k : Nat} {S : PicS} {x : Pic} (h : LkAt w k S x) (hnd : (x.slabs.map Slab.frame).Nodup) {i : Nat} {t : Int} (hi : i < x.marks.length) : Calls Tryz.prog 57 #[pt k, vi i, vi t] w (Tells w (MarkedP x i t)) := by
  refine (vc57 (some ⟨k, 0, none⟩) i t w (TellsV w (MarkedP x i t)) ?_).mono fun e w' => tells_of
  unfold vcP57
  have hm := h.P.marks
  have hml := hm.len
  have hmm := hm.lt63
  obtain ⟨m, hmi⟩ : ∃ m, x.marks[i]? = some m := ⟨x.marks[i], List.getElem?_eq_getElem hi⟩
  obtain ⟨cs, _, hR, hr⟩ := hm.el i m hmi
  obtain rfl : cs = [.int .u8 m.role, vi m.order, vi m.owner, vi m.page, vi m.index] := hR
  have hM : ∀ {Q : Prop} {R : Mark → Prop}, (Q ↔ R m) → (Q ↔ ∃ m', x.marks[i]? = some m' ∧ R m') := fun hq => by
    rw [hq]
    exact ⟨fun hr => ⟨m, hmi, hr⟩, fun ⟨m', h1, h2⟩ => by rw [hmi] at h1; cases h1; exact h2⟩
  refine Wif_yes rfl ⟨S.a 0, S.l 0, S.c 0, h.pic.sl 0 (by decide), Wif_yes (hm.isp (by omega)) (Wif_yes (inB_of (by omega) (by omega)) ?_)⟩
  rw [Int.toNat_natCast]
  refine ⟨_, _, _, _, _, ⟨hr 0 _ rfl, hr 1 _ rfl, hr 2 _ rfl, hr 3 _ rfl, hr 4 _ rfl⟩, ?_⟩
  intro w1 e1
  have o1 := own_alloc (c := [.int .u8 0, vi 0, vi 0, vi 0, vi 0]) e1
  have k1 : Kept none' w w1 := (Kept.refl _ _).al e1
  refine ⟨⟨o1.wr (by decide), o1.wr (by decide), o1.wr (by decide), o1.wr (by decide), o1.wr (by decide)⟩, ?_⟩
  intro w2 e2
  have o2 : own w2 w.heap.size [.int .u8 m.role, vi m.order, vi m.owner, vi m.page, vi m.index] := by
    rw [e2]; exact ((((o1.st_same).st_same).st_same).st_same).st_same
  have k2 : Kept none' w w2 := by
    rw [e2]; exact ((((k1.st (.inr (Nat.le_refl _))).st (.inr (Nat.le_refl _))).st (.inr (Nat.le_refl _))).st (.inr (Nat.le_refl _))).st (.inr (Nat.le_refl _))
  have h2 := h.k k2
  refine Wif_intro (fun ht => ?_) (fun ht => ?_)
  · have ht : t = 0 := by simpa using ht
    subst ht
    refine ⟨m.role, by rw [o2.rd]; rfl, _, rfl, k2, hM (R := fun m => m.role = 1) (by simp)⟩
  have t0 : t ≠ 0 := by simpa using ht
  refine Wif_intro (fun ht => ?_) (fun ht => ?_)
  · have ht : t = 1 := by simpa using ht
    subst ht
    refine ⟨m.role, by rw [o2.rd]; rfl, _, rfl, k2, hM (R := fun m => m.role ≠ 1) (by simp)⟩
  have t1 : t ≠ 1 := by simpa using ht
  refine Wif_intro (fun ht => ?_) (fun ht => ?_)
  · have ht : t = 2 := by simpa using ht
    subst ht
    refine ⟨m.role, by rw [o2.rd]; rfl, _, rfl, k2, hM (R := fun m => m.role = 3) (by simp)⟩
  have t2 : t ≠ 2 := by simpa using ht
  refine Wif_intro (fun ht => ?_) (fun ht => ?_)
  · have ht : t = 3 := by simpa using ht
    subst ht
    obtain ⟨mo, M, g1, g2, g3⟩ := h2.ow
    have hlk := look1 (P := Tryz.prog) (mt := 86) (vt := 63) (kt := 3) rfl rfl g2 i (z := ownV ⟨0, 0, 0⟩) (Tryz.zeroValue63 w2)
    rw [g3 i] at hlk
    refine Wif_yes rfl ⟨some mo, g1, ((lastO x.frames i).map Own.n).getD 0, ((lastO x.frames i).map Own.pid).getD 0, ((lastO x.frames i).map Own.page).getD 0, ?_, ?_⟩
    · cases hl : lastO x.frames i with
      | none => rw [hl] at hlk; exact hlk
      | some o => rw [hl] at hlk; exact hlk
    intro w3 e3
    have o3 := own_alloc (c := [vi 0, vi 0, vi 0]) e3
    have k3 := k2.al e3
    have o23 := o2.al e3
    refine ⟨⟨o3.wr (by decide), o3.wr (by decide), o3.wr (by decide)⟩, ?_⟩
    intro w4 e4
    have hs2 := k2.sz
    have hlt := o2.lt
    have o4 : own w4 w2.heap.size [vi (((lastO x.frames i).map Own.n).getD 0), vi (((lastO x.frames i).map Own.pid).getD 0), vi (((lastO x.frames i).map Own.page).getD 0)] := by rw [e4]; exact ((o3.st_same).st_same).st_same
    have k4 : Kept none' w w4 := by rw [e4]; exact ((k3.st (.inr hs2)).st (.inr hs2)).st (.inr hs2)
    have o24 : own w4 w.heap.size [.int .u8 m.role, vi m.order, vi m.owner, vi m.page, vi m.index] := by
      rw [e4]; exact ((o23.st_ne (by omega)).st_ne (by omega)).st_ne (by omega)
    refine ⟨m.role, by rw [o24.rd]; rfl, m.owner, fun _ => by rw [o24.rd]; rfl, _, fun _ => by rw [o4.rd]; rfl, m.page, fun _ => by rw [o24.rd]; rfl, _, fun _ => by rw [o4.rd]; rfl, _, rfl, k4, hM (R := fun m => m.role = 4 ∧ m.owner = ((lastO x.frames i).map Own.pid).getD 0 ∧ m.page = ((lastO x.frames i).map Own.page).getD 0) ?_⟩
    simp [and_assoc]
  · have t3 : t ≠ 3 := by simpa using ht
    intro w3 e3
    have o3 := o2.dr e3
    have k3 := k2.dr e3
    have h3 := h.k k3
    obtain ⟨ms, M, g1, g2, g3, g4⟩ := h3.sl
    have hlk := look1 (P := Tryz.prog) (mt := 87) (vt := 55) (kt := 3) rfl rfl g2 i (z := .agg #[vi 0, vi 0, vi 0, vi 0, vi 0, .slice none 0 0, .slice none 0 0]) (Tryz.zeroValue55 w3)
    refine ⟨m.role, by rw [o3.rd]; rfl, m.owner, fun _ => by rw [o3.rd]; rfl, gIf_intro (fun _ => rfl) ⟨some ms, fun _ => g1, ?_⟩⟩
    by_cases hex : ∃ s ∈ x.slabs, s.frame = i
    · obtain ⟨s, hs, hsf⟩ := hex
      obtain ⟨a1, l1, c1, a2, l2, c2, hv⟩ := g3 s hs
      rw [← hsf, hv] at hlk
      have hlk : lookIs Tryz.prog 87 (.map (some ms)) (vi s.frame) false (.agg #[vi s.node, vi s.cls, vi s.frame, vi s.colour, vi s.count, .slice a1 l1 c1, .slice a2 l2 c2]) w3 := hlk
      refine ⟨_, _, _, _, _, _, _, _, _, _, _, fun _ => by rw [← hsf]; exact hlk, _, rfl, k3, hM (R := fun m => (if t = 0 then m.role = 1 else if t = 1 then m.role ≠ 1 else if t = 2 then m.role = 3 else if t = 3 then
        (m.role = 4 ∧ m.owner = ((lastO x.frames i).map Own.pid).getD 0 ∧ m.page = ((lastO x.frames i).map Own.page).getD 0) else (m.role = 2 ∧ ((∃ s ∈ x.slabs, s.frame = i ∧ m.owner = s.cls) ∨ ((∀ s ∈ x.slabs, s.frame ≠ i) ∧ m.owner = 0))))) ?_⟩
      simp only [t0, t1, t2, t3, if_false]
      have huniq : ∀ s' ∈ x.slabs, s'.frame = i → s' = s := fun s' hs' hf' => inj_of_nodup hnd hs' hs (hf'.trans hsf.symm)
      simp only [Bool.and_eq_true, beq_iff_eq]
      constructor
      · rintro ⟨q1, q2⟩
        exact ⟨q1, .inl ⟨s, hs, hsf, q2⟩⟩
      · rintro ⟨q1, ⟨s', q2, q3, q4⟩ | ⟨q2, _⟩⟩
        · rw [huniq s' q2 q3] at q4
          exact ⟨q1, q4⟩
        · exact absurd hsf (q2 s hs)
    · have hno : ∀ s ∈ x.slabs, s.frame ≠ i := fun s hs hf => hex ⟨s, hs, hf⟩
      have hln : M.lookup (i : Int) = none := by
        cases hl : M.lookup (i : Int) with
        | none => rfl
        | some v => obtain ⟨s, q1, q2⟩ := g4 _ _ hl; exact absurd q2 (hno s q1)
      rw [hln] at hlk
      have hlk : lookIs Tryz.prog 87 (.map (some ms)) (vi i) false (.agg #[vi 0, vi 0, vi 0, vi 0, vi 0, .slice none 0 0, .slice none 0 0]) w3 := hlk
      refine ⟨_, _, _, _, _, _, _, _, _, _, _, fun _ => hlk, _, rfl, k3, hM (R := fun m => (if t = 0 then m.role = 1 else if t = 1 then m.role ≠ 1 else if t = 2 then m.role = 3 else if t = 3 then
        (m.role = 4 ∧ m.owner = ((lastO x.frames i).map Own.pid).getD 0 ∧ m.page = ((lastO x.frames i).map Own.page).getD 0) else (m.role = 2 ∧ ((∃ s ∈ x.slabs, s.frame = i ∧ m.owner = s.cls) ∨ ((∀ s ∈ x.slabs, s.frame ≠ i) ∧ m.owner = 0))))) ?_⟩
      simp only [t0, t1, t2, t3, if_false]
      simp only [Bool.and_eq_true, beq_iff_eq]
      constructor
      · rintro ⟨q1, q2⟩
        exact ⟨q1, .inr ⟨hno, q2⟩⟩
      · rintro ⟨q1, ⟨s', q2, q3, q4⟩ | ⟨_, q2⟩⟩
        · exact absurd q3 (hno s' q2)
        · exact ⟨q1, q2⟩
end Go.Proofs.YtikjgeenhbnkkaaGreatDoor
set_option linter.unusedSimpArgs false
set_option linter.unusedVariables false
set_option maxRecDepth 100000
namespace Go.Proofs.YtikjgeenhbnkkaaGreatDoor
open Go Eng
abbrev LooksV (w : World) (P : Int → Prop) : Value → World → Prop := fun v w' => ∃ (a : Option Addr) (l c : Nat) (xs : List Int), v = .slice a l c ∧ Kept none' w w' ∧ RowI w' w.heap.size a l c xs ∧ xs.length ≤ 10000000 ∧ ∀ n, n ∈ xs ↔ P n
theorem looks_of {w : World} {P : Int → Prop} {e : Ending} {w' : World} (h : ∃ v, e = .returned v ∧ LooksV w P v w') : Looks w P e w' := by
  obtain ⟨v, rfl, a, l, c, xs, rfl, hw⟩ := h
  exact ⟨a, l, c, xs, rfl, hw⟩
theorem RowI.add2 {w0 w w1 : World} {base : Nat} {a : Option Addr} {l c : Nat} {xs : List Int} {n : Int} (h : RowI w base a l c xs) (k : Kept none' w0 w) (hb : base = w0.heap.size) (e : w1 = w.alloc (.cells #[.int .i64 n] 3)) (hl : xs.length ≤ 100000000) :
    ∃ a' l' c' w', appIs Tryz.prog #[31, 31] 31 (.slice a l c) (.slice (some ⟨w.heap.size, 0, none⟩) 1 1) (.slice a' l' c') w1 w' ∧ RowI w' base a' l' c' (xs ++ [n]) ∧ Kept none' w0 w' ∧ Kept (fun b => (Value.slice a l c).ownBlock = some b) w w' := by
  subst hb
  have k1 : Kept none' w w1 := (Kept.refl _ _).al e
  have o1 := own_alloc (c := [vi n]) e
  have h1 := h.k k1
  have s0 := k.sz
  have s1 := k1.sz
  have hlen := h.1
  have hinfo := info_int
  cases hi : Tryz.prog.info? 3 with
  | none => rw [hi] at hinfo; cases hinfo
  | some i0 =>
  rw [hi] at hinfo
  simp at hinfo
  obtain ⟨a', l', c', w', happ, rfl, row, k2, _⟩ := app_any (P := Tryz.prog) (t := 31) (e := 3) (i := i0) (z := vi 0) (size := 1) Tryz.underlying31 hi hinfo.1 hinfo.2.1 rfl (by decide) h1.2 o1 (m := 1) (off := 0) (c := 1) (news := [vi n]) rfl rfl (fun u hu => by simp at hu; subst hu; rfl) (by omega) (by omega) (by omega)
  exact ⟨a', _, c', w', happ, ⟨by simp [hlen], by rw [List.map_append]; exact row⟩, own0 (k.tr k1) k2 fun x hx => (h1.2.lt x hx).1, (k1.mono fun _ _ h => h.elim).trans k2 fun _ _ h => h⟩
theorem RowI.add3 {w0 w w1 : World} {base : Nat} {a : Option Addr} {l c : Nat} {xs : List Int} {n : Int} (h : RowI w base a l c xs) (k : Kept none' w0 w) (hb : base = w0.heap.size) (e : w1 = w.alloc (.cells #[.int .i64 n] 3)) (hl : xs.length ≤ 100000000) :
    ∃ a' l' c' w', appIs Tryz.prog #[31, 31] 31 (.slice a l c) (.slice (some ⟨w.heap.size, 0, none⟩) 1 1) (.slice a' l' c') w1 w' ∧ RowI w' base a' l' c' (xs ++ [n]) ∧ Kept none' w0 w' ∧ Kept (fun b => (Value.slice a l c).ownBlock = some b) w w' ∧ ((Value.slice a' l' c').ownBlock = (Value.slice a l c).ownBlock ∨ ∀ g, (Value.slice a' l' c').ownBlock = some g → w.heap.size ≤ g) := by
  subst hb
  have k1 : Kept none' w w1 := (Kept.refl _ _).al e
  have o1 := own_alloc (c := [vi n]) e
  have h1 := h.k k1
  have s0 := k.sz
  have s1 := k1.sz
  have hlen := h.1
  have hinfo := info_int
  cases hi : Tryz.prog.info? 3 with
  | none => rw [hi] at hinfo; cases hinfo
  | some i0 =>
  rw [hi] at hinfo
  simp at hinfo
  obtain ⟨a', l', c', w', happ, rfl, row, k2, hsn⟩ := app_any (P := Tryz.prog) (t := 31) (e := 3) (i := i0) (z := vi 0) (size := 1) Tryz.underlying31 hi hinfo.1 hinfo.2.1 rfl (by decide) h1.2 o1 (m := 1) (off := 0) (c := 1) (news := [vi n]) rfl rfl (fun u hu => by simp at hu; subst hu; rfl) (by omega) (by omega) (by omega)
  exact ⟨a', _, c', w', happ, ⟨by simp [hlen], by rw [List.map_append]; exact row⟩, own0 (k.tr k1) k2 fun x hx => (h1.2.lt x hx).1, (k1.mono fun _ _ h => h.elim).trans k2 fun _ _ h => h, hsn.imp id fun h g hg => by have := h g hg; omega⟩
def Found {α : Type} (L : List α) (q : Nat) (F : α → Int → Prop) (xs : List Int) : Prop := ∀ n, n ∈ xs ↔ ∃ y ∈ L.take q, F y n
theorem Found.zero {α : Type} {L : List α} {F : α → Int → Prop} : Found L 0 F [] := fun n => by simp
theorem Found.step {α : Type} {L : List α} {q : Nat} {F : α → Int → Prop} {xs ys : List Int} {y : α} (h : Found L q F xs) (hy : L[q]? = some y) (hn : ∀ n, n ∈ ys ↔ n ∈ xs ∨ F y n) : Found L (q + 1) F ys := fun n => by
  rw [hn n, h n, take_snoc hy]
  constructor
  · rintro (⟨z, h1, h2⟩ | h1)
    · exact ⟨z, by simp [h1], h2⟩
    · exact ⟨y, by simp, h1⟩
  · rintro ⟨z, h1, h2⟩
    rcases List.mem_append.1 h1 with h1 | h1
    · exact .inl ⟨z, h1, h2⟩
    · have : z = y := by simpa using h1
      subst this
      exact .inr h2
theorem Found.all {α : Type} {L : List α} {F : α → Int → Prop} {xs : List Int} (h : Found L L.length F xs) : ∀ n, n ∈ xs ↔ ∃ y ∈ L, F y n := fun n => by rw [h n, List.take_length]
def RoleF (x : Pic) (n : Int) : Prop := ∃ (i : Nat) (t : Int), n = i ∧ i < x.marks.length ∧ gOf (addsP x) i = [t] ∧ ¬ MarkedP x i t
theorem roles_spec {w : World} {k : Nat} {S : PicS} {x : Pic} (h : LkAt w k S x) (hnd : (x.slabs.map Slab.frame).Nodup) (hl : x.marks.length ≤ 1000000) : Calls Tryz.prog 21 #[pt k] w (Looks w (RoleF x)) := by
  refine (vc21 (some ⟨k, 0, none⟩) w (LooksV w (RoleF x)) ?_).mono fun e w' => looks_of
  unfold vcP21
  obtain ⟨ta, tl, tc, hk, P⟩ := h.th
  have hlen := P.len
  simp only [List.length_map, List.length_range] at hlen
  refine Wif_yes rfl ⟨ta, tl, tc, hk, fun a l c n w' M => ∃ (q : Nat) (xs : List Int), n = (q : Int) ∧ q ≤ x.marks.length ∧ M = x.marks.length - q ∧ Kept none' w w' ∧ RowI w' w.heap.size a l c xs ∧ xs.length ≤ q ∧ Found (List.range x.marks.length) q (fun i n => n = (i : Int) ∧ ∃ t, gOf (addsP x) i = [t] ∧ ¬ MarkedP x i t) xs, ⟨x.marks.length, 0, [], rfl, by omega, rfl, Kept.refl _ _, RowI.nil', Nat.le_refl _, Found.zero⟩, ?_⟩
  rintro a l c _ wl _ ⟨q, xs, rfl, hq, rfl, kl, row, hxl, hxs⟩
  have hs := P.k (RL.stab RInt.stab) kl
  refine Wif_intro (fun hc => ?_) (fun hc => ?_)
  · have hql : q < x.marks.length := by simp at hc; omega
    have hrq : (List.range x.marks.length)[q]? = some q := by rw [List.getElem?_range hql]
    obtain ⟨cs, _, hR, hr⟩ := hs.el q (gOf (addsP x) q) (by rw [List.getElem?_map, hrq]; rfl)
    obtain ⟨ha, hn, hcc, rfl, hrow⟩ := hR
    have hhl := hrow.len
    have stay : ∀ w', Kept none' w w' → RowI w' w.heap.size a l c xs → (∀ t, gOf (addsP x) q = [t] → MarkedP x q t) → ∃ (m : Nat), Nat.succ m ≤ x.marks.length - q ∧ ∃ (q' : Nat) (xs : List Int), IntKind.wrap .i64 ((q : Int) + 1) = (q' : Int) ∧ q' ≤ x.marks.length ∧ m = x.marks.length - q' ∧ Kept none' w w' ∧ RowI w' w.heap.size a l c xs ∧ xs.length ≤ q' ∧ Found (List.range x.marks.length) q' (fun i n => n = (i : Int) ∧ ∃ t, gOf (addsP x) i = [t] ∧ ¬ MarkedP x i t) xs := by
      intro w' k' row' hno
      refine ⟨x.marks.length - (q + 1), by omega, q + 1, xs, by rw [wi (by omega)]; rfl, by omega, rfl, k', row', by omega, hxs.step hrq fun n => ⟨.inl, fun g => g.elim id ?_⟩⟩
      rintro ⟨_, t, h1, h2⟩
      exact absurd (hno t h1) h2
    refine Wif_yes (hs.isp (by omega)) (Wif_yes (inB_of (by omega) (by omega)) ⟨ha, hn, hcc, ?_, ?_⟩)
    · rw [Int.toNat_natCast]
      exact hr 0 _ rfl
    refine gIf_intro (fun h1 => hrow.isp (by simp at h1; omega)) (gIf_intro (fun h1 => inB_of (by omega) (by simp at h1; omega)) ?_)
    by_cases h1 : ∃ t, gOf (addsP x) q = [t]
    · obtain ⟨t, ht⟩ := h1
      rw [ht] at hrow hhl
      obtain ⟨cs', _, hR', hr'⟩ := hrow.el 0 t rfl
      obtain rfl : cs' = [vi t] := hR'
      have hn1 : hn = 1 := hhl
      refine ⟨t, fun _ => by simpa using hr' 0 _ rfl, Wif_yes (by simp [hn1]) ((marked_spec (h.k kl) hnd hql).mono ?_)⟩
      rintro _ w2 ⟨b, rfl, k2, hb⟩
      refine ⟨b, rfl, Wif_intro (fun hbt => ?_) (fun hbf => ?_)⟩
      · have hnm : ¬ MarkedP x q t := fun hm => by rw [hb.2 hm] at hbt; cases hbt
        intro w3 e3
        obtain ⟨a', l', c', w4, happ, row4, k4, _⟩ := (row.k k2).add2 (kl.tr k2) rfl e3 (by omega)
        refine ⟨a', l', c', w4, happ, x.marks.length - (q + 1), by omega, q + 1, xs ++ [(q : Int)], by rw [wi (by omega)]; rfl, by omega, rfl, k4, row4, by simp; omega, hxs.step hrq fun n => ?_⟩
        rw [List.mem_append, List.mem_singleton]
        exact ⟨fun g => g.imp id fun g => ⟨g, t, ht, hnm⟩, fun g => g.imp id And.left⟩
      · exact stay w2 (kl.tr k2) (row.k k2) fun t' ht' => by
          rw [ht] at ht'
          cases ht'
          exact hb.1 (by simpa using hbf)
    · have hn1 : hn ≠ 1 := by
        intro e
        rw [hhl] at e
        exact h1 (List.length_eq_one_iff.1 e)
      refine ⟨0, fun h2 => absurd (show (hn : Int) = 1 by simpa using h2) (by omega), Wif_no (by simp; omega) (stay wl kl row fun t ht => absurd ⟨t, ht⟩ h1)⟩
  · have hql : q = x.marks.length := by simp at hc; omega
    have hll : (List.range x.marks.length).length = q := by simp [hql]
    refine ⟨a, l, c, xs, rfl, kl, row, by omega, fun n => ?_⟩
    rw [← hll] at hxs
    rw [hxs.all n]
    constructor
    · rintro ⟨i, h1, rfl, t, h2, h3⟩
      exact ⟨i, t, rfl, by simpa using h1, h2, h3⟩
    · rintro ⟨i, t, rfl, h1, h2, h3⟩
      exact ⟨i, by simpa using h1, rfl, t, h2, h3⟩
theorem contains_runs {w : World} {b : Nat} {p : Int} {a : Option Addr} {l c : Nat} {xs : List Run} (h : SlR RRun 3 w a l c xs) (hb : rd w b 0 = some (vi p)) :
    Calls Tryz.prog 105 #[.slice a l c, .func (.func 106) #[] #[pt b]] w (Tells w (∃ r ∈ xs, InRun p r)) := by
  have hlen := h.len
  have h63 := h.lt63
  refine (vc105 a l c (some ⟨b, 0, none⟩) w (TellsV w (∃ r ∈ xs, InRun p r)) ?_).mono fun e w' => tells_of
  unfold vcP105
  refine ⟨fun _ n w' M => ∃ i : Nat, n = (i : Int) ∧ i ≤ xs.length ∧ M = xs.length - i ∧ (∀ r ∈ xs.take i, ¬ InRun p r) ∧ Kept none' w w', ⟨xs.length, 0, rfl, by omega, rfl, fun x hx => by simp at hx, Kept.refl _ _⟩, ?_⟩
  rintro _ _ w1 _ ⟨i, rfl, hi, rfl, hno, k1⟩
  refine Wif_intro (fun hc => ?_) (fun hc => ?_)
  · have hil : i < xs.length := by simp at hc; omega
    have h1 := h.k RRun.stab k1
    obtain ⟨r, hr⟩ : ∃ r, xs[i]? = some r := ⟨xs[i], List.getElem?_eq_getElem hil⟩
    obtain ⟨cs, _, hR, hrr⟩ := h1.el i r hr
    obtain rfl : cs = [vi r.page, vi r.count, .int .u8 r.rights] := hR
    refine Wif_yes (h1.isp (by omega)) (Wif_yes (inB_of (by omega) (by omega)) ?_)
    rw [Int.toNat_natCast]
    refine ⟨r.page, r.count, r.rights, ⟨hrr 0 _ rfl, hrr 1 _ rfl, hrr 2 _ rfl⟩, (c106_spec (k1.rd_some hb id) r).mono ?_⟩
    rintro _ w2 ⟨t, rfl, k2, ht⟩
    refine ⟨t, rfl, Wif_intro (fun htt => ?_) (fun htf => ?_)⟩
    · exact ⟨_, rfl, k1.tr k2, fun _ => ⟨r, List.mem_of_getElem? hr, ht.1 htt⟩, fun _ => by simp⟩
    · refine ⟨xs.length - (i + 1), by omega, i + 1, by rw [wi (by omega)]; rfl, by omega, rfl, fun y hy => ?_, k1.tr k2⟩
      rw [take_snoc hr, List.mem_append, List.mem_singleton] at hy
      rcases hy with hy | rfl
      · exact hno y hy
      · exact fun hI => by rw [ht.2 hI] at htf; cases htf
  · have hil : i = xs.length := by simp at hc; omega
    subst hil
    rw [List.take_length] at hno
    exact ⟨false, rfl, k1, by simp, fun ⟨r, h1, h2⟩ => absurd h2 (hno r h1)⟩
theorem contains_pin {w : World} {b : Nat} {p : Int} {a : Option Addr} {l c : Nat} {xs : List Mapped} (h : SlR RMapped 3 w a l c xs) (hb : rd w b 0 = some (vi p)) :
    Calls Tryz.prog 58 #[.slice a l c, .func (.func 72) #[] #[pt b]] w (Tells w (∃ m ∈ xs, m.page = p ∧ m.kind = 1)) := by
  have hlen := h.len
  have h63 := h.lt63
  refine (vc58b a l c (some ⟨b, 0, none⟩) w (TellsV w (∃ m ∈ xs, m.page = p ∧ m.kind = 1)) ?_).mono fun e w' => tells_of
  unfold vcP58b
  refine ⟨fun _ n w' M => ∃ i : Nat, n = (i : Int) ∧ i ≤ xs.length ∧ M = xs.length - i ∧ (∀ m ∈ xs.take i, ¬ (m.page = p ∧ m.kind = 1)) ∧ Kept none' w w', ⟨xs.length, 0, rfl, by omega, rfl, fun x hx => by simp at hx, Kept.refl _ _⟩, ?_⟩
  rintro _ _ w1 _ ⟨i, rfl, hi, rfl, hno, k1⟩
  refine Wif_intro (fun hc => ?_) (fun hc => ?_)
  · have hil : i < xs.length := by simp at hc; omega
    have h1 := h.k RMapped.stab k1
    obtain ⟨r, hr⟩ : ∃ r, xs[i]? = some r := ⟨xs[i], List.getElem?_eq_getElem hil⟩
    obtain ⟨cs, _, hR, hrr⟩ := h1.el i r hr
    obtain rfl : cs = [vi r.page, .int .u8 r.kind, vi r.n] := hR
    refine Wif_yes (h1.isp (by omega)) (Wif_yes (inB_of (by omega) (by omega)) ?_)
    rw [Int.toNat_natCast]
    refine ⟨r.page, r.kind, r.n, ⟨hrr 0 _ rfl, hrr 1 _ rfl, hrr 2 _ rfl⟩, (c72_spec (k1.rd_some hb id) r).mono ?_⟩
    rintro _ w2 ⟨t, rfl, k2, ht⟩
    refine ⟨t, rfl, Wif_intro (fun htt => ?_) (fun htf => ?_)⟩
    · exact ⟨_, rfl, k1.tr k2, fun _ => ⟨r, List.mem_of_getElem? hr, ht.1 htt⟩, fun _ => by simp⟩
    · refine ⟨xs.length - (i + 1), by omega, i + 1, by rw [wi (by omega)]; rfl, by omega, rfl, fun y hy => ?_, k1.tr k2⟩
      rw [take_snoc hr, List.mem_append, List.mem_singleton] at hy
      rcases hy with hy | rfl
      · exact hno y hy
      · exact fun hI => by rw [ht.2 hI] at htf; cases htf
  · have hil : i = xs.length := by simp at hc; omega
    subst hil
    rw [List.take_length] at hno
    exact ⟨false, rfl, k1, by simp, fun ⟨r, h1, h2⟩ => absurd h2 (hno r h1)⟩
def RightP (x : Pic) (p : Proc) (m : Mapped) : Prop := (∃ r ∈ p.runs, InRun m.page r) ∧ ((m.kind = 1 ∧ JustP x.frames ⟨m.n, p.pid, m.page⟩) ∨ (m.kind = 2 ∧ JustP x.slots ⟨m.n, p.pid, m.page⟩))
theorem right_spec {w : World} {k : Nat} {S : PicS} {x : Pic} {p : Proc} {cs : List Value} (h : LkAt w k S x) (hR : RProc w cs p) (m : Mapped) :
    Calls Tryz.prog 60 #[pt k, .agg cs.toArray, .agg #[vi m.page, .int .u8 m.kind, vi m.n]] w (Tells w (RightP x p m)) := by
  obtain ⟨a1, l1, c1, a2, l2, c2, a3, l3, c3, a4, l4, c4, rfl, hx1, hx2, hx3, hx4⟩ := hR
  refine (vc60 (some ⟨k, 0, none⟩) p.pid p.root a1 l1 c1 a2 l2 c2 a3 l3 c3 a4 l4 c4 m.page m.kind m.n w (TellsV w (RightP x p m)) ?_).mono fun e w' => tells_of
  unfold vcP60
  intro w1 e1 w2 e2
  have o1 := own_alloc (c := [vi p.pid, vi p.root, .slice a1 l1 c1, .slice a2 l2 c2, .slice a3 l3 c3, .slice a4 l4 c4]) e1
  have k1 : Kept none' w w1 := (Kept.refl _ _).al e1
  have o2 := own_alloc (c := [vi m.page, .int .u8 m.kind, vi m.n]) e2
  have k2 := k1.al e2
  have o12 := o1.al e2
  refine ⟨m.n, by rw [o2.rd]; rfl, p.pid, by rw [o12.rd]; rfl, m.page, by rw [o2.rd]; rfl, ?_⟩
  intro w3 e3
  have o3 := own_alloc (c := [vi 0, vi 0, vi 0]) e3
  have k3 := k2.al e3
  refine ⟨⟨o3.wr (by decide), o3.wr (by decide), o3.wr (by decide)⟩, ?_⟩
  intro w4 e4
  have hs2 := k2.sz
  have h1lt := o12.lt
  have h2lt := o2.lt
  have o4 : own w4 w2.heap.size [vi m.n, vi p.pid, vi m.page] := by rw [e4]; exact ((o3.st_same).st_same).st_same
  have k34 : Kept (· = w2.heap.size) w3 w4 := by rw [e4]; exact (((Kept.refl (· = w2.heap.size) w3).st (.inl rfl)).st (.inl rfl)).st (.inl rfl)
  have k4 : Kept none' w w4 := own0 k3 k34 fun b hb => by omega
  have o14 := (o12.al e3).kx k34 (by omega)
  have o24 := (o2.al e3).kx k34 (by omega)
  refine ⟨a4, l4, c4, by rw [o14.rd]; rfl, (contains_runs (hx4.k RRun.stab k4) (p := m.page) (b := w1.heap.size) (by rw [o24.rd]; rfl)).mono ?_⟩
  rintro _ w5 ⟨b, rfl, k5, hb⟩
  have h5 := h.k (k4.tr k5)
  have o25 := o24.k k5
  have o45 := o4.k k5
  have K5 := k4.tr k5
  refine ⟨b, rfl, m.kind, by rw [o25.rd]; rfl, Wif_intro (fun hk => ?_) (fun hk => ?_)⟩
  · have hk : m.kind = 1 := by simpa using hk
    intro w6 e6
    have h6 := h5.k ((Kept.refl _ _).dr e6)
    have o46 := o45.dr e6
    have K6 := K5.dr e6
    refine gIf_intro (fun _ => rfl) ⟨S.a 6, S.l 6, S.c 6, fun _ => h6.pic.sl 6 (by decide), m.n, p.pid, m.page, fun _ => ⟨by rw [o46.rd]; rfl, by rw [o46.rd]; rfl, by rw [o46.rd]; rfl⟩, Wif_intro (fun hbt => ?_) (fun hbf => ?_)⟩
    · refine (just_spec h6.P.frames ⟨m.n, p.pid, m.page⟩).mono ?_
      rintro _ w7 ⟨t, rfl, k7, ht⟩
      refine ⟨t, rfl, t, rfl, K6.tr k7, ht.trans ⟨fun g => ⟨hb.1 hbt, .inl ⟨hk, g⟩⟩, fun g => ?_⟩⟩
      rcases g.2 with g | g
      · exact g.2
      · have := g.1; omega
    · exact ⟨false, rfl, K6, by simp, fun g => by rw [hb.2 g.1] at hbf; cases hbf⟩
  have hk1 : m.kind ≠ 1 := by simpa using hk
  refine Wif_intro (fun hk => ?_) (fun hk => ?_)
  · have hk : m.kind = 2 := by simpa using hk
    intro w6 e6
    have h6 := h5.k ((Kept.refl _ _).dr e6)
    have o46 := o45.dr e6
    have K6 := K5.dr e6
    refine gIf_intro (fun _ => rfl) ⟨S.a 8, S.l 8, S.c 8, fun _ => h6.pic.sl 8 (by decide), m.n, p.pid, m.page, fun _ => ⟨by rw [o46.rd]; rfl, by rw [o46.rd]; rfl, by rw [o46.rd]; rfl⟩, Wif_intro (fun hbt => ?_) (fun hbf => ?_)⟩
    · refine (just_spec h6.P.slots ⟨m.n, p.pid, m.page⟩).mono ?_
      rintro _ w7 ⟨t, rfl, k7, ht⟩
      refine ⟨t, rfl, t, rfl, K6.tr k7, ht.trans ⟨fun g => ⟨hb.1 hbt, .inr ⟨hk, g⟩⟩, fun g => ?_⟩⟩
      rcases g.2 with g | g
      · exact absurd g.1 hk1
      · exact g.2
    · exact ⟨false, rfl, K6, by simp, fun g => by rw [hb.2 g.1] at hbf; cases hbf⟩
  have hk2 : m.kind ≠ 2 := by simpa using hk
  exact ⟨false, rfl, K5, by simp, fun g => by rcases g.2 with g | g; exact absurd g.1 hk1; exact absurd g.1 hk2⟩
end Go.Proofs.YtikjgeenhbnkkaaGreatDoor
