/-
  A part of a proof that a law of this seat returns true at every input. Conditions: those in each theorem.
-/
import Derived.Test.YtikjgeenhbnkkaaGreatDoorAG1
set_option linter.unusedSimpArgs false
set_option linter.unusedVariables false
set_option maxRecDepth 100000
namespace Go.Proofs.YtikjgeenhbnkkaaGreatDoor
open Go Eng
def FoundB {α : Type} (B : Int → Prop) (L : List α) (q : Nat) (F : α → Int → Prop) (xs : List Int) : Prop := ∀ n, n ∈ xs ↔ B n ∨ ∃ y ∈ L.take q, F y n
theorem FoundB.zero {α : Type} {B : Int → Prop} {L : List α} {F : α → Int → Prop} {xs : List Int} (h : ∀ n, n ∈ xs ↔ B n) : FoundB B L 0 F xs := fun n => by simp [h n]
theorem FoundB.step {α : Type} {B : Int → Prop} {L : List α} {q : Nat} {F : α → Int → Prop} {xs ys : List Int} {y : α} (h : FoundB B L q F xs) (hy : L[q]? = some y) (hn : ∀ n, n ∈ ys ↔ n ∈ xs ∨ F y n) : FoundB B L (q + 1) F ys := fun n => by
  rw [hn n, h n, take_snoc hy]
  constructor
  · rintro ((h0 | ⟨z, h1, h2⟩) | h1)
    · exact .inl h0
    · exact .inr ⟨z, by simp [h1], h2⟩
    · exact .inr ⟨y, by simp, h1⟩
  · rintro (h0 | ⟨z, h1, h2⟩)
    · exact .inl (.inl h0)
    · rcases List.mem_append.1 h1 with h1 | h1
      · exact .inl (.inr ⟨z, h1, h2⟩)
      · have : z = y := by simpa using h1
        subst this
        exact .inr h2
theorem FoundB.all {α : Type} {B : Int → Prop} {L : List α} {F : α → Int → Prop} {xs : List Int} (h : FoundB B L L.length F xs) : ∀ n, n ∈ xs ↔ B n ∨ ∃ y ∈ L, F y n := fun n => by rw [h n, List.take_length]
theorem inj_pid {L : List Proc} (hn : (L.map Proc.pid).Nodup) {s s' : Proc} (h : s ∈ L) (h' : s' ∈ L) (he : s.pid = s'.pid) : s = s' := by
  induction L with
  | nil => cases h
  | cons a L ih =>
    simp only [List.map_cons, List.nodup_cons] at hn
    obtain ⟨h1, h2⟩ := hn
    have hin : ∀ t ∈ L, t.pid ≠ a.pid := fun t ht hf => h1 (List.mem_map.2 ⟨t, ht, hf⟩)
    rcases List.mem_cons.1 h with g | g <;> rcases List.mem_cons.1 h' with g' | g'
    · rw [g, g']
    · exact absurd (g ▸ he.symm) (hin _ g')
    · exact absurd (g' ▸ he) (hin _ g)
    · exact ih h2 g g'
theorem c59_spec {w : World} {k kb pk : Nat} {S : PicS} {x : Pic} {p : Proc} {cs : List Value} (h : LkAt w k S x) (hk : rd w kb 0 = some (pt k)) (hR : RProc w cs p) (hp : ∀ (j : Nat) (u : Value), cs[j]? = some u → rd w pk j = some u) (m : Mapped) :
    Calls Tryz.prog 59 #[.agg #[vi m.page, .int .u8 m.kind, vi m.n], pt kb, pt pk] w (Tells w (¬ RightP x p m)) := by
  have hR' := hR
  obtain ⟨a1, l1, c1, a2, l2, c2, a3, l3, c3, a4, l4, c4, rfl, hx1, hx2, hx3, hx4⟩ := hR'
  refine (vc59 m.page m.kind m.n (some ⟨kb, 0, none⟩) (some ⟨pk, 0, none⟩) w (TellsV w (¬ RightP x p m)) ?_).mono fun e w' => tells_of
  unfold vcP59
  intro w1 e1
  have o1 := own_alloc (c := [vi m.page, .int .u8 m.kind, vi m.n]) e1
  have k1 : Kept none' w w1 := (Kept.refl _ _).al e1
  have hq : ∀ (j : Nat) (u : Value), [vi p.pid, vi p.root, .slice a1 l1 c1, .slice a2 l2 c2, .slice a3 l3 c3, .slice a4 l4 c4][j]? = some u → rd w1 pk j = some u := fun j u hu => k1.rd_some (hp j u hu) id
  refine Wif_yes rfl ⟨some ⟨k, 0, none⟩, k1.rd_some hk id, Wif_yes rfl ⟨_, _, _, _, _, _, _, _, _, _, _, _, _, _, ⟨hq 0 _ rfl, hq 1 _ rfl, hq 2 _ rfl, hq 3 _ rfl, hq 4 _ rfl, hq 5 _ rfl⟩, _, _, _, ⟨by rw [o1.rd]; rfl, by rw [o1.rd]; rfl, by rw [o1.rd]; rfl⟩, ?_⟩⟩
  refine (right_spec (h.k k1) (RProc.stab _ _ _ _ hR k1) m).mono ?_
  rintro _ w2 ⟨b, rfl, k2, hb⟩
  refine ⟨b, rfl, !b, rfl, k1.tr k2, ?_⟩
  rw [← hb]
  cases b <;> simp
theorem contains_wrong {w : World} {k kb pk : Nat} {S : PicS} {x : Pic} {p : Proc} {cs : List Value} {a : Option Addr} {l c : Nat} {xs : List Mapped} (h : SlR RMapped 3 w a l c xs) (hL : LkAt w k S x) (hk : rd w kb 0 = some (pt k)) (hR : RProc w cs p) (hp : ∀ (j : Nat) (u : Value), cs[j]? = some u → rd w pk j = some u) :
    Calls Tryz.prog 58 #[.slice a l c, .func (.func 59) #[] #[pt kb, pt pk]] w (Tells w (∃ m ∈ xs, ¬ RightP x p m)) := by
  have hlen := h.len
  have h63 := h.lt63
  refine (vc58a a l c (some ⟨kb, 0, none⟩) (some ⟨pk, 0, none⟩) w (TellsV w (∃ m ∈ xs, ¬ RightP x p m)) ?_).mono fun e w' => tells_of
  unfold vcP58a
  refine ⟨fun _ n w' M => ∃ i : Nat, n = (i : Int) ∧ i ≤ xs.length ∧ M = xs.length - i ∧ (∀ m ∈ xs.take i, RightP x p m) ∧ Kept none' w w', ⟨xs.length, 0, rfl, by omega, rfl, fun x hx => by simp at hx, Kept.refl _ _⟩, ?_⟩
  rintro _ _ w1 _ ⟨i, rfl, hi, rfl, hno, k1⟩
  refine Wif_intro (fun hc => ?_) (fun hc => ?_)
  · have hil : i < xs.length := by simp at hc; omega
    have h1 := h.k RMapped.stab k1
    obtain ⟨r, hr⟩ : ∃ r, xs[i]? = some r := ⟨xs[i], List.getElem?_eq_getElem hil⟩
    obtain ⟨cs', _, hR', hrr⟩ := h1.el i r hr
    obtain rfl : cs' = [vi r.page, .int .u8 r.kind, vi r.n] := hR'
    refine Wif_yes (h1.isp (by omega)) (Wif_yes (inB_of (by omega) (by omega)) ?_)
    rw [Int.toNat_natCast]
    refine ⟨r.page, r.kind, r.n, ⟨hrr 0 _ rfl, hrr 1 _ rfl, hrr 2 _ rfl⟩, (c59_spec (hL.k k1) (k1.rd_some hk id) (RProc.stab _ _ _ _ hR k1) (fun j u hu => k1.rd_some (hp j u hu) id) r).mono ?_⟩
    rintro _ w2 ⟨t, rfl, k2, ht⟩
    refine ⟨t, rfl, Wif_intro (fun htt => ?_) (fun htf => ?_)⟩
    · exact ⟨_, rfl, k1.tr k2, fun _ => ⟨r, List.mem_of_getElem? hr, ht.1 htt⟩, fun _ => by simp⟩
    · refine ⟨xs.length - (i + 1), by omega, i + 1, by rw [wi (by omega)]; rfl, by omega, rfl, fun y hy => ?_, k1.tr k2⟩
      rw [take_snoc hr, List.mem_append, List.mem_singleton] at hy
      rcases hy with hy | rfl
      · exact hno y hy
      · exact Classical.byContradiction fun hI => by rw [ht.2 hI] at htf; cases htf
  · have hil : i = xs.length := by simp at hc; omega
    subst hil
    rw [List.take_length] at hno
    exact ⟨false, rfl, k1, by simp, fun ⟨r, h1, h2⟩ => absurd (hno r h1) h2⟩
def Ent1 (x : Pic) (p : Proc) (n : Int) : Prop := n = p.pid ∧ (¬ (p.pages.map Mapped.page).Nodup ∨ ∃ m ∈ p.pages, ¬ RightP x p m)
def Ent2 (x : Pic) (o : Own) (n : Int) : Prop := n = o.pid ∧ ¬ ∃ p ∈ x.procs, p.pid = o.pid ∧ (⟨o.page, 1, o.n⟩ : Mapped) ∈ p.pages
def Ent3 (x : Pic) (o : Own) (n : Int) : Prop := n = o.pid ∧ ∀ p ∈ x.procs, p.pid ≠ o.pid
def EntryF (x : Pic) (n : Int) : Prop := ((∃ p ∈ x.procs, Ent1 x p n) ∨ ∃ o ∈ x.frames, Ent2 x o n) ∨ ∃ o ∈ x.slots, Ent3 x o n
theorem looks_base {w w0 w' : World} {P : Int → Prop} {a : Option Addr} {l c : Nat} {xs : List Int} (k0 : Kept none' w w0) (k : Kept none' w0 w') (row : RowI w' w0.heap.size a l c xs) (hl : xs.length ≤ 10000000) (h : ∀ n, n ∈ xs ↔ P n) : LooksV w P (.slice a l c) w' :=
  ⟨a, l, c, xs, rfl, k0.tr k, ⟨row.1, ownsRow_base_a row.2 k0.sz⟩, hl, h⟩
theorem entries_spec {w : World} {k : Nat} {S : PicS} {x : Pic} (h : LkAt w k S x) (hpn : (x.procs.map Proc.pid).Nodup) (hl1 : x.procs.length ≤ 1000000) (hl2 : x.frames.length ≤ 1000000) (hl3 : x.slots.length ≤ 1000000) (hl4 : ∀ p ∈ x.procs, p.pages.length ≤ 1000000) : Calls Tryz.prog 22 #[pt k] w (Looks w (EntryF x)) := by
  refine (vc22 (some ⟨k, 0, none⟩) w (LooksV w (EntryF x)) ?_).mono fun e w' => looks_of
  unfold vcP22
  intro w0 e0
  have o0 := own_alloc (c := [pt k]) e0
  have k0 : Kept none' w w0 := (Kept.refl _ _).al e0
  have hP := h.P
  have hlen := hP.procs.len
  have hlenF := hP.frames.len
  have hlenS := hP.slots.len
  refine ⟨some ⟨k, 0, none⟩, by rw [o0.rd]; rfl, Wif_yes rfl ⟨S.a 5, S.l 5, S.c 5, (h.k k0).pic.sl 5 (by decide), fun a l c n w' M => ∃ (q : Nat) (xs : List Int), n = (q : Int) ∧ q ≤ x.procs.length ∧ M = x.procs.length - q ∧ Kept none' w0 w' ∧ RowI w' w0.heap.size a l c xs ∧ xs.length ≤ q ∧ Found x.procs q (Ent1 x) xs, ⟨x.procs.length, 0, [], rfl, by omega, rfl, Kept.refl _ _, RowI.nil', Nat.le_refl _, Found.zero⟩, ?_⟩⟩
  rintro a l c _ wl _ ⟨q, xs, rfl, hq, rfl, kl, row, hxl, hxs⟩
  have K := k0.tr kl
  refine Wif_intro (fun hc => ?_) (fun hc => ?_)
  · have hql : q < x.procs.length := by simp at hc; omega
    obtain ⟨p, hp⟩ : ∃ p, x.procs[q]? = some p := ⟨x.procs[q], List.getElem?_eq_getElem hql⟩
    have hpm := List.mem_of_getElem? hp
    have hs := hP.procs.k RProc.stab K
    obtain ⟨cs, hcs, hRx, hr⟩ := hs.el q p hp
    have hRP := hRx
    obtain ⟨a1, l1, c1, a2, l2, c2, a3, l3, c3, a4, l4, c4, rfl, hx1, hx2, hx3, hx4⟩ := hRx
    refine Wif_yes (hs.isp (by omega)) (Wif_yes (inB_of (by omega) (by omega)) ?_)
    rw [Int.toNat_natCast]
    refine ⟨_, _, _, _, _, _, _, _, _, _, _, _, _, _, ⟨hr 0 _ rfl, hr 1 _ rfl, hr 2 _ rfl, hr 3 _ rfl, hr 4 _ rfl, hr 5 _ rfl⟩, ?_⟩
    intro w1 e1
    have o1 := own_alloc (c := [vi 0, vi 0, .slice none 0 0, .slice none 0 0, .slice none 0 0, .slice none 0 0]) e1
    have k1 : Kept none' wl w1 := (Kept.refl _ _).al e1
    refine ⟨⟨o1.wr (by decide), o1.wr (by decide), o1.wr (by decide), o1.wr (by decide), o1.wr (by decide), o1.wr (by decide)⟩, ?_⟩
    intro w2 e2
    have o2 : own w2 wl.heap.size [vi p.pid, vi p.root, .slice a1 l1 c1, .slice a2 l2 c2, .slice a3 l3 c3, .slice a4 l4 c4] := by
      rw [e2]; exact (((((o1.st_same).st_same).st_same).st_same).st_same).st_same
    have k12 : Kept (· = wl.heap.size) w1 w2 := by
      rw [e2]; exact ((((((Kept.refl (· = wl.heap.size) w1).st (.inl rfl)).st (.inl rfl)).st (.inl rfl)).st (.inl rfl)).st (.inl rfl)).st (.inl rfl)
    have k2 : Kept none' wl w2 := own0 k1 k12 fun b hb => by omega
    intro w3 e3
    have k3 : Kept none' wl w3 := k2.dr e3
    have o3 := o2.dr e3
    have K3 := K.tr k3
    have h3 := h.k K3
    obtain ⟨mp, M, g1, g2, g3, g4⟩ := h3.pr
    obtain ⟨b, hb1, hb2⟩ := g3 p hpm
    obtain ⟨cs', mm, MM, q1, q2, q3, q4, q5, q6, q7⟩ := hb2.ex
    have hlk := look1 (P := Tryz.prog) (mt := 88) (kt := 3) Tryz.underlying88 rfl g2 p.pid (z := .pointer none) (Tryz.zeroValue126 w3)
    rw [hb1] at hlk
    have hlk : lookIs Tryz.prog 88 (.map (some mp)) (vi p.pid) false (pt b) w3 := hlk
    have hpl := hl4 p hpm
    have hlen2 := len_map (P := Tryz.prog) (mt := 127) (kt := 3) Tryz.underlying127 rfl q5 (by omega) (ty := 3)
    have o03 := o0.k (kl.tr k3)
    have hx2l := hx2.len
    have addit : ∀ w4, Kept none' wl w4 → Ent1 x p p.pid → ∀ w5, w5 = w4.alloc (.cells #[vi p.pid] 3) → ∃ (a' : Option Addr) (l' c' : Nat) (w6 : World), appIs Tryz.prog #[31, 31] 31 (.slice a l c) (.slice (some ⟨w4.heap.size, 0, none⟩) 1 1) (.slice a' l' c') w5 w6 ∧ ∃ (m : Nat), Nat.succ m ≤ x.procs.length - q ∧ ∃ (q' : Nat) (xs : List Int), IntKind.wrap .i64 ((q : Int) + 1) = (q' : Int) ∧ q' ≤ x.procs.length ∧ m = x.procs.length - q' ∧ Kept none' w0 w6 ∧ RowI w6 w0.heap.size a' l' c' xs ∧ xs.length ≤ q' ∧ Found x.procs q' (Ent1 x) xs := by
      intro w4 k4 hE w5 e5
      obtain ⟨a', l', c', w6, happ, row6, k6, _⟩ := (row.k k4).add2 (kl.tr k4) rfl e5 (by omega)
      refine ⟨a', l', c', w6, happ, x.procs.length - (q + 1), by omega, q + 1, xs ++ [p.pid], by rw [wi (by omega)]; rfl, by omega, rfl, k6, row6, by simp; omega, hxs.step hp fun n => ?_⟩
      rw [List.mem_append, List.mem_singleton]
      exact ⟨fun g => g.imp id fun (e : n = _) => e ▸ hE, fun g => g.imp id fun g => g.1⟩
    refine ⟨some ⟨k, 0, none⟩, by rw [o03.rd]; rfl, Wif_yes rfl ⟨some mp, g1, p.pid, by rw [o3.rd]; rfl, some ⟨b, 0, none⟩, hlk, Wif_yes rfl ⟨some mm, q4, MM.length, hlen2, a2, l2, c2, by rw [o3.rd]; rfl, a2, l2, c2, fun _ => by rw [o3.rd]; rfl, ?_⟩⟩⟩
    refine Wif_intro (fun hne => ?_) (fun heq => ?_)
    · have hnn : ¬ (p.pages.map Mapped.page).Nodup := fun hn => by
        have := q7.2 hn
        rw [this, hx2l] at hne
        simp at hne
      exact ⟨⟨hlk, trivial⟩, ⟨by rw [o3.rd]; rfl, trivial⟩, ⟨g1, trivial⟩, ⟨by rw [o03.rd]; rfl, trivial⟩, p.pid, by rw [o3.rd]; rfl, fun w4 e4 => addit w3 k3 ⟨rfl, .inl hnn⟩ w4 e4⟩
    · have hnn : (p.pages.map Mapped.page).Nodup := q7.1 (by
        have : (MM.length : Int) = (l2 : Int) := by simpa using heq
        omega)
      have hx23 := hx2.k RMapped.stab k3
      refine (contains_wrong hx23 h3 (kb := w.heap.size) (by rw [o03.rd]; rfl) (RProc.stab _ _ _ _ hRP k3) (pk := wl.heap.size) (fun j u hu => by rw [o3.rd]; exact hu)).mono ?_
      rintro _ w4 ⟨t, rfl, k4, ht⟩
      have h4 := h3.k k4
      have o4 := o3.k k4
      have o04 := o03.k k4
      have hlk4 := look1 (P := Tryz.prog) (mt := 88) (kt := 3) Tryz.underlying88 rfl (g2.k k4) p.pid (z := .pointer none) (Tryz.zeroValue126 w4)
      rw [hb1] at hlk4
      refine ⟨t, rfl, ⟨hlk4, trivial⟩, ⟨by rw [o4.rd]; rfl, trivial⟩, ⟨k4.rd_some g1 id, trivial⟩, ⟨by rw [o04.rd]; rfl, trivial⟩, Wif_intro (fun htt => ?_) (fun htf => ?_)⟩
      · exact ⟨p.pid, by rw [o4.rd]; rfl, fun w5 e5 => addit w4 (k3.tr k4) ⟨rfl, .inr (ht.1 htt)⟩ w5 e5⟩
      · refine ⟨x.procs.length - (q + 1), by omega, q + 1, xs, by rw [wi (by omega)]; rfl, by omega, rfl, kl.tr (k3.tr k4), row.k (k3.tr k4), by omega, hxs.step hp fun n => ⟨.inl, fun g => g.elim id ?_⟩⟩
        rintro ⟨_, g | g⟩
        · exact absurd hnn g
        · rw [ht.2 g] at htf; cases htf
  have hql : q = x.procs.length := by simp at hc; omega
  subst hql
  have hxs1 := hxs.all
  clear hc hq hxs
  -- frames
  have o0l := o0.k kl
  refine ⟨some ⟨k, 0, none⟩, by rw [o0l.rd]; rfl, Wif_yes rfl ⟨S.a 6, S.l 6, S.c 6, (h.k K).pic.sl 6 (by decide), fun a l c n w' M => ∃ (q : Nat) (xs : List Int), n = (q : Int) ∧ q ≤ x.frames.length ∧ M = x.frames.length - q ∧ Kept none' w0 w' ∧ RowI w' w0.heap.size a l c xs ∧ xs.length ≤ x.procs.length + q ∧ FoundB (fun n => ∃ p ∈ x.procs, Ent1 x p n) x.frames q (Ent2 x) xs, ⟨x.frames.length, 0, xs, rfl, by omega, rfl, kl, row, by omega, FoundB.zero hxs1⟩, ?_⟩⟩
  clear kl row hxl K o0l hxs1
  rintro a l c _ wl _ ⟨q, xs, rfl, hq, rfl, kl, row, hxl, hxs⟩
  have K := k0.tr kl
  refine Wif_intro (fun hc => ?_) (fun hc => ?_)
  · have hql : q < x.frames.length := by simp at hc; omega
    obtain ⟨o, ho⟩ : ∃ o, x.frames[q]? = some o := ⟨x.frames[q], List.getElem?_eq_getElem hql⟩
    have hs := hP.frames.k ROwn.stab K
    obtain ⟨cs, hcs, hRx, hr⟩ := hs.el q o ho
    obtain rfl : cs = [vi o.n, vi o.pid, vi o.page] := hRx
    refine Wif_yes (hs.isp (by omega)) (Wif_yes (inB_of (by omega) (by omega)) ?_)
    rw [Int.toNat_natCast]
    refine ⟨_, _, _, ⟨hr 0 _ rfl, hr 1 _ rfl, hr 2 _ rfl⟩, ?_⟩
    intro w1 e1
    have o1 := own_alloc (c := [vi 0, vi 0, vi 0]) e1
    have k1 : Kept none' wl w1 := (Kept.refl _ _).al e1
    refine ⟨⟨o1.wr (by decide), o1.wr (by decide), o1.wr (by decide)⟩, ?_⟩
    intro w2 e2
    have o2 : own w2 wl.heap.size [vi o.n, vi o.pid, vi o.page] := by
      rw [e2]; exact ((o1.st_same).st_same).st_same
    have k12 : Kept (· = wl.heap.size) w1 w2 := by
      rw [e2]; exact (((Kept.refl (· = wl.heap.size) w1).st (.inl rfl)).st (.inl rfl)).st (.inl rfl)
    have k2 : Kept none' wl w2 := own0 k1 k12 fun b hb => by omega
    intro w3 e3
    have k3 : Kept none' wl w3 := k2.dr e3
    have o3 := o2.dr e3
    have h3 := h.k (K.tr k3)
    have o03 := o0.k (kl.tr k3)
    obtain ⟨mp, M, g1, g2, g3, g4⟩ := h3.pr
    have hlk := look1 (P := Tryz.prog) (mt := 88) (kt := 3) Tryz.underlying88 rfl g2 o.pid (z := .pointer none) (Tryz.zeroValue126 w3)
    have addit : ∀ w4, Kept none' wl w4 → Ent2 x o o.pid → ∀ w5, w5 = w4.alloc (.cells #[vi o.pid] 3) → ∃ (a' : Option Addr) (l' c' : Nat) (w6 : World), appIs Tryz.prog #[31, 31] 31 (.slice a l c) (.slice (some ⟨w4.heap.size, 0, none⟩) 1 1) (.slice a' l' c') w5 w6 ∧ ∃ (m : Nat), Nat.succ m ≤ x.frames.length - q ∧ ∃ (q' : Nat) (xs : List Int), IntKind.wrap .i64 ((q : Int) + 1) = (q' : Int) ∧ q' ≤ x.frames.length ∧ m = x.frames.length - q' ∧ Kept none' w0 w6 ∧ RowI w6 w0.heap.size a' l' c' xs ∧ xs.length ≤ x.procs.length + q' ∧ FoundB (fun n => ∃ p ∈ x.procs, Ent1 x p n) x.frames q' (Ent2 x) xs := by
      intro w4 k4 hE w5 e5
      obtain ⟨a', l', c', w6, happ, row6, k6, _⟩ := (row.k k4).add2 (kl.tr k4) rfl e5 (by omega)
      refine ⟨a', l', c', w6, happ, x.frames.length - (q + 1), by omega, q + 1, xs ++ [o.pid], by rw [wi (by omega)]; rfl, by omega, rfl, k6, row6, by simp; omega, hxs.step ho fun n => ?_⟩
      rw [List.mem_append, List.mem_singleton]
      exact ⟨fun g => g.imp id fun (e : n = _) => e ▸ hE, fun g => g.imp id fun g => g.1⟩
    have stay : ∀ w4, Kept none' wl w4 → ¬ Ent2 x o o.pid → ∃ (m : Nat), Nat.succ m ≤ x.frames.length - q ∧ ∃ (q' : Nat) (xs : List Int), IntKind.wrap .i64 ((q : Int) + 1) = (q' : Int) ∧ q' ≤ x.frames.length ∧ m = x.frames.length - q' ∧ Kept none' w0 w4 ∧ RowI w4 w0.heap.size a l c xs ∧ xs.length ≤ x.procs.length + q' ∧ FoundB (fun n => ∃ p ∈ x.procs, Ent1 x p n) x.frames q' (Ent2 x) xs := by
      intro w4 k4 hE
      refine ⟨x.frames.length - (q + 1), by omega, q + 1, xs, by rw [wi (by omega)]; rfl, by omega, rfl, kl.tr k4, row.k k4, by omega, hxs.step ho fun n => ⟨.inl, fun g => g.elim id fun g => absurd (g.1 ▸ g) hE⟩⟩
    refine ⟨some ⟨k, 0, none⟩, by rw [o03.rd]; rfl, Wif_yes rfl ⟨some mp, g1, o.pid, by rw [o3.rd]; rfl, ?_⟩⟩
    by_cases hex : ∃ p ∈ x.procs, p.pid = o.pid
    · obtain ⟨p, hpm, hpp⟩ := hex
      obtain ⟨b, hb1, hb2⟩ := g3 p hpm
      rw [← hpp, hb1] at hlk
      refine ⟨some ⟨b, 0, none⟩, by rw [← hpp]; exact hlk, ?_⟩
      intro w4 e4
      have k34 : Kept none' w3 w4 := (Kept.refl _ _).dr e4
      have k4 := k3.tr k34
      have o4 := o3.k k34
      obtain ⟨cs', mm, MM, q1, q2, q3, q4, q5, q6, q7⟩ := (hb2.k k34).ex
      obtain ⟨a1, l1, c1, a2, l2, c2, a3, l3, c3, a4, l4, c4, rfl, hx1, hx2, hx3, hx4⟩ := q1
      refine gIf_intro (fun _ => rfl) ⟨a2, l2, c2, fun _ => q3 3 (by decide), o.page, fun _ => by rw [o4.rd]; rfl, o.n, fun _ => by rw [o4.rd]; rfl, Wif_no rfl ?_⟩
      refine (contains_mapped hx2 ⟨o.page, 1, o.n⟩).mono ?_
      rintro _ w5 ⟨t, rfl, k5, ht⟩
      refine ⟨t, rfl, Wif_intro (fun htt => ?_) (fun htf => ?_)⟩
      · have hno : Ent2 x o o.pid := ⟨rfl, fun ⟨p', h1, h2, h3'⟩ => by
          have := inj_pid hpn h1 hpm (h2.trans hpp.symm)
          subst this
          rw [ht.2 h3'] at htt
          cases htt⟩
        exact ⟨o.pid, by rw [(o4.k k5).rd]; rfl, fun w6 e6 => addit w5 (k4.tr k5) hno w6 e6⟩
      · exact stay w5 (k4.tr k5) fun hE => hE.2 ⟨p, hpm, hpp, ht.1 (by simpa using htf)⟩
    · have hln : M.lookup o.pid = none := by
        cases hl : M.lookup o.pid with
        | none => rfl
        | some v => obtain ⟨p, q1, q2⟩ := g4 _ _ hl; exact absurd ⟨p, q1, q2⟩ hex
      rw [hln] at hlk
      refine ⟨none, hlk, ?_⟩
      intro w4 e4
      have k34 : Kept none' w3 w4 := (Kept.refl _ _).dr e4
      have k4 := k3.tr k34
      have o4 := o3.k k34
      refine gIf_intro (fun hh => (by cases hh)) ⟨none, 0, 0, fun hh => (by cases hh), 0, fun hh => (by cases hh), 0, fun hh => (by cases hh), Wif_yes rfl ⟨o.pid, by rw [o4.rd]; rfl, fun w5 e5 => addit w4 k4 ⟨rfl, fun ⟨p, h1, h2, _⟩ => hex ⟨p, h1, h2⟩⟩ w5 e5⟩⟩
  have hql : q = x.frames.length := by simp at hc; omega
  subst hql
  have hxs1 := hxs.all
  clear hc hq hxs
  -- slots
  have o0l := o0.k kl
  refine ⟨some ⟨k, 0, none⟩, by rw [o0l.rd]; rfl, Wif_yes rfl ⟨S.a 8, S.l 8, S.c 8, (h.k K).pic.sl 8 (by decide), fun a l c n w' M => ∃ (q : Nat) (xs : List Int), n = (q : Int) ∧ q ≤ x.slots.length ∧ M = x.slots.length - q ∧ Kept none' w0 w' ∧ RowI w' w0.heap.size a l c xs ∧ xs.length ≤ x.procs.length + x.frames.length + q ∧ FoundB (fun n => (∃ p ∈ x.procs, Ent1 x p n) ∨ ∃ o ∈ x.frames, Ent2 x o n) x.slots q (Ent3 x) xs, ⟨x.slots.length, 0, xs, rfl, by omega, rfl, kl, row, by omega, FoundB.zero hxs1⟩, ?_⟩⟩
  clear kl row hxl K o0l hxs1
  rintro a l c _ wl _ ⟨q, xs, rfl, hq, rfl, kl, row, hxl, hxs⟩
  have K := k0.tr kl
  refine Wif_intro (fun hc => ?_) (fun hc => ?_)
  · have hql : q < x.slots.length := by simp at hc; omega
    obtain ⟨o, ho⟩ : ∃ o, x.slots[q]? = some o := ⟨x.slots[q], List.getElem?_eq_getElem hql⟩
    have hs := hP.slots.k ROwn.stab K
    obtain ⟨cs, hcs, hRx, hr⟩ := hs.el q o ho
    obtain rfl : cs = [vi o.n, vi o.pid, vi o.page] := hRx
    refine Wif_yes (hs.isp (by omega)) (Wif_yes (inB_of (by omega) (by omega)) ?_)
    rw [Int.toNat_natCast]
    refine ⟨_, _, _, ⟨hr 0 _ rfl, hr 1 _ rfl, hr 2 _ rfl⟩, ?_⟩
    intro w1 e1
    have o1 := own_alloc (c := [vi 0, vi 0, vi 0]) e1
    have k1 : Kept none' wl w1 := (Kept.refl _ _).al e1
    refine ⟨⟨o1.wr (by decide), o1.wr (by decide), o1.wr (by decide)⟩, ?_⟩
    intro w2 e2
    have o2 : own w2 wl.heap.size [vi o.n, vi o.pid, vi o.page] := by
      rw [e2]; exact ((o1.st_same).st_same).st_same
    have k12 : Kept (· = wl.heap.size) w1 w2 := by
      rw [e2]; exact (((Kept.refl (· = wl.heap.size) w1).st (.inl rfl)).st (.inl rfl)).st (.inl rfl)
    have k2 : Kept none' wl w2 := own0 k1 k12 fun b hb => by omega
    intro w3 e3
    have k3 : Kept none' wl w3 := k2.dr e3
    have o3 := o2.dr e3
    have h3 := h.k (K.tr k3)
    have o03 := o0.k (kl.tr k3)
    obtain ⟨mp, M, g1, g2, g3, g4⟩ := h3.pr
    have hlk := look1 (P := Tryz.prog) (mt := 88) (kt := 3) Tryz.underlying88 rfl g2 o.pid (z := .pointer none) (Tryz.zeroValue126 w3)
    refine ⟨some ⟨k, 0, none⟩, by rw [o03.rd]; rfl, Wif_yes rfl ⟨some mp, g1, o.pid, by rw [o3.rd]; rfl, ?_⟩⟩
    by_cases hex : ∃ p ∈ x.procs, p.pid = o.pid
    · obtain ⟨p, hpm, hpp⟩ := hex
      obtain ⟨b, hb1, hb2⟩ := g3 p hpm
      rw [← hpp, hb1] at hlk
      refine ⟨some ⟨b, 0, none⟩, by rw [← hpp]; exact hlk, Wif_no rfl ?_⟩
      exact ⟨x.slots.length - (q + 1), by omega, q + 1, xs, by rw [wi (by omega)]; rfl, by omega, rfl, kl.tr k3, row.k k3, by omega, hxs.step ho fun n => ⟨.inl, fun g => g.elim id fun g => absurd hpp (g.2 p hpm)⟩⟩
    · have hln : M.lookup o.pid = none := by
        cases hl : M.lookup o.pid with
        | none => rfl
        | some v => obtain ⟨p, q1, q2⟩ := g4 _ _ hl; exact absurd ⟨p, q1, q2⟩ hex
      rw [hln] at hlk
      refine ⟨none, hlk, Wif_yes rfl ⟨o.pid, by rw [o3.rd]; rfl, fun w4 e4 => ?_⟩⟩
      obtain ⟨a', l', c', w6, happ, row6, k6, _⟩ := (row.k k3).add2 (kl.tr k3) rfl e4 (by omega)
      refine ⟨a', l', c', w6, happ, x.slots.length - (q + 1), by omega, q + 1, xs ++ [o.pid], by rw [wi (by omega)]; rfl, by omega, rfl, k6, row6, by simp; omega, hxs.step ho fun n => ?_⟩
      rw [List.mem_append, List.mem_singleton]
      exact ⟨fun g => g.imp id fun g => ⟨g, fun p h1 h2 => hex ⟨p, h1, h2⟩⟩, fun g => g.imp id fun g => g.1⟩
  · have hql : q = x.slots.length := by simp at hc; omega
    subst hql
    exact looks_base k0 kl row (by omega) hxs.all
end Go.Proofs.YtikjgeenhbnkkaaGreatDoor
