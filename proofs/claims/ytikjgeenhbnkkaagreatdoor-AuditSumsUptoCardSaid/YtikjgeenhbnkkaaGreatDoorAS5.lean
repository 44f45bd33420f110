/-
  A part of a proof that a law of this seat returns true at every input. Conditions: those in each theorem.
-/
import Derived.Test.YtikjgeenhbnkkaaGreatDoorAS3
set_option linter.unusedSimpArgs false
set_option linter.unusedVariables false
set_option maxRecDepth 100000
namespace Go.Proofs.YtikjgeenhbnkkaaGreatDoor
open Go Eng
/-! ### slices.Sorted(slices.Values(row)) -/
theorem recKept_of {B : Nat} {X : Nat → Prop} {w w' : World} (k : Kept X w w') (hB : B + 1 < w.heap.size) (h1 : ¬ X B) (h2 : ¬ X (B + 1)) : RecKept B w w' := ⟨k.sz, k.blk B (by omega) h1, k.blk (B + 1) hB h2⟩
theorem keptY_of {Y X : Nat → Prop} {w w' : World} (k : Kept X w w') (h : ∀ b, Y b → b < w.heap.size ∧ ¬ X b) : KeptY Y w w' := ⟨k.sz, fun b hb => k.blk b (h b hb).1 (h b hb).2⟩
theorem keptX {X : Nat → Prop} {w w1 w2 : World} {kx : Nat} (k : Kept (· = kx) w w1) (k2 : Kept X w1 w2) (h : ∀ x, X x → x = kx ∨ w.heap.size ≤ x) : Kept (· = kx) w w2 :=
  k.trans k2 fun x hl hx => by rcases h x hx with h | h; exact h; omega
/-- the cells of a row of numbers, where all that is known is that its block has not turned -/
theorem rd_same {w w' : World} {b o : Nat} (h : w'.heap[b]? = w.heap[b]?) : rd w' b o = rd w b o := by rw [rd_def, rd_def, h]
theorem values_gives {w : World} {c : Nat} {a : Option Addr} {l cc : Nat} {xs : List Int} (h : SlR RInt 1 w a l cc xs) (hc : rd w c 0 = some (.slice a l cc)) :
    GivesV Tryz.prog 113 [pt c] (xs.map fun x => [vi x]) (fun b => 0 < xs.length ∧ b = pb a) w := by
  have hlen := h.len
  have h63 := h.lt63
  refine ⟨fun y J Jx W hk hab habx hY h0 => ?_⟩
  refine (vc113 y (some ⟨c, 0, none⟩) W (fun v w' => (∃ Y, J Y (xs.map fun x => [vi x]).length w') ∨ ∃ Y, Jx Y w') ?_).mono ?_
  rotate_left
  · rintro e w' ⟨v, rfl, hw⟩
    exact ⟨⟨v, rfl⟩, hw⟩
  unfold vcP113
  have hW := h.k RInt.stab hk
  refine Wif_yes rfl ⟨a, l, cc, hk.rd_some hc id, fun k w' N => ∃ (q : Nat) (Y : Nat → Prop), k = q ∧ q ≤ xs.length ∧ N = xs.length - q ∧ J Y q w' ∧ (0 < xs.length → w'.heap[pb a]? = W.heap[pb a]?),
    ⟨xs.length, 0, _, rfl, by omega, rfl, h0, fun _ => rfl⟩, ?_⟩
  rintro _ w3 _ ⟨q, Y, rfl, hq, rfl, hJ3, hkb⟩
  refine Wif_intro (fun hc3 => ?_) (fun hc3 => ?_)
  · have hqd : q < xs.length := by simp at hc3; omega
    obtain ⟨x, hx⟩ : ∃ x, xs[q]? = some x := ⟨xs[q], List.getElem?_eq_getElem hqd⟩
    obtain ⟨cs, _, hR, hr⟩ := hW.el q x hx
    obtain rfl : cs = [vi x] := hR
    refine Wif_yes (hW.isp (by omega)) (Wif_yes (inB_of (by omega) (by omega)) ⟨x, ?_, ?_⟩)
    · rw [Int.toNat_natCast]
      exact (rd_same (hkb (by omega))).trans (hr 0 _ rfl)
    have hy := hY _ q [vi x] w3 (by simp [hx]) hJ3
    obtain ⟨fn, tm, asg', bo, hrun, hR⟩ := hy.run
    refine ⟨fn, tm, asg', bo, hrun, hR.mono ?_⟩
    rintro en w6 ⟨k6, ⟨rfl, hJ6⟩ | ⟨rfl, hx6⟩⟩
    · exact ⟨true, rfl, Wif_no rfl ⟨xs.length - (q + 1), by omega, q + 1, _, by rw [wi (by omega)]; rfl, by omega, rfl, hJ6, fun h0 => (k6.blk _ (.inr ⟨h0, rfl⟩)).trans (hkb h0)⟩⟩
    · exact ⟨false, rfl, Wif_yes rfl (.inr ⟨_, hx6⟩)⟩
  · have : q = xs.length := by simp at hc3; omega
    subst this
    refine .inl ⟨Y, ?_⟩
    rw [List.length_map]
    exact hJ3
theorem appendSeq_values {w : World} {c : Nat} {a : Option Addr} {l cc : Nat} {xs : List Int} (h : SlR RInt 1 w a l cc xs) (hc : rd w c 0 = some (.slice a l cc)) (hl : xs.length ≤ 100000) :
    Calls Tryz.prog 110 #[.slice none 0 0, .func (.func 113) #[] #[pt c]] w fun e w' => ∃ (a : Option Addr) (l c : Nat), e = .returned (.slice a l c) ∧ RowI w' w.heap.size a l c xs ∧ Kept none' w w' := by
  refine (vc110 none 0 0 (some ⟨c, 0, none⟩) w (fun v w' => ∃ (a : Option Addr) (l c : Nat), v = .slice a l c ∧ RowI w' w.heap.size a l c xs ∧ Kept none' w w') ?_).mono ?_
  rotate_left
  · rintro e w' ⟨v, rfl, a, l, c, rfl, hw⟩
    exact ⟨a, l, c, rfl, hw⟩
  unfold vcP110
  intro w4 e4
  have hx := own_alloc (c := [.slice none 0 0]) e4
  have k4 : Kept none' w w4 := (Kept.refl _ _).al e4
  have hs4 : w4.heap.size = w.heap.size + 1 := by rw [e4]; simp only [World.alloc, Array.size_push]
  have h4 := h.k RInt.stab k4
  have hc4 := k4.rd_some hc id
  generalize hkx : w.heap.size = kx at *
  generalize hB : w4.heap.size = B at *
  have hrow : ∀ {w : World} {a : Option Addr} {l c : Nat} {xs : List Int}, RowI w (B + 2) a l c xs → ∀ x, (Value.slice a l c).ownBlock = some x → B + 2 ≤ x ∧ x < w.heap.size := fun h x hx => by
    obtain ⟨rfl, h⟩ := h
    exact h.lt x hx
  have hR : ∀ b, (0 < xs.length ∧ b = pb a) → b < w4.heap.size := by
    rintro b ⟨h0, rfl⟩
    obtain ⟨cs, _, hRx, hr⟩ := h4.el 0 _ (List.getElem?_eq_getElem h0)
    obtain rfl : cs = _ := hRx
    exact rd_lt (hr 0 _ rfl)
  have hRk : ∀ b, (0 < xs.length ∧ b = pb a) → b ≠ kx := by
    rintro b ⟨h0, rfl⟩ e
    obtain ⟨cs, _, hRx, hr⟩ := h.el 0 _ (List.getElem?_eq_getElem h0)
    obtain rfl : cs = _ := hRx
    have := rd_lt (hr 0 _ rfl)
    omega
  refine ⟨xs.map fun x => [vi x], fun b => 0 < xs.length ∧ b = pb a, fun Y i W => Kept (· = kx) w4 W ∧ ∃ a l cc, own W kx [.slice a l cc] ∧ i ≤ xs.length ∧ RowI W (B + 2) a l cc (xs.take i) ∧ (∀ x, Y x → x < W.heap.size ∧ (Value.slice a l cc).ownBlock ≠ some x), fun _ _ _ => False,
    ⟨values_gives h4 hc4, fun ys hx => ?_, fun b h => by have := hR b h; omega⟩, fun w1 k1 _ => ?_, ?_, fun _ _ _ _ h => h.elim, ?_, ?_, fun _ _ h => h.elim, trivial⟩
  · obtain ⟨x, _, rfl⟩ := List.mem_map.1 hx
    exact ⟨rfl, x, rfl⟩
  · exact ⟨k1.mono fun _ _ h => h.elim, none, 0, 0, hx.k k1, by omega, by simpa using RowI.nil', fun x h => h.elim⟩
  · rintro Y i W W' ⟨g1, a, l, cc, g2, hil, g3, g4⟩ hY k'
    have hsz := k'.sz
    refine ⟨keptX g1 k' fun x hx => .inr (by rcases hx with rfl | rfl | h; omega; omega; have := hY x h; omega), a, l, cc, g2.kx k' (fun hx => by rcases hx with h | h | h; omega; omega; have := hY _ h; omega), hil, ⟨g3.1, ownsRow_kx g3.2 k' fun x hx _ hb hh => (by rcases hh with h | h | h; omega; omega; exact (g4 x h).2 hb)⟩, fun x hx => ?_⟩
    rcases hx with hx | hx
    · have := g4 x hx; exact ⟨by omega, this.2⟩
    · refine ⟨hx.2, fun e => ?_⟩
      have := (hrow g3 x e).2
      omega
  · rintro Y i W ⟨g1, a, l, cc, g2, hil, g3, g4⟩ hY hsz p hv
    obtain ⟨hx⟩ : Nonempty (xs[i]? = some p) := by
      rw [List.getElem?_map] at hv
      cases hh : xs[i]? with
      | none => rw [hh] at hv; cases hv
      | some x => rw [hh] at hv; simp at hv; exact ⟨by rw [hv]⟩
    have hll := (List.getElem?_eq_some_iff.1 hx).1
    refine ⟨recKept_of (Kept.refl none' W) (by omega) id id, fun w7 k7 hs7 => ?_⟩
    have kW7 : Kept (· = B + 1) W w7 := k7
    have hW7 := kW7.sz
    refine ⟨a, l, cc, by rw [(g2.kx kW7 (by omega)).rd]; rfl, fun w8 e8 => ?_⟩
    have k8 : Kept none' w7 w8 := (Kept.refl _ _).al e8
    have p8 := own_alloc (c := [vi p]) e8
    have row7 : RowI w7 (B + 2) a l cc (xs.take i) := ⟨g3.1, ownsRow_kx g3.2 kW7 fun x hx _ _ hh => by omega⟩
    have row8 := row7.k k8
    have hs8 := k8.sz
    have hinfo := info_int
    cases hi : Tryz.prog.info? 3 with
    | none => rw [hi] at hinfo; cases hinfo
    | some i0 =>
    rw [hi] at hinfo
    simp at hinfo
    have hlt : l = (xs.take i).length := row8.1
    have hltx : l ≤ xs.length := by rw [hlt]; simp; omega
    obtain ⟨a', l', c', w9, happ, rfl, row9, k9, hon⟩ := app_any (P := Tryz.prog) (t := 31) (e := 3) (i := i0) (z := vi 0) (size := 1) Tryz.underlying31 hi hinfo.1 hinfo.2.1 rfl (by decide) row8.2 p8 (m := 1) (off := 0) (c := 1) (news := [vi p]) rfl rfl (fun u hu => by simp at hu; subst hu; rfl) (by omega) (by omega) (by omega)
    have row8' := hrow row8
    have g9 := ((g2.kx kW7 (by omega)).k k8).kx k9 fun e => by have := (row8' _ e).1; omega
    refine ⟨a', _, c', w9, happ, g9.wr (by simp), fun w10 e10 => ?_⟩
    have k10 : Kept (· = kx) w9 w10 := (Kept.refl _ _).s1 e10 (.inl rfl)
    have g10 := g9.s1 e10
    have K710 : Kept (fun x => x = kx ∨ (Value.slice a l cc).ownBlock = some x) w7 w10 := ((k8.mono fun _ _ h => h.elim).trans k9 fun x _ h => .inr h).trans k10 fun x _ h => .inl h
    have KW10 : Kept (fun x => x = B + 1 ∨ x = kx ∨ (Value.slice a l cc).ownBlock = some x) W w10 := (kW7.mono fun _ _ h => .inl h).trans K710 fun x _ h => .inr h
    have hl10 := KW10.sz
    have hgB := g1.sz
    refine ⟨recKept_of K710 (by omega) (fun h => ?_) (fun h => ?_), keptY_of KW10 fun y hy => ?_, ?_, a', _, c', g10, by omega, ⟨by rw [hlt]; simp; omega, ?_⟩, fun y hy => ?_⟩
    · rcases h with h | h
      · omega
      · have := (hrow row7 _ h).1; omega
    · rcases h with h | h
      · omega
      · have := (hrow row7 _ h).1; omega
    · rcases hy with hy | hy
      · have h1 := hY y hy
        have h2 := g4 y hy
        refine ⟨h2.1, fun hh => ?_⟩
        rcases hh with h | h | h
        · omega
        · omega
        · exact h2.2 h
      · have h1 := hR y hy
        have h2 := hRk y hy
        refine ⟨by omega, fun hh => ?_⟩
        rcases hh with h | h | h
        · omega
        · exact h2 h
        · have := (hrow g3 _ h).1; omega
    · refine keptX g1 KW10 fun y hy => ?_
      rcases hy with h | h | h
      · right; omega
      · exact .inl h
      · right; have := (hrow g3 _ h).1; omega
    · have e1 : (xs.take (i + 1)).map vi = (xs.take i).map vi ++ [vi p] := by
        rw [List.take_add_one, hx, List.map_append]; rfl
      rw [e1]
      exact ownsRow_kx row9 k10 fun y hy _ _ h => by omega
    · have h1 := hY y hy
      have h2 := g4 y hy
      refine ⟨by omega, fun e => ?_⟩
      rcases hon with h3 | h3
      · rw [h3] at e; exact h2.2 e
      · have := h3 y e; omega
  · rintro Y W ⟨g1, a, l, cc, g2, hil, g3, g4⟩ hd
    rw [List.length_map, List.take_length] at g3
    have hgB := g1.sz
    refine ⟨a, l, cc, by rw [g2.rd]; rfl, ⟨by simp, fun D hD => by simp at hD; subst hD; exact hd.at_⟩, fun w2 k2 hs2 => ?_⟩
    have k2' : Kept (· = B) W w2 := k2.mono fun b _ hb => by
      have hb : b ∈ [B] := hb
      simpa using hb
    have hbase : RowI w2 kx a l cc xs := by
      have r2 : RowI w2 (B + 2) a l cc xs := ⟨g3.1, ownsRow_kx g3.2 k2' fun x hx _ _ h => by omega⟩
      exact ⟨r2.1, ownsRow_base_a r2.2 (by omega)⟩
    exact ⟨a, l, cc, rfl, hbase, own0 (k4.trans (X := none') (Y := none') (Kept.refl none' w4) fun _ _ h => h) ((g1.mono fun x _ hx => (show x = kx ∨ x = B from .inl hx)).trans k2' fun x _ hx => .inr hx) fun x hx => by omega⟩
theorem sorted_values {w : World} {c : Nat} {a : Option Addr} {l cc : Nat} {xs : List Int} (h : SlR RInt 1 w a l cc xs) (hc : rd w c 0 = some (.slice a l cc)) (hl : xs.length ≤ 100000) :
    Calls Tryz.prog 69 #[.func (.func 113) #[] #[pt c]] w fun e w' => ∃ (a : Option Addr) (l c : Nat), e = .returned (.slice a l c) ∧ RowI w' w.heap.size a l c (sortI xs) ∧ Kept none' w w' := by
  refine (vc69 (some ⟨c, 0, none⟩) w (fun v w' => ∃ (a : Option Addr) (l c : Nat), v = .slice a l c ∧ RowI w' w.heap.size a l c (sortI xs) ∧ Kept none' w w') ?_).mono ?_
  rotate_left
  · rintro e w' ⟨v, rfl, a, l, c, rfl, hw⟩
    exact ⟨a, l, c, rfl, hw⟩
  unfold vcP69
  refine (appendSeq_values h hc hl).mono ?_
  rintro _ w1 ⟨a1, l1, c1, rfl, row, k1⟩
  refine ⟨a1, l1, c1, rfl, (sort_row row (by omega)).mono ?_⟩
  rintro _ w2 ⟨rfl, row2, k2⟩
  exact ⟨rfl, a1, l1, c1, rfl, row2, own0 k1 k2 fun b hb => by
    obtain ⟨rfl, r⟩ := row
    exact (r.lt b hb).1⟩
theorem values_call (a : Option Addr) (l c : Nat) (w : World) : Calls Tryz.prog 70 #[.slice a l c] w fun e w' => e = .returned (.func (.func 113) #[] #[pt w.heap.size]) ∧ own w' w.heap.size [.slice a l c] ∧ Kept none' w w' := by
  refine (vc70 a l c w (fun v w' => v = .func (.func 113) #[] #[pt w.heap.size] ∧ own w' w.heap.size [.slice a l c] ∧ Kept none' w w') ?_).mono ?_
  · unfold vcP70
    intro w1 e1
    exact ⟨rfl, own_alloc (c := [.slice a l c]) e1, (Kept.refl _ _).al e1⟩
  · rintro e w' ⟨v, rfl, rfl, hw⟩
    exact ⟨rfl, hw⟩
end Go.Proofs.YtikjgeenhbnkkaaGreatDoor
set_option linter.unusedSimpArgs false
set_option linter.unusedVariables false
set_option maxRecDepth 100000
namespace Go.Proofs.YtikjgeenhbnkkaaGreatDoor
open Go Eng
/-! ### slices.Contains, just -/
theorem contains_own {w : World} {a : Option Addr} {l c : Nat} {xs : List Own} (h : SlR ROwn 3 w a l c xs) (o : Own) :
    Calls Tryz.prog 140 #[.slice a l c, .agg #[vi o.n, vi o.pid, vi o.page]] w (Tells w (o ∈ xs)) := by
  have hlen := h.len
  have h63 := h.lt63
  refine (vc140 a l c o.n o.pid o.page w (TellsV w (o ∈ xs)) ?_).mono fun e w' => tells_of
  unfold vcP140
  intro w1 e1
  have o1 := own_alloc (c := [vi o.n, vi o.pid, vi o.page]) e1
  have k1 : Kept none' w w1 := (Kept.refl _ _).al e1
  refine ⟨o.n, o.pid, o.page, ⟨by rw [o1.rd]; rfl, by rw [o1.rd]; rfl, by rw [o1.rd]; rfl⟩, ?_⟩
  intro w2 e2
  have o2 := own_alloc (c := [vi o.n, vi o.pid, vi o.page]) e2
  have k2 := k1.al e2
  refine ⟨fun _ n w' M => ∃ i : Nat, n = (i : Int) ∧ i ≤ xs.length ∧ M = xs.length - i ∧ (∀ x ∈ xs.take i, x ≠ o) ∧ Kept none' w2 w', ⟨xs.length, 0, rfl, by omega, rfl, fun x hx => by simp at hx, Kept.refl _ _⟩, ?_⟩
  rintro _ _ w3 _ ⟨i, rfl, hi, rfl, hno, k3⟩
  refine Wif_intro (fun hc => ?_) (fun hc => ?_)
  · have hil : i < xs.length := by simp at hc; omega
    intro w4 e4
    have k4 := k3.dr e4
    have o4 := o2.k k4
    have h4 := h.k ROwn.stab (k2.tr k4)
    obtain ⟨x, hx⟩ : ∃ x, xs[i]? = some x := ⟨xs[i], List.getElem?_eq_getElem hil⟩
    obtain ⟨cs, _, hR, hr⟩ := h4.el i x hx
    obtain rfl : cs = [vi x.n, vi x.pid, vi x.page] := hR
    refine ⟨o.n, o.pid, o.page, ⟨by rw [o4.rd]; rfl, by rw [o4.rd]; rfl, by rw [o4.rd]; rfl⟩, Wif_yes (h4.isp (by omega)) (Wif_yes (inB_of (by omega) (by omega)) ?_)⟩
    rw [Int.toNat_natCast]
    refine ⟨x.n, x.pid, x.page, ⟨hr 0 _ rfl, hr 1 _ rfl, hr 2 _ rfl⟩, Wif_intro (fun he => ?_) (fun he => ?_)⟩
    · refine ⟨_, rfl, k2.tr k4, fun _ => ?_, fun _ => by simp⟩
      simp at he
      have : x = o := by
        cases x; cases o
        simp_all
      exact this ▸ List.mem_of_getElem? hx
    · refine ⟨xs.length - (i + 1), by omega, i + 1, by rw [wi (by omega)]; rfl, by omega, rfl, fun y hy => ?_, k4⟩
      rw [List.take_add_one, hx, List.mem_append] at hy
      rcases hy with hy | hy
      · exact hno y hy
      · have : y = x := by simpa using hy
        subst this
        intro e
        subst e
        simp at he
  · have hil : i = xs.length := by simp at hc; omega
    subst hil
    rw [List.take_length] at hno
    exact ⟨false, rfl, k2.tr k3, by simp, fun hm => absurd rfl (hno o hm)⟩
theorem contains_mapped {w : World} {a : Option Addr} {l c : Nat} {xs : List Mapped} (h : SlR RMapped 3 w a l c xs) (o : Mapped) :
    Calls Tryz.prog 61 #[.slice a l c, .agg #[vi o.page, .int .u8 o.kind, vi o.n]] w (Tells w (o ∈ xs)) := by
  have hlen := h.len
  have h63 := h.lt63
  refine (vc61 a l c o.page o.kind o.n w (TellsV w (o ∈ xs)) ?_).mono fun e w' => tells_of
  unfold vcP61
  intro w1 e1
  have o1 := own_alloc (c := [vi o.page, .int .u8 o.kind, vi o.n]) e1
  have k1 : Kept none' w w1 := (Kept.refl _ _).al e1
  refine ⟨o.page, o.kind, o.n, ⟨by rw [o1.rd]; rfl, by rw [o1.rd]; rfl, by rw [o1.rd]; rfl⟩, ?_⟩
  intro w2 e2
  have o2 := own_alloc (c := [vi o.page, .int .u8 o.kind, vi o.n]) e2
  have k2 := k1.al e2
  refine ⟨fun _ n w' M => ∃ i : Nat, n = (i : Int) ∧ i ≤ xs.length ∧ M = xs.length - i ∧ (∀ x ∈ xs.take i, x ≠ o) ∧ Kept none' w2 w', ⟨xs.length, 0, rfl, by omega, rfl, fun x hx => by simp at hx, Kept.refl _ _⟩, ?_⟩
  rintro _ _ w3 _ ⟨i, rfl, hi, rfl, hno, k3⟩
  refine Wif_intro (fun hc => ?_) (fun hc => ?_)
  · have hil : i < xs.length := by simp at hc; omega
    intro w4 e4
    have k4 := k3.dr e4
    have o4 := o2.k k4
    have h4 := h.k RMapped.stab (k2.tr k4)
    obtain ⟨x, hx⟩ : ∃ x, xs[i]? = some x := ⟨xs[i], List.getElem?_eq_getElem hil⟩
    obtain ⟨cs, _, hR, hr⟩ := h4.el i x hx
    obtain rfl : cs = [vi x.page, .int .u8 x.kind, vi x.n] := hR
    refine ⟨o.page, o.kind, o.n, ⟨by rw [o4.rd]; rfl, by rw [o4.rd]; rfl, by rw [o4.rd]; rfl⟩, Wif_yes (h4.isp (by omega)) (Wif_yes (inB_of (by omega) (by omega)) ?_)⟩
    rw [Int.toNat_natCast]
    refine ⟨x.page, x.kind, x.n, ⟨hr 0 _ rfl, hr 1 _ rfl, hr 2 _ rfl⟩, Wif_intro (fun he => ?_) (fun he => ?_)⟩
    · refine ⟨_, rfl, k2.tr k4, fun _ => ?_, fun _ => by simp⟩
      simp at he
      have : x = o := by
        cases x; cases o
        simp_all
      exact this ▸ List.mem_of_getElem? hx
    · refine ⟨xs.length - (i + 1), by omega, i + 1, by rw [wi (by omega)]; rfl, by omega, rfl, fun y hy => ?_, k4⟩
      rw [List.take_add_one, hx, List.mem_append] at hy
      rcases hy with hy | hy
      · exact hno y hy
      · have : y = x := by simpa using hy
        subst this
        intro e
        subst e
        simp at he
  · have hil : i = xs.length := by simp at hc; omega
    subst hil
    rw [List.take_length] at hno
    exact ⟨false, rfl, k2.tr k3, by simp, fun hm => absurd rfl (hno o hm)⟩
/-- just one with the number, and it is the process' page -/
def JustP (L : List Own) (o : Own) : Prop := (L.filter fun x => decide (x.n = o.n)).length = 1 ∧ o ∈ L
theorem just_spec {w : World} {a : Option Addr} {l c : Nat} {xs : List Own} (h : SlR ROwn 3 w a l c xs) (o : Own) :
    Calls Tryz.prog 107 #[.slice a l c, .agg #[vi o.n, vi o.pid, vi o.page]] w (Tells w (JustP xs o)) := by
  have hlen := h.len
  have h63 := h.lt63
  refine (vc107 a l c o.n o.pid o.page w (TellsV w (JustP xs o)) ?_).mono fun e w' => tells_of
  unfold vcP107
  intro w1 e1
  have o1 := own_alloc (c := [vi o.n, vi o.pid, vi o.page]) e1
  have k1 : Kept none' w w1 := (Kept.refl _ _).al e1
  refine ⟨fun m n w' M => ∃ i : Nat, n = (i : Int) ∧ i ≤ xs.length ∧ M = xs.length - i ∧ m = (((xs.take i).filter fun x => decide (x.n = o.n)).length : Nat) ∧ Kept none' w1 w', ⟨xs.length, 0, rfl, by omega, rfl, rfl, Kept.refl _ _⟩, ?_⟩
  rintro _ _ w2 _ ⟨i, rfl, hi, rfl, rfl, k2⟩
  have o2 := o1.k k2
  have hcl : ((xs.take i).filter fun x => decide (x.n = o.n)).length ≤ i := by
    have := List.length_filter_le (fun x => decide (x.n = o.n)) (xs.take i)
    simp at this
    omega
  refine Wif_intro (fun hc => ?_) (fun hc => ?_)
  · have hil : i < xs.length := by simp at hc; omega
    have h2 := h.k ROwn.stab (k1.tr k2)
    obtain ⟨x, hx⟩ : ∃ x, xs[i]? = some x := ⟨xs[i], List.getElem?_eq_getElem hil⟩
    obtain ⟨cs, _, hR, hr⟩ := h2.el i x hx
    obtain rfl : cs = [vi x.n, vi x.pid, vi x.page] := hR
    refine Wif_yes (h2.isp (by omega)) (Wif_yes (inB_of (by omega) (by omega)) ?_)
    rw [Int.toNat_natCast]
    refine ⟨x.n, x.pid, x.page, ⟨hr 0 _ rfl, hr 1 _ rfl, hr 2 _ rfl⟩, ?_⟩
    intro w3 e3
    have o3 := own_alloc (c := [vi 0, vi 0, vi 0]) e3
    have k3 := k2.al e3
    refine ⟨⟨o3.wr (by decide), o3.wr (by decide), o3.wr (by decide)⟩, ?_⟩
    intro w4 e4
    have o4 : own w4 w2.heap.size [vi x.n, vi x.pid, vi x.page] := by rw [e4]; exact ((o3.st_same).st_same).st_same
    have hs2 := k2.sz
    have k4 : Kept none' w1 w4 := by rw [e4]; exact ((k3.st (.inr hs2)).st (.inr hs2)).st (.inr hs2)
    refine ⟨x.n, by rw [o4.rd]; rfl, o.n, by rw [(o1.k k4).rd]; rfl, ?_⟩
    have hd : xs.take (i + 1) = xs.take i ++ [x] := by rw [List.take_add_one, hx]; rfl
    refine Wif_intro (fun he => ?_) (fun he => ?_)
    · have he : x.n = o.n := by simpa using he
      refine ⟨xs.length - (i + 1), by omega, i + 1, by rw [wi (by omega)]; rfl, by omega, rfl, ?_, k4⟩
      rw [hd, List.filter_append, wi (by omega)]
      simp [he]
    · have he : ¬ x.n = o.n := by simpa using he
      refine ⟨xs.length - (i + 1), by omega, i + 1, by rw [wi (by omega)]; rfl, by omega, rfl, ?_, k4⟩
      rw [hd, List.filter_append]
      simp [he]
  · have hil : i = xs.length := by simp at hc; omega
    subst hil
    rw [List.take_length] at *
    refine ⟨o.n, o.pid, o.page, fun _ => ⟨by rw [o2.rd]; rfl, by rw [o2.rd]; rfl, by rw [o2.rd]; rfl⟩, Wif_intro (fun he => ?_) (fun he => ?_)⟩
    · have he : (xs.filter fun x => decide (x.n = o.n)).length = 1 := by simp at he; omega
      refine (contains_own (h.k ROwn.stab (k1.tr k2)) o).mono ?_
      rintro _ w3 ⟨b, rfl, k3, hb⟩
      exact ⟨b, rfl, b, rfl, (k1.tr k2).tr k3, fun g => ⟨he, hb.1 g⟩, fun g => hb.2 g.2⟩
    · have he : ¬ (xs.filter fun x => decide (x.n = o.n)).length = 1 := by
        intro g
        rw [g] at he
        simp at he
      exact ⟨false, rfl, k1.tr k2, by simp, fun g => absurd g.1 he⟩
end Go.Proofs.YtikjgeenhbnkkaaGreatDoor
