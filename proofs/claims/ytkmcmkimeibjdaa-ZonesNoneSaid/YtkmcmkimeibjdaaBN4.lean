/-
  A part of a proof that a law of this seat returns true at every input. Conditions: those in each theorem.
-/
import Derived.Test.YtkmcmkimeibjdaaBN2
namespace Go.Proofs.Ytkmcmkimeibjdaa
open Go Eng
set_option linter.unusedSimpArgs false
set_option linter.unusedVariables false
set_option maxRecDepth 100000
/-- the block that a row owns holds cells of its type -/
theorem _root_.Go.Eng.Kept.toY {Y : Nat → Prop} {w w' : World} (k : Kept none' w w') : Kept Y w w' := k.mono fun _ _ h => h.elim
theorem rowTy {w : World} {base e size n g : Nat} {v : Value} {xs : List Value} (h : w.ownsRow base e size v n xs) (hg : v.ownBlock = some g) : base ≤ g ∧ ∃ cur, w.heap[g]? = some (.cells cur e (0, 0)) := by
  rcases h.2 with ⟨rfl, _⟩ | ⟨g', cap, cur, rfl, hb, hgg, _⟩
  · simp [Value.ownBlock] at hg
  · simp [Value.ownBlock] at hg
    subst hg
    exact ⟨hb, cur, hgg⟩
section
variable {w w' : World} {b c t : Nat} {m : Nat → Nat} {n : Nat} {L : List Bk}
theorem row2_rd {w : World} {base e l c n : Nat} {a : Option Addr} {xs : List Value} (h : w.ownsRow base e 2 (.slice a l c) n xs) {i : Nat} (hi : i < n) :
    ∃ g, a = some ⟨g, 0, none⟩ ∧ l = n ∧ base ≤ g ∧ g < w.heap.size ∧ rd w g (i * 2) = xs[i * 2]? ∧ rd w g (i * 2 + 1) = xs[i * 2 + 1]? := by
  obtain ⟨hl, hh⟩ := ownsRow_own h
  rcases hh with ⟨_, h0, _⟩ | ⟨g, cs, rfl, hg, og, htk, _, _⟩
  · omega
  · refine ⟨g, rfl, hl, hg, og.lt, ?_, ?_⟩
    · rw [og.rd, ← htk, List.getElem?_take, if_pos (by omega)]
    · rw [og.rd, ← htk, List.getElem?_take, if_pos (by omega)]
theorem KeptY.own {Y : Nat → Prop} {g : Nat} {cs : List Value} (k : KeptY Y w w') (hy : Y g) (h : own w g cs) : own w' g cs := by
  obtain ⟨ty, h⟩ := h
  exact ⟨ty, (k.blk g hy).trans h⟩
theorem blocks_gives (hs : SortSays L) (h : BAt w b m t (stOf n L)) (hi : Inv n L) (hc : rd w c 0 = some (ptr b)) :
    GivesV Try.prog 54 [.pointer (some ⟨c, 0, none⟩)] ((frB L).map fun x => [blkV x]) (fun _ => False) w := by
  refine ⟨fun l J Jx W hk hab habx hY h0 => ?_⟩
  refine (vc54 l (some ⟨c, 0, none⟩) W (fun v w' => (∃ Y, J Y ((frB L).map fun x => [blkV x]).length w') ∨ ∃ Y, Jx Y w') ?_).mono ?_
  rotate_left
  · rintro e w' ⟨v, rfl, hw⟩
    exact ⟨⟨v, rfl⟩, hw⟩
  have hW := h.k hk
  have hn128 := hi.n1.2
  have h10 : ∀ x ∈ L, x.o ≤ 10 := fun x hx => (tile_mem hi.tl hx).2.2.2
  have hLl := tile_le hi.tl
  have hpl : ∀ q, (plc q L).length ≤ 128 := fun q => by have := plc_len q L; omega
  unfold vcP54
  simp only [isP_some, Wif_true, gIf_true, pb_some, po_some, Nat.zero_add]
  refine ⟨_, hk.rd_some hc id, ?_⟩
  simp only [isP_some, Wif_true, gIf_true, pb_some, po_some, Nat.zero_add]
  refine ⟨_, fun _ => hW.r12, Wif_no rfl ⟨_, hk.rd_some hc id, ?_⟩⟩
  simp only [isP_some, Wif_true, gIf_true, pb_some, po_some, Nat.zero_add]
  refine ⟨some (m 0), some (m 1), some (m 2), some (m 3), some (m 4), some (m 5), some (m 6), some (m 7), some (m 8), some (m 9), some (m 10), hW.so.rdAll 1 (fun j hj => ?_), ?_⟩
  · simp at hj
    have : j = 0 ∨ j = 1 ∨ j = 2 ∨ j = 3 ∨ j = 4 ∨ j = 5 ∨ j = 6 ∨ j = 7 ∨ j = 8 ∨ j = 9 ∨ j = 10 := by omega
    rcases this with rfl | rfl | rfl | rfl | rfl | rfl | rfl | rfl | rfl | rfl | rfl <;> rfl
  have hbase0 : ∀ o, o < 11 → m o < W.heap.size := fun o ho => (hW.mf o ho).lt
  refine ⟨fun a l' c' k w' N => ∃ (q : Nat) (d : List Nat), k = q ∧ q ≤ 11 ∧ N = 11 - q ∧ Kept none' W w' ∧ l' = d.length ∧ w'.ownsRow W.heap.size 58 2 (.slice a l' c') d.length (rowCells L d) ∧ d.Perm (plc q L),
    ⟨11, 0, [], rfl, by omega, rfl, Kept.refl _ _, rfl, World.ownsRow_nil _ _ _ _, by rw [plc_zero]⟩, ?_⟩
  rintro a _ c' _ w1 _ ⟨q, d, rfl, hq, rfl, k1, rfl, row1, hp1⟩
  have hdl : d.length ≤ 128 := by rw [hp1.length_eq]; exact hpl q
  refine Wif_intro (fun hc2 => ?_) (fun hc2 => ?_)
  · simp only [decide_eq_true_eq] at hc2
    have hq11 : q < 11 := by omega
    refine Wif_yes (inB_of (by omega) (by omega)) ⟨some (m q), ?_, ?_⟩
    · rw [Int.toNat_natCast, Nat.mul_one]
      match q, hq11 with
      | 0, _ | 1, _ | 2, _ | 3, _ | 4, _ | 5, _ | 6, _ | 7, _ | 8, _ | 9, _ | 10, _ => rfl
    have mq1 : MapIs w1 (m q) (ent1 (fr q L)) := (hW.mf q hq11).k k1
    obtain ⟨w2, hrng, k2, I2⟩ := range_map (P := Try.prog) Try.underlying75 mq1
    refine ⟨_, w2, hrng, ?_⟩
    have row2 := ownsRow_kx row1 k2 (fun _ _ _ _ => id)
    have hr0 := I2.lt.1
    have hs01 := k1.sz
    have hs12 := k2.sz
    generalize hrE : w1.heap.size = r at *
    refine ⟨fun a l' c' w' N => ∃ (R : List (Int × Value)) (d : List Nat), R.length = N ∧ Kept none' W w' ∧ IterAt w' r (m q) (ent1 (fr q L)) R ∧ l' = d.length ∧ w'.ownsRow W.heap.size 58 2 (.slice a l' c') d.length (rowCells L d) ∧ (∀ g, (Value.slice a l' c').ownBlock = some g → g ≠ r) ∧
        (d.map (fun (a : Nat) => (a : Int)) ++ R.map (·.1)).Perm ((plc (q + 1) L).map fun (a : Nat) => (a : Int)) ∧ ∀ p ∈ R, ∃ x ∈ L, x.g = 0 ∧ x.o = q ∧ p.1 = (x.p : Int),
      ⟨_, ent1 (fr q L), d, rfl, k1.tr k2, I2, rfl, row2, fun g hg e => ?_, ?_, fun p hp => ?_⟩, ?_⟩
    · obtain ⟨_, cur, hcu⟩ := rowTy row1 hg
      have := (Array.getElem?_eq_some_iff.1 hcu).1
      omega
    · have e1 : (ent1 (fr q L)).map (·.1) = (frN q L).map fun (a : Nat) => (a : Int) := by rw [← fr_frN]; simp [ent1, Function.comp_def]
      rw [e1, ← List.map_append]
      exact ((hp1.append_right _).trans (plc_succ q L).symm).map _
    · obtain ⟨k, hk', rfl⟩ := List.mem_map.1 hp
      obtain ⟨x, h1, h2, h3, h4⟩ := mem_fr.1 hk'
      exact ⟨x, h1, h2, h3, h4.symm⟩
    rintro a _ c' w3 _ ⟨R, d, rfl, k3, I3, rfl, row3, hsep, hperm, hR⟩
    have hdl : d.length ≤ 128 := by
      have e1 := hperm.length_eq
      simp only [List.length_append, List.length_map] at e1
      have := hpl (q + 1)
      omega
    rcases next_map (P := Try.prog) (ty := 0) I3 with ⟨rfl, hnx⟩ | ⟨⟨f, v⟩, R', w4, hRp, hnx, k4, I4, hent⟩
    · left
      refine ⟨w3, hnx, 11 - (q + 1), by omega, q + 1, d, by rw [wi (by omega)]; rfl, by omega, rfl, k3, rfl, row3, ?_⟩
      simp only [List.map_nil, List.append_nil] at hperm
      -- the places themselves
      have : (d.map (fun (a : Nat) => (a : Int))).map Int.toNat = d := by rw [List.map_map]; simp [Function.comp_def]
      have h2 : ((plc (q + 1) L).map (fun (a : Nat) => (a : Int))).map Int.toNat = plc (q + 1) L := by rw [List.map_map]; simp [Function.comp_def]
      have h3 := hperm.map Int.toNat
      rw [this, h2] at h3
      exact h3
    · right
      obtain ⟨x, hx1, hx2, hx3, hx4⟩ := hR (f, v) (hRp.mem_iff.2 (by simp))
      dsimp only at hx4
      subst hx4
      have row4 := ownsRow_kx row3 k4 (fun g _ _ hg e => hsep g hg e)
      have k34 : Kept none' W w4 := own0 k3 k4 fun b e => by omega
      refine ⟨_, _, w4, hnx, (x.p : Int), v, hent, ?_⟩
      intro w5 e5
      have k45 : Kept none' w4 w5 := (Kept.refl _ _).al e5
      have p5 := own_alloc (c := [Value.int .i64 (x.p : Int), .int .i64 (q : Int)]) e5
      have row5 := ownsRow_kx row4 k45 (fun _ _ _ _ => id)
      have hcell : rowCells L [x.p] = [Value.int .i64 (x.p : Int), .int .i64 (q : Int)] := by
        simp only [rowCells, List.flatMap_cons, List.flatMap_nil, List.append_nil]
        rw [ordAt_of hi.tl hx1 hx2, hx3]
      have hs3 := k3.sz
      have hs4 := k4.sz
      have hs5 := k45.sz
      obtain ⟨a', l', c'', w6, happ, rfl, row6, k6⟩ := app_blk row5 p5 (m := 1) (off := 0) (c := 1) (news := [Value.int .i64 (x.p : Int), .int .i64 (q : Int)]) rfl rfl (fun u hu => by simp at hu; rcases hu with rfl | rfl <;> rfl) (by omega) (by omega)
      refine ⟨a', _, c'', w6, happ, R'.length, by rw [hRp.length_eq]; simp, R', d ++ [x.p], rfl, own0 (k34.tr k45) k6 fun g hg => ?_, ?_, by simp, ?_, fun g hg => ?_, ?_, fun p hp => hR p (hRp.mem_iff.2 (List.mem_cons_of_mem _ hp))⟩
      · exact (rowTy row5 hg).1
      · exact (I4.k k45).kx k6 (fun e => hsep r e rfl) (fun e => by have := (rowTy row5 e).1; have := hbase0 q hq11; omega)
      · have : rowCells L (d ++ [x.p]) = rowCells L d ++ [Value.int .i64 (x.p : Int), .int .i64 (q : Int)] := by rw [rowCells_app, hcell]
        rw [this]
        have e1 : (d ++ [x.p]).length = d.length + 1 := by simp
        rw [e1]; exact row6
      · intro e
        subst e
        obtain ⟨_, cur, hcu⟩ := rowTy row6 hg
        obtain ⟨es, clk, since, seen, c0, _, hit, _⟩ := ((I4.k k45).kx k6 (fun e => hsep g e rfl) (fun e => by have := (rowTy row5 e).1; have := hbase0 q hq11; omega)).ex
        rw [hcu] at hit
        cases hit
      · refine List.Perm.trans ?_ hperm
        rw [List.map_append, List.append_assoc]
        refine List.Perm.append_left _ ?_
        exact (hRp.map (·.1)).symm
  · have hq11 : q = 11 := by simp at hc2; omega
    subst hq11
    have hplE := plc_all h10
    rw [hplE] at hp1
    have hstr := frB_sorted hi.tl
    have hnd : d.Nodup := hp1.nodup_iff.2 (hstr.imp fun h => by omega)
    refine (hs w1 a d.length c' W.heap.size d row1 (fun x hx => ?_) hnd hdl).mono ?_
    · obtain ⟨y, hy, rfl⟩ := List.mem_map.1 (hp1.mem_iff.1 hx)
      have := (tile_mem hi.tl (mem_frB.1 hy).1)
      have := p2 y.o
      omega
    rintro _ w2 ⟨rfl, row2, k2⟩
    rw [sorted_perm_eq hp1 hstr] at row2
    have K2 : Kept none' W w2 := own0 k1 k2 fun g hg => (rowTy row1 hg).1
    refine ⟨rfl, ?_⟩
    have hlen : d.length = (frB L).length := by rw [hp1.length_eq, List.length_map]
    have hJ2 := hab _ _ _ _ h0 K2.toY
    refine ⟨fun k w' N => ∃ (q : Nat) (Y : Nat → Prop), k = q ∧ q ≤ d.length ∧ N = d.length - q ∧ J Y q w' ∧ (∀ g, (Value.slice a d.length c').ownBlock = some g → Y g) ∧ w'.ownsRow W.heap.size 58 2 (.slice a d.length c') d.length (rowCells L ((frB L).map (·.p))),
      ⟨d.length, 0, _, rfl, by omega, rfl, hJ2, fun g hg => ?_, row2⟩, ?_⟩
    · obtain ⟨h1, cur, hcu⟩ := rowTy row2 hg
      exact .inr ⟨h1, (Array.getElem?_eq_some_iff.1 hcu).1⟩
    rintro _ w3 _ ⟨q, Y, rfl, hq, rfl, hJ3, hYg, row3⟩
    refine Wif_intro (fun hc3 => ?_) (fun hc3 => ?_)
    · simp only [decide_eq_true_eq] at hc3
      have hqd : q < d.length := by omega
      obtain ⟨g, rfl, _, hgb, hgs, r0, r1⟩ := row2_rd row3 hqd
      have hxq : q < (frB L).length := by omega
      obtain ⟨x, hx⟩ : ∃ x, (frB L)[q]? = some x := ⟨_, List.getElem?_eq_getElem hxq⟩
      have hxL := mem_frB.1 (List.mem_of_getElem? hx)
      have hget := rowCells_get L ((frB L).map (·.p)) q x.p (by simp [hx])
      rw [hget.1] at r0
      rw [hget.2, ordAt_of hi.tl hxL.1 hxL.2] at r1
      simp only [isP_some, Wif_true, pb_some, po_some, Nat.zero_add, Int.toNat_natCast]
      refine Wif_yes (inB_of (by omega) (by omega)) ⟨(x.p : Int), (x.o : Int), ⟨r0, r1⟩, ?_⟩
      intro w4 e4
      have k34 : Kept none' w3 w4 := (Kept.refl _ _).al e4
      have o4 := own_alloc (c := [Value.int .i64 0, .int .i64 0]) e4
      have hJ4 := hab _ _ _ _ hJ3 k34.toY
      have s34 : w4.heap.size = w3.heap.size + 1 := by rw [e4]; simp only [World.alloc, Array.size_push]
      refine ⟨⟨o4.wr (by simp), o4.wr (by simp)⟩, ?_⟩
      intro w5 e5
      have o5 := o4.s2 e5
      have k45 : Kept (· = w3.heap.size) w4 w5 := (Kept.refl _ _).s2 e5 (.inl rfl)
      have k35 : Kept none' w3 w5 := k34.trans k45 fun b hb e => by omega
      have hJ5 := hab _ _ _ _ hJ3 k35.toY
      have row5 := ownsRow_kx row3 k35 (fun _ _ _ _ => id)
      refine ⟨(x.p : Int), (x.o : Int), ⟨by rw [o5.rd]; rfl, by rw [o5.rd]; rfl⟩, ?_⟩
      have hy := hY _ q [blkV x] w5 (by simp [hx]) hJ5
      obtain ⟨fn, tm, asg', bo, hrun, hR⟩ := hy.run
      refine ⟨fn, tm, asg', bo, hrun, hR.mono ?_⟩
      rintro en w6 ⟨k6, ⟨rfl, hJ6⟩ | ⟨rfl, hx6⟩⟩
      · refine ⟨true, rfl, Wif_no rfl ⟨d.length - (q + 1), by omega, q + 1, _, by rw [wi (by omega)]; rfl, by omega, rfl, hJ6, fun g' hg' => .inl (hYg g' hg'), ?_⟩⟩
        -- the row has been kept
        have hYg0 := hYg g (by simp [Value.ownBlock])
        rcases row5 with ⟨hl5, ⟨hv, h00⟩ | ⟨g', cap, cur, hv, hb', hgg, hrest⟩⟩
        · cases hv
        · simp only [Value.slice.injEq, Option.some.injEq, Addr.mk.injEq] at hv
          obtain ⟨⟨rfl, _⟩, _, rfl⟩ := hv
          exact ⟨hl5, .inr ⟨g, _, cur, rfl, hb', (k6.blk g (.inl (.inl hYg0))).trans hgg, hrest⟩⟩
      · exact ⟨false, rfl, Wif_yes rfl (.inr ⟨_, hx6⟩)⟩
    · have : q = d.length := by simp at hc3; omega
      subst this
      refine .inl ⟨Y, ?_⟩
      rw [List.length_map, ← hlen]
      exact hJ3
end
end Go.Proofs.Ytkmcmkimeibjdaa
