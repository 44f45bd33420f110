/-
  A part of a proof that a law of this seat returns true at every input. Conditions: those in each theorem.
-/
import Derived.Test.YtikjgeenhbnkkaaGreatDoorAVA
set_option linter.unusedSimpArgs false
set_option linter.unusedVariables false
set_option maxRecDepth 100000
namespace Go.Proofs.YtikjgeenhbnkkaaGreatDoor
open Go Eng
def cn (L : List Int) (k : Int) : Nat := (L.filter fun y => decide (y = k)).length
theorem cn_snoc (L : List Int) (k j : Int) : cn (L ++ [k]) j = if j = k then cn L j + 1 else cn L j := by
  unfold cn
  rw [List.filter_append, List.length_append]
  by_cases h : j = k
  · subst h; simp
  · have : ¬ k = j := fun e => h e.symm
    simp [h, this]
theorem cn_le (L : List Int) (k : Int) : cn L k ≤ L.length := List.length_filter_le _ _
structure CL (w : World) (b : Nat) (L : List Int) : Prop where
  ex : ∃ M, MapIs w b M ∧ (∀ k, M.lookup k = if cn L k = 0 then none else some (vi (cn L k : Nat))) ∧ M.length ≤ L.length
theorem CL.kx {X : Nat → Prop} {w w' : World} {b : Nat} {L : List Int} (h : CL w b L) (k : Kept X w w') (hx : ¬ X b) : CL w' b L := by
  obtain ⟨M, h1, h2, h3⟩ := h.ex
  exact ⟨M, h1.kx k hx, h2, h3⟩
theorem CL.k {w w' : World} {b : Nat} {L : List Int} (h : CL w b L) (k : Kept none' w w') : CL w' b L := h.kx k id
theorem CL.lt {w : World} {b : Nat} {L : List Int} (h : CL w b L) : b < w.heap.size := by
  obtain ⟨M, h1, _⟩ := h.ex
  exact h1.lt
theorem CL.look {w : World} {b : Nat} {L : List Int} (h : CL w b L) (k : Int) : lookIs Tryz.prog 99 (.map (some b)) (vi k) false (vi (cn L k : Nat)) w := by
  obtain ⟨M, h1, h2, h3⟩ := h.ex
  have := look1 (P := Tryz.prog) (mt := 99) (vt := 3) (kt := 3) rfl rfl h1 k (z := vi 0) (Tryz.zeroValue3 w)
  rw [h2 k] at this
  split at this
  · rename_i h0; rw [h0]; exact this
  · exact this
theorem CL.inc {w : World} {b : Nat} {L : List Int} (h : CL w b L) (k : Int) (hr : -9223372036854775808 ≤ k ∧ k ≤ 9223372036854775807) (hl : L.length ≤ 1000000000) :
    ∃ w', updIs Tryz.prog 99 (.map (some b)) (vi k) (vi (IntKind.wrap .i64 ((cn L k : Nat) + 1))) w w' ∧ CL w' b (L ++ [k]) ∧ Kept (· = b) w w' := by
  obtain ⟨M, h1, h2, h3⟩ := h.ex
  have hle := cn_le L k
  obtain ⟨w', M', hu, hM', hlk, hlen, hk⟩ := upd_any (P := Tryz.prog) (mt := 99) (vt := 3) (kt := 3) rfl rfl h1 k (vi (IntKind.wrap .i64 ((cn L k : Nat) + 1))) hr
  refine ⟨w', hu, ⟨M', hM', fun j => ?_, ?_⟩, hk⟩
  · rw [hlk, cn_snoc]
    split
    · rename_i e
      subst e
      rw [if_neg (by omega), wi (by omega)]
      rfl
    · exact h2 j
  · rw [hlen, List.length_append]
    split
    · omega
    · simp; omega
theorem CL.keys {w : World} {b : Nat} {L : List Int} (h : CL w b L) : ∃ M, MapIs w b M ∧ M.length ≤ L.length ∧ ∀ k, k ∈ M.map (·.1) ↔ cn L k ≠ 0 := by
  obtain ⟨M, h1, h2, h3⟩ := h.ex
  refine ⟨M, h1, h3, fun k => ?_⟩
  constructor
  · intro hk
    obtain ⟨⟨k', v⟩, hm, rfl⟩ := List.mem_map.1 hk
    have := lookup_of_mem h1.nd hm
    rw [h2] at this
    intro h0
    rw [if_pos h0] at this
    cases this
  · intro hk
    have := h2 k
    rw [if_neg hk] at this
    exact List.mem_map.2 ⟨_, mem_of_lookup this, rfl⟩
def takenL (x : Pic) : List Int := x.slots.map Own.n
def slotL (p : Proc) : List Int := (p.pages.filter fun m => decide (m.kind = 2)).map Mapped.n
def usedL (x : Pic) : List Int := x.flight.filter (fun f => decide (f ≥ 0)) ++ x.procs.flatMap slotL
def SlotF (x : Pic) (s : Int) : Prop := (cn (takenL x) s ≠ 0 ∨ cn (usedL x) s ≠ 0) ∧ ¬ (cn (takenL x) s = 1 ∧ cn (usedL x) s = 1)
theorem c66_spec {w : World} {b1 b2 m1 m2 : Nat} {L1 L2 : List Int} (h1 : CL w m1 L1) (h2 : CL w m2 L2) (r1 : rd w b1 0 = some (.map (some m1))) (r2 : rd w b2 0 = some (.map (some m2))) (s : Int) :
    Calls Tryz.prog 66 #[vi s, pt b1, pt b2] w (Tells w (cn L1 s = 1 ∧ cn L2 s = 1)) := by
  refine (vc66 s (some ⟨b1, 0, none⟩) (some ⟨b2, 0, none⟩) w (TellsV w (cn L1 s = 1 ∧ cn L2 s = 1)) ?_).mono fun e w' => tells_of
  unfold vcP66
  refine Wif_yes rfl ⟨some m1, r1, _, h1.look s, gIf_intro (fun _ => rfl) ⟨some m2, fun _ => r2, _, fun _ => h2.look s, _, rfl, Kept.refl _ _, ?_⟩⟩
  simp only [Bool.and_eq_true, beq_iff_eq]
  omega
theorem slots_spec {w : World} {k : Nat} {S : PicS} {x : Pic} (h : LkAt w k S x) (hr : ∀ s, (s ∈ takenL x ∨ s ∈ usedL x) → -9223372036854775808 ≤ s ∧ s ≤ 9223372036854775807) (hl : (takenL x).length + (usedL x).length ≤ 1000000) : Calls Tryz.prog 23 #[pt k] w (Looks w (SlotF x)) := by
  refine (vc23 (some ⟨k, 0, none⟩) w (LooksV w (SlotF x)) ?_).mono fun e w' => looks_of
  unfold vcP23
  intro w1 e1 w2 e2 w3 e3 w4 e4
  have mt1 := map_new e1
  have k1 : Kept none' w w1 := e1 ▸ (Kept.refl _ _).allocMap _ _
  have k2 : Kept none' w1 w2 := e2 ▸ (Kept.refl _ _).allocMap _ _
  have k3 : Kept none' w2 w3 := (Kept.refl _ _).al e3
  have k4 : Kept none' w3 w4 := (Kept.refl _ _).al e4
  have mt2 := map_new e2
  have s1 : w1.heap.size = w.heap.size + 1 := by rw [e1]; simp only [World.alloc, Array.size_push]
  have s2 : w2.heap.size = w1.heap.size + 1 := by rw [e2]; simp only [World.alloc, Array.size_push]
  have s3 : w3.heap.size = w2.heap.size + 1 := by rw [e3]; simp only [World.alloc, Array.size_push]
  have s4 : w4.heap.size = w3.heap.size + 1 := by rw [e4]; simp only [World.alloc, Array.size_push]
  have ob1 := own_alloc (c := [.map none]) e3
  have ob2 := own_alloc (c := [.map none]) e4
  have ob14 := ob1.k k4
  generalize htm : w.heap.size = tm at *
  generalize hum : w1.heap.size = um at *
  generalize hb1 : w2.heap.size = b1 at *
  generalize hb2 : w3.heap.size = b2 at *
  refine ⟨ob14.wr (by decide), fun w5 e5 => ⟨(ob2.n1 e5 (by omega)).wr (by decide), fun w6 e6 => ?_⟩⟩
  have ob15 := ob14.s1 e5
  have ob16 : own w6 b1 [.map (some tm)] := (ob15.n1 e6 (by omega))
  have ob26 : own w6 b2 [.map (some um)] := (ob2.n1 e5 (by omega)).s1 e6
  have k14 := k1.tr (k2.tr (k3.tr k4))
  have k45 : Kept (· = b1) w4 w5 := (Kept.refl _ _).s1 e5 (.inl rfl)
  have k56 : Kept (· = b2) w5 w6 := (Kept.refl _ _).s1 e6 (.inl rfl)
  have k46 : Kept (fun b => b = b1 ∨ b = b2) w4 w6 := (k45.mono fun b _ hb => .inl hb).trans k56 fun b _ hb => .inr hb
  have k6 : Kept none' w w6 := own0 k14 k46 fun b hb => by omega
  have s6 : w6.heap.size = b2 + 1 := by rw [e6, size_st, e5, size_st, s4]
  have mt6 : MapIs w6 tm [] := (mt1.k (k2.tr (k3.tr k4))).kx k46 (by omega)
  have mu6 : MapIs w6 um [] := (mt2.k (k3.tr k4)).kx k46 (by omega)
  have ct6 : CL w6 tm [] := ⟨[], mt6, fun k => rfl, Nat.le_refl _⟩
  have cu6 : CL w6 um [] := ⟨[], mu6, fun k => rfl, Nat.le_refl _⟩
  have hP := h.P
  have hlS := hP.slots.len
  have hmS := hP.slots.lt63
  -- what is kept all the way: all old blocks, and the two boxes
  have hold : ∀ {w' : World}, Kept (fun b => b = tm ∨ b = um) w6 w' → Kept none' w w' := fun k' => own0 k6 k' fun b hb => by omega
  clear e1 e2 e3 e4 e5 e6 ob1 ob2 ob14 ob15 mt1 mt2 mt6 mu6 k45 k56 k46
  refine Wif_yes rfl ⟨S.a 8, S.l 8, S.c 8, (h.k k6).pic.sl 8 (by decide), fun n w' M => ∃ q : Nat, n = (q : Int) ∧ q ≤ x.slots.length ∧ M = x.slots.length - q ∧ Kept (fun b => b = tm ∨ b = um) w6 w' ∧ CL w' tm ((x.slots.take q).map Own.n) ∧ CL w' um [], ⟨x.slots.length, 0, rfl, by omega, rfl, Kept.refl _ _, by simpa using ct6, cu6⟩, ?_⟩
  rintro _ wl _ ⟨q, rfl, hq, rfl, kl, ct, cu⟩
  refine Wif_intro (fun hc => ?_) (fun hc => ?_)
  · have hql : q < x.slots.length := by simp at hc; omega
    obtain ⟨o, ho⟩ : ∃ o, x.slots[q]? = some o := ⟨x.slots[q], List.getElem?_eq_getElem hql⟩
    obtain ⟨cs, _, hR, hrr⟩ := hP.slots.el q o ho
    obtain rfl : cs = [vi o.n, vi o.pid, vi o.page] := hR
    have hrr : ∀ (j : Nat) (u : Value), _ → rd wl (pb (S.a 8)) (po (S.a 8) + q * 3 + j) = some u := fun j u hu => (hold kl).rd_some (hrr j u hu) id
    have hor := hr o.n (.inl (List.mem_map.2 ⟨o, List.mem_of_getElem? ho, rfl⟩))
    refine Wif_yes (hP.slots.isp (by omega)) (Wif_yes (inB_of (by omega) (by omega)) ?_)
    rw [Int.toNat_natCast]
    refine ⟨_, _, _, ⟨hrr 0 _ rfl, hrr 1 _ rfl, hrr 2 _ rfl⟩, ?_⟩
    intro v1 f1
    have o1 := own_alloc (c := [vi 0, vi 0, vi 0]) f1
    have q1 : Kept none' wl v1 := (Kept.refl _ _).al f1
    refine ⟨⟨o1.wr (by decide), o1.wr (by decide), o1.wr (by decide)⟩, ?_⟩
    intro v2 f2
    have o2 : own v2 wl.heap.size [vi o.n, vi o.pid, vi o.page] := by rw [f2]; exact ((o1.st_same).st_same).st_same
    have q12 : Kept (· = wl.heap.size) v1 v2 := by
      rw [f2]; exact (((Kept.refl (· = wl.heap.size) v1).st (.inl rfl)).st (.inl rfl)).st (.inl rfl)
    have q2 : Kept none' wl v2 := own0 q1 q12 fun b hb => by omega
    have K2 : Kept (fun b => b = tm ∨ b = um) w6 v2 := kl.trans q2 fun _ _ h => h.elim
    have ct2 := ct.k q2
    have cu2 := cu.k q2
    have hlen : ((x.slots.take q).map Own.n).length ≤ (takenL x).length := by simp [takenL]; omega
    obtain ⟨v3, hu, ct3, q3⟩ := ct2.inc o.n hor (by omega)
    refine ⟨some tm, by rw [(ob16.kx K2 (by omega)).rd]; rfl, o.n, by rw [o2.rd]; rfl, _, ct2.look o.n, v3, hu, x.slots.length - (q + 1), by omega, q + 1, by rw [wi (by omega)]; rfl, by omega, rfl, K2.trans q3 fun b _ hb => .inl hb, ?_, cu2.kx q3 (by omega)⟩
    rw [take_snoc ho, List.map_append]
    exact ct3
  have hql : q = x.slots.length := by simp at hc; omega
  subst hql
  rw [List.take_length] at ct
  clear hc hq
  -- flights
  have hlF := hP.flight.len
  have hmF := hP.flight.lt63
  refine Wif_yes rfl ⟨S.a 4, S.l 4, S.c 4, (h.k (hold kl)).pic.sl 4 (by decide), fun n w' M => ∃ q : Nat, n = (q : Int) ∧ q ≤ x.flight.length ∧ M = x.flight.length - q ∧ Kept (fun b => b = tm ∨ b = um) w6 w' ∧ CL w' tm (takenL x) ∧ CL w' um ((x.flight.take q).filter fun f => decide (f ≥ 0)), ⟨x.flight.length, 0, rfl, by omega, rfl, kl, ct, by simpa using cu⟩, ?_⟩
  clear kl ct cu wl
  rintro _ wl _ ⟨q, rfl, hq, rfl, kl, ct, cu⟩
  refine Wif_intro (fun hc => ?_) (fun hc => ?_)
  · have hql : q < x.flight.length := by simp at hc; omega
    obtain ⟨f, hf⟩ : ∃ f, x.flight[q]? = some f := ⟨x.flight[q], List.getElem?_eq_getElem hql⟩
    obtain ⟨cs, _, hR, hrr⟩ := hP.flight.el q f hf
    obtain rfl : cs = [vi f] := hR
    refine Wif_yes (hP.flight.isp (by omega)) (Wif_yes (inB_of (by omega) (by omega)) ?_)
    rw [Int.toNat_natCast]
    refine ⟨f, (hold kl).rd_some (hrr 0 _ rfl) id, Wif_intro (fun hf0 => ?_) (fun hf0 => ?_)⟩
    · have hfm : f ∈ x.flight.filter fun f => decide (f ≥ 0) := List.mem_filter.2 ⟨List.mem_of_getElem? hf, hf0⟩
      have hor := hr f (.inr (List.mem_append_left _ hfm))
      have hlen : ((x.flight.take q).filter fun f => decide (f ≥ 0)).length ≤ (usedL x).length := by
        have h1 := ((List.take_sublist q x.flight).filter (fun f => decide (f ≥ 0))).length_le
        simp only [usedL, List.length_append]
        omega
      obtain ⟨v3, hu, cu3, q3⟩ := cu.inc f hor (by omega)
      refine ⟨some um, by rw [(ob26.kx kl (by omega)).rd]; rfl, _, cu.look f, v3, hu, x.flight.length - (q + 1), by omega, q + 1, by rw [wi (by omega)]; rfl, by omega, rfl, kl.trans q3 fun b _ hb => .inr hb, ct.kx q3 (by omega), ?_⟩
      rw [take_snoc hf, List.filter_append]
      have : List.filter (fun f => decide (f ≥ 0)) [f] = [f] := by simp [hf0]
      rw [this]
      exact cu3
    · refine ⟨x.flight.length - (q + 1), by omega, q + 1, by rw [wi (by omega)]; rfl, by omega, rfl, kl, ct, ?_⟩
      rw [take_snoc hf, List.filter_append]
      have : List.filter (fun f => decide (f ≥ 0)) [f] = [] := by
        rw [List.filter_cons_of_neg (by simpa using hf0)]; rfl
      rw [this, List.append_nil]
      exact cu
  have hql : q = x.flight.length := by simp at hc; omega
  subst hql
  rw [List.take_length] at cu
  clear hc hq
  -- entries
  have hlP := hP.procs.len
  have hmP := hP.procs.lt63
  generalize hU0 : (x.flight.filter fun f => decide (f ≥ 0)) = U0 at *
  have hUsed : usedL x = U0 ++ x.procs.flatMap slotL := by rw [usedL, hU0]
  refine Wif_yes rfl ⟨S.a 5, S.l 5, S.c 5, (h.k (hold kl)).pic.sl 5 (by decide), fun n w' M => ∃ q : Nat, n = (q : Int) ∧ q ≤ x.procs.length ∧ M = x.procs.length - q ∧ Kept (fun b => b = tm ∨ b = um) w6 w' ∧ CL w' tm (takenL x) ∧ CL w' um (U0 ++ (x.procs.take q).flatMap slotL), ⟨x.procs.length, 0, rfl, by omega, rfl, kl, ct, by simpa using cu⟩, ?_⟩
  clear kl ct cu wl
  rintro _ wl _ ⟨q, rfl, hq, rfl, kl, ct, cu⟩
  refine Wif_intro (fun hc => ?_) (fun hc => ?_)
  · have hql : q < x.procs.length := by simp at hc; omega
    obtain ⟨p, hp⟩ : ∃ p, x.procs[q]? = some p := ⟨x.procs[q], List.getElem?_eq_getElem hql⟩
    have hpm := List.mem_of_getElem? hp
    obtain ⟨cs, hcs, hRx, hrr⟩ := hP.procs.el q p hp
    obtain ⟨a1, l1, c1, a2, l2, c2, a3, l3, c3, a4, l4, c4, rfl, hx1, hx2, hx3, hx4⟩ := hRx
    have hrr : ∀ (j : Nat) (u : Value), _ → rd wl (pb (S.a 5)) (po (S.a 5) + q * 6 + j) = some u := fun j u hu => (hold kl).rd_some (hrr j u hu) id
    refine Wif_yes (hP.procs.isp (by omega)) (Wif_yes (inB_of (by omega) (by omega)) ?_)
    rw [Int.toNat_natCast]
    refine ⟨_, _, _, _, _, _, _, _, _, _, _, _, _, _, ⟨hrr 0 _ rfl, hrr 1 _ rfl, hrr 2 _ rfl, hrr 3 _ rfl, hrr 4 _ rfl, hrr 5 _ rfl⟩, ?_⟩
    intro v1 f1
    have o1 := own_alloc (c := [vi 0, vi 0, .slice none 0 0, .slice none 0 0, .slice none 0 0, .slice none 0 0]) f1
    have q1 : Kept none' wl v1 := (Kept.refl _ _).al f1
    refine ⟨⟨o1.wr (by decide), o1.wr (by decide), o1.wr (by decide), o1.wr (by decide), o1.wr (by decide), o1.wr (by decide)⟩, ?_⟩
    intro v2 f2
    have o2 : own v2 wl.heap.size [vi p.pid, vi p.root, .slice a1 l1 c1, .slice a2 l2 c2, .slice a3 l3 c3, .slice a4 l4 c4] := by
      rw [f2]; exact (((((o1.st_same).st_same).st_same).st_same).st_same).st_same
    have q12 : Kept (· = wl.heap.size) v1 v2 := by
      rw [f2]; exact ((((((Kept.refl (· = wl.heap.size) v1).st (.inl rfl)).st (.inl rfl)).st (.inl rfl)).st (.inl rfl)).st (.inl rfl)).st (.inl rfl)
    have q2 : Kept none' wl v2 := own0 q1 q12 fun b hb => by omega
    have K2 : Kept (fun b => b = tm ∨ b = um) w6 v2 := kl.trans q2 fun _ _ h => h.elim
    have hx2l := hx2.len
    have hx2m := hx2.lt63
    have e4 : (x.procs.take (q + 1)).flatMap slotL = (x.procs.take q).flatMap slotL ++ slotL p := fm_take hp
    have hle := fm_len (f := slotL) x.procs (q + 1)
    rw [e4, List.length_append] at hle
    have hUl : (usedL x).length = U0.length + (x.procs.flatMap slotL).length := by rw [hUsed, List.length_append]
    refine ⟨a2, l2, c2, by rw [o2.rd]; rfl, fun n w' M => ∃ i : Nat, n = (i : Int) ∧ i ≤ p.pages.length ∧ M = p.pages.length - i ∧ Kept (fun b => b = tm ∨ b = um) w6 w' ∧ CL w' tm (takenL x) ∧ CL w' um (U0 ++ (x.procs.take q).flatMap slotL ++ ((p.pages.take i).filter fun m => decide (m.kind = 2)).map Mapped.n), ⟨p.pages.length, 0, rfl, by omega, rfl, K2, ct.k q2, by simpa using cu.k q2⟩, ?_⟩
    rintro _ v3 _ ⟨i, rfl, hi, rfl, kl3, ct3, cu3⟩
    refine Wif_intro (fun hc3 => ?_) (fun hc3 => ?_)
    · have hil : i < p.pages.length := by simp at hc3; omega
      obtain ⟨m, hm⟩ : ∃ m, p.pages[i]? = some m := ⟨p.pages[i], List.getElem?_eq_getElem hil⟩
      obtain ⟨cs', _, hR', hr'⟩ := (hx2.k RMapped.stab (hold kl3)).el i m hm
      obtain rfl : cs' = [vi m.page, .int .u8 m.kind, vi m.n] := hR'
      refine Wif_yes (hx2.isp (by omega)) (Wif_yes (inB_of (by omega) (by omega)) ?_)
      rw [Int.toNat_natCast]
      refine ⟨_, _, _, ⟨hr' 0 _ rfl, hr' 1 _ rfl, hr' 2 _ rfl⟩, ?_⟩
      intro v4 f4
      have o4 := own_alloc (c := [vi 0, .int .u8 0, vi 0]) f4
      have q4 : Kept none' v3 v4 := (Kept.refl _ _).al f4
      refine ⟨⟨o4.wr (by decide), o4.wr (by decide), o4.wr (by decide)⟩, ?_⟩
      intro v5 f5
      have o5 : own v5 v3.heap.size [vi m.page, .int .u8 m.kind, vi m.n] := by rw [f5]; exact ((o4.st_same).st_same).st_same
      have q45 : Kept (· = v3.heap.size) v4 v5 := by
        rw [f5]; exact (((Kept.refl (· = v3.heap.size) v4).st (.inl rfl)).st (.inl rfl)).st (.inl rfl)
      have q5 : Kept none' v3 v5 := own0 q4 q45 fun b hb => by omega
      have K5 : Kept (fun b => b = tm ∨ b = um) w6 v5 := kl3.trans q5 fun _ _ h => h.elim
      have e5 := take_snoc hm
      refine ⟨m.kind, by rw [o5.rd]; rfl, Wif_intro (fun hk => ?_) (fun hk => ?_)⟩
      · have hk : m.kind = 2 := by simpa using hk
        have hmm : m.n ∈ slotL p := List.mem_map.2 ⟨m, List.mem_filter.2 ⟨List.mem_of_getElem? hm, by simpa using hk⟩, rfl⟩
        have hor := hr m.n (.inr (by rw [hUsed]; exact List.mem_append_right _ (List.mem_flatMap.2 ⟨p, hpm, hmm⟩)))
        have hfl := ((List.take_sublist i p.pages).filter (fun m => decide (m.kind = 2))).length_le
        have hsl : (slotL p).length = (p.pages.filter fun m => decide (m.kind = 2)).length := by simp [slotL]
        obtain ⟨v6, hu, cu6, q6⟩ := (cu3.k q5).inc m.n hor (by simp only [List.length_append, List.length_map]; omega)
        refine ⟨some um, by rw [(ob26.kx K5 (by omega)).rd]; rfl, m.n, by rw [o5.rd]; rfl, _, (cu3.k q5).look m.n, v6, hu, p.pages.length - (i + 1), by omega, i + 1, by rw [wi (by omega)]; rfl, by omega, rfl, K5.trans q6 fun b _ hb => .inr hb, (ct3.k q5).kx q6 (by omega), ?_⟩
        rw [e5, List.filter_append, List.map_append]
        have : List.filter (fun m => decide (m.kind = 2)) [m] = [m] := by simp [hk]
        rw [this, ← List.append_assoc]
        exact cu6
      · have hk : ¬ m.kind = 2 := by simpa using hk
        refine ⟨p.pages.length - (i + 1), by omega, i + 1, by rw [wi (by omega)]; rfl, by omega, rfl, K5, ct3.k q5, ?_⟩
        rw [e5, List.filter_append, List.map_append]
        have : List.filter (fun m => decide (m.kind = 2)) [m] = [] := by simp [hk]
        rw [this]
        simpa using cu3.k q5
    · have hil : i = p.pages.length := by simp at hc3; omega
      subst hil
      rw [List.take_length] at cu3
      refine ⟨x.procs.length - (q + 1), by omega, q + 1, by rw [wi (by omega)]; rfl, by omega, rfl, kl3, ct3, ?_⟩
      rw [e4, ← List.append_assoc]
      exact cu3
  have hql : q = x.procs.length := by simp at hc; omega
  subst hql
  rw [List.take_length, ← hUsed] at cu
  clear hc hq
  -- the keys
  intro v1 f1
  have q1 : Kept none' wl v1 := (Kept.refl _ _).dr f1
  have K1 : Kept (fun b => b = tm ∨ b = um) w6 v1 := kl.trans q1 fun _ _ h => h.elim
  have ct1 := ct.k q1
  have cu1 := cu.k q1
  have r1 := ob16.kx K1 (by omega)
  have r2 := ob26.kx K1 (by omega)
  have hb1l := r1.lt
  have hb2l := r2.lt
  refine ⟨some tm, by rw [r1.rd]; rfl, some um, by rw [r2.rd]; rfl, (keys_call (some tm) v1).mono ?_⟩
  rintro _ v2 ⟨rfl, f2⟩
  have q2 : Kept none' v1 v2 := (Kept.refl _ _).al f2
  have o2 := own_alloc (c := [.map (some tm)]) f2
  refine ⟨_, rfl, ⟨by rw [(r2.k q2).rd]; rfl, trivial⟩, ?_⟩
  obtain ⟨M1, hM1, hM1l, hM1k⟩ := (ct1.k q2).keys
  refine (collect_keys hM1 (by omega) o2).mono ?_
  rintro _ v3 ⟨ca, cl, cc, ks1, rfl, hp1, row1, q3⟩
  have q13 := q2.tr q3
  refine ⟨ca, cl, cc, rfl, ⟨by rw [(r2.k q13).rd]; rfl, trivial⟩, (keys_call (some um) v3).mono ?_⟩
  rintro _ v4 ⟨rfl, f4⟩
  have q4 : Kept none' v3 v4 := (Kept.refl _ _).al f4
  have o4 := own_alloc (c := [.map (some um)]) f4
  obtain ⟨M2, hM2, hM2l, hM2k⟩ := (cu1.k (q13.tr q4)).keys
  refine ⟨_, rfl, (collect_keys hM2 (by omega) o4).mono ?_⟩
  rintro _ v5 ⟨da, dl, dc, ks2, rfl, hp2, row2, q5⟩
  refine ⟨da, dl, dc, rfl, fun v6 f6 => ?_⟩
  have q6 : Kept none' v5 v6 := (Kept.refl _ _).al f6
  have o6 := own_alloc (c := [.slice ca cl cc, .slice da dl dc]) f6
  have q36 := q4.tr (q5.tr q6)
  have hks1 : ks1.length ≤ (takenL x).length := by rw [hp1.length_eq, List.length_map]; exact hM1l
  have hks2 : ks2.length ≤ (usedL x).length := by rw [hp2.length_eq, List.length_map]; exact hM2l
  have hs3 := q3.sz
  have row16 : RowI v6 v2.heap.size ca cl cc ks1 := row1.k q36
  have row26 : RowI v6 v2.heap.size da dl dc ks2 := by
    have h1 := row2.k q6
    exact ⟨h1.1, ownsRow_base_a h1.2 (by have := q4.sz; omega)⟩
  refine (concat_rows row16 row26 o6 (by omega)).mono ?_
  rintro _ v7 ⟨ea, el, ec, rfl, row7, q7⟩
  have q17 := q13.tr (q36.tr q7)
  have hbase : v1.heap.size ≤ v6.heap.size := (q13.tr q36).sz
  refine ⟨ea, el, ec, rfl, ?_⟩
  have hrow7 : ∀ b, (Value.slice ea el ec).ownBlock = some b → v6.heap.size ≤ b := fun b hb => by
    obtain ⟨rfl, r⟩ := row7
    exact (r.lt b hb).1
  have htl := ct1.lt
  have hul := cu1.lt
  refine (delete_row (P := fun s => cn (takenL x) s = 1 ∧ cn (usedL x) s = 1) row7 (by rw [List.length_append]; omega) fun s v8 q8 => ?_).mono ?_
  · have hx : ∀ b, b < v1.heap.size → (Value.slice ea el ec).ownBlock ≠ some b := fun b hb e => by have := hrow7 b e; omega
    exact c66_spec ((ct1.k q17).kx q8 (hx tm htl)) ((cu1.k q17).kx q8 (hx um hul)) (by rw [((r1.k q17).kx q8 (hx b1 hb1l)).rd]; rfl) (by rw [((r2.k q17).kx q8 (hx b2 hb2l)).rd]; rfl) s
  · rintro _ v8 ⟨l', ys, rfl, row8, hyl, hys, q8⟩
    refine ⟨ea, l', ec, rfl, ea, l', ec, ys, rfl, own0 (hold (K1.trans q17 fun _ _ h => h.elim)) q8 fun b hb => ?_, ⟨row8.1, ownsRow_base_a row8.2 ?_⟩, ?_, fun n => ?_⟩
    · have := hrow7 b hb
      have := (hold K1).sz
      omega
    · have := (hold K1).sz
      omega
    · rw [List.length_append] at hyl; omega
    · rw [hys n, List.mem_append]
      unfold SlotF
      rw [hp1.mem_iff, hp2.mem_iff, hM1k n, hM2k n]
end Go.Proofs.YtikjgeenhbnkkaaGreatDoor
