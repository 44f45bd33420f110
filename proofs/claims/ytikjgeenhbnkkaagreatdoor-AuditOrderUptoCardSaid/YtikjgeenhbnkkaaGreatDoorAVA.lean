/-
  A part of a proof that a law of this seat returns true at every input. Conditions: those in each theorem.
-/
import Derived.Test.YtikjgeenhbnkkaaGreatDoorA0
import Derived.Test.YtikjgeenhbnkkaaGreatDoorAG3
set_option linter.unusedVariables false
set_option maxRecDepth 100000
namespace Go.Proofs.YtikjgeenhbnkkaaGreatDoor
open Go Go.Eng
open Go.Value (slice)
/- (*byre/audit.looker).slots -/
def vcP23 (k : Option Addr) (w : World) (K : Value → World → Prop) : Prop := ∀ (w' : World), w' = World.alloc w (Obj.map #[] 0) → ∀ (w'_1 : World), w'_1 = World.alloc w' (Obj.map #[] 0) → ∀ (w'_2 : World), w'_2 = World.alloc w'_1 (Obj.cells #[Value.map none] 99) → ∀ (w'_3 : World), w'_3 = World.alloc w'_2 (Obj.cells #[Value.map none] 99) → wr w'_3 w'_1.heap.size 0 ∧ ∀ (w'_4 : World), w'_4 = st w'_3 w'_1.heap.size 0 (Value.map (some w.heap.size)) → wr w'_4 w'_2.heap.size 0 ∧ ∀ (w'_5 : World), w'_5 = st w'_4 w'_2.heap.size 0 (Value.map (some w'.heap.size)) → Wif (isP k) (∃ (x : Option Addr) (x_1 x_2 : Nat), rd w'_5 (pb k) (po k + 102) = some (.slice x x_1 x_2) ∧ ∃ (I : Int → World → Nat → Prop), (∃ (n : Nat), I 0 w'_5 n) ∧ ∀ (n : Int) (w' : World) (n_1 : Nat), I n w' n_1 → Wif (decide (n < (↑x_1 : Int))) (Wif (isP x) (Wif (inB n x_1) (∃ (x_3 x_4 x_5 : Int), (rd w' (pb x) (po x + Int.toNat n * 3) = some (.int .i64 x_3) ∧ rd w' (pb x) (po x + Int.toNat n * 3 + 1) = some (.int .i64 x_4) ∧ rd w' (pb x) (po x + Int.toNat n * 3 + 2) = some (.int .i64 x_5)) ∧ ∀ (w'_6 : World), w'_6 = World.alloc w' (Obj.cells #[Value.int .i64 0, Value.int .i64 0, Value.int .i64 0] 63) → (wr w'_6 w'.heap.size 0 ∧ wr w'_6 w'.heap.size 1 ∧ wr w'_6 w'.heap.size 2) ∧ ∀ (w'_7 : World), w'_7 = st (st (st w'_6 w'.heap.size 0 (Value.int .i64 x_3)) w'.heap.size 1 (Value.int .i64 x_4)) w'.heap.size 2 (Value.int .i64 x_5) → ∃ (x : Option Nat), rd w'_7 w'_1.heap.size 0 = some (.map x) ∧ ∃ (x_6 : Int), rd w'_7 w'.heap.size 0 = some (.int .i64 x_6) ∧ ∃ (x_7 : Int), lookIs Tryz.prog 99 (Value.map x) (Value.int .i64 x_6) false (Value.int .i64 x_7) w'_7 ∧ ∃ (w' : World), updIs Tryz.prog 99 (Value.map x) (Value.int .i64 x_6) (Value.int .i64 (IntKind.wrap .i64 (x_7 + 1))) w'_7 w' ∧ ∃ (m : Nat), Nat.succ m ≤ n_1 ∧ I (IntKind.wrap .i64 (n + 1)) w' m) False) False) (Wif (isP k) (∃ (x : Option Addr) (x_3 x_4 : Nat), rd w' (pb k) (po k + 98) = some (.slice x x_3 x_4) ∧ ∃ (I : Int → World → Nat → Prop), (∃ (n : Nat), I 0 w' n) ∧ ∀ (n : Int) (w' : World) (n_2 : Nat), I n w' n_2 → Wif (decide (n < (↑x_3 : Int))) (Wif (isP x) (Wif (inB n x_3) (∃ (x_5 : Int), rd w' (pb x) (po x + Int.toNat n * 1) = some (.int .i64 x_5) ∧ Wif (decide (x_5 ≥ 0)) (∃ (x : Option Nat), rd w' w'_2.heap.size 0 = some (.map x) ∧ ∃ (x_6 : Int), lookIs Tryz.prog 99 (Value.map x) (Value.int .i64 x_5) false (Value.int .i64 x_6) w' ∧ ∃ (w'_6 : World), updIs Tryz.prog 99 (Value.map x) (Value.int .i64 x_5) (Value.int .i64 (IntKind.wrap .i64 (x_6 + 1))) w' w'_6 ∧ ∃ (m : Nat), Nat.succ m ≤ n_2 ∧ I (IntKind.wrap .i64 (n + 1)) w'_6 m) (∃ (m : Nat), Nat.succ m ≤ n_2 ∧ I (IntKind.wrap .i64 (n + 1)) w' m)) False) False) (Wif (isP k) (∃ (x : Option Addr) (x_5 x_6 : Nat), rd w' (pb k) (po k + 99) = some (.slice x x_5 x_6) ∧ ∃ (I : Int → World → Nat → Prop), (∃ (n : Nat), I 0 w' n) ∧ ∀ (n : Int) (w' : World) (n_3 : Nat), I n w' n_3 → Wif (decide (n < (↑x_5 : Int))) (Wif (isP x) (Wif (inB n x_5) (∃ (x_7 x_8 : Int) (x_9 : Option Addr) (x_10 x_11 : Nat) (x_12 : Option Addr) (x_13 x_14 : Nat) (x_15 : Option Addr) (x_16 x_17 : Nat) (x_18 : Option Addr) (x_19 x_20 : Nat), (rd w' (pb x) (po x + Int.toNat n * 6) = some (.int .i64 x_7) ∧ rd w' (pb x) (po x + Int.toNat n * 6 + 1) = some (.int .i64 x_8) ∧ rd w' (pb x) (po x + Int.toNat n * 6 + 2) = some (.slice x_9 x_10 x_11) ∧ rd w' (pb x) (po x + Int.toNat n * 6 + 3) = some (.slice x_12 x_13 x_14) ∧ rd w' (pb x) (po x + Int.toNat n * 6 + 4) = some (.slice x_15 x_16 x_17) ∧ rd w' (pb x) (po x + Int.toNat n * 6 + 5) = some (.slice x_18 x_19 x_20)) ∧ ∀ (w'_6 : World), w'_6 = World.alloc w' (Obj.cells #[Value.int .i64 0, Value.int .i64 0, slice none 0 0, slice none 0 0, slice none 0 0, slice none 0 0] 48) → (wr w'_6 w'.heap.size 0 ∧ wr w'_6 w'.heap.size 1 ∧ wr w'_6 w'.heap.size 2 ∧ wr w'_6 w'.heap.size 3 ∧ wr w'_6 w'.heap.size 4 ∧ wr w'_6 w'.heap.size 5) ∧ ∀ (w'_7 : World), w'_7 = st (st (st (st (st (st w'_6 w'.heap.size 0 (Value.int .i64 x_7)) w'.heap.size 1 (Value.int .i64 x_8)) w'.heap.size 2 (slice x_9 x_10 x_11)) w'.heap.size 3 (slice x_12 x_13 x_14)) w'.heap.size 4 (slice x_15 x_16 x_17)) w'.heap.size 5 (slice x_18 x_19 x_20) → ∃ (x : Option Addr) (x_21 x_22 : Nat), rd w'_7 w'.heap.size 3 = some (.slice x x_21 x_22) ∧ ∃ (I_1 : Int → World → Nat → Prop), (∃ (n : Nat), I_1 0 w'_7 n) ∧ ∀ (n_4 : Int) (w' : World) (n_5 : Nat), I_1 n_4 w' n_5 → Wif (decide (n_4 < (↑x_21 : Int))) (Wif (isP x) (Wif (inB n_4 x_21) (∃ (x_23 x_24 x_25 : Int), (rd w' (pb x) (po x + Int.toNat n_4 * 3) = some (.int .i64 x_23) ∧ rd w' (pb x) (po x + Int.toNat n_4 * 3 + 1) = some (.int .u8 x_24) ∧ rd w' (pb x) (po x + Int.toNat n_4 * 3 + 2) = some (.int .i64 x_25)) ∧ ∀ (w'_8 : World), w'_8 = World.alloc w' (Obj.cells #[Value.int .i64 0, Value.int .u8 0, Value.int .i64 0] 52) → (wr w'_8 w'.heap.size 0 ∧ wr w'_8 w'.heap.size 1 ∧ wr w'_8 w'.heap.size 2) ∧ ∀ (w'_9 : World), w'_9 = st (st (st w'_8 w'.heap.size 0 (Value.int .i64 x_23)) w'.heap.size 1 (Value.int .u8 x_24)) w'.heap.size 2 (Value.int .i64 x_25) → ∃ (x : Int), rd w'_9 w'.heap.size 1 = some (.int .u8 x) ∧ Wif (x == 2) (∃ (x : Option Nat), rd w'_9 w'_2.heap.size 0 = some (.map x) ∧ ∃ (x_26 : Int), rd w'_9 w'.heap.size 2 = some (.int .i64 x_26) ∧ ∃ (x_27 : Int), lookIs Tryz.prog 99 (Value.map x) (Value.int .i64 x_26) false (Value.int .i64 x_27) w'_9 ∧ ∃ (w' : World), updIs Tryz.prog 99 (Value.map x) (Value.int .i64 x_26) (Value.int .i64 (IntKind.wrap .i64 (x_27 + 1))) w'_9 w' ∧ ∃ (m : Nat), Nat.succ m ≤ n_5 ∧ I_1 (IntKind.wrap .i64 (n_4 + 1)) w' m) (∃ (m : Nat), Nat.succ m ≤ n_5 ∧ I_1 (IntKind.wrap .i64 (n_4 + 1)) w'_9 m)) False) False) (∃ (m : Nat), Nat.succ m ≤ n_3 ∧ I (IntKind.wrap .i64 (n + 1)) w' m)) False) False) (∀ (w1 : World), w1 = World.drew w' → ∃ (x : Option Nat), rd w1 w'_1.heap.size 0 = some (.map x) ∧ ∃ (x_7 : Option Nat), rd w1 w'_2.heap.size 0 = some (.map x_7) ∧ Calls Tryz.prog 64 #[Value.map x] w1 fun (e : Ending) (w' : World) => ∃ (v : Value), e = Ending.returned v ∧ (rd w' w'_2.heap.size 0 = some (.map x_7) ∧ True) ∧ Calls Tryz.prog 63 #[v] w' fun (e : Ending) (w' : World) => ∃ (a : Option Addr) (l c : Nat), e = Ending.returned (slice a l c) ∧ (rd w' w'_2.heap.size 0 = some (.map x_7) ∧ True) ∧ Calls Tryz.prog 64 #[Value.map x_7] w' fun (e : Ending) (w' : World) => ∃ (v : Value), e = Ending.returned v ∧ Calls Tryz.prog 63 #[v] w' fun (e : Ending) (w' : World) => ∃ (a_1 : Option Addr) (l_1 c_1 : Nat), e = Ending.returned (slice a_1 l_1 c_1) ∧ ∀ (w'_6 : World), w'_6 = World.alloc w' (Obj.cells #[slice a l c, slice a_1 l_1 c_1] 31) → Calls Tryz.prog 62 #[slice (some (Addr.mk w'.heap.size 0 none)) 2 2] w'_6 fun (e : Ending) (w' : World) => ∃ (a : Option Addr) (l c : Nat), e = Ending.returned (slice a l c) ∧ Calls Tryz.prog 65 #[slice a l c, Value.func (Fn.func 66) #[] #[Value.pointer (some (Addr.mk w'_1.heap.size 0 none)), Value.pointer (some (Addr.mk w'_2.heap.size 0 none))]] w' fun (e : Ending) (w' : World) => ∃ (a : Option Addr) (l c : Nat), e = Ending.returned (slice a l c) ∧ K (slice a l c) w')) False)) False)) False
theorem vcE23 (k : Option Addr) (w : World) (K : Value → World → Prop) : vcP23 k w K = Eng.wBody Tryz.prog (Eng.handOf Tryz.prog [] 1) [] Tryz.f23 (Eng.bodyOf Tryz.f23) [Value.pointer k] w K := by kernel_rfl
theorem vc23 (k : Option Addr) (w : World) (K : Value → World → Prop) (h : vcP23 k w K) : Calls Tryz.prog 23 #[Value.pointer k] w (fun e w' => ∃ v, e = .returned v ∧ K v w') := Eng.vc_of [] 1 [] Tryz.mixes Tryz.func23 (by kernel_rfl) (by kernel_rfl) (vcE23 k w K) h
/- (*byre/audit.looker).clocks -/
def vcP24 (k : Option Addr) (w : World) (K : Value → World → Prop) : Prop := Wif (isP k) (∃ (x : Option Addr) (x_1 x_2 : Nat), rd w (pb k) (po k + 101) = some (.slice x x_1 x_2) ∧ ∃ (I : Option Addr → Nat → Nat → Int → World → Nat → Prop), (∃ (n : Nat), I none 0 0 0 w n) ∧ ∀ (a : Option Addr) (l c : Nat) (n : Int) (w' : World) (n_1 : Nat), I a l c n w' n_1 → Wif (decide (n < (↑x_1 : Int))) (Wif (isP x) (Wif (inB n x_1) (∃ (x_3 : Option Addr) (x_4 x_5 : Nat), rd w' (pb x) (po x + Int.toNat n * 1) = some (.slice x_3 x_4 x_5) ∧ Wif (isP k) (∃ (x : Option Addr) (x_6 x_7 : Nat), rd w' (pb k) (po k + 100) = some (.slice x x_6 x_7) ∧ ∃ (I_1 : Option Addr → Nat → Nat → Int → World → Nat → Prop), (∃ (n : Nat), I_1 none 0 0 0 w' n) ∧ ∀ (a_1 : Option Addr) (l_1 c_1 : Nat) (n_2 : Int) (w' : World) (n_3 : Nat), I_1 a_1 l_1 c_1 n_2 w' n_3 → Wif (decide (n_2 < (↑x_6 : Int))) (Wif (isP x) (Wif (inB n_2 x_6) (∃ (x_8 x_9 x_10 : Int), (rd w' (pb x) (po x + Int.toNat n_2 * 3) = some (.int .i64 x_8) ∧ rd w' (pb x) (po x + Int.toNat n_2 * 3 + 1) = some (.int .i64 x_9) ∧ rd w' (pb x) (po x + Int.toNat n_2 * 3 + 2) = some (.int .i64 x_10)) ∧ ∀ (w'_1 : World), w'_1 = World.alloc w' (Obj.cells #[Value.int .i64 0, Value.int .i64 0, Value.int .i64 0] 63) → (wr w'_1 w'.heap.size 0 ∧ wr w'_1 w'.heap.size 1 ∧ wr w'_1 w'.heap.size 2) ∧ ∀ (w'_2 : World), w'_2 = st (st (st w'_1 w'.heap.size 0 (Value.int .i64 x_8)) w'.heap.size 1 (Value.int .i64 x_9)) w'.heap.size 2 (Value.int .i64 x_10) → ∀ (w1 : World), w1 = World.drew w'_2 → Wif (isP k) (∃ (x : Nat → Int), rdAll w1 (pb k) (po k) (runI .i64 x 0 94) ∧ ∃ (x_11 : Int), rd w1 w'.heap.size 0 = some (.int .i64 x_11) ∧ Calls Tryz.prog 67 #[Value.agg (List.toArray (runI .i64 x 0 94)), Value.int .i64 x_11] w1 fun (e : Ending) (w'_3 : World) => ∃ (n_4 n_5 : Int), e = Ending.returned (Value.tuple #[Value.int .i64 n_4, Value.int .i64 n_5]) ∧ Wif (n_4 == n) (∃ (x : Int), rd w'_3 w'.heap.size 0 = some (.int .i64 x) ∧ ∀ (w' : World), w' = World.alloc w'_3 (Obj.cells #[Value.int .i64 x] 3) → ∃ (a : Option Addr) (l c : Nat) (w'_4 : World), appIs Tryz.prog #[31, 31] 31 (slice a_1 l_1 c_1) (slice (some (Addr.mk w'_3.heap.size 0 none)) 1 1) (slice a l c) w' w'_4 ∧ ∃ (m : Nat), Nat.succ m ≤ n_3 ∧ I_1 a l c (IntKind.wrap .i64 (n_2 + 1)) w'_4 m) (∃ (m : Nat), Nat.succ m ≤ n_3 ∧ I_1 a_1 l_1 c_1 (IntKind.wrap .i64 (n_2 + 1)) w'_3 m)) False) False) False) (Calls Tryz.prog 28 #[slice a_1 l_1 c_1] w' fun (e : Ending) (w' : World) => e = Ending.returned (Value.tuple #[]) ∧ Calls Tryz.prog 70 #[slice x_3 x_4 x_5] w' fun (e : Ending) (w' : World) => ∃ (v : Value), e = Ending.returned v ∧ Calls Tryz.prog 69 #[v] w' fun (e : Ending) (w' : World) => ∃ (a_2 : Option Addr) (l_2 c_2 : Nat), e = Ending.returned (slice a_2 l_2 c_2) ∧ Calls Tryz.prog 68 #[slice a_1 l_1 c_1, slice a_2 l_2 c_2] w' fun (e : Ending) (w' : World) => ∃ (b : Bool), e = Ending.returned (Value.bool b) ∧ Wif (!b) (∀ (w'_1 : World), w'_1 = World.alloc w' (Obj.cells #[Value.int .i64 n] 3) → ∃ (a_3 : Option Addr) (l_3 c_3 : Nat) (w'_2 : World), appIs Tryz.prog #[31, 31] 31 (slice a l c) (slice (some (Addr.mk w'.heap.size 0 none)) 1 1) (slice a_3 l_3 c_3) w'_1 w'_2 ∧ ∃ (m : Nat), Nat.succ m ≤ n_1 ∧ I a_3 l_3 c_3 (IntKind.wrap .i64 (n + 1)) w'_2 m) (∃ (m : Nat), Nat.succ m ≤ n_1 ∧ I a l c (IntKind.wrap .i64 (n + 1)) w' m))) False) False) False) (K (slice a l c) w')) False
theorem vcE24 (k : Option Addr) (w : World) (K : Value → World → Prop) : vcP24 k w K = Eng.wBody Tryz.prog (Eng.handOf Tryz.prog [] 1) [] Tryz.f24 (Eng.bodyOf Tryz.f24) [Value.pointer k] w K := by kernel_rfl
theorem vc24 (k : Option Addr) (w : World) (K : Value → World → Prop) (h : vcP24 k w K) : Calls Tryz.prog 24 #[Value.pointer k] w (fun e w' => ∃ v, e = .returned v ∧ K v w') := Eng.vc_of [] 1 [] Tryz.mixes Tryz.func24 (by kernel_rfl) (by kernel_rfl) (vcE24 k w K) h
end Go.Proofs.YtikjgeenhbnkkaaGreatDoor
set_option linter.unusedSimpArgs false
set_option linter.unusedVariables false
set_option maxRecDepth 100000
namespace Go.Proofs.YtikjgeenhbnkkaaGreatDoor
open Go Eng
def PinB (x : Pic) (p : Proc) (q : Int) : Prop := ¬ ∃ m ∈ p.pages, m.page = q ∧ m.kind = 1
def PinP (x : Pic) (p : Proc) (n : Int) : Prop := n = p.pid ∧ x.holders[(p.pid - 1).toNat]? = some (-1) ∧ ∃ q ∈ p.pinned, PinB x p q
def PinF (x : Pic) (n : Int) : Prop := ∃ p ∈ x.procs, PinP x p n
theorem pins_spec {w : World} {k : Nat} {S : PicS} {x : Pic} (h : LkAt w k S x) (hpid : ∀ p ∈ x.procs, 1 ≤ p.pid ∧ p.pid ≤ 8) (hh : 9 ≤ x.holders.length) (hl : (x.procs.flatMap Proc.pinned).length ≤ 1000000) : Calls Tryz.prog 26 #[pt k] w (Looks w (PinF x)) := by
  refine (vc26 (some ⟨k, 0, none⟩) w (LooksV w (PinF x)) ?_).mono fun e w' => looks_of
  unfold vcP26
  have hP := h.P
  have hlen := hP.procs.len
  have h63 := hP.procs.lt63
  have hhl := hP.holders.len
  refine Wif_yes rfl ⟨S.a 5, S.l 5, S.c 5, h.pic.sl 5 (by decide), fun a l c n w' M => ∃ (q : Nat) (xs : List Int), n = (q : Int) ∧ q ≤ x.procs.length ∧ M = x.procs.length - q ∧ Kept none' w w' ∧ RowI w' w.heap.size a l c xs ∧ xs.length ≤ ((x.procs.take q).flatMap Proc.pinned).length ∧ Found x.procs q (PinP x) xs, ⟨x.procs.length, 0, [], rfl, by omega, rfl, Kept.refl _ _, RowI.nil', by simp, Found.zero⟩, ?_⟩
  rintro a l c _ wl _ ⟨q, xs, rfl, hq, rfl, kl, row, hxl, hxs⟩
  refine Wif_intro (fun hc => ?_) (fun hc => ?_)
  · have hql : q < x.procs.length := by simp at hc; omega
    obtain ⟨p, hp⟩ : ∃ p, x.procs[q]? = some p := ⟨x.procs[q], List.getElem?_eq_getElem hql⟩
    have hpm := List.mem_of_getElem? hp
    have hpp := hpid p hpm
    have hs := hP.procs
    obtain ⟨cs, hcs, hRx, hr⟩ := hs.el q p hp
    have hr : ∀ (j : Nat) (u : Value), cs[j]? = some u → rd wl (pb (S.a 5)) (po (S.a 5) + q * 6 + j) = some u := fun j u hu => kl.rd_some (hr j u hu) id
    obtain ⟨a1, l1, c1, a2, l2, c2, a3, l3, c3, a4, l4, c4, rfl, hx1, hx2, hx3, hx4⟩ := hRx
    refine Wif_yes (hs.isp (by omega)) (Wif_yes (inB_of (by omega) (by omega)) ?_)
    rw [Int.toNat_natCast]
    refine ⟨_, _, _, _, _, _, _, _, _, _, _, _, _, _, ⟨hr 0 _ rfl, hr 1 _ rfl, hr 2 _ rfl, hr 3 _ rfl, hr 4 _ rfl, hr 5 _ rfl⟩, ?_⟩
    intro w1 e1
    have o1 := own_alloc (c := [vi 0, vi 0, .slice none 0 0, .slice none 0 0, .slice none 0 0, .slice none 0 0]) e1
    have k1 : Kept none' wl w1 := (Kept.refl _ _).al e1
    refine ⟨⟨o1.wr (by decide), o1.wr (by decide), o1.wr (by decide), o1.wr (by decide), o1.wr (by decide), o1.wr (by decide)⟩, ?_⟩
    intro w2 e2
    have o2 : own w2 wl.heap.size [vi p.pid, vi p.root, .slice a1 l1 c1, .slice a2 l2 c2, .slice a3 l3 c3, .slice a4 l4 c4] := by
      rw [e2]; exact (((((o1.st_same).st_same).st_same).st_same).st_same).st_same
    have k12 : Kept (· = wl.heap.size) w1 w2 := by
      rw [e2]; exact ((((((Kept.refl (· = wl.heap.size) w1).st (.inl rfl)).st (.inl rfl)).st (.inl rfl)).st (.inl rfl)).st (.inl rfl)).st (.inl rfl)
    have k2 : Kept none' wl w2 := own0 k1 k12 fun b hb => by omega
    intro w3 e3
    have k3 : Kept none' wl w3 := k2.dr e3
    have o3 := o2.dr e3
    have h3 := h.k (kl.tr k3)
    have e4 : (x.procs.take (q + 1)).flatMap Proc.pinned = (x.procs.take q).flatMap Proc.pinned ++ p.pinned := fm_take hp
    have hle := fm_len (f := Proc.pinned) x.procs (q + 1)
    rw [e4, List.length_append] at hle
    obtain ⟨g, hg⟩ : ∃ g, x.holders[(p.pid - 1).toNat]? = some g := ⟨x.holders[(p.pid - 1).toNat]'(by omega), List.getElem?_eq_getElem _⟩
    obtain ⟨cs', _, hR', hr'⟩ := h3.P.holders.el _ g hg
    obtain rfl : cs' = [vi g] := hR'
    refine Wif_yes rfl ⟨S.a 12, S.l 12, S.c 12, h3.pic.sl 12 (by decide), p.pid, by rw [o3.rd]; rfl, ?_⟩
    rw [wi (x := p.pid - 1) (by omega)]
    refine Wif_yes (h3.P.holders.isp (by omega)) (Wif_yes (inB_of (by omega) (by omega)) ⟨g, hr' 0 _ rfl, ?_⟩)
    refine Wif_intro (fun hne => ?_) (fun heq => ?_)
    · have hne : g ≠ -1 := by simpa using hne
      refine ⟨x.procs.length - (q + 1), by omega, q + 1, xs, by rw [wi (by omega)]; rfl, by omega, rfl, kl.tr k3, row.k k3, by rw [e4, List.length_append]; omega, hxs.step hp fun n => ⟨.inl, fun g' => g'.elim id fun g' => ?_⟩⟩
      have := g'.2.1
      rw [hg] at this
      cases this
      exact absurd rfl hne
    have heq : g = -1 := by simpa using heq
    subst heq
    have hx3l := hx3.len
    have hx3m := hx3.lt63
    have hltl := o3.lt
    have hnb : ∀ b, (Value.slice a l c).ownBlock = some b → b ≠ wl.heap.size := fun b hb => by
      obtain ⟨rfl, r⟩ := row
      have := (r.lt b hb).2; omega
    refine ⟨a3, l3, c3, by rw [o3.rd]; rfl, fun a l c n w' M => ∃ (i : Nat) (ys : List Int), n = (i : Int) ∧ i ≤ p.pinned.length ∧ M = p.pinned.length - i ∧ Kept none' w w' ∧ own w' wl.heap.size [vi p.pid, vi p.root, .slice a1 l1 c1, .slice a2 l2 c2, .slice a3 l3 c3, .slice a4 l4 c4] ∧ (∀ b, (Value.slice a l c).ownBlock = some b → b ≠ wl.heap.size) ∧ RowI w' w.heap.size a l c ys ∧ ys.length ≤ xs.length + i ∧ FoundB (fun n => n ∈ xs) p.pinned i (fun q n => n = p.pid ∧ PinB x p q) ys, ⟨p.pinned.length, 0, xs, rfl, by omega, rfl, kl.tr k3, o3, hnb, row.k k3, by omega, FoundB.zero fun n => Iff.rfl⟩, ?_⟩
    clear hnb row
    rintro a l c _ w4 _ ⟨i, ys, rfl, hi, rfl, K4, o4, hnb, row4, hyl, hys⟩
    refine Wif_intro (fun hc4 => ?_) (fun hc4 => ?_)
    · have hil : i < p.pinned.length := by simp at hc4; omega
      obtain ⟨u, hu⟩ : ∃ u, p.pinned[i]? = some u := ⟨p.pinned[i], List.getElem?_eq_getElem hil⟩
      have hx34 := hx3.k RInt.stab K4
      obtain ⟨cs2, _, hR2, hr2⟩ := hx34.el i u hu
      obtain rfl : cs2 = [vi u] := hR2
      refine Wif_yes (hx34.isp (by omega)) (Wif_yes (inB_of (by omega) (by omega)) ?_)
      rw [Int.toNat_natCast]
      refine ⟨u, hr2 0 _ rfl, ?_⟩
      intro w5 e5
      have o5 := own_alloc (c := [vi 0]) e5
      have k5 : Kept none' w4 w5 := (Kept.refl _ _).al e5
      refine ⟨o5.wr (by decide), ?_⟩
      intro w6 e6
      have o6 : own w6 w4.heap.size [vi u] := o5.s1 e6
      have k6 : Kept none' w4 w6 := own0 k5 ((Kept.refl (· = w4.heap.size) w5).s1 e6 (.inl rfl)) fun b hb => by omega
      have o46 := o4.k k6
      have K6 := K4.tr k6
      refine ⟨a2, l2, c2, by rw [o46.rd]; rfl, (contains_pin (hx2.k RMapped.stab K6) (p := u) (by rw [o6.rd]; rfl)).mono ?_⟩
      rintro _ w7 ⟨t, rfl, k7, ht⟩
      have k47 := k6.tr k7
      have o47 := o46.k k7
      refine ⟨t, rfl, Wif_intro (fun htt => ?_) (fun htf => ?_)⟩
      · have hb : PinB x p u := fun hm => by rw [ht.2 hm] at htt; cases htt
        refine ⟨p.pid, by rw [o47.rd]; rfl, fun w8 e8 => ?_⟩
        obtain ⟨a', l', c', w9, happ, row9, k9, k9', hsn⟩ := (row4.k k47).add3 (K4.tr k47) rfl e8 (by omega)
        have hs47 := k47.sz
        have h4lt := o4.lt
        refine ⟨a', l', c', w9, happ, p.pinned.length - (i + 1), by omega, i + 1, ys ++ [p.pid], by rw [wi (by omega)]; rfl, by omega, rfl, k9, o47.kx k9' fun hb => hnb _ hb rfl, fun b hb' => ?_, row9, by simp; omega, hys.step hu fun n => ?_⟩
        · rcases hsn with hsn | hsn
          · rw [hsn] at hb'; exact hnb b hb'
          · have := hsn b hb'; omega
        · rw [List.mem_append, List.mem_singleton]
          exact ⟨fun g => g.imp id fun (e : n = _) => ⟨e, hb⟩, fun g => g.imp id And.left⟩
      · have hb : ¬ PinB x p u := fun hb => hb (ht.1 (by simpa using htf))
        exact ⟨p.pinned.length - (i + 1), by omega, i + 1, ys, by rw [wi (by omega)]; rfl, by omega, rfl, K4.tr k47, o47, hnb, row4.k k47, by omega, hys.step hu fun n => ⟨.inl, fun g => g.elim id fun g => absurd g.2 hb⟩⟩
    · have hil : i = p.pinned.length := by simp at hc4; omega
      subst hil
      have hya := hys.all
      refine ⟨x.procs.length - (q + 1), by omega, q + 1, ys, by rw [wi (by omega)]; rfl, by omega, rfl, K4, row4, by rw [e4, List.length_append]; omega, hxs.step hp fun n => ?_⟩
      rw [hya n]
      constructor
      · rintro (g | ⟨u, h1, h2, h3'⟩)
        · exact .inl g
        · exact .inr ⟨h2, hg, u, h1, h3'⟩
      · rintro (g | ⟨h2, _, u, h1, h3'⟩)
        · exact .inl g
        · exact .inr ⟨u, h1, h2, h3'⟩
  · have hql : q = x.procs.length := by simp at hc; omega
    subst hql
    rw [List.take_length] at hxl
    exact ⟨a, l, c, xs, rfl, kl, row, by omega, hxs.all⟩
def nodeB (c : Nat → Int) (n : Nat) (f : Int) : Bool := decide (fstF c n ≤ f ∧ f < fstF c (n + 1))
def ownC (x : Pic) (n : Nat) : List Int := (x.frames.filter fun o => nodeB x.c n o.n).map Own.n
def ClockF (x : Pic) (n : Int) : Prop := ∃ (i : Nat) (cl : List Int), n = i ∧ x.clocks[i]? = some cl ∧ ¬ sortI (ownC x i) = sortI cl
theorem nodeB_iff {c : Nat → Int} (hm : MayP c) {i j : Nat} {f : Int} (hi : (i : Int) < c 0) (hj : (j : Int) < c 0) (h1 : fstF c i ≤ f) (h2 : f < fstF c (i + 1)) : nodeB c j f = true ↔ i = j := by
  unfold nodeB
  rw [decide_eq_true_eq]
  constructor
  · rintro ⟨g1, g2⟩
    rcases Nat.lt_trichotomy i j with h | h | h
    · have := fstF_mono hm (i := i + 1) (k := j) (by omega) (by omega); omega
    · exact h
    · have := fstF_mono hm (i := j + 1) (k := i) (by omega) (by omega); omega
  · rintro rfl
    exact ⟨h1, h2⟩
theorem clocks_spec {w : World} {k : Nat} {S : PicS} {x : Pic} (h : LkAt w k S x) (hm : MayP x.c) (hcl : (x.clocks.length : Int) = x.c 0) (hf : ∀ o ∈ x.frames, 0 ≤ o.n ∧ o.n < total x.c) (hl : x.frames.length ≤ 100000) (hl2 : ∀ cl ∈ x.clocks, cl.length ≤ 100000) : Calls Tryz.prog 24 #[pt k] w (Looks w (ClockF x)) := by
  refine (vc24 (some ⟨k, 0, none⟩) w (LooksV w (ClockF x)) ?_).mono fun e w' => looks_of
  unfold vcP24
  have hP := h.P
  have hlen := hP.clocks.len
  have hlenF := hP.frames.len
  have htr := total_rng hm
  have hc0 := hm.1
  refine Wif_yes rfl ⟨S.a 7, S.l 7, S.c 7, h.pic.sl 7 (by decide), fun a l c n w' M => ∃ (q : Nat) (xs : List Int), n = (q : Int) ∧ q ≤ x.clocks.length ∧ M = x.clocks.length - q ∧ Kept none' w w' ∧ RowI w' w.heap.size a l c xs ∧ xs.length ≤ q ∧ (∀ n, n ∈ xs ↔ ∃ (i : Nat) (cl : List Int), n = i ∧ i < q ∧ x.clocks[i]? = some cl ∧ ¬ sortI (ownC x i) = sortI cl), ⟨x.clocks.length, 0, [], rfl, by omega, rfl, Kept.refl _ _, RowI.nil', by simp, fun n => by simp⟩, ?_⟩
  rintro a l c _ wl _ ⟨q, xs, rfl, hq, rfl, kl, row, hxl, hxs⟩
  refine Wif_intro (fun hc => ?_) (fun hc => ?_)
  · have hql : q < x.clocks.length := by simp at hc; omega
    obtain ⟨cl, hcq⟩ : ∃ cl, x.clocks[q]? = some cl := ⟨x.clocks[q], List.getElem?_eq_getElem hql⟩
    obtain ⟨cs, _, hR, hr⟩ := hP.clocks.el q cl hcq
    obtain ⟨ca, cll, cc, rfl, hcr⟩ := hR
    have hcl2 := hl2 cl (List.mem_of_getElem? hcq)
    refine Wif_yes (hP.clocks.isp (by omega)) (Wif_yes (inB_of (by omega) (by omega)) ?_)
    rw [Int.toNat_natCast]
    refine ⟨ca, cll, cc, kl.rd_some (hr 0 _ rfl) id, Wif_yes rfl ⟨S.a 6, S.l 6, S.c 6, (h.k kl).pic.sl 6 (by decide), fun a1 l1 c1 n w' M => ∃ i : Nat, n = (i : Int) ∧ i ≤ x.frames.length ∧ M = x.frames.length - i ∧ Kept none' wl w' ∧ RowI w' wl.heap.size a1 l1 c1 (((x.frames.take i).filter fun o => nodeB x.c q o.n).map Own.n), ⟨x.frames.length, 0, rfl, by omega, rfl, Kept.refl _ _, by simpa using RowI.nil'⟩, ?_⟩⟩
    rintro a1 l1 c1 _ w1 _ ⟨i, rfl, hi, rfl, k1, row1⟩
    have hfl : ∀ j, (((x.frames.take j).filter fun o => nodeB x.c q o.n).map Own.n).length ≤ x.frames.length := fun j => by
      rw [List.length_map]
      have := List.length_filter_le (fun o => nodeB x.c q o.n) (x.frames.take j)
      simp at this
      omega
    refine Wif_intro (fun hc1 => ?_) (fun hc1 => ?_)
    · have hil : i < x.frames.length := by simp at hc1; omega
      obtain ⟨o, ho⟩ : ∃ o, x.frames[i]? = some o := ⟨x.frames[i], List.getElem?_eq_getElem hil⟩
      have hof := hf o (List.mem_of_getElem? ho)
      obtain ⟨cs2, _, hR2, hr2⟩ := (hP.frames.k ROwn.stab (kl.tr k1)).el i o ho
      obtain rfl : cs2 = [vi o.n, vi o.pid, vi o.page] := hR2
      refine Wif_yes (hP.frames.isp (by omega)) (Wif_yes (inB_of (by omega) (by omega)) ?_)
      rw [Int.toNat_natCast]
      refine ⟨_, _, _, ⟨hr2 0 _ rfl, hr2 1 _ rfl, hr2 2 _ rfl⟩, ?_⟩
      intro w2 e2
      have o2 := own_alloc (c := [vi 0, vi 0, vi 0]) e2
      have k2 : Kept none' w1 w2 := (Kept.refl _ _).al e2
      refine ⟨⟨o2.wr (by decide), o2.wr (by decide), o2.wr (by decide)⟩, ?_⟩
      intro w3 e3
      have o3 : own w3 w1.heap.size [vi o.n, vi o.pid, vi o.page] := by rw [e3]; exact ((o2.st_same).st_same).st_same
      have k23 : Kept (· = w1.heap.size) w2 w3 := by
        rw [e3]; exact (((Kept.refl (· = w1.heap.size) w2).st (.inl rfl)).st (.inl rfl)).st (.inl rfl)
      have k3 : Kept none' w1 w3 := own0 k2 k23 fun b hb => by omega
      intro w4 e4
      have k4 : Kept none' w1 w4 := k3.dr e4
      have o4 := o3.dr e4
      have h4 := h.k ((kl.tr k1).tr k4)
      have e1 := take_snoc ho
      refine Wif_yes rfl ⟨x.c, rdAll_of _ _ _ (fun j hj => ?_), o.n, by rw [o4.rd]; rfl, ?_⟩
      · rw [runI_len] at hj
        rw [runI_get _ _ _ _ _ hj]
        simpa using h4.pic.cf j hj
      refine (node_spec x.c hm w4 o.n (by omega)).mono ?_
      rintro r5 w5 ⟨k5, hcase⟩
      have hcase := hcase.resolve_right fun g => by
        have htE : total x.c = fstF x.c (x.c 0).toNat := rfl
        have := g.1
        omega
      obtain ⟨j, hj0, hj1, hj2, rfl⟩ := hcase
      have hiff := nodeB_iff hm (j := q) hj0 (by omega) hj1 hj2
      have k15 := k4.tr k5
      refine ⟨j, 0, rfl, Wif_intro (fun hjq => ?_) (fun hjq => ?_)⟩
      · have hjq : j = q := by simp at hjq; omega
        refine ⟨o.n, by rw [(o4.k k5).rd]; rfl, fun w6 e6 => ?_⟩
        obtain ⟨a', l', c', w7, happ, row7, k7, _⟩ := (row1.k k15).add2 (k1.tr k15) rfl e6 (by have := hfl i; omega)
        refine ⟨a', l', c', w7, happ, x.frames.length - (i + 1), by omega, i + 1, by rw [wi (by omega)]; rfl, by omega, rfl, k7, ?_⟩
        rw [e1, List.filter_append, List.map_append]
        have : (List.filter (fun o => nodeB x.c q o.n) [o]) = [o] := by simp [hiff.2 hjq]
        rw [this]
        exact row7
      · have hjq : j ≠ q := by
          intro e; subst e; simp at hjq
        refine ⟨x.frames.length - (i + 1), by omega, i + 1, by rw [wi (by omega)]; rfl, by omega, rfl, k1.tr k15, ?_⟩
        rw [e1, List.filter_append, List.map_append]
        have : (List.filter (fun o => nodeB x.c q o.n) [o]) = [] := by
          have hn : nodeB x.c q o.n = false := by
            cases hb : nodeB x.c q o.n with
            | false => rfl
            | true => exact absurd (hiff.1 hb) hjq
          simp [hn]
        rw [this]
        simpa using row1.k k15
    · have hil : i = x.frames.length := by simp at hc1; omega
      subst hil
      rw [List.take_length] at row1
      have hol : (ownC x q).length ≤ 100000 := by have := hfl x.frames.length; rw [List.take_length] at this; exact Nat.le_trans this hl
      refine (sort_row row1 (by change (ownC x q).length ≤ _; omega)).mono ?_
      rintro _ w2 ⟨rfl, row2, k2⟩
      have hk2 : Kept none' wl w2 := own0 k1 k2 fun b hb => by
        obtain ⟨rfl, r⟩ := row1
        exact (r.lt b hb).1
      refine ⟨rfl, (values_call ca cll cc w2).mono ?_⟩
      rintro _ w3 ⟨rfl, o3, k3⟩
      have hcr3 := hcr.k RInt.stab ((kl.tr hk2).tr k3)
      refine ⟨_, rfl, (sorted_values hcr3 (by rw [o3.rd]; rfl) hcl2).mono ?_⟩
      rintro _ w4 ⟨a4, l4, c4, rfl, row4, k4⟩
      refine ⟨a4, l4, c4, rfl, (equal_rows (row2.k (k3.tr k4)) row4).mono ?_⟩
      rintro _ w5 ⟨b, rfl, k5, hb⟩
      have kAll : Kept none' wl w5 := hk2.tr ((k3.tr k4).tr k5)
      have hstep : ∀ n : Int, (∃ (i : Nat) (cl : List Int), n = i ∧ i < q + 1 ∧ x.clocks[i]? = some cl ∧ ¬ sortI (ownC x i) = sortI cl) ↔ (∃ (i : Nat) (cl : List Int), n = i ∧ i < q ∧ x.clocks[i]? = some cl ∧ ¬ sortI (ownC x i) = sortI cl) ∨ (n = q ∧ ¬ sortI (ownC x q) = sortI cl) := by
        intro n
        constructor
        · rintro ⟨i, g, rfl, hi, hg, hP⟩
          rcases Nat.lt_succ_iff_lt_or_eq.1 hi with hlt | rfl
          · exact .inl ⟨i, g, rfl, hlt, hg, hP⟩
          · rw [hcq] at hg
            cases hg
            exact .inr ⟨rfl, hP⟩
        · rintro (⟨i, g, rfl, hi, hg, hP⟩ | ⟨rfl, hP⟩)
          · exact ⟨i, g, rfl, by omega, hg, hP⟩
          · exact ⟨q, cl, rfl, by omega, hcq, hP⟩
      refine ⟨b, rfl, Wif_intro (fun hbt => ?_) (fun hbf => ?_)⟩
      · have hne : ¬ sortI (ownC x q) = sortI cl := fun e => by
          have := hb.2 e
          rw [this] at hbt; cases hbt
        intro w6 e6
        obtain ⟨a', l', c', w7, happ, row7, k7, _⟩ := (row.k kAll).add2 (kl.tr kAll) rfl e6 (by omega)
        refine ⟨a', l', c', w7, happ, x.clocks.length - (q + 1), by omega, q + 1, xs ++ [(q : Int)], by rw [wi (by omega)]; rfl, by omega, rfl, k7, row7, by simp; omega, fun n => ?_⟩
        rw [hstep n, ← hxs n, List.mem_append, List.mem_singleton]
        exact ⟨fun g => g.imp id fun g => ⟨g, hne⟩, fun g => g.imp id fun g => g.1⟩
      · have he : sortI (ownC x q) = sortI cl := hb.1 (by simpa using hbf)
        refine ⟨x.clocks.length - (q + 1), by omega, q + 1, xs, by rw [wi (by omega)]; rfl, by omega, rfl, kl.tr kAll, row.k kAll, by omega, fun n => ?_⟩
        rw [hstep n, ← hxs n]
        exact ⟨.inl, fun g => g.resolve_right fun g => g.2 he⟩
  · have hql : q = x.clocks.length := by simp at hc; omega
    subst hql
    refine ⟨a, l, c, xs, rfl, kl, row, by omega, fun n => (hxs n).trans ⟨?_, ?_⟩⟩
    · rintro ⟨i, g, e, _, hg, hP⟩
      exact ⟨i, g, e, hg, hP⟩
    · rintro ⟨i, g, e, hg, hP⟩
      exact ⟨i, g, e, (List.getElem?_eq_some_iff.1 hg).1, hg, hP⟩
end Go.Proofs.YtikjgeenhbnkkaaGreatDoor
