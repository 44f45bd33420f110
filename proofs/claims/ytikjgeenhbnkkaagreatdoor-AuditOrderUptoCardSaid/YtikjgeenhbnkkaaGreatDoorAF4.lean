/-
  A part of a proof that a law of this seat returns true at every input. Conditions: those in each theorem.
-/
import Derived.Test.YtikjgeenhbnkkaaGreatDoorAF2
set_option linter.unusedSimpArgs false
set_option linter.unusedVariables false
set_option maxRecDepth 100000
namespace Go.Proofs.YtikjgeenhbnkkaaGreatDoor
open Go Eng
theorem nodup_snoc {L : List Int} {a : Int} : (L ++ [a]).Nodup ↔ L.Nodup ∧ a ∉ L := by
  rw [List.nodup_append]
  constructor
  · rintro ⟨h1, _, h3⟩
    exact ⟨h1, fun h => h3 a h a (by simp) rfl⟩
  · rintro ⟨h1, h2⟩
    exact ⟨h1, by simp, fun x hx y hy e => by
      have : y = a := by simpa using hy
      subst this; subst e; exact h2 hx⟩
section
variable {wP w0 w' : World} {S : PicS} {x : Pic} {TB om sm pm k kb n : Nat} {Z : Nat → Prop} {A : List (Int × Int)} {O L Q : List (Int × Value)}
theorem procs_tail (lk : LkIs w0 S TB om sm pm kb k n) (hP : PicR wP S x) (kP : Kept none' wP w0) (hnew : wP.heap.size ≤ TB ∧ wP.heap.size ≤ om ∧ wP.heap.size ≤ sm ∧ wP.heap.size ≤ pm)
    (hinR : ∀ p ∈ procA x.procs, 0 ≤ p.1 ∧ p.1 < n) (hin : ∀ p ∈ pageA x.frames, 0 ≤ p.1 ∧ p.1 < n) (hinS : ∀ p ∈ slabA x.slabs, 0 ≤ p.1 ∧ p.1 < n) (hbig : n ≤ 1000000000)
    (hpid : ∀ p ∈ x.procs, 1 ≤ p.pid ∧ p.pid ≤ 8) (hpn : (x.procs.map Proc.pid).Nodup) (hpg : ∀ p ∈ x.procs, ∀ m ∈ p.pages, 0 ≤ m.page ∧ m.page < 1024)
    (hl : A.length + (procA x.procs).length + (pageA x.frames).length + (slabA x.slabs).length ≤ 100000000) (hnd : (x.slabs.map Slab.frame).Nodup) (c : Ct w0 TB om sm pm n w' Z A [] [] []) {K : Value → World → Prop}
    (hK : ∀ w' Z O L Q, Ct w0 TB om sm pm n w' Z (A ++ procA x.procs ++ pageA x.frames ++ slabA x.slabs) O L Q → OwnM O x.frames → SlabM L x.slabs → Books wP w0 w' Z Q x.procs → K (.tuple #[]) w') :
    (∃ (x : Option Addr), rd w' kb 0 = some (Value.pointer x) ∧ Wif (isP x) (∃ (x_7 : Option Addr), ∃ (x_8 : Nat), ∃ (x_9 : Nat), rd w' (pb x) (po x + 99) = some (Value.slice x_7 x_8 x_9) ∧ ∃ (I : Int → World → Nat → Prop), (∃ (n : Nat), I 0 w' n) ∧ ∀ (n : Int) (w' : World) (n_3 : Nat), I n w' n_3 → Wif (decide (n < (↑x_8 : Int))) (Wif (isP x_7) (Wif (inB n x_8) (∃ (x : Int), ∃ (x_10 : Int), ∃ (x_11 : Option Addr), ∃ (x_12 : Nat), ∃ (x_13 : Nat), ∃ (x_14 : Option Addr), ∃ (x_15 : Nat), ∃ (x_16 : Nat), ∃ (x_17 : Option Addr), ∃ (x_18 : Nat), ∃ (x_19 : Nat), ∃ (x_20 : Option Addr), ∃ (x_21 : Nat), ∃ (x_22 : Nat), (rd w' (pb x_7) (po x_7 + Int.toNat n * 6) = some (Value.int IntKind.i64 x) ∧ rd w' (pb x_7) (po x_7 + Int.toNat n * 6 + 1) = some (Value.int IntKind.i64 x_10) ∧ rd w' (pb x_7) (po x_7 + Int.toNat n * 6 + 2) = some (Value.slice x_11 x_12 x_13) ∧ rd w' (pb x_7) (po x_7 + Int.toNat n * 6 + 3) = some (Value.slice x_14 x_15 x_16) ∧ rd w' (pb x_7) (po x_7 + Int.toNat n * 6 + 4) = some (Value.slice x_17 x_18 x_19) ∧ rd w' (pb x_7) (po x_7 + Int.toNat n * 6 + 5) = some (Value.slice x_20 x_21 x_22)) ∧ ∀ (w'_1 : World), w'_1 = World.alloc w' (Obj.cells #[Value.int IntKind.i64 0, Value.int IntKind.i64 0, Value.slice none 0 0, Value.slice none 0 0, Value.slice none 0 0, Value.slice none 0 0] 48) → (wr w'_1 (Array.size (World.heap w')) 0 ∧ wr w'_1 (Array.size (World.heap w')) 1 ∧ wr w'_1 (Array.size (World.heap w')) 2 ∧ wr w'_1 (Array.size (World.heap w')) 3 ∧ wr w'_1 (Array.size (World.heap w')) 4 ∧ wr w'_1 (Array.size (World.heap w')) 5) ∧ ∀ (w'_2 : World), w'_2 = st (st (st (st (st (st w'_1 (Array.size (World.heap w')) 0 (Value.int IntKind.i64 x)) (Array.size (World.heap w')) 1 (Value.int IntKind.i64 x_10)) (Array.size (World.heap w')) 2 (Value.slice x_11 x_12 x_13)) (Array.size (World.heap w')) 3 (Value.slice x_14 x_15 x_16)) (Array.size (World.heap w')) 4 (Value.slice x_17 x_18 x_19)) (Array.size (World.heap w')) 5 (Value.slice x_20 x_21 x_22) → ∃ (x : Int), rd w'_2 (Array.size (World.heap w')) 1 = some (Value.int IntKind.i64 x) ∧ Calls Proofs.Tryz.prog 56 #[Value.int IntKind.i64 x, Value.int IntKind.i64 2, Value.pointer (some (Addr.mk kb 0 none))] w'_2 fun (e : Ending) (w'_3 : World) => e = Ending.returned (Value.tuple #[]) ∧ ∃ (x : Option Addr), ∃ (x_23 : Nat), ∃ (x_24 : Nat), rd w'_3 (Array.size (World.heap w')) 2 = some (Value.slice x x_23 x_24) ∧ ∃ (I_1 : Int → World → Nat → Prop), (∃ (n : Nat), I_1 0 w'_3 n) ∧ ∀ (n_4 : Int) (w'_4 : World) (n_5 : Nat), I_1 n_4 w'_4 n_5 → Wif (decide (n_4 < (↑x_23 : Int))) (Wif (isP x) (Wif (inB n_4 x_23) (∃ (x_25 : Int), ∃ (x_26 : Int), (rd w'_4 (pb x) (po x + Int.toNat n_4 * 2) = some (Value.int IntKind.i64 x_25) ∧ rd w'_4 (pb x) (po x + Int.toNat n_4 * 2 + 1) = some (Value.int IntKind.i64 x_26)) ∧ ∀ (w' : World), w' = World.alloc w'_4 (Obj.cells #[Value.int IntKind.i64 0, Value.int IntKind.i64 0] 75) → (wr w' (Array.size (World.heap w'_4)) 0 ∧ wr w' (Array.size (World.heap w'_4)) 1) ∧ ∀ (w'_5 : World), w'_5 = st (st w' (Array.size (World.heap w'_4)) 0 (Value.int IntKind.i64 x_25)) (Array.size (World.heap w'_4)) 1 (Value.int IntKind.i64 x_26) → ∃ (x : Int), rd w'_5 (Array.size (World.heap w'_4)) 1 = some (Value.int IntKind.i64 x) ∧ Calls Proofs.Tryz.prog 56 #[Value.int IntKind.i64 x, Value.int IntKind.i64 2, Value.pointer (some (Addr.mk kb 0 none))] w'_5 fun (e : Ending) (w' : World) => e = Ending.returned (Value.tuple #[]) ∧ ∃ (m : Nat), Nat.succ m ≤ n_5 ∧ I_1 (IntKind.wrap IntKind.i64 (n_4 + 1)) w' m) False) False) (∃ (x : Int), ∃ (x_25 : Int), ∃ (x_26 : Option Addr), ∃ (x_27 : Nat), ∃ (x_28 : Nat), ∃ (x_29 : Option Addr), ∃ (x_30 : Nat), ∃ (x_31 : Nat), ∃ (x_32 : Option Addr), ∃ (x_33 : Nat), ∃ (x_34 : Nat), ∃ (x_35 : Option Addr), ∃ (x_36 : Nat), ∃ (x_37 : Nat), (rd w'_4 (Array.size (World.heap w')) 0 = some (Value.int IntKind.i64 x) ∧ rd w'_4 (Array.size (World.heap w')) 1 = some (Value.int IntKind.i64 x_25) ∧ rd w'_4 (Array.size (World.heap w')) 2 = some (Value.slice x_26 x_27 x_28) ∧ rd w'_4 (Array.size (World.heap w')) 3 = some (Value.slice x_29 x_30 x_31) ∧ rd w'_4 (Array.size (World.heap w')) 4 = some (Value.slice x_32 x_33 x_34) ∧ rd w'_4 (Array.size (World.heap w')) 5 = some (Value.slice x_35 x_36 x_37)) ∧ ∀ (w'_5 : World), w'_5 = World.alloc w'_4 (Obj.map #[] 0) → ∀ (w'_6 : World), w'_6 = World.alloc w'_5 (Obj.cells #[Value.int IntKind.i64 x, Value.int IntKind.i64 x_25, Value.slice x_26 x_27 x_28, Value.slice x_29 x_30 x_31, Value.slice x_32 x_33 x_34, Value.slice x_35 x_36 x_37, Value.map (some (Array.size (World.heap w'_4)))] 129) → ∃ (x : Option Addr), ∃ (x_38 : Nat), ∃ (x_39 : Nat), rd w'_6 (Array.size (World.heap w')) 3 = some (Value.slice x x_38 x_39) ∧ ∃ (I_2 : Int → World → Nat → Prop), (∃ (n : Nat), I_2 0 w'_6 n) ∧ ∀ (n_6 : Int) (w'_7 : World) (n_7 : Nat), I_2 n_6 w'_7 n_7 → Wif (decide (n_6 < (↑x_38 : Int))) (Wif (isP x) (Wif (inB n_6 x_38) (∃ (x_40 : Int), ∃ (x_41 : Int), ∃ (x_42 : Int), (rd w'_7 (pb x) (po x + Int.toNat n_6 * 3) = some (Value.int IntKind.i64 x_40) ∧ rd w'_7 (pb x) (po x + Int.toNat n_6 * 3 + 1) = some (Value.int IntKind.u8 x_41) ∧ rd w'_7 (pb x) (po x + Int.toNat n_6 * 3 + 2) = some (Value.int IntKind.i64 x_42)) ∧ ∀ (w' : World), w' = World.alloc w'_7 (Obj.cells #[Value.int IntKind.i64 0, Value.int IntKind.u8 0, Value.int IntKind.i64 0] 52) → (wr w' (Array.size (World.heap w'_7)) 0 ∧ wr w' (Array.size (World.heap w'_7)) 1 ∧ wr w' (Array.size (World.heap w'_7)) 2) ∧ ∀ (w'_8 : World), w'_8 = st (st (st w' (Array.size (World.heap w'_7)) 0 (Value.int IntKind.i64 x_40)) (Array.size (World.heap w'_7)) 1 (Value.int IntKind.u8 x_41)) (Array.size (World.heap w'_7)) 2 (Value.int IntKind.i64 x_42) → ∀ (w1 : World), w1 = World.drew w'_8 → ∃ (x : Option Nat), rd w1 (Array.size (World.heap w'_5)) 6 = some (Value.map x) ∧ ∃ (x_43 : Int), rd w1 (Array.size (World.heap w'_7)) 0 = some (Value.int IntKind.i64 x_43) ∧ ∃ (x_44 : Int), ∃ (x_45 : Int), (rd w1 (Array.size (World.heap w'_7)) 1 = some (Value.int IntKind.u8 x_44) ∧ rd w1 (Array.size (World.heap w'_7)) 2 = some (Value.int IntKind.i64 x_45)) ∧ ∃ (w' : World), updIs Proofs.Tryz.prog 127 (Value.map x) (Value.int IntKind.i64 x_43) (Value.agg #[Value.int IntKind.u8 x_44, Value.int IntKind.i64 x_45]) w1 w' ∧ ∃ (m : Nat), Nat.succ m ≤ n_7 ∧ I_2 (IntKind.wrap IntKind.i64 (n_6 + 1)) w' m) False) False) (∀ (w1 : World), w1 = World.drew w'_7 → ∃ (x : Option Addr), rd w1 kb 0 = some (Value.pointer x) ∧ Wif (isP x) (∃ (x_40 : Option Nat), rd w1 (pb x) (po x + 110) = some (Value.map x_40) ∧ ∃ (x : Int), rd w1 (Array.size (World.heap w')) 0 = some (Value.int IntKind.i64 x) ∧ ∃ (w' : World), updIs Proofs.Tryz.prog 88 (Value.map x_40) (Value.int IntKind.i64 x) (Value.pointer (some (Addr.mk (Array.size (World.heap w'_5)) 0 none))) w1 w' ∧ ∃ (m : Nat), Nat.succ m ≤ n_3 ∧ I (IntKind.wrap IntKind.i64 (n + 1)) w' m) False))) False) False) (∃ (x : Option Addr), rd w' kb 0 = some (Value.pointer x) ∧ Wif (isP x) (∃ (x_10 : Option Addr), ∃ (x_11 : Nat), ∃ (x_12 : Nat), rd w' (pb x) (po x + 100) = some (Value.slice x_10 x_11 x_12) ∧ ∃ (I : Int → World → Nat → Prop), (∃ (n : Nat), I 0 w' n) ∧ ∀ (n : Int) (w' : World) (n_4 : Nat), I n w' n_4 → Wif (decide (n < (↑x_11 : Int))) (Wif (isP x_10) (Wif (inB n x_11) (∃ (x : Int), ∃ (x_13 : Int), ∃ (x_14 : Int), (rd w' (pb x_10) (po x_10 + Int.toNat n * 3) = some (Value.int IntKind.i64 x) ∧ rd w' (pb x_10) (po x_10 + Int.toNat n * 3 + 1) = some (Value.int IntKind.i64 x_13) ∧ rd w' (pb x_10) (po x_10 + Int.toNat n * 3 + 2) = some (Value.int IntKind.i64 x_14)) ∧ ∀ (w'_1 : World), w'_1 = World.alloc w' (Obj.cells #[Value.int IntKind.i64 0, Value.int IntKind.i64 0, Value.int IntKind.i64 0] 63) → (wr w'_1 (Array.size (World.heap w')) 0 ∧ wr w'_1 (Array.size (World.heap w')) 1 ∧ wr w'_1 (Array.size (World.heap w')) 2) ∧ ∀ (w'_2 : World), w'_2 = st (st (st w'_1 (Array.size (World.heap w')) 0 (Value.int IntKind.i64 x)) (Array.size (World.heap w')) 1 (Value.int IntKind.i64 x_13)) (Array.size (World.heap w')) 2 (Value.int IntKind.i64 x_14) → ∃ (x : Int), rd w'_2 (Array.size (World.heap w')) 0 = some (Value.int IntKind.i64 x) ∧ Calls Proofs.Tryz.prog 56 #[Value.int IntKind.i64 x, Value.int IntKind.i64 3, Value.pointer (some (Addr.mk kb 0 none))] w'_2 fun (e : Ending) (w'_3 : World) => e = Ending.returned (Value.tuple #[]) ∧ ∀ (w1 : World), w1 = World.drew w'_3 → ∃ (x : Option Addr), rd w1 kb 0 = some (Value.pointer x) ∧ Wif (isP x) (∃ (x_15 : Option Nat), rd w1 (pb x) (po x + 108) = some (Value.map x_15) ∧ ∃ (x : Int), rd w1 (Array.size (World.heap w')) 0 = some (Value.int IntKind.i64 x) ∧ ∃ (x_16 : Int), ∃ (x_17 : Int), ∃ (x_18 : Int), (rd w1 (Array.size (World.heap w')) 0 = some (Value.int IntKind.i64 x_16) ∧ rd w1 (Array.size (World.heap w')) 1 = some (Value.int IntKind.i64 x_17) ∧ rd w1 (Array.size (World.heap w')) 2 = some (Value.int IntKind.i64 x_18)) ∧ ∃ (w' : World), updIs Proofs.Tryz.prog 86 (Value.map x_15) (Value.int IntKind.i64 x) (Value.agg #[Value.int IntKind.i64 x_16, Value.int IntKind.i64 x_17, Value.int IntKind.i64 x_18]) w1 w' ∧ ∃ (m : Nat), Nat.succ m ≤ n_4 ∧ I (IntKind.wrap IntKind.i64 (n + 1)) w' m) False) False) False) (∃ (x : Option Addr), rd w' kb 0 = some (Value.pointer x) ∧ Wif (isP x) (∃ (x_13 : Option Addr), ∃ (x_14 : Nat), ∃ (x_15 : Nat), rd w' (pb x) (po x + 103) = some (Value.slice x_13 x_14 x_15) ∧ ∃ (I : Int → World → Nat → Prop), (∃ (n : Nat), I 0 w' n) ∧ ∀ (n : Int) (w' : World) (n_5 : Nat), I n w' n_5 → Wif (decide (n < (↑x_14 : Int))) (Wif (isP x_13) (Wif (inB n x_14) (∃ (x : Int), ∃ (x_16 : Int), ∃ (x_17 : Int), ∃ (x_18 : Int), ∃ (x_19 : Int), ∃ (x_20 : Option Addr), ∃ (x_21 : Nat), ∃ (x_22 : Nat), ∃ (x_23 : Option Addr), ∃ (x_24 : Nat), ∃ (x_25 : Nat), (rd w' (pb x_13) (po x_13 + Int.toNat n * 7) = some (Value.int IntKind.i64 x) ∧ rd w' (pb x_13) (po x_13 + Int.toNat n * 7 + 1) = some (Value.int IntKind.i64 x_16) ∧ rd w' (pb x_13) (po x_13 + Int.toNat n * 7 + 2) = some (Value.int IntKind.i64 x_17) ∧ rd w' (pb x_13) (po x_13 + Int.toNat n * 7 + 3) = some (Value.int IntKind.i64 x_18) ∧ rd w' (pb x_13) (po x_13 + Int.toNat n * 7 + 4) = some (Value.int IntKind.i64 x_19) ∧ rd w' (pb x_13) (po x_13 + Int.toNat n * 7 + 5) = some (Value.slice x_20 x_21 x_22) ∧ rd w' (pb x_13) (po x_13 + Int.toNat n * 7 + 6) = some (Value.slice x_23 x_24 x_25)) ∧ ∀ (w'_1 : World), w'_1 = World.alloc w' (Obj.cells #[Value.int IntKind.i64 0, Value.int IntKind.i64 0, Value.int IntKind.i64 0, Value.int IntKind.i64 0, Value.int IntKind.i64 0, Value.slice none 0 0, Value.slice none 0 0] 55) → (wr w'_1 (Array.size (World.heap w')) 0 ∧ wr w'_1 (Array.size (World.heap w')) 1 ∧ wr w'_1 (Array.size (World.heap w')) 2 ∧ wr w'_1 (Array.size (World.heap w')) 3 ∧ wr w'_1 (Array.size (World.heap w')) 4 ∧ wr w'_1 (Array.size (World.heap w')) 5 ∧ wr w'_1 (Array.size (World.heap w')) 6) ∧ ∀ (w'_2 : World), w'_2 = st (st (st (st (st (st (st w'_1 (Array.size (World.heap w')) 0 (Value.int IntKind.i64 x)) (Array.size (World.heap w')) 1 (Value.int IntKind.i64 x_16)) (Array.size (World.heap w')) 2 (Value.int IntKind.i64 x_17)) (Array.size (World.heap w')) 3 (Value.int IntKind.i64 x_18)) (Array.size (World.heap w')) 4 (Value.int IntKind.i64 x_19)) (Array.size (World.heap w')) 5 (Value.slice x_20 x_21 x_22)) (Array.size (World.heap w')) 6 (Value.slice x_23 x_24 x_25) → ∃ (x : Int), rd w'_2 (Array.size (World.heap w')) 2 = some (Value.int IntKind.i64 x) ∧ Calls Proofs.Tryz.prog 56 #[Value.int IntKind.i64 x, Value.int IntKind.i64 4, Value.pointer (some (Addr.mk kb 0 none))] w'_2 fun (e : Ending) (w'_3 : World) => e = Ending.returned (Value.tuple #[]) ∧ ∀ (w1 : World), w1 = World.drew w'_3 → ∃ (x : Option Addr), rd w1 kb 0 = some (Value.pointer x) ∧ Wif (isP x) (∃ (x_26 : Option Nat), rd w1 (pb x) (po x + 109) = some (Value.map x_26) ∧ ∃ (x : Int), rd w1 (Array.size (World.heap w')) 2 = some (Value.int IntKind.i64 x) ∧ ∃ (x_27 : Int), ∃ (x_28 : Int), ∃ (x_29 : Int), ∃ (x_30 : Int), ∃ (x_31 : Int), ∃ (x_32 : Option Addr), ∃ (x_33 : Nat), ∃ (x_34 : Nat), ∃ (x_35 : Option Addr), ∃ (x_36 : Nat), ∃ (x_37 : Nat), (rd w1 (Array.size (World.heap w')) 0 = some (Value.int IntKind.i64 x_27) ∧ rd w1 (Array.size (World.heap w')) 1 = some (Value.int IntKind.i64 x_28) ∧ rd w1 (Array.size (World.heap w')) 2 = some (Value.int IntKind.i64 x_29) ∧ rd w1 (Array.size (World.heap w')) 3 = some (Value.int IntKind.i64 x_30) ∧ rd w1 (Array.size (World.heap w')) 4 = some (Value.int IntKind.i64 x_31) ∧ rd w1 (Array.size (World.heap w')) 5 = some (Value.slice x_32 x_33 x_34) ∧ rd w1 (Array.size (World.heap w')) 6 = some (Value.slice x_35 x_36 x_37)) ∧ ∃ (w' : World), updIs Proofs.Tryz.prog 87 (Value.map x_26) (Value.int IntKind.i64 x) (Value.agg #[Value.int IntKind.i64 x_27, Value.int IntKind.i64 x_28, Value.int IntKind.i64 x_29, Value.int IntKind.i64 x_30, Value.int IntKind.i64 x_31, Value.slice x_32 x_33 x_34, Value.slice x_35 x_36 x_37]) w1 w' ∧ ∃ (m : Nat), Nat.succ m ≤ n_5 ∧ I (IntKind.wrap IntKind.i64 (n + 1)) w' m) False) False) False) (K (Value.tuple #[]) w')) False)) False)) False) := by
  have hPk : ∀ {w1 : World} {Z : Nat → Prop} {A : List (Int × Int)} {O L Q : List (Int × Value)}, Ct w0 TB om sm pm n w1 Z A O L Q → Kept none' wP w1 := fun c => own0 kP c.ke fun b hb => by omega
  have hne := lk.ne
  have hmm := lk.lt.2
  have hlen := hP.procs.len
  have hlm := hP.procs.lt63
  refine ⟨some ⟨k, 0, none⟩, lk.rb c, Wif_yes rfl ⟨S.a 5, S.l 5, S.c 5, lk.rd c (lk.sl 5 (by decide)), fun m w' M => ∃ (q : Nat) (Z : Nat → Prop) (Q : List (Int × Value)), m = (q : Int) ∧ q ≤ x.procs.length ∧ M = x.procs.length - q ∧ Ct w0 TB om sm pm n w' Z (A ++ procA (x.procs.take q)) [] [] Q ∧ Books wP w0 w' Z Q (x.procs.take q), ⟨x.procs.length, 0, Z, [], rfl, by omega, rfl, by simpa [procA] using c, ⟨fun p hp => by simp at hp, fun i v hv => by simp at hv⟩⟩, ?_⟩⟩
  clear c
  rintro _ w1 _ ⟨q, Z, Q, rfl, hq, rfl, c1, hB1⟩
  refine Wif_intro (fun hc => ?_) (fun hc => ?_)
  · have hql : q < x.procs.length := by simp at hc; omega
    obtain ⟨p, hp⟩ : ∃ p, x.procs[q]? = some p := ⟨x.procs[q], List.getElem?_eq_getElem hql⟩
    obtain ⟨cs, hcs, hR, hr⟩ := hP.procs.el q p hp
    have hRP := hR
    obtain ⟨a1, l1, c1', a2, l2, c2', a3, l3, c3', a4, l4, c4', rfl, hx1, hx2, hx3, hx4⟩ := hR
    have hpm := List.mem_of_getElem? hp
    have hr : ∀ (j : Nat) (u : Value), _ → rd w1 (pb (S.a 5)) (po (S.a 5) + q * 6 + j) = some u := fun j u hu => (hPk c1).rd_some (hr j u hu) id
    refine Wif_yes (hP.procs.isp (by omega)) (Wif_yes (inB_of (by omega) (by omega)) ?_)
    rw [Int.toNat_natCast]
    refine ⟨_, _, _, _, _, _, _, _, _, _, _, _, _, _, ⟨hr 0 _ rfl, hr 1 _ rfl, hr 2 _ rfl, hr 3 _ rfl, hr 4 _ rfl, hr 5 _ rfl⟩, ?_⟩
    intro w2 e2
    have o2 := own_alloc (c := [vi 0, vi 0, .slice none 0 0, .slice none 0 0, .slice none 0 0, .slice none 0 0]) e2
    have k2 : Kept none' w1 w2 := (Kept.refl _ _).al e2
    have c2 := c1.al k2 e2
    have hge : w0.heap.size ≤ w1.heap.size := c1.ke.sz
    refine ⟨⟨o2.wr (by decide), o2.wr (by decide), o2.wr (by decide), o2.wr (by decide), o2.wr (by decide), o2.wr (by decide)⟩, ?_⟩
    intro w3 e3
    have o3 : own w3 w1.heap.size [vi p.pid, vi p.root, .slice a1 l1 c1', .slice a2 l2 c2', .slice a3 l3 c3', .slice a4 l4 c4'] := by
      rw [e3]; exact (((((o2.st_same).st_same).st_same).st_same).st_same).st_same
    have k3 : Kept (· = w1.heap.size) w2 w3 := by
      rw [e3]; exact ((((((Kept.refl (· = w1.heap.size) w2).st (.inl rfl)).st (.inl rfl)).st (.inl rfl)).st (.inl rfl)).st (.inl rfl)).st (.inl rfl)
    have c3 := c2.kz k3 (fun b hb => ⟨.inr hb, by omega⟩) hmm
    have hZ1 : ∀ b, Z b → b < w1.heap.size := c1.th.lt
    have hB3 := (hB1.kx k2 fun b h => h.elim).kx k3 fun b hb hz => by
      have := hZ1 b hz; omega
    generalize hb1 : w1.heap.size = m1 at *
    generalize hcsE : [vi p.pid, vi p.root, .slice a1 l1 c1', .slice a2 l2 c2', .slice a3 l3 c3', .slice a4 l4 c4'] = cs at *
    have hcs0 : cs[0]? = some (vi p.pid) := by rw [← hcsE]; rfl
    have hcs1 : cs[1]? = some (vi p.root) := by rw [← hcsE]; rfl
    have hcs2 : cs[2]? = some (.slice a1 l1 c1') := by rw [← hcsE]; rfl
    have hcs3 : cs[3]? = some (.slice a2 l2 c2') := by rw [← hcsE]; rfl
    have hcs4 : cs[4]? = some (.slice a3 l3 c3') := by rw [← hcsE]; rfl
    have hcs5 : cs[5]? = some (.slice a4 l4 c4') := by rw [← hcsE]; rfl
    have hfr : 0 ≤ p.root ∧ p.root < n := hinR (p.root, 2) (List.mem_flatMap.2 ⟨p, hpm, by simp⟩)
    have hfl : ∀ l ∈ p.leaves, 0 ≤ l.2 ∧ l.2 < n := fun l hl => hinR (l.2, 2) (List.mem_flatMap.2 ⟨p, hpm, List.mem_cons_of_mem _ (List.mem_map.2 ⟨l, hl, rfl⟩)⟩)
    have e4 : procA (x.procs.take (q + 1)) = procA (x.procs.take q) ++ ((p.root, 2) :: p.leaves.map fun l => (l.2, (2 : Int))) := fm_take hp
    have hle := fm_len (f := fun p : Proc => (p.root, (2 : Int)) :: p.leaves.map fun l => (l.2, (2 : Int))) x.procs (q + 1)
    change (procA (x.procs.take (q + 1))).length ≤ (procA x.procs).length at hle
    rw [e4] at hle
    simp only [List.length_append, List.length_cons, List.length_map] at hle
    refine ⟨p.root, by rw [o3.rd]; exact hcs1, (lk.add c3 hfr (by rw [List.length_append]; omega)).mono ?_⟩
    rintro _ w4 ⟨rfl, c4, k4⟩
    have o4 := o3.kx k4 fun h => h (.inr rfl)
    have hB4 := hB3.kx k4 fun b hb hz _ => hb (.inl hz)
    refine ⟨rfl, a1, l1, c1', by rw [o4.rd]; exact hcs2, fun m w' M => ∃ i : Nat, m = (i : Int) ∧ i ≤ p.leaves.length ∧ M = p.leaves.length - i ∧ Ct w0 TB om sm pm n w' (fun y => Z y ∨ y = m1) (A ++ procA (x.procs.take q) ++ ((p.root, 2) :: (p.leaves.take i).map fun l => (l.2, (2 : Int)))) [] [] Q ∧ own w' m1 cs ∧ Books wP w0 w' Z Q (x.procs.take q), ⟨p.leaves.length, 0, rfl, by omega, rfl, by simpa using c4, o4, hB4⟩, ?_⟩
    clear c2 c3 c4 o2 o3 o4 hB3 hB4 k2 k3 k4 e2 e3
    rintro _ w5 _ ⟨i, rfl, hi, rfl, c5, o5, hB5⟩
    have hx1l := hx1.len
    have hx1m := hx1.lt63
    have hx2l := hx2.len
    have hx2m := hx2.lt63
    refine Wif_intro (fun hc5 => ?_) (fun hc5 => ?_)
    · have hil : i < p.leaves.length := by simp at hc5; omega
      obtain ⟨l, hl5⟩ : ∃ l, p.leaves[i]? = some l := ⟨p.leaves[i], List.getElem?_eq_getElem hil⟩
      obtain ⟨cs', _, hR', hr'⟩ := (hx1.k RPair.stab (hPk c5)).el i l hl5
      obtain rfl : cs' = [vi l.1, vi l.2] := hR'
      refine Wif_yes (hx1.isp (by omega)) (Wif_yes (inB_of (by omega) (by omega)) ?_)
      rw [Int.toNat_natCast]
      refine ⟨l.1, l.2, ⟨hr' 0 _ rfl, hr' 1 _ rfl⟩, ?_⟩
      intro w6 e6
      have o6 := own_alloc (c := [vi 0, vi 0]) e6
      have k6 : Kept none' w5 w6 := (Kept.refl _ _).al e6
      have c6 := c5.al k6 e6
      have hge5 : w0.heap.size ≤ w5.heap.size := c5.ke.sz
      have hm15 := c5.th.lt m1 (.inr rfl)
      refine ⟨⟨o6.wr (by decide), o6.wr (by decide)⟩, ?_⟩
      intro w7 e7
      have o7 : own w7 w5.heap.size [vi l.1, vi l.2] := o6.s2 e7
      have k7 : Kept (· = w5.heap.size) w6 w7 := (Kept.refl _ _).s2 e7 (.inl rfl)
      have c7 := c6.kz k7 (fun b hb => ⟨.inr hb, by omega⟩) hmm
      have hZ5 : ∀ b, (Z b ∨ b = m1) → b < w5.heap.size := c5.th.lt
      have hB7 := (hB5.kx k6 fun b h => h.elim).kx k7 fun b hb hz => by
        have := hZ5 b (.inl hz); omega
      have om7 := (o5.k k6).kx k7 (by omega)
      have hlt5 : ((p.leaves.take i).map fun l => (l.2, (2 : Int))).length = i := by simp; omega
      refine ⟨l.2, by rw [o7.rd]; rfl, (lk.add c7 (hfl l (List.mem_of_getElem? hl5)) (by simp only [List.length_append, List.length_cons, hlt5]; omega)).mono ?_⟩
      rintro _ w8 ⟨rfl, c8, k8⟩
      refine ⟨rfl, p.leaves.length - (i + 1), by omega, i + 1, by rw [wi (by omega)]; rfl, by omega, rfl, ?_, om7.kx k8 fun h => h (.inl (.inr rfl)), hB7.kx k8 fun b hb hz _ => hb (.inl (.inl hz))⟩
      rw [take_snoc hl5, List.map_append, ← List.cons_append, ← List.append_assoc]
      exact c8.weak (fun b hb => .inl hb) c5.zz
    have hil : i = p.leaves.length := by simp at hc5; omega
    subst hil
    rw [List.take_length] at c5
    -- the book
    refine ⟨_, _, _, _, _, _, _, _, _, _, _, _, _, _, ⟨by rw [o5.rd]; exact hcs0, by rw [o5.rd]; exact hcs1, by rw [o5.rd]; exact hcs2, by rw [o5.rd]; exact hcs3, by rw [o5.rd]; exact hcs4, by rw [o5.rd]; exact hcs5⟩, ?_⟩
    intro w6 e6 w7 e7
    have hge5 : w0.heap.size ≤ w5.heap.size := c5.ke.sz
    have hm15 := c5.th.lt m1 (.inr rfl)
    have k6 : Kept none' w5 w6 := e6 ▸ (Kept.refl _ _).allocMap _ _
    have k7 : Kept none' w6 w7 := (Kept.refl _ _).al e7
    have hs6 : w6.heap.size = w5.heap.size + 1 := by rw [e6]; simp only [World.alloc, Array.size_push]
    have hs7 : w7.heap.size = w6.heap.size + 1 := by rw [e7]; simp only [World.alloc, Array.size_push]
    have mp6 := map_new e6
    have ok7 := own_alloc (c := [vi p.pid, vi p.root, .slice a1 l1 c1', .slice a2 l2 c2', .slice a3 l3 c3', .slice a4 l4 c4', .map (some w5.heap.size)]) e7
    have ok7 : own w7 w6.heap.size (cs ++ [.map (some w5.heap.size)]) := by rw [← hcsE]; exact ok7
    have c6 := c5.al k6 e6
    have c7 := c6.al k7 e7
    have mp7 := mp6.k k7
    have om7 := (o5.k k6).k k7
    have hB7 := (hB5.kx k6 fun b h => h.elim).kx k7 fun b h => h.elim
    have hZ5 : ∀ b, (Z b ∨ b = m1) → b < w5.heap.size := c5.th.lt
    generalize hmmE : w5.heap.size = mm at *
    generalize hbkE : w6.heap.size = bk at *
    refine ⟨a2, l2, c2', by rw [om7.rd]; exact hcs3, fun m w' M => ∃ (i : Nat) (MM : List (Int × Value)), m = (i : Int) ∧ i ≤ p.pages.length ∧ M = p.pages.length - i ∧ Ct w0 TB om sm pm n w' (fun y => ((Z y ∨ y = m1) ∨ y = mm) ∨ y = bk) (A ++ procA (x.procs.take q) ++ ((p.root, 2) :: p.leaves.map fun l => (l.2, (2 : Int)))) [] [] Q ∧ own w' m1 cs ∧ own w' bk (cs ++ [.map (some mm)]) ∧ MapIs w' mm MM ∧ MM.length ≤ i ∧ (MM.length = i ↔ ((p.pages.take i).map Mapped.page).Nodup) ∧ (∀ j, (MM.lookup j).isSome = true ↔ j ∈ (p.pages.take i).map Mapped.page) ∧ Books wP w0 w' Z Q (x.procs.take q),
      ⟨p.pages.length, 0, [], rfl, by omega, rfl, c7, om7, ok7, mp7, Nat.le_refl _, by simp, fun j => by simp, hB7⟩, ?_⟩
    clear c5 c6 c7 o5 om7 hB5 hB7 mp6 mp7 ok7 k6 k7 e6 e7
    rintro _ w8 _ ⟨i, MM, rfl, hi, rfl, c8, o8, bk8, mp8, hML, hMN, hMM, hB8⟩
    have hge8 : w0.heap.size ≤ w8.heap.size := c8.ke.sz
    have hZ8 : ∀ b, (((Z b ∨ b = m1) ∨ b = mm) ∨ b = bk) → b < w8.heap.size := c8.th.lt
    refine Wif_intro (fun hc8 => ?_) (fun hc8 => ?_)
    · have hil : i < p.pages.length := by simp at hc8; omega
      obtain ⟨e, he⟩ : ∃ e, p.pages[i]? = some e := ⟨p.pages[i], List.getElem?_eq_getElem hil⟩
      obtain ⟨cs', _, hR', hr'⟩ := (hx2.k RMapped.stab (hPk c8)).el i e he
      obtain rfl : cs' = [vi e.page, .int .u8 e.kind, vi e.n] := hR'
      have hpe := hpg p hpm e (List.mem_of_getElem? he)
      refine Wif_yes (hx2.isp (by omega)) (Wif_yes (inB_of (by omega) (by omega)) ?_)
      rw [Int.toNat_natCast]
      refine ⟨e.page, e.kind, e.n, ⟨hr' 0 _ rfl, hr' 1 _ rfl, hr' 2 _ rfl⟩, ?_⟩
      intro w9 e9
      have o9 := own_alloc (c := [vi 0, .int .u8 0, vi 0]) e9
      have k9 : Kept none' w8 w9 := (Kept.refl _ _).al e9
      have c9 := c8.al k9 e9
      refine ⟨⟨o9.wr (by decide), o9.wr (by decide), o9.wr (by decide)⟩, ?_⟩
      intro w10 e10
      have o10 : own w10 w8.heap.size [vi e.page, .int .u8 e.kind, vi e.n] := by rw [e10]; exact ((o9.st_same).st_same).st_same
      have k10 : Kept (· = w8.heap.size) w9 w10 := by
        rw [e10]; exact (((Kept.refl (· = w8.heap.size) w9).st (.inl rfl)).st (.inl rfl)).st (.inl rfl)
      have c10 := c9.kz k10 (fun b hb => ⟨.inr hb, by omega⟩) hmm
      intro w11 e11
      have k11 : Kept none' w10 w11 := (Kept.refl _ _).dr e11
      have K11 : Kept (· = w8.heap.size) w8 w11 := ((k9.mono fun b _ h => h.elim).trans (X := (· = w8.heap.size)) k10 fun b _ h => h).trans k11 fun b _ h => h.elim
      have c11 := c10.k k11
      have hz1 := hZ8 m1 (.inl (.inl (.inr rfl)))
      have hz2 := hZ8 mm (.inl (.inr rfl))
      have hz3 := hZ8 bk (.inr rfl)
      have om11 := o8.kx K11 (by omega)
      have bk11 := bk8.kx K11 (by omega)
      have mp11 := mp8.kx K11 (by omega)
      have o11 := o10.k k11
      have hB11 := hB8.kx K11 fun b hb hz => by
        have := hZ8 b (.inl (.inl (.inl hz))); omega
      refine ⟨some mm, by rw [bk11.rd, List.getElem?_append_right (by omega), hcs]; rfl, e.page, by rw [o11.rd]; rfl, e.kind, e.n, ⟨by rw [o11.rd]; rfl, by rw [o11.rd]; rfl⟩, ?_⟩
      obtain ⟨w12, M', hu, hM', hlk, hMl, k12⟩ := upd_any (P := Tryz.prog) (mt := 127) (vt := 50) (kt := 3) rfl rfl mp11 e.page (.agg #[.int .u8 e.kind, vi e.n]) (by omega)
      have c12 := c11.kz k12 (fun b hb => ⟨by subst hb; exact .inl (.inl (.inr rfl)), by omega⟩) hmm
      have e1 := take_snoc he
      refine ⟨w12, hu, p.pages.length - (i + 1), by omega, i + 1, M', by rw [wi (by omega)]; rfl, by omega, rfl, c12.weak (fun b hb => .inl hb) c8.zz, om11.kx k12 (by omega), bk11.kx k12 (by omega), hM', ?_, ?_, fun j => ?_, hB11.kx k12 fun b hb hz => by have := hZ5 b (.inl hz); omega⟩
      · rw [hMl]; split <;> omega
      · rw [hMl, e1, List.map_append, List.map_cons, List.map_nil, nodup_snoc, ← hMM e.page]
        split
        · rename_i hs
          exact ⟨fun h => by omega, fun h => absurd hs h.2⟩
        · rename_i hs
          exact ⟨fun h => ⟨hMN.1 (by omega), hs⟩, fun h => by have := hMN.2 h.1; omega⟩
      · rw [hlk, e1, List.map_append, List.mem_append, ← hMM j]
        split
        · rename_i h; subst h; simp
        · rename_i h; simp [h]
    have hil : i = p.pages.length := by simp at hc8; omega
    subst hil
    rw [List.take_length] at hMN hMM
    intro w9 e9
    have k9 : Kept none' w8 w9 := (Kept.refl _ _).dr e9
    have c9 := c8.k k9
    have hppid := hpid p hpm
    refine ⟨some ⟨k, 0, none⟩, lk.rb c9, Wif_yes rfl ⟨some pm, lk.rd c9 lk.pr, p.pid, by rw [(o8.k k9).rd]; exact hcs0, ?_⟩⟩
    obtain ⟨w10, Q', hu, hM', hlk, _, k10⟩ := upd_any (P := Tryz.prog) (mt := 88) (kt := 3) Tryz.underlying88 rfl c9.pm p.pid (pt bk) (by omega)
    have hlt := lk.lt
    have hz1 := hZ8 m1 (.inl (.inl (.inr rfl)))
    have hz2 := hZ8 mm (.inl (.inr rfl))
    have hz3 := hZ8 bk (.inr rfl)
    refine ⟨w10, hu, x.procs.length - (q + 1), by omega, q + 1, (fun y => ((Z y ∨ y = m1) ∨ y = mm) ∨ y = bk), Q', by rw [wi (by omega)]; rfl, by omega, rfl, ?_, ?_⟩
    · rw [e4, ← List.append_assoc]
      exact ⟨c9.ke.trans k10 fun b hb hx => by subst hx; simp, c9.th.kx k10 fun b _ hx => by subst hx; exact c9.zz _ hmm.2.2 (by omega), c9.zz, c9.om.kx k10 (by omega), c9.sm.kx k10 (by omega), hM'⟩
    · have hB10 := (hB8.kx k9 fun b h => h.elim).kx k10 fun b hb hz hge => by omega
      have e1 := take_snoc hp
      refine ⟨fun t ht => ?_, fun j v hv => ?_⟩
      · rw [e1] at ht
        rcases List.mem_append.1 ht with ht | ht
        · have hne2 : t.pid ≠ p.pid := by
            intro e
            rw [← List.take_append_drop (q + 1) x.procs, e1, List.map_append, List.map_append] at hpn
            have h1 := (List.nodup_append.1 hpn).1
            exact (List.nodup_append.1 h1).2.2 t.pid (List.mem_map.2 ⟨t, ht, rfl⟩) p.pid (by simp) e
          obtain ⟨b, h1, h2⟩ := hB10.1 t ht
          exact ⟨b, by rw [hlk, if_neg hne2]; exact h1, h2.z fun b hb => .inl (.inl (.inl hb))⟩
        · have : t = p := by simpa using ht
          subst this
          exact ⟨bk, by rw [hlk, if_pos rfl], ⟨cs, mm, MM, hRP, hcs, (bk8.k k9).kx k10 (by omega), (mp8.k k9).kx k10 (by omega), hML, hMN, .inr rfl, .inl (.inr rfl), by omega, by omega⟩⟩
      · rw [hlk] at hv
        split at hv
        · rename_i hf
          exact ⟨p, by rw [e1]; simp, hf.symm⟩
        · obtain ⟨t, h1, h2⟩ := hB10.2 j v hv
          exact ⟨t, by rw [e1]; simp [h1], h2⟩
  · have hql : q = x.procs.length := by simp at hc; omega
    subst hql
    rw [List.take_length] at c1 hB1
    exact frames_tail lk hP kP hnew hin hinS hbig (by rw [List.length_append]; omega) hnd hB1 c1 fun w2 Z2 O2 L2 c2 h1 h2 h3 => hK w2 Z2 O2 L2 Q c2 h1 h2 h3
end
end Go.Proofs.YtikjgeenhbnkkaaGreatDoor
