/-
  A part of a proof that a law of this seat returns true at every input. Conditions: those in each theorem.
-/
import Derived.Test.YtikjgeenhbnkkaaGreatDoorAV4
import Derived.Test.YtikjgeenhbnkkaaGreatDoorAD3
set_option linter.unusedVariables false
set_option maxRecDepth 100000
namespace Go.Proofs.YtikjgeenhbnkkaaGreatDoor
open Go Go.Eng
open Go.Value (slice)
/- byre/audit.shape -/
def vcP18 (x0 : Nat → Int) (x94 : Option Addr) (x94L : Nat) (x94C : Nat) (x95 : Option Addr) (x95L : Nat) (x95C : Nat) (x96 : Option Addr) (x96L : Nat) (x96C : Nat) (x97 : Option Addr) (x97L : Nat) (x97C : Nat) (x98 : Option Addr) (x98L : Nat) (x98C : Nat) (x99 : Option Addr) (x99L : Nat) (x99C : Nat) (x100 : Option Addr) (x100L : Nat) (x100C : Nat) (x101 : Option Addr) (x101L : Nat) (x101C : Nat) (x102 : Option Addr) (x102L : Nat) (x102C : Nat) (x103 : Option Addr) (x103L : Nat) (x103C : Nat) (x104 : Option Addr) (x104L : Nat) (x104C : Nat) (x105 : Option Addr) (x105L : Nat) (x105C : Nat) (x106 : Option Addr) (x106L : Nat) (x106C : Nat) (w : World) (K : Value → World → Prop) : Prop := ∀ (w' : World), w' = World.alloc w (Obj.cells (List.toArray (runI .i64 x0 0 94 ++ [slice x94 x94L x94C, slice x95 x95L x95C, slice x96 x96L x96C, slice x97 x97L x97C, slice x98 x98L x98C, slice x99 x99L x99C, slice x100 x100L x100C, slice x101 x101L x101C, slice x102 x102L x102C, slice x103 x103L x103C, slice x104 x104L x104C, slice x105 x105L x105C, slice x106 x106L x106C])) 37) → ∃ (x : Nat → Int), rdAll w' w.heap.size 0 (runI .i64 x 0 94) ∧ ∀ (w'_1 : World), w'_1 = World.alloc w' (Obj.cells (List.toArray (List.replicate 94 (Value.int .i64 0))) 26) → wrAll w'_1 w'.heap.size 0 (runI .i64 x 0 94) ∧ ∀ (w'_2 : World), w'_2 = stAll w'_1 w'.heap.size 0 (runI .i64 x 0 94) → ∀ (w1 : World), w1 = World.drew w'_2 → ∃ (x : Nat → Int), rdAll w1 w'.heap.size 0 (runI .i64 x 0 94) ∧ Calls Tryz.prog 31 #[Value.agg (List.toArray (runI .i64 x 0 94))] w1 fun (e : Ending) (w'_3 : World) => ∃ (b : Bool), e = Ending.returned (Value.bool b) ∧ ∃ (x : Option Addr) (x_1 x_2 : Nat), ((!b) = false → rd w'_3 w.heap.size 94 = some (.slice x x_1 x_2)) ∧ ∃ (x_3 : Nat → Int), ((!b) = false → rdAll w'_3 w'.heap.size 0 (runI .i64 x_3 0 94)) ∧ Wif (!b) (((!b) = false → rd w'_3 w.heap.size 94 = some (.slice x x_1 x_2) ∧ True) ∧ K (Value.bool false) w'_3) (Calls Tryz.prog 32 #[Value.agg (List.toArray (runI .i64 x_3 0 94))] w'_3 fun (e : Ending) (w'_4 : World) => ∃ (n : Int), e = Ending.returned (Value.int .i64 n) ∧ ((!b) = false → rd w'_4 w.heap.size 94 = some (.slice x x_1 x_2) ∧ True) ∧ ∃ (x : Option Addr) (x_4 x_5 : Nat), (((↑x_1 : Int) != n) = false → rd w'_4 w.heap.size 96 = some (.slice x x_4 x_5)) ∧ ∃ (x : Int), (((↑x_1 : Int) != n) = false → rd w'_4 w'.heap.size 1 = some (.int .i64 x)) ∧ ∃ (x_6 : Option Addr) (x_7 x_8 : Nat), (((↑x_1 : Int) != n || (↑x_4 : Int) != x) = false → rd w'_4 w.heap.size 97 = some (.slice x_6 x_7 x_8)) ∧ ∃ (x_9 : Int), (((↑x_1 : Int) != n || (↑x_4 : Int) != x) = false → rd w'_4 w'.heap.size 1 = some (.int .i64 x_9)) ∧ ∃ (x_10 : Option Addr) (x_11 x_12 : Nat), (((↑x_1 : Int) != n || (↑x_4 : Int) != x || (↑x_7 : Int) != x_9) = false → rd w'_4 w.heap.size 98 = some (.slice x_10 x_11 x_12)) ∧ ∃ (x_13 : Int), (((↑x_1 : Int) != n || (↑x_4 : Int) != x || (↑x_7 : Int) != x_9) = false → rd w'_4 w'.heap.size 1 = some (.int .i64 x_13)) ∧ ∃ (x_14 : Option Addr) (x_15 x_16 : Nat), (((↑x_1 : Int) != n || (↑x_4 : Int) != x || (↑x_7 : Int) != x_9 || (↑x_11 : Int) != x_13) = false → rd w'_4 w.heap.size 104 = some (.slice x_14 x_15 x_16)) ∧ ∃ (x_17 : Int), (((↑x_1 : Int) != n || (↑x_4 : Int) != x || (↑x_7 : Int) != x_9 || (↑x_11 : Int) != x_13) = false → rd w'_4 w'.heap.size 1 = some (.int .i64 x_17)) ∧ ∃ (x_18 : Option Addr) (x_19 x_20 : Nat), (((↑x_1 : Int) != n || (↑x_4 : Int) != x || (↑x_7 : Int) != x_9 || (↑x_11 : Int) != x_13 || (↑x_15 : Int) != x_17) = false → rd w'_4 w.heap.size 101 = some (.slice x_18 x_19 x_20)) ∧ ∃ (x_21 : Int), (((↑x_1 : Int) != n || (↑x_4 : Int) != x || (↑x_7 : Int) != x_9 || (↑x_11 : Int) != x_13 || (↑x_15 : Int) != x_17) = false → rd w'_4 w'.heap.size 0 = some (.int .i64 x_21)) ∧ ∃ (x_22 : Option Addr) (x_23 x_24 : Nat), (((↑x_1 : Int) != n || (↑x_4 : Int) != x || (↑x_7 : Int) != x_9 || (↑x_11 : Int) != x_13 || (↑x_15 : Int) != x_17 || (↑x_19 : Int) != x_21) = false → rd w'_4 w.heap.size 105 = some (.slice x_22 x_23 x_24)) ∧ ∃ (x_25 : Int), (((↑x_1 : Int) != n || (↑x_4 : Int) != x || (↑x_7 : Int) != x_9 || (↑x_11 : Int) != x_13 || (↑x_15 : Int) != x_17 || (↑x_19 : Int) != x_21) = false → rd w'_4 w'.heap.size 0 = some (.int .i64 x_25)) ∧ ∃ (x_26 : Option Addr) (x_27 x_28 : Nat), (((↑x_1 : Int) != n || (↑x_4 : Int) != x || (↑x_7 : Int) != x_9 || (↑x_11 : Int) != x_13 || (↑x_15 : Int) != x_17 || (↑x_19 : Int) != x_21 || (↑x_23 : Int) != x_25) = false → rd w'_4 w.heap.size 106 = some (.slice x_26 x_27 x_28)) ∧ ∃ (x_29 : Int), (((↑x_1 : Int) != n || (↑x_4 : Int) != x || (↑x_7 : Int) != x_9 || (↑x_11 : Int) != x_13 || (↑x_15 : Int) != x_17 || (↑x_19 : Int) != x_21 || (↑x_23 : Int) != x_25) = false → rd w'_4 w'.heap.size 0 = some (.int .i64 x_29)) ∧ Wif ((↑x_1 : Int) != n || (↑x_4 : Int) != x || (↑x_7 : Int) != x_9 || (↑x_11 : Int) != x_13 || (↑x_15 : Int) != x_17 || (↑x_19 : Int) != x_21 || (↑x_23 : Int) != x_25 || (↑x_27 : Int) != IntKind.wrap .i64 (9 + x_29)) (K (Value.bool false) w'_4) (∃ (x : Nat → Int) (x_30 : Option Addr) (x_31 x_32 : Nat) (x_33 : Option Addr) (x_34 x_35 : Nat) (x_36 : Option Addr) (x_37 x_38 : Nat) (x_39 : Option Addr) (x_40 x_41 : Nat) (x_42 : Option Addr) (x_43 x_44 : Nat) (x_45 : Option Addr) (x_46 x_47 : Nat) (x_48 : Option Addr) (x_49 x_50 : Nat) (x_51 : Option Addr) (x_52 x_53 : Nat) (x_54 : Option Addr) (x_55 x_56 : Nat) (x_57 : Option Addr) (x_58 x_59 : Nat) (x_60 : Option Addr) (x_61 x_62 : Nat) (x_63 : Option Addr) (x_64 x_65 : Nat) (x_66 : Option Addr) (x_67 x_68 : Nat), rdAll w'_4 w.heap.size 0 (runI .i64 x 0 94 ++ [slice x_30 x_31 x_32, slice x_33 x_34 x_35, slice x_36 x_37 x_38, slice x_39 x_40 x_41, slice x_42 x_43 x_44, slice x_45 x_46 x_47, slice x_48 x_49 x_50, slice x_51 x_52 x_53, slice x_54 x_55 x_56, slice x_57 x_58 x_59, slice x_60 x_61 x_62, slice x_63 x_64 x_65, slice x_66 x_67 x_68]) ∧ ∃ (x_69 : Option Addr) (x_70 x_71 : Nat), rd w'_4 w.heap.size 94 = some (.slice x_69 x_70 x_71) ∧ ∀ (w' : World), w' = World.alloc w'_4 (Obj.map #[] 0) → ∀ (w'_5 : World), w'_5 = World.alloc w' (Obj.cells (List.toArray (runI .i64 x 0 94 ++ [slice x_30 x_31 x_32, slice x_33 x_34 x_35, slice x_36 x_37 x_38, slice x_39 x_40 x_41, slice x_42 x_43 x_44, slice x_45 x_46 x_47, slice x_48 x_49 x_50, slice x_51 x_52 x_53, slice x_54 x_55 x_56, slice x_57 x_58 x_59, slice x_60 x_61 x_62, slice x_63 x_64 x_65, slice x_66 x_67 x_68, Value.int .i64 (↑x_70 : Int), Value.map (some w'_4.heap.size)])) 101) → ∀ (w'_6 : World), w'_6 = World.alloc w'_5 (Obj.cells #[Value.pointer none] 98) → wr w'_6 w'_5.heap.size 0 ∧ ∀ (w'_7 : World), w'_7 = st w'_6 w'_5.heap.size 0 (Value.pointer (some (Addr.mk w'.heap.size 0 none))) → ∃ (x : Option Addr) (x_72 x_73 : Nat), rd w'_7 w.heap.size 103 = some (.slice x x_72 x_73) ∧ ∃ (I : Bool → Int → World → Nat → Prop), (∃ (n : Nat), I false 0 w'_7 n) ∧ ∀ (b : Bool) (n : Int) (w' : World) (n_1 : Nat), I b n w' n_1 → Wif (decide (n < (↑x_72 : Int))) (Wif (isP x) (Wif (inB n x_72) (∃ (x_74 x_75 x_76 x_77 x_78 : Int) (x_79 : Option Addr) (x_80 x_81 : Nat) (x_82 : Option Addr) (x_83 x_84 : Nat), (rd w' (pb x) (po x + Int.toNat n * 7) = some (.int .i64 x_74) ∧ rd w' (pb x) (po x + Int.toNat n * 7 + 1) = some (.int .i64 x_75) ∧ rd w' (pb x) (po x + Int.toNat n * 7 + 2) = some (.int .i64 x_76) ∧ rd w' (pb x) (po x + Int.toNat n * 7 + 3) = some (.int .i64 x_77) ∧ rd w' (pb x) (po x + Int.toNat n * 7 + 4) = some (.int .i64 x_78) ∧ rd w' (pb x) (po x + Int.toNat n * 7 + 5) = some (.slice x_79 x_80 x_81) ∧ rd w' (pb x) (po x + Int.toNat n * 7 + 6) = some (.slice x_82 x_83 x_84)) ∧ ∀ (w'_8 : World), w'_8 = World.alloc w' (Obj.cells #[Value.int .i64 0, Value.int .i64 0, Value.int .i64 0, Value.int .i64 0, Value.int .i64 0, slice none 0 0, slice none 0 0] 55) → (wr w'_8 w'.heap.size 0 ∧ wr w'_8 w'.heap.size 1 ∧ wr w'_8 w'.heap.size 2 ∧ wr w'_8 w'.heap.size 3 ∧ wr w'_8 w'.heap.size 4 ∧ wr w'_8 w'.heap.size 5 ∧ wr w'_8 w'.heap.size 6) ∧ ∀ (w'_9 : World), w'_9 = st (st (st (st (st (st (st w'_8 w'.heap.size 0 (Value.int .i64 x_74)) w'.heap.size 1 (Value.int .i64 x_75)) w'.heap.size 2 (Value.int .i64 x_76)) w'.heap.size 3 (Value.int .i64 x_77)) w'.heap.size 4 (Value.int .i64 x_78)) w'.heap.size 5 (slice x_79 x_80 x_81)) w'.heap.size 6 (slice x_82 x_83 x_84) → ∀ (w1 : World), w1 = World.drew w'_9 → ∃ (x : Option Addr), rd w1 w'_5.heap.size 0 = some (.pointer x) ∧ Wif (isP x) (∃ (x_85 : Option Nat), rd w1 (pb x) (po x + 108) = some (.map x_85) ∧ ∃ (x : Int), rd w1 w'.heap.size 2 = some (.int .i64 x) ∧ ∃ (x_86 : Int) (x_87 : Bool), lookIs Tryz.prog 99 (Value.map x_85) (Value.int .i64 x) true (Value.tuple #[Value.int .i64 x_86, Value.bool x_87]) w1 ∧ Wif x_87 (K (Value.bool false) w1) (∀ (w1_1 : World), w1_1 = World.drew w1 → ∃ (x : Option Addr), rd w1_1 w'_5.heap.size 0 = some (.pointer x) ∧ Wif (isP x) (∃ (x_88 : Option Nat), rd w1_1 (pb x) (po x + 108) = some (.map x_88) ∧ ∃ (x : Int), rd w1_1 w'.heap.size 2 = some (.int .i64 x) ∧ ∃ (x_89 : Int), rd w1_1 w'.heap.size 4 = some (.int .i64 x_89) ∧ ∃ (w' : World), updIs Tryz.prog 99 (Value.map x_88) (Value.int .i64 x) (Value.int .i64 x_89) w1_1 w' ∧ ∃ (m : Nat), Nat.succ m ≤ n_1 ∧ I b (IntKind.wrap .i64 (n + 1)) w' m) False)) False) False) False) (∀ (w'_8 : World), w'_8 = World.alloc w' (Obj.cells #[Value.int .i64 0] 3) → wr w'_8 w'.heap.size 0 ∧ ∀ (w'_9 : World), w'_9 = st w'_8 w'.heap.size 0 (Value.int .i64 0) → ∃ (x : Option Addr) (x_74 x_75 : Nat), rd w'_9 w.heap.size 95 = some (.slice x x_74 x_75) ∧ Calls Tryz.prog 39 #[slice x x_74 x_75, Value.func (Fn.func 38) #[] #[Value.pointer (some (Addr.mk w'_5.heap.size 0 none))]] w'_9 fun (e : Ending) (w'_10 : World) => ∃ (b : Bool), e = Ending.returned (Value.bool b) ∧ ∃ (x : Option Addr) (x_76 x_77 : Nat), (b = true → rd w'_10 w.heap.size 96 = some (.slice x x_76 x_77)) ∧ Wif b (Calls Tryz.prog 40 #[slice x x_76 x_77, Value.func (Fn.func 35) #[] #[Value.pointer (some (Addr.mk w'_5.heap.size 0 none))]] w'_10 fun (e : Ending) (w'_11 : World) => ∃ (b : Bool), e = Ending.returned (Value.bool b) ∧ ∃ (x : Option Addr) (x_78 x_79 : Nat), (b = true → rd w'_11 w.heap.size 98 = some (.slice x x_78 x_79)) ∧ Wif b (Calls Tryz.prog 36 #[slice x x_78 x_79, Value.func (Fn.func 41) #[] #[Value.pointer (some (Addr.mk w'_5.heap.size 0 none))]] w'_11 fun (e : Ending) (w'_12 : World) => ∃ (b : Bool), e = Ending.returned (Value.bool b) ∧ ∃ (x : Option Addr) (x_80 x_81 : Nat), (b = true → rd w'_12 w.heap.size 97 = some (.slice x x_80 x_81)) ∧ Wif b (Calls Tryz.prog 43 #[slice x x_80 x_81, Value.func (Fn.func 44) #[] #[Value.pointer (some (Addr.mk w'_5.heap.size 0 none))]] w'_12 fun (e : Ending) (w'_13 : World) => ∃ (b : Bool), e = Ending.returned (Value.bool b) ∧ ∃ (x : Option Addr) (x_82 x_83 : Nat), (b = true → rd w'_13 w.heap.size 104 = some (.slice x x_82 x_83)) ∧ ∃ (x_84 : Option Addr), (b = true → rd w'_13 w'_5.heap.size 0 = some (.pointer x_84)) ∧ Wif b (Calls Tryz.prog 47 #[slice x x_82 x_83, Value.func (Fn.func 48) #[Value.pointer x_84] #[]] w'_13 fun (e : Ending) (w'_14 : World) => ∃ (b : Bool), e = Ending.returned (Value.bool b) ∧ ∃ (x : Option Addr) (x_85 x_86 : Nat), (b = true → rd w'_14 w.heap.size 101 = some (.slice x x_85 x_86)) ∧ Wif b (Calls Tryz.prog 40 #[slice x x_85 x_86, Value.func (Fn.func 35) #[] #[Value.pointer (some (Addr.mk w'_5.heap.size 0 none))]] w'_14 fun (e : Ending) (w'_15 : World) => ∃ (b : Bool), e = Ending.returned (Value.bool b) ∧ ∃ (x : Option Addr) (x_87 x_88 : Nat), (b = true → rd w'_15 w.heap.size 105 = some (.slice x x_87 x_88)) ∧ ∃ (x_89 : Option Addr), (b = true → rd w'_15 w'_5.heap.size 0 = some (.pointer x_89)) ∧ Wif b (Calls Tryz.prog 47 #[slice x x_87 x_88, Value.func (Fn.func 48) #[Value.pointer x_89] #[]] w'_15 fun (e : Ending) (w'_16 : World) => ∃ (b : Bool), e = Ending.returned (Value.bool b) ∧ ∃ (x : Option Addr) (x_90 x_91 : Nat), (b = true → rd w'_16 w.heap.size 103 = some (.slice x x_90 x_91)) ∧ ∃ (x_92 : Option Addr), (b = true → rd w'_16 w'_5.heap.size 0 = some (.pointer x_92)) ∧ Wif b (Calls Tryz.prog 49 #[slice x x_90 x_91, Value.func (Fn.func 50) #[Value.pointer x_92] #[]] w'_16 fun (e : Ending) (w'_17 : World) => ∃ (b : Bool), e = Ending.returned (Value.bool b) ∧ ∃ (x : Option Addr) (x_93 x_94 : Nat), (b = true → rd w'_17 w.heap.size 99 = some (.slice x x_93 x_94)) ∧ Wif b (Calls Tryz.prog 51 #[slice x x_93 x_94, Value.func (Fn.func 33) #[] #[Value.pointer (some (Addr.mk w'.heap.size 0 none)), Value.pointer (some (Addr.mk w'_5.heap.size 0 none))]] w'_17 fun (e : Ending) (w' : World) => ∃ (b : Bool), e = Ending.returned (Value.bool b) ∧ ∃ (x : Option Addr) (x_95 x_96 : Nat), (b = true → rd w' w.heap.size 100 = some (.slice x x_95 x_96)) ∧ Wif b (Calls Tryz.prog 52 #[slice x x_95 x_96, Value.func (Fn.func 53) #[] #[Value.pointer (some (Addr.mk w'_5.heap.size 0 none))]] w' fun (e : Ending) (w' : World) => ∃ (b : Bool), e = Ending.returned (Value.bool b) ∧ ∃ (x : Option Addr) (x_97 x_98 : Nat), (b = true → rd w' w.heap.size 102 = some (.slice x x_97 x_98)) ∧ Wif b (Calls Tryz.prog 52 #[slice x x_97 x_98, Value.func (Fn.func 55) #[] #[Value.pointer (some (Addr.mk w'_5.heap.size 0 none))]] w' fun (e : Ending) (w' : World) => ∃ (b : Bool), e = Ending.returned (Value.bool b) ∧ K (Value.bool b) w') (K (Value.bool false) w')) (K (Value.bool false) w')) (K (Value.bool false) w'_17)) (K (Value.bool false) w'_16)) (K (Value.bool false) w'_15)) (K (Value.bool false) w'_14)) (K (Value.bool false) w'_13)) (K (Value.bool false) w'_12)) (K (Value.bool false) w'_11)) (K (Value.bool false) w'_10))))
theorem vcE18 (x0 : Nat → Int) (x94 : Option Addr) (x94L : Nat) (x94C : Nat) (x95 : Option Addr) (x95L : Nat) (x95C : Nat) (x96 : Option Addr) (x96L : Nat) (x96C : Nat) (x97 : Option Addr) (x97L : Nat) (x97C : Nat) (x98 : Option Addr) (x98L : Nat) (x98C : Nat) (x99 : Option Addr) (x99L : Nat) (x99C : Nat) (x100 : Option Addr) (x100L : Nat) (x100C : Nat) (x101 : Option Addr) (x101L : Nat) (x101C : Nat) (x102 : Option Addr) (x102L : Nat) (x102C : Nat) (x103 : Option Addr) (x103L : Nat) (x103C : Nat) (x104 : Option Addr) (x104L : Nat) (x104C : Nat) (x105 : Option Addr) (x105L : Nat) (x105C : Nat) (x106 : Option Addr) (x106L : Nat) (x106C : Nat) (w : World) (K : Value → World → Prop) : vcP18 x0 x94 x94L x94C x95 x95L x95C x96 x96L x96C x97 x97L x97C x98 x98L x98C x99 x99L x99C x100 x100L x100C x101 x101L x101C x102 x102L x102C x103 x103L x103C x104 x104L x104C x105 x105L x105C x106 x106L x106C w K = Eng.wBody Tryz.prog (Eng.handOf Tryz.prog [] 2) [] Tryz.f18 (Eng.bodyOf Tryz.f18) [Value.agg (List.toArray (runI .i64 x0 0 94 ++ [slice x94 x94L x94C, slice x95 x95L x95C, slice x96 x96L x96C, slice x97 x97L x97C, slice x98 x98L x98C, slice x99 x99L x99C, slice x100 x100L x100C, slice x101 x101L x101C, slice x102 x102L x102C, slice x103 x103L x103C, slice x104 x104L x104C, slice x105 x105L x105C, slice x106 x106L x106C]))] w K := by kernel_rfl
theorem vc18 (x0 : Nat → Int) (x94 : Option Addr) (x94L : Nat) (x94C : Nat) (x95 : Option Addr) (x95L : Nat) (x95C : Nat) (x96 : Option Addr) (x96L : Nat) (x96C : Nat) (x97 : Option Addr) (x97L : Nat) (x97C : Nat) (x98 : Option Addr) (x98L : Nat) (x98C : Nat) (x99 : Option Addr) (x99L : Nat) (x99C : Nat) (x100 : Option Addr) (x100L : Nat) (x100C : Nat) (x101 : Option Addr) (x101L : Nat) (x101C : Nat) (x102 : Option Addr) (x102L : Nat) (x102C : Nat) (x103 : Option Addr) (x103L : Nat) (x103C : Nat) (x104 : Option Addr) (x104L : Nat) (x104C : Nat) (x105 : Option Addr) (x105L : Nat) (x105C : Nat) (x106 : Option Addr) (x106L : Nat) (x106C : Nat) (w : World) (K : Value → World → Prop) (h : vcP18 x0 x94 x94L x94C x95 x95L x95C x96 x96L x96C x97 x97L x97C x98 x98L x98C x99 x99L x99C x100 x100L x100C x101 x101L x101C x102 x102L x102C x103 x103L x103C x104 x104L x104C x105 x105L x105C x106 x106L x106C w K) : Calls Tryz.prog 18 #[Value.agg (List.toArray (runI .i64 x0 0 94 ++ [slice x94 x94L x94C, slice x95 x95L x95C, slice x96 x96L x96C, slice x97 x97L x97C, slice x98 x98L x98C, slice x99 x99L x99C, slice x100 x100L x100C, slice x101 x101L x101C, slice x102 x102L x102C, slice x103 x103L x103C, slice x104 x104L x104C, slice x105 x105L x105C, slice x106 x106L x106C]))] w (fun e w' => ∃ v, e = .returned v ∧ K v w') := Eng.vc_of [] 2 [] Tryz.mixes Tryz.func18 (by kernel_rfl) (by kernel_rfl) (vcE18 x0 x94 x94L x94C x95 x95L x95C x96 x96L x96C x97 x97L x97C x98 x98L x98C x99 x99L x99C x100 x100L x100C x101 x101L x101C x102 x102L x102C x103 x103L x103C x104 x104L x104C x105 x105L x105C x106 x106L x106C w K) h
end Go.Proofs.YtikjgeenhbnkkaaGreatDoor
set_option linter.unusedSimpArgs false
set_option linter.unusedVariables false
set_option maxRecDepth 100000
namespace Go.Proofs.YtikjgeenhbnkkaaGreatDoor
open Go Eng
def LiP (L : List Slab) (l : List (List (Int × Int))) : Prop := l.length = 8 ∧ ∀ m ∈ l, ∀ o ∈ m, ObP L o
def TailP (x : Pic) (F : Int) : Prop :=
  (∀ b ∈ x.free, BlP F b) ∧ (∀ l ∈ x.held, ∀ f ∈ l, FrP F f) ∧ (∀ n ∈ x.flight, n = -1 ∨ SlP x.c n) ∧ (∀ l ∈ x.flying, ∀ o ∈ l, ObP x.slabs o) ∧ (∀ l ∈ x.mags, LiP x.slabs l) ∧
  (∀ l ∈ x.clocks, ∀ f ∈ l, FrP F f) ∧ (∀ l ∈ x.depots, LiP x.slabs l) ∧ (∀ s ∈ x.slabs, SlbP x.c s) ∧ RiseP x.c F 0 x.procs ∧ (∀ o ∈ x.frames, FrP F o.n ∧ PgP o.page) ∧ (∀ o ∈ x.slots, SlP x.c o.n ∧ PgP o.page)
theorem tail18 {w0 wl : World} {px bz z : Nat} {S : PicS} {x : Pic} {F : Int} {Q : Prop} (hQ : Q ↔ TailP x F) (K0 : Kept none' w0 wl) (hpx : ∀ i, i < 13 → rd wl px (94 + i) = some (S.v i)) (ob : rd wl bz 0 = some (pt z)) (h : ShAt wl z x.c F x.slabs) (P : PicR wl S x) (hm : MayP x.c) (hF : F ≤ 1024) (hz : SizR wl) :
  (∀ (w'_8 : World), w'_8 = World.alloc wl (Obj.cells #[Value.int IntKind.i64 0] 3) → wr w'_8 (Array.size (World.heap wl)) 0 ∧
∀ (w'_9 : World), w'_9 = st w'_8 (Array.size (World.heap wl)) 0 (Value.int IntKind.i64 0) →
∃ (xx : Option Addr), ∃ (x_74 : Nat), ∃ (x_75 : Nat), rd w'_9 px 95 = some (Value.slice xx x_74 x_75) ∧
Calls Proofs.Tryz.prog 39 #[Value.slice xx x_74 x_75, Value.func (Fn.func 38) #[] #[Value.pointer (some (Addr.mk bz 0 none))]] w'_9 fun (e : Ending) (w'_10 : World) => ∃ (b : Bool), e = Ending.returned (Value.bool b) ∧
∃ (xx : Option Addr), ∃ (x_76 : Nat), ∃ (x_77 : Nat),
(b = true → rd w'_10 px 96 = some (Value.slice xx x_76 x_77)) ∧
Wif b (Calls Proofs.Tryz.prog 40 #[Value.slice xx x_76 x_77, Value.func (Fn.func 35) #[] #[Value.pointer (some (Addr.mk bz 0 none))]] w'_10 fun (e : Ending) (w'_11 : World) => ∃ (b : Bool), e = Ending.returned (Value.bool b) ∧
∃ (xx : Option Addr), ∃ (x_78 : Nat), ∃ (x_79 : Nat),
(b = true → rd w'_11 px 98 = some (Value.slice xx x_78 x_79)) ∧
Wif b (Calls Proofs.Tryz.prog 36 #[Value.slice xx x_78 x_79, Value.func (Fn.func 41) #[] #[Value.pointer (some (Addr.mk bz 0 none))]] w'_11 fun (e : Ending) (w'_12 : World) => ∃ (b : Bool), e = Ending.returned (Value.bool b) ∧
∃ (xx : Option Addr), ∃ (x_80 : Nat), ∃ (x_81 : Nat),
(b = true → rd w'_12 px 97 = some (Value.slice xx x_80 x_81)) ∧
Wif b (Calls Proofs.Tryz.prog 43 #[Value.slice xx x_80 x_81, Value.func (Fn.func 44) #[] #[Value.pointer (some (Addr.mk bz 0 none))]] w'_12 fun (e : Ending) (w'_13 : World) => ∃ (b : Bool), e = Ending.returned (Value.bool b) ∧
∃ (xx : Option Addr), ∃ (x_82 : Nat), ∃ (x_83 : Nat),
(b = true → rd w'_13 px 104 = some (Value.slice xx x_82 x_83)) ∧
∃ (x_84 : Option Addr),
(b = true → rd w'_13 bz 0 = some (Value.pointer x_84)) ∧
Wif b (Calls Proofs.Tryz.prog 47 #[Value.slice xx x_82 x_83, Value.func (Fn.func 48) #[Value.pointer x_84] #[]] w'_13 fun (e : Ending) (w'_14 : World) => ∃ (b : Bool), e = Ending.returned (Value.bool b) ∧
∃ (xx : Option Addr), ∃ (x_85 : Nat), ∃ (x_86 : Nat),
(b = true → rd w'_14 px 101 = some (Value.slice xx x_85 x_86)) ∧
Wif b (Calls Proofs.Tryz.prog 40 #[Value.slice xx x_85 x_86, Value.func (Fn.func 35) #[] #[Value.pointer (some (Addr.mk bz 0 none))]] w'_14 fun (e : Ending) (w'_15 : World) => ∃ (b : Bool), e = Ending.returned (Value.bool b) ∧
∃ (xx : Option Addr), ∃ (x_87 : Nat), ∃ (x_88 : Nat),
(b = true → rd w'_15 px 105 = some (Value.slice xx x_87 x_88)) ∧
∃ (x_89 : Option Addr),
(b = true → rd w'_15 bz 0 = some (Value.pointer x_89)) ∧
Wif b (Calls Proofs.Tryz.prog 47 #[Value.slice xx x_87 x_88, Value.func (Fn.func 48) #[Value.pointer x_89] #[]] w'_15 fun (e : Ending) (w'_16 : World) => ∃ (b : Bool), e = Ending.returned (Value.bool b) ∧
∃ (xx : Option Addr), ∃ (x_90 : Nat), ∃ (x_91 : Nat),
(b = true → rd w'_16 px 103 = some (Value.slice xx x_90 x_91)) ∧
∃ (x_92 : Option Addr),
(b = true → rd w'_16 bz 0 = some (Value.pointer x_92)) ∧
Wif b (Calls Proofs.Tryz.prog 49 #[Value.slice xx x_90 x_91, Value.func (Fn.func 50) #[Value.pointer x_92] #[]] w'_16 fun (e : Ending) (w'_17 : World) => ∃ (b : Bool), e = Ending.returned (Value.bool b) ∧
∃ (xx : Option Addr), ∃ (x_93 : Nat), ∃ (x_94 : Nat),
(b = true → rd w'_17 px 99 = some (Value.slice xx x_93 x_94)) ∧
Wif b (Calls Proofs.Tryz.prog 51 #[Value.slice xx x_93 x_94, Value.func (Fn.func 33) #[] #[Value.pointer (some (Addr.mk (Array.size (World.heap wl)) 0 none)), Value.pointer (some (Addr.mk bz 0 none))]] w'_17 fun (e : Ending) (w' : World) => ∃ (b : Bool), e = Ending.returned (Value.bool b) ∧
∃ (xx : Option Addr), ∃ (x_95 : Nat), ∃ (x_96 : Nat),
(b = true → rd w' px 100 = some (Value.slice xx x_95 x_96)) ∧
Wif b (Calls Proofs.Tryz.prog 52 #[Value.slice xx x_95 x_96, Value.func (Fn.func 53) #[] #[Value.pointer (some (Addr.mk bz 0 none))]] w' fun (e : Ending) (w' : World) => ∃ (b : Bool), e = Ending.returned (Value.bool b) ∧
∃ (xx : Option Addr), ∃ (x_97 : Nat), ∃ (x_98 : Nat),
(b = true → rd w' px 102 = some (Value.slice xx x_97 x_98)) ∧
Wif b (Calls Proofs.Tryz.prog 52 #[Value.slice xx x_97 x_98, Value.func (Fn.func 55) #[] #[Value.pointer (some (Addr.mk bz 0 none))]] w' fun (e : Ending) (w' : World) => ∃ (b : Bool), e = Ending.returned (Value.bool b) ∧
TellsV w0 Q (Value.bool b) w') (TellsV w0 Q (Value.bool false) w')) (TellsV w0 Q (Value.bool false) w')) (TellsV w0 Q (Value.bool false) w'_17)) (TellsV w0 Q (Value.bool false) w'_16)) (TellsV w0 Q (Value.bool false) w'_15)) (TellsV w0 Q (Value.bool false) w'_14)) (TellsV w0 Q (Value.bool false) w'_13)) (TellsV w0 Q (Value.bool false) w'_12)) (TellsV w0 Q (Value.bool false) w'_11)) (TellsV w0 Q (Value.bool false) w'_10)) := by
  obtain rfl : Q = TailP x F := propext hQ
  intro w1 e1
  have o1 := own_alloc (c := [vi 0]) e1
  have k1 : Kept none' wl w1 := (Kept.refl _ _).al e1
  refine ⟨o1.wr Nat.zero_lt_one, ?_⟩
  intro w2 e2
  have o2 := o1.s1 e2
  have k2 : Kept none' wl w2 := k1.s1 e2 (.inr (Nat.le_refl _))
  refine ⟨_, _, _, k2.rd_some (hpx 1 (by decide)) id, ?_⟩
  refine (allP_blk (P := BlP F) rfl (P.free.k RPair.stab k2) ?_).mono ?_
  · intro y w' cs hin kk hr
    obtain rfl : cs = [vi y.1, vi y.2] := hr
    exact CallsV.mk 38 #[] #[pt bz] rfl (by kernel_rfl) (block_spec (h.k (k2.tr kk)) ((k2.tr kk).rd_some ob id) hF y)
  rintro _ w3 ⟨u1, rfl, kk3, hu1⟩
  have k3 := k2.tr kk3
  refine ⟨u1, rfl, _, _, _, fun _ => k3.rd_some (hpx 2 (by decide)) id, Wif_intro (fun t1 => ?_) (fun t1 => ?_)⟩
  rotate_left
  · exact ⟨false, rfl, K0.tr k3, ⟨fun g => by simp at g, fun g => by rw [hu1.2 g.1] at t1; exact absurd t1 (by simp)⟩⟩
  refine (allP_ints (P := fun l => ∀ f ∈ l, FrP F f) rfl (P.held.k (RL.stab RInt.stab) k3) ?_).mono ?_
  · intro y w' cs hin kk hr
    obtain ⟨a', l', c', rfl, hx⟩ := hr
    exact CallsV.mk 35 #[] #[pt bz] rfl (by kernel_rfl) (c35_spec (h.k (k3.tr kk)) ((k3.tr kk).rd_some ob id) hx)
  rintro _ w4 ⟨u2, rfl, kk4, hu2⟩
  have k4 := k3.tr kk4
  refine ⟨u2, rfl, _, _, _, fun _ => k4.rd_some (hpx 4 (by decide)) id, Wif_intro (fun t2 => ?_) (fun t2 => ?_)⟩
  rotate_left
  · exact ⟨false, rfl, K0.tr k4, ⟨fun g => by simp at g, fun g => by rw [hu2.2 g.2.1] at t2; exact absurd t2 (by simp)⟩⟩
  refine (allP_int (P := fun n => n = -1 ∨ SlP x.c n) rfl (P.flight.k RInt.stab k4) ?_).mono ?_
  · intro y w' cs hin kk hr
    obtain rfl : cs = [vi y] := hr
    exact CallsV.mk 41 #[] #[pt bz] rfl (by kernel_rfl) (c41_spec (h.k (k4.tr kk)) ((k4.tr kk).rd_some ob id) y)
  rintro _ w5 ⟨u3, rfl, kk5, hu3⟩
  have k5 := k4.tr kk5
  refine ⟨u3, rfl, _, _, _, fun _ => k5.rd_some (hpx 3 (by decide)) id, Wif_intro (fun t3 => ?_) (fun t3 => ?_)⟩
  rotate_left
  · exact ⟨false, rfl, K0.tr k5, ⟨fun g => by simp at g, fun g => by rw [hu3.2 g.2.2.1] at t3; exact absurd t3 (by simp)⟩⟩
  refine (allP_objs (P := fun l => ∀ o ∈ l, ObP x.slabs o) rfl (P.flying.k (RL.stab RPair.stab) k5) ?_).mono ?_
  · intro y w' cs hin kk hr
    obtain ⟨a', l', c', rfl, hx⟩ := hr
    exact CallsV.mk 44 #[] #[pt bz] rfl (by kernel_rfl) (c44_spec (h.k (k5.tr kk)) ((k5.tr kk).rd_some ob id) hx)
  rintro _ w6 ⟨u4, rfl, kk6, hu4⟩
  have k6 := k5.tr kk6
  refine ⟨u4, rfl, _, _, _, fun _ => k6.rd_some (hpx 10 (by decide)) id, _, fun _ => k6.rd_some ob id, Wif_intro (fun t4 => ?_) (fun t4 => ?_)⟩
  rotate_left
  · exact ⟨false, rfl, K0.tr k6, ⟨fun g => by simp at g, fun g => by rw [hu4.2 g.2.2.2.1] at t4; exact absurd t4 (by simp)⟩⟩
  refine (allP_objss (P := LiP x.slabs) rfl (P.mags.k (RL.stab (RL.stab RPair.stab)) k6) ?_).mono ?_
  · intro y w' cs hin kk hr
    obtain ⟨a', l', c', rfl, hx⟩ := hr
    exact CallsV.mk 48 #[pt z] #[] rfl (by kernel_rfl) (lists_spec (h.k (k6.tr kk)) hx)
  rintro _ w7 ⟨u5, rfl, kk7, hu5⟩
  have k7 := k6.tr kk7
  refine ⟨u5, rfl, _, _, _, fun _ => k7.rd_some (hpx 7 (by decide)) id, Wif_intro (fun t5 => ?_) (fun t5 => ?_)⟩
  rotate_left
  · exact ⟨false, rfl, K0.tr k7, ⟨fun g => by simp at g, fun g => by rw [hu5.2 g.2.2.2.2.1] at t5; exact absurd t5 (by simp)⟩⟩
  refine (allP_ints (P := fun l => ∀ f ∈ l, FrP F f) rfl (P.clocks.k (RL.stab RInt.stab) k7) ?_).mono ?_
  · intro y w' cs hin kk hr
    obtain ⟨a', l', c', rfl, hx⟩ := hr
    exact CallsV.mk 35 #[] #[pt bz] rfl (by kernel_rfl) (c35_spec (h.k (k7.tr kk)) ((k7.tr kk).rd_some ob id) hx)
  rintro _ w8 ⟨u6, rfl, kk8, hu6⟩
  have k8 := k7.tr kk8
  refine ⟨u6, rfl, _, _, _, fun _ => k8.rd_some (hpx 11 (by decide)) id, _, fun _ => k8.rd_some ob id, Wif_intro (fun t6 => ?_) (fun t6 => ?_)⟩
  rotate_left
  · exact ⟨false, rfl, K0.tr k8, ⟨fun g => by simp at g, fun g => by rw [hu6.2 g.2.2.2.2.2.1] at t6; exact absurd t6 (by simp)⟩⟩
  refine (allP_objss (P := LiP x.slabs) rfl (P.depots.k (RL.stab (RL.stab RPair.stab)) k8) ?_).mono ?_
  · intro y w' cs hin kk hr
    obtain ⟨a', l', c', rfl, hx⟩ := hr
    exact CallsV.mk 48 #[pt z] #[] rfl (by kernel_rfl) (lists_spec (h.k (k8.tr kk)) hx)
  rintro _ w9 ⟨u7, rfl, kk9, hu7⟩
  have k9 := k8.tr kk9
  refine ⟨u7, rfl, _, _, _, fun _ => k9.rd_some (hpx 9 (by decide)) id, _, fun _ => k9.rd_some ob id, Wif_intro (fun t7 => ?_) (fun t7 => ?_)⟩
  rotate_left
  · exact ⟨false, rfl, K0.tr k9, ⟨fun g => by simp at g, fun g => by rw [hu7.2 g.2.2.2.2.2.2.1] at t7; exact absurd t7 (by simp)⟩⟩
  refine (allP_slab (P := SlbP x.c) rfl (P.slabs.k RSlab.stab k9) ?_).mono ?_
  · intro y w' cs hin kk hr
    skip
    exact CallsV.mk 50 #[pt z] #[] rfl (by kernel_rfl) (slab_spec (h.k (k9.tr kk)) hm (hz.k (k9.tr kk)) hin hr)
  rintro _ w10 ⟨u8, rfl, kk10, hu8⟩
  have k10 := k9.tr kk10
  refine ⟨u8, rfl, _, _, _, fun _ => k10.rd_some (hpx 5 (by decide)) id, Wif_intro (fun t8 => ?_) (fun t8 => ?_)⟩
  rotate_left
  · exact ⟨false, rfl, K0.tr k10, ⟨fun g => by simp at g, fun g => by rw [hu8.2 g.2.2.2.2.2.2.2.1] at t8; exact absurd t8 (by simp)⟩⟩
  have o := ((((((((o2.k kk3).k kk4).k kk5).k kk6).k kk7).k kk8).k kk9).k kk10)
  refine (rise_all (w0 := wl) (h.k k10) o ((k10).rd_some ob id) P.procs fun w' kk => (k10.mono fun _ _ g => g.elim).trans (Y := (· = wl.heap.size)) kk (fun _ _ g => g) |>.fresh fun _ g => g ▸ Nat.le_refl _).mono ?_
  rintro _ w11 ⟨u9, rfl, kx11, hu9⟩
  have k11 : Kept none' wl w11 := ((k10.mono fun _ _ g => g.elim).trans (Y := (· = wl.heap.size)) kx11 (fun _ _ g => g)).fresh fun _ g => g ▸ Nat.le_refl _
  refine ⟨u9, rfl, _, _, _, fun _ => k11.rd_some (hpx 6 (by decide)) id, Wif_intro (fun t9 => ?_) (fun t9 => ?_)⟩
  rotate_left
  · exact ⟨false, rfl, K0.tr k11, ⟨fun g => by simp at g, fun g => by rw [hu9.2 g.2.2.2.2.2.2.2.2.1] at t9; exact absurd t9 (by simp)⟩⟩
  refine (allP_own (P := fun o => FrP F o.n ∧ PgP o.page) rfl (P.frames.k ROwn.stab k11) ?_).mono ?_
  · intro y w' cs hin kk hr
    obtain rfl : cs = [vi y.n, vi y.pid, vi y.page] := hr
    exact CallsV.mk 53 #[] #[pt bz] rfl (by kernel_rfl) (c53_spec (h.k (k11.tr kk)) ((k11.tr kk).rd_some ob id) y)
  rintro _ w12 ⟨u10, rfl, kk12, hu10⟩
  have k12 := k11.tr kk12
  refine ⟨u10, rfl, _, _, _, fun _ => k12.rd_some (hpx 8 (by decide)) id, Wif_intro (fun t10 => ?_) (fun t10 => ?_)⟩
  rotate_left
  · exact ⟨false, rfl, K0.tr k12, ⟨fun g => by simp at g, fun g => by rw [hu10.2 g.2.2.2.2.2.2.2.2.2.1] at t10; exact absurd t10 (by simp)⟩⟩
  refine (allP_own (P := fun o => SlP x.c o.n ∧ PgP o.page) rfl (P.slots.k ROwn.stab k12) ?_).mono ?_
  · intro y w' cs hin kk hr
    obtain rfl : cs = [vi y.n, vi y.pid, vi y.page] := hr
    exact CallsV.mk 55 #[] #[pt bz] rfl (by kernel_rfl) (c55_spec (h.k (k12.tr kk)) ((k12.tr kk).rd_some ob id) y)
  rintro _ w13 ⟨u11, rfl, kk13, hu11⟩
  have k13 := k12.tr kk13
  exact ⟨u11, rfl, u11, rfl, K0.tr k13, hu11.trans ⟨fun g => ⟨hu1.1 t1, hu2.1 t2, hu3.1 t3, hu4.1 t4, hu5.1 t5, hu6.1 t6, hu7.1 t7, hu8.1 t8, hu9.1 t9, hu10.1 t10, g⟩, fun g => g.2.2.2.2.2.2.2.2.2.2⟩⟩
end Go.Proofs.YtikjgeenhbnkkaaGreatDoor
set_option linter.unusedSimpArgs false
set_option linter.unusedVariables false
set_option maxRecDepth 100000
namespace Go.Proofs.YtikjgeenhbnkkaaGreatDoor
open Go Eng
def picC (S : PicS) (c : Nat → Int) : List Value := runI .i64 c 0 94 ++ [S.v 0, S.v 1, S.v 2, S.v 3, S.v 4, S.v 5, S.v 6, S.v 7, S.v 8, S.v 9, S.v 10, S.v 11, S.v 12]
abbrev picV (S : PicS) (c : Nat → Int) : Value := .agg (picC S c).toArray
theorem picC_c (S : PicS) (c : Nat → Int) {j : Nat} (hj : j < 94) : (picC S c)[j]? = some (vi (c j)) := by
  unfold picC
  rw [List.getElem?_append_left (by rw [runI_len]; omega), runI_get _ _ _ _ _ hj, Nat.zero_add]
theorem picC_s (S : PicS) (c : Nat → Int) {i : Nat} (hi : i < 13) : (picC S c)[94 + i]? = some (S.v i) := by
  unfold picC
  rw [List.getElem?_append_right (by rw [runI_len]; omega), runI_len, show 94 + i - 94 = i by omega]
  match i, hi with
  | 0, _ | 1, _ | 2, _ | 3, _ | 4, _ | 5, _ | 6, _ | 7, _ | 8, _ | 9, _ | 10, _ | 11, _ | 12, _ => rfl
structure LensP (x : Pic) : Prop where
  marks : (x.marks.length : Int) = total x.c
  held : (x.held.length : Int) = x.c 1
  flying : (x.flying.length : Int) = x.c 1
  flight : (x.flight.length : Int) = x.c 1
  mags : (x.mags.length : Int) = x.c 1
  clocks : (x.clocks.length : Int) = x.c 0
  depots : (x.depots.length : Int) = x.c 0
  holders : (x.holders.length : Int) = 9 + x.c 0
def ShapeP (x : Pic) : Prop := MayP x.c ∧ LensP x ∧ (x.slabs.map Slab.frame).Nodup ∧ TailP x (total x.c)
theorem shape_spec {w : World} {S : PicS} {x : Pic} (P : PicR w S x) (hz : SizR w) (hrg : ∀ s ∈ x.slabs, -9223372036854775808 ≤ s.frame ∧ s.frame ≤ 9223372036854775807) : Calls Tryz.prog 18 #[picV S x.c] w (Tells w (ShapeP x)) := by
  refine (vc18 x.c (S.a 0) (S.l 0) (S.c 0) (S.a 1) (S.l 1) (S.c 1) (S.a 2) (S.l 2) (S.c 2) (S.a 3) (S.l 3) (S.c 3) (S.a 4) (S.l 4) (S.c 4) (S.a 5) (S.l 5) (S.c 5) (S.a 6) (S.l 6) (S.c 6) (S.a 7) (S.l 7) (S.c 7) (S.a 8) (S.l 8) (S.c 8) (S.a 9) (S.l 9) (S.c 9) (S.a 10) (S.l 10) (S.c 10) (S.a 11) (S.l 11) (S.c 11) (S.a 12) (S.l 12) (S.c 12) w (TellsV w (ShapeP x)) ?_).mono fun e w' => tells_of
  unfold vcP18
  intro w1 e1
  have op1 : own w1 w.heap.size (picC S x.c) := own_alloc e1
  have k1 : Kept none' w w1 := (Kept.refl _ _).al e1
  refine ⟨x.c, op1.run 0 fun j hj => by rw [Nat.zero_add]; exact picC_c S x.c hj, ?_⟩
  intro w2 e2
  have oc2 := own_alloc (c := List.replicate 94 (Value.int .i64 0)) e2
  have op2 := op1.al e2
  have k2 : Kept none' w w2 := k1.al e2
  refine ⟨oc2.wrAll 0 (by rw [runI_len]; simp), ?_⟩
  intro w3 e3 w4 e4
  obtain ⟨oc3, k23⟩ := stAll_whole oc2 e3 (by rw [runI_len]; simp)
  have hpc : w.heap.size < w1.heap.size := op1.lt
  have op3 := op2.kx k23 (fun e => by omega)
  have k3 : Kept none' w w3 := k2.trans k23 fun b hb e => by omega
  have oc4 := oc3.dr e4
  have op4 := op3.dr e4
  have k4 := k3.dr e4
  refine ⟨x.c, oc4.rIall, (may_spec x.c w4).mono ?_⟩
  rintro _ w5 ⟨mb, rfl, hmb, k45⟩
  have oc5 := oc4.k k45
  have op5 := op4.k k45
  have k5 := k4.tr k45
  have r5 : rd w5 w.heap.size 94 = some (S.v 0) := (op5.rd 94).trans (picC_s S x.c (i := 0) (by decide))
  refine ⟨mb, rfl, S.a 0, S.l 0, S.c 0, fun _ => r5, x.c, fun _ => oc5.rIall, Wif_intro (fun hc => ?_) (fun hc => ?_)⟩
  · refine ⟨fun _ => ⟨r5, trivial⟩, false, rfl, k5, ⟨fun g => by simp at g, fun g => ?_⟩⟩
    rw [hmb.2 g.1] at hc
    exact absurd hc (by simp)
  have hm : MayP x.c := hmb.1 (by simpa using hc)
  refine (total_spec x.c hm w5).mono ?_
  rintro _ w6 ⟨rfl, k56⟩
  have oc6 := oc5.k k56
  have op6 := op5.k k56
  have k6 := k5.tr k56
  have rp (i : Nat) (hi : i < 13) : rd w6 w.heap.size (94 + i) = some (S.v i) := (op6.rd _).trans (picC_s S x.c hi)
  have rc (i : Nat) (hi : i < 94) : rd w6 w1.heap.size i = some (vi (x.c i)) := oc6.rI hi
  refine ⟨total x.c, rfl, fun _ => ⟨rp 0 (by decide), trivial⟩, S.a 2, S.l 2, S.c 2, fun _ => rp 2 (by decide), x.c 1, fun _ => rc 1 (by decide), S.a 3, S.l 3, S.c 3, fun _ => rp 3 (by decide), x.c 1, fun _ => rc 1 (by decide), S.a 4, S.l 4, S.c 4, fun _ => rp 4 (by decide), x.c 1, fun _ => rc 1 (by decide), S.a 10, S.l 10, S.c 10, fun _ => rp 10 (by decide), x.c 1, fun _ => rc 1 (by decide), S.a 7, S.l 7, S.c 7, fun _ => rp 7 (by decide), x.c 0, fun _ => rc 0 (by decide), S.a 11, S.l 11, S.c 11, fun _ => rp 11 (by decide), x.c 0, fun _ => rc 0 (by decide), S.a 12, S.l 12, S.c 12, fun _ => rp 12 (by decide), x.c 0, fun _ => rc 0 (by decide), ?_⟩
  have hc0 := hm.1
  rw [wi (x := 9 + x.c 0) (by omega), P.marks.len, P.held.len, P.flying.len, P.flight.len, P.mags.len, P.clocks.len, P.depots.len, P.holders.len]
  refine Wif_intro (fun bad => ?_) (fun good => ?_)
  · refine ⟨false, rfl, k6, ⟨fun g => by simp at g, fun g => ?_⟩⟩
    obtain ⟨_, hl, _⟩ := g
    rw [hl.marks, hl.held, hl.flying, hl.flight, hl.mags, hl.clocks, hl.depots, hl.holders] at bad
    simp at bad
  have hl : LensP x := by
    simp only [Bool.or_eq_false_iff, bne_eq_false_iff_eq] at good
    obtain ⟨⟨⟨⟨⟨⟨⟨g1, g2⟩, g3⟩, g4⟩, g5⟩, g6⟩, g7⟩, g8⟩ := good
    exact ⟨g1, g2, g3, g4, g5, g6, g7, g8⟩
  refine ⟨x.c, S.a 0, S.l 0, S.c 0, S.a 1, S.l 1, S.c 1, S.a 2, S.l 2, S.c 2, S.a 3, S.l 3, S.c 3, S.a 4, S.l 4, S.c 4, S.a 5, S.l 5, S.c 5, S.a 6, S.l 6, S.c 6, S.a 7, S.l 7, S.c 7, S.a 8, S.l 8, S.c 8, S.a 9, S.l 9, S.c 9, S.a 10, S.l 10, S.c 10, S.a 11, S.l 11, S.c 11, S.a 12, S.l 12, S.c 12, op6.rdAll (vs := picC S x.c) 0 (fun j _ => by rw [Nat.zero_add]), S.a 0, S.l 0, S.c 0, rp 0 (by decide), ?_⟩
  intro w7 e7 w8 e8 w9 e9
  have hs7 : w7.heap.size = w6.heap.size + 1 := by rw [e7]; simp only [World.alloc, Array.size_push]
  have hs8 : w8.heap.size = w7.heap.size + 1 := by rw [e8]; simp only [World.alloc, Array.size_push]
  have h06 : w.heap.size < w6.heap.size := op6.lt
  have mp7 := map_new e7
  have op7 := op6.al e7
  have k7 : Kept none' w w7 := e7 ▸ k6.allocMap _ _
  have os8 : own w8 w7.heap.size (runI .i64 x.c 0 94 ++ [S.v 0, S.v 1, S.v 2, S.v 3, S.v 4, S.v 5, S.v 6, S.v 7, S.v 8, S.v 9, S.v 10, S.v 11, S.v 12, vi (S.l 0 : Nat), .map (some w6.heap.size)]) := own_alloc e8
  generalize hC : (runI .i64 x.c 0 94 ++ [S.v 0, S.v 1, S.v 2, S.v 3, S.v 4, S.v 5, S.v 6, S.v 7, S.v 8, S.v 9, S.v 10, S.v 11, S.v 12, vi (S.l 0 : Nat), .map (some w6.heap.size)]) = C at os8
  have C0 : ∀ j, j < 94 → C[j]? = some (vi (x.c j)) := fun j hj => by
    rw [← hC, List.getElem?_append_left (by rw [runI_len]; omega), runI_get _ _ _ _ _ hj, Nat.zero_add]
  have C1 : C[107]? = some (vi (S.l 0 : Nat)) := by
    rw [← hC, List.getElem?_append_right (by rw [runI_len]; omega), runI_len]; rfl
  have C2 : C[108]? = some (.map (some w6.heap.size)) := by
    rw [← hC, List.getElem?_append_right (by rw [runI_len]; omega), runI_len]; rfl
  have mp8 := mp7.al e8
  have op8 := op7.al e8
  have k8 := k7.al e8
  have ob9 := own_alloc (c := [.pointer none]) e9
  have mp9 := mp8.al e9
  have op9 := op8.al e9
  have os9 := os8.al e9
  have k9 := k8.al e9
  refine ⟨ob9.wr Nat.zero_lt_one, ?_⟩
  intro w10 e10
  have ob10 := ob9.s1 e10
  have mp10 := mp9.n1 e10 (by omega)
  have op10 := op9.n1 e10 (by omega)
  have os10 := os9.n1 e10 (by omega)
  have k10 := k9.s1 e10 (.inr (by omega))
  have hlen := P.slabs.len
  have h63 := P.slabs.lt63
  generalize hm6 : w6.heap.size = m at *
  generalize hz7 : w7.heap.size = z at *
  generalize hb8 : w8.heap.size = bz at *
  generalize hp0 : w.heap.size = px at *
  clear e1 e2 e3 e4 e7 e8 e9 e10
  refine ⟨S.a 9, S.l 9, S.c 9, (op10.rd 103).trans (picC_s S x.c (i := 9) (by decide)), fun _ n w' M => ∃ q : Nat, n = (q : Int) ∧ q ≤ x.slabs.length ∧ M = x.slabs.length - q ∧ Kept none' w w' ∧ own w' px (picC S x.c) ∧ own w' bz [pt z] ∧ own w' z C ∧ MapIs w' m (cnts (x.slabs.take q)), ⟨x.slabs.length, 0, rfl, by omega, rfl, k10, op10, ob10, os10, by simpa [cnts] using mp10⟩, ?_⟩
  rintro _ _ wl _ ⟨q, rfl, hq, rfl, kl, opl, obl, osl, mpl⟩
  refine Wif_intro (fun hc => ?_) (fun hc => ?_)
  · have hql : q < x.slabs.length := by simp at hc; omega
    have hs := P.slabs.k RSlab.stab kl
    obtain ⟨s, hsq⟩ : ∃ s, x.slabs[q]? = some s := ⟨x.slabs[q], List.getElem?_eq_getElem hql⟩
    obtain ⟨cs, hcs, hRx, hr⟩ := hs.el q s hsq
    obtain ⟨a1, l1, c1, a2, l2, c2, rfl, hx1, hx2⟩ := hRx
    refine Wif_yes (hs.isp (by omega)) (Wif_yes (inB_of (by omega) (by omega)) ?_)
    rw [Int.toNat_natCast]
    refine ⟨_, _, _, _, _, _, _, _, _, _, _, ⟨hr 0 _ rfl, hr 1 _ rfl, hr 2 _ rfl, hr 3 _ rfl, hr 4 _ rfl, hr 5 _ rfl, hr 6 _ rfl⟩, ?_⟩
    intro u1 f1
    have ox1 := own_alloc (c := [vi 0, vi 0, vi 0, vi 0, vi 0, .slice none 0 0, .slice none 0 0]) f1
    have kk1 : Kept none' w u1 := kl.al f1
    have n1 : px ≠ wl.heap.size := opl.ne_new
    have n2 : bz ≠ wl.heap.size := obl.ne_new
    have n3 : z ≠ wl.heap.size := osl.ne_new
    have n4 : m ≠ wl.heap.size := by have := mpl.lt; omega
    have op1' := opl.al f1
    have ob1' := obl.al f1
    have os1' := osl.al f1
    have mp1' := mpl.al f1
    refine ⟨⟨ox1.wr (by decide), ox1.wr (by decide), ox1.wr (by decide), ox1.wr (by decide), ox1.wr (by decide), ox1.wr (by decide), ox1.wr (by decide)⟩, ?_⟩
    intro u2 f2 u3 f3
    have ox2 : own u2 wl.heap.size [vi s.node, vi s.cls, vi s.frame, vi s.colour, vi s.count, .slice a1 l1 c1, .slice a2 l2 c2] := by
      rw [f2]; exact ((((((ox1.st_same).st_same).st_same).st_same).st_same).st_same).st_same
    have op2' : own u2 px (picC S x.c) := by rw [f2]; exact ((((((op1'.st_ne n1).st_ne n1).st_ne n1).st_ne n1).st_ne n1).st_ne n1).st_ne n1
    have ob2' : own u2 bz [pt z] := by rw [f2]; exact ((((((ob1'.st_ne n2).st_ne n2).st_ne n2).st_ne n2).st_ne n2).st_ne n2).st_ne n2
    have os2' : own u2 z C := by rw [f2]; exact ((((((os1'.st_ne n3).st_ne n3).st_ne n3).st_ne n3).st_ne n3).st_ne n3).st_ne n3
    have mp2' : MapIs u2 m (cnts (x.slabs.take q)) := ((((((mp1'.n1 rfl n4).n1 rfl n4).n1 rfl n4).n1 rfl n4).n1 rfl n4).n1 rfl n4).n1 f2 n4
    have hge : w.heap.size ≤ wl.heap.size := kl.sz
    have kk2 : Kept none' w u2 := by
      rw [f2]; exact ((((((kk1.st (.inr hge)).st (.inr hge)).st (.inr hge)).st (.inr hge)).st (.inr hge)).st (.inr hge)).st (.inr hge)
    have ox3 := ox2.dr f3
    have op3' := op2'.dr f3
    have ob3' := ob2'.dr f3
    have os3' := os2'.dr f3
    have mp3' := mp2'.dr f3
    have kk3 := kk2.dr f3
    have hmz : rd u3 z 108 = some (.map (some m)) := (os3'.rd 108).trans C2
    have hin : s ∈ x.slabs := List.mem_of_getElem? hsq
    have hd : x.slabs.take (q + 1) = x.slabs.take q ++ [s] := by
      rw [List.take_add_one, hsq]; rfl
    refine ⟨some ⟨z, 0, none⟩, by rw [ob3'.rd]; rfl, Wif_yes rfl ⟨some m, hmz, s.frame, by rw [ox3.rd]; rfl, ?_⟩⟩
    have hlk := look2 (P := Tryz.prog) (mt := 99) (vt := 3) (kt := 3) rfl rfl mp3' s.frame (z := vi 0) (Tryz.zeroValue3 u3)
    cases hk : (cnts (x.slabs.take q)).lookup s.frame with
    | some v =>
      obtain ⟨s', hs', he, rfl⟩ := cnts_some hk
      rw [hk] at hlk
      refine ⟨s'.count, true, hlk, Wif_yes rfl ⟨false, rfl, kk3, ⟨fun g => by simp at g, fun g => ?_⟩⟩⟩
      have hn := g.2.2.1
      rw [← List.take_append_drop (q + 1) x.slabs, hd, List.map_append, List.map_append] at hn
      have hn := (List.nodup_append.1 hn).1
      have := (List.nodup_append.1 hn).2.2 s'.frame (List.mem_map.2 ⟨s', hs', rfl⟩) s.frame (by simp)
      exact absurd he this
    | none =>
      rw [hk] at hlk
      refine ⟨0, false, hlk, Wif_no rfl ?_⟩
      intro u4 f4
      have ox4 := ox3.dr f4
      have op4' := op3'.dr f4
      have ob4' := ob3'.dr f4
      have os4' := os3'.dr f4
      have mp4' := mp3'.dr f4
      have kk4 := kk3.dr f4
      obtain ⟨u5, g5, mp5, kk45⟩ := upd_new (P := Tryz.prog) (mt := 99) (vt := 3) (kt := 3) rfl rfl mp4' s.frame (vi s.count) (hrg s hin) hk
      refine ⟨some ⟨z, 0, none⟩, by rw [ob4'.rd]; rfl, Wif_yes rfl ⟨some m, (os4'.rd 108).trans C2, s.frame, by rw [ox4.rd]; rfl, s.count, by rw [ox4.rd]; rfl, u5, g5, x.slabs.length - (q + 1), by omega, q + 1, by rw [wi (by omega)]; rfl, by omega, rfl, kk4.trans kk45 fun b hb e => by omega, op4'.kx kk45 (by omega), ob4'.kx kk45 (by omega), os4'.kx kk45 (by omega), ?_⟩⟩
      rw [hd]
      simpa [cnts] using mp5
  · have hql : q = x.slabs.length := by simp at hc; omega
    subst hql
    rw [List.take_length] at mpl
    have hnd : (x.slabs.map Slab.frame).Nodup := by
      have := mpl.nd
      simpa [cnts, Function.comp_def] using this
    have hF : ((S.l 0 : Nat) : Int) = total x.c := by rw [P.marks.len]; exact hl.marks
    refine tail18 (S := S) (x := x) (F := total x.c) (z := z) ⟨fun g => g.2.2.2, fun g => ⟨hm, hl, hnd, g⟩⟩ kl (fun i hi => (opl.rd _).trans (picC_s S x.c hi)) (by rw [obl.rd]; rfl) ⟨fun i hi => (osl.rd i).trans (C0 i hi), by rw [← hF]; exact (osl.rd 107).trans C1, m, (osl.rd 108).trans C2, mpl⟩ (P.k kl) hm (total_rng hm).2 (hz.k kl)
end Go.Proofs.YtikjgeenhbnkkaaGreatDoor
