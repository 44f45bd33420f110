/-
  A part of a proof that a law of this seat returns true at every input. Conditions: those in each theorem.
-/
import Derived.Test.YtikjgeenhbnkkaaGreatDoorEngP
import Derived.Test.YtikjgeenhbnkkaaGreatDoorProg
import Derived.KernelRfl
import Derived.Test.YtikjgeenhbnkkaaGreatDoorEngX
import Derived.Test.YtikjgeenhbnkkaaGreatDoorEngR
import Derived.Test.YtikjgeenhbnkkaaGreatDoorEngT
import Derived.Test.YtikjgeenhbnkkaaGreatDoorEngQ
namespace Go.Proofs
theorem Tryz.mixes : Tryz.prog.follows .mixedOrders = true := by kernel_rfl
end Go.Proofs
set_option linter.unusedVariables false
set_option maxRecDepth 100000
namespace Go.Proofs.YtikjgeenhbnkkaaGreatDoor
open Go Go.Eng
open Go.Value (slice)
/- byre/byrelaw28.fresh -/
def vcP30 (w : World) (K : Value → World → Prop) : Prop := ∀ (w' : World), w' = World.alloc w (Obj.cells (List.toArray (List.replicate 94 (Value.int .i64 0) ++ List.replicate 13 (slice none 0 0))) 37) → ∀ (w'_1 : World), w'_1 = World.alloc w' (Obj.cells (List.toArray (List.replicate 94 (Value.int .i64 0))) 26) → wrAll w'_1 w'.heap.size 0 ([Value.int .i64 1, Value.int .i64 1] ++ List.replicate 92 (Value.int .i64 0)) ∧ ∀ (w'_2 : World), w'_2 = stAll w'_1 w'.heap.size 0 ([Value.int .i64 1, Value.int .i64 1] ++ List.replicate 92 (Value.int .i64 0)) → wr w'_2 w'.heap.size 18 ∧ ∀ (w'_3 : World), w'_3 = st w'_2 w'.heap.size 18 (Value.int .i64 4) → ∃ (I : Option Addr → World → Prop), SemReg Tryz.prog (Eng.regOps Tryz.f30 3) [6, 7, 8, 9, 10, 11, 12, 13, 14, 15, 16, 17, 2] [some (Ent.mk none (Value.pointer (some (Addr.mk w.heap.size 0 none))) none), some (Ent.mk none (Value.pointer (some (Addr.mk w'.heap.size 0 none))) none), none, some (Ent.mk none (Value.agg (List.toArray ([Value.int .i64 1, Value.int .i64 1] ++ List.replicate 92 (Value.int .i64 0)))) none), some (Ent.mk none (Value.pointer (some (Addr.mk w'.heap.size 18 none))) none), some (Ent.mk none (Value.pointer (some (Addr.mk w'.heap.size 18 none))) none), none, none, none, none, none, none, none, none, none, none, none, none, none, none, none, none, none, none, none, none, none, none, none, none, none, none, none, none, none, none] [(2, Shp.ptr)] I w'_3 ∧ ∀ (p : Option Addr) (w' : World), I p w' → ∃ (I : Int → World → Nat → Prop), (∃ (n : Nat), I 0 w' n) ∧ ∀ (n : Int) (w' : World) (n_1 : Nat), I n w' n_1 → Wif (decide (n < 4)) (Wif (isP p) (∃ (x : Option Addr) (x_1 x_2 : Nat), rd w' (pb p) (po p + 94) = some (.slice x x_1 x_2) ∧ ∀ (w'_4 : World), w'_4 = World.alloc w' (Obj.cells #[Value.int .u8 1, Value.int .i64 0, Value.int .i64 0, Value.int .i64 0, Value.int .i64 0] 61) → ∃ (a : Option Addr) (l c : Nat) (w'_5 : World), appIs Tryz.prog #[27, 27] 27 (slice x x_1 x_2) (slice (some (Addr.mk w'.heap.size 0 none)) 1 1) (slice a l c) w'_4 w'_5 ∧ Wif (isP p) (wr w'_5 (pb p) (po p + 94) ∧ ∀ (w' : World), w' = st w'_5 (pb p) (po p + 94) (slice a l c) → ∃ (m : Nat), Nat.succ m ≤ n_1 ∧ I (IntKind.wrap .i64 (n + 1)) w' m) False) False) (∃ (I : Int → World → Nat → Prop), (∃ (n : Nat), I 0 w' n) ∧ ∀ (n : Int) (w' : World) (n_2 : Nat), I n w' n_2 → Wif (decide (n < 10)) (Wif (isP p) (∃ (x : Option Addr) (x_1 x_2 : Nat), rd w' (pb p) (po p + 106) = some (.slice x x_1 x_2) ∧ ∀ (w'_4 : World), w'_4 = World.alloc w' (Obj.cells #[Value.int .i64 (-1)] 3) → ∃ (a : Option Addr) (l c : Nat) (w'_5 : World), appIs Tryz.prog #[31, 31] 31 (slice x x_1 x_2) (slice (some (Addr.mk w'.heap.size 0 none)) 1 1) (slice a l c) w'_4 w'_5 ∧ Wif (isP p) (wr w'_5 (pb p) (po p + 106) ∧ ∀ (w' : World), w' = st w'_5 (pb p) (po p + 106) (slice a l c) → ∃ (m : Nat), Nat.succ m ≤ n_2 ∧ I (IntKind.wrap .i64 (n + 1)) w' m) False) False) (Wif (isP p) (∃ (x : Nat → Int) (x_1 : Option Addr) (x_2 x_3 : Nat) (x_4 : Option Addr) (x_5 x_6 : Nat) (x_7 : Option Addr) (x_8 x_9 : Nat) (x_10 : Option Addr) (x_11 x_12 : Nat) (x_13 : Option Addr) (x_14 x_15 : Nat) (x_16 : Option Addr) (x_17 x_18 : Nat) (x_19 : Option Addr) (x_20 x_21 : Nat) (x_22 : Option Addr) (x_23 x_24 : Nat) (x_25 : Option Addr) (x_26 x_27 : Nat) (x_28 : Option Addr) (x_29 x_30 : Nat) (x_31 : Option Addr) (x_32 x_33 : Nat) (x_34 : Option Addr) (x_35 x_36 : Nat) (x_37 : Option Addr) (x_38 x_39 : Nat), rdAll w' (pb p) (po p) (runI .i64 x 0 94 ++ [slice x_1 x_2 x_3, slice x_4 x_5 x_6, slice x_7 x_8 x_9, slice x_10 x_11 x_12, slice x_13 x_14 x_15, slice x_16 x_17 x_18, slice x_19 x_20 x_21, slice x_22 x_23 x_24, slice x_25 x_26 x_27, slice x_28 x_29 x_30, slice x_31 x_32 x_33, slice x_34 x_35 x_36, slice x_37 x_38 x_39]) ∧ wrAll w' w.heap.size 0 (runI .i64 x 0 94 ++ [slice x_1 x_2 x_3, slice x_4 x_5 x_6, slice x_7 x_8 x_9, slice x_10 x_11 x_12, slice x_13 x_14 x_15, slice x_16 x_17 x_18, slice x_19 x_20 x_21, slice x_22 x_23 x_24, slice x_25 x_26 x_27, slice x_28 x_29 x_30, slice x_31 x_32 x_33, slice x_34 x_35 x_36, slice x_37 x_38 x_39]) ∧ ∀ (w'_4 : World), w'_4 = stAll w' w.heap.size 0 (runI .i64 x 0 94 ++ [slice x_1 x_2 x_3, slice x_4 x_5 x_6, slice x_7 x_8 x_9, slice x_10 x_11 x_12, slice x_13 x_14 x_15, slice x_16 x_17 x_18, slice x_19 x_20 x_21, slice x_22 x_23 x_24, slice x_25 x_26 x_27, slice x_28 x_29 x_30, slice x_31 x_32 x_33, slice x_34 x_35 x_36, slice x_37 x_38 x_39]) → ∃ (x : Nat → Int) (x_40 : Option Addr) (x_41 x_42 : Nat) (x_43 : Option Addr) (x_44 x_45 : Nat) (x_46 : Option Addr) (x_47 x_48 : Nat) (x_49 : Option Addr) (x_50 x_51 : Nat) (x_52 : Option Addr) (x_53 x_54 : Nat) (x_55 : Option Addr) (x_56 x_57 : Nat) (x_58 : Option Addr) (x_59 x_60 : Nat) (x_61 : Option Addr) (x_62 x_63 : Nat) (x_64 : Option Addr) (x_65 x_66 : Nat) (x_67 : Option Addr) (x_68 x_69 : Nat) (x_70 : Option Addr) (x_71 x_72 : Nat) (x_73 : Option Addr) (x_74 x_75 : Nat) (x_76 : Option Addr) (x_77 x_78 : Nat), rdAll w'_4 w.heap.size 0 (runI .i64 x 0 94 ++ [slice x_40 x_41 x_42, slice x_43 x_44 x_45, slice x_46 x_47 x_48, slice x_49 x_50 x_51, slice x_52 x_53 x_54, slice x_55 x_56 x_57, slice x_58 x_59 x_60, slice x_61 x_62 x_63, slice x_64 x_65 x_66, slice x_67 x_68 x_69, slice x_70 x_71 x_72, slice x_73 x_74 x_75, slice x_76 x_77 x_78]) ∧ K (Value.agg (List.toArray (runI .i64 x 0 94 ++ [slice x_40 x_41 x_42, slice x_43 x_44 x_45, slice x_46 x_47 x_48, slice x_49 x_50 x_51, slice x_52 x_53 x_54, slice x_55 x_56 x_57, slice x_58 x_59 x_60, slice x_61 x_62 x_63, slice x_64 x_65 x_66, slice x_67 x_68 x_69, slice x_70 x_71 x_72, slice x_73 x_74 x_75, slice x_76 x_77 x_78]))) w'_4) False))
theorem vcE30 (w : World) (K : Value → World → Prop) : vcP30  w K = Eng.wBody Tryz.prog (Eng.handOf Tryz.prog [] 1) [5000003, 100300021] Tryz.f30 (Eng.bodyOf Tryz.f30) [] w K := by kernel_rfl
theorem vc30 (w : World) (K : Value → World → Prop) (h : vcP30  w K) : Calls Tryz.prog 30 #[] w (fun e w' => ∃ v, e = .returned v ∧ K v w') := Eng.vc_of [] 1 [5000003, 100300021] Tryz.mixes Tryz.func30 (by kernel_rfl) (by kernel_rfl) (vcE30  w K) h
/- byre/byrelaw28.known -/
def vcP8 (w : World) (K : Value → World → Prop) : Prop := Calls Tryz.prog 30 #[] w fun (e : Ending) (w' : World) => ∃ (f : Nat → Int) (a : Option Addr) (l c : Nat) (a_1 : Option Addr) (l_1 c_1 : Nat) (a_2 : Option Addr) (l_2 c_2 : Nat) (a_3 : Option Addr) (l_3 c_3 : Nat) (a_4 : Option Addr) (l_4 c_4 : Nat) (a_5 : Option Addr) (l_5 c_5 : Nat) (a_6 : Option Addr) (l_6 c_6 : Nat) (a_7 : Option Addr) (l_7 c_7 : Nat) (a_8 : Option Addr) (l_8 c_8 : Nat) (a_9 : Option Addr) (l_9 c_9 : Nat) (a_10 : Option Addr) (l_10 c_10 : Nat) (a_11 : Option Addr) (l_11 c_11 : Nat) (a_12 : Option Addr) (l_12 c_12 : Nat), e = Ending.returned (Value.agg (List.toArray (runI .i64 f 0 94 ++ [slice a l c, slice a_1 l_1 c_1, slice a_2 l_2 c_2, slice a_3 l_3 c_3, slice a_4 l_4 c_4, slice a_5 l_5 c_5, slice a_6 l_6 c_6, slice a_7 l_7 c_7, slice a_8 l_8 c_8, slice a_9 l_9 c_9, slice a_10 l_10 c_10, slice a_11 l_11 c_11, slice a_12 l_12 c_12]))) ∧ ∀ (w'_1 : World), w'_1 = World.alloc w' (Obj.cells (List.toArray (List.replicate 94 (Value.int .i64 0) ++ List.replicate 13 (slice none 0 0))) 37) → wrAll w'_1 w'.heap.size 0 (runI .i64 f 0 94 ++ [slice a l c, slice a_1 l_1 c_1, slice a_2 l_2 c_2, slice a_3 l_3 c_3, slice a_4 l_4 c_4, slice a_5 l_5 c_5, slice a_6 l_6 c_6, slice a_7 l_7 c_7, slice a_8 l_8 c_8, slice a_9 l_9 c_9, slice a_10 l_10 c_10, slice a_11 l_11 c_11, slice a_12 l_12 c_12]) ∧ ∀ (w'_2 : World), w'_2 = stAll w'_1 w'.heap.size 0 (runI .i64 f 0 94 ++ [slice a l c, slice a_1 l_1 c_1, slice a_2 l_2 c_2, slice a_3 l_3 c_3, slice a_4 l_4 c_4, slice a_5 l_5 c_5, slice a_6 l_6 c_6, slice a_7 l_7 c_7, slice a_8 l_8 c_8, slice a_9 l_9 c_9, slice a_10 l_10 c_10, slice a_11 l_11 c_11, slice a_12 l_12 c_12]) → ∃ (x : Nat → Int) (x_1 : Option Addr) (x_2 x_3 : Nat) (x_4 : Option Addr) (x_5 x_6 : Nat) (x_7 : Option Addr) (x_8 x_9 : Nat) (x_10 : Option Addr) (x_11 x_12 : Nat) (x_13 : Option Addr) (x_14 x_15 : Nat) (x_16 : Option Addr) (x_17 x_18 : Nat) (x_19 : Option Addr) (x_20 x_21 : Nat) (x_22 : Option Addr) (x_23 x_24 : Nat) (x_25 : Option Addr) (x_26 x_27 : Nat) (x_28 : Option Addr) (x_29 x_30 : Nat) (x_31 : Option Addr) (x_32 x_33 : Nat) (x_34 : Option Addr) (x_35 x_36 : Nat) (x_37 : Option Addr) (x_38 x_39 : Nat), rdAll w'_2 w'.heap.size 0 (runI .i64 x 0 94 ++ [slice x_1 x_2 x_3, slice x_4 x_5 x_6, slice x_7 x_8 x_9, slice x_10 x_11 x_12, slice x_13 x_14 x_15, slice x_16 x_17 x_18, slice x_19 x_20 x_21, slice x_22 x_23 x_24, slice x_25 x_26 x_27, slice x_28 x_29 x_30, slice x_31 x_32 x_33, slice x_34 x_35 x_36, slice x_37 x_38 x_39]) ∧ Calls Tryz.prog 7 #[Value.agg (List.toArray (runI .i64 x 0 94 ++ [slice x_1 x_2 x_3, slice x_4 x_5 x_6, slice x_7 x_8 x_9, slice x_10 x_11 x_12, slice x_13 x_14 x_15, slice x_16 x_17 x_18, slice x_19 x_20 x_21, slice x_22 x_23 x_24, slice x_25 x_26 x_27, slice x_28 x_29 x_30, slice x_31 x_32 x_33, slice x_34 x_35 x_36, slice x_37 x_38 x_39]))] w'_2 fun (e : Ending) (w'_3 : World) => ∃ (a : Option Addr) (l c : Nat), e = Ending.returned (slice a l c) ∧ Wif ((↑l : Int) != 0) (K (Value.bool false) w'_3) (wr w'_3 w'.heap.size 95 ∧ ∀ (w'_4 : World), w'_4 = st w'_3 w'.heap.size 95 (slice none 0 0) → ∃ (x : Nat → Int) (x_40 : Option Addr) (x_41 x_42 : Nat) (x_43 : Option Addr) (x_44 x_45 : Nat) (x_46 : Option Addr) (x_47 x_48 : Nat) (x_49 : Option Addr) (x_50 x_51 : Nat) (x_52 : Option Addr) (x_53 x_54 : Nat) (x_55 : Option Addr) (x_56 x_57 : Nat) (x_58 : Option Addr) (x_59 x_60 : Nat) (x_61 : Option Addr) (x_62 x_63 : Nat) (x_64 : Option Addr) (x_65 x_66 : Nat) (x_67 : Option Addr) (x_68 x_69 : Nat) (x_70 : Option Addr) (x_71 x_72 : Nat) (x_73 : Option Addr) (x_74 x_75 : Nat) (x_76 : Option Addr) (x_77 x_78 : Nat), rdAll w'_4 w'.heap.size 0 (runI .i64 x 0 94 ++ [slice x_40 x_41 x_42, slice x_43 x_44 x_45, slice x_46 x_47 x_48, slice x_49 x_50 x_51, slice x_52 x_53 x_54, slice x_55 x_56 x_57, slice x_58 x_59 x_60, slice x_61 x_62 x_63, slice x_64 x_65 x_66, slice x_67 x_68 x_69, slice x_70 x_71 x_72, slice x_73 x_74 x_75, slice x_76 x_77 x_78]) ∧ Calls Tryz.prog 7 #[Value.agg (List.toArray (runI .i64 x 0 94 ++ [slice x_40 x_41 x_42, slice x_43 x_44 x_45, slice x_46 x_47 x_48, slice x_49 x_50 x_51, slice x_52 x_53 x_54, slice x_55 x_56 x_57, slice x_58 x_59 x_60, slice x_61 x_62 x_63, slice x_64 x_65 x_66, slice x_67 x_68 x_69, slice x_70 x_71 x_72, slice x_73 x_74 x_75, slice x_76 x_77 x_78]))] w'_4 fun (e : Ending) (w' : World) => ∃ (a : Option Addr) (l c : Nat), e = Ending.returned (slice a l c) ∧ gIf (isP a) (((↑l : Int) == 4) = true) (gIf (inB 3 l) (((↑l : Int) == 4) = true) (∃ (x x_79 : Int), (((↑l : Int) == 4) = true → rd w' (pb a) (po a + 6) = some (.int .u8 x) ∧ rd w' (pb a) (po a + 7) = some (.int .i64 x_79)) ∧ K (Value.bool ((↑l : Int) == 4 && (x == 2 && (x_79 == 3 && true)))) w')))
theorem vcE8 (w : World) (K : Value → World → Prop) : vcP8  w K = Eng.wBody Tryz.prog (Eng.handOf Tryz.prog [] 1) [] Tryz.f8 (Eng.bodyOf Tryz.f8) [] w K := by kernel_rfl
theorem vc8 (w : World) (K : Value → World → Prop) (h : vcP8  w K) : Calls Tryz.prog 8 #[] w (fun e w' => ∃ v, e = .returned v ∧ K v w') := Eng.vc_of [] 1 [] Tryz.mixes Tryz.func8 (by kernel_rfl) (by kernel_rfl) (vcE8  w K) h
end Go.Proofs.YtikjgeenhbnkkaaGreatDoor
set_option linter.unusedSimpArgs false
set_option linter.unusedVariables false
namespace Go.Proofs.YtikjgeenhbnkkaaGreatDoor
open Go Eng
abbrev Rd (α : Type) := World → List Value → α → Prop
structure SlR {α : Type} (R : Rd α) (s : Nat) (w : World) (a : Option Addr) (l c : Nat) (xs : List α) : Prop where
  len : l = xs.length
  isp : 0 < l → isP a = true
  nil : a = none → c = 0
  lc : l ≤ c
  mx : c ≤ maxLen
  el : ∀ (i : Nat) (x : α), xs[i]? = some x → ∃ cs : List Value, cs.length = s ∧ R w cs x ∧ ∀ (j : Nat) (u : Value), cs[j]? = some u → rd w (pb a) (po a + i * s + j) = some u
def Stab {α : Type} (R : Rd α) : Prop := ∀ (w w' : World) (cs : List Value) (x : α), R w cs x → Kept none' w w' → R w' cs x
theorem SlR.k {α : Type} {R : Rd α} {s : Nat} {w w' : World} {a : Option Addr} {l c : Nat} {xs : List α} (h : SlR R s w a l c xs) (hs : Stab R) (k : Kept none' w w') : SlR R s w' a l c xs :=
  ⟨h.len, h.isp, h.nil, h.lc, h.mx, fun i x hx => by
    obtain ⟨cs, h1, h2, h3⟩ := h.el i x hx
    exact ⟨cs, h1, hs _ _ _ _ h2 k, fun j u hu => k.rd_some (h3 j u hu) id⟩⟩
theorem SlR.nil' {α : Type} {R : Rd α} {s : Nat} {w : World} : SlR R s w none 0 0 ([] : List α) :=
  ⟨rfl, fun h => absurd h (Nat.lt_irrefl _), fun _ => rfl, Nat.le_refl _, Nat.zero_le _, fun i x hx => by simp at hx⟩
def RL {α : Type} (R : Rd α) (s : Nat) : Rd (List α) := fun w cs xs => ∃ (a : Option Addr) (l c : Nat), cs = [.slice a l c] ∧ SlR R s w a l c xs
theorem RL.stab {α : Type} {R : Rd α} {s : Nat} (hs : Stab R) : Stab (RL R s) := fun w w' cs x h k => by
  obtain ⟨a, l, c, e, h⟩ := h
  exact ⟨a, l, c, e, h.k hs k⟩
structure Mark where
  role : Int
  order : Int
  owner : Int
  page : Int
  index : Int
deriving DecidableEq
structure Own where
  n : Int
  pid : Int
  page : Int
deriving DecidableEq
structure Mapped where
  page : Int
  kind : Int
  n : Int
deriving DecidableEq
structure Run where
  page : Int
  count : Int
  rights : Int
deriving DecidableEq
structure Proc where
  pid : Int
  root : Int
  leaves : List (Int × Int)
  pages : List Mapped
  pinned : List Int
  runs : List Run
structure Slab where
  node : Int
  cls : Int
  frame : Int
  colour : Int
  count : Int
  chain : List Int
  alive : List (Int × Int)
abbrev vi (n : Int) : Value := .int .i64 n
def RInt : Rd Int := fun _ cs n => cs = [vi n]
def RPair : Rd (Int × Int) := fun _ cs x => cs = [vi x.1, vi x.2]
def RAlive : Rd (Int × Int) := fun _ cs x => cs = [vi x.1, .int .u64 x.2]
def ROwn : Rd Own := fun _ cs x => cs = [vi x.n, vi x.pid, vi x.page]
def RMark : Rd Mark := fun _ cs x => cs = [.int .u8 x.role, vi x.order, vi x.owner, vi x.page, vi x.index]
def RMapped : Rd Mapped := fun _ cs x => cs = [vi x.page, .int .u8 x.kind, vi x.n]
def RRun : Rd Run := fun _ cs x => cs = [vi x.page, vi x.count, .int .u8 x.rights]
theorem stab_eq {α : Type} {f : α → List Value} : Stab (fun _ cs x => cs = f x) := fun _ _ _ _ h _ => h
theorem RInt.stab : Stab RInt := stab_eq
theorem RPair.stab : Stab RPair := stab_eq
theorem RAlive.stab : Stab RAlive := stab_eq
theorem ROwn.stab : Stab ROwn := stab_eq
theorem RMark.stab : Stab RMark := stab_eq
theorem RMapped.stab : Stab RMapped := stab_eq
theorem RRun.stab : Stab RRun := stab_eq
def RProc : Rd Proc := fun w cs p => ∃ (a1 : Option Addr) (l1 c1 : Nat) (a2 : Option Addr) (l2 c2 : Nat) (a3 : Option Addr) (l3 c3 : Nat) (a4 : Option Addr) (l4 c4 : Nat),
  cs = [vi p.pid, vi p.root, .slice a1 l1 c1, .slice a2 l2 c2, .slice a3 l3 c3, .slice a4 l4 c4] ∧ SlR RPair 2 w a1 l1 c1 p.leaves ∧ SlR RMapped 3 w a2 l2 c2 p.pages ∧ SlR RInt 1 w a3 l3 c3 p.pinned ∧ SlR RRun 3 w a4 l4 c4 p.runs
theorem RProc.stab : Stab RProc := fun w w' cs x h k => by
  obtain ⟨a1, l1, c1, a2, l2, c2, a3, l3, c3, a4, l4, c4, e, h1, h2, h3, h4⟩ := h
  exact ⟨a1, l1, c1, a2, l2, c2, a3, l3, c3, a4, l4, c4, e, h1.k RPair.stab k, h2.k RMapped.stab k, h3.k RInt.stab k, h4.k RRun.stab k⟩
def RSlab : Rd Slab := fun w cs p => ∃ (a1 : Option Addr) (l1 c1 : Nat) (a2 : Option Addr) (l2 c2 : Nat),
  cs = [vi p.node, vi p.cls, vi p.frame, vi p.colour, vi p.count, .slice a1 l1 c1, .slice a2 l2 c2] ∧ SlR RInt 1 w a1 l1 c1 p.chain ∧ SlR RAlive 2 w a2 l2 c2 p.alive
theorem RSlab.stab : Stab RSlab := fun w w' cs x h k => by
  obtain ⟨a1, l1, c1, a2, l2, c2, e, h1, h2⟩ := h
  exact ⟨a1, l1, c1, a2, l2, c2, e, h1.k RInt.stab k, h2.k RAlive.stab k⟩
structure Pic where
  c : Nat → Int
  marks : List Mark
  free : List (Int × Int)
  held : List (List Int)
  flying : List (List (Int × Int))
  flight : List Int
  procs : List Proc
  frames : List Own
  clocks : List (List Int)
  slots : List Own
  slabs : List Slab
  mags : List (List (List (Int × Int)))
  depots : List (List (List (Int × Int)))
  holders : List Int
structure PicS where
  a : Nat → Option Addr
  l : Nat → Nat
  c : Nat → Nat
def PicS.v (S : PicS) (i : Nat) : Value := .slice (S.a i) (S.l i) (S.c i)
structure PicR (w : World) (S : PicS) (x : Pic) : Prop where
  marks : SlR RMark 5 w (S.a 0) (S.l 0) (S.c 0) x.marks
  free : SlR RPair 2 w (S.a 1) (S.l 1) (S.c 1) x.free
  held : SlR (RL RInt 1) 1 w (S.a 2) (S.l 2) (S.c 2) x.held
  flying : SlR (RL RPair 2) 1 w (S.a 3) (S.l 3) (S.c 3) x.flying
  flight : SlR RInt 1 w (S.a 4) (S.l 4) (S.c 4) x.flight
  procs : SlR RProc 6 w (S.a 5) (S.l 5) (S.c 5) x.procs
  frames : SlR ROwn 3 w (S.a 6) (S.l 6) (S.c 6) x.frames
  clocks : SlR (RL RInt 1) 1 w (S.a 7) (S.l 7) (S.c 7) x.clocks
  slots : SlR ROwn 3 w (S.a 8) (S.l 8) (S.c 8) x.slots
  slabs : SlR RSlab 7 w (S.a 9) (S.l 9) (S.c 9) x.slabs
  mags : SlR (RL (RL RPair 2) 1) 1 w (S.a 10) (S.l 10) (S.c 10) x.mags
  depots : SlR (RL (RL RPair 2) 1) 1 w (S.a 11) (S.l 11) (S.c 11) x.depots
  holders : SlR RInt 1 w (S.a 12) (S.l 12) (S.c 12) x.holders
theorem PicR.k {w w' : World} {S : PicS} {x : Pic} (h : PicR w S x) (k : Kept none' w w') : PicR w' S x :=
  ⟨h.marks.k RMark.stab k, h.free.k RPair.stab k, h.held.k (RL.stab RInt.stab) k, h.flying.k (RL.stab RPair.stab) k, h.flight.k RInt.stab k, h.procs.k RProc.stab k, h.frames.k ROwn.stab k, h.clocks.k (RL.stab RInt.stab) k, h.slots.k ROwn.stab k, h.slabs.k RSlab.stab k, h.mags.k (RL.stab (RL.stab RPair.stab)) k, h.depots.k (RL.stab (RL.stab RPair.stab)) k, h.holders.k RInt.stab k⟩
theorem CallsV.mono {P : Program} {v : Value} {args : List Value} {w : World} {R R' : Ending → World → Prop} (h : CallsV P v args w R) (hr : ∀ e w', R e w' → R' e w') : CallsV P v args w R' := by
  obtain ⟨f, a, c, h1, h2, h3⟩ := h
  exact ⟨f, a, c, h1, h2, h3.mono hr⟩
end Go.Proofs.YtikjgeenhbnkkaaGreatDoor
set_option linter.unusedSimpArgs false
set_option linter.unusedVariables false
set_option maxRecDepth 100000
namespace Go.Proofs.YtikjgeenhbnkkaaGreatDoor
open Go Eng
noncomputable def ops30 : Array Oper := (regOps Tryz.f30 3).toArray
def cfg4 : Nat → Int := fun i => if i = 0 then 1 else if i = 1 then 1 else if i = 18 then 4 else 0
abbrev nl : Value := .slice none 0 0
abbrev sl (b n : Nat) : Value := .slice (some ⟨b, 0, none⟩) n n
def picL (β : Nat → Nat) : List Value := runI .i64 cfg4 0 94 ++ [nl, sl (β 10) 1, sl (β 1) 1, sl (β 2) 1, sl (β 3) 1, nl, nl, sl (β 4) 1, nl, nl, sl (β 6) 1, sl (β 8) 1, nl]
def slotF : Nat → Nat
  | 0 => 6 | 1 => 7 | 2 => 8 | 3 => 9 | 4 => 10 | 5 => 11 | 6 => 12 | 7 => 13 | 8 => 14 | 9 => 15 | 10 => 16 | 11 => 17 | _ => 2
def valF (β : Nat → Nat) : Nat → Value
  | 0 => .agg (runI .i64 cfg4 0 94).toArray
  | 1 => sl (β 1) 1 | 2 => sl (β 2) 1 | 3 => sl (β 3) 1 | 4 => sl (β 4) 1 | 5 => sl (β 5) 8 | 6 => sl (β 6) 1 | 7 => sl (β 7) 8 | 8 => sl (β 8) 1
  | 9 => .agg #[.int .i64 0, .int .i64 2]
  | 10 => sl (β 10) 1
  | 11 => .agg (picL β).toArray
  | _ => .pointer (some ⟨β 12, 0, none⟩)
def zer107 : List Value := List.replicate 94 (.int .i64 0) ++ List.replicate 13 nl
def celF (β : Nat → Nat) : Nat → List Value
  | 3 => [.int .i64 (-1)]
  | 5 => List.replicate 8 nl | 7 => List.replicate 8 nl
  | 6 => [sl (β 5) 8] | 8 => [sl (β 7) 8]
  | 10 => [.int .i64 0, .int .i64 2]
  | 12 => zer107
  | _ => [nl]
def isAl (i : Nat) : Bool := [1, 2, 3, 4, 5, 6, 7, 8, 10, 12].contains i
def depF : Nat → List Nat
  | 6 => [5, 6] | 8 => [7, 8] | 11 => [1, 2, 3, 4, 6, 8, 10] | i => [i]
theorem valF_congr {β β' : Nat → Nat} {i : Nat} (hi : i < 13) (h : ∀ k ∈ depF i, β' k = β k) : valF β' i = valF β i ∧ celF β' i = celF β i := by
  match i, hi with
  | 0, _ | 9, _ => exact ⟨rfl, rfl⟩
  | 1, _ | 2, _ | 3, _ | 4, _ | 5, _ | 7, _ | 10, _ | 12, _ => simp [depF] at h; simp [valF, celF, h]
  | 6, _ | 8, _ => simp [depF] at h; simp [valF, celF, h]
  | 11, _ => simp [depF] at h; simp [valF, celF, picL, h]
structure FInv (w0 : World) (a0 : Act) (β : Nat → Nat) (listed : Array Bool) (a : Act) (w : World) : Prop where
  size : a.tmps.size = 36
  defs : a.defers = a0.defers
  keep : ∀ t, t ∉ [6, 7, 8, 9, 10, 11, 12, 13, 14, 15, 16, 17, 2] → a.tmps[t]? = a0.tmps[t]?
  ls : listed.size = 14
  kp : Kept none' w0 w
  cl : Closed ops30 listed
  vals : ∀ i, i < 13 → listed.getD i false = true → a.tmps[slotF i]? = some (valF β i)
  cels : ∀ i, i < 13 → listed.getD i false = true → isAl i = true → own w (β i) (celF β i) ∧ w0.heap.size ≤ β i
  inj : ∀ i j, i < 13 → j < 13 → listed.getD i false = true → listed.getD j false = true → isAl i = true → isAl j = true → i ≠ j → β i ≠ β j
structure FFin (w0 : World) (β : Nat → Nat) (w : World) : Prop where
  kp : Kept none' w0 w
  pic : own w (β 12) (picL β) ∧ w0.heap.size ≤ β 12
  cels : ∀ i, i < 12 → isAl i = true → own w (β i) (celF β i) ∧ w0.heap.size ≤ β i ∧ β i ≠ β 12
theorem slotF_inj : ∀ i, i < 13 → ∀ j, j < 13 → slotF i = slotF j → i = j := by decide
theorem slotF_lt : ∀ i, i < 13 → slotF i < 36 := by decide
theorem getD_set_self {listed : Array Bool} {i : Nat} (h : i < listed.size) : (listed.setIfInBounds i true).getD i false = true := by simp [h]
section
variable {w0 : World} {a0 : Act} {β : Nat → Nat} {listed : Array Bool} {a : Act} {w : World}
theorem FInv.dep (h : FInv w0 a0 β listed a w) {i : Nat} (hi : i < 13) (hl : listed.getD i false = true) : ∀ k ∈ depF i, listed.getD k false = true := by
  intro k hk
  match i, hi with
  | 0, _ | 1, _ | 2, _ | 3, _ | 4, _ | 5, _ | 7, _ | 9, _ | 10, _ | 12, _ => simp [depF] at hk; subst hk; exact hl
  | 6, _ =>
    simp [depF] at hk
    rcases hk with rfl | rfl
    · exact h.cl.dep hl (by kernel_rfl)
    · exact hl
  | 8, _ =>
    simp [depF] at hk
    rcases hk with rfl | rfl
    · exact h.cl.dep hl (by kernel_rfl)
    · exact hl
  | 11, _ =>
    simp [depF] at hk
    rcases hk with rfl | rfl | rfl | rfl | rfl | rfl | rfl <;> exact h.cl.dep hl (by kernel_rfl)
theorem FInv.step (h : FInv w0 a0 β listed a w) {i : Nat} (hi : i < 13) (hr : i ∈ Region.ready .any ops30 listed) {β' : Nat → Nat} {w' : World} (hk : Kept none' w w') (hβ : ∀ k, k ≠ i → β' k = β k)
    (hnew : isAl i = true → own w' (β' i) (celF β' i) ∧ w.heap.size ≤ β' i) : FInv w0 a0 β' (listed.setIfInBounds i true) (a.put (some (slotF i)) (valF β' i)) w' := by
  obtain ⟨hun, hlt⟩ := ready_un hr
  have hsz := h.kp.sz
  have hsame : ∀ j, j < 13 → listed.getD j false = true → valF β' j = valF β j ∧ celF β' j = celF β j := fun j hj hl =>
    valF_congr hj fun k hkd => hβ k fun e => by
      have := h.dep hj hl k hkd
      rw [e, hun] at this
      cases this
  have old : ∀ j, (listed.setIfInBounds i true).getD j false = true → j ≠ i → listed.getD j false = true := fun j hj hne => (getD_set_cases hj).resolve_left hne
  refine ⟨by simp [Act.put, h.size], h.defs, fun t ht => ?_, by simp [h.ls], h.kp.tr hk, h.cl.set hr, fun j hj hl => ?_, fun j hj hl ha => ?_, fun j k hj hk' hlj hlk haj hak hne => ?_⟩
  · have hne : slotF i ≠ t := fun e => ht (by
      subst e
      match i, hi with
      | 0, _ | 1, _ | 2, _ | 3, _ | 4, _ | 5, _ | 6, _ | 7, _ | 8, _ | 9, _ | 10, _ | 11, _ | 12, _ => decide)
    rw [← h.keep t ht]
    simp [Act.put, Array.getElem?_setIfInBounds_ne hne]
  · by_cases hji : j = i
    · subst hji
      have := slotF_lt j hj
      simp [Act.put, h.size, this]
    · have hl' := old j hl hji
      have hne : slotF i ≠ slotF j := fun e => hji (slotF_inj i hi j hj e).symm
      rw [(hsame j hj hl').1, ← h.vals j hj hl']
      simp [Act.put, Array.getElem?_setIfInBounds_ne hne]
  · by_cases hji : j = i
    · subst hji
      have := hnew ha
      exact ⟨this.1, by omega⟩
    · have hl' := old j hl hji
      obtain ⟨g1, g2⟩ := h.cels j hj hl' ha
      rw [(hsame j hj hl').2, hβ j hji]
      exact ⟨g1.k hk, g2⟩
  · by_cases hji : j = i
    · subst hji
      have hl' := old k hlk (Ne.symm hne)
      have h1 := (hnew haj).2
      have h2 := (h.cels k hk' hl' hak).1.lt
      rw [hβ k (Ne.symm hne)]
      omega
    · have hl' := old j hlj hji
      by_cases hki : k = i
      · subst hki
        have h1 := (hnew hak).2
        have h2 := (h.cels j hj hl' haj).1.lt
        rw [hβ j hji]
        omega
      · rw [hβ j hji, hβ k hki]
        exact h.inj j k hj hk' hl' (old k hlk hki) haj hak hne
end
end Go.Proofs.YtikjgeenhbnkkaaGreatDoor
set_option linter.unusedSimpArgs false
set_option linter.unusedVariables false
set_option maxRecDepth 100000
namespace Go.Proofs.YtikjgeenhbnkkaaGreatDoor
open Go Eng
noncomputable def opAt (i : Nat) : Oper := (ops30[i]?).getD ⟨none, .alloc 0, 0, "", #[], none⟩
theorem og_0 : ops30[0]? = some (opAt 0) := by kernel_rfl
theorem gd_0 : (opAt 0).guard = none := by kernel_rfl
theorem og_1 : ops30[1]? = some (opAt 1) := by kernel_rfl
theorem gd_1 : (opAt 1).guard = none := by kernel_rfl
theorem og_2 : ops30[2]? = some (opAt 2) := by kernel_rfl
theorem gd_2 : (opAt 2).guard = none := by kernel_rfl
theorem og_3 : ops30[3]? = some (opAt 3) := by kernel_rfl
theorem gd_3 : (opAt 3).guard = none := by kernel_rfl
theorem og_4 : ops30[4]? = some (opAt 4) := by kernel_rfl
theorem gd_4 : (opAt 4).guard = none := by kernel_rfl
theorem og_5 : ops30[5]? = some (opAt 5) := by kernel_rfl
theorem gd_5 : (opAt 5).guard = none := by kernel_rfl
theorem og_6 : ops30[6]? = some (opAt 6) := by kernel_rfl
theorem gd_6 : (opAt 6).guard = none := by kernel_rfl
theorem og_7 : ops30[7]? = some (opAt 7) := by kernel_rfl
theorem gd_7 : (opAt 7).guard = none := by kernel_rfl
theorem og_8 : ops30[8]? = some (opAt 8) := by kernel_rfl
theorem gd_8 : (opAt 8).guard = none := by kernel_rfl
theorem og_9 : ops30[9]? = some (opAt 9) := by kernel_rfl
theorem gd_9 : (opAt 9).guard = none := by kernel_rfl
theorem og_10 : ops30[10]? = some (opAt 10) := by kernel_rfl
theorem gd_10 : (opAt 10).guard = none := by kernel_rfl
theorem og_11 : ops30[11]? = some (opAt 11) := by kernel_rfl
theorem gd_11 : (opAt 11).guard = none := by kernel_rfl
theorem og_12 : ops30[12]? = some (opAt 12) := by kernel_rfl
theorem gd_12 : (opAt 12).guard = none := by kernel_rfl
theorem og_13 : ops30[13]? = some (opAt 13) := by kernel_rfl
theorem gd_13 : (opAt 13).guard = none := by kernel_rfl
theorem ds_0 : (opAt 0).dst = some (slotF 0) := by kernel_rfl
theorem ds_1 : (opAt 1).dst = some (slotF 1) := by kernel_rfl
theorem ds_2 : (opAt 2).dst = some (slotF 2) := by kernel_rfl
theorem ds_3 : (opAt 3).dst = some (slotF 3) := by kernel_rfl
theorem ds_4 : (opAt 4).dst = some (slotF 4) := by kernel_rfl
theorem ds_5 : (opAt 5).dst = some (slotF 5) := by kernel_rfl
theorem ds_6 : (opAt 6).dst = some (slotF 6) := by kernel_rfl
theorem ds_7 : (opAt 7).dst = some (slotF 7) := by kernel_rfl
theorem ds_8 : (opAt 8).dst = some (slotF 8) := by kernel_rfl
theorem ds_9 : (opAt 9).dst = some (slotF 9) := by kernel_rfl
theorem ds_10 : (opAt 10).dst = some (slotF 10) := by kernel_rfl
theorem ds_11 : (opAt 11).dst = some (slotF 11) := by kernel_rfl
theorem ds_12 : (opAt 12).dst = some (slotF 12) := by kernel_rfl
theorem opAt_get : ∀ i, i < 14 → ops30[i]? = some (opAt i)
  | 0, _ => og_0
  | 1, _ => og_1
  | 2, _ => og_2
  | 3, _ => og_3
  | 4, _ => og_4
  | 5, _ => og_5
  | 6, _ => og_6
  | 7, _ => og_7
  | 8, _ => og_8
  | 9, _ => og_9
  | 10, _ => og_10
  | 11, _ => og_11
  | 12, _ => og_12
  | 13, _ => og_13
theorem opAt_guard : ∀ i, i < 14 → (opAt i).guard = none
  | 0, _ => gd_0
  | 1, _ => gd_1
  | 2, _ => gd_2
  | 3, _ => gd_3
  | 4, _ => gd_4
  | 5, _ => gd_5
  | 6, _ => gd_6
  | 7, _ => gd_7
  | 8, _ => gd_8
  | 9, _ => gd_9
  | 10, _ => gd_10
  | 11, _ => gd_11
  | 12, _ => gd_12
  | 13, _ => gd_13
theorem opAt_dst : ∀ i, i < 13 → (opAt i).dst = some (slotF i)
  | 0, _ => ds_0
  | 1, _ => ds_1
  | 2, _ => ds_2
  | 3, _ => ds_3
  | 4, _ => ds_4
  | 5, _ => ds_5
  | 6, _ => ds_6
  | 7, _ => ds_7
  | 8, _ => ds_8
  | 9, _ => ds_9
  | 10, _ => ds_10
  | 11, _ => ds_11
  | 12, _ => ds_12
theorem eop_1 (w : World) (K : Value → World → Prop) : eOp Tryz.prog (H0 Tryz.prog) (rdO [] (envOf 36 [])) (opAt 1) w K = (∀ w', w' = w.alloc (.cells [nl].toArray 31) → K (sl w.heap.size 1) w') := by kernel_rfl
theorem eop_2 (w : World) (K : Value → World → Prop) : eOp Tryz.prog (H0 Tryz.prog) (rdO [] (envOf 36 [])) (opAt 2) w K = (∀ w', w' = w.alloc (.cells [nl].toArray 56) → K (sl w.heap.size 1) w') := by kernel_rfl
theorem eop_3 (w : World) (K : Value → World → Prop) : eOp Tryz.prog (H0 Tryz.prog) (rdO [] (envOf 36 [])) (opAt 3) w K = (∀ w', w' = w.alloc (.cells [Value.int .i64 (-1)].toArray 3) → K (sl w.heap.size 1) w') := by kernel_rfl
theorem eop_4 (w : World) (K : Value → World → Prop) : eOp Tryz.prog (H0 Tryz.prog) (rdO [] (envOf 36 [])) (opAt 4) w K = (∀ w', w' = w.alloc (.cells [nl].toArray 31) → K (sl w.heap.size 1) w') := by kernel_rfl
theorem eop_5 (w : World) (K : Value → World → Prop) : eOp Tryz.prog (H0 Tryz.prog) (rdO [] (envOf 36 [])) (opAt 5) w K = (∀ w', w' = w.alloc (.cells (List.replicate 8 nl).toArray 56) → K (sl w.heap.size 8) w') := by kernel_rfl
theorem eop_7 (w : World) (K : Value → World → Prop) : eOp Tryz.prog (H0 Tryz.prog) (rdO [] (envOf 36 [])) (opAt 7) w K = (∀ w', w' = w.alloc (.cells (List.replicate 8 nl).toArray 56) → K (sl w.heap.size 8) w') := by kernel_rfl
theorem eop_6 (b : Nat) (w : World) (K : Value → World → Prop) : eOp Tryz.prog (H0 Tryz.prog) (rdO [] (envOf 36 [(11, sl b 8)])) (opAt 6) w K = (∀ w', w' = w.alloc (.cells [sl b 8].toArray 30) → K (sl w.heap.size 1) w') := by kernel_rfl
theorem eop_8 (b : Nat) (w : World) (K : Value → World → Prop) : eOp Tryz.prog (H0 Tryz.prog) (rdO [] (envOf 36 [(13, sl b 8)])) (opAt 8) w K = (∀ w', w' = w.alloc (.cells [sl b 8].toArray 30) → K (sl w.heap.size 1) w') := by kernel_rfl
theorem eop_10 (w : World) (K : Value → World → Prop) : eOp Tryz.prog (H0 Tryz.prog) (rdO [] (envOf 36 [(15, .agg #[.int .i64 0, .int .i64 2])])) (opAt 10) w K = (∀ w', w' = w.alloc (.cells [Value.int .i64 0, .int .i64 2].toArray 43) → K (sl w.heap.size 1) w') := by kernel_rfl
theorem eop_12 (w : World) (K : Value → World → Prop) : eOp Tryz.prog (H0 Tryz.prog) (rdO [] (envOf 36 [])) (opAt 12) w K = (∀ w', w' = w.alloc (.cells zer107.toArray 37) → K (.pointer (some ⟨w.heap.size, 0, none⟩)) w') := by kernel_rfl
theorem den_0 (cb : Nat) (w : World) (N : Value → Prop) : (qOp Tryz.prog (fun _ => none) (rdO [] (envOf 36 [(1, .pointer (some ⟨cb, 0, none⟩))])) (opAt 0)).den w (fun v _ => N v) (fun _ => True) = (∃ f : Nat → Int, rdAll w cb 0 (runI .i64 f 0 94) ∧ N (.agg (runI .i64 f 0 94).toArray)) := by kernel_rfl
theorem den_9 (w : World) (N : Value → Prop) : (qOp Tryz.prog (fun _ => none) (rdO [] (envOf 36 [])) (opAt 9)).den w (fun v _ => N v) (fun _ => True) = N (.agg #[.int .i64 0, .int .i64 2]) := by kernel_rfl
def env11 (β : Nat → Nat) : Env := envOf 36 [(6, .agg (runI .i64 cfg4 0 94).toArray), (7, sl (β 1) 1), (8, sl (β 2) 1), (9, sl (β 3) 1), (10, sl (β 4) 1), (12, sl (β 6) 1), (14, sl (β 8) 1), (16, sl (β 10) 1)]
theorem den_11 (β : Nat → Nat) (w : World) (N : Value → Prop) : (qOp Tryz.prog (fun _ => none) (rdO [] (env11 β)) (opAt 11)).den w (fun v _ => N v) (fun _ => True) = N (.agg (picL β).toArray) := by kernel_rfl
theorem eop_13 (b : Nat) (β : Nat → Nat) (w : World) (K : Value → World → Prop) : eOp Tryz.prog (H0 Tryz.prog) (rdO [] (envOf 36 [(2, .pointer (some ⟨b, 0, none⟩)), (17, .agg (picL β).toArray)])) (opAt 13) w K = (wrAll w b 0 (picL β) ∧ ∀ w', w' = stAll w b 0 (picL β) → K undef w') := by kernel_rfl
end Go.Proofs.YtikjgeenhbnkkaaGreatDoor
set_option linter.unusedSimpArgs false
set_option linter.unusedVariables false
set_option maxRecDepth 100000
namespace Go.Proofs.YtikjgeenhbnkkaaGreatDoor
open Go Eng
theorem ops30_size : ops30.size = 14 := by kernel_rfl
theorem af_0 : ((opAt 0).after.all fun e => decide (e.on < 0)) = true := by kernel_rfl
theorem af_1 : ((opAt 1).after.all fun e => decide (e.on < 1)) = true := by kernel_rfl
theorem af_2 : ((opAt 2).after.all fun e => decide (e.on < 2)) = true := by kernel_rfl
theorem af_3 : ((opAt 3).after.all fun e => decide (e.on < 3)) = true := by kernel_rfl
theorem af_4 : ((opAt 4).after.all fun e => decide (e.on < 4)) = true := by kernel_rfl
theorem af_5 : ((opAt 5).after.all fun e => decide (e.on < 5)) = true := by kernel_rfl
theorem af_6 : ((opAt 6).after.all fun e => decide (e.on < 6)) = true := by kernel_rfl
theorem af_7 : ((opAt 7).after.all fun e => decide (e.on < 7)) = true := by kernel_rfl
theorem af_8 : ((opAt 8).after.all fun e => decide (e.on < 8)) = true := by kernel_rfl
theorem af_9 : ((opAt 9).after.all fun e => decide (e.on < 9)) = true := by kernel_rfl
theorem af_10 : ((opAt 10).after.all fun e => decide (e.on < 10)) = true := by kernel_rfl
theorem af_11 : ((opAt 11).after.all fun e => decide (e.on < 11)) = true := by kernel_rfl
theorem af_12 : ((opAt 12).after.all fun e => decide (e.on < 12)) = true := by kernel_rfl
theorem af_13 : ((opAt 13).after.all fun e => decide (e.on < 13)) = true := by kernel_rfl
theorem opAt_after : ∀ i, i < 14 → ((opAt i).after.all fun e => decide (e.on < i)) = true
  | 0, _ => af_0
  | 1, _ => af_1
  | 2, _ => af_2
  | 3, _ => af_3
  | 4, _ => af_4
  | 5, _ => af_5
  | 6, _ => af_6
  | 7, _ => af_7
  | 8, _ => af_8
  | 9, _ => af_9
  | 10, _ => af_10
  | 11, _ => af_11
  | 12, _ => af_12
  | 13, _ => af_13
theorem hd_0 : hasDep ops30 13 0 = true := by kernel_rfl
theorem hd_1 : hasDep ops30 13 1 = true := by kernel_rfl
theorem hd_2 : hasDep ops30 13 2 = true := by kernel_rfl
theorem hd_3 : hasDep ops30 13 3 = true := by kernel_rfl
theorem hd_4 : hasDep ops30 13 4 = true := by kernel_rfl
theorem hd_5 : hasDep ops30 13 5 = true := by kernel_rfl
theorem hd_6 : hasDep ops30 13 6 = true := by kernel_rfl
theorem hd_7 : hasDep ops30 13 7 = true := by kernel_rfl
theorem hd_8 : hasDep ops30 13 8 = true := by kernel_rfl
theorem hd_9 : hasDep ops30 13 9 = true := by kernel_rfl
theorem hd_10 : hasDep ops30 13 10 = true := by kernel_rfl
theorem hd_11 : hasDep ops30 13 11 = true := by kernel_rfl
theorem hd_12 : hasDep ops30 13 12 = true := by kernel_rfl
theorem dep13 : ∀ i, i < 13 → hasDep ops30 13 i = true
  | 0, _ => hd_0
  | 1, _ => hd_1
  | 2, _ => hd_2
  | 3, _ => hd_3
  | 4, _ => hd_4
  | 5, _ => hd_5
  | 6, _ => hd_6
  | 7, _ => hd_7
  | 8, _ => hd_8
  | 9, _ => hd_9
  | 10, _ => hd_10
  | 11, _ => hd_11
  | 12, _ => hd_12
theorem applyI_ptr (p : Option Addr) {w : World} (I : Option Addr → World → Prop) : applyI (T := World → Prop) (envOf 36 [(2, .pointer p)]) (fun K => K w) [(2, Shp.ptr)] I = I p w := by kernel_rfl
theorem all_listed {listed : Array Bool} (hs : listed.size = 14) (hr : Region.ready .any ops30 listed = []) : ∀ i, i < 14 → listed.getD i false = true := by
  intro i
  induction i using Nat.strongRecOn with
  | _ i ih =>
    intro hi
    cases hl : listed.getD i false with
    | true => rfl
    | false =>
      have : i ∈ Region.ready .any ops30 listed := by
        refine mem_ready.2 ⟨?_, opAt i, opAt_get i hi, fun e he hb => ?_⟩
        · simp [show i < listed.size by omega] at hl ⊢
          exact hl
        · have ha := opAt_after i hi
          rw [Array.all_eq_true] at ha
          obtain ⟨j, hj, rfl⟩ := Array.mem_iff_getElem.1 he
          have := of_decide_eq_true (ha j hj)
          exact ih _ this (by omega)
      rw [hr] at this
      cases this
section
variable {w0 : World} {a0 : Act} {β : Nat → Nat} {listed : Array Bool} {a : Act} {w w' : World}
theorem FInv.al (h : FInv w0 a0 β listed a w) {i : Nat} (hi : i < 13) (hr : i ∈ Region.ready .any ops30 listed) {cs : List Value} {t : TypeId} {v : Value} (hv : v = valF (upd β i w.heap.size) i) (hc : cs = celF (upd β i w.heap.size) i) (e : w' = w.alloc (.cells cs.toArray t)) :
    FInv w0 a0 (upd β i w.heap.size) (listed.setIfInBounds i true) (a.put (opAt i).dst v) w' := by
  subst hv
  subst hc
  rw [opAt_dst i hi]
  exact h.step hi hr ((Kept.refl _ _).al e) (fun k hk => upd_ne _ _ hk) fun _ => ⟨by rw [upd_same]; exact own_alloc e, by rw [upd_same]; exact Nat.le_refl _⟩
theorem FInv.qu (h : FInv w0 a0 β listed a w) {i : Nat} (hi : i < 13) (hr : i ∈ Region.ready .any ops30 listed) (hna : isAl i = false) {v : Value} (hv : v = valF β i) :
    FInv w0 a0 β (listed.setIfInBounds i true) (a.put (opAt i).dst v) w := by
  subst hv
  rw [opAt_dst i hi]
  exact h.step hi hr (Kept.refl _ _) (fun _ _ => rfl) fun ha => by rw [hna] at ha; cases ha
theorem FInv.one (h : FInv w0 a0 β listed a w) {cb : Nat} (hcb : own w0 cb (runI .i64 cfg4 0 94)) (h1 : a0.tmps[1]? = some (.pointer (some ⟨cb, 0, none⟩))) {i : Nat} (hi : i < 13) (hr : i ∈ Region.ready .any ops30 listed) {Q : Exit → Act → World → Prop} :
    wpOp Tryz.prog ops30 Q i (fun a' w' => ∃ β', FInv w0 a0 β' (listed.setIfInBounds i true) a' w') a w := by
  have hag0 : Agree (envOf 36 []) a := envOf_agree h.size fun p hp => by cases hp
  match i, hi with
  | 0, hi =>
    have hag : Agree (envOf 36 [(1, .pointer (some ⟨cb, 0, none⟩))]) a := envOf_agree h.size fun p hp => by
      simp at hp
      subst hp
      rw [h.keep 1 (by decide)]
      exact h1
    refine wpOp_den (τ := fun _ => none) (N := fun v => v = valF β 0) og_0 gd_0 hag ?_ fun v hv => ⟨β, h.qu hi hr rfl hv⟩
    rw [den_0]
    exact ⟨cfg4, (hcb.k h.kp).rIall, rfl⟩
  | 9, hi =>
    refine wpOp_den (τ := fun _ => none) (N := fun v => v = valF β 9) og_9 gd_9 hag0 ?_ fun v hv => ⟨β, h.qu hi hr rfl hv⟩
    rw [den_9]
    rfl
  | 11, hi =>
    have hv : ∀ j, j < 13 → hasDep ops30 11 j = true → a.tmps[slotF j]? = some (valF β j) := fun j hj hd => h.vals j hj (ready_dep hr hd)
    have hag : Agree (env11 β) a := envOf_agree h.size fun p hp => by
      simp at hp
      rcases hp with rfl | rfl | rfl | rfl | rfl | rfl | rfl | rfl
      · exact hv 0 (by decide) (by kernel_rfl)
      · exact hv 1 (by decide) (by kernel_rfl)
      · exact hv 2 (by decide) (by kernel_rfl)
      · exact hv 3 (by decide) (by kernel_rfl)
      · exact hv 4 (by decide) (by kernel_rfl)
      · exact hv 6 (by decide) (by kernel_rfl)
      · exact hv 8 (by decide) (by kernel_rfl)
      · exact hv 10 (by decide) (by kernel_rfl)
    refine wpOp_den (τ := fun _ => none) (N := fun v => v = valF β 11) og_11 gd_11 hag ?_ fun v hv => ⟨β, h.qu hi hr rfl hv⟩
    rw [den_11]
    rfl
  | 1, hi =>
    refine wpOp_loud (K' := fun v w' => v = sl w.heap.size 1 ∧ w' = w.alloc (.cells ([nl]).toArray 31)) (H0_sound Tryz.prog) og_1 gd_1 hag0 ?_ fun v w' hv => ⟨_, h.al hi hr (hv.1.trans (by simp [valF])) (by simp [celF]) hv.2⟩
    rw [eop_1]
    exact fun w' e => ⟨rfl, e⟩
  | 2, hi =>
    refine wpOp_loud (K' := fun v w' => v = sl w.heap.size 1 ∧ w' = w.alloc (.cells ([nl]).toArray 56)) (H0_sound Tryz.prog) og_2 gd_2 hag0 ?_ fun v w' hv => ⟨_, h.al hi hr (hv.1.trans (by simp [valF])) (by simp [celF]) hv.2⟩
    rw [eop_2]
    exact fun w' e => ⟨rfl, e⟩
  | 3, hi =>
    refine wpOp_loud (K' := fun v w' => v = sl w.heap.size 1 ∧ w' = w.alloc (.cells ([Value.int .i64 (-1)]).toArray 3)) (H0_sound Tryz.prog) og_3 gd_3 hag0 ?_ fun v w' hv => ⟨_, h.al hi hr (hv.1.trans (by simp [valF])) (by simp [celF]) hv.2⟩
    rw [eop_3]
    exact fun w' e => ⟨rfl, e⟩
  | 4, hi =>
    refine wpOp_loud (K' := fun v w' => v = sl w.heap.size 1 ∧ w' = w.alloc (.cells ([nl]).toArray 31)) (H0_sound Tryz.prog) og_4 gd_4 hag0 ?_ fun v w' hv => ⟨_, h.al hi hr (hv.1.trans (by simp [valF])) (by simp [celF]) hv.2⟩
    rw [eop_4]
    exact fun w' e => ⟨rfl, e⟩
  | 5, hi =>
    refine wpOp_loud (K' := fun v w' => v = sl w.heap.size 8 ∧ w' = w.alloc (.cells (List.replicate 8 nl).toArray 56)) (H0_sound Tryz.prog) og_5 gd_5 hag0 ?_ fun v w' hv => ⟨_, h.al hi hr (hv.1.trans (by simp [valF])) (by simp [celF]) hv.2⟩
    rw [eop_5]
    exact fun w' e => ⟨rfl, e⟩
  | 7, hi =>
    refine wpOp_loud (K' := fun v w' => v = sl w.heap.size 8 ∧ w' = w.alloc (.cells (List.replicate 8 nl).toArray 56)) (H0_sound Tryz.prog) og_7 gd_7 hag0 ?_ fun v w' hv => ⟨_, h.al hi hr (hv.1.trans (by simp [valF])) (by simp [celF]) hv.2⟩
    rw [eop_7]
    exact fun w' e => ⟨rfl, e⟩
  | 12, hi =>
    refine wpOp_loud (K' := fun v w' => v = (.pointer (some ⟨w.heap.size, 0, none⟩) : Value) ∧ w' = w.alloc (.cells (zer107).toArray 37)) (H0_sound Tryz.prog) og_12 gd_12 hag0 ?_ fun v w' hv => ⟨_, h.al hi hr (hv.1.trans (by simp [valF])) (by simp [celF]) hv.2⟩
    rw [eop_12]
    exact fun w' e => ⟨rfl, e⟩
  | 6, hi =>
    have hag : Agree (envOf 36 [(11, sl (β 5) 8)]) a := envOf_agree h.size fun p hp => by
      simp at hp
      subst hp
      exact h.vals 5 (by decide) (ready_dep hr (by kernel_rfl))
    refine wpOp_loud (K' := fun v w' => v = sl w.heap.size 1 ∧ w' = w.alloc (.cells [sl (β 5) 8].toArray 30)) (H0_sound Tryz.prog) og_6 gd_6 hag ?_ fun v w' hv => ⟨_, h.al hi hr (hv.1.trans (by simp [valF])) (by simp [celF, upd]) hv.2⟩
    rw [eop_6]
    exact fun w' e => ⟨rfl, e⟩
  | 8, hi =>
    have hag : Agree (envOf 36 [(13, sl (β 7) 8)]) a := envOf_agree h.size fun p hp => by
      simp at hp
      subst hp
      exact h.vals 7 (by decide) (ready_dep hr (by kernel_rfl))
    refine wpOp_loud (K' := fun v w' => v = sl w.heap.size 1 ∧ w' = w.alloc (.cells [sl (β 7) 8].toArray 30)) (H0_sound Tryz.prog) og_8 gd_8 hag ?_ fun v w' hv => ⟨_, h.al hi hr (hv.1.trans (by simp [valF])) (by simp [celF, upd]) hv.2⟩
    rw [eop_8]
    exact fun w' e => ⟨rfl, e⟩
  | 10, hi =>
    have hag : Agree (envOf 36 [(15, .agg #[.int .i64 0, .int .i64 2])]) a := envOf_agree h.size fun p hp => by
      simp at hp
      subst hp
      exact h.vals 9 (by decide) (ready_dep hr (by kernel_rfl))
    refine wpOp_loud (K' := fun v w' => v = sl w.heap.size 1 ∧ w' = w.alloc (.cells [Value.int .i64 0, .int .i64 2].toArray 43)) (H0_sound Tryz.prog) og_10 gd_10 hag ?_ fun v w' hv => ⟨_, h.al hi hr (hv.1.trans (by simp [valF])) (by simp [celF]) hv.2⟩
    rw [eop_10]
    exact fun w' e => ⟨rfl, e⟩
theorem FInv.last (h : FInv w0 a0 β listed a w) (hr : 13 ∈ Region.ready .any ops30 listed) {Q : Exit → Act → World → Prop} {K : Act → World → Prop} (hK : ∀ w', FFin w0 β w' → K a w') : wpOp Tryz.prog ops30 Q 13 K a w := by
  have hl : ∀ i, i < 13 → listed.getD i false = true := fun i hi => ready_dep hr (dep13 i hi)
  have hag : Agree (envOf 36 [(2, .pointer (some ⟨β 12, 0, none⟩)), (17, .agg (picL β).toArray)]) a := envOf_agree h.size fun p hp => by
    simp at hp
    rcases hp with rfl | rfl
    · exact h.vals 12 (by decide) (hl 12 (by decide))
    · exact h.vals 11 (by decide) (hl 11 (by decide))
  obtain ⟨o12, h12⟩ := h.cels 12 (by decide) (hl 12 (by decide)) rfl
  have hlen : (picL β).length = 107 := by unfold picL; rw [List.length_append, runI_len]; rfl
  have hlz : zer107.length = 107 := by unfold zer107; rw [List.length_append, List.length_replicate, List.length_replicate]
  have o12 : own w (β 12) zer107 := o12
  refine wpOp_loud (K' := fun v w' => w' = stAll w (β 12) 0 (picL β)) (H0_sound Tryz.prog) og_13 gd_13 hag ?_ fun v w' hv => ?_
  · rw [eop_13]
    exact ⟨o12.wrAll 0 (by rw [hlen, hlz]; omega), fun w' e => e⟩
  · have hd : (opAt 13).dst = none := by kernel_rfl
    rw [hd]
    obtain ⟨o', k'⟩ := stAll_whole o12 hv (by rw [hlen, hlz])
    refine hK w' ⟨h.kp.trans k' fun b hb e => by omega, ⟨o', h12⟩, fun i hi ha => ?_⟩
    obtain ⟨g1, g2⟩ := h.cels i (by omega) (hl i (by omega)) ha
    have hne := h.inj i 12 (by omega) (by decide) (hl i (by omega)) (hl 12 (by decide)) ha rfl (by omega)
    exact ⟨g1.kx k' hne, g2, hne⟩
end
theorem reg30 {w0 : World} {cb : Nat} {e : Env} {I : Option Addr → World → Prop} (hcb : own w0 cb (runI .i64 cfg4 0 94)) (he : e.length = 36) (h1 : e[1]? = some (some ⟨none, .pointer (some ⟨cb, 0, none⟩), none⟩)) (hI : ∀ β w', FFin w0 β w' → I (some ⟨β 12, 0, none⟩) w') :
    SemReg Tryz.prog (regOps Tryz.f30 3) [6, 7, 8, 9, 10, 11, 12, 13, 14, 15, 16, 17, 2] e [(2, Shp.ptr)] I w0 := by
  refine ⟨fun a ha Q hQ => ?_⟩
  have hsz : a.tmps.size = 36 := by rw [← ha.len, he]
  have ht1 : a.tmps[1]? = some (.pointer (some ⟨cb, 0, none⟩)) := by
    have := ha.ent 1 _ h1
    exact this
  have hlen : (regOps Tryz.f30 3).length = 14 := by
    have := ops30_size
    unfold ops30 at this
    simpa using this
  rw [hlen]
  change wpAny Tryz.prog .any ops30 Q 14 (Array.replicate 14 false) a w0.drew
  refine wpAny_inv (fun listed a' w' => listed.size = 14 ∧ Closed ops30 listed ∧ ((listed.getD 13 false = false ∧ ∃ β, FInv w0 a β listed a' w') ∨ (listed.getD 13 false = true ∧ ∃ β, FFin w0 β w' ∧ a'.tmps.size = 36 ∧ a'.defers = a.defers ∧ (∀ t, t ∉ [6, 7, 8, 9, 10, 11, 12, 13, 14, 15, 16, 17, 2] → a'.tmps[t]? = a.tmps[t]?) ∧ a'.tmps[2]? = some (.pointer (some ⟨β 12, 0, none⟩)))))
    ?_ ?_ 14 _ a _ ?_ ?_
  · rintro listed a' w' i ⟨hls, hcl, h⟩ hi
    have hi14 : i < 14 := by have := (ready_un hi).2; omega
    have hun := (ready_un hi).1
    have hcl' := hcl.set hi
    rcases h with ⟨h13, β, h⟩ | ⟨h13, _⟩
    · by_cases hi13 : i = 13
      · subst hi13
        refine h.last hi fun w2 hf => ⟨by simpa using hls, hcl', .inr ⟨getD_set_self (by omega), β, hf, h.size, h.defs, h.keep, h.vals 12 (by decide) (ready_dep hi (dep13 12 (by decide)))⟩⟩
      · refine wpOp_mono ?_ (h.one hcb ht1 (by omega) hi)
        rintro a2 w2 ⟨β', h2⟩
        refine ⟨by simpa using hls, hcl', .inl ⟨?_, β', h2⟩⟩
        cases hx : (listed.setIfInBounds i true).getD 13 false with
        | false => rfl
        | true =>
          rcases getD_set_cases hx with hx | hx
          · exact absurd hx.symm hi13
          · rw [h13] at hx; cases hx
    · by_cases hi13 : i = 13
      · subst hi13
        rw [h13] at hun
        cases hun
      · have := hcl.dep h13 (dep13 i (by omega))
        rw [this] at hun
        cases hun
  · rintro listed a' w' ⟨hls, hcl, h⟩ hr
    have hall := all_listed hls hr 13 (by decide)
    rcases h with ⟨h13, _⟩ | ⟨_, β, hf, h1', h2', h3', h4'⟩
    · rw [h13] at hall; cases hall
    · refine hQ (envOf 36 [(2, .pointer (some ⟨β 12, 0, none⟩))]) a' w' ⟨envOf_agree h1' fun p hp => ?_, by rw [h1', hsz], h2', h3'⟩ ?_
      · simp at hp
        subst hp
        exact h4'
      · rw [applyI_ptr]
        exact hI β w' hf
  · exact Nat.le_of_eq (by decide)
  · have hf : ∀ i, (Array.replicate 14 false).getD i false = false := fun i => by
      rw [Array.getD_eq_getD_getElem?, Array.getElem?_replicate]
      split <;> rfl
    refine ⟨by simp, fun j oj _ hl => (by rw [hf] at hl; cases hl), .inl ⟨hf 13, fun _ => 0, hsz, rfl, fun _ _ => rfl, by simp, (Kept.refl _ _).dr rfl, fun j oj _ hl => (by rw [hf] at hl; cases hl), fun i _ hl => (by rw [hf] at hl; cases hl), fun i _ hl => (by rw [hf] at hl; cases hl), fun i j _ _ hl => (by rw [hf] at hl; cases hl)⟩⟩
end Go.Proofs.YtikjgeenhbnkkaaGreatDoor
