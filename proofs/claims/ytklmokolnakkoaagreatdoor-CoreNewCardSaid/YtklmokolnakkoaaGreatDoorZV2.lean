/-
  A part of a proof that a law of this seat returns true at every input. Conditions: those in each theorem.
-/
import Derived.Test.YtklmokolnakkoaaGreatDoorZV1
import Derived.Test.YtklmokolnakkoaaGreatDoorB0
import Derived.Maps.Range
import Derived.Shelf.SlIterI.Nil
import Derived.Maps.Keyed
set_option linter.unusedVariables false
set_option maxRecDepth 100000
namespace Go.Proofs.YtklmokolnakkoaaGreatDoor
open Go Go.Eng
open Go.Value (slice)
/- byre/zones.New -/
def vcP34 (c0 : Nat → Int) (w : World) (K : Value → World → Prop) : Prop := ∀ (w' : World), w' = World.alloc w (Obj.cells (List.toArray (runI .i64 c0 0 94)) 31) → ∃ (x : Nat → Int), rdAll w' w.heap.size 0 (runI .i64 x 0 94) ∧ Calls Tryz.prog 32 #[Value.agg (List.toArray (runI .i64 x 0 94))] w' fun (e : Ending) (w' : World) => ∃ (b : Bool), e = Ending.returned (Value.bool b) ∧ Wif (!b) (K (Value.tuple #[Value.pointer none, Value.int .i64 2]) w') (∃ (x : Nat → Int), rdAll w' w.heap.size 0 (runI .i64 x 0 94) ∧ ∀ (w'_1 : World), w'_1 = World.alloc w' (Obj.cells (List.toArray (runI .i64 x 0 94 ++ [slice none 0 0])) 211) → ∃ (x : Int), rd w'_1 w.heap.size 0 = some (.int .i64 x) ∧ Wif (okSl 0 x 8) (∃ (I : Int → World → Nat → Prop), (∃ (n : Nat), I 0 w'_1 n) ∧ ∀ (n : Int) (w'_2 : World) (n_1 : Nat), I n w'_2 n_1 → Wif (decide (n < (↑(Int.toNat x) : Int))) (Wif (inB n (Int.toNat x)) (∃ (x : Int), rd w'_2 w.heap.size (18 + Int.toNat n * 1) = some (.int .i64 x) ∧ Calls Tryz.prog 118 #[Value.int .i64 x] w'_2 fun (e : Ending) (w'_3 : World) => ∃ (p : Option Addr) (n_2 : Int), e = Ending.returned (Value.tuple #[Value.pointer p, Value.int .i64 n_2]) ∧ ∃ (x : Option Addr) (x_1 x_2 : Nat), rd w'_3 w'.heap.size 94 = some (.slice x x_1 x_2) ∧ ∀ (w'_4 : World), w'_4 = World.alloc w'_3 (Obj.cells #[Value.pointer p] 212) → ∃ (a : Option Addr) (l c : Nat) (w'_5 : World), appIs Tryz.prog #[209, 209] 209 (slice x x_1 x_2) (slice (some (Addr.mk w'_3.heap.size 0 none)) 1 1) (slice a l c) w'_4 w'_5 ∧ wr w'_5 w'.heap.size 94 ∧ ∀ (w'_6 : World), w'_6 = st w'_5 w'.heap.size 94 (slice a l c) → ∃ (m : Nat), Nat.succ m ≤ n_1 ∧ I (IntKind.wrap .i64 (n + 1)) w'_6 m) False) (K (Value.tuple #[Value.pointer (some (Addr.mk w'.heap.size 0 none)), Value.int .i64 0]) w'_2)) False)
theorem vcE34 (c0 : Nat → Int) (w : World) (K : Value → World → Prop) : vcP34 c0 w K = Eng.wBody Tryz.prog (Eng.handOf Tryz.prog [169, 98, 99, 113] 2) [] Tryz.f34 (Eng.bodyOf Tryz.f34) [Value.agg (List.toArray (runI .i64 c0 0 94))] w K := by kernel_rfl
theorem vc34 (c0 : Nat → Int) (w : World) (K : Value → World → Prop) (h : vcP34 c0 w K) : Calls Tryz.prog 34 #[Value.agg (List.toArray (runI .i64 c0 0 94))] w (fun e w' => ∃ v, e = .returned v ∧ K v w') := Eng.vc_of [169, 98, 99, 113] 2 [] Tryz.mixes Tryz.func34 (by kernel_rfl) (by kernel_rfl) (vcE34 c0 w K) h
/- (*byre/zones.Zones).Take -/
def vcP23 (z : Option Addr) (nodes : Option Addr) (nodesL : Nat) (nodesC : Nat) (floor : Int) (high : Bool) (w : World) (K : Value → World → Prop) : Prop := gIf (isP z) ((!Option.isNone z) = true) (∃ (x : Option Addr) (x_1 x_2 : Nat), ((!Option.isNone z) = true → rd w (pb z) (po z + 94) = some (.slice x x_1 x_2)) ∧ Wif (!(!Option.isNone z && !Option.isNone x)) (K (Value.tuple #[Value.int .i64 0, Value.int .i64 1]) w) (∃ (I : Int → Int → Int → World → Nat → Prop), (∃ (n : Nat), I 0 0 0 w n) ∧ ∀ (n n_1 n_2 : Int) (w' : World) (n_3 : Nat), I n n_1 n_2 w' n_3 → Wif (decide (n_2 < (↑nodesL : Int))) (Wif (isP nodes) (Wif (inB n_2 nodesL) (∃ (x : Int), rd w' (pb nodes) (po nodes + Int.toNat n_2 * 1) = some (.int .i64 x) ∧ gIf (isP z) ((!Option.isNone z) = true) (∃ (x_3 : Option Addr) (x_4 x_5 : Nat), ((!Option.isNone z) = true → rd w' (pb z) (po z + 94) = some (.slice x_3 x_4 x_5)) ∧ gIf (isP z) ((!Option.isNone z && !Option.isNone x_3 && decide (x ≥ 0)) = true) (∃ (x_6 : Option Addr) (x_7 x_8 : Nat), ((!Option.isNone z && !Option.isNone x_3 && decide (x ≥ 0)) = true → rd w' (pb z) (po z + 94) = some (.slice x_6 x_7 x_8)) ∧ Wif (!(!Option.isNone z && !Option.isNone x_3 && decide (x ≥ 0) && decide (x < (↑x_7 : Int)))) (K (Value.tuple #[Value.int .i64 0, Value.int .i64 2]) w') (∃ (m : Nat), Nat.succ m ≤ n_3 ∧ I n n_1 (IntKind.wrap .i64 (n_2 + 1)) w' m)))) False) False) (Wif (decide (floor < 0)) (K (Value.tuple #[Value.int .i64 0, Value.int .i64 2]) w') (∃ (I : Int → Int → Int → World → Nat → Prop), (∃ (n_4 : Nat), I n n_1 0 w' n_4) ∧ ∀ (n n_4 n_5 : Int) (w' : World) (n_6 : Nat), I n n_4 n_5 w' n_6 → Wif (decide (n_5 < (↑nodesL : Int))) (Wif (isP nodes) (Wif (inB n_5 nodesL) (∃ (x : Int), rd w' (pb nodes) (po nodes + Int.toNat n_5 * 1) = some (.int .i64 x) ∧ Calls Tryz.prog 100 #[Value.pointer z, Value.int .i64 x] w' fun (e : Ending) (w' : World) => ∃ (n_7 : Int), e = Ending.returned (Value.int .i64 n_7) ∧ Wif (decide (n_7 > floor)) (Calls Tryz.prog 94 #[Value.pointer z, Value.int .i64 x, Value.int .i64 0, Value.bool high] w' fun (e : Ending) (w' : World) => ∃ (n n_8 : Int), e = Ending.returned (Value.tuple #[Value.int .i64 n, Value.int .i64 n_8]) ∧ K (Value.tuple #[Value.int .i64 n, Value.int .i64 n_8]) w') (∃ (m : Nat), Nat.succ m ≤ n_6 ∧ I n n_4 (IntKind.wrap .i64 (n_5 + 1)) w' m)) False) False) (K (Value.tuple #[Value.int .i64 0, Value.int .i64 6]) w')))))
theorem vcE23 (z : Option Addr) (nodes : Option Addr) (nodesL : Nat) (nodesC : Nat) (floor : Int) (high : Bool) (w : World) (K : Value → World → Prop) : vcP23 z nodes nodesL nodesC floor high w K = Eng.wBody Tryz.prog (Eng.handOf Tryz.prog [169, 98, 99, 113] 2) [] Tryz.f23 (Eng.bodyOf Tryz.f23) [Value.pointer z, slice nodes nodesL nodesC, Value.int .i64 floor, Value.bool high] w K := by kernel_rfl
theorem vc23 (z : Option Addr) (nodes : Option Addr) (nodesL : Nat) (nodesC : Nat) (floor : Int) (high : Bool) (w : World) (K : Value → World → Prop) (h : vcP23 z nodes nodesL nodesC floor high w K) : Calls Tryz.prog 23 #[Value.pointer z, slice nodes nodesL nodesC, Value.int .i64 floor, Value.bool high] w (fun e w' => ∃ v, e = .returned v ∧ K v w') := Eng.vc_of [169, 98, 99, 113] 2 [] Tryz.mixes Tryz.func23 (by kernel_rfl) (by kernel_rfl) (vcE23 z nodes nodesL nodesC floor high w K) h
/- (*byre/zones.Zones).Free -/
def vcP100 (z : Option Addr) (node : Int) (w : World) (K : Value → World → Prop) : Prop := gIf (isP z) ((!Option.isNone z) = true) (∃ (x : Option Addr) (x_1 x_2 : Nat), ((!Option.isNone z) = true → rd w (pb z) (po z + 94) = some (.slice x x_1 x_2)) ∧ gIf (isP z) ((!Option.isNone z && !Option.isNone x && decide (node ≥ 0)) = true) (∃ (x_3 : Option Addr) (x_4 x_5 : Nat), ((!Option.isNone z && !Option.isNone x && decide (node ≥ 0)) = true → rd w (pb z) (po z + 94) = some (.slice x_3 x_4 x_5)) ∧ Wif (!(!Option.isNone z && !Option.isNone x && decide (node ≥ 0) && decide (node < (↑x_4 : Int)))) (K (Value.int .i64 0) w) (Wif (isP z) (∃ (x : Option Addr) (x_6 x_7 : Nat), rd w (pb z) (po z + 94) = some (.slice x x_6 x_7) ∧ Wif (isP x) (Wif (inB node x_6) (∃ (x_8 : Option Addr), rd w (pb x) (po x + Int.toNat node * 1) = some (.pointer x_8) ∧ Calls Tryz.prog 151 #[Value.pointer x_8] w fun (e : Ending) (w' : World) => ∃ (n : Int), e = Ending.returned (Value.int .i64 n) ∧ K (Value.int .i64 n) w') False) False) False)))
theorem vcE100 (z : Option Addr) (node : Int) (w : World) (K : Value → World → Prop) : vcP100 z node w K = Eng.wBody Tryz.prog (Eng.handOf Tryz.prog [169, 98, 99, 113] 2) [] Tryz.f100 (Eng.bodyOf Tryz.f100) [Value.pointer z, Value.int .i64 node] w K := by kernel_rfl
theorem vc100 (z : Option Addr) (node : Int) (w : World) (K : Value → World → Prop) (h : vcP100 z node w K) : Calls Tryz.prog 100 #[Value.pointer z, Value.int .i64 node] w (fun e w' => ∃ v, e = .returned v ∧ K v w') := Eng.vc_of [169, 98, 99, 113] 2 [] Tryz.mixes Tryz.func100 (by kernel_rfl) (by kernel_rfl) (vcE100 z node w K) h
/- (*byre/zones.Zones).Give -/
def vcP109 (z : Option Addr) (frame : Int) (order : Int) (w : World) (K : Value → World → Prop) : Prop := gIf (isP z) ((!Option.isNone z) = true) (∃ (x : Option Addr) (x_1 x_2 : Nat), ((!Option.isNone z) = true → rd w (pb z) (po z + 94) = some (.slice x x_1 x_2)) ∧ Wif (!(!Option.isNone z && !Option.isNone x)) (K (Value.int .i64 1) w) (Wif (isP z) (∃ (x : Nat → Int), rdAll w (pb z) (po z) (runI .i64 x 0 94) ∧ Calls Tryz.prog 160 #[Value.agg (List.toArray (runI .i64 x 0 94)), Value.int .i64 frame] w fun (e : Ending) (w' : World) => ∃ (n n_1 : Int), e = Ending.returned (Value.tuple #[Value.int .i64 n, Value.int .i64 n_1]) ∧ Wif (n_1 != 0) (K (Value.int .i64 n_1) w') (Wif (isP z) (∃ (x : Nat → Int), rdAll w' (pb z) (po z) (runI .i64 x 0 94) ∧ Calls Tryz.prog 145 #[Value.agg (List.toArray (runI .i64 x 0 94)), Value.int .i64 n] w' fun (e : Ending) (w' : World) => ∃ (n_2 n_3 : Int), e = Ending.returned (Value.tuple #[Value.int .i64 n_2, Value.int .i64 n_3]) ∧ Wif (isP z) (∃ (x : Option Addr) (x_3 x_4 : Nat), rd w' (pb z) (po z + 94) = some (.slice x x_3 x_4) ∧ Wif (isP x) (Wif (inB n x_3) (∃ (x_5 : Option Addr), rd w' (pb x) (po x + Int.toNat n * 1) = some (.pointer x_5) ∧ Calls Tryz.prog 163 #[Value.pointer x_5, Value.int .i64 (IntKind.wrap .i64 (frame - n_2)), Value.int .i64 order] w' fun (e : Ending) (w' : World) => ∃ (n : Int), e = Ending.returned (Value.int .i64 n) ∧ K (Value.int .i64 n) w') False) False) False) False)) False))
theorem vcE109 (z : Option Addr) (frame : Int) (order : Int) (w : World) (K : Value → World → Prop) : vcP109 z frame order w K = Eng.wBody Tryz.prog (Eng.handOf Tryz.prog [169, 98, 99, 113] 2) [] Tryz.f109 (Eng.bodyOf Tryz.f109) [Value.pointer z, Value.int .i64 frame, Value.int .i64 order] w K := by kernel_rfl
theorem vc109 (z : Option Addr) (frame : Int) (order : Int) (w : World) (K : Value → World → Prop) (h : vcP109 z frame order w K) : Calls Tryz.prog 109 #[Value.pointer z, Value.int .i64 frame, Value.int .i64 order] w (fun e w' => ∃ v, e = .returned v ∧ K v w') := Eng.vc_of [169, 98, 99, 113] 2 [] Tryz.mixes Tryz.func109 (by kernel_rfl) (by kernel_rfl) (vcE109 z frame order w K) h
/- (*byre/zones.Zones).TakeOf -/
def vcP94 (z : Option Addr) (node : Int) (order : Int) (high : Bool) (w : World) (K : Value → World → Prop) : Prop := gIf (isP z) ((!Option.isNone z) = true) (∃ (x : Option Addr) (x_1 x_2 : Nat), ((!Option.isNone z) = true → rd w (pb z) (po z + 94) = some (.slice x x_1 x_2)) ∧ Wif (!(!Option.isNone z && !Option.isNone x)) (K (Value.tuple #[Value.int .i64 0, Value.int .i64 1]) w) (gIf (isP z) ((!Option.isNone z) = true) (∃ (x : Option Addr) (x_3 x_4 : Nat), ((!Option.isNone z) = true → rd w (pb z) (po z + 94) = some (.slice x x_3 x_4)) ∧ gIf (isP z) ((!Option.isNone z && !Option.isNone x && decide (node ≥ 0)) = true) (∃ (x_5 : Option Addr) (x_6 x_7 : Nat), ((!Option.isNone z && !Option.isNone x && decide (node ≥ 0)) = true → rd w (pb z) (po z + 94) = some (.slice x_5 x_6 x_7)) ∧ Wif (!(!Option.isNone z && !Option.isNone x && decide (node ≥ 0) && decide (node < (↑x_6 : Int)))) (K (Value.tuple #[Value.int .i64 0, Value.int .i64 7]) w) (Wif (isP z) (∃ (x : Option Addr) (x_8 x_9 : Nat), rd w (pb z) (po z + 94) = some (.slice x x_8 x_9) ∧ Wif (isP x) (Wif (inB node x_8) (∃ (x_10 : Option Addr), rd w (pb x) (po x + Int.toNat node * 1) = some (.pointer x_10) ∧ Calls Tryz.prog 144 #[Value.pointer x_10, Value.int .i64 order, Value.bool high] w fun (e : Ending) (w' : World) => ∃ (n n_1 : Int), e = Ending.returned (Value.tuple #[Value.int .i64 n, Value.int .i64 n_1]) ∧ Wif (n_1 != 0) (K (Value.tuple #[Value.int .i64 0, Value.int .i64 n_1]) w') (Wif (isP z) (∃ (x : Nat → Int), rdAll w' (pb z) (po z) (runI .i64 x 0 94) ∧ Calls Tryz.prog 145 #[Value.agg (List.toArray (runI .i64 x 0 94)), Value.int .i64 node] w' fun (e : Ending) (w' : World) => ∃ (n_2 n_3 : Int), e = Ending.returned (Value.tuple #[Value.int .i64 n_2, Value.int .i64 n_3]) ∧ K (Value.tuple #[Value.int .i64 (IntKind.wrap .i64 (n_2 + n)), Value.int .i64 0]) w') False)) False) False) False)))))
theorem vcE94 (z : Option Addr) (node : Int) (order : Int) (high : Bool) (w : World) (K : Value → World → Prop) : vcP94 z node order high w K = Eng.wBody Tryz.prog (Eng.handOf Tryz.prog [169, 98, 99, 113] 2) [] Tryz.f94 (Eng.bodyOf Tryz.f94) [Value.pointer z, Value.int .i64 node, Value.int .i64 order, Value.bool high] w K := by kernel_rfl
theorem vc94 (z : Option Addr) (node : Int) (order : Int) (high : Bool) (w : World) (K : Value → World → Prop) (h : vcP94 z node order high w K) : Calls Tryz.prog 94 #[Value.pointer z, Value.int .i64 node, Value.int .i64 order, Value.bool high] w (fun e w' => ∃ v, e = .returned v ∧ K v w') := Eng.vc_of [169, 98, 99, 113] 2 [] Tryz.mixes Tryz.func94 (by kernel_rfl) (by kernel_rfl) (vcE94 z node order high w K) h
end Go.Proofs.YtklmokolnakkoaaGreatDoor

namespace Go.Proofs.YtklmokolnakkoaaGreatDoor
open Go Eng
open Go.RowKit Go.Maps Go.Sort Go.Shelf
set_option linter.unusedSimpArgs false
set_option linter.unusedVariables false
set_option maxRecDepth 100000

def keysR : Value → Option (DataW Unit × List MemPlace) := fun _ => some (.lit (.bool true), [])
theorem map_owns {P : Program} {kt : TypeId} (hk : P.underlying kt = some (.int .i64)) {w : World} {b : Nat} {m : List (Int × Value)} (h : MapIs w b m) (hs : m.length ≤ maxLen) :
    ∃ D, w.ownsMap P kt keysR b m.length D ∧ (intKeys D).Perm (m.map (·.1)) ∧ Maps.size D = m.length := by
  obtain ⟨es, c, h1, h2, h3⟩ := h.ex
  have hlen : es.size = m.length := by
    have := h3.length_eq
    simpa using this
  have hrd : ∀ x ∈ es.toList, ∃ k, x.key = .int .i64 k ∧ Go.WideElems.rd P kt keysR x = some (.int .i64 k, .lit (.bool true)) := by
    intro x hx
    have : enE x ∈ m.map enK := h3.mem_iff.1 (List.mem_map.2 ⟨x, hx, rfl⟩)
    obtain ⟨q, hq, hqe⟩ := List.mem_map.1 this
    have hxk : x.key = .int .i64 q.1 := (congrArg Prod.fst hqe).symm
    have hr := h.rg q hq
    refine ⟨q.1, hxk, ?_⟩
    unfold Go.WideElems.rd
    rw [hxk, keyOf_int_mk hk (by simp [Lit.wf, IntKind.min, IntKind.max, IntKind.signed, IntKind.bits]; omega)]
    rfl
  refine ⟨_, ⟨es, c, h1, ⟨by omega, h2, fun x hx => ?_⟩, by omega, rfl⟩, ?_, ?_⟩
  · obtain ⟨k, _, hr⟩ := hrd x hx
    exact ⟨_, hr⟩
  · show ((es.toList.map (Go.WideElems.rg P kt keysR)).foldr DataW.insert []).map (fun p => _root_.Go.intOf p.1) |>.Perm _
    refine ((Go.WideShapes.sorted_perm _).map _).trans ?_
    rw [List.map_map]
    have e1 : es.toList.map ((fun p => _root_.Go.intOf p.1) ∘ Go.WideElems.rg P kt keysR) = (es.toList.map enE).map fun q => match q.1 with | .int _ n => n | _ => 0 := by
      rw [List.map_map]
      refine List.map_congr_left fun x hx => ?_
      obtain ⟨k, hxk, hr⟩ := hrd x hx
      simp [Go.WideElems.rg, hr, hxk, _root_.Go.intOf, enE]
    rw [e1]
    refine (h3.map _).trans (List.Perm.of_eq ?_)
    rw [List.map_map]
    rfl
  · show ((es.toList.map (Go.WideElems.rg P kt keysR)).foldr DataW.insert []).length = _
    rw [(Go.WideShapes.sorted_perm _).length_eq, List.length_map]
    simpa using hlen
theorem len_map {P : Program} {mt kt et : TypeId} (ht : P.underlying mt = some (.map kt et)) (hk : P.underlying kt = some (.int .i64)) {w : World} {b : Nat} {m : List (Int × Value)} (h : MapIs w b m) (hs : m.length ≤ 1000000) {ty : TypeId} :
    lenIs P #[mt] ty (.map (some b)) m.length w := by
  obtain ⟨D, hown, _, hsz⟩ := map_owns hk h (by unfold maxLen; omega)
  have := hown.len ht ty
  rw [hsz] at this
  exact ⟨this⟩
end Go.Proofs.YtklmokolnakkoaaGreatDoor
