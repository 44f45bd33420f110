/-
  A part of a proof that a law of this seat returns true at every input. Conditions: those in each theorem.
-/
import Derived.Test.YtkmcmkimeibjdaaRows
import Derived.Test.YtkmcmkimeibjdaaEngM
import Derived.Test.YtkmcmkimeibjdaaEngP
import Derived.Test.YtkmcmkimeibjdaaProg
import Derived.KernelRfl
namespace Go.Proofs.Ytkmcmkimeibjdaa
open Go.ChangeShapes Go.WideShapes Go.ChangeAt Go.RowKit Go.Eng
set_option linter.unusedSimpArgs false
set_option linter.unusedVariables false
set_option maxRecDepth 100000
theorem ownKnobs : ownKnob Try.prog.godebug = none := by kernel_rfl
theorem laid : laidOutB Try.prog = true := by kernel_rfl
theorem wf_i64 {x : Int} (h : (Lit.int .i64 x).wf = true) : -9223372036854775808 ≤ x ∧ x ≤ 9223372036854775807 := by
  simpa [Lit.wf, IntKind.min, IntKind.max, IntKind.signed, IntKind.bits] using h
theorem cells_3 : Try.prog.cellsOf 3 = 1 := by kernel_rfl
theorem cells_4 : Try.prog.cellsOf 4 = 1 := by kernel_rfl
theorem cells_29 : Try.prog.cellsOf 29 = 4 := by kernel_rfl
section
variable {H : Type} {enc : TypeId × Value → H}
theorem open_i64 {W : World} {base : Nat} {v : Value} {d : DataW H} {p : List MemPlace} (hv : Value.okWide Try.prog W .any base 3 v) (h : DataW.Trod enc Try.prog W 0 (fun _ => true) true 3 v d p) :
    ∃ a, v = .int .i64 a ∧ -9223372036854775808 ≤ a ∧ a ≤ 9223372036854775807 := by
  obtain ⟨a, rfl, rfl, rfl, w0⟩ := open_int Try.underlying3 hv h
  exact ⟨a, rfl, wf_i64 w0⟩
structure BOp' (w : World) (a : Option Addr) (i : Nat) (k p o : Int) (h : Bool) : Prop where
  r0 : rd w (pb a) (po a + i * 4) = some (.int .i64 k)
  r1 : rd w (pb a) (po a + i * 4 + 1) = some (.int .i64 p)
  r2 : rd w (pb a) (po a + i * 4 + 2) = some (.int .i64 o)
  r3 : rd w (pb a) (po a + i * 4 + 3) = some (.bool h)
  w0 : -9223372036854775808 ≤ p ∧ p ≤ 9223372036854775807
  w1 : -9223372036854775808 ≤ o ∧ o ≤ 9223372036854775807
variable {P : Program}
theorem open_ops4 {t e : TypeId} {f0 f1 f2 f3 : Field} (ht : P.underlying t = some (.slice e)) (he : P.underlying e = some (.struct #[f0, f1, f2, f3])) (ce : P.cellsOf e = 4)
    (o0 : f0.offset = 0) (o1 : f1.offset = 1) (o2 : f2.offset = 2) (o3 : f3.offset = 3) (c0 : P.cellsOf f0.type = 1) (c1 : P.cellsOf f1.type = 1) (c2 : P.cellsOf f2.type = 1) (c3 : P.cellsOf f3.type = 1)
    (h0 : P.underlying f0.type = some (.int .i64)) (h1 : P.underlying f1.type = some (.int .i64)) (h2 : P.underlying f2.type = some (.int .i64)) (h3 : P.underlying f3.type = some .bool)
    {W : World} {fuel : Nat} {vs : List Value} {q : DataW H × List MemPlace} (hf : DataW.trod enc P W 0 (fun _ => true) true fuel t vs = some q) :
    ∃ a l c, vs = [.slice a l c] ∧ l ≤ c ∧ c ≤ maxLen ∧ (0 < l → isP a = true) ∧ ∀ i, i < l → ∃ k p o h, BOp' W a i k p o h := by
  obtain ⟨a, l, c, rfl, hl, hm, hp, _, hx⟩ := open_row ht hf (by omega)
  refine ⟨a, l, c, rfl, hl, hm, hp, fun i hi => ?_⟩
  obtain ⟨cs, n, x, hlen, hcell, htr⟩ := hx i hi
  obtain ⟨xs, k, _, _, _, hxl, hfs⟩ := DataW.trod_struct he htr
  rw [ce] at hlen hcell
  match xs, hxl, cs, hlen with
  | [y0, y1, y2, y3], _, [v0, v1, v2, v3], _ =>
    have g0 := hfs 0 f0 rfl
    have g1 := hfs 1 f1 rfl
    have g2 := hfs 2 f2 rfl
    have g3 := hfs 3 f3 rfl
    simp [o0, o1, o2, o3, c0, c1, c2, c3] at g0 g1 g2 g3
    obtain ⟨k0, e0, _, w0⟩ := DataW.trod_int h0 g0
    obtain ⟨k1, e1, _, w1⟩ := DataW.trod_int h1 g1
    obtain ⟨k2, e2, _, w2⟩ := DataW.trod_int h2 g2
    obtain ⟨k3, e3, _⟩ := DataW.trod_bool h3 g3
    simp at e0 e1 e2 e3
    subst e0 e1 e2 e3
    have r0 := hcell 0 (by omega)
    have r1 := hcell 1 (by omega)
    have r2 := hcell 2 (by omega)
    have r3 := hcell 3 (by omega)
    refine ⟨k0, k1, k2, k3, r0, r1, r2, r3, ?_, ?_⟩
    · simpa [Lit.wf, IntKind.min, IntKind.max, IntKind.signed, IntKind.bits] using w1
    · simpa [Lit.wf, IntKind.min, IntKind.max, IntKind.signed, IntKind.bits] using w2
theorem open_bop {W : World} {base : Nat} {v : Value} {d : DataW H} {p : List MemPlace} (hv : Value.okWide Try.prog W .any base 22 v) (h : DataW.Trod enc Try.prog W 0 (fun _ => true) true 22 v d p) :
    ∃ a l c, v = .slice a l c ∧ (0 < l → isP a = true) ∧ ∀ i, i < l → ∃ k p o h, BOp' W a i k p o h := by
  obtain ⟨a0, l0, c0, rfl⟩ := okWide_slice Try.underlying22 hv
  obtain ⟨fuel, hf⟩ := h
  obtain ⟨a, l, c, e, _, _, hp, hx⟩ := open_ops4 Try.underlying22 Try.underlying29 cells_29 rfl rfl rfl rfl cells_3 cells_3 cells_3 cells_4 Try.underlying3 Try.underlying3 Try.underlying3 Try.underlying4 hf
  simp [Value.cells] at e
  obtain ⟨rfl, rfl, rfl⟩ := e
  exact ⟨_, _, _, rfl, hp, hx⟩
end
end Go.Proofs.Ytkmcmkimeibjdaa
namespace Go.Proofs
theorem Try.mixes : Try.prog.follows .mixedOrders = true := by kernel_rfl
end Go.Proofs
set_option linter.unusedVariables false
set_option maxRecDepth 100000
namespace Go.Proofs.Ytkmcmkimeibjdaa
open Go Go.Eng
/- byre/config.within -/
def vcP68 (n : Int) (least : Int) (most : Int) (w : World) (K : Value → World → Prop) : Prop :=
 K (Value.bool (decide (n ≥ least) && decide (n ≤ most))) w
theorem vcE68 (n : Int) (least : Int) (most : Int) (w : World) (K : Value → World → Prop) : vcP68 n least most w K = Eng.wBody Go.Proofs.Try.prog (Eng.handOf Go.Proofs.Try.prog [68] 1) [] Go.Proofs.Try.f68 (Eng.bodyOf Go.Proofs.Try.f68) [Value.int
 IntKind.i64 n,
 Value.int IntKind.i64 least, Value.int IntKind.i64 most] w K := by kernel_rfl
theorem vc68 (n : Int) (least : Int) (most : Int) (w : World) (K : Value → World → Prop) (h : vcP68 n least most w K) :
 Calls Go.Proofs.Try.prog 68 #[Value.int IntKind.i64 n, Value.int IntKind.i64 least, Value.int IntKind.i64 most] w (fun e w' => ∃ v, e = .returned v ∧ K v w') :=
 Eng.vc_of [68] 1 [] Go.Proofs.Try.mixes Go.Proofs.Try.func68 (by kernel_rfl) (by kernel_rfl) (vcE68 n least most w K) h

-- 100 ms
/- byre/config.bare -/
def vcP69 (c0 : Nat → Int) (w : World) (K : Value → World → Prop) : Prop :=
 ∀ (w' : World),
 w' = World.alloc w (Obj.cells (List.toArray (runI IntKind.i64 c0 0 94)) 41) →
 ∀ (w'_1 : World),
 w'_1 = World.alloc w' (Obj.cells (List.toArray (List.replicate 94 (Value.int IntKind.i64 0))) 41) →
 ∃ (x : Int),
 rd w'_1 (Array.size (World.heap w)) 1 = some (Value.int IntKind.i64 x) ∧
 Wif (okSl x 16 16)
 (∃ (w'_2 : World),
 clrIs Proofs.Try.prog #[42] 0 (Value.slice (offA (some (Addr.mk (Array.size (World.heap w)) 2 none)) 16 (Int.toNat x) 1) (16 - Int.toNat x) (16 - Int.toNat x)) w'_1 w'_2 ∧
 ∃ (x : Int),
 rd w'_2 (Array.size (World.heap w)) 0 = some (Value.int IntKind.i64 x) ∧
 Wif (okSl x 8 8)
 (∃ (w'_3 : World),
 clrIs Proofs.Try.prog #[42] 0 (Value.slice (offA (some (Addr.mk (Array.size (World.heap w)) 18 none)) 8 (Int.toNat x) 1) (8 - Int.toNat x) (8 - Int.toNat x)) w'_2 w'_3 ∧
 ∃ (I : Int → World → Nat → Prop),
 (∃ (n : Nat), I 0 w'_3 n) ∧
 ∀ (n : Int) (w'_4 : World) (n_1 : Nat),
 I n w'_4 n_1 →
 Wif (decide (n < 8))
 (∀ (w1 : World),
 w1 = World.drew w'_4 →
 Wif (inB n 8)
 (∃ (x : Int),
 rd w1 (Array.size (World.heap w)) 0 = some (Value.int IntKind.i64 x) ∧
 Wif (okSl x 8 8)
 (∃ (w' : World),
 clrIs Proofs.Try.prog #[42] 0
 (Value.slice (offA (some (Addr.mk (Array.size (World.heap w)) (26 + Int.toNat n * 8) none)) 8 (Int.toNat x) 1) (8 - Int.toNat x)
 (8 - Int.toNat x))
 w1 w' ∧
 ∃ (m : Nat), Nat.succ m ≤ n_1 ∧ I (IntKind.wrap IntKind.i64 (n + 1)) w' m)
 False)
 False)
 (∃ (x : Int),
 rd w'_4 (Array.size (World.heap w)) 0 = some (Value.int IntKind.i64 x) ∧
 Wif (okSl x 8 8)
 (∃ (w'_5 : World),
 clrIs Proofs.Try.prog #[122] 0
 (Value.slice (offA (some (Addr.mk (Array.size (World.heap w)) 26 none)) 8 (Int.toNat x) 8) (8 - Int.toNat x) (8 - Int.toNat x)) w'_4 w'_5 ∧
 ∃ (x : Nat → Int),
 rdAll w'_5 (Array.size (World.heap w)) 0 (runI IntKind.i64 x 0 94) ∧
 wrAll w'_5 (Array.size (World.heap w')) 0 (runI IntKind.i64 x 0 94) ∧
 ∀ (w'_6 : World),
 w'_6 = stAll w'_5 (Array.size (World.heap w')) 0 (runI IntKind.i64 x 0 94) →
 ∃ (x : Nat → Int),
 rdAll w'_6 (Array.size (World.heap w')) 0 (runI IntKind.i64 x 0 94) ∧ K (Value.agg (List.toArray (runI IntKind.i64 x 0 94))) w'_6)
 False))
 False)
 False
theorem vcE69 (c0 : Nat →
 Int) (w : World) (K : Value → World → Prop) : vcP69 c0 w K = Eng.wBody Go.Proofs.Try.prog (Eng.handOf Go.Proofs.Try.prog [68] 1) [] Go.Proofs.Try.f69 (Eng.bodyOf Go.Proofs.Try.f69) [Value.agg
 (List.toArray (runI IntKind.i64 c0 0 94))] w K := by kernel_rfl
theorem vc69 (c0 : Nat → Int) (w : World) (K : Value → World → Prop) (h : vcP69 c0 w K) :
 Calls Go.Proofs.Try.prog 69 #[Value.agg (List.toArray (runI IntKind.i64 c0 0 94))] w (fun e w' => ∃ v, e = .returned v ∧ K v w') :=
 Eng.vc_of [68] 1 [] Go.Proofs.Try.mixes Go.Proofs.Try.func69 (by kernel_rfl) (by kernel_rfl) (vcE69 c0 w K) h

-- 2059 ms
/- byre/config.near -/
def vcP70 (c0 : Nat → Int) (w : World) (K : Value → World → Prop) : Prop :=
 ∀ (w' : World),
 w' = World.alloc w (Obj.cells (List.toArray (runI IntKind.i64 c0 0 94)) 41) →
 ∃ (x : Int),
 rd w' (Array.size (World.heap w)) 0 = some (Value.int IntKind.i64 x) ∧
 ∃ (I : Bool → Int → World → Nat → Prop),
 (∃ (n : Nat), I false 0 w' n) ∧
 ∀ (b : Bool) (n : Int) (w' : World) (n_1 : Nat),
 I b n w' n_1 →
 Wif (decide (n < x))
 (∃ (x : Int),
 rd w' (Array.size (World.heap w)) 0 = some (Value.int IntKind.i64 x) ∧
 ∃ (I_1 : Bool → Int → World → Nat → Prop),
 (∃ (n : Nat), I_1 b 0 w' n) ∧
 ∀ (b : Bool) (n_2 : Int) (w' : World) (n_3 : Nat),
 I_1 b n_2 w' n_3 →
 Wif (decide (n_2 < x))
 (Wif (inB n 8)
 (Wif (inB n_2 8)
 (∃ (x : Int),
 rd w' (Array.size (World.heap w)) (26 + Int.toNat n * 8 + Int.toNat n_2 * 1) = some (Value.int IntKind.i64 x) ∧
 Wif (!(x == 0) == (n == n_2)) (K (Value.bool false) w')
 (gIf (inB n_2 8) ((!(decide (x ≥ 0) && decide (x ≤ 255))) = false)
 (gIf (inB n 8) ((!(decide (x ≥ 0) && decide (x ≤ 255))) = false)
 (∃ (x_1 : Int),
 ((!(decide (x ≥ 0) && decide (x ≤ 255))) = false →
 rd w' (Array.size (World.heap w)) (26 + Int.toNat n_2 * 8 + Int.toNat n * 1) = some (Value.int IntKind.i64 x_1)) ∧
 Wif (!(decide (x ≥ 0) && decide (x ≤ 255)) || x != x_1) (K (Value.bool false) w')
 (∃ (m : Nat), Nat.succ m ≤ n_3 ∧ I_1 b (IntKind.wrap IntKind.i64 (n_2 + 1)) w' m)))))
 False)
 False)
 (∃ (m : Nat), Nat.succ m ≤ n_1 ∧ I b (IntKind.wrap IntKind.i64 (n + 1)) w' m))
 (K (Value.bool true) w')
theorem vcE70 (c0 : Nat →
 Int) (w : World) (K : Value → World → Prop) : vcP70 c0 w K = Eng.wBody Go.Proofs.Try.prog (Eng.handOf Go.Proofs.Try.prog [68] 1) [] Go.Proofs.Try.f70 (Eng.bodyOf Go.Proofs.Try.f70) [Value.agg
 (List.toArray (runI IntKind.i64 c0 0 94))] w K := by kernel_rfl
theorem vc70 (c0 : Nat → Int) (w : World) (K : Value → World → Prop) (h : vcP70 c0 w K) :
 Calls Go.Proofs.Try.prog 70 #[Value.agg (List.toArray (runI IntKind.i64 c0 0 94))] w (fun e w' => ∃ v, e = .returned v ∧ K v w') :=
 Eng.vc_of [68] 1 [] Go.Proofs.Try.mixes Go.Proofs.Try.func70 (by kernel_rfl) (by kernel_rfl) (vcE70 c0 w K) h

-- 5735 ms
/- byre/config.May -/
def vcP48 (c0 : Nat → Int) (w : World) (K : Value → World → Prop) : Prop :=
 ∀ (w' : World),
 w' = World.alloc w (Obj.cells (List.toArray (runI IntKind.i64 c0 0 94)) 41) →
 ∀ (w1 : World),
 w1 = World.drew w' →
 ∃ (x : Int),
 rd w1 (Array.size (World.heap w)) 0 = some (Value.int IntKind.i64 x) ∧
 ∃ (x_1 : Int),
 ((!(decide (x ≥ 1) && decide (x ≤ 8))) = false → rd w1 (Array.size (World.heap w)) 1 = some (Value.int IntKind.i64 x_1)) ∧
 Wif (!(decide (x ≥ 1) && decide (x ≤ 8))) (K (Value.bool false) w1)
 (∃ (x : Int),
 ((!(decide (x_1 ≥ 1) && decide (x_1 ≤ 16))) = false → rd w1 (Array.size (World.heap w)) 90 = some (Value.int IntKind.i64 x)) ∧
 Wif (!(decide (x_1 ≥ 1) && decide (x_1 ≤ 16))) (K (Value.bool false) w1)
 (∃ (x_2 : Nat → Int),
 ((!(decide (x ≥ 0) && decide (x ≤ 1024))) = false → rdAll w1 (Array.size (World.heap w)) 0 (runI IntKind.i64 x_2 0 94)) ∧
 ∃ (x_3 : Nat → Int),
 ((!(decide (x ≥ 0) && decide (x ≤ 1024))) = false → rdAll w1 (Array.size (World.heap w)) 0 (runI IntKind.i64 x_3 0 94)) ∧
 Wif (!(decide (x ≥ 0) && decide (x ≤ 1024)))
 (((!(decide (x ≥ 0) && decide (x ≤ 1024))) = false → rdAll w1 (Array.size (World.heap w)) 0 (runI IntKind.i64 x_2 0 94) ∧ True) ∧ K (Value.bool false) w1)
 (Calls Proofs.Try.prog 69 #[Value.agg (List.toArray (runI IntKind.i64 x_3 0 94))] w1 fun (e : Ending) (w' : World) =>
 ∃ (f : Nat → Int),
 e = Ending.returned (Value.agg (List.toArray (runI IntKind.i64 f 0 94))) ∧
 ((!(decide (x ≥ 0) && decide (x ≤ 1024))) = false → rdAll w' (Array.size (World.heap w)) 0 (runI IntKind.i64 x_2 0 94) ∧ True) ∧
 Wif
 (!(x_2 0 == f 0 &&
 (x_2 1 == f 1 &&
 (x_2 2 == f 2 &&
 (x_2 3 == f 3 &&
 (x_2 4 == f 4 &&
 (x_2 5 == f 5 &&
 (x_2 6 == f 6 &&
 (x_2 7 == f 7 &&
 (x_2 8 == f 8 &&
 (x_2 9 == f 9 &&
 (x_2 10 == f 10 &&
 (x_2 11 == f 11 &&
 (x_2 12 == f 12 &&
 (x_2 13 == f 13 && (x_2 14 == f 14 && (x_2 15 == f 15 && (x_2 16 == f 16 && (x_2 17 == f 17 && true))))))))))))))) &&
 (x_2 18 == f 18 &&
 (x_2 19 == f 19 &&
 (x_2 20 == f 20 && (x_2 21 == f 21 && (x_2 22 == f 22 && (x_2 23 == f 23 && (x_2 24 == f 24 && (x_2 25 == f 25 && true))))))) &&
 (x_2 26 == f 26 &&
 (x_2 27 == f 27 &&
 (x_2 28 == f 28 && (x_2 29 == f 29 && (x_2 30 == f 30 && (x_2 31 == f 31 && (x_2 32 == f 32 && (x_2 33 == f 33 && true))))))) &&
 (x_2 34 == f 34 &&
 (x_2 35 == f 35 &&
 (x_2 36 == f 36 && (x_2 37 == f 37 && (x_2 38 == f 38 && (x_2 39 == f 39 && (x_2 40 == f 40 && (x_2 41 == f 41 && true))))))) &&
 (x_2 42 == f 42 &&
 (x_2 43 == f 43 &&
 (x_2 44 == f 44 && (x_2 45 == f 45 && (x_2 46 == f 46 && (x_2 47 == f 47 && (x_2 48 == f 48 && (x_2 49 == f 49 && true))))))) &&
 (x_2 50 == f 50 &&
 (x_2 51 == f 51 &&
 (x_2 52 == f 52 && (x_2 53 == f 53 && (x_2 54 == f 54 && (x_2 55 == f 55 && (x_2 56 == f 56 && (x_2 57 == f 57 && true))))))) &&
 (x_2 58 == f 58 &&
 (x_2 59 == f 59 &&
 (x_2 60 == f 60 && (x_2 61 == f 61 && (x_2 62 == f 62 && (x_2 63 == f 63 && (x_2 64 == f 64 && (x_2 65 == f 65 && true))))))) &&
 (x_2 66 == f 66 &&
 (x_2 67 == f 67 &&
 (x_2 68 == f 68 &&
 (x_2 69 == f 69 && (x_2 70 == f 70 && (x_2 71 == f 71 && (x_2 72 == f 72 && (x_2 73 == f 73 && true))))))) &&
 (x_2 74 == f 74 &&
 (x_2 75 == f 75 &&
 (x_2 76 == f 76 &&
 (x_2 77 == f 77 && (x_2 78 == f 78 && (x_2 79 == f 79 && (x_2 80 == f 80 && (x_2 81 == f 81 && true))))))) &&
 (x_2 82 == f 82 &&
 (x_2 83 == f 83 &&
 (x_2 84 == f 84 &&
 (x_2 85 == f 85 && (x_2 86 == f 86 && (x_2 87 == f 87 && (x_2 88 == f 88 && (x_2 89 == f 89 && true))))))) &&
 true))))))) &&
 (x_2 90 == f 90 && (x_2 91 == f 91 && (x_2 92 == f 92 && (x_2 93 == f 93 && true))))))))))
 (K (Value.bool false) w')
 (∃ (x : Int),
 rd w' (Array.size (World.heap w)) 1 = some (Value.int IntKind.i64 x) ∧
 Wif (okSl 0 x 16)
 (∃ (I : Bool → Int → World → Nat → Prop),
 (∃ (n : Nat), I false 0 w' n) ∧
 ∀ (b : Bool) (n : Int) (w' : World) (n_1 : Nat),
 I b n w' n_1 →
 Wif (decide (n < (↑(Int.toNat x) : Int)))
 (Wif (inB n (Int.toNat x))
 (∃ (x : Int),
 rd w' (Array.size (World.heap w)) (2 + Int.toNat n * 1) = some (Value.int IntKind.i64 x) ∧
 ∃ (x_4 : Int),
 rd w' (Array.size (World.heap w)) 0 = some (Value.int IntKind.i64 x_4) ∧
 Wif (!(decide (x ≥ 0) && decide (x ≤ IntKind.wrap IntKind.i64 (x_4 - 1)))) (K (Value.bool false) w')
 (∃ (m : Nat), Nat.succ m ≤ n_1 ∧ I b (IntKind.wrap IntKind.i64 (n + 1)) w' m))
 False)
 (∃ (x : Int),
 rd w' (Array.size (World.heap w)) 0 = some (Value.int IntKind.i64 x) ∧
 Wif (okSl 0 x 8)
 (∃ (I : Bool → Int → World → Nat → Prop),
 (∃ (n : Nat), I b 0 w' n) ∧
 ∀ (b : Bool) (n : Int) (w' : World) (n_2 : Nat),
 I b n w' n_2 →
 Wif (decide (n < (↑(Int.toNat x) : Int)))
 (Wif (inB n (Int.toNat x))
 (∃ (x : Int),
 rd w' (Array.size (World.heap w)) (18 + Int.toNat n * 1) = some (Value.int IntKind.i64 x) ∧
 ∃ (x_4 : Int),
 ((!(decide (x ≥ 4) && decide (x ≤ 128))) = false →
 rd w' (Array.size (World.heap w)) 93 = some (Value.int IntKind.i64 x_4)) ∧
 Wif (!(decide (x ≥ 4) && decide (x ≤ 128)) || decide (x_4 > x)) (K (Value.bool false) w')
 (∃ (m : Nat), Nat.succ m ≤ n_2 ∧ I b (IntKind.wrap IntKind.i64 (n + 1)) w' m))
 False)
 (∃ (x : Nat → Int),
 rdAll w' (Array.size (World.heap w)) 0 (runI IntKind.i64 x 0 94) ∧
 Calls Proofs.Try.prog 70 #[Value.agg (List.toArray (runI IntKind.i64 x 0 94))] w' fun (e : Ending) (w' : World) =>
 ∃ (b : Bool),
 e = Ending.returned (Value.bool b) ∧
 ∃ (x : Int),
 (b = true → rd w' (Array.size (World.heap w)) 91 = some (Value.int IntKind.i64 x)) ∧
 ∃ (x_4 : Int),
 ((b && decide (0 ≤ x)) = true → rd w' (Array.size (World.heap w)) 91 = some (Value.int IntKind.i64 x_4)) ∧
 ∃ (x_5 : Int),
 ((b && decide (0 ≤ x)) = true →
 rd w' (Array.size (World.heap w)) 92 = some (Value.int IntKind.i64 x_5)) ∧
 ∃ (x_6 : Int),
 ((b && decide (0 ≤ x) && decide (x_4 ≤ x_5)) = true →
 rd w' (Array.size (World.heap w)) 92 = some (Value.int IntKind.i64 x_6)) ∧
 ∃ (x_7 : Int),
 ((b && decide (0 ≤ x) && decide (x_4 ≤ x_5)) = true →
 rd w' (Array.size (World.heap w)) 93 = some (Value.int IntKind.i64 x_7)) ∧
 K (Value.bool (b && decide (0 ≤ x) && decide (x_4 ≤ x_5) && decide (x_6 ≤ x_7))) w'))
 False))
 False))))
theorem vcE48 (c0 : Nat →
 Int) (w : World) (K : Value → World → Prop) : vcP48 c0 w K = Eng.wBody Go.Proofs.Try.prog (Eng.handOf Go.Proofs.Try.prog [68] 1) [] Go.Proofs.Try.f48 (Eng.bodyOf Go.Proofs.Try.f48) [Value.agg
 (List.toArray (runI IntKind.i64 c0 0 94))] w K := by kernel_rfl
theorem vc48 (c0 : Nat → Int) (w : World) (K : Value → World → Prop) (h : vcP48 c0 w K) :
 Calls Go.Proofs.Try.prog 48 #[Value.agg (List.toArray (runI IntKind.i64 c0 0 94))] w (fun e w' => ∃ v, e = .returned v ∧ K v w') :=
 Eng.vc_of [68] 1 [] Go.Proofs.Try.mixes Go.Proofs.Try.func48 (by kernel_rfl) (by kernel_rfl) (vcE48 c0 w K) h

-- 27498 ms
/- byre/config.Node -/
def vcP52 (c0 : Nat → Int) (frame : Int) (w : World) (K : Value → World → Prop) : Prop :=
 ∀ (w' : World),
 w' = World.alloc w (Obj.cells (List.toArray (runI IntKind.i64 c0 0 94)) 41) →
 ∃ (x : Nat → Int),
 rdAll w' (Array.size (World.heap w)) 0 (runI IntKind.i64 x 0 94) ∧
 Calls Proofs.Try.prog 48 #[Value.agg (List.toArray (runI IntKind.i64 x 0 94))] w' fun (e : Ending) (w' : World) =>
 ∃ (b : Bool),
 e = Ending.returned (Value.bool b) ∧
 Wif (!b) (K (Value.tuple #[Value.int IntKind.i64 0, Value.int IntKind.i64 2]) w')
 (∃ (I : Int → Int → Int → Int → World → Nat → Prop),
 (∃ (n : Nat), I frame 0 0 0 w' n) ∧
 ∀ (n n_1 n_2 n_3 : Int) (w' : World) (n_4 : Nat),
 I n n_1 n_2 n_3 w' n_4 →
 ∃ (x : Int),
 (decide (n ≥ 0) = true → rd w' (Array.size (World.heap w)) 0 = some (Value.int IntKind.i64 x)) ∧
 Wif (decide (n ≥ 0) && decide (n_3 < x))
 (Wif (inB n_3 8)
 (∃ (x : Int),
 rd w' (Array.size (World.heap w)) (18 + Int.toNat n_3 * 1) = some (Value.int IntKind.i64 x) ∧
 Wif (decide (n < x)) (K (Value.tuple #[Value.int IntKind.i64 n_3, Value.int IntKind.i64 0]) w')
 (Wif (inB n_3 8)
 (∃ (x : Int),
 rd w' (Array.size (World.heap w)) (18 + Int.toNat n_3 * 1) = some (Value.int IntKind.i64 x) ∧
 ∃ (m : Nat), Nat.succ m ≤ n_4 ∧ I (IntKind.wrap IntKind.i64 (n - x)) n_1 n_2 (IntKind.wrap IntKind.i64 (n_3 + 1)) w' m)
 False))
 False)
 (K (Value.tuple #[Value.int IntKind.i64 0, Value.int IntKind.i64 7]) w'))
theorem vcE52 (c0 : Nat →
 Int) (frame : Int) (w : World) (K : Value → World → Prop) : vcP52 c0 frame w K = Eng.wBody Go.Proofs.Try.prog (Eng.handOf Go.Proofs.Try.prog [68] 1) [] Go.Proofs.Try.f52 (Eng.bodyOf Go.Proofs.Try.f52) [Value.agg
 (List.toArray (runI IntKind.i64 c0 0 94)),
 Value.int IntKind.i64 frame] w K := by kernel_rfl
theorem vc52 (c0 : Nat → Int) (frame : Int) (w : World) (K : Value → World → Prop) (h : vcP52 c0 frame w K) :
 Calls Go.Proofs.Try.prog 52 #[Value.agg (List.toArray (runI IntKind.i64 c0 0 94)), Value.int IntKind.i64 frame] w (fun e w' => ∃ v, e = .returned v ∧ K v w') :=
 Eng.vc_of [68] 1 [] Go.Proofs.Try.mixes Go.Proofs.Try.func52 (by kernel_rfl) (by kernel_rfl) (vcE52 c0 frame w K) h

-- 2205 ms
/- byre/config.First -/
def vcP53 (c0 : Nat → Int) (node : Int) (w : World) (K : Value → World → Prop) : Prop :=
 ∀ (w' : World),
 w' = World.alloc w (Obj.cells (List.toArray (runI IntKind.i64 c0 0 94)) 41) →
 ∃ (x : Nat → Int),
 rdAll w' (Array.size (World.heap w)) 0 (runI IntKind.i64 x 0 94) ∧
 Calls Proofs.Try.prog 48 #[Value.agg (List.toArray (runI IntKind.i64 x 0 94))] w' fun (e : Ending) (w' : World) =>
 ∃ (b : Bool),
 e = Ending.returned (Value.bool b) ∧
 Wif (!b) (K (Value.tuple #[Value.int IntKind.i64 0, Value.int IntKind.i64 2]) w')
 (∃ (x : Int),
 rd w' (Array.size (World.heap w)) 0 = some (Value.int IntKind.i64 x) ∧
 Wif (!(decide (node ≥ 0) && decide (node ≤ IntKind.wrap IntKind.i64 (x - 1)))) (K (Value.tuple #[Value.int IntKind.i64 0, Value.int IntKind.i64 7]) w')
 (Wif (okSl 0 node 8)
 (∃ (I : Int → Int → World → Nat → Prop),
 (∃ (n : Nat), I 0 0 w' n) ∧
 ∀ (n n_1 : Int) (w' : World) (n_2 : Nat),
 I n n_1 w' n_2 →
 Wif (decide (n_1 < (↑(Int.toNat node) : Int)))
 (Wif (inB n_1 (Int.toNat node))
 (∃ (x : Int),
 rd w' (Array.size (World.heap w)) (18 + Int.toNat n_1 * 1) = some (Value.int IntKind.i64 x) ∧
 ∃ (m : Nat), Nat.succ m ≤ n_2 ∧ I (IntKind.wrap IntKind.i64 (n + x)) (IntKind.wrap IntKind.i64 (n_1 + 1)) w' m)
 False)
 (K (Value.tuple #[Value.int IntKind.i64 n, Value.int IntKind.i64 0]) w'))
 False))
theorem vcE53 (c0 : Nat →
 Int) (node : Int) (w : World) (K : Value → World → Prop) : vcP53 c0 node w K = Eng.wBody Go.Proofs.Try.prog (Eng.handOf Go.Proofs.Try.prog [68] 1) [] Go.Proofs.Try.f53 (Eng.bodyOf Go.Proofs.Try.f53) [Value.agg
 (List.toArray (runI IntKind.i64 c0 0 94)),
 Value.int IntKind.i64 node] w K := by kernel_rfl
theorem vc53 (c0 : Nat → Int) (node : Int) (w : World) (K : Value → World → Prop) (h : vcP53 c0 node w K) :
 Calls Go.Proofs.Try.prog 53 #[Value.agg (List.toArray (runI IntKind.i64 c0 0 94)), Value.int IntKind.i64 node] w (fun e w' => ∃ v, e = .returned v ∧ K v w') :=
 Eng.vc_of [68] 1 [] Go.Proofs.Try.mixes Go.Proofs.Try.func53 (by kernel_rfl) (by kernel_rfl) (vcE53 c0 node w K) h

-- 2166 ms

end Go.Proofs.Ytkmcmkimeibjdaa
