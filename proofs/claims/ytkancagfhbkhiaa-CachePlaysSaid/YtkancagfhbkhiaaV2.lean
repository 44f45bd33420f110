/-
  A part of a proof that a law of this seat returns true at every input. Conditions: those in each theorem.
-/
import Derived.Test.YtkancagfhbkhiaaEngJ
import Derived.Test.YtkancagfhbkhiaaProg
import Derived.KernelRfl
set_option linter.unusedVariables false
set_option linter.unusedSimpArgs false
namespace Go.Proofs
theorem Try.mixes : Try.prog.follows .mixedOrders = true := by kernel_rfl
end Go.Proofs
namespace Go.Proofs.Ytkancagfhbkhiaa
open Go Go.Eng
/- (*byre/chain.Slab).push -/
def vcP54 (s : Option Addr) (i : Int) (w : World) (K : Value → World → Prop) : Prop :=
  ∀ (w1 : World),
    w1 = World.drew w →
      Wif (isP s)
        (∃ (x : Option Addr),
          ∃ (x_1 : Nat),
            ∃ (x_2 : Nat),
              rd w1 (pb s) (po s) = some (Value.slice x x_1 x_2) ∧
                Wif (isP s)
                  (∃ (x_3 : Int),
                    rd w1 (pb s) (po s + 2) = some (Value.int IntKind.i64 x_3) ∧
                      Wif (isP s)
                        (∃ (x_4 : Int),
                          rd w1 (pb s) (po s + 1) = some (Value.int IntKind.i64 x_4) ∧
                            Wif (isP s)
                              (∃ (x_5 : Int),
                                rd w1 (pb s) (po s + 4) = some (Value.int IntKind.u8 x_5) ∧
                                  Wif (isP x)
                                    (Wif (inB (IntKind.wrap IntKind.i64 (x_3 + IntKind.wrap IntKind.i64 (i * x_4))) x_1)
                                      (wr w1 (pb x) (po x + Int.toNat (IntKind.wrap IntKind.i64 (x_3 + IntKind.wrap IntKind.i64 (i * x_4))) * 1) ∧
                                        ∀ (w' : World),
                                          w' = st w1 (pb x) (po x + Int.toNat (IntKind.wrap IntKind.i64 (x_3 + IntKind.wrap IntKind.i64 (i * x_4))) * 1) (Value.int IntKind.u8 x_5) →
                                            Wif (isP s)
                                              (wr w' (pb s) (po s + 4) ∧
                                                ∀ (w'_1 : World),
                                                  w'_1 = st w' (pb s) (po s + 4) (Value.int IntKind.u8 (IntKind.wrap IntKind.u8 i)) →
                                                    Wif (isP s)
                                                      (∃ (x : Int),
                                                        rd w'_1 (pb s) (po s + 5) = some (Value.int IntKind.i64 x) ∧
                                                          Wif (isP s)
                                                            (wr w'_1 (pb s) (po s + 5) ∧
                                                              ∀ (w' : World), w' = st w'_1 (pb s) (po s + 5) (Value.int IntKind.i64 (IntKind.wrap IntKind.i64 (x + 1))) → K (Value.tuple #[]) w')
                                                            False)
                                                      False)
                                              False)
                                      False)
                                    False)
                              False)
                        False)
                  False)
        False
theorem vcE54 (s : Option
  Addr) (i : Int) (w : World) (K : Value → World → Prop) : vcP54 s i w K = Eng.wBody Go.Proofs.Try.prog (Eng.handOf Go.Proofs.Try.prog [54,
 55,
 56] 1) [] Go.Proofs.Try.f54 (Eng.bodyOf Go.Proofs.Try.f54) [Value.pointer s, Value.int IntKind.i64 i] w K := by kernel_rfl
theorem vc54 (s : Option Addr) (i : Int) (w : World) (K : Value → World → Prop) (h : vcP54 s i w K) :
    Calls Go.Proofs.Try.prog 54 #[Value.pointer s, Value.int IntKind.i64 i] w (fun e w' => ∃ v, e = .returned v ∧ K v w') :=
  Eng.vc_of [54, 55, 56] 1 [] Go.Proofs.Try.mixes Go.Proofs.Try.func54 (by kernel_rfl) (by kernel_rfl) (vcE54 s i w K) h

/- (*byre/chain.Slab).none -/
def vcP55 (s : Option Addr) (w : World) (K : Value → World → Prop) : Prop :=
  gIf (isP s) (Option.isNone s = false) (∃ (x : Int), (Option.isNone s = false → rd w (pb s) (po s + 1) = some (Value.int IntKind.i64 x)) ∧ K (Value.bool (Option.isNone s || x == 0)) w)
theorem vcE55 (s : Option
  Addr) (w : World) (K : Value → World → Prop) : vcP55 s w K = Eng.wBody Go.Proofs.Try.prog (Eng.handOf Go.Proofs.Try.prog [54,
 55,
 56] 1) [] Go.Proofs.Try.f55 (Eng.bodyOf Go.Proofs.Try.f55) [Value.pointer s] w K := by kernel_rfl
theorem vc55 (s : Option Addr) (w : World) (K : Value → World → Prop) (h : vcP55 s w K) :
    Calls Go.Proofs.Try.prog 55 #[Value.pointer s] w (fun e w' => ∃ v, e = .returned v ∧ K v w') :=
  Eng.vc_of [54, 55, 56] 1 [] Go.Proofs.Try.mixes Go.Proofs.Try.func55 (by kernel_rfl) (by kernel_rfl) (vcE55 s w K) h

/- (*byre/chain.Slab).has -/
def vcP56 (s : Option Addr) (i : Int) (w : World) (K : Value → World → Prop) : Prop :=
  gIf (isP s) (Option.isNone s = false)
    (∃ (x : Int),
      (Option.isNone s = false → rd w (pb s) (po s + 1) = some (Value.int IntKind.i64 x)) ∧
        Wif (Option.isNone s || x == 0) (K (Value.int IntKind.i64 1) w)
          (gIf (isP s) (decide (i < 0) = false)
            (∃ (x : Int),
              (decide (i < 0) = false → rd w (pb s) (po s + 3) = some (Value.int IntKind.i64 x)) ∧
                Wif (decide (i < 0) || decide (i ≥ x)) (K (Value.int IntKind.i64 2) w) (K (Value.int IntKind.i64 0) w))))
theorem vcE56 (s : Option
  Addr) (i : Int) (w : World) (K : Value → World → Prop) : vcP56 s i w K = Eng.wBody Go.Proofs.Try.prog (Eng.handOf Go.Proofs.Try.prog [54,
 55,
 56] 1) [] Go.Proofs.Try.f56 (Eng.bodyOf Go.Proofs.Try.f56) [Value.pointer s, Value.int IntKind.i64 i] w K := by kernel_rfl
theorem vc56 (s : Option Addr) (i : Int) (w : World) (K : Value → World → Prop) (h : vcP56 s i w K) :
    Calls Go.Proofs.Try.prog 56 #[Value.pointer s, Value.int IntKind.i64 i] w (fun e w' => ∃ v, e = .returned v ∧ K v w') :=
  Eng.vc_of [54, 55, 56] 1 [] Go.Proofs.Try.mixes Go.Proofs.Try.func56 (by kernel_rfl) (by kernel_rfl) (vcE56 s i w K) h

/- byre/chain.New -/
def vcP15 (b : Option Addr) (bL : Nat) (bC : Nat) (size : Int) (colour : Int) (w : World) (K : Value → World → Prop) : Prop :=
  gIf (size != 0) (((↑bL : Int) != 256 || decide (size < 8) || decide (size > 128) || Int.tmod size 8 != 0 || decide (colour < 0) || Int.tmod colour 8 != 0) = false)
    (Wif ((↑bL : Int) != 256 || decide (size < 8) || decide (size > 128) || Int.tmod size 8 != 0 || decide (colour < 0) || Int.tmod colour 8 != 0 || decide (colour > Int.tmod 256 size))
      (K (Value.tuple #[Value.pointer none, Value.int IntKind.i64 2]) w)
      (Wif (size != 0)
        (∀ (w' : World),
          w' =
              World.alloc w
                (Obj.cells
                  (List.toArray
                    ([Value.slice b bL bC, Value.int IntKind.i64 size, Value.int IntKind.i64 colour,
                        Value.int IntKind.i64 (IntKind.wrap IntKind.i64 (Int.tdiv (IntKind.wrap IntKind.i64 (256 - colour)) size)), Value.int IntKind.u8 255, Value.int IntKind.i64 0] ++
                      (List.replicate 32 (Value.bool false) ++ List.replicate 32 (Value.int IntKind.u64 0))))
                  57) →
            ∃ (x : Int),
              rd w' (Array.size (World.heap w)) 3 = some (Value.int IntKind.i64 x) ∧
                ∃ (I : Int → World → Nat → Prop),
                  (∃ (n : Nat), I (IntKind.wrap IntKind.i64 (x - 1)) w' n) ∧
                    ∀ (n : Int) (w' : World) (n_1 : Nat),
                      I n w' n_1 →
                        Wif (decide (n ≥ 0))
                          (∀ (w1 : World),
                            w1 = World.drew w' →
                              ∃ (x : Option Addr),
                                ∃ (x_1 : Nat),
                                  ∃ (x_2 : Nat),
                                    rd w1 (Array.size (World.heap w)) 0 = some (Value.slice x x_1 x_2) ∧
                                      ∃ (x_3 : Int),
                                        rd w1 (Array.size (World.heap w)) 2 = some (Value.int IntKind.i64 x_3) ∧
                                          ∃ (x_4 : Int),
                                            rd w1 (Array.size (World.heap w)) 1 = some (Value.int IntKind.i64 x_4) ∧
                                              ∃ (x_5 : Int),
                                                rd w1 (Array.size (World.heap w)) 4 = some (Value.int IntKind.u8 x_5) ∧
                                                  Wif (isP x)
                                                    (Wif (inB (IntKind.wrap IntKind.i64 (x_3 + IntKind.wrap IntKind.i64 (n * x_4))) x_1)
                                                      (wr w1 (pb x) (po x + Int.toNat (IntKind.wrap IntKind.i64 (x_3 + IntKind.wrap IntKind.i64 (n * x_4))) * 1) ∧
                                                        ∀ (w' : World),
                                                          w' = st w1 (pb x) (po x + Int.toNat (IntKind.wrap IntKind.i64 (x_3 + IntKind.wrap IntKind.i64 (n * x_4))) * 1) (Value.int IntKind.u8 x_5) →
                                                            wr w' (Array.size (World.heap w)) 4 ∧
                                                              ∀ (w'_1 : World),
                                                                w'_1 = st w' (Array.size (World.heap w)) 4 (Value.int IntKind.u8 (IntKind.wrap IntKind.u8 n)) →
                                                                  ∃ (x : Int),
                                                                    rd w'_1 (Array.size (World.heap w)) 5 = some (Value.int IntKind.i64 x) ∧
                                                                      wr w'_1 (Array.size (World.heap w)) 5 ∧
                                                                        ∀ (w' : World),
                                                                          w' = st w'_1 (Array.size (World.heap w)) 5 (Value.int IntKind.i64 (IntKind.wrap IntKind.i64 (x + 1))) →
                                                                            ∃ (m : Nat), Nat.succ m ≤ n_1 ∧ I (IntKind.wrap IntKind.i64 (n - 1)) w' m)
                                                      False)
                                                    False)
                          (K (Value.tuple #[Value.pointer (some (Addr.mk (Array.size (World.heap w)) 0 none)), Value.int IntKind.i64 0]) w'))
        False))
theorem vcE15 (b : Option
  Addr) (bL : Nat) (bC : Nat) (size : Int) (colour : Int) (w : World) (K : Value → World → Prop) : vcP15 b bL bC size colour w K = Eng.wBody Go.Proofs.Try.prog (Eng.handOf Go.Proofs.Try.prog [54,
 55,
 56] 1) [] Go.Proofs.Try.f15 (Eng.bodyOf Go.Proofs.Try.f15) [Value.slice b bL bC, Value.int IntKind.i64 size, Value.int IntKind.i64 colour] w K := by kernel_rfl
theorem vc15 (b : Option Addr) (bL : Nat) (bC : Nat) (size : Int) (colour : Int) (w : World) (K : Value → World → Prop) (h : vcP15 b bL bC size colour w K) :
    Calls Go.Proofs.Try.prog 15 #[Value.slice b bL bC, Value.int IntKind.i64 size, Value.int IntKind.i64 colour] w (fun e w' => ∃ v, e = .returned v ∧ K v w') :=
  Eng.vc_of [54, 55, 56] 1 [] Go.Proofs.Try.mixes Go.Proofs.Try.func15 (by kernel_rfl) (by kernel_rfl) (vcE15 b bL bC size colour w K) h

/- (*byre/chain.Slab).Count -/
def vcP17 (s : Option Addr) (w : World) (K : Value → World → Prop) : Prop :=
  gIf (isP s) (Option.isNone s = false)
    (∃ (x : Int),
      (Option.isNone s = false → rd w (pb s) (po s + 1) = some (Value.int IntKind.i64 x)) ∧
        Wif (Option.isNone s || x == 0) (K (Value.int IntKind.i64 0) w) (Wif (isP s) (∃ (x : Int), rd w (pb s) (po s + 3) = some (Value.int IntKind.i64 x) ∧ K (Value.int IntKind.i64 x) w) False))
theorem vcE17 (s : Option
  Addr) (w : World) (K : Value → World → Prop) : vcP17 s w K = Eng.wBody Go.Proofs.Try.prog (Eng.handOf Go.Proofs.Try.prog [54,
 55,
 56] 1) [] Go.Proofs.Try.f17 (Eng.bodyOf Go.Proofs.Try.f17) [Value.pointer s] w K := by kernel_rfl
theorem vc17 (s : Option Addr) (w : World) (K : Value → World → Prop) (h : vcP17 s w K) :
    Calls Go.Proofs.Try.prog 17 #[Value.pointer s] w (fun e w' => ∃ v, e = .returned v ∧ K v w') :=
  Eng.vc_of [54, 55, 56] 1 [] Go.Proofs.Try.mixes Go.Proofs.Try.func17 (by kernel_rfl) (by kernel_rfl) (vcE17 s w K) h

/- (*byre/chain.Slab).Free -/
def vcP18 (s : Option Addr) (w : World) (K : Value → World → Prop) : Prop :=
  gIf (isP s) (Option.isNone s = false)
    (∃ (x : Int),
      (Option.isNone s = false → rd w (pb s) (po s + 1) = some (Value.int IntKind.i64 x)) ∧
        Wif (Option.isNone s || x == 0) (K (Value.int IntKind.i64 0) w) (Wif (isP s) (∃ (x : Int), rd w (pb s) (po s + 5) = some (Value.int IntKind.i64 x) ∧ K (Value.int IntKind.i64 x) w) False))
theorem vcE18 (s : Option
  Addr) (w : World) (K : Value → World → Prop) : vcP18 s w K = Eng.wBody Go.Proofs.Try.prog (Eng.handOf Go.Proofs.Try.prog [54,
 55,
 56] 1) [] Go.Proofs.Try.f18 (Eng.bodyOf Go.Proofs.Try.f18) [Value.pointer s] w K := by kernel_rfl
theorem vc18 (s : Option Addr) (w : World) (K : Value → World → Prop) (h : vcP18 s w K) :
    Calls Go.Proofs.Try.prog 18 #[Value.pointer s] w (fun e w' => ∃ v, e = .returned v ∧ K v w') :=
  Eng.vc_of [54, 55, 56] 1 [] Go.Proofs.Try.mixes Go.Proofs.Try.func18 (by kernel_rfl) (by kernel_rfl) (vcE18 s w K) h

/- (*byre/chain.Slab).Take -/
def vcP19 (s : Option Addr) (w : World) (K : Value → World → Prop) : Prop :=
  gIf (isP s) (Option.isNone s = false)
    (∃ (x : Int),
      (Option.isNone s = false → rd w (pb s) (po s + 1) = some (Value.int IntKind.i64 x)) ∧
        Wif (Option.isNone s || x == 0) (K (Value.tuple #[Value.int IntKind.i64 0, Value.int IntKind.i64 1]) w)
          (Wif (isP s)
            (∃ (x : Int),
              rd w (pb s) (po s + 5) = some (Value.int IntKind.i64 x) ∧
                Wif (x == 0) (K (Value.tuple #[Value.int IntKind.i64 0, Value.int IntKind.i64 9]) w)
                  (Wif (isP s)
                    (∃ (x : Int),
                      rd w (pb s) (po s + 4) = some (Value.int IntKind.u8 x) ∧
                        Calls Proofs.Try.prog 20 #[Value.pointer s, Value.int IntKind.i64 (IntKind.wrap IntKind.i64 x)] w fun (e : Ending) (w' : World) =>
                          ∃ (n : Int),
                            ∃ (n_1 : Int),
                              e = Ending.returned (Value.tuple #[Value.int IntKind.i64 n, Value.int IntKind.i64 n_1]) ∧
                                Wif (isP s)
                                  (∃ (x_1 : Option Addr),
                                    ∃ (x_2 : Nat),
                                      ∃ (x_3 : Nat),
                                        rd w' (pb s) (po s) = some (Value.slice x_1 x_2 x_3) ∧
                                          Wif (isP x_1)
                                            (Wif (inB n x_2)
                                              (∃ (x_4 : Int),
                                                rd w' (pb x_1) (po x_1 + Int.toNat n * 1) = some (Value.int IntKind.u8 x_4) ∧
                                                  Wif (isP s)
                                                    (wr w' (pb s) (po s + 4) ∧
                                                      ∀ (w'_1 : World),
                                                        w'_1 = st w' (pb s) (po s + 4) (Value.int IntKind.u8 x_4) →
                                                          Wif (isP s)
                                                            (∃ (x_5 : Option Addr),
                                                              ∃ (x_6 : Nat),
                                                                ∃ (x_7 : Nat),
                                                                  rd w'_1 (pb s) (po s) = some (Value.slice x_5 x_6 x_7) ∧
                                                                    Wif (okSl n n_1 (↑x_7 : Int))
                                                                      (∃ (w' : World),
                                                                        clrIs Proofs.Try.prog #[22] 0 (Value.slice (offA x_5 x_7 (Int.toNat n) 1) (Int.toNat n_1 - Int.toNat n) (x_7 - Int.toNat n))
                                                                            w'_1 w' ∧
                                                                          Wif (isP s)
                                                                            (Wif (inB (IntKind.wrap IntKind.i64 x) 32)
                                                                              (wr w' (pb s) (po s + 6 + Int.toNat (IntKind.wrap IntKind.i64 x) * 1) ∧
                                                                                ∀ (w'_2 : World),
                                                                                  w'_2 = st w' (pb s) (po s + 6 + Int.toNat (IntKind.wrap IntKind.i64 x) * 1) (Value.bool true) →
                                                                                    Wif (isP s)
                                                                                      (∃ (x_8 : Int),
                                                                                        rd w'_2 (pb s) (po s + 5) = some (Value.int IntKind.i64 x_8) ∧
                                                                                          Wif (isP s)
                                                                                            (wr w'_2 (pb s) (po s + 5) ∧
                                                                                              ∀ (w' : World),
                                                                                                w' = st w'_2 (pb s) (po s + 5) (Value.int IntKind.i64 (IntKind.wrap IntKind.i64 (x_8 - 1))) →
                                                                                                  K (Value.tuple #[Value.int IntKind.i64 (IntKind.wrap IntKind.i64 x), Value.int IntKind.i64 0]) w')
                                                                                            False)
                                                                                      False)
                                                                              False)
                                                                            False)
                                                                      False)
                                                            False)
                                                    False)
                                              False)
                                            False)
                                  False)
                    False))
            False))
theorem vcE19 (s : Option
  Addr) (w : World) (K : Value → World → Prop) : vcP19 s w K = Eng.wBody Go.Proofs.Try.prog (Eng.handOf Go.Proofs.Try.prog [54,
 55,
 56] 1) [] Go.Proofs.Try.f19 (Eng.bodyOf Go.Proofs.Try.f19) [Value.pointer s] w K := by kernel_rfl
theorem vc19 (s : Option Addr) (w : World) (K : Value → World → Prop) (h : vcP19 s w K) :
    Calls Go.Proofs.Try.prog 19 #[Value.pointer s] w (fun e w' => ∃ v, e = .returned v ∧ K v w') :=
  Eng.vc_of [54, 55, 56] 1 [] Go.Proofs.Try.mixes Go.Proofs.Try.func19 (by kernel_rfl) (by kernel_rfl) (vcE19 s w K) h

/- (*byre/chain.Slab).At -/
def vcP20 (s : Option Addr) (i : Int) (w : World) (K : Value → World → Prop) : Prop :=
  Calls Proofs.Try.prog 55 #[Value.pointer s] w fun (e : Ending) (w' : World) =>
    ∃ (b : Bool),
      e = Ending.returned (Value.bool b) ∧
        Wif b (K (Value.tuple #[Value.int IntKind.i64 0, Value.int IntKind.i64 0]) w')
          (gIf (isP s) (decide (i < 0) = false)
            (∃ (x : Int),
              (decide (i < 0) = false → rd w' (pb s) (po s + 3) = some (Value.int IntKind.i64 x)) ∧
                Wif (decide (i < 0) || decide (i ≥ x)) (K (Value.tuple #[Value.int IntKind.i64 0, Value.int IntKind.i64 0]) w')
                  (∀ (w1 : World),
                    w1 = World.drew w' →
                      Wif (isP s)
                        (∃ (x : Int),
                          rd w1 (pb s) (po s + 2) = some (Value.int IntKind.i64 x) ∧
                            Wif (isP s)
                              (∃ (x_1 : Int),
                                rd w1 (pb s) (po s + 1) = some (Value.int IntKind.i64 x_1) ∧
                                  ∀ (w1_1 : World),
                                    w1_1 = World.drew w1 →
                                      Wif (isP s)
                                        (∃ (x_2 : Int),
                                          rd w1_1 (pb s) (po s + 1) = some (Value.int IntKind.i64 x_2) ∧
                                            K
                                              (Value.tuple
                                                #[Value.int IntKind.i64 (IntKind.wrap IntKind.i64 (x + IntKind.wrap IntKind.i64 (i * x_1))),
                                                  Value.int IntKind.i64 (IntKind.wrap IntKind.i64 (IntKind.wrap IntKind.i64 (x + IntKind.wrap IntKind.i64 (i * x_1)) + x_2))])
                                              w1_1)
                                        False)
                              False)
                        False)))
theorem vcE20 (s : Option
  Addr) (i : Int) (w : World) (K : Value → World → Prop) : vcP20 s i w K = Eng.wBody Go.Proofs.Try.prog (Eng.handOf Go.Proofs.Try.prog [54,
 55,
 56] 1) [] Go.Proofs.Try.f20 (Eng.bodyOf Go.Proofs.Try.f20) [Value.pointer s, Value.int IntKind.i64 i] w K := by kernel_rfl
theorem vc20 (s : Option Addr) (i : Int) (w : World) (K : Value → World → Prop) (h : vcP20 s i w K) :
    Calls Go.Proofs.Try.prog 20 #[Value.pointer s, Value.int IntKind.i64 i] w (fun e w' => ∃ v, e = .returned v ∧ K v w') :=
  Eng.vc_of [54, 55, 56] 1 [] Go.Proofs.Try.mixes Go.Proofs.Try.func20 (by kernel_rfl) (by kernel_rfl) (vcE20 s i w K) h

/- (*byre/chain.Slab).Give -/
def vcP21 (s : Option Addr) (i : Int) (w : World) (K : Value → World → Prop) : Prop :=
  Calls Proofs.Try.prog 55 #[Value.pointer s] w fun (e : Ending) (w' : World) =>
    ∃ (b : Bool),
      e = Ending.returned (Value.bool b) ∧
        Wif b (K (Value.int IntKind.i64 1) w')
          (gIf (isP s) (decide (i < 0) = false)
            (∃ (x : Int),
              (decide (i < 0) = false → rd w' (pb s) (po s + 3) = some (Value.int IntKind.i64 x)) ∧
                Wif (decide (i < 0) || decide (i ≥ x)) (K (Value.int IntKind.i64 2) w')
                  (Wif (isP s)
                    (Wif (inB i 32)
                      (∃ (x : Bool),
                        rd w' (pb s) (po s + 6 + Int.toNat i * 1) = some (Value.bool x) ∧
                          Wif (!x) (K (Value.int IntKind.i64 8) w')
                            (Wif (isP s)
                              (Wif (inB i 32)
                                (∃ (x : Int),
                                  rd w' (pb s) (po s + 38 + Int.toNat i * 1) = some (Value.int IntKind.u64 x) ∧
                                    Wif (x != 0) (K (Value.int IntKind.i64 80) w')
                                      (Wif (isP s)
                                        (Wif (inB i 32)
                                          (wr w' (pb s) (po s + 6 + Int.toNat i * 1) ∧
                                            ∀ (w'_1 : World),
                                              w'_1 = st w' (pb s) (po s + 6 + Int.toNat i * 1) (Value.bool false) →
                                                ∀ (w1 : World),
                                                  w1 = World.drew w'_1 →
                                                    Wif (isP s)
                                                      (∃ (x : Option Addr),
                                                        ∃ (x_1 : Nat),
                                                          ∃ (x_2 : Nat),
                                                            rd w1 (pb s) (po s) = some (Value.slice x x_1 x_2) ∧
                                                              Wif (isP s)
                                                                (∃ (x_3 : Int),
                                                                  rd w1 (pb s) (po s + 2) = some (Value.int IntKind.i64 x_3) ∧
                                                                    Wif (isP s)
                                                                      (∃ (x_4 : Int),
                                                                        rd w1 (pb s) (po s + 1) = some (Value.int IntKind.i64 x_4) ∧
                                                                          Wif (isP s)
                                                                            (∃ (x_5 : Int),
                                                                              rd w1 (pb s) (po s + 4) = some (Value.int IntKind.u8 x_5) ∧
                                                                                Wif (isP x)
                                                                                  (Wif (inB (IntKind.wrap IntKind.i64 (x_3 + IntKind.wrap IntKind.i64 (i * x_4))) x_1)
                                                                                    (wr w1 (pb x) (po x + Int.toNat (IntKind.wrap IntKind.i64 (x_3 + IntKind.wrap IntKind.i64 (i * x_4))) * 1) ∧
                                                                                      ∀ (w' : World),
                                                                                        w' =
                                                                                            st w1 (pb x) (po x + Int.toNat (IntKind.wrap IntKind.i64 (x_3 + IntKind.wrap IntKind.i64 (i * x_4))) * 1)
                                                                                              (Value.int IntKind.u8 x_5) →
                                                                                          Wif (isP s)
                                                                                            (wr w' (pb s) (po s + 4) ∧
                                                                                              ∀ (w'_2 : World),
                                                                                                w'_2 = st w' (pb s) (po s + 4) (Value.int IntKind.u8 (IntKind.wrap IntKind.u8 i)) →
                                                                                                  Wif (isP s)
                                                                                                    (∃ (x : Int),
                                                                                                      rd w'_2 (pb s) (po s + 5) = some (Value.int IntKind.i64 x) ∧
                                                                                                        Wif (isP s)
                                                                                                          (wr w'_2 (pb s) (po s + 5) ∧
                                                                                                            ∀ (w' : World),
                                                                                                              w' =
                                                                                                                  st w'_2 (pb s) (po s + 5) (Value.int IntKind.i64 (IntKind.wrap IntKind.i64 (x + 1))) →
                                                                                                                K (Value.int IntKind.i64 0) w')
                                                                                                          False)
                                                                                                    False)
                                                                                            False)
                                                                                    False)
                                                                                  False)
                                                                            False)
                                                                      False)
                                                                False)
                                                      False)
                                          False)
                                        False))
                                False)
                              False))
                      False)
                    False)))
theorem vcE21 (s : Option
  Addr) (i : Int) (w : World) (K : Value → World → Prop) : vcP21 s i w K = Eng.wBody Go.Proofs.Try.prog (Eng.handOf Go.Proofs.Try.prog [54,
 55,
 56] 1) [] Go.Proofs.Try.f21 (Eng.bodyOf Go.Proofs.Try.f21) [Value.pointer s, Value.int IntKind.i64 i] w K := by kernel_rfl
theorem vc21 (s : Option Addr) (i : Int) (w : World) (K : Value → World → Prop) (h : vcP21 s i w K) :
    Calls Go.Proofs.Try.prog 21 #[Value.pointer s, Value.int IntKind.i64 i] w (fun e w' => ∃ v, e = .returned v ∧ K v w') :=
  Eng.vc_of [54, 55, 56] 1 [] Go.Proofs.Try.mixes Go.Proofs.Try.func21 (by kernel_rfl) (by kernel_rfl) (vcE21 s i w K) h

/- (*byre/chain.Slab).Chain -/
def vcP22 (s : Option Addr) (w : World) (K : Value → World → Prop) : Prop :=
  gIf (isP s) (Option.isNone s = false)
    (∃ (x : Int),
      (Option.isNone s = false → rd w (pb s) (po s + 1) = some (Value.int IntKind.i64 x)) ∧
        Wif (Option.isNone s || x == 0) (K (Value.slice none 0 0) w)
          (Wif (isP s)
            (∃ (x : Int),
              rd w (pb s) (po s + 4) = some (Value.int IntKind.u8 x) ∧
                ∃ (I : Option Addr → Nat → Nat → Int → World → Nat → Prop),
                  (∃ (n : Nat), I none 0 0 (IntKind.wrap IntKind.i64 x) w n) ∧
                    ∀ (a : Option Addr) (l c : Nat) (n : Int) (w' : World) (n_1 : Nat),
                      I a l c n w' n_1 →
                        Wif (isP s)
                          (∃ (x : Int),
                            rd w' (pb s) (po s + 5) = some (Value.int IntKind.i64 x) ∧
                              gIf (isP s) (decide ((↑l : Int) < x) = true)
                                (∃ (x_1 : Int),
                                  (decide ((↑l : Int) < x) = true → rd w' (pb s) (po s + 3) = some (Value.int IntKind.i64 x_1)) ∧
                                    Wif (decide ((↑l : Int) < x) && decide (n < x_1))
                                      (∀ (w'_1 : World),
                                        w'_1 = World.alloc w' (Obj.cells #[Value.int IntKind.i64 n] 3) →
                                          ∃ (a_1 : Option Addr),
                                            ∃ (l_1 : Nat),
                                              ∃ (c_1 : Nat),
                                                ∃ (w'_2 : World),
                                                  appIs Proofs.Try.prog #[33, 33] 33 (Value.slice a l c) (Value.slice (some (Addr.mk (Array.size (World.heap w')) 0 none)) 1 1)
                                                      (Value.slice a_1 l_1 c_1) w'_1 w'_2 ∧
                                                    Calls Proofs.Try.prog 20 #[Value.pointer s, Value.int IntKind.i64 n] w'_2 fun (e : Ending) (w' : World) =>
                                                      ∃ (n : Int),
                                                        ∃ (n_2 : Int),
                                                          e = Ending.returned (Value.tuple #[Value.int IntKind.i64 n, Value.int IntKind.i64 n_2]) ∧
                                                            Wif (isP s)
                                                              (∃ (x : Option Addr),
                                                                ∃ (x_2 : Nat),
                                                                  ∃ (x_3 : Nat),
                                                                    rd w' (pb s) (po s) = some (Value.slice x x_2 x_3) ∧
                                                                      Wif (isP x)
                                                                        (Wif (inB n x_2)
                                                                          (∃ (x_4 : Int),
                                                                            rd w' (pb x) (po x + Int.toNat n * 1) = some (Value.int IntKind.u8 x_4) ∧
                                                                              ∃ (m : Nat), Nat.succ m ≤ n_1 ∧ I a_1 l_1 c_1 (IntKind.wrap IntKind.i64 x_4) w' m)
                                                                          False)
                                                                        False)
                                                              False)
                                      (K (Value.slice a l c) w')))
                          False)
            False))
theorem vcE22 (s : Option
  Addr) (w : World) (K : Value → World → Prop) : vcP22 s w K = Eng.wBody Go.Proofs.Try.prog (Eng.handOf Go.Proofs.Try.prog [54,
 55,
 56] 1) [] Go.Proofs.Try.f22 (Eng.bodyOf Go.Proofs.Try.f22) [Value.pointer s] w K := by kernel_rfl
theorem vc22 (s : Option Addr) (w : World) (K : Value → World → Prop) (h : vcP22 s w K) :
    Calls Go.Proofs.Try.prog 22 #[Value.pointer s] w (fun e w' => ∃ v, e = .returned v ∧ K v w') :=
  Eng.vc_of [54, 55, 56] 1 [] Go.Proofs.Try.mixes Go.Proofs.Try.func22 (by kernel_rfl) (by kernel_rfl) (vcE22 s w K) h

/- (*byre/chain.Slab).Size -/
def vcP23 (s : Option Addr) (w : World) (K : Value → World → Prop) : Prop :=
  gIf (isP s) (Option.isNone s = false)
    (∃ (x : Int),
      (Option.isNone s = false → rd w (pb s) (po s + 1) = some (Value.int IntKind.i64 x)) ∧
        Wif (Option.isNone s || x == 0) (K (Value.int IntKind.i64 0) w) (Wif (isP s) (∃ (x : Int), rd w (pb s) (po s + 1) = some (Value.int IntKind.i64 x) ∧ K (Value.int IntKind.i64 x) w) False))
theorem vcE23 (s : Option
  Addr) (w : World) (K : Value → World → Prop) : vcP23 s w K = Eng.wBody Go.Proofs.Try.prog (Eng.handOf Go.Proofs.Try.prog [54,
 55,
 56] 1) [] Go.Proofs.Try.f23 (Eng.bodyOf Go.Proofs.Try.f23) [Value.pointer s] w K := by kernel_rfl
theorem vc23 (s : Option Addr) (w : World) (K : Value → World → Prop) (h : vcP23 s w K) :
    Calls Go.Proofs.Try.prog 23 #[Value.pointer s] w (fun e w' => ∃ v, e = .returned v ∧ K v w') :=
  Eng.vc_of [54, 55, 56] 1 [] Go.Proofs.Try.mixes Go.Proofs.Try.func23 (by kernel_rfl) (by kernel_rfl) (vcE23 s w K) h

/- (*byre/chain.Slab).Colour -/
def vcP24 (s : Option Addr) (w : World) (K : Value → World → Prop) : Prop :=
  gIf (isP s) (Option.isNone s = false)
    (∃ (x : Int),
      (Option.isNone s = false → rd w (pb s) (po s + 1) = some (Value.int IntKind.i64 x)) ∧
        Wif (Option.isNone s || x == 0) (K (Value.int IntKind.i64 0) w) (Wif (isP s) (∃ (x : Int), rd w (pb s) (po s + 2) = some (Value.int IntKind.i64 x) ∧ K (Value.int IntKind.i64 x) w) False))
theorem vcE24 (s : Option
  Addr) (w : World) (K : Value → World → Prop) : vcP24 s w K = Eng.wBody Go.Proofs.Try.prog (Eng.handOf Go.Proofs.Try.prog [54,
 55,
 56] 1) [] Go.Proofs.Try.f24 (Eng.bodyOf Go.Proofs.Try.f24) [Value.pointer s] w K := by kernel_rfl
theorem vc24 (s : Option Addr) (w : World) (K : Value → World → Prop) (h : vcP24 s w K) :
    Calls Go.Proofs.Try.prog 24 #[Value.pointer s] w (fun e w' => ∃ v, e = .returned v ∧ K v w') :=
  Eng.vc_of [54, 55, 56] 1 [] Go.Proofs.Try.mixes Go.Proofs.Try.func24 (by kernel_rfl) (by kernel_rfl) (vcE24 s w K) h

/- (*byre/chain.Slab).Mark -/
def vcP25 (s : Option Addr) (i : Int) (turn : Int) (w : World) (K : Value → World → Prop) : Prop :=
  Calls Proofs.Try.prog 55 #[Value.pointer s] w fun (e : Ending) (w' : World) =>
    ∃ (b : Bool),
      e = Ending.returned (Value.bool b) ∧
        Wif b (K (Value.int IntKind.i64 1) w')
          (gIf (isP s) (decide (i < 0) = false)
            (∃ (x : Int),
              (decide (i < 0) = false → rd w' (pb s) (po s + 3) = some (Value.int IntKind.i64 x)) ∧
                Wif (decide (i < 0) || decide (i ≥ x)) (K (Value.int IntKind.i64 2) w')
                  (Wif (turn == 0) (K (Value.int IntKind.i64 2) w')
                    (Wif (isP s)
                      (Wif (inB i 32)
                        (∃ (x : Bool),
                          rd w' (pb s) (po s + 6 + Int.toNat i * 1) = some (Value.bool x) ∧
                            Wif (!x) (K (Value.int IntKind.i64 7) w')
                              (Wif (isP s)
                                (Wif (inB i 32)
                                  (∃ (x : Int),
                                    rd w' (pb s) (po s + 38 + Int.toNat i * 1) = some (Value.int IntKind.u64 x) ∧
                                      Wif (x != 0) (K (Value.int IntKind.i64 8) w')
                                        (Wif (isP s)
                                          (Wif (inB i 32)
                                            (wr w' (pb s) (po s + 38 + Int.toNat i * 1) ∧
                                              ∀ (w'_1 : World), w'_1 = st w' (pb s) (po s + 38 + Int.toNat i * 1) (Value.int IntKind.u64 turn) → K (Value.int IntKind.i64 0) w'_1)
                                            False)
                                          False))
                                  False)
                                False))
                        False)
                      False))))
theorem vcE25 (s : Option
  Addr) (i : Int) (turn : Int) (w : World) (K : Value → World → Prop) : vcP25 s i turn w K = Eng.wBody Go.Proofs.Try.prog (Eng.handOf Go.Proofs.Try.prog [54,
 55,
 56] 1) [] Go.Proofs.Try.f25 (Eng.bodyOf Go.Proofs.Try.f25) [Value.pointer s, Value.int IntKind.i64 i, Value.int IntKind.u64 turn] w K := by kernel_rfl
theorem vc25 (s : Option Addr) (i : Int) (turn : Int) (w : World) (K : Value → World → Prop) (h : vcP25 s i turn w K) :
    Calls Go.Proofs.Try.prog 25 #[Value.pointer s, Value.int IntKind.i64 i, Value.int IntKind.u64 turn] w (fun e w' => ∃ v, e = .returned v ∧ K v w') :=
  Eng.vc_of [54, 55, 56] 1 [] Go.Proofs.Try.mixes Go.Proofs.Try.func25 (by kernel_rfl) (by kernel_rfl) (vcE25 s i turn w K) h

/- (*byre/chain.Slab).Clear -/
def vcP26 (s : Option Addr) (i : Int) (w : World) (K : Value → World → Prop) : Prop :=
  Calls Proofs.Try.prog 55 #[Value.pointer s] w fun (e : Ending) (w' : World) =>
    ∃ (b : Bool),
      e = Ending.returned (Value.bool b) ∧
        Wif b (K (Value.int IntKind.i64 1) w')
          (gIf (isP s) (decide (i < 0) = false)
            (∃ (x : Int),
              (decide (i < 0) = false → rd w' (pb s) (po s + 3) = some (Value.int IntKind.i64 x)) ∧
                Wif (decide (i < 0) || decide (i ≥ x)) (K (Value.int IntKind.i64 2) w')
                  (Wif (isP s)
                    (Wif (inB i 32)
                      (∃ (x : Int),
                        rd w' (pb s) (po s + 38 + Int.toNat i * 1) = some (Value.int IntKind.u64 x) ∧
                          Wif (x == 0) (K (Value.int IntKind.i64 7) w')
                            (Wif (isP s)
                              (Wif (inB i 32)
                                (wr w' (pb s) (po s + 38 + Int.toNat i * 1) ∧
                                  ∀ (w'_1 : World), w'_1 = st w' (pb s) (po s + 38 + Int.toNat i * 1) (Value.int IntKind.u64 0) → K (Value.int IntKind.i64 0) w'_1)
                                False)
                              False))
                      False)
                    False)))
theorem vcE26 (s : Option
  Addr) (i : Int) (w : World) (K : Value → World → Prop) : vcP26 s i w K = Eng.wBody Go.Proofs.Try.prog (Eng.handOf Go.Proofs.Try.prog [54,
 55,
 56] 1) [] Go.Proofs.Try.f26 (Eng.bodyOf Go.Proofs.Try.f26) [Value.pointer s, Value.int IntKind.i64 i] w K := by kernel_rfl
theorem vc26 (s : Option Addr) (i : Int) (w : World) (K : Value → World → Prop) (h : vcP26 s i w K) :
    Calls Go.Proofs.Try.prog 26 #[Value.pointer s, Value.int IntKind.i64 i] w (fun e w' => ∃ v, e = .returned v ∧ K v w') :=
  Eng.vc_of [54, 55, 56] 1 [] Go.Proofs.Try.mixes Go.Proofs.Try.func26 (by kernel_rfl) (by kernel_rfl) (vcE26 s i w K) h

/- (*byre/chain.Slab).Live -/
def vcP27 (s : Option Addr) (i : Int) (w : World) (K : Value → World → Prop) : Prop :=
  Calls Proofs.Try.prog 55 #[Value.pointer s] w fun (e : Ending) (w' : World) =>
    ∃ (b : Bool),
      e = Ending.returned (Value.bool b) ∧
        Wif b (K (Value.tuple #[Value.int IntKind.u64 0, Value.bool false]) w')
          (gIf (isP s) (decide (i < 0) = false)
            (∃ (x : Int),
              (decide (i < 0) = false → rd w' (pb s) (po s + 3) = some (Value.int IntKind.i64 x)) ∧
                Wif (decide (i < 0) || decide (i ≥ x)) (K (Value.tuple #[Value.int IntKind.u64 0, Value.bool false]) w')
                  (∀ (w1 : World),
                    w1 = World.drew w' →
                      Wif (isP s)
                        (Wif (inB i 32)
                          (∃ (x : Int),
                            rd w1 (pb s) (po s + 38 + Int.toNat i * 1) = some (Value.int IntKind.u64 x) ∧
                              Wif (isP s)
                                (Wif (inB i 32)
                                  (∃ (x_1 : Int), rd w1 (pb s) (po s + 38 + Int.toNat i * 1) = some (Value.int IntKind.u64 x_1) ∧ K (Value.tuple #[Value.int IntKind.u64 x, Value.bool (x_1 != 0)]) w1)
                                  False)
                                False)
                          False)
                        False)))
theorem vcE27 (s : Option
  Addr) (i : Int) (w : World) (K : Value → World → Prop) : vcP27 s i w K = Eng.wBody Go.Proofs.Try.prog (Eng.handOf Go.Proofs.Try.prog [54,
 55,
 56] 1) [] Go.Proofs.Try.f27 (Eng.bodyOf Go.Proofs.Try.f27) [Value.pointer s, Value.int IntKind.i64 i] w K := by kernel_rfl
theorem vc27 (s : Option Addr) (i : Int) (w : World) (K : Value → World → Prop) (h : vcP27 s i w K) :
    Calls Go.Proofs.Try.prog 27 #[Value.pointer s, Value.int IntKind.i64 i] w (fun e w' => ∃ v, e = .returned v ∧ K v w') :=
  Eng.vc_of [54, 55, 56] 1 [] Go.Proofs.Try.mixes Go.Proofs.Try.func27 (by kernel_rfl) (by kernel_rfl) (vcE27 s i w K) h
/- byre/byrelaw08.known -/
def vcP16 (w : World) (K : Value → World → Prop) : Prop :=
  ∀ (w' : World),
    w' = World.alloc w (Obj.cells (List.toArray (List.replicate 256 (Value.int IntKind.u8 0))) 5) →
      Calls Proofs.Try.prog 15 #[Value.slice (some (Addr.mk (Array.size (World.heap w)) 0 none)) 256 256, Value.int IntKind.i64 24, Value.int IntKind.i64 16] w' fun (e : Ending) (w' : World) =>
        ∃ (p : Option Addr),
          ∃ (n : Int),
            e = Ending.returned (Value.tuple #[Value.pointer p, Value.int IntKind.i64 n]) ∧
              Calls Proofs.Try.prog 19 #[Value.pointer p] w' fun (e : Ending) (w' : World) =>
                ∃ (n_1 : Int),
                  ∃ (n_2 : Int),
                    e = Ending.returned (Value.tuple #[Value.int IntKind.i64 n_1, Value.int IntKind.i64 n_2]) ∧
                      Calls Proofs.Try.prog 19 #[Value.pointer p] w' fun (e : Ending) (w' : World) =>
                        ∃ (n_3 : Int),
                          ∃ (n_4 : Int),
                            e = Ending.returned (Value.tuple #[Value.int IntKind.i64 n_3, Value.int IntKind.i64 n_4]) ∧
                              ∀ (w'_1 : World),
                                w'_1 = World.alloc w' (Obj.cells #[] 3) →
                                  Calls Proofs.Try.prog 22 #[Value.pointer p] w'_1 fun (e : Ending) (w'_2 : World) =>
                                    ∃ (a : Option Addr),
                                      ∃ (l : Nat),
                                        ∃ (c : Nat),
                                          e = Ending.returned (Value.slice a l c) ∧
                                            ∃ (a_1 : Option Addr),
                                              ∃ (l_1 : Nat),
                                                ∃ (c_1 : Nat),
                                                  ∃ (w'_3 : World),
                                                    appIs Proofs.Try.prog #[33, 33] 33 (Value.slice (some (Addr.mk (Array.size (World.heap w')) 0 none)) 0 0) (Value.slice a l c)
                                                        (Value.slice a_1 l_1 c_1) w'_2 w'_3 ∧
                                                      Wif (n == 0 && n_2 == 0 && n_4 == 0 && n_1 == 0 && n_3 == 1)
                                                        (Calls Proofs.Try.prog 17 #[Value.pointer p] w'_3 fun (e : Ending) (w' : World) =>
                                                          ∃ (n : Int),
                                                            e = Ending.returned (Value.int IntKind.i64 n) ∧
                                                              gIf (isP a_1) ((n == 10 && (↑l_1 : Int) == 8) = true)
                                                                (gIf (inB 0 l_1) ((n == 10 && (↑l_1 : Int) == 8) = true)
                                                                  (∃ (x : Int),
                                                                    ((n == 10 && (↑l_1 : Int) == 8) = true → rd w' (pb a_1) (po a_1) = some (Value.int IntKind.i64 x)) ∧
                                                                      Wif (n == 10 && (↑l_1 : Int) == 8 && x == 2)
                                                                        (Calls Proofs.Try.prog 21 #[Value.pointer p, Value.int IntKind.i64 0] w' fun (e : Ending) (w' : World) =>
                                                                          ∃ (n : Int),
                                                                            e = Ending.returned (Value.int IntKind.i64 n) ∧
                                                                              ∃ (x : Int),
                                                                                ((n == 0) = true → rd w' (Array.size (World.heap w)) 16 = some (Value.int IntKind.u8 x)) ∧
                                                                                  Wif (n == 0 && x == 2)
                                                                                    (Calls Proofs.Try.prog 18 #[Value.pointer p] w' fun (e : Ending) (w' : World) =>
                                                                                      ∃ (n : Int), e = Ending.returned (Value.int IntKind.i64 n) ∧ K (Value.bool (n == 9)) w')
                                                                                    (K (Value.bool false) w'))
                                                                        (K (Value.bool false) w'))))
                                                        (K (Value.bool false) w'_3)
theorem vcE16 (w : World) (K : Value → World → Prop) : vcP16  w K = Eng.wBody Go.Proofs.Try.prog (Eng.handOf Go.Proofs.Try.prog [54,
 55,
 56] 1) [] Go.Proofs.Try.f16 (Eng.bodyOf Go.Proofs.Try.f16) [] w K := by kernel_rfl
theorem vc16 (w : World) (K : Value → World → Prop) (h : vcP16  w K) :
    Calls Go.Proofs.Try.prog 16 #[] w (fun e w' => ∃ v, e = .returned v ∧ K v w') :=
  Eng.vc_of [54, 55, 56] 1 [] Go.Proofs.Try.mixes Go.Proofs.Try.func16 (by kernel_rfl) (by kernel_rfl) (vcE16  w K) h

-- 9050 ms

end Go.Proofs.Ytkancagfhbkhiaa
