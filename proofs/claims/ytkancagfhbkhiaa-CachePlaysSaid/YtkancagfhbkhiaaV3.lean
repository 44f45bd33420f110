/-
  A part of a proof that a law of this seat returns true at every input. Conditions: those in each theorem.
-/
import Derived.Test.YtkancagfhbkhiaaV2
set_option linter.unusedSimpArgs false
set_option linter.unusedVariables false
namespace Go.Proofs.Ytkancagfhbkhiaa
open Go Go.Eng
/- byre/byreref08.New -/
def vcP28 (b : Option Addr) (bL : Nat) (bC : Nat) (size : Int) (colour : Int) (w : World) (K : Value → World → Prop) : Prop :=
  Wif ((↑bL : Int) != 256) (K (Value.tuple #[Value.pointer none, Value.int IntKind.i64 2]) w)
    (Wif (decide (size < 8) || decide (size > 128) || Int.tmod size 8 != 0) (K (Value.tuple #[Value.pointer none, Value.int IntKind.i64 2]) w)
      (gIf (size != 0) ((decide (colour ≥ 0) && Int.tmod colour 8 == 0) = true)
        (Wif (!(decide (colour ≥ 0) && Int.tmod colour 8 == 0 && decide (colour ≤ Int.tmod 256 size))) (K (Value.tuple #[Value.pointer none, Value.int IntKind.i64 2]) w)
          (Wif (size != 0)
            (∀ (w' : World),
              w' =
                  World.alloc w
                    (Obj.cells
                      (List.toArray
                        ([Value.slice b bL bC, Value.int IntKind.i64 size, Value.int IntKind.i64 colour,
                            Value.int IntKind.i64 (IntKind.wrap IntKind.i64 (Int.tdiv (IntKind.wrap IntKind.i64 (256 - colour)) size)), Value.slice none 0 0] ++
                          (List.replicate 32 (Value.bool false) ++ List.replicate 32 (Value.int IntKind.u64 0))))
                      54) →
                ∃ (I : Int → World → Nat → Prop),
                  (∃ (n : Nat), I 0 w' n) ∧
                    ∀ (n : Int) (w' : World) (n_1 : Nat),
                      I n w' n_1 →
                        ∃ (x : Int),
                          rd w' (Array.size (World.heap w)) 3 = some (Value.int IntKind.i64 x) ∧
                            Wif (decide (n < x))
                              (∃ (x : Option Addr),
                                ∃ (x_1 : Nat),
                                  ∃ (x_2 : Nat),
                                    rd w' (Array.size (World.heap w)) 4 = some (Value.slice x x_1 x_2) ∧
                                      ∀ (w'_1 : World),
                                        w'_1 = World.alloc w' (Obj.cells #[Value.int IntKind.i64 n] 3) →
                                          ∃ (a : Option Addr),
                                            ∃ (l : Nat),
                                              ∃ (c : Nat),
                                                ∃ (w'_2 : World),
                                                  appIs Proofs.Try.prog #[33, 33] 33 (Value.slice x x_1 x_2) (Value.slice (some (Addr.mk (Array.size (World.heap w')) 0 none)) 1 1) (Value.slice a l c)
                                                      w'_1 w'_2 ∧
                                                    wr w'_2 (Array.size (World.heap w)) 4 ∧
                                                      ∀ (w' : World),
                                                        w' = st w'_2 (Array.size (World.heap w)) 4 (Value.slice a l c) → ∃ (m : Nat), Nat.succ m ≤ n_1 ∧ I (IntKind.wrap IntKind.i64 (n + 1)) w' m)
                              (Calls Proofs.Try.prog 57 #[Value.pointer (some (Addr.mk (Array.size (World.heap w)) 0 none))] w' fun (e : Ending) (w' : World) =>
                                e = Ending.returned (Value.tuple #[]) ∧ K (Value.tuple #[Value.pointer (some (Addr.mk (Array.size (World.heap w)) 0 none)), Value.int IntKind.i64 0]) w'))
            False))))
theorem vcE28 (b : Option
  Addr) (bL : Nat) (bC : Nat) (size : Int) (colour : Int) (w : World) (K : Value → World → Prop) : vcP28 b bL bC size colour w K = Eng.wBody Go.Proofs.Try.prog (Eng.handOf Go.Proofs.Try.prog [43] 1) [] Go.Proofs.Try.f28 (Eng.bodyOf Go.Proofs.Try.f28) [Value.slice
    b bL bC,
  Value.int IntKind.i64 size, Value.int IntKind.i64 colour] w K := by kernel_rfl
theorem vc28 (b : Option Addr) (bL : Nat) (bC : Nat) (size : Int) (colour : Int) (w : World) (K : Value → World → Prop) (h : vcP28 b bL bC size colour w K) :
    Calls Go.Proofs.Try.prog 28 #[Value.slice b bL bC, Value.int IntKind.i64 size, Value.int IntKind.i64 colour] w (fun e w' => ∃ v, e = .returned v ∧ K v w') :=
  Eng.vc_of [43] 1 [] Go.Proofs.Try.mixes Go.Proofs.Try.func28 (by kernel_rfl) (by kernel_rfl) (vcE28 b bL bC size colour w K) h

-- 2734 ms
/- (*byre/byreref08.Slab).write -/
def vcP57 (s : Option Addr) (w : World) (K : Value → World → Prop) : Prop :=
  ∃ (I : Int → World → Nat → Prop),
    (∃ (n : Nat), I 0 w n) ∧
      ∀ (n : Int) (w' : World) (n_1 : Nat),
        I n w' n_1 →
          Wif (isP s)
            (∃ (x : Option Addr),
              ∃ (x_1 : Nat),
                ∃ (x_2 : Nat),
                  rd w' (pb s) (po s + 4) = some (Value.slice x x_1 x_2) ∧
                    Wif (decide (n < (↑x_1 : Int)))
                      (Wif (isP s)
                        (∃ (x : Option Addr),
                          ∃ (x_3 : Nat),
                            ∃ (x_4 : Nat),
                              rd w' (pb s) (po s + 4) = some (Value.slice x x_3 x_4) ∧
                                Wif (decide (IntKind.wrap IntKind.i64 (n + 1) < (↑x_3 : Int)))
                                  (Wif (isP s)
                                    (∃ (x : Option Addr),
                                      ∃ (x_5 : Nat),
                                        ∃ (x_6 : Nat),
                                          rd w' (pb s) (po s + 4) = some (Value.slice x x_5 x_6) ∧
                                            Wif (isP x)
                                              (Wif (inB (IntKind.wrap IntKind.i64 (n + 1)) x_5)
                                                (∃ (x_7 : Int),
                                                  rd w' (pb x) (po x + Int.toNat (IntKind.wrap IntKind.i64 (n + 1)) * 1) = some (Value.int IntKind.i64 x_7) ∧
                                                    ∀ (w1 : World),
                                                      w1 = World.drew w' →
                                                        Wif (isP s)
                                                          (∃ (x : Option Addr),
                                                            ∃ (x_8 : Nat),
                                                              ∃ (x_9 : Nat),
                                                                rd w1 (pb s) (po s) = some (Value.slice x x_8 x_9) ∧
                                                                  Wif (isP s)
                                                                    (∃ (x_10 : Int),
                                                                      rd w1 (pb s) (po s + 2) = some (Value.int IntKind.i64 x_10) ∧
                                                                        Wif (isP s)
                                                                          (∃ (x_11 : Option Addr),
                                                                            ∃ (x_12 : Nat),
                                                                              ∃ (x_13 : Nat),
                                                                                rd w1 (pb s) (po s + 4) = some (Value.slice x_11 x_12 x_13) ∧
                                                                                  Wif (isP x_11)
                                                                                    (Wif (inB n x_12)
                                                                                      (∃ (x_14 : Int),
                                                                                        rd w1 (pb x_11) (po x_11 + Int.toNat n * 1) = some (Value.int IntKind.i64 x_14) ∧
                                                                                          Wif (isP s)
                                                                                            (∃ (x_15 : Int),
                                                                                              rd w1 (pb s) (po s + 1) = some (Value.int IntKind.i64 x_15) ∧
                                                                                                Wif (isP x)
                                                                                                  (Wif (inB (IntKind.wrap IntKind.i64 (x_10 + IntKind.wrap IntKind.i64 (x_14 * x_15))) x_8)
                                                                                                    (wr w1 (pb x)
                                                                                                        (po x +
                                                                                                          Int.toNat (IntKind.wrap IntKind.i64 (x_10 + IntKind.wrap IntKind.i64 (x_14 * x_15))) * 1) ∧
                                                                                                      ∀ (w' : World),
                                                                                                        w' =
                                                                                                            st w1 (pb x)
                                                                                                              (po x +
                                                                                                                Int.toNat (IntKind.wrap IntKind.i64 (x_10 + IntKind.wrap IntKind.i64 (x_14 * x_15))) *
                                                                                                                  1)
                                                                                                              (Value.int IntKind.u8 (IntKind.wrap IntKind.u8 x_7)) →
                                                                                                          ∃ (m : Nat), Nat.succ m ≤ n_1 ∧ I (IntKind.wrap IntKind.i64 (n + 1)) w' m)
                                                                                                    False)
                                                                                                  False)
                                                                                            False)
                                                                                      False)
                                                                                    False)
                                                                          False)
                                                                    False)
                                                          False)
                                                False)
                                              False)
                                    False)
                                  (∀ (w1 : World),
                                    w1 = World.drew w' →
                                      Wif (isP s)
                                        (∃ (x : Option Addr),
                                          ∃ (x_5 : Nat),
                                            ∃ (x_6 : Nat),
                                              rd w1 (pb s) (po s) = some (Value.slice x x_5 x_6) ∧
                                                Wif (isP s)
                                                  (∃ (x_7 : Int),
                                                    rd w1 (pb s) (po s + 2) = some (Value.int IntKind.i64 x_7) ∧
                                                      Wif (isP s)
                                                        (∃ (x_8 : Option Addr),
                                                          ∃ (x_9 : Nat),
                                                            ∃ (x_10 : Nat),
                                                              rd w1 (pb s) (po s + 4) = some (Value.slice x_8 x_9 x_10) ∧
                                                                Wif (isP x_8)
                                                                  (Wif (inB n x_9)
                                                                    (∃ (x_11 : Int),
                                                                      rd w1 (pb x_8) (po x_8 + Int.toNat n * 1) = some (Value.int IntKind.i64 x_11) ∧
                                                                        Wif (isP s)
                                                                          (∃ (x_12 : Int),
                                                                            rd w1 (pb s) (po s + 1) = some (Value.int IntKind.i64 x_12) ∧
                                                                              Wif (isP x)
                                                                                (Wif (inB (IntKind.wrap IntKind.i64 (x_7 + IntKind.wrap IntKind.i64 (x_11 * x_12))) x_5)
                                                                                  (wr w1 (pb x) (po x + Int.toNat (IntKind.wrap IntKind.i64 (x_7 + IntKind.wrap IntKind.i64 (x_11 * x_12))) * 1) ∧
                                                                                    ∀ (w' : World),
                                                                                      w' =
                                                                                          st w1 (pb x) (po x + Int.toNat (IntKind.wrap IntKind.i64 (x_7 + IntKind.wrap IntKind.i64 (x_11 * x_12))) * 1)
                                                                                            (Value.int IntKind.u8 255) →
                                                                                        ∃ (m : Nat), Nat.succ m ≤ n_1 ∧ I (IntKind.wrap IntKind.i64 (n + 1)) w' m)
                                                                                  False)
                                                                                False)
                                                                          False)
                                                                    False)
                                                                  False)
                                                        False)
                                                  False)
                                        False))
                        False)
                      (K (Value.tuple #[]) w'))
            False
theorem vcE57 (s : Option
  Addr) (w : World) (K : Value → World → Prop) : vcP57 s w K = Eng.wBody Go.Proofs.Try.prog (Eng.handOf Go.Proofs.Try.prog [43] 1) [] Go.Proofs.Try.f57 (Eng.bodyOf Go.Proofs.Try.f57) [Value.pointer
    s] w K := by kernel_rfl
theorem vc57 (s : Option Addr) (w : World) (K : Value → World → Prop) (h : vcP57 s w K) :
    Calls Go.Proofs.Try.prog 57 #[Value.pointer s] w (fun e w' => ∃ v, e = .returned v ∧ K v w') :=
  Eng.vc_of [43] 1 [] Go.Proofs.Try.mixes Go.Proofs.Try.func57 (by kernel_rfl) (by kernel_rfl) (vcE57 s w K) h

-- 8639 ms
/- (*byre/byreref08.Slab).Take -/
def vcP30 (s : Option Addr) (w : World) (K : Value → World → Prop) : Prop :=
  Wif (isP s)
    (∃ (x : Option Addr),
      ∃ (x_1 : Nat),
        ∃ (x_2 : Nat),
          rd w (pb s) (po s + 4) = some (Value.slice x x_1 x_2) ∧
            Wif ((↑x_1 : Int) == 0) (K (Value.tuple #[Value.int IntKind.i64 0, Value.int IntKind.i64 9]) w)
              (Wif (isP s)
                (∃ (x : Option Addr),
                  ∃ (x_3 : Nat),
                    ∃ (x_4 : Nat),
                      rd w (pb s) (po s + 4) = some (Value.slice x x_3 x_4) ∧
                        Wif (isP x)
                          (Wif (inB 0 x_3)
                            (∃ (x_5 : Int),
                              rd w (pb x) (po x) = some (Value.int IntKind.i64 x_5) ∧
                                Wif (isP s)
                                  (∃ (x : Option Addr),
                                    ∃ (x_6 : Nat),
                                      ∃ (x_7 : Nat),
                                        rd w (pb s) (po s + 4) = some (Value.slice x x_6 x_7) ∧
                                          Wif (okSl 1 (↑x_6 : Int) (↑x_7 : Int))
                                            (Wif (isP s)
                                              (wr w (pb s) (po s + 4) ∧
                                                ∀ (w' : World),
                                                  w' = st w (pb s) (po s + 4) (Value.slice (offA x x_7 1 1) (x_6 - 1) (x_7 - 1)) →
                                                    Wif (isP s)
                                                      (Wif (inB x_5 32)
                                                        (wr w' (pb s) (po s + 5 + Int.toNat x_5 * 1) ∧
                                                          ∀ (w'_1 : World),
                                                            w'_1 = st w' (pb s) (po s + 5 + Int.toNat x_5 * 1) (Value.bool true) →
                                                              ∃ (I : Int → World → Nat → Prop),
                                                                (∃ (n : Nat), I 0 w'_1 n) ∧
                                                                  ∀ (n : Int) (w' : World) (n_1 : Nat),
                                                                    I n w' n_1 →
                                                                      Wif (isP s)
                                                                        (∃ (x : Int),
                                                                          rd w' (pb s) (po s + 1) = some (Value.int IntKind.i64 x) ∧
                                                                            Wif (decide (n < x))
                                                                              (∀ (w1 : World),
                                                                                w1 = World.drew w' →
                                                                                  Wif (isP s)
                                                                                    (∃ (x : Option Addr),
                                                                                      ∃ (x_8 : Nat),
                                                                                        ∃ (x_9 : Nat),
                                                                                          rd w1 (pb s) (po s) = some (Value.slice x x_8 x_9) ∧
                                                                                            Wif (isP s)
                                                                                              (∃ (x_10 : Int),
                                                                                                rd w1 (pb s) (po s + 2) = some (Value.int IntKind.i64 x_10) ∧
                                                                                                  Wif (isP s)
                                                                                                    (∃ (x_11 : Int),
                                                                                                      rd w1 (pb s) (po s + 1) = some (Value.int IntKind.i64 x_11) ∧
                                                                                                        Wif (isP x)
                                                                                                          (Wif
                                                                                                            (inB
                                                                                                              (IntKind.wrap IntKind.i64
                                                                                                                (IntKind.wrap IntKind.i64 (x_10 + IntKind.wrap IntKind.i64 (x_5 * x_11)) + n))
                                                                                                              x_8)
                                                                                                            (wr w1 (pb x)
                                                                                                                (po x +
                                                                                                                  Int.toNat
                                                                                                                      (IntKind.wrap IntKind.i64
                                                                                                                        (IntKind.wrap IntKind.i64 (x_10 + IntKind.wrap IntKind.i64 (x_5 * x_11)) + n)) *
                                                                                                                    1) ∧
                                                                                                              ∀ (w' : World),
                                                                                                                w' =
                                                                                                                    st w1 (pb x)
                                                                                                                      (po x +
                                                                                                                        Int.toNat
                                                                                                                            (IntKind.wrap IntKind.i64
                                                                                                                              (IntKind.wrap IntKind.i64 (x_10 + IntKind.wrap IntKind.i64 (x_5 * x_11)) +
                                                                                                                                n)) *
                                                                                                                          1)
                                                                                                                      (Value.int IntKind.u8 0) →
                                                                                                                  ∃ (m : Nat), Nat.succ m ≤ n_1 ∧ I (IntKind.wrap IntKind.i64 (n + 1)) w' m)
                                                                                                            False)
                                                                                                          False)
                                                                                                    False)
                                                                                              False)
                                                                                    False)
                                                                              (K (Value.tuple #[Value.int IntKind.i64 x_5, Value.int IntKind.i64 0]) w'))
                                                                        False)
                                                        False)
                                                      False)
                                              False)
                                            False)
                                  False)
                            False)
                          False)
                False))
    False
theorem vcE30 (s : Option
  Addr) (w : World) (K : Value → World → Prop) : vcP30 s w K = Eng.wBody Go.Proofs.Try.prog (Eng.handOf Go.Proofs.Try.prog [43] 1) [] Go.Proofs.Try.f30 (Eng.bodyOf Go.Proofs.Try.f30) [Value.pointer
    s] w K := by kernel_rfl
theorem vc30 (s : Option Addr) (w : World) (K : Value → World → Prop) (h : vcP30 s w K) :
    Calls Go.Proofs.Try.prog 30 #[Value.pointer s] w (fun e w' => ∃ v, e = .returned v ∧ K v w') :=
  Eng.vc_of [43] 1 [] Go.Proofs.Try.mixes Go.Proofs.Try.func30 (by kernel_rfl) (by kernel_rfl) (vcE30 s w K) h

-- 5676 ms
/- (*byre/byreref08.Slab).Give -/
def vcP31 (s : Option Addr) (i : Int) (w : World) (K : Value → World → Prop) : Prop :=
  gIf (isP s) (decide (i < 0) = false)
    (∃ (x : Int),
      (decide (i < 0) = false → rd w (pb s) (po s + 3) = some (Value.int IntKind.i64 x)) ∧
        Wif (decide (i < 0) || decide (i ≥ x)) (K (Value.int IntKind.i64 2) w)
          (Wif (isP s)
            (Wif (inB i 32)
              (∃ (x : Bool),
                rd w (pb s) (po s + 5 + Int.toNat i * 1) = some (Value.bool x) ∧
                  Wif (!x) (K (Value.int IntKind.i64 8) w)
                    (Wif (isP s)
                      (Wif (inB i 32)
                        (∃ (x : Int),
                          rd w (pb s) (po s + 37 + Int.toNat i * 1) = some (Value.int IntKind.u64 x) ∧
                            Wif (x != 0) (K (Value.int IntKind.i64 80) w)
                              (Wif (isP s)
                                (Wif (inB i 32)
                                  (wr w (pb s) (po s + 5 + Int.toNat i * 1) ∧
                                    ∀ (w' : World),
                                      w' = st w (pb s) (po s + 5 + Int.toNat i * 1) (Value.bool false) →
                                        ∀ (w'_1 : World),
                                          w'_1 = World.alloc w' (Obj.cells #[Value.int IntKind.i64 i] 3) →
                                            Wif (isP s)
                                              (∃ (x : Option Addr),
                                                ∃ (x_1 : Nat),
                                                  ∃ (x_2 : Nat),
                                                    rd w'_1 (pb s) (po s + 4) = some (Value.slice x x_1 x_2) ∧
                                                      ∃ (a : Option Addr),
                                                        ∃ (l : Nat),
                                                          ∃ (c : Nat),
                                                            ∃ (w'_2 : World),
                                                              appIs Proofs.Try.prog #[33, 33] 33 (Value.slice (some (Addr.mk (Array.size (World.heap w')) 0 none)) 1 1) (Value.slice x x_1 x_2)
                                                                  (Value.slice a l c) w'_1 w'_2 ∧
                                                                Wif (isP s)
                                                                  (wr w'_2 (pb s) (po s + 4) ∧
                                                                    ∀ (w' : World),
                                                                      w' = st w'_2 (pb s) (po s + 4) (Value.slice a l c) →
                                                                        Calls Proofs.Try.prog 57 #[Value.pointer s] w' fun (e : Ending) (w' : World) =>
                                                                          e = Ending.returned (Value.tuple #[]) ∧ K (Value.int IntKind.i64 0) w')
                                                                  False)
                                              False)
                                  False)
                                False))
                        False)
                      False))
              False)
            False))
theorem vcE31 (s : Option
  Addr) (i : Int) (w : World) (K : Value → World → Prop) : vcP31 s i w K = Eng.wBody Go.Proofs.Try.prog (Eng.handOf Go.Proofs.Try.prog [43] 1) [] Go.Proofs.Try.f31 (Eng.bodyOf Go.Proofs.Try.f31) [Value.pointer
    s,
  Value.int IntKind.i64 i] w K := by kernel_rfl
theorem vc31 (s : Option Addr) (i : Int) (w : World) (K : Value → World → Prop) (h : vcP31 s i w K) :
    Calls Go.Proofs.Try.prog 31 #[Value.pointer s, Value.int IntKind.i64 i] w (fun e w' => ∃ v, e = .returned v ∧ K v w') :=
  Eng.vc_of [43] 1 [] Go.Proofs.Try.mixes Go.Proofs.Try.func31 (by kernel_rfl) (by kernel_rfl) (vcE31 s i w K) h

-- 2336 ms
/- (*byre/byreref08.Slab).Mark -/
def vcP32 (s : Option Addr) (i : Int) (turn : Int) (w : World) (K : Value → World → Prop) : Prop :=
  gIf (isP s) (decide (i < 0) = false)
    (∃ (x : Int),
      (decide (i < 0) = false → rd w (pb s) (po s + 3) = some (Value.int IntKind.i64 x)) ∧
        Wif (decide (i < 0) || decide (i ≥ x) || turn == 0) (K (Value.int IntKind.i64 2) w)
          (Wif (isP s)
            (Wif (inB i 32)
              (∃ (x : Bool),
                rd w (pb s) (po s + 5 + Int.toNat i * 1) = some (Value.bool x) ∧
                  Wif (!x) (K (Value.int IntKind.i64 7) w)
                    (Wif (isP s)
                      (Wif (inB i 32)
                        (∃ (x : Int),
                          rd w (pb s) (po s + 37 + Int.toNat i * 1) = some (Value.int IntKind.u64 x) ∧
                            Wif (x != 0) (K (Value.int IntKind.i64 8) w)
                              (Wif (isP s)
                                (Wif (inB i 32)
                                  (wr w (pb s) (po s + 37 + Int.toNat i * 1) ∧
                                    ∀ (w' : World), w' = st w (pb s) (po s + 37 + Int.toNat i * 1) (Value.int IntKind.u64 turn) → K (Value.int IntKind.i64 0) w')
                                  False)
                                False))
                        False)
                      False))
              False)
            False))
theorem vcE32 (s : Option
  Addr) (i : Int) (turn : Int) (w : World) (K : Value → World → Prop) : vcP32 s i turn w K = Eng.wBody Go.Proofs.Try.prog (Eng.handOf Go.Proofs.Try.prog [43] 1) [] Go.Proofs.Try.f32 (Eng.bodyOf Go.Proofs.Try.f32) [Value.pointer
    s,
  Value.int IntKind.i64 i, Value.int IntKind.u64 turn] w K := by kernel_rfl
theorem vc32 (s : Option Addr) (i : Int) (turn : Int) (w : World) (K : Value → World → Prop) (h : vcP32 s i turn w K) :
    Calls Go.Proofs.Try.prog 32 #[Value.pointer s, Value.int IntKind.i64 i, Value.int IntKind.u64 turn] w (fun e w' => ∃ v, e = .returned v ∧ K v w') :=
  Eng.vc_of [43] 1 [] Go.Proofs.Try.mixes Go.Proofs.Try.func32 (by kernel_rfl) (by kernel_rfl) (vcE32 s i turn w K) h

-- 1696 ms
/- (*byre/byreref08.Slab).Clear -/
def vcP33 (s : Option Addr) (i : Int) (w : World) (K : Value → World → Prop) : Prop :=
  gIf (isP s) (decide (i < 0) = false)
    (∃ (x : Int),
      (decide (i < 0) = false → rd w (pb s) (po s + 3) = some (Value.int IntKind.i64 x)) ∧
        Wif (decide (i < 0) || decide (i ≥ x)) (K (Value.int IntKind.i64 2) w)
          (Wif (isP s)
            (Wif (inB i 32)
              (∃ (x : Int),
                rd w (pb s) (po s + 37 + Int.toNat i * 1) = some (Value.int IntKind.u64 x) ∧
                  Wif (x == 0) (K (Value.int IntKind.i64 7) w)
                    (Wif (isP s)
                      (Wif (inB i 32)
                        (wr w (pb s) (po s + 37 + Int.toNat i * 1) ∧ ∀ (w' : World), w' = st w (pb s) (po s + 37 + Int.toNat i * 1) (Value.int IntKind.u64 0) → K (Value.int IntKind.i64 0) w') False)
                      False))
              False)
            False))
theorem vcE33 (s : Option
  Addr) (i : Int) (w : World) (K : Value → World → Prop) : vcP33 s i w K = Eng.wBody Go.Proofs.Try.prog (Eng.handOf Go.Proofs.Try.prog [43] 1) [] Go.Proofs.Try.f33 (Eng.bodyOf Go.Proofs.Try.f33) [Value.pointer
    s,
  Value.int IntKind.i64 i] w K := by kernel_rfl
theorem vc33 (s : Option Addr) (i : Int) (w : World) (K : Value → World → Prop) (h : vcP33 s i w K) :
    Calls Go.Proofs.Try.prog 33 #[Value.pointer s, Value.int IntKind.i64 i] w (fun e w' => ∃ v, e = .returned v ∧ K v w') :=
  Eng.vc_of [43] 1 [] Go.Proofs.Try.mixes Go.Proofs.Try.func33 (by kernel_rfl) (by kernel_rfl) (vcE33 s i w K) h

-- 688 ms
/- (*byre/byreref08.Slab).At -/
def vcP34 (s : Option Addr) (i : Int) (w : World) (K : Value → World → Prop) : Prop :=
  gIf (isP s) (decide (i < 0) = false)
    (∃ (x : Int),
      (decide (i < 0) = false → rd w (pb s) (po s + 3) = some (Value.int IntKind.i64 x)) ∧
        Wif (decide (i < 0) || decide (i ≥ x)) (K (Value.tuple #[Value.int IntKind.i64 0, Value.int IntKind.i64 0]) w)
          (∀ (w1 : World),
            w1 = World.drew w →
              Wif (isP s)
                (∃ (x : Int),
                  rd w1 (pb s) (po s + 2) = some (Value.int IntKind.i64 x) ∧
                    Wif (isP s)
                      (∃ (x_1 : Int),
                        rd w1 (pb s) (po s + 1) = some (Value.int IntKind.i64 x_1) ∧
                          Wif (isP s)
                            (∃ (x_2 : Int),
                              rd w1 (pb s) (po s + 2) = some (Value.int IntKind.i64 x_2) ∧
                                Wif (isP s)
                                  (∃ (x_3 : Int),
                                    rd w1 (pb s) (po s + 1) = some (Value.int IntKind.i64 x_3) ∧
                                      K
                                        (Value.tuple
                                          #[Value.int IntKind.i64 (IntKind.wrap IntKind.i64 (x + IntKind.wrap IntKind.i64 (i * x_1))),
                                            Value.int IntKind.i64 (IntKind.wrap IntKind.i64 (x_2 + IntKind.wrap IntKind.i64 (IntKind.wrap IntKind.i64 (i + 1) * x_3)))])
                                        w1)
                                  False)
                            False)
                      False)
                False))
theorem vcE34 (s : Option
  Addr) (i : Int) (w : World) (K : Value → World → Prop) : vcP34 s i w K = Eng.wBody Go.Proofs.Try.prog (Eng.handOf Go.Proofs.Try.prog [43] 1) [] Go.Proofs.Try.f34 (Eng.bodyOf Go.Proofs.Try.f34) [Value.pointer
    s,
  Value.int IntKind.i64 i] w K := by kernel_rfl
theorem vc34 (s : Option Addr) (i : Int) (w : World) (K : Value → World → Prop) (h : vcP34 s i w K) :
    Calls Go.Proofs.Try.prog 34 #[Value.pointer s, Value.int IntKind.i64 i] w (fun e w' => ∃ v, e = .returned v ∧ K v w') :=
  Eng.vc_of [43] 1 [] Go.Proofs.Try.mixes Go.Proofs.Try.func34 (by kernel_rfl) (by kernel_rfl) (vcE34 s i w K) h

-- 3339 ms
/- (*byre/byreref08.Slab).Live -/
def vcP58 (s : Option Addr) (i : Int) (w : World) (K : Value → World → Prop) : Prop :=
  gIf (isP s) (decide (i < 0) = false)
    (∃ (x : Int),
      (decide (i < 0) = false → rd w (pb s) (po s + 3) = some (Value.int IntKind.i64 x)) ∧
        gIf (isP s) ((decide (i < 0) || decide (i ≥ x)) = false)
          (gIf (inB i 32) ((decide (i < 0) || decide (i ≥ x)) = false)
            (∃ (x_1 : Int),
              ((decide (i < 0) || decide (i ≥ x)) = false → rd w (pb s) (po s + 37 + Int.toNat i * 1) = some (Value.int IntKind.u64 x_1)) ∧
                Wif (decide (i < 0) || decide (i ≥ x) || x_1 == 0) (K (Value.tuple #[Value.int IntKind.u64 0, Value.bool false]) w)
                  (Wif (isP s)
                    (Wif (inB i 32) (∃ (x : Int), rd w (pb s) (po s + 37 + Int.toNat i * 1) = some (Value.int IntKind.u64 x) ∧ K (Value.tuple #[Value.int IntKind.u64 x, Value.bool true]) w) False)
                    False))))
theorem vcE58 (s : Option
  Addr) (i : Int) (w : World) (K : Value → World → Prop) : vcP58 s i w K = Eng.wBody Go.Proofs.Try.prog (Eng.handOf Go.Proofs.Try.prog [43] 1) [] Go.Proofs.Try.f58 (Eng.bodyOf Go.Proofs.Try.f58) [Value.pointer
    s,
  Value.int IntKind.i64 i] w K := by kernel_rfl
theorem vc58 (s : Option Addr) (i : Int) (w : World) (K : Value → World → Prop) (h : vcP58 s i w K) :
    Calls Go.Proofs.Try.prog 58 #[Value.pointer s, Value.int IntKind.i64 i] w (fun e w' => ∃ v, e = .returned v ∧ K v w') :=
  Eng.vc_of [43] 1 [] Go.Proofs.Try.mixes Go.Proofs.Try.func58 (by kernel_rfl) (by kernel_rfl) (vcE58 s i w K) h

-- 899 ms
/- byre/byreref08.May -/
def vcP43 (size : Int) (colour : Int) (w : World) (K : Value → World → Prop) : Prop :=
  Wif (decide (size < 8) || decide (size > 128) || Int.tmod size 8 != 0) (K (Value.bool false) w)
    (gIf (size != 0) ((decide (colour ≥ 0) && Int.tmod colour 8 == 0) = true) (K (Value.bool (decide (colour ≥ 0) && Int.tmod colour 8 == 0 && decide (colour ≤ Int.tmod 256 size))) w))
theorem vcE43 (size : Int) (colour : Int) (w : World) (K : Value → World → Prop) : vcP43 size colour w K = Eng.wBody Go.Proofs.Try.prog (Eng.handOf Go.Proofs.Try.prog [43] 1) [] Go.Proofs.Try.f43 (Eng.bodyOf Go.Proofs.Try.f43) [Value.int
    IntKind.i64 size,
  Value.int IntKind.i64 colour] w K := by kernel_rfl
theorem vc43 (size : Int) (colour : Int) (w : World) (K : Value → World → Prop) (h : vcP43 size colour w K) :
    Calls Go.Proofs.Try.prog 43 #[Value.int IntKind.i64 size, Value.int IntKind.i64 colour] w (fun e w' => ∃ v, e = .returned v ∧ K v w') :=
  Eng.vc_of [43] 1 [] Go.Proofs.Try.mixes Go.Proofs.Try.func43 (by kernel_rfl) (by kernel_rfl) (vcE43 size colour w K) h

-- 301 ms

end Go.Proofs.Ytkancagfhbkhiaa
