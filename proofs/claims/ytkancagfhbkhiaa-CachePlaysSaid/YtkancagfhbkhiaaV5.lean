/-
  A part of a proof that a law of this seat returns true at every input. Conditions: those in each theorem.
-/
import Derived.Test.YtkancagfhbkhiaaV4
set_option linter.unusedSimpArgs false
set_option linter.unusedVariables false
set_option maxRecDepth 100000
namespace Go.Proofs.Ytkancagfhbkhiaa
open Go Go.Eng
/- byre/byrelaw08.ChainPlays -/
def vcP7 (begin : Option Addr) (beginL : Nat) (beginC : Nat) (size : Int) (colour : Int) (l : Option Addr) (lL : Nat) (lC : Nat) (w : World) (K : Value → World → Prop) : Prop :=
  Wif (decide ((↑beginL : Int) > 300) || decide ((↑lL : Int) > 150))
    (Calls Proofs.Try.prog 16 #[] w fun (e : Ending) (w' : World) => ∃ (b : Bool), e = Ending.returned (Value.bool b) ∧ K (Value.bool b) w')
    (∀ (w' : World),
      w' = World.alloc w (Obj.cells #[] 5) →
        ∃ (a : Option Addr),
          ∃ (l_1 : Nat),
            ∃ (c : Nat),
              ∃ (w'_1 : World),
                appIs Proofs.Try.prog #[22, 22] 22 (Value.slice (some (Addr.mk (Array.size (World.heap w)) 0 none)) 0 0) (Value.slice begin beginL beginC) (Value.slice a l_1 c) w' w'_1 ∧
                  Calls Proofs.Try.prog 15 #[Value.slice a l_1 c, Value.int IntKind.i64 size, Value.int IntKind.i64 colour] w'_1 fun (e : Ending) (w' : World) =>
                    ∃ (p : Option Addr),
                      ∃ (n : Int),
                        e = Ending.returned (Value.tuple #[Value.pointer p, Value.int IntKind.i64 n]) ∧
                          ∀ (w'_2 : World),
                            w'_2 = World.alloc w' (Obj.cells #[] 5) →
                              ∃ (a_1 : Option Addr),
                                ∃ (l_2 : Nat),
                                  ∃ (c_1 : Nat),
                                    ∃ (w'_3 : World),
                                      appIs Proofs.Try.prog #[22, 22] 22 (Value.slice (some (Addr.mk (Array.size (World.heap w')) 0 none)) 0 0) (Value.slice begin beginL beginC)
                                          (Value.slice a_1 l_2 c_1) w'_2 w'_3 ∧
                                        Calls Proofs.Try.prog 28 #[Value.slice a_1 l_2 c_1, Value.int IntKind.i64 size, Value.int IntKind.i64 colour] w'_3 fun (e : Ending) (w' : World) =>
                                          ∃ (p_1 : Option Addr),
                                            ∃ (n_1 : Int),
                                              e = Ending.returned (Value.tuple #[Value.pointer p_1, Value.int IntKind.i64 n_1]) ∧
                                                Wif (n != n_1) (K (Value.bool false) w')
                                                  (Wif (n_1 != 0)
                                                    (∃ (x : ByteArray),
                                                      (Option.isNone p = true → cnvS Proofs.Try.prog 22 9 (Value.slice a l_1 c) x w') ∧
                                                        ∃ (x_1 : ByteArray),
                                                          (Option.isNone p = true → cnvS Proofs.Try.prog 22 9 (Value.slice begin beginL beginC) x_1 w') ∧
                                                            Wif (Option.isNone p && ByteArray.toList x == ByteArray.toList x_1)
                                                              (Calls Proofs.Try.prog 16 #[] w' fun (e : Ending) (w' : World) => ∃ (b : Bool), e = Ending.returned (Value.bool b) ∧ K (Value.bool b) w')
                                                              (K (Value.bool false) w'))
                                                    (Calls Proofs.Try.prog 29 #[Value.pointer p, Value.pointer p_1, Value.slice a l_1 c] w' fun (e : Ending) (w' : World) =>
                                                      ∃ (b : Bool),
                                                        e = Ending.returned (Value.bool b) ∧
                                                          Wif (!b) (K (Value.bool false) w')
                                                            (∃ (I : Bool → Int → World → Nat → Prop),
                                                              (∃ (n : Nat), I false 0 w' n) ∧
                                                                ∀ (b : Bool) (n : Int) (w' : World) (n_2 : Nat),
                                                                  I b n w' n_2 →
                                                                    Wif (decide (n < (↑lL : Int)))
                                                                      (Wif (isP l)
                                                                        (Wif (inB n lL)
                                                                          (∃ (x : Int),
                                                                            ∃ (x_1 : Int),
                                                                              ∃ (x_2 : Int),
                                                                                ∃ (x_3 : Option Addr),
                                                                                  ∃ (x_4 : Nat),
                                                                                    ∃ (x_5 : Nat),
                                                                                      (rd w' (pb l) (po l + Int.toNat n * 4) = some (Value.int IntKind.i64 x) ∧
                                                                                          rd w' (pb l) (po l + Int.toNat n * 4 + 1) = some (Value.int IntKind.i64 x_1) ∧
                                                                                            rd w' (pb l) (po l + Int.toNat n * 4 + 2) = some (Value.int IntKind.u64 x_2) ∧
                                                                                              rd w' (pb l) (po l + Int.toNat n * 4 + 3) = some (Value.slice x_3 x_4 x_5)) ∧
                                                                                        ∀ (w'_4 : World),
                                                                                          w'_4 =
                                                                                              World.alloc w'
                                                                                                (Obj.cells
                                                                                                  #[Value.int IntKind.i64 0, Value.int IntKind.i64 0, Value.int IntKind.u64 0, Value.slice none 0 0]
                                                                                                  40) →
                                                                                            (wr w'_4 (Array.size (World.heap w')) 0 ∧
                                                                                                wr w'_4 (Array.size (World.heap w')) 1 ∧
                                                                                                  wr w'_4 (Array.size (World.heap w')) 2 ∧ wr w'_4 (Array.size (World.heap w')) 3) ∧
                                                                                              ∀ (w'_5 : World),
                                                                                                w'_5 =
                                                                                                    st
                                                                                                      (st
                                                                                                        (st (st w'_4 (Array.size (World.heap w')) 0 (Value.int IntKind.i64 x))
                                                                                                          (Array.size (World.heap w')) 1 (Value.int IntKind.i64 x_1))
                                                                                                        (Array.size (World.heap w')) 2 (Value.int IntKind.u64 x_2))
                                                                                                      (Array.size (World.heap w')) 3 (Value.slice x_3 x_4 x_5) →
                                                                                                  ∃ (x : Int),
                                                                                                    rd w'_5 (Array.size (World.heap w')) 0 = some (Value.int IntKind.i64 x) ∧
                                                                                                      Wif (x == 0)
                                                                                                        (Calls Proofs.Try.prog 19 #[Value.pointer p] w'_5 fun (e : Ending) (w' : World) =>
                                                                                                          ∃ (n_3 : Int),
                                                                                                            ∃ (n_4 : Int),
                                                                                                              e =
                                                                                                                  Ending.returned
                                                                                                                    (Value.tuple #[Value.int IntKind.i64 n_3, Value.int IntKind.i64 n_4]) ∧
                                                                                                                Calls Proofs.Try.prog 30 #[Value.pointer p_1] w' fun (e : Ending) (w' : World) =>
                                                                                                                  ∃ (n_5 : Int),
                                                                                                                    ∃ (n_6 : Int),
                                                                                                                      e =
                                                                                                                          Ending.returned
                                                                                                                            (Value.tuple #[Value.int IntKind.i64 n_5, Value.int IntKind.i64 n_6]) ∧
                                                                                                                        Wif (n_3 != n_5 || n_4 != n_6) (K (Value.bool false) w')
                                                                                                                          (Calls Proofs.Try.prog 29
                                                                                                                            #[Value.pointer p, Value.pointer p_1, Value.slice a l_1 c] w'
                                                                                                                            fun (e : Ending) (w' : World) =>
                                                                                                                            ∃ (b_1 : Bool),
                                                                                                                              e = Ending.returned (Value.bool b_1) ∧
                                                                                                                                Wif (!b_1) (K (Value.bool false) w')
                                                                                                                                  (∃ (m : Nat),
                                                                                                                                    Nat.succ m ≤ n_2 ∧ I b (IntKind.wrap IntKind.i64 (n + 1)) w' m)))
                                                                                                        (Wif (x == 1)
                                                                                                          (∀ (w1 : World),
                                                                                                            w1 = World.drew w'_5 →
                                                                                                              ∃ (x : Int),
                                                                                                                rd w1 (Array.size (World.heap w')) 1 = some (Value.int IntKind.i64 x) ∧
                                                                                                                  ∃ (x_6 : Int),
                                                                                                                    rd w1 (Array.size (World.heap w')) 1 = some (Value.int IntKind.i64 x_6) ∧
                                                                                                                      Calls Proofs.Try.prog 21 #[Value.pointer p, Value.int IntKind.i64 x] w1
                                                                                                                        fun (e : Ending) (w'_6 : World) =>
                                                                                                                        ∃ (n_3 : Int),
                                                                                                                          e = Ending.returned (Value.int IntKind.i64 n_3) ∧
                                                                                                                            (rd w'_6 (Array.size (World.heap w')) 1 = some (Value.int IntKind.i64 x_6) ∧
                                                                                                                                True) ∧
                                                                                                                              Calls Proofs.Try.prog 31 #[Value.pointer p_1, Value.int IntKind.i64 x_6]
                                                                                                                                w'_6 fun (e : Ending) (w' : World) =>
                                                                                                                                ∃ (n_4 : Int),
                                                                                                                                  e = Ending.returned (Value.int IntKind.i64 n_4) ∧
                                                                                                                                    Wif (n_3 != n_4) (K (Value.bool false) w')
                                                                                                                                      (Calls Proofs.Try.prog 29
                                                                                                                                        #[Value.pointer p, Value.pointer p_1, Value.slice a l_1 c] w'
                                                                                                                                        fun (e : Ending) (w' : World) =>
                                                                                                                                        ∃ (b_1 : Bool),
                                                                                                                                          e = Ending.returned (Value.bool b_1) ∧
                                                                                                                                            Wif (!b_1) (K (Value.bool false) w')
                                                                                                                                              (∃ (m : Nat),
                                                                                                                                                Nat.succ m ≤ n_2 ∧
                                                                                                                                                  I b (IntKind.wrap IntKind.i64 (n + 1)) w' m)))
                                                                                                          (Wif (x == 2)
                                                                                                            (∀ (w1 : World),
                                                                                                              w1 = World.drew w'_5 →
                                                                                                                ∃ (x : Int),
                                                                                                                  rd w1 (Array.size (World.heap w')) 1 = some (Value.int IntKind.i64 x) ∧
                                                                                                                    ∃ (x_6 : Int),
                                                                                                                      rd w1 (Array.size (World.heap w')) 2 = some (Value.int IntKind.u64 x_6) ∧
                                                                                                                        ∃ (x_7 : Int),
                                                                                                                          rd w1 (Array.size (World.heap w')) 1 = some (Value.int IntKind.i64 x_7) ∧
                                                                                                                            ∃ (x_8 : Int),
                                                                                                                              rd w1 (Array.size (World.heap w')) 2 = some (Value.int IntKind.u64 x_8) ∧
                                                                                                                                Calls Proofs.Try.prog 25
                                                                                                                                  #[Value.pointer p, Value.int IntKind.i64 x, Value.int IntKind.u64 x_6]
                                                                                                                                  w1 fun (e : Ending) (w'_6 : World) =>
                                                                                                                                  ∃ (n_3 : Int),
                                                                                                                                    e = Ending.returned (Value.int IntKind.i64 n_3) ∧
                                                                                                                                      (rd w'_6 (Array.size (World.heap w')) 2 =
                                                                                                                                            some (Value.int IntKind.u64 x_8) ∧
                                                                                                                                          True) ∧
                                                                                                                                        (rd w'_6 (Array.size (World.heap w')) 1 =
                                                                                                                                              some (Value.int IntKind.i64 x_7) ∧
                                                                                                                                            True) ∧
                                                                                                                                          Calls Proofs.Try.prog 32
                                                                                                                                            #[Value.pointer p_1, Value.int IntKind.i64 x_7,
                                                                                                                                              Value.int IntKind.u64 x_8]
                                                                                                                                            w'_6 fun (e : Ending) (w' : World) =>
                                                                                                                                            ∃ (n_4 : Int),
                                                                                                                                              e = Ending.returned (Value.int IntKind.i64 n_4) ∧
                                                                                                                                                Wif (n_3 != n_4) (K (Value.bool false) w')
                                                                                                                                                  (Calls Proofs.Try.prog 29
                                                                                                                                                    #[Value.pointer p, Value.pointer p_1,
                                                                                                                                                      Value.slice a l_1 c]
                                                                                                                                                    w' fun (e : Ending) (w' : World) =>
                                                                                                                                                    ∃ (b_1 : Bool),
                                                                                                                                                      e = Ending.returned (Value.bool b_1) ∧
                                                                                                                                                        Wif (!b_1) (K (Value.bool false) w')
                                                                                                                                                          (∃ (m : Nat),
                                                                                                                                                            Nat.succ m ≤ n_2 ∧
                                                                                                                                                              I b (IntKind.wrap IntKind.i64 (n + 1)) w'
                                                                                                                                                                m)))
                                                                                                            (Wif (x == 3)
                                                                                                              (∀ (w1 : World),
                                                                                                                w1 = World.drew w'_5 →
                                                                                                                  ∃ (x : Int),
                                                                                                                    rd w1 (Array.size (World.heap w')) 1 = some (Value.int IntKind.i64 x) ∧
                                                                                                                      ∃ (x_6 : Int),
                                                                                                                        rd w1 (Array.size (World.heap w')) 1 = some (Value.int IntKind.i64 x_6) ∧
                                                                                                                          Calls Proofs.Try.prog 26 #[Value.pointer p, Value.int IntKind.i64 x] w1
                                                                                                                            fun (e : Ending) (w'_6 : World) =>
                                                                                                                            ∃ (n_3 : Int),
                                                                                                                              e = Ending.returned (Value.int IntKind.i64 n_3) ∧
                                                                                                                                (rd w'_6 (Array.size (World.heap w')) 1 =
                                                                                                                                      some (Value.int IntKind.i64 x_6) ∧
                                                                                                                                    True) ∧
                                                                                                                                  Calls Proofs.Try.prog 33
                                                                                                                                    #[Value.pointer p_1, Value.int IntKind.i64 x_6] w'_6
                                                                                                                                    fun (e : Ending) (w' : World) =>
                                                                                                                                    ∃ (n_4 : Int),
                                                                                                                                      e = Ending.returned (Value.int IntKind.i64 n_4) ∧
                                                                                                                                        Wif (n_3 != n_4) (K (Value.bool false) w')
                                                                                                                                          (Calls Proofs.Try.prog 29
                                                                                                                                            #[Value.pointer p, Value.pointer p_1, Value.slice a l_1 c]
                                                                                                                                            w' fun (e : Ending) (w' : World) =>
                                                                                                                                            ∃ (b_1 : Bool),
                                                                                                                                              e = Ending.returned (Value.bool b_1) ∧
                                                                                                                                                Wif (!b_1) (K (Value.bool false) w')
                                                                                                                                                  (∃ (m : Nat),
                                                                                                                                                    Nat.succ m ≤ n_2 ∧
                                                                                                                                                      I b (IntKind.wrap IntKind.i64 (n + 1)) w' m)))
                                                                                                              (Wif (x == 4)
                                                                                                                (∀ (w1 : World),
                                                                                                                  w1 = World.drew w'_5 →
                                                                                                                    ∃ (x : Int),
                                                                                                                      rd w1 (Array.size (World.heap w')) 1 = some (Value.int IntKind.i64 x) ∧
                                                                                                                        ∃ (x_6 : Int),
                                                                                                                          (decide (x < 0) = false →
                                                                                                                              rd w1 (Array.size (World.heap w')) 1 = some (Value.int IntKind.i64 x_6)) ∧
                                                                                                                            gIf (isP p_1) (decide (x < 0) = false)
                                                                                                                              (∃ (x_7 : Int),
                                                                                                                                (decide (x < 0) = false →
                                                                                                                                    rd w1 (pb p_1) (po p_1 + 3) = some (Value.int IntKind.i64 x_7)) ∧
                                                                                                                                  ∃ (x_8 : Int),
                                                                                                                                    ((decide (x < 0) || decide (x_6 ≥ x_7)) = false →
                                                                                                                                        rd w1 (Array.size (World.heap w')) 1 =
                                                                                                                                          some (Value.int IntKind.i64 x_8)) ∧
                                                                                                                                      gIf (isP p_1) ((decide (x < 0) || decide (x_6 ≥ x_7)) = false)
                                                                                                                                        (gIf (inB x_8 32)
                                                                                                                                          ((decide (x < 0) || decide (x_6 ≥ x_7)) = false)
                                                                                                                                          (∃ (x_9 : Bool),
                                                                                                                                            ((decide (x < 0) || decide (x_6 ≥ x_7)) = false →
                                                                                                                                                rd w1 (pb p_1) (po p_1 + 5 + Int.toNat x_8 * 1) =
                                                                                                                                                  some (Value.bool x_9)) ∧
                                                                                                                                              Wif (decide (x < 0) || decide (x_6 ≥ x_7) || !x_9)
                                                                                                                                                (∃ (m : Nat),
                                                                                                                                                  Nat.succ m ≤ n_2 ∧
                                                                                                                                                    I b (IntKind.wrap IntKind.i64 (n + 1)) w1 m)
                                                                                                                                                (∃ (x : Int),
                                                                                                                                                  rd w1 (Array.size (World.heap w')) 1 =
                                                                                                                                                      some (Value.int IntKind.i64 x) ∧
                                                                                                                                                    Calls Proofs.Try.prog 34
                                                                                                                                                      #[Value.pointer p_1, Value.int IntKind.i64 x] w1
                                                                                                                                                      fun (e : Ending) (w'_6 : World) =>
                                                                                                                                                      ∃ (n_3 : Int),
                                                                                                                                                        ∃ (n_4 : Int),
                                                                                                                                                          e =
                                                                                                                                                              Ending.returned
                                                                                                                                                                (Value.tuple
                                                                                                                                                                  #[Value.int IntKind.i64 n_3,
                                                                                                                                                                    Value.int IntKind.i64 n_4]) ∧
                                                                                                                                                            ∃ (I_1 : Int → World → Nat → Prop),
                                                                                                                                                              (∃ (n : Nat), I_1 0 w'_6 n) ∧
                                                                                                                                                                ∀ (n_5 : Int) (w'_7 : World)
                                                                                                                                                                  (n_6 : Nat),
                                                                                                                                                                  I_1 n_5 w'_7 n_6 →
                                                                                                                                                                    ∃ (x : Option Addr),
                                                                                                                                                                      ∃ (x_10 : Nat),
                                                                                                                                                                        ∃ (x_11 : Nat),
                                                                                                                                                                          rd w'_7
                                                                                                                                                                                (Array.size
                                                                                                                                                                                  (World.heap w'))
                                                                                                                                                                                3 =
                                                                                                                                                                              some
                                                                                                                                                                                (Value.slice x x_10
                                                                                                                                                                                  x_11) ∧
                                                                                                                                                                            Wif
                                                                                                                                                                              (decide
                                                                                                                                                                                  (n_5 <
                                                                                                                                                                                    (↑x_10 : Int)) &&
                                                                                                                                                                                decide
                                                                                                                                                                                  (IntKind.wrap
                                                                                                                                                                                      IntKind.i64
                                                                                                                                                                                      (n_3 + n_5) <
                                                                                                                                                                                    n_4))
                                                                                                                                                                              (∃ (x : Option Addr),
                                                                                                                                                                                ∃ (x_12 : Nat),
                                                                                                                                                                                  ∃ (x_13 : Nat),
                                                                                                                                                                                    rd w'_7
                                                                                                                                                                                          (Array.size
                                                                                                                                                                                            (World.heap
                                                                                                                                                                                              w'))
                                                                                                                                                                                          3 =
                                                                                                                                                                                        some
                                                                                                                                                                                          (Value.slice x
                                                                                                                                                                                            x_12 x_13) ∧
                                                                                                                                                                                      Wif (isP x)
                                                                                                                                                                                        (Wif
                                                                                                                                                                                          (inB n_5 x_12)
                                                                                                                                                                                          (∃ (x_14 :
                                                                                                                                                                                            Int),
                                                                                                                                                                                            rd w'_7
                                                                                                                                                                                                  (pb x)
                                                                                                                                                                                                  (po
                                                                                                                                                                                                      x +
                                                                                                                                                                                                    Int.toNat
                                                                                                                                                                                                        n_5 *
                                                                                                                                                                                                      1) =
                                                                                                                                                                                                some
                                                                                                                                                                                                  (Value.int
                                                                                                                                                                                                    IntKind.u8
                                                                                                                                                                                                    x_14) ∧
                                                                                                                                                                                              Wif
                                                                                                                                                                                                (isP a)
                                                                                                                                                                                                (Wif
                                                                                                                                                                                                  (inB
                                                                                                                                                                                                    (IntKind.wrap
                                                                                                                                                                                                      IntKind.i64
                                                                                                                                                                                                      (n_3 +
                                                                                                                                                                                                        n_5))
                                                                                                                                                                                                    l_1)
                                                                                                                                                                                                  (wr
                                                                                                                                                                                                      w'_7
                                                                                                                                                                                                      (pb
                                                                                                                                                                                                        a)
                                                                                                                                                                                                      (po
                                                                                                                                                                                                          a +
                                                                                                                                                                                                        Int.toNat
                                                                                                                                                                                                            (IntKind.wrap
                                                                                                                                                                                                              IntKind.i64
                                                                                                                                                                                                              (n_3 +
                                                                                                                                                                                                                n_5)) *
                                                                                                                                                                                                          1) ∧
                                                                                                                                                                                                    ∀
                                                                                                                                                                                                      (w'_8 :
                                                                                                                                                                                                        World),
                                                                                                                                                                                                      w'_8 =
                                                                                                                                                                                                          st
                                                                                                                                                                                                            w'_7
                                                                                                                                                                                                            (pb
                                                                                                                                                                                                              a)
                                                                                                                                                                                                            (po
                                                                                                                                                                                                                a +
                                                                                                                                                                                                              Int.toNat
                                                                                                                                                                                                                  (IntKind.wrap
                                                                                                                                                                                                                    IntKind.i64
                                                                                                                                                                                                                    (n_3 +
                                                                                                                                                                                                                      n_5)) *
                                                                                                                                                                                                                1)
                                                                                                                                                                                                            (Value.int
                                                                                                                                                                                                              IntKind.u8
                                                                                                                                                                                                              x_14) →
                                                                                                                                                                                                        ∀
                                                                                                                                                                                                          (w1 :
                                                                                                                                                                                                            World),
                                                                                                                                                                                                          w1 =
                                                                                                                                                                                                              World.drew
                                                                                                                                                                                                                w'_8 →
                                                                                                                                                                                                            Wif
                                                                                                                                                                                                              (isP
                                                                                                                                                                                                                p_1)
                                                                                                                                                                                                              (∃
                                                                                                                                                                                                                (x
                                                                                                                                                                                                                :
                                                                                                                                                                                                                Option
                                                                                                                                                                                                                  Addr),
                                                                                                                                                                                                                ∃
                                                                                                                                                                                                                  (x_15
                                                                                                                                                                                                                  :
                                                                                                                                                                                                                  Nat),
                                                                                                                                                                                                                  ∃
                                                                                                                                                                                                                    (x_16
                                                                                                                                                                                                                    :
                                                                                                                                                                                                                    Nat),
                                                                                                                                                                                                                    rd
                                                                                                                                                                                                                          w1
                                                                                                                                                                                                                          (pb
                                                                                                                                                                                                                            p_1)
                                                                                                                                                                                                                          (po
                                                                                                                                                                                                                            p_1) =
                                                                                                                                                                                                                        some
                                                                                                                                                                                                                          (Value.slice
                                                                                                                                                                                                                            x
                                                                                                                                                                                                                            x_15
                                                                                                                                                                                                                            x_16) ∧
                                                                                                                                                                                                                      ∃
                                                                                                                                                                                                                        (x_17
                                                                                                                                                                                                                        :
                                                                                                                                                                                                                        Option
                                                                                                                                                                                                                          Addr),
                                                                                                                                                                                                                        ∃
                                                                                                                                                                                                                          (x_18
                                                                                                                                                                                                                          :
                                                                                                                                                                                                                          Nat),
                                                                                                                                                                                                                          ∃
                                                                                                                                                                                                                            (x_19
                                                                                                                                                                                                                            :
                                                                                                                                                                                                                            Nat),
                                                                                                                                                                                                                            rd
                                                                                                                                                                                                                                  w1
                                                                                                                                                                                                                                  (Array.size
                                                                                                                                                                                                                                    (World.heap
                                                                                                                                                                                                                                      w'))
                                                                                                                                                                                                                                  3 =
                                                                                                                                                                                                                                some
                                                                                                                                                                                                                                  (Value.slice
                                                                                                                                                                                                                                    x_17
                                                                                                                                                                                                                                    x_18
                                                                                                                                                                                                                                    x_19) ∧
                                                                                                                                                                                                                              Wif
                                                                                                                                                                                                                                (isP
                                                                                                                                                                                                                                  x_17)
                                                                                                                                                                                                                                (Wif
                                                                                                                                                                                                                                  (inB
                                                                                                                                                                                                                                    n_5
                                                                                                                                                                                                                                    x_18)
                                                                                                                                                                                                                                  (∃
                                                                                                                                                                                                                                    (x_20
                                                                                                                                                                                                                                    :
                                                                                                                                                                                                                                    Int),
                                                                                                                                                                                                                                    rd
                                                                                                                                                                                                                                          w1
                                                                                                                                                                                                                                          (pb
                                                                                                                                                                                                                                            x_17)
                                                                                                                                                                                                                                          (po
                                                                                                                                                                                                                                              x_17 +
                                                                                                                                                                                                                                            Int.toNat
                                                                                                                                                                                                                                                n_5 *
                                                                                                                                                                                                                                              1) =
                                                                                                                                                                                                                                        some
                                                                                                                                                                                                                                          (Value.int
                                                                                                                                                                                                                                            IntKind.u8
                                                                                                                                                                                                                                            x_20) ∧
                                                                                                                                                                                                                                      Wif
                                                                                                                                                                                                                                        (isP
                                                                                                                                                                                                                                          x)
                                                                                                                                                                                                                                        (Wif
                                                                                                                                                                                                                                          (inB
                                                                                                                                                                                                                                            (IntKind.wrap
                                                                                                                                                                                                                                              IntKind.i64
                                                                                                                                                                                                                                              (n_3 +
                                                                                                                                                                                                                                                n_5))
                                                                                                                                                                                                                                            x_15)
                                                                                                                                                                                                                                          (wr
                                                                                                                                                                                                                                              w1
                                                                                                                                                                                                                                              (pb
                                                                                                                                                                                                                                                x)
                                                                                                                                                                                                                                              (po
                                                                                                                                                                                                                                                  x +
                                                                                                                                                                                                                                                Int.toNat
                                                                                                                                                                                                                                                    (IntKind.wrap
                                                                                                                                                                                                                                                      IntKind.i64
                                                                                                                                                                                                                                                      (n_3 +
                                                                                                                                                                                                                                                        n_5)) *
                                                                                                                                                                                                                                                  1) ∧
                                                                                                                                                                                                                                            ∀
                                                                                                                                                                                                                                              (w' :
                                                                                                                                                                                                                                                World),
                                                                                                                                                                                                                                              w' =
                                                                                                                                                                                                                                                  st
                                                                                                                                                                                                                                                    w1
                                                                                                                                                                                                                                                    (pb
                                                                                                                                                                                                                                                      x)
                                                                                                                                                                                                                                                    (po
                                                                                                                                                                                                                                                        x +
                                                                                                                                                                                                                                                      Int.toNat
                                                                                                                                                                                                                                                          (IntKind.wrap
                                                                                                                                                                                                                                                            IntKind.i64
                                                                                                                                                                                                                                                            (n_3 +
                                                                                                                                                                                                                                                              n_5)) *
                                                                                                                                                                                                                                                        1)
                                                                                                                                                                                                                                                    (Value.int
                                                                                                                                                                                                                                                      IntKind.u8
                                                                                                                                                                                                                                                      x_20) →
                                                                                                                                                                                                                                                ∃
                                                                                                                                                                                                                                                  (m
                                                                                                                                                                                                                                                  :
                                                                                                                                                                                                                                                  Nat),
                                                                                                                                                                                                                                                  Nat.succ
                                                                                                                                                                                                                                                        m ≤
                                                                                                                                                                                                                                                      n_6 ∧
                                                                                                                                                                                                                                                    I_1
                                                                                                                                                                                                                                                      (IntKind.wrap
                                                                                                                                                                                                                                                        IntKind.i64
                                                                                                                                                                                                                                                        (n_5 +
                                                                                                                                                                                                                                                          1))
                                                                                                                                                                                                                                                      w'
                                                                                                                                                                                                                                                      m)
                                                                                                                                                                                                                                          False)
                                                                                                                                                                                                                                        False)
                                                                                                                                                                                                                                  False)
                                                                                                                                                                                                                                False)
                                                                                                                                                                                                              False)
                                                                                                                                                                                                  False)
                                                                                                                                                                                                False)
                                                                                                                                                                                          False)
                                                                                                                                                                                        False)
                                                                                                                                                                              (Calls Proofs.Try.prog 29
                                                                                                                                                                                #[Value.pointer p,
                                                                                                                                                                                  Value.pointer p_1,
                                                                                                                                                                                  Value.slice a l_1 c]
                                                                                                                                                                                w'_7
                                                                                                                                                                                fun (e : Ending)
                                                                                                                                                                                  (w' : World) =>
                                                                                                                                                                                ∃ (b_1 : Bool),
                                                                                                                                                                                  e =
                                                                                                                                                                                      Ending.returned
                                                                                                                                                                                        (Value.bool
                                                                                                                                                                                          b_1) ∧
                                                                                                                                                                                    Wif (!b_1)
                                                                                                                                                                                      (K
                                                                                                                                                                                        (Value.bool
                                                                                                                                                                                          false)
                                                                                                                                                                                        w')
                                                                                                                                                                                      (∃ (m : Nat),
                                                                                                                                                                                        Nat.succ m ≤
                                                                                                                                                                                            n_2 ∧
                                                                                                                                                                                          I b
                                                                                                                                                                                            (IntKind.wrap
                                                                                                                                                                                              IntKind.i64
                                                                                                                                                                                              (n + 1))
                                                                                                                                                                                            w' m)))))))
                                                                                                                (Calls Proofs.Try.prog 29 #[Value.pointer p, Value.pointer p_1, Value.slice a l_1 c]
                                                                                                                  w'_5 fun (e : Ending) (w' : World) =>
                                                                                                                  ∃ (b_1 : Bool),
                                                                                                                    e = Ending.returned (Value.bool b_1) ∧
                                                                                                                      Wif (!b_1) (K (Value.bool false) w')
                                                                                                                        (∃ (m : Nat),
                                                                                                                          Nat.succ m ≤ n_2 ∧ I b (IntKind.wrap IntKind.i64 (n + 1)) w' m)))))))
                                                                          False)
                                                                        False)
                                                                      (Calls Proofs.Try.prog 16 #[] w' fun (e : Ending) (w' : World) =>
                                                                        ∃ (b : Bool), e = Ending.returned (Value.bool b) ∧ K (Value.bool b) w')))))
theorem vcE7 (begin : Option
  Addr) (beginL : Nat) (beginC : Nat) (size : Int) (colour : Int) (l : Option
  Addr) (lL : Nat) (lC : Nat) (w : World) (K : Value → World → Prop) : vcP7 begin beginL beginC size colour l lL lC w K = Eng.wBody Go.Proofs.Try.prog (Eng.handOf Go.Proofs.Try.prog [] 1) [] Go.Proofs.Try.f7 (Eng.bodyOf Go.Proofs.Try.f7) [Value.slice
    begin beginL beginC,
  Value.int IntKind.i64 size, Value.int IntKind.i64 colour, Value.slice l lL lC] w K := by kernel_rfl
theorem vc7 (begin : Option
  Addr) (beginL : Nat) (beginC : Nat) (size : Int) (colour : Int) (l : Option
  Addr) (lL : Nat) (lC : Nat) (w : World) (K : Value → World → Prop) (h : vcP7 begin beginL beginC size colour l lL lC w K) :
    Calls Go.Proofs.Try.prog 7 #[Value.slice begin beginL beginC, Value.int IntKind.i64 size, Value.int IntKind.i64 colour, Value.slice l lL lC] w (fun e w' => ∃ v, e = .returned v ∧ K v w') :=
  Eng.vc_of [] 1 [] Go.Proofs.Try.mixes Go.Proofs.Try.func7 (by kernel_rfl) (by kernel_rfl) (vcE7 begin beginL beginC size colour l lL lC w K) h

-- 212423 ms

end Go.Proofs.Ytkancagfhbkhiaa
