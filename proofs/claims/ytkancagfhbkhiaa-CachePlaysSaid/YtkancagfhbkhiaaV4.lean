/-
  A part of a proof that a law of this seat returns true at every input. Conditions: those in each theorem.
-/
import Derived.Test.YtkancagfhbkhiaaV2
set_option linter.unusedSimpArgs false
set_option linter.unusedVariables false
set_option maxRecDepth 100000
namespace Go.Proofs.Ytkancagfhbkhiaa
open Go Go.Eng
/- byre/byrelaw08.same -/
def vcP29 (s : Option Addr) (w' : Option Addr) (b : Option Addr) (bL : Nat) (bC : Nat) (w : World) (K : Value → World → Prop) : Prop :=
  Calls Proofs.Try.prog 22 #[Value.pointer s] w fun (e : Ending) (w'_1 : World) =>
    ∃ (a : Option Addr),
      ∃ (l : Nat),
        ∃ (c : Nat),
          e = Ending.returned (Value.slice a l c) ∧
            ∀ (w1 : World),
              w1 = World.drew w'_1 →
                Wif (isP w')
                  (∃ (x : Int),
                    rd w1 (pb w') (po w' + 3) = some (Value.int IntKind.i64 x) ∧
                      Calls Proofs.Try.prog 17 #[Value.pointer s] w1 fun (e : Ending) (w'_2 : World) =>
                        ∃ (n : Int),
                          e = Ending.returned (Value.int IntKind.i64 n) ∧
                            (rd w'_2 (pb w') (po w' + 3) = some (Value.int IntKind.i64 x) ∧ True) ∧
                              gIf (isP w') ((n != x) = false)
                                (∃ (x_1 : Int),
                                  ((n != x) = false → rd w'_2 (pb w') (po w' + 1) = some (Value.int IntKind.i64 x_1)) ∧
                                    Wif (n != x) (((n != x) = false → rd w'_2 (pb w') (po w' + 1) = some (Value.int IntKind.i64 x_1) ∧ True) ∧ K (Value.bool false) w'_2)
                                      (Calls Proofs.Try.prog 23 #[Value.pointer s] w'_2 fun (e : Ending) (w'_3 : World) =>
                                        ∃ (n_1 : Int),
                                          e = Ending.returned (Value.int IntKind.i64 n_1) ∧
                                            ((n != x) = false → rd w'_3 (pb w') (po w' + 1) = some (Value.int IntKind.i64 x_1) ∧ True) ∧
                                              gIf (isP w') ((n_1 != x_1) = false)
                                                (∃ (x : Int),
                                                  ((n_1 != x_1) = false → rd w'_3 (pb w') (po w' + 2) = some (Value.int IntKind.i64 x)) ∧
                                                    Wif (n_1 != x_1) (((n_1 != x_1) = false → rd w'_3 (pb w') (po w' + 2) = some (Value.int IntKind.i64 x) ∧ True) ∧ K (Value.bool false) w'_3)
                                                      (Calls Proofs.Try.prog 24 #[Value.pointer s] w'_3 fun (e : Ending) (w'_4 : World) =>
                                                        ∃ (n : Int),
                                                          e = Ending.returned (Value.int IntKind.i64 n) ∧
                                                            ((n_1 != x_1) = false → rd w'_4 (pb w') (po w' + 2) = some (Value.int IntKind.i64 x) ∧ True) ∧
                                                              gIf (isP w') ((n != x) = false)
                                                                (∃ (x_2 : Option Addr),
                                                                  ∃ (x_3 : Nat),
                                                                    ∃ (x_4 : Nat),
                                                                      ((n != x) = false → rd w'_4 (pb w') (po w' + 4) = some (Value.slice x_2 x_3 x_4)) ∧
                                                                        Wif (n != x)
                                                                          (((n != x) = false → rd w'_4 (pb w') (po w' + 4) = some (Value.slice x_2 x_3 x_4) ∧ True) ∧ K (Value.bool false) w'_4)
                                                                          (Calls Proofs.Try.prog 18 #[Value.pointer s] w'_4 fun (e : Ending) (w'_5 : World) =>
                                                                            ∃ (n_2 : Int),
                                                                              e = Ending.returned (Value.int IntKind.i64 n_2) ∧
                                                                                ((n != x) = false → rd w'_5 (pb w') (po w' + 4) = some (Value.slice x_2 x_3 x_4) ∧ True) ∧
                                                                                  gIf (isP w') ((n_2 != (↑x_3 : Int)) = false)
                                                                                    (∃ (x : Option Addr),
                                                                                      ∃ (x_5 : Nat),
                                                                                        ∃ (x_6 : Nat),
                                                                                          ((n_2 != (↑x_3 : Int)) = false → rd w'_5 (pb w') (po w' + 4) = some (Value.slice x x_5 x_6)) ∧
                                                                                            ∃ (x : ByteArray),
                                                                                              ((n_2 != (↑x_3 : Int) || (↑l : Int) != (↑x_5 : Int)) = false →
                                                                                                  cnvS Proofs.Try.prog 22 9 (Value.slice b bL bC) x w'_5) ∧
                                                                                                gIf (isP w') ((n_2 != (↑x_3 : Int) || (↑l : Int) != (↑x_5 : Int)) = false)
                                                                                                  (∃ (x_7 : Option Addr),
                                                                                                    ∃ (x_8 : Nat),
                                                                                                      ∃ (x_9 : Nat),
                                                                                                        ((n_2 != (↑x_3 : Int) || (↑l : Int) != (↑x_5 : Int)) = false →
                                                                                                            rd w'_5 (pb w') (po w') = some (Value.slice x_7 x_8 x_9)) ∧
                                                                                                          ∃ (x_10 : ByteArray),
                                                                                                            ((n_2 != (↑x_3 : Int) || (↑l : Int) != (↑x_5 : Int)) = false →
                                                                                                                cnvS Proofs.Try.prog 22 9 (Value.slice x_7 x_8 x_9) x_10 w'_5) ∧
                                                                                                              Wif
                                                                                                                (n_2 != (↑x_3 : Int) || (↑l : Int) != (↑x_5 : Int) ||
                                                                                                                  !ByteArray.toList x == ByteArray.toList x_10)
                                                                                                                (K (Value.bool false) w'_5)
                                                                                                                (∃ (I : Bool → Int → World → Nat → Prop),
                                                                                                                  (∃ (n : Nat), I false 0 w'_5 n) ∧
                                                                                                                    ∀ (b : Bool) (n : Int) (w'_6 : World) (n_3 : Nat),
                                                                                                                      I b n w'_6 n_3 →
                                                                                                                        Wif (decide (n < (↑l : Int)))
                                                                                                                          (∀ (w1 : World),
                                                                                                                            w1 = World.drew w'_6 →
                                                                                                                              Wif (isP a)
                                                                                                                                (Wif (inB n l)
                                                                                                                                  (∃ (x : Int),
                                                                                                                                    rd w1 (pb a) (po a + Int.toNat n * 1) =
                                                                                                                                        some (Value.int IntKind.i64 x) ∧
                                                                                                                                      Wif (isP w')
                                                                                                                                        (∃ (x_11 : Option Addr),
                                                                                                                                          ∃ (x_12 : Nat),
                                                                                                                                            ∃ (x_13 : Nat),
                                                                                                                                              rd w1 (pb w') (po w' + 4) =
                                                                                                                                                  some (Value.slice x_11 x_12 x_13) ∧
                                                                                                                                                Wif (isP x_11)
                                                                                                                                                  (Wif (inB n x_12)
                                                                                                                                                    (∃ (x_14 : Int),
                                                                                                                                                      rd w1 (pb x_11) (po x_11 + Int.toNat n * 1) =
                                                                                                                                                          some (Value.int IntKind.i64 x_14) ∧
                                                                                                                                                        Wif (x != x_14) (K (Value.bool false) w1)
                                                                                                                                                          (Wif (isP a)
                                                                                                                                                            (Wif (inB n l)
                                                                                                                                                              (wr w1 (pb a) (po a + Int.toNat n * 1) ∧
                                                                                                                                                                ∀ (w' : World),
                                                                                                                                                                  w' =
                                                                                                                                                                      st w1 (pb a)
                                                                                                                                                                        (po a + Int.toNat n * 1)
                                                                                                                                                                        (Value.int IntKind.i64 77) →
                                                                                                                                                                    ∃ (m : Nat),
                                                                                                                                                                      Nat.succ m ≤ n_3 ∧
                                                                                                                                                                        I b
                                                                                                                                                                          (IntKind.wrap IntKind.i64
                                                                                                                                                                            (n + 1))
                                                                                                                                                                          w' m)
                                                                                                                                                              False)
                                                                                                                                                            False))
                                                                                                                                                    False)
                                                                                                                                                  False)
                                                                                                                                        False)
                                                                                                                                  False)
                                                                                                                                False)
                                                                                                                          (∃ (I : Bool → Int → World → Nat → Prop),
                                                                                                                            (∃ (n : Nat), I b (-1) w'_6 n) ∧
                                                                                                                              ∀ (b : Bool) (n : Int) (w'_7 : World) (n_4 : Nat),
                                                                                                                                I b n w'_7 n_4 →
                                                                                                                                  Wif (isP w')
                                                                                                                                    (∃ (x : Int),
                                                                                                                                      rd w'_7 (pb w') (po w' + 3) = some (Value.int IntKind.i64 x) ∧
                                                                                                                                        Wif (decide (n ≤ x))
                                                                                                                                          (Calls Proofs.Try.prog 27
                                                                                                                                            #[Value.pointer s, Value.int IntKind.i64 n] w'_7
                                                                                                                                            fun (e : Ending) (w'_8 : World) =>
                                                                                                                                            ∃ (n_5 : Int),
                                                                                                                                              ∃ (b_1 : Bool),
                                                                                                                                                e =
                                                                                                                                                    Ending.returned
                                                                                                                                                      (Value.tuple
                                                                                                                                                        #[Value.int IntKind.u64 n_5, Value.bool b_1]) ∧
                                                                                                                                                  Calls Proofs.Try.prog 58
                                                                                                                                                    #[Value.pointer w', Value.int IntKind.i64 n] w'_8
                                                                                                                                                    fun (e : Ending) (w'_9 : World) =>
                                                                                                                                                    ∃ (n_6 : Int),
                                                                                                                                                      ∃ (b_2 : Bool),
                                                                                                                                                        e =
                                                                                                                                                            Ending.returned
                                                                                                                                                              (Value.tuple
                                                                                                                                                                #[Value.int IntKind.u64 n_6,
                                                                                                                                                                  Value.bool b_2]) ∧
                                                                                                                                                          Calls Proofs.Try.prog 20
                                                                                                                                                            #[Value.pointer s, Value.int IntKind.i64 n]
                                                                                                                                                            w'_9 fun (e : Ending) (w'_10 : World) =>
                                                                                                                                                            ∃ (n_7 : Int),
                                                                                                                                                              ∃ (n_8 : Int),
                                                                                                                                                                e =
                                                                                                                                                                    Ending.returned
                                                                                                                                                                      (Value.tuple
                                                                                                                                                                        #[Value.int IntKind.i64 n_7,
                                                                                                                                                                          Value.int IntKind.i64 n_8]) ∧
                                                                                                                                                                  Calls Proofs.Try.prog 34
                                                                                                                                                                    #[Value.pointer w',
                                                                                                                                                                      Value.int IntKind.i64 n]
                                                                                                                                                                    w'_10
                                                                                                                                                                    fun (e : Ending) (w' : World) =>
                                                                                                                                                                    ∃ (n_9 : Int),
                                                                                                                                                                      ∃ (n_10 : Int),
                                                                                                                                                                        e =
                                                                                                                                                                            Ending.returned
                                                                                                                                                                              (Value.tuple
                                                                                                                                                                                #[Value.int IntKind.i64
                                                                                                                                                                                    n_9,
                                                                                                                                                                                  Value.int IntKind.i64
                                                                                                                                                                                    n_10]) ∧
                                                                                                                                                                          Wif
                                                                                                                                                                            (n_5 != n_6 ||
                                                                                                                                                                                  !b_1 == b_2 ||
                                                                                                                                                                                n_7 != n_9 ||
                                                                                                                                                                              n_8 != n_10)
                                                                                                                                                                            (K (Value.bool false) w')
                                                                                                                                                                            (∃ (m : Nat),
                                                                                                                                                                              Nat.succ m ≤ n_4 ∧
                                                                                                                                                                                I b
                                                                                                                                                                                  (IntKind.wrap
                                                                                                                                                                                    IntKind.i64 (n + 1))
                                                                                                                                                                                  w' m))
                                                                                                                                          (K (Value.bool true) w'_7))
                                                                                                                                    False)))))))))))
                  False
theorem vcE29 (s : Option
  Addr) (w' : Option
  Addr) (b : Option
  Addr) (bL : Nat) (bC : Nat) (w : World) (K : Value → World → Prop) : vcP29 s w' b bL bC w K = Eng.wBody Go.Proofs.Try.prog (Eng.handOf Go.Proofs.Try.prog [] 1) [] Go.Proofs.Try.f29 (Eng.bodyOf Go.Proofs.Try.f29) [Value.pointer
    s,
  Value.pointer w', Value.slice b bL bC] w K := by kernel_rfl
theorem vc29 (s : Option Addr) (w' : Option Addr) (b : Option Addr) (bL : Nat) (bC : Nat) (w : World) (K : Value → World → Prop) (h : vcP29 s w' b bL bC w K) :
    Calls Go.Proofs.Try.prog 29 #[Value.pointer s, Value.pointer w', Value.slice b bL bC] w (fun e w' => ∃ v, e = .returned v ∧ K v w') :=
  Eng.vc_of [] 1 [] Go.Proofs.Try.mixes Go.Proofs.Try.func29 (by kernel_rfl) (by kernel_rfl) (vcE29 s w' b bL bC w K) h

-- 89387 ms

end Go.Proofs.Ytkancagfhbkhiaa
