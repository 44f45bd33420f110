/-
  A part of a proof that a law of this seat returns true at every input. Conditions: those in each theorem.
-/
import Derived.Test.YtkancagfhbkhiaaV2
set_option linter.unusedVariables false
namespace Go.Proofs.Ytkancagfhbkhiaa
open Go Go.Eng
/- byre/byrelaw08.ChainLive -/
def vcP6 (size : Int) (turn : Int) (bytes : Option Addr) (bytesL : Nat) (bytesC : Nat) (l : Option Addr) (lL : Nat) (lC : Nat) (w : World) (K : Value → World → Prop) : Prop :=
  Wif (decide ((↑lL : Int) > 100) || turn == 0 || decide ((↑bytesL : Int) > 300))
    (Calls Proofs.Try.prog 16 #[] w fun (e : Ending) (w' : World) => ∃ (b : Bool), e = Ending.returned (Value.bool b) ∧ K (Value.bool b) w')
    (∀ (w' : World),
      w' = World.alloc w (Obj.cells (List.toArray (List.replicate 256 (Value.int IntKind.u8 0))) 5) →
        Calls Proofs.Try.prog 15 #[Value.slice (some (Addr.mk (Array.size (World.heap w)) 0 none)) 256 256, Value.int IntKind.i64 size, Value.int IntKind.i64 0] w' fun (e : Ending) (w' : World) =>
          ∃ (p : Option Addr),
            ∃ (n : Int),
              e = Ending.returned (Value.tuple #[Value.pointer p, Value.int IntKind.i64 n]) ∧
                Wif (n != 0) (Calls Proofs.Try.prog 16 #[] w' fun (e : Ending) (w' : World) => ∃ (b : Bool), e = Ending.returned (Value.bool b) ∧ K (Value.bool b) w')
                  (Calls Proofs.Try.prog 19 #[Value.pointer p] w' fun (e : Ending) (w' : World) =>
                    ∃ (n : Int),
                      ∃ (n_1 : Int),
                        e = Ending.returned (Value.tuple #[Value.int IntKind.i64 n, Value.int IntKind.i64 n_1]) ∧
                          Calls Proofs.Try.prog 20 #[Value.pointer p, Value.int IntKind.i64 n] w' fun (e : Ending) (w' : World) =>
                            ∃ (n_2 : Int),
                              ∃ (n_3 : Int),
                                e = Ending.returned (Value.tuple #[Value.int IntKind.i64 n_2, Value.int IntKind.i64 n_3]) ∧
                                  Wif (n_1 != 0) False
                                    (Calls Proofs.Try.prog 25 #[Value.pointer p, Value.int IntKind.i64 n, Value.int IntKind.u64 turn] w' fun (e : Ending) (w' : World) =>
                                      ∃ (n_4 : Int),
                                        e = Ending.returned (Value.int IntKind.i64 n_4) ∧
                                          Wif (n_4 != 0 || IntKind.wrap IntKind.i64 (n_3 - n_2) != size || decide (n_3 > 256) || decide (n_2 < 0)) (K (Value.bool false) w')
                                            (∃ (I : Int → World → Nat → Prop),
                                              (∃ (n : Nat), I 0 w' n) ∧
                                                ∀ (n_5 : Int) (w' : World) (n_6 : Nat),
                                                  I n_5 w' n_6 →
                                                    Wif (decide (n_5 < (↑bytesL : Int)) && decide (IntKind.wrap IntKind.i64 (n_2 + n_5) < n_3))
                                                      (Wif (isP bytes)
                                                        (Wif (inB n_5 bytesL)
                                                          (∃ (x : Int),
                                                            rd w' (pb bytes) (po bytes + Int.toNat n_5 * 1) = some (Value.int IntKind.u8 x) ∧
                                                              Wif (inB (IntKind.wrap IntKind.i64 (n_2 + n_5)) 256)
                                                                (wr w' (Array.size (World.heap w)) (0 + Int.toNat (IntKind.wrap IntKind.i64 (n_2 + n_5)) * 1) ∧
                                                                  ∀ (w'_1 : World),
                                                                    w'_1 = st w' (Array.size (World.heap w)) (0 + Int.toNat (IntKind.wrap IntKind.i64 (n_2 + n_5)) * 1) (Value.int IntKind.u8 x) →
                                                                      ∃ (m : Nat), Nat.succ m ≤ n_6 ∧ I (IntKind.wrap IntKind.i64 (n_5 + 1)) w'_1 m)
                                                                False)
                                                          False)
                                                        False)
                                                      (Wif (okSl n_2 n_3 256)
                                                        (∃ (v : ByteArray),
                                                          ∃ (w'_1 : World),
                                                            cnvIs Proofs.Try.prog 22 9
                                                                (Value.slice (offA (some (Addr.mk (Array.size (World.heap w)) 0 none)) 256 (Int.toNat n_2) 1) (Int.toNat n_3 - Int.toNat n_2)
                                                                  (256 - Int.toNat n_2))
                                                                (Value.string v) w' w'_1 ∧
                                                              ∃ (I : Bool → Int → World → Nat → Prop),
                                                                (∃ (n : Nat), I false 0 w'_1 n) ∧
                                                                  ∀ (b : Bool) (n_7 : Int) (w' : World) (n_8 : Nat),
                                                                    I b n_7 w' n_8 →
                                                                      Wif (decide (n_7 < (↑lL : Int)))
                                                                        (Wif (isP l)
                                                                          (Wif (inB n_7 lL)
                                                                            (∃ (x : Int),
                                                                              ∃ (x_1 : Int),
                                                                                ∃ (x_2 : Int),
                                                                                  ∃ (x_3 : Option Addr),
                                                                                    ∃ (x_4 : Nat),
                                                                                      ∃ (x_5 : Nat),
                                                                                        (rd w' (pb l) (po l + Int.toNat n_7 * 4) = some (Value.int IntKind.i64 x) ∧
                                                                                            rd w' (pb l) (po l + Int.toNat n_7 * 4 + 1) = some (Value.int IntKind.i64 x_1) ∧
                                                                                              rd w' (pb l) (po l + Int.toNat n_7 * 4 + 2) = some (Value.int IntKind.u64 x_2) ∧
                                                                                                rd w' (pb l) (po l + Int.toNat n_7 * 4 + 3) = some (Value.slice x_3 x_4 x_5)) ∧
                                                                                          ∀ (w'_2 : World),
                                                                                            w'_2 =
                                                                                                World.alloc w'
                                                                                                  (Obj.cells
                                                                                                    #[Value.int IntKind.i64 0, Value.int IntKind.i64 0, Value.int IntKind.u64 0, Value.slice none 0 0]
                                                                                                    40) →
                                                                                              (wr w'_2 (Array.size (World.heap w')) 0 ∧
                                                                                                  wr w'_2 (Array.size (World.heap w')) 1 ∧
                                                                                                    wr w'_2 (Array.size (World.heap w')) 2 ∧ wr w'_2 (Array.size (World.heap w')) 3) ∧
                                                                                                ∀ (w'_3 : World),
                                                                                                  w'_3 =
                                                                                                      st
                                                                                                        (st
                                                                                                          (st (st w'_2 (Array.size (World.heap w')) 0 (Value.int IntKind.i64 x))
                                                                                                            (Array.size (World.heap w')) 1 (Value.int IntKind.i64 x_1))
                                                                                                          (Array.size (World.heap w')) 2 (Value.int IntKind.u64 x_2))
                                                                                                        (Array.size (World.heap w')) 3 (Value.slice x_3 x_4 x_5) →
                                                                                                    ∃ (x : Int),
                                                                                                      rd w'_3 (Array.size (World.heap w')) 0 = some (Value.int IntKind.i64 x) ∧
                                                                                                        Wif (x == 0)
                                                                                                          (Calls Proofs.Try.prog 19 #[Value.pointer p] w'_3 fun (e : Ending) (w' : World) =>
                                                                                                            ∃ (n_9 : Int),
                                                                                                              ∃ (n_10 : Int),
                                                                                                                e =
                                                                                                                    Ending.returned
                                                                                                                      (Value.tuple #[Value.int IntKind.i64 n_9, Value.int IntKind.i64 n_10]) ∧
                                                                                                                  Calls Proofs.Try.prog 27 #[Value.pointer p, Value.int IntKind.i64 n] w'
                                                                                                                    fun (e : Ending) (w' : World) =>
                                                                                                                    ∃ (n_11 : Int),
                                                                                                                      ∃ (b_1 : Bool),
                                                                                                                        e =
                                                                                                                            Ending.returned
                                                                                                                              (Value.tuple #[Value.int IntKind.u64 n_11, Value.bool b_1]) ∧
                                                                                                                          gIf (okSl n_2 n_3 256) ((!b_1 || n_11 != turn) = false)
                                                                                                                            (Wif (!b_1 || n_11 != turn) False
                                                                                                                              (∃ (v_1 : ByteArray),
                                                                                                                                ∃ (w'_4 : World),
                                                                                                                                  cnvIs Proofs.Try.prog 22 9
                                                                                                                                      (Value.slice
                                                                                                                                        (offA (some (Addr.mk (Array.size (World.heap w)) 0 none)) 256
                                                                                                                                          (Int.toNat n_2) 1)
                                                                                                                                        (Int.toNat n_3 - Int.toNat n_2) (256 - Int.toNat n_2))
                                                                                                                                      (Value.string v_1) w' w'_4 ∧
                                                                                                                                    Wif (!ByteArray.toList v_1 == ByteArray.toList v) False
                                                                                                                                      (Calls Proofs.Try.prog 21
                                                                                                                                        #[Value.pointer p, Value.int IntKind.i64 n] w'_4
                                                                                                                                        fun (e : Ending) (w' : World) =>
                                                                                                                                        ∃ (n : Int),
                                                                                                                                          e = Ending.returned (Value.int IntKind.i64 n) ∧
                                                                                                                                            Wif (n != 80) (K (Value.bool false) w')
                                                                                                                                              (∃ (m : Nat),
                                                                                                                                                Nat.succ m ≤ n_8 ∧
                                                                                                                                                  I b (IntKind.wrap IntKind.i64 (n_7 + 1)) w' m)))))
                                                                                                          (∃ (x : Int),
                                                                                                            rd w'_3 (Array.size (World.heap w')) 1 = some (Value.int IntKind.i64 x) ∧
                                                                                                              Wif (x == n)
                                                                                                                (∃ (m : Nat), Nat.succ m ≤ n_8 ∧ I b (IntKind.wrap IntKind.i64 (n_7 + 1)) w'_3 m)
                                                                                                                (∃ (x : Int),
                                                                                                                  rd w'_3 (Array.size (World.heap w')) 0 = some (Value.int IntKind.i64 x) ∧
                                                                                                                    Wif (x == 1)
                                                                                                                      (∃ (x : Int),
                                                                                                                        rd w'_3 (Array.size (World.heap w')) 1 = some (Value.int IntKind.i64 x) ∧
                                                                                                                          Calls Proofs.Try.prog 21 #[Value.pointer p, Value.int IntKind.i64 x] w'_3
                                                                                                                            fun (e : Ending) (w' : World) =>
                                                                                                                            ∃ (n_9 : Int),
                                                                                                                              e = Ending.returned (Value.int IntKind.i64 n_9) ∧
                                                                                                                                Calls Proofs.Try.prog 27 #[Value.pointer p, Value.int IntKind.i64 n] w'
                                                                                                                                  fun (e : Ending) (w' : World) =>
                                                                                                                                  ∃ (n_10 : Int),
                                                                                                                                    ∃ (b_1 : Bool),
                                                                                                                                      e =
                                                                                                                                          Ending.returned
                                                                                                                                            (Value.tuple
                                                                                                                                              #[Value.int IntKind.u64 n_10, Value.bool b_1]) ∧
                                                                                                                                        gIf (okSl n_2 n_3 256) ((!b_1 || n_10 != turn) = false)
                                                                                                                                          (Wif (!b_1 || n_10 != turn) False
                                                                                                                                            (∃ (v_1 : ByteArray),
                                                                                                                                              ∃ (w'_4 : World),
                                                                                                                                                cnvIs Proofs.Try.prog 22 9
                                                                                                                                                    (Value.slice
                                                                                                                                                      (offA
                                                                                                                                                        (some
                                                                                                                                                          (Addr.mk (Array.size (World.heap w)) 0 none))
                                                                                                                                                        256 (Int.toNat n_2) 1)
                                                                                                                                                      (Int.toNat n_3 - Int.toNat n_2)
                                                                                                                                                      (256 - Int.toNat n_2))
                                                                                                                                                    (Value.string v_1) w' w'_4 ∧
                                                                                                                                                  Wif (!ByteArray.toList v_1 == ByteArray.toList v)
                                                                                                                                                    False
                                                                                                                                                    (Calls Proofs.Try.prog 21
                                                                                                                                                      #[Value.pointer p, Value.int IntKind.i64 n] w'_4
                                                                                                                                                      fun (e : Ending) (w' : World) =>
                                                                                                                                                      ∃ (n : Int),
                                                                                                                                                        e = Ending.returned (Value.int IntKind.i64 n) ∧
                                                                                                                                                          Wif (n != 80) (K (Value.bool false) w')
                                                                                                                                                            (∃ (m : Nat),
                                                                                                                                                              Nat.succ m ≤ n_8 ∧
                                                                                                                                                                I b (IntKind.wrap IntKind.i64 (n_7 + 1))
                                                                                                                                                                  w' m)))))
                                                                                                                      (∃ (x : Int),
                                                                                                                        rd w'_3 (Array.size (World.heap w')) 0 = some (Value.int IntKind.i64 x) ∧
                                                                                                                          Wif (x == 2)
                                                                                                                            (∃ (x : Int),
                                                                                                                              rd w'_3 (Array.size (World.heap w')) 1 = some (Value.int IntKind.i64 x) ∧
                                                                                                                                ∃ (x_6 : Int),
                                                                                                                                  rd w'_3 (Array.size (World.heap w')) 2 =
                                                                                                                                      some (Value.int IntKind.u64 x_6) ∧
                                                                                                                                    Calls Proofs.Try.prog 25
                                                                                                                                      #[Value.pointer p, Value.int IntKind.i64 x,
                                                                                                                                        Value.int IntKind.u64 x_6]
                                                                                                                                      w'_3 fun (e : Ending) (w' : World) =>
                                                                                                                                      ∃ (n_9 : Int),
                                                                                                                                        e = Ending.returned (Value.int IntKind.i64 n_9) ∧
                                                                                                                                          Calls Proofs.Try.prog 27
                                                                                                                                            #[Value.pointer p, Value.int IntKind.i64 n] w'
                                                                                                                                            fun (e : Ending) (w' : World) =>
                                                                                                                                            ∃ (n_10 : Int),
                                                                                                                                              ∃ (b_1 : Bool),
                                                                                                                                                e =
                                                                                                                                                    Ending.returned
                                                                                                                                                      (Value.tuple
                                                                                                                                                        #[Value.int IntKind.u64 n_10, Value.bool b_1]) ∧
                                                                                                                                                  gIf (okSl n_2 n_3 256)
                                                                                                                                                    ((!b_1 || n_10 != turn) = false)
                                                                                                                                                    (Wif (!b_1 || n_10 != turn) False
                                                                                                                                                      (∃ (v_1 : ByteArray),
                                                                                                                                                        ∃ (w'_4 : World),
                                                                                                                                                          cnvIs Proofs.Try.prog 22 9
                                                                                                                                                              (Value.slice
                                                                                                                                                                (offA
                                                                                                                                                                  (some
                                                                                                                                                                    (Addr.mk (Array.size (World.heap w))
                                                                                                                                                                      0 none))
                                                                                                                                                                  256 (Int.toNat n_2) 1)
                                                                                                                                                                (Int.toNat n_3 - Int.toNat n_2)
                                                                                                                                                                (256 - Int.toNat n_2))
                                                                                                                                                              (Value.string v_1) w' w'_4 ∧
                                                                                                                                                            Wif
                                                                                                                                                              (!ByteArray.toList v_1 ==
                                                                                                                                                                  ByteArray.toList v)
                                                                                                                                                              False
                                                                                                                                                              (Calls Proofs.Try.prog 21
                                                                                                                                                                #[Value.pointer p,
                                                                                                                                                                  Value.int IntKind.i64 n]
                                                                                                                                                                w'_4 fun (e : Ending) (w' : World) =>
                                                                                                                                                                ∃ (n : Int),
                                                                                                                                                                  e =
                                                                                                                                                                      Ending.returned
                                                                                                                                                                        (Value.int IntKind.i64 n) ∧
                                                                                                                                                                    Wif (n != 80)
                                                                                                                                                                      (K (Value.bool false) w')
                                                                                                                                                                      (∃ (m : Nat),
                                                                                                                                                                        Nat.succ m ≤ n_8 ∧
                                                                                                                                                                          I b
                                                                                                                                                                            (IntKind.wrap IntKind.i64
                                                                                                                                                                              (n_7 + 1))
                                                                                                                                                                            w' m)))))
                                                                                                                            (∃ (x : Int),
                                                                                                                              rd w'_3 (Array.size (World.heap w')) 0 = some (Value.int IntKind.i64 x) ∧
                                                                                                                                Wif (x == 3)
                                                                                                                                  (∃ (x : Int),
                                                                                                                                    rd w'_3 (Array.size (World.heap w')) 1 =
                                                                                                                                        some (Value.int IntKind.i64 x) ∧
                                                                                                                                      Calls Proofs.Try.prog 26
                                                                                                                                        #[Value.pointer p, Value.int IntKind.i64 x] w'_3
                                                                                                                                        fun (e : Ending) (w' : World) =>
                                                                                                                                        ∃ (n_9 : Int),
                                                                                                                                          e = Ending.returned (Value.int IntKind.i64 n_9) ∧
                                                                                                                                            Calls Proofs.Try.prog 27
                                                                                                                                              #[Value.pointer p, Value.int IntKind.i64 n] w'
                                                                                                                                              fun (e : Ending) (w' : World) =>
                                                                                                                                              ∃ (n_10 : Int),
                                                                                                                                                ∃ (b_1 : Bool),
                                                                                                                                                  e =
                                                                                                                                                      Ending.returned
                                                                                                                                                        (Value.tuple
                                                                                                                                                          #[Value.int IntKind.u64 n_10,
                                                                                                                                                            Value.bool b_1]) ∧
                                                                                                                                                    gIf (okSl n_2 n_3 256)
                                                                                                                                                      ((!b_1 || n_10 != turn) = false)
                                                                                                                                                      (Wif (!b_1 || n_10 != turn) False
                                                                                                                                                        (∃ (v_1 : ByteArray),
                                                                                                                                                          ∃ (w'_4 : World),
                                                                                                                                                            cnvIs Proofs.Try.prog 22 9
                                                                                                                                                                (Value.slice
                                                                                                                                                                  (offA
                                                                                                                                                                    (some
                                                                                                                                                                      (Addr.mk
                                                                                                                                                                        (Array.size (World.heap w)) 0
                                                                                                                                                                        none))
                                                                                                                                                                    256 (Int.toNat n_2) 1)
                                                                                                                                                                  (Int.toNat n_3 - Int.toNat n_2)
                                                                                                                                                                  (256 - Int.toNat n_2))
                                                                                                                                                                (Value.string v_1) w' w'_4 ∧
                                                                                                                                                              Wif
                                                                                                                                                                (!ByteArray.toList v_1 ==
                                                                                                                                                                    ByteArray.toList v)
                                                                                                                                                                False
                                                                                                                                                                (Calls Proofs.Try.prog 21
                                                                                                                                                                  #[Value.pointer p,
                                                                                                                                                                    Value.int IntKind.i64 n]
                                                                                                                                                                  w'_4 fun (e : Ending) (w' : World) =>
                                                                                                                                                                  ∃ (n : Int),
                                                                                                                                                                    e =
                                                                                                                                                                        Ending.returned
                                                                                                                                                                          (Value.int IntKind.i64 n) ∧
                                                                                                                                                                      Wif (n != 80)
                                                                                                                                                                        (K (Value.bool false) w')
                                                                                                                                                                        (∃ (m : Nat),
                                                                                                                                                                          Nat.succ m ≤ n_8 ∧
                                                                                                                                                                            I b
                                                                                                                                                                              (IntKind.wrap IntKind.i64
                                                                                                                                                                                (n_7 + 1))
                                                                                                                                                                              w' m)))))
                                                                                                                                  (Calls Proofs.Try.prog 27 #[Value.pointer p, Value.int IntKind.i64 n]
                                                                                                                                    w'_3 fun (e : Ending) (w' : World) =>
                                                                                                                                    ∃ (n_9 : Int),
                                                                                                                                      ∃ (b_1 : Bool),
                                                                                                                                        e =
                                                                                                                                            Ending.returned
                                                                                                                                              (Value.tuple
                                                                                                                                                #[Value.int IntKind.u64 n_9, Value.bool b_1]) ∧
                                                                                                                                          gIf (okSl n_2 n_3 256) ((!b_1 || n_9 != turn) = false)
                                                                                                                                            (Wif (!b_1 || n_9 != turn) False
                                                                                                                                              (∃ (v_1 : ByteArray),
                                                                                                                                                ∃ (w'_4 : World),
                                                                                                                                                  cnvIs Proofs.Try.prog 22 9
                                                                                                                                                      (Value.slice
                                                                                                                                                        (offA
                                                                                                                                                          (some
                                                                                                                                                            (Addr.mk (Array.size (World.heap w)) 0
                                                                                                                                                              none))
                                                                                                                                                          256 (Int.toNat n_2) 1)
                                                                                                                                                        (Int.toNat n_3 - Int.toNat n_2)
                                                                                                                                                        (256 - Int.toNat n_2))
                                                                                                                                                      (Value.string v_1) w' w'_4 ∧
                                                                                                                                                    Wif (!ByteArray.toList v_1 == ByteArray.toList v)
                                                                                                                                                      False
                                                                                                                                                      (Calls Proofs.Try.prog 21
                                                                                                                                                        #[Value.pointer p, Value.int IntKind.i64 n] w'_4
                                                                                                                                                        fun (e : Ending) (w' : World) =>
                                                                                                                                                        ∃ (n : Int),
                                                                                                                                                          e =
                                                                                                                                                              Ending.returned
                                                                                                                                                                (Value.int IntKind.i64 n) ∧
                                                                                                                                                            Wif (n != 80) (K (Value.bool false) w')
                                                                                                                                                              (∃ (m : Nat),
                                                                                                                                                                Nat.succ m ≤ n_8 ∧
                                                                                                                                                                  I b
                                                                                                                                                                    (IntKind.wrap IntKind.i64 (n_7 + 1))
                                                                                                                                                                    w' m))))))))))
                                                                            False)
                                                                          False)
                                                                        (Calls Proofs.Try.prog 26 #[Value.pointer p, Value.int IntKind.i64 n] w' fun (e : Ending) (w' : World) =>
                                                                          ∃ (n_9 : Int),
                                                                            e = Ending.returned (Value.int IntKind.i64 n_9) ∧
                                                                              Wif (n_9 == 0)
                                                                                (Calls Proofs.Try.prog 21 #[Value.pointer p, Value.int IntKind.i64 n] w' fun (e : Ending) (w' : World) =>
                                                                                  ∃ (n : Int),
                                                                                    e = Ending.returned (Value.int IntKind.i64 n) ∧
                                                                                      Wif (n == 0)
                                                                                        (Calls Proofs.Try.prog 16 #[] w' fun (e : Ending) (w' : World) =>
                                                                                          ∃ (b : Bool), e = Ending.returned (Value.bool b) ∧ K (Value.bool b) w')
                                                                                        (K (Value.bool false) w'))
                                                                                False))
                                                        False)))))
theorem vcE6 (size : Int) (turn : Int) (bytes : Option
  Addr) (bytesL : Nat) (bytesC : Nat) (l : Option
  Addr) (lL : Nat) (lC : Nat) (w : World) (K : Value → World → Prop) : vcP6 size turn bytes bytesL bytesC l lL lC w K = Eng.wBody Go.Proofs.Try.prog (Eng.handOf Go.Proofs.Try.prog [55] 1) [] Go.Proofs.Try.f6 (Eng.bodyOf Go.Proofs.Try.f6) [Value.int
    IntKind.i64 size,
  Value.int IntKind.u64 turn, Value.slice bytes bytesL bytesC, Value.slice l lL lC] w K := by kernel_rfl
theorem vc6 (size : Int) (turn : Int) (bytes : Option
  Addr) (bytesL : Nat) (bytesC : Nat) (l : Option Addr) (lL : Nat) (lC : Nat) (w : World) (K : Value → World → Prop) (h : vcP6 size turn bytes bytesL bytesC l lL lC w K) :
    Calls Go.Proofs.Try.prog 6 #[Value.int IntKind.i64 size, Value.int IntKind.u64 turn, Value.slice bytes bytesL bytesC, Value.slice l lL lC] w (fun e w' => ∃ v, e = .returned v ∧ K v w') :=
  Eng.vc_of [55] 1 [] Go.Proofs.Try.mixes Go.Proofs.Try.func6 (by kernel_rfl) (by kernel_rfl) (vcE6 size turn bytes bytesL bytesC l lL lC w K) h

end Go.Proofs.Ytkancagfhbkhiaa
