/-
  A part of a proof that a law of this seat returns true at every input. Conditions: those in each theorem.
-/
import Derived.Test.YtkancagfhbkhiaaV5
set_option linter.unusedSimpArgs false
set_option linter.unusedVariables false
set_option maxRecDepth 100000
namespace Go.Proofs.Ytkancagfhbkhiaa
open Go Go.Eng
/- byre/byrelaw08.ChainBytes -/
def vcP4 (size : Int) (colour : Int) (l : Option Addr) (lL : Nat) (lC : Nat) (w : World) (K : Value → World → Prop) : Prop :=
  ∀ (w' : World),
    w' = World.alloc w (Obj.cells (List.toArray (List.replicate 256 (Value.int IntKind.u8 0))) 5) →
      Calls Proofs.Try.prog 15 #[Value.slice (some (Addr.mk (Array.size (World.heap w)) 0 none)) 256 256, Value.int IntKind.i64 size, Value.int IntKind.i64 colour] w' fun (e : Ending) (w' : World) =>
        ∃ (p : Option Addr),
          ∃ (n : Int),
            e = Ending.returned (Value.tuple #[Value.pointer p, Value.int IntKind.i64 n]) ∧
              Wif (n != 0 || decide ((↑lL : Int) > 60)) (Calls Proofs.Try.prog 16 #[] w' fun (e : Ending) (w' : World) => ∃ (b : Bool), e = Ending.returned (Value.bool b) ∧ K (Value.bool b) w')
                (∀ (w'_1 : World),
                  w'_1 = World.alloc w' (Obj.cells (List.toArray (List.replicate 32 (Value.bool false))) 38) →
                    ∃ (I : Bool → Int → World → Nat → Prop),
                      (∃ (n : Nat), I false 0 w'_1 n) ∧
                        ∀ (b : Bool) (n : Int) (w'_2 : World) (n_1 : Nat),
                          I b n w'_2 n_1 →
                            Wif (decide (n < (↑lL : Int)))
                              (Wif (isP l)
                                (Wif (inB n lL)
                                  (∃ (x : Int),
                                    ∃ (x_1 : Int),
                                      ∃ (x_2 : Int),
                                        ∃ (x_3 : Option Addr),
                                          ∃ (x_4 : Nat),
                                            ∃ (x_5 : Nat),
                                              (rd w'_2 (pb l) (po l + Int.toNat n * 4) = some (Value.int IntKind.i64 x) ∧
                                                  rd w'_2 (pb l) (po l + Int.toNat n * 4 + 1) = some (Value.int IntKind.i64 x_1) ∧
                                                    rd w'_2 (pb l) (po l + Int.toNat n * 4 + 2) = some (Value.int IntKind.u64 x_2) ∧
                                                      rd w'_2 (pb l) (po l + Int.toNat n * 4 + 3) = some (Value.slice x_3 x_4 x_5)) ∧
                                                ∀ (w'_3 : World),
                                                  w'_3 = World.alloc w'_2 (Obj.cells #[Value.int IntKind.i64 0, Value.int IntKind.i64 0, Value.int IntKind.u64 0, Value.slice none 0 0] 40) →
                                                    (wr w'_3 (Array.size (World.heap w'_2)) 0 ∧
                                                        wr w'_3 (Array.size (World.heap w'_2)) 1 ∧ wr w'_3 (Array.size (World.heap w'_2)) 2 ∧ wr w'_3 (Array.size (World.heap w'_2)) 3) ∧
                                                      ∀ (w'_4 : World),
                                                        w'_4 =
                                                            st
                                                              (st (st (st w'_3 (Array.size (World.heap w'_2)) 0 (Value.int IntKind.i64 x)) (Array.size (World.heap w'_2)) 1 (Value.int IntKind.i64 x_1))
                                                                (Array.size (World.heap w'_2)) 2 (Value.int IntKind.u64 x_2))
                                                              (Array.size (World.heap w'_2)) 3 (Value.slice x_3 x_4 x_5) →
                                                          ∃ (x : ByteArray),
                                                            cnvS Proofs.Try.prog 22 9 (Value.slice (some (Addr.mk (Array.size (World.heap w)) 0 none)) 256 256) x w'_4 ∧
                                                              ∃ (x_6 : Int),
                                                                rd w'_4 (Array.size (World.heap w'_2)) 0 = some (Value.int IntKind.i64 x_6) ∧
                                                                  Wif (x_6 == 0)
                                                                    (Calls Proofs.Try.prog 19 #[Value.pointer p] w'_4 fun (e : Ending) (w'_5 : World) =>
                                                                      ∃ (n_2 : Int),
                                                                        ∃ (n_3 : Int),
                                                                          e = Ending.returned (Value.tuple #[Value.int IntKind.i64 n_2, Value.int IntKind.i64 n_3]) ∧
                                                                            Wif (n_3 == 0)
                                                                              (Wif (decide (n_2 < 0) || decide (n_2 ≥ 32)) (K (Value.bool false) w'_5)
                                                                                (Wif (inB n_2 32)
                                                                                  (wr w'_5 (Array.size (World.heap w')) (0 + Int.toNat n_2 * 1) ∧
                                                                                    ∀ (w'_6 : World),
                                                                                      w'_6 = st w'_5 (Array.size (World.heap w')) (0 + Int.toNat n_2 * 1) (Value.bool true) →
                                                                                        Calls Proofs.Try.prog 20 #[Value.pointer p, Value.int IntKind.i64 n_2] w'_6 fun (e : Ending) (w' : World) =>
                                                                                          ∃ (n_4 : Int),
                                                                                            ∃ (n_5 : Int),
                                                                                              e = Ending.returned (Value.tuple #[Value.int IntKind.i64 n_4, Value.int IntKind.i64 n_5]) ∧
                                                                                                ∃ (I_1 : Bool → Int → World → Nat → Prop),
                                                                                                  (∃ (n : Nat), I_1 b 0 w' n) ∧
                                                                                                    ∀ (b : Bool) (n_6 : Int) (w' : World) (n_7 : Nat),
                                                                                                      I_1 b n_6 w' n_7 →
                                                                                                        Wif (decide (n_6 < 256))
                                                                                                          (∀ (w1 : World),
                                                                                                            w1 = World.drew w' →
                                                                                                              gIf (inB n_6 256) ((decide (n_6 < n_4) || decide (n_6 ≥ n_5)) = true)
                                                                                                                (∃ (x_7 : Int),
                                                                                                                  ((decide (n_6 < n_4) || decide (n_6 ≥ n_5)) = true →
                                                                                                                      rd w1 (Array.size (World.heap w)) (0 + Int.toNat n_6 * 1) =
                                                                                                                        some (Value.int IntKind.u8 x_7)) ∧
                                                                                                                    gIf (inB n_6 (ByteArray.size x)) ((decide (n_6 < n_4) || decide (n_6 ≥ n_5)) = true)
                                                                                                                      (Wif
                                                                                                                        ((decide (n_6 < n_4) || decide (n_6 ≥ n_5)) &&
                                                                                                                          x_7 !=
                                                                                                                            (↑(UInt8.toNat
                                                                                                                                  (List.getD (Array.toList (ByteArray.data x)) (Int.toNat n_6)
                                                                                                                                    (UInt8.ofBitVec
                                                                                                                                      (BitVec.ofFin
                                                                                                                                        (Fin.mk 0 (Nat.mod_lt 0 (BitVec.ofNat._proof_1 8))))))) :
                                                                                                                              Int))
                                                                                                                        (K (Value.bool false) w1)
                                                                                                                        (∃ (m : Nat),
                                                                                                                          Nat.succ m ≤ n_7 ∧ I_1 b (IntKind.wrap IntKind.i64 (n_6 + 1)) w1 m))))
                                                                                                          (∃ (m : Nat), Nat.succ m ≤ n_1 ∧ I b (IntKind.wrap IntKind.i64 (n + 1)) w' m))
                                                                                  False))
                                                                              (Calls Proofs.Try.prog 20 #[Value.pointer p, Value.int IntKind.i64 (-1)] w'_5 fun (e : Ending) (w' : World) =>
                                                                                ∃ (n_4 : Int),
                                                                                  ∃ (n_5 : Int),
                                                                                    e = Ending.returned (Value.tuple #[Value.int IntKind.i64 n_4, Value.int IntKind.i64 n_5]) ∧
                                                                                      ∃ (I_1 : Bool → Int → World → Nat → Prop),
                                                                                        (∃ (n : Nat), I_1 b 0 w' n) ∧
                                                                                          ∀ (b : Bool) (n_6 : Int) (w' : World) (n_7 : Nat),
                                                                                            I_1 b n_6 w' n_7 →
                                                                                              Wif (decide (n_6 < 256))
                                                                                                (∀ (w1 : World),
                                                                                                  w1 = World.drew w' →
                                                                                                    gIf (inB n_6 256) ((decide (n_6 < n_4) || decide (n_6 ≥ n_5)) = true)
                                                                                                      (∃ (x_7 : Int),
                                                                                                        ((decide (n_6 < n_4) || decide (n_6 ≥ n_5)) = true →
                                                                                                            rd w1 (Array.size (World.heap w)) (0 + Int.toNat n_6 * 1) =
                                                                                                              some (Value.int IntKind.u8 x_7)) ∧
                                                                                                          gIf (inB n_6 (ByteArray.size x)) ((decide (n_6 < n_4) || decide (n_6 ≥ n_5)) = true)
                                                                                                            (Wif
                                                                                                              ((decide (n_6 < n_4) || decide (n_6 ≥ n_5)) &&
                                                                                                                x_7 !=
                                                                                                                  (↑(UInt8.toNat
                                                                                                                        (List.getD (Array.toList (ByteArray.data x)) (Int.toNat n_6)
                                                                                                                          (UInt8.ofBitVec
                                                                                                                            (BitVec.ofFin (Fin.mk 0 (Nat.mod_lt 0 (BitVec.ofNat._proof_1 8))))))) :
                                                                                                                    Int))
                                                                                                              (K (Value.bool false) w1)
                                                                                                              (∃ (m : Nat), Nat.succ m ≤ n_7 ∧ I_1 b (IntKind.wrap IntKind.i64 (n_6 + 1)) w1 m))))
                                                                                                (∃ (m : Nat), Nat.succ m ≤ n_1 ∧ I b (IntKind.wrap IntKind.i64 (n + 1)) w' m)))
                                                                    (Wif (x_6 == 1)
                                                                      (∃ (x_7 : Int),
                                                                        rd w'_4 (Array.size (World.heap w'_2)) 1 = some (Value.int IntKind.i64 x_7) ∧
                                                                          Calls Proofs.Try.prog 21 #[Value.pointer p, Value.int IntKind.i64 x_7] w'_4 fun (e : Ending) (w'_5 : World) =>
                                                                            ∃ (n_2 : Int),
                                                                              e = Ending.returned (Value.int IntKind.i64 n_2) ∧
                                                                                Wif (n_2 == 0)
                                                                                  (∃ (x_8 : Int),
                                                                                    rd w'_5 (Array.size (World.heap w'_2)) 1 = some (Value.int IntKind.i64 x_8) ∧
                                                                                      Wif (decide (x_8 < 0) || decide (x_8 ≥ 32)) (K (Value.bool false) w'_5)
                                                                                        (Wif (inB x_8 32)
                                                                                          (wr w'_5 (Array.size (World.heap w')) (0 + Int.toNat x_8 * 1) ∧
                                                                                            ∀ (w'_6 : World),
                                                                                              w'_6 = st w'_5 (Array.size (World.heap w')) (0 + Int.toNat x_8 * 1) (Value.bool false) →
                                                                                                Calls Proofs.Try.prog 20 #[Value.pointer p, Value.int IntKind.i64 x_8] w'_6
                                                                                                  fun (e : Ending) (w' : World) =>
                                                                                                  ∃ (n_3 : Int),
                                                                                                    ∃ (n_4 : Int),
                                                                                                      e = Ending.returned (Value.tuple #[Value.int IntKind.i64 n_3, Value.int IntKind.i64 n_4]) ∧
                                                                                                        ∃ (I_1 : Bool → Int → World → Nat → Prop),
                                                                                                          (∃ (n : Nat), I_1 b 0 w' n) ∧
                                                                                                            ∀ (b : Bool) (n_5 : Int) (w' : World) (n_6 : Nat),
                                                                                                              I_1 b n_5 w' n_6 →
                                                                                                                Wif (decide (n_5 < 256))
                                                                                                                  (∀ (w1 : World),
                                                                                                                    w1 = World.drew w' →
                                                                                                                      gIf (inB n_5 256) ((decide (n_5 < n_3) || decide (n_5 ≥ n_4)) = true)
                                                                                                                        (∃ (x_9 : Int),
                                                                                                                          ((decide (n_5 < n_3) || decide (n_5 ≥ n_4)) = true →
                                                                                                                              rd w1 (Array.size (World.heap w)) (0 + Int.toNat n_5 * 1) =
                                                                                                                                some (Value.int IntKind.u8 x_9)) ∧
                                                                                                                            gIf (inB n_5 (ByteArray.size x))
                                                                                                                              ((decide (n_5 < n_3) || decide (n_5 ≥ n_4)) = true)
                                                                                                                              (Wif
                                                                                                                                ((decide (n_5 < n_3) || decide (n_5 ≥ n_4)) &&
                                                                                                                                  x_9 !=
                                                                                                                                    (↑(UInt8.toNat
                                                                                                                                          (List.getD (Array.toList (ByteArray.data x)) (Int.toNat n_5)
                                                                                                                                            (UInt8.ofBitVec
                                                                                                                                              (BitVec.ofFin
                                                                                                                                                (Fin.mk 0
                                                                                                                                                  (Nat.mod_lt 0 (BitVec.ofNat._proof_1 8))))))) :
                                                                                                                                      Int))
                                                                                                                                (K (Value.bool false) w1)
                                                                                                                                (∃ (m : Nat),
                                                                                                                                  Nat.succ m ≤ n_6 ∧ I_1 b (IntKind.wrap IntKind.i64 (n_5 + 1)) w1 m))))
                                                                                                                  (∃ (m : Nat), Nat.succ m ≤ n_1 ∧ I b (IntKind.wrap IntKind.i64 (n + 1)) w' m))
                                                                                          False))
                                                                                  (Calls Proofs.Try.prog 20 #[Value.pointer p, Value.int IntKind.i64 (-1)] w'_5 fun (e : Ending) (w' : World) =>
                                                                                    ∃ (n_3 : Int),
                                                                                      ∃ (n_4 : Int),
                                                                                        e = Ending.returned (Value.tuple #[Value.int IntKind.i64 n_3, Value.int IntKind.i64 n_4]) ∧
                                                                                          ∃ (I_1 : Bool → Int → World → Nat → Prop),
                                                                                            (∃ (n : Nat), I_1 b 0 w' n) ∧
                                                                                              ∀ (b : Bool) (n_5 : Int) (w' : World) (n_6 : Nat),
                                                                                                I_1 b n_5 w' n_6 →
                                                                                                  Wif (decide (n_5 < 256))
                                                                                                    (∀ (w1 : World),
                                                                                                      w1 = World.drew w' →
                                                                                                        gIf (inB n_5 256) ((decide (n_5 < n_3) || decide (n_5 ≥ n_4)) = true)
                                                                                                          (∃ (x_8 : Int),
                                                                                                            ((decide (n_5 < n_3) || decide (n_5 ≥ n_4)) = true →
                                                                                                                rd w1 (Array.size (World.heap w)) (0 + Int.toNat n_5 * 1) =
                                                                                                                  some (Value.int IntKind.u8 x_8)) ∧
                                                                                                              gIf (inB n_5 (ByteArray.size x)) ((decide (n_5 < n_3) || decide (n_5 ≥ n_4)) = true)
                                                                                                                (Wif
                                                                                                                  ((decide (n_5 < n_3) || decide (n_5 ≥ n_4)) &&
                                                                                                                    x_8 !=
                                                                                                                      (↑(UInt8.toNat
                                                                                                                            (List.getD (Array.toList (ByteArray.data x)) (Int.toNat n_5)
                                                                                                                              (UInt8.ofBitVec
                                                                                                                                (BitVec.ofFin (Fin.mk 0 (Nat.mod_lt 0 (BitVec.ofNat._proof_1 8))))))) :
                                                                                                                        Int))
                                                                                                                  (K (Value.bool false) w1)
                                                                                                                  (∃ (m : Nat), Nat.succ m ≤ n_6 ∧ I_1 b (IntKind.wrap IntKind.i64 (n_5 + 1)) w1 m))))
                                                                                                    (∃ (m : Nat), Nat.succ m ≤ n_1 ∧ I b (IntKind.wrap IntKind.i64 (n + 1)) w' m)))
                                                                      (Wif (x_6 == 4)
                                                                        (∀ (w1 : World),
                                                                          w1 = World.drew w'_4 →
                                                                            ∃ (x_7 : Int),
                                                                              rd w1 (Array.size (World.heap w'_2)) 1 = some (Value.int IntKind.i64 x_7) ∧
                                                                                ∃ (x_8 : Int),
                                                                                  (decide (x_7 ≥ 0) = true → rd w1 (Array.size (World.heap w'_2)) 1 = some (Value.int IntKind.i64 x_8)) ∧
                                                                                    Wif (decide (x_7 ≥ 0))
                                                                                      (Calls Proofs.Try.prog 17 #[Value.pointer p] w1 fun (e : Ending) (w'_5 : World) =>
                                                                                        ∃ (n_2 : Int),
                                                                                          e = Ending.returned (Value.int IntKind.i64 n_2) ∧
                                                                                            (decide (x_7 ≥ 0) = true →
                                                                                                rd w'_5 (Array.size (World.heap w'_2)) 1 = some (Value.int IntKind.i64 x_8) ∧ True) ∧
                                                                                              ∃ (x_9 : Int),
                                                                                                (decide (x_8 < n_2) = true →
                                                                                                    rd w'_5 (Array.size (World.heap w'_2)) 1 = some (Value.int IntKind.i64 x_9)) ∧
                                                                                                  ∃ (x_10 : Int),
                                                                                                    ((decide (x_8 < n_2) && decide (x_9 < 32)) = true →
                                                                                                        rd w'_5 (Array.size (World.heap w'_2)) 1 = some (Value.int IntKind.i64 x_10)) ∧
                                                                                                      gIf (inB x_10 32) ((decide (x_8 < n_2) && decide (x_9 < 32)) = true)
                                                                                                        (∃ (x_11 : Bool),
                                                                                                          ((decide (x_8 < n_2) && decide (x_9 < 32)) = true →
                                                                                                              rd w'_5 (Array.size (World.heap w')) (0 + Int.toNat x_10 * 1) = some (Value.bool x_11)) ∧
                                                                                                            Wif (decide (x_8 < n_2) && decide (x_9 < 32) && x_11)
                                                                                                              (Calls Proofs.Try.prog 22 #[Value.pointer p] w'_5 fun (e : Ending) (w' : World) =>
                                                                                                                ∃ (a : Option Addr),
                                                                                                                  ∃ (l : Nat),
                                                                                                                    ∃ (c : Nat),
                                                                                                                      e = Ending.returned (Value.slice a l c) ∧
                                                                                                                        ∃ (x_12 : Int),
                                                                                                                          rd w' (Array.size (World.heap w'_2)) 1 = some (Value.int IntKind.i64 x_12) ∧
                                                                                                                            Calls Proofs.Try.prog 20 #[Value.pointer p, Value.int IntKind.i64 x_12] w'
                                                                                                                              fun (e : Ending) (w' : World) =>
                                                                                                                              ∃ (n_3 : Int),
                                                                                                                                ∃ (n_4 : Int),
                                                                                                                                  e =
                                                                                                                                      Ending.returned
                                                                                                                                        (Value.tuple
                                                                                                                                          #[Value.int IntKind.i64 n_3, Value.int IntKind.i64 n_4]) ∧
                                                                                                                                    ∃ (I_1 : Int → World → Nat → Prop),
                                                                                                                                      (∃ (n : Nat), I_1 0 w' n) ∧
                                                                                                                                        ∀ (n_5 : Int) (w' : World) (n_6 : Nat),
                                                                                                                                          I_1 n_5 w' n_6 →
                                                                                                                                            ∃ (x_13 : Option Addr),
                                                                                                                                              ∃ (x_14 : Nat),
                                                                                                                                                ∃ (x_15 : Nat),
                                                                                                                                                  rd w' (Array.size (World.heap w'_2)) 3 =
                                                                                                                                                      some (Value.slice x_13 x_14 x_15) ∧
                                                                                                                                                    Wif
                                                                                                                                                      (decide (n_5 < (↑x_14 : Int)) &&
                                                                                                                                                          decide
                                                                                                                                                            (IntKind.wrap IntKind.i64 (n_3 + n_5) <
                                                                                                                                                              n_4) &&
                                                                                                                                                        decide
                                                                                                                                                          (IntKind.wrap IntKind.i64 (n_3 + n_5) < 256))
                                                                                                                                                      (∃ (x : Option Addr),
                                                                                                                                                        ∃ (x_16 : Nat),
                                                                                                                                                          ∃ (x_17 : Nat),
                                                                                                                                                            rd w' (Array.size (World.heap w'_2)) 3 =
                                                                                                                                                                some (Value.slice x x_16 x_17) ∧
                                                                                                                                                              Wif (isP x)
                                                                                                                                                                (Wif (inB n_5 x_16)
                                                                                                                                                                  (∃ (x_18 : Int),
                                                                                                                                                                    rd w' (pb x)
                                                                                                                                                                          (po x + Int.toNat n_5 * 1) =
                                                                                                                                                                        some
                                                                                                                                                                          (Value.int IntKind.u8 x_18) ∧
                                                                                                                                                                      Wif
                                                                                                                                                                        (inB
                                                                                                                                                                          (IntKind.wrap IntKind.i64
                                                                                                                                                                            (n_3 + n_5))
                                                                                                                                                                          256)
                                                                                                                                                                        (wr w'
                                                                                                                                                                            (Array.size (World.heap w))
                                                                                                                                                                            (0 +
                                                                                                                                                                              Int.toNat
                                                                                                                                                                                  (IntKind.wrap
                                                                                                                                                                                    IntKind.i64
                                                                                                                                                                                    (n_3 + n_5)) *
                                                                                                                                                                                1) ∧
                                                                                                                                                                          ∀ (w'_6 : World),
                                                                                                                                                                            w'_6 =
                                                                                                                                                                                st w'
                                                                                                                                                                                  (Array.size
                                                                                                                                                                                    (World.heap w))
                                                                                                                                                                                  (0 +
                                                                                                                                                                                    Int.toNat
                                                                                                                                                                                        (IntKind.wrap
                                                                                                                                                                                          IntKind.i64
                                                                                                                                                                                          (n_3 + n_5)) *
                                                                                                                                                                                      1)
                                                                                                                                                                                  (Value.int IntKind.u8
                                                                                                                                                                                    x_18) →
                                                                                                                                                                              ∃ (m : Nat),
                                                                                                                                                                                Nat.succ m ≤ n_6 ∧
                                                                                                                                                                                  I_1
                                                                                                                                                                                    (IntKind.wrap
                                                                                                                                                                                      IntKind.i64
                                                                                                                                                                                      (n_5 + 1))
                                                                                                                                                                                    w'_6 m)
                                                                                                                                                                        False)
                                                                                                                                                                  False)
                                                                                                                                                                False)
                                                                                                                                                      (Calls Proofs.Try.prog 22 #[Value.pointer p] w'
                                                                                                                                                        fun (e : Ending) (w' : World) =>
                                                                                                                                                        ∃ (a_1 : Option Addr),
                                                                                                                                                          ∃ (l_1 : Nat),
                                                                                                                                                            ∃ (c : Nat),
                                                                                                                                                              e =
                                                                                                                                                                  Ending.returned
                                                                                                                                                                    (Value.slice a_1 l_1 c) ∧
                                                                                                                                                                Wif ((↑l : Int) != (↑l_1 : Int))
                                                                                                                                                                  (K (Value.bool false) w')
                                                                                                                                                                  (∃ (I_2 :
                                                                                                                                                                    Bool → Int → World → Nat → Prop),
                                                                                                                                                                    (∃ (n : Nat), I_2 b 0 w' n) ∧
                                                                                                                                                                      ∀ (b : Bool) (n_7 : Int)
                                                                                                                                                                        (w' : World) (n_8 : Nat),
                                                                                                                                                                        I_2 b n_7 w' n_8 →
                                                                                                                                                                          Wif
                                                                                                                                                                            (decide (n_7 < (↑l : Int)))
                                                                                                                                                                            (∀ (w1 : World),
                                                                                                                                                                              w1 = World.drew w' →
                                                                                                                                                                                Wif (isP a)
                                                                                                                                                                                  (Wif (inB n_7 l)
                                                                                                                                                                                    (∃ (x : Int),
                                                                                                                                                                                      rd w1 (pb a)
                                                                                                                                                                                            (po a +
                                                                                                                                                                                              Int.toNat
                                                                                                                                                                                                  n_7 *
                                                                                                                                                                                                1) =
                                                                                                                                                                                          some
                                                                                                                                                                                            (Value.int
                                                                                                                                                                                              IntKind.i64
                                                                                                                                                                                              x) ∧
                                                                                                                                                                                        Wif (isP a_1)
                                                                                                                                                                                          (Wif
                                                                                                                                                                                            (inB n_7
                                                                                                                                                                                              l_1)
                                                                                                                                                                                            (∃ (x_16 :
                                                                                                                                                                                              Int),
                                                                                                                                                                                              rd w1
                                                                                                                                                                                                    (pb
                                                                                                                                                                                                      a_1)
                                                                                                                                                                                                    (po
                                                                                                                                                                                                        a_1 +
                                                                                                                                                                                                      Int.toNat
                                                                                                                                                                                                          n_7 *
                                                                                                                                                                                                        1) =
                                                                                                                                                                                                  some
                                                                                                                                                                                                    (Value.int
                                                                                                                                                                                                      IntKind.i64
                                                                                                                                                                                                      x_16) ∧
                                                                                                                                                                                                Wif
                                                                                                                                                                                                  (x !=
                                                                                                                                                                                                    x_16)
                                                                                                                                                                                                  (K
                                                                                                                                                                                                    (Value.bool
                                                                                                                                                                                                      false)
                                                                                                                                                                                                    w1)
                                                                                                                                                                                                  (∃ (m
                                                                                                                                                                                                    :
                                                                                                                                                                                                    Nat),
                                                                                                                                                                                                    Nat.succ
                                                                                                                                                                                                          m ≤
                                                                                                                                                                                                        n_8 ∧
                                                                                                                                                                                                      I_2
                                                                                                                                                                                                        b
                                                                                                                                                                                                        (IntKind.wrap
                                                                                                                                                                                                          IntKind.i64
                                                                                                                                                                                                          (n_7 +
                                                                                                                                                                                                            1))
                                                                                                                                                                                                        w1
                                                                                                                                                                                                        m))
                                                                                                                                                                                            False)
                                                                                                                                                                                          False)
                                                                                                                                                                                    False)
                                                                                                                                                                                  False)
                                                                                                                                                                            (∃ (x_16 : Int),
                                                                                                                                                                              rd w'
                                                                                                                                                                                    (Array.size
                                                                                                                                                                                      (World.heap w'_2))
                                                                                                                                                                                    1 =
                                                                                                                                                                                  some
                                                                                                                                                                                    (Value.int
                                                                                                                                                                                      IntKind.i64
                                                                                                                                                                                      x_16) ∧
                                                                                                                                                                                Calls Proofs.Try.prog 20
                                                                                                                                                                                  #[Value.pointer p,
                                                                                                                                                                                    Value.int
                                                                                                                                                                                      IntKind.i64 x_16]
                                                                                                                                                                                  w'
                                                                                                                                                                                  fun (e : Ending)
                                                                                                                                                                                    (w' : World) =>
                                                                                                                                                                                  ∃ (n_9 : Int),
                                                                                                                                                                                    ∃ (n_10 : Int),
                                                                                                                                                                                      e =
                                                                                                                                                                                          Ending.returned
                                                                                                                                                                                            (Value.tuple
                                                                                                                                                                                              #[Value.int
                                                                                                                                                                                                  IntKind.i64
                                                                                                                                                                                                  n_9,
                                                                                                                                                                                                Value.int
                                                                                                                                                                                                  IntKind.i64
                                                                                                                                                                                                  n_10]) ∧
                                                                                                                                                                                        ∃ (I_3 :
                                                                                                                                                                                          Bool →
                                                                                                                                                                                            Int →
                                                                                                                                                                                              World →
                                                                                                                                                                                                Nat →
                                                                                                                                                                                                  Prop),
                                                                                                                                                                                          (∃ (n : Nat),
                                                                                                                                                                                              I_3 b 0 w'
                                                                                                                                                                                                n) ∧
                                                                                                                                                                                            ∀ (b : Bool)
                                                                                                                                                                                              (n_11 :
                                                                                                                                                                                                Int)
                                                                                                                                                                                              (w' :
                                                                                                                                                                                                World)
                                                                                                                                                                                              (n_12 :
                                                                                                                                                                                                Nat),
                                                                                                                                                                                              I_3 b n_11
                                                                                                                                                                                                  w'
                                                                                                                                                                                                  n_12 →
                                                                                                                                                                                                Wif
                                                                                                                                                                                                  (decide
                                                                                                                                                                                                    (n_11 <
                                                                                                                                                                                                      256))
                                                                                                                                                                                                  (∀
                                                                                                                                                                                                    (w1 :
                                                                                                                                                                                                      World),
                                                                                                                                                                                                    w1 =
                                                                                                                                                                                                        World.drew
                                                                                                                                                                                                          w' →
                                                                                                                                                                                                      gIf
                                                                                                                                                                                                        (inB
                                                                                                                                                                                                          n_11
                                                                                                                                                                                                          256)
                                                                                                                                                                                                        ((decide
                                                                                                                                                                                                              (n_11 <
                                                                                                                                                                                                                n_9) ||
                                                                                                                                                                                                            decide
                                                                                                                                                                                                              (n_11 ≥
                                                                                                                                                                                                                n_10)) =
                                                                                                                                                                                                          true)
                                                                                                                                                                                                        (∃
                                                                                                                                                                                                          (x_17
                                                                                                                                                                                                          :
                                                                                                                                                                                                          Int),
                                                                                                                                                                                                          ((decide
                                                                                                                                                                                                                    (n_11 <
                                                                                                                                                                                                                      n_9) ||
                                                                                                                                                                                                                  decide
                                                                                                                                                                                                                    (n_11 ≥
                                                                                                                                                                                                                      n_10)) =
                                                                                                                                                                                                                true →
                                                                                                                                                                                                              rd
                                                                                                                                                                                                                  w1
                                                                                                                                                                                                                  (Array.size
                                                                                                                                                                                                                    (World.heap
                                                                                                                                                                                                                      w))
                                                                                                                                                                                                                  (0 +
                                                                                                                                                                                                                    Int.toNat
                                                                                                                                                                                                                        n_11 *
                                                                                                                                                                                                                      1) =
                                                                                                                                                                                                                some
                                                                                                                                                                                                                  (Value.int
                                                                                                                                                                                                                    IntKind.u8
                                                                                                                                                                                                                    x_17)) ∧
                                                                                                                                                                                                            gIf
                                                                                                                                                                                                              (inB
                                                                                                                                                                                                                n_11
                                                                                                                                                                                                                (ByteArray.size
                                                                                                                                                                                                                  x))
                                                                                                                                                                                                              ((decide
                                                                                                                                                                                                                    (n_11 <
                                                                                                                                                                                                                      n_9) ||
                                                                                                                                                                                                                  decide
                                                                                                                                                                                                                    (n_11 ≥
                                                                                                                                                                                                                      n_10)) =
                                                                                                                                                                                                                true)
                                                                                                                                                                                                              (Wif
                                                                                                                                                                                                                ((decide
                                                                                                                                                                                                                      (n_11 <
                                                                                                                                                                                                                        n_9) ||
                                                                                                                                                                                                                    decide
                                                                                                                                                                                                                      (n_11 ≥
                                                                                                                                                                                                                        n_10)) &&
                                                                                                                                                                                                                  x_17 !=
                                                                                                                                                                                                                    (↑(UInt8.toNat
                                                                                                                                                                                                                          (List.getD
                                                                                                                                                                                                                            (Array.toList
                                                                                                                                                                                                                              (ByteArray.data
                                                                                                                                                                                                                                x))
                                                                                                                                                                                                                            (Int.toNat
                                                                                                                                                                                                                              n_11)
                                                                                                                                                                                                                            (UInt8.ofBitVec
                                                                                                                                                                                                                              (BitVec.ofFin
                                                                                                                                                                                                                                (Fin.mk
                                                                                                                                                                                                                                  0
                                                                                                                                                                                                                                  (Nat.mod_lt
                                                                                                                                                                                                                                    0
                                                                                                                                                                                                                                    (BitVec.ofNat._proof_1
                                                                                                                                                                                                                                      8))))))) :
                                                                                                                                                                                                                      Int))
                                                                                                                                                                                                                (K
                                                                                                                                                                                                                  (Value.bool
                                                                                                                                                                                                                    false)
                                                                                                                                                                                                                  w1)
                                                                                                                                                                                                                (∃
                                                                                                                                                                                                                  (m
                                                                                                                                                                                                                  :
                                                                                                                                                                                                                  Nat),
                                                                                                                                                                                                                  Nat.succ
                                                                                                                                                                                                                        m ≤
                                                                                                                                                                                                                      n_12 ∧
                                                                                                                                                                                                                    I_3
                                                                                                                                                                                                                      b
                                                                                                                                                                                                                      (IntKind.wrap
                                                                                                                                                                                                                        IntKind.i64
                                                                                                                                                                                                                        (n_11 +
                                                                                                                                                                                                                          1))
                                                                                                                                                                                                                      w1
                                                                                                                                                                                                                      m))))
                                                                                                                                                                                                  (∃ (m
                                                                                                                                                                                                    :
                                                                                                                                                                                                    Nat),
                                                                                                                                                                                                    Nat.succ
                                                                                                                                                                                                          m ≤
                                                                                                                                                                                                        n_1 ∧
                                                                                                                                                                                                      I
                                                                                                                                                                                                        b
                                                                                                                                                                                                        (IntKind.wrap
                                                                                                                                                                                                          IntKind.i64
                                                                                                                                                                                                          (n +
                                                                                                                                                                                                            1))
                                                                                                                                                                                                        w'
                                                                                                                                                                                                        m)))))
                                                                                                              (Calls Proofs.Try.prog 20 #[Value.pointer p, Value.int IntKind.i64 (-1)] w'_5
                                                                                                                fun (e : Ending) (w' : World) =>
                                                                                                                ∃ (n_3 : Int),
                                                                                                                  ∃ (n_4 : Int),
                                                                                                                    e =
                                                                                                                        Ending.returned
                                                                                                                          (Value.tuple #[Value.int IntKind.i64 n_3, Value.int IntKind.i64 n_4]) ∧
                                                                                                                      ∃ (I_1 : Bool → Int → World → Nat → Prop),
                                                                                                                        (∃ (n : Nat), I_1 b 0 w' n) ∧
                                                                                                                          ∀ (b : Bool) (n_5 : Int) (w' : World) (n_6 : Nat),
                                                                                                                            I_1 b n_5 w' n_6 →
                                                                                                                              Wif (decide (n_5 < 256))
                                                                                                                                (∀ (w1 : World),
                                                                                                                                  w1 = World.drew w' →
                                                                                                                                    gIf (inB n_5 256)
                                                                                                                                      ((decide (n_5 < n_3) || decide (n_5 ≥ n_4)) = true)
                                                                                                                                      (∃ (x_12 : Int),
                                                                                                                                        ((decide (n_5 < n_3) || decide (n_5 ≥ n_4)) = true →
                                                                                                                                            rd w1 (Array.size (World.heap w)) (0 + Int.toNat n_5 * 1) =
                                                                                                                                              some (Value.int IntKind.u8 x_12)) ∧
                                                                                                                                          gIf (inB n_5 (ByteArray.size x))
                                                                                                                                            ((decide (n_5 < n_3) || decide (n_5 ≥ n_4)) = true)
                                                                                                                                            (Wif
                                                                                                                                              ((decide (n_5 < n_3) || decide (n_5 ≥ n_4)) &&
                                                                                                                                                x_12 !=
                                                                                                                                                  (↑(UInt8.toNat
                                                                                                                                                        (List.getD (Array.toList (ByteArray.data x))
                                                                                                                                                          (Int.toNat n_5)
                                                                                                                                                          (UInt8.ofBitVec
                                                                                                                                                            (BitVec.ofFin
                                                                                                                                                              (Fin.mk 0
                                                                                                                                                                (Nat.mod_lt 0
                                                                                                                                                                  (BitVec.ofNat._proof_1 8))))))) :
                                                                                                                                                    Int))
                                                                                                                                              (K (Value.bool false) w1)
                                                                                                                                              (∃ (m : Nat),
                                                                                                                                                Nat.succ m ≤ n_6 ∧
                                                                                                                                                  I_1 b (IntKind.wrap IntKind.i64 (n_5 + 1)) w1 m))))
                                                                                                                                (∃ (m : Nat),
                                                                                                                                  Nat.succ m ≤ n_1 ∧ I b (IntKind.wrap IntKind.i64 (n + 1)) w' m))))
                                                                                      ((decide (x_7 ≥ 0) = true → rd w1 (Array.size (World.heap w'_2)) 1 = some (Value.int IntKind.i64 x_8) ∧ True) ∧
                                                                                        Calls Proofs.Try.prog 20 #[Value.pointer p, Value.int IntKind.i64 (-1)] w1 fun (e : Ending) (w' : World) =>
                                                                                          ∃ (n_2 : Int),
                                                                                            ∃ (n_3 : Int),
                                                                                              e = Ending.returned (Value.tuple #[Value.int IntKind.i64 n_2, Value.int IntKind.i64 n_3]) ∧
                                                                                                ∃ (I_1 : Bool → Int → World → Nat → Prop),
                                                                                                  (∃ (n : Nat), I_1 b 0 w' n) ∧
                                                                                                    ∀ (b : Bool) (n_4 : Int) (w' : World) (n_5 : Nat),
                                                                                                      I_1 b n_4 w' n_5 →
                                                                                                        Wif (decide (n_4 < 256))
                                                                                                          (∀ (w1 : World),
                                                                                                            w1 = World.drew w' →
                                                                                                              gIf (inB n_4 256) ((decide (n_4 < n_2) || decide (n_4 ≥ n_3)) = true)
                                                                                                                (∃ (x_9 : Int),
                                                                                                                  ((decide (n_4 < n_2) || decide (n_4 ≥ n_3)) = true →
                                                                                                                      rd w1 (Array.size (World.heap w)) (0 + Int.toNat n_4 * 1) =
                                                                                                                        some (Value.int IntKind.u8 x_9)) ∧
                                                                                                                    gIf (inB n_4 (ByteArray.size x)) ((decide (n_4 < n_2) || decide (n_4 ≥ n_3)) = true)
                                                                                                                      (Wif
                                                                                                                        ((decide (n_4 < n_2) || decide (n_4 ≥ n_3)) &&
                                                                                                                          x_9 !=
                                                                                                                            (↑(UInt8.toNat
                                                                                                                                  (List.getD (Array.toList (ByteArray.data x)) (Int.toNat n_4)
                                                                                                                                    (UInt8.ofBitVec
                                                                                                                                      (BitVec.ofFin
                                                                                                                                        (Fin.mk 0 (Nat.mod_lt 0 (BitVec.ofNat._proof_1 8))))))) :
                                                                                                                              Int))
                                                                                                                        (K (Value.bool false) w1)
                                                                                                                        (∃ (m : Nat),
                                                                                                                          Nat.succ m ≤ n_5 ∧ I_1 b (IntKind.wrap IntKind.i64 (n_4 + 1)) w1 m))))
                                                                                                          (∃ (m : Nat), Nat.succ m ≤ n_1 ∧ I b (IntKind.wrap IntKind.i64 (n + 1)) w' m)))
                                                                        (Calls Proofs.Try.prog 20 #[Value.pointer p, Value.int IntKind.i64 (-1)] w'_4 fun (e : Ending) (w' : World) =>
                                                                          ∃ (n_2 : Int),
                                                                            ∃ (n_3 : Int),
                                                                              e = Ending.returned (Value.tuple #[Value.int IntKind.i64 n_2, Value.int IntKind.i64 n_3]) ∧
                                                                                ∃ (I_1 : Bool → Int → World → Nat → Prop),
                                                                                  (∃ (n : Nat), I_1 b 0 w' n) ∧
                                                                                    ∀ (b : Bool) (n_4 : Int) (w' : World) (n_5 : Nat),
                                                                                      I_1 b n_4 w' n_5 →
                                                                                        Wif (decide (n_4 < 256))
                                                                                          (∀ (w1 : World),
                                                                                            w1 = World.drew w' →
                                                                                              gIf (inB n_4 256) ((decide (n_4 < n_2) || decide (n_4 ≥ n_3)) = true)
                                                                                                (∃ (x_7 : Int),
                                                                                                  ((decide (n_4 < n_2) || decide (n_4 ≥ n_3)) = true →
                                                                                                      rd w1 (Array.size (World.heap w)) (0 + Int.toNat n_4 * 1) = some (Value.int IntKind.u8 x_7)) ∧
                                                                                                    gIf (inB n_4 (ByteArray.size x)) ((decide (n_4 < n_2) || decide (n_4 ≥ n_3)) = true)
                                                                                                      (Wif
                                                                                                        ((decide (n_4 < n_2) || decide (n_4 ≥ n_3)) &&
                                                                                                          x_7 !=
                                                                                                            (↑(UInt8.toNat
                                                                                                                  (List.getD (Array.toList (ByteArray.data x)) (Int.toNat n_4)
                                                                                                                    (UInt8.ofBitVec
                                                                                                                      (BitVec.ofFin (Fin.mk 0 (Nat.mod_lt 0 (BitVec.ofNat._proof_1 8))))))) :
                                                                                                              Int))
                                                                                                        (K (Value.bool false) w1)
                                                                                                        (∃ (m : Nat), Nat.succ m ≤ n_5 ∧ I_1 b (IntKind.wrap IntKind.i64 (n_4 + 1)) w1 m))))
                                                                                          (∃ (m : Nat), Nat.succ m ≤ n_1 ∧ I b (IntKind.wrap IntKind.i64 (n + 1)) w' m)))))
                                  False)
                                False)
                              (Calls Proofs.Try.prog 16 #[] w'_2 fun (e : Ending) (w' : World) => ∃ (b : Bool), e = Ending.returned (Value.bool b) ∧ K (Value.bool b) w'))
theorem vcE4 (size : Int) (colour : Int) (l : Option
  Addr) (lL : Nat) (lC : Nat) (w : World) (K : Value → World → Prop) : vcP4 size colour l lL lC w K = Eng.wBody Go.Proofs.Try.prog (Eng.handOf Go.Proofs.Try.prog [] 1) [] Go.Proofs.Try.f4 (Eng.bodyOf Go.Proofs.Try.f4) [Value.int
    IntKind.i64 size,
  Value.int IntKind.i64 colour, Value.slice l lL lC] w K := by kernel_rfl
theorem vc4 (size : Int) (colour : Int) (l : Option Addr) (lL : Nat) (lC : Nat) (w : World) (K : Value → World → Prop) (h : vcP4 size colour l lL lC w K) :
    Calls Go.Proofs.Try.prog 4 #[Value.int IntKind.i64 size, Value.int IntKind.i64 colour, Value.slice l lL lC] w (fun e w' => ∃ v, e = .returned v ∧ K v w') :=
  Eng.vc_of [] 1 [] Go.Proofs.Try.mixes Go.Proofs.Try.func4 (by kernel_rfl) (by kernel_rfl) (vcE4 size colour l lL lC w K) h

-- 556055 ms

end Go.Proofs.Ytkancagfhbkhiaa
