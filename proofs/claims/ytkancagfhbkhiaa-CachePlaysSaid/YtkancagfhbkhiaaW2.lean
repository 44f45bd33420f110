/-
  A part of a proof that a law of this seat returns true at every input. Conditions: those in each theorem.
-/
import Derived.Test.YtkancagfhbkhiaaW1
set_option linter.unusedSimpArgs false
set_option linter.unusedVariables false
set_option maxRecDepth 100000
namespace Go.Proofs.Ytkancagfhbkhiaa
open Go Go.Eng
/- byre/byrelaw09.CachePartial -/
def vcP9 (size : Int) (n : Int) (l : Option Addr) (lL : Nat) (lC : Nat) (w : World) (K : Value → World → Prop) : Prop :=
  Calls Proofs.Try.prog 35 #[Value.int IntKind.i64 size] w fun (e : Ending) (w' : World) =>
    ∃ (p : Option Addr),
      ∃ (n_1 : Int),
        e = Ending.returned (Value.tuple #[Value.pointer p, Value.int IntKind.i64 n_1]) ∧
          Wif (n_1 != 0 || decide (n < 0) || decide (n > 12) || decide ((↑lL : Int) > 150))
            (Calls Proofs.Try.prog 36 #[] w' fun (e : Ending) (w' : World) => ∃ (b : Bool), e = Ending.returned (Value.bool b) ∧ K (Value.bool b) w')
            (∃ (I : Bool → Int → World → Nat → Prop),
              (∃ (n : Nat), I false 0 w' n) ∧
                ∀ (b : Bool) (n_2 : Int) (w' : World) (n_3 : Nat),
                  I b n_2 w' n_3 →
                    Wif (decide (n_2 < n))
                      (∀ (w'_1 : World),
                        w'_1 = World.alloc w' (Obj.cells (List.toArray (List.replicate 256 (Value.int IntKind.u8 0))) 5) →
                          Calls Proofs.Try.prog 37
                            #[Value.pointer p, Value.int IntKind.i64 (IntKind.wrap IntKind.i64 (IntKind.wrap IntKind.i64 (5 * n_2) + 2)),
                              Value.slice (some (Addr.mk (Array.size (World.heap w')) 0 none)) 256 256]
                            w'_1 fun (e : Ending) (w' : World) =>
                            ∃ (n : Int),
                              e = Ending.returned (Value.int IntKind.i64 n) ∧ Wif (n != 0) (K (Value.bool false) w') (∃ (m : Nat), Nat.succ m ≤ n_3 ∧ I b (IntKind.wrap IntKind.i64 (n_2 + 1)) w' m))
                      (∃ (I : Bool → Int → World → Nat → Prop),
                        (∃ (n : Nat), I b 0 w' n) ∧
                          ∀ (b : Bool) (n : Int) (w' : World) (n_4 : Nat),
                            I b n w' n_4 →
                              Wif (decide (n < (↑lL : Int)))
                                (Wif (isP l)
                                  (Wif (inB n lL)
                                    (∃ (x : Int),
                                      rd w' (pb l) (po l + Int.toNat n * 5) = some (Value.int IntKind.i64 x) ∧
                                        Wif (x != 1)
                                          (∀ (w1 : World),
                                            w1 = World.drew w' →
                                              Wif (isP l)
                                                (Wif (inB n lL)
                                                  (∃ (x : Int),
                                                    rd w1 (pb l) (po l + Int.toNat n * 5 + 1) = some (Value.int IntKind.i64 x) ∧
                                                      Wif (isP l)
                                                        (Wif (inB n lL)
                                                          (∃ (x_1 : Int),
                                                            rd w1 (pb l) (po l + Int.toNat n * 5 + 2) = some (Value.int IntKind.i64 x_1) ∧
                                                              Calls Proofs.Try.prog 38
                                                                #[Value.pointer p,
                                                                  Value.int IntKind.i64
                                                                    (IntKind.wrap IntKind.i64 (IntKind.wrap IntKind.i64 (5 * IntKind.wrap IntKind.i64 (Int.tmod (IntKind.wrap IntKind.u64 x) 12)) + 2)),
                                                                  Value.int IntKind.i64 x_1]
                                                                w1 fun (e : Ending) (w' : World) =>
                                                                ∃ (n_5 : Int),
                                                                  e = Ending.returned (Value.int IntKind.i64 n_5) ∧
                                                                    (rd w' (pb l) (po l + Int.toNat n * 5 + 1) = some (Value.int IntKind.i64 x) ∧ True) ∧
                                                                      ∃ (m : Nat), Nat.succ m ≤ n_4 ∧ I b (IntKind.wrap IntKind.i64 (n + 1)) w' m)
                                                          False)
                                                        False)
                                                  False)
                                                False)
                                          (Calls Proofs.Try.prog 39 #[Value.pointer p] w' fun (e : Ending) (w' : World) =>
                                            ∃ (a : Option Addr),
                                              ∃ (l : Nat),
                                                ∃ (c : Nat),
                                                  e = Ending.returned (Value.slice a l c) ∧
                                                    ∃ (I_1 : Bool → Int → Int → Int → World → Nat → Prop),
                                                      (∃ (n : Nat), I_1 b (-1) (-1) (IntKind.wrap IntKind.i64 ((↑l : Int) - 1)) w' n) ∧
                                                        ∀ (b : Bool) (n_5 n_6 n_7 : Int) (w' : World) (n_8 : Nat),
                                                          I_1 b n_5 n_6 n_7 w' n_8 →
                                                            Wif (decide (n_7 ≥ 0))
                                                              (Wif (isP a)
                                                                (Wif (inB n_7 l)
                                                                  (∃ (x : Int),
                                                                    rd w' (pb a) (po a + Int.toNat n_7 * 1) = some (Value.int IntKind.i64 x) ∧
                                                                      Calls Proofs.Try.prog 40 #[Value.pointer p, Value.int IntKind.i64 x] w' fun (e : Ending) (w' : World) =>
                                                                        ∃ (p : Option Addr),
                                                                          ∃ (n : Int),
                                                                            e = Ending.returned (Value.tuple #[Value.pointer p, Value.int IntKind.i64 n]) ∧
                                                                              Wif (n != 0) (K (Value.bool false) w')
                                                                                (Calls Proofs.Try.prog 18 #[Value.pointer p] w' fun (e : Ending) (w' : World) =>
                                                                                  ∃ (n : Int),
                                                                                    e = Ending.returned (Value.int IntKind.i64 n) ∧
                                                                                      Calls Proofs.Try.prog 17 #[Value.pointer p] w' fun (e : Ending) (w' : World) =>
                                                                                        ∃ (n_9 : Int),
                                                                                          e = Ending.returned (Value.int IntKind.i64 n_9) ∧
                                                                                            Wif (n == n_9)
                                                                                              (Wif (isP a)
                                                                                                (Wif (inB n_7 l)
                                                                                                  (∃ (x : Int),
                                                                                                    rd w' (pb a) (po a + Int.toNat n_7 * 1) = some (Value.int IntKind.i64 x) ∧
                                                                                                      ∃ (m : Nat), Nat.succ m ≤ n_8 ∧ I_1 b n_5 x (IntKind.wrap IntKind.i64 (n_7 - 1)) w' m)
                                                                                                  False)
                                                                                                False)
                                                                                              (Calls Proofs.Try.prog 18 #[Value.pointer p] w' fun (e : Ending) (w' : World) =>
                                                                                                ∃ (n : Int),
                                                                                                  e = Ending.returned (Value.int IntKind.i64 n) ∧
                                                                                                    Wif (decide (n > 0))
                                                                                                      (Wif (isP a)
                                                                                                        (Wif (inB n_7 l)
                                                                                                          (∃ (x : Int),
                                                                                                            rd w' (pb a) (po a + Int.toNat n_7 * 1) = some (Value.int IntKind.i64 x) ∧
                                                                                                              ∃ (m : Nat), Nat.succ m ≤ n_8 ∧ I_1 b x n_6 (IntKind.wrap IntKind.i64 (n_7 - 1)) w' m)
                                                                                                          False)
                                                                                                        False)
                                                                                                      (∃ (m : Nat), Nat.succ m ≤ n_8 ∧ I_1 b n_5 n_6 (IntKind.wrap IntKind.i64 (n_7 - 1)) w' m))))
                                                                  False)
                                                                False)
                                                              (Wif (decide (n_5 < 0))
                                                                (Calls Proofs.Try.prog 41 #[Value.pointer p] w' fun (e : Ending) (w' : World) =>
                                                                  ∃ (n_9 : Int),
                                                                    ∃ (n_10 : Int),
                                                                      ∃ (n_11 : Int),
                                                                        e = Ending.returned (Value.tuple #[Value.int IntKind.i64 n_9, Value.int IntKind.i64 n_10, Value.int IntKind.i64 n_11]) ∧
                                                                          Wif (!(n_11 == 0) == decide (n_6 ≥ 0) || n_11 == 0 && n_9 != n_6) (K (Value.bool false) w')
                                                                            (∃ (m : Nat), Nat.succ m ≤ n_4 ∧ I b (IntKind.wrap IntKind.i64 (n + 1)) w' m))
                                                                (Calls Proofs.Try.prog 41 #[Value.pointer p] w' fun (e : Ending) (w' : World) =>
                                                                  ∃ (n_9 : Int),
                                                                    ∃ (n_10 : Int),
                                                                      ∃ (n_11 : Int),
                                                                        e = Ending.returned (Value.tuple #[Value.int IntKind.i64 n_9, Value.int IntKind.i64 n_10, Value.int IntKind.i64 n_11]) ∧
                                                                          Wif (!(n_11 == 0) == decide (n_5 ≥ 0) || n_11 == 0 && n_9 != n_5) (K (Value.bool false) w')
                                                                            (∃ (m : Nat), Nat.succ m ≤ n_4 ∧ I b (IntKind.wrap IntKind.i64 (n + 1)) w' m)))))
                                    False)
                                  False)
                                (Calls Proofs.Try.prog 36 #[] w' fun (e : Ending) (w' : World) => ∃ (b : Bool), e = Ending.returned (Value.bool b) ∧ K (Value.bool b) w')))
theorem vcE9 (size : Int) (n : Int) (l : Option
  Addr) (lL : Nat) (lC : Nat) (w : World) (K : Value → World → Prop) : vcP9 size n l lL lC w K = Eng.wBody Go.Proofs.Try.prog (Eng.handOf Go.Proofs.Try.prog [] 1) [] Go.Proofs.Try.f9 (Eng.bodyOf Go.Proofs.Try.f9) [Value.int
    IntKind.i64 size,
  Value.int IntKind.i64 n, Value.slice l lL lC] w K := by kernel_rfl
theorem vc9 (size : Int) (n : Int) (l : Option Addr) (lL : Nat) (lC : Nat) (w : World) (K : Value → World → Prop) (h : vcP9 size n l lL lC w K) :
    Calls Go.Proofs.Try.prog 9 #[Value.int IntKind.i64 size, Value.int IntKind.i64 n, Value.slice l lL lC] w (fun e w' => ∃ v, e = .returned v ∧ K v w') :=
  Eng.vc_of [] 1 [] Go.Proofs.Try.mixes Go.Proofs.Try.func9 (by kernel_rfl) (by kernel_rfl) (vcE9 size n l lL lC w K) h

-- 55115 ms
/- byre/byrelaw09.CacheDrops -/
def vcP10 (size : Int) (n : Int) (taken : Int) (back : Int) (frame : Int) (w : World) (K : Value → World → Prop) : Prop :=
  Calls Proofs.Try.prog 35 #[Value.int IntKind.i64 size] w fun (e : Ending) (w' : World) =>
    ∃ (p : Option Addr),
      ∃ (n_1 : Int),
        e = Ending.returned (Value.tuple #[Value.pointer p, Value.int IntKind.i64 n_1]) ∧
          Wif (n_1 != 0 || decide (n < 1) || decide (n > 8) || decide (taken < 0) || decide (taken > 60))
            (Calls Proofs.Try.prog 36 #[] w' fun (e : Ending) (w' : World) => ∃ (b : Bool), e = Ending.returned (Value.bool b) ∧ K (Value.bool b) w')
            (Wif (okMk 8 n n)
              (∀ (w'_1 : World),
                w'_1 = World.alloc w' (Obj.cells (List.toArray (List.replicate (Int.toNat n) (Value.int IntKind.i64 0))) 3) →
                  ∃ (I : Bool → Int → World → Nat → Prop),
                    (∃ (n : Nat), I false 0 w'_1 n) ∧
                      ∀ (b : Bool) (n_2 : Int) (w'_2 : World) (n_3 : Nat),
                        I b n_2 w'_2 n_3 →
                          Wif (decide (n_2 < n))
                            (∀ (w' : World),
                              w' = World.alloc w'_2 (Obj.cells (List.toArray (List.replicate 256 (Value.int IntKind.u8 0))) 5) →
                                Calls Proofs.Try.prog 37 #[Value.pointer p, Value.int IntKind.i64 n_2, Value.slice (some (Addr.mk (Array.size (World.heap w'_2)) 0 none)) 256 256] w'
                                  fun (e : Ending) (w' : World) =>
                                  ∃ (n : Int),
                                    e = Ending.returned (Value.int IntKind.i64 n) ∧
                                      Wif (n != 0) (K (Value.bool false) w') (∃ (m : Nat), Nat.succ m ≤ n_3 ∧ I b (IntKind.wrap IntKind.i64 (n_2 + 1)) w' m))
                            (∃ (I : Bool → Int → World → Nat → Prop),
                              (∃ (n : Nat), I b 0 w'_2 n) ∧
                                ∀ (b : Bool) (n_4 : Int) (w'_3 : World) (n_5 : Nat),
                                  I b n_4 w'_3 n_5 →
                                    Wif (decide (n_4 < taken))
                                      (Calls Proofs.Try.prog 41 #[Value.pointer p] w'_3 fun (e : Ending) (w'_4 : World) =>
                                        ∃ (n_6 : Int),
                                          ∃ (n_7 : Int),
                                            ∃ (n_8 : Int),
                                              e = Ending.returned (Value.tuple #[Value.int IntKind.i64 n_6, Value.int IntKind.i64 n_7, Value.int IntKind.i64 n_8]) ∧
                                                Wif (n_8 != 0)
                                                  (Wif (IntKind.wrap IntKind.u64 n != 0)
                                                    (Calls Proofs.Try.prog 42
                                                      #[Value.pointer p, Value.int IntKind.i64 (IntKind.wrap IntKind.i64 (Int.tmod (IntKind.wrap IntKind.u64 frame) (IntKind.wrap IntKind.u64 n)))] w'_4
                                                      fun (e : Ending) (w'_5 : World) =>
                                                      ∃ (n_9 : Int),
                                                        e = Ending.returned (Value.int IntKind.i64 n_9) ∧
                                                          Wif (inB (IntKind.wrap IntKind.i64 (Int.tmod (IntKind.wrap IntKind.u64 frame) (IntKind.wrap IntKind.u64 n))) (Int.toNat n))
                                                            (∃ (x : Int),
                                                              rd w'_5 (Array.size (World.heap w'))
                                                                    (0 + Int.toNat (IntKind.wrap IntKind.i64 (Int.tmod (IntKind.wrap IntKind.u64 frame) (IntKind.wrap IntKind.u64 n))) * 1) =
                                                                  some (Value.int IntKind.i64 x) ∧
                                                                Wif (!(n_9 == 0) == (x == 0) || n_9 != 0 && n_9 != 80) (K (Value.bool false) w'_5)
                                                                  (∃ (I : Bool → Int → World → Nat → Prop),
                                                                    (∃ (n : Nat), I b 0 w'_5 n) ∧
                                                                      ∀ (b : Bool) (n_10 : Int) (w'_6 : World) (n_11 : Nat),
                                                                        I b n_10 w'_6 n_11 →
                                                                          Wif (decide (n_10 < n))
                                                                            (Calls Proofs.Try.prog 40 #[Value.pointer p, Value.int IntKind.i64 n_10] w'_6 fun (e : Ending) (w'_7 : World) =>
                                                                              ∃ (p : Option Addr),
                                                                                ∃ (n_12 : Int),
                                                                                  e = Ending.returned (Value.tuple #[Value.pointer p, Value.int IntKind.i64 n_12]) ∧
                                                                                    Wif
                                                                                      (n_10 == IntKind.wrap IntKind.i64 (Int.tmod (IntKind.wrap IntKind.u64 frame) (IntKind.wrap IntKind.u64 n)) &&
                                                                                        n_9 == 0)
                                                                                      (Wif (n_12 != 7) (K (Value.bool false) w'_7)
                                                                                        (∃ (m : Nat), Nat.succ m ≤ n_11 ∧ I b (IntKind.wrap IntKind.i64 (n_10 + 1)) w'_7 m))
                                                                                      (∀ (w1 : World),
                                                                                        w1 = World.drew w'_7 →
                                                                                          gIf (inB n_10 (Int.toNat n)) ((n_12 != 0) = false)
                                                                                            (∃ (x : Int),
                                                                                              ((n_12 != 0) = false →
                                                                                                  rd w1 (Array.size (World.heap w')) (0 + Int.toNat n_10 * 1) = some (Value.int IntKind.i64 x)) ∧
                                                                                                Wif (n_12 != 0)
                                                                                                  (((n_12 != 0) = false →
                                                                                                      rd w1 (Array.size (World.heap w')) (0 + Int.toNat n_10 * 1) = some (Value.int IntKind.i64 x) ∧
                                                                                                        True) ∧
                                                                                                    ((n_12 != 0) = false →
                                                                                                        rd w1 (Array.size (World.heap w')) (0 + Int.toNat n_10 * 1) = some (Value.int IntKind.i64 x) ∧
                                                                                                          True) ∧
                                                                                                      K (Value.bool false) w1)
                                                                                                  (Calls Proofs.Try.prog 18 #[Value.pointer p] w1 fun (e : Ending) (w'_8 : World) =>
                                                                                                    ∃ (n : Int),
                                                                                                      e = Ending.returned (Value.int IntKind.i64 n) ∧
                                                                                                        ((n_12 != 0) = false →
                                                                                                            rd w'_8 (Array.size (World.heap w')) (0 + Int.toNat n_10 * 1) =
                                                                                                                some (Value.int IntKind.i64 x) ∧
                                                                                                              True) ∧
                                                                                                          Calls Proofs.Try.prog 17 #[Value.pointer p] w'_8 fun (e : Ending) (w'_9 : World) =>
                                                                                                            ∃ (n_13 : Int),
                                                                                                              e = Ending.returned (Value.int IntKind.i64 n_13) ∧
                                                                                                                ((n_12 != 0) = false →
                                                                                                                    rd w'_9 (Array.size (World.heap w')) (0 + Int.toNat n_10 * 1) =
                                                                                                                        some (Value.int IntKind.i64 x) ∧
                                                                                                                      True) ∧
                                                                                                                  Wif (n != IntKind.wrap IntKind.i64 (n_13 - x)) (K (Value.bool false) w'_9)
                                                                                                                    (∃ (m : Nat),
                                                                                                                      Nat.succ m ≤ n_11 ∧ I b (IntKind.wrap IntKind.i64 (n_10 + 1)) w'_9 m)))))
                                                                            (Calls Proofs.Try.prog 36 #[] w'_6 fun (e : Ending) (w' : World) =>
                                                                              ∃ (b : Bool), e = Ending.returned (Value.bool b) ∧ K (Value.bool b) w')))
                                                            False)
                                                    False)
                                                  (Wif (decide (n_6 < 0) || decide (n_6 ≥ n)) (K (Value.bool false) w'_4)
                                                    (Wif (inB n_6 (Int.toNat n))
                                                      (∃ (x : Int),
                                                        rd w'_4 (Array.size (World.heap w')) (0 + Int.toNat n_6 * 1) = some (Value.int IntKind.i64 x) ∧
                                                          Wif (inB n_6 (Int.toNat n))
                                                            (wr w'_4 (Array.size (World.heap w')) (0 + Int.toNat n_6 * 1) ∧
                                                              ∀ (w'_5 : World),
                                                                w'_5 = st w'_4 (Array.size (World.heap w')) (0 + Int.toNat n_6 * 1) (Value.int IntKind.i64 (IntKind.wrap IntKind.i64 (x + 1))) →
                                                                  Wif (decide (0 ≤ n_4))
                                                                    (Wif (Int.tmod (Int.fdiv back (2 ^ min (Int.toNat n_4) 64)) 2 == 1)
                                                                      (Calls Proofs.Try.prog 38 #[Value.pointer p, Value.int IntKind.i64 n_6, Value.int IntKind.i64 n_7] w'_5
                                                                        fun (e : Ending) (w'_6 : World) =>
                                                                        ∃ (n_9 : Int),
                                                                          e = Ending.returned (Value.int IntKind.i64 n_9) ∧
                                                                            Wif (n_9 != 0) (K (Value.bool false) w'_6)
                                                                              (Wif (inB n_6 (Int.toNat n))
                                                                                (∃ (x : Int),
                                                                                  rd w'_6 (Array.size (World.heap w')) (0 + Int.toNat n_6 * 1) = some (Value.int IntKind.i64 x) ∧
                                                                                    Wif (inB n_6 (Int.toNat n))
                                                                                      (wr w'_6 (Array.size (World.heap w')) (0 + Int.toNat n_6 * 1) ∧
                                                                                        ∀ (w'_7 : World),
                                                                                          w'_7 =
                                                                                              st w'_6 (Array.size (World.heap w')) (0 + Int.toNat n_6 * 1)
                                                                                                (Value.int IntKind.i64 (IntKind.wrap IntKind.i64 (x - 1))) →
                                                                                            ∃ (m : Nat), Nat.succ m ≤ n_5 ∧ I b (IntKind.wrap IntKind.i64 (n_4 + 1)) w'_7 m)
                                                                                      False)
                                                                                False))
                                                                      (∃ (m : Nat), Nat.succ m ≤ n_5 ∧ I b (IntKind.wrap IntKind.i64 (n_4 + 1)) w'_5 m))
                                                                    False)
                                                            False)
                                                      False)))
                                      (Wif (IntKind.wrap IntKind.u64 n != 0)
                                        (Calls Proofs.Try.prog 42
                                          #[Value.pointer p, Value.int IntKind.i64 (IntKind.wrap IntKind.i64 (Int.tmod (IntKind.wrap IntKind.u64 frame) (IntKind.wrap IntKind.u64 n)))] w'_3
                                          fun (e : Ending) (w'_4 : World) =>
                                          ∃ (n_6 : Int),
                                            e = Ending.returned (Value.int IntKind.i64 n_6) ∧
                                              Wif (inB (IntKind.wrap IntKind.i64 (Int.tmod (IntKind.wrap IntKind.u64 frame) (IntKind.wrap IntKind.u64 n))) (Int.toNat n))
                                                (∃ (x : Int),
                                                  rd w'_4 (Array.size (World.heap w'))
                                                        (0 + Int.toNat (IntKind.wrap IntKind.i64 (Int.tmod (IntKind.wrap IntKind.u64 frame) (IntKind.wrap IntKind.u64 n))) * 1) =
                                                      some (Value.int IntKind.i64 x) ∧
                                                    Wif (!(n_6 == 0) == (x == 0) || n_6 != 0 && n_6 != 80) (K (Value.bool false) w'_4)
                                                      (∃ (I : Bool → Int → World → Nat → Prop),
                                                        (∃ (n : Nat), I b 0 w'_4 n) ∧
                                                          ∀ (b : Bool) (n_7 : Int) (w'_5 : World) (n_8 : Nat),
                                                            I b n_7 w'_5 n_8 →
                                                              Wif (decide (n_7 < n))
                                                                (Calls Proofs.Try.prog 40 #[Value.pointer p, Value.int IntKind.i64 n_7] w'_5 fun (e : Ending) (w'_6 : World) =>
                                                                  ∃ (p : Option Addr),
                                                                    ∃ (n_9 : Int),
                                                                      e = Ending.returned (Value.tuple #[Value.pointer p, Value.int IntKind.i64 n_9]) ∧
                                                                        Wif (n_7 == IntKind.wrap IntKind.i64 (Int.tmod (IntKind.wrap IntKind.u64 frame) (IntKind.wrap IntKind.u64 n)) && n_6 == 0)
                                                                          (Wif (n_9 != 7) (K (Value.bool false) w'_6) (∃ (m : Nat), Nat.succ m ≤ n_8 ∧ I b (IntKind.wrap IntKind.i64 (n_7 + 1)) w'_6 m))
                                                                          (∀ (w1 : World),
                                                                            w1 = World.drew w'_6 →
                                                                              gIf (inB n_7 (Int.toNat n)) ((n_9 != 0) = false)
                                                                                (∃ (x : Int),
                                                                                  ((n_9 != 0) = false → rd w1 (Array.size (World.heap w')) (0 + Int.toNat n_7 * 1) = some (Value.int IntKind.i64 x)) ∧
                                                                                    Wif (n_9 != 0)
                                                                                      (((n_9 != 0) = false →
                                                                                          rd w1 (Array.size (World.heap w')) (0 + Int.toNat n_7 * 1) = some (Value.int IntKind.i64 x) ∧ True) ∧
                                                                                        ((n_9 != 0) = false →
                                                                                            rd w1 (Array.size (World.heap w')) (0 + Int.toNat n_7 * 1) = some (Value.int IntKind.i64 x) ∧ True) ∧
                                                                                          K (Value.bool false) w1)
                                                                                      (Calls Proofs.Try.prog 18 #[Value.pointer p] w1 fun (e : Ending) (w'_7 : World) =>
                                                                                        ∃ (n : Int),
                                                                                          e = Ending.returned (Value.int IntKind.i64 n) ∧
                                                                                            ((n_9 != 0) = false →
                                                                                                rd w'_7 (Array.size (World.heap w')) (0 + Int.toNat n_7 * 1) = some (Value.int IntKind.i64 x) ∧ True) ∧
                                                                                              Calls Proofs.Try.prog 17 #[Value.pointer p] w'_7 fun (e : Ending) (w'_8 : World) =>
                                                                                                ∃ (n_10 : Int),
                                                                                                  e = Ending.returned (Value.int IntKind.i64 n_10) ∧
                                                                                                    ((n_9 != 0) = false →
                                                                                                        rd w'_8 (Array.size (World.heap w')) (0 + Int.toNat n_7 * 1) = some (Value.int IntKind.i64 x) ∧
                                                                                                          True) ∧
                                                                                                      Wif (n != IntKind.wrap IntKind.i64 (n_10 - x)) (K (Value.bool false) w'_8)
                                                                                                        (∃ (m : Nat), Nat.succ m ≤ n_8 ∧ I b (IntKind.wrap IntKind.i64 (n_7 + 1)) w'_8 m)))))
                                                                (Calls Proofs.Try.prog 36 #[] w'_5 fun (e : Ending) (w' : World) =>
                                                                  ∃ (b : Bool), e = Ending.returned (Value.bool b) ∧ K (Value.bool b) w')))
                                                False)
                                        False)))
              False)
theorem vcE10 (size : Int) (n : Int) (taken : Int) (back : Int) (frame : Int) (w : World) (K : Value → World → Prop) : vcP10 size n taken back frame w K = Eng.wBody Go.Proofs.Try.prog (Eng.handOf Go.Proofs.Try.prog [] 1) [] Go.Proofs.Try.f10 (Eng.bodyOf Go.Proofs.Try.f10) [Value.int
    IntKind.i64 size,
  Value.int IntKind.i64 n, Value.int IntKind.i64 taken, Value.int IntKind.u64 back, Value.int IntKind.i64 frame] w K := by kernel_rfl
theorem vc10 (size : Int) (n : Int) (taken : Int) (back : Int) (frame : Int) (w : World) (K : Value → World → Prop) (h : vcP10 size n taken back frame w K) :
    Calls Go.Proofs.Try.prog 10 #[Value.int IntKind.i64 size, Value.int IntKind.i64 n, Value.int IntKind.i64 taken, Value.int IntKind.u64 back,
  Value.int IntKind.i64 frame] w (fun e w' => ∃ v, e = .returned v ∧ K v w') :=
  Eng.vc_of [] 1 [] Go.Proofs.Try.mixes Go.Proofs.Try.func10 (by kernel_rfl) (by kernel_rfl) (vcE10 size n taken back frame w K) h

-- 160422 ms
/- byre/byrelaw09.CacheColours -/
def vcP11 (size : Int) (n : Int) (w : World) (K : Value → World → Prop) : Prop :=
  Calls Proofs.Try.prog 35 #[Value.int IntKind.i64 size] w fun (e : Ending) (w' : World) =>
    ∃ (p : Option Addr),
      ∃ (n_1 : Int),
        e = Ending.returned (Value.tuple #[Value.pointer p, Value.int IntKind.i64 n_1]) ∧
          Wif (n_1 != 0 || decide (n < 0) || decide (n > 40))
            (Calls Proofs.Try.prog 43 #[Value.int IntKind.i64 size, Value.int IntKind.i64 0] w' fun (e : Ending) (w' : World) =>
              ∃ (b : Bool),
                e = Ending.returned (Value.bool b) ∧
                  Wif (!(n_1 != 0) == b) (Calls Proofs.Try.prog 36 #[] w' fun (e : Ending) (w' : World) => ∃ (b : Bool), e = Ending.returned (Value.bool b) ∧ K (Value.bool b) w')
                    (K (Value.bool false) w'))
            (Wif (size != 0)
              (∃ (I : Bool → Int → World → Nat → Prop),
                (∃ (n : Nat), I false 0 w' n) ∧
                  ∀ (b : Bool) (n_2 : Int) (w' : World) (n_3 : Nat),
                    I b n_2 w' n_3 →
                      Wif (decide (n_2 < n))
                        (∀ (w'_1 : World),
                          w'_1 = World.alloc w' (Obj.cells (List.toArray (List.replicate 256 (Value.int IntKind.u8 0))) 5) →
                            Calls Proofs.Try.prog 37 #[Value.pointer p, Value.int IntKind.i64 n_2, Value.slice (some (Addr.mk (Array.size (World.heap w')) 0 none)) 256 256] w'_1
                              fun (e : Ending) (w' : World) =>
                              ∃ (n : Int),
                                e = Ending.returned (Value.int IntKind.i64 n) ∧
                                  Wif (n != 0) (K (Value.bool false) w')
                                    (Calls Proofs.Try.prog 40 #[Value.pointer p, Value.int IntKind.i64 n_2] w' fun (e : Ending) (w' : World) =>
                                      ∃ (p : Option Addr),
                                        ∃ (n : Int),
                                          e = Ending.returned (Value.tuple #[Value.pointer p, Value.int IntKind.i64 n]) ∧
                                            ∀ (w1 : World),
                                              w1 = World.drew w' →
                                                gIf (IntKind.wrap IntKind.i64 (IntKind.wrap IntKind.i64 (Int.tdiv (Int.tmod 256 size) 8) + 1) != 0) ((n != 0) = false)
                                                  (Wif (n != 0) (K (Value.bool false) w1)
                                                    (Calls Proofs.Try.prog 24 #[Value.pointer p] w1 fun (e : Ending) (w' : World) =>
                                                      ∃ (n : Int),
                                                        e = Ending.returned (Value.int IntKind.i64 n) ∧
                                                          gIf (size != 0)
                                                            ((n !=
                                                                IntKind.wrap IntKind.i64
                                                                  (Int.tmod n_2 (IntKind.wrap IntKind.i64 (IntKind.wrap IntKind.i64 (Int.tdiv (Int.tmod 256 size) 8) + 1)) * 8)) =
                                                              false)
                                                            (Wif
                                                              (n !=
                                                                IntKind.wrap IntKind.i64 (Int.tmod n_2 (IntKind.wrap IntKind.i64 (IntKind.wrap IntKind.i64 (Int.tdiv (Int.tmod 256 size) 8) + 1)) * 8))
                                                              (K (Value.bool false) w')
                                                              (Calls Proofs.Try.prog 17 #[Value.pointer p] w' fun (e : Ending) (w' : World) =>
                                                                ∃ (n : Int),
                                                                  e = Ending.returned (Value.int IntKind.i64 n) ∧
                                                                    Wif (n != IntKind.wrap IntKind.i64 (Int.tdiv 256 size)) (K (Value.bool false) w')
                                                                      (∃ (m : Nat), Nat.succ m ≤ n_3 ∧ I b (IntKind.wrap IntKind.i64 (n_2 + 1)) w' m)))))))
                        (Calls Proofs.Try.prog 36 #[] w' fun (e : Ending) (w' : World) => ∃ (b : Bool), e = Ending.returned (Value.bool b) ∧ K (Value.bool b) w'))
              False)
theorem vcE11 (size : Int) (n : Int) (w : World) (K : Value → World → Prop) : vcP11 size n w K = Eng.wBody Go.Proofs.Try.prog (Eng.handOf Go.Proofs.Try.prog [] 1) [] Go.Proofs.Try.f11 (Eng.bodyOf Go.Proofs.Try.f11) [Value.int
    IntKind.i64 size,
  Value.int IntKind.i64 n] w K := by kernel_rfl
theorem vc11 (size : Int) (n : Int) (w : World) (K : Value → World → Prop) (h : vcP11 size n w K) :
    Calls Go.Proofs.Try.prog 11 #[Value.int IntKind.i64 size, Value.int IntKind.i64 n] w (fun e w' => ∃ v, e = .returned v ∧ K v w') :=
  Eng.vc_of [] 1 [] Go.Proofs.Try.mixes Go.Proofs.Try.func11 (by kernel_rfl) (by kernel_rfl) (vcE11 size n w K) h

-- 11076 ms
/- byre/byrelaw09.CacheNone -/
def vcP13 (frame : Int) (i : Int) (w : World) (K : Value → World → Prop) : Prop :=
  ∀ (w' : World),
    w' = World.alloc w (Obj.cells #[Value.int IntKind.i64 0, Value.int IntKind.i64 0, Value.map none] 78) →
      ∀ (w'_1 : World),
        w'_1 = World.alloc w' (Obj.cells #[Value.pointer none, Value.pointer (some (Addr.mk (Array.size (World.heap w)) 0 none))] 61) →
          ∃ (I : Bool → Int → World → Nat → Prop),
            (∃ (n : Nat), I false 0 w'_1 n) ∧
              ∀ (b : Bool) (n : Int) (w'_2 : World) (n_1 : Nat),
                I b n w'_2 n_1 →
                  Wif (decide (n < 2))
                    (Wif (inB n 2)
                      (∃ (x : Option Addr),
                        rd w'_2 (Array.size (World.heap w')) (0 + Int.toNat n * 1) = some (Value.pointer x) ∧
                          Calls Proofs.Try.prog 41 #[Value.pointer x] w'_2 fun (e : Ending) (w' : World) =>
                            ∃ (n_2 : Int),
                              ∃ (n_3 : Int),
                                ∃ (n_4 : Int),
                                  e = Ending.returned (Value.tuple #[Value.int IntKind.i64 n_2, Value.int IntKind.i64 n_3, Value.int IntKind.i64 n_4]) ∧
                                    Calls Proofs.Try.prog 40 #[Value.pointer x, Value.int IntKind.i64 frame] w' fun (e : Ending) (w' : World) =>
                                      ∃ (p : Option Addr),
                                        ∃ (n_5 : Int),
                                          e = Ending.returned (Value.tuple #[Value.pointer p, Value.int IntKind.i64 n_5]) ∧
                                            Wif (n_4 != 1 || n_5 != 1) (K (Value.bool false) w')
                                              (∀ (w'_3 : World),
                                                w'_3 = World.alloc w' (Obj.cells (List.toArray (List.replicate 256 (Value.int IntKind.u8 0))) 5) →
                                                  Calls Proofs.Try.prog 37 #[Value.pointer x, Value.int IntKind.i64 frame, Value.slice (some (Addr.mk (Array.size (World.heap w')) 0 none)) 256 256]
                                                    w'_3 fun (e : Ending) (w' : World) =>
                                                    ∃ (n_6 : Int),
                                                      e = Ending.returned (Value.int IntKind.i64 n_6) ∧
                                                        Wif (n_6 != 1) (K (Value.bool false) w')
                                                          (Calls Proofs.Try.prog 38 #[Value.pointer x, Value.int IntKind.i64 frame, Value.int IntKind.i64 i] w' fun (e : Ending) (w' : World) =>
                                                            ∃ (n_7 : Int),
                                                              e = Ending.returned (Value.int IntKind.i64 n_7) ∧
                                                                Wif (n_7 != 1) (K (Value.bool false) w')
                                                                  (Calls Proofs.Try.prog 42 #[Value.pointer x, Value.int IntKind.i64 frame] w' fun (e : Ending) (w' : World) =>
                                                                    ∃ (n_8 : Int),
                                                                      e = Ending.returned (Value.int IntKind.i64 n_8) ∧
                                                                        Wif (n_8 != 1) (K (Value.bool false) w')
                                                                          (Calls Proofs.Try.prog 45 #[Value.pointer x] w' fun (e : Ending) (w' : World) =>
                                                                            ∃ (n_9 : Int),
                                                                              e = Ending.returned (Value.int IntKind.i64 n_9) ∧
                                                                                Wif (n_9 != 0) (K (Value.bool false) w')
                                                                                  (Calls Proofs.Try.prog 39 #[Value.pointer x] w' fun (e : Ending) (w' : World) =>
                                                                                    ∃ (a : Option Addr),
                                                                                      ∃ (l : Nat),
                                                                                        ∃ (c : Nat),
                                                                                          e = Ending.returned (Value.slice a l c) ∧
                                                                                            Calls Proofs.Try.prog 44 #[Value.pointer x] w' fun (e : Ending) (w' : World) =>
                                                                                              ∃ (a : Option Addr),
                                                                                                ∃ (l_1 : Nat),
                                                                                                  ∃ (c : Nat),
                                                                                                    e = Ending.returned (Value.slice a l_1 c) ∧
                                                                                                      Wif (IntKind.wrap IntKind.i64 ((↑l : Int) + (↑l_1 : Int)) != 0) (K (Value.bool false) w')
                                                                                                        (∃ (m : Nat), Nat.succ m ≤ n_1 ∧ I b (IntKind.wrap IntKind.i64 (n + 1)) w' m)))))))
                      False)
                    (Calls Proofs.Try.prog 36 #[] w'_2 fun (e : Ending) (w' : World) => ∃ (b : Bool), e = Ending.returned (Value.bool b) ∧ K (Value.bool b) w')
theorem vcE13 (frame : Int) (i : Int) (w : World) (K : Value → World → Prop) : vcP13 frame i w K = Eng.wBody Go.Proofs.Try.prog (Eng.handOf Go.Proofs.Try.prog [] 1) [] Go.Proofs.Try.f13 (Eng.bodyOf Go.Proofs.Try.f13) [Value.int
    IntKind.i64 frame,
  Value.int IntKind.i64 i] w K := by kernel_rfl
theorem vc13 (frame : Int) (i : Int) (w : World) (K : Value → World → Prop) (h : vcP13 frame i w K) :
    Calls Go.Proofs.Try.prog 13 #[Value.int IntKind.i64 frame, Value.int IntKind.i64 i] w (fun e w' => ∃ v, e = .returned v ∧ K v w') :=
  Eng.vc_of [] 1 [] Go.Proofs.Try.mixes Go.Proofs.Try.func13 (by kernel_rfl) (by kernel_rfl) (vcE13 frame i w K) h

-- 12719 ms
/- byre/byrelaw09.CacheKeeps -/
def vcP12 (size : Int) (n : Int) (l : Option Addr) (lL : Nat) (lC : Nat) (w : World) (K : Value → World → Prop) : Prop :=
  Calls Proofs.Try.prog 35 #[Value.int IntKind.i64 size] w fun (e : Ending) (w' : World) =>
    ∃ (p : Option Addr),
      ∃ (n_1 : Int),
        e = Ending.returned (Value.tuple #[Value.pointer p, Value.int IntKind.i64 n_1]) ∧
          Wif (n_1 != 0 || decide (n < 0) || decide (n > 20) || decide ((↑lL : Int) > 200))
            (Calls Proofs.Try.prog 36 #[] w' fun (e : Ending) (w' : World) => ∃ (b : Bool), e = Ending.returned (Value.bool b) ∧ K (Value.bool b) w')
            (∃ (I : Bool → Int → World → Nat → Prop),
              (∃ (n : Nat), I false 0 w' n) ∧
                ∀ (b : Bool) (n_2 : Int) (w' : World) (n_3 : Nat),
                  I b n_2 w' n_3 →
                    Wif (decide (n_2 < n))
                      (∀ (w'_1 : World),
                        w'_1 = World.alloc w' (Obj.cells (List.toArray (List.replicate 256 (Value.int IntKind.u8 0))) 5) →
                          Calls Proofs.Try.prog 37
                            #[Value.pointer p, Value.int IntKind.i64 (IntKind.wrap IntKind.i64 (3 * n_2)), Value.slice (some (Addr.mk (Array.size (World.heap w')) 0 none)) 256 256] w'_1
                            fun (e : Ending) (w' : World) =>
                            ∃ (n : Int),
                              e = Ending.returned (Value.int IntKind.i64 n) ∧ Wif (n != 0) (K (Value.bool false) w') (∃ (m : Nat), Nat.succ m ≤ n_3 ∧ I b (IntKind.wrap IntKind.i64 (n_2 + 1)) w' m))
                      (∃ (I : Bool → Option Addr → Nat → Nat → Int → World → Nat → Prop),
                        (∃ (n : Nat), I b none 0 0 0 w' n) ∧
                          ∀ (b : Bool) (a : Option Addr) (l_1 c : Nat) (n_4 : Int) (w' : World) (n_5 : Nat),
                            I b a l_1 c n_4 w' n_5 →
                              Wif (decide (n_4 < (↑lL : Int)))
                                (Wif (isP l)
                                  (Wif (inB n_4 lL)
                                    (∃ (x : Int),
                                      rd w' (pb l) (po l + Int.toNat n_4 * 1) = some (Value.int IntKind.i64 x) ∧
                                        Wif (Int.tmod x 3 != 0 || (↑l_1 : Int) == 0)
                                          (Calls Proofs.Try.prog 41 #[Value.pointer p] w' fun (e : Ending) (w' : World) =>
                                            ∃ (n_6 : Int),
                                              ∃ (n_7 : Int),
                                                ∃ (n_8 : Int),
                                                  e = Ending.returned (Value.tuple #[Value.int IntKind.i64 n_6, Value.int IntKind.i64 n_7, Value.int IntKind.i64 n_8]) ∧
                                                    Wif (n_8 != 0)
                                                      (gIf (size != 0) ((n_8 != 7) = false)
                                                        (Wif (n_8 != 7 || (↑l_1 : Int) != IntKind.wrap IntKind.i64 (n * IntKind.wrap IntKind.i64 (Int.tdiv 256 size))) (K (Value.bool false) w')
                                                          (∃ (m : Nat), Nat.succ m ≤ n_5 ∧ I b a l_1 c (IntKind.wrap IntKind.i64 (n_4 + 1)) w' m)))
                                                      (∃ (I_1 : Bool → Int → World → Nat → Prop),
                                                        (∃ (n : Nat), I_1 b 0 w' n) ∧
                                                          ∀ (b : Bool) (n : Int) (w' : World) (n_9 : Nat),
                                                            I_1 b n w' n_9 →
                                                              Wif (decide (n < (↑l_1 : Int)))
                                                                (Wif (isP a)
                                                                  (Wif (inB n l_1)
                                                                    (∃ (x : Int),
                                                                      ∃ (x_1 : Int),
                                                                        (rd w' (pb a) (po a + Int.toNat n * 2) = some (Value.int IntKind.i64 x) ∧
                                                                            rd w' (pb a) (po a + Int.toNat n * 2 + 1) = some (Value.int IntKind.i64 x_1)) ∧
                                                                          Wif (x == n_6 && (x_1 == n_7 && true)) (K (Value.bool false) w')
                                                                            (∃ (m : Nat), Nat.succ m ≤ n_9 ∧ I_1 b (IntKind.wrap IntKind.i64 (n + 1)) w' m))
                                                                    False)
                                                                  False)
                                                                (∀ (w'_1 : World),
                                                                  w'_1 = World.alloc w' (Obj.cells #[Value.int IntKind.i64 n_6, Value.int IntKind.i64 n_7] 74) →
                                                                    ∃ (a_1 : Option Addr),
                                                                      ∃ (l : Nat),
                                                                        ∃ (c_1 : Nat),
                                                                          ∃ (w'_2 : World),
                                                                            appIs Proofs.Try.prog #[73, 73] 73 (Value.slice a l_1 c)
                                                                                (Value.slice (some (Addr.mk (Array.size (World.heap w')) 0 none)) 1 1) (Value.slice a_1 l c_1) w'_1 w'_2 ∧
                                                                              ∃ (m : Nat), Nat.succ m ≤ n_5 ∧ I b a_1 l c_1 (IntKind.wrap IntKind.i64 (n_4 + 1)) w'_2 m)))
                                          (Wif (isP l)
                                            (Wif (inB n_4 lL)
                                              (∃ (x : Int),
                                                rd w' (pb l) (po l + Int.toNat n_4 * 1) = some (Value.int IntKind.i64 x) ∧
                                                  Wif (IntKind.wrap IntKind.u64 (↑l_1 : Int) != 0)
                                                    (∀ (w1 : World),
                                                      w1 = World.drew w' →
                                                        Wif (isP a)
                                                          (Wif (inB (IntKind.wrap IntKind.i64 (Int.tmod (IntKind.wrap IntKind.u64 x) (IntKind.wrap IntKind.u64 (↑l_1 : Int)))) l_1)
                                                            (∃ (x_1 : Int),
                                                              rd w1 (pb a)
                                                                    (po a + Int.toNat (IntKind.wrap IntKind.i64 (Int.tmod (IntKind.wrap IntKind.u64 x) (IntKind.wrap IntKind.u64 (↑l_1 : Int)))) * 2) =
                                                                  some (Value.int IntKind.i64 x_1) ∧
                                                                Wif (isP a)
                                                                  (Wif (inB (IntKind.wrap IntKind.i64 (Int.tmod (IntKind.wrap IntKind.u64 x) (IntKind.wrap IntKind.u64 (↑l_1 : Int)))) l_1)
                                                                    (∃ (x_2 : Int),
                                                                      rd w1 (pb a)
                                                                            (po a +
                                                                                Int.toNat (IntKind.wrap IntKind.i64 (Int.tmod (IntKind.wrap IntKind.u64 x) (IntKind.wrap IntKind.u64 (↑l_1 : Int)))) *
                                                                                  2 +
                                                                              1) =
                                                                          some (Value.int IntKind.i64 x_2) ∧
                                                                        Calls Proofs.Try.prog 38 #[Value.pointer p, Value.int IntKind.i64 x_1, Value.int IntKind.i64 x_2] w1
                                                                          fun (e : Ending) (w' : World) =>
                                                                          ∃ (n : Int),
                                                                            e = Ending.returned (Value.int IntKind.i64 n) ∧
                                                                              gIf (isP a) ((n != 0) = false)
                                                                                (gIf
                                                                                  (inB (IntKind.wrap IntKind.i64 (Int.tmod (IntKind.wrap IntKind.u64 x) (IntKind.wrap IntKind.u64 (↑l_1 : Int)))) l_1)
                                                                                  ((n != 0) = false)
                                                                                  (∃ (x_3 : Int),
                                                                                    ((n != 0) = false →
                                                                                        rd w' (pb a)
                                                                                            (po a +
                                                                                              Int.toNat
                                                                                                  (IntKind.wrap IntKind.i64
                                                                                                    (Int.tmod (IntKind.wrap IntKind.u64 x) (IntKind.wrap IntKind.u64 (↑l_1 : Int)))) *
                                                                                                2) =
                                                                                          some (Value.int IntKind.i64 x_3)) ∧
                                                                                      gIf (isP a) ((n != 0) = false)
                                                                                        (gIf
                                                                                          (inB
                                                                                            (IntKind.wrap IntKind.i64 (Int.tmod (IntKind.wrap IntKind.u64 x) (IntKind.wrap IntKind.u64 (↑l_1 : Int))))
                                                                                            l_1)
                                                                                          ((n != 0) = false)
                                                                                          (∃ (x_4 : Int),
                                                                                            ((n != 0) = false →
                                                                                                rd w' (pb a)
                                                                                                    (po a +
                                                                                                        Int.toNat
                                                                                                            (IntKind.wrap IntKind.i64
                                                                                                              (Int.tmod (IntKind.wrap IntKind.u64 x) (IntKind.wrap IntKind.u64 (↑l_1 : Int)))) *
                                                                                                          2 +
                                                                                                      1) =
                                                                                                  some (Value.int IntKind.i64 x_4)) ∧
                                                                                              Wif (n != 0) (K (Value.bool false) w')
                                                                                                (Calls Proofs.Try.prog 38 #[Value.pointer p, Value.int IntKind.i64 x_3, Value.int IntKind.i64 x_4] w'
                                                                                                  fun (e : Ending) (w' : World) =>
                                                                                                  ∃ (n : Int),
                                                                                                    e = Ending.returned (Value.int IntKind.i64 n) ∧
                                                                                                      Wif (n != 8) (K (Value.bool false) w')
                                                                                                        (∀ (w1 : World),
                                                                                                          w1 = World.drew w' →
                                                                                                            Wif
                                                                                                              (okSl 0
                                                                                                                (IntKind.wrap IntKind.i64
                                                                                                                  (Int.tmod (IntKind.wrap IntKind.u64 x) (IntKind.wrap IntKind.u64 (↑l_1 : Int))))
                                                                                                                (↑c : Int))
                                                                                                              (Wif
                                                                                                                (okSl
                                                                                                                  (IntKind.wrap IntKind.i64
                                                                                                                    (IntKind.wrap IntKind.i64
                                                                                                                        (Int.tmod (IntKind.wrap IntKind.u64 x)
                                                                                                                          (IntKind.wrap IntKind.u64 (↑l_1 : Int))) +
                                                                                                                      1))
                                                                                                                  (↑l_1 : Int) (↑c : Int))
                                                                                                                (∀ (w' : World),
                                                                                                                  w' = World.alloc w1 (Obj.cells #[] 74) →
                                                                                                                    ∃ (a_1 : Option Addr),
                                                                                                                      ∃ (l : Nat),
                                                                                                                        ∃ (c_1 : Nat),
                                                                                                                          ∃ (w'_1 : World),
                                                                                                                            appIs Proofs.Try.prog #[73, 73] 73
                                                                                                                                (Value.slice (some (Addr.mk (Array.size (World.heap w1)) 0 none)) 0 0)
                                                                                                                                (Value.slice a
                                                                                                                                  (Int.toNat
                                                                                                                                    (IntKind.wrap IntKind.i64
                                                                                                                                      (Int.tmod (IntKind.wrap IntKind.u64 x)
                                                                                                                                        (IntKind.wrap IntKind.u64 (↑l_1 : Int)))))
                                                                                                                                  c)
                                                                                                                                (Value.slice a_1 l c_1) w' w'_1 ∧
                                                                                                                              ∃ (a_2 : Option Addr),
                                                                                                                                ∃ (l_2 : Nat),
                                                                                                                                  ∃ (c_2 : Nat),
                                                                                                                                    ∃ (w' : World),
                                                                                                                                      appIs Proofs.Try.prog #[73, 73] 73 (Value.slice a_1 l c_1)
                                                                                                                                          (Value.slice
                                                                                                                                            (offA a c
                                                                                                                                              (Int.toNat
                                                                                                                                                (IntKind.wrap IntKind.i64
                                                                                                                                                  (IntKind.wrap IntKind.i64
                                                                                                                                                      (Int.tmod (IntKind.wrap IntKind.u64 x)
                                                                                                                                                        (IntKind.wrap IntKind.u64 (↑l_1 : Int))) +
                                                                                                                                                    1)))
                                                                                                                                              2)
                                                                                                                                            (l_1 -
                                                                                                                                              Int.toNat
                                                                                                                                                (IntKind.wrap IntKind.i64
                                                                                                                                                  (IntKind.wrap IntKind.i64
                                                                                                                                                      (Int.tmod (IntKind.wrap IntKind.u64 x)
                                                                                                                                                        (IntKind.wrap IntKind.u64 (↑l_1 : Int))) +
                                                                                                                                                    1)))
                                                                                                                                            (c -
                                                                                                                                              Int.toNat
                                                                                                                                                (IntKind.wrap IntKind.i64
                                                                                                                                                  (IntKind.wrap IntKind.i64
                                                                                                                                                      (Int.tmod (IntKind.wrap IntKind.u64 x)
                                                                                                                                                        (IntKind.wrap IntKind.u64 (↑l_1 : Int))) +
                                                                                                                                                    1))))
                                                                                                                                          (Value.slice a_2 l_2 c_2) w'_1 w' ∧
                                                                                                                                        ∃ (m : Nat),
                                                                                                                                          Nat.succ m ≤ n_5 ∧
                                                                                                                                            I b a_2 l_2 c_2 (IntKind.wrap IntKind.i64 (n_4 + 1)) w' m)
                                                                                                                False)
                                                                                                              False)))))))
                                                                    False)
                                                                  False)
                                                            False)
                                                          False)
                                                    False)
                                              False)
                                            False))
                                    False)
                                  False)
                                (∃ (I : Bool → Int → World → Nat → Prop),
                                  (∃ (n : Nat), I b 0 w' n) ∧
                                    ∀ (b : Bool) (n_6 : Int) (w' : World) (n_7 : Nat),
                                      I b n_6 w' n_7 →
                                        Wif (decide (n_6 < (↑l_1 : Int)))
                                          (∀ (w1 : World),
                                            w1 = World.drew w' →
                                              Wif (isP a)
                                                (Wif (inB n_6 l_1)
                                                  (∃ (x : Int),
                                                    rd w1 (pb a) (po a + Int.toNat n_6 * 2) = some (Value.int IntKind.i64 x) ∧
                                                      Wif (isP a)
                                                        (Wif (inB n_6 l_1)
                                                          (∃ (x_1 : Int),
                                                            rd w1 (pb a) (po a + Int.toNat n_6 * 2 + 1) = some (Value.int IntKind.i64 x_1) ∧
                                                              Calls Proofs.Try.prog 38 #[Value.pointer p, Value.int IntKind.i64 x, Value.int IntKind.i64 x_1] w1 fun (e : Ending) (w' : World) =>
                                                                ∃ (n : Int),
                                                                  e = Ending.returned (Value.int IntKind.i64 n) ∧
                                                                    Wif (n != 0) (K (Value.bool false) w') (∃ (m : Nat), Nat.succ m ≤ n_7 ∧ I b (IntKind.wrap IntKind.i64 (n_6 + 1)) w' m))
                                                          False)
                                                        False)
                                                  False)
                                                False)
                                          (Calls Proofs.Try.prog 44 #[Value.pointer p] w' fun (e : Ending) (w' : World) =>
                                            ∃ (a : Option Addr),
                                              ∃ (l : Nat),
                                                ∃ (c : Nat),
                                                  e = Ending.returned (Value.slice a l c) ∧
                                                    Wif ((↑l : Int) != n) (K (Value.bool false) w')
                                                      (∃ (I : Bool → Int → World → Nat → Prop),
                                                        (∃ (n : Nat), I b 0 w' n) ∧
                                                          ∀ (b : Bool) (n : Int) (w' : World) (n_8 : Nat),
                                                            I b n w' n_8 →
                                                              Wif (decide (n < (↑l : Int)))
                                                                (Wif (isP a)
                                                                  (Wif (inB n l)
                                                                    (∃ (x : Int),
                                                                      rd w' (pb a) (po a + Int.toNat n * 1) = some (Value.int IntKind.i64 x) ∧
                                                                        Calls Proofs.Try.prog 42 #[Value.pointer p, Value.int IntKind.i64 x] w' fun (e : Ending) (w' : World) =>
                                                                          ∃ (n_9 : Int),
                                                                            e = Ending.returned (Value.int IntKind.i64 n_9) ∧
                                                                              Wif (n_9 != 0) (K (Value.bool false) w') (∃ (m : Nat), Nat.succ m ≤ n_8 ∧ I b (IntKind.wrap IntKind.i64 (n + 1)) w' m))
                                                                    False)
                                                                  False)
                                                                (Calls Proofs.Try.prog 41 #[Value.pointer p] w' fun (e : Ending) (w' : World) =>
                                                                  ∃ (n : Int),
                                                                    ∃ (n_9 : Int),
                                                                      ∃ (n_10 : Int),
                                                                        e = Ending.returned (Value.tuple #[Value.int IntKind.i64 n, Value.int IntKind.i64 n_9, Value.int IntKind.i64 n_10]) ∧
                                                                          Wif (n_10 == 7)
                                                                            (Calls Proofs.Try.prog 39 #[Value.pointer p] w' fun (e : Ending) (w' : World) =>
                                                                              ∃ (a : Option Addr),
                                                                                ∃ (l : Nat),
                                                                                  ∃ (c : Nat),
                                                                                    e = Ending.returned (Value.slice a l c) ∧
                                                                                      Wif ((↑l : Int) == 0)
                                                                                        (Calls Proofs.Try.prog 36 #[] w' fun (e : Ending) (w' : World) =>
                                                                                          ∃ (b : Bool), e = Ending.returned (Value.bool b) ∧ K (Value.bool b) w')
                                                                                        (K (Value.bool false) w'))
                                                                            (K (Value.bool false) w')))))))
theorem vcE12 (size : Int) (n : Int) (l : Option
  Addr) (lL : Nat) (lC : Nat) (w : World) (K : Value → World → Prop) : vcP12 size n l lL lC w K = Eng.wBody Go.Proofs.Try.prog (Eng.handOf Go.Proofs.Try.prog [] 1) [] Go.Proofs.Try.f12 (Eng.bodyOf Go.Proofs.Try.f12) [Value.int
    IntKind.i64 size,
  Value.int IntKind.i64 n, Value.slice l lL lC] w K := by kernel_rfl
theorem vc12 (size : Int) (n : Int) (l : Option Addr) (lL : Nat) (lC : Nat) (w : World) (K : Value → World → Prop) (h : vcP12 size n l lL lC w K) :
    Calls Go.Proofs.Try.prog 12 #[Value.int IntKind.i64 size, Value.int IntKind.i64 n, Value.slice l lL lC] w (fun e w' => ∃ v, e = .returned v ∧ K v w') :=
  Eng.vc_of [] 1 [] Go.Proofs.Try.mixes Go.Proofs.Try.func12 (by kernel_rfl) (by kernel_rfl) (vcE12 size n l lL lC w K) h

-- 140475 ms

end Go.Proofs.Ytkancagfhbkhiaa
