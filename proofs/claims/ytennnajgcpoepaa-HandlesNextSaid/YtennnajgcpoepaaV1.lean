/-
  Printed by a program of this claim's author: the conditions of the seat's functions, each with the kernel's word that it is the engine's. Conditions: none.
-/
import Derived.Test.YtennnajgcpoepaaEngJ
import Derived.Test.YtennnajgcpoepaaProg
import Derived.KernelRfl
namespace Go.Proofs
theorem Try.mixes : Try.prog.follows .mixedOrders = true := by kernel_rfl
end Go.Proofs
namespace Go.Proofs.Ytennnajgcpoepaa
open Go Go.Eng
/- (byre/handles.field).from -/
def vcP12 (f : Int) (w : World) (K : Value → World → Prop) : Prop :=
  Wif (inB f 3) (∃ (x : Int), [Value.int IntKind.u64 0, Value.int IntKind.u64 5, Value.int IntKind.u64 15][Int.toNat f * 1]? = some (Value.int IntKind.u64 x) ∧ K (Value.int IntKind.u64 x) w) False
theorem vcE12 (f : Int) (w : World) (K : Value → World → Prop) : vcP12 f w K = Eng.wBody Go.Proofs.Try.prog (Eng.handOf Go.Proofs.Try.prog [12,
 14] 1) [] Go.Proofs.Try.f12 (Eng.bodyOf Go.Proofs.Try.f12) [Value.int IntKind.i64 f] w K := by kernel_rfl
theorem vc12 (f : Int) (w : World) (K : Value → World → Prop) (h : vcP12 f w K) :
    Calls Go.Proofs.Try.prog 12 #[Value.int IntKind.i64 f] w (fun e w' => ∃ v, e = .returned v ∧ K v w') :=
  Eng.vc_of [12, 14] 1 [] Go.Proofs.Try.mixes Go.Proofs.Try.func12 (by kernel_rfl) (by kernel_rfl) (vcE12 f w K) h

/- (byre/handles.field).of -/
def vcP13 (f : Int) (h' : Int) (w : World) (K : Value → World → Prop) : Prop :=
  Wif (inB f 3)
    (∃ (x : Int),
      [Value.int IntKind.u64 0, Value.int IntKind.u64 5, Value.int IntKind.u64 15][Int.toNat f * 1]? = some (Value.int IntKind.u64 x) ∧
        Wif (decide (0 ≤ x))
          (Wif (inB f 3)
            (∃ (x_1 : Int),
              [Value.int IntKind.u64 5, Value.int IntKind.u64 10, Value.int IntKind.u64 49][Int.toNat f * 1]? = some (Value.int IntKind.u64 x_1) ∧
                Wif (decide (0 ≤ x_1))
                  (K
                    (Value.int IntKind.u64
                      (bitsI BinOp.and IntKind.u64 (Int.fdiv h' (2 ^ min (Int.toNat x) 64)) (IntKind.wrap IntKind.u64 (IntKind.wrap IntKind.u64 (1 * 2 ^ min (Int.toNat x_1) 64) - 1))))
                    w)
                  False)
            False)
          False)
    False
theorem vcE13 (f : Int) (h' : Int) (w : World) (K : Value → World → Prop) : vcP13 f h' w K = Eng.wBody Go.Proofs.Try.prog (Eng.handOf Go.Proofs.Try.prog [12,
 14] 1) [] Go.Proofs.Try.f13 (Eng.bodyOf Go.Proofs.Try.f13) [Value.int IntKind.i64 f, Value.int IntKind.u64 h'] w K := by kernel_rfl
theorem vc13 (f : Int) (h' : Int) (w : World) (K : Value → World → Prop) (h : vcP13 f h' w K) :
    Calls Go.Proofs.Try.prog 13 #[Value.int IntKind.i64 f, Value.int IntKind.u64 h'] w (fun e w' => ∃ v, e = .returned v ∧ K v w') :=
  Eng.vc_of [12, 14] 1 [] Go.Proofs.Try.mixes Go.Proofs.Try.func13 (by kernel_rfl) (by kernel_rfl) (vcE13 f h' w K) h

/- (byre/handles.field).width -/
def vcP14 (f : Int) (w : World) (K : Value → World → Prop) : Prop :=
  Wif (inB f 3) (∃ (x : Int), [Value.int IntKind.u64 5, Value.int IntKind.u64 10, Value.int IntKind.u64 49][Int.toNat f * 1]? = some (Value.int IntKind.u64 x) ∧ K (Value.int IntKind.u64 x) w) False
theorem vcE14 (f : Int) (w : World) (K : Value → World → Prop) : vcP14 f w K = Eng.wBody Go.Proofs.Try.prog (Eng.handOf Go.Proofs.Try.prog [12,
 14] 1) [] Go.Proofs.Try.f14 (Eng.bodyOf Go.Proofs.Try.f14) [Value.int IntKind.i64 f] w K := by kernel_rfl
theorem vc14 (f : Int) (w : World) (K : Value → World → Prop) (h : vcP14 f w K) :
    Calls Go.Proofs.Try.prog 14 #[Value.int IntKind.i64 f] w (fun e w' => ∃ v, e = .returned v ∧ K v w') :=
  Eng.vc_of [12, 14] 1 [] Go.Proofs.Try.mixes Go.Proofs.Try.func14 (by kernel_rfl) (by kernel_rfl) (vcE14 f w K) h

/- byre/handles.Make -/
def vcP7 (t : Int) (o0 : Int) (o1 : Int) (w : World) (K : Value → World → Prop) : Prop :=
  ∀ (w' : World),
    w' = World.alloc w (Obj.cells #[Value.int IntKind.i64 o0, Value.int IntKind.i64 o1] 24) →
      ∃ (x : Int),
        ((decide (t < 1) || decide (t > 1099511627776)) = false → rd w' (Array.size (World.heap w)) 0 = some (Value.int IntKind.i64 x)) ∧
          ∃ (x_1 : Int),
            ((decide (t < 1) || decide (t > 1099511627776) || decide (x < 0)) = false → rd w' (Array.size (World.heap w)) 0 = some (Value.int IntKind.i64 x_1)) ∧
              ∃ (x_2 : Int),
                ((decide (t < 1) || decide (t > 1099511627776) || decide (x < 0) || decide (x_1 ≥ 1024)) = false → rd w' (Array.size (World.heap w)) 1 = some (Value.int IntKind.i64 x_2)) ∧
                  ∃ (x_3 : Int),
                    ((decide (t < 1) || decide (t > 1099511627776) || decide (x < 0) || decide (x_1 ≥ 1024) || decide (x_2 < 0)) = false →
                        rd w' (Array.size (World.heap w)) 1 = some (Value.int IntKind.i64 x_3)) ∧
                      Wif (decide (t < 1) || decide (t > 1099511627776) || decide (x < 0) || decide (x_1 ≥ 1024) || decide (x_2 < 0) || decide (x_3 ≥ 32))
                        (K (Value.tuple #[Value.int IntKind.u64 0, Value.int IntKind.i64 2]) w')
                        (∀ (w1 : World),
                          w1 = World.drew w' →
                            ∃ (x : Int),
                              rd w1 (Array.size (World.heap w)) 0 = some (Value.int IntKind.i64 x) ∧
                                ∃ (x_4 : Int),
                                  rd w1 (Array.size (World.heap w)) 1 = some (Value.int IntKind.i64 x_4) ∧
                                    ∃ (x_5 : Int),
                                      some (Value.int IntKind.u64 15) = some (Value.int IntKind.u64 x_5) ∧
                                        (rd w1 (Array.size (World.heap w)) 1 = some (Value.int IntKind.i64 x_4) ∧ True) ∧
                                          (rd w1 (Array.size (World.heap w)) 0 = some (Value.int IntKind.i64 x) ∧ True) ∧
                                            Wif (decide (0 ≤ x_5))
                                              (∃ (x_6 : Int),
                                                some (Value.int IntKind.u64 5) = some (Value.int IntKind.u64 x_6) ∧
                                                  (rd w1 (Array.size (World.heap w)) 1 = some (Value.int IntKind.i64 x_4) ∧ True) ∧
                                                    (rd w1 (Array.size (World.heap w)) 0 = some (Value.int IntKind.i64 x) ∧ True) ∧
                                                      Wif (decide (0 ≤ x_6))
                                                        (∃ (x_7 : Int),
                                                          some (Value.int IntKind.u64 0) = some (Value.int IntKind.u64 x_7) ∧
                                                            (rd w1 (Array.size (World.heap w)) 1 = some (Value.int IntKind.i64 x_4) ∧ True) ∧
                                                              (rd w1 (Array.size (World.heap w)) 0 = some (Value.int IntKind.i64 x) ∧ True) ∧
                                                                Wif (decide (0 ≤ x_7))
                                                                  (K
                                                                    (Value.tuple
                                                                      #[Value.int IntKind.u64
                                                                          (bitsI BinOp.or IntKind.u64
                                                                            (bitsI BinOp.or IntKind.u64 (IntKind.wrap IntKind.u64 (t * 2 ^ min (Int.toNat x_5) 64))
                                                                              (IntKind.wrap IntKind.u64 (IntKind.wrap IntKind.u64 x * 2 ^ min (Int.toNat x_6) 64)))
                                                                            (IntKind.wrap IntKind.u64 (IntKind.wrap IntKind.u64 x_4 * 2 ^ min (Int.toNat x_7) 64))),
                                                                        Value.int IntKind.i64 0])
                                                                    w1)
                                                                  False)
                                                        False)
                                              False)
theorem vcE7 (t : Int) (o0 : Int) (o1 : Int) (w : World) (K : Value → World → Prop) : vcP7 t o0 o1 w K = Eng.wBody Go.Proofs.Try.prog (Eng.handOf Go.Proofs.Try.prog [12,
 14] 1) [] Go.Proofs.Try.f7 (Eng.bodyOf Go.Proofs.Try.f7) [Value.int IntKind.u64 t, Value.agg #[Value.int IntKind.i64 o0, Value.int IntKind.i64 o1]] w K := by kernel_rfl
theorem vc7 (t : Int) (o0 : Int) (o1 : Int) (w : World) (K : Value → World → Prop) (h : vcP7 t o0 o1 w K) :
    Calls Go.Proofs.Try.prog 7 #[Value.int IntKind.u64 t, Value.agg #[Value.int IntKind.i64 o0, Value.int IntKind.i64 o1]] w (fun e w' => ∃ v, e = .returned v ∧ K v w') :=
  Eng.vc_of [12, 14] 1 [] Go.Proofs.Try.mixes Go.Proofs.Try.func7 (by kernel_rfl) (by kernel_rfl) (vcE7 t o0 o1 w K) h

/- byre/byreref12.Make -/
def vcP8 (turn : Int) (o0 : Int) (o1 : Int) (w : World) (K : Value → World → Prop) : Prop :=
  ∀ (w' : World),
    w' = World.alloc w (Obj.cells #[Value.int IntKind.i64 o0, Value.int IntKind.i64 o1] 24) →
      ∃ (x : Int),
        ((decide (turn < 1) || decide (turn > 1099511627776)) = false → rd w' (Array.size (World.heap w)) 0 = some (Value.int IntKind.i64 x)) ∧
          ∃ (x_1 : Int),
            ((decide (turn < 1) || decide (turn > 1099511627776) || decide (x < 0)) = false → rd w' (Array.size (World.heap w)) 0 = some (Value.int IntKind.i64 x_1)) ∧
              ∃ (x_2 : Int),
                ((decide (turn < 1) || decide (turn > 1099511627776) || decide (x < 0) || decide (x_1 > 1023)) = false → rd w' (Array.size (World.heap w)) 1 = some (Value.int IntKind.i64 x_2)) ∧
                  ∃ (x_3 : Int),
                    ((decide (turn < 1) || decide (turn > 1099511627776) || decide (x < 0) || decide (x_1 > 1023) || decide (x_2 < 0)) = false →
                        rd w' (Array.size (World.heap w)) 1 = some (Value.int IntKind.i64 x_3)) ∧
                      Wif (decide (turn < 1) || decide (turn > 1099511627776) || decide (x < 0) || decide (x_1 > 1023) || decide (x_2 < 0) || decide (x_3 > 31))
                        (K (Value.tuple #[Value.int IntKind.u64 0, Value.int IntKind.i64 2]) w')
                        (∃ (x : Int),
                          rd w' (Array.size (World.heap w)) 0 = some (Value.int IntKind.i64 x) ∧
                            ∃ (x_4 : Int),
                              rd w' (Array.size (World.heap w)) 1 = some (Value.int IntKind.i64 x_4) ∧
                                K
                                  (Value.tuple
                                    #[Value.int IntKind.u64
                                        (IntKind.wrap IntKind.u64
                                          (IntKind.wrap IntKind.u64 (IntKind.wrap IntKind.u64 (turn * 32768) + IntKind.wrap IntKind.u64 (IntKind.wrap IntKind.u64 x * 32)) +
                                            IntKind.wrap IntKind.u64 x_4)),
                                      Value.int IntKind.i64 0])
                                  w')
theorem vcE8 (turn : Int) (o0 : Int) (o1 : Int) (w : World) (K : Value → World → Prop) : vcP8 turn o0 o1 w K = Eng.wBody Go.Proofs.Try.prog (Eng.handOf Go.Proofs.Try.prog [12,
 14] 1) [] Go.Proofs.Try.f8 (Eng.bodyOf Go.Proofs.Try.f8) [Value.int IntKind.u64 turn, Value.agg #[Value.int IntKind.i64 o0, Value.int IntKind.i64 o1]] w K := by kernel_rfl
theorem vc8 (turn : Int) (o0 : Int) (o1 : Int) (w : World) (K : Value → World → Prop) (h : vcP8 turn o0 o1 w K) :
    Calls Go.Proofs.Try.prog 8 #[Value.int IntKind.u64 turn, Value.agg #[Value.int IntKind.i64 o0, Value.int IntKind.i64 o1]] w (fun e w' => ∃ v, e = .returned v ∧ K v w') :=
  Eng.vc_of [12, 14] 1 [] Go.Proofs.Try.mixes Go.Proofs.Try.func8 (by kernel_rfl) (by kernel_rfl) (vcE8 turn o0 o1 w K) h

/- byre/handles.Read -/
def vcP9 (h' : Int) (w : World) (K : Value → World → Prop) : Prop :=
  ∀ (w' : World),
    w' = World.alloc w (Obj.cells #[Value.int IntKind.i64 0, Value.int IntKind.i64 0] 24) →
      Calls Proofs.Try.prog 13 #[Value.int IntKind.i64 2, Value.int IntKind.u64 h'] w' fun (e : Ending) (w' : World) =>
        ∃ (n : Int),
          e = Ending.returned (Value.int IntKind.u64 n) ∧
            Calls Proofs.Try.prog 13 #[Value.int IntKind.i64 1, Value.int IntKind.u64 h'] w' fun (e : Ending) (w' : World) =>
              ∃ (n_1 : Int),
                e = Ending.returned (Value.int IntKind.u64 n_1) ∧
                  Calls Proofs.Try.prog 13 #[Value.int IntKind.i64 0, Value.int IntKind.u64 h'] w' fun (e : Ending) (w' : World) =>
                    ∃ (n_2 : Int),
                      e = Ending.returned (Value.int IntKind.u64 n_2) ∧
                        ∀ (w'_1 : World),
                          w'_1 = World.alloc w' (Obj.cells #[Value.int IntKind.i64 0, Value.int IntKind.i64 0] 24) →
                            (wr w'_1 (Array.size (World.heap w')) 0 ∧ wr w'_1 (Array.size (World.heap w')) 1) ∧
                              ∀ (w'_2 : World),
                                w'_2 =
                                    st (st w'_1 (Array.size (World.heap w')) 0 (Value.int IntKind.i64 (IntKind.wrap IntKind.i64 n_1))) (Array.size (World.heap w')) 1
                                      (Value.int IntKind.i64 (IntKind.wrap IntKind.i64 n_2)) →
                                  Wif (decide (n < 1) || decide (n > 1099511627776))
                                    ((wr w'_2 (Array.size (World.heap w)) 0 ∧ wr w'_2 (Array.size (World.heap w)) 1) ∧
                                      ∀ (w' : World),
                                        w' = st (st w'_2 (Array.size (World.heap w)) 0 (Value.int IntKind.i64 0)) (Array.size (World.heap w)) 1 (Value.int IntKind.i64 0) →
                                          ∃ (x : Int),
                                            ∃ (x_1 : Int),
                                              (rd w' (Array.size (World.heap w)) 0 = some (Value.int IntKind.i64 x) ∧ rd w' (Array.size (World.heap w)) 1 = some (Value.int IntKind.i64 x_1)) ∧
                                                K (Value.tuple #[Value.int IntKind.u64 0, Value.agg #[Value.int IntKind.i64 x, Value.int IntKind.i64 x_1], Value.int IntKind.i64 120]) w')
                                    (∀ (w1 : World),
                                      w1 = World.drew w'_2 →
                                        ∃ (x : Int),
                                          ∃ (x_1 : Int),
                                            (rd w1 (Array.size (World.heap w')) 0 = some (Value.int IntKind.i64 x) ∧ rd w1 (Array.size (World.heap w')) 1 = some (Value.int IntKind.i64 x_1)) ∧
                                              (wr w1 (Array.size (World.heap w)) 0 ∧ wr w1 (Array.size (World.heap w)) 1) ∧
                                                ∀ (w' : World),
                                                  w' = st (st w1 (Array.size (World.heap w)) 0 (Value.int IntKind.i64 x)) (Array.size (World.heap w)) 1 (Value.int IntKind.i64 x_1) →
                                                    ∃ (x : Int),
                                                      ∃ (x_2 : Int),
                                                        (rd w' (Array.size (World.heap w)) 0 = some (Value.int IntKind.i64 x) ∧
                                                            rd w' (Array.size (World.heap w)) 1 = some (Value.int IntKind.i64 x_2)) ∧
                                                          K (Value.tuple #[Value.int IntKind.u64 n, Value.agg #[Value.int IntKind.i64 x, Value.int IntKind.i64 x_2], Value.int IntKind.i64 0]) w')
theorem vcE9 (h' : Int) (w : World) (K : Value → World → Prop) : vcP9 h' w K = Eng.wBody Go.Proofs.Try.prog (Eng.handOf Go.Proofs.Try.prog [12,
 14] 1) [] Go.Proofs.Try.f9 (Eng.bodyOf Go.Proofs.Try.f9) [Value.int IntKind.u64 h'] w K := by kernel_rfl
theorem vc9 (h' : Int) (w : World) (K : Value → World → Prop) (h : vcP9 h' w K) :
    Calls Go.Proofs.Try.prog 9 #[Value.int IntKind.u64 h'] w (fun e w' => ∃ v, e = .returned v ∧ K v w') :=
  Eng.vc_of [12, 14] 1 [] Go.Proofs.Try.mixes Go.Proofs.Try.func9 (by kernel_rfl) (by kernel_rfl) (vcE9 h' w K) h

/- byre/byreref12.Read -/
def vcP10 (h' : Int) (w : World) (K : Value → World → Prop) : Prop :=
  ∀ (w' : World),
    w' = World.alloc w (Obj.cells #[Value.int IntKind.i64 0, Value.int IntKind.i64 0] 24) →
      ∀ (w'_1 : World),
        w'_1 = World.alloc w' (Obj.cells #[Value.int IntKind.i64 0, Value.int IntKind.i64 0] 24) →
          (wr w'_1 (Array.size (World.heap w')) 0 ∧ wr w'_1 (Array.size (World.heap w')) 1) ∧
            ∀ (w'_2 : World),
              w'_2 =
                  st (st w'_1 (Array.size (World.heap w')) 0 (Value.int IntKind.i64 (IntKind.wrap IntKind.i64 (IntKind.wrap IntKind.u64 (Int.tdiv (Int.tmod h' 32768) 32)))))
                    (Array.size (World.heap w')) 1 (Value.int IntKind.i64 (IntKind.wrap IntKind.i64 (Int.tmod h' 32))) →
                ∃ (x : Int),
                  ∃ (x_1 : Int),
                    (rd w'_2 (Array.size (World.heap w')) 0 = some (Value.int IntKind.i64 x) ∧ rd w'_2 (Array.size (World.heap w')) 1 = some (Value.int IntKind.i64 x_1)) ∧
                      Calls Proofs.Try.prog 8 #[Value.int IntKind.u64 (IntKind.wrap IntKind.u64 (Int.tdiv h' 32768)), Value.agg #[Value.int IntKind.i64 x, Value.int IntKind.i64 x_1]] w'_2
                        fun (e : Ending) (w'_3 : World) =>
                        ∃ (n : Int),
                          ∃ (n_1 : Int),
                            e = Ending.returned (Value.tuple #[Value.int IntKind.u64 n, Value.int IntKind.i64 n_1]) ∧
                              Wif (n_1 != 0)
                                ((wr w'_3 (Array.size (World.heap w)) 0 ∧ wr w'_3 (Array.size (World.heap w)) 1) ∧
                                  ∀ (w' : World),
                                    w' = st (st w'_3 (Array.size (World.heap w)) 0 (Value.int IntKind.i64 0)) (Array.size (World.heap w)) 1 (Value.int IntKind.i64 0) →
                                      ∃ (x : Int),
                                        ∃ (x_2 : Int),
                                          (rd w' (Array.size (World.heap w)) 0 = some (Value.int IntKind.i64 x) ∧ rd w' (Array.size (World.heap w)) 1 = some (Value.int IntKind.i64 x_2)) ∧
                                            K (Value.tuple #[Value.int IntKind.u64 0, Value.agg #[Value.int IntKind.i64 x, Value.int IntKind.i64 x_2], Value.int IntKind.i64 120]) w')
                                (∀ (w1 : World),
                                  w1 = World.drew w'_3 →
                                    ∃ (x : Int),
                                      ∃ (x_2 : Int),
                                        (rd w1 (Array.size (World.heap w')) 0 = some (Value.int IntKind.i64 x) ∧ rd w1 (Array.size (World.heap w')) 1 = some (Value.int IntKind.i64 x_2)) ∧
                                          (wr w1 (Array.size (World.heap w)) 0 ∧ wr w1 (Array.size (World.heap w)) 1) ∧
                                            ∀ (w' : World),
                                              w' = st (st w1 (Array.size (World.heap w)) 0 (Value.int IntKind.i64 x)) (Array.size (World.heap w)) 1 (Value.int IntKind.i64 x_2) →
                                                ∃ (x : Int),
                                                  ∃ (x_3 : Int),
                                                    (rd w' (Array.size (World.heap w)) 0 = some (Value.int IntKind.i64 x) ∧ rd w' (Array.size (World.heap w)) 1 = some (Value.int IntKind.i64 x_3)) ∧
                                                      K
                                                        (Value.tuple
                                                          #[Value.int IntKind.u64 (IntKind.wrap IntKind.u64 (Int.tdiv h' 32768)), Value.agg #[Value.int IntKind.i64 x, Value.int IntKind.i64 x_3],
                                                            Value.int IntKind.i64 0])
                                                        w')
theorem vcE10 (h' : Int) (w : World) (K : Value → World → Prop) : vcP10 h' w K = Eng.wBody Go.Proofs.Try.prog (Eng.handOf Go.Proofs.Try.prog [12,
 14] 1) [] Go.Proofs.Try.f10 (Eng.bodyOf Go.Proofs.Try.f10) [Value.int IntKind.u64 h'] w K := by kernel_rfl
theorem vc10 (h' : Int) (w : World) (K : Value → World → Prop) (h : vcP10 h' w K) :
    Calls Go.Proofs.Try.prog 10 #[Value.int IntKind.u64 h'] w (fun e w' => ∃ v, e = .returned v ∧ K v w') :=
  Eng.vc_of [12, 14] 1 [] Go.Proofs.Try.mixes Go.Proofs.Try.func10 (by kernel_rfl) (by kernel_rfl) (vcE10 h' w K) h

/- byre/byrelaw12.known -/
def vcP11 (w : World) (K : Value → World → Prop) : Prop :=
  Calls Proofs.Try.prog 7 #[Value.int IntKind.u64 3, Value.agg #[Value.int IntKind.i64 2, Value.int IntKind.i64 1]] w fun (e : Ending) (w' : World) =>
    ∃ (n : Int),
      ∃ (n_1 : Int),
        e = Ending.returned (Value.tuple #[Value.int IntKind.u64 n, Value.int IntKind.i64 n_1]) ∧
          Calls Proofs.Try.prog 9 #[Value.int IntKind.u64 98369] w' fun (e : Ending) (w' : World) =>
            ∃ (n_2 : Int),
              ∃ (n_3 : Int),
                ∃ (n_4 : Int),
                  ∃ (n_5 : Int),
                    e = Ending.returned (Value.tuple #[Value.int IntKind.u64 n_2, Value.agg #[Value.int IntKind.i64 n_3, Value.int IntKind.i64 n_4], Value.int IntKind.i64 n_5]) ∧
                      ∀ (w'_1 : World),
                        w'_1 = World.alloc w' (Obj.cells #[Value.int IntKind.i64 0, Value.int IntKind.i64 0] 24) →
                          (wr w'_1 (Array.size (World.heap w')) 0 ∧ wr w'_1 (Array.size (World.heap w')) 1) ∧
                            ∀ (w'_2 : World),
                              w'_2 = st (st w'_1 (Array.size (World.heap w')) 0 (Value.int IntKind.i64 n_3)) (Array.size (World.heap w')) 1 (Value.int IntKind.i64 n_4) →
                                Calls Proofs.Try.prog 9 #[Value.int IntKind.u64 32767] w'_2 fun (e : Ending) (w'_3 : World) =>
                                  ∃ (n_6 : Int),
                                    ∃ (n_7 : Int),
                                      ∃ (n_8 : Int),
                                        ∃ (n_9 : Int),
                                          e = Ending.returned (Value.tuple #[Value.int IntKind.u64 n_6, Value.agg #[Value.int IntKind.i64 n_7, Value.int IntKind.i64 n_8], Value.int IntKind.i64 n_9]) ∧
                                            ∀ (w'_4 : World),
                                              w'_4 = World.alloc w'_3 (Obj.cells #[Value.int IntKind.i64 0, Value.int IntKind.i64 0] 24) →
                                                (wr w'_4 (Array.size (World.heap w'_3)) 0 ∧ wr w'_4 (Array.size (World.heap w'_3)) 1) ∧
                                                  ∀ (w'_5 : World),
                                                    w'_5 = st (st w'_4 (Array.size (World.heap w'_3)) 0 (Value.int IntKind.i64 n_7)) (Array.size (World.heap w'_3)) 1 (Value.int IntKind.i64 n_8) →
                                                      ∃ (x : Int),
                                                        ∃ (x_1 : Int),
                                                          ((n_1 == 0 && n == 98369 && n_5 == 0 && n_2 == 3) = true →
                                                              rd w'_5 (Array.size (World.heap w')) 0 = some (Value.int IntKind.i64 x) ∧
                                                                rd w'_5 (Array.size (World.heap w')) 1 = some (Value.int IntKind.i64 x_1)) ∧
                                                            K (Value.bool (n_1 == 0 && n == 98369 && n_5 == 0 && n_2 == 3 && (x == 2 && (x_1 == 1 && true)) && n_9 == 120)) w'_5
theorem vcE11 (w : World) (K : Value → World → Prop) : vcP11  w K = Eng.wBody Go.Proofs.Try.prog (Eng.handOf Go.Proofs.Try.prog [12,
 14] 1) [] Go.Proofs.Try.f11 (Eng.bodyOf Go.Proofs.Try.f11) [] w K := by kernel_rfl
theorem vc11 (w : World) (K : Value → World → Prop) (h : vcP11  w K) :
    Calls Go.Proofs.Try.prog 11 #[] w (fun e w' => ∃ v, e = .returned v ∧ K v w') :=
  Eng.vc_of [12, 14] 1 [] Go.Proofs.Try.mixes Go.Proofs.Try.func11 (by kernel_rfl) (by kernel_rfl) (vcE11  w K) h

/- byre/byrelaw12.HandlesMakes -/
def vcP3 (turn : Int) (o0 : Int) (o1 : Int) (h' : Int) (w : World) (K : Value → World → Prop) : Prop :=
  ∀ (w' : World),
    w' = World.alloc w (Obj.cells #[Value.int IntKind.i64 o0, Value.int IntKind.i64 o1] 24) →
      ∃ (x : Int),
        ∃ (x_1 : Int),
          (rd w' (Array.size (World.heap w)) 0 = some (Value.int IntKind.i64 x) ∧ rd w' (Array.size (World.heap w)) 1 = some (Value.int IntKind.i64 x_1)) ∧
            Calls Proofs.Try.prog 7 #[Value.int IntKind.u64 turn, Value.agg #[Value.int IntKind.i64 x, Value.int IntKind.i64 x_1]] w' fun (e : Ending) (w' : World) =>
              ∃ (n : Int),
                ∃ (n_1 : Int),
                  e = Ending.returned (Value.tuple #[Value.int IntKind.u64 n, Value.int IntKind.i64 n_1]) ∧
                    ∃ (x : Int),
                      ∃ (x_2 : Int),
                        (rd w' (Array.size (World.heap w)) 0 = some (Value.int IntKind.i64 x) ∧ rd w' (Array.size (World.heap w)) 1 = some (Value.int IntKind.i64 x_2)) ∧
                          Calls Proofs.Try.prog 8 #[Value.int IntKind.u64 turn, Value.agg #[Value.int IntKind.i64 x, Value.int IntKind.i64 x_2]] w' fun (e : Ending) (w' : World) =>
                            ∃ (n_2 : Int),
                              ∃ (n_3 : Int),
                                e = Ending.returned (Value.tuple #[Value.int IntKind.u64 n_2, Value.int IntKind.i64 n_3]) ∧
                                  Calls Proofs.Try.prog 9 #[Value.int IntKind.u64 h'] w' fun (e : Ending) (w' : World) =>
                                    ∃ (n_4 : Int),
                                      ∃ (n_5 : Int),
                                        ∃ (n_6 : Int),
                                          ∃ (n_7 : Int),
                                            e =
                                                Ending.returned
                                                  (Value.tuple #[Value.int IntKind.u64 n_4, Value.agg #[Value.int IntKind.i64 n_5, Value.int IntKind.i64 n_6], Value.int IntKind.i64 n_7]) ∧
                                              ∀ (w'_1 : World),
                                                w'_1 = World.alloc w' (Obj.cells #[Value.int IntKind.i64 0, Value.int IntKind.i64 0] 24) →
                                                  (wr w'_1 (Array.size (World.heap w')) 0 ∧ wr w'_1 (Array.size (World.heap w')) 1) ∧
                                                    ∀ (w'_2 : World),
                                                      w'_2 = st (st w'_1 (Array.size (World.heap w')) 0 (Value.int IntKind.i64 n_5)) (Array.size (World.heap w')) 1 (Value.int IntKind.i64 n_6) →
                                                        Calls Proofs.Try.prog 10 #[Value.int IntKind.u64 h'] w'_2 fun (e : Ending) (w'_3 : World) =>
                                                          ∃ (n_8 : Int),
                                                            ∃ (n_9 : Int),
                                                              ∃ (n_10 : Int),
                                                                ∃ (n_11 : Int),
                                                                  e =
                                                                      Ending.returned
                                                                        (Value.tuple
                                                                          #[Value.int IntKind.u64 n_8, Value.agg #[Value.int IntKind.i64 n_9, Value.int IntKind.i64 n_10],
                                                                            Value.int IntKind.i64 n_11]) ∧
                                                                    ∀ (w'_4 : World),
                                                                      w'_4 = World.alloc w'_3 (Obj.cells #[Value.int IntKind.i64 0, Value.int IntKind.i64 0] 24) →
                                                                        (wr w'_4 (Array.size (World.heap w'_3)) 0 ∧ wr w'_4 (Array.size (World.heap w'_3)) 1) ∧
                                                                          ∀ (w'_5 : World),
                                                                            w'_5 =
                                                                                st (st w'_4 (Array.size (World.heap w'_3)) 0 (Value.int IntKind.i64 n_9)) (Array.size (World.heap w'_3)) 1
                                                                                  (Value.int IntKind.i64 n_10) →
                                                                              ∃ (x : Int),
                                                                                ∃ (x_3 : Int),
                                                                                  ((n == n_2 && n_1 == n_3 && n_4 == n_8) = true →
                                                                                      rd w'_5 (Array.size (World.heap w')) 0 = some (Value.int IntKind.i64 x) ∧
                                                                                        rd w'_5 (Array.size (World.heap w')) 1 = some (Value.int IntKind.i64 x_3)) ∧
                                                                                    ∃ (x_4 : Int),
                                                                                      ∃ (x_5 : Int),
                                                                                        ((n == n_2 && n_1 == n_3 && n_4 == n_8) = true →
                                                                                            rd w'_5 (Array.size (World.heap w'_3)) 0 = some (Value.int IntKind.i64 x_4) ∧
                                                                                              rd w'_5 (Array.size (World.heap w'_3)) 1 = some (Value.int IntKind.i64 x_5)) ∧
                                                                                          Wif (n == n_2 && n_1 == n_3 && n_4 == n_8 && (x == x_4 && (x_3 == x_5 && true)) && n_7 == n_11)
                                                                                            (Calls Proofs.Try.prog 11 #[] w'_5 fun (e : Ending) (w' : World) =>
                                                                                              ∃ (b : Bool), e = Ending.returned (Value.bool b) ∧ K (Value.bool b) w')
                                                                                            (K (Value.bool false) w'_5)
theorem vcE3 (turn : Int) (o0 : Int) (o1 : Int) (h' : Int) (w : World) (K : Value → World → Prop) : vcP3 turn o0 o1 h' w K = Eng.wBody Go.Proofs.Try.prog (Eng.handOf Go.Proofs.Try.prog [12,
 14] 1) [] Go.Proofs.Try.f3 (Eng.bodyOf Go.Proofs.Try.f3) [Value.int IntKind.u64 turn, Value.agg #[Value.int IntKind.i64 o0, Value.int IntKind.i64 o1], Value.int IntKind.u64 h'] w K := by kernel_rfl
theorem vc3 (turn : Int) (o0 : Int) (o1 : Int) (h' : Int) (w : World) (K : Value → World → Prop) (h : vcP3 turn o0 o1 h' w K) :
    Calls Go.Proofs.Try.prog 3 #[Value.int IntKind.u64 turn, Value.agg #[Value.int IntKind.i64 o0, Value.int IntKind.i64 o1], Value.int IntKind.u64 h'] w (fun e w' => ∃ v, e = .returned v ∧ K v w') :=
  Eng.vc_of [12, 14] 1 [] Go.Proofs.Try.mixes Go.Proofs.Try.func3 (by kernel_rfl) (by kernel_rfl) (vcE3 turn o0 o1 h' w K) h

/- byre/byrelaw12.HandlesBack -/
def vcP4 (turn : Int) (o0 : Int) (o1 : Int) (h' : Int) (w : World) (K : Value → World → Prop) : Prop :=
  ∀ (w' : World),
    w' = World.alloc w (Obj.cells #[Value.int IntKind.i64 o0, Value.int IntKind.i64 o1] 24) →
      ∃ (x : Int),
        ∃ (x_1 : Int),
          (rd w' (Array.size (World.heap w)) 0 = some (Value.int IntKind.i64 x) ∧ rd w' (Array.size (World.heap w)) 1 = some (Value.int IntKind.i64 x_1)) ∧
            Calls Proofs.Try.prog 7 #[Value.int IntKind.u64 turn, Value.agg #[Value.int IntKind.i64 x, Value.int IntKind.i64 x_1]] w' fun (e : Ending) (w' : World) =>
              ∃ (n : Int),
                ∃ (n_1 : Int),
                  e = Ending.returned (Value.tuple #[Value.int IntKind.u64 n, Value.int IntKind.i64 n_1]) ∧
                    Wif (n_1 == 0)
                      (Calls Proofs.Try.prog 9 #[Value.int IntKind.u64 n] w' fun (e : Ending) (w' : World) =>
                        ∃ (n_2 : Int),
                          ∃ (n_3 : Int),
                            ∃ (n_4 : Int),
                              ∃ (n_5 : Int),
                                e = Ending.returned (Value.tuple #[Value.int IntKind.u64 n_2, Value.agg #[Value.int IntKind.i64 n_3, Value.int IntKind.i64 n_4], Value.int IntKind.i64 n_5]) ∧
                                  ∀ (w'_1 : World),
                                    w'_1 = World.alloc w' (Obj.cells #[Value.int IntKind.i64 0, Value.int IntKind.i64 0] 24) →
                                      (wr w'_1 (Array.size (World.heap w')) 0 ∧ wr w'_1 (Array.size (World.heap w')) 1) ∧
                                        ∀ (w'_2 : World),
                                          w'_2 = st (st w'_1 (Array.size (World.heap w')) 0 (Value.int IntKind.i64 n_3)) (Array.size (World.heap w')) 1 (Value.int IntKind.i64 n_4) →
                                            ∃ (x : Int),
                                              ∃ (x_2 : Int),
                                                ((n_5 != 0 || n_2 != turn) = false →
                                                    rd w'_2 (Array.size (World.heap w')) 0 = some (Value.int IntKind.i64 x) ∧
                                                      rd w'_2 (Array.size (World.heap w')) 1 = some (Value.int IntKind.i64 x_2)) ∧
                                                  ∃ (x_3 : Int),
                                                    ∃ (x_4 : Int),
                                                      ((n_5 != 0 || n_2 != turn) = false →
                                                          rd w'_2 (Array.size (World.heap w)) 0 = some (Value.int IntKind.i64 x_3) ∧
                                                            rd w'_2 (Array.size (World.heap w)) 1 = some (Value.int IntKind.i64 x_4)) ∧
                                                        Wif (n_5 != 0 || n_2 != turn || !(x == x_3 && (x_2 == x_4 && true)) || n == 0) (K (Value.bool false) w'_2)
                                                          (Calls Proofs.Try.prog 9 #[Value.int IntKind.u64 h'] w'_2 fun (e : Ending) (w' : World) =>
                                                            ∃ (n : Int),
                                                              ∃ (n_6 : Int),
                                                                ∃ (n_7 : Int),
                                                                  ∃ (n_8 : Int),
                                                                    e =
                                                                        Ending.returned
                                                                          (Value.tuple
                                                                            #[Value.int IntKind.u64 n, Value.agg #[Value.int IntKind.i64 n_6, Value.int IntKind.i64 n_7], Value.int IntKind.i64 n_8]) ∧
                                                                      ∀ (w'_3 : World),
                                                                        w'_3 = World.alloc w' (Obj.cells #[Value.int IntKind.i64 0, Value.int IntKind.i64 0] 24) →
                                                                          (wr w'_3 (Array.size (World.heap w')) 0 ∧ wr w'_3 (Array.size (World.heap w')) 1) ∧
                                                                            ∀ (w'_4 : World),
                                                                              w'_4 =
                                                                                  st (st w'_3 (Array.size (World.heap w')) 0 (Value.int IntKind.i64 n_6)) (Array.size (World.heap w')) 1
                                                                                    (Value.int IntKind.i64 n_7) →
                                                                                Wif (n_8 == 0)
                                                                                  (∃ (x : Int),
                                                                                    ∃ (x_5 : Int),
                                                                                      (rd w'_4 (Array.size (World.heap w')) 0 = some (Value.int IntKind.i64 x) ∧
                                                                                          rd w'_4 (Array.size (World.heap w')) 1 = some (Value.int IntKind.i64 x_5)) ∧
                                                                                        Calls Proofs.Try.prog 7
                                                                                          #[Value.int IntKind.u64 n, Value.agg #[Value.int IntKind.i64 x, Value.int IntKind.i64 x_5]] w'_4
                                                                                          fun (e : Ending) (w' : World) =>
                                                                                          ∃ (n : Int),
                                                                                            ∃ (n_9 : Int),
                                                                                              e = Ending.returned (Value.tuple #[Value.int IntKind.u64 n, Value.int IntKind.i64 n_9]) ∧
                                                                                                Wif (n_9 == 0 && n == h')
                                                                                                  (Calls Proofs.Try.prog 11 #[] w' fun (e : Ending) (w' : World) =>
                                                                                                    ∃ (b : Bool), e = Ending.returned (Value.bool b) ∧ K (Value.bool b) w')
                                                                                                  (K (Value.bool false) w'))
                                                                                  (∃ (x : Int),
                                                                                    ∃ (x_5 : Int),
                                                                                      ((n_8 == 120 && n == 0) = true →
                                                                                          rd w'_4 (Array.size (World.heap w')) 0 = some (Value.int IntKind.i64 x) ∧
                                                                                            rd w'_4 (Array.size (World.heap w')) 1 = some (Value.int IntKind.i64 x_5)) ∧
                                                                                        Wif (n_8 == 120 && n == 0 && (x == 0 && (x_5 == 0 && true)))
                                                                                          (Calls Proofs.Try.prog 11 #[] w'_4 fun (e : Ending) (w' : World) =>
                                                                                            ∃ (b : Bool), e = Ending.returned (Value.bool b) ∧ K (Value.bool b) w')
                                                                                          (K (Value.bool false) w'_4))))
                      (Calls Proofs.Try.prog 9 #[Value.int IntKind.u64 h'] w' fun (e : Ending) (w' : World) =>
                        ∃ (n : Int),
                          ∃ (n_2 : Int),
                            ∃ (n_3 : Int),
                              ∃ (n_4 : Int),
                                e = Ending.returned (Value.tuple #[Value.int IntKind.u64 n, Value.agg #[Value.int IntKind.i64 n_2, Value.int IntKind.i64 n_3], Value.int IntKind.i64 n_4]) ∧
                                  ∀ (w'_1 : World),
                                    w'_1 = World.alloc w' (Obj.cells #[Value.int IntKind.i64 0, Value.int IntKind.i64 0] 24) →
                                      (wr w'_1 (Array.size (World.heap w')) 0 ∧ wr w'_1 (Array.size (World.heap w')) 1) ∧
                                        ∀ (w'_2 : World),
                                          w'_2 = st (st w'_1 (Array.size (World.heap w')) 0 (Value.int IntKind.i64 n_2)) (Array.size (World.heap w')) 1 (Value.int IntKind.i64 n_3) →
                                            Wif (n_4 == 0)
                                              (∃ (x : Int),
                                                ∃ (x_2 : Int),
                                                  (rd w'_2 (Array.size (World.heap w')) 0 = some (Value.int IntKind.i64 x) ∧
                                                      rd w'_2 (Array.size (World.heap w')) 1 = some (Value.int IntKind.i64 x_2)) ∧
                                                    Calls Proofs.Try.prog 7 #[Value.int IntKind.u64 n, Value.agg #[Value.int IntKind.i64 x, Value.int IntKind.i64 x_2]] w'_2
                                                      fun (e : Ending) (w' : World) =>
                                                      ∃ (n : Int),
                                                        ∃ (n_5 : Int),
                                                          e = Ending.returned (Value.tuple #[Value.int IntKind.u64 n, Value.int IntKind.i64 n_5]) ∧
                                                            Wif (n_5 == 0 && n == h')
                                                              (Calls Proofs.Try.prog 11 #[] w' fun (e : Ending) (w' : World) => ∃ (b : Bool), e = Ending.returned (Value.bool b) ∧ K (Value.bool b) w')
                                                              (K (Value.bool false) w'))
                                              (∃ (x : Int),
                                                ∃ (x_2 : Int),
                                                  ((n_4 == 120 && n == 0) = true →
                                                      rd w'_2 (Array.size (World.heap w')) 0 = some (Value.int IntKind.i64 x) ∧
                                                        rd w'_2 (Array.size (World.heap w')) 1 = some (Value.int IntKind.i64 x_2)) ∧
                                                    Wif (n_4 == 120 && n == 0 && (x == 0 && (x_2 == 0 && true)))
                                                      (Calls Proofs.Try.prog 11 #[] w'_2 fun (e : Ending) (w' : World) => ∃ (b : Bool), e = Ending.returned (Value.bool b) ∧ K (Value.bool b) w')
                                                      (K (Value.bool false) w'_2)))
theorem vcE4 (turn : Int) (o0 : Int) (o1 : Int) (h' : Int) (w : World) (K : Value → World → Prop) : vcP4 turn o0 o1 h' w K = Eng.wBody Go.Proofs.Try.prog (Eng.handOf Go.Proofs.Try.prog [12,
 14] 1) [] Go.Proofs.Try.f4 (Eng.bodyOf Go.Proofs.Try.f4) [Value.int IntKind.u64 turn, Value.agg #[Value.int IntKind.i64 o0, Value.int IntKind.i64 o1], Value.int IntKind.u64 h'] w K := by kernel_rfl
theorem vc4 (turn : Int) (o0 : Int) (o1 : Int) (h' : Int) (w : World) (K : Value → World → Prop) (h : vcP4 turn o0 o1 h' w K) :
    Calls Go.Proofs.Try.prog 4 #[Value.int IntKind.u64 turn, Value.agg #[Value.int IntKind.i64 o0, Value.int IntKind.i64 o1], Value.int IntKind.u64 h'] w (fun e w' => ∃ v, e = .returned v ∧ K v w') :=
  Eng.vc_of [12, 14] 1 [] Go.Proofs.Try.mixes Go.Proofs.Try.func4 (by kernel_rfl) (by kernel_rfl) (vcE4 turn o0 o1 h' w K) h

/- byre/byrelaw12.HandlesRise -/
def vcP5 (a : Int) (b : Int) (o0 : Int) (o1 : Int) (p0 : Int) (p1 : Int) (w : World) (K : Value → World → Prop) : Prop :=
  ∀ (w' : World),
    w' = World.alloc w (Obj.cells #[Value.int IntKind.i64 o0, Value.int IntKind.i64 o1] 24) →
      ∀ (w'_1 : World),
        w'_1 = World.alloc w' (Obj.cells #[Value.int IntKind.i64 p0, Value.int IntKind.i64 p1] 24) →
          ∃ (x : Int),
            ∃ (x_1 : Int),
              (rd w'_1 (Array.size (World.heap w)) 0 = some (Value.int IntKind.i64 x) ∧ rd w'_1 (Array.size (World.heap w)) 1 = some (Value.int IntKind.i64 x_1)) ∧
                Calls Proofs.Try.prog 7 #[Value.int IntKind.u64 a, Value.agg #[Value.int IntKind.i64 x, Value.int IntKind.i64 x_1]] w'_1 fun (e : Ending) (w'_2 : World) =>
                  ∃ (n : Int),
                    ∃ (n_1 : Int),
                      e = Ending.returned (Value.tuple #[Value.int IntKind.u64 n, Value.int IntKind.i64 n_1]) ∧
                        ∃ (x : Int),
                          ∃ (x_2 : Int),
                            (rd w'_2 (Array.size (World.heap w')) 0 = some (Value.int IntKind.i64 x) ∧ rd w'_2 (Array.size (World.heap w')) 1 = some (Value.int IntKind.i64 x_2)) ∧
                              Calls Proofs.Try.prog 7 #[Value.int IntKind.u64 b, Value.agg #[Value.int IntKind.i64 x, Value.int IntKind.i64 x_2]] w'_2 fun (e : Ending) (w'_3 : World) =>
                                ∃ (n_2 : Int),
                                  ∃ (n_3 : Int),
                                    e = Ending.returned (Value.tuple #[Value.int IntKind.u64 n_2, Value.int IntKind.i64 n_3]) ∧
                                      Wif (n_1 != 0 || n_3 != 0)
                                        (Calls Proofs.Try.prog 11 #[] w'_3 fun (e : Ending) (w' : World) => ∃ (b : Bool), e = Ending.returned (Value.bool b) ∧ K (Value.bool b) w')
                                        (Wif (decide (a < b))
                                          (Wif (decide (n < n_2))
                                            (Calls Proofs.Try.prog 11 #[] w'_3 fun (e : Ending) (w' : World) => ∃ (b : Bool), e = Ending.returned (Value.bool b) ∧ K (Value.bool b) w')
                                            (K (Value.bool false) w'_3))
                                          (Wif (decide (a > b))
                                            (Wif (decide (n > n_2))
                                              (Calls Proofs.Try.prog 11 #[] w'_3 fun (e : Ending) (w' : World) => ∃ (b : Bool), e = Ending.returned (Value.bool b) ∧ K (Value.bool b) w')
                                              (K (Value.bool false) w'_3))
                                            (∃ (x : Int),
                                              ∃ (x_3 : Int),
                                                (rd w'_3 (Array.size (World.heap w)) 0 = some (Value.int IntKind.i64 x) ∧ rd w'_3 (Array.size (World.heap w)) 1 = some (Value.int IntKind.i64 x_3)) ∧
                                                  ∃ (x_4 : Int),
                                                    ∃ (x_5 : Int),
                                                      (rd w'_3 (Array.size (World.heap w')) 0 = some (Value.int IntKind.i64 x_4) ∧
                                                          rd w'_3 (Array.size (World.heap w')) 1 = some (Value.int IntKind.i64 x_5)) ∧
                                                        Wif ((n == n_2) == (x == x_4 && (x_3 == x_5 && true)))
                                                          (Calls Proofs.Try.prog 11 #[] w'_3 fun (e : Ending) (w' : World) => ∃ (b : Bool), e = Ending.returned (Value.bool b) ∧ K (Value.bool b) w')
                                                          (K (Value.bool false) w'_3))))
theorem vcE5 (a : Int) (b : Int) (o0 : Int) (o1 : Int) (p0 : Int) (p1 : Int) (w : World) (K : Value → World → Prop) : vcP5 a b o0 o1 p0 p1 w K = Eng.wBody Go.Proofs.Try.prog (Eng.handOf Go.Proofs.Try.prog [12,
 14] 1) [] Go.Proofs.Try.f5 (Eng.bodyOf Go.Proofs.Try.f5) [Value.int IntKind.u64 a, Value.int IntKind.u64 b, Value.agg #[Value.int IntKind.i64 o0, Value.int IntKind.i64 o1],
  Value.agg #[Value.int IntKind.i64 p0, Value.int IntKind.i64 p1]] w K := by kernel_rfl
theorem vc5 (a : Int) (b : Int) (o0 : Int) (o1 : Int) (p0 : Int) (p1 : Int) (w : World) (K : Value → World → Prop) (h : vcP5 a b o0 o1 p0 p1 w K) :
    Calls Go.Proofs.Try.prog 5 #[Value.int IntKind.u64 a, Value.int IntKind.u64 b, Value.agg #[Value.int IntKind.i64 o0, Value.int IntKind.i64 o1],
  Value.agg #[Value.int IntKind.i64 p0, Value.int IntKind.i64 p1]] w (fun e w' => ∃ v, e = .returned v ∧ K v w') :=
  Eng.vc_of [12, 14] 1 [] Go.Proofs.Try.mixes Go.Proofs.Try.func5 (by kernel_rfl) (by kernel_rfl) (vcE5 a b o0 o1 p0 p1 w K) h

/- byre/byrelaw12.HandlesNext -/
def vcP6 (turn : Int) (o0 : Int) (o1 : Int) (w : World) (K : Value → World → Prop) : Prop :=
  ∀ (w' : World),
    w' = World.alloc w (Obj.cells #[Value.int IntKind.i64 o0, Value.int IntKind.i64 o1] 24) →
      ∃ (x : Int),
        ∃ (x_1 : Int),
          (rd w' (Array.size (World.heap w)) 0 = some (Value.int IntKind.i64 x) ∧ rd w' (Array.size (World.heap w)) 1 = some (Value.int IntKind.i64 x_1)) ∧
            Calls Proofs.Try.prog 7 #[Value.int IntKind.u64 turn, Value.agg #[Value.int IntKind.i64 x, Value.int IntKind.i64 x_1]] w' fun (e : Ending) (w' : World) =>
              ∃ (n : Int),
                ∃ (n_1 : Int),
                  e = Ending.returned (Value.tuple #[Value.int IntKind.u64 n, Value.int IntKind.i64 n_1]) ∧
                    ∃ (x : Int),
                      ∃ (x_2 : Int),
                        (rd w' (Array.size (World.heap w)) 0 = some (Value.int IntKind.i64 x) ∧ rd w' (Array.size (World.heap w)) 1 = some (Value.int IntKind.i64 x_2)) ∧
                          Calls Proofs.Try.prog 7 #[Value.int IntKind.u64 (IntKind.wrap IntKind.u64 (turn + 1)), Value.agg #[Value.int IntKind.i64 x, Value.int IntKind.i64 x_2]] w'
                            fun (e : Ending) (w' : World) =>
                            ∃ (n_2 : Int),
                              ∃ (n_3 : Int),
                                e = Ending.returned (Value.tuple #[Value.int IntKind.u64 n_2, Value.int IntKind.i64 n_3]) ∧
                                  ∃ (x : Int),
                                    rd w' (Array.size (World.heap w)) 0 = some (Value.int IntKind.i64 x) ∧
                                      ∃ (x_3 : Int),
                                        rd w' (Array.size (World.heap w)) 1 = some (Value.int IntKind.i64 x_3) ∧
                                          Calls Proofs.Try.prog 7 #[Value.int IntKind.u64 turn, Value.agg #[Value.int IntKind.i64 x, Value.int IntKind.i64 (IntKind.wrap IntKind.i64 (x_3 + 1))]] w'
                                            fun (e : Ending) (w' : World) =>
                                            ∃ (n_4 : Int),
                                              ∃ (n_5 : Int),
                                                e = Ending.returned (Value.tuple #[Value.int IntKind.u64 n_4, Value.int IntKind.i64 n_5]) ∧
                                                  ∃ (x : Int),
                                                    rd w' (Array.size (World.heap w)) 0 = some (Value.int IntKind.i64 x) ∧
                                                      ∃ (x_4 : Int),
                                                        rd w' (Array.size (World.heap w)) 1 = some (Value.int IntKind.i64 x_4) ∧
                                                          Calls Proofs.Try.prog 7
                                                            #[Value.int IntKind.u64 turn, Value.agg #[Value.int IntKind.i64 (IntKind.wrap IntKind.i64 (x + 1)), Value.int IntKind.i64 x_4]] w'
                                                            fun (e : Ending) (w' : World) =>
                                                            ∃ (n_6 : Int),
                                                              ∃ (n_7 : Int),
                                                                e = Ending.returned (Value.tuple #[Value.int IntKind.u64 n_6, Value.int IntKind.i64 n_7]) ∧
                                                                  Wif (n_1 != 0)
                                                                    (Calls Proofs.Try.prog 11 #[] w' fun (e : Ending) (w' : World) =>
                                                                      ∃ (b : Bool), e = Ending.returned (Value.bool b) ∧ K (Value.bool b) w')
                                                                    (Wif
                                                                      ((n_3 != 0 || IntKind.wrap IntKind.u64 (n_2 - n) == 32768) && (n_5 != 0 || IntKind.wrap IntKind.u64 (n_4 - n) == 1) &&
                                                                        (n_7 != 0 || IntKind.wrap IntKind.u64 (n_6 - n) == 32))
                                                                      (Calls Proofs.Try.prog 11 #[] w' fun (e : Ending) (w' : World) =>
                                                                        ∃ (b : Bool), e = Ending.returned (Value.bool b) ∧ K (Value.bool b) w')
                                                                      (K (Value.bool false) w'))
theorem vcE6 (turn : Int) (o0 : Int) (o1 : Int) (w : World) (K : Value → World → Prop) : vcP6 turn o0 o1 w K = Eng.wBody Go.Proofs.Try.prog (Eng.handOf Go.Proofs.Try.prog [12,
 14] 1) [] Go.Proofs.Try.f6 (Eng.bodyOf Go.Proofs.Try.f6) [Value.int IntKind.u64 turn, Value.agg #[Value.int IntKind.i64 o0, Value.int IntKind.i64 o1]] w K := by kernel_rfl
theorem vc6 (turn : Int) (o0 : Int) (o1 : Int) (w : World) (K : Value → World → Prop) (h : vcP6 turn o0 o1 w K) :
    Calls Go.Proofs.Try.prog 6 #[Value.int IntKind.u64 turn, Value.agg #[Value.int IntKind.i64 o0, Value.int IntKind.i64 o1]] w (fun e w' => ∃ v, e = .returned v ∧ K v w') :=
  Eng.vc_of [12, 14] 1 [] Go.Proofs.Try.mixes Go.Proofs.Try.func6 (by kernel_rfl) (by kernel_rfl) (vcE6 turn o0 o1 w K) h

