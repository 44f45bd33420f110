/-
  A part of a proof that a law of this seat returns true at every input. Conditions: those in each theorem.
-/
import Derived.Test.YtkancagfhbkhiaaV2
set_option linter.unusedSimpArgs false
set_option linter.unusedVariables false
set_option maxRecDepth 100000
namespace Go.Proofs.Ytkancagfhbkhiaa
open Go Go.Eng
/- (*byre/cache.Cache).none -/
def vcP59 (c : Option Addr) (w : World) (K : Value → World → Prop) : Prop :=
  gIf (isP c) (Option.isNone c = false) (∃ (x : Option Nat), (Option.isNone c = false → rd w (pb c) (po c + 2) = some (Value.map x)) ∧ K (Value.bool (Option.isNone c || Option.isNone x)) w)
theorem vcE59 (c : Option
  Addr) (w : World) (K : Value → World → Prop) : vcP59 c w K = Eng.wBody Go.Proofs.Try.prog (Eng.handOf Go.Proofs.Try.prog [59] 1) [] Go.Proofs.Try.f59 (Eng.bodyOf Go.Proofs.Try.f59) [Value.pointer
    c] w K := by kernel_rfl
theorem vc59 (c : Option Addr) (w : World) (K : Value → World → Prop) (h : vcP59 c w K) :
    Calls Go.Proofs.Try.prog 59 #[Value.pointer c] w (fun e w' => ∃ v, e = .returned v ∧ K v w') :=
  Eng.vc_of [59] 1 [] Go.Proofs.Try.mixes Go.Proofs.Try.func59 (by kernel_rfl) (by kernel_rfl) (vcE59 c w K) h

-- 133 ms
/- byre/cache.New -/
def vcP35 (size : Int) (w : World) (K : Value → World → Prop) : Prop :=
  ∀ (w' : World),
    w' = World.alloc w (Obj.cells (List.toArray (List.replicate 256 (Value.int IntKind.u8 0))) 5) →
      Calls Proofs.Try.prog 15 #[Value.slice (some (Addr.mk (Array.size (World.heap w)) 0 none)) 256 256, Value.int IntKind.i64 size, Value.int IntKind.i64 0] w' fun (e : Ending) (w' : World) =>
        ∃ (p : Option Addr),
          ∃ (n : Int),
            e = Ending.returned (Value.tuple #[Value.pointer p, Value.int IntKind.i64 n]) ∧
              Wif (n != 0) (K (Value.tuple #[Value.pointer none, Value.int IntKind.i64 n]) w')
                (∀ (w'_1 : World),
                  w'_1 = World.alloc w' (Obj.map #[] 0) →
                    ∀ (w'_2 : World),
                      w'_2 = World.alloc w'_1 (Obj.cells #[Value.int IntKind.i64 size, Value.int IntKind.i64 0, Value.map (some (Array.size (World.heap w')))] 78) →
                        K (Value.tuple #[Value.pointer (some (Addr.mk (Array.size (World.heap w'_1)) 0 none)), Value.int IntKind.i64 0]) w'_2)
theorem vcE35 (size : Int) (w : World) (K : Value → World → Prop) : vcP35 size w K = Eng.wBody Go.Proofs.Try.prog (Eng.handOf Go.Proofs.Try.prog [59] 1) [] Go.Proofs.Try.f35 (Eng.bodyOf Go.Proofs.Try.f35) [Value.int
    IntKind.i64 size] w K := by kernel_rfl
theorem vc35 (size : Int) (w : World) (K : Value → World → Prop) (h : vcP35 size w K) :
    Calls Go.Proofs.Try.prog 35 #[Value.int IntKind.i64 size] w (fun e w' => ∃ v, e = .returned v ∧ K v w') :=
  Eng.vc_of [59] 1 [] Go.Proofs.Try.mixes Go.Proofs.Try.func35 (by kernel_rfl) (by kernel_rfl) (vcE35 size w K) h

-- 236 ms
/- (*byre/cache.Cache).Add -/
def vcP37 (c : Option Addr) (frame : Int) (b : Option Addr) (bL : Nat) (bC : Nat) (w : World) (K : Value → World → Prop) : Prop :=
  gIf (isP c) (Option.isNone c = false)
    (∃ (x : Option Nat),
      (Option.isNone c = false → rd w (pb c) (po c + 2) = some (Value.map x)) ∧
        Wif (Option.isNone c || Option.isNone x) (K (Value.int IntKind.i64 1) w)
          (Wif (decide (frame < 0) || (↑bL : Int) != 256) (K (Value.int IntKind.i64 2) w)
            (Wif (isP c)
              (∃ (x : Option Nat),
                rd w (pb c) (po c + 2) = some (Value.map x) ∧
                  ∃ (x_1 : Option Addr),
                    lookIs Proofs.Try.prog 76 (Value.map x) (Value.int IntKind.i64 frame) false (Value.pointer x_1) w ∧
                      Wif (!Option.isNone x_1) (K (Value.int IntKind.i64 8) w)
                        (∀ (w1 : World),
                          w1 = World.drew w →
                            Wif (isP c)
                              (∃ (x : Int),
                                rd w1 (pb c) (po c) = some (Value.int IntKind.i64 x) ∧
                                  Wif (isP c)
                                    (∃ (x_2 : Int),
                                      rd w1 (pb c) (po c + 1) = some (Value.int IntKind.i64 x_2) ∧
                                        Calls Proofs.Try.prog 15 #[Value.slice b bL bC, Value.int IntKind.i64 x, Value.int IntKind.i64 x_2] w1 fun (e : Ending) (w' : World) =>
                                          ∃ (p : Option Addr),
                                            ∃ (n : Int),
                                              e = Ending.returned (Value.tuple #[Value.pointer p, Value.int IntKind.i64 n]) ∧
                                                Wif (n != 0) (K (Value.int IntKind.i64 n) w')
                                                  (Wif (isP c)
                                                    (∃ (x : Option Nat),
                                                      rd w' (pb c) (po c + 2) = some (Value.map x) ∧
                                                        ∃ (w'_1 : World),
                                                          updIs Proofs.Try.prog 76 (Value.map x) (Value.int IntKind.i64 frame) (Value.pointer p) w' w'_1 ∧
                                                            Wif (isP c)
                                                              (∃ (x : Int),
                                                                rd w'_1 (pb c) (po c + 1) = some (Value.int IntKind.i64 x) ∧
                                                                  Wif (isP c)
                                                                    (wr w'_1 (pb c) (po c + 1) ∧
                                                                      ∀ (w' : World),
                                                                        w' = st w'_1 (pb c) (po c + 1) (Value.int IntKind.i64 (IntKind.wrap IntKind.i64 (x + 8))) →
                                                                          ∀ (w1 : World),
                                                                            w1 = World.drew w' →
                                                                              Wif (isP c)
                                                                                (∃ (x : Int),
                                                                                  rd w1 (pb c) (po c + 1) = some (Value.int IntKind.i64 x) ∧
                                                                                    Wif (isP c)
                                                                                      (∃ (x_3 : Int),
                                                                                        rd w1 (pb c) (po c) = some (Value.int IntKind.i64 x_3) ∧
                                                                                          Wif (x_3 != 0)
                                                                                            (Wif (decide (x > Int.tmod 256 x_3))
                                                                                              (Wif (isP c)
                                                                                                (wr w1 (pb c) (po c + 1) ∧
                                                                                                  ∀ (w' : World),
                                                                                                    w' = st w1 (pb c) (po c + 1) (Value.int IntKind.i64 0) → K (Value.int IntKind.i64 0) w')
                                                                                                False)
                                                                                              (K (Value.int IntKind.i64 0) w1))
                                                                                            False)
                                                                                      False)
                                                                                False)
                                                                    False)
                                                              False)
                                                    False))
                                    False)
                              False))
              False)))
theorem vcE37 (c : Option
  Addr) (frame : Int) (b : Option
  Addr) (bL : Nat) (bC : Nat) (w : World) (K : Value → World → Prop) : vcP37 c frame b bL bC w K = Eng.wBody Go.Proofs.Try.prog (Eng.handOf Go.Proofs.Try.prog [59] 1) [] Go.Proofs.Try.f37 (Eng.bodyOf Go.Proofs.Try.f37) [Value.pointer
    c,
  Value.int IntKind.i64 frame, Value.slice b bL bC] w K := by kernel_rfl
theorem vc37 (c : Option Addr) (frame : Int) (b : Option Addr) (bL : Nat) (bC : Nat) (w : World) (K : Value → World → Prop) (h : vcP37 c frame b bL bC w K) :
    Calls Go.Proofs.Try.prog 37 #[Value.pointer c, Value.int IntKind.i64 frame, Value.slice b bL bC] w (fun e w' => ∃ v, e = .returned v ∧ K v w') :=
  Eng.vc_of [59] 1 [] Go.Proofs.Try.mixes Go.Proofs.Try.func37 (by kernel_rfl) (by kernel_rfl) (vcE37 c frame b bL bC w K) h

-- 7555 ms
/- (*byre/cache.Cache).Give -/
def vcP38 (c : Option Addr) (frame : Int) (i : Int) (w : World) (K : Value → World → Prop) : Prop :=
  Calls Proofs.Try.prog 40 #[Value.pointer c, Value.int IntKind.i64 frame] w fun (e : Ending) (w' : World) =>
    ∃ (p : Option Addr),
      ∃ (n : Int),
        e = Ending.returned (Value.tuple #[Value.pointer p, Value.int IntKind.i64 n]) ∧
          Wif (n != 0) (K (Value.int IntKind.i64 n) w')
            (Calls Proofs.Try.prog 21 #[Value.pointer p, Value.int IntKind.i64 i] w' fun (e : Ending) (w' : World) =>
              ∃ (n : Int), e = Ending.returned (Value.int IntKind.i64 n) ∧ K (Value.int IntKind.i64 n) w')
theorem vcE38 (c : Option
  Addr) (frame : Int) (i : Int) (w : World) (K : Value → World → Prop) : vcP38 c frame i w K = Eng.wBody Go.Proofs.Try.prog (Eng.handOf Go.Proofs.Try.prog [59] 1) [] Go.Proofs.Try.f38 (Eng.bodyOf Go.Proofs.Try.f38) [Value.pointer
    c,
  Value.int IntKind.i64 frame, Value.int IntKind.i64 i] w K := by kernel_rfl
theorem vc38 (c : Option Addr) (frame : Int) (i : Int) (w : World) (K : Value → World → Prop) (h : vcP38 c frame i w K) :
    Calls Go.Proofs.Try.prog 38 #[Value.pointer c, Value.int IntKind.i64 frame, Value.int IntKind.i64 i] w (fun e w' => ∃ v, e = .returned v ∧ K v w') :=
  Eng.vc_of [59] 1 [] Go.Proofs.Try.mixes Go.Proofs.Try.func38 (by kernel_rfl) (by kernel_rfl) (vcE38 c frame i w K) h

-- 329 ms
/- (*byre/cache.Cache).Frames -/
def vcP39 (c : Option Addr) (w : World) (K : Value → World → Prop) : Prop :=
  gIf (isP c) (Option.isNone c = false)
    (∃ (x : Option Nat),
      (Option.isNone c = false → rd w (pb c) (po c + 2) = some (Value.map x)) ∧
        Wif (Option.isNone c || Option.isNone x) (K (Value.slice none 0 0) w)
          (Wif (isP c)
            (∃ (x : Option Nat),
              rd w (pb c) (po c + 2) = some (Value.map x) ∧
                Calls Proofs.Try.prog 61 #[Value.map x] w fun (e : Ending) (w' : World) =>
                  ∃ (v : Value),
                    e = Ending.returned v ∧
                      Calls Proofs.Try.prog 60 #[v] w' fun (e : Ending) (w' : World) =>
                        ∃ (a : Option Addr), ∃ (l : Nat), ∃ (c : Nat), e = Ending.returned (Value.slice a l c) ∧ K (Value.slice a l c) w')
            False))
theorem vcE39 (c : Option
  Addr) (w : World) (K : Value → World → Prop) : vcP39 c w K = Eng.wBody Go.Proofs.Try.prog (Eng.handOf Go.Proofs.Try.prog [59] 1) [] Go.Proofs.Try.f39 (Eng.bodyOf Go.Proofs.Try.f39) [Value.pointer
    c] w K := by kernel_rfl
theorem vc39 (c : Option Addr) (w : World) (K : Value → World → Prop) (h : vcP39 c w K) :
    Calls Go.Proofs.Try.prog 39 #[Value.pointer c] w (fun e w' => ∃ v, e = .returned v ∧ K v w') :=
  Eng.vc_of [59] 1 [] Go.Proofs.Try.mixes Go.Proofs.Try.func39 (by kernel_rfl) (by kernel_rfl) (vcE39 c w K) h

-- 491 ms
/- (*byre/cache.Cache).Slab -/
def vcP40 (c : Option Addr) (frame : Int) (w : World) (K : Value → World → Prop) : Prop :=
  gIf (isP c) (Option.isNone c = false)
    (∃ (x : Option Nat),
      (Option.isNone c = false → rd w (pb c) (po c + 2) = some (Value.map x)) ∧
        Wif (Option.isNone c || Option.isNone x) (K (Value.tuple #[Value.pointer none, Value.int IntKind.i64 1]) w)
          (Wif (isP c)
            (∃ (x : Option Nat),
              rd w (pb c) (po c + 2) = some (Value.map x) ∧
                ∃ (x_1 : Option Addr),
                  ∃ (x_2 : Bool),
                    lookIs Proofs.Try.prog 76 (Value.map x) (Value.int IntKind.i64 frame) true (Value.tuple #[Value.pointer x_1, Value.bool x_2]) w ∧
                      Wif (!x_2) (K (Value.tuple #[Value.pointer none, Value.int IntKind.i64 7]) w) (K (Value.tuple #[Value.pointer x_1, Value.int IntKind.i64 0]) w))
            False))
theorem vcE40 (c : Option
  Addr) (frame : Int) (w : World) (K : Value → World → Prop) : vcP40 c frame w K = Eng.wBody Go.Proofs.Try.prog (Eng.handOf Go.Proofs.Try.prog [59] 1) [] Go.Proofs.Try.f40 (Eng.bodyOf Go.Proofs.Try.f40) [Value.pointer
    c,
  Value.int IntKind.i64 frame] w K := by kernel_rfl
theorem vc40 (c : Option Addr) (frame : Int) (w : World) (K : Value → World → Prop) (h : vcP40 c frame w K) :
    Calls Go.Proofs.Try.prog 40 #[Value.pointer c, Value.int IntKind.i64 frame] w (fun e w' => ∃ v, e = .returned v ∧ K v w') :=
  Eng.vc_of [59] 1 [] Go.Proofs.Try.mixes Go.Proofs.Try.func40 (by kernel_rfl) (by kernel_rfl) (vcE40 c frame w K) h

-- 570 ms
/- (*byre/cache.Cache).Take -/
def vcP41 (c : Option Addr) (w : World) (K : Value → World → Prop) : Prop :=
  gIf (isP c) (Option.isNone c = false)
    (∃ (x : Option Nat),
      (Option.isNone c = false → rd w (pb c) (po c + 2) = some (Value.map x)) ∧
        Wif (Option.isNone c || Option.isNone x) (K (Value.tuple #[Value.int IntKind.i64 0, Value.int IntKind.i64 0, Value.int IntKind.i64 1]) w)
          (Calls Proofs.Try.prog 39 #[Value.pointer c] w fun (e : Ending) (w' : World) =>
            ∃ (a : Option Addr),
              ∃ (l : Nat),
                ∃ (c_1 : Nat),
                  e = Ending.returned (Value.slice a l c_1) ∧
                    ∃ (I : Int → Bool → Int → World → Nat → Prop),
                      (∃ (n : Nat), I 0 false 0 w' n) ∧
                        ∀ (n : Int) (b : Bool) (n_1 : Int) (w' : World) (n_2 : Nat),
                          I n b n_1 w' n_2 →
                            Wif (decide (n_1 < (↑l : Int)))
                              (Wif (isP a)
                                (Wif (inB n_1 l)
                                  (∃ (x : Int),
                                    rd w' (pb a) (po a + Int.toNat n_1 * 1) = some (Value.int IntKind.i64 x) ∧
                                      Wif (isP c)
                                        (∃ (x_1 : Option Nat),
                                          rd w' (pb c) (po c + 2) = some (Value.map x_1) ∧
                                            ∃ (x_2 : Option Addr),
                                              lookIs Proofs.Try.prog 76 (Value.map x_1) (Value.int IntKind.i64 x) false (Value.pointer x_2) w' ∧
                                                Calls Proofs.Try.prog 63 #[Value.pointer x_2] w' fun (e : Ending) (w' : World) =>
                                                  ∃ (b_1 : Bool),
                                                    e = Ending.returned (Value.bool b_1) ∧
                                                      Wif b_1
                                                        (Wif (isP c)
                                                          (∃ (x_3 : Option Nat),
                                                            rd w' (pb c) (po c + 2) = some (Value.map x_3) ∧
                                                              ∃ (x_4 : Option Addr),
                                                                lookIs Proofs.Try.prog 76 (Value.map x_3) (Value.int IntKind.i64 x) false (Value.pointer x_4) w' ∧
                                                                  Calls Proofs.Try.prog 19 #[Value.pointer x_4] w' fun (e : Ending) (w' : World) =>
                                                                    ∃ (n : Int),
                                                                      ∃ (n_3 : Int),
                                                                        e = Ending.returned (Value.tuple #[Value.int IntKind.i64 n, Value.int IntKind.i64 n_3]) ∧
                                                                          K (Value.tuple #[Value.int IntKind.i64 x, Value.int IntKind.i64 n, Value.int IntKind.i64 n_3]) w')
                                                          False)
                                                        (∃ (m : Nat), Nat.succ m ≤ n_2 ∧ I n b (IntKind.wrap IntKind.i64 (n_1 + 1)) w' m))
                                        False)
                                  False)
                                False)
                              (Calls Proofs.Try.prog 39 #[Value.pointer c] w' fun (e : Ending) (w' : World) =>
                                ∃ (a : Option Addr),
                                  ∃ (l : Nat),
                                    ∃ (c_2 : Nat),
                                      e = Ending.returned (Value.slice a l c_2) ∧
                                        ∃ (I : Int → Bool → Int → World → Nat → Prop),
                                          (∃ (n : Nat), I 0 false 0 w' n) ∧
                                            ∀ (n : Int) (b : Bool) (n_3 : Int) (w' : World) (n_4 : Nat),
                                              I n b n_3 w' n_4 →
                                                Wif (decide (n_3 < (↑l : Int)))
                                                  (Wif (isP a)
                                                    (Wif (inB n_3 l)
                                                      (∃ (x : Int),
                                                        rd w' (pb a) (po a + Int.toNat n_3 * 1) = some (Value.int IntKind.i64 x) ∧
                                                          Wif (isP c)
                                                            (∃ (x_1 : Option Nat),
                                                              rd w' (pb c) (po c + 2) = some (Value.map x_1) ∧
                                                                ∃ (x_2 : Option Addr),
                                                                  lookIs Proofs.Try.prog 76 (Value.map x_1) (Value.int IntKind.i64 x) false (Value.pointer x_2) w' ∧
                                                                    Calls Proofs.Try.prog 64 #[Value.pointer x_2] w' fun (e : Ending) (w' : World) =>
                                                                      ∃ (b_1 : Bool),
                                                                        e = Ending.returned (Value.bool b_1) ∧
                                                                          Wif b_1
                                                                            (Wif (isP c)
                                                                              (∃ (x_3 : Option Nat),
                                                                                rd w' (pb c) (po c + 2) = some (Value.map x_3) ∧
                                                                                  ∃ (x_4 : Option Addr),
                                                                                    lookIs Proofs.Try.prog 76 (Value.map x_3) (Value.int IntKind.i64 x) false (Value.pointer x_4) w' ∧
                                                                                      Calls Proofs.Try.prog 19 #[Value.pointer x_4] w' fun (e : Ending) (w' : World) =>
                                                                                        ∃ (n : Int),
                                                                                          ∃ (n_5 : Int),
                                                                                            e = Ending.returned (Value.tuple #[Value.int IntKind.i64 n, Value.int IntKind.i64 n_5]) ∧
                                                                                              K (Value.tuple #[Value.int IntKind.i64 x, Value.int IntKind.i64 n, Value.int IntKind.i64 n_5]) w')
                                                                              False)
                                                                            (∃ (m : Nat), Nat.succ m ≤ n_4 ∧ I n b (IntKind.wrap IntKind.i64 (n_3 + 1)) w' m))
                                                            False)
                                                      False)
                                                    False)
                                                  (K (Value.tuple #[Value.int IntKind.i64 0, Value.int IntKind.i64 0, Value.int IntKind.i64 7]) w'))))
theorem vcE41 (c : Option
  Addr) (w : World) (K : Value → World → Prop) : vcP41 c w K = Eng.wBody Go.Proofs.Try.prog (Eng.handOf Go.Proofs.Try.prog [59,
 62] 1) [] Go.Proofs.Try.f41 (Eng.bodyOf Go.Proofs.Try.f41) [Value.pointer c] w K := by kernel_rfl
theorem vc41 (c : Option Addr) (w : World) (K : Value → World → Prop) (h : vcP41 c w K) :
    Calls Go.Proofs.Try.prog 41 #[Value.pointer c] w (fun e w' => ∃ v, e = .returned v ∧ K v w') :=
  Eng.vc_of [59, 62] 1 [] Go.Proofs.Try.mixes Go.Proofs.Try.func41 (by kernel_rfl) (by kernel_rfl) (vcE41 c w K) h

-- 3334 ms
/- (*byre/cache.Cache).Drop -/
def vcP42 (c : Option Addr) (frame : Int) (w : World) (K : Value → World → Prop) : Prop :=
  Calls Proofs.Try.prog 40 #[Value.pointer c, Value.int IntKind.i64 frame] w fun (e : Ending) (w' : World) =>
    ∃ (p : Option Addr),
      ∃ (n : Int),
        e = Ending.returned (Value.tuple #[Value.pointer p, Value.int IntKind.i64 n]) ∧
          Wif (n != 0) (K (Value.int IntKind.i64 n) w')
            (Calls Proofs.Try.prog 64 #[Value.pointer p] w' fun (e : Ending) (w' : World) =>
              ∃ (b : Bool),
                e = Ending.returned (Value.bool b) ∧
                  Wif (!b) (K (Value.int IntKind.i64 80) w')
                    (Wif (isP c)
                      (∃ (x : Option Nat),
                        rd w' (pb c) (po c + 2) = some (Value.map x) ∧
                          ∃ (w'_1 : World), delIs Proofs.Try.prog #[76, 3] 0 (Value.map x) (Value.int IntKind.i64 frame) w' w'_1 ∧ K (Value.int IntKind.i64 0) w'_1)
                      False))
theorem vcE42 (c : Option
  Addr) (frame : Int) (w : World) (K : Value → World → Prop) : vcP42 c frame w K = Eng.wBody Go.Proofs.Try.prog (Eng.handOf Go.Proofs.Try.prog [59] 1) [] Go.Proofs.Try.f42 (Eng.bodyOf Go.Proofs.Try.f42) [Value.pointer
    c,
  Value.int IntKind.i64 frame] w K := by kernel_rfl
theorem vc42 (c : Option Addr) (frame : Int) (w : World) (K : Value → World → Prop) (h : vcP42 c frame w K) :
    Calls Go.Proofs.Try.prog 42 #[Value.pointer c, Value.int IntKind.i64 frame] w (fun e w' => ∃ v, e = .returned v ∧ K v w') :=
  Eng.vc_of [59] 1 [] Go.Proofs.Try.mixes Go.Proofs.Try.func42 (by kernel_rfl) (by kernel_rfl) (vcE42 c frame w K) h

-- 420 ms
/- (*byre/cache.Cache).Empty -/
def vcP44 (c : Option Addr) (w : World) (K : Value → World → Prop) : Prop :=
  ∀ (w' : World),
    w' = World.alloc w (Obj.cells #[Value.pointer c] 61) →
      ∃ (x : Option Addr),
        rd w' (Array.size (World.heap w)) 0 = some (Value.pointer x) ∧
          Calls Proofs.Try.prog 39 #[Value.pointer x] w' fun (e : Ending) (w' : World) =>
            ∃ (a : Option Addr),
              ∃ (l : Nat),
                ∃ (c : Nat),
                  e = Ending.returned (Value.slice a l c) ∧
                    Calls Proofs.Try.prog 65 #[Value.slice a l c, Value.func (Fn.func 66) #[] #[Value.pointer (some (Addr.mk (Array.size (World.heap w)) 0 none))]] w' fun (e : Ending) (w' : World) =>
                      ∃ (a : Option Addr), ∃ (l : Nat), ∃ (c : Nat), e = Ending.returned (Value.slice a l c) ∧ K (Value.slice a l c) w'
theorem vcE44 (c : Option
  Addr) (w : World) (K : Value → World → Prop) : vcP44 c w K = Eng.wBody Go.Proofs.Try.prog (Eng.handOf Go.Proofs.Try.prog [59] 1) [] Go.Proofs.Try.f44 (Eng.bodyOf Go.Proofs.Try.f44) [Value.pointer
    c] w K := by kernel_rfl
theorem vc44 (c : Option Addr) (w : World) (K : Value → World → Prop) (h : vcP44 c w K) :
    Calls Go.Proofs.Try.prog 44 #[Value.pointer c] w (fun e w' => ∃ v, e = .returned v ∧ K v w') :=
  Eng.vc_of [59] 1 [] Go.Proofs.Try.mixes Go.Proofs.Try.func44 (by kernel_rfl) (by kernel_rfl) (vcE44 c w K) h

-- 107 ms
/- (*byre/cache.Cache).Size -/
def vcP45 (c : Option Addr) (w : World) (K : Value → World → Prop) : Prop :=
  gIf (isP c) (Option.isNone c = false)
    (∃ (x : Option Nat),
      (Option.isNone c = false → rd w (pb c) (po c + 2) = some (Value.map x)) ∧
        Wif (Option.isNone c || Option.isNone x) (K (Value.int IntKind.i64 0) w) (Wif (isP c) (∃ (x : Int), rd w (pb c) (po c) = some (Value.int IntKind.i64 x) ∧ K (Value.int IntKind.i64 x) w) False))
theorem vcE45 (c : Option
  Addr) (w : World) (K : Value → World → Prop) : vcP45 c w K = Eng.wBody Go.Proofs.Try.prog (Eng.handOf Go.Proofs.Try.prog [59] 1) [] Go.Proofs.Try.f45 (Eng.bodyOf Go.Proofs.Try.f45) [Value.pointer
    c] w K := by kernel_rfl
theorem vc45 (c : Option Addr) (w : World) (K : Value → World → Prop) (h : vcP45 c w K) :
    Calls Go.Proofs.Try.prog 45 #[Value.pointer c] w (fun e w' => ∃ v, e = .returned v ∧ K v w') :=
  Eng.vc_of [59] 1 [] Go.Proofs.Try.mixes Go.Proofs.Try.func45 (by kernel_rfl) (by kernel_rfl) (vcE45 c w K) h

-- 208 ms
/- (*byre/cache.Cache).Take$1 -/
def vcP63 (s : Option Addr) (w : World) (K : Value → World → Prop) : Prop :=
  Calls Proofs.Try.prog 18 #[Value.pointer s] w fun (e : Ending) (w' : World) =>
    ∃ (n : Int),
      e = Ending.returned (Value.int IntKind.i64 n) ∧
        Wif (decide (n > 0))
          (Calls Proofs.Try.prog 18 #[Value.pointer s] w' fun (e : Ending) (w' : World) =>
            ∃ (n : Int),
              e = Ending.returned (Value.int IntKind.i64 n) ∧
                Calls Proofs.Try.prog 17 #[Value.pointer s] w' fun (e : Ending) (w' : World) => ∃ (n_1 : Int), e = Ending.returned (Value.int IntKind.i64 n_1) ∧ K (Value.bool (decide (n < n_1))) w')
          (K (Value.bool false) w')
theorem vcE63 (s : Option
  Addr) (w : World) (K : Value → World → Prop) : vcP63 s w K = Eng.wBody Go.Proofs.Try.prog (Eng.handOf Go.Proofs.Try.prog [59] 1) [] Go.Proofs.Try.f63 (Eng.bodyOf Go.Proofs.Try.f63) [Value.pointer
    s] w K := by kernel_rfl
theorem vc63 (s : Option Addr) (w : World) (K : Value → World → Prop) (h : vcP63 s w K) :
    Calls Go.Proofs.Try.prog 63 #[Value.pointer s] w (fun e w' => ∃ v, e = .returned v ∧ K v w') :=
  Eng.vc_of [59] 1 [] Go.Proofs.Try.mixes Go.Proofs.Try.func63 (by kernel_rfl) (by kernel_rfl) (vcE63 s w K) h

-- 167 ms
/- byre/cache.empty -/
def vcP64 (s : Option Addr) (w : World) (K : Value → World → Prop) : Prop :=
  Calls Proofs.Try.prog 18 #[Value.pointer s] w fun (e : Ending) (w' : World) =>
    ∃ (n : Int),
      e = Ending.returned (Value.int IntKind.i64 n) ∧
        Calls Proofs.Try.prog 17 #[Value.pointer s] w' fun (e : Ending) (w' : World) => ∃ (n_1 : Int), e = Ending.returned (Value.int IntKind.i64 n_1) ∧ K (Value.bool (n == n_1)) w'
theorem vcE64 (s : Option
  Addr) (w : World) (K : Value → World → Prop) : vcP64 s w K = Eng.wBody Go.Proofs.Try.prog (Eng.handOf Go.Proofs.Try.prog [59] 1) [] Go.Proofs.Try.f64 (Eng.bodyOf Go.Proofs.Try.f64) [Value.pointer
    s] w K := by kernel_rfl
theorem vc64 (s : Option Addr) (w : World) (K : Value → World → Prop) (h : vcP64 s w K) :
    Calls Go.Proofs.Try.prog 64 #[Value.pointer s] w (fun e w' => ∃ v, e = .returned v ∧ K v w') :=
  Eng.vc_of [59] 1 [] Go.Proofs.Try.mixes Go.Proofs.Try.func64 (by kernel_rfl) (by kernel_rfl) (vcE64 s w K) h

-- 93 ms
/- (*byre/cache.Cache).Empty$1 -/
def vcP66 (f : Int) (c1_0 : Option Addr) (w : World) (K : Value → World → Prop) : Prop :=
  Wif (isP c1_0)
    (∃ (x : Option Addr),
      rd w (pb c1_0) (po c1_0) = some (Value.pointer x) ∧
        Wif (isP x)
          (∃ (x_1 : Option Nat),
            rd w (pb x) (po x + 2) = some (Value.map x_1) ∧
              ∃ (x : Option Addr),
                lookIs Proofs.Try.prog 76 (Value.map x_1) (Value.int IntKind.i64 f) false (Value.pointer x) w ∧
                  Calls Proofs.Try.prog 64 #[Value.pointer x] w fun (e : Ending) (w' : World) => ∃ (b : Bool), e = Ending.returned (Value.bool b) ∧ K (Value.bool !b) w')
          False)
    False
theorem vcE66 (f : Int) (c1_0 : Option
  Addr) (w : World) (K : Value → World → Prop) : vcP66 f c1_0 w K = Eng.wBody Go.Proofs.Try.prog (Eng.handOf Go.Proofs.Try.prog [59] 1) [] Go.Proofs.Try.f66 (Eng.bodyOf Go.Proofs.Try.f66) [Value.int
    IntKind.i64 f,
  Value.pointer c1_0] w K := by kernel_rfl
theorem vc66 (f : Int) (c1_0 : Option Addr) (w : World) (K : Value → World → Prop) (h : vcP66 f c1_0 w K) :
    Calls Go.Proofs.Try.prog 66 #[Value.int IntKind.i64 f, Value.pointer c1_0] w (fun e w' => ∃ v, e = .returned v ∧ K v w') :=
  Eng.vc_of [59] 1 [] Go.Proofs.Try.mixes Go.Proofs.Try.func66 (by kernel_rfl) (by kernel_rfl) (vcE66 f c1_0 w K) h

-- 133 ms
/- slices.DeleteFunc[[]int,int] -/
def vcP65 (s : Option Addr) (sL : Nat) (sC : Nat) (c1_0 : Option Addr) (w : World) (K : Value → World → Prop) : Prop :=
  Calls Proofs.Try.prog 72 #[Value.slice s sL sC, Value.func (Fn.func 66) #[] #[Value.pointer c1_0]] w fun (e : Ending) (w' : World) =>
    ∃ (n : Int),
      e = Ending.returned (Value.int IntKind.i64 n) ∧
        Wif (n == -1) (K (Value.slice s sL sC) w')
          (∃ (I : Int → Int → World → Nat → Prop),
            (∃ (n_1 : Nat), I n (IntKind.wrap IntKind.i64 (n + 1)) w' n_1) ∧
              ∀ (n n_1 : Int) (w' : World) (n_2 : Nat),
                I n n_1 w' n_2 →
                  Wif (decide (n_1 < (↑sL : Int)))
                    (Wif (isP s)
                      (Wif (inB n_1 sL)
                        (∃ (x : Int),
                          rd w' (pb s) (po s + Int.toNat n_1 * 1) = some (Value.int IntKind.i64 x) ∧
                            Calls Proofs.Try.prog 66 #[Value.int IntKind.i64 x, Value.pointer c1_0] w' fun (e : Ending) (w' : World) =>
                              ∃ (b : Bool),
                                e = Ending.returned (Value.bool b) ∧
                                  Wif (!b)
                                    (Wif (isP s)
                                      (Wif (inB n sL)
                                        (wr w' (pb s) (po s + Int.toNat n * 1) ∧
                                          ∀ (w'_1 : World),
                                            w'_1 = st w' (pb s) (po s + Int.toNat n * 1) (Value.int IntKind.i64 x) →
                                              ∃ (m : Nat), Nat.succ m ≤ n_2 ∧ I (IntKind.wrap IntKind.i64 (n + 1)) (IntKind.wrap IntKind.i64 (n_1 + 1)) w'_1 m)
                                        False)
                                      False)
                                    (∃ (m : Nat), Nat.succ m ≤ n_2 ∧ I n (IntKind.wrap IntKind.i64 (n_1 + 1)) w' m))
                        False)
                      False)
                    (Wif (okSl n (↑sL : Int) (↑sC : Int))
                      (∃ (w'_1 : World),
                        clrIs Proofs.Try.prog #[33] 0 (Value.slice (offA s sC (Int.toNat n) 1) (sL - Int.toNat n) (sC - Int.toNat n)) w' w'_1 ∧
                          Wif (okSl 0 n (↑sC : Int)) (K (Value.slice s (Int.toNat n) sC) w'_1) False)
                      False))
theorem vcE65 (s : Option
  Addr) (sL : Nat) (sC : Nat) (c1_0 : Option
  Addr) (w : World) (K : Value → World → Prop) : vcP65 s sL sC c1_0 w K = Eng.wBody Go.Proofs.Try.prog (Eng.handOf Go.Proofs.Try.prog [59] 1) [] Go.Proofs.Try.f65 (Eng.bodyOf Go.Proofs.Try.f65) [Value.slice
    s sL sC,
  Value.func (Fn.func 66) #[] #[Value.pointer c1_0]] w K := by kernel_rfl
theorem vc65 (s : Option Addr) (sL : Nat) (sC : Nat) (c1_0 : Option Addr) (w : World) (K : Value → World → Prop) (h : vcP65 s sL sC c1_0 w K) :
    Calls Go.Proofs.Try.prog 65 #[Value.slice s sL sC, Value.func (Fn.func 66) #[] #[Value.pointer c1_0]] w (fun e w' => ∃ v, e = .returned v ∧ K v w') :=
  Eng.vc_of [59] 1 [] Go.Proofs.Try.mixes Go.Proofs.Try.func65 (by kernel_rfl) (by kernel_rfl) (vcE65 s sL sC c1_0 w K) h

-- 1640 ms
/- slices.IndexFunc[[]int,int] -/
def vcP72 (s : Option Addr) (sL : Nat) (sC : Nat) (c1_0 : Option Addr) (w : World) (K : Value → World → Prop) : Prop :=
  ∃ (I : Int → Int → World → Nat → Prop),
    (∃ (n : Nat), I 0 0 w n) ∧
      ∀ (n n_1 : Int) (w' : World) (n_2 : Nat),
        I n n_1 w' n_2 →
          Wif (decide (n_1 < (↑sL : Int)))
            (Wif (isP s)
              (Wif (inB n_1 sL)
                (∃ (x : Int),
                  rd w' (pb s) (po s + Int.toNat n_1 * 1) = some (Value.int IntKind.i64 x) ∧
                    Calls Proofs.Try.prog 66 #[Value.int IntKind.i64 x, Value.pointer c1_0] w' fun (e : Ending) (w' : World) =>
                      ∃ (b : Bool), e = Ending.returned (Value.bool b) ∧ Wif b (K (Value.int IntKind.i64 n_1) w') (∃ (m : Nat), Nat.succ m ≤ n_2 ∧ I n (IntKind.wrap IntKind.i64 (n_1 + 1)) w' m))
                False)
              False)
            (K (Value.int IntKind.i64 (-1)) w')
theorem vcE72 (s : Option
  Addr) (sL : Nat) (sC : Nat) (c1_0 : Option
  Addr) (w : World) (K : Value → World → Prop) : vcP72 s sL sC c1_0 w K = Eng.wBody Go.Proofs.Try.prog (Eng.handOf Go.Proofs.Try.prog [59] 1) [] Go.Proofs.Try.f72 (Eng.bodyOf Go.Proofs.Try.f72) [Value.slice
    s sL sC,
  Value.func (Fn.func 66) #[] #[Value.pointer c1_0]] w K := by kernel_rfl
theorem vc72 (s : Option Addr) (sL : Nat) (sC : Nat) (c1_0 : Option Addr) (w : World) (K : Value → World → Prop) (h : vcP72 s sL sC c1_0 w K) :
    Calls Go.Proofs.Try.prog 72 #[Value.slice s sL sC, Value.func (Fn.func 66) #[] #[Value.pointer c1_0]] w (fun e w' => ∃ v, e = .returned v ∧ K v w') :=
  Eng.vc_of [59] 1 [] Go.Proofs.Try.mixes Go.Proofs.Try.func72 (by kernel_rfl) (by kernel_rfl) (vcE72 s sL sC c1_0 w K) h

-- 322 ms
/- byre/byrelaw09.known -/
def vcP36 (w : World) (K : Value → World → Prop) : Prop :=
  Calls Proofs.Try.prog 35 #[Value.int IntKind.i64 128] w fun (e : Ending) (w' : World) =>
    ∃ (p : Option Addr),
      ∃ (n : Int),
        e = Ending.returned (Value.tuple #[Value.pointer p, Value.int IntKind.i64 n]) ∧
          Wif (n != 0) (K (Value.bool false) w')
            (∀ (w'_1 : World),
              w'_1 = World.alloc w' (Obj.cells (List.toArray (List.replicate 256 (Value.int IntKind.u8 0))) 5) →
                Calls Proofs.Try.prog 37 #[Value.pointer p, Value.int IntKind.i64 3, Value.slice (some (Addr.mk (Array.size (World.heap w')) 0 none)) 256 256] w'_1 fun (e : Ending) (w' : World) =>
                  ∃ (n : Int),
                    e = Ending.returned (Value.int IntKind.i64 n) ∧
                      Wif (n != 0) (K (Value.bool false) w')
                        (∀ (w'_2 : World),
                          w'_2 = World.alloc w' (Obj.cells (List.toArray (List.replicate 256 (Value.int IntKind.u8 0))) 5) →
                            Calls Proofs.Try.prog 37 #[Value.pointer p, Value.int IntKind.i64 5, Value.slice (some (Addr.mk (Array.size (World.heap w')) 0 none)) 256 256] w'_2
                              fun (e : Ending) (w' : World) =>
                              ∃ (n : Int),
                                e = Ending.returned (Value.int IntKind.i64 n) ∧
                                  Wif (n != 0) (K (Value.bool false) w')
                                    (Calls Proofs.Try.prog 41 #[Value.pointer p] w' fun (e : Ending) (w' : World) =>
                                      ∃ (n : Int),
                                        ∃ (n_1 : Int),
                                          ∃ (n_2 : Int),
                                            e = Ending.returned (Value.tuple #[Value.int IntKind.i64 n, Value.int IntKind.i64 n_1, Value.int IntKind.i64 n_2]) ∧
                                              Calls Proofs.Try.prog 41 #[Value.pointer p] w' fun (e : Ending) (w' : World) =>
                                                ∃ (n_3 : Int),
                                                  ∃ (n_4 : Int),
                                                    ∃ (n_5 : Int),
                                                      e = Ending.returned (Value.tuple #[Value.int IntKind.i64 n_3, Value.int IntKind.i64 n_4, Value.int IntKind.i64 n_5]) ∧
                                                        Calls Proofs.Try.prog 41 #[Value.pointer p] w' fun (e : Ending) (w' : World) =>
                                                          ∃ (n_6 : Int),
                                                            ∃ (n_7 : Int),
                                                              ∃ (n_8 : Int),
                                                                e = Ending.returned (Value.tuple #[Value.int IntKind.i64 n_6, Value.int IntKind.i64 n_7, Value.int IntKind.i64 n_8]) ∧
                                                                  Wif (n == 3 && n_3 == 3 && n_4 == 1 && n_6 == 5 && n_7 == 0)
                                                                    (Calls Proofs.Try.prog 38 #[Value.pointer p, Value.int IntKind.i64 3, Value.int IntKind.i64 1] w' fun (e : Ending) (w' : World) =>
                                                                      ∃ (n : Int),
                                                                        e = Ending.returned (Value.int IntKind.i64 n) ∧
                                                                          Wif (n == 0)
                                                                            (Calls Proofs.Try.prog 42 #[Value.pointer p, Value.int IntKind.i64 5] w' fun (e : Ending) (w' : World) =>
                                                                              ∃ (n : Int), e = Ending.returned (Value.int IntKind.i64 n) ∧ K (Value.bool (n == 80)) w')
                                                                            (K (Value.bool false) w'))
                                                                    (K (Value.bool false) w'))))
theorem vcE36 (w : World) (K : Value → World → Prop) : vcP36  w K = Eng.wBody Go.Proofs.Try.prog (Eng.handOf Go.Proofs.Try.prog [] 1) [] Go.Proofs.Try.f36 (Eng.bodyOf Go.Proofs.Try.f36) [] w K := by kernel_rfl
theorem vc36 (w : World) (K : Value → World → Prop) (h : vcP36  w K) :
    Calls Go.Proofs.Try.prog 36 #[] w (fun e w' => ∃ v, e = .returned v ∧ K v w') :=
  Eng.vc_of [] 1 [] Go.Proofs.Try.mixes Go.Proofs.Try.func36 (by kernel_rfl) (by kernel_rfl) (vcE36  w K) h

-- 5664 ms

end Go.Proofs.Ytkancagfhbkhiaa
