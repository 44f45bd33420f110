/-
  Part C of an engine: binary operations. Proved: their answers on typed values. Conditions: none beyond each theorem's own.
-/
import Derived.Test.YtklmokolnakkoaaGreatDoorEngB
set_option linter.unusedVariables false
set_option linter.unusedSimpArgs false
namespace Go.Eng

def qBin (P : Program) (op : BinOp) (t : TypeId) (x y : Value) : QRes :=
  match x, y with
  | .int k a, .int k' b =>
    (match op with
     | .shl => .chk (decide (0 ≤ b)) (.ret (.int k (k.wrap (a * 2 ^ (min b.toNat k.bits)))))
     | .shr => .chk (decide (0 ≤ b)) (.ret (.int k (a.fdiv (2 ^ (min b.toNat k.bits)))))
     | op =>
       match decide (k = k') with
       | false => .fail
       | true =>
         match op with
         | .add => .ret (.int k (k.wrap (a + b)))
         | .sub => .ret (.int k (k.wrap (a - b)))
         | .mul => .ret (.int k (k.wrap (a * b)))
         | .quo => .chk (b != 0) (.ret (.int k (k.wrap (a.tdiv b))))
         | .rem => .chk (b != 0) (.ret (.int k (a.tmod b)))
         | .and => .ret (.int k (bitsI .and k a b))
         | .or => .ret (.int k (bitsI .or k a b))
         | .xor => .ret (.int k (bitsI .xor k a b))
         | .andNot => .ret (.int k (bitsI .andNot k a b))
         | .eql => .ret (.bool (a == b))
         | .neq => .ret (.bool (a != b))
         | .lss => .ret (.bool (decide (a < b)))
         | .leq => .ret (.bool (decide (a ≤ b)))
         | .gtr => .ret (.bool (decide (a > b)))
         | .geq => .ret (.bool (decide (a ≥ b)))
         | _ => .fail)
  | .string a, .string b =>
    (match op with
     | .eql => .ret (.bool (a.toList == b.toList))
     | .neq => .ret (.bool (!(a.toList == b.toList)))
     | .lss => .ret (.bool (Op.bytesLess a.toList b.toList))
     | .leq => .ret (.bool (Op.bytesLess a.toList b.toList || a.toList == b.toList))
     | .gtr => .ret (.bool (!(Op.bytesLess a.toList b.toList || a.toList == b.toList)))
     | .geq => .ret (.bool (!(Op.bytesLess a.toList b.toList)))
     | .add => .chk (decide (((a.size + b.size : Nat) : Int) ≤ 9223372036854775807)) (.ret (.string (a ++ b)))
     | _ => .fail)
  | .bool a, .bool b =>
    (match P.underlying t, op with
     | some .bool, .eql => .ret (.bool (a == b))
     | some .bool, .neq => .ret (.bool (!(a == b)))
     | _, _ => .fail)
  | .pointer p, .pointer none =>
    (match P.underlying t, op with
     | some (.pointer _), .eql => .ret (.bool p.isNone)
     | some (.pointer _), .neq => .ret (.bool (!p.isNone))
     | _, _ => .fail)
  | .slice a _ _, .slice none _ _ =>
    (match P.underlying t, op with
     | some (.slice _), .eql => .ret (.bool a.isNone)
     | some (.slice _), .neq => .ret (.bool (!a.isNone))
     | _, _ => .fail)
  | .map r, .map none =>
    (match P.underlying t, op with
     | some (.map _ _), .eql => .ret (.bool r.isNone)
     | some (.map _ _), .neq => .ret (.bool (!r.isNone))
     | _, _ => .fail)
  | .func _ _ _, .nilFunc =>
    (match P.underlying t, op with
     | some (.func _ _ _), .eql => .ret (.bool false)
     | some (.func _ _ _), .neq => .ret (.bool (!false))
     | _, _ => .fail)
  | .nilFunc, .nilFunc =>
    (match P.underlying t, op with
     | some (.func _ _ _), .eql => .ret (.bool true)
     | some (.func _ _ _), .neq => .ret (.bool (!true))
     | _, _ => .fail)
  | .agg xs, .agg ys =>
    (match P.eqGuardType P.depth t, op with
     | false, .eql => (match eqT P 10000 t (.agg xs) (.agg ys) with | some r => .ret (.bool r) | none => .fail)
     | false, .neq => (match eqT P 10000 t (.agg xs) (.agg ys) with | some r => .ret (.bool (!r)) | none => .fail)
     | _, _ => .fail)
  | _, _ => .fail

section
variable {P : Program} {w : World}
theorem run_agg_eql {t : TypeId} {xs ys : Array Value} {r : Bool} (h : eqT P 10000 t (.agg xs) (.agg ys) = some r) : (Op.equal t (.agg xs) (.agg ys)).run P w = .ok r w :=
  eqT_run 10000 t _ _ r w h

theorem eqIn_bool (d : Nat) {t : TypeId} (hu : P.underlying t = some .bool) (a b : Bool) : (Op.equalIn (d + 1) t (.bool a) (.bool b)).run P w = .ok (a == b) w := by
  simp [Op.equalIn, run_underlying hu]
theorem eqIn_pointer (d : Nat) {t e : TypeId} (hu : P.underlying t = some (.pointer e)) (p : Option Addr) : (Op.equalIn (d + 1) t (.pointer p) (.pointer none)).run P w = .ok p.isNone w := by
  cases p <;> simp [Op.equalIn, run_underlying hu]
theorem eqIn_slice (d : Nat) {t e : TypeId} (hu : P.underlying t = some (.slice e)) (p : Option Addr) (a b c f : Nat) : (Op.equalIn (d + 1) t (.slice p a b) (.slice none c f)).run P w = .ok p.isNone w := by
  cases p <;> simp [Op.equalIn, run_underlying hu]
theorem eqIn_map (d : Nat) {t e f : TypeId} (hu : P.underlying t = some (.map e f)) (p : Option Nat) : (Op.equalIn (d + 1) t (.map p) (.map none)).run P w = .ok p.isNone w := by
  cases p <;> simp [Op.equalIn, run_underlying hu]
theorem eqIn_func (d : Nat) {t : TypeId} {ps rs : Array TypeId} {va : Bool} (hu : P.underlying t = some (.func ps rs va)) (f : Fn) (a c : Array Value) : (Op.equalIn (d + 1) t (.func f a c) .nilFunc).run P w = .ok false w := by
  simp [Op.equalIn, run_underlying hu]
theorem eqIn_nilFunc (d : Nat) {t : TypeId} {ps rs : Array TypeId} {va : Bool} (hu : P.underlying t = some (.func ps rs va)) : (Op.equalIn (d + 1) t .nilFunc .nilFunc).run P w = .ok true w := by
  simp [Op.equalIn, run_underlying hu]
theorem eql_of {t : TypeId} {x y : Value} {r : Bool} (hd : binOp .eql t x y = (do pure (.bool (← Op.equal t x y)) : Sem Value)) (h : (Op.equalIn (9999 + 1) t x y).run P w = .ok r w) :
    (binOp .eql t x y).run P w = .ok (.bool r) w := by
  rw [hd, Sem.run_bind]
  show (Result.andThen ((Op.equalIn (9999 + 1) t x y).run P w) _) = _
  rw [h]; rfl
theorem neq_of {t : TypeId} {x y : Value} {r : Bool} (hd : binOp .neq t x y = (do pure (.bool (!(← Op.equal t x y))) : Sem Value)) (h : (Op.equalIn (9999 + 1) t x y).run P w = .ok r w) :
    (binOp .neq t x y).run P w = .ok (.bool (!r)) w := by
  rw [hd, Sem.run_bind]
  show (Result.andThen ((Op.equalIn (9999 + 1) t x y).run P w) _) = _
  rw [h]; rfl

theorem qBin_sound {op : BinOp} {t : TypeId} {x y : Value} {c : World → Prop} {v : Value} (h : Spec (qBin P op t x y) c v) (ox oy : Operand) :
    ((do eqGuard op t ox oy x y; binOp op t x y : Sem Value)).run P w = .ok v w := by
  unfold qBin at h
  split at h
  · -- ints
    rename_i k a k' b
    simp only [eqGuard_at_int, Sem.run_bind, Sem.run_pure, Result.andThen_ok]
    split at h
    · generalize hb : decide (0 ≤ b) = z at h
      cases h with | chk h => cases h; have hb := of_decide_eq_true hb; simp [binOp, Op.shift, Int.not_lt.2 hb]
    · generalize hb : decide (0 ≤ b) = z at h
      cases h with | chk h => cases h; have hb := of_decide_eq_true hb; simp [binOp, Op.shift, Int.not_lt.2 hb]
    · rename_i hs1 hs2
      split at h
      · cases h
      · rename_i hk
        have hk := of_decide_eq_true hk
        subst hk
        split at h
        · cases h; simp [binOp, Op.intArith]
        · cases h; simp [binOp, Op.intArith]
        · cases h; simp [binOp, Op.intArith]
        · generalize hb : (b != 0) = z at h
          cases h with | chk h => cases h; have hb : ¬ b = 0 := by simpa using hb
                                  simp [binOp, Op.intDiv, hb]
        · generalize hb : (b != 0) = z at h
          cases h with | chk h => cases h; have hb : ¬ b = 0 := by simpa using hb
                                  simp [binOp, Op.intDiv, hb]
        · cases h; simp [binOp, Op.intBits, bitsI]
        · cases h; simp [binOp, Op.intBits, bitsI]
        · cases h; simp [binOp, Op.intBits, bitsI]
        · cases h; simp [binOp, Op.intBits, bitsI]
        · cases h; simp [binOp, Op.intCmp]
        · cases h; simp [binOp, Op.intCmp]
        · cases h; simp [binOp, Op.intCmp]
        · cases h; simp [binOp, Op.intCmp]
        · cases h; simp [binOp, Op.intCmp]
        · cases h; simp [binOp, Op.intCmp]
        · cases h
  · rename_i a b
    simp only [eqGuard_at_string, Sem.run_bind, Sem.run_pure, Result.andThen_ok]
    split at h
    · cases h; simp [binOp, Op.stringOp]
    · cases h; simp [binOp, Op.stringOp]
    · cases h; simp [binOp, Op.stringOp]
    · cases h; simp [binOp, Op.stringOp]
    · cases h; simp [binOp, Op.stringOp]
    · cases h; simp [binOp, Op.stringOp]
    · generalize hb : decide (((a.size + b.size : Nat) : Int) ≤ 9223372036854775807) = z at h
      cases h with | chk h => cases h; have hb := of_decide_eq_true hb
                              simp only [binOp, Op.stringOp, IntKind.max_i64]
                              rw [if_neg (by omega)]; rfl
    · cases h
  · rename_i a b
    simp only [eqGuard_at_bool, Sem.run_bind, Sem.run_pure, Result.andThen_ok]
    split at h
    · rename_i hu; cases h; exact eql_of rfl (eqIn_bool _ hu _ _)
    · rename_i hu; cases h; exact neq_of rfl (eqIn_bool _ hu _ _)
    · cases h
  · rename_i p
    simp only [eqGuard_at_pointer, Sem.run_bind, Sem.run_pure, Result.andThen_ok]
    split at h
    · rename_i hu; cases h; exact eql_of rfl (eqIn_pointer _ hu _)
    · rename_i hu; cases h; exact neq_of rfl (eqIn_pointer _ hu _)
    · cases h
  · rename_i a _ _ _ _
    simp only [eqGuard_at_slice, Sem.run_bind, Sem.run_pure, Result.andThen_ok]
    split at h
    · rename_i hu; cases h; exact eql_of rfl (eqIn_slice _ hu _ _ _ _ _)
    · rename_i hu; cases h; exact neq_of rfl (eqIn_slice _ hu _ _ _ _ _)
    · cases h
  · rename_i a
    simp only [eqGuard_at_map, Sem.run_bind, Sem.run_pure, Result.andThen_ok]
    split at h
    · rename_i hu; cases h; exact eql_of rfl (eqIn_map _ hu _)
    · rename_i hu; cases h; exact neq_of rfl (eqIn_map _ hu _)
    · cases h
  · rename_i f a c
    simp only [eqGuard_at_func, Sem.run_bind, Sem.run_pure, Result.andThen_ok]
    split at h
    · rename_i hu; cases h; exact eql_of rfl (eqIn_func _ hu _ _ _)
    · rename_i hu; cases h; exact neq_of rfl (eqIn_func _ hu _ _ _)
    · cases h
  · simp only [eqGuard_at_nilFunc, Sem.run_bind, Sem.run_pure, Result.andThen_ok]
    split at h
    · rename_i hu; cases h; exact eql_of rfl (eqIn_nilFunc _ hu)
    · rename_i hu; cases h; exact neq_of rfl (eqIn_nilFunc _ hu)
    · cases h
  · rename_i xs ys
    split at h
    · rename_i hg
      split at h
      · rename_i r hr; cases h
        simp [eqGuard, hg, binOp, run_agg_eql hr]
      · cases h
    · rename_i hg
      split at h
      · rename_i r hr; cases h
        simp [eqGuard, hg, binOp, run_agg_eql hr]
      · cases h
    · cases h
  · cases h

end
end Go.Eng
