/-
  Part G of an engine: operations with an effect. Proved: each leads to the world that its condition names. Conditions: none beyond each theorem's own.
-/
import Derived.Test.YtklmokolnakkoaaGreatDoorEngF
import Derived.RowKit
set_option linter.unusedVariables false
set_option linter.unusedSimpArgs false
namespace Go.Eng

abbrev Hand := FuncId → List Value → World → (Value → World → Prop) → Prop
def callB (P : Program) (f : FuncId) : Bool :=
  match P.funcs[f]? with
  | some fn => fn.body.isSome && !(fn.name == "runtime.NumGoroutine")
  | none => false
def HSound (P : Program) (H : Hand) : Prop :=
  ∀ f args w K, H f args w K → callB P f = true → Calls P f args.toArray w (fun e w' => ∃ v, e = .returned v ∧ K v w')
def callRes (P : Program) (f : FuncId) (K : Value → World → Prop) (e : Ending) (w' : World) : Prop :=
  match P.funcs[f]? with
  | some fn => retE P fn.resultTypes.toList fun v => e = .returned v ∧ K v w'
  | none => False
def H0 (P : Program) : Hand := fun f args w K => Calls P f args.toArray w (callRes P f K)
theorem H0_sound (P : Program) : HSound P (H0 P) := by
  intro f args w K h _
  refine h.mono fun e w' he => ?_
  unfold callRes at he
  split at he
  · obtain ⟨v, h1, h2⟩ := retE_elim he; exact ⟨v, h1, h2⟩
  · exact he.elim

inductive CallsV (P : Program) (v : Value) (args : List Value) (w : World) (R : Ending → World → Prop) : Prop
  | mk (f : FuncId) (a c : Array Value) (h1 : v = .func (.func f) a c) (h2 : callB P f = true) (h3 : Calls P f (a ++ args.toArray ++ c) w R)
def resT (P : Program) (t : TypeId) : List TypeId :=
  match P.underlying t with
  | some (.tuple ts) => ts.toList
  | _ => [t]

def stAll (w : World) (b o : Nat) : List Value → World
  | [] => w
  | [v] => st w b o v
  | v :: v' :: vs => stAll (st w b o v) b (o + 1) (v' :: vs)
def wrAll (w : World) (b o : Nat) : List Value → Prop
  | [] => True
  | [_] => wr w b o
  | _ :: v' :: vs => wr w b o ∧ wrAll w b (o + 1) (v' :: vs)
def oneB : List Value → Bool
  | [] => true
  | v :: vs => v.oneCell' && oneB vs
def okMk (bytes : Nat) (l c : Int) : Bool := decide (0 ≤ l ∧ l ≤ c ∧ (bytes : Int) * c ≤ 281474976710656 ∧ c ≤ 9223372036854775807)
def zeroRow (z : Array Value) (n : Nat) : Array Value := (Array.range n).map (z[· % z.size]!)
def mkRow (z : Array Value) (size n : Nat) : Array Value :=
  match size, z.toList with
  | 1, [v] => Array.replicate n v
  | _, _ => zeroRow z (n * size)

structure appIs (P : Program) (ts : Array TypeId) (ty : TypeId) (s x v : Value) (w w' : World) : Prop where
  run : (Builtin.append_ ts ty #[s, x]).run P w = .ok v w'
structure cpyIs (P : Program) (ts : Array TypeId) (ty : TypeId) (s x v : Value) (w w' : World) : Prop where
  run : (Builtin.copy_ ts ty #[s, x]).run P w = .ok v w'
structure clrIs (P : Program) (ts : Array TypeId) (ty : TypeId) (s : Value) (w w' : World) : Prop where
  run : (Builtin.clear_ ts ty #[s]).run P w = .ok (.tuple #[]) w'
structure delIs (P : Program) (ts : Array TypeId) (ty : TypeId) (m k : Value) (w w' : World) : Prop where
  run : (Builtin.delete_ ts ty #[m, k]).run P w = .ok (.tuple #[]) w'
structure updIs (P : Program) (t : TypeId) (m k x : Value) (w w' : World) : Prop where
  run : (Instr.mapUpdate t m k x).run P w = .ok () w'
structure menIs (P : Program) (t : TypeId) (m k v : Value) (w w' : World) : Prop where
  run : (Instr.mapEntry t m k).run P w = .ok v w'
structure estIs (P : Program) (t : TypeId) (m s x : Value) (w w' : World) : Prop where
  run : (Instr.entryStore t m s x).run P w = .ok () w'
structure cnvIs (P : Program) (s d : TypeId) (x v : Value) (w w' : World) : Prop where
  run : (convert s d x).run P w = .ok v w'
structure rngIs (P : Program) (t : TypeId) (x v : Value) (w w' : World) : Prop where
  run : (Instr.range t x).run P w = .ok v w'
structure nxtIs (P : Program) (it : Value) (str : Bool) (ty : TypeId) (v : Value) (w w' : World) : Prop where
  run : (Instr.next it str ty).run P w = .ok v w'

def nextTys (P : Program) (ty : TypeId) : Option (TypeId × TypeId) :=
  match P.underlying ty with
  | some (.tuple ts) => (match ts.toList with | [_, a, b] => some (a, b) | _ => none)
  | _ => none
def eBuiltin (P : Program) (b : Builtin) (ts : Array TypeId) (ty : TypeId) (args : List Value) (w : World) (K : Value → World → Prop) : Prop :=
  match b, args with
  | .append, [s, x] => ∃ a : Option Addr, ∃ l c : Nat, ∃ w' : World, appIs P ts ty s x (.slice a l c) w w' ∧ K (.slice a l c) w'
  | .copy, [s, x] => ∃ n : Int, ∃ w' : World, cpyIs P ts ty s x (.int .i64 n) w w' ∧ K (.int .i64 n) w'
  | .clear, [s] => ∃ w' : World, clrIs P ts ty s w w' ∧ K (.tuple #[]) w'
  | .delete, [m, k] => ∃ w' : World, delIs P ts ty m k w w' ∧ K (.tuple #[]) w'
  | _, _ => False

def eOp (P : Program) (H : Hand) (ρ : Operand → Option Value) (o : Oper) (w : World) (K : Value → World → Prop) : Prop :=
  match o.op with
  | .alloc t =>
    (match P.info? t with
     | some i => (match i.zero with
       | some z => ∀ w', w' = w.alloc (.cells z.cells t) → K (.pointer (some ⟨w.heap.size, 0, none⟩)) w'
       | none => False)
     | none => False)
  | .box t x => (match ρ x with | some v => ∀ w', w' = w.alloc (.cells v.cells t) → K (.pointer (some ⟨w.heap.size, 0, none⟩)) w' | none => False)
  | .buildSlice t len parts =>
    (match P.underlying t, partsO ρ parts.toList with
     | some (.slice e), some ps =>
       (match P.info? e with
        | some i =>
          (match i.zero, decide (len * i.size ≤ 16777216) with
           | some z, true =>
             (match Instr.fill (fun j => some (j * i.size, i.size)) (match decide (len * i.size = 0) with | true => #[] | false => zeroRow z.cells (len * i.size)) ps with
              | some cells => ∀ w', w' = w.alloc (.cells cells e) → K (.slice (some ⟨w.heap.size, 0, none⟩) len len) w'
              | none => False)
           | _, _ => False)
        | none => False)
     | _, _ => False)
  | .makeSlice t l c =>
    (match P.underlying t, ρ l, ρ c with
     | some (.slice e), some (.int _ l), some (.int _ c) =>
       (match P.info? e with
        | some i =>
          (match i.zero with
           | some z => Wif (okMk i.bytes l c) (∀ w', w' = w.alloc (.cells (mkRow z.cells i.size c.toNat) e) → K (.slice (some ⟨w.heap.size, 0, none⟩) l.toNat c.toNat) w') False
           | none => False)
        | none => False)
     | _, _, _ => False)
  | .makeMap t r =>
    (match r with
     | none => ∀ w', w' = w.alloc (.map #[] 0) → K (.map (some w.heap.size)) w'
     | some x => (match P.underlying t, ρ x with
       | some (.map _ _), some (.int _ _) => ∀ w', w' = w.alloc (.map #[] 0) → K (.map (some w.heap.size)) w'
       | _, _ => False))
  | .store t a x =>
    (match ρ a, ρ x with
     | some (.pointer p), some v =>
       (match hasT P t && v.cells.toList.length == szT P t with
        | true => Wif (isP p && oneB v.cells.toList) (wrAll w (pb p) (po p) v.cells.toList ∧ ∀ w', w' = stAll w (pb p) (po p) v.cells.toList → K undef w') False
        | false => False)
     | _, _ => False)
  | .mapUpdate t m k x =>
    (match ρ m, ρ k, ρ x with
     | some m, some k, some x => ∃ w' : World, updIs P t m k x w w' ∧ K undef w'
     | _, _, _ => False)
  | .insert t m k x =>
    (match ρ m, ρ k, ρ x with
     | some m, some k, some x => ∃ w' : World, updIs P t m k x w w' ∧ K undef w'
     | _, _, _ => False)
  | .mapEntry t m k =>
    (match ρ m, ρ k with
     | some m, some k => ∃ z : Value, ∃ n : Int, ∃ w' : World, menIs P t m k (.tuple #[z, .int .i64 n]) w w' ∧ K (.tuple #[z, .int .i64 n]) w'
     | _, _ => False)
  | .entryStore t m s x =>
    (match ρ m, ρ s, ρ x with
     | some m, some s, some x => ∃ w' : World, estIs P t m s x w w' ∧ K undef w'
     | _, _, _ => False)
  | .convert s d x =>
    (match ρ x, P.underlying d with
     | some x, some (.slice _) => ∃ a : Option Addr, ∃ l c : Nat, ∃ w' : World, cnvIs P s d x (.slice a l c) w w' ∧ K (.slice a l c) w'
     | some x, some .string => ∃ v : ByteArray, ∃ w' : World, cnvIs P s d x (.string v) w w' ∧ K (.string v) w'
     | _, _ => False)
  | .range t x =>
    (match ρ x with
     | some x => ∃ p : Option Addr, ∃ w' : World, rngIs P t x (.pointer p) w w' ∧ K (.pointer p) w'
     | none => False)
  | .next it str =>
    (match ρ it, nextTys P o.type with
     | some it, some (t1, t2) =>
          (∃ w' : World, nxtIs P it str o.type (.tuple #[.bool false]) w w' ∧ K (.tuple #[.bool false]) w') ∨
          valE P t1 fun k => valE P t2 fun v => ∃ w' : World, nxtIs P it str o.type (.tuple #[.bool true, k, v]) w w' ∧ K (.tuple #[.bool true, k, v]) w'
     | some it, none =>
       (match str with
        | true => (∃ w' : World, nxtIs P it true o.type (.tuple #[.bool false]) w w' ∧ K (.tuple #[.bool false]) w') ∨
          ∃ k v : Int, ∃ w' : World, nxtIs P it true o.type (.tuple #[.bool true, .int .i64 k, .int .i32 v]) w w' ∧ K (.tuple #[.bool true, .int .i64 k, .int .i32 v]) w'
        | false => (∃ w' : World, nxtIs P it false o.type (.tuple #[.bool false]) w w' ∧ K (.tuple #[.bool false]) w') ∨
          ∃ k v : Value, ∃ w' : World, nxtIs P it false o.type (.tuple #[.bool true, k, v]) w w' ∧ K (.tuple #[.bool true, k, v]) w')
     | none, _ => False)
  | .call { callee := .builtin b, args := args, argTypes := ts } =>
    (match valsO ρ args.toList with | some vs => eBuiltin P b ts o.type vs w K | none => False)
  | .call { callee := .value (.func f), args := args, .. } =>
    (match valsO ρ args.toList, callB P f with
     | some vs, true => H f vs w K
     | _, _ => False)
  | .call { callee := .value x, args := args, .. } =>
    (match ρ x, valsO ρ args.toList with
     | some (.func (.func f) a c), some vs => (match callB P f with | true => H f (a.toList ++ vs ++ c.toList) w K | false => False)
     | some v, some vs => CallsV P v vs w fun e w' => retE P (resT P o.type) fun u => e = .returned u ∧ K u w'
     | _, _ => False)
  | _ => False

section
variable {P : Program} {w : World}
theorem run_stores {b : Nat} : ∀ (vs : List Value) (o i : Nat) (w : World), oneB vs = true → wrAll w b (o + i) vs →
    (storeCells ⟨b, o, none⟩ vs i).run P w = .ok () (stAll w b (o + i) vs) := by
  intro vs
  induction vs with
  | nil => intro o i w _ _; simp [storeCells, stAll]
  | cons v vs ih =>
    intro o i w h1 hw
    simp only [oneB, Bool.and_eq_true] at h1
    have h1' : v.oneCell' = true := h1.1
    have hone : wr w b (o + i) := by cases vs with | nil => exact hw | cons y ys => exact hw.1
    have hst : (store (Addr.add ⟨b, o, none⟩ i) v).run P w = .ok () (st w b (o + i) v) := by
      rw [Addr.add_lit, run_store P w _ v _ h1']
      obtain ⟨⟨u, hu⟩, hf⟩ := hone
      unfold rd at hu
      simp [hu, hf, st]
    simp only [storeCells, Sem.run_bind, hst, Result.andThen_ok]
    cases vs with
    | nil => simp [storeCells, stAll]
    | cons y ys =>
      have hrest : wrAll (st w b (o + i) v) b (o + (i + 1)) (y :: ys) := by
        have h0 : wrAll w b (o + i + 1) (y :: ys) := hw.2
        have hkeep : ∀ (zs : List Value) (q : Nat), wrAll w b q zs → wrAll (st w b (o + i) v) b q zs := by
          have h1 : ∀ q, wr w b q → wr (st w b (o + i) v) b q := by
            intro q ⟨⟨u, hu⟩, hf⟩
            refine ⟨?_, by simpa [st] using hf⟩
            unfold rd at *
            obtain ⟨u', hu'⟩ := Go.RowKit.cell?_setCell_some (w := w) (p := ⟨b, o + i, none⟩) (x := v) (q := ⟨b, q, none⟩) (v := u) hu
            exact ⟨u', hu'⟩
          intro zs
          induction zs with
          | nil => intro q _; trivial
          | cons z zs ih2 =>
            intro q hq
            cases zs with
            | nil => exact h1 q hq
            | cons z' zs' => exact ⟨h1 q hq.1, ih2 (q + 1) hq.2⟩
        exact hkeep _ _ h0
      rw [ih o (i + 1) (st w b (o + i) v) h1.2 hrest]
      rfl
theorem run_storeAt {t : TypeId} {p : Option Addr} {v : Value} (hT : hasT P t = true) (hl : v.cells.toList.length = szT P t) (hp : isP p = true) (ho : oneB v.cells.toList = true)
    (hw : wrAll w (pb p) (po p) v.cells.toList) : (Instr.storeAt t (.pointer p) v).run P w = .ok () (stAll w (pb p) (po p) v.cells.toList) := by
  obtain ⟨i, hi, hs⟩ := info_of_has hT
  have hp' := isP_spec hp
  generalize pb p = b at *
  generalize po p = o at *
  subst hp'
  have hl' : ¬ v.cells.size ≠ i.size := by
    intro hne; exact hne (by rw [← hs, ← hl]; simp)
  simp only [Instr.storeAt, Instr.sureAddr, storeVar, Sem.run_bind, Sem.run_pure, Result.andThen_ok, run_sizeOf' hi, if_neg hl']
  exact run_stores _ o 0 w ho hw
theorem callFunc_enter {f : FuncId} {args : Array Value} (h : callB P f = true) : (callFunc f args).run P w = .ok (.enter f args) w := by
  unfold callB at h
  split at h
  · rename_i fn hf
    simp only [Bool.and_eq_true, Bool.not_eq_true', Option.isSome_iff_exists] at h
    obtain ⟨⟨c, hc⟩, hn⟩ := h
    have hn' : (fn.name == "runtime.NumGoroutine") = false := by simpa using hn
    simp only [callFunc, Sem.run_bind, run_program, Result.andThen_ok, hf]
    rw [hn', hc]
    rfl
  · simp at h
theorem run_zeroValue {t : TypeId} {i : TypeInfo} {z : Value} (hi : P.info? t = some i) (hz : i.zero = some z) : (zeroValue t).run P w = .ok z w := by
  simp [zeroValue, typeInfo, hi, hz]
theorem run_makeSlice {t e : TypeId} {i : TypeInfo} {z : Value} {k k' : IntKind} {l c : Int} (hu : P.underlying t = some (.slice e)) (hi : P.info? e = some i) (hz : i.zero = some z) (h : okMk i.bytes l c = true) :
    (Instr.makeSlice t (.int k l) (.int k' c)).run P w = .ok (.slice (some ⟨w.heap.size, 0, none⟩) l.toNat c.toNat) (w.alloc (.cells (mkRow z.cells i.size c.toNat) e)) := by
  have h := of_decide_eq_true h
  obtain ⟨h1, h2, h3, h4⟩ := h
  have hl : IntKind.i64.wrap l = l := IntWalk.i64_in _ (by omega)
  have hc : IntKind.i64.wrap c = c := IntWalk.i64_in _ (by omega)
  have hti : (typeInfo e).run P w = .ok i w := by simp [typeInfo, hi]
  simp only [Instr.makeSlice, Sem.run_bind, run_underlying hu, Result.andThen_ok, asInt, asIntOf, Sem.run_pure, hti, hl, hc, Sem.run_ite]
  have hcond : ¬ ((c < 0 || (i.bytes : Int) * c > 2 ^ 48) || l < 0 || l > c) = true := by
    simp only [Bool.or_eq_true, decide_eq_true_eq]
    omega
  rw [if_neg (by simpa using hcond)]
  simp only [Result.andThen_ok, run_askRoom, run_sizeOf' hi]
  have hrow : ∀ zz : Array Value, (newRow e zz).run P w = .ok ⟨w.heap.size, 0, none⟩ (w.alloc (.cells zz e)) := by
    intro zz; simp [newRow]
  by_cases hn : c.toNat * i.size = 0
  · have hm : mkRow z.cells i.size c.toNat = #[] := by
      unfold mkRow
      split
      · rename_i h1 h2; rw [h1] at hn; have : c.toNat = 0 := by omega
        rw [this]; rfl
      · rw [hn]; simp [zeroRow, Array.range_zero']
    rw [if_pos hn]
    simp only [Result.andThen_ok, hn, hrow, hm]
    simp [Array.range_zero']
  · rw [if_neg hn]
    simp only [run_zeroValue hi hz, Result.andThen_ok, hrow]
    congr 3
    unfold mkRow
    split
    · rename_i v h1 h2
      have hz1 : z.cells = #[v] := by apply Array.toList_inj.1; rw [h2]
      rw [h1, hz1]
      apply Array.ext'
      simp
      apply List.ext_getElem
      · simp
      · intro n h1 h2
        simp [Nat.mod_one]
    · rfl

theorem eOp_sound {H : Hand} (hH : HSound P H) {ρ : Operand → Option Value} {a : Act} (hρ : ∀ x u, ρ x = some u → a.eval x = u) {o : Oper} {K : Value → World → Prop}
    (h : eOp P H ρ o w K) {next : Act → World → Prop} {Q : Exit → Act → World → Prop} (hK : ∀ v w', K v w' → next (a.put o.dst v) w') : o.wp P a w next Q := by
  unfold Oper.wp
  unfold eOp at h
  split at h
  · rename_i t ho
    split at h
    · rename_i i hi
      split at h
      · rename_i z hz
        simp only [execOp, ho, Instr.alloc, Sem.run_bind, run_zeroValue hi hz, Result.andThen_ok, newVar, newRow, Sem.run_pure, run_newObj, World.alloc_eq]
        exact hK _ _ (h _ rfl)
      · exact h.elim
    · exact h.elim
  · rename_i t x ho
    split at h
    · rename_i v hx
      simp only [execOp, ho, Instr.box, Sem.run_bind, Result.andThen_ok, newVar, newRow, Sem.run_pure, run_newObj, World.alloc_eq, hρ _ _ hx]
      exact hK _ _ (h _ rfl)
    · exact h.elim
  · rename_i t len parts ho
    split at h
    · rename_i e ps hu hps
      split at h
      · rename_i i hi
        split at h
        · rename_i z hz hsm
          have hsm := of_decide_eq_true hsm
          split at h
          · rename_i cells hcells
            have hp := partsO_spec hρ hps
            have hpl : (Array.map (fun x => (x.1, a.eval x.2)) parts).toList = ps := by rw [Array.toList_map, hp]
            simp only [execOp, ho, Instr.buildSlice, Sem.run_bind, run_underlying hu, Result.andThen_ok, run_sizeOf' hi, Sem.run_ite]
            rw [if_neg (by omega)]
            simp only [Sem.run_pure, Result.andThen_ok]
            by_cases h0 : len * i.size = 0
            · rw [if_pos h0]
              simp only [decide_eq_true h0] at hcells
              simp only [h0]
              have : (Array.map (fun x => (#[] : Array Value)[x % (#[] : Array Value).size]!) (Array.range 0)) = #[] := by simp [Array.range_zero']
              simp only [this, hpl, hcells]
              simp only [newRow, Sem.run_bind, run_newObj, Result.andThen_ok, Sem.run_pure, World.alloc_eq]
              exact hK _ _ (h _ rfl)
            · rw [if_neg h0]
              simp only [decide_eq_false h0] at hcells
              simp only [Result.andThen_ok, run_zeroValue hi hz]
              unfold zeroRow at hcells
              simp only [hpl, hcells]
              simp only [newRow, Sem.run_bind, run_newObj, Result.andThen_ok, Sem.run_pure, World.alloc_eq]
              exact hK _ _ (h _ rfl)
          · exact h.elim
        · exact h.elim
      · exact h.elim
    · exact h.elim
  · rename_i t l c ho
    split at h
    · rename_i e k l' k' c' hu hl hc
      split at h
      · rename_i i hi
        split at h
        · rename_i z hz
          rcases Wif_elim h with ⟨hok, h⟩ | ⟨_, h⟩
          · simp only [execOp, ho, hρ _ _ hl, hρ _ _ hc, Sem.run_bind, run_makeSlice hu hi hz hok, Result.andThen_ok, Sem.run_pure]
            exact hK _ _ (h _ rfl)
          · exact h.elim
        · exact h.elim
      · exact h.elim
    · exact h.elim
  · rename_i t r ho
    split at h
    · simp only [execOp, ho, Option.map_none, Instr.makeMap, Sem.run_bind, Sem.run_pure, Result.andThen_ok, run_newObj, World.alloc_eq]
      exact hK _ _ (h _ rfl)
    · rename_i x
      split at h
      · rename_i hu hx
        simp only [execOp, ho, Option.map_some, Instr.makeMap, Sem.run_bind, Sem.run_pure, Result.andThen_ok, run_newObj, World.alloc_eq, run_underlying hu, hρ _ _ hx, asInt, asIntOf]
        exact hK _ _ (h _ rfl)
      · exact h.elim
  · rename_i t x y ho
    split at h
    · rename_i p v hx hy
      split at h
      · rename_i hT
        simp only [Bool.and_eq_true, beq_iff_eq] at hT
        rcases Wif_elim h with ⟨hb, h⟩ | ⟨_, h⟩
        · simp only [Bool.and_eq_true] at hb
          simp only [execOp, ho, hρ _ _ hx, hρ _ _ hy, Sem.run_bind, run_storeAt hT.1 hT.2 hb.1 hb.2 h.1, Result.andThen_ok, Sem.run_pure]
          exact hK _ _ (h.2 _ rfl)
        · exact h.elim
      · exact h.elim
    · exact h.elim
  · rename_i t m k x ho
    split at h
    · rename_i m' k' x' hm hk hx
      obtain ⟨w', hu, h⟩ := h
      replace hu := hu.run
      simp only [execOp, ho, hρ _ _ hm, hρ _ _ hk, hρ _ _ hx, Sem.run_bind, hu, Result.andThen_ok, Sem.run_pure]
      exact hK _ _ h
    · exact h.elim
  · rename_i t m k x ho
    split at h
    · rename_i m' k' x' hm hk hx
      obtain ⟨w', hu, h⟩ := h
      replace hu := hu.run
      simp only [execOp, ho, hρ _ _ hm, hρ _ _ hk, hρ _ _ hx, Sem.run_bind, hu, Result.andThen_ok, Sem.run_pure]
      exact hK _ _ h
    · exact h.elim
  · rename_i t m k ho
    split at h
    · rename_i m' k' hm hk
      obtain ⟨z, n, w', hu, h⟩ := h
      replace hu := hu.run
      simp only [execOp, ho, hρ _ _ hm, hρ _ _ hk, Sem.run_bind, hu, Result.andThen_ok, Sem.run_pure]
      exact hK _ _ h
    · exact h.elim
  · rename_i t m s x ho
    split at h
    · rename_i m' s' x' hm hs hx
      obtain ⟨w', hu, h⟩ := h
      replace hu := hu.run
      simp only [execOp, ho, hρ _ _ hm, hρ _ _ hs, hρ _ _ hx, Sem.run_bind, hu, Result.andThen_ok, Sem.run_pure]
      exact hK _ _ h
    · exact h.elim
  · rename_i s d x ho
    split at h
    · rename_i x' e hx hu
      obtain ⟨p, l, c, w', hu, h⟩ := h
      replace hu := hu.run
      simp only [execOp, ho, hρ _ _ hx, Sem.run_bind, hu, Result.andThen_ok, Sem.run_pure]
      exact hK _ _ h
    · rename_i x' hx hu
      obtain ⟨v, w', hu, h⟩ := h
      replace hu := hu.run
      simp only [execOp, ho, hρ _ _ hx, Sem.run_bind, hu, Result.andThen_ok, Sem.run_pure]
      exact hK _ _ h
    · exact h.elim
  · rename_i t x ho
    split at h
    · rename_i x' hx
      obtain ⟨p, w', hu, h⟩ := h
      replace hu := hu.run
      simp only [execOp, ho, hρ _ _ hx, Sem.run_bind, hu, Result.andThen_ok, Sem.run_pure]
      exact hK _ _ h
    · exact h.elim
  · rename_i it str ho
    split at h
    · rename_i it' t1 t2 hx hu
      rcases h with ⟨w', hu, h⟩ | h
      · replace hu := hu.run
        simp only [execOp, ho, hρ _ _ hx, Sem.run_bind, hu, Result.andThen_ok, Sem.run_pure]
        exact hK _ _ h
      · obtain ⟨k, h⟩ := valE_elim h
        obtain ⟨v, h⟩ := valE_elim h
        obtain ⟨w', hu, h⟩ := h
        replace hu := hu.run
        simp only [execOp, ho, hρ _ _ hx, Sem.run_bind, hu, Result.andThen_ok, Sem.run_pure]
        exact hK _ _ h
    · rename_i it' hx hnt
      split at h
      all_goals
        rcases h with ⟨w', hu, h⟩ | ⟨k, v, w', hu, h⟩
        · replace hu := hu.run
          simp only [execOp, ho, hρ _ _ hx, Sem.run_bind, hu, Result.andThen_ok, Sem.run_pure]
          exact hK _ _ h
        · replace hu := hu.run
          simp only [execOp, ho, hρ _ _ hx, Sem.run_bind, hu, Result.andThen_ok, Sem.run_pure]
          exact hK _ _ h
    · exact h.elim
  · rename_i b args ts ho
    split at h
    · rename_i vs hvs
      have h1 : args.map a.eval = vs.toArray := by rw [← valsO_spec hρ hvs, ← Array.toList_map]
      simp only [execOp, ho, resolve, Sem.run_bind, Sem.run_pure, Result.andThen_ok, invoke, h1]
      unfold eBuiltin at h
      split at h
      · obtain ⟨p, l, c, w', hu, h⟩ := h
        replace hu := hu.run
        simp only [builtin, Sem.run_bind, hu, Result.andThen_ok, Sem.run_pure]
        exact hK _ _ h
      · obtain ⟨n, w', hu, h⟩ := h
        replace hu := hu.run
        simp only [builtin, Sem.run_bind, hu, Result.andThen_ok, Sem.run_pure]
        exact hK _ _ h
      · obtain ⟨w', hu, h⟩ := h
        replace hu := hu.run
        simp only [builtin, Sem.run_bind, hu, Result.andThen_ok, Sem.run_pure]
        exact hK _ _ h
      · obtain ⟨w', hu, h⟩ := h
        replace hu := hu.run
        simp only [builtin, Sem.run_bind, hu, Result.andThen_ok, Sem.run_pure]
        exact hK _ _ h
      · exact h.elim
    · exact h.elim
  · rename_i f args ts ho
    split at h
    · rename_i vs hvs hcb
      have h1 : args.map a.eval = vs.toArray := by rw [← valsO_spec hρ hvs, ← Array.toList_map]
      simp only [execOp, ho, resolve, Act.eval, Deferred.ofValue, Sem.run_bind, Sem.run_pure, Result.andThen_ok, invoke, h1, Array.empty_append, Array.append_empty, callFunc_enter hcb]
      rw [Oper.upon_enter]
      refine (hH f vs w K h hcb).mono fun e w' he => ?_
      obtain ⟨v, rfl, hk⟩ := he
      exact hK _ _ hk
    · exact h.elim
  · rename_i x args ts hnf ho
    split at h
    · rename_i f p c vs hx hvs
      have h1 : args.map a.eval = vs.toArray := by rw [← valsO_spec hρ hvs, ← Array.toList_map]
      split at h
      · rename_i hcb
        simp only [execOp, ho, resolve, hρ _ _ hx, Deferred.ofValue, Sem.run_bind, Sem.run_pure, Result.andThen_ok, invoke, h1, callFunc_enter hcb]
        rw [Oper.upon_enter]
        have hargs : p ++ vs.toArray ++ c = (p.toList ++ vs ++ c.toList).toArray := by apply Array.ext'; simp
        rw [hargs]
        refine (hH f _ w K h hcb).mono fun e w' he => ?_
        obtain ⟨v, rfl, hk⟩ := he
        exact hK _ _ hk
      · exact h.elim
    · rename_i v vs _ hx hvs
      have h1 : args.map a.eval = vs.toArray := by rw [← valsO_spec hρ hvs, ← Array.toList_map]
      obtain ⟨f, p, c, rfl, hcb, h⟩ := h
      simp only [execOp, ho, resolve, hρ _ _ hx, Deferred.ofValue, Sem.run_bind, Sem.run_pure, Result.andThen_ok, invoke, h1, callFunc_enter hcb]
      rw [Oper.upon_enter]
      refine h.mono fun e w' he => ?_
      obtain ⟨v, rfl, hk⟩ := retE_elim he
      exact hK _ _ hk
    · exact h.elim
  · exact h.elim
end
end Go.Eng
