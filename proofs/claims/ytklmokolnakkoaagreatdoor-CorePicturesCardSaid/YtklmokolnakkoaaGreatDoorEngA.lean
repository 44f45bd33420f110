/-
  Part A of an engine: reads, stores and expressions. Proved: the value of each quiet expression. Conditions: none beyond each theorem's own.
-/
import Derived.WalkKit
import Derived.WalkSpells
import Derived.WalkLawsBesides
set_option linter.unusedVariables false
set_option linter.unusedSimpArgs false
namespace Go.Eng

def rd (w : World) (b o : Nat) : Option Value := w.cell? ⟨b, o, none⟩
structure wr (w : World) (b o : Nat) : Prop where
  cell : ∃ v, rd w b o = some v
  free : w.frozen? ⟨b, o, none⟩ = false
def st (w : World) (b o : Nat) (v : Value) : World := w.setCell ⟨b, o, none⟩ v
def rdAll (w : World) (b o : Nat) : List Value → Prop
  | [] => True
  | [v] => rd w b o = some v
  | v :: v' :: vs => rd w b o = some v ∧ rdAll w b (o + 1) (v' :: vs)
def pb : Option Addr → Nat
  | some a => a.block
  | none => 0
def po : Option Addr → Nat
  | some a => a.off
  | none => 0
def isP : Option Addr → Bool
  | some ⟨_, _, none⟩ => true
  | _ => false
def inB (i : Int) (n : Nat) : Bool := decide (0 ≤ i ∧ i < (n : Int))
def okSl (l h c : Int) : Bool := decide (0 ≤ l ∧ l ≤ h ∧ h ≤ c)
def offA (a : Option Addr) (c l s : Nat) : Option Addr := if c = l then a else a.map (·.add (l * s))
def bitsI (op : BinOp) (k : IntKind) (x y : Int) : Int :=
  let a := BitVec.ofInt k.bits x
  let b := BitVec.ofInt k.bits y
  match op with
  | .and => k.wrap (a &&& b).toNat
  | .or => k.wrap (a ||| b).toNat
  | .xor => k.wrap (a ^^^ b).toNat
  | _ => k.wrap (a &&& ~~~b).toNat

theorem isP_spec {p : Option Addr} (h : isP p = true) : p = some ⟨pb p, po p, none⟩ := by
  cases p with
  | none => simp [isP] at h
  | some a =>
    obtain ⟨b, o, s⟩ := a
    cases s with
    | none => rfl
    | some x => simp [isP] at h

structure Kept (X : Nat → Prop) (w w' : World) : Prop where
  os : w'.os = w.os
  tape : w'.tape = w.tape
  out : w'.output = w.output
  sz : w.heap.size ≤ w'.heap.size
  blk : ∀ b, b < w.heap.size → ¬ X b → w'.heap[b]? = w.heap[b]?
abbrev none' : Nat → Prop := fun _ => False

inductive QRes : Type 1 where
  | fail
  | ret (v : Value)
  | chk (b : Bool) (r : QRes)
  | rdc (c : World → Prop) (r : QRes)
  | ex {α : Type} (f : α → QRes)

inductive Spec : QRes → (World → Prop) → Value → Prop
  | ret (v : Value) : Spec (.ret v) (fun _ => True) v
  | chk {r : QRes} {c : World → Prop} {v : Value} : Spec r c v → Spec (.chk true r) c v
  | rdc {r : QRes} {c c0 : World → Prop} {v : Value} : Spec r c v → Spec (.rdc c0 r) (fun w => c0 w ∧ c w) v
  | ex {α : Type} {f : α → QRes} {c : World → Prop} {v : Value} (x : α) : Spec (f x) c v → Spec (.ex f) c v

def Wif (b : Bool) (x y : Prop) : Prop := match b with
  | true => x
  | false => y
theorem Wif_elim {b : Bool} {x y : Prop} (h : Wif b x y) : (b = true ∧ x) ∨ (b = false ∧ y) := by
  cases b <;> simp [Wif] at h <;> simp [h]

def QRes.den (w : World) (next : Value → (World → Prop) → Prop) : QRes → (World → Prop) → Prop
  | .fail, _ => False
  | .ret v, c => next v c
  | .chk b r, c => Wif b (r.den w next c) False
  | .rdc c0 r, c => c0 w ∧ r.den w next (fun w => c0 w ∧ c w)
  | .ex f, c => ∃ x, (f x).den w next c

def gIf (b : Bool) (C x : Prop) : Prop := match b with
  | true => x
  | false => (C → False) ∧ x
theorem gIf_elim {b : Bool} {C x : Prop} (h : gIf b C x) : (C → b = true) ∧ x := by
  cases b
  · exact ⟨fun hC => (h.1 hC).elim, h.2⟩
  · exact ⟨fun _ => rfl, h⟩
def QRes.denIf (C : Prop) (w : World) (next : Value → (World → Prop) → Prop) : QRes → (World → Prop) → Prop
  | .fail, c => (C → False) ∧ next undef c
  | .ret v, c => next v c
  | .chk b r, c => gIf b C (r.denIf C w next c)
  | .rdc c0 r, c => (C → c0 w) ∧ r.denIf C w next (fun w => c0 w ∧ c w)
  | .ex f, c => ∃ x, (f x).denIf C w next c

theorem QRes.den_spec {w : World} {next : Value → (World → Prop) → Prop} : ∀ {r : QRes} {c : World → Prop}, r.den w next c →
    ∃ v c', Spec r c' v ∧ c' w ∧ ∃ c'', next v c'' ∧ ∀ w', c' w' ∧ c w' ↔ c'' w' := by
  intro r
  induction r with
  | fail => intro c h; exact h.elim
  | ret v => intro c h; exact ⟨v, _, .ret v, trivial, c, h, fun w' => by simp⟩
  | chk b r ih =>
    intro c h
    rcases Wif_elim h with ⟨rfl, h⟩ | ⟨_, h⟩
    · obtain ⟨v, c', hs, hc, rest⟩ := ih h
      exact ⟨v, c', .chk hs, hc, rest⟩
    · exact h.elim
  | rdc c0 r ih =>
    intro c h
    obtain ⟨h0, h⟩ := h
    obtain ⟨v, c', hs, hc, c'', hn, hi⟩ := ih h
    refine ⟨v, _, .rdc hs, ⟨h0, hc⟩, c'', hn, fun w' => ?_⟩
    rw [← hi w']
    constructor
    · rintro ⟨⟨a, b⟩, d⟩; exact ⟨b, a, d⟩
    · rintro ⟨b, a, d⟩; exact ⟨⟨a, b⟩, d⟩
  | ex f ih =>
    intro c h
    obtain ⟨x, h⟩ := h
    obtain ⟨v, c', hs, hc, rest⟩ := ih x h
    exact ⟨v, c', .ex x hs, hc, rest⟩

theorem QRes.denIf_spec {C : Prop} {w : World} {next : Value → (World → Prop) → Prop} : ∀ {r : QRes} {c : World → Prop}, r.denIf C w next c →
    ∃ v c'', next v c'' ∧ (C → ∃ c', Spec r c' v ∧ c' w ∧ ∀ w', c' w' ∧ c w' ↔ c'' w') := by
  intro r
  induction r with
  | fail => intro c h; exact ⟨undef, c, h.2, fun hC => (h.1 hC).elim⟩
  | ret v => intro c h; exact ⟨v, c, h, fun _ => ⟨_, .ret v, trivial, fun w' => by simp⟩⟩
  | chk b r ih =>
    intro c h
    obtain ⟨hb, h⟩ := gIf_elim h
    obtain ⟨v, c'', hn, hs⟩ := ih h
    refine ⟨v, c'', hn, fun hC => ?_⟩
    obtain ⟨c', hs, rest⟩ := hs hC
    rw [hb hC]
    exact ⟨c', .chk hs, rest⟩
  | rdc c0 r ih =>
    intro c h
    obtain ⟨h0, h⟩ := h
    obtain ⟨v, c'', hn, hs⟩ := ih h
    refine ⟨v, c'', hn, fun hC => ?_⟩
    obtain ⟨c', hs, hc, hi⟩ := hs hC
    refine ⟨_, .rdc hs, ⟨h0 hC, hc⟩, fun w' => ?_⟩
    rw [← hi w']
    constructor
    · rintro ⟨⟨a, b⟩, d⟩; exact ⟨b, a, d⟩
    · rintro ⟨b, a, d⟩; exact ⟨⟨a, b⟩, d⟩
  | ex f ih =>
    intro c h
    obtain ⟨x, h⟩ := h
    obtain ⟨v, c'', hn, hs⟩ := ih x h
    refine ⟨v, c'', hn, fun hC => ?_⟩
    obtain ⟨c', hs, rest⟩ := hs hC
    exact ⟨c', .ex x hs, rest⟩

def leafQ (d : TypeDesc) (k : Value → QRes) : QRes :=
  match d with
  | .bool => .ex fun b : Bool => k (.bool b)
  | .int kd => .ex fun n : Int => k (.int kd n)
  | .string => .ex fun s : ByteArray => k (.string s)
  | .pointer _ => .ex fun p : Option Addr => k (.pointer p)
  | .slice _ => .ex fun a : Option Addr => .ex fun l : Nat => .ex fun c : Nat => k (.slice a l c)
  | .map _ _ => .ex fun r : Option Nat => k (.map r)
  | .func _ _ _ => .ex fun v : Value => k v
  | .interface _ => .ex fun v : Value => k v
  | _ => .fail
def leafE (d : TypeDesc) (k : Value → Prop) : Prop :=
  match d with
  | .bool => ∃ b : Bool, k (.bool b)
  | .int kd => ∃ n : Int, k (.int kd n)
  | .string => ∃ s : ByteArray, k (.string s)
  | .pointer _ => ∃ p : Option Addr, k (.pointer p)
  | .slice _ => ∃ a : Option Addr, ∃ l c : Nat, k (.slice a l c)
  | .map _ _ => ∃ r : Option Nat, k (.map r)
  | .func _ _ _ => ∃ v : Value, k v
  | .interface _ => ∃ v : Value, k v
  | _ => False
theorem leafE_elim {d : TypeDesc} {k : Value → Prop} (h : leafE d k) : ∃ v, k v := by
  cases d <;> simp only [leafE] at h <;> first | exact h.elim | skip
  case bool => obtain ⟨b, h⟩ := h; exact ⟨_, h⟩
  case int => obtain ⟨b, h⟩ := h; exact ⟨_, h⟩
  case string => obtain ⟨b, h⟩ := h; exact ⟨_, h⟩
  case pointer => obtain ⟨b, h⟩ := h; exact ⟨_, h⟩
  case slice => obtain ⟨a, l, c, h⟩ := h; exact ⟨_, h⟩
  case map => obtain ⟨b, h⟩ := h; exact ⟨_, h⟩
  case func => exact h
  case interface => exact h

def leaves (P : Program) : Nat → TypeId → Option (List TypeDesc)
  | 0, _ => none
  | n + 1, t =>
    match P.underlying t with
    | some (.struct fs) => (fs.toList.mapM fun f => leaves P n f.type).map List.flatten
    | some (.array k e) => (leaves P n e).map fun l => (List.replicate k l).flatten
    | some d => some [d]
    | none => none
def runI (kd : IntKind) (f : Nat → Int) : Nat → Nat → List Value
  | _, 0 => []
  | i, n + 1 => .int kd (f i) :: runI kd f (i + 1) n
theorem runI_len (kd : IntKind) (f : Nat → Int) : ∀ i n, (runI kd f i n).length = n
  | _, 0 => rfl
  | i, n + 1 => by simp [runI, runI_len kd f (i + 1) n]
theorem runI_get (kd : IntKind) (f : Nat → Int) : ∀ i n j, j < n → (runI kd f i n)[j]? = some (.int kd (f (i + j)))
  | _, 0, _, h => absurd h (Nat.not_lt_zero _)
  | i, n + 1, 0, _ => rfl
  | i, n + 1, j + 1, h => by
    have := runI_get kd f (i + 1) n j (by omega)
    simp only [runI, List.getElem?_cons_succ]
    rw [this, Nat.add_assoc, Nat.add_comm 1 j]
def sameI : TypeDesc → TypeDesc → Bool
  | .int a, .int b => decide (a = b)
  | _, _ => false
def grp : List TypeDesc → List (Nat × TypeDesc)
  | [] => []
  | d :: ds =>
    match grp ds with
    | [] => [(1, d)]
    | (n, d') :: gs => (match sameI d d' with | true => (n + 1, d') :: gs | false => (1, d) :: (n, d') :: gs)
def grpLen : List (Nat × TypeDesc) → Nat
  | [] => 0
  | (n, _) :: gs => n + grpLen gs
theorem grp_len : ∀ ds, grpLen (grp ds) = ds.length
  | [] => rfl
  | d :: ds => by
    have ih := grp_len ds
    simp only [grp]
    cases h : grp ds with
    | nil =>
      rw [h] at ih
      simp only [grpLen, List.length_cons] at ih ⊢
      omega
    | cons g gs =>
      obtain ⟨n, d'⟩ := g
      rw [h] at ih
      dsimp only
      cases sameI d d' <;> (simp only [grpLen, List.length_cons] at ih ⊢; omega)
def repQ (d : TypeDesc) : Nat → (List Value → QRes) → QRes
  | 0, k => k []
  | n + 1, k => leafQ d fun v => repQ d n fun vs => k (v :: vs)
def repE (d : TypeDesc) : Nat → (List Value → Prop) → Prop
  | 0, k => k []
  | n + 1, k => leafE d fun v => repE d n fun vs => k (v :: vs)
def grpQ : List (Nat × TypeDesc) → (List Value → QRes) → QRes
  | [], k => k []
  | (n, d) :: gs, k =>
    match d, decide (8 ≤ n) with
    | .int kd, true => .ex fun f : Nat → Int => grpQ gs fun vs => k (runI kd f 0 n ++ vs)
    | d, _ => repQ d n fun us => grpQ gs fun vs => k (us ++ vs)
def grpE : List (Nat × TypeDesc) → (List Value → Prop) → Prop
  | [], k => k []
  | (n, d) :: gs, k =>
    match d, decide (8 ≤ n) with
    | .int kd, true => ∃ f : Nat → Int, grpE gs fun vs => k (runI kd f 0 n ++ vs)
    | d, _ => repE d n fun us => grpE gs fun vs => k (us ++ vs)
def leavesQ (ds : List TypeDesc) (k : List Value → QRes) : QRes := grpQ (grp ds) k
def leavesE (ds : List TypeDesc) (k : List Value → Prop) : Prop := grpE (grp ds) k
theorem repE_elim {d : TypeDesc} : ∀ {n : Nat} {k : List Value → Prop}, repE d n k → ∃ vs, k vs
  | 0, _, h => ⟨_, h⟩
  | n + 1, k, h => by
    obtain ⟨v, h⟩ := leafE_elim h
    obtain ⟨vs, h⟩ := repE_elim h
    exact ⟨_, h⟩
theorem grpE_elim : ∀ {gs : List (Nat × TypeDesc)} {k : List Value → Prop}, grpE gs k → ∃ vs, k vs
  | [], _, h => ⟨_, h⟩
  | (n, d) :: gs, k, h => by
    unfold grpE at h
    split at h
    · obtain ⟨f, h⟩ := h
      obtain ⟨vs, h⟩ := grpE_elim h
      exact ⟨_, h⟩
    · obtain ⟨us, h⟩ := repE_elim h
      obtain ⟨vs, h⟩ := grpE_elim h
      exact ⟨_, h⟩
theorem leavesE_elim {k : List Value → Prop} {ds : List TypeDesc} (h : leavesE ds k) : ∃ vs, k vs := grpE_elim h
def aggT (P : Program) (t : TypeId) : Bool :=
  match P.underlying t with
  | some (.struct _) | some (.array _ _) => true
  | _ => false
def valE (P : Program) (t : TypeId) (k : Value → Prop) : Prop :=
  match P.underlying t with
  | some (.struct _) | some (.array _ _) =>
    (match leaves P 12 t with
     | some ds => leavesE ds fun vs => k (.agg vs.toArray)
     | none => False)
  | some d => leafE d k
  | none => False
theorem valE_elim {P : Program} {t : TypeId} {k : Value → Prop} (h : valE P t k) : ∃ v, k v := by
  unfold valE at h
  split at h
  · split at h
    · obtain ⟨vs, h⟩ := leavesE_elim h; exact ⟨_, h⟩
    · exact h.elim
  · split at h
    · obtain ⟨vs, h⟩ := leavesE_elim h; exact ⟨_, h⟩
    · exact h.elim
  · exact leafE_elim h
  · exact h.elim
def valsE (P : Program) : List TypeId → (List Value → Prop) → Prop
  | [], k => k []
  | t :: ts, k => valE P t fun v => valsE P ts fun vs => k (v :: vs)
theorem valsE_elim {P : Program} {k : List Value → Prop} : ∀ {ts : List TypeId}, valsE P ts k → ∃ vs, k vs := by
  intro ts
  induction ts generalizing k with
  | nil => intro h; exact ⟨_, h⟩
  | cons d ds ih =>
    intro h
    obtain ⟨v, h⟩ := valE_elim h
    obtain ⟨vs, h⟩ := ih h
    exact ⟨_, h⟩
def retE (P : Program) (ts : List TypeId) (k : Value → Prop) : Prop :=
  match ts with
  | [t] => valE P t k
  | ts => valsE P ts fun vs => k (.tuple vs.toArray)
theorem retE_elim {P : Program} {ts : List TypeId} {k : Value → Prop} (h : retE P ts k) : ∃ v, k v := by
  unfold retE at h
  split at h
  · exact valE_elim h
  · obtain ⟨vs, h⟩ := valsE_elim h; exact ⟨_, h⟩

end Go.Eng
