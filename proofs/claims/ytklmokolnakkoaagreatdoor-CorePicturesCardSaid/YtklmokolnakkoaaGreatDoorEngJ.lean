/-
  Part J of an engine. Proved: a function's whole code, loops and joins too, by its condition. Conditions: none beyond each theorem's own.
-/
import Derived.Test.YtklmokolnakkoaaGreatDoorEngI
import Derived.Scope
set_option linter.unusedVariables false
set_option linter.unusedSimpArgs false
namespace Go.Eng

inductive Shp where
  | int (k : IntKind) | bool | str | ptr | sl | mp | val
def shpOf : Value → Option Shp
  | .int k _ => some (.int k)
  | .bool _ => some .bool
  | .string _ => some .str
  | .pointer _ => some .ptr
  | .slice _ _ _ => some .sl
  | .map _ => some .mp
  | .func _ _ _ => some .val
  | .nilFunc => some .val
  | .iface _ _ => some .val
  | .nilIface => some .val
  | _ => none
def ITy (T : Type) : List (Nat × Shp) → Type
  | [] => T
  | (_, .int _) :: r => Int → ITy T r
  | (_, .bool) :: r => Bool → ITy T r
  | (_, .str) :: r => ByteArray → ITy T r
  | (_, .ptr) :: r => Option Addr → ITy T r
  | (_, .sl) :: r => Option Addr → Nat → Nat → ITy T r
  | (_, .mp) :: r => Option Nat → ITy T r
  | (_, .val) :: r => Value → ITy T r
def applyI {T : Type} (e : Env) (k : T → Prop) : (l : List (Nat × Shp)) → ITy T l → Prop
  | [], I => k I
  | (t, .int kd) :: r, I => (match getE e t with
    | some ⟨none, .int k' n, _⟩ => (match decide (k' = kd) with | true => applyI e k r (I n) | false => False)
    | _ => False)
  | (t, .bool) :: r, I => (match getE e t with | some ⟨none, .bool b, _⟩ => applyI e k r (I b) | _ => False)
  | (t, .str) :: r, I => (match getE e t with | some ⟨none, .string b, _⟩ => applyI e k r (I b) | _ => False)
  | (t, .ptr) :: r, I => (match getE e t with | some ⟨none, .pointer b, _⟩ => applyI e k r (I b) | _ => False)
  | (t, .sl) :: r, I => (match getE e t with | some ⟨none, .slice a l c, _⟩ => applyI e k r (I a l c) | _ => False)
  | (t, .mp) :: r, I => (match getE e t with | some ⟨none, .map b, _⟩ => applyI e k r (I b) | _ => False)
  | (t, .val) :: r, I => (match getE e t with | some ⟨none, v, _⟩ => applyI e k r (I v) | _ => False)
def setV (e : Env) (t : Nat) (v : Value) : Env := e.set t (some ⟨none, v, none⟩)
def genI {T : Type} (k : Env → T → Prop) : (l : List (Nat × Shp)) → ITy T l → Env → Prop
  | [], I, e => k e I
  | (t, .int kd) :: r, I, e => ∀ n : Int, genI k r (I n) (setV e t (.int kd n))
  | (t, .bool) :: r, I, e => ∀ b : Bool, genI k r (I b) (setV e t (.bool b))
  | (t, .str) :: r, I, e => ∀ s : ByteArray, genI k r (I s) (setV e t (.string s))
  | (t, .ptr) :: r, I, e => ∀ p : Option Addr, genI k r (I p) (setV e t (.pointer p))
  | (t, .sl) :: r, I, e => ∀ (a : Option Addr) (l c : Nat), genI k r (I a l c) (setV e t (.slice a l c))
  | (t, .mp) :: r, I, e => ∀ m : Option Nat, genI k r (I m) (setV e t (.map m))
  | (t, .val) :: r, I, e => ∀ v : Value, genI k r (I v) (setV e t v)
theorem Agree.setV {e : Env} {a : Act} (h : Agree e a) {t : Nat} {v : Value} (hv : a.tmps[t]? = some v) : Agree (Eng.setV e t v) a := by
  refine ⟨by simp [Eng.setV, h.len], fun s n hn => ?_, fun s n b hn hb => ?_⟩
  case refine_2 =>
    unfold Eng.setV at hn
    by_cases hs : t = s
    · subst hs
      rw [List.getElem?_set_self'] at hn
      cases hx : e[t]? with
      | none => simp [hx] at hn
      | some y => simp [hx] at hn; subst hn; cases hb
    · rw [List.getElem?_set_ne hs] at hn
      exact h.fx s n b hn hb
  unfold Eng.setV at hn
  by_cases hs : t = s
  · subst hs
    rw [List.getElem?_set_self'] at hn
    cases hx : e[t]? with
    | none => simp [hx] at hn
    | some y => simp [hx] at hn; subst hn; exact hv
  · rw [List.getElem?_set_ne hs] at hn
    exact h.ent s n hn
theorem gen_apply {T : Type} {e2 : Env} {a : Act} {k : T → Prop} {kk : Env → T → Prop} (h2 : Agree e2 a) : ∀ (l : List (Nat × Shp)) (I : ITy T l) (e0 : Env), Agree e0 a →
    applyI e2 k l I → genI kk l I e0 → ∃ e' J, Agree e' a ∧ k J ∧ kk e' J := by
  have hget : ∀ t v k, getE e2 t = some ⟨none, v, k⟩ → a.tmps[t]? = some v := fun t v k h => by
    have := h2.ent _ _ (getE_some h)
    simpa only [EntOk] using this
  intro l
  induction l with
  | nil => intro I e0 h0 ha hg; exact ⟨e0, I, h0, ha, hg⟩
  | cons p r ih =>
    obtain ⟨t, s⟩ := p
    intro I e0 h0 ha hg
    cases s <;> simp only [applyI] at ha <;> simp only [genI] at hg
    case int kd =>
      split at ha
      · rename_i k' n kk hn
        split at ha
        · rename_i hk
          have hk := of_decide_eq_true hk
          subst hk
          exact ih _ _ (h0.setV (hget _ _ _ hn)) ha (hg n)
        · exact ha.elim
      · exact ha.elim
    all_goals
      split at ha
      · rename_i hn
        first
          | exact ih _ _ (h0.setV (hget _ _ _ hn)) ha (hg _)
          | exact ih _ _ (h0.setV (hget _ _ _ hn)) ha (hg _ _ _)
      · exact ha.elim

def dstsOf : List Oper → List Nat
  | [] => []
  | o :: r => (match o.dst with | some d => d :: dstsOf r | none => dstsOf r)
def asg : Code → List Nat
  | .region _ ops _ => dstsOf ops.toList
  | .seq a b => asg a ++ asg b
  | .cond _ a b => asg a ++ asg b
  | .block _ b => asg b
  | .loop b => asg b
  | .scope b => asg b
  | _ => []
theorem dstsOf_mem {l : List Oper} {o : Oper} {t : Nat} (ho : o ∈ l) (ht : o.dst = some t) : t ∈ dstsOf l := by
  induction l with
  | nil => simp at ho
  | cons x r ih =>
    unfold dstsOf
    rcases List.mem_cons.1 ho with rfl | ho
    · rw [ht]; exact List.mem_cons_self
    · split
      · exact List.mem_cons_of_mem _ (ih ho)
      · exact ih ho
def memN (t : Nat) : List Nat → Bool
  | [] => false
  | s :: r => s == t || memN t r
theorem memN_of {t : Nat} : ∀ {l : List Nat}, t ∈ l → memN t l = true := by
  intro l
  induction l with
  | nil => intro h; simp at h
  | cons s r ih =>
    intro h
    rcases List.mem_cons.1 h with rfl | h
    · simp [memN]
    · simp [memN, ih h]
def forgetFrom (S : List Nat) : Nat → Env → Env
  | _, [] => []
  | i, x :: r => (match x with
    | some ⟨none, v, k⟩ => (match memN i S with | true => none | false => some ⟨none, v, k⟩)
    | _ => none) :: forgetFrom S (i + 1) r
def forget (S : List Nat) (e : Env) : Env := forgetFrom S 0 e
theorem forgetFrom_get {S : List Nat} : ∀ (e : Env) (i t : Nat) (n : Ent), (forgetFrom S i e)[t]? = some (some n) → e[t]? = some (some n) ∧ n.need = none ∧ memN (i + t) S = false := by
  intro e
  induction e with
  | nil => intro i t n h; simp [forgetFrom] at h
  | cons x r ih =>
    intro i t n h
    cases t with
    | zero =>
      simp only [forgetFrom, List.getElem?_cons_zero, Option.some.injEq] at h
      split at h
      · rename_i v k
        split at h
        · simp at h
        · rename_i hm; simp at h; subst h; exact ⟨rfl, rfl, hm⟩
      · simp at h
    | succ t =>
      simp only [forgetFrom, List.getElem?_cons_succ] at h
      have := ih (i + 1) t n h
      refine ⟨by simpa using this.1, this.2.1, ?_⟩
      rw [show i + (t + 1) = i + 1 + t by omega]; exact this.2.2
theorem forgetFrom_len {S : List Nat} : ∀ (e : Env) (i : Nat), (forgetFrom S i e).length = e.length := by
  intro e
  induction e with
  | nil => intro i; rfl
  | cons x r ih => intro i; simp [forgetFrom, ih]
theorem Agree.forget {S : List Nat} {e : Env} {a a' : Act} (h : Agree e a) (hs : a'.tmps.size = a.tmps.size) (hk : ∀ t, t ∉ S → a'.tmps[t]? = a.tmps[t]?) : Agree (Eng.forget S e) a' := by
  refine ⟨by simp [Eng.forget, forgetFrom_len, h.len, hs], fun t n hn => ?_, fun t n b hn hb => ?_⟩
  case refine_2 =>
    obtain ⟨h1, h2, h3⟩ := forgetFrom_get e 0 t n hn
    have ht : t ∉ S := fun hm => by
      rw [Nat.zero_add, memN_of hm] at h3; cases h3
    have := h.fx t n b h1 hb
    unfold HoldsB at this ⊢
    rw [hk t ht]
    exact this
  obtain ⟨h1, h2, h3⟩ := forgetFrom_get e 0 t n hn
  have he := h.ent t n h1
  unfold EntOk at *
  rw [h2] at he ⊢
  have ht : t ∉ S := fun hm => by
    rw [Nat.zero_add, memN_of hm] at h3; cases h3
  rw [hk t ht]
  exact he
def headsFrom (S : List Nat) : Nat → Env → List (Nat × Shp)
  | _, [] => []
  | i, x :: r =>
    (match x with
     | some ⟨none, v, _⟩ =>
       (match memN i S with
        | true => (match shpOf v with | some s => (i, s) :: headsFrom S (i + 1) r | none => headsFrom S (i + 1) r)
        | false => headsFrom S (i + 1) r)
     | _ => headsFrom S (i + 1) r)
def heads (S : List Nat) (e : Env) : List (Nat × Shp) := headsFrom S 0 e

def firstR : Code → Option Nat
  | .region id _ _ => some id
  | .seq a b => (match firstR a with | some i => some i | none => firstR b)
  | .cond _ a b => (match firstR a with | some i => some i | none => firstR b)
  | .block _ b => firstR b
  | .loop b => firstR b
  | .scope b => firstR b
  | _ => none
def inJ (J : List Nat) : Option Nat → Bool
  | some i => memN i J
  | none => false

def leafA (d : TypeDesc) (k : Value → Prop) : Prop :=
  match d with
  | .bool => ∀ b : Bool, k (.bool b)
  | .int kd => ∀ n : Int, k (.int kd n)
  | .string => ∀ s : ByteArray, k (.string s)
  | .pointer _ => ∀ p : Option Addr, k (.pointer p)
  | .slice _ => ∀ (a : Option Addr) (l c : Nat), k (.slice a l c)
  | .map _ _ => ∀ r : Option Nat, k (.map r)
  | .func _ _ _ => ∀ v : Value, k v
  | .interface _ => ∀ v : Value, k v
  | _ => True
theorem leafEA {d : TypeDesc} {k1 k2 : Value → Prop} (h1 : leafE d k1) (h2 : leafA d k2) : ∃ v, k1 v ∧ k2 v := by
  cases d <;> simp only [leafE] at h1 <;> simp only [leafA] at h2 <;> first | exact h1.elim | skip
  case slice => obtain ⟨a, l, c, h⟩ := h1; exact ⟨_, h, h2 a l c⟩
  all_goals (obtain ⟨b, h⟩ := h1; exact ⟨_, h, h2 b⟩)
def repA (d : TypeDesc) : Nat → (List Value → Prop) → Prop
  | 0, k => k []
  | n + 1, k => leafA d fun v => repA d n fun vs => k (v :: vs)
def grpA : List (Nat × TypeDesc) → (List Value → Prop) → Prop
  | [], k => k []
  | (n, d) :: gs, k =>
    match d, decide (8 ≤ n) with
    | .int kd, true => ∀ f : Nat → Int, grpA gs fun vs => k (runI kd f 0 n ++ vs)
    | d, _ => repA d n fun us => grpA gs fun vs => k (us ++ vs)
theorem repEA {d : TypeDesc} : ∀ {n : Nat} {k1 k2 : List Value → Prop}, repE d n k1 → repA d n k2 → ∃ vs, k1 vs ∧ k2 vs
  | 0, _, _, h1, h2 => ⟨_, h1, h2⟩
  | n + 1, k1, k2, h1, h2 => by
    obtain ⟨v, h1, h2⟩ := leafEA h1 h2
    obtain ⟨vs, h1, h2⟩ := repEA h1 h2
    exact ⟨_, h1, h2⟩
theorem grpEA : ∀ {gs : List (Nat × TypeDesc)} {k1 k2 : List Value → Prop}, grpE gs k1 → grpA gs k2 → ∃ vs, k1 vs ∧ k2 vs
  | [], _, _, h1, h2 => ⟨_, h1, h2⟩
  | (n, d) :: gs, k1, k2, h1, h2 => by
    unfold grpE at h1
    unfold grpA at h2
    have other : ∀ (h1 : repE d n fun us => grpE gs fun vs => k1 (us ++ vs)) (h2 : repA d n fun us => grpA gs fun vs => k2 (us ++ vs)), ∃ vs, k1 vs ∧ k2 vs := fun h1 h2 => by
      obtain ⟨us, h1, h2⟩ := repEA h1 h2
      obtain ⟨vs, h1, h2⟩ := grpEA h1 h2
      exact ⟨_, h1, h2⟩
    cases hn : decide (8 ≤ n)
    · cases d <;> simp only [hn] at h1 h2 <;> exact other h1 h2
    · cases d
      case int kd =>
        simp only [hn] at h1 h2
        obtain ⟨f, h1⟩ := h1
        obtain ⟨vs, h1, h2⟩ := grpEA h1 (h2 f)
        exact ⟨_, h1, h2⟩
      all_goals (simp only [hn] at h1 h2; exact other h1 h2)
def valA (P : Program) (t : TypeId) (k : Value → Prop) : Prop :=
  match P.underlying t with
  | some (.struct _) | some (.array _ _) =>
    (match leaves P 12 t with
     | some ds => grpA (grp ds) fun vs => k (.agg vs.toArray)
     | none => True)
  | some d => leafA d k
  | none => True
theorem valEA {P : Program} {t : TypeId} {k1 k2 : Value → Prop} (h1 : valE P t k1) (h2 : valA P t k2) : ∃ v, k1 v ∧ k2 v := by
  unfold valE at h1
  unfold valA at h2
  cases hu : P.underlying t with
  | none => rw [hu] at h1; exact h1.elim
  | some d =>
    rw [hu] at h1 h2
    cases d
    case struct =>
      dsimp only at h1 h2
      cases hl : leaves P 12 t with
      | none => rw [hl] at h1; exact h1.elim
      | some ds =>
        rw [hl] at h1 h2
        obtain ⟨vs, h1, h2⟩ := grpEA h1 h2
        exact ⟨_, h1, h2⟩
    case array =>
      dsimp only at h1 h2
      cases hl : leaves P 12 t with
      | none => rw [hl] at h1; exact h1.elim
      | some ds =>
        rw [hl] at h1 h2
        obtain ⟨vs, h1, h2⟩ := grpEA h1 h2
        exact ⟨_, h1, h2⟩
    all_goals exact leafEA h1 h2
def hintE (P : Program) (t : Option TypeId) (k : Value → Prop) : Prop :=
  match t with
  | some t => valE P t k
  | none => ∃ v : Value, k v
def hintA (P : Program) (t : Option TypeId) (k : Value → Prop) : Prop :=
  match t with
  | some t => valA P t k
  | none => ∀ v : Value, k v
def rowE (P : Program) : List (Option TypeId) → (List Value → Prop) → Prop
  | [], k => k []
  | t :: ts, k => hintE P t fun v => rowE P ts fun vs => k (v :: vs)
def rowA (P : Program) : List (Option TypeId) → (List Value → Prop) → Prop
  | [], k => k []
  | t :: ts, k => hintA P t fun v => rowA P ts fun vs => k (v :: vs)
theorem rowEA {P : Program} : ∀ {ts : List (Option TypeId)} {k1 k2 : List Value → Prop}, rowE P ts k1 → rowA P ts k2 → ∃ vs, k1 vs ∧ k2 vs
  | [], _, _, h1, h2 => ⟨_, h1, h2⟩
  | t :: ts, k1, k2, h1, h2 => by
    have : ∃ v, (rowE P ts fun vs => k1 (v :: vs)) ∧ (rowA P ts fun vs => k2 (v :: vs)) := by
      unfold rowE hintE at h1
      unfold rowA hintA at h2
      cases t with
      | none => obtain ⟨v, h1⟩ := h1; exact ⟨v, h1, h2 v⟩
      | some t => exact valEA h1 h2
    obtain ⟨v, h1, h2⟩ := this
    obtain ⟨vs, h1, h2⟩ := rowEA h1 h2
    exact ⟨_, h1, h2⟩
def opTy (p : Nat) (o : Oper) : Option TypeId :=
  match o.op with
  | .move (.tmp t) => (match t == p with | true => some o.type | false => none)
  | .assign (.tmp t) => (match t == p with | true => some o.type | false => none)
  | .store ty _ (.tmp t) => (match t == p with | true => some ty | false => none)
  | .field s (.tmp t) _ => (match t == p with | true => some s | false => none)
  | _ => none
def opsTy (p : Nat) : List Oper → Option TypeId
  | [] => none
  | o :: r => (match opTy p o with | some t => some t | none => opsTy p r)
def codeTy (p : Nat) : Code → Option TypeId
  | .region _ ops _ => opsTy p ops.toList
  | .seq a b => (match codeTy p a with | some t => some t | none => codeTy p b)
  | .cond _ a b => (match codeTy p a with | some t => some t | none => codeTy p b)
  | .block _ b => codeTy p b
  | .loop b => codeTy p b
  | .scope b => codeTy p b
  | _ => none
def psTys (c : Code) : List Nat → List (Option TypeId)
  | [] => []
  | p :: ps => codeTy p c :: psTys c ps

def hasRF : Code → Bool
  | .rangeFunc _ _ _ _ => true
  | .seq a b => hasRF a || hasRF b
  | .cond _ a b => hasRF a || hasRF b
  | .block _ b => hasRF b
  | .loop b => hasRF b
  | .scope b => hasRF b
  | _ => false
def exitsOf : Code → List Nat
  | .exit id => [id]
  | .seq a b => exitsOf a ++ exitsOf b
  | .cond _ a b => exitsOf a ++ exitsOf b
  | .block _ b => exitsOf b
  | .loop b => exitsOf b
  | .scope b => exitsOf b
  | _ => []
def ysOf : List Nat → List Nat
  | [] => []
  | j :: r => (match Nat.ble 1000000 j with | true => (j - 1000000) :: ysOf r | false => ysOf r)
def marks (ds : List Nat) : List Deferred := ds.map fun D => { target := .collected D, args := #[] }
structure KeptY (Y : Nat → Prop) (W W' : World) : Prop where
  sz : W.heap.size ≤ W'.heap.size
  blk : ∀ b, Y b → W'.heap[b]? = W.heap[b]?
structure RecKept (B : Nat) (W W' : World) : Prop where
  sz : W.heap.size ≤ W'.heap.size
  d : W'.heap[B]? = W.heap[B]?
  l : W'.heap[B + 1]? = W.heap[B + 1]?
def recsY (B : Nat) (Y : Nat → Prop) : Nat → Prop := fun b => b = B ∨ b = B + 1 ∨ Y b
structure GivesV (P : Program) (gf : FuncId) (lb : List Value) (xss : List (List Value)) (R : Nat → Prop) (w0 : World) : Prop where
  run : ∀ (l : Nat) (J : (Nat → Prop) → Nat → World → Prop) (Jx : (Nat → Prop) → World → Prop) (W : World), Kept none' w0 W →
    (∀ Y i W W', J Y i W → Kept Y W W' → J (fun b => Y b ∨ (W.heap.size ≤ b ∧ b < W'.heap.size)) i W') →
    (∀ Y W W', Jx Y W → Kept Y W W' → Jx (fun b => Y b ∨ (W.heap.size ≤ b ∧ b < W'.heap.size)) W') →
    (∀ Y i xs W1, xss[i]? = some xs → J Y i W1 → YieldIs P l xs W1 fun e W' =>
      KeptY (fun b => Y b ∨ R b) W1 W' ∧ ((e = .returned (.bool true) ∧ J Y (i + 1) W') ∨ (e = .returned (.bool false) ∧ Jx Y W'))) →
    J (fun _ => False) 0 W →
    Calls P gf (#[.func (.yield l) #[] #[]] ++ lb.toArray) W fun e W' => (∃ v, e = .returned v) ∧ ((∃ Y, J Y xss.length W') ∨ ∃ Y, Jx Y W')
structure DefAt (B : Nat) (W : World) : Prop where
  at_ : W.heap[B]? = some (.deferred (some []))
structure DefsAt (ds : List Nat) (W : World) : Prop where
  nd : ds.Nodup
  all : ∀ D ∈ ds, W.heap[D]? = some (.deferred (some []))
def setPs (e : Env) : List Nat → List Value → Env
  | p :: ps, x :: xs => setPs (putE e (some p) ⟨none, x, none⟩) ps xs
  | _, _ => e
def eachX (f : Nat → Prop) : List Nat → Prop
  | [] => True
  | [i] => f i
  | i :: j :: r => f i ∧ eachX f (j :: r)
theorem eachX_of {f : Nat → Prop} : ∀ {l : List Nat}, eachX f l → ∀ i ∈ l, f i
  | [], _, i, hi => by cases hi
  | [j], h, i, hi => by simp at hi; subst hi; exact h
  | j :: k :: r, h, i, hi => by
    rcases List.mem_cons.1 hi with rfl | hi
    · exact h.1
    · exact eachX_of h.2 i hi

def regCut (J : List Nat) (id : Nat) : Nat :=
  match memN (4000000 + id) J with
  | true => 1
  | false => (match memN (5000000 + id) J with | true => 2 | false => 0)
def shpN : Nat → Shp
  | 0 => .int .i64
  | 1 => .ptr
  | 2 => .sl
  | 3 => .mp
  | 4 => .bool
  | 5 => .int .u8
  | _ => .val
def regHeads (id : Nat) : List Nat → List (Nat × Shp)
  | [] => []
  | n :: r => (match n / 100000 == 1000 + id with | true => (n % 100000 / 10, shpN (n % 10)) :: regHeads id r | false => regHeads id r)
def wReg (P : Program) (H : Hand) (J : List Nat) (ops : Array Oper) (d : Bool) (QN : Env → World → Prop) (e : Env) (w : World) : Prop :=
  match d with
  | false => wOpsY P H (ysOf J) ops.toList QN ops.toList e w
  | true => (match Region.noSelect ops with
    | true => ∀ w1, w1 = w.drew → wDraw P H (ysOf J) ops.toList (loudL P ops.toList) QN ops.toList.length [] (Array.replicate ops.toList.length false) e w1
    | false => False)
structure SemReg (P : Program) (ops : List Oper) (S : List Nat) (e : Env) (hs : List (Nat × Shp)) (I : ITy (World → Prop) hs) (w : World) : Prop where
  run : ∀ a, Agree e a → ∀ Q : Exit → Act → World → Prop, (∀ e' a' w', AgK S a a.defers e' a' → applyI e' (fun K => K w') hs I → Q .normal a' w') →
    wpAny P .any ops.toArray Q ops.length (Array.replicate ops.length false) a w.drew
def wCode (P : Program) (H : Hand) (J : List Nat) (T : Bool) : Code → (Exit → List Nat → Env → World → Prop) → List Nat → Env → World → Prop
  | .skip, Q, ds, e, w => Q .normal ds e w
  | .ret, Q, ds, e, w => Q .ret ds e w
  | .exit id, Q, ds, e, w => Q (.exit id) ds e w
  | .seq a b, Q, ds, e, w => wCode P H J T a (fun ex ds' e' w' => match ex with
      | .normal => wCode P H J T b Q ds' e' w'
      | ex => Q ex ds' e' w') ds e w
  | .cond c x y, Q, ds, e, w =>
    (match rdO [] e c with
     | some (.bool b) =>
       (match inJ J (firstR (.seq x y)) with
        | false => Wif b (wCode P H J T x Q ds e w) (wCode P H J T y Q ds e w)
        | true => (match hasRF (.seq x y) with
          | true => False
          | false => ∃ I : ITy (World → Prop) (heads (asg x ++ asg y) e),
            Wif b
              (wCode P H J T x (fun ex ds' e' w' => match ex with
                | .normal => applyI e' (fun K => K w') (heads (asg x ++ asg y) e) I
                | ex => Q ex ds' e' w') ds e w)
              (wCode P H J T y (fun ex ds' e' w' => match ex with
                | .normal => applyI e' (fun K => K w') (heads (asg x ++ asg y) e) I
                | ex => Q ex ds' e' w') ds e w) ∧
            genI (fun e' K => ∀ w', K w' → Q .normal ds e' w') (heads (asg x ++ asg y) e) I (forget (asg x ++ asg y) e)))
     | _ => False)
  | .block id x, Q, ds, e, w => wCode P H J T x (fun ex ds' e' w' => match ex with
      | .exit i => (match i == id with | true => Q .normal ds' e' w' | false => Q (.exit i) ds' e' w')
      | ex => Q ex ds' e' w') ds e w
  | .region id ops d, Q, ds, e, w =>
    (match ops.toList.all (fun o => notDefer o.op) with
     | false => False
     | true => (match regCut J id with
       | 0 => wReg P H J ops d (fun e' w' => Q .normal ds (forget [] e') w') e w
       | 1 => ∃ I : ITy (World → Prop) (regHeads id J), wReg P H J ops d (fun e' w' => applyI e' (fun K => K w') (regHeads id J) I) e w ∧
          genI (fun e' K => ∀ w', K w' → Q .normal ds e' w') (regHeads id J) I (forget (dstsOf ops.toList) e)
       | _ => (match d, Region.noSelect ops with
          | true, true => ∃ I : ITy (World → Prop) (regHeads id J), SemReg P ops.toList (dstsOf ops.toList) e (regHeads id J) I w ∧
            genI (fun e' K => ∀ w', K w' → Q .normal ds e' w') (regHeads id J) I (forget (dstsOf ops.toList) e)
          | _, _ => False)))
  | .loop x, Q, ds, e, w =>
    (match hasRF x with
     | false => ∃ I : ITy (World → Nat → Prop) (heads (asg x) e),
        (∃ n, applyI e (fun K => K w n) (heads (asg x) e) I) ∧
        genI (fun e' K => ∀ w' n, K w' n → wCode P H J T x (fun ex ds2 e2 w2 => match ex with
          | .normal => ∃ m, m < n ∧ applyI e2 (fun K => K w2 m) (heads (asg x) e) I
          | ex => Q ex ds2 e2 w2) ds e' w') (heads (asg x) e) I (forget (asg x) e)
     | true => ∃ I : ITy (List Nat → World → Nat → Prop) (heads (asg x) e),
        (∃ n, applyI e (fun K => K ds w n) (heads (asg x) e) I) ∧
        genI (fun e' K => ∀ ds' w' n, K ds' w' n → wCode P H J T x (fun ex ds2 e2 w2 => match ex with
          | .normal => ∃ m, m < n ∧ applyI e2 (fun K => K ds2 w2 m) (heads (asg x) e) I
          | ex => Q ex ds2 e2 w2) ds' e' w') (heads (asg x) e) I (forget (asg x) e))
  | .rangeFunc g ps assign body, Q, ds, e, w =>
    (match T, hasRF assign || hasRF body, rdO [] e g with
     | true, false, some (.func (.func gf) fst lb) =>
       (match fst.toList, callB P gf with
        | [], true => ∃ (xss : List (List Value)) (R : Nat → Prop) (I : (Nat → Prop) → Nat → World → Prop) (X : Nat → (Nat → Prop) → World → Prop),
            (GivesV P gf lb.toList xss R w ∧ (∀ xs, xs ∈ xss → xs.length = ps.toList.length ∧ rowE P (psTys (.seq assign body) ps.toList) fun ys => xs = ys) ∧ (∀ b, R b → b < w.heap.size)) ∧
            (∀ w1, Kept none' w w1 → w1.heap.size = w.heap.size + 2 → I (fun _ => False) 0 w1) ∧
            (∀ Y i W W', I Y i W → (∀ b, Y b → w.heap.size + 2 ≤ b) → Kept (recsY w.heap.size Y) W W' → I (fun b => Y b ∨ (W.heap.size ≤ b ∧ b < W'.heap.size)) i W') ∧
            (∀ k Y W W', X k Y W → (∀ b, Y b → w.heap.size + 2 ≤ b) → Kept (recsY w.heap.size Y) W W' → X k (fun b => Y b ∨ (W.heap.size ≤ b ∧ b < W'.heap.size)) W') ∧
            (∀ (Y : Nat → Prop) i W, I Y i W → (∀ b, Y b → w.heap.size + 2 ≤ b) → w.heap.size + 2 ≤ W.heap.size →
              rowA P (psTys (.seq assign body) ps.toList) fun xs => xss[i]? = some xs → wCode P H J false assign (fun ex _ e1 w1 => match ex with
                | .normal => RecKept w.heap.size W w1 ∧ ∀ w2, Kept (fun b => b = w.heap.size + 1) w1 w2 → w2.heap.size = w1.heap.size →
                    wCode P H J false body (fun ex _ e2 w3 => match ex with
                      | .normal => RecKept w.heap.size w2 w3 ∧ KeptY (fun b => Y b ∨ R b) W w3 ∧ I Y (i + 1) w3
                      | .ret => RecKept w.heap.size w2 w3 ∧ KeptY (fun b => Y b ∨ R b) W w3 ∧ X 0 Y w3
                      | .exit id => (match memN id (exitsOf body) with | true => RecKept w.heap.size w2 w3 ∧ KeptY (fun b => Y b ∨ R b) W w3 ∧ X (id + 1) Y w3 | false => False)
                      | _ => False) [] e1 w2
                | _ => False) [] (setPs e ps.toList xs) W) ∧
            (∀ Y W, I Y xss.length W → DefAt w.heap.size W → Q .normal (w.heap.size :: ds) e W) ∧
            (∀ Y W, X 0 Y W → DefAt w.heap.size W → Q .ret (w.heap.size :: ds) e W) ∧
            eachX (fun id => ∀ Y W, X (id + 1) Y W → DefAt w.heap.size W → Q (.exit id) (w.heap.size :: ds) e W) (exitsOf body)
        | _, _ => False)
     | _, _, _ => False)
  | .scope x, Q, ds, e, w =>
    (match T with
     | true => wCode P H J true x (fun ex ds' e' w' => match ex with
        | .goto _ => False
        | ex => Q ex ds' e' w') ds e w
     | false => False)
  | .label _, Q, ds, e, w => Q .normal ds e w
  | _, _, _, _, _ => False

noncomputable def leastN (p : Nat → Prop) : Nat := Classical.epsilon fun n => p n ∧ ∀ m, p m → n ≤ m
theorem leastN_spec {p : Nat → Prop} (h : ∃ n, p n) : p (leastN p) ∧ ∀ m, p m → leastN p ≤ m := by
  have : ∃ n, p n ∧ ∀ m, p m → n ≤ m := by
    obtain ⟨n, hn⟩ := h
    induction n using Nat.strongRecOn with
    | _ n ih =>
      by_cases hx : ∃ m, m < n ∧ p m
      · obtain ⟨m, hm, hp⟩ := hx; exact ih m hm hp
      · exact ⟨n, hn, fun m hm => Nat.le_of_not_lt fun hlt => hx ⟨m, hlt, hm⟩⟩
  exact Classical.epsilon_spec this

def NoP (Q : Exit → Act → World → Prop) : Exit → Act → World → Prop
  | .panic _, _, _ => False
  | .outgrown, _, _ => False
  | e, a, w => Q e a w
theorem NoP.imp {Q : Exit → Act → World → Prop} : ∀ (e : Exit) (a : Act) (w : World), NoP Q e a w → Q e a w := fun e a w h => by
  cases e <;> first | exact h | exact (h : False).elim

theorem memN_mem {t : Nat} : ∀ {l : List Nat}, memN t l = true → t ∈ l
  | [], h => by cases h
  | s :: r, h => by
    unfold memN at h
    rw [Bool.or_eq_true] at h
    rcases h with h | h
    · have : s = t := by simpa using h
      subst this; simp
    · exact List.mem_cons_of_mem _ (memN_mem h)
theorem NoP.noOut {Q : Exit → Act → World → Prop} : ¬ LetsOut (NoP Q) := fun ⟨_, _, h⟩ => h
theorem marks_cons (B : Nat) (ds : List Nat) : marks (B :: ds) = [{ target := .collected B, args := #[] }] ++ marks ds := rfl
theorem kept_put {w : World} {l : Nat} {o : Obj} {X : Nat → Prop} (hx : X l) : Kept X w (w.putObj l o) :=
  ⟨rfl, rfl, rfl, by simp, fun b _ hn => World.putObj_heap_other fun e => hn (e ▸ hx)⟩
theorem setPs_agree : ∀ (ps : List Nat) (xs : List Value) (e : Env) (a : Act), Agree e a → Agree (setPs e ps xs) { a with tmps := (ps.zip xs).foldl (fun t (p, v) => t.setIfInBounds p v) a.tmps }
  | [], _, e, a, h => by simpa [setPs] using h
  | p :: ps, [], e, a, h => by simpa [setPs] using h
  | p :: ps, x :: xs, e, a, h => by
    have := setPs_agree ps xs _ _ (h.put (some p) ⟨none, x, none⟩ (v := x) rfl)
    exact this
theorem agree_defs {e : Env} {a : Act} (h : Agree e a) (ds : List Deferred) : Agree e { a with defers := ds } := ⟨h.len, h.ent, h.fx⟩

theorem wCode_sound {P : Program} {H : Hand} (hH : HSound P H) (hmix : P.follows .mixedOrders = true) {J : List Nat} : ∀ (c : Code) (T : Bool) (r : Option Nat) (n : Nat), (T = true → r = none) → ∀ (S : List Nat) (a0 : Act) (QW : Exit → List Nat → Env → World → Prop) (Q : Exit → Act → World → Prop) (ds : List Nat) (e : Env) (a : Act) (w : World),
    (∀ t ∈ asg c, t ∈ S) → (∀ ex ds' e a w, (hasRF c = false → ds' = ds) → AgK S a0 (marks ds') e a → QW ex ds' e w → Q ex a w) → AgK S a0 (marks ds) e a → wCode P H J T c QW ds e w → c.wpIn (FR r) n P Q a w := by
  intro c
  induction c with
  | skip => intro T r n hT S a0 QW Q ds e a w _ hQ ha h; exact wpIn_skip (hQ _ _ _ _ _ (fun _ => rfl) ha h)
  | ret => intro T r n hT S a0 QW Q ds e a w _ hQ ha h; exact wpIn_ret (hQ _ _ _ _ _ (fun _ => rfl) ha h)
  | exit id => intro T r n hT S a0 QW Q ds e a w _ hQ ha h; exact wpIn_exit (hQ _ _ _ _ _ (fun _ => rfl) ha h)
  | seq x y ihx ihy =>
    intro T r n hT S a0 QW Q ds e a w hS hQ ha h
    have hrf : hasRF (.seq x y) = (hasRF x || hasRF y) := rfl
    refine wpIn_seq (ihx T r n hT S a0 _ _ ds e a w (fun t ht => hS t (List.mem_append_left _ ht)) ?_ ha h)
    intro ex ds' e' a' w' hd ha' hq
    cases ex with
    | normal =>
      refine ihy T r n hT S a0 QW Q ds' e' a' w' (fun t ht => hS t (List.mem_append_right _ ht)) (fun ex ds2 e2 a2 w2 hd2 ha2 hq2 => hQ _ _ _ _ _ (fun hf => ?_) ha2 hq2) ha' hq
      rw [hrf, Bool.or_eq_false_iff] at hf
      rw [hd2 hf.2, hd hf.1]
    | _ => exact hQ _ _ _ _ _ (fun hf => hd (by rw [hrf, Bool.or_eq_false_iff] at hf; exact hf.1)) ha' hq
  | cond c x y ihx ihy =>
    intro T r n hT S a0 QW Q ds e a w hS hQ ha h
    have hSx : ∀ t ∈ asg x, t ∈ S := fun t ht => hS t (List.mem_append_left _ ht)
    have hSy : ∀ t ∈ asg y, t ∈ S := fun t ht => hS t (List.mem_append_right _ ht)
    have hrf : hasRF (.cond c x y) = (hasRF x || hasRF y) := rfl
    unfold wCode at h
    split at h
    · rename_i b hb
      have hc := rdO_sound ha.ag (by simp) _ _ hb
      split at h
      · rcases Wif_elim h with ⟨rfl, h⟩ | ⟨rfl, h⟩
        · exact wpIn_cond_true hc (ihx T r n hT S a0 QW Q ds e a w hSx (fun ex ds' e a w hd => hQ ex ds' e a w fun hf => hd (by rw [hrf, Bool.or_eq_false_iff] at hf; exact hf.1)) ha h)
        · exact wpIn_cond_false hc (ihy T r n hT S a0 QW Q ds e a w hSy (fun ex ds' e a w hd => hQ ex ds' e a w fun hf => hd (by rw [hrf, Bool.or_eq_false_iff] at hf; exact hf.2)) ha h)
      · split at h
        · exact h.elim
        · rename_i hnrf
          have hnrf' : hasRF x = false ∧ hasRF y = false := by
            have : (hasRF x || hasRF y) = false := hnrf
            rwa [Bool.or_eq_false_iff] at this
          obtain ⟨I, h, hg⟩ := h
          have hS' : ∀ t ∈ asg x ++ asg y, t ∈ S := hS
          have key : ∀ ex ds' e' a' w', ds' = ds → AgK (asg x ++ asg y) a (marks ds') e' a' → (match ex with
                  | Exit.normal => applyI e' (fun K => K w') (heads (asg x ++ asg y) e) I
                  | ex => QW ex ds' e' w') → Q ex a' w' := by
            intro ex ds' e' a' w' hd ha' hq
            subst hd
            have hk : ∀ e2, Agree e2 a' → AgK S a0 (marks ds') e2 a' := fun e2 h2 => ⟨h2, by rw [ha'.size, ha.size], ha'.defs, fun t ht => by
              rw [ha'.keep t (fun hm => ht (hS' t hm)), ha.keep t ht]⟩
            cases ex with
            | normal =>
              obtain ⟨e2, K, h2, hK, hx⟩ := gen_apply ha'.ag _ I _ (ha.ag.forget ha'.size ha'.keep) hq hg
              exact hQ _ _ _ _ _ (fun _ => rfl) (hk e2 h2) (hx w' hK)
            | _ => exact hQ _ _ _ _ _ (fun _ => rfl) (hk e' ha'.ag) hq
          have ha' : AgK (asg x ++ asg y) a (marks ds) e a := ⟨ha.ag, rfl, ha.defs, fun _ _ => rfl⟩
          rcases Wif_elim h with ⟨rfl, h⟩ | ⟨rfl, h⟩
          · exact wpIn_cond_true hc (ihx T r n hT (asg x ++ asg y) a _ Q ds e a w (fun t ht => List.mem_append_left _ ht) (fun ex ds' e' a' w' hd => key ex ds' e' a' w' (hd hnrf'.1)) ha' h)
          · exact wpIn_cond_false hc (ihy T r n hT (asg x ++ asg y) a _ Q ds e a w (fun t ht => List.mem_append_right _ ht) (fun ex ds' e' a' w' hd => key ex ds' e' a' w' (hd hnrf'.2)) ha' h)
    · exact h.elim
  | block id x ih =>
    intro T r n hT S a0 QW Q ds e a w hS hQ ha h
    refine wpIn_block (ih T r n hT S a0 _ _ ds e a w hS ?_ ha h)
    intro ex ds' e' a' w' hd ha' hq
    cases ex with
    | exit i =>
      dsimp only at hq
      simp only [Exit.inBlock]
      split at hq
      · rename_i hi
        rw [if_pos (by simpa using hi)]
        exact hQ _ _ _ _ _ hd ha' hq
      · rename_i hi
        rw [if_neg (by simpa using hi)]
        exact hQ _ _ _ _ _ hd ha' hq
    | _ => exact hQ _ _ _ _ _ hd ha' hq
  | region id ops d =>
    intro T r n hT S a0 QW Q ds e a w hS hQ ha h
    have hS' : ∀ o ∈ ops.toList, ∀ t, o.dst = some t → t ∈ S := fun o ho t ht => hS t (dstsOf_mem ho ht)
    have hfin : ∀ e a w, AgK S a0 (marks ds) e a → QW .normal ds (forget [] e) w → Q .normal a w := fun e a w ha hq =>
      hQ _ _ _ _ _ (fun _ => rfl) ⟨ha.ag.forget rfl (fun _ _ => rfl), ha.size, ha.defs, ha.keep⟩ hq
    have hcut : ∀ (hs : List (Nat × Shp)) (I : ITy (World → Prop) hs), genI (fun e' K => ∀ w', K w' → QW .normal ds e' w') hs I (forget (dstsOf ops.toList) e) →
        ∀ e' a' w', AgK (dstsOf ops.toList) a (marks ds) e' a' → applyI e' (fun K => K w') hs I → Q .normal a' w' := by
      intro hs I hg e' a' w' ha' hq
      obtain ⟨e2, K, h2, hK, hx⟩ := gen_apply ha'.ag _ I _ (ha.ag.forget ha'.size ha'.keep) hq hg
      exact hQ _ _ _ _ _ (fun _ => rfl) ⟨h2, by rw [ha'.size, ha.size], ha'.defs, fun t ht => by
        rw [ha'.keep t (fun hm => ht (hS t hm)), ha.keep t ht]⟩ (hx w' hK)
    have haS : AgK (dstsOf ops.toList) a (marks ds) e a := ⟨ha.ag, rfl, ha.defs, fun _ _ => rfl⟩
    unfold wCode at h
    split at h
    · exact h.elim
    · rename_i hnd
      have hdef : ∀ o ∈ ops.toList, notDefer o.op = true := List.all_eq_true.1 hnd
      have reg : ∀ (S2 : List Nat) (a2 : Act) (QN : Env → World → Prop), (∀ o ∈ ops.toList, ∀ t, o.dst = some t → t ∈ S2) → (∀ e a w, AgK S2 a2 (marks ds) e a → QN e w → Q .normal a w) → AgK S2 a2 (marks ds) e a →
          wReg P H J ops d QN e w → (Code.region id ops d).wpIn (FR r) n P Q a w := by
        intro S2 a2 QN hS2 hfin ha h
        unfold wReg at h
        split at h
        · exact wpIn_region_list (by
            have := wOpsY_sound (r := r) (n := n) hH (ops := ops.toList) (Q := Q) hfin hdef ops.toList (fun _ h => h) hS2 e a w ha h
            simpa using this)
        · split at h
          · rename_i hns
            have := wDraw_sound hH (ops := ops.toList) (L := loudL P ops.toList) (Q := NoP Q) (S := S2) (a0 := a2) (D := marks ds) (fun e a w h1 h2 => hfin e a w h1 h2) (fun c a w hx => hx) hS2 (by simpa using hns)
              ops.toList.length [] (Array.replicate ops.toList.length false) e a w.drew ha (fun j _ _ hl => by simp [Array.getElem?_replicate] at hl; split at hl <;> simp at hl) trivial (h _ rfl)
            have h2 := wpAny_of_pend _ _ _ _ this
            rw [Array.toArray_toList] at h2
            have h2' := any_in (r := r) (n := n) NoP.noOut hdef _ _ _ _ h2
            have h3 : (Code.region id ops true).wpIn (FR r) n P (NoP Q) a w := wpIn_region_any hmix (by
              rw [← Array.length_toList]; exact h2')
            exact wpIn_mono h3 NoP.imp
          · exact h.elim
      split at h
      · exact reg S a0 _ hS' hfin ha h
      · obtain ⟨I, h1, hg⟩ := h
        exact reg (dstsOf ops.toList) a _ (fun o ho t ht => dstsOf_mem ho ht) (fun e' a' w' ha' hq => hcut _ I hg e' a' w' ha' hq) haS h1
      · split at h
        · obtain ⟨I, h1, hg⟩ := h
          have hd : a.defers = marks ds := ha.defs
          have h2 := h1.run a ha.ag (NoP Q) (fun e' a' w' ha' hq => hcut _ I hg e' a' w' (by rw [← hd]; exact ha') hq)
          rw [Array.toArray_toList] at h2
          have h2' := any_in (r := r) (n := n) NoP.noOut hdef _ _ _ _ h2
          have h3 : (Code.region id ops true).wpIn (FR r) n P (NoP Q) a w := wpIn_region_any hmix (by
            rw [← Array.length_toList]; exact h2')
          exact wpIn_mono h3 NoP.imp
        · exact h.elim
  | loop x ih =>
    intro T r n hT S a0 QW Q ds e a w hS hQ ha h
    unfold wCode at h
    split at h
    · rename_i hrf
      obtain ⟨I, ⟨n0, h0⟩, hg⟩ := h
      let X : Act → World → Nat → Prop := fun a' w' n => a'.tmps.size = a.tmps.size ∧ a'.defers = marks ds ∧ (∀ t, t ∉ asg x → a'.tmps[t]? = a.tmps[t]?) ∧ ∃ e2, Agree e2 a' ∧ applyI e2 (fun K => K w' n) (heads (asg x) e) I
      refine wpIn_loop (fun a' w' => ∃ n, X a' w' n) (fun a' w' => leastN (X a' w')) ⟨n0, rfl, ha.defs, fun _ _ => rfl, e, ha.ag, h0⟩ ?_
      intro a1 w1 hX
      obtain ⟨hx1, hxd, hx2, e2, he2, hap⟩ := (leastN_spec hX).1
      obtain ⟨e', K, he', hK, hk⟩ := gen_apply he2 _ I _ (ha.ag.forget hx1 hx2) hap hg
      have hb := hk w1 _ hK
      refine ih T r n hT (asg x) a _ _ ds e' a1 w1 (fun t ht => ht) ?_ ⟨he', hx1, hxd, hx2⟩ hb
      intro ex ds3 e3 a3 w3 hd3 ha3 hq
      have := hd3 hrf
      subst this
      cases ex with
      | normal =>
        obtain ⟨m, hm, hap3⟩ := hq
        have hX3 : X a3 w3 m := ⟨ha3.size, ha3.defs, ha3.keep, e3, ha3.ag, hap3⟩
        exact ⟨⟨m, hX3⟩, Nat.lt_of_le_of_lt ((leastN_spec ⟨m, hX3⟩).2 m hX3) hm⟩
      | _ =>
        exact hQ _ _ _ _ _ (fun _ => rfl) ⟨ha3.ag, by rw [ha3.size, ha.size], ha3.defs, fun t ht => by rw [ha3.keep t (fun hm => ht (hS t hm)), ha.keep t ht]⟩ hq
    · rename_i hrf
      obtain ⟨I, ⟨n0, h0⟩, hg⟩ := h
      let X : Act → World → Nat → Prop := fun a' w' n => ∃ ds', a'.tmps.size = a.tmps.size ∧ a'.defers = marks ds' ∧ (∀ t, t ∉ asg x → a'.tmps[t]? = a.tmps[t]?) ∧ ∃ e2, Agree e2 a' ∧ applyI e2 (fun K => K ds' w' n) (heads (asg x) e) I
      refine wpIn_loop (fun a' w' => ∃ n, X a' w' n) (fun a' w' => leastN (X a' w')) ⟨n0, ds, rfl, ha.defs, fun _ _ => rfl, e, ha.ag, h0⟩ ?_
      intro a1 w1 hX
      obtain ⟨ds1, hx1, hxd, hx2, e2, he2, hap⟩ := (leastN_spec hX).1
      obtain ⟨e', K, he', hK, hk⟩ := gen_apply he2 _ I _ (ha.ag.forget hx1 hx2) hap hg
      have hb := hk ds1 w1 _ hK
      refine ih T r n hT (asg x) a _ _ ds1 e' a1 w1 (fun t ht => ht) ?_ ⟨he', hx1, hxd, hx2⟩ hb
      intro ex ds3 e3 a3 w3 hd3 ha3 hq
      have hrf' : hasRF (.loop x) = true := hrf
      cases ex with
      | normal =>
        obtain ⟨m, hm, hap3⟩ := hq
        have hX3 : X a3 w3 m := ⟨ds3, ha3.size, ha3.defs, ha3.keep, e3, ha3.ag, hap3⟩
        exact ⟨⟨m, hX3⟩, Nat.lt_of_le_of_lt ((leastN_spec ⟨m, hX3⟩).2 m hX3) hm⟩
      | _ =>
        exact hQ _ _ _ _ _ (fun hf => by rw [hrf'] at hf; cases hf) ⟨ha3.ag, by rw [ha3.size, ha.size], ha3.defs, fun t ht => by rw [ha3.keep t (fun hm => ht (hS t hm)), ha.keep t ht]⟩ hq
  | rangeFunc g ps assign body ihA ihB =>
    intro T r n hT S a0 QW Q ds e a w hS hQ ha h
    unfold wCode at h
    split at h
    · rename_i gf fst lb hor hg
      rw [Bool.or_eq_false_iff] at hor
      have hr0 := hT rfl
      subst hr0
      split at h
      · rename_i hfst hcb
        have hfst' : fst = #[] := by cases fst; simp_all
        subst hfst'
        obtain ⟨xss, R, I, X, ⟨hgv, hlen, hRlt⟩, h0, hab, hxab, hbody, hdone, hret, hexit⟩ := h
        have hge := rdO_sound ha.ag (by simp) _ _ hg
        refine wpIn_rangeFunc fun fn _ => ?_
        obtain ⟨B, hB⟩ : ∃ B, B = w.heap.size := ⟨_, rfl⟩
        rw [← hB] at hRlt h0 hab hxab hbody hdone hret hexit
        obtain ⟨rec, hrec⟩ : ∃ rec : LoopState → Option Code → Loop, rec = fun st pe => { state := st, pending := pe, fn, tmps := a.tmps, params := ps, assign, body, defers := B } := ⟨_, rfl⟩
        obtain ⟨W1, hW1⟩ : ∃ W1, W1 = (w.alloc (.deferred (some []))).alloc (.loop (rec .ready none)) := ⟨_, rfl⟩
        have hsz1 : W1.heap.size = B + 2 := by rw [hW1, hB]; simp
        have hk1 : Kept none' w W1 := by
          refine ⟨by rw [hW1]; rfl, by rw [hW1]; rfl, by rw [hW1]; rfl, by omega, fun b hb _ => ?_⟩
          rw [hW1]
          simp only [World.alloc, Array.getElem?_push, Array.size_push]
          rw [if_neg (by omega), if_neg (by omega)]
        have hl1 : W1.heap[B + 1]? = some (.loop (rec .ready none)) := by
          have := World.alloc_heap_new (w.alloc (.deferred (some []))) (.loop (rec .ready none))
          rw [World.size_alloc] at this
          rw [hW1, hB]; exact this
        have hd1 : W1.heap[B]? = some (.deferred (some [])) := by
          rw [hW1, hB]; exact (RowKit.Below.heap_alloc _ _ _ (by simp)).trans (World.alloc_heap_new w _)
        have hrun : (Instr.enterLoop fn a.tmps ps assign body (FR none).round).run P w = .ok (B + 1, [{ target := .collected B, args := #[] }]) W1 := by
          rw [FR_round, run_enterLoop_outer, hW1, hrec, hB]
        refine ⟨B + 1, [{ target := .collected B, args := #[] }], W1, { target := .fn (.func gf) lb, args := #[.func (.yield (B + 1)) #[] #[]] }, W1, gf, #[.func (.yield (B + 1)) #[] #[]] ++ lb, W1, hrun, ?_, fun f _ => FR_fn none f, ?_, fun hh => (by cases hh), ?_⟩
        · simp only [resolve, hge]
          simp [go_sem]
        · simp [invoke, go_sem, callFunc_enter hcb]
        refine callsIn_FR.2 ?_
        have hJ := hgv.run (B + 1)
          (fun Y i W => I Y i W ∧ W.heap[B + 1]? = some (.loop (rec .ready none)) ∧ W.heap[B]? = some (.deferred (some [])) ∧ (∀ b, Y b → B + 2 ≤ b) ∧ B + 2 ≤ W.heap.size)
          (fun Y W => ∃ c k, ((c = Code.ret ∧ k = 0) ∨ (∃ id, c = Code.exit id ∧ k = id + 1 ∧ id ∈ exitsOf body)) ∧ X k Y W ∧ W.heap[B + 1]? = some (.loop (rec .done (some c))) ∧ W.heap[B]? = some (.deferred (some [])) ∧ (∀ b, Y b → B + 2 ≤ b) ∧ B + 2 ≤ W.heap.size)
          W1 hk1 ?_ ?_ ?_ ⟨h0 W1 hk1 hsz1, hl1, hd1, fun b hb => hb.elim, by omega⟩
        · rw [Array.toArray_toList] at hJ
          refine hJ.mono ?_
          rintro en W2 ⟨⟨v, rfl⟩, hend⟩
          rcases hend with ⟨Y, hi, hl, hd, hY, hsz⟩ | ⟨Y, c, k, hck, hx, hl, hd, hY, hsz⟩
          · have he : (Instr.endLoop (B + 1)).run P W2 = .ok none (W2.putObj (B + 1) (.loop { rec .ready none with state := .exhausted })) := by
              have := run_endLoop (P := P) hl (by rw [hrec]; simp)
              rw [hrec] at this ⊢
              exact this
            refine ⟨none, _, he, ?_⟩
            have hK : Kept (recsY B Y) W2 (W2.putObj (B + 1) (.loop { rec .ready none with state := .exhausted })) := kept_put (.inr (.inl rfl))
            refine hQ _ (B :: ds) e _ _ (fun hf => by cases hf) ⟨agree_defs ha.ag _, ha.size, by rw [marks_cons, ha.defs], ha.keep⟩ (hdone _ _ (hab _ _ _ _ hi hY hK) ⟨?_⟩)
            exact (World.putObj_heap_other (by omega)).trans hd
          · have he : (Instr.endLoop (B + 1)).run P W2 = .ok (some c) (W2.putObj (B + 1) (.loop { rec .done (some c) with state := .exhausted })) := by
              have := run_endLoop (P := P) hl (by rw [hrec]; simp)
              rw [hrec] at this ⊢
              exact this
            refine ⟨some c, _, he, ?_⟩
            have hK : Kept (recsY B Y) W2 (W2.putObj (B + 1) (.loop { rec .done (some c) with state := .exhausted })) := kept_put (.inr (.inl rfl))
            have hX := hxab _ _ _ _ hx hY hK
            have hD : DefAt B (W2.putObj (B + 1) (.loop { rec .done (some c) with state := .exhausted })) := ⟨(World.putObj_heap_other (by omega)).trans hd⟩
            have hA : AgK S a0 (marks (B :: ds)) e { a with defers := [{ target := .collected B, args := #[] }] ++ a.defers } := ⟨agree_defs ha.ag _, ha.size, by rw [marks_cons, ha.defs], ha.keep⟩
            rcases hck with ⟨rfl, rfl⟩ | ⟨id, rfl, rfl, hid⟩
            · exact wpIn_ret (hQ _ (B :: ds) e _ _ (fun hf => by cases hf) hA (hret _ _ hX hD))
            · exact wpIn_exit (hQ _ (B :: ds) e _ _ (fun hf => by cases hf) hA (eachX_of hexit id hid _ _ hX hD))
        · rintro Y i W W' ⟨hi, hl, hd, hY, hsz⟩ hk
          have := hk.sz
          have n0 : ¬ Y B := fun hb => by have := hY _ hb; omega
          have n1 : ¬ Y (B + 1) := fun hb => by have := hY _ hb; omega
          refine ⟨hab _ _ _ _ hi hY ⟨hk.os, hk.tape, hk.out, hk.sz, fun b hb hn => hk.blk b hb fun hy => hn (.inr (.inr hy))⟩, (hk.blk _ (by omega) n1).trans hl, (hk.blk _ (by omega) n0).trans hd, fun b hb => ?_, by omega⟩
          rcases hb with hb | ⟨hb, _⟩
          · exact hY b hb
          · omega
        · rintro Y W W' ⟨c, k, hck, hx, hl, hd, hY, hsz⟩ hk
          have := hk.sz
          have n0 : ¬ Y B := fun hb => by have := hY _ hb; omega
          have n1 : ¬ Y (B + 1) := fun hb => by have := hY _ hb; omega
          refine ⟨c, k, hck, hxab _ _ _ _ hx hY ⟨hk.os, hk.tape, hk.out, hk.sz, fun b hb hn => hk.blk b hb fun hy => hn (.inr (.inr hy))⟩, (hk.blk _ (by omega) n1).trans hl, (hk.blk _ (by omega) n0).trans hd, fun b hb => ?_, by omega⟩
          rcases hb with hb | ⟨hb, _⟩
          · exact hY b hb
          · omega
        · rintro Y i xs W hxs ⟨hi, hl, hd, hY, hsz⟩
          have hxl := (hlen xs (List.mem_of_getElem? hxs)).1
          have hy := run_yield (P := P) (args := xs.toArray) hl (by rw [hrec]; simpa using hxl)
          rw [hrec] at hy
          refine ⟨fn, _, assign, body, hy, roundIn_of_wpIn (F := Fence.wide) trivial ?_⟩
          obtain ⟨ys, hxy, hb⟩ := rowEA (hlen xs (List.mem_of_getElem? hxs)).2 (hbody Y i W hi hY hsz)
          have hxy' : xs = ys := hxy
          rw [← hxy'] at hb
          replace hb := hb hxs
          have hag : Agree (setPs e ps.toList xs) { tmps := (ps.zip xs.toArray).foldl (fun tmps (t, a) => tmps.setIfInBounds t a) a.tmps, defers := [] } := by
            have := setPs_agree ps.toList xs e a ha.ag
            have e1 : (ps.zip xs.toArray).foldl (fun tmps (t, a) => tmps.setIfInBounds t a) a.tmps = (ps.toList.zip xs).foldl (fun t (p, v) => t.setIfInBounds p v) a.tmps := by
              rw [← Array.foldl_toList]; simp
            rw [e1]
            exact agree_defs this []
          refine ihA false (some (B + 1)) _ (fun hh => by cases hh) (asg assign) { tmps := (ps.zip xs.toArray).foldl (fun tmps (t, a) => tmps.setIfInBounds t a) a.tmps, defers := [] } _ _ [] _ _ W (fun t ht => ht) ?_ ⟨hag, rfl, rfl, fun _ _ => rfl⟩ hb
          intro ex ds1 e1 a1 w1 hd1 ha1 hq
          have hds1 := hd1 hor.1
          subst hds1
          cases ex with
          | normal =>
            obtain ⟨hrk, hq⟩ := hq
            have hl1' : w1.heap[B + 1]? = some (.loop (rec .ready none)) := hrk.l.trans hl
            have hlt1 := (Array.getElem?_eq_some_iff.1 hl1').1
            refine ⟨_, run_beginRound hl1' (by rw [hrec]), ?_⟩
            obtain ⟨w2, hw2⟩ : ∃ w2, w2 = w1.putObj (B + 1) (.loop { rec .ready none with state := .busy }) := ⟨_, rfl⟩
            rw [← hw2]
            have hk12 : Kept (fun b => b = B + 1) w1 w2 := by rw [hw2]; exact kept_put rfl
            have hsz12 : w2.heap.size = w1.heap.size := by rw [hw2]; simp
            have hl2 : w2.heap[B + 1]? = some (.loop { rec .ready none with state := .busy }) := by rw [hw2]; exact World.putObj_heap_same hlt1
            have hd2 : w2.heap[B]? = some (.deferred (some [])) := by rw [hw2]; exact (World.putObj_heap_other (by omega)).trans (hrk.d.trans hd)
            refine ihB false (some (B + 1)) _ (fun hh => by cases hh) (asg body) a1 _ _ [] e1 a1 w2 (fun t ht => ht) ?_ ⟨ha1.ag, rfl, ha1.defs, fun _ _ => rfl⟩ (hq w2 hk12 hsz12)
            intro ex ds3 e3 a3 w3 _ ha3 hq3
            have fin : ∀ (jump : Option Code), RecKept B w2 w3 →
                (Instr.endRound (B + 1) jump).run P w3 = .ok (.bool jump.isNone) (w3.putObj (B + 1) (.loop (rec (if jump.isNone then .ready else .done) jump))) ∧
                (w3.putObj (B + 1) (.loop (rec (if jump.isNone then .ready else .done) jump))).heap[B + 1]? = some (.loop (rec (if jump.isNone then .ready else .done) jump)) ∧
                (w3.putObj (B + 1) (.loop (rec (if jump.isNone then .ready else .done) jump))).heap[B]? = some (.deferred (some [])) := fun jump hk3 => by
              have hl3 := hk3.l.trans hl2
              have := run_endRound (P := P) jump hl3
              rw [hrec] at this ⊢
              exact ⟨this, World.putObj_heap_same (Array.getElem?_eq_some_iff.1 hl3).1, (World.putObj_heap_other (by omega)).trans (hk3.d.trans hd2)⟩
            have kyP : ∀ (jump : Option Code), KeptY (fun b => Y b ∨ R b) W w3 → KeptY (fun b => Y b ∨ R b) W (w3.putObj (B + 1) (.loop (rec (if jump.isNone then .ready else .done) jump))) := fun jump hky => by
              refine ⟨by have := hky.sz; simpa using this, fun b hb => ?_⟩
              rw [← hky.blk b hb]
              refine World.putObj_heap_other fun hbe => ?_
              rcases hb with hb | hb
              · have := hY b hb; omega
              · have := hRlt b hb; omega
            have eYP : ∀ (o : Obj), (fun b => Y b ∨ (w3.heap.size ≤ b ∧ b < (w3.putObj (B + 1) o).heap.size)) = Y := fun o => by
              funext b
              simp only [World.putObj_size, eq_iff_iff]
              exact ⟨fun h => h.elim id (fun h => by omega), .inl⟩
            have hszP : RecKept B w2 w3 → ∀ (o : Obj), B + 2 ≤ (w3.putObj (B + 1) o).heap.size := fun hk3 o => by
              have := hk3.sz; have := hrk.sz; simp; omega
            cases ex with
            | normal =>
              obtain ⟨hk3, hky, hi3⟩ := hq3
              obtain ⟨hrun3, hl4, hd4⟩ := fin none hk3
              refine ⟨_, _, hrun3, kyP none hky, .inl ⟨rfl, ?_, hl4, hd4, hY, hszP hk3 _⟩⟩
              have := hab _ _ _ _ hi3 hY (kept_put (w := w3) (l := B + 1) (o := .loop (rec (if (none : Option Code).isNone then .ready else .done) none)) (X := recsY B Y) (.inr (.inl rfl)))
              rw [eYP] at this
              exact this
            | ret =>
              obtain ⟨hk3, hky, hx3⟩ := hq3
              obtain ⟨hrun3, hl4, hd4⟩ := fin (some .ret) hk3
              refine ⟨_, _, hrun3, kyP (some .ret) hky, .inr ⟨rfl, .ret, 0, .inl ⟨rfl, rfl⟩, ?_, hl4, hd4, hY, hszP hk3 _⟩⟩
              have := hxab _ _ _ _ hx3 hY (kept_put (w := w3) (l := B + 1) (o := .loop (rec (if (some Code.ret : Option Code).isNone then .ready else .done) (some .ret))) (X := recsY B Y) (.inr (.inl rfl)))
              rw [eYP] at this
              exact this
            | exit id =>
              dsimp only at hq3
              split at hq3
              · rename_i hmem
                obtain ⟨hk3, hky, hx3⟩ := hq3
                obtain ⟨hrun3, hl4, hd4⟩ := fin (some (.exit id)) hk3
                refine ⟨_, _, hrun3, kyP (some (.exit id)) hky, .inr ⟨rfl, .exit id, id + 1, .inr ⟨id, rfl, rfl, memN_mem hmem⟩, ?_, hl4, hd4, hY, hszP hk3 _⟩⟩
                have := hxab _ _ _ _ hx3 hY (kept_put (w := w3) (l := B + 1) (o := .loop (rec (if (some (Code.exit id) : Option Code).isNone then .ready else .done) (some (.exit id)))) (X := recsY B Y) (.inr (.inl rfl)))
                rw [eYP] at this
                exact this
              · exact hq3.elim
            | _ => exact hq3.elim
          | _ => exact hq.elim
      · exact h.elim
    · exact h.elim
  | scope x ih =>
    intro T r n hT S a0 QW Q ds e a w hS hQ ha h
    unfold wCode at h
    split at h
    · have hr0 := hT rfl
      subst hr0
      rw [FR_none]
      refine wpIn_wide.2 (wp_scope_straight ((wpIn_wide (n := n)).1 ?_))
      rw [← FR_none]
      refine ih true none n (fun _ => rfl) S a0 _ _ ds e a w hS ?_ ha h
      intro ex ds' e' a' w' hd ha' hq
      cases ex with
      | goto l => exact hq.elim
      | _ => exact hQ _ _ _ _ _ hd ha' hq
    · exact h.elim
  | label l => intro T r n hT S a0 QW Q ds e a w _ hQ ha h; exact wpIn_label (hQ _ _ _ _ _ (fun _ => rfl) ha h)
  | _ => intro T r n hT S a0 QW Q ds e a w _ _ _ h; exact h.elim

def wRes (P : Program) (e : Env) (w : World) : List ResultVar → (List Value → Prop) → Prop
  | [], k => k []
  | .tmp t :: r, k => (match rdO [] e (.tmp t) with | some v => wRes P e w r fun vs => k (v :: vs) | none => False)
  | .cell s t :: r, k => (match rdO [] e (.tmp s) with
    | some x => (qLoad P t x).den w (fun v _ => wRes P e w r fun vs => k (v :: vs)) (fun _ => True)
    | none => False)
def oneOr : List Value → Value
  | [v] => v
  | vs => .tuple vs.toArray
def env0 (n : Nat) : List Value → Env
  | [] => List.replicate n none
  | v :: vs => some ⟨none, v, none⟩ :: env0 (n - 1) vs
def wBody (P : Program) (H : Hand) (J : List Nat) (fn : Func) (c : Code) (args : List Value) (w : World) (K : Value → World → Prop) : Prop :=
  match hasRF c with
  | false => wCode P H J true c (fun ex _ e w' => match ex with
    | .normal => wRes P e w' fn.results.toList fun vs => K (oneOr vs) w'
    | .ret => wRes P e w' fn.results.toList fun vs => K (oneOr vs) w'
    | _ => False) [] (env0 fn.ntmps args) w
  | true => wCode P H J true c (fun ex ds e w' => match ex with
    | .normal => DefsAt ds w' ∧ ∀ w2, Kept (fun b => b ∈ ds) w' w2 → w2.heap.size = w'.heap.size → wRes P e w2 fn.results.toList fun vs => K (oneOr vs) w2
    | .ret => DefsAt ds w' ∧ ∀ w2, Kept (fun b => b ∈ ds) w' w2 → w2.heap.size = w'.heap.size → wRes P e w2 fn.results.toList fun vs => K (oneOr vs) w2
    | _ => False) [] (env0 fn.ntmps args) w

theorem loadAt_loadVar {P : Program} {w : World} {t : TypeId} {x v : Value} (h : (Instr.loadAt t x).run P w = .ok v w) : ((do loadVar t (← asAddr x) : Sem Value)).run P w = .ok v w := by
  cases x <;> simp [Instr.loadAt, Instr.sureAddr] at h
  rename_i p
  cases p with
  | none => simp at h
  | some a => simpa [asAddr] using h
def resV (ts : Array Value) : ResultVar → Sem Value
  | .tmp t => pure (ts.getD t undef)
  | .cell s t => do loadVar t (← asAddr (ts.getD s undef))
theorem results_eq (fn : Func) (ts : Array Value) : results fn ts = (do
    let vs ← fn.results.mapM (resV ts)
    pure (if h : vs.size = 1 then vs[0] else .tuple vs)) := by
  have : (fun r : ResultVar => match r with
    | .tmp t => (pure (ts.getD t undef) : Sem Value)
    | .cell a t => do loadVar t (← asAddr (ts.getD a undef))) = resV ts := by
    funext r; cases r <;> rfl
  rw [← this]; rfl
theorem wRes_sound {P : Program} {e : Env} {a : Act} {w : World} (ha : Agree e a) : ∀ (rs : List ResultVar) (k : List Value → Prop), wRes P e w rs k →
    ∃ vs, k vs ∧ vs.length = rs.length ∧ (rs.mapM (resV a.tmps)).run P w = .ok vs w := by
  intro rs
  induction rs with
  | nil => intro k h; exact ⟨[], h, rfl, rfl⟩
  | cons r rs ih =>
    intro k h
    cases r with
    | tmp t =>
      simp only [wRes] at h
      split at h
      · rename_i v hv
        have hv' := rdO_sound ha (by simp) _ _ hv
        simp only [Act.eval] at hv'
        obtain ⟨vs, hk, hl, hr⟩ := ih _ h
        refine ⟨v :: vs, hk, by simp [hl], ?_⟩
        simp only [List.mapM_cons, resV, Sem.run_bind, Sem.run_pure, Result.andThen_ok, hv', hr]
      · exact h.elim
    | cell s t =>
      simp only [wRes] at h
      split at h
      · rename_i x hx
        have hx' := rdO_sound ha (by simp) _ _ hx
        simp only [Act.eval] at hx'
        obtain ⟨v, c', hs, hc, c'', hn, _⟩ := QRes.den_spec h
        have hv := loadAt_loadVar (qLoad_sound hs hc)
        obtain ⟨vs, hk, hl, hr⟩ := ih _ hn
        refine ⟨v :: vs, hk, by simp [hl], ?_⟩
        have hv2 : (resV a.tmps (.cell s t)).run P w = .ok v w := by
          show ((do loadVar t (← asAddr (a.tmps.getD s undef)) : Sem Value)).run P w = _
          rw [hx', hv]
        rw [List.mapM_cons, Sem.run_bind, hv2, Result.andThen_ok, Sem.run_bind, hr]
        rfl
      · exact h.elim
theorem env0_len : ∀ (args : List Value) (n : Nat), args.length ≤ n → (env0 n args).length = n := by
  intro args
  induction args with
  | nil => intro n _; simp [env0]
  | cons v vs ih => intro n h; simp at h; simp [env0, ih (n - 1) (by omega)]; omega
theorem env0_get : ∀ (args : List Value) (n t : Nat) (m : Ent), (env0 n args)[t]? = some (some m) → m.need = none ∧ args[t]? = some m.val ∧ m.fix = none := by
  intro args
  induction args with
  | nil =>
    intro n t m h
    simp only [env0, List.getElem?_replicate] at h
    split at h <;> simp at h
  | cons v vs ih =>
    intro n t m h
    cases t with
    | zero => simp [env0] at h; subst h; exact ⟨rfl, rfl, rfl⟩
    | succ t => simp only [env0, List.getElem?_cons_succ] at h; simpa using ih _ _ _ h
theorem leaves_marks {P : Program} {fn : Func} {tmps : Array Value} {R : Ending → World → Prop} : ∀ (ds : List Nat) (w : World), DefsAt ds w →
    (∀ w', Kept (fun b => b ∈ ds) w w' → w'.heap.size = w.heap.size → ∃ v, (results fn tmps).run P w' = .ok v w' ∧ R (.returned v) w') → LeavesInM (FR none) 0 P fn tmps R (marks ds) .returning w
  | [], w, _, h => h w ⟨rfl, rfl, rfl, Nat.le_refl _, fun _ _ _ => rfl⟩ rfl
  | D :: ds, w, hd, h => by
    refine ⟨by simp, .inl ⟨D, w.putObj D (.deferred none), rfl, run_takeDeferred (hd.all D (by simp)), ?_⟩⟩
    have hnd := List.nodup_cons.1 hd.nd
    refine leaves_marks ds _ ⟨hnd.2, fun D' hD' => ?_⟩ fun w' hk hs => h w' ?_ (by rw [hs]; simp)
    · exact (World.putObj_heap_other fun (e : D' = D) => hnd.1 (by rw [← e]; exact hD')).trans (hd.all D' (List.mem_cons_of_mem _ hD'))
    · refine ⟨hk.os, hk.tape, hk.out, by have := hk.sz; simpa using this, fun b hb hn => ?_⟩
      rw [hk.blk b (by simpa using hb) fun h => hn (List.mem_cons_of_mem _ h)]
      exact World.putObj_heap_other fun e => hn (by rw [e]; simp)
theorem wBody_sound {P : Program} {H : Hand} (hH : HSound P H) (hmix : P.follows .mixedOrders = true) {J : List Nat} {f : FuncId} {fn : Func} {c : Code} (hf : P.funcs[f]? = some fn) (hb : fn.body = some c) {args : List Value} {w : World}
    (hn : args.length ≤ fn.ntmps) {K : Value → World → Prop} (h : wBody P H J fn c args w K) : Calls P f args.toArray w (fun e w' => ∃ v, e = .returned v ∧ K v w') := by
  refine (callsIn_FR (r := none) (n := 0)).1 (callsIn_of_wp_marks hf hb (FR_fn none f) ?_ rfl)
  let a : Act := { tmps := args.toArray ++ Array.replicate (fn.ntmps - args.toArray.size) undef, defers := [] }
  have hag : Agree (env0 fn.ntmps args) a := by
    refine ⟨?_, fun t n ht => ?_, fun t n b ht hb => ?_⟩
    · rw [env0_len _ _ hn]; simp [a]; omega
    rotate_left
    · have := (env0_get _ _ _ _ ht).2.2
      rw [this] at hb; cases hb
    · obtain ⟨h1, h2, _⟩ := env0_get _ _ _ _ ht
      have hlt : t < args.length := (List.getElem?_eq_some_iff.1 h2).1
      unfold EntOk
      rw [h1]
      simp only [a]
      rw [Array.getElem?_append_left (by simpa using hlt)]
      simpa using h2
  have hres : ∀ e a w, Agree e a → wRes P e w fn.results.toList (fun vs => K (oneOr vs) w) → ∃ v, (results fn a.tmps).run P w = .ok v w ∧ K v w := by
    intro e a w ha hr
    obtain ⟨vs, hk, hl, hrun⟩ := wRes_sound ha _ _ hr
    refine ⟨oneOr vs, ?_, hk⟩
    rw [results_eq, Sem.run_bind]
    have hrun' : (fn.results.mapM (resV a.tmps)).run P w = .ok vs.toArray w := by
      rw [Array.mapM_eq_mapM_toList, Sem.run_map, hrun]; rfl
    rw [hrun', Result.andThen_ok]
    match vs with
    | [] => rfl
    | [v] => rfl
    | v :: v' :: r => simp [oneOr]
  unfold wBody at h
  split at h
  · rename_i hrf
    refine wCode_sound hH hmix c true none 0 (fun _ => rfl) (asg c) a _ _ [] (env0 fn.ntmps args) a w (fun t ht => ht) ?_ ⟨hag, rfl, rfl, fun _ _ => rfl⟩ h
    intro ex ds e a w hd ha hq
    have := hd hrf
    subst this
    cases ex with
    | normal =>
      obtain ⟨v, hv, hk⟩ := hres e a w ha.ag hq
      show LeavesInM _ _ _ _ _ _ a.defers .returning w
      rw [ha.defs]
      exact ⟨v, hv, v, rfl, hk⟩
    | ret =>
      obtain ⟨v, hv, hk⟩ := hres e a w ha.ag hq
      show LeavesInM _ _ _ _ _ _ a.defers .returning w
      rw [ha.defs]
      exact ⟨v, hv, v, rfl, hk⟩
    | _ => exact hq.elim
  · refine wCode_sound hH hmix c true none 0 (fun _ => rfl) (asg c) a _ _ [] (env0 fn.ntmps args) a w (fun t ht => ht) ?_ ⟨hag, rfl, rfl, fun _ _ => rfl⟩ h
    intro ex ds e a w _ ha hq
    have key : DefsAt ds w ∧ (∀ w2, Kept (fun b => b ∈ ds) w w2 → w2.heap.size = w.heap.size → wRes P e w2 fn.results.toList fun vs => K (oneOr vs) w2) → LeavesInM (FR none) 0 P fn a.tmps (fun e w' => ∃ v, e = .returned v ∧ K v w') a.defers .returning w := by
      rintro ⟨hd, hq⟩
      rw [ha.defs]
      refine leaves_marks ds w hd fun w' hk hs => ?_
      obtain ⟨v, hv, hk⟩ := hres e a w' ha.ag (hq w' hk hs)
      exact ⟨v, hv, v, rfl, hk⟩
    cases ex with
    | normal => exact key hq
    | ret => exact key hq
    | _ => exact hq.elim

def inline (P : Program) (inl : List Nat) (H : Hand) : Hand := fun f args w K =>
  match memN f inl with
  | false => H f args w K
  | true => match P.funcs[f]? with
    | some fn => (match fn.body, decide (args.length ≤ fn.ntmps) with
      | some c, true => wBody P H [] fn c args w K
      | _, _ => False)
    | none => False
theorem inline_sound {P : Program} {inl : List Nat} {H : Hand} (hH : HSound P H) (hmix : P.follows .mixedOrders = true) : HSound P (inline P inl H) := by
  intro f args w K h hc
  unfold inline at h
  split at h
  · exact hH f args w K h hc
  · split at h
    · rename_i fn hf
      split at h
      · rename_i c hb hn
        exact wBody_sound hH hmix hf hb (of_decide_eq_true hn) h
      · exact h.elim
    · exact h.elim
def bodyOf (fn : Func) : Code := match fn.body with
  | some c => c
  | none => .skip
def handOf (P : Program) (inl : List Nat) : Nat → Hand
  | 0 => H0 P
  | n + 1 => inline P inl (handOf P inl n)
theorem handOf_sound {P : Program} (hmix : P.follows .mixedOrders = true) (inl : List Nat) : ∀ n, HSound P (handOf P inl n)
  | 0 => H0_sound P
  | n + 1 => inline_sound (handOf_sound hmix inl n) hmix
theorem vc_of {P : Program} (inl : List Nat) (d : Nat) (J : List Nat) {f : FuncId} {fn : Func} (hmix : P.follows .mixedOrders = true) (hf : P.funcs[f]? = some fn) {args : List Value} {w : World} {K : Value → World → Prop} {X : Prop}
    (hb : fn.body.isSome = true) (hn : decide (args.length ≤ fn.ntmps) = true) (hX : X = wBody P (handOf P inl d) J fn (bodyOf fn) args w K) (h : X) :
    Calls P f args.toArray w (fun e w' => ∃ v, e = .returned v ∧ K v w') := by
  obtain ⟨c, hc⟩ := Option.isSome_iff_exists.1 hb
  have hc' : bodyOf fn = c := by simp [bodyOf, hc]
  rw [hc'] at hX
  exact wBody_sound (handOf_sound hmix inl d) hmix hf hc (of_decide_eq_true hn) (hX ▸ h)
end Go.Eng
