/-
  Part J of an engine. Proved: a function's whole code, loops and joins too, by its condition. Conditions: none beyond each theorem's own.
-/
import Derived.Test.YtkmcmkimeibjdaaEngI
set_option linter.unusedVariables false
set_option linter.unusedSimpArgs false
namespace Go.Eng

/-! ### variables at a loop's head, and where ways meet -/
inductive Shp where
  | int (k : IntKind) | bool | str | ptr | sl | mp | val
def shpOf : Value → Option Shp
  | .int k _ => some (.int k)
  | .bool _ => some .bool
  | .string _ => some .str
  | .pointer _ => some .ptr
  | .slice _ _ _ => some .sl
  | .map _ => some .mp
  | .func _ _ _ => some .val
  | .nilFunc => some .val
  | .iface _ _ => some .val
  | .nilIface => some .val
  | _ => none
def ITy (T : Type) : List (Nat × Shp) → Type
  | [] => T
  | (_, .int _) :: r => Int → ITy T r
  | (_, .bool) :: r => Bool → ITy T r
  | (_, .str) :: r => ByteArray → ITy T r
  | (_, .ptr) :: r => Option Addr → ITy T r
  | (_, .sl) :: r => Option Addr → Nat → Nat → ITy T r
  | (_, .mp) :: r => Option Nat → ITy T r
  | (_, .val) :: r => Value → ITy T r
def applyI {T : Type} (e : Env) (k : T → Prop) : (l : List (Nat × Shp)) → ITy T l → Prop
  | [], I => k I
  | (t, .int kd) :: r, I => (match getE e t with
    | some ⟨none, .int k' n, _⟩ => (match decide (k' = kd) with | true => applyI e k r (I n) | false => False)
    | _ => False)
  | (t, .bool) :: r, I => (match getE e t with | some ⟨none, .bool b, _⟩ => applyI e k r (I b) | _ => False)
  | (t, .str) :: r, I => (match getE e t with | some ⟨none, .string b, _⟩ => applyI e k r (I b) | _ => False)
  | (t, .ptr) :: r, I => (match getE e t with | some ⟨none, .pointer b, _⟩ => applyI e k r (I b) | _ => False)
  | (t, .sl) :: r, I => (match getE e t with | some ⟨none, .slice a l c, _⟩ => applyI e k r (I a l c) | _ => False)
  | (t, .mp) :: r, I => (match getE e t with | some ⟨none, .map b, _⟩ => applyI e k r (I b) | _ => False)
  | (t, .val) :: r, I => (match getE e t with | some ⟨none, v, _⟩ => applyI e k r (I v) | _ => False)
def setV (e : Env) (t : Nat) (v : Value) : Env := e.set t (some ⟨none, v, none⟩)
def genI {T : Type} (k : Env → T → Prop) : (l : List (Nat × Shp)) → ITy T l → Env → Prop
  | [], I, e => k e I
  | (t, .int kd) :: r, I, e => ∀ n : Int, genI k r (I n) (setV e t (.int kd n))
  | (t, .bool) :: r, I, e => ∀ b : Bool, genI k r (I b) (setV e t (.bool b))
  | (t, .str) :: r, I, e => ∀ s : ByteArray, genI k r (I s) (setV e t (.string s))
  | (t, .ptr) :: r, I, e => ∀ p : Option Addr, genI k r (I p) (setV e t (.pointer p))
  | (t, .sl) :: r, I, e => ∀ (a : Option Addr) (l c : Nat), genI k r (I a l c) (setV e t (.slice a l c))
  | (t, .mp) :: r, I, e => ∀ m : Option Nat, genI k r (I m) (setV e t (.map m))
  | (t, .val) :: r, I, e => ∀ v : Value, genI k r (I v) (setV e t v)
theorem Agree.setV {e : Env} {a : Act} (h : Agree e a) {t : Nat} {v : Value} (hv : a.tmps[t]? = some v) : Agree (Eng.setV e t v) a := by
  refine ⟨by simp [Eng.setV, h.len], fun s n hn => ?_, h.nod, fun s n b hn hb => ?_⟩
  case refine_2 =>
    unfold Eng.setV at hn
    by_cases hs : t = s
    · subst hs
      rw [List.getElem?_set_self'] at hn
      cases hx : e[t]? with
      | none => simp [hx] at hn
      | some y => simp [hx] at hn; subst hn; cases hb
    · rw [List.getElem?_set_ne hs] at hn
      exact h.fx s n b hn hb
  unfold Eng.setV at hn
  by_cases hs : t = s
  · subst hs
    rw [List.getElem?_set_self'] at hn
    cases hx : e[t]? with
    | none => simp [hx] at hn
    | some y => simp [hx] at hn; subst hn; exact hv
  · rw [List.getElem?_set_ne hs] at hn
    exact h.ent s n hn
theorem gen_apply {T : Type} {e2 : Env} {a : Act} {k : T → Prop} {kk : Env → T → Prop} (h2 : Agree e2 a) : ∀ (l : List (Nat × Shp)) (I : ITy T l) (e0 : Env), Agree e0 a →
    applyI e2 k l I → genI kk l I e0 → ∃ e' J, Agree e' a ∧ k J ∧ kk e' J := by
  have hget : ∀ t v k, getE e2 t = some ⟨none, v, k⟩ → a.tmps[t]? = some v := fun t v k h => by
    have := h2.ent _ _ (getE_some h)
    simpa only [EntOk] using this
  intro l
  induction l with
  | nil => intro I e0 h0 ha hg; exact ⟨e0, I, h0, ha, hg⟩
  | cons p r ih =>
    obtain ⟨t, s⟩ := p
    intro I e0 h0 ha hg
    cases s <;> simp only [applyI] at ha <;> simp only [genI] at hg
    case int kd =>
      split at ha
      · rename_i k' n kk hn
        split at ha
        · rename_i hk
          have hk := of_decide_eq_true hk
          subst hk
          exact ih _ _ (h0.setV (hget _ _ _ hn)) ha (hg n)
        · exact ha.elim
      · exact ha.elim
    all_goals
      split at ha
      · rename_i hn
        first
          | exact ih _ _ (h0.setV (hget _ _ _ hn)) ha (hg _)
          | exact ih _ _ (h0.setV (hget _ _ _ hn)) ha (hg _ _ _)
      · exact ha.elim

/-! ### code -/
def dstsOf : List Oper → List Nat
  | [] => []
  | o :: r => (match o.dst with | some d => d :: dstsOf r | none => dstsOf r)
def asg : Code → List Nat
  | .region _ ops _ => dstsOf ops.toList
  | .seq a b => asg a ++ asg b
  | .cond _ a b => asg a ++ asg b
  | .block _ b => asg b
  | .loop b => asg b
  | _ => []
theorem dstsOf_mem {l : List Oper} {o : Oper} {t : Nat} (ho : o ∈ l) (ht : o.dst = some t) : t ∈ dstsOf l := by
  induction l with
  | nil => simp at ho
  | cons x r ih =>
    unfold dstsOf
    rcases List.mem_cons.1 ho with rfl | ho
    · rw [ht]; exact List.mem_cons_self
    · split
      · exact List.mem_cons_of_mem _ (ih ho)
      · exact ih ho
/-- of these slots nothing is known any more; nor of what hangs on a condition -/
def memN (t : Nat) : List Nat → Bool
  | [] => false
  | s :: r => s == t || memN t r
theorem memN_of {t : Nat} : ∀ {l : List Nat}, t ∈ l → memN t l = true := by
  intro l
  induction l with
  | nil => intro h; simp at h
  | cons s r ih =>
    intro h
    rcases List.mem_cons.1 h with rfl | h
    · simp [memN]
    · simp [memN, ih h]
def forgetFrom (S : List Nat) : Nat → Env → Env
  | _, [] => []
  | i, x :: r => (match x with
    | some ⟨none, v, k⟩ => (match memN i S with | true => none | false => some ⟨none, v, k⟩)
    | _ => none) :: forgetFrom S (i + 1) r
def forget (S : List Nat) (e : Env) : Env := forgetFrom S 0 e
theorem forgetFrom_get {S : List Nat} : ∀ (e : Env) (i t : Nat) (n : Ent), (forgetFrom S i e)[t]? = some (some n) → e[t]? = some (some n) ∧ n.need = none ∧ memN (i + t) S = false := by
  intro e
  induction e with
  | nil => intro i t n h; simp [forgetFrom] at h
  | cons x r ih =>
    intro i t n h
    cases t with
    | zero =>
      simp only [forgetFrom, List.getElem?_cons_zero, Option.some.injEq] at h
      split at h
      · rename_i v k
        split at h
        · simp at h
        · rename_i hm; simp at h; subst h; exact ⟨rfl, rfl, hm⟩
      · simp at h
    | succ t =>
      simp only [forgetFrom, List.getElem?_cons_succ] at h
      have := ih (i + 1) t n h
      refine ⟨by simpa using this.1, this.2.1, ?_⟩
      rw [show i + (t + 1) = i + 1 + t by omega]; exact this.2.2
theorem forgetFrom_len {S : List Nat} : ∀ (e : Env) (i : Nat), (forgetFrom S i e).length = e.length := by
  intro e
  induction e with
  | nil => intro i; rfl
  | cons x r ih => intro i; simp [forgetFrom, ih]
theorem Agree.forget {S : List Nat} {e : Env} {a a' : Act} (h : Agree e a) (hs : a'.tmps.size = a.tmps.size) (hk : ∀ t, t ∉ S → a'.tmps[t]? = a.tmps[t]?) (hd : a'.defers = []) : Agree (Eng.forget S e) a' := by
  refine ⟨by simp [Eng.forget, forgetFrom_len, h.len, hs], fun t n hn => ?_, hd, fun t n b hn hb => ?_⟩
  case refine_2 =>
    obtain ⟨h1, h2, h3⟩ := forgetFrom_get e 0 t n hn
    have ht : t ∉ S := fun hm => by
      rw [Nat.zero_add, memN_of hm] at h3; cases h3
    have := h.fx t n b h1 hb
    unfold HoldsB at this ⊢
    rw [hk t ht]
    exact this
  obtain ⟨h1, h2, h3⟩ := forgetFrom_get e 0 t n hn
  have he := h.ent t n h1
  unfold EntOk at *
  rw [h2] at he ⊢
  have ht : t ∉ S := fun hm => by
    rw [Nat.zero_add, memN_of hm] at h3; cases h3
  rw [hk t ht]
  exact he
/-- the known variables that code assigns, with their shapes -/
def headsFrom (S : List Nat) : Nat → Env → List (Nat × Shp)
  | _, [] => []
  | i, x :: r =>
    (match x with
     | some ⟨none, v, _⟩ =>
       (match memN i S with
        | true => (match shpOf v with | some s => (i, s) :: headsFrom S (i + 1) r | none => headsFrom S (i + 1) r)
        | false => headsFrom S (i + 1) r)
     | _ => headsFrom S (i + 1) r)
def heads (S : List Nat) (e : Env) : List (Nat × Shp) := headsFrom S 0 e

/-- the first region's number -/
def firstR : Code → Option Nat
  | .region id _ _ => some id
  | .seq a b => (match firstR a with | some i => some i | none => firstR b)
  | .cond _ a b => (match firstR a with | some i => some i | none => firstR b)
  | .block _ b => firstR b
  | .loop b => firstR b
  | _ => none
def inJ (J : List Nat) : Option Nat → Bool
  | some i => memN i J
  | none => false

def wCode (P : Program) (H : Hand) (J : List Nat) : Code → (Exit → Env → World → Prop) → Env → World → Prop
  | .skip, Q, e, w => Q .normal e w
  | .ret, Q, e, w => Q .ret e w
  | .exit id, Q, e, w => Q (.exit id) e w
  | .seq a b, Q, e, w => wCode P H J a (fun ex e' w' => match ex with
      | .normal => wCode P H J b Q e' w'
      | ex => Q ex e' w') e w
  | .cond c x y, Q, e, w =>
    (match rdO [] e c with
     | some (.bool b) =>
       (match inJ J (firstR (.seq x y)) with
        | false => Wif b (wCode P H J x Q e w) (wCode P H J y Q e w)
        | true => ∃ I : ITy (World → Prop) (heads (asg x ++ asg y) e),
            Wif b
              (wCode P H J x (fun ex e' w' => match ex with
                | .normal => applyI e' (fun K => K w') (heads (asg x ++ asg y) e) I
                | ex => Q ex e' w') e w)
              (wCode P H J y (fun ex e' w' => match ex with
                | .normal => applyI e' (fun K => K w') (heads (asg x ++ asg y) e) I
                | ex => Q ex e' w') e w) ∧
            genI (fun e' K => ∀ w', K w' → Q .normal e' w') (heads (asg x ++ asg y) e) I (forget (asg x ++ asg y) e))
     | _ => False)
  | .block id x, Q, e, w => wCode P H J x (fun ex e' w' => match ex with
      | .exit i => (match i == id with | true => Q .normal e' w' | false => Q (.exit i) e' w')
      | ex => Q ex e' w') e w
  | .region _ ops d, Q, e, w =>
    (match d with
     | false => wOps P H ops.toList (fun e' w' => Q .normal (forget [] e') w') ops.toList e w
     | true => (match Region.noSelect ops with
       | true => ∀ w1, w1 = w.drew → wDraw P H ops.toList (loudL P ops.toList) (fun e' w' => Q .normal (forget [] e') w') ops.toList.length [] (Array.replicate ops.toList.length false) e w1
       | false => False))
  | .loop x, Q, e, w =>
    ∃ I : ITy (World → Nat → Prop) (heads (asg x) e),
      (∃ n, applyI e (fun K => K w n) (heads (asg x) e) I) ∧
      genI (fun e' K => ∀ w' n, K w' n → wCode P H J x (fun ex e2 w2 => match ex with
        | .normal => ∃ m, m < n ∧ applyI e2 (fun K => K w2 m) (heads (asg x) e) I
        | ex => Q ex e2 w2) e' w') (heads (asg x) e) I (forget (asg x) e)
  | _, _, _, _ => False

/-- the least number -/
noncomputable def leastN (p : Nat → Prop) : Nat := Classical.epsilon fun n => p n ∧ ∀ m, p m → n ≤ m
theorem leastN_spec {p : Nat → Prop} (h : ∃ n, p n) : p (leastN p) ∧ ∀ m, p m → leastN p ≤ m := by
  have : ∃ n, p n ∧ ∀ m, p m → n ≤ m := by
    obtain ⟨n, hn⟩ := h
    induction n using Nat.strongRecOn with
    | _ n ih =>
      by_cases hx : ∃ m, m < n ∧ p m
      · obtain ⟨m, hm, hp⟩ := hx; exact ih m hm hp
      · exact ⟨n, hn, fun m hm => Nat.le_of_not_lt fun hlt => hx ⟨m, hlt, hm⟩⟩
  exact Classical.epsilon_spec this

/-- a post that allows no panic -/
def NoP (Q : Exit → Act → World → Prop) : Exit → Act → World → Prop
  | .panic _, _, _ => False
  | e, a, w => Q e a w
theorem NoP.imp {Q : Exit → Act → World → Prop} : ∀ (e : Exit) (a : Act) (w : World), NoP Q e a w → Q e a w := fun e a w h => by
  cases e <;> first | exact h | exact (h : False).elim

theorem wCode_sound {P : Program} {H : Hand} (hH : HSound P H) (hmix : P.follows .mixedOrders = true) {J : List Nat} : ∀ (c : Code) (S : List Nat) (a0 : Act) (QW : Exit → Env → World → Prop) (Q : Exit → Act → World → Prop) (e : Env) (a : Act) (w : World),
    (∀ t ∈ asg c, t ∈ S) → (∀ ex e a w, AgK S a0 e a → QW ex e w → Q ex a w) → AgK S a0 e a → wCode P H J c QW e w → c.wp P Q a w := by
  intro c
  induction c with
  | skip => intro S a0 QW Q e a w _ hQ ha h; exact wp_skip (hQ _ _ _ _ ha h)
  | ret => intro S a0 QW Q e a w _ hQ ha h; exact wp_ret (hQ _ _ _ _ ha h)
  | exit id => intro S a0 QW Q e a w _ hQ ha h; exact wp_exit (hQ _ _ _ _ ha h)
  | seq x y ihx ihy =>
    intro S a0 QW Q e a w hS hQ ha h
    refine wp_seq (ihx S a0 _ _ e a w (fun t ht => hS t (List.mem_append_left _ ht)) ?_ ha h)
    intro ex e' a' w' ha' hq
    cases ex with
    | normal => exact ihy S a0 QW Q e' a' w' (fun t ht => hS t (List.mem_append_right _ ht)) hQ ha' hq
    | _ => exact hQ _ _ _ _ ha' hq
  | cond c x y ihx ihy =>
    intro S a0 QW Q e a w hS hQ ha h
    have hSx : ∀ t ∈ asg x, t ∈ S := fun t ht => hS t (List.mem_append_left _ ht)
    have hSy : ∀ t ∈ asg y, t ∈ S := fun t ht => hS t (List.mem_append_right _ ht)
    unfold wCode at h
    split at h
    · rename_i b hb
      have hc := rdO_sound ha.ag (by simp) _ _ hb
      split at h
      · rcases Wif_elim h with ⟨rfl, h⟩ | ⟨rfl, h⟩
        · exact wp_cond_true hc (ihx S a0 QW Q e a w hSx hQ ha h)
        · exact wp_cond_false hc (ihy S a0 QW Q e a w hSy hQ ha h)
      · obtain ⟨I, h, hg⟩ := h
        have hS' : ∀ t ∈ asg x ++ asg y, t ∈ S := hS
        have key : ∀ ex e' a' w', AgK (asg x ++ asg y) a e' a' → (match ex with
                | Exit.normal => applyI e' (fun K => K w') (heads (asg x ++ asg y) e) I
                | ex => QW ex e' w') → Q ex a' w' := by
          intro ex e' a' w' ha' hq
          have hk : ∀ e2, Agree e2 a' → AgK S a0 e2 a' := fun e2 h2 => ⟨h2, by rw [ha'.size, ha.size], fun t ht => by
            rw [ha'.keep t (fun hm => ht (hS' t hm)), ha.keep t ht]⟩
          cases ex with
          | normal =>
            obtain ⟨e2, K, h2, hK, hx⟩ := gen_apply ha'.ag _ I _ (ha.ag.forget ha'.size ha'.keep ha'.ag.nod) hq hg
            exact hQ _ _ _ _ (hk e2 h2) (hx w' hK)
          | _ => exact hQ _ _ _ _ (hk e' ha'.ag) hq
        have ha' : AgK (asg x ++ asg y) a e a := ⟨ha.ag, rfl, fun _ _ => rfl⟩
        rcases Wif_elim h with ⟨rfl, h⟩ | ⟨rfl, h⟩
        · exact wp_cond_true hc (ihx (asg x ++ asg y) a _ Q e a w (fun t ht => List.mem_append_left _ ht) key ha' h)
        · exact wp_cond_false hc (ihy (asg x ++ asg y) a _ Q e a w (fun t ht => List.mem_append_right _ ht) key ha' h)
    · exact h.elim
  | block id x ih =>
    intro S a0 QW Q e a w hS hQ ha h
    refine wp_block (ih S a0 _ _ e a w hS ?_ ha h)
    intro ex e' a' w' ha' hq
    cases ex with
    | exit i =>
      dsimp only at hq
      simp only [Exit.inBlock]
      split at hq
      · rename_i hi
        rw [if_pos (by simpa using hi)]
        exact hQ _ _ _ _ ha' hq
      · rename_i hi
        rw [if_neg (by simpa using hi)]
        exact hQ _ _ _ _ ha' hq
    | _ => exact hQ _ _ _ _ ha' hq
  | region id ops d =>
    intro S a0 QW Q e a w hS hQ ha h
    have hS' : ∀ o ∈ ops.toList, ∀ t, o.dst = some t → t ∈ S := fun o ho t ht => hS t (dstsOf_mem ho ht)
    have hfin : ∀ e a w, AgK S a0 e a → QW .normal (forget [] e) w → Q .normal a w := fun e a w ha hq =>
      hQ _ _ _ _ ⟨ha.ag.forget rfl (fun _ _ => rfl) ha.ag.nod, ha.size, ha.keep⟩ hq
    unfold wCode at h
    split at h
    · exact wp_region_list (by
        have := wOps_sound hH (ops := ops.toList) (Q := Q) hfin ops.toList hS' e a w ha h
        simpa using this)
    · split at h
      · rename_i hns
        have hd : AgK S a0 e a := ha
        have := wDraw_sound hH (ops := ops.toList) (L := loudL P ops.toList) (Q := NoP Q) (S := S) (a0 := a0) (fun e a w h1 h2 => hfin e a w h1 h2) (fun c a w hx => hx) hS' (by simpa using hns)
          ops.toList.length [] (Array.replicate ops.toList.length false) e a w.drew hd (fun j _ _ hl => by simp [Array.getElem?_replicate] at hl; split at hl <;> simp at hl) trivial (h _ rfl)
        have h2 := wpAny_of_pend _ _ _ _ this
        rw [Array.toArray_toList] at h2
        have h3 : (Code.region id ops true).wp P (NoP Q) a w := wp_region_any hmix (by
          rw [← Array.length_toList]; exact h2)
        exact Code.wp_mono NoP.imp h3
      · exact h.elim
  | loop x ih =>
    intro S a0 QW Q e a w hS hQ ha h
    obtain ⟨I, ⟨n0, h0⟩, hg⟩ := h
    let X : Act → World → Nat → Prop := fun a' w' n => a'.tmps.size = a.tmps.size ∧ (∀ t, t ∉ asg x → a'.tmps[t]? = a.tmps[t]?) ∧ ∃ e2, Agree e2 a' ∧ applyI e2 (fun K => K w' n) (heads (asg x) e) I
    refine wp_loop (fun a' w' => ∃ n, X a' w' n) (fun a' w' => leastN (X a' w')) ⟨n0, rfl, fun _ _ => rfl, e, ha.ag, h0⟩ ?_
    intro a1 w1 hX
    obtain ⟨hx1, hx2, e2, he2, hap⟩ := (leastN_spec hX).1
    obtain ⟨e', K, he', hK, hk⟩ := gen_apply he2 _ I _ (ha.ag.forget hx1 hx2 he2.nod) hap hg
    have hb := hk w1 _ hK
    refine ih (asg x) a _ _ e' a1 w1 (fun t ht => ht) ?_ ⟨he', hx1, hx2⟩ hb
    intro ex e3 a3 w3 ha3 hq
    cases ex with
    | normal =>
      obtain ⟨m, hm, hap3⟩ := hq
      have hX3 : X a3 w3 m := ⟨ha3.size, ha3.keep, e3, ha3.ag, hap3⟩
      exact ⟨⟨m, hX3⟩, Nat.lt_of_le_of_lt ((leastN_spec ⟨m, hX3⟩).2 m hX3) hm⟩
    | _ =>
      exact hQ _ _ _ _ ⟨ha3.ag, by rw [ha3.size, ha.size], fun t ht => by rw [ha3.keep t (fun hm => ht (hS t hm)), ha.keep t ht]⟩ hq
  | _ => intro S a0 QW Q e a w _ _ _ h; exact h.elim

/-! ### a function's body -/
def wRes (P : Program) (e : Env) (w : World) : List ResultVar → (List Value → Prop) → Prop
  | [], k => k []
  | .tmp t :: r, k => (match rdO [] e (.tmp t) with | some v => wRes P e w r fun vs => k (v :: vs) | none => False)
  | .cell s t :: r, k => (match rdO [] e (.tmp s) with
    | some x => (qLoad P t x).den w (fun v _ => wRes P e w r fun vs => k (v :: vs)) (fun _ => True)
    | none => False)
def oneOr : List Value → Value
  | [v] => v
  | vs => .tuple vs.toArray
def env0 (n : Nat) : List Value → Env
  | [] => List.replicate n none
  | v :: vs => some ⟨none, v, none⟩ :: env0 (n - 1) vs
def wBody (P : Program) (H : Hand) (J : List Nat) (fn : Func) (c : Code) (args : List Value) (w : World) (K : Value → World → Prop) : Prop :=
  wCode P H J c (fun ex e w' => match ex with
    | .normal => wRes P e w' fn.results.toList fun vs => K (oneOr vs) w'
    | .ret => wRes P e w' fn.results.toList fun vs => K (oneOr vs) w'
    | _ => False) (env0 fn.ntmps args) w

theorem loadAt_loadVar {P : Program} {w : World} {t : TypeId} {x v : Value} (h : (Instr.loadAt t x).run P w = .ok v w) : ((do loadVar t (← asAddr x) : Sem Value)).run P w = .ok v w := by
  cases x <;> simp [Instr.loadAt, Instr.sureAddr] at h
  rename_i p
  cases p with
  | none => simp at h
  | some a => simpa [asAddr] using h
def resV (ts : Array Value) : ResultVar → Sem Value
  | .tmp t => pure (ts.getD t undef)
  | .cell s t => do loadVar t (← asAddr (ts.getD s undef))
theorem results_eq (fn : Func) (ts : Array Value) : results fn ts = (do
    let vs ← fn.results.mapM (resV ts)
    pure (if h : vs.size = 1 then vs[0] else .tuple vs)) := by
  have : (fun r : ResultVar => match r with
    | .tmp t => (pure (ts.getD t undef) : Sem Value)
    | .cell a t => do loadVar t (← asAddr (ts.getD a undef))) = resV ts := by
    funext r; cases r <;> rfl
  rw [← this]; rfl
theorem wRes_sound {P : Program} {e : Env} {a : Act} {w : World} (ha : Agree e a) : ∀ (rs : List ResultVar) (k : List Value → Prop), wRes P e w rs k →
    ∃ vs, k vs ∧ vs.length = rs.length ∧ (rs.mapM (resV a.tmps)).run P w = .ok vs w := by
  intro rs
  induction rs with
  | nil => intro k h; exact ⟨[], h, rfl, rfl⟩
  | cons r rs ih =>
    intro k h
    cases r with
    | tmp t =>
      simp only [wRes] at h
      split at h
      · rename_i v hv
        have hv' := rdO_sound ha (by simp) _ _ hv
        simp only [Act.eval] at hv'
        obtain ⟨vs, hk, hl, hr⟩ := ih _ h
        refine ⟨v :: vs, hk, by simp [hl], ?_⟩
        simp only [List.mapM_cons, resV, Sem.run_bind, Sem.run_pure, Result.andThen_ok, hv', hr]
      · exact h.elim
    | cell s t =>
      simp only [wRes] at h
      split at h
      · rename_i x hx
        have hx' := rdO_sound ha (by simp) _ _ hx
        simp only [Act.eval] at hx'
        obtain ⟨v, c', hs, hc, c'', hn, _⟩ := QRes.den_spec h
        have hv := loadAt_loadVar (qLoad_sound hs hc)
        obtain ⟨vs, hk, hl, hr⟩ := ih _ hn
        refine ⟨v :: vs, hk, by simp [hl], ?_⟩
        have hv2 : (resV a.tmps (.cell s t)).run P w = .ok v w := by
          show ((do loadVar t (← asAddr (a.tmps.getD s undef)) : Sem Value)).run P w = _
          rw [hx', hv]
        rw [List.mapM_cons, Sem.run_bind, hv2, Result.andThen_ok, Sem.run_bind, hr]
        rfl
      · exact h.elim
theorem env0_len : ∀ (args : List Value) (n : Nat), args.length ≤ n → (env0 n args).length = n := by
  intro args
  induction args with
  | nil => intro n _; simp [env0]
  | cons v vs ih => intro n h; simp at h; simp [env0, ih (n - 1) (by omega)]; omega
theorem env0_get : ∀ (args : List Value) (n t : Nat) (m : Ent), (env0 n args)[t]? = some (some m) → m.need = none ∧ args[t]? = some m.val ∧ m.fix = none := by
  intro args
  induction args with
  | nil =>
    intro n t m h
    simp only [env0, List.getElem?_replicate] at h
    split at h <;> simp at h
  | cons v vs ih =>
    intro n t m h
    cases t with
    | zero => simp [env0] at h; subst h; exact ⟨rfl, rfl, rfl⟩
    | succ t => simp only [env0, List.getElem?_cons_succ] at h; simpa using ih _ _ _ h
theorem wBody_sound {P : Program} {H : Hand} (hH : HSound P H) (hmix : P.follows .mixedOrders = true) {J : List Nat} {f : FuncId} {fn : Func} {c : Code} (hf : P.funcs[f]? = some fn) (hb : fn.body = some c) {args : List Value} {w : World}
    (hn : args.length ≤ fn.ntmps) {K : Value → World → Prop} (h : wBody P H J fn c args w K) : Calls P f args.toArray w (fun e w' => ∃ v, e = .returned v ∧ K v w') := by
  refine calls_of_wp hf hb ?_
  let a : Act := { tmps := args.toArray ++ Array.replicate (fn.ntmps - args.toArray.size) undef, defers := [] }
  have hag : Agree (env0 fn.ntmps args) a := by
    refine ⟨?_, fun t n ht => ?_, rfl, fun t n b ht hb => ?_⟩
    · rw [env0_len _ _ hn]; simp [a]; omega
    rotate_left
    · have := (env0_get _ _ _ _ ht).2.2
      rw [this] at hb; cases hb
    · obtain ⟨h1, h2, _⟩ := env0_get _ _ _ _ ht
      have hlt : t < args.length := (List.getElem?_eq_some_iff.1 h2).1
      unfold EntOk
      rw [h1]
      simp only [a]
      rw [Array.getElem?_append_left (by simpa using hlt)]
      simpa using h2
  refine wCode_sound hH hmix c (asg c) a _ _ (env0 fn.ntmps args) a w (fun t ht => ht) ?_ ⟨hag, rfl, fun _ _ => rfl⟩ h
  have hres : ∀ e a w, Agree e a → wRes P e w fn.results.toList (fun vs => K (oneOr vs) w) → ∃ v, (results fn a.tmps).run P w = .ok v w ∧ K v w := by
    intro e a w ha hr
    obtain ⟨vs, hk, hl, hrun⟩ := wRes_sound ha _ _ hr
    refine ⟨oneOr vs, ?_, hk⟩
    rw [results_eq, Sem.run_bind]
    have hrun' : (fn.results.mapM (resV a.tmps)).run P w = .ok vs.toArray w := by
      rw [Array.mapM_eq_mapM_toList, Sem.run_map, hrun]; rfl
    rw [hrun', Result.andThen_ok]
    match vs with
    | [] => rfl
    | [v] => rfl
    | v :: v' :: r => simp [oneOr]
  intro ex e a w ha hq
  cases ex with
  | normal => obtain ⟨v, hv, hk⟩ := hres e a w ha.ag hq; exact ⟨ha.ag.nod, v, hv, v, rfl, hk⟩
  | ret => obtain ⟨v, hv, hk⟩ := hres e a w ha.ag hq; exact ⟨ha.ag.nod, v, hv, v, rfl, hk⟩
  | _ => exact hq.elim

/-- calls of these functions are walked in place -/
def inline (P : Program) (inl : List Nat) (H : Hand) : Hand := fun f args w K =>
  match memN f inl with
  | false => H f args w K
  | true => match P.funcs[f]? with
    | some fn => (match fn.body, decide (args.length ≤ fn.ntmps) with
      | some c, true => wBody P H [] fn c args w K
      | _, _ => False)
    | none => False
theorem inline_sound {P : Program} {inl : List Nat} {H : Hand} (hH : HSound P H) (hmix : P.follows .mixedOrders = true) : HSound P (inline P inl H) := by
  intro f args w K h hc
  unfold inline at h
  split at h
  · exact hH f args w K h hc
  · split at h
    · rename_i fn hf
      split at h
      · rename_i c hb hn
        exact wBody_sound hH hmix hf hb (of_decide_eq_true hn) h
      · exact h.elim
    · exact h.elim
def bodyOf (fn : Func) : Code := match fn.body with
  | some c => c
  | none => .skip
/-- depth many times 'inline' -/
def handOf (P : Program) (inl : List Nat) : Nat → Hand
  | 0 => H0 P
  | n + 1 => inline P inl (handOf P inl n)
theorem handOf_sound {P : Program} (hmix : P.follows .mixedOrders = true) (inl : List Nat) : ∀ n, HSound P (handOf P inl n)
  | 0 => H0_sound P
  | n + 1 => inline_sound (handOf_sound hmix inl n) hmix
theorem vc_of {P : Program} (inl : List Nat) (d : Nat) (J : List Nat) {f : FuncId} {fn : Func} (hmix : P.follows .mixedOrders = true) (hf : P.funcs[f]? = some fn) {args : List Value} {w : World} {K : Value → World → Prop} {X : Prop}
    (hb : fn.body.isSome = true) (hn : decide (args.length ≤ fn.ntmps) = true) (hX : X = wBody P (handOf P inl d) J fn (bodyOf fn) args w K) (h : X) :
    Calls P f args.toArray w (fun e w' => ∃ v, e = .returned v ∧ K v w') := by
  obtain ⟨c, hc⟩ := Option.isSome_iff_exists.1 hb
  have hc' : bodyOf fn = c := by simp [bodyOf, hc]
  rw [hc'] at hX
  exact wBody_sound (handOf_sound hmix inl d) hmix hf hc (of_decide_eq_true hn) (hX ▸ h)
end Go.Eng
