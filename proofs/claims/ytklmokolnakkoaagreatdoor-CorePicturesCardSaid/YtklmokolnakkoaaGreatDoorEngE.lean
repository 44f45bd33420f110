/-
  Part E of an engine. Proved: the table of quiet operations tells what the model runs. Conditions: none beyond each theorem's own.
-/
import Derived.Test.YtklmokolnakkoaaGreatDoorEngD
set_option linter.unusedVariables false
set_option linter.unusedSimpArgs false
namespace Go.Eng
section
variable {P : Program} {w : World}

theorem spec_leafQ {d : TypeDesc} {k : Value → QRes} {c : World → Prop} {v : Value} (h : Spec (leafQ d k) c v) : ∃ u, Spec (k u) c v := by
  cases d <;> simp only [leafQ] at h <;> first | (cases h; done) | skip
  all_goals first
    | (cases h with | ex x h => exact ⟨_, h⟩)
    | (cases h with | ex x h => cases h with | ex y h => cases h with | ex z h => exact ⟨_, h⟩)
theorem spec_repQ {d : TypeDesc} {c : World → Prop} {v : Value} : ∀ {n : Nat} {k : List Value → QRes}, Spec (repQ d n k) c v → ∃ us, us.length = n ∧ Spec (k us) c v
  | 0, k, h => ⟨[], rfl, h⟩
  | n + 1, k, h => by
    obtain ⟨u, h⟩ := spec_leafQ h
    obtain ⟨us, hl, h⟩ := spec_repQ h
    exact ⟨u :: us, by simp [hl], h⟩
theorem spec_grpQ {c : World → Prop} {v : Value} : ∀ {gs : List (Nat × TypeDesc)} {k : List Value → QRes}, Spec (grpQ gs k) c v → ∃ us, us.length = grpLen gs ∧ Spec (k us) c v
  | [], k, h => ⟨[], rfl, h⟩
  | (n, d) :: gs, k, h => by
    unfold grpQ at h
    split at h
    · cases h with
      | ex f h =>
        obtain ⟨us, hl, h⟩ := spec_grpQ h
        exact ⟨_, by simp [runI_len, grpLen, hl], h⟩
    · obtain ⟨us, hl, h⟩ := spec_repQ h
      obtain ⟨us', hl', h⟩ := spec_grpQ h
      exact ⟨_, by simp [grpLen, hl, hl'], h⟩
theorem spec_leavesQ {k : List Value → QRes} {c : World → Prop} {v : Value} {ds : List TypeDesc} (h : Spec (leavesQ ds k) c v) : ∃ us, us.length = ds.length ∧ Spec (k us) c v := by
  obtain ⟨us, hl, h⟩ := spec_grpQ h
  exact ⟨us, by rw [hl, grp_len], h⟩
theorem spec_valQ {t : TypeId} {k : Value → QRes} {c : World → Prop} {v : Value} (h : Spec (valQ P t k) c v) : ∃ u, Spec (k u) c v := by
  unfold valQ at h
  split at h
  · split at h
    · obtain ⟨us, _, h⟩ := spec_leavesQ h; exact ⟨_, h⟩
    · cases h
  · split at h
    · obtain ⟨us, _, h⟩ := spec_leavesQ h; exact ⟨_, h⟩
    · cases h
  · exact spec_leafQ h
  · cases h
theorem spec_chk {b : Bool} {r : QRes} {c : World → Prop} {v : Value} (h : Spec (.chk b r) c v) : b = true ∧ Spec r c v := by
  generalize hb : b = z at h
  cases h with | chk h => exact ⟨rfl, h⟩
theorem spec_ret {u v : Value} {c : World → Prop} (h : Spec (.ret u) c v) : u = v := by cases h; rfl
theorem spec_rdc {r : QRes} {c0 c : World → Prop} {v : Value} (h : Spec (.rdc c0 r) c v) : ∃ c1, Spec r c1 v ∧ ∀ w, c w → c0 w ∧ c1 w := by
  cases h with | rdc h => exact ⟨_, h, fun w hw => hw⟩
theorem spec_ex {α : Type} {f : α → QRes} {c : World → Prop} {v : Value} (h : Spec (.ex f) c v) : ∃ x, Spec (f x) c v := by
  cases h with | ex x h => exact ⟨x, h⟩

theorem qUn_sound {op : UnOp} {x : Value} {c : World → Prop} {v : Value} (h : Spec (qUn op x) c v) : (Op.unary op x).run P w = .ok v w := by
  unfold qUn at h
  split at h
  · cases h; simp [Op.unary, Op.intArith]
  · cases h; simp [Op.unary]
  · cases h
theorem qConv_sound {s d : TypeId} {x : Value} {c : World → Prop} {v : Value} (h : Spec (qConv P s d x) c v) (hc : c w) : (convert s d x).run P w = .ok v w := by
  unfold qConv at h
  split at h
  · rename_i hs hd; cases h; simp [convert, run_underlying hs, run_underlying hd, Conv.intToInt]
  · rename_i hs hd; cases h; simp [convert, run_underlying hs, run_underlying hd]
  · obtain ⟨s, h⟩ := spec_ex h
    obtain ⟨c1, h, hcc⟩ := spec_rdc h
    have := spec_ret h; subst this
    exact (hcc w hc).1.run
  · cases h

theorem rdAll_at {b : Nat} : ∀ (vs : List Value) (o : Nat), rdAll w b o vs → ∀ j v, vs[j]? = some v → rd w b (o + j) = some v := by
  intro vs
  induction vs with
  | nil => intro o _ j v h; simp at h
  | cons x xs ih =>
    intro o h j v hj
    cases xs with
    | nil =>
      cases j with
      | zero => simp at hj; subst hj; exact h
      | succ j => simp at hj
    | cons y ys =>
      obtain ⟨h1, h2⟩ := h
      cases j with
      | zero => simp at hj; subst hj; exact h1
      | succ j =>
        have := ih (o + 1) h2 j v (by simpa using hj)
        rw [show o + (j + 1) = o + 1 + j by omega]; exact this
theorem info_of_has {t : TypeId} (h : hasT P t = true) : ∃ i, P.info? t = some i ∧ szT P t = i.size := by
  obtain ⟨i, hi⟩ := Option.isSome_iff_exists.1 h
  exact ⟨i, hi, by simp [szT, hi]⟩
theorem und_of_info {t : TypeId} (h : aggT P t = true) : ∃ d, P.underlying t = some d := by
  unfold aggT at h
  cases hu : P.underlying t with
  | none => simp [hu] at h
  | some d => exact ⟨d, rfl⟩
theorem qLoad_sound {t : TypeId} {x : Value} {c : World → Prop} {v : Value} (h : Spec (qLoad P t x) c v) (hc : c w) : (Instr.loadAt t x).run P w = .ok v w := by
  unfold qLoad at h
  split at h
  · rename_i p
    have hp := (spec_chk h).1
    replace h := (spec_chk h).2
    have hp := isP_spec hp
    generalize pb p = b at *
    generalize po p = o at *
    subst hp
    split at h
    · rename_i ha
      split at h
      · rename_i ds hds
        split at h
        · rename_i hl
          simp only [Bool.and_eq_true, beq_iff_eq] at hl
          obtain ⟨us, hlen, h⟩ := spec_leavesQ h
          obtain ⟨c1, h, hcc⟩ := spec_rdc h
          have := spec_ret h; subst this
          obtain ⟨d, hu⟩ := und_of_info ha
          obtain ⟨i, hi, hs⟩ := info_of_has hl.2
          have hr := (hcc w hc).1
          have hcells := run_loadCells_list (P := P) (w := w) ⟨b, o, none⟩ us (fun j v hj => by
            rw [Addr.add_lit]; exact rdAll_at us o hr j v hj)
          simp only [Instr.loadAt, Instr.sureAddr, loadVar, Sem.run_bind, Sem.run_pure, Result.andThen_ok, run_isAgg hu, ha, if_true, run_sizeOf' hi]
          rw [← hs, ← hl.1, ← hlen, hcells]
          rfl
        · cases h
      · cases h
    · rename_i ha
      split at h
      · rename_i d hu
        obtain ⟨u, h⟩ := spec_leafQ h
        obtain ⟨c1, h, hcc⟩ := spec_rdc h
        have := spec_ret h; subst this
        have hr : w.cell? ⟨b, o, none⟩ = some u := (hcc w hc).1
        simp only [Instr.loadAt, Instr.sureAddr, loadVar, Sem.run_bind, Sem.run_pure, Result.andThen_ok, run_isAgg hu, ha, Bool.false_eq_true, if_false, run_load, hr]
      · cases h
  · cases h
theorem qFieldAddr_sound {s : TypeId} {x : Value} {f : Nat} {c : World → Prop} {v : Value} (h : Spec (qFieldAddr P s x f) c v) : (Instr.fieldAt s x f).run P w = .ok v w := by
  unfold qFieldAddr at h
  split at h
  · rename_i fs p hu
    split at h
    · rename_i fd hfd
      split at h
      · rename_i i hi
        split at h
        · rename_i hz
          have hp := (spec_chk h).1
          replace h := (spec_chk h).2
          have := spec_ret h; subst this
          have hp := isP_spec hp
          generalize pb p = b at *
          generalize po p = o at *
          subst hp
          have hz' : ¬ i.size = 0 := by simpa using hz
          have hfd' : fs[f]? = some fd := by simpa using hfd
          simp [Instr.fieldAt, run_underlying hu, hfd', Instr.sureAddr, fieldPlace, run_sizeOf' hi, hz', Addr.add_lit]
        · cases h
      · cases h
    · cases h
  · cases h
theorem qField_sound {s : TypeId} {x : Value} {f : Nat} {c : World → Prop} {v : Value} (h : Spec (qField P s x f) c v) : (Instr.field s x f).run P w = .ok v w := by
  unfold qField at h
  split at h
  · rename_i fs cs hu
    split at h
    · rename_i fd hfd
      split at h
      · rename_i u d hpv hud
        have := spec_ret h; subst this
        have hfd' : fs[f]? = some fd := by simpa using hfd
        simp [Instr.field, run_underlying hu, hfd', asAgg, run_partV hud hpv]
      · cases h
    · cases h
  · cases h
theorem inB_spec {i : Int} {n : Nat} (h : inB i n = true) : 0 ≤ i ∧ i < (n : Int) := of_decide_eq_true h
theorem okSl_spec {l h c : Int} (hh : okSl l h c = true) : 0 ≤ l ∧ l ≤ h ∧ h ≤ c := of_decide_eq_true hh
theorem qIndexAddr_sound {t : TypeId} {x ix : Value} {c : World → Prop} {v : Value} (h : Spec (qIndexAddr P t x ix) c v) : (Instr.indexAt t x ix).run P w = .ok v w := by
  unfold qIndexAddr at h
  split at h
  · rename_i n e p k i hu
    split at h
    · rename_i ti hi
      have hp := (spec_chk h).1
      replace h := (spec_chk h).2
      obtain ⟨hb, h⟩ := spec_chk h
      have := spec_ret h; subst this
      have hb := inB_spec hb
      have hp := isP_spec hp
      generalize pb p = b at *
      generalize po p = o at *
      subst hp
      simp [Instr.indexAt, run_underlying hu, asIntOf, Instr.sureAddr, hb, run_sizeOf' hi, Addr.add_lit]
    · cases h
  · rename_i e a l cp k i hu
    split at h
    · rename_i ti hi
      have hp := (spec_chk h).1
      replace h := (spec_chk h).2
      obtain ⟨hb, h⟩ := spec_chk h
      have := spec_ret h; subst this
      have hb := inB_spec hb
      have hp := isP_spec hp
      generalize pb a = b at *
      generalize po a = o at *
      subst hp
      simp [Instr.indexAt, run_underlying hu, asIntOf, hb, run_sizeOf' hi, Addr.add_lit]
    · cases h
  · cases h
theorem qIndex_sound {t : TypeId} {x ix : Value} {c : World → Prop} {v : Value} (h : Spec (qIndex P t x ix) c v) (hc : c w) : (Instr.index t x ix).run P w = .ok v w := by
  unfold qIndex at h
  split at h
  · rename_i n e cs k i hu
    split at h
    · rename_i d ti ha hd hi
      obtain ⟨hb, h⟩ := spec_chk h
      obtain ⟨u, h⟩ := spec_leafQ h
      obtain ⟨c1, h, hcc⟩ := spec_rdc h
      have := spec_ret h; subst this
      have hb := inB_spec hb
      have hr : cs[i.toNat * ti.size]? = some u := by simpa using (hcc w hc).1
      simp [Instr.index, run_underlying hu, asIntOf, hb, run_sizeOf' hi, part, run_isAgg hd, ha, hr]
    · cases h
  · rename_i s k i hu
    obtain ⟨hb, h⟩ := spec_chk h
    have := spec_ret h; subst this
    have hb := inB_spec hb
    have hlt : i.toNat < s.size := by omega
    have h0 : 0 ≤ i := hb.1
    have hg : s[i.toNat]? = some s[i.toNat] := getElem?_pos s i.toNat hlt
    have hd : s.data.toList.getD i.toNat 0 = s[i.toNat] := by
      have : i.toNat < s.data.toList.length := by simpa using hlt
      rw [List.getD_eq_getElem?_getD, List.getElem?_eq_getElem this]; rfl
    simp only [Instr.index, asIntOf, Sem.run_bind, Sem.run_pure, Result.andThen_ok, run_underlying hu, h0, if_true, hg, hd]
  · cases h
theorem qExtract_sound {x : Value} {i : Nat} {c : World → Prop} {v : Value} (h : Spec (qExtract x i) c v) : (Instr.extract x i).run P w = .ok v w := by
  unfold qExtract at h
  split at h
  · split at h
    · rename_i u hv
      have := spec_ret h; subst this
      have hv' := hv
      rw [Array.getElem?_toList] at hv'
      simp [Instr.extract, hv']
    · cases h
  · cases h
theorem sl_add (a : Option Addr) (n : Nat) (h : n = 0) : a.map (·.add n) = a := by
  subst h
  cases a with
  | none => rfl
  | some a => simp [Addr.add]
theorem sb00 (isS : Bool) (len cap : Nat) : (Instr.sliceBounds isS len cap none none none).run P w = .ok (0, len, cap) w := by
  simp [Instr.sliceBounds]
theorem sb01 (isS : Bool) (len cap : Nat) {k : IntKind} {h : Int} (hh : okSl 0 h cap = true) : (Instr.sliceBounds isS len cap none (some (.int k h)) none).run P w = .ok (0, h.toNat, cap) w := by
  have hb := okSl_spec hh
  simp only [Instr.sliceBounds, Sem.run_bind, Sem.run_pure, Result.andThen_ok, run_sliceBound (w := w) (P := P) k h cap _ hb.2.1 hb.2.2]
theorem sb10 (isS : Bool) (len cap : Nat) {k : IntKind} {l : Int} (hh : okSl l len cap = true) : (Instr.sliceBounds isS len cap (some (.int k l)) none none).run P w = .ok (l.toNat, len, cap) w := by
  have hb := okSl_spec hh
  simp only [Instr.sliceBounds, Sem.run_bind, Sem.run_pure, Result.andThen_ok, run_sliceBound (w := w) (P := P) k l len _ hb.1 hb.2.1]
theorem sb11 (isS : Bool) (len cap : Nat) {k k' : IntKind} {l h : Int} (hh : okSl l h cap = true) : (Instr.sliceBounds isS len cap (some (.int k l)) (some (.int k' h)) none).run P w = .ok (l.toNat, h.toNat, cap) w := by
  have hb := okSl_spec hh
  have h2 : l ≤ ((h.toNat : Nat) : Int) := by omega
  simp only [Instr.sliceBounds, Sem.run_bind, Sem.run_pure, Result.andThen_ok, run_sliceBound (w := w) (P := P) k' h cap _ (by omega) hb.2.2, run_sliceBound (w := w) (P := P) k l h.toNat _ hb.1 h2]
theorem run_sl {t e : TypeId} {i : TypeInfo} {a : Option Addr} {len cap : Nat} {lo hi : Option Value} {l h : Nat} (hu : P.underlying t = some (.slice e)) (hi' : P.info? e = some i)
    (hb : (Instr.sliceBounds true len cap lo hi none).run P w = .ok (l, h, cap) w) :
    (Instr.sliceAt t (.slice a len cap) lo hi none).run P w = .ok (.slice (offA a cap l i.size) (h - l) (cap - l)) w := by
  simp only [Instr.sliceAt, Sem.run_bind, run_underlying hu, Result.andThen_ok, Instr.slice, hb, Sem.run_pure, run_sizeOf' hi', offA]
theorem run_slS {t : TypeId} {s : ByteArray} {lo hi : Option Value} {l h : Nat} (hu : P.underlying t = some .string)
    (hb : (Instr.sliceBounds false s.size s.size lo hi none).run P w = .ok (l, h, s.size) w) :
    (Instr.sliceAt t (.string s) lo hi none).run P w = .ok (.string (s.extract l h)) w := by
  simp [Instr.sliceAt, run_underlying hu, Instr.slice, hb]
theorem run_slA {t e : TypeId} {n : Nat} {i : TypeInfo} {a : Addr} {lo hi : Option Value} {l h : Nat} (hu : P.underlying t = some (.array n e)) (hi' : P.info? e = some i)
    (hb : (Instr.sliceBounds false n n lo hi none).run P w = .ok (l, h, n) w) :
    (Instr.sliceAt t (.pointer (some a)) lo hi none).run P w = .ok (.slice (offA (some a) n l i.size) (h - l) (n - l)) w := by
  simp only [Instr.sliceAt, Sem.run_bind, run_underlying hu, Result.andThen_ok, hb, Sem.run_pure, run_sizeOf' hi', offA, Instr.sureAddr]
  congr 2
  split <;> rfl
theorem offA_zero (a : Option Addr) (c s : Nat) : offA a c 0 s = a := by
  unfold offA; rw [Nat.zero_mul, sl_add a 0 rfl]; simp
theorem qSlice_sound {t : TypeId} {x : Value} {lo hi : Option Value} {c : World → Prop} {v : Value} (h : Spec (qSlice P t x lo hi) c v) : (Instr.sliceAt t x lo hi none).run P w = .ok v w := by
  unfold qSlice at h
  split at h
  · rename_i e a l cp hu
    split at h <;> rename_i hi' <;> first | (cases h; done) | skip
    all_goals
      have hb := (spec_chk h).1
      have hv := spec_ret (spec_chk h).2
      subst hv
    · rw [run_sl hu hi' (sb00 _ _ _), offA_zero]; simp
    · rw [run_sl hu hi' (sb01 _ _ _ hb), offA_zero]; simp
    · rw [run_sl hu hi' (sb10 _ _ _ hb)]
    · rw [run_sl hu hi' (sb11 _ _ _ hb)]
  · rename_i s hu
    split at h
    · have hv := spec_ret h; subst hv; rw [run_slS hu (sb00 _ _ _)]
    · have hb := (spec_chk h).1
      have hv := spec_ret (spec_chk h).2
      subst hv
      rw [run_slS hu (sb01 _ _ _ hb)]
    · have hb := (spec_chk h).1
      have hv := spec_ret (spec_chk h).2
      subst hv
      rw [run_slS hu (sb10 _ _ _ hb)]
    · have hb := (spec_chk h).1
      have hv := spec_ret (spec_chk h).2
      subst hv
      rw [run_slS hu (sb11 _ _ _ hb)]
    · cases h
  · rename_i n e p hu
    split at h <;> rename_i hi' <;> first | (cases h; done) | skip
    all_goals
      have hp := isP_spec (spec_chk h).1
      replace h := (spec_chk h).2
    · have hv := spec_ret h; subst hv
      rw [hp, run_slA hu hi' (sb00 _ _ _), offA_zero]; simp
    · have hb := (spec_chk h).1
      have hv := spec_ret (spec_chk h).2
      subst hv
      rw [hp, run_slA hu hi' (sb01 _ _ _ hb), offA_zero]; simp
    · have hb := (spec_chk h).1
      have hv := spec_ret (spec_chk h).2
      subst hv
      rw [hp, run_slA hu hi' (sb10 _ _ _ hb)]
    · have hb := (spec_chk h).1
      have hv := spec_ret (spec_chk h).2
      subst hv
      rw [hp, run_slA hu hi' (sb11 _ _ _ hb)]
  · cases h
theorem sb111 (isS : Bool) (len cap : Nat) {k k' k'' : IntKind} {l h m : Int} (hh : okSl l h m = true) (hm : okSl 0 m cap = true) : (Instr.sliceBounds isS len cap (some (.int k l)) (some (.int k' h)) (some (.int k'' m))).run P w = .ok (l.toNat, h.toNat, m.toNat) w := by
  have hb := okSl_spec hh
  have hb2 := okSl_spec hm
  have h2 : l ≤ ((h.toNat : Nat) : Int) := by omega
  have h3 : h ≤ ((m.toNat : Nat) : Int) := by omega
  simp only [Instr.sliceBounds, Sem.run_bind, Sem.run_pure, Result.andThen_ok, run_sliceBound (w := w) (P := P) k'' m cap _ hb2.2.1 hb2.2.2, run_sliceBound (w := w) (P := P) k' h m.toNat _ (by omega) h3, run_sliceBound (w := w) (P := P) k l h.toNat _ hb.1 h2]
theorem run_sl3 {t e : TypeId} {i : TypeInfo} {a : Option Addr} {len cap : Nat} {lo hi mx : Option Value} {l h m : Nat} (hu : P.underlying t = some (.slice e)) (hi' : P.info? e = some i)
    (hb : (Instr.sliceBounds true len cap lo hi mx).run P w = .ok (l, h, m) w) :
    (Instr.sliceAt t (.slice a len cap) lo hi mx).run P w = .ok (.slice (offA a m l i.size) (h - l) (m - l)) w := by
  simp only [Instr.sliceAt, Sem.run_bind, run_underlying hu, Result.andThen_ok, Instr.slice, hb, Sem.run_pure, run_sizeOf' hi', offA]
theorem qSlice3_sound {t : TypeId} {x lo hi mx : Value} {c : World → Prop} {v : Value} (h : Spec (qSlice3 P t x lo hi mx) c v) : (Instr.sliceAt t x (some lo) (some hi) (some mx)).run P w = .ok v w := by
  unfold qSlice3 at h
  split at h
  · rename_i hu
    split at h
    · rename_i hi'
      have hb := (spec_chk h).1
      have hm := (spec_chk (spec_chk h).2).1
      have hv := spec_ret (spec_chk (spec_chk h).2).2
      subst hv
      rw [run_sl3 hu hi' (sb111 _ _ _ hb hm)]
    · cases h
  · cases h
theorem qLookup_sound {t : TypeId} {m k : Value} {two : Bool} {c : World → Prop} {v : Value} (h : Spec (qLookup P t m k two) c v) (hc : c w) : (Instr.lookup t m k two).run P w = .ok v w := by
  unfold qLookup at h
  split at h
  · split at h
    · obtain ⟨u, h⟩ := spec_valQ h
      obtain ⟨b, h⟩ := spec_ex h
      obtain ⟨c1, h, hcc⟩ := spec_rdc h
      have hv := spec_ret h; subst hv
      exact (hcc w hc).1.run
    · obtain ⟨u, h⟩ := spec_valQ h
      obtain ⟨c1, h, hcc⟩ := spec_rdc h
      have hv := spec_ret h; subst hv
      exact (hcc w hc).1.run
  · cases h
theorem qBuiltin_sound {b : Builtin} {ts : Array TypeId} {ty : TypeId} {args : List Value} {cs : Array Bool} {c : World → Prop} {v : Value} (h : Spec (qBuiltin P b ts ty args) c v) (hc : c w) :
    (builtin b ts ty cs args.toArray).run P w = .ok (.value v) w := by
  unfold qBuiltin at h
  split at h
  · rename_i t rest x hts
    have h0 : ts[0]? = some t := by
      have : ts.toList[0]? = some t := by rw [hts]; rfl
      simpa using this
    split at h
    · rename_i hu; have hv := spec_ret h; subst hv
      simp [builtin, Builtin.len_, h0, run_underlying hu, goInt]
    · rename_i hu; have hv := spec_ret h; subst hv
      simp [builtin, Builtin.len_, h0, run_underlying hu, goInt]
    · rename_i hu; have hv := spec_ret h; subst hv
      simp [builtin, Builtin.len_, h0, run_underlying hu, goInt]
    · obtain ⟨n, h⟩ := spec_ex h
      obtain ⟨c1, h, hcc⟩ := spec_rdc h
      have hv := spec_ret h; subst hv
      have := (hcc w hc).1.run
      simp [builtin, this]
    · cases h
  · rename_i t rest x hts
    have h0 : ts[0]? = some t := by
      have : ts.toList[0]? = some t := by rw [hts]; rfl
      simpa using this
    split at h
    · rename_i hu; have hv := spec_ret h; subst hv
      simp [builtin, Builtin.cap_, h0, run_underlying hu, goInt]
    · cases h
  · have hv := spec_ret h; subst hv
    simp [builtin, Builtin.min_, Builtin.min2]
  · have hv := spec_ret h; subst hv
    simp [builtin, Builtin.max_, Builtin.max2]
  · cases h
theorem valsO_spec {ρ : Operand → Option Value} {ρa : Operand → Value} (hρ : ∀ x u, ρ x = some u → ρa x = u) : ∀ {xs : List Operand} {vs : List Value}, valsO ρ xs = some vs → xs.map ρa = vs := by
  intro xs
  induction xs with
  | nil => intro vs h; simp [valsO] at h; subst h; rfl
  | cons x xs ih =>
    intro vs h
    unfold valsO at h
    split at h
    · rename_i v ws hv hw
      simp at h; subst h
      simp [hρ _ _ hv, ih hw]
    · simp at h
theorem partsO_spec {ρ : Operand → Option Value} {ρa : Operand → Value} (hρ : ∀ x u, ρ x = some u → ρa x = u) : ∀ {xs : List (Nat × Operand)} {vs : List (Nat × Value)}, partsO ρ xs = some vs → xs.map (fun p => (p.1, ρa p.2)) = vs := by
  intro xs
  induction xs with
  | nil => intro vs h; simp [partsO] at h; subst h; rfl
  | cons x xs ih =>
    intro vs h
    obtain ⟨i, x⟩ := x
    unfold partsO at h
    split at h
    · rename_i v ws hv hw
      simp at h; subst h
      simp [hρ _ _ hv, ih hw]
    · simp at h

theorem spec_hintQ {t : Option TypeId} {k : Value → QRes} {c : World → Prop} {v : Value} (h : Spec (hintQ P t k) c v) : ∃ u, Spec (k u) c v := by
  unfold hintQ at h
  split at h
  · exact spec_valQ h
  · exact spec_ex h
theorem qOp_sound {τ : Nat → Option TypeId} {ρ : Operand → Option Value} {ρa : Operand → Value} (hρ : ∀ x u, ρ x = some u → ρa x = u) {o : Oper} {c : World → Prop} {v : Value} (h : Spec (qOp P τ ρ o) c v) (hc : c w) :
    (execOp ρa o).run P w = .ok (.value v) w := by
  unfold qOp at h
  split at h
  · rename_i x ho
    split at h
    · rename_i u hx; have hv := spec_ret h; subst hv; simp [execOp, ho, hρ _ _ hx]
    · cases h
  · rename_i x ho
    split at h
    · rename_i u hx; have hv := spec_ret h; subst hv; simp [execOp, ho, hρ _ _ hx]
    · cases h
  · rename_i x ho
    split at h
    · rename_i p hx
      have hp := isP_spec (spec_chk h).1
      have hv := spec_ret (spec_chk h).2; subst hv
      rw [← hp]
      simp only [execOp, ho, hρ _ _ hx]
      rw [hp]; rfl
    · rename_i hx; have hv := spec_ret h; subst hv; simp [execOp, ho, hρ _ _ hx]
    · cases h
  · rename_i op t x y z ho
    split at h
    · rename_i a b hx hy
      have := qBin_sound (w := w) h x y
      simp only [execOp, ho, hρ _ _ hx, hρ _ _ hy]
      rw [Sem.run_bind, this]; rfl
    · cases h
  · rename_i op t x ho
    split at h
    · rename_i a hx
      have := qUn_sound (P := P) (w := w) h
      simp only [execOp, ho, hρ _ _ hx]
      rw [Sem.run_bind, this]; rfl
    · cases h
  · rename_i s d x ho
    split at h
    · rename_i a hx
      have := qConv_sound (w := w) h hc
      simp only [execOp, ho, hρ _ _ hx]
      rw [Sem.run_bind, this]; rfl
    · cases h
  · rename_i s x f ho
    split at h
    · rename_i a hx
      have := qFieldAddr_sound (w := w) h
      simp only [execOp, ho, hρ _ _ hx]
      rw [Sem.run_bind, this]; rfl
    · cases h
  · rename_i s x f ho
    split at h
    · rename_i a hx
      have := qField_sound (w := w) h
      simp only [execOp, ho, hρ _ _ hx]
      rw [Sem.run_bind, this]; rfl
    · cases h
  · rename_i t x i ho
    split at h
    · rename_i a b hx hy
      have := qIndexAddr_sound (w := w) h
      simp only [execOp, ho, hρ _ _ hx, hρ _ _ hy]
      rw [Sem.run_bind, this]; rfl
    · cases h
  · rename_i t x i ho
    split at h
    · rename_i a b hx hy
      have := qIndex_sound (w := w) h hc
      simp only [execOp, ho, hρ _ _ hx, hρ _ _ hy]
      rw [Sem.run_bind, this]; rfl
    · cases h
  · rename_i x i ho
    split at h
    · rename_i a hx
      have := qExtract_sound (P := P) (w := w) h
      simp only [execOp, ho, hρ _ _ hx]
      rw [Sem.run_bind, this]; rfl
    · cases h
  · rename_i t x lo hi ho
    split at h
    · rename_i a hx
      have := qSlice_sound (w := w) h
      simp only [execOp, ho, hρ _ _ hx, Option.map_none]
      rw [Sem.run_bind, this]; rfl
    · rename_i a l hx
      split at h
      · rename_i l' hl
        have := qSlice_sound (w := w) h
        simp only [execOp, ho, hρ _ _ hx, hρ _ _ hl, Option.map_none, Option.map_some]
        rw [Sem.run_bind, this]; rfl
      · cases h
    · rename_i a l hx
      split at h
      · rename_i l' hl
        have := qSlice_sound (w := w) h
        simp only [execOp, ho, hρ _ _ hx, hρ _ _ hl, Option.map_none, Option.map_some]
        rw [Sem.run_bind, this]; rfl
      · cases h
    · rename_i a l l2 hx
      split at h
      · rename_i l' l2' hl hl2
        have := qSlice_sound (w := w) h
        simp only [execOp, ho, hρ _ _ hx, hρ _ _ hl, hρ _ _ hl2, Option.map_none, Option.map_some]
        rw [Sem.run_bind, this]; rfl
      · cases h
    · cases h
  · rename_i t x lo hi mx ho
    split at h
    · rename_i a l l2 l3 hx hl hl2 hl3
      have := qSlice3_sound (w := w) h
      simp only [execOp, ho, hρ _ _ hx, hρ _ _ hl, hρ _ _ hl2, hρ _ _ hl3, Option.map_some]
      rw [Sem.run_bind, this]; rfl
    · cases h
  · rename_i t parts ho
    split at h
    · rename_i ps hps
      split at h
      · rename_i cells hb
        have hv := spec_ret h; subst hv
        have hp := partsO_spec hρ hps
        have := run_build (P := P) w t (parts.map fun p => (p.1, ρa p.2)) cells (by rw [Array.toList_map, hp]; exact hb)
        simp only [execOp, ho]
        rw [Sem.run_bind, this]; rfl
      · cases h
    · cases h
  · rename_i fn first cap ho
    split at h
    · rename_i a b ha hb
      have hv := spec_ret h; subst hv
      have h1 : first.map ρa = a.toArray := by rw [← valsO_spec hρ ha, ← Array.toList_map]
      have h2 : cap.map ρa = b.toArray := by rw [← valsO_spec hρ hb, ← Array.toList_map]
      simp [execOp, ho, Instr.makeFunc, h1, h2]
    · cases h
  · rename_i t x ho
    split at h
    · cases h
    · rename_i a d hni hx hu
      have hv := spec_ret h; subst hv
      simp only [execOp, ho, hρ _ _ hx, Instr.makeInterface, Sem.run_bind, run_underlying hu, Result.andThen_ok]
      cases d <;> first | rfl | exact (hni _ rfl).elim
    · cases h
  · rename_i t x ho
    split at h
    · rename_i a hx
      have := qLoad_sound (w := w) h hc
      simp only [execOp, ho, hρ _ _ hx]
      rw [Sem.run_bind, this]; rfl
    · cases h
  · rename_i t m k two ho
    split at h
    · rename_i a b hx hy
      have := qLookup_sound (w := w) h hc
      simp only [execOp, ho, hρ _ _ hx, hρ _ _ hy]
      rw [Sem.run_bind, this]; rfl
    · cases h
  · rename_i b args ts ho
    split at h
    · rename_i vs hvs
      have h1 : args.map ρa = vs.toArray := by rw [← valsO_spec hρ hvs, ← Array.toList_map]
      have := qBuiltin_sound (w := w) (cs := args.map fun | .const _ => true | _ => false) h hc
      simp only [execOp, ho, resolve, Sem.run_bind, Sem.run_pure, Result.andThen_ok, invoke, h1]
      exact this
    · cases h
  · rename_i it ho
    unfold qEntry at h
    split at h
    · rename_i a ha
      obtain ⟨k, h⟩ := spec_hintQ h
      obtain ⟨v, h⟩ := spec_hintQ h
      obtain ⟨c1, h, hcc⟩ := spec_rdc h
      have hv := spec_ret h; subst hv
      have := (hcc w hc).1.run
      simp only [execOp, ho, hρ _ _ ha]
      rw [Sem.run_bind, this]; rfl
    · cases h
  · cases h
end
end Go.Eng
