/-
  A part of a proof that a law of this seat returns true at every input. Conditions: those in each theorem.
-/
import Derived.Test.YtklmokolnakkoaaGreatDoorZC4
import Derived.Test.YtklmokolnakkoaaGreatDoorCards
import Derived.Test.YtklmokolnakkoaaGreatDoorTie
import Derived.ProofKit
import Derived.OpenShut
import Derived.Deep.DeepHandedRow
import Derived.Lib.LaidTab
import Derived.Test.YtklmokolnakkoaaGreatDoorEngL
import Derived.Test.YtklmokolnakkoaaGreatDoorEngM
set_option linter.unusedSimpArgs false
set_option linter.unusedVariables false
set_option maxRecDepth 100000
namespace Go.Proofs.YtklmokolnakkoaaGreatDoor
open Go Go.Eng
theorem runI_set {kd : IntKind} {f : Nat → Int} {n i : Nat} {v : Int} (hi : i < n) : (runI kd f 0 n).set i (.int kd v) = runI kd (upd f i v) 0 n := by
  refine runI_of (by rw [List.length_set, runI_len]) fun j hj => ?_
  rw [List.getElem?_set, runI_len]
  by_cases e : i = j
  · subst e; simp [hi]
  · rw [if_neg e, runI_get _ _ _ _ _ hj, Nat.zero_add, upd_ne _ _ (Ne.symm e)]
def sz (k : Nat) : Int := [8, 16, 24, 40, 56, 72, 104, 128].getD k 1
def SizR (w : World) : Prop := ∀ i, i < 8 → rd w 0 i = some (vi (sz i))
theorem SizR.k {w w' : World} (h : SizR w) (k : Kept none' w w') : SizR w' := fun i hi => k.rd_some (h i hi) id
theorem SizR.kx {X : Nat → Prop} {w w' : World} (h : SizR w) (k : Kept X w w') (hx : ¬ X 0) : SizR w' := fun i hi => k.rd_some (h i hi) hx
theorem sz_ok {i : Nat} (hi : i < 8) : 8 ≤ sz i ∧ sz i ≤ 128 ∧ Int.tmod (sz i) 8 = 0 := by
  match i, hi with
  | 0, _ | 1, _ | 2, _ | 3, _ | 4, _ | 5, _ | 6, _ | 7, _ => exact (by decide)
theorem clampN {n : Int} {m : Int} (h0 : 0 ≤ n) (h1 : n ≤ m) : (if m < if 0 > n then 0 else n then m else if 0 > n then 0 else n) = n := by
  rw [if_neg (show ¬ (0 : Int) > n by omega), if_neg (by omega)]
theorem dnew_spec {n : Nat} (hn : n ≤ 1024) (w : World) : Calls Tryz.prog 35 #[vi n] w fun e w' => ∃ d db, e = .returned (ptr d) ∧ Kept none' w w' ∧ DevAt w' d db n (fun _ => 0) ∧ w.heap.size ≤ d ∧ w.heap.size ≤ db := by
  refine (vc35 n w (fun v w' => ∃ d db, v = ptr d ∧ Kept none' w w' ∧ DevAt w' d db n (fun _ => 0) ∧ w.heap.size ≤ d ∧ w.heap.size ≤ db) ?_).mono ?_
  · unfold vcP35
    rw [clampN (by omega) (by omega), Int.toNat_natCast]
    refine Wif_yes (okm_of (by omega) (by omega) (by omega)) fun w1 e1 w2 e2 => ⟨_, _, rfl, ((Kept.refl _ w).al e1).al e2, ⟨own_alloc e2, ?_, by rw [e1]; simp only [World.alloc, Array.size_push]; omega⟩, by rw [e1]; simp only [World.alloc, Array.size_push]; omega, Nat.le_refl _⟩
    have o1 : own w1 w.heap.size (mkRow (List.toArray (List.replicate 256 (Value.int IntKind.u8 0))) 256 n).toList := own_alloc e1
    rw [mkRow_ge (by decide), zeroRow_rows (s := 256) (by simp) (by decide), List.toList_toArray, rowL_run] at o1
    exact o1.al e2
  · rintro e w' ⟨v, rfl, d, db, rfl, h⟩
    exact ⟨d, db, rfl, h⟩
theorem lnew_spec {n : Nat} (hn : n ≤ 64) (w : World) : Calls Tryz.prog 36 #[vi n] w fun e w' => ∃ l, e = .returned (ptr l) ∧ Kept none' w w' ∧ LocksAt w' l n (fun _ => 0) ∧ w.heap.size ≤ l := by
  refine (vc36 n w (fun v w' => ∃ l, v = ptr l ∧ Kept none' w w' ∧ LocksAt w' l n (fun _ => 0) ∧ w.heap.size ≤ l) ?_).mono ?_
  · unfold vcP36
    rw [clampN (by omega) (by omega)]
    intro w1 e1
    exact ⟨_, rfl, (Kept.refl _ w).al e1, own_alloc e1, Nat.le_refl _⟩
  · rintro e w' ⟨v, rfl, l, rfl, h⟩
    exact ⟨l, rfl, h⟩
theorem pairs0 {n : Nat} : (mkRow #[Value.int IntKind.i64 0, Value.int IntKind.i64 0] 2 n).toList = rowL n fun _ => pairV (0, 0) := by
  rw [mkRow_ge (by decide), zeroRow_rows (s := 2) rfl (by decide)]
  rfl
theorem rmnew_spec {n : Nat} (hn : n ≤ 1024) (w : World) : Calls Tryz.prog 37 #[vi n] w fun e w' => ∃ r fb mb, e = .returned (ptr r) ∧ Kept none' w w' ∧ RmapAt w' r fb mb n (fun _ => (0, 0)) [] ∧ w.heap.size ≤ r ∧ w.heap.size ≤ fb ∧ w.heap.size ≤ mb := by
  refine (vc37 n w (fun v w' => ∃ r fb mb, v = ptr r ∧ Kept none' w w' ∧ RmapAt w' r fb mb n (fun _ => (0, 0)) [] ∧ w.heap.size ≤ r ∧ w.heap.size ≤ fb ∧ w.heap.size ≤ mb) ?_).mono ?_
  · unfold vcP37
    rw [clampN (by omega) (by omega), Int.toNat_natCast]
    refine Wif_yes (okm_of (by omega) (by omega) (by omega)) fun w1 e1 w2 e2 w3 e3 => ?_
    have o1 : own w1 w.heap.size _ := own_alloc (c := (mkRow #[Value.int IntKind.i64 0, Value.int IntKind.i64 0] 2 n).toList) e1
    rw [pairs0] at o1
    have k1 : Kept none' w w1 := (Kept.refl _ w).al e1
    have k2 : Kept none' w1 w2 := e2 ▸ (Kept.refl _ _).allocMap #[] 0
    have k3 : Kept none' w2 w3 := (Kept.refl _ _).al e3
    have h1 := k1.sz
    have h2 := k2.sz
    exact ⟨_, _, _, rfl, (k1.tr k2).tr k3, ⟨own_alloc e3, (o1.k k2).k k3, (mapG_new e2).k k3, by have := (mapG_new (enc := pgV) e2).lt; have := o1.lt; omega⟩, by omega, Nat.le_refl _, h1⟩
  · rintro e w' ⟨v, rfl, r, fb, mb, rfl, h⟩
    exact ⟨r, fb, mb, rfl, h⟩
theorem slnew_spec {n : Nat} (hn : n ≤ 1024) (w : World) : Calls Tryz.prog 38 #[vi n] w fun e w' => ∃ s fb, e = .returned (ptr s) ∧ Kept none' w w' ∧ SlotsAt w' s fb n (fun _ => (0, 0)) ∧ w.heap.size ≤ s ∧ w.heap.size ≤ fb := by
  refine (vc38 n w (fun v w' => ∃ s fb, v = ptr s ∧ Kept none' w w' ∧ SlotsAt w' s fb n (fun _ => (0, 0)) ∧ w.heap.size ≤ s ∧ w.heap.size ≤ fb) ?_).mono ?_
  · unfold vcP38
    rw [clampN (by omega) (by omega), Int.toNat_natCast]
    refine Wif_yes (okm_of (by omega) (by omega) (by omega)) fun w1 e1 w2 e2 => ?_
    have o1 : own w1 w.heap.size _ := own_alloc (c := (mkRow #[Value.int IntKind.i64 0, Value.int IntKind.i64 0] 2 n).toList) e1
    rw [pairs0] at o1
    have k1 : Kept none' w w1 := (Kept.refl _ w).al e1
    have k2 : Kept none' w1 w2 := (Kept.refl _ _).al e2
    exact ⟨_, _, rfl, k1.tr k2, ⟨own_alloc e2, o1.k k2, by have := o1.lt; omega⟩, k1.sz, Nat.le_refl _⟩
  · rintro e w' ⟨v, rfl, s, fb, rfl, h⟩
    exact ⟨s, fb, rfl, h⟩
def slabC (B : Nat) (size cnt x y : Int) (tl : List Value) : List Value := [.slice (some ⟨B, 0, none⟩) 256 256, vi size, vi 0, vi cnt, .int .u8 x, vi y] ++ tl
theorem push_new {w : World} {S B : Nat} {size cnt x y i : Int} {tl : List Value} {f : Nat → Int} (hS : own w S (slabC B size cnt x y tl)) (hB : own w B (runI .u8 f 0 256)) (hne : S ≠ B) (hi : 0 ≤ i * size ∧ i * size < 256) :
    Calls Tryz.prog 166 #[ptr S, vi i] w fun e w' => e = .returned (.tuple #[]) ∧ Kept (fun b => b = S ∨ b = B) w w' ∧ ∃ x' y' f', own w' S (slabC B size cnt x' y' tl) ∧ own w' B (runI .u8 f' 0 256) := by
  refine (vc166 _ i w (fun v w' => v = .tuple #[] ∧ Kept (fun b => b = S ∨ b = B) w w' ∧ ∃ x' y' f', own w' S (slabC B size cnt x' y' tl) ∧ own w' B (runI .u8 f' 0 256)) ?_).mono ?_
  rotate_left
  · rintro e w' ⟨v, rfl, rfl, h⟩
    exact ⟨rfl, h⟩
  unfold vcP166
  intro w1 e1
  have s1 := hS.dr e1
  have b1 := hB.dr e1
  have k1 : Kept (fun b => b = S ∨ b = B) w w1 := (Kept.refl _ _).dr e1
  clear e1
  simp only [isP_some, Wif_true, pb_some, po_some, Nat.zero_add]
  refine ⟨_, _, _, by rw [s1.rd]; rfl, _, by rw [s1.rd]; rfl, _, by rw [s1.rd]; rfl, x, by rw [s1.rd]; rfl, ?_⟩
  simp only [isP_some, Wif_true, pb_some, po_some, Nat.zero_add]
  rw [wi (x := i * size) (by omega), Int.zero_add, wi (x := i * size) (by omega)]
  refine Wif_yes (inB_of hi.1 (by omega)) ⟨b1.wr (by rw [runI_len]; omega), fun w2 e2 => ?_⟩
  have s2 := s1.n1 e2 hne
  have b2 := b1.s1 e2
  rw [Nat.mul_one, runI_set (by omega)] at b2
  have k2 := k1.s1 e2 (.inl (.inr rfl))
  refine ⟨s2.wr (by simp [slabC]), fun w3 e3 => ?_⟩
  have s3 := s2.s1 e3
  have b3 := b2.n1 e3 (Ne.symm hne)
  have k3 := k2.s1 e3 (.inl (.inl rfl))
  refine ⟨y, by rw [s3.rd]; rfl, s3.wr (by simp [slabC]), fun w4 e4 => ?_⟩
  exact ⟨trivial, k3.s1 e4 (.inl (.inl rfl)), _, _, _, s3.s1 e4, b3.n1 e4 (Ne.symm hne)⟩
theorem chnew_spec {w : World} {B : Nat} {f : Nat → Int} {size : Int} (hs : 8 ≤ size ∧ size ≤ 128 ∧ Int.tmod size 8 = 0) (hB : own w B (runI .u8 f 0 256)) :
    Calls Tryz.prog 119 #[.slice (some ⟨B, 0, none⟩) 256 256, vi size, vi 0] w fun e w' => ∃ S, e = .returned (.tuple #[ptr S, vi 0]) ∧ Kept (fun b => b = B) w w' := by
  refine (vc119 _ 256 256 size 0 w (fun v w' => ∃ S, v = .tuple #[ptr S, vi 0] ∧ Kept (fun b => b = B) w w') ?_).mono ?_
  rotate_left
  · rintro e w' ⟨v, rfl, S, rfl, h⟩
    exact ⟨S, rfl, h⟩
  unfold vcP119
  obtain ⟨h8, h128, hm⟩ := hs
  have hne0 : (size != 0) = true := by simp; omega
  have hm0 : (Int.tmod size 8 != 0) = false := by rw [hm]; rfl
  have hmd := Int.emod_nonneg 256 (b := size) (by omega)
  have hcol : decide ((0 : Int) > Int.tmod 256 size) = false := by
    rw [Int.tmod_eq_emod_of_nonneg (by decide)]
    simp; omega
  have h8' : decide (size < 8) = false := by simp; omega
  have h128' : decide (size > 128) = false := by simp; omega
  rw [hne0, hm0, hcol, h8', h128']
  simp only [gIf_true]
  refine Wif_no (by decide) ?_
  simp only [Wif_true]
  intro w1 e1
  have hd : Int.tdiv 256 size = 256 / size := Int.tdiv_eq_ediv_of_nonneg (by decide)
  have hd0 : 0 ≤ (256 : Int) / size := Int.ediv_nonneg (by decide) (by omega)
  have hd1 : (256 : Int) / size * size ≤ 256 := Int.ediv_mul_le _ (by omega)
  have hd2 : (256 : Int) / size ≤ 256 := Int.ediv_le_self _ (by decide)
  rw [wi (x := 256 - 0) (by omega), Int.sub_zero, hd, wi (x := 256 / size) (by omega)] at e1
  generalize hq : (256 : Int) / size = q at *
  have s1 : own w1 w.heap.size (slabC B size q 255 0 (List.replicate 32 (Value.bool false) ++ List.replicate 32 (Value.int IntKind.u64 0))) := own_alloc e1
  have k1 : Kept (fun b => b = B) w w1 := (Kept.refl _ _).al e1
  have b1 := hB.al e1
  have hne : w.heap.size ≠ B := (Ne.symm (Nat.ne_of_lt hB.lt))
  clear e1
  generalize hS : w.heap.size = S at *
  refine ⟨q, by rw [s1.rd]; rfl, ?_⟩
  refine ⟨fun k w' N => ∃ (m : Nat) (x y : Int) (f : Nat → Int), k = (m : Int) - 1 ∧ (m : Int) ≤ q ∧ m = N ∧ Kept (fun b => b = B) w w' ∧ own w' S (slabC B size q x y (List.replicate 32 (Value.bool false) ++ List.replicate 32 (Value.int IntKind.u64 0))) ∧ own w' B (runI .u8 f 0 256),
    ⟨q.toNat, q.toNat, _, _, _, by rw [wi (by omega)]; omega, by omega, rfl, k1, s1, b1⟩, ?_⟩
  rintro _ w2 _ ⟨m, x, y, g, rfl, hmq, rfl, k2, s2, b2⟩
  refine Wif_intro (fun hc => ?_) (fun hc => ⟨S, rfl, k2⟩)
  have hm1 : 1 ≤ m := by simp at hc; omega
  have hpos : 0 ≤ ((m : Int) - 1) * size := Int.mul_nonneg (by omega) (by omega)
  have hle : ((m : Int) - 1) * size ≤ q * size - size := by
    have := Int.mul_le_mul_of_nonneg_right (a := (m : Int) - 1) (b := q - 1) (c := size) (by omega) (by omega)
    rw [Int.sub_mul q, Int.one_mul] at this
    exact this
  refine (push_new s2 b2 hne ⟨hpos, by omega⟩).mono ?_
  rintro _ w3 ⟨rfl, k3, x', y', f', s3, b3⟩
  refine ⟨rfl, m - 1, by omega, m - 1, x', y', f', by rw [wi (by omega)]; omega, by omega, rfl, k2.trans k3 (fun b hb e => ?_), s3, b3⟩
  rcases e with rfl | rfl
  · omega
  · rfl
theorem canew_spec {size : Int} (hs : 8 ≤ size ∧ size ≤ 128 ∧ Int.tmod size 8 = 0) (w : World) : Calls Tryz.prog 46 #[vi size] w fun e w' => ∃ C m, e = .returned (.tuple #[ptr C, vi 0]) ∧ Kept none' w w' ∧ own w' C [vi size, vi 0, .map (some m)] ∧ MapIs w' m [] ∧ w.heap.size ≤ C ∧ w.heap.size ≤ m := by
  refine (vc46 size w (fun v w' => ∃ C m, v = .tuple #[ptr C, vi 0] ∧ Kept none' w w' ∧ own w' C [vi size, vi 0, .map (some m)] ∧ MapIs w' m [] ∧ w.heap.size ≤ C ∧ w.heap.size ≤ m) ?_).mono ?_
  rotate_left
  · rintro e w' ⟨v, rfl, C, m, rfl, h⟩
    exact ⟨C, m, rfl, h⟩
  unfold vcP46
  intro w1 e1
  have o1 : own w1 w.heap.size _ := own_alloc e1
  rw [show List.replicate 256 (Value.int IntKind.u8 0) = runI .u8 (fun _ => 0) 0 256 from runI_of List.length_replicate fun j hj => by rw [List.getElem?_replicate, if_pos hj]] at o1
  have k1 : Kept none' w w1 := (Kept.refl _ _).al e1
  refine (chnew_spec hs o1).mono ?_
  rintro _ w2 ⟨S, rfl, k2⟩
  have K2 : Kept none' w w2 := own0 k1 k2 fun x e => by omega
  refine ⟨_, _, rfl, Wif_no rfl fun w3 e3 w4 e4 => ?_⟩
  have k3 : Kept none' w2 w3 := e3 ▸ (Kept.refl _ _).allocMap #[] 0
  have k4 : Kept none' w3 w4 := (Kept.refl _ _).al e4
  have h2 := K2.sz
  have h3 := k3.sz
  exact ⟨_, _, rfl, (K2.tr k3).tr k4, own_alloc e4, (map_new e3).k k4, by omega, h2⟩
end Go.Proofs.YtklmokolnakkoaaGreatDoor
namespace Go.Proofs.YtklmokolnakkoaaGreatDoor
open Go Go.ChangeShapes Go.WideShapes Go.ChangeAt Go.RowKit Go.Eng
set_option linter.unusedSimpArgs false
set_option linter.unusedVariables false
set_option maxRecDepth 100000
theorem ownKnobs : ownKnob Tryz.prog.godebug = none := by kernel_rfl
theorem laidOut : laidOutB Tryz.prog = true := by kernel_rfl
theorem wf_i64 {x : Int} (h : (Lit.int .i64 x).wf = true) : -9223372036854775808 ≤ x ∧ x ≤ 9223372036854775807 := by
  simpa [Lit.wf, IntKind.min, IntKind.max, IntKind.signed, IntKind.bits] using h
theorem gSiz : Tryz.prog.globalNamed "byre/api.Sizes" = some 0 := by kernel_rfl
theorem gSizType : (Tryz.prog.globals[0]?).map (·.type) = some 28 := by kernel_rfl
theorem cells_3 : Tryz.prog.cellsOf 3 = 1 := by kernel_rfl
theorem cellsS : Tryz.prog.cellsOf 28 = 8 := by kernel_rfl
abbrev theLaid {H : Type} : List (String × DataW H) := [("byre/api.Sizes", Rows.laid_byre_api_Sizes), ("math/bits.deBruijn64tab", Rows.laid_math_bits_deBruijn64tab)]
theorem table {W : World} (h : laidMetH Tryz.prog theLaid W) : SizR W := by
  have t : Lib.TabIs Tryz.prog W "byre/api.Sizes" .i64 [8, 16, 24, 40, 56, 72, 104, 128] := Lib.tabIs_of_head gSiz gSizType Tryz.underlying28 Tryz.underlying3 cells_3 cellsS h
  intro i hi
  have h1 := t.cell gSiz i (by simpa using hi)
  have e : ([8, 16, 24, 40, 56, 72, 104, 128] : List Int).getD i 0 = sz i := by
    match i, hi with
    | 0, _ | 1, _ | 2, _ | 3, _ | 4, _ | 5, _ | 6, _ | 7, _ => rfl
  rw [e] at h1
  exact h1
theorem SizR.pos {W : World} (h : SizR W) : 0 < W.heap.size := rd_lt (h 0 (by decide))
theorem lift_row {k : FuncId} {f : Func} (hf : Tryz.checked.prog.funcs[k]? = some f) (noInit : Tryz.checked.prog.inits.idxOf? k = none)
    {bt : TypeId} (hbt : Tryz.prog.underlying bt = some .bool) (hres : f.resultTypes = #[bt]) (hpar : parsOk Tryz.prog f = true)
    {s : ChangeSpec} (hvars : s.vars = []) {dom : List PathCond}
    (hfn : ∀ (H : Type) (ds : List (DataW H)), ds.length = f.params.size → s.fn H ds = { results := [.lit (.bool true)], args := ds })
    (walk : ∀ (H : Type) (enc : TypeId × Value → H) (W : World) (base : Nat) (args : Array Value) (ds : List (DataW H)) (p : List MemPlace),
      (∀ (j : Nat) t v, f.params[j]? = some t → args[j]? = some v → Value.okWide Tryz.prog W .any base t v) →
      DataW.TrodAll enc Tryz.prog W 0 (fun _ => true) true f.params.toList args.toList ds p → SizR W →
      Calls Tryz.prog k args W fun e W' => e = .returned (.bool true) ∧ Kept none' W W')
    (os : Os) (started : os.Started) (H : Type) (enc : TypeId × Value → H) (F : Stop.Interp)
    (wit : ∃ (w : World) (tape : Tape) (i : Input), w.os = os ∧ (w.forCall tape i).Shaped Tryz.checked.prog ∧ i.vars = [] ∧ Input.okWide Tryz.checked.prog (w.forCall tape i) .any w.heap.size k i ∧
      (OpenSpec.ofChange s).preRow enc Tryz.checked.prog f dom false theLaid (w.forCall tape i).memory i.args ∧ ({} : Assume).holds Tryz.checked.prog (lone (Frame.enter Tryz.checked.prog k i.args .normal) [] (w.forCall tape i))) :
    ReturnsInHanded {} Tryz.checked os k .any ((OpenSpec.ofChange s).preRow enc Tryz.prog f dom false theLaid) (((OpenSpec.ofChange s).at F).post enc Tryz.prog f false true false false) := by
  refine returnsInHanded_of_row (C := Tryz.checked) (s := OpenSpec.ofChange s) ownKnobs started noInit hf wit ?_
  intro W base args ds gs before hval hW _ hcond _ hL _ _
  have hW' := hW
  obtain ⟨p, q, hA, hV, rfl, hfz, hnd⟩ := hW
  have hlt : ∀ x ∈ p ++ q, x.block < W.heap.size := fun x hx => by simpa using hW'.lt x hx
  have hv0 : (OpenSpec.ofChange s).vars = [] := hvars
  rw [hv0] at hV
  obtain ⟨rfl, rfl⟩ := trodVars_none hV
  simp only [List.append_nil] at hlt
  refine (walk H enc W base args ds p hval hA (table hL)).mono fun e W' ⟨he, hg⟩ => ?_
  subst he
  have hlen : ds.length = f.params.size := by
    have : ∀ (ts : List TypeId) (vs : List Value) (ds : List (DataW H)) (ps : List MemPlace), DataW.TrodAll enc Tryz.prog W 0 (fun _ => true) true ts vs ds ps → ds.length = ts.length := by
      intro ts
      induction ts with
      | nil => intro vs ds ps h; obtain ⟨_, rfl, _⟩ := trodAll_nil h; rfl
      | cons t ts ih =>
        intro vs ds ps h
        obtain ⟨v, vs', d, ds', p, q, rfl, rfl, rfl, h0, h1⟩ := trodAll_cons h
        simp [ih _ _ _ h1]
    rw [this _ _ _ _ hA]; simp
  have hs : s.fn H (ds ++ []) = { results := [.lit (.bool true)], args := ds } := by rw [List.append_nil]; exact hfn H ds hlen
  show ∃ v, _ ∧ s.post enc Tryz.prog f false true false false W args v W'
  refine ⟨_, rfl, ds, [], p ++ [], [], p, [], hW', ?_, ?_, ?_, hg.keptBut _, fun h => by cases h⟩
  · rw [hs, hres]
    exact trodAll_mk1 (shut_bool hbt _)
  · rw [hs]
    refine trodAll_stays laidOut hg.below _ _ _ _ (fun t ht => ?_) hA hlt
    have := List.all_eq_true.1 hpar t ht
    simpa using this
  · rw [hs, hvars]
    rfl
def Ints (cs : List Value) : Prop := ∀ j, j < cs.length → ∃ n : Int, cs[j]? = some (.int .i64 n) ∧ -9223372036854775808 ≤ n ∧ n ≤ 9223372036854775807
section
variable {H : Type} {enc : TypeId × Value → H} {P : Program} {W : World}
abbrev Tr (H : Type) (enc : TypeId × Value → H) (P : Program) (W : World) (t : TypeId) : Prop := ∀ (fuel : Nat) (cs : List Value) (x : DataW H × List MemPlace), DataW.trod enc P W 0 (fun _ => true) true fuel t cs = some x → Ints cs ∧ cs.length = P.cellsOf t
theorem tr_int {t : TypeId} (ht : P.underlying t = some (.int .i64)) (hc : P.cellsOf t = 1) : Tr H enc P W t := fun fuel cs x h => by
  obtain ⟨n, rfl, _, hw⟩ := DataW.trod_int ht h
  refine ⟨fun j hj => ⟨n, ?_, wf_i64 hw⟩, by rw [hc]; rfl⟩
  have : j = 0 := by simp at hj; omega
  subst this; rfl
theorem tr_part {cs ds : List Value} {o s : Nat} (h : Ints ((cs.drop o).take s)) {j : Nat} (h1 : o ≤ j) (h2 : j < o + s) (h3 : j < cs.length) : ∃ n : Int, cs[j]? = some (.int .i64 n) ∧ -9223372036854775808 ≤ n ∧ n ≤ 9223372036854775807 := by
  obtain ⟨n, h4, h5⟩ := h (j - o) (by simp; omega)
  rw [List.getElem?_take, if_pos (by omega), List.getElem?_drop, show o + (j - o) = j by omega] at h4
  exact ⟨n, h4, h5⟩
theorem tr_arr {t e : TypeId} {n s : Nat} (ht : P.underlying t = some (.array n e)) (hs : P.cellsOf e = s) (hc : P.cellsOf t = n * s) (he : Tr H enc P W e) : Tr H enc P W t := fun fuel cs x h => by
  obtain ⟨xs, m, _, _, hl, hxl, hx⟩ := DataW.trod_array ht h
  refine ⟨fun j hj => ?_, hl⟩
  rw [hl, hc] at hj
  have hs0 : 0 < s := by
    rcases Nat.eq_zero_or_pos s with h0 | h0
    · subst h0; simp at hj
    · exact h0
  have hi : j / s < n := (Nat.div_lt_iff_lt_mul hs0).2 hj
  have h1 := hx (j / s) hi
  rw [List.getElem?_eq_getElem (by omega), hs] at h1
  have h2 := (he _ _ _ h1).1
  have hd := Nat.div_add_mod j s
  have hm := Nat.mod_lt j hs0
  exact tr_part (ds := []) h2 (by rw [Nat.mul_comm] at hd; omega) (by rw [Nat.mul_comm] at hd; omega) (by rw [hl, hc]; exact hj)
end
section
variable {H : Type} {enc : TypeId × Value → H}
theorem cells_31 : Tryz.prog.cellsOf 31 = 94 := by kernel_rfl
theorem cells_27 : Tryz.prog.cellsOf 27 = 16 * 1 := by kernel_rfl
theorem cells_28 : Tryz.prog.cellsOf 28 = 8 * 1 := by kernel_rfl
theorem cells_29 : Tryz.prog.cellsOf 29 = 8 * 8 := by kernel_rfl
theorem tr3 (W : World) : Tr H enc Tryz.prog W 3 := tr_int Tryz.underlying3 cells_3
theorem tr27 (W : World) : Tr H enc Tryz.prog W 27 := tr_arr Tryz.underlying27 cells_3 cells_27 (tr3 W)
theorem tr28 (W : World) : Tr H enc Tryz.prog W 28 := tr_arr Tryz.underlying28 cells_3 cells_28 (tr3 W)
theorem tr29 (W : World) : Tr H enc Tryz.prog W 29 := tr_arr Tryz.underlying29 cells_28 cells_29 (tr28 W)
theorem tr31 (W : World) : Tr H enc Tryz.prog W 31 := fun fuel cs x h => by
  obtain ⟨xs, m, _, _, hl, hxl, hx⟩ := DataW.trod_struct Tryz.underlying31 h
  refine ⟨fun j hj => ?_, hl⟩
  have hxl' : xs.length = 9 := hxl
  rw [hl, cells_31] at hj
  have go : ∀ (i : Nat) (f : Field) (o s : Nat), i < 9 → f.offset = o → Tryz.prog.cellsOf f.type = s → Tr H enc Tryz.prog W f.type → DataW.trod enc Tryz.prog W 0 (fun _ => true) true m f.type ((cs.drop f.offset).take (Tryz.prog.cellsOf f.type)) = xs[i]? → o ≤ j → j < o + s → ∃ n : Int, cs[j]? = some (.int .i64 n) ∧ -9223372036854775808 ≤ n ∧ n ≤ 9223372036854775807 := by
    intro i f o s hi ho hs ht hf h1 h2
    rw [List.getElem?_eq_getElem (by omega)] at hf
    have := (ht _ _ _ hf).1
    rw [ho, hs] at this
    exact tr_part (ds := []) this h1 h2 (by rw [hl, cells_31]; exact hj)
  by_cases e0 : j < 1
  · exact go 0 _ 0 1 (by omega) rfl cells_3 (tr3 W) (hx 0 _ rfl) (by omega) (by omega)
  by_cases e1 : j < 2
  · exact go 1 _ 1 1 (by omega) rfl cells_3 (tr3 W) (hx 1 _ rfl) (by omega) (by omega)
  by_cases e2 : j < 18
  · exact go 2 _ 2 16 (by omega) rfl cells_27 (tr27 W) (hx 2 _ rfl) (by omega) (by omega)
  by_cases e3 : j < 26
  · exact go 3 _ 18 8 (by omega) rfl cells_28 (tr28 W) (hx 3 _ rfl) (by omega) (by omega)
  by_cases e4 : j < 90
  · exact go 4 _ 26 64 (by omega) rfl cells_29 (tr29 W) (hx 4 _ rfl) (by omega) (by omega)
  by_cases e5 : j < 91
  · exact go 5 _ 90 1 (by omega) rfl cells_3 (tr3 W) (hx 5 _ rfl) (by omega) (by omega)
  by_cases e6 : j < 92
  · exact go 6 _ 91 1 (by omega) rfl cells_3 (tr3 W) (hx 6 _ rfl) (by omega) (by omega)
  by_cases e7 : j < 93
  · exact go 7 _ 92 1 (by omega) rfl cells_3 (tr3 W) (hx 7 _ rfl) (by omega) (by omega)
  · exact go 8 _ 93 1 (by omega) rfl cells_3 (tr3 W) (hx 8 _ rfl) (by omega) (by omega)
theorem open_cfg {W : World} {base : Nat} {v : Value} {d : DataW H} {p : List MemPlace} (hv : Value.okWide Tryz.prog W .any base 31 v) (h : DataW.Trod enc Tryz.prog W 0 (fun _ => true) true 31 v d p) :
    ∃ c, v = cfgV c ∧ ∀ j, j < 94 → -9223372036854775808 ≤ c j ∧ c j ≤ 9223372036854775807 := by
  obtain ⟨cs, rfl, hsz⟩ := okWide_struct Tryz.underlying31 hv
  obtain ⟨fuel, hf⟩ := h
  obtain ⟨hi, hl⟩ := tr31 W _ _ _ hf
  have hcs : (Value.agg cs).cells = cs := rfl
  rw [hcs] at hi hl
  rw [cells_31] at hl
  have each : ∀ j, j < 94 → ∃ n : Int, cs.toList[j]? = some (.int .i64 n) ∧ -9223372036854775808 ≤ n ∧ n ≤ 9223372036854775807 := fun j hj => hi j (by omega)
  obtain ⟨f, hff⟩ : ∃ f : Nat → Int, ∀ j, j < 94 → cs.toList[j]? = some (.int .i64 (f j)) ∧ -9223372036854775808 ≤ f j ∧ f j ≤ 9223372036854775807 :=
    ⟨fun j => if h : j < 94 then (each j h).choose else 0, fun j hj => by simp only [hj, dif_pos]; exact (each j hj).choose_spec⟩
  refine ⟨f, ?_, fun j hj => (hff j hj).2⟩
  have : cs.toList = cfg f := runI_of hl fun j hj => (hff j hj).1
  show Value.agg cs = Value.agg (cfg f).toArray
  rw [← this]
end
def zi {H : Type} : DataW H := .lit (.int .i64 0)
def zeroCfg : Value := .agg (Array.replicate 94 (.int .i64 0))
def zeroCfgD {H : Type} : DataW H := .agg [zi, zi, .agg (List.replicate 16 zi), .agg (List.replicate 8 zi), .agg (List.replicate 8 (.agg (List.replicate 8 zi))), zi, zi, zi, zi]
def litV : DataW Unit → Value
  | .lit (.int k n) => .int k n
  | _ => .bool false
def aggV : DataW Unit → List Value
  | .agg xs => xs.map litV
  | _ => []
def putC (cs : List Value) : Obj → Obj
  | .cells _ t frozen => .cells cs.toArray t frozen
  | o => o
noncomputable def laidWorld (os : Os) : World :=
  { World.holding Tryz.prog os ⟨#[], #[], []⟩ with heap := ((World.holding Tryz.prog os ⟨#[], #[], []⟩).heap.modify 0 (putC (aggV Rows.laid_byre_api_Sizes))).modify 1 (putC (aggV Rows.laid_math_bits_deBruijn64tab)) }
theorem laid_met (os : Os) (args : Array Value) : laidMet Tryz.prog theLaid ((laidWorld os).forCall (fun _ _ => 0) ⟨#[], args, []⟩).memory :=
  laidMet_of_run' 8 (by kernel_rfl) (by kernel_rfl)
end Go.Proofs.YtklmokolnakkoaaGreatDoor
