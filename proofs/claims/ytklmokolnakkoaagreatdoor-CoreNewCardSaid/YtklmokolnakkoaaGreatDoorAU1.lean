/-
  A part of a proof that a law of this seat returns true at every input. Conditions: those in each theorem.
-/
import Derived.Test.YtklmokolnakkoaaGreatDoorX0
import Derived.Test.YtklmokolnakkoaaGreatDoorZC6
set_option linter.unusedSimpArgs false
set_option linter.unusedVariables false
namespace Go.Proofs.YtklmokolnakkoaaGreatDoor
open Go Eng
abbrev Rd (α : Type) := World → List Value → α → Prop
structure SlR {α : Type} (R : Rd α) (s : Nat) (w : World) (a : Option Addr) (l c : Nat) (xs : List α) : Prop where
  len : l = xs.length
  isp : 0 < l → isP a = true
  nil : a = none → c = 0
  lc : l ≤ c
  mx : c ≤ maxLen
  el : ∀ (i : Nat) (x : α), xs[i]? = some x → ∃ cs : List Value, cs.length = s ∧ R w cs x ∧ ∀ (j : Nat) (u : Value), cs[j]? = some u → rd w (pb a) (po a + i * s + j) = some u
def Stab {α : Type} (R : Rd α) : Prop := ∀ (w w' : World) (cs : List Value) (x : α), R w cs x → Kept none' w w' → R w' cs x
theorem SlR.k {α : Type} {R : Rd α} {s : Nat} {w w' : World} {a : Option Addr} {l c : Nat} {xs : List α} (h : SlR R s w a l c xs) (hs : Stab R) (k : Kept none' w w') : SlR R s w' a l c xs :=
  ⟨h.len, h.isp, h.nil, h.lc, h.mx, fun i x hx => by
    obtain ⟨cs, h1, h2, h3⟩ := h.el i x hx
    exact ⟨cs, h1, hs _ _ _ _ h2 k, fun j u hu => k.rd_some (h3 j u hu) id⟩⟩
theorem SlR.nil' {α : Type} {R : Rd α} {s : Nat} {w : World} : SlR R s w none 0 0 ([] : List α) :=
  ⟨rfl, fun h => absurd h (Nat.lt_irrefl _), fun _ => rfl, Nat.le_refl _, Nat.zero_le _, fun i x hx => by simp at hx⟩
def RL {α : Type} (R : Rd α) (s : Nat) : Rd (List α) := fun w cs xs => ∃ (a : Option Addr) (l c : Nat), cs = [.slice a l c] ∧ SlR R s w a l c xs
theorem RL.stab {α : Type} {R : Rd α} {s : Nat} (hs : Stab R) : Stab (RL R s) := fun w w' cs x h k => by
  obtain ⟨a, l, c, e, h⟩ := h
  exact ⟨a, l, c, e, h.k hs k⟩
structure Mark where
  role : Int
  order : Int
  owner : Int
  page : Int
  index : Int
deriving DecidableEq
structure Own where
  n : Int
  pid : Int
  page : Int
deriving DecidableEq
structure Mapped where
  page : Int
  kind : Int
  n : Int
deriving DecidableEq
structure Run where
  page : Int
  count : Int
  rights : Int
deriving DecidableEq
structure Proc where
  pid : Int
  root : Int
  leaves : List (Int × Int)
  pages : List Mapped
  pinned : List Int
  runs : List Run
structure Slab where
  node : Int
  cls : Int
  frame : Int
  colour : Int
  count : Int
  chain : List Int
  alive : List (Int × Int)
abbrev vi (n : Int) : Value := .int .i64 n
def RInt : Rd Int := fun _ cs n => cs = [vi n]
def RPair : Rd (Int × Int) := fun _ cs x => cs = [vi x.1, vi x.2]
def RAlive : Rd (Int × Int) := fun _ cs x => cs = [vi x.1, .int .u64 x.2]
def ROwn : Rd Own := fun _ cs x => cs = [vi x.n, vi x.pid, vi x.page]
def RMark : Rd Mark := fun _ cs x => cs = [.int .u8 x.role, vi x.order, vi x.owner, vi x.page, vi x.index]
def RMapped : Rd Mapped := fun _ cs x => cs = [vi x.page, .int .u8 x.kind, vi x.n]
def RRun : Rd Run := fun _ cs x => cs = [vi x.page, vi x.count, .int .u8 x.rights]
theorem stab_eq {α : Type} {f : α → List Value} : Stab (fun _ cs x => cs = f x) := fun _ _ _ _ h _ => h
theorem RInt.stab : Stab RInt := stab_eq
theorem RPair.stab : Stab RPair := stab_eq
theorem RAlive.stab : Stab RAlive := stab_eq
theorem ROwn.stab : Stab ROwn := stab_eq
theorem RMark.stab : Stab RMark := stab_eq
theorem RMapped.stab : Stab RMapped := stab_eq
theorem RRun.stab : Stab RRun := stab_eq
def RProc : Rd Proc := fun w cs p => ∃ (a1 : Option Addr) (l1 c1 : Nat) (a2 : Option Addr) (l2 c2 : Nat) (a3 : Option Addr) (l3 c3 : Nat) (a4 : Option Addr) (l4 c4 : Nat),
  cs = [vi p.pid, vi p.root, .slice a1 l1 c1, .slice a2 l2 c2, .slice a3 l3 c3, .slice a4 l4 c4] ∧ SlR RPair 2 w a1 l1 c1 p.leaves ∧ SlR RMapped 3 w a2 l2 c2 p.pages ∧ SlR RInt 1 w a3 l3 c3 p.pinned ∧ SlR RRun 3 w a4 l4 c4 p.runs
theorem RProc.stab : Stab RProc := fun w w' cs x h k => by
  obtain ⟨a1, l1, c1, a2, l2, c2, a3, l3, c3, a4, l4, c4, e, h1, h2, h3, h4⟩ := h
  exact ⟨a1, l1, c1, a2, l2, c2, a3, l3, c3, a4, l4, c4, e, h1.k RPair.stab k, h2.k RMapped.stab k, h3.k RInt.stab k, h4.k RRun.stab k⟩
def RSlab : Rd Slab := fun w cs p => ∃ (a1 : Option Addr) (l1 c1 : Nat) (a2 : Option Addr) (l2 c2 : Nat),
  cs = [vi p.node, vi p.cls, vi p.frame, vi p.colour, vi p.count, .slice a1 l1 c1, .slice a2 l2 c2] ∧ SlR RInt 1 w a1 l1 c1 p.chain ∧ SlR RAlive 2 w a2 l2 c2 p.alive
theorem RSlab.stab : Stab RSlab := fun w w' cs x h k => by
  obtain ⟨a1, l1, c1, a2, l2, c2, e, h1, h2⟩ := h
  exact ⟨a1, l1, c1, a2, l2, c2, e, h1.k RInt.stab k, h2.k RAlive.stab k⟩
structure Pic where
  c : Nat → Int
  marks : List Mark
  free : List (Int × Int)
  held : List (List Int)
  flying : List (List (Int × Int))
  flight : List Int
  procs : List Proc
  frames : List Own
  clocks : List (List Int)
  slots : List Own
  slabs : List Slab
  mags : List (List (List (Int × Int)))
  depots : List (List (List (Int × Int)))
  holders : List Int
structure PicS where
  a : Nat → Option Addr
  l : Nat → Nat
  c : Nat → Nat
def PicS.v (S : PicS) (i : Nat) : Value := .slice (S.a i) (S.l i) (S.c i)
structure PicR (w : World) (S : PicS) (x : Pic) : Prop where
  marks : SlR RMark 5 w (S.a 0) (S.l 0) (S.c 0) x.marks
  free : SlR RPair 2 w (S.a 1) (S.l 1) (S.c 1) x.free
  held : SlR (RL RInt 1) 1 w (S.a 2) (S.l 2) (S.c 2) x.held
  flying : SlR (RL RPair 2) 1 w (S.a 3) (S.l 3) (S.c 3) x.flying
  flight : SlR RInt 1 w (S.a 4) (S.l 4) (S.c 4) x.flight
  procs : SlR RProc 6 w (S.a 5) (S.l 5) (S.c 5) x.procs
  frames : SlR ROwn 3 w (S.a 6) (S.l 6) (S.c 6) x.frames
  clocks : SlR (RL RInt 1) 1 w (S.a 7) (S.l 7) (S.c 7) x.clocks
  slots : SlR ROwn 3 w (S.a 8) (S.l 8) (S.c 8) x.slots
  slabs : SlR RSlab 7 w (S.a 9) (S.l 9) (S.c 9) x.slabs
  mags : SlR (RL (RL RPair 2) 1) 1 w (S.a 10) (S.l 10) (S.c 10) x.mags
  depots : SlR (RL (RL RPair 2) 1) 1 w (S.a 11) (S.l 11) (S.c 11) x.depots
  holders : SlR RInt 1 w (S.a 12) (S.l 12) (S.c 12) x.holders
theorem PicR.k {w w' : World} {S : PicS} {x : Pic} (h : PicR w S x) (k : Kept none' w w') : PicR w' S x :=
  ⟨h.marks.k RMark.stab k, h.free.k RPair.stab k, h.held.k (RL.stab RInt.stab) k, h.flying.k (RL.stab RPair.stab) k, h.flight.k RInt.stab k, h.procs.k RProc.stab k, h.frames.k ROwn.stab k, h.clocks.k (RL.stab RInt.stab) k, h.slots.k ROwn.stab k, h.slabs.k RSlab.stab k, h.mags.k (RL.stab (RL.stab RPair.stab)) k, h.depots.k (RL.stab (RL.stab RPair.stab)) k, h.holders.k RInt.stab k⟩
end Go.Proofs.YtklmokolnakkoaaGreatDoor
set_option linter.unusedSimpArgs false
set_option linter.unusedVariables false
set_option maxRecDepth 100000
namespace Go.Proofs.YtklmokolnakkoaaGreatDoor
open Go Go.Eng
def markV (m : Mark) : List Value := [.int .u8 m.role, vi m.order, vi m.owner, vi m.page, vi m.index]
structure MemAt (w : World) (m bb mb : Nat) (c : Nat → Int) (n : Nat) (by' : Nat → Int) (mk : Nat → Mark) : Prop where
  so : own w m (cfg c ++ [.slice (some ⟨bb, 0, none⟩) (n * 256) (n * 256), .slice (some ⟨mb, 0, none⟩) n n])
  bs : own w bb (runI .u8 by' 0 (n * 256))
  ms : own w mb (rowL n fun i => markV (mk i))
  ne : m ≠ bb ∧ m ≠ mb ∧ bb ≠ mb
structure DevAt (w : World) (d db n : Nat) (f : Nat → Int) : Prop where
  so : own w d [.slice (some ⟨db, 0, none⟩) n n, .bool true]
  bs : own w db (runI .u8 f 0 (n * 256))
  ne : d ≠ db
def pairV (x : Int × Int) : List Value := [vi x.1, vi x.2]
def pgV (x : Int × Int) : Value := .agg #[vi x.1, vi x.2]
structure RmapAt (w : World) (r fb mb n : Nat) (of : Nat → Int × Int) (at' : List ((Int × Int) × Value)) : Prop where
  so : own w r [.slice (some ⟨fb, 0, none⟩) n n, .map (some mb)]
  fs : own w fb (rowL n fun i => pairV (of i))
  mp : MapG pgV w mb at'
  ne : r ≠ fb ∧ r ≠ mb ∧ fb ≠ mb
structure SlotsAt (w : World) (s fb n : Nat) (of : Nat → Int × Int) : Prop where
  so : own w s [.slice (some ⟨fb, 0, none⟩) n n, .bool true]
  fs : own w fb (rowL n fun i => pairV (of i))
  ne : s ≠ fb
def LocksAt (w : World) (l n : Nat) (h : Nat → Int) : Prop := own w l ([vi n] ++ (runI .i64 h 0 64 ++ [.bool true]))
theorem total_spec (c : Nat → Int) (hm : MayP c) (w : World) : Calls Tryz.prog 116 #[cfgV c] w fun e w' => e = .returned (.int .i64 (fstF c (c 0).toNat)) ∧ Kept none' w w' := by
  refine (vc116 c w (fun v w' => v = .int .i64 (fstF c (c 0).toNat) ∧ Kept none' w w') ?_).mono ?_
  rotate_left
  · rintro e w' ⟨v, rfl, rfl, hw⟩
    exact ⟨rfl, hw⟩
  have h0 := hm.1
  unfold vcP116
  intro w1 e1
  have o1 := own_alloc e1
  have k1 : Kept none' w w1 := (Kept.refl _ _).al e1
  generalize hb : w.heap.size = b at *
  refine ⟨c, o1.rIall, (may_spec c w1).mono ?_⟩
  rintro _ w2 ⟨mb, rfl, hmb, k2⟩
  have : mb = true := hmb.2 hm
  subst this
  have o2 := o1.k k2
  have hz : ∀ i, (c 0).toNat ≤ i → i < 8 → c (18 + i) = 0 := fun i h1 h2 => by
    rw [hm.2.2.2.1 (18 + i) (by omega)]
    unfold bareF
    rw [if_pos (by omega)]
  refine ⟨true, rfl, Wif_no rfl ⟨fun i => c (18 + i), o2.run 18 (fun j hj => runI_get _ _ _ _ _ (by omega) |>.trans (by rw [Nat.zero_add])), ?_⟩⟩
  refine ⟨fun s k w' N => ∃ q : Nat, k = q ∧ q ≤ 8 ∧ N = 8 - q ∧ Kept none' w w' ∧ s = fstF c (min q (c 0).toNat), ⟨8, 0, rfl, by omega, rfl, k1.tr k2, by simp [fstF]⟩, ?_⟩
  rintro _ _ w3 _ ⟨q, rfl, hq, rfl, k3, rfl⟩
  have hf0 := hm.fst (k := min q (c 0).toNat) (by omega)
  refine Wif_intro (fun hc => ?_) (fun hc => ?_)
  · simp only [decide_eq_true_eq] at hc
    have f1 := hm.fst (k := min (q + 1) (c 0).toNat) (by omega)
    have hc1 : fstF c (min q (c 0).toNat) + c (18 + q) = fstF c (min (q + 1) (c 0).toNat) := by
      rcases Nat.lt_or_ge q (c 0).toNat with h | h
      · rw [Nat.min_eq_left (by omega), Nat.min_eq_left (by omega)]; rfl
      · rw [Nat.min_eq_right h, Nat.min_eq_right (by omega), hz q h (by omega)]; omega
    refine Wif_yes (inB_of (by omega) (by omega)) ⟨c (18 + q), ?_, 8 - (q + 1), by omega, q + 1, by rw [wi (by omega)]; rfl, by omega, rfl, k3, by rw [hc1, wi (by omega)]⟩
    rw [Int.toNat_natCast, Nat.mul_one]
    match q, (show q < 8 by omega) with
    | 0, _ | 1, _ | 2, _ | 3, _ | 4, _ | 5, _ | 6, _ | 7, _ => rfl
  · have : q = 8 := by simp at hc; omega
    subst this
    rw [Nat.min_eq_right (by omega)]
    exact ⟨rfl, k3⟩
theorem MayP.tot {c : Nat → Int} (hm : MayP c) : 4 ≤ fstF c (c 0).toNat ∧ fstF c (c 0).toNat ≤ 1024 := by
  have h0 := hm.1
  have h1 := hm.fst (k := (c 0).toNat) (by omega)
  have h2 := fstF_mono hm (i := 1) (k := (c 0).toNat) (by omega) (by omega)
  have h3 := hm.fr (i := 0) (by omega)
  have : fstF c 1 = 0 + c (18 + 0) := rfl
  omega
def mark0 : Mark := ⟨1, 0, 0, 0, 0⟩
theorem mnew_spec (c : Nat → Int) (hm : MayP c) (w : World) : Calls Tryz.prog 33 #[cfgV c] w fun e w' => ∃ m bb mb, e = .returned (.tuple #[ptr m, vi 0]) ∧ Kept none' w w' ∧ MemAt w' m bb mb c (fstF c (c 0).toNat).toNat (fun _ => 0) (fun _ => mark0) ∧
    (w.heap.size ≤ m ∧ w.heap.size ≤ bb ∧ w.heap.size ≤ mb) := by
  refine (vc33 c w (fun v w' => ∃ m bb mb, v = (.tuple #[ptr m, vi 0]) ∧ Kept none' w w' ∧ MemAt w' m bb mb c (fstF c (c 0).toNat).toNat (fun _ => 0) (fun _ => mark0) ∧
    (w.heap.size ≤ m ∧ w.heap.size ≤ bb ∧ w.heap.size ≤ mb)) ?_).mono ?_
  rotate_left
  · rintro e w' ⟨v, rfl, m, bb, mb, rfl, hw⟩
    exact ⟨m, bb, mb, rfl, hw⟩
  have ht := hm.tot
  unfold vcP33
  intro w1 e1
  have o1 := own_alloc e1
  have k1 : Kept none' w w1 := (Kept.refl _ _).al e1
  have s1 : w1.heap.size = w.heap.size + 1 := by rw [e1]; simp only [World.alloc, Array.size_push]
  clear e1
  generalize hb : w.heap.size = b at *
  refine ⟨c, o1.rIall, (may_spec c w1).mono ?_⟩
  rintro _ w2 ⟨ok, rfl, hmb, k2⟩
  have : ok = true := hmb.2 hm
  subst this
  have o2 := o1.k k2
  refine ⟨true, rfl, Wif_no rfl ⟨c, o2.rIall, (total_spec c hm w2).mono ?_⟩⟩
  rintro _ w3 ⟨rfl, k3⟩
  have o3 := o2.k k3
  refine ⟨_, rfl, fun w4 e4 => ⟨c, (o3.dr e4).rIall, ?_⟩⟩
  have o4 := o3.dr e4
  have k4 : Kept none' w w4 := ((k1.tr k2).tr k3).dr e4
  clear e4 hmb
  generalize hN : fstF c (c 0).toNat = N at *
  obtain ⟨n, rfl⟩ : ∃ n : Nat, N = n := ⟨N.toNat, by omega⟩
  rw [wi (by omega)]
  have hs4 := k4.sz
  have hen : ((n : Int) * 256).toNat = n * 256 := by omega
  rw [hen]
  have ok : okMk 1 ((n : Int) * 256) ((n : Int) * 256) = true := okm_of (by omega) (by omega) (by omega)
  have er : List.replicate (n * 256) (Value.int IntKind.u8 0) = runI .u8 (fun _ => 0) 0 (n * 256) := runI_of (by simp) fun j hj => by simp [hj]
  rw [er]
  simp only [ok, Wif_true, and_true]
  have on : ∀ {w' w'' : World}, Kept none' w4 w' → rdAll w' b 0 (cfg c) := fun k => (o4.k k).rIall
  have M5 : ([Value.int .u8 1, .int .i64 0, .int .i64 0, .int .i64 0, .int .i64 0] : List Value) = markV mark0 := rfl
  have fin : ∀ {w5 w6 : World} {bb mb : Nat} (k : Kept none' w4 w5), own w5 bb (runI .u8 (fun _ => 0) 0 (n * 256)) → own w5 mb (rowL n fun _ => [Value.int .u8 1, .int .i64 0, .int .i64 0, .int .i64 0, .int .i64 0]) → w4.heap.size ≤ bb → w4.heap.size ≤ mb → bb ≠ mb →
      w6 = World.alloc w5 (Obj.cells (List.toArray (cfg c ++ [Value.slice (some (Addr.mk bb 0 none)) (n * 256) (n * 256), Value.slice (some (Addr.mk mb 0 none)) n n])) 140) →
      ∃ m bb' mb', (Value.tuple #[Value.pointer (some (Addr.mk w5.heap.size 0 none)), Value.int IntKind.i64 0]) = (.tuple #[ptr m, vi 0]) ∧ Kept none' w w6 ∧ MemAt w6 m bb' mb' c ((n : Int)).toNat (fun _ => 0) (fun _ => mark0) ∧ (b ≤ m ∧ b ≤ bb' ∧ b ≤ mb') := by
    intro w5 w6 bb mb k ob om hbb hmb hne e6
    have := ob.lt
    have := om.lt
    have := k.sz
    have k6 : Kept none' w5 w6 := (Kept.refl _ _).al e6
    refine ⟨_, bb, mb, rfl, (k4.tr k).tr k6, ?_, by omega, by omega, by omega⟩
    rw [Int.toNat_natCast]
    exact ⟨own_alloc e6, ob.k k6, om.k k6, by omega, by omega, hne⟩
  refine ⟨fun w5 e5 => ⟨(on (w'' := w4) ((Kept.refl _ _).al e5)), fun w6 e6 => ⟨on (w'' := w4) (((Kept.refl _ _).al e5).al e6), (rep_spec (n := n) rfl (by decide) (own_alloc e6) (by omega)).mono ?_⟩⟩, fun w5 e5 => ⟨on (w'' := w4) ((Kept.refl _ _).al e5), fun w6 e6 => ⟨on (w'' := w4) (((Kept.refl _ _).al e5).al e6), (rep_spec (n := n) rfl (by decide) ((own_alloc e5).al e6) (by omega)).mono ?_⟩, (rep_spec (n := n) rfl (by decide) (own_alloc e5) (by omega)).mono ?_⟩⟩
  · rintro _ w7 ⟨mb, hmb, rfl, om, k7⟩
    have k5 : Kept none' w4 w5 := (Kept.refl _ _).al e5
    have k6 : Kept none' w5 w6 := (Kept.refl _ _).al e6
    refine ⟨_, _, _, rfl, on (w'' := w4) ((k5.tr k6).tr k7), fun w8 e8 => fin ((k5.tr k6).tr k7) (((own_alloc e5).k k6).k k7) om (Nat.le_refl _) ?_ ?_ e8⟩
    · have := k5.sz; have := k6.sz; omega
    · have := (own_alloc e5).lt; have := k6.sz; omega
  · rintro _ w7 ⟨mb, hmb, rfl, om, k7⟩
    have k5 : Kept none' w4 w5 := (Kept.refl _ _).al e5
    have k6 : Kept none' w5 w6 := (Kept.refl _ _).al e6
    refine ⟨_, _, _, rfl, on (w'' := w4) ((k5.tr k6).tr k7), fun w8 e8 => fin ((k5.tr k6).tr k7) ((own_alloc e6).k k7) om k5.sz ?_ ?_ e8⟩
    · have := k5.sz; have := k6.sz; omega
    · have := (own_alloc e6).lt; omega
  · rintro _ w7 ⟨mb, hmb, rfl, om, k7⟩
    have k5 : Kept none' w4 w5 := (Kept.refl _ _).al e5
    refine ⟨_, _, _, rfl, on (w'' := w4) (k5.tr k7), fun w8 e8 => ⟨on (w'' := w4) ((k5.tr k7).al e8), fun w9 e9 => ?_⟩⟩
    have k8 : Kept none' w7 w8 := (Kept.refl _ _).al e8
    exact fin ((k5.tr k7).tr k8) (own_alloc e8) (om.k k8) (by have := k5.sz; have := k7.sz; omega) (by have := k5.sz; omega) (by have := om.lt; omega) e9
end Go.Proofs.YtklmokolnakkoaaGreatDoor
