/-
  A part of a proof that a law of this seat returns true at every input. Conditions: those in each theorem.
-/
import Derived.Test.YtikjgeenhbnkkaaGreatDoorAF1
import Derived.Test.YtikjgeenhbnkkaaGreatDoorAV9
set_option linter.unusedSimpArgs false
set_option linter.unusedVariables false
set_option maxRecDepth 100000
namespace Go.Proofs.YtikjgeenhbnkkaaGreatDoor
open Go Eng
theorem upd_any {P : Program} {mt kt vt : TypeId} (hm : P.underlying mt = some (.map kt vt)) (hk : P.underlying kt = some (.int .i64)) {w : World} {b : Nat} {m : List (Int × Value)} (h : MapIs w b m) (k : Int) (x : Value) (hr : -9223372036854775808 ≤ k ∧ k ≤ 9223372036854775807) :
    ∃ w' m', updIs P mt (.map (some b)) (.int .i64 k) x w w' ∧ MapIs w' b m' ∧ (∀ j, m'.lookup j = if j = k then some x else m.lookup j) ∧ m'.length = (if (m.lookup k).isSome then m.length else m.length + 1) ∧ Kept (· = b) w w' := by
  cases hl : m.lookup k with
  | none =>
    obtain ⟨w', h1, h2, h3⟩ := upd_new hm hk h k x hr hl
    refine ⟨w', _, h1, h2, fun j => ?_, by simp, h3⟩
    rw [List.lookup_append]
    by_cases hj : j = k
    · subst hj
      rw [hl]
      simp
    · rw [if_neg hj]
      cases m.lookup j with
      | some v => rfl
      | none =>
        have : (j == k) = false := by simpa using hj
        simp [List.lookup_cons, this]
  | some v =>
    obtain ⟨w', h1, h2, h3⟩ := upd_old hm hk h k x (by rw [hl]; rfl)
    refine ⟨w', _, h1, h2, fun j => ?_, by simp, h3⟩
    have key : ∀ (m : List (Int × Value)), (m.lookup k).isSome = true → (m.map fun p => if p.1 = k then (k, x) else p).lookup j = if j = k then some x else m.lookup j := by
      intro m
      induction m with
      | nil => intro h; cases h
      | cons p m ih =>
        obtain ⟨a, u⟩ := p
        intro h
        rw [List.map_cons, List.lookup_cons] at *
        by_cases hak : a = k
        · subst hak
          simp only [if_true]
          rw [List.lookup_cons]
          by_cases hj : j = a
          · subst hj; simp
          · have : (j == a) = false := by simpa using hj
            rw [this, if_neg hj]
            simp only [Bool.false_eq_true, if_false]
            have e : ∀ (m : List (Int × Value)), (m.map fun p => if p.1 = a then (a, x) else p).lookup j = m.lookup j := by
              intro m
              induction m with
              | nil => rfl
              | cons q m ih =>
                obtain ⟨c, d⟩ := q
                rw [List.map_cons]
                by_cases hc : c = a
                · subst hc
                  simp only [if_true]
                  rw [List.lookup_cons, List.lookup_cons, this]
                  exact ih
                · rw [if_neg hc, List.lookup_cons, List.lookup_cons, ih]
            exact e m
        · have h0 : (k == a) = false := by simpa using fun e => hak e.symm
          rw [h0] at h
          simp only [if_neg hak]
          rw [List.lookup_cons, ih (by simpa using h)]
          by_cases hj : j = a
          · subst hj
            simp [hak]
          · have : (j == a) = false := by simpa using hj
            rw [this]
    exact key m (by rw [hl]; rfl)
def freeA (L : List (Int × Int)) : List (Int × Int) := L.flatMap fun b => (List.range (2 ^ b.2.toNat)).map fun (i : Nat) => (b.1 + (i : Int), 0)
def heldA (L : List (List Int)) : List (Int × Int) := L.flatMap fun l => l.map fun f => (f, 1)
def procA (L : List Proc) : List (Int × Int) := L.flatMap fun p => (p.root, 2) :: p.leaves.map fun l => (l.2, 2)
def pageA (L : List Own) : List (Int × Int) := L.map fun o => (o.n, 3)
def slabA (L : List Slab) : List (Int × Int) := L.map fun s => (s.frame, 4)
def addsP (x : Pic) : List (Int × Int) := freeA x.free ++ heldA x.held ++ procA x.procs ++ pageA x.frames ++ slabA x.slabs
def gOf (A : List (Int × Int)) (f : Nat) : List Int := (A.filter fun p => decide (p.1 = (f : Int))).map Prod.snd
theorem gOf_len (A : List (Int × Int)) (f : Nat) : (gOf A f).length ≤ A.length := by
  unfold gOf
  rw [List.length_map]
  exact List.length_filter_le _ _
theorem gOf_snoc (A : List (Int × Int)) (f : Nat) (t : Int) : gOf (A ++ [((f : Int), t)]) = gadd (gOf A) f t := by
  funext i
  unfold gOf gadd
  rw [List.filter_append, List.map_append]
  by_cases h : i = f
  · subst h; simp
  · have : ¬ ((f : Int) = (i : Int)) := by omega
    simp [this, h]
def lastO (L : List Own) (f : Int) : Option Own := L.reverse.find? fun o => decide (o.n = f)
theorem lastO_snoc (L : List Own) (o : Own) (f : Int) : lastO (L ++ [o]) f = if f = o.n then some o else lastO L f := by
  unfold lastO
  rw [List.reverse_append]
  simp only [List.reverse_cons, List.reverse_nil, List.nil_append, List.singleton_append, List.find?_cons]
  by_cases h : f = o.n
  · subst h; simp
  · have : decide (o.n = f) = false := by simpa using fun e => h e.symm
    rw [this, if_neg h]
def ownV (o : Own) : Value := .agg #[vi o.n, vi o.pid, vi o.page]
structure CtOk (x : Pic) (n : Nat) : Prop where
  inr : ∀ p ∈ addsP x, 0 ≤ p.1 ∧ p.1 < n
  len : (addsP x).length ≤ 100000000
  ord : ∀ b ∈ x.free, 0 ≤ b.2 ∧ b.2 ≤ 10
  pid : ∀ p ∈ x.procs, 1 ≤ p.pid ∧ p.pid ≤ 8
  nd : (x.procs.map Proc.pid).Nodup
  pg : ∀ p ∈ x.procs, ∀ m ∈ p.pages, 0 ≤ m.page ∧ m.page < 1024
  big : n ≤ 1000000000
structure Ct (w0 : World) (TB om sm pm n : Nat) (w : World) (Z : Nat → Prop) (A : List (Int × Int)) (O L Q : List (Int × Value)) : Prop where
  ke : Kept (fun b => b = TB ∨ b = om ∨ b = sm ∨ b = pm) w0 w
  th : ThAt w TB Z n (gOf A)
  zz : ∀ b, b < w0.heap.size → b ≠ TB → Z b
  om : MapIs w om O
  sm : MapIs w sm L
  pm : MapIs w pm Q
def Z0 (w0 : World) (TB : Nat) : Nat → Prop := fun b => b < w0.heap.size ∧ b ≠ TB
section
variable {w0 w w' : World} {TB om sm pm n : Nat} {Z : Nat → Prop} {A : List (Int × Int)} {O L Q : List (Int × Value)}
theorem Ct.k (h : Ct w0 TB om sm pm n w Z A O L Q) (k : Kept none' w w') : Ct w0 TB om sm pm n w' Z A O L Q :=
  ⟨h.ke.trans k fun _ _ h => h.elim, h.th.k k, h.zz, h.om.k k, h.sm.k k, h.pm.k k⟩
theorem Ct.al {x : Obj} (h : Ct w0 TB om sm pm n w Z A O L Q) (k : Kept none' w w') (e : w' = w.alloc x) : Ct w0 TB om sm pm n w' (fun b => Z b ∨ b = w.heap.size) A O L Q :=
  ⟨h.ke.trans k fun _ _ h => h.elim, h.th.ext k (by rw [e]; simp only [World.alloc, Array.size_push]; omega), fun b hb hn => .inl (h.zz b hb hn), h.om.k k, h.sm.k k, h.pm.k k⟩
theorem Ct.kz {X : Nat → Prop} (h : Ct w0 TB om sm pm n w Z A O L Q) (k : Kept X w w') (hX : ∀ b, X b → Z b ∧ w0.heap.size ≤ b) (hm : om < w0.heap.size ∧ sm < w0.heap.size ∧ pm < w0.heap.size) : Ct w0 TB om sm pm n w' Z A O L Q :=
  ⟨h.ke.trans k fun b hb hx => by have := (hX b hx).2; omega, h.th.kx k fun b _ hx => (hX b hx).1, h.zz, h.om.kx k fun hx => by have := (hX _ hx).2; omega, h.sm.kx k fun hx => by have := (hX _ hx).2; omega, h.pm.kx k fun hx => by have := (hX _ hx).2; omega⟩
theorem Ct.weak (h : Ct w0 TB om sm pm n w Z A O L Q) {Z' : Nat → Prop} (hz : ∀ b, Z' b → Z b) (h0 : ∀ b, b < w0.heap.size → b ≠ TB → Z' b) : Ct w0 TB om sm pm n w Z' A O L Q :=
  ⟨h.ke, h.th.weak hz, h0, h.om, h.sm, h.pm⟩
end
structure LkIs (w0 : World) (S : PicS) (TB om sm pm kb k n : Nat) : Prop where
  sl : ∀ i, i < 13 → rd w0 k (94 + i) = some (S.v i)
  th : rd w0 k 107 = some (.slice (some ⟨TB, 0, none⟩) n n)
  ow : rd w0 k 108 = some (.map (some om))
  sb : rd w0 k 109 = some (.map (some sm))
  pr : rd w0 k 110 = some (.map (some pm))
  bx : rd w0 kb 0 = some (pt k)
  ne : k ≠ TB ∧ k ≠ om ∧ k ≠ sm ∧ k ≠ pm ∧ kb ≠ TB ∧ kb ≠ om ∧ kb ≠ sm ∧ kb ≠ pm ∧ TB ≠ om ∧ TB ≠ sm ∧ TB ≠ pm ∧ om ≠ sm ∧ om ≠ pm ∧ sm ≠ pm
  lt : TB < w0.heap.size ∧ om < w0.heap.size ∧ sm < w0.heap.size ∧ pm < w0.heap.size
section
variable {w0 w w' : World} {S : PicS} {TB om sm pm kb k n : Nat} {Z : Nat → Prop} {A : List (Int × Int)} {O L Q : List (Int × Value)}
theorem LkIs.rd (h : LkIs w0 S TB om sm pm kb k n) (c : Ct w0 TB om sm pm n w Z A O L Q) {o : Nat} {v : Value} (hr : Eng.rd w0 k o = some v) : Eng.rd w k o = some v :=
  c.ke.rd_some hr (by have := h.ne; omega)
theorem LkIs.rb (h : LkIs w0 S TB om sm pm kb k n) (c : Ct w0 TB om sm pm n w Z A O L Q) : Eng.rd w kb 0 = some (pt k) :=
  c.ke.rd_some h.bx (by have := h.ne; omega)
theorem LkIs.add (h : LkIs w0 S TB om sm pm kb k n) (c : Ct w0 TB om sm pm n w Z A O L Q) {f t : Int} (hf : 0 ≤ f ∧ f < n) (hl : A.length ≤ 100000000) :
    Calls Tryz.prog 56 #[vi f, vi t, pt kb] w fun e w' => e = .returned (.tuple #[]) ∧ Ct w0 TB om sm pm n w' Z (A ++ [(f, t)]) O L Q ∧ Kept (fun b => ¬ Z b) w w' := by
  obtain ⟨f, rfl⟩ : ∃ g : Nat, f = g := ⟨f.toNat, by omega⟩
  have hn := h.ne
  have hlt := h.lt
  refine (add_spec (f := f) (t := t) c.th (c.zz k (rd_lt h.th) hn.1) (c.zz kb (rd_lt h.bx) hn.2.2.2.2.1) (h.rb c) (h.rd c h.th) (by omega) (by have := gOf_len A f; omega)).mono ?_
  rintro e w1 ⟨rfl, th, k1⟩
  have hom := c.zz om hlt.2.1 (by omega)
  have hsm := c.zz sm hlt.2.2.1 (by omega)
  have hpm := c.zz pm hlt.2.2.2 (by omega)
  refine ⟨rfl, ⟨?_, by rw [gOf_snoc]; exact th, c.zz, c.om.kx k1 fun h => h hom, c.sm.kx k1 fun h => h hsm, c.pm.kx k1 fun h => h hpm⟩, k1⟩
  exact c.ke.trans k1 fun b hb hz => by
    by_cases hbT : b = TB
    · exact .inl hbT
    · exact absurd (c.zz b hb hbT) hz
end
structure Book (wP w0 w : World) (Z : Nat → Prop) (b : Nat) (p : Proc) : Prop where
  ex : ∃ (cs : List Value) (mm : Nat) (MM : List (Int × Value)), RProc wP cs p ∧ cs.length = 6 ∧ own w b (cs ++ [.map (some mm)]) ∧ MapIs w mm MM ∧ MM.length ≤ p.pages.length ∧ (MM.length = p.pages.length ↔ (p.pages.map Mapped.page).Nodup) ∧ Z b ∧ Z mm ∧ w0.heap.size ≤ b ∧ w0.heap.size ≤ mm
theorem Book.kx {X : Nat → Prop} {wP w0 w w' : World} {Z : Nat → Prop} {b : Nat} {p : Proc} (h : Book wP w0 w Z b p) (k : Kept X w w') (hX : ∀ b, X b → Z b → w0.heap.size ≤ b → False) : Book wP w0 w' Z b p := by
  obtain ⟨cs, mm, MM, h1, h2, h3, h4, h5, h6, h7, h8, h9, h10⟩ := h.ex
  exact ⟨cs, mm, MM, h1, h2, h3.kx k fun hx => hX _ hx h7 h9, h4.kx k fun hx => hX _ hx h8 h10, h5, h6, h7, h8, h9, h10⟩
theorem Book.z {wP w0 w : World} {Z Z' : Nat → Prop} {b : Nat} {p : Proc} (h : Book wP w0 w Z b p) (hz : ∀ b, Z b → Z' b) : Book wP w0 w Z' b p := by
  obtain ⟨cs, mm, MM, h1, h2, h3, h4, h5, h6, h7, h8, h9, h10⟩ := h.ex
  exact ⟨cs, mm, MM, h1, h2, h3, h4, h5, h6, hz _ h7, hz _ h8, h9, h10⟩
def Books (wP w0 w : World) (Z : Nat → Prop) (Q : List (Int × Value)) (ps : List Proc) : Prop :=
  (∀ p ∈ ps, ∃ b, Q.lookup p.pid = some (pt b) ∧ Book wP w0 w Z b p) ∧ ∀ i v, Q.lookup i = some v → ∃ p ∈ ps, p.pid = i
theorem Books.kx {X : Nat → Prop} {wP w0 w w' : World} {Z : Nat → Prop} {Q : List (Int × Value)} {ps : List Proc} (h : Books wP w0 w Z Q ps) (k : Kept X w w') (hX : ∀ b, X b → Z b → w0.heap.size ≤ b → False) : Books wP w0 w' Z Q ps :=
  ⟨fun p hp => by obtain ⟨b, h1, h2⟩ := h.1 p hp; exact ⟨b, h1, h2.kx k hX⟩, h.2⟩
theorem Books.z {wP w0 w : World} {Z Z' : Nat → Prop} {Q : List (Int × Value)} {ps : List Proc} (h : Books wP w0 w Z Q ps) (hz : ∀ b, Z b → Z' b) : Books wP w0 w Z' Q ps :=
  ⟨fun p hp => by obtain ⟨b, h1, h2⟩ := h.1 p hp; exact ⟨b, h1, h2.z hz⟩, h.2⟩
def OwnM (O : List (Int × Value)) (L : List Own) : Prop := ∀ f, O.lookup f = (lastO L f).map ownV
def SlabM (M : List (Int × Value)) (L : List Slab) : Prop :=
  (∀ s ∈ L, ∃ (a1 : Option Addr) (l1 c1 : Nat) (a2 : Option Addr) (l2 c2 : Nat), M.lookup s.frame = some (.agg #[vi s.node, vi s.cls, vi s.frame, vi s.colour, vi s.count, .slice a1 l1 c1, .slice a2 l2 c2])) ∧ ∀ f v, M.lookup f = some v → ∃ s ∈ L, s.frame = f
end Go.Proofs.YtikjgeenhbnkkaaGreatDoor
set_option linter.unusedSimpArgs false
set_option linter.unusedVariables false
set_option maxRecDepth 100000
namespace Go.Proofs.YtikjgeenhbnkkaaGreatDoor
open Go Eng
theorem fm_take {α β : Type} {f : α → List β} {L : List α} {q : Nat} {x : α} (h : L[q]? = some x) : (L.take (q + 1)).flatMap f = (L.take q).flatMap f ++ f x := by
  rw [List.take_add_one, h, List.flatMap_append]
  simp
theorem fm_len {α β : Type} {f : α → List β} (L : List α) (q : Nat) : ((L.take q).flatMap f).length ≤ (L.flatMap f).length := by
  conv => rhs; rw [← List.take_append_drop q L, List.flatMap_append, List.length_append]
  omega
theorem take_snoc {α : Type} {L : List α} {q : Nat} {x : α} (h : L[q]? = some x) : L.take (q + 1) = L.take q ++ [x] := by rw [List.take_add_one, h]; rfl
section
variable {wP w0 w' : World} {S : PicS} {x : Pic} {TB om sm pm k kb n : Nat} {Z : Nat → Prop} {A : List (Int × Int)} {O L Q : List (Int × Value)}
theorem slabs_tail (lk : LkIs w0 S TB om sm pm kb k n) (hP : PicR wP S x) (kP : Kept none' wP w0) (hnew : wP.heap.size ≤ TB ∧ wP.heap.size ≤ om ∧ wP.heap.size ≤ sm ∧ wP.heap.size ≤ pm)
    (hin : ∀ p ∈ slabA x.slabs, 0 ≤ p.1 ∧ p.1 < n) (hbig : n ≤ 1000000000) (hl : A.length + (slabA x.slabs).length ≤ 100000000) (hnd : (x.slabs.map Slab.frame).Nodup) (hB : Books wP w0 w' Z Q x.procs) (c : Ct w0 TB om sm pm n w' Z A O [] Q) {K : Value → World → Prop}
    (hK : ∀ w' Z L, Ct w0 TB om sm pm n w' Z (A ++ slabA x.slabs) O L Q → SlabM L x.slabs → Books wP w0 w' Z Q x.procs → K (.tuple #[]) w') :
    (∃ (x : Option Addr), rd w' kb 0 = some (Value.pointer x) ∧ Wif (isP x) (∃ (x_13 : Option Addr), ∃ (x_14 : Nat), ∃ (x_15 : Nat), rd w' (pb x) (po x + 103) = some (Value.slice x_13 x_14 x_15) ∧ ∃ (I : Int → World → Nat → Prop), (∃ (n : Nat), I 0 w' n) ∧ ∀ (n : Int) (w' : World) (n_5 : Nat), I n w' n_5 → Wif (decide (n < (↑x_14 : Int))) (Wif (isP x_13) (Wif (inB n x_14) (∃ (x : Int), ∃ (x_16 : Int), ∃ (x_17 : Int), ∃ (x_18 : Int), ∃ (x_19 : Int), ∃ (x_20 : Option Addr), ∃ (x_21 : Nat), ∃ (x_22 : Nat), ∃ (x_23 : Option Addr), ∃ (x_24 : Nat), ∃ (x_25 : Nat), (rd w' (pb x_13) (po x_13 + Int.toNat n * 7) = some (Value.int IntKind.i64 x) ∧ rd w' (pb x_13) (po x_13 + Int.toNat n * 7 + 1) = some (Value.int IntKind.i64 x_16) ∧ rd w' (pb x_13) (po x_13 + Int.toNat n * 7 + 2) = some (Value.int IntKind.i64 x_17) ∧ rd w' (pb x_13) (po x_13 + Int.toNat n * 7 + 3) = some (Value.int IntKind.i64 x_18) ∧ rd w' (pb x_13) (po x_13 + Int.toNat n * 7 + 4) = some (Value.int IntKind.i64 x_19) ∧ rd w' (pb x_13) (po x_13 + Int.toNat n * 7 + 5) = some (Value.slice x_20 x_21 x_22) ∧ rd w' (pb x_13) (po x_13 + Int.toNat n * 7 + 6) = some (Value.slice x_23 x_24 x_25)) ∧ ∀ (w'_1 : World), w'_1 = World.alloc w' (Obj.cells #[Value.int IntKind.i64 0, Value.int IntKind.i64 0, Value.int IntKind.i64 0, Value.int IntKind.i64 0, Value.int IntKind.i64 0, Value.slice none 0 0, Value.slice none 0 0] 55) → (wr w'_1 (Array.size (World.heap w')) 0 ∧ wr w'_1 (Array.size (World.heap w')) 1 ∧ wr w'_1 (Array.size (World.heap w')) 2 ∧ wr w'_1 (Array.size (World.heap w')) 3 ∧ wr w'_1 (Array.size (World.heap w')) 4 ∧ wr w'_1 (Array.size (World.heap w')) 5 ∧ wr w'_1 (Array.size (World.heap w')) 6) ∧ ∀ (w'_2 : World), w'_2 = st (st (st (st (st (st (st w'_1 (Array.size (World.heap w')) 0 (Value.int IntKind.i64 x)) (Array.size (World.heap w')) 1 (Value.int IntKind.i64 x_16)) (Array.size (World.heap w')) 2 (Value.int IntKind.i64 x_17)) (Array.size (World.heap w')) 3 (Value.int IntKind.i64 x_18)) (Array.size (World.heap w')) 4 (Value.int IntKind.i64 x_19)) (Array.size (World.heap w')) 5 (Value.slice x_20 x_21 x_22)) (Array.size (World.heap w')) 6 (Value.slice x_23 x_24 x_25) → ∃ (x : Int), rd w'_2 (Array.size (World.heap w')) 2 = some (Value.int IntKind.i64 x) ∧ Calls Proofs.Tryz.prog 56 #[Value.int IntKind.i64 x, Value.int IntKind.i64 4, Value.pointer (some (Addr.mk kb 0 none))] w'_2 fun (e : Ending) (w'_3 : World) => e = Ending.returned (Value.tuple #[]) ∧ ∀ (w1 : World), w1 = World.drew w'_3 → ∃ (x : Option Addr), rd w1 kb 0 = some (Value.pointer x) ∧ Wif (isP x) (∃ (x_26 : Option Nat), rd w1 (pb x) (po x + 109) = some (Value.map x_26) ∧ ∃ (x : Int), rd w1 (Array.size (World.heap w')) 2 = some (Value.int IntKind.i64 x) ∧ ∃ (x_27 : Int), ∃ (x_28 : Int), ∃ (x_29 : Int), ∃ (x_30 : Int), ∃ (x_31 : Int), ∃ (x_32 : Option Addr), ∃ (x_33 : Nat), ∃ (x_34 : Nat), ∃ (x_35 : Option Addr), ∃ (x_36 : Nat), ∃ (x_37 : Nat), (rd w1 (Array.size (World.heap w')) 0 = some (Value.int IntKind.i64 x_27) ∧ rd w1 (Array.size (World.heap w')) 1 = some (Value.int IntKind.i64 x_28) ∧ rd w1 (Array.size (World.heap w')) 2 = some (Value.int IntKind.i64 x_29) ∧ rd w1 (Array.size (World.heap w')) 3 = some (Value.int IntKind.i64 x_30) ∧ rd w1 (Array.size (World.heap w')) 4 = some (Value.int IntKind.i64 x_31) ∧ rd w1 (Array.size (World.heap w')) 5 = some (Value.slice x_32 x_33 x_34) ∧ rd w1 (Array.size (World.heap w')) 6 = some (Value.slice x_35 x_36 x_37)) ∧ ∃ (w' : World), updIs Proofs.Tryz.prog 87 (Value.map x_26) (Value.int IntKind.i64 x) (Value.agg #[Value.int IntKind.i64 x_27, Value.int IntKind.i64 x_28, Value.int IntKind.i64 x_29, Value.int IntKind.i64 x_30, Value.int IntKind.i64 x_31, Value.slice x_32 x_33 x_34, Value.slice x_35 x_36 x_37]) w1 w' ∧ ∃ (m : Nat), Nat.succ m ≤ n_5 ∧ I (IntKind.wrap IntKind.i64 (n + 1)) w' m) False) False) False) (K (Value.tuple #[]) w')) False) := by
  have hPk : ∀ {w1 : World} {Z : Nat → Prop} {A : List (Int × Int)} {O L Q : List (Int × Value)}, Ct w0 TB om sm pm n w1 Z A O L Q → Kept none' wP w1 := fun c => own0 kP c.ke fun b hb => by omega
  have hne := lk.ne
  have hmm := lk.lt.2
  have hlen := hP.slabs.len
  have hlm := hP.slabs.lt63
  refine ⟨some ⟨k, 0, none⟩, lk.rb c, Wif_yes rfl ⟨S.a 9, S.l 9, S.c 9, lk.rd c (lk.sl 9 (by decide)), fun m w' M => ∃ (q : Nat) (L : List (Int × Value)), m = (q : Int) ∧ q ≤ x.slabs.length ∧ M = x.slabs.length - q ∧ Ct w0 TB om sm pm n w' Z (A ++ slabA (x.slabs.take q)) O L Q ∧ SlabM L (x.slabs.take q) ∧ Books wP w0 w' Z Q x.procs, ⟨x.slabs.length, 0, [], rfl, by omega, rfl, by simpa [slabA] using c, ⟨fun s hs => by simp at hs, fun f v hv => by simp at hv⟩, hB⟩, ?_⟩⟩
  rintro _ w1 _ ⟨q, L, rfl, hq, rfl, c1, hL, hB1⟩
  refine Wif_intro (fun hc => ?_) (fun hc => ?_)
  · have hql : q < x.slabs.length := by simp at hc; omega
    obtain ⟨s, hs⟩ : ∃ s, x.slabs[q]? = some s := ⟨x.slabs[q], List.getElem?_eq_getElem hql⟩
    obtain ⟨cs, _, hR, hr⟩ := hP.slabs.el q s hs
    obtain ⟨a1, l1, c1', a2, l2, c2', rfl, hx1, hx2⟩ := hR
    have hr : ∀ (j : Nat) (u : Value), _ → rd w1 (pb (S.a 9)) (po (S.a 9) + q * 7 + j) = some u := fun j u hu => (hPk c1).rd_some (hr j u hu) id
    refine Wif_yes (hP.slabs.isp (by omega)) (Wif_yes (inB_of (by omega) (by omega)) ?_)
    rw [Int.toNat_natCast]
    refine ⟨_, _, _, _, _, _, _, _, _, _, _, ⟨hr 0 _ rfl, hr 1 _ rfl, hr 2 _ rfl, hr 3 _ rfl, hr 4 _ rfl, hr 5 _ rfl, hr 6 _ rfl⟩, ?_⟩
    intro w2 e2
    have o2 := own_alloc (c := [vi 0, vi 0, vi 0, vi 0, vi 0, .slice none 0 0, .slice none 0 0]) e2
    have k2 : Kept none' w1 w2 := (Kept.refl _ _).al e2
    have c2 := c1.al k2 e2
    have hge : w0.heap.size ≤ w1.heap.size := c1.ke.sz
    refine ⟨⟨o2.wr (by decide), o2.wr (by decide), o2.wr (by decide), o2.wr (by decide), o2.wr (by decide), o2.wr (by decide), o2.wr (by decide)⟩, ?_⟩
    intro w3 e3
    have o3 : own w3 w1.heap.size [vi s.node, vi s.cls, vi s.frame, vi s.colour, vi s.count, .slice a1 l1 c1', .slice a2 l2 c2'] := by
      rw [e3]; exact ((((((o2.st_same).st_same).st_same).st_same).st_same).st_same).st_same
    have k3 : Kept (· = w1.heap.size) w2 w3 := by
      rw [e3]; exact (((((((Kept.refl (· = w1.heap.size) w2).st (.inl rfl)).st (.inl rfl)).st (.inl rfl)).st (.inl rfl)).st (.inl rfl)).st (.inl rfl)).st (.inl rfl)
    have c3 := c2.kz k3 (fun b hb => ⟨.inr hb, by omega⟩) hmm
    have hB3 := (hB1.kx k2 fun b h => h.elim).kx k3 fun b hb hz => by
      have := c1.th.lt b hz; omega
    have hfm : (s.frame, (4 : Int)) ∈ slabA x.slabs := List.mem_map.2 ⟨s, List.mem_of_getElem? hs, rfl⟩
    have hfr := hin _ hfm
    dsimp only at hfr
    have e1 := take_snoc hs
    have e4 : slabA (x.slabs.take (q + 1)) = slabA (x.slabs.take q) ++ [(s.frame, 4)] := by rw [e1]; simp [slabA]
    have hl1 : (slabA (x.slabs.take q)).length ≤ (slabA x.slabs).length := by simp [slabA]; omega
    refine ⟨s.frame, by rw [o3.rd]; rfl, (lk.add c3 hfr (by rw [List.length_append]; omega)).mono ?_⟩
    rintro _ w4 ⟨rfl, c4, k4⟩
    refine ⟨rfl, ?_⟩
    intro w5 e5
    have k45 : Kept none' w4 w5 := (Kept.refl _ _).dr e5
    have c5 := c4.k k45
    have o5 := (o3.kx k4 fun h => h (.inr rfl)).k k45
    have hB5 := ((hB3.z fun b hb => .inl hb).kx k4 fun b hb hz _ => hb hz).kx k45 fun b h => h.elim
    refine ⟨some ⟨k, 0, none⟩, lk.rb c5, Wif_yes rfl ⟨some sm, lk.rd c5 lk.sb, s.frame, by rw [o5.rd]; rfl, _, _, _, _, _, _, _, _, _, _, _, ⟨by rw [o5.rd]; rfl, by rw [o5.rd]; rfl, by rw [o5.rd]; rfl, by rw [o5.rd]; rfl, by rw [o5.rd]; rfl, by rw [o5.rd]; rfl, by rw [o5.rd]; rfl⟩, ?_⟩⟩
    obtain ⟨w6, M', hu, hM', hlk, _, k6⟩ := upd_any (P := Tryz.prog) (mt := 87) (vt := 55) (kt := 3) rfl rfl c5.sm s.frame (.agg #[vi s.node, vi s.cls, vi s.frame, vi s.colour, vi s.count, .slice a1 l1 c1', .slice a2 l2 c2']) (by omega)
    have hlt := lk.lt
    refine ⟨w6, hu, x.slabs.length - (q + 1), by omega, q + 1, M', by rw [wi (by omega)]; rfl, by omega, rfl, ?_, ⟨fun t ht => ?_, fun f v hv => ?_⟩, ?_⟩
    · have c6 : Ct w0 TB om sm pm n w6 (fun b => Z b ∨ b = w1.heap.size) (A ++ slabA (x.slabs.take q) ++ [(s.frame, 4)]) O M' Q :=
        ⟨c5.ke.trans k6 fun b hb hx => by subst hx; simp, c5.th.kx k6 fun b _ hx => by subst hx; exact c5.zz _ hmm.2.1 (by omega), c5.zz, c5.om.kx k6 (by omega), hM', c5.pm.kx k6 (by omega)⟩
      rw [e4, ← List.append_assoc]
      exact c6.weak (fun b hb => .inl hb) c1.zz
    · rw [e1] at ht
      rcases List.mem_append.1 ht with ht | ht
      · rw [hlk]
        have hne2 : t.frame ≠ s.frame := by
          intro e
          rw [← List.take_append_drop (q + 1) x.slabs, e1, List.map_append, List.map_append] at hnd
          have h1 := (List.nodup_append.1 hnd).1
          exact (List.nodup_append.1 h1).2.2 t.frame (List.mem_map.2 ⟨t, ht, rfl⟩) s.frame (by simp) e
        rw [if_neg hne2]
        exact hL.1 t ht
      · have : t = s := by simpa using ht
        subst this
        exact ⟨a1, l1, c1', a2, l2, c2', by rw [hlk, if_pos rfl]⟩
    · rw [hlk] at hv
      split at hv
      · rename_i hf
        exact ⟨s, by rw [e1]; simp, hf.symm⟩
      · obtain ⟨t, h1, h2⟩ := hL.2 f v hv
        exact ⟨t, by rw [e1]; simp [h1], h2⟩
    · -- the books lie in Z itself
      have k46 : Kept (fun b => ¬ (Z b ∨ b = w1.heap.size) ∨ b = sm) w3 w6 := ((k4.mono fun b _ hb => .inl hb).trans (X := fun b => ¬ (Z b ∨ b = w1.heap.size) ∨ b = sm) k45 fun b _ h => h.elim).trans k6 fun b _ h => .inr h
      exact hB3.kx k46 fun b hb hz hge => by
        rcases hb with hb | hb
        · exact hb (.inl hz)
        · omega
  · have hql : q = x.slabs.length := by simp at hc; omega
    subst hql
    rw [List.take_length] at c1 hL
    exact hK _ _ _ c1 hL hB1
theorem frames_tail (lk : LkIs w0 S TB om sm pm kb k n) (hP : PicR wP S x) (kP : Kept none' wP w0) (hnew : wP.heap.size ≤ TB ∧ wP.heap.size ≤ om ∧ wP.heap.size ≤ sm ∧ wP.heap.size ≤ pm)
    (hin : ∀ p ∈ pageA x.frames, 0 ≤ p.1 ∧ p.1 < n) (hinS : ∀ p ∈ slabA x.slabs, 0 ≤ p.1 ∧ p.1 < n) (hbig : n ≤ 1000000000) (hl : A.length + (pageA x.frames).length + (slabA x.slabs).length ≤ 100000000) (hnd : (x.slabs.map Slab.frame).Nodup) (hB : Books wP w0 w' Z Q x.procs) (c : Ct w0 TB om sm pm n w' Z A [] [] Q) {K : Value → World → Prop}
    (hK : ∀ w' Z O L, Ct w0 TB om sm pm n w' Z (A ++ pageA x.frames ++ slabA x.slabs) O L Q → OwnM O x.frames → SlabM L x.slabs → Books wP w0 w' Z Q x.procs → K (.tuple #[]) w') :
    (∃ (x : Option Addr), rd w' kb 0 = some (Value.pointer x) ∧ Wif (isP x) (∃ (x_10 : Option Addr), ∃ (x_11 : Nat), ∃ (x_12 : Nat), rd w' (pb x) (po x + 100) = some (Value.slice x_10 x_11 x_12) ∧ ∃ (I : Int → World → Nat → Prop), (∃ (n : Nat), I 0 w' n) ∧ ∀ (n : Int) (w' : World) (n_4 : Nat), I n w' n_4 → Wif (decide (n < (↑x_11 : Int))) (Wif (isP x_10) (Wif (inB n x_11) (∃ (x : Int), ∃ (x_13 : Int), ∃ (x_14 : Int), (rd w' (pb x_10) (po x_10 + Int.toNat n * 3) = some (Value.int IntKind.i64 x) ∧ rd w' (pb x_10) (po x_10 + Int.toNat n * 3 + 1) = some (Value.int IntKind.i64 x_13) ∧ rd w' (pb x_10) (po x_10 + Int.toNat n * 3 + 2) = some (Value.int IntKind.i64 x_14)) ∧ ∀ (w'_1 : World), w'_1 = World.alloc w' (Obj.cells #[Value.int IntKind.i64 0, Value.int IntKind.i64 0, Value.int IntKind.i64 0] 63) → (wr w'_1 (Array.size (World.heap w')) 0 ∧ wr w'_1 (Array.size (World.heap w')) 1 ∧ wr w'_1 (Array.size (World.heap w')) 2) ∧ ∀ (w'_2 : World), w'_2 = st (st (st w'_1 (Array.size (World.heap w')) 0 (Value.int IntKind.i64 x)) (Array.size (World.heap w')) 1 (Value.int IntKind.i64 x_13)) (Array.size (World.heap w')) 2 (Value.int IntKind.i64 x_14) → ∃ (x : Int), rd w'_2 (Array.size (World.heap w')) 0 = some (Value.int IntKind.i64 x) ∧ Calls Proofs.Tryz.prog 56 #[Value.int IntKind.i64 x, Value.int IntKind.i64 3, Value.pointer (some (Addr.mk kb 0 none))] w'_2 fun (e : Ending) (w'_3 : World) => e = Ending.returned (Value.tuple #[]) ∧ ∀ (w1 : World), w1 = World.drew w'_3 → ∃ (x : Option Addr), rd w1 kb 0 = some (Value.pointer x) ∧ Wif (isP x) (∃ (x_15 : Option Nat), rd w1 (pb x) (po x + 108) = some (Value.map x_15) ∧ ∃ (x : Int), rd w1 (Array.size (World.heap w')) 0 = some (Value.int IntKind.i64 x) ∧ ∃ (x_16 : Int), ∃ (x_17 : Int), ∃ (x_18 : Int), (rd w1 (Array.size (World.heap w')) 0 = some (Value.int IntKind.i64 x_16) ∧ rd w1 (Array.size (World.heap w')) 1 = some (Value.int IntKind.i64 x_17) ∧ rd w1 (Array.size (World.heap w')) 2 = some (Value.int IntKind.i64 x_18)) ∧ ∃ (w' : World), updIs Proofs.Tryz.prog 86 (Value.map x_15) (Value.int IntKind.i64 x) (Value.agg #[Value.int IntKind.i64 x_16, Value.int IntKind.i64 x_17, Value.int IntKind.i64 x_18]) w1 w' ∧ ∃ (m : Nat), Nat.succ m ≤ n_4 ∧ I (IntKind.wrap IntKind.i64 (n + 1)) w' m) False) False) False) (∃ (x : Option Addr), rd w' kb 0 = some (Value.pointer x) ∧ Wif (isP x) (∃ (x_13 : Option Addr), ∃ (x_14 : Nat), ∃ (x_15 : Nat), rd w' (pb x) (po x + 103) = some (Value.slice x_13 x_14 x_15) ∧ ∃ (I : Int → World → Nat → Prop), (∃ (n : Nat), I 0 w' n) ∧ ∀ (n : Int) (w' : World) (n_5 : Nat), I n w' n_5 → Wif (decide (n < (↑x_14 : Int))) (Wif (isP x_13) (Wif (inB n x_14) (∃ (x : Int), ∃ (x_16 : Int), ∃ (x_17 : Int), ∃ (x_18 : Int), ∃ (x_19 : Int), ∃ (x_20 : Option Addr), ∃ (x_21 : Nat), ∃ (x_22 : Nat), ∃ (x_23 : Option Addr), ∃ (x_24 : Nat), ∃ (x_25 : Nat), (rd w' (pb x_13) (po x_13 + Int.toNat n * 7) = some (Value.int IntKind.i64 x) ∧ rd w' (pb x_13) (po x_13 + Int.toNat n * 7 + 1) = some (Value.int IntKind.i64 x_16) ∧ rd w' (pb x_13) (po x_13 + Int.toNat n * 7 + 2) = some (Value.int IntKind.i64 x_17) ∧ rd w' (pb x_13) (po x_13 + Int.toNat n * 7 + 3) = some (Value.int IntKind.i64 x_18) ∧ rd w' (pb x_13) (po x_13 + Int.toNat n * 7 + 4) = some (Value.int IntKind.i64 x_19) ∧ rd w' (pb x_13) (po x_13 + Int.toNat n * 7 + 5) = some (Value.slice x_20 x_21 x_22) ∧ rd w' (pb x_13) (po x_13 + Int.toNat n * 7 + 6) = some (Value.slice x_23 x_24 x_25)) ∧ ∀ (w'_1 : World), w'_1 = World.alloc w' (Obj.cells #[Value.int IntKind.i64 0, Value.int IntKind.i64 0, Value.int IntKind.i64 0, Value.int IntKind.i64 0, Value.int IntKind.i64 0, Value.slice none 0 0, Value.slice none 0 0] 55) → (wr w'_1 (Array.size (World.heap w')) 0 ∧ wr w'_1 (Array.size (World.heap w')) 1 ∧ wr w'_1 (Array.size (World.heap w')) 2 ∧ wr w'_1 (Array.size (World.heap w')) 3 ∧ wr w'_1 (Array.size (World.heap w')) 4 ∧ wr w'_1 (Array.size (World.heap w')) 5 ∧ wr w'_1 (Array.size (World.heap w')) 6) ∧ ∀ (w'_2 : World), w'_2 = st (st (st (st (st (st (st w'_1 (Array.size (World.heap w')) 0 (Value.int IntKind.i64 x)) (Array.size (World.heap w')) 1 (Value.int IntKind.i64 x_16)) (Array.size (World.heap w')) 2 (Value.int IntKind.i64 x_17)) (Array.size (World.heap w')) 3 (Value.int IntKind.i64 x_18)) (Array.size (World.heap w')) 4 (Value.int IntKind.i64 x_19)) (Array.size (World.heap w')) 5 (Value.slice x_20 x_21 x_22)) (Array.size (World.heap w')) 6 (Value.slice x_23 x_24 x_25) → ∃ (x : Int), rd w'_2 (Array.size (World.heap w')) 2 = some (Value.int IntKind.i64 x) ∧ Calls Proofs.Tryz.prog 56 #[Value.int IntKind.i64 x, Value.int IntKind.i64 4, Value.pointer (some (Addr.mk kb 0 none))] w'_2 fun (e : Ending) (w'_3 : World) => e = Ending.returned (Value.tuple #[]) ∧ ∀ (w1 : World), w1 = World.drew w'_3 → ∃ (x : Option Addr), rd w1 kb 0 = some (Value.pointer x) ∧ Wif (isP x) (∃ (x_26 : Option Nat), rd w1 (pb x) (po x + 109) = some (Value.map x_26) ∧ ∃ (x : Int), rd w1 (Array.size (World.heap w')) 2 = some (Value.int IntKind.i64 x) ∧ ∃ (x_27 : Int), ∃ (x_28 : Int), ∃ (x_29 : Int), ∃ (x_30 : Int), ∃ (x_31 : Int), ∃ (x_32 : Option Addr), ∃ (x_33 : Nat), ∃ (x_34 : Nat), ∃ (x_35 : Option Addr), ∃ (x_36 : Nat), ∃ (x_37 : Nat), (rd w1 (Array.size (World.heap w')) 0 = some (Value.int IntKind.i64 x_27) ∧ rd w1 (Array.size (World.heap w')) 1 = some (Value.int IntKind.i64 x_28) ∧ rd w1 (Array.size (World.heap w')) 2 = some (Value.int IntKind.i64 x_29) ∧ rd w1 (Array.size (World.heap w')) 3 = some (Value.int IntKind.i64 x_30) ∧ rd w1 (Array.size (World.heap w')) 4 = some (Value.int IntKind.i64 x_31) ∧ rd w1 (Array.size (World.heap w')) 5 = some (Value.slice x_32 x_33 x_34) ∧ rd w1 (Array.size (World.heap w')) 6 = some (Value.slice x_35 x_36 x_37)) ∧ ∃ (w' : World), updIs Proofs.Tryz.prog 87 (Value.map x_26) (Value.int IntKind.i64 x) (Value.agg #[Value.int IntKind.i64 x_27, Value.int IntKind.i64 x_28, Value.int IntKind.i64 x_29, Value.int IntKind.i64 x_30, Value.int IntKind.i64 x_31, Value.slice x_32 x_33 x_34, Value.slice x_35 x_36 x_37]) w1 w' ∧ ∃ (m : Nat), Nat.succ m ≤ n_5 ∧ I (IntKind.wrap IntKind.i64 (n + 1)) w' m) False) False) False) (K (Value.tuple #[]) w')) False)) False) := by
  have hPk : ∀ {w1 : World} {Z : Nat → Prop} {A : List (Int × Int)} {O L Q : List (Int × Value)}, Ct w0 TB om sm pm n w1 Z A O L Q → Kept none' wP w1 := fun c => own0 kP c.ke fun b hb => by omega
  have hne := lk.ne
  have hmm := lk.lt.2
  have hlen := hP.frames.len
  have hlm := hP.frames.lt63
  refine ⟨some ⟨k, 0, none⟩, lk.rb c, Wif_yes rfl ⟨S.a 6, S.l 6, S.c 6, lk.rd c (lk.sl 6 (by decide)), fun m w' M => ∃ (q : Nat) (O : List (Int × Value)), m = (q : Int) ∧ q ≤ x.frames.length ∧ M = x.frames.length - q ∧ Ct w0 TB om sm pm n w' Z (A ++ pageA (x.frames.take q)) O [] Q ∧ OwnM O (x.frames.take q) ∧ Books wP w0 w' Z Q x.procs, ⟨x.frames.length, 0, [], rfl, by omega, rfl, by simpa [pageA] using c, fun f => rfl, hB⟩, ?_⟩⟩
  rintro _ w1 _ ⟨q, O, rfl, hq, rfl, c1, hL, hB1⟩
  refine Wif_intro (fun hc => ?_) (fun hc => ?_)
  · have hql : q < x.frames.length := by simp at hc; omega
    obtain ⟨s, hs⟩ : ∃ s, x.frames[q]? = some s := ⟨x.frames[q], List.getElem?_eq_getElem hql⟩
    obtain ⟨cs, _, hR, hr⟩ := hP.frames.el q s hs
    obtain rfl : cs = [vi s.n, vi s.pid, vi s.page] := hR
    have hr : ∀ (j : Nat) (u : Value), _ → rd w1 (pb (S.a 6)) (po (S.a 6) + q * 3 + j) = some u := fun j u hu => (hPk c1).rd_some (hr j u hu) id
    refine Wif_yes (hP.frames.isp (by omega)) (Wif_yes (inB_of (by omega) (by omega)) ?_)
    rw [Int.toNat_natCast]
    refine ⟨_, _, _, ⟨hr 0 _ rfl, hr 1 _ rfl, hr 2 _ rfl⟩, ?_⟩
    intro w2 e2
    have o2 := own_alloc (c := [vi 0, vi 0, vi 0]) e2
    have k2 : Kept none' w1 w2 := (Kept.refl _ _).al e2
    have c2 := c1.al k2 e2
    have hge : w0.heap.size ≤ w1.heap.size := c1.ke.sz
    refine ⟨⟨o2.wr (by decide), o2.wr (by decide), o2.wr (by decide)⟩, ?_⟩
    intro w3 e3
    have o3 : own w3 w1.heap.size [vi s.n, vi s.pid, vi s.page] := by
      rw [e3]; exact ((o2.st_same).st_same).st_same
    have k3 : Kept (· = w1.heap.size) w2 w3 := by
      rw [e3]; exact (((Kept.refl (· = w1.heap.size) w2).st (.inl rfl)).st (.inl rfl)).st (.inl rfl)
    have c3 := c2.kz k3 (fun b hb => ⟨.inr hb, by omega⟩) hmm
    have hB3 := (hB1.kx k2 fun b h => h.elim).kx k3 fun b hb hz => by
      have := c1.th.lt b hz; omega
    have hfm : (s.n, (3 : Int)) ∈ pageA x.frames := List.mem_map.2 ⟨s, List.mem_of_getElem? hs, rfl⟩
    have hfr := hin _ hfm
    dsimp only at hfr
    have e1 := take_snoc hs
    have e4 : pageA (x.frames.take (q + 1)) = pageA (x.frames.take q) ++ [(s.n, 3)] := by rw [e1]; simp [pageA]
    have hl1 : (pageA (x.frames.take q)).length ≤ (pageA x.frames).length := by simp [pageA]; omega
    refine ⟨s.n, by rw [o3.rd]; rfl, (lk.add c3 hfr (by rw [List.length_append]; omega)).mono ?_⟩
    rintro _ w4 ⟨rfl, c4, k4⟩
    refine ⟨rfl, ?_⟩
    intro w5 e5
    have k45 : Kept none' w4 w5 := (Kept.refl _ _).dr e5
    have c5 := c4.k k45
    have o5 := (o3.kx k4 fun h => h (.inr rfl)).k k45
    refine ⟨some ⟨k, 0, none⟩, lk.rb c5, Wif_yes rfl ⟨some om, lk.rd c5 lk.ow, s.n, by rw [o5.rd]; rfl, _, _, _, ⟨by rw [o5.rd]; rfl, by rw [o5.rd]; rfl, by rw [o5.rd]; rfl⟩, ?_⟩⟩
    obtain ⟨w6, M', hu, hM', hlk, _, k6⟩ := upd_any (P := Tryz.prog) (mt := 86) (vt := 63) (kt := 3) rfl rfl c5.om s.n (ownV s) (by omega)
    have hlt := lk.lt
    refine ⟨w6, hu, x.frames.length - (q + 1), by omega, q + 1, M', by rw [wi (by omega)]; rfl, by omega, rfl, ?_, fun f => ?_, ?_⟩
    · have c6 : Ct w0 TB om sm pm n w6 (fun b => Z b ∨ b = w1.heap.size) (A ++ pageA (x.frames.take q) ++ [(s.n, 3)]) M' [] Q :=
        ⟨c5.ke.trans k6 fun b hb hx => by subst hx; simp, c5.th.kx k6 fun b _ hx => by subst hx; exact c5.zz _ hmm.1 (by omega), c5.zz, hM', c5.sm.kx k6 (by omega), c5.pm.kx k6 (by omega)⟩
      rw [e4, ← List.append_assoc]
      exact c6.weak (fun b hb => .inl hb) c1.zz
    · rw [hlk, e1, lastO_snoc]
      split
      · rfl
      · exact hL f
    · have k46 : Kept (fun b => ¬ (Z b ∨ b = w1.heap.size) ∨ b = om) w3 w6 := ((k4.mono fun b _ hb => .inl hb).trans (X := fun b => ¬ (Z b ∨ b = w1.heap.size) ∨ b = om) k45 fun b _ h => h.elim).trans k6 fun b _ h => .inr h
      exact hB3.kx k46 fun b hb hz hge => by
        rcases hb with hb | hb
        · exact hb (.inl hz)
        · omega
  · have hql : q = x.frames.length := by simp at hc; omega
    subst hql
    rw [List.take_length] at c1 hL
    exact slabs_tail lk hP kP hnew hinS hbig (by rw [List.length_append]; omega) hnd hB1 c1 fun w2 Z2 L2 c2 hs2 hb2 => hK w2 Z2 O L2 c2 hL hs2 hb2
end
end Go.Proofs.YtikjgeenhbnkkaaGreatDoor
